/- The one pure statement of the law RecordBack, over what the printed walk computes; no condition. -/
import Derived.Test.YthhhkphbhlafbaaGRecordBack
namespace Go.Proofs.Ythhhkphbhlafbaa.S
open Go Go.RowKit Go.Proofs.Ythhhkphbhlafbaa.Sx Go.Proofs.Ythhhkphbhlafbaa.G
def RecordBack : Prop := ∀ (a0 : (Int × Int × Int × Int × ByteArray × ByteArray × (List (ByteArray × ByteArray)))) (a1 : ByteArray), (Lit.int .i64 a0.1).wf = true ∧ (Lit.int .i64 a0.2.1).wf = true ∧ (Lit.int .i64 a0.2.2.1).wf = true ∧ (Lit.int .i64 a0.2.2.2.1).wf = true ∧ a0.2.2.2.2.1.size ≤ maxLen ∧ a0.2.2.2.2.2.1.size ≤ maxLen ∧ ((a0.2.2.2.2.2.2.length ≤ maxLen ∧ ∀ y ∈ a0.2.2.2.2.2.2, y.1.size ≤ maxLen ∧ y.2.size ≤ maxLen)) → a1.size ≤ 140737488351232 → ∃ k, shadowboxlaw36_RecordBack.f k a0 a1 = some true
end Go.Proofs.Ythhhkphbhlafbaa.S
