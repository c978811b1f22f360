/- The one pure statement of the law RecordBytes, over what the printed walk computes; no condition. -/
import Derived.Test.YthhhkphbhlafbaaGRecordBytes
namespace Go.Proofs.Ythhhkphbhlafbaa.S
open Go Go.RowKit Go.Proofs.Ythhhkphbhlafbaa.Sx Go.Proofs.Ythhhkphbhlafbaa.G
def RecordBytes : Prop := ∀ (a0 : (Int × Int × Int × Int × ByteArray × ByteArray × (List (ByteArray × ByteArray)))) (l1 : List Int), (Lit.int .i64 a0.1).wf = true ∧ (Lit.int .i64 a0.2.1).wf = true ∧ (Lit.int .i64 a0.2.2.1).wf = true ∧ (Lit.int .i64 a0.2.2.2.1).wf = true ∧ a0.2.2.2.2.1.size ≤ maxLen ∧ a0.2.2.2.2.2.1.size ≤ maxLen ∧ ((a0.2.2.2.2.2.2.length ≤ maxLen ∧ ∀ y ∈ a0.2.2.2.2.2.2, y.1.size ≤ maxLen ∧ y.2.size ≤ maxLen)) → l1.length * 1 ≤ 140737488351232 → (∀ x ∈ l1, (Lit.int .u8 x).wf = true) → ∃ k, shadowboxlaw36_RecordBytes.f k a0 l1 = some true
end Go.Proofs.Ythhhkphbhlafbaa.S
