/- The one pure statement of the law RecordOrder, over what the printed walk computes; no condition. -/
import Derived.Test.YthhhkphbhlafbaaGRecordOrder
namespace Go.Proofs.Ythhhkphbhlafbaa.S
open Go Go.RowKit Go.Proofs.Ythhhkphbhlafbaa.Sx Go.Proofs.Ythhhkphbhlafbaa.G
def RecordOrder : Prop := ∀ (a0 : ByteArray) (a1 : ByteArray) (a2 : (Vc Int 2)), a0.size ≤ 140737488351232 → a1.size ≤ 140737488351232 → (∀ x ∈ a2.1, (Lit.int .i64 x).wf = true) → ∃ k, shadowboxlaw36_RecordOrder.f k a0 a1 a2 = some true
end Go.Proofs.Ythhhkphbhlafbaa.S
