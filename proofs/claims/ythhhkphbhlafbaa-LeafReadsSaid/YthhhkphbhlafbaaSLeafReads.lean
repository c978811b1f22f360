/- The one pure statement of the law LeafReads, over what the printed walk computes; no condition. -/
import Derived.Test.YthhhkphbhlafbaaGLeafReads
namespace Go.Proofs.Ythhhkphbhlafbaa.S
open Go Go.RowKit Go.Proofs.Ythhhkphbhlafbaa.Sx Go.Proofs.Ythhhkphbhlafbaa.G
def LeafReads : Prop := ∀ (l0 : List Int), l0.length * 1 ≤ 140737488351232 → (∀ x ∈ l0, (Lit.int .u8 x).wf = true) → ∃ k, shadowboxlaw16_LeafReads.f k l0 = some true
end Go.Proofs.Ythhhkphbhlafbaa.S
