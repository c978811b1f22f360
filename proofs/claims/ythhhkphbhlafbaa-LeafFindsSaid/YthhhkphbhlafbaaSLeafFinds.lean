/- The one pure statement of the law LeafFinds, over what the printed walk computes; no condition. -/
import Derived.Test.YthhhkphbhlafbaaGLeafFinds
namespace Go.Proofs.Ythhhkphbhlafbaa.S
open Go Go.RowKit Go.Proofs.Ythhhkphbhlafbaa.Sx Go.Proofs.Ythhhkphbhlafbaa.G
def LeafFinds : Prop := ∀ (l0 : List (List Int)) (l1 : List Int), l0.length * 24 ≤ 140737488351232 → (∀ x ∈ l0, x.length ≤ maxLen ∧ ∀ y ∈ x, (Lit.int .u8 y).wf = true) → l1.length * 1 ≤ 140737488351232 → (∀ x ∈ l1, (Lit.int .u8 x).wf = true) → ∃ k, shadowboxlaw16_LeafFinds.f k l0 l1 = some true
end Go.Proofs.Ythhhkphbhlafbaa.S
