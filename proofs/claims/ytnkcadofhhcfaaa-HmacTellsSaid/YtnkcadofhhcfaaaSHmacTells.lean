/- The one pure statement of the law HmacTells, over what the printed walk computes; no condition. -/
import Derived.Test.YtnkcadofhhcfaaaGHmacTells
namespace Go.Proofs.Ytnkcadofhhcfaaa.S
open Go Go.RowKit Go.Proofs.Ytnkcadofhhcfaaa.Sx Go.Proofs.Ytnkcadofhhcfaaa.G
def HmacTells : Prop := ∀ (l0 : List Int) (l1 : List Int), l0.length * 1 ≤ 140737488351232 → (∀ x ∈ l0, (Lit.int .u8 x).wf = true) → l1.length * 1 ≤ 140737488351232 → (∀ x ∈ l1, (Lit.int .u8 x).wf = true) → ∃ k, shadowboxlaw12_HmacTells.f k l0 l1 = some true
end Go.Proofs.Ytnkcadofhhcfaaa.S
