/- The one pure statement of the law HmacZeros, over what the printed walk computes; no condition. -/
import Derived.Test.YtnkcadofhhcfaaaGHmacZeros
namespace Go.Proofs.Ytnkcadofhhcfaaa.S
open Go Go.RowKit Go.Proofs.Ytnkcadofhhcfaaa.Sx Go.Proofs.Ytnkcadofhhcfaaa.G
def HmacZeros : Prop := ∀ (l0 : List Int) (a1 : Int) (l2 : List Int), l0.length * 1 ≤ 140737488351232 → (∀ x ∈ l0, (Lit.int .u8 x).wf = true) → (Lit.int .i64 a1).wf = true → l2.length * 1 ≤ 140737488351232 → (∀ x ∈ l2, (Lit.int .u8 x).wf = true) → ∃ k, shadowboxlaw12_HmacZeros.f k l0 a1 l2 = some true
end Go.Proofs.Ytnkcadofhhcfaaa.S
