/- The one pure statement of the law PartLeast, over what the printed walk computes; no condition. -/
import Derived.Test.YtnkcadofhhcfaaaGPartLeast
namespace Go.Proofs.Ytnkcadofhhcfaaa.S
open Go Go.RowKit Go.Proofs.Ytnkcadofhhcfaaa.Sx Go.Proofs.Ytnkcadofhhcfaaa.G
def PartLeast : Prop := ∀ (l0 : List Int) (a1 : Int), l0.length * 8 ≤ 140737488351232 → (∀ x ∈ l0, (Lit.int .i64 x).wf = true) → (Lit.int .i64 a1).wf = true → ∃ k, shadowboxlaw17_PartLeast.f k l0 a1 = some true
end Go.Proofs.Ytnkcadofhhcfaaa.S
