/- The one pure statement of the law PartFull, over what the printed walk computes; no condition. -/
import Derived.Test.YtnkcadofhhcfaaaGPartFull
namespace Go.Proofs.Ytnkcadofhhcfaaa.S
open Go Go.RowKit Go.Proofs.Ytnkcadofhhcfaaa.Sx Go.Proofs.Ytnkcadofhhcfaaa.G
def PartFull : Prop := ∀ (l0 : List Int) (a1 : Int), l0.length * 8 ≤ 140737488351232 → (∀ x ∈ l0, (Lit.int .i64 x).wf = true) → (Lit.int .i64 a1).wf = true → ∃ k, shadowboxlaw17_PartFull.f k l0 a1 = some true
end Go.Proofs.Ytnkcadofhhcfaaa.S
