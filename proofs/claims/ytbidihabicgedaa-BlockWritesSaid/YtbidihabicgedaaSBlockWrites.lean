/- The one pure statement of the law BlockWrites, over what the printed walk computes; no condition. -/
import Derived.Test.YtbidihabicgedaaGBlockWrites
namespace Go.Proofs.Ytbidihabicgedaa.S
open Go Go.RowKit Go.Proofs.Ytbidihabicgedaa.Sx Go.Proofs.Ytbidihabicgedaa.G
def BlockWrites : Prop := ∀ (a0 : Int) (a1 : (Vc Int 2)) (l2 : List Int), (Lit.int .i64 a0).wf = true → (∀ z ∈ a1.1, (Lit.int .i64 z).wf = true) → l2.length * 1 ≤ 140737488351232 → (∀ x ∈ l2, (Lit.int .u8 x).wf = true) → ∃ k, shadowboxlaw07_BlockWrites.f k a0 a1 l2 = some true
end Go.Proofs.Ytbidihabicgedaa.S
