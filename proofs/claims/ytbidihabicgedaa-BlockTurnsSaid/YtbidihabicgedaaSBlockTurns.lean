/- The one pure statement of the law BlockTurns, over what the printed walk computes; no condition. -/
import Derived.Test.YtbidihabicgedaaGBlockTurns
namespace Go.Proofs.Ytbidihabicgedaa.S
open Go Go.RowKit Go.Proofs.Ytbidihabicgedaa.Sx Go.Proofs.Ytbidihabicgedaa.G
def BlockTurns : Prop := ∀ (l0 : List Int) (a1 : Int) (a2 : Int), l0.length * 1 ≤ 140737488351232 → (∀ x ∈ l0, (Lit.int .u8 x).wf = true) → (Lit.int .i64 a1).wf = true → (Lit.int .u32 a2).wf = true → ∃ k, shadowboxlaw07_BlockTurns.f k l0 a1 a2 = some true
end Go.Proofs.Ytbidihabicgedaa.S
