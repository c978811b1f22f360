/- The one pure statement of the law CrcTurns, over what the printed walk computes; no condition. -/
import Derived.Test.YtelgglnabikkcaaGCrcTurns
namespace Go.Proofs.Ytelgglnabikkcaa.S
open Go Go.RowKit Go.Proofs.Ytelgglnabikkcaa.Sx Go.Proofs.Ytelgglnabikkcaa.G
def CrcTurns : Prop := ∀ (l0 : List Int) (a1 : Int) (a2 : Int), l0.length * 1 ≤ 140737488351232 → (∀ x ∈ l0, (Lit.int .u8 x).wf = true) → (Lit.int .i64 a1).wf = true → (Lit.int .u32 a2).wf = true → ∃ k, shadowboxlaw02_CrcTurns.f k l0 a1 a2 = some true
end Go.Proofs.Ytelgglnabikkcaa.S
