/- The one pure statement of the law ShaParts, over what the printed walk computes; no condition. -/
import Derived.Test.YtelgglnabikkcaaGShaParts
namespace Go.Proofs.Ytelgglnabikkcaa.S
open Go Go.RowKit Go.Proofs.Ytelgglnabikkcaa.Sx Go.Proofs.Ytelgglnabikkcaa.G
def ShaParts : Prop := ∀ (l0 : List Int), l0.length * 1 ≤ 140737488351232 → (∀ x ∈ l0, (Lit.int .u8 x).wf = true) → ∃ k, shadowboxlaw03_ShaParts.f k l0 = some true
end Go.Proofs.Ytelgglnabikkcaa.S
