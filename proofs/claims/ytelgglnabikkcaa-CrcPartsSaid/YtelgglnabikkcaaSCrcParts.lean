/- The one pure statement of the law CrcParts, over what the printed walk computes; no condition. -/
import Derived.Test.YtelgglnabikkcaaGCrcParts
namespace Go.Proofs.Ytelgglnabikkcaa.S
open Go Go.RowKit Go.Proofs.Ytelgglnabikkcaa.Sx Go.Proofs.Ytelgglnabikkcaa.G
def CrcParts : Prop := ∀ (l0 : List Int) (l1 : List Int), l0.length * 1 ≤ 140737488351232 → (∀ x ∈ l0, (Lit.int .u8 x).wf = true) → l1.length * 1 ≤ 140737488351232 → (∀ x ∈ l1, (Lit.int .u8 x).wf = true) → ∃ k, shadowboxlaw02_CrcParts.f k l0 l1 = some true
end Go.Proofs.Ytelgglnabikkcaa.S
