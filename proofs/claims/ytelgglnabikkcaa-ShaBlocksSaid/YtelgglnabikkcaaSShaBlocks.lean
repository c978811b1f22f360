/- The one pure statement of the law ShaBlocks, over what the printed walk computes; no condition. -/
import Derived.Test.YtelgglnabikkcaaGShaBlocks
namespace Go.Proofs.Ytelgglnabikkcaa.S
open Go Go.RowKit Go.Proofs.Ytelgglnabikkcaa.Sx Go.Proofs.Ytelgglnabikkcaa.G
def ShaBlocks : Prop := ∀ (a0 : ((Vc Int 8) × Int)) (a1 : (Vc Int 64)) (l2 : List Int), (∀ x ∈ a0.1.1, (Lit.int .u32 x).wf = true) ∧ (Lit.int .u64 a0.2).wf = true → (∀ x ∈ a1.1, (Lit.int .u8 x).wf = true) → l2.length * 1 ≤ 140737488351232 → (∀ x ∈ l2, (Lit.int .u8 x).wf = true) → ∃ k, shadowboxlaw03_ShaBlocks.f k a0 a1 l2 = some true
end Go.Proofs.Ytelgglnabikkcaa.S
