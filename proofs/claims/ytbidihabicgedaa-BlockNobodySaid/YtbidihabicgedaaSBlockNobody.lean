/- The one pure statement of the law BlockNobody, over what the printed walk computes; no condition. -/
import Derived.Test.YtbidihabicgedaaGBlockNobody
namespace Go.Proofs.Ytbidihabicgedaa.S
open Go Go.RowKit Go.Proofs.Ytbidihabicgedaa.Sx Go.Proofs.Ytbidihabicgedaa.G
def BlockNobody : Prop := ∀ (a0 : (Int × Int × Int × Int × (Vc Int 32))) (l1 : List Int), (Lit.int .i64 a0.1).wf = true ∧ (Lit.int .i64 a0.2.1).wf = true ∧ (Lit.int .i64 a0.2.2.1).wf = true ∧ (Lit.int .u32 a0.2.2.2.1).wf = true ∧ (∀ z ∈ a0.2.2.2.2.1, (Lit.int .u8 z).wf = true) → l1.length * 1 ≤ 140737488351232 → (∀ x ∈ l1, (Lit.int .u8 x).wf = true) → ∃ k, shadowboxlaw07_BlockNobody.f k a0 l1 = some true
end Go.Proofs.Ytbidihabicgedaa.S
