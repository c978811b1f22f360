/- The one pure statement of the law PointerChecks, over what the printed walk computes; no condition. -/
import Derived.Test.YtnjijflgafghmaaGPointerChecks
namespace Go.Proofs.Ytnjijflgafghmaa.S
open Go Go.RowKit Go.Proofs.Ytnjijflgafghmaa.Sx Go.Proofs.Ytnjijflgafghmaa.G
def PointerChecks : Prop := ∀ (a0 : (Int × Int × Int × Int × (Vc Int 32))) (a1 : Int) (l2 : List Int), (Lit.int .i64 a0.1).wf = true ∧ (Lit.int .i64 a0.2.1).wf = true ∧ (Lit.int .i64 a0.2.2.1).wf = true ∧ (Lit.int .u32 a0.2.2.2.1).wf = true ∧ (∀ x ∈ a0.2.2.2.2.1, (Lit.int .u8 x).wf = true) → (Lit.int .i64 a1).wf = true → l2.length * 1 ≤ 140737488351232 → (∀ x ∈ l2, (Lit.int .u8 x).wf = true) → ∃ k, shadowboxlaw06_PointerChecks.f k a0 a1 l2 = some true
end Go.Proofs.Ytnjijflgafghmaa.S
