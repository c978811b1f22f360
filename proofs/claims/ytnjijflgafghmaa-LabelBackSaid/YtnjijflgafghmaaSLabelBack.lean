/- The one pure statement of the law LabelBack, over what the printed walk computes; no condition. -/
import Derived.Test.YtnjijflgafghmaaGLabelBack
namespace Go.Proofs.Ytnjijflgafghmaa.S
open Go Go.RowKit Go.Proofs.Ytnjijflgafghmaa.Sx Go.Proofs.Ytnjijflgafghmaa.G
def LabelBack : Prop := ∀ (a0 : (Int × (Int × Int × Int × Int × (Vc Int 32)) × Int)) (a1 : Int) (a2 : Int), (Lit.int .i64 a0.1).wf = true ∧ (((Lit.int .i64 a0.2.1.1).wf = true ∧ (Lit.int .i64 a0.2.1.2.1).wf = true ∧ (Lit.int .i64 a0.2.1.2.2.1).wf = true ∧ (Lit.int .u32 a0.2.1.2.2.2.1).wf = true ∧ (∀ x ∈ a0.2.1.2.2.2.2.1, (Lit.int .u8 x).wf = true))) ∧ (Lit.int .i64 a0.2.2).wf = true → (Lit.int .i64 a1).wf = true → (Lit.int .u32 a2).wf = true → ∃ k, shadowboxlaw08_LabelBack.f k a0 a1 a2 = some true
end Go.Proofs.Ytnjijflgafghmaa.S
