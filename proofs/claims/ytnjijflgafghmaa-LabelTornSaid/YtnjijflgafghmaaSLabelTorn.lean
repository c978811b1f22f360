/- The one pure statement of the law LabelTorn, over what the printed walk computes; no condition. -/
import Derived.Test.YtnjijflgafghmaaGLabelTorn
namespace Go.Proofs.Ytnjijflgafghmaa.S
open Go Go.RowKit Go.Proofs.Ytnjijflgafghmaa.Sx Go.Proofs.Ytnjijflgafghmaa.G
def LabelTorn : Prop := ∀ (a0 : Int) (a1 : (Vc Int 2)) (a2 : Int), (Lit.int .i64 a0).wf = true → (∀ x ∈ a1.1, (Lit.int .i64 x).wf = true) → (Lit.int .i64 a2).wf = true → ∃ k, shadowboxlaw08_LabelTorn.f k a0 a1 a2 = some true
end Go.Proofs.Ytnjijflgafghmaa.S
