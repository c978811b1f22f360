/- The one pure statement of the law LabelChooses, over what the printed walk computes; no condition. -/
import Derived.Test.YtnjijflgafghmaaGLabelChooses
namespace Go.Proofs.Ytnjijflgafghmaa.S
open Go Go.RowKit Go.Proofs.Ytnjijflgafghmaa.Sx Go.Proofs.Ytnjijflgafghmaa.G
def LabelChooses : Prop := ∀ (l0 : List Int) (l1 : List Int), l0.length * 1 ≤ 140737488351232 → (∀ x ∈ l0, (Lit.int .u8 x).wf = true) → l1.length * 1 ≤ 140737488351232 → (∀ x ∈ l1, (Lit.int .u8 x).wf = true) → ∃ k, shadowboxlaw08_LabelChooses.f k l0 l1 = some true
end Go.Proofs.Ytnjijflgafghmaa.S
