/- The one pure statement of the law LabelTells, over what the printed walk computes; no condition. -/
import Derived.Test.YtnjijflgafghmaaGLabelTells
namespace Go.Proofs.Ytnjijflgafghmaa.S
open Go Go.RowKit Go.Proofs.Ytnjijflgafghmaa.Sx Go.Proofs.Ytnjijflgafghmaa.G
def LabelTells : Prop := ∀ (a0 : (Int × (Int × Int × Int × Int × (Vc Int 32)) × Int)) (l1 : List Int), (Lit.int .i64 a0.1).wf = true ∧ (((Lit.int .i64 a0.2.1.1).wf = true ∧ (Lit.int .i64 a0.2.1.2.1).wf = true ∧ (Lit.int .i64 a0.2.1.2.2.1).wf = true ∧ (Lit.int .u32 a0.2.1.2.2.2.1).wf = true ∧ (∀ x ∈ a0.2.1.2.2.2.2.1, (Lit.int .u8 x).wf = true))) ∧ (Lit.int .i64 a0.2.2).wf = true → l1.length * 1 ≤ 140737488351232 → (∀ x ∈ l1, (Lit.int .u8 x).wf = true) → ∃ k, shadowboxlaw08_LabelTells.f k a0 l1 = some true
end Go.Proofs.Ytnjijflgafghmaa.S
