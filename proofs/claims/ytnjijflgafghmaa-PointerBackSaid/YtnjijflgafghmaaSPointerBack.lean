/- The one pure statement of the law PointerBack, over what the printed walk computes; no condition. -/
import Derived.Test.YtnjijflgafghmaaGPointerBack
namespace Go.Proofs.Ytnjijflgafghmaa.S
open Go Go.RowKit Go.Proofs.Ytnjijflgafghmaa.Sx Go.Proofs.Ytnjijflgafghmaa.G
def PointerBack : Prop := ∀ (a0 : Int) (a1 : Int) (l2 : List Int), (Lit.int .i64 a0).wf = true → (Lit.int .i64 a1).wf = true → l2.length * 1 ≤ 140737488351232 → (∀ x ∈ l2, (Lit.int .u8 x).wf = true) → ∃ k, shadowboxlaw06_PointerBack.f k a0 a1 l2 = some true
end Go.Proofs.Ytnjijflgafghmaa.S
