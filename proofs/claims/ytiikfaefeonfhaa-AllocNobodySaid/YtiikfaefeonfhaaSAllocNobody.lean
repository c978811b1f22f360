/- The one pure statement of the law AllocNobody, over what the printed walk computes; no condition. -/
import Derived.Test.YtiikfaefeonfhaaGAllocNobody
namespace Go.Proofs.Ytiikfaefeonfhaa.S
open Go Go.RowKit Go.Proofs.Ytiikfaefeonfhaa.Sx Go.Proofs.Ytiikfaefeonfhaa.G
def AllocNobody : Prop := ∀ (a0 : Int) (a1 : (Int × Int)), (Lit.int .i64 a0).wf = true → (Lit.int .i64 a1.1).wf = true ∧ (Lit.int .i64 a1.2).wf = true → ∃ k, shadowboxlaw10_AllocNobody.f k a0 a1 = some true
end Go.Proofs.Ytiikfaefeonfhaa.S
