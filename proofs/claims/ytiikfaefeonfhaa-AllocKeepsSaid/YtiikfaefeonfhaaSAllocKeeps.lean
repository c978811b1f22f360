/- The one pure statement of the law AllocKeeps, over what the printed walk computes; no condition. -/
import Derived.Test.YtiikfaefeonfhaaGAllocKeeps
namespace Go.Proofs.Ytiikfaefeonfhaa.S
open Go Go.RowKit Go.Proofs.Ytiikfaefeonfhaa.Sx Go.Proofs.Ytiikfaefeonfhaa.G
def AllocKeeps : Prop := ∀ (a0 : Int) (a1 : Int), (Lit.int .i64 a0).wf = true → (Lit.int .i64 a1).wf = true → ∃ k, shadowboxlaw10_AllocKeeps.f k a0 a1 = some true
end Go.Proofs.Ytiikfaefeonfhaa.S
