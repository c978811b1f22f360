/- The one pure statement of the law AllocMarks, over what the printed walk computes; no condition. -/
import Derived.Test.YtiikfaefeonfhaaGAllocMarks
namespace Go.Proofs.Ytiikfaefeonfhaa.S
open Go Go.RowKit Go.Proofs.Ytiikfaefeonfhaa.Sx Go.Proofs.Ytiikfaefeonfhaa.G
def AllocMarks : Prop := ∀ (a0 : Int) (l1 : List Int) (l2 : List Int), (Lit.int .i64 a0).wf = true → l1.length * 8 ≤ 140737488351232 → (∀ x ∈ l1, (Lit.int .i64 x).wf = true) → l2.length * 8 ≤ 140737488351232 → (∀ x ∈ l2, (Lit.int .i64 x).wf = true) → ∃ k, shadowboxlaw10_AllocMarks.f k a0 l1 l2 = some true
end Go.Proofs.Ytiikfaefeonfhaa.S
