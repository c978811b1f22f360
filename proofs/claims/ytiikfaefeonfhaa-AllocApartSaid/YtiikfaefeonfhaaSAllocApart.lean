/- The one pure statement of the law AllocApart, over what the printed walk computes; no condition. -/
import Derived.Test.YtiikfaefeonfhaaGAllocApart
namespace Go.Proofs.Ytiikfaefeonfhaa.S
open Go Go.RowKit Go.Proofs.Ytiikfaefeonfhaa.Sx Go.Proofs.Ytiikfaefeonfhaa.G
def AllocApart : Prop := ∀ (a0 : Int) (l1 : List Int), (Lit.int .i64 a0).wf = true → l1.length * 8 ≤ 140737488351232 → (∀ x ∈ l1, (Lit.int .i64 x).wf = true) → ∃ k, shadowboxlaw10_AllocApart.f k a0 l1 = some true
end Go.Proofs.Ytiikfaefeonfhaa.S
