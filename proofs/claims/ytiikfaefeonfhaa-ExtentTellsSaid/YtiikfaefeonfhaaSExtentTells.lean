/- The one pure statement of the law ExtentTells, over what the printed walk computes; no condition. -/
import Derived.Test.YtiikfaefeonfhaaGExtentTells
namespace Go.Proofs.Ytiikfaefeonfhaa.S
open Go Go.RowKit Go.Proofs.Ytiikfaefeonfhaa.Sx Go.Proofs.Ytiikfaefeonfhaa.G
def ExtentTells : Prop := ∀ (l0 : List (Int × Int)) (a1 : (Int × Int)) (a2 : Int), l0.length * 16 ≤ 140737488351232 → (∀ x ∈ l0, (Lit.int .i64 x.1).wf = true ∧ (Lit.int .i64 x.2).wf = true) → (Lit.int .i64 a1.1).wf = true ∧ (Lit.int .i64 a1.2).wf = true → (Lit.int .i64 a2).wf = true → ∃ k, shadowboxlaw09_ExtentTells.f k l0 a1 a2 = some true
end Go.Proofs.Ytiikfaefeonfhaa.S
