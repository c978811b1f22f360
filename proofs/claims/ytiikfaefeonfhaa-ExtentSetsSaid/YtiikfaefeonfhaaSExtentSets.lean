/- The one pure statement of the law ExtentSets, over what the printed walk computes; no condition. -/
import Derived.Test.YtiikfaefeonfhaaGExtentSets
namespace Go.Proofs.Ytiikfaefeonfhaa.S
open Go Go.RowKit Go.Proofs.Ytiikfaefeonfhaa.Sx Go.Proofs.Ytiikfaefeonfhaa.G
def ExtentSets : Prop := ∀ (l0 : List (Vc Int 3)), l0.length * 24 ≤ 140737488351232 → (∀ x ∈ l0, (∀ z ∈ x.1, (Lit.int .i64 z).wf = true)) → ∃ k, shadowboxlaw09_ExtentSets.f k l0 = some true
end Go.Proofs.Ytiikfaefeonfhaa.S
