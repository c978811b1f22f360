/- The one pure statement of the law DiskNobody, over what the printed walk computes; no condition. -/
import Derived.Test.YtodfejnjfigkoaaGDiskNobody
namespace Go.Proofs.Ytodfejnjfigkoaa.S
open Go Go.RowKit Go.Proofs.Ytodfejnjfigkoaa.Sx Go.Proofs.Ytodfejnjfigkoaa.G
def DiskNobody : Prop := ∀ (a0 : Int) (l1 : List Int), (Lit.int .i64 a0).wf = true → l1.length * 1 ≤ 140737488351232 → (∀ x ∈ l1, (Lit.int .u8 x).wf = true) → ∃ k, shadowboxlaw05_DiskNobody.f k a0 l1 = some true
end Go.Proofs.Ytodfejnjfigkoaa.S
