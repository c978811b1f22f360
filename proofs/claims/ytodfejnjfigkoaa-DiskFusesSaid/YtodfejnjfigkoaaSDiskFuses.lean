/- The one pure statement of the law DiskFuses, over what the printed walk computes; no condition. -/
import Derived.Test.YtodfejnjfigkoaaGDiskFuses
namespace Go.Proofs.Ytodfejnjfigkoaa.S
open Go Go.RowKit Go.Proofs.Ytodfejnjfigkoaa.Sx Go.Proofs.Ytodfejnjfigkoaa.G
def DiskFuses : Prop := ∀ (a0 : Int) (a1 : Int), (Lit.int .i64 a0).wf = true → (Lit.int .i64 a1).wf = true → ∃ k, shadowboxlaw05_DiskFuses.f k a0 a1 = some true
end Go.Proofs.Ytodfejnjfigkoaa.S
