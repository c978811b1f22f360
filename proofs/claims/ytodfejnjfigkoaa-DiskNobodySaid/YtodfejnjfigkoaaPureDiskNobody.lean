/- The pure statement of DiskNobody; no condition. -/
import Derived.Test.YtodfejnjfigkoaaSDiskNobody
set_option maxRecDepth 100000
namespace Go.Proofs.Ytodfejnjfigkoaa.Pure
open Go Go.RowKit Go.Proofs.Ytodfejnjfigkoaa.Sx Go.Proofs.Ytodfejnjfigkoaa.G
theorem DiskNobody : S.DiskNobody := fun _ _ _ _ _ => ⟨100, rfl⟩
end Go.Proofs.Ytodfejnjfigkoaa.Pure
