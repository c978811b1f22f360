/- The one pure statement of the law DiskLasts, over what the printed walk computes; no condition. -/
import Derived.Test.YtodfejnjfigkoaaGDiskLasts
namespace Go.Proofs.Ytodfejnjfigkoaa.S
open Go Go.RowKit Go.Proofs.Ytodfejnjfigkoaa.Sx Go.Proofs.Ytodfejnjfigkoaa.G
def DiskLasts : Prop := ∀ (l0 : List (Vc Int 2)) (l1 : List Int) (a2 : Int), l0.length * 2 ≤ 140737488351232 → (∀ x ∈ l0, (∀ z ∈ x.1, (Lit.int .u8 z).wf = true)) → l1.length * 8 ≤ 140737488351232 → (∀ x ∈ l1, (Lit.int .i64 x).wf = true) → (Lit.int .i64 a2).wf = true → ∃ k, shadowboxlaw05_DiskLasts.f k l0 l1 a2 = some true
end Go.Proofs.Ytodfejnjfigkoaa.S
