/- The pure statement of PointerTells; no condition. -/
import Derived.Test.YtnjijflgafghmaaSPointerTells
import Derived.Test.YtnjijflgafghmaaPtr
set_option linter.unusedVariables false
set_option linter.unusedSimpArgs false
namespace Go.Proofs.Ytnjijflgafghmaa.Pure
open Go Go.RowKit Go.Proofs.Ytnjijflgafghmaa.Sx Go.Proofs.Ytnjijflgafghmaa.G Go.Proofs.Ytnjijflgafghmaa.Bt Go.Proofs.Ytnjijflgafghmaa.Cod Go.Proofs.Ytnjijflgafghmaa.Ptr
theorem ptells_one {a : Pt} {l : List Int} (hb : Bytes l) (hl : l.length ≤ 300) : shadowboxlaw06_PointerTells.jo1 1000 a l = some true := by
  unfold shadowboxlaw06_PointerTells.jo1
  rw [Read_val hb (by omega) (by omega), rRead_val hb (by omega) (by omega), None_val, rNone_val (by omega), Right_val, rRight_val, Sectors_val, rSectors_val, Put_val (by omega) _ (by omega), rPut_val (by omega) _ (by omega), Sectors_val]
  simp [secs]
theorem PointerTells : S.PointerTells := by
  intro a l ha hl hw
  refine ⟨1000, ?_⟩
  have hb := bytes_of hw
  unfold shadowboxlaw06_PointerTells.f
  by_cases h : (l.length : Int) > 300
  · rw [if_pos h, if_pos (by omega)]
    simp only [lt]
    exact ptells_one (hb.take _) (by simp; omega)
  · rw [if_neg h]
    exact ptells_one hb (by omega)
end Go.Proofs.Ytnjijflgafghmaa.Pure
