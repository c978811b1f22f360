/- The pure statement of LabelTells; no condition. -/
import Derived.Test.YtnjijflgafghmaaSLabelTells
import Derived.Test.YtnjijflgafghmaaLab
set_option linter.unusedVariables false
set_option linter.unusedSimpArgs false
namespace Go.Proofs.Ytnjijflgafghmaa.Pure
open Go Go.RowKit Go.Proofs.Ytnjijflgafghmaa.Sx Go.Proofs.Ytnjijflgafghmaa.G Go.Proofs.Ytnjijflgafghmaa.Bt Go.Proofs.Ytnjijflgafghmaa.Cod Go.Proofs.Ytnjijflgafghmaa.Ptr Go.Proofs.Ytnjijflgafghmaa.Lab
theorem seal_211 : sealS ((2, zp, 1) : Lb) = (sealL (2, zp, 1), 0, 0) := by
  unfold sealS
  rw [if_pos (by decide +kernel)]
  rfl
theorem ltells_one {a : Lb} (ha : Bytes a.2.1.2.2.2.2.1) {l : List Int} (hb : Bytes l) (hl : l.length ≤ 600) : shadowboxlaw08_LabelTells.jo1 3000 a l = some true := by
  unfold shadowboxlaw08_LabelTells.jo1
  rw [Seal_val ha (by omega), rSeal_val ha (by omega), Open_val hb (by omega) (by omega), rOpen_val hb (by omega) (by omega), show (((2 : Int), ((0 : Int), (0 : Int), (0 : Int), (0 : Int), (vrep 32 (0 : Int))), (1 : Int)) : Lb) = (2, zp, 1) from rfl, Seal_val (a := (2, zp, 1)) zp_bytes (by omega), seal_211]
  simp [seal_len]
theorem LabelTells : S.LabelTells := by
  intro a l ha hl hw
  refine ⟨3000, ?_⟩
  have hb := bytes_of hw
  have hs : Bytes a.2.1.2.2.2.2.1 := bytes_of ha.2.1.2.2.2.2
  unfold shadowboxlaw08_LabelTells.f
  by_cases h : (l.length : Int) > 600
  · rw [if_pos h, if_pos (by omega)]
    simp only [lt]
    exact ltells_one hs (hb.take _) (by simp; omega)
  · rw [if_neg h]
    exact ltells_one hs hb (by omega)
end Go.Proofs.Ytnjijflgafghmaa.Pure
