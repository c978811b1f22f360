/- The pure statement of ShaTells; no condition. -/
import Derived.Test.YtelgglnabikkcaaSShaTells
import Derived.Test.YtelgglnabikkcaaSht
set_option linter.unusedVariables false
namespace Go.Proofs.Ytelgglnabikkcaa.Pure
open Go Go.RowKit Go.Proofs.Ytelgglnabikkcaa.Sx Go.Proofs.Ytelgglnabikkcaa.G Go.Proofs.Ytelgglnabikkcaa.Bt Go.Proofs.Ytelgglnabikkcaa.Sha
theorem abc : textL [97, 98, 99] = shadowboxlaw03_ShaTells.cst0 := ByteArray.ext (by
  have : decide ((textL [97, 98, 99]).data = shadowboxlaw03_ShaTells.cst0.data) = true := by decide +kernel
  exact of_decide_eq_true this)
theorem abc_by : By [97, 98, 99] := fun x hx => by
  simp at hx
  rcases hx with rfl | rfl | rfl <;> omega
theorem tells_one {l : List Int} (hb : By l) (hl : l.length ≤ 1000) : ((sha_Sum.f 1000 l).bind fun t30 => (shadowboxref03_Sum.f 1000 l).bind fun t33 => (if (t30.1 == t33.1) = true then (sha_Text.f 1000 l).bind fun t37 => (shadowboxref03_Text.f 1000 l).bind fun t40 => (if (t37.toList == t40.toList) = true then (sha_Text.f 1000 ([(97 : Int), (98 : Int), (99 : Int)])).bind fun t45 => some (t45.toList == shadowboxlaw03_ShaTells.cst0.toList) else some false) else some false)) = some true := by
  rw [Sum_val hb (by omega) (by omega), rSum_val hb (by omega) (by omega), Text_val hb (by omega) (by omega), rText_val hb (by omega) (by omega), Text_val abc_by (by simp) (by simp), abc]
  simp
theorem ShaTells : S.ShaTells := by
  intro l hl hw
  refine ⟨1000, ?_⟩
  have hb := lwf hw
  unfold shadowboxlaw03_ShaTells.f
  by_cases h : (l.length : Int) > 1000
  · rw [if_pos h, if_pos (by omega)]
    simp only [lt]
    exact tells_one (hb.take _) (by simp; omega)
  · rw [if_neg h]
    exact tells_one hb (by omega)
end Go.Proofs.Ytelgglnabikkcaa.Pure
