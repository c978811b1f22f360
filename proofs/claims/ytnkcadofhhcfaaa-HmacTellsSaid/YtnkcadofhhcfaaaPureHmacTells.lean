/- The pure statement of HmacTells; no condition. -/
import Derived.Test.YtnkcadofhhcfaaaSHmacTells
import Derived.Test.YtnkcadofhhcfaaaHmac
set_option linter.unusedVariables false
set_option linter.unusedSimpArgs false
namespace Go.Proofs.Ytnkcadofhhcfaaa.Pure
open Go Go.RowKit Go.Proofs.Ytnkcadofhhcfaaa.Sx Go.Proofs.Ytnkcadofhhcfaaa.G Go.Proofs.Ytnkcadofhhcfaaa.Bt Go.Proofs.Ytnkcadofhhcfaaa.Sha Go.Proofs.Ytnkcadofhhcfaaa.Hm
def kk : List Int := [(107 : Int), (101 : Int), (121 : Int)]
def fox : List Int := [(84 : Int), (104 : Int), (101 : Int), (32 : Int), (113 : Int), (117 : Int), (105 : Int), (99 : Int), (107 : Int), (32 : Int), (98 : Int), (114 : Int), (111 : Int), (119 : Int), (110 : Int), (32 : Int), (102 : Int), (111 : Int), (120 : Int), (32 : Int), (106 : Int), (117 : Int), (109 : Int), (112 : Int), (115 : Int), (32 : Int), (111 : Int), (118 : Int), (101 : Int), (114 : Int), (32 : Int), (116 : Int), (104 : Int), (101 : Int), (32 : Int), (108 : Int), (97 : Int), (122 : Int), (121 : Int), (32 : Int), (100 : Int), (111 : Int), (103 : Int)]
theorem kk_fox : textL kk fox = shadowboxlaw12_HmacTells.cst0 := ByteArray.ext (by
  have : decide ((textL kk fox).data = shadowboxlaw12_HmacTells.cst0.data) = true := by decide +kernel
  exact of_decide_eq_true this)
theorem by_dec {l : List Int} (h : l.all (fun x => decide (0 ≤ x ∧ x < 256)) = true) : By l := fun x hx => of_decide_eq_true (List.all_eq_true.1 h x hx)
theorem kk_by : By kk := by_dec (by decide +kernel)
theorem fox_by : By fox := by_dec (by decide +kernel)
theorem one {l m : List Int} (hb : By l) (hl : l.length ≤ 1000) (hm : By m) (hml : m.length ≤ 1000) : ((hmac_Mac.f 1000 l m).bind fun t31 => (shadowboxref12_Mac.f 1000 l m).bind fun t34 => (if (t31.1 == t34.1) = true then (hmac_Text.f 1000 l m).bind fun t38 => (shadowboxref12_Text.f 1000 l m).bind fun t41 => (if (t38.toList == t41.toList) = true then (hmac_Text.f 1000 kk fox).bind fun t28 => some (t28.toList == shadowboxlaw12_HmacTells.cst0.toList) else some false) else some false)) = some true := by
  rw [Mac_val hb (by omega) hm (by omega) (by omega) (by omega), rMac_val hb (by omega) hm (by omega) (by omega) (by omega), Text_val hb (by omega) hm (by omega) (by omega) (by omega), rText_val hb (by omega) hm (by omega) (by omega) (by omega), Text_val kk_by (by decide) fox_by (by decide) (by decide) (by decide), kk_fox]
  simp
theorem two {l m : List Int} (hb : By l) (hl : l.length ≤ 1000) (hm : By m) : shadowboxlaw12_HmacTells.jo1 1000 m l = some true := by
  unfold shadowboxlaw12_HmacTells.jo1
  by_cases h : (m.length : Int) > 500
  · rw [if_pos h, if_pos (by omega)]
    simp only [lt]
    exact one hb hl (hm.take _) (by simp; omega)
  · rw [if_neg h]
    exact one hb hl hm (by omega)
theorem HmacTells : S.HmacTells := by
  intro l m hl hw hml hmw
  refine ⟨1000, ?_⟩
  unfold shadowboxlaw12_HmacTells.f
  by_cases h : (l.length : Int) > 200
  · rw [if_pos h, if_pos (by omega)]
    simp only [lt]
    exact two ((lwf hw).take _) (by simp; omega) (lwf hmw)
  · rw [if_neg h]
    exact two (lwf hw) (by omega) (lwf hmw)
end Go.Proofs.Ytnkcadofhhcfaaa.Pure
