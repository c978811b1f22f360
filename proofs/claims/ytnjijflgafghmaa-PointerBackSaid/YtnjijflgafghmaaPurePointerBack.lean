/- The pure statement of PointerBack; no condition. -/
import Derived.Test.YtnjijflgafghmaaSPointerBack
import Derived.Test.YtnjijflgafghmaaPtc
import Derived.Test.YtnjijflgafghmaaSha
set_option linter.unusedVariables false
set_option linter.unusedSimpArgs false
namespace Go.Proofs.Ytnjijflgafghmaa.Pure
open Go Go.RowKit Go.Proofs.Ytnjijflgafghmaa.Sx Go.Proofs.Ytnjijflgafghmaa.G Go.Proofs.Ytnjijflgafghmaa.Bt Go.Proofs.Ytnjijflgafghmaa.Cod Go.Proofs.Ytnjijflgafghmaa.Ptr
theorem pback_one {a b : Int} {l : List Int} (hb : Bytes l) (hl : l.length ≤ 2000) : shadowboxlaw06_PointerBack.jo1 300000 a b l = some true := by
  unfold shadowboxlaw06_PointerBack.jo1
  have ha := and_i64 a (m := 4095) (by decide)
  have hb2 := and_i64 b (m := 1099511627775) (by decide)
  rw [show ((4095 : Nat) : Int) = 4095 from rfl] at ha
  rw [show ((1099511627775 : Nat) : Int) = 1099511627775 from rfl] at hb2
  generalize bits .and .i64 a 4095 = a' at *
  generalize bits .and .i64 b 1099511627775 = b' at *
  simp only [lt]
  rw [wi64 (by omega) (by omega), wi64 (by omega) (by omega), Of_val _ _ hb (by omega) (by omega)]
  simp only [Option.bind_some]
  have hsec := secs_bound (l.length : Int)
  have hcr : Crc.goS 0 l < 2 ^ 32 := Crc.goS_lt (by decide) hb
  have hsy : Bytes (Sha.sumL l).1 := Sha.sumL_by l
  by_cases h0 : (l.length : Int) = 0
  · rw [if_pos h0]
    have hr : rightB (ofL (2 + a') (1 + b') l) = false := decide_eq_false (by show ¬ (_ ∧ _ ∧ 1 ≤ (l.length : Int) ∧ _); omega)
    have hz : Bytes zp.2.2.2.2.1 := fun x hx => by
      have : x = 0 := List.eq_of_mem_replicate hx
      omega
    have hp := putL_len [] zp
    have hpt : ptOf (putL [] zp) = zp := by
      have := ptOf_put (a := zp) ⟨by decide, by decide⟩ ⟨by decide, by decide⟩ ⟨by decide, by decide⟩ ⟨by decide, by decide⟩ []
      rwa [List.append_nil] at this
    rw [show (((0 : Int), (0 : Int), (0 : Int), (0 : Int), (vrep 32 (0 : Int))) : Pt) = zp from rfl, Put_val (by simp) _ (by omega)]
    simp only [Option.bind_some]
    rw [Read_val (putL_bytes hz) (by rw [hp]; simp) (by omega), Right_val, hr]
    simp only [Option.bind_some]
    have hrd : readL (putL [] zp) = (zp, 0) := by
      unfold readL
      rw [if_neg (by rw [hp]; simp), hpt, if_pos (by decide +kernel)]
    rw [hrd, if_neg (by simp), if_pos rfl, None_val]
    simp only [Option.bind_some]
    rw [if_pos (by decide +kernel), Check_val _ hb (by omega) (by omega)]
    simp only [Option.bind_some]
    unfold checkL
    rw [hr]
    rfl
  · rw [if_neg h0]
    unfold shadowboxlaw06_PointerBack.jo2 shadowboxlaw06_PointerBack.jo3
    have hr : rightB (ofL (2 + a') (1 + b') l) = true := decide_eq_true (by
      show 1 ≤ 1 + b' ∧ 1 + b' ≤ 1152921504606846976 ∧ 1 ≤ (l.length : Int) ∧ (l.length : Int) ≤ 65536 ∧ 2 ≤ 2 + a' ∧ 2 + a' + secs (l.length : Int) ≤ 8192
      omega)
    have hp := putL_len [] (ofL (2 + a') (1 + b') l)
    have hpt : ptOf (putL [] (ofL (2 + a') (1 + b') l) ++ l) = ofL (2 + a') (1 + b') l := ptOf_put (by show 0 ≤ 2 + a' ∧ 2 + a' < _; omega) (by show 0 ≤ 1 + b' ∧ 1 + b' < _; omega) (by show 0 ≤ (l.length : Int) ∧ (l.length : Int) < _; omega) (by show 0 ≤ ((Crc.goS 0 l : Nat) : Int) ∧ ((Crc.goS 0 l : Nat) : Int) < _; omega) l
    have hby := putL_bytes (a := ofL (2 + a') (1 + b') l) hsy
    have hnn : noneB (ofL (2 + a') (1 + b') l) = false := by
      unfold noneB
      rw [show ((ofL (2 + a') (1 + b') l).1 == (0 : Int)) = false from by show (2 + a' == 0) = false; rw [beq_eq_false_iff_ne]; omega]
      rfl
    rw [Put_val (by simp) _ (by omega)]
    simp only [Option.bind_some, List.nil_append, lt]
    rw [if_pos (by rw [hp]; simp), if_pos (by rw [hp]; simp), if_pos (by rw [hp]; simp; omega), Read_val (hby.append hb) (by rw [List.length_append, hp]; simp; omega) (by omega)]
    simp only [Option.bind_some]
    have hrd : readL (putL [] (ofL (2 + a') (1 + b') l) ++ l) = (ofL (2 + a') (1 + b') l, 0) := by
      unfold readL
      rw [if_neg (by rw [List.length_append, hp]; simp; omega), hpt, hnn, hr]
      simp
    have hrd2 : readL ((putL [] (ofL (2 + a') (1 + b') l)).take 51) = (zp, 10) := by
      unfold readL
      rw [if_pos (by simp; omega)]
    rw [hrd, if_pos (by rw [hp]; simp), show ((51 : Int)).toNat = 51 from rfl, Read_val (hby.take _) (by simp; omega) (by omega), Right_val, hr, hrd2]
    simp only [Option.bind_some]
    rw [if_pos trivial, if_pos trivial, if_pos (by simp), if_pos trivial, Check_val _ hb (by omega) (by omega)]
    simp only [Option.bind_some]
    have hck : checkL (ofL (2 + a') (1 + b') l) l = 0 := by
      unfold checkL
      rw [hr, if_pos rfl, if_pos (by rfl), if_pos (by rfl), if_pos (by rfl)]
    have hck2 : checkL (ofL (2 + a') (1 + b') l) (l.drop 1) = 12 := by
      unfold checkL
      rw [hr, if_pos rfl, if_neg (by show ¬ ((l.drop 1).length : Int) = (l.length : Int); rw [List.length_drop]; omega)]
    rw [hck, if_pos rfl, if_pos (by omega), show ((1 : Int)).toNat = 1 from rfl, Check_val _ (hb.drop 1) (by simp; omega) (by omega), hck2, Sectors_val]
    simp only [Option.bind_some]
    have hs : secs (ofL (2 + a') (1 + b') l).2.2.1 = ((l.length : Int) + 511) / 512 := by
      show secs (l.length : Int) = _
      unfold secs
      rw [if_neg (by omega), if_neg (by omega)]
    rw [hs, wi64 (by omega) (by omega), wi64 (by omega) (by omega), if_pos trivial, if_pos (by omega)]
    exact congrArg some (decide_eq_true (by omega))
theorem PointerBack : S.PointerBack := by
  intro a b l ha hb0 hl hw
  refine ⟨300000, ?_⟩
  have hb := bytes_of hw
  unfold shadowboxlaw06_PointerBack.f
  by_cases h : (l.length : Int) > 2000
  · rw [if_pos h, if_pos (by omega)]
    simp only [lt]
    exact pback_one (hb.take _) (by simp; omega)
  · rw [if_neg h]
    exact pback_one hb (by omega)
end Go.Proofs.Ytnjijflgafghmaa.Pure
