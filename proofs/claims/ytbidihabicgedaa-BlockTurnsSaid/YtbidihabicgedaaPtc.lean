/- Pointers of bytes, and what checks them, as plain functions; no condition. -/
import Derived.Test.YtbidihabicgedaaPtr
import Derived.Test.YtbidihabicgedaaCrf
import Derived.Test.YtbidihabicgedaaSha
set_option linter.unusedVariables false
set_option linter.unusedSimpArgs false
namespace Go.Proofs.Ytbidihabicgedaa.Ptr
open Go Go.RowKit Go.Proofs.Ytbidihabicgedaa.Sx Go.Proofs.Ytbidihabicgedaa.G Go.Proofs.Ytbidihabicgedaa.Bt Go.Proofs.Ytbidihabicgedaa.Cod
def ofL (a b : Int) (l : List Int) : Pt := (a, b, (l.length : Int), ((Crc.goS 0 l : Nat) : Int), Sha.sumL l)
theorem Of_val (a b : Int) {l : List Int} (hb : Bytes l) (hl : l.length ≤ 100000) {k : Nat} (hk : 200000 ≤ k) : pointer_Of.f k a b l = some (ofL a b l) := by
  unfold pointer_Of.f
  rw [Crc.Sum_val hb (by omega) (by omega), Sha.Sum_val hb (by omega) (by omega)]
  rfl
def checkL (a : Pt) (l : List Int) : Int :=
  if rightB a = true then (if (l.length : Int) = a.2.2.1 then (if ((Crc.goS 0 l : Nat) : Int) = a.2.2.2.1 then (if (Sha.sumL l).1 = a.2.2.2.2.1 then 0 else 12) else 12) else 12) else 2
theorem Check_val (a : Pt) {l : List Int} (hb : Bytes l) (hl : l.length ≤ 100000) {k : Nat} (hk : 200000 ≤ k) : pointer_Check.f k a l = some (checkL a l) := by
  unfold pointer_Check.f checkL
  rw [Right_val, Of_val _ _ hb hl hk]
  simp only [Option.bind_some]
  by_cases h1 : rightB a = true
  · rw [if_pos h1, if_pos h1]
    by_cases h2 : (l.length : Int) = a.2.2.1
    · rw [if_pos h2, if_pos h2]
      by_cases h3 : ((Crc.goS 0 l : Nat) : Int) = a.2.2.2.1
      · rw [if_pos h3]
        by_cases h4 : (Sha.sumL l).1 = a.2.2.2.2.1
        · rw [if_pos h4, if_pos (by simp [ofL, h2, h3, h4])]
        · rw [if_neg h4, if_neg (by simp [ofL, h2, h3]; exact fun h => h4 h.symm)]
      · rw [if_neg h3, if_neg (by simp [ofL, h2]; intro h; exact absurd h.symm h3)]
    · rw [if_neg h2, if_neg h2]
  · rw [if_neg h1, if_neg h1]
theorem and_i64 (a : Int) {m : Nat} (hm : m < 2 ^ 63) : 0 ≤ bits .and .i64 a (m : Int) ∧ bits .and .i64 a (m : Int) ≤ m := by
  simp only [bits, bvi]
  have h1 : (BitVec.ofInt IntKind.i64.bits a &&& BitVec.ofNat IntKind.i64.bits m).toNat ≤ m := by
    rw [BitVec.toNat_and]
    refine Nat.le_trans Nat.and_le_right ?_
    simp only [BitVec.toNat_ofNat]
    exact Nat.mod_le _ _
  rw [wi64 (by omega) (by omega)]
  omega
/-- What is laid is read. -/
theorem ptOf_put {a : Pt} (h1 : 0 ≤ a.1 ∧ a.1 < 4294967296) (h2 : 0 ≤ a.2.1 ∧ a.2.1 < 9223372036854775808) (h3 : 0 ≤ a.2.2.1 ∧ a.2.2.1 < 4294967296) (h4 : 0 ≤ a.2.2.2.1 ∧ a.2.2.2.1 < 4294967296) (m : List Int) : ptOf (putL [] a ++ m) = a := by
  have hu : ∀ x : Int, 0 ≤ x → x < 9223372036854775808 → u x = x := fun x h h' => by unfold u; rw [wu64]; omega
  have e : putL [] a ++ m = le 4 a.1 ++ (le 4 a.2.2.1 ++ (le 8 a.2.1 ++ (le 4 a.2.2.2.1 ++ (a.2.2.2.2.1 ++ m)))) := by
    unfold putL
    rw [fix4, fix4, fix8, fix4, hu _ h1.1 (by omega), hu _ h2.1 h2.2, hu _ h3.1 (by omega), hu _ h4.1 (by omega)]
    simp
  have e4 : (putL [] a ++ m).drop 4 = le 4 a.2.2.1 ++ (le 8 a.2.1 ++ (le 4 a.2.2.2.1 ++ (a.2.2.2.2.1 ++ m))) := by rw [e]; exact List.drop_left' (le_length 4 _)
  have e8 : (putL [] a ++ m).drop 8 = le 8 a.2.1 ++ (le 4 a.2.2.2.1 ++ (a.2.2.2.2.1 ++ m)) := by
    rw [show (8 : Nat) = 4 + 4 from rfl, ← List.drop_drop, e4]; exact List.drop_left' (le_length 4 _)
  have e16 : (putL [] a ++ m).drop 16 = le 4 a.2.2.2.1 ++ (a.2.2.2.2.1 ++ m) := by
    rw [show (16 : Nat) = 8 + 8 from rfl, ← List.drop_drop, e8]; exact List.drop_left' (le_length 8 _)
  have e20 : (putL [] a ++ m).drop 20 = a.2.2.2.2.1 ++ m := by
    rw [show (20 : Nat) = 16 + 4 from rfl, ← List.drop_drop, e16]; exact List.drop_left' (le_length 4 _)
  have p4 : (256 : Int) ^ 4 = 4294967296 := by decide
  have p8 : (256 : Int) ^ 8 = 18446744073709551616 := by decide
  unfold ptOf
  rw [e4, e8, e16, e20, e, List.take_left' (le_length 4 _), List.take_left' (le_length 4 _), List.take_left' (le_length 8 _), List.take_left' (le_length 4 _), List.take_left' a.2.2.2.2.2]
  rw [val_le _ _ h1.1, val_le _ _ h2.1, val_le _ _ h3.1, val_le _ _ h4.1, p4, p8, wi64 (by omega) (by omega), wi64 (by omega) (by omega), wi64 (by omega) (by omega), wu32]
  have ev : vpad 32 0 a.2.2.2.2.1 = a.2.2.2.2 := Subtype.ext (by rw [vpad_val (by rw [a.2.2.2.2.2]; omega), List.take_of_length_le (by rw [a.2.2.2.2.2]; omega)])
  rw [ev, Int.emod_eq_of_lt h1.1 (by omega), Int.emod_eq_of_lt h2.1 (by omega), Int.emod_eq_of_lt h3.1 (by omega), Int.emod_eq_of_lt h4.1 (by omega), Int.emod_eq_of_lt h4.1 (by omega)]
theorem putL_len (l : List Int) (a : Pt) : (putL l a).length = l.length + 52 := by
  unfold putL
  rw [fix4, fix4, fix8, fix4]
  have := a.2.2.2.2.2
  simp [le_length, this]
theorem putL_bytes {a : Pt} (ha : Bytes a.2.2.2.2.1) : Bytes (putL [] a) := by
  unfold putL
  rw [fix4, fix4, fix8, fix4]
  exact (((((Bytes.nil).append (le_bytes _ _)).append (le_bytes _ _)).append (le_bytes _ _)).append (le_bytes _ _)).append ha
end Go.Proofs.Ytbidihabicgedaa.Ptr
