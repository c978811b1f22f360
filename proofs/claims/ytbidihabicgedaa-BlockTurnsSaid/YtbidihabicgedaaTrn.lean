/- Bits that are turned in bytes; no condition. -/
import Derived.Test.YtbidihabicgedaaCrc3
set_option linter.unusedVariables false
set_option linter.unusedSimpArgs false
namespace Go.Proofs.Ytbidihabicgedaa.Trn
open Go Go.RowKit Go.Proofs.Ytbidihabicgedaa.Sx Go.Proofs.Ytbidihabicgedaa.G Go.Proofs.Ytbidihabicgedaa.Bt Go.Proofs.Ytbidihabicgedaa.Crc
theorem xor_mul (a b s : Nat) : (a ^^^ b) * 2 ^ s = (a * 2 ^ s) ^^^ (b * 2 ^ s) := by
  have := @Nat.shiftLeft_xor_distrib s a b
  simpa [Nat.shiftLeft_eq] using this
theorem num_set : ∀ (l : List Int) (i c : Nat), By l → i < l.length → c < 256 → num (l.set i (((l.getD i 0).toNat ^^^ c : Nat) : Int)) = num l ^^^ (c * 2 ^ (8 * i)) := by
  intro l
  induction l with
  | nil => intro i c h hi hc; simp at hi
  | cons y r ih =>
    intro i c h hi hc
    have hy := h y (by simp)
    cases i with
    | zero =>
      have hlt : y.toNat ^^^ c < 2 ^ 8 := Nat.xor_lt_two_pow (by omega) (by omega)
      simp only [List.set_cons_zero, num, List.getD_cons_zero, Int.toNat_natCast, Nat.mul_zero, Nat.pow_zero, Nat.mul_one]
      have e1 := xor_add (b := num r) hlt
      have e2 := xor_add (a := y.toNat) (b := num r) (s := 8) (by omega)
      rw [show y.toNat + 256 * num r = y.toNat + num r * 2 ^ 8 by omega, show (y.toNat ^^^ c) + 256 * num r = (y.toNat ^^^ c) + num r * 2 ^ 8 by omega, ← e1, ← e2]
      ac_rfl
    | succ i =>
      have h2 := ih i c (fun z hz => h z (by simp [hz])) (by simpa using hi) hc
      simp only [List.set_cons_succ, num, List.getD_cons_succ]
      rw [h2]
      have e1 := xor_add (a := y.toNat) (b := num r ^^^ c * 2 ^ (8 * i)) (s := 8) (by omega)
      have e2 := xor_add (a := y.toNat) (b := num r) (s := 8) (by omega)
      rw [show y.toNat + 256 * num r = y.toNat + num r * 2 ^ 8 by omega, show y.toNat + 256 * (num r ^^^ c * 2 ^ (8 * i)) = y.toNat + (num r ^^^ c * 2 ^ (8 * i)) * 2 ^ 8 by omega, ← e1, ← e2, xor_mul]
      rw [show c * 2 ^ (8 * i) * 2 ^ 8 = c * 2 ^ (8 * (i + 1)) by rw [Nat.mul_assoc, ← Nat.pow_add, Nat.mul_add]]
      ac_rfl
theorem By.set {l : List Int} (h : By l) (i c : Nat) (hi : i < l.length) (hc : c < 256) : By (l.set i (((l.getD i 0).toNat ^^^ c : Nat) : Int)) := fun x hx => by
  rcases List.mem_or_eq_of_mem_set hx with hx | rfl
  · exact h x hx
  · have hg : l.getD i 0 = l[i] := by simp [List.getD_eq_getElem?_getD, List.getElem?_eq_getElem hi]
    have := h _ (List.getElem_mem hi)
    have h2 : (l.getD i 0).toNat ^^^ c < 2 ^ 8 := Nat.xor_lt_two_pow (by rw [hg]; omega) (by omega)
    omega
theorem xor_eq_self {a b : Nat} : a ^^^ b = a ↔ b = 0 := by
  constructor
  · intro h
    have : a ^^^ (a ^^^ b) = a ^^^ a := by rw [h]
    rwa [← Nat.xor_assoc, Nat.xor_self, Nat.zero_xor] at this
  · rintro rfl
    exact Nat.xor_zero a
theorem xor_inj {a b c : Nat} (h : a ^^^ c = b ^^^ c) : a = b := by
  have : (a ^^^ c) ^^^ c = (b ^^^ c) ^^^ c := by rw [h]
  rwa [Nat.xor_assoc, Nat.xor_self, Nat.xor_zero, Nat.xor_assoc, Nat.xor_self, Nat.xor_zero] at this
theorem shr_bit {b i : Nat} (hb : b < 2 ^ 32) (hi : i < 32) : bits .and .u32 (shrv .u32 (b : Int) (IntKind.wrap .u64 (i : Int))) 1 = ((b / 2 ^ i % 2 : Nat) : Int) := by
  rw [wu64, show (i : Int) % 18446744073709551616 = i by omega]
  unfold shrv
  rw [Int.toNat_natCast, show min i (IntKind.bits .u32) = i by simp [IntKind.bits]; omega, fd _ (Int.le_of_lt (Int.pow_pos (by decide))), show ((b : Int) / 2 ^ i) = ((b / 2 ^ i : Nat) : Int) by simp]
  have hlt : b / 2 ^ i < 2 ^ 32 := Nat.lt_of_le_of_lt (Nat.div_le_self _ _) hb
  have := and_u .u32 rfl (b / 2 ^ i) 1 (by simpa [IntKind.bits] using hlt) (by simp [IntKind.bits])
  rw [show ((1 : Nat) : Int) = 1 from rfl] at this
  rw [this, Nat.and_one_is_mod]
theorem one_bit {j : Nat} (hj : j < 8) : shlv .u8 (1 : Int) (IntKind.wrap .u64 (j : Int)) = ((2 ^ j : Nat) : Int) := by
  have : j = 0 ∨ j = 1 ∨ j = 2 ∨ j = 3 ∨ j = 4 ∨ j = 5 ∨ j = 6 ∨ j = 7 := by omega
  rcases this with rfl | rfl | rfl | rfl | rfl | rfl | rfl | rfl <;> decide
theorem num_inj : ∀ {l m : List Int}, By l → By m → l.length = m.length → num l = num m → l = m := by
  intro l
  induction l with
  | nil => intro m _ _ h _; cases m with
    | nil => rfl
    | cons y r => simp at h
  | cons x r ih =>
    intro m hl hm h e
    cases m with
    | nil => simp at h
    | cons y s =>
      have hx := hl x (by simp)
      have hy := hm y (by simp)
      simp only [num] at e
      have e2 := ih (m := s) (fun z hz => hl z (by simp [hz])) (fun z hz => hm z (by simp [hz])) (by simpa using h) (by omega)
      rw [show x = y by omega, e2]
theorem num_take : ∀ (l : List Int) (n : Nat), By l → num (l.take n) = num l % 2 ^ (8 * n) := by
  intro l
  induction l with
  | nil => intro n h; simp [num]
  | cons x r ih =>
    intro n h
    have hx := h x (by simp)
    cases n with
    | zero => simp [num, Nat.mod_one]
    | succ n =>
      simp only [List.take_succ_cons, num]
      rw [ih n (fun z hz => h z (by simp [hz])), show 8 * (n + 1) = 8 * n + 8 by omega, Nat.pow_add, Nat.mul_comm (2 ^ (8 * n)), show (2 : Nat) ^ 8 = 256 from rfl, Nat.mod_mul]
      rw [show (x.toNat + 256 * num r) % 256 = x.toNat by omega, show (x.toNat + 256 * num r) / 256 = num r by omega]
/-- A burst inside a part that has one sum: it is nothing there. -/
theorem burst {w w' n at_ b : Nat} (hb : b < 2 ^ 32) (he : w' = w ^^^ (b * 2 ^ at_ % 2 ^ n)) (hT : T n (4294967295 ^^^ w') = T n (4294967295 ^^^ w)) : w' = w := by
  have h0 : T n (b * 2 ^ at_ % 2 ^ n) = 0 := by
    rw [he, ← Nat.xor_assoc, T_xor n (4294967295 ^^^ w)] at hT
    exact xor_eq_self.1 hT
  have h1 : b * 2 ^ at_ % 2 ^ n = 0 := by
    by_cases h : at_ ≤ n
    · have e : b * 2 ^ at_ % 2 ^ n = (b % 2 ^ (n - at_)) * 2 ^ at_ := by
        rw [← Nat.mul_mod_mul_right, ← Nat.pow_add, show n - at_ + at_ = n by omega]
      rw [e] at h0 ⊢
      have h2 := T_add at_ (n - at_) ((b % 2 ^ (n - at_)) * 2 ^ at_)
      rw [show at_ + (n - at_) = n by omega, T_pow, h0] at h2
      rw [T_inj _ (Nat.lt_of_le_of_lt (Nat.mod_le _ _) hb) h2.symm, Nat.zero_mul]
    · obtain ⟨c, rfl⟩ : ∃ c, at_ = n + c := ⟨at_ - n, by omega⟩
      rw [Nat.pow_add, ← Nat.mul_assoc, Nat.mul_right_comm]
      exact Nat.mul_mod_left _ _
  rw [he, h1, Nat.xor_zero]
end Go.Proofs.Ytbidihabicgedaa.Trn
