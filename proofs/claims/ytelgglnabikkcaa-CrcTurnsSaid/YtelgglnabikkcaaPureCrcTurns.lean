/- CrcTurns: bits that are turned, at most 32 side by side, turn the sum. -/
import Derived.Test.YtelgglnabikkcaaSCrcTurns
import Derived.Test.YtelgglnabikkcaaCrc
namespace Go.Proofs.Ytelgglnabikkcaa.Pure
open Go Go.RowKit Go.Proofs.Ytelgglnabikkcaa.Sx Go.Proofs.Ytelgglnabikkcaa.G Go.Proofs.Ytelgglnabikkcaa.Bt Go.Proofs.Ytelgglnabikkcaa.Crc
theorem xor_mul (a b s : Nat) : (a ^^^ b) * 2 ^ s = (a * 2 ^ s) ^^^ (b * 2 ^ s) := by
  have := @Nat.shiftLeft_xor_distrib s a b
  simpa [Nat.shiftLeft_eq] using this
theorem num_set : ∀ (l : List Int) (i c : Nat), By l → i < l.length → c < 256 → num (l.set i (((l.getD i 0).toNat ^^^ c : Nat) : Int)) = num l ^^^ (c * 2 ^ (8 * i)) := by
  intro l
  induction l with
  | nil => intro i c h hi hc; simp at hi
  | cons y r ih =>
    intro i c h hi hc
    have hy := h y (by simp)
    cases i with
    | zero =>
      have hlt : y.toNat ^^^ c < 2 ^ 8 := Nat.xor_lt_two_pow (by omega) (by omega)
      simp only [List.set_cons_zero, num, List.getD_cons_zero, Int.toNat_natCast, Nat.mul_zero, Nat.pow_zero, Nat.mul_one]
      have e1 := xor_add (b := num r) hlt
      have e2 := xor_add (a := y.toNat) (b := num r) (s := 8) (by omega)
      rw [show y.toNat + 256 * num r = y.toNat + num r * 2 ^ 8 by omega, show (y.toNat ^^^ c) + 256 * num r = (y.toNat ^^^ c) + num r * 2 ^ 8 by omega, ← e1, ← e2]
      ac_rfl
    | succ i =>
      have h2 := ih i c (fun z hz => h z (by simp [hz])) (by simpa using hi) hc
      simp only [List.set_cons_succ, num, List.getD_cons_succ]
      rw [h2]
      have e1 := xor_add (a := y.toNat) (b := num r ^^^ c * 2 ^ (8 * i)) (s := 8) (by omega)
      have e2 := xor_add (a := y.toNat) (b := num r) (s := 8) (by omega)
      rw [show y.toNat + 256 * num r = y.toNat + num r * 2 ^ 8 by omega, show y.toNat + 256 * (num r ^^^ c * 2 ^ (8 * i)) = y.toNat + (num r ^^^ c * 2 ^ (8 * i)) * 2 ^ 8 by omega, ← e1, ← e2, xor_mul]
      rw [show c * 2 ^ (8 * i) * 2 ^ 8 = c * 2 ^ (8 * (i + 1)) by rw [Nat.mul_assoc, ← Nat.pow_add, Nat.mul_add]]
      ac_rfl
theorem By.set {l : List Int} (h : By l) (i c : Nat) (hi : i < l.length) (hc : c < 256) : By (l.set i (((l.getD i 0).toNat ^^^ c : Nat) : Int)) := fun x hx => by
  rcases List.mem_or_eq_of_mem_set hx with hx | rfl
  · exact h x hx
  · have hg : l.getD i 0 = l[i] := by simp [List.getD_eq_getElem?_getD, List.getElem?_eq_getElem hi]
    have := h _ (List.getElem_mem hi)
    have h2 : (l.getD i 0).toNat ^^^ c < 2 ^ 8 := Nat.xor_lt_two_pow (by rw [hg]; omega) (by omega)
    omega
theorem xor_eq_self {a b : Nat} : a ^^^ b = a ↔ b = 0 := by
  constructor
  · intro h
    have : a ^^^ (a ^^^ b) = a ^^^ a := by rw [h]
    rwa [← Nat.xor_assoc, Nat.xor_self, Nat.zero_xor] at this
  · rintro rfl
    exact Nat.xor_zero a
theorem xor_inj {a b c : Nat} (h : a ^^^ c = b ^^^ c) : a = b := by
  have : (a ^^^ c) ^^^ c = (b ^^^ c) ^^^ c := by rw [h]
  rwa [Nat.xor_assoc, Nat.xor_self, Nat.xor_zero, Nat.xor_assoc, Nat.xor_self, Nat.xor_zero] at this
theorem turn_same {l m : List Int} {by_ at_ : Nat} (hlen : m.length = l.length) (hb : by_ < 2 ^ 32) (hat : at_ + 32 ≤ 8 * l.length) (hn : num m = num l ^^^ (by_ * 2 ^ at_)) : goS 0 m = goS 0 l ↔ by_ = 0 := by
  have key : F (0 ^^^ 4294967295) m = F (0 ^^^ 4294967295) l ^^^ T (8 * l.length - at_) by_ := by
    unfold F
    rw [hlen, hn, ← Nat.xor_assoc, T_xor]
    congr 1
    have := T_add at_ (8 * l.length - at_) (by_ * 2 ^ at_)
    rw [show at_ + (8 * l.length - at_) = 8 * l.length by omega, T_pow] at this
    exact this
  unfold goS
  rw [key]
  constructor
  · intro h
    exact T_inj _ hb (xor_eq_self.1 (xor_inj h))
  · rintro rfl
    rw [T_zero, Nat.xor_zero]
theorem shr_bit {b i : Nat} (hb : b < 2 ^ 32) (hi : i < 32) : bits .and .u32 (shrv .u32 (b : Int) (IntKind.wrap .u64 (i : Int))) 1 = ((b / 2 ^ i % 2 : Nat) : Int) := by
  rw [wu64, show (i : Int) % 18446744073709551616 = i by omega]
  unfold shrv
  rw [Int.toNat_natCast, show min i (IntKind.bits .u32) = i by simp [IntKind.bits]; omega, fd _ (Int.le_of_lt (Int.pow_pos (by decide))), show ((b : Int) / 2 ^ i) = ((b / 2 ^ i : Nat) : Int) by simp]
  have hlt : b / 2 ^ i < 2 ^ 32 := Nat.lt_of_le_of_lt (Nat.div_le_self _ _) hb
  have := and_u .u32 rfl (b / 2 ^ i) 1 (by simpa [IntKind.bits] using hlt) (by simp [IntKind.bits])
  rw [show ((1 : Nat) : Int) = 1 from rfl] at this
  rw [this, Nat.and_one_is_mod]
theorem one_bit {j : Nat} (hj : j < 8) : shlv .u8 (1 : Int) (IntKind.wrap .u64 (j : Int)) = ((2 ^ j : Nat) : Int) := by
  have : j = 0 ∨ j = 1 ∨ j = 2 ∨ j = 3 ∨ j = 4 ∨ j = 5 ∨ j = 6 ∨ j = 7 := by omega
  rcases this with rfl | rfl | rfl | rfl | rfl | rfl | rfl | rfl <;> decide
theorem turn_loop (l0 : List Int) (b at_ : Nat) (hb : b < 2 ^ 32) (h0 : By l0) (hl4 : l0.length ≤ 4000) (hat : at_ + 32 ≤ 8 * l0.length) : ∀ (j i k : Nat) (l : List Int), i + j = 32 → j + 4001 < k → By l → l.length = l0.length → num l = num l0 ^^^ ((b % 2 ^ i) * 2 ^ at_) →
    shadowboxlaw02_CrcTurns.l1 l0 (b : Int) (at_ : Int) k l (i : Int) = some true := by
  intro j
  induction j with
  | zero =>
    intro i k l hi hk hl hlen hn
    obtain ⟨k, rfl⟩ : ∃ m, k = m + 1 := ⟨k - 1, by omega⟩
    unfold shadowboxlaw02_CrcTurns.l1
    rw [if_neg (by omega), Sum_val hl (by omega) (by omega), Sum_val h0 (by omega) (by omega)]
    simp only [Option.bind_some]
    have hi32 : i = 32 := by omega
    subst hi32
    rw [Nat.mod_eq_of_lt hb] at hn
    have := turn_same hlen hb hat hn
    congr 1
    by_cases hz : b = 0
    · rw [decide_eq_true (by rw [this.2 hz] : ((goS 0 l : Nat) : Int) = ((goS 0 l0 : Nat) : Int)), decide_eq_true (by omega : (b : Int) = 0)]
      rfl
    · rw [decide_eq_false (fun e => hz (this.1 (by omega))), decide_eq_false (by omega : ¬ (b : Int) = 0)]
      rfl
  | succ j ih =>
    intro i k l hi hk hl hlen hn
    obtain ⟨k, rfl⟩ : ∃ m, k = m + 1 := ⟨k - 1, by omega⟩
    unfold shadowboxlaw02_CrcTurns.l1
    rw [if_pos (by omega), if_pos (by rw [wu64]; omega), shr_bit hb (by omega), wi64 (n := (i : Int) + 1) (by omega) (by omega), show (i : Int) + 1 = ((i + 1 : Nat) : Int) by omega]
    simp only [lt]
    have hmod : b % 2 ^ (i + 1) = b % 2 ^ i + b / 2 ^ i % 2 * 2 ^ i := by
      rw [Nat.pow_succ, Nat.mod_mul, Nat.mul_comm]
    by_cases hbit : b / 2 ^ i % 2 = 1
    · rw [if_pos (by omega), wi64 (n := (at_ : Int) + (i : Int)) (by omega) (by omega), td _ (by omega), tm _ (by omega)]
      rw [show ((at_ : Int) + (i : Int)) / 8 = (((at_ + i) / 8 : Nat) : Int) by omega, show ((at_ : Int) + (i : Int)) % 8 = (((at_ + i) % 8 : Nat) : Int) by omega, wi64 (by omega) (by omega)]
      rw [if_pos (by omega), if_pos (by omega), if_pos (by rw [wu64]; omega), one_bit (by omega), Int.toNat_natCast]
      rw [if_pos (by omega), if_pos (by omega)]
      have hlt : (at_ + i) / 8 < l.length := by omega
      have hg : l.getD ((at_ + i) / 8) 0 = l[(at_ + i) / 8] := by simp [List.getD_eq_getElem?_getD, List.getElem?_eq_getElem hlt]
      have hx := hl _ (List.getElem_mem hlt)
      obtain ⟨c, hc⟩ := Int.eq_ofNat_of_zero_le hx.1
      have hp : 2 ^ ((at_ + i) % 8) < 256 := Nat.lt_of_lt_of_le (Nat.pow_lt_pow_right (by decide) (Nat.mod_lt _ (by decide))) (by decide)
      have hxor : bits .xor .u8 (l.getD ((at_ + i) / 8) 0) ((2 ^ ((at_ + i) % 8) : Nat) : Int) = (((l.getD ((at_ + i) / 8) 0).toNat ^^^ 2 ^ ((at_ + i) % 8) : Nat) : Int) := by
        rw [hg, hc, Int.toNat_natCast]
        exact xor_u .u8 rfl c _ (by simp only [IntKind.bits]; omega) (by simp only [IntKind.bits]; exact hp)
      rw [hxor]
      refine ih (i + 1) k _ (by omega) (by omega) (By.set hl _ _ hlt hp) (by rw [List.length_set]; exact hlen) ?_
      rw [num_set l _ _ hl hlt hp, hn, hmod, hbit, Nat.one_mul]
      have e1 : b % 2 ^ i + 2 ^ i = (b % 2 ^ i) ^^^ (1 * 2 ^ i) := by
        rw [xor_add (Nat.mod_lt _ (Nat.pow_pos (by decide))), Nat.one_mul]
      rw [e1, Nat.one_mul, xor_mul, ← Nat.pow_add, ← Nat.pow_add, Nat.xor_assoc]
      congr 3
      omega
    · rw [if_neg (by omega)]
      refine ih (i + 1) k l (by omega) (by omega) hl hlen ?_
      rw [hn, hmod, show b / 2 ^ i % 2 = 0 by omega, Nat.zero_mul, Nat.add_zero]
theorem sum_a : crc_Sum.f 5000 ([(97 : Int)]) = some 3251651376 := by
  rw [Sum_val (fun x hx => by simp at hx; omega) (by simp) (by simp)]
  decide +kernel
theorem CrcTurns : S.CrcTurns := by
  intro l0 a1 a2 hl hb h1 h2
  have hb := by_of hb
  simp only [Lit.wf, IntKind.min, IntKind.max, IntKind.signed, IntKind.bits, Bool.and_eq_true] at h1 h2
  simp at h1 h2
  obtain ⟨b, rfl⟩ := Int.eq_ofNat_of_zero_le h2.1
  refine ⟨5000, ?_⟩
  unfold shadowboxlaw02_CrcTurns.f
  rw [sum_a]
  simp only [Option.bind_some, lt]
  by_cases c1 : (l0.length : Int) < 4
  · rw [if_pos c1]; rfl
  · rw [if_neg c1]
    by_cases c2 : (l0.length : Int) > 4000
    · rw [if_pos c2]; rfl
    · rw [if_neg c2]
      rw [wi64 (n := 8 * (l0.length : Int)) (by omega) (by omega), wi64 (n := 8 * (l0.length : Int) - 31) (by omega) (by omega), if_pos (by omega), if_pos (by simp; omega), List.nil_append]
      generalize hm : 8 * (l0.length : Int) - 31 = m
      have h3 : -m < Int.tmod a1 m ∧ Int.tmod a1 m < m := by
        have h4 := Int.tmod_lt_of_pos a1 (show 0 < m by omega)
        have h5 := Int.lt_tmod_of_pos a1 (show 0 < m by omega)
        exact ⟨h5, h4⟩
      rw [wi64 (n := Int.tmod a1 m + m) (by omega) (by omega), tm _ (by omega)]
      have h6 := Int.emod_nonneg (Int.tmod a1 m + m) (show m ≠ 0 by omega)
      have h7 := Int.emod_lt_of_pos (Int.tmod a1 m + m) (show 0 < m by omega)
      obtain ⟨at_, hat⟩ := Int.eq_ofNat_of_zero_le h6
      rw [hat]
      have := turn_loop l0 b at_ (by omega) hb (by omega) (by omega) 32 0 5000 l0 (by omega) (by omega) hb rfl (by simp [Nat.mod_one])
      exact this
end Go.Proofs.Ytelgglnabikkcaa.Pure
