/- What the sum of bytes computes: steps that are linear over exclusive or; no condition. -/
import Derived.Test.YtbidihabicgedaaGz
import Derived.Test.YtbidihabicgedaaBits
namespace Go.Proofs.Ytbidihabicgedaa.Crc
open Go Go.RowKit Go.Proofs.Ytbidihabicgedaa.Sx Go.Proofs.Ytbidihabicgedaa.G Go.Proofs.Ytbidihabicgedaa.Bt
set_option linter.unusedVariables false
set_option linter.unusedSimpArgs false
/-! ### One bit's step, on numbers of any size -/
def poly : Nat := 2197175160
def T1 (n : Nat) : Nat := (n / 2) ^^^ (if n % 2 = 1 then poly else 0)
def T : Nat → Nat → Nat
  | 0, n => n
  | k + 1, n => T k (T1 n)
theorem T1_xor (a b : Nat) : T1 (a ^^^ b) = T1 a ^^^ T1 b := by
  unfold T1
  rw [Nat.xor_div_two]
  have h := @Nat.xor_mod_two_eq_one a b
  by_cases ha : a % 2 = 1 <;> by_cases hb : b % 2 = 1
  · rw [if_neg (by rw [h]; simp [ha, hb]), if_pos ha, if_pos hb, Nat.xor_zero]
    rw [show a / 2 ^^^ poly ^^^ (b / 2 ^^^ poly) = a / 2 ^^^ b / 2 ^^^ (poly ^^^ poly) by ac_rfl, Nat.xor_self, Nat.xor_zero]
  · rw [if_pos (by rw [h]; simp [ha, hb]), if_pos ha, if_neg hb, Nat.xor_zero]
    ac_rfl
  · rw [if_pos (by rw [h]; simp [ha, hb]), if_neg ha, if_pos hb, Nat.xor_zero]
    ac_rfl
  · rw [if_neg (by rw [h]; simp [ha, hb]), if_neg ha, if_neg hb, Nat.xor_zero, Nat.xor_zero, Nat.xor_zero]
theorem T_xor (k : Nat) : ∀ a b, T k (a ^^^ b) = T k a ^^^ T k b := by
  induction k with
  | zero => intro a b; rfl
  | succ k ih => intro a b; simp only [T, T1_xor, ih]
theorem T_add (k m : Nat) : ∀ n, T (k + m) n = T m (T k n) := by
  induction k with
  | zero => intro n; simp [T]
  | succ k ih => intro n; rw [Nat.add_right_comm]; simp only [T, ih]
theorem T1_two (x : Nat) : T1 (2 * x) = x := by
  unfold T1
  rw [if_neg (by omega), Nat.xor_zero]
  omega
theorem T_pow (k : Nat) : ∀ x, T k (x * 2 ^ k) = x := by
  induction k with
  | zero => intro x; simp [T]
  | succ k ih =>
    intro x
    simp only [T]
    rw [show x * 2 ^ (k + 1) = 2 * (x * 2 ^ k) by rw [Nat.pow_succ]; rw [← Nat.mul_assoc, Nat.mul_comm], T1_two, ih]
theorem T1_zero : T1 0 = 0 := by decide
theorem T_zero (k : Nat) : T k 0 = 0 := by
  induction k with
  | zero => rfl
  | succ k ih => simp only [T, T1_zero, ih]
theorem T1_lt {n : Nat} (h : n < 2 ^ 32) : T1 n < 2 ^ 32 := by
  unfold T1
  refine Nat.xor_lt_two_pow (by omega) ?_
  split
  · decide
  · decide
theorem T_lt (k : Nat) : ∀ {n : Nat}, n < 2 ^ 32 → T k n < 2 ^ 32 := by
  induction k with
  | zero => intro n h; exact h
  | succ k ih => intro n h; exact ih (T1_lt h)
theorem T1_inj {n : Nat} (h : n < 2 ^ 32) (h0 : T1 n = 0) : n = 0 := by
  unfold T1 at h0
  by_cases hn : n % 2 = 1
  · rw [if_pos hn] at h0
    exfalso
    have h1 : (n / 2 ^^^ poly).testBit 31 = true := by
      rw [Nat.testBit_xor, Nat.testBit_lt_two_pow (show n / 2 < 2 ^ 31 by omega)]
      decide
    rw [h0] at h1
    simp at h1
  · rw [if_neg hn, Nat.xor_zero] at h0
    omega
theorem T_inj (k : Nat) : ∀ {n : Nat}, n < 2 ^ 32 → T k n = 0 → n = 0 := by
  induction k with
  | zero => intro n h h0; exact h0
  | succ k ih => intro n h h0; exact T1_inj h (ih (T1_lt h) h0)
/-- A low part beside a high one. -/
theorem xor_add {a b s : Nat} (h : a < 2 ^ s) : a ^^^ (b * 2 ^ s) = a + b * 2 ^ s := by
  apply Nat.eq_of_testBit_eq
  intro i
  rw [Nat.add_comm, Nat.mul_comm b, Nat.testBit_two_pow_mul_add b h, Nat.testBit_xor, Nat.mul_comm, Nat.testBit_mul_two_pow]
  by_cases hi : i < s
  · rw [if_pos hi]
    simp [show ¬ s ≤ i by omega]
  · rw [if_neg hi, Nat.testBit_lt_two_pow (Nat.lt_of_lt_of_le h (Nat.pow_le_pow_right (by decide) (by omega)))]
    simp [show s ≤ i by omega]
theorem T4 (n : Nat) : T 4 n = (n / 16) ^^^ T 4 (n % 16) := by
  have e : n = (n % 16) ^^^ (n / 16 * 2 ^ 4) := by
    rw [xor_add (s := 4) (by omega)]
    omega
  have h := T_xor 4 (n % 16) (n / 16 * 2 ^ 4)
  rw [← e, T_pow] at h
  rw [h, Nat.xor_comm]
theorem tab_all : (List.range 16).all (fun r => decide (crc_halves.cst0.1.getD r 0 = (T 4 r : Int))) = true := by decide +kernel
theorem tab_val {r : Nat} (h : r < 16) : crc_halves.cst0.1.getD r 0 = (T 4 r : Int) := of_decide_eq_true (List.all_eq_true.1 tab_all r (List.mem_range.2 h))
theorem and15 (n : Nat) (h : n < 2 ^ 32) : bits .and .u32 (n : Int) 15 = ((n % 16 : Nat) : Int) := by
  have := and_u .u32 rfl n 15 (by simpa [IntKind.bits] using h) (by simp [IntKind.bits])
  rw [show ((15 : Nat) : Int) = 15 from rfl] at this
  rw [this, show 15 = 2 ^ 4 - 1 from rfl, Nat.and_two_pow_sub_one_eq_mod]
theorem xor32 (a b : Nat) (ha : a < 2 ^ 32) (hb : b < 2 ^ 32) : bits .xor .u32 (a : Int) (b : Int) = ((a ^^^ b : Nat) : Int) := xor_u .u32 rfl a b (by simpa [IntKind.bits] using ha) (by simpa [IntKind.bits] using hb)
theorem fd16 (n : Nat) : Int.fdiv (n : Int) 16 = ((n / 16 : Nat) : Int) := by rw [fd _ (by decide)]; omega
theorem half_val (k : Nat) {n : Nat} (h : n < 2 ^ 32) : crc_Go_1.f k (n : Int) crc_halves.cst0 = some ((T 4 n : Nat) : Int) := by
  unfold crc_Go_1.f
  rw [and15 n h, if_pos (by omega), if_pos (by omega)]
  simp only [lt]
  rw [Int.toNat_natCast, tab_val (by omega), fd16, xor32 _ _ (by omega) (T_lt 4 (by omega)), ← T4]
/-! ### Bytes -/
def By (l : List Int) : Prop := ∀ x ∈ l, 0 ≤ x ∧ x < 256
theorem by_of {l : List Int} (h : ∀ x ∈ l, (Lit.int .u8 x).wf = true) : By l := fun x hx => by
  have := h x hx
  simp only [Lit.wf, IntKind.min, IntKind.max, IntKind.signed, IntKind.bits, Bool.and_eq_true] at this
  simp at this
  omega
/-- The bytes as one number, the first one lowest. -/
def num : List Int → Nat
  | [] => 0
  | x :: r => x.toNat + 256 * num r
theorem num_lt {l : List Int} (h : By l) : num l < 2 ^ (8 * l.length) := by
  induction l with
  | nil => simp [num]
  | cons x r ih =>
    have h1 := h x (by simp)
    have h2 := ih (fun y hy => h y (by simp [hy]))
    simp only [num, List.length_cons]
    rw [Nat.mul_add, Nat.pow_add]
    omega
def F (s : Nat) (l : List Int) : Nat := T (8 * l.length) (s ^^^ num l)
theorem T8_byte (s c : Nat) : T 8 (s ^^^ c) = T 8 (s ^^^ c) := rfl
theorem F_cons (s : Nat) (x : Int) (r : List Int) (hx : 0 ≤ x ∧ x < 256) : F s (x :: r) = F (T 8 (s ^^^ x.toNat)) r := by
  unfold F
  rw [List.length_cons, Nat.mul_add, Nat.add_comm, show 8 * 1 = 8 from rfl, T_add]
  congr 1
  simp only [num]
  have e : x.toNat + 256 * num r = x.toNat ^^^ (num r * 2 ^ 8) := by
    rw [xor_add (by omega)]
    omega
  rw [e, ← Nat.xor_assoc, T_xor, T_pow]
theorem F_nil (s : Nat) : F s [] = s := by simp [F, num, T]
theorem F_append (s : Nat) (l m : List Int) (h : By l) : F s (l ++ m) = F (F s l) m := by
  induction l generalizing s with
  | nil => rw [F_nil]; rfl
  | cons x r ih =>
    have hx := h x (by simp)
    rw [List.cons_append, F_cons _ _ _ hx, F_cons _ _ _ hx, ih _ (fun y hy => h y (by simp [hy]))]
theorem F_lt {s : Nat} (hs : s < 2 ^ 32) (l : List Int) (h : By l) : F s l < 2 ^ 32 := by
  induction l generalizing s with
  | nil => rw [F_nil]; exact hs
  | cons x r ih =>
    have hx := h x (by simp)
    rw [F_cons _ _ _ hx]
    exact ih (T_lt 8 (Nat.xor_lt_two_pow hs (by omega))) (fun y hy => h y (by simp [hy]))
theorem ones (a : Nat) (h : a < 2 ^ 32) : bits .xor .u32 (if IntKind.signed .u32 then -1 else IntKind.max .u32) (a : Int) = ((a ^^^ 4294967295 : Nat) : Int) := by
  have e : (if IntKind.signed .u32 then -1 else IntKind.max .u32) = ((4294967295 : Nat) : Int) := by decide
  rw [e, xor32 _ _ (by decide) h, Nat.xor_comm]
theorem Go_loop (l : List Int) (h : By l) (hl : l.length ≤ 140737488351232) : ∀ (j i k : Nat) (s : Nat), i + j = l.length → j < k → s < 2 ^ 32 →
    crc_Go.lo1 l crc_halves.cst0 k (i : Int) (s : Int) = some (((F s (l.drop i)) ^^^ 4294967295 : Nat) : Int) := by
  intro j
  induction j with
  | zero =>
    intro i k s hi hk hs
    obtain ⟨k, rfl⟩ : ∃ m, k = m + 1 := ⟨k - 1, by omega⟩
    unfold crc_Go.lo1
    rw [if_neg (by omega), List.drop_of_length_le (by omega), F_nil]
    simp only [lt]
    rw [ones s hs]
  | succ j ih =>
    intro i k s hi hk hs
    obtain ⟨k, rfl⟩ : ∃ m, k = m + 1 := ⟨k - 1, by omega⟩
    have hil : i < l.length := by omega
    have hx := h _ (List.getElem_mem hil)
    have hg : l.getD i 0 = l[i] := by simp [List.getD_eq_getElem?_getD, List.getElem?_eq_getElem hil]
    obtain ⟨c, hc⟩ := Int.eq_ofNat_of_zero_le hx.1
    unfold crc_Go.lo1
    rw [if_pos (by omega), if_pos (by omega)]
    simp only [lt]
    rw [Int.toNat_natCast, hg, wu32, show l[i] % 4294967296 = l[i] by omega, hc, xor32 _ _ hs (by omega), half_val k (Nat.xor_lt_two_pow hs (by omega))]
    simp only [Option.bind_some]
    rw [half_val k (T_lt 4 (Nat.xor_lt_two_pow hs (by omega)))]
    simp only [Option.bind_some]
    rw [wi64 (by omega) (by omega), ← T_add, show (i : Int) + 1 = ((i + 1 : Nat) : Int) by omega]
    rw [ih (i + 1) k _ (by omega) (by omega) (T_lt 8 (Nat.xor_lt_two_pow hs (by omega)))]
    rw [List.drop_eq_getElem_cons hil, F_cons _ _ _ hx, hc]
    rfl
def goS (s : Nat) (l : List Int) : Nat := F (s ^^^ 4294967295) l ^^^ 4294967295
theorem Go_val {l : List Int} (h : By l) (hl : l.length ≤ 140737488351232) {s : Nat} (hs : s < 2 ^ 32) {k : Nat} (hk : l.length < k) : crc_Go.f k (s : Int) l = some ((goS s l : Nat) : Int) := by
  unfold crc_Go.f crc_halves.f
  simp only [Option.bind_some, lt]
  rw [ones s hs]
  have := Go_loop l h hl l.length 0 k (s ^^^ 4294967295) (by omega) hk (Nat.xor_lt_two_pow hs (by decide))
  exact this
theorem Sum_val {l : List Int} (h : By l) (hl : l.length ≤ 140737488351232) {k : Nat} (hk : l.length < k) : crc_Sum.f k l = some ((goS 0 l : Nat) : Int) := by
  unfold crc_Sum.f
  have := Go_val h hl (s := 0) (by decide) hk
  rw [show ((0 : Nat) : Int) = 0 from rfl] at this
  rw [this]
  rfl
theorem goS_lt {s : Nat} (hs : s < 2 ^ 32) {l : List Int} (h : By l) : goS s l < 2 ^ 32 := Nat.xor_lt_two_pow (F_lt (Nat.xor_lt_two_pow hs (by decide)) l h) (by decide)
end Go.Proofs.Ytbidihabicgedaa.Crc
