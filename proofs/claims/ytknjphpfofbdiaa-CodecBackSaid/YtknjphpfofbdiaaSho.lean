/- What the codec's short numbers compute: as few bytes of seven bits as there need be; no condition. -/
import Derived.Test.YtknjphpfofbdiaaCod
namespace Go.Proofs.Ytknjphpfofbdiaa.Sho
open Go Go.RowKit Go.Proofs.Ytknjphpfofbdiaa.Sx Go.Proofs.Ytknjphpfofbdiaa.G Go.Proofs.Ytknjphpfofbdiaa.Bt Go.Proofs.Ytknjphpfofbdiaa.Cod
set_option linter.unusedVariables false
/-! ### How many bits -/
def IsLen (v : Int) (L : Nat) : Prop := v < 2 ^ L ∧ (L = 0 ∧ v = 0 ∨ 1 ≤ L ∧ (2 : Int) ^ (L - 1) ≤ v)
theorem tb_all : (List.range 256).all (fun y => decide (0 ≤ bt bits_Len64.cst0 y ∧ bt bits_Len64.cst0 y ≤ 8 ∧ (y : Int) < 2 ^ (bt bits_Len64.cst0 y).toNat ∧ ((bt bits_Len64.cst0 y).toNat = 0 ∧ (y : Int) = 0 ∨ 1 ≤ (bt bits_Len64.cst0 y).toNat ∧ (2 : Int) ^ ((bt bits_Len64.cst0 y).toNat - 1) ≤ (y : Int)))) = true := by decide +kernel
theorem tb_val {y : Int} (h0 : 0 ≤ y) (h1 : y < 256) : ∃ L : Nat, bt bits_Len64.cst0 y = L ∧ L ≤ 8 ∧ IsLen y L := by
  obtain ⟨n, rfl⟩ := Int.eq_ofNat_of_zero_le h0
  have h := List.all_eq_true.1 tb_all n (List.mem_range.2 (by omega))
  obtain ⟨a, b, c, d⟩ := of_decide_eq_true h
  exact ⟨(bt bits_Len64.cst0 n).toNat, by omega, by omega, c, d⟩
theorem isLen_up {v : Int} {n L : Nat} (hv : 0 ≤ v) (h0 : n = 0 ∨ 1 ≤ v / 2 ^ n) (h : IsLen (v / 2 ^ n) L) : IsLen v (n + L) := by
  have hp : (0 : Int) < 2 ^ n := Int.pow_pos (by decide)
  obtain ⟨h1, h2⟩ := h
  refine ⟨?_, ?_⟩
  · rw [Int.pow_add, Int.mul_comm]
    exact Int.lt_mul_of_ediv_lt hp h1
  · rcases h2 with ⟨rfl, h2⟩ | ⟨h2, h3⟩
    · rcases h0 with rfl | h0
      · left
        refine ⟨rfl, ?_⟩
        simpa using h2
      · omega
    · right
      refine ⟨by omega, ?_⟩
      rw [show n + L - 1 = (L - 1) + n by omega, Int.pow_add]
      exact Int.mul_le_of_le_ediv hp h3
theorem cst_size : bits_Len64.cst0.size = 256 := by decide +kernel
theorem leaf {v y : Int} (n : Nat) (hv : 0 ≤ v) (hy : y = v / 2 ^ n) (h0 : n = 0 ∨ 1 ≤ y) (hy0 : 0 ≤ y) (h1 : y < 256) : ∃ L : Nat, bt bits_Len64.cst0 (y % 256) = L ∧ L ≤ 8 ∧ IsLen v (n + L) ∧ 0 ≤ y % 256 ∧ y % 256 < (bits_Len64.cst0.size : Int) := by
  have e : y % 256 = y := by omega
  rw [e]
  obtain ⟨L, h2, h3, h4⟩ := tb_val hy0 h1
  subst hy
  exact ⟨L, h2, h3, isLen_up hv h0 h4, hy0, by rw [cst_size]; exact h1⟩
theorem len_val (k : Nat) {v : Int} (h0 : 0 ≤ v) (h1 : v < 18446744073709551616) : ∃ L : Nat, bits_Len64.f k v = some (L : Int) ∧ L ≤ 64 ∧ IsLen v L := by
  unfold bits_Len64.f
  simp only [lt, wu8, fd _ (show (0 : Int) ≤ 4294967296 by decide), fd _ (show (0 : Int) ≤ 65536 by decide), fd _ (show (0 : Int) ≤ 256 by decide), dd (show (0 : Int) ≤ 4294967296 by decide), dd (show (0 : Int) ≤ 65536 by decide), Int.reduceMul, dd (show (0 : Int) ≤ 281474976710656 by decide)]
  by_cases c1 : v ≥ 4294967296
  · rw [if_pos c1]
    by_cases c2 : v / 4294967296 ≥ 65536
    · rw [if_pos c2]
      by_cases c3 : v / 281474976710656 ≥ 256
      · rw [if_pos c3]
        obtain ⟨L, e, hL, hI, a, b⟩ := leaf (y := v / 72057594037927936) 56 h0 rfl (.inr (by omega)) (by omega) (by omega)
        refine ⟨56 + L, ?_, by omega, hI⟩
        rw [if_pos a, if_pos b, e]
        simp [IntKind.wrap, IntKind.bits, IntKind.signed]
        omega
      · rw [if_neg c3]
        obtain ⟨L, e, hL, hI, a, b⟩ := leaf (y := v / 281474976710656) 48 h0 rfl (.inr (by omega)) (by omega) (by omega)
        refine ⟨48 + L, ?_, by omega, hI⟩
        rw [if_pos a, if_pos b, e]
        simp [IntKind.wrap, IntKind.bits, IntKind.signed]
        omega
    · rw [if_neg c2]
      by_cases c3 : v / 4294967296 ≥ 256
      · rw [if_pos c3]
        obtain ⟨L, e, hL, hI, a, b⟩ := leaf (y := v / 1099511627776) 40 h0 rfl (.inr (by omega)) (by omega) (by omega)
        refine ⟨40 + L, ?_, by omega, hI⟩
        rw [if_pos a, if_pos b, e]
        simp [IntKind.wrap, IntKind.bits, IntKind.signed]
        omega
      · rw [if_neg c3]
        obtain ⟨L, e, hL, hI, a, b⟩ := leaf (y := v / 4294967296) 32 h0 rfl (.inr (by omega)) (by omega) (by omega)
        refine ⟨32 + L, ?_, by omega, hI⟩
        rw [if_pos a, if_pos b, e]
        simp [IntKind.wrap, IntKind.bits, IntKind.signed]
        omega
  · rw [if_neg c1]
    by_cases c2 : v ≥ 65536
    · rw [if_pos c2]
      by_cases c3 : v / 65536 ≥ 256
      · rw [if_pos c3]
        obtain ⟨L, e, hL, hI, a, b⟩ := leaf (y := v / 16777216) 24 h0 rfl (.inr (by omega)) (by omega) (by omega)
        refine ⟨24 + L, ?_, by omega, hI⟩
        rw [if_pos a, if_pos b, e]
        simp [IntKind.wrap, IntKind.bits, IntKind.signed]
        omega
      · rw [if_neg c3]
        obtain ⟨L, e, hL, hI, a, b⟩ := leaf (y := v / 65536) 16 h0 rfl (.inr (by omega)) (by omega) (by omega)
        refine ⟨16 + L, ?_, by omega, hI⟩
        rw [if_pos a, if_pos b, e]
        simp [IntKind.wrap, IntKind.bits, IntKind.signed]
        omega
    · rw [if_neg c2]
      by_cases c3 : v ≥ 256
      · rw [if_pos c3]
        obtain ⟨L, e, hL, hI, a, b⟩ := leaf (y := v / 256) 8 h0 rfl (.inr (by omega)) (by omega) (by omega)
        refine ⟨8 + L, ?_, by omega, hI⟩
        rw [if_pos a, if_pos b, e]
        simp [IntKind.wrap, IntKind.bits, IntKind.signed]
        omega
      · rw [if_neg c3]
        obtain ⟨L, e, hL, hI, a, b⟩ := leaf (y := v) 0 h0 (by simp) (.inl rfl) (by omega) (by omega)
        refine ⟨0 + L, ?_, by omega, hI⟩
        rw [if_pos a, if_pos b, e]
        simp [IntKind.wrap, IntKind.bits, IntKind.signed]
        omega
/-! ### How many bytes -/
theorem p128 (n : Nat) : (128 : Int) ^ n = 2 ^ (7 * n) := by rw [Int.pow_mul]; rfl
theorem pmono {b : Int} (hb : 1 ≤ b) {m n : Nat} (h : m ≤ n) : b ^ m ≤ b ^ n := by
  induction h with
  | refl => exact Int.le_refl _
  | @step m' h ih =>
    rw [Int.pow_succ]
    have h1 : (0 : Int) < b ^ m' := Int.pow_pos (show 0 < b by omega)
    have h2 := Int.mul_le_mul_of_nonneg_left hb (Int.le_of_lt h1)
    rw [Int.mul_one] at h2
    exact Int.le_trans ih h2
def IsGr (v : Int) (g : Nat) : Prop := 1 ≤ g ∧ v < 128 ^ g ∧ (g = 1 ∨ (128 : Int) ^ (g - 1) ≤ v)
theorem isGr_unique {v : Int} {g h : Nat} (hg : IsGr v g) (hh : IsGr v h) : g = h := by
  obtain ⟨a1, a2, a3⟩ := hg
  obtain ⟨b1, b2, b3⟩ := hh
  by_cases e : g = h
  · exact e
  · exfalso
    by_cases l : g < h
    · have := pmono (show (1 : Int) ≤ 128 by decide) (show g ≤ h - 1 by omega)
      rcases b3 with b3 | b3 <;> omega
    · have := pmono (show (1 : Int) ≤ 128 by decide) (show h ≤ g - 1 by omega)
      rcases a3 with a3 | a3 <;> omega
theorem groups_val (k : Nat) {v : Int} (h0 : 0 ≤ v) (h1 : v < 18446744073709551616) : ∃ g : Nat, codec_groups.f k v = some (g : Int) ∧ g ≤ 10 ∧ IsGr v g := by
  obtain ⟨L, e, hL, hI, hJ⟩ := len_val k h0 h1
  refine ⟨if L = 0 then 1 else (L + 6) / 7, ?_, by split <;> omega, ?_⟩
  · unfold codec_groups.f
    rw [e]
    simp only [Option.bind_some, lt]
    rw [wi64 (n := (L : Int) + 7) (by omega) (by omega), wi64 (n := (L : Int) + 7 - 1) (by omega) (by omega), td _ (by omega), wi64 (by omega) (by omega)]
    congr 1
    split <;> split <;> omega
  · have hp := p128 (if L = 0 then 1 else (L + 6) / 7)
    have hq := p128 ((if L = 0 then 1 else (L + 6) / 7) - 1)
    refine ⟨by split <;> omega, ?_, ?_⟩
    · rw [hp]
      exact Int.lt_of_lt_of_le hI (pmono (by decide) (by split <;> omega))
    · rw [hq]
      rcases hJ with ⟨rfl, _⟩ | ⟨h2, h3⟩
      · left; rfl
      · by_cases h8 : L ≤ 7
        · left
          split <;> omega
        · right
          exact Int.le_trans (pmono (by decide) (by split <;> omega)) h3
theorem gr_ex {v : Int} (h0 : 0 ≤ v) (h1 : v < 18446744073709551616) : ∃ g : Nat, g ≤ 10 ∧ IsGr v g := by
  obtain ⟨g, _, h⟩ := groups_val 0 h0 h1
  exact ⟨g, h⟩
theorem groups_is (k : Nat) {v : Int} (h0 : 0 ≤ v) (h1 : v < 18446744073709551616) {g : Nat} (h : IsGr v g) : codec_groups.f k v = some (g : Int) := by
  obtain ⟨g', e, _, h'⟩ := groups_val k h0 h1
  rw [e, isGr_unique h h']
theorem isGr_down {v : Int} {g : Nat} (h : IsGr v (g + 2)) : IsGr (v / 128) (g + 1) := by
  obtain ⟨h1, h2, h3⟩ := h
  have h3 : (128 : Int) ^ (g + 1) ≤ v := by rcases h3 with h3 | h3 <;> first | omega | exact h3
  refine ⟨by omega, ?_, ?_⟩
  · rw [Int.pow_succ] at h2
    exact Int.ediv_lt_of_lt_mul (by decide) h2
  · right
    rw [Int.pow_succ] at h3
    exact Int.le_ediv_of_mul_le (by decide) h3
/-! ### The bytes -/
def sh : Nat → Int → List Int
  | 0, v => [v]
  | n + 1, v => (v % 128 + 128) :: sh n (v / 128)
theorem sh_length (n : Nat) : ∀ v, (sh n v).length = n + 1 := by
  induction n with
  | zero => intro v; rfl
  | succ n ih => intro v; simp [sh, ih]
theorem or_all : (List.range 256).all (fun b => decide (bits .or .u8 (b : Int) 128 = (b : Int) % 128 + 128 ∧ bits .andNot .u8 (b : Int) 128 = (b : Int) % 128)) = true := by decide +kernel
theorem or128 {b : Int} (h0 : 0 ≤ b) (h1 : b < 256) : bits .or .u8 b 128 = b % 128 + 128 := by
  obtain ⟨n, rfl⟩ := Int.eq_ofNat_of_zero_le h0
  exact (of_decide_eq_true (List.all_eq_true.1 or_all n (List.mem_range.2 (by omega)))).1
theorem andNot128 {b : Int} (h0 : 0 ≤ b) (h1 : b < 256) : bits .andNot .u8 b 128 = b % 128 := by
  obtain ⟨n, rfl⟩ := Int.eq_ofNat_of_zero_le h0
  exact (of_decide_eq_true (List.all_eq_true.1 or_all n (List.mem_range.2 (by omega)))).2
theorem short_loop : ∀ (j k : Nat) (x : Int) (acc : List Int), 0 ≤ x → x < 128 ^ (j + 1) → j ≤ 10 → j < k → acc.length + j + 1 ≤ 140737488355328 → codec_Short.l1 k x acc (j : Int) = some (acc ++ sh j x) := by
  intro j
  induction j with
  | zero =>
    intro k x acc h0 h1 hj hk hl
    obtain ⟨k, rfl⟩ : ∃ m, k = m + 1 := ⟨k - 1, by omega⟩
    unfold codec_Short.l1
    rw [if_neg (by simp), if_pos (by simp; omega), wu8, show x % 256 = x by simp at h1; omega]
    rfl
  | succ j ih =>
    intro k x acc h0 h1 hj hk hl
    obtain ⟨k, rfl⟩ : ∃ m, k = m + 1 := ⟨k - 1, by omega⟩
    unfold codec_Short.l1
    rw [if_pos (by omega)]
    simp only [lt]
    rw [if_pos (by simp; omega), wu8, or128 (by omega) (by omega), fd _ (by decide), wi64 (by omega) (by omega), show ((j + 1 : Nat) : Int) - 1 = (j : Int) by omega, ih k (x / 128) _ (by omega) (by rw [Int.pow_succ] at h1; exact Int.ediv_lt_of_lt_mul (by decide) h1) (by omega) (by omega) (by simp; omega)]
    rw [List.append_assoc, show x % 256 % 128 = x % 128 by omega]
    rfl
theorem codec_Short_val {l : List Int} (hl : l.length ≤ 140737488355000) {v : Int} (h0 : 0 ≤ v) (h1 : v < 18446744073709551616) {g : Nat} (hg : IsGr v g) (h10 : g ≤ 10) {k : Nat} (hk : 11 ≤ k) : codec_Short.f k l v = some (l ++ sh (g - 1) v) := by
  unfold codec_Short.f
  rw [if_pos (by simp; omega), groups_is k h0 h1 hg]
  simp only [Option.bind_some, List.nil_append]
  have := hg.1
  rw [wi64 (by omega) (by omega), show (g : Int) - 1 = ((g - 1 : Nat) : Int) by omega]
  exact short_loop (g - 1) k v l h0 (by rw [show g - 1 + 1 = g by omega]; exact hg.2.1) (by omega) (by omega) (by omega)
theorem refShort_loop : ∀ (j k : Nat) (x : Int) (acc : List Int), 0 ≤ x → x < 18446744073709551616 → IsGr x (j + 1) → j ≤ 10 → j < k → acc.length + j + 1 ≤ 140737488355328 → shadowboxref01_Short.l1 k x acc = some (acc ++ sh j x) := by
  intro j
  induction j with
  | zero =>
    intro k x acc h0 h01 h1 hj hk hl
    obtain ⟨k, rfl⟩ : ∃ m, k = m + 1 := ⟨k - 1, by omega⟩
    unfold shadowboxref01_Short.l1
    have h2 := h1.2.1
    simp at h2
    rw [if_neg (by omega), if_pos (by simp; omega), wu8, show x % 256 = x by omega]
    rfl
  | succ j ih =>
    intro k x acc h0 h01 h1 hj hk hl
    obtain ⟨k, rfl⟩ : ∃ m, k = m + 1 := ⟨k - 1, by omega⟩
    unfold shadowboxref01_Short.l1
    have h2 : (128 : Int) ^ (j + 1) ≤ x := by rcases h1.2.2 with h | h <;> first | omega | exact h
    have h3 := pmono (show (1 : Int) ≤ 128 by decide) (show 1 ≤ j + 1 by omega)
    rw [if_pos (by simp at h3; omega)]
    simp only [lt]
    rw [if_pos (by simp; omega), tm _ h0, td _ h0, wu64, wu8, wu64, show x / 128 % 18446744073709551616 = x / 128 by omega, ih k (x / 128) _ (by omega) (by omega) (isGr_down h1) (by omega) (by omega) (by simp; omega)]
    rw [List.append_assoc, show (x % 128 + 128) % 18446744073709551616 % 256 = x % 128 + 128 by omega]
    rfl
theorem refShort_val {l : List Int} (hl : l.length ≤ 140737488355000) {v : Int} (h0 : 0 ≤ v) (h1 : v < 18446744073709551616) {g : Nat} (hg : IsGr v g) (h10 : g ≤ 10) {k : Nat} (hk : 11 ≤ k) : shadowboxref01_Short.f k l v = some (l ++ sh (g - 1) v) := by
  unfold shadowboxref01_Short.f
  rw [if_pos (by simp; omega)]
  simp only [List.nil_append]
  have := hg.1
  exact refShort_loop (g - 1) k v l h0 h1 (by rw [show g - 1 + 1 = g by omega]; exact hg) (by omega) (by omega) (by omega)
end Go.Proofs.Ytknjphpfofbdiaa.Sho
