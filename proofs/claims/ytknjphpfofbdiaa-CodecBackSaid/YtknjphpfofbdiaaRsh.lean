/- What reading a short number computes; no condition. -/
import Derived.Test.YtknjphpfofbdiaaSho
namespace Go.Proofs.Ytknjphpfofbdiaa.Rsh
open Go Go.RowKit Go.Proofs.Ytknjphpfofbdiaa.Sx Go.Proofs.Ytknjphpfofbdiaa.G Go.Proofs.Ytknjphpfofbdiaa.Bt Go.Proofs.Ytknjphpfofbdiaa.Cod Go.Proofs.Ytknjphpfofbdiaa.Sho
set_option linter.unusedVariables false
theorem p128pos (i : Nat) : (0 : Int) ≤ 128 ^ i := Int.le_of_lt (Int.pow_pos (by decide))
def v7 : List Int → Int
  | [] => 0
  | x :: r => x % 128 + 128 * v7 r
theorem v7_bound : ∀ (l : List Int), 0 ≤ v7 l ∧ v7 l < 128 ^ l.length := by
  intro l
  induction l with
  | nil => simp [v7]
  | cons x r ih =>
    simp only [v7, List.length_cons]
    rw [show (128 : Int) ^ (r.length + 1) = 128 ^ r.length * 128 from Int.pow_succ _ _]
    omega
theorem v7_take_succ : ∀ (l : List Int) (i : Nat), i < l.length → v7 (l.take (i + 1)) = v7 (l.take i) + l.getD i 0 % 128 * 128 ^ i := by
  intro l
  induction l with
  | nil => intro i h; simp at h
  | cons x r ih =>
    intro i h
    cases i with
    | zero => simp [v7]
    | succ i =>
      have h2 := ih i (by simpa using h)
      simp only [List.take_succ_cons, v7, List.getD_cons_succ]
      rw [h2, Int.pow_succ]
      rw [Int.mul_add, Int.add_assoc]
      congr 2
      rw [← Int.mul_assoc, Int.mul_comm 128, Int.mul_assoc, Int.mul_comm 128]
theorem v7_drop {l : List Int} {i : Nat} (h : i < l.length) : v7 (l.drop i) = l.getD i 0 % 128 + 128 * v7 (l.drop (i + 1)) := by
  rw [List.drop_eq_getElem_cons h]
  simp [v7, List.getD_eq_getElem?_getD, List.getElem?_eq_getElem h]
theorem v7_drop_le (l : List Int) : ∀ i, v7 (l.drop i) ≤ v7 l := by
  intro i
  induction i with
  | zero => simp
  | succ i ih =>
    by_cases h : i < l.length
    · have h1 := v7_drop h
      have h2 := v7_bound (l.drop (i + 1))
      omega
    · have h2 := v7_bound l
      rw [List.drop_of_length_le (by omega)]
      simp [v7]
      omega
/-- How many bytes stand ahead of the last one. -/
def Run (l : List Int) (k : Nat) : Prop := (∀ j, j < k → 128 ≤ l.getD j 0) ∧ k ≤ l.length ∧ k ≤ 10 ∧ (k = l.length ∨ k = 10 ∨ l.getD k 0 < 128)
theorem run_ex (l : List Int) : ∃ k, Run l k := by
  have : ∀ (j i : Nat), i + j = min 10 l.length → (∀ m, m < i → 128 ≤ l.getD m 0) → ∃ k, Run l k := by
    intro j
    induction j with
    | zero => intro i hi h; exact ⟨i, h, by omega, by omega, by omega⟩
    | succ j ih =>
      intro i hi h
      by_cases hb : 128 ≤ l.getD i 0
      · exact ih (i + 1) (by omega) (fun m hm => by
          by_cases e : m = i
          · subst e; exact hb
          · exact h m (by omega))
      · exact ⟨i, h, by omega, by omega, by omega⟩
  exact this (min 10 l.length) 0 (by omega) (fun m hm => by omega)
def rdK (l : List Int) (k : Nat) : Int × Int × Int :=
  if k = 10 then (0, 0, 11) else if k = l.length then (0, 0, 10) else if k = 9 ∧ l.getD 9 0 > 1 then (0, 0, 11) else if 0 < k ∧ l.getD k 0 = 0 then (0, 0, 11) else (v7 (l.take (k + 1)), (k : Int) + 1, 0)
theorem shl7 {y : Int} {i : Nat} (h0 : 0 ≤ y) (h1 : y * 128 ^ i < 18446744073709551616) (hi : i < 10) : shlv .u64 y (IntKind.wrap .i64 (7 * (i : Int))) = y * 128 ^ i := by
  rw [wi64 (by omega) (by omega)]
  unfold shlv
  rw [show ((7 * (i : Int)).toNat) = 7 * i by omega, show min (7 * i) (IntKind.bits .u64) = 7 * i by simp [IntKind.bits]; omega, ← p128, wu64]
  have : 0 ≤ y * 128 ^ i := Int.mul_nonneg h0 (Int.le_of_lt (Int.pow_pos (by decide)))
  exact Int.emod_eq_of_lt this h1
theorem or_pow7 {a y : Int} {i : Nat} (ha : 0 ≤ a) (hb : a < 128 ^ i) (h0 : 0 ≤ y) (h1 : y * 128 ^ i < 18446744073709551616) (hi : i < 10) : bits .or .u64 a (y * 128 ^ i) = a + y * 128 ^ i := by
  obtain ⟨m, rfl⟩ := Int.eq_ofNat_of_zero_le ha
  obtain ⟨n, rfl⟩ := Int.eq_ofNat_of_zero_le h0
  have e : ((128 : Int) ^ i) = ((2 ^ (7 * i) : Nat) : Int) := by rw [Nat.pow_mul]; simp
  rw [e] at hb h1 ⊢
  have hb' : m < 2 ^ (7 * i) := by exact_mod_cast hb
  have e2 : ((n : Int) * ((2 ^ (7 * i) : Nat) : Int)) = ((n * 2 ^ (7 * i) : Nat) : Int) := by simp
  rw [e2] at h1 ⊢
  have hm : m < 2 ^ 64 := Nat.lt_of_lt_of_le hb' (Nat.pow_le_pow_right (by decide) (by omega))
  rw [or_u .u64 rfl _ _ hm (by simp only [IntKind.bits]; omega), or_add hb']
  simp
theorem isGr_v7 {l : List Int} {i : Nat} (hl : i < l.length) (h : i = 0 ∨ 1 ≤ l.getD i 0 % 128) : IsGr (v7 (l.take (i + 1))) (i + 1) := by
  have h1 := v7_bound (l.take (i + 1))
  rw [List.length_take, Nat.min_eq_left (by omega)] at h1
  refine ⟨by omega, h1.2, ?_⟩
  rcases h with rfl | h
  · exact .inl rfl
  · right
    rw [v7_take_succ l i hl, Nat.add_sub_cancel]
    have h2 := v7_bound (l.take i)
    have h3 := Int.mul_le_mul_of_nonneg_right h (p128pos i)
    rw [Int.one_mul] at h3
    omega
theorem small_v7 {l : List Int} {i : Nat} (hl : i < l.length) (h : l.getD i 0 % 128 = 0) : v7 (l.take (i + 1)) < 128 ^ i := by
  have h1 := v7_bound (l.take i)
  rw [List.length_take, Nat.min_eq_left (by omega)] at h1
  rw [v7_take_succ l i hl, h]
  omega
theorem read_loop {l : List Int} (hb : Bytes l) {K : Nat} (hR : Run l K) : ∀ (j i k : Nat), i + j = min 10 l.length → i ≤ K → j < k → codec_ReadShort.l1 l (l.take (min 10 l.length)) k (v7 (l.take i)) (i : Int) = some (rdK l K) := by
  obtain ⟨r1, r2, r3, r4⟩ := hR
  intro j
  induction j with
  | zero =>
    intro i k hi hK hk
    obtain ⟨k, rfl⟩ : ∃ m, k = m + 1 := ⟨k - 1, by omega⟩
    unfold codec_ReadShort.l1
    rw [if_neg (by simp; omega)]
    have hKi : K = i := by omega
    subst hKi
    unfold codec_ReadShort_1.f rdK
    simp only [Option.bind_some]
    by_cases h : (l.length : Int) ≥ 10
    · rw [if_pos h, if_pos (by omega)]
    · rw [if_neg h, if_neg (by omega), if_pos (by omega)]
  | succ j ih =>
    intro i k hi hK hk
    obtain ⟨k, rfl⟩ : ∃ m, k = m + 1 := ⟨k - 1, by omega⟩
    have hlen : (l.take (min 10 l.length)).length = min 10 l.length := by simp
    have hgd : (l.take (min 10 l.length)).getD i 0 = l.getD i 0 := by simp [List.getD_eq_getElem?_getD, show i < min 10 l.length by omega, show i < l.length by omega]
    have hg := hb.get (i := i) (by omega)
    unfold codec_ReadShort.l1
    rw [if_pos (by omega)]
    unfold codec_ReadShort.j2
    rw [if_pos (by omega), if_pos (by omega)]
    simp only [lt]
    rw [Int.toNat_natCast, hgd, andNot128 hg.1 hg.2, wu64, show l.getD i 0 % 128 % 18446744073709551616 = l.getD i 0 % 128 by omega]
    obtain ⟨L, hL, hL64, hLa, hLb⟩ := len_val k (v := l.getD i 0 % 128) (by omega) (by omega)
    have hL7 : L ≤ 7 := by
      by_cases e : L ≤ 7
      · exact e
      · exfalso
        rcases hLb with ⟨h1, _⟩ | ⟨_, h1⟩
        · omega
        · have := pmono (show (1 : Int) ≤ 2 by decide) (show 7 ≤ L - 1 by omega)
          omega
    rw [hL]
    simp only [Option.bind_some]
    rw [wi64 (n := 7 * (i : Int)) (by omega) (by omega), wi64 (n := (L : Int) + 7 * (i : Int)) (by omega) (by omega)]
    unfold codec_ReadShort_1.f
    simp only [Option.bind_some]
    by_cases hbig : (L : Int) + 7 * (i : Int) > 64
    · rw [if_pos hbig]
      have hi9 : i = 9 := by omega
      have hL2 : 2 ≤ L := by omega
      have h2 : 2 ≤ l.getD i 0 % 128 := by
        rcases hLb with ⟨h1, _⟩ | ⟨_, h1⟩
        · omega
        · have := pmono (show (1 : Int) ≤ 2 by decide) (show 1 ≤ L - 1 by omega)
          omega
      unfold rdK
      by_cases hK10 : K = 10
      · rw [if_pos hK10]
      · have : K = 9 := by omega
        subst this
        subst hi9
        rw [if_neg (by omega), if_neg (by omega), if_pos ⟨rfl, by omega⟩]
    · rw [if_neg hbig, if_pos (by omega)]
      have hp : l.getD i 0 % 128 * 128 ^ i < 18446744073709551616 := by
        have h1 : l.getD i 0 % 128 + 1 ≤ 2 ^ L := hLa
        have h2 := Int.mul_le_mul_of_nonneg_right h1 (p128pos i)
        have h3 : (2 : Int) ^ L * 128 ^ i ≤ 18446744073709551616 := by
          rw [p128, ← Int.pow_add]
          exact Int.le_trans (pmono (by decide) (show L + 7 * i ≤ 64 by omega)) (by decide)
        have h4 : (0 : Int) < 128 ^ i := Int.pow_pos (by decide)
        rw [Int.add_mul, Int.one_mul] at h2
        omega
      have hvb := v7_bound (l.take i)
      rw [List.length_take, Nat.min_eq_left (by omega)] at hvb
      have hs := shl7 (y := l.getD i 0 % 128) (i := i) (by omega) hp (by omega)
      rw [wi64 (by omega) (by omega)] at hs
      rw [hs, or_pow7 hvb.1 hvb.2 (by omega) hp (by omega), ← v7_take_succ l i (by omega), wi64 (by omega) (by omega)]
      by_cases hlow : l.getD i 0 < 128
      · rw [if_pos hlow]
        have hKi : K = i := by
          by_cases e : K = i
          · exact e
          · have := r1 i (by omega)
            omega
        subst hKi
        have hu : v7 (l.take (K + 1)) < 18446744073709551616 := by
          rw [v7_take_succ l K (by omega)]
          have h1 : l.getD K 0 % 128 + 1 ≤ 2 ^ L := hLa
          have h2 := Int.mul_le_mul_of_nonneg_right h1 (p128pos K)
          have h3 : (2 : Int) ^ L * 128 ^ K ≤ 18446744073709551616 := by
            rw [p128, ← Int.pow_add]
            exact Int.le_trans (pmono (by decide) (show L + 7 * K ≤ 64 by omega)) (by decide)
          rw [Int.add_mul, Int.one_mul] at h2
          omega
        have h0 := (v7_bound (l.take (K + 1))).1
        unfold rdK
        by_cases hz : 0 < K ∧ l.getD K 0 = 0
        · obtain ⟨g, he, hg10, hgr⟩ := groups_val k h0 hu
          have hlt := small_v7 (l := l) (i := K) (by omega) (by omega)
          have hne : ¬ (g : Int) = (K : Int) + 1 := by
            intro e
            have e2 : g = K + 1 := by omega
            subst e2
            rcases hgr.2.2 with h | h
            · omega
            · rw [Nat.add_sub_cancel] at h
              omega
          rw [he]
          simp only [Option.bind_some]
          rw [if_neg hne, if_neg (by omega), if_neg (by omega), if_neg (by rintro ⟨rfl, h⟩; omega), if_pos hz]
        · have hgr := isGr_v7 (l := l) (i := K) (by omega) (by omega)
          rw [groups_is k h0 hu hgr]
          simp only [Option.bind_some]
          have h91 : ¬ (K = 9 ∧ l.getD 9 0 > 1) := by
            rintro ⟨rfl, h⟩
            have hL1 : L ≤ 1 := by omega
            have := pmono (show (1 : Int) ≤ 2 by decide) hL1
            omega
          rw [if_pos (by omega), if_neg (by omega), if_neg (by omega), if_neg h91, if_neg hz]
      · rw [if_neg hlow]
        have hne : K ≠ i := by
          rintro rfl
          omega
        have := ih (i + 1) k (by omega) (by omega) (by omega)
        rw [show ((i + 1 : Nat) : Int) = (i : Int) + 1 by omega] at this
        exact this
theorem codec_ReadShort_val {l : List Int} (hb : Bytes l) {K : Nat} (hR : Run l K) {k : Nat} (hk : 11 ≤ k) : codec_ReadShort.f k l = some (rdK l K) := by
  unfold codec_ReadShort.f
  have e : (if (10 : Int) < (l.length : Int) then (10 : Int) else (l.length : Int)) = ((min 10 l.length : Nat) : Int) := by split <;> omega
  rw [e]
  simp only [lt]
  rw [if_pos (by omega), if_pos (by omega), Int.toNat_natCast]
  have := read_loop hb hR (min 10 l.length) 0 k (by omega) (by omega) (by omega)
  simpa [v7] using this
/-! ### The document's answer -/
theorem low_loop (l : List Int) (x : Int) (T : Nat) (hT : T ≤ l.length) (hT10 : T ≤ 10) (hb : Bytes l) (hx0 : 0 ≤ x) (hx1 : x ≤ 100) (hu : v7 (l.take T) < 18446744073709551616) : ∀ (j k : Nat), j ≤ T → j < k →
    shadowboxref01_ReadShort.l2 l x k (v7 ((l.take T).drop j)) ((j : Int) - 1) = some (v7 (l.take T), x + 1, 0) := by
  intro j
  induction j with
  | zero =>
    intro k hj hk
    obtain ⟨k, rfl⟩ : ∃ m, k = m + 1 := ⟨k - 1, by omega⟩
    unfold shadowboxref01_ReadShort.l2
    rw [if_neg (by omega), wi64 (by omega) (by omega)]
    simp
  | succ j ih =>
    intro k hj hk
    obtain ⟨k, rfl⟩ : ∃ m, k = m + 1 := ⟨k - 1, by omega⟩
    unfold shadowboxref01_ReadShort.l2
    have hlen : (l.take T).length = T := by simp; omega
    have hg := hb.get (i := j) (by omega)
    have hd : (l.take T).getD j 0 = l.getD j 0 := by simp [List.getD_eq_getElem?_getD, show j < T by omega]
    have h1 := v7_drop (l := l.take T) (i := j) (by omega)
    rw [hd] at h1
    have h2 := v7_drop_le (l.take T) j
    have h3 := v7_bound ((l.take T).drop (j + 1))
    rw [if_pos (by omega), if_pos (by omega), if_pos (by omega)]
    simp only [lt]
    rw [show (((j + 1 : Nat) : Int) - 1).toNat = j by omega, tm _ hg.1, wu64, wu64, wu64, wi64 (by omega) (by omega)]
    rw [show (v7 ((l.take T).drop (j + 1)) * 128 % 18446744073709551616 + l.getD j 0 % 128 % 18446744073709551616) % 18446744073709551616 = v7 ((l.take T).drop j) by omega]
    rw [show (((j + 1 : Nat) : Int) - 1 - 1) = (j : Int) - 1 by omega]
    exact ih k (by omega) (by omega)
theorem l3_eq (l : List Int) (x : Int) : ∀ k a b, shadowboxref01_ReadShort.l3 l x k a b = shadowboxref01_ReadShort.l2 l x k a b := by
  intro k
  induction k with
  | zero => intro a b; rfl
  | succ k ih => intro a b; simp only [shadowboxref01_ReadShort.l3, shadowboxref01_ReadShort.l2, ih]
theorem l4_eq (l : List Int) (x : Int) : ∀ k a b, shadowboxref01_ReadShort.l4 l x k a b = shadowboxref01_ReadShort.l2 l x k a b := by
  intro k
  induction k with
  | zero => intro a b; rfl
  | succ k ih => intro a b; simp only [shadowboxref01_ReadShort.l4, shadowboxref01_ReadShort.l2, ih]
theorem l5_eq (l : List Int) (x : Int) : ∀ k a b, shadowboxref01_ReadShort.l5 l x k a b = shadowboxref01_ReadShort.l2 l x k a b := by
  intro k
  induction k with
  | zero => intro a b; rfl
  | succ k ih => intro a b; simp only [shadowboxref01_ReadShort.l5, shadowboxref01_ReadShort.l2, ih]
theorem v7_u64 {l : List Int} {K : Nat} (hK : K < l.length) (h9 : K ≤ 9) (hb : Bytes l) (h : ¬ (K = 9 ∧ l.getD 9 0 > 1)) : v7 (l.take (K + 1)) < 18446744073709551616 := by
  by_cases e : K = 9
  · subst e
    have hg := hb.get (i := 9) (by omega)
    rw [v7_take_succ l 9 hK]
    have h1 := v7_bound (l.take 9)
    rw [List.length_take, Nat.min_eq_left (by omega)] at h1
    have h2 : l.getD 9 0 % 128 ≤ 1 := by omega
    have h3 := Int.mul_le_mul_of_nonneg_right h2 (show (0 : Int) ≤ 128 ^ 9 by decide)
    have h4 : (128 : Int) ^ 9 = 9223372036854775808 := by decide
    rw [h4] at h1 h3 ⊢
    omega
  · have h1 := v7_bound (l.take (K + 1))
    rw [List.length_take, Nat.min_eq_left (by omega)] at h1
    have := pmono (show (1 : Int) ≤ 128 by decide) (show K + 1 ≤ 9 by omega)
    have h4 : (128 : Int) ^ 9 = 9223372036854775808 := by decide
    omega
theorem low_all (l : List Int) (K : Nat) (hK : K < l.length) (h9 : K ≤ 9) (hb : Bytes l) (h : ¬ (K = 9 ∧ l.getD 9 0 > 1)) {k : Nat} (hk : 11 ≤ k) : shadowboxref01_ReadShort.l2 l (K : Int) k 0 (K : Int) = some (v7 (l.take (K + 1)), (K : Int) + 1, 0) := by
  have := low_loop l (K : Int) (K + 1) (by omega) (by omega) hb (by omega) (by omega) (v7_u64 hK h9 hb h) (K + 1) k (by omega) (by omega)
  rw [List.drop_of_length_le (by simp; omega), show ((K + 1 : Nat) : Int) - 1 = (K : Int) by omega] at this
  exact this
theorem ref_j1 {l : List Int} (hb : Bytes l) {K : Nat} (hR : Run l K) {k : Nat} (hk : 11 ≤ k) : shadowboxref01_ReadShort.j1 k l (K : Int) = some (rdK l K) := by
  obtain ⟨r1, r2, r3, r4⟩ := hR
  unfold shadowboxref01_ReadShort.j1 rdK
  by_cases h10 : K = 10
  · rw [if_pos (by omega), if_pos h10]
  · rw [if_neg (by omega), if_neg h10]
    by_cases hl : K = l.length
    · rw [if_pos (by omega), if_pos hl]
    · rw [if_neg (by omega), if_neg hl]
      by_cases h9 : K = 9
      · subst h9
        rw [if_pos (by omega), if_pos (by omega)]
        rw [show ((9 : Int)).toNat = 9 from rfl]
        by_cases hg : l.getD 9 0 > 1
        · rw [if_pos hg, if_pos ⟨rfl, hg⟩]
        · rw [if_neg hg, if_neg (show ¬ (9 = 9 ∧ l.getD 9 0 > 1) from fun h => hg h.2), if_pos (by omega), if_pos (by omega), if_pos (by omega), Int.toNat_natCast]
          by_cases hz : l.getD 9 0 = 0
          · rw [if_pos hz, if_pos ⟨by omega, hz⟩]
          · rw [if_neg hz, if_neg (fun h => hz h.2)]
            exact low_all l 9 (by omega) (by omega) hb (fun h => hg h.2) hk
      · rw [if_neg (by omega), if_neg (show ¬ (K = 9 ∧ l.getD 9 0 > 1) from fun h => h9 h.1)]
        by_cases h0 : 0 < K
        · rw [if_pos (by omega), if_pos (by omega), if_pos (by omega), Int.toNat_natCast]
          by_cases hz : l.getD K 0 = 0
          · rw [if_pos hz, if_pos ⟨h0, hz⟩]
          · rw [if_neg hz, if_neg (fun h => hz h.2), l4_eq]
            exact low_all l K (by omega) (by omega) hb (fun h => h9 h.1) hk
        · rw [if_neg (by omega), if_neg (fun h => h0 h.1), l5_eq]
          exact low_all l K (by omega) (by omega) hb (fun h => h9 h.1) hk
theorem ref_l6 {l : List Int} (hb : Bytes l) {K : Nat} (hR : Run l K) (g : Int → Option (Int × Int × Int)) : ∀ (j i k : Nat), i + j = K → j < k → shadowboxref01_ReadShort.l6 l g k (i : Int) = g (K : Int) := by
  obtain ⟨r1, r2, r3, r4⟩ := hR
  intro j
  induction j with
  | zero =>
    intro i k hi hk
    obtain ⟨k, rfl⟩ : ∃ m, k = m + 1 := ⟨k - 1, by omega⟩
    have hiK : i = K := by omega
    subst hiK
    unfold shadowboxref01_ReadShort.l6
    by_cases h1 : (i : Int) < (l.length : Int)
    · rw [if_pos h1]
      by_cases h2 : (i : Int) < 10
      · rw [if_pos h2, if_pos (by omega), Int.toNat_natCast, if_neg (by omega)]
      · rw [if_neg h2]
    · rw [if_neg h1]
  | succ j ih =>
    intro i k hi hk
    obtain ⟨k, rfl⟩ : ∃ m, k = m + 1 := ⟨k - 1, by omega⟩
    unfold shadowboxref01_ReadShort.l6
    have := r1 i (by omega)
    rw [if_pos (by omega), if_pos (by omega), if_pos (by omega), Int.toNat_natCast, if_pos (by omega), wi64 (by omega) (by omega)]
    exact ih (i + 1) k (by omega) (by omega)
theorem ref_ReadShort_val {l : List Int} (hb : Bytes l) {K : Nat} (hR : Run l K) {k : Nat} (hk : 11 ≤ k) : shadowboxref01_ReadShort.f k l = some (rdK l K) := by
  unfold shadowboxref01_ReadShort.f
  have := ref_l6 hb hR (shadowboxref01_ReadShort.j1 k l) K 0 k (by omega) (by have := hR.2.2.1; omega)
  rw [show ((0 : Nat) : Int) = 0 from rfl] at this
  rw [this]
  exact ref_j1 hb hR hk
end Go.Proofs.Ytknjphpfofbdiaa.Rsh
