/- Short numbers and texts, read as they were laid; no condition. -/
import Derived.Test.YtknjphpfofbdiaaRsh
namespace Go.Proofs.Ytknjphpfofbdiaa.Rbk
open Go Go.RowKit Go.Proofs.Ytknjphpfofbdiaa.Sx Go.Proofs.Ytknjphpfofbdiaa.G Go.Proofs.Ytknjphpfofbdiaa.Bt Go.Proofs.Ytknjphpfofbdiaa.Cod Go.Proofs.Ytknjphpfofbdiaa.Sho Go.Proofs.Ytknjphpfofbdiaa.Rsh
set_option linter.unusedVariables false
theorem sh_v7 : ∀ (K : Nat) (l : List Int), Bytes l → K < l.length → (∀ j, j < K → 128 ≤ l.getD j 0) → l.getD K 0 < 128 → sh K (v7 (l.take (K + 1))) = l.take (K + 1) := by
  intro K
  induction K with
  | zero =>
    intro l hb hK h1 h2
    cases l with
    | nil => simp at hK
    | cons x r =>
      have := hb x (by simp)
      simp at h2
      simp [sh, v7]
      omega
  | succ K ih =>
    intro l hb hK h1 h2
    cases l with
    | nil => simp at hK
    | cons x r =>
      have hx := hb x (by simp)
      have h3 := h1 0 (by omega)
      simp at h3
      have := ih r (fun y hy => hb y (by simp [hy])) (by simpa using hK) (fun j hj => by simpa using h1 (j + 1) (by omega)) (by simpa using h2)
      simp only [List.take_succ_cons, v7, sh]
      have hv := (v7_bound (r.take (K + 1))).1
      rw [show (x % 128 + 128 * v7 (r.take (K + 1))) / 128 = v7 (r.take (K + 1)) by omega, show (x % 128 + 128 * v7 (r.take (K + 1))) % 128 + 128 = x by omega, this]
theorem sh_get : ∀ (n : Nat) (v : Int) (j : Nat), j < n → 128 ≤ (sh n v).getD j 0 := by
  intro n
  induction n with
  | zero => intro v j h; omega
  | succ n ih =>
    intro v j h
    cases j with
    | zero => simp [sh]; omega
    | succ j => simpa [sh] using ih (v / 128) j (by omega)
theorem sh_last : ∀ (n : Nat) (v : Int), (sh n v).getD n 0 = v / 128 ^ n := by
  intro n
  induction n with
  | zero => intro v; simp [sh]
  | succ n ih =>
    intro v
    have := ih (v / 128)
    simp only [sh, List.getD_cons_succ]
    rw [this, dd (by decide), Int.pow_succ, Int.mul_comm]
theorem v7_sh : ∀ (n : Nat) (v : Int), 0 ≤ v → v < 128 ^ (n + 1) → v7 (sh n v) = v := by
  intro n
  induction n with
  | zero =>
    intro v h0 h1
    simp [sh, v7]
    simp at h1
    omega
  | succ n ih =>
    intro v h0 h1
    simp only [sh, v7]
    rw [ih (v / 128) (by omega) (by rw [Int.pow_succ] at h1; exact Int.ediv_lt_of_lt_mul (by decide) h1)]
    omega
theorem sh_bytes : ∀ (n : Nat) (v : Int), 0 ≤ v → v < 128 ^ (n + 1) → Bytes (sh n v) := by
  intro n
  induction n with
  | zero =>
    intro v h0 h1
    simp at h1
    exact Bytes.cons h0 (by omega) Bytes.nil
  | succ n ih =>
    intro v h0 h1
    exact Bytes.cons (by omega) (by omega) (ih _ (by omega) (by rw [Int.pow_succ] at h1; exact Int.ediv_lt_of_lt_mul (by decide) h1))
theorem get_app {l m : List Int} {i : Nat} (h : i < l.length) : (l ++ m).getD i 0 = l.getD i 0 := by
  simp [List.getD_eq_getElem?_getD, List.getElem?_append_left h]
/-- What is laid is read, whatever stands behind it. -/
theorem sh_run {v : Int} (h0 : 0 ≤ v) {g : Nat} (hg : IsGr v g) (h10 : g ≤ 10) (m : List Int) : Run (sh (g - 1) v ++ m) (g - 1) := by
  have h1 := hg.1
  have hlen : (sh (g - 1) v).length = g := by rw [sh_length]; omega
  refine ⟨fun j hj => ?_, by rw [List.length_append]; omega, by omega, .inr (.inr ?_)⟩
  · rw [get_app (by omega)]
    exact sh_get _ _ _ hj
  · rw [get_app (by omega), sh_last]
    have h2 := hg.2.1
    rw [show g = g - 1 + 1 by omega, Int.pow_succ] at h2
    exact Int.ediv_lt_of_lt_mul (Int.pow_pos (by decide)) (by rw [Int.mul_comm]; exact h2)
theorem sh_rd {v : Int} (h0 : 0 ≤ v) (h64 : v < 18446744073709551616) {g : Nat} (hg : IsGr v g) (h10 : g ≤ 10) (m : List Int) : rdK (sh (g - 1) v ++ m) (g - 1) = (v, (g : Int), 0) := by
  have h1 := hg.1
  have hlen : (sh (g - 1) v).length = g := by rw [sh_length]; omega
  have hlast : (sh (g - 1) v ++ m).getD (g - 1) 0 = v / 128 ^ (g - 1) := by rw [get_app (by omega), sh_last]
  have hp : (0 : Int) < 128 ^ (g - 1) := Int.pow_pos (by decide)
  unfold rdK
  rw [if_neg (by omega), if_neg (by rw [List.length_append]; omega), if_neg, if_neg]
  · rw [show g - 1 + 1 = g by omega, List.take_append_of_le_length (by omega), List.take_of_length_le (by omega), v7_sh _ _ h0 (by rw [show g - 1 + 1 = g by omega]; exact hg.2.1)]
    congr 2
    omega
  · rintro ⟨h2, h3⟩
    rw [hlast] at h3
    rcases hg.2.2 with h | h
    · omega
    · have : 1 ≤ v / 128 ^ (g - 1) := Int.le_ediv_of_mul_le hp (by rw [Int.one_mul]; exact h)
      omega
  · rintro ⟨h2, h3⟩
    generalize sh (g - 1) v ++ m = X at hlast h3
    rw [h2] at hlast
    rw [hlast] at h3
    have h4 : (128 : Int) ^ 9 = 9223372036854775808 := by decide
    rw [h4] at h3
    omega
/-! ### Texts -/
theorem bl_bytes (s : ByteArray) : Bytes (bl s) := fun x hx => by
  simp only [bl, List.mem_map] at hx
  obtain ⟨b, _, rfl⟩ := hx
  have := b.toNat_lt
  omega
theorem str_bl (s : ByteArray) : strOfNums (bl s) = s := by
  have : (strOfNums (bl s)).data = s.data := by
    apply Array.ext'
    rw [strOfNums_data, bl, List.map_map]
    have : ((fun n : Int => UInt8.ofNat n.toNat) ∘ fun b : UInt8 => (b.toNat : Int)) = id := by
      funext b
      simp
    rw [this, List.map_id]
  cases h1 : strOfNums (bl s) with
  | mk d => cases s; rw [h1] at this; simp at this; subst this; rfl
def rtS (l : List Int) (K : Nat) (a : Int) : ByteArray × Int × Int :=
  if (rdK l K).2.2 = 0 then
    if a < 0 then (⟨#[]⟩, 0, 3) else if (rdK l K).1 > a then (⟨#[]⟩, 0, 3) else if (rdK l K).1 > (l.length : Int) - (rdK l K).2.1 then (⟨#[]⟩, 0, 10)
    else (strOfNums ((l.take ((rdK l K).2.1 + (rdK l K).1).toNat).drop (rdK l K).2.1.toNat), (rdK l K).2.1 + (rdK l K).1, 0)
  else (⟨#[]⟩, 0, (rdK l K).2.2)
theorem rd_cases {l : List Int} (hb : Bytes l) {K : Nat} (hR : Run l K) : rdK l K = (0, 0, 11) ∨ rdK l K = (0, 0, 10) ∨ (K < l.length ∧ K ≤ 9 ∧ l.getD K 0 < 128 ∧ ¬ (0 < K ∧ l.getD K 0 = 0) ∧ 0 ≤ v7 (l.take (K + 1)) ∧ v7 (l.take (K + 1)) < 18446744073709551616 ∧ rdK l K = (v7 (l.take (K + 1)), (K : Int) + 1, 0)) := by
  obtain ⟨r1, r2, r3, r4⟩ := hR
  unfold rdK
  by_cases h1 : K = 10
  · rw [if_pos h1]; exact .inl rfl
  · rw [if_neg h1]
    by_cases h2 : K = l.length
    · rw [if_pos h2]; exact .inr (.inl rfl)
    · rw [if_neg h2]
      by_cases h3 : K = 9 ∧ l.getD 9 0 > 1
      · rw [if_pos h3]; exact .inl rfl
      · rw [if_neg h3]
        by_cases h4 : 0 < K ∧ l.getD K 0 = 0
        · rw [if_pos h4]; exact .inl rfl
        · rw [if_neg h4]
          exact .inr (.inr ⟨by omega, by omega, by omega, h4, (v7_bound _).1, v7_u64 (by omega) (by omega) hb h3, rfl⟩)
theorem codec_ReadText_val {l : List Int} (hb : Bytes l) (hl : l.length ≤ 140737488355328) {K : Nat} (hR : Run l K) {a : Int} (ha : -9223372036854775808 ≤ a ∧ a < 9223372036854775808) {k : Nat} (hk : 11 ≤ k) : codec_ReadText.f k l a = some (rtS l K a) := by
  unfold codec_ReadText.f rtS
  rw [codec_ReadShort_val hb hR hk]
  simp only [Option.bind_some, lt]
  rcases rd_cases hb hR with e | e | ⟨h1, h2, h3, h4, h5, h6, e⟩
  · rw [e]; rfl
  · rw [e]; rfl
  · rw [e]
    simp only
    rw [if_pos True.intro, if_pos True.intro]
    by_cases c1 : a < 0
    · rw [if_pos c1, if_pos c1]
    · rw [if_neg c1, if_neg c1, wu64 a, show a % 18446744073709551616 = a by omega]
      by_cases c2 : v7 (l.take (K + 1)) > a
      · rw [if_pos c2, if_pos c2]
      · rw [if_neg c2, if_neg c2, wi64 (n := (l.length : Int) - ((K : Int) + 1)) (by omega) (by omega), wu64, show ((l.length : Int) - ((K : Int) + 1)) % 18446744073709551616 = (l.length : Int) - ((K : Int) + 1) by omega]
        by_cases c3 : v7 (l.take (K + 1)) > (l.length : Int) - ((K : Int) + 1)
        · rw [if_pos c3, if_pos c3]
        · rw [if_neg c3, if_neg c3, wi64 (n := v7 (l.take (K + 1))) (by omega) (by omega), wi64 (by omega) (by omega), if_pos (by omega), if_pos (by omega), if_pos (by omega), if_pos (by omega)]
theorem ref_ReadText_val {l : List Int} (hb : Bytes l) (hl : l.length ≤ 140737488355328) {K : Nat} (hR : Run l K) {a : Int} (ha : -9223372036854775808 ≤ a ∧ a < 9223372036854775808) {k : Nat} (hk : 11 ≤ k) : shadowboxref01_ReadText.f k l a = some (rtS l K a) := by
  rw [← codec_ReadText_val hb hl hR ha hk]
  unfold shadowboxref01_ReadText.f codec_ReadText.f
  rw [codec_ReadShort_val hb hR hk, ref_ReadShort_val hb hR hk]
  simp only [Option.bind_some, lt]
theorem codec_Text_val {l : List Int} {s : ByteArray} (hl : l.length + s.size ≤ 140737488355000) {g : Nat} (hg : IsGr (s.size : Int) g) (h10 : g ≤ 10) {k : Nat} (hk : 11 ≤ k) : codec_Text.f k l s = some (l ++ sh (g - 1) (s.size : Int) ++ bl s) := by
  unfold codec_Text.f
  have := hg.1
  rw [wu64, show (s.size : Int) % 18446744073709551616 = s.size by omega, codec_Short_val (by omega) (by omega) (by omega) hg h10 hk]
  simp only [Option.bind_some]
  rw [if_pos (by rw [List.length_append, sh_length]; omega)]
theorem ref_Text_val {l : List Int} {s : ByteArray} (hl : l.length + s.size ≤ 140737488355000) {g : Nat} (hg : IsGr (s.size : Int) g) (h10 : g ≤ 10) {k : Nat} (hk : 11 ≤ k) : shadowboxref01_Text.f k l s = some (l ++ sh (g - 1) (s.size : Int) ++ bl s) := by
  unfold shadowboxref01_Text.f
  have := hg.1
  rw [wu64, show (s.size : Int) % 18446744073709551616 = s.size by omega, refShort_val (by omega) (by omega) (by omega) hg h10 hk]
  simp only [Option.bind_some]
  rw [if_pos (by rw [List.length_append, sh_length]; omega)]
/-! ### Zig -/
theorem zig_val {n : Int} (h : -9223372036854775808 ≤ n ∧ n < 9223372036854775808) (k : Nat) : codec_Zig.f k n = some (if 0 ≤ n then 2 * n else -2 * n - 1) := by
  unfold codec_Zig.f
  simp only [lt]
  congr 1
  rw [fd _ (by decide)]
  by_cases h0 : 0 ≤ n
  · rw [if_pos h0, show n / 9223372036854775808 = 0 by omega, wu64 n, wu64 0, wu64]
    rw [show (0 : Int) % 18446744073709551616 = 0 by decide, xor_u64_zero _ (by omega) (by omega)]
    omega
  · rw [if_neg h0, show n / 9223372036854775808 = -1 by omega, wu64 n, wu64 (-1), wu64]
    rw [show (-1 : Int) % 18446744073709551616 = 18446744073709551615 by decide, xor_u64_ones _ (by omega) (by omega)]
    omega
theorem refZig_val {n : Int} (h : -9223372036854775808 ≤ n ∧ n < 9223372036854775808) (k : Nat) : shadowboxref01_Zig.f k n = some (if 0 ≤ n then 2 * n else -2 * n - 1) := by
  unfold shadowboxref01_Zig.f
  simp only [lt]
  by_cases h0 : 0 ≤ n
  · rw [if_pos h0, if_pos (by omega), wu64, wu64]
    congr 1
    omega
  · rw [if_neg h0, if_neg (by omega), wi64 (n := n + 1) (by omega) (by omega), wi64 (by omega) (by omega), wu64, wu64, wu64]
    congr 1
    omega
end Go.Proofs.Ytknjphpfofbdiaa.Rbk
