/- The document's cut of a row of sizes, and the greatest piece; no condition. -/
import Derived.Test.YtnkcadofhhcfaaaPrt
set_option linter.unusedVariables false
set_option linter.unusedSimpArgs false
namespace Go.Proofs.Ytnkcadofhhcfaaa.Prt
open Go Go.RowKit Go.Proofs.Ytnkcadofhhcfaaa.Sx Go.Proofs.Ytnkcadofhhcfaaa.G Go.Proofs.Ytnkcadofhhcfaaa.Bt

theorem rcut_lo4 (l : List Int) (hn : l.length ≤ 70000) (a : Int) (jo : Int → Option (List Int)) : ∀ (j k i : Nat) (s : Int), i + j = l.length → j < k → shadowboxref17_Cut.lo4 l a jo k s (i : Int) = if withinB (l.drop i) a = true then jo (mx s (l.drop i)) else some [] := by
  intro j
  induction j with
  | zero =>
    intro k i s h1 h2
    obtain ⟨k, rfl⟩ : ∃ k', k = k' + 1 := ⟨k - 1, by omega⟩
    rw [shadowboxref17_Cut.lo4, if_neg (by omega), List.drop_of_length_le (by omega)]
    rfl
  | succ j ih =>
    intro k i s h1 h2
    obtain ⟨k, rfl⟩ : ∃ k', k = k' + 1 := ⟨k - 1, by omega⟩
    have hi : i < l.length := by omega
    rw [shadowboxref17_Cut.lo4, if_pos (by omega), drop_cons hi]
    unfold shadowboxref17_Cut.jo5
    rw [if_pos (by omega), if_pos (by omega), Int.toNat_natCast]
    generalize hd : l.getD i 0 = x at *
    rw [wi64 (by omega) (by omega), show (i : Int) + 1 = ((i + 1 : Nat) : Int) by omega]
    by_cases h3 : x < 0
    · rw [if_pos h3, if_neg (by simp [withinB]; omega)]
    · rw [if_neg h3]
      by_cases h4 : x > a
      · rw [if_pos h4, if_neg (by simp [withinB]; omega)]
      · rw [if_neg h4, ih k (i + 1) x (by omega) (by omega), ih k (i + 1) s (by omega) (by omega), mx]
        have e : withinB (x :: l.drop (i + 1)) a = withinB (l.drop (i + 1)) a := by
          simp [withinB, show 0 ≤ x by omega, show x ≤ a by omega]
        rw [e]
        by_cases h5 : x > s
        · rw [if_pos h5, if_pos (show s < x by omega)]
        · rw [if_neg h5, if_neg (show ¬ s < x by omega)]
theorem rcut_lo3 {l : List Int} (hl : In 1073741824 l) (hn : l.length ≤ 70000) {t1 : List Int} {b : Int} (hb : b ≤ 1073741824) (hP : P l t1.length b) : ∀ (d k : Nat) (x : Int), x + d = b → 0 ≤ x → d + l.length + 1 < k → (∀ y, x ≤ y → y < b → ¬ P l t1.length y) → shadowboxref17_Cut.lo3 l t1 k x = some (gr b l 0 0) := by
  intro d
  induction d with
  | zero =>
    intro k x h1 h2 h3 h4
    obtain ⟨k, rfl⟩ : ∃ k', k = k' + 1 := ⟨k - 1, by omega⟩
    have e : x = b := by omega
    rw [shadowboxref17_Cut.lo3, rgreedy_val hl hn (by omega) (by omega), e]
    simp only [Option.bind_some]
    rw [if_neg (by unfold P at hP; omega)]
  | succ d ih =>
    intro k x h1 h2 h3 h4
    obtain ⟨k, rfl⟩ : ∃ k', k = k' + 1 := ⟨k - 1, by omega⟩
    have := h4 x (by omega) (by omega)
    rw [shadowboxref17_Cut.lo3, rgreedy_val hl hn (by omega) (by omega)]
    simp only [Option.bind_some]
    rw [if_pos (by unfold P at this; omega), wi64 (by omega) (by omega)]
    exact ih k (x + 1) (by omega) (by omega) (by omega) (fun y h5 h6 => h4 y (by omega) h6)
theorem rcut_val {l : List Int} {a : Int} (hn : l.length ≤ 60000) (h0 : l.length ≠ 0) (ha : 1 ≤ a ∧ a ≤ 1073741824) (hw : In a l) {b : Int} (h1 : mx 0 l ≤ b) (h2 : b ≤ a) (h3 : P l (gr a l 0 0).length b) (h4 : ∀ x, mx 0 l ≤ x → x < b → ¬ P l (gr a l 0 0).length x) {k : Nat} (hk : 1073741824 + 200000 ≤ k) : shadowboxref17_Cut.f k l a = some (gr b l 0 0) := by
  have hl : In 1073741824 l := fun x hx => by have := hw x hx; omega
  have hm := mx_ge l 0
  unfold shadowboxref17_Cut.f
  rw [if_neg (by omega), if_neg (by omega), if_neg (by omega), if_neg (by omega)]
  unfold shadowboxref17_Cut.jo1
  have e := rcut_lo4 l (by omega) a (shadowboxref17_Cut.jo2 k l a) l.length k 0 0 (by omega) (by omega)
  rw [show ((0 : Nat) : Int) = 0 from rfl, List.drop_zero, if_pos (within_in.2 hw)] at e
  rw [e]
  unfold shadowboxref17_Cut.jo2
  rw [rgreedy_val hl (by omega) (by omega) (by omega)]
  simp only [Option.bind_some]
  exact rcut_lo3 hl (by omega) (by omega) h3 (b - mx 0 l).toNat k _ (by omega) hm.1 (by omega) h4
theorem rcut_none {l : List Int} {a : Int} (h : l.length = 0 ∨ a < 1 ∨ a > 1073741824 ∨ ¬ In a l) (hn : l.length ≤ 60000) {k : Nat} (hk : 100000 ≤ k) : shadowboxref17_Cut.f k l a = some [] := by
  unfold shadowboxref17_Cut.f
  by_cases h1 : l.length = 0
  · rw [if_pos (by omega)]
  · rw [if_neg (by omega), if_neg (by omega)]
    by_cases h2 : a < 1
    · rw [if_pos h2]
    · rw [if_neg h2]
      by_cases h3 : a > 1073741824
      · rw [if_pos h3]
      · rw [if_neg h3]
        unfold shadowboxref17_Cut.jo1
        have e := rcut_lo4 l (by omega) a (shadowboxref17_Cut.jo2 k l a) l.length k 0 0 (by omega) (by omega)
        rw [show ((0 : Nat) : Int) = 0 from rfl, List.drop_zero, if_neg (fun hw => by
          rcases h with h | h | h | h
          · exact h1 h
          · exact h2 h
          · exact h3 h
          · exact h (within_in.1 hw))] at e
        exact e
/-- Both cuts are the same. -/
theorem cuts_same (l : List Int) (a : Int) (hn : l.length ≤ 60000) : ∃ c, part_Cut.f 1100000000 l a = some c ∧ shadowboxref17_Cut.f 1100000000 l a = some c ∧ c.length ≤ l.length + 1 := by
  by_cases h : l.length = 0 ∨ a < 1 ∨ a > 1073741824 ∨ ¬ In a l
  · exact ⟨[], cut_none h hn (by omega), rcut_none h hn (by omega), by simp⟩
  · have h0 : l.length ≠ 0 := fun e => h (.inl e)
    have ha : 1 ≤ a ∧ a ≤ 1073741824 := ⟨by
      have : ¬ a < 1 := fun e => h (.inr (.inl e))
      omega, by
      have : ¬ a > 1073741824 := fun e => h (.inr (.inr (.inl e)))
      omega⟩
    have hw : In a l := Classical.byContradiction fun e => h (.inr (.inr (.inr e)))
    obtain ⟨b, e1, e2, e3, e4, e5⟩ := cut_val hn h0 ha hw (k := 1100000000) (by omega)
    exact ⟨_, e1, rcut_val hn h0 ha hw e2 e3 e4 e5 (by omega), (gr_len b l 0 0).2⟩
theorem ints_lo2 (l : List Int) (hn : l.length ≤ 100000) : ∀ (j k i : Nat), i + j = l.length → j < k → shadowboxlaw17_ints.lo2 l l k (i : Int) = some true := by
  intro j
  induction j with
  | zero =>
    intro k i h1 h2
    obtain ⟨k, rfl⟩ : ∃ k', k = k' + 1 := ⟨k - 1, by omega⟩
    rw [shadowboxlaw17_ints.lo2, if_neg (by omega)]
  | succ j ih =>
    intro k i h1 h2
    obtain ⟨k, rfl⟩ : ∃ k', k = k' + 1 := ⟨k - 1, by omega⟩
    rw [shadowboxlaw17_ints.lo2, if_pos (by omega), if_pos (by omega), if_pos (by omega), if_pos rfl, wi64 (by omega) (by omega), show (i : Int) + 1 = ((i + 1 : Nat) : Int) by omega]
    exact ih k (i + 1) (by omega) (by omega)
theorem ints_same (l : List Int) (hn : l.length ≤ 100000) {k : Nat} (hk : l.length < k) : shadowboxlaw17_ints.f k l l = some true := by
  unfold shadowboxlaw17_ints.f shadowboxlaw17_ints.jo1
  rw [if_pos rfl]
  exact ints_lo2 l hn l.length k 0 (by omega) hk
/-! ### The greatest piece -/
def ris : List Int → Int → Int → Bool
  | [], p, n => decide (p = n)
  | x :: r, p, n => if x ≤ p then false else ris r x n
theorem rising_lo1 (e : List Int) (n : Int) (hn : e.length ≤ 100000) : ∀ (j k i : Nat) (p : Int), i + j = e.length → 0 < e.length → j < k → part_rising.lo1 e n k p (i : Int) = some (ris (e.drop i) p n) := by
  intro j
  induction j with
  | zero =>
    intro k i p h1 h0 h2
    obtain ⟨k, rfl⟩ : ∃ k', k = k' + 1 := ⟨k - 1, by omega⟩
    rw [part_rising.lo1, if_neg (by omega), if_pos (by omega), List.drop_of_length_le (by omega)]
    rfl
  | succ j ih =>
    intro k i p h1 h0 h2
    obtain ⟨k, rfl⟩ : ∃ k', k = k' + 1 := ⟨k - 1, by omega⟩
    have hi : i < e.length := by omega
    rw [part_rising.lo1, if_pos (by omega), if_pos (by omega), drop_cons hi, Int.toNat_natCast, ris]
    by_cases h : e.getD i 0 ≤ p
    · rw [if_pos h, if_pos h]
    · rw [if_neg h, if_neg h, wi64 (by omega) (by omega), show (i : Int) + 1 = ((i + 1 : Nat) : Int) by omega]
      exact ih k (i + 1) _ (by omega) h0 (by omega)
/-- The greatest sum of the pieces that end as told. -/
def gs (l : List Int) : Int → Int → List Int → Int
  | best, _, [] => best
  | best, p, x :: r => gs l (if best < ((l.take x.toNat).drop p.toNat).sum then ((l.take x.toNat).drop p.toNat).sum else best) x r
theorem sum_in {M : Int} (hM : 0 ≤ M) : ∀ {l : List Int}, In M l → 0 ≤ l.sum ∧ l.sum ≤ M * (l.length : Int)
  | [], _ => by simp
  | x :: r, h => by
    have hx := h x (by simp)
    have ih := sum_in hM h.tail
    simp only [List.sum_cons, List.length_cons]
    rw [show ((r.length + 1 : Nat) : Int) = (r.length : Int) + 1 by omega, Int.mul_add, Int.mul_one]
    omega
theorem ris_le : ∀ {e : List Int} {p n : Int}, ris e p n = true → p ≤ n
  | [], p, n, h => by
    have := of_decide_eq_true h
    omega
  | x :: r, p, n, h => by
    unfold ris at h
    by_cases c : x ≤ p
    · rw [if_pos c] at h; cases h
    · rw [if_neg c] at h
      have := ris_le h
      omega
theorem great_lo4 (e : List Int) (best q : Int) (xl : List Int) (hn : xl.length ≤ 70000) (hl : In 1073741824 xl) (lo : Int → Int → Int → Option Int) : ∀ (j k i : Nat) (s : Int), i + j = xl.length → j < k → 0 ≤ s → s ≤ 1073741824 * i →
    part_Greatest.lo4 e best q xl lo k s (i : Int) = lo (if best < s + (xl.drop i).sum then s + (xl.drop i).sum else best) (e.getD q.toNat 0) (IntKind.wrap .i64 (q + 1)) := by
  intro j
  induction j with
  | zero =>
    intro k i s h1 h2 h3 h4
    obtain ⟨k, rfl⟩ : ∃ k', k = k' + 1 := ⟨k - 1, by omega⟩
    rw [part_Greatest.lo4, if_neg (by omega), List.drop_of_length_le (by omega)]
    simp
  | succ j ih =>
    intro k i s h1 h2 h3 h4
    obtain ⟨k, rfl⟩ : ∃ k', k = k' + 1 := ⟨k - 1, by omega⟩
    have hi : i < xl.length := by omega
    have hx := getD_in hl hi
    rw [part_Greatest.lo4, if_pos (by omega), if_pos (by omega), drop_cons hi, Int.toNat_natCast]
    simp only [lt]
    rw [wi64 (n := s + xl.getD i 0) (by omega) (by omega), wi64 (n := (i : Int) + 1) (by omega) (by omega), show (i : Int) + 1 = ((i + 1 : Nat) : Int) by omega, ih k (i + 1) _ (by omega) (by omega) (by omega) (by omega), List.sum_cons, Int.add_assoc]
theorem great_lo2 {l e : List Int} (hl : In 1073741824 l) (hn : l.length ≤ 60000) (he : e.length ≤ 100000) : ∀ (j k q : Nat) (best p : Int), q + j = e.length → j + l.length + 1 < k → 0 ≤ p → ris (e.drop q) p (l.length : Int) = true →
    part_Greatest.lo2 l e k best p (q : Int) = some (gs l best p (e.drop q)) := by
  intro j
  induction j with
  | zero =>
    intro k q best p h1 h2 h3 h4
    obtain ⟨k, rfl⟩ : ∃ k', k = k' + 1 := ⟨k - 1, by omega⟩
    rw [part_Greatest.lo2, if_neg (by omega), List.drop_of_length_le (by omega), gs]
  | succ j ih =>
    intro k q best p h1 h2 h3 h4
    obtain ⟨k, rfl⟩ : ∃ k', k = k' + 1 := ⟨k - 1, by omega⟩
    have hq : q < e.length := by omega
    rw [drop_cons hq] at h4 ⊢
    generalize hx : e.getD q 0 = x at *
    unfold ris at h4
    by_cases c : x ≤ p
    · rw [if_pos c] at h4; cases h4
    · rw [if_neg c] at h4
      have hxn := ris_le h4
      rw [part_Greatest.lo2, if_pos (by omega)]
      unfold part_Greatest.jo3
      rw [Int.toNat_natCast, hx]
      repeat rw [if_pos (by omega)]
      simp only [lt]
      have hin : In 1073741824 ((l.take x.toNat).drop p.toNat) := fun y hy => hl y (List.mem_of_mem_take (List.mem_of_mem_drop hy))
      have := great_lo4 e best (q : Int) ((l.take x.toNat).drop p.toNat) (by simp; omega) hin (part_Greatest.lo2 l e k) ((l.take x.toNat).drop p.toNat).length k 0 0 (by omega) (by simp; omega) (by omega) (by omega)
      rw [show ((0 : Nat) : Int) = 0 from rfl, List.drop_zero, Int.zero_add, Int.toNat_natCast, hx] at this
      rw [this, gs, wi64 (by omega) (by omega), show (q : Int) + 1 = ((q + 1 : Nat) : Int) by omega]
      exact ih k (q + 1) _ x (by omega) (by omega) (by omega) h4
def gB (l e : List Int) : Int := if e.length = 0 then 0 else if ris e 0 (l.length : Int) = true then (if withinB l 1073741824 = true then gs l 0 0 e else 0) else 0
theorem Greatest_val {l e : List Int} (hn : l.length ≤ 60000) (he : e.length ≤ 100000) {k : Nat} (hk : 200000 ≤ k) : part_Greatest.f k l e = some (gB l e) := by
  unfold part_Greatest.f gB part_rising.f
  by_cases h0 : e.length = 0
  · have e0 : e = [] := List.eq_nil_of_length_eq_zero h0
    subst e0
    obtain ⟨k, rfl⟩ : ∃ k', k = k' + 1 := ⟨k - 1, by omega⟩
    rw [part_rising.lo1, if_neg (by simp), if_neg (by simp)]
    rfl
  · have hr := rising_lo1 e (l.length : Int) he e.length k 0 0 (by omega) (by omega) (by omega)
    rw [show ((0 : Nat) : Int) = 0 from rfl, List.drop_zero] at hr
    rw [hr, if_neg h0]
    simp only [Option.bind_some]
    by_cases h1 : ris e 0 (l.length : Int) = true
    · rw [if_pos h1, if_pos h1, within_val l (by omega) _ (by omega)]
      simp only [Option.bind_some]
      by_cases h2 : withinB l 1073741824 = true
      · rw [if_pos h2, if_pos h2]
        unfold part_Greatest.jo1
        have := great_lo2 (within_in.1 h2) hn he e.length k 0 0 0 (by omega) (by omega) (by omega) (by rw [List.drop_zero]; exact h1)
        rw [show ((0 : Nat) : Int) = 0 from rfl, List.drop_zero] at this
        exact this
      · rw [if_neg h2, if_neg h2]
    · rw [if_neg h1, if_neg h1]
/-! ### The document's -/
def inc : List Int → Int → Bool
  | [], _ => true
  | x :: r, p => if x ≤ p then false else inc r x
theorem ris_inc : ∀ (e : List Int) (p n : Int), ris e p n = (inc e p && decide (e.getLastD p = n))
  | [], p, n => rfl
  | x :: r, p, n => by
    unfold ris inc
    by_cases c : x ≤ p
    · rw [if_pos c, if_pos c]; rfl
    · rw [if_neg c, if_neg c, ris_inc r x n]
      cases r <;> rfl
theorem rgreat_lo5 (e : List Int) (he : e.length ≤ 100000) (jo : Option Int) : ∀ (j k i : Nat), i + j = e.length → 1 ≤ i → j < k → shadowboxref17_Greatest.lo5 e jo k (i : Int) = if inc (e.drop i) (e.getD (i - 1) 0) = true then jo else some 0 := by
  intro j
  induction j with
  | zero =>
    intro k i h1 h0 h2
    obtain ⟨k, rfl⟩ : ∃ k', k = k' + 1 := ⟨k - 1, by omega⟩
    rw [shadowboxref17_Greatest.lo5, if_neg (by omega), List.drop_of_length_le (by omega)]
    rfl
  | succ j ih =>
    intro k i h1 h0 h2
    obtain ⟨k, rfl⟩ : ∃ k', k = k' + 1 := ⟨k - 1, by omega⟩
    have hi : i < e.length := by omega
    rw [shadowboxref17_Greatest.lo5, if_pos (by omega), if_pos (by omega), wi64 (n := (i : Int) - 1) (by omega) (by omega), if_pos (by omega), if_pos (by omega), drop_cons hi, Int.toNat_natCast, show ((i : Int) - 1).toNat = i - 1 by omega, inc]
    simp only [lt]
    by_cases h : e.getD i 0 ≤ e.getD (i - 1) 0
    · rw [if_pos h, if_pos h]
      rfl
    · rw [if_neg h, if_neg h, wi64 (by omega) (by omega), show (i : Int) + 1 = ((i + 1 : Nat) : Int) by omega, ih k (i + 1) (by omega) (by omega) (by omega)]
      rfl
theorem take_sum (l : List Int) {i p : Nat} (hi : i < l.length) (hp : p ≤ i) : ((l.take (i + 1)).drop p).sum = ((l.take i).drop p).sum + l.getD i 0 := by
  rw [List.take_add_one, List.getElem?_eq_getElem hi, List.drop_append_of_le_length (by simp; omega), List.sum_append, List.getD_eq_getElem?_getD, List.getElem?_eq_getElem hi]
  simp
theorem rgreat_lo3 {l e : List Int} (hn : l.length ≤ 60000) (he : e.length ≤ 100000) : ∀ (j k i q p : Nat) (best x : Int) (r : List Int), i + j = l.length → j < k → In 1073741824 (l.take i) → p ≤ i → e.drop q = x :: r → (i : Int) ≤ x → ris r x (l.length : Int) = true →
    shadowboxref17_Greatest.lo3 l e k (if best < ((l.take i).drop p).sum then ((l.take i).drop p).sum else best) ((l.take i).drop p).sum (q : Int) (i : Int) = some (if withinB (l.drop i) 1073741824 = true then gs l best p (x :: r) else 0) := by
  intro j
  induction j with
  | zero =>
    intro k i q p best x r h1 h2 h3 h4 h5 h6 h7
    obtain ⟨k, rfl⟩ : ∃ k', k = k' + 1 := ⟨k - 1, by omega⟩
    have hx := ris_le h7
    rw [shadowboxref17_Greatest.lo3, if_neg (by omega), List.drop_of_length_le (by omega : l.length ≤ i), if_pos (show withinB [] 1073741824 = true from rfl)]
    have hr : r = [] := by
      cases r with
      | nil => rfl
      | cons y r =>
        exfalso
        unfold ris at h7
        by_cases c : y ≤ x
        · rw [if_pos c] at h7; cases h7
        · rw [if_neg c] at h7
          have := ris_le h7
          omega
    rw [hr, gs, gs, show x.toNat = i by omega, Int.toNat_natCast]
  | succ j ih =>
    intro k i q p best x r h1 h2 h3 h4 h5 h6 h7
    obtain ⟨k, rfl⟩ : ∃ k', k = k' + 1 := ⟨k - 1, by omega⟩
    have hi : i < l.length := by omega
    have hq : q < e.length := by
      have := congrArg List.length h5
      simp at this
      omega
    have hqx : e.getD q 0 = x := by
      have := drop_cons hq
      rw [h5] at this
      exact (List.cons.inj this).1.symm
    have hqr : e.drop (q + 1) = r := by
      have := drop_cons hq
      rw [h5] at this
      exact (List.cons.inj this).2.symm
    have hs := sum_in (by omega) (fun y hy => h3 y (List.mem_of_mem_drop hy) : In 1073741824 ((l.take i).drop p))
    have hsl : ((l.take i).drop p).length ≤ 60000 := by simp; omega
    have hts := take_sum l hi h4
    have htz := take_sum l hi (Nat.le_refl i)
    rw [List.drop_of_length_le (by simp; omega : (l.take i).length ≤ i), List.sum_nil] at htz
    rw [shadowboxref17_Greatest.lo3, if_pos (by omega)]
    unfold shadowboxref17_Greatest.jo4
    rw [if_pos (by omega), if_pos (by omega), drop_cons hi, Int.toNat_natCast, Int.toNat_natCast, hqx]
    generalize hc : l.getD i 0 = c at *
    by_cases c0 : c < 0
    · rw [if_pos c0, if_neg (by simp [withinB]; omega)]
    · rw [if_neg c0]
      by_cases c1 : c > 1073741824
      · rw [if_pos c1, if_neg (by simp [withinB]; omega)]
      · rw [if_neg c1, if_pos (by omega), if_pos (by omega)]
        have hin : In 1073741824 (l.take (i + 1)) := by
          intro y hy
          rw [List.take_add_one, List.mem_append] at hy
          rcases hy with hy | hy
          · exact h3 y hy
          · rw [List.getElem?_eq_getElem hi] at hy
            simp at hy
            rw [List.getD_eq_getElem?_getD, List.getElem?_eq_getElem hi] at hc
            simp at hc
            omega
        have hw : withinB (c :: l.drop (i + 1)) 1073741824 = withinB (l.drop (i + 1)) 1073741824 := by
          simp [withinB, show 0 ≤ c by omega, show c ≤ 1073741824 by omega]
        rw [hw]
        simp only [lt]
        generalize hS : ((l.take i).drop p).sum = s at *
        rw [wi64 (n := 0 + c) (by omega) (by omega), wi64 (n := s + c) (by omega) (by omega), wi64 (n := (i : Int) + 1) (by omega) (by omega), wi64 (n := (q : Int) + 1) (by omega) (by omega), show (i : Int) + 1 = ((i + 1 : Nat) : Int) by omega, show (q : Int) + 1 = ((q + 1 : Nat) : Int) by omega]
        by_cases hix : (i : Int) = x
        · rw [if_pos hix]
          cases r with
          | nil =>
            exfalso
            have := of_decide_eq_true h7
            omega
          | cons y r =>
            have h8 : ¬ y ≤ x := fun c => by
              unfold ris at h7
              rw [if_pos c] at h7
              cases h7
            have h9 : ris r y (l.length : Int) = true := by
              unfold ris at h7
              rw [if_neg h8] at h7
              exact h7
            have := ih k (i + 1) (q + 1) i (if best < s then s else best) y r (by omega) (by omega) hin (by omega) hqr (by omega) h9
            rw [htz] at this
            rw [gs, show x.toNat = i by omega, Int.toNat_natCast, hS, show (x : Int) = ((i : Nat) : Int) by omega, ← this]
            by_cases g : 0 + c > (if best < s then s else best)
            · rw [if_pos g, if_pos (show (if best < s then s else best) < 0 + c from g)]
            · rw [if_neg g, if_neg (show ¬ (if best < s then s else best) < 0 + c from g)]
        · rw [if_neg hix]
          have := ih k (i + 1) q p best x r (by omega) (by omega) hin (by omega) h5 (by omega) h7
          rw [hts] at this
          rw [← this]
          by_cases g : s + c > (if best < s then s else best)
          · rw [if_pos g, if_pos (by split at g <;> omega)]
          · rw [if_neg g]
            split at g
            · have hc0 : c = 0 := by omega
              rw [if_pos (by omega), if_pos (by omega), hc0, Int.add_zero]
            · rw [if_neg (by omega), if_neg (by omega)]
theorem rGreatest_val {l e : List Int} (hn : l.length ≤ 60000) (he : e.length ≤ 100000) {k : Nat} (hk : 200000 ≤ k) : shadowboxref17_Greatest.f k l e = some (gB l e) := by
  unfold shadowboxref17_Greatest.f gB
  by_cases h0 : e.length = 0
  · rw [if_pos (by omega), if_pos h0]
  · rw [if_neg (by omega), if_neg h0]
    simp only [lt]
    rw [wi64 (by omega) (by omega), if_pos (by omega), if_pos (by omega)]
    have hlast : e.getD ((e.length : Int) - 1).toNat 0 = e.getLastD 0 := by
      rw [show ((e.length : Int) - 1).toNat = e.length - 1 by omega, List.getD_eq_getElem?_getD, ← List.getLast?_eq_getElem?, List.getLastD_eq_getLast?]
    rw [hlast, ris_inc]
    by_cases h1 : e.getLastD 0 = (l.length : Int)
    · rw [if_pos h1, if_pos (by omega), decide_eq_true h1, Bool.and_true, show ((0 : Int)).toNat = 0 from rfl]
      have e0 := drop_cons (l := e) (i := 0) (by omega)
      rw [List.drop_zero] at e0
      by_cases h2 : e.getD 0 0 < 1
      · rw [if_pos h2, if_neg (by rw [e0, inc, if_pos (by omega)]; decide)]
      · rw [if_neg h2]
        unfold shadowboxref17_Greatest.jo1
        have h5 := rgreat_lo5 e he (shadowboxref17_Greatest.jo2 k l e) (e.length - 1) k 1 (by omega) (by omega) (by omega)
        rw [show ((1 : Nat) : Int) = 1 from rfl, show (1 - 1 : Nat) = 0 from rfl] at h5
        have hi : inc e 0 = inc (e.drop 1) (e.getD 0 0) := by
          have : inc e 0 = inc (e.getD 0 0 :: e.drop 1) 0 := congrArg (inc · 0) e0
          rw [this, inc, if_neg (by omega)]
        rw [h5, hi]
        by_cases h3 : inc (e.drop 1) (e.getD 0 0) = true
        · rw [if_pos h3, if_pos h3]
          unfold shadowboxref17_Greatest.jo2
          have hr : ris (e.drop 1) (e.getD 0 0) (l.length : Int) = true := by
            have h6 : ris e 0 (l.length : Int) = true := by rw [ris_inc, hi, h3, decide_eq_true h1]; rfl
            rw [e0, ris, if_neg (by omega)] at h6
            exact h6
          have := rgreat_lo3 hn he l.length k 0 0 0 0 (e.getD 0 0) (e.drop 1) (by omega) (by omega) (fun y hy => by simp at hy) (by omega) (by rw [List.drop_zero]; exact e0) (by omega) hr
          rw [← e0] at this
          simp only [List.take_zero, List.drop_zero, List.sum_nil] at this
          rw [show ((0 : Nat) : Int) = 0 from rfl] at this
          rw [if_neg (by omega)] at this
          rw [this]
        · rw [if_neg h3, if_neg h3]
    · rw [if_neg h1, decide_eq_false h1, Bool.and_false, if_neg (by decide)]
end Go.Proofs.Ytnkcadofhhcfaaa.Prt
