/- Cuts of a row of sizes: what the program and the document compute, as plain functions; no condition. -/
import Derived.Test.YtnkcadofhhcfaaaGz
import Derived.Test.YtnkcadofhhcfaaaBits
set_option linter.unusedVariables false
set_option linter.unusedSimpArgs false
namespace Go.Proofs.Ytnkcadofhhcfaaa.Prt
open Go Go.RowKit Go.Proofs.Ytnkcadofhhcfaaa.Sx Go.Proofs.Ytnkcadofhhcfaaa.G Go.Proofs.Ytnkcadofhhcfaaa.Bt
/-- All are between 0 and M. -/
def In (M : Int) (l : List Int) : Prop := ∀ x ∈ l, 0 ≤ x ∧ x ≤ M
theorem In.tail {M x : Int} {l : List Int} (h : In M (x :: l)) : In M l := fun y hy => h y (by simp [hy])
theorem In.drop {M : Int} {l : List Int} (h : In M l) (n : Nat) : In M (l.drop n) := fun x hx => h x (List.mem_of_mem_drop hx)
/-- The greedy cut's ends: from the piece that begins, index i, sum s. -/
def gr (b : Int) : List Int → Nat → Int → List Int
  | [], i, _ => [(i : Int)]
  | x :: r, i, s => if 0 < i ∧ s + x > b then (i : Int) :: gr b r (i + 1) x else gr b r (i + 1) (s + x)
theorem gr_len (b : Int) : ∀ (l : List Int) (i : Nat) (s : Int), 1 ≤ (gr b l i s).length ∧ (gr b l i s).length ≤ l.length + 1
  | [], i, s => by simp [gr]
  | x :: r, i, s => by
    unfold gr
    split
    · have := gr_len b r (i + 1) x
      simp; omega
    · have := gr_len b r (i + 1) (s + x)
      simp; omega
theorem drop_cons {l : List Int} {i : Nat} (h : i < l.length) : l.drop i = l.getD i 0 :: l.drop (i + 1) := by
  rw [List.drop_eq_getElem_cons h, List.getD_eq_getElem?_getD, List.getElem?_eq_getElem h]
  rfl
theorem getD_in {M : Int} {l : List Int} (h : In M l) {i : Nat} (hi : i < l.length) : 0 ≤ l.getD i 0 ∧ l.getD i 0 ≤ M := by
  rw [List.getD_eq_getElem?_getD, List.getElem?_eq_getElem hi]
  exact h _ (List.getElem_mem hi)
theorem greedy_lo1 {l : List Int} (hl : In 1073741824 l) (hn : l.length ≤ 70000) {b : Int} (hb : 0 ≤ b ∧ b ≤ 4294967296) : ∀ (j k i : Nat) (s : Int) (m : List Int), i + j = l.length → j < k → 0 ≤ s → s ≤ 1073741824 * i → m.length ≤ i →
    part_greedy.lo1 l b k m s (i : Int) = some (m ++ gr b (l.drop i) i s) := by
  intro j
  induction j with
  | zero =>
    intro k i s m h1 h2 h3 h4 h5
    obtain ⟨k, rfl⟩ : ∃ k', k = k' + 1 := ⟨k - 1, by omega⟩
    rw [part_greedy.lo1, if_neg (by omega), if_pos (by simp; omega), List.drop_of_length_le (by omega), gr, show l.length = i by omega]
  | succ j ih =>
    intro k i s m h1 h2 h3 h4 h5
    obtain ⟨k, rfl⟩ : ∃ k', k = k' + 1 := ⟨k - 1, by omega⟩
    have hi : i < l.length := by omega
    have hx := getD_in hl hi
    rw [part_greedy.lo1, if_pos (by omega), drop_cons hi]
    unfold part_greedy.jo2 gr
    simp only [lt]
    rw [if_pos (by omega), if_pos (by omega), Int.toNat_natCast]
    generalize hd : l.getD i 0 = x at *
    rw [wi64 (n := b - s) (by omega) (by omega), wi64 (n := 0 + x) (by omega) (by omega), wi64 (n := s + x) (by omega) (by omega), wi64 (n := (i : Int) + 1) (by omega) (by omega), show (i : Int) + 1 = ((i + 1 : Nat) : Int) by omega]
    by_cases h0 : 0 < i
    · rw [if_pos (by omega)]
      by_cases hc : s + x > b
      · rw [if_pos (by omega), if_pos (by simp; omega), if_pos ⟨h0, hc⟩, ih k (i + 1) _ _ (by omega) (by omega) (by omega) (by omega) (by simp; omega)]
        simp
      · rw [if_neg (by omega), if_neg (by omega), ih k (i + 1) _ _ (by omega) (by omega) (by omega) (by omega) (by omega)]
    · rw [if_neg (by omega), if_neg (by omega), ih k (i + 1) _ _ (by omega) (by omega) (by omega) (by omega) (by omega)]
theorem greedy_val {l : List Int} (hl : In 1073741824 l) (hn : l.length ≤ 70000) {b : Int} (hb : 0 ≤ b ∧ b ≤ 4294967296) {k : Nat} (hk : l.length < k) : part_greedy.f k l b = some (gr b l 0 0) := by
  unfold part_greedy.f
  have := greedy_lo1 hl hn hb l.length k 0 0 [] (by omega) hk (by omega) (by omega) (by simp)
  exact this
theorem rgreedy_lo1 {l : List Int} (hl : In 1073741824 l) (hn : l.length ≤ 70000) {b : Int} (hb : 0 ≤ b ∧ b ≤ 4294967296) : ∀ (j k i : Nat) (s : Int) (m : List Int), i + j = l.length → j < k → 0 ≤ s → s ≤ 1073741824 * i → m.length ≤ i →
    shadowboxref17_greedy.lo1 l b k m s (i : Int) = some (m ++ gr b (l.drop i) i s) := by
  intro j
  induction j with
  | zero =>
    intro k i s m h1 h2 h3 h4 h5
    obtain ⟨k, rfl⟩ : ∃ k', k = k' + 1 := ⟨k - 1, by omega⟩
    rw [shadowboxref17_greedy.lo1, if_neg (by omega), if_pos (by simp; omega), List.drop_of_length_le (by omega), gr, show l.length = i by omega]
  | succ j ih =>
    intro k i s m h1 h2 h3 h4 h5
    obtain ⟨k, rfl⟩ : ∃ k', k = k' + 1 := ⟨k - 1, by omega⟩
    have hi : i < l.length := by omega
    have hx := getD_in hl hi
    rw [shadowboxref17_greedy.lo1, if_pos (by omega), drop_cons hi]
    unfold shadowboxref17_greedy.jo2 gr
    simp only [lt]
    rw [Int.toNat_natCast]
    generalize hd : l.getD i 0 = x at *
    rw [wi64 (n := 0 + x) (by omega) (by omega), wi64 (n := s + x) (by omega) (by omega), wi64 (n := (i : Int) + 1) (by omega) (by omega), show (i : Int) + 1 = ((i + 1 : Nat) : Int) by omega]
    by_cases h0 : 0 < i
    · rw [if_pos (show (i : Int) > 0 by omega), if_pos (show 0 ≤ (i : Int) by omega), if_pos (show (i : Int) < (l.length : Int) by omega)]
      by_cases hc : s + x > b
      · rw [if_pos hc, if_pos (by simp; omega), if_pos ⟨h0, hc⟩, ih k (i + 1) _ _ (by omega) (by omega) (by omega) (by omega) (by simp; omega)]
        simp
      · rw [if_neg hc, if_neg (fun h => hc h.2), ih k (i + 1) _ _ (by omega) (by omega) (by omega) (by omega) (by omega)]
    · rw [if_neg (show ¬ (i : Int) > 0 by omega), if_pos (show 0 ≤ (i : Int) by omega), if_pos (show (i : Int) < (l.length : Int) by omega), if_neg (fun h => h0 h.1), ih k (i + 1) _ _ (by omega) (by omega) (by omega) (by omega) (by omega)]
theorem rgreedy_val {l : List Int} (hl : In 1073741824 l) (hn : l.length ≤ 70000) {b : Int} (hb : 0 ≤ b ∧ b ≤ 4294967296) {k : Nat} (hk : l.length < k) : shadowboxref17_greedy.f k l b = some (gr b l 0 0) := by
  unfold shadowboxref17_greedy.f
  have := rgreedy_lo1 hl hn hb l.length k 0 0 [] (by omega) hk (by omega) (by omega) (by simp)
  exact this
/-- A greater bound, no more pieces. -/
theorem gr_mono {b b' : Int} (hb : b ≤ b') : ∀ (l : List Int) (i : Nat) (s s' : Int), In b l → 0 ≤ s → 0 ≤ s' → (s' ≤ s → (gr b' l i s').length ≤ (gr b l i s).length) ∧ (gr b' l i s').length ≤ (gr b l i s).length + 1
  | [], i, s, s', _, _, _ => by simp [gr]
  | x :: r, i, s, s', h, p0, p0' => by
    have hx := h x (by simp)
    unfold gr
    have ih := gr_mono hb r (i + 1)
    by_cases h0 : 0 < i
    · by_cases c' : s' + x > b'
      · rw [if_pos (⟨h0, c'⟩ : 0 < i ∧ s' + x > b')]
        by_cases c : s + x > b
        · rw [if_pos (⟨h0, c⟩ : 0 < i ∧ s + x > b)]
          have := (ih x x h.tail hx.1 hx.1).1 (by omega)
          simp only [List.length_cons]
          omega
        · rw [if_neg (fun h => c h.2 : ¬ (0 < i ∧ s + x > b))]
          have h1 := (ih (s + x) x h.tail (by omega) hx.1).1 (by omega)
          simp only [List.length_cons]
          omega
      · rw [if_neg (fun h => c' h.2 : ¬ (0 < i ∧ s' + x > b'))]
        by_cases c : s + x > b
        · rw [if_pos (⟨h0, c⟩ : 0 < i ∧ s + x > b)]
          have := (ih x (s' + x) h.tail hx.1 (by omega)).2
          simp only [List.length_cons]
          omega
        · rw [if_neg (fun h => c h.2 : ¬ (0 < i ∧ s + x > b))]
          have h1 := ih (s + x) (s' + x) h.tail (by omega) (by omega)
          exact ⟨fun hs => h1.1 (by omega), h1.2⟩
    · rw [if_neg (fun h => h0 h.1 : ¬ (0 < i ∧ s' + x > b')), if_neg (fun h => h0 h.1 : ¬ (0 < i ∧ s + x > b))]
      have h1 := ih (s + x) (s' + x) h.tail (by omega) (by omega)
      exact ⟨fun hs => h1.1 (by omega), h1.2⟩
theorem gr_len_mono {b b' : Int} {l : List Int} (h : In b l) (hb : b ≤ b') : (gr b' l 0 0).length ≤ (gr b l 0 0).length := (gr_mono hb l 0 0 0 h (by omega) (by omega)).1 (by omega)
/-! ### Within -/
def withinB (l : List Int) (a : Int) : Bool := l.all fun x => decide (0 ≤ x ∧ x ≤ a)
theorem within_in {l : List Int} {a : Int} : withinB l a = true ↔ In a l := by
  unfold withinB In
  rw [List.all_eq_true]
  simp
theorem index_lo1 (l : List Int) (hn : l.length ≤ 1000000) (a : Int) : ∀ (j k i : Nat), i + j = l.length → j < k → ∃ r, slices_IndexFunc_int_int_s44.lo1 l a k (i : Int) = some r ∧ (r ≥ 0 ↔ withinB (l.drop i) a = false) := by
  intro j
  induction j with
  | zero =>
    intro k i h1 h2
    obtain ⟨k, rfl⟩ : ∃ k', k = k' + 1 := ⟨k - 1, by omega⟩
    rw [slices_IndexFunc_int_int_s44.lo1, if_neg (by omega), List.drop_of_length_le (by omega)]
    exact ⟨-1, rfl, by simp [withinB]⟩
  | succ j ih =>
    intro k i h1 h2
    obtain ⟨k, rfl⟩ : ∃ k', k = k' + 1 := ⟨k - 1, by omega⟩
    have hi : i < l.length := by omega
    rw [slices_IndexFunc_int_int_s44.lo1, if_pos (by omega), if_pos (by omega), drop_cons hi, Int.toNat_natCast]
    generalize hd : l.getD i 0 = x at *
    have hv : part_within_1.f k x a = some (!decide (0 ≤ x ∧ x ≤ a)) := by
      unfold part_within_1.f
      by_cases h0 : x < 0
      · rw [if_pos h0, decide_eq_false (by omega)]; rfl
      · rw [if_neg h0]
        by_cases h3 : x > a
        · rw [decide_eq_true h3, decide_eq_false (by omega)]; rfl
        · rw [decide_eq_false h3, decide_eq_true (by omega)]; rfl
    rw [hv]
    simp only [Option.bind_some]
    by_cases hx : 0 ≤ x ∧ x ≤ a
    · rw [decide_eq_true hx, if_neg (by decide), wi64 (by omega) (by omega), show (i : Int) + 1 = ((i + 1 : Nat) : Int) by omega]
      obtain ⟨r, e, hr⟩ := ih k (i + 1) (by omega) (by omega)
      refine ⟨r, e, hr.trans ?_⟩
      simp [withinB, hx]
    · rw [decide_eq_false hx, if_pos (by decide)]
      exact ⟨_, rfl, by simp [withinB, hx]⟩
theorem within_val (l : List Int) (hn : l.length ≤ 1000000) (a : Int) {k : Nat} (hk : l.length < k) : part_within.f k l a = some (withinB l a) := by
  unfold part_within.f slices_ContainsFunc_int_int_s44.f slices_IndexFunc_int_int_s44.f
  obtain ⟨r, e, hr⟩ := index_lo1 l hn a l.length k 0 (by omega) hk
  rw [show ((0 : Nat) : Int) = 0 from rfl] at e
  rw [e]
  simp only [Option.bind_some, List.drop_zero] at hr ⊢
  congr 1
  cases hw : withinB l a
  · rw [decide_eq_true (hr.2 hw)]; rfl
  · rw [decide_eq_false (fun h => by rw [hr.1 h] at hw; cases hw)]; rfl
/-! ### The greatest -/
def mx (s : Int) : List Int → Int
  | [] => s
  | x :: r => mx (if s < x then x else s) r
theorem mx_ge : ∀ (l : List Int) (s : Int), s ≤ mx s l ∧ (∀ x ∈ l, x ≤ mx s l) ∧ (mx s l = s ∨ mx s l ∈ l)
  | [], s => by simp [mx]
  | y :: r, s => by
    have ih := mx_ge r (if s < y then y else s)
    unfold mx
    refine ⟨?_, ?_, ?_⟩
    · have := ih.1
      split at this <;> omega
    · intro x hx
      rcases List.mem_cons.1 hx with rfl | hx
      · have := ih.1
        split at this <;> omega
      · exact ih.2.1 x hx
    · rcases ih.2.2 with h | h
      · by_cases c : s < y
        · rw [if_pos c] at h ⊢
          exact .inr (by rw [h]; simp)
        · rw [if_neg c] at h ⊢
          exact .inl h
      · exact .inr (by simp [h])
theorem max_lo2 (l : List Int) (hn : l.length ≤ 1000000) : ∀ (j k i : Nat) (s : Int), i + j = l.length → j < k → slices_Max_int_int.lo2 l k s (i : Int) = some (mx s (l.drop i)) := by
  intro j
  induction j with
  | zero =>
    intro k i s h1 h2
    obtain ⟨k, rfl⟩ : ∃ k', k = k' + 1 := ⟨k - 1, by omega⟩
    rw [slices_Max_int_int.lo2, if_neg (by omega), List.drop_of_length_le (by omega), mx]
  | succ j ih =>
    intro k i s h1 h2
    obtain ⟨k, rfl⟩ : ∃ k', k = k' + 1 := ⟨k - 1, by omega⟩
    have hi : i < l.length := by omega
    rw [slices_Max_int_int.lo2, if_pos (by omega), if_pos (by omega), drop_cons hi, Int.toNat_natCast, mx]
    simp only [lt]
    rw [wi64 (by omega) (by omega), show (i : Int) + 1 = ((i + 1 : Nat) : Int) by omega, ih k (i + 1) _ (by omega) (by omega)]
theorem max_val {a : Int} (l : List Int) (hn : l.length ≤ 1000000) (h0 : l.length ≠ 0) (hi : In a l) {k : Nat} (hk : l.length < k) : slices_Max_int_int.f k l = some (mx 0 l) := by
  unfold slices_Max_int_int.f slices_Max_int_int.jo1
  rw [if_neg (by omega), if_pos (by omega)]
  have := max_lo2 l hn (l.length - 1) k 1 (l.getD 0 0) (by omega) (by omega)
  rw [show ((1 : Nat) : Int) = 1 from rfl] at this
  rw [show ((0 : Int)).toNat = 0 from rfl, this]
  have hx := getD_in hi (i := 0) (by omega)
  have e := drop_cons (l := l) (i := 0) (by omega)
  rw [List.drop_zero] at e
  rw [e, List.getD_cons_zero, mx]
  congr 2
  split <;> omega
/-! ### The least bound -/
def P (l : List Int) (n : Nat) (b : Int) : Prop := (gr b l 0 0).length ≤ n
theorem search_lo1 {l : List Int} (hl : In 1073741824 l) (hn : l.length ≤ 70000) {t : Int} (ht : 0 ≤ t) (htl : In t l) {n : Nat} : ∀ (d k : Nat) (i j : Int), j - i ≤ d → 0 ≤ i → i ≤ j → t + j ≤ 4294967296 → d + l.length + 1 < k → P l n (t + j) → (∀ x, 0 ≤ x → x < i → ¬ P l n (t + x)) →
    ∃ r, sort_Search_s31.lo1 l t (n : Int) k i j = some r ∧ i ≤ r ∧ r ≤ j ∧ P l n (t + r) ∧ (∀ x, 0 ≤ x → x < r → ¬ P l n (t + x)) := by
  intro d
  induction d with
  | zero =>
    intro k i j hd h0 hij hj hk hP hno
    obtain ⟨k, rfl⟩ : ∃ k', k = k' + 1 := ⟨k - 1, by omega⟩
    rw [sort_Search_s31.lo1, if_neg (by omega)]
    exact ⟨i, rfl, by omega, by omega, by rw [show i = j by omega]; exact hP, hno⟩
  | succ d ih =>
    intro k i j hd h0 hij hj hk hP hno
    obtain ⟨k, rfl⟩ : ∃ k', k = k' + 1 := ⟨k - 1, by omega⟩
    rw [sort_Search_s31.lo1]
    by_cases h : i < j
    · rw [if_pos h]
      simp only [lt]
      rw [wi64 (n := i + j) (by omega) (by omega), wu64, show (i + j) % 18446744073709551616 = i + j by omega, fd _ (by omega), wi64 (n := (i + j) / 2) (by omega) (by omega)]
      unfold part_Cut_1.f
      rw [wi64 (n := t + (i + j) / 2) (by omega) (by omega), greedy_val hl hn (by omega) (by omega)]
      simp only [Option.bind_some]
      by_cases hp : P l n (t + (i + j) / 2)
      · have hp' : ((gr (t + (i + j) / 2) l 0 0).length : Int) ≤ (n : Int) := by unfold P at hp; omega
        rw [if_pos (decide_eq_true hp')]
        obtain ⟨r, e, g1, g2, g3, g4⟩ := ih k i ((i + j) / 2) (by omega) h0 (by omega) (by omega) (by omega) hp hno
        exact ⟨r, e, g1, by omega, g3, g4⟩
      · have hp' : ¬ ((gr (t + (i + j) / 2) l 0 0).length : Int) ≤ (n : Int) := by unfold P at hp; omega
        rw [if_neg (by rw [decide_eq_false hp']; decide), wi64 (by omega) (by omega)]
        obtain ⟨r, e, g1, g2, g3, g4⟩ := ih k ((i + j) / 2 + 1) j (by omega) (by omega) (by omega) (by omega) (by omega) hP (fun x hx0 hx => by
          intro hPx
          apply hp
          have hin : In (t + x) l := fun y hy => by
            have := htl y hy
            omega
          exact Nat.le_trans (gr_len_mono hin (by omega)) hPx)
        exact ⟨r, e, by omega, g2, g3, g4⟩
    · rw [if_neg h]
      exact ⟨i, rfl, by omega, by omega, by rw [show i = j by omega]; exact hP, hno⟩
/-- What the least bound makes of a row. -/
theorem cut_val {l : List Int} {a : Int} (hn : l.length ≤ 60000) (h0 : l.length ≠ 0) (ha : 1 ≤ a ∧ a ≤ 1073741824) (hw : In a l) {k : Nat} (hk : 1073741824 + 200000 ≤ k) :
    ∃ b, part_Cut.f k l a = some (gr b l 0 0) ∧ mx 0 l ≤ b ∧ b ≤ a ∧ P l (gr a l 0 0).length b ∧ (∀ x, mx 0 l ≤ x → x < b → ¬ P l (gr a l 0 0).length x) := by
  have hl : In 1073741824 l := fun x hx => by have := hw x hx; omega
  have hm := mx_ge l 0
  have hma : mx 0 l ≤ a := by
    rcases hm.2.2 with h | h
    · omega
    · exact (hw _ h).2
  unfold part_Cut.f
  rw [if_neg (by omega), if_neg (by omega), if_neg (by omega), if_neg (by omega), within_val l (by omega) a (by omega)]
  simp only [Option.bind_some]
  rw [if_pos (within_in.2 hw), greedy_val hl (by omega) (by omega) (by omega)]
  simp only [Option.bind_some]
  rw [max_val l (by omega) h0 hw (by omega)]
  simp only [Option.bind_some]
  rw [wi64 (by omega) (by omega)]
  unfold sort_Search_s31.f
  obtain ⟨r, e, g1, g2, g3, g4⟩ := search_lo1 hl (by omega) hm.1 (fun x hx => ⟨(hw x hx).1, hm.2.1 x hx⟩) (n := (gr a l 0 0).length) (a - mx 0 l).toNat k 0 (a - mx 0 l) (by omega) (by omega) (by omega) (by omega) (by omega) (by unfold P; rw [show mx 0 l + (a - mx 0 l) = a by omega]; exact Nat.le_refl _) (fun x h1 h2 => by omega)
  rw [e]
  simp only [Option.bind_some]
  rw [wi64 (by omega) (by omega), greedy_val hl (by omega) (by omega) (by omega)]
  simp only [Option.bind_some]
  refine ⟨mx 0 l + r, rfl, by omega, by omega, g3, fun x h1 h2 => ?_⟩
  have := g4 (x - mx 0 l) (by omega) (by omega)
  rwa [show mx 0 l + (x - mx 0 l) = x by omega] at this
theorem cut_none {l : List Int} {a : Int} (h : l.length = 0 ∨ a < 1 ∨ a > 1073741824 ∨ ¬ In a l) (hn : l.length ≤ 60000) {k : Nat} (hk : 100000 ≤ k) : part_Cut.f k l a = some [] := by
  unfold part_Cut.f
  by_cases h1 : l.length = 0
  · rw [if_pos (by omega)]
  · rw [if_neg (by omega), if_neg (by omega)]
    by_cases h2 : a < 1
    · rw [if_pos h2]
    · rw [if_neg h2]
      by_cases h3 : a > 1073741824
      · rw [if_pos h3]
      · rw [if_neg h3, within_val l (by omega) a (by omega)]
        simp only [Option.bind_some]
        rw [if_neg (fun hw => by
          rcases h with h | h | h | h
          · exact h1 h
          · exact h2 h
          · exact h3 h
          · exact h (within_in.1 hw))]
end Go.Proofs.Ytnkcadofhhcfaaa.Prt
