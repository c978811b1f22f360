/- The pure statement of PartLeast; no condition. -/
import Derived.Test.YtnkcadofhhcfaaaSPartLeast
import Derived.Test.YtnkcadofhhcfaaaPrf
set_option linter.unusedVariables false
set_option linter.unusedSimpArgs false
namespace Go.Proofs.Ytnkcadofhhcfaaa.Pure
open Go Go.RowKit Go.Proofs.Ytnkcadofhhcfaaa.Sx Go.Proofs.Ytnkcadofhhcfaaa.G Go.Proofs.Ytnkcadofhhcfaaa.Bt Go.Proofs.Ytnkcadofhhcfaaa.Prt
theorem in_dec {l : List Int} {a : Int} (h : withinB l a = true) : In a l := within_in.1 h
theorem cut_one : ∃ c, part_Cut.f 1100000000 [(1 : Int)] 1 = some c ∧ c.length = 1 := by
  obtain ⟨b, e, h1, h2, h3, h4⟩ := cut_val (l := [1]) (a := 1) (by decide) (by decide) (by decide) (in_dec (by decide)) (k := 1100000000) (by omega)
  refine ⟨_, e, ?_⟩
  have : mx 0 [1] = 1 := by decide
  have hb : b = 1 := by omega
  rw [hb]
  decide
/-- The cut that a number's bits tell: how many pieces, and the greatest sum. -/
def ev (mask : Nat) : List Int → Nat → Int → Int → Int → Int × Int
  | [], _, c, _, g => (c, g)
  | x :: r, i, c, s, g => if mask / 2 ^ (i - 1) % 2 = 1 then ev mask r (i + 1) (c + 1) x (if g < x then x else g) else ev mask r (i + 1) c (s + x) (if g < s + x then s + x else g)
theorem ev_g (mask : Nat) : ∀ (r : List Int) (i : Nat) (c s g : Int), g ≤ (ev mask r i c s g).2 ∧ c ≤ (ev mask r i c s g).1
  | [], i, c, s, g => ⟨Int.le_refl _, Int.le_refl _⟩
  | x :: r, i, c, s, g => by
    unfold ev
    split
    · have := ev_g mask r (i + 1) (c + 1) x (if g < x then x else g)
      refine ⟨?_, by omega⟩
      have := this.1
      split at this <;> omega
    · have := ev_g mask r (i + 1) c (s + x) (if g < s + x then s + x else g)
      refine ⟨?_, by omega⟩
      have := this.1
      split at this <;> omega
theorem ev_el (mask : Nat) : ∀ (r : List Int) (i : Nat) (c s g : Int), 0 ≤ s → (∀ x ∈ r, 0 ≤ x) → ∀ x ∈ r, x ≤ (ev mask r i c s g).2
  | [], i, c, s, g, _, _ => by simp
  | y :: r, i, c, s, g, h0, hr => by
    have hy := hr y (by simp)
    intro x hx
    unfold ev
    split
    · have h1 := ev_g mask r (i + 1) (c + 1) y (if g < y then y else g)
      rcases List.mem_cons.1 hx with rfl | hx
      · have := h1.1
        split at this <;> omega
      · exact ev_el mask r (i + 1) (c + 1) y _ hy (fun z hz => hr z (by simp [hz])) x hx
    · have h1 := ev_g mask r (i + 1) c (s + y) (if g < s + y then s + y else g)
      rcases List.mem_cons.1 hx with rfl | hx
      · have := h1.1
        split at this <;> omega
      · exact ev_el mask r (i + 1) c (s + y) _ (by omega) (fun z hz => hr z (by simp [hz])) x hx
/-- No cut within a bound has fewer pieces than the greedy one. -/
theorem ev_best {B : Int} (mask : Nat) : ∀ (r : List Int) (i : Nat) (c s s' g : Int), 1 ≤ i → 0 ≤ s → 0 ≤ s' → (∀ x ∈ r, 0 ≤ x) → (ev mask r i c s' g).2 ≤ B →
    (s ≤ s' → c + ((gr B r i s).length : Int) ≤ (ev mask r i c s' g).1 + 1) ∧ c + ((gr B r i s).length : Int) ≤ (ev mask r i c s' g).1 + 2
  | [], i, c, s, s', g, _, _, _, _, _ => by simp [gr, ev]
  | x :: r, i, c, s, s', g, hi, h0, h0', hr, hB => by
    have hx := hr x (by simp)
    have hr' : ∀ z ∈ r, 0 ≤ z := fun z hz => hr z (by simp [hz])
    unfold ev at hB ⊢
    unfold gr
    by_cases hb : mask / 2 ^ (i - 1) % 2 = 1
    · rw [if_pos hb] at hB ⊢
      by_cases hc : s + x > B
      · rw [if_pos (⟨by omega, hc⟩ : 0 < i ∧ s + x > B)]
        have := (ev_best mask r (i + 1) (c + 1) x x (if g < x then x else g) (by omega) hx hx hr' hB).1 (by omega)
        simp only [List.length_cons]
        omega
      · rw [if_neg (fun h => hc h.2 : ¬ (0 < i ∧ s + x > B))]
        have := (ev_best mask r (i + 1) (c + 1) (s + x) x (if g < x then x else g) (by omega) (by omega) hx hr' hB).2
        omega
    · rw [if_neg hb] at hB ⊢
      have hg := (ev_g mask r (i + 1) c (s' + x) (if g < s' + x then s' + x else g)).1
      have h7 : s' + x ≤ (if g < s' + x then s' + x else g) := by split <;> omega
      have hsB : s' + x ≤ B := by omega
      by_cases hc : s + x > B
      · rw [if_pos (⟨by omega, hc⟩ : 0 < i ∧ s + x > B)]
        have := (ev_best mask r (i + 1) c x (s' + x) (if g < s' + x then s' + x else g) (by omega) hx (by omega) hr' hB).1 (by omega)
        simp only [List.length_cons]
        omega
      · rw [if_neg (fun h => hc h.2 : ¬ (0 < i ∧ s + x > B))]
        have := ev_best mask r (i + 1) c (s + x) (s' + x) (if g < s' + x then s' + x else g) (by omega) (by omega) (by omega) hr' hB
        exact ⟨fun h => this.1 (by omega), this.2⟩
/-- Some number's bits tell the greedy cut. -/
theorem ev_ex {b : Int} : ∀ (r : List Int) (i : Nat) (s c g : Int), 1 ≤ i → In b r → s ≤ b → g ≤ b → ∃ M : Nat, M < 2 ^ r.length ∧ ∀ mask : Nat, mask / 2 ^ (i - 1) % 2 ^ r.length = M → (ev mask r i c s g).1 + 1 = c + ((gr b r i s).length : Int) ∧ (ev mask r i c s g).2 ≤ b
  | [], i, s, c, g, _, _, _, hg => ⟨0, by simp, fun mask _ => by simp [ev, gr]; exact hg⟩
  | x :: r, i, s, c, g, hi, hr, hs, hg => by
    have hx := hr x (by simp)
    have hsplit : ∀ (mask bit M : Nat), bit < 2 → mask / 2 ^ (i - 1) % 2 ^ (x :: r).length = bit + 2 * M → mask / 2 ^ (i - 1) % 2 = bit ∧ mask / 2 ^ (i + 1 - 1) % 2 ^ r.length = M := by
      intro mask bit M hb h
      rw [List.length_cons, Nat.pow_succ, Nat.mul_comm, Nat.mod_mul, Nat.div_div_eq_div_mul, ← Nat.pow_succ, show (i - 1).succ = i + 1 - 1 by omega] at h
      omega
    unfold gr
    by_cases hc : s + x > b
    · rw [if_pos (⟨by omega, hc⟩ : 0 < i ∧ s + x > b)]
      obtain ⟨M, h1, h2⟩ := ev_ex r (i + 1) x (c + 1) (if g < x then x else g) (by omega) hr.tail hx.2 (by split <;> omega)
      refine ⟨1 + 2 * M, by rw [List.length_cons, Nat.pow_succ]; omega, fun mask hm => ?_⟩
      obtain ⟨e1, e2⟩ := hsplit mask 1 M (by omega) hm
      have := h2 mask e2
      unfold ev
      rw [if_pos e1]
      simp only [List.length_cons]
      refine ⟨?_, this.2⟩
      have := this.1
      omega
    · rw [if_neg (fun h => hc h.2 : ¬ (0 < i ∧ s + x > b))]
      obtain ⟨M, h1, h2⟩ := ev_ex r (i + 1) (s + x) c (if g < s + x then s + x else g) (by omega) hr.tail (by omega) (by split <;> omega)
      refine ⟨0 + 2 * M, by rw [List.length_cons, Nat.pow_succ]; omega, fun mask hm => ?_⟩
      obtain ⟨e1, e2⟩ := hsplit mask 0 M (by omega) hm
      unfold ev
      rw [if_neg (by omega)]
      exact h2 mask e2
/-! ### The greedy cut's greatest piece is its bound -/
theorem S_step {l : List Int} {i p : Nat} (hi : i < l.length) (h2 : p ≤ i) : S l p (i + 1 : Nat) = S l p i + l.getD i 0 := by
  have := take_sum l hi h2
  simpa [S] using this
theorem S_one {l : List Int} {i : Nat} (hi : i < l.length) : S l i (i + 1 : Nat) = l.getD i 0 := by
  have := take_sum l hi (Nat.le_refl i)
  rw [List.drop_of_length_le (by simp; omega : (l.take i).length ≤ i), List.sum_nil] at this
  simpa [S] using this
theorem alls_head {b G : Int} {l : List Int} (hl : In b l) : ∀ (j i p : Nat), i + j = l.length → p ≤ i → AllS l G p (gr b (l.drop i) i (S l p i)) → S l p i ≤ G ∧ (∀ x ∈ l.drop i, x ≤ G ∨ G < S l p i) := by
  intro j
  induction j with
  | zero =>
    intro i p h1 h2 h
    rw [List.drop_of_length_le (by omega), gr] at h
    exact ⟨h.1, by rw [List.drop_of_length_le (by omega)]; simp⟩
  | succ j ih =>
    intro i p h1 h2 h
    have hi : i < l.length := by omega
    have hx := getD_in hl hi
    rw [drop_cons hi, gr] at h
    have hS := S_step (l := l) hi h2
    have hS1 := S_one (l := l) hi
    rw [drop_cons hi]
    by_cases c : 0 < i ∧ S l p i + l.getD i 0 > b
    · rw [if_pos c] at h
      have h3 := h.2
      rw [← hS1] at h3
      have := ih (i + 1) i (by omega) (by omega) h3
      refine ⟨h.1, fun x hx => .inl ?_⟩
      rcases List.mem_cons.1 hx with rfl | hx
      · omega
      · rcases this.2 x hx with h | h
        · exact h
        · omega
    · rw [if_neg c, ← hS] at h
      have := ih (i + 1) p (by omega) (by omega) h
      have hsp := sum_in (M := b) (by omega) (fun y hy => hl y (List.mem_of_mem_take (List.mem_of_mem_drop hy)) : In b ((l.take i).drop p))
      have hSv : S l p i = ((l.take i).drop p).sum := by simp [S]
      refine ⟨by omega, fun x hx => .inl ?_⟩
      rcases List.mem_cons.1 hx with rfl | hx
      · omega
      · rcases this.2 x hx with h | h
        · exact h
        · omega
theorem gr_same {b G : Int} (hG : G ≤ b) {l : List Int} (hl : In b l) : ∀ (j i p : Nat), i + j = l.length → p ≤ i → AllS l G p (gr b (l.drop i) i (S l p i)) → gr G (l.drop i) i (S l p i) = gr b (l.drop i) i (S l p i) := by
  intro j
  induction j with
  | zero =>
    intro i p h1 h2 h
    rw [List.drop_of_length_le (by omega), gr, gr]
  | succ j ih =>
    intro i p h1 h2 h
    have hi : i < l.length := by omega
    have hS := S_step (l := l) hi h2
    have hS1 := S_one (l := l) hi
    rw [drop_cons hi, gr] at h
    rw [drop_cons hi, gr, gr]
    by_cases c : 0 < i ∧ S l p i + l.getD i 0 > b
    · rw [if_pos c] at h
      have h3 := h.2
      rw [← hS1] at h3
      have := ih (i + 1) i (by omega) (by omega) h3
      rw [hS1] at this
      rw [if_pos c, if_pos ⟨c.1, by omega⟩, this]
    · rw [if_neg c, ← hS] at h
      have hh := (alls_head hl j (i + 1) p (by omega) (by omega) h).1
      have := ih (i + 1) p (by omega) (by omega) h
      rw [hS] at this hh
      rw [if_neg c, if_neg (fun h => by have := h.2; omega), this]
/-! ### The loop over all cuts -/
theorem bit_val : ∀ m : Fin 512, ∀ t : Fin 9, bits .and .i64 (shrv .i64 ((m.1 : Nat) : Int) ((t.1 : Nat) : Int)) 1 = ((m.1 / 2 ^ t.1 % 2 : Nat) : Int) := by decide +kernel
theorem shl_val : ∀ n : Fin 9, shlv .i64 (1 : Int) ((n.1 : Nat) : Int) = ((2 ^ n.1 : Nat) : Int) := by decide +kernel
def upd (a n g x6 x7 : Int) : Int × Int := if g ≤ a then (if n < x6 then (n, g) else if n = x6 then (if g < x7 then (n, g) else (x6, x7)) else (x6, x7)) else (x6, x7)
theorem least_lo3 {l : List Int} (hl : In 64 l) (hn : l.length ≤ 9) (a x6 x7 : Int) {mask : Nat} (hm : mask < 512) (lo : Int → Int → Int → Option (Int × Int)) : ∀ (j k i : Nat) (c s g : Int), i + j = l.length → 1 ≤ i → j < k → 0 ≤ s → s ≤ 64 * i → 0 ≤ c → c ≤ i →
    shadowboxlaw17_least.lo3 l a x6 x7 (mask : Int) lo k c s g (i : Int) = lo (upd a (ev mask (l.drop i) i c s g).1 (ev mask (l.drop i) i c s g).2 x6 x7).1 (upd a (ev mask (l.drop i) i c s g).1 (ev mask (l.drop i) i c s g).2 x6 x7).2 ((mask + 1 : Nat) : Int) := by
  intro j
  induction j with
  | zero =>
    intro k i c s g h1 hi h2 h3 h4 h5 h6
    obtain ⟨k, rfl⟩ : ∃ k', k = k' + 1 := ⟨k - 1, by omega⟩
    rw [shadowboxlaw17_least.lo3, if_neg (by omega), List.drop_of_length_le (by omega), ev, wi64 (by omega) (by omega)]
    unfold upd
    split
    · split
      · rfl
      · split
        · split <;> rfl
        · rfl
    · rfl
  | succ j ih =>
    intro k i c s g h1 hi h2 h3 h4 h5 h6
    obtain ⟨k, rfl⟩ : ∃ k', k = k' + 1 := ⟨k - 1, by omega⟩
    have hil : i < l.length := by omega
    have hx := getD_in hl hil
    have hbit := bit_val ⟨mask, hm⟩ ⟨i - 1, by omega⟩
    simp only at hbit
    rw [shadowboxlaw17_least.lo3, if_pos (by omega)]
    simp only [lt]
    rw [wi64 (n := (i : Int) - 1) (by omega) (by omega), wu64, show ((i : Int) - 1) % 18446744073709551616 = ((i - 1 : Nat) : Int) by omega, if_pos (by omega), hbit, Int.toNat_natCast, drop_cons hil, ev]
    generalize hd : l.getD i 0 = x at *
    rw [wi64 (n := 0 + x) (by omega) (by omega), wi64 (n := s + x) (by omega) (by omega), wi64 (n := c + 1) (by omega) (by omega), wi64 (n := (i : Int) + 1) (by omega) (by omega), show (i : Int) + 1 = ((i + 1 : Nat) : Int) by omega, show (0 : Int) + x = x by omega]
    by_cases hb : mask / 2 ^ (i - 1) % 2 = 1
    · rw [if_pos (by omega), if_pos (by omega), if_pos hb, ih k (i + 1) _ _ _ (by omega) (by omega) (by omega) (by omega) (by omega) (by omega) (by omega)]
    · rw [if_neg (by omega), if_pos (by omega), if_neg hb, ih k (i + 1) _ _ _ (by omega) (by omega) (by omega) (by omega) (by omega) (by omega) (by omega)]
def evl (l : List Int) (mask : Nat) : Int × Int := ev mask (l.drop 1) 1 1 (l.getD 0 0) (l.getD 0 0)
theorem least_lo1 {l : List Int} (hl : In 64 l) (hn : l.length ≤ 9) (h0 : l.length ≠ 0) {a n b : Int} (hA : ∀ mask, mask < 2 ^ (l.length - 1) → (evl l mask).2 ≤ a → n ≤ (evl l mask).1 ∧ ((evl l mask).1 = n → b ≤ (evl l mask).2))
    {m0 : Nat} (hm0 : m0 < 2 ^ (l.length - 1)) (hB : evl l m0 = (n, b)) (hba : b ≤ a) : ∀ (j k t : Nat) (x6 x7 : Int), t + j = 2 ^ (l.length - 1) → j + 20 < k → n ≤ x6 → (x6 = n → b ≤ x7) → (m0 < t → x6 = n ∧ x7 = b) → shadowboxlaw17_least.lo1 l a k x6 x7 (t : Int) = some (n, b) := by
  have hp : 2 ^ (l.length - 1) ≤ 2 ^ 8 := Nat.pow_le_pow_right (by decide) (by omega)
  have hshl := shl_val ⟨l.length - 1, by omega⟩
  simp only at hshl
  intro j
  induction j with
  | zero =>
    intro k t x6 x7 h1 h2 h3 h4 h5
    obtain ⟨k, rfl⟩ : ∃ k', k = k' + 1 := ⟨k - 1, by omega⟩
    obtain ⟨rfl, rfl⟩ := h5 (by omega)
    rw [shadowboxlaw17_least.lo1]
    simp only [lt]
    rw [wi64 (by omega) (by omega), wu64, show ((l.length : Int) - 1) % 18446744073709551616 = ((l.length - 1 : Nat) : Int) by omega, if_pos (by omega), hshl, if_neg (by omega)]
  | succ j ih =>
    intro k t x6 x7 h1 h2 h3 h4 h5
    obtain ⟨k, rfl⟩ : ∃ k', k = k' + 1 := ⟨k - 1, by omega⟩
    rw [shadowboxlaw17_least.lo1]
    simp only [lt]
    rw [wi64 (by omega) (by omega), wu64, show ((l.length : Int) - 1) % 18446744073709551616 = ((l.length - 1 : Nat) : Int) by omega, if_pos (by omega), hshl, if_pos (by omega)]
    unfold shadowboxlaw17_least.jo2
    have hx := getD_in hl (i := 0) (by omega)
    rw [if_pos (by omega), show ((0 : Int)).toNat = 0 from rfl]
    have e := least_lo3 hl hn a x6 x7 (mask := t) (by omega) (shadowboxlaw17_least.lo1 l a k) (l.length - 1) k 1 1 (l.getD 0 0) (l.getD 0 0) (by omega) (by omega) (by omega) hx.1 (by omega) (by omega) (by omega)
    rw [show ((1 : Nat) : Int) = 1 from rfl] at e
    rw [e]
    have hAt := hA t (by omega)
    rw [show ev t (l.drop 1) 1 1 (l.getD 0 0) (l.getD 0 0) = evl l t from rfl]
    have hBt : m0 = t → evl l t = (n, b) := fun h => by rw [← h]; exact hB
    generalize evl l t = y at *
    obtain ⟨c, g⟩ := y
    simp only at hAt hBt ⊢
    have key : n ≤ (upd a c g x6 x7).1 ∧ ((upd a c g x6 x7).1 = n → b ≤ (upd a c g x6 x7).2) ∧ (m0 < t + 1 → (upd a c g x6 x7).1 = n ∧ (upd a c g x6 x7).2 = b) := by
      have hm : m0 < t + 1 → m0 < t ∨ (c = n ∧ g = b) := fun h => by
        by_cases hlt : m0 < t
        · exact .inl hlt
        · have := hBt (by omega)
          exact .inr ⟨(Prod.mk.inj this).1, (Prod.mk.inj this).2⟩
      unfold upd
      by_cases hg : g ≤ a
      · rw [if_pos hg]
        have hA2 := hAt hg
        by_cases q1 : c < x6
        · rw [if_pos q1]
          refine ⟨hA2.1, hA2.2, fun h => ?_⟩
          rcases hm h with h | h
          · have := h5 h; exact absurd q1 (by omega)
          · exact h
        · rw [if_neg q1]
          by_cases q2 : c = x6
          · rw [if_pos q2]
            by_cases q3 : g < x7
            · rw [if_pos q3]
              refine ⟨hA2.1, hA2.2, fun h => ?_⟩
              rcases hm h with h | h
              · have := h5 h
                have := hA2.2 (by omega)
                exact absurd q3 (by omega)
              · exact h
            · rw [if_neg q3]
              refine ⟨h3, h4, fun h => ?_⟩
              rcases hm h with h | h
              · exact h5 h
              · have := h4 (by omega)
                exact ⟨by show x6 = n; omega, by show x7 = b; omega⟩
          · rw [if_neg q2]
            refine ⟨h3, h4, fun h => ?_⟩
            rcases hm h with h | h
            · exact h5 h
            · exact absurd h3 (by omega)
      · rw [if_neg hg]
        refine ⟨h3, h4, fun h => ?_⟩
        rcases hm h with h | h
        · exact h5 h
        · exact absurd hba (by omega)
    exact ih k (t + 1) _ _ (by omega) (by omega) key.1 key.2.1 key.2.2
theorem least_jo2 {y : Int} (hy : 1 ≤ y ∧ y ≤ 64) {l : List Int} (hl : In y l) (hn : l.length ≤ 9) : shadowboxlaw17_PartLeast.jo2 1100000000 y l = some true := by
  unfold shadowboxlaw17_PartLeast.jo2
  obtain ⟨c1, e1, e2⟩ := cut_one
  by_cases h0 : l.length = 0
  · rw [cut_none (.inl h0) (by omega) (by omega)]
    simp only [Option.bind_some]
    rw [if_pos (by omega), if_pos (by simp), e1]
    simp only [Option.bind_some]
    rw [decide_eq_true (by omega)]
  · obtain ⟨b, k1, k2, k3, k4, k5⟩ := cut_val (by omega) h0 (by omega) hl (k := 1100000000) (by omega)
    have hm := mx_ge l 0
    have hlb : In b l := fun x hx => ⟨(hl x hx).1, Int.le_trans (hm.2.1 x hx) k2⟩
    have hl64 : In 64 l := fun x hx => by have := hl x hx; omega
    have hS0 : S l ((0 : Nat) : Int) ((0 : Nat) : Int) = 0 := by simp [S]
    have hok := gr_ok (by omega) hlb l.length 0 0 (by omega) (by omega) (.inr ⟨rfl, by omega⟩) (by rw [hS0]; omega)
    rw [hS0, List.drop_zero, show ((0 : Nat) : Int) = 0 from rfl] at hok
    have hlen := gr_len b l 0 0
    have hnb : (gr b l 0 0).length = (gr y l 0 0).length := Nat.le_antisymm k4 (gr_len_mono hlb k3)
    -- the greatest piece is b
    have hge := gs_ge l (gr b l 0 0) 0 0
    have hle := gs_le (best := 0) hok (by omega)
    have hGb : gs l 0 0 (gr b l 0 0) = b := by
      have hs := gr_same hle hlb l.length 0 0 (by omega) (by omega) (by rw [hS0, List.drop_zero]; exact hge.2)
      have hh := alls_head (G := gs l 0 0 (gr b l 0 0)) hlb l.length 0 0 (by omega) (by omega) (by rw [hS0, List.drop_zero]; exact hge.2)
      rw [hS0, List.drop_zero] at hs hh
      have hmx : mx 0 l ≤ gs l 0 0 (gr b l 0 0) := by
        rcases hm.2.2 with h | h
        · omega
        · rcases hh.2 _ h with h | h
          · exact h
          · omega
      apply Classical.byContradiction
      intro hne
      refine k5 _ hmx (by omega) ?_
      unfold P
      rw [hs]
      exact k4
    -- the cuts of all numbers
    have e0 := drop_cons (l := l) (i := 0) (by omega)
    rw [List.drop_zero] at e0
    have hx0 := getD_in hl (i := 0) (by omega)
    have hg1 : ∀ B : Int, gr B l 0 0 = gr B (l.drop 1) 1 (l.getD 0 0) := fun B => by
      have : gr B l 0 0 = gr B (l.getD 0 0 :: l.drop 1) 0 0 := congrArg (fun z => gr B z 0 0) e0
      rw [this, gr, if_neg (by omega), Int.zero_add]
    have hd1 : ∀ x ∈ l.drop 1, 0 ≤ x := fun x hx => (hl x (List.mem_of_mem_drop hx)).1
    have hopt : ∀ (mask : Nat) (B : Int), (evl l mask).2 ≤ B → ((gr B l 0 0).length : Int) ≤ (evl l mask).1 := by
      intro mask B hB
      have := (ev_best (B := B) mask (l.drop 1) 1 1 (l.getD 0 0) (l.getD 0 0) (l.getD 0 0) (by omega) hx0.1 hx0.1 hd1 hB).1 (by omega)
      rw [← hg1] at this
      have e : (ev mask (l.drop 1) 1 1 (l.getD 0 0) (l.getD 0 0)).1 = (evl l mask).1 := rfl
      omega
    have hA : ∀ mask, mask < 2 ^ (l.length - 1) → (evl l mask).2 ≤ y → ((gr b l 0 0).length : Int) ≤ (evl l mask).1 ∧ ((evl l mask).1 = ((gr b l 0 0).length : Int) → b ≤ (evl l mask).2) := by
      intro mask _ hy2
      refine ⟨by rw [hnb]; exact hopt mask y hy2, fun he => ?_⟩
      apply Classical.byContradiction
      intro hlt
      have h2 := hopt mask (evl l mask).2 (Int.le_refl _)
      refine k5 (evl l mask).2 ?_ (by omega) (by unfold P; omega)
      have h3 := (ev_g mask (l.drop 1) 1 1 (l.getD 0 0) (l.getD 0 0)).1
      have h4 := ev_el mask (l.drop 1) 1 1 (l.getD 0 0) (l.getD 0 0) hx0.1 hd1
      rcases hm.2.2 with h | h
      · have : (ev mask (l.drop 1) 1 1 (l.getD 0 0) (l.getD 0 0)).2 = (evl l mask).2 := rfl
        omega
      · rw [e0] at h
        rcases List.mem_cons.1 h with h | h
        · rw [← e0] at h
          have : (ev mask (l.drop 1) 1 1 (l.getD 0 0) (l.getD 0 0)).2 = (evl l mask).2 := rfl
          omega
        · rw [← e0] at h
          exact h4 _ h
    obtain ⟨M, hM1, hM2⟩ := ev_ex (b := b) (l.drop 1) 1 (l.getD 0 0) 1 (l.getD 0 0) (by omega) (hlb.drop 1) (getD_in hlb (i := 0) (by omega)).2 (getD_in hlb (i := 0) (by omega)).2
    rw [List.length_drop] at hM1 hM2
    have hM3 := hM2 M (by rw [Nat.sub_self, Nat.pow_zero, Nat.div_one, Nat.mod_eq_of_lt hM1])
    rw [← hg1] at hM3
    have hMe : evl l M = (((gr b l 0 0).length : Int), b) := by
      have e1 : (evl l M).1 = ((gr b l 0 0).length : Int) := by
        have : (ev M (l.drop 1) 1 1 (l.getD 0 0) (l.getD 0 0)).1 = (evl l M).1 := rfl
        omega
      have e2 : (evl l M).2 ≤ b := hM3.2
      have e3 := (hA M hM1 (by omega)).2 e1
      exact Prod.ext e1 (by show (evl l M).2 = b; omega)
    have hleast : shadowboxlaw17_least.f 1100000000 l y = some (((gr b l 0 0).length : Int), b) := by
      unfold shadowboxlaw17_least.f
      have hp : 2 ^ (l.length - 1) ≤ 2 ^ 8 := Nat.pow_le_pow_right (by decide) (by omega)
      have := least_lo1 hl64 hn h0 hA hM1 hMe k3 (2 ^ (l.length - 1)) 1100000000 0 99 0 (by omega) (by omega) (by omega) (fun h => by omega) (fun h => by omega)
      exact this
    rw [k1]
    simp only [Option.bind_some]
    rw [if_neg (by omega), hleast]
    simp only [Option.bind_some]
    rw [if_pos trivial, Greatest_val (by omega) (by omega) (by omega)]
    simp only [Option.bind_some]
    have hgB : gB l (gr b l 0 0) = b := by
      unfold gB
      rw [if_neg (by omega), if_pos (ok_ris hok), if_pos (within_in.2 (fun x hx => by have := hl x hx; omega)), hGb]
    rw [hgB, decide_eq_true rfl]
theorem least_lo3b {l0 : List Int} (hl0 : l0.length ≤ 9) {y : Int} (hy : 1 ≤ y ∧ y ≤ 64) (jo : List Int → Option Bool) : ∀ (j k i : Nat) (m : List Int), i + j = l0.length → j < k → m.length = i → In y m → ∃ m', shadowboxlaw17_PartLeast.lo3 l0 y jo k m (i : Int) = jo m' ∧ In y m' ∧ m'.length = l0.length := by
  intro j
  induction j with
  | zero =>
    intro k i m h1 h2 h3 h4
    obtain ⟨k, rfl⟩ : ∃ k', k = k' + 1 := ⟨k - 1, by omega⟩
    rw [shadowboxlaw17_PartLeast.lo3, if_neg (by omega)]
    exact ⟨m, rfl, h4, by omega⟩
  | succ j ih =>
    intro k i m h1 h2 h3 h4
    obtain ⟨k, rfl⟩ : ∃ k', k = k' + 1 := ⟨k - 1, by omega⟩
    rw [shadowboxlaw17_PartLeast.lo3, if_pos (by omega), if_pos (by omega), Int.toNat_natCast]
    simp only [lt]
    have ha := and_i64 (l0.getD i 0) (m := 63) (by decide)
    rw [show ((63 : Nat) : Int) = 63 from rfl] at ha
    generalize bits .and .i64 (l0.getD i 0) 63 = z at *
    rw [wi64 (n := y + 1) (by omega) (by omega), if_pos (by omega), if_pos (by simp; omega), wi64 (by omega) (by omega), show (i : Int) + 1 = ((i + 1 : Nat) : Int) by omega]
    refine ih k (i + 1) _ (by omega) (by omega) (by simp; omega) ?_
    intro x hx
    rcases List.mem_append.1 hx with hx | hx
    · exact h4 x hx
    · simp at hx
      rw [hx, tm _ ha.1]
      have h5 := Int.emod_nonneg z (show y + 1 ≠ 0 by omega)
      have h6 := Int.emod_lt_of_pos z (show 0 < y + 1 by omega)
      omega
theorem least_jo1 {l : List Int} (hl : l.length ≤ 9) (a : Int) : shadowboxlaw17_PartLeast.jo1 1100000000 a l = some true := by
  unfold shadowboxlaw17_PartLeast.jo1
  have ha := and_i64 a (m := 63) (by decide)
  rw [show ((63 : Nat) : Int) = 63 from rfl] at ha
  generalize bits .and .i64 a 63 = z at *
  simp only [lt]
  rw [wi64 (by omega) (by omega)]
  obtain ⟨m, e, h1, h2⟩ := least_lo3b hl (y := 1 + z) (by omega) (shadowboxlaw17_PartLeast.jo2 1100000000 (1 + z)) l.length 1100000000 0 [] (by omega) (by omega) rfl (fun x hx => by cases hx)
  rw [show ((0 : Nat) : Int) = 0 from rfl] at e
  rw [e]
  exact least_jo2 (by omega) h1 (by omega)
theorem PartLeast : S.PartLeast := by
  intro l a hl hw ha
  refine ⟨1100000000, ?_⟩
  unfold shadowboxlaw17_PartLeast.f
  by_cases h : (l.length : Int) > 9
  · rw [if_pos h, if_pos (by omega)]
    simp only [lt]
    exact least_jo1 (by simp; omega) a
  · rw [if_neg h]
    exact least_jo1 (by omega) a
end Go.Proofs.Ytnkcadofhhcfaaa.Pure
