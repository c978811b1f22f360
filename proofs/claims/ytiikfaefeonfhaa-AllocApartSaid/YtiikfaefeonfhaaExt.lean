/- Spans of numbers: rising, apart, not empty; adding, removing, having; plain Lean, no condition. -/
import Derived.Below
set_option linter.unusedVariables false
set_option linter.unusedSimpArgs false
namespace Go.Proofs.Ytiikfaefeonfhaa.Ext

abbrev Sp := Int × Int
def Ok : Int → List Sp → Prop
  | _, [] => True
  | m, x :: r => m < x.1 ∧ x.1 < x.2 ∧ Ok x.2 r
def mem : List Sp → Int → Prop
  | [], _ => False
  | x :: r, k => (x.1 ≤ k ∧ k < x.2) ∨ mem r k
instance memDec : ∀ (l : List Sp) (k : Int), Decidable (mem l k)
  | [], _ => inferInstanceAs (Decidable False)
  | x :: r, k => by
    have := memDec r k
    exact inferInstanceAs (Decidable ((x.1 ≤ k ∧ k < x.2) ∨ mem r k))
def add : List Sp → Int → Int → List Sp
  | [], a, b => [(a, b)]
  | x :: r, a, b => if x.2 < a then x :: add r a b else if b < x.1 then (a, b) :: x :: r else add r (min a x.1) (max b x.2)
def rem : List Sp → Int → Int → List Sp
  | [], _, _ => []
  | x :: r, a, b => if x.2 ≤ a ∨ b ≤ x.1 then x :: rem r a b else (if x.1 < a then [(x.1, a)] else []) ++ ((if b < x.2 then [(b, x.2)] else []) ++ rem r a b)
def tot : List Sp → Int
  | [] => 0
  | x :: r => (x.2 - x.1) + tot r
theorem ok_mono {m m' : Int} : ∀ {l : List Sp}, Ok m l → m' ≤ m → Ok m' l
  | [], _, _ => trivial
  | x :: r, h, h' => ⟨by have := h.1; omega, h.2⟩
theorem mem_gt {m k : Int} : ∀ {l : List Sp}, Ok m l → mem l k → m < k
  | [], _, h => h.elim
  | x :: r, h, h' => by
    rcases h' with h' | h'
    · have := h.1; omega
    · have := mem_gt h.2.2 h'
      have := h.1; have := h.2.1; omega
theorem ok_add : ∀ {l : List Sp} {m a b : Int}, Ok m l → m < a → a < b → Ok m (add l a b)
  | [], m, a, b, _, h1, h2 => ⟨h1, h2, trivial⟩
  | x :: r, m, a, b, h, h1, h2 => by
    obtain ⟨h3, h4, h5⟩ := h
    unfold add
    split
    · rename_i h6
      exact ⟨h3, h4, ok_add h5 h6 h2⟩
    · split
      · rename_i h7
        exact ⟨h1, h2, h7, h4, h5⟩
      · exact ok_add (ok_mono h5 (by omega)) (by omega) (by omega)
theorem mem_add : ∀ {l : List Sp} {a b k : Int}, (∀ x ∈ l, x.1 < x.2) → a < b → (mem (add l a b) k ↔ mem l k ∨ (a ≤ k ∧ k < b))
  | [], a, b, k, _, _ => by simp [add, mem]
  | x :: r, a, b, k, h, h2 => by
    have h4 : x.1 < x.2 := h x (by simp)
    have h5 : ∀ y ∈ r, y.1 < y.2 := fun y hy => h y (by simp [hy])
    unfold add
    split
    · rename_i h6
      simp only [mem, mem_add h5 h2, or_assoc]
    · split
      · simp only [mem]
        constructor
        · rintro (h | h | h)
          · exact .inr h
          · exact .inl (.inl h)
          · exact .inl (.inr h)
        · rintro ((h | h) | h)
          · exact .inr (.inl h)
          · exact .inr (.inr h)
          · exact .inl h
      · rw [mem_add h5 (by omega)]
        simp only [mem]
        constructor
        · rintro (h | h)
          · exact .inl (.inr h)
          · by_cases h8 : a ≤ k ∧ k < b
            · exact .inr h8
            · exact .inl (.inl (by omega))
        · rintro ((h | h) | h)
          · exact .inr (by omega)
          · exact .inl h
          · exact .inr (by omega)
theorem ok_pos {m : Int} : ∀ {l : List Sp}, Ok m l → ∀ x ∈ l, x.1 < x.2
  | y :: r, h, x, hx => by
    rcases List.mem_cons.1 hx with rfl | hx
    · exact h.2.1
    · exact ok_pos h.2.2 x hx
theorem ok_rem : ∀ {l : List Sp} {m a b : Int}, Ok m l → a < b → Ok m (rem l a b)
  | [], m, a, b, _, _ => trivial
  | x :: r, m, a, b, h, h2 => by
    obtain ⟨h3, h4, h5⟩ := h
    have ih := ok_rem (a := a) (b := b) h5 h2
    unfold rem
    split
    · exact ⟨h3, h4, ih⟩
    · rename_i h6
      split <;> split
      · exact ⟨h3, by assumption, by simpa using h2, by assumption, ih⟩
      · exact ⟨h3, by assumption, ok_mono ih (by simp only []; omega)⟩
      · exact ⟨by simp only []; omega, by assumption, ih⟩
      · exact ok_mono ih (by omega)
theorem mem_app : ∀ {l r : List Sp} {k : Int}, mem (l ++ r) k ↔ mem l k ∨ mem r k
  | [], r, k => by simp [mem]
  | x :: l, r, k => by simp only [List.cons_append, mem, mem_app (l := l), or_assoc]
theorem mem_rem : ∀ {l : List Sp} {a b k : Int}, (∀ x ∈ l, x.1 < x.2) → a < b → (mem (rem l a b) k ↔ mem l k ∧ ¬ (a ≤ k ∧ k < b))
  | [], a, b, k, _, _ => by simp [rem, mem]
  | x :: r, a, b, k, h, h2 => by
    have h4 : x.1 < x.2 := h x (by simp)
    have h5 : ∀ y ∈ r, y.1 < y.2 := fun y hy => h y (by simp [hy])
    have ih := mem_rem (k := k) h5 h2
    unfold rem
    split
    · simp only [mem, ih]
      constructor
      · rintro (h | h)
        · exact ⟨.inl h, by omega⟩
        · exact ⟨.inr h.1, h.2⟩
      · rintro ⟨h | h, h'⟩
        · exact .inl h
        · exact .inr ⟨h, h'⟩
    · rw [mem_app, mem_app, ih]
      have e1 : mem (if x.1 < a then [(x.1, a)] else []) k ↔ x.1 ≤ k ∧ k < a := by
        split <;> simp [mem]
        omega
      have e2 : mem (if b < x.2 then [(b, x.2)] else []) k ↔ b ≤ k ∧ k < x.2 := by
        split <;> simp [mem]
        omega
      rw [e1, e2]
      simp only [mem]
      constructor
      · rintro (h | h | h)
        · exact ⟨.inl (by omega), by omega⟩
        · exact ⟨.inl (by omega), by omega⟩
        · exact ⟨.inr h.1, h.2⟩
      · rintro ⟨h | h, h'⟩
        · by_cases h8 : k < a
          · exact .inl ⟨h.1, h8⟩
          · exact .inr (.inl ⟨by omega, h.2⟩)
        · exact .inr (.inr ⟨h, h'⟩)
theorem uniq : ∀ {l l' : List Sp} {m m' : Int}, Ok m l → Ok m' l' → (∀ k, mem l k ↔ mem l' k) → l = l'
  | [], [], _, _, _, _, _ => rfl
  | [], y :: r', _, _, _, h', h => by
    have := (h y.1).2 (.inl ⟨Int.le_refl _, h'.2.1⟩)
    exact this.elim
  | x :: r, [], _, _, h', _, h => by
    have := (h x.1).1 (.inl ⟨Int.le_refl _, h'.2.1⟩)
    exact this.elim
  | x :: r, y :: r', m, m', h1, h2, h => by
    obtain ⟨a1, a2, a3⟩ := h1
    obtain ⟨b1, b2, b3⟩ := h2
    have low : ∀ {z : Sp} {q : List Sp} {k : Int}, z.1 < z.2 → Ok z.2 q → mem (z :: q) k → z.1 ≤ k := fun hz hq hk => by
      rcases hk with hk | hk
      · exact hk.1
      · have := mem_gt hq hk; omega
    have e1 : x.1 = y.1 := by
      have h3 := low b2 b3 ((h x.1).1 (.inl ⟨Int.le_refl _, a2⟩))
      have h4 := low a2 a3 ((h y.1).2 (.inl ⟨Int.le_refl _, b2⟩))
      omega
    have e2 : x.2 = y.2 := by
      by_cases h3 : x.2 < y.2
      · rcases (h x.2).2 (.inl ⟨by omega, h3⟩) with h4 | h4
        · omega
        · have := mem_gt a3 h4; omega
      · by_cases h5 : y.2 < x.2
        · rcases (h y.2).1 (.inl ⟨by omega, h5⟩) with h4 | h4
          · omega
          · have := mem_gt b3 h4; omega
        · omega
    have e3 : r = r' := uniq a3 b3 (fun k => by
      have hk := h k
      simp only [mem] at hk
      constructor
      · intro h3
        have := mem_gt a3 h3
        rcases hk.1 (.inr h3) with h4 | h4
        · omega
        · exact h4
      · intro h3
        have := mem_gt b3 h3
        rcases hk.2 (.inr h3) with h4 | h4
        · omega
        · exact h4)
    rw [e3, show x = y from Prod.ext e1 e2]
/-! counting -/
def cnt (p : Int → Bool) : Int → Nat → Int
  | _, 0 => 0
  | a, n + 1 => (if p a then 1 else 0) + cnt p (a + 1) n
theorem cnt_congr {p q : Int → Bool} : ∀ {n : Nat} {a : Int}, (∀ k, a ≤ k → k < a + n → p k = q k) → cnt p a n = cnt q a n
  | 0, _, _ => rfl
  | n + 1, a, h => by
    simp only [cnt]
    rw [h a (Int.le_refl _) (by omega), cnt_congr (fun k h1 h2 => h k (by omega) (by omega))]
theorem cnt_add {p q r : Int → Bool} : ∀ {n : Nat} {a : Int}, (∀ k, a ≤ k → k < a + n → (if r k then (1 : Int) else 0) = (if p k then 1 else 0) + (if q k then 1 else 0)) → cnt r a n = cnt p a n + cnt q a n
  | 0, _, _ => rfl
  | n + 1, a, h => by
    simp only [cnt]
    rw [cnt_add (p := p) (q := q) (r := r) (n := n) (a := a + 1) (fun k h1 h2 => h k (by omega) (by omega)), h a (Int.le_refl _) (by omega)]
    omega
theorem cnt_false : ∀ (n : Nat) (a : Int), cnt (fun _ => false) a n = 0
  | 0, _ => rfl
  | n + 1, a => by simp only [cnt]; rw [cnt_false n]; simp
theorem cnt_true : ∀ (n : Nat) (a : Int), cnt (fun _ => true) a n = n
  | 0, _ => rfl
  | n + 1, a => by simp only [cnt]; rw [cnt_true n]; simp; omega
theorem cnt_nonneg (p : Int → Bool) : ∀ (n : Nat) (a : Int), 0 ≤ cnt p a n
  | 0, _ => Int.le_refl _
  | n + 1, a => by simp only [cnt]; have := cnt_nonneg p n (a + 1); split <;> omega
theorem cnt_mem : ∀ (n : Nat) (a : Int) (l : List Sp), Ok (a - 1) l → (∀ x ∈ l, x.2 ≤ a + n) → cnt (fun k => decide (mem l k)) a n = tot l
  | 0, a, l, h, h' => by
    cases l with
    | nil => rfl
    | cons x r =>
      have := h' x (by simp)
      have := h.1; have := h.2.1
      omega
  | n + 1, a, l, h, h' => by
    cases l with
    | nil =>
      exact (cnt_congr (q := fun _ => false) (fun k _ _ => decide_eq_false (fun h : mem [] k => h))).trans (cnt_false _ _)
    | cons x r =>
      obtain ⟨h1, h2, h3⟩ := h
      have hr : ∀ y ∈ r, y.2 ≤ (a + 1) + n := fun y hy => by have := h' y (by simp [hy]); omega
      have hx := h' x (by simp)
      by_cases e : x.1 = a
      · simp only [cnt]
        rw [if_pos (by simp only [decide_eq_true_eq]; exact .inl ⟨by omega, by omega⟩)]
        by_cases e2 : x.2 = a + 1
        · rw [cnt_congr (q := fun k => decide (mem r k)) (fun k h5 h6 => by
            simp only [mem]
            refine decide_eq_decide.2 ⟨fun h => h.elim (fun h => by omega) id, .inr⟩), cnt_mem n (a + 1) r (ok_mono h3 (by omega)) hr]
          simp only [tot]
          omega
        · rw [cnt_congr (q := fun k => decide (mem ((a + 1, x.2) :: r) k)) (fun k h5 h6 => by
            simp only [mem]
            refine decide_eq_decide.2 ⟨fun h => h.elim (fun h => .inl ⟨h5, h.2⟩) .inr, fun h => h.elim (fun h => .inl ⟨by omega, h.2⟩) .inr⟩), cnt_mem n (a + 1) ((a + 1, x.2) :: r) ⟨by simp only []; omega, by simp only []; omega, h3⟩ (fun y hy => by
              rcases List.mem_cons.1 hy with rfl | hy
              · simp only []; omega
              · exact hr y hy)]
          simp only [tot]
          omega
      · simp only [cnt]
        rw [if_neg (by
          simp only [decide_eq_true_eq]
          rintro (h | h)
          · omega
          · have := mem_gt h3 h; omega), cnt_mem n (a + 1) (x :: r) ⟨by omega, h2, h3⟩ (fun y hy => by have := h' y hy; omega)]
        omega
theorem cnt_span (n : Nat) (a : Int) {s e : Int} (h1 : a ≤ s) (h2 : s < e) (h3 : e ≤ a + n) : cnt (fun k => decide (s ≤ k ∧ k < e)) a n = e - s := by
  have h := cnt_mem n a [(s, e)] ⟨by simp only []; omega, h2, trivial⟩ (by simp; omega)
  rw [← cnt_congr (p := fun k => decide (mem [(s, e)] k)) (fun k _ _ => by simp only [mem, or_false])] 
  rw [h]
  simp [tot]
theorem rem_le : ∀ {l : List Sp} {a b B : Int}, (∀ x ∈ l, x.1 < x.2) → (∀ x ∈ l, x.2 ≤ B) → ∀ x ∈ rem l a b, x.2 ≤ B
  | y :: r, a, b, B, hp, h, x, hx => by
    have hr := rem_le (l := r) (a := a) (b := b) (fun z hz => hp z (by simp [hz])) (fun z hz => h z (by simp [hz]))
    have hy := h y (by simp)
    have hq := hp y (by simp)
    unfold rem at hx
    split at hx
    · rcases List.mem_cons.1 hx with rfl | hx
      · exact hy
      · exact hr x hx
    · rename_i h6
      rcases List.mem_append.1 hx with hx | hx
      · split at hx
        · have : x = (y.1, a) := by simpa using hx
          subst this
          simp only []
          omega
        · cases hx
      · rcases List.mem_append.1 hx with hx | hx
        · split at hx
          · have : x = (b, y.2) := by simpa using hx
            subst this
            exact hy
          · cases hx
        · exact hr x hx
theorem add_le : ∀ {l : List Sp} {a b B : Int}, (∀ x ∈ l, x.2 ≤ B) → b ≤ B → ∀ x ∈ add l a b, x.2 ≤ B
  | [], a, b, B, _, hb, x, hx => by
    have : x = (a, b) := by simpa [add] using hx
    subst this
    exact hb
  | y :: r, a, b, B, h, hb, x, hx => by
    have hy := h y (by simp)
    have hz : ∀ z ∈ r, z.2 ≤ B := fun z hz => h z (by simp [hz])
    unfold add at hx
    split at hx
    · rcases List.mem_cons.1 hx with rfl | hx
      · exact hy
      · exact add_le hz hb x hx
    · split at hx
      · rcases List.mem_cons.1 hx with rfl | hx
        · exact hb
        · exact h x hx
      · exact add_le hz (by omega) x hx
/-- Valid lists, up to a bound. -/
def Vd (B : Int) (l : List Sp) : Prop := Ok (-1) l ∧ ∀ x ∈ l, x.2 ≤ B
theorem Vd.add {B : Int} {l : List Sp} (h : Vd B l) {a b : Int} (h0 : 0 ≤ a) (h1 : a < b) (h2 : b ≤ B) : Vd B (add l a b) := ⟨ok_add h.1 (by omega) h1, add_le h.2 h2⟩
theorem Vd.rem {B : Int} {l : List Sp} (h : Vd B l) {a b : Int} (h1 : a < b) : Vd B (rem l a b) := ⟨ok_rem h.1 h1, rem_le (ok_pos h.1) h.2⟩
theorem Vd.tot {B : Int} {l : List Sp} (h : Vd B l) : tot l = cnt (fun k => decide (mem l k)) 0 B.toNat :=
  (cnt_mem B.toNat 0 l h.1 (fun x hx => by have := h.2 x hx; omega)).symm
theorem tot_add {B : Int} {l : List Sp} (h : Vd B l) {a b : Int} (h0 : 0 ≤ a) (h1 : a < b) (h2 : b ≤ B) (hd : ∀ k, mem l k → ¬ (a ≤ k ∧ k < b)) : Ext.tot (Ext.add l a b) = Ext.tot l + (b - a) := by
  rw [(h.add h0 h1 h2).tot, h.tot, ← cnt_span B.toNat 0 h0 h1 (by omega)]
  refine cnt_add (fun k _ _ => ?_)
  have := mem_add (k := k) (ok_pos h.1) h1
  by_cases e1 : mem l k
  · simp [e1, hd k e1, this]
  · by_cases e2 : a ≤ k ∧ k < b
    · simp [e1, e2, this]
    · simp [e1, e2, this]
theorem tot_rem {B : Int} {l : List Sp} (h : Vd B l) {a b : Int} (h0 : 0 ≤ a) (h1 : a < b) (h2 : b ≤ B) (hd : ∀ k, a ≤ k → k < b → mem l k) : Ext.tot (Ext.rem l a b) = Ext.tot l - (b - a) := by
  have h3 := cnt_add (p := fun k => decide (mem (Ext.rem l a b) k)) (q := fun k => decide (a ≤ k ∧ k < b)) (r := fun k => decide (mem l k)) (n := B.toNat) (a := 0) (fun k _ _ => by
    have := mem_rem (k := k) (ok_pos h.1) h1
    by_cases e2 : a ≤ k ∧ k < b
    · simp [e2, this, hd k e2.1 e2.2]
    · by_cases e1 : mem l k
      · simp [e1, e2, this]
      · simp [e1, e2, this])
  rw [(h.rem h1).tot, h.tot]
  rw [cnt_span B.toNat 0 h0 h1 (by omega)] at h3
  omega
theorem rem_add {l : List Sp} (h : Ok (-1) l) {a b : Int} (h0 : 0 ≤ a) (h1 : a < b) (hd : ∀ k, mem l k → ¬ (a ≤ k ∧ k < b)) : Ext.rem (Ext.add l a b) a b = l := by
  have h2 := ok_add h (by omega : (-1 : Int) < a) h1
  refine uniq (ok_rem h2 h1) h (fun k => ?_)
  rw [mem_rem (ok_pos h2) h1, mem_add (ok_pos h) h1]
  constructor
  · rintro ⟨h3 | h3, h4⟩
    · exact h3
    · exact (h4 h3).elim
  · intro h3
    exact ⟨.inl h3, hd k h3⟩
theorem add_comm {l : List Sp} (h : Ok (-1) l) {a b c d : Int} (h0 : 0 ≤ a) (h1 : a < b) (h2 : 0 ≤ c) (h3 : c < d) : Ext.add (Ext.add l a b) c d = Ext.add (Ext.add l c d) a b := by
  have h4 := ok_add h (by omega : (-1 : Int) < a) h1
  have h5 := ok_add h (by omega : (-1 : Int) < c) h3
  refine uniq (ok_add h4 (by omega) h3) (ok_add h5 (by omega) h1) (fun k => ?_)
  rw [mem_add (ok_pos h4) h3, mem_add (ok_pos h) h1, mem_add (ok_pos h5) h1, mem_add (ok_pos h) h3, or_assoc, or_assoc, Or.comm (a := a ≤ k ∧ k < b)]
end Go.Proofs.Ytiikfaefeonfhaa.Ext
