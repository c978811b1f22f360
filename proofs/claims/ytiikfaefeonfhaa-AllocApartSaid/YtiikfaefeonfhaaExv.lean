/- Spans: what the program computes of them; no condition. -/
import Derived.Test.YtiikfaefeonfhaaGz
import Derived.Test.YtiikfaefeonfhaaBits
import Derived.Test.YtiikfaefeonfhaaExt
set_option linter.unusedVariables false
set_option linter.unusedSimpArgs false
namespace Go.Proofs.Ytiikfaefeonfhaa.Exv
open Go Go.RowKit Go.Proofs.Ytiikfaefeonfhaa.Sx Go.Proofs.Ytiikfaefeonfhaa.G Go.Proofs.Ytiikfaefeonfhaa.Bt Go.Proofs.Ytiikfaefeonfhaa.Ext

theorem drop_cons {l : List Sp} {x : Nat} (h : x < l.length) : l.drop x = l.getD x ((0 : Int), (0 : Int)) :: l.drop (x + 1) := by
  rw [List.drop_eq_getElem_cons h, List.getD_eq_getElem?_getD, List.getElem?_eq_getElem h, Option.getD_some]
theorem getD_mem {l : List Sp} {x : Nat} (h : x < l.length) : l.getD x ((0 : Int), (0 : Int)) ∈ l := by
  rw [List.getD_eq_getElem?_getD, List.getElem?_eq_getElem h, Option.getD_some]
  exact List.getElem_mem h
theorem ok_mem {m : Int} : ∀ {l : List Sp}, Ok m l → ∀ y ∈ l, m < y.1 ∧ y.1 < y.2
  | x :: r, h, y, hy => by
    rcases List.mem_cons.1 hy with rfl | hy
    · exact ⟨h.1, h.2.1⟩
    · have := ok_mem h.2.2 y hy
      have := h.1; have := h.2.1
      omega
def rt (s : Sp) : Bool := decide (0 ≤ s.1 ∧ s.1 < s.2 ∧ s.2 ≤ 1099511627776)
theorem right_val (k : Nat) (s : Sp) : extent_Span_right.f k s = some (rt s) := by
  unfold extent_Span_right.f rt
  by_cases h : s.1 ≥ 0
  · rw [if_pos h]
    by_cases h2 : s.1 < s.2
    · rw [if_pos h2]
      refine congrArg some (decide_eq_decide.2 ⟨fun h3 => ⟨h, h2, h3⟩, fun h3 => h3.2.2⟩)
    · rw [if_neg h2, decide_eq_false (fun h3 => h2 h3.2.1)]
  · rw [if_neg h, decide_eq_false (fun h3 => h h3.1)]
def vb : Int → List Sp → Bool
  | _, [] => true
  | m, x :: r => rt x && (decide (m < x.1) && vb x.2 r)
theorem vb_iff : ∀ {l : List Sp} {m : Int}, -1 ≤ m → (vb m l = true ↔ Ok m l ∧ ∀ x ∈ l, x.2 ≤ 1099511627776)
  | [], m, hm => by simp [vb, Ok]
  | x :: r, m, hm => by
    simp only [vb, Bool.and_eq_true, rt, decide_eq_true_eq, Ok, List.mem_cons, forall_eq_or_imp]
    constructor
    · rintro ⟨⟨h1, h2, h3⟩, h4, h5⟩
      obtain ⟨h6, h7⟩ := (vb_iff (l := r) (m := x.2) (by omega)).1 h5
      exact ⟨⟨h4, h2, h6⟩, h3, h7⟩
    · rintro ⟨⟨h4, h2, h6⟩, h3, h7⟩
      exact ⟨⟨by omega, h2, h3⟩, h4, (vb_iff (l := r) (m := x.2) (by omega)).2 ⟨h6, h7⟩⟩
theorem vb_vd {l : List Sp} : vb (-1) l = true ↔ Vd 1099511627776 l := vb_iff (Int.le_refl _)
theorem Valid_lo1 {l : List Sp} (hl : l.length ≤ 1000000000) : ∀ (j x k : Nat) (m : Int), x + j = l.length → j < k → extent_Valid.lo1 l k m (x : Int) = some (vb m (l.drop x)) := by
  intro j
  induction j with
  | zero =>
    intro x k m hx hk
    obtain ⟨k, rfl⟩ : ∃ q, k = q + 1 := ⟨k - 1, by omega⟩
    rw [extent_Valid.lo1, if_neg (by omega), List.drop_of_length_le (by omega)]
    rfl
  | succ j ih =>
    intro x k m hx hk
    obtain ⟨k, rfl⟩ : ∃ q, k = q + 1 := ⟨k - 1, by omega⟩
    rw [extent_Valid.lo1, if_pos (by omega), if_pos (by omega), show ((x : Int)).toNat = x from by omega, right_val, drop_cons (x := x) (by omega)]
    simp only [Option.bind_some, lt, vb]
    cases h : rt (l.getD x ((0 : Int), (0 : Int))) with
    | false => simp
    | true =>
      rw [if_pos rfl]
      by_cases h2 : (l.getD x ((0 : Int), (0 : Int))).1 ≤ m
      · rw [if_pos h2, decide_eq_false (by omega)]
        rfl
      · rw [if_neg h2, decide_eq_true (by omega), wi64 (by omega) (by omega), show ((x : Int) + 1) = ((x + 1 : Nat) : Int) from by omega, ih (x + 1) k _ (by omega) (by omega)]
        simp
theorem Valid_val {l : List Sp} (hl : l.length ≤ 1000000000) {k : Nat} (hk : l.length < k) : extent_Valid.f k l = some (vb (-1) l) := by
  unfold extent_Valid.f
  have := Valid_lo1 hl l.length 0 k (-1) (by omega) hk
  simpa using this
theorem Clone_val {l : List Sp} (hl : l.length ≤ 1000000000) (k : Nat) : slices_Clone_43.f k l = some l := by
  unfold slices_Clone_43.f
  rw [if_pos (by simp; omega)]
  rfl
/-! ### The first place -/
def pos (n : Int) : List Sp → Nat
  | [] => 0
  | x :: r => if x.2 < n then pos n r + 1 else 0
theorem pos_le (n : Int) : ∀ l : List Sp, pos n l ≤ l.length
  | [] => Nat.le_refl _
  | x :: r => by
    have := pos_le n r
    unfold pos
    split
    · simp; omega
    · simp
theorem pos_lt {n : Int} : ∀ {l : List Sp} {m : Int} {i : Nat}, Ok m l → i < l.length → ((l.getD i ((0 : Int), (0 : Int))).2 < n ↔ i < pos n l)
  | x :: r, m, 0, h, hi => by
    show x.2 < n ↔ 0 < pos n (x :: r)
    unfold pos
    split <;> omega
  | x :: r, m, i + 1, h, hi => by
    show (r.getD i ((0 : Int), (0 : Int))).2 < n ↔ i + 1 < pos n (x :: r)
    have hi' : i < r.length := by simpa using hi
    unfold pos
    split
    · rw [pos_lt h.2.2 hi']
      omega
    · have := ok_mem h.2.2 _ (getD_mem hi')
      omega
theorem first1_val (k : Nat) (s : Sp) {n : Int} (h1 : -1099511627777 ≤ s.2 ∧ s.2 ≤ 1099511627777) (h2 : -1099511627777 ≤ n ∧ n ≤ 1099511627777) : extent_first_1.f k s n = some (s.2 - n) := by
  unfold extent_first_1.f
  rw [wi64 (by omega) (by omega)]
theorem search {l : List Sp} {m n : Int} (h : Ok m l) (hB : ∀ x ∈ l, 0 ≤ x.2 ∧ x.2 ≤ 1099511627776) (hn : -1099511627777 ≤ n ∧ n ≤ 1099511627777) (hl : l.length ≤ 1000000000) :
    ∀ (d lo hi k : Nat), lo ≤ pos n l → pos n l ≤ hi → hi ≤ l.length → hi - lo ≤ d → d < k → ∃ b, slices_BinarySearchFunc_52_s53.lo1 l n k (lo : Int) (hi : Int) = some ((pos n l : Int), b) := by
  intro d
  induction d with
  | zero =>
    intro lo hi k h1 h2 h3 h4 hk
    obtain ⟨k, rfl⟩ : ∃ q, k = q + 1 := ⟨k - 1, by omega⟩
    have e : lo = pos n l := by omega
    subst e
    rw [slices_BinarySearchFunc_52_s53.lo1, if_neg (by omega)]
    split
    · have h5 := hB _ (getD_mem (x := pos n l) (by omega))
      rw [if_pos (by omega), show ((pos n l : Int)).toNat = pos n l from by omega, first1_val k _ ⟨by omega, by omega⟩ hn]
      exact ⟨_, rfl⟩
    · exact ⟨_, rfl⟩
  | succ d ih =>
    intro lo hi k h1 h2 h3 h4 hk
    by_cases hlt : lo < hi
    · obtain ⟨k, rfl⟩ : ∃ q, k = q + 1 := ⟨k - 1, by omega⟩
      have e1 : IntKind.wrap .u64 (IntKind.wrap .i64 ((lo : Int) + (hi : Int))) = (lo : Int) + hi := by rw [wi64 (by omega) (by omega), wu64]; omega
      have e2 : IntKind.wrap .i64 (Int.fdiv ((lo : Int) + (hi : Int)) 2) = (((lo + hi) / 2 : Nat) : Int) := by rw [fd _ (by decide), wi64 (by omega) (by omega)]; omega
      rw [slices_BinarySearchFunc_52_s53.lo1, if_pos (by omega)]
      simp only [lt]
      rw [e1, e2]
      have hm : (lo + hi) / 2 < l.length := by omega
      have h5 := hB _ (getD_mem hm)
      rw [if_pos (by omega), if_pos (by omega), show ((((lo + hi) / 2 : Nat) : Int)).toNat = (lo + hi) / 2 from by omega, first1_val k _ ⟨by omega, by omega⟩ hn]
      simp only [Option.bind_some]
      have hp := pos_lt (n := n) h hm
      by_cases h6 : (l.getD ((lo + hi) / 2) ((0 : Int), (0 : Int))).2 < n
      · have := hp.1 h6
        rw [if_pos (by omega), wi64 (by omega) (by omega), show ((((lo + hi) / 2 : Nat) : Int) + 1) = (((lo + hi) / 2 + 1 : Nat) : Int) from by omega]
        exact ih ((lo + hi) / 2 + 1) hi k (by omega) h2 h3 (by omega) (by omega)
      · have : ¬ (lo + hi) / 2 < pos n l := fun h => h6 (hp.2 h)
        rw [if_neg (by omega)]
        exact ih lo ((lo + hi) / 2) k h1 (by omega) (by omega) (by omega) (by omega)
    · exact (ih lo hi k h1 h2 h3 (by omega) (by omega))
theorem first_val {l : List Sp} (h : Vd 1099511627776 l) {n : Int} (hn : -1099511627777 ≤ n ∧ n ≤ 1099511627777) (hl : l.length ≤ 1000000000) {k : Nat} (hk : l.length < k) : extent_first.f k l n = some (pos n l : Int) := by
  obtain ⟨b, hb⟩ := search h.1 (fun x hx => ⟨by have := ok_mem h.1 x hx; omega, h.2 x hx⟩) hn hl l.length 0 l.length k (by omega) (pos_le n l) (Nat.le_refl _) (by omega) hk
  unfold extent_first.f slices_BinarySearchFunc_52_s53.f
  rw [show ((0 : Nat) : Int) = 0 from rfl] at hb
  rw [hb]
  rfl
/-! ### Adding -/
theorem replace_val (k : Nat) {l m : List Sp} {a b : Nat} (ha : a ≤ l.length) (hb : b ≤ l.length) (hl : l.length ≤ 1000000000) (hm : m.length ≤ 1000000000) : extent_replace_44.f k l (a : Int) (b : Int) m = some (l.take a ++ (m ++ l.drop b)) := by
  unfold extent_replace_44.f
  simp only [lt, show ((a : Int)).toNat = a from by omega, show ((b : Int)).toNat = b from by omega]
  rw [if_pos (by omega), if_pos (by omega), if_pos (by simp; omega), if_pos (by simp; omega), if_pos (by omega), if_pos (by omega), if_pos (by simp; omega)]
  simp
def mrg : List Sp → Int → Int → List Sp
  | [], f, t => [(f, t)]
  | x :: r, f, t => if x.1 ≤ t then mrg r (min f x.1) (max t x.2) else (f, t) :: x :: r
theorem Add_lo2 {l : List Sp} {a : Nat} (ha : a ≤ l.length) (hl : l.length ≤ 1000000000) : ∀ (j b k : Nat) (f t : Int), b + j = l.length → j < k → extent_Add.lo2 l (a : Int) k (b : Int) (f, t) = some (l.take a ++ mrg (l.drop b) f t) := by
  intro j
  induction j with
  | zero =>
    intro b k f t hb hk
    obtain ⟨k, rfl⟩ : ∃ q, k = q + 1 := ⟨k - 1, by omega⟩
    rw [extent_Add.lo2, if_neg (by omega), replace_val k ha (by omega) hl (by simp), List.drop_of_length_le (by omega)]
    simp [mrg]
  | succ j ih =>
    intro b k f t hb hk
    obtain ⟨k, rfl⟩ : ∃ q, k = q + 1 := ⟨k - 1, by omega⟩
    rw [extent_Add.lo2, if_pos (by omega), if_pos (by omega), drop_cons (x := b) (by omega)]
    simp only [lt, show ((b : Int)).toNat = b from by omega, mrg]
    split
    · rw [wi64 (by omega) (by omega), show ((b : Int) + 1) = ((b + 1 : Nat) : Int) from by omega, ih (b + 1) k _ _ (by omega) (by omega)]
      congr 3
      · split <;> omega
      · split <;> omega
    · rw [replace_val k ha (by omega) hl (by simp), ← drop_cons (by omega)]
      rfl
theorem add_mrg : ∀ {l : List Sp} {m f t : Int}, Ok m l → f ≤ m → add l f t = mrg l f t
  | [], m, f, t, _, _ => rfl
  | x :: r, m, f, t, h, hf => by
    obtain ⟨h1, h2, h3⟩ := h
    unfold add mrg
    rw [if_neg (by omega)]
    split
    · rw [if_neg (by omega)]
    · rw [if_pos (by omega)]
      exact add_mrg h3 (by omega)
theorem add_split : ∀ {l : List Sp} {m f t : Int}, Ok m l → add l f t = l.take (pos f l) ++ mrg (l.drop (pos f l)) f t
  | [], m, f, t, _ => rfl
  | x :: r, m, f, t, h => by
    obtain ⟨h1, h2, h3⟩ := h
    unfold add pos
    split
    · rw [add_split h3]
      rfl
    · show _ = mrg (x :: r) f t
      unfold mrg
      split
      · rw [if_neg (by omega)]
      · rw [if_pos (by omega)]
        exact add_mrg h3 (by omega)
def addV (l : List Sp) (s : Sp) : List Sp := if vb (-1) l = true then (if rt s = true then add l s.1 s.2 else l) else l
theorem Add_val {l : List Sp} {s : Sp} (hl : l.length ≤ 1000000000) {k : Nat} (hk : l.length < k) : extent_Add.f k l s = some (addV l s) := by
  unfold extent_Add.f addV
  rw [Valid_val hl hk, right_val, Clone_val hl]
  simp only [Option.bind_some]
  split
  · rename_i h1
    split
    · rename_i h2
      have h1 := vb_vd.1 h1
      have h3 : 0 ≤ s.1 ∧ s.1 < s.2 ∧ s.2 ≤ 1099511627776 := of_decide_eq_true h2
      unfold extent_Add.jo1
      rw [first_val h1 ⟨by omega, by omega⟩ hl hk]
      simp only [Option.bind_some]
      rw [show s = (s.1, s.2) from rfl, Add_lo2 (pos_le _ _) hl (l.length - pos s.1 l) (pos s.1 l) k s.1 s.2 (by have := pos_le s.1 l; omega) (by omega), add_split h1.1]
    · rfl
  · rfl
/-! ### Removing -/
def pcs (x : Sp) (a b : Int) : List Sp := (if x.1 < a then [(x.1, a)] else []) ++ (if b < x.2 then [(b, x.2)] else [])
theorem rem_far : ∀ {l : List Sp} {m a b : Int}, Ok m l → b ≤ m + 1 → rem l a b = l
  | [], m, a, b, _, _ => rfl
  | x :: r, m, a, b, h, hb => by
    obtain ⟨h1, h2, h3⟩ := h
    unfold rem
    rw [if_pos (.inr (by omega)), rem_far h3 (by omega)]
theorem rem_split : ∀ {l : List Sp} {m a b : Int}, Ok m l → a < b → rem l a b = l.take (pos (a + 1) l) ++ rem (l.drop (pos (a + 1) l)) a b
  | [], m, a, b, _, _ => rfl
  | x :: r, m, a, b, h, hab => by
    obtain ⟨h1, h2, h3⟩ := h
    by_cases h4 : x.2 < a + 1
    · have e : pos (a + 1) (x :: r) = pos (a + 1) r + 1 := by show (if x.2 < a + 1 then _ else _) = _; rw [if_pos h4]
      rw [e]
      show rem (x :: r) a b = x :: (r.take (pos (a + 1) r) ++ rem (r.drop (pos (a + 1) r)) a b)
      rw [← rem_split h3 hab]
      rw [rem, if_pos (.inl (by omega))]
    · have e : pos (a + 1) (x :: r) = 0 := by show (if x.2 < a + 1 then _ else _) = _; rw [if_neg h4]
      rw [e]
      rfl
theorem Rem_lo4 (l : List Sp) (s : Sp) (b : Nat) (jo : Int → List Sp → Option (List Sp)) {y z : Int} (hy : (l.getD b ((0 : Int), (0 : Int))).1 = y) (h1 : 0 ≤ y ∧ y < s.2) (h2 : z ≤ 1099511627776 ∧ s.1 < z) (hs : 0 ≤ s.1 ∧ s.1 < s.2 ∧ s.2 ≤ 1099511627776) (hb : b ≤ 1000000000) {left : List Sp} (hl : left.length ≤ 3000000000) (k : Nat) :
    extent_Remove.lo4 l s (b : Int) y z jo (k + 3) left 0 = jo ((b + 1 : Nat) : Int) (left ++ pcs (y, z) s.1 s.2) := by
  have r1 : rt (y, s.1) = decide (y < s.1) := by unfold rt; exact decide_eq_decide.2 ⟨fun h => h.2.1, fun h => ⟨h1.1, h, by simp only []; omega⟩⟩
  have r2 : rt (s.2, z) = decide (s.2 < z) := by unfold rt; exact decide_eq_decide.2 ⟨fun h => h.2.1, fun h => ⟨by simp only []; omega, h, h2.1⟩⟩
  have w0 : IntKind.wrap .i64 ((0 : Int) + 1) = 1 := by decide
  have w1 : IntKind.wrap .i64 ((1 : Int) + 1) = 2 := by decide
  have e0 : ([(y, s.1), (s.2, z)] : List (Int × Int)).getD (Int.toNat 0) ((0 : Int), (0 : Int)) = (y, s.1) := rfl
  have e1 : ([(y, s.1), (s.2, z)] : List (Int × Int)).getD (Int.toNat 1) ((0 : Int), (0 : Int)) = (s.2, z) := rfl
  have last : ∀ q : List Sp, extent_Remove.lo4 l s (b : Int) y z jo (k + 1) q 2 = jo ((b + 1 : Nat) : Int) q := fun q => by
    rw [extent_Remove.lo4, if_neg (by omega), wi64 (by omega) (by omega)]
    rfl
  have step1 : ∀ q : List Sp, q.length ≤ 4000000000 → extent_Remove.lo4 l s (b : Int) y z jo (k + 2) q 1 = jo ((b + 1 : Nat) : Int) (q ++ (if s.2 < z then [(s.2, z)] else [])) := fun q hq => by
    rw [extent_Remove.lo4, if_pos (by omega), if_pos (by omega)]
    simp only [e1, right_val, r2, Option.bind_some, lt, show ((b : Int)).toNat = b from by omega, hy, w1]
    by_cases h : s.2 < z
    · rw [decide_eq_true h, if_pos rfl, if_pos (show s.2 ≥ y by omega), if_pos (by simp; omega), last, if_pos h]
    · rw [decide_eq_false h, if_neg (by decide), last, if_neg h, List.append_nil]
  rw [extent_Remove.lo4, if_pos (by omega), if_pos (by omega)]
  simp only [e0, right_val, r1, Option.bind_some, lt, show ((b : Int)).toNat = b from by omega, hy, w0]
  unfold pcs
  by_cases h : y < s.1
  · rw [decide_eq_true h, if_pos rfl, if_pos (show y ≥ y by omega), if_pos (by simp; omega), step1 _ (by simp; omega), if_pos h, List.append_assoc]
  · rw [decide_eq_false h, if_neg (by decide), step1 _ (by omega), if_neg h, List.nil_append]
theorem pcs_len (x : Sp) (a b : Int) : (pcs x a b).length ≤ 2 := by unfold pcs; split <;> split <;> simp
theorem Rem_lo2 {l : List Sp} {s : Sp} (hv : Vd 1099511627776 l) (hs : 0 ≤ s.1 ∧ s.1 < s.2 ∧ s.2 ≤ 1099511627776) {a : Nat} (ha : a ≤ l.length) (hl : l.length ≤ 400000000) (hp : pos (s.1 + 1) l ≤ a) : ∀ (j b k : Nat) (left : List Sp) (m : Int), b + j = l.length → a ≤ b → Ok m (l.drop b) → left.length ≤ 2 * b → j + 3 < k →
    extent_Remove.lo2 l s (a : Int) k (b : Int) left = some (l.take a ++ (left ++ rem (l.drop b) s.1 s.2)) := by
  intro j
  induction j with
  | zero =>
    intro b k left m hb hab hok hleft hk
    obtain ⟨k, rfl⟩ : ∃ q, k = q + 1 := ⟨k - 1, by omega⟩
    rw [extent_Remove.lo2, if_neg (by omega), replace_val k ha (by omega) (by omega) (by omega), List.drop_of_length_le (by omega)]
    simp [rem]
  | succ j ih =>
    intro b k left m hb hab hok hleft hk
    obtain ⟨k, rfl⟩ : ∃ q, k = q + 1 := ⟨k - 1, by omega⟩
    have hbl : b < l.length := by omega
    rw [extent_Remove.lo2, if_pos (by omega), if_pos (by omega)]
    rw [drop_cons hbl] at hok
    simp only [lt, show ((b : Int)).toNat = b from by omega]
    have hx := ok_mem hv.1 _ (getD_mem hbl)
    have hM := hv.2 _ (getD_mem hbl)
    have hgt : s.1 < (l.getD b ((0 : Int), (0 : Int))).2 := by
      have h1 := pos_lt (n := s.1 + 1) hv.1 hbl
      have h2 : ¬ (l.getD b ((0 : Int), (0 : Int))).2 < s.1 + 1 := fun h => by have := h1.1 h; omega
      omega
    split
    · rename_i h1
      unfold extent_Remove.jo3
      rw [if_pos (by omega), if_pos (by omega)]
      simp only [lt, show ((b : Int)).toNat = b from by omega]
      obtain ⟨k, rfl⟩ : ∃ q, k = q + 3 := ⟨k - 3, by omega⟩
      rw [Rem_lo4 l s b _ rfl ⟨by omega, h1⟩ ⟨hM, hgt⟩ hs (by omega) (by omega)]
      have := pcs_len (l.getD b ((0 : Int), (0 : Int))) s.1 s.2
      rw [ih (b + 1) (k + 3) _ (l.getD b ((0 : Int), (0 : Int))).2 (by omega) (by omega) hok.2.2 (by simp only [List.length_append]; show left.length + (pcs (l.getD b ((0 : Int), (0 : Int))) s.1 s.2).length ≤ _; omega) (by omega), drop_cons (x := b) hbl, rem, if_neg (by omega)]
      unfold pcs
      simp
    · rename_i h1
      rw [replace_val k ha (by omega) (by omega) (by omega), drop_cons (x := b) hbl, rem, if_pos (.inr (by omega)), rem_far hok.2.2 (by omega)]
      rfl
def remV (l : List Sp) (s : Sp) : List Sp := if vb (-1) l = true then (if rt s = true then rem l s.1 s.2 else l) else l
theorem ok_drop : ∀ {l : List Sp} {m : Int} (n : Nat), Ok m l → ∃ m', Ok m' (l.drop n)
  | l, m, 0, h => ⟨m, h⟩
  | [], m, n + 1, h => ⟨m, trivial⟩
  | x :: r, m, n + 1, h => ok_drop n h.2.2
theorem Remove_val {l : List Sp} {s : Sp} (hl : l.length ≤ 400000000) {k : Nat} (hk : l.length + 4 < k) : extent_Remove.f k l s = some (remV l s) := by
  unfold extent_Remove.f remV
  rw [Valid_val (by omega) (by omega), right_val, Clone_val (by omega)]
  simp only [Option.bind_some]
  split
  · rename_i h1
    split
    · rename_i h2
      have h1 := vb_vd.1 h1
      have h3 : 0 ≤ s.1 ∧ s.1 < s.2 ∧ s.2 ≤ 1099511627776 := of_decide_eq_true h2
      unfold extent_Remove.jo1
      rw [wi64 (by omega) (by omega), first_val h1 ⟨by omega, by omega⟩ (by omega) (by omega)]
      simp only [Option.bind_some]
      obtain ⟨m', hm'⟩ := ok_drop (pos (s.1 + 1) l) h1.1
      rw [Rem_lo2 h1 h3 (pos_le _ _) hl (Nat.le_refl _) (l.length - pos (s.1 + 1) l) (pos (s.1 + 1) l) k [] m' (by have := pos_le (s.1 + 1) l; omega) (Nat.le_refl _) hm' (by simp) (by omega), rem_split h1.1 h3.2.1]
      rfl
    · rfl
  · rfl
/-! ### Having, meeting, counting, finding -/
def hasB (a b : Int) : List Sp → Bool
  | [] => false
  | x :: r => (decide (x.1 ≤ a) && decide (b ≤ x.2)) || hasB a b r
theorem hasB_far : ∀ {l : List Sp} {m a b : Int}, Ok m l → a ≤ m → hasB a b l = false
  | [], m, a, b, _, _ => rfl
  | x :: r, m, a, b, h, ha => by
    obtain ⟨h1, h2, h3⟩ := h
    rw [hasB, decide_eq_false (by omega), hasB_far h3 (by omega)]
    rfl
theorem hasB_pos : ∀ {l : List Sp} {m a b : Int}, Ok m l → a < b → hasB a b l = match l.drop (pos (a + 1) l) with
    | [] => false
    | x :: _ => decide (x.1 ≤ a) && decide (b ≤ x.2)
  | [], m, a, b, _, _ => rfl
  | x :: r, m, a, b, h, hab => by
    obtain ⟨h1, h2, h3⟩ := h
    by_cases h4 : x.2 < a + 1
    · have e : pos (a + 1) (x :: r) = pos (a + 1) r + 1 := by show (if x.2 < a + 1 then _ else _) = _; rw [if_pos h4]
      rw [e, hasB, decide_eq_false (show ¬ b ≤ x.2 by omega), hasB_pos h3 hab]
      simp
    · have e : pos (a + 1) (x :: r) = 0 := by show (if x.2 < a + 1 then _ else _) = _; rw [if_neg h4]
      rw [e, hasB, hasB_far h3 (by omega)]
      simp
def hasV (l : List Sp) (s : Sp) : Bool := if vb (-1) l = true then (if rt s = true then hasB s.1 s.2 l else false) else false
def meetB (a b : Int) : List Sp → Bool
  | [] => false
  | x :: r => (decide (x.1 < b) && decide (a < x.2)) || meetB a b r
theorem meetB_far : ∀ {l : List Sp} {m a b : Int}, Ok m l → b ≤ m + 1 → meetB a b l = false
  | [], m, a, b, _, _ => rfl
  | x :: r, m, a, b, h, hb => by
    obtain ⟨h1, h2, h3⟩ := h
    rw [meetB, decide_eq_false (by omega), meetB_far h3 (by omega)]
    rfl
theorem meetB_pos : ∀ {l : List Sp} {m a b : Int}, Ok m l → meetB a b l = match l.drop (pos (a + 1) l) with
    | [] => false
    | x :: _ => decide (x.1 < b)
  | [], m, a, b, _ => rfl
  | x :: r, m, a, b, h => by
    obtain ⟨h1, h2, h3⟩ := h
    by_cases h4 : x.2 < a + 1
    · have e : pos (a + 1) (x :: r) = pos (a + 1) r + 1 := by show (if x.2 < a + 1 then _ else _) = _; rw [if_pos h4]
      rw [e, meetB, decide_eq_false (show ¬ a < x.2 by omega), meetB_pos h3]
      simp
    · have e : pos (a + 1) (x :: r) = 0 := by show (if x.2 < a + 1 then _ else _) = _; rw [if_neg h4]
      rw [e, meetB, decide_eq_true (show a < x.2 by omega)]
      show (decide (x.1 < b) && true || meetB a b r) = decide (x.1 < b)
      by_cases h5 : x.1 < b
      · rw [decide_eq_true h5]; rfl
      · rw [decide_eq_false h5, meetB_far h3 (by omega)]; rfl
def meetV (l : List Sp) (s : Sp) : Bool := if vb (-1) l = true then (if rt s = true then meetB s.1 s.2 l else false) else false
theorem Meets_val {l : List Sp} {s : Sp} (hl : l.length ≤ 1000000000) {k : Nat} (hk : l.length < k) : extent_Meets.f k l s = some (meetV l s) := by
  unfold extent_Meets.f meetV
  rw [Valid_val hl hk, right_val]
  simp only [Option.bind_some]
  split
  · rename_i h1
    split
    · rename_i h2
      have h1 := vb_vd.1 h1
      have h3 : 0 ≤ s.1 ∧ s.1 < s.2 ∧ s.2 ≤ 1099511627776 := of_decide_eq_true h2
      rw [wi64 (by omega) (by omega), first_val h1 ⟨by omega, by omega⟩ hl hk]
      simp only [Option.bind_some]
      rw [meetB_pos h1.1]
      have hp := pos_le (s.1 + 1) l
      by_cases h4 : pos (s.1 + 1) l < l.length
      · rw [if_pos (by omega), if_pos (by omega), drop_cons h4]
        simp only [lt, show ((pos (s.1 + 1) l : Int)).toNat = pos (s.1 + 1) l from by omega]
      · rw [if_neg (by omega), List.drop_of_length_le (by omega)]
    · rfl
  · rfl
theorem tot_le : ∀ {l : List Sp} {m B : Int}, Ok m l → (∀ x ∈ l, x.2 ≤ B) → m ≤ B → 0 ≤ tot l ∧ tot l ≤ B - m
  | [], m, B, _, _, h => ⟨Int.le_refl _, by simp only [tot]; omega⟩
  | x :: r, m, B, h, hB, hm => by
    obtain ⟨h1, h2, h3⟩ := h
    have := tot_le h3 (fun y hy => hB y (by simp [hy])) (hB x (by simp))
    simp only [tot]
    omega
theorem Total_lo2 {l : List Sp} (hl : l.length ≤ 1000000000) (hB : ∀ x ∈ l, 0 ≤ x.1 ∧ x.1 ≤ x.2 ∧ x.2 ≤ 1099511627776) : ∀ (j x k : Nat) (a : Int), x + j = l.length → j < k → 0 ≤ a → a + tot (l.drop x) ≤ 4000000000000 → (∀ n, 0 ≤ tot (l.drop n)) → extent_Total.lo2 l k a (x : Int) = some (a + tot (l.drop x)) := by
  intro j
  induction j with
  | zero =>
    intro x k a hx hk _ _ _
    obtain ⟨k, rfl⟩ : ∃ q, k = q + 1 := ⟨k - 1, by omega⟩
    rw [extent_Total.lo2, if_neg (by omega), List.drop_of_length_le (by omega)]
    simp [tot]
  | succ j ih =>
    intro x k a hx hk ha hs hn
    obtain ⟨k, rfl⟩ : ∃ q, k = q + 1 := ⟨k - 1, by omega⟩
    have hxl : x < l.length := by omega
    have h1 := hB _ (getD_mem hxl)
    have h2 := hn (x + 1)
    rw [drop_cons hxl] at hs ⊢
    simp only [tot] at hs ⊢
    rw [extent_Total.lo2, if_pos (by omega), if_pos (by omega)]
    simp only [lt, show ((x : Int)).toNat = x from by omega]
    rw [wi64 (n := (l.getD x ((0 : Int), (0 : Int))).2 - (l.getD x ((0 : Int), (0 : Int))).1) (by omega) (by omega), wi64 (n := a + _) (by omega) (by omega), wi64 (n := (x : Int) + 1) (by omega) (by omega), show ((x : Int) + 1) = ((x + 1 : Nat) : Int) from by omega, ih (x + 1) k _ (by omega) (by omega) (by omega) (by omega) hn]
    congr 1
    omega
def totV (l : List Sp) : Int := if vb (-1) l = true then tot l else 0
theorem tot_drop {l : List Sp} {m : Int} (h : Ok m l) (n : Nat) : 0 ≤ tot (l.drop n) := by
  have key : ∀ {q : List Sp}, (∀ x ∈ q, x.1 < x.2) → 0 ≤ tot q := by
    intro q
    induction q with
    | nil => intro _; exact Int.le_refl _
    | cons x r ih =>
      intro hq
      have := ih (fun y hy => hq y (by simp [hy]))
      have := hq x (by simp)
      simp only [tot]
      omega
  exact key (fun x hx => (ok_mem h x (List.mem_of_mem_drop hx)).2)
theorem Total_val {l : List Sp} (hl : l.length ≤ 1000000000) {k : Nat} (hk : l.length < k) : extent_Total.f k l = some (totV l) := by
  unfold extent_Total.f totV
  rw [Valid_val hl hk]
  simp only [Option.bind_some]
  split
  · rename_i h1
    have h1 := vb_vd.1 h1
    have h2 := tot_le h1.1 h1.2 (by omega)
    have h3 := Total_lo2 hl (fun x hx => by have := ok_mem h1.1 x hx; have := h1.2 x hx; omega) l.length 0 k 0 (by omega) hk (Int.le_refl _) (by simp; omega) (tot_drop h1.1)
    unfold extent_Total.jo1
    simpa using h3
  · rfl
def wide (n : Int) (x : Sp) : Bool := decide (IntKind.wrap .i64 (x.2 - x.1) ≥ n)
def fix (n : Int) : List Sp → Nat → Int
  | [], _ => -1
  | x :: r, i => if wide n x = true then (i : Int) else fix n r (i + 1)
theorem Index_lo1 {l : List Sp} (hl : l.length ≤ 1000000000) (n : Int) : ∀ (j x k : Nat), x + j = l.length → j < k → slices_IndexFunc_46_s47.lo1 l n k (x : Int) = some (fix n (l.drop x) x) := by
  intro j
  induction j with
  | zero =>
    intro x k hx hk
    obtain ⟨k, rfl⟩ : ∃ q, k = q + 1 := ⟨k - 1, by omega⟩
    rw [slices_IndexFunc_46_s47.lo1, if_neg (by omega), List.drop_of_length_le (by omega)]
    rfl
  | succ j ih =>
    intro x k hx hk
    obtain ⟨k, rfl⟩ : ∃ q, k = q + 1 := ⟨k - 1, by omega⟩
    rw [slices_IndexFunc_46_s47.lo1, if_pos (by omega), if_pos (by omega), show ((x : Int)).toNat = x from by omega, drop_cons (x := x) (by omega)]
    show (some (wide n (l.getD x ((0 : Int), (0 : Int))))).bind _ = _
    simp only [Option.bind_some, fix]
    split
    · rfl
    · rw [wi64 (by omega) (by omega), show ((x : Int) + 1) = ((x + 1 : Nat) : Int) from by omega, ih (x + 1) k (by omega) (by omega)]
def fnd (n : Int) : List Sp → Int
  | [] => -1
  | x :: r => if x.2 - x.1 ≥ n then x.1 else fnd n r
theorem fix_get (n : Int) : ∀ (l : List Sp) (i : Nat), (∀ x ∈ l, 0 ≤ x.1 ∧ x.1 < x.2 ∧ x.2 ≤ 1099511627776) → (fix n l i = -1 ∧ fnd n l = -1) ∨ ∃ j, j < l.length ∧ fix n l i = ((i + j : Nat) : Int) ∧ fnd n l = (l.getD j ((0 : Int), (0 : Int))).1
  | [], i, _ => .inl ⟨rfl, rfl⟩
  | x :: r, i, h => by
    have hx := h x (by simp)
    have ew : wide n x = decide (x.2 - x.1 ≥ n) := by unfold wide; rw [wi64 (by omega) (by omega)]
    by_cases h1 : x.2 - x.1 ≥ n
    · right
      refine ⟨0, by simp, ?_, ?_⟩
      · rw [fix, ew, decide_eq_true h1, if_pos rfl]; rfl
      · rw [fnd, if_pos h1]; rfl
    · rw [fix, fnd, ew, decide_eq_false h1, if_neg (by decide), if_neg h1]
      rcases fix_get n r (i + 1) (fun y hy => h y (by simp [hy])) with h2 | ⟨j, h2, h3, h4⟩
      · exact .inl h2
      · exact .inr ⟨j + 1, by simp; omega, by rw [h3]; congr 1; omega, h4⟩
theorem fix_ge (n : Int) : ∀ (l : List Sp) (i : Nat), -1 ≤ fix n l i ∧ fix n l i < i + l.length + 1
  | [], i => ⟨Int.le_refl _, by simp [fix]; omega⟩
  | x :: r, i => by
    have := fix_ge n r (i + 1)
    unfold fix
    split
    · simp; omega
    · simp at this ⊢; omega
def fndV (l : List Sp) (n : Int) : Int := if n < 1 then -1 else if vb (-1) l = true then fnd n l else -1
theorem Find_val {l : List Sp} (hl : l.length ≤ 1000000000) {k : Nat} (hk : l.length < k) (n : Int) : extent_Find.f k l n = some (fndV l n) := by
  unfold extent_Find.f fndV slices_IndexFunc_46_s47.f
  have h0 := Index_lo1 hl n l.length 0 k (by omega) hk
  rw [show ((0 : Nat) : Int) = 0 from rfl, List.drop_zero] at h0
  rw [h0, Valid_val hl hk]
  simp only [Option.bind_some]
  split
  · rfl
  · by_cases h1 : vb (-1) l = true
    · have h2 := vb_vd.1 h1
      rw [if_pos h1]
      rcases fix_get n l 0 (fun x hx => by have := ok_mem h2.1 x hx; have := h2.2 x hx; omega) with ⟨h3, h4⟩ | ⟨j, h3, h4, h5⟩
      · rw [h3, if_pos (by omega), h4, ite_self]
      · rw [h4, if_neg (by omega), if_pos h1, if_pos (by omega), if_pos (by omega), h5]
        simp only [lt, show (((0 + j : Nat) : Int)).toNat = j from by omega]
    · rw [if_neg h1]
      split <;> rfl
end Go.Proofs.Ytiikfaefeonfhaa.Exv
