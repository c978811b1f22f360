/- Sectors that are free, and that wait: what the program computes; no condition. -/
import Derived.Test.YtiikfaefeonfhaaExm
set_option linter.unusedVariables false
set_option linter.unusedSimpArgs false
namespace Go.Proofs.Ytiikfaefeonfhaa.Alv
open Go Go.RowKit Go.Proofs.Ytiikfaefeonfhaa.Sx Go.Proofs.Ytiikfaefeonfhaa.G Go.Proofs.Ytiikfaefeonfhaa.Bt Go.Proofs.Ytiikfaefeonfhaa.Ext Go.Proofs.Ytiikfaefeonfhaa.Exv Go.Proofs.Ytiikfaefeonfhaa.Exm

abbrev Al := (Int × Int) × Bool × Int × List Sp × Unit × List Sp
def mk (all : Sp) (res : Int) (free was : List Sp) : Al := (all, true, res, free, (), was)
def wOf (L : List Sp) : Bool × List Sp := (!L.isEmpty, L)
theorem none_val (k : Nat) (a : Sp) (r : Int) (F w : List Sp) (l : Bool × List Sp) : alloc_Alloc_none.f k (mk a r F w) l = some false := rfl
def takeF (F : List Sp) (n : Int) : Int × Int × List Sp := if fndV F n < 0 then (0, 15, F) else (fndV F n, 0, remV F (fndV F n, fndV F n + n))
theorem fnd_mem (n : Int) : ∀ (l : List Sp), fnd n l = -1 ∨ ∃ x ∈ l, fnd n l = x.1 ∧ n ≤ x.2 - x.1
  | [] => .inl rfl
  | x :: r => by
    unfold fnd
    split
    · exact .inr ⟨x, by simp, rfl, by omega⟩
    · rcases fnd_mem n r with h | ⟨y, h1, h2⟩
      · exact .inl h
      · exact .inr ⟨y, by simp [h1], h2⟩
theorem fndV_bound {F : List Sp} (h : Ok (-1) F) {B : Int} (hB : ∀ x ∈ F, x.2 ≤ B) (n : Int) : fndV F n = -1 ∨ (0 ≤ fndV F n ∧ fndV F n + n ≤ B ∧ 1 ≤ n) := by
  unfold fndV
  split
  · exact .inl rfl
  · split
    · rcases fnd_mem n F with h1 | ⟨x, h1, h2, h3⟩
      · exact .inl h1
      · have := ok_mem h x h1
        have := hB x h1
        exact .inr ⟨by omega, by omega, by omega⟩
    · exact .inl rfl
/-- What is small: lists up to a thousand. -/
structure Sm (F : List Sp) : Prop where
  ok : Ok (-1) F
  le : ∀ x ∈ F, x.2 ≤ 1000
theorem Sm.len {F : List Sp} (h : Sm F) : F.length ≤ 1001 := by
  have := ok_len h.ok h.le (by omega)
  omega
theorem Sm.vd {F : List Sp} (h : Sm F) : Vd 1099511627776 F := ⟨h.ok, fun x hx => by have := h.le x hx; omega⟩
theorem Sm.nil : Sm [] := ⟨trivial, fun x hx => by cases hx⟩
theorem Sm.addV {F : List Sp} (h : Sm F) {s : Sp} (hs : s.2 ≤ 1000) : Sm (addV F s) := by
  unfold Exv.addV
  split
  · split
    · rename_i h1 h2
      have h3 : 0 ≤ s.1 ∧ s.1 < s.2 ∧ s.2 ≤ 1099511627776 := of_decide_eq_true h2
      exact ⟨ok_add h.ok (by omega) h3.2.1, add_le h.le hs⟩
    · exact h
  · exact h
theorem Sm.remV {F : List Sp} (h : Sm F) (s : Sp) : Sm (remV F s) := by
  unfold Exv.remV
  split
  · split
    · rename_i h1 h2
      have h3 : 0 ≤ s.1 ∧ s.1 < s.2 ∧ s.2 ≤ 1099511627776 := of_decide_eq_true h2
      exact ⟨ok_rem h.ok h3.2.1, rem_le (ok_pos h.ok) h.le⟩
    · exact h
  · exact h
theorem Take_spare {a : Sp} {r n : Int} {F w : List Sp} {l : Bool × List Sp} (h : Sm F) (hn : 1 ≤ n) (hn2 : n ≤ 1000) {k : Nat} (hk : 1100 < k) : alloc_Alloc_Take.f k (mk a r F w) l n true = some ((takeF F n).1, (takeF F n).2.1, mk a r (takeF F n).2.2 w) := by
  have hl := h.len
  show (alloc_Alloc_none.f k (mk a r F w) l).bind _ = _
  rw [none_val, Option.bind_some, if_neg (by decide), if_neg (by omega)]
  unfold alloc_Alloc_Take.jo1
  show (extent_Find.f k F n).bind _ = _
  rw [Find_val (by omega) (by omega), Option.bind_some]
  have hb := fndV_bound h.ok h.le n
  unfold takeF
  split
  · rfl
  · rw [if_pos rfl, wi64 (by omega) (by omega)]
    show (extent_Remove.f k F _).bind _ = _
    rw [Remove_val (by omega) (by omega), Option.bind_some]
    rfl
theorem Take_kept {a : Sp} {r n : Int} {F w : List Sp} {l : Bool × List Sp} (h : Sm F) (hn : 1 ≤ n) (hn2 : n ≤ 1000) {k : Nat} (hk : 1100 < k) : alloc_Alloc_Take.f k (mk a r F w) l n false = some (if totV F - n < r then (0, 15, mk a r F w) else ((takeF F n).1, (takeF F n).2.1, mk a r (takeF F n).2.2 w)) := by
  have hl := h.len
  show (alloc_Alloc_none.f k (mk a r F w) l).bind _ = _
  rw [none_val, Option.bind_some, if_neg (by decide), if_neg (by omega)]
  unfold alloc_Alloc_Take.jo1
  show (extent_Find.f k F n).bind _ = _
  rw [Find_val (by omega) (by omega), Option.bind_some]
  have hb := fndV_bound h.ok h.le n
  have ht : 0 ≤ totV F ∧ totV F ≤ 1001 := by
    unfold totV
    rw [if_pos (vb_vd.2 h.vd)]
    have := tot_le h.ok h.le (by omega)
    omega
  by_cases h1 : fndV F n < 0
  · rw [if_pos h1]
    unfold takeF
    rw [if_pos h1]
    split <;> rfl
  · rw [if_neg h1, if_neg (by decide)]
    show (extent_Total.f k F).bind _ = _
    rw [Total_val (by omega) (by omega), Option.bind_some, wi64 (by omega) (by omega)]
    show (if totV F - n < r then _ else _) = _
    split
    · rfl
    · rw [wi64 (by omega) (by omega)]
      show (extent_Remove.f k F _).bind _ = _
      rw [Remove_val (by omega) (by omega), Option.bind_some]
      unfold takeF
      rw [if_neg h1]
      rfl
theorem Free_val {a : Sp} {r : Int} {F w : List Sp} {l : Bool × List Sp} (h : Sm F) {k : Nat} (hk : 1100 < k) : alloc_Alloc_Free.f k (mk a r F w) l = some (totV F) := by
  have hl := h.len
  show (alloc_Alloc_none.f k (mk a r F w) l).bind _ = _
  rw [none_val, Option.bind_some, if_neg (by decide)]
  show (extent_Total.f k F).bind _ = _
  rw [Total_val (by omega) (by omega), Option.bind_some]
/-! ### What waits -/
def W (L : List Sp) : List Sp := L.foldl addV []
theorem drop_foldl {L : List Sp} (A : List Sp) {x : Nat} (h : x < L.length) : (L.drop x).foldl addV A = (L.drop (x + 1)).foldl addV (addV A (L.getD x ((0 : Int), (0 : Int)))) := by rw [drop_cons h]; rfl
theorem Sm.fold {L : List Sp} : ∀ {A : List Sp}, Sm A → (∀ s ∈ L, s.2 ≤ 1000) → Sm (L.foldl Exv.addV A) := by
  induction L with
  | nil => intro A h _; exact h
  | cons s r ih =>
    intro A h hs
    exact ih (h.addV (hs s (by simp))) (fun q hq => hs q (by simp [hq]))
theorem waiting_lo1 {L : List Sp} (hL : ∀ s ∈ L, s.2 ≤ 1000) (hl : L.length ≤ 1000) (p : Bool) : ∀ (j x k : Nat) (A : List Sp), x + j = L.length → j + 1100 < k → Sm A → alloc_Alloc_waiting.lo1 (p, L) k A (x : Int) = some ((L.drop x).foldl addV A, (true, L)) := by
  intro j
  induction j with
  | zero =>
    intro x k A hx hk hA
    obtain ⟨k, rfl⟩ : ∃ q, k = q + 1 := ⟨k - 1, by omega⟩
    rw [alloc_Alloc_waiting.lo1, if_neg (by simp only []; omega), List.drop_of_length_le (by omega)]
    rfl
  | succ j ih =>
    intro x k A hx hk hA
    obtain ⟨k, rfl⟩ : ∃ q, k = q + 1 := ⟨k - 1, by omega⟩
    have hxl : x < L.length := by omega
    have hAl := hA.len
    rw [alloc_Alloc_waiting.lo1, if_pos (by simp only []; omega), if_pos (by omega), show ((x : Int)).toNat = x from by omega, Add_val (by omega) (by omega), Option.bind_some, wi64 (by omega) (by omega), show ((x : Int) + 1) = ((x + 1 : Nat) : Int) from by omega, ih (x + 1) k _ (by omega) (by omega) (hA.addV (hL _ (getD_mem hxl))), drop_foldl A hxl]
theorem waiting_val {v : Al} {L : List Sp} (hL : ∀ s ∈ L, s.2 ≤ 1000) (hl : L.length ≤ 1000) {k : Nat} (hk : 2200 < k) : alloc_Alloc_waiting.f k v (wOf L) = some (W L, wOf L) := by
  unfold alloc_Alloc_waiting.f
  cases L with
  | nil => rfl
  | cons s r =>
    rw [if_pos (by rfl)]
    have := waiting_lo1 hL hl (!(s :: r).isEmpty) (s :: r).length 0 k [] (by omega) (by omega) Sm.nil
    exact this
theorem Sm.W {L : List Sp} (hL : ∀ s ∈ L, s.2 ≤ 1000) : Sm (W L) := Sm.fold Sm.nil hL
theorem Waiting_val {a : Sp} {r : Int} {F w L : List Sp} (hL : ∀ s ∈ L, s.2 ≤ 1000) (hl : L.length ≤ 1000) {k : Nat} (hk : 2200 < k) : alloc_Alloc_Waiting.f k (mk a r F w) (wOf L) = some (totV (W L), wOf L) := by
  have hwl := (Sm.W hL).len
  show (alloc_Alloc_none.f k (mk a r F w) (wOf L)).bind _ = _
  rw [none_val, Option.bind_some, if_neg (by decide)]
  show (alloc_Alloc_waiting.f k (mk a r F w) (wOf L)).bind _ = _
  rw [waiting_val hL hl hk, Option.bind_some]
  show (extent_Total.f k (W L)).bind _ = _
  rw [Total_val (by omega) (by omega), Option.bind_some]
theorem tot_b {F : List Sp} (h : Sm F) : 0 ≤ totV F ∧ totV F ≤ 1001 := by
  unfold totV
  rw [if_pos (vb_vd.2 h.vd)]
  have := tot_le h.ok h.le (by omega)
  omega
theorem Used_val {a : Sp} {r : Int} {F w L : List Sp} (ha : 0 ≤ a.1 ∧ a.1 ≤ a.2 ∧ a.2 ≤ 1000) (h : Sm F) (hL : ∀ s ∈ L, s.2 ≤ 1000) (hl : L.length ≤ 1000) {k : Nat} (hk : 2200 < k) : alloc_Alloc_Used.f k (mk a r F w) (wOf L) = some (a.2 - a.1 - totV F - totV (W L), wOf L) := by
  have hw := tot_b (Sm.W hL)
  have hf := tot_b h
  show (alloc_Alloc_none.f k (mk a r F w) (wOf L)).bind _ = _
  rw [none_val, Option.bind_some, if_neg (by decide)]
  show (alloc_Alloc_Free.f k (mk a r F w) (wOf L)).bind _ = _
  rw [Free_val h (by omega), Option.bind_some]
  simp only [Sx.lt]
  show (alloc_Alloc_Waiting.f k (mk a r F w) (wOf L)).bind _ = _
  rw [Waiting_val hL hl hk, Option.bind_some]
  show some (IntKind.wrap .i64 (IntKind.wrap .i64 (IntKind.wrap .i64 (a.2 - a.1) - totV F) - totV (W L)), wOf L) = _
  rw [wi64 (n := a.2 - a.1) (by omega) (by omega), wi64 (n := a.2 - a.1 - totV F) (by omega) (by omega), wi64 (by omega) (by omega)]
theorem New_val {f t r : Int} (h1 : 0 ≤ f) (h2 : f ≤ t) (h3 : t ≤ 1000) (h4 : 0 ≤ r) (h5 : r ≤ t - f) {k : Nat} (hk : 10 < k) : alloc_New.f k f t r = some ((mk (f, t) r (addV [] (f, t)) (addV [] (f, t)), wOf []), 0) := by
  unfold alloc_New.f
  rw [if_neg (by omega), if_neg (by omega), if_neg (by omega), if_neg (by omega), wi64 (by omega) (by omega), if_neg (by omega), Add_val (by simp) (by simp; omega), Option.bind_some]
  rfl
/-! ### Giving back -/
def usedB (a : Sp) (F L : List Sp) (s : Sp) : Int := if s.1 < a.1 then 2 else if s.1 ≥ s.2 then 2 else if s.2 > a.2 then 2 else if meetV F s = true then 13 else if meetV (W L) s = true then 13 else 0
theorem used_val {a : Sp} {r : Int} {F w L : List Sp} (h : Sm F) (hL : ∀ s ∈ L, s.2 ≤ 1000) (hl : L.length ≤ 1000) (s : Sp) {k : Nat} (hk : 2200 < k) : alloc_Alloc_used.f k (mk a r F w) (wOf L) s = some (usedB a F L s, wOf L) := by
  have hfl := h.len
  have hwl := (Sm.W hL).len
  have hc : alloc_Alloc_check.f k (mk a r F w) (wOf L) s = some (if s.1 < a.1 then 2 else if s.1 ≥ s.2 then 2 else if s.2 > a.2 then 2 else 0) := by
    show (alloc_Alloc_none.f k (mk a r F w) (wOf L)).bind _ = _
    rw [none_val, Option.bind_some, if_neg (by decide)]
    show (if s.1 < a.1 then some (2 : Int) else _) = _
    split
    · rfl
    · split
      · rfl
      · show (if s.2 > a.2 then some (2 : Int) else _) = _
        split <;> rfl
  show (alloc_Alloc_check.f k (mk a r F w) (wOf L) s).bind _ = _
  rw [hc, Option.bind_some]
  unfold usedB
  by_cases c1 : s.1 < a.1
  · rw [if_pos c1, if_pos c1, if_neg (by decide)]
  · rw [if_neg c1, if_neg c1]
    by_cases c2 : s.1 ≥ s.2
    · rw [if_pos c2, if_pos c2, if_neg (by decide)]
    · rw [if_neg c2, if_neg c2]
      by_cases c3 : s.2 > a.2
      · rw [if_pos c3, if_pos c3, if_neg (by decide)]
      · rw [if_neg c3, if_neg c3, if_pos rfl]
        show (extent_Meets.f k F s).bind _ = _
        rw [Meets_val (by omega) (by omega), Option.bind_some]
        split
        · rfl
        · show (alloc_Alloc_waiting.f k (mk a r F w) (wOf L)).bind _ = _
          rw [waiting_val hL hl hk, Option.bind_some]
          show (extent_Meets.f k (W L) s).bind _ = _
          rw [Meets_val (by omega) (by omega), Option.bind_some]
          split <;> rfl
theorem Later_val {a : Sp} {r : Int} {F w L : List Sp} (h : Sm F) (hL : ∀ s ∈ L, s.2 ≤ 1000) (hl : L.length ≤ 1000) (s : Sp) {k : Nat} (hk : 2200 < k) : alloc_Alloc_Later.f k (mk a r F w) (wOf L) s = some (usedB a F L s, wOf (if usedB a F L s = 0 then L ++ [s] else L)) := by
  show (alloc_Alloc_used.f k (mk a r F w) (wOf L) s).bind _ = _
  rw [used_val h hL hl s hk, Option.bind_some]
  split
  · rename_i h1
    rw [if_pos (by show (L.length + _) * 16 ≤ _; simp; omega)]
    show some (usedB a F L s, (true, L ++ [s])) = some (usedB a F L s, (!(L ++ [s]).isEmpty, L ++ [s]))
    simp
  · rfl
theorem Commit_lo2 {a : Sp} {r : Int} {w L : List Sp} (hL : ∀ s ∈ L, s.2 ≤ 1000) (hl : L.length ≤ 1000) (p : Bool) : ∀ (j x k : Nat) (F : List Sp), x + j = L.length → j + 1100 < k → Sm F → alloc_Alloc_Commit.lo2 (p, L) k (x : Int) (mk a r F w) = some (mk a r ((L.drop x).foldl addV F) ((L.drop x).foldl addV F), wOf []) := by
  intro j
  induction j with
  | zero =>
    intro x k F hx hk hF
    obtain ⟨k, rfl⟩ : ∃ q, k = q + 1 := ⟨k - 1, by omega⟩
    rw [alloc_Alloc_Commit.lo2, if_neg (by simp only []; omega), List.drop_of_length_le (by omega)]
    rfl
  | succ j ih =>
    intro x k F hx hk hF
    obtain ⟨k, rfl⟩ : ∃ q, k = q + 1 := ⟨k - 1, by omega⟩
    have hxl : x < L.length := by omega
    have hFl := hF.len
    rw [alloc_Alloc_Commit.lo2, if_pos (by simp only []; omega), if_pos (by omega), show ((x : Int)).toNat = x from by omega]
    show (extent_Add.f k F _).bind _ = _
    rw [Add_val (by omega) (by omega), Option.bind_some, wi64 (by omega) (by omega), show ((x : Int) + 1) = ((x + 1 : Nat) : Int) from by omega]
    show alloc_Alloc_Commit.lo2 (p, L) k ((x + 1 : Nat) : Int) (mk a r (addV F (L.getD x ((0 : Int), (0 : Int)))) w) = _
    rw [ih (x + 1) k _ (by omega) (by omega) (hF.addV (hL _ (getD_mem hxl))), drop_foldl F hxl]
theorem Commit_val {a : Sp} {r : Int} {F w L : List Sp} (h : Sm F) (hL : ∀ s ∈ L, s.2 ≤ 1000) (hl : L.length ≤ 1000) {k : Nat} (hk : 2200 < k) : alloc_Alloc_Commit.f k (mk a r F w) (wOf L) = some (mk a r (L.foldl addV F) (L.foldl addV F), wOf []) := by
  show (alloc_Alloc_none.f k (mk a r F w) (wOf L)).bind _ = _
  rw [none_val, Option.bind_some, if_neg (by decide)]
  unfold alloc_Alloc_Commit.jo1
  cases L with
  | nil => rfl
  | cons s q =>
    rw [if_pos (by rfl)]
    exact Commit_lo2 hL hl (!(s :: q).isEmpty) (s :: q).length 0 k F (by omega) (by omega) h
end Go.Proofs.Ytiikfaefeonfhaa.Alv
