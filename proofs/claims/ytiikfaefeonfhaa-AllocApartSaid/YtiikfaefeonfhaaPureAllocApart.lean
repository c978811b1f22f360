/- The pure statement of AllocApart; no condition. -/
import Derived.Test.YtiikfaefeonfhaaSAllocApart
import Derived.Test.YtiikfaefeonfhaaAlv
set_option linter.unusedVariables false
set_option linter.unusedSimpArgs false
namespace Go.Proofs.Ytiikfaefeonfhaa.Pure
open Go Go.RowKit Go.Proofs.Ytiikfaefeonfhaa.Sx Go.Proofs.Ytiikfaefeonfhaa.G Go.Proofs.Ytiikfaefeonfhaa.Bt Go.Proofs.Ytiikfaefeonfhaa.Ext Go.Proofs.Ytiikfaefeonfhaa.Exv Go.Proofs.Ytiikfaefeonfhaa.Exm Go.Proofs.Ytiikfaefeonfhaa.Alv

theorem andm (a : Int) (m : Nat) (hm : m ≤ 1000) : 0 ≤ bits .and .i64 a (m : Int) ∧ bits .and .i64 a (m : Int) ≤ (m : Int) := by
  simp only [bits, bvi]
  have h1 : (BitVec.ofInt IntKind.i64.bits a &&& BitVec.ofNat IntKind.i64.bits m).toNat ≤ m := by
    rw [BitVec.toNat_and]
    refine Nat.le_trans Nat.and_le_right ?_
    simp only [BitVec.toNat_ofNat]
    exact Nat.mod_le _ _
  rw [wi64 (by omega) (by omega)]
  omega
def Rl (L : List Sp) : Prop := ∀ s ∈ L, 0 ≤ s.1 ∧ s.1 < s.2 ∧ s.2 ≤ 1000
theorem Rl.le {L : List Sp} (h : Rl L) : ∀ s ∈ L, s.2 ≤ 1000 := fun s hs => (h s hs).2.2
theorem Rl.app {L : List Sp} (h : Rl L) {s : Sp} (hs : 0 ≤ s.1 ∧ s.1 < s.2 ∧ s.2 ≤ 1000) : Rl (L ++ [s]) := fun x hx => by
  rcases List.mem_append.1 hx with h1 | h1
  · exact h x h1
  · have : x = s := by simpa using h1
    subst this
    exact hs
theorem Rl.sm {F : List Sp} (h : Sm F) : Rl F := fun s hs => by
  have := ok_mem h.ok s hs
  have := h.le s hs
  omega
theorem addV_in {F : List Sp} (h : Sm F) {s : Sp} (hs : 0 ≤ s.1 ∧ s.1 < s.2 ∧ s.2 ≤ 1000) : addV F s = add F s.1 s.2 := by
  unfold addV
  rw [if_pos (vb_vd.2 h.vd), if_pos (show rt s = true from decide_eq_true ⟨hs.1, hs.2.1, by omega⟩)]
theorem remV_in {F : List Sp} (h : Sm F) {s : Sp} (hs : 0 ≤ s.1 ∧ s.1 < s.2 ∧ s.2 ≤ 1000) : remV F s = rem F s.1 s.2 := by
  unfold remV
  rw [if_pos (vb_vd.2 h.vd), if_pos (show rt s = true from decide_eq_true ⟨hs.1, hs.2.1, by omega⟩)]
theorem meetV_in {F : List Sp} (h : Sm F) {s : Sp} (hs : 0 ≤ s.1 ∧ s.1 < s.2 ∧ s.2 ≤ 1000) (hm : ∀ k, s.1 ≤ k → k < s.2 → ¬ mem F k) : meetV F s = false := by
  unfold meetV
  rw [if_pos (vb_vd.2 h.vd), if_pos (show rt s = true from decide_eq_true ⟨hs.1, hs.2.1, by omega⟩)]
  rw [Bool.eq_false_iff]
  intro hb
  obtain ⟨k, h1, h2, h3⟩ := (meetB_iff (ok_pos h.ok) hs.2.1).1 hb
  exact hm k h1 h2 h3
theorem mem_fold : ∀ {L F : List Sp} (k : Int), Sm F → Rl L → (mem (L.foldl addV F) k ↔ mem F k ∨ mem L k) := by
  intro L
  induction L with
  | nil => intro F k h hL; simp [mem]
  | cons s r ih =>
    intro F k h hL
    have hs := hL s (by simp)
    show mem (r.foldl addV (addV F s)) k ↔ _
    rw [ih k (h.addV hs.2.2) (fun x hx => hL x (by simp [hx])), addV_in h hs, mem_add (ok_pos h.ok) hs.2.1]
    simp only [mem]
    exact or_assoc
theorem mem_W {L : List Sp} (hL : Rl L) (k : Int) : mem (W L) k ↔ mem L k := by
  unfold W
  rw [mem_fold k Sm.nil hL]
  simp [mem]
theorem mem_of {x : Sp} {k : Int} (h : x.1 ≤ k ∧ k < x.2) : ∀ {F : List Sp}, x ∈ F → mem F k
  | y :: r, hx => by
    rcases List.mem_cons.1 hx with rfl | hx
    · exact .inl h
    · exact .inr (mem_of h hx)
theorem mem_ex {k : Int} : ∀ {F : List Sp}, mem F k → ∃ x ∈ F, x.1 ≤ k ∧ k < x.2
  | y :: r, h => by
    rcases h with h | h
    · exact ⟨y, by simp, h⟩
    · obtain ⟨x, hx, h2⟩ := mem_ex h
      exact ⟨x, by simp [hx], h2⟩
/-! ### Numbers of sectors -/
theorem tot_count : ∀ (l : List Sp) (st : List Int) (p v : Int), Ok (p - 1) l → (∀ x ∈ l, x.2 ≤ p + st.length) → (∀ i : Nat, i < st.length → (st.getD i 0 = v ↔ mem l (p + i))) → ((st.count v : Nat) : Int) = tot l
  | [], st, p, v, _, _, h => by
    have : st.count v = 0 := List.count_eq_zero.2 fun hm => by
      obtain ⟨i, hi, e⟩ := List.getElem_of_mem hm
      exact (h i hi).1 (by rw [List.getD_eq_getElem?_getD, List.getElem?_eq_getElem hi]; exact e)
    rw [this]
    rfl
  | x :: r, st, p, v, hok, hle, h => by
    obtain ⟨h1, h2, h3⟩ := hok
    have hx := hle x (by simp)
    obtain ⟨a, ha⟩ : ∃ a : Nat, x.1 - p = a := ⟨(x.1 - p).toNat, by omega⟩
    obtain ⟨b, hb⟩ : ∃ b : Nat, x.2 - x.1 = b := ⟨(x.2 - x.1).toNat, by omega⟩
    have hab : a + b ≤ st.length := by omega
    have e : st = st.take a ++ ((st.drop a).take b ++ st.drop (a + b)) := by
      rw [← List.drop_drop, List.take_append_drop, List.take_append_drop]
    have gd : ∀ i (l' : List Int), l'.getD i 0 = (l'[i]?).getD 0 := fun i l' => List.getD_eq_getElem?_getD ..
    have cA : (st.take a).count v = 0 := List.count_eq_zero.2 fun hm => by
      obtain ⟨i, hi, e⟩ := List.getElem_of_mem hm
      have hi' : i < a := by simp at hi; omega
      have h5 := (h i (by omega)).1 (by rw [gd, List.getElem?_eq_getElem (by omega)]; simpa using e)
      rcases h5 with h5 | h5
      · omega
      · have := mem_gt h3 h5
        omega
    have cB : ((st.drop a).take b).count v = b := by
      have hlen : ((st.drop a).take b).length = b := by simp; omega
      have : ((st.drop a).take b).count v = ((st.drop a).take b).length := List.count_eq_length.2 fun y hy => by
        obtain ⟨i, hi, e⟩ := List.getElem_of_mem hy
        have hi' : i < b := by omega
        have h5 := (h (a + i) (by omega)).2 (.inl ⟨by omega, by omega⟩)
        rw [gd, List.getElem?_eq_getElem (by omega)] at h5
        rw [← e]
        simp only [List.getElem_take, List.getElem_drop]
        simpa using h5.symm
      rw [this, hlen]
    have cC := tot_count r (st.drop (a + b)) x.2 v (ok_mono h3 (by omega)) (fun y hy => by have := hle y (by simp [hy]); simp; omega) (fun i hi => by
      have hi' : a + b + i < st.length := by simp at hi; omega
      have h5 := h (a + b + i) hi'
      rw [gd, List.getElem?_drop, ← gd, h5, show p + ((a + b + i : Nat) : Int) = x.2 + i by omega]
      constructor
      · rintro (h6 | h6)
        · omega
        · exact h6
      · exact fun h6 => .inr h6)
    show _ = (x.2 - x.1) + tot r
    rw [← cC]
    conv => lhs; rw [e]
    rw [List.count_append, List.count_append, cA, cB]
    omega
theorem count3 : ∀ (l : List Int), (∀ x ∈ l, x = 0 ∨ x = 1 ∨ x = 2) → l.count 0 + l.count 1 + l.count 2 = l.length
  | [], _ => rfl
  | x :: r, h => by
    have ih := count3 r (fun y hy => h y (by simp [hy]))
    rcases h x (by simp) with rfl | rfl | rfl
    · simp [List.count_cons]; omega
    · simp [List.count_cons]; omega
    · simp [List.count_cons]; omega
/-! ### What holds at each turn -/
structure Iv (N : Nat) (s : List Int) (F L H : List Sp) : Prop where
  n : 10 ≤ N ∧ N ≤ 73
  len : s.length = N
  sm : Sm F
  rl : Rl L
  free : ∀ k : Nat, 2 ≤ k → k < N → (s.getD k 0 = 0 ↔ mem F k)
  wait : ∀ k : Nat, 2 ≤ k → k < N → (s.getD k 0 = 2 ↔ mem L k)
  one : ∀ k : Nat, 2 ≤ k → k < N → (s.getD k 0 = 1 ↔ mem H k)
  three : ∀ k : Nat, 2 ≤ k → k < N → s.getD k 0 = 0 ∨ s.getD k 0 = 1 ∨ s.getD k 0 = 2
  inF : ∀ k : Int, mem F k → 2 ≤ k ∧ k < N
  inL : ∀ k : Int, mem L k → 2 ≤ k ∧ k < N
  inH : ∀ x ∈ H, 2 ≤ x.1 ∧ x.1 < x.2 ∧ x.2 ≤ N
  apart : H.Pairwise fun x y => ∀ k : Int, x.1 ≤ k → k < x.2 → ¬ (y.1 ≤ k ∧ k < y.2)
theorem Iv.not0 {N : Nat} {s : List Int} {F L H : List Sp} (h : Iv N s F L H) {k : Nat} (h1 : 2 ≤ k) (h2 : k < N) (hm : mem F k) : ¬ mem L k ∧ ¬ mem H k := by
  have e := (h.free k h1 h2).2 hm
  exact ⟨fun h3 => by have := (h.wait k h1 h2).2 h3; omega, fun h3 => by have := (h.one k h1 h2).2 h3; omega⟩
theorem getD_set {l : List Int} {i : Nat} (v : Int) (j : Nat) (hi : i < l.length) : (l.set i v).getD j 0 = if i = j then v else l.getD j 0 := by
  simp only [List.getD_eq_getElem?_getD, List.getElem?_set]
  split
  · rename_i h; subst h; simp [hi]
  · rfl
/-! ### The last count -/
theorem drop_count {s : List Int} {i : Nat} (h : i < s.length) (v : Int) : (s.drop i).count v = (s.drop (i + 1)).count v + if s.getD i 0 = v then 1 else 0 := by
  rw [List.drop_eq_getElem_cons h, List.count_cons, List.getD_eq_getElem?_getD, List.getElem?_eq_getElem h]
  simp
theorem lo3_val {N : Nat} (hN : 10 ≤ N ∧ N ≤ 73) {F L w : List Sp} (hF : Sm F) (hL : Rl L) (hl : L.length ≤ 1000) {s : List Int} (hs : s.length = N) : ∀ (j i k u : Nat), i + j = N → j + 2300 < k → u ≤ i →
    shadowboxlaw10_AllocApart.lo3 ((N : Int) - 2) s (mk (2, (N : Int)) 0 F w) (wOf L) k (u : Int) (i : Int) = some (decide ((N : Int) - 2 - totV F - totV (W L) = ((u + (s.drop i).count 1 : Nat) : Int))) := by
  intro j
  induction j with
  | zero =>
    intro i k u hi hk hu
    obtain ⟨k, rfl⟩ : ∃ q, k = q + 1 := ⟨k - 1, by omega⟩
    rw [shadowboxlaw10_AllocApart.lo3, wi64 (n := 2 + ((N : Int) - 2)) (by omega) (by omega), if_neg (by omega), List.drop_of_length_le (by omega)]
    show (alloc_Alloc_Used.f k (mk (2, (N : Int)) 0 F w) (wOf L)).bind _ = _
    rw [Used_val (by simp only []; omega) hF hL.le hl (by omega), Option.bind_some]
    rfl
  | succ j ih =>
    intro i k u hi hk hu
    obtain ⟨k, rfl⟩ : ∃ q, k = q + 1 := ⟨k - 1, by omega⟩
    rw [shadowboxlaw10_AllocApart.lo3, wi64 (n := 2 + ((N : Int) - 2)) (by omega) (by omega), if_pos (by omega), if_pos (by omega), if_pos (by omega), Int.toNat_natCast, wi64 (n := (i : Int) + 1) (by omega) (by omega), wi64 (n := (u : Int) + 1) (by omega) (by omega), show (i : Int) + 1 = ((i + 1 : Nat) : Int) by omega, show (u : Int) + 1 = ((u + 1 : Nat) : Int) by omega, drop_count (by omega) 1]
    by_cases c : s.getD i 0 = 1
    · rw [if_pos c, ih (i + 1) k (u + 1) (by omega) (by omega) (by omega), if_pos c]
      congr 2
      rw [show u + ((s.drop (i + 1)).count 1 + 1) = u + 1 + (s.drop (i + 1)).count 1 by omega]
    · rw [if_neg c, ih (i + 1) k u (by omega) (by omega) (by omega), if_neg c]
      rfl
theorem count_all {N : Nat} {s : List Int} {F L H : List Sp} (h : Iv N s F L H) : (N : Int) - 2 - totV F - totV (W L) = (((s.drop 2).count 1 : Nat) : Int) := by
  have hn := h.n
  have hlen : (s.drop 2).length = N - 2 := by rw [List.length_drop, h.len]
  have hW := Sm.W h.rl.le
  have gd : ∀ i, (s.drop 2).getD i 0 = s.getD (2 + i) 0 := fun i => by simp only [List.getD_eq_getElem?_getD, List.getElem?_drop]
  have okp : ∀ {G : List Sp}, Sm G → (∀ k : Int, mem G k → 2 ≤ k ∧ k < N) → Ok ((2 : Int) - 1) G ∧ ∀ x ∈ G, x.2 ≤ (2 : Int) + ((s.drop 2).length : Nat) := fun {G} hG hin => by
    constructor
    · cases G with
      | nil => trivial
      | cons x r =>
        have hp := ok_pos hG.ok x (by simp)
        have := hin x.1 (.inl ⟨Int.le_refl _, hp⟩)
        exact ⟨by omega, hp, hG.ok.2.2⟩
    · intro x hx
      have hp := ok_pos hG.ok x hx
      have := hin (x.2 - 1) (mem_of (by omega) hx)
      omega
  have t0 := okp h.sm h.inF
  have t2 := okp hW (fun k hk => h.inL k ((mem_W h.rl k).1 hk))
  have c0 := tot_count F (s.drop 2) 2 0 t0.1 t0.2 (fun i hi => by rw [gd, h.free (2 + i) (by omega) (by omega), show ((2 + i : Nat) : Int) = 2 + (i : Int) by omega])
  have c2 := tot_count (W L) (s.drop 2) 2 2 t2.1 t2.2 (fun i hi => by rw [gd, h.wait (2 + i) (by omega) (by omega), mem_W h.rl, show ((2 + i : Nat) : Int) = 2 + (i : Int) by omega])
  have c3 := count3 (s.drop 2) (fun x hx => by
    obtain ⟨i, hi, e⟩ := List.getElem_of_mem hx
    have := h.three (2 + i) (by omega) (by omega)
    rw [← gd, List.getD_eq_getElem?_getD, List.getElem?_eq_getElem hi] at this
    rw [← e]
    exact this)
  have e0 : totV F = tot F := by unfold totV; rw [if_pos (vb_vd.2 h.sm.vd)]
  have e2 : totV (W L) = tot (W L) := by unfold totV; rw [if_pos (vb_vd.2 hW.vd)]
  rw [e0, e2, ← c0, ← c2]
  omega
/-! ### Committing -/
theorem three_sum {N : Int} {F L w : List Sp} (hN : 10 ≤ N ∧ N ≤ 73) (hF : Sm F) (hL : Rl L) (hl : L.length ≤ 1000) {k : Nat} (hk : 2300 < k) (G : Bool × List Sp → Option Bool) :
    ((alloc_Alloc_Free.f k (mk (2, N) 0 F w) (wOf L)).bind fun t71 => (alloc_Alloc_Waiting.f k (mk (2, N) 0 F w) (wOf L)).bind fun t74 => (alloc_Alloc_Used.f k (mk (2, N) 0 F w) (t74.2.1, t74.2.2)).bind fun t77 => Sx.lt (IntKind.wrap .i64 ((IntKind.wrap .i64 (t71 + t74.1)) + t77.1)) fun y80 => (if y80 = N - 2 then G (t77.2.1, t77.2.2) else some false)) = G (wOf L) := by
  have b1 := tot_b hF
  have b2 := tot_b (Sm.W hL.le)
  rw [Free_val hF (by omega), Option.bind_some, Waiting_val hL.le hl (by omega), Option.bind_some]
  show (alloc_Alloc_Used.f k (mk (2, N) 0 F w) (wOf L)).bind _ = _
  rw [Used_val (by simp only []; omega) hF hL.le hl (by omega), Option.bind_some]
  simp only [Sx.lt]
  rw [wi64 (n := totV F + totV (W L)) (by omega) (by omega), wi64 (by omega) (by omega), if_pos (by omega)]
theorem lo8_val {N : Nat} (hN : 10 ≤ N ∧ N ≤ 73) {F w H : List Sp} (hF : Sm F) (x9 : Int) (lo4 : List Int → List Sp → Int → Al → Bool × List Sp → Option Bool) : ∀ (j i k : Nat) (s : List Int), i + j = N → j + 2400 < k → s.length = N →
    ∃ s', s'.length = N ∧ (∀ q : Nat, s'.getD q 0 = if i ≤ q ∧ s.getD q 0 = 2 then 0 else s.getD q 0) ∧
      shadowboxlaw10_AllocApart.lo8 ((N : Int) - 2) x9 H (mk (2, (N : Int)) 0 F w, wOf []) lo4 k s (i : Int) = lo4 s' H (IntKind.wrap .i64 (x9 + 1)) (mk (2, (N : Int)) 0 F w) (wOf []) := by
  intro j
  induction j with
  | zero =>
    intro i k s hi hk hs
    obtain ⟨k, rfl⟩ : ∃ q, k = q + 1 := ⟨k - 1, by omega⟩
    refine ⟨s, hs, fun q => ?_, ?_⟩
    · by_cases c : i ≤ q
      · have : s.getD q 0 = 0 := by rw [List.getD_eq_getElem?_getD, List.getElem?_eq_none (by omega)]; rfl
        rw [if_neg (by omega)]
      · rw [if_neg (by omega)]
    · rw [shadowboxlaw10_AllocApart.lo8, wi64 (n := 2 + ((N : Int) - 2)) (by omega) (by omega), if_neg (by omega)]
      exact three_sum (N := (N : Int)) (L := []) (by omega) hF (fun s hs => (by cases hs)) (Nat.zero_le _) (k := k) (by omega) (fun z => lo4 s H (IntKind.wrap .i64 (x9 + 1)) (mk (2, (N : Int)) 0 F w) z)
  | succ j ih =>
    intro i k s hi hk hs
    obtain ⟨k, rfl⟩ : ∃ q, k = q + 1 := ⟨k - 1, by omega⟩
    rw [shadowboxlaw10_AllocApart.lo8, wi64 (n := 2 + ((N : Int) - 2)) (by omega) (by omega), if_pos (by omega), if_pos (by omega), if_pos (by omega), Int.toNat_natCast, wi64 (n := (i : Int) + 1) (by omega) (by omega), show (i : Int) + 1 = ((i + 1 : Nat) : Int) by omega]
    by_cases c : s.getD i 0 = 2
    · rw [if_pos c]
      simp only [Sx.lt]
      obtain ⟨s', e1, e2, e3⟩ := ih (i + 1) k (s.set i 0) (by omega) (by omega) (by simpa using hs)
      refine ⟨s', e1, fun q => ?_, e3⟩
      rw [e2 q, getD_set _ _ (by omega)]
      by_cases c2 : i = q
      · subst c2
        rw [if_neg (by omega), if_pos rfl, if_pos ⟨Nat.le_refl _, c⟩]
      · rw [if_neg c2]
        by_cases c3 : i + 1 ≤ q ∧ s.getD q 0 = 2
        · rw [if_pos c3, if_pos (by omega)]
        · rw [if_neg c3, if_neg (by omega)]
    · rw [if_neg c]
      obtain ⟨s', e1, e2, e3⟩ := ih (i + 1) k s (by omega) (by omega) hs
      refine ⟨s', e1, fun q => ?_, e3⟩
      rw [e2 q]
      by_cases c2 : i = q
      · subst c2
        rw [if_neg (by omega), if_neg (by omega)]
      · by_cases c3 : i + 1 ≤ q ∧ s.getD q 0 = 2
        · rw [if_pos c3, if_pos (by omega)]
        · rw [if_neg c3, if_neg (by omega)]
theorem jo7_val {N : Nat} {s : List Int} {F L H w : List Sp} (h : Iv N s F L H) (hL : L.length ≤ 100) {l1 : List Int} {x : Nat} (hx : x < 60) {k : Nat} (hk : 2600 < k) (p e : Int) (lo4 : List Int → List Sp → Int → Al → Bool × List Sp → Option Bool) :
    ∃ s' F' L' w', Iv N s' F' L' H ∧ L'.length ≤ L.length ∧ shadowboxlaw10_AllocApart.jo7 l1 ((N : Int) - 2) (x : Int) k (p, e, mk (2, (N : Int)) 0 F w) lo4 s H (wOf L) = lo4 s' H ((x + 1 : Nat) : Int) (mk (2, (N : Int)) 0 F' w') (wOf L') := by
  have hn := h.n
  have hxw : IntKind.wrap .i64 ((x : Int) + 1) = ((x + 1 : Nat) : Int) := by rw [wi64 (by omega) (by omega)]; omega
  unfold shadowboxlaw10_AllocApart.jo7
  simp only [Sx.lt]
  by_cases c : bits .and .i64 (l1.getD (x : Int).toNat 0) 48 = 48
  · rw [if_pos c]
    obtain ⟨F', hF'⟩ : ∃ F', L.foldl addV F = F' := ⟨_, rfl⟩
    have hsm : Sm F' := by rw [← hF']; exact Sm.fold h.sm h.rl.le
    have hmem : ∀ k, mem F' k ↔ mem F k ∨ mem L k := fun k => by rw [← hF']; exact mem_fold k h.sm h.rl
    obtain ⟨s', e1, e2, e3⟩ := lo8_val hn hsm (w := F') (H := H) (x : Int) lo4 (N - 2) 2 k s (by omega) (by omega) h.len
    have key : ∀ q : Nat, 2 ≤ q → s'.getD q 0 = if s.getD q 0 = 2 then 0 else s.getD q 0 := fun q hq => by
      rw [e2 q]
      by_cases c2 : s.getD q 0 = 2
      · rw [if_pos ⟨hq, c2⟩, if_pos c2]
      · rw [if_neg (by omega), if_neg c2]
    refine ⟨s', F', [], F', ⟨hn, e1, hsm, fun s hs => (by cases hs), fun q h1 h2 => ?_, fun q h1 h2 => ?_, fun q h1 h2 => ?_, fun q h1 h2 => ?_, fun q hq => ?_, fun q hq => hq.elim, h.inH, h.apart⟩, Nat.zero_le _, ?_⟩
    · have a1 := h.free q h1 h2
      have a2 := h.wait q h1 h2
      rw [key q h1, hmem]
      by_cases c2 : s.getD q 0 = 2
      · rw [if_pos c2]; exact ⟨fun _ => .inr (a2.1 c2), fun _ => rfl⟩
      · rw [if_neg c2]
        exact ⟨fun h3 => .inl (a1.1 h3), fun h3 => h3.elim a1.2 (fun h4 => absurd (a2.2 h4) c2)⟩
    · rw [key q h1]
      by_cases c2 : s.getD q 0 = 2
      · rw [if_pos c2]; exact ⟨fun h3 => by omega, fun h3 => h3.elim⟩
      · rw [if_neg c2]; exact ⟨fun h3 => absurd h3 c2, fun h3 => h3.elim⟩
    · rw [key q h1, ← h.one q h1 h2]
      by_cases c2 : s.getD q 0 = 2
      · rw [if_pos c2, c2]; decide
      · rw [if_neg c2]
    · rw [key q h1]
      have := h.three q h1 h2
      split <;> omega
    · exact ((hmem q).1 hq).elim (h.inF q) (h.inL q)
    · show (alloc_Alloc_Commit.f k (mk (2, (N : Int)) 0 F w) (wOf L)).bind _ = _
      rw [Commit_val h.sm h.rl.le (by omega) (by omega), hF', Option.bind_some]
      refine Eq.trans e3 ?_
      rw [hxw]
  · rw [if_neg c]
    refine ⟨s, F, L, w, h, Nat.le_refl _, ?_⟩
    have := three_sum (N := (N : Int)) (F := F) (L := L) (w := w) (by omega) h.sm h.rl (by omega) (k := k) (by omega) (fun z => lo4 s H (IntKind.wrap .i64 ((x : Int) + 1)) (mk (2, (N : Int)) 0 F w) z)
    refine Eq.trans this ?_
    rw [hxw]
/-! ### Giving back later -/
theorem lo11_val {H r : List Sp} {a b N : Nat} (hab : a ≤ b ∧ b ≤ N) (hN : N ≤ 73) (hH : H.getD (0 : Int).toNat ((0 : Int), (0 : Int)) = ((a : Int), (b : Int))) (m : Bool × List Sp) (jo7 : List Int → List Sp → Bool × List Sp → Option Bool) : ∀ (j i k : Nat) (s : List Int), i + j = b → j < k → s.length = N →
    ∃ s', s'.length = N ∧ (∀ q : Nat, s'.getD q 0 = if i ≤ q ∧ q < b then 2 else s.getD q 0) ∧ shadowboxlaw10_AllocApart.lo11 H r m jo7 k s (i : Int) = jo7 s' r m := by
  intro j
  induction j with
  | zero =>
    intro i k s hi hk hs
    obtain ⟨k, rfl⟩ : ∃ q, k = q + 1 := ⟨k - 1, by omega⟩
    refine ⟨s, hs, fun q => by rw [if_neg (by omega)], ?_⟩
    rw [shadowboxlaw10_AllocApart.lo11, hH]
    simp only [Sx.lt]
    rw [if_neg (by omega)]
  | succ j ih =>
    intro i k s hi hk hs
    obtain ⟨k, rfl⟩ : ∃ q, k = q + 1 := ⟨k - 1, by omega⟩
    obtain ⟨s', e1, e2, e3⟩ := ih (i + 1) k (s.set i 2) (by omega) (by omega) (by simpa using hs)
    refine ⟨s', e1, fun q => ?_, ?_⟩
    · rw [e2 q, getD_set _ _ (by omega)]
      by_cases c2 : i = q
      · subst c2
        rw [if_neg (by omega), if_pos rfl, if_pos (by omega)]
      · rw [if_neg c2]
        by_cases c3 : i + 1 ≤ q ∧ q < b
        · rw [if_pos c3, if_pos (by omega)]
        · rw [if_neg c3, if_neg (by omega)]
    · rw [shadowboxlaw10_AllocApart.lo11, hH]
      simp only [Sx.lt]
      rw [if_pos (by omega), if_pos (by omega), if_pos (by omega), Int.toNat_natCast, wi64 (by omega) (by omega), show (i : Int) + 1 = ((i + 1 : Nat) : Int) by omega, e3]
theorem jo6_val {N : Nat} {s : List Int} {F L H w : List Sp} (h : Iv N s F L H) (hL : L.length ≤ 99) {l1 : List Int} {x : Nat} (hx : x < 60) {k : Nat} (hk : 2600 < k) (p e : Int) (lo4 : List Int → List Sp → Int → Al → Bool × List Sp → Option Bool) :
    ∃ s' F' L' H' w', Iv N s' F' L' H' ∧ L'.length ≤ L.length + 1 ∧ H'.length ≤ H.length ∧ shadowboxlaw10_AllocApart.jo6 l1 ((N : Int) - 2) (x : Int) (wOf L) k (p, e, mk (2, (N : Int)) 0 F w) lo4 s H = lo4 s' H' ((x + 1 : Nat) : Int) (mk (2, (N : Int)) 0 F' w') (wOf L') := by
  have hn := h.n
  have no : ∃ s' F' L' H' w', Iv N s' F' L' H' ∧ L'.length ≤ L.length + 1 ∧ H'.length ≤ H.length ∧ shadowboxlaw10_AllocApart.jo9 (wOf L) k (p, e, mk (2, (N : Int)) 0 F w) s H (shadowboxlaw10_AllocApart.jo7 l1 ((N : Int) - 2) (x : Int) k (p, e, mk (2, (N : Int)) 0 F w) lo4) false = lo4 s' H' ((x + 1 : Nat) : Int) (mk (2, (N : Int)) 0 F' w') (wOf L') := by
    obtain ⟨s', F', L', w', e1, e2, e3⟩ := jo7_val h (w := w) (by omega) (l1 := l1) hx hk p e lo4
    refine ⟨s', F', L', H, w', e1, by omega, Nat.le_refl _, ?_⟩
    unfold shadowboxlaw10_AllocApart.jo9
    rw [if_neg (by decide)]
    exact e3
  unfold shadowboxlaw10_AllocApart.jo6
  by_cases c : (H.length : Int) > 0
  · rw [if_pos c]
    simp only [Sx.lt]
    by_cases c8 : bits .and .i64 (l1.getD (x : Int).toNat 0) 8 = 0
    · rw [show (!decide (bits .and .i64 (l1.getD (x : Int).toNat 0) 8 = 0)) = false by rw [decide_eq_true c8]; rfl]
      exact no
    · rw [show (!decide (bits .and .i64 (l1.getD (x : Int).toNat 0) 8 = 0)) = true by rw [decide_eq_false c8]; rfl]
      cases H with
      | nil => simp at c
      | cons t r =>
        have ht := h.inH t (by simp)
        obtain ⟨a, ha⟩ : ∃ a : Nat, t.1 = a := ⟨t.1.toNat, by omega⟩
        obtain ⟨b, hb⟩ : ∃ b : Nat, t.2 = b := ⟨t.2.toNat, by omega⟩
        have htt : t = ((a : Int), (b : Int)) := Prod.ext ha hb
        subst htt
        have hin : ∀ q : Nat, a ≤ q → q < b → s.getD q 0 = 1 := fun q h1 h2 => (h.one q (by omega) (by omega)).2 (.inl ⟨by simp only []; omega, by simp only []; omega⟩)
        have hnF : ∀ q : Int, (a : Int) ≤ q → q < (b : Int) → ¬ mem F q := fun q h1 h2 hm => by
          obtain ⟨q', rfl⟩ : ∃ q' : Nat, q = q' := ⟨q.toNat, by omega⟩
          have := (h.free q' (by omega) (by omega)).2 hm
          have := hin q' (by omega) (by omega)
          omega
        have hnL : ∀ q : Int, (a : Int) ≤ q → q < (b : Int) → ¬ mem L q := fun q h1 h2 hm => by
          obtain ⟨q', rfl⟩ : ∃ q' : Nat, q = q' := ⟨q.toNat, by omega⟩
          have := (h.wait q' (by omega) (by omega)).2 hm
          have := hin q' (by omega) (by omega)
          omega
        have hu : usedB (2, (N : Int)) F L ((a : Int), (b : Int)) = 0 := by
          unfold usedB
          rw [if_neg (by simp only []; omega), if_neg (by simp only []; omega), if_neg (by simp only []; omega), meetV_in h.sm (s := ((a : Int), (b : Int))) (by simp only []; omega) hnF, if_neg (by decide), meetV_in (Sm.W h.rl.le) (s := ((a : Int), (b : Int))) (by simp only []; omega) (fun q h1 h2 hm => hnL q h1 h2 ((mem_W h.rl q).1 hm)), if_neg (by decide)]
        have hap := List.pairwise_cons.1 h.apart
        have hr1 : ∀ q : Nat, mem r q → ¬ (a ≤ q ∧ q < b) := fun q hm hq => by
          obtain ⟨y, hy, h2⟩ := mem_ex hm
          exact hap.1 y hy q (by simp only []; omega) (by simp only []; omega) h2
        obtain ⟨s1, f1, f2, f3⟩ := lo11_val (H := ((a : Int), (b : Int)) :: r) (r := r) (a := a) (b := b) (N := N) (by simp only [] at ht; omega) hn.2 rfl (wOf (L ++ [((a : Int), (b : Int))])) (shadowboxlaw10_AllocApart.jo7 l1 ((N : Int) - 2) (x : Int) k (p, e, mk (2, (N : Int)) 0 F w) lo4) (b - a) a k s (by simp only [] at ht; omega) (by simp only [] at ht; omega) h.len
        have hI : Iv N s1 F (L ++ [((a : Int), (b : Int))]) r := ⟨hn, f1, h.sm, h.rl.app (by simp only [] at ht ⊢; omega), fun q h1 h2 => ?_, fun q h1 h2 => ?_, fun q h1 h2 => ?_, fun q h1 h2 => ?_, h.inF, fun q hq => ?_, fun y hy => h.inH y (by simp [hy]), hap.2⟩
        · obtain ⟨s', F', L', w', e1, e2, e3⟩ := jo7_val hI (w := w) (by simp; omega) (l1 := l1) hx hk p e lo4
          refine ⟨s', F', L', r, w', e1, by simpa using e2, by simp, ?_⟩
          unfold shadowboxlaw10_AllocApart.jo9
          rw [if_pos rfl, if_pos c, if_pos (by omega)]
          simp only [Sx.lt]
          show (alloc_Alloc_Later.f k (mk (2, (N : Int)) 0 F w) (wOf L) ((a : Int), (b : Int))).bind _ = _
          rw [Later_val h.sm h.rl.le (by omega) _ (by omega), Option.bind_some, hu, if_pos rfl, if_pos rfl]
          unfold shadowboxlaw10_AllocApart.jo10
          simp only [Sx.lt]
          exact Eq.trans f3 e3
        · rw [f2 q, ← h.free q h1 h2]
          by_cases c3 : a ≤ q ∧ q < b
          · have := hin q c3.1 c3.2
            rw [if_pos c3]; constructor <;> omega
          · rw [if_neg c3]
        · rw [f2 q, mem_app, ← h.wait q h1 h2]
          by_cases c3 : a ≤ q ∧ q < b
          · rw [if_pos c3]; exact ⟨fun _ => .inr (.inl ⟨by simp only []; omega, by simp only []; omega⟩), fun _ => rfl⟩
          · rw [if_neg c3]
            constructor
            · exact fun h3 => .inl h3
            · rintro (h3 | h3)
              · exact h3
              · rcases h3 with h3 | h3
                · simp only [] at h3; omega
                · exact h3.elim
        · rw [f2 q]
          by_cases c3 : a ≤ q ∧ q < b
          · rw [if_pos c3]; exact ⟨fun h3 => by omega, fun h3 => absurd c3 (hr1 q h3)⟩
          · rw [if_neg c3, h.one q h1 h2]
            constructor
            · rintro (h3 | h3)
              · simp only [] at h3; omega
              · exact h3
            · exact fun h3 => .inr h3
        · rw [f2 q]
          have := h.three q h1 h2
          split <;> omega
        · rcases mem_app.1 hq with h3 | h3
          · exact h.inL q h3
          · rcases h3 with h3 | h3
            · simp only [] at h3 ht; omega
            · exact h3.elim
  · rw [if_neg c]
    exact no
/-! ### Taking -/
theorem lo12_val {N a b : Nat} (hab : 2 ≤ a ∧ a ≤ b ∧ b ≤ N) (hN : N ≤ 73) {y32 : Int} (hy : 0 ≤ y32 ∧ y32 ≤ 7) (hb : (b : Int) = a + (1 + y32)) {H : List Sp} (hH : H.length ≤ 1000) (z : Al) (e : Int) (jo6 : List Int → List Sp → Option Bool) : ∀ (j i k : Nat) (s : List Int), i + j = b → a ≤ i → j < k → s.length = N → (∀ q : Nat, i ≤ q → q < b → s.getD q 0 = 0) →
    ∃ s', s'.length = N ∧ (∀ q : Nat, s'.getD q 0 = if i ≤ q ∧ q < b then 1 else s.getD q 0) ∧ shadowboxlaw10_AllocApart.lo12 ((N : Int) - 2) H y32 ((a : Int), e, z) jo6 k s (i : Int) = jo6 s' (H ++ [((a : Int), (b : Int))]) := by
  have hw : IntKind.wrap .i64 ((a : Int) + IntKind.wrap .i64 (1 + y32)) = (b : Int) := by rw [wi64 (n := 1 + y32) (by omega) (by omega), wi64 (by omega) (by omega)]; omega
  intro j
  induction j with
  | zero =>
    intro i k s hi ha hk hs h0
    obtain ⟨k, rfl⟩ : ∃ q, k = q + 1 := ⟨k - 1, by omega⟩
    refine ⟨s, hs, fun q => by rw [if_neg (by omega)], ?_⟩
    rw [shadowboxlaw10_AllocApart.lo12]
    simp only [Sx.lt]
    rw [hw, if_neg (by omega), if_pos (by simp only [List.length_cons, List.length_nil]; omega)]
  | succ j ih =>
    intro i k s hi ha hk hs h0
    obtain ⟨k, rfl⟩ : ∃ q, k = q + 1 := ⟨k - 1, by omega⟩
    obtain ⟨s', e1, e2, e3⟩ := ih (i + 1) k (s.set i 1) (by omega) (by omega) (by omega) (by simpa using hs) (fun q h1 h2 => by rw [getD_set _ _ (by omega), if_neg (by omega)]; exact h0 q (by omega) h2)
    refine ⟨s', e1, fun q => ?_, ?_⟩
    · rw [e2 q, getD_set _ _ (by omega)]
      by_cases c2 : i = q
      · subst c2
        rw [if_neg (by omega), if_pos rfl, if_pos (by omega)]
      · rw [if_neg c2]
        by_cases c3 : i + 1 ≤ q ∧ q < b
        · rw [if_pos c3, if_pos (by omega)]
        · rw [if_neg c3, if_neg (by omega)]
    · rw [shadowboxlaw10_AllocApart.lo12]
      simp only [Sx.lt]
      rw [hw, if_pos (by omega), if_neg (by omega), wi64 (n := 2 + ((N : Int) - 2)) (by omega) (by omega), if_neg (by omega), if_pos (by omega), if_pos (by omega), Int.toNat_natCast, if_pos (h0 i (Nat.le_refl _) (by omega)), wi64 (by omega) (by omega), show (i : Int) + 1 = ((i + 1 : Nat) : Int) by omega, e3]
theorem jo5_val {N : Nat} {s : List Int} {F L H w : List Sp} (h : Iv N s F L H) (hL : L.length ≤ 99) (hH : H.length ≤ 99) {l1 : List Int} {x : Nat} (hx : x < 60) (hx2 : x < l1.length) {k : Nat} (hk : 2600 < k) (lo4 : List Int → List Sp → Int → Al → Bool × List Sp → Option Bool) :
    ∃ s' F' L' H' w', Iv N s' F' L' H' ∧ L'.length ≤ L.length + 1 ∧ H'.length ≤ H.length + 1 ∧ shadowboxlaw10_AllocApart.jo5 l1 ((N : Int) - 2) s H (x : Int) (mk (2, (N : Int)) 0 F w) (wOf L) k lo4 = lo4 s' H' ((x + 1 : Nat) : Int) (mk (2, (N : Int)) 0 F' w') (wOf L') := by
  have hn := h.n
  unfold shadowboxlaw10_AllocApart.jo5
  rw [if_pos (by omega), if_pos (by omega)]
  simp only [Sx.lt]
  have h7 := andm (l1.getD (x : Int).toNat 0) 7 (by omega)
  obtain ⟨y, hy⟩ : ∃ y, bits .and .i64 (l1.getD (x : Int).toNat 0) 7 = y := ⟨_, rfl⟩
  have hy0 : 0 ≤ y ∧ y ≤ 7 := by rw [← hy]; exact h7
  rw [hy]
  show ∃ s' F' L' H' w', _ ∧ _ ∧ _ ∧ (alloc_Alloc_Take.f k (mk (2, (N : Int)) 0 F w) (wOf L) (IntKind.wrap .i64 (1 + y)) true).bind _ = _
  rw [wi64 (n := 1 + y) (by omega) (by omega), Take_spare h.sm (by omega) (by omega) (by omega), Option.bind_some]
  unfold takeF
  by_cases c : fndV F (1 + y) < 0
  · rw [if_pos c]
    obtain ⟨s', F', L', H', w', e1, e2, e3, e4⟩ := jo6_val h (w := w) hL (l1 := l1) hx hk 0 15 lo4
    refine ⟨s', F', L', H', w', e1, e2, by omega, ?_⟩
    rw [if_neg (show ¬ (15 : Int) = 0 by decide), if_pos (show (15 : Int) = 15 from rfl)]
    exact e4
  · rw [if_neg c]
    -- where it was found
    have hvb : vb (-1) F = true := vb_vd.2 h.sm.vd
    have hfe : fndV F (1 + y) = fnd (1 + y) F := by unfold fndV; rw [if_neg (by omega), if_pos hvb]
    obtain ⟨t, ht, ht1, ht2⟩ : ∃ t ∈ F, fndV F (1 + y) = t.1 ∧ 1 + y ≤ t.2 - t.1 := by
      rcases fnd_mem (1 + y) F with h1 | ⟨t, h1, h2, h3⟩
      · omega
      · exact ⟨t, h1, by omega, h3⟩
    have hin : ∀ q : Int, t.1 ≤ q → q < t.1 + (1 + y) → mem F q := fun q h1 h2 => mem_of ⟨h1, by omega⟩ ht
    have b1 := h.inF t.1 (hin _ (Int.le_refl _) (by omega))
    have b2 := h.inF (t.1 + y) (hin _ (by omega) (by omega))
    obtain ⟨a, ha⟩ : ∃ a : Nat, t.1 = a := ⟨t.1.toNat, by omega⟩
    obtain ⟨b, hb⟩ : ∃ b : Nat, t.1 + (1 + y) = b := ⟨(t.1 + (1 + y)).toNat, by omega⟩
    rw [ht1, hb, ha]
    have hs0 : ∀ q : Nat, a ≤ q → q < b → s.getD q 0 = 0 := fun q h1 h2 => (h.free q (by omega) (by omega)).2 (hin q (by omega) (by omega))
    obtain ⟨s1, f1, f2, f3⟩ := lo12_val (N := N) (a := a) (b := b) (by omega) hn.2 hy0 (by omega) (H := H) (by omega) (mk (2, (N : Int)) 0 (remV F ((a : Int), (b : Int))) w) 0 (shadowboxlaw10_AllocApart.jo6 l1 ((N : Int) - 2) (x : Int) (wOf L) k ((a : Int), 0, mk (2, (N : Int)) 0 (remV F ((a : Int), (b : Int))) w) lo4) (b - a) a k s (by omega) (Nat.le_refl _) (by omega) h.len hs0
    have hsr : remV F ((a : Int), (b : Int)) = rem F a b := remV_in h.sm (s := ((a : Int), (b : Int))) (by simp only []; omega)
    have hmem : ∀ q : Int, mem (remV F ((a : Int), (b : Int))) q ↔ mem F q ∧ ¬ ((a : Int) ≤ q ∧ q < b) := fun q => by rw [hsr]; exact mem_rem (ok_pos h.sm.ok) (by omega)
    have hI : Iv N s1 (remV F ((a : Int), (b : Int))) L (H ++ [((a : Int), (b : Int))]) := ⟨hn, f1, h.sm.remV _, h.rl, fun q h1 h2 => ?_, fun q h1 h2 => ?_, fun q h1 h2 => ?_, fun q h1 h2 => ?_, fun q hq => h.inF q ((hmem q).1 hq).1, h.inL, fun y hy => ?_, ?_⟩
    · obtain ⟨s', F', L', H', w', e1, e2, e3, e4⟩ := jo6_val hI (w := w) hL (l1 := l1) hx hk (a : Int) 0 lo4
      refine ⟨s', F', L', H', w', e1, e2, by simpa using e3, ?_⟩
      rw [if_pos rfl]
      exact Eq.trans f3 e4
    · rw [f2 q, hmem]
      have := h.free q h1 h2
      by_cases c3 : a ≤ q ∧ q < b
      · rw [if_pos c3]; exact ⟨fun h3 => by omega, fun h3 => absurd (by omega) h3.2⟩
      · rw [if_neg c3, this]; exact ⟨fun h3 => ⟨h3, by omega⟩, fun h3 => h3.1⟩
    · rw [f2 q, ← h.wait q h1 h2]
      by_cases c3 : a ≤ q ∧ q < b
      · have := hs0 q c3.1 c3.2
        rw [if_pos c3]; constructor <;> omega
      · rw [if_neg c3]
    · rw [f2 q, mem_app, ← h.one q h1 h2]
      by_cases c3 : a ≤ q ∧ q < b
      · rw [if_pos c3]; exact ⟨fun _ => .inr (.inl ⟨by simp only []; omega, by simp only []; omega⟩), fun _ => rfl⟩
      · rw [if_neg c3]
        constructor
        · exact fun h3 => .inl h3
        · rintro (h3 | h3)
          · exact h3
          · rcases h3 with h3 | h3
            · simp only [] at h3; omega
            · exact h3.elim
    · rw [f2 q]
      have := h.three q h1 h2
      split <;> omega
    · rcases List.mem_append.1 hy with h3 | h3
      · exact h.inH y h3
      · have : y = ((a : Int), (b : Int)) := by simpa using h3
        subst this
        simp only []
        omega
    · rw [List.pairwise_append]
      refine ⟨h.apart, by simp, fun u hu v hv q h1 h2 h3 => ?_⟩
      have : v = ((a : Int), (b : Int)) := by simpa using hv
      subst this
      have hui := h.inH u hu
      obtain ⟨q', rfl⟩ : ∃ q' : Nat, q = q' := ⟨q.toNat, by omega⟩
      have e1 := (h.one q' (by omega) (by omega)).2 (mem_of ⟨h1, h2⟩ hu)
      have e2 := hs0 q' (by simp only [] at h3; omega) (by simp only [] at h3; omega)
      omega
theorem lo4_val {N : Nat} {l1 : List Int} : ∀ (j x k k0 : Nat) (s : List Int) (F L H w : List Sp), x + j = min l1.length 60 → j + 2700 < k → 2600 < k0 → Iv N s F L H → L.length ≤ x → H.length ≤ x →
    shadowboxlaw10_AllocApart.lo4 l1 ((N : Int) - 2) (shadowboxlaw10_AllocApart.jo2 k0 ((N : Int) - 2)) k s H (x : Int) (mk (2, (N : Int)) 0 F w) (wOf L) = some true := by
  intro j
  induction j with
  | zero =>
    intro x k k0 s F L H w hx hk hk0 h h1 h2
    obtain ⟨k, rfl⟩ : ∃ q, k = q + 1 := ⟨k - 1, by omega⟩
    have hn := h.n
    have fin : shadowboxlaw10_AllocApart.jo2 k0 ((N : Int) - 2) s (mk (2, (N : Int)) 0 F w) (wOf L) = some true := by
      unfold shadowboxlaw10_AllocApart.jo2
      have := lo3_val hn (w := w) h.sm h.rl (by omega) h.len (N - 2) 2 k0 0 (by omega) (by omega) (by omega)
      refine Eq.trans this ?_
      rw [count_all h, decide_eq_true (by omega)]
    rw [shadowboxlaw10_AllocApart.lo4]
    by_cases c : (x : Int) < (l1.length : Int)
    · rw [if_pos c, if_neg (by omega)]
      exact fin
    · rw [if_neg c]
      exact fin
  | succ j ih =>
    intro x k k0 s F L H w hx hk hk0 h h1 h2
    obtain ⟨k, rfl⟩ : ∃ q, k = q + 1 := ⟨k - 1, by omega⟩
    rw [shadowboxlaw10_AllocApart.lo4, if_pos (by omega), if_pos (by omega)]
    obtain ⟨s', F', L', H', w', e1, e2, e3, e4⟩ := jo5_val h (w := w) (by omega) (by omega) (l1 := l1) (x := x) (by omega) (by omega) (k := k) (by omega) (shadowboxlaw10_AllocApart.lo4 l1 ((N : Int) - 2) (shadowboxlaw10_AllocApart.jo2 k0 ((N : Int) - 2)) k)
    refine Eq.trans e4 ?_
    exact ih (x + 1) k k0 s' F' L' H' w' (by omega) (by omega) hk0 e1 (by omega) (by omega)
theorem AllocApart : S.AllocApart := by
  intro a0 l1 h0 _ h1
  refine ⟨5000, ?_⟩
  have b3 := andm a0 63 (by omega)
  have b1 : 0 ≤ bits .and .i64 a0 63 := b3.1
  have b2 : bits .and .i64 a0 63 ≤ 63 := b3.2
  obtain ⟨n, hn⟩ : ∃ n, bits .and .i64 a0 63 = n := ⟨_, rfl⟩
  rw [hn] at b1 b2
  unfold shadowboxlaw10_AllocApart.f
  simp only [Sx.lt, hn]
  obtain ⟨N, hN⟩ : ∃ N : Nat, 2 + (8 + n) = (N : Int) := ⟨(2 + (8 + n)).toNat, by omega⟩
  rw [wi64 (n := 8 + n) (by omega) (by omega), wi64 (n := 2 + (8 + n)) (by omega) (by omega), hN, New_val (by decide) (by omega) (by omega) (by decide) (by omega) (by omega), Option.bind_some]
  have hF0 : addV [] ((2 : Int), (N : Int)) = [((2 : Int), (N : Int))] := by rw [addV_in Sm.nil (s := ((2 : Int), (N : Int))) (by simp only []; omega)]; rfl
  have hsm : Sm [((2 : Int), (N : Int))] := by rw [← hF0]; exact Sm.nil.addV (by simp only []; omega)
  rw [hF0]
  show (if (0 : Int) = 0 then _ else _) = _
  rw [if_pos rfl]
  unfold shadowboxlaw10_AllocApart.jo1
  rw [wi64 (n := 2 + (8 + n)) (by omega) (by omega), hN, if_pos (by omega), if_pos (Int.le_refl _), if_pos (by omega), if_pos (by omega), show 8 + n = (N : Int) - 2 by omega, Int.toNat_natCast]
  have hg : ∀ q : Nat, (List.replicate N (0 : Int)).getD q 0 = 0 := fun q => by
    rw [List.getD_eq_getElem?_getD, List.getElem?_replicate]
    split <;> rfl
  refine lo4_val (N := N) (l1 := l1) (min l1.length 60) 0 5000 5000 _ [((2 : Int), (N : Int))] [] [] [((2 : Int), (N : Int))] (by omega) (by omega) (by omega) ⟨by omega, by simp, hsm, fun s hs => (by cases hs), fun q h2 h3 => ?_, fun q h2 h3 => ?_, fun q h2 h3 => ?_, fun q h2 h3 => .inl (hg q), fun q hq => ?_, fun q hq => hq.elim, fun y hy => (by cases hy), .nil⟩ (Nat.le_refl _) (Nat.le_refl _)
  · rw [hg]; exact ⟨fun _ => .inl ⟨by simp only []; omega, by simp only []; omega⟩, fun _ => rfl⟩
  · rw [hg]; exact ⟨fun h => by omega, fun h => h.elim⟩
  · rw [hg]; exact ⟨fun h => by omega, fun h => h.elim⟩
  · rcases hq with hq | hq
    · exact hq
    · exact hq.elim
end Go.Proofs.Ytiikfaefeonfhaa.Pure
