/- The pure statement of PartFull; no condition. -/
import Derived.Test.YtnkcadofhhcfaaaSPartFull
import Derived.Test.YtnkcadofhhcfaaaPrf
set_option linter.unusedVariables false
set_option linter.unusedSimpArgs false
namespace Go.Proofs.Ytnkcadofhhcfaaa.Pure
open Go Go.RowKit Go.Proofs.Ytnkcadofhhcfaaa.Sx Go.Proofs.Ytnkcadofhhcfaaa.G Go.Proofs.Ytnkcadofhhcfaaa.Bt Go.Proofs.Ytnkcadofhhcfaaa.Prt
theorem in_dec {l : List Int} {a : Int} (h : withinB l a = true) : In a l := within_in.1 h
theorem cut_one : ∃ c, part_Cut.f 1100000000 [(1 : Int)] 1 = some c ∧ c.length = 1 := by
  obtain ⟨b, e, h1, h2, h3, h4⟩ := cut_val (l := [1]) (a := 1) (by decide) (by decide) (by decide) (in_dec (by decide)) (k := 1100000000) (by omega)
  refine ⟨_, e, ?_⟩
  have : mx 0 [1] = 1 := by decide
  have hb : b = 1 := by omega
  rw [hb]
  decide
theorem full_lo9 {M : Int} (hM : 0 ≤ M ∧ M ≤ 1073741824) {l E : List Int} (hl : In M l) (hn : l.length ≤ 60000) {q : Nat} (hq : q < E.length) {e : Int} (he : E.getD q 0 = e) (hel : e ≤ (l.length : Int)) (jo : Int → Option Bool) (p : Nat) : ∀ (d k i : Nat), (i : Int) + d = e → p ≤ i → d < k → shadowboxlaw17_PartFull.lo9 l E (q : Int) jo k (S l p i) (i : Int) = jo (S l p e) := by
  intro d
  induction d with
  | zero =>
    intro k i h1 h2 h3
    obtain ⟨k, rfl⟩ : ∃ k', k = k' + 1 := ⟨k - 1, by omega⟩
    rw [shadowboxlaw17_PartFull.lo9, if_pos (by omega), if_pos (by omega), Int.toNat_natCast, he, if_neg (by omega), show e = (i : Int) by omega]
  | succ d ih =>
    intro k i h1 h2 h3
    obtain ⟨k, rfl⟩ : ∃ k', k = k' + 1 := ⟨k - 1, by omega⟩
    have hi : i < l.length := by omega
    have hx := getD_in hl hi
    have hs := sum_in hM.1 (fun y hy => hl y (List.mem_of_mem_take (List.mem_of_mem_drop hy)) : In M ((l.take i).drop p))
    have hsl : ((l.take i).drop p).length ≤ 60000 := by simp; omega
    have hb2 : M * (((l.take i).drop p).length : Int) ≤ 1073741824 * 60000 := Int.mul_le_mul hM.2 (by omega) (by omega) (by omega)
    have hS : S l p (i + 1 : Nat) = S l p i + l.getD i 0 := by
      have := take_sum l hi h2
      simpa [S] using this
    have hSv : S l p i = ((l.take i).drop p).sum := by simp [S]
    rw [shadowboxlaw17_PartFull.lo9, if_pos (by omega), if_pos (by omega), Int.toNat_natCast, he, if_pos (by omega), if_pos (by omega), if_pos (by omega), Int.toNat_natCast]
    simp only [lt]
    rw [wi64 (n := S l p i + l.getD i 0) (by omega) (by omega), wi64 (by omega) (by omega), show (i : Int) + 1 = ((i + 1 : Nat) : Int) by omega, ← hS]
    exact ih k (i + 1) (by omega) (by omega) (by omega)
theorem full_lo5 {b G : Int} (hb : 0 ≤ b ∧ b ≤ 1073741824) (hG : G ≤ b) {l E : List Int} (hl : In b l) (hn : l.length ≤ 60000) (hE : E.length ≤ 100000) : ∀ (j k q : Nat) (p : Nat), q + j = E.length → j + l.length + 10 < k → Ok b l p (E.drop q) → AllS l G p (E.drop q) → shadowboxlaw17_PartFull.lo5 l E G k (p : Int) (q : Int) = some true := by
  intro j
  induction j with
  | zero =>
    intro k q p h1 h2 h3 h4
    obtain ⟨k, rfl⟩ : ∃ k', k = k' + 1 := ⟨k - 1, by omega⟩
    rw [shadowboxlaw17_PartFull.lo5, if_neg (by omega)]
  | succ j ih =>
    intro k q p h1 h2 h3 h4
    obtain ⟨k, rfl⟩ : ∃ k', k = k' + 1 := ⟨k - 1, by omega⟩
    have hq : q < E.length := by omega
    rw [drop_cons hq] at h3 h4
    generalize he : E.getD q 0 = e at *
    obtain ⟨o1, o2, o3, o4, o5⟩ := h3
    obtain ⟨a1, a2⟩ := h4
    rw [shadowboxlaw17_PartFull.lo5, if_pos (by omega)]
    unfold shadowboxlaw17_PartFull.jo6
    rw [if_pos (by omega), if_pos (by omega), Int.toNat_natCast, he, if_neg (by omega), if_neg (by omega)]
    unfold shadowboxlaw17_PartFull.jo7
    have h9 := full_lo9 hb hl hn hq he o2 (shadowboxlaw17_PartFull.jo8 l E G (q : Int) (shadowboxlaw17_PartFull.lo5 l E G k)) p (e - p).toNat k p (by omega) (Nat.le_refl _) (by omega)
    rw [show S l (p : Int) (p : Int) = 0 by unfold S; rw [List.drop_of_length_le (by simp; omega)]; rfl] at h9
    rw [h9]
    unfold shadowboxlaw17_PartFull.jo8
    rw [if_neg (by omega), if_pos (by omega), if_pos (by omega), Int.toNat_natCast, he, wi64 (n := (q : Int) + 1) (by omega) (by omega), show (q : Int) + 1 = ((q + 1 : Nat) : Int) by omega]
    have hrec : shadowboxlaw17_PartFull.lo5 l E G k e ((q + 1 : Nat) : Int) = some true := by
      have := ih k (q + 1) e.toNat (by omega) (by omega) (by rw [Int.toNat_of_nonneg (by omega)]; exact o5) (by rw [Int.toNat_of_nonneg (by omega)]; exact a2)
      rwa [Int.toNat_of_nonneg (by omega)] at this
    by_cases c : e < (l.length : Int)
    · rw [if_pos c, if_pos (by omega)]
      simp only [lt]
      have hx := getD_in hl (i := e.toNat) (by omega)
      have o6 := o4 c
      have hs := sum_in hb.1 (fun y hy => hl y (List.mem_of_mem_take (List.mem_of_mem_drop hy)) : In b ((l.take e.toNat).drop ((p : Int)).toNat))
      have : S l p e = ((l.take e.toNat).drop ((p : Int)).toNat).sum := rfl
      rw [wi64 (by omega) (by omega), if_neg (by omega)]
      exact hrec
    · rw [if_neg c]
      exact hrec
theorem full_jo2 {y : Int} (hy : 1 ≤ y ∧ y ≤ 1048576) {l : List Int} (hl : In y l) (hn : l.length ≤ 1000) : shadowboxlaw17_PartFull.jo2 1100000000 y l = some true := by
  unfold shadowboxlaw17_PartFull.jo2
  obtain ⟨c1, e1, e2⟩ := cut_one
  by_cases h0 : l.length = 0
  · rw [cut_none (.inl h0) (by omega) (by omega)]
    simp only [Option.bind_some]
    rw [Greatest_val (by omega) (by simp) (by omega)]
    simp only [Option.bind_some]
    rw [if_pos (by omega), if_pos (by simp), if_pos (show gB l [] = 0 from rfl), e1]
    simp only [Option.bind_some]
    rw [decide_eq_true (by omega)]
  · obtain ⟨b, k1, k2, k3, k4, k5⟩ := cut_val (by omega) h0 (by omega) hl (k := 1100000000) (by omega)
    have hm := mx_ge l 0
    have hlb : In b l := fun x hx => ⟨(hl x hx).1, Int.le_trans (hm.2.1 x hx) k2⟩
    have hok := gr_ok (by omega) hlb l.length 0 0 (by omega) (by omega) (.inr ⟨rfl, by omega⟩) (by simp [S]; omega)
    rw [show S l ((0 : Nat) : Int) ((0 : Nat) : Int) = 0 by simp [S], List.drop_zero, show ((0 : Nat) : Int) = 0 from rfl] at hok
    have hlen := gr_len b l 0 0
    rw [k1]
    simp only [Option.bind_some]
    generalize gr b l 0 0 = E at *
    have hg : gB l E = gs l 0 0 E := by
      unfold gB
      rw [if_neg (by omega), if_pos (ok_ris hok), if_pos (within_in.2 (fun x hx => by have := hl x hx; omega))]
    rw [Greatest_val (by omega) (by omega) (by omega), hg]
    simp only [Option.bind_some]
    have hle := gs_le (best := 0) hok (by omega)
    have hge := gs_ge l E 0 0
    rw [if_neg (by omega)]
    unfold shadowboxlaw17_PartFull.jo3
    rw [if_neg (by omega)]
    simp only [lt]
    rw [wi64 (by omega) (by omega), if_pos (by omega), if_pos (by omega)]
    have hlast : E.getD ((E.length : Int) - 1).toNat 0 = (l.length : Int) := by
      have := ok_ris hok
      rw [ris_inc, Bool.and_eq_true] at this
      have := of_decide_eq_true this.2
      rw [← this, show ((E.length : Int) - 1).toNat = E.length - 1 by omega, List.getD_eq_getElem?_getD, ← List.getLast?_eq_getElem?, List.getLastD_eq_getLast?]
    rw [if_pos hlast, if_neg (by omega)]
    unfold shadowboxlaw17_PartFull.jo4
    have := full_lo5 (b := b) (G := gs l 0 0 E) (E := E) (by omega) hle hlb (by omega) (by omega) E.length 1100000000 0 0 (by omega) (by omega) (by rw [List.drop_zero]; exact hok) (by rw [List.drop_zero]; exact hge.2)
    exact this
theorem full_lo10 {l0 : List Int} (hl0 : l0.length ≤ 300) {y : Int} (hy : 1 ≤ y ∧ y ≤ 1048576) (jo : List Int → Option Bool) : ∀ (j k i : Nat) (m : List Int), i + j = l0.length → j < k → m.length = i → In y m → ∃ m', shadowboxlaw17_PartFull.lo10 l0 y jo k m (i : Int) = jo m' ∧ In y m' ∧ m'.length = l0.length := by
  intro j
  induction j with
  | zero =>
    intro k i m h1 h2 h3 h4
    obtain ⟨k, rfl⟩ : ∃ k', k = k' + 1 := ⟨k - 1, by omega⟩
    rw [shadowboxlaw17_PartFull.lo10, if_neg (by omega)]
    exact ⟨m, rfl, h4, by omega⟩
  | succ j ih =>
    intro k i m h1 h2 h3 h4
    obtain ⟨k, rfl⟩ : ∃ k', k = k' + 1 := ⟨k - 1, by omega⟩
    rw [shadowboxlaw17_PartFull.lo10, if_pos (by omega), if_pos (by omega), Int.toNat_natCast]
    simp only [lt]
    have ha := and_i64 (l0.getD i 0) (m := 1048575) (by decide)
    rw [show ((1048575 : Nat) : Int) = 1048575 from rfl] at ha
    generalize bits .and .i64 (l0.getD i 0) 1048575 = z at *
    rw [wi64 (n := y + 1) (by omega) (by omega), if_pos (by omega), if_pos (by simp; omega), wi64 (by omega) (by omega), show (i : Int) + 1 = ((i + 1 : Nat) : Int) by omega]
    refine ih k (i + 1) _ (by omega) (by omega) (by simp; omega) ?_
    intro x hx
    rcases List.mem_append.1 hx with hx | hx
    · exact h4 x hx
    · simp at hx
      rw [hx, tm _ ha.1]
      have h5 := Int.emod_nonneg z (show y + 1 ≠ 0 by omega)
      have h6 := Int.emod_lt_of_pos z (show 0 < y + 1 by omega)
      omega
theorem full_jo1 {l : List Int} (hl : l.length ≤ 300) (a : Int) : shadowboxlaw17_PartFull.jo1 1100000000 a l = some true := by
  unfold shadowboxlaw17_PartFull.jo1
  have ha := and_i64 a (m := 1048575) (by decide)
  rw [show ((1048575 : Nat) : Int) = 1048575 from rfl] at ha
  generalize bits .and .i64 a 1048575 = z at *
  simp only [lt]
  rw [wi64 (by omega) (by omega)]
  obtain ⟨m, e, h1, h2⟩ := full_lo10 hl (y := 1 + z) (by omega) (shadowboxlaw17_PartFull.jo2 1100000000 (1 + z)) l.length 1100000000 0 [] (by omega) (by omega) rfl (fun x hx => by cases hx)
  rw [show ((0 : Nat) : Int) = 0 from rfl] at e
  rw [e]
  exact full_jo2 (by omega) h1 (by omega)
theorem PartFull : S.PartFull := by
  intro l a hl hw ha
  refine ⟨1100000000, ?_⟩
  unfold shadowboxlaw17_PartFull.f
  by_cases h : (l.length : Int) > 300
  · rw [if_pos h, if_pos (by omega)]
    simp only [lt]
    exact full_jo1 (by simp; omega) a
  · rw [if_neg h]
    exact full_jo1 (by omega) a
end Go.Proofs.Ytnkcadofhhcfaaa.Pure
