/- Slices of slices: what each inner one holds, beside its place; no condition. -/
import Derived.Test.YthhhkphbhlafbaaSh
set_option linter.unusedVariables false
set_option linter.unusedSimpArgs false
namespace Go.Proofs.Ythhhkphbhlafbaa.Sx
open Go Go.RowKit
variable {α : Type}
abbrev Pl := Option Addr × Nat
/-- An element that is a slice, with its place and room. -/
def Ec.sls (t : TypeId) (α : Type) : Ec (Pl × List α) := ⟨t, fun c => [Value.slice c.1.1 c.2.length c.1.2], 1, ((none, 0), []), fun _ => rfl, fun _ => one_cons rfl one_nil, Nat.one_pos⟩
/-- The same, without: for what looks at the kind alone. -/
def Ec.sld (t : TypeId) (α : Type) : Ec (List α) := ⟨t, fun c => [Value.slice none c.length c.length], 1, [], fun _ => rfl, fun _ => one_cons rfl one_nil, Nat.one_pos⟩
def zs (p : Nat → Pl) (l : List (List α)) : List (Pl × List α) := (List.range l.length).map fun i => (p i, l.getD i [])
theorem zs_length (p : Nat → Pl) (l : List (List α)) : (zs p l).length = l.length := by simp [zs]
theorem zs_get (p : Nat → Pl) (l : List (List α)) {i : Nat} (h : i < l.length) (d : Pl × List α) : (zs p l).getD i d = (p i, l.getD i []) := by
  simp [zs, List.getD_eq_getElem?_getD, h]
theorem zs_take (p : Nat → Pl) (l : List (List α)) (n : Nat) : (zs p l).take n = zs p (l.take n) := by
  apply List.ext_getElem?
  intro i
  simp only [zs, List.getElem?_take, List.getElem?_map, List.length_take]
  by_cases h : i < n
  · rw [if_pos h]
    by_cases h2 : i < l.length
    · rw [List.getElem?_range h2, List.getElem?_range (by omega)]
      simp [List.getD_eq_getElem?_getD, List.getElem?_take, h]
    · rw [List.getElem?_eq_none (by simp; omega), List.getElem?_eq_none (by simp; omega)]
      rfl
  · rw [if_neg h, List.getElem?_eq_none (by simp; omega)]
    rfl
def Ins (T : Ec α) (b : Bs) (p : Nat → Pl) (l : List (List α)) : Prop := ∀ i, i < l.length → Ro b (p i).1 (em T (l.getD i [])) ∧ (l.getD i []).length ≤ (p i).2
/-- A slice of slices that nobody writes: the inner ones' places are hidden. -/
def RoS (t : TypeId) (T : Ec α) (b : Bs) (A : Option Addr) (l : List (List α)) : Prop := ∃ p, Ro b A (em (Ec.sls t α) (zs p l)) ∧ Ins T b p l
section
variable {t : TypeId} {T : Ec α} {b b' w0 : Bs} {A : Option Addr} {l : List (List α)}
theorem RoS.nil (t : TypeId) (T : Ec α) (b : Bs) (A : Option Addr) : RoS t T b A [] := ⟨fun _ => (none, 0), Ro.nil _ _, fun i h => by simp at h⟩
theorem RoS.mono (hok : ∀ k, b.fz k → k < b.w.heap.size ∧ ¬ b.ks k) (hb : b.le b') (h : RoS t T b A l) : RoS t T b' A l :=
  let ⟨p, h1, h2⟩ := h
  ⟨p, h1.mono hok hb, fun i hi => ⟨(h2 i hi).1.mono hok hb, (h2 i hi).2⟩⟩
theorem St.roS {w : World} {S : Sto} (h : St w0 S w) (hr : RoS t T w0 A l) (cl ro : List Ck) : RoS t T (lent w0 w cl ro) A l :=
  let ⟨p, h1, h2⟩ := hr
  ⟨p, h.ro h1 cl ro, fun i hi => ⟨h.ro (h2 i hi).1 cl ro, (h2 i hi).2⟩⟩
theorem RoS.lit1 {q : Pl} {x : List α} (h : Ro b A (em (Ec.sls t α) [(q, x)])) (h1 : Ro b q.1 (em T x)) (h2 : x.length ≤ q.2) : RoS t T b A [x] :=
  ⟨fun _ => q, h, fun i hi => by
    have : i = 0 := by simp at hi; omega
    subst this
    exact ⟨h1, h2⟩⟩
theorem idoS_at {i : Int} (hR : RoS t T w0 A l) (h0 : 0 ≤ i) (h1 : i < (l.length : Int)) : ∃ ad, A = some ad :=
  let ⟨p, h, _⟩ := hR
  ido_at h h0 (by rw [zs_length]; exact h1)
/-- One inner slice. -/
theorem RoS.el (hR : RoS t T w0 A l) {ad : Addr} (hA : A = some ad) {i : Int} (h0 : 0 ≤ i) (h1 : i < (l.length : Int)) :
    ∃ q : Pl, Ro w0 (some (ad.add (i.toNat * 1))) [Value.slice q.1 (l.getD i.toNat []).length q.2] ∧ Ro w0 q.1 (em T (l.getD i.toNat [])) ∧ (l.getD i.toNat []).length ≤ q.2 := by
  obtain ⟨p, h, h2⟩ := hR
  have hi : i.toNat < l.length := by omega
  obtain ⟨h3, h4⟩ := h2 _ hi
  refine ⟨p i.toNat, ?_, h3, h4⟩
  have hs := em_sub (Ec.sls t α) (zs p l) (i := i.toNat) (by rw [zs_length]; exact hi)
  rw [zs_get p l hi] at hs
  intro j u hj
  obtain rfl : j = 0 := by
    have := (List.getElem?_eq_some_iff.1 hj).1
    simp at this
    omega
  have hg := hs.get 0 Nat.one_pos
  obtain ⟨ad', e, hc, hf⟩ := h (i.toNat * 1 + 0) u (hg.trans hj)
  rw [hA] at e
  obtain rfl := Option.some.inj e
  exact ⟨_, rfl, by rw [add_add]; exact hc, by rw [add_block]; exact hf⟩
theorem Rd.cell0 {w : World} {a : Addr} {v : Value} (h : Rd w (some a) [v]) : w.cell? a = some v := by
  obtain ⟨ad, e, hc⟩ := h 0 v rfl
  obtain rfl := Option.some.inj e
  simpa [Addr.add] using hc
/-- The first of them. -/
theorem cutS_at (t : TypeId) (T : Ec α) {c : Nat} (n : Nat) (h2 : n ≤ l.length) (h3 : l.length ≤ c) (hR : RoS t T w0 A l) {m : List (List α)} (hm : m = l.take n) : ∃ A' c', Value.slice (if c = 0 then A else A.map (·.add (0 * 1))) (n - 0) (c - 0) = .slice A' m.length c' ∧ m.length ≤ c' ∧ RoS t T w0 A' m := by
  obtain ⟨p, h, hi⟩ := hR
  obtain ⟨A', c', he, hC, hr⟩ := cut_at (T := Ec.sls t α) (l := zs p l) 0 n (Nat.zero_le _) (by rw [zs_length]; exact h2) (by rw [zs_length]; exact h3) h (m := zs p m) (by rw [List.drop_zero, zs_take, hm]) rfl
  rw [zs_length] at he hC
  refine ⟨A', c', he, hC, p, hr, fun i hj => ?_⟩
  subst hm
  have hj' : i < l.length := by rw [List.length_take] at hj; omega
  have e : (l.take n).getD i [] = l.getD i [] := by
    rw [List.length_take] at hj
    simp [List.getD_eq_getElem?_getD, List.getElem?_take, show i < n by omega]
  rw [e]
  exact hi i hj'
/-- What an argument holds. -/
theorem RoS.of {L : List (Pl × List α)} (h : Ro b A (em (Ec.sls t α) L)) (h2 : ∀ c ∈ L, Ro b c.1.1 (em T c.2) ∧ c.2.length ≤ c.1.2) : RoS t T b A (L.map (·.2)) := by
  have e : zs (fun i => (L.getD i ((none, 0), [])).1) (L.map (·.2)) = L := by
    apply List.ext_getElem?
    intro i
    simp only [zs, List.length_map, List.getElem?_map]
    by_cases hi : i < L.length
    · rw [List.getElem?_range hi]
      simp [List.getD_eq_getElem?_getD, List.getElem?_eq_getElem hi]
    · rw [List.getElem?_eq_none (by simp; omega), List.getElem?_eq_none (by omega)]
      rfl
  refine ⟨fun i => (L.getD i ((none, 0), [])).1, by rw [e]; exact h, fun i hi => ?_⟩
  rw [List.length_map] at hi
  have := h2 _ (List.getElem_mem hi)
  simpa [List.getD_eq_getElem?_getD, List.getElem?_eq_getElem hi] using this
end
end Go.Proofs.Ythhhkphbhlafbaa.Sx
