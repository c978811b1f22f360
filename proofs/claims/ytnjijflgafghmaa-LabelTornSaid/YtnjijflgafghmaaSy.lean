/- More small lemmas for a walk: rows of the call's own that are only read, nested slices, pointers, maps; no condition. -/
import Derived.Test.YtnjijflgafghmaaSx
set_option linter.unusedVariables false
set_option linter.unusedSimpArgs false
namespace Go.Proofs.Ytnjijflgafghmaa.Sx
open Go Go.RowKit

/-! ### 1. A row of the call's own that is only read -/
def Ck.ro {α : Type} (T : Ec α) (A : Option Addr) (c : Nat) (l : List α) : Ck where
  key := (A.map (·.block)).toList
  holds := fun w => Rd w A (em T l) ∧ l.length ≤ c ∧ ∀ ad, A = some ad → ad.block < w.heap.size
  stable := fun w w' h hk => ⟨fun j u hj => by
      obtain ⟨ad, e, hc⟩ := h.1 j u hj
      exact ⟨ad, e, (cell_same (by rw [add_block]; exact hk ad.block (by simp [e]))).trans hc⟩, h.2.1, fun ad e => by
      have h1 := hk ad.block (by simp [e])
      rw [Array.getElem?_eq_getElem (h.2.2 ad e)] at h1
      exact (Array.getElem?_eq_some_iff.1 h1).1⟩
  bound := fun w h k hk => by
    cases A with
    | none => simp at hk
    | some ad =>
      have : k = ad.block := by simpa using hk
      subst this
      exact h.2.2 ad rfl
theorem Ck.ro_key {α : Type} {T : Ec α} {A : Option Addr} {c : Nat} {l : List α} : ∀ ad, A = some ad → ad.block ∈ (Ck.ro T A c l).key := fun ad e => by simp [Ck.ro, e]
/-- A piece turns into a lesser one, under another number. -/
theorem St.weaken {b : Bs} {S : Sto} {w : World} (h : St b S w) {k : Nat} {c c' : Ck} (hS : S k = some c) (hc : c'.holds w) (hk : ∀ q ∈ c'.key, q ∈ c.key) (k' : Nat) : St b (sput (sput S k none) k' (some c')) w := by
  have sub : ∀ u d, u ≠ k' → sput (sput S k none) k' (some c') u = some d → u ≠ k ∧ S u = some d := fun u d hne e => by
    rw [sput_ne _ _ hne] at e
    by_cases hut : u = k
    · subst hut; rw [sput_same] at e; cases e
    · rw [sput_ne S _ hut] at e; exact ⟨hut, e⟩
  refine ⟨h.ok, h.below, fun u d e => ?_, fun u d e q hq => ?_, fun u v d e hne hu hv q hq hq' => ?_⟩
  · by_cases hu : u = k'
    · subst hu; rw [sput_same] at e; obtain rfl := Option.some.inj e; exact hc
    · exact h.holds u d (sub u d hu e).2
  · by_cases hu : u = k'
    · subst hu; rw [sput_same] at e; obtain rfl := Option.some.inj e; exact h.own k c hS q (hk q hq)
    · exact h.own u d (sub u d hu e).2 q hq
  · by_cases huk : u = k'
    · subst huk
      rw [sput_same] at hu
      obtain rfl := Option.some.inj hu
      obtain ⟨h1, h2⟩ := sub v e (Ne.symm hne) hv
      exact h.apart k v c e (Ne.symm h1) hS h2 q (hk q hq) hq'
    · obtain ⟨h1, h2⟩ := sub u d huk hu
      by_cases hvk : v = k'
      · subst hvk
        rw [sput_same] at hv
        obtain rfl := Option.some.inj hv
        exact h.apart u k d c h1 h2 hS q hq (hk q hq')
      · obtain ⟨h3, h4⟩ := sub v e hvk hv
        exact h.apart u v d e hne h2 h4 q hq hq'
section
variable {P : Program} {Q : Exit → Act → World → Prop} {n : Nat} {ops : Array Oper} {lo : List Oper} {f : Fr} {w0 : Bs} {S : Sto} {α : Type} {T : Ec α} {A : Option Addr} {c : Nat} {l : List α} {y : Code}
theorem St.rod {w : World} (h : St w0 S w) {k : Nat} (hk : S k = some (Ck.ro T A c l)) : Rd w A (em T l) := (h.holds k _ hk).1
theorem St.rocap {w : World} (h : St w0 S w) {k : Nat} (hk : S k = some (Ck.ro T A c l)) : l.length ≤ c := (h.holds k _ hk).2.1
theorem St.roror {w : World} (h : St w0 S w) {k : Nat} (hk : S k = some (Ck.ro T A c l)) {cl ro : List Ck} (hm : Ck.ro T A c l ∈ ro) : Ro (lent w0 w cl ro) A (em T l) := (h.rod hk).ror hm Ck.ro_key
theorem St.toro {w : World} (h : St w0 S w) {k : Nat} (hk : S k = some (Ck.sl T A c l)) (k' : Nat) : St w0 (sput (sput S k none) k' (some (Ck.ro T A c l))) w :=
  h.weaken (c' := Ck.ro T A c l) hk ⟨h.rd hk, h.cap hk, fun ad e => (Ck.sl T A c l).bound w (h.holds k _ hk) _ (Ck.sl_key ad e)⟩ (fun q hq => by
    cases A with
    | none => simp [Ck.ro] at hq
    | some ad =>
      have : q = ad.block := by simpa [Ck.ro] using hq
      subst this
      exact Ck.sl_key ad rfl) k'
theorem St.toror {w : World} (h : St w0 S w) {k : Nat} (hk : S k = some (Ck.ro T A c l)) (k' : Nat) : St w0 (sput (sput S k none) k' (some (Ck.ro T A c l))) w :=
  h.weaken hk (h.holds k _ hk) (fun q hq => hq) k'
theorem St.torov {w : World} (h : St w0 S w) {k g off : Nat} {ty : TypeId} {cs : List Value} (hk : S k = some (Ck.var ty g cs)) (hs : Sub4 cs off (em T l)) (hc : l.length ≤ c) (k' : Nat) : St w0 (sput (sput S k none) k' (some (Ck.ro T (some ⟨g, off, none⟩) c l))) w :=
  h.weaken (c' := Ck.ro T (some ⟨g, off, none⟩) c l) hk ⟨h.vars hk hs, hc, fun ad e => by injection e with e; subst e; exact (Ck.var ty g cs).bound w (h.holds k _ hk) g (by simp [Ck.var, Ck.obj])⟩ (fun q hq => by
    have : q = g := by simpa [Ck.ro] using hq
    subst this
    simp [Ck.var, Ck.obj]) k'
theorem St.tors {w : World} (h : St w0 S w) {k g : Nat} (hk : S k = some (Ck.rs g (em T l))) (hc : l.length ≤ c) (k' : Nat) : St w0 (sput (sput S k none) k' (some (Ck.ro T (some ⟨g, 0, none⟩) c l))) w :=
  h.weaken (c' := Ck.ro T (some ⟨g, 0, none⟩) c l) hk ⟨h.rs hk, hc, fun ad e => by injection e with e; subst e; exact (Ck.rs g (em T l)).bound w (h.holds k _ hk) g (by simp [Ck.rs])⟩ (fun q hq => by
    have : q = g := by simpa [Ck.ro] using hq
    subst this
    simp [Ck.rs]) k'
theorem St.nilro {w : World} (h : St w0 S w) (k : Nat) (T : Ec α) : St w0 (sput S k (some (Ck.ro T none 0 []))) w :=
  h.new (Below.refl _ _) k (c := Ck.ro T none 0 []) ⟨Rd.nil _ _, Nat.le_refl _, fun _ e => by cases e⟩ (fun q hq => by simp [Ck.ro] at hq)
/-! the same, at each kind of goal -/
theorem ls_toro (k k' : Nat) (hS : S k = some (Ck.sl T A c l)) (h : Ls P Q n ops lo f w0 (sput (sput S k none) k' (some (Ck.ro T A c l)))) : Ls P Q n ops lo f w0 S := fun a w ha hs => h a w ha (hs.toro hS k')
theorem cs_toro (k k' : Nat) (hS : S k = some (Ck.sl T A c l)) (h : Cs P Q n y f w0 (sput (sput S k none) k' (some (Ck.ro T A c l)))) : Cs P Q n y f w0 S := fun a w ha hs => h a w ha (hs.toro hS k')
theorem qn_toro (k k' : Nat) (hS : S k = some (Ck.sl T A c l)) (h : Qn Q n f w0 (sput (sput S k none) k' (some (Ck.ro T A c l)))) : Qn Q n f w0 S := fun a w ha hs => h a w ha (hs.toro hS k')
theorem qr_toro (k k' : Nat) (hS : S k = some (Ck.sl T A c l)) (h : Qr Q n f w0 (sput (sput S k none) k' (some (Ck.ro T A c l)))) : Qr Q n f w0 S := fun a w ha hs => h a w ha (hs.toro hS k')
theorem cs_toror (k k' : Nat) (hS : S k = some (Ck.ro T A c l)) (h : Cs P Q n y f w0 (sput (sput S k none) k' (some (Ck.ro T A c l)))) : Cs P Q n y f w0 S := fun a w ha hs => h a w ha (hs.toror hS k')
theorem qn_toror (k k' : Nat) (hS : S k = some (Ck.ro T A c l)) (h : Qn Q n f w0 (sput (sput S k none) k' (some (Ck.ro T A c l)))) : Qn Q n f w0 S := fun a w ha hs => h a w ha (hs.toror hS k')
theorem cs_torov (T : Ec α) (l : List α) (c : Nat) (k k' : Nat) {g off : Nat} {ty : TypeId} {cs : List Value} (hS : S k = some (Ck.var ty g cs)) (hsb : Sub4 cs off (em T l)) (hc : l.length ≤ c) (h : Cs P Q n y f w0 (sput (sput S k none) k' (some (Ck.ro T (some ⟨g, off, none⟩) c l)))) : Cs P Q n y f w0 S := fun a w ha hs => h a w ha (hs.torov hS hsb hc k')
theorem qn_torov (T : Ec α) (l : List α) (c : Nat) (k k' : Nat) {g off : Nat} {ty : TypeId} {cs : List Value} (hS : S k = some (Ck.var ty g cs)) (hsb : Sub4 cs off (em T l)) (hc : l.length ≤ c) (h : Qn Q n f w0 (sput (sput S k none) k' (some (Ck.ro T (some ⟨g, off, none⟩) c l)))) : Qn Q n f w0 S := fun a w ha hs => h a w ha (hs.torov hS hsb hc k')
theorem qr_torov (T : Ec α) (l : List α) (c : Nat) (k k' : Nat) {g off : Nat} {ty : TypeId} {cs : List Value} (hS : S k = some (Ck.var ty g cs)) (hsb : Sub4 cs off (em T l)) (hc : l.length ≤ c) (h : Qr Q n f w0 (sput (sput S k none) k' (some (Ck.ro T (some ⟨g, off, none⟩) c l)))) : Qr Q n f w0 S := fun a w ha hs => h a w ha (hs.torov hS hsb hc k')
theorem cs_tors (T : Ec α) (l : List α) (c : Nat) (k k' : Nat) {g : Nat} (hS : S k = some (Ck.rs g (em T l))) (hc : l.length ≤ c) (h : Cs P Q n y f w0 (sput (sput S k none) k' (some (Ck.ro T (some ⟨g, 0, none⟩) c l)))) : Cs P Q n y f w0 S := fun a w ha hs => h a w ha (hs.tors hS hc k')
theorem qn_tors (T : Ec α) (l : List α) (c : Nat) (k k' : Nat) {g : Nat} (hS : S k = some (Ck.rs g (em T l))) (hc : l.length ≤ c) (h : Qn Q n f w0 (sput (sput S k none) k' (some (Ck.ro T (some ⟨g, 0, none⟩) c l)))) : Qn Q n f w0 S := fun a w ha hs => h a w ha (hs.tors hS hc k')
theorem qr_tors (T : Ec α) (l : List α) (c : Nat) (k k' : Nat) {g : Nat} (hS : S k = some (Ck.rs g (em T l))) (hc : l.length ≤ c) (h : Qr Q n f w0 (sput (sput S k none) k' (some (Ck.ro T (some ⟨g, 0, none⟩) c l)))) : Qr Q n f w0 S := fun a w ha hs => h a w ha (hs.tors hS hc k')
theorem cs_nilro (k : Nat) (T : Ec α) (h : Cs P Q n y f w0 (sput S k (some (Ck.ro T none 0 [])))) : Cs P Q n y f w0 S := fun a w ha hs => h a w ha (hs.nilro k T)
theorem qn_nilro (k : Nat) (T : Ec α) (h : Qn Q n f w0 (sput S k (some (Ck.ro T none 0 [])))) : Qn Q n f w0 S := fun a w ha hs => h a w ha (hs.nilro k T)
theorem qr_nilro (k : Nat) (T : Ec α) (h : Qr Q n f w0 (sput S k (some (Ck.ro T none 0 [])))) : Qr Q n f w0 S := fun a w ha hs => h a w ha (hs.nilro k T)
theorem ls_capro {tk : Nat} (hS : S tk = some (Ck.ro T A c l)) (h : l.length ≤ c → Ls P Q n ops lo f w0 S) : Ls P Q n ops lo f w0 S := fun a w ha hs => h (hs.rocap hS) a w ha hs
theorem cs_capro {tk : Nat} (hS : S tk = some (Ck.ro T A c l)) (h : l.length ≤ c → Cs P Q n y f w0 S) : Cs P Q n y f w0 S := fun a w ha hs => h (hs.rocap hS) a w ha hs
theorem ls_atro {tk : Nat} {i : Int} (hS : S tk = some (Ck.ro T A c l)) (h0 : 0 ≤ i) (h1 : i < (l.length : Int)) (h : ∀ ad, A = some ad → Ls P Q n ops lo f w0 S) : Ls P Q n ops lo f w0 S := fun a w ha hs => by
  obtain ⟨ad, e⟩ := idx_at (hs.rod hS) h0 h1
  exact h ad e a w ha hs
theorem cs_atro {tk : Nat} {i : Int} (hS : S tk = some (Ck.ro T A c l)) (h0 : 0 ≤ i) (h1 : i < (l.length : Int)) (h : ∀ ad, A = some ad → Cs P Q n y f w0 S) : Cs P Q n y f w0 S := fun a w ha hs => by
  obtain ⟨ad, e⟩ := idx_at (hs.rod hS) h0 h1
  exact h ad e a w ha hs
theorem cs_atr {i : Int} (hR : ∀ w, St w0 S w → Rd w A (em T l)) (h0 : 0 ≤ i) (h1 : i < (l.length : Int)) (h : ∀ ad, A = some ad → Cs P Q n y f w0 S) : Cs P Q n y f w0 S := fun a w ha hs => by
  obtain ⟨ad, e⟩ := idx_at (hR w hs) h0 h1
  exact h ad e a w ha hs
theorem st_freezero (k : Nat) (hS : S k = some (Ck.ro T A c l)) {w : World} (hs : St w0 S w) : ∃ b', w0.le b' ∧ Ro b' A (em T l) ∧ St b' (sput S k none) w := by
  obtain ⟨b', h1, h2, h3, h4⟩ := hs.freeze hS
  exact ⟨b', h1, hs.fz_ro (k := k) h1 h2 h3 (hs.rod hS) Ck.ro_key, h4⟩
theorem ls_freezero (k : Nat) (hS : S k = some (Ck.ro T A c l)) (h : ∀ b', w0.le b' → (∀ q, w0.fz q → q < w0.w.heap.size ∧ ¬ w0.ks q) → Ro b' A (em T l) → l.length ≤ c → Ls P Q n ops lo f b' (sput S k none)) : Ls P Q n ops lo f w0 S := fun a w ha hs => by
  obtain ⟨b', h1, h2, h3⟩ := st_freezero k hS hs
  exact h b' h1 hs.ok h2 (hs.rocap hS) a w ha h3
theorem cs_freezero (k : Nat) (hS : S k = some (Ck.ro T A c l)) (h : ∀ b', w0.le b' → (∀ q, w0.fz q → q < w0.w.heap.size ∧ ¬ w0.ks q) → Ro b' A (em T l) → l.length ≤ c → Cs P Q n y f b' (sput S k none)) : Cs P Q n y f w0 S := fun a w ha hs => by
  obtain ⟨b', h1, h2, h3⟩ := st_freezero k hS hs
  exact h b' h1 hs.ok h2 (hs.rocap hS) a w ha h3
theorem qn_freezero (k : Nat) (hS : S k = some (Ck.ro T A c l)) (h : ∀ b', w0.le b' → (∀ q, w0.fz q → q < w0.w.heap.size ∧ ¬ w0.ks q) → Ro b' A (em T l) → l.length ≤ c → Qn Q n f b' (sput S k none)) : Qn Q n f w0 S := fun a w ha hs => by
  obtain ⟨b', h1, h2, h3⟩ := st_freezero k hS hs
  exact h b' h1 hs.ok h2 (hs.rocap hS) a w ha h3
theorem qr_freezero (k : Nat) (hS : S k = some (Ck.ro T A c l)) (h : ∀ b', w0.le b' → (∀ q, w0.fz q → q < w0.w.heap.size ∧ ¬ w0.ks q) → Ro b' A (em T l) → l.length ≤ c → Qr Q n f b' (sput S k none)) : Qr Q n f w0 S := fun a w ha hs => by
  obtain ⟨b', h1, h2, h3⟩ := st_freezero k hS hs
  exact h b' h1 hs.ok h2 (hs.rocap hS) a w ha h3
end

/-! ### 2. A slice that is nil has nothing -/
theorem Rd.nil_of {α : Type} {T : Ec α} {w : World} {A : Option Addr} {l : List α} (h : Rd w A (em T l)) (hn : A = none) : l = [] := by
  cases l with
  | nil => rfl
  | cons x r =>
    have hl : 0 < (em T (x :: r)).length := by rw [em_length, List.length_cons]; exact Nat.mul_pos (Nat.succ_pos _) T.pos
    obtain ⟨ad, e, _⟩ := h 0 _ (List.getElem?_eq_getElem hl)
    rw [hn] at e
    cases e
theorem Ro.nil_of {α : Type} {T : Ec α} {b : Bs} {A : Option Addr} {l : List α} (h : Ro b A (em T l)) (hn : A = none) : l = [] :=
  Rd.nil_of (w := b.w) (fun j u hj => by obtain ⟨ad, e, h1, _⟩ := h j u hj; exact ⟨ad, e, h1⟩) hn
theorem isNone_f {A : Option Addr} (h : ¬ A = none) : A.isNone = false := by cases A <;> first | rfl | exact absurd rfl h
theorem isNone_t {A : Option Addr} (h : A = none) : A.isNone = true := by rw [h]; rfl
end Go.Proofs.Ytnjijflgafghmaa.Sx
