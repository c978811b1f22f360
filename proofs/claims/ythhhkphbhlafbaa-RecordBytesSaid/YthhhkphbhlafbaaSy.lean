/- More small lemmas for a walk: rows of the call's own that are only read, nested slices, pointers, maps; no condition. -/
import Derived.Test.YthhhkphbhlafbaaSx
set_option linter.unusedVariables false
set_option linter.unusedSimpArgs false
namespace Go.Proofs.Ythhhkphbhlafbaa.Sx
open Go Go.RowKit

/-! ### 1. A row of the call's own that is only read -/
def Ck.ro {α : Type} (T : Ec α) (A : Option Addr) (c : Nat) (l : List α) : Ck where
  key := (A.map (·.block)).toList
  holds := fun w => Rd w A (em T l) ∧ l.length ≤ c ∧ ∀ ad, A = some ad → ad.block < w.heap.size
  stable := fun w w' h hk => ⟨fun j u hj => by
      obtain ⟨ad, e, hc⟩ := h.1 j u hj
      exact ⟨ad, e, (cell_same (by rw [add_block]; exact hk ad.block (by simp [e]))).trans hc⟩, h.2.1, fun ad e => by
      have h1 := hk ad.block (by simp [e])
      rw [Array.getElem?_eq_getElem (h.2.2 ad e)] at h1
      exact (Array.getElem?_eq_some_iff.1 h1).1⟩
  bound := fun w h k hk => by
    cases A with
    | none => simp at hk
    | some ad =>
      have : k = ad.block := by simpa using hk
      subst this
      exact h.2.2 ad rfl
theorem Ck.ro_key {α : Type} {T : Ec α} {A : Option Addr} {c : Nat} {l : List α} : ∀ ad, A = some ad → ad.block ∈ (Ck.ro T A c l).key := fun ad e => by simp [Ck.ro, e]
/-- A piece turns into a lesser one, under another number. -/
theorem St.weaken {b : Bs} {S : Sto} {w : World} (h : St b S w) {k : Nat} {c c' : Ck} (hS : S k = some c) (hc : c'.holds w) (hk : ∀ q ∈ c'.key, q ∈ c.key) (k' : Nat) : St b (sput (sput S k none) k' (some c')) w := by
  have sub : ∀ u d, u ≠ k' → sput (sput S k none) k' (some c') u = some d → u ≠ k ∧ S u = some d := fun u d hne e => by
    rw [sput_ne _ _ hne] at e
    by_cases hut : u = k
    · subst hut; rw [sput_same] at e; cases e
    · rw [sput_ne S _ hut] at e; exact ⟨hut, e⟩
  refine ⟨h.ok, h.below, fun u d e => ?_, fun u d e q hq => ?_, fun u v d e hne hu hv q hq hq' => ?_⟩
  · by_cases hu : u = k'
    · subst hu; rw [sput_same] at e; obtain rfl := Option.some.inj e; exact hc
    · exact h.holds u d (sub u d hu e).2
  · by_cases hu : u = k'
    · subst hu; rw [sput_same] at e; obtain rfl := Option.some.inj e; exact h.own k c hS q (hk q hq)
    · exact h.own u d (sub u d hu e).2 q hq
  · by_cases huk : u = k'
    · subst huk
      rw [sput_same] at hu
      obtain rfl := Option.some.inj hu
      obtain ⟨h1, h2⟩ := sub v e (Ne.symm hne) hv
      exact h.apart k v c e (Ne.symm h1) hS h2 q (hk q hq) hq'
    · obtain ⟨h1, h2⟩ := sub u d huk hu
      by_cases hvk : v = k'
      · subst hvk
        rw [sput_same] at hv
        obtain rfl := Option.some.inj hv
        exact h.apart u k d c h1 h2 hS q hq (hk q hq')
      · obtain ⟨h3, h4⟩ := sub v e hvk hv
        exact h.apart u v d e hne h2 h4 q hq hq'
section
variable {P : Program} {Q : Exit → Act → World → Prop} {n : Nat} {ops : Array Oper} {lo : List Oper} {f : Fr} {w0 : Bs} {S : Sto} {α : Type} {T : Ec α} {A : Option Addr} {c : Nat} {l : List α} {y : Code}
theorem St.rod {w : World} (h : St w0 S w) {k : Nat} (hk : S k = some (Ck.ro T A c l)) : Rd w A (em T l) := (h.holds k _ hk).1
theorem St.rocap {w : World} (h : St w0 S w) {k : Nat} (hk : S k = some (Ck.ro T A c l)) : l.length ≤ c := (h.holds k _ hk).2.1
theorem St.roror {w : World} (h : St w0 S w) {k : Nat} (hk : S k = some (Ck.ro T A c l)) {cl ro : List Ck} (hm : Ck.ro T A c l ∈ ro) : Ro (lent w0 w cl ro) A (em T l) := (h.rod hk).ror hm Ck.ro_key
theorem St.toro {w : World} (h : St w0 S w) {k : Nat} (hk : S k = some (Ck.sl T A c l)) (k' : Nat) : St w0 (sput (sput S k none) k' (some (Ck.ro T A c l))) w :=
  h.weaken (c' := Ck.ro T A c l) hk ⟨h.rd hk, h.cap hk, fun ad e => (Ck.sl T A c l).bound w (h.holds k _ hk) _ (Ck.sl_key ad e)⟩ (fun q hq => by
    cases A with
    | none => simp [Ck.ro] at hq
    | some ad =>
      have : q = ad.block := by simpa [Ck.ro] using hq
      subst this
      exact Ck.sl_key ad rfl) k'
theorem St.nilro {w : World} (h : St w0 S w) (k : Nat) (T : Ec α) : St w0 (sput S k (some (Ck.ro T none 0 []))) w :=
  h.new (Below.refl _ _) k (c := Ck.ro T none 0 []) ⟨Rd.nil _ _, Nat.le_refl _, fun _ e => by cases e⟩ (fun q hq => by simp [Ck.ro] at hq)
/-! the same, at each kind of goal -/
theorem cs_toro (k k' : Nat) (hS : S k = some (Ck.sl T A c l)) (h : Cs P Q n y f w0 (sput (sput S k none) k' (some (Ck.ro T A c l)))) : Cs P Q n y f w0 S := fun a w ha hs => h a w ha (hs.toro hS k')
theorem qn_toro (k k' : Nat) (hS : S k = some (Ck.sl T A c l)) (h : Qn Q n f w0 (sput (sput S k none) k' (some (Ck.ro T A c l)))) : Qn Q n f w0 S := fun a w ha hs => h a w ha (hs.toro hS k')
theorem qr_nilro (k : Nat) (T : Ec α) (h : Qr Q n f w0 (sput S k (some (Ck.ro T none 0 [])))) : Qr Q n f w0 S := fun a w ha hs => h a w ha (hs.nilro k T)
end

/-! ### 2. A slice that is nil has nothing -/
/-! ### 3. A region that draws its order, effects in line, where the base may change -/
def QEfb (p : Pv) (E : Bs → (Nat → Value) → Sto → Prop) (es : Nat → Value) (i : Nat) (keep : Nat → Bool) (S0 : Sto) (n : Nat) (f : Fr) (d : Option Nat) (w0 : Bs) : Exit → Act → World → Prop := fun e a' w' => e = .normal ∧ ∃ v S' B', w0.le B' ∧ E B' (upv es i v) S' ∧ p.ok (upv es i v) v ∧ (∀ u, keep u = true → S' u = S0 u) ∧ At n (updo f d v) a' ∧ St B' S' w'
structure ChOkb (P : Program) (n : Nat) (ops : Array Oper) (tab : List (List Nat)) (f : Fr) (w0 : Bs) (S : Sto) (keep ef : Nat → Bool) (pv : Nat → Pv) (E : Nat → Bs → (Nat → Value) → Sto → Prop) (nx : Nat → Nat) (on : Nat → Bool) (i : Nat) : Prop where
  ok : ∀ o, ops[i]? = some o → ∀ (B : Bs) (es vs : Nat → Value) (f' : Fr) (S' : Sto), w0.le B →
    (∀ j, (tab.getD i []).contains j = true → ef j = true → vs j = es j) → (∀ j, (tab.getD i []).contains j = true → (pv j).ok es (vs j)) →
    (∀ j d, (tab.getD i []).contains j = true → dstAt ops j = some d → f' d = vs j) → (∀ t, lateOk ops tab i t = true → f' t = f t) → (∀ u, keep u = true → S' u = S u) → (ef i = true → E i B es S') →
    (∀ a, At n f' a → Region.wanted o (yielded ops a.tmps) = on i) ∧
    (ef i = false → on i = true → Ls P (QPv (pv i) es n f' o.dst B S') n ops [{ o with guard := none }] f' B S') ∧ (ef i = false → on i = false → (pv i).ok es undef) ∧
    (ef i = true → on i = true → Ls P (QEfb (pv i) (E (nx i)) es i keep S n f' o.dst B) n ops [{ o with guard := none }] f' B S') ∧ (ef i = true → on i = false → E (nx i) B (upv es i undef) S' ∧ (pv i).ok (upv es i undef) undef)
section
variable {P : Program} {Q : Exit → Act → World → Prop} {n : Nat} {ops : Array Oper} {tab : List (List Nat)} {f : Fr} {w0 : Bs} {S : Sto} {keep ef : Nat → Bool} {pv : Nat → Pv} {E : Nat → Bs → (Nat → Value) → Sto → Prop} {nx : Nat → Nat} {on : Nat → Bool} {c0 : Nat}
end
section
variable {P : Program} {Q : Exit → Act → World → Prop} {n : Nat} {ops : Array Oper} {l : List Oper} {f f' F : Fr} {w0 : Bs} {S S0 : Sto} {keep : Nat → Bool}
end
end Go.Proofs.Ythhhkphbhlafbaa.Sx
