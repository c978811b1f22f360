/- Arguments that are slices of plain values, structures, arrays, or of slices, opened; no condition. -/
import Derived.Test.YthhhkphbhlafbaaTy
import Derived.WalkKit
import Derived.ProofKit
import Derived.OpenShut
import Derived.ChangeSlices
import Derived.WideShapes
import Derived.Deep.Slices
set_option linter.unusedVariables false
set_option linter.unusedSimpArgs false
namespace Go.Proofs.Ythhhkphbhlafbaa.Ow
open Go Go.RowKit Go.Proofs.Ythhhkphbhlafbaa.Sx Go.ChangeShapes Go.WideShapes

/-- Whatever is read as of type t is the cells of some value of α for which W holds. -/
def Opn (P : Program) (t : TypeId) {α : Type} (E : α → List Value) (W : World → α → Prop) : Prop :=
  ∀ (H : Type) (enc : TypeId × Value → H) (w : World) (base : Nat) (spare : Nat → Bool) (held : Bool) (fuel : Nat) (cs : List Value) (x : DataW H × List MemPlace),
    DataW.trod enc P w base spare held fuel t cs = some x → ∃ m, cs = E m ∧ W w m
def OpnF (P : Program) (fs : List Field) (o N : Nat) {α : Type} (E : α → List Value) (W : World → α → Prop) : Prop :=
  ∀ (H : Type) (enc : TypeId × Value → H) (w : World) (base : Nat) (spare : Nat → Bool) (held : Bool) (fuel : Nat) (cs : List Value),
    cs.length = N → (∀ f ∈ fs, ∃ x, DataW.trod enc P w base spare held fuel f.type ((cs.drop f.offset).take (P.cellsOf f.type)) = some x) → ∃ m, cs.drop o = E m ∧ W w m
section
variable {P : Program} {t : TypeId} {α β : Type} {E : α → List Value} {W : World → α → Prop} {E' : β → List Value} {W' : World → β → Prop}
def numV : Value → Int
  | .int _ z => z
  | _ => 0
theorem op_int {k : IntKind} (ht : P.underlying t = some (.int k)) : Opn P t (fun x => [Value.int k x]) (fun _ x => (Lit.int k x).wf = true) := by
  intro H enc w base spare held fuel cs x h
  obtain ⟨n, rfl, _, hw⟩ := DataW.trod_int ht h
  exact ⟨n, rfl, hw⟩
theorem op_bool (ht : P.underlying t = some .bool) : Opn P t (fun x => [Value.bool x]) (fun _ _ => True) := by
  intro H enc w base spare held fuel cs x h
  obtain ⟨n, rfl, _⟩ := DataW.trod_bool ht h
  exact ⟨n, rfl, trivial⟩
theorem op_str (ht : P.underlying t = some .string) : Opn P t (fun x => [Value.string x]) (fun _ x => x.size ≤ maxLen) := by
  intro H enc w base spare held fuel cs x h
  obtain ⟨n, rfl, _, hw⟩ := DataW.trod_string ht h
  exact ⟨n, rfl, hw⟩
theorem op_ints {k : IntKind} {n : Nat} {e : TypeId} (ht : P.underlying t = some (.array n e)) (he : P.underlying e = some (.int k)) (hc : P.cellsOf e = 1) (hn : P.cellsOf t = n) :
    Opn P t (fun v : Vc Int n => en (Value.int k) v.1) (fun _ v => ∀ x ∈ v.1, (Lit.int k x).wf = true) := by
  intro H enc w base spare held fuel cs x h
  obtain ⟨xs, m, _, _, hl, hxl, hx⟩ := DataW.trod_array ht h
  rw [hn] at hl
  have key : ∀ i, i < n → ∃ z, cs[i]? = some (Value.int k z) ∧ (Lit.int k z).wf = true := by
    intro i hi
    have := hx i hi
    rw [hc, Nat.mul_one, List.getElem?_eq_getElem (by omega)] at this
    obtain ⟨z, e1, _, hw⟩ := DataW.trod_int he this
    refine ⟨z, ?_, hw⟩
    have h2 := congrArg (·[0]?) e1
    simpa [List.getElem?_take, List.getElem?_drop] using h2
  refine ⟨⟨(List.range n).map fun i => numV (cs.getD i .nilIface), by simp⟩, ?_, ?_⟩
  · apply List.ext_getElem?
    intro i
    by_cases hi : i < n
    · obtain ⟨z, e1, _⟩ := key i hi
      rw [e1]
      simp [en, hi, List.getD_eq_getElem?_getD, e1, numV]
    · rw [List.getElem?_eq_none (by omega)]
      simp [en, hi]
  · intro y hy
    simp only [List.mem_map, List.mem_range] at hy
    obtain ⟨i, hi, rfl⟩ := hy
    obtain ⟨z, e1, hw⟩ := key i hi
    rw [List.getD_eq_getElem?_getD, e1]
    exact hw
theorem opf_last {f : Field} {o N z : Nat} (h : Opn P f.type E W) (ho : f.offset = o) (hz : P.cellsOf f.type = z) (hN : N = o + z) : OpnF P [f] o N E W := by
  intro H enc w base spare held fuel cs hl hf
  obtain ⟨x, hx⟩ := hf f (by simp)
  rw [ho, hz, List.take_of_length_le (by simp; omega)] at hx
  exact h H enc w base spare held fuel _ x hx
theorem opf_cons {f : Field} {fs : List Field} {o N z : Nat} (h : Opn P f.type E W) (ho : f.offset = o) (hz : P.cellsOf f.type = z) (h2 : OpnF P fs (o + z) N E' W') :
    OpnF P (f :: fs) o N (fun m : α × β => E m.1 ++ E' m.2) (fun w m => W w m.1 ∧ W' w m.2) := by
  intro H enc w base spare held fuel cs hl hf
  obtain ⟨x, hx⟩ := hf f (by simp)
  rw [ho, hz] at hx
  obtain ⟨m, e1, w1⟩ := h H enc w base spare held fuel _ x hx
  obtain ⟨m', e2, w2⟩ := h2 H enc w base spare held fuel cs hl (fun g hg => hf g (by simp [hg]))
  refine ⟨(m, m'), ?_, w1, w2⟩
  show cs.drop o = E m ++ E' m'
  rw [← e1, ← e2, ← List.drop_drop, List.take_append_drop]
theorem op_struct {fs : List Field} {N : Nat} (ht : P.underlying t = some (.struct fs.toArray)) (hN : P.cellsOf t = N) (h : OpnF P fs 0 N E W) : Opn P t E W := by
  intro H enc w base spare held fuel cs x hx
  obtain ⟨xs, n, _, _, hl, hxl, hf⟩ := DataW.trod_struct ht hx
  rw [hN] at hl
  obtain ⟨m, e, hw⟩ := h H enc w base spare held n cs hl (fun f hfm => by
    obtain ⟨i, hi, rfl⟩ := List.getElem_of_mem hfm
    have := hf i fs[i] (by simp [hi])
    rw [List.getElem?_eq_getElem (by rw [hxl]; simpa using hi)] at this
    exact ⟨_, this⟩)
  exact ⟨m, by simpa using e, hw⟩
theorem okWide_array {w : World} {r : Reach} {base n : Nat} {e : TypeId} {v : Value} (ht : P.underlying t = some (.array n e)) (h : Value.okWide P w r base t v) : ∃ cs, v = .agg cs ∧ cs.size = P.cellsOf t := by
  simp only [Value.okWide, ht] at h
  obtain ⟨cs, h1, h2, _⟩ := h
  exact ⟨cs, h1, h2⟩
/-- An argument that is a structure or an array. -/
theorem Opn.arg (h : Opn P t E W) {H : Type} {enc : TypeId × Value → H} {w : World} {base : Nat} {spare : Nat → Bool} {held : Bool} {v : Value} {d : DataW H} {ps : List MemPlace} (hv : ∃ cs, v = .agg cs ∧ cs.size = P.cellsOf t)
    (ht : DataW.Trod enc P w base spare held t v d ps) : ∃ m, v = .agg ⟨E m⟩ ∧ W w m := by
  obtain ⟨cs, rfl, _⟩ := hv
  obtain ⟨fuel, hf⟩ := ht
  obtain ⟨m, e, hw⟩ := h H enc w base spare held fuel _ _ hf
  refine ⟨m, ?_, hw⟩
  congr 1
  exact Array.ext' (by simpa [Value.cells] using e)
/-! ### Slices -/
theorem exists_list {α : Type} (d : α) {Q : Nat → α → Prop} : ∀ {n : Nat}, (∀ i, i < n → ∃ m, Q i m) → ∃ l : List α, l.length = n ∧ ∀ i, i < n → Q i (l.getD i d)
  | 0, _ => ⟨[], rfl, fun i h => by omega⟩
  | n + 1, h => by
    obtain ⟨l, hl, hq⟩ := exists_list d (Q := Q) (n := n) (fun i hi => h i (by omega))
    obtain ⟨m, hm⟩ := h n (by omega)
    refine ⟨l ++ [m], by simp [hl], fun i hi => ?_⟩
    by_cases e : i < n
    · have := hq i e
      rw [List.getD_eq_getElem?_getD] at this ⊢
      rwa [List.getElem?_append_left (by omega)]
    · obtain rfl : i = n := by omega
      rw [List.getD_eq_getElem?_getD, List.getElem?_append_right (by omega), hl]
      simpa using hm
theorem op_slice {T : Ec α} (hT : Opn P T.t T.E W) (hz : P.cellsOf T.t = T.z) (ht : P.underlying t = some (.slice T.t)) {H : Type} {enc : TypeId × Value → H} {w : World} {base : Nat} {spare : Nat → Bool} {held : Bool} {fuel : Nat} {cs : List Value} {x : DataW H × List MemPlace}
    (h : DataW.trod enc P w base spare held fuel t cs = some x) :
    (cs = [.slice none 0 0] ∧ x = (.nil, [])) ∨ ∃ (a : Addr) (cap : Nat) (l : List α) (es rs : List (DataW H)) (ps : List MemPlace), cs = [.slice (some a) l.length cap] ∧ l.length ≤ cap ∧ cap ≤ maxLen ∧ x = (.slice es rs, ps) ∧ es.length = l.length ∧
      Rd w (some a) (em T l) ∧ ∀ y ∈ l, W w y := by
  rcases Go.Deep.open_slice ht h with h0 | ⟨a, len, cap, m, n, D, Pl, rfl, hb, hl, hm, hmm, rfl, hel⟩
  · exact .inl h0
  right
  have hle : len ≤ m := by rw [hmm]; split <;> omega
  obtain ⟨l, hll, hq⟩ := exists_list T.d (n := len) (Q := fun i y => W w y ∧ ∀ r u, (T.E y)[r]? = some u → w.cell? (a.add (i * T.z + r)) = some u) (fun i hi => by
    obtain ⟨cs', hc, htr⟩ := hel i (by omega)
    obtain ⟨y, rfl, hw⟩ := hT H enc w base spare held n cs' _ htr
    refine ⟨y, hw, fun r u hr => ?_⟩
    have hlt := (List.getElem?_eq_some_iff.1 hr).1
    rw [T.len] at hlt
    obtain ⟨_, _, h3⟩ := World.cells?_some hc
    have h4 := h3 r (by rw [hz]; exact hlt)
    rw [hz, add_add, hr] at h4
    exact h4)
  subst hll
  refine ⟨a, cap, l, _, _, _, rfl, hl, hm, rfl, by simp, fun j u hj => ⟨a, rfl, ?_⟩, fun y hy => ?_⟩
  · have hjl : j < l.length * T.z := by rw [← em_length]; exact (List.getElem?_eq_some_iff.1 hj).1
    have hi : j / T.z < l.length := Nat.div_lt_of_lt_mul (by rw [Nat.mul_comm]; exact hjl)
    have hr := Nat.mod_lt j T.pos
    have e : j / T.z * T.z + j % T.z = j := by rw [Nat.mul_comm]; exact Nat.div_add_mod j T.z
    have h5 := (em_sub T l hi).get (j % T.z) (by rw [T.len]; exact hr)
    rw [e, hj] at h5
    rw [← e]
    exact (hq _ hi).2 _ _ h5.symm
  · obtain ⟨i, hi, rfl⟩ := List.getElem_of_mem hy
    have := (hq i hi).1
    rw [List.getD_eq_getElem?_getD, List.getElem?_eq_getElem hi] at this
    exact this
/-- A slice as a part of a structure: its place and room, and what it holds. -/
theorem op_sl {T : Ec α} (hT : Opn P T.t T.E W) (hz : P.cellsOf T.t = T.z) (ht : P.underlying t = some (.slice T.t)) :
    Opn P t (fun c : (Option Addr × Nat) × List α => [Value.slice c.1.1 c.2.length c.1.2]) (fun w c => (Rd w c.1.1 (em T c.2) ∧ c.2.length ≤ c.1.2) ∧ c.2.length ≤ maxLen ∧ ∀ y ∈ c.2, W w y) := by
  intro H enc w base spare held fuel cs x h
  rcases op_slice hT hz ht h with ⟨rfl, _⟩ | ⟨a, cap, l, es, rs, ps, rfl, hle, hm, _, _, hR, hW⟩
  · exact ⟨((none, 0), []), rfl, ⟨Rd.nil _ _, Nat.le_refl _⟩, Nat.zero_le _, fun y hy => by cases hy⟩
  · exact ⟨((some a, cap), l), rfl, ⟨hR, hle⟩, Nat.le_trans hle hm, hW⟩
end
end Go.Proofs.Ythhhkphbhlafbaa.Ow
