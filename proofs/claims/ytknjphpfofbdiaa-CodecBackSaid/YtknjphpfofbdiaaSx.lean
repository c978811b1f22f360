/- A way to walk a function's text by small lemmas: the frame as a function of the slot's number, the call's own memory as a table of pieces; no condition. -/
import Derived.Below
import Derived.OwnWalk
import Derived.LoopN
import Derived.KernelRfl
import Derived.Orders
import Derived.RowKit3
import Derived.Laws.BytesArg
import Derived.Laws.BytesString
import Derived.Laws.AppendOwnNone
import Derived.Laws.Slices
import Derived.Laws.IdiomStrings
import Derived.Maps.AppendAt
import Derived.Lib.AppendStr
import Derived.Laws.Strings
set_option linter.unusedVariables false
namespace Go.Proofs.Ytknjphpfofbdiaa.Sx
open Go Go.RowKit

/-! ### 1. The frame -/
abbrev Fr := Nat → Value
def upd (f : Fr) (d : Nat) (v : Value) : Fr := fun t => cond (Nat.beq t d) v (f t)
def ev (f : Fr) : Operand → Value
  | .tmp t => f t
  | .const v => v
  | .global g => .pointer (some ⟨g, 0, none⟩)
  | .func k => .func (.func k) #[] #[]
structure At (n : Nat) (f : Fr) (a : Act) : Prop where
  size : a.tmps.size = n
  defers : a.defers = []
  get : ∀ t, a.tmps.getD t undef = f t
theorem At.eval {n : Nat} {f : Fr} {a : Act} (h : At n f a) : a.eval = ev f := by
  funext x
  cases x with
  | tmp t => exact h.get t
  | _ => rfl
theorem upd_same (f : Fr) (d : Nat) (v : Value) : upd f d v d = v := by simp [upd]
theorem upd_ne (f : Fr) {d t : Nat} (v : Value) (h : t ≠ d) : upd f d v t = f t := by
  have : Nat.beq t d = false := by
    rw [← Bool.not_eq_true]
    intro e
    exact h (Nat.eq_of_beq_eq_true e)
  simp [upd, this]
theorem At.put {n : Nat} {f : Fr} {a : Act} (h : At n f a) {d : Nat} (hd : Nat.blt d n = true) (v : Value) : At n (upd f d v) (a.put (some d) v) := by
  have hd : d < n := by simp [Nat.blt] at hd; omega
  refine ⟨by simpa [Act.put] using h.size, h.defers, fun t => ?_⟩
  have hs := h.size
  by_cases e : t = d
  · subst e
    rw [upd_same]
    simp [Act.put, Array.getD_eq_getD_getElem?, hs, hd]
  · rw [upd_ne f v e, ← h.get t]
    simp [Act.put, Array.getD_eq_getD_getElem?, Ne.symm e]
theorem At.put_none {n : Nat} {f : Fr} {a : Act} (h : At n f a) (v : Value) : At n f (a.put none v) := h

/-! ### 2. The call's own memory -/
structure Ck where
  key : List Nat
  holds : Nat → World → Prop
  stable : ∀ b w w', holds b w → (∀ k ∈ key, w'.heap[k]? = w.heap[k]?) → holds b w'
  bound : ∀ b w, holds b w → ∀ k ∈ key, b ≤ k ∧ k < w.heap.size
  lower : ∀ b b' w, holds b w → b' ≤ b → holds b' w
def Ck.obj (g : Nat) (o : Obj) : Ck where
  key := [g]
  holds := fun b w => b ≤ g ∧ w.heap[g]? = some o
  stable := fun b w w' h hk => ⟨h.1, by rw [hk g (by simp)]; exact h.2⟩
  bound := fun b w h k hk => by
    have hk : k = g := by simpa using hk
    subst hk
    exact ⟨h.1, (Array.getElem?_eq_some_iff.1 h.2).1⟩
  lower := fun b b' w h hb => ⟨Nat.le_trans hb h.1, h.2⟩
theorem owns_lower {w : World} {b b' : Nat} {e : TypeId} {sz n : Nat} {v : Value} {xs : List Value} (h : w.ownsRow b e sz v n xs) (hb : b' ≤ b) : w.ownsRow b' e sz v n xs := by
  obtain ⟨h1, h2⟩ := h
  refine ⟨h1, ?_⟩
  rcases h2 with h2 | ⟨g, cap, cur, hv, hg, r⟩
  · exact .inl h2
  · exact .inr ⟨g, cap, cur, hv, Nat.le_trans hb hg, r⟩
def Ck.row (e : TypeId) (sz : Nat) (v : Value) (n : Nat) (xs : List Value) : Ck where
  key := v.ownBlock.toList
  holds := fun b w => w.ownsRow b e sz v n xs
  stable := fun b w w' h hk => by
    obtain ⟨h1, h2⟩ := h
    refine ⟨h1, ?_⟩
    rcases h2 with h2 | ⟨g, cap, cur, rfl, hg, hh, r⟩
    · exact .inl h2
    · exact .inr ⟨g, cap, cur, rfl, hg, by rw [hk g (by simp [Value.ownBlock])]; exact hh, r⟩
  bound := fun b w h k hk => h.lt k (by simpa using hk)
  lower := fun b b' w h hb => owns_lower h hb

abbrev Sto := Nat → Option Ck
def s0 : Sto := fun _ => none
def sput (S : Sto) (t : Nat) (c : Option Ck) : Sto := fun u => cond (Nat.beq u t) c (S u)
theorem sput_same (S : Sto) (t : Nat) (c : Option Ck) : sput S t c t = c := by simp [sput]
theorem sput_ne (S : Sto) {t u : Nat} (c : Option Ck) (h : u ≠ t) : sput S t c u = S u := by
  have : Nat.beq u t = false := by
    rw [← Bool.not_eq_true]
    intro e
    exact h (Nat.eq_of_beq_eq_true e)
  simp [sput, this]
structure St (w0 : World) (S : Sto) (w : World) : Prop where
  below : Below w0.heap.size w0 w
  holds : ∀ t c, S t = some c → c.holds w0.heap.size w
  apart : ∀ t u c d, t ≠ u → S t = some c → S u = some d → ∀ k ∈ c.key, k ∉ d.key
theorem St.refl (w : World) : St w s0 w := ⟨Below.refl _ _, fun _ _ h => (by cases h), fun _ _ _ _ _ h => (by cases h)⟩
theorem St.sub {w0 w : World} {S S' : Sto} (h : St w0 S w) (hs : ∀ t c, S' t = some c → S t = some c) : St w0 S' w :=
  ⟨h.below, fun t c e => h.holds t c (hs t c e), fun t u c d hne e e' => h.apart t u c d hne (hs _ _ e) (hs _ _ e')⟩
theorem St.lt {w0 w : World} {S : Sto} (h : St w0 S w) {t : Nat} {c : Ck} (e : S t = some c) : ∀ k ∈ c.key, w0.heap.size ≤ k ∧ k < w.heap.size := fun k hk => c.bound _ _ (h.holds t c e) k hk
theorem below_all {w w' : World} (h : Below w.heap.size w w') (c : Ck) {b : Nat} (hc : c.holds b w) : c.holds b w' :=
  c.stable b w w' hc (fun k hk => h.block k (c.bound b w hc k hk).2)
/-- A step that turns nothing that was there. -/
theorem St.step {w0 w w' : World} {S : Sto} (h : St w0 S w) (hb : Below w.heap.size w w') : St w0 S w' :=
  ⟨h.below.trans (hb.mono h.below.size), fun t c e => below_all hb c (h.holds t c e), h.apart⟩
theorem St.new {w0 w w' : World} {S : Sto} (h : St w0 S w) (hb : Below w.heap.size w w') (t : Nat) {c : Ck} (hc : c.holds w.heap.size w') : St w0 (sput S t (some c)) w' := by
  have h' := h.step hb
  have hk := c.bound _ _ hc
  refine ⟨h'.below, fun u d e => ?_, fun u v d e hne hu hv k hkd hke => ?_⟩
  · by_cases hut : u = t
    · subst hut
      rw [sput_same] at e
      obtain rfl := Option.some.inj e
      exact c.lower _ _ _ hc h.below.size
    · rw [sput_ne S _ hut] at e
      exact h'.holds u d e
  · by_cases hut : u = t
    · subst hut
      rw [sput_same] at hu
      obtain rfl := Option.some.inj hu
      rw [sput_ne S _ (Ne.symm hne)] at hv
      have := (h.lt hv k hke).2
      have := (hk k hkd).1
      omega
    · rw [sput_ne S _ hut] at hu
      by_cases hvt : v = t
      · subst hvt
        rw [sput_same] at hv
        obtain rfl := Option.some.inj hv
        have := (h.lt hu k hkd).2
        have := (hk k hke).1
        omega
      · rw [sput_ne S _ hvt] at hv
        exact h.apart u v d e hne hu hv k hkd hke
/-- What a call has made stands beside what there was. -/
def sjoin (S : Sto) (off : Nat) (R : Sto) : Sto := fun u => cond (Nat.ble off u) (R (u - off)) (S u)
theorem St.join {w0 w w' : World} {S R : Sto} (h : St w0 S w) (hr : St w R w') (off : Nat) : St w0 (sjoin S off R) w' := by
  have h' := h.step hr.below
  have case : ∀ u d, sjoin S off R u = some d → (off ≤ u ∧ R (u - off) = some d) ∨ (u < off ∧ S u = some d) := by
    intro u d e
    unfold sjoin at e
    by_cases hu : off ≤ u
    · rw [Nat.ble_eq_true_of_le hu] at e
      exact .inl ⟨hu, e⟩
    · have : Nat.ble off u = false := by
        rw [← Bool.not_eq_true]
        intro e
        exact hu (Nat.le_of_ble_eq_true e)
      rw [this] at e
      exact .inr ⟨by omega, e⟩
  refine ⟨h'.below, fun u d e => ?_, fun u v d e hne hu hv k hkd hke => ?_⟩
  · rcases case u d e with ⟨_, e⟩ | ⟨_, e⟩
    · exact d.lower _ _ _ (hr.holds _ _ e) h.below.size
    · exact h'.holds u d e
  · rcases case u d hu with ⟨h1, hu⟩ | ⟨h1, hu⟩ <;> rcases case v e hv with ⟨h2, hv⟩ | ⟨h2, hv⟩
    · exact hr.apart _ _ d e (by omega) hu hv k hkd hke
    · have := (hr.lt hu k hkd).1
      have := (h.lt hv k hke).2
      omega
    · have := (h.lt hu k hkd).2
      have := (hr.lt hv k hke).1
      omega
    · exact h.apart u v d e hne hu hv k hkd hke
/-- One piece is written. -/
theorem St.set {w0 w w' : World} {S : Sto} (h : St w0 S w) {t : Nat} {c c' : Ck} (hc : S t = some c) (hos : w'.os = w.os) (htp : w'.tape = w.tape) (hout : w'.output = w.output) (hsz : w.heap.size ≤ w'.heap.size)
    (hw : ∀ k, k < w.heap.size → k ∉ c.key → w'.heap[k]? = w.heap[k]?) (hc' : c'.holds w0.heap.size w') (hk : ∀ k ∈ c'.key, k ∈ c.key ∨ w.heap.size ≤ k) : St w0 (sput S t (some c')) w' := by
  have hlt := h.lt hc
  have oth : ∀ u d, u ≠ t → S u = some d → d.holds w0.heap.size w' := fun u d hne e =>
    d.stable _ _ _ (h.holds u d e) (fun k hkd => hw k (h.lt e k hkd).2 (fun hkc => h.apart u t d c hne e hc k hkd hkc))
  refine ⟨h.below.trans ⟨hos, htp, hout, hsz, fun k hkk => hw k (Nat.lt_of_lt_of_le hkk h.below.size) (fun hkc => by have := (hlt k hkc).1; omega)⟩, fun u d e => ?_, fun u v d e hne hu hv k hkd hke => ?_⟩
  · by_cases hut : u = t
    · subst hut
      rw [sput_same] at e
      obtain rfl := Option.some.inj e
      exact hc'
    · rw [sput_ne S _ hut] at e
      exact oth u d hut e
  · by_cases hut : u = t
    · subst hut
      rw [sput_same] at hu
      obtain rfl := Option.some.inj hu
      rw [sput_ne S _ (Ne.symm hne)] at hv
      rcases hk k hkd with h1 | h1
      · exact h.apart u v c e hne hc hv k h1 hke
      · have := (h.lt hv k hke).2
        omega
    · rw [sput_ne S _ hut] at hu
      by_cases hvt : v = t
      · subst hvt
        rw [sput_same] at hv
        obtain rfl := Option.some.inj hv
        rcases hk k hke with h1 | h1
        · exact h.apart u v d c hne hu hc k hkd h1
        · have := (h.lt hu k hkd).2
          omega
      · rw [sput_ne S _ hvt] at hv
        exact h.apart u v d e hne hu hv k hkd hke

/-! ### 3. Operations one behind the other -/
def Ls (P : Program) (Q : Exit → Act → World → Prop) (n : Nat) (ops : Array Oper) (l : List Oper) (f : Fr) (w0 : World) (S : Sto) : Prop := ∀ a w, At n f a → St w0 S w → wpList P ops Q l a w
def Cs (P : Program) (Q : Exit → Act → World → Prop) (n : Nat) (c : Code) (f : Fr) (w0 : World) (S : Sto) : Prop := ∀ a w, At n f a → St w0 S w → Code.wp P c Q a w
section
variable {P : Program} {Q : Exit → Act → World → Prop} {n : Nat} {ops : Array Oper} {rest : List Oper} {o : Oper} {f : Fr} {w0 : World} {S : Sto} {d : Nat} {v : Value}
theorem ls_op (hg : o.guard = none) (h : ∀ a w, At n f a → St w0 S w → o.wp P a w (wpList P ops Q rest) Q) : Ls P Q n ops (o :: rest) f w0 S := fun a w ha hs =>
  wpList_plain hg fun K hK => Oper.wp_mono hK (h a w ha hs)
theorem op_wp {a : Act} {w : World} (ha : At n f a) {K : Act → World → Prop} (h : o.upon P a K Q ((execOp (ev f) o).run P w)) : o.wp P a w K Q := by
  unfold Oper.wp
  rw [ha.eval]
  exact h
/-- A value, the world as it was. -/
theorem ls_val (hg : o.guard = none) (hd : o.dst = some d) (hn : Nat.blt d n = true) (hr : ∀ w, (execOp (ev f) o).run P w = .ok (.value v) w) (h : Ls P Q n ops rest (upd f d v) w0 S) : Ls P Q n ops (o :: rest) f w0 S :=
  ls_op hg fun a w ha hs => op_wp ha (by rw [hr w]; show wpList P ops Q rest (a.put o.dst v) w; rw [hd]; exact h _ _ (ha.put hn v) hs)
/-- The same, read out of memory. -/
theorem ls_read (hg : o.guard = none) (hd : o.dst = some d) (hn : Nat.blt d n = true) (hr : ∀ w, St w0 S w → (execOp (ev f) o).run P w = .ok (.value v) w) (h : Ls P Q n ops rest (upd f d v) w0 S) : Ls P Q n ops (o :: rest) f w0 S :=
  ls_op hg fun a w ha hs => op_wp ha (by rw [hr w hs]; show wpList P ops Q rest (a.put o.dst v) w; rw [hd]; exact h _ _ (ha.put hn v) hs)
/-- A new block. -/
theorem ls_new (hg : o.guard = none) (hd : o.dst = some d) (hn : Nat.blt d n = true) (t : Nat) (mk : Nat → Value) (ob : Obj) (hr : ∀ w, (execOp (ev f) o).run P w = .ok (.value (mk w.heap.size)) (w.alloc ob))
    (h : ∀ g, Ls P Q n ops rest (upd f d (mk g)) w0 (sput S t (some (Ck.obj g ob)))) : Ls P Q n ops (o :: rest) f w0 S :=
  ls_op hg fun a w ha hs => op_wp ha (by
    rw [hr w]
    show wpList P ops Q rest (a.put o.dst _) _
    rw [hd]
    exact h w.heap.size _ _ (ha.put hn _) (hs.new ((Below.refl _ _).alloc (Nat.le_refl _) ob) t ⟨Nat.le_refl _, heap_alloc_new w ob⟩))
theorem ls_nil {y : Code} (h : Cs P Q n y f w0 S) : Ls P (Exit.then (Code.wp P y Q) Q) n ops [] f w0 S := fun a w ha hs => h a w ha hs
theorem ls_nil' {K : Act → World → Prop} (h : ∀ a w, At n f a → St w0 S w → K a w) : Ls P (Exit.then K Q) n ops [] f w0 S := fun a w ha hs => h a w ha hs
/-- A test's answer is laid into its slot. -/
theorem ls_know {l : List Oper} {b c : Bool} (e : b = c) (t : Nat) (hf : f t = .bool b) (h : Ls P Q n ops l (upd f t (.bool c)) w0 S) : Ls P Q n ops l f w0 S := by
  have : f = upd f t (.bool c) := by
    funext u
    by_cases hu : u = t
    · subst hu; rw [upd_same, hf, e]
    · rw [upd_ne f _ hu]
  rw [this]; exact h
theorem cs_know {y : Code} {b c : Bool} (e : b = c) (t : Nat) (hf : f t = .bool b) (h : Cs P Q n y (upd f t (.bool c)) w0 S) : Cs P Q n y f w0 S := by
  have : f = upd f t (.bool c) := by
    funext u
    by_cases hu : u = t
    · subst hu; rw [upd_same, hf, e]
    · rw [upd_ne f _ hu]
  rw [this]; exact h
/-- A guarded operation. -/
theorem yielded_of {a : Act} {j t : Nat} {b : Bool} (ha : At n f a) (ht : (ops[j]?).bind (·.dst) = some t) (hn : Nat.blt t n = true) (hf : f t = .bool b) : yielded ops a.tmps j = some b := by
  have hlt : t < a.tmps.size := by have := ha.size; simp [Nat.blt] at hn; omega
  have h1 : a.tmps[t]? = some (.bool b) := by
    have h2 := ha.get t
    rw [hf, Array.getD_eq_getD_getElem?, Array.getElem?_eq_getElem hlt, Option.getD_some] at h2
    rw [Array.getElem?_eq_getElem hlt, h2]
  simp only [yielded, ht, Option.bind_some, h1]
theorem ls_on {j t : Nat} {b : Bool} (hgd : o.guard = some (j, b)) (ht : (ops[j]?).bind (·.dst) = some t) (hn : Nat.blt t n = true) (hf : f t = .bool b) (h : Ls P Q n ops ({ o with guard := none } :: rest) f w0 S) : Ls P Q n ops (o :: rest) f w0 S := fun a w ha hs => by
  have h1 := h a w ha hs
  have hw : Region.wanted o (yielded ops a.tmps) = true := by simp [Region.wanted, hgd, yielded_of ha ht hn hf]
  unfold wpList at h1 ⊢
  rw [if_pos (by simp [Region.wanted])] at h1
  rw [if_pos hw]
  exact h1
theorem ls_off {j t : Nat} {b c : Bool} (hgd : o.guard = some (j, b)) (ht : (ops[j]?).bind (·.dst) = some t) (hn : Nat.blt t n = true) (hf : f t = .bool c) (hbc : (c == b) = false) (hd : o.dst = some d) (hdn : Nat.blt d n = true) (h : Ls P Q n ops rest (upd f d undef) w0 S) : Ls P Q n ops (o :: rest) f w0 S := fun a w ha hs => by
  have hw : Region.wanted o (yielded ops a.tmps) = false := by
    simp only [Region.wanted, hgd, yielded_of ha ht hn hf]
    cases b <;> cases c <;> simp_all
  unfold wpList
  rw [if_neg (by rw [hw]; decide), hd]
  exact h _ _ (ha.put hdn _) hs
theorem ls_off0 {j t : Nat} {b c : Bool} (hgd : o.guard = some (j, b)) (ht : (ops[j]?).bind (·.dst) = some t) (hn : Nat.blt t n = true) (hf : f t = .bool c) (hbc : (c == b) = false) (hd : o.dst = none) (h : Ls P Q n ops rest f w0 S) : Ls P Q n ops (o :: rest) f w0 S := fun a w ha hs => by
  have hw : Region.wanted o (yielded ops a.tmps) = false := by
    simp only [Region.wanted, hgd, yielded_of ha ht hn hf]
    cases b <;> cases c <;> simp_all
  unfold wpList
  rw [if_neg (by rw [hw]; decide), hd]
  exact h _ _ ha hs
/-! ### 4. Code -/
theorem cs_seq {x y : Code} (h : Cs P (Exit.then (Code.wp P y Q) Q) n x f w0 S) : Cs P Q n (.seq x y) f w0 S := fun a w ha hs => wp_seq (h a w ha hs)
theorem cs_region {id : Nat} {l : List Oper} (h : Ls P Q n l.toArray l f w0 S) : Cs P Q n (.region id l.toArray false) f w0 S := fun a w ha hs => wp_region_lit (h a w ha hs)
theorem cs_skip (h : ∀ a w, At n f a → St w0 S w → Q .normal a w) : Cs P Q n .skip f w0 S := fun a w ha hs => wp_skip (h a w ha hs)
theorem cs_exit {id : Nat} (h : ∀ a w, At n f a → St w0 S w → Q (.exit id) a w) : Cs P Q n (.exit id) f w0 S := fun a w ha hs => wp_exit (h a w ha hs)
theorem cs_ret (h : ∀ a w, At n f a → St w0 S w → Q .ret a w) : Cs P Q n .ret f w0 S := fun a w ha hs => wp_ret (h a w ha hs)
theorem cs_block {id : Nat} {x : Code} (h : Cs P (Exit.inBlock id Q) n x f w0 S) : Cs P Q n (.block id x) f w0 S := fun a w ha hs => wp_block (h a w ha hs)
theorem cs_true {c : Operand} {x y : Code} (hc : ev f c = .bool true) (h : Cs P Q n x f w0 S) : Cs P Q n (.cond c x y) f w0 S := fun a w ha hs => wp_cond_true (by rw [ha.eval]; exact hc) (h a w ha hs)
theorem cs_false {c : Operand} {x y : Code} (hc : ev f c = .bool false) (h : Cs P Q n y f w0 S) : Cs P Q n (.cond c x y) f w0 S := fun a w ha hs => wp_cond_false (by rw [ha.eval]; exact hc) (h a w ha hs)
/-- Ways meet again: what holds of the frame and of the memory then. -/
theorem cs_cut {x y : Code} (I : Fr → Sto → Prop) (h1 : Cs P (Exit.then (fun a w => ∃ f' S', I f' S' ∧ At n f' a ∧ St w0 S' w) Q) n x f w0 S) (h2 : ∀ f' S', I f' S' → Cs P Q n y f' w0 S') : Cs P Q n (.seq x y) f w0 S := fun a w ha hs =>
  wp_seq (wp_mono (h1 a w ha hs) (fun e a w q => by
    cases e with
    | normal => obtain ⟨f', S', hI, ha', hs'⟩ := q; exact h2 f' S' hI a w ha' hs'
    | _ => exact q))
theorem ls_meet {I : Fr → Sto → Prop} {K : Exit → Act → World → Prop} (hI : I f S) : Ls P (Exit.then (fun a w => ∃ f' S', I f' S' ∧ At n f' a ∧ St w0 S' w) K) n ops [] f w0 S := fun a w ha hs => ⟨f, S, hI, ha, hs⟩
/-- A loop, by rounds that are counted down: what holds at each round's head. -/
theorem cs_loop {x : Code} (I : Nat → Fr → Sto → Prop) (k : Nat) (h0 : I k f S) (hz : ∀ f S, ¬ I 0 f S)
    (hr : ∀ k f S, I (k + 1) f S → Cs P (Exit.then (fun a w => ∃ k' f' S', k' ≤ k ∧ I k' f' S' ∧ At n f' a ∧ St w0 S' w) Q) n x f w0 S) : Cs P Q n (.loop x) f w0 S := fun a w ha hs => by
  have key : ∀ m k, k ≤ m → ∀ f S a w, I k f S → At n f a → St w0 S w → Code.rounds P x Q m a w := by
    intro m
    induction m with
    | zero =>
      intro k hk f S a w hI
      have hk0 : k = 0 := by omega
      subst hk0
      exact (hz _ _ hI).elim
    | succ m ih =>
      intro k hk f S a w hI ha hs
      cases k with
      | zero => exact (hz _ _ hI).elim
      | succ k =>
        rw [rounds_succ]
        refine wp_mono (hr k f S hI a w ha hs) (fun e a w q => ?_)
        cases e with
        | normal =>
          obtain ⟨k', f', S', hk', hI', ha', hs'⟩ := q
          exact ih k' (by omega) f' S' a w hI' ha' hs'
        | _ => exact q
  exact wp_loop_rounds k (key k k (Nat.le_refl _) f S a w h0 ha hs)
/-! ### 5. A function's begin and end -/
theorem enter {fid : FuncId} {fn : Func} {c : Code} {args : Array Value} {w : World} {R : Ending → World → Prop} (hf : P.funcs[fid]? = some fn) (hb : fn.body = some c) (hn : Nat.beq fn.ntmps n = true) (ha : Nat.ble args.size n = true)
    (h : Cs P (bodyPost P fn R) n c (fun t => args.getD t undef) w s0) : Calls P fid args w R := by
  have hn := Nat.eq_of_beq_eq_true hn
  have ha := Nat.le_of_ble_eq_true ha
  refine calls_of_wp hf hb (h _ _ ⟨?_, rfl, fun t => ?_⟩ (St.refl w))
  · simp; omega
  · by_cases ht : t < args.size
    · simp [Array.getD_eq_getD_getElem?, Array.getElem?_append, ht]
    · simp only [Array.getD_eq_getD_getElem?, Array.getElem?_append, ht, if_false, Array.getElem?_replicate]
      split <;> simp [ht]
theorem end1 {fn : Func} {R : Ending → World → Prop} {t : Nat} (hres : fn.results = #[.tmp t]) (h : ∀ w, St w0 S w → R (.returned (f t)) w) : ∀ a w, At n f a → St w0 S w → bodyPost P fn R .ret a w := fun a w ha hs =>
  bodyPost_ret (results_tmp hres _ _ _) ha.defers (by rw [ha.get t]; exact h w hs)
theorem end2 {fn : Func} {R : Ending → World → Prop} {t u : Nat} (hres : fn.results = #[.tmp t, .tmp u]) (h : ∀ w, St w0 S w → R (.returned (.tuple #[f t, f u])) w) : ∀ a w, At n f a → St w0 S w → bodyPost P fn R .ret a w := fun a w ha hs =>
  bodyPost_ret (results_tmp2 hres _ _ _) ha.defers (by rw [ha.get t, ha.get u]; exact h w hs)
theorem end3 {fn : Func} {R : Ending → World → Prop} {t u x : Nat} (hres : fn.results = #[.tmp t, .tmp u, .tmp x]) (h : ∀ w, St w0 S w → R (.returned (.tuple #[f t, f u, f x])) w) : ∀ a w, At n f a → St w0 S w → bodyPost P fn R .ret a w := fun a w ha hs =>
  bodyPost_ret (v := .tuple #[a.tmps.getD t undef, a.tmps.getD u undef, a.tmps.getD x undef]) (by simp [results, hres]) ha.defers (by rw [ha.get t, ha.get u, ha.get x]; exact h w hs)
theorem end0 {fn : Func} {R : Ending → World → Prop} (hres : fn.results = #[]) (h : ∀ w, St w0 S w → R (.returned (.tuple #[])) w) : ∀ a w, At n f a → St w0 S w → bodyPost P fn R .ret a w := fun a w ha hs =>
  bodyPost_ret (results_none hres _ _ _) ha.defers (h w hs)
end
/-! ### 6. Slices whose elements take one cell each: E tells an element's cell -/
def Rd (w : World) (A : Option Addr) (cs : List Value) : Prop := ∀ j u, cs[j]? = some u → ∃ ad, A = some ad ∧ w.cell? (ad.add j) = some u
theorem cell_step {w w' : World} (hb : Below w.heap.size w w') {a : Addr} {v : Value} (h : w.cell? a = some v) : w'.cell? a = some v := (hb.cell (World.block_lt_of_cell? w a h)).trans h
theorem Rd.step {w w' : World} {A : Option Addr} {cs : List Value} (h : Rd w A cs) (hb : Below w.heap.size w w') : Rd w' A cs := fun j u hj =>
  let ⟨ad, e, hc⟩ := h j u hj
  ⟨ad, e, cell_step hb hc⟩
theorem add_add (a : Addr) (i j : Nat) : (a.add i).add j = a.add (i + j) := by
  unfold Addr.add
  by_cases hi : i = 0
  · subst hi; simp
  · by_cases hj : j = 0
    · subst hj; simp
    · rw [if_neg hi, if_neg hj, if_neg (by omega)]
      simp [Nat.add_assoc]
theorem Rd.take {w : World} {A : Option Addr} {cs : List Value} (h : Rd w A cs) (m : Nat) : Rd w A (cs.take m) := fun j u hj => h j u (by
  rw [List.getElem?_take] at hj
  split at hj
  · exact hj
  · cases hj)
theorem Rd.cut {w : World} {A : Option Addr} {cs : List Value} (h : Rd w A cs) (m : Nat) (c : Prop) [Decidable c] (hc : c → cs.length ≤ m) : Rd w (if c then A else A.map (·.add m)) (cs.drop m) := fun j u hj => by
  rw [List.getElem?_drop] at hj
  obtain ⟨ad, e, h1⟩ := h _ _ hj
  have hlt : m + j < cs.length := (List.getElem?_eq_some_iff.1 hj).1
  rw [if_neg (fun h2 => by have := hc h2; omega)]
  exact ⟨ad.add m, by rw [e]; rfl, by rw [add_add]; exact h1⟩
theorem Rd.nil (w : World) (A : Option Addr) : Rd w A [] := fun j u hj => by simp at hj
theorem add0 (g j : Nat) : (⟨g, 0, none⟩ : Addr).add j = ⟨g, j, none⟩ := by unfold Addr.add; split <;> simp_all
theorem rd_row {w : World} {b : Nat} {e : TypeId} {sz n : Nat} {A : Option Addr} {m c : Nat} {xs : List Value} (h : w.ownsRow b e sz (.slice A m c) n xs) : Rd w A xs := fun j u hj => by
  rcases h.2 with ⟨_, hn⟩ | ⟨g, cap, cur, hv, hg, hh, r⟩
  · have hl := h.1
    rw [hn, Nat.zero_mul] at hl
    rw [List.eq_nil_of_length_eq_zero hl] at hj
    simp at hj
  · injection hv with hA _ _
    subst hA
    exact ⟨_, rfl, h.cells rfl j u hj⟩
def aggD : TypeDesc → Bool
  | .struct _ => true
  | .array _ _ => true
  | _ => false
def en {α : Type} (E : α → Value) (l : List α) : List Value := l.map E
theorem en_length {α : Type} (E : α → Value) (l : List α) : (en E l).length = l.length := by simp [en]
theorem en_append {α : Type} (E : α → Value) (l m : List α) : en E (l ++ m) = en E l ++ en E m := by simp [en]
theorem en_take {α : Type} (E : α → Value) (l : List α) (m : Nat) : en E (l.take m) = (en E l).take m := by simp [en]
theorem en_drop {α : Type} (E : α → Value) (l : List α) (m : Nat) : en E (l.drop m) = (en E l).drop m := by simp [en]
theorem en_get {α : Type} (E : α → Value) (l : List α) (d : α) {j : Nat} (h : j < l.length) : (en E l)[j]? = some (E (l.getD j d)) := by
  simp [en, List.getElem?_eq_getElem h, List.getD_eq_getElem?_getD]
def Ck.sl {α : Type} (e : TypeId) (E : α → Value) (A : Option Addr) (c : Nat) (l : List α) : Ck := Ck.row e 1 (.slice A l.length c) l.length (en E l)
section
variable {P : Program} {Q : Exit → Act → World → Prop} {n : Nat} {ops : Array Oper} {rest : List Oper} {o : Oper} {f : Fr} {w0 : World} {S : Sto} {d : Nat} {v : Value} {α : Type} {E : α → Value} {A : Option Addr} {c : Nat} {l : List α} {t e : TypeId}
theorem St.rd {w : World} (h : St w0 S w) {k : Nat} (hk : S k = some (Ck.sl e E A c l)) : Rd w A (en E l) := rd_row (h.holds k _ hk)
theorem St.old {w : World} (h : St w0 S w) {cs : List Value} (hr : Rd w0 A cs) : Rd w A cs := fun j u hj =>
  let ⟨ad, ee, hc⟩ := hr j u hj
  ⟨ad, ee, (h.below.cell (World.block_lt_of_cell? w0 _ hc)).trans hc⟩
theorem St.cap {w : World} (h : St w0 S w) {k : Nat} (hk : S k = some (Ck.sl e E A c l)) : l.length ≤ c := by
  have h1 := h.holds k _ hk
  rcases h1.2 with ⟨hv, hn⟩ | ⟨g, cap, cur, hv, hg, hh, hc, r⟩
  · injection hv with _ _ hc; omega
  · injection hv with _ _ hc'; omega
theorem lift_v {s : Sem Value} {w w' : World} (h : s.run P w = .ok v w') : (s >>= fun r => pure (Next.value r)).run P w = .ok (.value v) w' := by
  simp [h, Result.andThen]
theorem run_idx {w : World} (ht : P.underlying t = some (.slice e)) (hz : (P.info? e).map (·.size) = some 1) {a : Addr} {m : Nat} {k : IntKind} {i : Int} (h0 : 0 ≤ i) (h1 : i < m) : (Instr.indexAt t (.slice (some a) m c) (.int k i)).run P w = .ok (.pointer (some (a.add i.toNat))) w := by
  obtain ⟨q, hq, hq1⟩ := Option.map_eq_some_iff.1 hz
  simp [Instr.indexAt, run_underlying ht, asIntOf, h0, h1, sizeOf, typeInfo, hq, hq1]
theorem run_load1 {w : World} {de : TypeDesc} (hu : P.underlying t = some de) (hd : aggD de = false) {a : Addr} (h : w.cell? a = some v) : (Instr.loadAt t (.pointer (some a))).run P w = .ok v w := by
  cases de <;> first | (cases hd; done) | simp [Instr.loadAt, Instr.sureAddr, loadVar, isAgg, run_underlying hu, load, Sem.run, h]
/-- x[i]: its place. -/
theorem ls_idx (R : World → Prop) (hg : o.guard = none) (hd : o.dst = some d) (hn : Nat.blt d n = true) {x ix : Operand} {k : IntKind} {i : Int} (ho : o.op = .indexAddr t x ix) (hx : ev f x = .slice A l.length c) (hi : ev f ix = .int k i) (ht : P.underlying t = some (.slice e)) (hz : (P.info? e).map (·.size) = some 1)
    (h0 : 0 ≤ i) (h1 : i < (l.length : Int)) (hR : ∀ w, St w0 S w → Rd w A (en E l)) (dv : α)
    (h : ∀ ad, A = some ad → (∀ w, St w0 S w → w.cell? (ad.add i.toNat) = some (E (l.getD i.toNat dv))) → Ls P Q n ops rest (upd f d (.pointer (some (ad.add i.toNat)))) w0 S) : Ls P Q n ops (o :: rest) f w0 S := fun a w ha hs => by
  obtain ⟨ad, e1, _⟩ := hR w hs _ _ (en_get E l dv (j := i.toNat) (by omega))
  have hc : ∀ w, St w0 S w → w.cell? (ad.add i.toNat) = some (E (l.getD i.toNat dv)) := fun w hs => by
    obtain ⟨ad', e2, h2⟩ := hR w hs _ _ (en_get E l dv (j := i.toNat) (by omega))
    rw [e1] at e2
    injection e2 with e2
    subst e2
    exact h2
  refine ls_val hg hd hn (v := .pointer (some (ad.add i.toNat))) (fun w => ?_) (h ad e1 hc) a w ha hs
  unfold execOp
  rw [ho]
  refine lift_v ?_
  rw [hx, hi, e1]
  exact run_idx ht hz h0 h1
/-- An element's place, ahead of the code. -/
theorem idx_at {w : World} {i : Int} (hR : Rd w A (en E l)) (h0 : 0 ≤ i) (h1 : i < (l.length : Int)) (dv : α) : ∃ ad, A = some ad ∧ w.cell? (ad.add i.toNat) = some (E (l.getD i.toNat dv)) := hR _ _ (en_get E l dv (j := i.toNat) (by omega))
theorem rd_at {w : World} {i : Int} {ad : Addr} (hA : A = some ad) (h0 : 0 ≤ i) (h1 : i < (l.length : Int)) (dv : α) (hR : Rd w A (en E l)) : w.cell? (ad.add i.toNat) = some (E (l.getD i.toNat dv)) := by
  obtain ⟨ad', e, h⟩ := idx_at hR h0 h1 dv
  rw [hA] at e
  obtain rfl := Option.some.inj e
  exact h
theorem ls_at {l : List α} {l' : List Oper} {tk : Nat} {cc : Nat} {i : Int} (hS : S tk = some (Ck.sl e E A cc l)) (h0 : 0 ≤ i) (h1 : i < (l.length : Int)) (dv : α) (h : ∀ ad, A = some ad → Ls P Q n ops l' f w0 S) : Ls P Q n ops l' f w0 S := fun a w ha hs => by
  obtain ⟨ad, e, _⟩ := idx_at (hs.rd hS) h0 h1 dv
  exact h ad e a w ha hs
theorem cs_at {l : List α} {y : Code} {tk : Nat} {cc : Nat} {i : Int} (hS : S tk = some (Ck.sl e E A cc l)) (h0 : 0 ≤ i) (h1 : i < (l.length : Int)) (dv : α) (h : ∀ ad, A = some ad → Cs P Q n y f w0 S) : Cs P Q n y f w0 S := fun a w ha hs => by
  obtain ⟨ad, e, _⟩ := idx_at (hs.rd hS) h0 h1 dv
  exact h ad e a w ha hs
theorem ls_idxv (hg : o.guard = none) (hd : o.dst = some d) (hn : Nat.blt d n = true) {x ix : Operand} {k : IntKind} {i : Int} {ad : Addr} (hA : A = some ad) (ho : o.op = .indexAddr t x ix) (hx : ev f x = .slice A l.length c) (hi : ev f ix = .int k i) (ht : P.underlying t = some (.slice e)) (hz : (P.info? e).map (·.size) = some 1)
    (h0 : 0 ≤ i) (h1 : i < (l.length : Int)) (h : Ls P Q n ops rest (upd f d (.pointer (some (ad.add i.toNat)))) w0 S) : Ls P Q n ops (o :: rest) f w0 S :=
  ls_val hg hd hn (v := .pointer (some (ad.add i.toNat))) (fun w => by
    unfold execOp
    rw [ho]
    refine lift_v ?_
    rw [hx, hi, hA]
    exact run_idx ht hz h0 h1) h
theorem ls_load (hg : o.guard = none) (hd : o.dst = some d) (hn : Nat.blt d n = true) {x : Operand} {a0 : Addr} {de : TypeDesc} (ho : o.op = .load t x) (hx : ev f x = .pointer (some a0)) (hu : P.underlying t = some de) (hde : aggD de = false)
    (hc : ∀ w, St w0 S w → w.cell? a0 = some v) (h : Ls P Q n ops rest (upd f d v) w0 S) : Ls P Q n ops (o :: rest) f w0 S :=
  ls_read hg hd hn (fun w hs => by
    unfold execOp
    rw [ho]
    refine lift_v ?_
    rw [hx]
    exact run_load1 hu hde (hc w hs)) h
theorem run_bound {w : World} {k : IntKind} {a y : Nat} {code : BoundsCode} (h : a ≤ y) : (Instr.sliceBound (.int k (a : Int)) y code).run P w = .ok a w := by
  simp only [Instr.sliceBound, asIntOf, pure_bind]
  rw [if_pos ⟨by omega, by omega⟩]
  simp
/-- x[lo:hi], of what lies there. -/
theorem run_cut {w : World} (ht : P.underlying t = some (.slice e)) (hz : (P.info? e).map (·.size) = some 1) {m : Nat} {lo hi : Option Value} {a b : Nat}
    (hlo : (lo = none ∧ a = 0) ∨ ∃ k, lo = some (.int k (a : Int))) (hhi : (hi = none ∧ b = m) ∨ ∃ k, hi = some (.int k (b : Int))) (h1 : a ≤ b) (h2 : b ≤ m) (h3 : m ≤ c) :
    (Instr.sliceAt t (.slice A m c) lo hi none).run P w = .ok (.slice (if c = a then A else A.map (·.add a)) (b - a) (c - a)) w := by
  obtain ⟨q, hq, hq1⟩ := Option.map_eq_some_iff.1 hz
  have hb : (Instr.sliceBounds true m c lo hi none).run P w = .ok (a, b, c) w := by
    rcases hlo with ⟨rfl, rfl⟩ | ⟨kl, rfl⟩ <;> rcases hhi with ⟨rfl, rfl⟩ | ⟨kh, rfl⟩
    · simp [Instr.sliceBounds]
    · simp [Instr.sliceBounds, run_bound (show b ≤ c by omega)]
    · simp [Instr.sliceBounds, run_bound h1]
    · simp [Instr.sliceBounds, run_bound h1, run_bound (show b ≤ c by omega)]
  simp [Instr.sliceAt, run_underlying ht, Instr.slice, hb, sizeOf, typeInfo, hq, hq1]
/-- A cut of a slice: some slice again, that is read as the cut. -/
theorem ls_cut (hg : o.guard = none) (hd : o.dst = some d) (hn : Nat.blt d n = true) {x : Operand} {lo hi : Option Operand} {a b : Nat} (ho : o.op = .slice t x lo hi none) (hx : ev f x = .slice A l.length c) (ht : P.underlying t = some (.slice e)) (hz : (P.info? e).map (·.size) = some 1)
    (hlo : (lo.map (ev f) = none ∧ a = 0) ∨ ∃ k, lo.map (ev f) = some (.int k (a : Int))) (hhi : (hi.map (ev f) = none ∧ b = l.length) ∨ ∃ k, hi.map (ev f) = some (.int k (b : Int))) (h1 : a ≤ b) (h2 : b ≤ l.length) (h3 : l.length ≤ c)
    (hR : Rd w0 A (en E l)) {m : List α} (hm : m = (l.take b).drop a)
    (h : ∀ A' c', m.length ≤ c' → Rd w0 A' (en E m) → Ls P Q n ops rest (upd f d (.slice A' m.length c')) w0 S) : Ls P Q n ops (o :: rest) f w0 S := by
  have hml : m.length = b - a := by rw [hm]; simp; omega
  have hR' : Rd w0 (if c = a then A else A.map (·.add a)) (en E m) := by
    rw [hm, en_drop, en_take]
    exact (hR.take b).cut a (c = a) (fun e => by simp [en_length]; omega)
  refine ls_val hg hd hn (v := .slice (if c = a then A else A.map (·.add a)) (b - a) (c - a)) (fun w => ?_) (by rw [← hml]; exact h _ _ (by rw [hml]; omega) hR')
  unfold execOp
  rw [ho]
  refine lift_v ?_
  rw [hx]
  exact run_cut ht hz hlo hhi h1 h2 h3
/-- The same, ahead of the code. -/
theorem cut_at (a b : Nat) (h1 : a ≤ b) (h2 : b ≤ l.length) (h3 : l.length ≤ c) (hR : Rd w0 A (en E l)) {m : List α} (hm : m = (l.take b).drop a) : ∃ A' c', Value.slice (if c = a then A else A.map (·.add a)) (b - a) (c - a) = .slice A' m.length c' ∧ m.length ≤ c' ∧ Rd w0 A' (en E m) := by
  have hml : m.length = b - a := by rw [hm]; simp; omega
  refine ⟨_, _, by rw [hml], by omega, ?_⟩
  rw [hm, en_drop, en_take]
  exact (hR.take b).cut a (c = a) (fun e => by simp [en_length]; omega)
theorem ls_cutv (hg : o.guard = none) (hd : o.dst = some d) (hn : Nat.blt d n = true) {x : Operand} {lo hi : Option Operand} {a b : Nat} {A' : Option Addr} {c' k : Nat} (ho : o.op = .slice t x lo hi none) (hx : ev f x = .slice A l.length c) (ht : P.underlying t = some (.slice e)) (hz : (P.info? e).map (·.size) = some 1)
    (hlo : (lo.map (ev f) = none ∧ a = 0) ∨ ∃ k, lo.map (ev f) = some (.int k (a : Int))) (hhi : (hi.map (ev f) = none ∧ b = l.length) ∨ ∃ k, hi.map (ev f) = some (.int k (b : Int))) (h1 : a ≤ b) (h2 : b ≤ l.length) (h3 : l.length ≤ c)
    (he : Value.slice (if c = a then A else A.map (·.add a)) (b - a) (c - a) = .slice A' k c')
    (h : Ls P Q n ops rest (upd f d (.slice A' k c')) w0 S) : Ls P Q n ops (o :: rest) f w0 S := by
  refine ls_val hg hd hn (v := .slice (if c = a then A else A.map (·.add a)) (b - a) (c - a)) (fun w => ?_) (by rw [he]; exact h)
  unfold execOp
  rw [ho]
  refine lift_v ?_
  rw [hx]
  exact run_cut ht hz hlo hhi h1 h2 h3
/-- string(x). -/
theorem run_str {w : World} {dst : TypeId} (ht : P.underlying t = some (.slice e)) (he : P.underlying e = some (.int .u8)) (hd : P.underlying dst = some .string) {l : List Int} (hR : Rd w A (en (Value.int .u8) l)) : (convert t dst (.slice A l.length c)).run P w = .ok (.string (strOfNums l)) w := by
  cases A with
  | none =>
    have hl : l = [] := by
      cases l with
      | nil => rfl
      | cons x r => obtain ⟨ad, e1, _⟩ := hR 0 _ rfl; cases e1
    subst hl
    rw [run_convert_bytes_nil w t e ht he _ _ dst hd]
    rfl
  | some a =>
    have hl : (loadCells a l.length).run P w = .ok (l.map (Value.int .u8)).toArray w := by
      have := run_loadCells_list (P := P) w a (l.map (Value.int .u8)) (fun j u hj => by
        obtain ⟨ad, e1, h1⟩ := hR j u hj
        injection e1 with e1
        subst e1
        exact h1)
      simpa using this
    rw [run_convert_bytes_string w t dst e (some a) l.length c ht he hd]
    rw [run_bytesToString w a l.length c l hl, foldl_push_bytes]
    simp [strOfNums, ByteArray.empty, ByteArray.emptyWithCapacity]
    rfl
theorem ls_str (hg : o.guard = none) (hd : o.dst = some d) (hn : Nat.blt d n = true) {x : Operand} {dst : TypeId} (ho : o.op = .convert t dst x) {l : List Int} (hx : ev f x = .slice A l.length c) (ht : P.underlying t = some (.slice e)) (he : P.underlying e = some (.int .u8)) (hdt : P.underlying dst = some .string)
    (hR : ∀ w, St w0 S w → Rd w A (en (Value.int .u8) l)) (h : Ls P Q n ops rest (upd f d (.string (strOfNums l))) w0 S) : Ls P Q n ops (o :: rest) f w0 S :=
  ls_read hg hd hn (fun w hs => by
    unfold execOp
    rw [ho]
    refine lift_v ?_
    rw [hx]
    exact run_str ht he hdt (hR w hs)) h
end
/-! ### 7. append -/
section
variable {P : Program} {Q : Exit → Act → World → Prop} {n : Nat} {ops : Array Oper} {rest : List Oper} {o : Oper} {f : Fr} {w0 : World} {S : Sto} {d : Nat} {v : Value} {α : Type} {E : α → Value} {A B : Option Addr} {c cb : Nat} {l m : List α} {t u e : TypeId} {z : Value} {bytes : Nat}
theorem run_app {w : World} (base : Nat) (ty : TypeId) (ht : P.underlying t = some (.slice e)) (hi : (P.info? e).map (fun i => (i.zero, i.size, i.bytes)) = some (some z, 1, bytes)) (hz : z.cells.size = 1) (hown : w.ownsRow base e 1 (.slice A l.length c) l.length (en E l))
    (hR : Rd w B (en E m)) (hE : ∀ x, (E x).oneCell' = true) (hbytes : (l.length + m.length) * bytes ≤ 140737488355328) (hb0 : 0 < bytes) (hbase : base ≤ w.heap.size) :
    ∃ v' w', (Builtin.append_ #[t, t] ty #[.slice A l.length c, .slice B m.length cb]).run P w = .ok v' w' ∧ w'.ownsRow base e 1 v' (l ++ m).length (en E (l ++ m)) ∧ w.grownBy w' (Value.slice A l.length c).ownBlock ∧ (v'.ownBlock = (Value.slice A l.length c).ownBlock ∨ v'.ownBlock = some w.heap.size) := by
  obtain ⟨i, hi, hzz⟩ := Option.map_eq_some_iff.1 hi
  simp only [Prod.mk.injEq] at hzz
  obtain ⟨hz0, hz1, hz2⟩ := hzz
  have hlen : l.length + m.length ≤ 140737488355328 := Nat.le_trans (Nat.le_mul_of_pos_right _ hb0) hbytes
  rw [List.length_append, en_append]
  cases B with
  | none =>
    have hm : m = [] := by
      cases m with
      | nil => rfl
      | cons x r => obtain ⟨ad, e1, _⟩ := hR 0 _ rfl; cases e1
    subst hm
    refine ⟨_, w, ?_, by simpa [en] using hown, ⟨rfl, rfl, rfl, Nat.le_refl _, fun _ _ _ => rfl⟩, .inl rfl⟩
    rcases hown.2 with ⟨hv, hn⟩ | ⟨g, cap, cur, hv, _, _, hnc, _⟩
    · injection hv with hA hl hc
      subst hA
      simp [Builtin.append_, run_underlying ht, sizeOf, typeInfo, hi, Builtin.lenOf, Builtin.firstCells, hn, hc]
    · injection hv with hA hl hc
      subst hA
      subst hc
      simp [Builtin.append_, run_underlying ht, sizeOf, typeInfo, hi, Builtin.lenOf, Builtin.firstCells, hnc, storeCells]
  | some ad =>
    have hn : ∀ j u, (en E m)[j]? = some u → w.cell? (ad.add j) = some u := fun j u hj => by
      obtain ⟨ad', e1, h1⟩ := hR j u hj
      injection e1 with e1
      subst e1
      exact h1
    obtain ⟨v', w', h1, h2, h3, _, h5⟩ := run_append_own_at (P := P) w base t ty e i z 1 bytes ht hi hz0 hz1 hz2 hz (by omega) (.slice A l.length c) l.length (en E l) hown ad m.length cb (en E m) (by simp [en_length]) hn
      (by intro u hu; simp only [en, List.mem_map] at hu; obtain ⟨x, _, rfl⟩ := hu; exact hE x) (by simp only [maxLen]; omega) hbytes hbase
    exact ⟨v', w', h1, h2, h3, h5⟩
theorem owns_slice {w : World} {b : Nat} {sz k : Nat} {xs : List Value} (h : w.ownsRow b e sz v k xs) : ∃ A c, v = .slice A k c := by
  rcases h.2 with ⟨rfl, rfl⟩ | ⟨g, cap, cur, rfl, _⟩
  · exact ⟨none, 0, rfl⟩
  · exact ⟨_, cap, rfl⟩
/-- Behind an append: the row, and what holds of the memory. -/
theorem St.app {w w' : World} {k : Nat} (h : St w0 S w) (hk : S k = some (Ck.sl e E A c l)) {A' : Option Addr} {c' : Nat} {m : List α} (h2 : w'.ownsRow w0.heap.size e 1 (.slice A' m.length c') m.length (en E m)) (h3 : w.grownBy w' (Value.slice A l.length c).ownBlock)
    (h5 : (Value.slice A' m.length c').ownBlock = (Value.slice A l.length c).ownBlock ∨ (Value.slice A' m.length c').ownBlock = some w.heap.size) : St w0 (sput S k (some (Ck.sl e E A' c' m))) w' :=
  h.set hk h3.os h3.tape h3.output h3.size (fun q hq hne => h3.block q hq (fun e1 => hne (by simp [Ck.sl, Ck.row, ← e1]))) h2 (fun q hq => by
    have hq : (Value.slice A' m.length c').ownBlock = some q := by simpa [Ck.sl, Ck.row] using hq
    rcases h5 with h5 | h5
    · left
      rw [hq] at h5
      simp [Ck.sl, Ck.row, ← h5]
    · right
      rw [hq] at h5
      injection h5 with h5
      omega)
theorem ls_app (k : Nat) (hg : o.guard = none) (hd : o.dst = some d) (hn : Nat.blt d n = true) {s x : Operand} (ho : o.op = .call { callee := .builtin .append, args := #[s, x], argTypes := #[t, t] }) (hs : ev f s = .slice A l.length c) (hS : S k = some (Ck.sl e E A c l)) (hx : ev f x = .slice B m.length cb)
    (hR : ∀ w, St w0 S w → Rd w B (en E m)) (ht : P.underlying t = some (.slice e)) (hi : (P.info? e).map (fun i => (i.zero, i.size, i.bytes)) = some (some z, 1, bytes)) (hz : z.cells.size = 1) (hE : ∀ x, (E x).oneCell' = true) (hb0 : 0 < bytes) (hbytes : (l.length + m.length) * bytes ≤ 140737488355328)
    (h : ∀ A' c', Ls P Q n ops rest (upd f d (.slice A' (l ++ m).length c')) w0 (sput S k (some (Ck.sl e E A' c' (l ++ m))))) : Ls P Q n ops (o :: rest) f w0 S :=
  ls_op hg fun a w ha hst => by
    obtain ⟨v', w', h1, h2, h3, h5⟩ := run_app (P := P) (cb := cb) w0.heap.size o.type ht hi hz (hst.holds k _ hS) (hR w hst) hE hbytes hb0 hst.below.size
    obtain ⟨A', c', rfl⟩ := owns_slice h2
    refine op_wp ha ?_
    unfold execOp
    simp only [ho, resolve, invoke, builtin, Sem.run_bind, Sem.run_pure, Result.andThen_ok, List.map_toArray, List.map_cons, List.map_nil, hs, hx, h1]
    show wpList P ops Q rest (a.put o.dst _) w'
    rw [hd]
    exact h A' c' _ _ (ha.put hn _) (hst.app hS h2 h3 h5)
/-- A nil slice as a row of the call's own. -/
theorem St.nilrow {w : World} (h : St w0 S w) (k : Nat) (e : TypeId) (E : α → Value) : St w0 (sput S k (some (Ck.sl e E none 0 []))) w :=
  h.new (Below.refl _ _) k (c := Ck.sl e E none 0 []) ⟨by simp [en], .inl ⟨rfl, rfl⟩⟩
theorem ls_nilrow {lo : List Oper} (k : Nat) (e : TypeId) (E : α → Value) (h : Ls P Q n ops lo f w0 (sput S k (some (Ck.sl e E none 0 [])))) : Ls P Q n ops lo f w0 S := fun a w ha hs => h a w ha (hs.nilrow k e E)
theorem cs_nilrow {y : Code} (k : Nat) (e : TypeId) (E : α → Value) (h : Cs P Q n y f w0 (sput S k (some (Ck.sl e E none 0 [])))) : Cs P Q n y f w0 S := fun a w ha hs => h a w ha (hs.nilrow k e E)
/-- A literal slice. -/
theorem ls_lit (k : Nat) (hg : o.guard = none) (hd : o.dst = some d) (hn : Nat.blt d n = true) (l : List α) (hl : l.length ≤ maxLen) (hr : ∀ w, (execOp (ev f) o).run P w = .ok (.value (.slice (some ⟨w.heap.size, 0, none⟩) l.length l.length)) (w.alloc (.cells ⟨en E l⟩ e)))
    (h : ∀ g, Ls P Q n ops rest (upd f d (.slice (some ⟨g, 0, none⟩) l.length l.length)) w0 (sput S k (some (Ck.sl e E (some ⟨g, 0, none⟩) l.length l)))) : Ls P Q n ops (o :: rest) f w0 S :=
  ls_op hg fun a w ha hs => op_wp ha (by
    rw [hr w]
    show wpList P ops Q rest (a.put o.dst _) _
    rw [hd]
    exact h w.heap.size _ _ (ha.put hn _) (hs.new ((Below.refl _ _).alloc (Nat.le_refl _) _) k ⟨by simp [en_length], .inr ⟨w.heap.size, l.length, _, rfl, Nat.le_refl _, heap_alloc_new w _, Nat.le_refl _, hl, by simp [en_length], by rw [Nat.mul_one, ← en_length E l]; exact List.take_length⟩⟩))
/-- append(x, s...), s a text. -/
theorem run_apps {w : World} (base : Nat) (ty : TypeId) (ht : P.underlying t = some (.slice e)) (hu : P.underlying u = some .string) (hi : (P.info? e).map (fun i => (i.zero, i.size, i.bytes)) = some (some (.int .u8 0), 1, 1)) {l : List Int} (s : ByteArray) (hown : w.ownsRow base e 1 (.slice A l.length c) l.length (en (Value.int .u8) l))
    (hbytes : l.length + s.size ≤ 140737488355328) (hbase : base ≤ w.heap.size) :
    ∃ v' w', (Builtin.append_ #[t, u] ty #[.slice A l.length c, .string s]).run P w = .ok v' w' ∧ w'.ownsRow base e 1 v' (l.length + s.size) (en (Value.int .u8) l ++ Lib.strCells s) ∧ w.grownBy w' (Value.slice A l.length c).ownBlock ∧ (v'.ownBlock = (Value.slice A l.length c).ownBlock ∨ v'.ownBlock = some w.heap.size) := by
  obtain ⟨i, hi, hzz⟩ := Option.map_eq_some_iff.1 hi
  simp only [Prod.mk.injEq] at hzz
  obtain ⟨hz0, hz1, hz2⟩ := hzz
  obtain ⟨v', w', hr, h2, h3, h4⟩ := Lib.run_append_own_string (P := P) w base t u ty e i ht hu hi hz0 hz1 hz2 (.slice A l.length c) l.length (en (Value.int .u8) l) hown s (by simp only [maxLen]; omega) hbytes hbase
  refine ⟨v', w', hr, h2, h3, ?_⟩
  rcases hown.2 with ⟨hv, hn⟩ | ⟨g, cap, cur, hv, hbg, hgg, hnc, hcm, hcs, htake⟩
  · by_cases hm : s.size = 0
    · left; rw [h4.2 ⟨hv, hm⟩, hv]
    · right
      have hr2 := run_append_nil_string (P := P) w t u ty e i (.int .u8 0) ht hu hi hz0 s (by omega) (by omega) (by rw [hz2]; omega)
      rw [hv] at hr
      rw [hr] at hr2
      injection hr2 with h6 _
      rw [h6]
      rfl
  · rw [hv] at hr
    have hcs' : cur.size = cap := by simpa using hcs
    by_cases hroom : l.length + s.size ≤ cap
    · have hr2 := Lib.run_append_room_string (P := P) w t u ty e i ht hu hi hz1 g l.length cap cur hgg s hroom (by omega)
      rw [hr] at hr2
      injection hr2 with h6 _
      left; rw [h6, hv]; rfl
    · have holds : ∀ j u, (en (Value.int .u8) l)[j]? = some u → w.cell? ((⟨g, 0, none⟩ : Addr).add j) = some u := by
        have := hown.cells (g := g) (by rw [hv]; rfl)
        exact this
      have hr2 := Lib.run_append_grow_string (P := P) w t u ty e i (.int .u8 0) ht hu hi hz0 ⟨g, 0, none⟩ l.length cap (en (Value.int .u8) l) (by rw [hz1]; simp [en_length]) holds s (by omega) (by omega) (by rw [hz2]; exact growslice_fits (by omega) (by omega))
      rw [hr] at hr2
      injection hr2 with h6 _
      right; rw [h6]; rfl
def bl (s : ByteArray) : List Int := s.data.toList.map fun b => (b.toNat : Int)
theorem bl_length (s : ByteArray) : (bl s).length = s.size := by simp [bl]
theorem bl_cells (s : ByteArray) : Lib.strCells s = en (Value.int .u8) (bl s) := by simp [Lib.strCells, en, bl]
theorem ls_apps (k : Nat) (hg : o.guard = none) (hd : o.dst = some d) (hn : Nat.blt d n = true) {s x : Operand} (ho : o.op = .call { callee := .builtin .append, args := #[s, x], argTypes := #[t, u] }) {l : List Int} (hs : ev f s = .slice A l.length c) (hS : S k = some (Ck.sl e (Value.int .u8) A c l)) {y : ByteArray} (hx : ev f x = .string y)
    (ht : P.underlying t = some (.slice e)) (hu : P.underlying u = some .string) (hi : (P.info? e).map (fun i => (i.zero, i.size, i.bytes)) = some (some (.int .u8 0), 1, 1)) (hbytes : l.length + y.size ≤ 140737488355328)
    (h : ∀ A' c', Ls P Q n ops rest (upd f d (.slice A' (l ++ bl y).length c')) w0 (sput S k (some (Ck.sl e (Value.int .u8) A' c' (l ++ bl y))))) : Ls P Q n ops (o :: rest) f w0 S :=
  ls_op hg fun a w ha hst => by
    obtain ⟨v', w', h1, h2, h3, h5⟩ := run_apps (P := P) w0.heap.size o.type ht hu hi y (hst.holds k _ hS) hbytes hst.below.size
    have hl : (l ++ bl y).length = l.length + y.size := by rw [List.length_append, bl_length]
    rw [← hl, bl_cells, ← en_append] at h2
    obtain ⟨A', c', rfl⟩ := owns_slice h2
    refine op_wp ha ?_
    unfold execOp
    simp only [ho, resolve, invoke, builtin, Sem.run_bind, Sem.run_pure, Result.andThen_ok, List.map_toArray, List.map_cons, List.map_nil, hs, hx, h1]
    show wpList P ops Q rest (a.put o.dst _) w'
    rw [hd]
    exact h A' c' _ _ (ha.put hn _) (hst.app hS h2 h3 h5)
/-! ### 8. A call -/
theorem ls_call {X : Type} (val : X → Value) (R : X → Sto) (off : Nat) {fid : FuncId} {vals : Array Value} (hg : o.guard = none) (hd : o.dst = some d) (hn : Nat.blt d n = true) (hr : ∀ w, (execOp (ev f) o).run P w = .ok (.enter fid vals) w)
    (hc : ∀ w, St w0 S w → Calls P fid vals w fun e w' => ∃ x, e = .returned (val x) ∧ St w (R x) w') (h : ∀ x, Ls P Q n ops rest (upd f d (val x)) w0 (sjoin S off (R x))) : Ls P Q n ops (o :: rest) f w0 S :=
  ls_op hg fun a w ha hs => op_wp ha (by
    rw [hr w]
    show Calls P fid vals w _
    refine (hc w hs).mono ?_
    rintro e w' ⟨x, rfl, hx⟩
    show wpList P ops Q rest (a.put o.dst (val x)) w'
    rw [hd]
    exact h x _ _ (ha.put hn _) (hs.join hx off))
end
/-! ### 9. What a print holds on to -/
theorem bind_some {α β : Type} {x : Option α} {g : α → Option β} {r : β} (h : x.bind g = some r) : ∃ t, x = some t ∧ g t = some r := by
  cases x with
  | none => cases h
  | some t => exact ⟨t, rfl, h⟩
theorem ite_t {α : Type} {c : Prop} [Decidable c] {a b r : α} (hc : c) (h : (if c then a else b) = r) : a = r := by rwa [if_pos hc] at h
theorem ite_f {α : Type} {c : Prop} [Decidable c] {a b r : α} (hc : ¬ c) (h : (if c then a else b) = r) : b = r := by rwa [if_neg hc] at h
theorem ite_need {α : Type} {c : Prop} [Decidable c] {a : Option α} {r : α} (h : (if c then a else none) = some r) : c ∧ a = some r := by
  by_cases hc : c
  · exact ⟨hc, by rwa [if_pos hc] at h⟩
  · rw [if_neg hc] at h; cases h
theorem upd_id {f : Fr} {t : Nat} {v : Value} (h : f t = v) : f = upd f t v := by
  funext u
  by_cases hu : u = t
  · subst hu; rw [upd_same, h]
  · rw [upd_ne f _ hu]
theorem fr_next {f g : Fr} {t : Nat} {v : Value} (h : f = g) (hv : f t = v) : f = upd g t v := by subst h; exact upd_id hv
def Sub (S' S : Sto) : Prop := ∀ t c, S' t = some c → S t = some c
theorem sub_nil (S : Sto) : Sub s0 S := fun t c h => by cases h
theorem sub_put {S' S : Sto} {t : Nat} {c : Ck} (h : S t = some c) (hs : Sub S' S) : Sub (sput S' t (some c)) S := fun u d hu => by
  by_cases e : u = t
  · subst e; rw [sput_same] at hu; rw [h]; exact hu
  · rw [sput_ne S' _ e] at hu; exact hs u d hu
section
variable {P : Program} {Q : Exit → Act → World → Prop} {n : Nat} {ops : Array Oper} {f : Fr} {w0 : World} {S : Sto}
theorem ls_again {K : Exit → Act → World → Prop} {I : Nat → Fr → Sto → Prop} {k : Nat} (k' : Nat) (S' : Sto) (hk : k' ≤ k) (hI : I k' f S') (hs : Sub S' S) : Ls P (Exit.then (fun a w => ∃ k' f' S', k' ≤ k ∧ I k' f' S' ∧ At n f' a ∧ St w0 S' w) K) n ops [] f w0 S := fun a w ha h => ⟨k', f, S', hk, hI, ha, h.sub hs⟩
theorem ls_meet' {K : Exit → Act → World → Prop} {I : Fr → Sto → Prop} (S' : Sto) (hI : I f S') (hs : Sub S' S) : Ls P (Exit.then (fun a w => ∃ f' S', I f' S' ∧ At n f' a ∧ St w0 S' w) K) n ops [] f w0 S := fun a w ha h => ⟨f, S', hI, ha, h.sub hs⟩
theorem cs_sub {y : Code} (S' : Sto) (hs : Sub S' S) (h : Cs P Q n y f w0 S') : Cs P Q n y f w0 S := fun a w ha hh => h a w ha (hh.sub hs)
end
theorem dec_t {c : Prop} [Decidable c] (h : c) : decide c = true := decide_eq_true h
theorem dec_f {c : Prop} [Decidable c] (h : ¬ c) : decide c = false := decide_eq_false h
/-! ### 10. What follows, by the ways out -/
def Qn (Q : Exit → Act → World → Prop) (n : Nat) (f : Fr) (w0 : World) (S : Sto) : Prop := ∀ a w, At n f a → St w0 S w → Q .normal a w
def Qx (id : Nat) (Q : Exit → Act → World → Prop) (n : Nat) (f : Fr) (w0 : World) (S : Sto) : Prop := ∀ a w, At n f a → St w0 S w → Q (.exit id) a w
def Qr (Q : Exit → Act → World → Prop) (n : Nat) (f : Fr) (w0 : World) (S : Sto) : Prop := ∀ a w, At n f a → St w0 S w → Q .ret a w
section
variable {P : Program} {Q : Exit → Act → World → Prop} {n : Nat} {ops : Array Oper} {f : Fr} {w0 : World} {S : Sto} {K : Act → World → Prop} {id id' : Nat} {fn : Func} {R : Ending → World → Prop} {α : Type} {E : α → Value} {e : TypeId}
theorem ls_end (h : Qn Q n f w0 S) : Ls P Q n ops [] f w0 S := h
theorem cs_skip' (h : Qn Q n f w0 S) : Cs P Q n .skip f w0 S := cs_skip h
theorem cs_exit' (h : Qx id Q n f w0 S) : Cs P Q n (.exit id) f w0 S := cs_exit h
theorem cs_ret' (h : Qr Q n f w0 S) : Cs P Q n .ret f w0 S := cs_ret h
theorem qn_then {y : Code} (h : Cs P Q n y f w0 S) : Qn (Exit.then (Code.wp P y Q) Q) n f w0 S := h
theorem qn_block (h : Qn Q n f w0 S) : Qn (Exit.inBlock id Q) n f w0 S := h
theorem qx_then (h : Qx id Q n f w0 S) : Qx id (Exit.then K Q) n f w0 S := h
theorem qx_same (h : Qn Q n f w0 S) : Qx id (Exit.inBlock id Q) n f w0 S := fun a w ha hs => by
  show (if id = id then Q .normal a w else _)
  rw [if_pos rfl]
  exact h a w ha hs
theorem qx_other (hne : (id' == id) = false) (h : Qx id' Q n f w0 S) : Qx id' (Exit.inBlock id Q) n f w0 S := fun a w ha hs => by
  show (if id' = id then Q .normal a w else _)
  rw [if_neg (by simpa using hne)]
  exact h a w ha hs
theorem qr_then (h : Qr Q n f w0 S) : Qr (Exit.then K Q) n f w0 S := h
theorem qr_block (h : Qr Q n f w0 S) : Qr (Exit.inBlock id Q) n f w0 S := h
theorem qn_again {I : Nat → Fr → Sto → Prop} {k : Nat} (k' : Nat) (S' : Sto) (hk : k' ≤ k) (hI : I k' f S') (hs : Sub S' S) : Qn (Exit.then (fun a w => ∃ k' f' S', k' ≤ k ∧ I k' f' S' ∧ At n f' a ∧ St w0 S' w) Q) n f w0 S := fun a w ha h => ⟨k', f, S', hk, hI, ha, h.sub hs⟩
theorem qn_meet {I : Fr → Sto → Prop} (S' : Sto) (hI : I f S') (hs : Sub S' S) : Qn (Exit.then (fun a w => ∃ f' S', I f' S' ∧ At n f' a ∧ St w0 S' w) Q) n f w0 S := fun a w ha h => ⟨f, S', hI, ha, h.sub hs⟩
theorem qn_nilrow (k : Nat) (e : TypeId) (E : α → Value) (h : Qn Q n f w0 (sput S k (some (Ck.sl e E none 0 [])))) : Qn Q n f w0 S := fun a w ha hs => h a w ha (hs.nilrow k e E)
theorem qr_nilrow (k : Nat) (e : TypeId) (E : α → Value) (h : Qr Q n f w0 (sput S k (some (Ck.sl e E none 0 [])))) : Qr Q n f w0 S := fun a w ha hs => h a w ha (hs.nilrow k e E)
theorem qr_end0 (hres : fn.results = #[]) (h : ∀ w, St w0 S w → R (.returned (.tuple #[])) w) : Qr (bodyPost P fn R) n f w0 S := end0 hres h
theorem qr_end1 {t : Nat} (hres : fn.results = #[.tmp t]) (h : ∀ w, St w0 S w → R (.returned (f t)) w) : Qr (bodyPost P fn R) n f w0 S := end1 hres h
theorem qr_end2 {t u : Nat} (hres : fn.results = #[.tmp t, .tmp u]) (h : ∀ w, St w0 S w → R (.returned (.tuple #[f t, f u])) w) : Qr (bodyPost P fn R) n f w0 S := end2 hres h
theorem qr_end3 {t u x : Nat} (hres : fn.results = #[.tmp t, .tmp u, .tmp x]) (h : ∀ w, St w0 S w → R (.returned (.tuple #[f t, f u, f x])) w) : Qr (bodyPost P fn R) n f w0 S := end3 hres h
theorem St.res1 {w : World} (h : St w0 S w) {t : Nat} {c : Ck} (ht : S t = some c) : St w0 (sput s0 0 (some c)) w := by
  refine ⟨h.below, fun u d e => ?_, fun u v d e hne hu hv => ?_⟩
  · by_cases hu : u = 0
    · subst hu; rw [sput_same] at e; obtain rfl := Option.some.inj e; exact h.holds t _ ht
    · rw [sput_ne s0 _ hu] at e; cases e
  · by_cases h1 : u = 0
    · by_cases h2 : v = 0
      · omega
      · rw [sput_ne s0 _ h2] at hv; cases hv
    · rw [sput_ne s0 _ h1] at hu; cases hu
end
section
variable {P : Program} {Q : Exit → Act → World → Prop} {n : Nat} {ops : Array Oper} {rest : List Oper} {o : Oper} {f : Fr} {w0 : World} {S : Sto} {d : Nat}
def shlv (k : IntKind) (x y : Int) : Int := k.wrap (x * 2 ^ min y.toNat k.bits)
def shrv (k : IntKind) (x y : Int) : Int := Int.fdiv x (2 ^ min y.toNat k.bits)
theorem ls_shiftl {k yk : IntKind} {x y : Int} (hg : o.guard = none) (hd : o.dst = some d) (hn : Nat.blt d n = true) (hr : ∀ w, (execOp (ev f) o).run P w = (Op.shift .shl k x yk y >>= fun r => pure (Next.value r)).run P w) (h0 : 0 ≤ y) (h : Ls P Q n ops rest (upd f d (.int k (shlv k x y))) w0 S) : Ls P Q n ops (o :: rest) f w0 S :=
  ls_val hg hd hn (fun w => by
    rw [hr w]
    refine lift_v ?_
    unfold Op.shift
    rw [if_neg (by omega)]
    rfl) h
theorem ls_shiftr {k yk : IntKind} {x y : Int} (hg : o.guard = none) (hd : o.dst = some d) (hn : Nat.blt d n = true) (hr : ∀ w, (execOp (ev f) o).run P w = (Op.shift .shr k x yk y >>= fun r => pure (Next.value r)).run P w) (h0 : 0 ≤ y) (h : Ls P Q n ops rest (upd f d (.int k (shrv k x y))) w0 S) : Ls P Q n ops (o :: rest) f w0 S :=
  ls_val hg hd hn (fun w => by
    rw [hr w]
    refine lift_v ?_
    unfold Op.shift
    rw [if_neg (by omega)]
    rfl) h
theorem ls_quo {k : IntKind} {x y : Int} (hg : o.guard = none) (hd : o.dst = some d) (hn : Nat.blt d n = true) (hr : ∀ w, (execOp (ev f) o).run P w = (Op.intDiv .quo k x y >>= fun r => pure (Next.value r)).run P w) (h0 : y ≠ 0) (h : Ls P Q n ops rest (upd f d (.int k (IntKind.wrap k (Int.tdiv x y)))) w0 S) : Ls P Q n ops (o :: rest) f w0 S :=
  ls_val hg hd hn (fun w => by
    rw [hr w]
    refine lift_v ?_
    unfold Op.intDiv
    rw [if_neg h0]
    rfl) h
theorem ls_rem {k : IntKind} {x y : Int} (hg : o.guard = none) (hd : o.dst = some d) (hn : Nat.blt d n = true) (hr : ∀ w, (execOp (ev f) o).run P w = (Op.intDiv .rem k x y >>= fun r => pure (Next.value r)).run P w) (h0 : y ≠ 0) (h : Ls P Q n ops rest (upd f d (.int k (Int.tmod x y))) w0 S) : Ls P Q n ops (o :: rest) f w0 S :=
  ls_val hg hd hn (fun w => by
    rw [hr w]
    refine lift_v ?_
    unfold Op.intDiv
    rw [if_neg h0]
    rfl) h
end
/-! ### 11. Texts -/
def bt (s : ByteArray) (i : Int) : Int := (bl s).getD i.toNat 0
section
variable {P : Program} {Q : Exit → Act → World → Prop} {n : Nat} {ops : Array Oper} {rest : List Oper} {o : Oper} {f : Fr} {w0 : World} {S : Sto} {d : Nat} {t : TypeId}
theorem ls_sidx (hg : o.guard = none) (hd : o.dst = some d) (hn : Nat.blt d n = true) {x ix : Operand} {k : IntKind} {i : Int} {s : ByteArray} (ho : o.op = .index t x ix) (hx : ev f x = .string s) (hi : ev f ix = .int k i) (ht : P.underlying t = some .string)
    (h0 : 0 ≤ i) (h1 : i < (s.size : Int)) (h : Ls P Q n ops rest (upd f d (.int .u8 (bt s i))) w0 S) : Ls P Q n ops (o :: rest) f w0 S :=
  ls_val hg hd hn (fun w => by
    unfold execOp
    rw [ho]
    refine lift_v ?_
    rw [hx, hi, run_index_string w t s k i ht]
    have hlt : i.toNat < s.size := by omega
    have hlt' : i.toNat < s.data.size := hlt
    have e : bt s i = ((s[i.toNat]'hlt).toNat : Int) := by
      simp only [bt, bl, List.getD_eq_getElem?_getD, List.getElem?_map, Array.getElem?_toList, Array.getElem?_eq_getElem hlt', Option.map_some, Option.getD_some]
      rfl
    rw [e, dif_pos ⟨h0, by omega⟩]) h
end
/-! ### 12. A value gets a name -/
def lt {α β : Type} (a : α) (g : α → β) : β := g a
theorem lt_some {α β : Type} {a : α} {g : α → β} {r : β} (h : lt a g = r) : ∃ y, a = y ∧ g y = r := ⟨a, rfl, h⟩
section
variable {P : Program} {Q : Exit → Act → World → Prop} {n : Nat} {ops : Array Oper} {l : List Oper} {f : Fr} {w0 : World} {S : Sto}
theorem ls_ren (t : Nat) {v v' : Value} (hf : f t = v) (e : v = v') (h : Ls P Q n ops l (upd f t v') w0 S) : Ls P Q n ops l f w0 S := by
  have : f = upd f t v' := upd_id (hf.trans e)
  rw [this]; exact h
end
/-! ### 13. A region that draws its order: each operation is shown once, from what it waits for -/
def dirOf (o : Oper) : List Nat := (o.after.toList.filter (fun e => Region.binds .any e)).map (·.on)
def dstAt (ops : Array Oper) (j : Nat) : Option Nat := (ops[j]?).bind (·.dst)
/-- tab: what each operation waits for, by any chain. -/
def tabOk (ops : Array Oper) (tab : List (List Nat)) : Bool :=
  Nat.beq tab.length ops.size && (List.range ops.size).all fun i => match ops[i]? with
    | some o => (dirOf o).all (fun e => Nat.blt e i) && (tab.getD i []).all (fun m => (dirOf o).contains m || (dirOf o).any fun e => (tab.getD e []).contains m) && (dirOf o).all (fun e => (tab.getD i []).contains e)
    | none => false
/-- Each slot is written once. -/
def dstsOk (ops : Array Oper) : Bool := (List.range ops.size).all fun i => (List.range ops.size).all fun j => Nat.beq i j || match dstAt ops i, dstAt ops j with
  | some d, some e => !Nat.beq d e
  | _, _ => true
/-- Slot t is not yet written when i comes up: who writes it waits for i. -/
def lateOk (ops : Array Oper) (tab : List (List Nat)) (i t : Nat) : Bool := (List.range ops.size).all fun j => match dstAt ops j with
  | some d => !Nat.beq d t || Nat.beq j i || (tab.getD j []).contains i
  | none => true
def notIn (p : Nat) (ops : Array Oper) (t : Nat) : Bool := (List.range p).all fun j => match dstAt ops j with
  | some d => !Nat.beq d t
  | none => true
abbrev Spec := Nat → Value → Sto → Prop
def updo (f : Fr) (d : Option Nat) (v : Value) : Fr := match d with
  | some d => upd f d v
  | none => f
def QOp (sp : Value → Sto → Prop) (n : Nat) (f : Fr) (d : Option Nat) (w : World) : Exit → Act → World → Prop := fun e a' w' => e = .normal ∧ ∃ v R, sp v R ∧ At n (updo f d v) a' ∧ St w R w'
def sw (S : Sto) (off : Nat) (b : Nat → Bool) (Rs : Nat → Sto) : Sto := fun u => cond (Nat.blt u off) (S u) (cond (b ((u - off) / 8)) (Rs ((u - off) / 8) ((u - off) % 8)) none)
structure OpOk (P : Program) (n : Nat) (ops : Array Oper) (tab : List (List Nat)) (f : Fr) (w0 : World) (S : Sto) (off : Nat) (sp : Spec) (on : Nat → Bool) (i : Nat) : Prop where
  ok : ∀ o, ops[i]? = some o → ∀ (vs : Nat → Value) (Rs : Nat → Sto) (f' : Fr) (S' : Sto) (w : World),
    (∀ j, (tab.getD i []).contains j = true → sp j (vs j) (Rs j)) → (∀ j d, (tab.getD i []).contains j = true → dstAt ops j = some d → f' d = vs j) → (∀ t, lateOk ops tab i t = true → f' t = f t) →
    (∀ u, Nat.blt u off = true → S' u = S u) → (∀ j t, (tab.getD i []).contains j = true → t < 8 → S' (off + 8 * j + t) = Rs j t) → St w0 S' w →
    (∀ a, At n f' a → Region.wanted o (yielded ops a.tmps) = on i) ∧
    (on i = true → Ls P (QOp (sp i) n f' o.dst w) n ops [{ o with guard := none }] f' w s0) ∧ (on i = false → sp i undef s0)
theorem wp_mono2 {P : Program} {o : Oper} {a : Act} {w : World} {K K' : Act → World → Prop} {Q Q' : Exit → Act → World → Prop} (hk : ∀ a w, K a w → K' a w) (hq : ∀ e a w, e ≠ .normal → Q e a w → Q' e a w) (h : o.wp P a w K Q) : o.wp P a w K' Q' := by
  unfold Oper.wp at *
  generalize (execOp a.eval o).run P w = r at *
  have hl : LetsOut Q → LetsOut Q' := fun ⟨a, w, h⟩ => ⟨a, w, hq _ _ _ (by simp) h⟩
  cases r with
  | ok x w' =>
    cases x <;> simp only [Oper.upon] at h ⊢ <;>
      first
        | exact hk _ _ h
        | exact Calls.mono h (fun e w'' he => by cases e <;> first | exact hk _ _ he | exact hq _ _ _ (by simp) he | exact hl he)
        | exact Rows.mono h (fun _ _ he => hk _ _ he)
  | halt x w' => cases x <;> simp only [Oper.upon] at h ⊢ <;> first | exact hq _ _ _ (by simp) h | exact h
def up (b : Nat → Bool) (i : Nat) : Nat → Bool := fun j => Nat.beq j i || b j
theorem up_self (b : Nat → Bool) (i : Nat) : up b i i = true := by simp [up]
theorem beq_false {i j : Nat} (h : i ≠ j) : Nat.beq i j = false := by
  rw [← Bool.not_eq_true]
  intro e
  exact h (Nat.eq_of_beq_eq_true e)
theorem up_ne {b : Nat → Bool} {i j : Nat} (h : j ≠ i) : up b i j = b j := by simp [up, beq_false h]
theorem up_true {b : Nat → Bool} {i j : Nat} (h : up b i j = true) : j = i ∨ b j = true := by
  by_cases e : j = i
  · exact .inl e
  · rw [up_ne e] at h; exact .inr h
def lof (n : Nat) (b : Nat → Bool) : Array Bool := ((List.range n).map b).toArray
theorem lof_get {n j : Nat} {b : Nat → Bool} {d : Bool} : (lof n b).getD j d = if j < n then b j else d := by
  simp only [lof, Array.getD_eq_getD_getElem?, List.getElem?_toArray, List.getElem?_map]
  by_cases h : j < n
  · rw [List.getElem?_range h]; simp [h]
  · rw [List.getElem?_eq_none (by simp; omega)]; simp [h]
theorem lof_up {n i : Nat} {b : Nat → Bool} (hi : i < n) : (lof n b).setIfInBounds i true = lof n (up b i) := by
  apply Array.ext'
  simp only [lof, Array.toList_setIfInBounds]
  apply List.ext_getElem?
  intro j
  by_cases hj : j < n
  · by_cases e : i = j
    · subst e
      rw [List.getElem?_set_self (by simp; omega)]
      simp [List.getElem?_range hj, up_self]
    · rw [List.getElem?_set_ne e]
      simp [List.getElem?_range hj, up_ne (Ne.symm e)]
  · rw [List.getElem?_eq_none (by simp; omega), List.getElem?_eq_none (by simp; omega)]
theorem up_count {b : Nat → Bool} {i : Nat} : ∀ {O : List Nat}, O.Nodup → i ∈ O → b i = false → (O.filter fun j => !up b i j).length + 1 = (O.filter fun j => !b j).length
  | [], _, hi, _ => by cases hi
  | x :: r, hn, hi, hb => by
    rw [List.nodup_cons] at hn
    rcases List.mem_cons.1 hi with rfl | hi
    · have h1 : (r.filter fun j => !up b i j) = r.filter fun j => !b j := by
        refine List.filter_congr (fun j hj => ?_)
        rw [up_ne (fun e => hn.1 (by rw [← e]; exact hj))]
      rw [List.filter_cons, List.filter_cons]
      simp [up_self, hb, h1]
    · have hxi : x ≠ i := fun e => hn.1 (e ▸ hi)
      have h1 := up_count hn.2 hi hb
      rw [List.filter_cons, List.filter_cons, up_ne hxi]
      cases hbx : b x
      · simp only [Bool.not_false, if_true, List.length_cons]; omega
      · simpa using h1
section
variable {P : Program} {Q : Exit → Act → World → Prop} {n : Nat} {ops : Array Oper} {tab : List (List Nat)} {f : Fr} {w0 : World} {S : Sto} {off : Nat} {sp : Spec} {on : Nat → Bool}
theorem tab_row (ht : tabOk ops tab = true) {i : Nat} {o : Oper} (ho : ops[i]? = some o) : (∀ e ∈ dirOf o, e < i) ∧ (∀ m, (tab.getD i []).contains m = true → m ∈ dirOf o ∨ ∃ e ∈ dirOf o, (tab.getD e []).contains m = true) ∧ ∀ e ∈ dirOf o, (tab.getD i []).contains e = true := by
  simp only [tabOk, Bool.and_eq_true] at ht
  have h := List.all_eq_true.1 ht.2 i (List.mem_range.2 (Array.getElem?_eq_some_iff.1 ho).1)
  rw [ho] at h
  simp only [Bool.and_eq_true, List.all_eq_true, Bool.or_eq_true, List.any_eq_true] at h
  refine ⟨fun e he => by have := h.1.1 e he; simp [Nat.blt] at this; omega, fun m hm => ?_, fun e he => h.2 e he⟩
  rcases h.1.2 m (List.elem_iff.1 hm) with h1 | ⟨e, he, h1⟩
  · exact .inl (List.elem_iff.1 h1)
  · exact .inr ⟨e, he, h1⟩
def Inv (ops : Array Oper) (n : Nat) (tab : List (List Nat)) (f : Fr) (w0 : World) (S : Sto) (off : Nat) (sp : Spec) (b : Nat → Bool) (a : Act) (w : World) : Prop :=
  (∀ j, b j = true → j < ops.size ∧ ∀ m, (tab.getD j []).contains m = true → b m = true) ∧
  ∃ (vs : Nat → Value) (Rs : Nat → Sto) (f' : Fr), (∀ j, b j = true → sp j (vs j) (Rs j)) ∧ (∀ j d, b j = true → dstAt ops j = some d → f' d = vs j) ∧ (∀ t, (∀ j, b j = true → dstAt ops j ≠ some t) → f' t = f t) ∧ At n f' a ∧ St w0 (sw S off b Rs) w
theorem sw_lt {b : Nat → Bool} {Rs : Nat → Sto} {u : Nat} (h : Nat.blt u off = true) : sw S off b Rs u = S u := by simp [sw, h]
theorem sw_at {b : Nat → Bool} {Rs : Nat → Sto} {j t : Nat} (hb : b j = true) (ht : t < 8) : sw S off b Rs (off + 8 * j + t) = Rs j t := by
  have h1 : Nat.blt (off + 8 * j + t) off = false := by
    rw [← Bool.not_eq_true]
    intro e
    simp [Nat.blt] at e
    omega
  have h2 : (off + 8 * j + t - off) / 8 = j := by omega
  have h3 : (off + 8 * j + t - off) % 8 = t := by omega
  simp [sw, h1, h2, h3, hb]
/-- One more: what it has made stands beside the others'. -/
theorem St.sw {w w' : World} {b : Nat → Bool} {Rs : Nat → Sto} {i : Nat} {R : Sto} (h : St w0 (sw S off b Rs) w) (hb : b i = false) (hr : St w R w') : St w0 (sw S off (up b i) (fun j => cond (Nat.beq j i) R (Rs j))) w' := by
  have h' := h.step hr.below
  have case : ∀ u d, Sx.sw S off (up b i) (fun j => cond (Nat.beq j i) R (Rs j)) u = some d → (∃ t, u = off + 8 * i + t ∧ t < 8 ∧ R t = some d) ∨ ((¬ ∃ t, u = off + 8 * i + t ∧ t < 8) ∧ Sx.sw S off b Rs u = some d) := by
    intro u d e
    unfold Sx.sw at e ⊢
    cases hu : Nat.blt u off with
    | true =>
      rw [hu] at e
      refine .inr ⟨fun ⟨t, h1, _⟩ => ?_, by simpa using e⟩
      simp [Nat.blt] at hu
      omega
    | false =>
      rw [hu] at e
      have hu' : off ≤ u := by
        rw [← Bool.not_eq_true] at hu
        simp [Nat.blt] at hu
        omega
      by_cases hi : (u - off) / 8 = i
      · left
        refine ⟨(u - off) % 8, by omega, Nat.mod_lt _ (by omega), ?_⟩
        rw [hi] at e
        simpa [up_self] using e
      · right
        refine ⟨fun ⟨t, h1, h2⟩ => hi (by omega), ?_⟩
        simpa [up_ne hi, beq_false hi] using e
  refine ⟨h'.below, fun u d e => ?_, fun u v d e hne hu hv k hkd hke => ?_⟩
  · rcases case u d e with ⟨t, _, _, e⟩ | ⟨_, e⟩
    · exact d.lower _ _ _ (hr.holds _ _ e) h.below.size
    · exact h'.holds u d e
  · rcases case u d hu with ⟨t, h1, _, hu⟩ | ⟨h1, hu⟩ <;> rcases case v e hv with ⟨t2, h2, _, hv⟩ | ⟨h2, hv⟩
    · exact hr.apart t t2 d e (by omega) hu hv k hkd hke
    · have := (hr.lt hu k hkd).1
      have := (h.lt hv k hke).2
      omega
    · have := (h.lt hu k hkd).2
      have := (hr.lt hv k hke).1
      omega
    · exact h.apart u v d e hne hu hv k hkd hke
theorem tab_lt (ht : tabOk ops tab = true) : ∀ (i m : Nat), (tab.getD i []).contains m = true → m < i := by
  intro i
  induction i using Nat.strongRecOn with
  | ind i ih =>
    intro m hm
    by_cases hi : i < ops.size
    · have hio : ops[i]? = some ops[i] := Array.getElem?_eq_getElem hi
      rcases (tab_row ht hio).2.1 m hm with h | ⟨e, he, h⟩
      · exact (tab_row ht hio).1 m h
      · have h1 := (tab_row ht hio).1 e he
        have := ih e h1 m h
        omega
    · simp only [tabOk, Bool.and_eq_true] at ht
      have hl := Nat.eq_of_beq_eq_true ht.1
      rw [List.getD_eq_getElem?_getD, List.getElem?_eq_none (by omega)] at hm
      simp at hm
theorem ready_mem {ops : Array Oper} : ∀ {b : Nat → Bool} {i : Nat}, i ∈ Region.ready .any ops (lof ops.size b) ↔ i < ops.size ∧ b i = false ∧ ∃ o, ops[i]? = some o ∧ ∀ e ∈ dirOf o, e < ops.size ∧ b e = true := by
  intro b i
  unfold Region.ready
  rw [List.mem_filter, List.mem_range]
  constructor
  · rintro ⟨h1, h2⟩
    rw [Bool.and_eq_true, lof_get, if_pos h1] at h2
    obtain ⟨o, ho⟩ : ∃ o, ops[i]? = some o := ⟨_, Array.getElem?_eq_getElem h1⟩
    rw [ho] at h2
    refine ⟨h1, by simpa using h2.1, o, ho, fun e he => ?_⟩
    simp only [dirOf, List.mem_map, List.mem_filter] at he
    obtain ⟨x, ⟨hx, hxb⟩, rfl⟩ := he
    have h3 := h2.2
    simp only [Option.map_some, Option.getD_some] at h3
    rw [← Array.all_toList, List.all_eq_true] at h3
    have h4 := h3 x hx
    rw [hxb, lof_get] at h4
    by_cases hlt : x.on < ops.size
    · rw [if_pos hlt] at h4; exact ⟨hlt, by simpa using h4⟩
    · rw [if_neg hlt] at h4; simp at h4
  · rintro ⟨h1, h2, o, ho, h3⟩
    refine ⟨h1, ?_⟩
    rw [Bool.and_eq_true, lof_get, if_pos h1, h2, ho]
    refine ⟨rfl, ?_⟩
    simp only [Option.map_some, Option.getD_some]
    rw [← Array.all_toList, List.all_eq_true]
    intro x hx
    cases hxb : Region.binds .any x with
    | false => rfl
    | true =>
      have h4 := h3 x.on (by simp only [dirOf, List.mem_map, List.mem_filter]; exact ⟨x, ⟨hx, hxb⟩, rfl⟩)
      rw [lof_get, if_pos h4.1, h4.2]
      rfl
/-- What stands behind all others goes in line. -/
theorem tail_any (ht : tabOk ops tab = true) (p : Nat) (hfull : ∀ i, p ≤ i → i < ops.size → ∀ j, j < i → (tab.getD i []).contains j = true) :
    ∀ (k i : Nat) (a : Act) (w : World), i + k = ops.size → p ≤ i → wpList P ops Q (ops.toList.drop i) a w → wpAny P .any ops Q k (lof ops.size (fun j => Nat.blt j i)) a w := by
  intro k
  induction k with
  | zero =>
    intro i a w hk hpi h
    refine ⟨?_, ?_⟩
    · apply List.eq_nil_iff_forall_not_mem.2
      intro j hj
      obtain ⟨h1, h2, _⟩ := ready_mem.1 hj
      have : Nat.blt j i = true := by simp [Nat.blt]; omega
      rw [this] at h2
      cases h2
    · rw [List.drop_eq_nil_of_le (by simp; omega)] at h
      exact h
  | succ k ih =>
    intro i a w hk hpi h
    have hi : i < ops.size := by omega
    have hdrop : ops.toList.drop i = ops[i] :: ops.toList.drop (i + 1) := by
      rw [List.drop_eq_getElem_cons (by simpa using hi)]
      simp
    have hio : ops[i]? = some ops[i] := Array.getElem?_eq_getElem hi
    refine ⟨fun he => ?_, fun j hj => ?_⟩
    · have : i ∈ Region.ready .any ops (lof ops.size (fun j => Nat.blt j i)) := ready_mem.2 ⟨hi, (by rw [← Bool.not_eq_true]; intro e; simp [Nat.blt] at e; omega), _, hio, fun e he2 => ⟨by have := (tab_row ht hio).1 e he2; omega, by have := (tab_row ht hio).1 e he2; simp [Nat.blt]; omega⟩⟩
      rw [he] at this
      cases this
    · obtain ⟨h1, h2, o, ho, h3⟩ := ready_mem.1 hj
      have hge : i ≤ j := by
        by_cases e : j < i
        · have : Nat.blt j i = true := by simp [Nat.blt]; omega
          rw [this] at h2; cases h2
        · omega
      have hji : j = i := by
        by_cases e : j = i
        · exact e
        · exfalso
          have hc := hfull j (by omega) h1 i (by omega)
          rcases (tab_row ht ho).2.1 i hc with h4 | ⟨e2, h4, h5⟩
          · have := (h3 i h4).2
            simp [Nat.blt] at this
            omega
          · have h6 := (h3 e2 h4).2
            have h7 : e2 < i := by simp [Nat.blt] at h6; omega
            have h8 := fun e => tab_lt ht e2 e
            have := h8 i h5
            omega
      subst hji
      rw [lof_up h1]
      have e : up (fun m => Nat.blt m j) j = fun m => Nat.blt m (j + 1) := by
        funext m
        simp only [up]
        rw [Bool.eq_iff_iff]
        simp [Nat.blt]
        omega
      rw [e]
      rw [hdrop] at h
      unfold wpOp
      rw [hio]
      simp only
      unfold wpList at h
      split
      · rename_i hw
        rw [if_pos hw] at h
        rcases h with h | h
        · exact .inl (Oper.wp_mono (fun a w h => ih (j + 1) a w (by omega) (by omega) h) h)
        · exact .inr h
      · rename_i hw
        rw [if_neg hw] at h
        exact ih (j + 1) _ w (by omega) (by omega) h
theorem draw_any (p : Nat) (ht : tabOk ops tab = true) (hd : dstsOk ops = true) (hdn : ∀ j d, dstAt ops j = some d → Nat.blt d n = true) (h : ∀ i, i < p → OpOk P n ops tab f w0 S off sp on i)
    (hp : p ≤ ops.size) (hfull : ∀ i, p ≤ i → i < ops.size → ∀ j, j < i → (tab.getD i []).contains j = true)
    (hend : ∀ b a w, (∀ j, b j = true → j < p) → (∀ j, j < p → b j = true) → Inv ops n tab f w0 S off sp b a w → wpList P ops Q (ops.toList.drop p) a w) :
    ∀ (m : Nat) (b : Nat → Bool) (a : Act) (w : World), (∀ j, b j = true → j < p) → ((List.range p).filter fun j => !b j).length = m → Inv ops n tab f w0 S off sp b a w → wpAny P .any ops Q (m + (ops.size - p)) (lof ops.size b) a w := by
  have mem_ready := @ready_mem ops
  intro m
  induction m with
  | zero =>
    intro b a w hbp hm hI
    have hall : ∀ j, j < p → b j = true := fun j hj => by
      have h1 := List.eq_nil_of_length_eq_zero hm
      cases hb : b j with
      | true => rfl
      | false =>
        have : j ∈ (List.range p).filter fun j => !b j := List.mem_filter.2 ⟨List.mem_range.2 hj, by rw [hb]; rfl⟩
        rw [h1] at this
        cases this
    have e : b = fun j => Nat.blt j p := by
      funext j
      rw [Bool.eq_iff_iff]
      exact ⟨fun h => by have := hbp j h; simp [Nat.blt]; omega, fun h => hall j (by simp [Nat.blt] at h; omega)⟩
    have h1 := hend b a w hbp hall hI
    rw [e, Nat.zero_add]
    exact tail_any ht p hfull (ops.size - p) p a w (by omega) (Nat.le_refl _) h1
  | succ m ih =>
    intro b a w hbp hm hI
    rw [show m + 1 + (ops.size - p) = (m + (ops.size - p)) + 1 from by omega]
    have hex : ∃ i, i ∈ Region.ready .any ops (lof ops.size b) := by
      have hne : ∃ i, i < ops.size ∧ b i = false := by
        rcases hl : (List.range p).filter fun j => !b j with _ | ⟨x, r⟩
        · rw [hl] at hm; cases hm
        · have hx : x ∈ (List.range p).filter fun j => !b j := by rw [hl]; simp
          rw [List.mem_filter, List.mem_range] at hx
          exact ⟨x, by omega, by simpa using hx.2⟩
      have key : ∀ q i, i ≤ q → i < ops.size → b i = false → ∃ i, i ∈ Region.ready .any ops (lof ops.size b) := by
        intro q
        induction q with
        | zero =>
          intro i hq h1 h2
          have hi0 : i = 0 := by omega
          subst hi0
          obtain ⟨o, ho⟩ : ∃ o, ops[0]? = some o := ⟨_, Array.getElem?_eq_getElem h1⟩
          exact ⟨0, mem_ready.2 ⟨h1, h2, o, ho, fun e he => by have := (tab_row ht ho).1 e he; omega⟩⟩
        | succ q ihq =>
          intro i hq h1 h2
          obtain ⟨o, ho⟩ : ∃ o, ops[i]? = some o := ⟨_, Array.getElem?_eq_getElem h1⟩
          by_cases hall : ∀ e ∈ dirOf o, b e = true
          · exact ⟨i, mem_ready.2 ⟨h1, h2, o, ho, fun e he => ⟨by have := (tab_row ht ho).1 e he; omega, hall e he⟩⟩⟩
          · obtain ⟨e, he⟩ : ∃ e, e ∈ dirOf o ∧ b e = false := by
              apply Classical.byContradiction
              intro hno
              exact hall (fun e he => by
                cases hb : b e with
                | true => rfl
                | false => exact (hno ⟨e, he, hb⟩).elim)
            have hlt := (tab_row ht ho).1 e he.1
            exact ihq e (by omega) (by omega) he.2
      obtain ⟨i, h1, h2⟩ := hne
      exact key i i (Nat.le_refl _) h1 h2
    refine ⟨fun he => (by obtain ⟨i, hi⟩ := hex; rw [he] at hi; cases hi), fun i hi => ?_⟩
    obtain ⟨h1, h2, o, ho, h3⟩ := mem_ready.1 hi
    obtain ⟨hcl, vs, Rs, f', hsp, hf, hx, ha, hs⟩ := hI
    obtain ⟨r1, r2, r3⟩ := tab_row ht ho
    have hpre : ∀ j, (tab.getD i []).contains j = true → b j = true := fun j hj => by
      rcases r2 j hj with hj | ⟨e, he, hj⟩
      · exact (h3 j hj).2
      · exact (hcl e (h3 e he).2).2 j hj
    have hnot : ∀ j, b j = true → (tab.getD j []).contains i = true → False := fun j hj hc => by
      have := (hcl j hj).2 i hc
      rw [h2] at this
      cases this
    have hip : i < p := by
      by_cases e : i < p
      · exact e
      · exfalso
        have h5 : ∃ j, j < p ∧ b j = false := by
          rcases hl : (List.range p).filter fun j => !b j with _ | ⟨x, r⟩
          · rw [hl] at hm; cases hm
          · have hx : x ∈ (List.range p).filter fun j => !b j := by rw [hl]; simp
            rw [List.mem_filter, List.mem_range] at hx
            exact ⟨x, hx.1, by simpa using hx.2⟩
        obtain ⟨j, hj, hbj⟩ := h5
        have h6 := hpre j (hfull i (by omega) h1 j (by omega))
        rw [hbj] at h6
        cases h6
    have hok := (h i hip).ok o ho vs Rs f' (sw S off b Rs) w (fun j hj => hsp j (hpre j hj)) (fun j d hj hjd => hf j d (hpre j hj) hjd)
      (fun t hlt => hx t (fun j hj hjd => by
        have h4 := List.all_eq_true.1 hlt j (List.mem_range.2 (hcl j hj).1)
        rw [hjd] at h4
        simp only [Bool.or_eq_true, Bool.not_eq_true'] at h4
        rcases h4 with (h4 | h4) | h4
        · simp at h4
        · have := Nat.eq_of_beq_eq_true h4
          subst this
          rw [h2] at hj
          cases hj
        · exact hnot j hj h4))
      (fun u hu => sw_lt hu) (fun j t hj hlt => sw_at (hpre j hj) hlt) hs
    have hwant := hok.1 a ha
    have next : ∀ v R a' w', sp i v R → At n (updo f' o.dst v) a' → St w R w' → wpAny P .any ops Q (m + (ops.size - p)) ((lof ops.size b).setIfInBounds i true) a' w' := by
      intro v R a' w' hv ha' hs'
      rw [lof_up h1]
      refine ih (up b i) a' w' (fun j hj => (up_true hj).elim (fun e => e ▸ hip) (hbp j)) ?_ ⟨fun j hj => ?_, fun j => cond (Nat.beq j i) v (vs j), fun j => cond (Nat.beq j i) R (Rs j), updo f' o.dst v, fun j hj => ?_, fun j d hj hjd => ?_, fun t hnt => ?_, ha', hs.sw h2 hs'⟩
      · have := up_count (b := b) (i := i) (List.nodup_range (n := p)) (List.mem_range.2 hip) h2
        omega
      · rcases up_true hj with rfl | hj
        · refine ⟨h1, fun m hm => ?_⟩
          by_cases e : m = j
          · subst e; exact up_self b _
          · rw [up_ne e]; exact hpre m hm
        · refine ⟨(hcl j hj).1, fun m hm => ?_⟩
          by_cases e : m = i
          · subst e; exact up_self b _
          · rw [up_ne e]; exact (hcl j hj).2 m hm
      · by_cases e : j = i
        · subst e
          simpa using hv
        · rw [up_ne e] at hj
          simpa [beq_false e] using hsp j hj
      · have hodst : dstAt ops i = o.dst := by simp [dstAt, ho]
        by_cases e : j = i
        · subst e
          rw [hodst] at hjd
          rw [hjd]
          simp [updo, upd_same]
        · rw [up_ne e] at hj
          have h5 : d = d := rfl
          simp only [beq_false e, cond_false]
          cases hod : o.dst with
          | none => exact hf j d hj hjd
          | some q =>
            have hqd : d ≠ q := fun e2 => by
              subst e2
              have h6 := List.all_eq_true.1 hd j (List.mem_range.2 (hcl j hj).1)
              have h7 := List.all_eq_true.1 h6 i (List.mem_range.2 h1)
              rw [hjd, hodst, hod] at h7
              simp [beq_false e] at h7
            show upd f' q v d = _
            rw [upd_ne f' v hqd]
            exact hf j d hj hjd
      · have hodst : dstAt ops i = o.dst := by simp [dstAt, ho]
        have hft : f' t = f t := hx t (fun j hj => hnt j (by
          by_cases e : j = i
          · subst e; rw [h2] at hj; cases hj
          · rw [up_ne e]; exact hj))
        cases hod : o.dst with
        | none => exact hft
        | some q =>
          have hqt : t ≠ q := fun e => by
            subst e
            exact hnt i (up_self b i) (by rw [hodst, hod])
          show upd f' q v t = _
          rw [upd_ne f' v hqt]
          exact hft
    unfold wpOp
    rw [ho]
    simp only
    rw [hwant]
    cases hon : on i with
    | true =>
      rw [if_pos rfl]
      left
      have h4 := hok.2.1 hon a w ha (St.refl w)
      unfold wpList at h4
      rw [if_pos (by simp [Region.wanted])] at h4
      have h5 : ({ o with guard := none } : Oper).wp P a w (wpList P ops (QOp (sp i) n f' o.dst w) []) (QOp (sp i) n f' o.dst w) := by
        rcases h4 with h4 | ⟨_, a1, w1, h4, _⟩
        · exact h4
        · cases h4
      have h6 : o.wp P a w (wpList P ops (QOp (sp i) n f' o.dst w) []) (QOp (sp i) n f' o.dst w) := h5
      exact wp_mono2 (fun a' w' hq => by obtain ⟨_, v, R, hv, ha', hs'⟩ := hq; exact next v R a' w' hv ha' hs') (fun e a' w' hne hq => absurd hq.1 hne) h6
    | false =>
      rw [if_neg (by simp)]
      refine next undef s0 _ _ (hok.2.2 hon) ?_ (St.refl w)
      cases hod : o.dst with
      | none => exact ha
      | some q => exact ha.put (hdn i q (by simp [dstAt, ho, hod])) undef
end

section
variable {P : Program} {Q : Exit → Act → World → Prop} {n : Nat} {l : List Oper} {f : Fr} {w0 : World} {S : Sto}
theorem cs_draw {id : Nat} (tab : List (List Nat)) (p off : Nat) (sp : Spec) (on : Nat → Bool) (hm : P.follows .mixedOrders = true) (ht : tabOk l.toArray tab = true) (hd : dstsOk l.toArray = true) (hdn : (List.range l.toArray.size).all (fun j => match dstAt l.toArray j with
    | some d => Nat.blt d n
    | none => true) = true)
    {rs : List Oper} (hrs : l.drop p = rs) (hp : Nat.ble p l.toArray.size = true) (hfull : (List.range l.toArray.size).all (fun i => Nat.blt i p || (List.range i).all fun j => (tab.getD i []).contains j) = true)
    (h : ∀ i, i < p → OpOk P n l.toArray tab f w0 S off sp on i)
    (hend : ∀ (vs : Nat → Value) (Rs : Nat → Sto) (f' : Fr) (S' : Sto), (∀ j, Nat.blt j p = true → sp j (vs j) (Rs j)) → (∀ j d, Nat.blt j p = true → dstAt l.toArray j = some d → f' d = vs j) → (∀ t, notIn p l.toArray t = true → f' t = f t) →
      (∀ u, Nat.blt u off = true → S' u = S u) → (∀ j t, Nat.blt j p = true → t < 8 → S' (off + 8 * j + t) = Rs j t) → Ls P Q n l.toArray rs f' w0 S') : Cs P Q n (.region id l.toArray true) f w0 S := fun a w ha hs => by
  have hdn' : ∀ j d, dstAt l.toArray j = some d → Nat.blt d n = true := fun j d hj => by
    have hlt : j < l.toArray.size := by
      unfold dstAt at hj
      cases ho : l.toArray[j]? with
      | none => rw [ho] at hj; cases hj
      | some o => exact (Array.getElem?_eq_some_iff.1 ho).1
    have := List.all_eq_true.1 hdn j (List.mem_range.2 hlt)
    rw [hj] at this
    exact this
  have hpl : p ≤ l.toArray.size := by simpa [Nat.ble_eq] using hp
  refine wp_region_any hm ?_
  have h0 := draw_any (P := P) (Q := Q) p ht hd hdn' h hpl (fun i h1 h2 j h3 => ?_) (fun b a w hbp hall hI => ?_) p (fun _ => false) a { w with drawn := w.drawn + 1 } (fun j hj => (by cases hj)) (by rw [List.filter_eq_self.2 (by intro _ _; simp)]; simp) ⟨fun j hj => (by cases hj), fun _ => undef, fun _ => s0, f, fun j hj => (by cases hj), fun j d hj => (by cases hj), fun t _ => rfl, ha, ?_⟩
  · have e : lof l.toArray.size (fun _ => false) = Array.replicate l.toArray.size false := by
      apply Array.ext'
      apply List.ext_getElem
      · simp [lof]
      · intro i h1 h2
        simp [lof]
    rw [e, show p + (l.toArray.size - p) = l.toArray.size from by omega] at h0
    exact h0
  · have h4 := List.all_eq_true.1 hfull i (List.mem_range.2 h2)
    rw [Bool.or_eq_true] at h4
    rcases h4 with h4 | h4
    · simp [Nat.blt] at h4
      omega
    · exact List.all_eq_true.1 h4 j (List.mem_range.2 h3)
  · obtain ⟨hcl, vs, Rs, f', hsp, hf, hx, ha', hs'⟩ := hI
    have hb : ∀ j, Nat.blt j p = true → b j = true := fun j hj => hall j (by simp [Nat.blt] at hj; omega)
    show wpList P l.toArray Q (l.drop p) a w
    rw [hrs]
    refine hend vs Rs f' (sw S off b Rs) (fun j hj => hsp j (hb j hj)) (fun j d hj hjd => hf j d (hb j hj) hjd) (fun t hnt => hx t (fun j hj hjd => ?_)) (fun u hu => sw_lt hu) (fun j t hj hlt => sw_at (hb j hj) hlt) a w ha' hs'
    have h4 := List.all_eq_true.1 hnt j (List.mem_range.2 (hbp j hj))
    rw [hjd] at h4
    simp at h4
  · have hs1 : St w0 S { w with drawn := w.drawn + 1 } := hs.step ⟨rfl, rfl, rfl, Nat.le_refl _, fun _ _ => rfl⟩
    refine hs1.sub (fun u d e => ?_)
    unfold sw at e
    cases hu : Nat.blt u off with
    | true => rw [hu] at e; exact e
    | false => rw [hu] at e; cases e
end
/-! ### 14. The small words of such a region's print -/
def spl (L : List (Value → Sto → Prop)) : Spec := fun j => L.getD j (fun _ _ => False)
def onl (L : List Bool) : Nat → Bool := fun j => L.getD j true
theorem all_nil {p : Nat → Prop} : ∀ i, i < 0 → p i := fun i h => absurd h (by omega)
theorem all_snoc {p : Nat → Prop} {n : Nat} (h : ∀ i, i < n → p i) (hn : p n) : ∀ i, i < n + 1 → p i := fun i hi => by
  by_cases e : i = n
  · subst e; exact hn
  · exact h i (by omega)
theorem all_of {p : Nat → Prop} {m N : Nat} (e : m = N) (h : ∀ i, i < N → p i) : ∀ i, i < m → p i := fun i hi => h i (by omega)
theorem upd_upd (f : Fr) (d : Nat) (v v' : Value) : upd (upd f d v) d v' = upd f d v' := by
  funext t
  by_cases h : t = d
  · subst h; rw [upd_same, upd_same]
  · rw [upd_ne _ _ h, upd_ne _ _ h, upd_ne _ _ h]
section
variable {P : Program} {Q : Exit → Act → World → Prop} {n : Nat} {ops : Array Oper} {l : List Oper} {f f' F : Fr} {w0 w : World} {S : Sto} {o : Oper} {d : Option Nat} {v : Value}
theorem want_none (hg : o.guard = none) : ∀ a, At n f a → Region.wanted o (yielded ops a.tmps) = true := fun a ha => by simp [Region.wanted, hg]
theorem want_is {j t : Nat} {b c r : Bool} (hgd : o.guard = some (j, b)) (ht : (ops[j]?).bind (·.dst) = some t) (hn : Nat.blt t n = true) (hf : f t = .bool c) (hr : (c == b) = r) : ∀ a, At n f a → Region.wanted o (yielded ops a.tmps) = r := fun a ha => by
  simp only [Region.wanted, hgd, yielded_of ha ht hn hf]
  subst hr
  cases b <;> cases c <;> rfl
theorem want_not {j t : Nat} {b : Bool} (hgd : o.guard = some (j, b)) (ht : (ops[j]?).bind (·.dst) = some t) (hn : Nat.blt t n = true) (hf : f t = undef) : ∀ a, At n f a → Region.wanted o (yielded ops a.tmps) = false := fun a ha => by
  have hlt : t < a.tmps.size := by have := ha.size; simp [Nat.blt] at hn; omega
  have h1 : a.tmps[t]? = some undef := by
    have h2 := ha.get t
    rw [hf, Array.getD_eq_getD_getElem?, Array.getElem?_eq_getElem hlt, Option.getD_some] at h2
    rw [Array.getElem?_eq_getElem hlt, h2]
  have h3 : yielded ops a.tmps j = none := by
    simp only [yielded, ht, Option.bind_some, h1]
    rfl
  simp [Region.wanted, hgd, h3]
theorem ls_fr (e : f = F) (h : Ls P Q n ops l F w0 S) : Ls P Q n ops l f w0 S := by rw [e]; exact h
theorem ls_fin {sp : Value → Sto → Prop} (R : Sto) (v : Value) (hF : F = updo f' d v) (hsp : sp v R) (hS : Sub R S) : Ls P (QOp sp n f' d w) n ops [] F w S := fun a w' ha hs => ⟨rfl, v, R, hsp, hF ▸ ha, hs.sub hS⟩
theorem qn_fr (e : f = F) (h : Qn Q n F w0 S) : Qn Q n f w0 S := by rw [e]; exact h
theorem ls_sub (S' : Sto) (hs : Sub S' S) (h : Ls P Q n ops l f w0 S') : Ls P Q n ops l f w0 S := fun a w ha hh => h a w ha (hh.sub hs)
theorem qn_sub (S' : Sto) (hs : Sub S' S) (h : Qn Q n f w0 S') : Qn Q n f w0 S := fun a w ha hh => h a w ha (hh.sub hs)
theorem ls_offu {rest : List Oper} {dd j t : Nat} {b : Bool} (hgd : o.guard = some (j, b)) (ht : (ops[j]?).bind (·.dst) = some t) (hn : Nat.blt t n = true) (hf : f t = undef) (hd : o.dst = some dd) (hdn : Nat.blt dd n = true) (h : Ls P Q n ops rest (upd f dd undef) w0 S) : Ls P Q n ops (o :: rest) f w0 S := fun a w ha hs => by
  have hw := want_not (ops := ops) hgd ht hn hf a ha
  unfold wpList
  rw [if_neg (by rw [hw]; decide), hd]
  exact h _ _ (ha.put hdn _) hs
end
end Go.Proofs.Ytknjphpfofbdiaa.Sx
