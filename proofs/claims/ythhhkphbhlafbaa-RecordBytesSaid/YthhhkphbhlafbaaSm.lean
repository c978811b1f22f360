/- Small lemmas for a walk: loops of a known number of rounds, nil pointers, maps; no condition. -/
import Derived.Test.YthhhkphbhlafbaaSy
import Derived.MapKept
set_option linter.unusedVariables false
set_option linter.unusedSimpArgs false
namespace Go.Proofs.Ythhhkphbhlafbaa.Sx
open Go Go.RowKit
open Go.MapKept (IsKey)

/-- Pointers to variables, or to nothing. -/
def Ec.ptr (t : TypeId) : Ec (Option (Nat × Nat)) := ⟨t, fun x => [.pointer (x.map fun g => ⟨g.1, g.2, none⟩)], 1, none, fun _ => rfl, fun _ => one_cons rfl one_nil, Nat.one_pos⟩
/-! ### 1. A loop of at most so many rounds -/
def Rs (P : Program) (x : Code) (Q : Exit → Act → World → Prop) (m n : Nat) (f : Fr) (w0 : Bs) (S : Sto) : Prop := ∀ a w, At n f a → St w0 S w → Code.rounds P x Q m a w
section
variable {P : Program} {Q : Exit → Act → World → Prop} {n : Nat} {f : Fr} {w0 : Bs} {S : Sto} {x : Code}
theorem cs_rounds (m : Nat) (h : Rs P x Q m n f w0 S) : Cs P Q n (.loop x) f w0 S := fun a w ha hs => wp_loop_rounds m (h a w ha hs)
theorem rs_succ {m : Nat} (h : Cs P (Exit.then (fun a w => Code.rounds P x Q m a w) Q) n x f w0 S) : Rs P x Q (m + 1) n f w0 S := fun a w ha hs => by
  rw [rounds_succ]
  exact h a w ha hs
theorem qn_rounds {m : Nat} (h : Rs P x Q m n f w0 S) : Qn (Exit.then (fun a w => Code.rounds P x Q m a w) Q) n f w0 S := h
end
/-! ### 2. A map with one key at most -/
section
variable {P : Program} {Q : Exit → Act → World → Prop} {n : Nat} {ops : Array Oper} {rest : List Oper} {o : Oper} {f : Fr} {w0 : Bs} {S : Sto} {d : Nat} {t kt et : TypeId} {r : Nat} {p : Bool} {A : Option Addr} {m c : Nat}
/-! A round over such a map -/
end
/-! ### 9. Short names -/
section
variable {P : Program} {Q : Exit → Act → World → Prop} {n : Nat} {ops : Array Oper} {rest : List Oper} {o : Oper} {f : Fr} {w0 : Bs} {S : Sto} {d : Nat}
theorem lv (v : Value) (h : Ls P Q n ops rest (upd f d v) w0 S) (hg : o.guard = none := by rfl) (hd : o.dst = some d := by rfl) (hn : Nat.blt d n = true := by kernel_rfl) (hr : ∀ w, (execOp (ev f) o).run P w = .ok (.value v) w := by intro w; kernel_rfl) : Ls P Q n ops (o :: rest) f w0 S := ls_val hg hd hn hr h
theorem lofx (j t : Nat) (b c : Bool) (h : Ls P Q n ops rest (upd f d undef) w0 S) (hgd : o.guard = some (j, b) := by rfl) (ht : (ops[j]?).bind (·.dst) = some t := by rfl) (hn : Nat.blt t n = true := by kernel_rfl) (hf : f t = .bool c := by kernel_rfl) (hbc : (c == b) = false := by rfl) (hd : o.dst = some d := by rfl) (hdn : Nat.blt d n = true := by kernel_rfl) : Ls P Q n ops (o :: rest) f w0 S := ls_off hgd ht hn hf hbc hd hdn h
theorem wn {x : Bool} {L M : Prop} (hon : x = true) (h : L) (hg : o.guard = none := by rfl) : (∀ a, At n f a → Region.wanted o (yielded ops a.tmps) = x) ∧ (x = true → L) ∧ (x = false → M) :=
  ⟨fun a ha => (want_none hg a ha).trans hon.symm, fun _ => h, fun h => by rw [hon] at h; cases h⟩
theorem exv (x : Value) : ∃ z : Value → Sto → Prop, z = (fun v R => v = x ∧ R = s0) := ⟨_, rfl⟩
theorem opv {on : Nat → Bool} {i : Nat} {X Y : Value → Sto → Prop} {f' F : Fr} {w : World} (v : Value) (h1 : X = Y) (h2 : Y = fun v' R => v' = v ∧ R = s0) (hon : on i = true) (hF : f' = F) (hg : o.guard = none := by rfl) (hd : o.dst = some d := by rfl) (hn : Nat.blt d n = true := by kernel_rfl)
    (hr : ∀ w, (execOp (ev F) { o with guard := none }).run P w = .ok (.value v) w := by intro w; kernel_rfl) : (∀ a, At n f' a → Region.wanted o (yielded ops a.tmps) = on i) ∧ (on i = true → Ls P (QOp X n f' o.dst w) n ops [{ o with guard := none }] f' (bw w) s0) ∧ (on i = false → X undef s0) :=
  ⟨fun a ha => (want_none hg a ha).trans hon.symm, fun _ => by
    subst h1
    subst h2
    refine ls_fr hF ?_
    refine ls_val (o := { o with guard := none }) rfl hd hn hr ?_
    exact ls_fin s0 v (by rw [hd]; exact congrArg (fun z => upd z d v) hF.symm) ⟨rfl, rfl⟩ (sub_nil _), fun h => by rw [hon] at h; cases h⟩
theorem have_opa {ar : Array Oper} {id : Nat} (tab : List (List Nat)) (off i : Nat) (A : Spec → Prop) (hop : ∀ sp on, A sp → on i = true → OpOk P n ar tab f w0 S off sp on i) (h : (∀ sp on, A sp → on i = true → OpOk P n ar tab f w0 S off sp on i) → Cs P Q n (.region id ar true) f w0 S) : Cs P Q n (.region id ar true) f w0 S := h hop
end
end Go.Proofs.Ythhhkphbhlafbaa.Sx
