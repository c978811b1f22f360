/- Small lemmas for a walk: loops of a known number of rounds, nil pointers, maps; no condition. -/
import Derived.Test.YthhhkphbhlafbaaSy
import Derived.MapKept
set_option linter.unusedVariables false
set_option linter.unusedSimpArgs false
namespace Go.Proofs.Ythhhkphbhlafbaa.Sx
open Go Go.RowKit
open Go.MapKept (IsKey)
def Rs (P:Program) (x:Code) (Q:Exit→Act→World→Prop) (m n:Nat) (f:Fr) (w0:Bs) (S:Sto):Prop := ∀ a w,At n f a→St w0 S w→Code.rounds P x Q m a w
section
variable {P:Program} {Q:Exit→Act→World→Prop} {n:Nat} {f:Fr} {w0:Bs} {S:Sto} {x:Code}
end
def mes (p:Bool) (v:Value) (born:Nat):Array MapEntry := if p then #[⟨.int .i64 1,v,born⟩] else #[]
def Ck.m1 (r:Nat) (p:Bool) (A:Option Addr) (n c:Nat):Ck where
  key := [r]
  holds := fun w=>(∃ born clock,born<clock+1∧(p=true→born<clock)∧w.heap[r]?=some (.map (mes p (.slice A n c) born) clock))∧(p=false→A=none∧n=0∧c=0)
  stable := fun w w' h hk=>by rw [hk r (by simp)]; exact h
  bound := fun w h k hk=>by
    have hk:k=r := by simpa using hk
    subst hk
    obtain ⟨⟨_,_,_,_,h⟩,_⟩ := h
    exact (Array.getElem?_eq_some_iff.1 h).1
section
variable {P:Program} {Q:Exit→Act→World→Prop} {n:Nat} {ops:Array Oper} {rest:List Oper} {o:Oper} {f:Fr} {w0:Bs} {S:Sto} {d:Nat} {t kt et:TypeId} {r:Nat} {p:Bool} {A:Option Addr} {m c:Nat}
theorem St.m1 {w:World} (h:St w0 S w) {k:Nat} (hk:S k=some (Ck.m1 r p A m c)):∃ born clock,(p=true→born<clock)∧w.heap[r]?=some (.map (mes p (.slice A m c) born) clock)∧(p=false→A=none∧m=0∧c=0) := by
  obtain ⟨⟨b,cl,_,h1,h2⟩,h3⟩ := h.holds k _ hk
  exact ⟨b,cl,h1,h2,h3⟩
end
section
variable {P:Program} {Q:Exit→Act→World→Prop} {n:Nat} {ops:Array Oper} {rest:List Oper} {o:Oper} {f:Fr} {w0:Bs} {S:Sto} {d:Nat}
theorem lv (v:Value) (h:Ls P Q n ops rest (upd f d v) w0 S) (hg:o.guard=none := by rfl) (hd:o.dst=some d := by rfl) (hn:Nat.blt d n=true := by kernel_rfl) (hr:∀ w,(execOp (ev f) o).run P w=.ok (.value v) w := by intro w; kernel_rfl):Ls P Q n ops (o :: rest) f w0 S := ls_val hg hd hn hr h
theorem lofx (j t:Nat) (b c:Bool) (h:Ls P Q n ops rest (upd f d undef) w0 S) (hgd:o.guard=some (j,b) := by rfl) (ht:(ops[j]?).bind (·.dst)=some t := by rfl) (hn:Nat.blt t n=true := by kernel_rfl) (hf:f t=.bool c := by kernel_rfl) (hbc:(c==b)=false := by rfl) (hd:o.dst=some d := by rfl) (hdn:Nat.blt d n=true := by kernel_rfl):Ls P Q n ops (o :: rest) f w0 S := ls_off hgd ht hn hf hbc hd hdn h
theorem wn {x:Bool} {L M:Prop} (hon:x=true) (h:L) (hg:o.guard=none := by rfl):(∀ a,At n f a→Region.wanted o (yielded ops a.tmps)=x)∧(x=true→L)∧(x=false→M) :=
  ⟨fun a ha=>(want_none hg a ha).trans hon.symm,fun _=>h,fun h=>by rw [hon] at h; cases h⟩
theorem exv (x:Value):∃ z:Value→Sto→Prop,z=(fun v R=>v=x∧R=s0) := ⟨_,rfl⟩
theorem opv {on:Nat→Bool} {i:Nat} {X Y:Value→Sto→Prop} {f' F:Fr} {w:World} (v:Value) (h1:X=Y) (h2:Y=fun v' R=>v'=v∧R=s0) (hon:on i=true) (hF:f'=F) (hg:o.guard=none := by rfl) (hd:o.dst=some d := by rfl) (hn:Nat.blt d n=true := by kernel_rfl)
    (hr:∀ w,(execOp (ev F) { o with guard := none }).run P w=.ok (.value v) w := by intro w; kernel_rfl):(∀ a,At n f' a→Region.wanted o (yielded ops a.tmps)=on i)∧(on i=true→Ls P (QOp X n f' o.dst w) n ops [{ o with guard := none }] f' (bw w) s0)∧(on i=false→X undef s0) :=
  ⟨fun a ha=>(want_none hg a ha).trans hon.symm,fun _=>by
    subst h1
    subst h2
    refine ls_fr hF ?_
    refine ls_val (o:={ o with guard := none }) rfl hd hn hr ?_
    exact ls_fin s0 v (by rw [hd]; exact congrArg (fun z=>upd z d v) hF.symm) ⟨rfl,rfl⟩ (sub_nil _),fun h=>by rw [hon] at h; cases h⟩
theorem have_opa {ar:Array Oper} {id:Nat} (tab:List (List Nat)) (off i:Nat) (A:Spec→Prop) (hop:∀ sp on,A sp→on i=true→OpOk P n ar tab f w0 S off sp on i) (h:(∀ sp on,A sp→on i=true→OpOk P n ar tab f w0 S off sp on i)→Cs P Q n (.region id ar true) f w0 S):Cs P Q n (.region id ar true) f w0 S := h hop
end
end Go.Proofs.Ythhhkphbhlafbaa.Sx
