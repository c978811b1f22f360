/- Small lemmas for a walk: a text's bytes as a row that is written; bytes that are sought and compared; no condition. -/
import Derived.Test.YthhhkphbhlafbaaSm
import Derived.Laws.IdiomCopy
import Derived.Laws.Externs
import Derived.Deep.Upon
import GoSem.Extern.BytealgCompare
set_option linter.unusedVariables false
set_option linter.unusedSimpArgs false
namespace Go.Proofs.Ythhhkphbhlafbaa.Sx
open Go Go.RowKit
variable {α:Type}
def bth (T:Ec α) (A:Option Addr) (c:Nat) (l:List α) (w:World):Prop :=
  ∃ g cur fr,A=some ⟨g,0,none⟩∧w.heap[g]?=some (.cells cur T.t fr)∧cur.size≤fr.1∧l.length≤c∧l.length*T.z≤cur.size∧cur.toList.take (l.length*T.z)=em T l
def Ck.bt (T:Ec α) (A:Option Addr) (c:Nat) (l:List α):Ck where
  key := (A.map (·.block)).toList
  holds := bth T A c l
  stable := fun w w' h hk=>by
    obtain ⟨g,cur,fr,rfl,h2,h3⟩ := h
    exact ⟨g,cur,fr,rfl,by rw [hk g (by simp)]; exact h2,h3⟩
  bound := fun w h k hk=>by
    obtain ⟨g,cur,fr,rfl,h2,h3⟩ := h
    obtain rfl:k=g := by simpa using hk
    exact (Array.getElem?_eq_some_iff.1 h2).1
section
variable {P:Program} {Q:Exit→Act→World→Prop} {n:Nat} {ops:Array Oper} {rest:List Oper} {o:Oper} {f:Fr} {w0:Bs} {S:Sto} {d:Nat} {t ty e:TypeId} {T:Ec α} {A:Option Addr} {c:Nat} {l l':List α} {off:Nat} {v:Value} {vs:List Value}
end
theorem run_loadBytes {P:Program} {w:World}:∀ (l:List Int) (a:Addr) (acc:ByteArray),(∀ j u,(en (Value.int .u8) l)[j]?=some u→w.cell? (a.add j)=some u)→(Extern.Bytes.loadBytes a l.length acc).run P w=.ok ⟨acc.data++(l.map fun n=>UInt8.ofNat n.toNat).toArray⟩ w
  | [],a,acc,_=>by simp [Extern.Bytes.loadBytes]
  | x :: r,a,acc,h=>by
    have h0:w.cell? a=some (.int .u8 x) := by
      have := h 0 _ rfl
      rwa [show a.add 0=a by unfold Addr.add; simp] at this
    have hl:(load a).run P w=.ok (.int .u8 x) w := by simp [load,h0,Sem.run]
    have ih := run_loadBytes (P:=P) (w:=w) r (a.add 1) (acc.push x.toNat.toUInt8) (fun j u hj=>by
      rw [add_add]
      have := h (1+j) u (by rw [Nat.add_comm]; exact hj)
      exact this)
    simp only [List.length_cons,Extern.Bytes.loadBytes,Sem.run_bind,hl,Result.andThen_ok,ih]
    congr 2
    apply Array.ext'
    simp [ByteArray.push,Nat.toUInt8]
theorem run_bytesOf {P:Program} {w:World} {A:Option Addr} {c:Nat} {l:List Int} (h:Rd w A (en (Value.int .u8) l)):(Extern.Bytes.bytesOf (.slice A l.length c)).run P w=.ok (strOfNums l) w := by
  cases A with
  | none =>
    have hl:l=[] := by
      cases l with
      | nil=>rfl
      | cons x r=>obtain ⟨ad,e1,_⟩ := h 0 _ rfl; cases e1
    subst hl
    rfl
  | some a =>
    have := run_loadBytes (P:=P) (w:=w) l a .empty (fun j u hj=>by
      obtain ⟨ad,e1,hc⟩ := h j u hj
      obtain rfl := Option.some.inj e1
      exact hc)
    show (Extern.Bytes.loadBytes a l.length .empty).run P w=_
    rw [this]
    show Result.ok (⟨#[]++(l.map fun n=>UInt8.ofNat n.toNat).toArray⟩:ByteArray) w=_
    rw [Array.empty_append]
    rfl
def bcmp (l m:List Int):Int := Extern.BytealgCompare.cmp (strOfNums l) (strOfNums m)
section
variable {P:Program} {Q:Exit→Act→World→Prop} {n:Nat} {ops:Array Oper} {rest:List Oper} {o:Oper} {f:Fr} {w0:Bs} {S:Sto} {d:Nat} {A B:Option Addr} {c cb:Nat} {l m:List Int} {fid:FuncId} {fn:Func} {t:TypeId}
theorem ls_bcmp (hg:o.guard=none) (hd:o.dst=some d) (hn:Nat.blt d n=true) (hr:∀ w,(execOp (ev f) o).run P w=(callFunc fid #[.slice A l.length c,.slice B m.length cb]).run P w) (hf:P.funcs[fid]?=some fn) (h1:(fn.name== "runtime.NumGoroutine")=false) (h2:fn.body.isNone=true) (h3:Extern.findNext fn=none) (h4:Extern.find fn=some Extern.BytealgCompare.compare)
    (hR:∀ w,St w0 S w→Rd w A (em (Ec.int t .u8) l)) (hR2:∀ w,St w0 S w→Rd w B (em (Ec.int t .u8) m)) (h:Ls P Q n ops rest (upd f d (.int .i64 (bcmp l m))) w0 S):Ls P Q n ops (o :: rest) f w0 S :=
  ls_read hg hd hn (fun w hs=>by
    rw [hr,run_callFunc_extern hf h1 h2 h3 h4]
    have hb := run_bytesOf (P:=P) (c:=c) (by rw [← em_int t]; exact hR w hs)
    have hb2 := run_bytesOf (P:=P) (c:=cb) (by rw [← em_int t]; exact hR2 w hs)
    have:(Extern.BytealgCompare.compare #[.slice A l.length c,.slice B m.length cb]).run P w=.ok (.int .i64 (bcmp l m)) w := by
      change Sem.run P (do pure (goInt (Extern.BytealgCompare.cmp (← Extern.Bytes.bytesOf (.slice A l.length c)) (← Extern.Bytes.bytesOf (.slice B m.length cb))))) w=_
      simp only [hb,hb2,bcmp,Sem.run_bind,Sem.run_pure,Result.andThen]
      rfl
    rw [this]
    rfl) h
end
end Go.Proofs.Ythhhkphbhlafbaa.Sx
