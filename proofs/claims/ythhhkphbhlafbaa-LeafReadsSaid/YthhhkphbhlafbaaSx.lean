/- A way to walk a function's text by small lemmas: the frame as a function of the slot's number, the call's own memory as a table of pieces; no condition. -/
import Derived.Below
import Derived.OwnWalk
import Derived.LoopN
import Derived.KernelRfl
import Derived.Orders
import Derived.RowKit3
import Derived.Laws.BytesArg
import Derived.Laws.BytesString
import Derived.Laws.AppendOwnNone
import Derived.Laws.Slices
import Derived.Laws.IdiomStrings
import Derived.Maps.AppendAt
import Derived.Lib.AppendStr
import Derived.Laws.Strings
import Derived.Laws.CopyRow
import Derived.Laws.Rows
import Derived.Laws.Tables
import Derived.Laws.ResultCell
import Derived.Laws.StructEq
import Derived.Lib.ConvBytes
import Derived.Lib.SlBytesConst
set_option linter.unusedVariables false
set_option linter.unusedSimpArgs false
namespace Go.Proofs.Ythhhkphbhlafbaa.Sx
open Go Go.RowKit
abbrev Fr := Nat→Value
def upd (f:Fr) (d:Nat) (v:Value):Fr := fun t=>cond (Nat.beq t d) v (f t)
def ev (f:Fr):Operand→Value
  | .tmp t=>f t
  | .const v=>v
  | .global g=>.pointer (some ⟨g,0,none⟩)
  | .func k=>.func (.func k) #[] #[]
structure At (n:Nat) (f:Fr) (a:Act):Prop where
  size:a.tmps.size=n
  defers:a.defers=[]
  get:∀ t,a.tmps.getD t undef=f t
theorem At.eval {n:Nat} {f:Fr} {a:Act} (h:At n f a):a.eval=ev f := by
  funext x
  cases x with
  | tmp t=>exact h.get t
  | _=>rfl
theorem upd_same (f:Fr) (d:Nat) (v:Value):upd f d v d=v := by simp [upd]
theorem upd_ne (f:Fr) {d t:Nat} (v:Value) (h:t≠d):upd f d v t=f t := by
  have:Nat.beq t d=false := by
    rw [← Bool.not_eq_true]
    intro e
    exact h (Nat.eq_of_beq_eq_true e)
  simp [upd,this]
theorem At.put {n:Nat} {f:Fr} {a:Act} (h:At n f a) {d:Nat} (hd:Nat.blt d n=true) (v:Value):At n (upd f d v) (a.put (some d) v) := by
  have hd:d<n := by simp [Nat.blt] at hd; omega
  refine ⟨by simpa [Act.put] using h.size,h.defers,fun t=>?_⟩
  have hs := h.size
  by_cases e:t=d
  · subst e
    rw [upd_same]
    simp [Act.put,Array.getD_eq_getD_getElem?,hs,hd]
  · rw [upd_ne f v e,← h.get t]
    simp [Act.put,Array.getD_eq_getD_getElem?,Ne.symm e]
structure Ck where
  key:List Nat
  holds:World→Prop
  stable:∀ w w',holds w→(∀ k ∈ key,w'.heap[k]?=w.heap[k]?)→holds w'
  bound:∀ w,holds w→∀ k ∈ key,k<w.heap.size
def Ck.obj (g:Nat) (o:Obj):Ck where
  key := [g]
  holds := fun w=>w.heap[g]?=some o
  stable := fun w w' h hk=>by rw [hk g (by simp)]; exact h
  bound := fun w h k hk=>by
    have hk:k=g := by simpa using hk
    subst hk
    exact (Array.getElem?_eq_some_iff.1 h).1
def Ck.row (e:TypeId) (sz:Nat) (v:Value) (n:Nat) (xs:List Value):Ck where
  key := v.ownBlock.toList
  holds := fun w=>w.ownsRow 0 e sz v n xs
  stable := fun w w' h hk=>by
    obtain ⟨h1,h2⟩ := h
    refine ⟨h1,?_⟩
    rcases h2 with h2 | ⟨g,cap,cur,rfl,hg,hh,r⟩
    · exact .inl h2
    · exact .inr ⟨g,cap,cur,rfl,hg,by rw [hk g (by simp [Value.ownBlock])]; exact hh,r⟩
  bound := fun w h k hk=>(h.lt k (by simpa using hk)).2
abbrev Sto := Nat→Option Ck
def s0:Sto := fun _=>none
def sput (S:Sto) (t:Nat) (c:Option Ck):Sto := fun u=>cond (Nat.beq u t) c (S u)
theorem sput_same (S:Sto) (t:Nat) (c:Option Ck):sput S t c t=c := by simp [sput]
theorem sput_ne (S:Sto) {t u:Nat} (c:Option Ck) (h:u≠t):sput S t c u=S u := by
  have:Nat.beq u t=false := by
    rw [← Bool.not_eq_true]
    intro e
    exact h (Nat.eq_of_beq_eq_true e)
  simp [sput,this]
structure Bs where
  w:World
  ks:Nat→Prop
  fz:Nat→Prop
def bw (w:World):Bs := ⟨w,fun _=>False,fun k=>k<w.heap.size⟩
structure BelowK (b:Bs) (w:World):Prop where
  os:w.os=b.w.os
  tape:w.tape=b.w.tape
  output:w.output=b.w.output
  size:b.w.heap.size≤w.heap.size
  block:∀ k,k<b.w.heap.size→¬ b.ks k→w.heap[k]?=b.w.heap[k]?
structure St (b:Bs) (S:Sto) (w:World):Prop where
  ok:∀ k,b.fz k→k<b.w.heap.size∧¬ b.ks k
  below:BelowK b w
  holds:∀ t c,S t=some c→c.holds w
  own:∀ t c,S t=some c→∀ k ∈ c.key,b.w.heap.size≤k ∨ b.ks k
  apart:∀ t u c d,t≠u→S t=some c→S u=some d→∀ k ∈ c.key,k ∉ d.key
theorem BelowK.refl (b:Bs):BelowK b b.w := ⟨rfl,rfl,rfl,Nat.le_refl _,fun _ _ _=>rfl⟩
theorem BelowK.step {b:Bs} {w w':World} (h:BelowK b w) (hb:Below w.heap.size w w'):BelowK b w' :=
  ⟨hb.os.trans h.os,hb.tape.trans h.tape,hb.output.trans h.output,Nat.le_trans h.size hb.size,fun k hk hn=>(hb.block k (Nat.lt_of_lt_of_le hk h.size)).trans (h.block k hk hn)⟩
theorem BelowK.bw {w w':World} (h:BelowK (bw w) w'):Below w.heap.size w w' := ⟨h.os,h.tape,h.output,h.size,fun k hk=>h.block k hk (fun h=>h)⟩
theorem St.refl' (b:Bs) (hok:∀ k,b.fz k→k<b.w.heap.size∧¬ b.ks k):St b s0 b.w := ⟨hok,BelowK.refl b,fun _ _ h=>(by cases h),fun _ _ h=>(by cases h),fun _ _ _ _ _ h=>(by cases h)⟩
theorem St.refl (w:World):St (bw w) s0 w := St.refl' (bw w) (fun _ h=>⟨h,fun h=>h⟩)
theorem St.sub {b:Bs} {w:World} {S S':Sto} (h:St b S w) (hs:∀ t c,S' t=some c→S t=some c):St b S' w :=
  ⟨h.ok,h.below,fun t c e=>h.holds t c (hs t c e),fun t c e=>h.own t c (hs t c e),fun t u c d hne e e'=>h.apart t u c d hne (hs _ _ e) (hs _ _ e')⟩
theorem St.lt {b:Bs} {w:World} {S:Sto} (h:St b S w) {t:Nat} {c:Ck} (e:S t=some c):∀ k ∈ c.key,k<w.heap.size := fun k hk=>c.bound _ (h.holds t c e) k hk
theorem below_all {w w':World} (h:Below w.heap.size w w') (c:Ck) (hc:c.holds w):c.holds w' :=
  c.stable w w' hc (fun k hk=>h.block k (c.bound w hc k hk))
theorem St.step {b:Bs} {w w':World} {S:Sto} (h:St b S w) (hb:Below w.heap.size w w'):St b S w' :=
  ⟨h.ok,h.below.step hb,fun t c e=>below_all hb c (h.holds t c e),h.own,h.apart⟩
theorem St.new {b:Bs} {w w':World} {S:Sto} (h:St b S w) (hb:Below w.heap.size w w') (t:Nat) {c:Ck} (hc:c.holds w') (hk:∀ k ∈ c.key,w.heap.size≤k):St b (sput S t (some c)) w' := by
  have h' := h.step hb
  refine ⟨h.ok,h'.below,fun u d e=>?_,fun u d e k hkd=>?_,fun u v d e hne hu hv k hkd hke=>?_⟩
  · by_cases hut:u=t
    · subst hut
      rw [sput_same] at e
      obtain rfl := Option.some.inj e
      exact hc
    · rw [sput_ne S _ hut] at e
      exact h'.holds u d e
  · by_cases hut:u=t
    · subst hut
      rw [sput_same] at e
      obtain rfl := Option.some.inj e
      exact .inl (Nat.le_trans h.below.size (hk k hkd))
    · rw [sput_ne S _ hut] at e
      exact h.own u d e k hkd
  · by_cases hut:u=t
    · subst hut
      rw [sput_same] at hu
      obtain rfl := Option.some.inj hu
      rw [sput_ne S _ (Ne.symm hne)] at hv
      have := h.lt hv k hke
      have := hk k hkd
      omega
    · rw [sput_ne S _ hut] at hu
      by_cases hvt:v=t
      · subst hvt
        rw [sput_same] at hv
        obtain rfl := Option.some.inj hv
        have := h.lt hu k hkd
        have := hk k hke
        omega
      · rw [sput_ne S _ hvt] at hv
        exact h.apart u v d e hne hu hv k hkd hke
def Bor (S:Sto):List Nat→List Ck→Prop
  | [],[]=>True
  | t :: ts,c :: cs=>S t=some c∧Bor S ts cs
  | _,_=>False
def kys:List Ck→List Nat
  | []=>[]
  | c :: r=>c.key++kys r
def stl:List Ck→Sto
  | []=>s0
  | c :: r=>fun u=>match u with
    | 0=>some c
    | u+1=>stl r u
theorem kys_mem:∀ {cs:List Ck} {k:Nat},k ∈ kys cs→∃ c ∈ cs,k ∈ c.key
  | [],k,h=>by cases h
  | c :: r,k,h=>by
    rcases List.mem_append.1 h with h | h
    · exact ⟨c,by simp,h⟩
    · obtain ⟨d,hd,hk⟩ := kys_mem h
      exact ⟨d,by simp [hd],hk⟩
theorem mem_kys:∀ {cs:List Ck} {c:Ck} {k:Nat},c ∈ cs→k ∈ c.key→k ∈ kys cs
  | d :: r,c,k,h,hk=>by
    rcases List.mem_cons.1 h with rfl | h
    · exact List.mem_append.2 (.inl hk)
    · exact List.mem_append.2 (.inr (mem_kys h hk))
theorem bor_get {S:Sto}:∀ {ts:List Nat} {cs:List Ck},Bor S ts cs→∀ i c,stl cs i=some c→∃ t,ts[i]?=some t∧S t=some c∧c ∈ cs
  | [],[],_,i,c,h=>by cases h
  | t :: ts,d :: cs,hb,i,c,h=>by
    cases i with
    | zero =>
      obtain rfl := Option.some.inj h
      exact ⟨t,rfl,hb.1,by simp⟩
    | succ i =>
      obtain ⟨u,h1,h2,h3⟩ := bor_get hb.2 i c h
      exact ⟨u,by simpa using h1,h2,by simp [h3]⟩
theorem bor_mem {S:Sto}:∀ {ts:List Nat} {cs:List Ck},Bor S ts cs→∀ c ∈ cs,∃ t ∈ ts,S t=some c
  | [],[],_,c,h=>by cases h
  | t :: ts,d :: cs,hb,c,h=>by
    rcases List.mem_cons.1 h with rfl | h
    · exact ⟨t,by simp,hb.1⟩
    · obtain ⟨u,h1,h2⟩ := bor_mem hb.2 c h
      exact ⟨u,by simp [h1],h2⟩
def lent (b:Bs) (w:World) (cs ro:List Ck):Bs := ⟨w,fun k=>k ∈ kys cs,fun k=>b.fz k ∨ k ∈ kys ro⟩
theorem St.fz_own {b:Bs} {S:Sto} {w:World} (h:St b S w) {t:Nat} {c:Ck} (e:S t=some c):∀ k ∈ c.key,¬ b.fz k := fun k hk hf=>by
  obtain ⟨h1,h2⟩ := h.ok k hf
  rcases h.own t c e k hk with h3 | h3
  · omega
  · exact h2 h3
theorem nodup_app:∀ {l m:List Nat},(l++m).Nodup→l.Nodup∧m.Nodup∧∀ x ∈ l,x ∉ m
  | [],m,h=>⟨by simp,h,by simp⟩
  | a :: l,m,h=>by
    rw [List.cons_append,List.nodup_cons] at h
    obtain ⟨h1,h2,h3⟩ := nodup_app h.2
    refine ⟨List.nodup_cons.2 ⟨fun hm=>h.1 (by simp [hm]),h1⟩,h2,fun x hx hm=>?_⟩
    rcases List.mem_cons.1 hx with rfl | hx
    · exact h.1 (by simp [hm])
    · exact h3 x hx hm
theorem St.lend {b:Bs} {S:Sto} {w:World} {ts rs:List Nat} {cs ro:List Ck} (h:St b S w) (hb:Bor S ts cs) (hr:Bor S rs ro) (hnd:(ts++rs).Nodup):St (lent b w cs ro) (stl cs) w := by
  obtain ⟨hn,_,hd⟩ := nodup_app hnd
  refine ⟨fun k hk=>?_,BelowK.refl _,fun i c e=>?_,fun i c e k hk=>?_,fun i j c d hne hi hj k hk=>?_⟩
  · rcases hk with hk | hk
    · refine ⟨Nat.lt_of_lt_of_le (h.ok k hk).1 h.below.size,fun hm=>?_⟩
      obtain ⟨c,hc,hkc⟩ := kys_mem hm
      obtain ⟨t,_,h2⟩ := bor_mem hb c hc
      exact h.fz_own h2 k hkc hk
    · obtain ⟨c,hc,hkc⟩ := kys_mem hk
      obtain ⟨t,h1,h2⟩ := bor_mem hr c hc
      refine ⟨h.lt h2 k hkc,fun hm=>?_⟩
      obtain ⟨c',hc',hkc'⟩ := kys_mem hm
      obtain ⟨t',h1',h2'⟩ := bor_mem hb c' hc'
      exact h.apart t' t c' c (fun e=>hd t' h1' (e ▸ h1)) h2' h2 k hkc' hkc
  · obtain ⟨t,_,h2,_⟩ := bor_get hb i c e
    exact h.holds t c h2
  · obtain ⟨t,_,h2,h3⟩ := bor_get hb i c e
    exact .inr (mem_kys h3 hk)
  · obtain ⟨t,h1,h2,_⟩ := bor_get hb i c hi
    obtain ⟨u,h3,h4,_⟩ := bor_get hb j d hj
    refine h.apart t u c d (fun e=>hne ?_) h2 h4 k hk
    subst e
    exact (List.getElem?_inj (List.getElem?_eq_some_iff.1 h1).1 hn).1 (h1.trans h3.symm)
theorem St.lent_own {b:Bs} {S:Sto} {w:World} {ts:List Nat} {cs:List Ck} (h:St b S w) (hb:Bor S ts cs):∀ k ∈ kys cs,b.w.heap.size≤k ∨ b.ks k := fun k hk=>by
  obtain ⟨c,hc,hkc⟩ := kys_mem hk
  obtain ⟨t,_,h2⟩ := bor_mem hb c hc
  exact h.own t c h2 k hkc
def bidx:List Nat→Nat→Nat→Option Nat
  | [],_,_=>none
  | t :: r,i,u=>cond (Nat.beq u t) (some i) (bidx r (i+1) u)
theorem bidx_some:∀ {ts:List Nat} {i u j:Nat},bidx ts i u=some j→i≤j∧ts[j - i]?=some u
  | t :: r,i,u,j,h=>by
    unfold bidx at h
    cases hu:Nat.beq u t with
    | true =>
      rw [hu] at h
      obtain rfl := Option.some.inj h
      have := Nat.eq_of_beq_eq_true hu
      subst this
      exact ⟨Nat.le_refl _,by simp⟩
    | false =>
      rw [hu] at h
      obtain ⟨h1,h2⟩ := bidx_some (ts:=r) (i:=i+1) h
      refine ⟨by omega,?_⟩
      rw [show j - i=(j - (i+1))+1 by omega]
      simpa using h2
theorem bidx_none:∀ {ts:List Nat} {i u:Nat},bidx ts i u=none→u ∉ ts
  | [],_,_,_=>by simp
  | t :: r,i,u,h=>by
    unfold bidx at h
    cases hu:Nat.beq u t with
    | true=>rw [hu] at h; cases h
    | false =>
      rw [hu] at h
      have h1 := bidx_none (ts:=r) (i:=i+1) h
      intro h2
      rcases List.mem_cons.1 h2 with e | h2
      · subst e; simp at hu
      · exact h1 h2
def sjoinb (S:Sto) (ts:List Nat) (off:Nat) (R:Sto):Sto := fun u=>match bidx ts 0 u with
  | some i=>R i
  | none=>cond (Nat.ble off u) (R (ts.length+(u - off))) (S u)
theorem St.joinb {b:Bs} {w w':World} {S R:Sto} {ts:List Nat} {cs:List Ck} {F:Nat→Prop} (h:St b S w) (hb:Bor S ts cs) (hr:St ⟨w,fun k=>k ∈ kys cs,F⟩ R w') (off:Nat):St b (sjoinb S ts off R) w' := by
  have case:∀ u d,sjoinb S ts off R u=some d→(∃ i,R i=some d∧((u ∈ ts∧ts[i]?=some u) ∨ (u ∉ ts∧off≤u∧i=ts.length+(u - off)))) ∨ (u ∉ ts∧u<off∧S u=some d) := by
    intro u d e
    unfold sjoinb at e
    cases hu:bidx ts 0 u with
    | some i =>
      rw [hu] at e
      have := (bidx_some hu).2
      rw [Nat.sub_zero] at this
      exact .inl ⟨i,e,.inl ⟨List.mem_of_getElem? this,this⟩⟩
    | none =>
      rw [hu] at e
      have hn := bidx_none hu
      by_cases ho:off≤u
      · simp only [Nat.ble_eq_true_of_le ho,cond_true] at e
        exact .inl ⟨_,e,.inr ⟨hn,ho,rfl⟩⟩
      · have:Nat.ble off u=false := by
          rw [← Bool.not_eq_true]
          intro e
          exact ho (Nat.le_of_ble_eq_true e)
        simp only [this,cond_false] at e
        exact .inr ⟨hn,by omega,e⟩
  have inj:∀ u v i j,((u ∈ ts∧ts[i]?=some u) ∨ (u ∉ ts∧off≤u∧i=ts.length+(u - off)))→((v ∈ ts∧ts[j]?=some v) ∨ (v ∉ ts∧off≤v∧j=ts.length+(v - off)))→u≠v→i≠j := by
    rintro u v i j (⟨_,h1⟩ | ⟨_,h1,rfl⟩) (⟨_,h2⟩ | ⟨_,h2,rfl⟩) hne e
    · subst e
      rw [h1] at h2
      exact hne (Option.some.inj h2)
    · have := (List.getElem?_eq_some_iff.1 h1).1
      omega
    · have := (List.getElem?_eq_some_iff.1 h2).1
      omega
    · omega
  have keyR:∀ i d k,R i=some d→k ∈ d.key→(w.heap.size≤k) ∨ ∃ t c,t ∈ ts∧S t=some c∧k ∈ c.key := by
    intro i d k e hk
    rcases hr.own i d e k hk with h1 | h1
    · exact .inl h1
    · obtain ⟨c,hc,hkc⟩ := kys_mem h1
      obtain ⟨t,h2,h3⟩ := bor_mem hb c hc
      exact .inr ⟨t,c,h2,h3,hkc⟩
  have sep:∀ u d i e k,u ∉ ts→S u=some d→R i=some e→k ∈ d.key→k ∈ e.key→False := by
    intro u d i e k hu hd he hkd hke
    rcases keyR i e k he hke with h1 | ⟨t,c,h1,h2,h3⟩
    · have := h.lt hd k hkd
      omega
    · exact h.apart t u c d (fun e=>hu (e ▸ h1)) h2 hd k h3 hkd
  refine ⟨h.ok,⟨hr.below.os.trans h.below.os,hr.below.tape.trans h.below.tape,hr.below.output.trans h.below.output,Nat.le_trans h.below.size hr.below.size,fun k hk hn=>?_⟩,fun u d e=>?_,fun u d e k hk=>?_,fun u v d e hne hu hv k hkd hke=>?_⟩
  · refine (hr.below.block k (Nat.lt_of_lt_of_le hk h.below.size) (fun hm=>?_)).trans (h.below.block k hk hn)
    rcases h.lent_own hb k hm with h1 | h1
    · omega
    · exact hn h1
  · rcases case u d e with ⟨i,h1,_⟩ | ⟨hu,_,h1⟩
    · exact hr.holds i d h1
    · refine d.stable _ _ (h.holds u d h1) (fun k hk=>hr.below.block k (h.lt h1 k hk) (fun hm=>?_))
      obtain ⟨c,hc,hkc⟩ := kys_mem hm
      obtain ⟨t,h2,h3⟩ := bor_mem hb c hc
      exact h.apart t u c d (fun e=>hu (e ▸ h2)) h3 h1 k hkc hk
  · rcases case u d e with ⟨i,h1,_⟩ | ⟨_,_,h1⟩
    · rcases keyR i d k h1 hk with h2 | ⟨t,c,h2,h3,h4⟩
      · exact .inl (Nat.le_trans h.below.size h2)
      · exact h.own t c h3 k h4
    · exact h.own u d h1 k hk
  · rcases case u d hu with ⟨i,h1,hi⟩ | ⟨h0,_,h1⟩ <;> rcases case v e hv with ⟨j,h2,hj⟩ | ⟨h3,_,h2⟩
    · exact hr.apart i j d e (inj u v i j hi hj hne) h1 h2 k hkd hke
    · exact sep v e i d k h3 h2 h1 hke hkd
    · exact sep u d j e k h0 h1 h2 hkd hke
    · exact h.apart u v d e hne h1 h2 k hkd hke
def sjoin (S:Sto) (off:Nat) (R:Sto):Sto := fun u=>cond (Nat.ble off u) (R (u - off)) (S u)
theorem St.join {b:Bs} {w w':World} {S R:Sto} {F:Nat→Prop} (h:St b S w) (hr:St ⟨w,fun _=>False,F⟩ R w') (off:Nat):St b (sjoin S off R) w' := by
  have h1 := St.joinb (ts:=[]) (cs:=[]) (F:=F) h trivial (by simpa [kys] using hr) off
  have e:sjoinb S [] off R=sjoin S off R := by
    funext u
    simp [sjoinb,sjoin,bidx]
  rw [← e]
  exact h1
theorem St.set {b:Bs} {w w':World} {S:Sto} (h:St b S w) {t:Nat} {c c':Ck} (hc:S t=some c) (hos:w'.os=w.os) (htp:w'.tape=w.tape) (hout:w'.output=w.output) (hsz:w.heap.size≤w'.heap.size)
    (hw:∀ k,k<w.heap.size→k ∉ c.key→w'.heap[k]?=w.heap[k]?) (hc':c'.holds w') (hk:∀ k ∈ c'.key,k ∈ c.key ∨ w.heap.size≤k):St b (sput S t (some c')) w' := by
  have oth:∀ u d,u≠t→S u=some d→d.holds w' := fun u d hne e =>
    d.stable _ _ (h.holds u d e) (fun k hkd=>hw k (h.lt e k hkd) (fun hkc=>h.apart u t d c hne e hc k hkd hkc))
  refine ⟨h.ok,⟨hos.trans h.below.os,htp.trans h.below.tape,hout.trans h.below.output,Nat.le_trans h.below.size hsz,fun k hkk hn=>(hw k (Nat.lt_of_lt_of_le hkk h.below.size) (fun hkc=>?_)).trans (h.below.block k hkk hn)⟩,fun u d e=>?_,fun u d e k hkd=>?_,fun u v d e hne hu hv k hkd hke=>?_⟩
  · rcases h.own t c hc k hkc with h1 | h1
    · omega
    · exact hn h1
  · by_cases hut:u=t
    · subst hut
      rw [sput_same] at e
      obtain rfl := Option.some.inj e
      exact hc'
    · rw [sput_ne S _ hut] at e
      exact oth u d hut e
  · by_cases hut:u=t
    · subst hut
      rw [sput_same] at e
      obtain rfl := Option.some.inj e
      rcases hk k hkd with h1 | h1
      · exact h.own _ c hc k h1
      · exact .inl (Nat.le_trans h.below.size h1)
    · rw [sput_ne S _ hut] at e
      exact h.own u d e k hkd
  · by_cases hut:u=t
    · subst hut
      rw [sput_same] at hu
      obtain rfl := Option.some.inj hu
      rw [sput_ne S _ (Ne.symm hne)] at hv
      rcases hk k hkd with h1 | h1
      · exact h.apart u v c e hne hc hv k h1 hke
      · have := h.lt hv k hke
        omega
    · rw [sput_ne S _ hut] at hu
      by_cases hvt:v=t
      · subst hvt
        rw [sput_same] at hv
        obtain rfl := Option.some.inj hv
        rcases hk k hke with h1 | h1
        · exact h.apart u v d c hne hu hc k hkd h1
        · have := h.lt hu k hkd
          omega
      · rw [sput_ne S _ hvt] at hv
        exact h.apart u v d e hne hu hv k hkd hke
structure Bs.le (b b':Bs):Prop where
  below:BelowK b b'.w
  ks:∀ k,b'.ks k→k<b.w.heap.size→b.ks k
  fz:∀ k,b.fz k→b'.fz k
  fzb:∀ k,b'.fz k→b.fz k ∨ b.w.heap.size≤k ∨ b.ks k
theorem Bs.le.refl (b:Bs):b.le b := ⟨BelowK.refl b,fun _ h _=>h,fun _ h=>h,fun _ h=>.inl h⟩
theorem BelowK.up {b b':Bs} {w:World} (hb:b.le b') (h:BelowK b' w):BelowK b w :=
  ⟨h.os.trans hb.below.os,h.tape.trans hb.below.tape,h.output.trans hb.below.output,Nat.le_trans hb.below.size h.size,fun k hk hn=>(h.block k (Nat.lt_of_lt_of_le hk hb.below.size) (fun hk'=>hn (hb.ks k hk' hk))).trans (hb.below.block k hk hn)⟩
theorem Bs.le.trans {a b c:Bs} (h:a.le b) (h':b.le c):a.le c :=
  ⟨BelowK.up h h'.below,fun k hk hlt=>h.ks k (h'.ks k hk (Nat.lt_of_lt_of_le hlt h.below.size)) hlt,fun k hk=>h'.fz k (h.fz k hk),fun k hk=>by
    rcases h'.fzb k hk with h1 | h1 | h1
    · exact h.fzb k h1
    · exact .inr (.inl (Nat.le_trans h.below.size h1))
    · by_cases e:k<a.w.heap.size
      · exact .inr (.inr (h.ks k h1 e))
      · exact .inr (.inl (by omega))⟩
theorem St.later {b b':Bs} {S:Sto} {w:World} (hok:∀ k,b.fz k→k<b.w.heap.size∧¬ b.ks k) (hb:b.le b') (h:St b' S w):St b S w :=
  ⟨hok,BelowK.up hb h.below,h.holds,fun t c e k hk=>by
    rcases h.own t c e k hk with h1 | h1
    · exact .inl (Nat.le_trans hb.below.size h1)
    · by_cases e:k<b.w.heap.size
      · exact .inr (hb.ks k h1 e)
      · exact .inl (by omega),h.apart⟩
theorem St.freeze {b:Bs} {S:Sto} {w:World} (h:St b S w) {t:Nat} {c:Ck} (hc:S t=some c):∃ b',b.le b'∧b'.w=w∧(∀ k ∈ c.key,b'.fz k)∧St b' (sput S t none) w := by
  refine ⟨⟨w,fun k=>∃ u d,u≠t∧S u=some d∧k ∈ d.key,fun k=>b.fz k ∨ k ∈ c.key⟩,⟨h.below,?_,fun k hk=>.inl hk,?_⟩,rfl,fun k hk=>.inr hk,?_⟩
  · rintro k ⟨u,d,_,hu,hk⟩ hlt
    rcases h.own u d hu k hk with h1 | h1
    · omega
    · exact h1
  · rintro k (hk | hk)
    · exact .inl hk
    · rcases h.own t c hc k hk with h1 | h1
      · exact .inr (.inl h1)
      · exact .inr (.inr h1)
  · have sub:∀ u d,sput S t none u=some d→u≠t∧S u=some d := fun u d e=>by
      by_cases hut:u=t
      · subst hut; rw [sput_same] at e; cases e
      · rw [sput_ne S _ hut] at e; exact ⟨hut,e⟩
    refine ⟨?_,BelowK.refl _,fun u d e=>h.holds u d (sub u d e).2,fun u d e k hk=>.inr ⟨u,d,(sub u d e).1,(sub u d e).2,hk⟩,fun u v d e hne hu hv=>h.apart u v d e hne (sub u d hu).2 (sub v e hv).2⟩
    rintro k (hk | hk)
    · refine ⟨Nat.lt_of_lt_of_le (h.ok k hk).1 h.below.size,?_⟩
      rintro ⟨u,d,_,hu,hkd⟩
      exact h.fz_own hu k hkd hk
    · refine ⟨h.lt hc k hk,?_⟩
      rintro ⟨u,d,hne,hu,hkd⟩
      exact h.apart u t d c hne hu hc k hkd hk
theorem St.joinf {b b':Bs} {w w':World} {S R:Sto} {ts:List Nat} {cs:List Ck} (h:St b S w) (hb:Bor S ts cs) (hle:(lent b w cs []).le b') (hr:St b' R w') (off:Nat) :
    ∃ b2,b.le b2∧b2.w=w'∧b2.fz=b'.fz∧St b2 (sjoinb S ts off R) w' := by
  have hokl:∀ k,(lent b w cs []).fz k→k<w.heap.size∧¬ (lent b w cs []).ks k := fun k hk=>by
    rcases hk with hk | hk
    · refine ⟨Nat.lt_of_lt_of_le (h.ok k hk).1 h.below.size,fun hm=>?_⟩
      obtain ⟨c,hc,hkc⟩ := kys_mem hm
      obtain ⟨t,_,h2⟩ := bor_mem hb c hc
      exact h.fz_own h2 k hkc hk
    · cases hk
  have hj := h.joinb hb (St.later hokl hle hr) off
  refine ⟨⟨w',fun k=>∃ u d,sjoinb S ts off R u=some d∧k ∈ d.key,b'.fz⟩,⟨hj.below,?_,fun k hk=>hle.fz k (.inl hk),?_⟩,rfl,rfl,?_⟩
  · rintro k ⟨u,d,hu,hk⟩ hlt
    rcases hj.own u d hu k hk with h1 | h1
    · omega
    · exact h1
  · intro k hk
    rcases hle.fzb k hk with (h1 | h1) | h1 | h1
    · exact .inl h1
    · cases h1
    · exact .inr (.inl (Nat.le_trans h.below.size h1))
    · rcases h.lent_own hb k h1 with h2 | h2
      · exact .inr (.inl h2)
      · exact .inr (.inr h2)
  · refine ⟨fun k hk=>⟨Nat.lt_of_lt_of_le (hr.ok k hk).1 hr.below.size,?_⟩,BelowK.refl _,hj.holds,fun u d e k hk=>.inr ⟨u,d,e,hk⟩,hj.apart⟩
    rintro ⟨u,d,hu,hkd⟩
    unfold sjoinb at hu
    have fromS:∀ u d,u ∉ ts→S u=some d→k ∈ d.key→False := fun u d hn hu hkd=>by
      have hlt := h.lt hu k hkd
      rcases hle.fzb k hk with (h1 | h1) | h1 | h1
      · exact h.fz_own hu k hkd h1
      · cases h1
      · have h2:w.heap.size≤k := h1
        omega
      · obtain ⟨c,hc,hkc⟩ := kys_mem h1
        obtain ⟨t,h2,h3⟩ := bor_mem hb c hc
        exact h.apart t u c d (fun e=>hn (e ▸ h2)) h3 hu k hkc hkd
    cases hi:bidx ts 0 u with
    | some i =>
      rw [hi] at hu
      exact hr.fz_own hu k hkd hk
    | none =>
      rw [hi] at hu
      cases ho:Nat.ble off u with
      | true=>simp only [ho,cond_true] at hu; exact hr.fz_own hu k hkd hk
      | false=>simp only [ho,cond_false] at hu; exact fromS u d (bidx_none hi) hu hkd
def Ls (P:Program) (Q:Exit→Act→World→Prop) (n:Nat) (ops:Array Oper) (l:List Oper) (f:Fr) (w0:Bs) (S:Sto):Prop := ∀ a w,At n f a→St w0 S w→wpList P ops Q l a w
def Cs (P:Program) (Q:Exit→Act→World→Prop) (n:Nat) (c:Code) (f:Fr) (w0:Bs) (S:Sto):Prop := ∀ a w,At n f a→St w0 S w→Code.wp P c Q a w
section
variable {P:Program} {Q:Exit→Act→World→Prop} {n:Nat} {ops:Array Oper} {rest:List Oper} {o:Oper} {f:Fr} {w0:Bs} {S:Sto} {d:Nat} {v:Value}
theorem ls_op (hg:o.guard=none) (h:∀ a w,At n f a→St w0 S w→o.wp P a w (wpList P ops Q rest) Q):Ls P Q n ops (o :: rest) f w0 S := fun a w ha hs =>
  wpList_plain hg fun K hK=>Oper.wp_mono hK (h a w ha hs)
theorem op_wp {a:Act} {w:World} (ha:At n f a) {K:Act→World→Prop} (h:o.upon P a K Q ((execOp (ev f) o).run P w)):o.wp P a w K Q := by
  unfold Oper.wp
  rw [ha.eval]
  exact h
theorem ls_val (hg:o.guard=none) (hd:o.dst=some d) (hn:Nat.blt d n=true) (hr:∀ w,(execOp (ev f) o).run P w=.ok (.value v) w) (h:Ls P Q n ops rest (upd f d v) w0 S):Ls P Q n ops (o :: rest) f w0 S :=
  ls_op hg fun a w ha hs=>op_wp ha (by rw [hr w]; show wpList P ops Q rest (a.put o.dst v) w; rw [hd]; exact h _ _ (ha.put hn v) hs)
theorem ls_read (hg:o.guard=none) (hd:o.dst=some d) (hn:Nat.blt d n=true) (hr:∀ w,St w0 S w→(execOp (ev f) o).run P w=.ok (.value v) w) (h:Ls P Q n ops rest (upd f d v) w0 S):Ls P Q n ops (o :: rest) f w0 S :=
  ls_op hg fun a w ha hs=>op_wp ha (by rw [hr w hs]; show wpList P ops Q rest (a.put o.dst v) w; rw [hd]; exact h _ _ (ha.put hn v) hs)
theorem ls_new (hg:o.guard=none) (hd:o.dst=some d) (hn:Nat.blt d n=true) (t:Nat) (mk:Nat→Value) (ob:Obj) (hr:∀ w,(execOp (ev f) o).run P w=.ok (.value (mk w.heap.size)) (w.alloc ob))
    (h:∀ g,Ls P Q n ops rest (upd f d (mk g)) w0 (sput S t (some (Ck.obj g ob)))):Ls P Q n ops (o :: rest) f w0 S :=
  ls_op hg fun a w ha hs=>op_wp ha (by
    rw [hr w]
    show wpList P ops Q rest (a.put o.dst _) _
    rw [hd]
    exact h w.heap.size _ _ (ha.put hn _) (hs.new ((Below.refl _ _).alloc (Nat.le_refl _) ob) t (c:=Ck.obj w.heap.size ob) (heap_alloc_new w ob) (fun k hk=>Nat.le_of_eq (show k=w.heap.size by simpa [Ck.obj] using hk).symm)))
theorem ls_know {l:List Oper} {b c:Bool} (e:b=c) (t:Nat) (hf:f t=.bool b) (h:Ls P Q n ops l (upd f t (.bool c)) w0 S):Ls P Q n ops l f w0 S := by
  have:f=upd f t (.bool c) := by
    funext u
    by_cases hu:u=t
    · subst hu; rw [upd_same,hf,e]
    · rw [upd_ne f _ hu]
  rw [this]; exact h
theorem cs_know {y:Code} {b c:Bool} (e:b=c) (t:Nat) (hf:f t=.bool b) (h:Cs P Q n y (upd f t (.bool c)) w0 S):Cs P Q n y f w0 S := by
  have:f=upd f t (.bool c) := by
    funext u
    by_cases hu:u=t
    · subst hu; rw [upd_same,hf,e]
    · rw [upd_ne f _ hu]
  rw [this]; exact h
theorem yielded_of {a:Act} {j t:Nat} {b:Bool} (ha:At n f a) (ht:(ops[j]?).bind (·.dst)=some t) (hn:Nat.blt t n=true) (hf:f t=.bool b):yielded ops a.tmps j=some b := by
  have hlt:t<a.tmps.size := by have := ha.size; simp [Nat.blt] at hn; omega
  have h1:a.tmps[t]?=some (.bool b) := by
    have h2 := ha.get t
    rw [hf,Array.getD_eq_getD_getElem?,Array.getElem?_eq_getElem hlt,Option.getD_some] at h2
    rw [Array.getElem?_eq_getElem hlt,h2]
  simp only [yielded,ht,Option.bind_some,h1]
theorem ls_on {j t:Nat} {b:Bool} (hgd:o.guard=some (j,b)) (ht:(ops[j]?).bind (·.dst)=some t) (hn:Nat.blt t n=true) (hf:f t=.bool b) (h:Ls P Q n ops ({ o with guard := none } :: rest) f w0 S):Ls P Q n ops (o :: rest) f w0 S := fun a w ha hs=>by
  have h1 := h a w ha hs
  have hw:Region.wanted o (yielded ops a.tmps)=true := by simp [Region.wanted,hgd,yielded_of ha ht hn hf]
  unfold wpList at h1 ⊢
  rw [if_pos (by simp [Region.wanted])] at h1
  rw [if_pos hw]
  exact h1
theorem ls_off {j t:Nat} {b c:Bool} (hgd:o.guard=some (j,b)) (ht:(ops[j]?).bind (·.dst)=some t) (hn:Nat.blt t n=true) (hf:f t=.bool c) (hbc:(c==b)=false) (hd:o.dst=some d) (hdn:Nat.blt d n=true) (h:Ls P Q n ops rest (upd f d undef) w0 S):Ls P Q n ops (o :: rest) f w0 S := fun a w ha hs=>by
  have hw:Region.wanted o (yielded ops a.tmps)=false := by
    simp only [Region.wanted,hgd,yielded_of ha ht hn hf]
    cases b <;> cases c <;> simp_all
  unfold wpList
  rw [if_neg (by rw [hw]; decide),hd]
  exact h _ _ (ha.put hdn _) hs
theorem cs_seq {x y:Code} (h:Cs P (Exit.then (Code.wp P y Q) Q) n x f w0 S):Cs P Q n (.seq x y) f w0 S := fun a w ha hs=>wp_seq (h a w ha hs)
theorem cs_region {id:Nat} {l:List Oper} (h:Ls P Q n l.toArray l f w0 S):Cs P Q n (.region id l.toArray false) f w0 S := fun a w ha hs=>wp_region_lit (h a w ha hs)
theorem cs_skip (h:∀ a w,At n f a→St w0 S w→Q .normal a w):Cs P Q n .skip f w0 S := fun a w ha hs=>wp_skip (h a w ha hs)
theorem cs_exit {id:Nat} (h:∀ a w,At n f a→St w0 S w→Q (.exit id) a w):Cs P Q n (.exit id) f w0 S := fun a w ha hs=>wp_exit (h a w ha hs)
theorem cs_ret (h:∀ a w,At n f a→St w0 S w→Q .ret a w):Cs P Q n .ret f w0 S := fun a w ha hs=>wp_ret (h a w ha hs)
theorem cs_block {id:Nat} {x:Code} (h:Cs P (Exit.inBlock id Q) n x f w0 S):Cs P Q n (.block id x) f w0 S := fun a w ha hs=>wp_block (h a w ha hs)
theorem cs_true {c:Operand} {x y:Code} (hc:ev f c=.bool true) (h:Cs P Q n x f w0 S):Cs P Q n (.cond c x y) f w0 S := fun a w ha hs=>wp_cond_true (by rw [ha.eval]; exact hc) (h a w ha hs)
theorem cs_false {c:Operand} {x y:Code} (hc:ev f c=.bool false) (h:Cs P Q n y f w0 S):Cs P Q n (.cond c x y) f w0 S := fun a w ha hs=>wp_cond_false (by rw [ha.eval]; exact hc) (h a w ha hs)
theorem cs_cut {x y:Code} (I:Fr→Sto→Prop) (h1:Cs P (Exit.then (fun a w=>∃ f' S',I f' S'∧At n f' a∧St w0 S' w) Q) n x f w0 S) (h2:∀ f' S',I f' S'→Cs P Q n y f' w0 S'):Cs P Q n (.seq x y) f w0 S := fun a w ha hs =>
  wp_seq (wp_mono (h1 a w ha hs) (fun e a w q=>by
    cases e with
    | normal=>obtain ⟨f',S',hI,ha',hs'⟩ := q; exact h2 f' S' hI a w ha' hs'
    | _=>exact q))
theorem cs_loop {x:Code} (I:Nat→Fr→Sto→Prop) (k:Nat) (h0:I k f S) (hz:∀ f S,¬ I 0 f S)
    (hr:∀ k f S,I (k+1) f S→Cs P (Exit.then (fun a w=>∃ k' f' S',k'≤k∧I k' f' S'∧At n f' a∧St w0 S' w) Q) n x f w0 S):Cs P Q n (.loop x) f w0 S := fun a w ha hs=>by
  have key:∀ m k,k≤m→∀ f S a w,I k f S→At n f a→St w0 S w→Code.rounds P x Q m a w := by
    intro m
    induction m with
    | zero =>
      intro k hk f S a w hI
      have hk0:k=0 := by omega
      subst hk0
      exact (hz _ _ hI).elim
    | succ m ih =>
      intro k hk f S a w hI ha hs
      cases k with
      | zero=>exact (hz _ _ hI).elim
      | succ k =>
        rw [rounds_succ]
        refine wp_mono (hr k f S hI a w ha hs) (fun e a w q=>?_)
        cases e with
        | normal =>
          obtain ⟨k',f',S',hk',hI',ha',hs'⟩ := q
          exact ih k' (by omega) f' S' a w hI' ha' hs'
        | _=>exact q
  exact wp_loop_rounds k (key k k (Nat.le_refl _) f S a w h0 ha hs)
theorem cs_cutb {x y:Code} (I:Bs→Fr→Sto→Prop) (h1:Cs P (Exit.then (fun a w=>∃ b' f' S',I b' f' S'∧At n f' a∧St b' S' w) Q) n x f w0 S) (h2:∀ b' f' S',I b' f' S'→Cs P Q n y f' b' S'):Cs P Q n (.seq x y) f w0 S := fun a w ha hs =>
  wp_seq (wp_mono (h1 a w ha hs) (fun e a w q=>by
    cases e with
    | normal=>obtain ⟨b',f',S',hI,ha',hs'⟩ := q; exact h2 b' f' S' hI a w ha' hs'
    | _=>exact q))
theorem cs_loopb {x:Code} (I:Nat→Bs→Fr→Sto→Prop) (k:Nat) (h0:I k w0 f S) (hz:∀ b f S,¬ I 0 b f S)
    (hr:∀ k b f S,I (k+1) b f S→Cs P (Exit.then (fun a w=>∃ k' b' f' S',k'≤k∧I k' b' f' S'∧At n f' a∧St b' S' w) Q) n x f b S):Cs P Q n (.loop x) f w0 S := fun a w ha hs=>by
  have key:∀ m k,k≤m→∀ b f S a w,I k b f S→At n f a→St b S w→Code.rounds P x Q m a w := by
    intro m
    induction m with
    | zero =>
      intro k hk b f S a w hI
      have hk0:k=0 := by omega
      subst hk0
      exact (hz _ _ _ hI).elim
    | succ m ih =>
      intro k hk b f S a w hI ha hs
      cases k with
      | zero=>exact (hz _ _ _ hI).elim
      | succ k =>
        rw [rounds_succ]
        refine wp_mono (hr k b f S hI a w ha hs) (fun e a w q=>?_)
        cases e with
        | normal =>
          obtain ⟨k',b',f',S',hk',hI',ha',hs'⟩ := q
          exact ih k' (by omega) b' f' S' a w hI' ha' hs'
        | _=>exact q
  exact wp_loop_rounds k (key k k (Nat.le_refl _) w0 f S a w h0 ha hs)
theorem enterb {fid:FuncId} {fn:Func} {c:Code} {args:Array Value} {w:World} {R:Ending→World→Prop} (hf:P.funcs[fid]?=some fn) (hb:fn.body=some c) (hn:Nat.beq fn.ntmps n=true) (ha:Nat.ble args.size n=true) (hs:St w0 S w)
    (h:Cs P (bodyPost P fn R) n c (fun t=>args.getD t undef) w0 S):Calls P fid args w R := by
  have hn := Nat.eq_of_beq_eq_true hn
  have ha := Nat.le_of_ble_eq_true ha
  refine calls_of_wp hf hb (h _ _ ⟨?_,rfl,fun t=>?_⟩ hs)
  · simp; omega
  · by_cases ht:t<args.size
    · simp [Array.getD_eq_getD_getElem?,Array.getElem?_append,ht]
    · simp only [Array.getD_eq_getD_getElem?,Array.getElem?_append,ht,if_false,Array.getElem?_replicate]
      split <;> simp [ht]
theorem enter {fid:FuncId} {fn:Func} {c:Code} {args:Array Value} {w:World} {R:Ending→World→Prop} (hf:P.funcs[fid]?=some fn) (hb:fn.body=some c) (hn:Nat.beq fn.ntmps n=true) (ha:Nat.ble args.size n=true)
    (h:Cs P (bodyPost P fn R) n c (fun t=>args.getD t undef) (bw w) s0):Calls P fid args w R := enterb hf hb hn ha (St.refl w) h
end
def Rd (w:World) (A:Option Addr) (cs:List Value):Prop := ∀ j u,cs[j]?=some u→∃ ad,A=some ad∧w.cell? (ad.add j)=some u
theorem cell_step {w w':World} (hb:Below w.heap.size w w') {a:Addr} {v:Value} (h:w.cell? a=some v):w'.cell? a=some v := (hb.cell (World.block_lt_of_cell? w a h)).trans h
theorem Rd.step {w w':World} {A:Option Addr} {cs:List Value} (h:Rd w A cs) (hb:Below w.heap.size w w'):Rd w' A cs := fun j u hj =>
  let ⟨ad,e,hc⟩ := h j u hj
  ⟨ad,e,cell_step hb hc⟩
theorem add_add (a:Addr) (i j:Nat):(a.add i).add j=a.add (i+j) := by
  unfold Addr.add
  by_cases hi:i=0
  · subst hi; simp
  · by_cases hj:j=0
    · subst hj; simp
    · rw [if_neg hi,if_neg hj,if_neg (by omega)]
      simp [Nat.add_assoc]
theorem Rd.take {w:World} {A:Option Addr} {cs:List Value} (h:Rd w A cs) (m:Nat):Rd w A (cs.take m) := fun j u hj=>h j u (by
  rw [List.getElem?_take] at hj
  split at hj
  · exact hj
  · cases hj)
theorem Rd.cut {w:World} {A:Option Addr} {cs:List Value} (h:Rd w A cs) (m:Nat) (c:Prop) [Decidable c] (hc:c→cs.length≤m):Rd w (if c then A else A.map (·.add m)) (cs.drop m) := fun j u hj=>by
  rw [List.getElem?_drop] at hj
  obtain ⟨ad,e,h1⟩ := h _ _ hj
  have hlt:m+j<cs.length := (List.getElem?_eq_some_iff.1 hj).1
  rw [if_neg (fun h2=>by have := hc h2; omega)]
  exact ⟨ad.add m,by rw [e]; rfl,by rw [add_add]; exact h1⟩
def Ro (b:Bs) (A:Option Addr) (cs:List Value):Prop := ∀ j u,cs[j]?=some u→∃ ad,A=some ad∧b.w.cell? (ad.add j)=some u∧b.fz ad.block
theorem add_block (a:Addr) (n:Nat):(a.add n).block=a.block := by unfold Addr.add; split <;> rfl
theorem Rd.ro {w:World} {A:Option Addr} {cs:List Value} (h:Rd w A cs):Ro (bw w) A cs := fun j u hj =>
  let ⟨ad,e,hc⟩ := h j u hj
  ⟨ad,e,hc,by have := World.block_lt_of_cell? w _ hc; rw [add_block] at this; exact this⟩
theorem Ro.take {b:Bs} {A:Option Addr} {cs:List Value} (h:Ro b A cs) (m:Nat):Ro b A (cs.take m) := fun j u hj=>h j u (by
  rw [List.getElem?_take] at hj
  split at hj
  · exact hj
  · cases hj)
theorem Ro.cut {b:Bs} {A:Option Addr} {cs:List Value} (h:Ro b A cs) (m:Nat) (c:Prop) [Decidable c] (hc:c→cs.length≤m):Ro b (if c then A else A.map (·.add m)) (cs.drop m) := fun j u hj=>by
  rw [List.getElem?_drop] at hj
  obtain ⟨ad,e,h1,h3⟩ := h _ _ hj
  have hlt:m+j<cs.length := (List.getElem?_eq_some_iff.1 hj).1
  rw [if_neg (fun h2=>by have := hc h2; omega)]
  exact ⟨ad.add m,by rw [e]; rfl,by rw [add_add]; exact h1,by rw [add_block]; exact h3⟩
theorem Ro.nil (b:Bs) (A:Option Addr):Ro b A [] := fun j u hj=>by simp at hj
theorem Rd.nil (w:World) (A:Option Addr):Rd w A [] := fun j u hj=>by simp at hj
theorem cell_same {w w':World} {a:Addr} (h:w'.heap[a.block]?=w.heap[a.block]?):w'.cell? a=w.cell? a := by
  simp only [World.cell?,h]
theorem St.old {w:World} {w0:Bs} {S:Sto} {A:Option Addr} (h:St w0 S w) {cs:List Value} (hr:Ro w0 A cs):Rd w A cs := fun j u hj =>
  let ⟨ad,ee,hc,hb⟩ := hr j u hj
  ⟨ad,ee,(cell_same (h.below.block _ (World.block_lt_of_cell? w0.w _ hc) (by rw [add_block]; exact (h.ok _ hb).2))).trans hc⟩
theorem Ro.mono {b b':Bs} {A:Option Addr} {cs:List Value} (hok:∀ k,b.fz k→k<b.w.heap.size∧¬ b.ks k) (hb:b.le b') (h:Ro b A cs):Ro b' A cs := fun j u hj =>
  let ⟨ad,ee,hc,hf⟩ := h j u hj
  ⟨ad,ee,(cell_same (hb.below.block _ (World.block_lt_of_cell? b.w _ hc) (by rw [add_block]; exact (hok _ hf).2))).trans hc,hb.fz _ hf⟩
theorem Ro.same {b' b2:Bs} {R:Sto} {w:World} (h:St b' R w) (hw:b2.w=w) (hf:b2.fz=b'.fz) {A:Option Addr} {cs:List Value} (hr:Ro b' A cs):Ro b2 A cs := fun j u hj =>
  let ⟨ad,ee,hc,hfz⟩ := hr j u hj
  ⟨ad,ee,by rw [hw]; exact (cell_same (h.below.block _ (World.block_lt_of_cell? b'.w _ hc) (by rw [add_block]; exact (h.ok _ hfz).2))).trans hc,by rw [hf]; exact hfz⟩
theorem St.ro {w:World} {w0:Bs} {S:Sto} {A:Option Addr} (h:St w0 S w) {cs:List Value} (hr:Ro w0 A cs) (cl ro:List Ck):Ro (lent w0 w cl ro) A cs := fun j u hj =>
  let ⟨ad,ee,hc⟩ := h.old hr j u hj
  ⟨ad,ee,hc,.inl (let ⟨ad',e',_,hf⟩ := hr j u hj; by rw [ee] at e'; injection e' with e'; rw [e']; exact hf)⟩
theorem Rd.ror {w:World} {w0:Bs} {A:Option Addr} {cs:List Value} (h:Rd w A cs) {c:Ck} {cl ro:List Ck} (hm:c ∈ ro) (hk:∀ ad,A=some ad→ad.block ∈ c.key):Ro (lent w0 w cl ro) A cs := fun j u hj =>
  let ⟨ad,ee,hc⟩ := h j u hj
  ⟨ad,ee,hc,.inr (mem_kys hm (hk ad ee))⟩
theorem add0 (g j:Nat):(⟨g,0,none⟩:Addr).add j=⟨g,j,none⟩ := by unfold Addr.add; split <;> simp_all
theorem addo (g a b:Nat):(⟨g,a,none⟩:Addr).add b=⟨g,a+b,none⟩ := by
  unfold Addr.add
  split
  · rename_i h; subst h; rfl
  · rfl
theorem rd_row {w:World} {b:Nat} {e:TypeId} {sz n:Nat} {A:Option Addr} {m c:Nat} {xs:List Value} (h:w.ownsRow b e sz (.slice A m c) n xs):Rd w A xs := fun j u hj=>by
  rcases h.2 with ⟨_,hn⟩ | ⟨g,cap,cur,hv,hg,hh,r⟩
  · have hl := h.1
    rw [hn,Nat.zero_mul] at hl
    rw [List.eq_nil_of_length_eq_zero hl] at hj
    simp at hj
  · injection hv with hA _ _
    subst hA
    exact ⟨_,rfl,h.cells rfl j u hj⟩
def aggD:TypeDesc→Bool
  | .struct _=>true
  | .array _ _=>true
  | _=>false
def en {α:Type} (E:α→Value) (l:List α):List Value := l.map E
theorem en_length {α:Type} (E:α→Value) (l:List α):(en E l).length=l.length := by simp [en]
theorem en_append {α:Type} (E:α→Value) (l m:List α):en E (l++m)=en E l++en E m := by simp [en]
theorem en_get {α:Type} (E:α→Value) (l:List α) (d:α) {j:Nat} (h:j<l.length):(en E l)[j]?=some (E (l.getD j d)) := by
  simp [en,List.getElem?_eq_getElem h,List.getD_eq_getElem?_getD]
structure Sub4 (cs:List Value) (off:Nat) (sub:List Value):Prop where
  get:∀ j,j<sub.length→cs[off+j]?=sub[j]?
  len:off+sub.length≤cs.length
def splc (cs:List Value) (off:Nat) (vs:List Value):List Value := cs.take off++vs++cs.drop (off+vs.length)
theorem Sub4.all (cs:List Value):Sub4 cs 0 cs := ⟨fun j hj=>by rw [Nat.zero_add],by omega⟩
theorem Sub4.head (c rest:List Value):Sub4 (c++rest) 0 c := ⟨fun j hj=>by rw [Nat.zero_add,List.getElem?_append_left hj],by simp⟩
theorem Sub4.skip {c rest sub:List Value} {n off:Nat} (hn:c.length=n) (h:Sub4 rest off sub):Sub4 (c++rest) (n+off) sub := ⟨fun j hj=>by
  rw [List.getElem?_append_right (by omega),← h.get j hj]
  congr 1
  omega,by have := h.len; simp; omega⟩
theorem Sub4.one {α:Type} (E:α→Value) (l:List α) (d:α) {i:Nat} (h:i<l.length):Sub4 (en E l) i [E (l.getD i d)] := ⟨fun j hj=>by
  have:j=0 := by simp at hj; omega
  subst this
  rw [Nat.add_zero,en_get E l d h]
  rfl,by simp [en_length]; omega⟩
theorem Sub4.trans {cs sub sub':List Value} {off off':Nat} (h:Sub4 cs off sub) (h':Sub4 sub off' sub'):Sub4 cs (off+off') sub' := ⟨fun j hj=>by
  have := h'.len
  rw [← h'.get j hj,← h.get (off'+j) (by omega),Nat.add_assoc],by have := h.len; have := h'.len; omega⟩
theorem Sub4.first {cs:List Value} {off:Nat} {v:Value} (h:Sub4 cs off [v]):cs[off]?=some v := by
  have := h.get 0 (by simp)
  simpa using this
theorem splc_length {cs vs:List Value} {off:Nat} (h:off+vs.length≤cs.length):(splc cs off vs).length=cs.length := by
  simp [splc]
  omega
theorem splc_all {cs vs:List Value} (h:vs.length=cs.length):splc cs 0 vs=vs := by
  simp [splc]
  omega
theorem splc_head {c rest vs:List Value} (h:vs.length=c.length):splc (c++rest) 0 vs=vs++rest := by
  simp [splc,h]
theorem splc_skip {c rest vs r:List Value} {n off:Nat} (hn:c.length=n) (h:splc rest off vs=r):splc (c++rest) (n+off) vs=c++r := by
  subst hn
  subst h
  simp only [splc,List.append_assoc]
  rw [List.take_length_add_append,List.drop_append,List.append_assoc]
  congr 4
  · rw [List.drop_of_length_le (by omega)]
    simp
    congr 1
    omega
theorem splc_one {α:Type} (E:α→Value) (l:List α) (x:α) {i:Nat} (h:i<l.length):splc (en E l) i [E x]=en E (l.set i x) := by
  simp only [splc,en,List.length_singleton]
  rw [List.set_eq_take_append_cons_drop,if_pos h]
  simp
theorem splc_get {cs vs:List Value} {off:Nat} (h:off+vs.length≤cs.length) (j:Nat):(splc cs off vs)[j]?=if j<off then cs[j]? else if j<off+vs.length then vs[j - off]? else cs[j]? := by
  simp only [splc,List.append_assoc]
  by_cases h1:j<off
  · rw [if_pos h1,List.getElem?_append_left (by simp; omega),List.getElem?_take,if_pos h1]
  · rw [if_neg h1,List.getElem?_append_right (by simp; omega)]
    simp only [List.length_take,Nat.min_eq_left (show off≤cs.length by omega)]
    by_cases h2:j<off+vs.length
    · rw [if_pos h2,List.getElem?_append_left (by omega)]
    · rw [if_neg h2,List.getElem?_append_right (by omega),List.getElem?_drop]
      congr 1
      omega
theorem splc_in {cs sub sub' vs r:List Value} {off off':Nat} (h:Sub4 cs off sub) (h1:splc sub off' vs=sub') (h2:splc cs off sub'=r) (hl:off'+vs.length≤sub.length):splc cs (off+off') vs=r := by
  have hs := splc_length hl
  rw [h1] at hs
  have hlen := h.len
  rw [← h2]
  apply List.ext_getElem?
  intro j
  rw [splc_get (by omega),splc_get (by omega)]
  by_cases c1:j<off
  · rw [if_pos (by omega),if_pos c1]
  · rw [if_neg c1]
    by_cases c2:j<off+sub.length
    · rw [if_pos (show j<off+sub'.length by omega),← h1,splc_get hl]
      have e:cs[j]?=sub[j - off]? := by
        rw [← h.get (j - off) (by omega)]
        congr 1
        omega
      by_cases c3:j<off+off'
      · rw [if_pos c3,if_pos (by omega),e]
      · rw [if_neg c3,if_neg (show ¬ j - off<off' by omega)]
        by_cases c4:j<off+off'+vs.length
        · rw [if_pos c4,if_pos (show j - off<off'+vs.length by omega)]
          congr 1
          omega
        · rw [if_neg c4,if_neg (show ¬ j - off<off'+vs.length by omega),e]
    · rw [if_neg (by omega),if_neg (by omega),if_neg (by omega)]
abbrev Vc (α:Type) (n:Nat) := { l:List α // l.length=n }
def vrep {α:Type} (n:Nat) (x:α):Vc α n := ⟨List.replicate n x,by simp⟩
def vset {α:Type} {n:Nat} (v:Vc α n) (i:Nat) (x:α):Vc α n := ⟨v.1.set i x,by rw [List.length_set]; exact v.2⟩
def vpad {α:Type} (n:Nat) (d:α) (l:List α):Vc α n := ⟨(l++List.replicate n d).take n,by simp⟩
theorem vpad_val {α:Type} {n:Nat} {d:α} {l:List α} (h:n≤l.length):(vpad n d l).1=l.take n := by
  simp only [vpad]
  rw [List.take_append_of_le_length h]
theorem len1 (v:Value):[v].length=1 := rfl
theorem len_en {α:Type} {n:Nat} (E:α→Value) (v:Vc α n):(en E v.1).length=n := by rw [en_length]; exact v.2
theorem len_app {c r:List Value} {a b:Nat} (h1:c.length=a) (h2:r.length=b):(c++r).length=a+b := by rw [List.length_append,h1,h2]
theorem len_eq {c r:List Value} {a:Nat} (h1:c.length=a) (h2:r.length=a):c.length=r.length := h1.trans h2.symm
theorem one_en {α:Type} {E:α→Value} (hE:∀ x,(E x).oneCell'=true) (l:List α):∀ u ∈ en E l,u.oneCell'=true := fun u hu=>by
  simp only [en,List.mem_map] at hu
  obtain ⟨x,_,rfl⟩ := hu
  exact hE x
theorem one_app {c r:List Value} (h1:∀ u ∈ c,u.oneCell'=true) (h2:∀ u ∈ r,u.oneCell'=true):∀ u ∈ c++r,u.oneCell'=true := fun u hu=>(List.mem_append.1 hu).elim (h1 u) (h2 u)
theorem one_nil:∀ u ∈ ([]:List Value),u.oneCell'=true := fun u hu=>by cases hu
theorem one_cons {v:Value} {r:List Value} (h1:v.oneCell'=true) (h2:∀ u ∈ r,u.oneCell'=true):∀ u ∈ v :: r,u.oneCell'=true := fun u hu=>by
  rcases List.mem_cons.1 hu with rfl | hu
  · exact h1
  · exact h2 u hu
theorem Rd.at {w:World} {A:Option Addr} {cs:List Value} (h:Rd w A cs) {ad:Addr} (hA:A=some ad) {off:Nat} {v:Value} (hs:Sub4 cs off [v]):w.cell? (ad.add off)=some v := by
  obtain ⟨ad',e,hc⟩ := h off v hs.first
  rw [hA] at e
  obtain rfl := Option.some.inj e
  exact hc
theorem Rd.part {w:World} {A:Option Addr} {cs:List Value} (h:Rd w A cs) {ad:Addr} (hA:A=some ad) {off:Nat} {sub:List Value} (hs:Sub4 cs off sub):Rd w (some (ad.add off)) sub := fun j u hj=>by
  have hlt := (List.getElem?_eq_some_iff.1 hj).1
  obtain ⟨ad',e,hc⟩ := h (off+j) u (by rw [hs.get j hlt]; exact hj)
  rw [hA] at e
  obtain rfl := Option.some.inj e
  exact ⟨_,rfl,by rw [add_add]; exact hc⟩
structure Ec (α:Type) where
  t:TypeId
  E:α→List Value
  z:Nat
  d:α
  len:∀ x,(E x).length=z
  one:∀ x,∀ u ∈ E x,u.oneCell'=true
  pos:0<z
def Ec.int (t:TypeId) (k:IntKind):Ec Int := ⟨t,fun x=>[.int k x],1,0,fun _=>rfl,fun _=>one_cons rfl one_nil,Nat.one_pos⟩
def Ec.bool (t:TypeId):Ec Bool := ⟨t,fun x=>[.bool x],1,false,fun _=>rfl,fun _=>one_cons rfl one_nil,Nat.one_pos⟩
def em {α:Type} (T:Ec α) (l:List α):List Value := l.flatMap T.E
section
variable {α:Type} (T:Ec α)
theorem em_cons (x:α) (l:List α):em T (x :: l)=T.E x++em T l := by simp [em]
theorem em_length (l:List α):(em T l).length=l.length*T.z := by
  induction l with
  | nil=>simp [em]
  | cons x l ih=>rw [em_cons,List.length_append,ih,T.len,List.length_cons,Nat.add_mul]; omega
theorem em_append (l m:List α):em T (l++m)=em T l++em T m := by simp [em]
theorem em_take (l:List α) (m:Nat):em T (l.take m)=(em T l).take (m*T.z) := by
  induction l generalizing m with
  | nil=>simp [em]
  | cons x l ih =>
    cases m with
    | zero=>simp [em]
    | succ m =>
      have e:(m+1)*T.z=(T.E x).length+m*T.z := by rw [T.len,Nat.add_mul]; omega
      rw [List.take_succ_cons,em_cons,em_cons,ih,e,List.take_length_add_append]
theorem em_drop (l:List α) (m:Nat):em T (l.drop m)=(em T l).drop (m*T.z) := by
  induction l generalizing m with
  | nil=>simp [em]
  | cons x l ih =>
    cases m with
    | zero=>simp
    | succ m =>
      have e:(m+1)*T.z=(T.E x).length+m*T.z := by rw [T.len,Nat.add_mul]; omega
      rw [List.drop_succ_cons,em_cons,ih,e,List.drop_length_add_append]
theorem em_one (l:List α):∀ u ∈ em T l,u.oneCell'=true := fun u hu=>by
  obtain ⟨x,_,hx⟩ := List.mem_flatMap.1 hu
  exact T.one x u hx
theorem em_sub (l:List α) {i:Nat} (h:i<l.length):Sub4 (em T l) (i*T.z) (T.E (l.getD i T.d)) := by
  induction l generalizing i with
  | nil=>simp at h
  | cons x l ih =>
    cases i with
    | zero=>rw [em_cons,Nat.zero_mul]; exact Sub4.head _ _
    | succ i =>
      have e:(i+1)*T.z=T.z+i*T.z := by rw [Nat.add_mul]; omega
      rw [em_cons,e]
      exact Sub4.skip (T.len x) (ih (by simpa using h))
theorem em_en {T:Ec α} {E:α→Value} (h:T.E=fun x=>[E x]) (l:List α):em T l=en E l := by
  unfold em en
  rw [h]
  induction l with
  | nil=>rfl
  | cons x l ih=>rw [List.flatMap_cons,ih]; rfl
end
theorem em_int (t:TypeId) (k:IntKind) (l:List Int):em (Ec.int t k) l=en (Value.int k) l := em_en rfl l
theorem Ro.emtake {α:Type} {T:Ec α} {b:Bs} {A:Option Addr} {l:List α} (h:Ro b A (em T l)) (m:Nat):Ro b A (em T (l.take m)) := by
  rw [em_take]; exact h.take _
def Ck.sl {α:Type} (T:Ec α) (A:Option Addr) (c:Nat) (l:List α):Ck := Ck.row T.t T.z (.slice A l.length c) l.length (em T l)
theorem Ck.sl_key {α:Type} {T:Ec α} {A:Option Addr} {c:Nat} {l:List α}:∀ ad,A=some ad→ad.block ∈ (Ck.sl T A c l).key := fun ad e=>by
  subst e
  simp [Ck.sl,Ck.row,Value.ownBlock]
section
variable {P:Program} {Q:Exit→Act→World→Prop} {n:Nat} {ops:Array Oper} {rest:List Oper} {o:Oper} {f:Fr} {w0:Bs} {S:Sto} {d:Nat} {v:Value} {α:Type} {T:Ec α} {A:Option Addr} {c:Nat} {l:List α} {t e:TypeId} {ad:Addr} {off:Nat} {sub:List Value}
theorem St.rd {w:World} (h:St w0 S w) {k:Nat} (hk:S k=some (Ck.sl T A c l)):Rd w A (em T l) := rd_row (h.holds k _ hk)
theorem St.cap {w:World} (h:St w0 S w) {k:Nat} (hk:S k=some (Ck.sl T A c l)):l.length≤c := by
  have h1 := h.holds k _ hk
  rcases h1.2 with ⟨hv,hn⟩ | ⟨g,cap,cur,hv,hg,hh,hc,r⟩
  · injection hv with _ _ hc; omega
  · injection hv with _ _ hc'; omega
theorem St.ror {w:World} (h:St w0 S w) {k:Nat} (hk:S k=some (Ck.sl T A c l)) {cl ro:List Ck} (hm:Ck.sl T A c l ∈ ro):Ro (lent w0 w cl ro) A (em T l) := (h.rd hk).ror hm Ck.sl_key
theorem lift_v {s:Sem Value} {w w':World} (h:s.run P w=.ok v w'):(s >>= fun r=>pure (Next.value r)).run P w=.ok (.value v) w' := by
  simp [h,Result.andThen]
theorem run_idx {z:Nat} {w:World} (ht:P.underlying t=some (.slice e)) (hz:(P.info? e).map (·.size)=some z) {a:Addr} {m:Nat} {k:IntKind} {i:Int} (h0:0≤i) (h1:i<m):(Instr.indexAt t (.slice (some a) m c) (.int k i)).run P w=.ok (.pointer (some (a.add (i.toNat*z)))) w := by
  obtain ⟨q,hq,hq1⟩ := Option.map_eq_some_iff.1 hz
  simp [Instr.indexAt,run_underlying ht,asIntOf,h0,h1,sizeOf,typeInfo,hq,hq1]
theorem run_load1 {w:World} {de:TypeDesc} (hu:P.underlying t=some de) (hd:aggD de=false) {a:Addr} (h:w.cell? a=some v):(Instr.loadAt t (.pointer (some a))).run P w=.ok v w := by
  cases de <;> first | (cases hd; done) | simp [Instr.loadAt,Instr.sureAddr,loadVar,isAgg,run_underlying hu,load,Sem.run,h]
theorem em_some {i:Int} (h0:0≤i) (h1:i<(l.length:Int)):∃ u,(em T l)[i.toNat*T.z]?=some u := by
  have hs := em_sub T l (i:=i.toNat) (by omega)
  have hz := T.len (l.getD i.toNat T.d)
  have h2 := hs.get 0 (by have := T.pos; omega)
  rw [Nat.add_zero] at h2
  rw [h2]
  exact ⟨_,List.getElem?_eq_getElem (by have := T.pos; omega)⟩
theorem ido_at {i:Int} (hR:Ro w0 A (em T l)) (h0:0≤i) (h1:i<(l.length:Int)):∃ ad,A=some ad := by
  obtain ⟨u,hu⟩ := em_some (T:=T) h0 h1
  obtain ⟨ad,e,_⟩ := hR _ _ hu
  exact ⟨ad,e⟩
theorem ls_idxv (T:Ec α) (hg:o.guard=none) (hd:o.dst=some d) (hn:Nat.blt d n=true) {x ix:Operand} {k:IntKind} {i:Int} {z:Nat} (hA:A=some ad) (ho:o.op=.indexAddr t x ix) (hx:ev f x=.slice A l.length c) (hi:ev f ix=.int k i) (ht:P.underlying t=some (.slice T.t)) (hz:(P.info? T.t).map (·.size)=some z)
    (h0:0≤i) (h1:i<(l.length:Int)) (h:Ls P Q n ops rest (upd f d (.pointer (some (ad.add (i.toNat*z))))) w0 S):Ls P Q n ops (o :: rest) f w0 S :=
  ls_val hg hd hn (fun w=>by
    unfold execOp
    rw [ho]
    refine lift_v ?_
    rw [hx,hi,hA]
    exact run_idx ht hz h0 h1) h
theorem ls_load (hg:o.guard=none) (hd:o.dst=some d) (hn:Nat.blt d n=true) {x:Operand} {a0:Addr} {de:TypeDesc} (ho:o.op=.load t x) (hx:ev f x=.pointer (some a0)) (hu:P.underlying t=some de) (hde:aggD de=false)
    (hc:∀ w,St w0 S w→w.cell? a0=some v) (h:Ls P Q n ops rest (upd f d v) w0 S):Ls P Q n ops (o :: rest) f w0 S :=
  ls_read hg hd hn (fun w hs=>by
    unfold execOp
    rw [ho]
    refine lift_v ?_
    rw [hx]
    exact run_load1 hu hde (hc w hs)) h
theorem run_bound {w:World} {k:IntKind} {a y:Nat} {code:BoundsCode} (h:a≤y):(Instr.sliceBound (.int k (a:Int)) y code).run P w=.ok a w := by
  simp only [Instr.sliceBound,asIntOf,pure_bind]
  rw [if_pos ⟨by omega,by omega⟩]
  simp
theorem run_cut {z:Nat} {w:World} (ht:P.underlying t=some (.slice e)) (hz:(P.info? e).map (·.size)=some z) {m:Nat} {lo hi:Option Value} {a b:Nat}
    (hlo:(lo=none∧a=0) ∨ ∃ k,lo=some (.int k (a:Int))) (hhi:(hi=none∧b=m) ∨ ∃ k,hi=some (.int k (b:Int))) (h1:a≤b) (h2:b≤m) (h3:m≤c) :
    (Instr.sliceAt t (.slice A m c) lo hi none).run P w=.ok (.slice (if c=a then A else A.map (·.add (a*z))) (b - a) (c - a)) w := by
  obtain ⟨q,hq,hq1⟩ := Option.map_eq_some_iff.1 hz
  have hb:(Instr.sliceBounds true m c lo hi none).run P w=.ok (a,b,c) w := by
    rcases hlo with ⟨rfl,rfl⟩ | ⟨kl,rfl⟩ <;> rcases hhi with ⟨rfl,rfl⟩ | ⟨kh,rfl⟩
    · simp [Instr.sliceBounds]
    · simp [Instr.sliceBounds,run_bound (show b≤c by omega)]
    · simp [Instr.sliceBounds,run_bound h1]
    · simp [Instr.sliceBounds,run_bound h1,run_bound (show b≤c by omega)]
  simp [Instr.sliceAt,run_underlying ht,Instr.slice,hb,sizeOf,typeInfo,hq,hq1]
theorem cut_at (T:Ec α) (a b:Nat) (h1:a≤b) (h2:b≤l.length) (h3:l.length≤c) (hR:Ro w0 A (em T l)) {m:List α} (hm:m=(l.take b).drop a) {z:Nat} (hz:z=T.z):∃ A' c',Value.slice (if c=a then A else A.map (·.add (a*z))) (b - a) (c - a)=.slice A' m.length c'∧m.length≤c'∧Ro w0 A' (em T m) := by
  subst hz
  have hml:m.length=b - a := by rw [hm]; simp; omega
  refine ⟨_,_,by rw [hml],by omega,?_⟩
  rw [hm,em_drop]
  exact (hR.emtake b).cut (a*T.z) (c=a) (fun e=>by rw [em_length]; simp; subst e; exact Nat.mul_le_mul_right _ (by omega))
theorem ls_cutv (hg:o.guard=none) (hd:o.dst=some d) (hn:Nat.blt d n=true) {x:Operand} {lo hi:Option Operand} {a b m z:Nat} {A':Option Addr} {c' k:Nat} (ho:o.op=.slice t x lo hi none) (hx:ev f x=.slice A m c) (ht:P.underlying t=some (.slice e)) (hz:(P.info? e).map (·.size)=some z)
    (hlo:(lo.map (ev f)=none∧a=0) ∨ ∃ k,lo.map (ev f)=some (.int k (a:Int))) (hhi:(hi.map (ev f)=none∧b=m) ∨ ∃ k,hi.map (ev f)=some (.int k (b:Int))) (h1:a≤b) (h2:b≤m) (h3:m≤c)
    (he:Value.slice (if c=a then A else A.map (·.add (a*z))) (b - a) (c - a)=.slice A' k c')
    (h:Ls P Q n ops rest (upd f d (.slice A' k c')) w0 S):Ls P Q n ops (o :: rest) f w0 S := by
  refine ls_val hg hd hn (v:=.slice (if c=a then A else A.map (·.add (a*z))) (b - a) (c - a)) (fun w=>?_) (by rw [he]; exact h)
  unfold execOp
  rw [ho]
  refine lift_v ?_
  rw [hx]
  exact run_cut ht hz hlo hhi h1 h2 h3
theorem run_str {w:World} {dst:TypeId} (ht:P.underlying t=some (.slice e)) (he:P.underlying e=some (.int .u8)) (hd:P.underlying dst=some .string) {l:List Int} (hR:Rd w A (en (Value.int .u8) l)):(convert t dst (.slice A l.length c)).run P w=.ok (.string (strOfNums l)) w := by
  cases A with
  | none =>
    have hl:l=[] := by
      cases l with
      | nil=>rfl
      | cons x r=>obtain ⟨ad,e1,_⟩ := hR 0 _ rfl; cases e1
    subst hl
    rw [run_convert_bytes_nil w t e ht he _ _ dst hd]
    rfl
  | some a =>
    have hl:(loadCells a l.length).run P w=.ok (l.map (Value.int .u8)).toArray w := by
      have := run_loadCells_list (P:=P) w a (l.map (Value.int .u8)) (fun j u hj=>by
        obtain ⟨ad,e1,h1⟩ := hR j u hj
        injection e1 with e1
        subst e1
        exact h1)
      simpa using this
    rw [run_convert_bytes_string w t dst e (some a) l.length c ht he hd]
    rw [run_bytesToString w a l.length c l hl,foldl_push_bytes]
    simp [strOfNums,ByteArray.empty,ByteArray.emptyWithCapacity]
    rfl
theorem ls_str (hg:o.guard=none) (hd:o.dst=some d) (hn:Nat.blt d n=true) {x:Operand} {dst:TypeId} (ho:o.op=.convert t dst x) {l:List Int} (hx:ev f x=.slice A l.length c) (ht:P.underlying t=some (.slice e)) (he:P.underlying e=some (.int .u8)) (hdt:P.underlying dst=some .string)
    (hR:∀ w,St w0 S w→Rd w A (em (Ec.int e .u8) l)) (h:Ls P Q n ops rest (upd f d (.string (strOfNums l))) w0 S):Ls P Q n ops (o :: rest) f w0 S :=
  ls_read hg hd hn (fun w hs=>by
    unfold execOp
    rw [ho]
    refine lift_v ?_
    rw [hx]
    exact run_str ht he hdt (by rw [← em_int e]; exact hR w hs)) h
end
section
variable {P:Program} {Q:Exit→Act→World→Prop} {n:Nat} {ops:Array Oper} {rest:List Oper} {o:Oper} {f:Fr} {w0:Bs} {S:Sto} {d:Nat} {v:Value} {α:Type} {T:Ec α} {A B:Option Addr} {c cb:Nat} {l m:List α} {t u e:TypeId} {z:Value} {bytes sz:Nat}
theorem run_app {w:World} (base:Nat) (ty:TypeId) (ht:P.underlying t=some (.slice e)) (hi:(P.info? e).map (fun i=>(i.zero,i.size,i.bytes))=some (some z,sz,bytes)) (hz:z.cells.size=sz) (hpos:0<sz) {n m:Nat} {xs ms:List Value} (hown:w.ownsRow base e sz (.slice A n c) n xs)
    (hR:Rd w B ms) (hl:ms.length=m*sz) (hE:∀ u ∈ ms,u.oneCell'=true) (hbytes:(n+m)*bytes≤140737488355328) (hb0:0<bytes) (hbase:base≤w.heap.size) :
    ∃ v' w',(Builtin.append_ #[t,t] ty #[.slice A n c,.slice B m cb]).run P w=.ok v' w'∧w'.ownsRow base e sz v' (n+m) (xs++ms)∧w.grownBy w' (Value.slice A n c).ownBlock∧(v'.ownBlock=(Value.slice A n c).ownBlock ∨ v'.ownBlock=some w.heap.size) := by
  obtain ⟨i,hi,hzz⟩ := Option.map_eq_some_iff.1 hi
  simp only [Prod.mk.injEq] at hzz
  obtain ⟨hz0,hz1,hz2⟩ := hzz
  have hlen:n+m≤140737488355328 := Nat.le_trans (Nat.le_mul_of_pos_right _ hb0) hbytes
  cases B with
  | none =>
    have hm:ms=[] := by
      cases ms with
      | nil=>rfl
      | cons x r=>obtain ⟨ad,e1,_⟩ := hR 0 _ rfl; cases e1
    subst hm
    have hm0:m=0 := by
      rcases Nat.mul_eq_zero.1 (show m*sz=0 by simpa using hl.symm) with h | h
      · exact h
      · omega
    subst hm0
    refine ⟨_,w,?_,by simpa using hown,⟨rfl,rfl,rfl,Nat.le_refl _,fun _ _ _=>rfl⟩,.inl rfl⟩
    rcases hown.2 with ⟨hv,hn⟩ | ⟨g,cap,cur,hv,_,_,hnc,_⟩
    · injection hv with hA hl hc
      subst hA
      simp [Builtin.append_,run_underlying ht,sizeOf,typeInfo,hi,Builtin.lenOf,Builtin.firstCells,hn,hc]
    · injection hv with hA hl hc
      subst hA
      subst hc
      simp [Builtin.append_,run_underlying ht,sizeOf,typeInfo,hi,Builtin.lenOf,Builtin.firstCells,hnc,storeCells]
  | some ad =>
    have hn:∀ j u,ms[j]?=some u→w.cell? (ad.add j)=some u := fun j u hj=>by
      obtain ⟨ad',e1,h1⟩ := hR j u hj
      injection e1 with e1
      subst e1
      exact h1
    obtain ⟨v',w',h1,h2,h3,_,h5⟩ := run_append_own_at (P:=P) w base t ty e i z sz bytes ht hi hz0 hz1 hz2 hz hpos (.slice A n c) n xs hown ad m cb ms hl hn hE (by simp only [maxLen]; omega) hbytes hbase
    exact ⟨v',w',h1,h2,h3,h5⟩
theorem owns_slice {w:World} {b:Nat} {sz k:Nat} {xs:List Value} (h:w.ownsRow b e sz v k xs):∃ A c,v=.slice A k c := by
  rcases h.2 with ⟨rfl,rfl⟩ | ⟨g,cap,cur,rfl,_⟩
  · exact ⟨none,0,rfl⟩
  · exact ⟨_,cap,rfl⟩
theorem St.app {w w':World} {k:Nat} (h:St w0 S w) (hk:S k=some (Ck.sl T A c l)) {A':Option Addr} {c':Nat} {m:List α} (h2:w'.ownsRow 0 T.t T.z (.slice A' m.length c') m.length (em T m)) (h3:w.grownBy w' (Value.slice A l.length c).ownBlock)
    (h5:(Value.slice A' m.length c').ownBlock=(Value.slice A l.length c).ownBlock ∨ (Value.slice A' m.length c').ownBlock=some w.heap.size):St w0 (sput S k (some (Ck.sl T A' c' m))) w' :=
  h.set hk h3.os h3.tape h3.output h3.size (fun q hq hne=>h3.block q hq (fun e1=>hne (by simp [Ck.sl,Ck.row,← e1]))) h2 (fun q hq=>by
    have hq:(Value.slice A' m.length c').ownBlock=some q := by simpa [Ck.sl,Ck.row] using hq
    rcases h5 with h5 | h5
    · left
      rw [hq] at h5
      simp [Ck.sl,Ck.row,← h5]
    · right
      rw [hq] at h5
      injection h5 with h5
      omega)
theorem ls_app (T:Ec α) (k:Nat) (hg:o.guard=none) (hd:o.dst=some d) (hn:Nat.blt d n=true) {s x:Operand} (ho:o.op=.call { callee := .builtin .append,args := #[s,x],argTypes := #[t,t] }) (hs:ev f s=.slice A l.length c) (hS:S k=some (Ck.sl T A c l)) (hx:ev f x=.slice B m.length cb)
    (hR:∀ w,St w0 S w→Rd w B (em T m)) (ht:P.underlying t=some (.slice T.t)) (hi:(P.info? T.t).map (fun i=>(i.zero,i.size,i.bytes))=some (some z,T.z,bytes)) (hz:z.cells.size=T.z) (hb0:0<bytes) (hbytes:(l.length+m.length)*bytes≤140737488355328)
    (h:∀ A' c',Ls P Q n ops rest (upd f d (.slice A' (l++m).length c')) w0 (sput S k (some (Ck.sl T A' c' (l++m))))):Ls P Q n ops (o :: rest) f w0 S :=
  ls_op hg fun a w ha hst=>by
    obtain ⟨v',w',h1,h2,h3,h5⟩ := run_app (P:=P) (cb:=cb) 0 o.type ht hi hz T.pos (hst.holds k _ hS) (hR w hst) (em_length T m) (em_one T m) hbytes hb0 (Nat.zero_le _)
    rw [← List.length_append,← em_append] at h2
    obtain ⟨A',c',rfl⟩ := owns_slice h2
    refine op_wp ha ?_
    unfold execOp
    simp only [ho,resolve,invoke,builtin,Sem.run_bind,Sem.run_pure,Result.andThen_ok,List.map_toArray,List.map_cons,List.map_nil,hs,hx,h1]
    show wpList P ops Q rest (a.put o.dst _) w'
    rw [hd]
    exact h A' c' _ _ (ha.put hn _) (hst.app hS h2 h3 h5)
theorem St.nilrow {w:World} (h:St w0 S w) (k:Nat) (T:Ec α):St w0 (sput S k (some (Ck.sl T none 0 []))) w :=
  h.new (Below.refl _ _) k (c:=Ck.sl T none 0 []) ⟨by simp [em],.inl ⟨rfl,rfl⟩⟩ (fun k hk=>by simp [Ck.sl,Ck.row,Value.ownBlock] at hk)
theorem cs_nilrow {y:Code} (k:Nat) (T:Ec α) (h:Cs P Q n y f w0 (sput S k (some (Ck.sl T none 0 [])))):Cs P Q n y f w0 S := fun a w ha hs=>h a w ha (hs.nilrow k T)
theorem row_new {w:World} {cells:List Value} (l:List α) (c:Nat) (hc:l.length≤c) (hm:c≤maxLen) (hcl:cells.length=c*T.z) (htk:cells.take (l.length*T.z)=em T l):(w.alloc (.cells ⟨cells⟩ T.t)).ownsRow 0 T.t T.z (.slice (some ⟨w.heap.size,0,none⟩) l.length c) l.length (em T l) :=
  ⟨em_length T l,.inr ⟨w.heap.size,c,_,rfl,Nat.zero_le _,heap_alloc_new w _,hc,hm,by simpa using hcl,by simpa using htk⟩⟩
theorem ls_lit (T:Ec α) (k:Nat) (hg:o.guard=none) (hd:o.dst=some d) (hn:Nat.blt d n=true) (l:List α) (hl:l.length≤maxLen) (hr:∀ w,(execOp (ev f) o).run P w=.ok (.value (.slice (some ⟨w.heap.size,0,none⟩) l.length l.length)) (w.alloc (.cells ⟨em T l⟩ T.t)))
    (h:∀ g,Ls P Q n ops rest (upd f d (.slice (some ⟨g,0,none⟩) l.length l.length)) w0 (sput S k (some (Ck.sl T (some ⟨g,0,none⟩) l.length l)))):Ls P Q n ops (o :: rest) f w0 S :=
  ls_op hg fun a w ha hs=>op_wp ha (by
    rw [hr w]
    show wpList P ops Q rest (a.put o.dst _) _
    rw [hd]
    exact h w.heap.size _ _ (ha.put hn _) (hs.new ((Below.refl _ _).alloc (Nat.le_refl _) _) k (c:=Ck.sl T (some ⟨w.heap.size,0,none⟩) l.length l) (row_new l l.length (Nat.le_refl _) hl (em_length T l) (by rw [← em_length T l]; exact List.take_length)) (fun k hk=>by simp [Ck.sl,Ck.row,Value.ownBlock] at hk; omega)))
theorem made_take (zc:List Value) (hz:zc=T.E T.d):∀ (l c:Nat),l≤c→((madeCells zc.toArray (c*T.z)).toList).take (l*T.z)=em T (List.replicate l T.d) := by
  intro l c hlc
  have hzl:zc.length=T.z := by rw [hz,T.len]
  apply List.ext_getElem?
  intro j
  have hcz:l*T.z≤c*T.z := Nat.mul_le_mul_right _ hlc
  by_cases hj:j<l*T.z
  · have hp := T.pos
    have hq:j / T.z<l := (Nat.div_lt_iff_lt_mul hp).2 hj
    have hr:j % T.z<T.z := Nat.mod_lt _ hp
    have hs := em_sub T (List.replicate l T.d) (i:=j / T.z) (by simpa using hq)
    have h2 := hs.get (j % T.z) (by rw [T.len]; exact hr)
    rw [show j / T.z*T.z+j % T.z=j from Nat.div_add_mod' j T.z] at h2
    rw [h2,List.getElem?_take,if_pos hj]
    have e:(List.replicate l T.d).getD (j / T.z) T.d=T.d := by simp only [List.getD_eq_getElem?_getD,List.getElem?_replicate]; split <;> rfl
    rw [e,← hz]
    simp only [madeCells,Array.getElem?_toList,Array.getElem?_map,Array.getElem?_range,List.size_toArray,hzl]
    rw [if_pos (by omega)]
    have hjz:j % T.z<zc.length := by omega
    simp [hjz]
  · rw [List.getElem?_eq_none (by simp; omega),List.getElem?_eq_none (by rw [em_length]; simp; omega)]
theorem ls_make (T:Ec α) (k:Nat) (hg:o.guard=none) (hd:o.dst=some d) (hn:Nat.blt d n=true) {x y:Operand} {kx ky:IntKind} {a b:Int} {zc:List Value} (ho:o.op=.makeSlice t x y) (hx:ev f x=.int kx a) (hy:ev f y=.int ky b) (ht:P.underlying t=some (.slice T.t)) (hi:(P.info? T.t).map (fun i=>(i.zero.map (·.cells),i.size,i.bytes))=some (some ⟨zc⟩,T.z,bytes)) (hz:zc=T.E T.d)
    (h0:0≤a) (h1:a≤b) (h2:b≤140737488355328) (hb:(bytes:Int)*b≤281474976710656)
    (h:∀ g,Ls P Q n ops rest (upd f d (.slice (some ⟨g,0,none⟩) (List.replicate a.toNat T.d).length b.toNat)) w0 (sput S k (some (Ck.sl T (some ⟨g,0,none⟩) b.toNat (List.replicate a.toNat T.d))))):Ls P Q n ops (o :: rest) f w0 S :=
  ls_op hg fun act w ha hs=>op_wp ha (by
    obtain ⟨i,hi,hzz⟩ := Option.map_eq_some_iff.1 hi
    simp only [Prod.mk.injEq] at hzz
    obtain ⟨hz0,hz1,hz2⟩ := hzz
    obtain ⟨zv,hz0,hz3⟩ := Option.map_eq_some_iff.1 hz0
    have hrun := run_make (P:=P) w t T.t i zv ht hi hz0 kx ky a b h0 h1 (by rw [hz2]; exact hb) (by omega)
    unfold execOp
    simp only [ho,hx,hy]
    rw [lift_v hrun]
    show wpList P ops Q rest (act.put o.dst _) _
    rw [hd]
    have hlen:(List.replicate a.toNat T.d).length=a.toNat := by simp
    have hsz:(madeCells zv.cells (b.toNat*i.size)).toList.length=b.toNat*T.z := by simp [madeCells,hz1]
    have hrow := row_new (w:=w) (T:=T) (cells:=(madeCells zv.cells (b.toNat*i.size)).toList) (List.replicate a.toNat T.d) b.toNat (by simp; omega) (by simp only [maxLen]; omega) hsz (by rw [hlen,hz3,hz1]; exact made_take zc hz _ _ (by omega))
    rw [hlen] at hrow h
    refine h w.heap.size _ _ (ha.put hn _) (hs.new ((Below.refl _ _).alloc (Nat.le_refl _) _) k (c:=Ck.sl T (some ⟨w.heap.size,0,none⟩) b.toNat (List.replicate a.toNat T.d)) ?_ (fun k hk=>by simp [Ck.sl,Ck.row,Value.ownBlock] at hk; omega))
    show World.ownsRow _ _ _ _ _ _ _
    rw [hlen]
    exact hrow)
theorem run_apps {w:World} (base:Nat) (ty:TypeId) (ht:P.underlying t=some (.slice e)) (hu:P.underlying u=some .string) (hi:(P.info? e).map (fun i=>(i.zero,i.size,i.bytes))=some (some (.int .u8 0),1,1)) {l:List Int} (s:ByteArray) (hown:w.ownsRow base e 1 (.slice A l.length c) l.length (en (Value.int .u8) l))
    (hbytes:l.length+s.size≤140737488355328) (hbase:base≤w.heap.size) :
    ∃ v' w',(Builtin.append_ #[t,u] ty #[.slice A l.length c,.string s]).run P w=.ok v' w'∧w'.ownsRow base e 1 v' (l.length+s.size) (en (Value.int .u8) l++Lib.strCells s)∧w.grownBy w' (Value.slice A l.length c).ownBlock∧(v'.ownBlock=(Value.slice A l.length c).ownBlock ∨ v'.ownBlock=some w.heap.size) := by
  obtain ⟨i,hi,hzz⟩ := Option.map_eq_some_iff.1 hi
  simp only [Prod.mk.injEq] at hzz
  obtain ⟨hz0,hz1,hz2⟩ := hzz
  obtain ⟨v',w',hr,h2,h3,h4⟩ := Lib.run_append_own_string (P:=P) w base t u ty e i ht hu hi hz0 hz1 hz2 (.slice A l.length c) l.length (en (Value.int .u8) l) hown s (by simp only [maxLen]; omega) hbytes hbase
  refine ⟨v',w',hr,h2,h3,?_⟩
  rcases hown.2 with ⟨hv,hn⟩ | ⟨g,cap,cur,hv,hbg,hgg,hnc,hcm,hcs,htake⟩
  · by_cases hm:s.size=0
    · left; rw [h4.2 ⟨hv,hm⟩,hv]
    · right
      have hr2 := run_append_nil_string (P:=P) w t u ty e i (.int .u8 0) ht hu hi hz0 s (by omega) (by omega) (by rw [hz2]; omega)
      rw [hv] at hr
      rw [hr] at hr2
      injection hr2 with h6 _
      rw [h6]
      rfl
  · rw [hv] at hr
    have hcs':cur.size=cap := by simpa using hcs
    by_cases hroom:l.length+s.size≤cap
    · have hr2 := Lib.run_append_room_string (P:=P) w t u ty e i ht hu hi hz1 g l.length cap cur hgg s hroom (by omega)
      rw [hr] at hr2
      injection hr2 with h6 _
      left; rw [h6,hv]; rfl
    · have holds:∀ j u,(en (Value.int .u8) l)[j]?=some u→w.cell? ((⟨g,0,none⟩:Addr).add j)=some u := by
        have := hown.cells (g:=g) (by rw [hv]; rfl)
        exact this
      have hr2 := Lib.run_append_grow_string (P:=P) w t u ty e i (.int .u8 0) ht hu hi hz0 ⟨g,0,none⟩ l.length cap (en (Value.int .u8) l) (by rw [hz1]; simp [en_length]) holds s (by omega) (by omega) (by rw [hz2]; exact growslice_fits (by omega) (by omega))
      rw [hr] at hr2
      injection hr2 with h6 _
      right; rw [h6]; rfl
def bl (s:ByteArray):List Int := s.data.toList.map fun b=>(b.toNat:Int)
theorem bl_length (s:ByteArray):(bl s).length=s.size := by simp [bl]
theorem bl_cells (s:ByteArray):Lib.strCells s=en (Value.int .u8) (bl s) := by simp [Lib.strCells,en,bl]
theorem ls_apps (k:Nat) (hg:o.guard=none) (hd:o.dst=some d) (hn:Nat.blt d n=true) {s x:Operand} (ho:o.op=.call { callee := .builtin .append,args := #[s,x],argTypes := #[t,u] }) {l:List Int} (hs:ev f s=.slice A l.length c) (hS:S k=some (Ck.sl (Ec.int e .u8) A c l)) {y:ByteArray} (hx:ev f x=.string y)
    (ht:P.underlying t=some (.slice e)) (hu:P.underlying u=some .string) (hi:(P.info? e).map (fun i=>(i.zero,i.size,i.bytes))=some (some (.int .u8 0),1,1)) (hbytes:l.length+y.size≤140737488355328)
    (h:∀ A' c',Ls P Q n ops rest (upd f d (.slice A' (l++bl y).length c')) w0 (sput S k (some (Ck.sl (Ec.int e .u8) A' c' (l++bl y))))):Ls P Q n ops (o :: rest) f w0 S :=
  ls_op hg fun a w ha hst=>by
    have hrow:w.ownsRow 0 e 1 (.slice A l.length c) l.length (em (Ec.int e .u8) l) := hst.holds k _ hS
    rw [em_int] at hrow
    obtain ⟨v',w',h1,h2,h3,h5⟩ := run_apps (P:=P) 0 o.type ht hu hi y hrow hbytes (Nat.zero_le _)
    have hl:(l++bl y).length=l.length+y.size := by rw [List.length_append,bl_length]
    rw [← hl,bl_cells,← en_append,← em_int e] at h2
    obtain ⟨A',c',rfl⟩ := owns_slice h2
    refine op_wp ha ?_
    unfold execOp
    simp only [ho,resolve,invoke,builtin,Sem.run_bind,Sem.run_pure,Result.andThen_ok,List.map_toArray,List.map_cons,List.map_nil,hs,hx,h1]
    show wpList P ops Q rest (a.put o.dst _) w'
    rw [hd]
    exact h A' c' _ _ (ha.put hn _) (hst.app hS h2 h3 h5)
theorem St.fz_ro {w:World} {b':Bs} {k:Nat} {ck:Ck} (h:St w0 S w) (hb:w0.le b') (hw:b'.w=w) (hf:∀ q ∈ ck.key,b'.fz q) {A:Option Addr} {cs:List Value} (hR:Rd w A cs) (hk:∀ ad,A=some ad→ad.block ∈ ck.key):Ro b' A cs := fun j u hj =>
  let ⟨ad,ee,hc⟩ := hR j u hj
  ⟨ad,ee,by rw [hw]; exact hc,hf _ (hk ad ee)⟩
theorem ls_freeze {lo:List Oper} (k:Nat) (hS:S k=some (Ck.sl T A c l)) (h:∀ b',w0.le b'→(∀ q,w0.fz q→q<w0.w.heap.size∧¬ w0.ks q)→Ro b' A (em T l)→l.length≤c→Ls P Q n ops lo f b' (sput S k none)):Ls P Q n ops lo f w0 S := fun a w ha hs=>by
  obtain ⟨b',h1,h2,h3,h4⟩ := hs.freeze hS
  exact h b' h1 hs.ok (hs.fz_ro (k:=k) h1 h2 h3 (hs.rd hS) Ck.sl_key) (hs.cap hS) a w ha h4
end
section
variable {P:Program} {Q:Exit→Act→World→Prop} {n:Nat} {ops:Array Oper} {rest:List Oper} {o:Oper} {f:Fr} {w0:Bs} {S:Sto} {d:Nat} {fid:FuncId} {vals:Array Value}
theorem ls_call {X:Type} (val:X→Value) (R:X→Sto) (off:Nat) (hg:o.guard=none) (hd:o.dst=some d) (hn:Nat.blt d n=true) (hr:∀ w,(execOp (ev f) o).run P w=.ok (.enter fid vals) w)
    (hc:∀ w,St w0 S w→Calls P fid vals w fun e w'=>∃ x,e=.returned (val x)∧St (bw w) (R x) w') (h:∀ x,Ls P Q n ops rest (upd f d (val x)) w0 (sjoin S off (R x))):Ls P Q n ops (o :: rest) f w0 S :=
  ls_op hg fun a w ha hs=>op_wp ha (by
    rw [hr w]
    show Calls P fid vals w _
    refine (hc w hs).mono ?_
    rintro e w' ⟨x,rfl,hx⟩
    show wpList P ops Q rest (a.put o.dst (val x)) w'
    rw [hd]
    exact h x _ _ (ha.put hn _) (hs.join hx off))
theorem ls_callb {X:Type} (val:X→Value) (R:X→Sto) (ts rs:List Nat) (cs ro:List Ck) (off:Nat) (hg:o.guard=none) (hd:o.dst=some d) (hn:Nat.blt d n=true) (hr:∀ w,(execOp (ev f) o).run P w=.ok (.enter fid vals) w) (hB:Bor S ts cs) (hR:Bor S rs ro) (hnd:(ts++rs).Nodup)
    (hc:∀ w,St w0 S w→St (lent w0 w cs ro) (stl cs) w→Calls P fid vals w fun e w'=>∃ x,e=.returned (val x)∧St (lent w0 w cs ro) (R x) w') (h:∀ x,Ls P Q n ops rest (upd f d (val x)) w0 (sjoinb S ts off (R x))):Ls P Q n ops (o :: rest) f w0 S :=
  ls_op hg fun a w ha hs=>op_wp ha (by
    rw [hr w]
    show Calls P fid vals w _
    refine (hc w hs (hs.lend hB hR hnd)).mono ?_
    rintro e w' ⟨x,rfl,hx⟩
    show wpList P ops Q rest (a.put o.dst (val x)) w'
    rw [hd]
    exact h x _ _ (ha.put hn _) (hs.joinb hB hx off))
theorem ls_callf {X:Type} (val:X→Value) (R:X→Sto) (F:X→Bs→Prop) (ts:List Nat) (cs:List Ck) (off:Nat) (hg:o.guard=none) (hd:o.dst=some d) (hn:Nat.blt d n=true) (hr:∀ w,(execOp (ev f) o).run P w=.ok (.enter fid vals) w) (hB:Bor S ts cs) (hnd:(ts++[]).Nodup)
    (hF:∀ x b b',(∀ A c,Ro b A c→Ro b' A c)→F x b→F x b')
    (hc:∀ w,St w0 S w→St (lent w0 w cs []) (stl cs) w→Calls P fid vals w fun e w'=>∃ b',(lent w0 w cs []).le b'∧∃ x,e=.returned (val x)∧F x b'∧St b' (R x) w')
    (h:∀ x b2,w0.le b2→(∀ q,w0.fz q→q<w0.w.heap.size∧¬ w0.ks q)→F x b2→Ls P Q n ops rest (upd f d (val x)) b2 (sjoinb S ts off (R x))):Ls P Q n ops (o :: rest) f w0 S :=
  ls_op hg fun a w ha hs=>op_wp ha (by
    rw [hr w]
    show Calls P fid vals w _
    refine (hc w hs (hs.lend (rs:=[]) (ro:=[]) hB trivial hnd)).mono ?_
    rintro e w' ⟨b',hle,x,rfl,hf,hx⟩
    show wpList P ops Q rest (a.put o.dst (val x)) w'
    rw [hd]
    obtain ⟨b2,h1,h2,h3,h4⟩ := hs.joinf hB hle hx off
    exact h x b2 h1 hs.ok (hF x b' b2 (fun A c hr=>Ro.same hx h2 h3 hr) hf) _ _ (ha.put hn _) h4)
end
theorem bind_some {α β:Type} {x:Option α} {g:α→Option β} {r:β} (h:x.bind g=some r):∃ t,x=some t∧g t=some r := by
  cases x with
  | none=>cases h
  | some t=>exact ⟨t,rfl,h⟩
theorem ite_t {α:Type} {c:Prop} [Decidable c] {a b r:α} (hc:c) (h:(if c then a else b)=r):a=r := by rwa [if_pos hc] at h
theorem ite_f {α:Type} {c:Prop} [Decidable c] {a b r:α} (hc:¬ c) (h:(if c then a else b)=r):b=r := by rwa [if_neg hc] at h
theorem ite_need {α:Type} {c:Prop} [Decidable c] {a:Option α} {r:α} (h:(if c then a else none)=some r):c∧a=some r := by
  by_cases hc:c
  · exact ⟨hc,by rwa [if_pos hc] at h⟩
  · rw [if_neg hc] at h; cases h
theorem upd_id {f:Fr} {t:Nat} {v:Value} (h:f t=v):f=upd f t v := by
  funext u
  by_cases hu:u=t
  · subst hu; rw [upd_same,h]
  · rw [upd_ne f _ hu]
theorem fr_next {f g:Fr} {t:Nat} {v:Value} (h:f=g) (hv:f t=v):f=upd g t v := by subst h; exact upd_id hv
def Sub (S' S:Sto):Prop := ∀ t c,S' t=some c→S t=some c
theorem sub_nil (S:Sto):Sub s0 S := fun t c h=>by cases h
theorem sub_put {S' S:Sto} {t:Nat} {c:Ck} (h:S t=some c) (hs:Sub S' S):Sub (sput S' t (some c)) S := fun u d hu=>by
  by_cases e:u=t
  · subst e; rw [sput_same] at hu; rw [h]; exact hu
  · rw [sput_ne S' _ e] at hu; exact hs u d hu
section
variable {P:Program} {Q:Exit→Act→World→Prop} {n:Nat} {ops:Array Oper} {f:Fr} {w0:Bs} {S:Sto}
theorem cs_sub {y:Code} (S':Sto) (hs:Sub S' S) (h:Cs P Q n y f w0 S'):Cs P Q n y f w0 S := fun a w ha hh=>h a w ha (hh.sub hs)
end
theorem dec_t {c:Prop} [Decidable c] (h:c):decide c=true := decide_eq_true h
theorem dec_f {c:Prop} [Decidable c] (h:¬ c):decide c=false := decide_eq_false h
def Qn (Q:Exit→Act→World→Prop) (n:Nat) (f:Fr) (w0:Bs) (S:Sto):Prop := ∀ a w,At n f a→St w0 S w→Q .normal a w
def Qx (id:Nat) (Q:Exit→Act→World→Prop) (n:Nat) (f:Fr) (w0:Bs) (S:Sto):Prop := ∀ a w,At n f a→St w0 S w→Q (.exit id) a w
def Qr (Q:Exit→Act→World→Prop) (n:Nat) (f:Fr) (w0:Bs) (S:Sto):Prop := ∀ a w,At n f a→St w0 S w→Q .ret a w
section
variable {P:Program} {Q:Exit→Act→World→Prop} {n:Nat} {ops:Array Oper} {f:Fr} {w0:Bs} {S:Sto} {K:Act→World→Prop} {id id':Nat} {fn:Func} {R:Ending→World→Prop} {α:Type} {E:α→Value} {e:TypeId}
theorem ls_end (h:Qn Q n f w0 S):Ls P Q n ops [] f w0 S := h
theorem cs_skip' (h:Qn Q n f w0 S):Cs P Q n .skip f w0 S := cs_skip h
theorem cs_exit' (h:Qx id Q n f w0 S):Cs P Q n (.exit id) f w0 S := cs_exit h
theorem cs_ret' (h:Qr Q n f w0 S):Cs P Q n .ret f w0 S := cs_ret h
theorem qn_then {y:Code} (h:Cs P Q n y f w0 S):Qn (Exit.then (Code.wp P y Q) Q) n f w0 S := h
theorem qn_block (h:Qn Q n f w0 S):Qn (Exit.inBlock id Q) n f w0 S := h
theorem qx_then (h:Qx id Q n f w0 S):Qx id (Exit.then K Q) n f w0 S := h
theorem qx_same (h:Qn Q n f w0 S):Qx id (Exit.inBlock id Q) n f w0 S := fun a w ha hs=>by
  show (if id=id then Q .normal a w else _)
  rw [if_pos rfl]
  exact h a w ha hs
theorem qx_other (hne:(id'==id)=false) (h:Qx id' Q n f w0 S):Qx id' (Exit.inBlock id Q) n f w0 S := fun a w ha hs=>by
  show (if id'=id then Q .normal a w else _)
  rw [if_neg (by simpa using hne)]
  exact h a w ha hs
theorem qr_then (h:Qr Q n f w0 S):Qr (Exit.then K Q) n f w0 S := h
theorem qr_block (h:Qr Q n f w0 S):Qr (Exit.inBlock id Q) n f w0 S := h
theorem qn_again {I:Nat→Fr→Sto→Prop} {k:Nat} (k':Nat) (S':Sto) (hk:k'≤k) (hI:I k' f S') (hs:Sub S' S):Qn (Exit.then (fun a w=>∃ k' f' S',k'≤k∧I k' f' S'∧At n f' a∧St w0 S' w) Q) n f w0 S := fun a w ha h=>⟨k',f,S',hk,hI,ha,h.sub hs⟩
theorem qn_meet {I:Fr→Sto→Prop} (S':Sto) (hI:I f S') (hs:Sub S' S):Qn (Exit.then (fun a w=>∃ f' S',I f' S'∧At n f' a∧St w0 S' w) Q) n f w0 S := fun a w ha h=>⟨f,S',hI,ha,h.sub hs⟩
theorem qr_nilrow (k:Nat) (T:Ec α) (h:Qr Q n f w0 (sput S k (some (Ck.sl T none 0 [])))):Qr Q n f w0 S := fun a w ha hs=>h a w ha (hs.nilrow k T)
theorem qn_againb {I:Nat→Bs→Fr→Sto→Prop} {k:Nat} (k':Nat) (S':Sto) (hk:k'≤k) (hI:I k' w0 f S') (hs:Sub S' S):Qn (Exit.then (fun a w=>∃ k' b' f' S',k'≤k∧I k' b' f' S'∧At n f' a∧St b' S' w) Q) n f w0 S := fun a w ha h=>⟨k',w0,f,S',hk,hI,ha,h.sub hs⟩
theorem qn_meetb {I:Bs→Fr→Sto→Prop} (S':Sto) (hI:I w0 f S') (hs:Sub S' S):Qn (Exit.then (fun a w=>∃ b' f' S',I b' f' S'∧At n f' a∧St b' S' w) Q) n f w0 S := fun a w ha h=>⟨w0,f,S',hI,ha,h.sub hs⟩
end
section
variable {P:Program} {Q:Exit→Act→World→Prop} {n:Nat} {ops:Array Oper} {rest:List Oper} {o:Oper} {f:Fr} {w0:Bs} {S:Sto} {d:Nat}
def shlv (k:IntKind) (x y:Int):Int := k.wrap (x*2 ^ min y.toNat k.bits)
def shrv (k:IntKind) (x y:Int):Int := Int.fdiv x (2 ^ min y.toNat k.bits)
theorem ls_shiftl {k yk:IntKind} {x y:Int} (hg:o.guard=none) (hd:o.dst=some d) (hn:Nat.blt d n=true) (hr:∀ w,(execOp (ev f) o).run P w=(Op.shift .shl k x yk y >>= fun r=>pure (Next.value r)).run P w) (h0:0≤y) (h:Ls P Q n ops rest (upd f d (.int k (shlv k x y))) w0 S):Ls P Q n ops (o :: rest) f w0 S :=
  ls_val hg hd hn (fun w=>by
    rw [hr w]
    refine lift_v ?_
    unfold Op.shift
    rw [if_neg (by omega)]
    rfl) h
theorem ls_shiftr {k yk:IntKind} {x y:Int} (hg:o.guard=none) (hd:o.dst=some d) (hn:Nat.blt d n=true) (hr:∀ w,(execOp (ev f) o).run P w=(Op.shift .shr k x yk y >>= fun r=>pure (Next.value r)).run P w) (h0:0≤y) (h:Ls P Q n ops rest (upd f d (.int k (shrv k x y))) w0 S):Ls P Q n ops (o :: rest) f w0 S :=
  ls_val hg hd hn (fun w=>by
    rw [hr w]
    refine lift_v ?_
    unfold Op.shift
    rw [if_neg (by omega)]
    rfl) h
end
def bt (s:ByteArray) (i:Int):Int := (bl s).getD i.toNat 0
section
variable {P:Program} {Q:Exit→Act→World→Prop} {n:Nat} {ops:Array Oper} {rest:List Oper} {o:Oper} {f:Fr} {w0:Bs} {S:Sto} {d:Nat} {t:TypeId}
theorem ls_sidx (hg:o.guard=none) (hd:o.dst=some d) (hn:Nat.blt d n=true) {x ix:Operand} {k:IntKind} {i:Int} {s:ByteArray} (ho:o.op=.index t x ix) (hx:ev f x=.string s) (hi:ev f ix=.int k i) (ht:P.underlying t=some .string)
    (h0:0≤i) (h1:i<(s.size:Int)) (h:Ls P Q n ops rest (upd f d (.int .u8 (bt s i))) w0 S):Ls P Q n ops (o :: rest) f w0 S :=
  ls_val hg hd hn (fun w=>by
    unfold execOp
    rw [ho]
    refine lift_v ?_
    rw [hx,hi,run_index_string w t s k i ht]
    have hlt:i.toNat<s.size := by omega
    have hlt':i.toNat<s.data.size := hlt
    have e:bt s i=((s[i.toNat]'hlt).toNat:Int) := by
      simp only [bt,bl,List.getD_eq_getElem?_getD,List.getElem?_map,Array.getElem?_toList,Array.getElem?_eq_getElem hlt',Option.map_some,Option.getD_some]
      rfl
    rw [e,dif_pos ⟨h0,by omega⟩]) h
end
def lt {α β:Type} (a:α) (g:α→β):β := g a
theorem lt_some {α β:Type} {a:α} {g:α→β} {r:β} (h:lt a g=r):∃ y,a=y∧g y=r := ⟨a,rfl,h⟩
section
variable {P:Program} {Q:Exit→Act→World→Prop} {n:Nat} {ops:Array Oper} {l:List Oper} {f:Fr} {w0:Bs} {S:Sto}
theorem ls_ren (t:Nat) {v v':Value} (hf:f t=v) (e:v=v') (h:Ls P Q n ops l (upd f t v') w0 S):Ls P Q n ops l f w0 S := by
  have:f=upd f t v' := upd_id (hf.trans e)
  rw [this]; exact h
end
def dirOf (o:Oper):List Nat := (o.after.toList.filter (fun e=>Region.binds .any e)).map (·.on)
def dstAt (ops:Array Oper) (j:Nat):Option Nat := (ops[j]?).bind (·.dst)
def tabOk (ops:Array Oper) (tab:List (List Nat)):Bool :=
  Nat.beq tab.length ops.size&&(List.range ops.size).all fun i=>match ops[i]? with
    | some o=>(dirOf o).all (fun e=>Nat.blt e i)&&(tab.getD i []).all (fun m=>(dirOf o).contains m || (dirOf o).any fun e=>(tab.getD e []).contains m)&&(dirOf o).all (fun e=>(tab.getD i []).contains e)
    | none=>false
def dstsOk (ops:Array Oper):Bool := (List.range ops.size).all fun i=>(List.range ops.size).all fun j=>Nat.beq i j || match dstAt ops i,dstAt ops j with
  | some d,some e=>!Nat.beq d e
  | _,_=>true
def lateOk (ops:Array Oper) (tab:List (List Nat)) (i t:Nat):Bool := (List.range ops.size).all fun j=>match dstAt ops j with
  | some d=>!Nat.beq d t || Nat.beq j i || (tab.getD j []).contains i
  | none=>true
def notIn (p:Nat) (ops:Array Oper) (t:Nat):Bool := (List.range p).all fun j=>match dstAt ops j with
  | some d=>!Nat.beq d t
  | none=>true
abbrev Spec := Nat→Value→Sto→Prop
def updo (f:Fr) (d:Option Nat) (v:Value):Fr := match d with
  | some d=>upd f d v
  | none=>f
def QOp (sp:Value→Sto→Prop) (n:Nat) (f:Fr) (d:Option Nat) (w:World):Exit→Act→World→Prop := fun e a' w'=>e=.normal∧∃ v R,sp v R∧At n (updo f d v) a'∧St (bw w) R w'
def sw (S:Sto) (off:Nat) (b:Nat→Bool) (Rs:Nat→Sto):Sto := fun u=>cond (Nat.blt u off) (S u) (cond (b ((u - off) / 8)) (Rs ((u - off) / 8) ((u - off) % 8)) none)
structure OpOk (P:Program) (n:Nat) (ops:Array Oper) (tab:List (List Nat)) (f:Fr) (w0:Bs) (S:Sto) (off:Nat) (sp:Spec) (on:Nat→Bool) (i:Nat):Prop where
  ok:∀ o,ops[i]?=some o→∀ (vs:Nat→Value) (Rs:Nat→Sto) (f':Fr) (S':Sto) (w:World),
    (∀ j,(tab.getD i []).contains j=true→sp j (vs j) (Rs j))→(∀ j d,(tab.getD i []).contains j=true→dstAt ops j=some d→f' d=vs j)→(∀ t,lateOk ops tab i t=true→f' t=f t) →
    (∀ u,Nat.blt u off=true→S' u=S u)→(∀ j t,(tab.getD i []).contains j=true→t<8→S' (off+8*j+t)=Rs j t)→St w0 S' w →
    (∀ a,At n f' a→Region.wanted o (yielded ops a.tmps)=on i) ∧
    (on i=true→Ls P (QOp (sp i) n f' o.dst w) n ops [{ o with guard := none }] f' (bw w) s0)∧(on i=false→sp i undef s0)
theorem wp_mono2 {P:Program} {o:Oper} {a:Act} {w:World} {K K':Act→World→Prop} {Q Q':Exit→Act→World→Prop} (hk:∀ a w,K a w→K' a w) (hq:∀ e a w,e≠.normal→Q e a w→Q' e a w) (h:o.wp P a w K Q):o.wp P a w K' Q' := by
  unfold Oper.wp at *
  generalize (execOp a.eval o).run P w=r at *
  have hl:LetsOut Q→LetsOut Q' := fun ⟨a,w,h⟩=>⟨a,w,hq _ _ _ (by simp) h⟩
  cases r with
  | ok x w' =>
    cases x <;> simp only [Oper.upon] at h ⊢ <;>
      first
        | exact hk _ _ h
        | exact Calls.mono h (fun e w'' he=>by cases e <;> first | exact hk _ _ he | exact hq _ _ _ (by simp) he | exact hl he)
        | exact Rows.mono h (fun _ _ he=>hk _ _ he)
  | halt x w'=>cases x <;> simp only [Oper.upon] at h ⊢ <;> first | exact hq _ _ _ (by simp) h | exact h
def up (b:Nat→Bool) (i:Nat):Nat→Bool := fun j=>Nat.beq j i || b j
theorem up_self (b:Nat→Bool) (i:Nat):up b i i=true := by simp [up]
theorem beq_false {i j:Nat} (h:i≠j):Nat.beq i j=false := by
  rw [← Bool.not_eq_true]
  intro e
  exact h (Nat.eq_of_beq_eq_true e)
theorem up_ne {b:Nat→Bool} {i j:Nat} (h:j≠i):up b i j=b j := by simp [up,beq_false h]
theorem up_true {b:Nat→Bool} {i j:Nat} (h:up b i j=true):j=i ∨ b j=true := by
  by_cases e:j=i
  · exact .inl e
  · rw [up_ne e] at h; exact .inr h
def lof (n:Nat) (b:Nat→Bool):Array Bool := ((List.range n).map b).toArray
theorem lof_get {n j:Nat} {b:Nat→Bool} {d:Bool}:(lof n b).getD j d=if j<n then b j else d := by
  simp only [lof,Array.getD_eq_getD_getElem?,List.getElem?_toArray,List.getElem?_map]
  by_cases h:j<n
  · rw [List.getElem?_range h]; simp [h]
  · rw [List.getElem?_eq_none (by simp; omega)]; simp [h]
theorem lof_up {n i:Nat} {b:Nat→Bool} (hi:i<n):(lof n b).setIfInBounds i true=lof n (up b i) := by
  apply Array.ext'
  simp only [lof,Array.toList_setIfInBounds]
  apply List.ext_getElem?
  intro j
  by_cases hj:j<n
  · by_cases e:i=j
    · subst e
      rw [List.getElem?_set_self (by simp; omega)]
      simp [List.getElem?_range hj,up_self]
    · rw [List.getElem?_set_ne e]
      simp [List.getElem?_range hj,up_ne (Ne.symm e)]
  · rw [List.getElem?_eq_none (by simp; omega),List.getElem?_eq_none (by simp; omega)]
theorem up_count {b:Nat→Bool} {i:Nat}:∀ {O:List Nat},O.Nodup→i ∈ O→b i=false→(O.filter fun j=>!up b i j).length+1=(O.filter fun j=>!b j).length
  | [],_,hi,_=>by cases hi
  | x :: r,hn,hi,hb=>by
    rw [List.nodup_cons] at hn
    rcases List.mem_cons.1 hi with rfl | hi
    · have h1:(r.filter fun j=>!up b i j)=r.filter fun j=>!b j := by
        refine List.filter_congr (fun j hj=>?_)
        rw [up_ne (fun e=>hn.1 (by rw [← e]; exact hj))]
      rw [List.filter_cons,List.filter_cons]
      simp [up_self,hb,h1]
    · have hxi:x≠i := fun e=>hn.1 (e ▸ hi)
      have h1 := up_count hn.2 hi hb
      rw [List.filter_cons,List.filter_cons,up_ne hxi]
      cases hbx:b x
      · simp only [Bool.not_false,if_true,List.length_cons]; omega
      · simpa using h1
section
variable {P:Program} {Q:Exit→Act→World→Prop} {n:Nat} {ops:Array Oper} {tab:List (List Nat)} {f:Fr} {w0:Bs} {S:Sto} {off:Nat} {sp:Spec} {on:Nat→Bool}
theorem tab_row (ht:tabOk ops tab=true) {i:Nat} {o:Oper} (ho:ops[i]?=some o):(∀ e ∈ dirOf o,e<i)∧(∀ m,(tab.getD i []).contains m=true→m ∈ dirOf o ∨ ∃ e ∈ dirOf o,(tab.getD e []).contains m=true)∧∀ e ∈ dirOf o,(tab.getD i []).contains e=true := by
  simp only [tabOk,Bool.and_eq_true] at ht
  have h := List.all_eq_true.1 ht.2 i (List.mem_range.2 (Array.getElem?_eq_some_iff.1 ho).1)
  rw [ho] at h
  simp only [Bool.and_eq_true,List.all_eq_true,Bool.or_eq_true,List.any_eq_true] at h
  refine ⟨fun e he=>by have := h.1.1 e he; simp [Nat.blt] at this; omega,fun m hm=>?_,fun e he=>h.2 e he⟩
  rcases h.1.2 m (List.elem_iff.1 hm) with h1 | ⟨e,he,h1⟩
  · exact .inl (List.elem_iff.1 h1)
  · exact .inr ⟨e,he,h1⟩
def Inv (ops:Array Oper) (n:Nat) (tab:List (List Nat)) (f:Fr) (w0:Bs) (S:Sto) (off:Nat) (sp:Spec) (b:Nat→Bool) (a:Act) (w:World):Prop :=
  (∀ j,b j=true→j<ops.size∧∀ m,(tab.getD j []).contains m=true→b m=true) ∧
  ∃ (vs:Nat→Value) (Rs:Nat→Sto) (f':Fr),(∀ j,b j=true→sp j (vs j) (Rs j))∧(∀ j d,b j=true→dstAt ops j=some d→f' d=vs j)∧(∀ t,(∀ j,b j=true→dstAt ops j≠some t)→f' t=f t)∧At n f' a∧St w0 (sw S off b Rs) w
theorem sw_lt {b:Nat→Bool} {Rs:Nat→Sto} {u:Nat} (h:Nat.blt u off=true):sw S off b Rs u=S u := by simp [sw,h]
theorem sw_at {b:Nat→Bool} {Rs:Nat→Sto} {j t:Nat} (hb:b j=true) (ht:t<8):sw S off b Rs (off+8*j+t)=Rs j t := by
  have h1:Nat.blt (off+8*j+t) off=false := by
    rw [← Bool.not_eq_true]
    intro e
    simp [Nat.blt] at e
    omega
  have h2:(off+8*j+t - off) / 8=j := by omega
  have h3:(off+8*j+t - off) % 8=t := by omega
  simp [sw,h1,h2,h3,hb]
theorem St.sw {w w':World} {b:Nat→Bool} {Rs:Nat→Sto} {i:Nat} {R:Sto} (h:St w0 (sw S off b Rs) w) (hb:b i=false) (hr:St (bw w) R w'):St w0 (sw S off (up b i) (fun j=>cond (Nat.beq j i) R (Rs j))) w' := by
  have h' := h.step hr.below.bw
  have case:∀ u d,Sx.sw S off (up b i) (fun j=>cond (Nat.beq j i) R (Rs j)) u=some d→(∃ t,u=off+8*i+t∧t<8∧R t=some d) ∨ ((¬ ∃ t,u=off+8*i+t∧t<8)∧Sx.sw S off b Rs u=some d) := by
    intro u d e
    unfold Sx.sw at e ⊢
    cases hu:Nat.blt u off with
    | true =>
      rw [hu] at e
      refine .inr ⟨fun ⟨t,h1,_⟩=>?_,by simpa using e⟩
      simp [Nat.blt] at hu
      omega
    | false =>
      rw [hu] at e
      have hu':off≤u := by
        rw [← Bool.not_eq_true] at hu
        simp [Nat.blt] at hu
        omega
      by_cases hi:(u - off) / 8=i
      · left
        refine ⟨(u - off) % 8,by omega,Nat.mod_lt _ (by omega),?_⟩
        rw [hi] at e
        simpa [up_self] using e
      · right
        refine ⟨fun ⟨t,h1,h2⟩=>hi (by omega),?_⟩
        simpa [up_ne hi,beq_false hi] using e
  have new:∀ t d k,R t=some d→k ∈ d.key→w.heap.size≤k := fun t d k e hk=>by
    rcases hr.own t d e k hk with h1 | h1
    · exact h1
    · cases h1
  refine ⟨h.ok,h'.below,fun u d e=>?_,fun u d e k hk=>?_,fun u v d e hne hu hv k hkd hke=>?_⟩
  · rcases case u d e with ⟨t,_,_,e⟩ | ⟨_,e⟩
    · exact hr.holds _ _ e
    · exact h'.holds u d e
  · rcases case u d e with ⟨t,_,_,e⟩ | ⟨_,e⟩
    · exact .inl (Nat.le_trans h.below.size (new t d k e hk))
    · exact h.own u d e k hk
  · rcases case u d hu with ⟨t,h1,_,hu⟩ | ⟨h1,hu⟩ <;> rcases case v e hv with ⟨t2,h2,_,hv⟩ | ⟨h2,hv⟩
    · exact hr.apart t t2 d e (by omega) hu hv k hkd hke
    · have := new t d k hu hkd
      have := h.lt hv k hke
      omega
    · have := h.lt hu k hkd
      have := new t2 e k hv hke
      omega
    · exact h.apart u v d e hne hu hv k hkd hke
theorem tab_lt (ht:tabOk ops tab=true):∀ (i m:Nat),(tab.getD i []).contains m=true→m<i := by
  intro i
  induction i using Nat.strongRecOn with
  | ind i ih =>
    intro m hm
    by_cases hi:i<ops.size
    · have hio:ops[i]?=some ops[i] := Array.getElem?_eq_getElem hi
      rcases (tab_row ht hio).2.1 m hm with h | ⟨e,he,h⟩
      · exact (tab_row ht hio).1 m h
      · have h1 := (tab_row ht hio).1 e he
        have := ih e h1 m h
        omega
    · simp only [tabOk,Bool.and_eq_true] at ht
      have hl := Nat.eq_of_beq_eq_true ht.1
      rw [List.getD_eq_getElem?_getD,List.getElem?_eq_none (by omega)] at hm
      simp at hm
theorem ready_mem {ops:Array Oper}:∀ {b:Nat→Bool} {i:Nat},i ∈ Region.ready .any ops (lof ops.size b) ↔ i<ops.size∧b i=false∧∃ o,ops[i]?=some o∧∀ e ∈ dirOf o,e<ops.size∧b e=true := by
  intro b i
  unfold Region.ready
  rw [List.mem_filter,List.mem_range]
  constructor
  · rintro ⟨h1,h2⟩
    rw [Bool.and_eq_true,lof_get,if_pos h1] at h2
    obtain ⟨o,ho⟩:∃ o,ops[i]?=some o := ⟨_,Array.getElem?_eq_getElem h1⟩
    rw [ho] at h2
    refine ⟨h1,by simpa using h2.1,o,ho,fun e he=>?_⟩
    simp only [dirOf,List.mem_map,List.mem_filter] at he
    obtain ⟨x,⟨hx,hxb⟩,rfl⟩ := he
    have h3 := h2.2
    simp only [Option.map_some,Option.getD_some] at h3
    rw [← Array.all_toList,List.all_eq_true] at h3
    have h4 := h3 x hx
    rw [hxb,lof_get] at h4
    by_cases hlt:x.on<ops.size
    · rw [if_pos hlt] at h4; exact ⟨hlt,by simpa using h4⟩
    · rw [if_neg hlt] at h4; simp at h4
  · rintro ⟨h1,h2,o,ho,h3⟩
    refine ⟨h1,?_⟩
    rw [Bool.and_eq_true,lof_get,if_pos h1,h2,ho]
    refine ⟨rfl,?_⟩
    simp only [Option.map_some,Option.getD_some]
    rw [← Array.all_toList,List.all_eq_true]
    intro x hx
    cases hxb:Region.binds .any x with
    | false=>rfl
    | true =>
      have h4 := h3 x.on (by simp only [dirOf,List.mem_map,List.mem_filter]; exact ⟨x,⟨hx,hxb⟩,rfl⟩)
      rw [lof_get,if_pos h4.1,h4.2]
      rfl
theorem tail_any (ht:tabOk ops tab=true) (p:Nat) (hfull:∀ i,p≤i→i<ops.size→∀ j,j<i→(tab.getD i []).contains j=true) :
    ∀ (k i:Nat) (a:Act) (w:World),i+k=ops.size→p≤i→wpList P ops Q (ops.toList.drop i) a w→wpAny P .any ops Q k (lof ops.size (fun j=>Nat.blt j i)) a w := by
  intro k
  induction k with
  | zero =>
    intro i a w hk hpi h
    refine ⟨?_,?_⟩
    · apply List.eq_nil_iff_forall_not_mem.2
      intro j hj
      obtain ⟨h1,h2,_⟩ := ready_mem.1 hj
      have:Nat.blt j i=true := by simp [Nat.blt]; omega
      rw [this] at h2
      cases h2
    · rw [List.drop_eq_nil_of_le (by simp; omega)] at h
      exact h
  | succ k ih =>
    intro i a w hk hpi h
    have hi:i<ops.size := by omega
    have hdrop:ops.toList.drop i=ops[i] :: ops.toList.drop (i+1) := by
      rw [List.drop_eq_getElem_cons (by simpa using hi)]
      simp
    have hio:ops[i]?=some ops[i] := Array.getElem?_eq_getElem hi
    refine ⟨fun he=>?_,fun j hj=>?_⟩
    · have:i ∈ Region.ready .any ops (lof ops.size (fun j=>Nat.blt j i)) := ready_mem.2 ⟨hi,(by rw [← Bool.not_eq_true]; intro e; simp [Nat.blt] at e; omega),_,hio,fun e he2=>⟨by have := (tab_row ht hio).1 e he2; omega,by have := (tab_row ht hio).1 e he2; simp [Nat.blt]; omega⟩⟩
      rw [he] at this
      cases this
    · obtain ⟨h1,h2,o,ho,h3⟩ := ready_mem.1 hj
      have hge:i≤j := by
        by_cases e:j<i
        · have:Nat.blt j i=true := by simp [Nat.blt]; omega
          rw [this] at h2; cases h2
        · omega
      have hji:j=i := by
        by_cases e:j=i
        · exact e
        · exfalso
          have hc := hfull j (by omega) h1 i (by omega)
          rcases (tab_row ht ho).2.1 i hc with h4 | ⟨e2,h4,h5⟩
          · have := (h3 i h4).2
            simp [Nat.blt] at this
            omega
          · have h6 := (h3 e2 h4).2
            have h7:e2<i := by simp [Nat.blt] at h6; omega
            have h8 := fun e=>tab_lt ht e2 e
            have := h8 i h5
            omega
      subst hji
      rw [lof_up h1]
      have e:up (fun m=>Nat.blt m j) j=fun m=>Nat.blt m (j+1) := by
        funext m
        simp only [up]
        rw [Bool.eq_iff_iff]
        simp [Nat.blt]
        omega
      rw [e]
      rw [hdrop] at h
      unfold wpOp
      rw [hio]
      simp only
      unfold wpList at h
      split
      · rename_i hw
        rw [if_pos hw] at h
        rcases h with h | h
        · exact .inl (Oper.wp_mono (fun a w h=>ih (j+1) a w (by omega) (by omega) h) h)
        · exact .inr h
      · rename_i hw
        rw [if_neg hw] at h
        exact ih (j+1) _ w (by omega) (by omega) h
theorem draw_any (p:Nat) (ht:tabOk ops tab=true) (hd:dstsOk ops=true) (hdn:∀ j d,dstAt ops j=some d→Nat.blt d n=true) (h:∀ i,i<p→OpOk P n ops tab f w0 S off sp on i)
    (hp:p≤ops.size) (hfull:∀ i,p≤i→i<ops.size→∀ j,j<i→(tab.getD i []).contains j=true)
    (hend:∀ b a w,(∀ j,b j=true→j<p)→(∀ j,j<p→b j=true)→Inv ops n tab f w0 S off sp b a w→wpList P ops Q (ops.toList.drop p) a w) :
    ∀ (m:Nat) (b:Nat→Bool) (a:Act) (w:World),(∀ j,b j=true→j<p)→((List.range p).filter fun j=>!b j).length=m→Inv ops n tab f w0 S off sp b a w→wpAny P .any ops Q (m+(ops.size - p)) (lof ops.size b) a w := by
  have mem_ready := @ready_mem ops
  intro m
  induction m with
  | zero =>
    intro b a w hbp hm hI
    have hall:∀ j,j<p→b j=true := fun j hj=>by
      have h1 := List.eq_nil_of_length_eq_zero hm
      cases hb:b j with
      | true=>rfl
      | false =>
        have:j ∈ (List.range p).filter fun j=>!b j := List.mem_filter.2 ⟨List.mem_range.2 hj,by rw [hb]; rfl⟩
        rw [h1] at this
        cases this
    have e:b=fun j=>Nat.blt j p := by
      funext j
      rw [Bool.eq_iff_iff]
      exact ⟨fun h=>by have := hbp j h; simp [Nat.blt]; omega,fun h=>hall j (by simp [Nat.blt] at h; omega)⟩
    have h1 := hend b a w hbp hall hI
    rw [e,Nat.zero_add]
    exact tail_any ht p hfull (ops.size - p) p a w (by omega) (Nat.le_refl _) h1
  | succ m ih =>
    intro b a w hbp hm hI
    rw [show m+1+(ops.size - p)=(m+(ops.size - p))+1 from by omega]
    have hex:∃ i,i ∈ Region.ready .any ops (lof ops.size b) := by
      have hne:∃ i,i<ops.size∧b i=false := by
        rcases hl:(List.range p).filter fun j=>!b j with _ | ⟨x,r⟩
        · rw [hl] at hm; cases hm
        · have hx:x ∈ (List.range p).filter fun j=>!b j := by rw [hl]; simp
          rw [List.mem_filter,List.mem_range] at hx
          exact ⟨x,by omega,by simpa using hx.2⟩
      have key:∀ q i,i≤q→i<ops.size→b i=false→∃ i,i ∈ Region.ready .any ops (lof ops.size b) := by
        intro q
        induction q with
        | zero =>
          intro i hq h1 h2
          have hi0:i=0 := by omega
          subst hi0
          obtain ⟨o,ho⟩:∃ o,ops[0]?=some o := ⟨_,Array.getElem?_eq_getElem h1⟩
          exact ⟨0,mem_ready.2 ⟨h1,h2,o,ho,fun e he=>by have := (tab_row ht ho).1 e he; omega⟩⟩
        | succ q ihq =>
          intro i hq h1 h2
          obtain ⟨o,ho⟩:∃ o,ops[i]?=some o := ⟨_,Array.getElem?_eq_getElem h1⟩
          by_cases hall:∀ e ∈ dirOf o,b e=true
          · exact ⟨i,mem_ready.2 ⟨h1,h2,o,ho,fun e he=>⟨by have := (tab_row ht ho).1 e he; omega,hall e he⟩⟩⟩
          · obtain ⟨e,he⟩:∃ e,e ∈ dirOf o∧b e=false := by
              apply Classical.byContradiction
              intro hno
              exact hall (fun e he=>by
                cases hb:b e with
                | true=>rfl
                | false=>exact (hno ⟨e,he,hb⟩).elim)
            have hlt := (tab_row ht ho).1 e he.1
            exact ihq e (by omega) (by omega) he.2
      obtain ⟨i,h1,h2⟩ := hne
      exact key i i (Nat.le_refl _) h1 h2
    refine ⟨fun he=>(by obtain ⟨i,hi⟩ := hex; rw [he] at hi; cases hi),fun i hi=>?_⟩
    obtain ⟨h1,h2,o,ho,h3⟩ := mem_ready.1 hi
    obtain ⟨hcl,vs,Rs,f',hsp,hf,hx,ha,hs⟩ := hI
    obtain ⟨r1,r2,r3⟩ := tab_row ht ho
    have hpre:∀ j,(tab.getD i []).contains j=true→b j=true := fun j hj=>by
      rcases r2 j hj with hj | ⟨e,he,hj⟩
      · exact (h3 j hj).2
      · exact (hcl e (h3 e he).2).2 j hj
    have hnot:∀ j,b j=true→(tab.getD j []).contains i=true→False := fun j hj hc=>by
      have := (hcl j hj).2 i hc
      rw [h2] at this
      cases this
    have hip:i<p := by
      by_cases e:i<p
      · exact e
      · exfalso
        have h5:∃ j,j<p∧b j=false := by
          rcases hl:(List.range p).filter fun j=>!b j with _ | ⟨x,r⟩
          · rw [hl] at hm; cases hm
          · have hx:x ∈ (List.range p).filter fun j=>!b j := by rw [hl]; simp
            rw [List.mem_filter,List.mem_range] at hx
            exact ⟨x,hx.1,by simpa using hx.2⟩
        obtain ⟨j,hj,hbj⟩ := h5
        have h6 := hpre j (hfull i (by omega) h1 j (by omega))
        rw [hbj] at h6
        cases h6
    have hok := (h i hip).ok o ho vs Rs f' (sw S off b Rs) w (fun j hj=>hsp j (hpre j hj)) (fun j d hj hjd=>hf j d (hpre j hj) hjd)
      (fun t hlt=>hx t (fun j hj hjd=>by
        have h4 := List.all_eq_true.1 hlt j (List.mem_range.2 (hcl j hj).1)
        rw [hjd] at h4
        simp only [Bool.or_eq_true,Bool.not_eq_true'] at h4
        rcases h4 with (h4 | h4) | h4
        · simp at h4
        · have := Nat.eq_of_beq_eq_true h4
          subst this
          rw [h2] at hj
          cases hj
        · exact hnot j hj h4))
      (fun u hu=>sw_lt hu) (fun j t hj hlt=>sw_at (hpre j hj) hlt) hs
    have hwant := hok.1 a ha
    have next:∀ v R a' w',sp i v R→At n (updo f' o.dst v) a'→St (bw w) R w'→wpAny P .any ops Q (m+(ops.size - p)) ((lof ops.size b).setIfInBounds i true) a' w' := by
      intro v R a' w' hv ha' hs'
      rw [lof_up h1]
      refine ih (up b i) a' w' (fun j hj=>(up_true hj).elim (fun e=>e ▸ hip) (hbp j)) ?_ ⟨fun j hj=>?_,fun j=>cond (Nat.beq j i) v (vs j),fun j=>cond (Nat.beq j i) R (Rs j),updo f' o.dst v,fun j hj=>?_,fun j d hj hjd=>?_,fun t hnt=>?_,ha',hs.sw h2 hs'⟩
      · have := up_count (b:=b) (i:=i) (List.nodup_range (n:=p)) (List.mem_range.2 hip) h2
        omega
      · rcases up_true hj with rfl | hj
        · refine ⟨h1,fun m hm=>?_⟩
          by_cases e:m=j
          · subst e; exact up_self b _
          · rw [up_ne e]; exact hpre m hm
        · refine ⟨(hcl j hj).1,fun m hm=>?_⟩
          by_cases e:m=i
          · subst e; exact up_self b _
          · rw [up_ne e]; exact (hcl j hj).2 m hm
      · by_cases e:j=i
        · subst e
          simpa using hv
        · rw [up_ne e] at hj
          simpa [beq_false e] using hsp j hj
      · have hodst:dstAt ops i=o.dst := by simp [dstAt,ho]
        by_cases e:j=i
        · subst e
          rw [hodst] at hjd
          rw [hjd]
          simp [updo,upd_same]
        · rw [up_ne e] at hj
          have h5:d=d := rfl
          simp only [beq_false e,cond_false]
          cases hod:o.dst with
          | none=>exact hf j d hj hjd
          | some q =>
            have hqd:d≠q := fun e2=>by
              subst e2
              have h6 := List.all_eq_true.1 hd j (List.mem_range.2 (hcl j hj).1)
              have h7 := List.all_eq_true.1 h6 i (List.mem_range.2 h1)
              rw [hjd,hodst,hod] at h7
              simp [beq_false e] at h7
            show upd f' q v d=_
            rw [upd_ne f' v hqd]
            exact hf j d hj hjd
      · have hodst:dstAt ops i=o.dst := by simp [dstAt,ho]
        have hft:f' t=f t := hx t (fun j hj=>hnt j (by
          by_cases e:j=i
          · subst e; rw [h2] at hj; cases hj
          · rw [up_ne e]; exact hj))
        cases hod:o.dst with
        | none=>exact hft
        | some q =>
          have hqt:t≠q := fun e=>by
            subst e
            exact hnt i (up_self b i) (by rw [hodst,hod])
          show upd f' q v t=_
          rw [upd_ne f' v hqt]
          exact hft
    unfold wpOp
    rw [ho]
    simp only
    rw [hwant]
    cases hon:on i with
    | true =>
      rw [if_pos rfl]
      left
      have h4 := hok.2.1 hon a w ha (St.refl w)
      unfold wpList at h4
      rw [if_pos (by simp [Region.wanted])] at h4
      have h5:({ o with guard := none }:Oper).wp P a w (wpList P ops (QOp (sp i) n f' o.dst w) []) (QOp (sp i) n f' o.dst w) := by
        rcases h4 with h4 | ⟨_,a1,w1,h4,_⟩
        · exact h4
        · cases h4
      have h6:o.wp P a w (wpList P ops (QOp (sp i) n f' o.dst w) []) (QOp (sp i) n f' o.dst w) := h5
      exact wp_mono2 (fun a' w' hq=>by obtain ⟨_,v,R,hv,ha',hs'⟩ := hq; exact next v R a' w' hv ha' hs') (fun e a' w' hne hq=>absurd hq.1 hne) h6
    | false =>
      rw [if_neg (by simp)]
      refine next undef s0 _ _ (hok.2.2 hon) ?_ (St.refl w)
      cases hod:o.dst with
      | none=>exact ha
      | some q=>exact ha.put (hdn i q (by simp [dstAt,ho,hod])) undef
end
section
variable {P:Program} {Q:Exit→Act→World→Prop} {n:Nat} {l:List Oper} {f:Fr} {w0:Bs} {S:Sto}
theorem cs_draw {id:Nat} (tab:List (List Nat)) (p off:Nat) (sp:Spec) (on:Nat→Bool) (hm:P.follows .mixedOrders=true) (ht:tabOk l.toArray tab=true) (hd:dstsOk l.toArray=true) (hdn:(List.range l.toArray.size).all (fun j=>match dstAt l.toArray j with
    | some d=>Nat.blt d n
    | none=>true)=true)
    {rs:List Oper} (hrs:l.drop p=rs) (hp:Nat.ble p l.toArray.size=true) (hfull:(List.range l.toArray.size).all (fun i=>Nat.blt i p || (List.range i).all fun j=>(tab.getD i []).contains j)=true)
    (h:∀ i,i<p→OpOk P n l.toArray tab f w0 S off sp on i)
    (hend:∀ (vs:Nat→Value) (Rs:Nat→Sto) (f':Fr) (S':Sto),(∀ j,Nat.blt j p=true→sp j (vs j) (Rs j))→(∀ j d,Nat.blt j p=true→dstAt l.toArray j=some d→f' d=vs j)→(∀ t,notIn p l.toArray t=true→f' t=f t) →
      (∀ u,Nat.blt u off=true→S' u=S u)→(∀ j t,Nat.blt j p=true→t<8→S' (off+8*j+t)=Rs j t)→Ls P Q n l.toArray rs f' w0 S'):Cs P Q n (.region id l.toArray true) f w0 S := fun a w ha hs=>by
  have hdn':∀ j d,dstAt l.toArray j=some d→Nat.blt d n=true := fun j d hj=>by
    have hlt:j<l.toArray.size := by
      unfold dstAt at hj
      cases ho:l.toArray[j]? with
      | none=>rw [ho] at hj; cases hj
      | some o=>exact (Array.getElem?_eq_some_iff.1 ho).1
    have := List.all_eq_true.1 hdn j (List.mem_range.2 hlt)
    rw [hj] at this
    exact this
  have hpl:p≤l.toArray.size := by simpa [Nat.ble_eq] using hp
  refine wp_region_any hm ?_
  have h0 := draw_any (P:=P) (Q:=Q) p ht hd hdn' h hpl (fun i h1 h2 j h3=>?_) (fun b a w hbp hall hI=>?_) p (fun _=>false) a { w with drawn := w.drawn+1 } (fun j hj=>(by cases hj)) (by rw [List.filter_eq_self.2 (by intro _ _; simp)]; simp) ⟨fun j hj=>(by cases hj),fun _=>undef,fun _=>s0,f,fun j hj=>(by cases hj),fun j d hj=>(by cases hj),fun t _=>rfl,ha,?_⟩
  · have e:lof l.toArray.size (fun _=>false)=Array.replicate l.toArray.size false := by
      apply Array.ext'
      apply List.ext_getElem
      · simp [lof]
      · intro i h1 h2
        simp [lof]
    rw [e,show p+(l.toArray.size - p)=l.toArray.size from by omega] at h0
    exact h0
  · have h4 := List.all_eq_true.1 hfull i (List.mem_range.2 h2)
    rw [Bool.or_eq_true] at h4
    rcases h4 with h4 | h4
    · simp [Nat.blt] at h4
      omega
    · exact List.all_eq_true.1 h4 j (List.mem_range.2 h3)
  · obtain ⟨hcl,vs,Rs,f',hsp,hf,hx,ha',hs'⟩ := hI
    have hb:∀ j,Nat.blt j p=true→b j=true := fun j hj=>hall j (by simp [Nat.blt] at hj; omega)
    show wpList P l.toArray Q (l.drop p) a w
    rw [hrs]
    refine hend vs Rs f' (sw S off b Rs) (fun j hj=>hsp j (hb j hj)) (fun j d hj hjd=>hf j d (hb j hj) hjd) (fun t hnt=>hx t (fun j hj hjd=>?_)) (fun u hu=>sw_lt hu) (fun j t hj hlt=>sw_at (hb j hj) hlt) a w ha' hs'
    have h4 := List.all_eq_true.1 hnt j (List.mem_range.2 (hbp j hj))
    rw [hjd] at h4
    simp at h4
  · have hs1:St w0 S { w with drawn := w.drawn+1 } := hs.step ⟨rfl,rfl,rfl,Nat.le_refl _,fun _ _=>rfl⟩
    refine hs1.sub (fun u d e=>?_)
    unfold sw at e
    cases hu:Nat.blt u off with
    | true=>rw [hu] at e; exact e
    | false=>rw [hu] at e; cases e
end
def spl (L:List (Value→Sto→Prop)):Spec := fun j=>L.getD j (fun _ _=>False)
def onl (L:List Bool):Nat→Bool := fun j=>L.getD j true
theorem all_nil {p:Nat→Prop}:∀ i,i<0→p i := fun i h=>absurd h (by omega)
theorem all_snoc {p:Nat→Prop} {n:Nat} (h:∀ i,i<n→p i) (hn:p n):∀ i,i<n+1→p i := fun i hi=>by
  by_cases e:i=n
  · subst e; exact hn
  · exact h i (by omega)
theorem upd_upd (f:Fr) (d:Nat) (v v':Value):upd (upd f d v) d v'=upd f d v' := by
  funext t
  by_cases h:t=d
  · subst h; rw [upd_same,upd_same]
  · rw [upd_ne _ _ h,upd_ne _ _ h,upd_ne _ _ h]
section
variable {P:Program} {Q:Exit→Act→World→Prop} {n:Nat} {ops:Array Oper} {l:List Oper} {f f' F:Fr} {w0:Bs} {w:World} {S:Sto} {o:Oper} {d:Option Nat} {v:Value}
theorem want_none (hg:o.guard=none):∀ a,At n f a→Region.wanted o (yielded ops a.tmps)=true := fun a ha=>by simp [Region.wanted,hg]
theorem want_is {j t:Nat} {b c r:Bool} (hgd:o.guard=some (j,b)) (ht:(ops[j]?).bind (·.dst)=some t) (hn:Nat.blt t n=true) (hf:f t=.bool c) (hr:(c==b)=r):∀ a,At n f a→Region.wanted o (yielded ops a.tmps)=r := fun a ha=>by
  simp only [Region.wanted,hgd,yielded_of ha ht hn hf]
  subst hr
  cases b <;> cases c <;> rfl
theorem want_not {j t:Nat} {b:Bool} (hgd:o.guard=some (j,b)) (ht:(ops[j]?).bind (·.dst)=some t) (hn:Nat.blt t n=true) (hf:f t=undef):∀ a,At n f a→Region.wanted o (yielded ops a.tmps)=false := fun a ha=>by
  have hlt:t<a.tmps.size := by have := ha.size; simp [Nat.blt] at hn; omega
  have h1:a.tmps[t]?=some undef := by
    have h2 := ha.get t
    rw [hf,Array.getD_eq_getD_getElem?,Array.getElem?_eq_getElem hlt,Option.getD_some] at h2
    rw [Array.getElem?_eq_getElem hlt,h2]
  have h3:yielded ops a.tmps j=none := by
    simp only [yielded,ht,Option.bind_some,h1]
    rfl
  simp [Region.wanted,hgd,h3]
theorem ls_fr (e:f=F) (h:Ls P Q n ops l F w0 S):Ls P Q n ops l f w0 S := by rw [e]; exact h
theorem ls_fin {sp:Value→Sto→Prop} (R:Sto) (v:Value) (hF:F=updo f' d v) (hsp:sp v R) (hS:Sub R S):Ls P (QOp sp n f' d w) n ops [] F (bw w) S := fun a w' ha hs=>⟨rfl,v,R,hsp,hF ▸ ha,hs.sub hS⟩
theorem ls_sub (S':Sto) (hs:Sub S' S) (h:Ls P Q n ops l f w0 S'):Ls P Q n ops l f w0 S := fun a w ha hh=>h a w ha (hh.sub hs)
theorem ls_offu {rest:List Oper} {dd j t:Nat} {b:Bool} (hgd:o.guard=some (j,b)) (ht:(ops[j]?).bind (·.dst)=some t) (hn:Nat.blt t n=true) (hf:f t=undef) (hd:o.dst=some dd) (hdn:Nat.blt dd n=true) (h:Ls P Q n ops rest (upd f dd undef) w0 S):Ls P Q n ops (o :: rest) f w0 S := fun a w ha hs=>by
  have hw := want_not (ops:=ops) hgd ht hn hf a ha
  unfold wpList
  rw [if_neg (by rw [hw]; decide),hd]
  exact h _ _ (ha.put hdn _) hs
end
abbrev Ck.var (t:TypeId) (g:Nat) (cs:List Value):Ck := Ck.obj g (.cells ⟨cs⟩ t)
section
variable {P:Program} {Q:Exit→Act→World→Prop} {n:Nat} {ops:Array Oper} {rest:List Oper} {o:Oper} {f:Fr} {w0:Bs} {S:Sto} {d g off k:Nat} {v:Value} {cs sub vs:List Value} {t ty e:TypeId} {α:Type} {E:α→Value}
theorem obj_cell {w:World} (h:w.heap[g]?=some (.cells ⟨cs⟩ ty)) (off:Nat):w.cell? ⟨g,off,none⟩=cs[off]? := by
  simp [World.cell?,h]
theorem St.var {w:World} (h:St w0 S w) (hk:S k=some (Ck.var ty g cs)) {v:Value} (hc:Sub4 cs off [v]):w.cell? ⟨g,off,none⟩=some v := by
  rw [obj_cell (h.holds k _ hk),hc.first]
theorem St.vars {w:World} (h:St w0 S w) (hk:S k=some (Ck.var ty g cs)) (hc:Sub4 cs off sub):Rd w (some ⟨g,off,none⟩) sub := fun j u hj=>⟨_,rfl,by
  have hlt := (List.getElem?_eq_some_iff.1 hj).1
  rw [addo,obj_cell (h.holds k _ hk),hc.get j hlt]
  exact hj⟩
theorem run_loadagg {w:World} {a:Addr} (hu:(P.underlying t).map aggD=some true) (hi:(P.info? t).map (·.size)=some sub.length) (hR:Rd w (some a) sub):(Instr.loadAt t (.pointer (some a))).run P w=.ok (.agg ⟨sub⟩) w := by
  obtain ⟨de,hu,hd⟩ := Option.map_eq_some_iff.1 hu
  have hl:(loadCells a sub.length).run P w=.ok sub.toArray w := run_loadCells_list (P:=P) w a sub (fun j u hj=>by
    obtain ⟨ad,e1,h1⟩ := hR j u hj
    injection e1 with e1
    subst e1
    exact h1)
  obtain ⟨q,hq,hq1⟩ := Option.map_eq_some_iff.1 hi
  cases de <;> first | (cases hd; done) | simp [Instr.loadAt,Instr.sureAddr,loadVar,isAgg,run_underlying hu,sizeOf,typeInfo,hq,hq1,hl]
theorem ls_loadagg (hg:o.guard=none) (hd:o.dst=some d) (hn:Nat.blt d n=true) {x:Operand} {a:Addr} (ho:o.op=.load t x) (hx:ev f x=.pointer (some a)) (hu:(P.underlying t).map aggD=some true) {z:Nat} (hz:(P.info? t).map (·.size)=some z) (hl:sub.length=z)
    (hR:∀ w,St w0 S w→Rd w (some a) sub) (h:Ls P Q n ops rest (upd f d (.agg ⟨sub⟩)) w0 S):Ls P Q n ops (o :: rest) f w0 S :=
  ls_read hg hd hn (fun w hs=>by
    unfold execOp
    rw [ho]
    refine lift_v ?_
    rw [hx]
    exact run_loadagg hu (by rw [hl]; exact hz) (hR w hs)) h
theorem lift_u {s:Sem Unit} {w w':World} (h:s.run P w=.ok () w'):(s >>= fun _=>pure Next.skip).run P w=.ok .skip w' := by
  simp [h,Result.andThen]
theorem setRow_get {w:World} {g:Nat} {cur cur':Array Value} {t:TypeId} {fr:Nat × Nat} (h:w.heap[g]?=some (.cells cur t fr)):(w.setRow g cur').heap[g]?=some (.cells cur' t fr) := setRow_heap w g cur cur' t fr h
theorem ls_storec (k:Nat) (hg:o.guard=none) (hd:o.dst=none) {x y:Operand} (ho:o.op=.store t x y) (hx:ev f x=.pointer (some ⟨g,off,none⟩)) (hy:ev f y=v) (hv:v.cells=⟨vs⟩) (hS:S k=some (Ck.var ty g cs)) {z:Nat} (hz:(P.info? t).map (·.size)=some z) (hl:vs.length=z)
    (h1:∀ u ∈ vs,u.oneCell'=true) (hle:off+vs.length≤cs.length) {cs':List Value} (hc:splc cs off vs=cs') (h:Ls P Q n ops rest f w0 (sput S k (some (Ck.var ty g cs')))):Ls P Q n ops (o :: rest) f w0 S :=
  ls_op hg fun a w ha hs=>op_wp ha (by
    have hob:w.heap[g]?=some (.cells ⟨cs⟩ ty) := hs.holds k _ hS
    obtain ⟨q,hq,hq1⟩ := Option.map_eq_some_iff.1 hz
    have hst := run_storeCells_at (P:=P) g off ty vs 0 ⟨cs⟩ w hob (by simpa using hle) h1
    have hrun:(Instr.storeAt t (.pointer (some ⟨g,off,none⟩)) v).run P w=.ok () (w.setRow g ⟨cs'⟩) := by
      rw [← hc]
      have hsz:v.cells.size=q.size := by rw [hv,hq1,← hl]; rfl
      have hvl:v.cells.toList=vs := by rw [hv]
      simp only [Nat.add_zero] at hst
      simp [Instr.storeAt,Instr.sureAddr,storeVar,sizeOf,typeInfo,hq,hsz,hvl,hst,splc]
    unfold execOp
    rw [ho]
    simp only [hx,hy]
    rw [lift_u hrun]
    show wpList P ops Q rest (a.put o.dst undef) _
    rw [hd]
    refine h a _ ha (hs.set (c' := Ck.var ty g cs') hS rfl rfl rfl (by simp [World.setRow]) (fun j hj hne=>?_) (setRow_get hob) (fun j hj=>.inl hj))
    have hne:j≠g := fun e=>hne (by simp [Ck.obj,e])
    exact setRow_other w g j _ hne)
theorem ls_idxa (hg:o.guard=none) (hd:o.dst=some d) (hn:Nat.blt d n=true) {x ix:Operand} {kk:IntKind} {i:Int} {ln z:Nat} (ho:o.op=.indexAddr t x ix) (hx:ev f x=.pointer (some ⟨g,off,none⟩)) (hi:ev f ix=.int kk i) (ht:P.underlying t=some (.array ln e)) (hz:(P.info? e).map (·.size)=some z)
    (h0:0≤i) (h1:i<(ln:Int)) (h:Ls P Q n ops rest (upd f d (.pointer (some ⟨g,off+i.toNat*z,none⟩))) w0 S):Ls P Q n ops (o :: rest) f w0 S :=
  ls_val hg hd hn (v:=.pointer (some ⟨g,off+i.toNat*z,none⟩)) (fun w=>by
    unfold execOp
    rw [ho]
    refine lift_v ?_
    rw [hx,hi]
    obtain ⟨q,hq,hq1⟩ := Option.map_eq_some_iff.1 hz
    simp [Instr.indexAt,run_underlying ht,asIntOf,h0,h1,sizeOf,typeInfo,hq,hq1,Instr.sureAddr,addo]) h
theorem ls_idxa1 (hg:o.guard=none) (hd:o.dst=some d) (hn:Nat.blt d n=true) {x ix:Operand} {kk:IntKind} {i:Int} {ln:Nat} (ho:o.op=.indexAddr t x ix) (hx:ev f x=.pointer (some ⟨g,off,none⟩)) (hi:ev f ix=.int kk i) (ht:P.underlying t=some (.array ln e)) (hz:(P.info? e).map (·.size)=some 1)
    (h0:0≤i) (h1:i<(ln:Int)) (h:Ls P Q n ops rest (upd f d (.pointer (some ⟨g,off+i.toNat,none⟩))) w0 S):Ls P Q n ops (o :: rest) f w0 S :=
  ls_idxa hg hd hn ho hx hi ht hz h0 h1 (by rw [Nat.mul_one]; exact h)
theorem run_cellres {w:World} {t:TypeId} (hu:(P.underlying t).map aggD=some true) {z:Nat} (hz:(P.info? t).map (·.size)=some z) (hl:cs.length=z) (hob:w.heap[g]?=some (.cells ⟨cs⟩ ty)):(loadVar t ⟨g,0,none⟩).run P w=.ok (.agg ⟨cs⟩) w := by
  obtain ⟨de,hu,hde⟩ := Option.map_eq_some_iff.1 hu
  exact run_loadVar_row (P:=P) w g ty t ⟨cs⟩ (0,0) de hob hu (by cases de <;> first | (cases hde; done) | rfl) (by rw [hz,← hl]; rfl)
inductive Res (P:Program) (f:Fr) (w:World):List ResultVar→List Value→Prop
  | nil:Res P f w [] []
  | tmp {t:Nat} {rs:List ResultVar} {vs:List Value} (h:Res P f w rs vs):Res P f w (.tmp t :: rs) (f t :: vs)
  | cell {a:Nat} {t:TypeId} {ad:Addr} {v:Value} {rs:List ResultVar} {vs:List Value} (ha:f a=.pointer (some ad)) (hv:(loadVar t ad).run P w=.ok v w) (h:Res P f w rs vs):Res P f w (.cell a t :: rs) (v :: vs)
def rets:List Value→Value
  | [v]=>v
  | vs=>.tuple ⟨vs⟩
def resOne (tm:Array Value) (r:ResultVar):Sem Value := match r with
  | .tmp t=>pure (tm.getD t undef)
  | .cell x t=>do loadVar t (← asAddr (tm.getD x undef))
theorem run_res {a:Act} {w:World} {f:Fr} (ha:At n f a):∀ {rs:List ResultVar} {vs:List Value},Res P f w rs vs→(rs.mapM (resOne a.tmps)).run P w=.ok vs w := by
  intro rs vs h
  induction h with
  | nil=>rfl
  | @tmp t rs vs h ih =>
    have h1:(resOne a.tmps (.tmp t)).run P w=.ok (f t) w := by simp [resOne,ha.get]
    rw [List.mapM_cons,Sem.run_bind,h1]
    simp only [Result.andThen_ok,Sem.run_bind,ih,Sem.run_pure]
  | @cell x t ad v rs vs h1 h2 h ih =>
    have h3:(resOne a.tmps (.cell x t)).run P w=.ok v w := by simp [resOne,ha.get,h1,asAddr,h2]
    rw [List.mapM_cons,Sem.run_bind,h3]
    simp only [Result.andThen_ok,Sem.run_bind,ih,Sem.run_pure]
theorem qr_res {fn:Func} {R:Ending→World→Prop} {rs:List ResultVar} (hres:fn.results=⟨rs⟩) (h:∀ w,St w0 S w→∃ vs,Res P f w rs vs∧R (.returned (rets vs)) w):Qr (bodyPost P fn R) n f w0 S := fun a w ha hs=>by
  obtain ⟨vs,h1,h2⟩ := h w hs
  have h3 := run_res (P:=P) ha h1
  refine bodyPost_ret (v:=rets vs) ?_ ha.defers h2
  have e:(Array.mapM (resOne a.tmps) rs.toArray).run P w=.ok vs.toArray w := by
    rw [List.mapM_toArray]
    simp [h3]
  have e2:results fn a.tmps=(do
    let vs ← Array.mapM (resOne a.tmps) rs.toArray
    pure (if h:vs.size=1 then vs[0] else .tuple vs)) := by
    unfold results
    rw [hres]
    rfl
  rw [e2,Sem.run_bind,e]
  simp only [Result.andThen_ok,Sem.run_pure]
  cases vs with
  | nil=>rfl
  | cons v r =>
    cases r with
    | nil=>rfl
    | cons u r=>rfl
theorem res_tmp {w:World} {f:Fr} {t:Nat} {v:Value} {rs:List ResultVar} {vs:List Value} (e:f t=v) (h:Res P f w rs vs):Res P f w (.tmp t :: rs) (v :: vs) := e ▸ .tmp h
theorem St.pick {w:World} {ts:List Nat} {cs:List Ck} (h:St w0 S w) (hb:Bor S ts cs) (hn:ts.Nodup):St w0 (stl cs) w := by
  refine ⟨h.ok,h.below,fun i c e=>?_,fun i c e k hk=>?_,fun i j c d hne hi hj k hk=>?_⟩
  · obtain ⟨t,_,h2,_⟩ := bor_get hb i c e
    exact h.holds t c h2
  · obtain ⟨t,_,h2,h3⟩ := bor_get hb i c e
    exact h.own t c h2 k hk
  · obtain ⟨t,h1,h2,_⟩ := bor_get hb i c hi
    obtain ⟨u,h3,h4,_⟩ := bor_get hb j d hj
    refine h.apart t u c d (fun e=>hne ?_) h2 h4 k hk
    subst e
    exact (List.getElem?_inj (List.getElem?_eq_some_iff.1 h1).1 hn).1 (h1.trans h3.symm)
theorem hl_of {sub old vs:List Value} {off:Nat} (h:Sub4 sub off old) (e:vs.length=old.length):off+vs.length≤sub.length := by rw [e]; exact h.len
def Ck.rs (g:Nat) (cs:List Value):Ck where
  key := [g]
  holds := fun w=>g<w.heap.size∧Rd w (some ⟨g,0,none⟩) cs
  stable := fun w w' h hk=>by
    have hg := hk g (by simp)
    refine ⟨?_,fun j u hj=>?_⟩
    · have h1 := h.1
      exact ((Array.getElem?_eq_some_iff (xs:=w'.heap) (i:=g) (b:=w.heap[g])).1 (hg.trans (Array.getElem?_eq_getElem h1))).1
    · obtain ⟨ad,e,hc⟩ := h.2 j u hj
      refine ⟨ad,e,?_⟩
      rw [cell_same (w:=w) (w' := w') (by
        have := Option.some.inj e
        subst this
        rw [add_block]
        exact hg)]
      exact hc
  bound := fun w h k hk=>by
    have hk:k=g := by simpa using hk
    subst hk
    exact h.1
theorem Ck.rs_key {g:Nat} {cs:List Value} {off:Nat}:∀ ad,some (⟨g,off,none⟩:Addr)=some ad→ad.block ∈ (Ck.rs g cs).key := fun ad e=>by
  obtain rfl := Option.some.inj e
  simp [Ck.rs]
theorem St.rs {w:World} (h:St w0 S w) (hk:S k=some (Ck.rs g cs)):Rd w (some ⟨g,0,none⟩) cs := (h.holds k _ hk).2
theorem ls_freezers {lo:List Oper} (k:Nat) (hS:S k=some (Ck.rs g cs)) (h:∀ b',w0.le b'→(∀ q,w0.fz q→q<w0.w.heap.size∧¬ w0.ks q)→Ro b' (some ⟨g,0,none⟩) cs→Ls P Q n ops lo f b' (sput S k none)):Ls P Q n ops lo f w0 S := fun a w ha hs=>by
  obtain ⟨b',h1,h2,h3,h4⟩ := hs.freeze hS
  exact h b' h1 hs.ok (hs.fz_ro (k:=k) h1 h2 h3 (hs.rs hS) Ck.rs_key) a w ha h4
theorem ls_conv (k:Nat) (hg:o.guard=none) (hd:o.dst=some d) (hn:Nat.blt d n=true) {x:Operand} {l:List Int} (ho:o.op=.convert t t x) (hx:ev f x=.slice (some ⟨g,0,none⟩) l.length l.length) (ht:P.underlying t=some (.slice e)) (he:P.underlying e=some (.int .u8)) (hS:S k=some (Ck.sl (Ec.int e .u8) (some ⟨g,0,none⟩) l.length l))
    (h:Ls P Q n ops rest (upd f d (.slice (some ⟨g,0,none⟩) l.length l.length)) w0 (sput S k (some (Ck.rs g (em (Ec.int e .u8) l))))):Ls P Q n ops (o :: rest) f w0 S :=
  ls_op hg fun a w ha hs=>op_wp ha (by
    obtain ⟨hlen,hrow⟩ := hs.holds k _ hS
    rcases hrow with ⟨hv,_⟩ | ⟨g',cap,cur,hv,hb,hob,hc1,hc2,hc3,hc4⟩
    · injection hv with hv; cases hv
    injection hv with hv1 hv2 hv3
    injection hv1 with hv1
    injection hv1 with hv1
    subst hv1
    have hsh:w.shape? g=some (e,cur.size) := by simp [World.shape?,hob]; rfl
    have hlt:g<w.heap.size := (Array.getElem?_eq_some_iff.1 hob).1
    have hrun:(convert t t (.slice (some ⟨g,0,none⟩) l.length l.length)).run P w=.ok (.slice (some ⟨g,0,none⟩) l.length l.length) (w.freeze ⟨g,cur.size,none⟩ 1) := by
      simp [convert,run_underlying ht,run_underlying he,markStringish,hsh]
    have hother:∀ j,j≠g→(w.freeze ⟨g,cur.size,none⟩ 1).heap[j]?=w.heap[j]? := fun j hj=>by
      unfold World.freeze
      rw [if_neg (by decide)]
      simp [Array.getElem?_modify,Ne.symm hj]
    have hsize:(w.freeze ⟨g,cur.size,none⟩ 1).heap.size=w.heap.size := by
      unfold World.freeze
      rw [if_neg (by decide)]
      simp
    have hnew:∃ fr,(w.freeze ⟨g,cur.size,none⟩ 1).heap[g]?=some (.cells cur e fr) := by
      unfold World.freeze
      rw [if_neg (by decide)]
      simp [Array.getElem?_modify,hob]
      rfl
    obtain ⟨fr,hnew⟩ := hnew
    unfold execOp
    rw [ho]
    simp only [hx]
    rw [lift_v hrun]
    show wpList P ops Q rest (a.put o.dst _) _
    rw [hd]
    refine h _ _ (ha.put hn _) (hs.set (c' := Ck.rs g (em (Ec.int e .u8) l)) hS rfl rfl rfl (by rw [hsize]; exact Nat.le_refl _) (fun j hj hne=>hother j (fun e1=>hne (by simp [Ck.sl,Ck.row,Value.ownBlock,e1]))) ⟨by rw [hsize]; exact hlt,fun j u hj=>⟨_,rfl,?_⟩⟩ (fun j hj=>.inl (by simpa [Ck.sl,Ck.row,Value.ownBlock,Ck.rs] using hj)))
    rw [addo,Nat.zero_add]
    have hjl := (List.getElem?_eq_some_iff.1 hj).1
    rw [← hc4,List.getElem?_take] at hj
    split at hj
    · simp only [World.cell?,hnew]
      simpa using hj
    · cases hj)
theorem ls_bytes (k:Nat) (hg:o.guard=none) (hd:o.dst=some d) (hn:Nat.blt d n=true) {x:Operand} {s:ByteArray} (ho:o.op=.convert t ty x) (hx:ev f x=.string s) {u:TypeDesc} (ht:P.underlying t=some u) (hty:P.underlying ty=some (.slice e)) (he:P.underlying e=some (.int .u8))
    (h:∀ g c,(bl s).length≤c→Ls P Q n ops rest (upd f d (.slice (some ⟨g,0,none⟩) (bl s).length c)) w0 (sput S k (some (Ck.rs g (em (Ec.int e .u8) (bl s)))))):Ls P Q n ops (o :: rest) f w0 S :=
  ls_op hg fun a w ha hs=>op_wp ha (by
    have hrun := Lib.run_convert_string_bytes (P:=P) w t ty e s ht hty he
    have hcap:(bl s).length≤grownCap w s.size 0 e := by
      rw [bl_length]
      exact grownCap_ge w s.size 0 e
    unfold execOp
    rw [ho]
    simp only [hx]
    rw [lift_v hrun]
    show wpList P ops Q rest (a.put o.dst _) _
    rw [hd,← bl_length s]
    refine h _ _ (by rw [bl_length] at hcap ⊢; exact hcap) _ _ (ha.put hn _) (hs.new (w' := Lib.bytesWorld w e s) (c:=Ck.rs w.heap.size (em (Ec.int e .u8) (bl s))) ⟨by unfold Lib.bytesWorld World.freeze; rw [if_neg (by decide)]; rfl,by unfold Lib.bytesWorld World.freeze; rw [if_neg (by decide)]; rfl,by unfold Lib.bytesWorld World.freeze; rw [if_neg (by decide)]; rfl,by rw [Lib.bytesWorld_size]; omega,fun j hj=>Lib.bytesWorld_at_old w e s j hj⟩ k ⟨by rw [Lib.bytesWorld_size]; omega,fun j u hj=>⟨_,rfl,?_⟩⟩ (fun j hj=>Nat.le_of_eq (show j=w.heap.size by simpa [Ck.rs] using hj).symm))
    rw [em_int] at hj
    have hjl := (List.getElem?_eq_some_iff.1 hj).1
    rw [en_length,bl_length] at hjl
    rw [addo,Nat.zero_add,Lib.bytesWorld_cell w e s j hjl]
    rw [en_get (Value.int .u8) (bl s) 0 (by rw [bl_length]; exact hjl)] at hj
    rw [← hj]
    have hj2:j<s.data.toList.length := hjl
    have e1:(bl s).getD j 0=((s.data.toList.getD j 0).toNat:Int) := by
      simp only [bl,List.getD_eq_getElem?_getD,List.getElem?_map,List.getElem?_eq_getElem hj2,Option.map_some,Option.getD_some]
    rw [e1])
end
theorem run_part1 {P:Program} {w:World} {e:TypeId} {de:TypeDesc} (he:P.underlying e=some de) (hd:aggD de=false) {cs:Array Value} {i:Nat} {v:Value} (h:cs[i]?=some v):(part e cs i).run P w=.ok v w := by
  cases de <;> first | (cases hd; done) | simp [part,isAgg,run_underlying he,h]
theorem eq_arr_aux {P:Program} {w:World} {e:TypeId} {u v:Array Value} (bs:Nat→Bool) (d:Nat):∀ (n s:Nat),(∀ i,s≤i→i<s+n→∃ a b,(part e u i).run P w=.ok a w∧(part e v i).run P w=.ok b w∧(Op.equalIn d e a b).run P w=.ok (bs i) w) →
    (forIn (List.range' s n) ((none,()):Option Bool × Unit) (fun i _=>do
      let a ← part e u i
      let b ← part e v i
      let c ← Op.equalIn d e a b
      if c=false then pure (ForInStep.done (some false,())) else pure (ForInStep.yield (none,()))):Sem (Option Bool × Unit)).run P w=.ok (if (List.range' s n).all bs then none else some false,()) w := by
  intro n
  induction n with
  | zero=>intro s _; simp
  | succ n ih =>
    intro s h
    obtain ⟨a,b,h1,h2,h3⟩ := h s (Nat.le_refl _) (by omega)
    have h4 := ih (s+1) (fun i hi hl=>h i (by omega) (by omega))
    rw [List.range'_succ,List.forIn_cons]
    simp only [Sem.run_bind,h1,h2,h3,Result.andThen_ok]
    cases hb:bs s with
    | true=>simp only [Bool.true_eq_false,if_false,Sem.run_pure,Result.andThen_ok,List.all_cons,hb,Bool.true_and]; exact h4
    | false=>simp [hb]
theorem eq_ints {P:Program} {t e:TypeId} {ln:Nat} {k:IntKind} (ht:P.underlying t=some (.array ln e)) (he:P.underlying e=some (.int k)) (hz:(P.info? e).map (·.size)=some 1) {u v:List Int} (hu:u.length=ln) (hv:v.length=ln) (d:Nat) (w:World):(Op.equalIn (d+2) t (.agg ⟨en (Value.int k) u⟩) (.agg ⟨en (Value.int k) v⟩)).run P w=.ok (u==v) w := by
  obtain ⟨q,hq,hq1⟩ := Option.map_eq_some_iff.1 hz
  have h0:∀ a b,(Op.equalIn (d+1) e (.int k a) (.int k b)).run P w=.ok (a==b) w := fun a b=>run_equalIn_int w d e k k a b he
  rw [show d+2=(d+1)+1 from rfl]
  generalize d+1=D at h0 ⊢
  have h1 := eq_arr_aux (P:=P) (w:=w) (e:=e) (u:=⟨en (Value.int k) u⟩) (v:=⟨en (Value.int k) v⟩) (fun i=>u.getD i 0==v.getD i 0) D ln 0 (fun i _ hi=>by
    refine ⟨.int k (u.getD i 0),.int k (v.getD i 0),run_part1 he rfl ?_,run_part1 he rfl ?_,h0 _ _⟩
    · simpa using en_get (Value.int k) u 0 (show i<u.length by omega)
    · simpa using en_get (Value.int k) v 0 (show i<v.length by omega))
  have h2:(List.range' 0 ln).all (fun i=>u.getD i 0==v.getD i 0)=(u==v) := by
    rw [Bool.eq_iff_iff,List.all_eq_true,beq_iff_eq]
    constructor
    · intro h
      apply List.ext_getElem (by omega)
      intro i h3 h4
      have := h i (List.mem_range'.2 ⟨i,by omega,by omega⟩)
      simpa [List.getD_eq_getElem?_getD,h3,h4] using this
    · rintro rfl i _
      simp
  simp [Op.equalIn,run_underlying ht,sizeOf,typeInfo,hq,hq1,Std.Legacy.Range.forIn_eq_forIn_range']
  rw [h1,h2]
  cases u==v <;> simp
theorem eq_int {P:Program} {t:TypeId} {k:IntKind} (h:P.underlying t=some (.int k)) (d:Nat) (a b:Int) (w:World):(Op.equalIn (d+1) t (.int k a) (.int k b)).run P w=.ok (a==b) w := run_equalIn_int w d t k k a b h
def EqFi (P:Program) (d:Nat) (t:TypeId) (xs ys:List Value) (i:Nat) (b:Bool):Prop := ∀ w,(Op.eqFields d ⟨xs⟩ ⟨ys⟩ ((P.fieldsOf t).toList.drop i)).run P w=.ok b w
theorem part_one {P:Program} {t:TypeId} {cs:List Value} {off:Nat} {v:Value} (hu:(P.underlying t).map aggD=some false) (hs:Sub4 cs off [v]) (w:World):(part t ⟨cs⟩ off).run P w=.ok v w := by
  obtain ⟨de,hu,hd⟩ := Option.map_eq_some_iff.1 hu
  exact run_part1 hu hd (by simpa using hs.first)
theorem part_agg {P:Program} {t:TypeId} {cs sub:List Value} {off z:Nat} (hu:(P.underlying t).map aggD=some true) (hz:(P.info? t).map (·.size)=some z) (hl:sub.length=z) (hs:Sub4 cs off sub) (w:World):(part t ⟨cs⟩ off).run P w=.ok (.agg ⟨sub⟩) w := by
  obtain ⟨q,hq,hq1⟩ := Option.map_eq_some_iff.1 hz
  have he:List.take sub.length (List.drop off cs)=sub := by
    apply List.ext_getElem?
    intro j
    rw [List.getElem?_take]
    by_cases hj:j<sub.length
    · rw [if_pos hj,List.getElem?_drop,hs.get j hj]
    · rw [if_neg (by omega),List.getElem?_eq_none (by omega)]
  obtain ⟨de,hu,hde⟩ := Option.map_eq_some_iff.1 hu
  cases de <;> first | (cases hde; done) | simp [part,isAgg,run_underlying hu,sizeOf,typeInfo,hq,hq1,← hl,he]
theorem eqf_cons {P:Program} {d:Nat} {t:TypeId} {xs ys:List Value} {i:Nat} {ft:TypeId} {fo:Nat} {a b:Value} {r r2:Bool} (h:((P.fieldsOf t)[i]?).map (fun f=>(decide (f.name≠ "_"),f.type,f.offset))=some (true,ft,fo)) (ha:∀ w,(part ft ⟨xs⟩ fo).run P w=.ok a w) (hb:∀ w,(part ft ⟨ys⟩ fo).run P w=.ok b w)
    (he:∀ w,(Op.equalIn d ft a b).run P w=.ok r w) (h2:EqFi P d t xs ys (i+1) r2):EqFi P d t xs ys i (r&&r2) := fun w=>by
  obtain ⟨f,hf,hff⟩ := Option.map_eq_some_iff.1 h
  simp only [Prod.mk.injEq,decide_eq_true_eq] at hff
  obtain ⟨h3,rfl,rfl⟩ := hff
  have hf':(P.fieldsOf t).toList[i]?=some f := by simpa using hf
  obtain ⟨hi,hfi⟩ := List.getElem?_eq_some_iff.1 hf'
  rw [List.drop_eq_getElem_cons hi,hfi]
  simp only [Op.eqFields]
  rw [if_pos h3]
  simp only [Sem.run_bind,ha,hb,he,Result.andThen_ok]
  cases r with
  | true=>simpa using h2 w
  | false=>simp
theorem eqf_nil {P:Program} {d:Nat} {t:TypeId} {xs ys:List Value} {i:Nat} (h:Nat.beq (P.fieldsOf t).size i=true):EqFi P d t xs ys i true := fun w=>by
  have := Nat.eq_of_beq_eq_true h
  rw [List.drop_of_length_le (by simp; omega)]
  simp [Op.eqFields]
theorem eqf_last {P:Program} {d:Nat} {t:TypeId} {xs ys:List Value} {i:Nat} {ft:TypeId} {fo:Nat} {a b:Value} {r:Bool} (h:((P.fieldsOf t)[i]?).map (fun f=>(decide (f.name≠ "_"),f.type,f.offset))=some (true,ft,fo)) (ha:∀ w,(part ft ⟨xs⟩ fo).run P w=.ok a w) (hb:∀ w,(part ft ⟨ys⟩ fo).run P w=.ok b w)
    (he:∀ w,(Op.equalIn d ft a b).run P w=.ok r w) (hn:Nat.beq (P.fieldsOf t).size (i+1)=true):EqFi P d t xs ys i r := by
  have := eqf_cons h ha hb he (eqf_nil (d:=d) (xs:=xs) (ys:=ys) hn)
  rwa [Bool.and_true] at this
theorem eq_st {P:Program} {d:Nat} {t:TypeId} {xs ys:List Value} {r:Bool} (ht:P.underlying t=some (.struct (P.fieldsOf t))) (hp:P.stoodInHeld t=false) (h:EqFi P d t xs ys 0 r) (w:World):(Op.equalIn (d+1) t (.agg ⟨xs⟩) (.agg ⟨ys⟩)).run P w=.ok r w := by
  rw [run_equalIn_struct w d t ⟨xs⟩ ⟨ys⟩ ht hp]
  simpa using h w
section
variable {P:Program} {Q:Exit→Act→World→Prop} {n:Nat} {ops:Array Oper} {rest:List Oper} {o:Oper} {f:Fr} {w0:Bs} {S:Sto} {d:Nat} {t ty:TypeId} {xs ys:List Value} {r:Bool}
theorem ls_eql (hg:o.guard=none) (hd:o.dst=some d) (hn:Nat.blt d n=true) {x y:Operand} (ho:o.op=.binOp .eql t x y ty) (hx:ev f x=.agg ⟨xs⟩) (hy:ev f y=.agg ⟨ys⟩) (hm:P.eqGuardType P.depth t=false) (he:∀ w,(Op.equalIn 10000 t (.agg ⟨xs⟩) (.agg ⟨ys⟩)).run P w=.ok r w) (h:Ls P Q n ops rest (upd f d (.bool r)) w0 S):Ls P Q n ops (o :: rest) f w0 S :=
  ls_val hg hd hn (fun w=>by
    unfold execOp
    simp only [ho,hx,hy,Sem.run_bind,run_eqGuard_agg w _ t x y _ _ hm,Result.andThen_ok,run_eql_struct,he]
    rfl) h
theorem ls_neq (hg:o.guard=none) (hd:o.dst=some d) (hn:Nat.blt d n=true) {x y:Operand} (ho:o.op=.binOp .neq t x y ty) (hx:ev f x=.agg ⟨xs⟩) (hy:ev f y=.agg ⟨ys⟩) (hm:P.eqGuardType P.depth t=false) (he:∀ w,(Op.equalIn 10000 t (.agg ⟨xs⟩) (.agg ⟨ys⟩)).run P w=.ok r w) (h:Ls P Q n ops rest (upd f d (.bool (!r))) w0 S):Ls P Q n ops (o :: rest) f w0 S :=
  ls_val hg hd hn (fun w=>by
    unfold execOp
    simp only [ho,hx,hy,Sem.run_bind,run_eqGuard_agg w _ t x y _ _ hm,Result.andThen_ok,run_neq_struct,he]
    rfl) h
theorem foldl_fill (off:Nat):∀ (vs:List Value) (s:Nat) (cs:List Value),off+s+vs.length≤cs.length→(vs.zipIdx s).foldl (fun (cs:Array Value) (x:Value × Nat)=>cs.setIfInBounds (off+x.2) x.1) ⟨cs⟩=⟨splc cs (off+s) vs⟩
  | [],s,cs,h=>by simp [splc]
  | v :: vs,s,cs,h=>by
    have hl:off+s+(vs.length+1)≤cs.length := h
    rw [List.zipIdx_cons,List.foldl_cons]
    have e:(⟨cs⟩:Array Value).setIfInBounds (off+s) v=⟨cs.set (off+s) v⟩ := by
      apply Array.ext'
      simp
    rw [e,foldl_fill off vs (s+1) (cs.set (off+s) v) (by simp; omega)]
    congr 1
    apply List.ext_getElem?
    intro j
    rw [splc_get (by simp; omega),splc_get (by simp; omega)]
    simp only [List.length_cons]
    by_cases h1:j<off+s
    · rw [if_pos (by omega),if_pos h1,List.getElem?_set_ne (by omega)]
    · rw [if_neg h1]
      by_cases h2:j=off+s
      · subst h2
        rw [if_pos (by omega),if_pos (by omega),List.getElem?_set_self (by omega)]
        simp
      · rw [if_neg (by omega)]
        by_cases h3:j<off+(s+1)+vs.length
        · rw [if_pos h3,if_pos (by omega),show j - (off+s)=(j - (off+(s+1)))+1 from by omega]
          simp
        · rw [if_neg h3,if_neg (by omega),List.getElem?_set_ne (by omega)]
theorem fill_nil {place:Nat→Option (Nat × Nat)} {cs:List Value}:Instr.fill place ⟨cs⟩ []=some ⟨cs⟩ := rfl
theorem fill_cons {place:Nat→Option (Nat × Nat)} {cs cs' vs:List Value} {i off size:Nat} {v:Value} {ps:List (Nat × Value)} {r:Array Value} (hp:place i=some (off,size)) (hv:v.cells=⟨vs⟩) (hl:vs.length=size) (hle:off+size≤cs.length) (hc:splc cs off vs=cs') (h:Instr.fill place ⟨cs'⟩ ps=some r):Instr.fill place ⟨cs⟩ ((i,v) :: ps)=some r := by
  have e := foldl_fill off vs 0 cs (by omega)
  rw [Nat.add_zero,hc] at e
  unfold Instr.fill
  rw [hp]
  simp only [hv,List.size_toArray,hl]
  rw [if_neg (by simp; omega)]
  have e2:(Array.zipIdx ⟨vs⟩:Array (Value × Nat))=⟨vs.zipIdx⟩ := by
    apply Array.ext'
    simp
  rw [e2,← h,← e,List.foldl_toArray]
theorem ls_build (hg:o.guard=none) (hd:o.dst=some d) (hn:Nat.blt d n=true) {parts:Array (Nat × Operand)} {ps:List (Nat × Value)} {pl:Array (Nat × Nat)} {zv:Value} {zc r:List Value} (ho:o.op=.build t parts) (hps:parts.map (fun (i,x)=>(i,ev f x))=⟨ps⟩) (ht:P.underlying t=some (.struct (P.fieldsOf t)))
    (hpl:∀ w,((P.fieldsOf t).mapM (fun f=>do pure (f.offset,← sizeOf f.type)):Sem (Array (Nat × Nat))).run P w=.ok pl w) (hz:∀ w,(zeroValue t).run P w=.ok zv w) (hzc:zv.cells=⟨zc⟩) (hf:Instr.fill (fun i=>pl[i]?) ⟨zc⟩ ps=some ⟨r⟩) (h:Ls P Q n ops rest (upd f d (.agg ⟨r⟩)) w0 S):Ls P Q n ops (o :: rest) f w0 S :=
  ls_val hg hd hn (fun w=>by
    unfold execOp
    rw [ho]
    refine lift_v ?_
    rw [hps]
    simp only [Instr.build,Sem.run_bind,hz,Result.andThen_ok,run_underlying ht,hpl,hzc,hf,Sem.run_pure]) h
end
theorem le_of_len {cs:List Value} {m n:Nat} (h:cs.length=n) (h2:m≤n):m≤cs.length := by rw [h]; exact h2
theorem Rd.ofen {w:World} {A:Option Addr} {t:TypeId} {k:IntKind} {l:List Int} (h:Rd w A (en (Value.int k) l)):Rd w A (em (Ec.int t k) l) := by rw [em_int]; exact h
theorem Rd.toen {w:World} {A:Option Addr} {t:TypeId} {k:IntKind} {l:List Int} (h:Rd w A (em (Ec.int t k) l)):Rd w A (en (Value.int k) l) := by rw [← em_int t]; exact h
theorem Rd.vpad {w:World} {A:Option Addr} {t:TypeId} {k:IntKind} {l:List Int} (h:Rd w A (em (Ec.int t k) l)) {n:Nat} (hn:n≤l.length) (d:Int):Rd w A (en (Value.int k) (Sx.vpad n d l).1) := by
  rw [vpad_val hn,show en (Value.int k) (l.take n)=(en (Value.int k) l).take n by simp [en]]
  exact h.toen.take n
section
variable {P:Program} {Q:Exit→Act→World→Prop} {n:Nat} {ops:Array Oper} {rest:List Oper} {o:Oper} {f:Fr} {w0:Bs} {S:Sto} {d:Nat} {t e:TypeId}
theorem ls_toarr {A:Option Addr} {m c N:Nat} {ad:Addr} (hg:o.guard=none) (hd:o.dst=some d) (hn:Nat.blt d n=true) {x:Operand} (ho:o.op=.sliceToArrayPointer t x) (hx:ev f x=.slice A m c) (ht:P.underlying t=some (.array N e)) (hl:N≤m) (hA:A=some ad) (h:Ls P Q n ops rest (upd f d (.pointer (some ad))) w0 S):Ls P Q n ops (o :: rest) f w0 S :=
  ls_val hg hd hn (v:=.pointer (some ad)) (fun w=>by
    unfold execOp
    rw [ho]
    refine lift_v ?_
    rw [hx,hA]
    simp [Instr.arrayAt,run_underlying ht]
    omega) h
theorem ls_scut {s:ByteArray} {lo hi:Option Operand} {a b:Nat} (hg:o.guard=none) (hd:o.dst=some d) (hn:Nat.blt d n=true) {x:Operand} (ho:o.op=.slice t x lo hi none) (hx:ev f x=.string s) (ht:P.underlying t=some .string)
    (hlo:(lo.map (ev f)=none∧a=0) ∨ ∃ k,lo.map (ev f)=some (.int k (a:Int))) (hhi:(hi.map (ev f)=none∧b=s.size) ∨ ∃ k,hi.map (ev f)=some (.int k (b:Int))) (h1:a≤b) (h2:b≤s.size)
    (h:Ls P Q n ops rest (upd f d (.string (s.extract a b))) w0 S):Ls P Q n ops (o :: rest) f w0 S :=
  ls_val hg hd hn (v:=.string (s.extract a b)) (fun w=>by
    unfold execOp
    rw [ho]
    refine lift_v ?_
    rw [hx]
    have hb:(Instr.sliceBounds false s.size s.size (lo.map (ev f)) (hi.map (ev f)) none).run P w=.ok (a,b,s.size) w := by
      rcases hlo with ⟨h3,rfl⟩ | ⟨kl,h3⟩ <;> rcases hhi with ⟨h4,rfl⟩ | ⟨kh,h4⟩ <;> rw [h3,h4]
      · simp [Instr.sliceBounds]
      · simp [Instr.sliceBounds,run_bound h2]
      · simp [Instr.sliceBounds,run_bound h1]
      · simp [Instr.sliceBounds,run_bound h1,run_bound h2]
    simp [Instr.sliceAt,run_underlying ht,Instr.slice,hb]) h
theorem ls_sadd {x y:ByteArray} (hg:o.guard=none) (hd:o.dst=some d) (hn:Nat.blt d n=true) (hr:∀ w,(execOp (ev f) o).run P w=(Op.stringOp .add x y >>= fun r=>pure (Next.value r)).run P w) (hl:x.size+y.size≤9223372036854775807) (h:Ls P Q n ops rest (upd f d (.string (x++y))) w0 S):Ls P Q n ops (o :: rest) f w0 S :=
  ls_val hg hd hn (fun w=>by
    rw [hr w]
    refine lift_v ?_
    have e:¬ ((x.size+y.size:Nat):Int) > IntKind.i64.max := by
      have:IntKind.i64.max=9223372036854775807 := rfl
      omega
    simp only [Op.stringOp]
    rw [if_neg e]
    rfl) h
end
theorem Ro.back {w:World} {w0:Bs} {S:Sto} {A:Option Addr} {cs:List Value} {cl:List Ck} (h:St w0 S w) (hr:Ro (lent w0 w cl []) A cs):Ro w0 A cs := fun j u hj =>
  let ⟨ad,ee,hc,hf⟩ := hr j u hj
  have hf':w0.fz ad.block := hf.elim (fun h=>h) (fun h=>by cases h)
  ⟨ad,ee,(cell_same (w:=w0.w) (w' := w) (h.below.block _ (by rw [add_block]; exact (h.ok _ hf').1) (by rw [add_block]; exact (h.ok _ hf').2))).symm.trans hc,hf'⟩
section
variable {P:Program} {Q:Exit→Act→World→Prop} {n:Nat} {ops:Array Oper} {rest:List Oper} {o:Oper} {f:Fr} {w0:Bs} {S:Sto} {d:Nat} {fid:FuncId} {vals:Array Value}
theorem ls_callg {X:Type} (val:X→Value) (R:X→Sto) (F:X→Bs→Prop) (ts:List Nat) (cs:List Ck) (off:Nat) (hg:o.guard=none) (hd:o.dst=some d) (hn:Nat.blt d n=true) (hr:∀ w,(execOp (ev f) o).run P w=.ok (.enter fid vals) w) (hB:Bor S ts cs) (hnd:(ts++[]).Nodup)
    (hF:∀ x b b',(∀ A c,Ro b A c→Ro b' A c)→F x b→F x b')
    (hc:∀ w,St w0 S w→St (lent w0 w cs []) (stl cs) w→Calls P fid vals w fun e w'=>∃ x,e=.returned (val x)∧F x (lent w0 w cs [])∧St (lent w0 w cs []) (R x) w')
    (h:∀ x,F x w0→Ls P Q n ops rest (upd f d (val x)) w0 (sjoinb S ts off (R x))):Ls P Q n ops (o :: rest) f w0 S :=
  ls_op hg fun a w ha hs=>op_wp ha (by
    rw [hr w]
    show Calls P fid vals w _
    refine (hc w hs (hs.lend (rs:=[]) (ro:=[]) hB trivial hnd)).mono ?_
    rintro e w' ⟨x,rfl,hf,hx⟩
    show wpList P ops Q rest (a.put o.dst (val x)) w'
    rw [hd]
    exact h x (hF x _ _ (fun A c hr=>Ro.back hs hr) hf) _ _ (ha.put hn _) (hs.joinb hB hx off))
end
section
variable {Q:Exit→Act→World→Prop} {n:Nat} {f:Fr} {w0:Bs} {S:Sto} {α:Type} {T:Ec α} {A:Option Addr} {c g:Nat} {l:List α} {cs:List Value} {ty:TypeId}
theorem qr_freeze (k:Nat) (hS:S k=some (Ck.sl T A c l)) (h:∀ b',w0.le b'→(∀ q,w0.fz q→q<w0.w.heap.size∧¬ w0.ks q)→Ro b' A (em T l)→l.length≤c→Qr Q n f b' (sput S k none)):Qr Q n f w0 S := fun a w ha hs=>by
  obtain ⟨b',h1,h2,h3,h4⟩ := hs.freeze hS
  exact h b' h1 hs.ok (hs.fz_ro (k:=k) h1 h2 h3 (hs.rd hS) Ck.sl_key) (hs.cap hS) a w ha h4
end
theorem Ro.part {b:Bs} {g:Nat} {cs sub:List Value} {off:Nat} (h:Ro b (some ⟨g,0,none⟩) cs) (hs:Sub4 cs off sub):Ro b (some ⟨g,off,none⟩) sub := fun j u hj=>by
  have hlt := (List.getElem?_eq_some_iff.1 hj).1
  obtain ⟨ad,e,hc,hf⟩ := h (off+j) u (by rw [hs.get j hlt]; exact hj)
  obtain rfl := Option.some.inj e
  exact ⟨_,rfl,by rw [addo]; rw [add0] at hc; exact hc,hf⟩
theorem Ro.ofen {b:Bs} {A:Option Addr} {t:TypeId} {k:IntKind} {l:List Int} (h:Ro b A (en (Value.int k) l)):Ro b A (em (Ec.int t k) l) := by rw [em_int]; exact h
section
variable {P:Program} {Q:Exit→Act→World→Prop} {n:Nat} {ops:Array Oper} {rest:List Oper} {o:Oper} {f:Fr} {w0:Bs} {S:Sto} {d:Nat} {α:Type} {T:Ec α} {A:Option Addr} {c:Nat} {l:List α} {t u e:TypeId} {bytes:Nat}
end
section
variable {P:Program} {Q:Exit→Act→World→Prop} {n:Nat} {ops:Array Oper} {rest:List Oper} {o:Oper} {f:Fr} {w0:Bs} {S:Sto} {d:Nat} {α:Type} {t:TypeId}
end
inductive Pv where
  | val (v:Value)
  | eff (e:Nat)
def Pv.ok (es:Nat→Value):Pv→Value→Prop
  | .val v,x=>x=v
  | .eff e,x=>x=es e
def upv (vs:Nat→Value) (i:Nat) (v:Value):Nat→Value := fun j=>cond (Nat.beq j i) v (vs j)
theorem upv_self (vs:Nat→Value) (i:Nat) (v:Value):upv vs i v i=v := by simp [upv]
theorem upv_ne (vs:Nat→Value) {i j:Nat} (v:Value) (h:j≠i):upv vs i v j=vs j := by simp [upv,beq_false h]
def QPv (p:Pv) (es:Nat→Value) (n:Nat) (f:Fr) (d:Option Nat) (w0:Bs) (S:Sto):Exit→Act→World→Prop := fun e a' w'=>e=.normal∧∃ v,p.ok es v∧At n (updo f d v) a'∧St w0 S w'
def QEf (p:Pv) (E:(Nat→Value)→Sto→Prop) (es:Nat→Value) (i:Nat) (keep:Nat→Bool) (S0:Sto) (n:Nat) (f:Fr) (d:Option Nat) (w0:Bs):Exit→Act→World→Prop := fun e a' w'=>e=.normal∧∃ v S',E (upv es i v) S'∧p.ok (upv es i v) v∧(∀ u,keep u=true→S' u=S0 u)∧At n (updo f d v) a'∧St w0 S' w'
structure ChOk (P:Program) (n:Nat) (ops:Array Oper) (tab:List (List Nat)) (f:Fr) (w0:Bs) (S:Sto) (keep ef:Nat→Bool) (pv:Nat→Pv) (E:Nat→(Nat→Value)→Sto→Prop) (nx:Nat→Nat) (on:Nat→Bool) (i:Nat):Prop where
  ok:∀ o,ops[i]?=some o→∀ (es vs:Nat→Value) (f':Fr) (S':Sto),
    (∀ j,(tab.getD i []).contains j=true→ef j=true→vs j=es j)→(∀ j,(tab.getD i []).contains j=true→(pv j).ok es (vs j)) →
    (∀ j d,(tab.getD i []).contains j=true→dstAt ops j=some d→f' d=vs j)→(∀ t,lateOk ops tab i t=true→f' t=f t)→(∀ u,keep u=true→S' u=S u)→(ef i=true→E i es S') →
    (∀ a,At n f' a→Region.wanted o (yielded ops a.tmps)=on i) ∧
    (ef i=false→on i=true→Ls P (QPv (pv i) es n f' o.dst w0 S') n ops [{ o with guard := none }] f' w0 S')∧(ef i=false→on i=false→(pv i).ok es undef) ∧
    (ef i=true→on i=true→Ls P (QEf (pv i) (E (nx i)) es i keep S n f' o.dst w0) n ops [{ o with guard := none }] f' w0 S')∧(ef i=true→on i=false→E (nx i) (upv es i undef) S'∧(pv i).ok (upv es i undef) undef)
def chainOk (tab:List (List Nat)) (p:Nat) (ef:Nat→Bool) (pv:Nat→Pv) (nx:Nat→Nat) (c0:Nat):Bool :=
  (List.range p).all (fun i=>(List.range p).all fun j=>!(ef i&&ef j&&Nat.blt j i) || (tab.getD i []).contains j) &&
  (List.range p).all (fun i=>match pv i with
    | .eff e=>(ef i&&Nat.beq e i) || (ef e&&(tab.getD i []).contains e)
    | .val _=>true) &&
  (List.range p).all (fun i=>!ef i || (Nat.ble (nx i) p&&(Nat.ble p (nx i) || ef (nx i))&&(List.range p).all fun j=>!ef j || (Nat.blt j (nx i)==Nat.ble j i))) &&
  Nat.ble c0 p&&(Nat.ble p c0 || ef c0)&&(List.range p).all (fun j=>!ef j || Nat.ble c0 j)
section
variable {P:Program} {Q:Exit→Act→World→Prop} {n:Nat} {ops:Array Oper} {tab:List (List Nat)} {f:Fr} {w0:Bs} {S:Sto} {keep ef:Nat→Bool} {pv:Nat→Pv} {E:Nat→(Nat→Value)→Sto→Prop} {nx:Nat→Nat} {on:Nat→Bool} {c0:Nat}
def InvC (ops:Array Oper) (n:Nat) (tab:List (List Nat)) (f:Fr) (w0:Bs) (S:Sto) (keep ef:Nat→Bool) (pv:Nat→Pv) (E:Nat→(Nat→Value)→Sto→Prop) (p:Nat) (b:Nat→Bool) (a:Act) (w:World):Prop :=
  (∀ j,b j=true→j<ops.size∧∀ m,(tab.getD j []).contains m=true→b m=true) ∧
  ∃ (c:Nat) (es vs:Nat→Value) (f':Fr) (S':Sto),(∀ j,j<p→ef j=true→(b j=true ↔ j<c))∧(c≤p∧(c<p→ef c=true))∧(∀ j,b j=true→ef j=true→vs j=es j)∧(∀ j,b j=true→(pv j).ok es (vs j)) ∧
    E c es S'∧(∀ u,keep u=true→S' u=S u)∧(∀ j d,b j=true→dstAt ops j=some d→f' d=vs j)∧(∀ t,(∀ j,b j=true→dstAt ops j≠some t)→f' t=f t)∧At n f' a∧St w0 S' w
theorem chain_any (p:Nat) (ht:tabOk ops tab=true) (hd:dstsOk ops=true) (hdn:∀ j d,dstAt ops j=some d→Nat.blt d n=true) (hch:chainOk tab p ef pv nx c0=true) (h:∀ i,i<p→ChOk P n ops tab f w0 S keep ef pv E nx on i)
    (hp:p≤ops.size) (hfull:∀ i,p≤i→i<ops.size→∀ j,j<i→(tab.getD i []).contains j=true)
    (hend:∀ b a w,(∀ j,b j=true→j<p)→(∀ j,j<p→b j=true)→InvC ops n tab f w0 S keep ef pv E p b a w→wpList P ops Q (ops.toList.drop p) a w) :
    ∀ (m:Nat) (b:Nat→Bool) (a:Act) (w:World),(∀ j,b j=true→j<p)→((List.range p).filter fun j=>!b j).length=m→InvC ops n tab f w0 S keep ef pv E p b a w→wpAny P .any ops Q (m+(ops.size - p)) (lof ops.size b) a w := by
  have mem_ready := @ready_mem ops
  simp only [chainOk,Bool.and_eq_true] at hch
  obtain ⟨⟨⟨⟨⟨hc1,hc2⟩,hc3⟩,_⟩,_⟩,_⟩ := hch
  have hc1:∀ i j,i<p→j<p→ef i=true→ef j=true→j<i→(tab.getD i []).contains j=true := fun i j hi hj he1 he2 hlt=>by
    have h1 := List.all_eq_true.1 (List.all_eq_true.1 hc1 i (List.mem_range.2 hi)) j (List.mem_range.2 hj)
    have h2:Nat.blt j i=true := by simp [Nat.blt]; omega
    rw [he1,he2,h2] at h1
    simpa using h1
  have hc2:∀ i e,i<p→pv i=.eff e→(ef i=true∧e=i) ∨ (ef e=true∧(tab.getD i []).contains e=true) := fun i e hi hpe=>by
    have h1 := List.all_eq_true.1 hc2 i (List.mem_range.2 hi)
    simp only [hpe,Bool.or_eq_true,Bool.and_eq_true] at h1
    rcases h1 with ⟨h1,h2⟩ | h1
    · exact .inl ⟨h1,Nat.eq_of_beq_eq_true h2⟩
    · exact .inr h1
  have hc3:∀ i,i<p→ef i=true→nx i≤p∧(nx i<p→ef (nx i)=true)∧∀ j,j<p→ef j=true→(j<nx i ↔ j≤i) := fun i hi he=>by
    have h1 := List.all_eq_true.1 hc3 i (List.mem_range.2 hi)
    simp only [he,Bool.not_true,Bool.false_or,Bool.and_eq_true] at h1
    obtain ⟨⟨h1,h2⟩,h3⟩ := h1
    refine ⟨Nat.le_of_ble_eq_true h1,fun hlt=>?_,fun j hj hej=>?_⟩
    · rw [Bool.or_eq_true] at h2
      rcases h2 with h2 | h2
      · have := Nat.le_of_ble_eq_true h2; omega
      · exact h2
    · have h4 := List.all_eq_true.1 h3 j (List.mem_range.2 hj)
      rw [hej] at h4
      simp only [Bool.not_true,Bool.false_or,beq_iff_eq] at h4
      constructor
      · intro hlt
        have h5:Nat.blt j (nx i)=true := by simp [Nat.blt]; omega
        rw [h5] at h4
        exact Nat.le_of_ble_eq_true h4.symm
      · intro hle
        have h5:Nat.ble j i=true := Nat.ble_eq_true_of_le hle
        rw [h5] at h4
        simp [Nat.blt] at h4
        omega
  intro m
  induction m with
  | zero =>
    intro b a w hbp hm hI
    have hall:∀ j,j<p→b j=true := fun j hj=>by
      have h1 := List.eq_nil_of_length_eq_zero hm
      cases hb:b j with
      | true=>rfl
      | false =>
        have:j ∈ (List.range p).filter fun j=>!b j := List.mem_filter.2 ⟨List.mem_range.2 hj,by rw [hb]; rfl⟩
        rw [h1] at this
        cases this
    have e:b=fun j=>Nat.blt j p := by
      funext j
      rw [Bool.eq_iff_iff]
      exact ⟨fun h=>by have := hbp j h; simp [Nat.blt]; omega,fun h=>hall j (by simp [Nat.blt] at h; omega)⟩
    have h1 := hend b a w hbp hall hI
    rw [e,Nat.zero_add]
    exact tail_any ht p hfull (ops.size - p) p a w (by omega) (Nat.le_refl _) h1
  | succ m ih =>
    intro b a w hbp hm hI
    rw [show m+1+(ops.size - p)=(m+(ops.size - p))+1 from by omega]
    have hex:∃ i,i ∈ Region.ready .any ops (lof ops.size b) := by
      have hne:∃ i,i<ops.size∧b i=false := by
        rcases hl:(List.range p).filter fun j=>!b j with _ | ⟨x,r⟩
        · rw [hl] at hm; cases hm
        · have hx:x ∈ (List.range p).filter fun j=>!b j := by rw [hl]; simp
          rw [List.mem_filter,List.mem_range] at hx
          exact ⟨x,by omega,by simpa using hx.2⟩
      have key:∀ q i,i≤q→i<ops.size→b i=false→∃ i,i ∈ Region.ready .any ops (lof ops.size b) := by
        intro q
        induction q with
        | zero =>
          intro i hq h1 h2
          have hi0:i=0 := by omega
          subst hi0
          obtain ⟨o,ho⟩:∃ o,ops[0]?=some o := ⟨_,Array.getElem?_eq_getElem h1⟩
          exact ⟨0,mem_ready.2 ⟨h1,h2,o,ho,fun e he=>by have := (tab_row ht ho).1 e he; omega⟩⟩
        | succ q ihq =>
          intro i hq h1 h2
          obtain ⟨o,ho⟩:∃ o,ops[i]?=some o := ⟨_,Array.getElem?_eq_getElem h1⟩
          by_cases hall:∀ e ∈ dirOf o,b e=true
          · exact ⟨i,mem_ready.2 ⟨h1,h2,o,ho,fun e he=>⟨by have := (tab_row ht ho).1 e he; omega,hall e he⟩⟩⟩
          · obtain ⟨e,he⟩:∃ e,e ∈ dirOf o∧b e=false := by
              apply Classical.byContradiction
              intro hno
              exact hall (fun e he=>by
                cases hb:b e with
                | true=>rfl
                | false=>exact (hno ⟨e,he,hb⟩).elim)
            have hlt := (tab_row ht ho).1 e he.1
            exact ihq e (by omega) (by omega) he.2
      obtain ⟨i,h1,h2⟩ := hne
      exact key i i (Nat.le_refl _) h1 h2
    refine ⟨fun he=>(by obtain ⟨i,hi⟩ := hex; rw [he] at hi; cases hi),fun i hi=>?_⟩
    obtain ⟨h1,h2,o,ho,h3⟩ := mem_ready.1 hi
    obtain ⟨hcl,c,es,vs,f',S',hcc,hcp,hve,hvp,hE,hK,hf,hx,ha,hs⟩ := hI
    obtain ⟨r1,r2,r3⟩ := tab_row ht ho
    have hpre:∀ j,(tab.getD i []).contains j=true→b j=true := fun j hj=>by
      rcases r2 j hj with hj | ⟨e,he,hj⟩
      · exact (h3 j hj).2
      · exact (hcl e (h3 e he).2).2 j hj
    have hnot:∀ j,b j=true→(tab.getD j []).contains i=true→False := fun j hj hc=>by
      have := (hcl j hj).2 i hc
      rw [h2] at this
      cases this
    have hip:i<p := by
      by_cases e:i<p
      · exact e
      · exfalso
        have h5:∃ j,j<p∧b j=false := by
          rcases hl:(List.range p).filter fun j=>!b j with _ | ⟨x,r⟩
          · rw [hl] at hm; cases hm
          · have hx:x ∈ (List.range p).filter fun j=>!b j := by rw [hl]; simp
            rw [List.mem_filter,List.mem_range] at hx
            exact ⟨x,hx.1,by simpa using hx.2⟩
        obtain ⟨j,hj,hbj⟩ := h5
        have h6 := hpre j (hfull i (by omega) h1 j (by omega))
        rw [hbj] at h6
        cases h6
    have hci:ef i=true→c=i := fun he=>by
      apply Nat.le_antisymm
      · apply Nat.le_of_not_lt
        intro hlt
        have := (hcc i hip he).2 hlt
        rw [h2] at this
        cases this
      · apply Nat.le_of_not_lt
        intro hlt
        have hcpl:c<p := by omega
        have := hpre c (hc1 i c hip hcpl he (hcp.2 hcpl) hlt)
        have := (hcc c hcpl (hcp.2 hcpl)).1 this
        omega
    have hok := (h i hip).ok o ho es vs f' S' (fun j hj=>hve j (hpre j hj)) (fun j hj=>hvp j (hpre j hj)) (fun j d hj hjd=>hf j d (hpre j hj) hjd)
      (fun t hlt=>hx t (fun j hj hjd=>by
        have h4 := List.all_eq_true.1 hlt j (List.mem_range.2 (hcl j hj).1)
        rw [hjd] at h4
        simp only [Bool.or_eq_true,Bool.not_eq_true'] at h4
        rcases h4 with (h4 | h4) | h4
        · simp at h4
        · have := Nat.eq_of_beq_eq_true h4
          subst this
          rw [h2] at hj
          cases hj
        · exact hnot j hj h4))
      hK (fun he=>by have := hci he; subst this; exact hE)
    have hwant := hok.1 a ha
    -- what stands behind the step,whatever it was
    have frame:∀ v a' ,At n (updo f' o.dst v) a'→(∀ j d,up b i j=true→dstAt ops j=some d→updo f' o.dst v d=upv vs i v j)∧(∀ t,(∀ j,up b i j=true→dstAt ops j≠some t)→updo f' o.dst v t=f t) := fun v a' ha'=>by
      have hodst:dstAt ops i=o.dst := by simp [dstAt,ho]
      refine ⟨fun j d hj hjd=>?_,fun t hnt=>?_⟩
      · by_cases e:j=i
        · subst e
          rw [hodst] at hjd
          rw [hjd,upv_self]
          simp [updo,upd_same]
        · rw [up_ne e] at hj
          rw [upv_ne _ _ e]
          cases hod:o.dst with
          | none=>exact hf j d hj hjd
          | some q =>
            have hqd:d≠q := fun e2=>by
              subst e2
              have h6 := List.all_eq_true.1 hd j (List.mem_range.2 (hcl j hj).1)
              have h7 := List.all_eq_true.1 h6 i (List.mem_range.2 h1)
              rw [hjd,hodst,hod] at h7
              simp [beq_false e] at h7
            show upd f' q v d=_
            rw [upd_ne f' v hqd]
            exact hf j d hj hjd
      · have hft:f' t=f t := hx t (fun j hj=>hnt j (by
          by_cases e:j=i
          · subst e; rw [h2] at hj; cases hj
          · rw [up_ne e]; exact hj))
        cases hod:o.dst with
        | none=>exact hft
        | some q =>
          have hqt:t≠q := fun e=>by
            subst e
            exact hnt i (up_self b i) (by rw [hodst,hod])
          show upd f' q v t=_
          rw [upd_ne f' v hqt]
          exact hft
    have closed:∀ j,up b i j=true→j<ops.size∧∀ m,(tab.getD j []).contains m=true→up b i m=true := fun j hj=>by
      rcases up_true hj with rfl | hj
      · refine ⟨h1,fun m hm=>?_⟩
        by_cases e:m=j
        · subst e; exact up_self b _
        · rw [up_ne e]; exact hpre m hm
      · refine ⟨(hcl j hj).1,fun m hm=>?_⟩
        by_cases e:m=i
        · subst e; exact up_self b _
        · rw [up_ne e]; exact (hcl j hj).2 m hm
    have cnt:((List.range p).filter fun j=>!up b i j).length=m := by
      have := up_count (b:=b) (i:=i) (List.nodup_range (n:=p)) (List.mem_range.2 hip) h2
      omega
    have nextP:ef i=false→∀ v a' w',(pv i).ok es v→At n (updo f' o.dst v) a'→St w0 S' w'→wpAny P .any ops Q (m+(ops.size - p)) ((lof ops.size b).setIfInBounds i true) a' w' := fun hef v a' w' hv ha' hs'=>by
      rw [lof_up h1]
      obtain ⟨f1,f2⟩ := frame v a' ha'
      refine ih (up b i) a' w' (fun j hj=>(up_true hj).elim (fun e=>e ▸ hip) (hbp j)) cnt ⟨closed,c,es,upv vs i v,updo f' o.dst v,S',fun j hj hej=>?_,hcp,fun j hj hej=>?_,fun j hj=>?_,hE,hK,f1,f2,ha',hs'⟩
      · have hji:j≠i := fun e=>by subst e; rw [hef] at hej; cases hej
        rw [up_ne hji]
        exact hcc j hj hej
      · have hji:j≠i := fun e=>by subst e; rw [hef] at hej; cases hej
        rw [up_ne hji] at hj
        rw [upv_ne _ _ hji]
        exact hve j hj hej
      · by_cases e:j=i
        · subst e; rw [upv_self]; exact hv
        · rw [up_ne e] at hj
          rw [upv_ne _ _ e]
          exact hvp j hj
    have nextE:ef i=true→∀ v S'' a' w',E (nx i) (upv es i v) S''→(pv i).ok (upv es i v) v→(∀ u,keep u=true→S'' u=S u)→At n (updo f' o.dst v) a'→St w0 S'' w'→wpAny P .any ops Q (m+(ops.size - p)) ((lof ops.size b).setIfInBounds i true) a' w' := fun hef v S'' a' w' hv hpo hK' ha' hs'=>by
      rw [lof_up h1]
      obtain ⟨f1,f2⟩ := frame v a' ha'
      have hc := hci hef
      subst hc
      obtain ⟨n1,n2,n3⟩ := hc3 c hip hef
      refine ih (up b c) a' w' (fun j hj=>(up_true hj).elim (fun e=>e ▸ hip) (hbp j)) cnt ⟨closed,nx c,upv es c v,upv vs c v,updo f' o.dst v,S'',fun j hj hej=>?_,⟨n1,n2⟩,fun j hj hej=>?_,fun j hj=>?_,hv,hK',f1,f2,ha',hs'⟩
      · rw [n3 j hj hej]
        by_cases e:j=c
        · subst e; simp [up_self]
        · rw [up_ne e,hcc j hj hej]
          omega
      · by_cases e:j=c
        · subst e; rw [upv_self,upv_self]
        · rw [up_ne e] at hj
          rw [upv_ne _ _ e,upv_ne _ _ e]
          exact hve j hj hej
      · by_cases hjc:j=c
        · subst hjc; rw [upv_self]; exact hpo
        · rw [up_ne hjc] at hj
          rw [upv_ne _ _ hjc]
          have h9 := hvp j hj
          cases hpv:pv j with
          | val u=>rw [hpv] at h9; exact h9
          | eff e =>
            rw [hpv] at h9
            have hjp := hbp j hj
            have hec:e≠c := by
              rcases hc2 j e hjp hpv with ⟨_,h10⟩ | ⟨_,he2⟩
              · rw [h10]; exact hjc
              · have hbe := (hcl j hj).2 e he2
                intro e3
                subst e3
                rw [h2] at hbe
                cases hbe
            show vs j=upv es c v e
            rw [upv_ne _ _ hec]
            exact h9
    unfold wpOp
    rw [ho]
    simp only
    rw [hwant]
    have hput:∀ (d:Option Nat),o.dst=d→At n (updo f' d undef) (a.put d undef) := fun d hod=>by
      cases d with
      | none=>exact ha
      | some q=>exact ha.put (hdn i q (by simp [dstAt,ho,hod])) undef
    cases hon:on i with
    | true =>
      rw [if_pos rfl]
      left
      cases hef:ef i with
      | false =>
        have h4 := hok.2.1 hef hon a w ha hs
        unfold wpList at h4
        rw [if_pos (by simp [Region.wanted])] at h4
        have h5:o.wp P a w (wpList P ops (QPv (pv i) es n f' o.dst w0 S') []) (QPv (pv i) es n f' o.dst w0 S') := by
          rcases h4 with h4 | ⟨_,a1,w1,h4,_⟩
          · exact h4
          · cases h4
        exact wp_mono2 (fun a' w' hq=>by obtain ⟨_,v,hv,ha',hs'⟩ := hq; exact nextP hef v a' w' hv ha' hs') (fun e a' w' hne hq=>absurd hq.1 hne) h5
      | true =>
        have h4 := hok.2.2.2.1 hef hon a w ha hs
        unfold wpList at h4
        rw [if_pos (by simp [Region.wanted])] at h4
        have h5:o.wp P a w (wpList P ops (QEf (pv i) (E (nx i)) es i keep S n f' o.dst w0) []) (QEf (pv i) (E (nx i)) es i keep S n f' o.dst w0) := by
          rcases h4 with h4 | ⟨_,a1,w1,h4,_⟩
          · exact h4
          · cases h4
        exact wp_mono2 (fun a' w' hq=>by obtain ⟨_,v,S'',hv,hpo,hK',ha',hs'⟩ := hq; exact nextE hef v S'' a' w' hv hpo hK' ha' hs') (fun e a' w' hne hq=>absurd hq.1 hne) h5
    | false =>
      rw [if_neg (by simp)]
      cases hef:ef i with
      | false=>exact nextP hef undef _ _ (hok.2.2.1 hef hon) (hput o.dst rfl) hs
      | true=>exact nextE hef undef S' _ _ (hok.2.2.2.2 hef hon).1 (hok.2.2.2.2 hef hon).2 hK (hput o.dst rfl) hs
end
section
variable {P:Program} {Q:Exit→Act→World→Prop} {n:Nat} {ops:Array Oper} {l:List Oper} {f f' F:Fr} {w0:Bs} {S S0:Sto} {keep:Nat→Bool}
theorem cs_chain {id:Nat} (tab:List (List Nat)) (p:Nat) (keep ef:Nat→Bool) (pv:Nat→Pv) (E:Nat→(Nat→Value)→Sto→Prop) (nx:Nat→Nat) (on:Nat→Bool) (c0:Nat) (hm:P.follows .mixedOrders=true) (ht:tabOk l.toArray tab=true) (hd:dstsOk l.toArray=true) (hdn:(List.range l.toArray.size).all (fun j=>match dstAt l.toArray j with
    | some d=>Nat.blt d n
    | none=>true)=true)
    (hch:chainOk tab p ef pv nx c0=true) {rs:List Oper} (hrs:l.drop p=rs) (hp:Nat.ble p l.toArray.size=true) (hfull:(List.range l.toArray.size).all (fun i=>Nat.blt i p || (List.range i).all fun j=>(tab.getD i []).contains j)=true)
    (h0:∀ es,E c0 es S) (h:∀ i,i<p→ChOk P n l.toArray tab f w0 S keep ef pv E nx on i)
    (hend:∀ (es vs:Nat→Value) (f':Fr) (S':Sto),(∀ j,Nat.blt j p=true→ef j=true→vs j=es j)→(∀ j,Nat.blt j p=true→(pv j).ok es (vs j))→(∀ j d,Nat.blt j p=true→dstAt l.toArray j=some d→f' d=vs j)→(∀ t,notIn p l.toArray t=true→f' t=f t) →
      (∀ u,keep u=true→S' u=S u)→E p es S'→Ls P Q n l.toArray rs f' w0 S'):Cs P Q n (.region id l.toArray true) f w0 S := fun a w ha hs=>by
  have hdn':∀ j d,dstAt l.toArray j=some d→Nat.blt d n=true := fun j d hj=>by
    have hlt:j<l.toArray.size := by
      unfold dstAt at hj
      cases ho:l.toArray[j]? with
      | none=>rw [ho] at hj; cases hj
      | some o=>exact (Array.getElem?_eq_some_iff.1 ho).1
    have := List.all_eq_true.1 hdn j (List.mem_range.2 hlt)
    rw [hj] at this
    exact this
  have hpl:p≤l.toArray.size := by simpa [Nat.ble_eq] using hp
  have hc0:c0≤p∧(c0<p→ef c0=true)∧∀ j,j<p→ef j=true→¬ j<c0 := by
    simp only [chainOk,Bool.and_eq_true] at hch
    obtain ⟨⟨⟨⟨⟨_,_⟩,_⟩,h4⟩,h5⟩,h6⟩ := hch
    refine ⟨Nat.le_of_ble_eq_true h4,fun hlt=>?_,fun j hj hej hlt=>?_⟩
    · rw [Bool.or_eq_true] at h5
      rcases h5 with h5 | h5
      · have := Nat.le_of_ble_eq_true h5; omega
      · exact h5
    · have h7 := List.all_eq_true.1 h6 j (List.mem_range.2 hj)
      rw [hej] at h7
      have := Nat.le_of_ble_eq_true (by simpa using h7:Nat.ble c0 j=true)
      omega
  refine wp_region_any hm ?_
  have hs1:St w0 S { w with drawn := w.drawn+1 } := hs.step ⟨rfl,rfl,rfl,Nat.le_refl _,fun _ _=>rfl⟩
  have h9 := chain_any (P:=P) (Q:=Q) p ht hd hdn' hch h hpl (fun i h1 h2 j h3=>?_) (fun b a w hbp hall hI=>?_) p (fun _=>false) a { w with drawn := w.drawn+1 } (fun j hj=>(by cases hj)) (by rw [List.filter_eq_self.2 (by intro _ _; simp)]; simp) ⟨fun j hj=>(by cases hj),c0,fun _=>undef,fun _=>undef,f,S,fun j hj hej=>⟨fun e=>(by cases e),fun e=>absurd e (hc0.2.2 j hj hej)⟩,⟨hc0.1,hc0.2.1⟩,fun j hj=>(by cases hj),fun j hj=>(by cases hj),h0 _,fun _ _=>rfl,fun j d hj=>(by cases hj),fun t _=>rfl,ha,hs1⟩
  · have e:lof l.toArray.size (fun _=>false)=Array.replicate l.toArray.size false := by
      apply Array.ext'
      apply List.ext_getElem
      · simp [lof]
      · intro i h1 h2
        simp [lof]
    rw [e,show p+(l.toArray.size - p)=l.toArray.size from by omega] at h9
    exact h9
  · have h4 := List.all_eq_true.1 hfull i (List.mem_range.2 h2)
    rw [Bool.or_eq_true] at h4
    rcases h4 with h4 | h4
    · simp [Nat.blt] at h4
      omega
    · exact List.all_eq_true.1 h4 j (List.mem_range.2 h3)
  · obtain ⟨hcl,c,es,vs,f',S',hcc,hcp,hve,hvp,hE,hK,hf,hx,ha',hs'⟩ := hI
    have hb:∀ j,Nat.blt j p=true→b j=true := fun j hj=>hall j (by simp [Nat.blt] at hj; omega)
    have hcp':c=p := by
      apply Nat.le_antisymm hcp.1
      apply Nat.le_of_not_lt
      intro hlt
      have := (hcc c hlt (hcp.2 hlt)).1 (hall c hlt)
      omega
    subst hcp'
    show wpList P l.toArray Q (l.drop c) a w
    rw [hrs]
    refine hend es vs f' S' (fun j hj=>hve j (hb j hj)) (fun j hj=>hvp j (hb j hj)) (fun j d hj hjd=>hf j d (hb j hj) hjd) (fun t hnt=>hx t (fun j hj hjd=>?_)) hK hE a w ha' hs'
    have h4 := List.all_eq_true.1 hnt j (List.mem_range.2 (hbp j hj))
    rw [hjd] at h4
    simp at h4
def pvl (L:List Pv):Nat→Pv := fun j=>L.getD j (.val undef)
def efl (L:List Bool):Nat→Bool := fun j=>L.getD j false
def nxl (L:List Nat):Nat→Nat := fun j=>L.getD j 0
def Esl (L:List ((Nat→Value)→Sto→Prop)) (ix:List Nat):Nat→(Nat→Value)→Sto→Prop := fun c=>L.getD (ix.getD c 0) (fun _ _=>False)
theorem keep_nil {p:Nat→Prop}:∀ u,([]:List Nat).contains u=true→p u := fun u h=>by simp at h
theorem keep_cons {p:Nat→Prop} {t:Nat} {L:List Nat} (h:p t) (hr:∀ u,L.contains u=true→p u):∀ u,(t :: L).contains u=true→p u := fun u hu=>by
  rw [List.contains_cons,Bool.or_eq_true] at hu
  rcases hu with hu | hu
  · rw [beq_iff_eq] at hu; subst hu; exact h
  · exact hr u hu
theorem ls_finp {pv:Pv} {es:Nat→Value} {d:Option Nat} (v:Value) (hF:F=updo f' d v) (hv:pv.ok es v):Ls P (QPv pv es n f' d w0 S) n ops [] F w0 S := fun a w' ha hs=>⟨rfl,v,hv,hF ▸ ha,hs⟩
theorem ls_fine {p:Pv} {E:(Nat→Value)→Sto→Prop} {es:Nat→Value} {i:Nat} {d:Option Nat} (S':Sto) (v:Value) (hF:F=updo f' d v) (hE:E (upv es i v) S') (hp:p.ok (upv es i v) v) (hK:∀ u,keep u=true→S' u=S0 u) (hS:Sub S' S):Ls P (QEf p E es i keep S0 n f' d w0) n ops [] F w0 S := fun a w' ha hs=>⟨rfl,v,S',hE,hp,hK,hF ▸ ha,hs.sub hS⟩
end
theorem sub_join (R:Sto):Sub R (sjoin s0 0 R) := fun t c h=>h
def spu:Value→Sto→Prop := fun v R=>v=undef∧R=s0
theorem spe {s z X:Value→Sto→Prop} {v:Value} {R:Sto} (h1:s=z) (h2:z=X) (h:s v R):X v R := by rw [h1,h2] at h; exact h
section
variable {P:Program} {Q:Exit→Act→World→Prop} {n:Nat} {ops:Array Oper} {l:List Oper} {tab:List (List Nat)} {f:Fr} {w0:Bs} {S:Sto} {off:Nat} {sp:Spec} {on:Nat→Bool}
theorem op_offi (i gi gs:Nat) (b:Bool) {Y:Value→Sto→Prop} (hg:((ops[i]?).map (·.guard))=some (some (gi,b))) (hd:(ops[gi]?).bind (·.dst)=some gs) (hn:Nat.blt gs n=true) (ht:(tab.getD i []).contains gi=true) (hsp:sp gi=Y) (hv:∀ v R,Y v R→v=.bool (!b)) (hi:sp i=spu) (hon:on i=false):OpOk P n ops tab f w0 S off sp on i := ⟨fun o ho vs Rs f' S' w hp hf hx hS hR hs=>by
  have hgo:o.guard=some (gi,b) := by rw [ho] at hg; simpa using hg
  have h1:f' gs=.bool (!b) := (hf gi gs ht hd).trans (hv _ _ (by rw [← hsp]; exact hp gi ht))
  refine ⟨fun a ha=>?_,fun h=>?_,fun _=>?_⟩
  · rw [hon]
    exact want_is hgo hd hn h1 (by cases b <;> rfl) a ha
  · rw [hon] at h; cases h
  · rw [hi]; exact ⟨rfl,rfl⟩⟩
theorem op_offu (i gi gs:Nat) (b:Bool) (hg:((ops[i]?).map (·.guard))=some (some (gi,b))) (hd:(ops[gi]?).bind (·.dst)=some gs) (hn:Nat.blt gs n=true) (ht:(tab.getD i []).contains gi=true) (hsp:sp gi=spu) (hi:sp i=spu) (hon:on i=false):OpOk P n ops tab f w0 S off sp on i := ⟨fun o ho vs Rs f' S' w hp hf hx hS hR hs=>by
  have hgo:o.guard=some (gi,b) := by rw [ho] at hg; simpa using hg
  have h0 := hp gi ht
  rw [hsp] at h0
  have h1:f' gs=undef := (hf gi gs ht hd).trans h0.1
  refine ⟨fun a ha=>?_,fun h=>?_,fun _=>?_⟩
  · rw [hon]
    exact want_not hgo hd hn h1 a ha
  · rw [hon] at h; cases h
  · rw [hi]; exact ⟨rfl,rfl⟩⟩
end
end Go.Proofs.Ythhhkphbhlafbaa.Sx
