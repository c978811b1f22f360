/- Slices of slices: what each inner one holds, beside its place; no condition. -/
import Derived.Test.YthhhkphbhlafbaaSh
import Derived.Laws.CopyRow
import Derived.Great.BuildSlice
set_option linter.unusedVariables false
set_option linter.unusedSimpArgs false
namespace Go.Proofs.Ythhhkphbhlafbaa.Sx
open Go Go.RowKit
variable {α:Type}
abbrev Pl := Option Addr × Nat
def Ec.sls (t:TypeId) (α:Type):Ec (Pl × List α) := ⟨t,fun c=>[Value.slice c.1.1 c.2.length c.1.2],1,((none,0),[]),fun _=>rfl,fun _=>one_cons rfl one_nil,Nat.one_pos⟩
def Ec.sld (t:TypeId) (α:Type):Ec (List α) := ⟨t,fun c=>[Value.slice none c.length c.length],1,[],fun _=>rfl,fun _=>one_cons rfl one_nil,Nat.one_pos⟩
def zs (p:Nat→Pl) (l:List (List α)):List (Pl × List α) := (List.range l.length).map fun i=>(p i,l.getD i [])
theorem zs_length (p:Nat→Pl) (l:List (List α)):(zs p l).length=l.length := by simp [zs]
theorem zs_get (p:Nat→Pl) (l:List (List α)) {i:Nat} (h:i<l.length) (d:Pl × List α):(zs p l).getD i d=(p i,l.getD i []) := by
  simp [zs,List.getD_eq_getElem?_getD,h]
def Ins (T:Ec α) (b:Bs) (p:Nat→Pl) (l:List (List α)):Prop := ∀ i,i<l.length→Ro b (p i).1 (em T (l.getD i []))∧(l.getD i []).length≤(p i).2
def RoS (t:TypeId) (T:Ec α) (b:Bs) (A:Option Addr) (l:List (List α)):Prop := ∃ p,Ro b A (em (Ec.sls t α) (zs p l))∧Ins T b p l
section
variable {t:TypeId} {T:Ec α} {b b' w0:Bs} {A:Option Addr} {l:List (List α)}
theorem RoS.nil (t:TypeId) (T:Ec α) (b:Bs) (A:Option Addr):RoS t T b A [] := ⟨fun _=>(none,0),Ro.nil _ _,fun i h=>by simp at h⟩
theorem RoS.mono (hok:∀ k,b.fz k→k<b.w.heap.size∧¬ b.ks k) (hb:b.le b') (h:RoS t T b A l):RoS t T b' A l :=
  let ⟨p,h1,h2⟩ := h
  ⟨p,h1.mono hok hb,fun i hi=>⟨(h2 i hi).1.mono hok hb,(h2 i hi).2⟩⟩
theorem RoS.up (h:∀ A cs,Ro b A cs→Ro b' A cs) (hr:RoS t T b A l):RoS t T b' A l :=
  let ⟨p,h1,h2⟩ := hr
  ⟨p,h _ _ h1,fun i hi=>⟨h _ _ (h2 i hi).1,(h2 i hi).2⟩⟩
theorem St.roS {w:World} {S:Sto} (h:St w0 S w) (hr:RoS t T w0 A l) (cl ro:List Ck):RoS t T (lent w0 w cl ro) A l :=
  let ⟨p,h1,h2⟩ := hr
  ⟨p,h.ro h1 cl ro,fun i hi=>⟨h.ro (h2 i hi).1 cl ro,(h2 i hi).2⟩⟩
theorem idoS_at {i:Int} (hR:RoS t T w0 A l) (h0:0≤i) (h1:i<(l.length:Int)):∃ ad,A=some ad :=
  let ⟨p,h,_⟩ := hR
  ido_at h h0 (by rw [zs_length]; exact h1)
theorem RoS.el (hR:RoS t T w0 A l) {ad:Addr} (hA:A=some ad) {i:Int} (h0:0≤i) (h1:i<(l.length:Int)) :
    ∃ q:Pl,Ro w0 (some (ad.add (i.toNat*1))) [Value.slice q.1 (l.getD i.toNat []).length q.2]∧Ro w0 q.1 (em T (l.getD i.toNat []))∧(l.getD i.toNat []).length≤q.2 := by
  obtain ⟨p,h,h2⟩ := hR
  have hi:i.toNat<l.length := by omega
  obtain ⟨h3,h4⟩ := h2 _ hi
  refine ⟨p i.toNat,?_,h3,h4⟩
  have hs := em_sub (Ec.sls t α) (zs p l) (i:=i.toNat) (by rw [zs_length]; exact hi)
  rw [zs_get p l hi] at hs
  intro j u hj
  obtain rfl:j=0 := by
    have := (List.getElem?_eq_some_iff.1 hj).1
    simp at this
    omega
  have hg := hs.get 0 Nat.one_pos
  obtain ⟨ad',e,hc,hf⟩ := h (i.toNat*1+0) u (hg.trans hj)
  rw [hA] at e
  obtain rfl := Option.some.inj e
  exact ⟨_,rfl,by rw [add_add]; exact hc,by rw [add_block]; exact hf⟩
theorem Rd.cell0 {w:World} {a:Addr} {v:Value} (h:Rd w (some a) [v]):w.cell? a=some v := by
  obtain ⟨ad,e,hc⟩ := h 0 v rfl
  obtain rfl := Option.some.inj e
  simpa [Addr.add] using hc
theorem RoS.of {L:List (Pl × List α)} (h:Ro b A (em (Ec.sls t α) L)) (h2:∀ c ∈ L,Ro b c.1.1 (em T c.2)∧c.2.length≤c.1.2):RoS t T b A (L.map (·.2)) := by
  have e:zs (fun i=>(L.getD i ((none,0),[])).1) (L.map (·.2))=L := by
    apply List.ext_getElem?
    intro i
    simp only [zs,List.length_map,List.getElem?_map]
    by_cases hi:i<L.length
    · rw [List.getElem?_range hi]
      simp [List.getD_eq_getElem?_getD,List.getElem?_eq_getElem hi]
    · rw [List.getElem?_eq_none (by simp; omega),List.getElem?_eq_none (by omega)]
      rfl
  refine ⟨fun i=>(L.getD i ((none,0),[])).1,by rw [e]; exact h,fun i hi=>?_⟩
  rw [List.length_map] at hi
  have := h2 _ (List.getElem_mem hi)
  simpa [List.getD_eq_getElem?_getD,List.getElem?_eq_getElem hi] using this
end
section
variable {P:Program} {Q:Exit→Act→World→Prop} {n:Nat} {ops:Array Oper} {rest:List Oper} {o:Oper} {f:Fr} {w0:Bs} {S:Sto} {d:Nat} {t e:TypeId} {T:Ec α} {A:Option Addr} {c:Nat} {l:List α}
theorem run_cut3 {z:Nat} {w:World} (ht:P.underlying t=some (.slice e)) (hz:(P.info? e).map (·.size)=some z) {m:Nat} {lo:Option Value} {a b:Nat} {kh:IntKind}
    (hlo:(lo=none∧a=0) ∨ ∃ k,lo=some (.int k (a:Int))) (h1:a≤b) (h2:b≤m) (h3:m≤c) :
    (Instr.sliceAt t (.slice A m c) lo (some (.int kh (b:Int))) (some (.int kh (b:Int)))).run P w=.ok (.slice (if b=a then A else A.map (·.add (a*z))) (b - a) (b - a)) w := by
  obtain ⟨q,hq,hq1⟩ := Option.map_eq_some_iff.1 hz
  have hb:(Instr.sliceBounds true m c lo (some (.int kh (b:Int))) (some (.int kh (b:Int)))).run P w=.ok (a,b,b) w := by
    rcases hlo with ⟨rfl,rfl⟩ | ⟨kl,rfl⟩
    · simp [Instr.sliceBounds,run_bound (show b≤c by omega),run_bound (Nat.le_refl b)]
    · simp [Instr.sliceBounds,run_bound (show b≤c by omega),run_bound (Nat.le_refl b),run_bound h1]
  simp [Instr.sliceAt,run_underlying ht,Instr.slice,hb,sizeOf,typeInfo,hq,hq1]
theorem cut3_at (T:Ec α) (a b:Nat) (h1:a≤b) (h2:b≤l.length) (hR:Ro w0 A (em T l)) {m:List α} (hm:m=(l.take b).drop a) {z:Nat} (hz:z=T.z):∃ A' c',Value.slice (if b=a then A else A.map (·.add (a*z))) (b - a) (b - a)=.slice A' m.length c'∧m.length≤c'∧Ro w0 A' (em T m) :=
  cut_at (l:=l.take b) (c:=b) T a b h1 (by simp; omega) (by simp; omega) (hR.emtake b) (by rw [List.take_take,Nat.min_self]; exact hm) hz
theorem ls_cutv3 (hg:o.guard=none) (hd:o.dst=some d) (hn:Nat.blt d n=true) {x hi mx:Operand} {lo:Option Operand} {a b m z:Nat} {A':Option Addr} {c' k:Nat} {kh:IntKind} (ho:o.op=.slice t x lo (some hi) (some mx)) (hx:ev f x=.slice A m c) (ht:P.underlying t=some (.slice e)) (hz:(P.info? e).map (·.size)=some z)
    (hlo:(lo.map (ev f)=none∧a=0) ∨ ∃ k,lo.map (ev f)=some (.int k (a:Int))) (hhi:ev f hi=.int kh (b:Int)) (hmx:ev f mx=.int kh (b:Int)) (h1:a≤b) (h2:b≤m) (h3:m≤c)
    (he:Value.slice (if b=a then A else A.map (·.add (a*z))) (b - a) (b - a)=.slice A' k c')
    (h:Ls P Q n ops rest (upd f d (.slice A' k c')) w0 S):Ls P Q n ops (o :: rest) f w0 S := by
  refine ls_val hg hd hn (v:=.slice (if b=a then A else A.map (·.add (a*z))) (b - a) (b - a)) (fun w=>?_) (by rw [he]; exact h)
  unfold execOp
  rw [ho]
  refine lift_v ?_
  simp only [Option.map_some,hx,hhi,hmx]
  exact run_cut3 ht hz hlo h1 h2 h3
def lcopy (l:List α) (a:Nat) (m:List α):List α := l.take a++m.take (l.length - a)++l.drop (a+m.length)
theorem lcopy_length {l m:List α} {a:Nat} (h:a≤l.length):(lcopy l a m).length=l.length := by
  unfold lcopy
  simp
  omega
theorem ls_copyc {u:TypeId} (k:Nat) {x y:Operand} {a q cy cb:Nat} {Ax B:Option Addr} {m:List α} (hg:o.guard=none) (hd:o.dst=some d) (hn:Nat.blt d n=true) (ho:o.op=.call { callee := .builtin .copy,args := #[x,y],argTypes := #[t,u] }) (hx:ev f x=.slice Ax q cy) (hy:ev f y=.slice B m.length cb)
    (he:Value.slice (if c=a then A else A.map (·.add (a*1))) (l.length - a) (c - a)=.slice Ax q cy) (ha:a≤l.length) (hz1:T.z=1) (hS:S k=some (Ck.sl T A c l)) (ht:P.underlying t=some (.slice e)) (hz:(P.info? e).map (·.size)=some 1) (hR:∀ w,St w0 S w→Rd w B (em T m)) {l':List α} (hl':lcopy l a m=l')
    (h:Ls P Q n ops rest (upd f d (.int .i64 ((min m.length (l.length - a):Nat):Int))) w0 (sput S k (some (Ck.sl T A c l')))):Ls P Q n ops (o :: rest) f w0 S :=
  ls_op hg fun ac w haa hs=>op_wp haa (by
    subst hl'
    have hll := lcopy_length (m:=m) ha
    injection he with he1 he2 he3
    subst he1; subst he2; subst he3
    have h0 := hs.holds k _ hS
    obtain ⟨hlen,hrow⟩ := h0
    have emz:∀ r:List α,(em T r).length=r.length := fun r=>by rw [em_length,hz1,Nat.mul_one]
    obtain ⟨w',hrun,hst⟩:∃ w',(Builtin.copy_ #[t,u] o.type #[.slice (if c=a then A else A.map (·.add (a*1))) (l.length - a) (c - a),.slice B m.length cb]).run P w=.ok (.int .i64 ((min m.length (l.length - a):Nat):Int)) w'∧St w0 (sput S k (some (Ck.sl T A c (lcopy l a m)))) w' := by
      by_cases h00:min m.length (l.length - a)=0
      · -- nothing is copied
        have hsame:lcopy l a m=l := by
          unfold lcopy
          by_cases hm0:m.length=0
          · have:m=[] := List.eq_nil_of_length_eq_zero hm0
            subst this
            simp
          · have:l.length - a=0 := by omega
            rw [this,List.take_zero,List.append_nil,List.drop_of_length_le (by omega),List.append_nil,List.take_of_length_le (by omega)]
        have hS2:sput S k (some (Ck.sl T A c (lcopy l a m)))=S := by
          rw [hsame]
          funext j
          by_cases hj:j=k
          · subst hj; rw [sput_same]; exact hS.symm
          · rw [sput_ne _ _ hj]
        refine ⟨w,?_,by rw [hS2]; exact hs⟩
        obtain ⟨q,hq,hq1⟩ := Option.map_eq_some_iff.1 hz
        have hmin:Nat.min m.length (l.length - a)=0 := h00
        rw [h00]
        generalize (if c=a then A else A.map (·.add (a*1)))=D
        cases B <;> cases D <;> simp [Builtin.copy_,run_underlying ht,sizeOf,typeInfo,hq,Builtin.lenOf,Builtin.firstCells,storeCells,loadCells,loadCellsFrom,goInt,hmin,h00,Result.andThen]
      · rcases hrow with ⟨hv',hn0⟩ | ⟨g,cap,cur,hv',hb,hob,hc1,hc2,hc3,hc4⟩
        · omega
        injection hv' with hv1 hv2 hv3
        subst hv3
        rw [hz1,Nat.mul_one] at hc3 hc4
        have hca:¬ c=a := by omega
        subst hv1
        rw [if_neg hca]
        cases B with
        | none =>
          exfalso
          cases m with
          | nil=>simp at h00
          | cons x r =>
            have hx0:(em T (x :: r))[0]?=some ((em T (x :: r))[0]'(by rw [emz]; simp)) := List.getElem?_eq_getElem _
            obtain ⟨ad,e1,_⟩ := hR w hs 0 _ hx0
            cases e1
        | some ad =>
          have hcsl:(em T (m.take (l.length - a))).length=Nat.min m.length (l.length - a) := by rw [emz]; simp [Nat.min_comm]
          have h1 := run_copy_row (P:=P) w t u o.type e g a (l.length - a) (c - a) ad m.length cb cur T.t (em T (m.take (l.length - a))) ht hz hob hcsl (fun j v hj=>by
            have hj':(em T m)[j]?=some v := by
              rw [em_take,List.getElem?_take] at hj
              split at hj
              · exact hj
              · cases hj
            obtain ⟨ad',e1,hc⟩ := hR w hs j v hj'
            obtain rfl := Option.some.inj e1
            exact hc) (by have:cur.size=c := by simpa using hc3
                          rw [hcsl]; have := Nat.min_le_right m.length (l.length - a); simp only [Nat.min_def] at *; split <;> omega) (em_one T _)
          refine ⟨w.setRow g (cur.toList.take a++em T (m.take (l.length - a))++cur.toList.drop (a+(em T (m.take (l.length - a))).length)).toArray,by
            show (Builtin.copy_ #[t,u] o.type #[.slice (some ((⟨g,0,none⟩:Addr).add (a*1))) (l.length - a) (c - a),.slice (some ad) m.length cb]).run P w=_
            rw [Nat.mul_one,addo,Nat.zero_add,h1,show goInt (em T (m.take (l.length - a))).length=.int .i64 ((min m.length (l.length - a):Nat):Int) from by rw [hcsl]; rfl],?_⟩
          have hcl:cur.toList.length=c := by simpa using hc3
          have hml:(em T (m.take (l.length - a))).length=min m.length (l.length - a) := hcsl
          refine hs.set (w' := w.setRow g (cur.toList.take a++em T (m.take (l.length - a))++cur.toList.drop (a+(em T (m.take (l.length - a))).length)).toArray) (c' := Ck.sl T (some ⟨g,0,none⟩) c (lcopy l a m)) hS rfl rfl rfl (by simp [World.setRow]) (fun j hj hne=>setRow_other w g j _ (fun e1=>hne (by simp [Ck.sl,Ck.row,Value.ownBlock,e1]))) ⟨by rw [emz,hll,hz1,Nat.mul_one],.inr ⟨g,c,_,rfl,Nat.zero_le _,setRow_heap w g cur _ T.t _ hob,by rw [hll]; exact hc1,hc2,?_,?_⟩⟩ (fun j hj=>.inl (hj))
          · rw [hz1,Nat.mul_one]
            simp
            omega
          · rw [hz1,Nat.mul_one,hll]
            have e4:em T (lcopy l a m)=(em T l).take a++em T (m.take (l.length - a))++(em T l).drop (a+m.length) := by
              unfold lcopy
              rw [em_append,em_append,em_take,em_drop,hz1,Nat.mul_one,Nat.mul_one]
            rw [e4,← hc4]
            apply List.ext_getElem?
            intro j
            have hmn:min m.length (l.length - a)≤l.length - a := Nat.min_le_right _ _
            by_cases hj:j<l.length
            · simp only [List.getElem?_take,List.getElem?_append,List.length_append,List.length_take,hml,hcl,List.getElem?_drop]
              by_cases c1:j<a
              · have d1:j<min a c := by omega
                have d2:j<min a c+min m.length (l.length - a) := by omega
                have d3:j<min a (min l.length c) := by omega
                have d4:j<min a (min l.length c)+min m.length (l.length - a) := by omega
                simp [hj,c1,d1,d2,d3,d4]
              · by_cases c2:j<a+min m.length (l.length - a)
                · have d1:¬ j<min a c := by omega
                  have d2:j<min a c+min m.length (l.length - a) := by omega
                  have d3:¬ j<min a (min l.length c) := by omega
                  have d4:j<min a (min l.length c)+min m.length (l.length - a) := by omega
                  have e5:min a c=a := by omega
                  have e6:min a (min l.length c)=a := by omega
                  simp [hj,d1,d2,d3,d4,e5,e6,c1,c2]
                · have d2:¬ j<min a c+min m.length (l.length - a) := by omega
                  have d4:¬ j<min a (min l.length c)+min m.length (l.length - a) := by omega
                  have e5:min a c=a := by omega
                  have e6:min a (min l.length c)=a := by omega
                  have e7:min m.length (l.length - a)=m.length := by omega
                  rw [e5] at d2; rw [e6] at d4
                  simp only [e5,e6,if_pos hj,if_neg d2,if_neg d4,e7]
                  have e8:a+m.length+(j - (a+m.length))=j := by omega
                  rw [e8,if_pos hj]
            · rw [List.getElem?_eq_none (by simp; omega),List.getElem?_eq_none (by
                rw [hc4]
                simp only [List.length_append,List.length_take,List.length_drop,hml,emz]
                omega)]
    unfold execOp
    simp only [ho,resolve,invoke,builtin,Sem.run_bind,Sem.run_pure,Result.andThen_ok,List.map_toArray,List.map_cons,List.map_nil,hx,hy,hrun]
    show wpList P ops Q rest (ac.put o.dst _) _
    rw [hd]
    exact h _ _ (haa.put hn _) hst)
end
theorem whole_he (A:Option Addr) (n c:Nat):Value.slice (if c=0 then A else A.map (·.add (0*1))) (n - 0) (c - 0)=Value.slice A n c := by
  have:(if c=0 then A else A.map (·.add (0*1)))=A := by
    split
    · rfl
    · cases A with
      | none=>rfl
      | some ad=>simp [Addr.add]
  rw [this]
  rfl
def InsC (T:Ec α) (b:Bs) (L:List (Pl × List α)):Prop := ∀ c ∈ L,Ro b c.1.1 (em T c.2)∧c.2.length≤c.1.2
section
variable {t:TypeId} {T:Ec α} {b b' w0:Bs} {A:Option Addr} {l m:List (List α)} {L M:List (Pl × List α)}
theorem InsC.nil (T:Ec α) (b:Bs):InsC T b [] := fun c h=>by cases h
theorem InsC.one {q:Option Addr} {n:Nat} {x:List α} (h1:Ro b q (em T x)) (h2:x.length≤n):InsC T b [((q,n),x)] := fun c h=>by
  obtain rfl := List.mem_singleton.1 h
  exact ⟨h1,h2⟩
theorem InsC.app (h:InsC T b L) (h2:InsC T b M):InsC T b (L++M) := fun c hc=>(List.mem_append.1 hc).elim (h c) (h2 c)
theorem InsC.mono (hok:∀ k,b.fz k→k<b.w.heap.size∧¬ b.ks k) (hb:b.le b') (h:InsC T b L):InsC T b' L := fun c hc=>⟨(h c hc).1.mono hok hb,(h c hc).2⟩
theorem St.insC {w:World} {S:Sto} (hs:St w0 S w) (h:InsC T w0 L) (cl ro:List Ck):InsC T (lent w0 w cl ro) L := fun c hc=>⟨hs.ro (h c hc).1 cl ro,(h c hc).2⟩
theorem RoS.ofE (h:Ro b A (em (Ec.sls t α) L)) (h2:InsC T b L) (e:L.map (·.2)=l):RoS t T b A l := e ▸ RoS.of h h2
theorem lenE (e:L.map (·.2)=l) {c:Nat} (h:L.length≤c):l.length≤c := by rw [← e,List.length_map]; exact h
theorem mapE (e:L.map (·.2)=l) (e2:M.map (·.2)=m):(L++M).map (·.2)=l++m := by rw [List.map_append,e,e2]
end
section
variable {P:Program} {Q:Exit→Act→World→Prop} {n:Nat} {ops:Array Oper} {rest:List Oper} {o:Oper} {f:Fr} {w0:Bs} {S:Sto} {d:Nat} {t te:TypeId} {A B:Option Addr} {c cb:Nat} {l m:List (List α)} {L M:List (Pl × List α)}
theorem ls_appS (te:TypeId) (k:Nat) {z:Value} {bytes:Nat} (hE:L.map (·.2)=l) (hE2:M.map (·.2)=m) (hg:o.guard=none) (hd:o.dst=some d) (hn:Nat.blt d n=true) {s x:Operand} (ho:o.op=.call { callee := .builtin .append,args := #[s,x],argTypes := #[t,t] }) (hs:ev f s=.slice A l.length c) (hS:S k=some (Ck.sl (Ec.sls te α) A c L)) (hx:ev f x=.slice B m.length cb)
    (hR:∀ w,St w0 S w→Rd w B (em (Ec.sls te α) M)) (ht:P.underlying t=some (.slice te)) (hi:(P.info? te).map (fun i=>(i.zero,i.size,i.bytes))=some (some z,1,bytes)) (hz:z.cells.size=1) (hb0:0<bytes) (hbytes:(l.length+m.length)*bytes≤140737488355328)
    (h:∀ A' c',Ls P Q n ops rest (upd f d (.slice A' (l++m).length c')) w0 (sput S k (some (Ck.sl (Ec.sls te α) A' c' (L++M))))):Ls P Q n ops (o :: rest) f w0 S := by
  have el:l.length=L.length := by rw [← hE,List.length_map]
  have em':m.length=M.length := by rw [← hE2,List.length_map]
  refine ls_app (Ec.sls te α) (l:=L) (m:=M) k hg hd hn ho (by rw [hs,el]) hS (by rw [hx,em']) hR ht hi hz hb0 (by rw [← el,← em']; exact hbytes) fun A' c'=>?_
  have := h A' c'
  rw [show (L++M).length=(l++m).length by rw [List.length_append,List.length_append,el,em']]
  exact this
theorem ls_lit1 {T:Ec α} (k:Nat) (y:α) (hg:o.guard=none) (hd:o.dst=some d) (hn:Nat.blt d n=true) {x:Operand} (ho:o.op=.buildSlice t 1 #[(0,x)]) (hx:ev f x=.agg ⟨T.E y⟩) (ht:P.underlying t=some (.slice T.t)) (hi:(P.info? T.t).map (fun i=>(i.zero.isSome,i.size))=some (true,T.z)) (hz:Nat.ble T.z 16777216=true)
    (h:∀ g,Ls P Q n ops rest (upd f d (.slice (some ⟨g,0,none⟩) [y].length [y].length)) w0 (sput S k (some (Ck.sl T (some ⟨g,0,none⟩) [y].length [y])))):Ls P Q n ops (o :: rest) f w0 S := by
  refine ls_lit T k hg hd hn [y] (by show 1≤maxLen; decide) (fun w=>?_) h
  obtain ⟨ie,hie,he⟩ := Option.map_eq_some_iff.1 hi
  obtain ⟨he1,he2⟩ := Prod.mk.inj he
  obtain ⟨z,hzz⟩ := Option.isSome_iff_exists.1 he1
  have hz' := Nat.le_of_ble_eq_true hz
  have hp := T.pos
  have hf := Great.fill_whole (s:=T.z) hp [Value.agg ⟨T.E y⟩] ((Array.range (1*T.z)).map (z.cells[· % z.cells.size]!)) (fun v hv=>by obtain rfl := List.mem_singleton.1 hv; show (T.E y).length=T.z; exact T.len y) (by simp)
  unfold execOp
  rw [ho]
  refine lift_v ?_
  have e:((#[(0,x)]:Array (Nat × Operand)).map fun (i,x)=>(i,ev f x))=#[(0,Value.agg ⟨T.E y⟩)] := by rw [← hx]; simp
  rw [e]
  have hr := run_buildSlice (P:=P) w t T.t 1 #[(0,Value.agg ⟨T.E y⟩)] ⟨T.E y⟩ ie z ht hie hzz (by rw [he2]; omega) (by rw [he2]; omega) (by
    rw [he2]
    refine Eq.trans hf ?_
    simp [Value.cells])
  rw [hr]
  simp [em]
end
structure ChOkL (P:Program) (n:Nat) (ops:Array Oper) (tab:List (List Nat)) (f:Fr) (w0:Bs) (S:Sto) (keep ef:Nat→Bool) (pv:Nat→Pv) (E:Nat→(Nat→Value)→Sto→Prop) (tr:Nat→Nat→Nat) (labs:Nat→List Nat) (on:Nat→Bool) (i:Nat):Prop where
  ok:∀ q ∈ labs i,∀ o,ops[i]?=some o→∀ (es vs:Nat→Value) (f':Fr) (S':Sto),
    (∀ j,(tab.getD i []).contains j=true→ef j=true→vs j=es j)→(∀ j,(tab.getD i []).contains j=true→(pv j).ok es (vs j)) →
    (∀ j d,(tab.getD i []).contains j=true→dstAt ops j=some d→f' d=vs j)→(∀ t,lateOk ops tab i t=true→f' t=f t)→(∀ u,keep u=true→S' u=S u)→(ef i=true→E q es S') →
    (∀ a,At n f' a→Region.wanted o (yielded ops a.tmps)=on i) ∧
    (ef i=false→on i=true→Ls P (QPv (pv i) es n f' o.dst w0 S') n ops [{ o with guard := none }] f' w0 S')∧(ef i=false→on i=false→(pv i).ok es undef) ∧
    (ef i=true→on i=true→Ls P (QEf (pv i) (E (tr q i)) es i keep S n f' o.dst w0) n ops [{ o with guard := none }] f' w0 S')∧(ef i=true→on i=false→E (tr q i) (upv es i undef) S'∧(pv i).ok (upv es i undef) undef)
section
variable {P:Program} {Q:Exit→Act→World→Prop} {n:Nat} {ops:Array Oper} {tab:List (List Nat)} {f:Fr} {w0:Bs} {S:Sto} {keep ef:Nat→Bool} {pv:Nat→Pv} {E:Nat→(Nat→Value)→Sto→Prop} {on:Nat→Bool} {dn:Nat→Nat→Bool} {tr:Nat→Nat→Nat} {labs:Nat→List Nat} {L qf:Nat}
end
section
variable {P:Program} {Q:Exit→Act→World→Prop} {n:Nat} {ops:Array Oper} {l:List Oper} {f f' F:Fr} {w0:Bs} {S S0:Sto} {keep:Nat→Bool}
end
end Go.Proofs.Ythhhkphbhlafbaa.Sx
