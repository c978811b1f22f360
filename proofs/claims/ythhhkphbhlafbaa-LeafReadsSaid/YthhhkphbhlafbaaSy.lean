/- More small lemmas for a walk: rows of the call's own that are only read, nested slices, pointers, maps; no condition. -/
import Derived.Test.YthhhkphbhlafbaaSx
set_option linter.unusedVariables false
set_option linter.unusedSimpArgs false
namespace Go.Proofs.Ythhhkphbhlafbaa.Sx
open Go Go.RowKit
def Ck.ro {α:Type} (T:Ec α) (A:Option Addr) (c:Nat) (l:List α):Ck where
  key := (A.map (·.block)).toList
  holds := fun w=>Rd w A (em T l)∧l.length≤c∧∀ ad,A=some ad→ad.block<w.heap.size
  stable := fun w w' h hk=>⟨fun j u hj=>by
      obtain ⟨ad,e,hc⟩ := h.1 j u hj
      exact ⟨ad,e,(cell_same (by rw [add_block]; exact hk ad.block (by simp [e]))).trans hc⟩,h.2.1,fun ad e=>by
      have h1 := hk ad.block (by simp [e])
      rw [Array.getElem?_eq_getElem (h.2.2 ad e)] at h1
      exact (Array.getElem?_eq_some_iff.1 h1).1⟩
  bound := fun w h k hk=>by
    cases A with
    | none=>simp at hk
    | some ad =>
      have:k=ad.block := by simpa using hk
      subst this
      exact h.2.2 ad rfl
theorem Ck.ro_key {α:Type} {T:Ec α} {A:Option Addr} {c:Nat} {l:List α}:∀ ad,A=some ad→ad.block ∈ (Ck.ro T A c l).key := fun ad e=>by simp [Ck.ro,e]
theorem St.weaken {b:Bs} {S:Sto} {w:World} (h:St b S w) {k:Nat} {c c':Ck} (hS:S k=some c) (hc:c'.holds w) (hk:∀ q ∈ c'.key,q ∈ c.key) (k':Nat):St b (sput (sput S k none) k' (some c')) w := by
  have sub:∀ u d,u≠k'→sput (sput S k none) k' (some c') u=some d→u≠k∧S u=some d := fun u d hne e=>by
    rw [sput_ne _ _ hne] at e
    by_cases hut:u=k
    · subst hut; rw [sput_same] at e; cases e
    · rw [sput_ne S _ hut] at e; exact ⟨hut,e⟩
  refine ⟨h.ok,h.below,fun u d e=>?_,fun u d e q hq=>?_,fun u v d e hne hu hv q hq hq'=>?_⟩
  · by_cases hu:u=k'
    · subst hu; rw [sput_same] at e; obtain rfl := Option.some.inj e; exact hc
    · exact h.holds u d (sub u d hu e).2
  · by_cases hu:u=k'
    · subst hu; rw [sput_same] at e; obtain rfl := Option.some.inj e; exact h.own k c hS q (hk q hq)
    · exact h.own u d (sub u d hu e).2 q hq
  · by_cases huk:u=k'
    · subst huk
      rw [sput_same] at hu
      obtain rfl := Option.some.inj hu
      obtain ⟨h1,h2⟩ := sub v e (Ne.symm hne) hv
      exact h.apart k v c e (Ne.symm h1) hS h2 q (hk q hq) hq'
    · obtain ⟨h1,h2⟩ := sub u d huk hu
      by_cases hvk:v=k'
      · subst hvk
        rw [sput_same] at hv
        obtain rfl := Option.some.inj hv
        exact h.apart u k d c h1 h2 hS q hq (hk q hq')
      · obtain ⟨h3,h4⟩ := sub v e hvk hv
        exact h.apart u v d e hne h2 h4 q hq hq'
section
variable {P:Program} {Q:Exit→Act→World→Prop} {n:Nat} {ops:Array Oper} {lo:List Oper} {f:Fr} {w0:Bs} {S:Sto} {α:Type} {T:Ec α} {A:Option Addr} {c:Nat} {l:List α} {y:Code}
theorem St.rod {w:World} (h:St w0 S w) {k:Nat} (hk:S k=some (Ck.ro T A c l)):Rd w A (em T l) := (h.holds k _ hk).1
theorem St.rocap {w:World} (h:St w0 S w) {k:Nat} (hk:S k=some (Ck.ro T A c l)):l.length≤c := (h.holds k _ hk).2.1
theorem St.roror {w:World} (h:St w0 S w) {k:Nat} (hk:S k=some (Ck.ro T A c l)) {cl ro:List Ck} (hm:Ck.ro T A c l ∈ ro):Ro (lent w0 w cl ro) A (em T l) := (h.rod hk).ror hm Ck.ro_key
theorem St.toro {w:World} (h:St w0 S w) {k:Nat} (hk:S k=some (Ck.sl T A c l)) (k':Nat):St w0 (sput (sput S k none) k' (some (Ck.ro T A c l))) w :=
  h.weaken (c' := Ck.ro T A c l) hk ⟨h.rd hk,h.cap hk,fun ad e=>(Ck.sl T A c l).bound w (h.holds k _ hk) _ (Ck.sl_key ad e)⟩ (fun q hq=>by
    cases A with
    | none=>simp [Ck.ro] at hq
    | some ad =>
      have:q=ad.block := by simpa [Ck.ro] using hq
      subst this
      exact Ck.sl_key ad rfl) k'
theorem St.tors {w:World} (h:St w0 S w) {k g:Nat} (hk:S k=some (Ck.rs g (em T l))) (hc:l.length≤c) (k':Nat):St w0 (sput (sput S k none) k' (some (Ck.ro T (some ⟨g,0,none⟩) c l))) w :=
  h.weaken (c' := Ck.ro T (some ⟨g,0,none⟩) c l) hk ⟨h.rs hk,hc,fun ad e=>by injection e with e; subst e; exact (Ck.rs g (em T l)).bound w (h.holds k _ hk) g (by simp [Ck.rs])⟩ (fun q hq=>by
    have:q=g := by simpa [Ck.ro] using hq
    subst this
    simp [Ck.rs]) k'
theorem St.nilro {w:World} (h:St w0 S w) (k:Nat) (T:Ec α):St w0 (sput S k (some (Ck.ro T none 0 []))) w :=
  h.new (Below.refl _ _) k (c:=Ck.ro T none 0 []) ⟨Rd.nil _ _,Nat.le_refl _,fun _ e=>by cases e⟩ (fun q hq=>by simp [Ck.ro] at hq)
theorem cs_toro (k k':Nat) (hS:S k=some (Ck.sl T A c l)) (h:Cs P Q n y f w0 (sput (sput S k none) k' (some (Ck.ro T A c l)))):Cs P Q n y f w0 S := fun a w ha hs=>h a w ha (hs.toro hS k')
theorem qn_toro (k k':Nat) (hS:S k=some (Ck.sl T A c l)) (h:Qn Q n f w0 (sput (sput S k none) k' (some (Ck.ro T A c l)))):Qn Q n f w0 S := fun a w ha hs=>h a w ha (hs.toro hS k')
theorem qr_tors (T:Ec α) (l:List α) (c:Nat) (k k':Nat) {g:Nat} (hS:S k=some (Ck.rs g (em T l))) (hc:l.length≤c) (h:Qr Q n f w0 (sput (sput S k none) k' (some (Ck.ro T (some ⟨g,0,none⟩) c l)))):Qr Q n f w0 S := fun a w ha hs=>h a w ha (hs.tors hS hc k')
theorem qr_nilro (k:Nat) (T:Ec α) (h:Qr Q n f w0 (sput S k (some (Ck.ro T none 0 [])))):Qr Q n f w0 S := fun a w ha hs=>h a w ha (hs.nilro k T)
theorem st_freezero (k:Nat) (hS:S k=some (Ck.ro T A c l)) {w:World} (hs:St w0 S w):∃ b',w0.le b'∧Ro b' A (em T l)∧St b' (sput S k none) w := by
  obtain ⟨b',h1,h2,h3,h4⟩ := hs.freeze hS
  exact ⟨b',h1,hs.fz_ro (k:=k) h1 h2 h3 (hs.rod hS) Ck.ro_key,h4⟩
theorem ls_freezero (k:Nat) (hS:S k=some (Ck.ro T A c l)) (h:∀ b',w0.le b'→(∀ q,w0.fz q→q<w0.w.heap.size∧¬ w0.ks q)→Ro b' A (em T l)→l.length≤c→Ls P Q n ops lo f b' (sput S k none)):Ls P Q n ops lo f w0 S := fun a w ha hs=>by
  obtain ⟨b',h1,h2,h3⟩ := st_freezero k hS hs
  exact h b' h1 hs.ok h2 (hs.rocap hS) a w ha h3
end
def QEfb (p:Pv) (E:Bs→(Nat→Value)→Sto→Prop) (es:Nat→Value) (i:Nat) (keep:Nat→Bool) (S0:Sto) (n:Nat) (f:Fr) (d:Option Nat) (w0:Bs):Exit→Act→World→Prop := fun e a' w'=>e=.normal∧∃ v S' B',w0.le B'∧E B' (upv es i v) S'∧p.ok (upv es i v) v∧(∀ u,keep u=true→S' u=S0 u)∧At n (updo f d v) a'∧St B' S' w'
structure ChOkb (P:Program) (n:Nat) (ops:Array Oper) (tab:List (List Nat)) (f:Fr) (w0:Bs) (S:Sto) (keep ef:Nat→Bool) (pv:Nat→Pv) (E:Nat→Bs→(Nat→Value)→Sto→Prop) (nx:Nat→Nat) (on:Nat→Bool) (i:Nat):Prop where
  ok:∀ o,ops[i]?=some o→∀ (B:Bs) (es vs:Nat→Value) (f':Fr) (S':Sto),w0.le B →
    (∀ j,(tab.getD i []).contains j=true→ef j=true→vs j=es j)→(∀ j,(tab.getD i []).contains j=true→(pv j).ok es (vs j)) →
    (∀ j d,(tab.getD i []).contains j=true→dstAt ops j=some d→f' d=vs j)→(∀ t,lateOk ops tab i t=true→f' t=f t)→(∀ u,keep u=true→S' u=S u)→(ef i=true→E i B es S') →
    (∀ a,At n f' a→Region.wanted o (yielded ops a.tmps)=on i) ∧
    (ef i=false→on i=true→Ls P (QPv (pv i) es n f' o.dst B S') n ops [{ o with guard := none }] f' B S')∧(ef i=false→on i=false→(pv i).ok es undef) ∧
    (ef i=true→on i=true→Ls P (QEfb (pv i) (E (nx i)) es i keep S n f' o.dst B) n ops [{ o with guard := none }] f' B S')∧(ef i=true→on i=false→E (nx i) B (upv es i undef) S'∧(pv i).ok (upv es i undef) undef)
section
variable {P:Program} {Q:Exit→Act→World→Prop} {n:Nat} {ops:Array Oper} {tab:List (List Nat)} {f:Fr} {w0:Bs} {S:Sto} {keep ef:Nat→Bool} {pv:Nat→Pv} {E:Nat→Bs→(Nat→Value)→Sto→Prop} {nx:Nat→Nat} {on:Nat→Bool} {c0:Nat}
def InvCb (ops:Array Oper) (n:Nat) (tab:List (List Nat)) (f:Fr) (w0:Bs) (S:Sto) (keep ef:Nat→Bool) (pv:Nat→Pv) (E:Nat→Bs→(Nat→Value)→Sto→Prop) (p:Nat) (b:Nat→Bool) (a:Act) (w:World):Prop :=
  (∀ j,b j=true→j<ops.size∧∀ m,(tab.getD j []).contains m=true→b m=true) ∧
  ∃ (B:Bs) (c:Nat) (es vs:Nat→Value) (f':Fr) (S':Sto),w0.le B∧(∀ j,j<p→ef j=true→(b j=true ↔ j<c))∧(c≤p∧(c<p→ef c=true))∧(∀ j,b j=true→ef j=true→vs j=es j)∧(∀ j,b j=true→(pv j).ok es (vs j)) ∧
    E c B es S'∧(∀ u,keep u=true→S' u=S u)∧(∀ j d,b j=true→dstAt ops j=some d→f' d=vs j)∧(∀ t,(∀ j,b j=true→dstAt ops j≠some t)→f' t=f t)∧At n f' a∧St B S' w
theorem chain_anyb (p:Nat) (ht:tabOk ops tab=true) (hd:dstsOk ops=true) (hdn:∀ j d,dstAt ops j=some d→Nat.blt d n=true) (hch:chainOk tab p ef pv nx c0=true) (h:∀ i,i<p→ChOkb P n ops tab f w0 S keep ef pv E nx on i)
    (hp:p≤ops.size) (hfull:∀ i,p≤i→i<ops.size→∀ j,j<i→(tab.getD i []).contains j=true)
    (hend:∀ b a w,(∀ j,b j=true→j<p)→(∀ j,j<p→b j=true)→InvCb ops n tab f w0 S keep ef pv E p b a w→wpList P ops Q (ops.toList.drop p) a w) :
    ∀ (m:Nat) (b:Nat→Bool) (a:Act) (w:World),(∀ j,b j=true→j<p)→((List.range p).filter fun j=>!b j).length=m→InvCb ops n tab f w0 S keep ef pv E p b a w→wpAny P .any ops Q (m+(ops.size - p)) (lof ops.size b) a w := by
  have mem_ready := @ready_mem ops
  simp only [chainOk,Bool.and_eq_true] at hch
  obtain ⟨⟨⟨⟨⟨hc1,hc2⟩,hc3⟩,_⟩,_⟩,_⟩ := hch
  have hc1:∀ i j,i<p→j<p→ef i=true→ef j=true→j<i→(tab.getD i []).contains j=true := fun i j hi hj he1 he2 hlt=>by
    have h1 := List.all_eq_true.1 (List.all_eq_true.1 hc1 i (List.mem_range.2 hi)) j (List.mem_range.2 hj)
    have h2:Nat.blt j i=true := by simp [Nat.blt]; omega
    rw [he1,he2,h2] at h1
    simpa using h1
  have hc2:∀ i e,i<p→pv i=.eff e→(ef i=true∧e=i) ∨ (ef e=true∧(tab.getD i []).contains e=true) := fun i e hi hpe=>by
    have h1 := List.all_eq_true.1 hc2 i (List.mem_range.2 hi)
    simp only [hpe,Bool.or_eq_true,Bool.and_eq_true] at h1
    rcases h1 with ⟨h1,h2⟩ | h1
    · exact .inl ⟨h1,Nat.eq_of_beq_eq_true h2⟩
    · exact .inr h1
  have hc3:∀ i,i<p→ef i=true→nx i≤p∧(nx i<p→ef (nx i)=true)∧∀ j,j<p→ef j=true→(j<nx i ↔ j≤i) := fun i hi he=>by
    have h1 := List.all_eq_true.1 hc3 i (List.mem_range.2 hi)
    simp only [he,Bool.not_true,Bool.false_or,Bool.and_eq_true] at h1
    obtain ⟨⟨h1,h2⟩,h3⟩ := h1
    refine ⟨Nat.le_of_ble_eq_true h1,fun hlt=>?_,fun j hj hej=>?_⟩
    · rw [Bool.or_eq_true] at h2
      rcases h2 with h2 | h2
      · have := Nat.le_of_ble_eq_true h2; omega
      · exact h2
    · have h4 := List.all_eq_true.1 h3 j (List.mem_range.2 hj)
      rw [hej] at h4
      simp only [Bool.not_true,Bool.false_or,beq_iff_eq] at h4
      constructor
      · intro hlt
        have h5:Nat.blt j (nx i)=true := by simp [Nat.blt]; omega
        rw [h5] at h4
        exact Nat.le_of_ble_eq_true h4.symm
      · intro hle
        have h5:Nat.ble j i=true := Nat.ble_eq_true_of_le hle
        rw [h5] at h4
        simp [Nat.blt] at h4
        omega
  intro m
  induction m with
  | zero =>
    intro b a w hbp hm hI
    have hall:∀ j,j<p→b j=true := fun j hj=>by
      have h1 := List.eq_nil_of_length_eq_zero hm
      cases hb:b j with
      | true=>rfl
      | false =>
        have:j ∈ (List.range p).filter fun j=>!b j := List.mem_filter.2 ⟨List.mem_range.2 hj,by rw [hb]; rfl⟩
        rw [h1] at this
        cases this
    have e:b=fun j=>Nat.blt j p := by
      funext j
      rw [Bool.eq_iff_iff]
      exact ⟨fun h=>by have := hbp j h; simp [Nat.blt]; omega,fun h=>hall j (by simp [Nat.blt] at h; omega)⟩
    have h1 := hend b a w hbp hall hI
    rw [e,Nat.zero_add]
    exact tail_any ht p hfull (ops.size - p) p a w (by omega) (Nat.le_refl _) h1
  | succ m ih =>
    intro b a w hbp hm hI
    rw [show m+1+(ops.size - p)=(m+(ops.size - p))+1 from by omega]
    have hex:∃ i,i ∈ Region.ready .any ops (lof ops.size b) := by
      have hne:∃ i,i<ops.size∧b i=false := by
        rcases hl:(List.range p).filter fun j=>!b j with _ | ⟨x,r⟩
        · rw [hl] at hm; cases hm
        · have hx:x ∈ (List.range p).filter fun j=>!b j := by rw [hl]; simp
          rw [List.mem_filter,List.mem_range] at hx
          exact ⟨x,by omega,by simpa using hx.2⟩
      have key:∀ q i,i≤q→i<ops.size→b i=false→∃ i,i ∈ Region.ready .any ops (lof ops.size b) := by
        intro q
        induction q with
        | zero =>
          intro i hq h1 h2
          have hi0:i=0 := by omega
          subst hi0
          obtain ⟨o,ho⟩:∃ o,ops[0]?=some o := ⟨_,Array.getElem?_eq_getElem h1⟩
          exact ⟨0,mem_ready.2 ⟨h1,h2,o,ho,fun e he=>by have := (tab_row ht ho).1 e he; omega⟩⟩
        | succ q ihq =>
          intro i hq h1 h2
          obtain ⟨o,ho⟩:∃ o,ops[i]?=some o := ⟨_,Array.getElem?_eq_getElem h1⟩
          by_cases hall:∀ e ∈ dirOf o,b e=true
          · exact ⟨i,mem_ready.2 ⟨h1,h2,o,ho,fun e he=>⟨by have := (tab_row ht ho).1 e he; omega,hall e he⟩⟩⟩
          · obtain ⟨e,he⟩:∃ e,e ∈ dirOf o∧b e=false := by
              apply Classical.byContradiction
              intro hno
              exact hall (fun e he=>by
                cases hb:b e with
                | true=>rfl
                | false=>exact (hno ⟨e,he,hb⟩).elim)
            have hlt := (tab_row ht ho).1 e he.1
            exact ihq e (by omega) (by omega) he.2
      obtain ⟨i,h1,h2⟩ := hne
      exact key i i (Nat.le_refl _) h1 h2
    refine ⟨fun he=>(by obtain ⟨i,hi⟩ := hex; rw [he] at hi; cases hi),fun i hi=>?_⟩
    obtain ⟨h1,h2,o,ho,h3⟩ := mem_ready.1 hi
    obtain ⟨hcl,B,c,es,vs,f',S',hle,hcc,hcp,hve,hvp,hE,hK,hf,hx,ha,hs⟩ := hI
    obtain ⟨r1,r2,r3⟩ := tab_row ht ho
    have hpre:∀ j,(tab.getD i []).contains j=true→b j=true := fun j hj=>by
      rcases r2 j hj with hj | ⟨e,he,hj⟩
      · exact (h3 j hj).2
      · exact (hcl e (h3 e he).2).2 j hj
    have hnot:∀ j,b j=true→(tab.getD j []).contains i=true→False := fun j hj hc=>by
      have := (hcl j hj).2 i hc
      rw [h2] at this
      cases this
    have hip:i<p := by
      by_cases e:i<p
      · exact e
      · exfalso
        have h5:∃ j,j<p∧b j=false := by
          rcases hl:(List.range p).filter fun j=>!b j with _ | ⟨x,r⟩
          · rw [hl] at hm; cases hm
          · have hx:x ∈ (List.range p).filter fun j=>!b j := by rw [hl]; simp
            rw [List.mem_filter,List.mem_range] at hx
            exact ⟨x,hx.1,by simpa using hx.2⟩
        obtain ⟨j,hj,hbj⟩ := h5
        have h6 := hpre j (hfull i (by omega) h1 j (by omega))
        rw [hbj] at h6
        cases h6
    have hci:ef i=true→c=i := fun he=>by
      apply Nat.le_antisymm
      · apply Nat.le_of_not_lt
        intro hlt
        have := (hcc i hip he).2 hlt
        rw [h2] at this
        cases this
      · apply Nat.le_of_not_lt
        intro hlt
        have hcpl:c<p := by omega
        have := hpre c (hc1 i c hip hcpl he (hcp.2 hcpl) hlt)
        have := (hcc c hcpl (hcp.2 hcpl)).1 this
        omega
    have hok := (h i hip).ok o ho B es vs f' S' hle (fun j hj=>hve j (hpre j hj)) (fun j hj=>hvp j (hpre j hj)) (fun j d hj hjd=>hf j d (hpre j hj) hjd)
      (fun t hlt=>hx t (fun j hj hjd=>by
        have h4 := List.all_eq_true.1 hlt j (List.mem_range.2 (hcl j hj).1)
        rw [hjd] at h4
        simp only [Bool.or_eq_true,Bool.not_eq_true'] at h4
        rcases h4 with (h4 | h4) | h4
        · simp at h4
        · have := Nat.eq_of_beq_eq_true h4
          subst this
          rw [h2] at hj
          cases hj
        · exact hnot j hj h4))
      hK (fun he=>by have := hci he; subst this; exact hE)
    have hwant := hok.1 a ha
    -- what stands behind the step,whatever it was
    have frame:∀ v a' ,At n (updo f' o.dst v) a'→(∀ j d,up b i j=true→dstAt ops j=some d→updo f' o.dst v d=upv vs i v j)∧(∀ t,(∀ j,up b i j=true→dstAt ops j≠some t)→updo f' o.dst v t=f t) := fun v a' ha'=>by
      have hodst:dstAt ops i=o.dst := by simp [dstAt,ho]
      refine ⟨fun j d hj hjd=>?_,fun t hnt=>?_⟩
      · by_cases e:j=i
        · subst e
          rw [hodst] at hjd
          rw [hjd,upv_self]
          simp [updo,upd_same]
        · rw [up_ne e] at hj
          rw [upv_ne _ _ e]
          cases hod:o.dst with
          | none=>exact hf j d hj hjd
          | some q =>
            have hqd:d≠q := fun e2=>by
              subst e2
              have h6 := List.all_eq_true.1 hd j (List.mem_range.2 (hcl j hj).1)
              have h7 := List.all_eq_true.1 h6 i (List.mem_range.2 h1)
              rw [hjd,hodst,hod] at h7
              simp [beq_false e] at h7
            show upd f' q v d=_
            rw [upd_ne f' v hqd]
            exact hf j d hj hjd
      · have hft:f' t=f t := hx t (fun j hj=>hnt j (by
          by_cases e:j=i
          · subst e; rw [h2] at hj; cases hj
          · rw [up_ne e]; exact hj))
        cases hod:o.dst with
        | none=>exact hft
        | some q =>
          have hqt:t≠q := fun e=>by
            subst e
            exact hnt i (up_self b i) (by rw [hodst,hod])
          show upd f' q v t=_
          rw [upd_ne f' v hqt]
          exact hft
    have closed:∀ j,up b i j=true→j<ops.size∧∀ m,(tab.getD j []).contains m=true→up b i m=true := fun j hj=>by
      rcases up_true hj with rfl | hj
      · refine ⟨h1,fun m hm=>?_⟩
        by_cases e:m=j
        · subst e; exact up_self b _
        · rw [up_ne e]; exact hpre m hm
      · refine ⟨(hcl j hj).1,fun m hm=>?_⟩
        by_cases e:m=i
        · subst e; exact up_self b _
        · rw [up_ne e]; exact (hcl j hj).2 m hm
    have cnt:((List.range p).filter fun j=>!up b i j).length=m := by
      have := up_count (b:=b) (i:=i) (List.nodup_range (n:=p)) (List.mem_range.2 hip) h2
      omega
    have nextP:ef i=false→∀ v a' w',(pv i).ok es v→At n (updo f' o.dst v) a'→St B S' w'→wpAny P .any ops Q (m+(ops.size - p)) ((lof ops.size b).setIfInBounds i true) a' w' := fun hef v a' w' hv ha' hs'=>by
      rw [lof_up h1]
      obtain ⟨f1,f2⟩ := frame v a' ha'
      refine ih (up b i) a' w' (fun j hj=>(up_true hj).elim (fun e=>e ▸ hip) (hbp j)) cnt ⟨closed,B,c,es,upv vs i v,updo f' o.dst v,S',hle,fun j hj hej=>?_,hcp,fun j hj hej=>?_,fun j hj=>?_,hE,hK,f1,f2,ha',hs'⟩
      · have hji:j≠i := fun e=>by subst e; rw [hef] at hej; cases hej
        rw [up_ne hji]
        exact hcc j hj hej
      · have hji:j≠i := fun e=>by subst e; rw [hef] at hej; cases hej
        rw [up_ne hji] at hj
        rw [upv_ne _ _ hji]
        exact hve j hj hej
      · by_cases e:j=i
        · subst e; rw [upv_self]; exact hv
        · rw [up_ne e] at hj
          rw [upv_ne _ _ e]
          exact hvp j hj
    have nextE:ef i=true→∀ v S'' B' a' w',B.le B'→E (nx i) B' (upv es i v) S''→(pv i).ok (upv es i v) v→(∀ u,keep u=true→S'' u=S u)→At n (updo f' o.dst v) a'→St B' S'' w'→wpAny P .any ops Q (m+(ops.size - p)) ((lof ops.size b).setIfInBounds i true) a' w' := fun hef v S'' B' a' w' hB' hv hpo hK' ha' hs'=>by
      rw [lof_up h1]
      obtain ⟨f1,f2⟩ := frame v a' ha'
      have hc := hci hef
      subst hc
      obtain ⟨n1,n2,n3⟩ := hc3 c hip hef
      refine ih (up b c) a' w' (fun j hj=>(up_true hj).elim (fun e=>e ▸ hip) (hbp j)) cnt ⟨closed,B',nx c,upv es c v,upv vs c v,updo f' o.dst v,S'',hle.trans hB',fun j hj hej=>?_,⟨n1,n2⟩,fun j hj hej=>?_,fun j hj=>?_,hv,hK',f1,f2,ha',hs'⟩
      · rw [n3 j hj hej]
        by_cases e:j=c
        · subst e; simp [up_self]
        · rw [up_ne e,hcc j hj hej]
          omega
      · by_cases e:j=c
        · subst e; rw [upv_self,upv_self]
        · rw [up_ne e] at hj
          rw [upv_ne _ _ e,upv_ne _ _ e]
          exact hve j hj hej
      · by_cases hjc:j=c
        · subst hjc; rw [upv_self]; exact hpo
        · rw [up_ne hjc] at hj
          rw [upv_ne _ _ hjc]
          have h9 := hvp j hj
          cases hpv:pv j with
          | val u=>rw [hpv] at h9; exact h9
          | eff e =>
            rw [hpv] at h9
            have hjp := hbp j hj
            have hec:e≠c := by
              rcases hc2 j e hjp hpv with ⟨_,h10⟩ | ⟨_,he2⟩
              · rw [h10]; exact hjc
              · have hbe := (hcl j hj).2 e he2
                intro e3
                subst e3
                rw [h2] at hbe
                cases hbe
            show vs j=upv es c v e
            rw [upv_ne _ _ hec]
            exact h9
    unfold wpOp
    rw [ho]
    simp only
    rw [hwant]
    have hput:∀ (d:Option Nat),o.dst=d→At n (updo f' d undef) (a.put d undef) := fun d hod=>by
      cases d with
      | none=>exact ha
      | some q=>exact ha.put (hdn i q (by simp [dstAt,ho,hod])) undef
    cases hon:on i with
    | true =>
      rw [if_pos rfl]
      left
      cases hef:ef i with
      | false =>
        have h4 := hok.2.1 hef hon a w ha hs
        unfold wpList at h4
        rw [if_pos (by simp [Region.wanted])] at h4
        have h5:o.wp P a w (wpList P ops (QPv (pv i) es n f' o.dst B S') []) (QPv (pv i) es n f' o.dst B S') := by
          rcases h4 with h4 | ⟨_,a1,w1,h4,_⟩
          · exact h4
          · cases h4
        exact wp_mono2 (fun a' w' hq=>by obtain ⟨_,v,hv,ha',hs'⟩ := hq; exact nextP hef v a' w' hv ha' hs') (fun e a' w' hne hq=>absurd hq.1 hne) h5
      | true =>
        have h4 := hok.2.2.2.1 hef hon a w ha hs
        unfold wpList at h4
        rw [if_pos (by simp [Region.wanted])] at h4
        have h5:o.wp P a w (wpList P ops (QEfb (pv i) (E (nx i)) es i keep S n f' o.dst B) []) (QEfb (pv i) (E (nx i)) es i keep S n f' o.dst B) := by
          rcases h4 with h4 | ⟨_,a1,w1,h4,_⟩
          · exact h4
          · cases h4
        exact wp_mono2 (fun a' w' hq=>by obtain ⟨_,v,S'',B',hB',hv,hpo,hK',ha',hs'⟩ := hq; exact nextE hef v S'' B' a' w' hB' hv hpo hK' ha' hs') (fun e a' w' hne hq=>absurd hq.1 hne) h5
    | false =>
      rw [if_neg (by simp)]
      cases hef:ef i with
      | false=>exact nextP hef undef _ _ (hok.2.2.1 hef hon) (hput o.dst rfl) hs
      | true=>exact nextE hef undef S' B _ _ (Bs.le.refl B) (hok.2.2.2.2 hef hon).1 (hok.2.2.2.2 hef hon).2 hK (hput o.dst rfl) hs
end
section
variable {P:Program} {Q:Exit→Act→World→Prop} {n:Nat} {ops:Array Oper} {l:List Oper} {f f' F:Fr} {w0:Bs} {S S0:Sto} {keep:Nat→Bool}
theorem cs_chainb {id:Nat} (tab:List (List Nat)) (p:Nat) (keep ef:Nat→Bool) (pv:Nat→Pv) (E:Nat→Bs→(Nat→Value)→Sto→Prop) (nx:Nat→Nat) (on:Nat→Bool) (c0:Nat) (hm:P.follows .mixedOrders=true) (ht:tabOk l.toArray tab=true) (hd:dstsOk l.toArray=true) (hdn:(List.range l.toArray.size).all (fun j=>match dstAt l.toArray j with
    | some d=>Nat.blt d n
    | none=>true)=true)
    (hch:chainOk tab p ef pv nx c0=true) {rs:List Oper} (hrs:l.drop p=rs) (hp:Nat.ble p l.toArray.size=true) (hfull:(List.range l.toArray.size).all (fun i=>Nat.blt i p || (List.range i).all fun j=>(tab.getD i []).contains j)=true)
    (h0:∀ es,E c0 w0 es S) (h:∀ i,i<p→ChOkb P n l.toArray tab f w0 S keep ef pv E nx on i)
    (hend:∀ (B:Bs) (es vs:Nat→Value) (f':Fr) (S':Sto),w0.le B→(∀ j,Nat.blt j p=true→ef j=true→vs j=es j)→(∀ j,Nat.blt j p=true→(pv j).ok es (vs j))→(∀ j d,Nat.blt j p=true→dstAt l.toArray j=some d→f' d=vs j)→(∀ t,notIn p l.toArray t=true→f' t=f t) →
      (∀ u,keep u=true→S' u=S u)→E p B es S'→Ls P Q n l.toArray rs f' B S'):Cs P Q n (.region id l.toArray true) f w0 S := fun a w ha hs=>by
  have hdn':∀ j d,dstAt l.toArray j=some d→Nat.blt d n=true := fun j d hj=>by
    have hlt:j<l.toArray.size := by
      unfold dstAt at hj
      cases ho:l.toArray[j]? with
      | none=>rw [ho] at hj; cases hj
      | some o=>exact (Array.getElem?_eq_some_iff.1 ho).1
    have := List.all_eq_true.1 hdn j (List.mem_range.2 hlt)
    rw [hj] at this
    exact this
  have hpl:p≤l.toArray.size := by simpa [Nat.ble_eq] using hp
  have hc0:c0≤p∧(c0<p→ef c0=true)∧∀ j,j<p→ef j=true→¬ j<c0 := by
    simp only [chainOk,Bool.and_eq_true] at hch
    obtain ⟨⟨⟨⟨⟨_,_⟩,_⟩,h4⟩,h5⟩,h6⟩ := hch
    refine ⟨Nat.le_of_ble_eq_true h4,fun hlt=>?_,fun j hj hej hlt=>?_⟩
    · rw [Bool.or_eq_true] at h5
      rcases h5 with h5 | h5
      · have := Nat.le_of_ble_eq_true h5; omega
      · exact h5
    · have h7 := List.all_eq_true.1 h6 j (List.mem_range.2 hj)
      rw [hej] at h7
      have := Nat.le_of_ble_eq_true (by simpa using h7:Nat.ble c0 j=true)
      omega
  refine wp_region_any hm ?_
  have hs1:St w0 S { w with drawn := w.drawn+1 } := hs.step ⟨rfl,rfl,rfl,Nat.le_refl _,fun _ _=>rfl⟩
  have h9 := chain_anyb (P:=P) (Q:=Q) p ht hd hdn' hch h hpl (fun i h1 h2 j h3=>?_) (fun b a w hbp hall hI=>?_) p (fun _=>false) a { w with drawn := w.drawn+1 } (fun j hj=>(by cases hj)) (by rw [List.filter_eq_self.2 (by intro _ _; simp)]; simp) ⟨fun j hj=>(by cases hj),w0,c0,fun _=>undef,fun _=>undef,f,S,Bs.le.refl w0,fun j hj hej=>⟨fun e=>(by cases e),fun e=>absurd e (hc0.2.2 j hj hej)⟩,⟨hc0.1,hc0.2.1⟩,fun j hj=>(by cases hj),fun j hj=>(by cases hj),h0 _,fun _ _=>rfl,fun j d hj=>(by cases hj),fun t _=>rfl,ha,hs1⟩
  · have e:lof l.toArray.size (fun _=>false)=Array.replicate l.toArray.size false := by
      apply Array.ext'
      apply List.ext_getElem
      · simp [lof]
      · intro i h1 h2
        simp [lof]
    rw [e,show p+(l.toArray.size - p)=l.toArray.size from by omega] at h9
    exact h9
  · have h4 := List.all_eq_true.1 hfull i (List.mem_range.2 h2)
    rw [Bool.or_eq_true] at h4
    rcases h4 with h4 | h4
    · simp [Nat.blt] at h4
      omega
    · exact List.all_eq_true.1 h4 j (List.mem_range.2 h3)
  · obtain ⟨hcl,B,c,es,vs,f',S',hle,hcc,hcp,hve,hvp,hE,hK,hf,hx,ha',hs'⟩ := hI
    have hb:∀ j,Nat.blt j p=true→b j=true := fun j hj=>hall j (by simp [Nat.blt] at hj; omega)
    have hcp':c=p := by
      apply Nat.le_antisymm hcp.1
      apply Nat.le_of_not_lt
      intro hlt
      have := (hcc c hlt (hcp.2 hlt)).1 (hall c hlt)
      omega
    subst hcp'
    show wpList P l.toArray Q (l.drop c) a w
    rw [hrs]
    refine hend B es vs f' S' hle (fun j hj=>hve j (hb j hj)) (fun j hj=>hvp j (hb j hj)) (fun j d hj hjd=>hf j d (hb j hj) hjd) (fun t hnt=>hx t (fun j hj hjd=>?_)) hK hE a w ha' hs'
    have h4 := List.all_eq_true.1 hnt j (List.mem_range.2 (hbp j hj))
    rw [hjd] at h4
    simp at h4
def Eslb (L:List (Bs→(Nat→Value)→Sto→Prop)) (ix:List Nat):Nat→Bs→(Nat→Value)→Sto→Prop := fun c=>L.getD (ix.getD c 0) (fun _ _ _=>False)
theorem ls_fineb {p:Pv} {E:Bs→(Nat→Value)→Sto→Prop} {es:Nat→Value} {i:Nat} {d:Option Nat} {B:Bs} (S':Sto) (v:Value) (hle:B.le w0) (hF:F=updo f' d v) (hE:E w0 (upv es i v) S') (hp:p.ok (upv es i v) v) (hK:∀ u,keep u=true→S' u=S0 u) (hS:Sub S' S):Ls P (QEfb p E es i keep S0 n f' d B) n ops [] F w0 S := fun a w' ha hs=>⟨rfl,v,S',w0,hle,hE,hp,hK,hF ▸ ha,hs.sub hS⟩
end
theorem cs_okk {P:Program} {Q:Exit→Act→World→Prop} {n:Nat} {f:Fr} {w0:Bs} {S:Sto} {y:Code} (h:(∀ q,w0.fz q→q<w0.w.heap.size∧¬ w0.ks q)→Cs P Q n y f w0 S):Cs P Q n y f w0 S := fun a w ha hs=>h hs.ok a w ha hs
end Go.Proofs.Ythhhkphbhlafbaa.Sx
