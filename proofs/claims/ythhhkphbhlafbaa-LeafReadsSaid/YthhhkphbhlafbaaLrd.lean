/- What reading a leaf computes, in the program; no condition. -/
import Derived.Test.YthhhkphbhlafbaaLfv
set_option linter.unusedVariables false
set_option linter.unusedSimpArgs false
namespace Go.Proofs.Ythhhkphbhlafbaa.Lrd
open Go Go.RowKit Go.Proofs.Ythhhkphbhlafbaa.Sx Go.Proofs.Ythhhkphbhlafbaa.G Go.Proofs.Ythhhkphbhlafbaa.Bt Go.Proofs.Ythhhkphbhlafbaa.Rcd Go.Proofs.Ythhhkphbhlafbaa.Stx Go.Proofs.Ythhhkphbhlafbaa.Lfd Go.Proofs.Ythhhkphbhlafbaa.Lfv
open Go.Proofs.Ythhhkphbhlafbaa.Ptr (Pt zp rightB putL Right_val Put_val readL Read_val)
open Go.Proofs.Ythhhkphbhlafbaa.Ptp (WfP readL_wf readL_back putL_len readL_len putL_bytes)
structure Wf (a:Lf):Prop where
  k:∀ x ∈ a.2.1,Bytes x
  v:∀ x ∈ a.2.2.1,Bytes x
  p:∀ x ∈ a.2.2.2,WfP x
theorem gk_mem {l:List (List Int)} {i:Nat} (hi:i<l.length):gk l i ∈ l := by
  rw [gk,List.getD_eq_getElem?_getD,List.getElem?_eq_getElem hi]
  exact List.getElem_mem hi
theorem gp_mem {l:List Pt} {i:Nat} (hi:i<l.length):gp l i ∈ l := by
  rw [gp,List.getD_eq_getElem?_getD,List.getElem?_eq_getElem hi]
  exact List.getElem_mem hi
theorem Wf.gk {a:Lf} (h:Wf a) (i:Nat):Bytes (gk a.2.1 i) := by
  by_cases hi:i<a.2.1.length
  · exact h.k _ (gk_mem hi)
  · rw [Lfv.gk,List.getD_eq_getElem?_getD,List.getElem?_eq_none (by omega)]
    exact Bytes.nil
theorem Wf.gv {a:Lf} (h:Wf a) (i:Nat):Bytes (Lfv.gk a.2.2.1 i) := by
  by_cases hi:i<a.2.2.1.length
  · exact h.v _ (gk_mem hi)
  · rw [Lfv.gk,List.getD_eq_getElem?_getD,List.getElem?_eq_none (by omega)]
    exact Bytes.nil
theorem Wf.kp {a:Lf} (h:Wf a) (i:Nat):Bytes (kp a.2.1 i) := by
  cases i with
  | zero=>exact Bytes.nil
  | succ i=>exact h.gk i
theorem kent_bytes {a:Lf} (hs:Sm a) {i:Nat} (hi:i<a.2.1.length):Bytes (kent a i) := by
  have h1 := hs.ks i hi
  have h2 := cpl_le (Lfv.kp a.2.1 i) (gk a.2.1 i)
  exact (sx_bytes (by omega) (by omega)).append (tx_bytes (by rw [son_size,List.length_drop]; omega))
theorem vent_bytes {a:Lf} (hs:Sm a) (h:Wf a) {i:Nat} (hi:i<a.2.1.length):Bytes (vent a i) := by
  unfold vent
  by_cases h0:a.1=0
  · rw [if_pos h0]
    have := hs.vs i (by rw [(hs.v h0).1]; exact hi)
    exact tx_bytes (by rw [son_size]; omega)
  · rw [if_neg h0]
    exact putL_bytes (h.p _ (gp_mem (by rw [(hs.p h0).1]; exact hi))).2
theorem ents_bytes {a:Lf} (hs:Sm a) (h:Wf a):∀ (j i:Nat),i+j=a.2.1.length→Bytes (ents a j i) := by
  intro j
  induction j with
  | zero=>intro i hi; exact Bytes.nil
  | succ j ih =>
    intro i hi
    exact (kent_bytes hs (by omega)).append ((vent_bytes hs h (by omega)).append (ih (i+1) (by omega)))
theorem enc_bytes {a:Lf} (hs:Sm a) (h:Wf a):Bytes (enc a) := (sx_bytes (u0 _) (u1 _)).append ((sx_bytes (by omega) (by have := hs.n; omega)).append (ents_bytes hs h _ 0 (by omega)))
theorem number_some {l:List Int} (h:Ok l) (bad:Bool) {mx:Int} (h0:0≤mx) (hx:mx≤1000000) {k:Nat} (hk:11≤k):∃ n l1 b1,leaf_reader_number.f k (l,bad) mx=some (n,(l1,b1))∧Ok l1∧0≤n∧n≤mx∧l1.length≤l.length := by
  unfold leaf_reader_number.f
  obtain ⟨n,x,e,E,p,q,r0,r1⟩ := rs_some h
  rw [show codec_ReadShort.f k (l,bad).1=some (n,x,e) from E k hk]
  simp only [Option.bind_some,lt]
  by_cases c0:e=0
  case neg=>rw [if_neg c0]; exact ⟨_,_,_,rfl,h,by omega,h0,Nat.le_refl _⟩
  rw [if_pos c0,wu64,show mx % 18446744073709551616=mx by omega]
  by_cases d0:n > mx
  case pos=>rw [if_pos d0]; exact ⟨_,_,_,rfl,h,by omega,h0,Nat.le_refl _⟩
  rw [if_neg d0,if_pos p,if_pos q,wi64 (by omega) (by omega)]
  exact ⟨_,_,_,rfl,h.drop _,r0,by omega,by rw [List.length_drop]; omega⟩
theorem text_some {l:List Int} (h:Ok l) (bad:Bool) {mx:Int} (h0:0≤mx) (hx:mx≤100000) {k:Nat} (hk:11≤k):∃ t l1 b1,leaf_reader_text.f k (l,bad) mx=some (t,(l1,b1))∧Ok l1∧Bytes t∧(t.length:Int)≤mx∧l1.length≤l.length := by
  unfold leaf_reader_text.f
  obtain ⟨s,x,e,E,p,q,r⟩ := rt_some h h0 hx
  rw [show codec_ReadText.f k (l,bad).1 mx=some (s,x,e) from E k hk]
  simp only [Option.bind_some,lt]
  by_cases c0:e=0
  case neg=>rw [if_neg c0]; exact ⟨_,_,_,rfl,h,Bytes.nil,by simpa using h0,Nat.le_refl _⟩
  rw [if_pos c0,if_pos p,if_pos q]
  exact ⟨_,_,_,rfl,h.drop _,bl_bytes s,by rw [bl_length]; exact r,by rw [List.length_drop]; omega⟩
theorem kid_some {l:List Int} (h:Ok l) (hl:l.length≤100000) (bad:Bool) {k:Nat} (hk:40≤k):∃ p l1 b1,leaf_reader_kid.f k (l,bad)=some (p,(l1,b1))∧Ok l1∧l1.length≤l.length∧WfP p := by
  unfold leaf_reader_kid.f
  rw [show pointer_Read.f k (l,bad).1=some (readL l) from Read_val h.1 hl hk]
  simp only [Option.bind_some,lt]
  have hw := readL_wf (l:=l) h.1
  by_cases c0:(readL l).2=0
  · have := readL_len c0
    rw [if_pos c0,if_pos (by omega)]
    exact ⟨_,_,_,rfl,h.drop _,by rw [List.length_drop]; omega,hw⟩
  · rw [if_neg c0]
    exact ⟨_,_,_,rfl,h,Nat.le_refl _,hw⟩
theorem lcopy_whole {n:Nat} {m:List Int} (h:m.length=n):lcopy (List.replicate n (0:Int)) 0 m=m := by
  unfold lcopy
  rw [List.take_zero,List.nil_append,List.length_replicate,Nat.sub_zero,List.take_of_length_le (by omega),List.drop_of_length_le (by simp; omega),List.append_nil]
theorem key_some {l:List Int} (h:Ok l) (bad:Bool) {last:List Int} (hb:Bytes last) (hl:last.length≤700000) {k:Nat} (hk:11≤k):∃ t l1 b1,leaf_reader_key.f k (l,bad) last=some (t,(l1,b1))∧Ok l1∧Bytes t∧t.length≤last.length+160∧l1.length≤l.length := by
  unfold leaf_reader_key.f
  obtain ⟨n,l1,b1,e1,o1,n0,n1,q1⟩ := number_some h bad (mx:=(last.length:Int)) (by omega) (by omega) hk
  rw [show leaf_reader_number.f k ((l,bad).1,(l,bad).2) (last.length:Int)=some (n,(l1,b1)) from e1]
  simp only [Option.bind_some,lt]
  obtain ⟨t,l2,b2,e2,o2,tb,tl,q2⟩ := text_some o1 b1 (mx:=160) (by omega) (by omega) hk
  rw [e2]
  simp only [Option.bind_some]
  rw [wi64 (by omega) (by omega),if_pos (by omega),if_pos (by omega),if_pos (by omega),if_pos (by omega),if_pos (by omega),lcopy_whole (by rw [List.length_take]; omega),if_pos (by rw [List.length_take]; omega)]
  exact ⟨_,_,_,rfl,o2,(hb.take _).append tb,by rw [List.length_append,List.length_take]; omega,Nat.le_trans q2 q1⟩
def zero:Lf := (0,[],[],[])
def Ans (b:List Int) (r:Lf × Int):Prop := r=(zero,11) ∨ ∃ w,r=(w,0)∧rok w=true∧enc w=b∧Wf w
theorem rok_sm {w:Lf} (h:rok w=true):shp w=true∧(enc w).length≤4096 := by
  unfold rok at h
  rw [Bool.and_eq_true,decide_eq_true_eq] at h
  exact ⟨h.1,by omega⟩
theorem jo2_some {k:Nat} (hk:20000≤k) {b:List Int} (hb:Bytes b) (l:List Int) (bad:Bool) {v:Lf} (hv:Wf v):∃ r,leaf_Read.jo2 k b (l,bad) v=some r∧Ans b r := by
  unfold leaf_Read.jo2
  cases bad
  case true=>rw [if_pos rfl]; exact ⟨_,rfl,.inl rfl⟩
  rw [if_neg (c:=(false=true)) (by decide)]
  by_cases h1:(l.length:Int)=0
  case neg=>rw [if_neg h1]; exact ⟨_,rfl,.inl rfl⟩
  rw [if_pos h1,show leaf_Right.f k (v.1,v.2.1,v.2.2.1,v.2.2.2)=some (rok v) from right_val hk]
  simp only [Option.bind_some]
  by_cases h2:rok v=true
  · have hs := (shp_sm (rok_sm h2).1).1
    rw [if_pos h2,show leaf_Node_bytes.f k (v.1,v.2.1,v.2.2.1,v.2.2.2)=some (enc v) from bytes_val hs (by omega)]
    simp only [Option.bind_some,bytes_Equal.f]
    by_cases h3:((strOfNums (enc v)).toList==(strOfNums b).toList)=true
    · rw [if_pos h3]
      exact ⟨_,rfl,.inr ⟨v,rfl,h2,son_inj (enc_bytes hs hv) hb h3,hv⟩⟩
    · rw [if_neg h3]; exact ⟨_,rfl,.inl rfl⟩
  · rw [if_neg h2]; exact ⟨_,rfl,.inl rfl⟩
theorem jo2_back {k:Nat} (hk:20000≤k) {v:Lf} (hv:rok v=true):leaf_Read.jo2 k (enc v) ([],false) v=some (v,0) := by
  have hs := (shp_sm (rok_sm hv).1).1
  unfold leaf_Read.jo2
  rw [if_neg (c:=(false=true)) (by decide),if_pos (by simp),show leaf_Right.f k (v.1,v.2.1,v.2.2.1,v.2.2.2)=some (rok v) from right_val hk]
  simp only [Option.bind_some]
  rw [if_pos hv,show leaf_Node_bytes.f k (v.1,v.2.1,v.2.2.1,v.2.2.2)=some (enc v) from bytes_val hs (by omega)]
  simp only [Option.bind_some,bytes_Equal.f]
  rw [if_pos (by simp)]
theorem mem_snoc {α:Type} {P:α→Prop} {l:List α} {x:α} (h:∀ y ∈ l,P y) (hx:P x):∀ y ∈ l++[x],P y := fun y hy=>by
  rcases List.mem_append.1 hy with hy | hy
  · exact h y hy
  · rw [List.mem_singleton.1 hy]; exact hx
theorem lo3_some {K:Nat} (hK:20000≤K) {b:List Int} (hb:Bytes b) (t:Int × (List Int × Bool)) (ht:t.1≤4096):∀ (j i k:Nat) (last l:List Int) (bad:Bool) (v:Lf),i+j=4096→j+50<k→Ok l→l.length≤100000→Bytes last→last.length≤160*i→Wf v→v.2.1.length≤i→v.2.2.1.length≤i→v.2.2.2.length≤i →
    ∃ r,leaf_Read.lo3 t (leaf_Read.jo2 K b) k last (i:Int) (l,bad) v=some r∧Ans b r := by
  intro j
  induction j with
  | zero =>
    intro i k last l bad v hi hk hl hl2 hlb hll hv v1 v2 v3
    obtain ⟨k,rfl⟩:∃ m,k=m+1 := ⟨k - 1,by omega⟩
    rw [leaf_Read.lo3,if_neg (by omega)]
    exact jo2_some hK hb l bad hv
  | succ j ih =>
    intro i k last l bad v hi hk hl hl2 hlb hll hv v1 v2 v3
    obtain ⟨k,rfl⟩:∃ m,k=m+1 := ⟨k - 1,by omega⟩
    rw [leaf_Read.lo3]
    by_cases h1:(i:Int)<t.1
    case neg=>rw [if_neg h1]; exact jo2_some hK hb l bad hv
    rw [if_pos h1]
    unfold leaf_Read.jo4
    cases bad
    case true=>rw [if_pos rfl]; exact jo2_some hK hb l true hv
    rw [if_neg (c:=(false=true)) (by decide)]
    unfold leaf_Read.jo5
    obtain ⟨q,l1,b1,e1,o1,qb,ql,hl1⟩ := key_some hl false hlb (by omega) (k:=k) (by omega)
    rw [show leaf_reader_key.f k ((l,false).1,(l,false).2) last=some (q,(l1,b1)) from e1]
    simp only [Option.bind_some]
    rw [if_pos (by simp; omega)]
    by_cases h0:v.1=0
    · rw [if_pos h0]
      obtain ⟨s,l2,b2,e2,o2,sb,sl,hl2⟩ := text_some o1 b1 (mx:=1024) (by omega) (by omega) (k:=k) (by omega)
      rw [e2]
      simp only [Option.bind_some]
      rw [if_pos (by simp; omega),wi64 (by omega) (by omega)]
      exact ih (i+1) k q l2 b2 (v.1,v.2.1++[q],v.2.2.1++[s],v.2.2.2) (by omega) (by omega) o2 (by omega) qb (by omega) ⟨mem_snoc hv.k qb,mem_snoc hv.v sb,hv.p⟩ (by simp; omega) (by simp; omega) (by show v.2.2.2.length≤_; omega)
    · rw [if_neg h0]
      obtain ⟨s,l2,b2,e2,o2,sl,sb⟩ := kid_some o1 (by omega) b1 (k:=k) (by omega)
      rw [e2]
      simp only [Option.bind_some]
      rw [if_pos (by simp; omega),wi64 (by omega) (by omega)]
      exact ih (i+1) k q l2 b2 (v.1,v.2.1++[q],v.2.2.1,v.2.2.2++[s]) (by omega) (by omega) o2 (by omega) qb (by omega) ⟨mem_snoc hv.k qb,hv.v,mem_snoc hv.p sb⟩ (by simp; omega) (by show v.2.2.1.length≤_; omega) (by simp; omega)
theorem read_some {k:Nat} (hk:20000≤k) {b:List Int} (hb:Bytes b):∃ r,leaf_Read.f k b=some r∧Ans b r := by
  unfold leaf_Read.f
  by_cases h:(b.length:Int) > 4096
  · rw [if_pos h]; exact ⟨_,rfl,.inl rfl⟩
  rw [if_neg h]
  unfold leaf_Read.jo1
  obtain ⟨n,l1,b1,e1,o1,n0,n1,hl1⟩ := number_some (l:=b) ⟨hb,by omega⟩ false (mx:=12) (by omega) (by omega) (k:=k) (by omega)
  rw [e1]
  simp only [Option.bind_some]
  obtain ⟨m,l2,b2,e2,o2,m0,m1,hl2⟩ := number_some o1 b1 (mx:=4096) (by omega) (by omega) (k:=k) (by omega)
  rw [e2]
  simp only [Option.bind_some]
  exact lo3_some hk hb (m,(l2,b2)) m1 4096 0 k [] l2 b2 (n,[],[],[]) (by omega) (by omega) o2 (by omega) Bytes.nil (by simp) ⟨fun x hx=>(by cases hx),fun x hx=>(by cases hx),fun x hx=>(by cases hx)⟩ (by simp) (by simp) (by simp)
theorem number_back {v:Int} (h0:0≤v) {mx:Int} (h1:v≤mx) (hx:mx≤1000000) {m:List Int} (hm:Bytes m) {k:Nat} (hk:11≤k):leaf_reader_number.f k (sx v++m,false) mx=some (v,(m,false)) := by
  unfold leaf_reader_number.f
  rw [show codec_ReadShort.f k (sx v++m,false).1=some (v,((sx v).length:Int),0) from rs_back h0 (by omega) hm hk]
  simp only [Option.bind_some,lt]
  rw [if_pos True.intro,wu64,show mx % 18446744073709551616=mx by omega,if_neg (by omega),if_pos (by omega),if_pos (le_app _ _),drop_app,wi64 (by omega) (by omega)]
theorem text_back {t:List Int} (ht:Bytes t) {mx:Int} (h1:(t.length:Int)≤mx) (hx:mx≤100000) {m:List Int} (hm:Bytes m) (hl:m.length≤1000000) {k:Nat} (hk:11≤k):leaf_reader_text.f k (tx (strOfNums t)++m,false) mx=some (t,(m,false)) := by
  unfold leaf_reader_text.f
  rw [show codec_ReadText.f k (tx (strOfNums t)++m,false).1 mx=some (strOfNums t,((tx (strOfNums t)).length:Int),0) from rt_back (by rw [son_size]; exact h1) hx hm hl hk]
  simp only [Option.bind_some,lt]
  rw [if_pos True.intro,if_pos (by omega),if_pos (le_app _ _),drop_app,bl_son ht]
theorem kid_back {p:Pt} (h:rightB p=true) (hw:WfP p) {m:List Int} (hm:Bytes m) (hl:m.length≤90000) {k:Nat} (hk:40≤k):leaf_reader_kid.f k (putL [] p++m,false)=some (p,(m,false)) := by
  unfold leaf_reader_kid.f
  have e := putL_len [] p
  rw [List.length_nil,Nat.zero_add] at e
  rw [show pointer_Read.f k (putL [] p++m,false).1=some (p,0) from (Read_val ((show Bytes (putL [] p) from putL_bytes hw.2).append hm) (by rw [List.length_append]; omega) hk).trans (congrArg some (readL_back h hw m))]
  simp only [Option.bind_some,lt]
  rw [if_pos True.intro,if_pos (by rw [List.length_append]; omega),show (52:Int).toNat=(putL [] p).length by rw [e]; rfl,List.drop_left]
theorem key_back {a:Lf} (hs:Sm a) (hw:Wf a) {i:Nat} (hi:i<a.2.1.length) {m:List Int} (hm:Bytes m) (hl:m.length≤1000000) {k:Nat} (hk:11≤k):leaf_reader_key.f k (kent a i++m,false) (kp a.2.1 i)=some (gk a.2.1 i,(m,false)) := by
  have h1 := hs.ks i hi
  have h3 := hs.kp (i:=i) (by omega)
  have h2 := cpl_le (kp a.2.1 i) (gk a.2.1 i)
  have h4 := cpl_take (kp a.2.1 i) (gk a.2.1 i)
  have hb:Bytes ((gk a.2.1 i).drop (cpl (kp a.2.1 i) (gk a.2.1 i))) := (hw.gk i).drop _
  unfold leaf_reader_key.f kent
  generalize hc:cpl (kp a.2.1 i) (gk a.2.1 i)=c at *
  rw [List.append_assoc]
  have hs2:(strOfNums ((gk a.2.1 i).drop c)).size≤1000000000 := by rw [son_size,List.length_drop]; omega
  rw [show leaf_reader_number.f k ((sx (c:Int)++(tx (strOfNums ((gk a.2.1 i).drop c))++m),false).1,(sx (c:Int)++(tx (strOfNums ((gk a.2.1 i).drop c))++m),false).2) ((kp a.2.1 i).length:Int)=some ((c:Int),(tx (strOfNums ((gk a.2.1 i).drop c))++m,false)) from number_back (by omega) (by omega) (by omega) ((tx_bytes hs2).append hm) hk]
  simp only [Option.bind_some,lt]
  rw [text_back hb (by rw [List.length_drop]; omega) (by omega) hm hl hk]
  simp only [Option.bind_some]
  have e:(c:Int)+(((gk a.2.1 i).drop c).length:Int)=((gk a.2.1 i).length:Int) := by rw [List.length_drop]; omega
  rw [e,wi64 (by omega) (by omega),if_pos (by omega),if_pos (by omega),if_pos (by omega),if_pos (by omega),if_pos (by omega),Int.toNat_natCast,lcopy_whole (by rw [List.length_take]; omega),if_pos (by rw [List.length_take,List.length_drop]; omega),h4,List.take_append_drop]
def pre (a:Lf) (i:Nat):Lf := (a.1,a.2.1.take i,a.2.2.1.take i,a.2.2.2.take i)
theorem take_gk {l:List (List Int)} {i:Nat} (h:i<l.length):l.take (i+1)=l.take i++[gk l i] := by
  rw [List.take_succ_eq_append_getElem h,gk,List.getD_eq_getElem?_getD,List.getElem?_eq_getElem h]
  rfl
theorem take_gp {l:List Pt} {i:Nat} (h:i<l.length):l.take (i+1)=l.take i++[gp l i] := by
  rw [List.take_succ_eq_append_getElem h,gp,List.getD_eq_getElem?_getD,List.getElem?_eq_getElem h]
  rfl
theorem lo3_back {a:Lf} (hv:shp a=true) (hw:Wf a) (t:Int × (List Int × Bool)) (ht:t.1=(a.2.1.length:Int)) (J:(List Int × Bool)→Lf→Option (Lf × Int)):∀ (j i k:Nat),i+j=a.2.1.length→j+50<k→(ents a j i).length≤4096→leaf_Read.lo3 t J k (kp a.2.1 i) (i:Int) (ents a j i,false) (pre a i)=J ([],false) a := by
  obtain ⟨hs,_,hp⟩ := shp_sm hv
  have hn := hs.n
  intro j
  induction j with
  | zero =>
    intro i k hi hk hle
    obtain ⟨k,rfl⟩:∃ m,k=m+1 := ⟨k - 1,by omega⟩
    have hvl:a.2.2.1.length≤i∧a.2.2.2.length≤i := by
      by_cases h0:a.1=0
      · have := hs.v h0; omega
      · have := hs.p h0; omega
    rw [leaf_Read.lo3,if_neg (by omega)]
    unfold pre
    rw [List.take_of_length_le (by omega),List.take_of_length_le hvl.1,List.take_of_length_le hvl.2]
    rfl
  | succ j ih =>
    intro i k hi hk hle
    obtain ⟨k,rfl⟩:∃ m,k=m+1 := ⟨k - 1,by omega⟩
    have hi':i<a.2.1.length := by omega
    have b3 := ents_bytes hs hw j (i+1) (by omega)
    have b2 := vent_bytes hs hw hi'
    have hl:(vent a i++ents a j (i+1)).length≤4096∧(ents a j (i+1)).length≤4096 := by
      rw [ents,List.length_append,List.length_append] at hle
      rw [List.length_append]
      generalize (kent a i).length=x at *
      generalize (vent a i).length=y at *
      generalize (ents a j (i+1)).length=z at *
      omega
    have ih' := ih (i+1) k (by omega) (by omega) hl.2
    have e1 := key_back hs hw hi' (b2.append b3) (by omega) (k:=k) (by omega)
    have p1:(pre a i).2.1.length≤4096 := by show (a.2.1.take i).length≤_; rw [List.length_take]; omega
    have p2:(pre a i).2.2.1.length≤4096 := by show (a.2.2.1.take i).length≤_; rw [List.length_take]; omega
    have p3:(pre a i).2.2.2.length≤4096 := by show (a.2.2.2.take i).length≤_; rw [List.length_take]; omega
    rw [leaf_Read.lo3,if_pos (by omega)]
    unfold leaf_Read.jo4 leaf_Read.jo5
    rw [if_neg (c:=(false=true)) (by decide),ents]
    rw [show leaf_reader_key.f k ((kent a i++(vent a i++ents a j (i+1)),false).1,(kent a i++(vent a i++ents a j (i+1)),false).2) (kp a.2.1 i)=some (gk a.2.1 i,(vent a i++ents a j (i+1),false)) from e1]
    simp only [Option.bind_some]
    rw [if_pos (by simp; omega),wi64 (by omega) (by omega)]
    by_cases h0:a.1=0
    · have hv0 := hs.v h0
      have hv1 := hs.vs i (by omega)
      have ev:vent a i=tx (strOfNums (gk a.2.2.1 i)) := by rw [vent,if_pos h0]
      rw [if_pos (show (pre a i).1=0 from h0),ev,text_back (hw.gv i) (by omega) (by omega) b3 (by omega) (by omega)]
      simp only [Option.bind_some]
      rw [if_pos (by simp; omega)]
      have hk0:a.2.2.2=[] := List.eq_nil_of_length_eq_zero hv0.2
      rw [← ih']
      congr 1
      unfold pre
      rw [take_gk hi',take_gk (l:=a.2.2.1) (by omega),hk0,List.take_nil,List.take_nil]
    · have hp0 := hs.p h0
      have ev:vent a i=putL [] (gp a.2.2.2 i) := by rw [vent,if_neg h0]
      rw [if_neg (show ¬ (pre a i).1=0 from h0),ev,kid_back (hp i (by omega)) (hw.p _ (gp_mem (by omega))) b3 (by omega) (by omega)]
      simp only [Option.bind_some]
      rw [if_pos (by simp; omega)]
      have hk0:a.2.2.1=[] := List.eq_nil_of_length_eq_zero hp0.2
      rw [← ih']
      congr 1
      unfold pre
      rw [take_gk hi',take_gp (l:=a.2.2.2) (by omega),hk0,List.take_nil,List.take_nil]
theorem read_back {a:Lf} (hv:rok a=true) (hw:Wf a) {k:Nat} (hk:20000≤k):leaf_Read.f k (enc a)=some (a,0) := by
  obtain ⟨h1,h2⟩ := rok_sm hv
  have hs := (shp_sm h1).1
  have hl := hs.lvl
  have hn := hs.n
  have b3 := ents_bytes hs hw a.2.1.length 0 (by omega)
  have hu:u a.1=a.1 := by unfold u; omega
  have e:enc a=sx a.1++(sx (a.2.1.length:Int)++ents a a.2.1.length 0) := by rw [enc,hu]
  have hle:(ents a a.2.1.length 0).length≤4096 := by rw [e,List.length_append,List.length_append] at h2; omega
  unfold leaf_Read.f leaf_Read.jo1
  rw [if_neg (by omega)]
  have key := lo3_back h1 hw ((a.2.1.length:Int),(ents a a.2.1.length 0,false)) rfl (leaf_Read.jo2 k (enc a)) a.2.1.length 0 k (by omega) (by omega) hle
  rw [jo2_back hk hv] at key
  generalize hJ:leaf_Read.jo2 k (enc a)=J at key
  rw [e,number_back hl.1 hl.2 (by omega) ((sx_bytes (by omega) (by omega)).append b3) (by omega)]
  simp only [Option.bind_some]
  rw [number_back (by omega) (by omega) (by omega) b3 (by omega)]
  simp only [Option.bind_some]
  exact key
end Go.Proofs.Ythhhkphbhlafbaa.Lrd
