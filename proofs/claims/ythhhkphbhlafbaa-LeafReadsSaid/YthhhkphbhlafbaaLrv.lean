/- What the document's leaf computes; no condition. -/
import Derived.Test.YthhhkphbhlafbaaLrd
set_option linter.unusedVariables false
set_option linter.unusedSimpArgs false
namespace Go.Proofs.Ythhhkphbhlafbaa.Lrv
open Go Go.RowKit Go.Proofs.Ythhhkphbhlafbaa.Sx Go.Proofs.Ythhhkphbhlafbaa.G Go.Proofs.Ythhhkphbhlafbaa.Bt Go.Proofs.Ythhhkphbhlafbaa.Rcd Go.Proofs.Ythhhkphbhlafbaa.Stx Go.Proofs.Ythhhkphbhlafbaa.Lfd Go.Proofs.Ythhhkphbhlafbaa.Lfv Go.Proofs.Ythhhkphbhlafbaa.Lrd
open Go.Proofs.Ythhhkphbhlafbaa.Ptr (Pt zp rightB putL rRight_val rPut_val readL rRead_val)
open Go.Proofs.Ythhhkphbhlafbaa.Ptp (WfP readL_wf readL_back putL_len readL_len putL_bytes)
def vpok (a:Lf) (i:Nat):Bool := if a.1=0 then decide ((gk a.2.2.1 i).length≤1024) else rightB (gp a.2.2.2 i)
def rall (a:Lf):Nat→Nat→Bool
  | 0,_=>true
  | j+1,i=>kok a.2.1 i&&(vpok a i&&rall a j (i+1))
theorem shape_jo5 {a:Lf} (hl:lsB a=true) (h0:0≤a.1) (hn:a.2.1.length≤4096) {i:Nat} (hi:i<a.2.1.length) (k:Nat) (g:Int→Option Bool):shadowboxref16_shape.jo5 a (i:Int) k g=if vpok a i=true then g ((i+1:Nat):Int) else some false := by
  have hs := lsB_len hl
  unfold shadowboxref16_shape.jo5 vpok
  by_cases c:a.1=0
  · have hv := hs.1 c
    rw [if_pos c,if_pos c,if_pos (by omega),if_pos (by omega),Int.toNat_natCast]
    simp only [lt]
    show (if ((gk a.2.2.1 i).length:Int) > 1024 then some false else _)=_
    by_cases h:(gk a.2.2.1 i).length≤1024
    · rw [if_neg (by omega),if_neg (by omega),decide_eq_true h,if_pos rfl,wi64 (by omega) (by omega)]
      rfl
    · rw [if_pos (by omega),decide_eq_false h]
      rfl
  · have hp := hs.2 c
    rw [if_neg c,if_neg c,if_pos (by omega),if_pos (by omega),if_pos (by omega),Int.toNat_natCast,rRight_val]
    simp only [Option.bind_some]
    rw [wi64 (by omega) (by omega)]
    rfl
theorem shape_jo4 {a:Lf} (hl:lsB a=true) (h0:0≤a.1) (hn:a.2.1.length≤4096) {i:Nat} (hi:i<a.2.1.length) (k:Nat) (g:Int→Option Bool):shadowboxref16_shape.jo4 a (i:Int) k g=if (kok a.2.1 i&&vpok a i)=true then g ((i+1:Nat):Int) else some false := by
  unfold shadowboxref16_shape.jo4
  rw [shape_jo5 hl h0 hn hi,if_pos (by omega),if_pos (by omega)]
  simp only [lt,Int.toNat_natCast]
  show (if ((gk a.2.1 i).length:Int) > 160 then some false else _)=_
  unfold kok
  by_cases h1:(gk a.2.1 i).length≤160
  · rw [if_neg (by omega),decide_eq_true h1,Bool.true_and]
    by_cases h2:i=0
    · subst h2
      rw [if_neg (by omega)]
      rfl
    · rw [if_pos (by omega),wi64 (n:=(i:Int) - 1) (by omega) (by omega),if_pos (by omega),if_pos (by omega),decide_eq_false h2,Bool.false_or,show ((i:Int) - 1).toNat=i - 1 by omega]
      show (if bL (ka a.2.1 (i - 1)) (ka a.2.1 i)=true then _ else some false)=_
      cases bL (ka a.2.1 (i - 1)) (ka a.2.1 i)
      · rfl
      · rw [if_pos rfl,Bool.true_and]
  · rw [if_pos (by omega),decide_eq_false h1]
    rfl
theorem shape_lo3 {a:Lf} (hl:lsB a=true) (h0:0≤a.1) (hn:a.2.1.length≤4096):∀ (j i k:Nat),i+j=a.2.1.length→j<k→shadowboxref16_shape.lo3 a k (i:Int)=some (rall a j i) := by
  intro j
  induction j with
  | zero =>
    intro i k hi hk
    obtain ⟨k,rfl⟩:∃ m,k=m+1 := ⟨k - 1,by omega⟩
    rw [shadowboxref16_shape.lo3,if_neg (by omega)]
    rfl
  | succ j ih =>
    intro i k hi hk
    obtain ⟨k,rfl⟩:∃ m,k=m+1 := ⟨k - 1,by omega⟩
    rw [shadowboxref16_shape.lo3,if_pos (by omega),shape_jo4 hl h0 hn (by omega),ih (i+1) k (by omega) (by omega),rall]
    cases kok a.2.1 i
    · rfl
    · cases vpok a i <;> rfl
theorem rall_eq (a:Lf):∀ (j i:Nat),rall a j i=(kall a.2.1 j i&&(if a.1=0 then vall a.2.2.1 j i else pall a.2.2.2 j i)) := by
  intro j
  induction j with
  | zero=>intro i; by_cases c:a.1=0 <;> simp [rall,kall,vall,pall,c]
  | succ j ih =>
    intro i
    rw [rall,ih,kall,vpok]
    by_cases c:a.1=0
    · rw [if_pos c,if_pos c,if_pos c,vall]
      cases kok a.2.1 i <;> cases kall a.2.1 j (i+1) <;> cases decide ((gk a.2.2.1 i).length≤1024) <;> rfl
    · rw [if_neg c,if_neg c,if_neg c,pall]
      cases kok a.2.1 i <;> cases kall a.2.1 j (i+1) <;> cases rightB (gp a.2.2.2 i) <;> rfl
theorem lists_jo1 (k:Nat) {a:Lf} (h0:0≤a.1):shadowboxref16_shape.jo1 k a=if lsB a=true then shadowboxref16_shape.jo2 k a else some false := by
  unfold shadowboxref16_shape.jo1 lsB
  by_cases h:a.1=0
  · rw [if_pos h,if_pos h]
    by_cases h2:a.2.2.1.length=a.2.1.length
    · rw [if_pos (by omega)]
      by_cases h3:a.2.2.2.length=0
      · rw [if_pos (by omega),if_neg (by omega),if_pos (decide_eq_true ⟨h2,h3⟩)]
      · rw [if_neg (by omega),if_neg (by simp [h3])]
    · rw [if_neg (by omega),if_neg (by simp [h2])]
  · rw [if_neg h,if_neg h,if_pos (by omega)]
    by_cases h2:a.2.2.2.length=a.2.1.length
    · rw [if_pos (by omega)]
      by_cases h3:a.2.2.1.length=0
      · rw [if_pos (by omega),if_pos (decide_eq_true ⟨h2,h3⟩)]
      · rw [if_neg (by omega),if_neg (by simp [h3])]
    · rw [if_neg (by omega),if_neg (by simp [h2])]
theorem shape_val {a:Lf} {k:Nat} (hk:20000≤k):shadowboxref16_shape.f k a=some (shp a) := by
  unfold shadowboxref16_shape.f shp
  refine nandn fun h1=>nandn fun h2=>nandn fun h3=>nandn fun h4=>?_
  rw [lists_jo1 k (by omega)]
  refine andn fun h5=>?_
  have hs := lsB_len h5
  unfold shadowboxref16_shape.jo2
  have := shape_lo3 h5 (by omega) (by omega) a.2.1.length 0 k (by omega) (by omega)
  refine Eq.trans this ?_
  rw [rall_eq]
  congr 2
  by_cases c:a.1=0
  · have hv := hs.1 c
    rw [if_pos c,hv.2,hv.1]
    simp [pall]
  · have hp := hs.2 c
    rw [if_neg c,hp.2,hp.1]
    simp [vall]
section
open Go.Proofs.Ythhhkphbhlafbaa.Cod Go.Proofs.Ythhhkphbhlafbaa.Ptr
theorem rPut_lo1b (a:Ptr.Pt):∀ (j k x:Nat) (m:List Int),x+j=32→j<k→m.length+j≤200000000→shadowboxref06_Put.lo1 a k m (x:Int)=some (m++a.2.2.2.2.1.drop x) := by
  intro j
  induction j with
  | zero =>
    intro k x m h1 h2 h3
    obtain ⟨k,rfl⟩:∃ k',k=k'+1 := ⟨k - 1,by omega⟩
    rw [shadowboxref06_Put.lo1,if_neg (by omega),List.drop_of_length_le (by rw [a.2.2.2.2.2]; omega)]
    simp
  | succ j ih =>
    intro k x m h1 h2 h3
    obtain ⟨k,rfl⟩:∃ k',k=k'+1 := ⟨k - 1,by omega⟩
    rw [shadowboxref06_Put.lo1,if_pos (by omega),if_pos (by omega)]
    simp only [lt]
    rw [if_pos (by simp; omega),Int.toNat_natCast,wi64 (by omega) (by omega),show (x:Int)+1=((x+1:Nat):Int) by omega,ih k (x+1) _ (by omega) (by omega) (by simp; omega)]
    have hx:x<a.2.2.2.2.1.length := by rw [a.2.2.2.2.2]; omega
    rw [List.drop_eq_getElem_cons hx,List.getD_eq_getElem?_getD,List.getElem?_eq_getElem hx]
    simp
theorem rPut_valb {l:List Int} (hl:l.length≤100000000) (a:Ptr.Pt) {k:Nat} (hk:40≤k):shadowboxref06_Put.f k l a=some (putL l a) := by
  unfold shadowboxref06_Put.f
  have hu := Ptr.u_u64
  unfold Ptr.u at hu
  rw [refFixed_val (by omega) _ _ (hu _).1 (hu _).2 (by omega)]
  simp only [Option.bind_some]
  rw [refFixed_val (by simp [fix4,Cod.le_length]; omega) _ _ (hu _).1 (hu _).2 (by omega)]
  simp only [Option.bind_some]
  rw [refFixed_val (by simp [fix4,Cod.le_length]; omega) _ _ (hu _).1 (hu _).2 (by omega)]
  simp only [Option.bind_some]
  rw [refFixed_val (by simp [fix4,fix8,Cod.le_length]; omega) _ _ (hu _).1 (hu _).2 (by omega)]
  simp only [Option.bind_some]
  have := rPut_lo1b a 32 k 0 (Cod.fixS (Cod.fixS (Cod.fixS (Cod.fixS l 4 [Ptr.u a.1]) 4 [Ptr.u a.2.2.1]) 8 [Ptr.u a.2.1]) 4 [Ptr.u a.2.2.2.1]) (by omega) (by omega) (by simp [fix4,fix8,Cod.le_length]; omega)
  exact this
end
theorem all_lo4 {a:Lf} {i:Nat} (hi:i+1<a.2.1.length) (hn:a.2.1.length≤4096) (J:Int→Option (List Int)) (hl:(gk a.2.1 (i+1)).length≤100000):∀ (j s k:Nat),s+j=(gk a.2.1 (i+1)).length→j<k→shadowboxref16_all.lo4 a ((i+1:Nat):Int) J k (s:Int)=J (((s+cpl ((gk a.2.1 i).drop s) ((gk a.2.1 (i+1)).drop s):Nat):Int)) := by
  intro j
  induction j with
  | zero =>
    intro s k hs hk
    obtain ⟨k,rfl⟩:∃ m,k=m+1 := ⟨k - 1,by omega⟩
    rw [shadowboxref16_all.lo4,if_pos (by omega),if_pos (by omega)]
    simp only [lt,Int.toNat_natCast]
    rw [if_neg (by show ¬ (s:Int)<((gk a.2.1 (i+1)).length:Int); omega),List.drop_of_length_le (l:=gk a.2.1 (i+1)) (by omega)]
    cases (gk a.2.1 i).drop s <;> rfl
  | succ j ih =>
    intro s k hs hk
    obtain ⟨k,rfl⟩:∃ m,k=m+1 := ⟨k - 1,by omega⟩
    rw [shadowboxref16_all.lo4,if_pos (by omega),if_pos (by omega)]
    simp only [lt,Int.toNat_natCast]
    rw [wi64 (n:=((i+1:Nat):Int) - 1) (by omega) (by omega),show ((i+1:Nat):Int) - 1=(i:Int) by omega]
    simp only [Int.toNat_natCast]
    rw [if_pos (by show (s:Int)<((gk a.2.1 (i+1)).length:Int); omega),if_pos (by omega),if_pos (by omega)]
    by_cases hb:s<(gk a.2.1 i).length
    · rw [if_pos (by show (s:Int)<((gk a.2.1 i).length:Int); omega),if_pos (by omega),if_pos (by show (s:Int)<((gk a.2.1 (i+1)).length:Int); omega),if_pos (by show (s:Int)<((gk a.2.1 i).length:Int); omega),dropc (l:=gk a.2.1 i) hb,dropc (l:=gk a.2.1 (i+1)) (by omega)]
      unfold cpl
      show (if (gk a.2.1 (i+1)).getD s 0=(gk a.2.1 i).getD s 0 then _ else _)=_
      by_cases h:(gk a.2.1 i).getD s 0=(gk a.2.1 (i+1)).getD s 0
      · rw [if_pos h.symm,if_pos h,wi64 (by omega) (by omega)]
        have := ih (s+1) k (by omega) (by omega)
        rw [show ((s+1:Nat):Int)=(s:Int)+1 by omega] at this
        rw [this]
        congr 2
        omega
      · rw [if_neg (fun e=>h e.symm),if_neg h]
        rfl
    · rw [if_neg (by show ¬ (s:Int)<((gk a.2.1 i).length:Int); omega),List.drop_of_length_le (l:=gk a.2.1 i) (by omega)]
      rfl
theorem all_jo3 {a:Lf} (h:Sm a) {i:Nat} (hi:i<a.2.1.length) {acc:List Int} (hacc:acc.length≤10000000) {k:Nat} (hk:300≤k) (g:List Int→Int→Option (List Int)) :
    shadowboxref16_all.jo3 a acc (i:Int) k g ((cpl (kp a.2.1 i) (gk a.2.1 i):Nat):Int)=g (acc++(kent a i++vent a i)) ((i+1:Nat):Int) := by
  have h1 := h.ks i hi
  have h2 := cpl_le (kp a.2.1 i) (gk a.2.1 i)
  have h3 := h.kp (i:=i) (by omega)
  have h4 := h.n
  have s1 := sx_le (v:=((cpl (kp a.2.1 i) (gk a.2.1 i):Nat):Int)) (by omega) (by omega)
  have s2 := tx_le (s:=strOfNums ((gk a.2.1 i).drop (cpl (kp a.2.1 i) (gk a.2.1 i)))) (by rw [son_size,List.length_drop]; omega)
  rw [son_size,List.length_drop] at s2
  have hl:kent a i=sx ((cpl (kp a.2.1 i) (gk a.2.1 i):Nat):Int)++tx (strOfNums ((gk a.2.1 i).drop (cpl (kp a.2.1 i) (gk a.2.1 i)))) := rfl
  unfold shadowboxref16_all.jo3
  simp only [Int.toNat_natCast]
  generalize cpl (kp a.2.1 i) (gk a.2.1 i)=c at *
  rw [wu64,show (c:Int) % 18446744073709551616=c by omega,refShort_is (by omega) (by omega) (by omega) (by omega)]
  simp only [Option.bind_some,lt]
  rw [if_pos (by omega),if_pos (by omega),if_pos (by omega),if_pos (by show (c:Int)≤((gk a.2.1 i).length:Int); omega)]
  show ((shadowboxref01_Text.f k _ (strOfNums ((gk a.2.1 i).drop c))).bind _)=_
  rw [refText_is (by rw [son_size,List.length_drop,List.length_append]; omega) (by omega)]
  simp only [Option.bind_some]
  unfold vent
  by_cases h0:a.1=0
  · have hv := h.v h0
    have h5 := h.vs i (by omega)
    rw [if_pos h0,if_pos h0,if_pos (by omega)]
    show ((shadowboxref01_Text.f k _ (strOfNums (gk a.2.2.1 i))).bind _)=_
    rw [refText_is (by rw [son_size,List.length_append,List.length_append]; omega) (by omega)]
    simp only [Option.bind_some]
    rw [wi64 (by omega) (by omega),hl]
    simp only [List.append_assoc]
    rfl
  · have hp := h.p h0
    rw [if_neg h0,if_neg h0,if_pos (by omega)]
    show ((shadowboxref06_Put.f k _ (gp a.2.2.2 i)).bind _)=_
    rw [rPut_valb (by rw [List.length_append,List.length_append]; omega) _ (by omega)]
    simp only [Option.bind_some]
    rw [wi64 (by omega) (by omega),hl]
    have e:∀ l:List Int,putL l (gp a.2.2.2 i)=l++putL [] (gp a.2.2.2 i) := fun l=>by
      unfold Ptr.putL
      rw [Ptr.fix4,Ptr.fix4,Ptr.fix8,Ptr.fix4,Ptr.fix4,Ptr.fix4,Ptr.fix8,Ptr.fix4]
      simp only [List.append_assoc,List.nil_append]
    rw [e]
    simp only [List.append_assoc]
    rfl
theorem all_jo2 {a:Lf} (h:Sm a) {i:Nat} (hi:i<a.2.1.length) {acc:List Int} (hacc:acc.length≤10000000) {k:Nat} (hk:300≤k) (g:List Int→Int→Option (List Int)):shadowboxref16_all.jo2 a acc (i:Int) k g=g (acc++(kent a i++vent a i)) ((i+1:Nat):Int) := by
  have h4 := h.n
  rw [← all_jo3 h hi hacc hk g]
  unfold shadowboxref16_all.jo2
  cases i with
  | zero =>
    rw [if_neg (by omega)]
    rfl
  | succ i =>
    have h1 := h.ks (i+1) hi
    rw [if_pos (by omega)]
    have := all_lo4 hi h4.2 (shadowboxref16_all.jo3 a acc ((i+1:Nat):Int) k g) (by omega) (gk a.2.1 (i+1)).length 0 k (by omega) (by omega)
    rw [show ((0:Nat):Int)=0 from rfl,List.drop_zero,List.drop_zero,Nat.zero_add] at this
    exact this
theorem all_lo1 {a:Lf} (h:Sm a):∀ (j i k:Nat) (acc:List Int),i+j=a.2.1.length→j+300<k→acc.length+2000*j≤10000000→shadowboxref16_all.lo1 a k acc (i:Int)=some (acc++ents a j i) := by
  intro j
  induction j with
  | zero =>
    intro i k acc hi hk hacc
    obtain ⟨k,rfl⟩:∃ m,k=m+1 := ⟨k - 1,by omega⟩
    rw [shadowboxref16_all.lo1,if_neg (by omega)]
    simp [ents]
  | succ j ih =>
    intro i k acc hi hk hacc
    obtain ⟨k,rfl⟩:∃ m,k=m+1 := ⟨k - 1,by omega⟩
    have q1:i<a.2.1.length := by omega
    have q2:acc.length≤10000000 := by omega
    have q3:300≤k := Nat.le_of_lt_succ (Nat.lt_of_le_of_lt (Nat.le_add_left 300 (j+1)) hk)
    have ek := h.kent_le q1
    have ev := h.vent_le q1
    have q4:(acc++(kent a i++vent a i)).length+2000*j≤10000000 := by
      rw [List.length_append,List.length_append]
      generalize (kent a i).length=x at *
      generalize (vent a i).length=y at *
      omega
    clear ek ev
    rw [shadowboxref16_all.lo1,if_pos (by omega),all_jo2 h q1 q2 q3,ih (i+1) k _ (by omega) (by omega) q4,ents]
    simp only [List.append_assoc]
theorem all_val {a:Lf} (h:Sm a) {k:Nat} (hk:5000≤k):shadowboxref16_all.f k a=some (enc a) := by
  have h1 := h.lvl
  have h4 := h.n
  have s1 := sx_le (u0 a.1) (u1 _)
  have s2 := sx_le (v:=(a.2.1.length:Int)) (by omega) (by omega)
  unfold shadowboxref16_all.f
  rw [show IntKind.wrap .u64 a.1=u a.1 from wu64 _,wu64,show (a.2.1.length:Int) % 18446744073709551616=a.2.1.length by omega,refShort_is (by simp) (u0 _) (u1 _) (by omega)]
  simp only [Option.bind_some,List.nil_append]
  rw [refShort_is (by omega) (by omega) (by omega) (by omega)]
  simp only [Option.bind_some]
  have := all_lo1 h a.2.1.length 0 k (sx (u a.1)++sx (a.2.1.length:Int)) (by omega) (by omega) (by rw [List.length_append]; omega)
  refine Eq.trans this ?_
  rw [enc,List.append_assoc]
theorem rput_val {a:Lf} {k:Nat} (hk:20000≤k):shadowboxref16_Put.f k a=some (putS a) := by
  unfold shadowboxref16_Put.f putS
  rw [show shadowboxref16_shape.f k (a.1,a.2.1,a.2.2.1,a.2.2.2)=some (shp a) from shape_val hk]
  simp only [Option.bind_some]
  by_cases h:shp a=true
  · rw [if_pos h,if_pos h,show shadowboxref16_all.f k (a.1,a.2.1,a.2.2.1,a.2.2.2)=some (enc a) from all_val (shp_sm h).1 (by omega)]
    simp only [Option.bind_some]
    split <;> rfl
  · rw [if_neg h,if_neg h]
theorem rnumber_some {l:List Int} (h:Ok l) {k:Nat} (hk:11≤k):∃ n l1 b1,shadowboxref16_number.f k l=some (n,l1,b1)∧Ok l1∧0≤n∧n≤65536∧l1.length≤l.length := by
  unfold shadowboxref16_number.f
  obtain ⟨n,x,e,E,p,q,r0,r1⟩ := rs_some h
  rw [refRs_eq h hk,E k hk]
  simp only [Option.bind_some,lt]
  by_cases c0:e=0
  case neg=>rw [if_neg c0]; exact ⟨_,_,_,rfl,⟨Bytes.nil,by simp⟩,by omega,by omega,by simp⟩
  rw [if_pos c0]
  by_cases d0:n > 65536
  case pos=>rw [if_pos d0]; exact ⟨_,_,_,rfl,⟨Bytes.nil,by simp⟩,by omega,by omega,by simp⟩
  rw [if_neg d0,if_pos p,if_pos q,wi64 (by omega) (by omega)]
  exact ⟨_,_,_,rfl,h.drop _,r0,by omega,by rw [List.length_drop]; omega⟩
theorem rtext_some {l:List Int} (h:Ok l) {k:Nat} (hk:11≤k):∃ t l1 b1,shadowboxref16_text.f k l=some (t,l1,b1)∧Ok l1∧t.size≤65536∧l1.length≤l.length := by
  unfold shadowboxref16_text.f
  obtain ⟨s,x,e,E,p,q,r⟩ := rt_some h (mx:=65536) (by omega) (by omega)
  rw [refRt_eq h (by omega) (by omega) hk,E k hk]
  simp only [Option.bind_some,lt]
  by_cases c0:e=0
  case neg=>rw [if_neg c0]; exact ⟨_,_,_,rfl,⟨Bytes.nil,by simp⟩,by show (0:Nat)≤65536; omega,by simp⟩
  rw [if_pos c0,if_pos p,if_pos q]
  exact ⟨_,_,_,rfl,h.drop _,by omega,by rw [List.length_drop]; omega⟩
theorem ext_size (s:ByteArray) (n:Nat) (h:n≤s.size):(ByteArray.extract s 0 n).size=n := by
  rw [ByteArray.size_extract]; omega
def PAns (r:Lf × Bool):Prop := Wf r.1
theorem parse_lo2 (t2:Int × List Int × Bool) (t8:Int × List Int × Bool) (h8:t8.1≤65536):∀ (j i k:Nat) (l:List Int) (ok:Bool) (last:ByteArray) (v:Lf),i+j=65536→j+200<k→Ok l→l.length≤100000→last.size≤65536*i→Wf v→v.2.1.length≤i→v.2.2.1.length≤i→v.2.2.2.length≤i →
    ∃ r,shadowboxref16_parse.lo2 t2 t8 k l ok last (i:Int) v=some r∧PAns r := by
  have hz:PAns (((0:Int),([]:List (List Int)),([]:List (List Int)),([]:List (Int × Int × Int × Int × (Vc Int 32)))),false) := ⟨fun x hx=>(by cases hx),fun x hx=>(by cases hx),fun x hx=>(by cases hx)⟩
  intro j
  induction j with
  | zero =>
    intro i k l ok last v hi hk hl hl2 hls hv v1 v2 v3
    obtain ⟨k,rfl⟩:∃ m,k=m+1 := ⟨k - 1,by omega⟩
    rw [shadowboxref16_parse.lo2,if_neg (by omega)]
    exact ⟨_,rfl,hv⟩
  | succ j ih =>
    intro i k l ok last v hi hk hl hl2 hls hv v1 v2 v3
    obtain ⟨k,rfl⟩:∃ m,k=m+1 := ⟨k - 1,by omega⟩
    rw [shadowboxref16_parse.lo2]
    by_cases h1:(i:Int)<t8.1
    case neg=>rw [if_neg h1]; exact ⟨_,rfl,hv⟩
    rw [if_pos h1]
    unfold shadowboxref16_parse.jo3 shadowboxref16_parse.jo4 shadowboxref16_parse.jo5
    cases ok
    case false=>exact ⟨_,rfl,hz⟩
    rw [if_pos rfl]
    obtain ⟨n,l1,b1,e1,o1,n0,n1,q1⟩ := rnumber_some hl (k:=k) (by omega)
    rw [e1]
    simp only [Option.bind_some]
    cases b1
    case false=>exact ⟨_,rfl,hz⟩
    rw [if_pos rfl]
    obtain ⟨s,l2,b2,e2,o2,s1,q2⟩ := rtext_some o1 (k:=k) (by omega)
    rw [e2]
    simp only [Option.bind_some]
    cases b2
    case false=>exact ⟨_,rfl,hz⟩
    rw [if_pos rfl]
    by_cases h2:n > (last.size:Int)
    case pos=>rw [if_pos h2]; exact ⟨_,rfl,hz⟩
    rw [if_neg h2]
    unfold shadowboxref16_parse.jo6
    have hx := ext_size last n.toNat (by omega)
    have hy:((ByteArray.extract last 0 n.toNat)++s).size≤65536*(i+1) := by rw [ByteArray.size_append,hx]; omega
    rw [if_pos (by omega),if_pos (by omega),if_pos (by rw [hx]; omega)]
    simp only [lt]
    generalize (ByteArray.extract last 0 n.toNat)++s=y at *
    rw [if_pos (by simp; omega)]
    by_cases h0:t2.1=0
    · rw [if_pos h0]
      obtain ⟨w,l3,b3,e3,o3,s3,q3⟩ := rtext_some o2 (k:=k) (by omega)
      rw [e3]
      simp only [Option.bind_some]
      rw [if_pos (by simp; omega),wi64 (by omega) (by omega)]
      exact ih (i+1) k l3 b3 y (v.1,v.2.1++[bl y],v.2.2.1++[bl w],v.2.2.2) (by omega) (by omega) o3 (by omega) hy ⟨mem_snoc hv.k (bl_bytes y),mem_snoc hv.v (bl_bytes w),hv.p⟩ (by simp; omega) (by simp; omega) (by show v.2.2.2.length≤_; omega)
    · rw [if_neg h0,show shadowboxref06_Read.f k l2=some (readL l2) from rRead_val o2.1 (by omega) (by omega)]
      simp only [Option.bind_some]
      by_cases h3:(readL l2).2=0
      case neg=>rw [if_neg h3]; exact ⟨_,rfl,hz⟩
      have := readL_len h3
      rw [if_pos h3,if_pos (by omega),if_pos (by simp; omega),wi64 (by omega) (by omega)]
      exact ih (i+1) k _ true y (v.1,v.2.1++[bl y],v.2.2.1,v.2.2.2++[(readL l2).1]) (by omega) (by omega) (o2.drop _) (by rw [List.length_drop]; omega) hy ⟨mem_snoc hv.k (bl_bytes y),hv.v,mem_snoc hv.p (readL_wf o2.1)⟩ (by simp; omega) (by show v.2.2.1.length≤_; omega) (by simp; omega)
theorem parse_some {l:List Int} (h:Ok l) (hl:l.length≤100000) {k:Nat} (hk:70000≤k):∃ r,shadowboxref16_parse.f k l=some r∧PAns r := by
  unfold shadowboxref16_parse.f
  obtain ⟨n,l1,b1,e1,o1,n0,n1,q1⟩ := rnumber_some h (k:=k) (by omega)
  rw [e1]
  simp only [Option.bind_some]
  cases b1
  case false=>exact ⟨_,rfl,⟨fun x hx=>(by cases hx),fun x hx=>(by cases hx),fun x hx=>(by cases hx)⟩⟩
  rw [if_pos rfl]
  unfold shadowboxref16_parse.jo1
  obtain ⟨m,l2,b2,e2,o2,m0,m1,q2⟩ := rnumber_some o1 (k:=k) (by omega)
  rw [e2]
  simp only [Option.bind_some]
  exact parse_lo2 _ (m,l2,b2) m1 65536 0 k l2 b2 (⟨#[]⟩:ByteArray) (n,[],[],[]) (by omega) (by omega) o2 (by omega) (by show (0:Nat)≤_; omega) ⟨fun x hx=>(by cases hx),fun x hx=>(by cases hx),fun x hx=>(by cases hx)⟩ (by simp) (by simp) (by simp)
theorem rread_some {b:List Int} (hb:Bytes b) {k:Nat} (hk:70000≤k):∃ r,shadowboxref16_Read.f k b=some r∧Ans b r := by
  unfold shadowboxref16_Read.f
  by_cases h:(b.length:Int) > 4096
  · rw [if_pos h]; exact ⟨_,rfl,.inl rfl⟩
  rw [if_neg h]
  unfold shadowboxref16_Read.jo1
  obtain ⟨⟨v,ok⟩,e,hr⟩ := parse_some (l:=b) ⟨hb,by omega⟩ (by omega) hk
  rw [e]
  simp only [Option.bind_some]
  cases ok
  case false=>exact ⟨_,rfl,.inl rfl⟩
  rw [if_pos rfl,show shadowboxref16_Put.f k (v.1,v.2.1,v.2.2.1,v.2.2.2)=some (putS v) from rput_val (by omega)]
  simp only [Option.bind_some,putS]
  by_cases h1:shp v=true
  · rw [if_pos h1]
    by_cases h2:((enc v).length:Int) > 4096
    · rw [if_pos h2]
      exact ⟨_,rfl,.inl rfl⟩
    · rw [if_neg h2]
      simp only
      rw [if_pos True.intro]
      by_cases h3:((strOfNums (enc v)).toList==(strOfNums b).toList)=true
      · rw [if_pos h3]
        have hrk:rok v=true := by unfold rok; rw [h1,decide_eq_true (by omega)]; rfl
        exact ⟨_,rfl,.inr ⟨v,rfl,hrk,son_inj (enc_bytes (shp_sm h1).1 hr) hb h3,hr⟩⟩
      · rw [if_neg h3]; exact ⟨_,rfl,.inl rfl⟩
  · rw [if_neg h1]
    exact ⟨_,rfl,.inl rfl⟩
theorem rnumber_back {v:Int} (h0:0≤v) (h1:v≤65536) {m:List Int} (hm:Bytes m) {k:Nat} (hk:11≤k):shadowboxref16_number.f k (sx v++m)=some (v,m,true) := by
  unfold shadowboxref16_number.f
  rw [refRs_back h0 (by omega) hm hk]
  simp only [Option.bind_some,lt]
  rw [if_pos True.intro,if_neg (by omega),if_pos (by omega),if_pos (le_app _ _),drop_app,wi64 (by omega) (by omega)]
theorem rtext_back {s:ByteArray} (h1:s.size≤65536) {m:List Int} (hm:Bytes m) (hl:m.length≤1000000) {k:Nat} (hk:11≤k):shadowboxref16_text.f k (tx s++m)=some (s,m,true) := by
  unfold shadowboxref16_text.f
  rw [refRt_back (mx:=65536) (by omega) (by omega) hm hl hk]
  simp only [Option.bind_some,lt]
  rw [if_pos True.intro,if_pos (by omega),if_pos (le_app _ _),drop_app]
theorem ext_son (l:List Int) (n:Nat):ByteArray.extract (strOfNums l) 0 n=strOfNums (l.take n) := by
  apply ByteArray.ext
  rw [ByteArray.data_extract]
  apply Array.ext'
  rw [Array.toList_extract,strOfNums_data,strOfNums_data]
  simp [List.extract,List.map_take]
theorem son_app (l m:List Int):strOfNums l++strOfNums m=strOfNums (l++m) := by
  apply ByteArray.ext
  simp [strOfNums,ByteArray.data_append]
theorem parse_back {a:Lf} (hv:shp a=true) (hw:Wf a) (t2:Int × List Int × Bool) (h2:t2.1=a.1) (t8:Int × List Int × Bool) (h8:t8.1=(a.2.1.length:Int)):∀ (j i k:Nat),i+j=a.2.1.length→j+200<k→(ents a j i).length≤4096→shadowboxref16_parse.lo2 t2 t8 k (ents a j i) true (strOfNums (kp a.2.1 i)) (i:Int) (pre a i)=some (a,true) := by
  obtain ⟨hs,_,hp⟩ := shp_sm hv
  have hn := hs.n
  intro j
  induction j with
  | zero =>
    intro i k hi hk hle
    obtain ⟨k,rfl⟩:∃ m,k=m+1 := ⟨k - 1,by omega⟩
    have hvl:a.2.2.1.length≤i∧a.2.2.2.length≤i := by
      by_cases h0:a.1=0
      · have := hs.v h0; omega
      · have := hs.p h0; omega
    rw [shadowboxref16_parse.lo2,if_neg (by omega)]
    unfold pre
    rw [List.take_of_length_le (by omega),List.take_of_length_le hvl.1,List.take_of_length_le hvl.2]
  | succ j ih =>
    intro i k hi hk hle
    obtain ⟨k,rfl⟩:∃ m,k=m+1 := ⟨k - 1,by omega⟩
    have hi':i<a.2.1.length := by omega
    have b3 := ents_bytes hs hw j (i+1) (by omega)
    have b2 := vent_bytes hs hw hi'
    have hl:(vent a i++ents a j (i+1)).length≤4096∧(ents a j (i+1)).length≤4096 := by
      rw [ents,List.length_append,List.length_append] at hle
      rw [List.length_append]
      generalize (kent a i).length=x at *
      generalize (vent a i).length=y at *
      generalize (ents a j (i+1)).length=z at *
      omega
    have ih' := ih (i+1) k (by omega) (by omega) hl.2
    have h1 := hs.ks i hi'
    have h3 := hs.kp (i:=i) (by omega)
    have c2 := cpl_le (kp a.2.1 i) (gk a.2.1 i)
    have c4 := cpl_take (kp a.2.1 i) (gk a.2.1 i)
    have p1:(pre a i).2.1.length≤4096 := by show (a.2.1.take i).length≤_; rw [List.length_take]; omega
    have p2:(pre a i).2.2.1.length≤4096 := by show (a.2.2.1.take i).length≤_; rw [List.length_take]; omega
    have p3:(pre a i).2.2.2.length≤4096 := by show (a.2.2.2.take i).length≤_; rw [List.length_take]; omega
    have ek:kent a i=sx ((cpl (kp a.2.1 i) (gk a.2.1 i):Nat):Int)++tx (strOfNums ((gk a.2.1 i).drop (cpl (kp a.2.1 i) (gk a.2.1 i)))) := rfl
    rw [shadowboxref16_parse.lo2,if_pos (by omega)]
    unfold shadowboxref16_parse.jo3 shadowboxref16_parse.jo4 shadowboxref16_parse.jo5 shadowboxref16_parse.jo6
    rw [if_pos rfl,ents,ek]
    generalize cpl (kp a.2.1 i) (gk a.2.1 i)=c at *
    have hs2:(strOfNums ((gk a.2.1 i).drop c)).size≤65536 := by rw [son_size,List.length_drop]; omega
    rw [List.append_assoc,rnumber_back (by omega) (by omega) ((tx_bytes (by omega)).append (b2.append b3)) (by omega)]
    simp only [Option.bind_some]
    rw [if_pos True.intro,rtext_back hs2 (b2.append b3) (by omega) (by omega)]
    simp only [Option.bind_some,lt]
    have ee:ByteArray.extract (strOfNums (kp a.2.1 i)) 0 (c:Int).toNat++strOfNums ((gk a.2.1 i).drop c)=strOfNums (gk a.2.1 i) := by
      rw [Int.toNat_natCast,ext_son,son_app,c4,List.take_append_drop]
    rw [if_pos True.intro,if_neg (by rw [son_size]; omega),if_pos (by omega),if_pos (by rw [son_size]; omega),if_pos (by rw [Int.toNat_natCast,ext_son,son_size,son_size,List.length_take,List.length_drop]; omega),ee,bl_son (hw.gk i),if_pos (by simp; omega),h2]
    by_cases h0:a.1=0
    · have hv0 := hs.v h0
      have hv1 := hs.vs i (by omega)
      have ev:vent a i=tx (strOfNums (gk a.2.2.1 i)) := by rw [vent,if_pos h0]
      rw [if_pos h0,ev,rtext_back (by rw [son_size]; omega) b3 (by omega) (by omega)]
      simp only [Option.bind_some]
      rw [bl_son (hw.gv i),if_pos (by simp; omega),wi64 (by omega) (by omega)]
      have hk0:a.2.2.2=[] := List.eq_nil_of_length_eq_zero hv0.2
      rw [← ih']
      congr 1
      unfold pre
      rw [take_gk hi',take_gk (l:=a.2.2.1) (by omega),hk0,List.take_nil,List.take_nil]
    · have hp0 := hs.p h0
      have ev:vent a i=putL [] (gp a.2.2.2 i) := by rw [vent,if_neg h0]
      have hpw := hw.p _ (gp_mem (l:=a.2.2.2) (i:=i) (by omega))
      have e52 := putL_len [] (gp a.2.2.2 i)
      rw [List.length_nil,Nat.zero_add] at e52
      rw [if_neg h0,ev]
      rw [show shadowboxref06_Read.f k (putL [] (gp a.2.2.2 i)++ents a j (i+1))=some (gp a.2.2.2 i,0) from (rRead_val ((show Bytes (putL [] (gp a.2.2.2 i)) from putL_bytes hpw.2).append b3) (by rw [List.length_append]; omega) (by omega)).trans (congrArg some (readL_back (hp i (by omega)) hpw _))]
      simp only [Option.bind_some]
      rw [if_pos True.intro,if_pos (by rw [List.length_append]; omega),if_pos (by simp; omega),wi64 (by omega) (by omega),show (52:Int).toNat=(putL [] (gp a.2.2.2 i)).length by rw [e52]; rfl,List.drop_left]
      have hk0:a.2.2.1=[] := List.eq_nil_of_length_eq_zero hp0.2
      rw [← ih']
      congr 1
      unfold pre
      rw [take_gk hi',take_gp (l:=a.2.2.2) (by omega),hk0,List.take_nil,List.take_nil]
theorem rread_back {a:Lf} (hv:rok a=true) (hw:Wf a) {k:Nat} (hk:70000≤k):shadowboxref16_Read.f k (enc a)=some (a,0) := by
  obtain ⟨h1,h2⟩ := rok_sm hv
  have hs := (shp_sm h1).1
  have hl := hs.lvl
  have hn := hs.n
  have b3 := ents_bytes hs hw a.2.1.length 0 (by omega)
  have hu:u a.1=a.1 := by unfold u; omega
  have e:enc a=sx a.1++(sx (a.2.1.length:Int)++ents a a.2.1.length 0) := by rw [enc,hu]
  have hle:(ents a a.2.1.length 0).length≤4096 := by rw [e,List.length_append,List.length_append] at h2; omega
  have hp:shadowboxref16_parse.f k (enc a)=some (a,true) := by
    unfold shadowboxref16_parse.f shadowboxref16_parse.jo1
    rw [e,rnumber_back hl.1 (by omega) ((sx_bytes (by omega) (by omega)).append b3) (by omega)]
    simp only [Option.bind_some]
    rw [if_pos True.intro,rnumber_back (by omega) (by omega) b3 (by omega)]
    simp only [Option.bind_some]
    exact parse_back h1 hw _ rfl _ rfl a.2.1.length 0 k (by omega) (by omega) hle
  unfold shadowboxref16_Read.f shadowboxref16_Read.jo1
  rw [if_neg (by omega),hp]
  simp only [Option.bind_some]
  rw [if_pos True.intro,show shadowboxref16_Put.f k (a.1,a.2.1,a.2.2.1,a.2.2.2)=some (putS a) from rput_val (by omega)]
  simp only [Option.bind_some,putS]
  rw [if_pos h1,if_neg (show ¬ ((enc a).length:Int) > 4096 by omega)]
  simp only
  rw [if_pos True.intro,if_pos (by simp)]
theorem read_both {b:List Int} (hb:Bytes b) {k:Nat} (hk:70000≤k):∃ r,leaf_Read.f k b=some r∧shadowboxref16_Read.f k b=some r∧r.1.2.1.length≤4096∧r.1.2.2.1.length≤4096∧r.1.2.2.2.length≤4096 := by
  obtain ⟨r,e,hr⟩ := read_some (k:=k) (by omega) hb
  obtain ⟨q,f,hq⟩ := rread_some hb hk
  have hlen:∀ w:Lf,rok w=true→w.2.1.length≤4096∧w.2.2.1.length≤4096∧w.2.2.2.length≤4096 := fun w hw=>by
    have hs := (shp_sm (rok_sm hw).1).1
    have hn := hs.n
    by_cases h0:w.1=0
    · have := hs.v h0; omega
    · have := hs.p h0; omega
  rcases hr with rfl | ⟨w,rfl,hw,hwb,hww⟩
  · rcases hq with rfl | ⟨w,rfl,hw,hwb,hww⟩
    · exact ⟨_,e,f,by simp [zero],by simp [zero],by simp [zero]⟩
    · have := read_back hw hww (k:=k) (by omega)
      rw [hwb,e] at this
      cases this
  · have := rread_back hw hww hk
    rw [hwb] at this
    exact ⟨_,e,this,hlen w hw⟩
end Go.Proofs.Ythhhkphbhlafbaa.Lrv
