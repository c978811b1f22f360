/- What a leaf's shape and bytes are, as the program computes them; no condition. -/
import Derived.Test.YthhhkphbhlafbaaStx
import Derived.Test.YthhhkphbhlafbaaLfd
import Derived.Test.YthhhkphbhlafbaaPtp
set_option linter.unusedVariables false
set_option linter.unusedSimpArgs false
namespace Go.Proofs.Ythhhkphbhlafbaa.Lfv
open Go Go.RowKit Go.Proofs.Ythhhkphbhlafbaa.Sx Go.Proofs.Ythhhkphbhlafbaa.G Go.Proofs.Ythhhkphbhlafbaa.Bt Go.Proofs.Ythhhkphbhlafbaa.Rcd Go.Proofs.Ythhhkphbhlafbaa.Stx Go.Proofs.Ythhhkphbhlafbaa.Lfd
open Go.Proofs.Ythhhkphbhlafbaa.Ptr (Pt zp rightB putL Right_val Put_val readL Read_val)
open Go.Proofs.Ythhhkphbhlafbaa.Ptp (WfP readL_wf readL_back putL_len readL_len)
abbrev Lf := Int × (List (List Int)) × (List (List Int)) × (List Pt)
def gk (l:List (List Int)) (i:Nat):List Int := l.getD i []
def gp (l:List Pt) (i:Nat):Pt := l.getD i zp
def cpl:List Int→List Int→Nat
  | x :: a,y :: b=>if x=y then cpl a b+1 else 0
  | _,_=>0
theorem cpl_le:∀ a b:List Int,cpl a b≤a.length∧cpl a b≤b.length
  | [],b=>by simp [cpl]
  | _ :: _,[]=>by simp [cpl]
  | x :: a,y :: b=>by
    have := cpl_le a b
    unfold cpl
    split <;> simp <;> omega
theorem cpl_take:∀ a b:List Int,a.take (cpl a b)=b.take (cpl a b)
  | [],b=>by simp [cpl]
  | _ :: _,[]=>by simp [cpl]
  | x :: a,y :: b=>by
    have := cpl_take a b
    unfold cpl
    split
    · rename_i h
      rw [List.take_succ_cons,List.take_succ_cons,this,h]
    · simp
theorem dropc {l:List Int} {i:Nat} (h:i<l.length):l.drop i=l.getD i 0 :: l.drop (i+1) := by
  rw [List.drop_eq_getElem_cons h,List.getD_eq_getElem?_getD,List.getElem?_eq_getElem h]
  rfl
theorem shared_lo1 (a b:List Int) (ha:a.length≤10000000):∀ (j i k:Nat),i+j=a.length→j<k→leaf_shared.lo1 a b k (i:Int)=some (((i+cpl (a.drop i) (b.drop i):Nat):Int)) := by
  intro j
  induction j with
  | zero =>
    intro i k hi hk
    obtain ⟨k,rfl⟩:∃ m,k=m+1 := ⟨k - 1,by omega⟩
    rw [leaf_shared.lo1,if_neg (by omega),List.drop_of_length_le (by omega)]
    rfl
  | succ j ih =>
    intro i k hi hk
    obtain ⟨k,rfl⟩:∃ m,k=m+1 := ⟨k - 1,by omega⟩
    rw [leaf_shared.lo1,if_pos (by omega)]
    by_cases hb:i<b.length
    · rw [if_pos (by omega),if_pos (by omega),Int.toNat_natCast,dropc (l:=a) (by omega),dropc (l:=b) hb]
      unfold cpl
      by_cases h:a.getD i 0=b.getD i 0
      · rw [if_pos h,if_pos h,wi64 (by omega) (by omega)]
        have := ih (i+1) k (by omega) (by omega)
        rw [show ((i+1:Nat):Int)=(i:Int)+1 by omega] at this
        rw [this]
        congr 2
        omega
      · rw [if_neg h,if_neg h]
        rfl
    · rw [if_neg (by omega),List.drop_of_length_le (l:=b) (by omega)]
      cases a.drop i <;> rfl
theorem shared_val {a b:List Int} (ha:a.length≤10000000) {k:Nat} (hk:a.length<k):leaf_shared.f k a b=some ((cpl a b:Nat):Int) := by
  have := shared_lo1 a b ha a.length 0 k (by omega) hk
  rw [show ((0:Nat):Int)=0 from rfl,List.drop_zero,List.drop_zero,Nat.zero_add] at this
  exact this
def kp (l:List (List Int)):Nat→List Int
  | 0=>[]
  | i+1=>gk l i
noncomputable def kent (a:Lf) (i:Nat):List Int := sx ((cpl (kp a.2.1 i) (gk a.2.1 i):Nat):Int)++tx (strOfNums ((gk a.2.1 i).drop (cpl (kp a.2.1 i) (gk a.2.1 i))))
noncomputable def vent (a:Lf) (i:Nat):List Int := if a.1=0 then tx (strOfNums (gk a.2.2.1 i)) else putL [] (gp a.2.2.2 i)
noncomputable def ents (a:Lf):Nat→Nat→List Int
  | 0,_=>[]
  | j+1,i=>kent a i++(vent a i++ents a j (i+1))
noncomputable def enc (a:Lf):List Int := sx (u a.1)++(sx (a.2.1.length:Int)++ents a a.2.1.length 0)
structure Sm (a:Lf):Prop where
  lvl:0≤a.1∧a.1≤12
  n:1≤a.2.1.length∧a.2.1.length≤4096
  v:a.1=0→a.2.2.1.length=a.2.1.length∧a.2.2.2.length=0
  p:a.1≠0→a.2.2.2.length=a.2.1.length∧a.2.2.1.length=0
  ks:∀ i,i<a.2.1.length→(gk a.2.1 i).length≤160
  vs:∀ i,i<a.2.2.1.length→(gk a.2.2.1 i).length≤1024
theorem son_size (l:List Int):(strOfNums l).size=l.length := by simp [strOfNums,ByteArray.size]
theorem Sm.kp {a:Lf} (h:Sm a) {i:Nat} (hi:i≤a.2.1.length):(kp a.2.1 i).length≤160 := by
  cases i with
  | zero=>simp [Lfv.kp]
  | succ i=>exact h.ks i (by omega)
theorem Sm.kent_le {a:Lf} (h:Sm a) {i:Nat} (hi:i<a.2.1.length):(kent a i).length≤200 := by
  have h1 := h.ks i hi
  have h2 := cpl_le (Lfv.kp a.2.1 i) (gk a.2.1 i)
  have s1 := sx_le (v:=((cpl (Lfv.kp a.2.1 i) (gk a.2.1 i):Nat):Int)) (by omega) (by omega)
  have s2 := tx_le (s:=strOfNums ((gk a.2.1 i).drop (cpl (Lfv.kp a.2.1 i) (gk a.2.1 i)))) (by rw [son_size,List.length_drop]; omega)
  rw [son_size,List.length_drop] at s2
  rw [kent,List.length_append]
  omega
theorem Sm.vent_le {a:Lf} (h:Sm a) {i:Nat} (hi:i<a.2.1.length):(vent a i).length≤1100 := by
  unfold vent
  by_cases h0:a.1=0
  · rw [if_pos h0]
    have h1 := h.vs i (by rw [(h.v h0).1]; exact hi)
    have s2 := tx_le (s:=strOfNums (gk a.2.2.1 i)) (by rw [son_size]; omega)
    rw [son_size] at s2
    omega
  · rw [if_neg h0,putL_len]
    simp
theorem bytes_jo2 {a:Lf} (h:Sm a) {i:Nat} (hi:i<a.2.1.length) {acc:List Int} (hacc:acc.length≤100000000) {k:Nat} (hk:300≤k) (g:List Int→List Int→Int→Option (List Int)) :
    leaf_Node_bytes.jo2 a acc (kp a.2.1 i) (i:Int) k g=g ((acc++kent a i)++vent a i) (gk a.2.1 i) ((i+1:Nat):Int) := by
  have h1 := h.ks i hi
  have h2 := cpl_le (kp a.2.1 i) (gk a.2.1 i)
  have h3 := h.kp (i:=i) (by omega)
  have h4 := h.n
  have s1 := sx_le (v:=((cpl (kp a.2.1 i) (gk a.2.1 i):Nat):Int)) (by omega) (by omega)
  have s2 := tx_le (s:=strOfNums ((gk a.2.1 i).drop (cpl (kp a.2.1 i) (gk a.2.1 i)))) (by rw [son_size,List.length_drop]; omega)
  rw [son_size,List.length_drop] at s2
  have ek := h.kent_le hi
  have ev := h.vent_le hi
  unfold leaf_Node_bytes.jo2
  simp only [Int.toNat_natCast]
  show (if 0≤(i:Int) then (if (i:Int)<(a.2.1.length:Int) then (leaf_shared.f k (kp a.2.1 i) (gk a.2.1 i)).bind _ else none) else none)=_
  rw [if_pos (by omega),if_pos (by omega),shared_val (by omega) (by omega)]
  simp only [Option.bind_some,lt]
  generalize hc:cpl (kp a.2.1 i) (gk a.2.1 i)=c at *
  rw [wu64,show (c:Int) % 18446744073709551616=c by omega,short_is (by simp) (by omega) (by omega) (by omega)]
  simp only [Option.bind_some,List.nil_append]
  rw [if_pos (by omega),if_pos (by omega),if_pos (by show (c:Int)≤((gk a.2.1 i).length:Int); omega),Int.toNat_natCast]
  show ((codec_Text.f k [] (strOfNums ((gk a.2.1 i).drop c))).bind _)=_
  rw [text_is (by rw [son_size,List.length_drop]; simp; omega) (by omega)]
  simp only [Option.bind_some,List.nil_append]
  have hl:kent a i=sx (c:Int)++tx (strOfNums ((gk a.2.1 i).drop c)) := by rw [kent,hc]
  rw [if_pos (by rw [List.length_append]; omega)]
  unfold vent at ev ⊢
  by_cases h0:a.1=0
  · rw [if_pos h0] at ev
    have hv := h.v h0
    have h5 := h.vs i (by omega)
    rw [if_pos h0,if_pos h0,if_pos (by omega)]
    show ((codec_Text.f k [] (strOfNums (gk a.2.2.1 i))).bind _)=_
    rw [text_is (by rw [son_size]; simp; omega) (by omega)]
    simp only [Option.bind_some,List.nil_append]
    rw [if_pos (by rw [List.length_append,List.length_append]; omega),wi64 (by omega) (by omega),hl]
    simp only [List.append_assoc]
    rfl
  · rw [if_neg h0] at ev
    have hp := h.p h0
    rw [if_neg h0,if_neg h0,if_pos (by omega)]
    show ((pointer_Put.f k [] (gp a.2.2.2 i)).bind _)=_
    rw [Put_val (by simp) _ (by omega)]
    simp only [Option.bind_some]
    rw [if_pos (by rw [List.length_append,List.length_append]; omega),wi64 (by omega) (by omega),hl]
    simp only [List.append_assoc]
    rfl
theorem bytes_lo1 {a:Lf} (h:Sm a):∀ (j i k:Nat) (acc:List Int),i+j=a.2.1.length→j+300<k→acc.length+2000*j≤10000000→leaf_Node_bytes.lo1 a k acc (kp a.2.1 i) (i:Int)=some (acc++ents a j i) := by
  intro j
  induction j with
  | zero =>
    intro i k acc hi hk hacc
    obtain ⟨k,rfl⟩:∃ m,k=m+1 := ⟨k - 1,by omega⟩
    rw [leaf_Node_bytes.lo1,if_neg (by omega)]
    simp [ents]
  | succ j ih =>
    intro i k acc hi hk hacc
    obtain ⟨k,rfl⟩:∃ m,k=m+1 := ⟨k - 1,by omega⟩
    have q1:i<a.2.1.length := by omega
    have q2:acc.length≤100000000 := by omega
    have q3:300≤k := Nat.le_of_lt_succ (Nat.lt_of_le_of_lt (Nat.le_add_left 300 (j+1)) hk)
    have ek := h.kent_le q1
    have ev := h.vent_le q1
    have hj2 := bytes_jo2 h q1 q2 q3 (leaf_Node_bytes.lo1 a k)
    rw [leaf_Node_bytes.lo1,if_pos (by omega),hj2]
    have q4:((acc++kent a i)++vent a i).length+2000*j≤10000000 := by
      rw [List.length_append,List.length_append]
      generalize (kent a i).length=x at *
      generalize (vent a i).length=y at *
      omega
    clear ek ev
    have := ih (i+1) k ((acc++kent a i)++vent a i) (by omega) (by omega) q4
    refine Eq.trans this ?_
    rw [ents]
    simp only [List.append_assoc]
theorem bytes_val {a:Lf} (h:Sm a) {k:Nat} (hk:5000≤k):leaf_Node_bytes.f k a=some (enc a) := by
  have h1 := h.lvl
  have h4 := h.n
  have s1 := sx_le (u0 a.1) (u1 _)
  have s2 := sx_le (v:=(a.2.1.length:Int)) (by omega) (by omega)
  unfold leaf_Node_bytes.f
  rw [show IntKind.wrap .u64 a.1=u a.1 from wu64 _,wu64,show (a.2.1.length:Int) % 18446744073709551616=a.2.1.length by omega,short_is (by simp) (u0 _) (u1 _) (by omega)]
  simp only [Option.bind_some,List.nil_append]
  rw [short_is (by omega) (by omega) (by omega) (by omega)]
  simp only [Option.bind_some]
  have := bytes_lo1 h a.2.1.length 0 k (sx (u a.1)++sx (a.2.1.length:Int)) (by omega) (by omega) (by rw [List.length_append]; omega)
  refine Eq.trans this ?_
  rw [enc,List.append_assoc]
theorem nandn {c:Prop} [Decidable c] {X:Option Bool} {x:Bool} (h:¬ c→X=some x):(if c then some false else X)=some (!decide c&&x) := by
  by_cases e:c
  · rw [if_pos e,decide_eq_true e]; rfl
  · rw [if_neg e,h e,decide_eq_false e]; rfl
theorem andn {b:Bool} {X:Option Bool} {x:Bool} (h:b=true→X=some x):(if b=true then X else some false)=some (b&&x) := by
  cases b
  · rfl
  · exact h rfl
def lsB (a:Lf):Bool := if a.1=0 then decide (a.2.2.1.length=a.2.1.length∧a.2.2.2.length=0) else decide (a.2.2.2.length=a.2.1.length∧a.2.2.1.length=0)
def kok (l:List (List Int)) (i:Nat):Bool := decide ((gk l i).length≤160)&&(decide (i=0) || bL (ka l (i - 1)) (ka l i))
def kall (l:List (List Int)):Nat→Nat→Bool
  | 0,_=>true
  | j+1,i=>kok l i&&kall l j (i+1)
def vall (l:List (List Int)):Nat→Nat→Bool
  | 0,_=>true
  | j+1,i=>decide ((gk l i).length≤1024)&&vall l j (i+1)
def pall (l:List Pt):Nat→Nat→Bool
  | 0,_=>true
  | j+1,i=>rightB (gp l i)&&pall l j (i+1)
def shp (a:Lf):Bool := !decide (a.1<0)&&(!decide (a.1 > 12)&&(!decide ((a.2.1.length:Int)=0)&&(!decide ((a.2.1.length:Int) > 4096)&&(lsB a&&(kall a.2.1 a.2.1.length 0&&(vall a.2.2.1 a.2.2.1.length 0&&pall a.2.2.2 a.2.2.2.length 0))))))
theorem kall_get {l:List (List Int)}:∀ (j i:Nat),kall l j i=true→∀ m,i≤m→m<i+j→kok l m=true := by
  intro j
  induction j with
  | zero=>intro i h m h1 h2; omega
  | succ j ih =>
    intro i h m h1 h2
    rw [kall,Bool.and_eq_true] at h
    by_cases e:m=i
    · subst e; exact h.1
    · exact ih (i+1) h.2 m (by omega) (by omega)
theorem vall_get {l:List (List Int)}:∀ (j i:Nat),vall l j i=true→∀ m,i≤m→m<i+j→(gk l m).length≤1024 := by
  intro j
  induction j with
  | zero=>intro i h m h1 h2; omega
  | succ j ih =>
    intro i h m h1 h2
    rw [vall,Bool.and_eq_true] at h
    by_cases e:m=i
    · subst e; exact of_decide_eq_true h.1
    · exact ih (i+1) h.2 m (by omega) (by omega)
theorem pall_get {l:List Pt}:∀ (j i:Nat),pall l j i=true→∀ m,i≤m→m<i+j→rightB (gp l m)=true := by
  intro j
  induction j with
  | zero=>intro i h m h1 h2; omega
  | succ j ih =>
    intro i h m h1 h2
    rw [pall,Bool.and_eq_true] at h
    by_cases e:m=i
    · subst e; exact h.1
    · exact ih (i+1) h.2 m (by omega) (by omega)
theorem shape_jo5 {a:Lf} (hn:a.2.1.length≤4096) {i:Nat} (hi:i<a.2.1.length) (k:Nat) (g:Int→Option Bool):leaf_Node_shape.jo5 a (i:Int) k g=if kok a.2.1 i=true then g ((i+1:Nat):Int) else some false := by
  unfold leaf_Node_shape.jo5
  rw [if_pos (by omega),if_pos (by omega)]
  simp only [lt,Int.toNat_natCast]
  show (if ((gk a.2.1 i).length:Int) > 160 then some false else _)=_
  unfold kok
  by_cases h1:(gk a.2.1 i).length≤160
  · rw [if_neg (by omega),decide_eq_true h1,Bool.true_and]
    by_cases h2:i=0
    · subst h2
      rw [if_neg (by omega)]
      rfl
    · rw [if_pos (by omega),wi64 (n:=(i:Int) - 1) (by omega) (by omega),if_pos (by omega),if_pos (by omega),decide_eq_false h2,Bool.false_or,show ((i:Int) - 1).toNat=i - 1 by omega]
      simp only [bytes_Compare.f,Option.bind_some]
      show (if bcmp (gk a.2.1 (i - 1)) (gk a.2.1 i)≥0 then some false else _)=_
      by_cases h3:bL (ka a.2.1 (i - 1)) (ka a.2.1 i)=true
      · have := (bcmp_lt (gk a.2.1 (i - 1)) (gk a.2.1 i)).2 h3
        rw [if_neg (by omega),if_pos h3,wi64 (by omega) (by omega)]
        rfl
      · have:¬ bcmp (gk a.2.1 (i - 1)) (gk a.2.1 i)<0 := fun e=>h3 ((bcmp_lt _ _).1 e)
        rw [if_pos (by omega),if_neg h3]
  · rw [if_pos (by omega),decide_eq_false h1]
    rfl
theorem shape_lo4 {a:Lf} (hn:a.2.1.length≤4096) (J:Option Bool):∀ (j i k:Nat),i+j=a.2.1.length→j<k→leaf_Node_shape.lo4 a J k (i:Int)=if kall a.2.1 j i=true then J else some false := by
  intro j
  induction j with
  | zero =>
    intro i k hi hk
    obtain ⟨k,rfl⟩:∃ m,k=m+1 := ⟨k - 1,by omega⟩
    rw [leaf_Node_shape.lo4,if_neg (by omega)]
    rfl
  | succ j ih =>
    intro i k hi hk
    obtain ⟨k,rfl⟩:∃ m,k=m+1 := ⟨k - 1,by omega⟩
    rw [leaf_Node_shape.lo4,if_pos (by omega),shape_jo5 hn (by omega),ih (i+1) k (by omega) (by omega),kall]
    cases kok a.2.1 i <;> rfl
theorem idx_lo1 {l:List Pt} (hn:l.length≤4096):∀ (j i k:Nat),i+j=l.length→j<k→∃ x,slices_IndexFunc_97_s71.lo1 l k (i:Int)=some x∧(decide (x≥0)=!pall l j i) := by
  intro j
  induction j with
  | zero =>
    intro i k hi hk
    obtain ⟨k,rfl⟩:∃ m,k=m+1 := ⟨k - 1,by omega⟩
    rw [slices_IndexFunc_97_s71.lo1,if_neg (by omega)]
    exact ⟨-1,rfl,rfl⟩
  | succ j ih =>
    intro i k hi hk
    obtain ⟨k,rfl⟩:∃ m,k=m+1 := ⟨k - 1,by omega⟩
    rw [slices_IndexFunc_97_s71.lo1,if_pos (by omega),if_pos (by omega),Int.toNat_natCast,pall]
    unfold leaf_Node_shape_1.f
    rw [Right_val]
    simp only [Option.bind_some]
    show ∃ x,(if (!rightB (gp l i))=true then some (i:Int) else _)=some x∧_
    cases h:rightB (gp l i)
    · exact ⟨(i:Int),rfl,decide_eq_true (by omega)⟩
    · obtain ⟨x,e,hx⟩ := ih (i+1) k (by omega) (by omega)
      refine ⟨x,?_,hx⟩
      rw [if_neg (by decide),wi64 (by omega) (by omega)]
      exact e
theorem shape_lo3 {a:Lf} (hv:a.2.2.1.length≤4096) (hp:a.2.2.2.length≤4096):∀ (j i k:Nat),i+j=a.2.2.1.length→j+5000<k→leaf_Node_shape.lo3 a k (i:Int)=some (vall a.2.2.1 j i&&pall a.2.2.2 a.2.2.2.length 0) := by
  intro j
  induction j with
  | zero =>
    intro i k hi hk
    obtain ⟨k,rfl⟩:∃ m,k=m+1 := ⟨k - 1,by omega⟩
    obtain ⟨x,e,hx⟩ := idx_lo1 hp a.2.2.2.length 0 k (by omega) (by omega)
    rw [leaf_Node_shape.lo3,if_neg (by omega)]
    unfold slices_ContainsFunc_70_s71.f slices_IndexFunc_97_s71.f
    rw [show (0:Int)=((0:Nat):Int) from rfl,e]
    simp only [Option.bind_some]
    rw [show decide (x≥((0:Nat):Int))=!pall a.2.2.2 a.2.2.2.length 0 from hx,Bool.not_not]
    rfl
  | succ j ih =>
    intro i k hi hk
    obtain ⟨k,rfl⟩:∃ m,k=m+1 := ⟨k - 1,by omega⟩
    rw [leaf_Node_shape.lo3,if_pos (by omega),if_pos (by omega),Int.toNat_natCast,vall]
    simp only [lt]
    show (if ((gk a.2.2.1 i).length:Int) > 1024 then some false else _)=_
    by_cases h:(gk a.2.2.1 i).length≤1024
    · rw [if_neg (by omega),wi64 (by omega) (by omega),decide_eq_true h,Bool.true_and]
      exact ih (i+1) k (by omega) (by omega)
    · rw [if_pos (by omega),decide_eq_false h]
      rfl
theorem lists_val (k:Nat) (a:Lf):leaf_Node_lists.f k a=some (lsB a) := by
  unfold leaf_Node_lists.f lsB
  by_cases h:a.1=0
  · rw [if_pos h,if_pos h]
    by_cases h2:a.2.2.1.length=a.2.1.length
    · rw [if_pos (by omega)]; congr 1; exact decide_eq_decide.2 (by omega)
    · rw [if_neg (by omega),decide_eq_false (by omega)]
  · rw [if_neg h,if_neg h]
    by_cases h2:a.2.2.2.length=a.2.1.length
    · rw [if_pos (by omega)]; congr 1; exact decide_eq_decide.2 (by omega)
    · rw [if_neg (by omega),decide_eq_false (by omega)]
theorem lsB_len {a:Lf} (h:lsB a=true):(a.1=0→a.2.2.1.length=a.2.1.length∧a.2.2.2.length=0)∧(a.1≠0→a.2.2.2.length=a.2.1.length∧a.2.2.1.length=0) := by
  unfold lsB at h
  split at h
  · rename_i h0
    exact ⟨fun _=>of_decide_eq_true h,fun e=>absurd h0 e⟩
  · rename_i h0
    exact ⟨fun e=>absurd e h0,fun _=>of_decide_eq_true h⟩
theorem lsB_le {a:Lf} (h:lsB a=true) (hn:a.2.1.length≤4096):a.2.2.1.length≤4096∧a.2.2.2.length≤4096 := by
  have := lsB_len h
  by_cases h0:a.1=0
  · have := this.1 h0; omega
  · have := this.2 h0; omega
theorem shape_val {a:Lf} {k:Nat} (hk:20000≤k):leaf_Node_shape.f k a=some (shp a) := by
  unfold leaf_Node_shape.f shp
  refine nandn fun h1=>nandn fun h2=>nandn fun h3=>nandn fun h4=>?_
  rw [show leaf_Node_lists.f k (a.1,a.2.1,a.2.2.1,a.2.2.2)=some (lsB a) from lists_val k a]
  simp only [Option.bind_some]
  refine andn fun h5=>?_
  have h6 := lsB_le h5 (by omega)
  unfold leaf_Node_shape.jo1 leaf_Node_shape.jo2
  have e3 := shape_lo3 (a:=a) h6.1 h6.2 a.2.2.1.length 0 k (by omega) (by omega)
  have e4 := shape_lo4 (a:=a) (by omega) (leaf_Node_shape.lo3 a k 0) a.2.1.length 0 k (by omega) (by omega)
  refine Eq.trans e4 ?_
  refine andn fun _=>?_
  exact e3
theorem shp_sm {a:Lf} (h:shp a=true):Sm a∧Asc a.2.1∧∀ i,i<a.2.2.2.length→rightB (gp a.2.2.2 i)=true := by
  unfold shp at h
  simp only [Bool.and_eq_true,Bool.not_eq_true',decide_eq_false_iff_not] at h
  obtain ⟨h1,h2,h3,h4,h5,h6,h7,h8⟩ := h
  have h9 := lsB_len h5
  refine ⟨⟨by omega,by omega,h9.1,h9.2,fun i hi=>?_,fun i hi=>vall_get _ _ h7 i (by omega) (by omega)⟩,fun i hi=>?_,fun i hi=>pall_get _ _ h8 i (by omega) (by omega)⟩
  · have := kall_get _ _ h6 i (by omega) (by omega)
    unfold kok at this
    rw [Bool.and_eq_true] at this
    exact of_decide_eq_true this.1
  · have := kall_get _ _ h6 (i+1) (by omega) (by omega)
    unfold kok at this
    rw [Bool.and_eq_true,decide_eq_false (p:=i+1=0) (by omega),Bool.false_or,Nat.add_sub_cancel] at this
    exact this.2
noncomputable def rok (a:Lf):Bool := shp a&&decide (((enc a).length:Int)≤4096)
theorem right_val {a:Lf} {k:Nat} (hk:20000≤k):leaf_Right.f k a=some (rok a) := by
  unfold leaf_Right.f rok
  rw [show leaf_Node_shape.f k (a.1,a.2.1,a.2.2.1,a.2.2.2)=some (shp a) from shape_val hk]
  simp only [Option.bind_some]
  refine andn fun h=>?_
  rw [show leaf_Node_bytes.f k (a.1,a.2.1,a.2.2.1,a.2.2.2)=some (enc a) from bytes_val (shp_sm h).1 (by omega)]
  rfl
noncomputable def putS (a:Lf):List Int × Int := if shp a=true then (if ((enc a).length:Int) > 4096 then ([],3) else (enc a,0)) else ([],2)
end Go.Proofs.Ythhhkphbhlafbaa.Lfv
