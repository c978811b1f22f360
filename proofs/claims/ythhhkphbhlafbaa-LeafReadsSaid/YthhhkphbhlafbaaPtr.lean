/- Pointers: what the program and the document compute of them, as plain functions; no condition. -/
import Derived.Test.YthhhkphbhlafbaaCod3
set_option linter.unusedVariables false
set_option linter.unusedSimpArgs false
namespace Go.Proofs.Ythhhkphbhlafbaa.Ptr
open Go Go.RowKit Go.Proofs.Ythhhkphbhlafbaa.Sx Go.Proofs.Ythhhkphbhlafbaa.G Go.Proofs.Ythhhkphbhlafbaa.Bt Go.Proofs.Ythhhkphbhlafbaa.Cod
abbrev Pt := Int × Int × Int × Int × Vc Int 32
def zp:Pt := (0,0,0,0,vrep 32 0)
def secs (n:Int):Int := if n<1 then 0 else if n > 65536 then 0 else (n+511) / 512
theorem secs_bound (n:Int):0≤secs n∧secs n≤128∧(secs n > 0 ↔ 1≤n∧n≤65536) := by
  unfold secs
  split
  · omega
  · split <;> omega
theorem Sectors_val (k:Nat) (a:Pt):pointer_Sectors.f k a=some (secs a.2.2.1) := by
  unfold pointer_Sectors.f secs
  split
  · rfl
  · split
    · rfl
    · simp only [lt]
      rw [wi64 (n:=a.2.2.1+512) (by omega) (by omega),wi64 (n:=a.2.2.1+512 - 1) (by omega) (by omega),td _ (by omega),wi64 (by omega) (by omega)]
      congr 1
      omega
theorem rSectors_val (k:Nat) (a:Pt):shadowboxref06_Sectors.f k a=some (secs a.2.2.1) := by
  unfold shadowboxref06_Sectors.f secs
  split
  · rfl
  · split
    · rfl
    · simp only [lt]
      rw [wi64 (n:=a.2.2.1+511) (by omega) (by omega),td _ (by omega),wi64 (by omega) (by omega)]
def rightB (a:Pt):Bool := decide (1≤a.2.1∧a.2.1≤1152921504606846976∧1≤a.2.2.1∧a.2.2.1≤65536∧2≤a.1∧a.1+secs a.2.2.1≤8192)
theorem Right1_val (k:Nat) (x lo hi:Int):pointer_Right_1.f k x lo hi=some (decide (lo≤x∧x≤hi)) := by
  unfold pointer_Right_1.f
  by_cases h:x≥lo
  · rw [if_pos h]
    simp
    omega
  · rw [if_neg h]
    simp
    omega
theorem Right_val (k:Nat) (a:Pt):pointer_Right.f k a=some (rightB a) := by
  have hs := secs_bound a.2.2.1
  unfold pointer_Right.f rightB
  rw [Right1_val,Sectors_val]
  simp only [Option.bind_some,Right1_val]
  by_cases h1:1≤a.2.1∧a.2.1≤1152921504606846976
  · rw [if_pos (by simpa using h1)]
    by_cases h2:secs a.2.2.1 > 0
    · rw [if_pos h2,wi64 (by omega) (by omega)]
      congr 1
      apply decide_eq_decide.2
      omega
    · rw [if_neg h2]
      congr 1
      symm
      apply decide_eq_false
      omega
  · rw [if_neg (by simpa using h1)]
    congr 1
    symm
    apply decide_eq_false
    omega
theorem rRight_val (k:Nat) (a:Pt):shadowboxref06_Right.f k a=some (rightB a) := by
  have hs := secs_bound a.2.2.1
  unfold shadowboxref06_Right.f rightB
  rw [rSectors_val]
  simp only [Option.bind_some]
  by_cases h:1≤a.2.1∧a.2.1≤1152921504606846976∧1≤a.2.2.1∧a.2.2.1≤65536∧2≤a.1∧a.1≤8192
  · repeat rw [if_pos (by omega)]
    rw [wi64 (by omega) (by omega)]
    congr 1
    apply decide_eq_decide.2
    omega
  · have:decide (1≤a.2.1∧a.2.1≤1152921504606846976∧1≤a.2.2.1∧a.2.2.1≤65536∧2≤a.1∧a.1+secs a.2.2.1≤8192)=false := decide_eq_false (by omega)
    rw [this]
    split <;> try rfl
    split <;> try rfl
    split <;> try rfl
    split <;> try rfl
    split <;> try rfl
    split <;> try rfl
    omega
def noneB (a:Pt):Bool := (a.1==(0:Int))&&((a.2.1==(0:Int))&&((a.2.2.1==(0:Int))&&((a.2.2.2.1==(0:Int))&&(a.2.2.2.2.1==(vrep 32 (0:Int)).1))))
theorem None_val (k:Nat) (a:Pt):pointer_None.f k a=some (noneB a) := rfl
theorem rNone_lo2 (a:Pt):∀ (j k x:Nat),x+j=32→j<k→∃ r,shadowboxref06_None.lo2 a k (x:Int)=some r∧(r=true ↔ ∀ i,i<32→x≤i→a.2.2.2.2.1.getD i 0=0) := by
  intro j
  induction j with
  | zero =>
    intro k x h1 h2
    obtain ⟨k,rfl⟩:∃ k',k=k'+1 := ⟨k - 1,by omega⟩
    rw [shadowboxref06_None.lo2,if_neg (by omega)]
    exact ⟨true,rfl,⟨fun _ i h3 h4=>absurd h3 (by omega),fun _=>rfl⟩⟩
  | succ j ih =>
    intro k x h1 h2
    obtain ⟨k,rfl⟩:∃ k',k=k'+1 := ⟨k - 1,by omega⟩
    rw [shadowboxref06_None.lo2,if_pos (by omega),if_pos (by omega)]
    simp only [lt]
    rw [Int.toNat_natCast]
    by_cases h0:a.2.2.2.2.1.getD x 0=0
    · rw [if_pos h0,wi64 (by omega) (by omega),show (x:Int)+1=((x+1:Nat):Int) by omega]
      obtain ⟨r,e,hr⟩ := ih k (x+1) (by omega) (by omega)
      refine ⟨r,e,hr.trans ⟨?_,?_⟩⟩
      · intro h i h3 h4
        by_cases e:i=x
        · rw [e]; exact h0
        · exact h i h3 (by omega)
      · intro h i h3 h4
        exact h i h3 (by omega)
    · rw [if_neg h0]
      exact ⟨false,rfl,⟨fun h=>absurd h (by decide),fun h=>absurd (h x (by omega) (by omega)) h0⟩⟩
theorem zeros_iff (v:Vc Int 32):v.1=(vrep 32 (0:Int)).1 ↔ ∀ i,i<32→0≤i→v.1.getD i 0=0 := by
  constructor
  · intro h i hi _
    rw [h]
    show (List.replicate 32 (0:Int)).getD i 0=0
    rw [List.getD_eq_getElem?_getD,List.getElem?_replicate]
    split <;> rfl
  · intro h
    apply List.ext_getElem?
    intro i
    by_cases hi:i<32
    · have hl:i<v.1.length := by rw [v.2]; exact hi
      have := h i hi (Nat.zero_le _)
      rw [List.getD_eq_getElem?_getD,List.getElem?_eq_getElem hl] at this
      rw [List.getElem?_eq_getElem hl]
      show _=(List.replicate 32 (0:Int))[i]?
      rw [List.getElem?_replicate,if_pos hi]
      simpa using this
    · rw [List.getElem?_eq_none (by rw [v.2]; omega)]
      show _=(List.replicate 32 (0:Int))[i]?
      rw [List.getElem?_replicate,if_neg hi]
theorem rNone_val {k:Nat} (hk:40≤k) (a:Pt):shadowboxref06_None.f k a=some (noneB a) := by
  unfold shadowboxref06_None.f shadowboxref06_None.jo1 noneB
  obtain ⟨r,e,hr⟩ := rNone_lo2 a 32 k 0 (by omega) (by omega)
  rw [show ((0:Nat):Int)=0 from rfl] at e
  rw [e]
  have hz := (zeros_iff a.2.2.2.2).trans hr.symm
  by_cases h1:a.1=0
  · by_cases h2:a.2.1=0
    · by_cases h3:a.2.2.1=0
      · by_cases h4:a.2.2.2.1=0
        · rw [if_pos h1,if_pos h2,if_pos h3,if_pos h4,h1,h2,h3,h4]
          congr 1
          simp only [beq_self_eq_true,Bool.true_and]
          rw [Bool.eq_iff_iff,← hz]
          simp
        · rw [if_pos h1,if_pos h2,if_pos h3,if_neg h4]; simp [h4]
      · rw [if_pos h1,if_pos h2,if_neg h3]; simp [h3]
    · rw [if_pos h1,if_neg h2]; simp [h2]
  · rw [if_neg h1]; simp [h1]
def u (x:Int):Int := IntKind.wrap .u64 x
theorem u_u64 (x:Int):0≤u x∧u x<18446744073709551616 := by unfold u; rw [wu64]; omega
def putL (l:List Int) (a:Pt):List Int := fixS (fixS (fixS (fixS l 4 [u a.1]) 4 [u a.2.2.1]) 8 [u a.2.1]) 4 [u a.2.2.2.1]++a.2.2.2.2.1
theorem fix4 (l:List Int) (v:Int):fixS l 4 [v]=l++le 4 v := by simp [fixS]
theorem fix8 (l:List Int) (v:Int):fixS l 8 [v]=l++le 8 v := by simp [fixS]
theorem fix44 (l:List Int) (v w:Int):fixS l 4 [v,w]=fixS (fixS l 4 [v]) 4 [w] := by simp [fixS]
theorem Put_val {l:List Int} (hl:l.length≤100000) (a:Pt) {k:Nat} (hk:20≤k):pointer_Put.f k l a=some (putL l a) := by
  unfold pointer_Put.f
  rw [codec_Fixed_val (by simp; omega) _ (by simp; omega),fix44]
  simp only [Option.bind_some]
  rw [codec_Fixed_val (by simp [fix4,le_length]; omega) _ (by simp; omega)]
  simp only [Option.bind_some]
  rw [codec_Fixed_val (by simp [fix4,fix8,le_length]; omega) _ (by simp; omega)]
  simp only [Option.bind_some]
  rw [if_pos (by rw [a.2.2.2.2.2]; simp [fix4,fix8,le_length]; omega)]
  rfl
theorem rPut_lo1 (a:Pt):∀ (j k x:Nat) (m:List Int),x+j=32→j<k→m.length+j≤200000→shadowboxref06_Put.lo1 a k m (x:Int)=some (m++a.2.2.2.2.1.drop x) := by
  intro j
  induction j with
  | zero =>
    intro k x m h1 h2 h3
    obtain ⟨k,rfl⟩:∃ k',k=k'+1 := ⟨k - 1,by omega⟩
    rw [shadowboxref06_Put.lo1,if_neg (by omega),List.drop_of_length_le (by rw [a.2.2.2.2.2]; omega)]
    simp
  | succ j ih =>
    intro k x m h1 h2 h3
    obtain ⟨k,rfl⟩:∃ k',k=k'+1 := ⟨k - 1,by omega⟩
    rw [shadowboxref06_Put.lo1,if_pos (by omega),if_pos (by omega)]
    simp only [lt]
    rw [if_pos (by simp; omega),Int.toNat_natCast,wi64 (by omega) (by omega),show (x:Int)+1=((x+1:Nat):Int) by omega,ih k (x+1) _ (by omega) (by omega) (by simp; omega)]
    have hx:x<a.2.2.2.2.1.length := by rw [a.2.2.2.2.2]; omega
    rw [List.drop_eq_getElem_cons hx,List.getD_eq_getElem?_getD,List.getElem?_eq_getElem hx]
    simp
theorem rPut_val {l:List Int} (hl:l.length≤100000) (a:Pt) {k:Nat} (hk:40≤k):shadowboxref06_Put.f k l a=some (putL l a) := by
  unfold shadowboxref06_Put.f
  have hu := u_u64
  unfold u at hu
  rw [refFixed_val (by omega) _ _ (hu _).1 (hu _).2 (by omega)]
  simp only [Option.bind_some]
  rw [refFixed_val (by simp [fix4,le_length]; omega) _ _ (hu _).1 (hu _).2 (by omega)]
  simp only [Option.bind_some]
  rw [refFixed_val (by simp [fix4,le_length]; omega) _ _ (hu _).1 (hu _).2 (by omega)]
  simp only [Option.bind_some]
  rw [refFixed_val (by simp [fix4,fix8,le_length]; omega) _ _ (hu _).1 (hu _).2 (by omega)]
  simp only [Option.bind_some]
  have := rPut_lo1 a 32 k 0 (fixS (fixS (fixS (fixS l 4 [u a.1]) 4 [u a.2.2.1]) 8 [u a.2.1]) 4 [u a.2.2.2.1]) (by omega) (by omega) (by simp [fix4,fix8,le_length]; omega)
  exact this
def ptOf (l:List Int):Pt := (IntKind.wrap .i64 (val (l.take 4)),IntKind.wrap .i64 (val ((l.drop 8).take 8)),IntKind.wrap .i64 (val ((l.drop 4).take 4)),IntKind.wrap .u32 (val ((l.drop 16).take 4)),vpad 32 0 ((l.drop 20).take 32))
def readL (l:List Int):Pt × Int :=
  if (l.length:Int)<52 then (zp,10) else if noneB (ptOf l)=true then (ptOf l,0) else if rightB (ptOf l)=true then (ptOf l,0) else (zp,11)
theorem take_ex {l:List Int} {n:Int} (h1:1≤n) (h8:n≤8) (hl:(l.length:Int)=n):takeS l n=(val l,[],true) := by
  unfold takeS
  rw [if_neg (by omega),if_neg (by omega),if_neg (by omega),List.take_of_length_le (by omega),List.drop_of_length_le (by omega)]
theorem Read1_val {v:List Int} (hb:Bytes v) {n:Int} (h1:1≤n) (h8:n≤8) (hn:n≤(v.length:Int)) (hl:v.length≤100000) {k:Nat} (hk:10≤k):pointer_Read_1.f k n v=some (val (v.take n.toNat),v.drop n.toNat) := by
  unfold pointer_Read_1.f
  rw [if_pos (by omega),if_pos (by omega)]
  simp only [lt]
  rw [codec_Take_val (hb.take _) (by simp; omega) _ (by omega),take_ex h1 h8 (by simp; omega)]
  rfl
theorem Read_val {l:List Int} (hb:Bytes l) (hl:l.length≤100000) {k:Nat} (hk:40≤k):pointer_Read.f k l=some (readL l) := by
  unfold pointer_Read.f readL
  by_cases h:(l.length:Int)<52
  · rw [if_pos h,if_pos h]; rfl
  · rw [if_neg h,if_neg h]
    unfold pointer_Read.jo1
    rw [if_pos (by omega)]
    simp only [lt]
    rw [show ((52:Int)).toNat=52 from rfl,Read1_val (hb.take _) (by omega) (by omega) (by simp; omega) (by simp; omega) (by omega)]
    simp only [Option.bind_some]
    rw [Read1_val ((hb.take _).drop _) (by omega) (by omega) (by simp; omega) (by simp; omega) (by omega)]
    simp only [Option.bind_some]
    rw [Read1_val (((hb.take _).drop _).drop _) (by omega) (by omega) (by simp; omega) (by simp; omega) (by omega)]
    simp only [Option.bind_some]
    rw [Read1_val ((((hb.take _).drop _).drop _).drop _) (by omega) (by omega) (by simp; omega) (by simp; omega) (by omega)]
    simp only [Option.bind_some]
    rw [if_pos (by simp; omega),show ((4:Int)).toNat=4 from rfl,show ((8:Int)).toNat=8 from rfl]
    have e:(IntKind.wrap .i64 (val ((l.take 52).take 4)),IntKind.wrap .i64 (val (((((l.take 52).drop 4).drop 4)).take 8)),IntKind.wrap .i64 (val (((l.take 52).drop 4).take 4)),IntKind.wrap .u32 (val ((((((l.take 52).drop 4).drop 4)).drop 8).take 4)),vpad 32 0 (((((l.take 52).drop 4).drop 4).drop 8).drop 4))=ptOf l := by
      simp [ptOf,List.drop_take,List.take_take,List.drop_drop]
    rw [e,None_val,Right_val]
    simp only [Option.bind_some]
    split
    · rfl
    · split <;> rfl
def fillv (l:List Int) (x:Nat):Vc Int 32 := ⟨(List.range 32).map fun i=>if i<x then l.getD (20+i) 0 else 0,by simp⟩
theorem fillv_step (l:List Int) {x:Nat} (hx:x<32):vset (fillv l x) x (l.getD (20+x) 0)=fillv l (x+1) := by
  apply Subtype.ext
  apply List.ext_getElem?
  intro i
  simp only [vset,fillv,List.getElem?_set,List.length_map,List.length_range,List.getElem?_map]
  by_cases e:x=i
  · subst e
    simp [hx]
  · rw [if_neg e]
    by_cases hi:i<32
    · rw [List.getElem?_range hi]
      simp only [Option.map_some]
      by_cases h:i<x
      · rw [if_pos h,if_pos (by omega)]
      · rw [if_neg h,if_neg (by omega)]
    · rw [List.getElem?_eq_none (by simp; omega)]
      rfl
theorem fillv_all {l:List Int} (hl:52≤l.length):fillv l 32=vpad 32 0 ((l.drop 20).take 32) := by
  apply Subtype.ext
  rw [vpad_val (by simp; omega)]
  apply List.ext_getElem?
  intro i
  simp only [fillv,List.getElem?_map,List.take_take,Nat.min_self,List.getElem?_take,List.getElem?_drop]
  by_cases hi:i<32
  · rw [List.getElem?_range hi,if_pos hi]
    simp only [Option.map_some]
    rw [if_pos hi,List.getD_eq_getElem?_getD,List.getElem?_eq_getElem (by omega)]
    rfl
  · rw [List.getElem?_eq_none (by simp; omega),if_neg hi]
    rfl
theorem rRead_lo2 {l:List Int} (hl:52≤l.length) (hl2:l.length≤100000) (a b c d:Int):∀ (j k x:Nat),x+j=32→j+40<k→shadowboxref06_Read.lo2 l k (x:Int) (a,b,c,d,fillv l x) =
    (if noneB (a,b,c,d,fillv l 32)=true then some ((a,b,c,d,fillv l 32),0) else if rightB (a,b,c,d,fillv l 32)=true then some ((a,b,c,d,fillv l 32),0) else some (zp,11)) := by
  intro j
  induction j with
  | zero =>
    intro k x h1 h2
    obtain ⟨k,rfl⟩:∃ k',k=k'+1 := ⟨k - 1,by omega⟩
    rw [shadowboxref06_Read.lo2,if_neg (by omega),rNone_val (by omega),rRight_val,show x=32 by omega]
    rfl
  | succ j ih =>
    intro k x h1 h2
    obtain ⟨k,rfl⟩:∃ k',k=k'+1 := ⟨k - 1,by omega⟩
    rw [shadowboxref06_Read.lo2,if_pos (by omega),wi64 (n:=20+(x:Int)) (by omega) (by omega),if_pos (by omega),if_pos (by omega)]
    simp only [lt]
    rw [if_pos (by omega),wi64 (by omega) (by omega),show (x:Int)+1=((x+1:Nat):Int) by omega,Int.toNat_natCast,show (20+(x:Int)).toNat=20+x by omega,fillv_step l (by omega),ih k (x+1) (by omega) (by omega)]
theorem rRead_val {l:List Int} (hb:Bytes l) (hl:l.length≤100000) {k:Nat} (hk:100≤k):shadowboxref06_Read.f k l=some (readL l) := by
  unfold shadowboxref06_Read.f readL
  by_cases h:(l.length:Int)<52
  · rw [if_pos h,if_pos h]; rfl
  · rw [if_neg h,if_neg h]
    unfold shadowboxref06_Read.jo1
    rw [if_pos (by omega)]
    simp only [lt]
    rw [refTake_val (hb.take _) (by simp; omega) _ (by omega),take_ex (by omega) (by omega) (by simp; omega)]
    simp only [Option.bind_some]
    rw [if_pos (by omega),if_pos (by omega),refTake_val ((hb.take _).drop _) (by simp; omega) _ (by omega),take_ex (by omega) (by omega) (by simp; omega)]
    simp only [Option.bind_some]
    rw [if_pos (by omega),if_pos (by omega),refTake_val ((hb.take _).drop _) (by simp; omega) _ (by omega),take_ex (by omega) (by omega) (by simp; omega)]
    simp only [Option.bind_some]
    rw [if_pos (by omega),if_pos (by omega),refTake_val ((hb.take _).drop _) (by simp; omega) _ (by omega),take_ex (by omega) (by omega) (by simp; omega)]
    simp only [Option.bind_some]
    have e0:fillv l 0=vrep 32 0 := Subtype.ext (by simp [fillv,vrep,List.map_const'])
    have := rRead_lo2 (l:=l) (by omega) hl (IntKind.wrap .i64 (val (l.take 4))) (IntKind.wrap .i64 (val ((l.drop 8).take 8))) (IntKind.wrap .i64 (val ((l.drop 4).take 4))) (IntKind.wrap .u32 (val ((l.drop 16).take 4))) 32 k 0 (by omega) (by omega)
    rw [e0,fillv_all (by omega)] at this
    rw [show ((4:Int)).toNat=4 from rfl,show ((8:Int)).toNat=8 from rfl,show ((16:Int)).toNat=16 from rfl,show ((20:Int)).toNat=20 from rfl]
    simp only [List.drop_take]
    refine Eq.trans this ?_
    show (if noneB (ptOf l)=true then some (ptOf l,(0:Int)) else if rightB (ptOf l)=true then some (ptOf l,0) else some (zp,11))=_
    split
    · rfl
    · split <;> rfl
end Go.Proofs.Ythhhkphbhlafbaa.Ptr
