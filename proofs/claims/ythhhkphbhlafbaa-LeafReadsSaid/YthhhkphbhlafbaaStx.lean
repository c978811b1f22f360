/- Short numbers and texts as they are laid and read, whatever stands behind; no condition. -/
import Derived.Test.YthhhkphbhlafbaaRcd
namespace Go.Proofs.Ythhhkphbhlafbaa.Stx
open Go Go.RowKit Go.Proofs.Ythhhkphbhlafbaa.Sx Go.Proofs.Ythhhkphbhlafbaa.G Go.Proofs.Ythhhkphbhlafbaa.Bt Go.Proofs.Ythhhkphbhlafbaa.Rcd
set_option linter.unusedVariables false
set_option linter.unusedSimpArgs false
theorem toList_loop (bs:ByteArray):∀ (n i:Nat) (r:List UInt8),bs.size - i=n→ByteArray.toList.loop bs i r=r.reverse++bs.data.toList.drop i := by
  intro n
  induction n with
  | zero =>
    intro i r h
    rw [ByteArray.toList.loop,if_neg (by omega),List.drop_of_length_le (by simp only [Array.length_toList]; exact Nat.le_of_sub_eq_zero h)]
    simp
  | succ n ih =>
    intro i r h
    have hi:i<bs.data.toList.length := by simp only [Array.length_toList]; exact Nat.lt_of_sub_eq_succ h
    rw [ByteArray.toList.loop,if_pos (by omega),ih (i+1) _ (by omega),List.drop_eq_getElem_cons hi]
    have hi2:i<bs.data.size := by simpa using hi
    have:bs.get! i=bs.data.toList[i] := by
      show bs.data[i]! = _
      rw [getElem!_pos bs.data i hi2]
      simp
    rw [this]
    simp
theorem toList_data (bs:ByteArray):bs.toList=bs.data.toList := by
  have := toList_loop bs bs.size 0 [] (by omega)
  simpa [ByteArray.toList] using this
noncomputable def gr (v:Int):Nat := open Classical in if h:∃ g:Nat,g≤10∧IsGr v g then h.choose else 1
theorem gr_is {v:Int} (h0:0≤v) (h1:v<18446744073709551616):gr v≤10∧IsGr v (gr v) := by
  unfold gr
  rw [dif_pos (gr_ex h0 h1)]
  exact (gr_ex h0 h1).choose_spec
noncomputable def sx (v:Int):List Int := sh (gr v - 1) v
noncomputable def tx (s:ByteArray):List Int := sx (s.size:Int)++bl s
theorem sx_len {v:Int} (h0:0≤v) (h1:v<18446744073709551616):(sx v).length=gr v := by
  have := (gr_is h0 h1).2.1
  rw [sx,sh_length]
  omega
theorem sx_le {v:Int} (h0:0≤v) (h1:v<18446744073709551616):(sx v).length≤10 := by
  rw [sx_len h0 h1]
  exact (gr_is h0 h1).1
theorem sx_bytes {v:Int} (h0:0≤v) (h1:v<18446744073709551616):Bytes (sx v) := by
  have := (gr_is h0 h1).2
  exact sh_bytes _ _ h0 (by rw [show gr v - 1+1=gr v by have := this.1; omega]; exact this.2.1)
theorem tx_le {s:ByteArray} (h:s.size≤1000000000):(tx s).length≤s.size+10 := by
  have := sx_le (v:=(s.size:Int)) (by omega) (by omega)
  rw [tx,List.length_append,bl_length]
  omega
theorem tx_bytes {s:ByteArray} (h:s.size≤1000000000):Bytes (tx s) := (sx_bytes (by omega) (by omega)).append (bl_bytes s)
def u (v:Int):Int := v % 18446744073709551616
theorem u0 (v:Int):0≤u v := by unfold u; omega
theorem u1 (v:Int):u v<18446744073709551616 := by unfold u; omega
theorem short_is {l:List Int} (hl:l.length≤140737488355000) {v:Int} (h0:0≤v) (h1:v<18446744073709551616) {k:Nat} (hk:11≤k):codec_Short.f k l v=some (l++sx v) := codec_Short_val hl h0 h1 (gr_is h0 h1).2 (gr_is h0 h1).1 hk
theorem refShort_is {l:List Int} (hl:l.length≤140737488355000) {v:Int} (h0:0≤v) (h1:v<18446744073709551616) {k:Nat} (hk:11≤k):shadowboxref01_Short.f k l v=some (l++sx v) := refShort_val hl h0 h1 (gr_is h0 h1).2 (gr_is h0 h1).1 hk
theorem text_is {l:List Int} {s:ByteArray} (hl:l.length+s.size≤140737488355000) {k:Nat} (hk:11≤k):codec_Text.f k l s=some (l++tx s) := by
  rw [codec_Text_val hl (gr_is (by omega) (by omega)).2 (gr_is (by omega) (by omega)).1 hk,List.append_assoc]
  rfl
theorem refText_is {l:List Int} {s:ByteArray} (hl:l.length+s.size≤140737488355000) {k:Nat} (hk:11≤k):shadowboxref01_Text.f k l s=some (l++tx s) := by
  rw [ref_Text_val hl (gr_is (by omega) (by omega)).2 (gr_is (by omega) (by omega)).1 hk,List.append_assoc]
  rfl
theorem rs_back {v:Int} (h0:0≤v) (h1:v<18446744073709551616) {m:List Int} (hm:Bytes m) {k:Nat} (hk:11≤k):codec_ReadShort.f k (sx v++m)=some (v,((sx v).length:Int),0) := by
  have hg := gr_is h0 h1
  rw [codec_ReadShort_val ((sx_bytes h0 h1).append hm) (sh_run h0 hg.2 hg.1 m) hk,sx_len h0 h1]
  exact congrArg some (sh_rd h0 h1 hg.2 hg.1 m)
theorem refRs_back {v:Int} (h0:0≤v) (h1:v<18446744073709551616) {m:List Int} (hm:Bytes m) {k:Nat} (hk:11≤k):shadowboxref01_ReadShort.f k (sx v++m)=some (v,((sx v).length:Int),0) := by
  have hg := gr_is h0 h1
  rw [ref_ReadShort_val ((sx_bytes h0 h1).append hm) (sh_run h0 hg.2 hg.1 m) hk,sx_len h0 h1]
  exact congrArg some (sh_rd h0 h1 hg.2 hg.1 m)
theorem rtS_back {s:ByteArray} {mx:Int} (hs:(s.size:Int)≤mx) (hx:mx≤100000) (m:List Int):rtS (tx s++m) (gr (s.size:Int) - 1) mx=(s,((tx s).length:Int),0) := by
  have hg := gr_is (v:=(s.size:Int)) (by omega) (by omega)
  have e:tx s++m=sh (gr (s.size:Int) - 1) (s.size:Int)++(bl s++m) := by
    rw [tx,List.append_assoc]; rfl
  have hl:(sh (gr (s.size:Int) - 1) (s.size:Int)).length=gr (s.size:Int) := sx_len (by omega) (by omega)
  have ht:(tx s).length=gr (s.size:Int)+s.size := by
    rw [tx,List.length_append,bl_length,sx_len (by omega) (by omega)]
  unfold rtS
  rw [e,sh_rd (by omega) (by omega) hg.2 hg.1]
  simp only [List.length_append,bl_length,hl,ht]
  rw [if_pos True.intro,if_neg (by omega),if_neg (by omega),if_neg (by omega)]
  congr 1
  rw [show (((gr (s.size:Int):Nat):Int)+(s.size:Int)).toNat=gr (s.size:Int)+s.size by omega,Int.toNat_natCast,← List.append_assoc,List.take_append_of_le_length (by rw [List.length_append,bl_length,hl]; omega),List.take_of_length_le (by rw [List.length_append,bl_length,hl]; omega),List.drop_append_of_le_length (by omega),List.drop_of_length_le (by omega),List.nil_append,str_bl]
theorem rt_back {s:ByteArray} {mx:Int} (hs:(s.size:Int)≤mx) (hx:mx≤100000) {m:List Int} (hm:Bytes m) (hl:m.length≤1000000) {k:Nat} (hk:11≤k):codec_ReadText.f k (tx s++m) mx=some (s,((tx s).length:Int),0) := by
  have hg := gr_is (v:=(s.size:Int)) (by omega) (by omega)
  have := tx_le (s:=s) (by omega)
  rw [← rtS_back hs hx m]
  refine codec_ReadText_val ((tx_bytes (by omega)).append hm) (by rw [List.length_append]; omega) ?_ (by omega) hk
  rw [tx,List.append_assoc]
  exact sh_run (by omega) hg.2 hg.1 _
theorem refRt_back {s:ByteArray} {mx:Int} (hs:(s.size:Int)≤mx) (hx:mx≤100000) {m:List Int} (hm:Bytes m) (hl:m.length≤1000000) {k:Nat} (hk:11≤k):shadowboxref01_ReadText.f k (tx s++m) mx=some (s,((tx s).length:Int),0) := by
  have hg := gr_is (v:=(s.size:Int)) (by omega) (by omega)
  have := tx_le (s:=s) (by omega)
  rw [← rtS_back hs hx m]
  refine ref_ReadText_val ((tx_bytes (by omega)).append hm) (by rw [List.length_append]; omega) ?_ (by omega) hk
  rw [tx,List.append_assoc]
  exact sh_run (by omega) hg.2 hg.1 _
def Ok (l:List Int):Prop := Bytes l∧l.length≤1000000
theorem Ok.drop {l:List Int} (h:Ok l) (n:Nat):Ok (l.drop n) := ⟨h.1.drop n,by have := h.2; rw [List.length_drop]; omega⟩
theorem Ok.nil:Ok [] := ⟨Bytes.nil,by simp⟩
theorem rs_some {l:List Int} (h:Ok l):∃ (n x e:Int),(∀ k,11≤k→codec_ReadShort.f k l=some (n,x,e))∧0≤x∧x≤(l.length:Int)∧0≤n∧n<18446744073709551616 := by
  obtain ⟨K,hR⟩ := run_ex l
  refine ⟨(rdK l K).1,(rdK l K).2.1,(rdK l K).2.2,fun k hk=>codec_ReadShort_val h.1 hR hk,?_⟩
  rcases rd_cases h.1 hR with e | e | ⟨h1,_,_,_,h5,h6,e⟩ <;> rw [e]
  · exact ⟨by simp,by simp,by simp,by simp⟩
  · exact ⟨by simp,by simp,by simp,by simp⟩
  · exact ⟨by show (0:Int)≤(K:Int)+1; omega,by show (K:Int)+1≤_; omega,h5,h6⟩
theorem refRs_eq {l:List Int} (h:Ok l) {k:Nat} (hk:11≤k):shadowboxref01_ReadShort.f k l=codec_ReadShort.f k l := by
  obtain ⟨K,hR⟩ := run_ex l
  rw [codec_ReadShort_val h.1 hR hk,ref_ReadShort_val h.1 hR hk]
theorem rt_some {l:List Int} (h:Ok l) {mx:Int} (h0:0≤mx) (hx:mx≤100000):∃ (s:ByteArray) (x e:Int),(∀ k,11≤k→codec_ReadText.f k l mx=some (s,x,e))∧0≤x∧x≤(l.length:Int)∧(s.size:Int)≤mx := by
  obtain ⟨K,hR⟩ := run_ex l
  have h2 := h.2
  refine ⟨(rtS l K mx).1,(rtS l K mx).2.1,(rtS l K mx).2.2,fun k hk=>codec_ReadText_val h.1 (by omega) hR (by omega) hk,?_⟩
  unfold rtS
  rcases rd_cases h.1 hR with e | e | ⟨h1,_,_,_,h5,_,e⟩ <;> rw [e]
  · exact ⟨by simp,by simp,h0⟩
  · exact ⟨by simp,by simp,h0⟩
  · simp only
    rw [if_pos True.intro,if_neg (by omega)]
    split
    · exact ⟨by simp,by simp,h0⟩
    · split
      · exact ⟨by simp,by simp,h0⟩
      · rename_i c1 c2
        refine ⟨by show (0:Int)≤(K:Int)+1+_; omega,by show (K:Int)+1+_≤_; omega,?_⟩
        have e1:∀ q:List Int,(strOfNums q).size=q.length := fun q=>by simp [strOfNums,ByteArray.size]
        show ((strOfNums _).size:Int)≤mx
        rw [e1,List.length_drop,List.length_take]
        omega
theorem refRt_eq {l:List Int} (h:Ok l) {mx:Int} (h0:0≤mx) (hx:mx≤100000) {k:Nat} (hk:11≤k):shadowboxref01_ReadText.f k l mx=codec_ReadText.f k l mx := by
  obtain ⟨K,hR⟩ := run_ex l
  have h2 := h.2
  rw [codec_ReadText_val h.1 (by omega) hR (by omega) hk,ref_ReadText_val h.1 (by omega) hR (by omega) hk]
theorem bl_son {l:List Int} (h:Bytes l):bl (strOfNums l)=l := by
  rw [bl,strOfNums_data,List.map_map]
  induction l with
  | nil=>rfl
  | cons x r ih =>
    have := h x (by simp)
    rw [List.map_cons,ih (fun y hy=>h y (by simp [hy]))]
    congr 1
    simp only [Function.comp_apply,UInt8.toNat_ofNat']
    omega
theorem son_inj {l m:List Int} (hl:Bytes l) (hm:Bytes m) (h:((strOfNums l).toList==(strOfNums m).toList)=true):l=m := by
  have h:(strOfNums l).toList=(strOfNums m).toList := by simpa using h
  rw [toList_data,toList_data] at h
  rw [← bl_son hl,← bl_son hm,bl,bl,h]
theorem drop_app (l m:List Int):(l++m).drop ((l.length:Int)).toNat=m := by
  rw [Int.toNat_natCast]
  simp
theorem le_app (l m:List Int):((l.length:Nat):Int)≤((l++m).length:Int) := by
  rw [List.length_append]; omega
end Go.Proofs.Ythhhkphbhlafbaa.Stx
