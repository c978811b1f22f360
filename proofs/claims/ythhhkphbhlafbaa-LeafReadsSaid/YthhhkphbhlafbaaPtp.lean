/- Pointers that are laid and read; no condition. -/
import Derived.Test.YthhhkphbhlafbaaPtr
set_option linter.unusedVariables false
set_option linter.unusedSimpArgs false
namespace Go.Proofs.Ythhhkphbhlafbaa.Ptp
open Go Go.RowKit Go.Proofs.Ythhhkphbhlafbaa.Sx Go.Proofs.Ythhhkphbhlafbaa.G Go.Proofs.Ythhhkphbhlafbaa.Bt Go.Proofs.Ythhhkphbhlafbaa.Cod Go.Proofs.Ythhhkphbhlafbaa.Ptr
theorem ptOf_put {a:Pt} (h1:0≤a.1∧a.1<4294967296) (h2:0≤a.2.1∧a.2.1<9223372036854775808) (h3:0≤a.2.2.1∧a.2.2.1<4294967296) (h4:0≤a.2.2.2.1∧a.2.2.2.1<4294967296) (m:List Int):ptOf (putL [] a++m)=a := by
  have hu:∀ x:Int,0≤x→x<9223372036854775808→u x=x := fun x h h'=>by unfold u; rw [wu64]; omega
  have e:putL [] a++m=le 4 a.1++(le 4 a.2.2.1++(le 8 a.2.1++(le 4 a.2.2.2.1++(a.2.2.2.2.1++m)))) := by
    unfold putL
    rw [fix4,fix4,fix8,fix4,hu _ h1.1 (by omega),hu _ h2.1 h2.2,hu _ h3.1 (by omega),hu _ h4.1 (by omega)]
    simp
  have e4:(putL [] a++m).drop 4=le 4 a.2.2.1++(le 8 a.2.1++(le 4 a.2.2.2.1++(a.2.2.2.2.1++m))) := by rw [e]; exact List.drop_left' (le_length 4 _)
  have e8:(putL [] a++m).drop 8=le 8 a.2.1++(le 4 a.2.2.2.1++(a.2.2.2.2.1++m)) := by
    rw [show (8:Nat)=4+4 from rfl,← List.drop_drop,e4]; exact List.drop_left' (le_length 4 _)
  have e16:(putL [] a++m).drop 16=le 4 a.2.2.2.1++(a.2.2.2.2.1++m) := by
    rw [show (16:Nat)=8+8 from rfl,← List.drop_drop,e8]; exact List.drop_left' (le_length 8 _)
  have e20:(putL [] a++m).drop 20=a.2.2.2.2.1++m := by
    rw [show (20:Nat)=16+4 from rfl,← List.drop_drop,e16]; exact List.drop_left' (le_length 4 _)
  have p4:(256:Int) ^ 4=4294967296 := by decide
  have p8:(256:Int) ^ 8=18446744073709551616 := by decide
  unfold ptOf
  rw [e4,e8,e16,e20,e,List.take_left' (le_length 4 _),List.take_left' (le_length 4 _),List.take_left' (le_length 8 _),List.take_left' (le_length 4 _),List.take_left' a.2.2.2.2.2]
  rw [val_le _ _ h1.1,val_le _ _ h2.1,val_le _ _ h3.1,val_le _ _ h4.1,p4,p8,wi64 (by omega) (by omega),wi64 (by omega) (by omega),wi64 (by omega) (by omega),wu32]
  have ev:vpad 32 0 a.2.2.2.2.1=a.2.2.2.2 := Subtype.ext (by rw [vpad_val (by rw [a.2.2.2.2.2]; omega),List.take_of_length_le (by rw [a.2.2.2.2.2]; omega)])
  rw [ev,Int.emod_eq_of_lt h1.1 (by omega),Int.emod_eq_of_lt h2.1 (by omega),Int.emod_eq_of_lt h3.1 (by omega),Int.emod_eq_of_lt h4.1 (by omega),Int.emod_eq_of_lt h4.1 (by omega)]
theorem putL_len (l:List Int) (a:Pt):(putL l a).length=l.length+52 := by
  unfold putL
  rw [fix4,fix4,fix8,fix4]
  have := a.2.2.2.2.2
  simp [le_length,this]
theorem putL_bytes {a:Pt} (ha:Bytes a.2.2.2.2.1):Bytes (putL [] a) := by
  unfold putL
  rw [fix4,fix4,fix8,fix4]
  exact (((((Bytes.nil).append (le_bytes _ _)).append (le_bytes _ _)).append (le_bytes _ _)).append (le_bytes _ _)).append ha
theorem ptOf_bytes {l:List Int} (hb:Bytes l):Bytes (ptOf l).2.2.2.2.1 := by
  intro x hx
  have:x ∈ ((l.drop 20).take 32++List.replicate 32 0).take 32 := hx
  have h2 := List.mem_of_mem_take this
  rcases List.mem_append.1 h2 with h | h
  · exact (hb.drop 20).take 32 x h
  · have:x=0 := List.eq_of_mem_replicate h
    omega
theorem zp_bytes:Bytes zp.2.2.2.2.1 := fun x hx=>by
  have:x=0 := List.eq_of_mem_replicate hx
  omega
def WfP (p:Pt):Prop := (0≤p.2.2.2.1∧p.2.2.2.1<4294967296)∧Bytes p.2.2.2.2.1
theorem ptOf_wf {l:List Int} (hb:Bytes l):WfP (ptOf l) := ⟨by show 0≤IntKind.wrap .u32 _∧IntKind.wrap .u32 _<4294967296; rw [wu32]; omega,ptOf_bytes hb⟩
theorem zp_wf:WfP zp := ⟨⟨by decide,by decide⟩,zp_bytes⟩
theorem readL_wf {l:List Int} (hb:Bytes l):WfP (readL l).1 := by
  unfold readL
  split
  · exact zp_wf
  · split
    · exact ptOf_wf hb
    · split
      · exact ptOf_wf hb
      · exact zp_wf
theorem readL_back {p:Pt} (h:rightB p=true) (hw:WfP p) (m:List Int):readL (putL [] p++m)=(p,0) := by
  have hs := secs_bound p.2.2.1
  have h' := of_decide_eq_true h
  have e := ptOf_put (a:=p) (by omega) (by omega) (by omega) hw.1 m
  unfold readL
  rw [if_neg (by rw [List.length_append,putL_len]; simp; omega),e,h]
  split <;> rfl
theorem readL_len {l:List Int} (h:(readL l).2=0):52≤l.length := by
  unfold readL at h
  split at h
  · cases h
  · omega
end Go.Proofs.Ythhhkphbhlafbaa.Ptp
