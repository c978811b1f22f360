/- Printed by a program of this session (sz.py): plain functions, and walks that show that the code comes to them; no condition. -/
import Derived.Test.YtbidihabicgedaaProg
import Derived.Test.YtbidihabicgedaaTy
import Derived.Test.YtbidihabicgedaaG0
import Derived.Test.YtbidihabicgedaaG1
import Derived.Test.YtbidihabicgedaaG2
import Derived.Test.YtbidihabicgedaaG3
set_option linter.unusedVariables false
set_option linter.unusedSimpArgs false
namespace Go.Proofs.Ytbidihabicgedaa.G
open Go Go.RowKit Go.Proofs.Ytbidihabicgedaa.Sx

/-! ### shadowbox/shadowboxref06.Right: function 12 -/
def shadowboxref06_Right.tab1:List (List Nat) := [[],[0],[0,1],[0,1,2],[0,1,2,3],[0,1,2,3,4],[0,1,2,3,4,5],[0,1,2,3,4,5,6],[0,1,2,3,4,5,6,7],[0,1,2,3,4,5,6,7,8],[0,1,2,3,4,5,6,7,8,9],[0,1,2,3,4,5,6,7,8,9,10],[0,1,2,3,4,5,6,7,8,9,10,11],[0,1,2,3,4,5,6,7,8,9,10,11,12],[0,1,2,3,4,5,6,7,8,9,10,11,12,13],[0,1,2,3,4,5,6,7,8,9,10,11,12,13,14],[0,1,2,3,4,5,6,7,8,9,10,11,12,13,14,15],[0,1,2,3,4,5,6,7,8,9,10,11,12,13,14,15,16],[0,1,2,3,4,5,6,7,8,9,10,11,12,13,14,15,16,17],[0,1,2,3,4,5,6,7,8,9,10,11,12,13,14,15,16,17,18],[0,1,2,3,4,5,6,7,8,9,10,11,12,13,14,15,16,17,18,19],[0,1,2,3,4,5,6,7,8,9,10,11,12,13,14,15,16,17,18,19,20],[0,1,2,3,4,5,6,7,8,9,10,11,12,13,14,15,16,17,18,19,20,21],[0,1,2,3,4,5,6,7,8,9,10,11,12,13,14,15,16,17,18,19,20,21,22],[0,1,2,3,4,5,6,7,8,9,10,11,12,13,14,15,16,17,18,19,20,21,22,23],[0,1,2,3,4,5,6,7,8,9,10,11,12,13,14,15,16,17,18,19,20,21,22,23,24],[0,1,2,3,4,5,6,7,8,9,10,11,12,13,14,15,16,17,18,19,20,21,22,23,24,25],[0,1,2,3,4,5,6,7,8,9,10,11,12,13,14,15,16,17,18,19,20,21,22,23,24,25,26],[0,1,2,3,4,5,6,7,8,9,10,11,12,13,14,15,16,17,18,19,20,21,22,23,24,25,26,27],[0,1,2,3,4,5,6,7,8,9,10,11,12,13,14,15,16,17,18,19,20,21,22,23,24,25,26,27,28],[0,1,2,3,4,5,6,7,8,9,10,11,12,13,14,15,16,17,18,19,20,21,22,23,24,25,26,27,28,29],[0,1,2,3,4,5,6,7,8,9,10,11,12,13,14,15,16,17,18,19,20,21,22,23,24,25,26,27,28],[0,1,2,3,4,5,6,7,8,9,10,11,12,13,14,15,16,17,18,19,20,21,22,23,24,25,26,27,28,31],[0,1,2,3,4,5,6,7,8,9,10,11,12,13,14,15,16,17,18,19,20,21,22,23,24,25,26,27,28,29,30,31,32],[0,1,2,3,4,5,6,7,8,9,10,11,12,13,14,15,16,17,18,19,20,21,22,23,24,25,26,27,28,29,30,31,32,33],[0,1,2,3,4,5,6,7,8,9,10,11,12,13,14,15,16,17,18,19,20,21,22,23,24,25,26,27,28,29,30,31,32,33,34],[0,1,2,3,4,5,6,7,8,9,10,11,12,13,14,15,16,17,18,19,20,21,22,23,24,25,26,27,28,29,30,31,32,33,34,35]]
def shadowboxref06_Right.f (k:Nat) (a0:(Int × Int × Int × Int × (Vc Int 32))):Option (Bool) :=
  (if a0.2.1≥(1:Int) then (if a0.2.1≤(1152921504606846976:Int) then (if a0.2.2.1≥(1:Int) then (if a0.2.2.1≤(65536:Int) then (if a0.1≥(2:Int) then (if a0.1≤(8192:Int) then (shadowboxref06_Sectors.f k a0).bind fun t10=>some (decide ((IntKind.wrap .i64 (a0.1+t10))≤(8192:Int))) else some false) else some false) else some false) else some false) else some false) else some false)
set_option maxRecDepth 100000 in
set_option maxHeartbeats 4000000 in
theorem shadowboxref06_Right.calls (k:Nat) (a0:(Int × Int × Int × Int × (Vc Int 32))) (r:Bool) (b:Bs) (hs0:St b (stl []) b.w) (H:shadowboxref06_Right.f k a0=some r) :
    Calls Try.prog 12 #[.agg ⟨([Value.int .i64 a0.1]++([Value.int .i64 a0.2.1]++([Value.int .i64 a0.2.2.1]++([Value.int .u32 a0.2.2.2.1]++en (Value.int .u8) a0.2.2.2.2.1))))⟩] b.w fun e w'=>∃ x:Unit,e=.returned (.bool r)∧St b (stl []) w' := by
 unfold shadowboxref06_Right.f at H
 refine enterb (n:=39) Try.func12 rfl (by kernel_rfl) (by kernel_rfl) hs0 ?_
 refine cs_sub (s0) (sub_nil _) ?_
 refine cs_seq ?_
 refine cs_region (l:=[_,_]) ?_
 refine ls_new rfl rfl (by kernel_rfl) 0 (fun g=>.pointer (some ⟨g,0,none⟩)) (.cells ⟨([Value.int .i64 a0.1]++([Value.int .i64 a0.2.1]++([Value.int .i64 a0.2.2.1]++([Value.int .u32 a0.2.2.2.1]++en (Value.int .u8) a0.2.2.2.2.1))))⟩ 30) (fun w=>by kernel_rfl) ?_
 intro g1
 refine lv (.bool false) ?_
 refine ls_end ?_
 refine qn_then ?_
 refine cs_seq ?_
 obtain ⟨s3_0,hs3_0⟩ := exv (.pointer (some ⟨g1,(0+1),none⟩))
 refine have_opa shadowboxref06_Right.tab1 1 0 (fun sp=>sp 0=s3_0) (fun sp on hA hon=>?_) (fun ops3_0=>?_)
 ·refine ⟨fun o ho vs Rs f' S' w hp hf hx hS hR hs=>?_⟩
  obtain rfl := Option.some.inj ho
  exact opv (.pointer (some ⟨g1,(0+1),none⟩)) hA hs3_0 hon (fr_next (rfl) ((hx 1 (by kernel_rfl)).trans (by kernel_rfl:(_:Value)=.pointer (some ⟨g1,0,none⟩))))
 obtain ⟨s3_1,hs3_1⟩ := exv (.int .i64 a0.2.1)
 refine have_opa shadowboxref06_Right.tab1 1 1 (fun sp=>sp 1=s3_1∧sp 0=s3_0) (fun sp on hA hon=>?_) (fun ops3_1=>?_)
 ·refine ⟨fun o ho vs Rs f' S' w hp hf hx hS hR hs=>?_⟩
  obtain rfl := Option.some.inj ho
  obtain ⟨hv0,hR0⟩ := (spe hA.2 hs3_0 (hp 0 (by kernel_rfl)))
  rw [hA.1,hs3_1]
  refine wn hon ?_
  have hF := fr_next (rfl) ((hf 0 3 (by kernel_rfl) rfl).trans hv0)
  refine ls_fr hF ?_
  refine ls_load (a0:=⟨g1,(0+1),none⟩) (v:=.int .i64 a0.2.1) (de:=(TypeDesc.int .i64)) rfl rfl (by kernel_rfl) rfl (by kernel_rfl) (by kernel_rfl) (by kernel_rfl) (fun w1 hs1=>cell_step hs1.below.bw (hs.var (k:=0) ((hS 0 (by kernel_rfl)).trans (by exact rfl)) (Sub4.trans (Sub4.all _) (Sub4.skip (n:=1) (len1 _) (Sub4.head _ _))))) ?_
  exact ls_fin s0 _ (congrArg (fun z=>upd z 4 _) hF.symm) ⟨rfl,rfl⟩ (sub_nil _)
 obtain ⟨s3_2,hs3_2⟩ := exv (.bool (decide (a0.2.1≥(1:Int))))
 refine have_opa shadowboxref06_Right.tab1 1 2 (fun sp=>sp 2=s3_2∧sp 1=s3_1) (fun sp on hA hon=>?_) (fun ops3_2=>?_)
 ·refine ⟨fun o ho vs Rs f' S' w hp hf hx hS hR hs=>?_⟩
  obtain rfl := Option.some.inj ho
  obtain ⟨hv1,hR1⟩ := (spe hA.2 hs3_1 (hp 1 (by kernel_rfl)))
  exact opv (.bool (decide (a0.2.1≥(1:Int)))) hA.1 hs3_2 hon (fr_next (rfl) ((hf 1 4 (by kernel_rfl) rfl).trans hv1))
 obtain ⟨s3_3,hs3_3⟩ := exv (.bool (decide (a0.2.1≥(1:Int))))
 refine have_opa shadowboxref06_Right.tab1 1 3 (fun sp=>sp 3=s3_3∧sp 2=s3_2) (fun sp on hA hon=>?_) (fun ops3_3=>?_)
 ·refine ⟨fun o ho vs Rs f' S' w hp hf hx hS hR hs=>?_⟩
  obtain rfl := Option.some.inj ho
  obtain ⟨hv2,hR2⟩ := (spe hA.2 hs3_2 (hp 2 (by kernel_rfl)))
  exact opv (.bool (decide (a0.2.1≥(1:Int)))) hA.1 hs3_3 hon (fr_next (rfl) ((hf 2 5 (by kernel_rfl) rfl).trans hv2))
 by_cases q4:a0.2.1≥(1:Int)
 ·replace H := ite_t q4 H
  obtain ⟨s3_4,hs3_4⟩ := exv (.pointer (some ⟨g1,(0+1),none⟩))
  refine have_opa shadowboxref06_Right.tab1 1 4 (fun sp=>sp 4=s3_4∧sp 3=s3_3) (fun sp on hA hon=>?_) (fun ops3_4=>?_)
  ·refine ⟨fun o ho vs Rs f' S' w hp hf hx hS hR hs=>?_⟩
   obtain rfl := Option.some.inj ho
   obtain ⟨hv3,hR3⟩ := (spe hA.2 hs3_3 (hp 3 (by kernel_rfl)))
   rw [hA.1,hs3_4]
   refine And.intro (fun a ha=>(want_is (j:=3) (t:=6) (r:=true) rfl rfl (by kernel_rfl) (((hf 3 6 (by kernel_rfl) rfl).trans hv3).trans (congrArg Value.bool (show (decide (a0.2.1≥(1:Int)))=true from dec_t q4))) rfl a ha).trans hon.symm) (And.intro (fun _=>?_) (fun h=>by rw [hon] at h; cases h))
   have hF := fr_next (fr_next (rfl) ((hx 1 (by kernel_rfl)).trans (by kernel_rfl:(_:Value)=.pointer (some ⟨g1,0,none⟩)))) (((hf 3 6 (by kernel_rfl) rfl).trans hv3).trans (congrArg Value.bool (show (decide (a0.2.1≥(1:Int)))=true from dec_t q4)))
   refine ls_fr hF ?_
   refine lv (.pointer (some ⟨g1,(0+1),none⟩)) ?_
   exact ls_fin s0 _ (congrArg (fun z=>upd z 7 _) hF.symm) ⟨rfl,rfl⟩ (sub_nil _)
  obtain ⟨s3_5,hs3_5⟩ := exv (.int .i64 a0.2.1)
  refine have_opa shadowboxref06_Right.tab1 1 5 (fun sp=>sp 5=s3_5∧sp 3=s3_3∧sp 4=s3_4) (fun sp on hA hon=>?_) (fun ops3_5=>?_)
  ·refine ⟨fun o ho vs Rs f' S' w hp hf hx hS hR hs=>?_⟩
   obtain rfl := Option.some.inj ho
   obtain ⟨hv3,hR3⟩ := (spe hA.2.1 hs3_3 (hp 3 (by kernel_rfl)))
   obtain ⟨hv4,hR4⟩ := (spe hA.2.2 hs3_4 (hp 4 (by kernel_rfl)))
   rw [hA.1,hs3_5]
   refine And.intro (fun a ha=>(want_is (j:=3) (t:=6) (r:=true) rfl rfl (by kernel_rfl) (((hf 3 6 (by kernel_rfl) rfl).trans hv3).trans (congrArg Value.bool (show (decide (a0.2.1≥(1:Int)))=true from dec_t q4))) rfl a ha).trans hon.symm) (And.intro (fun _=>?_) (fun h=>by rw [hon] at h; cases h))
   have hF := fr_next (fr_next (rfl) (((hf 3 6 (by kernel_rfl) rfl).trans hv3).trans (congrArg Value.bool (show (decide (a0.2.1≥(1:Int)))=true from dec_t q4)))) ((hf 4 7 (by kernel_rfl) rfl).trans hv4)
   refine ls_fr hF ?_
   refine ls_load (a0:=⟨g1,(0+1),none⟩) (v:=.int .i64 a0.2.1) (de:=(TypeDesc.int .i64)) rfl rfl (by kernel_rfl) rfl (by kernel_rfl) (by kernel_rfl) (by kernel_rfl) (fun w1 hs1=>cell_step hs1.below.bw (hs.var (k:=0) ((hS 0 (by kernel_rfl)).trans (by exact rfl)) (Sub4.trans (Sub4.all _) (Sub4.skip (n:=1) (len1 _) (Sub4.head _ _))))) ?_
   exact ls_fin s0 _ (congrArg (fun z=>upd z 8 _) hF.symm) ⟨rfl,rfl⟩ (sub_nil _)
  obtain ⟨s3_6,hs3_6⟩ := exv (.bool (decide (a0.2.1≤(1152921504606846976:Int))))
  refine have_opa shadowboxref06_Right.tab1 1 6 (fun sp=>sp 6=s3_6∧sp 3=s3_3∧sp 5=s3_5) (fun sp on hA hon=>?_) (fun ops3_6=>?_)
  ·refine ⟨fun o ho vs Rs f' S' w hp hf hx hS hR hs=>?_⟩
   obtain rfl := Option.some.inj ho
   obtain ⟨hv3,hR3⟩ := (spe hA.2.1 hs3_3 (hp 3 (by kernel_rfl)))
   obtain ⟨hv5,hR5⟩ := (spe hA.2.2 hs3_5 (hp 5 (by kernel_rfl)))
   rw [hA.1,hs3_6]
   refine And.intro (fun a ha=>(want_is (j:=3) (t:=6) (r:=true) rfl rfl (by kernel_rfl) (((hf 3 6 (by kernel_rfl) rfl).trans hv3).trans (congrArg Value.bool (show (decide (a0.2.1≥(1:Int)))=true from dec_t q4))) rfl a ha).trans hon.symm) (And.intro (fun _=>?_) (fun h=>by rw [hon] at h; cases h))
   have hF := fr_next (fr_next (rfl) (((hf 3 6 (by kernel_rfl) rfl).trans hv3).trans (congrArg Value.bool (show (decide (a0.2.1≥(1:Int)))=true from dec_t q4)))) ((hf 5 8 (by kernel_rfl) rfl).trans hv5)
   refine ls_fr hF ?_
   refine lv (.bool (decide (a0.2.1≤(1152921504606846976:Int)))) ?_
   exact ls_fin s0 _ (congrArg (fun z=>upd z 9 _) hF.symm) ⟨rfl,rfl⟩ (sub_nil _)
  obtain ⟨s3_7,hs3_7⟩ := exv (.bool (decide (a0.2.1≤(1152921504606846976:Int))))
  refine have_opa shadowboxref06_Right.tab1 1 7 (fun sp=>sp 7=s3_7∧sp 3=s3_3∧sp 6=s3_6) (fun sp on hA hon=>?_) (fun ops3_7=>?_)
  ·refine ⟨fun o ho vs Rs f' S' w hp hf hx hS hR hs=>?_⟩
   obtain rfl := Option.some.inj ho
   obtain ⟨hv3,hR3⟩ := (spe hA.2.1 hs3_3 (hp 3 (by kernel_rfl)))
   obtain ⟨hv6,hR6⟩ := (spe hA.2.2 hs3_6 (hp 6 (by kernel_rfl)))
   exact opv (.bool (decide (a0.2.1≤(1152921504606846976:Int)))) hA.1 hs3_7 hon (fr_next (fr_next (rfl) (((hf 3 6 (by kernel_rfl) rfl).trans hv3).trans (congrArg Value.bool (show (decide (a0.2.1≥(1:Int)))=true from dec_t q4)))) ((hf 6 9 (by kernel_rfl) rfl).trans hv6))
  obtain ⟨s3_8,hs3_8⟩ := exv (.bool (decide (a0.2.1≤(1152921504606846976:Int))))
  refine have_opa shadowboxref06_Right.tab1 1 8 (fun sp=>sp 8=s3_8∧sp 7=s3_7) (fun sp on hA hon=>?_) (fun ops3_8=>?_)
  ·refine ⟨fun o ho vs Rs f' S' w hp hf hx hS hR hs=>?_⟩
   obtain rfl := Option.some.inj ho
   obtain ⟨hv7,hR7⟩ := (spe hA.2 hs3_7 (hp 7 (by kernel_rfl)))
   exact opv (.bool (decide (a0.2.1≤(1152921504606846976:Int)))) hA.1 hs3_8 hon (fr_next (rfl) ((hf 7 10 (by kernel_rfl) rfl).trans hv7))
  by_cases q5:a0.2.1≤(1152921504606846976:Int)
  ·replace H := ite_t q5 H
   obtain ⟨s3_9,hs3_9⟩ := exv (.pointer (some ⟨g1,(0+2),none⟩))
   refine have_opa shadowboxref06_Right.tab1 1 9 (fun sp=>sp 9=s3_9∧sp 8=s3_8) (fun sp on hA hon=>?_) (fun ops3_9=>?_)
   ·refine ⟨fun o ho vs Rs f' S' w hp hf hx hS hR hs=>?_⟩
    obtain rfl := Option.some.inj ho
    obtain ⟨hv8,hR8⟩ := (spe hA.2 hs3_8 (hp 8 (by kernel_rfl)))
    rw [hA.1,hs3_9]
    refine And.intro (fun a ha=>(want_is (j:=8) (t:=11) (r:=true) rfl rfl (by kernel_rfl) (((hf 8 11 (by kernel_rfl) rfl).trans hv8).trans (congrArg Value.bool (show (decide (a0.2.1≤(1152921504606846976:Int)))=true from dec_t q5))) rfl a ha).trans hon.symm) (And.intro (fun _=>?_) (fun h=>by rw [hon] at h; cases h))
    have hF := fr_next (fr_next (rfl) ((hx 1 (by kernel_rfl)).trans (by kernel_rfl:(_:Value)=.pointer (some ⟨g1,0,none⟩)))) (((hf 8 11 (by kernel_rfl) rfl).trans hv8).trans (congrArg Value.bool (show (decide (a0.2.1≤(1152921504606846976:Int)))=true from dec_t q5)))
    refine ls_fr hF ?_
    refine lv (.pointer (some ⟨g1,(0+2),none⟩)) ?_
    exact ls_fin s0 _ (congrArg (fun z=>upd z 12 _) hF.symm) ⟨rfl,rfl⟩ (sub_nil _)
   obtain ⟨s3_10,hs3_10⟩ := exv (.int .i64 a0.2.2.1)
   refine have_opa shadowboxref06_Right.tab1 1 10 (fun sp=>sp 10=s3_10∧sp 8=s3_8∧sp 9=s3_9) (fun sp on hA hon=>?_) (fun ops3_10=>?_)
   ·refine ⟨fun o ho vs Rs f' S' w hp hf hx hS hR hs=>?_⟩
    obtain rfl := Option.some.inj ho
    obtain ⟨hv8,hR8⟩ := (spe hA.2.1 hs3_8 (hp 8 (by kernel_rfl)))
    obtain ⟨hv9,hR9⟩ := (spe hA.2.2 hs3_9 (hp 9 (by kernel_rfl)))
    rw [hA.1,hs3_10]
    refine And.intro (fun a ha=>(want_is (j:=8) (t:=11) (r:=true) rfl rfl (by kernel_rfl) (((hf 8 11 (by kernel_rfl) rfl).trans hv8).trans (congrArg Value.bool (show (decide (a0.2.1≤(1152921504606846976:Int)))=true from dec_t q5))) rfl a ha).trans hon.symm) (And.intro (fun _=>?_) (fun h=>by rw [hon] at h; cases h))
    have hF := fr_next (fr_next (rfl) (((hf 8 11 (by kernel_rfl) rfl).trans hv8).trans (congrArg Value.bool (show (decide (a0.2.1≤(1152921504606846976:Int)))=true from dec_t q5)))) ((hf 9 12 (by kernel_rfl) rfl).trans hv9)
    refine ls_fr hF ?_
    refine ls_load (a0:=⟨g1,(0+2),none⟩) (v:=.int .i64 a0.2.2.1) (de:=(TypeDesc.int .i64)) rfl rfl (by kernel_rfl) rfl (by kernel_rfl) (by kernel_rfl) (by kernel_rfl) (fun w1 hs1=>cell_step hs1.below.bw (hs.var (k:=0) ((hS 0 (by kernel_rfl)).trans (by exact rfl)) (Sub4.trans (Sub4.all _) (Sub4.skip (n:=1) (len1 _) (Sub4.skip (n:=1) (len1 _) (Sub4.head _ _)))))) ?_
    exact ls_fin s0 _ (congrArg (fun z=>upd z 13 _) hF.symm) ⟨rfl,rfl⟩ (sub_nil _)
   obtain ⟨s3_11,hs3_11⟩ := exv (.bool (decide (a0.2.2.1≥(1:Int))))
   refine have_opa shadowboxref06_Right.tab1 1 11 (fun sp=>sp 11=s3_11∧sp 8=s3_8∧sp 10=s3_10) (fun sp on hA hon=>?_) (fun ops3_11=>?_)
   ·refine ⟨fun o ho vs Rs f' S' w hp hf hx hS hR hs=>?_⟩
    obtain rfl := Option.some.inj ho
    obtain ⟨hv8,hR8⟩ := (spe hA.2.1 hs3_8 (hp 8 (by kernel_rfl)))
    obtain ⟨hv10,hR10⟩ := (spe hA.2.2 hs3_10 (hp 10 (by kernel_rfl)))
    rw [hA.1,hs3_11]
    refine And.intro (fun a ha=>(want_is (j:=8) (t:=11) (r:=true) rfl rfl (by kernel_rfl) (((hf 8 11 (by kernel_rfl) rfl).trans hv8).trans (congrArg Value.bool (show (decide (a0.2.1≤(1152921504606846976:Int)))=true from dec_t q5))) rfl a ha).trans hon.symm) (And.intro (fun _=>?_) (fun h=>by rw [hon] at h; cases h))
    have hF := fr_next (fr_next (rfl) (((hf 8 11 (by kernel_rfl) rfl).trans hv8).trans (congrArg Value.bool (show (decide (a0.2.1≤(1152921504606846976:Int)))=true from dec_t q5)))) ((hf 10 13 (by kernel_rfl) rfl).trans hv10)
    refine ls_fr hF ?_
    refine lv (.bool (decide (a0.2.2.1≥(1:Int)))) ?_
    exact ls_fin s0 _ (congrArg (fun z=>upd z 14 _) hF.symm) ⟨rfl,rfl⟩ (sub_nil _)
   obtain ⟨s3_12,hs3_12⟩ := exv (.bool (decide (a0.2.2.1≥(1:Int))))
   refine have_opa shadowboxref06_Right.tab1 1 12 (fun sp=>sp 12=s3_12∧sp 8=s3_8∧sp 11=s3_11) (fun sp on hA hon=>?_) (fun ops3_12=>?_)
   ·refine ⟨fun o ho vs Rs f' S' w hp hf hx hS hR hs=>?_⟩
    obtain rfl := Option.some.inj ho
    obtain ⟨hv8,hR8⟩ := (spe hA.2.1 hs3_8 (hp 8 (by kernel_rfl)))
    obtain ⟨hv11,hR11⟩ := (spe hA.2.2 hs3_11 (hp 11 (by kernel_rfl)))
    exact opv (.bool (decide (a0.2.2.1≥(1:Int)))) hA.1 hs3_12 hon (fr_next (fr_next (rfl) (((hf 8 11 (by kernel_rfl) rfl).trans hv8).trans (congrArg Value.bool (show (decide (a0.2.1≤(1152921504606846976:Int)))=true from dec_t q5)))) ((hf 11 14 (by kernel_rfl) rfl).trans hv11))
   obtain ⟨s3_13,hs3_13⟩ := exv (.bool (decide (a0.2.2.1≥(1:Int))))
   refine have_opa shadowboxref06_Right.tab1 1 13 (fun sp=>sp 13=s3_13∧sp 12=s3_12) (fun sp on hA hon=>?_) (fun ops3_13=>?_)
   ·refine ⟨fun o ho vs Rs f' S' w hp hf hx hS hR hs=>?_⟩
    obtain rfl := Option.some.inj ho
    obtain ⟨hv12,hR12⟩ := (spe hA.2 hs3_12 (hp 12 (by kernel_rfl)))
    exact opv (.bool (decide (a0.2.2.1≥(1:Int)))) hA.1 hs3_13 hon (fr_next (rfl) ((hf 12 15 (by kernel_rfl) rfl).trans hv12))
   by_cases q6:a0.2.2.1≥(1:Int)
   ·replace H := ite_t q6 H
    obtain ⟨s3_14,hs3_14⟩ := exv (.pointer (some ⟨g1,(0+2),none⟩))
    refine have_opa shadowboxref06_Right.tab1 1 14 (fun sp=>sp 14=s3_14∧sp 13=s3_13) (fun sp on hA hon=>?_) (fun ops3_14=>?_)
    ·refine ⟨fun o ho vs Rs f' S' w hp hf hx hS hR hs=>?_⟩
     obtain rfl := Option.some.inj ho
     obtain ⟨hv13,hR13⟩ := (spe hA.2 hs3_13 (hp 13 (by kernel_rfl)))
     rw [hA.1,hs3_14]
     refine And.intro (fun a ha=>(want_is (j:=13) (t:=16) (r:=true) rfl rfl (by kernel_rfl) (((hf 13 16 (by kernel_rfl) rfl).trans hv13).trans (congrArg Value.bool (show (decide (a0.2.2.1≥(1:Int)))=true from dec_t q6))) rfl a ha).trans hon.symm) (And.intro (fun _=>?_) (fun h=>by rw [hon] at h; cases h))
     have hF := fr_next (fr_next (rfl) ((hx 1 (by kernel_rfl)).trans (by kernel_rfl:(_:Value)=.pointer (some ⟨g1,0,none⟩)))) (((hf 13 16 (by kernel_rfl) rfl).trans hv13).trans (congrArg Value.bool (show (decide (a0.2.2.1≥(1:Int)))=true from dec_t q6)))
     refine ls_fr hF ?_
     refine lv (.pointer (some ⟨g1,(0+2),none⟩)) ?_
     exact ls_fin s0 _ (congrArg (fun z=>upd z 17 _) hF.symm) ⟨rfl,rfl⟩ (sub_nil _)
    obtain ⟨s3_15,hs3_15⟩ := exv (.int .i64 a0.2.2.1)
    refine have_opa shadowboxref06_Right.tab1 1 15 (fun sp=>sp 15=s3_15∧sp 13=s3_13∧sp 14=s3_14) (fun sp on hA hon=>?_) (fun ops3_15=>?_)
    ·refine ⟨fun o ho vs Rs f' S' w hp hf hx hS hR hs=>?_⟩
     obtain rfl := Option.some.inj ho
     obtain ⟨hv13,hR13⟩ := (spe hA.2.1 hs3_13 (hp 13 (by kernel_rfl)))
     obtain ⟨hv14,hR14⟩ := (spe hA.2.2 hs3_14 (hp 14 (by kernel_rfl)))
     rw [hA.1,hs3_15]
     refine And.intro (fun a ha=>(want_is (j:=13) (t:=16) (r:=true) rfl rfl (by kernel_rfl) (((hf 13 16 (by kernel_rfl) rfl).trans hv13).trans (congrArg Value.bool (show (decide (a0.2.2.1≥(1:Int)))=true from dec_t q6))) rfl a ha).trans hon.symm) (And.intro (fun _=>?_) (fun h=>by rw [hon] at h; cases h))
     have hF := fr_next (fr_next (rfl) (((hf 13 16 (by kernel_rfl) rfl).trans hv13).trans (congrArg Value.bool (show (decide (a0.2.2.1≥(1:Int)))=true from dec_t q6)))) ((hf 14 17 (by kernel_rfl) rfl).trans hv14)
     refine ls_fr hF ?_
     refine ls_load (a0:=⟨g1,(0+2),none⟩) (v:=.int .i64 a0.2.2.1) (de:=(TypeDesc.int .i64)) rfl rfl (by kernel_rfl) rfl (by kernel_rfl) (by kernel_rfl) (by kernel_rfl) (fun w1 hs1=>cell_step hs1.below.bw (hs.var (k:=0) ((hS 0 (by kernel_rfl)).trans (by exact rfl)) (Sub4.trans (Sub4.all _) (Sub4.skip (n:=1) (len1 _) (Sub4.skip (n:=1) (len1 _) (Sub4.head _ _)))))) ?_
     exact ls_fin s0 _ (congrArg (fun z=>upd z 18 _) hF.symm) ⟨rfl,rfl⟩ (sub_nil _)
    obtain ⟨s3_16,hs3_16⟩ := exv (.bool (decide (a0.2.2.1≤(65536:Int))))
    refine have_opa shadowboxref06_Right.tab1 1 16 (fun sp=>sp 16=s3_16∧sp 13=s3_13∧sp 15=s3_15) (fun sp on hA hon=>?_) (fun ops3_16=>?_)
    ·refine ⟨fun o ho vs Rs f' S' w hp hf hx hS hR hs=>?_⟩
     obtain rfl := Option.some.inj ho
     obtain ⟨hv13,hR13⟩ := (spe hA.2.1 hs3_13 (hp 13 (by kernel_rfl)))
     obtain ⟨hv15,hR15⟩ := (spe hA.2.2 hs3_15 (hp 15 (by kernel_rfl)))
     rw [hA.1,hs3_16]
     refine And.intro (fun a ha=>(want_is (j:=13) (t:=16) (r:=true) rfl rfl (by kernel_rfl) (((hf 13 16 (by kernel_rfl) rfl).trans hv13).trans (congrArg Value.bool (show (decide (a0.2.2.1≥(1:Int)))=true from dec_t q6))) rfl a ha).trans hon.symm) (And.intro (fun _=>?_) (fun h=>by rw [hon] at h; cases h))
     have hF := fr_next (fr_next (rfl) (((hf 13 16 (by kernel_rfl) rfl).trans hv13).trans (congrArg Value.bool (show (decide (a0.2.2.1≥(1:Int)))=true from dec_t q6)))) ((hf 15 18 (by kernel_rfl) rfl).trans hv15)
     refine ls_fr hF ?_
     refine lv (.bool (decide (a0.2.2.1≤(65536:Int)))) ?_
     exact ls_fin s0 _ (congrArg (fun z=>upd z 19 _) hF.symm) ⟨rfl,rfl⟩ (sub_nil _)
    obtain ⟨s3_17,hs3_17⟩ := exv (.bool (decide (a0.2.2.1≤(65536:Int))))
    refine have_opa shadowboxref06_Right.tab1 1 17 (fun sp=>sp 17=s3_17∧sp 13=s3_13∧sp 16=s3_16) (fun sp on hA hon=>?_) (fun ops3_17=>?_)
    ·refine ⟨fun o ho vs Rs f' S' w hp hf hx hS hR hs=>?_⟩
     obtain rfl := Option.some.inj ho
     obtain ⟨hv13,hR13⟩ := (spe hA.2.1 hs3_13 (hp 13 (by kernel_rfl)))
     obtain ⟨hv16,hR16⟩ := (spe hA.2.2 hs3_16 (hp 16 (by kernel_rfl)))
     exact opv (.bool (decide (a0.2.2.1≤(65536:Int)))) hA.1 hs3_17 hon (fr_next (fr_next (rfl) (((hf 13 16 (by kernel_rfl) rfl).trans hv13).trans (congrArg Value.bool (show (decide (a0.2.2.1≥(1:Int)))=true from dec_t q6)))) ((hf 16 19 (by kernel_rfl) rfl).trans hv16))
    obtain ⟨s3_18,hs3_18⟩ := exv (.bool (decide (a0.2.2.1≤(65536:Int))))
    refine have_opa shadowboxref06_Right.tab1 1 18 (fun sp=>sp 18=s3_18∧sp 17=s3_17) (fun sp on hA hon=>?_) (fun ops3_18=>?_)
    ·refine ⟨fun o ho vs Rs f' S' w hp hf hx hS hR hs=>?_⟩
     obtain rfl := Option.some.inj ho
     obtain ⟨hv17,hR17⟩ := (spe hA.2 hs3_17 (hp 17 (by kernel_rfl)))
     exact opv (.bool (decide (a0.2.2.1≤(65536:Int)))) hA.1 hs3_18 hon (fr_next (rfl) ((hf 17 20 (by kernel_rfl) rfl).trans hv17))
    by_cases q7:a0.2.2.1≤(65536:Int)
    ·replace H := ite_t q7 H
     obtain ⟨s3_19,hs3_19⟩ := exv (.pointer (some ⟨g1,(0+0),none⟩))
     refine have_opa shadowboxref06_Right.tab1 1 19 (fun sp=>sp 19=s3_19∧sp 18=s3_18) (fun sp on hA hon=>?_) (fun ops3_19=>?_)
     ·refine ⟨fun o ho vs Rs f' S' w hp hf hx hS hR hs=>?_⟩
      obtain rfl := Option.some.inj ho
      obtain ⟨hv18,hR18⟩ := (spe hA.2 hs3_18 (hp 18 (by kernel_rfl)))
      rw [hA.1,hs3_19]
      refine And.intro (fun a ha=>(want_is (j:=18) (t:=21) (r:=true) rfl rfl (by kernel_rfl) (((hf 18 21 (by kernel_rfl) rfl).trans hv18).trans (congrArg Value.bool (show (decide (a0.2.2.1≤(65536:Int)))=true from dec_t q7))) rfl a ha).trans hon.symm) (And.intro (fun _=>?_) (fun h=>by rw [hon] at h; cases h))
      have hF := fr_next (fr_next (rfl) ((hx 1 (by kernel_rfl)).trans (by kernel_rfl:(_:Value)=.pointer (some ⟨g1,0,none⟩)))) (((hf 18 21 (by kernel_rfl) rfl).trans hv18).trans (congrArg Value.bool (show (decide (a0.2.2.1≤(65536:Int)))=true from dec_t q7)))
      refine ls_fr hF ?_
      refine lv (.pointer (some ⟨g1,(0+0),none⟩)) ?_
      exact ls_fin s0 _ (congrArg (fun z=>upd z 22 _) hF.symm) ⟨rfl,rfl⟩ (sub_nil _)
     obtain ⟨s3_20,hs3_20⟩ := exv (.int .i64 a0.1)
     refine have_opa shadowboxref06_Right.tab1 1 20 (fun sp=>sp 20=s3_20∧sp 18=s3_18∧sp 19=s3_19) (fun sp on hA hon=>?_) (fun ops3_20=>?_)
     ·refine ⟨fun o ho vs Rs f' S' w hp hf hx hS hR hs=>?_⟩
      obtain rfl := Option.some.inj ho
      obtain ⟨hv18,hR18⟩ := (spe hA.2.1 hs3_18 (hp 18 (by kernel_rfl)))
      obtain ⟨hv19,hR19⟩ := (spe hA.2.2 hs3_19 (hp 19 (by kernel_rfl)))
      rw [hA.1,hs3_20]
      refine And.intro (fun a ha=>(want_is (j:=18) (t:=21) (r:=true) rfl rfl (by kernel_rfl) (((hf 18 21 (by kernel_rfl) rfl).trans hv18).trans (congrArg Value.bool (show (decide (a0.2.2.1≤(65536:Int)))=true from dec_t q7))) rfl a ha).trans hon.symm) (And.intro (fun _=>?_) (fun h=>by rw [hon] at h; cases h))
      have hF := fr_next (fr_next (rfl) (((hf 18 21 (by kernel_rfl) rfl).trans hv18).trans (congrArg Value.bool (show (decide (a0.2.2.1≤(65536:Int)))=true from dec_t q7)))) ((hf 19 22 (by kernel_rfl) rfl).trans hv19)
      refine ls_fr hF ?_
      refine ls_load (a0:=⟨g1,(0+0),none⟩) (v:=.int .i64 a0.1) (de:=(TypeDesc.int .i64)) rfl rfl (by kernel_rfl) rfl (by kernel_rfl) (by kernel_rfl) (by kernel_rfl) (fun w1 hs1=>cell_step hs1.below.bw (hs.var (k:=0) ((hS 0 (by kernel_rfl)).trans (by exact rfl)) (Sub4.trans (Sub4.all _) (Sub4.head _ _)))) ?_
      exact ls_fin s0 _ (congrArg (fun z=>upd z 23 _) hF.symm) ⟨rfl,rfl⟩ (sub_nil _)
     obtain ⟨s3_21,hs3_21⟩ := exv (.bool (decide (a0.1≥(2:Int))))
     refine have_opa shadowboxref06_Right.tab1 1 21 (fun sp=>sp 21=s3_21∧sp 18=s3_18∧sp 20=s3_20) (fun sp on hA hon=>?_) (fun ops3_21=>?_)
     ·refine ⟨fun o ho vs Rs f' S' w hp hf hx hS hR hs=>?_⟩
      obtain rfl := Option.some.inj ho
      obtain ⟨hv18,hR18⟩ := (spe hA.2.1 hs3_18 (hp 18 (by kernel_rfl)))
      obtain ⟨hv20,hR20⟩ := (spe hA.2.2 hs3_20 (hp 20 (by kernel_rfl)))
      rw [hA.1,hs3_21]
      refine And.intro (fun a ha=>(want_is (j:=18) (t:=21) (r:=true) rfl rfl (by kernel_rfl) (((hf 18 21 (by kernel_rfl) rfl).trans hv18).trans (congrArg Value.bool (show (decide (a0.2.2.1≤(65536:Int)))=true from dec_t q7))) rfl a ha).trans hon.symm) (And.intro (fun _=>?_) (fun h=>by rw [hon] at h; cases h))
      have hF := fr_next (fr_next (rfl) (((hf 18 21 (by kernel_rfl) rfl).trans hv18).trans (congrArg Value.bool (show (decide (a0.2.2.1≤(65536:Int)))=true from dec_t q7)))) ((hf 20 23 (by kernel_rfl) rfl).trans hv20)
      refine ls_fr hF ?_
      refine lv (.bool (decide (a0.1≥(2:Int)))) ?_
      exact ls_fin s0 _ (congrArg (fun z=>upd z 24 _) hF.symm) ⟨rfl,rfl⟩ (sub_nil _)
     obtain ⟨s3_22,hs3_22⟩ := exv (.bool (decide (a0.1≥(2:Int))))
     refine have_opa shadowboxref06_Right.tab1 1 22 (fun sp=>sp 22=s3_22∧sp 18=s3_18∧sp 21=s3_21) (fun sp on hA hon=>?_) (fun ops3_22=>?_)
     ·refine ⟨fun o ho vs Rs f' S' w hp hf hx hS hR hs=>?_⟩
      obtain rfl := Option.some.inj ho
      obtain ⟨hv18,hR18⟩ := (spe hA.2.1 hs3_18 (hp 18 (by kernel_rfl)))
      obtain ⟨hv21,hR21⟩ := (spe hA.2.2 hs3_21 (hp 21 (by kernel_rfl)))
      exact opv (.bool (decide (a0.1≥(2:Int)))) hA.1 hs3_22 hon (fr_next (fr_next (rfl) (((hf 18 21 (by kernel_rfl) rfl).trans hv18).trans (congrArg Value.bool (show (decide (a0.2.2.1≤(65536:Int)))=true from dec_t q7)))) ((hf 21 24 (by kernel_rfl) rfl).trans hv21))
     obtain ⟨s3_23,hs3_23⟩ := exv (.bool (decide (a0.1≥(2:Int))))
     refine have_opa shadowboxref06_Right.tab1 1 23 (fun sp=>sp 23=s3_23∧sp 22=s3_22) (fun sp on hA hon=>?_) (fun ops3_23=>?_)
     ·refine ⟨fun o ho vs Rs f' S' w hp hf hx hS hR hs=>?_⟩
      obtain rfl := Option.some.inj ho
      obtain ⟨hv22,hR22⟩ := (spe hA.2 hs3_22 (hp 22 (by kernel_rfl)))
      exact opv (.bool (decide (a0.1≥(2:Int)))) hA.1 hs3_23 hon (fr_next (rfl) ((hf 22 25 (by kernel_rfl) rfl).trans hv22))
     by_cases q8:a0.1≥(2:Int)
     ·replace H := ite_t q8 H
      obtain ⟨s3_24,hs3_24⟩ := exv (.pointer (some ⟨g1,(0+0),none⟩))
      refine have_opa shadowboxref06_Right.tab1 1 24 (fun sp=>sp 24=s3_24∧sp 23=s3_23) (fun sp on hA hon=>?_) (fun ops3_24=>?_)
      ·refine ⟨fun o ho vs Rs f' S' w hp hf hx hS hR hs=>?_⟩
       obtain rfl := Option.some.inj ho
       obtain ⟨hv23,hR23⟩ := (spe hA.2 hs3_23 (hp 23 (by kernel_rfl)))
       rw [hA.1,hs3_24]
       refine And.intro (fun a ha=>(want_is (j:=23) (t:=26) (r:=true) rfl rfl (by kernel_rfl) (((hf 23 26 (by kernel_rfl) rfl).trans hv23).trans (congrArg Value.bool (show (decide (a0.1≥(2:Int)))=true from dec_t q8))) rfl a ha).trans hon.symm) (And.intro (fun _=>?_) (fun h=>by rw [hon] at h; cases h))
       have hF := fr_next (fr_next (rfl) ((hx 1 (by kernel_rfl)).trans (by kernel_rfl:(_:Value)=.pointer (some ⟨g1,0,none⟩)))) (((hf 23 26 (by kernel_rfl) rfl).trans hv23).trans (congrArg Value.bool (show (decide (a0.1≥(2:Int)))=true from dec_t q8)))
       refine ls_fr hF ?_
       refine lv (.pointer (some ⟨g1,(0+0),none⟩)) ?_
       exact ls_fin s0 _ (congrArg (fun z=>upd z 27 _) hF.symm) ⟨rfl,rfl⟩ (sub_nil _)
      obtain ⟨s3_25,hs3_25⟩ := exv (.int .i64 a0.1)
      refine have_opa shadowboxref06_Right.tab1 1 25 (fun sp=>sp 25=s3_25∧sp 23=s3_23∧sp 24=s3_24) (fun sp on hA hon=>?_) (fun ops3_25=>?_)
      ·refine ⟨fun o ho vs Rs f' S' w hp hf hx hS hR hs=>?_⟩
       obtain rfl := Option.some.inj ho
       obtain ⟨hv23,hR23⟩ := (spe hA.2.1 hs3_23 (hp 23 (by kernel_rfl)))
       obtain ⟨hv24,hR24⟩ := (spe hA.2.2 hs3_24 (hp 24 (by kernel_rfl)))
       rw [hA.1,hs3_25]
       refine And.intro (fun a ha=>(want_is (j:=23) (t:=26) (r:=true) rfl rfl (by kernel_rfl) (((hf 23 26 (by kernel_rfl) rfl).trans hv23).trans (congrArg Value.bool (show (decide (a0.1≥(2:Int)))=true from dec_t q8))) rfl a ha).trans hon.symm) (And.intro (fun _=>?_) (fun h=>by rw [hon] at h; cases h))
       have hF := fr_next (fr_next (rfl) (((hf 23 26 (by kernel_rfl) rfl).trans hv23).trans (congrArg Value.bool (show (decide (a0.1≥(2:Int)))=true from dec_t q8)))) ((hf 24 27 (by kernel_rfl) rfl).trans hv24)
       refine ls_fr hF ?_
       refine ls_load (a0:=⟨g1,(0+0),none⟩) (v:=.int .i64 a0.1) (de:=(TypeDesc.int .i64)) rfl rfl (by kernel_rfl) rfl (by kernel_rfl) (by kernel_rfl) (by kernel_rfl) (fun w1 hs1=>cell_step hs1.below.bw (hs.var (k:=0) ((hS 0 (by kernel_rfl)).trans (by exact rfl)) (Sub4.trans (Sub4.all _) (Sub4.head _ _)))) ?_
       exact ls_fin s0 _ (congrArg (fun z=>upd z 28 _) hF.symm) ⟨rfl,rfl⟩ (sub_nil _)
      obtain ⟨s3_26,hs3_26⟩ := exv (.bool (decide (a0.1≤(8192:Int))))
      refine have_opa shadowboxref06_Right.tab1 1 26 (fun sp=>sp 26=s3_26∧sp 23=s3_23∧sp 25=s3_25) (fun sp on hA hon=>?_) (fun ops3_26=>?_)
      ·refine ⟨fun o ho vs Rs f' S' w hp hf hx hS hR hs=>?_⟩
       obtain rfl := Option.some.inj ho
       obtain ⟨hv23,hR23⟩ := (spe hA.2.1 hs3_23 (hp 23 (by kernel_rfl)))
       obtain ⟨hv25,hR25⟩ := (spe hA.2.2 hs3_25 (hp 25 (by kernel_rfl)))
       rw [hA.1,hs3_26]
       refine And.intro (fun a ha=>(want_is (j:=23) (t:=26) (r:=true) rfl rfl (by kernel_rfl) (((hf 23 26 (by kernel_rfl) rfl).trans hv23).trans (congrArg Value.bool (show (decide (a0.1≥(2:Int)))=true from dec_t q8))) rfl a ha).trans hon.symm) (And.intro (fun _=>?_) (fun h=>by rw [hon] at h; cases h))
       have hF := fr_next (fr_next (rfl) (((hf 23 26 (by kernel_rfl) rfl).trans hv23).trans (congrArg Value.bool (show (decide (a0.1≥(2:Int)))=true from dec_t q8)))) ((hf 25 28 (by kernel_rfl) rfl).trans hv25)
       refine ls_fr hF ?_
       refine lv (.bool (decide (a0.1≤(8192:Int)))) ?_
       exact ls_fin s0 _ (congrArg (fun z=>upd z 29 _) hF.symm) ⟨rfl,rfl⟩ (sub_nil _)
      obtain ⟨s3_27,hs3_27⟩ := exv (.bool (decide (a0.1≤(8192:Int))))
      refine have_opa shadowboxref06_Right.tab1 1 27 (fun sp=>sp 27=s3_27∧sp 23=s3_23∧sp 26=s3_26) (fun sp on hA hon=>?_) (fun ops3_27=>?_)
      ·refine ⟨fun o ho vs Rs f' S' w hp hf hx hS hR hs=>?_⟩
       obtain rfl := Option.some.inj ho
       obtain ⟨hv23,hR23⟩ := (spe hA.2.1 hs3_23 (hp 23 (by kernel_rfl)))
       obtain ⟨hv26,hR26⟩ := (spe hA.2.2 hs3_26 (hp 26 (by kernel_rfl)))
       exact opv (.bool (decide (a0.1≤(8192:Int)))) hA.1 hs3_27 hon (fr_next (fr_next (rfl) (((hf 23 26 (by kernel_rfl) rfl).trans hv23).trans (congrArg Value.bool (show (decide (a0.1≥(2:Int)))=true from dec_t q8)))) ((hf 26 29 (by kernel_rfl) rfl).trans hv26))
      obtain ⟨s3_28,hs3_28⟩ := exv (.bool (decide (a0.1≤(8192:Int))))
      refine have_opa shadowboxref06_Right.tab1 1 28 (fun sp=>sp 28=s3_28∧sp 27=s3_27) (fun sp on hA hon=>?_) (fun ops3_28=>?_)
      ·refine ⟨fun o ho vs Rs f' S' w hp hf hx hS hR hs=>?_⟩
       obtain rfl := Option.some.inj ho
       obtain ⟨hv27,hR27⟩ := (spe hA.2 hs3_27 (hp 27 (by kernel_rfl)))
       exact opv (.bool (decide (a0.1≤(8192:Int)))) hA.1 hs3_28 hon (fr_next (rfl) ((hf 27 30 (by kernel_rfl) rfl).trans hv27))
      by_cases q9:a0.1≤(8192:Int)
      ·replace H := ite_t q9 H
       obtain ⟨s3_29,hs3_29⟩ := exv (.pointer (some ⟨g1,(0+0),none⟩))
       refine have_opa shadowboxref06_Right.tab1 1 29 (fun sp=>sp 29=s3_29∧sp 28=s3_28) (fun sp on hA hon=>?_) (fun ops3_29=>?_)
       ·refine ⟨fun o ho vs Rs f' S' w hp hf hx hS hR hs=>?_⟩
        obtain rfl := Option.some.inj ho
        obtain ⟨hv28,hR28⟩ := (spe hA.2 hs3_28 (hp 28 (by kernel_rfl)))
        rw [hA.1,hs3_29]
        refine And.intro (fun a ha=>(want_is (j:=28) (t:=31) (r:=true) rfl rfl (by kernel_rfl) (((hf 28 31 (by kernel_rfl) rfl).trans hv28).trans (congrArg Value.bool (show (decide (a0.1≤(8192:Int)))=true from dec_t q9))) rfl a ha).trans hon.symm) (And.intro (fun _=>?_) (fun h=>by rw [hon] at h; cases h))
        have hF := fr_next (fr_next (rfl) ((hx 1 (by kernel_rfl)).trans (by kernel_rfl:(_:Value)=.pointer (some ⟨g1,0,none⟩)))) (((hf 28 31 (by kernel_rfl) rfl).trans hv28).trans (congrArg Value.bool (show (decide (a0.1≤(8192:Int)))=true from dec_t q9)))
        refine ls_fr hF ?_
        refine lv (.pointer (some ⟨g1,(0+0),none⟩)) ?_
        exact ls_fin s0 _ (congrArg (fun z=>upd z 32 _) hF.symm) ⟨rfl,rfl⟩ (sub_nil _)
       obtain ⟨s3_30,hs3_30⟩ := exv (.int .i64 a0.1)
       refine have_opa shadowboxref06_Right.tab1 1 30 (fun sp=>sp 30=s3_30∧sp 28=s3_28∧sp 29=s3_29) (fun sp on hA hon=>?_) (fun ops3_30=>?_)
       ·refine ⟨fun o ho vs Rs f' S' w hp hf hx hS hR hs=>?_⟩
        obtain rfl := Option.some.inj ho
        obtain ⟨hv28,hR28⟩ := (spe hA.2.1 hs3_28 (hp 28 (by kernel_rfl)))
        obtain ⟨hv29,hR29⟩ := (spe hA.2.2 hs3_29 (hp 29 (by kernel_rfl)))
        rw [hA.1,hs3_30]
        refine And.intro (fun a ha=>(want_is (j:=28) (t:=31) (r:=true) rfl rfl (by kernel_rfl) (((hf 28 31 (by kernel_rfl) rfl).trans hv28).trans (congrArg Value.bool (show (decide (a0.1≤(8192:Int)))=true from dec_t q9))) rfl a ha).trans hon.symm) (And.intro (fun _=>?_) (fun h=>by rw [hon] at h; cases h))
        have hF := fr_next (fr_next (rfl) (((hf 28 31 (by kernel_rfl) rfl).trans hv28).trans (congrArg Value.bool (show (decide (a0.1≤(8192:Int)))=true from dec_t q9)))) ((hf 29 32 (by kernel_rfl) rfl).trans hv29)
        refine ls_fr hF ?_
        refine ls_load (a0:=⟨g1,(0+0),none⟩) (v:=.int .i64 a0.1) (de:=(TypeDesc.int .i64)) rfl rfl (by kernel_rfl) rfl (by kernel_rfl) (by kernel_rfl) (by kernel_rfl) (fun w1 hs1=>cell_step hs1.below.bw (hs.var (k:=0) ((hS 0 (by kernel_rfl)).trans (by exact rfl)) (Sub4.trans (Sub4.all _) (Sub4.head _ _)))) ?_
        exact ls_fin s0 _ (congrArg (fun z=>upd z 33 _) hF.symm) ⟨rfl,rfl⟩ (sub_nil _)
       obtain ⟨s3_31,hs3_31⟩ := exv (.agg ⟨([Value.int .i64 a0.1]++([Value.int .i64 a0.2.1]++([Value.int .i64 a0.2.2.1]++([Value.int .u32 a0.2.2.2.1]++en (Value.int .u8) a0.2.2.2.2.1))))⟩)
       refine have_opa shadowboxref06_Right.tab1 1 31 (fun sp=>sp 31=s3_31∧sp 28=s3_28) (fun sp on hA hon=>?_) (fun ops3_31=>?_)
       ·refine ⟨fun o ho vs Rs f' S' w hp hf hx hS hR hs=>?_⟩
        obtain rfl := Option.some.inj ho
        obtain ⟨hv28,hR28⟩ := (spe hA.2 hs3_28 (hp 28 (by kernel_rfl)))
        rw [hA.1,hs3_31]
        refine And.intro (fun a ha=>(want_is (j:=28) (t:=31) (r:=true) rfl rfl (by kernel_rfl) (((hf 28 31 (by kernel_rfl) rfl).trans hv28).trans (congrArg Value.bool (show (decide (a0.1≤(8192:Int)))=true from dec_t q9))) rfl a ha).trans hon.symm) (And.intro (fun _=>?_) (fun h=>by rw [hon] at h; cases h))
        have hF := fr_next (fr_next (rfl) ((hx 1 (by kernel_rfl)).trans (by kernel_rfl:(_:Value)=.pointer (some ⟨g1,0,none⟩)))) (((hf 28 31 (by kernel_rfl) rfl).trans hv28).trans (congrArg Value.bool (show (decide (a0.1≤(8192:Int)))=true from dec_t q9)))
        refine ls_fr hF ?_
        refine ls_loadagg (a:=⟨g1,0,none⟩) (sub:=([Value.int .i64 a0.1]++([Value.int .i64 a0.2.1]++([Value.int .i64 a0.2.2.1]++([Value.int .u32 a0.2.2.2.1]++en (Value.int .u8) a0.2.2.2.2.1))))) rfl rfl (by kernel_rfl) rfl (by kernel_rfl) (by kernel_rfl) (by kernel_rfl) (len_app (len1 _) (len_app (len1 _) (len_app (len1 _) (len_app (len1 _) (len_en _ a0.2.2.2.2))))) (fun w1 hs1=>Rd.step (hs.vars (k:=0) ((hS 0 (by kernel_rfl)).trans (by exact rfl)) (Sub4.all _)) hs1.below.bw) ?_
        exact ls_fin s0 _ (congrArg (fun z=>upd z 34 _) hF.symm) ⟨rfl,rfl⟩ (sub_nil _)
       obtain ⟨t10,hc11,H⟩ := bind_some H
       obtain ⟨s3_32,hs3_32⟩:∃ z:Value→Sto→Prop,z=(fun v R=>∃ x12:Unit,v=.int .i64 t10∧R=stl []) := ⟨_,rfl⟩
       refine have_opa shadowboxref06_Right.tab1 1 32 (fun sp=>sp 32=s3_32∧sp 28=s3_28∧sp 31=s3_31) (fun sp on hA hon=>?_) (fun ops3_32=>?_)
       ·refine ⟨fun o ho vs Rs f' S' w hp hf hx hS hR hs=>?_⟩
        obtain rfl := Option.some.inj ho
        obtain ⟨hv28,hR28⟩ := (spe hA.2.1 hs3_28 (hp 28 (by kernel_rfl)))
        obtain ⟨hv31,hR31⟩ := (spe hA.2.2 hs3_31 (hp 31 (by kernel_rfl)))
        rw [hA.1,hs3_32]
        refine And.intro (fun a ha=>(want_is (j:=28) (t:=31) (r:=true) rfl rfl (by kernel_rfl) (((hf 28 31 (by kernel_rfl) rfl).trans hv28).trans (congrArg Value.bool (show (decide (a0.1≤(8192:Int)))=true from dec_t q9))) rfl a ha).trans hon.symm) (And.intro (fun _=>?_) (fun h=>by rw [hon] at h; cases h))
        have hF := fr_next (fr_next (rfl) (((hf 28 31 (by kernel_rfl) rfl).trans hv28).trans (congrArg Value.bool (show (decide (a0.1≤(8192:Int)))=true from dec_t q9)))) ((hf 31 34 (by kernel_rfl) rfl).trans hv31)
        refine ls_fr hF ?_
        refine ls_call (fid:=13) (vals:=#[.agg ⟨([Value.int .i64 a0.1]++([Value.int .i64 a0.2.1]++([Value.int .i64 a0.2.2.1]++([Value.int .u32 a0.2.2.2.1]++en (Value.int .u8) a0.2.2.2.2.1))))⟩]) (X:=Unit) (fun x=>.int .i64 t10) (fun x=>stl []) 0 rfl rfl (by kernel_rfl) (fun w=>by kernel_rfl) (fun w1 hs1=>shadowboxref06_Sectors.calls k a0 t10 (bw w1) (St.refl w1)  hc11) ?_
        intro x12
        exact ls_fin (stl []) (.int .i64 t10) (congrArg (fun z=>upd z 35 _) hF.symm) ⟨x12,rfl,rfl⟩ (sub_join _)
       refine cs_draw shadowboxref06_Right.tab1 33 1 (spl [s3_0,s3_1,s3_2,s3_3,s3_4,s3_5,s3_6,s3_7,s3_8,s3_9,s3_10,s3_11,s3_12,s3_13,s3_14,s3_15,s3_16,s3_17,s3_18,s3_19,s3_20,s3_21,s3_22,s3_23,s3_24,s3_25,s3_26,s3_27,s3_28,s3_29,s3_30,s3_31,s3_32]) (onl [true,true,true,true,true,true,true,true,true,true,true,true,true,true,true,true,true,true,true,true,true,true,true,true,true,true,true,true,true,true,true,true,true]) (by kernel_rfl) (by kernel_rfl) (by kernel_rfl) (by kernel_rfl) (rs:=[_,_,_,_]) rfl (by kernel_rfl) (by kernel_rfl) (all_snoc (all_snoc (all_snoc (all_snoc (all_snoc (all_snoc (all_snoc (all_snoc (all_snoc (all_snoc (all_snoc (all_snoc (all_snoc (all_snoc (all_snoc (all_snoc (all_snoc (all_snoc (all_snoc (all_snoc (all_snoc (all_snoc (all_snoc (all_snoc (all_snoc (all_snoc (all_snoc (all_snoc (all_snoc (all_snoc (all_snoc (all_snoc (all_snoc (all_nil) (ops3_0 _ _ rfl rfl)) (ops3_1 _ _ ⟨rfl,rfl⟩ rfl)) (ops3_2 _ _ ⟨rfl,rfl⟩ rfl)) (ops3_3 _ _ ⟨rfl,rfl⟩ rfl)) (ops3_4 _ _ ⟨rfl,rfl⟩ rfl)) (ops3_5 _ _ ⟨rfl,rfl,rfl⟩ rfl)) (ops3_6 _ _ ⟨rfl,rfl,rfl⟩ rfl)) (ops3_7 _ _ ⟨rfl,rfl,rfl⟩ rfl)) (ops3_8 _ _ ⟨rfl,rfl⟩ rfl)) (ops3_9 _ _ ⟨rfl,rfl⟩ rfl)) (ops3_10 _ _ ⟨rfl,rfl,rfl⟩ rfl)) (ops3_11 _ _ ⟨rfl,rfl,rfl⟩ rfl)) (ops3_12 _ _ ⟨rfl,rfl,rfl⟩ rfl)) (ops3_13 _ _ ⟨rfl,rfl⟩ rfl)) (ops3_14 _ _ ⟨rfl,rfl⟩ rfl)) (ops3_15 _ _ ⟨rfl,rfl,rfl⟩ rfl)) (ops3_16 _ _ ⟨rfl,rfl,rfl⟩ rfl)) (ops3_17 _ _ ⟨rfl,rfl,rfl⟩ rfl)) (ops3_18 _ _ ⟨rfl,rfl⟩ rfl)) (ops3_19 _ _ ⟨rfl,rfl⟩ rfl)) (ops3_20 _ _ ⟨rfl,rfl,rfl⟩ rfl)) (ops3_21 _ _ ⟨rfl,rfl,rfl⟩ rfl)) (ops3_22 _ _ ⟨rfl,rfl,rfl⟩ rfl)) (ops3_23 _ _ ⟨rfl,rfl⟩ rfl)) (ops3_24 _ _ ⟨rfl,rfl⟩ rfl)) (ops3_25 _ _ ⟨rfl,rfl,rfl⟩ rfl)) (ops3_26 _ _ ⟨rfl,rfl,rfl⟩ rfl)) (ops3_27 _ _ ⟨rfl,rfl,rfl⟩ rfl)) (ops3_28 _ _ ⟨rfl,rfl⟩ rfl)) (ops3_29 _ _ ⟨rfl,rfl⟩ rfl)) (ops3_30 _ _ ⟨rfl,rfl,rfl⟩ rfl)) (ops3_31 _ _ ⟨rfl,rfl⟩ rfl)) (ops3_32 _ _ ⟨rfl,rfl,rfl⟩ rfl)) ?_
       intro vs Rs f' S' hp hf hx hS hR
       obtain ⟨hv28,hR28⟩ := (spe rfl hs3_28 (hp 28 (by kernel_rfl)))
       obtain ⟨hv30,hR30⟩ := (spe rfl hs3_30 (hp 30 (by kernel_rfl)))
       obtain ⟨x12,hv32,hR32⟩ := (spe rfl hs3_32 (hp 32 (by kernel_rfl)))
       refine ls_fr (F:=upd (upd (upd f' 31 (.bool (decide (a0.1≤(8192:Int))))) 33 (.int .i64 a0.1)) 35 (.int .i64 t10)) (fr_next (fr_next (fr_next (rfl) ((hf 28 31 (by kernel_rfl) rfl).trans hv28)) ((hf 30 33 (by kernel_rfl) rfl).trans hv30)) ((hf 32 35 (by kernel_rfl) rfl).trans hv32)) ?_
       refine ls_sub (s0) (sub_nil _) ?_
       refine ls_know (c:=true) (dec_t q9) 31 (by kernel_rfl) ?_
       refine ls_on (j:=28) (t:=31) (b:=true) rfl rfl (by kernel_rfl) (by kernel_rfl) ?_
       refine lv (.int .i64 (IntKind.wrap .i64 (a0.1+t10))) ?_
       refine ls_on (j:=28) (t:=31) (b:=true) rfl rfl (by kernel_rfl) (by kernel_rfl) ?_
       refine lv (.bool (decide ((IntKind.wrap .i64 (a0.1+t10))≤(8192:Int)))) ?_
       refine lv (.bool (decide ((IntKind.wrap .i64 (a0.1+t10))≤(8192:Int)))) ?_
       refine lv (.bool (decide ((IntKind.wrap .i64 (a0.1+t10))≤(8192:Int)))) ?_
       refine ls_end ?_
       refine qn_then ?_
       refine cs_ret' ?_
       obtain rfl := Option.some.inj H
       refine qr_res (rs:=[_]) rfl (fun w' hs=>⟨[.bool (decide ((IntKind.wrap .i64 (a0.1+t10))≤(8192:Int)))],(res_tmp (by kernel_rfl) (.nil)),(),rfl,hs.pick (ts:=[]) (cs:=[]) trivial (by decide)⟩)
      replace H := ite_f q9 H
      refine cs_draw shadowboxref06_Right.tab1 33 1 (spl [s3_0,s3_1,s3_2,s3_3,s3_4,s3_5,s3_6,s3_7,s3_8,s3_9,s3_10,s3_11,s3_12,s3_13,s3_14,s3_15,s3_16,s3_17,s3_18,s3_19,s3_20,s3_21,s3_22,s3_23,s3_24,s3_25,s3_26,s3_27,s3_28,spu,spu,spu,spu]) (onl [true,true,true,true,true,true,true,true,true,true,true,true,true,true,true,true,true,true,true,true,true,true,true,true,true,true,true,true,true,false,false,false,false]) (by kernel_rfl) (by kernel_rfl) (by kernel_rfl) (by kernel_rfl) (rs:=[_,_,_,_]) rfl (by kernel_rfl) (by kernel_rfl) (all_snoc (all_snoc (all_snoc (all_snoc (all_snoc (all_snoc (all_snoc (all_snoc (all_snoc (all_snoc (all_snoc (all_snoc (all_snoc (all_snoc (all_snoc (all_snoc (all_snoc (all_snoc (all_snoc (all_snoc (all_snoc (all_snoc (all_snoc (all_snoc (all_snoc (all_snoc (all_snoc (all_snoc (all_snoc (all_snoc (all_snoc (all_snoc (all_snoc (all_nil) (ops3_0 _ _ rfl rfl)) (ops3_1 _ _ ⟨rfl,rfl⟩ rfl)) (ops3_2 _ _ ⟨rfl,rfl⟩ rfl)) (ops3_3 _ _ ⟨rfl,rfl⟩ rfl)) (ops3_4 _ _ ⟨rfl,rfl⟩ rfl)) (ops3_5 _ _ ⟨rfl,rfl,rfl⟩ rfl)) (ops3_6 _ _ ⟨rfl,rfl,rfl⟩ rfl)) (ops3_7 _ _ ⟨rfl,rfl,rfl⟩ rfl)) (ops3_8 _ _ ⟨rfl,rfl⟩ rfl)) (ops3_9 _ _ ⟨rfl,rfl⟩ rfl)) (ops3_10 _ _ ⟨rfl,rfl,rfl⟩ rfl)) (ops3_11 _ _ ⟨rfl,rfl,rfl⟩ rfl)) (ops3_12 _ _ ⟨rfl,rfl,rfl⟩ rfl)) (ops3_13 _ _ ⟨rfl,rfl⟩ rfl)) (ops3_14 _ _ ⟨rfl,rfl⟩ rfl)) (ops3_15 _ _ ⟨rfl,rfl,rfl⟩ rfl)) (ops3_16 _ _ ⟨rfl,rfl,rfl⟩ rfl)) (ops3_17 _ _ ⟨rfl,rfl,rfl⟩ rfl)) (ops3_18 _ _ ⟨rfl,rfl⟩ rfl)) (ops3_19 _ _ ⟨rfl,rfl⟩ rfl)) (ops3_20 _ _ ⟨rfl,rfl,rfl⟩ rfl)) (ops3_21 _ _ ⟨rfl,rfl,rfl⟩ rfl)) (ops3_22 _ _ ⟨rfl,rfl,rfl⟩ rfl)) (ops3_23 _ _ ⟨rfl,rfl⟩ rfl)) (ops3_24 _ _ ⟨rfl,rfl⟩ rfl)) (ops3_25 _ _ ⟨rfl,rfl,rfl⟩ rfl)) (ops3_26 _ _ ⟨rfl,rfl,rfl⟩ rfl)) (ops3_27 _ _ ⟨rfl,rfl,rfl⟩ rfl)) (ops3_28 _ _ ⟨rfl,rfl⟩ rfl)) (op_offi 29 28 31 true rfl rfl (by kernel_rfl) (by kernel_rfl) rfl (fun v R h=>by rw [hs3_28] at h; obtain ⟨h,_⟩ := h; exact h.trans (congrArg Value.bool (show (decide (a0.1≤(8192:Int)))=false from dec_f q9))) rfl rfl)) (op_offi 30 28 31 true rfl rfl (by kernel_rfl) (by kernel_rfl) rfl (fun v R h=>by rw [hs3_28] at h; obtain ⟨h,_⟩ := h; exact h.trans (congrArg Value.bool (show (decide (a0.1≤(8192:Int)))=false from dec_f q9))) rfl rfl)) (op_offi 31 28 31 true rfl rfl (by kernel_rfl) (by kernel_rfl) rfl (fun v R h=>by rw [hs3_28] at h; obtain ⟨h,_⟩ := h; exact h.trans (congrArg Value.bool (show (decide (a0.1≤(8192:Int)))=false from dec_f q9))) rfl rfl)) (op_offi 32 28 31 true rfl rfl (by kernel_rfl) (by kernel_rfl) rfl (fun v R h=>by rw [hs3_28] at h; obtain ⟨h,_⟩ := h; exact h.trans (congrArg Value.bool (show (decide (a0.1≤(8192:Int)))=false from dec_f q9))) rfl rfl)) ?_
      intro vs Rs f' S' hp hf hx hS hR
      obtain ⟨hv28,hR28⟩ := (spe rfl hs3_28 (hp 28 (by kernel_rfl)))
      obtain ⟨hv30,hR30⟩ := (spe rfl rfl (hp 30 (by kernel_rfl)):spu _ _)
      obtain ⟨hv32,hR32⟩ := (spe rfl rfl (hp 32 (by kernel_rfl)):spu _ _)
      refine ls_fr (F:=upd f' 31 (.bool (decide (a0.1≤(8192:Int))))) (fr_next (rfl) ((hf 28 31 (by kernel_rfl) rfl).trans hv28)) ?_
      refine ls_sub (s0) (sub_nil _) ?_
      refine ls_know (c:=false) (dec_f q9) 31 (by kernel_rfl) ?_
      refine lofx 28 31 true false ?_
      refine lofx 28 31 true false ?_
      refine lv (.bool false) ?_
      refine lv (.bool false) ?_
      refine ls_end ?_
      refine qn_then ?_
      refine cs_ret' ?_
      obtain rfl := Option.some.inj H
      refine qr_res (rs:=[_]) rfl (fun w' hs=>⟨[.bool false],(res_tmp (by kernel_rfl) (.nil)),(),rfl,hs.pick (ts:=[]) (cs:=[]) trivial (by decide)⟩)
     replace H := ite_f q8 H
     obtain ⟨s3_27,hs3_27⟩ := exv (.bool false)
     refine have_opa shadowboxref06_Right.tab1 1 27 (fun sp=>sp 27=s3_27∧sp 23=s3_23∧sp 26=spu) (fun sp on hA hon=>?_) (fun ops3_27=>?_)
     ·refine ⟨fun o ho vs Rs f' S' w hp hf hx hS hR hs=>?_⟩
      obtain rfl := Option.some.inj ho
      obtain ⟨hv23,hR23⟩ := (spe hA.2.1 hs3_23 (hp 23 (by kernel_rfl)))
      obtain ⟨hv26,hR26⟩ := (spe hA.2.2 rfl (hp 26 (by kernel_rfl)):spu _ _)
      exact opv (.bool false) hA.1 hs3_27 hon (fr_next (fr_next (rfl) (((hf 23 26 (by kernel_rfl) rfl).trans hv23).trans (congrArg Value.bool (show (decide (a0.1≥(2:Int)))=false from dec_f q8)))) ((hf 26 29 (by kernel_rfl) rfl).trans hv26))
     obtain ⟨s3_28,hs3_28⟩ := exv (.bool false)
     refine have_opa shadowboxref06_Right.tab1 1 28 (fun sp=>sp 28=s3_28∧sp 27=s3_27) (fun sp on hA hon=>?_) (fun ops3_28=>?_)
     ·refine ⟨fun o ho vs Rs f' S' w hp hf hx hS hR hs=>?_⟩
      obtain rfl := Option.some.inj ho
      obtain ⟨hv27,hR27⟩ := (spe hA.2 hs3_27 (hp 27 (by kernel_rfl)))
      exact opv (.bool false) hA.1 hs3_28 hon (fr_next (rfl) ((hf 27 30 (by kernel_rfl) rfl).trans hv27))
     refine cs_draw shadowboxref06_Right.tab1 33 1 (spl [s3_0,s3_1,s3_2,s3_3,s3_4,s3_5,s3_6,s3_7,s3_8,s3_9,s3_10,s3_11,s3_12,s3_13,s3_14,s3_15,s3_16,s3_17,s3_18,s3_19,s3_20,s3_21,s3_22,s3_23,spu,spu,spu,s3_27,s3_28,spu,spu,spu,spu]) (onl [true,true,true,true,true,true,true,true,true,true,true,true,true,true,true,true,true,true,true,true,true,true,true,true,false,false,false,true,true,false,false,false,false]) (by kernel_rfl) (by kernel_rfl) (by kernel_rfl) (by kernel_rfl) (rs:=[_,_,_,_]) rfl (by kernel_rfl) (by kernel_rfl) (all_snoc (all_snoc (all_snoc (all_snoc (all_snoc (all_snoc (all_snoc (all_snoc (all_snoc (all_snoc (all_snoc (all_snoc (all_snoc (all_snoc (all_snoc (all_snoc (all_snoc (all_snoc (all_snoc (all_snoc (all_snoc (all_snoc (all_snoc (all_snoc (all_snoc (all_snoc (all_snoc (all_snoc (all_snoc (all_snoc (all_snoc (all_snoc (all_snoc (all_nil) (ops3_0 _ _ rfl rfl)) (ops3_1 _ _ ⟨rfl,rfl⟩ rfl)) (ops3_2 _ _ ⟨rfl,rfl⟩ rfl)) (ops3_3 _ _ ⟨rfl,rfl⟩ rfl)) (ops3_4 _ _ ⟨rfl,rfl⟩ rfl)) (ops3_5 _ _ ⟨rfl,rfl,rfl⟩ rfl)) (ops3_6 _ _ ⟨rfl,rfl,rfl⟩ rfl)) (ops3_7 _ _ ⟨rfl,rfl,rfl⟩ rfl)) (ops3_8 _ _ ⟨rfl,rfl⟩ rfl)) (ops3_9 _ _ ⟨rfl,rfl⟩ rfl)) (ops3_10 _ _ ⟨rfl,rfl,rfl⟩ rfl)) (ops3_11 _ _ ⟨rfl,rfl,rfl⟩ rfl)) (ops3_12 _ _ ⟨rfl,rfl,rfl⟩ rfl)) (ops3_13 _ _ ⟨rfl,rfl⟩ rfl)) (ops3_14 _ _ ⟨rfl,rfl⟩ rfl)) (ops3_15 _ _ ⟨rfl,rfl,rfl⟩ rfl)) (ops3_16 _ _ ⟨rfl,rfl,rfl⟩ rfl)) (ops3_17 _ _ ⟨rfl,rfl,rfl⟩ rfl)) (ops3_18 _ _ ⟨rfl,rfl⟩ rfl)) (ops3_19 _ _ ⟨rfl,rfl⟩ rfl)) (ops3_20 _ _ ⟨rfl,rfl,rfl⟩ rfl)) (ops3_21 _ _ ⟨rfl,rfl,rfl⟩ rfl)) (ops3_22 _ _ ⟨rfl,rfl,rfl⟩ rfl)) (ops3_23 _ _ ⟨rfl,rfl⟩ rfl)) (op_offi 24 23 26 true rfl rfl (by kernel_rfl) (by kernel_rfl) rfl (fun v R h=>by rw [hs3_23] at h; obtain ⟨h,_⟩ := h; exact h.trans (congrArg Value.bool (show (decide (a0.1≥(2:Int)))=false from dec_f q8))) rfl rfl)) (op_offi 25 23 26 true rfl rfl (by kernel_rfl) (by kernel_rfl) rfl (fun v R h=>by rw [hs3_23] at h; obtain ⟨h,_⟩ := h; exact h.trans (congrArg Value.bool (show (decide (a0.1≥(2:Int)))=false from dec_f q8))) rfl rfl)) (op_offi 26 23 26 true rfl rfl (by kernel_rfl) (by kernel_rfl) rfl (fun v R h=>by rw [hs3_23] at h; obtain ⟨h,_⟩ := h; exact h.trans (congrArg Value.bool (show (decide (a0.1≥(2:Int)))=false from dec_f q8))) rfl rfl)) (ops3_27 _ _ ⟨rfl,rfl,rfl⟩ rfl)) (ops3_28 _ _ ⟨rfl,rfl⟩ rfl)) (op_offi 29 28 31 true rfl rfl (by kernel_rfl) (by kernel_rfl) rfl (fun v R h=>by rw [hs3_28] at h; obtain ⟨h,_⟩ := h; exact h) rfl rfl)) (op_offi 30 28 31 true rfl rfl (by kernel_rfl) (by kernel_rfl) rfl (fun v R h=>by rw [hs3_28] at h; obtain ⟨h,_⟩ := h; exact h) rfl rfl)) (op_offi 31 28 31 true rfl rfl (by kernel_rfl) (by kernel_rfl) rfl (fun v R h=>by rw [hs3_28] at h; obtain ⟨h,_⟩ := h; exact h) rfl rfl)) (op_offi 32 28 31 true rfl rfl (by kernel_rfl) (by kernel_rfl) rfl (fun v R h=>by rw [hs3_28] at h; obtain ⟨h,_⟩ := h; exact h) rfl rfl)) ?_
     intro vs Rs f' S' hp hf hx hS hR
     obtain ⟨hv28,hR28⟩ := (spe rfl hs3_28 (hp 28 (by kernel_rfl)))
     obtain ⟨hv30,hR30⟩ := (spe rfl rfl (hp 30 (by kernel_rfl)):spu _ _)
     obtain ⟨hv32,hR32⟩ := (spe rfl rfl (hp 32 (by kernel_rfl)):spu _ _)
     refine ls_fr (F:=upd f' 31 (.bool false)) (fr_next (rfl) ((hf 28 31 (by kernel_rfl) rfl).trans hv28)) ?_
     refine ls_sub (s0) (sub_nil _) ?_
     refine lofx 28 31 true false ?_
     refine lofx 28 31 true false ?_
     refine lv (.bool false) ?_
     refine lv (.bool false) ?_
     refine ls_end ?_
     refine qn_then ?_
     refine cs_ret' ?_
     obtain rfl := Option.some.inj H
     refine qr_res (rs:=[_]) rfl (fun w' hs=>⟨[.bool false],(res_tmp (by kernel_rfl) (.nil)),(),rfl,hs.pick (ts:=[]) (cs:=[]) trivial (by decide)⟩)
    replace H := ite_f q7 H
    obtain ⟨s3_22,hs3_22⟩ := exv (.bool false)
    refine have_opa shadowboxref06_Right.tab1 1 22 (fun sp=>sp 22=s3_22∧sp 18=s3_18∧sp 21=spu) (fun sp on hA hon=>?_) (fun ops3_22=>?_)
    ·refine ⟨fun o ho vs Rs f' S' w hp hf hx hS hR hs=>?_⟩
     obtain rfl := Option.some.inj ho
     obtain ⟨hv18,hR18⟩ := (spe hA.2.1 hs3_18 (hp 18 (by kernel_rfl)))
     obtain ⟨hv21,hR21⟩ := (spe hA.2.2 rfl (hp 21 (by kernel_rfl)):spu _ _)
     exact opv (.bool false) hA.1 hs3_22 hon (fr_next (fr_next (rfl) (((hf 18 21 (by kernel_rfl) rfl).trans hv18).trans (congrArg Value.bool (show (decide (a0.2.2.1≤(65536:Int)))=false from dec_f q7)))) ((hf 21 24 (by kernel_rfl) rfl).trans hv21))
    obtain ⟨s3_23,hs3_23⟩ := exv (.bool false)
    refine have_opa shadowboxref06_Right.tab1 1 23 (fun sp=>sp 23=s3_23∧sp 22=s3_22) (fun sp on hA hon=>?_) (fun ops3_23=>?_)
    ·refine ⟨fun o ho vs Rs f' S' w hp hf hx hS hR hs=>?_⟩
     obtain rfl := Option.some.inj ho
     obtain ⟨hv22,hR22⟩ := (spe hA.2 hs3_22 (hp 22 (by kernel_rfl)))
     exact opv (.bool false) hA.1 hs3_23 hon (fr_next (rfl) ((hf 22 25 (by kernel_rfl) rfl).trans hv22))
    obtain ⟨s3_27,hs3_27⟩ := exv (.bool false)
    refine have_opa shadowboxref06_Right.tab1 1 27 (fun sp=>sp 27=s3_27∧sp 23=s3_23∧sp 26=spu) (fun sp on hA hon=>?_) (fun ops3_27=>?_)
    ·refine ⟨fun o ho vs Rs f' S' w hp hf hx hS hR hs=>?_⟩
     obtain rfl := Option.some.inj ho
     obtain ⟨hv23,hR23⟩ := (spe hA.2.1 hs3_23 (hp 23 (by kernel_rfl)))
     obtain ⟨hv26,hR26⟩ := (spe hA.2.2 rfl (hp 26 (by kernel_rfl)):spu _ _)
     exact opv (.bool false) hA.1 hs3_27 hon (fr_next (fr_next (rfl) ((hf 23 26 (by kernel_rfl) rfl).trans hv23)) ((hf 26 29 (by kernel_rfl) rfl).trans hv26))
    obtain ⟨s3_28,hs3_28⟩ := exv (.bool false)
    refine have_opa shadowboxref06_Right.tab1 1 28 (fun sp=>sp 28=s3_28∧sp 27=s3_27) (fun sp on hA hon=>?_) (fun ops3_28=>?_)
    ·refine ⟨fun o ho vs Rs f' S' w hp hf hx hS hR hs=>?_⟩
     obtain rfl := Option.some.inj ho
     obtain ⟨hv27,hR27⟩ := (spe hA.2 hs3_27 (hp 27 (by kernel_rfl)))
     exact opv (.bool false) hA.1 hs3_28 hon (fr_next (rfl) ((hf 27 30 (by kernel_rfl) rfl).trans hv27))
    refine cs_draw shadowboxref06_Right.tab1 33 1 (spl [s3_0,s3_1,s3_2,s3_3,s3_4,s3_5,s3_6,s3_7,s3_8,s3_9,s3_10,s3_11,s3_12,s3_13,s3_14,s3_15,s3_16,s3_17,s3_18,spu,spu,spu,s3_22,s3_23,spu,spu,spu,s3_27,s3_28,spu,spu,spu,spu]) (onl [true,true,true,true,true,true,true,true,true,true,true,true,true,true,true,true,true,true,true,false,false,false,true,true,false,false,false,true,true,false,false,false,false]) (by kernel_rfl) (by kernel_rfl) (by kernel_rfl) (by kernel_rfl) (rs:=[_,_,_,_]) rfl (by kernel_rfl) (by kernel_rfl) (all_snoc (all_snoc (all_snoc (all_snoc (all_snoc (all_snoc (all_snoc (all_snoc (all_snoc (all_snoc (all_snoc (all_snoc (all_snoc (all_snoc (all_snoc (all_snoc (all_snoc (all_snoc (all_snoc (all_snoc (all_snoc (all_snoc (all_snoc (all_snoc (all_snoc (all_snoc (all_snoc (all_snoc (all_snoc (all_snoc (all_snoc (all_snoc (all_snoc (all_nil) (ops3_0 _ _ rfl rfl)) (ops3_1 _ _ ⟨rfl,rfl⟩ rfl)) (ops3_2 _ _ ⟨rfl,rfl⟩ rfl)) (ops3_3 _ _ ⟨rfl,rfl⟩ rfl)) (ops3_4 _ _ ⟨rfl,rfl⟩ rfl)) (ops3_5 _ _ ⟨rfl,rfl,rfl⟩ rfl)) (ops3_6 _ _ ⟨rfl,rfl,rfl⟩ rfl)) (ops3_7 _ _ ⟨rfl,rfl,rfl⟩ rfl)) (ops3_8 _ _ ⟨rfl,rfl⟩ rfl)) (ops3_9 _ _ ⟨rfl,rfl⟩ rfl)) (ops3_10 _ _ ⟨rfl,rfl,rfl⟩ rfl)) (ops3_11 _ _ ⟨rfl,rfl,rfl⟩ rfl)) (ops3_12 _ _ ⟨rfl,rfl,rfl⟩ rfl)) (ops3_13 _ _ ⟨rfl,rfl⟩ rfl)) (ops3_14 _ _ ⟨rfl,rfl⟩ rfl)) (ops3_15 _ _ ⟨rfl,rfl,rfl⟩ rfl)) (ops3_16 _ _ ⟨rfl,rfl,rfl⟩ rfl)) (ops3_17 _ _ ⟨rfl,rfl,rfl⟩ rfl)) (ops3_18 _ _ ⟨rfl,rfl⟩ rfl)) (op_offi 19 18 21 true rfl rfl (by kernel_rfl) (by kernel_rfl) rfl (fun v R h=>by rw [hs3_18] at h; obtain ⟨h,_⟩ := h; exact h.trans (congrArg Value.bool (show (decide (a0.2.2.1≤(65536:Int)))=false from dec_f q7))) rfl rfl)) (op_offi 20 18 21 true rfl rfl (by kernel_rfl) (by kernel_rfl) rfl (fun v R h=>by rw [hs3_18] at h; obtain ⟨h,_⟩ := h; exact h.trans (congrArg Value.bool (show (decide (a0.2.2.1≤(65536:Int)))=false from dec_f q7))) rfl rfl)) (op_offi 21 18 21 true rfl rfl (by kernel_rfl) (by kernel_rfl) rfl (fun v R h=>by rw [hs3_18] at h; obtain ⟨h,_⟩ := h; exact h.trans (congrArg Value.bool (show (decide (a0.2.2.1≤(65536:Int)))=false from dec_f q7))) rfl rfl)) (ops3_22 _ _ ⟨rfl,rfl,rfl⟩ rfl)) (ops3_23 _ _ ⟨rfl,rfl⟩ rfl)) (op_offi 24 23 26 true rfl rfl (by kernel_rfl) (by kernel_rfl) rfl (fun v R h=>by rw [hs3_23] at h; obtain ⟨h,_⟩ := h; exact h) rfl rfl)) (op_offi 25 23 26 true rfl rfl (by kernel_rfl) (by kernel_rfl) rfl (fun v R h=>by rw [hs3_23] at h; obtain ⟨h,_⟩ := h; exact h) rfl rfl)) (op_offi 26 23 26 true rfl rfl (by kernel_rfl) (by kernel_rfl) rfl (fun v R h=>by rw [hs3_23] at h; obtain ⟨h,_⟩ := h; exact h) rfl rfl)) (ops3_27 _ _ ⟨rfl,rfl,rfl⟩ rfl)) (ops3_28 _ _ ⟨rfl,rfl⟩ rfl)) (op_offi 29 28 31 true rfl rfl (by kernel_rfl) (by kernel_rfl) rfl (fun v R h=>by rw [hs3_28] at h; obtain ⟨h,_⟩ := h; exact h) rfl rfl)) (op_offi 30 28 31 true rfl rfl (by kernel_rfl) (by kernel_rfl) rfl (fun v R h=>by rw [hs3_28] at h; obtain ⟨h,_⟩ := h; exact h) rfl rfl)) (op_offi 31 28 31 true rfl rfl (by kernel_rfl) (by kernel_rfl) rfl (fun v R h=>by rw [hs3_28] at h; obtain ⟨h,_⟩ := h; exact h) rfl rfl)) (op_offi 32 28 31 true rfl rfl (by kernel_rfl) (by kernel_rfl) rfl (fun v R h=>by rw [hs3_28] at h; obtain ⟨h,_⟩ := h; exact h) rfl rfl)) ?_
    intro vs Rs f' S' hp hf hx hS hR
    obtain ⟨hv28,hR28⟩ := (spe rfl hs3_28 (hp 28 (by kernel_rfl)))
    obtain ⟨hv30,hR30⟩ := (spe rfl rfl (hp 30 (by kernel_rfl)):spu _ _)
    obtain ⟨hv32,hR32⟩ := (spe rfl rfl (hp 32 (by kernel_rfl)):spu _ _)
    refine ls_fr (F:=upd f' 31 (.bool false)) (fr_next (rfl) ((hf 28 31 (by kernel_rfl) rfl).trans hv28)) ?_
    refine ls_sub (s0) (sub_nil _) ?_
    refine lofx 28 31 true false ?_
    refine lofx 28 31 true false ?_
    refine lv (.bool false) ?_
    refine lv (.bool false) ?_
    refine ls_end ?_
    refine qn_then ?_
    refine cs_ret' ?_
    obtain rfl := Option.some.inj H
    refine qr_res (rs:=[_]) rfl (fun w' hs=>⟨[.bool false],(res_tmp (by kernel_rfl) (.nil)),(),rfl,hs.pick (ts:=[]) (cs:=[]) trivial (by decide)⟩)
   replace H := ite_f q6 H
   obtain ⟨s3_17,hs3_17⟩ := exv (.bool false)
   refine have_opa shadowboxref06_Right.tab1 1 17 (fun sp=>sp 17=s3_17∧sp 13=s3_13∧sp 16=spu) (fun sp on hA hon=>?_) (fun ops3_17=>?_)
   ·refine ⟨fun o ho vs Rs f' S' w hp hf hx hS hR hs=>?_⟩
    obtain rfl := Option.some.inj ho
    obtain ⟨hv13,hR13⟩ := (spe hA.2.1 hs3_13 (hp 13 (by kernel_rfl)))
    obtain ⟨hv16,hR16⟩ := (spe hA.2.2 rfl (hp 16 (by kernel_rfl)):spu _ _)
    exact opv (.bool false) hA.1 hs3_17 hon (fr_next (fr_next (rfl) (((hf 13 16 (by kernel_rfl) rfl).trans hv13).trans (congrArg Value.bool (show (decide (a0.2.2.1≥(1:Int)))=false from dec_f q6)))) ((hf 16 19 (by kernel_rfl) rfl).trans hv16))
   obtain ⟨s3_18,hs3_18⟩ := exv (.bool false)
   refine have_opa shadowboxref06_Right.tab1 1 18 (fun sp=>sp 18=s3_18∧sp 17=s3_17) (fun sp on hA hon=>?_) (fun ops3_18=>?_)
   ·refine ⟨fun o ho vs Rs f' S' w hp hf hx hS hR hs=>?_⟩
    obtain rfl := Option.some.inj ho
    obtain ⟨hv17,hR17⟩ := (spe hA.2 hs3_17 (hp 17 (by kernel_rfl)))
    exact opv (.bool false) hA.1 hs3_18 hon (fr_next (rfl) ((hf 17 20 (by kernel_rfl) rfl).trans hv17))
   obtain ⟨s3_22,hs3_22⟩ := exv (.bool false)
   refine have_opa shadowboxref06_Right.tab1 1 22 (fun sp=>sp 22=s3_22∧sp 18=s3_18∧sp 21=spu) (fun sp on hA hon=>?_) (fun ops3_22=>?_)
   ·refine ⟨fun o ho vs Rs f' S' w hp hf hx hS hR hs=>?_⟩
    obtain rfl := Option.some.inj ho
    obtain ⟨hv18,hR18⟩ := (spe hA.2.1 hs3_18 (hp 18 (by kernel_rfl)))
    obtain ⟨hv21,hR21⟩ := (spe hA.2.2 rfl (hp 21 (by kernel_rfl)):spu _ _)
    exact opv (.bool false) hA.1 hs3_22 hon (fr_next (fr_next (rfl) ((hf 18 21 (by kernel_rfl) rfl).trans hv18)) ((hf 21 24 (by kernel_rfl) rfl).trans hv21))
   obtain ⟨s3_23,hs3_23⟩ := exv (.bool false)
   refine have_opa shadowboxref06_Right.tab1 1 23 (fun sp=>sp 23=s3_23∧sp 22=s3_22) (fun sp on hA hon=>?_) (fun ops3_23=>?_)
   ·refine ⟨fun o ho vs Rs f' S' w hp hf hx hS hR hs=>?_⟩
    obtain rfl := Option.some.inj ho
    obtain ⟨hv22,hR22⟩ := (spe hA.2 hs3_22 (hp 22 (by kernel_rfl)))
    exact opv (.bool false) hA.1 hs3_23 hon (fr_next (rfl) ((hf 22 25 (by kernel_rfl) rfl).trans hv22))
   obtain ⟨s3_27,hs3_27⟩ := exv (.bool false)
   refine have_opa shadowboxref06_Right.tab1 1 27 (fun sp=>sp 27=s3_27∧sp 23=s3_23∧sp 26=spu) (fun sp on hA hon=>?_) (fun ops3_27=>?_)
   ·refine ⟨fun o ho vs Rs f' S' w hp hf hx hS hR hs=>?_⟩
    obtain rfl := Option.some.inj ho
    obtain ⟨hv23,hR23⟩ := (spe hA.2.1 hs3_23 (hp 23 (by kernel_rfl)))
    obtain ⟨hv26,hR26⟩ := (spe hA.2.2 rfl (hp 26 (by kernel_rfl)):spu _ _)
    exact opv (.bool false) hA.1 hs3_27 hon (fr_next (fr_next (rfl) ((hf 23 26 (by kernel_rfl) rfl).trans hv23)) ((hf 26 29 (by kernel_rfl) rfl).trans hv26))
   obtain ⟨s3_28,hs3_28⟩ := exv (.bool false)
   refine have_opa shadowboxref06_Right.tab1 1 28 (fun sp=>sp 28=s3_28∧sp 27=s3_27) (fun sp on hA hon=>?_) (fun ops3_28=>?_)
   ·refine ⟨fun o ho vs Rs f' S' w hp hf hx hS hR hs=>?_⟩
    obtain rfl := Option.some.inj ho
    obtain ⟨hv27,hR27⟩ := (spe hA.2 hs3_27 (hp 27 (by kernel_rfl)))
    exact opv (.bool false) hA.1 hs3_28 hon (fr_next (rfl) ((hf 27 30 (by kernel_rfl) rfl).trans hv27))
   refine cs_draw shadowboxref06_Right.tab1 33 1 (spl [s3_0,s3_1,s3_2,s3_3,s3_4,s3_5,s3_6,s3_7,s3_8,s3_9,s3_10,s3_11,s3_12,s3_13,spu,spu,spu,s3_17,s3_18,spu,spu,spu,s3_22,s3_23,spu,spu,spu,s3_27,s3_28,spu,spu,spu,spu]) (onl [true,true,true,true,true,true,true,true,true,true,true,true,true,true,false,false,false,true,true,false,false,false,true,true,false,false,false,true,true,false,false,false,false]) (by kernel_rfl) (by kernel_rfl) (by kernel_rfl) (by kernel_rfl) (rs:=[_,_,_,_]) rfl (by kernel_rfl) (by kernel_rfl) (all_snoc (all_snoc (all_snoc (all_snoc (all_snoc (all_snoc (all_snoc (all_snoc (all_snoc (all_snoc (all_snoc (all_snoc (all_snoc (all_snoc (all_snoc (all_snoc (all_snoc (all_snoc (all_snoc (all_snoc (all_snoc (all_snoc (all_snoc (all_snoc (all_snoc (all_snoc (all_snoc (all_snoc (all_snoc (all_snoc (all_snoc (all_snoc (all_snoc (all_nil) (ops3_0 _ _ rfl rfl)) (ops3_1 _ _ ⟨rfl,rfl⟩ rfl)) (ops3_2 _ _ ⟨rfl,rfl⟩ rfl)) (ops3_3 _ _ ⟨rfl,rfl⟩ rfl)) (ops3_4 _ _ ⟨rfl,rfl⟩ rfl)) (ops3_5 _ _ ⟨rfl,rfl,rfl⟩ rfl)) (ops3_6 _ _ ⟨rfl,rfl,rfl⟩ rfl)) (ops3_7 _ _ ⟨rfl,rfl,rfl⟩ rfl)) (ops3_8 _ _ ⟨rfl,rfl⟩ rfl)) (ops3_9 _ _ ⟨rfl,rfl⟩ rfl)) (ops3_10 _ _ ⟨rfl,rfl,rfl⟩ rfl)) (ops3_11 _ _ ⟨rfl,rfl,rfl⟩ rfl)) (ops3_12 _ _ ⟨rfl,rfl,rfl⟩ rfl)) (ops3_13 _ _ ⟨rfl,rfl⟩ rfl)) (op_offi 14 13 16 true rfl rfl (by kernel_rfl) (by kernel_rfl) rfl (fun v R h=>by rw [hs3_13] at h; obtain ⟨h,_⟩ := h; exact h.trans (congrArg Value.bool (show (decide (a0.2.2.1≥(1:Int)))=false from dec_f q6))) rfl rfl)) (op_offi 15 13 16 true rfl rfl (by kernel_rfl) (by kernel_rfl) rfl (fun v R h=>by rw [hs3_13] at h; obtain ⟨h,_⟩ := h; exact h.trans (congrArg Value.bool (show (decide (a0.2.2.1≥(1:Int)))=false from dec_f q6))) rfl rfl)) (op_offi 16 13 16 true rfl rfl (by kernel_rfl) (by kernel_rfl) rfl (fun v R h=>by rw [hs3_13] at h; obtain ⟨h,_⟩ := h; exact h.trans (congrArg Value.bool (show (decide (a0.2.2.1≥(1:Int)))=false from dec_f q6))) rfl rfl)) (ops3_17 _ _ ⟨rfl,rfl,rfl⟩ rfl)) (ops3_18 _ _ ⟨rfl,rfl⟩ rfl)) (op_offi 19 18 21 true rfl rfl (by kernel_rfl) (by kernel_rfl) rfl (fun v R h=>by rw [hs3_18] at h; obtain ⟨h,_⟩ := h; exact h) rfl rfl)) (op_offi 20 18 21 true rfl rfl (by kernel_rfl) (by kernel_rfl) rfl (fun v R h=>by rw [hs3_18] at h; obtain ⟨h,_⟩ := h; exact h) rfl rfl)) (op_offi 21 18 21 true rfl rfl (by kernel_rfl) (by kernel_rfl) rfl (fun v R h=>by rw [hs3_18] at h; obtain ⟨h,_⟩ := h; exact h) rfl rfl)) (ops3_22 _ _ ⟨rfl,rfl,rfl⟩ rfl)) (ops3_23 _ _ ⟨rfl,rfl⟩ rfl)) (op_offi 24 23 26 true rfl rfl (by kernel_rfl) (by kernel_rfl) rfl (fun v R h=>by rw [hs3_23] at h; obtain ⟨h,_⟩ := h; exact h) rfl rfl)) (op_offi 25 23 26 true rfl rfl (by kernel_rfl) (by kernel_rfl) rfl (fun v R h=>by rw [hs3_23] at h; obtain ⟨h,_⟩ := h; exact h) rfl rfl)) (op_offi 26 23 26 true rfl rfl (by kernel_rfl) (by kernel_rfl) rfl (fun v R h=>by rw [hs3_23] at h; obtain ⟨h,_⟩ := h; exact h) rfl rfl)) (ops3_27 _ _ ⟨rfl,rfl,rfl⟩ rfl)) (ops3_28 _ _ ⟨rfl,rfl⟩ rfl)) (op_offi 29 28 31 true rfl rfl (by kernel_rfl) (by kernel_rfl) rfl (fun v R h=>by rw [hs3_28] at h; obtain ⟨h,_⟩ := h; exact h) rfl rfl)) (op_offi 30 28 31 true rfl rfl (by kernel_rfl) (by kernel_rfl) rfl (fun v R h=>by rw [hs3_28] at h; obtain ⟨h,_⟩ := h; exact h) rfl rfl)) (op_offi 31 28 31 true rfl rfl (by kernel_rfl) (by kernel_rfl) rfl (fun v R h=>by rw [hs3_28] at h; obtain ⟨h,_⟩ := h; exact h) rfl rfl)) (op_offi 32 28 31 true rfl rfl (by kernel_rfl) (by kernel_rfl) rfl (fun v R h=>by rw [hs3_28] at h; obtain ⟨h,_⟩ := h; exact h) rfl rfl)) ?_
   intro vs Rs f' S' hp hf hx hS hR
   obtain ⟨hv28,hR28⟩ := (spe rfl hs3_28 (hp 28 (by kernel_rfl)))
   obtain ⟨hv30,hR30⟩ := (spe rfl rfl (hp 30 (by kernel_rfl)):spu _ _)
   obtain ⟨hv32,hR32⟩ := (spe rfl rfl (hp 32 (by kernel_rfl)):spu _ _)
   refine ls_fr (F:=upd f' 31 (.bool false)) (fr_next (rfl) ((hf 28 31 (by kernel_rfl) rfl).trans hv28)) ?_
   refine ls_sub (s0) (sub_nil _) ?_
   refine lofx 28 31 true false ?_
   refine lofx 28 31 true false ?_
   refine lv (.bool false) ?_
   refine lv (.bool false) ?_
   refine ls_end ?_
   refine qn_then ?_
   refine cs_ret' ?_
   obtain rfl := Option.some.inj H
   refine qr_res (rs:=[_]) rfl (fun w' hs=>⟨[.bool false],(res_tmp (by kernel_rfl) (.nil)),(),rfl,hs.pick (ts:=[]) (cs:=[]) trivial (by decide)⟩)
  replace H := ite_f q5 H
  obtain ⟨s3_12,hs3_12⟩ := exv (.bool false)
  refine have_opa shadowboxref06_Right.tab1 1 12 (fun sp=>sp 12=s3_12∧sp 8=s3_8∧sp 11=spu) (fun sp on hA hon=>?_) (fun ops3_12=>?_)
  ·refine ⟨fun o ho vs Rs f' S' w hp hf hx hS hR hs=>?_⟩
   obtain rfl := Option.some.inj ho
   obtain ⟨hv8,hR8⟩ := (spe hA.2.1 hs3_8 (hp 8 (by kernel_rfl)))
   obtain ⟨hv11,hR11⟩ := (spe hA.2.2 rfl (hp 11 (by kernel_rfl)):spu _ _)
   exact opv (.bool false) hA.1 hs3_12 hon (fr_next (fr_next (rfl) (((hf 8 11 (by kernel_rfl) rfl).trans hv8).trans (congrArg Value.bool (show (decide (a0.2.1≤(1152921504606846976:Int)))=false from dec_f q5)))) ((hf 11 14 (by kernel_rfl) rfl).trans hv11))
  obtain ⟨s3_13,hs3_13⟩ := exv (.bool false)
  refine have_opa shadowboxref06_Right.tab1 1 13 (fun sp=>sp 13=s3_13∧sp 12=s3_12) (fun sp on hA hon=>?_) (fun ops3_13=>?_)
  ·refine ⟨fun o ho vs Rs f' S' w hp hf hx hS hR hs=>?_⟩
   obtain rfl := Option.some.inj ho
   obtain ⟨hv12,hR12⟩ := (spe hA.2 hs3_12 (hp 12 (by kernel_rfl)))
   exact opv (.bool false) hA.1 hs3_13 hon (fr_next (rfl) ((hf 12 15 (by kernel_rfl) rfl).trans hv12))
  obtain ⟨s3_17,hs3_17⟩ := exv (.bool false)
  refine have_opa shadowboxref06_Right.tab1 1 17 (fun sp=>sp 17=s3_17∧sp 13=s3_13∧sp 16=spu) (fun sp on hA hon=>?_) (fun ops3_17=>?_)
  ·refine ⟨fun o ho vs Rs f' S' w hp hf hx hS hR hs=>?_⟩
   obtain rfl := Option.some.inj ho
   obtain ⟨hv13,hR13⟩ := (spe hA.2.1 hs3_13 (hp 13 (by kernel_rfl)))
   obtain ⟨hv16,hR16⟩ := (spe hA.2.2 rfl (hp 16 (by kernel_rfl)):spu _ _)
   exact opv (.bool false) hA.1 hs3_17 hon (fr_next (fr_next (rfl) ((hf 13 16 (by kernel_rfl) rfl).trans hv13)) ((hf 16 19 (by kernel_rfl) rfl).trans hv16))
  obtain ⟨s3_18,hs3_18⟩ := exv (.bool false)
  refine have_opa shadowboxref06_Right.tab1 1 18 (fun sp=>sp 18=s3_18∧sp 17=s3_17) (fun sp on hA hon=>?_) (fun ops3_18=>?_)
  ·refine ⟨fun o ho vs Rs f' S' w hp hf hx hS hR hs=>?_⟩
   obtain rfl := Option.some.inj ho
   obtain ⟨hv17,hR17⟩ := (spe hA.2 hs3_17 (hp 17 (by kernel_rfl)))
   exact opv (.bool false) hA.1 hs3_18 hon (fr_next (rfl) ((hf 17 20 (by kernel_rfl) rfl).trans hv17))
  obtain ⟨s3_22,hs3_22⟩ := exv (.bool false)
  refine have_opa shadowboxref06_Right.tab1 1 22 (fun sp=>sp 22=s3_22∧sp 18=s3_18∧sp 21=spu) (fun sp on hA hon=>?_) (fun ops3_22=>?_)
  ·refine ⟨fun o ho vs Rs f' S' w hp hf hx hS hR hs=>?_⟩
   obtain rfl := Option.some.inj ho
   obtain ⟨hv18,hR18⟩ := (spe hA.2.1 hs3_18 (hp 18 (by kernel_rfl)))
   obtain ⟨hv21,hR21⟩ := (spe hA.2.2 rfl (hp 21 (by kernel_rfl)):spu _ _)
   exact opv (.bool false) hA.1 hs3_22 hon (fr_next (fr_next (rfl) ((hf 18 21 (by kernel_rfl) rfl).trans hv18)) ((hf 21 24 (by kernel_rfl) rfl).trans hv21))
  obtain ⟨s3_23,hs3_23⟩ := exv (.bool false)
  refine have_opa shadowboxref06_Right.tab1 1 23 (fun sp=>sp 23=s3_23∧sp 22=s3_22) (fun sp on hA hon=>?_) (fun ops3_23=>?_)
  ·refine ⟨fun o ho vs Rs f' S' w hp hf hx hS hR hs=>?_⟩
   obtain rfl := Option.some.inj ho
   obtain ⟨hv22,hR22⟩ := (spe hA.2 hs3_22 (hp 22 (by kernel_rfl)))
   exact opv (.bool false) hA.1 hs3_23 hon (fr_next (rfl) ((hf 22 25 (by kernel_rfl) rfl).trans hv22))
  obtain ⟨s3_27,hs3_27⟩ := exv (.bool false)
  refine have_opa shadowboxref06_Right.tab1 1 27 (fun sp=>sp 27=s3_27∧sp 23=s3_23∧sp 26=spu) (fun sp on hA hon=>?_) (fun ops3_27=>?_)
  ·refine ⟨fun o ho vs Rs f' S' w hp hf hx hS hR hs=>?_⟩
   obtain rfl := Option.some.inj ho
   obtain ⟨hv23,hR23⟩ := (spe hA.2.1 hs3_23 (hp 23 (by kernel_rfl)))
   obtain ⟨hv26,hR26⟩ := (spe hA.2.2 rfl (hp 26 (by kernel_rfl)):spu _ _)
   exact opv (.bool false) hA.1 hs3_27 hon (fr_next (fr_next (rfl) ((hf 23 26 (by kernel_rfl) rfl).trans hv23)) ((hf 26 29 (by kernel_rfl) rfl).trans hv26))
  obtain ⟨s3_28,hs3_28⟩ := exv (.bool false)
  refine have_opa shadowboxref06_Right.tab1 1 28 (fun sp=>sp 28=s3_28∧sp 27=s3_27) (fun sp on hA hon=>?_) (fun ops3_28=>?_)
  ·refine ⟨fun o ho vs Rs f' S' w hp hf hx hS hR hs=>?_⟩
   obtain rfl := Option.some.inj ho
   obtain ⟨hv27,hR27⟩ := (spe hA.2 hs3_27 (hp 27 (by kernel_rfl)))
   exact opv (.bool false) hA.1 hs3_28 hon (fr_next (rfl) ((hf 27 30 (by kernel_rfl) rfl).trans hv27))
  refine cs_draw shadowboxref06_Right.tab1 33 1 (spl [s3_0,s3_1,s3_2,s3_3,s3_4,s3_5,s3_6,s3_7,s3_8,spu,spu,spu,s3_12,s3_13,spu,spu,spu,s3_17,s3_18,spu,spu,spu,s3_22,s3_23,spu,spu,spu,s3_27,s3_28,spu,spu,spu,spu]) (onl [true,true,true,true,true,true,true,true,true,false,false,false,true,true,false,false,false,true,true,false,false,false,true,true,false,false,false,true,true,false,false,false,false]) (by kernel_rfl) (by kernel_rfl) (by kernel_rfl) (by kernel_rfl) (rs:=[_,_,_,_]) rfl (by kernel_rfl) (by kernel_rfl) (all_snoc (all_snoc (all_snoc (all_snoc (all_snoc (all_snoc (all_snoc (all_snoc (all_snoc (all_snoc (all_snoc (all_snoc (all_snoc (all_snoc (all_snoc (all_snoc (all_snoc (all_snoc (all_snoc (all_snoc (all_snoc (all_snoc (all_snoc (all_snoc (all_snoc (all_snoc (all_snoc (all_snoc (all_snoc (all_snoc (all_snoc (all_snoc (all_snoc (all_nil) (ops3_0 _ _ rfl rfl)) (ops3_1 _ _ ⟨rfl,rfl⟩ rfl)) (ops3_2 _ _ ⟨rfl,rfl⟩ rfl)) (ops3_3 _ _ ⟨rfl,rfl⟩ rfl)) (ops3_4 _ _ ⟨rfl,rfl⟩ rfl)) (ops3_5 _ _ ⟨rfl,rfl,rfl⟩ rfl)) (ops3_6 _ _ ⟨rfl,rfl,rfl⟩ rfl)) (ops3_7 _ _ ⟨rfl,rfl,rfl⟩ rfl)) (ops3_8 _ _ ⟨rfl,rfl⟩ rfl)) (op_offi 9 8 11 true rfl rfl (by kernel_rfl) (by kernel_rfl) rfl (fun v R h=>by rw [hs3_8] at h; obtain ⟨h,_⟩ := h; exact h.trans (congrArg Value.bool (show (decide (a0.2.1≤(1152921504606846976:Int)))=false from dec_f q5))) rfl rfl)) (op_offi 10 8 11 true rfl rfl (by kernel_rfl) (by kernel_rfl) rfl (fun v R h=>by rw [hs3_8] at h; obtain ⟨h,_⟩ := h; exact h.trans (congrArg Value.bool (show (decide (a0.2.1≤(1152921504606846976:Int)))=false from dec_f q5))) rfl rfl)) (op_offi 11 8 11 true rfl rfl (by kernel_rfl) (by kernel_rfl) rfl (fun v R h=>by rw [hs3_8] at h; obtain ⟨h,_⟩ := h; exact h.trans (congrArg Value.bool (show (decide (a0.2.1≤(1152921504606846976:Int)))=false from dec_f q5))) rfl rfl)) (ops3_12 _ _ ⟨rfl,rfl,rfl⟩ rfl)) (ops3_13 _ _ ⟨rfl,rfl⟩ rfl)) (op_offi 14 13 16 true rfl rfl (by kernel_rfl) (by kernel_rfl) rfl (fun v R h=>by rw [hs3_13] at h; obtain ⟨h,_⟩ := h; exact h) rfl rfl)) (op_offi 15 13 16 true rfl rfl (by kernel_rfl) (by kernel_rfl) rfl (fun v R h=>by rw [hs3_13] at h; obtain ⟨h,_⟩ := h; exact h) rfl rfl)) (op_offi 16 13 16 true rfl rfl (by kernel_rfl) (by kernel_rfl) rfl (fun v R h=>by rw [hs3_13] at h; obtain ⟨h,_⟩ := h; exact h) rfl rfl)) (ops3_17 _ _ ⟨rfl,rfl,rfl⟩ rfl)) (ops3_18 _ _ ⟨rfl,rfl⟩ rfl)) (op_offi 19 18 21 true rfl rfl (by kernel_rfl) (by kernel_rfl) rfl (fun v R h=>by rw [hs3_18] at h; obtain ⟨h,_⟩ := h; exact h) rfl rfl)) (op_offi 20 18 21 true rfl rfl (by kernel_rfl) (by kernel_rfl) rfl (fun v R h=>by rw [hs3_18] at h; obtain ⟨h,_⟩ := h; exact h) rfl rfl)) (op_offi 21 18 21 true rfl rfl (by kernel_rfl) (by kernel_rfl) rfl (fun v R h=>by rw [hs3_18] at h; obtain ⟨h,_⟩ := h; exact h) rfl rfl)) (ops3_22 _ _ ⟨rfl,rfl,rfl⟩ rfl)) (ops3_23 _ _ ⟨rfl,rfl⟩ rfl)) (op_offi 24 23 26 true rfl rfl (by kernel_rfl) (by kernel_rfl) rfl (fun v R h=>by rw [hs3_23] at h; obtain ⟨h,_⟩ := h; exact h) rfl rfl)) (op_offi 25 23 26 true rfl rfl (by kernel_rfl) (by kernel_rfl) rfl (fun v R h=>by rw [hs3_23] at h; obtain ⟨h,_⟩ := h; exact h) rfl rfl)) (op_offi 26 23 26 true rfl rfl (by kernel_rfl) (by kernel_rfl) rfl (fun v R h=>by rw [hs3_23] at h; obtain ⟨h,_⟩ := h; exact h) rfl rfl)) (ops3_27 _ _ ⟨rfl,rfl,rfl⟩ rfl)) (ops3_28 _ _ ⟨rfl,rfl⟩ rfl)) (op_offi 29 28 31 true rfl rfl (by kernel_rfl) (by kernel_rfl) rfl (fun v R h=>by rw [hs3_28] at h; obtain ⟨h,_⟩ := h; exact h) rfl rfl)) (op_offi 30 28 31 true rfl rfl (by kernel_rfl) (by kernel_rfl) rfl (fun v R h=>by rw [hs3_28] at h; obtain ⟨h,_⟩ := h; exact h) rfl rfl)) (op_offi 31 28 31 true rfl rfl (by kernel_rfl) (by kernel_rfl) rfl (fun v R h=>by rw [hs3_28] at h; obtain ⟨h,_⟩ := h; exact h) rfl rfl)) (op_offi 32 28 31 true rfl rfl (by kernel_rfl) (by kernel_rfl) rfl (fun v R h=>by rw [hs3_28] at h; obtain ⟨h,_⟩ := h; exact h) rfl rfl)) ?_
  intro vs Rs f' S' hp hf hx hS hR
  obtain ⟨hv28,hR28⟩ := (spe rfl hs3_28 (hp 28 (by kernel_rfl)))
  obtain ⟨hv30,hR30⟩ := (spe rfl rfl (hp 30 (by kernel_rfl)):spu _ _)
  obtain ⟨hv32,hR32⟩ := (spe rfl rfl (hp 32 (by kernel_rfl)):spu _ _)
  refine ls_fr (F:=upd f' 31 (.bool false)) (fr_next (rfl) ((hf 28 31 (by kernel_rfl) rfl).trans hv28)) ?_
  refine ls_sub (s0) (sub_nil _) ?_
  refine lofx 28 31 true false ?_
  refine lofx 28 31 true false ?_
  refine lv (.bool false) ?_
  refine lv (.bool false) ?_
  refine ls_end ?_
  refine qn_then ?_
  refine cs_ret' ?_
  obtain rfl := Option.some.inj H
  refine qr_res (rs:=[_]) rfl (fun w' hs=>⟨[.bool false],(res_tmp (by kernel_rfl) (.nil)),(),rfl,hs.pick (ts:=[]) (cs:=[]) trivial (by decide)⟩)
 replace H := ite_f q4 H
 obtain ⟨s3_7,hs3_7⟩ := exv (.bool false)
 refine have_opa shadowboxref06_Right.tab1 1 7 (fun sp=>sp 7=s3_7∧sp 3=s3_3∧sp 6=spu) (fun sp on hA hon=>?_) (fun ops3_7=>?_)
 ·refine ⟨fun o ho vs Rs f' S' w hp hf hx hS hR hs=>?_⟩
  obtain rfl := Option.some.inj ho
  obtain ⟨hv3,hR3⟩ := (spe hA.2.1 hs3_3 (hp 3 (by kernel_rfl)))
  obtain ⟨hv6,hR6⟩ := (spe hA.2.2 rfl (hp 6 (by kernel_rfl)):spu _ _)
  exact opv (.bool false) hA.1 hs3_7 hon (fr_next (fr_next (rfl) (((hf 3 6 (by kernel_rfl) rfl).trans hv3).trans (congrArg Value.bool (show (decide (a0.2.1≥(1:Int)))=false from dec_f q4)))) ((hf 6 9 (by kernel_rfl) rfl).trans hv6))
 obtain ⟨s3_8,hs3_8⟩ := exv (.bool false)
 refine have_opa shadowboxref06_Right.tab1 1 8 (fun sp=>sp 8=s3_8∧sp 7=s3_7) (fun sp on hA hon=>?_) (fun ops3_8=>?_)
 ·refine ⟨fun o ho vs Rs f' S' w hp hf hx hS hR hs=>?_⟩
  obtain rfl := Option.some.inj ho
  obtain ⟨hv7,hR7⟩ := (spe hA.2 hs3_7 (hp 7 (by kernel_rfl)))
  exact opv (.bool false) hA.1 hs3_8 hon (fr_next (rfl) ((hf 7 10 (by kernel_rfl) rfl).trans hv7))
 obtain ⟨s3_12,hs3_12⟩ := exv (.bool false)
 refine have_opa shadowboxref06_Right.tab1 1 12 (fun sp=>sp 12=s3_12∧sp 8=s3_8∧sp 11=spu) (fun sp on hA hon=>?_) (fun ops3_12=>?_)
 ·refine ⟨fun o ho vs Rs f' S' w hp hf hx hS hR hs=>?_⟩
  obtain rfl := Option.some.inj ho
  obtain ⟨hv8,hR8⟩ := (spe hA.2.1 hs3_8 (hp 8 (by kernel_rfl)))
  obtain ⟨hv11,hR11⟩ := (spe hA.2.2 rfl (hp 11 (by kernel_rfl)):spu _ _)
  exact opv (.bool false) hA.1 hs3_12 hon (fr_next (fr_next (rfl) ((hf 8 11 (by kernel_rfl) rfl).trans hv8)) ((hf 11 14 (by kernel_rfl) rfl).trans hv11))
 obtain ⟨s3_13,hs3_13⟩ := exv (.bool false)
 refine have_opa shadowboxref06_Right.tab1 1 13 (fun sp=>sp 13=s3_13∧sp 12=s3_12) (fun sp on hA hon=>?_) (fun ops3_13=>?_)
 ·refine ⟨fun o ho vs Rs f' S' w hp hf hx hS hR hs=>?_⟩
  obtain rfl := Option.some.inj ho
  obtain ⟨hv12,hR12⟩ := (spe hA.2 hs3_12 (hp 12 (by kernel_rfl)))
  exact opv (.bool false) hA.1 hs3_13 hon (fr_next (rfl) ((hf 12 15 (by kernel_rfl) rfl).trans hv12))
 obtain ⟨s3_17,hs3_17⟩ := exv (.bool false)
 refine have_opa shadowboxref06_Right.tab1 1 17 (fun sp=>sp 17=s3_17∧sp 13=s3_13∧sp 16=spu) (fun sp on hA hon=>?_) (fun ops3_17=>?_)
 ·refine ⟨fun o ho vs Rs f' S' w hp hf hx hS hR hs=>?_⟩
  obtain rfl := Option.some.inj ho
  obtain ⟨hv13,hR13⟩ := (spe hA.2.1 hs3_13 (hp 13 (by kernel_rfl)))
  obtain ⟨hv16,hR16⟩ := (spe hA.2.2 rfl (hp 16 (by kernel_rfl)):spu _ _)
  exact opv (.bool false) hA.1 hs3_17 hon (fr_next (fr_next (rfl) ((hf 13 16 (by kernel_rfl) rfl).trans hv13)) ((hf 16 19 (by kernel_rfl) rfl).trans hv16))
 obtain ⟨s3_18,hs3_18⟩ := exv (.bool false)
 refine have_opa shadowboxref06_Right.tab1 1 18 (fun sp=>sp 18=s3_18∧sp 17=s3_17) (fun sp on hA hon=>?_) (fun ops3_18=>?_)
 ·refine ⟨fun o ho vs Rs f' S' w hp hf hx hS hR hs=>?_⟩
  obtain rfl := Option.some.inj ho
  obtain ⟨hv17,hR17⟩ := (spe hA.2 hs3_17 (hp 17 (by kernel_rfl)))
  exact opv (.bool false) hA.1 hs3_18 hon (fr_next (rfl) ((hf 17 20 (by kernel_rfl) rfl).trans hv17))
 obtain ⟨s3_22,hs3_22⟩ := exv (.bool false)
 refine have_opa shadowboxref06_Right.tab1 1 22 (fun sp=>sp 22=s3_22∧sp 18=s3_18∧sp 21=spu) (fun sp on hA hon=>?_) (fun ops3_22=>?_)
 ·refine ⟨fun o ho vs Rs f' S' w hp hf hx hS hR hs=>?_⟩
  obtain rfl := Option.some.inj ho
  obtain ⟨hv18,hR18⟩ := (spe hA.2.1 hs3_18 (hp 18 (by kernel_rfl)))
  obtain ⟨hv21,hR21⟩ := (spe hA.2.2 rfl (hp 21 (by kernel_rfl)):spu _ _)
  exact opv (.bool false) hA.1 hs3_22 hon (fr_next (fr_next (rfl) ((hf 18 21 (by kernel_rfl) rfl).trans hv18)) ((hf 21 24 (by kernel_rfl) rfl).trans hv21))
 obtain ⟨s3_23,hs3_23⟩ := exv (.bool false)
 refine have_opa shadowboxref06_Right.tab1 1 23 (fun sp=>sp 23=s3_23∧sp 22=s3_22) (fun sp on hA hon=>?_) (fun ops3_23=>?_)
 ·refine ⟨fun o ho vs Rs f' S' w hp hf hx hS hR hs=>?_⟩
  obtain rfl := Option.some.inj ho
  obtain ⟨hv22,hR22⟩ := (spe hA.2 hs3_22 (hp 22 (by kernel_rfl)))
  exact opv (.bool false) hA.1 hs3_23 hon (fr_next (rfl) ((hf 22 25 (by kernel_rfl) rfl).trans hv22))
 obtain ⟨s3_27,hs3_27⟩ := exv (.bool false)
 refine have_opa shadowboxref06_Right.tab1 1 27 (fun sp=>sp 27=s3_27∧sp 23=s3_23∧sp 26=spu) (fun sp on hA hon=>?_) (fun ops3_27=>?_)
 ·refine ⟨fun o ho vs Rs f' S' w hp hf hx hS hR hs=>?_⟩
  obtain rfl := Option.some.inj ho
  obtain ⟨hv23,hR23⟩ := (spe hA.2.1 hs3_23 (hp 23 (by kernel_rfl)))
  obtain ⟨hv26,hR26⟩ := (spe hA.2.2 rfl (hp 26 (by kernel_rfl)):spu _ _)
  exact opv (.bool false) hA.1 hs3_27 hon (fr_next (fr_next (rfl) ((hf 23 26 (by kernel_rfl) rfl).trans hv23)) ((hf 26 29 (by kernel_rfl) rfl).trans hv26))
 obtain ⟨s3_28,hs3_28⟩ := exv (.bool false)
 refine have_opa shadowboxref06_Right.tab1 1 28 (fun sp=>sp 28=s3_28∧sp 27=s3_27) (fun sp on hA hon=>?_) (fun ops3_28=>?_)
 ·refine ⟨fun o ho vs Rs f' S' w hp hf hx hS hR hs=>?_⟩
  obtain rfl := Option.some.inj ho
  obtain ⟨hv27,hR27⟩ := (spe hA.2 hs3_27 (hp 27 (by kernel_rfl)))
  exact opv (.bool false) hA.1 hs3_28 hon (fr_next (rfl) ((hf 27 30 (by kernel_rfl) rfl).trans hv27))
 refine cs_draw shadowboxref06_Right.tab1 33 1 (spl [s3_0,s3_1,s3_2,s3_3,spu,spu,spu,s3_7,s3_8,spu,spu,spu,s3_12,s3_13,spu,spu,spu,s3_17,s3_18,spu,spu,spu,s3_22,s3_23,spu,spu,spu,s3_27,s3_28,spu,spu,spu,spu]) (onl [true,true,true,true,false,false,false,true,true,false,false,false,true,true,false,false,false,true,true,false,false,false,true,true,false,false,false,true,true,false,false,false,false]) (by kernel_rfl) (by kernel_rfl) (by kernel_rfl) (by kernel_rfl) (rs:=[_,_,_,_]) rfl (by kernel_rfl) (by kernel_rfl) (all_snoc (all_snoc (all_snoc (all_snoc (all_snoc (all_snoc (all_snoc (all_snoc (all_snoc (all_snoc (all_snoc (all_snoc (all_snoc (all_snoc (all_snoc (all_snoc (all_snoc (all_snoc (all_snoc (all_snoc (all_snoc (all_snoc (all_snoc (all_snoc (all_snoc (all_snoc (all_snoc (all_snoc (all_snoc (all_snoc (all_snoc (all_snoc (all_snoc (all_nil) (ops3_0 _ _ rfl rfl)) (ops3_1 _ _ ⟨rfl,rfl⟩ rfl)) (ops3_2 _ _ ⟨rfl,rfl⟩ rfl)) (ops3_3 _ _ ⟨rfl,rfl⟩ rfl)) (op_offi 4 3 6 true rfl rfl (by kernel_rfl) (by kernel_rfl) rfl (fun v R h=>by rw [hs3_3] at h; obtain ⟨h,_⟩ := h; exact h.trans (congrArg Value.bool (show (decide (a0.2.1≥(1:Int)))=false from dec_f q4))) rfl rfl)) (op_offi 5 3 6 true rfl rfl (by kernel_rfl) (by kernel_rfl) rfl (fun v R h=>by rw [hs3_3] at h; obtain ⟨h,_⟩ := h; exact h.trans (congrArg Value.bool (show (decide (a0.2.1≥(1:Int)))=false from dec_f q4))) rfl rfl)) (op_offi 6 3 6 true rfl rfl (by kernel_rfl) (by kernel_rfl) rfl (fun v R h=>by rw [hs3_3] at h; obtain ⟨h,_⟩ := h; exact h.trans (congrArg Value.bool (show (decide (a0.2.1≥(1:Int)))=false from dec_f q4))) rfl rfl)) (ops3_7 _ _ ⟨rfl,rfl,rfl⟩ rfl)) (ops3_8 _ _ ⟨rfl,rfl⟩ rfl)) (op_offi 9 8 11 true rfl rfl (by kernel_rfl) (by kernel_rfl) rfl (fun v R h=>by rw [hs3_8] at h; obtain ⟨h,_⟩ := h; exact h) rfl rfl)) (op_offi 10 8 11 true rfl rfl (by kernel_rfl) (by kernel_rfl) rfl (fun v R h=>by rw [hs3_8] at h; obtain ⟨h,_⟩ := h; exact h) rfl rfl)) (op_offi 11 8 11 true rfl rfl (by kernel_rfl) (by kernel_rfl) rfl (fun v R h=>by rw [hs3_8] at h; obtain ⟨h,_⟩ := h; exact h) rfl rfl)) (ops3_12 _ _ ⟨rfl,rfl,rfl⟩ rfl)) (ops3_13 _ _ ⟨rfl,rfl⟩ rfl)) (op_offi 14 13 16 true rfl rfl (by kernel_rfl) (by kernel_rfl) rfl (fun v R h=>by rw [hs3_13] at h; obtain ⟨h,_⟩ := h; exact h) rfl rfl)) (op_offi 15 13 16 true rfl rfl (by kernel_rfl) (by kernel_rfl) rfl (fun v R h=>by rw [hs3_13] at h; obtain ⟨h,_⟩ := h; exact h) rfl rfl)) (op_offi 16 13 16 true rfl rfl (by kernel_rfl) (by kernel_rfl) rfl (fun v R h=>by rw [hs3_13] at h; obtain ⟨h,_⟩ := h; exact h) rfl rfl)) (ops3_17 _ _ ⟨rfl,rfl,rfl⟩ rfl)) (ops3_18 _ _ ⟨rfl,rfl⟩ rfl)) (op_offi 19 18 21 true rfl rfl (by kernel_rfl) (by kernel_rfl) rfl (fun v R h=>by rw [hs3_18] at h; obtain ⟨h,_⟩ := h; exact h) rfl rfl)) (op_offi 20 18 21 true rfl rfl (by kernel_rfl) (by kernel_rfl) rfl (fun v R h=>by rw [hs3_18] at h; obtain ⟨h,_⟩ := h; exact h) rfl rfl)) (op_offi 21 18 21 true rfl rfl (by kernel_rfl) (by kernel_rfl) rfl (fun v R h=>by rw [hs3_18] at h; obtain ⟨h,_⟩ := h; exact h) rfl rfl)) (ops3_22 _ _ ⟨rfl,rfl,rfl⟩ rfl)) (ops3_23 _ _ ⟨rfl,rfl⟩ rfl)) (op_offi 24 23 26 true rfl rfl (by kernel_rfl) (by kernel_rfl) rfl (fun v R h=>by rw [hs3_23] at h; obtain ⟨h,_⟩ := h; exact h) rfl rfl)) (op_offi 25 23 26 true rfl rfl (by kernel_rfl) (by kernel_rfl) rfl (fun v R h=>by rw [hs3_23] at h; obtain ⟨h,_⟩ := h; exact h) rfl rfl)) (op_offi 26 23 26 true rfl rfl (by kernel_rfl) (by kernel_rfl) rfl (fun v R h=>by rw [hs3_23] at h; obtain ⟨h,_⟩ := h; exact h) rfl rfl)) (ops3_27 _ _ ⟨rfl,rfl,rfl⟩ rfl)) (ops3_28 _ _ ⟨rfl,rfl⟩ rfl)) (op_offi 29 28 31 true rfl rfl (by kernel_rfl) (by kernel_rfl) rfl (fun v R h=>by rw [hs3_28] at h; obtain ⟨h,_⟩ := h; exact h) rfl rfl)) (op_offi 30 28 31 true rfl rfl (by kernel_rfl) (by kernel_rfl) rfl (fun v R h=>by rw [hs3_28] at h; obtain ⟨h,_⟩ := h; exact h) rfl rfl)) (op_offi 31 28 31 true rfl rfl (by kernel_rfl) (by kernel_rfl) rfl (fun v R h=>by rw [hs3_28] at h; obtain ⟨h,_⟩ := h; exact h) rfl rfl)) (op_offi 32 28 31 true rfl rfl (by kernel_rfl) (by kernel_rfl) rfl (fun v R h=>by rw [hs3_28] at h; obtain ⟨h,_⟩ := h; exact h) rfl rfl)) ?_
 intro vs Rs f' S' hp hf hx hS hR
 obtain ⟨hv28,hR28⟩ := (spe rfl hs3_28 (hp 28 (by kernel_rfl)))
 obtain ⟨hv30,hR30⟩ := (spe rfl rfl (hp 30 (by kernel_rfl)):spu _ _)
 obtain ⟨hv32,hR32⟩ := (spe rfl rfl (hp 32 (by kernel_rfl)):spu _ _)
 refine ls_fr (F:=upd f' 31 (.bool false)) (fr_next (rfl) ((hf 28 31 (by kernel_rfl) rfl).trans hv28)) ?_
 refine ls_sub (s0) (sub_nil _) ?_
 refine lofx 28 31 true false ?_
 refine lofx 28 31 true false ?_
 refine lv (.bool false) ?_
 refine lv (.bool false) ?_
 refine ls_end ?_
 refine qn_then ?_
 refine cs_ret' ?_
 obtain rfl := Option.some.inj H
 refine qr_res (rs:=[_]) rfl (fun w' hs=>⟨[.bool false],(res_tmp (by kernel_rfl) (.nil)),(),rfl,hs.pick (ts:=[]) (cs:=[]) trivial (by decide)⟩)

/-! ### (*shadowbox/disk.Disk).Waiting: function 14 -/
def disk_Disk_Waiting.f (k:Nat) (v0:(Unit × Unit × Bool × Int × Bool)) (w0_1:(List (Int × (Vc Int 512)) × List (Vc Int 512))):Option (Int) :=
  some (w0_1.1.length:Int)
set_option maxRecDepth 100000 in
set_option maxHeartbeats 4000000 in
theorem disk_Disk_Waiting.calls (k:Nat) (pg0:Nat) (gl0_0:Nat) (n0_0:Nat) (c0_0:Nat) (r0_1:Nat) (v0:(Unit × Unit × Bool × Int × Bool)) (w0_1:(List (Int × (Vc Int 512)) × List (Vc Int 512))) (r:Int) (b:Bs) (hs0:St b (stl [Ck.var 42 pg0 (([Value.slice (some ⟨gl0_0,0,none⟩) n0_0 c0_0]++([Value.map (some r0_1)]++([Value.bool v0.2.2.1]++([Value.int .i64 v0.2.2.2.1]++[Value.bool v0.2.2.2.2]))))),Ck.mr T56 r0_1 gl0_0 c0_0 n0_0 w0_1]) b.w) (H:disk_Disk_Waiting.f k v0 w0_1=some r) :
    Calls Try.prog 14 #[.pointer (some ⟨pg0,0,none⟩)] b.w fun e w'=>∃ x:Unit,e=.returned (.int .i64 r)∧St b (stl [Ck.var 42 pg0 (([Value.slice (some ⟨gl0_0,0,none⟩) n0_0 c0_0]++([Value.map (some r0_1)]++([Value.bool v0.2.2.1]++([Value.int .i64 v0.2.2.2.1]++[Value.bool v0.2.2.2.2]))))),Ck.mr T56 r0_1 gl0_0 c0_0 n0_0 w0_1]) w' := by
 unfold disk_Disk_Waiting.f at H
 refine enterb (n:=10) Try.func14 rfl (by kernel_rfl) (by kernel_rfl) hs0 ?_
 refine cs_sub (sput (sput s0 0 (some (Ck.var 42 pg0 (([Value.slice (some ⟨gl0_0,0,none⟩) n0_0 c0_0]++([Value.map (some r0_1)]++([Value.bool v0.2.2.1]++([Value.int .i64 v0.2.2.2.1]++[Value.bool v0.2.2.2.2])))))))) 1 (some (Ck.mr T56 r0_1 gl0_0 c0_0 n0_0 w0_1))) (sub_put (by exact rfl) (sub_put (by exact rfl) (sub_nil _))) ?_
 refine cs_seq ?_
 refine cs_region (l:=[_]) ?_
 refine lv (.int .i64 (0:Int)) ?_
 refine ls_end ?_
 refine qn_then ?_
 refine cs_seq ?_
 refine cs_seq ?_
 refine cs_region (l:=[_,_]) ?_
 refine lv (.pointer (some ⟨pg0,0,none⟩)) ?_
 have hc2:disk_Disk_none.f k ((),(),v0.2.2.1,v0.2.2.2.1,v0.2.2.2.2) w0_1=some false := rfl
 refine ls_callb (fid:=21) (vals:=#[.pointer (some ⟨pg0,0,none⟩)]) (X:=Unit) (fun x=>.bool false) (fun x=>stl [Ck.var 42 pg0 (([Value.slice (some ⟨gl0_0,0,none⟩) n0_0 c0_0]++([Value.map (some r0_1)]++([Value.bool v0.2.2.1]++([Value.int .i64 v0.2.2.2.1]++[Value.bool v0.2.2.2.2]))))),Ck.mr T56 r0_1 gl0_0 c0_0 n0_0 w0_1]) [0,1] [] [Ck.var 42 pg0 (([Value.slice (some ⟨gl0_0,0,none⟩) n0_0 c0_0]++([Value.map (some r0_1)]++([Value.bool v0.2.2.1]++([Value.int .i64 v0.2.2.2.1]++[Value.bool v0.2.2.2.2]))))),Ck.mr T56 r0_1 gl0_0 c0_0 n0_0 w0_1] [] 2 rfl rfl (by kernel_rfl) (fun w=>by kernel_rfl) ⟨by exact rfl,by exact rfl,trivial⟩ trivial (by decide) (fun w hs hb=>disk_Disk_none.calls k pg0 gl0_0 n0_0 c0_0 r0_1 ((),(),v0.2.2.1,v0.2.2.2.1,v0.2.2.2.2) w0_1 false (lent b w [Ck.var 42 pg0 (([Value.slice (some ⟨gl0_0,0,none⟩) n0_0 c0_0]++([Value.map (some r0_1)]++([Value.bool v0.2.2.1]++([Value.int .i64 v0.2.2.2.1]++[Value.bool v0.2.2.2.2]))))),Ck.mr T56 r0_1 gl0_0 c0_0 n0_0 w0_1] []) hb  hc2) ?_
 intro x3
 refine ls_end ?_
 refine qn_then ?_
 refine cs_false (by kernel_rfl) ?_
 refine cs_skip' ?_
 refine qn_then ?_
 refine cs_seq ?_
 refine cs_region (l:=[_,_,_,_,_,_]) ?_
 refine lv (.pointer (some ⟨pg0,0,none⟩)) ?_
 refine lv (.pointer (some ⟨pg0,0,none⟩)) ?_
 refine lv (.pointer (some ⟨pg0,(0+1),none⟩)) ?_
 refine ls_load (a0:=⟨pg0,(0+1),none⟩) (v:=.map (some r0_1)) (de:=(TypeDesc.map 3 56)) rfl rfl (by kernel_rfl) rfl (by kernel_rfl) (by kernel_rfl) (by kernel_rfl) (fun w hs=>(hs.var (k:=0) (by exact rfl) (Sub4.trans (Sub4.all _) (Sub4.skip (n:=1) (len1 _) (Sub4.head _ _))))) ?_
 refine ls_mrlen (r:=r0_1) (m:=w0_1) (kt:=3) (et:=56) 1 rfl rfl (by kernel_rfl) rfl (by kernel_rfl) (by kernel_rfl) (by exact rfl) ?_
 refine lv (.int .i64 (w0_1.1.length:Int)) ?_
 refine ls_end ?_
 refine qn_then ?_
 refine cs_ret' ?_
 obtain rfl := Option.some.inj H
 refine qr_res (rs:=[_]) rfl (fun w' hs=>⟨[.int .i64 (w0_1.1.length:Int)],(res_tmp (by kernel_rfl) (.nil)),(),rfl,hs.pick (ts:=[0,1]) (cs:=[Ck.var 42 pg0 (([Value.slice (some ⟨gl0_0,0,none⟩) n0_0 c0_0]++([Value.map (some r0_1)]++([Value.bool v0.2.2.1]++([Value.int .i64 v0.2.2.2.1]++[Value.bool v0.2.2.2.2]))))),Ck.mr T56 r0_1 gl0_0 c0_0 n0_0 w0_1]) ⟨by exact rfl,by exact rfl,trivial⟩ (by decide)⟩)

end Go.Proofs.Ytbidihabicgedaa.G
