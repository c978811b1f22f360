/- Printed by a program of this session (sz.py): plain functions, and walks that show that the code comes to them; no condition. -/
import Derived.Test.YthhhkphbhlafbaaProg
import Derived.Test.YthhhkphbhlafbaaTy
import Derived.Test.YthhhkphbhlafbaaG0
import Derived.Test.YthhhkphbhlafbaaG1
import Derived.Test.YthhhkphbhlafbaaG2
import Derived.Test.YthhhkphbhlafbaaG3
set_option linter.unusedVariables false
set_option linter.unusedSimpArgs false
namespace Go.Proofs.Ythhhkphbhlafbaa.G
open Go Go.RowKit Go.Proofs.Ythhhkphbhlafbaa.Sx
set_option maxRecDepth 100000
set_option maxHeartbeats 4000000
def shadowboxref16_Same.tab3:List (List Nat) := [[],[0],[],[0,1,2],[0,1,2,3],[],[5],[],[5,6,7],[5,6,7,8],[0,1,2,3,4,5,6,7,8,9]]
def shadowboxref16_Same.lo4 (a0:NO) (a1:NO):Nat→Int→Option (Bool)
  | 0,_=>none
  | k4+1,x7_4=>(if x7_4<(a0.2.2.2.length:Int) then (if 0≤x7_4 then (if x7_4<(a1.2.2.2.length:Int) then (if ((((a0.2.2.2).getD (x7_4).toNat ((0:Int),(0:Int),(0:Int),(0:Int),(vrep 32 (0:Int)))).1==((a1.2.2.2).getD (x7_4).toNat ((0:Int),(0:Int),(0:Int),(0:Int),(vrep 32 (0:Int)))).1)&&((((a0.2.2.2).getD (x7_4).toNat ((0:Int),(0:Int),(0:Int),(0:Int),(vrep 32 (0:Int)))).2.1==((a1.2.2.2).getD (x7_4).toNat ((0:Int),(0:Int),(0:Int),(0:Int),(vrep 32 (0:Int)))).2.1)&&((((a0.2.2.2).getD (x7_4).toNat ((0:Int),(0:Int),(0:Int),(0:Int),(vrep 32 (0:Int)))).2.2.1==((a1.2.2.2).getD (x7_4).toNat ((0:Int),(0:Int),(0:Int),(0:Int),(vrep 32 (0:Int)))).2.2.1)&&((((a0.2.2.2).getD (x7_4).toNat ((0:Int),(0:Int),(0:Int),(0:Int),(vrep 32 (0:Int)))).2.2.2.1==((a1.2.2.2).getD (x7_4).toNat ((0:Int),(0:Int),(0:Int),(0:Int),(vrep 32 (0:Int)))).2.2.2.1)&&((((a0.2.2.2).getD (x7_4).toNat ((0:Int),(0:Int),(0:Int),(0:Int),(vrep 32 (0:Int)))).2.2.2.2).1==(((a1.2.2.2).getD (x7_4).toNat ((0:Int),(0:Int),(0:Int),(0:Int),(vrep 32 (0:Int)))).2.2.2.2).1)))))=true then (shadowboxref16_Same.lo4 a0 a1 k4) (IntKind.wrap .i64 (x7_4+(1:Int))) else some false) else none) else none) else some true)
def shadowboxref16_Same.jo3 (k:Nat) (a0:NO) (a1:NO):Option (Bool) := shadowboxref16_Same.lo4 a0 a1 k (0:Int)
def shadowboxref16_Same.tab13:List (List Nat) := [[],[0],[],[0,1,2],[0,1,2,3],[0,1,2,3,4],[],[6],[],[6,7,8],[6,7,8,9],[6,7,8,9,10],[0,1,2,3,4,5,6,7,8,9,10,11]]
def shadowboxref16_Same.lo5 (a0:NO) (a1:NO) (jo3:Option (Bool)):Nat→Int→Option (Bool)
  | 0,_=>none
  | k5+1,x6_5=>(if x6_5<(a0.2.2.1.length:Int) then (if 0≤x6_5 then lt (strOfNums ((a0.2.2.1).getD (x6_5).toNat ([]:List Int))) fun y23=>(if x6_5<(a1.2.2.1.length:Int) then lt (strOfNums ((a1.2.2.1).getD (x6_5).toNat ([]:List Int))) fun y32=>(if (y23.toList==y32.toList)=true then (shadowboxref16_Same.lo5 a0 a1 jo3 k5) (IntKind.wrap .i64 (x6_5+(1:Int))) else some false) else none) else none) else jo3)
def shadowboxref16_Same.jo2 (k:Nat) (a0:NO) (a1:NO):Option (Bool) := shadowboxref16_Same.lo5 a0 a1 (shadowboxref16_Same.jo3 k a0 a1) k (0:Int)
def shadowboxref16_Same.tab35:List (List Nat) := [[],[0],[],[0,1,2],[0,1,2,3],[0,1,2,3,4],[],[6],[],[6,7,8],[6,7,8,9],[6,7,8,9,10],[0,1,2,3,4,5,6,7,8,9,10,11]]
def shadowboxref16_Same.lo6 (a0:NO) (a1:NO) (jo2:Option (Bool)):Nat→Int→Option (Bool)
  | 0,_=>none
  | k6+1,x5_6=>(if x5_6<(a0.2.1.length:Int) then (if 0≤x5_6 then lt (strOfNums ((a0.2.1).getD (x5_6).toNat ([]:List Int))) fun y45=>(if x5_6<(a1.2.1.length:Int) then lt (strOfNums ((a1.2.1).getD (x5_6).toNat ([]:List Int))) fun y54=>(if (y45.toList==y54.toList)=true then (shadowboxref16_Same.lo6 a0 a1 jo2 k6) (IntKind.wrap .i64 (x5_6+(1:Int))) else some false) else none) else none) else jo2)
def shadowboxref16_Same.jo1 (k:Nat) (a0:NO) (a1:NO):Option (Bool) := shadowboxref16_Same.lo6 a0 a1 (shadowboxref16_Same.jo2 k a0 a1) k (0:Int)
def shadowboxref16_Same.f (k:Nat) (a0:NO) (a1:NO):Option (Bool) :=
  (if a0.1=a1.1 then (if (a0.2.1.length:Int)=(a1.2.1.length:Int) then (if (a0.2.2.1.length:Int)=(a1.2.2.1.length:Int) then (if (a0.2.2.2.length:Int)=(a1.2.2.2.length:Int) then (shadowboxref16_Same.jo1 k a0 a1) else some false) else some false) else some false) else some false)
theorem shadowboxref16_Same.calls (k:Nat) (A0_1:Option Addr) (c0_1:Nat) (A0_2:Option Addr) (c0_2:Nat) (A0_3:Option Addr) (c0_3:Nat) (a0:NO) (A1_1:Option Addr) (c1_1:Nat) (A1_2:Option Addr) (c1_2:Nat) (A1_3:Option Addr) (c1_3:Nat) (a1:NO) (r:Bool) (b:Bs) (hs0:St b (stl []) b.w) (R0_1:RoS 23 (Ec.int 5 .u8) b A0_1 a0.2.1) (C0_1:a0.2.1.length≤c0_1) (R0_2:RoS 23 (Ec.int 5 .u8) b A0_2 a0.2.2.1) (C0_2:a0.2.2.1.length≤c0_2) (R0_3:Ro b A0_3 (em T44 a0.2.2.2)) (C0_3:a0.2.2.2.length≤c0_3) (R1_1:RoS 23 (Ec.int 5 .u8) b A1_1 a1.2.1) (C1_1:a1.2.1.length≤c1_1) (R1_2:RoS 23 (Ec.int 5 .u8) b A1_2 a1.2.2.1) (C1_2:a1.2.2.1.length≤c1_2) (R1_3:Ro b A1_3 (em T44 a1.2.2.2)) (C1_3:a1.2.2.2.length≤c1_3) (H:shadowboxref16_Same.f k a0 a1=some r) :
    Calls Try.prog 12 #[.agg ⟨([Value.int .i64 a0.1]++([Value.slice A0_1 a0.2.1.length c0_1]++([Value.slice A0_2 a0.2.2.1.length c0_2]++[Value.slice A0_3 a0.2.2.2.length c0_3])))⟩,.agg ⟨([Value.int .i64 a1.1]++([Value.slice A1_1 a1.2.1.length c1_1]++([Value.slice A1_2 a1.2.2.1.length c1_2]++[Value.slice A1_3 a1.2.2.2.length c1_3])))⟩] b.w fun e w'=>∃ x:Unit,e=.returned (.bool r)∧St b (stl []) w' := by
 unfold shadowboxref16_Same.f at H
 refine enterb (n:=98) Try.func12 rfl (by kernel_rfl) (by kernel_rfl) hs0 ?_
 refine cs_sub (s0) (sub_nil _) ?_
 refine cs_seq ?_
 refine cs_region (l:=[_,_,_]) ?_
 refine ls_new rfl rfl (by kernel_rfl) 0 (fun g=>.pointer (some ⟨g,0,none⟩)) (.cells ⟨([Value.int .i64 a0.1]++([Value.slice A0_1 a0.2.1.length c0_1]++([Value.slice A0_2 a0.2.2.1.length c0_2]++[Value.slice A0_3 a0.2.2.2.length c0_3])))⟩ 32) (fun w=>by kernel_rfl) ?_
 intro g1
 refine ls_new rfl rfl (by kernel_rfl) 1 (fun g=>.pointer (some ⟨g,0,none⟩)) (.cells ⟨([Value.int .i64 a1.1]++([Value.slice A1_1 a1.2.1.length c1_1]++([Value.slice A1_2 a1.2.2.1.length c1_2]++[Value.slice A1_3 a1.2.2.2.length c1_3])))⟩ 32) (fun w=>by kernel_rfl) ?_
 intro g2
 refine lv (.bool false) ?_
 refine ls_end ?_
 refine qn_then ?_
 refine cs_cut (fun f S=>∃ (fR:Fr),f=upd (upd fR 2 (.pointer (some ⟨g1,0,none⟩))) 3 (.pointer (some ⟨g2,0,none⟩))∧S=sput (sput s0 0 (some (Ck.var 32 g1 (([Value.int .i64 a0.1]++([Value.slice A0_1 a0.2.1.length c0_1]++([Value.slice A0_2 a0.2.2.1.length c0_2]++[Value.slice A0_3 a0.2.2.2.length c0_3]))))))) 1 (some (Ck.var 32 g2 (([Value.int .i64 a1.1]++([Value.slice A1_1 a1.2.1.length c1_1]++([Value.slice A1_2 a1.2.2.1.length c1_2]++[Value.slice A1_3 a1.2.2.2.length c1_3]))))))∧shadowboxref16_Same.jo1 k a0 a1=some r) ?_ ?_
 ·skip
  refine cs_seq ?_
  refine cs_region (l:=[_,_,_,_,_,_,_,_,_,_,_,_,_,_,_,_,_,_,_,_,_,_,_,_,_,_,_,_,_,_,_,_]) ?_
  refine lv (.pointer (some ⟨g1,(0+0),none⟩)) ?_
  refine ls_load (a0:=⟨g1,(0+0),none⟩) (v:=.int .i64 a0.1) (de:=(TypeDesc.int .i64)) rfl rfl (by kernel_rfl) rfl (by kernel_rfl) (by kernel_rfl) (by kernel_rfl) (fun w hs=>(hs.var (k:=0) (by exact rfl) (Sub4.trans (Sub4.all _) (Sub4.head _ _)))) ?_
  refine lv (.pointer (some ⟨g2,(0+0),none⟩)) ?_
  refine ls_load (a0:=⟨g2,(0+0),none⟩) (v:=.int .i64 a1.1) (de:=(TypeDesc.int .i64)) rfl rfl (by kernel_rfl) rfl (by kernel_rfl) (by kernel_rfl) (by kernel_rfl) (fun w hs=>(hs.var (k:=1) (by exact rfl) (Sub4.trans (Sub4.all _) (Sub4.head _ _)))) ?_
  refine lv (.bool (!decide (a0.1=a1.1))) ?_
  refine lv (.bool (!decide (a0.1=a1.1))) ?_
  by_cases q57:a0.1=a1.1
  ·replace H := ite_t q57 H
   refine ls_know (c:=false) (congrArg Bool.not (dec_t q57)) 13 (by kernel_rfl) ?_
   refine ls_on (j:=5) (t:=13) (b:=false) rfl rfl (by kernel_rfl) (by kernel_rfl) ?_
   refine lv (.pointer (some ⟨g1,(0+1),none⟩)) ?_
   refine ls_on (j:=5) (t:=13) (b:=false) rfl rfl (by kernel_rfl) (by kernel_rfl) ?_
   refine ls_load (a0:=⟨g1,(0+1),none⟩) (v:=.slice A0_1 a0.2.1.length c0_1) (de:=(TypeDesc.slice 23)) rfl rfl (by kernel_rfl) rfl (by kernel_rfl) (by kernel_rfl) (by kernel_rfl) (fun w hs=>(hs.var (k:=0) (by exact rfl) (Sub4.trans (Sub4.all _) (Sub4.skip (n:=1) (len1 _) (Sub4.head _ _))))) ?_
   refine ls_on (j:=5) (t:=13) (b:=false) rfl rfl (by kernel_rfl) (by kernel_rfl) ?_
   refine lv (.int .i64 (a0.2.1.length:Int)) ?_
   refine ls_on (j:=5) (t:=13) (b:=false) rfl rfl (by kernel_rfl) (by kernel_rfl) ?_
   refine lv (.pointer (some ⟨g2,(0+1),none⟩)) ?_
   refine ls_on (j:=5) (t:=13) (b:=false) rfl rfl (by kernel_rfl) (by kernel_rfl) ?_
   refine ls_load (a0:=⟨g2,(0+1),none⟩) (v:=.slice A1_1 a1.2.1.length c1_1) (de:=(TypeDesc.slice 23)) rfl rfl (by kernel_rfl) rfl (by kernel_rfl) (by kernel_rfl) (by kernel_rfl) (fun w hs=>(hs.var (k:=1) (by exact rfl) (Sub4.trans (Sub4.all _) (Sub4.skip (n:=1) (len1 _) (Sub4.head _ _))))) ?_
   refine ls_on (j:=5) (t:=13) (b:=false) rfl rfl (by kernel_rfl) (by kernel_rfl) ?_
   refine lv (.int .i64 (a1.2.1.length:Int)) ?_
   refine ls_on (j:=5) (t:=13) (b:=false) rfl rfl (by kernel_rfl) (by kernel_rfl) ?_
   refine lv (.bool (!decide ((a0.2.1.length:Int)=(a1.2.1.length:Int)))) ?_
   refine lv (.bool (!decide ((a0.2.1.length:Int)=(a1.2.1.length:Int)))) ?_
   refine lv (.bool (!decide ((a0.2.1.length:Int)=(a1.2.1.length:Int)))) ?_
   by_cases q58:(a0.2.1.length:Int)=(a1.2.1.length:Int)
   ·replace H := ite_t q58 H
    refine ls_know (c:=false) (congrArg Bool.not (dec_t q58)) 22 (by kernel_rfl) ?_
    refine ls_on (j:=14) (t:=22) (b:=false) rfl rfl (by kernel_rfl) (by kernel_rfl) ?_
    refine lv (.pointer (some ⟨g1,(0+2),none⟩)) ?_
    refine ls_on (j:=14) (t:=22) (b:=false) rfl rfl (by kernel_rfl) (by kernel_rfl) ?_
    refine ls_load (a0:=⟨g1,(0+2),none⟩) (v:=.slice A0_2 a0.2.2.1.length c0_2) (de:=(TypeDesc.slice 23)) rfl rfl (by kernel_rfl) rfl (by kernel_rfl) (by kernel_rfl) (by kernel_rfl) (fun w hs=>(hs.var (k:=0) (by exact rfl) (Sub4.trans (Sub4.all _) (Sub4.skip (n:=1) (len1 _) (Sub4.skip (n:=1) (len1 _) (Sub4.head _ _)))))) ?_
    refine ls_on (j:=14) (t:=22) (b:=false) rfl rfl (by kernel_rfl) (by kernel_rfl) ?_
    refine lv (.int .i64 (a0.2.2.1.length:Int)) ?_
    refine ls_on (j:=14) (t:=22) (b:=false) rfl rfl (by kernel_rfl) (by kernel_rfl) ?_
    refine lv (.pointer (some ⟨g2,(0+2),none⟩)) ?_
    refine ls_on (j:=14) (t:=22) (b:=false) rfl rfl (by kernel_rfl) (by kernel_rfl) ?_
    refine ls_load (a0:=⟨g2,(0+2),none⟩) (v:=.slice A1_2 a1.2.2.1.length c1_2) (de:=(TypeDesc.slice 23)) rfl rfl (by kernel_rfl) rfl (by kernel_rfl) (by kernel_rfl) (by kernel_rfl) (fun w hs=>(hs.var (k:=1) (by exact rfl) (Sub4.trans (Sub4.all _) (Sub4.skip (n:=1) (len1 _) (Sub4.skip (n:=1) (len1 _) (Sub4.head _ _)))))) ?_
    refine ls_on (j:=14) (t:=22) (b:=false) rfl rfl (by kernel_rfl) (by kernel_rfl) ?_
    refine lv (.int .i64 (a1.2.2.1.length:Int)) ?_
    refine ls_on (j:=14) (t:=22) (b:=false) rfl rfl (by kernel_rfl) (by kernel_rfl) ?_
    refine lv (.bool (!decide ((a0.2.2.1.length:Int)=(a1.2.2.1.length:Int)))) ?_
    refine lv (.bool (!decide ((a0.2.2.1.length:Int)=(a1.2.2.1.length:Int)))) ?_
    refine lv (.bool (!decide ((a0.2.2.1.length:Int)=(a1.2.2.1.length:Int)))) ?_
    by_cases q59:(a0.2.2.1.length:Int)=(a1.2.2.1.length:Int)
    ·replace H := ite_t q59 H
     refine ls_know (c:=false) (congrArg Bool.not (dec_t q59)) 31 (by kernel_rfl) ?_
     refine ls_on (j:=23) (t:=31) (b:=false) rfl rfl (by kernel_rfl) (by kernel_rfl) ?_
     refine lv (.pointer (some ⟨g1,(0+3),none⟩)) ?_
     refine ls_on (j:=23) (t:=31) (b:=false) rfl rfl (by kernel_rfl) (by kernel_rfl) ?_
     refine ls_load (a0:=⟨g1,(0+3),none⟩) (v:=.slice A0_3 a0.2.2.2.length c0_3) (de:=(TypeDesc.slice 44)) rfl rfl (by kernel_rfl) rfl (by kernel_rfl) (by kernel_rfl) (by kernel_rfl) (fun w hs=>(hs.var (k:=0) (by exact rfl) (Sub4.trans (Sub4.all _) (Sub4.skip (n:=1) (len1 _) (Sub4.skip (n:=1) (len1 _) (Sub4.skip (n:=1) (len1 _) (Sub4.all _))))))) ?_
     refine ls_on (j:=23) (t:=31) (b:=false) rfl rfl (by kernel_rfl) (by kernel_rfl) ?_
     refine lv (.int .i64 (a0.2.2.2.length:Int)) ?_
     refine ls_on (j:=23) (t:=31) (b:=false) rfl rfl (by kernel_rfl) (by kernel_rfl) ?_
     refine lv (.pointer (some ⟨g2,(0+3),none⟩)) ?_
     refine ls_on (j:=23) (t:=31) (b:=false) rfl rfl (by kernel_rfl) (by kernel_rfl) ?_
     refine ls_load (a0:=⟨g2,(0+3),none⟩) (v:=.slice A1_3 a1.2.2.2.length c1_3) (de:=(TypeDesc.slice 44)) rfl rfl (by kernel_rfl) rfl (by kernel_rfl) (by kernel_rfl) (by kernel_rfl) (fun w hs=>(hs.var (k:=1) (by exact rfl) (Sub4.trans (Sub4.all _) (Sub4.skip (n:=1) (len1 _) (Sub4.skip (n:=1) (len1 _) (Sub4.skip (n:=1) (len1 _) (Sub4.all _))))))) ?_
     refine ls_on (j:=23) (t:=31) (b:=false) rfl rfl (by kernel_rfl) (by kernel_rfl) ?_
     refine lv (.int .i64 (a1.2.2.2.length:Int)) ?_
     refine ls_on (j:=23) (t:=31) (b:=false) rfl rfl (by kernel_rfl) (by kernel_rfl) ?_
     refine lv (.bool (!decide ((a0.2.2.2.length:Int)=(a1.2.2.2.length:Int)))) ?_
     refine lv (.bool (!decide ((a0.2.2.2.length:Int)=(a1.2.2.2.length:Int)))) ?_
     refine ls_end ?_
     refine qn_then ?_
     by_cases q60:(a0.2.2.2.length:Int)=(a1.2.2.2.length:Int)
     ·replace H := ite_t q60 H
      refine cs_know (c:=false) (congrArg Bool.not (dec_t q60)) 39 (by kernel_rfl) ?_
      refine cs_false (by kernel_rfl) ?_
      refine cs_skip' ?_
      refine qn_meet (sput (sput s0 0 (some (Ck.var 32 g1 (([Value.int .i64 a0.1]++([Value.slice A0_1 a0.2.1.length c0_1]++([Value.slice A0_2 a0.2.2.1.length c0_2]++[Value.slice A0_3 a0.2.2.2.length c0_3]))))))) 1 (some (Ck.var 32 g2 (([Value.int .i64 a1.1]++([Value.slice A1_1 a1.2.1.length c1_1]++([Value.slice A1_2 a1.2.2.1.length c1_2]++[Value.slice A1_3 a1.2.2.2.length c1_3]))))))) ⟨_,fr_next (fr_next (rfl) (by kernel_rfl)) (by kernel_rfl),rfl,H⟩ (sub_put (by exact rfl) (sub_put (by exact rfl) (sub_nil _)))
     replace H := ite_f q60 H
     refine cs_know (c:=true) (congrArg Bool.not (dec_f q60)) 39 (by kernel_rfl) ?_
     refine cs_true (by kernel_rfl) ?_
     refine cs_seq ?_
     refine cs_region (l:=[_]) ?_
     refine lv (.bool false) ?_
     refine ls_end ?_
     refine qn_then ?_
     refine cs_ret' ?_
     refine qr_then ?_
     obtain rfl := Option.some.inj H
     refine qr_res (rs:=[_]) rfl (fun w' hs=>⟨[.bool false],(res_tmp (by kernel_rfl) (.nil)),(),rfl,hs.pick (ts:=[]) (cs:=[]) trivial (by decide)⟩)
    replace H := ite_f q59 H
    refine ls_know (c:=true) (congrArg Bool.not (dec_f q59)) 31 (by kernel_rfl) ?_
    refine lofx 23 31 false true ?_
    refine lofx 23 31 false true ?_
    refine lofx 23 31 false true ?_
    refine lofx 23 31 false true ?_
    refine lofx 23 31 false true ?_
    refine lofx 23 31 false true ?_
    refine lofx 23 31 false true ?_
    refine lv (.bool true) ?_
    refine ls_end ?_
    refine qn_then ?_
    refine cs_true (by kernel_rfl) ?_
    refine cs_seq ?_
    refine cs_region (l:=[_]) ?_
    refine lv (.bool false) ?_
    refine ls_end ?_
    refine qn_then ?_
    refine cs_ret' ?_
    refine qr_then ?_
    obtain rfl := Option.some.inj H
    refine qr_res (rs:=[_]) rfl (fun w' hs=>⟨[.bool false],(res_tmp (by kernel_rfl) (.nil)),(),rfl,hs.pick (ts:=[]) (cs:=[]) trivial (by decide)⟩)
   replace H := ite_f q58 H
   refine ls_know (c:=true) (congrArg Bool.not (dec_f q58)) 22 (by kernel_rfl) ?_
   refine lofx 14 22 false true ?_
   refine lofx 14 22 false true ?_
   refine lofx 14 22 false true ?_
   refine lofx 14 22 false true ?_
   refine lofx 14 22 false true ?_
   refine lofx 14 22 false true ?_
   refine lofx 14 22 false true ?_
   refine lv (.bool true) ?_
   refine lv (.bool true) ?_
   refine lofx 23 31 false true ?_
   refine lofx 23 31 false true ?_
   refine lofx 23 31 false true ?_
   refine lofx 23 31 false true ?_
   refine lofx 23 31 false true ?_
   refine lofx 23 31 false true ?_
   refine lofx 23 31 false true ?_
   refine lv (.bool true) ?_
   refine ls_end ?_
   refine qn_then ?_
   refine cs_true (by kernel_rfl) ?_
   refine cs_seq ?_
   refine cs_region (l:=[_]) ?_
   refine lv (.bool false) ?_
   refine ls_end ?_
   refine qn_then ?_
   refine cs_ret' ?_
   refine qr_then ?_
   obtain rfl := Option.some.inj H
   refine qr_res (rs:=[_]) rfl (fun w' hs=>⟨[.bool false],(res_tmp (by kernel_rfl) (.nil)),(),rfl,hs.pick (ts:=[]) (cs:=[]) trivial (by decide)⟩)
  replace H := ite_f q57 H
  refine ls_know (c:=true) (congrArg Bool.not (dec_f q57)) 13 (by kernel_rfl) ?_
  refine lofx 5 13 false true ?_
  refine lofx 5 13 false true ?_
  refine lofx 5 13 false true ?_
  refine lofx 5 13 false true ?_
  refine lofx 5 13 false true ?_
  refine lofx 5 13 false true ?_
  refine lofx 5 13 false true ?_
  refine lv (.bool true) ?_
  refine lv (.bool true) ?_
  refine lofx 14 22 false true ?_
  refine lofx 14 22 false true ?_
  refine lofx 14 22 false true ?_
  refine lofx 14 22 false true ?_
  refine lofx 14 22 false true ?_
  refine lofx 14 22 false true ?_
  refine lofx 14 22 false true ?_
  refine lv (.bool true) ?_
  refine lv (.bool true) ?_
  refine lofx 23 31 false true ?_
  refine lofx 23 31 false true ?_
  refine lofx 23 31 false true ?_
  refine lofx 23 31 false true ?_
  refine lofx 23 31 false true ?_
  refine lofx 23 31 false true ?_
  refine lofx 23 31 false true ?_
  refine lv (.bool true) ?_
  refine ls_end ?_
  refine qn_then ?_
  refine cs_true (by kernel_rfl) ?_
  refine cs_seq ?_
  refine cs_region (l:=[_]) ?_
  refine lv (.bool false) ?_
  refine ls_end ?_
  refine qn_then ?_
  refine cs_ret' ?_
  refine qr_then ?_
  obtain rfl := Option.some.inj H
  refine qr_res (rs:=[_]) rfl (fun w' hs=>⟨[.bool false],(res_tmp (by kernel_rfl) (.nil)),(),rfl,hs.pick (ts:=[]) (cs:=[]) trivial (by decide)⟩)
 rintro f S ⟨fr1,rfl,rfl,H⟩
 replace H:(shadowboxref16_Same.lo6 a0 a1 (shadowboxref16_Same.jo2 k a0 a1) k (0:Int))=some r := H
 refine cs_cut (fun f S=>∃ (fR:Fr),f=upd (upd fR 2 (.pointer (some ⟨g1,0,none⟩))) 3 (.pointer (some ⟨g2,0,none⟩))∧S=sput (sput s0 0 (some (Ck.var 32 g1 (([Value.int .i64 a0.1]++([Value.slice A0_1 a0.2.1.length c0_1]++([Value.slice A0_2 a0.2.2.1.length c0_2]++[Value.slice A0_3 a0.2.2.2.length c0_3]))))))) 1 (some (Ck.var 32 g2 (([Value.int .i64 a1.1]++([Value.slice A1_1 a1.2.1.length c1_1]++([Value.slice A1_2 a1.2.2.1.length c1_2]++[Value.slice A1_3 a1.2.2.2.length c1_3]))))))∧shadowboxref16_Same.jo2 k a0 a1=some r) ?_ ?_
 ·skip
  refine cs_seq ?_
  refine cs_region (l:=[_]) ?_
  refine lv (.int .i64 (0:Int)) ?_
  refine ls_end ?_
  refine qn_then ?_
  refine cs_block ?_
  refine cs_sub (sput (sput s0 0 (some (Ck.var 32 g1 (([Value.int .i64 a0.1]++([Value.slice A0_1 a0.2.1.length c0_1]++([Value.slice A0_2 a0.2.2.1.length c0_2]++[Value.slice A0_3 a0.2.2.2.length c0_3]))))))) 1 (some (Ck.var 32 g2 (([Value.int .i64 a1.1]++([Value.slice A1_1 a1.2.1.length c1_1]++([Value.slice A1_2 a1.2.2.1.length c1_2]++[Value.slice A1_3 a1.2.2.2.length c1_3]))))))) (sub_put (by exact rfl) (sub_put (by exact rfl) (sub_nil _))) ?_
  refine cs_loop (fun kk f S=>∃ (fR:Fr) (x5_6:Int),f=upd (upd (upd fR 2 (.pointer (some ⟨g1,0,none⟩))) 3 (.pointer (some ⟨g2,0,none⟩))) 5 (.int .i64 x5_6)∧S=sput (sput s0 0 (some (Ck.var 32 g1 (([Value.int .i64 a0.1]++([Value.slice A0_1 a0.2.1.length c0_1]++([Value.slice A0_2 a0.2.2.1.length c0_2]++[Value.slice A0_3 a0.2.2.2.length c0_3]))))))) 1 (some (Ck.var 32 g2 (([Value.int .i64 a1.1]++([Value.slice A1_1 a1.2.1.length c1_1]++([Value.slice A1_2 a1.2.2.1.length c1_2]++[Value.slice A1_3 a1.2.2.2.length c1_3]))))))∧shadowboxref16_Same.lo6 a0 a1 (shadowboxref16_Same.jo2 k a0 a1) kk x5_6=some r) k ?_ ?_ ?_
  ·exact ⟨_,(0:Int),fr_next (fr_next (fr_next (rfl) (by kernel_rfl)) (by kernel_rfl)) (by kernel_rfl),rfl,H⟩
  ·rintro f S ⟨fr6,x5_6,rfl,rfl,H⟩; cases H
  rintro k6 f S ⟨fr6,x5_6,rfl,rfl,H⟩
  replace H:((if x5_6<(a0.2.1.length:Int) then (if 0≤x5_6 then lt (strOfNums ((a0.2.1).getD (x5_6).toNat ([]:List Int))) fun y45=>(if x5_6<(a1.2.1.length:Int) then lt (strOfNums ((a1.2.1).getD (x5_6).toNat ([]:List Int))) fun y54=>(if (y45.toList==y54.toList)=true then (shadowboxref16_Same.lo6 a0 a1 (shadowboxref16_Same.jo2 k a0 a1) k6) (IntKind.wrap .i64 (x5_6+(1:Int))) else some false) else none) else none) else (shadowboxref16_Same.jo2 k a0 a1)))=some r := H
  refine cs_seq ?_
  refine cs_seq ?_
  refine cs_region (l:=[_,_,_,_,_]) ?_
  refine lv (.int .i64 x5_6) ?_
  refine lv (.pointer (some ⟨g1,(0+1),none⟩)) ?_
  refine ls_load (a0:=⟨g1,(0+1),none⟩) (v:=.slice A0_1 a0.2.1.length c0_1) (de:=(TypeDesc.slice 23)) rfl rfl (by kernel_rfl) rfl (by kernel_rfl) (by kernel_rfl) (by kernel_rfl) (fun w hs=>(hs.var (k:=0) (by exact rfl) (Sub4.trans (Sub4.all _) (Sub4.skip (n:=1) (len1 _) (Sub4.head _ _))))) ?_
  refine lv (.int .i64 (a0.2.1.length:Int)) ?_
  refine lv (.bool (decide (x5_6<(a0.2.1.length:Int)))) ?_
  refine ls_end ?_
  refine qn_then ?_
  by_cases q35:x5_6<(a0.2.1.length:Int)
  ·replace H := ite_t q35 H
   refine cs_know (c:=true) (dec_t q35) 44 (by kernel_rfl) ?_
   refine cs_true (by kernel_rfl) ?_
   refine cs_skip' ?_
   refine qn_then ?_
   refine cs_seq ?_
   refine cs_block ?_
   refine cs_seq ?_
   obtain ⟨s37_0,hs37_0⟩ := exv (.pointer (some ⟨g1,(0+1),none⟩))
   refine have_opa shadowboxref16_Same.tab35 2 0 (fun sp=>sp 0=s37_0) (fun sp on hA hon=>?_) (fun ops37_0=>?_)
   ·refine ⟨fun o ho vs Rs f' S' w hp hf hx hS hR hs=>?_⟩
    obtain rfl := Option.some.inj ho
    exact opv (.pointer (some ⟨g1,(0+1),none⟩)) hA hs37_0 hon (fr_next (rfl) ((hx 2 (by kernel_rfl)).trans (by kernel_rfl:(_:Value)=.pointer (some ⟨g1,0,none⟩))))
   obtain ⟨s37_1,hs37_1⟩ := exv (.slice A0_1 a0.2.1.length c0_1)
   refine have_opa shadowboxref16_Same.tab35 2 1 (fun sp=>sp 1=s37_1∧sp 0=s37_0) (fun sp on hA hon=>?_) (fun ops37_1=>?_)
   ·refine ⟨fun o ho vs Rs f' S' w hp hf hx hS hR hs=>?_⟩
    obtain rfl := Option.some.inj ho
    obtain ⟨hv0,hR0⟩ := (spe hA.2 hs37_0 (hp 0 (by kernel_rfl)))
    rw [hA.1,hs37_1]
    refine wn hon ?_
    have hF := fr_next (rfl) ((hf 0 47 (by kernel_rfl) rfl).trans hv0)
    refine ls_fr hF ?_
    refine ls_load (a0:=⟨g1,(0+1),none⟩) (v:=.slice A0_1 a0.2.1.length c0_1) (de:=(TypeDesc.slice 23)) rfl rfl (by kernel_rfl) rfl (by kernel_rfl) (by kernel_rfl) (by kernel_rfl) (fun w1 hs1=>cell_step hs1.below.bw (hs.var (k:=0) ((hS 0 (by kernel_rfl)).trans (by exact rfl)) (Sub4.trans (Sub4.all _) (Sub4.skip (n:=1) (len1 _) (Sub4.head _ _))))) ?_
    exact ls_fin s0 _ (congrArg (fun z=>upd z 48 _) hF.symm) ⟨rfl,rfl⟩ (sub_nil _)
   obtain ⟨s37_2,hs37_2⟩ := exv (.int .i64 x5_6)
   refine have_opa shadowboxref16_Same.tab35 2 2 (fun sp=>sp 2=s37_2) (fun sp on hA hon=>?_) (fun ops37_2=>?_)
   ·refine ⟨fun o ho vs Rs f' S' w hp hf hx hS hR hs=>?_⟩
    obtain rfl := Option.some.inj ho
    exact opv (.int .i64 x5_6) hA hs37_2 hon (fr_next (rfl) ((hx 5 (by kernel_rfl)).trans (by kernel_rfl:(_:Value)=.int .i64 x5_6)))
   obtain ⟨q38,H⟩ := ite_need H
   obtain ⟨ad39,hA40⟩ := idoS_at (l:=a0.2.1) (i:=x5_6) R0_1 q38 q35
   obtain ⟨s37_3,hs37_3⟩ := exv (.pointer (some (ad39.add ((x5_6).toNat*1))))
   refine have_opa shadowboxref16_Same.tab35 2 3 (fun sp=>sp 3=s37_3∧sp 1=s37_1∧sp 2=s37_2) (fun sp on hA hon=>?_) (fun ops37_3=>?_)
   ·refine ⟨fun o ho vs Rs f' S' w hp hf hx hS hR hs=>?_⟩
    obtain rfl := Option.some.inj ho
    obtain ⟨hv1,hR1⟩ := (spe hA.2.1 hs37_1 (hp 1 (by kernel_rfl)))
    obtain ⟨hv2,hR2⟩ := (spe hA.2.2 hs37_2 (hp 2 (by kernel_rfl)))
    rw [hA.1,hs37_3]
    refine wn hon ?_
    have hF := fr_next (fr_next (rfl) ((hf 1 48 (by kernel_rfl) rfl).trans hv1)) ((hf 2 49 (by kernel_rfl) rfl).trans hv2)
    refine ls_fr hF ?_
    refine ls_idxv (Ec.sld 23 Int) (A:=A0_1) (c:=c0_1) (l:=a0.2.1) (k:=.i64) (i:=x5_6) (z:=1) (ad:=ad39) rfl rfl (by kernel_rfl) hA40 rfl (by kernel_rfl) (by kernel_rfl) (by kernel_rfl) (by kernel_rfl) q38 q35 ?_
    exact ls_fin s0 _ (congrArg (fun z=>upd z 50 _) hF.symm) ⟨rfl,rfl⟩ (sub_nil _)
   obtain ⟨xq41,hq42,xR43,xC44⟩ := RoS.el (l:=a0.2.1) R0_1 hA40 (i:=x5_6) q38 q35
   obtain ⟨s37_4,hs37_4⟩ := exv (.slice xq41.1 ((a0.2.1).getD (x5_6).toNat ([]:List Int)).length xq41.2)
   refine have_opa shadowboxref16_Same.tab35 2 4 (fun sp=>sp 4=s37_4∧sp 3=s37_3) (fun sp on hA hon=>?_) (fun ops37_4=>?_)
   ·refine ⟨fun o ho vs Rs f' S' w hp hf hx hS hR hs=>?_⟩
    obtain rfl := Option.some.inj ho
    obtain ⟨hv3,hR3⟩ := (spe hA.2 hs37_3 (hp 3 (by kernel_rfl)))
    rw [hA.1,hs37_4]
    refine wn hon ?_
    have hF := fr_next (rfl) ((hf 3 50 (by kernel_rfl) rfl).trans hv3)
    refine ls_fr hF ?_
    refine ls_load (a0:=(ad39.add ((x5_6).toNat*1))) (v:=.slice xq41.1 ((a0.2.1).getD (x5_6).toNat ([]:List Int)).length xq41.2) (de:=(TypeDesc.slice 5)) rfl rfl (by kernel_rfl) rfl (by kernel_rfl) (by kernel_rfl) (by kernel_rfl) (fun w1 hs1=>(Rd.step (hs.old hq42) hs1.below.bw).cell0) ?_
    exact ls_fin s0 _ (congrArg (fun z=>upd z 51 _) hF.symm) ⟨rfl,rfl⟩ (sub_nil _)
   obtain ⟨y45,hy46,H⟩ := lt_some H
   obtain ⟨s37_5,hs37_5⟩ := exv (.string y45)
   refine have_opa shadowboxref16_Same.tab35 2 5 (fun sp=>sp 5=s37_5∧sp 4=s37_4) (fun sp on hA hon=>?_) (fun ops37_5=>?_)
   ·refine ⟨fun o ho vs Rs f' S' w hp hf hx hS hR hs=>?_⟩
    obtain rfl := Option.some.inj ho
    obtain ⟨hv4,hR4⟩ := (spe hA.2 hs37_4 (hp 4 (by kernel_rfl)))
    rw [hA.1,hs37_5]
    refine wn hon ?_
    have hF := fr_next (rfl) ((hf 4 51 (by kernel_rfl) rfl).trans hv4)
    refine ls_fr hF ?_
    refine ls_str (A:=xq41.1) (c:=xq41.2) (e:=5) (l:=((a0.2.1).getD (x5_6).toNat ([]:List Int))) rfl rfl (by kernel_rfl) rfl (by kernel_rfl) (by kernel_rfl) (by kernel_rfl) (by kernel_rfl) (fun w1 hs1=>(Rd.step (hs.old xR43) hs1.below.bw)) ?_
    refine ls_ren 52 (v:=.string (strOfNums ((a0.2.1).getD (x5_6).toNat ([]:List Int)))) (v' := .string y45) (by kernel_rfl) (by rw [hy46]) ?_
    exact ls_fin s0 _ ((upd_upd _ _ _ _).trans (congrArg (fun z=>upd z 52 _) hF.symm)) ⟨rfl,rfl⟩ (sub_nil _)
   obtain ⟨s37_6,hs37_6⟩ := exv (.pointer (some ⟨g2,(0+1),none⟩))
   refine have_opa shadowboxref16_Same.tab35 2 6 (fun sp=>sp 6=s37_6) (fun sp on hA hon=>?_) (fun ops37_6=>?_)
   ·refine ⟨fun o ho vs Rs f' S' w hp hf hx hS hR hs=>?_⟩
    obtain rfl := Option.some.inj ho
    exact opv (.pointer (some ⟨g2,(0+1),none⟩)) hA hs37_6 hon (fr_next (rfl) ((hx 3 (by kernel_rfl)).trans (by kernel_rfl:(_:Value)=.pointer (some ⟨g2,0,none⟩))))
   obtain ⟨s37_7,hs37_7⟩ := exv (.slice A1_1 a1.2.1.length c1_1)
   refine have_opa shadowboxref16_Same.tab35 2 7 (fun sp=>sp 7=s37_7∧sp 6=s37_6) (fun sp on hA hon=>?_) (fun ops37_7=>?_)
   ·refine ⟨fun o ho vs Rs f' S' w hp hf hx hS hR hs=>?_⟩
    obtain rfl := Option.some.inj ho
    obtain ⟨hv6,hR6⟩ := (spe hA.2 hs37_6 (hp 6 (by kernel_rfl)))
    rw [hA.1,hs37_7]
    refine wn hon ?_
    have hF := fr_next (rfl) ((hf 6 53 (by kernel_rfl) rfl).trans hv6)
    refine ls_fr hF ?_
    refine ls_load (a0:=⟨g2,(0+1),none⟩) (v:=.slice A1_1 a1.2.1.length c1_1) (de:=(TypeDesc.slice 23)) rfl rfl (by kernel_rfl) rfl (by kernel_rfl) (by kernel_rfl) (by kernel_rfl) (fun w1 hs1=>cell_step hs1.below.bw (hs.var (k:=1) ((hS 1 (by kernel_rfl)).trans (by exact rfl)) (Sub4.trans (Sub4.all _) (Sub4.skip (n:=1) (len1 _) (Sub4.head _ _))))) ?_
    exact ls_fin s0 _ (congrArg (fun z=>upd z 54 _) hF.symm) ⟨rfl,rfl⟩ (sub_nil _)
   obtain ⟨s37_8,hs37_8⟩ := exv (.int .i64 x5_6)
   refine have_opa shadowboxref16_Same.tab35 2 8 (fun sp=>sp 8=s37_8) (fun sp on hA hon=>?_) (fun ops37_8=>?_)
   ·refine ⟨fun o ho vs Rs f' S' w hp hf hx hS hR hs=>?_⟩
    obtain rfl := Option.some.inj ho
    exact opv (.int .i64 x5_6) hA hs37_8 hon (fr_next (rfl) ((hx 5 (by kernel_rfl)).trans (by kernel_rfl:(_:Value)=.int .i64 x5_6)))
   obtain ⟨q47,H⟩ := ite_need H
   obtain ⟨ad48,hA49⟩ := idoS_at (l:=a1.2.1) (i:=x5_6) R1_1 q38 q47
   obtain ⟨s37_9,hs37_9⟩ := exv (.pointer (some (ad48.add ((x5_6).toNat*1))))
   refine have_opa shadowboxref16_Same.tab35 2 9 (fun sp=>sp 9=s37_9∧sp 7=s37_7∧sp 8=s37_8) (fun sp on hA hon=>?_) (fun ops37_9=>?_)
   ·refine ⟨fun o ho vs Rs f' S' w hp hf hx hS hR hs=>?_⟩
    obtain rfl := Option.some.inj ho
    obtain ⟨hv7,hR7⟩ := (spe hA.2.1 hs37_7 (hp 7 (by kernel_rfl)))
    obtain ⟨hv8,hR8⟩ := (spe hA.2.2 hs37_8 (hp 8 (by kernel_rfl)))
    rw [hA.1,hs37_9]
    refine wn hon ?_
    have hF := fr_next (fr_next (rfl) ((hf 7 54 (by kernel_rfl) rfl).trans hv7)) ((hf 8 55 (by kernel_rfl) rfl).trans hv8)
    refine ls_fr hF ?_
    refine ls_idxv (Ec.sld 23 Int) (A:=A1_1) (c:=c1_1) (l:=a1.2.1) (k:=.i64) (i:=x5_6) (z:=1) (ad:=ad48) rfl rfl (by kernel_rfl) hA49 rfl (by kernel_rfl) (by kernel_rfl) (by kernel_rfl) (by kernel_rfl) q38 q47 ?_
    exact ls_fin s0 _ (congrArg (fun z=>upd z 56 _) hF.symm) ⟨rfl,rfl⟩ (sub_nil _)
   obtain ⟨xq50,hq51,xR52,xC53⟩ := RoS.el (l:=a1.2.1) R1_1 hA49 (i:=x5_6) q38 q47
   obtain ⟨s37_10,hs37_10⟩ := exv (.slice xq50.1 ((a1.2.1).getD (x5_6).toNat ([]:List Int)).length xq50.2)
   refine have_opa shadowboxref16_Same.tab35 2 10 (fun sp=>sp 10=s37_10∧sp 9=s37_9) (fun sp on hA hon=>?_) (fun ops37_10=>?_)
   ·refine ⟨fun o ho vs Rs f' S' w hp hf hx hS hR hs=>?_⟩
    obtain rfl := Option.some.inj ho
    obtain ⟨hv9,hR9⟩ := (spe hA.2 hs37_9 (hp 9 (by kernel_rfl)))
    rw [hA.1,hs37_10]
    refine wn hon ?_
    have hF := fr_next (rfl) ((hf 9 56 (by kernel_rfl) rfl).trans hv9)
    refine ls_fr hF ?_
    refine ls_load (a0:=(ad48.add ((x5_6).toNat*1))) (v:=.slice xq50.1 ((a1.2.1).getD (x5_6).toNat ([]:List Int)).length xq50.2) (de:=(TypeDesc.slice 5)) rfl rfl (by kernel_rfl) rfl (by kernel_rfl) (by kernel_rfl) (by kernel_rfl) (fun w1 hs1=>(Rd.step (hs.old hq51) hs1.below.bw).cell0) ?_
    exact ls_fin s0 _ (congrArg (fun z=>upd z 57 _) hF.symm) ⟨rfl,rfl⟩ (sub_nil _)
   obtain ⟨y54,hy55,H⟩ := lt_some H
   obtain ⟨s37_11,hs37_11⟩ := exv (.string y54)
   refine have_opa shadowboxref16_Same.tab35 2 11 (fun sp=>sp 11=s37_11∧sp 10=s37_10) (fun sp on hA hon=>?_) (fun ops37_11=>?_)
   ·refine ⟨fun o ho vs Rs f' S' w hp hf hx hS hR hs=>?_⟩
    obtain rfl := Option.some.inj ho
    obtain ⟨hv10,hR10⟩ := (spe hA.2 hs37_10 (hp 10 (by kernel_rfl)))
    rw [hA.1,hs37_11]
    refine wn hon ?_
    have hF := fr_next (rfl) ((hf 10 57 (by kernel_rfl) rfl).trans hv10)
    refine ls_fr hF ?_
    refine ls_str (A:=xq50.1) (c:=xq50.2) (e:=5) (l:=((a1.2.1).getD (x5_6).toNat ([]:List Int))) rfl rfl (by kernel_rfl) rfl (by kernel_rfl) (by kernel_rfl) (by kernel_rfl) (by kernel_rfl) (fun w1 hs1=>(Rd.step (hs.old xR52) hs1.below.bw)) ?_
    refine ls_ren 58 (v:=.string (strOfNums ((a1.2.1).getD (x5_6).toNat ([]:List Int)))) (v' := .string y54) (by kernel_rfl) (by rw [hy55]) ?_
    exact ls_fin s0 _ ((upd_upd _ _ _ _).trans (congrArg (fun z=>upd z 58 _) hF.symm)) ⟨rfl,rfl⟩ (sub_nil _)
   refine cs_draw shadowboxref16_Same.tab35 12 2 (spl [s37_0,s37_1,s37_2,s37_3,s37_4,s37_5,s37_6,s37_7,s37_8,s37_9,s37_10,s37_11]) (onl [true,true,true,true,true,true,true,true,true,true,true,true]) (by kernel_rfl) (by kernel_rfl) (by kernel_rfl) (by kernel_rfl) (rs:=[_]) rfl (by kernel_rfl) (by kernel_rfl) (all_snoc (all_snoc (all_snoc (all_snoc (all_snoc (all_snoc (all_snoc (all_snoc (all_snoc (all_snoc (all_snoc (all_snoc (all_nil) (ops37_0 _ _ rfl rfl)) (ops37_1 _ _ ⟨rfl,rfl⟩ rfl)) (ops37_2 _ _ rfl rfl)) (ops37_3 _ _ ⟨rfl,rfl,rfl⟩ rfl)) (ops37_4 _ _ ⟨rfl,rfl⟩ rfl)) (ops37_5 _ _ ⟨rfl,rfl⟩ rfl)) (ops37_6 _ _ rfl rfl)) (ops37_7 _ _ ⟨rfl,rfl⟩ rfl)) (ops37_8 _ _ rfl rfl)) (ops37_9 _ _ ⟨rfl,rfl,rfl⟩ rfl)) (ops37_10 _ _ ⟨rfl,rfl⟩ rfl)) (ops37_11 _ _ ⟨rfl,rfl⟩ rfl)) ?_
   intro vs Rs f' S' hp hf hx hS hR
   obtain ⟨hv5,hR5⟩ := (spe rfl hs37_5 (hp 5 (by kernel_rfl)))
   obtain ⟨hv11,hR11⟩ := (spe rfl hs37_11 (hp 11 (by kernel_rfl)))
   refine ls_fr (F:=upd (upd (upd (upd (upd f' 2 (.pointer (some ⟨g1,0,none⟩))) 3 (.pointer (some ⟨g2,0,none⟩))) 5 (.int .i64 x5_6)) 52 (.string y45)) 58 (.string y54)) (fr_next (fr_next (fr_next (fr_next (fr_next (rfl) ((hx 2 (by kernel_rfl)).trans (by kernel_rfl:(_:Value)=.pointer (some ⟨g1,0,none⟩)))) ((hx 3 (by kernel_rfl)).trans (by kernel_rfl:(_:Value)=.pointer (some ⟨g2,0,none⟩)))) ((hx 5 (by kernel_rfl)).trans (by kernel_rfl:(_:Value)=.int .i64 x5_6))) ((hf 5 52 (by kernel_rfl) rfl).trans hv5)) ((hf 11 58 (by kernel_rfl) rfl).trans hv11)) ?_
   refine ls_sub (sput (sput s0 0 (some (Ck.var 32 g1 (([Value.int .i64 a0.1]++([Value.slice A0_1 a0.2.1.length c0_1]++([Value.slice A0_2 a0.2.2.1.length c0_2]++[Value.slice A0_3 a0.2.2.2.length c0_3]))))))) 1 (some (Ck.var 32 g2 (([Value.int .i64 a1.1]++([Value.slice A1_1 a1.2.1.length c1_1]++([Value.slice A1_2 a1.2.2.1.length c1_2]++[Value.slice A1_3 a1.2.2.2.length c1_3]))))))) (sub_put ((hS 1 (by kernel_rfl)).trans (by exact rfl)) (sub_put ((hS 0 (by kernel_rfl)).trans (by exact rfl)) (sub_nil _))) ?_
   refine lv (.bool (!(y45.toList==y54.toList))) ?_
   refine ls_end ?_
   refine qn_then ?_
   by_cases q56:(y45.toList==y54.toList)=true
   ·replace H := ite_t q56 H
    refine cs_know (c:=false) (congrArg Bool.not (q56)) 59 (by kernel_rfl) ?_
    refine cs_false (by kernel_rfl) ?_
    refine cs_skip' ?_
    refine qn_block ?_
    refine qn_then ?_
    refine cs_region (l:=[_,_,_]) ?_
    refine lv (.int .i64 x5_6) ?_
    refine lv (.int .i64 (IntKind.wrap .i64 (x5_6+(1:Int)))) ?_
    refine lv (.int .i64 (IntKind.wrap .i64 (x5_6+(1:Int)))) ?_
    refine ls_end ?_
    refine qn_again k6 (sput (sput s0 0 (some (Ck.var 32 g1 (([Value.int .i64 a0.1]++([Value.slice A0_1 a0.2.1.length c0_1]++([Value.slice A0_2 a0.2.2.1.length c0_2]++[Value.slice A0_3 a0.2.2.2.length c0_3]))))))) 1 (some (Ck.var 32 g2 (([Value.int .i64 a1.1]++([Value.slice A1_1 a1.2.1.length c1_1]++([Value.slice A1_2 a1.2.2.1.length c1_2]++[Value.slice A1_3 a1.2.2.2.length c1_3]))))))) (Nat.le_refl _) ⟨_,(IntKind.wrap .i64 (x5_6+(1:Int))),fr_next (fr_next (fr_next (rfl) (by kernel_rfl)) (by kernel_rfl)) (by kernel_rfl),rfl,H⟩ (sub_put (by exact rfl) (sub_put (by exact rfl) (sub_nil _)))
   replace H := ite_f q56 H
   refine cs_know (c:=true) (congrArg Bool.not (Bool.eq_false_iff.mpr q56)) 59 (by kernel_rfl) ?_
   refine cs_true (by kernel_rfl) ?_
   refine cs_seq ?_
   refine cs_region (l:=[_]) ?_
   refine lv (.bool false) ?_
   refine ls_end ?_
   refine qn_then ?_
   refine cs_ret' ?_
   refine qr_block ?_
   refine qr_then ?_
   refine qr_then ?_
   refine qr_block ?_
   refine qr_then ?_
   obtain rfl := Option.some.inj H
   refine qr_res (rs:=[_]) rfl (fun w' hs=>⟨[.bool false],(res_tmp (by kernel_rfl) (.nil)),(),rfl,hs.pick (ts:=[]) (cs:=[]) trivial (by decide)⟩)
  replace H := ite_f q35 H
  refine cs_know (c:=false) (dec_f q35) 44 (by kernel_rfl) ?_
  refine cs_false (by kernel_rfl) ?_
  refine cs_exit' ?_
  refine qx_then ?_
  refine qx_then ?_
  refine qx_same ?_
  refine qn_meet (sput (sput s0 0 (some (Ck.var 32 g1 (([Value.int .i64 a0.1]++([Value.slice A0_1 a0.2.1.length c0_1]++([Value.slice A0_2 a0.2.2.1.length c0_2]++[Value.slice A0_3 a0.2.2.2.length c0_3]))))))) 1 (some (Ck.var 32 g2 (([Value.int .i64 a1.1]++([Value.slice A1_1 a1.2.1.length c1_1]++([Value.slice A1_2 a1.2.2.1.length c1_2]++[Value.slice A1_3 a1.2.2.2.length c1_3]))))))) ⟨_,fr_next (fr_next (rfl) (by kernel_rfl)) (by kernel_rfl),rfl,H⟩ (sub_put (by exact rfl) (sub_put (by exact rfl) (sub_nil _)))
 rintro f S ⟨fr2,rfl,rfl,H⟩
 replace H:(shadowboxref16_Same.lo5 a0 a1 (shadowboxref16_Same.jo3 k a0 a1) k (0:Int))=some r := H
 refine cs_cut (fun f S=>∃ (fR:Fr),f=upd (upd fR 2 (.pointer (some ⟨g1,0,none⟩))) 3 (.pointer (some ⟨g2,0,none⟩))∧S=sput (sput s0 0 (some (Ck.var 32 g1 (([Value.int .i64 a0.1]++([Value.slice A0_1 a0.2.1.length c0_1]++([Value.slice A0_2 a0.2.2.1.length c0_2]++[Value.slice A0_3 a0.2.2.2.length c0_3]))))))) 1 (some (Ck.var 32 g2 (([Value.int .i64 a1.1]++([Value.slice A1_1 a1.2.1.length c1_1]++([Value.slice A1_2 a1.2.2.1.length c1_2]++[Value.slice A1_3 a1.2.2.2.length c1_3]))))))∧shadowboxref16_Same.jo3 k a0 a1=some r) ?_ ?_
 ·skip
  refine cs_seq ?_
  refine cs_region (l:=[_]) ?_
  refine lv (.int .i64 (0:Int)) ?_
  refine ls_end ?_
  refine qn_then ?_
  refine cs_block ?_
  refine cs_sub (sput (sput s0 0 (some (Ck.var 32 g1 (([Value.int .i64 a0.1]++([Value.slice A0_1 a0.2.1.length c0_1]++([Value.slice A0_2 a0.2.2.1.length c0_2]++[Value.slice A0_3 a0.2.2.2.length c0_3]))))))) 1 (some (Ck.var 32 g2 (([Value.int .i64 a1.1]++([Value.slice A1_1 a1.2.1.length c1_1]++([Value.slice A1_2 a1.2.2.1.length c1_2]++[Value.slice A1_3 a1.2.2.2.length c1_3]))))))) (sub_put (by exact rfl) (sub_put (by exact rfl) (sub_nil _))) ?_
  refine cs_loop (fun kk f S=>∃ (fR:Fr) (x6_5:Int),f=upd (upd (upd fR 2 (.pointer (some ⟨g1,0,none⟩))) 3 (.pointer (some ⟨g2,0,none⟩))) 6 (.int .i64 x6_5)∧S=sput (sput s0 0 (some (Ck.var 32 g1 (([Value.int .i64 a0.1]++([Value.slice A0_1 a0.2.1.length c0_1]++([Value.slice A0_2 a0.2.2.1.length c0_2]++[Value.slice A0_3 a0.2.2.2.length c0_3]))))))) 1 (some (Ck.var 32 g2 (([Value.int .i64 a1.1]++([Value.slice A1_1 a1.2.1.length c1_1]++([Value.slice A1_2 a1.2.2.1.length c1_2]++[Value.slice A1_3 a1.2.2.2.length c1_3]))))))∧shadowboxref16_Same.lo5 a0 a1 (shadowboxref16_Same.jo3 k a0 a1) kk x6_5=some r) k ?_ ?_ ?_
  ·exact ⟨_,(0:Int),fr_next (fr_next (fr_next (rfl) (by kernel_rfl)) (by kernel_rfl)) (by kernel_rfl),rfl,H⟩
  ·rintro f S ⟨fr5,x6_5,rfl,rfl,H⟩; cases H
  rintro k5 f S ⟨fr5,x6_5,rfl,rfl,H⟩
  replace H:((if x6_5<(a0.2.2.1.length:Int) then (if 0≤x6_5 then lt (strOfNums ((a0.2.2.1).getD (x6_5).toNat ([]:List Int))) fun y23=>(if x6_5<(a1.2.2.1.length:Int) then lt (strOfNums ((a1.2.2.1).getD (x6_5).toNat ([]:List Int))) fun y32=>(if (y23.toList==y32.toList)=true then (shadowboxref16_Same.lo5 a0 a1 (shadowboxref16_Same.jo3 k a0 a1) k5) (IntKind.wrap .i64 (x6_5+(1:Int))) else some false) else none) else none) else (shadowboxref16_Same.jo3 k a0 a1)))=some r := H
  refine cs_seq ?_
  refine cs_seq ?_
  refine cs_region (l:=[_,_,_,_,_]) ?_
  refine lv (.int .i64 x6_5) ?_
  refine lv (.pointer (some ⟨g1,(0+2),none⟩)) ?_
  refine ls_load (a0:=⟨g1,(0+2),none⟩) (v:=.slice A0_2 a0.2.2.1.length c0_2) (de:=(TypeDesc.slice 23)) rfl rfl (by kernel_rfl) rfl (by kernel_rfl) (by kernel_rfl) (by kernel_rfl) (fun w hs=>(hs.var (k:=0) (by exact rfl) (Sub4.trans (Sub4.all _) (Sub4.skip (n:=1) (len1 _) (Sub4.skip (n:=1) (len1 _) (Sub4.head _ _)))))) ?_
  refine lv (.int .i64 (a0.2.2.1.length:Int)) ?_
  refine lv (.bool (decide (x6_5<(a0.2.2.1.length:Int)))) ?_
  refine ls_end ?_
  refine qn_then ?_
  by_cases q13:x6_5<(a0.2.2.1.length:Int)
  ·replace H := ite_t q13 H
   refine cs_know (c:=true) (dec_t q13) 64 (by kernel_rfl) ?_
   refine cs_true (by kernel_rfl) ?_
   refine cs_skip' ?_
   refine qn_then ?_
   refine cs_seq ?_
   refine cs_block ?_
   refine cs_seq ?_
   obtain ⟨s15_0,hs15_0⟩ := exv (.pointer (some ⟨g1,(0+2),none⟩))
   refine have_opa shadowboxref16_Same.tab13 2 0 (fun sp=>sp 0=s15_0) (fun sp on hA hon=>?_) (fun ops15_0=>?_)
   ·refine ⟨fun o ho vs Rs f' S' w hp hf hx hS hR hs=>?_⟩
    obtain rfl := Option.some.inj ho
    exact opv (.pointer (some ⟨g1,(0+2),none⟩)) hA hs15_0 hon (fr_next (rfl) ((hx 2 (by kernel_rfl)).trans (by kernel_rfl:(_:Value)=.pointer (some ⟨g1,0,none⟩))))
   obtain ⟨s15_1,hs15_1⟩ := exv (.slice A0_2 a0.2.2.1.length c0_2)
   refine have_opa shadowboxref16_Same.tab13 2 1 (fun sp=>sp 1=s15_1∧sp 0=s15_0) (fun sp on hA hon=>?_) (fun ops15_1=>?_)
   ·refine ⟨fun o ho vs Rs f' S' w hp hf hx hS hR hs=>?_⟩
    obtain rfl := Option.some.inj ho
    obtain ⟨hv0,hR0⟩ := (spe hA.2 hs15_0 (hp 0 (by kernel_rfl)))
    rw [hA.1,hs15_1]
    refine wn hon ?_
    have hF := fr_next (rfl) ((hf 0 67 (by kernel_rfl) rfl).trans hv0)
    refine ls_fr hF ?_
    refine ls_load (a0:=⟨g1,(0+2),none⟩) (v:=.slice A0_2 a0.2.2.1.length c0_2) (de:=(TypeDesc.slice 23)) rfl rfl (by kernel_rfl) rfl (by kernel_rfl) (by kernel_rfl) (by kernel_rfl) (fun w1 hs1=>cell_step hs1.below.bw (hs.var (k:=0) ((hS 0 (by kernel_rfl)).trans (by exact rfl)) (Sub4.trans (Sub4.all _) (Sub4.skip (n:=1) (len1 _) (Sub4.skip (n:=1) (len1 _) (Sub4.head _ _)))))) ?_
    exact ls_fin s0 _ (congrArg (fun z=>upd z 68 _) hF.symm) ⟨rfl,rfl⟩ (sub_nil _)
   obtain ⟨s15_2,hs15_2⟩ := exv (.int .i64 x6_5)
   refine have_opa shadowboxref16_Same.tab13 2 2 (fun sp=>sp 2=s15_2) (fun sp on hA hon=>?_) (fun ops15_2=>?_)
   ·refine ⟨fun o ho vs Rs f' S' w hp hf hx hS hR hs=>?_⟩
    obtain rfl := Option.some.inj ho
    exact opv (.int .i64 x6_5) hA hs15_2 hon (fr_next (rfl) ((hx 6 (by kernel_rfl)).trans (by kernel_rfl:(_:Value)=.int .i64 x6_5)))
   obtain ⟨q16,H⟩ := ite_need H
   obtain ⟨ad17,hA18⟩ := idoS_at (l:=a0.2.2.1) (i:=x6_5) R0_2 q16 q13
   obtain ⟨s15_3,hs15_3⟩ := exv (.pointer (some (ad17.add ((x6_5).toNat*1))))
   refine have_opa shadowboxref16_Same.tab13 2 3 (fun sp=>sp 3=s15_3∧sp 1=s15_1∧sp 2=s15_2) (fun sp on hA hon=>?_) (fun ops15_3=>?_)
   ·refine ⟨fun o ho vs Rs f' S' w hp hf hx hS hR hs=>?_⟩
    obtain rfl := Option.some.inj ho
    obtain ⟨hv1,hR1⟩ := (spe hA.2.1 hs15_1 (hp 1 (by kernel_rfl)))
    obtain ⟨hv2,hR2⟩ := (spe hA.2.2 hs15_2 (hp 2 (by kernel_rfl)))
    rw [hA.1,hs15_3]
    refine wn hon ?_
    have hF := fr_next (fr_next (rfl) ((hf 1 68 (by kernel_rfl) rfl).trans hv1)) ((hf 2 69 (by kernel_rfl) rfl).trans hv2)
    refine ls_fr hF ?_
    refine ls_idxv (Ec.sld 23 Int) (A:=A0_2) (c:=c0_2) (l:=a0.2.2.1) (k:=.i64) (i:=x6_5) (z:=1) (ad:=ad17) rfl rfl (by kernel_rfl) hA18 rfl (by kernel_rfl) (by kernel_rfl) (by kernel_rfl) (by kernel_rfl) q16 q13 ?_
    exact ls_fin s0 _ (congrArg (fun z=>upd z 70 _) hF.symm) ⟨rfl,rfl⟩ (sub_nil _)
   obtain ⟨xq19,hq20,xR21,xC22⟩ := RoS.el (l:=a0.2.2.1) R0_2 hA18 (i:=x6_5) q16 q13
   obtain ⟨s15_4,hs15_4⟩ := exv (.slice xq19.1 ((a0.2.2.1).getD (x6_5).toNat ([]:List Int)).length xq19.2)
   refine have_opa shadowboxref16_Same.tab13 2 4 (fun sp=>sp 4=s15_4∧sp 3=s15_3) (fun sp on hA hon=>?_) (fun ops15_4=>?_)
   ·refine ⟨fun o ho vs Rs f' S' w hp hf hx hS hR hs=>?_⟩
    obtain rfl := Option.some.inj ho
    obtain ⟨hv3,hR3⟩ := (spe hA.2 hs15_3 (hp 3 (by kernel_rfl)))
    rw [hA.1,hs15_4]
    refine wn hon ?_
    have hF := fr_next (rfl) ((hf 3 70 (by kernel_rfl) rfl).trans hv3)
    refine ls_fr hF ?_
    refine ls_load (a0:=(ad17.add ((x6_5).toNat*1))) (v:=.slice xq19.1 ((a0.2.2.1).getD (x6_5).toNat ([]:List Int)).length xq19.2) (de:=(TypeDesc.slice 5)) rfl rfl (by kernel_rfl) rfl (by kernel_rfl) (by kernel_rfl) (by kernel_rfl) (fun w1 hs1=>(Rd.step (hs.old hq20) hs1.below.bw).cell0) ?_
    exact ls_fin s0 _ (congrArg (fun z=>upd z 71 _) hF.symm) ⟨rfl,rfl⟩ (sub_nil _)
   obtain ⟨y23,hy24,H⟩ := lt_some H
   obtain ⟨s15_5,hs15_5⟩ := exv (.string y23)
   refine have_opa shadowboxref16_Same.tab13 2 5 (fun sp=>sp 5=s15_5∧sp 4=s15_4) (fun sp on hA hon=>?_) (fun ops15_5=>?_)
   ·refine ⟨fun o ho vs Rs f' S' w hp hf hx hS hR hs=>?_⟩
    obtain rfl := Option.some.inj ho
    obtain ⟨hv4,hR4⟩ := (spe hA.2 hs15_4 (hp 4 (by kernel_rfl)))
    rw [hA.1,hs15_5]
    refine wn hon ?_
    have hF := fr_next (rfl) ((hf 4 71 (by kernel_rfl) rfl).trans hv4)
    refine ls_fr hF ?_
    refine ls_str (A:=xq19.1) (c:=xq19.2) (e:=5) (l:=((a0.2.2.1).getD (x6_5).toNat ([]:List Int))) rfl rfl (by kernel_rfl) rfl (by kernel_rfl) (by kernel_rfl) (by kernel_rfl) (by kernel_rfl) (fun w1 hs1=>(Rd.step (hs.old xR21) hs1.below.bw)) ?_
    refine ls_ren 72 (v:=.string (strOfNums ((a0.2.2.1).getD (x6_5).toNat ([]:List Int)))) (v' := .string y23) (by kernel_rfl) (by rw [hy24]) ?_
    exact ls_fin s0 _ ((upd_upd _ _ _ _).trans (congrArg (fun z=>upd z 72 _) hF.symm)) ⟨rfl,rfl⟩ (sub_nil _)
   obtain ⟨s15_6,hs15_6⟩ := exv (.pointer (some ⟨g2,(0+2),none⟩))
   refine have_opa shadowboxref16_Same.tab13 2 6 (fun sp=>sp 6=s15_6) (fun sp on hA hon=>?_) (fun ops15_6=>?_)
   ·refine ⟨fun o ho vs Rs f' S' w hp hf hx hS hR hs=>?_⟩
    obtain rfl := Option.some.inj ho
    exact opv (.pointer (some ⟨g2,(0+2),none⟩)) hA hs15_6 hon (fr_next (rfl) ((hx 3 (by kernel_rfl)).trans (by kernel_rfl:(_:Value)=.pointer (some ⟨g2,0,none⟩))))
   obtain ⟨s15_7,hs15_7⟩ := exv (.slice A1_2 a1.2.2.1.length c1_2)
   refine have_opa shadowboxref16_Same.tab13 2 7 (fun sp=>sp 7=s15_7∧sp 6=s15_6) (fun sp on hA hon=>?_) (fun ops15_7=>?_)
   ·refine ⟨fun o ho vs Rs f' S' w hp hf hx hS hR hs=>?_⟩
    obtain rfl := Option.some.inj ho
    obtain ⟨hv6,hR6⟩ := (spe hA.2 hs15_6 (hp 6 (by kernel_rfl)))
    rw [hA.1,hs15_7]
    refine wn hon ?_
    have hF := fr_next (rfl) ((hf 6 73 (by kernel_rfl) rfl).trans hv6)
    refine ls_fr hF ?_
    refine ls_load (a0:=⟨g2,(0+2),none⟩) (v:=.slice A1_2 a1.2.2.1.length c1_2) (de:=(TypeDesc.slice 23)) rfl rfl (by kernel_rfl) rfl (by kernel_rfl) (by kernel_rfl) (by kernel_rfl) (fun w1 hs1=>cell_step hs1.below.bw (hs.var (k:=1) ((hS 1 (by kernel_rfl)).trans (by exact rfl)) (Sub4.trans (Sub4.all _) (Sub4.skip (n:=1) (len1 _) (Sub4.skip (n:=1) (len1 _) (Sub4.head _ _)))))) ?_
    exact ls_fin s0 _ (congrArg (fun z=>upd z 74 _) hF.symm) ⟨rfl,rfl⟩ (sub_nil _)
   obtain ⟨s15_8,hs15_8⟩ := exv (.int .i64 x6_5)
   refine have_opa shadowboxref16_Same.tab13 2 8 (fun sp=>sp 8=s15_8) (fun sp on hA hon=>?_) (fun ops15_8=>?_)
   ·refine ⟨fun o ho vs Rs f' S' w hp hf hx hS hR hs=>?_⟩
    obtain rfl := Option.some.inj ho
    exact opv (.int .i64 x6_5) hA hs15_8 hon (fr_next (rfl) ((hx 6 (by kernel_rfl)).trans (by kernel_rfl:(_:Value)=.int .i64 x6_5)))
   obtain ⟨q25,H⟩ := ite_need H
   obtain ⟨ad26,hA27⟩ := idoS_at (l:=a1.2.2.1) (i:=x6_5) R1_2 q16 q25
   obtain ⟨s15_9,hs15_9⟩ := exv (.pointer (some (ad26.add ((x6_5).toNat*1))))
   refine have_opa shadowboxref16_Same.tab13 2 9 (fun sp=>sp 9=s15_9∧sp 7=s15_7∧sp 8=s15_8) (fun sp on hA hon=>?_) (fun ops15_9=>?_)
   ·refine ⟨fun o ho vs Rs f' S' w hp hf hx hS hR hs=>?_⟩
    obtain rfl := Option.some.inj ho
    obtain ⟨hv7,hR7⟩ := (spe hA.2.1 hs15_7 (hp 7 (by kernel_rfl)))
    obtain ⟨hv8,hR8⟩ := (spe hA.2.2 hs15_8 (hp 8 (by kernel_rfl)))
    rw [hA.1,hs15_9]
    refine wn hon ?_
    have hF := fr_next (fr_next (rfl) ((hf 7 74 (by kernel_rfl) rfl).trans hv7)) ((hf 8 75 (by kernel_rfl) rfl).trans hv8)
    refine ls_fr hF ?_
    refine ls_idxv (Ec.sld 23 Int) (A:=A1_2) (c:=c1_2) (l:=a1.2.2.1) (k:=.i64) (i:=x6_5) (z:=1) (ad:=ad26) rfl rfl (by kernel_rfl) hA27 rfl (by kernel_rfl) (by kernel_rfl) (by kernel_rfl) (by kernel_rfl) q16 q25 ?_
    exact ls_fin s0 _ (congrArg (fun z=>upd z 76 _) hF.symm) ⟨rfl,rfl⟩ (sub_nil _)
   obtain ⟨xq28,hq29,xR30,xC31⟩ := RoS.el (l:=a1.2.2.1) R1_2 hA27 (i:=x6_5) q16 q25
   obtain ⟨s15_10,hs15_10⟩ := exv (.slice xq28.1 ((a1.2.2.1).getD (x6_5).toNat ([]:List Int)).length xq28.2)
   refine have_opa shadowboxref16_Same.tab13 2 10 (fun sp=>sp 10=s15_10∧sp 9=s15_9) (fun sp on hA hon=>?_) (fun ops15_10=>?_)
   ·refine ⟨fun o ho vs Rs f' S' w hp hf hx hS hR hs=>?_⟩
    obtain rfl := Option.some.inj ho
    obtain ⟨hv9,hR9⟩ := (spe hA.2 hs15_9 (hp 9 (by kernel_rfl)))
    rw [hA.1,hs15_10]
    refine wn hon ?_
    have hF := fr_next (rfl) ((hf 9 76 (by kernel_rfl) rfl).trans hv9)
    refine ls_fr hF ?_
    refine ls_load (a0:=(ad26.add ((x6_5).toNat*1))) (v:=.slice xq28.1 ((a1.2.2.1).getD (x6_5).toNat ([]:List Int)).length xq28.2) (de:=(TypeDesc.slice 5)) rfl rfl (by kernel_rfl) rfl (by kernel_rfl) (by kernel_rfl) (by kernel_rfl) (fun w1 hs1=>(Rd.step (hs.old hq29) hs1.below.bw).cell0) ?_
    exact ls_fin s0 _ (congrArg (fun z=>upd z 77 _) hF.symm) ⟨rfl,rfl⟩ (sub_nil _)
   obtain ⟨y32,hy33,H⟩ := lt_some H
   obtain ⟨s15_11,hs15_11⟩ := exv (.string y32)
   refine have_opa shadowboxref16_Same.tab13 2 11 (fun sp=>sp 11=s15_11∧sp 10=s15_10) (fun sp on hA hon=>?_) (fun ops15_11=>?_)
   ·refine ⟨fun o ho vs Rs f' S' w hp hf hx hS hR hs=>?_⟩
    obtain rfl := Option.some.inj ho
    obtain ⟨hv10,hR10⟩ := (spe hA.2 hs15_10 (hp 10 (by kernel_rfl)))
    rw [hA.1,hs15_11]
    refine wn hon ?_
    have hF := fr_next (rfl) ((hf 10 77 (by kernel_rfl) rfl).trans hv10)
    refine ls_fr hF ?_
    refine ls_str (A:=xq28.1) (c:=xq28.2) (e:=5) (l:=((a1.2.2.1).getD (x6_5).toNat ([]:List Int))) rfl rfl (by kernel_rfl) rfl (by kernel_rfl) (by kernel_rfl) (by kernel_rfl) (by kernel_rfl) (fun w1 hs1=>(Rd.step (hs.old xR30) hs1.below.bw)) ?_
    refine ls_ren 78 (v:=.string (strOfNums ((a1.2.2.1).getD (x6_5).toNat ([]:List Int)))) (v' := .string y32) (by kernel_rfl) (by rw [hy33]) ?_
    exact ls_fin s0 _ ((upd_upd _ _ _ _).trans (congrArg (fun z=>upd z 78 _) hF.symm)) ⟨rfl,rfl⟩ (sub_nil _)
   refine cs_draw shadowboxref16_Same.tab13 12 2 (spl [s15_0,s15_1,s15_2,s15_3,s15_4,s15_5,s15_6,s15_7,s15_8,s15_9,s15_10,s15_11]) (onl [true,true,true,true,true,true,true,true,true,true,true,true]) (by kernel_rfl) (by kernel_rfl) (by kernel_rfl) (by kernel_rfl) (rs:=[_]) rfl (by kernel_rfl) (by kernel_rfl) (all_snoc (all_snoc (all_snoc (all_snoc (all_snoc (all_snoc (all_snoc (all_snoc (all_snoc (all_snoc (all_snoc (all_snoc (all_nil) (ops15_0 _ _ rfl rfl)) (ops15_1 _ _ ⟨rfl,rfl⟩ rfl)) (ops15_2 _ _ rfl rfl)) (ops15_3 _ _ ⟨rfl,rfl,rfl⟩ rfl)) (ops15_4 _ _ ⟨rfl,rfl⟩ rfl)) (ops15_5 _ _ ⟨rfl,rfl⟩ rfl)) (ops15_6 _ _ rfl rfl)) (ops15_7 _ _ ⟨rfl,rfl⟩ rfl)) (ops15_8 _ _ rfl rfl)) (ops15_9 _ _ ⟨rfl,rfl,rfl⟩ rfl)) (ops15_10 _ _ ⟨rfl,rfl⟩ rfl)) (ops15_11 _ _ ⟨rfl,rfl⟩ rfl)) ?_
   intro vs Rs f' S' hp hf hx hS hR
   obtain ⟨hv5,hR5⟩ := (spe rfl hs15_5 (hp 5 (by kernel_rfl)))
   obtain ⟨hv11,hR11⟩ := (spe rfl hs15_11 (hp 11 (by kernel_rfl)))
   refine ls_fr (F:=upd (upd (upd (upd (upd f' 2 (.pointer (some ⟨g1,0,none⟩))) 3 (.pointer (some ⟨g2,0,none⟩))) 6 (.int .i64 x6_5)) 72 (.string y23)) 78 (.string y32)) (fr_next (fr_next (fr_next (fr_next (fr_next (rfl) ((hx 2 (by kernel_rfl)).trans (by kernel_rfl:(_:Value)=.pointer (some ⟨g1,0,none⟩)))) ((hx 3 (by kernel_rfl)).trans (by kernel_rfl:(_:Value)=.pointer (some ⟨g2,0,none⟩)))) ((hx 6 (by kernel_rfl)).trans (by kernel_rfl:(_:Value)=.int .i64 x6_5))) ((hf 5 72 (by kernel_rfl) rfl).trans hv5)) ((hf 11 78 (by kernel_rfl) rfl).trans hv11)) ?_
   refine ls_sub (sput (sput s0 0 (some (Ck.var 32 g1 (([Value.int .i64 a0.1]++([Value.slice A0_1 a0.2.1.length c0_1]++([Value.slice A0_2 a0.2.2.1.length c0_2]++[Value.slice A0_3 a0.2.2.2.length c0_3]))))))) 1 (some (Ck.var 32 g2 (([Value.int .i64 a1.1]++([Value.slice A1_1 a1.2.1.length c1_1]++([Value.slice A1_2 a1.2.2.1.length c1_2]++[Value.slice A1_3 a1.2.2.2.length c1_3]))))))) (sub_put ((hS 1 (by kernel_rfl)).trans (by exact rfl)) (sub_put ((hS 0 (by kernel_rfl)).trans (by exact rfl)) (sub_nil _))) ?_
   refine lv (.bool (!(y23.toList==y32.toList))) ?_
   refine ls_end ?_
   refine qn_then ?_
   by_cases q34:(y23.toList==y32.toList)=true
   ·replace H := ite_t q34 H
    refine cs_know (c:=false) (congrArg Bool.not (q34)) 79 (by kernel_rfl) ?_
    refine cs_false (by kernel_rfl) ?_
    refine cs_skip' ?_
    refine qn_block ?_
    refine qn_then ?_
    refine cs_region (l:=[_,_,_]) ?_
    refine lv (.int .i64 x6_5) ?_
    refine lv (.int .i64 (IntKind.wrap .i64 (x6_5+(1:Int)))) ?_
    refine lv (.int .i64 (IntKind.wrap .i64 (x6_5+(1:Int)))) ?_
    refine ls_end ?_
    refine qn_again k5 (sput (sput s0 0 (some (Ck.var 32 g1 (([Value.int .i64 a0.1]++([Value.slice A0_1 a0.2.1.length c0_1]++([Value.slice A0_2 a0.2.2.1.length c0_2]++[Value.slice A0_3 a0.2.2.2.length c0_3]))))))) 1 (some (Ck.var 32 g2 (([Value.int .i64 a1.1]++([Value.slice A1_1 a1.2.1.length c1_1]++([Value.slice A1_2 a1.2.2.1.length c1_2]++[Value.slice A1_3 a1.2.2.2.length c1_3]))))))) (Nat.le_refl _) ⟨_,(IntKind.wrap .i64 (x6_5+(1:Int))),fr_next (fr_next (fr_next (rfl) (by kernel_rfl)) (by kernel_rfl)) (by kernel_rfl),rfl,H⟩ (sub_put (by exact rfl) (sub_put (by exact rfl) (sub_nil _)))
   replace H := ite_f q34 H
   refine cs_know (c:=true) (congrArg Bool.not (Bool.eq_false_iff.mpr q34)) 79 (by kernel_rfl) ?_
   refine cs_true (by kernel_rfl) ?_
   refine cs_seq ?_
   refine cs_region (l:=[_]) ?_
   refine lv (.bool false) ?_
   refine ls_end ?_
   refine qn_then ?_
   refine cs_ret' ?_
   refine qr_block ?_
   refine qr_then ?_
   refine qr_then ?_
   refine qr_block ?_
   refine qr_then ?_
   obtain rfl := Option.some.inj H
   refine qr_res (rs:=[_]) rfl (fun w' hs=>⟨[.bool false],(res_tmp (by kernel_rfl) (.nil)),(),rfl,hs.pick (ts:=[]) (cs:=[]) trivial (by decide)⟩)
  replace H := ite_f q13 H
  refine cs_know (c:=false) (dec_f q13) 64 (by kernel_rfl) ?_
  refine cs_false (by kernel_rfl) ?_
  refine cs_exit' ?_
  refine qx_then ?_
  refine qx_then ?_
  refine qx_same ?_
  refine qn_meet (sput (sput s0 0 (some (Ck.var 32 g1 (([Value.int .i64 a0.1]++([Value.slice A0_1 a0.2.1.length c0_1]++([Value.slice A0_2 a0.2.2.1.length c0_2]++[Value.slice A0_3 a0.2.2.2.length c0_3]))))))) 1 (some (Ck.var 32 g2 (([Value.int .i64 a1.1]++([Value.slice A1_1 a1.2.1.length c1_1]++([Value.slice A1_2 a1.2.2.1.length c1_2]++[Value.slice A1_3 a1.2.2.2.length c1_3]))))))) ⟨_,fr_next (fr_next (rfl) (by kernel_rfl)) (by kernel_rfl),rfl,H⟩ (sub_put (by exact rfl) (sub_put (by exact rfl) (sub_nil _)))
 rintro f S ⟨fr3,rfl,rfl,H⟩
 replace H:(shadowboxref16_Same.lo4 a0 a1 k (0:Int))=some r := H
 refine cs_seq ?_
 refine cs_seq ?_
 refine cs_region (l:=[_]) ?_
 refine lv (.int .i64 (0:Int)) ?_
 refine ls_end ?_
 refine qn_then ?_
 refine cs_block ?_
 refine cs_sub (sput (sput s0 0 (some (Ck.var 32 g1 (([Value.int .i64 a0.1]++([Value.slice A0_1 a0.2.1.length c0_1]++([Value.slice A0_2 a0.2.2.1.length c0_2]++[Value.slice A0_3 a0.2.2.2.length c0_3]))))))) 1 (some (Ck.var 32 g2 (([Value.int .i64 a1.1]++([Value.slice A1_1 a1.2.1.length c1_1]++([Value.slice A1_2 a1.2.2.1.length c1_2]++[Value.slice A1_3 a1.2.2.2.length c1_3]))))))) (sub_put (by exact rfl) (sub_put (by exact rfl) (sub_nil _))) ?_
 refine cs_loop (fun kk f S=>∃ (fR:Fr) (x7_4:Int),f=upd (upd (upd fR 2 (.pointer (some ⟨g1,0,none⟩))) 3 (.pointer (some ⟨g2,0,none⟩))) 7 (.int .i64 x7_4)∧S=sput (sput s0 0 (some (Ck.var 32 g1 (([Value.int .i64 a0.1]++([Value.slice A0_1 a0.2.1.length c0_1]++([Value.slice A0_2 a0.2.2.1.length c0_2]++[Value.slice A0_3 a0.2.2.2.length c0_3]))))))) 1 (some (Ck.var 32 g2 (([Value.int .i64 a1.1]++([Value.slice A1_1 a1.2.1.length c1_1]++([Value.slice A1_2 a1.2.2.1.length c1_2]++[Value.slice A1_3 a1.2.2.2.length c1_3]))))))∧shadowboxref16_Same.lo4 a0 a1 kk x7_4=some r) k ?_ ?_ ?_
 ·exact ⟨_,(0:Int),fr_next (fr_next (fr_next (rfl) (by kernel_rfl)) (by kernel_rfl)) (by kernel_rfl),rfl,H⟩
 ·rintro f S ⟨fr4,x7_4,rfl,rfl,H⟩; cases H
 rintro k4 f S ⟨fr4,x7_4,rfl,rfl,H⟩
 replace H:((if x7_4<(a0.2.2.2.length:Int) then (if 0≤x7_4 then (if x7_4<(a1.2.2.2.length:Int) then (if ((((a0.2.2.2).getD (x7_4).toNat ((0:Int),(0:Int),(0:Int),(0:Int),(vrep 32 (0:Int)))).1==((a1.2.2.2).getD (x7_4).toNat ((0:Int),(0:Int),(0:Int),(0:Int),(vrep 32 (0:Int)))).1)&&((((a0.2.2.2).getD (x7_4).toNat ((0:Int),(0:Int),(0:Int),(0:Int),(vrep 32 (0:Int)))).2.1==((a1.2.2.2).getD (x7_4).toNat ((0:Int),(0:Int),(0:Int),(0:Int),(vrep 32 (0:Int)))).2.1)&&((((a0.2.2.2).getD (x7_4).toNat ((0:Int),(0:Int),(0:Int),(0:Int),(vrep 32 (0:Int)))).2.2.1==((a1.2.2.2).getD (x7_4).toNat ((0:Int),(0:Int),(0:Int),(0:Int),(vrep 32 (0:Int)))).2.2.1)&&((((a0.2.2.2).getD (x7_4).toNat ((0:Int),(0:Int),(0:Int),(0:Int),(vrep 32 (0:Int)))).2.2.2.1==((a1.2.2.2).getD (x7_4).toNat ((0:Int),(0:Int),(0:Int),(0:Int),(vrep 32 (0:Int)))).2.2.2.1)&&((((a0.2.2.2).getD (x7_4).toNat ((0:Int),(0:Int),(0:Int),(0:Int),(vrep 32 (0:Int)))).2.2.2.2).1==(((a1.2.2.2).getD (x7_4).toNat ((0:Int),(0:Int),(0:Int),(0:Int),(vrep 32 (0:Int)))).2.2.2.2).1)))))=true then (shadowboxref16_Same.lo4 a0 a1 k4) (IntKind.wrap .i64 (x7_4+(1:Int))) else some false) else none) else none) else some true))=some r := H
 refine cs_seq ?_
 refine cs_seq ?_
 refine cs_region (l:=[_,_,_,_,_]) ?_
 refine lv (.int .i64 x7_4) ?_
 refine lv (.pointer (some ⟨g1,(0+3),none⟩)) ?_
 refine ls_load (a0:=⟨g1,(0+3),none⟩) (v:=.slice A0_3 a0.2.2.2.length c0_3) (de:=(TypeDesc.slice 44)) rfl rfl (by kernel_rfl) rfl (by kernel_rfl) (by kernel_rfl) (by kernel_rfl) (fun w hs=>(hs.var (k:=0) (by exact rfl) (Sub4.trans (Sub4.all _) (Sub4.skip (n:=1) (len1 _) (Sub4.skip (n:=1) (len1 _) (Sub4.skip (n:=1) (len1 _) (Sub4.all _))))))) ?_
 refine lv (.int .i64 (a0.2.2.2.length:Int)) ?_
 refine lv (.bool (decide (x7_4<(a0.2.2.2.length:Int)))) ?_
 refine ls_end ?_
 refine qn_then ?_
 by_cases q3:x7_4<(a0.2.2.2.length:Int)
 ·replace H := ite_t q3 H
  refine cs_know (c:=true) (dec_t q3) 84 (by kernel_rfl) ?_
  refine cs_true (by kernel_rfl) ?_
  refine cs_skip' ?_
  refine qn_then ?_
  refine cs_seq ?_
  refine cs_block ?_
  refine cs_seq ?_
  obtain ⟨s5_0,hs5_0⟩ := exv (.pointer (some ⟨g1,(0+3),none⟩))
  refine have_opa shadowboxref16_Same.tab3 2 0 (fun sp=>sp 0=s5_0) (fun sp on hA hon=>?_) (fun ops5_0=>?_)
  ·refine ⟨fun o ho vs Rs f' S' w hp hf hx hS hR hs=>?_⟩
   obtain rfl := Option.some.inj ho
   exact opv (.pointer (some ⟨g1,(0+3),none⟩)) hA hs5_0 hon (fr_next (rfl) ((hx 2 (by kernel_rfl)).trans (by kernel_rfl:(_:Value)=.pointer (some ⟨g1,0,none⟩))))
  obtain ⟨s5_1,hs5_1⟩ := exv (.slice A0_3 a0.2.2.2.length c0_3)
  refine have_opa shadowboxref16_Same.tab3 2 1 (fun sp=>sp 1=s5_1∧sp 0=s5_0) (fun sp on hA hon=>?_) (fun ops5_1=>?_)
  ·refine ⟨fun o ho vs Rs f' S' w hp hf hx hS hR hs=>?_⟩
   obtain rfl := Option.some.inj ho
   obtain ⟨hv0,hR0⟩ := (spe hA.2 hs5_0 (hp 0 (by kernel_rfl)))
   rw [hA.1,hs5_1]
   refine wn hon ?_
   have hF := fr_next (rfl) ((hf 0 87 (by kernel_rfl) rfl).trans hv0)
   refine ls_fr hF ?_
   refine ls_load (a0:=⟨g1,(0+3),none⟩) (v:=.slice A0_3 a0.2.2.2.length c0_3) (de:=(TypeDesc.slice 44)) rfl rfl (by kernel_rfl) rfl (by kernel_rfl) (by kernel_rfl) (by kernel_rfl) (fun w1 hs1=>cell_step hs1.below.bw (hs.var (k:=0) ((hS 0 (by kernel_rfl)).trans (by exact rfl)) (Sub4.trans (Sub4.all _) (Sub4.skip (n:=1) (len1 _) (Sub4.skip (n:=1) (len1 _) (Sub4.skip (n:=1) (len1 _) (Sub4.all _))))))) ?_
   exact ls_fin s0 _ (congrArg (fun z=>upd z 88 _) hF.symm) ⟨rfl,rfl⟩ (sub_nil _)
  obtain ⟨s5_2,hs5_2⟩ := exv (.int .i64 x7_4)
  refine have_opa shadowboxref16_Same.tab3 2 2 (fun sp=>sp 2=s5_2) (fun sp on hA hon=>?_) (fun ops5_2=>?_)
  ·refine ⟨fun o ho vs Rs f' S' w hp hf hx hS hR hs=>?_⟩
   obtain rfl := Option.some.inj ho
   exact opv (.int .i64 x7_4) hA hs5_2 hon (fr_next (rfl) ((hx 7 (by kernel_rfl)).trans (by kernel_rfl:(_:Value)=.int .i64 x7_4)))
  obtain ⟨q6,H⟩ := ite_need H
  obtain ⟨ad7,hA8⟩ := ido_at (T:=T44) (l:=a0.2.2.2) (i:=x7_4) R0_3 q6 q3
  obtain ⟨s5_3,hs5_3⟩ := exv (.pointer (some (ad7.add ((x7_4).toNat*36))))
  refine have_opa shadowboxref16_Same.tab3 2 3 (fun sp=>sp 3=s5_3∧sp 1=s5_1∧sp 2=s5_2) (fun sp on hA hon=>?_) (fun ops5_3=>?_)
  ·refine ⟨fun o ho vs Rs f' S' w hp hf hx hS hR hs=>?_⟩
   obtain rfl := Option.some.inj ho
   obtain ⟨hv1,hR1⟩ := (spe hA.2.1 hs5_1 (hp 1 (by kernel_rfl)))
   obtain ⟨hv2,hR2⟩ := (spe hA.2.2 hs5_2 (hp 2 (by kernel_rfl)))
   rw [hA.1,hs5_3]
   refine wn hon ?_
   have hF := fr_next (fr_next (rfl) ((hf 1 88 (by kernel_rfl) rfl).trans hv1)) ((hf 2 89 (by kernel_rfl) rfl).trans hv2)
   refine ls_fr hF ?_
   refine ls_idxv T44 (A:=A0_3) (c:=c0_3) (l:=a0.2.2.2) (k:=.i64) (i:=x7_4) (z:=36) (ad:=ad7) rfl rfl (by kernel_rfl) hA8 rfl (by kernel_rfl) (by kernel_rfl) (by kernel_rfl) (by kernel_rfl) q6 q3 ?_
   exact ls_fin s0 _ (congrArg (fun z=>upd z 90 _) hF.symm) ⟨rfl,rfl⟩ (sub_nil _)
  obtain ⟨s5_4,hs5_4⟩ := exv (.agg ⟨([Value.int .i64 (((a0.2.2.2).getD (x7_4).toNat ((0:Int),(0:Int),(0:Int),(0:Int),(vrep 32 (0:Int)))).1)]++([Value.int .i64 (((a0.2.2.2).getD (x7_4).toNat ((0:Int),(0:Int),(0:Int),(0:Int),(vrep 32 (0:Int)))).2.1)]++([Value.int .i64 (((a0.2.2.2).getD (x7_4).toNat ((0:Int),(0:Int),(0:Int),(0:Int),(vrep 32 (0:Int)))).2.2.1)]++([Value.int .u32 (((a0.2.2.2).getD (x7_4).toNat ((0:Int),(0:Int),(0:Int),(0:Int),(vrep 32 (0:Int)))).2.2.2.1)]++en (Value.int .u8) (((a0.2.2.2).getD (x7_4).toNat ((0:Int),(0:Int),(0:Int),(0:Int),(vrep 32 (0:Int)))).2.2.2.2).1))))⟩)
  refine have_opa shadowboxref16_Same.tab3 2 4 (fun sp=>sp 4=s5_4∧sp 3=s5_3) (fun sp on hA hon=>?_) (fun ops5_4=>?_)
  ·refine ⟨fun o ho vs Rs f' S' w hp hf hx hS hR hs=>?_⟩
   obtain rfl := Option.some.inj ho
   obtain ⟨hv3,hR3⟩ := (spe hA.2 hs5_3 (hp 3 (by kernel_rfl)))
   rw [hA.1,hs5_4]
   refine wn hon ?_
   have hF := fr_next (rfl) ((hf 3 90 (by kernel_rfl) rfl).trans hv3)
   refine ls_fr hF ?_
   refine ls_loadagg (a:=(ad7.add ((x7_4).toNat*36))) (sub:=([Value.int .i64 (((a0.2.2.2).getD (x7_4).toNat ((0:Int),(0:Int),(0:Int),(0:Int),(vrep 32 (0:Int)))).1)]++([Value.int .i64 (((a0.2.2.2).getD (x7_4).toNat ((0:Int),(0:Int),(0:Int),(0:Int),(vrep 32 (0:Int)))).2.1)]++([Value.int .i64 (((a0.2.2.2).getD (x7_4).toNat ((0:Int),(0:Int),(0:Int),(0:Int),(vrep 32 (0:Int)))).2.2.1)]++([Value.int .u32 (((a0.2.2.2).getD (x7_4).toNat ((0:Int),(0:Int),(0:Int),(0:Int),(vrep 32 (0:Int)))).2.2.2.1)]++en (Value.int .u8) (((a0.2.2.2).getD (x7_4).toNat ((0:Int),(0:Int),(0:Int),(0:Int),(vrep 32 (0:Int)))).2.2.2.2).1))))) rfl rfl (by kernel_rfl) rfl (by kernel_rfl) (by kernel_rfl) (by kernel_rfl) (len_app (len1 _) (len_app (len1 _) (len_app (len1 _) (len_app (len1 _) (len_en _ (((a0.2.2.2).getD (x7_4).toNat ((0:Int),(0:Int),(0:Int),(0:Int),(vrep 32 (0:Int)))).2.2.2.2)))))) (fun w1 hs1=>(Rd.step (hs.old R0_3) hs1.below.bw).part hA8 (em_sub T44 a0.2.2.2 (i:=(x7_4).toNat) (by have h0:(0:Int)≤x7_4 := q6; have h1:x7_4<(a0.2.2.2.length:Int) := q3; omega))) ?_
   exact ls_fin s0 _ (congrArg (fun z=>upd z 91 _) hF.symm) ⟨rfl,rfl⟩ (sub_nil _)
  obtain ⟨s5_5,hs5_5⟩ := exv (.pointer (some ⟨g2,(0+3),none⟩))
  refine have_opa shadowboxref16_Same.tab3 2 5 (fun sp=>sp 5=s5_5) (fun sp on hA hon=>?_) (fun ops5_5=>?_)
  ·refine ⟨fun o ho vs Rs f' S' w hp hf hx hS hR hs=>?_⟩
   obtain rfl := Option.some.inj ho
   exact opv (.pointer (some ⟨g2,(0+3),none⟩)) hA hs5_5 hon (fr_next (rfl) ((hx 3 (by kernel_rfl)).trans (by kernel_rfl:(_:Value)=.pointer (some ⟨g2,0,none⟩))))
  obtain ⟨s5_6,hs5_6⟩ := exv (.slice A1_3 a1.2.2.2.length c1_3)
  refine have_opa shadowboxref16_Same.tab3 2 6 (fun sp=>sp 6=s5_6∧sp 5=s5_5) (fun sp on hA hon=>?_) (fun ops5_6=>?_)
  ·refine ⟨fun o ho vs Rs f' S' w hp hf hx hS hR hs=>?_⟩
   obtain rfl := Option.some.inj ho
   obtain ⟨hv5,hR5⟩ := (spe hA.2 hs5_5 (hp 5 (by kernel_rfl)))
   rw [hA.1,hs5_6]
   refine wn hon ?_
   have hF := fr_next (rfl) ((hf 5 92 (by kernel_rfl) rfl).trans hv5)
   refine ls_fr hF ?_
   refine ls_load (a0:=⟨g2,(0+3),none⟩) (v:=.slice A1_3 a1.2.2.2.length c1_3) (de:=(TypeDesc.slice 44)) rfl rfl (by kernel_rfl) rfl (by kernel_rfl) (by kernel_rfl) (by kernel_rfl) (fun w1 hs1=>cell_step hs1.below.bw (hs.var (k:=1) ((hS 1 (by kernel_rfl)).trans (by exact rfl)) (Sub4.trans (Sub4.all _) (Sub4.skip (n:=1) (len1 _) (Sub4.skip (n:=1) (len1 _) (Sub4.skip (n:=1) (len1 _) (Sub4.all _))))))) ?_
   exact ls_fin s0 _ (congrArg (fun z=>upd z 93 _) hF.symm) ⟨rfl,rfl⟩ (sub_nil _)
  obtain ⟨s5_7,hs5_7⟩ := exv (.int .i64 x7_4)
  refine have_opa shadowboxref16_Same.tab3 2 7 (fun sp=>sp 7=s5_7) (fun sp on hA hon=>?_) (fun ops5_7=>?_)
  ·refine ⟨fun o ho vs Rs f' S' w hp hf hx hS hR hs=>?_⟩
   obtain rfl := Option.some.inj ho
   exact opv (.int .i64 x7_4) hA hs5_7 hon (fr_next (rfl) ((hx 7 (by kernel_rfl)).trans (by kernel_rfl:(_:Value)=.int .i64 x7_4)))
  obtain ⟨q9,H⟩ := ite_need H
  obtain ⟨ad10,hA11⟩ := ido_at (T:=T44) (l:=a1.2.2.2) (i:=x7_4) R1_3 q6 q9
  obtain ⟨s5_8,hs5_8⟩ := exv (.pointer (some (ad10.add ((x7_4).toNat*36))))
  refine have_opa shadowboxref16_Same.tab3 2 8 (fun sp=>sp 8=s5_8∧sp 6=s5_6∧sp 7=s5_7) (fun sp on hA hon=>?_) (fun ops5_8=>?_)
  ·refine ⟨fun o ho vs Rs f' S' w hp hf hx hS hR hs=>?_⟩
   obtain rfl := Option.some.inj ho
   obtain ⟨hv6,hR6⟩ := (spe hA.2.1 hs5_6 (hp 6 (by kernel_rfl)))
   obtain ⟨hv7,hR7⟩ := (spe hA.2.2 hs5_7 (hp 7 (by kernel_rfl)))
   rw [hA.1,hs5_8]
   refine wn hon ?_
   have hF := fr_next (fr_next (rfl) ((hf 6 93 (by kernel_rfl) rfl).trans hv6)) ((hf 7 94 (by kernel_rfl) rfl).trans hv7)
   refine ls_fr hF ?_
   refine ls_idxv T44 (A:=A1_3) (c:=c1_3) (l:=a1.2.2.2) (k:=.i64) (i:=x7_4) (z:=36) (ad:=ad10) rfl rfl (by kernel_rfl) hA11 rfl (by kernel_rfl) (by kernel_rfl) (by kernel_rfl) (by kernel_rfl) q6 q9 ?_
   exact ls_fin s0 _ (congrArg (fun z=>upd z 95 _) hF.symm) ⟨rfl,rfl⟩ (sub_nil _)
  obtain ⟨s5_9,hs5_9⟩ := exv (.agg ⟨([Value.int .i64 (((a1.2.2.2).getD (x7_4).toNat ((0:Int),(0:Int),(0:Int),(0:Int),(vrep 32 (0:Int)))).1)]++([Value.int .i64 (((a1.2.2.2).getD (x7_4).toNat ((0:Int),(0:Int),(0:Int),(0:Int),(vrep 32 (0:Int)))).2.1)]++([Value.int .i64 (((a1.2.2.2).getD (x7_4).toNat ((0:Int),(0:Int),(0:Int),(0:Int),(vrep 32 (0:Int)))).2.2.1)]++([Value.int .u32 (((a1.2.2.2).getD (x7_4).toNat ((0:Int),(0:Int),(0:Int),(0:Int),(vrep 32 (0:Int)))).2.2.2.1)]++en (Value.int .u8) (((a1.2.2.2).getD (x7_4).toNat ((0:Int),(0:Int),(0:Int),(0:Int),(vrep 32 (0:Int)))).2.2.2.2).1))))⟩)
  refine have_opa shadowboxref16_Same.tab3 2 9 (fun sp=>sp 9=s5_9∧sp 8=s5_8) (fun sp on hA hon=>?_) (fun ops5_9=>?_)
  ·refine ⟨fun o ho vs Rs f' S' w hp hf hx hS hR hs=>?_⟩
   obtain rfl := Option.some.inj ho
   obtain ⟨hv8,hR8⟩ := (spe hA.2 hs5_8 (hp 8 (by kernel_rfl)))
   rw [hA.1,hs5_9]
   refine wn hon ?_
   have hF := fr_next (rfl) ((hf 8 95 (by kernel_rfl) rfl).trans hv8)
   refine ls_fr hF ?_
   refine ls_loadagg (a:=(ad10.add ((x7_4).toNat*36))) (sub:=([Value.int .i64 (((a1.2.2.2).getD (x7_4).toNat ((0:Int),(0:Int),(0:Int),(0:Int),(vrep 32 (0:Int)))).1)]++([Value.int .i64 (((a1.2.2.2).getD (x7_4).toNat ((0:Int),(0:Int),(0:Int),(0:Int),(vrep 32 (0:Int)))).2.1)]++([Value.int .i64 (((a1.2.2.2).getD (x7_4).toNat ((0:Int),(0:Int),(0:Int),(0:Int),(vrep 32 (0:Int)))).2.2.1)]++([Value.int .u32 (((a1.2.2.2).getD (x7_4).toNat ((0:Int),(0:Int),(0:Int),(0:Int),(vrep 32 (0:Int)))).2.2.2.1)]++en (Value.int .u8) (((a1.2.2.2).getD (x7_4).toNat ((0:Int),(0:Int),(0:Int),(0:Int),(vrep 32 (0:Int)))).2.2.2.2).1))))) rfl rfl (by kernel_rfl) rfl (by kernel_rfl) (by kernel_rfl) (by kernel_rfl) (len_app (len1 _) (len_app (len1 _) (len_app (len1 _) (len_app (len1 _) (len_en _ (((a1.2.2.2).getD (x7_4).toNat ((0:Int),(0:Int),(0:Int),(0:Int),(vrep 32 (0:Int)))).2.2.2.2)))))) (fun w1 hs1=>(Rd.step (hs.old R1_3) hs1.below.bw).part hA11 (em_sub T44 a1.2.2.2 (i:=(x7_4).toNat) (by have h0:(0:Int)≤x7_4 := q6; have h1:x7_4<(a1.2.2.2.length:Int) := q9; omega))) ?_
   exact ls_fin s0 _ (congrArg (fun z=>upd z 96 _) hF.symm) ⟨rfl,rfl⟩ (sub_nil _)
  refine cs_draw shadowboxref16_Same.tab3 10 2 (spl [s5_0,s5_1,s5_2,s5_3,s5_4,s5_5,s5_6,s5_7,s5_8,s5_9]) (onl [true,true,true,true,true,true,true,true,true,true]) (by kernel_rfl) (by kernel_rfl) (by kernel_rfl) (by kernel_rfl) (rs:=[_]) rfl (by kernel_rfl) (by kernel_rfl) (all_snoc (all_snoc (all_snoc (all_snoc (all_snoc (all_snoc (all_snoc (all_snoc (all_snoc (all_snoc (all_nil) (ops5_0 _ _ rfl rfl)) (ops5_1 _ _ ⟨rfl,rfl⟩ rfl)) (ops5_2 _ _ rfl rfl)) (ops5_3 _ _ ⟨rfl,rfl,rfl⟩ rfl)) (ops5_4 _ _ ⟨rfl,rfl⟩ rfl)) (ops5_5 _ _ rfl rfl)) (ops5_6 _ _ ⟨rfl,rfl⟩ rfl)) (ops5_7 _ _ rfl rfl)) (ops5_8 _ _ ⟨rfl,rfl,rfl⟩ rfl)) (ops5_9 _ _ ⟨rfl,rfl⟩ rfl)) ?_
  intro vs Rs f' S' hp hf hx hS hR
  obtain ⟨hv4,hR4⟩ := (spe rfl hs5_4 (hp 4 (by kernel_rfl)))
  obtain ⟨hv9,hR9⟩ := (spe rfl hs5_9 (hp 9 (by kernel_rfl)))
  refine ls_fr (F:=upd (upd (upd (upd (upd f' 2 (.pointer (some ⟨g1,0,none⟩))) 3 (.pointer (some ⟨g2,0,none⟩))) 7 (.int .i64 x7_4)) 91 (.agg ⟨([Value.int .i64 (((a0.2.2.2).getD (x7_4).toNat ((0:Int),(0:Int),(0:Int),(0:Int),(vrep 32 (0:Int)))).1)]++([Value.int .i64 (((a0.2.2.2).getD (x7_4).toNat ((0:Int),(0:Int),(0:Int),(0:Int),(vrep 32 (0:Int)))).2.1)]++([Value.int .i64 (((a0.2.2.2).getD (x7_4).toNat ((0:Int),(0:Int),(0:Int),(0:Int),(vrep 32 (0:Int)))).2.2.1)]++([Value.int .u32 (((a0.2.2.2).getD (x7_4).toNat ((0:Int),(0:Int),(0:Int),(0:Int),(vrep 32 (0:Int)))).2.2.2.1)]++en (Value.int .u8) (((a0.2.2.2).getD (x7_4).toNat ((0:Int),(0:Int),(0:Int),(0:Int),(vrep 32 (0:Int)))).2.2.2.2).1))))⟩)) 96 (.agg ⟨([Value.int .i64 (((a1.2.2.2).getD (x7_4).toNat ((0:Int),(0:Int),(0:Int),(0:Int),(vrep 32 (0:Int)))).1)]++([Value.int .i64 (((a1.2.2.2).getD (x7_4).toNat ((0:Int),(0:Int),(0:Int),(0:Int),(vrep 32 (0:Int)))).2.1)]++([Value.int .i64 (((a1.2.2.2).getD (x7_4).toNat ((0:Int),(0:Int),(0:Int),(0:Int),(vrep 32 (0:Int)))).2.2.1)]++([Value.int .u32 (((a1.2.2.2).getD (x7_4).toNat ((0:Int),(0:Int),(0:Int),(0:Int),(vrep 32 (0:Int)))).2.2.2.1)]++en (Value.int .u8) (((a1.2.2.2).getD (x7_4).toNat ((0:Int),(0:Int),(0:Int),(0:Int),(vrep 32 (0:Int)))).2.2.2.2).1))))⟩)) (fr_next (fr_next (fr_next (fr_next (fr_next (rfl) ((hx 2 (by kernel_rfl)).trans (by kernel_rfl:(_:Value)=.pointer (some ⟨g1,0,none⟩)))) ((hx 3 (by kernel_rfl)).trans (by kernel_rfl:(_:Value)=.pointer (some ⟨g2,0,none⟩)))) ((hx 7 (by kernel_rfl)).trans (by kernel_rfl:(_:Value)=.int .i64 x7_4))) ((hf 4 91 (by kernel_rfl) rfl).trans hv4)) ((hf 9 96 (by kernel_rfl) rfl).trans hv9)) ?_
  refine ls_sub (sput (sput s0 0 (some (Ck.var 32 g1 (([Value.int .i64 a0.1]++([Value.slice A0_1 a0.2.1.length c0_1]++([Value.slice A0_2 a0.2.2.1.length c0_2]++[Value.slice A0_3 a0.2.2.2.length c0_3]))))))) 1 (some (Ck.var 32 g2 (([Value.int .i64 a1.1]++([Value.slice A1_1 a1.2.1.length c1_1]++([Value.slice A1_2 a1.2.2.1.length c1_2]++[Value.slice A1_3 a1.2.2.2.length c1_3]))))))) (sub_put ((hS 1 (by kernel_rfl)).trans (by exact rfl)) (sub_put ((hS 0 (by kernel_rfl)).trans (by exact rfl)) (sub_nil _))) ?_
  refine ls_neq (xs:=([Value.int .i64 (((a0.2.2.2).getD (x7_4).toNat ((0:Int),(0:Int),(0:Int),(0:Int),(vrep 32 (0:Int)))).1)]++([Value.int .i64 (((a0.2.2.2).getD (x7_4).toNat ((0:Int),(0:Int),(0:Int),(0:Int),(vrep 32 (0:Int)))).2.1)]++([Value.int .i64 (((a0.2.2.2).getD (x7_4).toNat ((0:Int),(0:Int),(0:Int),(0:Int),(vrep 32 (0:Int)))).2.2.1)]++([Value.int .u32 (((a0.2.2.2).getD (x7_4).toNat ((0:Int),(0:Int),(0:Int),(0:Int),(vrep 32 (0:Int)))).2.2.2.1)]++en (Value.int .u8) (((a0.2.2.2).getD (x7_4).toNat ((0:Int),(0:Int),(0:Int),(0:Int),(vrep 32 (0:Int)))).2.2.2.2).1))))) (ys:=([Value.int .i64 (((a1.2.2.2).getD (x7_4).toNat ((0:Int),(0:Int),(0:Int),(0:Int),(vrep 32 (0:Int)))).1)]++([Value.int .i64 (((a1.2.2.2).getD (x7_4).toNat ((0:Int),(0:Int),(0:Int),(0:Int),(vrep 32 (0:Int)))).2.1)]++([Value.int .i64 (((a1.2.2.2).getD (x7_4).toNat ((0:Int),(0:Int),(0:Int),(0:Int),(vrep 32 (0:Int)))).2.2.1)]++([Value.int .u32 (((a1.2.2.2).getD (x7_4).toNat ((0:Int),(0:Int),(0:Int),(0:Int),(vrep 32 (0:Int)))).2.2.2.1)]++en (Value.int .u8) (((a1.2.2.2).getD (x7_4).toNat ((0:Int),(0:Int),(0:Int),(0:Int),(vrep 32 (0:Int)))).2.2.2.2).1))))) (r:=((((a0.2.2.2).getD (x7_4).toNat ((0:Int),(0:Int),(0:Int),(0:Int),(vrep 32 (0:Int)))).1==((a1.2.2.2).getD (x7_4).toNat ((0:Int),(0:Int),(0:Int),(0:Int),(vrep 32 (0:Int)))).1)&&((((a0.2.2.2).getD (x7_4).toNat ((0:Int),(0:Int),(0:Int),(0:Int),(vrep 32 (0:Int)))).2.1==((a1.2.2.2).getD (x7_4).toNat ((0:Int),(0:Int),(0:Int),(0:Int),(vrep 32 (0:Int)))).2.1)&&((((a0.2.2.2).getD (x7_4).toNat ((0:Int),(0:Int),(0:Int),(0:Int),(vrep 32 (0:Int)))).2.2.1==((a1.2.2.2).getD (x7_4).toNat ((0:Int),(0:Int),(0:Int),(0:Int),(vrep 32 (0:Int)))).2.2.1)&&((((a0.2.2.2).getD (x7_4).toNat ((0:Int),(0:Int),(0:Int),(0:Int),(vrep 32 (0:Int)))).2.2.2.1==((a1.2.2.2).getD (x7_4).toNat ((0:Int),(0:Int),(0:Int),(0:Int),(vrep 32 (0:Int)))).2.2.2.1)&&((((a0.2.2.2).getD (x7_4).toNat ((0:Int),(0:Int),(0:Int),(0:Int),(vrep 32 (0:Int)))).2.2.2.2).1==(((a1.2.2.2).getD (x7_4).toNat ((0:Int),(0:Int),(0:Int),(0:Int),(vrep 32 (0:Int)))).2.2.2.2).1)))))) rfl rfl (by kernel_rfl) rfl (by kernel_rfl) (by kernel_rfl) (by kernel_rfl) (eq_st (by kernel_rfl) (by kernel_rfl) (eqf_cons (ft:=3) (fo:=0) (by kernel_rfl) (part_one (by kernel_rfl) (Sub4.trans (Sub4.all _) (Sub4.head _ _))) (part_one (by kernel_rfl) (Sub4.trans (Sub4.all _) (Sub4.head _ _))) (eq_int (by kernel_rfl) _ _ _) (eqf_cons (ft:=3) (fo:=1) (by kernel_rfl) (part_one (by kernel_rfl) (Sub4.trans (Sub4.all _) (Sub4.skip (n:=1) (len1 _) (Sub4.head _ _)))) (part_one (by kernel_rfl) (Sub4.trans (Sub4.all _) (Sub4.skip (n:=1) (len1 _) (Sub4.head _ _)))) (eq_int (by kernel_rfl) _ _ _) (eqf_cons (ft:=3) (fo:=2) (by kernel_rfl) (part_one (by kernel_rfl) (Sub4.trans (Sub4.all _) (Sub4.skip (n:=1) (len1 _) (Sub4.skip (n:=1) (len1 _) (Sub4.head _ _))))) (part_one (by kernel_rfl) (Sub4.trans (Sub4.all _) (Sub4.skip (n:=1) (len1 _) (Sub4.skip (n:=1) (len1 _) (Sub4.head _ _))))) (eq_int (by kernel_rfl) _ _ _) (eqf_cons (ft:=41) (fo:=3) (by kernel_rfl) (part_one (by kernel_rfl) (Sub4.trans (Sub4.all _) (Sub4.skip (n:=1) (len1 _) (Sub4.skip (n:=1) (len1 _) (Sub4.skip (n:=1) (len1 _) (Sub4.head _ _)))))) (part_one (by kernel_rfl) (Sub4.trans (Sub4.all _) (Sub4.skip (n:=1) (len1 _) (Sub4.skip (n:=1) (len1 _) (Sub4.skip (n:=1) (len1 _) (Sub4.head _ _)))))) (eq_int (by kernel_rfl) _ _ _) (eqf_last (ft:=42) (fo:=4) (by kernel_rfl) (part_agg (by kernel_rfl) (by kernel_rfl) (len_en _ (((a0.2.2.2).getD (x7_4).toNat ((0:Int),(0:Int),(0:Int),(0:Int),(vrep 32 (0:Int)))).2.2.2.2)) (Sub4.trans (Sub4.all _) (Sub4.skip (n:=1) (len1 _) (Sub4.skip (n:=1) (len1 _) (Sub4.skip (n:=1) (len1 _) (Sub4.skip (n:=1) (len1 _) (Sub4.all _))))))) (part_agg (by kernel_rfl) (by kernel_rfl) (len_en _ (((a1.2.2.2).getD (x7_4).toNat ((0:Int),(0:Int),(0:Int),(0:Int),(vrep 32 (0:Int)))).2.2.2.2)) (Sub4.trans (Sub4.all _) (Sub4.skip (n:=1) (len1 _) (Sub4.skip (n:=1) (len1 _) (Sub4.skip (n:=1) (len1 _) (Sub4.skip (n:=1) (len1 _) (Sub4.all _))))))) (eq_ints (e:=5) (ln:=32) (by kernel_rfl) (by kernel_rfl) (by kernel_rfl) (((a0.2.2.2).getD (x7_4).toNat ((0:Int),(0:Int),(0:Int),(0:Int),(vrep 32 (0:Int)))).2.2.2.2).2 (((a1.2.2.2).getD (x7_4).toNat ((0:Int),(0:Int),(0:Int),(0:Int),(vrep 32 (0:Int)))).2.2.2.2).2 _) (by kernel_rfl))))))) ?_
  refine ls_end ?_
  refine qn_then ?_
  by_cases q12:((((a0.2.2.2).getD (x7_4).toNat ((0:Int),(0:Int),(0:Int),(0:Int),(vrep 32 (0:Int)))).1==((a1.2.2.2).getD (x7_4).toNat ((0:Int),(0:Int),(0:Int),(0:Int),(vrep 32 (0:Int)))).1)&&((((a0.2.2.2).getD (x7_4).toNat ((0:Int),(0:Int),(0:Int),(0:Int),(vrep 32 (0:Int)))).2.1==((a1.2.2.2).getD (x7_4).toNat ((0:Int),(0:Int),(0:Int),(0:Int),(vrep 32 (0:Int)))).2.1)&&((((a0.2.2.2).getD (x7_4).toNat ((0:Int),(0:Int),(0:Int),(0:Int),(vrep 32 (0:Int)))).2.2.1==((a1.2.2.2).getD (x7_4).toNat ((0:Int),(0:Int),(0:Int),(0:Int),(vrep 32 (0:Int)))).2.2.1)&&((((a0.2.2.2).getD (x7_4).toNat ((0:Int),(0:Int),(0:Int),(0:Int),(vrep 32 (0:Int)))).2.2.2.1==((a1.2.2.2).getD (x7_4).toNat ((0:Int),(0:Int),(0:Int),(0:Int),(vrep 32 (0:Int)))).2.2.2.1)&&((((a0.2.2.2).getD (x7_4).toNat ((0:Int),(0:Int),(0:Int),(0:Int),(vrep 32 (0:Int)))).2.2.2.2).1==(((a1.2.2.2).getD (x7_4).toNat ((0:Int),(0:Int),(0:Int),(0:Int),(vrep 32 (0:Int)))).2.2.2.2).1)))))=true
  ·replace H := ite_t q12 H
   refine cs_know (c:=false) (congrArg Bool.not (q12)) 97 (by kernel_rfl) ?_
   refine cs_false (by kernel_rfl) ?_
   refine cs_skip' ?_
   refine qn_block ?_
   refine qn_then ?_
   refine cs_region (l:=[_,_,_]) ?_
   refine lv (.int .i64 x7_4) ?_
   refine lv (.int .i64 (IntKind.wrap .i64 (x7_4+(1:Int)))) ?_
   refine lv (.int .i64 (IntKind.wrap .i64 (x7_4+(1:Int)))) ?_
   refine ls_end ?_
   refine qn_again k4 (sput (sput s0 0 (some (Ck.var 32 g1 (([Value.int .i64 a0.1]++([Value.slice A0_1 a0.2.1.length c0_1]++([Value.slice A0_2 a0.2.2.1.length c0_2]++[Value.slice A0_3 a0.2.2.2.length c0_3]))))))) 1 (some (Ck.var 32 g2 (([Value.int .i64 a1.1]++([Value.slice A1_1 a1.2.1.length c1_1]++([Value.slice A1_2 a1.2.2.1.length c1_2]++[Value.slice A1_3 a1.2.2.2.length c1_3]))))))) (Nat.le_refl _) ⟨_,(IntKind.wrap .i64 (x7_4+(1:Int))),fr_next (fr_next (fr_next (rfl) (by kernel_rfl)) (by kernel_rfl)) (by kernel_rfl),rfl,H⟩ (sub_put (by exact rfl) (sub_put (by exact rfl) (sub_nil _)))
  replace H := ite_f q12 H
  refine cs_know (c:=true) (congrArg Bool.not (Bool.eq_false_iff.mpr q12)) 97 (by kernel_rfl) ?_
  refine cs_true (by kernel_rfl) ?_
  refine cs_seq ?_
  refine cs_region (l:=[_]) ?_
  refine lv (.bool false) ?_
  refine ls_end ?_
  refine qn_then ?_
  refine cs_ret' ?_
  refine qr_block ?_
  refine qr_then ?_
  refine qr_then ?_
  refine qr_block ?_
  refine qr_then ?_
  obtain rfl := Option.some.inj H
  refine qr_res (rs:=[_]) rfl (fun w' hs=>⟨[.bool false],(res_tmp (by kernel_rfl) (.nil)),(),rfl,hs.pick (ts:=[]) (cs:=[]) trivial (by decide)⟩)
 replace H := ite_f q3 H
 refine cs_know (c:=false) (dec_f q3) 84 (by kernel_rfl) ?_
 refine cs_false (by kernel_rfl) ?_
 refine cs_exit' ?_
 refine qx_then ?_
 refine qx_then ?_
 refine qx_same ?_
 refine qn_then ?_
 refine cs_seq ?_
 refine cs_region (l:=[_]) ?_
 refine lv (.bool true) ?_
 refine ls_end ?_
 refine qn_then ?_
 refine cs_ret' ?_
 obtain rfl := Option.some.inj H
 refine qr_res (rs:=[_]) rfl (fun w' hs=>⟨[.bool true],(res_tmp (by kernel_rfl) (.nil)),(),rfl,hs.pick (ts:=[]) (cs:=[]) trivial (by decide)⟩)
end Go.Proofs.Ythhhkphbhlafbaa.G
