/- Printed by a program of this session (sz.py): plain functions, and walks that show that the code comes to them; no condition. -/
import Derived.Test.YthhhkphbhlafbaaProg
import Derived.Test.YthhhkphbhlafbaaTy
import Derived.Test.YthhhkphbhlafbaaG0
import Derived.Test.YthhhkphbhlafbaaG1
import Derived.Test.YthhhkphbhlafbaaG2
set_option linter.unusedVariables false
set_option linter.unusedSimpArgs false
namespace Go.Proofs.Ythhhkphbhlafbaa.G
open Go Go.RowKit Go.Proofs.Ythhhkphbhlafbaa.Sx
set_option maxRecDepth 100000
set_option maxHeartbeats 4000000
def shadowboxref16_shape.jo5 (a0:NO) (x3_3:Int) (k3:Nat) (lo3:Int→Option (Bool)):Option (Bool) := (if a0.1=(0:Int) then (if 0≤x3_3 then (if x3_3<(a0.2.2.1.length:Int) then lt ((((a0.2.2.1).getD (x3_3).toNat ([]:List Int)).length:Int)) fun y11=>(if y11 > (1024:Int) then some false else (if a0.1 > (0:Int) then (if x3_3<(a0.2.2.2.length:Int) then (shadowboxref06_Right.f k3 ((a0.2.2.2).getD (x3_3).toNat ((0:Int),(0:Int),(0:Int),(0:Int),(vrep 32 (0:Int))))).bind fun t18=>(if t18=true then lo3 (IntKind.wrap .i64 (x3_3+(1:Int))) else some false) else none) else lo3 (IntKind.wrap .i64 (x3_3+(1:Int))))) else none) else none) else (if a0.1 > (0:Int) then (if 0≤x3_3 then (if x3_3<(a0.2.2.2.length:Int) then (shadowboxref06_Right.f k3 ((a0.2.2.2).getD (x3_3).toNat ((0:Int),(0:Int),(0:Int),(0:Int),(vrep 32 (0:Int))))).bind fun t27=>(if t27=true then lo3 (IntKind.wrap .i64 (x3_3+(1:Int))) else some false) else none) else none) else lo3 (IntKind.wrap .i64 (x3_3+(1:Int)))))
def shadowboxref16_shape.tab30:List (List Nat) := [[],[0],[],[0,1,2],[0,1,2,3],[0,1,2,3,4],[0,1,2,3,4,5],[0,1,2,3,4,5,6],[0,1,2,3,4,5,6,7],[0,1,2,3,4,5,6,7,8],[0,1,2,3,4,5,6,7,8,9],[0,1,2,3,4,5,6,7,8,9,10],[0,1,2,3,4,5,6,7,8,9,10,11],[0,1,2,3,4,5,6,7,8,9,10],[0,1,2,3,4,5,6,7,8,9,10,13],[0,1,2,3,4,5,6,7,8,9,10,11,12,13,14],[0,1,2,3,4,5,6,7,8,9,10,11,12,13,14,15],[0,1,2,3,4,5,6,7,8,9,10,11,12,13,14,15,16],[0,1,2,3,4,5,6,7,8,9,10],[0,1,2,3,4,5,6,7,8,9,10,18],[0,1,2,3,4,5,6,7,8,9,10],[0,1,2,3,4,5,6,7,8,9,10,18,19,20],[0,1,2,3,4,5,6,7,8,9,10,18,19,20,21],[0,1,2,3,4,5,6,7,8,9,10,18,19,20,21,22],[0,1,2,3,4,5,6,7,8,9,10,11,12,13,14,15,16,17,18,19,20,21,22,23],[0,1,2,3,4,5,6,7,8,9,10,11,12,13,14,15,16,17,18,19,20,21,22,23,24],[0,1,2,3,4,5,6,7,8,9,10,11,12,13,14,15,16,17,18,19,20,21,22,23,24,25]]
def shadowboxref16_shape.jo4 (a0:NO) (x3_3:Int) (k3:Nat) (lo3:Int→Option (Bool)):Option (Bool) := (if 0≤x3_3 then (if x3_3<(a0.2.1.length:Int) then lt ((((a0.2.1).getD (x3_3).toNat ([]:List Int)).length:Int)) fun y41=>(if y41 > (160:Int) then some false else (if x3_3 > (0:Int) then (if 0≤IntKind.wrap .i64 (x3_3 - (1:Int)) then (if IntKind.wrap .i64 (x3_3 - (1:Int))<(a0.2.1.length:Int) then lt (strOfNums ((a0.2.1).getD (IntKind.wrap .i64 (x3_3 - (1:Int))).toNat ([]:List Int))) fun y53=>lt (strOfNums ((a0.2.1).getD (x3_3).toNat ([]:List Int))) fun y61=>(if (Op.bytesLess y53.toList y61.toList)=true then (shadowboxref16_shape.jo5 a0 x3_3 k3 lo3) else some false) else none) else none) else (shadowboxref16_shape.jo5 a0 x3_3 k3 lo3))) else none) else none)
def shadowboxref16_shape.lo3 (a0:NO):Nat→Int→Option (Bool)
  | 0,_=>none
  | k3+1,x3_3=>(if x3_3<(a0.2.1.length:Int) then (shadowboxref16_shape.jo4 a0 x3_3 k3 (shadowboxref16_shape.lo3 a0 k3)) else some true)
def shadowboxref16_shape.jo2 (k:Nat) (a0:NO):Option (Bool) := shadowboxref16_shape.lo3 a0 k (0:Int)
def shadowboxref16_shape.jo1 (k:Nat) (a0:NO):Option (Bool) := (if a0.1=(0:Int) then (if (a0.2.2.1.length:Int)=(a0.2.1.length:Int) then (if (a0.2.2.2.length:Int)=(0:Int) then (if a0.1 > (0:Int) then (if (a0.2.2.2.length:Int)=(a0.2.1.length:Int) then (if (a0.2.2.1.length:Int)=(0:Int) then (shadowboxref16_shape.jo2 k a0) else some false) else some false) else (shadowboxref16_shape.jo2 k a0)) else some false) else some false) else (if a0.1 > (0:Int) then (if (a0.2.2.2.length:Int)=(a0.2.1.length:Int) then (if (a0.2.2.1.length:Int)=(0:Int) then (shadowboxref16_shape.jo2 k a0) else some false) else some false) else (shadowboxref16_shape.jo2 k a0)))
def shadowboxref16_shape.f (k:Nat) (a0:NO):Option (Bool) :=
  (if a0.1<(0:Int) then some false else (if a0.1 > (12:Int) then some false else (if (a0.2.1.length:Int)=(0:Int) then some false else (if (a0.2.1.length:Int) > (4096:Int) then some false else (shadowboxref16_shape.jo1 k a0)))))
theorem shadowboxref16_shape.calls (k:Nat) (A0_1:Option Addr) (c0_1:Nat) (A0_2:Option Addr) (c0_2:Nat) (A0_3:Option Addr) (c0_3:Nat) (a0:NO) (r:Bool) (b:Bs) (hs0:St b (stl []) b.w) (R0_1:RoS 23 (Ec.int 5 .u8) b A0_1 a0.2.1) (C0_1:a0.2.1.length≤c0_1) (R0_2:RoS 23 (Ec.int 5 .u8) b A0_2 a0.2.2.1) (C0_2:a0.2.2.1.length≤c0_2) (R0_3:Ro b A0_3 (em T44 a0.2.2.2)) (C0_3:a0.2.2.2.length≤c0_3) (H:shadowboxref16_shape.f k a0=some r) :
    Calls Try.prog 67 #[.agg ⟨([Value.int .i64 a0.1]++([Value.slice A0_1 a0.2.1.length c0_1]++([Value.slice A0_2 a0.2.2.1.length c0_2]++[Value.slice A0_3 a0.2.2.2.length c0_3])))⟩] b.w fun e w'=>∃ x:Unit,e=.returned (.bool r)∧St b (stl []) w' := by
 unfold shadowboxref16_shape.f at H
 refine enterb (n:=122) Try.func67 rfl (by kernel_rfl) (by kernel_rfl) hs0 ?_
 refine cs_sub (s0) (sub_nil _) ?_
 refine cs_seq ?_
 refine cs_region (l:=[_,_]) ?_
 refine ls_new rfl rfl (by kernel_rfl) 0 (fun g=>.pointer (some ⟨g,0,none⟩)) (.cells ⟨([Value.int .i64 a0.1]++([Value.slice A0_1 a0.2.1.length c0_1]++([Value.slice A0_2 a0.2.2.1.length c0_2]++[Value.slice A0_3 a0.2.2.2.length c0_3])))⟩ 32) (fun w=>by kernel_rfl) ?_
 intro g1
 refine lv (.bool false) ?_
 refine ls_end ?_
 refine qn_then ?_
 refine cs_cut (fun f S=>∃ (fR:Fr),f=upd fR 1 (.pointer (some ⟨g1,0,none⟩))∧S=sput s0 0 (some (Ck.var 32 g1 (([Value.int .i64 a0.1]++([Value.slice A0_1 a0.2.1.length c0_1]++([Value.slice A0_2 a0.2.2.1.length c0_2]++[Value.slice A0_3 a0.2.2.2.length c0_3]))))))∧shadowboxref16_shape.jo1 k a0=some r) ?_ ?_
 ·skip
  refine cs_seq ?_
  refine cs_region (l:=[_,_,_,_,_,_,_,_,_,_,_,_,_,_,_,_,_,_,_,_]) ?_
  refine lv (.pointer (some ⟨g1,(0+0),none⟩)) ?_
  refine ls_load (a0:=⟨g1,(0+0),none⟩) (v:=.int .i64 a0.1) (de:=(TypeDesc.int .i64)) rfl rfl (by kernel_rfl) rfl (by kernel_rfl) (by kernel_rfl) (by kernel_rfl) (fun w hs=>(hs.var (k:=0) (by exact rfl) (Sub4.trans (Sub4.all _) (Sub4.head _ _)))) ?_
  refine lv (.bool (decide (a0.1<(0:Int)))) ?_
  refine lv (.bool (decide (a0.1<(0:Int)))) ?_
  by_cases q74:a0.1<(0:Int)
  ·replace H := ite_t q74 H
   refine ls_know (c:=true) (dec_t q74) 7 (by kernel_rfl) ?_
   refine lofx 3 7 false true ?_
   refine lofx 3 7 false true ?_
   refine lofx 3 7 false true ?_
   refine lv (.bool true) ?_
   refine lv (.bool true) ?_
   refine lofx 8 12 false true ?_
   refine lofx 8 12 false true ?_
   refine lofx 8 12 false true ?_
   refine lofx 8 12 false true ?_
   refine lv (.bool true) ?_
   refine lv (.bool true) ?_
   refine lofx 14 18 false true ?_
   refine lofx 14 18 false true ?_
   refine lofx 14 18 false true ?_
   refine lofx 14 18 false true ?_
   refine lv (.bool true) ?_
   refine ls_end ?_
   refine qn_then ?_
   refine cs_true (by kernel_rfl) ?_
   refine cs_seq ?_
   refine cs_region (l:=[_]) ?_
   refine lv (.bool false) ?_
   refine ls_end ?_
   refine qn_then ?_
   refine cs_ret' ?_
   refine qr_then ?_
   obtain rfl := Option.some.inj H
   refine qr_res (rs:=[_]) rfl (fun w' hs=>⟨[.bool false],(res_tmp (by kernel_rfl) (.nil)),(),rfl,hs.pick (ts:=[]) (cs:=[]) trivial (by decide)⟩)
  replace H := ite_f q74 H
  refine ls_know (c:=false) (dec_f q74) 7 (by kernel_rfl) ?_
  refine ls_on (j:=3) (t:=7) (b:=false) rfl rfl (by kernel_rfl) (by kernel_rfl) ?_
  refine lv (.pointer (some ⟨g1,(0+0),none⟩)) ?_
  refine ls_on (j:=3) (t:=7) (b:=false) rfl rfl (by kernel_rfl) (by kernel_rfl) ?_
  refine ls_load (a0:=⟨g1,(0+0),none⟩) (v:=.int .i64 a0.1) (de:=(TypeDesc.int .i64)) rfl rfl (by kernel_rfl) rfl (by kernel_rfl) (by kernel_rfl) (by kernel_rfl) (fun w hs=>(hs.var (k:=0) (by exact rfl) (Sub4.trans (Sub4.all _) (Sub4.head _ _)))) ?_
  refine ls_on (j:=3) (t:=7) (b:=false) rfl rfl (by kernel_rfl) (by kernel_rfl) ?_
  refine lv (.bool (decide (a0.1 > (12:Int)))) ?_
  refine lv (.bool (decide (a0.1 > (12:Int)))) ?_
  refine lv (.bool (decide (a0.1 > (12:Int)))) ?_
  by_cases q75:a0.1 > (12:Int)
  ·replace H := ite_t q75 H
   refine ls_know (c:=true) (dec_t q75) 12 (by kernel_rfl) ?_
   refine lofx 8 12 false true ?_
   refine lofx 8 12 false true ?_
   refine lofx 8 12 false true ?_
   refine lofx 8 12 false true ?_
   refine lv (.bool true) ?_
   refine lv (.bool true) ?_
   refine lofx 14 18 false true ?_
   refine lofx 14 18 false true ?_
   refine lofx 14 18 false true ?_
   refine lofx 14 18 false true ?_
   refine lv (.bool true) ?_
   refine ls_end ?_
   refine qn_then ?_
   refine cs_true (by kernel_rfl) ?_
   refine cs_seq ?_
   refine cs_region (l:=[_]) ?_
   refine lv (.bool false) ?_
   refine ls_end ?_
   refine qn_then ?_
   refine cs_ret' ?_
   refine qr_then ?_
   obtain rfl := Option.some.inj H
   refine qr_res (rs:=[_]) rfl (fun w' hs=>⟨[.bool false],(res_tmp (by kernel_rfl) (.nil)),(),rfl,hs.pick (ts:=[]) (cs:=[]) trivial (by decide)⟩)
  replace H := ite_f q75 H
  refine ls_know (c:=false) (dec_f q75) 12 (by kernel_rfl) ?_
  refine ls_on (j:=8) (t:=12) (b:=false) rfl rfl (by kernel_rfl) (by kernel_rfl) ?_
  refine lv (.pointer (some ⟨g1,(0+1),none⟩)) ?_
  refine ls_on (j:=8) (t:=12) (b:=false) rfl rfl (by kernel_rfl) (by kernel_rfl) ?_
  refine ls_load (a0:=⟨g1,(0+1),none⟩) (v:=.slice A0_1 a0.2.1.length c0_1) (de:=(TypeDesc.slice 23)) rfl rfl (by kernel_rfl) rfl (by kernel_rfl) (by kernel_rfl) (by kernel_rfl) (fun w hs=>(hs.var (k:=0) (by exact rfl) (Sub4.trans (Sub4.all _) (Sub4.skip (n:=1) (len1 _) (Sub4.head _ _))))) ?_
  refine ls_on (j:=8) (t:=12) (b:=false) rfl rfl (by kernel_rfl) (by kernel_rfl) ?_
  refine lv (.int .i64 (a0.2.1.length:Int)) ?_
  refine ls_on (j:=8) (t:=12) (b:=false) rfl rfl (by kernel_rfl) (by kernel_rfl) ?_
  refine lv (.bool (decide ((a0.2.1.length:Int)=(0:Int)))) ?_
  refine lv (.bool (decide ((a0.2.1.length:Int)=(0:Int)))) ?_
  refine lv (.bool (decide ((a0.2.1.length:Int)=(0:Int)))) ?_
  by_cases q76:(a0.2.1.length:Int)=(0:Int)
  ·replace H := ite_t q76 H
   refine ls_know (c:=true) (dec_t q76) 18 (by kernel_rfl) ?_
   refine lofx 14 18 false true ?_
   refine lofx 14 18 false true ?_
   refine lofx 14 18 false true ?_
   refine lofx 14 18 false true ?_
   refine lv (.bool true) ?_
   refine ls_end ?_
   refine qn_then ?_
   refine cs_true (by kernel_rfl) ?_
   refine cs_seq ?_
   refine cs_region (l:=[_]) ?_
   refine lv (.bool false) ?_
   refine ls_end ?_
   refine qn_then ?_
   refine cs_ret' ?_
   refine qr_then ?_
   obtain rfl := Option.some.inj H
   refine qr_res (rs:=[_]) rfl (fun w' hs=>⟨[.bool false],(res_tmp (by kernel_rfl) (.nil)),(),rfl,hs.pick (ts:=[]) (cs:=[]) trivial (by decide)⟩)
  replace H := ite_f q76 H
  refine ls_know (c:=false) (dec_f q76) 18 (by kernel_rfl) ?_
  refine ls_on (j:=14) (t:=18) (b:=false) rfl rfl (by kernel_rfl) (by kernel_rfl) ?_
  refine lv (.pointer (some ⟨g1,(0+1),none⟩)) ?_
  refine ls_on (j:=14) (t:=18) (b:=false) rfl rfl (by kernel_rfl) (by kernel_rfl) ?_
  refine ls_load (a0:=⟨g1,(0+1),none⟩) (v:=.slice A0_1 a0.2.1.length c0_1) (de:=(TypeDesc.slice 23)) rfl rfl (by kernel_rfl) rfl (by kernel_rfl) (by kernel_rfl) (by kernel_rfl) (fun w hs=>(hs.var (k:=0) (by exact rfl) (Sub4.trans (Sub4.all _) (Sub4.skip (n:=1) (len1 _) (Sub4.head _ _))))) ?_
  refine ls_on (j:=14) (t:=18) (b:=false) rfl rfl (by kernel_rfl) (by kernel_rfl) ?_
  refine lv (.int .i64 (a0.2.1.length:Int)) ?_
  refine ls_on (j:=14) (t:=18) (b:=false) rfl rfl (by kernel_rfl) (by kernel_rfl) ?_
  refine lv (.bool (decide ((a0.2.1.length:Int) > (4096:Int)))) ?_
  refine lv (.bool (decide ((a0.2.1.length:Int) > (4096:Int)))) ?_
  refine ls_end ?_
  refine qn_then ?_
  by_cases q77:(a0.2.1.length:Int) > (4096:Int)
  ·replace H := ite_t q77 H
   refine cs_know (c:=true) (dec_t q77) 23 (by kernel_rfl) ?_
   refine cs_true (by kernel_rfl) ?_
   refine cs_seq ?_
   refine cs_region (l:=[_]) ?_
   refine lv (.bool false) ?_
   refine ls_end ?_
   refine qn_then ?_
   refine cs_ret' ?_
   refine qr_then ?_
   obtain rfl := Option.some.inj H
   refine qr_res (rs:=[_]) rfl (fun w' hs=>⟨[.bool false],(res_tmp (by kernel_rfl) (.nil)),(),rfl,hs.pick (ts:=[]) (cs:=[]) trivial (by decide)⟩)
  replace H := ite_f q77 H
  refine cs_know (c:=false) (dec_f q77) 23 (by kernel_rfl) ?_
  refine cs_false (by kernel_rfl) ?_
  refine cs_skip' ?_
  refine qn_meet (sput s0 0 (some (Ck.var 32 g1 (([Value.int .i64 a0.1]++([Value.slice A0_1 a0.2.1.length c0_1]++([Value.slice A0_2 a0.2.2.1.length c0_2]++[Value.slice A0_3 a0.2.2.2.length c0_3]))))))) ⟨_,fr_next (rfl) (by kernel_rfl),rfl,H⟩ (sub_put (by exact rfl) (sub_nil _))
 rintro f S ⟨fr1,rfl,rfl,H⟩
 replace H:((if a0.1=(0:Int) then (if (a0.2.2.1.length:Int)=(a0.2.1.length:Int) then (if (a0.2.2.2.length:Int)=(0:Int) then (if a0.1 > (0:Int) then (if (a0.2.2.2.length:Int)=(a0.2.1.length:Int) then (if (a0.2.2.1.length:Int)=(0:Int) then (shadowboxref16_shape.jo2 k a0) else some false) else some false) else (shadowboxref16_shape.jo2 k a0)) else some false) else some false) else (if a0.1 > (0:Int) then (if (a0.2.2.2.length:Int)=(a0.2.1.length:Int) then (if (a0.2.2.1.length:Int)=(0:Int) then (shadowboxref16_shape.jo2 k a0) else some false) else some false) else (shadowboxref16_shape.jo2 k a0))))=some r := H
 refine cs_cut (fun f S=>∃ (fR:Fr),f=upd fR 1 (.pointer (some ⟨g1,0,none⟩))∧S=sput s0 0 (some (Ck.var 32 g1 (([Value.int .i64 a0.1]++([Value.slice A0_1 a0.2.1.length c0_1]++([Value.slice A0_2 a0.2.2.1.length c0_2]++[Value.slice A0_3 a0.2.2.2.length c0_3]))))))∧shadowboxref16_shape.jo2 k a0=some r) ?_ ?_
 ·skip
  refine cs_seq ?_
  refine cs_region (l:=[_,_,_,_,_,_,_,_,_,_,_,_,_,_,_,_,_,_,_,_,_,_,_,_,_,_,_,_,_,_,_,_,_,_,_,_,_,_]) ?_
  refine lv (.pointer (some ⟨g1,(0+0),none⟩)) ?_
  refine ls_load (a0:=⟨g1,(0+0),none⟩) (v:=.int .i64 a0.1) (de:=(TypeDesc.int .i64)) rfl rfl (by kernel_rfl) rfl (by kernel_rfl) (by kernel_rfl) (by kernel_rfl) (fun w hs=>(hs.var (k:=0) (by exact rfl) (Sub4.trans (Sub4.all _) (Sub4.head _ _)))) ?_
  refine lv (.bool (decide (a0.1=(0:Int)))) ?_
  refine lv (.bool (decide (a0.1=(0:Int)))) ?_
  by_cases q65:a0.1=(0:Int)
  ·replace H := ite_t q65 H
   refine ls_know (c:=true) (dec_t q65) 27 (by kernel_rfl) ?_
   refine ls_on (j:=3) (t:=27) (b:=true) rfl rfl (by kernel_rfl) (by kernel_rfl) ?_
   refine lv (.pointer (some ⟨g1,(0+2),none⟩)) ?_
   refine ls_on (j:=3) (t:=27) (b:=true) rfl rfl (by kernel_rfl) (by kernel_rfl) ?_
   refine ls_load (a0:=⟨g1,(0+2),none⟩) (v:=.slice A0_2 a0.2.2.1.length c0_2) (de:=(TypeDesc.slice 23)) rfl rfl (by kernel_rfl) rfl (by kernel_rfl) (by kernel_rfl) (by kernel_rfl) (fun w hs=>(hs.var (k:=0) (by exact rfl) (Sub4.trans (Sub4.all _) (Sub4.skip (n:=1) (len1 _) (Sub4.skip (n:=1) (len1 _) (Sub4.head _ _)))))) ?_
   refine ls_on (j:=3) (t:=27) (b:=true) rfl rfl (by kernel_rfl) (by kernel_rfl) ?_
   refine lv (.int .i64 (a0.2.2.1.length:Int)) ?_
   refine ls_on (j:=3) (t:=27) (b:=true) rfl rfl (by kernel_rfl) (by kernel_rfl) ?_
   refine lv (.pointer (some ⟨g1,(0+1),none⟩)) ?_
   refine ls_on (j:=3) (t:=27) (b:=true) rfl rfl (by kernel_rfl) (by kernel_rfl) ?_
   refine ls_load (a0:=⟨g1,(0+1),none⟩) (v:=.slice A0_1 a0.2.1.length c0_1) (de:=(TypeDesc.slice 23)) rfl rfl (by kernel_rfl) rfl (by kernel_rfl) (by kernel_rfl) (by kernel_rfl) (fun w hs=>(hs.var (k:=0) (by exact rfl) (Sub4.trans (Sub4.all _) (Sub4.skip (n:=1) (len1 _) (Sub4.head _ _))))) ?_
   refine ls_on (j:=3) (t:=27) (b:=true) rfl rfl (by kernel_rfl) (by kernel_rfl) ?_
   refine lv (.int .i64 (a0.2.1.length:Int)) ?_
   refine ls_on (j:=3) (t:=27) (b:=true) rfl rfl (by kernel_rfl) (by kernel_rfl) ?_
   refine lv (.bool (!decide ((a0.2.2.1.length:Int)=(a0.2.1.length:Int)))) ?_
   refine ls_on (j:=3) (t:=27) (b:=true) rfl rfl (by kernel_rfl) (by kernel_rfl) ?_
   refine lv (.bool (!decide ((a0.2.2.1.length:Int)=(a0.2.1.length:Int)))) ?_
   by_cases q66:(a0.2.2.1.length:Int)=(a0.2.1.length:Int)
   ·replace H := ite_t q66 H
    refine ls_know (c:=false) (congrArg Bool.not (dec_t q66)) 35 (by kernel_rfl) ?_
    refine ls_on (j:=11) (t:=35) (b:=false) rfl rfl (by kernel_rfl) (by kernel_rfl) ?_
    refine lv (.pointer (some ⟨g1,(0+3),none⟩)) ?_
    refine ls_on (j:=11) (t:=35) (b:=false) rfl rfl (by kernel_rfl) (by kernel_rfl) ?_
    refine ls_load (a0:=⟨g1,(0+3),none⟩) (v:=.slice A0_3 a0.2.2.2.length c0_3) (de:=(TypeDesc.slice 44)) rfl rfl (by kernel_rfl) rfl (by kernel_rfl) (by kernel_rfl) (by kernel_rfl) (fun w hs=>(hs.var (k:=0) (by exact rfl) (Sub4.trans (Sub4.all _) (Sub4.skip (n:=1) (len1 _) (Sub4.skip (n:=1) (len1 _) (Sub4.skip (n:=1) (len1 _) (Sub4.all _))))))) ?_
    refine ls_on (j:=11) (t:=35) (b:=false) rfl rfl (by kernel_rfl) (by kernel_rfl) ?_
    refine lv (.int .i64 (a0.2.2.2.length:Int)) ?_
    refine ls_on (j:=11) (t:=35) (b:=false) rfl rfl (by kernel_rfl) (by kernel_rfl) ?_
    refine lv (.bool (!decide ((a0.2.2.2.length:Int)=(0:Int)))) ?_
    refine ls_on (j:=3) (t:=27) (b:=true) rfl rfl (by kernel_rfl) (by kernel_rfl) ?_
    refine lv (.bool (!decide ((a0.2.2.2.length:Int)=(0:Int)))) ?_
    refine lv (.bool (!decide ((a0.2.2.2.length:Int)=(0:Int)))) ?_
    refine lv (.bool (!decide ((a0.2.2.2.length:Int)=(0:Int)))) ?_
    by_cases q67:(a0.2.2.2.length:Int)=(0:Int)
    ·replace H := ite_t q67 H
     refine ls_know (c:=false) (congrArg Bool.not (dec_t q67)) 42 (by kernel_rfl) ?_
     refine ls_on (j:=18) (t:=42) (b:=false) rfl rfl (by kernel_rfl) (by kernel_rfl) ?_
     refine lv (.pointer (some ⟨g1,(0+0),none⟩)) ?_
     refine ls_on (j:=18) (t:=42) (b:=false) rfl rfl (by kernel_rfl) (by kernel_rfl) ?_
     refine ls_load (a0:=⟨g1,(0+0),none⟩) (v:=.int .i64 a0.1) (de:=(TypeDesc.int .i64)) rfl rfl (by kernel_rfl) rfl (by kernel_rfl) (by kernel_rfl) (by kernel_rfl) (fun w hs=>(hs.var (k:=0) (by exact rfl) (Sub4.trans (Sub4.all _) (Sub4.head _ _)))) ?_
     refine ls_on (j:=18) (t:=42) (b:=false) rfl rfl (by kernel_rfl) (by kernel_rfl) ?_
     refine lv (.bool (decide (a0.1 > (0:Int)))) ?_
     refine ls_on (j:=18) (t:=42) (b:=false) rfl rfl (by kernel_rfl) (by kernel_rfl) ?_
     refine lv (.bool (decide (a0.1 > (0:Int)))) ?_
     by_cases q68:a0.1 > (0:Int)
     ·replace H := ite_t q68 H
      refine ls_know (c:=true) (dec_t q68) 46 (by kernel_rfl) ?_
      refine ls_on (j:=22) (t:=46) (b:=true) rfl rfl (by kernel_rfl) (by kernel_rfl) ?_
      refine lv (.pointer (some ⟨g1,(0+3),none⟩)) ?_
      refine ls_on (j:=22) (t:=46) (b:=true) rfl rfl (by kernel_rfl) (by kernel_rfl) ?_
      refine ls_load (a0:=⟨g1,(0+3),none⟩) (v:=.slice A0_3 a0.2.2.2.length c0_3) (de:=(TypeDesc.slice 44)) rfl rfl (by kernel_rfl) rfl (by kernel_rfl) (by kernel_rfl) (by kernel_rfl) (fun w hs=>(hs.var (k:=0) (by exact rfl) (Sub4.trans (Sub4.all _) (Sub4.skip (n:=1) (len1 _) (Sub4.skip (n:=1) (len1 _) (Sub4.skip (n:=1) (len1 _) (Sub4.all _))))))) ?_
      refine ls_on (j:=22) (t:=46) (b:=true) rfl rfl (by kernel_rfl) (by kernel_rfl) ?_
      refine lv (.int .i64 (a0.2.2.2.length:Int)) ?_
      refine ls_on (j:=22) (t:=46) (b:=true) rfl rfl (by kernel_rfl) (by kernel_rfl) ?_
      refine lv (.pointer (some ⟨g1,(0+1),none⟩)) ?_
      refine ls_on (j:=22) (t:=46) (b:=true) rfl rfl (by kernel_rfl) (by kernel_rfl) ?_
      refine ls_load (a0:=⟨g1,(0+1),none⟩) (v:=.slice A0_1 a0.2.1.length c0_1) (de:=(TypeDesc.slice 23)) rfl rfl (by kernel_rfl) rfl (by kernel_rfl) (by kernel_rfl) (by kernel_rfl) (fun w hs=>(hs.var (k:=0) (by exact rfl) (Sub4.trans (Sub4.all _) (Sub4.skip (n:=1) (len1 _) (Sub4.head _ _))))) ?_
      refine ls_on (j:=22) (t:=46) (b:=true) rfl rfl (by kernel_rfl) (by kernel_rfl) ?_
      refine lv (.int .i64 (a0.2.1.length:Int)) ?_
      refine ls_on (j:=22) (t:=46) (b:=true) rfl rfl (by kernel_rfl) (by kernel_rfl) ?_
      refine lv (.bool (!decide ((a0.2.2.2.length:Int)=(a0.2.1.length:Int)))) ?_
      refine ls_on (j:=22) (t:=46) (b:=true) rfl rfl (by kernel_rfl) (by kernel_rfl) ?_
      refine lv (.bool (!decide ((a0.2.2.2.length:Int)=(a0.2.1.length:Int)))) ?_
      by_cases q69:(a0.2.2.2.length:Int)=(a0.2.1.length:Int)
      ·replace H := ite_t q69 H
       refine ls_know (c:=false) (congrArg Bool.not (dec_t q69)) 54 (by kernel_rfl) ?_
       refine ls_on (j:=30) (t:=54) (b:=false) rfl rfl (by kernel_rfl) (by kernel_rfl) ?_
       refine lv (.pointer (some ⟨g1,(0+2),none⟩)) ?_
       refine ls_on (j:=30) (t:=54) (b:=false) rfl rfl (by kernel_rfl) (by kernel_rfl) ?_
       refine ls_load (a0:=⟨g1,(0+2),none⟩) (v:=.slice A0_2 a0.2.2.1.length c0_2) (de:=(TypeDesc.slice 23)) rfl rfl (by kernel_rfl) rfl (by kernel_rfl) (by kernel_rfl) (by kernel_rfl) (fun w hs=>(hs.var (k:=0) (by exact rfl) (Sub4.trans (Sub4.all _) (Sub4.skip (n:=1) (len1 _) (Sub4.skip (n:=1) (len1 _) (Sub4.head _ _)))))) ?_
       refine ls_on (j:=30) (t:=54) (b:=false) rfl rfl (by kernel_rfl) (by kernel_rfl) ?_
       refine lv (.int .i64 (a0.2.2.1.length:Int)) ?_
       refine ls_on (j:=30) (t:=54) (b:=false) rfl rfl (by kernel_rfl) (by kernel_rfl) ?_
       refine lv (.bool (!decide ((a0.2.2.1.length:Int)=(0:Int)))) ?_
       refine ls_on (j:=22) (t:=46) (b:=true) rfl rfl (by kernel_rfl) (by kernel_rfl) ?_
       refine lv (.bool (!decide ((a0.2.2.1.length:Int)=(0:Int)))) ?_
       refine ls_on (j:=18) (t:=42) (b:=false) rfl rfl (by kernel_rfl) (by kernel_rfl) ?_
       refine lv (.bool (!decide ((a0.2.2.1.length:Int)=(0:Int)))) ?_
       refine lv (.bool (!decide ((a0.2.2.1.length:Int)=(0:Int)))) ?_
       refine ls_end ?_
       refine qn_then ?_
       by_cases q70:(a0.2.2.1.length:Int)=(0:Int)
       ·replace H := ite_t q70 H
        refine cs_know (c:=false) (congrArg Bool.not (dec_t q70)) 61 (by kernel_rfl) ?_
        refine cs_false (by kernel_rfl) ?_
        refine cs_skip' ?_
        refine qn_meet (sput s0 0 (some (Ck.var 32 g1 (([Value.int .i64 a0.1]++([Value.slice A0_1 a0.2.1.length c0_1]++([Value.slice A0_2 a0.2.2.1.length c0_2]++[Value.slice A0_3 a0.2.2.2.length c0_3]))))))) ⟨_,fr_next (rfl) (by kernel_rfl),rfl,H⟩ (sub_put (by exact rfl) (sub_nil _))
       replace H := ite_f q70 H
       refine cs_know (c:=true) (congrArg Bool.not (dec_f q70)) 61 (by kernel_rfl) ?_
       refine cs_true (by kernel_rfl) ?_
       refine cs_seq ?_
       refine cs_region (l:=[_]) ?_
       refine lv (.bool false) ?_
       refine ls_end ?_
       refine qn_then ?_
       refine cs_ret' ?_
       refine qr_then ?_
       obtain rfl := Option.some.inj H
       refine qr_res (rs:=[_]) rfl (fun w' hs=>⟨[.bool false],(res_tmp (by kernel_rfl) (.nil)),(),rfl,hs.pick (ts:=[]) (cs:=[]) trivial (by decide)⟩)
      replace H := ite_f q69 H
      refine ls_know (c:=true) (congrArg Bool.not (dec_f q69)) 54 (by kernel_rfl) ?_
      refine lofx 30 54 false true ?_
      refine lofx 30 54 false true ?_
      refine lofx 30 54 false true ?_
      refine lofx 30 54 false true ?_
      refine ls_on (j:=22) (t:=46) (b:=true) rfl rfl (by kernel_rfl) (by kernel_rfl) ?_
      refine lv (.bool true) ?_
      refine ls_on (j:=18) (t:=42) (b:=false) rfl rfl (by kernel_rfl) (by kernel_rfl) ?_
      refine lv (.bool true) ?_
      refine lv (.bool true) ?_
      refine ls_end ?_
      refine qn_then ?_
      refine cs_true (by kernel_rfl) ?_
      refine cs_seq ?_
      refine cs_region (l:=[_]) ?_
      refine lv (.bool false) ?_
      refine ls_end ?_
      refine qn_then ?_
      refine cs_ret' ?_
      refine qr_then ?_
      obtain rfl := Option.some.inj H
      refine qr_res (rs:=[_]) rfl (fun w' hs=>⟨[.bool false],(res_tmp (by kernel_rfl) (.nil)),(),rfl,hs.pick (ts:=[]) (cs:=[]) trivial (by decide)⟩)
     replace H := ite_f q68 H
     refine ls_know (c:=false) (dec_f q68) 46 (by kernel_rfl) ?_
     refine lofx 22 46 true false ?_
     refine lofx 22 46 true false ?_
     refine lofx 22 46 true false ?_
     refine lofx 22 46 true false ?_
     refine lofx 22 46 true false ?_
     refine lofx 22 46 true false ?_
     refine lofx 22 46 true false ?_
     refine lofx 22 46 true false ?_
     refine ls_offu (j:=30) (t:=54) (b:=false) rfl rfl (by kernel_rfl) (by kernel_rfl) rfl (by kernel_rfl) ?_
     refine ls_offu (j:=30) (t:=54) (b:=false) rfl rfl (by kernel_rfl) (by kernel_rfl) rfl (by kernel_rfl) ?_
     refine ls_offu (j:=30) (t:=54) (b:=false) rfl rfl (by kernel_rfl) (by kernel_rfl) rfl (by kernel_rfl) ?_
     refine ls_offu (j:=30) (t:=54) (b:=false) rfl rfl (by kernel_rfl) (by kernel_rfl) rfl (by kernel_rfl) ?_
     refine lofx 22 46 true false ?_
     refine ls_on (j:=18) (t:=42) (b:=false) rfl rfl (by kernel_rfl) (by kernel_rfl) ?_
     refine lv (.bool false) ?_
     refine lv (.bool false) ?_
     refine ls_end ?_
     refine qn_then ?_
     refine cs_false (by kernel_rfl) ?_
     refine cs_skip' ?_
     refine qn_meet (sput s0 0 (some (Ck.var 32 g1 (([Value.int .i64 a0.1]++([Value.slice A0_1 a0.2.1.length c0_1]++([Value.slice A0_2 a0.2.2.1.length c0_2]++[Value.slice A0_3 a0.2.2.2.length c0_3]))))))) ⟨_,fr_next (rfl) (by kernel_rfl),rfl,H⟩ (sub_put (by exact rfl) (sub_nil _))
    replace H := ite_f q67 H
    refine ls_know (c:=true) (congrArg Bool.not (dec_f q67)) 42 (by kernel_rfl) ?_
    refine lofx 18 42 false true ?_
    refine lofx 18 42 false true ?_
    refine lofx 18 42 false true ?_
    refine lofx 18 42 false true ?_
    refine ls_offu (j:=22) (t:=46) (b:=true) rfl rfl (by kernel_rfl) (by kernel_rfl) rfl (by kernel_rfl) ?_
    refine ls_offu (j:=22) (t:=46) (b:=true) rfl rfl (by kernel_rfl) (by kernel_rfl) rfl (by kernel_rfl) ?_
    refine ls_offu (j:=22) (t:=46) (b:=true) rfl rfl (by kernel_rfl) (by kernel_rfl) rfl (by kernel_rfl) ?_
    refine ls_offu (j:=22) (t:=46) (b:=true) rfl rfl (by kernel_rfl) (by kernel_rfl) rfl (by kernel_rfl) ?_
    refine ls_offu (j:=22) (t:=46) (b:=true) rfl rfl (by kernel_rfl) (by kernel_rfl) rfl (by kernel_rfl) ?_
    refine ls_offu (j:=22) (t:=46) (b:=true) rfl rfl (by kernel_rfl) (by kernel_rfl) rfl (by kernel_rfl) ?_
    refine ls_offu (j:=22) (t:=46) (b:=true) rfl rfl (by kernel_rfl) (by kernel_rfl) rfl (by kernel_rfl) ?_
    refine ls_offu (j:=22) (t:=46) (b:=true) rfl rfl (by kernel_rfl) (by kernel_rfl) rfl (by kernel_rfl) ?_
    refine ls_offu (j:=30) (t:=54) (b:=false) rfl rfl (by kernel_rfl) (by kernel_rfl) rfl (by kernel_rfl) ?_
    refine ls_offu (j:=30) (t:=54) (b:=false) rfl rfl (by kernel_rfl) (by kernel_rfl) rfl (by kernel_rfl) ?_
    refine ls_offu (j:=30) (t:=54) (b:=false) rfl rfl (by kernel_rfl) (by kernel_rfl) rfl (by kernel_rfl) ?_
    refine ls_offu (j:=30) (t:=54) (b:=false) rfl rfl (by kernel_rfl) (by kernel_rfl) rfl (by kernel_rfl) ?_
    refine ls_offu (j:=22) (t:=46) (b:=true) rfl rfl (by kernel_rfl) (by kernel_rfl) rfl (by kernel_rfl) ?_
    refine lofx 18 42 false true ?_
    refine lv (.bool true) ?_
    refine ls_end ?_
    refine qn_then ?_
    refine cs_true (by kernel_rfl) ?_
    refine cs_seq ?_
    refine cs_region (l:=[_]) ?_
    refine lv (.bool false) ?_
    refine ls_end ?_
    refine qn_then ?_
    refine cs_ret' ?_
    refine qr_then ?_
    obtain rfl := Option.some.inj H
    refine qr_res (rs:=[_]) rfl (fun w' hs=>⟨[.bool false],(res_tmp (by kernel_rfl) (.nil)),(),rfl,hs.pick (ts:=[]) (cs:=[]) trivial (by decide)⟩)
   replace H := ite_f q66 H
   refine ls_know (c:=true) (congrArg Bool.not (dec_f q66)) 35 (by kernel_rfl) ?_
   refine lofx 11 35 false true ?_
   refine lofx 11 35 false true ?_
   refine lofx 11 35 false true ?_
   refine lofx 11 35 false true ?_
   refine ls_on (j:=3) (t:=27) (b:=true) rfl rfl (by kernel_rfl) (by kernel_rfl) ?_
   refine lv (.bool true) ?_
   refine lv (.bool true) ?_
   refine lv (.bool true) ?_
   refine lofx 18 42 false true ?_
   refine lofx 18 42 false true ?_
   refine lofx 18 42 false true ?_
   refine lofx 18 42 false true ?_
   refine ls_offu (j:=22) (t:=46) (b:=true) rfl rfl (by kernel_rfl) (by kernel_rfl) rfl (by kernel_rfl) ?_
   refine ls_offu (j:=22) (t:=46) (b:=true) rfl rfl (by kernel_rfl) (by kernel_rfl) rfl (by kernel_rfl) ?_
   refine ls_offu (j:=22) (t:=46) (b:=true) rfl rfl (by kernel_rfl) (by kernel_rfl) rfl (by kernel_rfl) ?_
   refine ls_offu (j:=22) (t:=46) (b:=true) rfl rfl (by kernel_rfl) (by kernel_rfl) rfl (by kernel_rfl) ?_
   refine ls_offu (j:=22) (t:=46) (b:=true) rfl rfl (by kernel_rfl) (by kernel_rfl) rfl (by kernel_rfl) ?_
   refine ls_offu (j:=22) (t:=46) (b:=true) rfl rfl (by kernel_rfl) (by kernel_rfl) rfl (by kernel_rfl) ?_
   refine ls_offu (j:=22) (t:=46) (b:=true) rfl rfl (by kernel_rfl) (by kernel_rfl) rfl (by kernel_rfl) ?_
   refine ls_offu (j:=22) (t:=46) (b:=true) rfl rfl (by kernel_rfl) (by kernel_rfl) rfl (by kernel_rfl) ?_
   refine ls_offu (j:=30) (t:=54) (b:=false) rfl rfl (by kernel_rfl) (by kernel_rfl) rfl (by kernel_rfl) ?_
   refine ls_offu (j:=30) (t:=54) (b:=false) rfl rfl (by kernel_rfl) (by kernel_rfl) rfl (by kernel_rfl) ?_
   refine ls_offu (j:=30) (t:=54) (b:=false) rfl rfl (by kernel_rfl) (by kernel_rfl) rfl (by kernel_rfl) ?_
   refine ls_offu (j:=30) (t:=54) (b:=false) rfl rfl (by kernel_rfl) (by kernel_rfl) rfl (by kernel_rfl) ?_
   refine ls_offu (j:=22) (t:=46) (b:=true) rfl rfl (by kernel_rfl) (by kernel_rfl) rfl (by kernel_rfl) ?_
   refine lofx 18 42 false true ?_
   refine lv (.bool true) ?_
   refine ls_end ?_
   refine qn_then ?_
   refine cs_true (by kernel_rfl) ?_
   refine cs_seq ?_
   refine cs_region (l:=[_]) ?_
   refine lv (.bool false) ?_
   refine ls_end ?_
   refine qn_then ?_
   refine cs_ret' ?_
   refine qr_then ?_
   obtain rfl := Option.some.inj H
   refine qr_res (rs:=[_]) rfl (fun w' hs=>⟨[.bool false],(res_tmp (by kernel_rfl) (.nil)),(),rfl,hs.pick (ts:=[]) (cs:=[]) trivial (by decide)⟩)
  replace H := ite_f q65 H
  refine ls_know (c:=false) (dec_f q65) 27 (by kernel_rfl) ?_
  refine lofx 3 27 true false ?_
  refine lofx 3 27 true false ?_
  refine lofx 3 27 true false ?_
  refine lofx 3 27 true false ?_
  refine lofx 3 27 true false ?_
  refine lofx 3 27 true false ?_
  refine lofx 3 27 true false ?_
  refine lofx 3 27 true false ?_
  refine ls_offu (j:=11) (t:=35) (b:=false) rfl rfl (by kernel_rfl) (by kernel_rfl) rfl (by kernel_rfl) ?_
  refine ls_offu (j:=11) (t:=35) (b:=false) rfl rfl (by kernel_rfl) (by kernel_rfl) rfl (by kernel_rfl) ?_
  refine ls_offu (j:=11) (t:=35) (b:=false) rfl rfl (by kernel_rfl) (by kernel_rfl) rfl (by kernel_rfl) ?_
  refine ls_offu (j:=11) (t:=35) (b:=false) rfl rfl (by kernel_rfl) (by kernel_rfl) rfl (by kernel_rfl) ?_
  refine lofx 3 27 true false ?_
  refine lv (.bool false) ?_
  refine lv (.bool false) ?_
  refine ls_on (j:=18) (t:=42) (b:=false) rfl rfl (by kernel_rfl) (by kernel_rfl) ?_
  refine lv (.pointer (some ⟨g1,(0+0),none⟩)) ?_
  refine ls_on (j:=18) (t:=42) (b:=false) rfl rfl (by kernel_rfl) (by kernel_rfl) ?_
  refine ls_load (a0:=⟨g1,(0+0),none⟩) (v:=.int .i64 a0.1) (de:=(TypeDesc.int .i64)) rfl rfl (by kernel_rfl) rfl (by kernel_rfl) (by kernel_rfl) (by kernel_rfl) (fun w hs=>(hs.var (k:=0) (by exact rfl) (Sub4.trans (Sub4.all _) (Sub4.head _ _)))) ?_
  refine ls_on (j:=18) (t:=42) (b:=false) rfl rfl (by kernel_rfl) (by kernel_rfl) ?_
  refine lv (.bool (decide (a0.1 > (0:Int)))) ?_
  refine ls_on (j:=18) (t:=42) (b:=false) rfl rfl (by kernel_rfl) (by kernel_rfl) ?_
  refine lv (.bool (decide (a0.1 > (0:Int)))) ?_
  by_cases q71:a0.1 > (0:Int)
  ·replace H := ite_t q71 H
   refine ls_know (c:=true) (dec_t q71) 46 (by kernel_rfl) ?_
   refine ls_on (j:=22) (t:=46) (b:=true) rfl rfl (by kernel_rfl) (by kernel_rfl) ?_
   refine lv (.pointer (some ⟨g1,(0+3),none⟩)) ?_
   refine ls_on (j:=22) (t:=46) (b:=true) rfl rfl (by kernel_rfl) (by kernel_rfl) ?_
   refine ls_load (a0:=⟨g1,(0+3),none⟩) (v:=.slice A0_3 a0.2.2.2.length c0_3) (de:=(TypeDesc.slice 44)) rfl rfl (by kernel_rfl) rfl (by kernel_rfl) (by kernel_rfl) (by kernel_rfl) (fun w hs=>(hs.var (k:=0) (by exact rfl) (Sub4.trans (Sub4.all _) (Sub4.skip (n:=1) (len1 _) (Sub4.skip (n:=1) (len1 _) (Sub4.skip (n:=1) (len1 _) (Sub4.all _))))))) ?_
   refine ls_on (j:=22) (t:=46) (b:=true) rfl rfl (by kernel_rfl) (by kernel_rfl) ?_
   refine lv (.int .i64 (a0.2.2.2.length:Int)) ?_
   refine ls_on (j:=22) (t:=46) (b:=true) rfl rfl (by kernel_rfl) (by kernel_rfl) ?_
   refine lv (.pointer (some ⟨g1,(0+1),none⟩)) ?_
   refine ls_on (j:=22) (t:=46) (b:=true) rfl rfl (by kernel_rfl) (by kernel_rfl) ?_
   refine ls_load (a0:=⟨g1,(0+1),none⟩) (v:=.slice A0_1 a0.2.1.length c0_1) (de:=(TypeDesc.slice 23)) rfl rfl (by kernel_rfl) rfl (by kernel_rfl) (by kernel_rfl) (by kernel_rfl) (fun w hs=>(hs.var (k:=0) (by exact rfl) (Sub4.trans (Sub4.all _) (Sub4.skip (n:=1) (len1 _) (Sub4.head _ _))))) ?_
   refine ls_on (j:=22) (t:=46) (b:=true) rfl rfl (by kernel_rfl) (by kernel_rfl) ?_
   refine lv (.int .i64 (a0.2.1.length:Int)) ?_
   refine ls_on (j:=22) (t:=46) (b:=true) rfl rfl (by kernel_rfl) (by kernel_rfl) ?_
   refine lv (.bool (!decide ((a0.2.2.2.length:Int)=(a0.2.1.length:Int)))) ?_
   refine ls_on (j:=22) (t:=46) (b:=true) rfl rfl (by kernel_rfl) (by kernel_rfl) ?_
   refine lv (.bool (!decide ((a0.2.2.2.length:Int)=(a0.2.1.length:Int)))) ?_
   by_cases q72:(a0.2.2.2.length:Int)=(a0.2.1.length:Int)
   ·replace H := ite_t q72 H
    refine ls_know (c:=false) (congrArg Bool.not (dec_t q72)) 54 (by kernel_rfl) ?_
    refine ls_on (j:=30) (t:=54) (b:=false) rfl rfl (by kernel_rfl) (by kernel_rfl) ?_
    refine lv (.pointer (some ⟨g1,(0+2),none⟩)) ?_
    refine ls_on (j:=30) (t:=54) (b:=false) rfl rfl (by kernel_rfl) (by kernel_rfl) ?_
    refine ls_load (a0:=⟨g1,(0+2),none⟩) (v:=.slice A0_2 a0.2.2.1.length c0_2) (de:=(TypeDesc.slice 23)) rfl rfl (by kernel_rfl) rfl (by kernel_rfl) (by kernel_rfl) (by kernel_rfl) (fun w hs=>(hs.var (k:=0) (by exact rfl) (Sub4.trans (Sub4.all _) (Sub4.skip (n:=1) (len1 _) (Sub4.skip (n:=1) (len1 _) (Sub4.head _ _)))))) ?_
    refine ls_on (j:=30) (t:=54) (b:=false) rfl rfl (by kernel_rfl) (by kernel_rfl) ?_
    refine lv (.int .i64 (a0.2.2.1.length:Int)) ?_
    refine ls_on (j:=30) (t:=54) (b:=false) rfl rfl (by kernel_rfl) (by kernel_rfl) ?_
    refine lv (.bool (!decide ((a0.2.2.1.length:Int)=(0:Int)))) ?_
    refine ls_on (j:=22) (t:=46) (b:=true) rfl rfl (by kernel_rfl) (by kernel_rfl) ?_
    refine lv (.bool (!decide ((a0.2.2.1.length:Int)=(0:Int)))) ?_
    refine ls_on (j:=18) (t:=42) (b:=false) rfl rfl (by kernel_rfl) (by kernel_rfl) ?_
    refine lv (.bool (!decide ((a0.2.2.1.length:Int)=(0:Int)))) ?_
    refine lv (.bool (!decide ((a0.2.2.1.length:Int)=(0:Int)))) ?_
    refine ls_end ?_
    refine qn_then ?_
    by_cases q73:(a0.2.2.1.length:Int)=(0:Int)
    ·replace H := ite_t q73 H
     refine cs_know (c:=false) (congrArg Bool.not (dec_t q73)) 61 (by kernel_rfl) ?_
     refine cs_false (by kernel_rfl) ?_
     refine cs_skip' ?_
     refine qn_meet (sput s0 0 (some (Ck.var 32 g1 (([Value.int .i64 a0.1]++([Value.slice A0_1 a0.2.1.length c0_1]++([Value.slice A0_2 a0.2.2.1.length c0_2]++[Value.slice A0_3 a0.2.2.2.length c0_3]))))))) ⟨_,fr_next (rfl) (by kernel_rfl),rfl,H⟩ (sub_put (by exact rfl) (sub_nil _))
    replace H := ite_f q73 H
    refine cs_know (c:=true) (congrArg Bool.not (dec_f q73)) 61 (by kernel_rfl) ?_
    refine cs_true (by kernel_rfl) ?_
    refine cs_seq ?_
    refine cs_region (l:=[_]) ?_
    refine lv (.bool false) ?_
    refine ls_end ?_
    refine qn_then ?_
    refine cs_ret' ?_
    refine qr_then ?_
    obtain rfl := Option.some.inj H
    refine qr_res (rs:=[_]) rfl (fun w' hs=>⟨[.bool false],(res_tmp (by kernel_rfl) (.nil)),(),rfl,hs.pick (ts:=[]) (cs:=[]) trivial (by decide)⟩)
   replace H := ite_f q72 H
   refine ls_know (c:=true) (congrArg Bool.not (dec_f q72)) 54 (by kernel_rfl) ?_
   refine lofx 30 54 false true ?_
   refine lofx 30 54 false true ?_
   refine lofx 30 54 false true ?_
   refine lofx 30 54 false true ?_
   refine ls_on (j:=22) (t:=46) (b:=true) rfl rfl (by kernel_rfl) (by kernel_rfl) ?_
   refine lv (.bool true) ?_
   refine ls_on (j:=18) (t:=42) (b:=false) rfl rfl (by kernel_rfl) (by kernel_rfl) ?_
   refine lv (.bool true) ?_
   refine lv (.bool true) ?_
   refine ls_end ?_
   refine qn_then ?_
   refine cs_true (by kernel_rfl) ?_
   refine cs_seq ?_
   refine cs_region (l:=[_]) ?_
   refine lv (.bool false) ?_
   refine ls_end ?_
   refine qn_then ?_
   refine cs_ret' ?_
   refine qr_then ?_
   obtain rfl := Option.some.inj H
   refine qr_res (rs:=[_]) rfl (fun w' hs=>⟨[.bool false],(res_tmp (by kernel_rfl) (.nil)),(),rfl,hs.pick (ts:=[]) (cs:=[]) trivial (by decide)⟩)
  replace H := ite_f q71 H
  refine ls_know (c:=false) (dec_f q71) 46 (by kernel_rfl) ?_
  refine lofx 22 46 true false ?_
  refine lofx 22 46 true false ?_
  refine lofx 22 46 true false ?_
  refine lofx 22 46 true false ?_
  refine lofx 22 46 true false ?_
  refine lofx 22 46 true false ?_
  refine lofx 22 46 true false ?_
  refine lofx 22 46 true false ?_
  refine ls_offu (j:=30) (t:=54) (b:=false) rfl rfl (by kernel_rfl) (by kernel_rfl) rfl (by kernel_rfl) ?_
  refine ls_offu (j:=30) (t:=54) (b:=false) rfl rfl (by kernel_rfl) (by kernel_rfl) rfl (by kernel_rfl) ?_
  refine ls_offu (j:=30) (t:=54) (b:=false) rfl rfl (by kernel_rfl) (by kernel_rfl) rfl (by kernel_rfl) ?_
  refine ls_offu (j:=30) (t:=54) (b:=false) rfl rfl (by kernel_rfl) (by kernel_rfl) rfl (by kernel_rfl) ?_
  refine lofx 22 46 true false ?_
  refine ls_on (j:=18) (t:=42) (b:=false) rfl rfl (by kernel_rfl) (by kernel_rfl) ?_
  refine lv (.bool false) ?_
  refine lv (.bool false) ?_
  refine ls_end ?_
  refine qn_then ?_
  refine cs_false (by kernel_rfl) ?_
  refine cs_skip' ?_
  refine qn_meet (sput s0 0 (some (Ck.var 32 g1 (([Value.int .i64 a0.1]++([Value.slice A0_1 a0.2.1.length c0_1]++([Value.slice A0_2 a0.2.2.1.length c0_2]++[Value.slice A0_3 a0.2.2.2.length c0_3]))))))) ⟨_,fr_next (rfl) (by kernel_rfl),rfl,H⟩ (sub_put (by exact rfl) (sub_nil _))
 rintro f S ⟨fr2,rfl,rfl,H⟩
 replace H:(shadowboxref16_shape.lo3 a0 k (0:Int))=some r := H
 refine cs_seq ?_
 refine cs_seq ?_
 refine cs_region (l:=[_]) ?_
 refine lv (.int .i64 (0:Int)) ?_
 refine ls_end ?_
 refine qn_then ?_
 refine cs_block ?_
 refine cs_sub (sput s0 0 (some (Ck.var 32 g1 (([Value.int .i64 a0.1]++([Value.slice A0_1 a0.2.1.length c0_1]++([Value.slice A0_2 a0.2.2.1.length c0_2]++[Value.slice A0_3 a0.2.2.2.length c0_3]))))))) (sub_put (by exact rfl) (sub_nil _)) ?_
 refine cs_loop (fun kk f S=>∃ (fR:Fr) (x3_3:Int),f=upd (upd fR 1 (.pointer (some ⟨g1,0,none⟩))) 3 (.int .i64 x3_3)∧S=sput s0 0 (some (Ck.var 32 g1 (([Value.int .i64 a0.1]++([Value.slice A0_1 a0.2.1.length c0_1]++([Value.slice A0_2 a0.2.2.1.length c0_2]++[Value.slice A0_3 a0.2.2.2.length c0_3]))))))∧shadowboxref16_shape.lo3 a0 kk x3_3=some r) k ?_ ?_ ?_
 ·exact ⟨_,(0:Int),fr_next (fr_next (rfl) (by kernel_rfl)) (by kernel_rfl),rfl,H⟩
 ·rintro f S ⟨fr3,x3_3,rfl,rfl,H⟩; cases H
 rintro k3 f S ⟨fr3,x3_3,rfl,rfl,H⟩
 replace H:((if x3_3<(a0.2.1.length:Int) then (shadowboxref16_shape.jo4 a0 x3_3 k3 (shadowboxref16_shape.lo3 a0 k3)) else some true))=some r := H
 refine cs_cut (fun f S=>∃ (fR:Fr),f=upd (upd fR 1 (.pointer (some ⟨g1,0,none⟩))) 3 (.int .i64 x3_3)∧S=sput s0 0 (some (Ck.var 32 g1 (([Value.int .i64 a0.1]++([Value.slice A0_1 a0.2.1.length c0_1]++([Value.slice A0_2 a0.2.2.1.length c0_2]++[Value.slice A0_3 a0.2.2.2.length c0_3]))))))∧shadowboxref16_shape.jo4 a0 x3_3 k3 (shadowboxref16_shape.lo3 a0 k3)=some r) ?_ ?_
 ·skip
  refine cs_seq ?_
  refine cs_region (l:=[_,_,_,_,_]) ?_
  refine lv (.int .i64 x3_3) ?_
  refine lv (.pointer (some ⟨g1,(0+1),none⟩)) ?_
  refine ls_load (a0:=⟨g1,(0+1),none⟩) (v:=.slice A0_1 a0.2.1.length c0_1) (de:=(TypeDesc.slice 23)) rfl rfl (by kernel_rfl) rfl (by kernel_rfl) (by kernel_rfl) (by kernel_rfl) (fun w hs=>(hs.var (k:=0) (by exact rfl) (Sub4.trans (Sub4.all _) (Sub4.skip (n:=1) (len1 _) (Sub4.head _ _))))) ?_
  refine lv (.int .i64 (a0.2.1.length:Int)) ?_
  refine lv (.bool (decide (x3_3<(a0.2.1.length:Int)))) ?_
  refine ls_end ?_
  refine qn_then ?_
  by_cases q64:x3_3<(a0.2.1.length:Int)
  ·replace H := ite_t q64 H
   refine cs_know (c:=true) (dec_t q64) 66 (by kernel_rfl) ?_
   refine cs_true (by kernel_rfl) ?_
   refine cs_skip' ?_
   refine qn_meet (sput s0 0 (some (Ck.var 32 g1 (([Value.int .i64 a0.1]++([Value.slice A0_1 a0.2.1.length c0_1]++([Value.slice A0_2 a0.2.2.1.length c0_2]++[Value.slice A0_3 a0.2.2.2.length c0_3]))))))) ⟨_,fr_next (fr_next (rfl) (by kernel_rfl)) (by kernel_rfl),rfl,H⟩ (sub_put (by exact rfl) (sub_nil _))
  replace H := ite_f q64 H
  refine cs_know (c:=false) (dec_f q64) 66 (by kernel_rfl) ?_
  refine cs_false (by kernel_rfl) ?_
  refine cs_exit' ?_
  refine qx_then ?_
  refine qx_then ?_
  refine qx_same ?_
  refine qn_then ?_
  refine cs_seq ?_
  refine cs_region (l:=[_]) ?_
  refine lv (.bool true) ?_
  refine ls_end ?_
  refine qn_then ?_
  refine cs_ret' ?_
  obtain rfl := Option.some.inj H
  refine qr_res (rs:=[_]) rfl (fun w' hs=>⟨[.bool true],(res_tmp (by kernel_rfl) (.nil)),(),rfl,hs.pick (ts:=[]) (cs:=[]) trivial (by decide)⟩)
 rintro f S ⟨fr4,rfl,rfl,H⟩
 replace H:((if 0≤x3_3 then (if x3_3<(a0.2.1.length:Int) then lt ((((a0.2.1).getD (x3_3).toNat ([]:List Int)).length:Int)) fun y41=>(if y41 > (160:Int) then some false else (if x3_3 > (0:Int) then (if 0≤IntKind.wrap .i64 (x3_3 - (1:Int)) then (if IntKind.wrap .i64 (x3_3 - (1:Int))<(a0.2.1.length:Int) then lt (strOfNums ((a0.2.1).getD (IntKind.wrap .i64 (x3_3 - (1:Int))).toNat ([]:List Int))) fun y53=>lt (strOfNums ((a0.2.1).getD (x3_3).toNat ([]:List Int))) fun y61=>(if (Op.bytesLess y53.toList y61.toList)=true then (shadowboxref16_shape.jo5 a0 x3_3 k3 (shadowboxref16_shape.lo3 a0 k3)) else some false) else none) else none) else (shadowboxref16_shape.jo5 a0 x3_3 k3 (shadowboxref16_shape.lo3 a0 k3)))) else none) else none))=some r := H
 refine cs_seq ?_
 refine cs_block ?_
 refine cs_cut (fun f S=>∃ (fR:Fr),f=upd (upd fR 1 (.pointer (some ⟨g1,0,none⟩))) 3 (.int .i64 x3_3)∧S=sput s0 0 (some (Ck.var 32 g1 (([Value.int .i64 a0.1]++([Value.slice A0_1 a0.2.1.length c0_1]++([Value.slice A0_2 a0.2.2.1.length c0_2]++[Value.slice A0_3 a0.2.2.2.length c0_3]))))))∧shadowboxref16_shape.jo5 a0 x3_3 k3 (shadowboxref16_shape.lo3 a0 k3)=some r) ?_ ?_
 ·skip
  refine cs_seq ?_
  obtain ⟨s32_0,hs32_0⟩ := exv (.pointer (some ⟨g1,(0+1),none⟩))
  refine have_opa shadowboxref16_shape.tab30 1 0 (fun sp=>sp 0=s32_0) (fun sp on hA hon=>?_) (fun ops32_0=>?_)
  ·refine ⟨fun o ho vs Rs f' S' w hp hf hx hS hR hs=>?_⟩
   obtain rfl := Option.some.inj ho
   exact opv (.pointer (some ⟨g1,(0+1),none⟩)) hA hs32_0 hon (fr_next (rfl) ((hx 1 (by kernel_rfl)).trans (by kernel_rfl:(_:Value)=.pointer (some ⟨g1,0,none⟩))))
  obtain ⟨s32_1,hs32_1⟩ := exv (.slice A0_1 a0.2.1.length c0_1)
  refine have_opa shadowboxref16_shape.tab30 1 1 (fun sp=>sp 1=s32_1∧sp 0=s32_0) (fun sp on hA hon=>?_) (fun ops32_1=>?_)
  ·refine ⟨fun o ho vs Rs f' S' w hp hf hx hS hR hs=>?_⟩
   obtain rfl := Option.some.inj ho
   obtain ⟨hv0,hR0⟩ := (spe hA.2 hs32_0 (hp 0 (by kernel_rfl)))
   rw [hA.1,hs32_1]
   refine wn hon ?_
   have hF := fr_next (rfl) ((hf 0 69 (by kernel_rfl) rfl).trans hv0)
   refine ls_fr hF ?_
   refine ls_load (a0:=⟨g1,(0+1),none⟩) (v:=.slice A0_1 a0.2.1.length c0_1) (de:=(TypeDesc.slice 23)) rfl rfl (by kernel_rfl) rfl (by kernel_rfl) (by kernel_rfl) (by kernel_rfl) (fun w1 hs1=>cell_step hs1.below.bw (hs.var (k:=0) ((hS 0 (by kernel_rfl)).trans (by exact rfl)) (Sub4.trans (Sub4.all _) (Sub4.skip (n:=1) (len1 _) (Sub4.head _ _))))) ?_
   exact ls_fin s0 _ (congrArg (fun z=>upd z 70 _) hF.symm) ⟨rfl,rfl⟩ (sub_nil _)
  obtain ⟨s32_2,hs32_2⟩ := exv (.int .i64 x3_3)
  refine have_opa shadowboxref16_shape.tab30 1 2 (fun sp=>sp 2=s32_2) (fun sp on hA hon=>?_) (fun ops32_2=>?_)
  ·refine ⟨fun o ho vs Rs f' S' w hp hf hx hS hR hs=>?_⟩
   obtain rfl := Option.some.inj ho
   exact opv (.int .i64 x3_3) hA hs32_2 hon (fr_next (rfl) ((hx 3 (by kernel_rfl)).trans (by kernel_rfl:(_:Value)=.int .i64 x3_3)))
  obtain ⟨q33,H⟩ := ite_need H
  obtain ⟨q34,H⟩ := ite_need H
  obtain ⟨ad35,hA36⟩ := idoS_at (l:=a0.2.1) (i:=x3_3) R0_1 q33 q34
  obtain ⟨s32_3,hs32_3⟩ := exv (.pointer (some (ad35.add ((x3_3).toNat*1))))
  refine have_opa shadowboxref16_shape.tab30 1 3 (fun sp=>sp 3=s32_3∧sp 1=s32_1∧sp 2=s32_2) (fun sp on hA hon=>?_) (fun ops32_3=>?_)
  ·refine ⟨fun o ho vs Rs f' S' w hp hf hx hS hR hs=>?_⟩
   obtain rfl := Option.some.inj ho
   obtain ⟨hv1,hR1⟩ := (spe hA.2.1 hs32_1 (hp 1 (by kernel_rfl)))
   obtain ⟨hv2,hR2⟩ := (spe hA.2.2 hs32_2 (hp 2 (by kernel_rfl)))
   rw [hA.1,hs32_3]
   refine wn hon ?_
   have hF := fr_next (fr_next (rfl) ((hf 1 70 (by kernel_rfl) rfl).trans hv1)) ((hf 2 71 (by kernel_rfl) rfl).trans hv2)
   refine ls_fr hF ?_
   refine ls_idxv (Ec.sld 23 Int) (A:=A0_1) (c:=c0_1) (l:=a0.2.1) (k:=.i64) (i:=x3_3) (z:=1) (ad:=ad35) rfl rfl (by kernel_rfl) hA36 rfl (by kernel_rfl) (by kernel_rfl) (by kernel_rfl) (by kernel_rfl) q33 q34 ?_
   exact ls_fin s0 _ (congrArg (fun z=>upd z 72 _) hF.symm) ⟨rfl,rfl⟩ (sub_nil _)
  obtain ⟨xq37,hq38,xR39,xC40⟩ := RoS.el (l:=a0.2.1) R0_1 hA36 (i:=x3_3) q33 q34
  obtain ⟨s32_4,hs32_4⟩ := exv (.slice xq37.1 ((a0.2.1).getD (x3_3).toNat ([]:List Int)).length xq37.2)
  refine have_opa shadowboxref16_shape.tab30 1 4 (fun sp=>sp 4=s32_4∧sp 3=s32_3) (fun sp on hA hon=>?_) (fun ops32_4=>?_)
  ·refine ⟨fun o ho vs Rs f' S' w hp hf hx hS hR hs=>?_⟩
   obtain rfl := Option.some.inj ho
   obtain ⟨hv3,hR3⟩ := (spe hA.2 hs32_3 (hp 3 (by kernel_rfl)))
   rw [hA.1,hs32_4]
   refine wn hon ?_
   have hF := fr_next (rfl) ((hf 3 72 (by kernel_rfl) rfl).trans hv3)
   refine ls_fr hF ?_
   refine ls_load (a0:=(ad35.add ((x3_3).toNat*1))) (v:=.slice xq37.1 ((a0.2.1).getD (x3_3).toNat ([]:List Int)).length xq37.2) (de:=(TypeDesc.slice 5)) rfl rfl (by kernel_rfl) rfl (by kernel_rfl) (by kernel_rfl) (by kernel_rfl) (fun w1 hs1=>(Rd.step (hs.old hq38) hs1.below.bw).cell0) ?_
   exact ls_fin s0 _ (congrArg (fun z=>upd z 73 _) hF.symm) ⟨rfl,rfl⟩ (sub_nil _)
  obtain ⟨y41,hy42,H⟩ := lt_some H
  obtain ⟨s32_5,hs32_5⟩ := exv (.int .i64 y41)
  refine have_opa shadowboxref16_shape.tab30 1 5 (fun sp=>sp 5=s32_5∧sp 4=s32_4) (fun sp on hA hon=>?_) (fun ops32_5=>?_)
  ·refine ⟨fun o ho vs Rs f' S' w hp hf hx hS hR hs=>?_⟩
   obtain rfl := Option.some.inj ho
   obtain ⟨hv4,hR4⟩ := (spe hA.2 hs32_4 (hp 4 (by kernel_rfl)))
   rw [hA.1,hs32_5]
   refine wn hon ?_
   have hF := fr_next (rfl) ((hf 4 73 (by kernel_rfl) rfl).trans hv4)
   refine ls_fr hF ?_
   refine lv (.int .i64 (((a0.2.1).getD (x3_3).toNat ([]:List Int)).length:Int)) ?_
   refine ls_ren 74 (v:=.int .i64 (((a0.2.1).getD (x3_3).toNat ([]:List Int)).length:Int)) (v' := .int .i64 y41) (by kernel_rfl) (by rw [hy42]) ?_
   exact ls_fin s0 _ ((upd_upd _ _ _ _).trans (congrArg (fun z=>upd z 74 _) hF.symm)) ⟨rfl,rfl⟩ (sub_nil _)
  obtain ⟨s32_6,hs32_6⟩ := exv (.bool (decide (y41 > (160:Int))))
  refine have_opa shadowboxref16_shape.tab30 1 6 (fun sp=>sp 6=s32_6∧sp 5=s32_5) (fun sp on hA hon=>?_) (fun ops32_6=>?_)
  ·refine ⟨fun o ho vs Rs f' S' w hp hf hx hS hR hs=>?_⟩
   obtain rfl := Option.some.inj ho
   obtain ⟨hv5,hR5⟩ := (spe hA.2 hs32_5 (hp 5 (by kernel_rfl)))
   exact opv (.bool (decide (y41 > (160:Int)))) hA.1 hs32_6 hon (fr_next (rfl) ((hf 5 74 (by kernel_rfl) rfl).trans hv5))
  obtain ⟨s32_7,hs32_7⟩ := exv (.bool (decide (y41 > (160:Int))))
  refine have_opa shadowboxref16_shape.tab30 1 7 (fun sp=>sp 7=s32_7∧sp 6=s32_6) (fun sp on hA hon=>?_) (fun ops32_7=>?_)
  ·refine ⟨fun o ho vs Rs f' S' w hp hf hx hS hR hs=>?_⟩
   obtain rfl := Option.some.inj ho
   obtain ⟨hv6,hR6⟩ := (spe hA.2 hs32_6 (hp 6 (by kernel_rfl)))
   exact opv (.bool (decide (y41 > (160:Int)))) hA.1 hs32_7 hon (fr_next (rfl) ((hf 6 75 (by kernel_rfl) rfl).trans hv6))
  by_cases q43:y41 > (160:Int)
  ·replace H := ite_t q43 H
   refine cs_draw shadowboxref16_shape.tab30 24 1 (spl [s32_0,s32_1,s32_2,s32_3,s32_4,s32_5,s32_6,s32_7,spu,spu,spu,spu,spu,spu,spu,spu,spu,spu,spu,spu,spu,spu,spu,spu]) (onl [true,true,true,true,true,true,true,true,false,false,false,false,false,false,false,false,false,false,false,false,false,false,false,false]) (by kernel_rfl) (by kernel_rfl) (by kernel_rfl) (by kernel_rfl) (rs:=[_,_,_]) rfl (by kernel_rfl) (by kernel_rfl) (all_snoc (all_snoc (all_snoc (all_snoc (all_snoc (all_snoc (all_snoc (all_snoc (all_snoc (all_snoc (all_snoc (all_snoc (all_snoc (all_snoc (all_snoc (all_snoc (all_snoc (all_snoc (all_snoc (all_snoc (all_snoc (all_snoc (all_snoc (all_snoc (all_nil) (ops32_0 _ _ rfl rfl)) (ops32_1 _ _ ⟨rfl,rfl⟩ rfl)) (ops32_2 _ _ rfl rfl)) (ops32_3 _ _ ⟨rfl,rfl,rfl⟩ rfl)) (ops32_4 _ _ ⟨rfl,rfl⟩ rfl)) (ops32_5 _ _ ⟨rfl,rfl⟩ rfl)) (ops32_6 _ _ ⟨rfl,rfl⟩ rfl)) (ops32_7 _ _ ⟨rfl,rfl⟩ rfl)) (op_offi 8 7 76 false rfl rfl (by kernel_rfl) (by kernel_rfl) rfl (fun v R h=>by rw [hs32_7] at h; obtain ⟨h,_⟩ := h; exact h.trans (congrArg Value.bool (show (decide (y41 > (160:Int)))=true from dec_t q43))) rfl rfl)) (op_offi 9 7 76 false rfl rfl (by kernel_rfl) (by kernel_rfl) rfl (fun v R h=>by rw [hs32_7] at h; obtain ⟨h,_⟩ := h; exact h.trans (congrArg Value.bool (show (decide (y41 > (160:Int)))=true from dec_t q43))) rfl rfl)) (op_offi 10 7 76 false rfl rfl (by kernel_rfl) (by kernel_rfl) rfl (fun v R h=>by rw [hs32_7] at h; obtain ⟨h,_⟩ := h; exact h.trans (congrArg Value.bool (show (decide (y41 > (160:Int)))=true from dec_t q43))) rfl rfl)) (op_offu 11 10 79 true rfl rfl (by kernel_rfl) (by kernel_rfl) rfl rfl rfl)) (op_offu 12 10 79 true rfl rfl (by kernel_rfl) (by kernel_rfl) rfl rfl rfl)) (op_offu 13 10 79 true rfl rfl (by kernel_rfl) (by kernel_rfl) rfl rfl rfl)) (op_offu 14 10 79 true rfl rfl (by kernel_rfl) (by kernel_rfl) rfl rfl rfl)) (op_offu 15 10 79 true rfl rfl (by kernel_rfl) (by kernel_rfl) rfl rfl rfl)) (op_offu 16 10 79 true rfl rfl (by kernel_rfl) (by kernel_rfl) rfl rfl rfl)) (op_offu 17 10 79 true rfl rfl (by kernel_rfl) (by kernel_rfl) rfl rfl rfl)) (op_offu 18 10 79 true rfl rfl (by kernel_rfl) (by kernel_rfl) rfl rfl rfl)) (op_offu 19 10 79 true rfl rfl (by kernel_rfl) (by kernel_rfl) rfl rfl rfl)) (op_offu 20 10 79 true rfl rfl (by kernel_rfl) (by kernel_rfl) rfl rfl rfl)) (op_offu 21 10 79 true rfl rfl (by kernel_rfl) (by kernel_rfl) rfl rfl rfl)) (op_offu 22 10 79 true rfl rfl (by kernel_rfl) (by kernel_rfl) rfl rfl rfl)) (op_offu 23 10 79 true rfl rfl (by kernel_rfl) (by kernel_rfl) rfl rfl rfl)) ?_
   intro vs Rs f' S' hp hf hx hS hR
   obtain ⟨hv7,hR7⟩ := (spe rfl hs32_7 (hp 7 (by kernel_rfl)))
   obtain ⟨hv10,hR10⟩ := (spe rfl rfl (hp 10 (by kernel_rfl)):spu _ _)
   obtain ⟨hv17,hR17⟩ := (spe rfl rfl (hp 17 (by kernel_rfl)):spu _ _)
   obtain ⟨hv23,hR23⟩ := (spe rfl rfl (hp 23 (by kernel_rfl)):spu _ _)
   refine ls_fr (F:=upd (upd (upd (upd f' 1 (.pointer (some ⟨g1,0,none⟩))) 3 (.int .i64 x3_3)) 76 (.bool (decide (y41 > (160:Int))))) 79 undef) (fr_next (fr_next (fr_next (fr_next (rfl) ((hx 1 (by kernel_rfl)).trans (by kernel_rfl:(_:Value)=.pointer (some ⟨g1,0,none⟩)))) ((hx 3 (by kernel_rfl)).trans (by kernel_rfl:(_:Value)=.int .i64 x3_3))) ((hf 7 76 (by kernel_rfl) rfl).trans hv7)) ((hf 10 79 (by kernel_rfl) rfl).trans hv10)) ?_
   refine ls_sub (sput s0 0 (some (Ck.var 32 g1 (([Value.int .i64 a0.1]++([Value.slice A0_1 a0.2.1.length c0_1]++([Value.slice A0_2 a0.2.2.1.length c0_2]++[Value.slice A0_3 a0.2.2.2.length c0_3]))))))) (sub_put ((hS 0 (by kernel_rfl)).trans (by exact rfl)) (sub_nil _)) ?_
   refine ls_offu (j:=10) (t:=79) (b:=true) rfl rfl (by kernel_rfl) (by kernel_rfl) rfl (by kernel_rfl) ?_
   refine ls_know (c:=true) (dec_t q43) 76 (by kernel_rfl) ?_
   refine lofx 7 76 false true ?_
   refine lv (.bool true) ?_
   refine ls_end ?_
   refine qn_then ?_
   refine cs_true (by kernel_rfl) ?_
   refine cs_seq ?_
   refine cs_region (l:=[_]) ?_
   refine lv (.bool false) ?_
   refine ls_end ?_
   refine qn_then ?_
   refine cs_ret' ?_
   refine qr_then ?_
   refine qr_block ?_
   refine qr_then ?_
   refine qr_then ?_
   refine qr_block ?_
   refine qr_then ?_
   obtain rfl := Option.some.inj H
   refine qr_res (rs:=[_]) rfl (fun w' hs=>⟨[.bool false],(res_tmp (by kernel_rfl) (.nil)),(),rfl,hs.pick (ts:=[]) (cs:=[]) trivial (by decide)⟩)
  replace H := ite_f q43 H
  obtain ⟨s32_8,hs32_8⟩ := exv (.int .i64 x3_3)
  refine have_opa shadowboxref16_shape.tab30 1 8 (fun sp=>sp 8=s32_8∧sp 7=s32_7) (fun sp on hA hon=>?_) (fun ops32_8=>?_)
  ·refine ⟨fun o ho vs Rs f' S' w hp hf hx hS hR hs=>?_⟩
   obtain rfl := Option.some.inj ho
   obtain ⟨hv7,hR7⟩ := (spe hA.2 hs32_7 (hp 7 (by kernel_rfl)))
   rw [hA.1,hs32_8]
   refine And.intro (fun a ha=>(want_is (j:=7) (t:=76) (r:=true) rfl rfl (by kernel_rfl) (((hf 7 76 (by kernel_rfl) rfl).trans hv7).trans (congrArg Value.bool (show (decide (y41 > (160:Int)))=false from dec_f q43))) rfl a ha).trans hon.symm) (And.intro (fun _=>?_) (fun h=>by rw [hon] at h; cases h))
   have hF := fr_next (fr_next (rfl) ((hx 3 (by kernel_rfl)).trans (by kernel_rfl:(_:Value)=.int .i64 x3_3))) (((hf 7 76 (by kernel_rfl) rfl).trans hv7).trans (congrArg Value.bool (show (decide (y41 > (160:Int)))=false from dec_f q43)))
   refine ls_fr hF ?_
   refine lv (.int .i64 x3_3) ?_
   exact ls_fin s0 _ (congrArg (fun z=>upd z 77 _) hF.symm) ⟨rfl,rfl⟩ (sub_nil _)
  obtain ⟨s32_9,hs32_9⟩ := exv (.bool (decide (x3_3 > (0:Int))))
  refine have_opa shadowboxref16_shape.tab30 1 9 (fun sp=>sp 9=s32_9∧sp 7=s32_7∧sp 8=s32_8) (fun sp on hA hon=>?_) (fun ops32_9=>?_)
  ·refine ⟨fun o ho vs Rs f' S' w hp hf hx hS hR hs=>?_⟩
   obtain rfl := Option.some.inj ho
   obtain ⟨hv7,hR7⟩ := (spe hA.2.1 hs32_7 (hp 7 (by kernel_rfl)))
   obtain ⟨hv8,hR8⟩ := (spe hA.2.2 hs32_8 (hp 8 (by kernel_rfl)))
   rw [hA.1,hs32_9]
   refine And.intro (fun a ha=>(want_is (j:=7) (t:=76) (r:=true) rfl rfl (by kernel_rfl) (((hf 7 76 (by kernel_rfl) rfl).trans hv7).trans (congrArg Value.bool (show (decide (y41 > (160:Int)))=false from dec_f q43))) rfl a ha).trans hon.symm) (And.intro (fun _=>?_) (fun h=>by rw [hon] at h; cases h))
   have hF := fr_next (fr_next (rfl) (((hf 7 76 (by kernel_rfl) rfl).trans hv7).trans (congrArg Value.bool (show (decide (y41 > (160:Int)))=false from dec_f q43)))) ((hf 8 77 (by kernel_rfl) rfl).trans hv8)
   refine ls_fr hF ?_
   refine lv (.bool (decide (x3_3 > (0:Int)))) ?_
   exact ls_fin s0 _ (congrArg (fun z=>upd z 78 _) hF.symm) ⟨rfl,rfl⟩ (sub_nil _)
  obtain ⟨s32_10,hs32_10⟩ := exv (.bool (decide (x3_3 > (0:Int))))
  refine have_opa shadowboxref16_shape.tab30 1 10 (fun sp=>sp 10=s32_10∧sp 7=s32_7∧sp 9=s32_9) (fun sp on hA hon=>?_) (fun ops32_10=>?_)
  ·refine ⟨fun o ho vs Rs f' S' w hp hf hx hS hR hs=>?_⟩
   obtain rfl := Option.some.inj ho
   obtain ⟨hv7,hR7⟩ := (spe hA.2.1 hs32_7 (hp 7 (by kernel_rfl)))
   obtain ⟨hv9,hR9⟩ := (spe hA.2.2 hs32_9 (hp 9 (by kernel_rfl)))
   rw [hA.1,hs32_10]
   refine And.intro (fun a ha=>(want_is (j:=7) (t:=76) (r:=true) rfl rfl (by kernel_rfl) (((hf 7 76 (by kernel_rfl) rfl).trans hv7).trans (congrArg Value.bool (show (decide (y41 > (160:Int)))=false from dec_f q43))) rfl a ha).trans hon.symm) (And.intro (fun _=>?_) (fun h=>by rw [hon] at h; cases h))
   have hF := fr_next (fr_next (rfl) (((hf 7 76 (by kernel_rfl) rfl).trans hv7).trans (congrArg Value.bool (show (decide (y41 > (160:Int)))=false from dec_f q43)))) ((hf 9 78 (by kernel_rfl) rfl).trans hv9)
   refine ls_fr hF ?_
   refine lv (.bool (decide (x3_3 > (0:Int)))) ?_
   exact ls_fin s0 _ (congrArg (fun z=>upd z 79 _) hF.symm) ⟨rfl,rfl⟩ (sub_nil _)
  by_cases q44:x3_3 > (0:Int)
  ·replace H := ite_t q44 H
   obtain ⟨s32_11,hs32_11⟩ := exv (.pointer (some ⟨g1,(0+1),none⟩))
   refine have_opa shadowboxref16_shape.tab30 1 11 (fun sp=>sp 11=s32_11∧sp 10=s32_10) (fun sp on hA hon=>?_) (fun ops32_11=>?_)
   ·refine ⟨fun o ho vs Rs f' S' w hp hf hx hS hR hs=>?_⟩
    obtain rfl := Option.some.inj ho
    obtain ⟨hv10,hR10⟩ := (spe hA.2 hs32_10 (hp 10 (by kernel_rfl)))
    rw [hA.1,hs32_11]
    refine And.intro (fun a ha=>(want_is (j:=10) (t:=79) (r:=true) rfl rfl (by kernel_rfl) (((hf 10 79 (by kernel_rfl) rfl).trans hv10).trans (congrArg Value.bool (show (decide (x3_3 > (0:Int)))=true from dec_t q44))) rfl a ha).trans hon.symm) (And.intro (fun _=>?_) (fun h=>by rw [hon] at h; cases h))
    have hF := fr_next (fr_next (rfl) ((hx 1 (by kernel_rfl)).trans (by kernel_rfl:(_:Value)=.pointer (some ⟨g1,0,none⟩)))) (((hf 10 79 (by kernel_rfl) rfl).trans hv10).trans (congrArg Value.bool (show (decide (x3_3 > (0:Int)))=true from dec_t q44)))
    refine ls_fr hF ?_
    refine lv (.pointer (some ⟨g1,(0+1),none⟩)) ?_
    exact ls_fin s0 _ (congrArg (fun z=>upd z 80 _) hF.symm) ⟨rfl,rfl⟩ (sub_nil _)
   obtain ⟨s32_12,hs32_12⟩ := exv (.slice A0_1 a0.2.1.length c0_1)
   refine have_opa shadowboxref16_shape.tab30 1 12 (fun sp=>sp 12=s32_12∧sp 10=s32_10∧sp 11=s32_11) (fun sp on hA hon=>?_) (fun ops32_12=>?_)
   ·refine ⟨fun o ho vs Rs f' S' w hp hf hx hS hR hs=>?_⟩
    obtain rfl := Option.some.inj ho
    obtain ⟨hv10,hR10⟩ := (spe hA.2.1 hs32_10 (hp 10 (by kernel_rfl)))
    obtain ⟨hv11,hR11⟩ := (spe hA.2.2 hs32_11 (hp 11 (by kernel_rfl)))
    rw [hA.1,hs32_12]
    refine And.intro (fun a ha=>(want_is (j:=10) (t:=79) (r:=true) rfl rfl (by kernel_rfl) (((hf 10 79 (by kernel_rfl) rfl).trans hv10).trans (congrArg Value.bool (show (decide (x3_3 > (0:Int)))=true from dec_t q44))) rfl a ha).trans hon.symm) (And.intro (fun _=>?_) (fun h=>by rw [hon] at h; cases h))
    have hF := fr_next (fr_next (rfl) (((hf 10 79 (by kernel_rfl) rfl).trans hv10).trans (congrArg Value.bool (show (decide (x3_3 > (0:Int)))=true from dec_t q44)))) ((hf 11 80 (by kernel_rfl) rfl).trans hv11)
    refine ls_fr hF ?_
    refine ls_load (a0:=⟨g1,(0+1),none⟩) (v:=.slice A0_1 a0.2.1.length c0_1) (de:=(TypeDesc.slice 23)) rfl rfl (by kernel_rfl) rfl (by kernel_rfl) (by kernel_rfl) (by kernel_rfl) (fun w1 hs1=>cell_step hs1.below.bw (hs.var (k:=0) ((hS 0 (by kernel_rfl)).trans (by exact rfl)) (Sub4.trans (Sub4.all _) (Sub4.skip (n:=1) (len1 _) (Sub4.head _ _))))) ?_
    exact ls_fin s0 _ (congrArg (fun z=>upd z 81 _) hF.symm) ⟨rfl,rfl⟩ (sub_nil _)
   obtain ⟨s32_13,hs32_13⟩ := exv (.int .i64 x3_3)
   refine have_opa shadowboxref16_shape.tab30 1 13 (fun sp=>sp 13=s32_13∧sp 10=s32_10) (fun sp on hA hon=>?_) (fun ops32_13=>?_)
   ·refine ⟨fun o ho vs Rs f' S' w hp hf hx hS hR hs=>?_⟩
    obtain rfl := Option.some.inj ho
    obtain ⟨hv10,hR10⟩ := (spe hA.2 hs32_10 (hp 10 (by kernel_rfl)))
    rw [hA.1,hs32_13]
    refine And.intro (fun a ha=>(want_is (j:=10) (t:=79) (r:=true) rfl rfl (by kernel_rfl) (((hf 10 79 (by kernel_rfl) rfl).trans hv10).trans (congrArg Value.bool (show (decide (x3_3 > (0:Int)))=true from dec_t q44))) rfl a ha).trans hon.symm) (And.intro (fun _=>?_) (fun h=>by rw [hon] at h; cases h))
    have hF := fr_next (fr_next (rfl) ((hx 3 (by kernel_rfl)).trans (by kernel_rfl:(_:Value)=.int .i64 x3_3))) (((hf 10 79 (by kernel_rfl) rfl).trans hv10).trans (congrArg Value.bool (show (decide (x3_3 > (0:Int)))=true from dec_t q44)))
    refine ls_fr hF ?_
    refine lv (.int .i64 x3_3) ?_
    exact ls_fin s0 _ (congrArg (fun z=>upd z 82 _) hF.symm) ⟨rfl,rfl⟩ (sub_nil _)
   obtain ⟨s32_14,hs32_14⟩ := exv (.int .i64 (IntKind.wrap .i64 (x3_3 - (1:Int))))
   refine have_opa shadowboxref16_shape.tab30 1 14 (fun sp=>sp 14=s32_14∧sp 10=s32_10∧sp 13=s32_13) (fun sp on hA hon=>?_) (fun ops32_14=>?_)
   ·refine ⟨fun o ho vs Rs f' S' w hp hf hx hS hR hs=>?_⟩
    obtain rfl := Option.some.inj ho
    obtain ⟨hv10,hR10⟩ := (spe hA.2.1 hs32_10 (hp 10 (by kernel_rfl)))
    obtain ⟨hv13,hR13⟩ := (spe hA.2.2 hs32_13 (hp 13 (by kernel_rfl)))
    rw [hA.1,hs32_14]
    refine And.intro (fun a ha=>(want_is (j:=10) (t:=79) (r:=true) rfl rfl (by kernel_rfl) (((hf 10 79 (by kernel_rfl) rfl).trans hv10).trans (congrArg Value.bool (show (decide (x3_3 > (0:Int)))=true from dec_t q44))) rfl a ha).trans hon.symm) (And.intro (fun _=>?_) (fun h=>by rw [hon] at h; cases h))
    have hF := fr_next (fr_next (rfl) (((hf 10 79 (by kernel_rfl) rfl).trans hv10).trans (congrArg Value.bool (show (decide (x3_3 > (0:Int)))=true from dec_t q44)))) ((hf 13 82 (by kernel_rfl) rfl).trans hv13)
    refine ls_fr hF ?_
    refine lv (.int .i64 (IntKind.wrap .i64 (x3_3 - (1:Int)))) ?_
    exact ls_fin s0 _ (congrArg (fun z=>upd z 83 _) hF.symm) ⟨rfl,rfl⟩ (sub_nil _)
   obtain ⟨q45,H⟩ := ite_need H
   obtain ⟨q46,H⟩ := ite_need H
   obtain ⟨ad47,hA48⟩ := idoS_at (l:=a0.2.1) (i:=IntKind.wrap .i64 (x3_3 - (1:Int))) R0_1 q45 q46
   obtain ⟨s32_15,hs32_15⟩ := exv (.pointer (some (ad47.add ((IntKind.wrap .i64 (x3_3 - (1:Int))).toNat*1))))
   refine have_opa shadowboxref16_shape.tab30 1 15 (fun sp=>sp 15=s32_15∧sp 10=s32_10∧sp 12=s32_12∧sp 14=s32_14) (fun sp on hA hon=>?_) (fun ops32_15=>?_)
   ·refine ⟨fun o ho vs Rs f' S' w hp hf hx hS hR hs=>?_⟩
    obtain rfl := Option.some.inj ho
    obtain ⟨hv10,hR10⟩ := (spe hA.2.1 hs32_10 (hp 10 (by kernel_rfl)))
    obtain ⟨hv12,hR12⟩ := (spe hA.2.2.1 hs32_12 (hp 12 (by kernel_rfl)))
    obtain ⟨hv14,hR14⟩ := (spe hA.2.2.2 hs32_14 (hp 14 (by kernel_rfl)))
    rw [hA.1,hs32_15]
    refine And.intro (fun a ha=>(want_is (j:=10) (t:=79) (r:=true) rfl rfl (by kernel_rfl) (((hf 10 79 (by kernel_rfl) rfl).trans hv10).trans (congrArg Value.bool (show (decide (x3_3 > (0:Int)))=true from dec_t q44))) rfl a ha).trans hon.symm) (And.intro (fun _=>?_) (fun h=>by rw [hon] at h; cases h))
    have hF := fr_next (fr_next (fr_next (rfl) (((hf 10 79 (by kernel_rfl) rfl).trans hv10).trans (congrArg Value.bool (show (decide (x3_3 > (0:Int)))=true from dec_t q44)))) ((hf 12 81 (by kernel_rfl) rfl).trans hv12)) ((hf 14 83 (by kernel_rfl) rfl).trans hv14)
    refine ls_fr hF ?_
    refine ls_idxv (Ec.sld 23 Int) (A:=A0_1) (c:=c0_1) (l:=a0.2.1) (k:=.i64) (i:=IntKind.wrap .i64 (x3_3 - (1:Int))) (z:=1) (ad:=ad47) rfl rfl (by kernel_rfl) hA48 rfl (by kernel_rfl) (by kernel_rfl) (by kernel_rfl) (by kernel_rfl) q45 q46 ?_
    exact ls_fin s0 _ (congrArg (fun z=>upd z 84 _) hF.symm) ⟨rfl,rfl⟩ (sub_nil _)
   obtain ⟨xq49,hq50,xR51,xC52⟩ := RoS.el (l:=a0.2.1) R0_1 hA48 (i:=IntKind.wrap .i64 (x3_3 - (1:Int))) q45 q46
   obtain ⟨s32_16,hs32_16⟩ := exv (.slice xq49.1 ((a0.2.1).getD (IntKind.wrap .i64 (x3_3 - (1:Int))).toNat ([]:List Int)).length xq49.2)
   refine have_opa shadowboxref16_shape.tab30 1 16 (fun sp=>sp 16=s32_16∧sp 10=s32_10∧sp 15=s32_15) (fun sp on hA hon=>?_) (fun ops32_16=>?_)
   ·refine ⟨fun o ho vs Rs f' S' w hp hf hx hS hR hs=>?_⟩
    obtain rfl := Option.some.inj ho
    obtain ⟨hv10,hR10⟩ := (spe hA.2.1 hs32_10 (hp 10 (by kernel_rfl)))
    obtain ⟨hv15,hR15⟩ := (spe hA.2.2 hs32_15 (hp 15 (by kernel_rfl)))
    rw [hA.1,hs32_16]
    refine And.intro (fun a ha=>(want_is (j:=10) (t:=79) (r:=true) rfl rfl (by kernel_rfl) (((hf 10 79 (by kernel_rfl) rfl).trans hv10).trans (congrArg Value.bool (show (decide (x3_3 > (0:Int)))=true from dec_t q44))) rfl a ha).trans hon.symm) (And.intro (fun _=>?_) (fun h=>by rw [hon] at h; cases h))
    have hF := fr_next (fr_next (rfl) (((hf 10 79 (by kernel_rfl) rfl).trans hv10).trans (congrArg Value.bool (show (decide (x3_3 > (0:Int)))=true from dec_t q44)))) ((hf 15 84 (by kernel_rfl) rfl).trans hv15)
    refine ls_fr hF ?_
    refine ls_load (a0:=(ad47.add ((IntKind.wrap .i64 (x3_3 - (1:Int))).toNat*1))) (v:=.slice xq49.1 ((a0.2.1).getD (IntKind.wrap .i64 (x3_3 - (1:Int))).toNat ([]:List Int)).length xq49.2) (de:=(TypeDesc.slice 5)) rfl rfl (by kernel_rfl) rfl (by kernel_rfl) (by kernel_rfl) (by kernel_rfl) (fun w1 hs1=>(Rd.step (hs.old hq50) hs1.below.bw).cell0) ?_
    exact ls_fin s0 _ (congrArg (fun z=>upd z 85 _) hF.symm) ⟨rfl,rfl⟩ (sub_nil _)
   obtain ⟨y53,hy54,H⟩ := lt_some H
   obtain ⟨s32_17,hs32_17⟩ := exv (.string y53)
   refine have_opa shadowboxref16_shape.tab30 1 17 (fun sp=>sp 17=s32_17∧sp 10=s32_10∧sp 16=s32_16) (fun sp on hA hon=>?_) (fun ops32_17=>?_)
   ·refine ⟨fun o ho vs Rs f' S' w hp hf hx hS hR hs=>?_⟩
    obtain rfl := Option.some.inj ho
    obtain ⟨hv10,hR10⟩ := (spe hA.2.1 hs32_10 (hp 10 (by kernel_rfl)))
    obtain ⟨hv16,hR16⟩ := (spe hA.2.2 hs32_16 (hp 16 (by kernel_rfl)))
    rw [hA.1,hs32_17]
    refine And.intro (fun a ha=>(want_is (j:=10) (t:=79) (r:=true) rfl rfl (by kernel_rfl) (((hf 10 79 (by kernel_rfl) rfl).trans hv10).trans (congrArg Value.bool (show (decide (x3_3 > (0:Int)))=true from dec_t q44))) rfl a ha).trans hon.symm) (And.intro (fun _=>?_) (fun h=>by rw [hon] at h; cases h))
    have hF := fr_next (fr_next (rfl) (((hf 10 79 (by kernel_rfl) rfl).trans hv10).trans (congrArg Value.bool (show (decide (x3_3 > (0:Int)))=true from dec_t q44)))) ((hf 16 85 (by kernel_rfl) rfl).trans hv16)
    refine ls_fr hF ?_
    refine ls_str (A:=xq49.1) (c:=xq49.2) (e:=5) (l:=((a0.2.1).getD (IntKind.wrap .i64 (x3_3 - (1:Int))).toNat ([]:List Int))) rfl rfl (by kernel_rfl) rfl (by kernel_rfl) (by kernel_rfl) (by kernel_rfl) (by kernel_rfl) (fun w1 hs1=>(Rd.step (hs.old xR51) hs1.below.bw)) ?_
    refine ls_ren 86 (v:=.string (strOfNums ((a0.2.1).getD (IntKind.wrap .i64 (x3_3 - (1:Int))).toNat ([]:List Int)))) (v' := .string y53) (by kernel_rfl) (by rw [hy54]) ?_
    exact ls_fin s0 _ ((upd_upd _ _ _ _).trans (congrArg (fun z=>upd z 86 _) hF.symm)) ⟨rfl,rfl⟩ (sub_nil _)
   obtain ⟨s32_18,hs32_18⟩ := exv (.pointer (some ⟨g1,(0+1),none⟩))
   refine have_opa shadowboxref16_shape.tab30 1 18 (fun sp=>sp 18=s32_18∧sp 10=s32_10) (fun sp on hA hon=>?_) (fun ops32_18=>?_)
   ·refine ⟨fun o ho vs Rs f' S' w hp hf hx hS hR hs=>?_⟩
    obtain rfl := Option.some.inj ho
    obtain ⟨hv10,hR10⟩ := (spe hA.2 hs32_10 (hp 10 (by kernel_rfl)))
    rw [hA.1,hs32_18]
    refine And.intro (fun a ha=>(want_is (j:=10) (t:=79) (r:=true) rfl rfl (by kernel_rfl) (((hf 10 79 (by kernel_rfl) rfl).trans hv10).trans (congrArg Value.bool (show (decide (x3_3 > (0:Int)))=true from dec_t q44))) rfl a ha).trans hon.symm) (And.intro (fun _=>?_) (fun h=>by rw [hon] at h; cases h))
    have hF := fr_next (fr_next (rfl) ((hx 1 (by kernel_rfl)).trans (by kernel_rfl:(_:Value)=.pointer (some ⟨g1,0,none⟩)))) (((hf 10 79 (by kernel_rfl) rfl).trans hv10).trans (congrArg Value.bool (show (decide (x3_3 > (0:Int)))=true from dec_t q44)))
    refine ls_fr hF ?_
    refine lv (.pointer (some ⟨g1,(0+1),none⟩)) ?_
    exact ls_fin s0 _ (congrArg (fun z=>upd z 87 _) hF.symm) ⟨rfl,rfl⟩ (sub_nil _)
   obtain ⟨s32_19,hs32_19⟩ := exv (.slice A0_1 a0.2.1.length c0_1)
   refine have_opa shadowboxref16_shape.tab30 1 19 (fun sp=>sp 19=s32_19∧sp 10=s32_10∧sp 18=s32_18) (fun sp on hA hon=>?_) (fun ops32_19=>?_)
   ·refine ⟨fun o ho vs Rs f' S' w hp hf hx hS hR hs=>?_⟩
    obtain rfl := Option.some.inj ho
    obtain ⟨hv10,hR10⟩ := (spe hA.2.1 hs32_10 (hp 10 (by kernel_rfl)))
    obtain ⟨hv18,hR18⟩ := (spe hA.2.2 hs32_18 (hp 18 (by kernel_rfl)))
    rw [hA.1,hs32_19]
    refine And.intro (fun a ha=>(want_is (j:=10) (t:=79) (r:=true) rfl rfl (by kernel_rfl) (((hf 10 79 (by kernel_rfl) rfl).trans hv10).trans (congrArg Value.bool (show (decide (x3_3 > (0:Int)))=true from dec_t q44))) rfl a ha).trans hon.symm) (And.intro (fun _=>?_) (fun h=>by rw [hon] at h; cases h))
    have hF := fr_next (fr_next (rfl) (((hf 10 79 (by kernel_rfl) rfl).trans hv10).trans (congrArg Value.bool (show (decide (x3_3 > (0:Int)))=true from dec_t q44)))) ((hf 18 87 (by kernel_rfl) rfl).trans hv18)
    refine ls_fr hF ?_
    refine ls_load (a0:=⟨g1,(0+1),none⟩) (v:=.slice A0_1 a0.2.1.length c0_1) (de:=(TypeDesc.slice 23)) rfl rfl (by kernel_rfl) rfl (by kernel_rfl) (by kernel_rfl) (by kernel_rfl) (fun w1 hs1=>cell_step hs1.below.bw (hs.var (k:=0) ((hS 0 (by kernel_rfl)).trans (by exact rfl)) (Sub4.trans (Sub4.all _) (Sub4.skip (n:=1) (len1 _) (Sub4.head _ _))))) ?_
    exact ls_fin s0 _ (congrArg (fun z=>upd z 88 _) hF.symm) ⟨rfl,rfl⟩ (sub_nil _)
   obtain ⟨s32_20,hs32_20⟩ := exv (.int .i64 x3_3)
   refine have_opa shadowboxref16_shape.tab30 1 20 (fun sp=>sp 20=s32_20∧sp 10=s32_10) (fun sp on hA hon=>?_) (fun ops32_20=>?_)
   ·refine ⟨fun o ho vs Rs f' S' w hp hf hx hS hR hs=>?_⟩
    obtain rfl := Option.some.inj ho
    obtain ⟨hv10,hR10⟩ := (spe hA.2 hs32_10 (hp 10 (by kernel_rfl)))
    rw [hA.1,hs32_20]
    refine And.intro (fun a ha=>(want_is (j:=10) (t:=79) (r:=true) rfl rfl (by kernel_rfl) (((hf 10 79 (by kernel_rfl) rfl).trans hv10).trans (congrArg Value.bool (show (decide (x3_3 > (0:Int)))=true from dec_t q44))) rfl a ha).trans hon.symm) (And.intro (fun _=>?_) (fun h=>by rw [hon] at h; cases h))
    have hF := fr_next (fr_next (rfl) ((hx 3 (by kernel_rfl)).trans (by kernel_rfl:(_:Value)=.int .i64 x3_3))) (((hf 10 79 (by kernel_rfl) rfl).trans hv10).trans (congrArg Value.bool (show (decide (x3_3 > (0:Int)))=true from dec_t q44)))
    refine ls_fr hF ?_
    refine lv (.int .i64 x3_3) ?_
    exact ls_fin s0 _ (congrArg (fun z=>upd z 89 _) hF.symm) ⟨rfl,rfl⟩ (sub_nil _)
   obtain ⟨ad55,hA56⟩ := idoS_at (l:=a0.2.1) (i:=x3_3) R0_1 q33 q34
   obtain ⟨s32_21,hs32_21⟩ := exv (.pointer (some (ad55.add ((x3_3).toNat*1))))
   refine have_opa shadowboxref16_shape.tab30 1 21 (fun sp=>sp 21=s32_21∧sp 10=s32_10∧sp 19=s32_19∧sp 20=s32_20) (fun sp on hA hon=>?_) (fun ops32_21=>?_)
   ·refine ⟨fun o ho vs Rs f' S' w hp hf hx hS hR hs=>?_⟩
    obtain rfl := Option.some.inj ho
    obtain ⟨hv10,hR10⟩ := (spe hA.2.1 hs32_10 (hp 10 (by kernel_rfl)))
    obtain ⟨hv19,hR19⟩ := (spe hA.2.2.1 hs32_19 (hp 19 (by kernel_rfl)))
    obtain ⟨hv20,hR20⟩ := (spe hA.2.2.2 hs32_20 (hp 20 (by kernel_rfl)))
    rw [hA.1,hs32_21]
    refine And.intro (fun a ha=>(want_is (j:=10) (t:=79) (r:=true) rfl rfl (by kernel_rfl) (((hf 10 79 (by kernel_rfl) rfl).trans hv10).trans (congrArg Value.bool (show (decide (x3_3 > (0:Int)))=true from dec_t q44))) rfl a ha).trans hon.symm) (And.intro (fun _=>?_) (fun h=>by rw [hon] at h; cases h))
    have hF := fr_next (fr_next (fr_next (rfl) (((hf 10 79 (by kernel_rfl) rfl).trans hv10).trans (congrArg Value.bool (show (decide (x3_3 > (0:Int)))=true from dec_t q44)))) ((hf 19 88 (by kernel_rfl) rfl).trans hv19)) ((hf 20 89 (by kernel_rfl) rfl).trans hv20)
    refine ls_fr hF ?_
    refine ls_idxv (Ec.sld 23 Int) (A:=A0_1) (c:=c0_1) (l:=a0.2.1) (k:=.i64) (i:=x3_3) (z:=1) (ad:=ad55) rfl rfl (by kernel_rfl) hA56 rfl (by kernel_rfl) (by kernel_rfl) (by kernel_rfl) (by kernel_rfl) q33 q34 ?_
    exact ls_fin s0 _ (congrArg (fun z=>upd z 90 _) hF.symm) ⟨rfl,rfl⟩ (sub_nil _)
   obtain ⟨xq57,hq58,xR59,xC60⟩ := RoS.el (l:=a0.2.1) R0_1 hA56 (i:=x3_3) q33 q34
   obtain ⟨s32_22,hs32_22⟩ := exv (.slice xq57.1 ((a0.2.1).getD (x3_3).toNat ([]:List Int)).length xq57.2)
   refine have_opa shadowboxref16_shape.tab30 1 22 (fun sp=>sp 22=s32_22∧sp 10=s32_10∧sp 21=s32_21) (fun sp on hA hon=>?_) (fun ops32_22=>?_)
   ·refine ⟨fun o ho vs Rs f' S' w hp hf hx hS hR hs=>?_⟩
    obtain rfl := Option.some.inj ho
    obtain ⟨hv10,hR10⟩ := (spe hA.2.1 hs32_10 (hp 10 (by kernel_rfl)))
    obtain ⟨hv21,hR21⟩ := (spe hA.2.2 hs32_21 (hp 21 (by kernel_rfl)))
    rw [hA.1,hs32_22]
    refine And.intro (fun a ha=>(want_is (j:=10) (t:=79) (r:=true) rfl rfl (by kernel_rfl) (((hf 10 79 (by kernel_rfl) rfl).trans hv10).trans (congrArg Value.bool (show (decide (x3_3 > (0:Int)))=true from dec_t q44))) rfl a ha).trans hon.symm) (And.intro (fun _=>?_) (fun h=>by rw [hon] at h; cases h))
    have hF := fr_next (fr_next (rfl) (((hf 10 79 (by kernel_rfl) rfl).trans hv10).trans (congrArg Value.bool (show (decide (x3_3 > (0:Int)))=true from dec_t q44)))) ((hf 21 90 (by kernel_rfl) rfl).trans hv21)
    refine ls_fr hF ?_
    refine ls_load (a0:=(ad55.add ((x3_3).toNat*1))) (v:=.slice xq57.1 ((a0.2.1).getD (x3_3).toNat ([]:List Int)).length xq57.2) (de:=(TypeDesc.slice 5)) rfl rfl (by kernel_rfl) rfl (by kernel_rfl) (by kernel_rfl) (by kernel_rfl) (fun w1 hs1=>(Rd.step (hs.old hq58) hs1.below.bw).cell0) ?_
    exact ls_fin s0 _ (congrArg (fun z=>upd z 91 _) hF.symm) ⟨rfl,rfl⟩ (sub_nil _)
   obtain ⟨y61,hy62,H⟩ := lt_some H
   obtain ⟨s32_23,hs32_23⟩ := exv (.string y61)
   refine have_opa shadowboxref16_shape.tab30 1 23 (fun sp=>sp 23=s32_23∧sp 10=s32_10∧sp 22=s32_22) (fun sp on hA hon=>?_) (fun ops32_23=>?_)
   ·refine ⟨fun o ho vs Rs f' S' w hp hf hx hS hR hs=>?_⟩
    obtain rfl := Option.some.inj ho
    obtain ⟨hv10,hR10⟩ := (spe hA.2.1 hs32_10 (hp 10 (by kernel_rfl)))
    obtain ⟨hv22,hR22⟩ := (spe hA.2.2 hs32_22 (hp 22 (by kernel_rfl)))
    rw [hA.1,hs32_23]
    refine And.intro (fun a ha=>(want_is (j:=10) (t:=79) (r:=true) rfl rfl (by kernel_rfl) (((hf 10 79 (by kernel_rfl) rfl).trans hv10).trans (congrArg Value.bool (show (decide (x3_3 > (0:Int)))=true from dec_t q44))) rfl a ha).trans hon.symm) (And.intro (fun _=>?_) (fun h=>by rw [hon] at h; cases h))
    have hF := fr_next (fr_next (rfl) (((hf 10 79 (by kernel_rfl) rfl).trans hv10).trans (congrArg Value.bool (show (decide (x3_3 > (0:Int)))=true from dec_t q44)))) ((hf 22 91 (by kernel_rfl) rfl).trans hv22)
    refine ls_fr hF ?_
    refine ls_str (A:=xq57.1) (c:=xq57.2) (e:=5) (l:=((a0.2.1).getD (x3_3).toNat ([]:List Int))) rfl rfl (by kernel_rfl) rfl (by kernel_rfl) (by kernel_rfl) (by kernel_rfl) (by kernel_rfl) (fun w1 hs1=>(Rd.step (hs.old xR59) hs1.below.bw)) ?_
    refine ls_ren 92 (v:=.string (strOfNums ((a0.2.1).getD (x3_3).toNat ([]:List Int)))) (v' := .string y61) (by kernel_rfl) (by rw [hy62]) ?_
    exact ls_fin s0 _ ((upd_upd _ _ _ _).trans (congrArg (fun z=>upd z 92 _) hF.symm)) ⟨rfl,rfl⟩ (sub_nil _)
   refine cs_draw shadowboxref16_shape.tab30 24 1 (spl [s32_0,s32_1,s32_2,s32_3,s32_4,s32_5,s32_6,s32_7,s32_8,s32_9,s32_10,s32_11,s32_12,s32_13,s32_14,s32_15,s32_16,s32_17,s32_18,s32_19,s32_20,s32_21,s32_22,s32_23]) (onl [true,true,true,true,true,true,true,true,true,true,true,true,true,true,true,true,true,true,true,true,true,true,true,true]) (by kernel_rfl) (by kernel_rfl) (by kernel_rfl) (by kernel_rfl) (rs:=[_,_,_]) rfl (by kernel_rfl) (by kernel_rfl) (all_snoc (all_snoc (all_snoc (all_snoc (all_snoc (all_snoc (all_snoc (all_snoc (all_snoc (all_snoc (all_snoc (all_snoc (all_snoc (all_snoc (all_snoc (all_snoc (all_snoc (all_snoc (all_snoc (all_snoc (all_snoc (all_snoc (all_snoc (all_snoc (all_nil) (ops32_0 _ _ rfl rfl)) (ops32_1 _ _ ⟨rfl,rfl⟩ rfl)) (ops32_2 _ _ rfl rfl)) (ops32_3 _ _ ⟨rfl,rfl,rfl⟩ rfl)) (ops32_4 _ _ ⟨rfl,rfl⟩ rfl)) (ops32_5 _ _ ⟨rfl,rfl⟩ rfl)) (ops32_6 _ _ ⟨rfl,rfl⟩ rfl)) (ops32_7 _ _ ⟨rfl,rfl⟩ rfl)) (ops32_8 _ _ ⟨rfl,rfl⟩ rfl)) (ops32_9 _ _ ⟨rfl,rfl,rfl⟩ rfl)) (ops32_10 _ _ ⟨rfl,rfl,rfl⟩ rfl)) (ops32_11 _ _ ⟨rfl,rfl⟩ rfl)) (ops32_12 _ _ ⟨rfl,rfl,rfl⟩ rfl)) (ops32_13 _ _ ⟨rfl,rfl⟩ rfl)) (ops32_14 _ _ ⟨rfl,rfl,rfl⟩ rfl)) (ops32_15 _ _ ⟨rfl,rfl,rfl,rfl⟩ rfl)) (ops32_16 _ _ ⟨rfl,rfl,rfl⟩ rfl)) (ops32_17 _ _ ⟨rfl,rfl,rfl⟩ rfl)) (ops32_18 _ _ ⟨rfl,rfl⟩ rfl)) (ops32_19 _ _ ⟨rfl,rfl,rfl⟩ rfl)) (ops32_20 _ _ ⟨rfl,rfl⟩ rfl)) (ops32_21 _ _ ⟨rfl,rfl,rfl,rfl⟩ rfl)) (ops32_22 _ _ ⟨rfl,rfl,rfl⟩ rfl)) (ops32_23 _ _ ⟨rfl,rfl,rfl⟩ rfl)) ?_
   intro vs Rs f' S' hp hf hx hS hR
   obtain ⟨hv7,hR7⟩ := (spe rfl hs32_7 (hp 7 (by kernel_rfl)))
   obtain ⟨hv10,hR10⟩ := (spe rfl hs32_10 (hp 10 (by kernel_rfl)))
   obtain ⟨hv17,hR17⟩ := (spe rfl hs32_17 (hp 17 (by kernel_rfl)))
   obtain ⟨hv23,hR23⟩ := (spe rfl hs32_23 (hp 23 (by kernel_rfl)))
   refine ls_fr (F:=upd (upd (upd (upd (upd (upd f' 1 (.pointer (some ⟨g1,0,none⟩))) 3 (.int .i64 x3_3)) 76 (.bool (decide (y41 > (160:Int))))) 79 (.bool (decide (x3_3 > (0:Int))))) 86 (.string y53)) 92 (.string y61)) (fr_next (fr_next (fr_next (fr_next (fr_next (fr_next (rfl) ((hx 1 (by kernel_rfl)).trans (by kernel_rfl:(_:Value)=.pointer (some ⟨g1,0,none⟩)))) ((hx 3 (by kernel_rfl)).trans (by kernel_rfl:(_:Value)=.int .i64 x3_3))) ((hf 7 76 (by kernel_rfl) rfl).trans hv7)) ((hf 10 79 (by kernel_rfl) rfl).trans hv10)) ((hf 17 86 (by kernel_rfl) rfl).trans hv17)) ((hf 23 92 (by kernel_rfl) rfl).trans hv23)) ?_
   refine ls_sub (sput s0 0 (some (Ck.var 32 g1 (([Value.int .i64 a0.1]++([Value.slice A0_1 a0.2.1.length c0_1]++([Value.slice A0_2 a0.2.2.1.length c0_2]++[Value.slice A0_3 a0.2.2.2.length c0_3]))))))) (sub_put ((hS 0 (by kernel_rfl)).trans (by exact rfl)) (sub_nil _)) ?_
   refine ls_know (c:=true) (dec_t q44) 79 (by kernel_rfl) ?_
   refine ls_on (j:=10) (t:=79) (b:=true) rfl rfl (by kernel_rfl) (by kernel_rfl) ?_
   refine lv (.bool (!(Op.bytesLess y53.toList y61.toList))) ?_
   refine ls_know (c:=false) (dec_f q43) 76 (by kernel_rfl) ?_
   refine ls_on (j:=7) (t:=76) (b:=false) rfl rfl (by kernel_rfl) (by kernel_rfl) ?_
   refine lv (.bool (!(Op.bytesLess y53.toList y61.toList))) ?_
   refine lv (.bool (!(Op.bytesLess y53.toList y61.toList))) ?_
   refine ls_end ?_
   refine qn_then ?_
   by_cases q63:(Op.bytesLess y53.toList y61.toList)=true
   ·replace H := ite_t q63 H
    refine cs_know (c:=false) (congrArg Bool.not (q63)) 95 (by kernel_rfl) ?_
    refine cs_false (by kernel_rfl) ?_
    refine cs_skip' ?_
    refine qn_meet (sput s0 0 (some (Ck.var 32 g1 (([Value.int .i64 a0.1]++([Value.slice A0_1 a0.2.1.length c0_1]++([Value.slice A0_2 a0.2.2.1.length c0_2]++[Value.slice A0_3 a0.2.2.2.length c0_3]))))))) ⟨_,fr_next (fr_next (rfl) (by kernel_rfl)) (by kernel_rfl),rfl,H⟩ (sub_put (by exact rfl) (sub_nil _))
   replace H := ite_f q63 H
   refine cs_know (c:=true) (congrArg Bool.not (Bool.eq_false_iff.mpr q63)) 95 (by kernel_rfl) ?_
   refine cs_true (by kernel_rfl) ?_
   refine cs_seq ?_
   refine cs_region (l:=[_]) ?_
   refine lv (.bool false) ?_
   refine ls_end ?_
   refine qn_then ?_
   refine cs_ret' ?_
   refine qr_then ?_
   refine qr_block ?_
   refine qr_then ?_
   refine qr_then ?_
   refine qr_block ?_
   refine qr_then ?_
   obtain rfl := Option.some.inj H
   refine qr_res (rs:=[_]) rfl (fun w' hs=>⟨[.bool false],(res_tmp (by kernel_rfl) (.nil)),(),rfl,hs.pick (ts:=[]) (cs:=[]) trivial (by decide)⟩)
  replace H := ite_f q44 H
  refine cs_draw shadowboxref16_shape.tab30 24 1 (spl [s32_0,s32_1,s32_2,s32_3,s32_4,s32_5,s32_6,s32_7,s32_8,s32_9,s32_10,spu,spu,spu,spu,spu,spu,spu,spu,spu,spu,spu,spu,spu]) (onl [true,true,true,true,true,true,true,true,true,true,true,false,false,false,false,false,false,false,false,false,false,false,false,false]) (by kernel_rfl) (by kernel_rfl) (by kernel_rfl) (by kernel_rfl) (rs:=[_,_,_]) rfl (by kernel_rfl) (by kernel_rfl) (all_snoc (all_snoc (all_snoc (all_snoc (all_snoc (all_snoc (all_snoc (all_snoc (all_snoc (all_snoc (all_snoc (all_snoc (all_snoc (all_snoc (all_snoc (all_snoc (all_snoc (all_snoc (all_snoc (all_snoc (all_snoc (all_snoc (all_snoc (all_snoc (all_nil) (ops32_0 _ _ rfl rfl)) (ops32_1 _ _ ⟨rfl,rfl⟩ rfl)) (ops32_2 _ _ rfl rfl)) (ops32_3 _ _ ⟨rfl,rfl,rfl⟩ rfl)) (ops32_4 _ _ ⟨rfl,rfl⟩ rfl)) (ops32_5 _ _ ⟨rfl,rfl⟩ rfl)) (ops32_6 _ _ ⟨rfl,rfl⟩ rfl)) (ops32_7 _ _ ⟨rfl,rfl⟩ rfl)) (ops32_8 _ _ ⟨rfl,rfl⟩ rfl)) (ops32_9 _ _ ⟨rfl,rfl,rfl⟩ rfl)) (ops32_10 _ _ ⟨rfl,rfl,rfl⟩ rfl)) (op_offi 11 10 79 true rfl rfl (by kernel_rfl) (by kernel_rfl) rfl (fun v R h=>by rw [hs32_10] at h; obtain ⟨h,_⟩ := h; exact h.trans (congrArg Value.bool (show (decide (x3_3 > (0:Int)))=false from dec_f q44))) rfl rfl)) (op_offi 12 10 79 true rfl rfl (by kernel_rfl) (by kernel_rfl) rfl (fun v R h=>by rw [hs32_10] at h; obtain ⟨h,_⟩ := h; exact h.trans (congrArg Value.bool (show (decide (x3_3 > (0:Int)))=false from dec_f q44))) rfl rfl)) (op_offi 13 10 79 true rfl rfl (by kernel_rfl) (by kernel_rfl) rfl (fun v R h=>by rw [hs32_10] at h; obtain ⟨h,_⟩ := h; exact h.trans (congrArg Value.bool (show (decide (x3_3 > (0:Int)))=false from dec_f q44))) rfl rfl)) (op_offi 14 10 79 true rfl rfl (by kernel_rfl) (by kernel_rfl) rfl (fun v R h=>by rw [hs32_10] at h; obtain ⟨h,_⟩ := h; exact h.trans (congrArg Value.bool (show (decide (x3_3 > (0:Int)))=false from dec_f q44))) rfl rfl)) (op_offi 15 10 79 true rfl rfl (by kernel_rfl) (by kernel_rfl) rfl (fun v R h=>by rw [hs32_10] at h; obtain ⟨h,_⟩ := h; exact h.trans (congrArg Value.bool (show (decide (x3_3 > (0:Int)))=false from dec_f q44))) rfl rfl)) (op_offi 16 10 79 true rfl rfl (by kernel_rfl) (by kernel_rfl) rfl (fun v R h=>by rw [hs32_10] at h; obtain ⟨h,_⟩ := h; exact h.trans (congrArg Value.bool (show (decide (x3_3 > (0:Int)))=false from dec_f q44))) rfl rfl)) (op_offi 17 10 79 true rfl rfl (by kernel_rfl) (by kernel_rfl) rfl (fun v R h=>by rw [hs32_10] at h; obtain ⟨h,_⟩ := h; exact h.trans (congrArg Value.bool (show (decide (x3_3 > (0:Int)))=false from dec_f q44))) rfl rfl)) (op_offi 18 10 79 true rfl rfl (by kernel_rfl) (by kernel_rfl) rfl (fun v R h=>by rw [hs32_10] at h; obtain ⟨h,_⟩ := h; exact h.trans (congrArg Value.bool (show (decide (x3_3 > (0:Int)))=false from dec_f q44))) rfl rfl)) (op_offi 19 10 79 true rfl rfl (by kernel_rfl) (by kernel_rfl) rfl (fun v R h=>by rw [hs32_10] at h; obtain ⟨h,_⟩ := h; exact h.trans (congrArg Value.bool (show (decide (x3_3 > (0:Int)))=false from dec_f q44))) rfl rfl)) (op_offi 20 10 79 true rfl rfl (by kernel_rfl) (by kernel_rfl) rfl (fun v R h=>by rw [hs32_10] at h; obtain ⟨h,_⟩ := h; exact h.trans (congrArg Value.bool (show (decide (x3_3 > (0:Int)))=false from dec_f q44))) rfl rfl)) (op_offi 21 10 79 true rfl rfl (by kernel_rfl) (by kernel_rfl) rfl (fun v R h=>by rw [hs32_10] at h; obtain ⟨h,_⟩ := h; exact h.trans (congrArg Value.bool (show (decide (x3_3 > (0:Int)))=false from dec_f q44))) rfl rfl)) (op_offi 22 10 79 true rfl rfl (by kernel_rfl) (by kernel_rfl) rfl (fun v R h=>by rw [hs32_10] at h; obtain ⟨h,_⟩ := h; exact h.trans (congrArg Value.bool (show (decide (x3_3 > (0:Int)))=false from dec_f q44))) rfl rfl)) (op_offi 23 10 79 true rfl rfl (by kernel_rfl) (by kernel_rfl) rfl (fun v R h=>by rw [hs32_10] at h; obtain ⟨h,_⟩ := h; exact h.trans (congrArg Value.bool (show (decide (x3_3 > (0:Int)))=false from dec_f q44))) rfl rfl)) ?_
  intro vs Rs f' S' hp hf hx hS hR
  obtain ⟨hv7,hR7⟩ := (spe rfl hs32_7 (hp 7 (by kernel_rfl)))
  obtain ⟨hv10,hR10⟩ := (spe rfl hs32_10 (hp 10 (by kernel_rfl)))
  obtain ⟨hv17,hR17⟩ := (spe rfl rfl (hp 17 (by kernel_rfl)):spu _ _)
  obtain ⟨hv23,hR23⟩ := (spe rfl rfl (hp 23 (by kernel_rfl)):spu _ _)
  refine ls_fr (F:=upd (upd (upd (upd f' 1 (.pointer (some ⟨g1,0,none⟩))) 3 (.int .i64 x3_3)) 76 (.bool (decide (y41 > (160:Int))))) 79 (.bool (decide (x3_3 > (0:Int))))) (fr_next (fr_next (fr_next (fr_next (rfl) ((hx 1 (by kernel_rfl)).trans (by kernel_rfl:(_:Value)=.pointer (some ⟨g1,0,none⟩)))) ((hx 3 (by kernel_rfl)).trans (by kernel_rfl:(_:Value)=.int .i64 x3_3))) ((hf 7 76 (by kernel_rfl) rfl).trans hv7)) ((hf 10 79 (by kernel_rfl) rfl).trans hv10)) ?_
  refine ls_sub (sput s0 0 (some (Ck.var 32 g1 (([Value.int .i64 a0.1]++([Value.slice A0_1 a0.2.1.length c0_1]++([Value.slice A0_2 a0.2.2.1.length c0_2]++[Value.slice A0_3 a0.2.2.2.length c0_3]))))))) (sub_put ((hS 0 (by kernel_rfl)).trans (by exact rfl)) (sub_nil _)) ?_
  refine ls_know (c:=false) (dec_f q44) 79 (by kernel_rfl) ?_
  refine lofx 10 79 true false ?_
  refine ls_know (c:=false) (dec_f q43) 76 (by kernel_rfl) ?_
  refine ls_on (j:=7) (t:=76) (b:=false) rfl rfl (by kernel_rfl) (by kernel_rfl) ?_
  refine lv (.bool false) ?_
  refine lv (.bool false) ?_
  refine ls_end ?_
  refine qn_then ?_
  refine cs_false (by kernel_rfl) ?_
  refine cs_skip' ?_
  refine qn_meet (sput s0 0 (some (Ck.var 32 g1 (([Value.int .i64 a0.1]++([Value.slice A0_1 a0.2.1.length c0_1]++([Value.slice A0_2 a0.2.2.1.length c0_2]++[Value.slice A0_3 a0.2.2.2.length c0_3]))))))) ⟨_,fr_next (fr_next (rfl) (by kernel_rfl)) (by kernel_rfl),rfl,H⟩ (sub_put (by exact rfl) (sub_nil _))
 rintro f S ⟨fr5,rfl,rfl,H⟩
 replace H:((if a0.1=(0:Int) then (if 0≤x3_3 then (if x3_3<(a0.2.2.1.length:Int) then lt ((((a0.2.2.1).getD (x3_3).toNat ([]:List Int)).length:Int)) fun y11=>(if y11 > (1024:Int) then some false else (if a0.1 > (0:Int) then (if x3_3<(a0.2.2.2.length:Int) then (shadowboxref06_Right.f k3 ((a0.2.2.2).getD (x3_3).toNat ((0:Int),(0:Int),(0:Int),(0:Int),(vrep 32 (0:Int))))).bind fun t18=>(if t18=true then (shadowboxref16_shape.lo3 a0 k3) (IntKind.wrap .i64 (x3_3+(1:Int))) else some false) else none) else (shadowboxref16_shape.lo3 a0 k3) (IntKind.wrap .i64 (x3_3+(1:Int))))) else none) else none) else (if a0.1 > (0:Int) then (if 0≤x3_3 then (if x3_3<(a0.2.2.2.length:Int) then (shadowboxref06_Right.f k3 ((a0.2.2.2).getD (x3_3).toNat ((0:Int),(0:Int),(0:Int),(0:Int),(vrep 32 (0:Int))))).bind fun t27=>(if t27=true then (shadowboxref16_shape.lo3 a0 k3) (IntKind.wrap .i64 (x3_3+(1:Int))) else some false) else none) else none) else (shadowboxref16_shape.lo3 a0 k3) (IntKind.wrap .i64 (x3_3+(1:Int))))))=some r := H
 refine cs_seq ?_
 refine cs_region (l:=[_,_,_,_,_,_,_,_,_,_,_,_,_,_,_,_,_,_,_,_,_,_,_,_,_,_]) ?_
 refine lv (.pointer (some ⟨g1,(0+0),none⟩)) ?_
 refine ls_load (a0:=⟨g1,(0+0),none⟩) (v:=.int .i64 a0.1) (de:=(TypeDesc.int .i64)) rfl rfl (by kernel_rfl) rfl (by kernel_rfl) (by kernel_rfl) (by kernel_rfl) (fun w hs=>(hs.var (k:=0) (by exact rfl) (Sub4.trans (Sub4.all _) (Sub4.head _ _)))) ?_
 refine lv (.bool (decide (a0.1=(0:Int)))) ?_
 refine lv (.bool (decide (a0.1=(0:Int)))) ?_
 by_cases q2:a0.1=(0:Int)
 ·replace H := ite_t q2 H
  refine ls_know (c:=true) (dec_t q2) 99 (by kernel_rfl) ?_
  refine ls_on (j:=3) (t:=99) (b:=true) rfl rfl (by kernel_rfl) (by kernel_rfl) ?_
  refine lv (.pointer (some ⟨g1,(0+2),none⟩)) ?_
  refine ls_on (j:=3) (t:=99) (b:=true) rfl rfl (by kernel_rfl) (by kernel_rfl) ?_
  refine ls_load (a0:=⟨g1,(0+2),none⟩) (v:=.slice A0_2 a0.2.2.1.length c0_2) (de:=(TypeDesc.slice 23)) rfl rfl (by kernel_rfl) rfl (by kernel_rfl) (by kernel_rfl) (by kernel_rfl) (fun w hs=>(hs.var (k:=0) (by exact rfl) (Sub4.trans (Sub4.all _) (Sub4.skip (n:=1) (len1 _) (Sub4.skip (n:=1) (len1 _) (Sub4.head _ _)))))) ?_
  refine ls_on (j:=3) (t:=99) (b:=true) rfl rfl (by kernel_rfl) (by kernel_rfl) ?_
  refine lv (.int .i64 x3_3) ?_
  refine ls_on (j:=3) (t:=99) (b:=true) rfl rfl (by kernel_rfl) (by kernel_rfl) ?_
  obtain ⟨q3,H⟩ := ite_need H
  obtain ⟨q4,H⟩ := ite_need H
  obtain ⟨ad5,hA6⟩ := idoS_at (l:=a0.2.2.1) (i:=x3_3) R0_2 q3 q4
  refine ls_idxv (Ec.sld 23 Int) (A:=A0_2) (c:=c0_2) (l:=a0.2.2.1) (k:=.i64) (i:=x3_3) (z:=1) (ad:=ad5) rfl rfl (by kernel_rfl) hA6 rfl (by kernel_rfl) (by kernel_rfl) (by kernel_rfl) (by kernel_rfl) q3 q4 ?_
  refine ls_on (j:=3) (t:=99) (b:=true) rfl rfl (by kernel_rfl) (by kernel_rfl) ?_
  obtain ⟨xq7,hq8,xR9,xC10⟩ := RoS.el (l:=a0.2.2.1) R0_2 hA6 (i:=x3_3) q3 q4
  refine ls_load (a0:=(ad5.add ((x3_3).toNat*1))) (v:=.slice xq7.1 ((a0.2.2.1).getD (x3_3).toNat ([]:List Int)).length xq7.2) (de:=(TypeDesc.slice 5)) rfl rfl (by kernel_rfl) rfl (by kernel_rfl) (by kernel_rfl) (by kernel_rfl) (fun w hs=>(hs.old hq8).cell0) ?_
  refine ls_on (j:=3) (t:=99) (b:=true) rfl rfl (by kernel_rfl) (by kernel_rfl) ?_
  obtain ⟨y11,hy12,H⟩ := lt_some H
  refine lv (.int .i64 (((a0.2.2.1).getD (x3_3).toNat ([]:List Int)).length:Int)) ?_
  refine ls_ren 105 (v:=.int .i64 (((a0.2.2.1).getD (x3_3).toNat ([]:List Int)).length:Int)) (v' := .int .i64 y11) (by kernel_rfl) (by rw [hy12]) ?_
  refine ls_on (j:=3) (t:=99) (b:=true) rfl rfl (by kernel_rfl) (by kernel_rfl) ?_
  refine lv (.bool (decide (y11 > (1024:Int)))) ?_
  refine lv (.bool (decide (y11 > (1024:Int)))) ?_
  refine lv (.bool (decide (y11 > (1024:Int)))) ?_
  by_cases q13:y11 > (1024:Int)
  ·replace H := ite_t q13 H
   refine ls_know (c:=true) (dec_t q13) 108 (by kernel_rfl) ?_
   refine lofx 12 108 false true ?_
   refine lofx 12 108 false true ?_
   refine lofx 12 108 false true ?_
   refine lofx 12 108 false true ?_
   refine ls_offu (j:=16) (t:=112) (b:=true) rfl rfl (by kernel_rfl) (by kernel_rfl) rfl (by kernel_rfl) ?_
   refine ls_offu (j:=16) (t:=112) (b:=true) rfl rfl (by kernel_rfl) (by kernel_rfl) rfl (by kernel_rfl) ?_
   refine ls_offu (j:=16) (t:=112) (b:=true) rfl rfl (by kernel_rfl) (by kernel_rfl) rfl (by kernel_rfl) ?_
   refine ls_offu (j:=16) (t:=112) (b:=true) rfl rfl (by kernel_rfl) (by kernel_rfl) rfl (by kernel_rfl) ?_
   refine ls_offu (j:=16) (t:=112) (b:=true) rfl rfl (by kernel_rfl) (by kernel_rfl) rfl (by kernel_rfl) ?_
   refine ls_offu (j:=16) (t:=112) (b:=true) rfl rfl (by kernel_rfl) (by kernel_rfl) rfl (by kernel_rfl) ?_
   refine ls_offu (j:=16) (t:=112) (b:=true) rfl rfl (by kernel_rfl) (by kernel_rfl) rfl (by kernel_rfl) ?_
   refine lofx 12 108 false true ?_
   refine lv (.bool true) ?_
   refine ls_end ?_
   refine qn_then ?_
   refine cs_true (by kernel_rfl) ?_
   refine cs_seq ?_
   refine cs_region (l:=[_]) ?_
   refine lv (.bool false) ?_
   refine ls_end ?_
   refine qn_then ?_
   refine cs_ret' ?_
   refine qr_block ?_
   refine qr_then ?_
   refine qr_then ?_
   refine qr_block ?_
   refine qr_then ?_
   obtain rfl := Option.some.inj H
   refine qr_res (rs:=[_]) rfl (fun w' hs=>⟨[.bool false],(res_tmp (by kernel_rfl) (.nil)),(),rfl,hs.pick (ts:=[]) (cs:=[]) trivial (by decide)⟩)
  replace H := ite_f q13 H
  refine ls_know (c:=false) (dec_f q13) 108 (by kernel_rfl) ?_
  refine ls_on (j:=12) (t:=108) (b:=false) rfl rfl (by kernel_rfl) (by kernel_rfl) ?_
  refine lv (.pointer (some ⟨g1,(0+0),none⟩)) ?_
  refine ls_on (j:=12) (t:=108) (b:=false) rfl rfl (by kernel_rfl) (by kernel_rfl) ?_
  refine ls_load (a0:=⟨g1,(0+0),none⟩) (v:=.int .i64 a0.1) (de:=(TypeDesc.int .i64)) rfl rfl (by kernel_rfl) rfl (by kernel_rfl) (by kernel_rfl) (by kernel_rfl) (fun w hs=>(hs.var (k:=0) (by exact rfl) (Sub4.trans (Sub4.all _) (Sub4.head _ _)))) ?_
  refine ls_on (j:=12) (t:=108) (b:=false) rfl rfl (by kernel_rfl) (by kernel_rfl) ?_
  refine lv (.bool (decide (a0.1 > (0:Int)))) ?_
  refine ls_on (j:=12) (t:=108) (b:=false) rfl rfl (by kernel_rfl) (by kernel_rfl) ?_
  refine lv (.bool (decide (a0.1 > (0:Int)))) ?_
  by_cases q14:a0.1 > (0:Int)
  ·replace H := ite_t q14 H
   refine ls_know (c:=true) (dec_t q14) 112 (by kernel_rfl) ?_
   refine ls_on (j:=16) (t:=112) (b:=true) rfl rfl (by kernel_rfl) (by kernel_rfl) ?_
   refine lv (.pointer (some ⟨g1,(0+3),none⟩)) ?_
   refine ls_on (j:=16) (t:=112) (b:=true) rfl rfl (by kernel_rfl) (by kernel_rfl) ?_
   refine ls_load (a0:=⟨g1,(0+3),none⟩) (v:=.slice A0_3 a0.2.2.2.length c0_3) (de:=(TypeDesc.slice 44)) rfl rfl (by kernel_rfl) rfl (by kernel_rfl) (by kernel_rfl) (by kernel_rfl) (fun w hs=>(hs.var (k:=0) (by exact rfl) (Sub4.trans (Sub4.all _) (Sub4.skip (n:=1) (len1 _) (Sub4.skip (n:=1) (len1 _) (Sub4.skip (n:=1) (len1 _) (Sub4.all _))))))) ?_
   refine ls_on (j:=16) (t:=112) (b:=true) rfl rfl (by kernel_rfl) (by kernel_rfl) ?_
   refine lv (.int .i64 x3_3) ?_
   refine ls_on (j:=16) (t:=112) (b:=true) rfl rfl (by kernel_rfl) (by kernel_rfl) ?_
   obtain ⟨q15,H⟩ := ite_need H
   obtain ⟨ad16,hA17⟩ := ido_at (T:=T44) (l:=a0.2.2.2) (i:=x3_3) R0_3 q3 q15
   refine ls_idxv T44 (A:=A0_3) (c:=c0_3) (l:=a0.2.2.2) (k:=.i64) (i:=x3_3) (z:=36) (ad:=ad16) rfl rfl (by kernel_rfl) hA17 rfl (by kernel_rfl) (by kernel_rfl) (by kernel_rfl) (by kernel_rfl) q3 q15 ?_
   refine ls_on (j:=16) (t:=112) (b:=true) rfl rfl (by kernel_rfl) (by kernel_rfl) ?_
   refine ls_loadagg (a:=(ad16.add ((x3_3).toNat*36))) (sub:=([Value.int .i64 (((a0.2.2.2).getD (x3_3).toNat ((0:Int),(0:Int),(0:Int),(0:Int),(vrep 32 (0:Int)))).1)]++([Value.int .i64 (((a0.2.2.2).getD (x3_3).toNat ((0:Int),(0:Int),(0:Int),(0:Int),(vrep 32 (0:Int)))).2.1)]++([Value.int .i64 (((a0.2.2.2).getD (x3_3).toNat ((0:Int),(0:Int),(0:Int),(0:Int),(vrep 32 (0:Int)))).2.2.1)]++([Value.int .u32 (((a0.2.2.2).getD (x3_3).toNat ((0:Int),(0:Int),(0:Int),(0:Int),(vrep 32 (0:Int)))).2.2.2.1)]++en (Value.int .u8) (((a0.2.2.2).getD (x3_3).toNat ((0:Int),(0:Int),(0:Int),(0:Int),(vrep 32 (0:Int)))).2.2.2.2).1))))) rfl rfl (by kernel_rfl) rfl (by kernel_rfl) (by kernel_rfl) (by kernel_rfl) (len_app (len1 _) (len_app (len1 _) (len_app (len1 _) (len_app (len1 _) (len_en _ (((a0.2.2.2).getD (x3_3).toNat ((0:Int),(0:Int),(0:Int),(0:Int),(vrep 32 (0:Int)))).2.2.2.2)))))) (fun w hs=>(hs.old R0_3).part hA17 (em_sub T44 a0.2.2.2 (i:=(x3_3).toNat) (by have h0:(0:Int)≤x3_3 := q3; have h1:x3_3<(a0.2.2.2.length:Int) := q15; omega))) ?_
   refine ls_on (j:=16) (t:=112) (b:=true) rfl rfl (by kernel_rfl) (by kernel_rfl) ?_
   obtain ⟨t18,hc19,H⟩ := bind_some H
   refine ls_callb (fid:=95) (vals:=#[.agg ⟨([Value.int .i64 (((a0.2.2.2).getD (x3_3).toNat ((0:Int),(0:Int),(0:Int),(0:Int),(vrep 32 (0:Int)))).1)]++([Value.int .i64 (((a0.2.2.2).getD (x3_3).toNat ((0:Int),(0:Int),(0:Int),(0:Int),(vrep 32 (0:Int)))).2.1)]++([Value.int .i64 (((a0.2.2.2).getD (x3_3).toNat ((0:Int),(0:Int),(0:Int),(0:Int),(vrep 32 (0:Int)))).2.2.1)]++([Value.int .u32 (((a0.2.2.2).getD (x3_3).toNat ((0:Int),(0:Int),(0:Int),(0:Int),(vrep 32 (0:Int)))).2.2.2.1)]++en (Value.int .u8) (((a0.2.2.2).getD (x3_3).toNat ((0:Int),(0:Int),(0:Int),(0:Int),(vrep 32 (0:Int)))).2.2.2.2).1))))⟩]) (X:=Unit) (fun x=>.bool t18) (fun x=>stl []) [] [] [] [] 1 rfl rfl (by kernel_rfl) (fun w=>by kernel_rfl) trivial trivial (by decide) (fun w hs hb=>shadowboxref06_Right.calls k3 ((a0.2.2.2).getD (x3_3).toNat ((0:Int),(0:Int),(0:Int),(0:Int),(vrep 32 (0:Int)))) t18 (lent b w [] []) hb  hc19) ?_
   intro x20
   refine ls_on (j:=16) (t:=112) (b:=true) rfl rfl (by kernel_rfl) (by kernel_rfl) ?_
   refine lv (.bool (!t18)) ?_
   refine ls_on (j:=12) (t:=108) (b:=false) rfl rfl (by kernel_rfl) (by kernel_rfl) ?_
   refine lv (.bool (!t18)) ?_
   refine lv (.bool (!t18)) ?_
   refine ls_end ?_
   refine qn_then ?_
   by_cases q21:t18=true
   ·replace H := ite_t q21 H
    refine cs_know (c:=false) (congrArg Bool.not (q21)) 121 (by kernel_rfl) ?_
    refine cs_false (by kernel_rfl) ?_
    refine cs_skip' ?_
    refine qn_block ?_
    refine qn_then ?_
    refine cs_region (l:=[_,_,_]) ?_
    refine lv (.int .i64 x3_3) ?_
    refine lv (.int .i64 (IntKind.wrap .i64 (x3_3+(1:Int)))) ?_
    refine lv (.int .i64 (IntKind.wrap .i64 (x3_3+(1:Int)))) ?_
    refine ls_end ?_
    refine qn_again k3 (sput s0 0 (some (Ck.var 32 g1 (([Value.int .i64 a0.1]++([Value.slice A0_1 a0.2.1.length c0_1]++([Value.slice A0_2 a0.2.2.1.length c0_2]++[Value.slice A0_3 a0.2.2.2.length c0_3]))))))) (Nat.le_refl _) ⟨_,(IntKind.wrap .i64 (x3_3+(1:Int))),fr_next (fr_next (rfl) (by kernel_rfl)) (by kernel_rfl),rfl,H⟩ (sub_put (by exact rfl) (sub_nil _))
   replace H := ite_f q21 H
   refine cs_know (c:=true) (congrArg Bool.not (Bool.eq_false_iff.mpr q21)) 121 (by kernel_rfl) ?_
   refine cs_true (by kernel_rfl) ?_
   refine cs_seq ?_
   refine cs_region (l:=[_]) ?_
   refine lv (.bool false) ?_
   refine ls_end ?_
   refine qn_then ?_
   refine cs_ret' ?_
   refine qr_block ?_
   refine qr_then ?_
   refine qr_then ?_
   refine qr_block ?_
   refine qr_then ?_
   obtain rfl := Option.some.inj H
   refine qr_res (rs:=[_]) rfl (fun w' hs=>⟨[.bool false],(res_tmp (by kernel_rfl) (.nil)),(),rfl,hs.pick (ts:=[]) (cs:=[]) trivial (by decide)⟩)
  replace H := ite_f q14 H
  refine ls_know (c:=false) (dec_f q14) 112 (by kernel_rfl) ?_
  refine lofx 16 112 true false ?_
  refine lofx 16 112 true false ?_
  refine lofx 16 112 true false ?_
  refine lofx 16 112 true false ?_
  refine lofx 16 112 true false ?_
  refine lofx 16 112 true false ?_
  refine lofx 16 112 true false ?_
  refine ls_on (j:=12) (t:=108) (b:=false) rfl rfl (by kernel_rfl) (by kernel_rfl) ?_
  refine lv (.bool false) ?_
  refine lv (.bool false) ?_
  refine ls_end ?_
  refine qn_then ?_
  refine cs_false (by kernel_rfl) ?_
  refine cs_skip' ?_
  refine qn_block ?_
  refine qn_then ?_
  refine cs_region (l:=[_,_,_]) ?_
  refine lv (.int .i64 x3_3) ?_
  refine lv (.int .i64 (IntKind.wrap .i64 (x3_3+(1:Int)))) ?_
  refine lv (.int .i64 (IntKind.wrap .i64 (x3_3+(1:Int)))) ?_
  refine ls_end ?_
  refine qn_again k3 (sput s0 0 (some (Ck.var 32 g1 (([Value.int .i64 a0.1]++([Value.slice A0_1 a0.2.1.length c0_1]++([Value.slice A0_2 a0.2.2.1.length c0_2]++[Value.slice A0_3 a0.2.2.2.length c0_3]))))))) (Nat.le_refl _) ⟨_,(IntKind.wrap .i64 (x3_3+(1:Int))),fr_next (fr_next (rfl) (by kernel_rfl)) (by kernel_rfl),rfl,H⟩ (sub_put (by exact rfl) (sub_nil _))
 replace H := ite_f q2 H
 refine ls_know (c:=false) (dec_f q2) 99 (by kernel_rfl) ?_
 refine lofx 3 99 true false ?_
 refine lofx 3 99 true false ?_
 refine lofx 3 99 true false ?_
 refine lofx 3 99 true false ?_
 refine lofx 3 99 true false ?_
 refine lofx 3 99 true false ?_
 refine lofx 3 99 true false ?_
 refine lv (.bool false) ?_
 refine lv (.bool false) ?_
 refine ls_on (j:=12) (t:=108) (b:=false) rfl rfl (by kernel_rfl) (by kernel_rfl) ?_
 refine lv (.pointer (some ⟨g1,(0+0),none⟩)) ?_
 refine ls_on (j:=12) (t:=108) (b:=false) rfl rfl (by kernel_rfl) (by kernel_rfl) ?_
 refine ls_load (a0:=⟨g1,(0+0),none⟩) (v:=.int .i64 a0.1) (de:=(TypeDesc.int .i64)) rfl rfl (by kernel_rfl) rfl (by kernel_rfl) (by kernel_rfl) (by kernel_rfl) (fun w hs=>(hs.var (k:=0) (by exact rfl) (Sub4.trans (Sub4.all _) (Sub4.head _ _)))) ?_
 refine ls_on (j:=12) (t:=108) (b:=false) rfl rfl (by kernel_rfl) (by kernel_rfl) ?_
 refine lv (.bool (decide (a0.1 > (0:Int)))) ?_
 refine ls_on (j:=12) (t:=108) (b:=false) rfl rfl (by kernel_rfl) (by kernel_rfl) ?_
 refine lv (.bool (decide (a0.1 > (0:Int)))) ?_
 by_cases q22:a0.1 > (0:Int)
 ·replace H := ite_t q22 H
  refine ls_know (c:=true) (dec_t q22) 112 (by kernel_rfl) ?_
  refine ls_on (j:=16) (t:=112) (b:=true) rfl rfl (by kernel_rfl) (by kernel_rfl) ?_
  refine lv (.pointer (some ⟨g1,(0+3),none⟩)) ?_
  refine ls_on (j:=16) (t:=112) (b:=true) rfl rfl (by kernel_rfl) (by kernel_rfl) ?_
  refine ls_load (a0:=⟨g1,(0+3),none⟩) (v:=.slice A0_3 a0.2.2.2.length c0_3) (de:=(TypeDesc.slice 44)) rfl rfl (by kernel_rfl) rfl (by kernel_rfl) (by kernel_rfl) (by kernel_rfl) (fun w hs=>(hs.var (k:=0) (by exact rfl) (Sub4.trans (Sub4.all _) (Sub4.skip (n:=1) (len1 _) (Sub4.skip (n:=1) (len1 _) (Sub4.skip (n:=1) (len1 _) (Sub4.all _))))))) ?_
  refine ls_on (j:=16) (t:=112) (b:=true) rfl rfl (by kernel_rfl) (by kernel_rfl) ?_
  refine lv (.int .i64 x3_3) ?_
  refine ls_on (j:=16) (t:=112) (b:=true) rfl rfl (by kernel_rfl) (by kernel_rfl) ?_
  obtain ⟨q23,H⟩ := ite_need H
  obtain ⟨q24,H⟩ := ite_need H
  obtain ⟨ad25,hA26⟩ := ido_at (T:=T44) (l:=a0.2.2.2) (i:=x3_3) R0_3 q23 q24
  refine ls_idxv T44 (A:=A0_3) (c:=c0_3) (l:=a0.2.2.2) (k:=.i64) (i:=x3_3) (z:=36) (ad:=ad25) rfl rfl (by kernel_rfl) hA26 rfl (by kernel_rfl) (by kernel_rfl) (by kernel_rfl) (by kernel_rfl) q23 q24 ?_
  refine ls_on (j:=16) (t:=112) (b:=true) rfl rfl (by kernel_rfl) (by kernel_rfl) ?_
  refine ls_loadagg (a:=(ad25.add ((x3_3).toNat*36))) (sub:=([Value.int .i64 (((a0.2.2.2).getD (x3_3).toNat ((0:Int),(0:Int),(0:Int),(0:Int),(vrep 32 (0:Int)))).1)]++([Value.int .i64 (((a0.2.2.2).getD (x3_3).toNat ((0:Int),(0:Int),(0:Int),(0:Int),(vrep 32 (0:Int)))).2.1)]++([Value.int .i64 (((a0.2.2.2).getD (x3_3).toNat ((0:Int),(0:Int),(0:Int),(0:Int),(vrep 32 (0:Int)))).2.2.1)]++([Value.int .u32 (((a0.2.2.2).getD (x3_3).toNat ((0:Int),(0:Int),(0:Int),(0:Int),(vrep 32 (0:Int)))).2.2.2.1)]++en (Value.int .u8) (((a0.2.2.2).getD (x3_3).toNat ((0:Int),(0:Int),(0:Int),(0:Int),(vrep 32 (0:Int)))).2.2.2.2).1))))) rfl rfl (by kernel_rfl) rfl (by kernel_rfl) (by kernel_rfl) (by kernel_rfl) (len_app (len1 _) (len_app (len1 _) (len_app (len1 _) (len_app (len1 _) (len_en _ (((a0.2.2.2).getD (x3_3).toNat ((0:Int),(0:Int),(0:Int),(0:Int),(vrep 32 (0:Int)))).2.2.2.2)))))) (fun w hs=>(hs.old R0_3).part hA26 (em_sub T44 a0.2.2.2 (i:=(x3_3).toNat) (by have h0:(0:Int)≤x3_3 := q23; have h1:x3_3<(a0.2.2.2.length:Int) := q24; omega))) ?_
  refine ls_on (j:=16) (t:=112) (b:=true) rfl rfl (by kernel_rfl) (by kernel_rfl) ?_
  obtain ⟨t27,hc28,H⟩ := bind_some H
  refine ls_callb (fid:=95) (vals:=#[.agg ⟨([Value.int .i64 (((a0.2.2.2).getD (x3_3).toNat ((0:Int),(0:Int),(0:Int),(0:Int),(vrep 32 (0:Int)))).1)]++([Value.int .i64 (((a0.2.2.2).getD (x3_3).toNat ((0:Int),(0:Int),(0:Int),(0:Int),(vrep 32 (0:Int)))).2.1)]++([Value.int .i64 (((a0.2.2.2).getD (x3_3).toNat ((0:Int),(0:Int),(0:Int),(0:Int),(vrep 32 (0:Int)))).2.2.1)]++([Value.int .u32 (((a0.2.2.2).getD (x3_3).toNat ((0:Int),(0:Int),(0:Int),(0:Int),(vrep 32 (0:Int)))).2.2.2.1)]++en (Value.int .u8) (((a0.2.2.2).getD (x3_3).toNat ((0:Int),(0:Int),(0:Int),(0:Int),(vrep 32 (0:Int)))).2.2.2.2).1))))⟩]) (X:=Unit) (fun x=>.bool t27) (fun x=>stl []) [] [] [] [] 1 rfl rfl (by kernel_rfl) (fun w=>by kernel_rfl) trivial trivial (by decide) (fun w hs hb=>shadowboxref06_Right.calls k3 ((a0.2.2.2).getD (x3_3).toNat ((0:Int),(0:Int),(0:Int),(0:Int),(vrep 32 (0:Int)))) t27 (lent b w [] []) hb  hc28) ?_
  intro x29
  refine ls_on (j:=16) (t:=112) (b:=true) rfl rfl (by kernel_rfl) (by kernel_rfl) ?_
  refine lv (.bool (!t27)) ?_
  refine ls_on (j:=12) (t:=108) (b:=false) rfl rfl (by kernel_rfl) (by kernel_rfl) ?_
  refine lv (.bool (!t27)) ?_
  refine lv (.bool (!t27)) ?_
  refine ls_end ?_
  refine qn_then ?_
  by_cases q30:t27=true
  ·replace H := ite_t q30 H
   refine cs_know (c:=false) (congrArg Bool.not (q30)) 121 (by kernel_rfl) ?_
   refine cs_false (by kernel_rfl) ?_
   refine cs_skip' ?_
   refine qn_block ?_
   refine qn_then ?_
   refine cs_region (l:=[_,_,_]) ?_
   refine lv (.int .i64 x3_3) ?_
   refine lv (.int .i64 (IntKind.wrap .i64 (x3_3+(1:Int)))) ?_
   refine lv (.int .i64 (IntKind.wrap .i64 (x3_3+(1:Int)))) ?_
   refine ls_end ?_
   refine qn_again k3 (sput s0 0 (some (Ck.var 32 g1 (([Value.int .i64 a0.1]++([Value.slice A0_1 a0.2.1.length c0_1]++([Value.slice A0_2 a0.2.2.1.length c0_2]++[Value.slice A0_3 a0.2.2.2.length c0_3]))))))) (Nat.le_refl _) ⟨_,(IntKind.wrap .i64 (x3_3+(1:Int))),fr_next (fr_next (rfl) (by kernel_rfl)) (by kernel_rfl),rfl,H⟩ (sub_put (by exact rfl) (sub_nil _))
  replace H := ite_f q30 H
  refine cs_know (c:=true) (congrArg Bool.not (Bool.eq_false_iff.mpr q30)) 121 (by kernel_rfl) ?_
  refine cs_true (by kernel_rfl) ?_
  refine cs_seq ?_
  refine cs_region (l:=[_]) ?_
  refine lv (.bool false) ?_
  refine ls_end ?_
  refine qn_then ?_
  refine cs_ret' ?_
  refine qr_block ?_
  refine qr_then ?_
  refine qr_then ?_
  refine qr_block ?_
  refine qr_then ?_
  obtain rfl := Option.some.inj H
  refine qr_res (rs:=[_]) rfl (fun w' hs=>⟨[.bool false],(res_tmp (by kernel_rfl) (.nil)),(),rfl,hs.pick (ts:=[]) (cs:=[]) trivial (by decide)⟩)
 replace H := ite_f q22 H
 refine ls_know (c:=false) (dec_f q22) 112 (by kernel_rfl) ?_
 refine lofx 16 112 true false ?_
 refine lofx 16 112 true false ?_
 refine lofx 16 112 true false ?_
 refine lofx 16 112 true false ?_
 refine lofx 16 112 true false ?_
 refine lofx 16 112 true false ?_
 refine lofx 16 112 true false ?_
 refine ls_on (j:=12) (t:=108) (b:=false) rfl rfl (by kernel_rfl) (by kernel_rfl) ?_
 refine lv (.bool false) ?_
 refine lv (.bool false) ?_
 refine ls_end ?_
 refine qn_then ?_
 refine cs_false (by kernel_rfl) ?_
 refine cs_skip' ?_
 refine qn_block ?_
 refine qn_then ?_
 refine cs_region (l:=[_,_,_]) ?_
 refine lv (.int .i64 x3_3) ?_
 refine lv (.int .i64 (IntKind.wrap .i64 (x3_3+(1:Int)))) ?_
 refine lv (.int .i64 (IntKind.wrap .i64 (x3_3+(1:Int)))) ?_
 refine ls_end ?_
 refine qn_again k3 (sput s0 0 (some (Ck.var 32 g1 (([Value.int .i64 a0.1]++([Value.slice A0_1 a0.2.1.length c0_1]++([Value.slice A0_2 a0.2.2.1.length c0_2]++[Value.slice A0_3 a0.2.2.2.length c0_3]))))))) (Nat.le_refl _) ⟨_,(IntKind.wrap .i64 (x3_3+(1:Int))),fr_next (fr_next (rfl) (by kernel_rfl)) (by kernel_rfl),rfl,H⟩ (sub_put (by exact rfl) (sub_nil _))
def shadowboxref01_Short.lo1:Nat→Int→(List Int)→Option ((List Int))
  | 0,_,_=>none
  | k1+1,x1_1,l5_1=>(if x1_1≥(128:Int) then lt (IntKind.wrap .u64 ((Int.tmod x1_1 (128:Int))+(128:Int))) fun y6=>(if (l5_1.length+([IntKind.wrap .u8 y6]).length)*1≤140737488355328 then lt (IntKind.wrap .u64 (Int.tdiv x1_1 (128:Int))) fun y12=>(shadowboxref01_Short.lo1 k1) y12 (l5_1++[IntKind.wrap .u8 y6]) else none) else (if (l5_1.length+([IntKind.wrap .u8 x1_1]).length)*1≤140737488355328 then some (l5_1++[IntKind.wrap .u8 x1_1]) else none))
def shadowboxref01_Short.f (k:Nat) (l0:List Int) (a1:Int):Option ((List Int)) :=
  (if (([]:List Int).length+l0.length)*1≤140737488355328 then shadowboxref01_Short.lo1 k a1 (([]:List Int)++l0) else none)
theorem shadowboxref01_Short.calls (k:Nat) (A0:Option Addr) (c0:Nat) (l0:List Int) (a1:Int) (r:(List Int)) (b:Bs) (hs0:St b (stl []) b.w) (R0:Ro b A0 (em (Ec.int 5 .u8) l0)) (C0:l0.length≤c0) (H:shadowboxref01_Short.f k l0 a1=some r) :
    Calls Try.prog 75 #[.slice A0 l0.length c0,.int .u64 a1] b.w fun e w'=>∃ x:(Option Addr × Nat),e=.returned (.slice x.1 r.length x.2)∧St b (stl [Ck.sl (Ec.int 5 .u8) x.1 x.2 r]) w' := by
 unfold shadowboxref01_Short.f at H
 refine enterb (n:=25) Try.func75 rfl (by kernel_rfl) (by kernel_rfl) hs0 ?_
 refine cs_sub (s0) (sub_nil _) ?_
 refine cs_seq ?_
 refine cs_region (l:=[_]) ?_
 refine lv (.slice none 0 0) ?_
 refine ls_end ?_
 refine qn_then ?_
 refine cs_seq ?_
 refine cs_region (l:=[_,_,_,_]) ?_
 refine ls_lit (Ec.int 5 .u8) 0 rfl rfl (by kernel_rfl) ([]:List Int) (by exact of_decide_eq_true (by kernel_rfl)) (fun w=>by kernel_rfl) ?_
 intro g1
 refine lv (.slice A0 l0.length c0) ?_
 obtain ⟨q2,H⟩ := ite_need H
 refine ls_app (Ec.int 5 .u8) (A:=(some ⟨g1,0,none⟩)) (c:=([]:List Int).length) (B:=A0) (cb:=c0) (z:=(Value.int .u8 0)) (l:=([]:List Int)) (m:=l0) (bytes:=1) 0 rfl rfl (by kernel_rfl) rfl (by kernel_rfl) (by exact rfl) (by kernel_rfl) (fun w hs=>(hs.old R0)) (by kernel_rfl) (by kernel_rfl) rfl (by decide) q2 ?_
 intro xA3 xc4
 refine lv (.slice xA3 (([]:List Int)++l0).length xc4) ?_
 refine ls_end ?_
 refine qn_then ?_
 refine cs_seq ?_
 refine cs_block ?_
 refine cs_sub (sput s0 0 (some (Ck.sl (Ec.int 5 .u8) xA3 xc4 (([]:List Int)++l0)))) (sub_put (by exact rfl) (sub_nil _)) ?_
 refine cs_loop (fun kk f S=>∃ (fR:Fr) (x1_1:Int) (A5_1:Option Addr) (c5_1:Nat) (l5_1:List Int),f=upd (upd fR 1 (.int .u64 x1_1)) 5 (.slice A5_1 l5_1.length c5_1)∧S=sput s0 0 (some (Ck.sl (Ec.int 5 .u8) A5_1 c5_1 l5_1))∧shadowboxref01_Short.lo1 kk x1_1 l5_1=some r) k ?_ ?_ ?_
 ·exact ⟨_,a1,xA3,xc4,(([]:List Int)++l0),fr_next (fr_next (rfl) (by kernel_rfl)) (by kernel_rfl),rfl,H⟩
 ·rintro f S ⟨fr1,x1_1,A5_1,c5_1,l5_1,rfl,rfl,H⟩; cases H
 rintro k1 f S ⟨fr1,x1_1,A5_1,c5_1,l5_1,rfl,rfl,H⟩
 replace H:((if x1_1≥(128:Int) then lt (IntKind.wrap .u64 ((Int.tmod x1_1 (128:Int))+(128:Int))) fun y6=>(if (l5_1.length+([IntKind.wrap .u8 y6]).length)*1≤140737488355328 then lt (IntKind.wrap .u64 (Int.tdiv x1_1 (128:Int))) fun y12=>(shadowboxref01_Short.lo1 k1) y12 (l5_1++[IntKind.wrap .u8 y6]) else none) else (if (l5_1.length+([IntKind.wrap .u8 x1_1]).length)*1≤140737488355328 then some (l5_1++[IntKind.wrap .u8 x1_1]) else none)))=some r := H
 refine cs_seq ?_
 refine cs_seq ?_
 refine cs_region (l:=[_,_]) ?_
 refine lv (.int .u64 x1_1) ?_
 refine lv (.bool (decide (x1_1≥(128:Int)))) ?_
 refine ls_end ?_
 refine qn_then ?_
 by_cases q5:x1_1≥(128:Int)
 ·replace H := ite_t q5 H
  refine cs_know (c:=true) (dec_t q5) 10 (by kernel_rfl) ?_
  refine cs_true (by kernel_rfl) ?_
  refine cs_skip' ?_
  refine qn_then ?_
  refine cs_block ?_
  refine cs_seq ?_
  refine cs_region (l:=[_,_,_,_,_,_,_,_]) ?_
  refine lv (.slice A5_1 l5_1.length c5_1) ?_
  refine lv (.int .u64 x1_1) ?_
  refine lv (.int .u64 (Int.tmod x1_1 (128:Int))) ?_
  obtain ⟨y6,hy7,H⟩ := lt_some H
  refine lv (.int .u64 (IntKind.wrap .u64 ((Int.tmod x1_1 (128:Int))+(128:Int)))) ?_
  refine ls_ren 14 (v:=.int .u64 (IntKind.wrap .u64 ((Int.tmod x1_1 (128:Int))+(128:Int)))) (v' := .int .u64 y6) (by kernel_rfl) (by rw [hy7]) ?_
  refine lv (.int .u8 (IntKind.wrap .u8 y6)) ?_
  refine ls_lit (Ec.int 5 .u8) 1 rfl rfl (by kernel_rfl) ([IntKind.wrap .u8 y6]) (by exact of_decide_eq_true (by kernel_rfl)) (fun w=>by kernel_rfl) ?_
  intro g8
  obtain ⟨q9,H⟩ := ite_need H
  refine ls_app (Ec.int 5 .u8) (A:=A5_1) (c:=c5_1) (B:=(some ⟨g8,0,none⟩)) (cb:=[IntKind.wrap .u8 y6].length) (z:=(Value.int .u8 0)) (l:=l5_1) (m:=[IntKind.wrap .u8 y6]) (bytes:=1) 0 rfl rfl (by kernel_rfl) rfl (by kernel_rfl) (by exact rfl) (by kernel_rfl) (fun w hs=>(hs.rd (k:=1) (by exact rfl))) (by kernel_rfl) (by kernel_rfl) rfl (by decide) q9 ?_
  intro xA10 xc11
  refine lv (.slice xA10 (l5_1++[IntKind.wrap .u8 y6]).length xc11) ?_
  refine ls_end ?_
  refine qn_then ?_
  refine cs_region (l:=[_,_,_]) ?_
  refine lv (.int .u64 x1_1) ?_
  obtain ⟨y12,hy13,H⟩ := lt_some H
  refine lv (.int .u64 (IntKind.wrap .u64 (Int.tdiv x1_1 (128:Int)))) ?_
  refine ls_ren 19 (v:=.int .u64 (IntKind.wrap .u64 (Int.tdiv x1_1 (128:Int)))) (v' := .int .u64 y12) (by kernel_rfl) (by rw [hy13]) ?_
  refine lv (.int .u64 y12) ?_
  refine ls_end ?_
  refine qn_block ?_
  refine qn_again k1 (sput s0 0 (some (Ck.sl (Ec.int 5 .u8) xA10 xc11 (l5_1++[IntKind.wrap .u8 y6])))) (Nat.le_refl _) ⟨_,y12,xA10,xc11,(l5_1++[IntKind.wrap .u8 y6]),fr_next (fr_next (rfl) (by kernel_rfl)) (by kernel_rfl),rfl,H⟩ (sub_put (by exact rfl) (sub_nil _))
 replace H := ite_f q5 H
 refine cs_know (c:=false) (dec_f q5) 10 (by kernel_rfl) ?_
 refine cs_false (by kernel_rfl) ?_
 refine cs_exit' ?_
 refine qx_then ?_
 refine qx_then ?_
 refine qx_same ?_
 refine qn_then ?_
 refine cs_seq ?_
 refine cs_region (l:=[_,_,_,_,_,_]) ?_
 refine lv (.slice A5_1 l5_1.length c5_1) ?_
 refine lv (.int .u64 x1_1) ?_
 refine lv (.int .u8 (IntKind.wrap .u8 x1_1)) ?_
 refine ls_lit (Ec.int 5 .u8) 1 rfl rfl (by kernel_rfl) ([IntKind.wrap .u8 x1_1]) (by exact of_decide_eq_true (by kernel_rfl)) (fun w=>by kernel_rfl) ?_
 intro g14
 obtain ⟨q15,H⟩ := ite_need H
 refine ls_app (Ec.int 5 .u8) (A:=A5_1) (c:=c5_1) (B:=(some ⟨g14,0,none⟩)) (cb:=[IntKind.wrap .u8 x1_1].length) (z:=(Value.int .u8 0)) (l:=l5_1) (m:=[IntKind.wrap .u8 x1_1]) (bytes:=1) 0 rfl rfl (by kernel_rfl) rfl (by kernel_rfl) (by exact rfl) (by kernel_rfl) (fun w hs=>(hs.rd (k:=1) (by exact rfl))) (by kernel_rfl) (by kernel_rfl) rfl (by decide) q15 ?_
 intro xA16 xc17
 refine lv (.slice xA16 (l5_1++[IntKind.wrap .u8 x1_1]).length xc17) ?_
 refine ls_end ?_
 refine qn_then ?_
 refine cs_ret' ?_
 obtain rfl := Option.some.inj H
 refine qr_res (rs:=[_]) rfl (fun w' hs=>⟨[.slice xA16 (l5_1++[IntKind.wrap .u8 x1_1]).length xc17],(res_tmp (by kernel_rfl) (.nil)),(xA16,xc17),rfl,hs.pick (ts:=[0]) (cs:=[Ck.sl (Ec.int 5 .u8) xA16 xc17 (l5_1++[IntKind.wrap .u8 x1_1])]) ⟨by exact rfl,trivial⟩ (by decide)⟩)
def shadowboxref01_Text.f (k:Nat) (l0:List Int) (a1:ByteArray):Option ((List Int)) :=
  (shadowboxref01_Short.f k l0 (IntKind.wrap .u64 (a1.size:Int))).bind fun t1=>(if t1.length+a1.size≤140737488355328 then some (t1++bl a1) else none)
theorem shadowboxref01_Text.calls (k:Nat) (A0:Option Addr) (c0:Nat) (l0:List Int) (a1:ByteArray) (r:(List Int)) (b:Bs) (hs0:St b (stl []) b.w) (R0:Ro b A0 (em (Ec.int 5 .u8) l0)) (C0:l0.length≤c0) (H:shadowboxref01_Text.f k l0 a1=some r) :
    Calls Try.prog 76 #[.slice A0 l0.length c0,.string a1] b.w fun e w'=>∃ x:(Option Addr × Nat),e=.returned (.slice x.1 r.length x.2)∧St b (stl [Ck.sl (Ec.int 5 .u8) x.1 x.2 r]) w' := by
 unfold shadowboxref01_Text.f at H
 refine enterb (n:=12) Try.func76 rfl (by kernel_rfl) (by kernel_rfl) hs0 ?_
 refine cs_sub (s0) (sub_nil _) ?_
 refine cs_seq ?_
 refine cs_region (l:=[_]) ?_
 refine lv (.slice none 0 0) ?_
 refine ls_end ?_
 refine qn_then ?_
 refine cs_seq ?_
 refine cs_region (l:=[_,_,_,_,_,_,_,_]) ?_
 refine lv (.slice A0 l0.length c0) ?_
 refine lv (.string a1) ?_
 refine lv (.int .i64 (a1.size:Int)) ?_
 refine lv (.int .u64 (IntKind.wrap .u64 (a1.size:Int))) ?_
 obtain ⟨t1,hc2,H⟩ := bind_some H
 refine ls_callb (fid:=75) (vals:=#[.slice A0 l0.length c0,.int .u64 (IntKind.wrap .u64 (a1.size:Int))]) (X:=(Option Addr × Nat)) (fun x=>.slice x.1 t1.length x.2) (fun x=>stl [Ck.sl (Ec.int 5 .u8) x.1 x.2 t1]) [] [] [] [] 0 rfl rfl (by kernel_rfl) (fun w=>by kernel_rfl) trivial trivial (by decide) (fun w hs hb=>shadowboxref01_Short.calls k A0 c0 l0 (IntKind.wrap .u64 (a1.size:Int)) t1 (lent b w [] []) hb (hs.ro R0 _ _) C0 hc2) ?_
 intro x3
 refine lv (.string a1) ?_
 obtain ⟨q4,H⟩ := ite_need H
 refine ls_apps (A:=x3.1) (c:=x3.2) (e:=5) (l:=t1) (y:=a1) 0 rfl rfl (by kernel_rfl) rfl (by kernel_rfl) (by exact rfl) (by kernel_rfl) (by kernel_rfl) (by kernel_rfl) (by kernel_rfl) q4 ?_
 intro xA5 xc6
 refine lv (.slice xA5 (t1++bl a1).length xc6) ?_
 refine ls_end ?_
 refine qn_then ?_
 refine cs_ret' ?_
 obtain rfl := Option.some.inj H
 refine qr_res (rs:=[_]) rfl (fun w' hs=>⟨[.slice xA5 (t1++bl a1).length xc6],(res_tmp (by kernel_rfl) (.nil)),(xA5,xc6),rfl,hs.pick (ts:=[0]) (cs:=[Ck.sl (Ec.int 5 .u8) xA5 xc6 (t1++bl a1)]) ⟨by exact rfl,trivial⟩ (by decide)⟩)
def shadowboxref01_Fixed.lo1 (a1:Int):Nat→Int→(List Int)→Int→Option ((List Int))
  | 0,_,_,_=>none
  | k1+1,x2_1,l7_1,x8_1=>(if x8_1<a1 then (if a1≤(8:Int) then lt (IntKind.wrap .u8 (Int.tmod x2_1 (256:Int))) fun y7=>(if (l7_1.length+([y7]).length)*1≤140737488355328 then lt (IntKind.wrap .u64 (Int.tdiv x2_1 (256:Int))) fun y13=>(shadowboxref01_Fixed.lo1 a1 k1) y13 (l7_1++[y7]) (IntKind.wrap .i64 (x8_1+(1:Int))) else none) else some l7_1) else some l7_1)
def shadowboxref01_Fixed.f (k:Nat) (l0:List Int) (a1:Int) (a2:Int):Option ((List Int)) :=
  (if (([]:List Int).length+l0.length)*1≤140737488355328 then shadowboxref01_Fixed.lo1 a1 k a2 (([]:List Int)++l0) (0:Int) else none)
theorem shadowboxref01_Fixed.calls (k:Nat) (A0:Option Addr) (c0:Nat) (l0:List Int) (a1:Int) (a2:Int) (r:(List Int)) (b:Bs) (hs0:St b (stl []) b.w) (R0:Ro b A0 (em (Ec.int 5 .u8) l0)) (C0:l0.length≤c0) (H:shadowboxref01_Fixed.f k l0 a1 a2=some r) :
    Calls Try.prog 104 #[.slice A0 l0.length c0,.int .i64 a1,.int .u64 a2] b.w fun e w'=>∃ x:(Option Addr × Nat),e=.returned (.slice x.1 r.length x.2)∧St b (stl [Ck.sl (Ec.int 5 .u8) x.1 x.2 r]) w' := by
 unfold shadowboxref01_Fixed.f at H
 refine enterb (n:=30) Try.func104 rfl (by kernel_rfl) (by kernel_rfl) hs0 ?_
 refine cs_sub (s0) (sub_nil _) ?_
 refine cs_seq ?_
 refine cs_region (l:=[_]) ?_
 refine lv (.slice none 0 0) ?_
 refine ls_end ?_
 refine qn_then ?_
 refine cs_seq ?_
 refine cs_region (l:=[_,_,_,_]) ?_
 refine ls_lit (Ec.int 5 .u8) 0 rfl rfl (by kernel_rfl) ([]:List Int) (by exact of_decide_eq_true (by kernel_rfl)) (fun w=>by kernel_rfl) ?_
 intro g1
 refine lv (.slice A0 l0.length c0) ?_
 obtain ⟨q2,H⟩ := ite_need H
 refine ls_app (Ec.int 5 .u8) (A:=(some ⟨g1,0,none⟩)) (c:=([]:List Int).length) (B:=A0) (cb:=c0) (z:=(Value.int .u8 0)) (l:=([]:List Int)) (m:=l0) (bytes:=1) 0 rfl rfl (by kernel_rfl) rfl (by kernel_rfl) (by exact rfl) (by kernel_rfl) (fun w hs=>(hs.old R0)) (by kernel_rfl) (by kernel_rfl) rfl (by decide) q2 ?_
 intro xA3 xc4
 refine lv (.slice xA3 (([]:List Int)++l0).length xc4) ?_
 refine ls_end ?_
 refine qn_then ?_
 refine cs_seq ?_
 refine cs_seq ?_
 refine cs_region (l:=[_]) ?_
 refine lv (.int .i64 (0:Int)) ?_
 refine ls_end ?_
 refine qn_then ?_
 refine cs_block ?_
 refine cs_sub (sput s0 0 (some (Ck.sl (Ec.int 5 .u8) xA3 xc4 (([]:List Int)++l0)))) (sub_put (by exact rfl) (sub_nil _)) ?_
 refine cs_loop (fun kk f S=>∃ (fR:Fr) (x2_1:Int) (A7_1:Option Addr) (c7_1:Nat) (l7_1:List Int) (x8_1:Int),f=upd (upd (upd (upd fR 1 (.int .i64 a1)) 2 (.int .u64 x2_1)) 7 (.slice A7_1 l7_1.length c7_1)) 8 (.int .i64 x8_1)∧S=sput s0 0 (some (Ck.sl (Ec.int 5 .u8) A7_1 c7_1 l7_1))∧shadowboxref01_Fixed.lo1 a1 kk x2_1 l7_1 x8_1=some r) k ?_ ?_ ?_
 ·exact ⟨_,a2,xA3,xc4,(([]:List Int)++l0),(0:Int),fr_next (fr_next (fr_next (fr_next (rfl) (by kernel_rfl)) (by kernel_rfl)) (by kernel_rfl)) (by kernel_rfl),rfl,H⟩
 ·rintro f S ⟨fr1,x2_1,A7_1,c7_1,l7_1,x8_1,rfl,rfl,H⟩; cases H
 rintro k1 f S ⟨fr1,x2_1,A7_1,c7_1,l7_1,x8_1,rfl,rfl,H⟩
 replace H:((if x8_1<a1 then (if a1≤(8:Int) then lt (IntKind.wrap .u8 (Int.tmod x2_1 (256:Int))) fun y7=>(if (l7_1.length+([y7]).length)*1≤140737488355328 then lt (IntKind.wrap .u64 (Int.tdiv x2_1 (256:Int))) fun y13=>(shadowboxref01_Fixed.lo1 a1 k1) y13 (l7_1++[y7]) (IntKind.wrap .i64 (x8_1+(1:Int))) else none) else some l7_1) else some l7_1))=some r := H
 refine cs_seq ?_
 refine cs_seq ?_
 refine cs_region (l:=[_,_,_,_,_,_,_]) ?_
 refine lv (.int .i64 x8_1) ?_
 refine lv (.int .i64 a1) ?_
 refine lv (.bool (decide (x8_1<a1))) ?_
 refine lv (.bool (decide (x8_1<a1))) ?_
 by_cases q5:x8_1<a1
 ·replace H := ite_t q5 H
  refine ls_know (c:=true) (dec_t q5) 15 (by kernel_rfl) ?_
  refine ls_on (j:=3) (t:=15) (b:=true) rfl rfl (by kernel_rfl) (by kernel_rfl) ?_
  refine lv (.int .i64 a1) ?_
  refine ls_on (j:=3) (t:=15) (b:=true) rfl rfl (by kernel_rfl) (by kernel_rfl) ?_
  refine lv (.bool (decide (a1≤(8:Int)))) ?_
  refine lv (.bool (decide (a1≤(8:Int)))) ?_
  refine ls_end ?_
  refine qn_then ?_
  by_cases q6:a1≤(8:Int)
  ·replace H := ite_t q6 H
   refine cs_know (c:=true) (dec_t q6) 18 (by kernel_rfl) ?_
   refine cs_true (by kernel_rfl) ?_
   refine cs_skip' ?_
   refine qn_then ?_
   refine cs_seq ?_
   refine cs_block ?_
   refine cs_seq ?_
   refine cs_region (l:=[_,_,_,_,_,_,_]) ?_
   refine lv (.slice A7_1 l7_1.length c7_1) ?_
   refine lv (.int .u64 x2_1) ?_
   refine lv (.int .u64 (Int.tmod x2_1 (256:Int))) ?_
   obtain ⟨y7,hy8,H⟩ := lt_some H
   refine lv (.int .u8 (IntKind.wrap .u8 (Int.tmod x2_1 (256:Int)))) ?_
   refine ls_ren 24 (v:=.int .u8 (IntKind.wrap .u8 (Int.tmod x2_1 (256:Int)))) (v' := .int .u8 y7) (by kernel_rfl) (by rw [hy8]) ?_
   refine ls_lit (Ec.int 5 .u8) 1 rfl rfl (by kernel_rfl) ([y7]) (by exact of_decide_eq_true (by kernel_rfl)) (fun w=>by kernel_rfl) ?_
   intro g9
   obtain ⟨q10,H⟩ := ite_need H
   refine ls_app (Ec.int 5 .u8) (A:=A7_1) (c:=c7_1) (B:=(some ⟨g9,0,none⟩)) (cb:=[y7].length) (z:=(Value.int .u8 0)) (l:=l7_1) (m:=[y7]) (bytes:=1) 0 rfl rfl (by kernel_rfl) rfl (by kernel_rfl) (by exact rfl) (by kernel_rfl) (fun w hs=>(hs.rd (k:=1) (by exact rfl))) (by kernel_rfl) (by kernel_rfl) rfl (by decide) q10 ?_
   intro xA11 xc12
   refine lv (.slice xA11 (l7_1++[y7]).length xc12) ?_
   refine ls_end ?_
   refine qn_then ?_
   refine cs_region (l:=[_,_,_]) ?_
   refine lv (.int .u64 x2_1) ?_
   obtain ⟨y13,hy14,H⟩ := lt_some H
   refine lv (.int .u64 (IntKind.wrap .u64 (Int.tdiv x2_1 (256:Int)))) ?_
   refine ls_ren 28 (v:=.int .u64 (IntKind.wrap .u64 (Int.tdiv x2_1 (256:Int)))) (v' := .int .u64 y13) (by kernel_rfl) (by rw [hy14]) ?_
   refine lv (.int .u64 y13) ?_
   refine ls_end ?_
   refine qn_block ?_
   refine qn_then ?_
   refine cs_region (l:=[_,_,_]) ?_
   refine lv (.int .i64 x8_1) ?_
   refine lv (.int .i64 (IntKind.wrap .i64 (x8_1+(1:Int)))) ?_
   refine lv (.int .i64 (IntKind.wrap .i64 (x8_1+(1:Int)))) ?_
   refine ls_end ?_
   refine qn_again k1 (sput s0 0 (some (Ck.sl (Ec.int 5 .u8) xA11 xc12 (l7_1++[y7])))) (Nat.le_refl _) ⟨_,y13,xA11,xc12,(l7_1++[y7]),(IntKind.wrap .i64 (x8_1+(1:Int))),fr_next (fr_next (fr_next (fr_next (rfl) (by kernel_rfl)) (by kernel_rfl)) (by kernel_rfl)) (by kernel_rfl),rfl,H⟩ (sub_put (by exact rfl) (sub_nil _))
  replace H := ite_f q6 H
  refine cs_know (c:=false) (dec_f q6) 18 (by kernel_rfl) ?_
  refine cs_false (by kernel_rfl) ?_
  refine cs_exit' ?_
  refine qx_then ?_
  refine qx_then ?_
  refine qx_same ?_
  refine qn_then ?_
  refine cs_seq ?_
  refine cs_region (l:=[_,_]) ?_
  refine lv (.slice A7_1 l7_1.length c7_1) ?_
  refine lv (.slice A7_1 l7_1.length c7_1) ?_
  refine ls_end ?_
  refine qn_then ?_
  refine cs_ret' ?_
  obtain rfl := Option.some.inj H
  refine qr_res (rs:=[_]) rfl (fun w' hs=>⟨[.slice A7_1 l7_1.length c7_1],(res_tmp (by kernel_rfl) (.nil)),(A7_1,c7_1),rfl,hs.pick (ts:=[0]) (cs:=[Ck.sl (Ec.int 5 .u8) A7_1 c7_1 l7_1]) ⟨by exact rfl,trivial⟩ (by decide)⟩)
 replace H := ite_f q5 H
 refine ls_know (c:=false) (dec_f q5) 15 (by kernel_rfl) ?_
 refine lofx 3 15 true false ?_
 refine lofx 3 15 true false ?_
 refine lv (.bool false) ?_
 refine ls_end ?_
 refine qn_then ?_
 refine cs_false (by kernel_rfl) ?_
 refine cs_exit' ?_
 refine qx_then ?_
 refine qx_then ?_
 refine qx_same ?_
 refine qn_then ?_
 refine cs_seq ?_
 refine cs_region (l:=[_,_]) ?_
 refine lv (.slice A7_1 l7_1.length c7_1) ?_
 refine lv (.slice A7_1 l7_1.length c7_1) ?_
 refine ls_end ?_
 refine qn_then ?_
 refine cs_ret' ?_
 obtain rfl := Option.some.inj H
 refine qr_res (rs:=[_]) rfl (fun w' hs=>⟨[.slice A7_1 l7_1.length c7_1],(res_tmp (by kernel_rfl) (.nil)),(A7_1,c7_1),rfl,hs.pick (ts:=[0]) (cs:=[Ck.sl (Ec.int 5 .u8) A7_1 c7_1 l7_1]) ⟨by exact rfl,trivial⟩ (by decide)⟩)
def shadowboxref06_Put.lo1 (a1:PT):Nat→(List Int)→Int→Option ((List Int))
  | 0,_,_=>none
  | k1+1,l0_1,x5_1=>(if x5_1<(32:Int) then (if 0≤x5_1 then lt ((a1.2.2.2.2.1.getD (x5_1).toNat (0:Int))) fun y16=>(if (l0_1.length+([y16]).length)*1≤140737488355328 then (shadowboxref06_Put.lo1 a1 k1) (l0_1++[y16]) (IntKind.wrap .i64 (x5_1+(1:Int))) else none) else none) else some l0_1)
def shadowboxref06_Put.f (k:Nat) (l0:List Int) (a1:PT):Option ((List Int)) :=
  (shadowboxref01_Fixed.f k l0 (4:Int) (IntKind.wrap .u64 a1.1)).bind fun t2=>(shadowboxref01_Fixed.f k t2 (4:Int) (IntKind.wrap .u64 a1.2.2.1)).bind fun t5=>(shadowboxref01_Fixed.f k t5 (8:Int) (IntKind.wrap .u64 a1.2.1)).bind fun t8=>(shadowboxref01_Fixed.f k t8 (4:Int) (IntKind.wrap .u64 a1.2.2.2.1)).bind fun t11=>shadowboxref06_Put.lo1 a1 k t11 (0:Int)
theorem shadowboxref06_Put.calls (k:Nat) (A0:Option Addr) (c0:Nat) (l0:List Int) (a1:PT) (r:(List Int)) (b:Bs) (hs0:St b (stl []) b.w) (R0:Ro b A0 (em (Ec.int 5 .u8) l0)) (C0:l0.length≤c0) (H:shadowboxref06_Put.f k l0 a1=some r) :
    Calls Try.prog 96 #[.slice A0 l0.length c0,.agg ⟨([Value.int .i64 a1.1]++([Value.int .i64 a1.2.1]++([Value.int .i64 a1.2.2.1]++([Value.int .u32 a1.2.2.2.1]++en (Value.int .u8) a1.2.2.2.2.1))))⟩] b.w fun e w'=>∃ x:(Option Addr × Nat),e=.returned (.slice x.1 r.length x.2)∧St b (stl [Ck.sl (Ec.int 5 .u8) x.1 x.2 r]) w' := by
 unfold shadowboxref06_Put.f at H
 refine enterb (n:=38) Try.func96 rfl (by kernel_rfl) (by kernel_rfl) hs0 ?_
 refine cs_sub (s0) (sub_nil _) ?_
 refine cs_seq ?_
 refine cs_region (l:=[_,_]) ?_
 refine ls_new rfl rfl (by kernel_rfl) 0 (fun g=>.pointer (some ⟨g,0,none⟩)) (.cells ⟨([Value.int .i64 a1.1]++([Value.int .i64 a1.2.1]++([Value.int .i64 a1.2.2.1]++([Value.int .u32 a1.2.2.2.1]++en (Value.int .u8) a1.2.2.2.2.1))))⟩ 44) (fun w=>by kernel_rfl) ?_
 intro g1
 refine lv (.slice none 0 0) ?_
 refine ls_end ?_
 refine qn_then ?_
 refine cs_seq ?_
 refine cs_region (l:=[_,_,_,_,_,_]) ?_
 refine lv (.slice A0 l0.length c0) ?_
 refine lv (.pointer (some ⟨g1,(0+0),none⟩)) ?_
 refine ls_load (a0:=⟨g1,(0+0),none⟩) (v:=.int .i64 a1.1) (de:=(TypeDesc.int .i64)) rfl rfl (by kernel_rfl) rfl (by kernel_rfl) (by kernel_rfl) (by kernel_rfl) (fun w hs=>(hs.var (k:=0) (by exact rfl) (Sub4.trans (Sub4.all _) (Sub4.head _ _)))) ?_
 refine lv (.int .u64 (IntKind.wrap .u64 a1.1)) ?_
 obtain ⟨t2,hc3,H⟩ := bind_some H
 refine ls_callb (fid:=104) (vals:=#[.slice A0 l0.length c0,.int .i64 (4:Int),.int .u64 (IntKind.wrap .u64 a1.1)]) (X:=(Option Addr × Nat)) (fun x=>.slice x.1 t2.length x.2) (fun x=>stl [Ck.sl (Ec.int 5 .u8) x.1 x.2 t2]) [] [] [] [] 1 rfl rfl (by kernel_rfl) (fun w=>by kernel_rfl) trivial trivial (by decide) (fun w hs hb=>shadowboxref01_Fixed.calls k A0 c0 l0 (4:Int) (IntKind.wrap .u64 a1.1) t2 (lent b w [] []) hb (hs.ro R0 _ _) C0 hc3) ?_
 intro x4
 refine lv (.slice x4.1 t2.length x4.2) ?_
 refine ls_end ?_
 refine qn_then ?_
 refine cs_seq ?_
 refine cs_region (l:=[_,_,_,_,_,_]) ?_
 refine lv (.slice x4.1 t2.length x4.2) ?_
 refine lv (.pointer (some ⟨g1,(0+2),none⟩)) ?_
 refine ls_load (a0:=⟨g1,(0+2),none⟩) (v:=.int .i64 a1.2.2.1) (de:=(TypeDesc.int .i64)) rfl rfl (by kernel_rfl) rfl (by kernel_rfl) (by kernel_rfl) (by kernel_rfl) (fun w hs=>(hs.var (k:=0) (by exact rfl) (Sub4.trans (Sub4.all _) (Sub4.skip (n:=1) (len1 _) (Sub4.skip (n:=1) (len1 _) (Sub4.head _ _)))))) ?_
 refine lv (.int .u64 (IntKind.wrap .u64 a1.2.2.1)) ?_
 obtain ⟨t5,hc6,H⟩ := bind_some H
 refine ls_callb (fid:=104) (vals:=#[.slice x4.1 t2.length x4.2,.int .i64 (4:Int),.int .u64 (IntKind.wrap .u64 a1.2.2.1)]) (X:=(Option Addr × Nat)) (fun x=>.slice x.1 t5.length x.2) (fun x=>stl [Ck.sl (Ec.int 5 .u8) x.1 x.2 t5]) [] [1] [] [Ck.sl (Ec.int 5 .u8) x4.1 x4.2 t2] 2 rfl rfl (by kernel_rfl) (fun w=>by kernel_rfl) trivial ⟨by exact rfl,trivial⟩ (by decide) (fun w hs hb=>shadowboxref01_Fixed.calls k x4.1 x4.2 t2 (4:Int) (IntKind.wrap .u64 a1.2.2.1) t5 (lent b w [] [Ck.sl (Ec.int 5 .u8) x4.1 x4.2 t2]) hb (hs.ror (k:=1) (by exact rfl) (.head _)) (hs.cap (k:=1) (by exact rfl)) hc6) ?_
 intro x7
 refine lv (.slice x7.1 t5.length x7.2) ?_
 refine ls_end ?_
 refine qn_then ?_
 refine cs_seq ?_
 refine cs_region (l:=[_,_,_,_,_,_]) ?_
 refine lv (.slice x7.1 t5.length x7.2) ?_
 refine lv (.pointer (some ⟨g1,(0+1),none⟩)) ?_
 refine ls_load (a0:=⟨g1,(0+1),none⟩) (v:=.int .i64 a1.2.1) (de:=(TypeDesc.int .i64)) rfl rfl (by kernel_rfl) rfl (by kernel_rfl) (by kernel_rfl) (by kernel_rfl) (fun w hs=>(hs.var (k:=0) (by exact rfl) (Sub4.trans (Sub4.all _) (Sub4.skip (n:=1) (len1 _) (Sub4.head _ _))))) ?_
 refine lv (.int .u64 (IntKind.wrap .u64 a1.2.1)) ?_
 obtain ⟨t8,hc9,H⟩ := bind_some H
 refine ls_callb (fid:=104) (vals:=#[.slice x7.1 t5.length x7.2,.int .i64 (8:Int),.int .u64 (IntKind.wrap .u64 a1.2.1)]) (X:=(Option Addr × Nat)) (fun x=>.slice x.1 t8.length x.2) (fun x=>stl [Ck.sl (Ec.int 5 .u8) x.1 x.2 t8]) [] [2] [] [Ck.sl (Ec.int 5 .u8) x7.1 x7.2 t5] 3 rfl rfl (by kernel_rfl) (fun w=>by kernel_rfl) trivial ⟨by exact rfl,trivial⟩ (by decide) (fun w hs hb=>shadowboxref01_Fixed.calls k x7.1 x7.2 t5 (8:Int) (IntKind.wrap .u64 a1.2.1) t8 (lent b w [] [Ck.sl (Ec.int 5 .u8) x7.1 x7.2 t5]) hb (hs.ror (k:=2) (by exact rfl) (.head _)) (hs.cap (k:=2) (by exact rfl)) hc9) ?_
 intro x10
 refine lv (.slice x10.1 t8.length x10.2) ?_
 refine ls_end ?_
 refine qn_then ?_
 refine cs_seq ?_
 refine cs_region (l:=[_,_,_,_,_,_]) ?_
 refine lv (.slice x10.1 t8.length x10.2) ?_
 refine lv (.pointer (some ⟨g1,(0+3),none⟩)) ?_
 refine ls_load (a0:=⟨g1,(0+3),none⟩) (v:=.int .u32 a1.2.2.2.1) (de:=(TypeDesc.int .u32)) rfl rfl (by kernel_rfl) rfl (by kernel_rfl) (by kernel_rfl) (by kernel_rfl) (fun w hs=>(hs.var (k:=0) (by exact rfl) (Sub4.trans (Sub4.all _) (Sub4.skip (n:=1) (len1 _) (Sub4.skip (n:=1) (len1 _) (Sub4.skip (n:=1) (len1 _) (Sub4.head _ _))))))) ?_
 refine lv (.int .u64 (IntKind.wrap .u64 a1.2.2.2.1)) ?_
 obtain ⟨t11,hc12,H⟩ := bind_some H
 refine ls_callb (fid:=104) (vals:=#[.slice x10.1 t8.length x10.2,.int .i64 (4:Int),.int .u64 (IntKind.wrap .u64 a1.2.2.2.1)]) (X:=(Option Addr × Nat)) (fun x=>.slice x.1 t11.length x.2) (fun x=>stl [Ck.sl (Ec.int 5 .u8) x.1 x.2 t11]) [] [3] [] [Ck.sl (Ec.int 5 .u8) x10.1 x10.2 t8] 4 rfl rfl (by kernel_rfl) (fun w=>by kernel_rfl) trivial ⟨by exact rfl,trivial⟩ (by decide) (fun w hs hb=>shadowboxref01_Fixed.calls k x10.1 x10.2 t8 (4:Int) (IntKind.wrap .u64 a1.2.2.2.1) t11 (lent b w [] [Ck.sl (Ec.int 5 .u8) x10.1 x10.2 t8]) hb (hs.ror (k:=3) (by exact rfl) (.head _)) (hs.cap (k:=3) (by exact rfl)) hc12) ?_
 intro x13
 refine lv (.slice x13.1 t11.length x13.2) ?_
 refine ls_end ?_
 refine qn_then ?_
 refine cs_seq ?_
 refine cs_seq ?_
 refine cs_region (l:=[_]) ?_
 refine lv (.int .i64 (0:Int)) ?_
 refine ls_end ?_
 refine qn_then ?_
 refine cs_block ?_
 refine cs_sub (sput (sput s0 0 (some (Ck.var 44 g1 (([Value.int .i64 a1.1]++([Value.int .i64 a1.2.1]++([Value.int .i64 a1.2.2.1]++([Value.int .u32 a1.2.2.2.1]++en (Value.int .u8) a1.2.2.2.2.1)))))))) 4 (some (Ck.sl (Ec.int 5 .u8) x13.1 x13.2 t11))) (sub_put (by exact rfl) (sub_put (by exact rfl) (sub_nil _))) ?_
 refine cs_loop (fun kk f S=>∃ (fR:Fr) (A0_1:Option Addr) (c0_1:Nat) (l0_1:List Int) (x5_1:Int),f=upd (upd (upd fR 0 (.slice A0_1 l0_1.length c0_1)) 3 (.pointer (some ⟨g1,0,none⟩))) 5 (.int .i64 x5_1)∧S=sput (sput s0 0 (some (Ck.var 44 g1 (([Value.int .i64 a1.1]++([Value.int .i64 a1.2.1]++([Value.int .i64 a1.2.2.1]++([Value.int .u32 a1.2.2.2.1]++en (Value.int .u8) a1.2.2.2.2.1)))))))) 4 (some (Ck.sl (Ec.int 5 .u8) A0_1 c0_1 l0_1))∧shadowboxref06_Put.lo1 a1 kk l0_1 x5_1=some r) k ?_ ?_ ?_
 ·exact ⟨_,x13.1,x13.2,t11,(0:Int),fr_next (fr_next (fr_next (rfl) (by kernel_rfl)) (by kernel_rfl)) (by kernel_rfl),rfl,H⟩
 ·rintro f S ⟨fr1,A0_1,c0_1,l0_1,x5_1,rfl,rfl,H⟩; cases H
 rintro k1 f S ⟨fr1,A0_1,c0_1,l0_1,x5_1,rfl,rfl,H⟩
 replace H:((if x5_1<(32:Int) then (if 0≤x5_1 then lt ((a1.2.2.2.2.1.getD (x5_1).toNat (0:Int))) fun y16=>(if (l0_1.length+([y16]).length)*1≤140737488355328 then (shadowboxref06_Put.lo1 a1 k1) (l0_1++[y16]) (IntKind.wrap .i64 (x5_1+(1:Int))) else none) else none) else some l0_1))=some r := H
 refine cs_seq ?_
 refine cs_seq ?_
 refine cs_region (l:=[_,_]) ?_
 refine lv (.int .i64 x5_1) ?_
 refine lv (.bool (decide (x5_1<(32:Int)))) ?_
 refine ls_end ?_
 refine qn_then ?_
 by_cases q14:x5_1<(32:Int)
 ·replace H := ite_t q14 H
  refine cs_know (c:=true) (dec_t q14) 27 (by kernel_rfl) ?_
  refine cs_true (by kernel_rfl) ?_
  refine cs_skip' ?_
  refine qn_then ?_
  refine cs_seq ?_
  refine cs_block ?_
  refine cs_region (l:=[_,_,_,_,_,_,_,_]) ?_
  refine lv (.slice A0_1 l0_1.length c0_1) ?_
  refine lv (.int .i64 x5_1) ?_
  refine lv (.pointer (some ⟨g1,(0+4),none⟩)) ?_
  obtain ⟨q15,H⟩ := ite_need H
  refine ls_idxa1 (g:=g1) (off:=(0+4)) (i:=x5_1) (kk:=.i64) (ln:=32) (e:=5) rfl rfl (by kernel_rfl) rfl (by kernel_rfl) (by kernel_rfl) (by kernel_rfl) (by kernel_rfl) q15 q14 ?_
  obtain ⟨y16,hy17,H⟩ := lt_some H
  refine ls_load (a0:=⟨g1,((0+4)+(x5_1).toNat),none⟩) (v:=.int .u8 (a1.2.2.2.2.1.getD (x5_1).toNat (0:Int))) (de:=(TypeDesc.int .u8)) rfl rfl (by kernel_rfl) rfl (by kernel_rfl) (by kernel_rfl) (by kernel_rfl) (fun w hs=>(hs.var (k:=0) (by exact rfl) (Sub4.trans (Sub4.trans (Sub4.all _) (Sub4.skip (n:=1) (len1 _) (Sub4.skip (n:=1) (len1 _) (Sub4.skip (n:=1) (len1 _) (Sub4.skip (n:=1) (len1 _) (Sub4.all _)))))) (Sub4.one (i:=(x5_1).toNat) (Value.int .u8) a1.2.2.2.2.1 0 (by have := a1.2.2.2.2.2; omega))))) ?_
  refine ls_ren 34 (v:=.int .u8 (a1.2.2.2.2.1.getD (x5_1).toNat (0:Int))) (v' := .int .u8 y16) (by kernel_rfl) (by rw [hy17]) ?_
  refine ls_lit (Ec.int 5 .u8) 5 rfl rfl (by kernel_rfl) ([y16]) (by exact of_decide_eq_true (by kernel_rfl)) (fun w=>by kernel_rfl) ?_
  intro g18
  obtain ⟨q19,H⟩ := ite_need H
  refine ls_app (Ec.int 5 .u8) (A:=A0_1) (c:=c0_1) (B:=(some ⟨g18,0,none⟩)) (cb:=[y16].length) (z:=(Value.int .u8 0)) (l:=l0_1) (m:=[y16]) (bytes:=1) 4 rfl rfl (by kernel_rfl) rfl (by kernel_rfl) (by exact rfl) (by kernel_rfl) (fun w hs=>(hs.rd (k:=5) (by exact rfl))) (by kernel_rfl) (by kernel_rfl) rfl (by decide) q19 ?_
  intro xA20 xc21
  refine lv (.slice xA20 (l0_1++[y16]).length xc21) ?_
  refine ls_end ?_
  refine qn_block ?_
  refine qn_then ?_
  refine cs_region (l:=[_,_,_]) ?_
  refine lv (.int .i64 x5_1) ?_
  refine lv (.int .i64 (IntKind.wrap .i64 (x5_1+(1:Int)))) ?_
  refine lv (.int .i64 (IntKind.wrap .i64 (x5_1+(1:Int)))) ?_
  refine ls_end ?_
  refine qn_again k1 (sput (sput s0 0 (some (Ck.var 44 g1 (([Value.int .i64 a1.1]++([Value.int .i64 a1.2.1]++([Value.int .i64 a1.2.2.1]++([Value.int .u32 a1.2.2.2.1]++en (Value.int .u8) a1.2.2.2.2.1)))))))) 4 (some (Ck.sl (Ec.int 5 .u8) xA20 xc21 (l0_1++[y16])))) (Nat.le_refl _) ⟨_,xA20,xc21,(l0_1++[y16]),(IntKind.wrap .i64 (x5_1+(1:Int))),fr_next (fr_next (fr_next (rfl) (by kernel_rfl)) (by kernel_rfl)) (by kernel_rfl),rfl,H⟩ (sub_put (by exact rfl) (sub_put (by exact rfl) (sub_nil _)))
 replace H := ite_f q14 H
 refine cs_know (c:=false) (dec_f q14) 27 (by kernel_rfl) ?_
 refine cs_false (by kernel_rfl) ?_
 refine cs_exit' ?_
 refine qx_then ?_
 refine qx_then ?_
 refine qx_same ?_
 refine qn_then ?_
 refine cs_seq ?_
 refine cs_region (l:=[_,_]) ?_
 refine lv (.slice A0_1 l0_1.length c0_1) ?_
 refine lv (.slice A0_1 l0_1.length c0_1) ?_
 refine ls_end ?_
 refine qn_then ?_
 refine cs_ret' ?_
 obtain rfl := Option.some.inj H
 refine qr_res (rs:=[_]) rfl (fun w' hs=>⟨[.slice A0_1 l0_1.length c0_1],(res_tmp (by kernel_rfl) (.nil)),(A0_1,c0_1),rfl,hs.pick (ts:=[4]) (cs:=[Ck.sl (Ec.int 5 .u8) A0_1 c0_1 l0_1]) ⟨by exact rfl,trivial⟩ (by decide)⟩)
def shadowboxref16_all.jo3 (a0:NO) (l3_1:List Int) (x4_1:Int) (k1:Nat) (lo1:(List Int)→Int→Option ((List Int))) (x5_3:Int):Option ((List Int)) := (shadowboxref01_Short.f k1 l3_1 (IntKind.wrap .u64 x5_3)).bind fun t8=>(if 0≤x4_1 then (if x4_1<(a0.2.1.length:Int) then (if 0≤x5_3 then (if x5_3≤(((a0.2.1).getD (x4_1).toNat ([]:List Int)).length:Int) then lt (((a0.2.1).getD (x4_1).toNat ([]:List Int)).drop (x5_3).toNat) fun xl25=>(shadowboxref01_Text.f k1 t8 (strOfNums xl25)).bind fun t30=>(if a0.1=(0:Int) then (if x4_1<(a0.2.2.1.length:Int) then lt (strOfNums ((a0.2.2.1).getD (x4_1).toNat ([]:List Int))) fun y41=>(shadowboxref01_Text.f k1 t30 y41).bind fun t43=>lo1 t43 (IntKind.wrap .i64 (x4_1+(1:Int))) else none) else (if x4_1<(a0.2.2.2.length:Int) then (shadowboxref06_Put.f k1 t30 ((a0.2.2.2).getD (x4_1).toNat ((0:Int),(0:Int),(0:Int),(0:Int),(vrep 32 (0:Int))))).bind fun t49=>lo1 t49 (IntKind.wrap .i64 (x4_1+(1:Int))) else none)) else none) else none) else none) else none)
def shadowboxref16_all.tab52:List (List Nat) := [[],[],[1],[],[1,2,3],[1,2,3,4],[1,2,3,4,5],[0,1,2,3,4,5,6],[0,1,2,3,4,5,6,7],[0,1,2,3,4,5,6,7,8],[0,1,2,3,4,5,6,7,8],[0,1,2,3,4,5,6,7,8,10],[0,1,2,3,4,5,6,7,8],[0,1,2,3,4,5,6,7,8,12],[0,1,2,3,4,5,6,7,8,10,11,12,13],[0,1,2,3,4,5,6,7,8,10,11,12,13,14],[0,1,2,3,4,5,6,7,8,10,11,12,13,14,15],[0,1,2,3,4,5,6,7,8,9,10,11,12,13,14,15,16],[0,1,2,3,4,5,6,7,8,9,10,11,12,13,14,15,16,17],[0,1,2,3,4,5,6,7,8,9,10,11,12,13,14,15,16,17,18],[0,1,2,3,4,5,6,7,8,9,10,11,12,13,14,15,16,17,18,19],[0,1,2,3,4,5,6,7,8,9,10,11,12,13,14,15,16,17,18,19,20],[0,1,2,3,4,5,6,7,8,9,10,11,12,13,14,15,16,17,18,19],[0,1,2,3,4,5,6,7,8,9,10,11,12,13,14,15,16,17,18,19,20,21,22],[0,1,2,3,4,5,6,7,8,9,10,11,12,13,14,15,16,17,18,19,20,21,22,23],[0,1,2,3,4,5,6,7,8,9,10,11,12,13,14,15,16,17,18,19],[0,1,2,3,4,5,6,7,8,9,10,11,12,13,14,15,16,17,18,19,20,21,22,23,24,25],[0,1,2,3,4,5,6,7,8,9,10,11,12,13,14,15,16,17,18,19,20,21,22,23,24,25,26],[0,1,2,3,4,5,6,7,8,9,10,11,12,13,14,15,16,17,18,19],[0,1,2,3,4,5,6,7,8,9,10,11,12,13,14,15,16,17,18,19,28],[0,1,2,3,4,5,6,7,8,9,10,11,12,13,14,15,16,17,18,19],[0,1,2,3,4,5,6,7,8,9,10,11,12,13,14,15,16,17,18,19,30],[0,1,2,3,4,5,6,7,8,9,10,11,12,13,14,15,16,17,18,19,28,29,30,31],[0,1,2,3,4,5,6,7,8,9,10,11,12,13,14,15,16,17,18,19,28,29,30,31,32],[0,1,2,3,4,5,6,7,8,9,10,11,12,13,14,15,16,17,18,19],[0,1,2,3,4,5,6,7,8,9,10,11,12,13,14,15,16,17,18,19,28,29,30,31,32,33,34],[0,1,2,3,4,5,6,7,8,9,10,11,12,13,14,15,16,17,18,19,28,29,30,31,32,33,34,35],[0,1,2,3,4,5,6,7,8,9,10,11,12,13,14,15,16,17,18,19,20,21,22,23,24,25,26,27,28,29,30,31,32,33,34,35,36],[0,1,2,3,4,5,6,7,8,9,10,11,12,13,14,15,16,17,18,19,20,21,22,23,24,25,26,27,28,29,30,31,32,33,34,35,36,37]]
def shadowboxref16_all.lo4 (a0:NO) (x4_1:Int) (jo3:Int→Option ((List Int))):Nat→Int→Option ((List Int))
  | 0,_=>none
  | k4+1,x5_4=>(if 0≤x4_1 then (if x4_1<(a0.2.1.length:Int) then lt ((((a0.2.1).getD (x4_1).toNat ([]:List Int)).length:Int)) fun y63=>(if x5_4<y63 then (if 0≤IntKind.wrap .i64 (x4_1 - (1:Int)) then (if IntKind.wrap .i64 (x4_1 - (1:Int))<(a0.2.1.length:Int) then lt ((((a0.2.1).getD (IntKind.wrap .i64 (x4_1 - (1:Int))).toNat ([]:List Int)).length:Int)) fun y74=>(if x5_4<y74 then (if 0≤x5_4 then (if x5_4<(((a0.2.1).getD (x4_1).toNat ([]:List Int)).length:Int) then lt (((((a0.2.1).getD (x4_1).toNat ([]:List Int))).getD (x5_4).toNat (0:Int))) fun y87=>(if x5_4<(((a0.2.1).getD (IntKind.wrap .i64 (x4_1 - (1:Int))).toNat ([]:List Int)).length:Int) then lt (((((a0.2.1).getD (IntKind.wrap .i64 (x4_1 - (1:Int))).toNat ([]:List Int))).getD (x5_4).toNat (0:Int))) fun y98=>(if y87=y98 then (shadowboxref16_all.lo4 a0 x4_1 jo3 k4) (IntKind.wrap .i64 (x5_4+(1:Int))) else jo3 x5_4) else none) else none) else none) else jo3 x5_4) else none) else none) else jo3 x5_4) else none) else none)
def shadowboxref16_all.jo2 (a0:NO) (l3_1:List Int) (x4_1:Int) (k1:Nat) (lo1:(List Int)→Int→Option ((List Int))):Option ((List Int)) := (if x4_1 > (0:Int) then shadowboxref16_all.lo4 a0 x4_1 (shadowboxref16_all.jo3 a0 l3_1 x4_1 k1 lo1) k1 (0:Int) else (shadowboxref16_all.jo3 a0 l3_1 x4_1 k1 lo1) (0:Int))
def shadowboxref16_all.lo1 (a0:NO):Nat→(List Int)→Int→Option ((List Int))
  | 0,_,_=>none
  | k1+1,l3_1,x4_1=>(if x4_1<(a0.2.1.length:Int) then (shadowboxref16_all.jo2 a0 l3_1 x4_1 k1 (shadowboxref16_all.lo1 a0 k1)) else some l3_1)
def shadowboxref16_all.f (k:Nat) (a0:NO):Option ((List Int)) :=
  (shadowboxref01_Short.f k ([]:List Int) (IntKind.wrap .u64 a0.1)).bind fun t2=>(shadowboxref01_Short.f k t2 (IntKind.wrap .u64 (a0.2.1.length:Int))).bind fun t5=>shadowboxref16_all.lo1 a0 k t5 (0:Int)
theorem shadowboxref16_all.calls (k:Nat) (A0_1:Option Addr) (c0_1:Nat) (A0_2:Option Addr) (c0_2:Nat) (A0_3:Option Addr) (c0_3:Nat) (a0:NO) (r:(List Int)) (b:Bs) (hs0:St b (stl []) b.w) (R0_1:RoS 23 (Ec.int 5 .u8) b A0_1 a0.2.1) (C0_1:a0.2.1.length≤c0_1) (R0_2:RoS 23 (Ec.int 5 .u8) b A0_2 a0.2.2.1) (C0_2:a0.2.2.1.length≤c0_2) (R0_3:Ro b A0_3 (em T44 a0.2.2.2)) (C0_3:a0.2.2.2.length≤c0_3) (H:shadowboxref16_all.f k a0=some r) :
    Calls Try.prog 68 #[.agg ⟨([Value.int .i64 a0.1]++([Value.slice A0_1 a0.2.1.length c0_1]++([Value.slice A0_2 a0.2.2.1.length c0_2]++[Value.slice A0_3 a0.2.2.2.length c0_3])))⟩] b.w fun e w'=>∃ x:(Option Addr × Nat),e=.returned (.slice x.1 r.length x.2)∧St b (stl [Ck.ro (Ec.int 5 .u8) x.1 x.2 r]) w' := by
 unfold shadowboxref16_all.f at H
 refine enterb (n:=99) Try.func68 rfl (by kernel_rfl) (by kernel_rfl) hs0 ?_
 refine cs_sub (s0) (sub_nil _) ?_
 refine cs_seq ?_
 refine cs_region (l:=[_,_]) ?_
 refine ls_new rfl rfl (by kernel_rfl) 0 (fun g=>.pointer (some ⟨g,0,none⟩)) (.cells ⟨([Value.int .i64 a0.1]++([Value.slice A0_1 a0.2.1.length c0_1]++([Value.slice A0_2 a0.2.2.1.length c0_2]++[Value.slice A0_3 a0.2.2.2.length c0_3])))⟩ 32) (fun w=>by kernel_rfl) ?_
 intro g1
 refine lv (.slice none 0 0) ?_
 refine ls_end ?_
 refine qn_then ?_
 refine cs_seq ?_
 refine cs_region (l:=[_,_,_,_,_]) ?_
 refine lv (.pointer (some ⟨g1,(0+0),none⟩)) ?_
 refine ls_load (a0:=⟨g1,(0+0),none⟩) (v:=.int .i64 a0.1) (de:=(TypeDesc.int .i64)) rfl rfl (by kernel_rfl) rfl (by kernel_rfl) (by kernel_rfl) (by kernel_rfl) (fun w hs=>(hs.var (k:=0) (by exact rfl) (Sub4.trans (Sub4.all _) (Sub4.head _ _)))) ?_
 refine lv (.int .u64 (IntKind.wrap .u64 a0.1)) ?_
 obtain ⟨t2,hc3,H⟩ := bind_some H
 refine ls_callb (fid:=75) (vals:=#[.slice none ([]:List Int).length 0,.int .u64 (IntKind.wrap .u64 a0.1)]) (X:=(Option Addr × Nat)) (fun x=>.slice x.1 t2.length x.2) (fun x=>stl [Ck.sl (Ec.int 5 .u8) x.1 x.2 t2]) [] [] [] [] 1 rfl rfl (by kernel_rfl) (fun w=>by kernel_rfl) trivial trivial (by decide) (fun w hs hb=>shadowboxref01_Short.calls k none 0 ([]:List Int) (IntKind.wrap .u64 a0.1) t2 (lent b w [] []) hb (Ro.nil _ _) (Nat.le_refl 0) hc3) ?_
 intro x4
 refine lv (.slice x4.1 t2.length x4.2) ?_
 refine ls_end ?_
 refine qn_then ?_
 refine cs_seq ?_
 refine cs_region (l:=[_,_,_,_,_,_,_]) ?_
 refine lv (.slice x4.1 t2.length x4.2) ?_
 refine lv (.pointer (some ⟨g1,(0+1),none⟩)) ?_
 refine ls_load (a0:=⟨g1,(0+1),none⟩) (v:=.slice A0_1 a0.2.1.length c0_1) (de:=(TypeDesc.slice 23)) rfl rfl (by kernel_rfl) rfl (by kernel_rfl) (by kernel_rfl) (by kernel_rfl) (fun w hs=>(hs.var (k:=0) (by exact rfl) (Sub4.trans (Sub4.all _) (Sub4.skip (n:=1) (len1 _) (Sub4.head _ _))))) ?_
 refine lv (.int .i64 (a0.2.1.length:Int)) ?_
 refine lv (.int .u64 (IntKind.wrap .u64 (a0.2.1.length:Int))) ?_
 obtain ⟨t5,hc6,H⟩ := bind_some H
 refine ls_callb (fid:=75) (vals:=#[.slice x4.1 t2.length x4.2,.int .u64 (IntKind.wrap .u64 (a0.2.1.length:Int))]) (X:=(Option Addr × Nat)) (fun x=>.slice x.1 t5.length x.2) (fun x=>stl [Ck.sl (Ec.int 5 .u8) x.1 x.2 t5]) [] [1] [] [Ck.sl (Ec.int 5 .u8) x4.1 x4.2 t2] 2 rfl rfl (by kernel_rfl) (fun w=>by kernel_rfl) trivial ⟨by exact rfl,trivial⟩ (by decide) (fun w hs hb=>shadowboxref01_Short.calls k x4.1 x4.2 t2 (IntKind.wrap .u64 (a0.2.1.length:Int)) t5 (lent b w [] [Ck.sl (Ec.int 5 .u8) x4.1 x4.2 t2]) hb (hs.ror (k:=1) (by exact rfl) (.head _)) (hs.cap (k:=1) (by exact rfl)) hc6) ?_
 intro x7
 refine lv (.slice x7.1 t5.length x7.2) ?_
 refine ls_end ?_
 refine qn_then ?_
 refine cs_seq ?_
 refine cs_seq ?_
 refine cs_region (l:=[_]) ?_
 refine lv (.int .i64 (0:Int)) ?_
 refine ls_end ?_
 refine qn_then ?_
 refine cs_block ?_
 refine cs_toro (T:=(Ec.int 5 .u8)) (A:=x7.1) (c:=x7.2) (l:=t5) 2 3 (by exact rfl) ?_
 refine cs_sub (sput (sput s0 0 (some (Ck.var 32 g1 (([Value.int .i64 a0.1]++([Value.slice A0_1 a0.2.1.length c0_1]++([Value.slice A0_2 a0.2.2.1.length c0_2]++[Value.slice A0_3 a0.2.2.2.length c0_3]))))))) 3 (some (Ck.ro (Ec.int 5 .u8) x7.1 x7.2 t5))) (sub_put (by exact rfl) (sub_put (by exact rfl) (sub_nil _))) ?_
 refine cs_loop (fun kk f S=>∃ (fR:Fr) (A3_1:Option Addr) (c3_1:Nat) (l3_1:List Int) (x4_1:Int),f=upd (upd (upd fR 1 (.pointer (some ⟨g1,0,none⟩))) 3 (.slice A3_1 l3_1.length c3_1)) 4 (.int .i64 x4_1)∧S=sput (sput s0 0 (some (Ck.var 32 g1 (([Value.int .i64 a0.1]++([Value.slice A0_1 a0.2.1.length c0_1]++([Value.slice A0_2 a0.2.2.1.length c0_2]++[Value.slice A0_3 a0.2.2.2.length c0_3]))))))) 3 (some (Ck.ro (Ec.int 5 .u8) A3_1 c3_1 l3_1))∧shadowboxref16_all.lo1 a0 kk l3_1 x4_1=some r) k ?_ ?_ ?_
 ·exact ⟨_,x7.1,x7.2,t5,(0:Int),fr_next (fr_next (fr_next (rfl) (by kernel_rfl)) (by kernel_rfl)) (by kernel_rfl),rfl,H⟩
 ·rintro f S ⟨fr1,A3_1,c3_1,l3_1,x4_1,rfl,rfl,H⟩; cases H
 rintro k1 f S ⟨fr1,A3_1,c3_1,l3_1,x4_1,rfl,rfl,H⟩
 replace H:((if x4_1<(a0.2.1.length:Int) then (shadowboxref16_all.jo2 a0 l3_1 x4_1 k1 (shadowboxref16_all.lo1 a0 k1)) else some l3_1))=some r := H
 refine cs_cut (fun f S=>∃ (fR:Fr),f=upd (upd (upd fR 1 (.pointer (some ⟨g1,0,none⟩))) 3 (.slice A3_1 l3_1.length c3_1)) 4 (.int .i64 x4_1)∧S=sput (sput s0 0 (some (Ck.var 32 g1 (([Value.int .i64 a0.1]++([Value.slice A0_1 a0.2.1.length c0_1]++([Value.slice A0_2 a0.2.2.1.length c0_2]++[Value.slice A0_3 a0.2.2.2.length c0_3]))))))) 3 (some (Ck.ro (Ec.int 5 .u8) A3_1 c3_1 l3_1))∧shadowboxref16_all.jo2 a0 l3_1 x4_1 k1 (shadowboxref16_all.lo1 a0 k1)=some r) ?_ ?_
 ·skip
  refine cs_seq ?_
  refine cs_region (l:=[_,_,_,_,_]) ?_
  refine lv (.int .i64 x4_1) ?_
  refine lv (.pointer (some ⟨g1,(0+1),none⟩)) ?_
  refine ls_load (a0:=⟨g1,(0+1),none⟩) (v:=.slice A0_1 a0.2.1.length c0_1) (de:=(TypeDesc.slice 23)) rfl rfl (by kernel_rfl) rfl (by kernel_rfl) (by kernel_rfl) (by kernel_rfl) (fun w hs=>(hs.var (k:=0) (by exact rfl) (Sub4.trans (Sub4.all _) (Sub4.skip (n:=1) (len1 _) (Sub4.head _ _))))) ?_
  refine lv (.int .i64 (a0.2.1.length:Int)) ?_
  refine lv (.bool (decide (x4_1<(a0.2.1.length:Int)))) ?_
  refine ls_end ?_
  refine qn_then ?_
  by_cases q101:x4_1<(a0.2.1.length:Int)
  ·replace H := ite_t q101 H
   refine cs_know (c:=true) (dec_t q101) 20 (by kernel_rfl) ?_
   refine cs_true (by kernel_rfl) ?_
   refine cs_skip' ?_
   refine qn_meet (sput (sput s0 0 (some (Ck.var 32 g1 (([Value.int .i64 a0.1]++([Value.slice A0_1 a0.2.1.length c0_1]++([Value.slice A0_2 a0.2.2.1.length c0_2]++[Value.slice A0_3 a0.2.2.2.length c0_3]))))))) 3 (some (Ck.ro (Ec.int 5 .u8) A3_1 c3_1 l3_1))) ⟨_,fr_next (fr_next (fr_next (rfl) (by kernel_rfl)) (by kernel_rfl)) (by kernel_rfl),rfl,H⟩ (sub_put (by exact rfl) (sub_put (by exact rfl) (sub_nil _)))
  replace H := ite_f q101 H
  refine cs_know (c:=false) (dec_f q101) 20 (by kernel_rfl) ?_
  refine cs_false (by kernel_rfl) ?_
  refine cs_exit' ?_
  refine qx_then ?_
  refine qx_then ?_
  refine qx_same ?_
  refine qn_then ?_
  refine cs_seq ?_
  refine cs_region (l:=[_,_]) ?_
  refine lv (.slice A3_1 l3_1.length c3_1) ?_
  refine lv (.slice A3_1 l3_1.length c3_1) ?_
  refine ls_end ?_
  refine qn_then ?_
  refine cs_ret' ?_
  obtain rfl := Option.some.inj H
  refine qr_res (rs:=[_]) rfl (fun w' hs=>⟨[.slice A3_1 l3_1.length c3_1],(res_tmp (by kernel_rfl) (.nil)),(A3_1,c3_1),rfl,hs.pick (ts:=[3]) (cs:=[Ck.ro (Ec.int 5 .u8) A3_1 c3_1 l3_1]) ⟨by exact rfl,trivial⟩ (by decide)⟩)
 rintro f S ⟨fr2,rfl,rfl,H⟩
 replace H:((if x4_1 > (0:Int) then shadowboxref16_all.lo4 a0 x4_1 (shadowboxref16_all.jo3 a0 l3_1 x4_1 k1 (shadowboxref16_all.lo1 a0 k1)) k1 (0:Int) else (shadowboxref16_all.jo3 a0 l3_1 x4_1 k1 (shadowboxref16_all.lo1 a0 k1)) (0:Int)))=some r := H
 refine cs_seq ?_
 refine cs_block ?_
 refine cs_seq ?_
 refine cs_region (l:=[_]) ?_
 refine lv (.int .i64 (0:Int)) ?_
 refine ls_end ?_
 refine qn_then ?_
 refine cs_cut (fun f S=>∃ (fR:Fr) (x5_3:Int),f=upd (upd (upd (upd fR 1 (.pointer (some ⟨g1,0,none⟩))) 3 (.slice A3_1 l3_1.length c3_1)) 4 (.int .i64 x4_1)) 5 (.int .i64 x5_3)∧S=sput (sput s0 0 (some (Ck.var 32 g1 (([Value.int .i64 a0.1]++([Value.slice A0_1 a0.2.1.length c0_1]++([Value.slice A0_2 a0.2.2.1.length c0_2]++[Value.slice A0_3 a0.2.2.2.length c0_3]))))))) 3 (some (Ck.ro (Ec.int 5 .u8) A3_1 c3_1 l3_1))∧shadowboxref16_all.jo3 a0 l3_1 x4_1 k1 (shadowboxref16_all.lo1 a0 k1) x5_3=some r) ?_ ?_
 ·skip
  refine cs_seq ?_
  refine cs_region (l:=[_,_]) ?_
  refine lv (.int .i64 x4_1) ?_
  refine lv (.bool (decide (x4_1 > (0:Int)))) ?_
  refine ls_end ?_
  refine qn_then ?_
  by_cases q52:x4_1 > (0:Int)
  ·replace H := ite_t q52 H
   refine cs_know (c:=true) (dec_t q52) 24 (by kernel_rfl) ?_
   refine cs_true (by kernel_rfl) ?_
   refine cs_block ?_
   refine cs_sub (sput (sput s0 0 (some (Ck.var 32 g1 (([Value.int .i64 a0.1]++([Value.slice A0_1 a0.2.1.length c0_1]++([Value.slice A0_2 a0.2.2.1.length c0_2]++[Value.slice A0_3 a0.2.2.2.length c0_3]))))))) 3 (some (Ck.ro (Ec.int 5 .u8) A3_1 c3_1 l3_1))) (sub_put (by exact rfl) (sub_put (by exact rfl) (sub_nil _))) ?_
   refine cs_loop (fun kk f S=>∃ (fR:Fr) (x5_4:Int),f=upd (upd (upd (upd fR 1 (.pointer (some ⟨g1,0,none⟩))) 3 (.slice A3_1 l3_1.length c3_1)) 4 (.int .i64 x4_1)) 5 (.int .i64 x5_4)∧S=sput (sput s0 0 (some (Ck.var 32 g1 (([Value.int .i64 a0.1]++([Value.slice A0_1 a0.2.1.length c0_1]++([Value.slice A0_2 a0.2.2.1.length c0_2]++[Value.slice A0_3 a0.2.2.2.length c0_3]))))))) 3 (some (Ck.ro (Ec.int 5 .u8) A3_1 c3_1 l3_1))∧shadowboxref16_all.lo4 a0 x4_1 (shadowboxref16_all.jo3 a0 l3_1 x4_1 k1 (shadowboxref16_all.lo1 a0 k1)) kk x5_4=some r) k1 ?_ ?_ ?_
   ·exact ⟨_,(0:Int),fr_next (fr_next (fr_next (fr_next (rfl) (by kernel_rfl)) (by kernel_rfl)) (by kernel_rfl)) (by kernel_rfl),rfl,H⟩
   ·rintro f S ⟨fr4,x5_4,rfl,rfl,H⟩; cases H
   rintro k4 f S ⟨fr4,x5_4,rfl,rfl,H⟩
   replace H:((if 0≤x4_1 then (if x4_1<(a0.2.1.length:Int) then lt ((((a0.2.1).getD (x4_1).toNat ([]:List Int)).length:Int)) fun y63=>(if x5_4<y63 then (if 0≤IntKind.wrap .i64 (x4_1 - (1:Int)) then (if IntKind.wrap .i64 (x4_1 - (1:Int))<(a0.2.1.length:Int) then lt ((((a0.2.1).getD (IntKind.wrap .i64 (x4_1 - (1:Int))).toNat ([]:List Int)).length:Int)) fun y74=>(if x5_4<y74 then (if 0≤x5_4 then (if x5_4<(((a0.2.1).getD (x4_1).toNat ([]:List Int)).length:Int) then lt (((((a0.2.1).getD (x4_1).toNat ([]:List Int))).getD (x5_4).toNat (0:Int))) fun y87=>(if x5_4<(((a0.2.1).getD (IntKind.wrap .i64 (x4_1 - (1:Int))).toNat ([]:List Int)).length:Int) then lt (((((a0.2.1).getD (IntKind.wrap .i64 (x4_1 - (1:Int))).toNat ([]:List Int))).getD (x5_4).toNat (0:Int))) fun y98=>(if y87=y98 then (shadowboxref16_all.lo4 a0 x4_1 (shadowboxref16_all.jo3 a0 l3_1 x4_1 k1 (shadowboxref16_all.lo1 a0 k1)) k4) (IntKind.wrap .i64 (x5_4+(1:Int))) else (shadowboxref16_all.jo3 a0 l3_1 x4_1 k1 (shadowboxref16_all.lo1 a0 k1)) x5_4) else none) else none) else none) else (shadowboxref16_all.jo3 a0 l3_1 x4_1 k1 (shadowboxref16_all.lo1 a0 k1)) x5_4) else none) else none) else (shadowboxref16_all.jo3 a0 l3_1 x4_1 k1 (shadowboxref16_all.lo1 a0 k1)) x5_4) else none) else none))=some r := H
   refine cs_seq ?_
   refine cs_seq ?_
   obtain ⟨s54_0,hs54_0⟩ := exv (.int .i64 x5_4)
   refine have_opa shadowboxref16_all.tab52 4 0 (fun sp=>sp 0=s54_0) (fun sp on hA hon=>?_) (fun ops54_0=>?_)
   ·refine ⟨fun o ho vs Rs f' S' w hp hf hx hS hR hs=>?_⟩
    obtain rfl := Option.some.inj ho
    exact opv (.int .i64 x5_4) hA hs54_0 hon (fr_next (rfl) ((hx 5 (by kernel_rfl)).trans (by kernel_rfl:(_:Value)=.int .i64 x5_4)))
   obtain ⟨s54_1,hs54_1⟩ := exv (.pointer (some ⟨g1,(0+1),none⟩))
   refine have_opa shadowboxref16_all.tab52 4 1 (fun sp=>sp 1=s54_1) (fun sp on hA hon=>?_) (fun ops54_1=>?_)
   ·refine ⟨fun o ho vs Rs f' S' w hp hf hx hS hR hs=>?_⟩
    obtain rfl := Option.some.inj ho
    exact opv (.pointer (some ⟨g1,(0+1),none⟩)) hA hs54_1 hon (fr_next (rfl) ((hx 1 (by kernel_rfl)).trans (by kernel_rfl:(_:Value)=.pointer (some ⟨g1,0,none⟩))))
   obtain ⟨s54_2,hs54_2⟩ := exv (.slice A0_1 a0.2.1.length c0_1)
   refine have_opa shadowboxref16_all.tab52 4 2 (fun sp=>sp 2=s54_2∧sp 1=s54_1) (fun sp on hA hon=>?_) (fun ops54_2=>?_)
   ·refine ⟨fun o ho vs Rs f' S' w hp hf hx hS hR hs=>?_⟩
    obtain rfl := Option.some.inj ho
    obtain ⟨hv1,hR1⟩ := (spe hA.2 hs54_1 (hp 1 (by kernel_rfl)))
    rw [hA.1,hs54_2]
    refine wn hon ?_
    have hF := fr_next (rfl) ((hf 1 26 (by kernel_rfl) rfl).trans hv1)
    refine ls_fr hF ?_
    refine ls_load (a0:=⟨g1,(0+1),none⟩) (v:=.slice A0_1 a0.2.1.length c0_1) (de:=(TypeDesc.slice 23)) rfl rfl (by kernel_rfl) rfl (by kernel_rfl) (by kernel_rfl) (by kernel_rfl) (fun w1 hs1=>cell_step hs1.below.bw (hs.var (k:=0) ((hS 0 (by kernel_rfl)).trans (by exact rfl)) (Sub4.trans (Sub4.all _) (Sub4.skip (n:=1) (len1 _) (Sub4.head _ _))))) ?_
    exact ls_fin s0 _ (congrArg (fun z=>upd z 27 _) hF.symm) ⟨rfl,rfl⟩ (sub_nil _)
   obtain ⟨s54_3,hs54_3⟩ := exv (.int .i64 x4_1)
   refine have_opa shadowboxref16_all.tab52 4 3 (fun sp=>sp 3=s54_3) (fun sp on hA hon=>?_) (fun ops54_3=>?_)
   ·refine ⟨fun o ho vs Rs f' S' w hp hf hx hS hR hs=>?_⟩
    obtain rfl := Option.some.inj ho
    exact opv (.int .i64 x4_1) hA hs54_3 hon (fr_next (rfl) ((hx 4 (by kernel_rfl)).trans (by kernel_rfl:(_:Value)=.int .i64 x4_1)))
   obtain ⟨q55,H⟩ := ite_need H
   obtain ⟨q56,H⟩ := ite_need H
   obtain ⟨ad57,hA58⟩ := idoS_at (l:=a0.2.1) (i:=x4_1) R0_1 q55 q56
   obtain ⟨s54_4,hs54_4⟩ := exv (.pointer (some (ad57.add ((x4_1).toNat*1))))
   refine have_opa shadowboxref16_all.tab52 4 4 (fun sp=>sp 4=s54_4∧sp 2=s54_2∧sp 3=s54_3) (fun sp on hA hon=>?_) (fun ops54_4=>?_)
   ·refine ⟨fun o ho vs Rs f' S' w hp hf hx hS hR hs=>?_⟩
    obtain rfl := Option.some.inj ho
    obtain ⟨hv2,hR2⟩ := (spe hA.2.1 hs54_2 (hp 2 (by kernel_rfl)))
    obtain ⟨hv3,hR3⟩ := (spe hA.2.2 hs54_3 (hp 3 (by kernel_rfl)))
    rw [hA.1,hs54_4]
    refine wn hon ?_
    have hF := fr_next (fr_next (rfl) ((hf 2 27 (by kernel_rfl) rfl).trans hv2)) ((hf 3 28 (by kernel_rfl) rfl).trans hv3)
    refine ls_fr hF ?_
    refine ls_idxv (Ec.sld 23 Int) (A:=A0_1) (c:=c0_1) (l:=a0.2.1) (k:=.i64) (i:=x4_1) (z:=1) (ad:=ad57) rfl rfl (by kernel_rfl) hA58 rfl (by kernel_rfl) (by kernel_rfl) (by kernel_rfl) (by kernel_rfl) q55 q56 ?_
    exact ls_fin s0 _ (congrArg (fun z=>upd z 29 _) hF.symm) ⟨rfl,rfl⟩ (sub_nil _)
   obtain ⟨xq59,hq60,xR61,xC62⟩ := RoS.el (l:=a0.2.1) R0_1 hA58 (i:=x4_1) q55 q56
   obtain ⟨s54_5,hs54_5⟩ := exv (.slice xq59.1 ((a0.2.1).getD (x4_1).toNat ([]:List Int)).length xq59.2)
   refine have_opa shadowboxref16_all.tab52 4 5 (fun sp=>sp 5=s54_5∧sp 4=s54_4) (fun sp on hA hon=>?_) (fun ops54_5=>?_)
   ·refine ⟨fun o ho vs Rs f' S' w hp hf hx hS hR hs=>?_⟩
    obtain rfl := Option.some.inj ho
    obtain ⟨hv4,hR4⟩ := (spe hA.2 hs54_4 (hp 4 (by kernel_rfl)))
    rw [hA.1,hs54_5]
    refine wn hon ?_
    have hF := fr_next (rfl) ((hf 4 29 (by kernel_rfl) rfl).trans hv4)
    refine ls_fr hF ?_
    refine ls_load (a0:=(ad57.add ((x4_1).toNat*1))) (v:=.slice xq59.1 ((a0.2.1).getD (x4_1).toNat ([]:List Int)).length xq59.2) (de:=(TypeDesc.slice 5)) rfl rfl (by kernel_rfl) rfl (by kernel_rfl) (by kernel_rfl) (by kernel_rfl) (fun w1 hs1=>(Rd.step (hs.old hq60) hs1.below.bw).cell0) ?_
    exact ls_fin s0 _ (congrArg (fun z=>upd z 30 _) hF.symm) ⟨rfl,rfl⟩ (sub_nil _)
   obtain ⟨y63,hy64,H⟩ := lt_some H
   obtain ⟨s54_6,hs54_6⟩ := exv (.int .i64 y63)
   refine have_opa shadowboxref16_all.tab52 4 6 (fun sp=>sp 6=s54_6∧sp 5=s54_5) (fun sp on hA hon=>?_) (fun ops54_6=>?_)
   ·refine ⟨fun o ho vs Rs f' S' w hp hf hx hS hR hs=>?_⟩
    obtain rfl := Option.some.inj ho
    obtain ⟨hv5,hR5⟩ := (spe hA.2 hs54_5 (hp 5 (by kernel_rfl)))
    rw [hA.1,hs54_6]
    refine wn hon ?_
    have hF := fr_next (rfl) ((hf 5 30 (by kernel_rfl) rfl).trans hv5)
    refine ls_fr hF ?_
    refine lv (.int .i64 (((a0.2.1).getD (x4_1).toNat ([]:List Int)).length:Int)) ?_
    refine ls_ren 31 (v:=.int .i64 (((a0.2.1).getD (x4_1).toNat ([]:List Int)).length:Int)) (v' := .int .i64 y63) (by kernel_rfl) (by rw [hy64]) ?_
    exact ls_fin s0 _ ((upd_upd _ _ _ _).trans (congrArg (fun z=>upd z 31 _) hF.symm)) ⟨rfl,rfl⟩ (sub_nil _)
   obtain ⟨s54_7,hs54_7⟩ := exv (.bool (decide (x5_4<y63)))
   refine have_opa shadowboxref16_all.tab52 4 7 (fun sp=>sp 7=s54_7∧sp 0=s54_0∧sp 6=s54_6) (fun sp on hA hon=>?_) (fun ops54_7=>?_)
   ·refine ⟨fun o ho vs Rs f' S' w hp hf hx hS hR hs=>?_⟩
    obtain rfl := Option.some.inj ho
    obtain ⟨hv0,hR0⟩ := (spe hA.2.1 hs54_0 (hp 0 (by kernel_rfl)))
    obtain ⟨hv6,hR6⟩ := (spe hA.2.2 hs54_6 (hp 6 (by kernel_rfl)))
    exact opv (.bool (decide (x5_4<y63))) hA.1 hs54_7 hon (fr_next (fr_next (rfl) ((hf 0 25 (by kernel_rfl) rfl).trans hv0)) ((hf 6 31 (by kernel_rfl) rfl).trans hv6))
   obtain ⟨s54_8,hs54_8⟩ := exv (.bool (decide (x5_4<y63)))
   refine have_opa shadowboxref16_all.tab52 4 8 (fun sp=>sp 8=s54_8∧sp 7=s54_7) (fun sp on hA hon=>?_) (fun ops54_8=>?_)
   ·refine ⟨fun o ho vs Rs f' S' w hp hf hx hS hR hs=>?_⟩
    obtain rfl := Option.some.inj ho
    obtain ⟨hv7,hR7⟩ := (spe hA.2 hs54_7 (hp 7 (by kernel_rfl)))
    exact opv (.bool (decide (x5_4<y63))) hA.1 hs54_8 hon (fr_next (rfl) ((hf 7 32 (by kernel_rfl) rfl).trans hv7))
   by_cases q65:x5_4<y63
   ·replace H := ite_t q65 H
    obtain ⟨s54_9,hs54_9⟩ := exv (.int .i64 x5_4)
    refine have_opa shadowboxref16_all.tab52 4 9 (fun sp=>sp 9=s54_9∧sp 8=s54_8) (fun sp on hA hon=>?_) (fun ops54_9=>?_)
    ·refine ⟨fun o ho vs Rs f' S' w hp hf hx hS hR hs=>?_⟩
     obtain rfl := Option.some.inj ho
     obtain ⟨hv8,hR8⟩ := (spe hA.2 hs54_8 (hp 8 (by kernel_rfl)))
     rw [hA.1,hs54_9]
     refine And.intro (fun a ha=>(want_is (j:=8) (t:=33) (r:=true) rfl rfl (by kernel_rfl) (((hf 8 33 (by kernel_rfl) rfl).trans hv8).trans (congrArg Value.bool (show (decide (x5_4<y63))=true from dec_t q65))) rfl a ha).trans hon.symm) (And.intro (fun _=>?_) (fun h=>by rw [hon] at h; cases h))
     have hF := fr_next (fr_next (rfl) ((hx 5 (by kernel_rfl)).trans (by kernel_rfl:(_:Value)=.int .i64 x5_4))) (((hf 8 33 (by kernel_rfl) rfl).trans hv8).trans (congrArg Value.bool (show (decide (x5_4<y63))=true from dec_t q65)))
     refine ls_fr hF ?_
     refine lv (.int .i64 x5_4) ?_
     exact ls_fin s0 _ (congrArg (fun z=>upd z 34 _) hF.symm) ⟨rfl,rfl⟩ (sub_nil _)
    obtain ⟨s54_10,hs54_10⟩ := exv (.pointer (some ⟨g1,(0+1),none⟩))
    refine have_opa shadowboxref16_all.tab52 4 10 (fun sp=>sp 10=s54_10∧sp 8=s54_8) (fun sp on hA hon=>?_) (fun ops54_10=>?_)
    ·refine ⟨fun o ho vs Rs f' S' w hp hf hx hS hR hs=>?_⟩
     obtain rfl := Option.some.inj ho
     obtain ⟨hv8,hR8⟩ := (spe hA.2 hs54_8 (hp 8 (by kernel_rfl)))
     rw [hA.1,hs54_10]
     refine And.intro (fun a ha=>(want_is (j:=8) (t:=33) (r:=true) rfl rfl (by kernel_rfl) (((hf 8 33 (by kernel_rfl) rfl).trans hv8).trans (congrArg Value.bool (show (decide (x5_4<y63))=true from dec_t q65))) rfl a ha).trans hon.symm) (And.intro (fun _=>?_) (fun h=>by rw [hon] at h; cases h))
     have hF := fr_next (fr_next (rfl) ((hx 1 (by kernel_rfl)).trans (by kernel_rfl:(_:Value)=.pointer (some ⟨g1,0,none⟩)))) (((hf 8 33 (by kernel_rfl) rfl).trans hv8).trans (congrArg Value.bool (show (decide (x5_4<y63))=true from dec_t q65)))
     refine ls_fr hF ?_
     refine lv (.pointer (some ⟨g1,(0+1),none⟩)) ?_
     exact ls_fin s0 _ (congrArg (fun z=>upd z 35 _) hF.symm) ⟨rfl,rfl⟩ (sub_nil _)
    obtain ⟨s54_11,hs54_11⟩ := exv (.slice A0_1 a0.2.1.length c0_1)
    refine have_opa shadowboxref16_all.tab52 4 11 (fun sp=>sp 11=s54_11∧sp 8=s54_8∧sp 10=s54_10) (fun sp on hA hon=>?_) (fun ops54_11=>?_)
    ·refine ⟨fun o ho vs Rs f' S' w hp hf hx hS hR hs=>?_⟩
     obtain rfl := Option.some.inj ho
     obtain ⟨hv8,hR8⟩ := (spe hA.2.1 hs54_8 (hp 8 (by kernel_rfl)))
     obtain ⟨hv10,hR10⟩ := (spe hA.2.2 hs54_10 (hp 10 (by kernel_rfl)))
     rw [hA.1,hs54_11]
     refine And.intro (fun a ha=>(want_is (j:=8) (t:=33) (r:=true) rfl rfl (by kernel_rfl) (((hf 8 33 (by kernel_rfl) rfl).trans hv8).trans (congrArg Value.bool (show (decide (x5_4<y63))=true from dec_t q65))) rfl a ha).trans hon.symm) (And.intro (fun _=>?_) (fun h=>by rw [hon] at h; cases h))
     have hF := fr_next (fr_next (rfl) (((hf 8 33 (by kernel_rfl) rfl).trans hv8).trans (congrArg Value.bool (show (decide (x5_4<y63))=true from dec_t q65)))) ((hf 10 35 (by kernel_rfl) rfl).trans hv10)
     refine ls_fr hF ?_
     refine ls_load (a0:=⟨g1,(0+1),none⟩) (v:=.slice A0_1 a0.2.1.length c0_1) (de:=(TypeDesc.slice 23)) rfl rfl (by kernel_rfl) rfl (by kernel_rfl) (by kernel_rfl) (by kernel_rfl) (fun w1 hs1=>cell_step hs1.below.bw (hs.var (k:=0) ((hS 0 (by kernel_rfl)).trans (by exact rfl)) (Sub4.trans (Sub4.all _) (Sub4.skip (n:=1) (len1 _) (Sub4.head _ _))))) ?_
     exact ls_fin s0 _ (congrArg (fun z=>upd z 36 _) hF.symm) ⟨rfl,rfl⟩ (sub_nil _)
    obtain ⟨s54_12,hs54_12⟩ := exv (.int .i64 x4_1)
    refine have_opa shadowboxref16_all.tab52 4 12 (fun sp=>sp 12=s54_12∧sp 8=s54_8) (fun sp on hA hon=>?_) (fun ops54_12=>?_)
    ·refine ⟨fun o ho vs Rs f' S' w hp hf hx hS hR hs=>?_⟩
     obtain rfl := Option.some.inj ho
     obtain ⟨hv8,hR8⟩ := (spe hA.2 hs54_8 (hp 8 (by kernel_rfl)))
     rw [hA.1,hs54_12]
     refine And.intro (fun a ha=>(want_is (j:=8) (t:=33) (r:=true) rfl rfl (by kernel_rfl) (((hf 8 33 (by kernel_rfl) rfl).trans hv8).trans (congrArg Value.bool (show (decide (x5_4<y63))=true from dec_t q65))) rfl a ha).trans hon.symm) (And.intro (fun _=>?_) (fun h=>by rw [hon] at h; cases h))
     have hF := fr_next (fr_next (rfl) ((hx 4 (by kernel_rfl)).trans (by kernel_rfl:(_:Value)=.int .i64 x4_1))) (((hf 8 33 (by kernel_rfl) rfl).trans hv8).trans (congrArg Value.bool (show (decide (x5_4<y63))=true from dec_t q65)))
     refine ls_fr hF ?_
     refine lv (.int .i64 x4_1) ?_
     exact ls_fin s0 _ (congrArg (fun z=>upd z 37 _) hF.symm) ⟨rfl,rfl⟩ (sub_nil _)
    obtain ⟨s54_13,hs54_13⟩ := exv (.int .i64 (IntKind.wrap .i64 (x4_1 - (1:Int))))
    refine have_opa shadowboxref16_all.tab52 4 13 (fun sp=>sp 13=s54_13∧sp 8=s54_8∧sp 12=s54_12) (fun sp on hA hon=>?_) (fun ops54_13=>?_)
    ·refine ⟨fun o ho vs Rs f' S' w hp hf hx hS hR hs=>?_⟩
     obtain rfl := Option.some.inj ho
     obtain ⟨hv8,hR8⟩ := (spe hA.2.1 hs54_8 (hp 8 (by kernel_rfl)))
     obtain ⟨hv12,hR12⟩ := (spe hA.2.2 hs54_12 (hp 12 (by kernel_rfl)))
     rw [hA.1,hs54_13]
     refine And.intro (fun a ha=>(want_is (j:=8) (t:=33) (r:=true) rfl rfl (by kernel_rfl) (((hf 8 33 (by kernel_rfl) rfl).trans hv8).trans (congrArg Value.bool (show (decide (x5_4<y63))=true from dec_t q65))) rfl a ha).trans hon.symm) (And.intro (fun _=>?_) (fun h=>by rw [hon] at h; cases h))
     have hF := fr_next (fr_next (rfl) (((hf 8 33 (by kernel_rfl) rfl).trans hv8).trans (congrArg Value.bool (show (decide (x5_4<y63))=true from dec_t q65)))) ((hf 12 37 (by kernel_rfl) rfl).trans hv12)
     refine ls_fr hF ?_
     refine lv (.int .i64 (IntKind.wrap .i64 (x4_1 - (1:Int)))) ?_
     exact ls_fin s0 _ (congrArg (fun z=>upd z 38 _) hF.symm) ⟨rfl,rfl⟩ (sub_nil _)
    obtain ⟨q66,H⟩ := ite_need H
    obtain ⟨q67,H⟩ := ite_need H
    obtain ⟨ad68,hA69⟩ := idoS_at (l:=a0.2.1) (i:=IntKind.wrap .i64 (x4_1 - (1:Int))) R0_1 q66 q67
    obtain ⟨s54_14,hs54_14⟩ := exv (.pointer (some (ad68.add ((IntKind.wrap .i64 (x4_1 - (1:Int))).toNat*1))))
    refine have_opa shadowboxref16_all.tab52 4 14 (fun sp=>sp 14=s54_14∧sp 8=s54_8∧sp 11=s54_11∧sp 13=s54_13) (fun sp on hA hon=>?_) (fun ops54_14=>?_)
    ·refine ⟨fun o ho vs Rs f' S' w hp hf hx hS hR hs=>?_⟩
     obtain rfl := Option.some.inj ho
     obtain ⟨hv8,hR8⟩ := (spe hA.2.1 hs54_8 (hp 8 (by kernel_rfl)))
     obtain ⟨hv11,hR11⟩ := (spe hA.2.2.1 hs54_11 (hp 11 (by kernel_rfl)))
     obtain ⟨hv13,hR13⟩ := (spe hA.2.2.2 hs54_13 (hp 13 (by kernel_rfl)))
     rw [hA.1,hs54_14]
     refine And.intro (fun a ha=>(want_is (j:=8) (t:=33) (r:=true) rfl rfl (by kernel_rfl) (((hf 8 33 (by kernel_rfl) rfl).trans hv8).trans (congrArg Value.bool (show (decide (x5_4<y63))=true from dec_t q65))) rfl a ha).trans hon.symm) (And.intro (fun _=>?_) (fun h=>by rw [hon] at h; cases h))
     have hF := fr_next (fr_next (fr_next (rfl) (((hf 8 33 (by kernel_rfl) rfl).trans hv8).trans (congrArg Value.bool (show (decide (x5_4<y63))=true from dec_t q65)))) ((hf 11 36 (by kernel_rfl) rfl).trans hv11)) ((hf 13 38 (by kernel_rfl) rfl).trans hv13)
     refine ls_fr hF ?_
     refine ls_idxv (Ec.sld 23 Int) (A:=A0_1) (c:=c0_1) (l:=a0.2.1) (k:=.i64) (i:=IntKind.wrap .i64 (x4_1 - (1:Int))) (z:=1) (ad:=ad68) rfl rfl (by kernel_rfl) hA69 rfl (by kernel_rfl) (by kernel_rfl) (by kernel_rfl) (by kernel_rfl) q66 q67 ?_
     exact ls_fin s0 _ (congrArg (fun z=>upd z 39 _) hF.symm) ⟨rfl,rfl⟩ (sub_nil _)
    obtain ⟨xq70,hq71,xR72,xC73⟩ := RoS.el (l:=a0.2.1) R0_1 hA69 (i:=IntKind.wrap .i64 (x4_1 - (1:Int))) q66 q67
    obtain ⟨s54_15,hs54_15⟩ := exv (.slice xq70.1 ((a0.2.1).getD (IntKind.wrap .i64 (x4_1 - (1:Int))).toNat ([]:List Int)).length xq70.2)
    refine have_opa shadowboxref16_all.tab52 4 15 (fun sp=>sp 15=s54_15∧sp 8=s54_8∧sp 14=s54_14) (fun sp on hA hon=>?_) (fun ops54_15=>?_)
    ·refine ⟨fun o ho vs Rs f' S' w hp hf hx hS hR hs=>?_⟩
     obtain rfl := Option.some.inj ho
     obtain ⟨hv8,hR8⟩ := (spe hA.2.1 hs54_8 (hp 8 (by kernel_rfl)))
     obtain ⟨hv14,hR14⟩ := (spe hA.2.2 hs54_14 (hp 14 (by kernel_rfl)))
     rw [hA.1,hs54_15]
     refine And.intro (fun a ha=>(want_is (j:=8) (t:=33) (r:=true) rfl rfl (by kernel_rfl) (((hf 8 33 (by kernel_rfl) rfl).trans hv8).trans (congrArg Value.bool (show (decide (x5_4<y63))=true from dec_t q65))) rfl a ha).trans hon.symm) (And.intro (fun _=>?_) (fun h=>by rw [hon] at h; cases h))
     have hF := fr_next (fr_next (rfl) (((hf 8 33 (by kernel_rfl) rfl).trans hv8).trans (congrArg Value.bool (show (decide (x5_4<y63))=true from dec_t q65)))) ((hf 14 39 (by kernel_rfl) rfl).trans hv14)
     refine ls_fr hF ?_
     refine ls_load (a0:=(ad68.add ((IntKind.wrap .i64 (x4_1 - (1:Int))).toNat*1))) (v:=.slice xq70.1 ((a0.2.1).getD (IntKind.wrap .i64 (x4_1 - (1:Int))).toNat ([]:List Int)).length xq70.2) (de:=(TypeDesc.slice 5)) rfl rfl (by kernel_rfl) rfl (by kernel_rfl) (by kernel_rfl) (by kernel_rfl) (fun w1 hs1=>(Rd.step (hs.old hq71) hs1.below.bw).cell0) ?_
     exact ls_fin s0 _ (congrArg (fun z=>upd z 40 _) hF.symm) ⟨rfl,rfl⟩ (sub_nil _)
    obtain ⟨y74,hy75,H⟩ := lt_some H
    obtain ⟨s54_16,hs54_16⟩ := exv (.int .i64 y74)
    refine have_opa shadowboxref16_all.tab52 4 16 (fun sp=>sp 16=s54_16∧sp 8=s54_8∧sp 15=s54_15) (fun sp on hA hon=>?_) (fun ops54_16=>?_)
    ·refine ⟨fun o ho vs Rs f' S' w hp hf hx hS hR hs=>?_⟩
     obtain rfl := Option.some.inj ho
     obtain ⟨hv8,hR8⟩ := (spe hA.2.1 hs54_8 (hp 8 (by kernel_rfl)))
     obtain ⟨hv15,hR15⟩ := (spe hA.2.2 hs54_15 (hp 15 (by kernel_rfl)))
     rw [hA.1,hs54_16]
     refine And.intro (fun a ha=>(want_is (j:=8) (t:=33) (r:=true) rfl rfl (by kernel_rfl) (((hf 8 33 (by kernel_rfl) rfl).trans hv8).trans (congrArg Value.bool (show (decide (x5_4<y63))=true from dec_t q65))) rfl a ha).trans hon.symm) (And.intro (fun _=>?_) (fun h=>by rw [hon] at h; cases h))
     have hF := fr_next (fr_next (rfl) (((hf 8 33 (by kernel_rfl) rfl).trans hv8).trans (congrArg Value.bool (show (decide (x5_4<y63))=true from dec_t q65)))) ((hf 15 40 (by kernel_rfl) rfl).trans hv15)
     refine ls_fr hF ?_
     refine lv (.int .i64 (((a0.2.1).getD (IntKind.wrap .i64 (x4_1 - (1:Int))).toNat ([]:List Int)).length:Int)) ?_
     refine ls_ren 41 (v:=.int .i64 (((a0.2.1).getD (IntKind.wrap .i64 (x4_1 - (1:Int))).toNat ([]:List Int)).length:Int)) (v' := .int .i64 y74) (by kernel_rfl) (by rw [hy75]) ?_
     exact ls_fin s0 _ ((upd_upd _ _ _ _).trans (congrArg (fun z=>upd z 41 _) hF.symm)) ⟨rfl,rfl⟩ (sub_nil _)
    obtain ⟨s54_17,hs54_17⟩ := exv (.bool (decide (x5_4<y74)))
    refine have_opa shadowboxref16_all.tab52 4 17 (fun sp=>sp 17=s54_17∧sp 8=s54_8∧sp 9=s54_9∧sp 16=s54_16) (fun sp on hA hon=>?_) (fun ops54_17=>?_)
    ·refine ⟨fun o ho vs Rs f' S' w hp hf hx hS hR hs=>?_⟩
     obtain rfl := Option.some.inj ho
     obtain ⟨hv8,hR8⟩ := (spe hA.2.1 hs54_8 (hp 8 (by kernel_rfl)))
     obtain ⟨hv9,hR9⟩ := (spe hA.2.2.1 hs54_9 (hp 9 (by kernel_rfl)))
     obtain ⟨hv16,hR16⟩ := (spe hA.2.2.2 hs54_16 (hp 16 (by kernel_rfl)))
     rw [hA.1,hs54_17]
     refine And.intro (fun a ha=>(want_is (j:=8) (t:=33) (r:=true) rfl rfl (by kernel_rfl) (((hf 8 33 (by kernel_rfl) rfl).trans hv8).trans (congrArg Value.bool (show (decide (x5_4<y63))=true from dec_t q65))) rfl a ha).trans hon.symm) (And.intro (fun _=>?_) (fun h=>by rw [hon] at h; cases h))
     have hF := fr_next (fr_next (fr_next (rfl) (((hf 8 33 (by kernel_rfl) rfl).trans hv8).trans (congrArg Value.bool (show (decide (x5_4<y63))=true from dec_t q65)))) ((hf 9 34 (by kernel_rfl) rfl).trans hv9)) ((hf 16 41 (by kernel_rfl) rfl).trans hv16)
     refine ls_fr hF ?_
     refine lv (.bool (decide (x5_4<y74))) ?_
     exact ls_fin s0 _ (congrArg (fun z=>upd z 42 _) hF.symm) ⟨rfl,rfl⟩ (sub_nil _)
    obtain ⟨s54_18,hs54_18⟩ := exv (.bool (decide (x5_4<y74)))
    refine have_opa shadowboxref16_all.tab52 4 18 (fun sp=>sp 18=s54_18∧sp 8=s54_8∧sp 17=s54_17) (fun sp on hA hon=>?_) (fun ops54_18=>?_)
    ·refine ⟨fun o ho vs Rs f' S' w hp hf hx hS hR hs=>?_⟩
     obtain rfl := Option.some.inj ho
     obtain ⟨hv8,hR8⟩ := (spe hA.2.1 hs54_8 (hp 8 (by kernel_rfl)))
     obtain ⟨hv17,hR17⟩ := (spe hA.2.2 hs54_17 (hp 17 (by kernel_rfl)))
     exact opv (.bool (decide (x5_4<y74))) hA.1 hs54_18 hon (fr_next (fr_next (rfl) (((hf 8 33 (by kernel_rfl) rfl).trans hv8).trans (congrArg Value.bool (show (decide (x5_4<y63))=true from dec_t q65)))) ((hf 17 42 (by kernel_rfl) rfl).trans hv17))
    obtain ⟨s54_19,hs54_19⟩ := exv (.bool (decide (x5_4<y74)))
    refine have_opa shadowboxref16_all.tab52 4 19 (fun sp=>sp 19=s54_19∧sp 18=s54_18) (fun sp on hA hon=>?_) (fun ops54_19=>?_)
    ·refine ⟨fun o ho vs Rs f' S' w hp hf hx hS hR hs=>?_⟩
     obtain rfl := Option.some.inj ho
     obtain ⟨hv18,hR18⟩ := (spe hA.2 hs54_18 (hp 18 (by kernel_rfl)))
     exact opv (.bool (decide (x5_4<y74))) hA.1 hs54_19 hon (fr_next (rfl) ((hf 18 43 (by kernel_rfl) rfl).trans hv18))
    by_cases q76:x5_4<y74
    ·replace H := ite_t q76 H
     obtain ⟨s54_20,hs54_20⟩ := exv (.pointer (some ⟨g1,(0+1),none⟩))
     refine have_opa shadowboxref16_all.tab52 4 20 (fun sp=>sp 20=s54_20∧sp 19=s54_19) (fun sp on hA hon=>?_) (fun ops54_20=>?_)
     ·refine ⟨fun o ho vs Rs f' S' w hp hf hx hS hR hs=>?_⟩
      obtain rfl := Option.some.inj ho
      obtain ⟨hv19,hR19⟩ := (spe hA.2 hs54_19 (hp 19 (by kernel_rfl)))
      rw [hA.1,hs54_20]
      refine And.intro (fun a ha=>(want_is (j:=19) (t:=44) (r:=true) rfl rfl (by kernel_rfl) (((hf 19 44 (by kernel_rfl) rfl).trans hv19).trans (congrArg Value.bool (show (decide (x5_4<y74))=true from dec_t q76))) rfl a ha).trans hon.symm) (And.intro (fun _=>?_) (fun h=>by rw [hon] at h; cases h))
      have hF := fr_next (fr_next (rfl) ((hx 1 (by kernel_rfl)).trans (by kernel_rfl:(_:Value)=.pointer (some ⟨g1,0,none⟩)))) (((hf 19 44 (by kernel_rfl) rfl).trans hv19).trans (congrArg Value.bool (show (decide (x5_4<y74))=true from dec_t q76)))
      refine ls_fr hF ?_
      refine lv (.pointer (some ⟨g1,(0+1),none⟩)) ?_
      exact ls_fin s0 _ (congrArg (fun z=>upd z 45 _) hF.symm) ⟨rfl,rfl⟩ (sub_nil _)
     obtain ⟨s54_21,hs54_21⟩ := exv (.slice A0_1 a0.2.1.length c0_1)
     refine have_opa shadowboxref16_all.tab52 4 21 (fun sp=>sp 21=s54_21∧sp 19=s54_19∧sp 20=s54_20) (fun sp on hA hon=>?_) (fun ops54_21=>?_)
     ·refine ⟨fun o ho vs Rs f' S' w hp hf hx hS hR hs=>?_⟩
      obtain rfl := Option.some.inj ho
      obtain ⟨hv19,hR19⟩ := (spe hA.2.1 hs54_19 (hp 19 (by kernel_rfl)))
      obtain ⟨hv20,hR20⟩ := (spe hA.2.2 hs54_20 (hp 20 (by kernel_rfl)))
      rw [hA.1,hs54_21]
      refine And.intro (fun a ha=>(want_is (j:=19) (t:=44) (r:=true) rfl rfl (by kernel_rfl) (((hf 19 44 (by kernel_rfl) rfl).trans hv19).trans (congrArg Value.bool (show (decide (x5_4<y74))=true from dec_t q76))) rfl a ha).trans hon.symm) (And.intro (fun _=>?_) (fun h=>by rw [hon] at h; cases h))
      have hF := fr_next (fr_next (rfl) (((hf 19 44 (by kernel_rfl) rfl).trans hv19).trans (congrArg Value.bool (show (decide (x5_4<y74))=true from dec_t q76)))) ((hf 20 45 (by kernel_rfl) rfl).trans hv20)
      refine ls_fr hF ?_
      refine ls_load (a0:=⟨g1,(0+1),none⟩) (v:=.slice A0_1 a0.2.1.length c0_1) (de:=(TypeDesc.slice 23)) rfl rfl (by kernel_rfl) rfl (by kernel_rfl) (by kernel_rfl) (by kernel_rfl) (fun w1 hs1=>cell_step hs1.below.bw (hs.var (k:=0) ((hS 0 (by kernel_rfl)).trans (by exact rfl)) (Sub4.trans (Sub4.all _) (Sub4.skip (n:=1) (len1 _) (Sub4.head _ _))))) ?_
      exact ls_fin s0 _ (congrArg (fun z=>upd z 46 _) hF.symm) ⟨rfl,rfl⟩ (sub_nil _)
     obtain ⟨s54_22,hs54_22⟩ := exv (.int .i64 x4_1)
     refine have_opa shadowboxref16_all.tab52 4 22 (fun sp=>sp 22=s54_22∧sp 19=s54_19) (fun sp on hA hon=>?_) (fun ops54_22=>?_)
     ·refine ⟨fun o ho vs Rs f' S' w hp hf hx hS hR hs=>?_⟩
      obtain rfl := Option.some.inj ho
      obtain ⟨hv19,hR19⟩ := (spe hA.2 hs54_19 (hp 19 (by kernel_rfl)))
      rw [hA.1,hs54_22]
      refine And.intro (fun a ha=>(want_is (j:=19) (t:=44) (r:=true) rfl rfl (by kernel_rfl) (((hf 19 44 (by kernel_rfl) rfl).trans hv19).trans (congrArg Value.bool (show (decide (x5_4<y74))=true from dec_t q76))) rfl a ha).trans hon.symm) (And.intro (fun _=>?_) (fun h=>by rw [hon] at h; cases h))
      have hF := fr_next (fr_next (rfl) ((hx 4 (by kernel_rfl)).trans (by kernel_rfl:(_:Value)=.int .i64 x4_1))) (((hf 19 44 (by kernel_rfl) rfl).trans hv19).trans (congrArg Value.bool (show (decide (x5_4<y74))=true from dec_t q76)))
      refine ls_fr hF ?_
      refine lv (.int .i64 x4_1) ?_
      exact ls_fin s0 _ (congrArg (fun z=>upd z 47 _) hF.symm) ⟨rfl,rfl⟩ (sub_nil _)
     obtain ⟨ad77,hA78⟩ := idoS_at (l:=a0.2.1) (i:=x4_1) R0_1 q55 q56
     obtain ⟨s54_23,hs54_23⟩ := exv (.pointer (some (ad77.add ((x4_1).toNat*1))))
     refine have_opa shadowboxref16_all.tab52 4 23 (fun sp=>sp 23=s54_23∧sp 19=s54_19∧sp 21=s54_21∧sp 22=s54_22) (fun sp on hA hon=>?_) (fun ops54_23=>?_)
     ·refine ⟨fun o ho vs Rs f' S' w hp hf hx hS hR hs=>?_⟩
      obtain rfl := Option.some.inj ho
      obtain ⟨hv19,hR19⟩ := (spe hA.2.1 hs54_19 (hp 19 (by kernel_rfl)))
      obtain ⟨hv21,hR21⟩ := (spe hA.2.2.1 hs54_21 (hp 21 (by kernel_rfl)))
      obtain ⟨hv22,hR22⟩ := (spe hA.2.2.2 hs54_22 (hp 22 (by kernel_rfl)))
      rw [hA.1,hs54_23]
      refine And.intro (fun a ha=>(want_is (j:=19) (t:=44) (r:=true) rfl rfl (by kernel_rfl) (((hf 19 44 (by kernel_rfl) rfl).trans hv19).trans (congrArg Value.bool (show (decide (x5_4<y74))=true from dec_t q76))) rfl a ha).trans hon.symm) (And.intro (fun _=>?_) (fun h=>by rw [hon] at h; cases h))
      have hF := fr_next (fr_next (fr_next (rfl) (((hf 19 44 (by kernel_rfl) rfl).trans hv19).trans (congrArg Value.bool (show (decide (x5_4<y74))=true from dec_t q76)))) ((hf 21 46 (by kernel_rfl) rfl).trans hv21)) ((hf 22 47 (by kernel_rfl) rfl).trans hv22)
      refine ls_fr hF ?_
      refine ls_idxv (Ec.sld 23 Int) (A:=A0_1) (c:=c0_1) (l:=a0.2.1) (k:=.i64) (i:=x4_1) (z:=1) (ad:=ad77) rfl rfl (by kernel_rfl) hA78 rfl (by kernel_rfl) (by kernel_rfl) (by kernel_rfl) (by kernel_rfl) q55 q56 ?_
      exact ls_fin s0 _ (congrArg (fun z=>upd z 48 _) hF.symm) ⟨rfl,rfl⟩ (sub_nil _)
     obtain ⟨xq79,hq80,xR81,xC82⟩ := RoS.el (l:=a0.2.1) R0_1 hA78 (i:=x4_1) q55 q56
     obtain ⟨s54_24,hs54_24⟩ := exv (.slice xq79.1 ((a0.2.1).getD (x4_1).toNat ([]:List Int)).length xq79.2)
     refine have_opa shadowboxref16_all.tab52 4 24 (fun sp=>sp 24=s54_24∧sp 19=s54_19∧sp 23=s54_23) (fun sp on hA hon=>?_) (fun ops54_24=>?_)
     ·refine ⟨fun o ho vs Rs f' S' w hp hf hx hS hR hs=>?_⟩
      obtain rfl := Option.some.inj ho
      obtain ⟨hv19,hR19⟩ := (spe hA.2.1 hs54_19 (hp 19 (by kernel_rfl)))
      obtain ⟨hv23,hR23⟩ := (spe hA.2.2 hs54_23 (hp 23 (by kernel_rfl)))
      rw [hA.1,hs54_24]
      refine And.intro (fun a ha=>(want_is (j:=19) (t:=44) (r:=true) rfl rfl (by kernel_rfl) (((hf 19 44 (by kernel_rfl) rfl).trans hv19).trans (congrArg Value.bool (show (decide (x5_4<y74))=true from dec_t q76))) rfl a ha).trans hon.symm) (And.intro (fun _=>?_) (fun h=>by rw [hon] at h; cases h))
      have hF := fr_next (fr_next (rfl) (((hf 19 44 (by kernel_rfl) rfl).trans hv19).trans (congrArg Value.bool (show (decide (x5_4<y74))=true from dec_t q76)))) ((hf 23 48 (by kernel_rfl) rfl).trans hv23)
      refine ls_fr hF ?_
      refine ls_load (a0:=(ad77.add ((x4_1).toNat*1))) (v:=.slice xq79.1 ((a0.2.1).getD (x4_1).toNat ([]:List Int)).length xq79.2) (de:=(TypeDesc.slice 5)) rfl rfl (by kernel_rfl) rfl (by kernel_rfl) (by kernel_rfl) (by kernel_rfl) (fun w1 hs1=>(Rd.step (hs.old hq80) hs1.below.bw).cell0) ?_
      exact ls_fin s0 _ (congrArg (fun z=>upd z 49 _) hF.symm) ⟨rfl,rfl⟩ (sub_nil _)
     obtain ⟨s54_25,hs54_25⟩ := exv (.int .i64 x5_4)
     refine have_opa shadowboxref16_all.tab52 4 25 (fun sp=>sp 25=s54_25∧sp 19=s54_19) (fun sp on hA hon=>?_) (fun ops54_25=>?_)
     ·refine ⟨fun o ho vs Rs f' S' w hp hf hx hS hR hs=>?_⟩
      obtain rfl := Option.some.inj ho
      obtain ⟨hv19,hR19⟩ := (spe hA.2 hs54_19 (hp 19 (by kernel_rfl)))
      rw [hA.1,hs54_25]
      refine And.intro (fun a ha=>(want_is (j:=19) (t:=44) (r:=true) rfl rfl (by kernel_rfl) (((hf 19 44 (by kernel_rfl) rfl).trans hv19).trans (congrArg Value.bool (show (decide (x5_4<y74))=true from dec_t q76))) rfl a ha).trans hon.symm) (And.intro (fun _=>?_) (fun h=>by rw [hon] at h; cases h))
      have hF := fr_next (fr_next (rfl) ((hx 5 (by kernel_rfl)).trans (by kernel_rfl:(_:Value)=.int .i64 x5_4))) (((hf 19 44 (by kernel_rfl) rfl).trans hv19).trans (congrArg Value.bool (show (decide (x5_4<y74))=true from dec_t q76)))
      refine ls_fr hF ?_
      refine lv (.int .i64 x5_4) ?_
      exact ls_fin s0 _ (congrArg (fun z=>upd z 50 _) hF.symm) ⟨rfl,rfl⟩ (sub_nil _)
     obtain ⟨q83,H⟩ := ite_need H
     obtain ⟨q84,H⟩ := ite_need H
     obtain ⟨ad85,hA86⟩ := ido_at (T:=(Ec.int 5 .u8)) (l:=((a0.2.1).getD (x4_1).toNat ([]:List Int))) (i:=x5_4) xR81 q83 q84
     obtain ⟨s54_26,hs54_26⟩ := exv (.pointer (some (ad85.add ((x5_4).toNat*1))))
     refine have_opa shadowboxref16_all.tab52 4 26 (fun sp=>sp 26=s54_26∧sp 19=s54_19∧sp 24=s54_24∧sp 25=s54_25) (fun sp on hA hon=>?_) (fun ops54_26=>?_)
     ·refine ⟨fun o ho vs Rs f' S' w hp hf hx hS hR hs=>?_⟩
      obtain rfl := Option.some.inj ho
      obtain ⟨hv19,hR19⟩ := (spe hA.2.1 hs54_19 (hp 19 (by kernel_rfl)))
      obtain ⟨hv24,hR24⟩ := (spe hA.2.2.1 hs54_24 (hp 24 (by kernel_rfl)))
      obtain ⟨hv25,hR25⟩ := (spe hA.2.2.2 hs54_25 (hp 25 (by kernel_rfl)))
      rw [hA.1,hs54_26]
      refine And.intro (fun a ha=>(want_is (j:=19) (t:=44) (r:=true) rfl rfl (by kernel_rfl) (((hf 19 44 (by kernel_rfl) rfl).trans hv19).trans (congrArg Value.bool (show (decide (x5_4<y74))=true from dec_t q76))) rfl a ha).trans hon.symm) (And.intro (fun _=>?_) (fun h=>by rw [hon] at h; cases h))
      have hF := fr_next (fr_next (fr_next (rfl) (((hf 19 44 (by kernel_rfl) rfl).trans hv19).trans (congrArg Value.bool (show (decide (x5_4<y74))=true from dec_t q76)))) ((hf 24 49 (by kernel_rfl) rfl).trans hv24)) ((hf 25 50 (by kernel_rfl) rfl).trans hv25)
      refine ls_fr hF ?_
      refine ls_idxv (Ec.int 5 .u8) (A:=xq79.1) (c:=xq79.2) (l:=((a0.2.1).getD (x4_1).toNat ([]:List Int))) (k:=.i64) (i:=x5_4) (z:=1) (ad:=ad85) rfl rfl (by kernel_rfl) hA86 rfl (by kernel_rfl) (by kernel_rfl) (by kernel_rfl) (by kernel_rfl) q83 q84 ?_
      exact ls_fin s0 _ (congrArg (fun z=>upd z 51 _) hF.symm) ⟨rfl,rfl⟩ (sub_nil _)
     obtain ⟨y87,hy88,H⟩ := lt_some H
     obtain ⟨s54_27,hs54_27⟩ := exv (.int .u8 y87)
     refine have_opa shadowboxref16_all.tab52 4 27 (fun sp=>sp 27=s54_27∧sp 19=s54_19∧sp 26=s54_26) (fun sp on hA hon=>?_) (fun ops54_27=>?_)
     ·refine ⟨fun o ho vs Rs f' S' w hp hf hx hS hR hs=>?_⟩
      obtain rfl := Option.some.inj ho
      obtain ⟨hv19,hR19⟩ := (spe hA.2.1 hs54_19 (hp 19 (by kernel_rfl)))
      obtain ⟨hv26,hR26⟩ := (spe hA.2.2 hs54_26 (hp 26 (by kernel_rfl)))
      rw [hA.1,hs54_27]
      refine And.intro (fun a ha=>(want_is (j:=19) (t:=44) (r:=true) rfl rfl (by kernel_rfl) (((hf 19 44 (by kernel_rfl) rfl).trans hv19).trans (congrArg Value.bool (show (decide (x5_4<y74))=true from dec_t q76))) rfl a ha).trans hon.symm) (And.intro (fun _=>?_) (fun h=>by rw [hon] at h; cases h))
      have hF := fr_next (fr_next (rfl) (((hf 19 44 (by kernel_rfl) rfl).trans hv19).trans (congrArg Value.bool (show (decide (x5_4<y74))=true from dec_t q76)))) ((hf 26 51 (by kernel_rfl) rfl).trans hv26)
      refine ls_fr hF ?_
      refine ls_load (a0:=(ad85.add ((x5_4).toNat*1))) (v:=.int .u8 ((((a0.2.1).getD (x4_1).toNat ([]:List Int))).getD (x5_4).toNat (0:Int))) (de:=(TypeDesc.int .u8)) rfl rfl (by kernel_rfl) rfl (by kernel_rfl) (by kernel_rfl) (by kernel_rfl) (fun w1 hs1=>(Rd.step (hs.old xR81) hs1.below.bw).at hA86 (em_sub (Ec.int 5 .u8) ((a0.2.1).getD (x4_1).toNat ([]:List Int)) (i:=(x5_4).toNat) (by have h0:(0:Int)≤x5_4 := q83; have h1:x5_4<(((a0.2.1).getD (x4_1).toNat ([]:List Int)).length:Int) := q84; omega))) ?_
      refine ls_ren 52 (v:=.int .u8 ((((a0.2.1).getD (x4_1).toNat ([]:List Int))).getD (x5_4).toNat (0:Int))) (v' := .int .u8 y87) (by kernel_rfl) (by rw [hy88]) ?_
      exact ls_fin s0 _ ((upd_upd _ _ _ _).trans (congrArg (fun z=>upd z 52 _) hF.symm)) ⟨rfl,rfl⟩ (sub_nil _)
     obtain ⟨s54_28,hs54_28⟩ := exv (.pointer (some ⟨g1,(0+1),none⟩))
     refine have_opa shadowboxref16_all.tab52 4 28 (fun sp=>sp 28=s54_28∧sp 19=s54_19) (fun sp on hA hon=>?_) (fun ops54_28=>?_)
     ·refine ⟨fun o ho vs Rs f' S' w hp hf hx hS hR hs=>?_⟩
      obtain rfl := Option.some.inj ho
      obtain ⟨hv19,hR19⟩ := (spe hA.2 hs54_19 (hp 19 (by kernel_rfl)))
      rw [hA.1,hs54_28]
      refine And.intro (fun a ha=>(want_is (j:=19) (t:=44) (r:=true) rfl rfl (by kernel_rfl) (((hf 19 44 (by kernel_rfl) rfl).trans hv19).trans (congrArg Value.bool (show (decide (x5_4<y74))=true from dec_t q76))) rfl a ha).trans hon.symm) (And.intro (fun _=>?_) (fun h=>by rw [hon] at h; cases h))
      have hF := fr_next (fr_next (rfl) ((hx 1 (by kernel_rfl)).trans (by kernel_rfl:(_:Value)=.pointer (some ⟨g1,0,none⟩)))) (((hf 19 44 (by kernel_rfl) rfl).trans hv19).trans (congrArg Value.bool (show (decide (x5_4<y74))=true from dec_t q76)))
      refine ls_fr hF ?_
      refine lv (.pointer (some ⟨g1,(0+1),none⟩)) ?_
      exact ls_fin s0 _ (congrArg (fun z=>upd z 53 _) hF.symm) ⟨rfl,rfl⟩ (sub_nil _)
     obtain ⟨s54_29,hs54_29⟩ := exv (.slice A0_1 a0.2.1.length c0_1)
     refine have_opa shadowboxref16_all.tab52 4 29 (fun sp=>sp 29=s54_29∧sp 19=s54_19∧sp 28=s54_28) (fun sp on hA hon=>?_) (fun ops54_29=>?_)
     ·refine ⟨fun o ho vs Rs f' S' w hp hf hx hS hR hs=>?_⟩
      obtain rfl := Option.some.inj ho
      obtain ⟨hv19,hR19⟩ := (spe hA.2.1 hs54_19 (hp 19 (by kernel_rfl)))
      obtain ⟨hv28,hR28⟩ := (spe hA.2.2 hs54_28 (hp 28 (by kernel_rfl)))
      rw [hA.1,hs54_29]
      refine And.intro (fun a ha=>(want_is (j:=19) (t:=44) (r:=true) rfl rfl (by kernel_rfl) (((hf 19 44 (by kernel_rfl) rfl).trans hv19).trans (congrArg Value.bool (show (decide (x5_4<y74))=true from dec_t q76))) rfl a ha).trans hon.symm) (And.intro (fun _=>?_) (fun h=>by rw [hon] at h; cases h))
      have hF := fr_next (fr_next (rfl) (((hf 19 44 (by kernel_rfl) rfl).trans hv19).trans (congrArg Value.bool (show (decide (x5_4<y74))=true from dec_t q76)))) ((hf 28 53 (by kernel_rfl) rfl).trans hv28)
      refine ls_fr hF ?_
      refine ls_load (a0:=⟨g1,(0+1),none⟩) (v:=.slice A0_1 a0.2.1.length c0_1) (de:=(TypeDesc.slice 23)) rfl rfl (by kernel_rfl) rfl (by kernel_rfl) (by kernel_rfl) (by kernel_rfl) (fun w1 hs1=>cell_step hs1.below.bw (hs.var (k:=0) ((hS 0 (by kernel_rfl)).trans (by exact rfl)) (Sub4.trans (Sub4.all _) (Sub4.skip (n:=1) (len1 _) (Sub4.head _ _))))) ?_
      exact ls_fin s0 _ (congrArg (fun z=>upd z 54 _) hF.symm) ⟨rfl,rfl⟩ (sub_nil _)
     obtain ⟨s54_30,hs54_30⟩ := exv (.int .i64 x4_1)
     refine have_opa shadowboxref16_all.tab52 4 30 (fun sp=>sp 30=s54_30∧sp 19=s54_19) (fun sp on hA hon=>?_) (fun ops54_30=>?_)
     ·refine ⟨fun o ho vs Rs f' S' w hp hf hx hS hR hs=>?_⟩
      obtain rfl := Option.some.inj ho
      obtain ⟨hv19,hR19⟩ := (spe hA.2 hs54_19 (hp 19 (by kernel_rfl)))
      rw [hA.1,hs54_30]
      refine And.intro (fun a ha=>(want_is (j:=19) (t:=44) (r:=true) rfl rfl (by kernel_rfl) (((hf 19 44 (by kernel_rfl) rfl).trans hv19).trans (congrArg Value.bool (show (decide (x5_4<y74))=true from dec_t q76))) rfl a ha).trans hon.symm) (And.intro (fun _=>?_) (fun h=>by rw [hon] at h; cases h))
      have hF := fr_next (fr_next (rfl) ((hx 4 (by kernel_rfl)).trans (by kernel_rfl:(_:Value)=.int .i64 x4_1))) (((hf 19 44 (by kernel_rfl) rfl).trans hv19).trans (congrArg Value.bool (show (decide (x5_4<y74))=true from dec_t q76)))
      refine ls_fr hF ?_
      refine lv (.int .i64 x4_1) ?_
      exact ls_fin s0 _ (congrArg (fun z=>upd z 55 _) hF.symm) ⟨rfl,rfl⟩ (sub_nil _)
     obtain ⟨s54_31,hs54_31⟩ := exv (.int .i64 (IntKind.wrap .i64 (x4_1 - (1:Int))))
     refine have_opa shadowboxref16_all.tab52 4 31 (fun sp=>sp 31=s54_31∧sp 19=s54_19∧sp 30=s54_30) (fun sp on hA hon=>?_) (fun ops54_31=>?_)
     ·refine ⟨fun o ho vs Rs f' S' w hp hf hx hS hR hs=>?_⟩
      obtain rfl := Option.some.inj ho
      obtain ⟨hv19,hR19⟩ := (spe hA.2.1 hs54_19 (hp 19 (by kernel_rfl)))
      obtain ⟨hv30,hR30⟩ := (spe hA.2.2 hs54_30 (hp 30 (by kernel_rfl)))
      rw [hA.1,hs54_31]
      refine And.intro (fun a ha=>(want_is (j:=19) (t:=44) (r:=true) rfl rfl (by kernel_rfl) (((hf 19 44 (by kernel_rfl) rfl).trans hv19).trans (congrArg Value.bool (show (decide (x5_4<y74))=true from dec_t q76))) rfl a ha).trans hon.symm) (And.intro (fun _=>?_) (fun h=>by rw [hon] at h; cases h))
      have hF := fr_next (fr_next (rfl) (((hf 19 44 (by kernel_rfl) rfl).trans hv19).trans (congrArg Value.bool (show (decide (x5_4<y74))=true from dec_t q76)))) ((hf 30 55 (by kernel_rfl) rfl).trans hv30)
      refine ls_fr hF ?_
      refine lv (.int .i64 (IntKind.wrap .i64 (x4_1 - (1:Int)))) ?_
      exact ls_fin s0 _ (congrArg (fun z=>upd z 56 _) hF.symm) ⟨rfl,rfl⟩ (sub_nil _)
     obtain ⟨ad89,hA90⟩ := idoS_at (l:=a0.2.1) (i:=IntKind.wrap .i64 (x4_1 - (1:Int))) R0_1 q66 q67
     obtain ⟨s54_32,hs54_32⟩ := exv (.pointer (some (ad89.add ((IntKind.wrap .i64 (x4_1 - (1:Int))).toNat*1))))
     refine have_opa shadowboxref16_all.tab52 4 32 (fun sp=>sp 32=s54_32∧sp 19=s54_19∧sp 29=s54_29∧sp 31=s54_31) (fun sp on hA hon=>?_) (fun ops54_32=>?_)
     ·refine ⟨fun o ho vs Rs f' S' w hp hf hx hS hR hs=>?_⟩
      obtain rfl := Option.some.inj ho
      obtain ⟨hv19,hR19⟩ := (spe hA.2.1 hs54_19 (hp 19 (by kernel_rfl)))
      obtain ⟨hv29,hR29⟩ := (spe hA.2.2.1 hs54_29 (hp 29 (by kernel_rfl)))
      obtain ⟨hv31,hR31⟩ := (spe hA.2.2.2 hs54_31 (hp 31 (by kernel_rfl)))
      rw [hA.1,hs54_32]
      refine And.intro (fun a ha=>(want_is (j:=19) (t:=44) (r:=true) rfl rfl (by kernel_rfl) (((hf 19 44 (by kernel_rfl) rfl).trans hv19).trans (congrArg Value.bool (show (decide (x5_4<y74))=true from dec_t q76))) rfl a ha).trans hon.symm) (And.intro (fun _=>?_) (fun h=>by rw [hon] at h; cases h))
      have hF := fr_next (fr_next (fr_next (rfl) (((hf 19 44 (by kernel_rfl) rfl).trans hv19).trans (congrArg Value.bool (show (decide (x5_4<y74))=true from dec_t q76)))) ((hf 29 54 (by kernel_rfl) rfl).trans hv29)) ((hf 31 56 (by kernel_rfl) rfl).trans hv31)
      refine ls_fr hF ?_
      refine ls_idxv (Ec.sld 23 Int) (A:=A0_1) (c:=c0_1) (l:=a0.2.1) (k:=.i64) (i:=IntKind.wrap .i64 (x4_1 - (1:Int))) (z:=1) (ad:=ad89) rfl rfl (by kernel_rfl) hA90 rfl (by kernel_rfl) (by kernel_rfl) (by kernel_rfl) (by kernel_rfl) q66 q67 ?_
      exact ls_fin s0 _ (congrArg (fun z=>upd z 57 _) hF.symm) ⟨rfl,rfl⟩ (sub_nil _)
     obtain ⟨xq91,hq92,xR93,xC94⟩ := RoS.el (l:=a0.2.1) R0_1 hA90 (i:=IntKind.wrap .i64 (x4_1 - (1:Int))) q66 q67
     obtain ⟨s54_33,hs54_33⟩ := exv (.slice xq91.1 ((a0.2.1).getD (IntKind.wrap .i64 (x4_1 - (1:Int))).toNat ([]:List Int)).length xq91.2)
     refine have_opa shadowboxref16_all.tab52 4 33 (fun sp=>sp 33=s54_33∧sp 19=s54_19∧sp 32=s54_32) (fun sp on hA hon=>?_) (fun ops54_33=>?_)
     ·refine ⟨fun o ho vs Rs f' S' w hp hf hx hS hR hs=>?_⟩
      obtain rfl := Option.some.inj ho
      obtain ⟨hv19,hR19⟩ := (spe hA.2.1 hs54_19 (hp 19 (by kernel_rfl)))
      obtain ⟨hv32,hR32⟩ := (spe hA.2.2 hs54_32 (hp 32 (by kernel_rfl)))
      rw [hA.1,hs54_33]
      refine And.intro (fun a ha=>(want_is (j:=19) (t:=44) (r:=true) rfl rfl (by kernel_rfl) (((hf 19 44 (by kernel_rfl) rfl).trans hv19).trans (congrArg Value.bool (show (decide (x5_4<y74))=true from dec_t q76))) rfl a ha).trans hon.symm) (And.intro (fun _=>?_) (fun h=>by rw [hon] at h; cases h))
      have hF := fr_next (fr_next (rfl) (((hf 19 44 (by kernel_rfl) rfl).trans hv19).trans (congrArg Value.bool (show (decide (x5_4<y74))=true from dec_t q76)))) ((hf 32 57 (by kernel_rfl) rfl).trans hv32)
      refine ls_fr hF ?_
      refine ls_load (a0:=(ad89.add ((IntKind.wrap .i64 (x4_1 - (1:Int))).toNat*1))) (v:=.slice xq91.1 ((a0.2.1).getD (IntKind.wrap .i64 (x4_1 - (1:Int))).toNat ([]:List Int)).length xq91.2) (de:=(TypeDesc.slice 5)) rfl rfl (by kernel_rfl) rfl (by kernel_rfl) (by kernel_rfl) (by kernel_rfl) (fun w1 hs1=>(Rd.step (hs.old hq92) hs1.below.bw).cell0) ?_
      exact ls_fin s0 _ (congrArg (fun z=>upd z 58 _) hF.symm) ⟨rfl,rfl⟩ (sub_nil _)
     obtain ⟨s54_34,hs54_34⟩ := exv (.int .i64 x5_4)
     refine have_opa shadowboxref16_all.tab52 4 34 (fun sp=>sp 34=s54_34∧sp 19=s54_19) (fun sp on hA hon=>?_) (fun ops54_34=>?_)
     ·refine ⟨fun o ho vs Rs f' S' w hp hf hx hS hR hs=>?_⟩
      obtain rfl := Option.some.inj ho
      obtain ⟨hv19,hR19⟩ := (spe hA.2 hs54_19 (hp 19 (by kernel_rfl)))
      rw [hA.1,hs54_34]
      refine And.intro (fun a ha=>(want_is (j:=19) (t:=44) (r:=true) rfl rfl (by kernel_rfl) (((hf 19 44 (by kernel_rfl) rfl).trans hv19).trans (congrArg Value.bool (show (decide (x5_4<y74))=true from dec_t q76))) rfl a ha).trans hon.symm) (And.intro (fun _=>?_) (fun h=>by rw [hon] at h; cases h))
      have hF := fr_next (fr_next (rfl) ((hx 5 (by kernel_rfl)).trans (by kernel_rfl:(_:Value)=.int .i64 x5_4))) (((hf 19 44 (by kernel_rfl) rfl).trans hv19).trans (congrArg Value.bool (show (decide (x5_4<y74))=true from dec_t q76)))
      refine ls_fr hF ?_
      refine lv (.int .i64 x5_4) ?_
      exact ls_fin s0 _ (congrArg (fun z=>upd z 59 _) hF.symm) ⟨rfl,rfl⟩ (sub_nil _)
     obtain ⟨q95,H⟩ := ite_need H
     obtain ⟨ad96,hA97⟩ := ido_at (T:=(Ec.int 5 .u8)) (l:=((a0.2.1).getD (IntKind.wrap .i64 (x4_1 - (1:Int))).toNat ([]:List Int))) (i:=x5_4) xR93 q83 q95
     obtain ⟨s54_35,hs54_35⟩ := exv (.pointer (some (ad96.add ((x5_4).toNat*1))))
     refine have_opa shadowboxref16_all.tab52 4 35 (fun sp=>sp 35=s54_35∧sp 19=s54_19∧sp 33=s54_33∧sp 34=s54_34) (fun sp on hA hon=>?_) (fun ops54_35=>?_)
     ·refine ⟨fun o ho vs Rs f' S' w hp hf hx hS hR hs=>?_⟩
      obtain rfl := Option.some.inj ho
      obtain ⟨hv19,hR19⟩ := (spe hA.2.1 hs54_19 (hp 19 (by kernel_rfl)))
      obtain ⟨hv33,hR33⟩ := (spe hA.2.2.1 hs54_33 (hp 33 (by kernel_rfl)))
      obtain ⟨hv34,hR34⟩ := (spe hA.2.2.2 hs54_34 (hp 34 (by kernel_rfl)))
      rw [hA.1,hs54_35]
      refine And.intro (fun a ha=>(want_is (j:=19) (t:=44) (r:=true) rfl rfl (by kernel_rfl) (((hf 19 44 (by kernel_rfl) rfl).trans hv19).trans (congrArg Value.bool (show (decide (x5_4<y74))=true from dec_t q76))) rfl a ha).trans hon.symm) (And.intro (fun _=>?_) (fun h=>by rw [hon] at h; cases h))
      have hF := fr_next (fr_next (fr_next (rfl) (((hf 19 44 (by kernel_rfl) rfl).trans hv19).trans (congrArg Value.bool (show (decide (x5_4<y74))=true from dec_t q76)))) ((hf 33 58 (by kernel_rfl) rfl).trans hv33)) ((hf 34 59 (by kernel_rfl) rfl).trans hv34)
      refine ls_fr hF ?_
      refine ls_idxv (Ec.int 5 .u8) (A:=xq91.1) (c:=xq91.2) (l:=((a0.2.1).getD (IntKind.wrap .i64 (x4_1 - (1:Int))).toNat ([]:List Int))) (k:=.i64) (i:=x5_4) (z:=1) (ad:=ad96) rfl rfl (by kernel_rfl) hA97 rfl (by kernel_rfl) (by kernel_rfl) (by kernel_rfl) (by kernel_rfl) q83 q95 ?_
      exact ls_fin s0 _ (congrArg (fun z=>upd z 60 _) hF.symm) ⟨rfl,rfl⟩ (sub_nil _)
     obtain ⟨y98,hy99,H⟩ := lt_some H
     obtain ⟨s54_36,hs54_36⟩ := exv (.int .u8 y98)
     refine have_opa shadowboxref16_all.tab52 4 36 (fun sp=>sp 36=s54_36∧sp 19=s54_19∧sp 35=s54_35) (fun sp on hA hon=>?_) (fun ops54_36=>?_)
     ·refine ⟨fun o ho vs Rs f' S' w hp hf hx hS hR hs=>?_⟩
      obtain rfl := Option.some.inj ho
      obtain ⟨hv19,hR19⟩ := (spe hA.2.1 hs54_19 (hp 19 (by kernel_rfl)))
      obtain ⟨hv35,hR35⟩ := (spe hA.2.2 hs54_35 (hp 35 (by kernel_rfl)))
      rw [hA.1,hs54_36]
      refine And.intro (fun a ha=>(want_is (j:=19) (t:=44) (r:=true) rfl rfl (by kernel_rfl) (((hf 19 44 (by kernel_rfl) rfl).trans hv19).trans (congrArg Value.bool (show (decide (x5_4<y74))=true from dec_t q76))) rfl a ha).trans hon.symm) (And.intro (fun _=>?_) (fun h=>by rw [hon] at h; cases h))
      have hF := fr_next (fr_next (rfl) (((hf 19 44 (by kernel_rfl) rfl).trans hv19).trans (congrArg Value.bool (show (decide (x5_4<y74))=true from dec_t q76)))) ((hf 35 60 (by kernel_rfl) rfl).trans hv35)
      refine ls_fr hF ?_
      refine ls_load (a0:=(ad96.add ((x5_4).toNat*1))) (v:=.int .u8 ((((a0.2.1).getD (IntKind.wrap .i64 (x4_1 - (1:Int))).toNat ([]:List Int))).getD (x5_4).toNat (0:Int))) (de:=(TypeDesc.int .u8)) rfl rfl (by kernel_rfl) rfl (by kernel_rfl) (by kernel_rfl) (by kernel_rfl) (fun w1 hs1=>(Rd.step (hs.old xR93) hs1.below.bw).at hA97 (em_sub (Ec.int 5 .u8) ((a0.2.1).getD (IntKind.wrap .i64 (x4_1 - (1:Int))).toNat ([]:List Int)) (i:=(x5_4).toNat) (by have h0:(0:Int)≤x5_4 := q83; have h1:x5_4<(((a0.2.1).getD (IntKind.wrap .i64 (x4_1 - (1:Int))).toNat ([]:List Int)).length:Int) := q95; omega))) ?_
      refine ls_ren 61 (v:=.int .u8 ((((a0.2.1).getD (IntKind.wrap .i64 (x4_1 - (1:Int))).toNat ([]:List Int))).getD (x5_4).toNat (0:Int))) (v' := .int .u8 y98) (by kernel_rfl) (by rw [hy99]) ?_
      exact ls_fin s0 _ ((upd_upd _ _ _ _).trans (congrArg (fun z=>upd z 61 _) hF.symm)) ⟨rfl,rfl⟩ (sub_nil _)
     refine cs_draw shadowboxref16_all.tab52 37 4 (spl [s54_0,s54_1,s54_2,s54_3,s54_4,s54_5,s54_6,s54_7,s54_8,s54_9,s54_10,s54_11,s54_12,s54_13,s54_14,s54_15,s54_16,s54_17,s54_18,s54_19,s54_20,s54_21,s54_22,s54_23,s54_24,s54_25,s54_26,s54_27,s54_28,s54_29,s54_30,s54_31,s54_32,s54_33,s54_34,s54_35,s54_36]) (onl [true,true,true,true,true,true,true,true,true,true,true,true,true,true,true,true,true,true,true,true,true,true,true,true,true,true,true,true,true,true,true,true,true,true,true,true,true]) (by kernel_rfl) (by kernel_rfl) (by kernel_rfl) (by kernel_rfl) (rs:=[_,_]) rfl (by kernel_rfl) (by kernel_rfl) (all_snoc (all_snoc (all_snoc (all_snoc (all_snoc (all_snoc (all_snoc (all_snoc (all_snoc (all_snoc (all_snoc (all_snoc (all_snoc (all_snoc (all_snoc (all_snoc (all_snoc (all_snoc (all_snoc (all_snoc (all_snoc (all_snoc (all_snoc (all_snoc (all_snoc (all_snoc (all_snoc (all_snoc (all_snoc (all_snoc (all_snoc (all_snoc (all_snoc (all_snoc (all_snoc (all_snoc (all_snoc (all_nil) (ops54_0 _ _ rfl rfl)) (ops54_1 _ _ rfl rfl)) (ops54_2 _ _ ⟨rfl,rfl⟩ rfl)) (ops54_3 _ _ rfl rfl)) (ops54_4 _ _ ⟨rfl,rfl,rfl⟩ rfl)) (ops54_5 _ _ ⟨rfl,rfl⟩ rfl)) (ops54_6 _ _ ⟨rfl,rfl⟩ rfl)) (ops54_7 _ _ ⟨rfl,rfl,rfl⟩ rfl)) (ops54_8 _ _ ⟨rfl,rfl⟩ rfl)) (ops54_9 _ _ ⟨rfl,rfl⟩ rfl)) (ops54_10 _ _ ⟨rfl,rfl⟩ rfl)) (ops54_11 _ _ ⟨rfl,rfl,rfl⟩ rfl)) (ops54_12 _ _ ⟨rfl,rfl⟩ rfl)) (ops54_13 _ _ ⟨rfl,rfl,rfl⟩ rfl)) (ops54_14 _ _ ⟨rfl,rfl,rfl,rfl⟩ rfl)) (ops54_15 _ _ ⟨rfl,rfl,rfl⟩ rfl)) (ops54_16 _ _ ⟨rfl,rfl,rfl⟩ rfl)) (ops54_17 _ _ ⟨rfl,rfl,rfl,rfl⟩ rfl)) (ops54_18 _ _ ⟨rfl,rfl,rfl⟩ rfl)) (ops54_19 _ _ ⟨rfl,rfl⟩ rfl)) (ops54_20 _ _ ⟨rfl,rfl⟩ rfl)) (ops54_21 _ _ ⟨rfl,rfl,rfl⟩ rfl)) (ops54_22 _ _ ⟨rfl,rfl⟩ rfl)) (ops54_23 _ _ ⟨rfl,rfl,rfl,rfl⟩ rfl)) (ops54_24 _ _ ⟨rfl,rfl,rfl⟩ rfl)) (ops54_25 _ _ ⟨rfl,rfl⟩ rfl)) (ops54_26 _ _ ⟨rfl,rfl,rfl,rfl⟩ rfl)) (ops54_27 _ _ ⟨rfl,rfl,rfl⟩ rfl)) (ops54_28 _ _ ⟨rfl,rfl⟩ rfl)) (ops54_29 _ _ ⟨rfl,rfl,rfl⟩ rfl)) (ops54_30 _ _ ⟨rfl,rfl⟩ rfl)) (ops54_31 _ _ ⟨rfl,rfl,rfl⟩ rfl)) (ops54_32 _ _ ⟨rfl,rfl,rfl,rfl⟩ rfl)) (ops54_33 _ _ ⟨rfl,rfl,rfl⟩ rfl)) (ops54_34 _ _ ⟨rfl,rfl⟩ rfl)) (ops54_35 _ _ ⟨rfl,rfl,rfl,rfl⟩ rfl)) (ops54_36 _ _ ⟨rfl,rfl,rfl⟩ rfl)) ?_
     intro vs Rs f' S' hp hf hx hS hR
     obtain ⟨hv19,hR19⟩ := (spe rfl hs54_19 (hp 19 (by kernel_rfl)))
     obtain ⟨hv27,hR27⟩ := (spe rfl hs54_27 (hp 27 (by kernel_rfl)))
     obtain ⟨hv36,hR36⟩ := (spe rfl hs54_36 (hp 36 (by kernel_rfl)))
     refine ls_fr (F:=upd (upd (upd (upd (upd (upd (upd f' 1 (.pointer (some ⟨g1,0,none⟩))) 3 (.slice A3_1 l3_1.length c3_1)) 4 (.int .i64 x4_1)) 5 (.int .i64 x5_4)) 44 (.bool (decide (x5_4<y74)))) 52 (.int .u8 y87)) 61 (.int .u8 y98)) (fr_next (fr_next (fr_next (fr_next (fr_next (fr_next (fr_next (rfl) ((hx 1 (by kernel_rfl)).trans (by kernel_rfl:(_:Value)=.pointer (some ⟨g1,0,none⟩)))) ((hx 3 (by kernel_rfl)).trans (by kernel_rfl:(_:Value)=.slice A3_1 l3_1.length c3_1))) ((hx 4 (by kernel_rfl)).trans (by kernel_rfl:(_:Value)=.int .i64 x4_1))) ((hx 5 (by kernel_rfl)).trans (by kernel_rfl:(_:Value)=.int .i64 x5_4))) ((hf 19 44 (by kernel_rfl) rfl).trans hv19)) ((hf 27 52 (by kernel_rfl) rfl).trans hv27)) ((hf 36 61 (by kernel_rfl) rfl).trans hv36)) ?_
     refine ls_sub (sput (sput s0 0 (some (Ck.var 32 g1 (([Value.int .i64 a0.1]++([Value.slice A0_1 a0.2.1.length c0_1]++([Value.slice A0_2 a0.2.2.1.length c0_2]++[Value.slice A0_3 a0.2.2.2.length c0_3]))))))) 3 (some (Ck.ro (Ec.int 5 .u8) A3_1 c3_1 l3_1))) (sub_put ((hS 3 (by kernel_rfl)).trans (by exact rfl)) (sub_put ((hS 0 (by kernel_rfl)).trans (by exact rfl)) (sub_nil _))) ?_
     refine ls_know (c:=true) (dec_t q76) 44 (by kernel_rfl) ?_
     refine ls_on (j:=19) (t:=44) (b:=true) rfl rfl (by kernel_rfl) (by kernel_rfl) ?_
     refine lv (.bool (decide (y87=y98))) ?_
     refine lv (.bool (decide (y87=y98))) ?_
     refine ls_end ?_
     refine qn_then ?_
     by_cases q100:y87=y98
     ·replace H := ite_t q100 H
      refine cs_know (c:=true) (dec_t q100) 63 (by kernel_rfl) ?_
      refine cs_true (by kernel_rfl) ?_
      refine cs_skip' ?_
      refine qn_then ?_
      refine cs_block ?_
      refine cs_region (l:=[_,_,_]) ?_
      refine lv (.int .i64 x5_4) ?_
      refine lv (.int .i64 (IntKind.wrap .i64 (x5_4+(1:Int)))) ?_
      refine lv (.int .i64 (IntKind.wrap .i64 (x5_4+(1:Int)))) ?_
      refine ls_end ?_
      refine qn_block ?_
      refine qn_again k4 (sput (sput s0 0 (some (Ck.var 32 g1 (([Value.int .i64 a0.1]++([Value.slice A0_1 a0.2.1.length c0_1]++([Value.slice A0_2 a0.2.2.1.length c0_2]++[Value.slice A0_3 a0.2.2.2.length c0_3]))))))) 3 (some (Ck.ro (Ec.int 5 .u8) A3_1 c3_1 l3_1))) (Nat.le_refl _) ⟨_,(IntKind.wrap .i64 (x5_4+(1:Int))),fr_next (fr_next (fr_next (fr_next (rfl) (by kernel_rfl)) (by kernel_rfl)) (by kernel_rfl)) (by kernel_rfl),rfl,H⟩ (sub_put (by exact rfl) (sub_put (by exact rfl) (sub_nil _)))
     replace H := ite_f q100 H
     refine cs_know (c:=false) (dec_f q100) 63 (by kernel_rfl) ?_
     refine cs_false (by kernel_rfl) ?_
     refine cs_exit' ?_
     refine qx_then ?_
     refine qx_then ?_
     refine qx_same ?_
     refine qn_meet (sput (sput s0 0 (some (Ck.var 32 g1 (([Value.int .i64 a0.1]++([Value.slice A0_1 a0.2.1.length c0_1]++([Value.slice A0_2 a0.2.2.1.length c0_2]++[Value.slice A0_3 a0.2.2.2.length c0_3]))))))) 3 (some (Ck.ro (Ec.int 5 .u8) A3_1 c3_1 l3_1))) ⟨_,x5_4,fr_next (fr_next (fr_next (fr_next (rfl) (by kernel_rfl)) (by kernel_rfl)) (by kernel_rfl)) (by kernel_rfl),rfl,H⟩ (sub_put (by exact rfl) (sub_put (by exact rfl) (sub_nil _)))
    replace H := ite_f q76 H
    refine cs_draw shadowboxref16_all.tab52 37 4 (spl [s54_0,s54_1,s54_2,s54_3,s54_4,s54_5,s54_6,s54_7,s54_8,s54_9,s54_10,s54_11,s54_12,s54_13,s54_14,s54_15,s54_16,s54_17,s54_18,s54_19,spu,spu,spu,spu,spu,spu,spu,spu,spu,spu,spu,spu,spu,spu,spu,spu,spu]) (onl [true,true,true,true,true,true,true,true,true,true,true,true,true,true,true,true,true,true,true,true,false,false,false,false,false,false,false,false,false,false,false,false,false,false,false,false,false]) (by kernel_rfl) (by kernel_rfl) (by kernel_rfl) (by kernel_rfl) (rs:=[_,_]) rfl (by kernel_rfl) (by kernel_rfl) (all_snoc (all_snoc (all_snoc (all_snoc (all_snoc (all_snoc (all_snoc (all_snoc (all_snoc (all_snoc (all_snoc (all_snoc (all_snoc (all_snoc (all_snoc (all_snoc (all_snoc (all_snoc (all_snoc (all_snoc (all_snoc (all_snoc (all_snoc (all_snoc (all_snoc (all_snoc (all_snoc (all_snoc (all_snoc (all_snoc (all_snoc (all_snoc (all_snoc (all_snoc (all_snoc (all_snoc (all_snoc (all_nil) (ops54_0 _ _ rfl rfl)) (ops54_1 _ _ rfl rfl)) (ops54_2 _ _ ⟨rfl,rfl⟩ rfl)) (ops54_3 _ _ rfl rfl)) (ops54_4 _ _ ⟨rfl,rfl,rfl⟩ rfl)) (ops54_5 _ _ ⟨rfl,rfl⟩ rfl)) (ops54_6 _ _ ⟨rfl,rfl⟩ rfl)) (ops54_7 _ _ ⟨rfl,rfl,rfl⟩ rfl)) (ops54_8 _ _ ⟨rfl,rfl⟩ rfl)) (ops54_9 _ _ ⟨rfl,rfl⟩ rfl)) (ops54_10 _ _ ⟨rfl,rfl⟩ rfl)) (ops54_11 _ _ ⟨rfl,rfl,rfl⟩ rfl)) (ops54_12 _ _ ⟨rfl,rfl⟩ rfl)) (ops54_13 _ _ ⟨rfl,rfl,rfl⟩ rfl)) (ops54_14 _ _ ⟨rfl,rfl,rfl,rfl⟩ rfl)) (ops54_15 _ _ ⟨rfl,rfl,rfl⟩ rfl)) (ops54_16 _ _ ⟨rfl,rfl,rfl⟩ rfl)) (ops54_17 _ _ ⟨rfl,rfl,rfl,rfl⟩ rfl)) (ops54_18 _ _ ⟨rfl,rfl,rfl⟩ rfl)) (ops54_19 _ _ ⟨rfl,rfl⟩ rfl)) (op_offi 20 19 44 true rfl rfl (by kernel_rfl) (by kernel_rfl) rfl (fun v R h=>by rw [hs54_19] at h; obtain ⟨h,_⟩ := h; exact h.trans (congrArg Value.bool (show (decide (x5_4<y74))=false from dec_f q76))) rfl rfl)) (op_offi 21 19 44 true rfl rfl (by kernel_rfl) (by kernel_rfl) rfl (fun v R h=>by rw [hs54_19] at h; obtain ⟨h,_⟩ := h; exact h.trans (congrArg Value.bool (show (decide (x5_4<y74))=false from dec_f q76))) rfl rfl)) (op_offi 22 19 44 true rfl rfl (by kernel_rfl) (by kernel_rfl) rfl (fun v R h=>by rw [hs54_19] at h; obtain ⟨h,_⟩ := h; exact h.trans (congrArg Value.bool (show (decide (x5_4<y74))=false from dec_f q76))) rfl rfl)) (op_offi 23 19 44 true rfl rfl (by kernel_rfl) (by kernel_rfl) rfl (fun v R h=>by rw [hs54_19] at h; obtain ⟨h,_⟩ := h; exact h.trans (congrArg Value.bool (show (decide (x5_4<y74))=false from dec_f q76))) rfl rfl)) (op_offi 24 19 44 true rfl rfl (by kernel_rfl) (by kernel_rfl) rfl (fun v R h=>by rw [hs54_19] at h; obtain ⟨h,_⟩ := h; exact h.trans (congrArg Value.bool (show (decide (x5_4<y74))=false from dec_f q76))) rfl rfl)) (op_offi 25 19 44 true rfl rfl (by kernel_rfl) (by kernel_rfl) rfl (fun v R h=>by rw [hs54_19] at h; obtain ⟨h,_⟩ := h; exact h.trans (congrArg Value.bool (show (decide (x5_4<y74))=false from dec_f q76))) rfl rfl)) (op_offi 26 19 44 true rfl rfl (by kernel_rfl) (by kernel_rfl) rfl (fun v R h=>by rw [hs54_19] at h; obtain ⟨h,_⟩ := h; exact h.trans (congrArg Value.bool (show (decide (x5_4<y74))=false from dec_f q76))) rfl rfl)) (op_offi 27 19 44 true rfl rfl (by kernel_rfl) (by kernel_rfl) rfl (fun v R h=>by rw [hs54_19] at h; obtain ⟨h,_⟩ := h; exact h.trans (congrArg Value.bool (show (decide (x5_4<y74))=false from dec_f q76))) rfl rfl)) (op_offi 28 19 44 true rfl rfl (by kernel_rfl) (by kernel_rfl) rfl (fun v R h=>by rw [hs54_19] at h; obtain ⟨h,_⟩ := h; exact h.trans (congrArg Value.bool (show (decide (x5_4<y74))=false from dec_f q76))) rfl rfl)) (op_offi 29 19 44 true rfl rfl (by kernel_rfl) (by kernel_rfl) rfl (fun v R h=>by rw [hs54_19] at h; obtain ⟨h,_⟩ := h; exact h.trans (congrArg Value.bool (show (decide (x5_4<y74))=false from dec_f q76))) rfl rfl)) (op_offi 30 19 44 true rfl rfl (by kernel_rfl) (by kernel_rfl) rfl (fun v R h=>by rw [hs54_19] at h; obtain ⟨h,_⟩ := h; exact h.trans (congrArg Value.bool (show (decide (x5_4<y74))=false from dec_f q76))) rfl rfl)) (op_offi 31 19 44 true rfl rfl (by kernel_rfl) (by kernel_rfl) rfl (fun v R h=>by rw [hs54_19] at h; obtain ⟨h,_⟩ := h; exact h.trans (congrArg Value.bool (show (decide (x5_4<y74))=false from dec_f q76))) rfl rfl)) (op_offi 32 19 44 true rfl rfl (by kernel_rfl) (by kernel_rfl) rfl (fun v R h=>by rw [hs54_19] at h; obtain ⟨h,_⟩ := h; exact h.trans (congrArg Value.bool (show (decide (x5_4<y74))=false from dec_f q76))) rfl rfl)) (op_offi 33 19 44 true rfl rfl (by kernel_rfl) (by kernel_rfl) rfl (fun v R h=>by rw [hs54_19] at h; obtain ⟨h,_⟩ := h; exact h.trans (congrArg Value.bool (show (decide (x5_4<y74))=false from dec_f q76))) rfl rfl)) (op_offi 34 19 44 true rfl rfl (by kernel_rfl) (by kernel_rfl) rfl (fun v R h=>by rw [hs54_19] at h; obtain ⟨h,_⟩ := h; exact h.trans (congrArg Value.bool (show (decide (x5_4<y74))=false from dec_f q76))) rfl rfl)) (op_offi 35 19 44 true rfl rfl (by kernel_rfl) (by kernel_rfl) rfl (fun v R h=>by rw [hs54_19] at h; obtain ⟨h,_⟩ := h; exact h.trans (congrArg Value.bool (show (decide (x5_4<y74))=false from dec_f q76))) rfl rfl)) (op_offi 36 19 44 true rfl rfl (by kernel_rfl) (by kernel_rfl) rfl (fun v R h=>by rw [hs54_19] at h; obtain ⟨h,_⟩ := h; exact h.trans (congrArg Value.bool (show (decide (x5_4<y74))=false from dec_f q76))) rfl rfl)) ?_
    intro vs Rs f' S' hp hf hx hS hR
    obtain ⟨hv19,hR19⟩ := (spe rfl hs54_19 (hp 19 (by kernel_rfl)))
    obtain ⟨hv27,hR27⟩ := (spe rfl rfl (hp 27 (by kernel_rfl)):spu _ _)
    obtain ⟨hv36,hR36⟩ := (spe rfl rfl (hp 36 (by kernel_rfl)):spu _ _)
    refine ls_fr (F:=upd (upd (upd (upd (upd f' 1 (.pointer (some ⟨g1,0,none⟩))) 3 (.slice A3_1 l3_1.length c3_1)) 4 (.int .i64 x4_1)) 5 (.int .i64 x5_4)) 44 (.bool (decide (x5_4<y74)))) (fr_next (fr_next (fr_next (fr_next (fr_next (rfl) ((hx 1 (by kernel_rfl)).trans (by kernel_rfl:(_:Value)=.pointer (some ⟨g1,0,none⟩)))) ((hx 3 (by kernel_rfl)).trans (by kernel_rfl:(_:Value)=.slice A3_1 l3_1.length c3_1))) ((hx 4 (by kernel_rfl)).trans (by kernel_rfl:(_:Value)=.int .i64 x4_1))) ((hx 5 (by kernel_rfl)).trans (by kernel_rfl:(_:Value)=.int .i64 x5_4))) ((hf 19 44 (by kernel_rfl) rfl).trans hv19)) ?_
    refine ls_sub (sput (sput s0 0 (some (Ck.var 32 g1 (([Value.int .i64 a0.1]++([Value.slice A0_1 a0.2.1.length c0_1]++([Value.slice A0_2 a0.2.2.1.length c0_2]++[Value.slice A0_3 a0.2.2.2.length c0_3]))))))) 3 (some (Ck.ro (Ec.int 5 .u8) A3_1 c3_1 l3_1))) (sub_put ((hS 3 (by kernel_rfl)).trans (by exact rfl)) (sub_put ((hS 0 (by kernel_rfl)).trans (by exact rfl)) (sub_nil _))) ?_
    refine ls_know (c:=false) (dec_f q76) 44 (by kernel_rfl) ?_
    refine lofx 19 44 true false ?_
    refine lv (.bool false) ?_
    refine ls_end ?_
    refine qn_then ?_
    refine cs_false (by kernel_rfl) ?_
    refine cs_exit' ?_
    refine qx_then ?_
    refine qx_then ?_
    refine qx_same ?_
    refine qn_meet (sput (sput s0 0 (some (Ck.var 32 g1 (([Value.int .i64 a0.1]++([Value.slice A0_1 a0.2.1.length c0_1]++([Value.slice A0_2 a0.2.2.1.length c0_2]++[Value.slice A0_3 a0.2.2.2.length c0_3]))))))) 3 (some (Ck.ro (Ec.int 5 .u8) A3_1 c3_1 l3_1))) ⟨_,x5_4,fr_next (fr_next (fr_next (fr_next (rfl) (by kernel_rfl)) (by kernel_rfl)) (by kernel_rfl)) (by kernel_rfl),rfl,H⟩ (sub_put (by exact rfl) (sub_put (by exact rfl) (sub_nil _)))
   replace H := ite_f q65 H
   obtain ⟨s54_18,hs54_18⟩ := exv (.bool false)
   refine have_opa shadowboxref16_all.tab52 4 18 (fun sp=>sp 18=s54_18∧sp 8=s54_8∧sp 17=spu) (fun sp on hA hon=>?_) (fun ops54_18=>?_)
   ·refine ⟨fun o ho vs Rs f' S' w hp hf hx hS hR hs=>?_⟩
    obtain rfl := Option.some.inj ho
    obtain ⟨hv8,hR8⟩ := (spe hA.2.1 hs54_8 (hp 8 (by kernel_rfl)))
    obtain ⟨hv17,hR17⟩ := (spe hA.2.2 rfl (hp 17 (by kernel_rfl)):spu _ _)
    exact opv (.bool false) hA.1 hs54_18 hon (fr_next (fr_next (rfl) (((hf 8 33 (by kernel_rfl) rfl).trans hv8).trans (congrArg Value.bool (show (decide (x5_4<y63))=false from dec_f q65)))) ((hf 17 42 (by kernel_rfl) rfl).trans hv17))
   obtain ⟨s54_19,hs54_19⟩ := exv (.bool false)
   refine have_opa shadowboxref16_all.tab52 4 19 (fun sp=>sp 19=s54_19∧sp 18=s54_18) (fun sp on hA hon=>?_) (fun ops54_19=>?_)
   ·refine ⟨fun o ho vs Rs f' S' w hp hf hx hS hR hs=>?_⟩
    obtain rfl := Option.some.inj ho
    obtain ⟨hv18,hR18⟩ := (spe hA.2 hs54_18 (hp 18 (by kernel_rfl)))
    exact opv (.bool false) hA.1 hs54_19 hon (fr_next (rfl) ((hf 18 43 (by kernel_rfl) rfl).trans hv18))
   refine cs_draw shadowboxref16_all.tab52 37 4 (spl [s54_0,s54_1,s54_2,s54_3,s54_4,s54_5,s54_6,s54_7,s54_8,spu,spu,spu,spu,spu,spu,spu,spu,spu,s54_18,s54_19,spu,spu,spu,spu,spu,spu,spu,spu,spu,spu,spu,spu,spu,spu,spu,spu,spu]) (onl [true,true,true,true,true,true,true,true,true,false,false,false,false,false,false,false,false,false,true,true,false,false,false,false,false,false,false,false,false,false,false,false,false,false,false,false,false]) (by kernel_rfl) (by kernel_rfl) (by kernel_rfl) (by kernel_rfl) (rs:=[_,_]) rfl (by kernel_rfl) (by kernel_rfl) (all_snoc (all_snoc (all_snoc (all_snoc (all_snoc (all_snoc (all_snoc (all_snoc (all_snoc (all_snoc (all_snoc (all_snoc (all_snoc (all_snoc (all_snoc (all_snoc (all_snoc (all_snoc (all_snoc (all_snoc (all_snoc (all_snoc (all_snoc (all_snoc (all_snoc (all_snoc (all_snoc (all_snoc (all_snoc (all_snoc (all_snoc (all_snoc (all_snoc (all_snoc (all_snoc (all_snoc (all_snoc (all_nil) (ops54_0 _ _ rfl rfl)) (ops54_1 _ _ rfl rfl)) (ops54_2 _ _ ⟨rfl,rfl⟩ rfl)) (ops54_3 _ _ rfl rfl)) (ops54_4 _ _ ⟨rfl,rfl,rfl⟩ rfl)) (ops54_5 _ _ ⟨rfl,rfl⟩ rfl)) (ops54_6 _ _ ⟨rfl,rfl⟩ rfl)) (ops54_7 _ _ ⟨rfl,rfl,rfl⟩ rfl)) (ops54_8 _ _ ⟨rfl,rfl⟩ rfl)) (op_offi 9 8 33 true rfl rfl (by kernel_rfl) (by kernel_rfl) rfl (fun v R h=>by rw [hs54_8] at h; obtain ⟨h,_⟩ := h; exact h.trans (congrArg Value.bool (show (decide (x5_4<y63))=false from dec_f q65))) rfl rfl)) (op_offi 10 8 33 true rfl rfl (by kernel_rfl) (by kernel_rfl) rfl (fun v R h=>by rw [hs54_8] at h; obtain ⟨h,_⟩ := h; exact h.trans (congrArg Value.bool (show (decide (x5_4<y63))=false from dec_f q65))) rfl rfl)) (op_offi 11 8 33 true rfl rfl (by kernel_rfl) (by kernel_rfl) rfl (fun v R h=>by rw [hs54_8] at h; obtain ⟨h,_⟩ := h; exact h.trans (congrArg Value.bool (show (decide (x5_4<y63))=false from dec_f q65))) rfl rfl)) (op_offi 12 8 33 true rfl rfl (by kernel_rfl) (by kernel_rfl) rfl (fun v R h=>by rw [hs54_8] at h; obtain ⟨h,_⟩ := h; exact h.trans (congrArg Value.bool (show (decide (x5_4<y63))=false from dec_f q65))) rfl rfl)) (op_offi 13 8 33 true rfl rfl (by kernel_rfl) (by kernel_rfl) rfl (fun v R h=>by rw [hs54_8] at h; obtain ⟨h,_⟩ := h; exact h.trans (congrArg Value.bool (show (decide (x5_4<y63))=false from dec_f q65))) rfl rfl)) (op_offi 14 8 33 true rfl rfl (by kernel_rfl) (by kernel_rfl) rfl (fun v R h=>by rw [hs54_8] at h; obtain ⟨h,_⟩ := h; exact h.trans (congrArg Value.bool (show (decide (x5_4<y63))=false from dec_f q65))) rfl rfl)) (op_offi 15 8 33 true rfl rfl (by kernel_rfl) (by kernel_rfl) rfl (fun v R h=>by rw [hs54_8] at h; obtain ⟨h,_⟩ := h; exact h.trans (congrArg Value.bool (show (decide (x5_4<y63))=false from dec_f q65))) rfl rfl)) (op_offi 16 8 33 true rfl rfl (by kernel_rfl) (by kernel_rfl) rfl (fun v R h=>by rw [hs54_8] at h; obtain ⟨h,_⟩ := h; exact h.trans (congrArg Value.bool (show (decide (x5_4<y63))=false from dec_f q65))) rfl rfl)) (op_offi 17 8 33 true rfl rfl (by kernel_rfl) (by kernel_rfl) rfl (fun v R h=>by rw [hs54_8] at h; obtain ⟨h,_⟩ := h; exact h.trans (congrArg Value.bool (show (decide (x5_4<y63))=false from dec_f q65))) rfl rfl)) (ops54_18 _ _ ⟨rfl,rfl,rfl⟩ rfl)) (ops54_19 _ _ ⟨rfl,rfl⟩ rfl)) (op_offi 20 19 44 true rfl rfl (by kernel_rfl) (by kernel_rfl) rfl (fun v R h=>by rw [hs54_19] at h; obtain ⟨h,_⟩ := h; exact h) rfl rfl)) (op_offi 21 19 44 true rfl rfl (by kernel_rfl) (by kernel_rfl) rfl (fun v R h=>by rw [hs54_19] at h; obtain ⟨h,_⟩ := h; exact h) rfl rfl)) (op_offi 22 19 44 true rfl rfl (by kernel_rfl) (by kernel_rfl) rfl (fun v R h=>by rw [hs54_19] at h; obtain ⟨h,_⟩ := h; exact h) rfl rfl)) (op_offi 23 19 44 true rfl rfl (by kernel_rfl) (by kernel_rfl) rfl (fun v R h=>by rw [hs54_19] at h; obtain ⟨h,_⟩ := h; exact h) rfl rfl)) (op_offi 24 19 44 true rfl rfl (by kernel_rfl) (by kernel_rfl) rfl (fun v R h=>by rw [hs54_19] at h; obtain ⟨h,_⟩ := h; exact h) rfl rfl)) (op_offi 25 19 44 true rfl rfl (by kernel_rfl) (by kernel_rfl) rfl (fun v R h=>by rw [hs54_19] at h; obtain ⟨h,_⟩ := h; exact h) rfl rfl)) (op_offi 26 19 44 true rfl rfl (by kernel_rfl) (by kernel_rfl) rfl (fun v R h=>by rw [hs54_19] at h; obtain ⟨h,_⟩ := h; exact h) rfl rfl)) (op_offi 27 19 44 true rfl rfl (by kernel_rfl) (by kernel_rfl) rfl (fun v R h=>by rw [hs54_19] at h; obtain ⟨h,_⟩ := h; exact h) rfl rfl)) (op_offi 28 19 44 true rfl rfl (by kernel_rfl) (by kernel_rfl) rfl (fun v R h=>by rw [hs54_19] at h; obtain ⟨h,_⟩ := h; exact h) rfl rfl)) (op_offi 29 19 44 true rfl rfl (by kernel_rfl) (by kernel_rfl) rfl (fun v R h=>by rw [hs54_19] at h; obtain ⟨h,_⟩ := h; exact h) rfl rfl)) (op_offi 30 19 44 true rfl rfl (by kernel_rfl) (by kernel_rfl) rfl (fun v R h=>by rw [hs54_19] at h; obtain ⟨h,_⟩ := h; exact h) rfl rfl)) (op_offi 31 19 44 true rfl rfl (by kernel_rfl) (by kernel_rfl) rfl (fun v R h=>by rw [hs54_19] at h; obtain ⟨h,_⟩ := h; exact h) rfl rfl)) (op_offi 32 19 44 true rfl rfl (by kernel_rfl) (by kernel_rfl) rfl (fun v R h=>by rw [hs54_19] at h; obtain ⟨h,_⟩ := h; exact h) rfl rfl)) (op_offi 33 19 44 true rfl rfl (by kernel_rfl) (by kernel_rfl) rfl (fun v R h=>by rw [hs54_19] at h; obtain ⟨h,_⟩ := h; exact h) rfl rfl)) (op_offi 34 19 44 true rfl rfl (by kernel_rfl) (by kernel_rfl) rfl (fun v R h=>by rw [hs54_19] at h; obtain ⟨h,_⟩ := h; exact h) rfl rfl)) (op_offi 35 19 44 true rfl rfl (by kernel_rfl) (by kernel_rfl) rfl (fun v R h=>by rw [hs54_19] at h; obtain ⟨h,_⟩ := h; exact h) rfl rfl)) (op_offi 36 19 44 true rfl rfl (by kernel_rfl) (by kernel_rfl) rfl (fun v R h=>by rw [hs54_19] at h; obtain ⟨h,_⟩ := h; exact h) rfl rfl)) ?_
   intro vs Rs f' S' hp hf hx hS hR
   obtain ⟨hv19,hR19⟩ := (spe rfl hs54_19 (hp 19 (by kernel_rfl)))
   obtain ⟨hv27,hR27⟩ := (spe rfl rfl (hp 27 (by kernel_rfl)):spu _ _)
   obtain ⟨hv36,hR36⟩ := (spe rfl rfl (hp 36 (by kernel_rfl)):spu _ _)
   refine ls_fr (F:=upd (upd (upd (upd (upd f' 1 (.pointer (some ⟨g1,0,none⟩))) 3 (.slice A3_1 l3_1.length c3_1)) 4 (.int .i64 x4_1)) 5 (.int .i64 x5_4)) 44 (.bool false)) (fr_next (fr_next (fr_next (fr_next (fr_next (rfl) ((hx 1 (by kernel_rfl)).trans (by kernel_rfl:(_:Value)=.pointer (some ⟨g1,0,none⟩)))) ((hx 3 (by kernel_rfl)).trans (by kernel_rfl:(_:Value)=.slice A3_1 l3_1.length c3_1))) ((hx 4 (by kernel_rfl)).trans (by kernel_rfl:(_:Value)=.int .i64 x4_1))) ((hx 5 (by kernel_rfl)).trans (by kernel_rfl:(_:Value)=.int .i64 x5_4))) ((hf 19 44 (by kernel_rfl) rfl).trans hv19)) ?_
   refine ls_sub (sput (sput s0 0 (some (Ck.var 32 g1 (([Value.int .i64 a0.1]++([Value.slice A0_1 a0.2.1.length c0_1]++([Value.slice A0_2 a0.2.2.1.length c0_2]++[Value.slice A0_3 a0.2.2.2.length c0_3]))))))) 3 (some (Ck.ro (Ec.int 5 .u8) A3_1 c3_1 l3_1))) (sub_put ((hS 3 (by kernel_rfl)).trans (by exact rfl)) (sub_put ((hS 0 (by kernel_rfl)).trans (by exact rfl)) (sub_nil _))) ?_
   refine lofx 19 44 true false ?_
   refine lv (.bool false) ?_
   refine ls_end ?_
   refine qn_then ?_
   refine cs_false (by kernel_rfl) ?_
   refine cs_exit' ?_
   refine qx_then ?_
   refine qx_then ?_
   refine qx_same ?_
   refine qn_meet (sput (sput s0 0 (some (Ck.var 32 g1 (([Value.int .i64 a0.1]++([Value.slice A0_1 a0.2.1.length c0_1]++([Value.slice A0_2 a0.2.2.1.length c0_2]++[Value.slice A0_3 a0.2.2.2.length c0_3]))))))) 3 (some (Ck.ro (Ec.int 5 .u8) A3_1 c3_1 l3_1))) ⟨_,x5_4,fr_next (fr_next (fr_next (fr_next (rfl) (by kernel_rfl)) (by kernel_rfl)) (by kernel_rfl)) (by kernel_rfl),rfl,H⟩ (sub_put (by exact rfl) (sub_put (by exact rfl) (sub_nil _)))
  replace H := ite_f q52 H
  refine cs_know (c:=false) (dec_f q52) 24 (by kernel_rfl) ?_
  refine cs_false (by kernel_rfl) ?_
  refine cs_skip' ?_
  refine qn_meet (sput (sput s0 0 (some (Ck.var 32 g1 (([Value.int .i64 a0.1]++([Value.slice A0_1 a0.2.1.length c0_1]++([Value.slice A0_2 a0.2.2.1.length c0_2]++[Value.slice A0_3 a0.2.2.2.length c0_3]))))))) 3 (some (Ck.ro (Ec.int 5 .u8) A3_1 c3_1 l3_1))) ⟨_,(0:Int),fr_next (fr_next (fr_next (fr_next (rfl) (by kernel_rfl)) (by kernel_rfl)) (by kernel_rfl)) (by kernel_rfl),rfl,H⟩ (sub_put (by exact rfl) (sub_put (by exact rfl) (sub_nil _)))
 rintro f S ⟨fr3,x5_3,rfl,rfl,H⟩
 replace H:((shadowboxref01_Short.f k1 l3_1 (IntKind.wrap .u64 x5_3)).bind fun t8=>(if 0≤x4_1 then (if x4_1<(a0.2.1.length:Int) then (if 0≤x5_3 then (if x5_3≤(((a0.2.1).getD (x4_1).toNat ([]:List Int)).length:Int) then lt (((a0.2.1).getD (x4_1).toNat ([]:List Int)).drop (x5_3).toNat) fun xl25=>(shadowboxref01_Text.f k1 t8 (strOfNums xl25)).bind fun t30=>(if a0.1=(0:Int) then (if x4_1<(a0.2.2.1.length:Int) then lt (strOfNums ((a0.2.2.1).getD (x4_1).toNat ([]:List Int))) fun y41=>(shadowboxref01_Text.f k1 t30 y41).bind fun t43=>(shadowboxref16_all.lo1 a0 k1) t43 (IntKind.wrap .i64 (x4_1+(1:Int))) else none) else (if x4_1<(a0.2.2.2.length:Int) then (shadowboxref06_Put.f k1 t30 ((a0.2.2.2).getD (x4_1).toNat ((0:Int),(0:Int),(0:Int),(0:Int),(vrep 32 (0:Int))))).bind fun t49=>(shadowboxref16_all.lo1 a0 k1) t49 (IntKind.wrap .i64 (x4_1+(1:Int))) else none)) else none) else none) else none) else none))=some r := H
 refine cs_seq ?_
 refine cs_region (l:=[_,_,_,_,_]) ?_
 refine lv (.slice A3_1 l3_1.length c3_1) ?_
 refine lv (.int .i64 x5_3) ?_
 refine lv (.int .u64 (IntKind.wrap .u64 x5_3)) ?_
 obtain ⟨t8,hc9,H⟩ := bind_some H
 refine ls_callb (fid:=75) (vals:=#[.slice A3_1 l3_1.length c3_1,.int .u64 (IntKind.wrap .u64 x5_3)]) (X:=(Option Addr × Nat)) (fun x=>.slice x.1 t8.length x.2) (fun x=>stl [Ck.sl (Ec.int 5 .u8) x.1 x.2 t8]) [] [3] [] [Ck.ro (Ec.int 5 .u8) A3_1 c3_1 l3_1] 4 rfl rfl (by kernel_rfl) (fun w=>by kernel_rfl) trivial ⟨by exact rfl,trivial⟩ (by decide) (fun w hs hb=>shadowboxref01_Short.calls k1 A3_1 c3_1 l3_1 (IntKind.wrap .u64 x5_3) t8 (lent b w [] [Ck.ro (Ec.int 5 .u8) A3_1 c3_1 l3_1]) hb (hs.roror (k:=3) (by exact rfl) (.head _)) (hs.rocap (k:=3) (by exact rfl)) hc9) ?_
 intro x10
 refine lv (.slice x10.1 t8.length x10.2) ?_
 refine ls_end ?_
 refine qn_then ?_
 refine cs_seq ?_
 refine cs_region (l:=[_,_,_,_,_,_,_,_,_,_,_]) ?_
 refine lv (.slice x10.1 t8.length x10.2) ?_
 refine lv (.pointer (some ⟨g1,(0+1),none⟩)) ?_
 refine ls_load (a0:=⟨g1,(0+1),none⟩) (v:=.slice A0_1 a0.2.1.length c0_1) (de:=(TypeDesc.slice 23)) rfl rfl (by kernel_rfl) rfl (by kernel_rfl) (by kernel_rfl) (by kernel_rfl) (fun w hs=>(hs.var (k:=0) (by exact rfl) (Sub4.trans (Sub4.all _) (Sub4.skip (n:=1) (len1 _) (Sub4.head _ _))))) ?_
 refine lv (.int .i64 x4_1) ?_
 obtain ⟨q11,H⟩ := ite_need H
 obtain ⟨q12,H⟩ := ite_need H
 obtain ⟨ad13,hA14⟩ := idoS_at (l:=a0.2.1) (i:=x4_1) R0_1 q11 q12
 refine ls_idxv (Ec.sld 23 Int) (A:=A0_1) (c:=c0_1) (l:=a0.2.1) (k:=.i64) (i:=x4_1) (z:=1) (ad:=ad13) rfl rfl (by kernel_rfl) hA14 rfl (by kernel_rfl) (by kernel_rfl) (by kernel_rfl) (by kernel_rfl) q11 q12 ?_
 obtain ⟨xq15,hq16,xR17,xC18⟩ := RoS.el (l:=a0.2.1) R0_1 hA14 (i:=x4_1) q11 q12
 refine ls_load (a0:=(ad13.add ((x4_1).toNat*1))) (v:=.slice xq15.1 ((a0.2.1).getD (x4_1).toNat ([]:List Int)).length xq15.2) (de:=(TypeDesc.slice 5)) rfl rfl (by kernel_rfl) rfl (by kernel_rfl) (by kernel_rfl) (by kernel_rfl) (fun w hs=>(hs.old hq16).cell0) ?_
 refine lv (.int .i64 x5_3) ?_
 obtain ⟨q19,H⟩ := ite_need H
 obtain ⟨q20,H⟩ := ite_need H
 obtain ⟨xl25,hy26,H⟩ := lt_some H
 have hz28:(x5_3).toNat≤((a0.2.1).getD (x4_1).toNat ([]:List Int)).length := by omega
 have hz29:((a0.2.1).getD (x4_1).toNat ([]:List Int)).length≤((a0.2.1).getD (x4_1).toNat ([]:List Int)).length := by omega
 obtain ⟨xA21,xc22,he27,xC24,xR23⟩ := cut_at (A:=xq15.1) (c:=xq15.2) (l:=((a0.2.1).getD (x4_1).toNat ([]:List Int))) (Ec.int 5 .u8) ((x5_3).toNat) (((a0.2.1).getD (x4_1).toNat ([]:List Int)).length) hz28 hz29 xC18 xR17 (m:=xl25) (by rw [← hy26] <;> simp) (z:=1) rfl
 refine ls_cutv (A:=xq15.1) (c:=xq15.2) (m:=((a0.2.1).getD (x4_1).toNat ([]:List Int)).length) (z:=1) (e:=5) (a:=(x5_3).toNat) (b:=((a0.2.1).getD (x4_1).toNat ([]:List Int)).length) rfl rfl (by kernel_rfl) rfl (by kernel_rfl) (by kernel_rfl) (by kernel_rfl) (.inr ⟨.i64,by rw [Int.toNat_of_nonneg (by first | assumption | omega)]; kernel_rfl⟩) (.inl ⟨rfl,rfl⟩) hz28 hz29 xC18 he27 ?_
 refine ls_str (A:=xA21) (c:=xc22) (e:=5) (l:=xl25) rfl rfl (by kernel_rfl) rfl (by kernel_rfl) (by kernel_rfl) (by kernel_rfl) (by kernel_rfl) (fun w hs=>(hs.old xR23)) ?_
 obtain ⟨t30,hc31,H⟩ := bind_some H
 refine ls_callb (fid:=76) (vals:=#[.slice x10.1 t8.length x10.2,.string (strOfNums xl25)]) (X:=(Option Addr × Nat)) (fun x=>.slice x.1 t30.length x.2) (fun x=>stl [Ck.sl (Ec.int 5 .u8) x.1 x.2 t30]) [] [4] [] [Ck.sl (Ec.int 5 .u8) x10.1 x10.2 t8] 5 rfl rfl (by kernel_rfl) (fun w=>by kernel_rfl) trivial ⟨by exact rfl,trivial⟩ (by decide) (fun w hs hb=>shadowboxref01_Text.calls k1 x10.1 x10.2 t8 (strOfNums xl25) t30 (lent b w [] [Ck.sl (Ec.int 5 .u8) x10.1 x10.2 t8]) hb (hs.ror (k:=4) (by exact rfl) (.head _)) (hs.cap (k:=4) (by exact rfl)) hc31) ?_
 intro x32
 refine lv (.slice x32.1 t30.length x32.2) ?_
 refine ls_end ?_
 refine qn_then ?_
 refine cs_seq ?_
 refine cs_region (l:=[_,_,_]) ?_
 refine lv (.pointer (some ⟨g1,(0+0),none⟩)) ?_
 refine ls_load (a0:=⟨g1,(0+0),none⟩) (v:=.int .i64 a0.1) (de:=(TypeDesc.int .i64)) rfl rfl (by kernel_rfl) rfl (by kernel_rfl) (by kernel_rfl) (by kernel_rfl) (fun w hs=>(hs.var (k:=0) (by exact rfl) (Sub4.trans (Sub4.all _) (Sub4.head _ _)))) ?_
 refine lv (.bool (decide (a0.1=(0:Int)))) ?_
 refine ls_end ?_
 refine qn_then ?_
 by_cases q33:a0.1=(0:Int)
 ·replace H := ite_t q33 H
  refine cs_know (c:=true) (dec_t q33) 82 (by kernel_rfl) ?_
  refine cs_true (by kernel_rfl) ?_
  refine cs_region (l:=[_,_,_,_,_,_,_,_,_]) ?_
  refine lv (.slice x32.1 t30.length x32.2) ?_
  refine lv (.pointer (some ⟨g1,(0+2),none⟩)) ?_
  refine ls_load (a0:=⟨g1,(0+2),none⟩) (v:=.slice A0_2 a0.2.2.1.length c0_2) (de:=(TypeDesc.slice 23)) rfl rfl (by kernel_rfl) rfl (by kernel_rfl) (by kernel_rfl) (by kernel_rfl) (fun w hs=>(hs.var (k:=0) (by exact rfl) (Sub4.trans (Sub4.all _) (Sub4.skip (n:=1) (len1 _) (Sub4.skip (n:=1) (len1 _) (Sub4.head _ _)))))) ?_
  refine lv (.int .i64 x4_1) ?_
  obtain ⟨q34,H⟩ := ite_need H
  obtain ⟨ad35,hA36⟩ := idoS_at (l:=a0.2.2.1) (i:=x4_1) R0_2 q11 q34
  refine ls_idxv (Ec.sld 23 Int) (A:=A0_2) (c:=c0_2) (l:=a0.2.2.1) (k:=.i64) (i:=x4_1) (z:=1) (ad:=ad35) rfl rfl (by kernel_rfl) hA36 rfl (by kernel_rfl) (by kernel_rfl) (by kernel_rfl) (by kernel_rfl) q11 q34 ?_
  obtain ⟨xq37,hq38,xR39,xC40⟩ := RoS.el (l:=a0.2.2.1) R0_2 hA36 (i:=x4_1) q11 q34
  refine ls_load (a0:=(ad35.add ((x4_1).toNat*1))) (v:=.slice xq37.1 ((a0.2.2.1).getD (x4_1).toNat ([]:List Int)).length xq37.2) (de:=(TypeDesc.slice 5)) rfl rfl (by kernel_rfl) rfl (by kernel_rfl) (by kernel_rfl) (by kernel_rfl) (fun w hs=>(hs.old hq38).cell0) ?_
  obtain ⟨y41,hy42,H⟩ := lt_some H
  refine ls_str (A:=xq37.1) (c:=xq37.2) (e:=5) (l:=((a0.2.2.1).getD (x4_1).toNat ([]:List Int))) rfl rfl (by kernel_rfl) rfl (by kernel_rfl) (by kernel_rfl) (by kernel_rfl) (by kernel_rfl) (fun w hs=>(hs.old xR39)) ?_
  refine ls_ren 89 (v:=.string (strOfNums ((a0.2.2.1).getD (x4_1).toNat ([]:List Int)))) (v' := .string y41) (by kernel_rfl) (by rw [hy42]) ?_
  obtain ⟨t43,hc44,H⟩ := bind_some H
  refine ls_callb (fid:=76) (vals:=#[.slice x32.1 t30.length x32.2,.string y41]) (X:=(Option Addr × Nat)) (fun x=>.slice x.1 t43.length x.2) (fun x=>stl [Ck.sl (Ec.int 5 .u8) x.1 x.2 t43]) [] [5] [] [Ck.sl (Ec.int 5 .u8) x32.1 x32.2 t30] 6 rfl rfl (by kernel_rfl) (fun w=>by kernel_rfl) trivial ⟨by exact rfl,trivial⟩ (by decide) (fun w hs hb=>shadowboxref01_Text.calls k1 x32.1 x32.2 t30 y41 t43 (lent b w [] [Ck.sl (Ec.int 5 .u8) x32.1 x32.2 t30]) hb (hs.ror (k:=5) (by exact rfl) (.head _)) (hs.cap (k:=5) (by exact rfl)) hc44) ?_
  intro x45
  refine lv (.slice x45.1 t43.length x45.2) ?_
  refine ls_end ?_
  refine qn_block ?_
  refine qn_then ?_
  refine cs_region (l:=[_,_,_]) ?_
  refine lv (.int .i64 x4_1) ?_
  refine lv (.int .i64 (IntKind.wrap .i64 (x4_1+(1:Int)))) ?_
  refine lv (.int .i64 (IntKind.wrap .i64 (x4_1+(1:Int)))) ?_
  refine ls_end ?_
  refine qn_toro (T:=(Ec.int 5 .u8)) (A:=x45.1) (c:=x45.2) (l:=t43) 6 3 (by exact rfl) ?_
  refine qn_again k1 (sput (sput s0 0 (some (Ck.var 32 g1 (([Value.int .i64 a0.1]++([Value.slice A0_1 a0.2.1.length c0_1]++([Value.slice A0_2 a0.2.2.1.length c0_2]++[Value.slice A0_3 a0.2.2.2.length c0_3]))))))) 3 (some (Ck.ro (Ec.int 5 .u8) x45.1 x45.2 t43))) (Nat.le_refl _) ⟨_,x45.1,x45.2,t43,(IntKind.wrap .i64 (x4_1+(1:Int))),fr_next (fr_next (fr_next (rfl) (by kernel_rfl)) (by kernel_rfl)) (by kernel_rfl),rfl,H⟩ (sub_put (by exact rfl) (sub_put (by exact rfl) (sub_nil _)))
 replace H := ite_f q33 H
 refine cs_know (c:=false) (dec_f q33) 82 (by kernel_rfl) ?_
 refine cs_false (by kernel_rfl) ?_
 refine cs_region (l:=[_,_,_,_,_,_,_,_]) ?_
 refine lv (.slice x32.1 t30.length x32.2) ?_
 refine lv (.pointer (some ⟨g1,(0+3),none⟩)) ?_
 refine ls_load (a0:=⟨g1,(0+3),none⟩) (v:=.slice A0_3 a0.2.2.2.length c0_3) (de:=(TypeDesc.slice 44)) rfl rfl (by kernel_rfl) rfl (by kernel_rfl) (by kernel_rfl) (by kernel_rfl) (fun w hs=>(hs.var (k:=0) (by exact rfl) (Sub4.trans (Sub4.all _) (Sub4.skip (n:=1) (len1 _) (Sub4.skip (n:=1) (len1 _) (Sub4.skip (n:=1) (len1 _) (Sub4.all _))))))) ?_
 refine lv (.int .i64 x4_1) ?_
 obtain ⟨q46,H⟩ := ite_need H
 obtain ⟨ad47,hA48⟩ := ido_at (T:=T44) (l:=a0.2.2.2) (i:=x4_1) R0_3 q11 q46
 refine ls_idxv T44 (A:=A0_3) (c:=c0_3) (l:=a0.2.2.2) (k:=.i64) (i:=x4_1) (z:=36) (ad:=ad47) rfl rfl (by kernel_rfl) hA48 rfl (by kernel_rfl) (by kernel_rfl) (by kernel_rfl) (by kernel_rfl) q11 q46 ?_
 refine ls_loadagg (a:=(ad47.add ((x4_1).toNat*36))) (sub:=([Value.int .i64 (((a0.2.2.2).getD (x4_1).toNat ((0:Int),(0:Int),(0:Int),(0:Int),(vrep 32 (0:Int)))).1)]++([Value.int .i64 (((a0.2.2.2).getD (x4_1).toNat ((0:Int),(0:Int),(0:Int),(0:Int),(vrep 32 (0:Int)))).2.1)]++([Value.int .i64 (((a0.2.2.2).getD (x4_1).toNat ((0:Int),(0:Int),(0:Int),(0:Int),(vrep 32 (0:Int)))).2.2.1)]++([Value.int .u32 (((a0.2.2.2).getD (x4_1).toNat ((0:Int),(0:Int),(0:Int),(0:Int),(vrep 32 (0:Int)))).2.2.2.1)]++en (Value.int .u8) (((a0.2.2.2).getD (x4_1).toNat ((0:Int),(0:Int),(0:Int),(0:Int),(vrep 32 (0:Int)))).2.2.2.2).1))))) rfl rfl (by kernel_rfl) rfl (by kernel_rfl) (by kernel_rfl) (by kernel_rfl) (len_app (len1 _) (len_app (len1 _) (len_app (len1 _) (len_app (len1 _) (len_en _ (((a0.2.2.2).getD (x4_1).toNat ((0:Int),(0:Int),(0:Int),(0:Int),(vrep 32 (0:Int)))).2.2.2.2)))))) (fun w hs=>(hs.old R0_3).part hA48 (em_sub T44 a0.2.2.2 (i:=(x4_1).toNat) (by have h0:(0:Int)≤x4_1 := q11; have h1:x4_1<(a0.2.2.2.length:Int) := q46; omega))) ?_
 obtain ⟨t49,hc50,H⟩ := bind_some H
 refine ls_callb (fid:=96) (vals:=#[.slice x32.1 t30.length x32.2,.agg ⟨([Value.int .i64 (((a0.2.2.2).getD (x4_1).toNat ((0:Int),(0:Int),(0:Int),(0:Int),(vrep 32 (0:Int)))).1)]++([Value.int .i64 (((a0.2.2.2).getD (x4_1).toNat ((0:Int),(0:Int),(0:Int),(0:Int),(vrep 32 (0:Int)))).2.1)]++([Value.int .i64 (((a0.2.2.2).getD (x4_1).toNat ((0:Int),(0:Int),(0:Int),(0:Int),(vrep 32 (0:Int)))).2.2.1)]++([Value.int .u32 (((a0.2.2.2).getD (x4_1).toNat ((0:Int),(0:Int),(0:Int),(0:Int),(vrep 32 (0:Int)))).2.2.2.1)]++en (Value.int .u8) (((a0.2.2.2).getD (x4_1).toNat ((0:Int),(0:Int),(0:Int),(0:Int),(vrep 32 (0:Int)))).2.2.2.2).1))))⟩]) (X:=(Option Addr × Nat)) (fun x=>.slice x.1 t49.length x.2) (fun x=>stl [Ck.sl (Ec.int 5 .u8) x.1 x.2 t49]) [] [5] [] [Ck.sl (Ec.int 5 .u8) x32.1 x32.2 t30] 6 rfl rfl (by kernel_rfl) (fun w=>by kernel_rfl) trivial ⟨by exact rfl,trivial⟩ (by decide) (fun w hs hb=>shadowboxref06_Put.calls k1 x32.1 x32.2 t30 ((a0.2.2.2).getD (x4_1).toNat ((0:Int),(0:Int),(0:Int),(0:Int),(vrep 32 (0:Int)))) t49 (lent b w [] [Ck.sl (Ec.int 5 .u8) x32.1 x32.2 t30]) hb (hs.ror (k:=5) (by exact rfl) (.head _)) (hs.cap (k:=5) (by exact rfl)) hc50) ?_
 intro x51
 refine lv (.slice x51.1 t49.length x51.2) ?_
 refine ls_end ?_
 refine qn_block ?_
 refine qn_then ?_
 refine cs_region (l:=[_,_,_]) ?_
 refine lv (.int .i64 x4_1) ?_
 refine lv (.int .i64 (IntKind.wrap .i64 (x4_1+(1:Int)))) ?_
 refine lv (.int .i64 (IntKind.wrap .i64 (x4_1+(1:Int)))) ?_
 refine ls_end ?_
 refine qn_toro (T:=(Ec.int 5 .u8)) (A:=x51.1) (c:=x51.2) (l:=t49) 6 3 (by exact rfl) ?_
 refine qn_again k1 (sput (sput s0 0 (some (Ck.var 32 g1 (([Value.int .i64 a0.1]++([Value.slice A0_1 a0.2.1.length c0_1]++([Value.slice A0_2 a0.2.2.1.length c0_2]++[Value.slice A0_3 a0.2.2.2.length c0_3]))))))) 3 (some (Ck.ro (Ec.int 5 .u8) x51.1 x51.2 t49))) (Nat.le_refl _) ⟨_,x51.1,x51.2,t49,(IntKind.wrap .i64 (x4_1+(1:Int))),fr_next (fr_next (fr_next (rfl) (by kernel_rfl)) (by kernel_rfl)) (by kernel_rfl),rfl,H⟩ (sub_put (by exact rfl) (sub_put (by exact rfl) (sub_nil _)))
def shadowboxref16_Put.f (k:Nat) (a0:NO):Option ((List Int) × Int) :=
  (shadowboxref16_shape.f k (a0.1,a0.2.1,a0.2.2.1,a0.2.2.2)).bind fun t2=>(if t2=true then (shadowboxref16_all.f k (a0.1,a0.2.1,a0.2.2.1,a0.2.2.2)).bind fun t6=>(if (t6.length:Int) > (4096:Int) then some (([]:List Int),(3:Int)) else some (t6,(0:Int))) else some (([]:List Int),(2:Int)))
theorem shadowboxref16_Put.calls (k:Nat) (A0_1:Option Addr) (c0_1:Nat) (A0_2:Option Addr) (c0_2:Nat) (A0_3:Option Addr) (c0_3:Nat) (a0:NO) (r:(List Int) × Int) (b:Bs) (hs0:St b (stl []) b.w) (R0_1:RoS 23 (Ec.int 5 .u8) b A0_1 a0.2.1) (C0_1:a0.2.1.length≤c0_1) (R0_2:RoS 23 (Ec.int 5 .u8) b A0_2 a0.2.2.1) (C0_2:a0.2.2.1.length≤c0_2) (R0_3:Ro b A0_3 (em T44 a0.2.2.2)) (C0_3:a0.2.2.2.length≤c0_3) (H:shadowboxref16_Put.f k a0=some r) :
    Calls Try.prog 38 #[.agg ⟨([Value.int .i64 a0.1]++([Value.slice A0_1 a0.2.1.length c0_1]++([Value.slice A0_2 a0.2.2.1.length c0_2]++[Value.slice A0_3 a0.2.2.2.length c0_3])))⟩] b.w fun e w'=>∃ x:(Option Addr × Nat),e=.returned (.tuple #[.slice x.1 r.1.length x.2,.int .i64 r.2])∧St b (stl [Ck.ro (Ec.int 5 .u8) x.1 x.2 r.1]) w' := by
 unfold shadowboxref16_Put.f at H
 refine enterb (n:=14) Try.func38 rfl (by kernel_rfl) (by kernel_rfl) hs0 ?_
 refine cs_sub (s0) (sub_nil _) ?_
 refine cs_seq ?_
 refine cs_region (l:=[_,_,_]) ?_
 refine ls_new rfl rfl (by kernel_rfl) 0 (fun g=>.pointer (some ⟨g,0,none⟩)) (.cells ⟨([Value.int .i64 a0.1]++([Value.slice A0_1 a0.2.1.length c0_1]++([Value.slice A0_2 a0.2.2.1.length c0_2]++[Value.slice A0_3 a0.2.2.2.length c0_3])))⟩ 32) (fun w=>by kernel_rfl) ?_
 intro g1
 refine lv (.slice none 0 0) ?_
 refine lv (.int .i64 (0:Int)) ?_
 refine ls_end ?_
 refine qn_then ?_
 refine cs_seq ?_
 refine cs_seq ?_
 refine cs_region (l:=[_,_,_]) ?_
 refine ls_loadagg (a:=⟨g1,0,none⟩) (sub:=([Value.int .i64 a0.1]++([Value.slice A0_1 a0.2.1.length c0_1]++([Value.slice A0_2 a0.2.2.1.length c0_2]++[Value.slice A0_3 a0.2.2.2.length c0_3])))) rfl rfl (by kernel_rfl) rfl (by kernel_rfl) (by kernel_rfl) (by kernel_rfl) (len_app (len1 _) (len_app (len1 _) (len_app (len1 _) (len1 _)))) (fun w hs=>(hs.vars (k:=0) (by exact rfl) (Sub4.all _))) ?_
 obtain ⟨t2,hc3,H⟩ := bind_some H
 refine ls_callb (fid:=67) (vals:=#[.agg ⟨([Value.int .i64 a0.1]++([Value.slice A0_1 a0.2.1.length c0_1]++([Value.slice A0_2 a0.2.2.1.length c0_2]++[Value.slice A0_3 a0.2.2.2.length c0_3])))⟩]) (X:=Unit) (fun x=>.bool t2) (fun x=>stl []) [] [] [] [] 1 rfl rfl (by kernel_rfl) (fun w=>by kernel_rfl) trivial trivial (by decide) (fun w hs hb=>shadowboxref16_shape.calls k A0_1 c0_1 A0_2 c0_2 A0_3 c0_3 (a0.1,a0.2.1,a0.2.2.1,a0.2.2.2) t2 (lent b w [] []) hb (hs.roS R0_1 _ _) C0_1 (hs.roS R0_2 _ _) C0_2 (hs.ro R0_3 _ _) C0_3 hc3) ?_
 intro x4
 refine lv (.bool (!t2)) ?_
 refine ls_end ?_
 refine qn_then ?_
 by_cases q5:t2=true
 ·replace H := ite_t q5 H
  refine cs_know (c:=false) (congrArg Bool.not (q5)) 7 (by kernel_rfl) ?_
  refine cs_false (by kernel_rfl) ?_
  refine cs_skip' ?_
  refine qn_then ?_
  refine cs_seq ?_
  refine cs_region (l:=[_,_,_]) ?_
  refine ls_loadagg (a:=⟨g1,0,none⟩) (sub:=([Value.int .i64 a0.1]++([Value.slice A0_1 a0.2.1.length c0_1]++([Value.slice A0_2 a0.2.2.1.length c0_2]++[Value.slice A0_3 a0.2.2.2.length c0_3])))) rfl rfl (by kernel_rfl) rfl (by kernel_rfl) (by kernel_rfl) (by kernel_rfl) (len_app (len1 _) (len_app (len1 _) (len_app (len1 _) (len1 _)))) (fun w hs=>(hs.vars (k:=0) (by exact rfl) (Sub4.all _))) ?_
  obtain ⟨t6,hc7,H⟩ := bind_some H
  refine ls_callb (fid:=68) (vals:=#[.agg ⟨([Value.int .i64 a0.1]++([Value.slice A0_1 a0.2.1.length c0_1]++([Value.slice A0_2 a0.2.2.1.length c0_2]++[Value.slice A0_3 a0.2.2.2.length c0_3])))⟩]) (X:=(Option Addr × Nat)) (fun x=>.slice x.1 t6.length x.2) (fun x=>stl [Ck.ro (Ec.int 5 .u8) x.1 x.2 t6]) [] [] [] [] 1 rfl rfl (by kernel_rfl) (fun w=>by kernel_rfl) trivial trivial (by decide) (fun w hs hb=>shadowboxref16_all.calls k A0_1 c0_1 A0_2 c0_2 A0_3 c0_3 (a0.1,a0.2.1,a0.2.2.1,a0.2.2.2) t6 (lent b w [] []) hb (hs.roS R0_1 _ _) C0_1 (hs.roS R0_2 _ _) C0_2 (hs.ro R0_3 _ _) C0_3 hc7) ?_
  intro x8
  refine lv (.slice x8.1 t6.length x8.2) ?_
  refine ls_end ?_
  refine qn_then ?_
  refine cs_seq ?_
  refine cs_seq ?_
  refine cs_region (l:=[_,_,_]) ?_
  refine lv (.slice x8.1 t6.length x8.2) ?_
  refine lv (.int .i64 (t6.length:Int)) ?_
  refine lv (.bool (decide ((t6.length:Int) > (4096:Int)))) ?_
  refine ls_end ?_
  refine qn_then ?_
  by_cases q9:(t6.length:Int) > (4096:Int)
  ·replace H := ite_t q9 H
   refine cs_know (c:=true) (dec_t q9) 12 (by kernel_rfl) ?_
   refine cs_true (by kernel_rfl) ?_
   refine cs_seq ?_
   refine cs_region (l:=[_,_]) ?_
   refine lv (.slice none 0 0) ?_
   refine lv (.int .i64 (3:Int)) ?_
   refine ls_end ?_
   refine qn_then ?_
   refine cs_ret' ?_
   refine qr_then ?_
   refine qr_nilro 2 (Ec.int 5 .u8) ?_
   obtain rfl := Option.some.inj H
   refine qr_res (rs:=[_,_]) rfl (fun w' hs=>⟨[.slice none 0 0,.int .i64 (3:Int)],(res_tmp (by kernel_rfl) (res_tmp (by kernel_rfl) (.nil))),(none,0),rfl,hs.pick (ts:=[2]) (cs:=[Ck.ro (Ec.int 5 .u8) none 0 ([]:List Int)]) ⟨by exact rfl,trivial⟩ (by decide)⟩)
  replace H := ite_f q9 H
  refine cs_know (c:=false) (dec_f q9) 12 (by kernel_rfl) ?_
  refine cs_false (by kernel_rfl) ?_
  refine cs_skip' ?_
  refine qn_then ?_
  refine cs_seq ?_
  refine cs_region (l:=[_,_,_]) ?_
  refine lv (.slice x8.1 t6.length x8.2) ?_
  refine lv (.slice x8.1 t6.length x8.2) ?_
  refine lv (.int .i64 (0:Int)) ?_
  refine ls_end ?_
  refine qn_then ?_
  refine cs_ret' ?_
  obtain rfl := Option.some.inj H
  refine qr_res (rs:=[_,_]) rfl (fun w' hs=>⟨[.slice x8.1 t6.length x8.2,.int .i64 (0:Int)],(res_tmp (by kernel_rfl) (res_tmp (by kernel_rfl) (.nil))),(x8.1,x8.2),rfl,hs.pick (ts:=[1]) (cs:=[Ck.ro (Ec.int 5 .u8) x8.1 x8.2 t6]) ⟨by exact rfl,trivial⟩ (by decide)⟩)
 replace H := ite_f q5 H
 refine cs_know (c:=true) (congrArg Bool.not (Bool.eq_false_iff.mpr q5)) 7 (by kernel_rfl) ?_
 refine cs_true (by kernel_rfl) ?_
 refine cs_seq ?_
 refine cs_region (l:=[_,_]) ?_
 refine lv (.slice none 0 0) ?_
 refine lv (.int .i64 (2:Int)) ?_
 refine ls_end ?_
 refine qn_then ?_
 refine cs_ret' ?_
 refine qr_then ?_
 refine qr_nilro 1 (Ec.int 5 .u8) ?_
 obtain rfl := Option.some.inj H
 refine qr_res (rs:=[_,_]) rfl (fun w' hs=>⟨[.slice none 0 0,.int .i64 (2:Int)],(res_tmp (by kernel_rfl) (res_tmp (by kernel_rfl) (.nil))),(none,0),rfl,hs.pick (ts:=[1]) (cs:=[Ck.ro (Ec.int 5 .u8) none 0 ([]:List Int)]) ⟨by exact rfl,trivial⟩ (by decide)⟩)
def shadowboxref16_Read.jo1 (k:Nat) (l0:List Int):Option (NO × Int) := (shadowboxref16_parse.f k l0).bind fun t2=>(if t2.2=true then (shadowboxref16_Put.f k (t2.1.1,t2.1.2.1,t2.1.2.2.1,t2.1.2.2.2)).bind fun t17=>(if t17.2=(0:Int) then (if ((strOfNums t17.1).toList==(strOfNums l0).toList)=true then some ((t2.1.1,t2.1.2.1,t2.1.2.2.1,t2.1.2.2.2),(0:Int)) else some (((0:Int),([]:List (List Int)),([]:List (List Int)),([]:List PT)),(11:Int))) else some (((0:Int),([]:List (List Int)),([]:List (List Int)),([]:List PT)),(11:Int))) else some (((0:Int),([]:List (List Int)),([]:List (List Int)),([]:List PT)),(11:Int)))
def shadowboxref16_Read.f (k:Nat) (l0:List Int):Option (NO × Int) :=
  (if (l0.length:Int) > (4096:Int) then some (((0:Int),([]:List (List Int)),([]:List (List Int)),([]:List PT)),(11:Int)) else (shadowboxref16_Read.jo1 k l0))
theorem shadowboxref16_Read.calls (k:Nat) (A0:Option Addr) (c0:Nat) (l0:List Int) (r:NO × Int) (b:Bs) (hs0:St b (stl []) b.w) (R0:Ro b A0 (em (Ec.int 5 .u8) l0)) (C0:l0.length≤c0) (H:shadowboxref16_Read.f k l0=some r) :
    Calls Try.prog 11 #[.slice A0 l0.length c0] b.w fun e w'=>∃ b',b.le b'∧∃ x:(Option Addr × Nat) × (Option Addr × Nat) × (Option Addr × Nat),e=.returned (.tuple #[.agg ⟨([Value.int .i64 r.1.1]++([Value.slice x.1.1 r.1.2.1.length x.1.2]++([Value.slice x.2.1.1 r.1.2.2.1.length x.2.1.2]++[Value.slice x.2.2.1 r.1.2.2.2.length x.2.2.2])))⟩,.int .i64 r.2])∧((RoS 23 (Ec.int 5 .u8) b' x.1.1 r.1.2.1∧r.1.2.1.length≤x.1.2)∧(RoS 23 (Ec.int 5 .u8) b' x.2.1.1 r.1.2.2.1∧r.1.2.2.1.length≤x.2.1.2)∧(Ro b' x.2.2.1 (em T44 r.1.2.2.2)∧r.1.2.2.2.length≤x.2.2.2))∧St b' (stl []) w' := by
 unfold shadowboxref16_Read.f at H
 refine enterb (n:=36) Try.func11 rfl (by kernel_rfl) (by kernel_rfl) hs0 ?_
 refine cs_sub (s0) (sub_nil _) ?_
 refine cs_seq ?_
 refine cs_region (l:=[_,_]) ?_
 refine ls_new rfl rfl (by kernel_rfl) 0 (fun g=>.pointer (some ⟨g,0,none⟩)) (.cells ⟨([Value.int .i64 (0:Int)]++([Value.slice none 0 0]++([Value.slice none 0 0]++[Value.slice none 0 0])))⟩ 32) (fun w=>by kernel_rfl) ?_
 intro g1
 refine lv (.int .i64 (0:Int)) ?_
 refine ls_end ?_
 refine qn_then ?_
 refine cs_cut (fun f S=>∃ (fR:Fr),f=upd (upd fR 0 (.slice A0 l0.length c0)) 2 (.pointer (some ⟨g1,0,none⟩))∧S=sput s0 0 (some (Ck.var 32 g1 (([Value.int .i64 (0:Int)]++([Value.slice none 0 0]++([Value.slice none 0 0]++[Value.slice none 0 0]))))))∧shadowboxref16_Read.jo1 k l0=some r) ?_ ?_
 ·skip
  refine cs_seq ?_
  refine cs_region (l:=[_,_,_]) ?_
  refine lv (.slice A0 l0.length c0) ?_
  refine lv (.int .i64 (l0.length:Int)) ?_
  refine lv (.bool (decide ((l0.length:Int) > (4096:Int)))) ?_
  refine ls_end ?_
  refine qn_then ?_
  by_cases q22:(l0.length:Int) > (4096:Int)
  ·replace H := ite_t q22 H
   refine cs_know (c:=true) (dec_t q22) 10 (by kernel_rfl) ?_
   refine cs_true (by kernel_rfl) ?_
   refine cs_seq ?_
   refine cs_region (l:=[_,_,_]) ?_
   refine lv (.agg ⟨([Value.int .i64 (0:Int)]++([Value.slice none 0 0]++([Value.slice none 0 0]++[Value.slice none 0 0])))⟩) ?_
   refine ls_storec (g:=g1) (off:=0) (v:=.agg ⟨([Value.int .i64 (0:Int)]++([Value.slice none 0 0]++([Value.slice none 0 0]++[Value.slice none 0 0])))⟩) (vs:=([Value.int .i64 (0:Int)]++([Value.slice none 0 0]++([Value.slice none 0 0]++[Value.slice none 0 0])))) (cs:=([Value.int .i64 (0:Int)]++([Value.slice none 0 0]++([Value.slice none 0 0]++[Value.slice none 0 0])))) (ty:=32) 0 rfl rfl rfl (by kernel_rfl) (by kernel_rfl) (by kernel_rfl) (by exact rfl) (by kernel_rfl) (len_app (len1 _) (len_app (len1 _) (len_app (len1 _) (len1 _)))) (one_app (one_cons rfl one_nil) (one_app (one_cons rfl one_nil) (one_app (one_cons rfl one_nil) (one_cons rfl one_nil)))) (hl_of (Sub4.all _) (len_eq (len_app (len1 _) (len_app (len1 _) (len_app (len1 _) (len1 _)))) (len_app (len1 _) (len_app (len1 _) (len_app (len1 _) (len1 _)))))) (cs' := ([Value.int .i64 (0:Int)]++([Value.slice none 0 0]++([Value.slice none 0 0]++[Value.slice none 0 0])))) (splc_all (len_eq (len_app (len1 _) (len_app (len1 _) (len_app (len1 _) (len1 _)))) (len_app (len1 _) (len_app (len1 _) (len_app (len1 _) (len1 _)))))) ?_
   refine lv (.int .i64 (11:Int)) ?_
   refine ls_end ?_
   refine qn_then ?_
   refine cs_ret' ?_
   refine qr_then ?_
   obtain rfl := Option.some.inj H
   refine qr_res (rs:=[_,_]) rfl (fun w' hs=>⟨[.agg ⟨([Value.int .i64 (0:Int)]++([Value.slice none 0 0]++([Value.slice none 0 0]++[Value.slice none 0 0])))⟩,.int .i64 (11:Int)],(.cell (by kernel_rfl) (run_cellres (by kernel_rfl) (by kernel_rfl) (len_app (len1 _) (len_app (len1 _) (len_app (len1 _) (len1 _)))) (hs.holds 0 _ (by exact rfl))) (res_tmp (by kernel_rfl) (.nil))),b,(Bs.le.refl b),((none,0),(none,0),(none,0)),rfl,⟨⟨(RoS.nil _ _ _ _),(Nat.zero_le _)⟩,⟨(RoS.nil _ _ _ _),(Nat.zero_le _)⟩,⟨(Ro.nil _ _),(Nat.zero_le _)⟩⟩,hs.pick (ts:=[]) (cs:=[]) trivial (by decide)⟩)
  replace H := ite_f q22 H
  refine cs_know (c:=false) (dec_f q22) 10 (by kernel_rfl) ?_
  refine cs_false (by kernel_rfl) ?_
  refine cs_skip' ?_
  refine qn_meet (sput s0 0 (some (Ck.var 32 g1 (([Value.int .i64 (0:Int)]++([Value.slice none 0 0]++([Value.slice none 0 0]++[Value.slice none 0 0]))))))) ⟨_,fr_next (fr_next (rfl) (by kernel_rfl)) (by kernel_rfl),rfl,H⟩ (sub_put (by exact rfl) (sub_nil _))
 rintro f S ⟨fr1,rfl,rfl,H⟩
 replace H:((shadowboxref16_parse.f k l0).bind fun t2=>(if t2.2=true then (shadowboxref16_Put.f k (t2.1.1,t2.1.2.1,t2.1.2.2.1,t2.1.2.2.2)).bind fun t17=>(if t17.2=(0:Int) then (if ((strOfNums t17.1).toList==(strOfNums l0).toList)=true then some ((t2.1.1,t2.1.2.1,t2.1.2.2.1,t2.1.2.2.2),(0:Int)) else some (((0:Int),([]:List (List Int)),([]:List (List Int)),([]:List PT)),(11:Int))) else some (((0:Int),([]:List (List Int)),([]:List (List Int)),([]:List PT)),(11:Int))) else some (((0:Int),([]:List (List Int)),([]:List (List Int)),([]:List PT)),(11:Int))))=some r := H
 refine cs_seq ?_
 refine cs_region (l:=[_,_,_,_,_,_,_,_]) ?_
 refine lv (.slice A0 l0.length c0) ?_
 obtain ⟨t2,hc3,H⟩ := bind_some H
 refine ls_callf (fid:=37) (vals:=#[.slice A0 l0.length c0]) (X:=(Option Addr × Nat) × (Option Addr × Nat) × (Option Addr × Nat)) (fun x=>.tuple #[.agg ⟨([Value.int .i64 t2.1.1]++([Value.slice x.1.1 t2.1.2.1.length x.1.2]++([Value.slice x.2.1.1 t2.1.2.2.1.length x.2.1.2]++[Value.slice x.2.2.1 t2.1.2.2.2.length x.2.2.2])))⟩,.bool t2.2]) (fun x=>stl []) (fun x B=>(RoS 23 (Ec.int 5 .u8) B x.1.1 t2.1.2.1∧t2.1.2.1.length≤x.1.2)∧(RoS 23 (Ec.int 5 .u8) B x.2.1.1 t2.1.2.2.1∧t2.1.2.2.1.length≤x.2.1.2)∧(Ro B x.2.2.1 (em T44 t2.1.2.2.2)∧t2.1.2.2.2.length≤x.2.2.2)) [] [] 1 rfl rfl (by kernel_rfl) (fun w=>by kernel_rfl) trivial (by decide) (fun x b b' h hf=>⟨⟨RoS.up h hf.1.1,hf.1.2⟩,⟨⟨RoS.up h hf.2.1.1,hf.2.1.2⟩,⟨h _ _ hf.2.2.1,hf.2.2.2⟩⟩⟩) (fun w hs hb=>shadowboxref16_parse.calls k A0 c0 l0 t2 (lent b w [] []) hb (hs.ro R0 _ _) C0 hc3) ?_
 intro x4 bs11 hle12 hok13 hf14
 obtain ⟨⟨fR5,fC6⟩,⟨fR7,fC8⟩,⟨fR9,fC10⟩⟩ := hf14
 refine lv (.tuple #[.agg ⟨([Value.int .i64 t2.1.1]++([Value.slice x4.1.1 t2.1.2.1.length x4.1.2]++([Value.slice x4.2.1.1 t2.1.2.2.1.length x4.2.1.2]++[Value.slice x4.2.2.1 t2.1.2.2.2.length x4.2.2.2])))⟩,.bool t2.2]) ?_
 refine lv (.agg ⟨([Value.int .i64 t2.1.1]++([Value.slice x4.1.1 t2.1.2.1.length x4.1.2]++([Value.slice x4.2.1.1 t2.1.2.2.1.length x4.2.1.2]++[Value.slice x4.2.2.1 t2.1.2.2.2.length x4.2.2.2])))⟩) ?_
 refine lv (.bool t2.2) ?_
 refine ls_new rfl rfl (by kernel_rfl) 1 (fun g=>.pointer (some ⟨g,0,none⟩)) (.cells ⟨([Value.int .i64 (0:Int)]++([Value.slice none 0 0]++([Value.slice none 0 0]++[Value.slice none 0 0])))⟩ 32) (fun w=>by kernel_rfl) ?_
 intro g15
 refine ls_storec (g:=g15) (off:=0) (v:=.agg ⟨([Value.int .i64 t2.1.1]++([Value.slice x4.1.1 t2.1.2.1.length x4.1.2]++([Value.slice x4.2.1.1 t2.1.2.2.1.length x4.2.1.2]++[Value.slice x4.2.2.1 t2.1.2.2.2.length x4.2.2.2])))⟩) (vs:=([Value.int .i64 t2.1.1]++([Value.slice x4.1.1 t2.1.2.1.length x4.1.2]++([Value.slice x4.2.1.1 t2.1.2.2.1.length x4.2.1.2]++[Value.slice x4.2.2.1 t2.1.2.2.2.length x4.2.2.2])))) (cs:=([Value.int .i64 (0:Int)]++([Value.slice none 0 0]++([Value.slice none 0 0]++[Value.slice none 0 0])))) (ty:=32) 1 rfl rfl rfl (by kernel_rfl) (by kernel_rfl) (by kernel_rfl) (by exact rfl) (by kernel_rfl) (len_app (len1 _) (len_app (len1 _) (len_app (len1 _) (len1 _)))) (one_app (one_cons rfl one_nil) (one_app (one_cons rfl one_nil) (one_app (one_cons rfl one_nil) (one_cons rfl one_nil)))) (hl_of (Sub4.all _) (len_eq (len_app (len1 _) (len_app (len1 _) (len_app (len1 _) (len1 _)))) (len_app (len1 _) (len_app (len1 _) (len_app (len1 _) (len1 _)))))) (cs' := ([Value.int .i64 t2.1.1]++([Value.slice x4.1.1 t2.1.2.1.length x4.1.2]++([Value.slice x4.2.1.1 t2.1.2.2.1.length x4.2.1.2]++[Value.slice x4.2.2.1 t2.1.2.2.2.length x4.2.2.2])))) (splc_all (len_eq (len_app (len1 _) (len_app (len1 _) (len_app (len1 _) (len1 _)))) (len_app (len1 _) (len_app (len1 _) (len_app (len1 _) (len1 _)))))) ?_
 refine lv (.bool t2.2) ?_
 refine ls_end ?_
 refine qn_then ?_
 refine cs_seq ?_
 refine cs_seq ?_
 refine cs_region (l:=[_,_]) ?_
 refine lv (.bool t2.2) ?_
 refine lv (.bool (!t2.2)) ?_
 refine ls_end ?_
 refine qn_then ?_
 by_cases q16:t2.2=true
 ·replace H := ite_t q16 H
  refine cs_know (c:=false) (congrArg Bool.not (q16)) 18 (by kernel_rfl) ?_
  refine cs_false (by kernel_rfl) ?_
  refine cs_skip' ?_
  refine qn_then ?_
  refine cs_seq ?_
  refine cs_region (l:=[_,_,_,_,_,_,_]) ?_
  refine ls_loadagg (a:=⟨g15,0,none⟩) (sub:=([Value.int .i64 t2.1.1]++([Value.slice x4.1.1 t2.1.2.1.length x4.1.2]++([Value.slice x4.2.1.1 t2.1.2.2.1.length x4.2.1.2]++[Value.slice x4.2.2.1 t2.1.2.2.2.length x4.2.2.2])))) rfl rfl (by kernel_rfl) rfl (by kernel_rfl) (by kernel_rfl) (by kernel_rfl) (len_app (len1 _) (len_app (len1 _) (len_app (len1 _) (len1 _)))) (fun w hs=>(hs.vars (k:=1) (by exact rfl) (Sub4.all _))) ?_
  obtain ⟨t17,hc18,H⟩ := bind_some H
  refine ls_callb (fid:=38) (vals:=#[.agg ⟨([Value.int .i64 t2.1.1]++([Value.slice x4.1.1 t2.1.2.1.length x4.1.2]++([Value.slice x4.2.1.1 t2.1.2.2.1.length x4.2.1.2]++[Value.slice x4.2.2.1 t2.1.2.2.2.length x4.2.2.2])))⟩]) (X:=(Option Addr × Nat)) (fun x=>.tuple #[.slice x.1 t17.1.length x.2,.int .i64 t17.2]) (fun x=>stl [Ck.ro (Ec.int 5 .u8) x.1 x.2 t17.1]) [] [] [] [] 2 rfl rfl (by kernel_rfl) (fun w=>by kernel_rfl) trivial trivial (by decide) (fun w hs hb=>shadowboxref16_Put.calls k x4.1.1 x4.1.2 x4.2.1.1 x4.2.1.2 x4.2.2.1 x4.2.2.2 (t2.1.1,t2.1.2.1,t2.1.2.2.1,t2.1.2.2.2) t17 (lent bs11 w [] []) hb (hs.roS fR5 _ _) fC6 (hs.roS fR7 _ _) fC8 (hs.ro fR9 _ _) fC10 hc18) ?_
  intro x19
  refine lv (.tuple #[.slice x19.1 t17.1.length x19.2,.int .i64 t17.2]) ?_
  refine lv (.slice x19.1 t17.1.length x19.2) ?_
  refine lv (.int .i64 t17.2) ?_
  refine lv (.slice x19.1 t17.1.length x19.2) ?_
  refine lv (.int .i64 t17.2) ?_
  refine ls_end ?_
  refine qn_then ?_
  refine cs_seq ?_
  refine cs_seq ?_
  refine cs_region (l:=[_,_,_,_,_,_,_,_,_]) ?_
  refine lv (.int .i64 t17.2) ?_
  refine lv (.bool (!decide (t17.2=(0:Int)))) ?_
  refine lv (.bool (!decide (t17.2=(0:Int)))) ?_
  by_cases q20:t17.2=(0:Int)
  ·replace H := ite_t q20 H
   refine ls_know (c:=false) (congrArg Bool.not (dec_t q20)) 27 (by kernel_rfl) ?_
   refine ls_on (j:=2) (t:=27) (b:=false) rfl rfl (by kernel_rfl) (by kernel_rfl) ?_
   refine lv (.slice x19.1 t17.1.length x19.2) ?_
   refine ls_on (j:=2) (t:=27) (b:=false) rfl rfl (by kernel_rfl) (by kernel_rfl) ?_
   refine ls_str (A:=x19.1) (c:=x19.2) (e:=5) (l:=t17.1) rfl rfl (by kernel_rfl) rfl (by kernel_rfl) (by kernel_rfl) (by kernel_rfl) (by kernel_rfl) (fun w hs=>(hs.rod (k:=2) (by exact rfl))) ?_
   refine ls_on (j:=2) (t:=27) (b:=false) rfl rfl (by kernel_rfl) (by kernel_rfl) ?_
   refine lv (.slice A0 l0.length c0) ?_
   refine ls_on (j:=2) (t:=27) (b:=false) rfl rfl (by kernel_rfl) (by kernel_rfl) ?_
   refine ls_str (A:=A0) (c:=c0) (e:=5) (l:=l0) rfl rfl (by kernel_rfl) rfl (by kernel_rfl) (by kernel_rfl) (by kernel_rfl) (by kernel_rfl) (fun w hs=>(hs.old (Ro.mono hok13 hle12 R0))) ?_
   refine ls_on (j:=2) (t:=27) (b:=false) rfl rfl (by kernel_rfl) (by kernel_rfl) ?_
   refine lv (.bool (!((strOfNums t17.1).toList==(strOfNums l0).toList))) ?_
   refine lv (.bool (!((strOfNums t17.1).toList==(strOfNums l0).toList))) ?_
   refine ls_end ?_
   refine qn_then ?_
   by_cases q21:((strOfNums t17.1).toList==(strOfNums l0).toList)=true
   ·replace H := ite_t q21 H
    refine cs_know (c:=false) (congrArg Bool.not (q21)) 33 (by kernel_rfl) ?_
    refine cs_false (by kernel_rfl) ?_
    refine cs_skip' ?_
    refine qn_then ?_
    refine cs_seq ?_
    refine cs_region (l:=[_,_,_]) ?_
    refine ls_loadagg (a:=⟨g15,0,none⟩) (sub:=([Value.int .i64 t2.1.1]++([Value.slice x4.1.1 t2.1.2.1.length x4.1.2]++([Value.slice x4.2.1.1 t2.1.2.2.1.length x4.2.1.2]++[Value.slice x4.2.2.1 t2.1.2.2.2.length x4.2.2.2])))) rfl rfl (by kernel_rfl) rfl (by kernel_rfl) (by kernel_rfl) (by kernel_rfl) (len_app (len1 _) (len_app (len1 _) (len_app (len1 _) (len1 _)))) (fun w hs=>(hs.vars (k:=1) (by exact rfl) (Sub4.all _))) ?_
    refine ls_storec (g:=g1) (off:=0) (v:=.agg ⟨([Value.int .i64 t2.1.1]++([Value.slice x4.1.1 t2.1.2.1.length x4.1.2]++([Value.slice x4.2.1.1 t2.1.2.2.1.length x4.2.1.2]++[Value.slice x4.2.2.1 t2.1.2.2.2.length x4.2.2.2])))⟩) (vs:=([Value.int .i64 t2.1.1]++([Value.slice x4.1.1 t2.1.2.1.length x4.1.2]++([Value.slice x4.2.1.1 t2.1.2.2.1.length x4.2.1.2]++[Value.slice x4.2.2.1 t2.1.2.2.2.length x4.2.2.2])))) (cs:=([Value.int .i64 (0:Int)]++([Value.slice none 0 0]++([Value.slice none 0 0]++[Value.slice none 0 0])))) (ty:=32) 0 rfl rfl rfl (by kernel_rfl) (by kernel_rfl) (by kernel_rfl) (by exact rfl) (by kernel_rfl) (len_app (len1 _) (len_app (len1 _) (len_app (len1 _) (len1 _)))) (one_app (one_cons rfl one_nil) (one_app (one_cons rfl one_nil) (one_app (one_cons rfl one_nil) (one_cons rfl one_nil)))) (hl_of (Sub4.all _) (len_eq (len_app (len1 _) (len_app (len1 _) (len_app (len1 _) (len1 _)))) (len_app (len1 _) (len_app (len1 _) (len_app (len1 _) (len1 _)))))) (cs' := ([Value.int .i64 t2.1.1]++([Value.slice x4.1.1 t2.1.2.1.length x4.1.2]++([Value.slice x4.2.1.1 t2.1.2.2.1.length x4.2.1.2]++[Value.slice x4.2.2.1 t2.1.2.2.2.length x4.2.2.2])))) (splc_all (len_eq (len_app (len1 _) (len_app (len1 _) (len_app (len1 _) (len1 _)))) (len_app (len1 _) (len_app (len1 _) (len_app (len1 _) (len1 _)))))) ?_
    refine lv (.int .i64 (0:Int)) ?_
    refine ls_end ?_
    refine qn_then ?_
    refine cs_ret' ?_
    obtain rfl := Option.some.inj H
    refine qr_res (rs:=[_,_]) rfl (fun w' hs=>⟨[.agg ⟨([Value.int .i64 t2.1.1]++([Value.slice x4.1.1 t2.1.2.1.length x4.1.2]++([Value.slice x4.2.1.1 t2.1.2.2.1.length x4.2.1.2]++[Value.slice x4.2.2.1 t2.1.2.2.2.length x4.2.2.2])))⟩,.int .i64 (0:Int)],(.cell (by kernel_rfl) (run_cellres (by kernel_rfl) (by kernel_rfl) (len_app (len1 _) (len_app (len1 _) (len_app (len1 _) (len1 _)))) (hs.holds 0 _ (by exact rfl))) (res_tmp (by kernel_rfl) (.nil))),bs11,hle12,((x4.1.1,x4.1.2),(x4.2.1.1,x4.2.1.2),(x4.2.2.1,x4.2.2.2)),rfl,⟨⟨fR5,fC6⟩,⟨fR7,fC8⟩,⟨fR9,fC10⟩⟩,hs.pick (ts:=[]) (cs:=[]) trivial (by decide)⟩)
   replace H := ite_f q21 H
   refine cs_know (c:=true) (congrArg Bool.not (Bool.eq_false_iff.mpr q21)) 33 (by kernel_rfl) ?_
   refine cs_true (by kernel_rfl) ?_
   refine cs_seq ?_
   refine cs_region (l:=[_,_,_]) ?_
   refine lv (.agg ⟨([Value.int .i64 (0:Int)]++([Value.slice none 0 0]++([Value.slice none 0 0]++[Value.slice none 0 0])))⟩) ?_
   refine ls_storec (g:=g1) (off:=0) (v:=.agg ⟨([Value.int .i64 (0:Int)]++([Value.slice none 0 0]++([Value.slice none 0 0]++[Value.slice none 0 0])))⟩) (vs:=([Value.int .i64 (0:Int)]++([Value.slice none 0 0]++([Value.slice none 0 0]++[Value.slice none 0 0])))) (cs:=([Value.int .i64 (0:Int)]++([Value.slice none 0 0]++([Value.slice none 0 0]++[Value.slice none 0 0])))) (ty:=32) 0 rfl rfl rfl (by kernel_rfl) (by kernel_rfl) (by kernel_rfl) (by exact rfl) (by kernel_rfl) (len_app (len1 _) (len_app (len1 _) (len_app (len1 _) (len1 _)))) (one_app (one_cons rfl one_nil) (one_app (one_cons rfl one_nil) (one_app (one_cons rfl one_nil) (one_cons rfl one_nil)))) (hl_of (Sub4.all _) (len_eq (len_app (len1 _) (len_app (len1 _) (len_app (len1 _) (len1 _)))) (len_app (len1 _) (len_app (len1 _) (len_app (len1 _) (len1 _)))))) (cs' := ([Value.int .i64 (0:Int)]++([Value.slice none 0 0]++([Value.slice none 0 0]++[Value.slice none 0 0])))) (splc_all (len_eq (len_app (len1 _) (len_app (len1 _) (len_app (len1 _) (len1 _)))) (len_app (len1 _) (len_app (len1 _) (len_app (len1 _) (len1 _)))))) ?_
   refine lv (.int .i64 (11:Int)) ?_
   refine ls_end ?_
   refine qn_then ?_
   refine cs_ret' ?_
   refine qr_then ?_
   obtain rfl := Option.some.inj H
   refine qr_res (rs:=[_,_]) rfl (fun w' hs=>⟨[.agg ⟨([Value.int .i64 (0:Int)]++([Value.slice none 0 0]++([Value.slice none 0 0]++[Value.slice none 0 0])))⟩,.int .i64 (11:Int)],(.cell (by kernel_rfl) (run_cellres (by kernel_rfl) (by kernel_rfl) (len_app (len1 _) (len_app (len1 _) (len_app (len1 _) (len1 _)))) (hs.holds 0 _ (by exact rfl))) (res_tmp (by kernel_rfl) (.nil))),bs11,hle12,((none,0),(none,0),(none,0)),rfl,⟨⟨(RoS.nil _ _ _ _),(Nat.zero_le _)⟩,⟨(RoS.nil _ _ _ _),(Nat.zero_le _)⟩,⟨(Ro.nil _ _),(Nat.zero_le _)⟩⟩,hs.pick (ts:=[]) (cs:=[]) trivial (by decide)⟩)
  replace H := ite_f q20 H
  refine ls_know (c:=true) (congrArg Bool.not (dec_f q20)) 27 (by kernel_rfl) ?_
  refine lofx 2 27 false true ?_
  refine lofx 2 27 false true ?_
  refine lofx 2 27 false true ?_
  refine lofx 2 27 false true ?_
  refine lofx 2 27 false true ?_
  refine lv (.bool true) ?_
  refine ls_end ?_
  refine qn_then ?_
  refine cs_true (by kernel_rfl) ?_
  refine cs_seq ?_
  refine cs_region (l:=[_,_,_]) ?_
  refine lv (.agg ⟨([Value.int .i64 (0:Int)]++([Value.slice none 0 0]++([Value.slice none 0 0]++[Value.slice none 0 0])))⟩) ?_
  refine ls_storec (g:=g1) (off:=0) (v:=.agg ⟨([Value.int .i64 (0:Int)]++([Value.slice none 0 0]++([Value.slice none 0 0]++[Value.slice none 0 0])))⟩) (vs:=([Value.int .i64 (0:Int)]++([Value.slice none 0 0]++([Value.slice none 0 0]++[Value.slice none 0 0])))) (cs:=([Value.int .i64 (0:Int)]++([Value.slice none 0 0]++([Value.slice none 0 0]++[Value.slice none 0 0])))) (ty:=32) 0 rfl rfl rfl (by kernel_rfl) (by kernel_rfl) (by kernel_rfl) (by exact rfl) (by kernel_rfl) (len_app (len1 _) (len_app (len1 _) (len_app (len1 _) (len1 _)))) (one_app (one_cons rfl one_nil) (one_app (one_cons rfl one_nil) (one_app (one_cons rfl one_nil) (one_cons rfl one_nil)))) (hl_of (Sub4.all _) (len_eq (len_app (len1 _) (len_app (len1 _) (len_app (len1 _) (len1 _)))) (len_app (len1 _) (len_app (len1 _) (len_app (len1 _) (len1 _)))))) (cs' := ([Value.int .i64 (0:Int)]++([Value.slice none 0 0]++([Value.slice none 0 0]++[Value.slice none 0 0])))) (splc_all (len_eq (len_app (len1 _) (len_app (len1 _) (len_app (len1 _) (len1 _)))) (len_app (len1 _) (len_app (len1 _) (len_app (len1 _) (len1 _)))))) ?_
  refine lv (.int .i64 (11:Int)) ?_
  refine ls_end ?_
  refine qn_then ?_
  refine cs_ret' ?_
  refine qr_then ?_
  obtain rfl := Option.some.inj H
  refine qr_res (rs:=[_,_]) rfl (fun w' hs=>⟨[.agg ⟨([Value.int .i64 (0:Int)]++([Value.slice none 0 0]++([Value.slice none 0 0]++[Value.slice none 0 0])))⟩,.int .i64 (11:Int)],(.cell (by kernel_rfl) (run_cellres (by kernel_rfl) (by kernel_rfl) (len_app (len1 _) (len_app (len1 _) (len_app (len1 _) (len1 _)))) (hs.holds 0 _ (by exact rfl))) (res_tmp (by kernel_rfl) (.nil))),bs11,hle12,((none,0),(none,0),(none,0)),rfl,⟨⟨(RoS.nil _ _ _ _),(Nat.zero_le _)⟩,⟨(RoS.nil _ _ _ _),(Nat.zero_le _)⟩,⟨(Ro.nil _ _),(Nat.zero_le _)⟩⟩,hs.pick (ts:=[]) (cs:=[]) trivial (by decide)⟩)
 replace H := ite_f q16 H
 refine cs_know (c:=true) (congrArg Bool.not (Bool.eq_false_iff.mpr q16)) 18 (by kernel_rfl) ?_
 refine cs_true (by kernel_rfl) ?_
 refine cs_seq ?_
 refine cs_region (l:=[_,_,_]) ?_
 refine lv (.agg ⟨([Value.int .i64 (0:Int)]++([Value.slice none 0 0]++([Value.slice none 0 0]++[Value.slice none 0 0])))⟩) ?_
 refine ls_storec (g:=g1) (off:=0) (v:=.agg ⟨([Value.int .i64 (0:Int)]++([Value.slice none 0 0]++([Value.slice none 0 0]++[Value.slice none 0 0])))⟩) (vs:=([Value.int .i64 (0:Int)]++([Value.slice none 0 0]++([Value.slice none 0 0]++[Value.slice none 0 0])))) (cs:=([Value.int .i64 (0:Int)]++([Value.slice none 0 0]++([Value.slice none 0 0]++[Value.slice none 0 0])))) (ty:=32) 0 rfl rfl rfl (by kernel_rfl) (by kernel_rfl) (by kernel_rfl) (by exact rfl) (by kernel_rfl) (len_app (len1 _) (len_app (len1 _) (len_app (len1 _) (len1 _)))) (one_app (one_cons rfl one_nil) (one_app (one_cons rfl one_nil) (one_app (one_cons rfl one_nil) (one_cons rfl one_nil)))) (hl_of (Sub4.all _) (len_eq (len_app (len1 _) (len_app (len1 _) (len_app (len1 _) (len1 _)))) (len_app (len1 _) (len_app (len1 _) (len_app (len1 _) (len1 _)))))) (cs' := ([Value.int .i64 (0:Int)]++([Value.slice none 0 0]++([Value.slice none 0 0]++[Value.slice none 0 0])))) (splc_all (len_eq (len_app (len1 _) (len_app (len1 _) (len_app (len1 _) (len1 _)))) (len_app (len1 _) (len_app (len1 _) (len_app (len1 _) (len1 _)))))) ?_
 refine lv (.int .i64 (11:Int)) ?_
 refine ls_end ?_
 refine qn_then ?_
 refine cs_ret' ?_
 refine qr_then ?_
 obtain rfl := Option.some.inj H
 refine qr_res (rs:=[_,_]) rfl (fun w' hs=>⟨[.agg ⟨([Value.int .i64 (0:Int)]++([Value.slice none 0 0]++([Value.slice none 0 0]++[Value.slice none 0 0])))⟩,.int .i64 (11:Int)],(.cell (by kernel_rfl) (run_cellres (by kernel_rfl) (by kernel_rfl) (len_app (len1 _) (len_app (len1 _) (len_app (len1 _) (len1 _)))) (hs.holds 0 _ (by exact rfl))) (res_tmp (by kernel_rfl) (.nil))),bs11,hle12,((none,0),(none,0),(none,0)),rfl,⟨⟨(RoS.nil _ _ _ _),(Nat.zero_le _)⟩,⟨(RoS.nil _ _ _ _),(Nat.zero_le _)⟩,⟨(Ro.nil _ _),(Nat.zero_le _)⟩⟩,hs.pick (ts:=[]) (cs:=[]) trivial (by decide)⟩)
end Go.Proofs.Ythhhkphbhlafbaa.G
