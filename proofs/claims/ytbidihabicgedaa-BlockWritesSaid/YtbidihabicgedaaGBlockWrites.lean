/- Printed by a program of this session (sz.py): plain functions, and walks that show that the code comes to them; no condition. -/
import Derived.Test.YtbidihabicgedaaProg
import Derived.Test.YtbidihabicgedaaTy
import Derived.Test.YtbidihabicgedaaG0
import Derived.Test.YtbidihabicgedaaG1
import Derived.Test.YtbidihabicgedaaG2
import Derived.Test.YtbidihabicgedaaG3
import Derived.Test.YtbidihabicgedaaG4
set_option linter.unusedVariables false
set_option linter.unusedSimpArgs false
namespace Go.Proofs.Ytbidihabicgedaa.G
open Go Go.RowKit Go.Proofs.Ytbidihabicgedaa.Sx

/-! ### shadowbox/shadowboxlaw07.BlockWrites: function 5 -/
def shadowboxlaw07_BlockWrites.jo10 (l2_1:List Int) (t13:(Int × Int × Int × Int × (Vc Int 32))) (x20_6:Int) (t20:(List Int) × Int) (x23_9:Int) (lo9:Int→Option (Bool)):Option (Bool) := lt (IntKind.wrap .i64 ((512:Int)*(IntKind.wrap .i64 (x20_6 - t13.1)))) fun y23=>(if (IntKind.wrap .i64 (y23+x23_9))≥(0:Int) then (if (IntKind.wrap .i64 (y23+x23_9))<(l2_1.length:Int) then (if 0≤IntKind.wrap .i64 (y23+x23_9) then (if IntKind.wrap .i64 (y23+x23_9)<(l2_1.length:Int) then lt (((l2_1).getD (IntKind.wrap .i64 (y23+x23_9)).toNat (0:Int))) fun y31=>(if 0≤x23_9 then (if x23_9<(t20.1.length:Int) then (if ((t20.1).getD (x23_9).toNat (0:Int))=y31 then lo9 (IntKind.wrap .i64 (x23_9+(1:Int))) else some false) else none) else none) else none) else none) else (if 0≤x23_9 then (if x23_9<(t20.1.length:Int) then (if ((t20.1).getD (x23_9).toNat (0:Int))=(0:Int) then lo9 (IntKind.wrap .i64 (x23_9+(1:Int))) else some false) else none) else none)) else (if 0≤x23_9 then (if x23_9<(t20.1.length:Int) then (if ((t20.1).getD (x23_9).toNat (0:Int))=(0:Int) then lo9 (IntKind.wrap .i64 (x23_9+(1:Int))) else some false) else none) else none))
def shadowboxlaw07_BlockWrites.lo9 (l2_1:List Int) (t13:(Int × Int × Int × Int × (Vc Int 32))) (x20_6:Int) (t20:(List Int) × Int) (lo6:Int→Option (Bool)):Nat→Int→Option (Bool)
  | 0,_=>none
  | k9+1,x23_9=>(if x23_9<(512:Int) then (shadowboxlaw07_BlockWrites.jo10 l2_1 t13 x20_6 t20 x23_9 (shadowboxlaw07_BlockWrites.lo9 l2_1 t13 x20_6 t20 lo6 k9)) else lo6 (IntKind.wrap .i64 (x20_6+(1:Int))))
def shadowboxlaw07_BlockWrites.jo8 (l2_1:List Int) (t13:(Int × Int × Int × Int × (Vc Int 32))) (x20_6:Int) (k6:Nat) (t20:(List Int) × Int) (lo6:Int→Option (Bool)):Option (Bool) := shadowboxlaw07_BlockWrites.lo9 l2_1 t13 x20_6 t20 lo6 k6 (0:Int)
def shadowboxlaw07_BlockWrites.jo7 (l2_1:List Int) (t9:(Int × Int × Int × Int × (Vc Int 32)) × Int × (Unit × Unit × Bool × Int × Bool) × (List (Int × (Vc Int 512)) × List (Vc Int 512))) (t13:(Int × Int × Int × Int × (Vc Int 32))) (x20_6:Int) (k6:Nat) (lo6:Int→Option (Bool)):Option (Bool) := (disk_Disk_Read.f k6 ((),(),t9.2.2.1.2.2.1,t9.2.2.1.2.2.2.1,t9.2.2.1.2.2.2.2) t9.2.2.2 x20_6).bind fun t20=>(if t20.2=(0:Int) then (if (t20.1.length:Int)=(512:Int) then (shadowboxlaw07_BlockWrites.jo8 l2_1 t13 x20_6 k6 t20 lo6) else some false) else some false)
def shadowboxlaw07_BlockWrites.lo6 (y2:Int) (l2_1:List Int) (t9:(Int × Int × Int × Int × (Vc Int 32)) × Int × (Unit × Unit × Bool × Int × Bool) × (List (Int × (Vc Int 512)) × List (Vc Int 512))) (t13:(Int × Int × Int × Int × (Vc Int 32))):Nat→Int→Option (Bool)
  | 0,_=>none
  | k6+1,x20_6=>(if x20_6<y2 then (shadowboxlaw07_BlockWrites.jo7 l2_1 t9 t13 x20_6 k6 (shadowboxlaw07_BlockWrites.lo6 y2 l2_1 t9 t13 k6)) else some true)
def shadowboxlaw07_BlockWrites.jo5 (k:Nat) (y2:Int) (l2_1:List Int) (t9:(Int × Int × Int × Int × (Vc Int 32)) × Int × (Unit × Unit × Bool × Int × Bool) × (List (Int × (Vc Int 512)) × List (Vc Int 512))) (t13:(Int × Int × Int × Int × (Vc Int 32))):Option (Bool) := shadowboxlaw07_BlockWrites.lo6 y2 l2_1 t9 t13 k (0:Int)
def shadowboxlaw07_BlockWrites.jo4 (k:Nat) (y2:Int) (l2_1:List Int) (t9:(Int × Int × Int × Int × (Vc Int 32)) × Int × (Unit × Unit × Bool × Int × Bool) × (List (Int × (Vc Int 512)) × List (Vc Int 512))) (t13:(Int × Int × Int × Int × (Vc Int 32))):Option (Bool) := (block_Read.f k ((),(),t9.2.2.1.2.2.1,t9.2.2.1.2.2.2.1,t9.2.2.1.2.2.2.2) t9.2.2.2 t9.1).bind fun t17=>(if t9.2.1=(0:Int) then (if ((t9.1.1==t13.1)&&((t9.1.2.1==t13.2.1)&&((t9.1.2.2.1==t13.2.2.1)&&((t9.1.2.2.2.1==t13.2.2.2.1)&&(t9.1.2.2.2.2.1==t13.2.2.2.2.1)))))=true then (if t17.2=(0:Int) then (if ((strOfNums t17.1).toList==(strOfNums l2_1).toList)=true then (disk_Disk_Waiting.f k ((),(),t9.2.2.1.2.2.1,t9.2.2.1.2.2.2.1,t9.2.2.1.2.2.2.2) t9.2.2.2).bind fun t56=>(shadowboxref06_Sectors.f k t13).bind fun t59=>(if t56=t59 then (shadowboxlaw07_BlockWrites.jo5 k y2 l2_1 t9 t13) else some false) else some false) else some false) else some false) else some false)
def shadowboxlaw07_BlockWrites.jo3 (k:Nat) (y2:Int) (l2_1:List Int) (t9:(Int × Int × Int × Int × (Vc Int 32)) × Int × (Unit × Unit × Bool × Int × Bool) × (List (Int × (Vc Int 512)) × List (Vc Int 512))) (t13:(Int × Int × Int × Int × (Vc Int 32))) (x11_3:Bool):Option (Bool) := (if x11_3=true then (shadowboxlaw07_BlockWrites.jo4 k y2 l2_1 t9 t13) else (block_Read.f k ((),(),t9.2.2.1.2.2.1,t9.2.2.1.2.2.2.1,t9.2.2.1.2.2.2.2) t9.2.2.2 t13).bind fun t64=>(disk_New.f k (9:Int)).bind fun t67=>(block_Write.f k ((),(),t67.1.1.2.2.1,t67.1.1.2.2.2.1,t67.1.1.2.2.2.2) t67.1.2 (2:Int) (1:Int) ([(120:Int)])).bind fun t71=>(if t9.2.1=(2:Int) then (if ((t9.1.1==(0:Int))&&((t9.1.2.1==(0:Int))&&((t9.1.2.2.1==(0:Int))&&((t9.1.2.2.2.1==(0:Int))&&(t9.1.2.2.2.2.1==(vrep 32 (0:Int)).1)))))=true then (if (t64.1.length:Int)=(0:Int) then (if t64.2=(2:Int) then (disk_Disk_Waiting.f k ((),(),t9.2.2.1.2.2.1,t9.2.2.1.2.2.2.1,t9.2.2.1.2.2.2.2) t9.2.2.2).bind fun t79=>(if t79=(0:Int) then (if t67.2=(0:Int) then (if t71.2.1=(0:Int) then some (decide (t71.1.2.2.1=(1:Int))) else some false) else some false) else some false) else some false) else some false) else some false) else some false))
def shadowboxlaw07_BlockWrites.tab84:List (List Nat) := [[],[0],[0,1],[0,1,2],[0,1,2,3],[0,1,2],[0,1,2,5],[0,1,2,3,4,5,6],[0,1,2],[0,1,2,3,4,5,6,7,8],[0,1,2,3,4,5,6,7,8,9],[0,1,2,3,4,5,6,7,8,9,10]]
def shadowboxlaw07_BlockWrites.jo2 (k:Nat) (a1:(Vc Int 2)) (y2:Int) (l2_1:List Int) (t4:((Unit × Unit × Bool × Int × Bool) × (List (Int × (Vc Int 512)) × List (Vc Int 512))) × Int):Option (Bool) := (if (0:Int)<(2:Int) then (if (1:Int)<(2:Int) then (block_Write.f k ((),(),t4.1.1.2.2.1,t4.1.1.2.2.2.1,t4.1.1.2.2.2.2) t4.1.2 (a1.1.getD ((0:Int)).toNat (0:Int)) (a1.1.getD ((1:Int)).toNat (0:Int)) l2_1).bind fun t9=>(shadowboxref06_Of.f k (a1.1.getD ((0:Int)).toNat (0:Int)) (a1.1.getD ((1:Int)).toNat (0:Int)) l2_1).bind fun t13=>(shadowboxref06_Right.f k t13).bind fun t87=>(if t87=true then (shadowboxref06_Sectors.f k t13).bind fun t91=>(shadowboxlaw07_BlockWrites.jo3 k y2 l2_1 t9 t13) (decide ((IntKind.wrap .i64 (t13.1+t91))≤y2)) else (shadowboxlaw07_BlockWrites.jo3 k y2 l2_1 t9 t13) false) else none) else none)
def shadowboxlaw07_BlockWrites.jo1 (k:Nat) (a1:(Vc Int 2)) (y2:Int) (l2_1:List Int):Option (Bool) := (disk_New.f k y2).bind fun t4=>(if t4.2=(0:Int) then (shadowboxlaw07_BlockWrites.jo2 k a1 y2 l2_1 t4) else some false)
def shadowboxlaw07_BlockWrites.f (k:Nat) (a0:Int) (a1:(Vc Int 2)) (l2:List Int):Option (Bool) :=
  lt (IntKind.wrap .i64 ((1:Int)+(bits .and .i64 a0 (63:Int)))) fun y2=>(if (l2.length:Int) > (3000:Int) then (if (3000:Int)≤(l2.length:Int) then lt (l2.take ((3000:Int)).toNat) fun xl101=>(shadowboxlaw07_BlockWrites.jo1 k a1 y2) xl101 else none) else (shadowboxlaw07_BlockWrites.jo1 k a1 y2) l2)
set_option maxRecDepth 100000 in
set_option maxHeartbeats 4000000 in
theorem shadowboxlaw07_BlockWrites.calls (k:Nat) (a0:Int) (a1:(Vc Int 2)) (A2:Option Addr) (c2:Nat) (l2:List Int) (r:Bool) (b:Bs) (hs0:St b (stl []) b.w) (R2:Ro b A2 (em (Ec.int 5 .u8) l2)) (C2:l2.length≤c2) (H:shadowboxlaw07_BlockWrites.f k a0 a1 l2=some r) :
    Calls Try.prog 5 #[.int .i64 a0,.agg ⟨en (Value.int .i64) a1.1⟩,.slice A2 l2.length c2] b.w fun e w'=>∃ x:Unit,e=.returned (.bool r)∧St b (stl []) w' := by
 unfold shadowboxlaw07_BlockWrites.f at H
 refine enterb (n:=199) Try.func5 rfl (by kernel_rfl) (by kernel_rfl) hs0 ?_
 refine cs_sub (s0) (sub_nil _) ?_
 refine cs_seq ?_
 refine cs_region (l:=[_,_]) ?_
 refine ls_new rfl rfl (by kernel_rfl) 0 (fun g=>.pointer (some ⟨g,0,none⟩)) (.cells ⟨en (Value.int .i64) a1.1⟩ 45) (fun w=>by kernel_rfl) ?_
 intro g1
 refine lv (.bool false) ?_
 refine ls_end ?_
 refine qn_then ?_
 refine cs_seq ?_
 refine cs_region (l:=[_,_,_,_]) ?_
 refine lv (.int .i64 a0) ?_
 refine lv (.int .i64 (bits .and .i64 a0 (63:Int))) ?_
 obtain ⟨y2,hy3,H⟩ := lt_some H
 refine lv (.int .i64 (IntKind.wrap .i64 ((1:Int)+(bits .and .i64 a0 (63:Int))))) ?_
 refine ls_ren 28 (v:=.int .i64 (IntKind.wrap .i64 ((1:Int)+(bits .and .i64 a0 (63:Int))))) (v' := .int .i64 y2) (by kernel_rfl) (by rw [hy3]) ?_
 refine lv (.int .i64 y2) ?_
 refine ls_end ?_
 refine qn_then ?_
 refine cs_cut (fun f S=>∃ (fR:Fr) (A2_1:Option Addr) (c2_1:Nat) (l2_1:List Int),f=upd (upd (upd fR 0 (.int .i64 y2)) 2 (.slice A2_1 l2_1.length c2_1)) 4 (.pointer (some ⟨g1,0,none⟩))∧S=sput s0 0 (some (Ck.var 45 g1 (en (Value.int .i64) a1.1)))∧Ro b A2_1 (em (Ec.int 5 .u8) l2_1)∧l2_1.length≤c2_1∧shadowboxlaw07_BlockWrites.jo1 k a1 y2 l2_1=some r) ?_ ?_
 ·skip
  refine cs_seq ?_
  refine cs_region (l:=[_,_,_]) ?_
  refine lv (.slice A2 l2.length c2) ?_
  refine lv (.int .i64 (l2.length:Int)) ?_
  refine lv (.bool (decide ((l2.length:Int) > (3000:Int)))) ?_
  refine ls_end ?_
  refine qn_then ?_
  by_cases q95:(l2.length:Int) > (3000:Int)
  ·replace H := ite_t q95 H
   refine cs_know (c:=true) (dec_t q95) 31 (by kernel_rfl) ?_
   refine cs_true (by kernel_rfl) ?_
   refine cs_region (l:=[_,_,_]) ?_
   refine lv (.slice A2 l2.length c2) ?_
   obtain ⟨q96,H⟩ := ite_need H
   obtain ⟨xl101,hy102,H⟩ := lt_some H
   have hz104:0≤((3000:Int)).toNat := by omega
   have hz105:((3000:Int)).toNat≤l2.length := by omega
   obtain ⟨xA97,xc98,he103,xC100,xR99⟩ := cut_at (A:=A2) (c:=c2) (l:=l2) (Ec.int 5 .u8) 0 (((3000:Int)).toNat) hz104 hz105 C2 R2 (m:=xl101) (by rw [← hy102] <;> simp) (z:=1) rfl
   refine ls_cutv (A:=A2) (c:=c2) (m:=l2.length) (z:=1) (e:=5) (a:=0) (b:=((3000:Int)).toNat) rfl rfl (by kernel_rfl) rfl (by kernel_rfl) (by kernel_rfl) (by kernel_rfl) (.inl ⟨rfl,rfl⟩) (.inr ⟨.i64,by rw [Int.toNat_of_nonneg (by first | assumption | omega)]; kernel_rfl⟩) hz104 hz105 C2 he103 ?_
   refine lv (.slice xA97 xl101.length xc98) ?_
   refine ls_end ?_
   refine qn_meet (sput s0 0 (some (Ck.var 45 g1 (en (Value.int .i64) a1.1)))) ⟨_,xA97,xc98,xl101,fr_next (fr_next (fr_next (rfl) (by kernel_rfl)) (by kernel_rfl)) (by kernel_rfl),rfl,xR99,xC100,H⟩ (sub_put (by exact rfl) (sub_nil _))
  replace H := ite_f q95 H
  refine cs_know (c:=false) (dec_f q95) 31 (by kernel_rfl) ?_
  refine cs_false (by kernel_rfl) ?_
  refine cs_skip' ?_
  refine qn_meet (sput s0 0 (some (Ck.var 45 g1 (en (Value.int .i64) a1.1)))) ⟨_,A2,c2,l2,fr_next (fr_next (fr_next (rfl) (by kernel_rfl)) (by kernel_rfl)) (by kernel_rfl),rfl,R2,C2,H⟩ (sub_put (by exact rfl) (sub_nil _))
 rintro f S ⟨fr1,A2_1,c2_1,l2_1,rfl,rfl,R2_1,C2_1,H⟩
 replace H:((disk_New.f k y2).bind fun t4=>(if t4.2=(0:Int) then (shadowboxlaw07_BlockWrites.jo2 k a1 y2 l2_1 t4) else some false))=some r := H
 refine cs_seq ?_
 refine cs_region (l:=[_,_,_,_,_,_,_]) ?_
 refine lv (.int .i64 y2) ?_
 obtain ⟨t4,hc5,H⟩ := bind_some H
 refine ls_callb (fid:=6) (vals:=#[.int .i64 y2]) (X:=Nat × Nat × Nat × Nat × Nat) (fun x=>.tuple #[.pointer (some ⟨x.1,0,none⟩),.int .i64 t4.2]) (fun x=>stl [Ck.var 42 x.1 (([Value.slice (some ⟨x.2.2.1,0,none⟩) x.2.2.2.2 x.2.2.2.1]++([Value.map (some x.2.1)]++([Value.bool t4.1.1.2.2.1]++([Value.int .i64 t4.1.1.2.2.2.1]++[Value.bool t4.1.1.2.2.2.2]))))),Ck.mr T56 x.2.1 x.2.2.1 x.2.2.2.1 x.2.2.2.2 t4.1.2]) [] [] [] [] 1 rfl rfl (by kernel_rfl) (fun w=>by kernel_rfl) trivial trivial (by decide) (fun w hs hb=>disk_New.calls k y2 t4 (lent b w [] []) hb  hc5) ?_
 intro x6
 refine lv (.tuple #[.pointer (some ⟨x6.1,0,none⟩),.int .i64 t4.2]) ?_
 refine lv (.pointer (some ⟨x6.1,0,none⟩)) ?_
 refine lv (.int .i64 t4.2) ?_
 refine lv (.pointer (some ⟨x6.1,0,none⟩)) ?_
 refine lv (.int .i64 t4.2) ?_
 refine ls_end ?_
 refine qn_then ?_
 refine cs_cut (fun f S=>∃ (fR:Fr),f=upd (upd (upd (upd fR 0 (.int .i64 y2)) 2 (.slice A2_1 l2_1.length c2_1)) 4 (.pointer (some ⟨g1,0,none⟩))) 7 (.pointer (some ⟨x6.1,0,none⟩))∧S=sput (sput (sput s0 0 (some (Ck.var 45 g1 (en (Value.int .i64) a1.1)))) 1 (some (Ck.var 42 x6.1 (([Value.slice (some ⟨x6.2.2.1,0,none⟩) x6.2.2.2.2 x6.2.2.2.1]++([Value.map (some x6.2.1)]++([Value.bool t4.1.1.2.2.1]++([Value.int .i64 t4.1.1.2.2.2.1]++[Value.bool t4.1.1.2.2.2.2])))))))) 2 (some (Ck.mr T56 x6.2.1 x6.2.2.1 x6.2.2.2.1 x6.2.2.2.2 t4.1.2))∧shadowboxlaw07_BlockWrites.jo2 k a1 y2 l2_1 t4=some r) ?_ ?_
 ·skip
  refine cs_seq ?_
  refine cs_region (l:=[_,_]) ?_
  refine lv (.int .i64 t4.2) ?_
  refine lv (.bool (!decide (t4.2=(0:Int)))) ?_
  refine ls_end ?_
  refine qn_then ?_
  by_cases q94:t4.2=(0:Int)
  ·replace H := ite_t q94 H
   refine cs_know (c:=false) (congrArg Bool.not (dec_t q94)) 40 (by kernel_rfl) ?_
   refine cs_false (by kernel_rfl) ?_
   refine cs_skip' ?_
   refine qn_meet (sput (sput (sput s0 0 (some (Ck.var 45 g1 (en (Value.int .i64) a1.1)))) 1 (some (Ck.var 42 x6.1 (([Value.slice (some ⟨x6.2.2.1,0,none⟩) x6.2.2.2.2 x6.2.2.2.1]++([Value.map (some x6.2.1)]++([Value.bool t4.1.1.2.2.1]++([Value.int .i64 t4.1.1.2.2.2.1]++[Value.bool t4.1.1.2.2.2.2])))))))) 2 (some (Ck.mr T56 x6.2.1 x6.2.2.1 x6.2.2.2.1 x6.2.2.2.2 t4.1.2))) ⟨_,fr_next (fr_next (fr_next (fr_next (rfl) (by kernel_rfl)) (by kernel_rfl)) (by kernel_rfl)) (by kernel_rfl),rfl,H⟩ (sub_put (by exact rfl) (sub_put (by exact rfl) (sub_put (by exact rfl) (sub_nil _))))
  replace H := ite_f q94 H
  refine cs_know (c:=true) (congrArg Bool.not (dec_f q94)) 40 (by kernel_rfl) ?_
  refine cs_true (by kernel_rfl) ?_
  refine cs_seq ?_
  refine cs_region (l:=[_]) ?_
  refine lv (.bool false) ?_
  refine ls_end ?_
  refine qn_then ?_
  refine cs_ret' ?_
  refine qr_then ?_
  obtain rfl := Option.some.inj H
  refine qr_res (rs:=[_]) rfl (fun w' hs=>⟨[.bool false],(res_tmp (by kernel_rfl) (.nil)),(),rfl,hs.pick (ts:=[]) (cs:=[]) trivial (by decide)⟩)
 rintro f S ⟨fr2,rfl,rfl,H⟩
 replace H:((if (0:Int)<(2:Int) then (if (1:Int)<(2:Int) then (block_Write.f k ((),(),t4.1.1.2.2.1,t4.1.1.2.2.2.1,t4.1.1.2.2.2.2) t4.1.2 (a1.1.getD ((0:Int)).toNat (0:Int)) (a1.1.getD ((1:Int)).toNat (0:Int)) l2_1).bind fun t9=>(shadowboxref06_Of.f k (a1.1.getD ((0:Int)).toNat (0:Int)) (a1.1.getD ((1:Int)).toNat (0:Int)) l2_1).bind fun t13=>(shadowboxref06_Right.f k t13).bind fun t87=>(if t87=true then (shadowboxref06_Sectors.f k t13).bind fun t91=>(shadowboxlaw07_BlockWrites.jo3 k y2 l2_1 t9 t13) (decide ((IntKind.wrap .i64 (t13.1+t91))≤y2)) else (shadowboxlaw07_BlockWrites.jo3 k y2 l2_1 t9 t13) false) else none) else none))=some r := H
 refine cs_seq ?_
 refine cs_region (l:=[_,_,_,_,_,_,_,_,_,_,_,_,_]) ?_
 refine lv (.pointer (some ⟨x6.1,0,none⟩)) ?_
 obtain ⟨q7,H⟩ := ite_need H
 refine ls_idxa1 (g:=g1) (off:=0) (i:=(0:Int)) (kk:=.i64) (ln:=2) (e:=3) rfl rfl (by kernel_rfl) rfl (by kernel_rfl) (by kernel_rfl) (by kernel_rfl) (by kernel_rfl) (by decide) q7 ?_
 refine ls_load (a0:=⟨g1,(0+((0:Int)).toNat),none⟩) (v:=.int .i64 (a1.1.getD ((0:Int)).toNat (0:Int))) (de:=(TypeDesc.int .i64)) rfl rfl (by kernel_rfl) rfl (by kernel_rfl) (by kernel_rfl) (by kernel_rfl) (fun w hs=>(hs.var (k:=0) (by exact rfl) (Sub4.trans (Sub4.all _) (Sub4.one (i:=((0:Int)).toNat) (Value.int .i64) a1.1 0 (by have := a1.2; omega))))) ?_
 obtain ⟨q8,H⟩ := ite_need H
 refine ls_idxa1 (g:=g1) (off:=0) (i:=(1:Int)) (kk:=.i64) (ln:=2) (e:=3) rfl rfl (by kernel_rfl) rfl (by kernel_rfl) (by kernel_rfl) (by kernel_rfl) (by kernel_rfl) (by decide) q8 ?_
 refine ls_load (a0:=⟨g1,(0+((1:Int)).toNat),none⟩) (v:=.int .i64 (a1.1.getD ((1:Int)).toNat (0:Int))) (de:=(TypeDesc.int .i64)) rfl rfl (by kernel_rfl) rfl (by kernel_rfl) (by kernel_rfl) (by kernel_rfl) (fun w hs=>(hs.var (k:=0) (by exact rfl) (Sub4.trans (Sub4.all _) (Sub4.one (i:=((1:Int)).toNat) (Value.int .i64) a1.1 0 (by have := a1.2; omega))))) ?_
 refine lv (.slice A2_1 l2_1.length c2_1) ?_
 obtain ⟨t9,hc10,H⟩ := bind_some H
 refine ls_callb (fid:=7) (vals:=#[.pointer (some ⟨x6.1,0,none⟩),.int .i64 (a1.1.getD ((0:Int)).toNat (0:Int)),.int .i64 (a1.1.getD ((1:Int)).toNat (0:Int)),.slice A2_1 l2_1.length c2_1]) (X:=Unit) (fun x=>.tuple #[.agg ⟨([Value.int .i64 t9.1.1]++([Value.int .i64 t9.1.2.1]++([Value.int .i64 t9.1.2.2.1]++([Value.int .u32 t9.1.2.2.2.1]++en (Value.int .u8) t9.1.2.2.2.2.1))))⟩,.int .i64 t9.2.1]) (fun x=>stl [Ck.var 42 x6.1 (([Value.slice (some ⟨x6.2.2.1,0,none⟩) x6.2.2.2.2 x6.2.2.2.1]++([Value.map (some x6.2.1)]++([Value.bool t9.2.2.1.2.2.1]++([Value.int .i64 t9.2.2.1.2.2.2.1]++[Value.bool t9.2.2.1.2.2.2.2]))))),Ck.mr T56 x6.2.1 x6.2.2.1 x6.2.2.2.1 x6.2.2.2.2 t9.2.2.2]) [1,2] [] [Ck.var 42 x6.1 (([Value.slice (some ⟨x6.2.2.1,0,none⟩) x6.2.2.2.2 x6.2.2.2.1]++([Value.map (some x6.2.1)]++([Value.bool t4.1.1.2.2.1]++([Value.int .i64 t4.1.1.2.2.2.1]++[Value.bool t4.1.1.2.2.2.2]))))),Ck.mr T56 x6.2.1 x6.2.2.1 x6.2.2.2.1 x6.2.2.2.2 t4.1.2] [] 3 rfl rfl (by kernel_rfl) (fun w=>by kernel_rfl) ⟨by exact rfl,by exact rfl,trivial⟩ trivial (by decide) (fun w hs hb=>block_Write.calls k x6.1 x6.2.2.1 x6.2.2.2.2 x6.2.2.2.1 x6.2.1 ((),(),t4.1.1.2.2.1,t4.1.1.2.2.2.1,t4.1.1.2.2.2.2) t4.1.2 (a1.1.getD ((0:Int)).toNat (0:Int)) (a1.1.getD ((1:Int)).toNat (0:Int)) A2_1 c2_1 l2_1 t9 (lent b w [Ck.var 42 x6.1 (([Value.slice (some ⟨x6.2.2.1,0,none⟩) x6.2.2.2.2 x6.2.2.2.1]++([Value.map (some x6.2.1)]++([Value.bool t4.1.1.2.2.1]++([Value.int .i64 t4.1.1.2.2.2.1]++[Value.bool t4.1.1.2.2.2.2]))))),Ck.mr T56 x6.2.1 x6.2.2.1 x6.2.2.2.1 x6.2.2.2.2 t4.1.2] []) hb (hs.ro R2_1 _ _) C2_1 hc10) ?_
 intro x11
 refine lv (.tuple #[.agg ⟨([Value.int .i64 t9.1.1]++([Value.int .i64 t9.1.2.1]++([Value.int .i64 t9.1.2.2.1]++([Value.int .u32 t9.1.2.2.2.1]++en (Value.int .u8) t9.1.2.2.2.2.1))))⟩,.int .i64 t9.2.1]) ?_
 refine lv (.agg ⟨([Value.int .i64 t9.1.1]++([Value.int .i64 t9.1.2.1]++([Value.int .i64 t9.1.2.2.1]++([Value.int .u32 t9.1.2.2.2.1]++en (Value.int .u8) t9.1.2.2.2.2.1))))⟩) ?_
 refine lv (.int .i64 t9.2.1) ?_
 refine ls_new rfl rfl (by kernel_rfl) 3 (fun g=>.pointer (some ⟨g,0,none⟩)) (.cells ⟨([Value.int .i64 (0:Int)]++([Value.int .i64 (0:Int)]++([Value.int .i64 (0:Int)]++([Value.int .u32 (0:Int)]++en (Value.int .u8) (vrep 32 (0:Int)).1))))⟩ 30) (fun w=>by kernel_rfl) ?_
 intro g12
 refine ls_storec (g:=g12) (off:=0) (v:=.agg ⟨([Value.int .i64 t9.1.1]++([Value.int .i64 t9.1.2.1]++([Value.int .i64 t9.1.2.2.1]++([Value.int .u32 t9.1.2.2.2.1]++en (Value.int .u8) t9.1.2.2.2.2.1))))⟩) (vs:=([Value.int .i64 t9.1.1]++([Value.int .i64 t9.1.2.1]++([Value.int .i64 t9.1.2.2.1]++([Value.int .u32 t9.1.2.2.2.1]++en (Value.int .u8) t9.1.2.2.2.2.1))))) (cs:=([Value.int .i64 (0:Int)]++([Value.int .i64 (0:Int)]++([Value.int .i64 (0:Int)]++([Value.int .u32 (0:Int)]++en (Value.int .u8) (vrep 32 (0:Int)).1))))) (ty:=30) 3 rfl rfl rfl (by kernel_rfl) (by kernel_rfl) (by kernel_rfl) (by exact rfl) (by kernel_rfl) (len_app (len1 _) (len_app (len1 _) (len_app (len1 _) (len_app (len1 _) (len_en _ t9.1.2.2.2.2))))) (one_app (one_cons rfl one_nil) (one_app (one_cons rfl one_nil) (one_app (one_cons rfl one_nil) (one_app (one_cons rfl one_nil) (one_en (fun _=>rfl) _))))) (hl_of (Sub4.all _) (len_eq (len_app (len1 _) (len_app (len1 _) (len_app (len1 _) (len_app (len1 _) (len_en _ t9.1.2.2.2.2))))) (len_app (len1 _) (len_app (len1 _) (len_app (len1 _) (len_app (len1 _) (len_en _ (vrep 32 (0:Int))))))))) (cs' := ([Value.int .i64 t9.1.1]++([Value.int .i64 t9.1.2.1]++([Value.int .i64 t9.1.2.2.1]++([Value.int .u32 t9.1.2.2.2.1]++en (Value.int .u8) t9.1.2.2.2.2.1))))) (splc_all (len_eq (len_app (len1 _) (len_app (len1 _) (len_app (len1 _) (len_app (len1 _) (len_en _ t9.1.2.2.2.2))))) (len_app (len1 _) (len_app (len1 _) (len_app (len1 _) (len_app (len1 _) (len_en _ (vrep 32 (0:Int))))))))) ?_
 refine lv (.int .i64 t9.2.1) ?_
 refine ls_end ?_
 refine qn_then ?_
 refine cs_seq ?_
 refine cs_region (l:=[_,_,_,_,_,_,_,_]) ?_
 refine ls_idxa1 (g:=g1) (off:=0) (i:=(0:Int)) (kk:=.i64) (ln:=2) (e:=3) rfl rfl (by kernel_rfl) rfl (by kernel_rfl) (by kernel_rfl) (by kernel_rfl) (by kernel_rfl) (by decide) q7 ?_
 refine ls_load (a0:=⟨g1,(0+((0:Int)).toNat),none⟩) (v:=.int .i64 (a1.1.getD ((0:Int)).toNat (0:Int))) (de:=(TypeDesc.int .i64)) rfl rfl (by kernel_rfl) rfl (by kernel_rfl) (by kernel_rfl) (by kernel_rfl) (fun w hs=>(hs.var (k:=0) (by exact rfl) (Sub4.trans (Sub4.all _) (Sub4.one (i:=((0:Int)).toNat) (Value.int .i64) a1.1 0 (by have := a1.2; omega))))) ?_
 refine ls_idxa1 (g:=g1) (off:=0) (i:=(1:Int)) (kk:=.i64) (ln:=2) (e:=3) rfl rfl (by kernel_rfl) rfl (by kernel_rfl) (by kernel_rfl) (by kernel_rfl) (by kernel_rfl) (by decide) q8 ?_
 refine ls_load (a0:=⟨g1,(0+((1:Int)).toNat),none⟩) (v:=.int .i64 (a1.1.getD ((1:Int)).toNat (0:Int))) (de:=(TypeDesc.int .i64)) rfl rfl (by kernel_rfl) rfl (by kernel_rfl) (by kernel_rfl) (by kernel_rfl) (fun w hs=>(hs.var (k:=0) (by exact rfl) (Sub4.trans (Sub4.all _) (Sub4.one (i:=((1:Int)).toNat) (Value.int .i64) a1.1 0 (by have := a1.2; omega))))) ?_
 refine lv (.slice A2_1 l2_1.length c2_1) ?_
 obtain ⟨t13,hc14,H⟩ := bind_some H
 refine ls_callb (fid:=11) (vals:=#[.int .i64 (a1.1.getD ((0:Int)).toNat (0:Int)),.int .i64 (a1.1.getD ((1:Int)).toNat (0:Int)),.slice A2_1 l2_1.length c2_1]) (X:=Unit) (fun x=>.agg ⟨([Value.int .i64 t13.1]++([Value.int .i64 t13.2.1]++([Value.int .i64 t13.2.2.1]++([Value.int .u32 t13.2.2.2.1]++en (Value.int .u8) t13.2.2.2.2.1))))⟩) (fun x=>stl []) [] [] [] [] 4 rfl rfl (by kernel_rfl) (fun w=>by kernel_rfl) trivial trivial (by decide) (fun w hs hb=>shadowboxref06_Of.calls k (a1.1.getD ((0:Int)).toNat (0:Int)) (a1.1.getD ((1:Int)).toNat (0:Int)) A2_1 c2_1 l2_1 t13 (lent b w [] []) hb (hs.ro R2_1 _ _) C2_1 hc14) ?_
 intro x15
 refine ls_new rfl rfl (by kernel_rfl) 4 (fun g=>.pointer (some ⟨g,0,none⟩)) (.cells ⟨([Value.int .i64 (0:Int)]++([Value.int .i64 (0:Int)]++([Value.int .i64 (0:Int)]++([Value.int .u32 (0:Int)]++en (Value.int .u8) (vrep 32 (0:Int)).1))))⟩ 30) (fun w=>by kernel_rfl) ?_
 intro g16
 refine ls_storec (g:=g16) (off:=0) (v:=.agg ⟨([Value.int .i64 t13.1]++([Value.int .i64 t13.2.1]++([Value.int .i64 t13.2.2.1]++([Value.int .u32 t13.2.2.2.1]++en (Value.int .u8) t13.2.2.2.2.1))))⟩) (vs:=([Value.int .i64 t13.1]++([Value.int .i64 t13.2.1]++([Value.int .i64 t13.2.2.1]++([Value.int .u32 t13.2.2.2.1]++en (Value.int .u8) t13.2.2.2.2.1))))) (cs:=([Value.int .i64 (0:Int)]++([Value.int .i64 (0:Int)]++([Value.int .i64 (0:Int)]++([Value.int .u32 (0:Int)]++en (Value.int .u8) (vrep 32 (0:Int)).1))))) (ty:=30) 4 rfl rfl rfl (by kernel_rfl) (by kernel_rfl) (by kernel_rfl) (by exact rfl) (by kernel_rfl) (len_app (len1 _) (len_app (len1 _) (len_app (len1 _) (len_app (len1 _) (len_en _ t13.2.2.2.2))))) (one_app (one_cons rfl one_nil) (one_app (one_cons rfl one_nil) (one_app (one_cons rfl one_nil) (one_app (one_cons rfl one_nil) (one_en (fun _=>rfl) _))))) (hl_of (Sub4.all _) (len_eq (len_app (len1 _) (len_app (len1 _) (len_app (len1 _) (len_app (len1 _) (len_en _ t13.2.2.2.2))))) (len_app (len1 _) (len_app (len1 _) (len_app (len1 _) (len_app (len1 _) (len_en _ (vrep 32 (0:Int))))))))) (cs' := ([Value.int .i64 t13.1]++([Value.int .i64 t13.2.1]++([Value.int .i64 t13.2.2.1]++([Value.int .u32 t13.2.2.2.1]++en (Value.int .u8) t13.2.2.2.2.1))))) (splc_all (len_eq (len_app (len1 _) (len_app (len1 _) (len_app (len1 _) (len_app (len1 _) (len_en _ t13.2.2.2.2))))) (len_app (len1 _) (len_app (len1 _) (len_app (len1 _) (len_app (len1 _) (len_en _ (vrep 32 (0:Int))))))))) ?_
 refine ls_end ?_
 refine qn_then ?_
 refine cs_cut (fun f S=>∃ (fR:Fr) (x11_3:Bool),f=upd (upd (upd (upd (upd (upd (upd fR 0 (.int .i64 y2)) 2 (.slice A2_1 l2_1.length c2_1)) 7 (.pointer (some ⟨x6.1,0,none⟩))) 8 (.int .i64 t9.2.1)) 9 (.pointer (some ⟨g12,0,none⟩))) 10 (.pointer (some ⟨g16,0,none⟩))) 11 (.bool x11_3)∧S=sput (sput (sput (sput s0 1 (some (Ck.var 42 x6.1 (([Value.slice (some ⟨x6.2.2.1,0,none⟩) x6.2.2.2.2 x6.2.2.2.1]++([Value.map (some x6.2.1)]++([Value.bool t9.2.2.1.2.2.1]++([Value.int .i64 t9.2.2.1.2.2.2.1]++[Value.bool t9.2.2.1.2.2.2.2])))))))) 2 (some (Ck.mr T56 x6.2.1 x6.2.2.1 x6.2.2.2.1 x6.2.2.2.2 t9.2.2.2))) 3 (some (Ck.var 30 g12 (([Value.int .i64 t9.1.1]++([Value.int .i64 t9.1.2.1]++([Value.int .i64 t9.1.2.2.1]++([Value.int .u32 t9.1.2.2.2.1]++en (Value.int .u8) t9.1.2.2.2.2.1)))))))) 4 (some (Ck.var 30 g16 (([Value.int .i64 t13.1]++([Value.int .i64 t13.2.1]++([Value.int .i64 t13.2.2.1]++([Value.int .u32 t13.2.2.2.1]++en (Value.int .u8) t13.2.2.2.2.1)))))))∧shadowboxlaw07_BlockWrites.jo3 k y2 l2_1 t9 t13 x11_3=some r) ?_ ?_
 ·skip
  obtain ⟨s86_0,hs86_0⟩ := exv (.agg ⟨([Value.int .i64 t13.1]++([Value.int .i64 t13.2.1]++([Value.int .i64 t13.2.2.1]++([Value.int .u32 t13.2.2.2.1]++en (Value.int .u8) t13.2.2.2.2.1))))⟩)
  refine have_opa shadowboxlaw07_BlockWrites.tab84 5 0 (fun sp=>sp 0=s86_0) (fun sp on hA hon=>?_) (fun ops86_0=>?_)
  ·refine ⟨fun o ho vs Rs f' S' w hp hf hx hS hR hs=>?_⟩
   obtain rfl := Option.some.inj ho
   rw [hA,hs86_0]
   refine wn hon ?_
   have hF := fr_next (rfl) ((hx 10 (by kernel_rfl)).trans (by kernel_rfl:(_:Value)=.pointer (some ⟨g16,0,none⟩)))
   refine ls_fr hF ?_
   refine ls_loadagg (a:=⟨g16,0,none⟩) (sub:=([Value.int .i64 t13.1]++([Value.int .i64 t13.2.1]++([Value.int .i64 t13.2.2.1]++([Value.int .u32 t13.2.2.2.1]++en (Value.int .u8) t13.2.2.2.2.1))))) rfl rfl (by kernel_rfl) rfl (by kernel_rfl) (by kernel_rfl) (by kernel_rfl) (len_app (len1 _) (len_app (len1 _) (len_app (len1 _) (len_app (len1 _) (len_en _ t13.2.2.2.2))))) (fun w1 hs1=>Rd.step (hs.vars (k:=4) ((hS 4 (by kernel_rfl)).trans (by exact rfl)) (Sub4.all _)) hs1.below.bw) ?_
   exact ls_fin s0 _ (congrArg (fun z=>upd z 57 _) hF.symm) ⟨rfl,rfl⟩ (sub_nil _)
  obtain ⟨t87,hc88,H⟩ := bind_some H
  obtain ⟨s86_1,hs86_1⟩:∃ z:Value→Sto→Prop,z=(fun v R=>∃ x89:Unit,v=.bool t87∧R=stl []) := ⟨_,rfl⟩
  refine have_opa shadowboxlaw07_BlockWrites.tab84 5 1 (fun sp=>sp 1=s86_1∧sp 0=s86_0) (fun sp on hA hon=>?_) (fun ops86_1=>?_)
  ·refine ⟨fun o ho vs Rs f' S' w hp hf hx hS hR hs=>?_⟩
   obtain rfl := Option.some.inj ho
   obtain ⟨hv0,hR0⟩ := (spe hA.2 hs86_0 (hp 0 (by kernel_rfl)))
   rw [hA.1,hs86_1]
   refine wn hon ?_
   have hF := fr_next (rfl) ((hf 0 57 (by kernel_rfl) rfl).trans hv0)
   refine ls_fr hF ?_
   refine ls_call (fid:=12) (vals:=#[.agg ⟨([Value.int .i64 t13.1]++([Value.int .i64 t13.2.1]++([Value.int .i64 t13.2.2.1]++([Value.int .u32 t13.2.2.2.1]++en (Value.int .u8) t13.2.2.2.2.1))))⟩]) (X:=Unit) (fun x=>.bool t87) (fun x=>stl []) 0 rfl rfl (by kernel_rfl) (fun w=>by kernel_rfl) (fun w1 hs1=>shadowboxref06_Right.calls k t13 t87 (bw w1) (St.refl w1)  hc88) ?_
   intro x89
   exact ls_fin (stl []) (.bool t87) (congrArg (fun z=>upd z 58 _) hF.symm) ⟨x89,rfl,rfl⟩ (sub_join _)
  obtain ⟨s86_2,hs86_2⟩ := exv (.bool t87)
  refine have_opa shadowboxlaw07_BlockWrites.tab84 5 2 (fun sp=>sp 2=s86_2∧sp 1=s86_1) (fun sp on hA hon=>?_) (fun ops86_2=>?_)
  ·refine ⟨fun o ho vs Rs f' S' w hp hf hx hS hR hs=>?_⟩
   obtain rfl := Option.some.inj ho
   obtain ⟨x89,hv1,hR1⟩ := (spe hA.2 hs86_1 (hp 1 (by kernel_rfl)))
   exact opv (.bool t87) hA.1 hs86_2 hon (fr_next (rfl) ((hf 1 58 (by kernel_rfl) rfl).trans hv1))
  by_cases q90:t87=true
  ·replace H := ite_t q90 H
   obtain ⟨s86_3,hs86_3⟩ := exv (.pointer (some ⟨g16,(0+0),none⟩))
   refine have_opa shadowboxlaw07_BlockWrites.tab84 5 3 (fun sp=>sp 3=s86_3∧sp 2=s86_2) (fun sp on hA hon=>?_) (fun ops86_3=>?_)
   ·refine ⟨fun o ho vs Rs f' S' w hp hf hx hS hR hs=>?_⟩
    obtain rfl := Option.some.inj ho
    obtain ⟨hv2,hR2⟩ := (spe hA.2 hs86_2 (hp 2 (by kernel_rfl)))
    rw [hA.1,hs86_3]
    refine And.intro (fun a ha=>(want_is (j:=2) (t:=59) (r:=true) rfl rfl (by kernel_rfl) (((hf 2 59 (by kernel_rfl) rfl).trans hv2).trans (congrArg Value.bool (show t87=true from q90))) rfl a ha).trans hon.symm) (And.intro (fun _=>?_) (fun h=>by rw [hon] at h; cases h))
    have hF := fr_next (fr_next (rfl) ((hx 10 (by kernel_rfl)).trans (by kernel_rfl:(_:Value)=.pointer (some ⟨g16,0,none⟩)))) (((hf 2 59 (by kernel_rfl) rfl).trans hv2).trans (congrArg Value.bool (show t87=true from q90)))
    refine ls_fr hF ?_
    refine lv (.pointer (some ⟨g16,(0+0),none⟩)) ?_
    exact ls_fin s0 _ (congrArg (fun z=>upd z 60 _) hF.symm) ⟨rfl,rfl⟩ (sub_nil _)
   obtain ⟨s86_4,hs86_4⟩ := exv (.int .i64 t13.1)
   refine have_opa shadowboxlaw07_BlockWrites.tab84 5 4 (fun sp=>sp 4=s86_4∧sp 2=s86_2∧sp 3=s86_3) (fun sp on hA hon=>?_) (fun ops86_4=>?_)
   ·refine ⟨fun o ho vs Rs f' S' w hp hf hx hS hR hs=>?_⟩
    obtain rfl := Option.some.inj ho
    obtain ⟨hv2,hR2⟩ := (spe hA.2.1 hs86_2 (hp 2 (by kernel_rfl)))
    obtain ⟨hv3,hR3⟩ := (spe hA.2.2 hs86_3 (hp 3 (by kernel_rfl)))
    rw [hA.1,hs86_4]
    refine And.intro (fun a ha=>(want_is (j:=2) (t:=59) (r:=true) rfl rfl (by kernel_rfl) (((hf 2 59 (by kernel_rfl) rfl).trans hv2).trans (congrArg Value.bool (show t87=true from q90))) rfl a ha).trans hon.symm) (And.intro (fun _=>?_) (fun h=>by rw [hon] at h; cases h))
    have hF := fr_next (fr_next (rfl) (((hf 2 59 (by kernel_rfl) rfl).trans hv2).trans (congrArg Value.bool (show t87=true from q90)))) ((hf 3 60 (by kernel_rfl) rfl).trans hv3)
    refine ls_fr hF ?_
    refine ls_load (a0:=⟨g16,(0+0),none⟩) (v:=.int .i64 t13.1) (de:=(TypeDesc.int .i64)) rfl rfl (by kernel_rfl) rfl (by kernel_rfl) (by kernel_rfl) (by kernel_rfl) (fun w1 hs1=>cell_step hs1.below.bw (hs.var (k:=4) ((hS 4 (by kernel_rfl)).trans (by exact rfl)) (Sub4.trans (Sub4.all _) (Sub4.head _ _)))) ?_
    exact ls_fin s0 _ (congrArg (fun z=>upd z 61 _) hF.symm) ⟨rfl,rfl⟩ (sub_nil _)
   obtain ⟨s86_5,hs86_5⟩ := exv (.agg ⟨([Value.int .i64 t13.1]++([Value.int .i64 t13.2.1]++([Value.int .i64 t13.2.2.1]++([Value.int .u32 t13.2.2.2.1]++en (Value.int .u8) t13.2.2.2.2.1))))⟩)
   refine have_opa shadowboxlaw07_BlockWrites.tab84 5 5 (fun sp=>sp 5=s86_5∧sp 2=s86_2) (fun sp on hA hon=>?_) (fun ops86_5=>?_)
   ·refine ⟨fun o ho vs Rs f' S' w hp hf hx hS hR hs=>?_⟩
    obtain rfl := Option.some.inj ho
    obtain ⟨hv2,hR2⟩ := (spe hA.2 hs86_2 (hp 2 (by kernel_rfl)))
    rw [hA.1,hs86_5]
    refine And.intro (fun a ha=>(want_is (j:=2) (t:=59) (r:=true) rfl rfl (by kernel_rfl) (((hf 2 59 (by kernel_rfl) rfl).trans hv2).trans (congrArg Value.bool (show t87=true from q90))) rfl a ha).trans hon.symm) (And.intro (fun _=>?_) (fun h=>by rw [hon] at h; cases h))
    have hF := fr_next (fr_next (rfl) ((hx 10 (by kernel_rfl)).trans (by kernel_rfl:(_:Value)=.pointer (some ⟨g16,0,none⟩)))) (((hf 2 59 (by kernel_rfl) rfl).trans hv2).trans (congrArg Value.bool (show t87=true from q90)))
    refine ls_fr hF ?_
    refine ls_loadagg (a:=⟨g16,0,none⟩) (sub:=([Value.int .i64 t13.1]++([Value.int .i64 t13.2.1]++([Value.int .i64 t13.2.2.1]++([Value.int .u32 t13.2.2.2.1]++en (Value.int .u8) t13.2.2.2.2.1))))) rfl rfl (by kernel_rfl) rfl (by kernel_rfl) (by kernel_rfl) (by kernel_rfl) (len_app (len1 _) (len_app (len1 _) (len_app (len1 _) (len_app (len1 _) (len_en _ t13.2.2.2.2))))) (fun w1 hs1=>Rd.step (hs.vars (k:=4) ((hS 4 (by kernel_rfl)).trans (by exact rfl)) (Sub4.all _)) hs1.below.bw) ?_
    exact ls_fin s0 _ (congrArg (fun z=>upd z 62 _) hF.symm) ⟨rfl,rfl⟩ (sub_nil _)
   obtain ⟨t91,hc92,H⟩ := bind_some H
   obtain ⟨s86_6,hs86_6⟩:∃ z:Value→Sto→Prop,z=(fun v R=>∃ x93:Unit,v=.int .i64 t91∧R=stl []) := ⟨_,rfl⟩
   refine have_opa shadowboxlaw07_BlockWrites.tab84 5 6 (fun sp=>sp 6=s86_6∧sp 2=s86_2∧sp 5=s86_5) (fun sp on hA hon=>?_) (fun ops86_6=>?_)
   ·refine ⟨fun o ho vs Rs f' S' w hp hf hx hS hR hs=>?_⟩
    obtain rfl := Option.some.inj ho
    obtain ⟨hv2,hR2⟩ := (spe hA.2.1 hs86_2 (hp 2 (by kernel_rfl)))
    obtain ⟨hv5,hR5⟩ := (spe hA.2.2 hs86_5 (hp 5 (by kernel_rfl)))
    rw [hA.1,hs86_6]
    refine And.intro (fun a ha=>(want_is (j:=2) (t:=59) (r:=true) rfl rfl (by kernel_rfl) (((hf 2 59 (by kernel_rfl) rfl).trans hv2).trans (congrArg Value.bool (show t87=true from q90))) rfl a ha).trans hon.symm) (And.intro (fun _=>?_) (fun h=>by rw [hon] at h; cases h))
    have hF := fr_next (fr_next (rfl) (((hf 2 59 (by kernel_rfl) rfl).trans hv2).trans (congrArg Value.bool (show t87=true from q90)))) ((hf 5 62 (by kernel_rfl) rfl).trans hv5)
    refine ls_fr hF ?_
    refine ls_call (fid:=13) (vals:=#[.agg ⟨([Value.int .i64 t13.1]++([Value.int .i64 t13.2.1]++([Value.int .i64 t13.2.2.1]++([Value.int .u32 t13.2.2.2.1]++en (Value.int .u8) t13.2.2.2.2.1))))⟩]) (X:=Unit) (fun x=>.int .i64 t91) (fun x=>stl []) 0 rfl rfl (by kernel_rfl) (fun w=>by kernel_rfl) (fun w1 hs1=>shadowboxref06_Sectors.calls k t13 t91 (bw w1) (St.refl w1)  hc92) ?_
    intro x93
    exact ls_fin (stl []) (.int .i64 t91) (congrArg (fun z=>upd z 63 _) hF.symm) ⟨x93,rfl,rfl⟩ (sub_join _)
   obtain ⟨s86_7,hs86_7⟩ := exv (.int .i64 (IntKind.wrap .i64 (t13.1+t91)))
   refine have_opa shadowboxlaw07_BlockWrites.tab84 5 7 (fun sp=>sp 7=s86_7∧sp 2=s86_2∧sp 4=s86_4∧sp 6=s86_6) (fun sp on hA hon=>?_) (fun ops86_7=>?_)
   ·refine ⟨fun o ho vs Rs f' S' w hp hf hx hS hR hs=>?_⟩
    obtain rfl := Option.some.inj ho
    obtain ⟨hv2,hR2⟩ := (spe hA.2.1 hs86_2 (hp 2 (by kernel_rfl)))
    obtain ⟨hv4,hR4⟩ := (spe hA.2.2.1 hs86_4 (hp 4 (by kernel_rfl)))
    obtain ⟨x93,hv6,hR6⟩ := (spe hA.2.2.2 hs86_6 (hp 6 (by kernel_rfl)))
    rw [hA.1,hs86_7]
    refine And.intro (fun a ha=>(want_is (j:=2) (t:=59) (r:=true) rfl rfl (by kernel_rfl) (((hf 2 59 (by kernel_rfl) rfl).trans hv2).trans (congrArg Value.bool (show t87=true from q90))) rfl a ha).trans hon.symm) (And.intro (fun _=>?_) (fun h=>by rw [hon] at h; cases h))
    have hF := fr_next (fr_next (fr_next (rfl) (((hf 2 59 (by kernel_rfl) rfl).trans hv2).trans (congrArg Value.bool (show t87=true from q90)))) ((hf 4 61 (by kernel_rfl) rfl).trans hv4)) ((hf 6 63 (by kernel_rfl) rfl).trans hv6)
    refine ls_fr hF ?_
    refine lv (.int .i64 (IntKind.wrap .i64 (t13.1+t91))) ?_
    exact ls_fin s0 _ (congrArg (fun z=>upd z 64 _) hF.symm) ⟨rfl,rfl⟩ (sub_nil _)
   obtain ⟨s86_8,hs86_8⟩ := exv (.int .i64 y2)
   refine have_opa shadowboxlaw07_BlockWrites.tab84 5 8 (fun sp=>sp 8=s86_8∧sp 2=s86_2) (fun sp on hA hon=>?_) (fun ops86_8=>?_)
   ·refine ⟨fun o ho vs Rs f' S' w hp hf hx hS hR hs=>?_⟩
    obtain rfl := Option.some.inj ho
    obtain ⟨hv2,hR2⟩ := (spe hA.2 hs86_2 (hp 2 (by kernel_rfl)))
    rw [hA.1,hs86_8]
    refine And.intro (fun a ha=>(want_is (j:=2) (t:=59) (r:=true) rfl rfl (by kernel_rfl) (((hf 2 59 (by kernel_rfl) rfl).trans hv2).trans (congrArg Value.bool (show t87=true from q90))) rfl a ha).trans hon.symm) (And.intro (fun _=>?_) (fun h=>by rw [hon] at h; cases h))
    have hF := fr_next (fr_next (rfl) ((hx 0 (by kernel_rfl)).trans (by kernel_rfl:(_:Value)=.int .i64 y2))) (((hf 2 59 (by kernel_rfl) rfl).trans hv2).trans (congrArg Value.bool (show t87=true from q90)))
    refine ls_fr hF ?_
    refine lv (.int .i64 y2) ?_
    exact ls_fin s0 _ (congrArg (fun z=>upd z 65 _) hF.symm) ⟨rfl,rfl⟩ (sub_nil _)
   refine cs_draw shadowboxlaw07_BlockWrites.tab84 9 5 (spl [s86_0,s86_1,s86_2,s86_3,s86_4,s86_5,s86_6,s86_7,s86_8]) (onl [true,true,true,true,true,true,true,true,true]) (by kernel_rfl) (by kernel_rfl) (by kernel_rfl) (by kernel_rfl) (rs:=[_,_,_]) rfl (by kernel_rfl) (by kernel_rfl) (all_snoc (all_snoc (all_snoc (all_snoc (all_snoc (all_snoc (all_snoc (all_snoc (all_snoc (all_nil) (ops86_0 _ _ rfl rfl)) (ops86_1 _ _ ⟨rfl,rfl⟩ rfl)) (ops86_2 _ _ ⟨rfl,rfl⟩ rfl)) (ops86_3 _ _ ⟨rfl,rfl⟩ rfl)) (ops86_4 _ _ ⟨rfl,rfl,rfl⟩ rfl)) (ops86_5 _ _ ⟨rfl,rfl⟩ rfl)) (ops86_6 _ _ ⟨rfl,rfl,rfl⟩ rfl)) (ops86_7 _ _ ⟨rfl,rfl,rfl,rfl⟩ rfl)) (ops86_8 _ _ ⟨rfl,rfl⟩ rfl)) ?_
   intro vs Rs f' S' hp hf hx hS hR
   obtain ⟨x89,hv1,hR1⟩ := (spe rfl hs86_1 (hp 1 (by kernel_rfl)))
   obtain ⟨hv2,hR2⟩ := (spe rfl hs86_2 (hp 2 (by kernel_rfl)))
   obtain ⟨x93,hv6,hR6⟩ := (spe rfl hs86_6 (hp 6 (by kernel_rfl)))
   obtain ⟨hv7,hR7⟩ := (spe rfl hs86_7 (hp 7 (by kernel_rfl)))
   obtain ⟨hv8,hR8⟩ := (spe rfl hs86_8 (hp 8 (by kernel_rfl)))
   refine ls_fr (F:=upd (upd (upd (upd (upd (upd (upd (upd (upd f' 0 (.int .i64 y2)) 2 (.slice A2_1 l2_1.length c2_1)) 7 (.pointer (some ⟨x6.1,0,none⟩))) 8 (.int .i64 t9.2.1)) 9 (.pointer (some ⟨g12,0,none⟩))) 10 (.pointer (some ⟨g16,0,none⟩))) 59 (.bool t87)) 64 (.int .i64 (IntKind.wrap .i64 (t13.1+t91)))) 65 (.int .i64 y2)) (fr_next (fr_next (fr_next (fr_next (fr_next (fr_next (fr_next (fr_next (fr_next (rfl) ((hx 0 (by kernel_rfl)).trans (by kernel_rfl:(_:Value)=.int .i64 y2))) ((hx 2 (by kernel_rfl)).trans (by kernel_rfl:(_:Value)=.slice A2_1 l2_1.length c2_1))) ((hx 7 (by kernel_rfl)).trans (by kernel_rfl:(_:Value)=.pointer (some ⟨x6.1,0,none⟩)))) ((hx 8 (by kernel_rfl)).trans (by kernel_rfl:(_:Value)=.int .i64 t9.2.1))) ((hx 9 (by kernel_rfl)).trans (by kernel_rfl:(_:Value)=.pointer (some ⟨g12,0,none⟩)))) ((hx 10 (by kernel_rfl)).trans (by kernel_rfl:(_:Value)=.pointer (some ⟨g16,0,none⟩)))) ((hf 2 59 (by kernel_rfl) rfl).trans hv2)) ((hf 7 64 (by kernel_rfl) rfl).trans hv7)) ((hf 8 65 (by kernel_rfl) rfl).trans hv8)) ?_
   refine ls_sub (sput (sput (sput (sput s0 1 (some (Ck.var 42 x6.1 (([Value.slice (some ⟨x6.2.2.1,0,none⟩) x6.2.2.2.2 x6.2.2.2.1]++([Value.map (some x6.2.1)]++([Value.bool t9.2.2.1.2.2.1]++([Value.int .i64 t9.2.2.1.2.2.2.1]++[Value.bool t9.2.2.1.2.2.2.2])))))))) 2 (some (Ck.mr T56 x6.2.1 x6.2.2.1 x6.2.2.2.1 x6.2.2.2.2 t9.2.2.2))) 3 (some (Ck.var 30 g12 (([Value.int .i64 t9.1.1]++([Value.int .i64 t9.1.2.1]++([Value.int .i64 t9.1.2.2.1]++([Value.int .u32 t9.1.2.2.2.1]++en (Value.int .u8) t9.1.2.2.2.2.1)))))))) 4 (some (Ck.var 30 g16 (([Value.int .i64 t13.1]++([Value.int .i64 t13.2.1]++([Value.int .i64 t13.2.2.1]++([Value.int .u32 t13.2.2.2.1]++en (Value.int .u8) t13.2.2.2.2.1)))))))) (sub_put ((hS 4 (by kernel_rfl)).trans (by exact rfl)) (sub_put ((hS 3 (by kernel_rfl)).trans (by exact rfl)) (sub_put ((hS 2 (by kernel_rfl)).trans (by exact rfl)) (sub_put ((hS 1 (by kernel_rfl)).trans (by exact rfl)) (sub_nil _))))) ?_
   refine ls_know (c:=true) (q90) 59 (by kernel_rfl) ?_
   refine ls_on (j:=2) (t:=59) (b:=true) rfl rfl (by kernel_rfl) (by kernel_rfl) ?_
   refine lv (.bool (decide ((IntKind.wrap .i64 (t13.1+t91))≤y2))) ?_
   refine lv (.bool (decide ((IntKind.wrap .i64 (t13.1+t91))≤y2))) ?_
   refine lv (.bool (decide ((IntKind.wrap .i64 (t13.1+t91))≤y2))) ?_
   refine ls_end ?_
   refine qn_meet (sput (sput (sput (sput s0 1 (some (Ck.var 42 x6.1 (([Value.slice (some ⟨x6.2.2.1,0,none⟩) x6.2.2.2.2 x6.2.2.2.1]++([Value.map (some x6.2.1)]++([Value.bool t9.2.2.1.2.2.1]++([Value.int .i64 t9.2.2.1.2.2.2.1]++[Value.bool t9.2.2.1.2.2.2.2])))))))) 2 (some (Ck.mr T56 x6.2.1 x6.2.2.1 x6.2.2.2.1 x6.2.2.2.2 t9.2.2.2))) 3 (some (Ck.var 30 g12 (([Value.int .i64 t9.1.1]++([Value.int .i64 t9.1.2.1]++([Value.int .i64 t9.1.2.2.1]++([Value.int .u32 t9.1.2.2.2.1]++en (Value.int .u8) t9.1.2.2.2.2.1)))))))) 4 (some (Ck.var 30 g16 (([Value.int .i64 t13.1]++([Value.int .i64 t13.2.1]++([Value.int .i64 t13.2.2.1]++([Value.int .u32 t13.2.2.2.1]++en (Value.int .u8) t13.2.2.2.2.1)))))))) ⟨_,(decide ((IntKind.wrap .i64 (t13.1+t91))≤y2)),fr_next (fr_next (fr_next (fr_next (fr_next (fr_next (fr_next (rfl) (by kernel_rfl)) (by kernel_rfl)) (by kernel_rfl)) (by kernel_rfl)) (by kernel_rfl)) (by kernel_rfl)) (by kernel_rfl),rfl,H⟩ (sub_put (by exact rfl) (sub_put (by exact rfl) (sub_put (by exact rfl) (sub_put (by exact rfl) (sub_nil _)))))
  replace H := ite_f q90 H
  refine cs_draw shadowboxlaw07_BlockWrites.tab84 9 5 (spl [s86_0,s86_1,s86_2,spu,spu,spu,spu,spu,spu]) (onl [true,true,true,false,false,false,false,false,false]) (by kernel_rfl) (by kernel_rfl) (by kernel_rfl) (by kernel_rfl) (rs:=[_,_,_]) rfl (by kernel_rfl) (by kernel_rfl) (all_snoc (all_snoc (all_snoc (all_snoc (all_snoc (all_snoc (all_snoc (all_snoc (all_snoc (all_nil) (ops86_0 _ _ rfl rfl)) (ops86_1 _ _ ⟨rfl,rfl⟩ rfl)) (ops86_2 _ _ ⟨rfl,rfl⟩ rfl)) (op_offi 3 2 59 true rfl rfl (by kernel_rfl) (by kernel_rfl) rfl (fun v R h=>by rw [hs86_2] at h; obtain ⟨h,_⟩ := h; exact h.trans (congrArg Value.bool (show t87=false from Bool.eq_false_iff.mpr q90))) rfl rfl)) (op_offi 4 2 59 true rfl rfl (by kernel_rfl) (by kernel_rfl) rfl (fun v R h=>by rw [hs86_2] at h; obtain ⟨h,_⟩ := h; exact h.trans (congrArg Value.bool (show t87=false from Bool.eq_false_iff.mpr q90))) rfl rfl)) (op_offi 5 2 59 true rfl rfl (by kernel_rfl) (by kernel_rfl) rfl (fun v R h=>by rw [hs86_2] at h; obtain ⟨h,_⟩ := h; exact h.trans (congrArg Value.bool (show t87=false from Bool.eq_false_iff.mpr q90))) rfl rfl)) (op_offi 6 2 59 true rfl rfl (by kernel_rfl) (by kernel_rfl) rfl (fun v R h=>by rw [hs86_2] at h; obtain ⟨h,_⟩ := h; exact h.trans (congrArg Value.bool (show t87=false from Bool.eq_false_iff.mpr q90))) rfl rfl)) (op_offi 7 2 59 true rfl rfl (by kernel_rfl) (by kernel_rfl) rfl (fun v R h=>by rw [hs86_2] at h; obtain ⟨h,_⟩ := h; exact h.trans (congrArg Value.bool (show t87=false from Bool.eq_false_iff.mpr q90))) rfl rfl)) (op_offi 8 2 59 true rfl rfl (by kernel_rfl) (by kernel_rfl) rfl (fun v R h=>by rw [hs86_2] at h; obtain ⟨h,_⟩ := h; exact h.trans (congrArg Value.bool (show t87=false from Bool.eq_false_iff.mpr q90))) rfl rfl)) ?_
  intro vs Rs f' S' hp hf hx hS hR
  obtain ⟨x89,hv1,hR1⟩ := (spe rfl hs86_1 (hp 1 (by kernel_rfl)))
  obtain ⟨hv2,hR2⟩ := (spe rfl hs86_2 (hp 2 (by kernel_rfl)))
  obtain ⟨hv7,hR7⟩ := (spe rfl rfl (hp 7 (by kernel_rfl)):spu _ _)
  obtain ⟨hv8,hR8⟩ := (spe rfl rfl (hp 8 (by kernel_rfl)):spu _ _)
  refine ls_fr (F:=upd (upd (upd (upd (upd (upd (upd f' 0 (.int .i64 y2)) 2 (.slice A2_1 l2_1.length c2_1)) 7 (.pointer (some ⟨x6.1,0,none⟩))) 8 (.int .i64 t9.2.1)) 9 (.pointer (some ⟨g12,0,none⟩))) 10 (.pointer (some ⟨g16,0,none⟩))) 59 (.bool t87)) (fr_next (fr_next (fr_next (fr_next (fr_next (fr_next (fr_next (rfl) ((hx 0 (by kernel_rfl)).trans (by kernel_rfl:(_:Value)=.int .i64 y2))) ((hx 2 (by kernel_rfl)).trans (by kernel_rfl:(_:Value)=.slice A2_1 l2_1.length c2_1))) ((hx 7 (by kernel_rfl)).trans (by kernel_rfl:(_:Value)=.pointer (some ⟨x6.1,0,none⟩)))) ((hx 8 (by kernel_rfl)).trans (by kernel_rfl:(_:Value)=.int .i64 t9.2.1))) ((hx 9 (by kernel_rfl)).trans (by kernel_rfl:(_:Value)=.pointer (some ⟨g12,0,none⟩)))) ((hx 10 (by kernel_rfl)).trans (by kernel_rfl:(_:Value)=.pointer (some ⟨g16,0,none⟩)))) ((hf 2 59 (by kernel_rfl) rfl).trans hv2)) ?_
  refine ls_sub (sput (sput (sput (sput s0 1 (some (Ck.var 42 x6.1 (([Value.slice (some ⟨x6.2.2.1,0,none⟩) x6.2.2.2.2 x6.2.2.2.1]++([Value.map (some x6.2.1)]++([Value.bool t9.2.2.1.2.2.1]++([Value.int .i64 t9.2.2.1.2.2.2.1]++[Value.bool t9.2.2.1.2.2.2.2])))))))) 2 (some (Ck.mr T56 x6.2.1 x6.2.2.1 x6.2.2.2.1 x6.2.2.2.2 t9.2.2.2))) 3 (some (Ck.var 30 g12 (([Value.int .i64 t9.1.1]++([Value.int .i64 t9.1.2.1]++([Value.int .i64 t9.1.2.2.1]++([Value.int .u32 t9.1.2.2.2.1]++en (Value.int .u8) t9.1.2.2.2.2.1)))))))) 4 (some (Ck.var 30 g16 (([Value.int .i64 t13.1]++([Value.int .i64 t13.2.1]++([Value.int .i64 t13.2.2.1]++([Value.int .u32 t13.2.2.2.1]++en (Value.int .u8) t13.2.2.2.2.1)))))))) (sub_put ((hS 4 (by kernel_rfl)).trans (by exact rfl)) (sub_put ((hS 3 (by kernel_rfl)).trans (by exact rfl)) (sub_put ((hS 2 (by kernel_rfl)).trans (by exact rfl)) (sub_put ((hS 1 (by kernel_rfl)).trans (by exact rfl)) (sub_nil _))))) ?_
  refine ls_know (c:=false) (Bool.eq_false_iff.mpr q90) 59 (by kernel_rfl) ?_
  refine lofx 2 59 true false ?_
  refine lv (.bool false) ?_
  refine lv (.bool false) ?_
  refine ls_end ?_
  refine qn_meet (sput (sput (sput (sput s0 1 (some (Ck.var 42 x6.1 (([Value.slice (some ⟨x6.2.2.1,0,none⟩) x6.2.2.2.2 x6.2.2.2.1]++([Value.map (some x6.2.1)]++([Value.bool t9.2.2.1.2.2.1]++([Value.int .i64 t9.2.2.1.2.2.2.1]++[Value.bool t9.2.2.1.2.2.2.2])))))))) 2 (some (Ck.mr T56 x6.2.1 x6.2.2.1 x6.2.2.2.1 x6.2.2.2.2 t9.2.2.2))) 3 (some (Ck.var 30 g12 (([Value.int .i64 t9.1.1]++([Value.int .i64 t9.1.2.1]++([Value.int .i64 t9.1.2.2.1]++([Value.int .u32 t9.1.2.2.2.1]++en (Value.int .u8) t9.1.2.2.2.2.1)))))))) 4 (some (Ck.var 30 g16 (([Value.int .i64 t13.1]++([Value.int .i64 t13.2.1]++([Value.int .i64 t13.2.2.1]++([Value.int .u32 t13.2.2.2.1]++en (Value.int .u8) t13.2.2.2.2.1)))))))) ⟨_,false,fr_next (fr_next (fr_next (fr_next (fr_next (fr_next (fr_next (rfl) (by kernel_rfl)) (by kernel_rfl)) (by kernel_rfl)) (by kernel_rfl)) (by kernel_rfl)) (by kernel_rfl)) (by kernel_rfl),rfl,H⟩ (sub_put (by exact rfl) (sub_put (by exact rfl) (sub_put (by exact rfl) (sub_put (by exact rfl) (sub_nil _)))))
 rintro f S ⟨fr3,x11_3,rfl,rfl,H⟩
 replace H:((if x11_3=true then (shadowboxlaw07_BlockWrites.jo4 k y2 l2_1 t9 t13) else (block_Read.f k ((),(),t9.2.2.1.2.2.1,t9.2.2.1.2.2.2.1,t9.2.2.1.2.2.2.2) t9.2.2.2 t13).bind fun t64=>(disk_New.f k (9:Int)).bind fun t67=>(block_Write.f k ((),(),t67.1.1.2.2.1,t67.1.1.2.2.2.1,t67.1.1.2.2.2.2) t67.1.2 (2:Int) (1:Int) ([(120:Int)])).bind fun t71=>(if t9.2.1=(2:Int) then (if ((t9.1.1==(0:Int))&&((t9.1.2.1==(0:Int))&&((t9.1.2.2.1==(0:Int))&&((t9.1.2.2.2.1==(0:Int))&&(t9.1.2.2.2.2.1==(vrep 32 (0:Int)).1)))))=true then (if (t64.1.length:Int)=(0:Int) then (if t64.2=(2:Int) then (disk_Disk_Waiting.f k ((),(),t9.2.2.1.2.2.1,t9.2.2.1.2.2.2.1,t9.2.2.1.2.2.2.2) t9.2.2.2).bind fun t79=>(if t79=(0:Int) then (if t67.2=(0:Int) then (if t71.2.1=(0:Int) then some (decide (t71.1.2.2.1=(1:Int))) else some false) else some false) else some false) else some false) else some false) else some false) else some false)))=some r := H
 refine cs_cut (fun f S=>∃ (fR:Fr),f=upd (upd (upd (upd (upd (upd fR 0 (.int .i64 y2)) 2 (.slice A2_1 l2_1.length c2_1)) 7 (.pointer (some ⟨x6.1,0,none⟩))) 8 (.int .i64 t9.2.1)) 9 (.pointer (some ⟨g12,0,none⟩))) 10 (.pointer (some ⟨g16,0,none⟩))∧S=sput (sput (sput (sput s0 1 (some (Ck.var 42 x6.1 (([Value.slice (some ⟨x6.2.2.1,0,none⟩) x6.2.2.2.2 x6.2.2.2.1]++([Value.map (some x6.2.1)]++([Value.bool t9.2.2.1.2.2.1]++([Value.int .i64 t9.2.2.1.2.2.2.1]++[Value.bool t9.2.2.1.2.2.2.2])))))))) 2 (some (Ck.mr T56 x6.2.1 x6.2.2.1 x6.2.2.2.1 x6.2.2.2.2 t9.2.2.2))) 3 (some (Ck.var 30 g12 (([Value.int .i64 t9.1.1]++([Value.int .i64 t9.1.2.1]++([Value.int .i64 t9.1.2.2.1]++([Value.int .u32 t9.1.2.2.2.1]++en (Value.int .u8) t9.1.2.2.2.2.1)))))))) 4 (some (Ck.var 30 g16 (([Value.int .i64 t13.1]++([Value.int .i64 t13.2.1]++([Value.int .i64 t13.2.2.1]++([Value.int .u32 t13.2.2.2.1]++en (Value.int .u8) t13.2.2.2.2.1)))))))∧shadowboxlaw07_BlockWrites.jo4 k y2 l2_1 t9 t13=some r) ?_ ?_
 ·skip
  refine cs_seq ?_
  refine cs_region (l:=[_,_]) ?_
  refine lv (.bool x11_3) ?_
  refine lv (.bool (!x11_3)) ?_
  refine ls_end ?_
  refine qn_then ?_
  by_cases q63:x11_3=true
  ·replace H := ite_t q63 H
   refine cs_know (c:=false) (congrArg Bool.not (q63)) 69 (by kernel_rfl) ?_
   refine cs_false (by kernel_rfl) ?_
   refine cs_skip' ?_
   refine qn_meet (sput (sput (sput (sput s0 1 (some (Ck.var 42 x6.1 (([Value.slice (some ⟨x6.2.2.1,0,none⟩) x6.2.2.2.2 x6.2.2.2.1]++([Value.map (some x6.2.1)]++([Value.bool t9.2.2.1.2.2.1]++([Value.int .i64 t9.2.2.1.2.2.2.1]++[Value.bool t9.2.2.1.2.2.2.2])))))))) 2 (some (Ck.mr T56 x6.2.1 x6.2.2.1 x6.2.2.2.1 x6.2.2.2.2 t9.2.2.2))) 3 (some (Ck.var 30 g12 (([Value.int .i64 t9.1.1]++([Value.int .i64 t9.1.2.1]++([Value.int .i64 t9.1.2.2.1]++([Value.int .u32 t9.1.2.2.2.1]++en (Value.int .u8) t9.1.2.2.2.2.1)))))))) 4 (some (Ck.var 30 g16 (([Value.int .i64 t13.1]++([Value.int .i64 t13.2.1]++([Value.int .i64 t13.2.2.1]++([Value.int .u32 t13.2.2.2.1]++en (Value.int .u8) t13.2.2.2.2.1)))))))) ⟨_,fr_next (fr_next (fr_next (fr_next (fr_next (fr_next (rfl) (by kernel_rfl)) (by kernel_rfl)) (by kernel_rfl)) (by kernel_rfl)) (by kernel_rfl)) (by kernel_rfl),rfl,H⟩ (sub_put (by exact rfl) (sub_put (by exact rfl) (sub_put (by exact rfl) (sub_put (by exact rfl) (sub_nil _)))))
  replace H := ite_f q63 H
  refine cs_know (c:=true) (congrArg Bool.not (Bool.eq_false_iff.mpr q63)) 69 (by kernel_rfl) ?_
  refine cs_true (by kernel_rfl) ?_
  refine cs_seq ?_
  refine cs_region (l:=[_,_,_,_,_,_,_,_]) ?_
  refine lv (.pointer (some ⟨x6.1,0,none⟩)) ?_
  refine ls_loadagg (a:=⟨g16,0,none⟩) (sub:=([Value.int .i64 t13.1]++([Value.int .i64 t13.2.1]++([Value.int .i64 t13.2.2.1]++([Value.int .u32 t13.2.2.2.1]++en (Value.int .u8) t13.2.2.2.2.1))))) rfl rfl (by kernel_rfl) rfl (by kernel_rfl) (by kernel_rfl) (by kernel_rfl) (len_app (len1 _) (len_app (len1 _) (len_app (len1 _) (len_app (len1 _) (len_en _ t13.2.2.2.2))))) (fun w hs=>(hs.vars (k:=4) (by exact rfl) (Sub4.all _))) ?_
  obtain ⟨t64,hc65,H⟩ := bind_some H
  refine ls_callb (fid:=9) (vals:=#[.pointer (some ⟨x6.1,0,none⟩),.agg ⟨([Value.int .i64 t13.1]++([Value.int .i64 t13.2.1]++([Value.int .i64 t13.2.2.1]++([Value.int .u32 t13.2.2.2.1]++en (Value.int .u8) t13.2.2.2.2.1))))⟩]) (X:=(Option Addr × Nat)) (fun x=>.tuple #[.slice x.1 t64.1.length x.2,.int .i64 t64.2]) (fun x=>stl [Ck.var 42 x6.1 (([Value.slice (some ⟨x6.2.2.1,0,none⟩) x6.2.2.2.2 x6.2.2.2.1]++([Value.map (some x6.2.1)]++([Value.bool t9.2.2.1.2.2.1]++([Value.int .i64 t9.2.2.1.2.2.2.1]++[Value.bool t9.2.2.1.2.2.2.2]))))),Ck.mr T56 x6.2.1 x6.2.2.1 x6.2.2.2.1 x6.2.2.2.2 t9.2.2.2,Ck.sl (Ec.int 5 .u8) x.1 x.2 t64.1]) [1,2] [] [Ck.var 42 x6.1 (([Value.slice (some ⟨x6.2.2.1,0,none⟩) x6.2.2.2.2 x6.2.2.2.1]++([Value.map (some x6.2.1)]++([Value.bool t9.2.2.1.2.2.1]++([Value.int .i64 t9.2.2.1.2.2.2.1]++[Value.bool t9.2.2.1.2.2.2.2]))))),Ck.mr T56 x6.2.1 x6.2.2.1 x6.2.2.2.1 x6.2.2.2.2 t9.2.2.2] [] 5 rfl rfl (by kernel_rfl) (fun w=>by kernel_rfl) ⟨by exact rfl,by exact rfl,trivial⟩ trivial (by decide) (fun w hs hb=>block_Read.calls k x6.1 x6.2.2.1 x6.2.2.2.2 x6.2.2.2.1 x6.2.1 ((),(),t9.2.2.1.2.2.1,t9.2.2.1.2.2.2.1,t9.2.2.1.2.2.2.2) t9.2.2.2 t13 t64 (lent b w [Ck.var 42 x6.1 (([Value.slice (some ⟨x6.2.2.1,0,none⟩) x6.2.2.2.2 x6.2.2.2.1]++([Value.map (some x6.2.1)]++([Value.bool t9.2.2.1.2.2.1]++([Value.int .i64 t9.2.2.1.2.2.2.1]++[Value.bool t9.2.2.1.2.2.2.2]))))),Ck.mr T56 x6.2.1 x6.2.2.1 x6.2.2.2.1 x6.2.2.2.2 t9.2.2.2] []) hb  hc65) ?_
  intro x66
  refine lv (.tuple #[.slice x66.1 t64.1.length x66.2,.int .i64 t64.2]) ?_
  refine lv (.slice x66.1 t64.1.length x66.2) ?_
  refine lv (.int .i64 t64.2) ?_
  refine lv (.slice x66.1 t64.1.length x66.2) ?_
  refine lv (.int .i64 t64.2) ?_
  refine ls_end ?_
  refine qn_then ?_
  refine cs_seq ?_
  refine cs_region (l:=[_,_,_,_,_,_]) ?_
  obtain ⟨t67,hc68,H⟩ := bind_some H
  refine ls_callb (fid:=6) (vals:=#[.int .i64 (9:Int)]) (X:=Nat × Nat × Nat × Nat × Nat) (fun x=>.tuple #[.pointer (some ⟨x.1,0,none⟩),.int .i64 t67.2]) (fun x=>stl [Ck.var 42 x.1 (([Value.slice (some ⟨x.2.2.1,0,none⟩) x.2.2.2.2 x.2.2.2.1]++([Value.map (some x.2.1)]++([Value.bool t67.1.1.2.2.1]++([Value.int .i64 t67.1.1.2.2.2.1]++[Value.bool t67.1.1.2.2.2.2]))))),Ck.mr T56 x.2.1 x.2.2.1 x.2.2.2.1 x.2.2.2.2 t67.1.2]) [] [] [] [] 6 rfl rfl (by kernel_rfl) (fun w=>by kernel_rfl) trivial trivial (by decide) (fun w hs hb=>disk_New.calls k (9:Int) t67 (lent b w [] []) hb  hc68) ?_
  intro x69
  refine lv (.tuple #[.pointer (some ⟨x69.1,0,none⟩),.int .i64 t67.2]) ?_
  refine lv (.pointer (some ⟨x69.1,0,none⟩)) ?_
  refine lv (.int .i64 t67.2) ?_
  refine lv (.pointer (some ⟨x69.1,0,none⟩)) ?_
  refine lv (.int .i64 t67.2) ?_
  refine ls_end ?_
  refine qn_then ?_
  refine cs_seq ?_
  refine cs_region (l:=[_,_,_,_,_,_,_,_,_,_]) ?_
  refine lv (.pointer (some ⟨x69.1,0,none⟩)) ?_
  refine ls_lit (Ec.int 5 .u8) 8 rfl rfl (by kernel_rfl) ([(120:Int)]) (by exact of_decide_eq_true (by kernel_rfl)) (fun w=>by kernel_rfl) ?_
  intro g70
  refine ls_conv (g:=g70) (l:=([(120:Int)])) (e:=5) 8 rfl rfl (by kernel_rfl) rfl (by kernel_rfl) (by kernel_rfl) (by kernel_rfl) (by exact rfl) ?_
  obtain ⟨t71,hc72,H⟩ := bind_some H
  refine ls_callb (fid:=7) (vals:=#[.pointer (some ⟨x69.1,0,none⟩),.int .i64 (2:Int),.int .i64 (1:Int),.slice (some ⟨g70,0,none⟩) ([(120:Int)]).length [(120:Int)].length]) (X:=Unit) (fun x=>.tuple #[.agg ⟨([Value.int .i64 t71.1.1]++([Value.int .i64 t71.1.2.1]++([Value.int .i64 t71.1.2.2.1]++([Value.int .u32 t71.1.2.2.2.1]++en (Value.int .u8) t71.1.2.2.2.2.1))))⟩,.int .i64 t71.2.1]) (fun x=>stl [Ck.var 42 x69.1 (([Value.slice (some ⟨x69.2.2.1,0,none⟩) x69.2.2.2.2 x69.2.2.2.1]++([Value.map (some x69.2.1)]++([Value.bool t71.2.2.1.2.2.1]++([Value.int .i64 t71.2.2.1.2.2.2.1]++[Value.bool t71.2.2.1.2.2.2.2]))))),Ck.mr T56 x69.2.1 x69.2.2.1 x69.2.2.2.1 x69.2.2.2.2 t71.2.2.2]) [6,7] [8] [Ck.var 42 x69.1 (([Value.slice (some ⟨x69.2.2.1,0,none⟩) x69.2.2.2.2 x69.2.2.2.1]++([Value.map (some x69.2.1)]++([Value.bool t67.1.1.2.2.1]++([Value.int .i64 t67.1.1.2.2.2.1]++[Value.bool t67.1.1.2.2.2.2]))))),Ck.mr T56 x69.2.1 x69.2.2.1 x69.2.2.2.1 x69.2.2.2.2 t67.1.2] [Ck.rs g70 (em (Ec.int 5 .u8) ([(120:Int)]))] 9 rfl rfl (by kernel_rfl) (fun w=>by kernel_rfl) ⟨by exact rfl,by exact rfl,trivial⟩ ⟨by exact rfl,trivial⟩ (by decide) (fun w hs hb=>block_Write.calls k x69.1 x69.2.2.1 x69.2.2.2.2 x69.2.2.2.1 x69.2.1 ((),(),t67.1.1.2.2.1,t67.1.1.2.2.2.1,t67.1.1.2.2.2.2) t67.1.2 (2:Int) (1:Int) (some ⟨g70,0,none⟩) ([(120:Int)].length) ([(120:Int)]) t71 (lent b w [Ck.var 42 x69.1 (([Value.slice (some ⟨x69.2.2.1,0,none⟩) x69.2.2.2.2 x69.2.2.2.1]++([Value.map (some x69.2.1)]++([Value.bool t67.1.1.2.2.1]++([Value.int .i64 t67.1.1.2.2.2.1]++[Value.bool t67.1.1.2.2.2.2]))))),Ck.mr T56 x69.2.1 x69.2.2.1 x69.2.2.2.1 x69.2.2.2.2 t67.1.2] [Ck.rs g70 (em (Ec.int 5 .u8) ([(120:Int)]))]) hb (Rd.ror (hs.rs (k:=8) (by exact rfl)) (.head _) Ck.rs_key) (Nat.le_refl _) hc72) ?_
  intro x73
  refine lv (.tuple #[.agg ⟨([Value.int .i64 t71.1.1]++([Value.int .i64 t71.1.2.1]++([Value.int .i64 t71.1.2.2.1]++([Value.int .u32 t71.1.2.2.2.1]++en (Value.int .u8) t71.1.2.2.2.2.1))))⟩,.int .i64 t71.2.1]) ?_
  refine lv (.agg ⟨([Value.int .i64 t71.1.1]++([Value.int .i64 t71.1.2.1]++([Value.int .i64 t71.1.2.2.1]++([Value.int .u32 t71.1.2.2.2.1]++en (Value.int .u8) t71.1.2.2.2.2.1))))⟩) ?_
  refine lv (.int .i64 t71.2.1) ?_
  refine ls_new rfl rfl (by kernel_rfl) 9 (fun g=>.pointer (some ⟨g,0,none⟩)) (.cells ⟨([Value.int .i64 (0:Int)]++([Value.int .i64 (0:Int)]++([Value.int .i64 (0:Int)]++([Value.int .u32 (0:Int)]++en (Value.int .u8) (vrep 32 (0:Int)).1))))⟩ 30) (fun w=>by kernel_rfl) ?_
  intro g74
  refine ls_storec (g:=g74) (off:=0) (v:=.agg ⟨([Value.int .i64 t71.1.1]++([Value.int .i64 t71.1.2.1]++([Value.int .i64 t71.1.2.2.1]++([Value.int .u32 t71.1.2.2.2.1]++en (Value.int .u8) t71.1.2.2.2.2.1))))⟩) (vs:=([Value.int .i64 t71.1.1]++([Value.int .i64 t71.1.2.1]++([Value.int .i64 t71.1.2.2.1]++([Value.int .u32 t71.1.2.2.2.1]++en (Value.int .u8) t71.1.2.2.2.2.1))))) (cs:=([Value.int .i64 (0:Int)]++([Value.int .i64 (0:Int)]++([Value.int .i64 (0:Int)]++([Value.int .u32 (0:Int)]++en (Value.int .u8) (vrep 32 (0:Int)).1))))) (ty:=30) 9 rfl rfl rfl (by kernel_rfl) (by kernel_rfl) (by kernel_rfl) (by exact rfl) (by kernel_rfl) (len_app (len1 _) (len_app (len1 _) (len_app (len1 _) (len_app (len1 _) (len_en _ t71.1.2.2.2.2))))) (one_app (one_cons rfl one_nil) (one_app (one_cons rfl one_nil) (one_app (one_cons rfl one_nil) (one_app (one_cons rfl one_nil) (one_en (fun _=>rfl) _))))) (hl_of (Sub4.all _) (len_eq (len_app (len1 _) (len_app (len1 _) (len_app (len1 _) (len_app (len1 _) (len_en _ t71.1.2.2.2.2))))) (len_app (len1 _) (len_app (len1 _) (len_app (len1 _) (len_app (len1 _) (len_en _ (vrep 32 (0:Int))))))))) (cs' := ([Value.int .i64 t71.1.1]++([Value.int .i64 t71.1.2.1]++([Value.int .i64 t71.1.2.2.1]++([Value.int .u32 t71.1.2.2.2.1]++en (Value.int .u8) t71.1.2.2.2.2.1))))) (splc_all (len_eq (len_app (len1 _) (len_app (len1 _) (len_app (len1 _) (len_app (len1 _) (len_en _ t71.1.2.2.2.2))))) (len_app (len1 _) (len_app (len1 _) (len_app (len1 _) (len_app (len1 _) (len_en _ (vrep 32 (0:Int))))))))) ?_
  refine lv (.int .i64 t71.2.1) ?_
  refine ls_end ?_
  refine qn_then ?_
  refine cs_seq ?_
  refine cs_region (l:=[_,_,_,_,_,_,_,_,_,_,_,_,_,_,_,_,_,_,_,_,_,_,_,_,_,_,_,_,_,_,_,_,_,_,_]) ?_
  refine lv (.int .i64 t9.2.1) ?_
  refine lv (.bool (decide (t9.2.1=(2:Int)))) ?_
  refine lv (.bool (decide (t9.2.1=(2:Int)))) ?_
  by_cases q75:t9.2.1=(2:Int)
  ·replace H := ite_t q75 H
   refine ls_know (c:=true) (dec_t q75) 89 (by kernel_rfl) ?_
   refine ls_on (j:=2) (t:=89) (b:=true) rfl rfl (by kernel_rfl) (by kernel_rfl) ?_
   refine ls_loadagg (a:=⟨g12,0,none⟩) (sub:=([Value.int .i64 t9.1.1]++([Value.int .i64 t9.1.2.1]++([Value.int .i64 t9.1.2.2.1]++([Value.int .u32 t9.1.2.2.2.1]++en (Value.int .u8) t9.1.2.2.2.2.1))))) rfl rfl (by kernel_rfl) rfl (by kernel_rfl) (by kernel_rfl) (by kernel_rfl) (len_app (len1 _) (len_app (len1 _) (len_app (len1 _) (len_app (len1 _) (len_en _ t9.1.2.2.2.2))))) (fun w hs=>(hs.vars (k:=3) (by exact rfl) (Sub4.all _))) ?_
   refine ls_on (j:=2) (t:=89) (b:=true) rfl rfl (by kernel_rfl) (by kernel_rfl) ?_
   refine ls_build (ps:=[]) (pl:=#[(0,1),(1,1),(2,1),(3,1),(4,32)]) (zv:=.agg ⟨([Value.int .i64 (0:Int)]++([Value.int .i64 (0:Int)]++([Value.int .i64 (0:Int)]++([Value.int .u32 (0:Int)]++en (Value.int .u8) (vrep 32 (0:Int)).1))))⟩) (zc:=([Value.int .i64 (0:Int)]++([Value.int .i64 (0:Int)]++([Value.int .i64 (0:Int)]++([Value.int .u32 (0:Int)]++en (Value.int .u8) (vrep 32 (0:Int)).1))))) (r:=([Value.int .i64 (0:Int)]++([Value.int .i64 (0:Int)]++([Value.int .i64 (0:Int)]++([Value.int .u32 (0:Int)]++en (Value.int .u8) (vrep 32 (0:Int)).1))))) rfl rfl (by kernel_rfl) rfl (by kernel_rfl) (by kernel_rfl) (fun w=>by kernel_rfl) (fun w=>by kernel_rfl) rfl fill_nil ?_
   refine ls_on (j:=2) (t:=89) (b:=true) rfl rfl (by kernel_rfl) (by kernel_rfl) ?_
   refine ls_eql (xs:=([Value.int .i64 t9.1.1]++([Value.int .i64 t9.1.2.1]++([Value.int .i64 t9.1.2.2.1]++([Value.int .u32 t9.1.2.2.2.1]++en (Value.int .u8) t9.1.2.2.2.2.1))))) (ys:=([Value.int .i64 (0:Int)]++([Value.int .i64 (0:Int)]++([Value.int .i64 (0:Int)]++([Value.int .u32 (0:Int)]++en (Value.int .u8) (vrep 32 (0:Int)).1))))) (r:=((t9.1.1==(0:Int))&&((t9.1.2.1==(0:Int))&&((t9.1.2.2.1==(0:Int))&&((t9.1.2.2.2.1==(0:Int))&&(t9.1.2.2.2.2.1==(vrep 32 (0:Int)).1)))))) rfl rfl (by kernel_rfl) rfl (by kernel_rfl) (by kernel_rfl) (by kernel_rfl) (eq_st (by kernel_rfl) (by kernel_rfl) (eqf_cons (ft:=3) (fo:=0) (by kernel_rfl) (part_one (by kernel_rfl) (Sub4.trans (Sub4.all _) (Sub4.head _ _))) (part_one (by kernel_rfl) (Sub4.trans (Sub4.all _) (Sub4.head _ _))) (eq_int (by kernel_rfl) _ _ _) (eqf_cons (ft:=3) (fo:=1) (by kernel_rfl) (part_one (by kernel_rfl) (Sub4.trans (Sub4.all _) (Sub4.skip (n:=1) (len1 _) (Sub4.head _ _)))) (part_one (by kernel_rfl) (Sub4.trans (Sub4.all _) (Sub4.skip (n:=1) (len1 _) (Sub4.head _ _)))) (eq_int (by kernel_rfl) _ _ _) (eqf_cons (ft:=3) (fo:=2) (by kernel_rfl) (part_one (by kernel_rfl) (Sub4.trans (Sub4.all _) (Sub4.skip (n:=1) (len1 _) (Sub4.skip (n:=1) (len1 _) (Sub4.head _ _))))) (part_one (by kernel_rfl) (Sub4.trans (Sub4.all _) (Sub4.skip (n:=1) (len1 _) (Sub4.skip (n:=1) (len1 _) (Sub4.head _ _))))) (eq_int (by kernel_rfl) _ _ _) (eqf_cons (ft:=23) (fo:=3) (by kernel_rfl) (part_one (by kernel_rfl) (Sub4.trans (Sub4.all _) (Sub4.skip (n:=1) (len1 _) (Sub4.skip (n:=1) (len1 _) (Sub4.skip (n:=1) (len1 _) (Sub4.head _ _)))))) (part_one (by kernel_rfl) (Sub4.trans (Sub4.all _) (Sub4.skip (n:=1) (len1 _) (Sub4.skip (n:=1) (len1 _) (Sub4.skip (n:=1) (len1 _) (Sub4.head _ _)))))) (eq_int (by kernel_rfl) _ _ _) (eqf_last (ft:=28) (fo:=4) (by kernel_rfl) (part_agg (by kernel_rfl) (by kernel_rfl) (len_en _ t9.1.2.2.2.2) (Sub4.trans (Sub4.all _) (Sub4.skip (n:=1) (len1 _) (Sub4.skip (n:=1) (len1 _) (Sub4.skip (n:=1) (len1 _) (Sub4.skip (n:=1) (len1 _) (Sub4.all _))))))) (part_agg (by kernel_rfl) (by kernel_rfl) (len_en _ (vrep 32 (0:Int))) (Sub4.trans (Sub4.all _) (Sub4.skip (n:=1) (len1 _) (Sub4.skip (n:=1) (len1 _) (Sub4.skip (n:=1) (len1 _) (Sub4.skip (n:=1) (len1 _) (Sub4.all _))))))) (eq_ints (e:=5) (ln:=32) (by kernel_rfl) (by kernel_rfl) (by kernel_rfl) t9.1.2.2.2.2.2 (vrep 32 (0:Int)).2 _) (by kernel_rfl))))))) ?_
   refine lv (.bool ((t9.1.1==(0:Int))&&((t9.1.2.1==(0:Int))&&((t9.1.2.2.1==(0:Int))&&((t9.1.2.2.2.1==(0:Int))&&(t9.1.2.2.2.2.1==(vrep 32 (0:Int)).1)))))) ?_
   refine lv (.bool ((t9.1.1==(0:Int))&&((t9.1.2.1==(0:Int))&&((t9.1.2.2.1==(0:Int))&&((t9.1.2.2.2.1==(0:Int))&&(t9.1.2.2.2.2.1==(vrep 32 (0:Int)).1)))))) ?_
   by_cases q76:((t9.1.1==(0:Int))&&((t9.1.2.1==(0:Int))&&((t9.1.2.2.1==(0:Int))&&((t9.1.2.2.2.1==(0:Int))&&(t9.1.2.2.2.2.1==(vrep 32 (0:Int)).1)))))=true
   ·replace H := ite_t q76 H
    refine ls_know (c:=true) (q76) 94 (by kernel_rfl) ?_
    refine ls_on (j:=7) (t:=94) (b:=true) rfl rfl (by kernel_rfl) (by kernel_rfl) ?_
    refine lv (.slice x66.1 t64.1.length x66.2) ?_
    refine ls_on (j:=7) (t:=94) (b:=true) rfl rfl (by kernel_rfl) (by kernel_rfl) ?_
    refine lv (.int .i64 (t64.1.length:Int)) ?_
    refine ls_on (j:=7) (t:=94) (b:=true) rfl rfl (by kernel_rfl) (by kernel_rfl) ?_
    refine lv (.bool (decide ((t64.1.length:Int)=(0:Int)))) ?_
    refine lv (.bool (decide ((t64.1.length:Int)=(0:Int)))) ?_
    refine lv (.bool (decide ((t64.1.length:Int)=(0:Int)))) ?_
    by_cases q77:(t64.1.length:Int)=(0:Int)
    ·replace H := ite_t q77 H
     refine ls_know (c:=true) (dec_t q77) 99 (by kernel_rfl) ?_
     refine ls_on (j:=12) (t:=99) (b:=true) rfl rfl (by kernel_rfl) (by kernel_rfl) ?_
     refine lv (.int .i64 t64.2) ?_
     refine ls_on (j:=12) (t:=99) (b:=true) rfl rfl (by kernel_rfl) (by kernel_rfl) ?_
     refine lv (.bool (decide (t64.2=(2:Int)))) ?_
     refine lv (.bool (decide (t64.2=(2:Int)))) ?_
     refine lv (.bool (decide (t64.2=(2:Int)))) ?_
     by_cases q78:t64.2=(2:Int)
     ·replace H := ite_t q78 H
      refine ls_know (c:=true) (dec_t q78) 103 (by kernel_rfl) ?_
      refine ls_on (j:=16) (t:=103) (b:=true) rfl rfl (by kernel_rfl) (by kernel_rfl) ?_
      refine lv (.pointer (some ⟨x6.1,0,none⟩)) ?_
      refine ls_on (j:=16) (t:=103) (b:=true) rfl rfl (by kernel_rfl) (by kernel_rfl) ?_
      obtain ⟨t79,hc80,H⟩ := bind_some H
      refine ls_callb (fid:=14) (vals:=#[.pointer (some ⟨x6.1,0,none⟩)]) (X:=Unit) (fun x=>.int .i64 t79) (fun x=>stl [Ck.var 42 x6.1 (([Value.slice (some ⟨x6.2.2.1,0,none⟩) x6.2.2.2.2 x6.2.2.2.1]++([Value.map (some x6.2.1)]++([Value.bool t9.2.2.1.2.2.1]++([Value.int .i64 t9.2.2.1.2.2.2.1]++[Value.bool t9.2.2.1.2.2.2.2]))))),Ck.mr T56 x6.2.1 x6.2.2.1 x6.2.2.2.1 x6.2.2.2.2 t9.2.2.2]) [1,2] [] [Ck.var 42 x6.1 (([Value.slice (some ⟨x6.2.2.1,0,none⟩) x6.2.2.2.2 x6.2.2.2.1]++([Value.map (some x6.2.1)]++([Value.bool t9.2.2.1.2.2.1]++([Value.int .i64 t9.2.2.1.2.2.2.1]++[Value.bool t9.2.2.1.2.2.2.2]))))),Ck.mr T56 x6.2.1 x6.2.2.1 x6.2.2.2.1 x6.2.2.2.2 t9.2.2.2] [] 10 rfl rfl (by kernel_rfl) (fun w=>by kernel_rfl) ⟨by exact rfl,by exact rfl,trivial⟩ trivial (by decide) (fun w hs hb=>disk_Disk_Waiting.calls k x6.1 x6.2.2.1 x6.2.2.2.2 x6.2.2.2.1 x6.2.1 ((),(),t9.2.2.1.2.2.1,t9.2.2.1.2.2.2.1,t9.2.2.1.2.2.2.2) t9.2.2.2 t79 (lent b w [Ck.var 42 x6.1 (([Value.slice (some ⟨x6.2.2.1,0,none⟩) x6.2.2.2.2 x6.2.2.2.1]++([Value.map (some x6.2.1)]++([Value.bool t9.2.2.1.2.2.1]++([Value.int .i64 t9.2.2.1.2.2.2.1]++[Value.bool t9.2.2.1.2.2.2.2]))))),Ck.mr T56 x6.2.1 x6.2.2.1 x6.2.2.2.1 x6.2.2.2.2 t9.2.2.2] []) hb  hc80) ?_
      intro x81
      refine ls_on (j:=16) (t:=103) (b:=true) rfl rfl (by kernel_rfl) (by kernel_rfl) ?_
      refine lv (.bool (decide (t79=(0:Int)))) ?_
      refine lv (.bool (decide (t79=(0:Int)))) ?_
      refine lv (.bool (decide (t79=(0:Int)))) ?_
      by_cases q82:t79=(0:Int)
      ·replace H := ite_t q82 H
       refine ls_know (c:=true) (dec_t q82) 108 (by kernel_rfl) ?_
       refine ls_on (j:=21) (t:=108) (b:=true) rfl rfl (by kernel_rfl) (by kernel_rfl) ?_
       refine lv (.int .i64 t67.2) ?_
       refine ls_on (j:=21) (t:=108) (b:=true) rfl rfl (by kernel_rfl) (by kernel_rfl) ?_
       refine lv (.bool (decide (t67.2=(0:Int)))) ?_
       refine lv (.bool (decide (t67.2=(0:Int)))) ?_
       refine lv (.bool (decide (t67.2=(0:Int)))) ?_
       by_cases q83:t67.2=(0:Int)
       ·replace H := ite_t q83 H
        refine ls_know (c:=true) (dec_t q83) 112 (by kernel_rfl) ?_
        refine ls_on (j:=25) (t:=112) (b:=true) rfl rfl (by kernel_rfl) (by kernel_rfl) ?_
        refine lv (.int .i64 t71.2.1) ?_
        refine ls_on (j:=25) (t:=112) (b:=true) rfl rfl (by kernel_rfl) (by kernel_rfl) ?_
        refine lv (.bool (decide (t71.2.1=(0:Int)))) ?_
        refine lv (.bool (decide (t71.2.1=(0:Int)))) ?_
        refine lv (.bool (decide (t71.2.1=(0:Int)))) ?_
        by_cases q84:t71.2.1=(0:Int)
        ·replace H := ite_t q84 H
         refine ls_know (c:=true) (dec_t q84) 116 (by kernel_rfl) ?_
         refine ls_on (j:=29) (t:=116) (b:=true) rfl rfl (by kernel_rfl) (by kernel_rfl) ?_
         refine lv (.pointer (some ⟨g74,(0+2),none⟩)) ?_
         refine ls_on (j:=29) (t:=116) (b:=true) rfl rfl (by kernel_rfl) (by kernel_rfl) ?_
         refine ls_load (a0:=⟨g74,(0+2),none⟩) (v:=.int .i64 t71.1.2.2.1) (de:=(TypeDesc.int .i64)) rfl rfl (by kernel_rfl) rfl (by kernel_rfl) (by kernel_rfl) (by kernel_rfl) (fun w hs=>(hs.var (k:=9) (by exact rfl) (Sub4.trans (Sub4.all _) (Sub4.skip (n:=1) (len1 _) (Sub4.skip (n:=1) (len1 _) (Sub4.head _ _)))))) ?_
         refine ls_on (j:=29) (t:=116) (b:=true) rfl rfl (by kernel_rfl) (by kernel_rfl) ?_
         refine lv (.bool (decide (t71.1.2.2.1=(1:Int)))) ?_
         refine lv (.bool (decide (t71.1.2.2.1=(1:Int)))) ?_
         refine lv (.bool (decide (t71.1.2.2.1=(1:Int)))) ?_
         refine ls_end ?_
         refine qn_then ?_
         refine cs_ret' ?_
         refine qr_then ?_
         obtain rfl := Option.some.inj H
         refine qr_res (rs:=[_]) rfl (fun w' hs=>⟨[.bool (decide (t71.1.2.2.1=(1:Int)))],(res_tmp (by kernel_rfl) (.nil)),(),rfl,hs.pick (ts:=[]) (cs:=[]) trivial (by decide)⟩)
        replace H := ite_f q84 H
        refine ls_know (c:=false) (dec_f q84) 116 (by kernel_rfl) ?_
        refine lofx 29 116 true false ?_
        refine lofx 29 116 true false ?_
        refine lofx 29 116 true false ?_
        refine lv (.bool false) ?_
        refine lv (.bool false) ?_
        refine ls_end ?_
        refine qn_then ?_
        refine cs_ret' ?_
        refine qr_then ?_
        obtain rfl := Option.some.inj H
        refine qr_res (rs:=[_]) rfl (fun w' hs=>⟨[.bool false],(res_tmp (by kernel_rfl) (.nil)),(),rfl,hs.pick (ts:=[]) (cs:=[]) trivial (by decide)⟩)
       replace H := ite_f q83 H
       refine ls_know (c:=false) (dec_f q83) 112 (by kernel_rfl) ?_
       refine lofx 25 112 true false ?_
       refine lofx 25 112 true false ?_
       refine lv (.bool false) ?_
       refine lv (.bool false) ?_
       refine lofx 29 116 true false ?_
       refine lofx 29 116 true false ?_
       refine lofx 29 116 true false ?_
       refine lv (.bool false) ?_
       refine lv (.bool false) ?_
       refine ls_end ?_
       refine qn_then ?_
       refine cs_ret' ?_
       refine qr_then ?_
       obtain rfl := Option.some.inj H
       refine qr_res (rs:=[_]) rfl (fun w' hs=>⟨[.bool false],(res_tmp (by kernel_rfl) (.nil)),(),rfl,hs.pick (ts:=[]) (cs:=[]) trivial (by decide)⟩)
      replace H := ite_f q82 H
      refine ls_know (c:=false) (dec_f q82) 108 (by kernel_rfl) ?_
      refine lofx 21 108 true false ?_
      refine lofx 21 108 true false ?_
      refine lv (.bool false) ?_
      refine lv (.bool false) ?_
      refine lofx 25 112 true false ?_
      refine lofx 25 112 true false ?_
      refine lv (.bool false) ?_
      refine lv (.bool false) ?_
      refine lofx 29 116 true false ?_
      refine lofx 29 116 true false ?_
      refine lofx 29 116 true false ?_
      refine lv (.bool false) ?_
      refine lv (.bool false) ?_
      refine ls_end ?_
      refine qn_then ?_
      refine cs_ret' ?_
      refine qr_then ?_
      obtain rfl := Option.some.inj H
      refine qr_res (rs:=[_]) rfl (fun w' hs=>⟨[.bool false],(res_tmp (by kernel_rfl) (.nil)),(),rfl,hs.pick (ts:=[]) (cs:=[]) trivial (by decide)⟩)
     replace H := ite_f q78 H
     refine ls_know (c:=false) (dec_f q78) 103 (by kernel_rfl) ?_
     refine lofx 16 103 true false ?_
     refine lofx 16 103 true false ?_
     refine lofx 16 103 true false ?_
     refine lv (.bool false) ?_
     refine lv (.bool false) ?_
     refine lofx 21 108 true false ?_
     refine lofx 21 108 true false ?_
     refine lv (.bool false) ?_
     refine lv (.bool false) ?_
     refine lofx 25 112 true false ?_
     refine lofx 25 112 true false ?_
     refine lv (.bool false) ?_
     refine lv (.bool false) ?_
     refine lofx 29 116 true false ?_
     refine lofx 29 116 true false ?_
     refine lofx 29 116 true false ?_
     refine lv (.bool false) ?_
     refine lv (.bool false) ?_
     refine ls_end ?_
     refine qn_then ?_
     refine cs_ret' ?_
     refine qr_then ?_
     obtain rfl := Option.some.inj H
     refine qr_res (rs:=[_]) rfl (fun w' hs=>⟨[.bool false],(res_tmp (by kernel_rfl) (.nil)),(),rfl,hs.pick (ts:=[]) (cs:=[]) trivial (by decide)⟩)
    replace H := ite_f q77 H
    refine ls_know (c:=false) (dec_f q77) 99 (by kernel_rfl) ?_
    refine lofx 12 99 true false ?_
    refine lofx 12 99 true false ?_
    refine lv (.bool false) ?_
    refine lv (.bool false) ?_
    refine lofx 16 103 true false ?_
    refine lofx 16 103 true false ?_
    refine lofx 16 103 true false ?_
    refine lv (.bool false) ?_
    refine lv (.bool false) ?_
    refine lofx 21 108 true false ?_
    refine lofx 21 108 true false ?_
    refine lv (.bool false) ?_
    refine lv (.bool false) ?_
    refine lofx 25 112 true false ?_
    refine lofx 25 112 true false ?_
    refine lv (.bool false) ?_
    refine lv (.bool false) ?_
    refine lofx 29 116 true false ?_
    refine lofx 29 116 true false ?_
    refine lofx 29 116 true false ?_
    refine lv (.bool false) ?_
    refine lv (.bool false) ?_
    refine ls_end ?_
    refine qn_then ?_
    refine cs_ret' ?_
    refine qr_then ?_
    obtain rfl := Option.some.inj H
    refine qr_res (rs:=[_]) rfl (fun w' hs=>⟨[.bool false],(res_tmp (by kernel_rfl) (.nil)),(),rfl,hs.pick (ts:=[]) (cs:=[]) trivial (by decide)⟩)
   replace H := ite_f q76 H
   refine ls_know (c:=false) (Bool.eq_false_iff.mpr q76) 94 (by kernel_rfl) ?_
   refine lofx 7 94 true false ?_
   refine lofx 7 94 true false ?_
   refine lofx 7 94 true false ?_
   refine lv (.bool false) ?_
   refine lv (.bool false) ?_
   refine lofx 12 99 true false ?_
   refine lofx 12 99 true false ?_
   refine lv (.bool false) ?_
   refine lv (.bool false) ?_
   refine lofx 16 103 true false ?_
   refine lofx 16 103 true false ?_
   refine lofx 16 103 true false ?_
   refine lv (.bool false) ?_
   refine lv (.bool false) ?_
   refine lofx 21 108 true false ?_
   refine lofx 21 108 true false ?_
   refine lv (.bool false) ?_
   refine lv (.bool false) ?_
   refine lofx 25 112 true false ?_
   refine lofx 25 112 true false ?_
   refine lv (.bool false) ?_
   refine lv (.bool false) ?_
   refine lofx 29 116 true false ?_
   refine lofx 29 116 true false ?_
   refine lofx 29 116 true false ?_
   refine lv (.bool false) ?_
   refine lv (.bool false) ?_
   refine ls_end ?_
   refine qn_then ?_
   refine cs_ret' ?_
   refine qr_then ?_
   obtain rfl := Option.some.inj H
   refine qr_res (rs:=[_]) rfl (fun w' hs=>⟨[.bool false],(res_tmp (by kernel_rfl) (.nil)),(),rfl,hs.pick (ts:=[]) (cs:=[]) trivial (by decide)⟩)
  replace H := ite_f q75 H
  refine ls_know (c:=false) (dec_f q75) 89 (by kernel_rfl) ?_
  refine lofx 2 89 true false ?_
  refine lofx 2 89 true false ?_
  refine lofx 2 89 true false ?_
  refine lv (.bool false) ?_
  refine lv (.bool false) ?_
  refine lofx 7 94 true false ?_
  refine lofx 7 94 true false ?_
  refine lofx 7 94 true false ?_
  refine lv (.bool false) ?_
  refine lv (.bool false) ?_
  refine lofx 12 99 true false ?_
  refine lofx 12 99 true false ?_
  refine lv (.bool false) ?_
  refine lv (.bool false) ?_
  refine lofx 16 103 true false ?_
  refine lofx 16 103 true false ?_
  refine lofx 16 103 true false ?_
  refine lv (.bool false) ?_
  refine lv (.bool false) ?_
  refine lofx 21 108 true false ?_
  refine lofx 21 108 true false ?_
  refine lv (.bool false) ?_
  refine lv (.bool false) ?_
  refine lofx 25 112 true false ?_
  refine lofx 25 112 true false ?_
  refine lv (.bool false) ?_
  refine lv (.bool false) ?_
  refine lofx 29 116 true false ?_
  refine lofx 29 116 true false ?_
  refine lofx 29 116 true false ?_
  refine lv (.bool false) ?_
  refine lv (.bool false) ?_
  refine ls_end ?_
  refine qn_then ?_
  refine cs_ret' ?_
  refine qr_then ?_
  obtain rfl := Option.some.inj H
  refine qr_res (rs:=[_]) rfl (fun w' hs=>⟨[.bool false],(res_tmp (by kernel_rfl) (.nil)),(),rfl,hs.pick (ts:=[]) (cs:=[]) trivial (by decide)⟩)
 rintro f S ⟨fr4,rfl,rfl,H⟩
 replace H:((block_Read.f k ((),(),t9.2.2.1.2.2.1,t9.2.2.1.2.2.2.1,t9.2.2.1.2.2.2.2) t9.2.2.2 t9.1).bind fun t17=>(if t9.2.1=(0:Int) then (if ((t9.1.1==t13.1)&&((t9.1.2.1==t13.2.1)&&((t9.1.2.2.1==t13.2.2.1)&&((t9.1.2.2.2.1==t13.2.2.2.1)&&(t9.1.2.2.2.2.1==t13.2.2.2.2.1)))))=true then (if t17.2=(0:Int) then (if ((strOfNums t17.1).toList==(strOfNums l2_1).toList)=true then (disk_Disk_Waiting.f k ((),(),t9.2.2.1.2.2.1,t9.2.2.1.2.2.2.1,t9.2.2.1.2.2.2.2) t9.2.2.2).bind fun t56=>(shadowboxref06_Sectors.f k t13).bind fun t59=>(if t56=t59 then (shadowboxlaw07_BlockWrites.jo5 k y2 l2_1 t9 t13) else some false) else some false) else some false) else some false) else some false))=some r := H
 refine cs_seq ?_
 refine cs_region (l:=[_,_,_,_,_,_,_,_]) ?_
 refine lv (.pointer (some ⟨x6.1,0,none⟩)) ?_
 refine ls_loadagg (a:=⟨g12,0,none⟩) (sub:=([Value.int .i64 t9.1.1]++([Value.int .i64 t9.1.2.1]++([Value.int .i64 t9.1.2.2.1]++([Value.int .u32 t9.1.2.2.2.1]++en (Value.int .u8) t9.1.2.2.2.2.1))))) rfl rfl (by kernel_rfl) rfl (by kernel_rfl) (by kernel_rfl) (by kernel_rfl) (len_app (len1 _) (len_app (len1 _) (len_app (len1 _) (len_app (len1 _) (len_en _ t9.1.2.2.2.2))))) (fun w hs=>(hs.vars (k:=3) (by exact rfl) (Sub4.all _))) ?_
 obtain ⟨t17,hc18,H⟩ := bind_some H
 refine ls_callb (fid:=9) (vals:=#[.pointer (some ⟨x6.1,0,none⟩),.agg ⟨([Value.int .i64 t9.1.1]++([Value.int .i64 t9.1.2.1]++([Value.int .i64 t9.1.2.2.1]++([Value.int .u32 t9.1.2.2.2.1]++en (Value.int .u8) t9.1.2.2.2.2.1))))⟩]) (X:=(Option Addr × Nat)) (fun x=>.tuple #[.slice x.1 t17.1.length x.2,.int .i64 t17.2]) (fun x=>stl [Ck.var 42 x6.1 (([Value.slice (some ⟨x6.2.2.1,0,none⟩) x6.2.2.2.2 x6.2.2.2.1]++([Value.map (some x6.2.1)]++([Value.bool t9.2.2.1.2.2.1]++([Value.int .i64 t9.2.2.1.2.2.2.1]++[Value.bool t9.2.2.1.2.2.2.2]))))),Ck.mr T56 x6.2.1 x6.2.2.1 x6.2.2.2.1 x6.2.2.2.2 t9.2.2.2,Ck.sl (Ec.int 5 .u8) x.1 x.2 t17.1]) [1,2] [] [Ck.var 42 x6.1 (([Value.slice (some ⟨x6.2.2.1,0,none⟩) x6.2.2.2.2 x6.2.2.2.1]++([Value.map (some x6.2.1)]++([Value.bool t9.2.2.1.2.2.1]++([Value.int .i64 t9.2.2.1.2.2.2.1]++[Value.bool t9.2.2.1.2.2.2.2]))))),Ck.mr T56 x6.2.1 x6.2.2.1 x6.2.2.2.1 x6.2.2.2.2 t9.2.2.2] [] 5 rfl rfl (by kernel_rfl) (fun w=>by kernel_rfl) ⟨by exact rfl,by exact rfl,trivial⟩ trivial (by decide) (fun w hs hb=>block_Read.calls k x6.1 x6.2.2.1 x6.2.2.2.2 x6.2.2.2.1 x6.2.1 ((),(),t9.2.2.1.2.2.1,t9.2.2.1.2.2.2.1,t9.2.2.1.2.2.2.2) t9.2.2.2 t9.1 t17 (lent b w [Ck.var 42 x6.1 (([Value.slice (some ⟨x6.2.2.1,0,none⟩) x6.2.2.2.2 x6.2.2.2.1]++([Value.map (some x6.2.1)]++([Value.bool t9.2.2.1.2.2.1]++([Value.int .i64 t9.2.2.1.2.2.2.1]++[Value.bool t9.2.2.1.2.2.2.2]))))),Ck.mr T56 x6.2.1 x6.2.2.1 x6.2.2.2.1 x6.2.2.2.2 t9.2.2.2] []) hb  hc18) ?_
 intro x19
 refine lv (.tuple #[.slice x19.1 t17.1.length x19.2,.int .i64 t17.2]) ?_
 refine lv (.slice x19.1 t17.1.length x19.2) ?_
 refine lv (.int .i64 t17.2) ?_
 refine lv (.slice x19.1 t17.1.length x19.2) ?_
 refine lv (.int .i64 t17.2) ?_
 refine ls_end ?_
 refine qn_then ?_
 refine cs_cut (fun f S=>∃ (fR:Fr),f=upd (upd (upd (upd fR 0 (.int .i64 y2)) 2 (.slice A2_1 l2_1.length c2_1)) 7 (.pointer (some ⟨x6.1,0,none⟩))) 10 (.pointer (some ⟨g16,0,none⟩))∧S=sput (sput (sput s0 1 (some (Ck.var 42 x6.1 (([Value.slice (some ⟨x6.2.2.1,0,none⟩) x6.2.2.2.2 x6.2.2.2.1]++([Value.map (some x6.2.1)]++([Value.bool t9.2.2.1.2.2.1]++([Value.int .i64 t9.2.2.1.2.2.2.1]++[Value.bool t9.2.2.1.2.2.2.2])))))))) 2 (some (Ck.mr T56 x6.2.1 x6.2.2.1 x6.2.2.2.1 x6.2.2.2.2 t9.2.2.2))) 4 (some (Ck.var 30 g16 (([Value.int .i64 t13.1]++([Value.int .i64 t13.2.1]++([Value.int .i64 t13.2.2.1]++([Value.int .u32 t13.2.2.2.1]++en (Value.int .u8) t13.2.2.2.2.1)))))))∧shadowboxlaw07_BlockWrites.jo5 k y2 l2_1 t9 t13=some r) ?_ ?_
 ·skip
  refine cs_seq ?_
  by_cases q52:t9.2.1=(0:Int)
  ·replace H := ite_t q52 H
   by_cases q53:((t9.1.1==t13.1)&&((t9.1.2.1==t13.2.1)&&((t9.1.2.2.1==t13.2.2.1)&&((t9.1.2.2.2.1==t13.2.2.2.1)&&(t9.1.2.2.2.2.1==t13.2.2.2.2.1)))))=true
   ·replace H := ite_t q53 H
    by_cases q54:t17.2=(0:Int)
    ·replace H := ite_t q54 H
     by_cases q55:((strOfNums t17.1).toList==(strOfNums l2_1).toList)=true
     ·replace H := ite_t q55 H
      obtain ⟨t56,hc57,H⟩ := bind_some H
      refine cs_sub (sput (sput (sput (sput (sput s0 1 (some (Ck.var 42 x6.1 (([Value.slice (some ⟨x6.2.2.1,0,none⟩) x6.2.2.2.2 x6.2.2.2.1]++([Value.map (some x6.2.1)]++([Value.bool t9.2.2.1.2.2.1]++([Value.int .i64 t9.2.2.1.2.2.2.1]++[Value.bool t9.2.2.1.2.2.2.2])))))))) 2 (some (Ck.mr T56 x6.2.1 x6.2.2.1 x6.2.2.2.1 x6.2.2.2.2 t9.2.2.2))) 3 (some (Ck.var 30 g12 (([Value.int .i64 t9.1.1]++([Value.int .i64 t9.1.2.1]++([Value.int .i64 t9.1.2.2.1]++([Value.int .u32 t9.1.2.2.2.1]++en (Value.int .u8) t9.1.2.2.2.2.1)))))))) 4 (some (Ck.var 30 g16 (([Value.int .i64 t13.1]++([Value.int .i64 t13.2.1]++([Value.int .i64 t13.2.2.1]++([Value.int .u32 t13.2.2.2.1]++en (Value.int .u8) t13.2.2.2.2.1)))))))) 5 (some (Ck.sl (Ec.int 5 .u8) x19.1 x19.2 t17.1))) (sub_put (by exact rfl) (sub_put (by exact rfl) (sub_put (by exact rfl) (sub_put (by exact rfl) (sub_put (by exact rfl) (sub_nil _)))))) ?_
      refine cs_chain (l:=[_,_,_,_,_,_,_,_,_,_,_,_,_,_,_,_,_,_,_,_,_,_,_,_,_]) [[],[0],[0,1],[0,1,2],[0,1,2],[0,1,2,3,4],[0,1,2,3,4,5],[0,1,2,3,4,5,6],[0,1,2,3,4,5,6,7],[0,1,2,3,4,5,6,7,8],[0,1,2,3,4,5,6,7,8,9],[0,1,2,3,4,5,6,7,8,9,10],[0,1,2,3,4,5,6,7,8,9,10,11],[0,1,2,3,4,5,6,7,8,9,10,11,12],[0,1,2,3,4,5,6,7,8,9,10,11],[0,1,2,3,4,5,6,7,8,9,10,11,14],[0,1,2,3,4,5,6,7,8,9,10,11,12,13,14,15],[0,1,2,3,4,5,6,7,8,9,10,11,12,13,14,15,16],[0,1,2,3,4,5,6,7,8,9,10,11,12,13,14,15,16,17],[0,1,2,3,4,5,6,7,8,9,10,11,12,13,14,15,16,17,18],[0,1,2,3,4,5,6,7,8,9,10,11,12,13,14,15,16,17,18,19],[0,1,2,3,4,5,6,7,8,9,10,11,12,13,14,15,16,17,18],[0,1,2,3,4,5,6,7,8,9,10,11,12,13,14,15,16,17,18,19,20,21],[0,1,2,3,4,5,6,7,8,9,10,11,12,13,14,15,16,17,18,19,20,21,22],[0,1,2,3,4,5,6,7,8,9,10,11,12,13,14,15,16,17,18,19,20,21,22,23]] 22 (fun u=>[1,2,3,4,5].contains u) (efl [false,false,false,false,false,false,false,false,false,false,false,false,false,false,false,false,false,false,false,false,true,false]) (pvl [.val (.int .i64 t9.2.1),.val (.bool false),.val (.bool false),.val (.agg ⟨([Value.int .i64 t9.1.1]++([Value.int .i64 t9.1.2.1]++([Value.int .i64 t9.1.2.2.1]++([Value.int .u32 t9.1.2.2.2.1]++en (Value.int .u8) t9.1.2.2.2.2.1))))⟩),.val (.agg ⟨([Value.int .i64 t13.1]++([Value.int .i64 t13.2.1]++([Value.int .i64 t13.2.2.1]++([Value.int .u32 t13.2.2.2.1]++en (Value.int .u8) t13.2.2.2.2.1))))⟩),.val (.bool false),.val (.bool false),.val (.bool false),.val (.int .i64 t17.2),.val (.bool false),.val (.bool false),.val (.bool false),.val (.slice x19.1 t17.1.length x19.2),.val (.string (strOfNums t17.1)),.val (.slice A2_1 l2_1.length c2_1),.val (.string (strOfNums l2_1)),.val (.bool false),.val (.bool false),.val (.bool false),.val (.pointer (some ⟨x6.1,0,none⟩)),.val (.int .i64 t56),.val (.agg ⟨([Value.int .i64 t13.1]++([Value.int .i64 t13.2.1]++([Value.int .i64 t13.2.2.1]++([Value.int .u32 t13.2.2.2.1]++en (Value.int .u8) t13.2.2.2.2.1))))⟩)]) (Esl [fun (es:Nat→Value) (S':Sto)=>S'=sput (sput (sput (sput (sput s0 1 (some (Ck.var 42 x6.1 (([Value.slice (some ⟨x6.2.2.1,0,none⟩) x6.2.2.2.2 x6.2.2.2.1]++([Value.map (some x6.2.1)]++([Value.bool t9.2.2.1.2.2.1]++([Value.int .i64 t9.2.2.1.2.2.2.1]++[Value.bool t9.2.2.1.2.2.2.2])))))))) 2 (some (Ck.mr T56 x6.2.1 x6.2.2.1 x6.2.2.2.1 x6.2.2.2.2 t9.2.2.2))) 3 (some (Ck.var 30 g12 (([Value.int .i64 t9.1.1]++([Value.int .i64 t9.1.2.1]++([Value.int .i64 t9.1.2.2.1]++([Value.int .u32 t9.1.2.2.2.1]++en (Value.int .u8) t9.1.2.2.2.2.1)))))))) 4 (some (Ck.var 30 g16 (([Value.int .i64 t13.1]++([Value.int .i64 t13.2.1]++([Value.int .i64 t13.2.2.1]++([Value.int .u32 t13.2.2.2.1]++en (Value.int .u8) t13.2.2.2.2.1)))))))) 5 (some (Ck.sl (Ec.int 5 .u8) x19.1 x19.2 t17.1)),fun (es:Nat→Value) (S':Sto)=>∃ (x58:Unit),es 20=.int .i64 t56∧S'=sput (sput (sput (sput (sput s0 1 (some (Ck.var 42 x6.1 (([Value.slice (some ⟨x6.2.2.1,0,none⟩) x6.2.2.2.2 x6.2.2.2.1]++([Value.map (some x6.2.1)]++([Value.bool t9.2.2.1.2.2.1]++([Value.int .i64 t9.2.2.1.2.2.2.1]++[Value.bool t9.2.2.1.2.2.2.2])))))))) 2 (some (Ck.mr T56 x6.2.1 x6.2.2.1 x6.2.2.2.1 x6.2.2.2.2 t9.2.2.2))) 3 (some (Ck.var 30 g12 (([Value.int .i64 t9.1.1]++([Value.int .i64 t9.1.2.1]++([Value.int .i64 t9.1.2.2.1]++([Value.int .u32 t9.1.2.2.2.1]++en (Value.int .u8) t9.1.2.2.2.2.1)))))))) 4 (some (Ck.var 30 g16 (([Value.int .i64 t13.1]++([Value.int .i64 t13.2.1]++([Value.int .i64 t13.2.2.1]++([Value.int .u32 t13.2.2.2.1]++en (Value.int .u8) t13.2.2.2.2.1)))))))) 5 (some (Ck.sl (Ec.int 5 .u8) x19.1 x19.2 t17.1))] [0,0,0,0,0,0,0,0,0,0,0,0,0,0,0,0,0,0,0,0,0,0,1]) (nxl [0,0,0,0,0,0,0,0,0,0,0,0,0,0,0,0,0,0,0,0,22,0]) (onl [true,true,true,true,true,true,true,true,true,true,true,true,true,true,true,true,true,true,true,true,true,true]) 20 (by kernel_rfl) (by kernel_rfl) (by kernel_rfl) (by kernel_rfl) (by kernel_rfl) (rs:=[_,_,_]) rfl (by kernel_rfl) (by kernel_rfl) (fun es=>?_) ?_ ?_
      ·exact (rfl:sput (sput (sput (sput (sput s0 1 (some (Ck.var 42 x6.1 (([Value.slice (some ⟨x6.2.2.1,0,none⟩) x6.2.2.2.2 x6.2.2.2.1]++([Value.map (some x6.2.1)]++([Value.bool t9.2.2.1.2.2.1]++([Value.int .i64 t9.2.2.1.2.2.2.1]++[Value.bool t9.2.2.1.2.2.2.2])))))))) 2 (some (Ck.mr T56 x6.2.1 x6.2.2.1 x6.2.2.2.1 x6.2.2.2.2 t9.2.2.2))) 3 (some (Ck.var 30 g12 (([Value.int .i64 t9.1.1]++([Value.int .i64 t9.1.2.1]++([Value.int .i64 t9.1.2.2.1]++([Value.int .u32 t9.1.2.2.2.1]++en (Value.int .u8) t9.1.2.2.2.2.1)))))))) 4 (some (Ck.var 30 g16 (([Value.int .i64 t13.1]++([Value.int .i64 t13.2.1]++([Value.int .i64 t13.2.2.1]++([Value.int .u32 t13.2.2.2.1]++en (Value.int .u8) t13.2.2.2.2.1)))))))) 5 (some (Ck.sl (Ec.int 5 .u8) x19.1 x19.2 t17.1))=sput (sput (sput (sput (sput s0 1 (some (Ck.var 42 x6.1 (([Value.slice (some ⟨x6.2.2.1,0,none⟩) x6.2.2.2.2 x6.2.2.2.1]++([Value.map (some x6.2.1)]++([Value.bool t9.2.2.1.2.2.1]++([Value.int .i64 t9.2.2.1.2.2.2.1]++[Value.bool t9.2.2.1.2.2.2.2])))))))) 2 (some (Ck.mr T56 x6.2.1 x6.2.2.1 x6.2.2.2.1 x6.2.2.2.2 t9.2.2.2))) 3 (some (Ck.var 30 g12 (([Value.int .i64 t9.1.1]++([Value.int .i64 t9.1.2.1]++([Value.int .i64 t9.1.2.2.1]++([Value.int .u32 t9.1.2.2.2.1]++en (Value.int .u8) t9.1.2.2.2.2.1)))))))) 4 (some (Ck.var 30 g16 (([Value.int .i64 t13.1]++([Value.int .i64 t13.2.1]++([Value.int .i64 t13.2.2.1]++([Value.int .u32 t13.2.2.2.1]++en (Value.int .u8) t13.2.2.2.2.1)))))))) 5 (some (Ck.sl (Ec.int 5 .u8) x19.1 x19.2 t17.1)))
      ·refine all_snoc (all_snoc (all_snoc (all_snoc (all_snoc (all_snoc (all_snoc (all_snoc (all_snoc (all_snoc (all_snoc (all_snoc (all_snoc (all_snoc (all_snoc (all_snoc (all_snoc (all_snoc (all_snoc (all_snoc (all_snoc (all_snoc (all_nil) ?_) ?_) ?_) ?_) ?_) ?_) ?_) ?_) ?_) ?_) ?_) ?_) ?_) ?_) ?_) ?_) ?_) ?_) ?_) ?_) ?_) ?_
       ·refine ⟨fun o ho es vs f' S' hve hvp hf hx hK hE=>?_⟩
        obtain rfl := Option.some.inj ho
        refine ⟨want_none rfl,fun _ _=>?_,(fun _ h=>by cases h),(fun h _=>by cases h),(fun h _=>by cases h)⟩
        have hF := fr_next (rfl) ((hx 8 (by kernel_rfl)).trans (by kernel_rfl:(_:Value)=.int .i64 t9.2.1))
        refine ls_fr hF ?_
        refine lv (.int .i64 t9.2.1) ?_
        exact ls_finp (.int .i64 t9.2.1) (congrArg (fun z=>upd z 127 _) hF.symm) rfl
       ·refine ⟨fun o ho es vs f' S' hve hvp hf hx hK hE=>?_⟩
        obtain rfl := Option.some.inj ho
        refine ⟨want_none rfl,fun _ _=>?_,(fun _ h=>by cases h),(fun h _=>by cases h),(fun h _=>by cases h)⟩
        have hF := fr_next (rfl) ((hf 0 127 (by kernel_rfl) rfl).trans (show vs 0=.int .i64 t9.2.1 from hvp 0 (by kernel_rfl)))
        refine ls_fr hF ?_
        refine lv (.bool (!decide (t9.2.1=(0:Int)))) ?_
        refine ls_ren 128 (v:=.bool (!decide (t9.2.1=(0:Int)))) (v' := .bool false) (by kernel_rfl) (congrArg Value.bool (show (!decide (t9.2.1=(0:Int)))=false from congrArg Bool.not (dec_t q52))) ?_
        exact ls_finp (.bool false) ((upd_upd _ _ _ _).trans (congrArg (fun z=>upd z 128 _) hF.symm)) rfl
       ·refine ⟨fun o ho es vs f' S' hve hvp hf hx hK hE=>?_⟩
        obtain rfl := Option.some.inj ho
        refine ⟨want_none rfl,fun _ _=>?_,(fun _ h=>by cases h),(fun h _=>by cases h),(fun h _=>by cases h)⟩
        have hF := fr_next (rfl) ((hf 1 128 (by kernel_rfl) rfl).trans (show vs 1=.bool false from hvp 1 (by kernel_rfl)))
        refine ls_fr hF ?_
        refine lv (.bool false) ?_
        exact ls_finp (.bool false) (congrArg (fun z=>upd z 129 _) hF.symm) rfl
       ·refine ⟨fun o ho es vs f' S' hve hvp hf hx hK hE=>?_⟩
        obtain rfl := Option.some.inj ho
        refine ⟨want_is (j:=2) (t:=129) rfl rfl (by kernel_rfl) ((hf 2 129 (by kernel_rfl) rfl).trans (show vs 2=.bool false from hvp 2 (by kernel_rfl))) rfl,fun _ _=>?_,(fun _ h=>by cases h),(fun h _=>by cases h),(fun h _=>by cases h)⟩
        have hF := fr_next (fr_next (rfl) ((hx 9 (by kernel_rfl)).trans (by kernel_rfl:(_:Value)=.pointer (some ⟨g12,0,none⟩)))) ((hf 2 129 (by kernel_rfl) rfl).trans (show vs 2=.bool false from hvp 2 (by kernel_rfl)))
        refine ls_fr hF ?_
        refine ls_loadagg (a:=⟨g12,0,none⟩) (sub:=([Value.int .i64 t9.1.1]++([Value.int .i64 t9.1.2.1]++([Value.int .i64 t9.1.2.2.1]++([Value.int .u32 t9.1.2.2.2.1]++en (Value.int .u8) t9.1.2.2.2.2.1))))) rfl rfl (by kernel_rfl) rfl (by kernel_rfl) (by kernel_rfl) (by kernel_rfl) (len_app (len1 _) (len_app (len1 _) (len_app (len1 _) (len_app (len1 _) (len_en _ t9.1.2.2.2.2))))) (fun w hs=>(hs.vars (k:=3) ((hK 3 (by rfl)).trans (by exact rfl)) (Sub4.all _))) ?_
        exact ls_finp (.agg ⟨([Value.int .i64 t9.1.1]++([Value.int .i64 t9.1.2.1]++([Value.int .i64 t9.1.2.2.1]++([Value.int .u32 t9.1.2.2.2.1]++en (Value.int .u8) t9.1.2.2.2.2.1))))⟩) (congrArg (fun z=>upd z 130 _) hF.symm) rfl
       ·refine ⟨fun o ho es vs f' S' hve hvp hf hx hK hE=>?_⟩
        obtain rfl := Option.some.inj ho
        refine ⟨want_is (j:=2) (t:=129) rfl rfl (by kernel_rfl) ((hf 2 129 (by kernel_rfl) rfl).trans (show vs 2=.bool false from hvp 2 (by kernel_rfl))) rfl,fun _ _=>?_,(fun _ h=>by cases h),(fun h _=>by cases h),(fun h _=>by cases h)⟩
        have hF := fr_next (fr_next (rfl) ((hx 10 (by kernel_rfl)).trans (by kernel_rfl:(_:Value)=.pointer (some ⟨g16,0,none⟩)))) ((hf 2 129 (by kernel_rfl) rfl).trans (show vs 2=.bool false from hvp 2 (by kernel_rfl)))
        refine ls_fr hF ?_
        refine ls_loadagg (a:=⟨g16,0,none⟩) (sub:=([Value.int .i64 t13.1]++([Value.int .i64 t13.2.1]++([Value.int .i64 t13.2.2.1]++([Value.int .u32 t13.2.2.2.1]++en (Value.int .u8) t13.2.2.2.2.1))))) rfl rfl (by kernel_rfl) rfl (by kernel_rfl) (by kernel_rfl) (by kernel_rfl) (len_app (len1 _) (len_app (len1 _) (len_app (len1 _) (len_app (len1 _) (len_en _ t13.2.2.2.2))))) (fun w hs=>(hs.vars (k:=4) ((hK 4 (by rfl)).trans (by exact rfl)) (Sub4.all _))) ?_
        exact ls_finp (.agg ⟨([Value.int .i64 t13.1]++([Value.int .i64 t13.2.1]++([Value.int .i64 t13.2.2.1]++([Value.int .u32 t13.2.2.2.1]++en (Value.int .u8) t13.2.2.2.2.1))))⟩) (congrArg (fun z=>upd z 131 _) hF.symm) rfl
       ·refine ⟨fun o ho es vs f' S' hve hvp hf hx hK hE=>?_⟩
        obtain rfl := Option.some.inj ho
        refine ⟨want_is (j:=2) (t:=129) rfl rfl (by kernel_rfl) ((hf 2 129 (by kernel_rfl) rfl).trans (show vs 2=.bool false from hvp 2 (by kernel_rfl))) rfl,fun _ _=>?_,(fun _ h=>by cases h),(fun h _=>by cases h),(fun h _=>by cases h)⟩
        have hF := fr_next (fr_next (fr_next (rfl) ((hf 2 129 (by kernel_rfl) rfl).trans (show vs 2=.bool false from hvp 2 (by kernel_rfl)))) ((hf 3 130 (by kernel_rfl) rfl).trans (show vs 3=.agg ⟨([Value.int .i64 t9.1.1]++([Value.int .i64 t9.1.2.1]++([Value.int .i64 t9.1.2.2.1]++([Value.int .u32 t9.1.2.2.2.1]++en (Value.int .u8) t9.1.2.2.2.2.1))))⟩ from hvp 3 (by kernel_rfl)))) ((hf 4 131 (by kernel_rfl) rfl).trans (show vs 4=.agg ⟨([Value.int .i64 t13.1]++([Value.int .i64 t13.2.1]++([Value.int .i64 t13.2.2.1]++([Value.int .u32 t13.2.2.2.1]++en (Value.int .u8) t13.2.2.2.2.1))))⟩ from hvp 4 (by kernel_rfl)))
        refine ls_fr hF ?_
        refine ls_neq (xs:=([Value.int .i64 t9.1.1]++([Value.int .i64 t9.1.2.1]++([Value.int .i64 t9.1.2.2.1]++([Value.int .u32 t9.1.2.2.2.1]++en (Value.int .u8) t9.1.2.2.2.2.1))))) (ys:=([Value.int .i64 t13.1]++([Value.int .i64 t13.2.1]++([Value.int .i64 t13.2.2.1]++([Value.int .u32 t13.2.2.2.1]++en (Value.int .u8) t13.2.2.2.2.1))))) (r:=((t9.1.1==t13.1)&&((t9.1.2.1==t13.2.1)&&((t9.1.2.2.1==t13.2.2.1)&&((t9.1.2.2.2.1==t13.2.2.2.1)&&(t9.1.2.2.2.2.1==t13.2.2.2.2.1)))))) rfl rfl (by kernel_rfl) rfl (by kernel_rfl) (by kernel_rfl) (by kernel_rfl) (eq_st (by kernel_rfl) (by kernel_rfl) (eqf_cons (ft:=3) (fo:=0) (by kernel_rfl) (part_one (by kernel_rfl) (Sub4.trans (Sub4.all _) (Sub4.head _ _))) (part_one (by kernel_rfl) (Sub4.trans (Sub4.all _) (Sub4.head _ _))) (eq_int (by kernel_rfl) _ _ _) (eqf_cons (ft:=3) (fo:=1) (by kernel_rfl) (part_one (by kernel_rfl) (Sub4.trans (Sub4.all _) (Sub4.skip (n:=1) (len1 _) (Sub4.head _ _)))) (part_one (by kernel_rfl) (Sub4.trans (Sub4.all _) (Sub4.skip (n:=1) (len1 _) (Sub4.head _ _)))) (eq_int (by kernel_rfl) _ _ _) (eqf_cons (ft:=3) (fo:=2) (by kernel_rfl) (part_one (by kernel_rfl) (Sub4.trans (Sub4.all _) (Sub4.skip (n:=1) (len1 _) (Sub4.skip (n:=1) (len1 _) (Sub4.head _ _))))) (part_one (by kernel_rfl) (Sub4.trans (Sub4.all _) (Sub4.skip (n:=1) (len1 _) (Sub4.skip (n:=1) (len1 _) (Sub4.head _ _))))) (eq_int (by kernel_rfl) _ _ _) (eqf_cons (ft:=23) (fo:=3) (by kernel_rfl) (part_one (by kernel_rfl) (Sub4.trans (Sub4.all _) (Sub4.skip (n:=1) (len1 _) (Sub4.skip (n:=1) (len1 _) (Sub4.skip (n:=1) (len1 _) (Sub4.head _ _)))))) (part_one (by kernel_rfl) (Sub4.trans (Sub4.all _) (Sub4.skip (n:=1) (len1 _) (Sub4.skip (n:=1) (len1 _) (Sub4.skip (n:=1) (len1 _) (Sub4.head _ _)))))) (eq_int (by kernel_rfl) _ _ _) (eqf_last (ft:=28) (fo:=4) (by kernel_rfl) (part_agg (by kernel_rfl) (by kernel_rfl) (len_en _ t9.1.2.2.2.2) (Sub4.trans (Sub4.all _) (Sub4.skip (n:=1) (len1 _) (Sub4.skip (n:=1) (len1 _) (Sub4.skip (n:=1) (len1 _) (Sub4.skip (n:=1) (len1 _) (Sub4.all _))))))) (part_agg (by kernel_rfl) (by kernel_rfl) (len_en _ t13.2.2.2.2) (Sub4.trans (Sub4.all _) (Sub4.skip (n:=1) (len1 _) (Sub4.skip (n:=1) (len1 _) (Sub4.skip (n:=1) (len1 _) (Sub4.skip (n:=1) (len1 _) (Sub4.all _))))))) (eq_ints (e:=5) (ln:=32) (by kernel_rfl) (by kernel_rfl) (by kernel_rfl) t9.1.2.2.2.2.2 t13.2.2.2.2.2 _) (by kernel_rfl))))))) ?_
        refine ls_ren 132 (v:=.bool (!((t9.1.1==t13.1)&&((t9.1.2.1==t13.2.1)&&((t9.1.2.2.1==t13.2.2.1)&&((t9.1.2.2.2.1==t13.2.2.2.1)&&(t9.1.2.2.2.2.1==t13.2.2.2.2.1))))))) (v' := .bool false) (by kernel_rfl) (congrArg Value.bool (show (!((t9.1.1==t13.1)&&((t9.1.2.1==t13.2.1)&&((t9.1.2.2.1==t13.2.2.1)&&((t9.1.2.2.2.1==t13.2.2.2.1)&&(t9.1.2.2.2.2.1==t13.2.2.2.2.1))))))=false from congrArg Bool.not (q53))) ?_
        exact ls_finp (.bool false) ((upd_upd _ _ _ _).trans (congrArg (fun z=>upd z 132 _) hF.symm)) rfl
       ·refine ⟨fun o ho es vs f' S' hve hvp hf hx hK hE=>?_⟩
        obtain rfl := Option.some.inj ho
        refine ⟨want_none rfl,fun _ _=>?_,(fun _ h=>by cases h),(fun h _=>by cases h),(fun h _=>by cases h)⟩
        have hF := fr_next (fr_next (rfl) ((hf 2 129 (by kernel_rfl) rfl).trans (show vs 2=.bool false from hvp 2 (by kernel_rfl)))) ((hf 5 132 (by kernel_rfl) rfl).trans (show vs 5=.bool false from hvp 5 (by kernel_rfl)))
        refine ls_fr hF ?_
        refine lv (.bool false) ?_
        exact ls_finp (.bool false) (congrArg (fun z=>upd z 133 _) hF.symm) rfl
       ·refine ⟨fun o ho es vs f' S' hve hvp hf hx hK hE=>?_⟩
        obtain rfl := Option.some.inj ho
        refine ⟨want_none rfl,fun _ _=>?_,(fun _ h=>by cases h),(fun h _=>by cases h),(fun h _=>by cases h)⟩
        have hF := fr_next (rfl) ((hf 6 133 (by kernel_rfl) rfl).trans (show vs 6=.bool false from hvp 6 (by kernel_rfl)))
        refine ls_fr hF ?_
        refine lv (.bool false) ?_
        exact ls_finp (.bool false) (congrArg (fun z=>upd z 134 _) hF.symm) rfl
       ·refine ⟨fun o ho es vs f' S' hve hvp hf hx hK hE=>?_⟩
        obtain rfl := Option.some.inj ho
        refine ⟨want_is (j:=7) (t:=134) rfl rfl (by kernel_rfl) ((hf 7 134 (by kernel_rfl) rfl).trans (show vs 7=.bool false from hvp 7 (by kernel_rfl))) rfl,fun _ _=>?_,(fun _ h=>by cases h),(fun h _=>by cases h),(fun h _=>by cases h)⟩
        have hF := fr_next (fr_next (rfl) ((hx 19 (by kernel_rfl)).trans (by kernel_rfl:(_:Value)=.int .i64 t17.2))) ((hf 7 134 (by kernel_rfl) rfl).trans (show vs 7=.bool false from hvp 7 (by kernel_rfl)))
        refine ls_fr hF ?_
        refine lv (.int .i64 t17.2) ?_
        exact ls_finp (.int .i64 t17.2) (congrArg (fun z=>upd z 135 _) hF.symm) rfl
       ·refine ⟨fun o ho es vs f' S' hve hvp hf hx hK hE=>?_⟩
        obtain rfl := Option.some.inj ho
        refine ⟨want_is (j:=7) (t:=134) rfl rfl (by kernel_rfl) ((hf 7 134 (by kernel_rfl) rfl).trans (show vs 7=.bool false from hvp 7 (by kernel_rfl))) rfl,fun _ _=>?_,(fun _ h=>by cases h),(fun h _=>by cases h),(fun h _=>by cases h)⟩
        have hF := fr_next (fr_next (rfl) ((hf 7 134 (by kernel_rfl) rfl).trans (show vs 7=.bool false from hvp 7 (by kernel_rfl)))) ((hf 8 135 (by kernel_rfl) rfl).trans (show vs 8=.int .i64 t17.2 from hvp 8 (by kernel_rfl)))
        refine ls_fr hF ?_
        refine lv (.bool (!decide (t17.2=(0:Int)))) ?_
        refine ls_ren 136 (v:=.bool (!decide (t17.2=(0:Int)))) (v' := .bool false) (by kernel_rfl) (congrArg Value.bool (show (!decide (t17.2=(0:Int)))=false from congrArg Bool.not (dec_t q54))) ?_
        exact ls_finp (.bool false) ((upd_upd _ _ _ _).trans (congrArg (fun z=>upd z 136 _) hF.symm)) rfl
       ·refine ⟨fun o ho es vs f' S' hve hvp hf hx hK hE=>?_⟩
        obtain rfl := Option.some.inj ho
        refine ⟨want_none rfl,fun _ _=>?_,(fun _ h=>by cases h),(fun h _=>by cases h),(fun h _=>by cases h)⟩
        have hF := fr_next (fr_next (rfl) ((hf 7 134 (by kernel_rfl) rfl).trans (show vs 7=.bool false from hvp 7 (by kernel_rfl)))) ((hf 9 136 (by kernel_rfl) rfl).trans (show vs 9=.bool false from hvp 9 (by kernel_rfl)))
        refine ls_fr hF ?_
        refine lv (.bool false) ?_
        exact ls_finp (.bool false) (congrArg (fun z=>upd z 137 _) hF.symm) rfl
       ·refine ⟨fun o ho es vs f' S' hve hvp hf hx hK hE=>?_⟩
        obtain rfl := Option.some.inj ho
        refine ⟨want_none rfl,fun _ _=>?_,(fun _ h=>by cases h),(fun h _=>by cases h),(fun h _=>by cases h)⟩
        have hF := fr_next (rfl) ((hf 10 137 (by kernel_rfl) rfl).trans (show vs 10=.bool false from hvp 10 (by kernel_rfl)))
        refine ls_fr hF ?_
        refine lv (.bool false) ?_
        exact ls_finp (.bool false) (congrArg (fun z=>upd z 138 _) hF.symm) rfl
       ·refine ⟨fun o ho es vs f' S' hve hvp hf hx hK hE=>?_⟩
        obtain rfl := Option.some.inj ho
        refine ⟨want_is (j:=11) (t:=138) rfl rfl (by kernel_rfl) ((hf 11 138 (by kernel_rfl) rfl).trans (show vs 11=.bool false from hvp 11 (by kernel_rfl))) rfl,fun _ _=>?_,(fun _ h=>by cases h),(fun h _=>by cases h),(fun h _=>by cases h)⟩
        have hF := fr_next (fr_next (rfl) ((hx 18 (by kernel_rfl)).trans (by kernel_rfl:(_:Value)=.slice x19.1 t17.1.length x19.2))) ((hf 11 138 (by kernel_rfl) rfl).trans (show vs 11=.bool false from hvp 11 (by kernel_rfl)))
        refine ls_fr hF ?_
        refine lv (.slice x19.1 t17.1.length x19.2) ?_
        exact ls_finp (.slice x19.1 t17.1.length x19.2) (congrArg (fun z=>upd z 139 _) hF.symm) rfl
       ·refine ⟨fun o ho es vs f' S' hve hvp hf hx hK hE=>?_⟩
        obtain rfl := Option.some.inj ho
        refine ⟨want_is (j:=11) (t:=138) rfl rfl (by kernel_rfl) ((hf 11 138 (by kernel_rfl) rfl).trans (show vs 11=.bool false from hvp 11 (by kernel_rfl))) rfl,fun _ _=>?_,(fun _ h=>by cases h),(fun h _=>by cases h),(fun h _=>by cases h)⟩
        have hF := fr_next (fr_next (rfl) ((hf 11 138 (by kernel_rfl) rfl).trans (show vs 11=.bool false from hvp 11 (by kernel_rfl)))) ((hf 12 139 (by kernel_rfl) rfl).trans (show vs 12=.slice x19.1 t17.1.length x19.2 from hvp 12 (by kernel_rfl)))
        refine ls_fr hF ?_
        refine ls_str (A:=x19.1) (c:=x19.2) (e:=5) (l:=t17.1) rfl rfl (by kernel_rfl) rfl (by kernel_rfl) (by kernel_rfl) (by kernel_rfl) (by kernel_rfl) (fun w hs=>(hs.rd (k:=5) ((hK 5 (by rfl)).trans (by exact rfl)))) ?_
        exact ls_finp (.string (strOfNums t17.1)) (congrArg (fun z=>upd z 140 _) hF.symm) rfl
       ·refine ⟨fun o ho es vs f' S' hve hvp hf hx hK hE=>?_⟩
        obtain rfl := Option.some.inj ho
        refine ⟨want_is (j:=11) (t:=138) rfl rfl (by kernel_rfl) ((hf 11 138 (by kernel_rfl) rfl).trans (show vs 11=.bool false from hvp 11 (by kernel_rfl))) rfl,fun _ _=>?_,(fun _ h=>by cases h),(fun h _=>by cases h),(fun h _=>by cases h)⟩
        have hF := fr_next (fr_next (rfl) ((hx 2 (by kernel_rfl)).trans (by kernel_rfl:(_:Value)=.slice A2_1 l2_1.length c2_1))) ((hf 11 138 (by kernel_rfl) rfl).trans (show vs 11=.bool false from hvp 11 (by kernel_rfl)))
        refine ls_fr hF ?_
        refine lv (.slice A2_1 l2_1.length c2_1) ?_
        exact ls_finp (.slice A2_1 l2_1.length c2_1) (congrArg (fun z=>upd z 141 _) hF.symm) rfl
       ·refine ⟨fun o ho es vs f' S' hve hvp hf hx hK hE=>?_⟩
        obtain rfl := Option.some.inj ho
        refine ⟨want_is (j:=11) (t:=138) rfl rfl (by kernel_rfl) ((hf 11 138 (by kernel_rfl) rfl).trans (show vs 11=.bool false from hvp 11 (by kernel_rfl))) rfl,fun _ _=>?_,(fun _ h=>by cases h),(fun h _=>by cases h),(fun h _=>by cases h)⟩
        have hF := fr_next (fr_next (rfl) ((hf 11 138 (by kernel_rfl) rfl).trans (show vs 11=.bool false from hvp 11 (by kernel_rfl)))) ((hf 14 141 (by kernel_rfl) rfl).trans (show vs 14=.slice A2_1 l2_1.length c2_1 from hvp 14 (by kernel_rfl)))
        refine ls_fr hF ?_
        refine ls_str (A:=A2_1) (c:=c2_1) (e:=5) (l:=l2_1) rfl rfl (by kernel_rfl) rfl (by kernel_rfl) (by kernel_rfl) (by kernel_rfl) (by kernel_rfl) (fun w hs=>(hs.old R2_1)) ?_
        exact ls_finp (.string (strOfNums l2_1)) (congrArg (fun z=>upd z 142 _) hF.symm) rfl
       ·refine ⟨fun o ho es vs f' S' hve hvp hf hx hK hE=>?_⟩
        obtain rfl := Option.some.inj ho
        refine ⟨want_is (j:=11) (t:=138) rfl rfl (by kernel_rfl) ((hf 11 138 (by kernel_rfl) rfl).trans (show vs 11=.bool false from hvp 11 (by kernel_rfl))) rfl,fun _ _=>?_,(fun _ h=>by cases h),(fun h _=>by cases h),(fun h _=>by cases h)⟩
        have hF := fr_next (fr_next (fr_next (rfl) ((hf 11 138 (by kernel_rfl) rfl).trans (show vs 11=.bool false from hvp 11 (by kernel_rfl)))) ((hf 13 140 (by kernel_rfl) rfl).trans (show vs 13=.string (strOfNums t17.1) from hvp 13 (by kernel_rfl)))) ((hf 15 142 (by kernel_rfl) rfl).trans (show vs 15=.string (strOfNums l2_1) from hvp 15 (by kernel_rfl)))
        refine ls_fr hF ?_
        refine lv (.bool (!((strOfNums t17.1).toList==(strOfNums l2_1).toList))) ?_
        refine ls_ren 143 (v:=.bool (!((strOfNums t17.1).toList==(strOfNums l2_1).toList))) (v' := .bool false) (by kernel_rfl) (congrArg Value.bool (show (!((strOfNums t17.1).toList==(strOfNums l2_1).toList))=false from congrArg Bool.not (q55))) ?_
        exact ls_finp (.bool false) ((upd_upd _ _ _ _).trans (congrArg (fun z=>upd z 143 _) hF.symm)) rfl
       ·refine ⟨fun o ho es vs f' S' hve hvp hf hx hK hE=>?_⟩
        obtain rfl := Option.some.inj ho
        refine ⟨want_none rfl,fun _ _=>?_,(fun _ h=>by cases h),(fun h _=>by cases h),(fun h _=>by cases h)⟩
        have hF := fr_next (fr_next (rfl) ((hf 11 138 (by kernel_rfl) rfl).trans (show vs 11=.bool false from hvp 11 (by kernel_rfl)))) ((hf 16 143 (by kernel_rfl) rfl).trans (show vs 16=.bool false from hvp 16 (by kernel_rfl)))
        refine ls_fr hF ?_
        refine lv (.bool false) ?_
        exact ls_finp (.bool false) (congrArg (fun z=>upd z 144 _) hF.symm) rfl
       ·refine ⟨fun o ho es vs f' S' hve hvp hf hx hK hE=>?_⟩
        obtain rfl := Option.some.inj ho
        refine ⟨want_none rfl,fun _ _=>?_,(fun _ h=>by cases h),(fun h _=>by cases h),(fun h _=>by cases h)⟩
        have hF := fr_next (rfl) ((hf 17 144 (by kernel_rfl) rfl).trans (show vs 17=.bool false from hvp 17 (by kernel_rfl)))
        refine ls_fr hF ?_
        refine lv (.bool false) ?_
        exact ls_finp (.bool false) (congrArg (fun z=>upd z 145 _) hF.symm) rfl
       ·refine ⟨fun o ho es vs f' S' hve hvp hf hx hK hE=>?_⟩
        obtain rfl := Option.some.inj ho
        refine ⟨want_is (j:=18) (t:=145) rfl rfl (by kernel_rfl) ((hf 18 145 (by kernel_rfl) rfl).trans (show vs 18=.bool false from hvp 18 (by kernel_rfl))) rfl,fun _ _=>?_,(fun _ h=>by cases h),(fun h _=>by cases h),(fun h _=>by cases h)⟩
        have hF := fr_next (fr_next (rfl) ((hx 7 (by kernel_rfl)).trans (by kernel_rfl:(_:Value)=.pointer (some ⟨x6.1,0,none⟩)))) ((hf 18 145 (by kernel_rfl) rfl).trans (show vs 18=.bool false from hvp 18 (by kernel_rfl)))
        refine ls_fr hF ?_
        refine lv (.pointer (some ⟨x6.1,0,none⟩)) ?_
        exact ls_finp (.pointer (some ⟨x6.1,0,none⟩)) (congrArg (fun z=>upd z 146 _) hF.symm) rfl
       ·refine ⟨fun o ho es vs f' S' hve hvp hf hx hK hE=>?_⟩
        obtain rfl := Option.some.inj ho
        obtain rfl := hE rfl
        refine ⟨want_is (j:=18) (t:=145) rfl rfl (by kernel_rfl) ((hf 18 145 (by kernel_rfl) rfl).trans (show vs 18=.bool false from hvp 18 (by kernel_rfl))) rfl,(fun h _=>by cases h),(fun h _=>by cases h),fun _ _=>?_,(fun _ h=>by cases h)⟩
        have hF := fr_next (fr_next (rfl) ((hf 18 145 (by kernel_rfl) rfl).trans (show vs 18=.bool false from hvp 18 (by kernel_rfl)))) ((hf 19 146 (by kernel_rfl) rfl).trans (show vs 19=.pointer (some ⟨x6.1,0,none⟩) from hvp 19 (by kernel_rfl)))
        refine ls_fr hF ?_
        refine ls_callb (fid:=14) (vals:=#[.pointer (some ⟨x6.1,0,none⟩)]) (X:=Unit) (fun x=>.int .i64 t56) (fun x=>stl [Ck.var 42 x6.1 (([Value.slice (some ⟨x6.2.2.1,0,none⟩) x6.2.2.2.2 x6.2.2.2.1]++([Value.map (some x6.2.1)]++([Value.bool t9.2.2.1.2.2.1]++([Value.int .i64 t9.2.2.1.2.2.2.1]++[Value.bool t9.2.2.1.2.2.2.2]))))),Ck.mr T56 x6.2.1 x6.2.2.1 x6.2.2.2.1 x6.2.2.2.2 t9.2.2.2]) [1,2] [] [Ck.var 42 x6.1 (([Value.slice (some ⟨x6.2.2.1,0,none⟩) x6.2.2.2.2 x6.2.2.2.1]++([Value.map (some x6.2.1)]++([Value.bool t9.2.2.1.2.2.1]++([Value.int .i64 t9.2.2.1.2.2.2.1]++[Value.bool t9.2.2.1.2.2.2.2]))))),Ck.mr T56 x6.2.1 x6.2.2.1 x6.2.2.2.1 x6.2.2.2.2 t9.2.2.2] [] 6 rfl rfl (by kernel_rfl) (fun w=>by kernel_rfl) ⟨by exact rfl,by exact rfl,trivial⟩ trivial (by decide) (fun w hs hb=>disk_Disk_Waiting.calls k x6.1 x6.2.2.1 x6.2.2.2.2 x6.2.2.2.1 x6.2.1 ((),(),t9.2.2.1.2.2.1,t9.2.2.1.2.2.2.1,t9.2.2.1.2.2.2.2) t9.2.2.2 t56 (lent b w [Ck.var 42 x6.1 (([Value.slice (some ⟨x6.2.2.1,0,none⟩) x6.2.2.2.2 x6.2.2.2.1]++([Value.map (some x6.2.1)]++([Value.bool t9.2.2.1.2.2.1]++([Value.int .i64 t9.2.2.1.2.2.2.1]++[Value.bool t9.2.2.1.2.2.2.2]))))),Ck.mr T56 x6.2.1 x6.2.2.1 x6.2.2.2.1 x6.2.2.2.2 t9.2.2.2] []) hb  hc57) ?_
        intro x58
        exact ls_fine (sput (sput (sput (sput (sput s0 1 (some (Ck.var 42 x6.1 (([Value.slice (some ⟨x6.2.2.1,0,none⟩) x6.2.2.2.2 x6.2.2.2.1]++([Value.map (some x6.2.1)]++([Value.bool t9.2.2.1.2.2.1]++([Value.int .i64 t9.2.2.1.2.2.2.1]++[Value.bool t9.2.2.1.2.2.2.2])))))))) 2 (some (Ck.mr T56 x6.2.1 x6.2.2.1 x6.2.2.2.1 x6.2.2.2.2 t9.2.2.2))) 3 (some (Ck.var 30 g12 (([Value.int .i64 t9.1.1]++([Value.int .i64 t9.1.2.1]++([Value.int .i64 t9.1.2.2.1]++([Value.int .u32 t9.1.2.2.2.1]++en (Value.int .u8) t9.1.2.2.2.2.1)))))))) 4 (some (Ck.var 30 g16 (([Value.int .i64 t13.1]++([Value.int .i64 t13.2.1]++([Value.int .i64 t13.2.2.1]++([Value.int .u32 t13.2.2.2.1]++en (Value.int .u8) t13.2.2.2.2.1)))))))) 5 (some (Ck.sl (Ec.int 5 .u8) x19.1 x19.2 t17.1))) (.int .i64 t56) (congrArg (fun z=>upd z 147 _) hF.symm) (show (fun (es:Nat→Value) (S':Sto)=>∃ (x58:Unit),es 20=.int .i64 t56∧S'=sput (sput (sput (sput (sput s0 1 (some (Ck.var 42 x6.1 (([Value.slice (some ⟨x6.2.2.1,0,none⟩) x6.2.2.2.2 x6.2.2.2.1]++([Value.map (some x6.2.1)]++([Value.bool t9.2.2.1.2.2.1]++([Value.int .i64 t9.2.2.1.2.2.2.1]++[Value.bool t9.2.2.1.2.2.2.2])))))))) 2 (some (Ck.mr T56 x6.2.1 x6.2.2.1 x6.2.2.2.1 x6.2.2.2.2 t9.2.2.2))) 3 (some (Ck.var 30 g12 (([Value.int .i64 t9.1.1]++([Value.int .i64 t9.1.2.1]++([Value.int .i64 t9.1.2.2.1]++([Value.int .u32 t9.1.2.2.2.1]++en (Value.int .u8) t9.1.2.2.2.2.1)))))))) 4 (some (Ck.var 30 g16 (([Value.int .i64 t13.1]++([Value.int .i64 t13.2.1]++([Value.int .i64 t13.2.2.1]++([Value.int .u32 t13.2.2.2.1]++en (Value.int .u8) t13.2.2.2.2.1)))))))) 5 (some (Ck.sl (Ec.int 5 .u8) x19.1 x19.2 t17.1))) (upv es 20 (.int .i64 t56)) (sput (sput (sput (sput (sput s0 1 (some (Ck.var 42 x6.1 (([Value.slice (some ⟨x6.2.2.1,0,none⟩) x6.2.2.2.2 x6.2.2.2.1]++([Value.map (some x6.2.1)]++([Value.bool t9.2.2.1.2.2.1]++([Value.int .i64 t9.2.2.1.2.2.2.1]++[Value.bool t9.2.2.1.2.2.2.2])))))))) 2 (some (Ck.mr T56 x6.2.1 x6.2.2.1 x6.2.2.2.1 x6.2.2.2.2 t9.2.2.2))) 3 (some (Ck.var 30 g12 (([Value.int .i64 t9.1.1]++([Value.int .i64 t9.1.2.1]++([Value.int .i64 t9.1.2.2.1]++([Value.int .u32 t9.1.2.2.2.1]++en (Value.int .u8) t9.1.2.2.2.2.1)))))))) 4 (some (Ck.var 30 g16 (([Value.int .i64 t13.1]++([Value.int .i64 t13.2.1]++([Value.int .i64 t13.2.2.1]++([Value.int .u32 t13.2.2.2.1]++en (Value.int .u8) t13.2.2.2.2.1)))))))) 5 (some (Ck.sl (Ec.int 5 .u8) x19.1 x19.2 t17.1))) from ⟨x58,rfl,rfl⟩) rfl (keep_cons (by exact rfl) (keep_cons (by exact rfl) (keep_cons (by exact rfl) (keep_cons (by exact rfl) (keep_cons (by exact rfl) (keep_nil)))))) (sub_put (by exact rfl) (sub_put (by exact rfl) (sub_put (by exact rfl) (sub_put (by exact rfl) (sub_put (by exact rfl) (sub_nil _))))))
       refine ⟨fun o ho es vs f' S' hve hvp hf hx hK hE=>?_⟩
       obtain rfl := Option.some.inj ho
       refine ⟨want_is (j:=18) (t:=145) rfl rfl (by kernel_rfl) ((hf 18 145 (by kernel_rfl) rfl).trans (show vs 18=.bool false from hvp 18 (by kernel_rfl))) rfl,fun _ _=>?_,(fun _ h=>by cases h),(fun h _=>by cases h),(fun h _=>by cases h)⟩
       have hF := fr_next (fr_next (rfl) ((hx 10 (by kernel_rfl)).trans (by kernel_rfl:(_:Value)=.pointer (some ⟨g16,0,none⟩)))) ((hf 18 145 (by kernel_rfl) rfl).trans (show vs 18=.bool false from hvp 18 (by kernel_rfl)))
       refine ls_fr hF ?_
       refine ls_loadagg (a:=⟨g16,0,none⟩) (sub:=([Value.int .i64 t13.1]++([Value.int .i64 t13.2.1]++([Value.int .i64 t13.2.2.1]++([Value.int .u32 t13.2.2.2.1]++en (Value.int .u8) t13.2.2.2.2.1))))) rfl rfl (by kernel_rfl) rfl (by kernel_rfl) (by kernel_rfl) (by kernel_rfl) (len_app (len1 _) (len_app (len1 _) (len_app (len1 _) (len_app (len1 _) (len_en _ t13.2.2.2.2))))) (fun w hs=>(hs.vars (k:=4) ((hK 4 (by rfl)).trans (by exact rfl)) (Sub4.all _))) ?_
       exact ls_finp (.agg ⟨([Value.int .i64 t13.1]++([Value.int .i64 t13.2.1]++([Value.int .i64 t13.2.2.1]++([Value.int .u32 t13.2.2.2.1]++en (Value.int .u8) t13.2.2.2.2.1))))⟩) (congrArg (fun z=>upd z 148 _) hF.symm) rfl
      intro es vs f' S' hve hvp hf hx hK hE
      obtain ⟨x58,hv20,rfl⟩ := hE
      refine ls_fr (F:=upd (upd (upd (upd (upd (upd (upd f' 0 (.int .i64 y2)) 2 (.slice A2_1 l2_1.length c2_1)) 7 (.pointer (some ⟨x6.1,0,none⟩))) 10 (.pointer (some ⟨g16,0,none⟩))) 145 (.bool false)) 147 (.int .i64 t56)) 148 (.agg ⟨([Value.int .i64 t13.1]++([Value.int .i64 t13.2.1]++([Value.int .i64 t13.2.2.1]++([Value.int .u32 t13.2.2.2.1]++en (Value.int .u8) t13.2.2.2.2.1))))⟩)) (fr_next (fr_next (fr_next (fr_next (fr_next (fr_next (fr_next (rfl) ((hx 0 (by kernel_rfl)).trans (by kernel_rfl:(_:Value)=.int .i64 y2))) ((hx 2 (by kernel_rfl)).trans (by kernel_rfl:(_:Value)=.slice A2_1 l2_1.length c2_1))) ((hx 7 (by kernel_rfl)).trans (by kernel_rfl:(_:Value)=.pointer (some ⟨x6.1,0,none⟩)))) ((hx 10 (by kernel_rfl)).trans (by kernel_rfl:(_:Value)=.pointer (some ⟨g16,0,none⟩)))) ((hf 18 145 (by kernel_rfl) rfl).trans (show vs 18=.bool false from hvp 18 (by kernel_rfl)))) ((hf 20 147 (by kernel_rfl) rfl).trans (show vs 20=.int .i64 t56 from hvp 20 (by kernel_rfl)))) ((hf 21 148 (by kernel_rfl) rfl).trans (show vs 21=.agg ⟨([Value.int .i64 t13.1]++([Value.int .i64 t13.2.1]++([Value.int .i64 t13.2.2.1]++([Value.int .u32 t13.2.2.2.1]++en (Value.int .u8) t13.2.2.2.2.1))))⟩ from hvp 21 (by kernel_rfl)))) ?_
      refine ls_sub (sput (sput (sput s0 1 (some (Ck.var 42 x6.1 (([Value.slice (some ⟨x6.2.2.1,0,none⟩) x6.2.2.2.2 x6.2.2.2.1]++([Value.map (some x6.2.1)]++([Value.bool t9.2.2.1.2.2.1]++([Value.int .i64 t9.2.2.1.2.2.2.1]++[Value.bool t9.2.2.1.2.2.2.2])))))))) 2 (some (Ck.mr T56 x6.2.1 x6.2.2.1 x6.2.2.2.1 x6.2.2.2.2 t9.2.2.2))) 4 (some (Ck.var 30 g16 (([Value.int .i64 t13.1]++([Value.int .i64 t13.2.1]++([Value.int .i64 t13.2.2.1]++([Value.int .u32 t13.2.2.2.1]++en (Value.int .u8) t13.2.2.2.2.1)))))))) (sub_put (by exact rfl) (sub_put (by exact rfl) (sub_put (by exact rfl) (sub_nil _)))) ?_
      refine ls_on (j:=18) (t:=145) (b:=false) rfl rfl (by kernel_rfl) (by kernel_rfl) ?_
      obtain ⟨t59,hc60,H⟩ := bind_some H
      refine ls_callb (fid:=13) (vals:=#[.agg ⟨([Value.int .i64 t13.1]++([Value.int .i64 t13.2.1]++([Value.int .i64 t13.2.2.1]++([Value.int .u32 t13.2.2.2.1]++en (Value.int .u8) t13.2.2.2.2.1))))⟩]) (X:=Unit) (fun x=>.int .i64 t59) (fun x=>stl []) [] [] [] [] 6 rfl rfl (by kernel_rfl) (fun w=>by kernel_rfl) trivial trivial (by decide) (fun w hs hb=>shadowboxref06_Sectors.calls k t13 t59 (lent b w [] []) hb  hc60) ?_
      intro x61
      refine ls_on (j:=18) (t:=145) (b:=false) rfl rfl (by kernel_rfl) (by kernel_rfl) ?_
      refine lv (.bool (!decide (t56=t59))) ?_
      refine lv (.bool (!decide (t56=t59))) ?_
      refine ls_end ?_
      refine qn_then ?_
      by_cases q62:t56=t59
      ·replace H := ite_t q62 H
       refine cs_know (c:=false) (congrArg Bool.not (dec_t q62)) 151 (by kernel_rfl) ?_
       refine cs_false (by kernel_rfl) ?_
       refine cs_skip' ?_
       refine qn_meet (sput (sput (sput s0 1 (some (Ck.var 42 x6.1 (([Value.slice (some ⟨x6.2.2.1,0,none⟩) x6.2.2.2.2 x6.2.2.2.1]++([Value.map (some x6.2.1)]++([Value.bool t9.2.2.1.2.2.1]++([Value.int .i64 t9.2.2.1.2.2.2.1]++[Value.bool t9.2.2.1.2.2.2.2])))))))) 2 (some (Ck.mr T56 x6.2.1 x6.2.2.1 x6.2.2.2.1 x6.2.2.2.2 t9.2.2.2))) 4 (some (Ck.var 30 g16 (([Value.int .i64 t13.1]++([Value.int .i64 t13.2.1]++([Value.int .i64 t13.2.2.1]++([Value.int .u32 t13.2.2.2.1]++en (Value.int .u8) t13.2.2.2.2.1)))))))) ⟨_,fr_next (fr_next (fr_next (fr_next (rfl) (by kernel_rfl)) (by kernel_rfl)) (by kernel_rfl)) (by kernel_rfl),rfl,H⟩ (sub_put (by exact rfl) (sub_put (by exact rfl) (sub_put (by exact rfl) (sub_nil _))))
      replace H := ite_f q62 H
      refine cs_know (c:=true) (congrArg Bool.not (dec_f q62)) 151 (by kernel_rfl) ?_
      refine cs_true (by kernel_rfl) ?_
      refine cs_seq ?_
      refine cs_region (l:=[_]) ?_
      refine lv (.bool false) ?_
      refine ls_end ?_
      refine qn_then ?_
      refine cs_ret' ?_
      refine qr_then ?_
      obtain rfl := Option.some.inj H
      refine qr_res (rs:=[_]) rfl (fun w' hs=>⟨[.bool false],(res_tmp (by kernel_rfl) (.nil)),(),rfl,hs.pick (ts:=[]) (cs:=[]) trivial (by decide)⟩)
     replace H := ite_f q55 H
     refine cs_sub (sput (sput (sput (sput (sput s0 1 (some (Ck.var 42 x6.1 (([Value.slice (some ⟨x6.2.2.1,0,none⟩) x6.2.2.2.2 x6.2.2.2.1]++([Value.map (some x6.2.1)]++([Value.bool t9.2.2.1.2.2.1]++([Value.int .i64 t9.2.2.1.2.2.2.1]++[Value.bool t9.2.2.1.2.2.2.2])))))))) 2 (some (Ck.mr T56 x6.2.1 x6.2.2.1 x6.2.2.2.1 x6.2.2.2.2 t9.2.2.2))) 3 (some (Ck.var 30 g12 (([Value.int .i64 t9.1.1]++([Value.int .i64 t9.1.2.1]++([Value.int .i64 t9.1.2.2.1]++([Value.int .u32 t9.1.2.2.2.1]++en (Value.int .u8) t9.1.2.2.2.2.1)))))))) 4 (some (Ck.var 30 g16 (([Value.int .i64 t13.1]++([Value.int .i64 t13.2.1]++([Value.int .i64 t13.2.2.1]++([Value.int .u32 t13.2.2.2.1]++en (Value.int .u8) t13.2.2.2.2.1)))))))) 5 (some (Ck.sl (Ec.int 5 .u8) x19.1 x19.2 t17.1))) (sub_put (by exact rfl) (sub_put (by exact rfl) (sub_put (by exact rfl) (sub_put (by exact rfl) (sub_put (by exact rfl) (sub_nil _)))))) ?_
     refine cs_chain (l:=[_,_,_,_,_,_,_,_,_,_,_,_,_,_,_,_,_,_,_,_,_,_,_,_,_]) [[],[0],[0,1],[0,1,2],[0,1,2],[0,1,2,3,4],[0,1,2,3,4,5],[0,1,2,3,4,5,6],[0,1,2,3,4,5,6,7],[0,1,2,3,4,5,6,7,8],[0,1,2,3,4,5,6,7,8,9],[0,1,2,3,4,5,6,7,8,9,10],[0,1,2,3,4,5,6,7,8,9,10,11],[0,1,2,3,4,5,6,7,8,9,10,11,12],[0,1,2,3,4,5,6,7,8,9,10,11],[0,1,2,3,4,5,6,7,8,9,10,11,14],[0,1,2,3,4,5,6,7,8,9,10,11,12,13,14,15],[0,1,2,3,4,5,6,7,8,9,10,11,12,13,14,15,16],[0,1,2,3,4,5,6,7,8,9,10,11,12,13,14,15,16,17],[0,1,2,3,4,5,6,7,8,9,10,11,12,13,14,15,16,17,18],[0,1,2,3,4,5,6,7,8,9,10,11,12,13,14,15,16,17,18,19],[0,1,2,3,4,5,6,7,8,9,10,11,12,13,14,15,16,17,18],[0,1,2,3,4,5,6,7,8,9,10,11,12,13,14,15,16,17,18,19,20,21],[0,1,2,3,4,5,6,7,8,9,10,11,12,13,14,15,16,17,18,19,20,21,22],[0,1,2,3,4,5,6,7,8,9,10,11,12,13,14,15,16,17,18,19,20,21,22,23]] 22 (fun u=>[1,2,3,4,5].contains u) (efl [false,false,false,false,false,false,false,false,false,false,false,false,false,false,false,false,false,false,false,false,false,false]) (pvl [.val (.int .i64 t9.2.1),.val (.bool false),.val (.bool false),.val (.agg ⟨([Value.int .i64 t9.1.1]++([Value.int .i64 t9.1.2.1]++([Value.int .i64 t9.1.2.2.1]++([Value.int .u32 t9.1.2.2.2.1]++en (Value.int .u8) t9.1.2.2.2.2.1))))⟩),.val (.agg ⟨([Value.int .i64 t13.1]++([Value.int .i64 t13.2.1]++([Value.int .i64 t13.2.2.1]++([Value.int .u32 t13.2.2.2.1]++en (Value.int .u8) t13.2.2.2.2.1))))⟩),.val (.bool false),.val (.bool false),.val (.bool false),.val (.int .i64 t17.2),.val (.bool false),.val (.bool false),.val (.bool false),.val (.slice x19.1 t17.1.length x19.2),.val (.string (strOfNums t17.1)),.val (.slice A2_1 l2_1.length c2_1),.val (.string (strOfNums l2_1)),.val (.bool true),.val (.bool true),.val (.bool true),.val (undef),.val (undef),.val (undef)]) (Esl [fun (es:Nat→Value) (S':Sto)=>S'=sput (sput (sput (sput (sput s0 1 (some (Ck.var 42 x6.1 (([Value.slice (some ⟨x6.2.2.1,0,none⟩) x6.2.2.2.2 x6.2.2.2.1]++([Value.map (some x6.2.1)]++([Value.bool t9.2.2.1.2.2.1]++([Value.int .i64 t9.2.2.1.2.2.2.1]++[Value.bool t9.2.2.1.2.2.2.2])))))))) 2 (some (Ck.mr T56 x6.2.1 x6.2.2.1 x6.2.2.2.1 x6.2.2.2.2 t9.2.2.2))) 3 (some (Ck.var 30 g12 (([Value.int .i64 t9.1.1]++([Value.int .i64 t9.1.2.1]++([Value.int .i64 t9.1.2.2.1]++([Value.int .u32 t9.1.2.2.2.1]++en (Value.int .u8) t9.1.2.2.2.2.1)))))))) 4 (some (Ck.var 30 g16 (([Value.int .i64 t13.1]++([Value.int .i64 t13.2.1]++([Value.int .i64 t13.2.2.1]++([Value.int .u32 t13.2.2.2.1]++en (Value.int .u8) t13.2.2.2.2.1)))))))) 5 (some (Ck.sl (Ec.int 5 .u8) x19.1 x19.2 t17.1))] [0,0,0,0,0,0,0,0,0,0,0,0,0,0,0,0,0,0,0,0,0,0,0]) (nxl [0,0,0,0,0,0,0,0,0,0,0,0,0,0,0,0,0,0,0,0,0,0]) (onl [true,true,true,true,true,true,true,true,true,true,true,true,true,true,true,true,true,true,true,false,false,false]) 22 (by kernel_rfl) (by kernel_rfl) (by kernel_rfl) (by kernel_rfl) (by kernel_rfl) (rs:=[_,_,_]) rfl (by kernel_rfl) (by kernel_rfl) (fun es=>?_) ?_ ?_
     ·exact (rfl:sput (sput (sput (sput (sput s0 1 (some (Ck.var 42 x6.1 (([Value.slice (some ⟨x6.2.2.1,0,none⟩) x6.2.2.2.2 x6.2.2.2.1]++([Value.map (some x6.2.1)]++([Value.bool t9.2.2.1.2.2.1]++([Value.int .i64 t9.2.2.1.2.2.2.1]++[Value.bool t9.2.2.1.2.2.2.2])))))))) 2 (some (Ck.mr T56 x6.2.1 x6.2.2.1 x6.2.2.2.1 x6.2.2.2.2 t9.2.2.2))) 3 (some (Ck.var 30 g12 (([Value.int .i64 t9.1.1]++([Value.int .i64 t9.1.2.1]++([Value.int .i64 t9.1.2.2.1]++([Value.int .u32 t9.1.2.2.2.1]++en (Value.int .u8) t9.1.2.2.2.2.1)))))))) 4 (some (Ck.var 30 g16 (([Value.int .i64 t13.1]++([Value.int .i64 t13.2.1]++([Value.int .i64 t13.2.2.1]++([Value.int .u32 t13.2.2.2.1]++en (Value.int .u8) t13.2.2.2.2.1)))))))) 5 (some (Ck.sl (Ec.int 5 .u8) x19.1 x19.2 t17.1))=sput (sput (sput (sput (sput s0 1 (some (Ck.var 42 x6.1 (([Value.slice (some ⟨x6.2.2.1,0,none⟩) x6.2.2.2.2 x6.2.2.2.1]++([Value.map (some x6.2.1)]++([Value.bool t9.2.2.1.2.2.1]++([Value.int .i64 t9.2.2.1.2.2.2.1]++[Value.bool t9.2.2.1.2.2.2.2])))))))) 2 (some (Ck.mr T56 x6.2.1 x6.2.2.1 x6.2.2.2.1 x6.2.2.2.2 t9.2.2.2))) 3 (some (Ck.var 30 g12 (([Value.int .i64 t9.1.1]++([Value.int .i64 t9.1.2.1]++([Value.int .i64 t9.1.2.2.1]++([Value.int .u32 t9.1.2.2.2.1]++en (Value.int .u8) t9.1.2.2.2.2.1)))))))) 4 (some (Ck.var 30 g16 (([Value.int .i64 t13.1]++([Value.int .i64 t13.2.1]++([Value.int .i64 t13.2.2.1]++([Value.int .u32 t13.2.2.2.1]++en (Value.int .u8) t13.2.2.2.2.1)))))))) 5 (some (Ck.sl (Ec.int 5 .u8) x19.1 x19.2 t17.1)))
     ·refine all_snoc (all_snoc (all_snoc (all_snoc (all_snoc (all_snoc (all_snoc (all_snoc (all_snoc (all_snoc (all_snoc (all_snoc (all_snoc (all_snoc (all_snoc (all_snoc (all_snoc (all_snoc (all_snoc (all_snoc (all_snoc (all_snoc (all_nil) ?_) ?_) ?_) ?_) ?_) ?_) ?_) ?_) ?_) ?_) ?_) ?_) ?_) ?_) ?_) ?_) ?_) ?_) ?_) ?_) ?_) ?_
      ·refine ⟨fun o ho es vs f' S' hve hvp hf hx hK hE=>?_⟩
       obtain rfl := Option.some.inj ho
       refine ⟨want_none rfl,fun _ _=>?_,(fun _ h=>by cases h),(fun h _=>by cases h),(fun h _=>by cases h)⟩
       have hF := fr_next (rfl) ((hx 8 (by kernel_rfl)).trans (by kernel_rfl:(_:Value)=.int .i64 t9.2.1))
       refine ls_fr hF ?_
       refine lv (.int .i64 t9.2.1) ?_
       exact ls_finp (.int .i64 t9.2.1) (congrArg (fun z=>upd z 127 _) hF.symm) rfl
      ·refine ⟨fun o ho es vs f' S' hve hvp hf hx hK hE=>?_⟩
       obtain rfl := Option.some.inj ho
       refine ⟨want_none rfl,fun _ _=>?_,(fun _ h=>by cases h),(fun h _=>by cases h),(fun h _=>by cases h)⟩
       have hF := fr_next (rfl) ((hf 0 127 (by kernel_rfl) rfl).trans (show vs 0=.int .i64 t9.2.1 from hvp 0 (by kernel_rfl)))
       refine ls_fr hF ?_
       refine lv (.bool (!decide (t9.2.1=(0:Int)))) ?_
       refine ls_ren 128 (v:=.bool (!decide (t9.2.1=(0:Int)))) (v' := .bool false) (by kernel_rfl) (congrArg Value.bool (show (!decide (t9.2.1=(0:Int)))=false from congrArg Bool.not (dec_t q52))) ?_
       exact ls_finp (.bool false) ((upd_upd _ _ _ _).trans (congrArg (fun z=>upd z 128 _) hF.symm)) rfl
      ·refine ⟨fun o ho es vs f' S' hve hvp hf hx hK hE=>?_⟩
       obtain rfl := Option.some.inj ho
       refine ⟨want_none rfl,fun _ _=>?_,(fun _ h=>by cases h),(fun h _=>by cases h),(fun h _=>by cases h)⟩
       have hF := fr_next (rfl) ((hf 1 128 (by kernel_rfl) rfl).trans (show vs 1=.bool false from hvp 1 (by kernel_rfl)))
       refine ls_fr hF ?_
       refine lv (.bool false) ?_
       exact ls_finp (.bool false) (congrArg (fun z=>upd z 129 _) hF.symm) rfl
      ·refine ⟨fun o ho es vs f' S' hve hvp hf hx hK hE=>?_⟩
       obtain rfl := Option.some.inj ho
       refine ⟨want_is (j:=2) (t:=129) rfl rfl (by kernel_rfl) ((hf 2 129 (by kernel_rfl) rfl).trans (show vs 2=.bool false from hvp 2 (by kernel_rfl))) rfl,fun _ _=>?_,(fun _ h=>by cases h),(fun h _=>by cases h),(fun h _=>by cases h)⟩
       have hF := fr_next (fr_next (rfl) ((hx 9 (by kernel_rfl)).trans (by kernel_rfl:(_:Value)=.pointer (some ⟨g12,0,none⟩)))) ((hf 2 129 (by kernel_rfl) rfl).trans (show vs 2=.bool false from hvp 2 (by kernel_rfl)))
       refine ls_fr hF ?_
       refine ls_loadagg (a:=⟨g12,0,none⟩) (sub:=([Value.int .i64 t9.1.1]++([Value.int .i64 t9.1.2.1]++([Value.int .i64 t9.1.2.2.1]++([Value.int .u32 t9.1.2.2.2.1]++en (Value.int .u8) t9.1.2.2.2.2.1))))) rfl rfl (by kernel_rfl) rfl (by kernel_rfl) (by kernel_rfl) (by kernel_rfl) (len_app (len1 _) (len_app (len1 _) (len_app (len1 _) (len_app (len1 _) (len_en _ t9.1.2.2.2.2))))) (fun w hs=>(hs.vars (k:=3) ((hK 3 (by rfl)).trans (by exact rfl)) (Sub4.all _))) ?_
       exact ls_finp (.agg ⟨([Value.int .i64 t9.1.1]++([Value.int .i64 t9.1.2.1]++([Value.int .i64 t9.1.2.2.1]++([Value.int .u32 t9.1.2.2.2.1]++en (Value.int .u8) t9.1.2.2.2.2.1))))⟩) (congrArg (fun z=>upd z 130 _) hF.symm) rfl
      ·refine ⟨fun o ho es vs f' S' hve hvp hf hx hK hE=>?_⟩
       obtain rfl := Option.some.inj ho
       refine ⟨want_is (j:=2) (t:=129) rfl rfl (by kernel_rfl) ((hf 2 129 (by kernel_rfl) rfl).trans (show vs 2=.bool false from hvp 2 (by kernel_rfl))) rfl,fun _ _=>?_,(fun _ h=>by cases h),(fun h _=>by cases h),(fun h _=>by cases h)⟩
       have hF := fr_next (fr_next (rfl) ((hx 10 (by kernel_rfl)).trans (by kernel_rfl:(_:Value)=.pointer (some ⟨g16,0,none⟩)))) ((hf 2 129 (by kernel_rfl) rfl).trans (show vs 2=.bool false from hvp 2 (by kernel_rfl)))
       refine ls_fr hF ?_
       refine ls_loadagg (a:=⟨g16,0,none⟩) (sub:=([Value.int .i64 t13.1]++([Value.int .i64 t13.2.1]++([Value.int .i64 t13.2.2.1]++([Value.int .u32 t13.2.2.2.1]++en (Value.int .u8) t13.2.2.2.2.1))))) rfl rfl (by kernel_rfl) rfl (by kernel_rfl) (by kernel_rfl) (by kernel_rfl) (len_app (len1 _) (len_app (len1 _) (len_app (len1 _) (len_app (len1 _) (len_en _ t13.2.2.2.2))))) (fun w hs=>(hs.vars (k:=4) ((hK 4 (by rfl)).trans (by exact rfl)) (Sub4.all _))) ?_
       exact ls_finp (.agg ⟨([Value.int .i64 t13.1]++([Value.int .i64 t13.2.1]++([Value.int .i64 t13.2.2.1]++([Value.int .u32 t13.2.2.2.1]++en (Value.int .u8) t13.2.2.2.2.1))))⟩) (congrArg (fun z=>upd z 131 _) hF.symm) rfl
      ·refine ⟨fun o ho es vs f' S' hve hvp hf hx hK hE=>?_⟩
       obtain rfl := Option.some.inj ho
       refine ⟨want_is (j:=2) (t:=129) rfl rfl (by kernel_rfl) ((hf 2 129 (by kernel_rfl) rfl).trans (show vs 2=.bool false from hvp 2 (by kernel_rfl))) rfl,fun _ _=>?_,(fun _ h=>by cases h),(fun h _=>by cases h),(fun h _=>by cases h)⟩
       have hF := fr_next (fr_next (fr_next (rfl) ((hf 2 129 (by kernel_rfl) rfl).trans (show vs 2=.bool false from hvp 2 (by kernel_rfl)))) ((hf 3 130 (by kernel_rfl) rfl).trans (show vs 3=.agg ⟨([Value.int .i64 t9.1.1]++([Value.int .i64 t9.1.2.1]++([Value.int .i64 t9.1.2.2.1]++([Value.int .u32 t9.1.2.2.2.1]++en (Value.int .u8) t9.1.2.2.2.2.1))))⟩ from hvp 3 (by kernel_rfl)))) ((hf 4 131 (by kernel_rfl) rfl).trans (show vs 4=.agg ⟨([Value.int .i64 t13.1]++([Value.int .i64 t13.2.1]++([Value.int .i64 t13.2.2.1]++([Value.int .u32 t13.2.2.2.1]++en (Value.int .u8) t13.2.2.2.2.1))))⟩ from hvp 4 (by kernel_rfl)))
       refine ls_fr hF ?_
       refine ls_neq (xs:=([Value.int .i64 t9.1.1]++([Value.int .i64 t9.1.2.1]++([Value.int .i64 t9.1.2.2.1]++([Value.int .u32 t9.1.2.2.2.1]++en (Value.int .u8) t9.1.2.2.2.2.1))))) (ys:=([Value.int .i64 t13.1]++([Value.int .i64 t13.2.1]++([Value.int .i64 t13.2.2.1]++([Value.int .u32 t13.2.2.2.1]++en (Value.int .u8) t13.2.2.2.2.1))))) (r:=((t9.1.1==t13.1)&&((t9.1.2.1==t13.2.1)&&((t9.1.2.2.1==t13.2.2.1)&&((t9.1.2.2.2.1==t13.2.2.2.1)&&(t9.1.2.2.2.2.1==t13.2.2.2.2.1)))))) rfl rfl (by kernel_rfl) rfl (by kernel_rfl) (by kernel_rfl) (by kernel_rfl) (eq_st (by kernel_rfl) (by kernel_rfl) (eqf_cons (ft:=3) (fo:=0) (by kernel_rfl) (part_one (by kernel_rfl) (Sub4.trans (Sub4.all _) (Sub4.head _ _))) (part_one (by kernel_rfl) (Sub4.trans (Sub4.all _) (Sub4.head _ _))) (eq_int (by kernel_rfl) _ _ _) (eqf_cons (ft:=3) (fo:=1) (by kernel_rfl) (part_one (by kernel_rfl) (Sub4.trans (Sub4.all _) (Sub4.skip (n:=1) (len1 _) (Sub4.head _ _)))) (part_one (by kernel_rfl) (Sub4.trans (Sub4.all _) (Sub4.skip (n:=1) (len1 _) (Sub4.head _ _)))) (eq_int (by kernel_rfl) _ _ _) (eqf_cons (ft:=3) (fo:=2) (by kernel_rfl) (part_one (by kernel_rfl) (Sub4.trans (Sub4.all _) (Sub4.skip (n:=1) (len1 _) (Sub4.skip (n:=1) (len1 _) (Sub4.head _ _))))) (part_one (by kernel_rfl) (Sub4.trans (Sub4.all _) (Sub4.skip (n:=1) (len1 _) (Sub4.skip (n:=1) (len1 _) (Sub4.head _ _))))) (eq_int (by kernel_rfl) _ _ _) (eqf_cons (ft:=23) (fo:=3) (by kernel_rfl) (part_one (by kernel_rfl) (Sub4.trans (Sub4.all _) (Sub4.skip (n:=1) (len1 _) (Sub4.skip (n:=1) (len1 _) (Sub4.skip (n:=1) (len1 _) (Sub4.head _ _)))))) (part_one (by kernel_rfl) (Sub4.trans (Sub4.all _) (Sub4.skip (n:=1) (len1 _) (Sub4.skip (n:=1) (len1 _) (Sub4.skip (n:=1) (len1 _) (Sub4.head _ _)))))) (eq_int (by kernel_rfl) _ _ _) (eqf_last (ft:=28) (fo:=4) (by kernel_rfl) (part_agg (by kernel_rfl) (by kernel_rfl) (len_en _ t9.1.2.2.2.2) (Sub4.trans (Sub4.all _) (Sub4.skip (n:=1) (len1 _) (Sub4.skip (n:=1) (len1 _) (Sub4.skip (n:=1) (len1 _) (Sub4.skip (n:=1) (len1 _) (Sub4.all _))))))) (part_agg (by kernel_rfl) (by kernel_rfl) (len_en _ t13.2.2.2.2) (Sub4.trans (Sub4.all _) (Sub4.skip (n:=1) (len1 _) (Sub4.skip (n:=1) (len1 _) (Sub4.skip (n:=1) (len1 _) (Sub4.skip (n:=1) (len1 _) (Sub4.all _))))))) (eq_ints (e:=5) (ln:=32) (by kernel_rfl) (by kernel_rfl) (by kernel_rfl) t9.1.2.2.2.2.2 t13.2.2.2.2.2 _) (by kernel_rfl))))))) ?_
       refine ls_ren 132 (v:=.bool (!((t9.1.1==t13.1)&&((t9.1.2.1==t13.2.1)&&((t9.1.2.2.1==t13.2.2.1)&&((t9.1.2.2.2.1==t13.2.2.2.1)&&(t9.1.2.2.2.2.1==t13.2.2.2.2.1))))))) (v' := .bool false) (by kernel_rfl) (congrArg Value.bool (show (!((t9.1.1==t13.1)&&((t9.1.2.1==t13.2.1)&&((t9.1.2.2.1==t13.2.2.1)&&((t9.1.2.2.2.1==t13.2.2.2.1)&&(t9.1.2.2.2.2.1==t13.2.2.2.2.1))))))=false from congrArg Bool.not (q53))) ?_
       exact ls_finp (.bool false) ((upd_upd _ _ _ _).trans (congrArg (fun z=>upd z 132 _) hF.symm)) rfl
      ·refine ⟨fun o ho es vs f' S' hve hvp hf hx hK hE=>?_⟩
       obtain rfl := Option.some.inj ho
       refine ⟨want_none rfl,fun _ _=>?_,(fun _ h=>by cases h),(fun h _=>by cases h),(fun h _=>by cases h)⟩
       have hF := fr_next (fr_next (rfl) ((hf 2 129 (by kernel_rfl) rfl).trans (show vs 2=.bool false from hvp 2 (by kernel_rfl)))) ((hf 5 132 (by kernel_rfl) rfl).trans (show vs 5=.bool false from hvp 5 (by kernel_rfl)))
       refine ls_fr hF ?_
       refine lv (.bool false) ?_
       exact ls_finp (.bool false) (congrArg (fun z=>upd z 133 _) hF.symm) rfl
      ·refine ⟨fun o ho es vs f' S' hve hvp hf hx hK hE=>?_⟩
       obtain rfl := Option.some.inj ho
       refine ⟨want_none rfl,fun _ _=>?_,(fun _ h=>by cases h),(fun h _=>by cases h),(fun h _=>by cases h)⟩
       have hF := fr_next (rfl) ((hf 6 133 (by kernel_rfl) rfl).trans (show vs 6=.bool false from hvp 6 (by kernel_rfl)))
       refine ls_fr hF ?_
       refine lv (.bool false) ?_
       exact ls_finp (.bool false) (congrArg (fun z=>upd z 134 _) hF.symm) rfl
      ·refine ⟨fun o ho es vs f' S' hve hvp hf hx hK hE=>?_⟩
       obtain rfl := Option.some.inj ho
       refine ⟨want_is (j:=7) (t:=134) rfl rfl (by kernel_rfl) ((hf 7 134 (by kernel_rfl) rfl).trans (show vs 7=.bool false from hvp 7 (by kernel_rfl))) rfl,fun _ _=>?_,(fun _ h=>by cases h),(fun h _=>by cases h),(fun h _=>by cases h)⟩
       have hF := fr_next (fr_next (rfl) ((hx 19 (by kernel_rfl)).trans (by kernel_rfl:(_:Value)=.int .i64 t17.2))) ((hf 7 134 (by kernel_rfl) rfl).trans (show vs 7=.bool false from hvp 7 (by kernel_rfl)))
       refine ls_fr hF ?_
       refine lv (.int .i64 t17.2) ?_
       exact ls_finp (.int .i64 t17.2) (congrArg (fun z=>upd z 135 _) hF.symm) rfl
      ·refine ⟨fun o ho es vs f' S' hve hvp hf hx hK hE=>?_⟩
       obtain rfl := Option.some.inj ho
       refine ⟨want_is (j:=7) (t:=134) rfl rfl (by kernel_rfl) ((hf 7 134 (by kernel_rfl) rfl).trans (show vs 7=.bool false from hvp 7 (by kernel_rfl))) rfl,fun _ _=>?_,(fun _ h=>by cases h),(fun h _=>by cases h),(fun h _=>by cases h)⟩
       have hF := fr_next (fr_next (rfl) ((hf 7 134 (by kernel_rfl) rfl).trans (show vs 7=.bool false from hvp 7 (by kernel_rfl)))) ((hf 8 135 (by kernel_rfl) rfl).trans (show vs 8=.int .i64 t17.2 from hvp 8 (by kernel_rfl)))
       refine ls_fr hF ?_
       refine lv (.bool (!decide (t17.2=(0:Int)))) ?_
       refine ls_ren 136 (v:=.bool (!decide (t17.2=(0:Int)))) (v' := .bool false) (by kernel_rfl) (congrArg Value.bool (show (!decide (t17.2=(0:Int)))=false from congrArg Bool.not (dec_t q54))) ?_
       exact ls_finp (.bool false) ((upd_upd _ _ _ _).trans (congrArg (fun z=>upd z 136 _) hF.symm)) rfl
      ·refine ⟨fun o ho es vs f' S' hve hvp hf hx hK hE=>?_⟩
       obtain rfl := Option.some.inj ho
       refine ⟨want_none rfl,fun _ _=>?_,(fun _ h=>by cases h),(fun h _=>by cases h),(fun h _=>by cases h)⟩
       have hF := fr_next (fr_next (rfl) ((hf 7 134 (by kernel_rfl) rfl).trans (show vs 7=.bool false from hvp 7 (by kernel_rfl)))) ((hf 9 136 (by kernel_rfl) rfl).trans (show vs 9=.bool false from hvp 9 (by kernel_rfl)))
       refine ls_fr hF ?_
       refine lv (.bool false) ?_
       exact ls_finp (.bool false) (congrArg (fun z=>upd z 137 _) hF.symm) rfl
      ·refine ⟨fun o ho es vs f' S' hve hvp hf hx hK hE=>?_⟩
       obtain rfl := Option.some.inj ho
       refine ⟨want_none rfl,fun _ _=>?_,(fun _ h=>by cases h),(fun h _=>by cases h),(fun h _=>by cases h)⟩
       have hF := fr_next (rfl) ((hf 10 137 (by kernel_rfl) rfl).trans (show vs 10=.bool false from hvp 10 (by kernel_rfl)))
       refine ls_fr hF ?_
       refine lv (.bool false) ?_
       exact ls_finp (.bool false) (congrArg (fun z=>upd z 138 _) hF.symm) rfl
      ·refine ⟨fun o ho es vs f' S' hve hvp hf hx hK hE=>?_⟩
       obtain rfl := Option.some.inj ho
       refine ⟨want_is (j:=11) (t:=138) rfl rfl (by kernel_rfl) ((hf 11 138 (by kernel_rfl) rfl).trans (show vs 11=.bool false from hvp 11 (by kernel_rfl))) rfl,fun _ _=>?_,(fun _ h=>by cases h),(fun h _=>by cases h),(fun h _=>by cases h)⟩
       have hF := fr_next (fr_next (rfl) ((hx 18 (by kernel_rfl)).trans (by kernel_rfl:(_:Value)=.slice x19.1 t17.1.length x19.2))) ((hf 11 138 (by kernel_rfl) rfl).trans (show vs 11=.bool false from hvp 11 (by kernel_rfl)))
       refine ls_fr hF ?_
       refine lv (.slice x19.1 t17.1.length x19.2) ?_
       exact ls_finp (.slice x19.1 t17.1.length x19.2) (congrArg (fun z=>upd z 139 _) hF.symm) rfl
      ·refine ⟨fun o ho es vs f' S' hve hvp hf hx hK hE=>?_⟩
       obtain rfl := Option.some.inj ho
       refine ⟨want_is (j:=11) (t:=138) rfl rfl (by kernel_rfl) ((hf 11 138 (by kernel_rfl) rfl).trans (show vs 11=.bool false from hvp 11 (by kernel_rfl))) rfl,fun _ _=>?_,(fun _ h=>by cases h),(fun h _=>by cases h),(fun h _=>by cases h)⟩
       have hF := fr_next (fr_next (rfl) ((hf 11 138 (by kernel_rfl) rfl).trans (show vs 11=.bool false from hvp 11 (by kernel_rfl)))) ((hf 12 139 (by kernel_rfl) rfl).trans (show vs 12=.slice x19.1 t17.1.length x19.2 from hvp 12 (by kernel_rfl)))
       refine ls_fr hF ?_
       refine ls_str (A:=x19.1) (c:=x19.2) (e:=5) (l:=t17.1) rfl rfl (by kernel_rfl) rfl (by kernel_rfl) (by kernel_rfl) (by kernel_rfl) (by kernel_rfl) (fun w hs=>(hs.rd (k:=5) ((hK 5 (by rfl)).trans (by exact rfl)))) ?_
       exact ls_finp (.string (strOfNums t17.1)) (congrArg (fun z=>upd z 140 _) hF.symm) rfl
      ·refine ⟨fun o ho es vs f' S' hve hvp hf hx hK hE=>?_⟩
       obtain rfl := Option.some.inj ho
       refine ⟨want_is (j:=11) (t:=138) rfl rfl (by kernel_rfl) ((hf 11 138 (by kernel_rfl) rfl).trans (show vs 11=.bool false from hvp 11 (by kernel_rfl))) rfl,fun _ _=>?_,(fun _ h=>by cases h),(fun h _=>by cases h),(fun h _=>by cases h)⟩
       have hF := fr_next (fr_next (rfl) ((hx 2 (by kernel_rfl)).trans (by kernel_rfl:(_:Value)=.slice A2_1 l2_1.length c2_1))) ((hf 11 138 (by kernel_rfl) rfl).trans (show vs 11=.bool false from hvp 11 (by kernel_rfl)))
       refine ls_fr hF ?_
       refine lv (.slice A2_1 l2_1.length c2_1) ?_
       exact ls_finp (.slice A2_1 l2_1.length c2_1) (congrArg (fun z=>upd z 141 _) hF.symm) rfl
      ·refine ⟨fun o ho es vs f' S' hve hvp hf hx hK hE=>?_⟩
       obtain rfl := Option.some.inj ho
       refine ⟨want_is (j:=11) (t:=138) rfl rfl (by kernel_rfl) ((hf 11 138 (by kernel_rfl) rfl).trans (show vs 11=.bool false from hvp 11 (by kernel_rfl))) rfl,fun _ _=>?_,(fun _ h=>by cases h),(fun h _=>by cases h),(fun h _=>by cases h)⟩
       have hF := fr_next (fr_next (rfl) ((hf 11 138 (by kernel_rfl) rfl).trans (show vs 11=.bool false from hvp 11 (by kernel_rfl)))) ((hf 14 141 (by kernel_rfl) rfl).trans (show vs 14=.slice A2_1 l2_1.length c2_1 from hvp 14 (by kernel_rfl)))
       refine ls_fr hF ?_
       refine ls_str (A:=A2_1) (c:=c2_1) (e:=5) (l:=l2_1) rfl rfl (by kernel_rfl) rfl (by kernel_rfl) (by kernel_rfl) (by kernel_rfl) (by kernel_rfl) (fun w hs=>(hs.old R2_1)) ?_
       exact ls_finp (.string (strOfNums l2_1)) (congrArg (fun z=>upd z 142 _) hF.symm) rfl
      ·refine ⟨fun o ho es vs f' S' hve hvp hf hx hK hE=>?_⟩
       obtain rfl := Option.some.inj ho
       refine ⟨want_is (j:=11) (t:=138) rfl rfl (by kernel_rfl) ((hf 11 138 (by kernel_rfl) rfl).trans (show vs 11=.bool false from hvp 11 (by kernel_rfl))) rfl,fun _ _=>?_,(fun _ h=>by cases h),(fun h _=>by cases h),(fun h _=>by cases h)⟩
       have hF := fr_next (fr_next (fr_next (rfl) ((hf 11 138 (by kernel_rfl) rfl).trans (show vs 11=.bool false from hvp 11 (by kernel_rfl)))) ((hf 13 140 (by kernel_rfl) rfl).trans (show vs 13=.string (strOfNums t17.1) from hvp 13 (by kernel_rfl)))) ((hf 15 142 (by kernel_rfl) rfl).trans (show vs 15=.string (strOfNums l2_1) from hvp 15 (by kernel_rfl)))
       refine ls_fr hF ?_
       refine lv (.bool (!((strOfNums t17.1).toList==(strOfNums l2_1).toList))) ?_
       refine ls_ren 143 (v:=.bool (!((strOfNums t17.1).toList==(strOfNums l2_1).toList))) (v' := .bool true) (by kernel_rfl) (congrArg Value.bool (show (!((strOfNums t17.1).toList==(strOfNums l2_1).toList))=true from congrArg Bool.not (Bool.eq_false_iff.mpr q55))) ?_
       exact ls_finp (.bool true) ((upd_upd _ _ _ _).trans (congrArg (fun z=>upd z 143 _) hF.symm)) rfl
      ·refine ⟨fun o ho es vs f' S' hve hvp hf hx hK hE=>?_⟩
       obtain rfl := Option.some.inj ho
       refine ⟨want_none rfl,fun _ _=>?_,(fun _ h=>by cases h),(fun h _=>by cases h),(fun h _=>by cases h)⟩
       have hF := fr_next (fr_next (rfl) ((hf 11 138 (by kernel_rfl) rfl).trans (show vs 11=.bool false from hvp 11 (by kernel_rfl)))) ((hf 16 143 (by kernel_rfl) rfl).trans (show vs 16=.bool true from hvp 16 (by kernel_rfl)))
       refine ls_fr hF ?_
       refine lv (.bool true) ?_
       exact ls_finp (.bool true) (congrArg (fun z=>upd z 144 _) hF.symm) rfl
      ·refine ⟨fun o ho es vs f' S' hve hvp hf hx hK hE=>?_⟩
       obtain rfl := Option.some.inj ho
       refine ⟨want_none rfl,fun _ _=>?_,(fun _ h=>by cases h),(fun h _=>by cases h),(fun h _=>by cases h)⟩
       have hF := fr_next (rfl) ((hf 17 144 (by kernel_rfl) rfl).trans (show vs 17=.bool true from hvp 17 (by kernel_rfl)))
       refine ls_fr hF ?_
       refine lv (.bool true) ?_
       exact ls_finp (.bool true) (congrArg (fun z=>upd z 145 _) hF.symm) rfl
      ·refine ⟨fun o ho es vs f' S' hve hvp hf hx hK hE=>?_⟩
       obtain rfl := Option.some.inj ho
       exact ⟨want_is (j:=18) (t:=145) rfl rfl (by kernel_rfl) ((hf 18 145 (by kernel_rfl) rfl).trans (show vs 18=.bool true from hvp 18 (by kernel_rfl))) rfl,(fun _ h=>by cases h),fun _ _=>rfl,(fun h _=>by cases h),(fun h _=>by cases h)⟩
      ·refine ⟨fun o ho es vs f' S' hve hvp hf hx hK hE=>?_⟩
       obtain rfl := Option.some.inj ho
       exact ⟨want_is (j:=18) (t:=145) rfl rfl (by kernel_rfl) ((hf 18 145 (by kernel_rfl) rfl).trans (show vs 18=.bool true from hvp 18 (by kernel_rfl))) rfl,(fun _ h=>by cases h),fun _ _=>rfl,(fun h _=>by cases h),(fun h _=>by cases h)⟩
      refine ⟨fun o ho es vs f' S' hve hvp hf hx hK hE=>?_⟩
      obtain rfl := Option.some.inj ho
      exact ⟨want_is (j:=18) (t:=145) rfl rfl (by kernel_rfl) ((hf 18 145 (by kernel_rfl) rfl).trans (show vs 18=.bool true from hvp 18 (by kernel_rfl))) rfl,(fun _ h=>by cases h),fun _ _=>rfl,(fun h _=>by cases h),(fun h _=>by cases h)⟩
     intro es vs f' S' hve hvp hf hx hK hE
     obtain rfl := hE
     refine ls_fr (F:=upd (upd (upd (upd (upd f' 0 (.int .i64 y2)) 2 (.slice A2_1 l2_1.length c2_1)) 7 (.pointer (some ⟨x6.1,0,none⟩))) 10 (.pointer (some ⟨g16,0,none⟩))) 145 (.bool true)) (fr_next (fr_next (fr_next (fr_next (fr_next (rfl) ((hx 0 (by kernel_rfl)).trans (by kernel_rfl:(_:Value)=.int .i64 y2))) ((hx 2 (by kernel_rfl)).trans (by kernel_rfl:(_:Value)=.slice A2_1 l2_1.length c2_1))) ((hx 7 (by kernel_rfl)).trans (by kernel_rfl:(_:Value)=.pointer (some ⟨x6.1,0,none⟩)))) ((hx 10 (by kernel_rfl)).trans (by kernel_rfl:(_:Value)=.pointer (some ⟨g16,0,none⟩)))) ((hf 18 145 (by kernel_rfl) rfl).trans (show vs 18=.bool true from hvp 18 (by kernel_rfl)))) ?_
     refine ls_sub (sput (sput (sput s0 1 (some (Ck.var 42 x6.1 (([Value.slice (some ⟨x6.2.2.1,0,none⟩) x6.2.2.2.2 x6.2.2.2.1]++([Value.map (some x6.2.1)]++([Value.bool t9.2.2.1.2.2.1]++([Value.int .i64 t9.2.2.1.2.2.2.1]++[Value.bool t9.2.2.1.2.2.2.2])))))))) 2 (some (Ck.mr T56 x6.2.1 x6.2.2.1 x6.2.2.2.1 x6.2.2.2.2 t9.2.2.2))) 4 (some (Ck.var 30 g16 (([Value.int .i64 t13.1]++([Value.int .i64 t13.2.1]++([Value.int .i64 t13.2.2.1]++([Value.int .u32 t13.2.2.2.1]++en (Value.int .u8) t13.2.2.2.2.1)))))))) (sub_put (by exact rfl) (sub_put (by exact rfl) (sub_put (by exact rfl) (sub_nil _)))) ?_
     refine lofx 18 145 false true ?_
     refine lofx 18 145 false true ?_
     refine lv (.bool true) ?_
     refine ls_end ?_
     refine qn_then ?_
     refine cs_true (by kernel_rfl) ?_
     refine cs_seq ?_
     refine cs_region (l:=[_]) ?_
     refine lv (.bool false) ?_
     refine ls_end ?_
     refine qn_then ?_
     refine cs_ret' ?_
     refine qr_then ?_
     obtain rfl := Option.some.inj H
     refine qr_res (rs:=[_]) rfl (fun w' hs=>⟨[.bool false],(res_tmp (by kernel_rfl) (.nil)),(),rfl,hs.pick (ts:=[]) (cs:=[]) trivial (by decide)⟩)
    replace H := ite_f q54 H
    refine cs_sub (sput (sput (sput (sput (sput s0 1 (some (Ck.var 42 x6.1 (([Value.slice (some ⟨x6.2.2.1,0,none⟩) x6.2.2.2.2 x6.2.2.2.1]++([Value.map (some x6.2.1)]++([Value.bool t9.2.2.1.2.2.1]++([Value.int .i64 t9.2.2.1.2.2.2.1]++[Value.bool t9.2.2.1.2.2.2.2])))))))) 2 (some (Ck.mr T56 x6.2.1 x6.2.2.1 x6.2.2.2.1 x6.2.2.2.2 t9.2.2.2))) 3 (some (Ck.var 30 g12 (([Value.int .i64 t9.1.1]++([Value.int .i64 t9.1.2.1]++([Value.int .i64 t9.1.2.2.1]++([Value.int .u32 t9.1.2.2.2.1]++en (Value.int .u8) t9.1.2.2.2.2.1)))))))) 4 (some (Ck.var 30 g16 (([Value.int .i64 t13.1]++([Value.int .i64 t13.2.1]++([Value.int .i64 t13.2.2.1]++([Value.int .u32 t13.2.2.2.1]++en (Value.int .u8) t13.2.2.2.2.1)))))))) 5 (some (Ck.sl (Ec.int 5 .u8) x19.1 x19.2 t17.1))) (sub_put (by exact rfl) (sub_put (by exact rfl) (sub_put (by exact rfl) (sub_put (by exact rfl) (sub_put (by exact rfl) (sub_nil _)))))) ?_
    refine cs_chain (l:=[_,_,_,_,_,_,_,_,_,_,_,_,_,_,_,_,_,_,_,_,_,_,_,_,_]) [[],[0],[0,1],[0,1,2],[0,1,2],[0,1,2,3,4],[0,1,2,3,4,5],[0,1,2,3,4,5,6],[0,1,2,3,4,5,6,7],[0,1,2,3,4,5,6,7,8],[0,1,2,3,4,5,6,7,8,9],[0,1,2,3,4,5,6,7,8,9,10],[0,1,2,3,4,5,6,7,8,9,10,11],[0,1,2,3,4,5,6,7,8,9,10,11,12],[0,1,2,3,4,5,6,7,8,9,10,11],[0,1,2,3,4,5,6,7,8,9,10,11,14],[0,1,2,3,4,5,6,7,8,9,10,11,12,13,14,15],[0,1,2,3,4,5,6,7,8,9,10,11,12,13,14,15,16],[0,1,2,3,4,5,6,7,8,9,10,11,12,13,14,15,16,17],[0,1,2,3,4,5,6,7,8,9,10,11,12,13,14,15,16,17,18],[0,1,2,3,4,5,6,7,8,9,10,11,12,13,14,15,16,17,18,19],[0,1,2,3,4,5,6,7,8,9,10,11,12,13,14,15,16,17,18],[0,1,2,3,4,5,6,7,8,9,10,11,12,13,14,15,16,17,18,19,20,21],[0,1,2,3,4,5,6,7,8,9,10,11,12,13,14,15,16,17,18,19,20,21,22],[0,1,2,3,4,5,6,7,8,9,10,11,12,13,14,15,16,17,18,19,20,21,22,23]] 22 (fun u=>[1,2,3,4,5].contains u) (efl [false,false,false,false,false,false,false,false,false,false,false,false,false,false,false,false,false,false,false,false,false,false]) (pvl [.val (.int .i64 t9.2.1),.val (.bool false),.val (.bool false),.val (.agg ⟨([Value.int .i64 t9.1.1]++([Value.int .i64 t9.1.2.1]++([Value.int .i64 t9.1.2.2.1]++([Value.int .u32 t9.1.2.2.2.1]++en (Value.int .u8) t9.1.2.2.2.2.1))))⟩),.val (.agg ⟨([Value.int .i64 t13.1]++([Value.int .i64 t13.2.1]++([Value.int .i64 t13.2.2.1]++([Value.int .u32 t13.2.2.2.1]++en (Value.int .u8) t13.2.2.2.2.1))))⟩),.val (.bool false),.val (.bool false),.val (.bool false),.val (.int .i64 t17.2),.val (.bool true),.val (.bool true),.val (.bool true),.val (undef),.val (undef),.val (undef),.val (undef),.val (undef),.val (.bool true),.val (.bool true),.val (undef),.val (undef),.val (undef)]) (Esl [fun (es:Nat→Value) (S':Sto)=>S'=sput (sput (sput (sput (sput s0 1 (some (Ck.var 42 x6.1 (([Value.slice (some ⟨x6.2.2.1,0,none⟩) x6.2.2.2.2 x6.2.2.2.1]++([Value.map (some x6.2.1)]++([Value.bool t9.2.2.1.2.2.1]++([Value.int .i64 t9.2.2.1.2.2.2.1]++[Value.bool t9.2.2.1.2.2.2.2])))))))) 2 (some (Ck.mr T56 x6.2.1 x6.2.2.1 x6.2.2.2.1 x6.2.2.2.2 t9.2.2.2))) 3 (some (Ck.var 30 g12 (([Value.int .i64 t9.1.1]++([Value.int .i64 t9.1.2.1]++([Value.int .i64 t9.1.2.2.1]++([Value.int .u32 t9.1.2.2.2.1]++en (Value.int .u8) t9.1.2.2.2.2.1)))))))) 4 (some (Ck.var 30 g16 (([Value.int .i64 t13.1]++([Value.int .i64 t13.2.1]++([Value.int .i64 t13.2.2.1]++([Value.int .u32 t13.2.2.2.1]++en (Value.int .u8) t13.2.2.2.2.1)))))))) 5 (some (Ck.sl (Ec.int 5 .u8) x19.1 x19.2 t17.1))] [0,0,0,0,0,0,0,0,0,0,0,0,0,0,0,0,0,0,0,0,0,0,0]) (nxl [0,0,0,0,0,0,0,0,0,0,0,0,0,0,0,0,0,0,0,0,0,0]) (onl [true,true,true,true,true,true,true,true,true,true,true,true,false,false,false,false,false,true,true,false,false,false]) 22 (by kernel_rfl) (by kernel_rfl) (by kernel_rfl) (by kernel_rfl) (by kernel_rfl) (rs:=[_,_,_]) rfl (by kernel_rfl) (by kernel_rfl) (fun es=>?_) ?_ ?_
    ·exact (rfl:sput (sput (sput (sput (sput s0 1 (some (Ck.var 42 x6.1 (([Value.slice (some ⟨x6.2.2.1,0,none⟩) x6.2.2.2.2 x6.2.2.2.1]++([Value.map (some x6.2.1)]++([Value.bool t9.2.2.1.2.2.1]++([Value.int .i64 t9.2.2.1.2.2.2.1]++[Value.bool t9.2.2.1.2.2.2.2])))))))) 2 (some (Ck.mr T56 x6.2.1 x6.2.2.1 x6.2.2.2.1 x6.2.2.2.2 t9.2.2.2))) 3 (some (Ck.var 30 g12 (([Value.int .i64 t9.1.1]++([Value.int .i64 t9.1.2.1]++([Value.int .i64 t9.1.2.2.1]++([Value.int .u32 t9.1.2.2.2.1]++en (Value.int .u8) t9.1.2.2.2.2.1)))))))) 4 (some (Ck.var 30 g16 (([Value.int .i64 t13.1]++([Value.int .i64 t13.2.1]++([Value.int .i64 t13.2.2.1]++([Value.int .u32 t13.2.2.2.1]++en (Value.int .u8) t13.2.2.2.2.1)))))))) 5 (some (Ck.sl (Ec.int 5 .u8) x19.1 x19.2 t17.1))=sput (sput (sput (sput (sput s0 1 (some (Ck.var 42 x6.1 (([Value.slice (some ⟨x6.2.2.1,0,none⟩) x6.2.2.2.2 x6.2.2.2.1]++([Value.map (some x6.2.1)]++([Value.bool t9.2.2.1.2.2.1]++([Value.int .i64 t9.2.2.1.2.2.2.1]++[Value.bool t9.2.2.1.2.2.2.2])))))))) 2 (some (Ck.mr T56 x6.2.1 x6.2.2.1 x6.2.2.2.1 x6.2.2.2.2 t9.2.2.2))) 3 (some (Ck.var 30 g12 (([Value.int .i64 t9.1.1]++([Value.int .i64 t9.1.2.1]++([Value.int .i64 t9.1.2.2.1]++([Value.int .u32 t9.1.2.2.2.1]++en (Value.int .u8) t9.1.2.2.2.2.1)))))))) 4 (some (Ck.var 30 g16 (([Value.int .i64 t13.1]++([Value.int .i64 t13.2.1]++([Value.int .i64 t13.2.2.1]++([Value.int .u32 t13.2.2.2.1]++en (Value.int .u8) t13.2.2.2.2.1)))))))) 5 (some (Ck.sl (Ec.int 5 .u8) x19.1 x19.2 t17.1)))
    ·refine all_snoc (all_snoc (all_snoc (all_snoc (all_snoc (all_snoc (all_snoc (all_snoc (all_snoc (all_snoc (all_snoc (all_snoc (all_snoc (all_snoc (all_snoc (all_snoc (all_snoc (all_snoc (all_snoc (all_snoc (all_snoc (all_snoc (all_nil) ?_) ?_) ?_) ?_) ?_) ?_) ?_) ?_) ?_) ?_) ?_) ?_) ?_) ?_) ?_) ?_) ?_) ?_) ?_) ?_) ?_) ?_
     ·refine ⟨fun o ho es vs f' S' hve hvp hf hx hK hE=>?_⟩
      obtain rfl := Option.some.inj ho
      refine ⟨want_none rfl,fun _ _=>?_,(fun _ h=>by cases h),(fun h _=>by cases h),(fun h _=>by cases h)⟩
      have hF := fr_next (rfl) ((hx 8 (by kernel_rfl)).trans (by kernel_rfl:(_:Value)=.int .i64 t9.2.1))
      refine ls_fr hF ?_
      refine lv (.int .i64 t9.2.1) ?_
      exact ls_finp (.int .i64 t9.2.1) (congrArg (fun z=>upd z 127 _) hF.symm) rfl
     ·refine ⟨fun o ho es vs f' S' hve hvp hf hx hK hE=>?_⟩
      obtain rfl := Option.some.inj ho
      refine ⟨want_none rfl,fun _ _=>?_,(fun _ h=>by cases h),(fun h _=>by cases h),(fun h _=>by cases h)⟩
      have hF := fr_next (rfl) ((hf 0 127 (by kernel_rfl) rfl).trans (show vs 0=.int .i64 t9.2.1 from hvp 0 (by kernel_rfl)))
      refine ls_fr hF ?_
      refine lv (.bool (!decide (t9.2.1=(0:Int)))) ?_
      refine ls_ren 128 (v:=.bool (!decide (t9.2.1=(0:Int)))) (v' := .bool false) (by kernel_rfl) (congrArg Value.bool (show (!decide (t9.2.1=(0:Int)))=false from congrArg Bool.not (dec_t q52))) ?_
      exact ls_finp (.bool false) ((upd_upd _ _ _ _).trans (congrArg (fun z=>upd z 128 _) hF.symm)) rfl
     ·refine ⟨fun o ho es vs f' S' hve hvp hf hx hK hE=>?_⟩
      obtain rfl := Option.some.inj ho
      refine ⟨want_none rfl,fun _ _=>?_,(fun _ h=>by cases h),(fun h _=>by cases h),(fun h _=>by cases h)⟩
      have hF := fr_next (rfl) ((hf 1 128 (by kernel_rfl) rfl).trans (show vs 1=.bool false from hvp 1 (by kernel_rfl)))
      refine ls_fr hF ?_
      refine lv (.bool false) ?_
      exact ls_finp (.bool false) (congrArg (fun z=>upd z 129 _) hF.symm) rfl
     ·refine ⟨fun o ho es vs f' S' hve hvp hf hx hK hE=>?_⟩
      obtain rfl := Option.some.inj ho
      refine ⟨want_is (j:=2) (t:=129) rfl rfl (by kernel_rfl) ((hf 2 129 (by kernel_rfl) rfl).trans (show vs 2=.bool false from hvp 2 (by kernel_rfl))) rfl,fun _ _=>?_,(fun _ h=>by cases h),(fun h _=>by cases h),(fun h _=>by cases h)⟩
      have hF := fr_next (fr_next (rfl) ((hx 9 (by kernel_rfl)).trans (by kernel_rfl:(_:Value)=.pointer (some ⟨g12,0,none⟩)))) ((hf 2 129 (by kernel_rfl) rfl).trans (show vs 2=.bool false from hvp 2 (by kernel_rfl)))
      refine ls_fr hF ?_
      refine ls_loadagg (a:=⟨g12,0,none⟩) (sub:=([Value.int .i64 t9.1.1]++([Value.int .i64 t9.1.2.1]++([Value.int .i64 t9.1.2.2.1]++([Value.int .u32 t9.1.2.2.2.1]++en (Value.int .u8) t9.1.2.2.2.2.1))))) rfl rfl (by kernel_rfl) rfl (by kernel_rfl) (by kernel_rfl) (by kernel_rfl) (len_app (len1 _) (len_app (len1 _) (len_app (len1 _) (len_app (len1 _) (len_en _ t9.1.2.2.2.2))))) (fun w hs=>(hs.vars (k:=3) ((hK 3 (by rfl)).trans (by exact rfl)) (Sub4.all _))) ?_
      exact ls_finp (.agg ⟨([Value.int .i64 t9.1.1]++([Value.int .i64 t9.1.2.1]++([Value.int .i64 t9.1.2.2.1]++([Value.int .u32 t9.1.2.2.2.1]++en (Value.int .u8) t9.1.2.2.2.2.1))))⟩) (congrArg (fun z=>upd z 130 _) hF.symm) rfl
     ·refine ⟨fun o ho es vs f' S' hve hvp hf hx hK hE=>?_⟩
      obtain rfl := Option.some.inj ho
      refine ⟨want_is (j:=2) (t:=129) rfl rfl (by kernel_rfl) ((hf 2 129 (by kernel_rfl) rfl).trans (show vs 2=.bool false from hvp 2 (by kernel_rfl))) rfl,fun _ _=>?_,(fun _ h=>by cases h),(fun h _=>by cases h),(fun h _=>by cases h)⟩
      have hF := fr_next (fr_next (rfl) ((hx 10 (by kernel_rfl)).trans (by kernel_rfl:(_:Value)=.pointer (some ⟨g16,0,none⟩)))) ((hf 2 129 (by kernel_rfl) rfl).trans (show vs 2=.bool false from hvp 2 (by kernel_rfl)))
      refine ls_fr hF ?_
      refine ls_loadagg (a:=⟨g16,0,none⟩) (sub:=([Value.int .i64 t13.1]++([Value.int .i64 t13.2.1]++([Value.int .i64 t13.2.2.1]++([Value.int .u32 t13.2.2.2.1]++en (Value.int .u8) t13.2.2.2.2.1))))) rfl rfl (by kernel_rfl) rfl (by kernel_rfl) (by kernel_rfl) (by kernel_rfl) (len_app (len1 _) (len_app (len1 _) (len_app (len1 _) (len_app (len1 _) (len_en _ t13.2.2.2.2))))) (fun w hs=>(hs.vars (k:=4) ((hK 4 (by rfl)).trans (by exact rfl)) (Sub4.all _))) ?_
      exact ls_finp (.agg ⟨([Value.int .i64 t13.1]++([Value.int .i64 t13.2.1]++([Value.int .i64 t13.2.2.1]++([Value.int .u32 t13.2.2.2.1]++en (Value.int .u8) t13.2.2.2.2.1))))⟩) (congrArg (fun z=>upd z 131 _) hF.symm) rfl
     ·refine ⟨fun o ho es vs f' S' hve hvp hf hx hK hE=>?_⟩
      obtain rfl := Option.some.inj ho
      refine ⟨want_is (j:=2) (t:=129) rfl rfl (by kernel_rfl) ((hf 2 129 (by kernel_rfl) rfl).trans (show vs 2=.bool false from hvp 2 (by kernel_rfl))) rfl,fun _ _=>?_,(fun _ h=>by cases h),(fun h _=>by cases h),(fun h _=>by cases h)⟩
      have hF := fr_next (fr_next (fr_next (rfl) ((hf 2 129 (by kernel_rfl) rfl).trans (show vs 2=.bool false from hvp 2 (by kernel_rfl)))) ((hf 3 130 (by kernel_rfl) rfl).trans (show vs 3=.agg ⟨([Value.int .i64 t9.1.1]++([Value.int .i64 t9.1.2.1]++([Value.int .i64 t9.1.2.2.1]++([Value.int .u32 t9.1.2.2.2.1]++en (Value.int .u8) t9.1.2.2.2.2.1))))⟩ from hvp 3 (by kernel_rfl)))) ((hf 4 131 (by kernel_rfl) rfl).trans (show vs 4=.agg ⟨([Value.int .i64 t13.1]++([Value.int .i64 t13.2.1]++([Value.int .i64 t13.2.2.1]++([Value.int .u32 t13.2.2.2.1]++en (Value.int .u8) t13.2.2.2.2.1))))⟩ from hvp 4 (by kernel_rfl)))
      refine ls_fr hF ?_
      refine ls_neq (xs:=([Value.int .i64 t9.1.1]++([Value.int .i64 t9.1.2.1]++([Value.int .i64 t9.1.2.2.1]++([Value.int .u32 t9.1.2.2.2.1]++en (Value.int .u8) t9.1.2.2.2.2.1))))) (ys:=([Value.int .i64 t13.1]++([Value.int .i64 t13.2.1]++([Value.int .i64 t13.2.2.1]++([Value.int .u32 t13.2.2.2.1]++en (Value.int .u8) t13.2.2.2.2.1))))) (r:=((t9.1.1==t13.1)&&((t9.1.2.1==t13.2.1)&&((t9.1.2.2.1==t13.2.2.1)&&((t9.1.2.2.2.1==t13.2.2.2.1)&&(t9.1.2.2.2.2.1==t13.2.2.2.2.1)))))) rfl rfl (by kernel_rfl) rfl (by kernel_rfl) (by kernel_rfl) (by kernel_rfl) (eq_st (by kernel_rfl) (by kernel_rfl) (eqf_cons (ft:=3) (fo:=0) (by kernel_rfl) (part_one (by kernel_rfl) (Sub4.trans (Sub4.all _) (Sub4.head _ _))) (part_one (by kernel_rfl) (Sub4.trans (Sub4.all _) (Sub4.head _ _))) (eq_int (by kernel_rfl) _ _ _) (eqf_cons (ft:=3) (fo:=1) (by kernel_rfl) (part_one (by kernel_rfl) (Sub4.trans (Sub4.all _) (Sub4.skip (n:=1) (len1 _) (Sub4.head _ _)))) (part_one (by kernel_rfl) (Sub4.trans (Sub4.all _) (Sub4.skip (n:=1) (len1 _) (Sub4.head _ _)))) (eq_int (by kernel_rfl) _ _ _) (eqf_cons (ft:=3) (fo:=2) (by kernel_rfl) (part_one (by kernel_rfl) (Sub4.trans (Sub4.all _) (Sub4.skip (n:=1) (len1 _) (Sub4.skip (n:=1) (len1 _) (Sub4.head _ _))))) (part_one (by kernel_rfl) (Sub4.trans (Sub4.all _) (Sub4.skip (n:=1) (len1 _) (Sub4.skip (n:=1) (len1 _) (Sub4.head _ _))))) (eq_int (by kernel_rfl) _ _ _) (eqf_cons (ft:=23) (fo:=3) (by kernel_rfl) (part_one (by kernel_rfl) (Sub4.trans (Sub4.all _) (Sub4.skip (n:=1) (len1 _) (Sub4.skip (n:=1) (len1 _) (Sub4.skip (n:=1) (len1 _) (Sub4.head _ _)))))) (part_one (by kernel_rfl) (Sub4.trans (Sub4.all _) (Sub4.skip (n:=1) (len1 _) (Sub4.skip (n:=1) (len1 _) (Sub4.skip (n:=1) (len1 _) (Sub4.head _ _)))))) (eq_int (by kernel_rfl) _ _ _) (eqf_last (ft:=28) (fo:=4) (by kernel_rfl) (part_agg (by kernel_rfl) (by kernel_rfl) (len_en _ t9.1.2.2.2.2) (Sub4.trans (Sub4.all _) (Sub4.skip (n:=1) (len1 _) (Sub4.skip (n:=1) (len1 _) (Sub4.skip (n:=1) (len1 _) (Sub4.skip (n:=1) (len1 _) (Sub4.all _))))))) (part_agg (by kernel_rfl) (by kernel_rfl) (len_en _ t13.2.2.2.2) (Sub4.trans (Sub4.all _) (Sub4.skip (n:=1) (len1 _) (Sub4.skip (n:=1) (len1 _) (Sub4.skip (n:=1) (len1 _) (Sub4.skip (n:=1) (len1 _) (Sub4.all _))))))) (eq_ints (e:=5) (ln:=32) (by kernel_rfl) (by kernel_rfl) (by kernel_rfl) t9.1.2.2.2.2.2 t13.2.2.2.2.2 _) (by kernel_rfl))))))) ?_
      refine ls_ren 132 (v:=.bool (!((t9.1.1==t13.1)&&((t9.1.2.1==t13.2.1)&&((t9.1.2.2.1==t13.2.2.1)&&((t9.1.2.2.2.1==t13.2.2.2.1)&&(t9.1.2.2.2.2.1==t13.2.2.2.2.1))))))) (v' := .bool false) (by kernel_rfl) (congrArg Value.bool (show (!((t9.1.1==t13.1)&&((t9.1.2.1==t13.2.1)&&((t9.1.2.2.1==t13.2.2.1)&&((t9.1.2.2.2.1==t13.2.2.2.1)&&(t9.1.2.2.2.2.1==t13.2.2.2.2.1))))))=false from congrArg Bool.not (q53))) ?_
      exact ls_finp (.bool false) ((upd_upd _ _ _ _).trans (congrArg (fun z=>upd z 132 _) hF.symm)) rfl
     ·refine ⟨fun o ho es vs f' S' hve hvp hf hx hK hE=>?_⟩
      obtain rfl := Option.some.inj ho
      refine ⟨want_none rfl,fun _ _=>?_,(fun _ h=>by cases h),(fun h _=>by cases h),(fun h _=>by cases h)⟩
      have hF := fr_next (fr_next (rfl) ((hf 2 129 (by kernel_rfl) rfl).trans (show vs 2=.bool false from hvp 2 (by kernel_rfl)))) ((hf 5 132 (by kernel_rfl) rfl).trans (show vs 5=.bool false from hvp 5 (by kernel_rfl)))
      refine ls_fr hF ?_
      refine lv (.bool false) ?_
      exact ls_finp (.bool false) (congrArg (fun z=>upd z 133 _) hF.symm) rfl
     ·refine ⟨fun o ho es vs f' S' hve hvp hf hx hK hE=>?_⟩
      obtain rfl := Option.some.inj ho
      refine ⟨want_none rfl,fun _ _=>?_,(fun _ h=>by cases h),(fun h _=>by cases h),(fun h _=>by cases h)⟩
      have hF := fr_next (rfl) ((hf 6 133 (by kernel_rfl) rfl).trans (show vs 6=.bool false from hvp 6 (by kernel_rfl)))
      refine ls_fr hF ?_
      refine lv (.bool false) ?_
      exact ls_finp (.bool false) (congrArg (fun z=>upd z 134 _) hF.symm) rfl
     ·refine ⟨fun o ho es vs f' S' hve hvp hf hx hK hE=>?_⟩
      obtain rfl := Option.some.inj ho
      refine ⟨want_is (j:=7) (t:=134) rfl rfl (by kernel_rfl) ((hf 7 134 (by kernel_rfl) rfl).trans (show vs 7=.bool false from hvp 7 (by kernel_rfl))) rfl,fun _ _=>?_,(fun _ h=>by cases h),(fun h _=>by cases h),(fun h _=>by cases h)⟩
      have hF := fr_next (fr_next (rfl) ((hx 19 (by kernel_rfl)).trans (by kernel_rfl:(_:Value)=.int .i64 t17.2))) ((hf 7 134 (by kernel_rfl) rfl).trans (show vs 7=.bool false from hvp 7 (by kernel_rfl)))
      refine ls_fr hF ?_
      refine lv (.int .i64 t17.2) ?_
      exact ls_finp (.int .i64 t17.2) (congrArg (fun z=>upd z 135 _) hF.symm) rfl
     ·refine ⟨fun o ho es vs f' S' hve hvp hf hx hK hE=>?_⟩
      obtain rfl := Option.some.inj ho
      refine ⟨want_is (j:=7) (t:=134) rfl rfl (by kernel_rfl) ((hf 7 134 (by kernel_rfl) rfl).trans (show vs 7=.bool false from hvp 7 (by kernel_rfl))) rfl,fun _ _=>?_,(fun _ h=>by cases h),(fun h _=>by cases h),(fun h _=>by cases h)⟩
      have hF := fr_next (fr_next (rfl) ((hf 7 134 (by kernel_rfl) rfl).trans (show vs 7=.bool false from hvp 7 (by kernel_rfl)))) ((hf 8 135 (by kernel_rfl) rfl).trans (show vs 8=.int .i64 t17.2 from hvp 8 (by kernel_rfl)))
      refine ls_fr hF ?_
      refine lv (.bool (!decide (t17.2=(0:Int)))) ?_
      refine ls_ren 136 (v:=.bool (!decide (t17.2=(0:Int)))) (v' := .bool true) (by kernel_rfl) (congrArg Value.bool (show (!decide (t17.2=(0:Int)))=true from congrArg Bool.not (dec_f q54))) ?_
      exact ls_finp (.bool true) ((upd_upd _ _ _ _).trans (congrArg (fun z=>upd z 136 _) hF.symm)) rfl
     ·refine ⟨fun o ho es vs f' S' hve hvp hf hx hK hE=>?_⟩
      obtain rfl := Option.some.inj ho
      refine ⟨want_none rfl,fun _ _=>?_,(fun _ h=>by cases h),(fun h _=>by cases h),(fun h _=>by cases h)⟩
      have hF := fr_next (fr_next (rfl) ((hf 7 134 (by kernel_rfl) rfl).trans (show vs 7=.bool false from hvp 7 (by kernel_rfl)))) ((hf 9 136 (by kernel_rfl) rfl).trans (show vs 9=.bool true from hvp 9 (by kernel_rfl)))
      refine ls_fr hF ?_
      refine lv (.bool true) ?_
      exact ls_finp (.bool true) (congrArg (fun z=>upd z 137 _) hF.symm) rfl
     ·refine ⟨fun o ho es vs f' S' hve hvp hf hx hK hE=>?_⟩
      obtain rfl := Option.some.inj ho
      refine ⟨want_none rfl,fun _ _=>?_,(fun _ h=>by cases h),(fun h _=>by cases h),(fun h _=>by cases h)⟩
      have hF := fr_next (rfl) ((hf 10 137 (by kernel_rfl) rfl).trans (show vs 10=.bool true from hvp 10 (by kernel_rfl)))
      refine ls_fr hF ?_
      refine lv (.bool true) ?_
      exact ls_finp (.bool true) (congrArg (fun z=>upd z 138 _) hF.symm) rfl
     ·refine ⟨fun o ho es vs f' S' hve hvp hf hx hK hE=>?_⟩
      obtain rfl := Option.some.inj ho
      exact ⟨want_is (j:=11) (t:=138) rfl rfl (by kernel_rfl) ((hf 11 138 (by kernel_rfl) rfl).trans (show vs 11=.bool true from hvp 11 (by kernel_rfl))) rfl,(fun _ h=>by cases h),fun _ _=>rfl,(fun h _=>by cases h),(fun h _=>by cases h)⟩
     ·refine ⟨fun o ho es vs f' S' hve hvp hf hx hK hE=>?_⟩
      obtain rfl := Option.some.inj ho
      exact ⟨want_is (j:=11) (t:=138) rfl rfl (by kernel_rfl) ((hf 11 138 (by kernel_rfl) rfl).trans (show vs 11=.bool true from hvp 11 (by kernel_rfl))) rfl,(fun _ h=>by cases h),fun _ _=>rfl,(fun h _=>by cases h),(fun h _=>by cases h)⟩
     ·refine ⟨fun o ho es vs f' S' hve hvp hf hx hK hE=>?_⟩
      obtain rfl := Option.some.inj ho
      exact ⟨want_is (j:=11) (t:=138) rfl rfl (by kernel_rfl) ((hf 11 138 (by kernel_rfl) rfl).trans (show vs 11=.bool true from hvp 11 (by kernel_rfl))) rfl,(fun _ h=>by cases h),fun _ _=>rfl,(fun h _=>by cases h),(fun h _=>by cases h)⟩
     ·refine ⟨fun o ho es vs f' S' hve hvp hf hx hK hE=>?_⟩
      obtain rfl := Option.some.inj ho
      exact ⟨want_is (j:=11) (t:=138) rfl rfl (by kernel_rfl) ((hf 11 138 (by kernel_rfl) rfl).trans (show vs 11=.bool true from hvp 11 (by kernel_rfl))) rfl,(fun _ h=>by cases h),fun _ _=>rfl,(fun h _=>by cases h),(fun h _=>by cases h)⟩
     ·refine ⟨fun o ho es vs f' S' hve hvp hf hx hK hE=>?_⟩
      obtain rfl := Option.some.inj ho
      exact ⟨want_is (j:=11) (t:=138) rfl rfl (by kernel_rfl) ((hf 11 138 (by kernel_rfl) rfl).trans (show vs 11=.bool true from hvp 11 (by kernel_rfl))) rfl,(fun _ h=>by cases h),fun _ _=>rfl,(fun h _=>by cases h),(fun h _=>by cases h)⟩
     ·refine ⟨fun o ho es vs f' S' hve hvp hf hx hK hE=>?_⟩
      obtain rfl := Option.some.inj ho
      refine ⟨want_none rfl,fun _ _=>?_,(fun _ h=>by cases h),(fun h _=>by cases h),(fun h _=>by cases h)⟩
      have hF := fr_next (fr_next (rfl) ((hf 11 138 (by kernel_rfl) rfl).trans (show vs 11=.bool true from hvp 11 (by kernel_rfl)))) ((hf 16 143 (by kernel_rfl) rfl).trans (show vs 16=undef from hvp 16 (by kernel_rfl)))
      refine ls_fr hF ?_
      refine lv (.bool true) ?_
      exact ls_finp (.bool true) (congrArg (fun z=>upd z 144 _) hF.symm) rfl
     ·refine ⟨fun o ho es vs f' S' hve hvp hf hx hK hE=>?_⟩
      obtain rfl := Option.some.inj ho
      refine ⟨want_none rfl,fun _ _=>?_,(fun _ h=>by cases h),(fun h _=>by cases h),(fun h _=>by cases h)⟩
      have hF := fr_next (rfl) ((hf 17 144 (by kernel_rfl) rfl).trans (show vs 17=.bool true from hvp 17 (by kernel_rfl)))
      refine ls_fr hF ?_
      refine lv (.bool true) ?_
      exact ls_finp (.bool true) (congrArg (fun z=>upd z 145 _) hF.symm) rfl
     ·refine ⟨fun o ho es vs f' S' hve hvp hf hx hK hE=>?_⟩
      obtain rfl := Option.some.inj ho
      exact ⟨want_is (j:=18) (t:=145) rfl rfl (by kernel_rfl) ((hf 18 145 (by kernel_rfl) rfl).trans (show vs 18=.bool true from hvp 18 (by kernel_rfl))) rfl,(fun _ h=>by cases h),fun _ _=>rfl,(fun h _=>by cases h),(fun h _=>by cases h)⟩
     ·refine ⟨fun o ho es vs f' S' hve hvp hf hx hK hE=>?_⟩
      obtain rfl := Option.some.inj ho
      exact ⟨want_is (j:=18) (t:=145) rfl rfl (by kernel_rfl) ((hf 18 145 (by kernel_rfl) rfl).trans (show vs 18=.bool true from hvp 18 (by kernel_rfl))) rfl,(fun _ h=>by cases h),fun _ _=>rfl,(fun h _=>by cases h),(fun h _=>by cases h)⟩
     refine ⟨fun o ho es vs f' S' hve hvp hf hx hK hE=>?_⟩
     obtain rfl := Option.some.inj ho
     exact ⟨want_is (j:=18) (t:=145) rfl rfl (by kernel_rfl) ((hf 18 145 (by kernel_rfl) rfl).trans (show vs 18=.bool true from hvp 18 (by kernel_rfl))) rfl,(fun _ h=>by cases h),fun _ _=>rfl,(fun h _=>by cases h),(fun h _=>by cases h)⟩
    intro es vs f' S' hve hvp hf hx hK hE
    obtain rfl := hE
    refine ls_fr (F:=upd (upd (upd (upd (upd f' 0 (.int .i64 y2)) 2 (.slice A2_1 l2_1.length c2_1)) 7 (.pointer (some ⟨x6.1,0,none⟩))) 10 (.pointer (some ⟨g16,0,none⟩))) 145 (.bool true)) (fr_next (fr_next (fr_next (fr_next (fr_next (rfl) ((hx 0 (by kernel_rfl)).trans (by kernel_rfl:(_:Value)=.int .i64 y2))) ((hx 2 (by kernel_rfl)).trans (by kernel_rfl:(_:Value)=.slice A2_1 l2_1.length c2_1))) ((hx 7 (by kernel_rfl)).trans (by kernel_rfl:(_:Value)=.pointer (some ⟨x6.1,0,none⟩)))) ((hx 10 (by kernel_rfl)).trans (by kernel_rfl:(_:Value)=.pointer (some ⟨g16,0,none⟩)))) ((hf 18 145 (by kernel_rfl) rfl).trans (show vs 18=.bool true from hvp 18 (by kernel_rfl)))) ?_
    refine ls_sub (sput (sput (sput s0 1 (some (Ck.var 42 x6.1 (([Value.slice (some ⟨x6.2.2.1,0,none⟩) x6.2.2.2.2 x6.2.2.2.1]++([Value.map (some x6.2.1)]++([Value.bool t9.2.2.1.2.2.1]++([Value.int .i64 t9.2.2.1.2.2.2.1]++[Value.bool t9.2.2.1.2.2.2.2])))))))) 2 (some (Ck.mr T56 x6.2.1 x6.2.2.1 x6.2.2.2.1 x6.2.2.2.2 t9.2.2.2))) 4 (some (Ck.var 30 g16 (([Value.int .i64 t13.1]++([Value.int .i64 t13.2.1]++([Value.int .i64 t13.2.2.1]++([Value.int .u32 t13.2.2.2.1]++en (Value.int .u8) t13.2.2.2.2.1)))))))) (sub_put (by exact rfl) (sub_put (by exact rfl) (sub_put (by exact rfl) (sub_nil _)))) ?_
    refine lofx 18 145 false true ?_
    refine lofx 18 145 false true ?_
    refine lv (.bool true) ?_
    refine ls_end ?_
    refine qn_then ?_
    refine cs_true (by kernel_rfl) ?_
    refine cs_seq ?_
    refine cs_region (l:=[_]) ?_
    refine lv (.bool false) ?_
    refine ls_end ?_
    refine qn_then ?_
    refine cs_ret' ?_
    refine qr_then ?_
    obtain rfl := Option.some.inj H
    refine qr_res (rs:=[_]) rfl (fun w' hs=>⟨[.bool false],(res_tmp (by kernel_rfl) (.nil)),(),rfl,hs.pick (ts:=[]) (cs:=[]) trivial (by decide)⟩)
   replace H := ite_f q53 H
   refine cs_sub (sput (sput (sput (sput (sput s0 1 (some (Ck.var 42 x6.1 (([Value.slice (some ⟨x6.2.2.1,0,none⟩) x6.2.2.2.2 x6.2.2.2.1]++([Value.map (some x6.2.1)]++([Value.bool t9.2.2.1.2.2.1]++([Value.int .i64 t9.2.2.1.2.2.2.1]++[Value.bool t9.2.2.1.2.2.2.2])))))))) 2 (some (Ck.mr T56 x6.2.1 x6.2.2.1 x6.2.2.2.1 x6.2.2.2.2 t9.2.2.2))) 3 (some (Ck.var 30 g12 (([Value.int .i64 t9.1.1]++([Value.int .i64 t9.1.2.1]++([Value.int .i64 t9.1.2.2.1]++([Value.int .u32 t9.1.2.2.2.1]++en (Value.int .u8) t9.1.2.2.2.2.1)))))))) 4 (some (Ck.var 30 g16 (([Value.int .i64 t13.1]++([Value.int .i64 t13.2.1]++([Value.int .i64 t13.2.2.1]++([Value.int .u32 t13.2.2.2.1]++en (Value.int .u8) t13.2.2.2.2.1)))))))) 5 (some (Ck.sl (Ec.int 5 .u8) x19.1 x19.2 t17.1))) (sub_put (by exact rfl) (sub_put (by exact rfl) (sub_put (by exact rfl) (sub_put (by exact rfl) (sub_put (by exact rfl) (sub_nil _)))))) ?_
   refine cs_chain (l:=[_,_,_,_,_,_,_,_,_,_,_,_,_,_,_,_,_,_,_,_,_,_,_,_,_]) [[],[0],[0,1],[0,1,2],[0,1,2],[0,1,2,3,4],[0,1,2,3,4,5],[0,1,2,3,4,5,6],[0,1,2,3,4,5,6,7],[0,1,2,3,4,5,6,7,8],[0,1,2,3,4,5,6,7,8,9],[0,1,2,3,4,5,6,7,8,9,10],[0,1,2,3,4,5,6,7,8,9,10,11],[0,1,2,3,4,5,6,7,8,9,10,11,12],[0,1,2,3,4,5,6,7,8,9,10,11],[0,1,2,3,4,5,6,7,8,9,10,11,14],[0,1,2,3,4,5,6,7,8,9,10,11,12,13,14,15],[0,1,2,3,4,5,6,7,8,9,10,11,12,13,14,15,16],[0,1,2,3,4,5,6,7,8,9,10,11,12,13,14,15,16,17],[0,1,2,3,4,5,6,7,8,9,10,11,12,13,14,15,16,17,18],[0,1,2,3,4,5,6,7,8,9,10,11,12,13,14,15,16,17,18,19],[0,1,2,3,4,5,6,7,8,9,10,11,12,13,14,15,16,17,18],[0,1,2,3,4,5,6,7,8,9,10,11,12,13,14,15,16,17,18,19,20,21],[0,1,2,3,4,5,6,7,8,9,10,11,12,13,14,15,16,17,18,19,20,21,22],[0,1,2,3,4,5,6,7,8,9,10,11,12,13,14,15,16,17,18,19,20,21,22,23]] 22 (fun u=>[1,2,3,4,5].contains u) (efl [false,false,false,false,false,false,false,false,false,false,false,false,false,false,false,false,false,false,false,false,false,false]) (pvl [.val (.int .i64 t9.2.1),.val (.bool false),.val (.bool false),.val (.agg ⟨([Value.int .i64 t9.1.1]++([Value.int .i64 t9.1.2.1]++([Value.int .i64 t9.1.2.2.1]++([Value.int .u32 t9.1.2.2.2.1]++en (Value.int .u8) t9.1.2.2.2.2.1))))⟩),.val (.agg ⟨([Value.int .i64 t13.1]++([Value.int .i64 t13.2.1]++([Value.int .i64 t13.2.2.1]++([Value.int .u32 t13.2.2.2.1]++en (Value.int .u8) t13.2.2.2.2.1))))⟩),.val (.bool true),.val (.bool true),.val (.bool true),.val (undef),.val (undef),.val (.bool true),.val (.bool true),.val (undef),.val (undef),.val (undef),.val (undef),.val (undef),.val (.bool true),.val (.bool true),.val (undef),.val (undef),.val (undef)]) (Esl [fun (es:Nat→Value) (S':Sto)=>S'=sput (sput (sput (sput (sput s0 1 (some (Ck.var 42 x6.1 (([Value.slice (some ⟨x6.2.2.1,0,none⟩) x6.2.2.2.2 x6.2.2.2.1]++([Value.map (some x6.2.1)]++([Value.bool t9.2.2.1.2.2.1]++([Value.int .i64 t9.2.2.1.2.2.2.1]++[Value.bool t9.2.2.1.2.2.2.2])))))))) 2 (some (Ck.mr T56 x6.2.1 x6.2.2.1 x6.2.2.2.1 x6.2.2.2.2 t9.2.2.2))) 3 (some (Ck.var 30 g12 (([Value.int .i64 t9.1.1]++([Value.int .i64 t9.1.2.1]++([Value.int .i64 t9.1.2.2.1]++([Value.int .u32 t9.1.2.2.2.1]++en (Value.int .u8) t9.1.2.2.2.2.1)))))))) 4 (some (Ck.var 30 g16 (([Value.int .i64 t13.1]++([Value.int .i64 t13.2.1]++([Value.int .i64 t13.2.2.1]++([Value.int .u32 t13.2.2.2.1]++en (Value.int .u8) t13.2.2.2.2.1)))))))) 5 (some (Ck.sl (Ec.int 5 .u8) x19.1 x19.2 t17.1))] [0,0,0,0,0,0,0,0,0,0,0,0,0,0,0,0,0,0,0,0,0,0,0]) (nxl [0,0,0,0,0,0,0,0,0,0,0,0,0,0,0,0,0,0,0,0,0,0]) (onl [true,true,true,true,true,true,true,true,false,false,true,true,false,false,false,false,false,true,true,false,false,false]) 22 (by kernel_rfl) (by kernel_rfl) (by kernel_rfl) (by kernel_rfl) (by kernel_rfl) (rs:=[_,_,_]) rfl (by kernel_rfl) (by kernel_rfl) (fun es=>?_) ?_ ?_
   ·exact (rfl:sput (sput (sput (sput (sput s0 1 (some (Ck.var 42 x6.1 (([Value.slice (some ⟨x6.2.2.1,0,none⟩) x6.2.2.2.2 x6.2.2.2.1]++([Value.map (some x6.2.1)]++([Value.bool t9.2.2.1.2.2.1]++([Value.int .i64 t9.2.2.1.2.2.2.1]++[Value.bool t9.2.2.1.2.2.2.2])))))))) 2 (some (Ck.mr T56 x6.2.1 x6.2.2.1 x6.2.2.2.1 x6.2.2.2.2 t9.2.2.2))) 3 (some (Ck.var 30 g12 (([Value.int .i64 t9.1.1]++([Value.int .i64 t9.1.2.1]++([Value.int .i64 t9.1.2.2.1]++([Value.int .u32 t9.1.2.2.2.1]++en (Value.int .u8) t9.1.2.2.2.2.1)))))))) 4 (some (Ck.var 30 g16 (([Value.int .i64 t13.1]++([Value.int .i64 t13.2.1]++([Value.int .i64 t13.2.2.1]++([Value.int .u32 t13.2.2.2.1]++en (Value.int .u8) t13.2.2.2.2.1)))))))) 5 (some (Ck.sl (Ec.int 5 .u8) x19.1 x19.2 t17.1))=sput (sput (sput (sput (sput s0 1 (some (Ck.var 42 x6.1 (([Value.slice (some ⟨x6.2.2.1,0,none⟩) x6.2.2.2.2 x6.2.2.2.1]++([Value.map (some x6.2.1)]++([Value.bool t9.2.2.1.2.2.1]++([Value.int .i64 t9.2.2.1.2.2.2.1]++[Value.bool t9.2.2.1.2.2.2.2])))))))) 2 (some (Ck.mr T56 x6.2.1 x6.2.2.1 x6.2.2.2.1 x6.2.2.2.2 t9.2.2.2))) 3 (some (Ck.var 30 g12 (([Value.int .i64 t9.1.1]++([Value.int .i64 t9.1.2.1]++([Value.int .i64 t9.1.2.2.1]++([Value.int .u32 t9.1.2.2.2.1]++en (Value.int .u8) t9.1.2.2.2.2.1)))))))) 4 (some (Ck.var 30 g16 (([Value.int .i64 t13.1]++([Value.int .i64 t13.2.1]++([Value.int .i64 t13.2.2.1]++([Value.int .u32 t13.2.2.2.1]++en (Value.int .u8) t13.2.2.2.2.1)))))))) 5 (some (Ck.sl (Ec.int 5 .u8) x19.1 x19.2 t17.1)))
   ·refine all_snoc (all_snoc (all_snoc (all_snoc (all_snoc (all_snoc (all_snoc (all_snoc (all_snoc (all_snoc (all_snoc (all_snoc (all_snoc (all_snoc (all_snoc (all_snoc (all_snoc (all_snoc (all_snoc (all_snoc (all_snoc (all_snoc (all_nil) ?_) ?_) ?_) ?_) ?_) ?_) ?_) ?_) ?_) ?_) ?_) ?_) ?_) ?_) ?_) ?_) ?_) ?_) ?_) ?_) ?_) ?_
    ·refine ⟨fun o ho es vs f' S' hve hvp hf hx hK hE=>?_⟩
     obtain rfl := Option.some.inj ho
     refine ⟨want_none rfl,fun _ _=>?_,(fun _ h=>by cases h),(fun h _=>by cases h),(fun h _=>by cases h)⟩
     have hF := fr_next (rfl) ((hx 8 (by kernel_rfl)).trans (by kernel_rfl:(_:Value)=.int .i64 t9.2.1))
     refine ls_fr hF ?_
     refine lv (.int .i64 t9.2.1) ?_
     exact ls_finp (.int .i64 t9.2.1) (congrArg (fun z=>upd z 127 _) hF.symm) rfl
    ·refine ⟨fun o ho es vs f' S' hve hvp hf hx hK hE=>?_⟩
     obtain rfl := Option.some.inj ho
     refine ⟨want_none rfl,fun _ _=>?_,(fun _ h=>by cases h),(fun h _=>by cases h),(fun h _=>by cases h)⟩
     have hF := fr_next (rfl) ((hf 0 127 (by kernel_rfl) rfl).trans (show vs 0=.int .i64 t9.2.1 from hvp 0 (by kernel_rfl)))
     refine ls_fr hF ?_
     refine lv (.bool (!decide (t9.2.1=(0:Int)))) ?_
     refine ls_ren 128 (v:=.bool (!decide (t9.2.1=(0:Int)))) (v' := .bool false) (by kernel_rfl) (congrArg Value.bool (show (!decide (t9.2.1=(0:Int)))=false from congrArg Bool.not (dec_t q52))) ?_
     exact ls_finp (.bool false) ((upd_upd _ _ _ _).trans (congrArg (fun z=>upd z 128 _) hF.symm)) rfl
    ·refine ⟨fun o ho es vs f' S' hve hvp hf hx hK hE=>?_⟩
     obtain rfl := Option.some.inj ho
     refine ⟨want_none rfl,fun _ _=>?_,(fun _ h=>by cases h),(fun h _=>by cases h),(fun h _=>by cases h)⟩
     have hF := fr_next (rfl) ((hf 1 128 (by kernel_rfl) rfl).trans (show vs 1=.bool false from hvp 1 (by kernel_rfl)))
     refine ls_fr hF ?_
     refine lv (.bool false) ?_
     exact ls_finp (.bool false) (congrArg (fun z=>upd z 129 _) hF.symm) rfl
    ·refine ⟨fun o ho es vs f' S' hve hvp hf hx hK hE=>?_⟩
     obtain rfl := Option.some.inj ho
     refine ⟨want_is (j:=2) (t:=129) rfl rfl (by kernel_rfl) ((hf 2 129 (by kernel_rfl) rfl).trans (show vs 2=.bool false from hvp 2 (by kernel_rfl))) rfl,fun _ _=>?_,(fun _ h=>by cases h),(fun h _=>by cases h),(fun h _=>by cases h)⟩
     have hF := fr_next (fr_next (rfl) ((hx 9 (by kernel_rfl)).trans (by kernel_rfl:(_:Value)=.pointer (some ⟨g12,0,none⟩)))) ((hf 2 129 (by kernel_rfl) rfl).trans (show vs 2=.bool false from hvp 2 (by kernel_rfl)))
     refine ls_fr hF ?_
     refine ls_loadagg (a:=⟨g12,0,none⟩) (sub:=([Value.int .i64 t9.1.1]++([Value.int .i64 t9.1.2.1]++([Value.int .i64 t9.1.2.2.1]++([Value.int .u32 t9.1.2.2.2.1]++en (Value.int .u8) t9.1.2.2.2.2.1))))) rfl rfl (by kernel_rfl) rfl (by kernel_rfl) (by kernel_rfl) (by kernel_rfl) (len_app (len1 _) (len_app (len1 _) (len_app (len1 _) (len_app (len1 _) (len_en _ t9.1.2.2.2.2))))) (fun w hs=>(hs.vars (k:=3) ((hK 3 (by rfl)).trans (by exact rfl)) (Sub4.all _))) ?_
     exact ls_finp (.agg ⟨([Value.int .i64 t9.1.1]++([Value.int .i64 t9.1.2.1]++([Value.int .i64 t9.1.2.2.1]++([Value.int .u32 t9.1.2.2.2.1]++en (Value.int .u8) t9.1.2.2.2.2.1))))⟩) (congrArg (fun z=>upd z 130 _) hF.symm) rfl
    ·refine ⟨fun o ho es vs f' S' hve hvp hf hx hK hE=>?_⟩
     obtain rfl := Option.some.inj ho
     refine ⟨want_is (j:=2) (t:=129) rfl rfl (by kernel_rfl) ((hf 2 129 (by kernel_rfl) rfl).trans (show vs 2=.bool false from hvp 2 (by kernel_rfl))) rfl,fun _ _=>?_,(fun _ h=>by cases h),(fun h _=>by cases h),(fun h _=>by cases h)⟩
     have hF := fr_next (fr_next (rfl) ((hx 10 (by kernel_rfl)).trans (by kernel_rfl:(_:Value)=.pointer (some ⟨g16,0,none⟩)))) ((hf 2 129 (by kernel_rfl) rfl).trans (show vs 2=.bool false from hvp 2 (by kernel_rfl)))
     refine ls_fr hF ?_
     refine ls_loadagg (a:=⟨g16,0,none⟩) (sub:=([Value.int .i64 t13.1]++([Value.int .i64 t13.2.1]++([Value.int .i64 t13.2.2.1]++([Value.int .u32 t13.2.2.2.1]++en (Value.int .u8) t13.2.2.2.2.1))))) rfl rfl (by kernel_rfl) rfl (by kernel_rfl) (by kernel_rfl) (by kernel_rfl) (len_app (len1 _) (len_app (len1 _) (len_app (len1 _) (len_app (len1 _) (len_en _ t13.2.2.2.2))))) (fun w hs=>(hs.vars (k:=4) ((hK 4 (by rfl)).trans (by exact rfl)) (Sub4.all _))) ?_
     exact ls_finp (.agg ⟨([Value.int .i64 t13.1]++([Value.int .i64 t13.2.1]++([Value.int .i64 t13.2.2.1]++([Value.int .u32 t13.2.2.2.1]++en (Value.int .u8) t13.2.2.2.2.1))))⟩) (congrArg (fun z=>upd z 131 _) hF.symm) rfl
    ·refine ⟨fun o ho es vs f' S' hve hvp hf hx hK hE=>?_⟩
     obtain rfl := Option.some.inj ho
     refine ⟨want_is (j:=2) (t:=129) rfl rfl (by kernel_rfl) ((hf 2 129 (by kernel_rfl) rfl).trans (show vs 2=.bool false from hvp 2 (by kernel_rfl))) rfl,fun _ _=>?_,(fun _ h=>by cases h),(fun h _=>by cases h),(fun h _=>by cases h)⟩
     have hF := fr_next (fr_next (fr_next (rfl) ((hf 2 129 (by kernel_rfl) rfl).trans (show vs 2=.bool false from hvp 2 (by kernel_rfl)))) ((hf 3 130 (by kernel_rfl) rfl).trans (show vs 3=.agg ⟨([Value.int .i64 t9.1.1]++([Value.int .i64 t9.1.2.1]++([Value.int .i64 t9.1.2.2.1]++([Value.int .u32 t9.1.2.2.2.1]++en (Value.int .u8) t9.1.2.2.2.2.1))))⟩ from hvp 3 (by kernel_rfl)))) ((hf 4 131 (by kernel_rfl) rfl).trans (show vs 4=.agg ⟨([Value.int .i64 t13.1]++([Value.int .i64 t13.2.1]++([Value.int .i64 t13.2.2.1]++([Value.int .u32 t13.2.2.2.1]++en (Value.int .u8) t13.2.2.2.2.1))))⟩ from hvp 4 (by kernel_rfl)))
     refine ls_fr hF ?_
     refine ls_neq (xs:=([Value.int .i64 t9.1.1]++([Value.int .i64 t9.1.2.1]++([Value.int .i64 t9.1.2.2.1]++([Value.int .u32 t9.1.2.2.2.1]++en (Value.int .u8) t9.1.2.2.2.2.1))))) (ys:=([Value.int .i64 t13.1]++([Value.int .i64 t13.2.1]++([Value.int .i64 t13.2.2.1]++([Value.int .u32 t13.2.2.2.1]++en (Value.int .u8) t13.2.2.2.2.1))))) (r:=((t9.1.1==t13.1)&&((t9.1.2.1==t13.2.1)&&((t9.1.2.2.1==t13.2.2.1)&&((t9.1.2.2.2.1==t13.2.2.2.1)&&(t9.1.2.2.2.2.1==t13.2.2.2.2.1)))))) rfl rfl (by kernel_rfl) rfl (by kernel_rfl) (by kernel_rfl) (by kernel_rfl) (eq_st (by kernel_rfl) (by kernel_rfl) (eqf_cons (ft:=3) (fo:=0) (by kernel_rfl) (part_one (by kernel_rfl) (Sub4.trans (Sub4.all _) (Sub4.head _ _))) (part_one (by kernel_rfl) (Sub4.trans (Sub4.all _) (Sub4.head _ _))) (eq_int (by kernel_rfl) _ _ _) (eqf_cons (ft:=3) (fo:=1) (by kernel_rfl) (part_one (by kernel_rfl) (Sub4.trans (Sub4.all _) (Sub4.skip (n:=1) (len1 _) (Sub4.head _ _)))) (part_one (by kernel_rfl) (Sub4.trans (Sub4.all _) (Sub4.skip (n:=1) (len1 _) (Sub4.head _ _)))) (eq_int (by kernel_rfl) _ _ _) (eqf_cons (ft:=3) (fo:=2) (by kernel_rfl) (part_one (by kernel_rfl) (Sub4.trans (Sub4.all _) (Sub4.skip (n:=1) (len1 _) (Sub4.skip (n:=1) (len1 _) (Sub4.head _ _))))) (part_one (by kernel_rfl) (Sub4.trans (Sub4.all _) (Sub4.skip (n:=1) (len1 _) (Sub4.skip (n:=1) (len1 _) (Sub4.head _ _))))) (eq_int (by kernel_rfl) _ _ _) (eqf_cons (ft:=23) (fo:=3) (by kernel_rfl) (part_one (by kernel_rfl) (Sub4.trans (Sub4.all _) (Sub4.skip (n:=1) (len1 _) (Sub4.skip (n:=1) (len1 _) (Sub4.skip (n:=1) (len1 _) (Sub4.head _ _)))))) (part_one (by kernel_rfl) (Sub4.trans (Sub4.all _) (Sub4.skip (n:=1) (len1 _) (Sub4.skip (n:=1) (len1 _) (Sub4.skip (n:=1) (len1 _) (Sub4.head _ _)))))) (eq_int (by kernel_rfl) _ _ _) (eqf_last (ft:=28) (fo:=4) (by kernel_rfl) (part_agg (by kernel_rfl) (by kernel_rfl) (len_en _ t9.1.2.2.2.2) (Sub4.trans (Sub4.all _) (Sub4.skip (n:=1) (len1 _) (Sub4.skip (n:=1) (len1 _) (Sub4.skip (n:=1) (len1 _) (Sub4.skip (n:=1) (len1 _) (Sub4.all _))))))) (part_agg (by kernel_rfl) (by kernel_rfl) (len_en _ t13.2.2.2.2) (Sub4.trans (Sub4.all _) (Sub4.skip (n:=1) (len1 _) (Sub4.skip (n:=1) (len1 _) (Sub4.skip (n:=1) (len1 _) (Sub4.skip (n:=1) (len1 _) (Sub4.all _))))))) (eq_ints (e:=5) (ln:=32) (by kernel_rfl) (by kernel_rfl) (by kernel_rfl) t9.1.2.2.2.2.2 t13.2.2.2.2.2 _) (by kernel_rfl))))))) ?_
     refine ls_ren 132 (v:=.bool (!((t9.1.1==t13.1)&&((t9.1.2.1==t13.2.1)&&((t9.1.2.2.1==t13.2.2.1)&&((t9.1.2.2.2.1==t13.2.2.2.1)&&(t9.1.2.2.2.2.1==t13.2.2.2.2.1))))))) (v' := .bool true) (by kernel_rfl) (congrArg Value.bool (show (!((t9.1.1==t13.1)&&((t9.1.2.1==t13.2.1)&&((t9.1.2.2.1==t13.2.2.1)&&((t9.1.2.2.2.1==t13.2.2.2.1)&&(t9.1.2.2.2.2.1==t13.2.2.2.2.1))))))=true from congrArg Bool.not (Bool.eq_false_iff.mpr q53))) ?_
     exact ls_finp (.bool true) ((upd_upd _ _ _ _).trans (congrArg (fun z=>upd z 132 _) hF.symm)) rfl
    ·refine ⟨fun o ho es vs f' S' hve hvp hf hx hK hE=>?_⟩
     obtain rfl := Option.some.inj ho
     refine ⟨want_none rfl,fun _ _=>?_,(fun _ h=>by cases h),(fun h _=>by cases h),(fun h _=>by cases h)⟩
     have hF := fr_next (fr_next (rfl) ((hf 2 129 (by kernel_rfl) rfl).trans (show vs 2=.bool false from hvp 2 (by kernel_rfl)))) ((hf 5 132 (by kernel_rfl) rfl).trans (show vs 5=.bool true from hvp 5 (by kernel_rfl)))
     refine ls_fr hF ?_
     refine lv (.bool true) ?_
     exact ls_finp (.bool true) (congrArg (fun z=>upd z 133 _) hF.symm) rfl
    ·refine ⟨fun o ho es vs f' S' hve hvp hf hx hK hE=>?_⟩
     obtain rfl := Option.some.inj ho
     refine ⟨want_none rfl,fun _ _=>?_,(fun _ h=>by cases h),(fun h _=>by cases h),(fun h _=>by cases h)⟩
     have hF := fr_next (rfl) ((hf 6 133 (by kernel_rfl) rfl).trans (show vs 6=.bool true from hvp 6 (by kernel_rfl)))
     refine ls_fr hF ?_
     refine lv (.bool true) ?_
     exact ls_finp (.bool true) (congrArg (fun z=>upd z 134 _) hF.symm) rfl
    ·refine ⟨fun o ho es vs f' S' hve hvp hf hx hK hE=>?_⟩
     obtain rfl := Option.some.inj ho
     exact ⟨want_is (j:=7) (t:=134) rfl rfl (by kernel_rfl) ((hf 7 134 (by kernel_rfl) rfl).trans (show vs 7=.bool true from hvp 7 (by kernel_rfl))) rfl,(fun _ h=>by cases h),fun _ _=>rfl,(fun h _=>by cases h),(fun h _=>by cases h)⟩
    ·refine ⟨fun o ho es vs f' S' hve hvp hf hx hK hE=>?_⟩
     obtain rfl := Option.some.inj ho
     exact ⟨want_is (j:=7) (t:=134) rfl rfl (by kernel_rfl) ((hf 7 134 (by kernel_rfl) rfl).trans (show vs 7=.bool true from hvp 7 (by kernel_rfl))) rfl,(fun _ h=>by cases h),fun _ _=>rfl,(fun h _=>by cases h),(fun h _=>by cases h)⟩
    ·refine ⟨fun o ho es vs f' S' hve hvp hf hx hK hE=>?_⟩
     obtain rfl := Option.some.inj ho
     refine ⟨want_none rfl,fun _ _=>?_,(fun _ h=>by cases h),(fun h _=>by cases h),(fun h _=>by cases h)⟩
     have hF := fr_next (fr_next (rfl) ((hf 7 134 (by kernel_rfl) rfl).trans (show vs 7=.bool true from hvp 7 (by kernel_rfl)))) ((hf 9 136 (by kernel_rfl) rfl).trans (show vs 9=undef from hvp 9 (by kernel_rfl)))
     refine ls_fr hF ?_
     refine lv (.bool true) ?_
     exact ls_finp (.bool true) (congrArg (fun z=>upd z 137 _) hF.symm) rfl
    ·refine ⟨fun o ho es vs f' S' hve hvp hf hx hK hE=>?_⟩
     obtain rfl := Option.some.inj ho
     refine ⟨want_none rfl,fun _ _=>?_,(fun _ h=>by cases h),(fun h _=>by cases h),(fun h _=>by cases h)⟩
     have hF := fr_next (rfl) ((hf 10 137 (by kernel_rfl) rfl).trans (show vs 10=.bool true from hvp 10 (by kernel_rfl)))
     refine ls_fr hF ?_
     refine lv (.bool true) ?_
     exact ls_finp (.bool true) (congrArg (fun z=>upd z 138 _) hF.symm) rfl
    ·refine ⟨fun o ho es vs f' S' hve hvp hf hx hK hE=>?_⟩
     obtain rfl := Option.some.inj ho
     exact ⟨want_is (j:=11) (t:=138) rfl rfl (by kernel_rfl) ((hf 11 138 (by kernel_rfl) rfl).trans (show vs 11=.bool true from hvp 11 (by kernel_rfl))) rfl,(fun _ h=>by cases h),fun _ _=>rfl,(fun h _=>by cases h),(fun h _=>by cases h)⟩
    ·refine ⟨fun o ho es vs f' S' hve hvp hf hx hK hE=>?_⟩
     obtain rfl := Option.some.inj ho
     exact ⟨want_is (j:=11) (t:=138) rfl rfl (by kernel_rfl) ((hf 11 138 (by kernel_rfl) rfl).trans (show vs 11=.bool true from hvp 11 (by kernel_rfl))) rfl,(fun _ h=>by cases h),fun _ _=>rfl,(fun h _=>by cases h),(fun h _=>by cases h)⟩
    ·refine ⟨fun o ho es vs f' S' hve hvp hf hx hK hE=>?_⟩
     obtain rfl := Option.some.inj ho
     exact ⟨want_is (j:=11) (t:=138) rfl rfl (by kernel_rfl) ((hf 11 138 (by kernel_rfl) rfl).trans (show vs 11=.bool true from hvp 11 (by kernel_rfl))) rfl,(fun _ h=>by cases h),fun _ _=>rfl,(fun h _=>by cases h),(fun h _=>by cases h)⟩
    ·refine ⟨fun o ho es vs f' S' hve hvp hf hx hK hE=>?_⟩
     obtain rfl := Option.some.inj ho
     exact ⟨want_is (j:=11) (t:=138) rfl rfl (by kernel_rfl) ((hf 11 138 (by kernel_rfl) rfl).trans (show vs 11=.bool true from hvp 11 (by kernel_rfl))) rfl,(fun _ h=>by cases h),fun _ _=>rfl,(fun h _=>by cases h),(fun h _=>by cases h)⟩
    ·refine ⟨fun o ho es vs f' S' hve hvp hf hx hK hE=>?_⟩
     obtain rfl := Option.some.inj ho
     exact ⟨want_is (j:=11) (t:=138) rfl rfl (by kernel_rfl) ((hf 11 138 (by kernel_rfl) rfl).trans (show vs 11=.bool true from hvp 11 (by kernel_rfl))) rfl,(fun _ h=>by cases h),fun _ _=>rfl,(fun h _=>by cases h),(fun h _=>by cases h)⟩
    ·refine ⟨fun o ho es vs f' S' hve hvp hf hx hK hE=>?_⟩
     obtain rfl := Option.some.inj ho
     refine ⟨want_none rfl,fun _ _=>?_,(fun _ h=>by cases h),(fun h _=>by cases h),(fun h _=>by cases h)⟩
     have hF := fr_next (fr_next (rfl) ((hf 11 138 (by kernel_rfl) rfl).trans (show vs 11=.bool true from hvp 11 (by kernel_rfl)))) ((hf 16 143 (by kernel_rfl) rfl).trans (show vs 16=undef from hvp 16 (by kernel_rfl)))
     refine ls_fr hF ?_
     refine lv (.bool true) ?_
     exact ls_finp (.bool true) (congrArg (fun z=>upd z 144 _) hF.symm) rfl
    ·refine ⟨fun o ho es vs f' S' hve hvp hf hx hK hE=>?_⟩
     obtain rfl := Option.some.inj ho
     refine ⟨want_none rfl,fun _ _=>?_,(fun _ h=>by cases h),(fun h _=>by cases h),(fun h _=>by cases h)⟩
     have hF := fr_next (rfl) ((hf 17 144 (by kernel_rfl) rfl).trans (show vs 17=.bool true from hvp 17 (by kernel_rfl)))
     refine ls_fr hF ?_
     refine lv (.bool true) ?_
     exact ls_finp (.bool true) (congrArg (fun z=>upd z 145 _) hF.symm) rfl
    ·refine ⟨fun o ho es vs f' S' hve hvp hf hx hK hE=>?_⟩
     obtain rfl := Option.some.inj ho
     exact ⟨want_is (j:=18) (t:=145) rfl rfl (by kernel_rfl) ((hf 18 145 (by kernel_rfl) rfl).trans (show vs 18=.bool true from hvp 18 (by kernel_rfl))) rfl,(fun _ h=>by cases h),fun _ _=>rfl,(fun h _=>by cases h),(fun h _=>by cases h)⟩
    ·refine ⟨fun o ho es vs f' S' hve hvp hf hx hK hE=>?_⟩
     obtain rfl := Option.some.inj ho
     exact ⟨want_is (j:=18) (t:=145) rfl rfl (by kernel_rfl) ((hf 18 145 (by kernel_rfl) rfl).trans (show vs 18=.bool true from hvp 18 (by kernel_rfl))) rfl,(fun _ h=>by cases h),fun _ _=>rfl,(fun h _=>by cases h),(fun h _=>by cases h)⟩
    refine ⟨fun o ho es vs f' S' hve hvp hf hx hK hE=>?_⟩
    obtain rfl := Option.some.inj ho
    exact ⟨want_is (j:=18) (t:=145) rfl rfl (by kernel_rfl) ((hf 18 145 (by kernel_rfl) rfl).trans (show vs 18=.bool true from hvp 18 (by kernel_rfl))) rfl,(fun _ h=>by cases h),fun _ _=>rfl,(fun h _=>by cases h),(fun h _=>by cases h)⟩
   intro es vs f' S' hve hvp hf hx hK hE
   obtain rfl := hE
   refine ls_fr (F:=upd (upd (upd (upd (upd f' 0 (.int .i64 y2)) 2 (.slice A2_1 l2_1.length c2_1)) 7 (.pointer (some ⟨x6.1,0,none⟩))) 10 (.pointer (some ⟨g16,0,none⟩))) 145 (.bool true)) (fr_next (fr_next (fr_next (fr_next (fr_next (rfl) ((hx 0 (by kernel_rfl)).trans (by kernel_rfl:(_:Value)=.int .i64 y2))) ((hx 2 (by kernel_rfl)).trans (by kernel_rfl:(_:Value)=.slice A2_1 l2_1.length c2_1))) ((hx 7 (by kernel_rfl)).trans (by kernel_rfl:(_:Value)=.pointer (some ⟨x6.1,0,none⟩)))) ((hx 10 (by kernel_rfl)).trans (by kernel_rfl:(_:Value)=.pointer (some ⟨g16,0,none⟩)))) ((hf 18 145 (by kernel_rfl) rfl).trans (show vs 18=.bool true from hvp 18 (by kernel_rfl)))) ?_
   refine ls_sub (sput (sput (sput s0 1 (some (Ck.var 42 x6.1 (([Value.slice (some ⟨x6.2.2.1,0,none⟩) x6.2.2.2.2 x6.2.2.2.1]++([Value.map (some x6.2.1)]++([Value.bool t9.2.2.1.2.2.1]++([Value.int .i64 t9.2.2.1.2.2.2.1]++[Value.bool t9.2.2.1.2.2.2.2])))))))) 2 (some (Ck.mr T56 x6.2.1 x6.2.2.1 x6.2.2.2.1 x6.2.2.2.2 t9.2.2.2))) 4 (some (Ck.var 30 g16 (([Value.int .i64 t13.1]++([Value.int .i64 t13.2.1]++([Value.int .i64 t13.2.2.1]++([Value.int .u32 t13.2.2.2.1]++en (Value.int .u8) t13.2.2.2.2.1)))))))) (sub_put (by exact rfl) (sub_put (by exact rfl) (sub_put (by exact rfl) (sub_nil _)))) ?_
   refine lofx 18 145 false true ?_
   refine lofx 18 145 false true ?_
   refine lv (.bool true) ?_
   refine ls_end ?_
   refine qn_then ?_
   refine cs_true (by kernel_rfl) ?_
   refine cs_seq ?_
   refine cs_region (l:=[_]) ?_
   refine lv (.bool false) ?_
   refine ls_end ?_
   refine qn_then ?_
   refine cs_ret' ?_
   refine qr_then ?_
   obtain rfl := Option.some.inj H
   refine qr_res (rs:=[_]) rfl (fun w' hs=>⟨[.bool false],(res_tmp (by kernel_rfl) (.nil)),(),rfl,hs.pick (ts:=[]) (cs:=[]) trivial (by decide)⟩)
  replace H := ite_f q52 H
  refine cs_sub (sput (sput (sput (sput (sput s0 1 (some (Ck.var 42 x6.1 (([Value.slice (some ⟨x6.2.2.1,0,none⟩) x6.2.2.2.2 x6.2.2.2.1]++([Value.map (some x6.2.1)]++([Value.bool t9.2.2.1.2.2.1]++([Value.int .i64 t9.2.2.1.2.2.2.1]++[Value.bool t9.2.2.1.2.2.2.2])))))))) 2 (some (Ck.mr T56 x6.2.1 x6.2.2.1 x6.2.2.2.1 x6.2.2.2.2 t9.2.2.2))) 3 (some (Ck.var 30 g12 (([Value.int .i64 t9.1.1]++([Value.int .i64 t9.1.2.1]++([Value.int .i64 t9.1.2.2.1]++([Value.int .u32 t9.1.2.2.2.1]++en (Value.int .u8) t9.1.2.2.2.2.1)))))))) 4 (some (Ck.var 30 g16 (([Value.int .i64 t13.1]++([Value.int .i64 t13.2.1]++([Value.int .i64 t13.2.2.1]++([Value.int .u32 t13.2.2.2.1]++en (Value.int .u8) t13.2.2.2.2.1)))))))) 5 (some (Ck.sl (Ec.int 5 .u8) x19.1 x19.2 t17.1))) (sub_put (by exact rfl) (sub_put (by exact rfl) (sub_put (by exact rfl) (sub_put (by exact rfl) (sub_put (by exact rfl) (sub_nil _)))))) ?_
  refine cs_chain (l:=[_,_,_,_,_,_,_,_,_,_,_,_,_,_,_,_,_,_,_,_,_,_,_,_,_]) [[],[0],[0,1],[0,1,2],[0,1,2],[0,1,2,3,4],[0,1,2,3,4,5],[0,1,2,3,4,5,6],[0,1,2,3,4,5,6,7],[0,1,2,3,4,5,6,7,8],[0,1,2,3,4,5,6,7,8,9],[0,1,2,3,4,5,6,7,8,9,10],[0,1,2,3,4,5,6,7,8,9,10,11],[0,1,2,3,4,5,6,7,8,9,10,11,12],[0,1,2,3,4,5,6,7,8,9,10,11],[0,1,2,3,4,5,6,7,8,9,10,11,14],[0,1,2,3,4,5,6,7,8,9,10,11,12,13,14,15],[0,1,2,3,4,5,6,7,8,9,10,11,12,13,14,15,16],[0,1,2,3,4,5,6,7,8,9,10,11,12,13,14,15,16,17],[0,1,2,3,4,5,6,7,8,9,10,11,12,13,14,15,16,17,18],[0,1,2,3,4,5,6,7,8,9,10,11,12,13,14,15,16,17,18,19],[0,1,2,3,4,5,6,7,8,9,10,11,12,13,14,15,16,17,18],[0,1,2,3,4,5,6,7,8,9,10,11,12,13,14,15,16,17,18,19,20,21],[0,1,2,3,4,5,6,7,8,9,10,11,12,13,14,15,16,17,18,19,20,21,22],[0,1,2,3,4,5,6,7,8,9,10,11,12,13,14,15,16,17,18,19,20,21,22,23]] 22 (fun u=>[1,2,3,4,5].contains u) (efl [false,false,false,false,false,false,false,false,false,false,false,false,false,false,false,false,false,false,false,false,false,false]) (pvl [.val (.int .i64 t9.2.1),.val (.bool true),.val (.bool true),.val (undef),.val (undef),.val (undef),.val (.bool true),.val (.bool true),.val (undef),.val (undef),.val (.bool true),.val (.bool true),.val (undef),.val (undef),.val (undef),.val (undef),.val (undef),.val (.bool true),.val (.bool true),.val (undef),.val (undef),.val (undef)]) (Esl [fun (es:Nat→Value) (S':Sto)=>S'=sput (sput (sput (sput (sput s0 1 (some (Ck.var 42 x6.1 (([Value.slice (some ⟨x6.2.2.1,0,none⟩) x6.2.2.2.2 x6.2.2.2.1]++([Value.map (some x6.2.1)]++([Value.bool t9.2.2.1.2.2.1]++([Value.int .i64 t9.2.2.1.2.2.2.1]++[Value.bool t9.2.2.1.2.2.2.2])))))))) 2 (some (Ck.mr T56 x6.2.1 x6.2.2.1 x6.2.2.2.1 x6.2.2.2.2 t9.2.2.2))) 3 (some (Ck.var 30 g12 (([Value.int .i64 t9.1.1]++([Value.int .i64 t9.1.2.1]++([Value.int .i64 t9.1.2.2.1]++([Value.int .u32 t9.1.2.2.2.1]++en (Value.int .u8) t9.1.2.2.2.2.1)))))))) 4 (some (Ck.var 30 g16 (([Value.int .i64 t13.1]++([Value.int .i64 t13.2.1]++([Value.int .i64 t13.2.2.1]++([Value.int .u32 t13.2.2.2.1]++en (Value.int .u8) t13.2.2.2.2.1)))))))) 5 (some (Ck.sl (Ec.int 5 .u8) x19.1 x19.2 t17.1))] [0,0,0,0,0,0,0,0,0,0,0,0,0,0,0,0,0,0,0,0,0,0,0]) (nxl [0,0,0,0,0,0,0,0,0,0,0,0,0,0,0,0,0,0,0,0,0,0]) (onl [true,true,true,false,false,false,true,true,false,false,true,true,false,false,false,false,false,true,true,false,false,false]) 22 (by kernel_rfl) (by kernel_rfl) (by kernel_rfl) (by kernel_rfl) (by kernel_rfl) (rs:=[_,_,_]) rfl (by kernel_rfl) (by kernel_rfl) (fun es=>?_) ?_ ?_
  ·exact (rfl:sput (sput (sput (sput (sput s0 1 (some (Ck.var 42 x6.1 (([Value.slice (some ⟨x6.2.2.1,0,none⟩) x6.2.2.2.2 x6.2.2.2.1]++([Value.map (some x6.2.1)]++([Value.bool t9.2.2.1.2.2.1]++([Value.int .i64 t9.2.2.1.2.2.2.1]++[Value.bool t9.2.2.1.2.2.2.2])))))))) 2 (some (Ck.mr T56 x6.2.1 x6.2.2.1 x6.2.2.2.1 x6.2.2.2.2 t9.2.2.2))) 3 (some (Ck.var 30 g12 (([Value.int .i64 t9.1.1]++([Value.int .i64 t9.1.2.1]++([Value.int .i64 t9.1.2.2.1]++([Value.int .u32 t9.1.2.2.2.1]++en (Value.int .u8) t9.1.2.2.2.2.1)))))))) 4 (some (Ck.var 30 g16 (([Value.int .i64 t13.1]++([Value.int .i64 t13.2.1]++([Value.int .i64 t13.2.2.1]++([Value.int .u32 t13.2.2.2.1]++en (Value.int .u8) t13.2.2.2.2.1)))))))) 5 (some (Ck.sl (Ec.int 5 .u8) x19.1 x19.2 t17.1))=sput (sput (sput (sput (sput s0 1 (some (Ck.var 42 x6.1 (([Value.slice (some ⟨x6.2.2.1,0,none⟩) x6.2.2.2.2 x6.2.2.2.1]++([Value.map (some x6.2.1)]++([Value.bool t9.2.2.1.2.2.1]++([Value.int .i64 t9.2.2.1.2.2.2.1]++[Value.bool t9.2.2.1.2.2.2.2])))))))) 2 (some (Ck.mr T56 x6.2.1 x6.2.2.1 x6.2.2.2.1 x6.2.2.2.2 t9.2.2.2))) 3 (some (Ck.var 30 g12 (([Value.int .i64 t9.1.1]++([Value.int .i64 t9.1.2.1]++([Value.int .i64 t9.1.2.2.1]++([Value.int .u32 t9.1.2.2.2.1]++en (Value.int .u8) t9.1.2.2.2.2.1)))))))) 4 (some (Ck.var 30 g16 (([Value.int .i64 t13.1]++([Value.int .i64 t13.2.1]++([Value.int .i64 t13.2.2.1]++([Value.int .u32 t13.2.2.2.1]++en (Value.int .u8) t13.2.2.2.2.1)))))))) 5 (some (Ck.sl (Ec.int 5 .u8) x19.1 x19.2 t17.1)))
  ·refine all_snoc (all_snoc (all_snoc (all_snoc (all_snoc (all_snoc (all_snoc (all_snoc (all_snoc (all_snoc (all_snoc (all_snoc (all_snoc (all_snoc (all_snoc (all_snoc (all_snoc (all_snoc (all_snoc (all_snoc (all_snoc (all_snoc (all_nil) ?_) ?_) ?_) ?_) ?_) ?_) ?_) ?_) ?_) ?_) ?_) ?_) ?_) ?_) ?_) ?_) ?_) ?_) ?_) ?_) ?_) ?_
   ·refine ⟨fun o ho es vs f' S' hve hvp hf hx hK hE=>?_⟩
    obtain rfl := Option.some.inj ho
    refine ⟨want_none rfl,fun _ _=>?_,(fun _ h=>by cases h),(fun h _=>by cases h),(fun h _=>by cases h)⟩
    have hF := fr_next (rfl) ((hx 8 (by kernel_rfl)).trans (by kernel_rfl:(_:Value)=.int .i64 t9.2.1))
    refine ls_fr hF ?_
    refine lv (.int .i64 t9.2.1) ?_
    exact ls_finp (.int .i64 t9.2.1) (congrArg (fun z=>upd z 127 _) hF.symm) rfl
   ·refine ⟨fun o ho es vs f' S' hve hvp hf hx hK hE=>?_⟩
    obtain rfl := Option.some.inj ho
    refine ⟨want_none rfl,fun _ _=>?_,(fun _ h=>by cases h),(fun h _=>by cases h),(fun h _=>by cases h)⟩
    have hF := fr_next (rfl) ((hf 0 127 (by kernel_rfl) rfl).trans (show vs 0=.int .i64 t9.2.1 from hvp 0 (by kernel_rfl)))
    refine ls_fr hF ?_
    refine lv (.bool (!decide (t9.2.1=(0:Int)))) ?_
    refine ls_ren 128 (v:=.bool (!decide (t9.2.1=(0:Int)))) (v' := .bool true) (by kernel_rfl) (congrArg Value.bool (show (!decide (t9.2.1=(0:Int)))=true from congrArg Bool.not (dec_f q52))) ?_
    exact ls_finp (.bool true) ((upd_upd _ _ _ _).trans (congrArg (fun z=>upd z 128 _) hF.symm)) rfl
   ·refine ⟨fun o ho es vs f' S' hve hvp hf hx hK hE=>?_⟩
    obtain rfl := Option.some.inj ho
    refine ⟨want_none rfl,fun _ _=>?_,(fun _ h=>by cases h),(fun h _=>by cases h),(fun h _=>by cases h)⟩
    have hF := fr_next (rfl) ((hf 1 128 (by kernel_rfl) rfl).trans (show vs 1=.bool true from hvp 1 (by kernel_rfl)))
    refine ls_fr hF ?_
    refine lv (.bool true) ?_
    exact ls_finp (.bool true) (congrArg (fun z=>upd z 129 _) hF.symm) rfl
   ·refine ⟨fun o ho es vs f' S' hve hvp hf hx hK hE=>?_⟩
    obtain rfl := Option.some.inj ho
    exact ⟨want_is (j:=2) (t:=129) rfl rfl (by kernel_rfl) ((hf 2 129 (by kernel_rfl) rfl).trans (show vs 2=.bool true from hvp 2 (by kernel_rfl))) rfl,(fun _ h=>by cases h),fun _ _=>rfl,(fun h _=>by cases h),(fun h _=>by cases h)⟩
   ·refine ⟨fun o ho es vs f' S' hve hvp hf hx hK hE=>?_⟩
    obtain rfl := Option.some.inj ho
    exact ⟨want_is (j:=2) (t:=129) rfl rfl (by kernel_rfl) ((hf 2 129 (by kernel_rfl) rfl).trans (show vs 2=.bool true from hvp 2 (by kernel_rfl))) rfl,(fun _ h=>by cases h),fun _ _=>rfl,(fun h _=>by cases h),(fun h _=>by cases h)⟩
   ·refine ⟨fun o ho es vs f' S' hve hvp hf hx hK hE=>?_⟩
    obtain rfl := Option.some.inj ho
    exact ⟨want_is (j:=2) (t:=129) rfl rfl (by kernel_rfl) ((hf 2 129 (by kernel_rfl) rfl).trans (show vs 2=.bool true from hvp 2 (by kernel_rfl))) rfl,(fun _ h=>by cases h),fun _ _=>rfl,(fun h _=>by cases h),(fun h _=>by cases h)⟩
   ·refine ⟨fun o ho es vs f' S' hve hvp hf hx hK hE=>?_⟩
    obtain rfl := Option.some.inj ho
    refine ⟨want_none rfl,fun _ _=>?_,(fun _ h=>by cases h),(fun h _=>by cases h),(fun h _=>by cases h)⟩
    have hF := fr_next (fr_next (rfl) ((hf 2 129 (by kernel_rfl) rfl).trans (show vs 2=.bool true from hvp 2 (by kernel_rfl)))) ((hf 5 132 (by kernel_rfl) rfl).trans (show vs 5=undef from hvp 5 (by kernel_rfl)))
    refine ls_fr hF ?_
    refine lv (.bool true) ?_
    exact ls_finp (.bool true) (congrArg (fun z=>upd z 133 _) hF.symm) rfl
   ·refine ⟨fun o ho es vs f' S' hve hvp hf hx hK hE=>?_⟩
    obtain rfl := Option.some.inj ho
    refine ⟨want_none rfl,fun _ _=>?_,(fun _ h=>by cases h),(fun h _=>by cases h),(fun h _=>by cases h)⟩
    have hF := fr_next (rfl) ((hf 6 133 (by kernel_rfl) rfl).trans (show vs 6=.bool true from hvp 6 (by kernel_rfl)))
    refine ls_fr hF ?_
    refine lv (.bool true) ?_
    exact ls_finp (.bool true) (congrArg (fun z=>upd z 134 _) hF.symm) rfl
   ·refine ⟨fun o ho es vs f' S' hve hvp hf hx hK hE=>?_⟩
    obtain rfl := Option.some.inj ho
    exact ⟨want_is (j:=7) (t:=134) rfl rfl (by kernel_rfl) ((hf 7 134 (by kernel_rfl) rfl).trans (show vs 7=.bool true from hvp 7 (by kernel_rfl))) rfl,(fun _ h=>by cases h),fun _ _=>rfl,(fun h _=>by cases h),(fun h _=>by cases h)⟩
   ·refine ⟨fun o ho es vs f' S' hve hvp hf hx hK hE=>?_⟩
    obtain rfl := Option.some.inj ho
    exact ⟨want_is (j:=7) (t:=134) rfl rfl (by kernel_rfl) ((hf 7 134 (by kernel_rfl) rfl).trans (show vs 7=.bool true from hvp 7 (by kernel_rfl))) rfl,(fun _ h=>by cases h),fun _ _=>rfl,(fun h _=>by cases h),(fun h _=>by cases h)⟩
   ·refine ⟨fun o ho es vs f' S' hve hvp hf hx hK hE=>?_⟩
    obtain rfl := Option.some.inj ho
    refine ⟨want_none rfl,fun _ _=>?_,(fun _ h=>by cases h),(fun h _=>by cases h),(fun h _=>by cases h)⟩
    have hF := fr_next (fr_next (rfl) ((hf 7 134 (by kernel_rfl) rfl).trans (show vs 7=.bool true from hvp 7 (by kernel_rfl)))) ((hf 9 136 (by kernel_rfl) rfl).trans (show vs 9=undef from hvp 9 (by kernel_rfl)))
    refine ls_fr hF ?_
    refine lv (.bool true) ?_
    exact ls_finp (.bool true) (congrArg (fun z=>upd z 137 _) hF.symm) rfl
   ·refine ⟨fun o ho es vs f' S' hve hvp hf hx hK hE=>?_⟩
    obtain rfl := Option.some.inj ho
    refine ⟨want_none rfl,fun _ _=>?_,(fun _ h=>by cases h),(fun h _=>by cases h),(fun h _=>by cases h)⟩
    have hF := fr_next (rfl) ((hf 10 137 (by kernel_rfl) rfl).trans (show vs 10=.bool true from hvp 10 (by kernel_rfl)))
    refine ls_fr hF ?_
    refine lv (.bool true) ?_
    exact ls_finp (.bool true) (congrArg (fun z=>upd z 138 _) hF.symm) rfl
   ·refine ⟨fun o ho es vs f' S' hve hvp hf hx hK hE=>?_⟩
    obtain rfl := Option.some.inj ho
    exact ⟨want_is (j:=11) (t:=138) rfl rfl (by kernel_rfl) ((hf 11 138 (by kernel_rfl) rfl).trans (show vs 11=.bool true from hvp 11 (by kernel_rfl))) rfl,(fun _ h=>by cases h),fun _ _=>rfl,(fun h _=>by cases h),(fun h _=>by cases h)⟩
   ·refine ⟨fun o ho es vs f' S' hve hvp hf hx hK hE=>?_⟩
    obtain rfl := Option.some.inj ho
    exact ⟨want_is (j:=11) (t:=138) rfl rfl (by kernel_rfl) ((hf 11 138 (by kernel_rfl) rfl).trans (show vs 11=.bool true from hvp 11 (by kernel_rfl))) rfl,(fun _ h=>by cases h),fun _ _=>rfl,(fun h _=>by cases h),(fun h _=>by cases h)⟩
   ·refine ⟨fun o ho es vs f' S' hve hvp hf hx hK hE=>?_⟩
    obtain rfl := Option.some.inj ho
    exact ⟨want_is (j:=11) (t:=138) rfl rfl (by kernel_rfl) ((hf 11 138 (by kernel_rfl) rfl).trans (show vs 11=.bool true from hvp 11 (by kernel_rfl))) rfl,(fun _ h=>by cases h),fun _ _=>rfl,(fun h _=>by cases h),(fun h _=>by cases h)⟩
   ·refine ⟨fun o ho es vs f' S' hve hvp hf hx hK hE=>?_⟩
    obtain rfl := Option.some.inj ho
    exact ⟨want_is (j:=11) (t:=138) rfl rfl (by kernel_rfl) ((hf 11 138 (by kernel_rfl) rfl).trans (show vs 11=.bool true from hvp 11 (by kernel_rfl))) rfl,(fun _ h=>by cases h),fun _ _=>rfl,(fun h _=>by cases h),(fun h _=>by cases h)⟩
   ·refine ⟨fun o ho es vs f' S' hve hvp hf hx hK hE=>?_⟩
    obtain rfl := Option.some.inj ho
    exact ⟨want_is (j:=11) (t:=138) rfl rfl (by kernel_rfl) ((hf 11 138 (by kernel_rfl) rfl).trans (show vs 11=.bool true from hvp 11 (by kernel_rfl))) rfl,(fun _ h=>by cases h),fun _ _=>rfl,(fun h _=>by cases h),(fun h _=>by cases h)⟩
   ·refine ⟨fun o ho es vs f' S' hve hvp hf hx hK hE=>?_⟩
    obtain rfl := Option.some.inj ho
    refine ⟨want_none rfl,fun _ _=>?_,(fun _ h=>by cases h),(fun h _=>by cases h),(fun h _=>by cases h)⟩
    have hF := fr_next (fr_next (rfl) ((hf 11 138 (by kernel_rfl) rfl).trans (show vs 11=.bool true from hvp 11 (by kernel_rfl)))) ((hf 16 143 (by kernel_rfl) rfl).trans (show vs 16=undef from hvp 16 (by kernel_rfl)))
    refine ls_fr hF ?_
    refine lv (.bool true) ?_
    exact ls_finp (.bool true) (congrArg (fun z=>upd z 144 _) hF.symm) rfl
   ·refine ⟨fun o ho es vs f' S' hve hvp hf hx hK hE=>?_⟩
    obtain rfl := Option.some.inj ho
    refine ⟨want_none rfl,fun _ _=>?_,(fun _ h=>by cases h),(fun h _=>by cases h),(fun h _=>by cases h)⟩
    have hF := fr_next (rfl) ((hf 17 144 (by kernel_rfl) rfl).trans (show vs 17=.bool true from hvp 17 (by kernel_rfl)))
    refine ls_fr hF ?_
    refine lv (.bool true) ?_
    exact ls_finp (.bool true) (congrArg (fun z=>upd z 145 _) hF.symm) rfl
   ·refine ⟨fun o ho es vs f' S' hve hvp hf hx hK hE=>?_⟩
    obtain rfl := Option.some.inj ho
    exact ⟨want_is (j:=18) (t:=145) rfl rfl (by kernel_rfl) ((hf 18 145 (by kernel_rfl) rfl).trans (show vs 18=.bool true from hvp 18 (by kernel_rfl))) rfl,(fun _ h=>by cases h),fun _ _=>rfl,(fun h _=>by cases h),(fun h _=>by cases h)⟩
   ·refine ⟨fun o ho es vs f' S' hve hvp hf hx hK hE=>?_⟩
    obtain rfl := Option.some.inj ho
    exact ⟨want_is (j:=18) (t:=145) rfl rfl (by kernel_rfl) ((hf 18 145 (by kernel_rfl) rfl).trans (show vs 18=.bool true from hvp 18 (by kernel_rfl))) rfl,(fun _ h=>by cases h),fun _ _=>rfl,(fun h _=>by cases h),(fun h _=>by cases h)⟩
   refine ⟨fun o ho es vs f' S' hve hvp hf hx hK hE=>?_⟩
   obtain rfl := Option.some.inj ho
   exact ⟨want_is (j:=18) (t:=145) rfl rfl (by kernel_rfl) ((hf 18 145 (by kernel_rfl) rfl).trans (show vs 18=.bool true from hvp 18 (by kernel_rfl))) rfl,(fun _ h=>by cases h),fun _ _=>rfl,(fun h _=>by cases h),(fun h _=>by cases h)⟩
  intro es vs f' S' hve hvp hf hx hK hE
  obtain rfl := hE
  refine ls_fr (F:=upd (upd (upd (upd (upd f' 0 (.int .i64 y2)) 2 (.slice A2_1 l2_1.length c2_1)) 7 (.pointer (some ⟨x6.1,0,none⟩))) 10 (.pointer (some ⟨g16,0,none⟩))) 145 (.bool true)) (fr_next (fr_next (fr_next (fr_next (fr_next (rfl) ((hx 0 (by kernel_rfl)).trans (by kernel_rfl:(_:Value)=.int .i64 y2))) ((hx 2 (by kernel_rfl)).trans (by kernel_rfl:(_:Value)=.slice A2_1 l2_1.length c2_1))) ((hx 7 (by kernel_rfl)).trans (by kernel_rfl:(_:Value)=.pointer (some ⟨x6.1,0,none⟩)))) ((hx 10 (by kernel_rfl)).trans (by kernel_rfl:(_:Value)=.pointer (some ⟨g16,0,none⟩)))) ((hf 18 145 (by kernel_rfl) rfl).trans (show vs 18=.bool true from hvp 18 (by kernel_rfl)))) ?_
  refine ls_sub (sput (sput (sput s0 1 (some (Ck.var 42 x6.1 (([Value.slice (some ⟨x6.2.2.1,0,none⟩) x6.2.2.2.2 x6.2.2.2.1]++([Value.map (some x6.2.1)]++([Value.bool t9.2.2.1.2.2.1]++([Value.int .i64 t9.2.2.1.2.2.2.1]++[Value.bool t9.2.2.1.2.2.2.2])))))))) 2 (some (Ck.mr T56 x6.2.1 x6.2.2.1 x6.2.2.2.1 x6.2.2.2.2 t9.2.2.2))) 4 (some (Ck.var 30 g16 (([Value.int .i64 t13.1]++([Value.int .i64 t13.2.1]++([Value.int .i64 t13.2.2.1]++([Value.int .u32 t13.2.2.2.1]++en (Value.int .u8) t13.2.2.2.2.1)))))))) (sub_put (by exact rfl) (sub_put (by exact rfl) (sub_put (by exact rfl) (sub_nil _)))) ?_
  refine lofx 18 145 false true ?_
  refine lofx 18 145 false true ?_
  refine lv (.bool true) ?_
  refine ls_end ?_
  refine qn_then ?_
  refine cs_true (by kernel_rfl) ?_
  refine cs_seq ?_
  refine cs_region (l:=[_]) ?_
  refine lv (.bool false) ?_
  refine ls_end ?_
  refine qn_then ?_
  refine cs_ret' ?_
  refine qr_then ?_
  obtain rfl := Option.some.inj H
  refine qr_res (rs:=[_]) rfl (fun w' hs=>⟨[.bool false],(res_tmp (by kernel_rfl) (.nil)),(),rfl,hs.pick (ts:=[]) (cs:=[]) trivial (by decide)⟩)
 rintro f S ⟨fr5,rfl,rfl,H⟩
 replace H:(shadowboxlaw07_BlockWrites.lo6 y2 l2_1 t9 t13 k (0:Int))=some r := H
 refine cs_seq ?_
 refine cs_seq ?_
 refine cs_region (l:=[_]) ?_
 refine lv (.int .i64 (0:Int)) ?_
 refine ls_end ?_
 refine qn_then ?_
 refine cs_block ?_
 refine cs_sub (sput (sput (sput s0 1 (some (Ck.var 42 x6.1 (([Value.slice (some ⟨x6.2.2.1,0,none⟩) x6.2.2.2.2 x6.2.2.2.1]++([Value.map (some x6.2.1)]++([Value.bool t9.2.2.1.2.2.1]++([Value.int .i64 t9.2.2.1.2.2.2.1]++[Value.bool t9.2.2.1.2.2.2.2])))))))) 2 (some (Ck.mr T56 x6.2.1 x6.2.2.1 x6.2.2.2.1 x6.2.2.2.2 t9.2.2.2))) 4 (some (Ck.var 30 g16 (([Value.int .i64 t13.1]++([Value.int .i64 t13.2.1]++([Value.int .i64 t13.2.2.1]++([Value.int .u32 t13.2.2.2.1]++en (Value.int .u8) t13.2.2.2.2.1)))))))) (sub_put (by exact rfl) (sub_put (by exact rfl) (sub_put (by exact rfl) (sub_nil _)))) ?_
 refine cs_loop (fun kk f S=>∃ (fR:Fr) (x20_6:Int),f=upd (upd (upd (upd (upd fR 0 (.int .i64 y2)) 2 (.slice A2_1 l2_1.length c2_1)) 7 (.pointer (some ⟨x6.1,0,none⟩))) 10 (.pointer (some ⟨g16,0,none⟩))) 20 (.int .i64 x20_6)∧S=sput (sput (sput s0 1 (some (Ck.var 42 x6.1 (([Value.slice (some ⟨x6.2.2.1,0,none⟩) x6.2.2.2.2 x6.2.2.2.1]++([Value.map (some x6.2.1)]++([Value.bool t9.2.2.1.2.2.1]++([Value.int .i64 t9.2.2.1.2.2.2.1]++[Value.bool t9.2.2.1.2.2.2.2])))))))) 2 (some (Ck.mr T56 x6.2.1 x6.2.2.1 x6.2.2.2.1 x6.2.2.2.2 t9.2.2.2))) 4 (some (Ck.var 30 g16 (([Value.int .i64 t13.1]++([Value.int .i64 t13.2.1]++([Value.int .i64 t13.2.2.1]++([Value.int .u32 t13.2.2.2.1]++en (Value.int .u8) t13.2.2.2.2.1)))))))∧shadowboxlaw07_BlockWrites.lo6 y2 l2_1 t9 t13 kk x20_6=some r) k ?_ ?_ ?_
 ·exact ⟨_,(0:Int),fr_next (fr_next (fr_next (fr_next (fr_next (rfl) (by kernel_rfl)) (by kernel_rfl)) (by kernel_rfl)) (by kernel_rfl)) (by kernel_rfl),rfl,H⟩
 ·rintro f S ⟨fr6,x20_6,rfl,rfl,H⟩; cases H
 rintro k6 f S ⟨fr6,x20_6,rfl,rfl,H⟩
 replace H:((if x20_6<y2 then (shadowboxlaw07_BlockWrites.jo7 l2_1 t9 t13 x20_6 k6 (shadowboxlaw07_BlockWrites.lo6 y2 l2_1 t9 t13 k6)) else some true))=some r := H
 refine cs_cut (fun f S=>∃ (fR:Fr),f=upd (upd (upd (upd (upd fR 0 (.int .i64 y2)) 2 (.slice A2_1 l2_1.length c2_1)) 7 (.pointer (some ⟨x6.1,0,none⟩))) 10 (.pointer (some ⟨g16,0,none⟩))) 20 (.int .i64 x20_6)∧S=sput (sput (sput s0 1 (some (Ck.var 42 x6.1 (([Value.slice (some ⟨x6.2.2.1,0,none⟩) x6.2.2.2.2 x6.2.2.2.1]++([Value.map (some x6.2.1)]++([Value.bool t9.2.2.1.2.2.1]++([Value.int .i64 t9.2.2.1.2.2.2.1]++[Value.bool t9.2.2.1.2.2.2.2])))))))) 2 (some (Ck.mr T56 x6.2.1 x6.2.2.1 x6.2.2.2.1 x6.2.2.2.2 t9.2.2.2))) 4 (some (Ck.var 30 g16 (([Value.int .i64 t13.1]++([Value.int .i64 t13.2.1]++([Value.int .i64 t13.2.2.1]++([Value.int .u32 t13.2.2.2.1]++en (Value.int .u8) t13.2.2.2.2.1)))))))∧shadowboxlaw07_BlockWrites.jo7 l2_1 t9 t13 x20_6 k6 (shadowboxlaw07_BlockWrites.lo6 y2 l2_1 t9 t13 k6)=some r) ?_ ?_
 ·skip
  refine cs_seq ?_
  refine cs_region (l:=[_,_,_]) ?_
  refine lv (.int .i64 x20_6) ?_
  refine lv (.int .i64 y2) ?_
  refine lv (.bool (decide (x20_6<y2))) ?_
  refine ls_end ?_
  refine qn_then ?_
  by_cases q51:x20_6<y2
  ·replace H := ite_t q51 H
   refine cs_know (c:=true) (dec_t q51) 154 (by kernel_rfl) ?_
   refine cs_true (by kernel_rfl) ?_
   refine cs_skip' ?_
   refine qn_meet (sput (sput (sput s0 1 (some (Ck.var 42 x6.1 (([Value.slice (some ⟨x6.2.2.1,0,none⟩) x6.2.2.2.2 x6.2.2.2.1]++([Value.map (some x6.2.1)]++([Value.bool t9.2.2.1.2.2.1]++([Value.int .i64 t9.2.2.1.2.2.2.1]++[Value.bool t9.2.2.1.2.2.2.2])))))))) 2 (some (Ck.mr T56 x6.2.1 x6.2.2.1 x6.2.2.2.1 x6.2.2.2.2 t9.2.2.2))) 4 (some (Ck.var 30 g16 (([Value.int .i64 t13.1]++([Value.int .i64 t13.2.1]++([Value.int .i64 t13.2.2.1]++([Value.int .u32 t13.2.2.2.1]++en (Value.int .u8) t13.2.2.2.2.1)))))))) ⟨_,fr_next (fr_next (fr_next (fr_next (fr_next (rfl) (by kernel_rfl)) (by kernel_rfl)) (by kernel_rfl)) (by kernel_rfl)) (by kernel_rfl),rfl,H⟩ (sub_put (by exact rfl) (sub_put (by exact rfl) (sub_put (by exact rfl) (sub_nil _))))
  replace H := ite_f q51 H
  refine cs_know (c:=false) (dec_f q51) 154 (by kernel_rfl) ?_
  refine cs_false (by kernel_rfl) ?_
  refine cs_exit' ?_
  refine qx_then ?_
  refine qx_then ?_
  refine qx_same ?_
  refine qn_then ?_
  refine cs_seq ?_
  refine cs_region (l:=[_]) ?_
  refine lv (.bool true) ?_
  refine ls_end ?_
  refine qn_then ?_
  refine cs_ret' ?_
  obtain rfl := Option.some.inj H
  refine qr_res (rs:=[_]) rfl (fun w' hs=>⟨[.bool true],(res_tmp (by kernel_rfl) (.nil)),(),rfl,hs.pick (ts:=[]) (cs:=[]) trivial (by decide)⟩)
 rintro f S ⟨fr7,rfl,rfl,H⟩
 replace H:((disk_Disk_Read.f k6 ((),(),t9.2.2.1.2.2.1,t9.2.2.1.2.2.2.1,t9.2.2.1.2.2.2.2) t9.2.2.2 x20_6).bind fun t20=>(if t20.2=(0:Int) then (if (t20.1.length:Int)=(512:Int) then (shadowboxlaw07_BlockWrites.jo8 l2_1 t13 x20_6 k6 t20 (shadowboxlaw07_BlockWrites.lo6 y2 l2_1 t9 t13 k6)) else some false) else some false))=some r := H
 refine cs_seq ?_
 refine cs_block ?_
 refine cs_seq ?_
 refine cs_region (l:=[_,_,_,_,_,_,_,_]) ?_
 refine lv (.pointer (some ⟨x6.1,0,none⟩)) ?_
 refine lv (.int .i64 x20_6) ?_
 obtain ⟨t20,hc21,H⟩ := bind_some H
 refine ls_callb (fid:=15) (vals:=#[.pointer (some ⟨x6.1,0,none⟩),.int .i64 x20_6]) (X:=(Option Addr × Nat)) (fun x=>.tuple #[.slice x.1 t20.1.length x.2,.int .i64 t20.2]) (fun x=>stl [Ck.var 42 x6.1 (([Value.slice (some ⟨x6.2.2.1,0,none⟩) x6.2.2.2.2 x6.2.2.2.1]++([Value.map (some x6.2.1)]++([Value.bool t9.2.2.1.2.2.1]++([Value.int .i64 t9.2.2.1.2.2.2.1]++[Value.bool t9.2.2.1.2.2.2.2]))))),Ck.mr T56 x6.2.1 x6.2.2.1 x6.2.2.2.1 x6.2.2.2.2 t9.2.2.2,Ck.ro (Ec.int 5 .u8) x.1 x.2 t20.1]) [1,2] [] [Ck.var 42 x6.1 (([Value.slice (some ⟨x6.2.2.1,0,none⟩) x6.2.2.2.2 x6.2.2.2.1]++([Value.map (some x6.2.1)]++([Value.bool t9.2.2.1.2.2.1]++([Value.int .i64 t9.2.2.1.2.2.2.1]++[Value.bool t9.2.2.1.2.2.2.2]))))),Ck.mr T56 x6.2.1 x6.2.2.1 x6.2.2.2.1 x6.2.2.2.2 t9.2.2.2] [] 6 rfl rfl (by kernel_rfl) (fun w=>by kernel_rfl) ⟨by exact rfl,by exact rfl,trivial⟩ trivial (by decide) (fun w hs hb=>disk_Disk_Read.calls k6 x6.1 x6.2.2.1 x6.2.2.2.2 x6.2.2.2.1 x6.2.1 ((),(),t9.2.2.1.2.2.1,t9.2.2.1.2.2.2.1,t9.2.2.1.2.2.2.2) t9.2.2.2 x20_6 t20 (lent b w [Ck.var 42 x6.1 (([Value.slice (some ⟨x6.2.2.1,0,none⟩) x6.2.2.2.2 x6.2.2.2.1]++([Value.map (some x6.2.1)]++([Value.bool t9.2.2.1.2.2.1]++([Value.int .i64 t9.2.2.1.2.2.2.1]++[Value.bool t9.2.2.1.2.2.2.2]))))),Ck.mr T56 x6.2.1 x6.2.2.1 x6.2.2.2.1 x6.2.2.2.2 t9.2.2.2] []) hb  hc21) ?_
 intro x22
 refine lv (.tuple #[.slice x22.1 t20.1.length x22.2,.int .i64 t20.2]) ?_
 refine lv (.slice x22.1 t20.1.length x22.2) ?_
 refine lv (.int .i64 t20.2) ?_
 refine lv (.slice x22.1 t20.1.length x22.2) ?_
 refine lv (.int .i64 t20.2) ?_
 refine ls_end ?_
 refine qn_then ?_
 refine cs_cut (fun f S=>∃ (fR:Fr),f=upd (upd (upd (upd (upd (upd fR 0 (.int .i64 y2)) 2 (.slice A2_1 l2_1.length c2_1)) 7 (.pointer (some ⟨x6.1,0,none⟩))) 10 (.pointer (some ⟨g16,0,none⟩))) 20 (.int .i64 x20_6)) 21 (.slice x22.1 t20.1.length x22.2)∧S=sput (sput (sput (sput s0 1 (some (Ck.var 42 x6.1 (([Value.slice (some ⟨x6.2.2.1,0,none⟩) x6.2.2.2.2 x6.2.2.2.1]++([Value.map (some x6.2.1)]++([Value.bool t9.2.2.1.2.2.1]++([Value.int .i64 t9.2.2.1.2.2.2.1]++[Value.bool t9.2.2.1.2.2.2.2])))))))) 2 (some (Ck.mr T56 x6.2.1 x6.2.2.1 x6.2.2.2.1 x6.2.2.2.2 t9.2.2.2))) 4 (some (Ck.var 30 g16 (([Value.int .i64 t13.1]++([Value.int .i64 t13.2.1]++([Value.int .i64 t13.2.2.1]++([Value.int .u32 t13.2.2.2.1]++en (Value.int .u8) t13.2.2.2.2.1)))))))) 6 (some (Ck.ro (Ec.int 5 .u8) x22.1 x22.2 t20.1))∧shadowboxlaw07_BlockWrites.jo8 l2_1 t13 x20_6 k6 t20 (shadowboxlaw07_BlockWrites.lo6 y2 l2_1 t9 t13 k6)=some r) ?_ ?_
 ·skip
  refine cs_seq ?_
  refine cs_region (l:=[_,_,_,_,_,_,_]) ?_
  refine lv (.int .i64 t20.2) ?_
  refine lv (.bool (!decide (t20.2=(0:Int)))) ?_
  refine lv (.bool (!decide (t20.2=(0:Int)))) ?_
  by_cases q49:t20.2=(0:Int)
  ·replace H := ite_t q49 H
   refine ls_know (c:=false) (congrArg Bool.not (dec_t q49)) 165 (by kernel_rfl) ?_
   refine ls_on (j:=2) (t:=165) (b:=false) rfl rfl (by kernel_rfl) (by kernel_rfl) ?_
   refine lv (.slice x22.1 t20.1.length x22.2) ?_
   refine ls_on (j:=2) (t:=165) (b:=false) rfl rfl (by kernel_rfl) (by kernel_rfl) ?_
   refine lv (.int .i64 (t20.1.length:Int)) ?_
   refine ls_on (j:=2) (t:=165) (b:=false) rfl rfl (by kernel_rfl) (by kernel_rfl) ?_
   refine lv (.bool (!decide ((t20.1.length:Int)=(512:Int)))) ?_
   refine lv (.bool (!decide ((t20.1.length:Int)=(512:Int)))) ?_
   refine ls_end ?_
   refine qn_then ?_
   by_cases q50:(t20.1.length:Int)=(512:Int)
   ·replace H := ite_t q50 H
    refine cs_know (c:=false) (congrArg Bool.not (dec_t q50)) 169 (by kernel_rfl) ?_
    refine cs_false (by kernel_rfl) ?_
    refine cs_skip' ?_
    refine qn_meet (sput (sput (sput (sput s0 1 (some (Ck.var 42 x6.1 (([Value.slice (some ⟨x6.2.2.1,0,none⟩) x6.2.2.2.2 x6.2.2.2.1]++([Value.map (some x6.2.1)]++([Value.bool t9.2.2.1.2.2.1]++([Value.int .i64 t9.2.2.1.2.2.2.1]++[Value.bool t9.2.2.1.2.2.2.2])))))))) 2 (some (Ck.mr T56 x6.2.1 x6.2.2.1 x6.2.2.2.1 x6.2.2.2.2 t9.2.2.2))) 4 (some (Ck.var 30 g16 (([Value.int .i64 t13.1]++([Value.int .i64 t13.2.1]++([Value.int .i64 t13.2.2.1]++([Value.int .u32 t13.2.2.2.1]++en (Value.int .u8) t13.2.2.2.2.1)))))))) 6 (some (Ck.ro (Ec.int 5 .u8) x22.1 x22.2 t20.1))) ⟨_,fr_next (fr_next (fr_next (fr_next (fr_next (fr_next (rfl) (by kernel_rfl)) (by kernel_rfl)) (by kernel_rfl)) (by kernel_rfl)) (by kernel_rfl)) (by kernel_rfl),rfl,H⟩ (sub_put (by exact rfl) (sub_put (by exact rfl) (sub_put (by exact rfl) (sub_put (by exact rfl) (sub_nil _)))))
   replace H := ite_f q50 H
   refine cs_know (c:=true) (congrArg Bool.not (dec_f q50)) 169 (by kernel_rfl) ?_
   refine cs_true (by kernel_rfl) ?_
   refine cs_seq ?_
   refine cs_region (l:=[_]) ?_
   refine lv (.bool false) ?_
   refine ls_end ?_
   refine qn_then ?_
   refine cs_ret' ?_
   refine qr_then ?_
   refine qr_block ?_
   refine qr_then ?_
   refine qr_then ?_
   refine qr_block ?_
   refine qr_then ?_
   obtain rfl := Option.some.inj H
   refine qr_res (rs:=[_]) rfl (fun w' hs=>⟨[.bool false],(res_tmp (by kernel_rfl) (.nil)),(),rfl,hs.pick (ts:=[]) (cs:=[]) trivial (by decide)⟩)
  replace H := ite_f q49 H
  refine ls_know (c:=true) (congrArg Bool.not (dec_f q49)) 165 (by kernel_rfl) ?_
  refine lofx 2 165 false true ?_
  refine lofx 2 165 false true ?_
  refine lofx 2 165 false true ?_
  refine lv (.bool true) ?_
  refine ls_end ?_
  refine qn_then ?_
  refine cs_true (by kernel_rfl) ?_
  refine cs_seq ?_
  refine cs_region (l:=[_]) ?_
  refine lv (.bool false) ?_
  refine ls_end ?_
  refine qn_then ?_
  refine cs_ret' ?_
  refine qr_then ?_
  refine qr_block ?_
  refine qr_then ?_
  refine qr_then ?_
  refine qr_block ?_
  refine qr_then ?_
  obtain rfl := Option.some.inj H
  refine qr_res (rs:=[_]) rfl (fun w' hs=>⟨[.bool false],(res_tmp (by kernel_rfl) (.nil)),(),rfl,hs.pick (ts:=[]) (cs:=[]) trivial (by decide)⟩)
 rintro f S ⟨fr8,rfl,rfl,H⟩
 replace H:(shadowboxlaw07_BlockWrites.lo9 l2_1 t13 x20_6 t20 (shadowboxlaw07_BlockWrites.lo6 y2 l2_1 t9 t13 k6) k6 (0:Int))=some r := H
 refine cs_seq ?_
 refine cs_region (l:=[_]) ?_
 refine lv (.int .i64 (0:Int)) ?_
 refine ls_end ?_
 refine qn_then ?_
 refine cs_block ?_
 refine cs_sub (sput (sput (sput (sput s0 1 (some (Ck.var 42 x6.1 (([Value.slice (some ⟨x6.2.2.1,0,none⟩) x6.2.2.2.2 x6.2.2.2.1]++([Value.map (some x6.2.1)]++([Value.bool t9.2.2.1.2.2.1]++([Value.int .i64 t9.2.2.1.2.2.2.1]++[Value.bool t9.2.2.1.2.2.2.2])))))))) 2 (some (Ck.mr T56 x6.2.1 x6.2.2.1 x6.2.2.2.1 x6.2.2.2.2 t9.2.2.2))) 4 (some (Ck.var 30 g16 (([Value.int .i64 t13.1]++([Value.int .i64 t13.2.1]++([Value.int .i64 t13.2.2.1]++([Value.int .u32 t13.2.2.2.1]++en (Value.int .u8) t13.2.2.2.2.1)))))))) 6 (some (Ck.ro (Ec.int 5 .u8) x22.1 x22.2 t20.1))) (sub_put (by exact rfl) (sub_put (by exact rfl) (sub_put (by exact rfl) (sub_put (by exact rfl) (sub_nil _))))) ?_
 refine cs_loop (fun kk f S=>∃ (fR:Fr) (x23_9:Int),f=upd (upd (upd (upd (upd (upd (upd fR 0 (.int .i64 y2)) 2 (.slice A2_1 l2_1.length c2_1)) 7 (.pointer (some ⟨x6.1,0,none⟩))) 10 (.pointer (some ⟨g16,0,none⟩))) 20 (.int .i64 x20_6)) 21 (.slice x22.1 t20.1.length x22.2)) 23 (.int .i64 x23_9)∧S=sput (sput (sput (sput s0 1 (some (Ck.var 42 x6.1 (([Value.slice (some ⟨x6.2.2.1,0,none⟩) x6.2.2.2.2 x6.2.2.2.1]++([Value.map (some x6.2.1)]++([Value.bool t9.2.2.1.2.2.1]++([Value.int .i64 t9.2.2.1.2.2.2.1]++[Value.bool t9.2.2.1.2.2.2.2])))))))) 2 (some (Ck.mr T56 x6.2.1 x6.2.2.1 x6.2.2.2.1 x6.2.2.2.2 t9.2.2.2))) 4 (some (Ck.var 30 g16 (([Value.int .i64 t13.1]++([Value.int .i64 t13.2.1]++([Value.int .i64 t13.2.2.1]++([Value.int .u32 t13.2.2.2.1]++en (Value.int .u8) t13.2.2.2.2.1)))))))) 6 (some (Ck.ro (Ec.int 5 .u8) x22.1 x22.2 t20.1))∧shadowboxlaw07_BlockWrites.lo9 l2_1 t13 x20_6 t20 (shadowboxlaw07_BlockWrites.lo6 y2 l2_1 t9 t13 k6) kk x23_9=some r) k6 ?_ ?_ ?_
 ·exact ⟨_,(0:Int),fr_next (fr_next (fr_next (fr_next (fr_next (fr_next (fr_next (rfl) (by kernel_rfl)) (by kernel_rfl)) (by kernel_rfl)) (by kernel_rfl)) (by kernel_rfl)) (by kernel_rfl)) (by kernel_rfl),rfl,H⟩
 ·rintro f S ⟨fr9,x23_9,rfl,rfl,H⟩; cases H
 rintro k9 f S ⟨fr9,x23_9,rfl,rfl,H⟩
 replace H:((if x23_9<(512:Int) then (shadowboxlaw07_BlockWrites.jo10 l2_1 t13 x20_6 t20 x23_9 (shadowboxlaw07_BlockWrites.lo9 l2_1 t13 x20_6 t20 (shadowboxlaw07_BlockWrites.lo6 y2 l2_1 t9 t13 k6) k9)) else (shadowboxlaw07_BlockWrites.lo6 y2 l2_1 t9 t13 k6) (IntKind.wrap .i64 (x20_6+(1:Int)))))=some r := H
 refine cs_cut (fun f S=>∃ (fR:Fr),f=upd (upd (upd (upd (upd (upd (upd fR 0 (.int .i64 y2)) 2 (.slice A2_1 l2_1.length c2_1)) 7 (.pointer (some ⟨x6.1,0,none⟩))) 10 (.pointer (some ⟨g16,0,none⟩))) 20 (.int .i64 x20_6)) 21 (.slice x22.1 t20.1.length x22.2)) 23 (.int .i64 x23_9)∧S=sput (sput (sput (sput s0 1 (some (Ck.var 42 x6.1 (([Value.slice (some ⟨x6.2.2.1,0,none⟩) x6.2.2.2.2 x6.2.2.2.1]++([Value.map (some x6.2.1)]++([Value.bool t9.2.2.1.2.2.1]++([Value.int .i64 t9.2.2.1.2.2.2.1]++[Value.bool t9.2.2.1.2.2.2.2])))))))) 2 (some (Ck.mr T56 x6.2.1 x6.2.2.1 x6.2.2.2.1 x6.2.2.2.2 t9.2.2.2))) 4 (some (Ck.var 30 g16 (([Value.int .i64 t13.1]++([Value.int .i64 t13.2.1]++([Value.int .i64 t13.2.2.1]++([Value.int .u32 t13.2.2.2.1]++en (Value.int .u8) t13.2.2.2.2.1)))))))) 6 (some (Ck.ro (Ec.int 5 .u8) x22.1 x22.2 t20.1))∧shadowboxlaw07_BlockWrites.jo10 l2_1 t13 x20_6 t20 x23_9 (shadowboxlaw07_BlockWrites.lo9 l2_1 t13 x20_6 t20 (shadowboxlaw07_BlockWrites.lo6 y2 l2_1 t9 t13 k6) k9)=some r) ?_ ?_
 ·skip
  refine cs_seq ?_
  refine cs_region (l:=[_,_]) ?_
  refine lv (.int .i64 x23_9) ?_
  refine lv (.bool (decide (x23_9<(512:Int)))) ?_
  refine ls_end ?_
  refine qn_then ?_
  by_cases q48:x23_9<(512:Int)
  ·replace H := ite_t q48 H
   refine cs_know (c:=true) (dec_t q48) 171 (by kernel_rfl) ?_
   refine cs_true (by kernel_rfl) ?_
   refine cs_skip' ?_
   refine qn_meet (sput (sput (sput (sput s0 1 (some (Ck.var 42 x6.1 (([Value.slice (some ⟨x6.2.2.1,0,none⟩) x6.2.2.2.2 x6.2.2.2.1]++([Value.map (some x6.2.1)]++([Value.bool t9.2.2.1.2.2.1]++([Value.int .i64 t9.2.2.1.2.2.2.1]++[Value.bool t9.2.2.1.2.2.2.2])))))))) 2 (some (Ck.mr T56 x6.2.1 x6.2.2.1 x6.2.2.2.1 x6.2.2.2.2 t9.2.2.2))) 4 (some (Ck.var 30 g16 (([Value.int .i64 t13.1]++([Value.int .i64 t13.2.1]++([Value.int .i64 t13.2.2.1]++([Value.int .u32 t13.2.2.2.1]++en (Value.int .u8) t13.2.2.2.2.1)))))))) 6 (some (Ck.ro (Ec.int 5 .u8) x22.1 x22.2 t20.1))) ⟨_,fr_next (fr_next (fr_next (fr_next (fr_next (fr_next (fr_next (rfl) (by kernel_rfl)) (by kernel_rfl)) (by kernel_rfl)) (by kernel_rfl)) (by kernel_rfl)) (by kernel_rfl)) (by kernel_rfl),rfl,H⟩ (sub_put (by exact rfl) (sub_put (by exact rfl) (sub_put (by exact rfl) (sub_put (by exact rfl) (sub_nil _)))))
  replace H := ite_f q48 H
  refine cs_know (c:=false) (dec_f q48) 171 (by kernel_rfl) ?_
  refine cs_false (by kernel_rfl) ?_
  refine cs_exit' ?_
  refine qx_then ?_
  refine qx_then ?_
  refine qx_same ?_
  refine qn_block ?_
  refine qn_then ?_
  refine cs_region (l:=[_,_,_]) ?_
  refine lv (.int .i64 x20_6) ?_
  refine lv (.int .i64 (IntKind.wrap .i64 (x20_6+(1:Int)))) ?_
  refine lv (.int .i64 (IntKind.wrap .i64 (x20_6+(1:Int)))) ?_
  refine ls_end ?_
  refine qn_again k6 (sput (sput (sput s0 1 (some (Ck.var 42 x6.1 (([Value.slice (some ⟨x6.2.2.1,0,none⟩) x6.2.2.2.2 x6.2.2.2.1]++([Value.map (some x6.2.1)]++([Value.bool t9.2.2.1.2.2.1]++([Value.int .i64 t9.2.2.1.2.2.2.1]++[Value.bool t9.2.2.1.2.2.2.2])))))))) 2 (some (Ck.mr T56 x6.2.1 x6.2.2.1 x6.2.2.2.1 x6.2.2.2.2 t9.2.2.2))) 4 (some (Ck.var 30 g16 (([Value.int .i64 t13.1]++([Value.int .i64 t13.2.1]++([Value.int .i64 t13.2.2.1]++([Value.int .u32 t13.2.2.2.1]++en (Value.int .u8) t13.2.2.2.2.1)))))))) (Nat.le_refl _) ⟨_,(IntKind.wrap .i64 (x20_6+(1:Int))),fr_next (fr_next (fr_next (fr_next (fr_next (rfl) (by kernel_rfl)) (by kernel_rfl)) (by kernel_rfl)) (by kernel_rfl)) (by kernel_rfl),rfl,H⟩ (sub_put (by exact rfl) (sub_put (by exact rfl) (sub_put (by exact rfl) (sub_nil _))))
 rintro f S ⟨fr10,rfl,rfl,H⟩
 replace H:(lt (IntKind.wrap .i64 ((512:Int)*(IntKind.wrap .i64 (x20_6 - t13.1)))) fun y23=>(if (IntKind.wrap .i64 (y23+x23_9))≥(0:Int) then (if (IntKind.wrap .i64 (y23+x23_9))<(l2_1.length:Int) then (if 0≤IntKind.wrap .i64 (y23+x23_9) then (if IntKind.wrap .i64 (y23+x23_9)<(l2_1.length:Int) then lt (((l2_1).getD (IntKind.wrap .i64 (y23+x23_9)).toNat (0:Int))) fun y31=>(if 0≤x23_9 then (if x23_9<(t20.1.length:Int) then (if ((t20.1).getD (x23_9).toNat (0:Int))=y31 then (shadowboxlaw07_BlockWrites.lo9 l2_1 t13 x20_6 t20 (shadowboxlaw07_BlockWrites.lo6 y2 l2_1 t9 t13 k6) k9) (IntKind.wrap .i64 (x23_9+(1:Int))) else some false) else none) else none) else none) else none) else (if 0≤x23_9 then (if x23_9<(t20.1.length:Int) then (if ((t20.1).getD (x23_9).toNat (0:Int))=(0:Int) then (shadowboxlaw07_BlockWrites.lo9 l2_1 t13 x20_6 t20 (shadowboxlaw07_BlockWrites.lo6 y2 l2_1 t9 t13 k6) k9) (IntKind.wrap .i64 (x23_9+(1:Int))) else some false) else none) else none)) else (if 0≤x23_9 then (if x23_9<(t20.1.length:Int) then (if ((t20.1).getD (x23_9).toNat (0:Int))=(0:Int) then (shadowboxlaw07_BlockWrites.lo9 l2_1 t13 x20_6 t20 (shadowboxlaw07_BlockWrites.lo6 y2 l2_1 t9 t13 k6) k9) (IntKind.wrap .i64 (x23_9+(1:Int))) else some false) else none) else none)))=some r := H
 refine cs_seq ?_
 refine cs_block ?_
 refine cs_seq ?_
 refine cs_region (l:=[_,_,_,_,_,_,_,_]) ?_
 refine lv (.int .i64 x20_6) ?_
 refine lv (.pointer (some ⟨g16,(0+0),none⟩)) ?_
 refine ls_load (a0:=⟨g16,(0+0),none⟩) (v:=.int .i64 t13.1) (de:=(TypeDesc.int .i64)) rfl rfl (by kernel_rfl) rfl (by kernel_rfl) (by kernel_rfl) (by kernel_rfl) (fun w hs=>(hs.var (k:=4) (by exact rfl) (Sub4.trans (Sub4.all _) (Sub4.head _ _)))) ?_
 refine lv (.int .i64 (IntKind.wrap .i64 (x20_6 - t13.1))) ?_
 obtain ⟨y23,hy24,H⟩ := lt_some H
 refine lv (.int .i64 (IntKind.wrap .i64 ((512:Int)*(IntKind.wrap .i64 (x20_6 - t13.1))))) ?_
 refine ls_ren 178 (v:=.int .i64 (IntKind.wrap .i64 ((512:Int)*(IntKind.wrap .i64 (x20_6 - t13.1))))) (v' := .int .i64 y23) (by kernel_rfl) (by rw [hy24]) ?_
 refine lv (.int .i64 x23_9) ?_
 refine lv (.int .i64 (IntKind.wrap .i64 (y23+x23_9))) ?_
 refine lv (.int .i64 (IntKind.wrap .i64 (y23+x23_9))) ?_
 refine ls_end ?_
 refine qn_then ?_
 refine cs_seq ?_
 refine cs_region (l:=[_]) ?_
 refine lv (.int .u8 (0:Int)) ?_
 refine ls_end ?_
 refine qn_then ?_
 refine cs_seq ?_
 refine cs_seq ?_
 refine cs_region (l:=[_,_,_,_,_,_,_,_]) ?_
 refine lv (.int .i64 (IntKind.wrap .i64 (y23+x23_9))) ?_
 refine lv (.bool (decide ((IntKind.wrap .i64 (y23+x23_9))≥(0:Int)))) ?_
 refine lv (.bool (decide ((IntKind.wrap .i64 (y23+x23_9))≥(0:Int)))) ?_
 by_cases q25:(IntKind.wrap .i64 (y23+x23_9))≥(0:Int)
 ·replace H := ite_t q25 H
  refine ls_know (c:=true) (dec_t q25) 183 (by kernel_rfl) ?_
  refine ls_on (j:=2) (t:=183) (b:=true) rfl rfl (by kernel_rfl) (by kernel_rfl) ?_
  refine lv (.int .i64 (IntKind.wrap .i64 (y23+x23_9))) ?_
  refine ls_on (j:=2) (t:=183) (b:=true) rfl rfl (by kernel_rfl) (by kernel_rfl) ?_
  refine lv (.slice A2_1 l2_1.length c2_1) ?_
  refine ls_on (j:=2) (t:=183) (b:=true) rfl rfl (by kernel_rfl) (by kernel_rfl) ?_
  refine lv (.int .i64 (l2_1.length:Int)) ?_
  refine ls_on (j:=2) (t:=183) (b:=true) rfl rfl (by kernel_rfl) (by kernel_rfl) ?_
  refine lv (.bool (decide ((IntKind.wrap .i64 (y23+x23_9))<(l2_1.length:Int)))) ?_
  refine lv (.bool (decide ((IntKind.wrap .i64 (y23+x23_9))<(l2_1.length:Int)))) ?_
  refine ls_end ?_
  refine qn_then ?_
  by_cases q26:(IntKind.wrap .i64 (y23+x23_9))<(l2_1.length:Int)
  ·replace H := ite_t q26 H
   refine cs_know (c:=true) (dec_t q26) 188 (by kernel_rfl) ?_
   refine cs_true (by kernel_rfl) ?_
   refine cs_region (l:=[_,_,_,_,_]) ?_
   refine lv (.slice A2_1 l2_1.length c2_1) ?_
   refine lv (.int .i64 (IntKind.wrap .i64 (y23+x23_9))) ?_
   obtain ⟨q27,H⟩ := ite_need H
   obtain ⟨q28,H⟩ := ite_need H
   obtain ⟨ad29,hA30⟩ := ido_at (T:=(Ec.int 5 .u8)) (l:=l2_1) (i:=IntKind.wrap .i64 (y23+x23_9)) R2_1 q27 q28
   refine ls_idxv (Ec.int 5 .u8) (A:=A2_1) (c:=c2_1) (l:=l2_1) (k:=.i64) (i:=IntKind.wrap .i64 (y23+x23_9)) (z:=1) (ad:=ad29) rfl rfl (by kernel_rfl) hA30 rfl (by kernel_rfl) (by kernel_rfl) (by kernel_rfl) (by kernel_rfl) q27 q28 ?_
   obtain ⟨y31,hy32,H⟩ := lt_some H
   refine ls_load (a0:=(ad29.add ((IntKind.wrap .i64 (y23+x23_9)).toNat*1))) (v:=.int .u8 ((l2_1).getD (IntKind.wrap .i64 (y23+x23_9)).toNat (0:Int))) (de:=(TypeDesc.int .u8)) rfl rfl (by kernel_rfl) rfl (by kernel_rfl) (by kernel_rfl) (by kernel_rfl) (fun w hs=>(hs.old R2_1).at hA30 (em_sub (Ec.int 5 .u8) l2_1 (i:=(IntKind.wrap .i64 (y23+x23_9)).toNat) (by have h0:(0:Int)≤IntKind.wrap .i64 (y23+x23_9) := q27; have h1:IntKind.wrap .i64 (y23+x23_9)<(l2_1.length:Int) := q28; omega))) ?_
   refine ls_ren 192 (v:=.int .u8 ((l2_1).getD (IntKind.wrap .i64 (y23+x23_9)).toNat (0:Int))) (v' := .int .u8 y31) (by kernel_rfl) (by rw [hy32]) ?_
   refine lv (.int .u8 y31) ?_
   refine ls_end ?_
   refine qn_then ?_
   refine cs_seq ?_
   refine cs_region (l:=[_,_,_,_,_,_]) ?_
   refine lv (.slice x22.1 t20.1.length x22.2) ?_
   refine lv (.int .i64 x23_9) ?_
   obtain ⟨q33,H⟩ := ite_need H
   obtain ⟨q34,H⟩ := ite_need H
   refine ls_atro (T:=(Ec.int 5 .u8)) (tk:=6) (i:=x23_9) (by exact rfl) q33 q34 ?_
   intro ad35 hA36
   refine ls_idxv (Ec.int 5 .u8) (A:=x22.1) (c:=x22.2) (l:=t20.1) (k:=.i64) (i:=x23_9) (z:=1) (ad:=ad35) rfl rfl (by kernel_rfl) hA36 rfl (by kernel_rfl) (by kernel_rfl) (by kernel_rfl) (by kernel_rfl) q33 q34 ?_
   refine ls_load (a0:=(ad35.add ((x23_9).toNat*1))) (v:=.int .u8 ((t20.1).getD (x23_9).toNat (0:Int))) (de:=(TypeDesc.int .u8)) rfl rfl (by kernel_rfl) rfl (by kernel_rfl) (by kernel_rfl) (by kernel_rfl) (fun w hs=>(hs.rod (k:=6) (by exact rfl)).at hA36 (em_sub (Ec.int 5 .u8) t20.1 (i:=(x23_9).toNat) (by have h0:(0:Int)≤x23_9 := q33; have h1:x23_9<(t20.1.length:Int) := q34; omega))) ?_
   refine lv (.int .u8 y31) ?_
   refine lv (.bool (!decide (((t20.1).getD (x23_9).toNat (0:Int))=y31))) ?_
   refine ls_end ?_
   refine qn_then ?_
   by_cases q37:((t20.1).getD (x23_9).toNat (0:Int))=y31
   ·replace H := ite_t q37 H
    refine cs_know (c:=false) (congrArg Bool.not (dec_t q37)) 198 (by kernel_rfl) ?_
    refine cs_false (by kernel_rfl) ?_
    refine cs_skip' ?_
    refine qn_block ?_
    refine qn_then ?_
    refine cs_region (l:=[_,_,_]) ?_
    refine lv (.int .i64 x23_9) ?_
    refine lv (.int .i64 (IntKind.wrap .i64 (x23_9+(1:Int)))) ?_
    refine lv (.int .i64 (IntKind.wrap .i64 (x23_9+(1:Int)))) ?_
    refine ls_end ?_
    refine qn_again k9 (sput (sput (sput (sput s0 1 (some (Ck.var 42 x6.1 (([Value.slice (some ⟨x6.2.2.1,0,none⟩) x6.2.2.2.2 x6.2.2.2.1]++([Value.map (some x6.2.1)]++([Value.bool t9.2.2.1.2.2.1]++([Value.int .i64 t9.2.2.1.2.2.2.1]++[Value.bool t9.2.2.1.2.2.2.2])))))))) 2 (some (Ck.mr T56 x6.2.1 x6.2.2.1 x6.2.2.2.1 x6.2.2.2.2 t9.2.2.2))) 4 (some (Ck.var 30 g16 (([Value.int .i64 t13.1]++([Value.int .i64 t13.2.1]++([Value.int .i64 t13.2.2.1]++([Value.int .u32 t13.2.2.2.1]++en (Value.int .u8) t13.2.2.2.2.1)))))))) 6 (some (Ck.ro (Ec.int 5 .u8) x22.1 x22.2 t20.1))) (Nat.le_refl _) ⟨_,(IntKind.wrap .i64 (x23_9+(1:Int))),fr_next (fr_next (fr_next (fr_next (fr_next (fr_next (fr_next (rfl) (by kernel_rfl)) (by kernel_rfl)) (by kernel_rfl)) (by kernel_rfl)) (by kernel_rfl)) (by kernel_rfl)) (by kernel_rfl),rfl,H⟩ (sub_put (by exact rfl) (sub_put (by exact rfl) (sub_put (by exact rfl) (sub_put (by exact rfl) (sub_nil _)))))
   replace H := ite_f q37 H
   refine cs_know (c:=true) (congrArg Bool.not (dec_f q37)) 198 (by kernel_rfl) ?_
   refine cs_true (by kernel_rfl) ?_
   refine cs_seq ?_
   refine cs_region (l:=[_]) ?_
   refine lv (.bool false) ?_
   refine ls_end ?_
   refine qn_then ?_
   refine cs_ret' ?_
   refine qr_block ?_
   refine qr_then ?_
   refine qr_then ?_
   refine qr_block ?_
   refine qr_block ?_
   refine qr_then ?_
   refine qr_then ?_
   refine qr_block ?_
   refine qr_then ?_
   obtain rfl := Option.some.inj H
   refine qr_res (rs:=[_]) rfl (fun w' hs=>⟨[.bool false],(res_tmp (by kernel_rfl) (.nil)),(),rfl,hs.pick (ts:=[]) (cs:=[]) trivial (by decide)⟩)
  replace H := ite_f q26 H
  refine cs_know (c:=false) (dec_f q26) 188 (by kernel_rfl) ?_
  refine cs_false (by kernel_rfl) ?_
  refine cs_skip' ?_
  refine qn_then ?_
  refine cs_seq ?_
  refine cs_region (l:=[_,_,_,_,_,_]) ?_
  refine lv (.slice x22.1 t20.1.length x22.2) ?_
  refine lv (.int .i64 x23_9) ?_
  obtain ⟨q38,H⟩ := ite_need H
  obtain ⟨q39,H⟩ := ite_need H
  refine ls_atro (T:=(Ec.int 5 .u8)) (tk:=6) (i:=x23_9) (by exact rfl) q38 q39 ?_
  intro ad40 hA41
  refine ls_idxv (Ec.int 5 .u8) (A:=x22.1) (c:=x22.2) (l:=t20.1) (k:=.i64) (i:=x23_9) (z:=1) (ad:=ad40) rfl rfl (by kernel_rfl) hA41 rfl (by kernel_rfl) (by kernel_rfl) (by kernel_rfl) (by kernel_rfl) q38 q39 ?_
  refine ls_load (a0:=(ad40.add ((x23_9).toNat*1))) (v:=.int .u8 ((t20.1).getD (x23_9).toNat (0:Int))) (de:=(TypeDesc.int .u8)) rfl rfl (by kernel_rfl) rfl (by kernel_rfl) (by kernel_rfl) (by kernel_rfl) (fun w hs=>(hs.rod (k:=6) (by exact rfl)).at hA41 (em_sub (Ec.int 5 .u8) t20.1 (i:=(x23_9).toNat) (by have h0:(0:Int)≤x23_9 := q38; have h1:x23_9<(t20.1.length:Int) := q39; omega))) ?_
  refine lv (.int .u8 (0:Int)) ?_
  refine lv (.bool (!decide (((t20.1).getD (x23_9).toNat (0:Int))=(0:Int)))) ?_
  refine ls_end ?_
  refine qn_then ?_
  by_cases q42:((t20.1).getD (x23_9).toNat (0:Int))=(0:Int)
  ·replace H := ite_t q42 H
   refine cs_know (c:=false) (congrArg Bool.not (dec_t q42)) 198 (by kernel_rfl) ?_
   refine cs_false (by kernel_rfl) ?_
   refine cs_skip' ?_
   refine qn_block ?_
   refine qn_then ?_
   refine cs_region (l:=[_,_,_]) ?_
   refine lv (.int .i64 x23_9) ?_
   refine lv (.int .i64 (IntKind.wrap .i64 (x23_9+(1:Int)))) ?_
   refine lv (.int .i64 (IntKind.wrap .i64 (x23_9+(1:Int)))) ?_
   refine ls_end ?_
   refine qn_again k9 (sput (sput (sput (sput s0 1 (some (Ck.var 42 x6.1 (([Value.slice (some ⟨x6.2.2.1,0,none⟩) x6.2.2.2.2 x6.2.2.2.1]++([Value.map (some x6.2.1)]++([Value.bool t9.2.2.1.2.2.1]++([Value.int .i64 t9.2.2.1.2.2.2.1]++[Value.bool t9.2.2.1.2.2.2.2])))))))) 2 (some (Ck.mr T56 x6.2.1 x6.2.2.1 x6.2.2.2.1 x6.2.2.2.2 t9.2.2.2))) 4 (some (Ck.var 30 g16 (([Value.int .i64 t13.1]++([Value.int .i64 t13.2.1]++([Value.int .i64 t13.2.2.1]++([Value.int .u32 t13.2.2.2.1]++en (Value.int .u8) t13.2.2.2.2.1)))))))) 6 (some (Ck.ro (Ec.int 5 .u8) x22.1 x22.2 t20.1))) (Nat.le_refl _) ⟨_,(IntKind.wrap .i64 (x23_9+(1:Int))),fr_next (fr_next (fr_next (fr_next (fr_next (fr_next (fr_next (rfl) (by kernel_rfl)) (by kernel_rfl)) (by kernel_rfl)) (by kernel_rfl)) (by kernel_rfl)) (by kernel_rfl)) (by kernel_rfl),rfl,H⟩ (sub_put (by exact rfl) (sub_put (by exact rfl) (sub_put (by exact rfl) (sub_put (by exact rfl) (sub_nil _)))))
  replace H := ite_f q42 H
  refine cs_know (c:=true) (congrArg Bool.not (dec_f q42)) 198 (by kernel_rfl) ?_
  refine cs_true (by kernel_rfl) ?_
  refine cs_seq ?_
  refine cs_region (l:=[_]) ?_
  refine lv (.bool false) ?_
  refine ls_end ?_
  refine qn_then ?_
  refine cs_ret' ?_
  refine qr_block ?_
  refine qr_then ?_
  refine qr_then ?_
  refine qr_block ?_
  refine qr_block ?_
  refine qr_then ?_
  refine qr_then ?_
  refine qr_block ?_
  refine qr_then ?_
  obtain rfl := Option.some.inj H
  refine qr_res (rs:=[_]) rfl (fun w' hs=>⟨[.bool false],(res_tmp (by kernel_rfl) (.nil)),(),rfl,hs.pick (ts:=[]) (cs:=[]) trivial (by decide)⟩)
 replace H := ite_f q25 H
 refine ls_know (c:=false) (dec_f q25) 183 (by kernel_rfl) ?_
 refine lofx 2 183 true false ?_
 refine lofx 2 183 true false ?_
 refine lofx 2 183 true false ?_
 refine lofx 2 183 true false ?_
 refine lv (.bool false) ?_
 refine ls_end ?_
 refine qn_then ?_
 refine cs_false (by kernel_rfl) ?_
 refine cs_skip' ?_
 refine qn_then ?_
 refine cs_seq ?_
 refine cs_region (l:=[_,_,_,_,_,_]) ?_
 refine lv (.slice x22.1 t20.1.length x22.2) ?_
 refine lv (.int .i64 x23_9) ?_
 obtain ⟨q43,H⟩ := ite_need H
 obtain ⟨q44,H⟩ := ite_need H
 refine ls_atro (T:=(Ec.int 5 .u8)) (tk:=6) (i:=x23_9) (by exact rfl) q43 q44 ?_
 intro ad45 hA46
 refine ls_idxv (Ec.int 5 .u8) (A:=x22.1) (c:=x22.2) (l:=t20.1) (k:=.i64) (i:=x23_9) (z:=1) (ad:=ad45) rfl rfl (by kernel_rfl) hA46 rfl (by kernel_rfl) (by kernel_rfl) (by kernel_rfl) (by kernel_rfl) q43 q44 ?_
 refine ls_load (a0:=(ad45.add ((x23_9).toNat*1))) (v:=.int .u8 ((t20.1).getD (x23_9).toNat (0:Int))) (de:=(TypeDesc.int .u8)) rfl rfl (by kernel_rfl) rfl (by kernel_rfl) (by kernel_rfl) (by kernel_rfl) (fun w hs=>(hs.rod (k:=6) (by exact rfl)).at hA46 (em_sub (Ec.int 5 .u8) t20.1 (i:=(x23_9).toNat) (by have h0:(0:Int)≤x23_9 := q43; have h1:x23_9<(t20.1.length:Int) := q44; omega))) ?_
 refine lv (.int .u8 (0:Int)) ?_
 refine lv (.bool (!decide (((t20.1).getD (x23_9).toNat (0:Int))=(0:Int)))) ?_
 refine ls_end ?_
 refine qn_then ?_
 by_cases q47:((t20.1).getD (x23_9).toNat (0:Int))=(0:Int)
 ·replace H := ite_t q47 H
  refine cs_know (c:=false) (congrArg Bool.not (dec_t q47)) 198 (by kernel_rfl) ?_
  refine cs_false (by kernel_rfl) ?_
  refine cs_skip' ?_
  refine qn_block ?_
  refine qn_then ?_
  refine cs_region (l:=[_,_,_]) ?_
  refine lv (.int .i64 x23_9) ?_
  refine lv (.int .i64 (IntKind.wrap .i64 (x23_9+(1:Int)))) ?_
  refine lv (.int .i64 (IntKind.wrap .i64 (x23_9+(1:Int)))) ?_
  refine ls_end ?_
  refine qn_again k9 (sput (sput (sput (sput s0 1 (some (Ck.var 42 x6.1 (([Value.slice (some ⟨x6.2.2.1,0,none⟩) x6.2.2.2.2 x6.2.2.2.1]++([Value.map (some x6.2.1)]++([Value.bool t9.2.2.1.2.2.1]++([Value.int .i64 t9.2.2.1.2.2.2.1]++[Value.bool t9.2.2.1.2.2.2.2])))))))) 2 (some (Ck.mr T56 x6.2.1 x6.2.2.1 x6.2.2.2.1 x6.2.2.2.2 t9.2.2.2))) 4 (some (Ck.var 30 g16 (([Value.int .i64 t13.1]++([Value.int .i64 t13.2.1]++([Value.int .i64 t13.2.2.1]++([Value.int .u32 t13.2.2.2.1]++en (Value.int .u8) t13.2.2.2.2.1)))))))) 6 (some (Ck.ro (Ec.int 5 .u8) x22.1 x22.2 t20.1))) (Nat.le_refl _) ⟨_,(IntKind.wrap .i64 (x23_9+(1:Int))),fr_next (fr_next (fr_next (fr_next (fr_next (fr_next (fr_next (rfl) (by kernel_rfl)) (by kernel_rfl)) (by kernel_rfl)) (by kernel_rfl)) (by kernel_rfl)) (by kernel_rfl)) (by kernel_rfl),rfl,H⟩ (sub_put (by exact rfl) (sub_put (by exact rfl) (sub_put (by exact rfl) (sub_put (by exact rfl) (sub_nil _)))))
 replace H := ite_f q47 H
 refine cs_know (c:=true) (congrArg Bool.not (dec_f q47)) 198 (by kernel_rfl) ?_
 refine cs_true (by kernel_rfl) ?_
 refine cs_seq ?_
 refine cs_region (l:=[_]) ?_
 refine lv (.bool false) ?_
 refine ls_end ?_
 refine qn_then ?_
 refine cs_ret' ?_
 refine qr_block ?_
 refine qr_then ?_
 refine qr_then ?_
 refine qr_block ?_
 refine qr_block ?_
 refine qr_then ?_
 refine qr_then ?_
 refine qr_block ?_
 refine qr_then ?_
 obtain rfl := Option.some.inj H
 refine qr_res (rs:=[_]) rfl (fun w' hs=>⟨[.bool false],(res_tmp (by kernel_rfl) (.nil)),(),rfl,hs.pick (ts:=[]) (cs:=[]) trivial (by decide)⟩)

end Go.Proofs.Ytbidihabicgedaa.G
