/- Printed by a program of this session (sz.py): plain functions, and walks that show that the code comes to them; no condition. -/
import Derived.Test.YtbidihabicgedaaProg
import Derived.Test.YtbidihabicgedaaTy
import Derived.Test.YtbidihabicgedaaG0
import Derived.Test.YtbidihabicgedaaG1
import Derived.Test.YtbidihabicgedaaG2
set_option linter.unusedVariables false
set_option linter.unusedSimpArgs false
namespace Go.Proofs.Ytbidihabicgedaa.G
open Go Go.RowKit Go.Proofs.Ytbidihabicgedaa.Sx

/-! ### shadowbox/shadowboxref03.Block: function 37 -/
def shadowboxref03_Block.cst0:Vc Int 64 := ⟨[(0:Int),(0:Int),(0:Int),(0:Int),(0:Int),(0:Int),(0:Int),(0:Int),(0:Int),(0:Int),(0:Int),(0:Int),(0:Int),(0:Int),(0:Int),(0:Int),(0:Int),(0:Int),(0:Int),(0:Int),(0:Int),(0:Int),(0:Int),(0:Int),(0:Int),(0:Int),(0:Int),(0:Int),(0:Int),(0:Int),(0:Int),(0:Int),(0:Int),(0:Int),(0:Int),(0:Int),(0:Int),(0:Int),(0:Int),(0:Int),(0:Int),(0:Int),(0:Int),(0:Int),(0:Int),(0:Int),(0:Int),(0:Int),(0:Int),(0:Int),(0:Int),(0:Int),(0:Int),(0:Int),(0:Int),(0:Int),(0:Int),(0:Int),(0:Int),(0:Int),(0:Int),(0:Int),(0:Int),(0:Int)],rfl⟩
def shadowboxref03_Block.tab6:List (List Nat) := [[],[],[],[1,2],[1,2,3],[],[5],[5,6],[1,2,3,4,5,6,7],[],[0,1,2,3,4,5,6,7,8,9],[0,1,2,3,4,5,6,7,8,9,10]]
def shadowboxref03_Block.lo4 (m4_3:(Vc Int 8)):Nat→Int→(((Vc Int 8) × Int))→Option (((Vc Int 8) × Int))
  | 0,_,_=>none
  | k4+1,x18_4,m0_4=>(if x18_4<(8:Int) then (if 0≤x18_4 then lt (IntKind.wrap .u32 ((m0_4.1.1.getD (x18_4).toNat (0:Int))+(m4_3.1.getD (x18_4).toNat (0:Int)))) fun y10=>lt (vset m0_4.1 (x18_4).toNat y10) fun y12=>(shadowboxref03_Block.lo4 m4_3 k4) (IntKind.wrap .i64 (x18_4+(1:Int))) (y12,m0_4.2) else none) else some (m0_4.1,IntKind.wrap .u64 (m0_4.2+(64:Int))))
def shadowboxref03_Block.jo3 (k:Nat) (a0:((Vc Int 8) × Int)) (m4_3:(Vc Int 8)):Option (((Vc Int 8) × Int)) := shadowboxref03_Block.lo4 m4_3 k (0:Int) a0
def shadowboxref03_Block.tab19:List (List Nat) := [[],[0],[],[2],[],[2,3,4],[2,3,4,5],[],[2,3,4,5,7],[2,3,4,5,6,7,8],[0,1,2,3,4,5,6,7,8,9],[],[],[12],[11,12,13],[],[15],[],[17],[15,16,17,18],[11,12,13,14,15,16,17,18,19],[0,1,2,3,4,5,6,7,8,9,10,11,12,13,14,15,16,17,18,19,20],[],[22],[22,23],[0,1,2,3,4,5,6,7,8,9,10,11,12,13,14,15,16,17,18,19,20,21,22,23,24],[],[26],[26,27],[0,1,2,3,4,5,6,7,8,9,10,11,12,13,14,15,16,17,18,19,20,21,22,23,24,25,26,27,28],[0,1,2,3,4,5,6,7,8,9,10,11,12,13,14,15,16,17,18,19,20,21,22,23,24,25,26,27,28,29]]
def shadowboxref03_Block.tab53:List (List Nat) := [[],[0],[],[0,1,2],[0,1,2,3],[],[0,1,2,3,5],[0,1,2,3,4,5,6],[],[],[9],[8,9,10],[],[],[13],[12,13,14],[8,9,10,11,12,13,14,15],[],[17],[],[19],[17,18,19,20],[8,9,10,11,12,13,14,15,16,17,18,19,20,21],[0,1,2,3,4,5,6,7,8,9,10,11,12,13,14,15,16,17,18,19,20,21,22],[0,1,2,3,4,5,6,7,8,9,10,11,12,13,14,15,16,17,18,19,20,21,22,23]]
def shadowboxref03_Block.jo6 (a2:(Vc Int 64)) (m3_2:(Vc Int 64)) (x13_5:Int) (m4_5:(Vc Int 8)) (k5:Nat) (lo5:Int→((Vc Int 8))→Option (((Vc Int 8) × Int))):Option (((Vc Int 8) × Int)) := (if (4:Int)<(8:Int) then lt ((m4_5.1.getD ((4:Int)).toNat (0:Int))) fun y15=>(if (0:Int)<(8:Int) then lt ((m4_5.1.getD ((0:Int)).toNat (0:Int))) fun y18=>(if (7:Int)<(8:Int) then lt ((m4_5.1.getD ((7:Int)).toNat (0:Int))) fun y23=>(shadowboxref03_rotr.f k5 y15 (6:Int)).bind fun t25=>(shadowboxref03_rotr.f k5 y15 (11:Int)).bind fun t28=>(shadowboxref03_rotr.f k5 y15 (25:Int)).bind fun t31=>lt (bits .xor .u32 (bits .xor .u32 t25 t28) t31) fun y34=>(if (5:Int)<(8:Int) then lt ((m4_5.1.getD ((5:Int)).toNat (0:Int))) fun y37=>lt (IntKind.wrap .u32 ((4294967295:Int) - y15)) fun y39=>(if (6:Int)<(8:Int) then lt ((m4_5.1.getD ((6:Int)).toNat (0:Int))) fun y42=>lt (bits .xor .u32 (bits .and .u32 y15 y37) (bits .and .u32 y39 y42)) fun y44=>lt (IntKind.wrap .u32 ((IntKind.wrap .u32 (y23+y34))+y44)) fun y46=>(if 0≤x13_5 then (if x13_5<(64:Int) then lt (IntKind.wrap .u32 (y46+(a2.1.getD (x13_5).toNat (0:Int)))) fun y50=>lt (IntKind.wrap .u32 (y50+(m3_2.1.getD (x13_5).toNat (0:Int)))) fun y52=>(shadowboxref03_rotr.f k5 y18 (2:Int)).bind fun t56=>(shadowboxref03_rotr.f k5 y18 (13:Int)).bind fun t59=>(shadowboxref03_rotr.f k5 y18 (22:Int)).bind fun t62=>lt (bits .xor .u32 (bits .xor .u32 t56 t59) t62) fun y65=>(if (1:Int)<(8:Int) then lt ((m4_5.1.getD ((1:Int)).toNat (0:Int))) fun y68=>(if (2:Int)<(8:Int) then lt ((m4_5.1.getD ((2:Int)).toNat (0:Int))) fun y71=>lt (bits .xor .u32 (bits .and .u32 y18 y68) (bits .and .u32 y18 y71)) fun y73=>lt ((m4_5.1.getD ((1:Int)).toNat (0:Int))) fun y75=>lt ((m4_5.1.getD ((2:Int)).toNat (0:Int))) fun y77=>lt (bits .xor .u32 y73 (bits .and .u32 y75 y77)) fun y79=>lt (IntKind.wrap .u32 (y52+(IntKind.wrap .u32 (y65+y79)))) fun y81=>lt ((m4_5.1.getD ((0:Int)).toNat (0:Int))) fun y83=>lt ((m4_5.1.getD ((1:Int)).toNat (0:Int))) fun y85=>lt ((m4_5.1.getD ((2:Int)).toNat (0:Int))) fun y87=>(if (3:Int)<(8:Int) then lt ((m4_5.1.getD ((3:Int)).toNat (0:Int))) fun y90=>lt ((m4_5.1.getD ((4:Int)).toNat (0:Int))) fun y92=>lt ((m4_5.1.getD ((5:Int)).toNat (0:Int))) fun y94=>lt ((m4_5.1.getD ((6:Int)).toNat (0:Int))) fun y96=>lo5 (IntKind.wrap .i64 (x13_5+(1:Int))) (⟨[y81,y83,y85,y87,IntKind.wrap .u32 (y90+y52),y92,y94,y96],rfl⟩:(Vc Int 8)) else none) else none) else none) else none) else none) else none) else none) else none) else none) else none)
def shadowboxref03_Block.lo5 (a2:(Vc Int 64)) (m3_2:(Vc Int 64)) (jo3:((Vc Int 8))→Option (((Vc Int 8) × Int))):Nat→Int→((Vc Int 8))→Option (((Vc Int 8) × Int))
  | 0,_,_=>none
  | k5+1,x13_5,m4_5=>(if x13_5<(64:Int) then (shadowboxref03_Block.jo6 a2 m3_2 x13_5 m4_5 k5 (shadowboxref03_Block.lo5 a2 m3_2 jo3 k5)) else jo3 m4_5)
def shadowboxref03_Block.jo2 (k:Nat) (a0:((Vc Int 8) × Int)) (a2:(Vc Int 64)) (m3_2:(Vc Int 64)):Option (((Vc Int 8) × Int)) := shadowboxref03_Block.lo5 a2 m3_2 (shadowboxref03_Block.jo3 k a0) k (0:Int) a0.1
def shadowboxref03_Block.tab106:List (List Nat) := [[],[],[1],[],[1,2,3],[1,2,3,4],[],[6],[1,2,3,4,5,6,7],[],[9],[9,10],[9,10,11],[1,2,3,4,5,6,7,8,9,10,11,12],[],[1,2,3,4,14],[],[1,2,3,4,14,15,16],[1,2,3,4,14,15,16,17],[],[19],[1,2,3,4,14,15,16,17,18,19,20],[1,2,3,4,5,6,7,8,9,10,11,12,13,14,15,16,17,18,19,20,21],[],[23],[23,24],[23,24,25],[1,2,3,4,5,6,7,8,9,10,11,12,13,14,15,16,17,18,19,20,21,22,23,24,25,26],[0,1,2,3,4,5,6,7,8,9,10,11,12,13,14,15,16,17,18,19,20,21,22,23,24,25,26,27],[0,1,2,3,4,5,6,7,8,9,10,11,12,13,14,15,16,17,18,19,20,21,22,23,24,25,26,27,28]]
def shadowboxref03_Block.jo8 (x9_7:Int) (m3_7:(Vc Int 64)) (k7:Nat) (lo7:Int→((Vc Int 64))→Option (((Vc Int 8) × Int))):Option (((Vc Int 8) × Int)) := (if 0≤IntKind.wrap .i64 (x9_7 - (2:Int)) then (if IntKind.wrap .i64 (x9_7 - (2:Int))<(64:Int) then lt ((m3_7.1.getD (IntKind.wrap .i64 (x9_7 - (2:Int))).toNat (0:Int))) fun y101=>(if 0≤IntKind.wrap .i64 (x9_7 - (15:Int)) then (if IntKind.wrap .i64 (x9_7 - (15:Int))<(64:Int) then lt ((m3_7.1.getD (IntKind.wrap .i64 (x9_7 - (15:Int))).toNat (0:Int))) fun y105=>(shadowboxref03_rotr.f k7 y101 (17:Int)).bind fun t109=>(shadowboxref03_rotr.f k7 y101 (19:Int)).bind fun t112=>lt (bits .xor .u32 (bits .xor .u32 t109 t112) (Int.fdiv y101 1024)) fun y115=>(if 0≤IntKind.wrap .i64 (x9_7 - (7:Int)) then (if IntKind.wrap .i64 (x9_7 - (7:Int))<(64:Int) then lt ((m3_7.1.getD (IntKind.wrap .i64 (x9_7 - (7:Int))).toNat (0:Int))) fun y119=>(shadowboxref03_rotr.f k7 y105 (7:Int)).bind fun t121=>(shadowboxref03_rotr.f k7 y105 (18:Int)).bind fun t124=>lt (bits .xor .u32 (bits .xor .u32 t121 t124) (Int.fdiv y105 8)) fun y127=>lt (IntKind.wrap .u32 ((IntKind.wrap .u32 (y115+y119))+y127)) fun y129=>(if 0≤IntKind.wrap .i64 (x9_7 - (16:Int)) then (if IntKind.wrap .i64 (x9_7 - (16:Int))<(64:Int) then lt ((m3_7.1.getD (IntKind.wrap .i64 (x9_7 - (16:Int))).toNat (0:Int))) fun y133=>(if 0≤x9_7 then (if x9_7<(64:Int) then lt (vset m3_7 (x9_7).toNat (IntKind.wrap .u32 (y129+y133))) fun y137=>lo7 (IntKind.wrap .i64 (x9_7+(1:Int))) y137 else none) else none) else none) else none) else none) else none) else none) else none) else none) else none)
def shadowboxref03_Block.lo7 (jo2:((Vc Int 64))→Option (((Vc Int 8) × Int))):Nat→Int→((Vc Int 64))→Option (((Vc Int 8) × Int))
  | 0,_,_=>none
  | k7+1,x9_7,m3_7=>(if x9_7<(64:Int) then (shadowboxref03_Block.jo8 x9_7 m3_7 k7 (shadowboxref03_Block.lo7 jo2 k7)) else jo2 m3_7)
def shadowboxref03_Block.jo1 (k:Nat) (a0:((Vc Int 8) × Int)) (a2:(Vc Int 64)) (m3_1:(Vc Int 64)):Option (((Vc Int 8) × Int)) := shadowboxref03_Block.lo7 (shadowboxref03_Block.jo2 k a0 a2) k (16:Int) m3_1
def shadowboxref03_Block.tab139:List (List Nat) := [[],[],[],[2],[1,2,3],[1,2,3,4],[1,2,3,4,5],[1,2,3,4,5,6],[],[],[9],[9,10],[8,9,10,11],[8,9,10,11,12],[8,9,10,11,12,13],[8,9,10,11,12,13,14],[1,2,3,4,5,6,7,8,9,10,11,12,13,14,15],[],[],[18],[18,19],[17,18,19,20],[17,18,19,20,21],[17,18,19,20,21,22],[17,18,19,20,21,22,23],[1,2,3,4,5,6,7,8,9,10,11,12,13,14,15,16,17,18,19,20,21,22,23,24],[],[],[27],[27,28],[26,27,28,29],[26,27,28,29,30],[26,27,28,29,30,31],[1,2,3,4,5,6,7,8,9,10,11,12,13,14,15,16,17,18,19,20,21,22,23,24,25,26,27,28,29,30,31,32],[0,1,2,3,4,5,6,7,8,9,10,11,12,13,14,15,16,17,18,19,20,21,22,23,24,25,26,27,28,29,30,31,32,33],[0,1,2,3,4,5,6,7,8,9,10,11,12,13,14,15,16,17,18,19,20,21,22,23,24,25,26,27,28,29,30,31,32,33,34]]
def shadowboxref03_Block.jo10 (l1:List Int) (x8_9:Int) (m3_9:(Vc Int 64)) (lo9:Int→((Vc Int 64))→Option (((Vc Int 8) × Int))):Option (((Vc Int 8) × Int)) := (if 0≤IntKind.wrap .i64 ((4:Int)*x8_9) then (if IntKind.wrap .i64 ((4:Int)*x8_9)<(l1.length:Int) then lt (((l1).getD (IntKind.wrap .i64 ((4:Int)*x8_9)).toNat (0:Int))) fun y146=>lt (IntKind.wrap .u32 ((IntKind.wrap .u32 y146)*16777216)) fun y148=>lt (IntKind.wrap .i64 ((IntKind.wrap .i64 ((4:Int)*x8_9))+(1:Int))) fun y150=>(if 0≤y150 then (if y150<(l1.length:Int) then lt (IntKind.wrap .u32 ((l1).getD (y150).toNat (0:Int))) fun y156=>lt (IntKind.wrap .u32 (y148+(IntKind.wrap .u32 (y156*65536)))) fun y158=>lt (IntKind.wrap .i64 ((IntKind.wrap .i64 ((4:Int)*x8_9))+(2:Int))) fun y160=>(if 0≤y160 then (if y160<(l1.length:Int) then lt (IntKind.wrap .u32 ((l1).getD (y160).toNat (0:Int))) fun y166=>lt (IntKind.wrap .u32 (y158+(IntKind.wrap .u32 (y166*256)))) fun y168=>lt (IntKind.wrap .i64 ((IntKind.wrap .i64 ((4:Int)*x8_9))+(3:Int))) fun y170=>(if 0≤y170 then (if y170<(l1.length:Int) then lt (IntKind.wrap .u32 ((l1).getD (y170).toNat (0:Int))) fun y176=>(if 0≤x8_9 then (if x8_9<(64:Int) then lt (vset m3_9 (x8_9).toNat (IntKind.wrap .u32 (y168+y176))) fun y180=>lo9 (IntKind.wrap .i64 (x8_9+(1:Int))) y180 else none) else none) else none) else none) else none) else none) else none) else none) else none) else none)
def shadowboxref03_Block.lo9 (l1:List Int) (jo1:((Vc Int 64))→Option (((Vc Int 8) × Int))):Nat→Int→((Vc Int 64))→Option (((Vc Int 8) × Int))
  | 0,_,_=>none
  | k9+1,x8_9,m3_9=>(if x8_9<(16:Int) then (shadowboxref03_Block.jo10 l1 x8_9 m3_9 (shadowboxref03_Block.lo9 l1 jo1 k9)) else jo1 m3_9)
def shadowboxref03_Block.f (k:Nat) (a0:((Vc Int 8) × Int)) (l1:List Int) (a2:(Vc Int 64)):Option (((Vc Int 8) × Int)) :=
  shadowboxref03_Block.lo9 l1 (shadowboxref03_Block.jo1 k a0 a2) k (0:Int) shadowboxref03_Block.cst0
set_option maxRecDepth 100000 in
set_option maxHeartbeats 4000000 in
theorem shadowboxref03_Block.calls (k:Nat) (a0:((Vc Int 8) × Int)) (A1:Option Addr) (c1:Nat) (l1:List Int) (a2:(Vc Int 64)) (r:((Vc Int 8) × Int)) (b:Bs) (hs0:St b (stl []) b.w) (R1:Ro b A1 (em (Ec.int 5 .u8) l1)) (C1:l1.length≤c1) (H:shadowboxref03_Block.f k a0 l1 a2=some r) :
    Calls Try.prog 37 #[.agg ⟨(en (Value.int .u32) a0.1.1++[Value.int .u64 a0.2])⟩,.slice A1 l1.length c1,.agg ⟨en (Value.int .u32) a2.1⟩] b.w fun e w'=>∃ x:Unit,e=.returned (.agg ⟨(en (Value.int .u32) r.1.1++[Value.int .u64 r.2])⟩)∧St b (stl []) w' := by
 unfold shadowboxref03_Block.f at H
 refine enterb (n:=204) Try.func37 rfl (by kernel_rfl) (by kernel_rfl) hs0 ?_
 refine cs_sub (s0) (sub_nil _) ?_
 refine cs_seq ?_
 refine cs_region (l:=[_,_,_]) ?_
 refine ls_new rfl rfl (by kernel_rfl) 0 (fun g=>.pointer (some ⟨g,0,none⟩)) (.cells ⟨(en (Value.int .u32) a0.1.1++[Value.int .u64 a0.2])⟩ 74) (fun w=>by kernel_rfl) ?_
 intro g1
 refine ls_new rfl rfl (by kernel_rfl) 1 (fun g=>.pointer (some ⟨g,0,none⟩)) (.cells ⟨en (Value.int .u32) a2.1⟩ 69) (fun w=>by kernel_rfl) ?_
 intro g2
 refine ls_new rfl rfl (by kernel_rfl) 2 (fun g=>.pointer (some ⟨g,0,none⟩)) (.cells ⟨(en (Value.int .u32) (vrep 8 (0:Int)).1++[Value.int .u64 (0:Int)])⟩ 74) (fun w=>by kernel_rfl) ?_
 intro g3
 refine ls_end ?_
 refine qn_then ?_
 refine cs_seq ?_
 refine cs_region (l:=[_,_,_]) ?_
 refine lv (.agg ⟨en (Value.int .u32) shadowboxref03_Block.cst0.1⟩) ?_
 refine ls_new rfl rfl (by kernel_rfl) 3 (fun g=>.pointer (some ⟨g,0,none⟩)) (.cells ⟨en (Value.int .u32) (vrep 64 (0:Int)).1⟩ 69) (fun w=>by kernel_rfl) ?_
 intro g4
 refine ls_storec (g:=g4) (off:=0) (v:=.agg ⟨en (Value.int .u32) shadowboxref03_Block.cst0.1⟩) (vs:=en (Value.int .u32) shadowboxref03_Block.cst0.1) (cs:=en (Value.int .u32) (vrep 64 (0:Int)).1) (ty:=69) 3 rfl rfl rfl (by kernel_rfl) (by kernel_rfl) (by kernel_rfl) (by exact rfl) (by kernel_rfl) (len_en _ shadowboxref03_Block.cst0) (one_en (fun _=>rfl) _) (hl_of (Sub4.all _) (len_eq (len_en _ shadowboxref03_Block.cst0) (len_en _ (vrep 64 (0:Int))))) (cs' := en (Value.int .u32) shadowboxref03_Block.cst0.1) (splc_all (len_eq (len_en _ shadowboxref03_Block.cst0) (len_en _ (vrep 64 (0:Int))))) ?_
 refine ls_end ?_
 refine qn_then ?_
 refine cs_cut (fun f S=>∃ (fR:Fr) (m3_1:(Vc Int 64)),f=upd (upd (upd (upd fR 3 (.pointer (some ⟨g1,0,none⟩))) 5 (.pointer (some ⟨g2,0,none⟩))) 6 (.pointer (some ⟨g3,0,none⟩))) 7 (.pointer (some ⟨g4,0,none⟩))∧S=sput (sput (sput (sput s0 0 (some (Ck.var 74 g1 ((en (Value.int .u32) a0.1.1++[Value.int .u64 a0.2]))))) 1 (some (Ck.var 69 g2 (en (Value.int .u32) a2.1)))) 2 (some (Ck.var 74 g3 ((en (Value.int .u32) (vrep 8 (0:Int)).1++[Value.int .u64 (0:Int)]))))) 3 (some (Ck.var 69 g4 (en (Value.int .u32) m3_1.1)))∧shadowboxref03_Block.jo1 k a0 a2 m3_1=some r) ?_ ?_
 ·skip
  refine cs_seq ?_
  refine cs_region (l:=[_]) ?_
  refine lv (.int .i64 (0:Int)) ?_
  refine ls_end ?_
  refine qn_then ?_
  refine cs_block ?_
  refine cs_sub (sput (sput (sput (sput s0 0 (some (Ck.var 74 g1 ((en (Value.int .u32) a0.1.1++[Value.int .u64 a0.2]))))) 1 (some (Ck.var 69 g2 (en (Value.int .u32) a2.1)))) 2 (some (Ck.var 74 g3 ((en (Value.int .u32) (vrep 8 (0:Int)).1++[Value.int .u64 (0:Int)]))))) 3 (some (Ck.var 69 g4 (en (Value.int .u32) shadowboxref03_Block.cst0.1)))) (sub_put (by exact rfl) (sub_put (by exact rfl) (sub_put (by exact rfl) (sub_put (by exact rfl) (sub_nil _))))) ?_
  refine cs_loop (fun kk f S=>∃ (fR:Fr) (x8_9:Int) (m3_9:(Vc Int 64)),f=upd (upd (upd (upd (upd (upd fR 1 (.slice A1 l1.length c1)) 3 (.pointer (some ⟨g1,0,none⟩))) 5 (.pointer (some ⟨g2,0,none⟩))) 6 (.pointer (some ⟨g3,0,none⟩))) 7 (.pointer (some ⟨g4,0,none⟩))) 8 (.int .i64 x8_9)∧S=sput (sput (sput (sput s0 0 (some (Ck.var 74 g1 ((en (Value.int .u32) a0.1.1++[Value.int .u64 a0.2]))))) 1 (some (Ck.var 69 g2 (en (Value.int .u32) a2.1)))) 2 (some (Ck.var 74 g3 ((en (Value.int .u32) (vrep 8 (0:Int)).1++[Value.int .u64 (0:Int)]))))) 3 (some (Ck.var 69 g4 (en (Value.int .u32) m3_9.1)))∧shadowboxref03_Block.lo9 l1 (shadowboxref03_Block.jo1 k a0 a2) kk x8_9 m3_9=some r) k ?_ ?_ ?_
  ·exact ⟨_,(0:Int),shadowboxref03_Block.cst0,fr_next (fr_next (fr_next (fr_next (fr_next (fr_next (rfl) (by kernel_rfl)) (by kernel_rfl)) (by kernel_rfl)) (by kernel_rfl)) (by kernel_rfl)) (by kernel_rfl),rfl,H⟩
  ·rintro f S ⟨fr9,x8_9,m3_9,rfl,rfl,H⟩; cases H
  rintro k9 f S ⟨fr9,x8_9,m3_9,rfl,rfl,H⟩
  replace H:((if x8_9<(16:Int) then (shadowboxref03_Block.jo10 l1 x8_9 m3_9 (shadowboxref03_Block.lo9 l1 (shadowboxref03_Block.jo1 k a0 a2) k9)) else (shadowboxref03_Block.jo1 k a0 a2) m3_9))=some r := H
  refine cs_cut (fun f S=>∃ (fR:Fr),f=upd (upd (upd (upd (upd (upd fR 1 (.slice A1 l1.length c1)) 3 (.pointer (some ⟨g1,0,none⟩))) 5 (.pointer (some ⟨g2,0,none⟩))) 6 (.pointer (some ⟨g3,0,none⟩))) 7 (.pointer (some ⟨g4,0,none⟩))) 8 (.int .i64 x8_9)∧S=sput (sput (sput (sput s0 0 (some (Ck.var 74 g1 ((en (Value.int .u32) a0.1.1++[Value.int .u64 a0.2]))))) 1 (some (Ck.var 69 g2 (en (Value.int .u32) a2.1)))) 2 (some (Ck.var 74 g3 ((en (Value.int .u32) (vrep 8 (0:Int)).1++[Value.int .u64 (0:Int)]))))) 3 (some (Ck.var 69 g4 (en (Value.int .u32) m3_9.1)))∧shadowboxref03_Block.jo10 l1 x8_9 m3_9 (shadowboxref03_Block.lo9 l1 (shadowboxref03_Block.jo1 k a0 a2) k9)=some r) ?_ ?_
  ·skip
   refine cs_seq ?_
   refine cs_region (l:=[_,_]) ?_
   refine lv (.int .i64 x8_9) ?_
   refine lv (.bool (decide (x8_9<(16:Int)))) ?_
   refine ls_end ?_
   refine qn_then ?_
   by_cases q182:x8_9<(16:Int)
   ·replace H := ite_t q182 H
    refine cs_know (c:=true) (dec_t q182) 21 (by kernel_rfl) ?_
    refine cs_true (by kernel_rfl) ?_
    refine cs_skip' ?_
    refine qn_meet (sput (sput (sput (sput s0 0 (some (Ck.var 74 g1 ((en (Value.int .u32) a0.1.1++[Value.int .u64 a0.2]))))) 1 (some (Ck.var 69 g2 (en (Value.int .u32) a2.1)))) 2 (some (Ck.var 74 g3 ((en (Value.int .u32) (vrep 8 (0:Int)).1++[Value.int .u64 (0:Int)]))))) 3 (some (Ck.var 69 g4 (en (Value.int .u32) m3_9.1)))) ⟨_,fr_next (fr_next (fr_next (fr_next (fr_next (fr_next (rfl) (by kernel_rfl)) (by kernel_rfl)) (by kernel_rfl)) (by kernel_rfl)) (by kernel_rfl)) (by kernel_rfl),rfl,H⟩ (sub_put (by exact rfl) (sub_put (by exact rfl) (sub_put (by exact rfl) (sub_put (by exact rfl) (sub_nil _)))))
   replace H := ite_f q182 H
   refine cs_know (c:=false) (dec_f q182) 21 (by kernel_rfl) ?_
   refine cs_false (by kernel_rfl) ?_
   refine cs_exit' ?_
   refine qx_then ?_
   refine qx_then ?_
   refine qx_same ?_
   refine qn_meet (sput (sput (sput (sput s0 0 (some (Ck.var 74 g1 ((en (Value.int .u32) a0.1.1++[Value.int .u64 a0.2]))))) 1 (some (Ck.var 69 g2 (en (Value.int .u32) a2.1)))) 2 (some (Ck.var 74 g3 ((en (Value.int .u32) (vrep 8 (0:Int)).1++[Value.int .u64 (0:Int)]))))) 3 (some (Ck.var 69 g4 (en (Value.int .u32) m3_9.1)))) ⟨_,m3_9,fr_next (fr_next (fr_next (fr_next (rfl) (by kernel_rfl)) (by kernel_rfl)) (by kernel_rfl)) (by kernel_rfl),rfl,H⟩ (sub_put (by exact rfl) (sub_put (by exact rfl) (sub_put (by exact rfl) (sub_put (by exact rfl) (sub_nil _)))))
  rintro f S ⟨fr10,rfl,rfl,H⟩
  replace H:((if 0≤IntKind.wrap .i64 ((4:Int)*x8_9) then (if IntKind.wrap .i64 ((4:Int)*x8_9)<(l1.length:Int) then lt (((l1).getD (IntKind.wrap .i64 ((4:Int)*x8_9)).toNat (0:Int))) fun y146=>lt (IntKind.wrap .u32 ((IntKind.wrap .u32 y146)*16777216)) fun y148=>lt (IntKind.wrap .i64 ((IntKind.wrap .i64 ((4:Int)*x8_9))+(1:Int))) fun y150=>(if 0≤y150 then (if y150<(l1.length:Int) then lt (IntKind.wrap .u32 ((l1).getD (y150).toNat (0:Int))) fun y156=>lt (IntKind.wrap .u32 (y148+(IntKind.wrap .u32 (y156*65536)))) fun y158=>lt (IntKind.wrap .i64 ((IntKind.wrap .i64 ((4:Int)*x8_9))+(2:Int))) fun y160=>(if 0≤y160 then (if y160<(l1.length:Int) then lt (IntKind.wrap .u32 ((l1).getD (y160).toNat (0:Int))) fun y166=>lt (IntKind.wrap .u32 (y158+(IntKind.wrap .u32 (y166*256)))) fun y168=>lt (IntKind.wrap .i64 ((IntKind.wrap .i64 ((4:Int)*x8_9))+(3:Int))) fun y170=>(if 0≤y170 then (if y170<(l1.length:Int) then lt (IntKind.wrap .u32 ((l1).getD (y170).toNat (0:Int))) fun y176=>(if 0≤x8_9 then (if x8_9<(64:Int) then lt (vset m3_9 (x8_9).toNat (IntKind.wrap .u32 (y168+y176))) fun y180=>(shadowboxref03_Block.lo9 l1 (shadowboxref03_Block.jo1 k a0 a2) k9) (IntKind.wrap .i64 (x8_9+(1:Int))) y180 else none) else none) else none) else none) else none) else none) else none) else none) else none) else none))=some r := H
  refine cs_seq ?_
  refine cs_block ?_
  obtain ⟨s141_0,hs141_0⟩ := exv (.int .i64 x8_9)
  refine have_opa shadowboxref03_Block.tab139 4 0 (fun sp=>sp 0=s141_0) (fun sp on hA hon=>?_) (fun ops141_0=>?_)
  ·refine ⟨fun o ho vs Rs f' S' w hp hf hx hS hR hs=>?_⟩
   obtain rfl := Option.some.inj ho
   exact opv (.int .i64 x8_9) hA hs141_0 hon (fr_next (rfl) ((hx 8 (by kernel_rfl)).trans (by kernel_rfl:(_:Value)=.int .i64 x8_9)))
  obtain ⟨s141_1,hs141_1⟩ := exv (.slice A1 l1.length c1)
  refine have_opa shadowboxref03_Block.tab139 4 1 (fun sp=>sp 1=s141_1) (fun sp on hA hon=>?_) (fun ops141_1=>?_)
  ·refine ⟨fun o ho vs Rs f' S' w hp hf hx hS hR hs=>?_⟩
   obtain rfl := Option.some.inj ho
   exact opv (.slice A1 l1.length c1) hA hs141_1 hon (fr_next (rfl) ((hx 1 (by kernel_rfl)).trans (by kernel_rfl:(_:Value)=.slice A1 l1.length c1)))
  obtain ⟨s141_2,hs141_2⟩ := exv (.int .i64 x8_9)
  refine have_opa shadowboxref03_Block.tab139 4 2 (fun sp=>sp 2=s141_2) (fun sp on hA hon=>?_) (fun ops141_2=>?_)
  ·refine ⟨fun o ho vs Rs f' S' w hp hf hx hS hR hs=>?_⟩
   obtain rfl := Option.some.inj ho
   exact opv (.int .i64 x8_9) hA hs141_2 hon (fr_next (rfl) ((hx 8 (by kernel_rfl)).trans (by kernel_rfl:(_:Value)=.int .i64 x8_9)))
  obtain ⟨s141_3,hs141_3⟩ := exv (.int .i64 (IntKind.wrap .i64 ((4:Int)*x8_9)))
  refine have_opa shadowboxref03_Block.tab139 4 3 (fun sp=>sp 3=s141_3∧sp 2=s141_2) (fun sp on hA hon=>?_) (fun ops141_3=>?_)
  ·refine ⟨fun o ho vs Rs f' S' w hp hf hx hS hR hs=>?_⟩
   obtain rfl := Option.some.inj ho
   obtain ⟨hv2,hR2⟩ := (spe hA.2 hs141_2 (hp 2 (by kernel_rfl)))
   exact opv (.int .i64 (IntKind.wrap .i64 ((4:Int)*x8_9))) hA.1 hs141_3 hon (fr_next (rfl) ((hf 2 26 (by kernel_rfl) rfl).trans hv2))
  obtain ⟨q142,H⟩ := ite_need H
  obtain ⟨q143,H⟩ := ite_need H
  obtain ⟨ad144,hA145⟩ := ido_at (T:=(Ec.int 5 .u8)) (l:=l1) (i:=IntKind.wrap .i64 ((4:Int)*x8_9)) R1 q142 q143
  obtain ⟨s141_4,hs141_4⟩ := exv (.pointer (some (ad144.add ((IntKind.wrap .i64 ((4:Int)*x8_9)).toNat*1))))
  refine have_opa shadowboxref03_Block.tab139 4 4 (fun sp=>sp 4=s141_4∧sp 1=s141_1∧sp 3=s141_3) (fun sp on hA hon=>?_) (fun ops141_4=>?_)
  ·refine ⟨fun o ho vs Rs f' S' w hp hf hx hS hR hs=>?_⟩
   obtain rfl := Option.some.inj ho
   obtain ⟨hv1,hR1⟩ := (spe hA.2.1 hs141_1 (hp 1 (by kernel_rfl)))
   obtain ⟨hv3,hR3⟩ := (spe hA.2.2 hs141_3 (hp 3 (by kernel_rfl)))
   rw [hA.1,hs141_4]
   refine wn hon ?_
   have hF := fr_next (fr_next (rfl) ((hf 1 25 (by kernel_rfl) rfl).trans hv1)) ((hf 3 27 (by kernel_rfl) rfl).trans hv3)
   refine ls_fr hF ?_
   refine ls_idxv (Ec.int 5 .u8) (A:=A1) (c:=c1) (l:=l1) (k:=.i64) (i:=IntKind.wrap .i64 ((4:Int)*x8_9)) (z:=1) (ad:=ad144) rfl rfl (by kernel_rfl) hA145 rfl (by kernel_rfl) (by kernel_rfl) (by kernel_rfl) (by kernel_rfl) q142 q143 ?_
   exact ls_fin s0 _ (congrArg (fun z=>upd z 28 _) hF.symm) ⟨rfl,rfl⟩ (sub_nil _)
  obtain ⟨y146,hy147,H⟩ := lt_some H
  obtain ⟨s141_5,hs141_5⟩ := exv (.int .u8 y146)
  refine have_opa shadowboxref03_Block.tab139 4 5 (fun sp=>sp 5=s141_5∧sp 4=s141_4) (fun sp on hA hon=>?_) (fun ops141_5=>?_)
  ·refine ⟨fun o ho vs Rs f' S' w hp hf hx hS hR hs=>?_⟩
   obtain rfl := Option.some.inj ho
   obtain ⟨hv4,hR4⟩ := (spe hA.2 hs141_4 (hp 4 (by kernel_rfl)))
   rw [hA.1,hs141_5]
   refine wn hon ?_
   have hF := fr_next (rfl) ((hf 4 28 (by kernel_rfl) rfl).trans hv4)
   refine ls_fr hF ?_
   refine ls_load (a0:=(ad144.add ((IntKind.wrap .i64 ((4:Int)*x8_9)).toNat*1))) (v:=.int .u8 ((l1).getD (IntKind.wrap .i64 ((4:Int)*x8_9)).toNat (0:Int))) (de:=(TypeDesc.int .u8)) rfl rfl (by kernel_rfl) rfl (by kernel_rfl) (by kernel_rfl) (by kernel_rfl) (fun w1 hs1=>(Rd.step (hs.old R1) hs1.below.bw).at hA145 (em_sub (Ec.int 5 .u8) l1 (i:=(IntKind.wrap .i64 ((4:Int)*x8_9)).toNat) (by have h0:(0:Int)≤IntKind.wrap .i64 ((4:Int)*x8_9) := q142; have h1:IntKind.wrap .i64 ((4:Int)*x8_9)<(l1.length:Int) := q143; omega))) ?_
   refine ls_ren 29 (v:=.int .u8 ((l1).getD (IntKind.wrap .i64 ((4:Int)*x8_9)).toNat (0:Int))) (v' := .int .u8 y146) (by kernel_rfl) (by rw [hy147]) ?_
   exact ls_fin s0 _ ((upd_upd _ _ _ _).trans (congrArg (fun z=>upd z 29 _) hF.symm)) ⟨rfl,rfl⟩ (sub_nil _)
  obtain ⟨s141_6,hs141_6⟩ := exv (.int .u32 (IntKind.wrap .u32 y146))
  refine have_opa shadowboxref03_Block.tab139 4 6 (fun sp=>sp 6=s141_6∧sp 5=s141_5) (fun sp on hA hon=>?_) (fun ops141_6=>?_)
  ·refine ⟨fun o ho vs Rs f' S' w hp hf hx hS hR hs=>?_⟩
   obtain rfl := Option.some.inj ho
   obtain ⟨hv5,hR5⟩ := (spe hA.2 hs141_5 (hp 5 (by kernel_rfl)))
   exact opv (.int .u32 (IntKind.wrap .u32 y146)) hA.1 hs141_6 hon (fr_next (rfl) ((hf 5 29 (by kernel_rfl) rfl).trans hv5))
  obtain ⟨y148,hy149,H⟩ := lt_some H
  obtain ⟨s141_7,hs141_7⟩ := exv (.int .u32 y148)
  refine have_opa shadowboxref03_Block.tab139 4 7 (fun sp=>sp 7=s141_7∧sp 6=s141_6) (fun sp on hA hon=>?_) (fun ops141_7=>?_)
  ·refine ⟨fun o ho vs Rs f' S' w hp hf hx hS hR hs=>?_⟩
   obtain rfl := Option.some.inj ho
   obtain ⟨hv6,hR6⟩ := (spe hA.2 hs141_6 (hp 6 (by kernel_rfl)))
   rw [hA.1,hs141_7]
   refine wn hon ?_
   have hF := fr_next (rfl) ((hf 6 30 (by kernel_rfl) rfl).trans hv6)
   refine ls_fr hF ?_
   refine lv (.int .u32 (IntKind.wrap .u32 ((IntKind.wrap .u32 y146)*16777216))) ?_
   refine ls_ren 31 (v:=.int .u32 (IntKind.wrap .u32 ((IntKind.wrap .u32 y146)*16777216))) (v' := .int .u32 y148) (by kernel_rfl) (by rw [hy149]) ?_
   exact ls_fin s0 _ ((upd_upd _ _ _ _).trans (congrArg (fun z=>upd z 31 _) hF.symm)) ⟨rfl,rfl⟩ (sub_nil _)
  obtain ⟨s141_8,hs141_8⟩ := exv (.slice A1 l1.length c1)
  refine have_opa shadowboxref03_Block.tab139 4 8 (fun sp=>sp 8=s141_8) (fun sp on hA hon=>?_) (fun ops141_8=>?_)
  ·refine ⟨fun o ho vs Rs f' S' w hp hf hx hS hR hs=>?_⟩
   obtain rfl := Option.some.inj ho
   exact opv (.slice A1 l1.length c1) hA hs141_8 hon (fr_next (rfl) ((hx 1 (by kernel_rfl)).trans (by kernel_rfl:(_:Value)=.slice A1 l1.length c1)))
  obtain ⟨s141_9,hs141_9⟩ := exv (.int .i64 x8_9)
  refine have_opa shadowboxref03_Block.tab139 4 9 (fun sp=>sp 9=s141_9) (fun sp on hA hon=>?_) (fun ops141_9=>?_)
  ·refine ⟨fun o ho vs Rs f' S' w hp hf hx hS hR hs=>?_⟩
   obtain rfl := Option.some.inj ho
   exact opv (.int .i64 x8_9) hA hs141_9 hon (fr_next (rfl) ((hx 8 (by kernel_rfl)).trans (by kernel_rfl:(_:Value)=.int .i64 x8_9)))
  obtain ⟨s141_10,hs141_10⟩ := exv (.int .i64 (IntKind.wrap .i64 ((4:Int)*x8_9)))
  refine have_opa shadowboxref03_Block.tab139 4 10 (fun sp=>sp 10=s141_10∧sp 9=s141_9) (fun sp on hA hon=>?_) (fun ops141_10=>?_)
  ·refine ⟨fun o ho vs Rs f' S' w hp hf hx hS hR hs=>?_⟩
   obtain rfl := Option.some.inj ho
   obtain ⟨hv9,hR9⟩ := (spe hA.2 hs141_9 (hp 9 (by kernel_rfl)))
   exact opv (.int .i64 (IntKind.wrap .i64 ((4:Int)*x8_9))) hA.1 hs141_10 hon (fr_next (rfl) ((hf 9 33 (by kernel_rfl) rfl).trans hv9))
  obtain ⟨y150,hy151,H⟩ := lt_some H
  obtain ⟨s141_11,hs141_11⟩ := exv (.int .i64 y150)
  refine have_opa shadowboxref03_Block.tab139 4 11 (fun sp=>sp 11=s141_11∧sp 10=s141_10) (fun sp on hA hon=>?_) (fun ops141_11=>?_)
  ·refine ⟨fun o ho vs Rs f' S' w hp hf hx hS hR hs=>?_⟩
   obtain rfl := Option.some.inj ho
   obtain ⟨hv10,hR10⟩ := (spe hA.2 hs141_10 (hp 10 (by kernel_rfl)))
   rw [hA.1,hs141_11]
   refine wn hon ?_
   have hF := fr_next (rfl) ((hf 10 34 (by kernel_rfl) rfl).trans hv10)
   refine ls_fr hF ?_
   refine lv (.int .i64 (IntKind.wrap .i64 ((IntKind.wrap .i64 ((4:Int)*x8_9))+(1:Int)))) ?_
   refine ls_ren 35 (v:=.int .i64 (IntKind.wrap .i64 ((IntKind.wrap .i64 ((4:Int)*x8_9))+(1:Int)))) (v' := .int .i64 y150) (by kernel_rfl) (by rw [hy151]) ?_
   exact ls_fin s0 _ ((upd_upd _ _ _ _).trans (congrArg (fun z=>upd z 35 _) hF.symm)) ⟨rfl,rfl⟩ (sub_nil _)
  obtain ⟨q152,H⟩ := ite_need H
  obtain ⟨q153,H⟩ := ite_need H
  obtain ⟨ad154,hA155⟩ := ido_at (T:=(Ec.int 5 .u8)) (l:=l1) (i:=y150) R1 q152 q153
  obtain ⟨s141_12,hs141_12⟩ := exv (.pointer (some (ad154.add ((y150).toNat*1))))
  refine have_opa shadowboxref03_Block.tab139 4 12 (fun sp=>sp 12=s141_12∧sp 8=s141_8∧sp 11=s141_11) (fun sp on hA hon=>?_) (fun ops141_12=>?_)
  ·refine ⟨fun o ho vs Rs f' S' w hp hf hx hS hR hs=>?_⟩
   obtain rfl := Option.some.inj ho
   obtain ⟨hv8,hR8⟩ := (spe hA.2.1 hs141_8 (hp 8 (by kernel_rfl)))
   obtain ⟨hv11,hR11⟩ := (spe hA.2.2 hs141_11 (hp 11 (by kernel_rfl)))
   rw [hA.1,hs141_12]
   refine wn hon ?_
   have hF := fr_next (fr_next (rfl) ((hf 8 32 (by kernel_rfl) rfl).trans hv8)) ((hf 11 35 (by kernel_rfl) rfl).trans hv11)
   refine ls_fr hF ?_
   refine ls_idxv (Ec.int 5 .u8) (A:=A1) (c:=c1) (l:=l1) (k:=.i64) (i:=y150) (z:=1) (ad:=ad154) rfl rfl (by kernel_rfl) hA155 rfl (by kernel_rfl) (by kernel_rfl) (by kernel_rfl) (by kernel_rfl) q152 q153 ?_
   exact ls_fin s0 _ (congrArg (fun z=>upd z 36 _) hF.symm) ⟨rfl,rfl⟩ (sub_nil _)
  obtain ⟨s141_13,hs141_13⟩ := exv (.int .u8 ((l1).getD (y150).toNat (0:Int)))
  refine have_opa shadowboxref03_Block.tab139 4 13 (fun sp=>sp 13=s141_13∧sp 12=s141_12) (fun sp on hA hon=>?_) (fun ops141_13=>?_)
  ·refine ⟨fun o ho vs Rs f' S' w hp hf hx hS hR hs=>?_⟩
   obtain rfl := Option.some.inj ho
   obtain ⟨hv12,hR12⟩ := (spe hA.2 hs141_12 (hp 12 (by kernel_rfl)))
   rw [hA.1,hs141_13]
   refine wn hon ?_
   have hF := fr_next (rfl) ((hf 12 36 (by kernel_rfl) rfl).trans hv12)
   refine ls_fr hF ?_
   refine ls_load (a0:=(ad154.add ((y150).toNat*1))) (v:=.int .u8 ((l1).getD (y150).toNat (0:Int))) (de:=(TypeDesc.int .u8)) rfl rfl (by kernel_rfl) rfl (by kernel_rfl) (by kernel_rfl) (by kernel_rfl) (fun w1 hs1=>(Rd.step (hs.old R1) hs1.below.bw).at hA155 (em_sub (Ec.int 5 .u8) l1 (i:=(y150).toNat) (by have h0:(0:Int)≤y150 := q152; have h1:y150<(l1.length:Int) := q153; omega))) ?_
   exact ls_fin s0 _ (congrArg (fun z=>upd z 37 _) hF.symm) ⟨rfl,rfl⟩ (sub_nil _)
  obtain ⟨y156,hy157,H⟩ := lt_some H
  obtain ⟨s141_14,hs141_14⟩ := exv (.int .u32 y156)
  refine have_opa shadowboxref03_Block.tab139 4 14 (fun sp=>sp 14=s141_14∧sp 13=s141_13) (fun sp on hA hon=>?_) (fun ops141_14=>?_)
  ·refine ⟨fun o ho vs Rs f' S' w hp hf hx hS hR hs=>?_⟩
   obtain rfl := Option.some.inj ho
   obtain ⟨hv13,hR13⟩ := (spe hA.2 hs141_13 (hp 13 (by kernel_rfl)))
   rw [hA.1,hs141_14]
   refine wn hon ?_
   have hF := fr_next (rfl) ((hf 13 37 (by kernel_rfl) rfl).trans hv13)
   refine ls_fr hF ?_
   refine lv (.int .u32 (IntKind.wrap .u32 ((l1).getD (y150).toNat (0:Int)))) ?_
   refine ls_ren 38 (v:=.int .u32 (IntKind.wrap .u32 ((l1).getD (y150).toNat (0:Int)))) (v' := .int .u32 y156) (by kernel_rfl) (by rw [hy157]) ?_
   exact ls_fin s0 _ ((upd_upd _ _ _ _).trans (congrArg (fun z=>upd z 38 _) hF.symm)) ⟨rfl,rfl⟩ (sub_nil _)
  obtain ⟨s141_15,hs141_15⟩ := exv (.int .u32 (IntKind.wrap .u32 (y156*65536)))
  refine have_opa shadowboxref03_Block.tab139 4 15 (fun sp=>sp 15=s141_15∧sp 14=s141_14) (fun sp on hA hon=>?_) (fun ops141_15=>?_)
  ·refine ⟨fun o ho vs Rs f' S' w hp hf hx hS hR hs=>?_⟩
   obtain rfl := Option.some.inj ho
   obtain ⟨hv14,hR14⟩ := (spe hA.2 hs141_14 (hp 14 (by kernel_rfl)))
   exact opv (.int .u32 (IntKind.wrap .u32 (y156*65536))) hA.1 hs141_15 hon (fr_next (rfl) ((hf 14 38 (by kernel_rfl) rfl).trans hv14))
  obtain ⟨y158,hy159,H⟩ := lt_some H
  obtain ⟨s141_16,hs141_16⟩ := exv (.int .u32 y158)
  refine have_opa shadowboxref03_Block.tab139 4 16 (fun sp=>sp 16=s141_16∧sp 7=s141_7∧sp 15=s141_15) (fun sp on hA hon=>?_) (fun ops141_16=>?_)
  ·refine ⟨fun o ho vs Rs f' S' w hp hf hx hS hR hs=>?_⟩
   obtain rfl := Option.some.inj ho
   obtain ⟨hv7,hR7⟩ := (spe hA.2.1 hs141_7 (hp 7 (by kernel_rfl)))
   obtain ⟨hv15,hR15⟩ := (spe hA.2.2 hs141_15 (hp 15 (by kernel_rfl)))
   rw [hA.1,hs141_16]
   refine wn hon ?_
   have hF := fr_next (fr_next (rfl) ((hf 7 31 (by kernel_rfl) rfl).trans hv7)) ((hf 15 39 (by kernel_rfl) rfl).trans hv15)
   refine ls_fr hF ?_
   refine lv (.int .u32 (IntKind.wrap .u32 (y148+(IntKind.wrap .u32 (y156*65536))))) ?_
   refine ls_ren 40 (v:=.int .u32 (IntKind.wrap .u32 (y148+(IntKind.wrap .u32 (y156*65536))))) (v' := .int .u32 y158) (by kernel_rfl) (by rw [hy159]) ?_
   exact ls_fin s0 _ ((upd_upd _ _ _ _).trans (congrArg (fun z=>upd z 40 _) hF.symm)) ⟨rfl,rfl⟩ (sub_nil _)
  obtain ⟨s141_17,hs141_17⟩ := exv (.slice A1 l1.length c1)
  refine have_opa shadowboxref03_Block.tab139 4 17 (fun sp=>sp 17=s141_17) (fun sp on hA hon=>?_) (fun ops141_17=>?_)
  ·refine ⟨fun o ho vs Rs f' S' w hp hf hx hS hR hs=>?_⟩
   obtain rfl := Option.some.inj ho
   exact opv (.slice A1 l1.length c1) hA hs141_17 hon (fr_next (rfl) ((hx 1 (by kernel_rfl)).trans (by kernel_rfl:(_:Value)=.slice A1 l1.length c1)))
  obtain ⟨s141_18,hs141_18⟩ := exv (.int .i64 x8_9)
  refine have_opa shadowboxref03_Block.tab139 4 18 (fun sp=>sp 18=s141_18) (fun sp on hA hon=>?_) (fun ops141_18=>?_)
  ·refine ⟨fun o ho vs Rs f' S' w hp hf hx hS hR hs=>?_⟩
   obtain rfl := Option.some.inj ho
   exact opv (.int .i64 x8_9) hA hs141_18 hon (fr_next (rfl) ((hx 8 (by kernel_rfl)).trans (by kernel_rfl:(_:Value)=.int .i64 x8_9)))
  obtain ⟨s141_19,hs141_19⟩ := exv (.int .i64 (IntKind.wrap .i64 ((4:Int)*x8_9)))
  refine have_opa shadowboxref03_Block.tab139 4 19 (fun sp=>sp 19=s141_19∧sp 18=s141_18) (fun sp on hA hon=>?_) (fun ops141_19=>?_)
  ·refine ⟨fun o ho vs Rs f' S' w hp hf hx hS hR hs=>?_⟩
   obtain rfl := Option.some.inj ho
   obtain ⟨hv18,hR18⟩ := (spe hA.2 hs141_18 (hp 18 (by kernel_rfl)))
   exact opv (.int .i64 (IntKind.wrap .i64 ((4:Int)*x8_9))) hA.1 hs141_19 hon (fr_next (rfl) ((hf 18 42 (by kernel_rfl) rfl).trans hv18))
  obtain ⟨y160,hy161,H⟩ := lt_some H
  obtain ⟨s141_20,hs141_20⟩ := exv (.int .i64 y160)
  refine have_opa shadowboxref03_Block.tab139 4 20 (fun sp=>sp 20=s141_20∧sp 19=s141_19) (fun sp on hA hon=>?_) (fun ops141_20=>?_)
  ·refine ⟨fun o ho vs Rs f' S' w hp hf hx hS hR hs=>?_⟩
   obtain rfl := Option.some.inj ho
   obtain ⟨hv19,hR19⟩ := (spe hA.2 hs141_19 (hp 19 (by kernel_rfl)))
   rw [hA.1,hs141_20]
   refine wn hon ?_
   have hF := fr_next (rfl) ((hf 19 43 (by kernel_rfl) rfl).trans hv19)
   refine ls_fr hF ?_
   refine lv (.int .i64 (IntKind.wrap .i64 ((IntKind.wrap .i64 ((4:Int)*x8_9))+(2:Int)))) ?_
   refine ls_ren 44 (v:=.int .i64 (IntKind.wrap .i64 ((IntKind.wrap .i64 ((4:Int)*x8_9))+(2:Int)))) (v' := .int .i64 y160) (by kernel_rfl) (by rw [hy161]) ?_
   exact ls_fin s0 _ ((upd_upd _ _ _ _).trans (congrArg (fun z=>upd z 44 _) hF.symm)) ⟨rfl,rfl⟩ (sub_nil _)
  obtain ⟨q162,H⟩ := ite_need H
  obtain ⟨q163,H⟩ := ite_need H
  obtain ⟨ad164,hA165⟩ := ido_at (T:=(Ec.int 5 .u8)) (l:=l1) (i:=y160) R1 q162 q163
  obtain ⟨s141_21,hs141_21⟩ := exv (.pointer (some (ad164.add ((y160).toNat*1))))
  refine have_opa shadowboxref03_Block.tab139 4 21 (fun sp=>sp 21=s141_21∧sp 17=s141_17∧sp 20=s141_20) (fun sp on hA hon=>?_) (fun ops141_21=>?_)
  ·refine ⟨fun o ho vs Rs f' S' w hp hf hx hS hR hs=>?_⟩
   obtain rfl := Option.some.inj ho
   obtain ⟨hv17,hR17⟩ := (spe hA.2.1 hs141_17 (hp 17 (by kernel_rfl)))
   obtain ⟨hv20,hR20⟩ := (spe hA.2.2 hs141_20 (hp 20 (by kernel_rfl)))
   rw [hA.1,hs141_21]
   refine wn hon ?_
   have hF := fr_next (fr_next (rfl) ((hf 17 41 (by kernel_rfl) rfl).trans hv17)) ((hf 20 44 (by kernel_rfl) rfl).trans hv20)
   refine ls_fr hF ?_
   refine ls_idxv (Ec.int 5 .u8) (A:=A1) (c:=c1) (l:=l1) (k:=.i64) (i:=y160) (z:=1) (ad:=ad164) rfl rfl (by kernel_rfl) hA165 rfl (by kernel_rfl) (by kernel_rfl) (by kernel_rfl) (by kernel_rfl) q162 q163 ?_
   exact ls_fin s0 _ (congrArg (fun z=>upd z 45 _) hF.symm) ⟨rfl,rfl⟩ (sub_nil _)
  obtain ⟨s141_22,hs141_22⟩ := exv (.int .u8 ((l1).getD (y160).toNat (0:Int)))
  refine have_opa shadowboxref03_Block.tab139 4 22 (fun sp=>sp 22=s141_22∧sp 21=s141_21) (fun sp on hA hon=>?_) (fun ops141_22=>?_)
  ·refine ⟨fun o ho vs Rs f' S' w hp hf hx hS hR hs=>?_⟩
   obtain rfl := Option.some.inj ho
   obtain ⟨hv21,hR21⟩ := (spe hA.2 hs141_21 (hp 21 (by kernel_rfl)))
   rw [hA.1,hs141_22]
   refine wn hon ?_
   have hF := fr_next (rfl) ((hf 21 45 (by kernel_rfl) rfl).trans hv21)
   refine ls_fr hF ?_
   refine ls_load (a0:=(ad164.add ((y160).toNat*1))) (v:=.int .u8 ((l1).getD (y160).toNat (0:Int))) (de:=(TypeDesc.int .u8)) rfl rfl (by kernel_rfl) rfl (by kernel_rfl) (by kernel_rfl) (by kernel_rfl) (fun w1 hs1=>(Rd.step (hs.old R1) hs1.below.bw).at hA165 (em_sub (Ec.int 5 .u8) l1 (i:=(y160).toNat) (by have h0:(0:Int)≤y160 := q162; have h1:y160<(l1.length:Int) := q163; omega))) ?_
   exact ls_fin s0 _ (congrArg (fun z=>upd z 46 _) hF.symm) ⟨rfl,rfl⟩ (sub_nil _)
  obtain ⟨y166,hy167,H⟩ := lt_some H
  obtain ⟨s141_23,hs141_23⟩ := exv (.int .u32 y166)
  refine have_opa shadowboxref03_Block.tab139 4 23 (fun sp=>sp 23=s141_23∧sp 22=s141_22) (fun sp on hA hon=>?_) (fun ops141_23=>?_)
  ·refine ⟨fun o ho vs Rs f' S' w hp hf hx hS hR hs=>?_⟩
   obtain rfl := Option.some.inj ho
   obtain ⟨hv22,hR22⟩ := (spe hA.2 hs141_22 (hp 22 (by kernel_rfl)))
   rw [hA.1,hs141_23]
   refine wn hon ?_
   have hF := fr_next (rfl) ((hf 22 46 (by kernel_rfl) rfl).trans hv22)
   refine ls_fr hF ?_
   refine lv (.int .u32 (IntKind.wrap .u32 ((l1).getD (y160).toNat (0:Int)))) ?_
   refine ls_ren 47 (v:=.int .u32 (IntKind.wrap .u32 ((l1).getD (y160).toNat (0:Int)))) (v' := .int .u32 y166) (by kernel_rfl) (by rw [hy167]) ?_
   exact ls_fin s0 _ ((upd_upd _ _ _ _).trans (congrArg (fun z=>upd z 47 _) hF.symm)) ⟨rfl,rfl⟩ (sub_nil _)
  obtain ⟨s141_24,hs141_24⟩ := exv (.int .u32 (IntKind.wrap .u32 (y166*256)))
  refine have_opa shadowboxref03_Block.tab139 4 24 (fun sp=>sp 24=s141_24∧sp 23=s141_23) (fun sp on hA hon=>?_) (fun ops141_24=>?_)
  ·refine ⟨fun o ho vs Rs f' S' w hp hf hx hS hR hs=>?_⟩
   obtain rfl := Option.some.inj ho
   obtain ⟨hv23,hR23⟩ := (spe hA.2 hs141_23 (hp 23 (by kernel_rfl)))
   exact opv (.int .u32 (IntKind.wrap .u32 (y166*256))) hA.1 hs141_24 hon (fr_next (rfl) ((hf 23 47 (by kernel_rfl) rfl).trans hv23))
  obtain ⟨y168,hy169,H⟩ := lt_some H
  obtain ⟨s141_25,hs141_25⟩ := exv (.int .u32 y168)
  refine have_opa shadowboxref03_Block.tab139 4 25 (fun sp=>sp 25=s141_25∧sp 16=s141_16∧sp 24=s141_24) (fun sp on hA hon=>?_) (fun ops141_25=>?_)
  ·refine ⟨fun o ho vs Rs f' S' w hp hf hx hS hR hs=>?_⟩
   obtain rfl := Option.some.inj ho
   obtain ⟨hv16,hR16⟩ := (spe hA.2.1 hs141_16 (hp 16 (by kernel_rfl)))
   obtain ⟨hv24,hR24⟩ := (spe hA.2.2 hs141_24 (hp 24 (by kernel_rfl)))
   rw [hA.1,hs141_25]
   refine wn hon ?_
   have hF := fr_next (fr_next (rfl) ((hf 16 40 (by kernel_rfl) rfl).trans hv16)) ((hf 24 48 (by kernel_rfl) rfl).trans hv24)
   refine ls_fr hF ?_
   refine lv (.int .u32 (IntKind.wrap .u32 (y158+(IntKind.wrap .u32 (y166*256))))) ?_
   refine ls_ren 49 (v:=.int .u32 (IntKind.wrap .u32 (y158+(IntKind.wrap .u32 (y166*256))))) (v' := .int .u32 y168) (by kernel_rfl) (by rw [hy169]) ?_
   exact ls_fin s0 _ ((upd_upd _ _ _ _).trans (congrArg (fun z=>upd z 49 _) hF.symm)) ⟨rfl,rfl⟩ (sub_nil _)
  obtain ⟨s141_26,hs141_26⟩ := exv (.slice A1 l1.length c1)
  refine have_opa shadowboxref03_Block.tab139 4 26 (fun sp=>sp 26=s141_26) (fun sp on hA hon=>?_) (fun ops141_26=>?_)
  ·refine ⟨fun o ho vs Rs f' S' w hp hf hx hS hR hs=>?_⟩
   obtain rfl := Option.some.inj ho
   exact opv (.slice A1 l1.length c1) hA hs141_26 hon (fr_next (rfl) ((hx 1 (by kernel_rfl)).trans (by kernel_rfl:(_:Value)=.slice A1 l1.length c1)))
  obtain ⟨s141_27,hs141_27⟩ := exv (.int .i64 x8_9)
  refine have_opa shadowboxref03_Block.tab139 4 27 (fun sp=>sp 27=s141_27) (fun sp on hA hon=>?_) (fun ops141_27=>?_)
  ·refine ⟨fun o ho vs Rs f' S' w hp hf hx hS hR hs=>?_⟩
   obtain rfl := Option.some.inj ho
   exact opv (.int .i64 x8_9) hA hs141_27 hon (fr_next (rfl) ((hx 8 (by kernel_rfl)).trans (by kernel_rfl:(_:Value)=.int .i64 x8_9)))
  obtain ⟨s141_28,hs141_28⟩ := exv (.int .i64 (IntKind.wrap .i64 ((4:Int)*x8_9)))
  refine have_opa shadowboxref03_Block.tab139 4 28 (fun sp=>sp 28=s141_28∧sp 27=s141_27) (fun sp on hA hon=>?_) (fun ops141_28=>?_)
  ·refine ⟨fun o ho vs Rs f' S' w hp hf hx hS hR hs=>?_⟩
   obtain rfl := Option.some.inj ho
   obtain ⟨hv27,hR27⟩ := (spe hA.2 hs141_27 (hp 27 (by kernel_rfl)))
   exact opv (.int .i64 (IntKind.wrap .i64 ((4:Int)*x8_9))) hA.1 hs141_28 hon (fr_next (rfl) ((hf 27 51 (by kernel_rfl) rfl).trans hv27))
  obtain ⟨y170,hy171,H⟩ := lt_some H
  obtain ⟨s141_29,hs141_29⟩ := exv (.int .i64 y170)
  refine have_opa shadowboxref03_Block.tab139 4 29 (fun sp=>sp 29=s141_29∧sp 28=s141_28) (fun sp on hA hon=>?_) (fun ops141_29=>?_)
  ·refine ⟨fun o ho vs Rs f' S' w hp hf hx hS hR hs=>?_⟩
   obtain rfl := Option.some.inj ho
   obtain ⟨hv28,hR28⟩ := (spe hA.2 hs141_28 (hp 28 (by kernel_rfl)))
   rw [hA.1,hs141_29]
   refine wn hon ?_
   have hF := fr_next (rfl) ((hf 28 52 (by kernel_rfl) rfl).trans hv28)
   refine ls_fr hF ?_
   refine lv (.int .i64 (IntKind.wrap .i64 ((IntKind.wrap .i64 ((4:Int)*x8_9))+(3:Int)))) ?_
   refine ls_ren 53 (v:=.int .i64 (IntKind.wrap .i64 ((IntKind.wrap .i64 ((4:Int)*x8_9))+(3:Int)))) (v' := .int .i64 y170) (by kernel_rfl) (by rw [hy171]) ?_
   exact ls_fin s0 _ ((upd_upd _ _ _ _).trans (congrArg (fun z=>upd z 53 _) hF.symm)) ⟨rfl,rfl⟩ (sub_nil _)
  obtain ⟨q172,H⟩ := ite_need H
  obtain ⟨q173,H⟩ := ite_need H
  obtain ⟨ad174,hA175⟩ := ido_at (T:=(Ec.int 5 .u8)) (l:=l1) (i:=y170) R1 q172 q173
  obtain ⟨s141_30,hs141_30⟩ := exv (.pointer (some (ad174.add ((y170).toNat*1))))
  refine have_opa shadowboxref03_Block.tab139 4 30 (fun sp=>sp 30=s141_30∧sp 26=s141_26∧sp 29=s141_29) (fun sp on hA hon=>?_) (fun ops141_30=>?_)
  ·refine ⟨fun o ho vs Rs f' S' w hp hf hx hS hR hs=>?_⟩
   obtain rfl := Option.some.inj ho
   obtain ⟨hv26,hR26⟩ := (spe hA.2.1 hs141_26 (hp 26 (by kernel_rfl)))
   obtain ⟨hv29,hR29⟩ := (spe hA.2.2 hs141_29 (hp 29 (by kernel_rfl)))
   rw [hA.1,hs141_30]
   refine wn hon ?_
   have hF := fr_next (fr_next (rfl) ((hf 26 50 (by kernel_rfl) rfl).trans hv26)) ((hf 29 53 (by kernel_rfl) rfl).trans hv29)
   refine ls_fr hF ?_
   refine ls_idxv (Ec.int 5 .u8) (A:=A1) (c:=c1) (l:=l1) (k:=.i64) (i:=y170) (z:=1) (ad:=ad174) rfl rfl (by kernel_rfl) hA175 rfl (by kernel_rfl) (by kernel_rfl) (by kernel_rfl) (by kernel_rfl) q172 q173 ?_
   exact ls_fin s0 _ (congrArg (fun z=>upd z 54 _) hF.symm) ⟨rfl,rfl⟩ (sub_nil _)
  obtain ⟨s141_31,hs141_31⟩ := exv (.int .u8 ((l1).getD (y170).toNat (0:Int)))
  refine have_opa shadowboxref03_Block.tab139 4 31 (fun sp=>sp 31=s141_31∧sp 30=s141_30) (fun sp on hA hon=>?_) (fun ops141_31=>?_)
  ·refine ⟨fun o ho vs Rs f' S' w hp hf hx hS hR hs=>?_⟩
   obtain rfl := Option.some.inj ho
   obtain ⟨hv30,hR30⟩ := (spe hA.2 hs141_30 (hp 30 (by kernel_rfl)))
   rw [hA.1,hs141_31]
   refine wn hon ?_
   have hF := fr_next (rfl) ((hf 30 54 (by kernel_rfl) rfl).trans hv30)
   refine ls_fr hF ?_
   refine ls_load (a0:=(ad174.add ((y170).toNat*1))) (v:=.int .u8 ((l1).getD (y170).toNat (0:Int))) (de:=(TypeDesc.int .u8)) rfl rfl (by kernel_rfl) rfl (by kernel_rfl) (by kernel_rfl) (by kernel_rfl) (fun w1 hs1=>(Rd.step (hs.old R1) hs1.below.bw).at hA175 (em_sub (Ec.int 5 .u8) l1 (i:=(y170).toNat) (by have h0:(0:Int)≤y170 := q172; have h1:y170<(l1.length:Int) := q173; omega))) ?_
   exact ls_fin s0 _ (congrArg (fun z=>upd z 55 _) hF.symm) ⟨rfl,rfl⟩ (sub_nil _)
  obtain ⟨y176,hy177,H⟩ := lt_some H
  obtain ⟨s141_32,hs141_32⟩ := exv (.int .u32 y176)
  refine have_opa shadowboxref03_Block.tab139 4 32 (fun sp=>sp 32=s141_32∧sp 31=s141_31) (fun sp on hA hon=>?_) (fun ops141_32=>?_)
  ·refine ⟨fun o ho vs Rs f' S' w hp hf hx hS hR hs=>?_⟩
   obtain rfl := Option.some.inj ho
   obtain ⟨hv31,hR31⟩ := (spe hA.2 hs141_31 (hp 31 (by kernel_rfl)))
   rw [hA.1,hs141_32]
   refine wn hon ?_
   have hF := fr_next (rfl) ((hf 31 55 (by kernel_rfl) rfl).trans hv31)
   refine ls_fr hF ?_
   refine lv (.int .u32 (IntKind.wrap .u32 ((l1).getD (y170).toNat (0:Int)))) ?_
   refine ls_ren 56 (v:=.int .u32 (IntKind.wrap .u32 ((l1).getD (y170).toNat (0:Int)))) (v' := .int .u32 y176) (by kernel_rfl) (by rw [hy177]) ?_
   exact ls_fin s0 _ ((upd_upd _ _ _ _).trans (congrArg (fun z=>upd z 56 _) hF.symm)) ⟨rfl,rfl⟩ (sub_nil _)
  obtain ⟨s141_33,hs141_33⟩ := exv (.int .u32 (IntKind.wrap .u32 (y168+y176)))
  refine have_opa shadowboxref03_Block.tab139 4 33 (fun sp=>sp 33=s141_33∧sp 25=s141_25∧sp 32=s141_32) (fun sp on hA hon=>?_) (fun ops141_33=>?_)
  ·refine ⟨fun o ho vs Rs f' S' w hp hf hx hS hR hs=>?_⟩
   obtain rfl := Option.some.inj ho
   obtain ⟨hv25,hR25⟩ := (spe hA.2.1 hs141_25 (hp 25 (by kernel_rfl)))
   obtain ⟨hv32,hR32⟩ := (spe hA.2.2 hs141_32 (hp 32 (by kernel_rfl)))
   exact opv (.int .u32 (IntKind.wrap .u32 (y168+y176))) hA.1 hs141_33 hon (fr_next (fr_next (rfl) ((hf 25 49 (by kernel_rfl) rfl).trans hv25)) ((hf 32 56 (by kernel_rfl) rfl).trans hv32))
  refine cs_draw shadowboxref03_Block.tab139 34 4 (spl [s141_0,s141_1,s141_2,s141_3,s141_4,s141_5,s141_6,s141_7,s141_8,s141_9,s141_10,s141_11,s141_12,s141_13,s141_14,s141_15,s141_16,s141_17,s141_18,s141_19,s141_20,s141_21,s141_22,s141_23,s141_24,s141_25,s141_26,s141_27,s141_28,s141_29,s141_30,s141_31,s141_32,s141_33]) (onl [true,true,true,true,true,true,true,true,true,true,true,true,true,true,true,true,true,true,true,true,true,true,true,true,true,true,true,true,true,true,true,true,true,true]) (by kernel_rfl) (by kernel_rfl) (by kernel_rfl) (by kernel_rfl) (rs:=[_,_]) rfl (by kernel_rfl) (by kernel_rfl) (all_snoc (all_snoc (all_snoc (all_snoc (all_snoc (all_snoc (all_snoc (all_snoc (all_snoc (all_snoc (all_snoc (all_snoc (all_snoc (all_snoc (all_snoc (all_snoc (all_snoc (all_snoc (all_snoc (all_snoc (all_snoc (all_snoc (all_snoc (all_snoc (all_snoc (all_snoc (all_snoc (all_snoc (all_snoc (all_snoc (all_snoc (all_snoc (all_snoc (all_snoc (all_nil) (ops141_0 _ _ rfl rfl)) (ops141_1 _ _ rfl rfl)) (ops141_2 _ _ rfl rfl)) (ops141_3 _ _ ⟨rfl,rfl⟩ rfl)) (ops141_4 _ _ ⟨rfl,rfl,rfl⟩ rfl)) (ops141_5 _ _ ⟨rfl,rfl⟩ rfl)) (ops141_6 _ _ ⟨rfl,rfl⟩ rfl)) (ops141_7 _ _ ⟨rfl,rfl⟩ rfl)) (ops141_8 _ _ rfl rfl)) (ops141_9 _ _ rfl rfl)) (ops141_10 _ _ ⟨rfl,rfl⟩ rfl)) (ops141_11 _ _ ⟨rfl,rfl⟩ rfl)) (ops141_12 _ _ ⟨rfl,rfl,rfl⟩ rfl)) (ops141_13 _ _ ⟨rfl,rfl⟩ rfl)) (ops141_14 _ _ ⟨rfl,rfl⟩ rfl)) (ops141_15 _ _ ⟨rfl,rfl⟩ rfl)) (ops141_16 _ _ ⟨rfl,rfl,rfl⟩ rfl)) (ops141_17 _ _ rfl rfl)) (ops141_18 _ _ rfl rfl)) (ops141_19 _ _ ⟨rfl,rfl⟩ rfl)) (ops141_20 _ _ ⟨rfl,rfl⟩ rfl)) (ops141_21 _ _ ⟨rfl,rfl,rfl⟩ rfl)) (ops141_22 _ _ ⟨rfl,rfl⟩ rfl)) (ops141_23 _ _ ⟨rfl,rfl⟩ rfl)) (ops141_24 _ _ ⟨rfl,rfl⟩ rfl)) (ops141_25 _ _ ⟨rfl,rfl,rfl⟩ rfl)) (ops141_26 _ _ rfl rfl)) (ops141_27 _ _ rfl rfl)) (ops141_28 _ _ ⟨rfl,rfl⟩ rfl)) (ops141_29 _ _ ⟨rfl,rfl⟩ rfl)) (ops141_30 _ _ ⟨rfl,rfl,rfl⟩ rfl)) (ops141_31 _ _ ⟨rfl,rfl⟩ rfl)) (ops141_32 _ _ ⟨rfl,rfl⟩ rfl)) (ops141_33 _ _ ⟨rfl,rfl,rfl⟩ rfl)) ?_
  intro vs Rs f' S' hp hf hx hS hR
  obtain ⟨hv0,hR0⟩ := (spe rfl hs141_0 (hp 0 (by kernel_rfl)))
  obtain ⟨hv33,hR33⟩ := (spe rfl hs141_33 (hp 33 (by kernel_rfl)))
  refine ls_fr (F:=upd (upd (upd (upd (upd (upd (upd (upd f' 1 (.slice A1 l1.length c1)) 3 (.pointer (some ⟨g1,0,none⟩))) 5 (.pointer (some ⟨g2,0,none⟩))) 6 (.pointer (some ⟨g3,0,none⟩))) 7 (.pointer (some ⟨g4,0,none⟩))) 8 (.int .i64 x8_9)) 24 (.int .i64 x8_9)) 57 (.int .u32 (IntKind.wrap .u32 (y168+y176)))) (fr_next (fr_next (fr_next (fr_next (fr_next (fr_next (fr_next (fr_next (rfl) ((hx 1 (by kernel_rfl)).trans (by kernel_rfl:(_:Value)=.slice A1 l1.length c1))) ((hx 3 (by kernel_rfl)).trans (by kernel_rfl:(_:Value)=.pointer (some ⟨g1,0,none⟩)))) ((hx 5 (by kernel_rfl)).trans (by kernel_rfl:(_:Value)=.pointer (some ⟨g2,0,none⟩)))) ((hx 6 (by kernel_rfl)).trans (by kernel_rfl:(_:Value)=.pointer (some ⟨g3,0,none⟩)))) ((hx 7 (by kernel_rfl)).trans (by kernel_rfl:(_:Value)=.pointer (some ⟨g4,0,none⟩)))) ((hx 8 (by kernel_rfl)).trans (by kernel_rfl:(_:Value)=.int .i64 x8_9))) ((hf 0 24 (by kernel_rfl) rfl).trans hv0)) ((hf 33 57 (by kernel_rfl) rfl).trans hv33)) ?_
  refine ls_sub (sput (sput (sput (sput s0 0 (some (Ck.var 74 g1 ((en (Value.int .u32) a0.1.1++[Value.int .u64 a0.2]))))) 1 (some (Ck.var 69 g2 (en (Value.int .u32) a2.1)))) 2 (some (Ck.var 74 g3 ((en (Value.int .u32) (vrep 8 (0:Int)).1++[Value.int .u64 (0:Int)]))))) 3 (some (Ck.var 69 g4 (en (Value.int .u32) m3_9.1)))) (sub_put ((hS 3 (by kernel_rfl)).trans (by exact rfl)) (sub_put ((hS 2 (by kernel_rfl)).trans (by exact rfl)) (sub_put ((hS 1 (by kernel_rfl)).trans (by exact rfl)) (sub_put ((hS 0 (by kernel_rfl)).trans (by exact rfl)) (sub_nil _))))) ?_
  obtain ⟨q178,H⟩ := ite_need H
  obtain ⟨q179,H⟩ := ite_need H
  refine ls_idxa1 (g:=g4) (off:=0) (i:=x8_9) (kk:=.i64) (ln:=64) (e:=23) rfl rfl (by kernel_rfl) rfl (by kernel_rfl) (by kernel_rfl) (by kernel_rfl) (by kernel_rfl) q178 q179 ?_
  obtain ⟨y180,hy181,H⟩ := lt_some H
  refine ls_storec (g:=g4) (off:=(0+(x8_9).toNat)) (v:=.int .u32 (IntKind.wrap .u32 (y168+y176))) (vs:=[Value.int .u32 (IntKind.wrap .u32 (y168+y176))]) (cs:=en (Value.int .u32) m3_9.1) (ty:=69) 3 rfl rfl rfl (by kernel_rfl) (by kernel_rfl) (by kernel_rfl) (by exact rfl) (by kernel_rfl) (len1 _) (one_cons rfl one_nil) (hl_of (Sub4.trans (Sub4.all _) (Sub4.one (i:=(x8_9).toNat) (Value.int .u32) m3_9.1 0 (by have := m3_9.2; omega))) (len_eq (len1 _) (len1 _))) (cs' := en (Value.int .u32) y180.1) (splc_in (Sub4.all _) ((splc_one (Value.int .u32) m3_9.1 (IntKind.wrap .u32 (y168+y176)) (by have := m3_9.2; omega)).trans (congrArg (fun z:(Vc Int 64)=>en (Value.int .u32) z.1) hy181)) (splc_all (len_eq (len_en _ y180) (len_en _ m3_9))) (hl_of (Sub4.one (i:=(x8_9).toNat) (Value.int .u32) m3_9.1 0 (by have := m3_9.2; omega)) (len_eq (len1 _) (len1 _)))) ?_
  refine ls_end ?_
  refine qn_block ?_
  refine qn_then ?_
  refine cs_region (l:=[_,_,_]) ?_
  refine lv (.int .i64 x8_9) ?_
  refine lv (.int .i64 (IntKind.wrap .i64 (x8_9+(1:Int)))) ?_
  refine lv (.int .i64 (IntKind.wrap .i64 (x8_9+(1:Int)))) ?_
  refine ls_end ?_
  refine qn_again k9 (sput (sput (sput (sput s0 0 (some (Ck.var 74 g1 ((en (Value.int .u32) a0.1.1++[Value.int .u64 a0.2]))))) 1 (some (Ck.var 69 g2 (en (Value.int .u32) a2.1)))) 2 (some (Ck.var 74 g3 ((en (Value.int .u32) (vrep 8 (0:Int)).1++[Value.int .u64 (0:Int)]))))) 3 (some (Ck.var 69 g4 (en (Value.int .u32) y180.1)))) (Nat.le_refl _) ⟨_,(IntKind.wrap .i64 (x8_9+(1:Int))),y180,fr_next (fr_next (fr_next (fr_next (fr_next (fr_next (rfl) (by kernel_rfl)) (by kernel_rfl)) (by kernel_rfl)) (by kernel_rfl)) (by kernel_rfl)) (by kernel_rfl),rfl,H⟩ (sub_put (by exact rfl) (sub_put (by exact rfl) (sub_put (by exact rfl) (sub_put (by exact rfl) (sub_nil _)))))
 rintro f S ⟨fr1,m3_1,rfl,rfl,H⟩
 replace H:(shadowboxref03_Block.lo7 (shadowboxref03_Block.jo2 k a0 a2) k (16:Int) m3_1)=some r := H
 refine cs_cut (fun f S=>∃ (fR:Fr) (m3_2:(Vc Int 64)),f=upd (upd (upd (upd fR 3 (.pointer (some ⟨g1,0,none⟩))) 5 (.pointer (some ⟨g2,0,none⟩))) 6 (.pointer (some ⟨g3,0,none⟩))) 7 (.pointer (some ⟨g4,0,none⟩))∧S=sput (sput (sput (sput s0 0 (some (Ck.var 74 g1 ((en (Value.int .u32) a0.1.1++[Value.int .u64 a0.2]))))) 1 (some (Ck.var 69 g2 (en (Value.int .u32) a2.1)))) 2 (some (Ck.var 74 g3 ((en (Value.int .u32) (vrep 8 (0:Int)).1++[Value.int .u64 (0:Int)]))))) 3 (some (Ck.var 69 g4 (en (Value.int .u32) m3_2.1)))∧shadowboxref03_Block.jo2 k a0 a2 m3_2=some r) ?_ ?_
 ·skip
  refine cs_seq ?_
  refine cs_region (l:=[_]) ?_
  refine lv (.int .i64 (16:Int)) ?_
  refine ls_end ?_
  refine qn_then ?_
  refine cs_block ?_
  refine cs_sub (sput (sput (sput (sput s0 0 (some (Ck.var 74 g1 ((en (Value.int .u32) a0.1.1++[Value.int .u64 a0.2]))))) 1 (some (Ck.var 69 g2 (en (Value.int .u32) a2.1)))) 2 (some (Ck.var 74 g3 ((en (Value.int .u32) (vrep 8 (0:Int)).1++[Value.int .u64 (0:Int)]))))) 3 (some (Ck.var 69 g4 (en (Value.int .u32) m3_1.1)))) (sub_put (by exact rfl) (sub_put (by exact rfl) (sub_put (by exact rfl) (sub_put (by exact rfl) (sub_nil _))))) ?_
  refine cs_loop (fun kk f S=>∃ (fR:Fr) (x9_7:Int) (m3_7:(Vc Int 64)),f=upd (upd (upd (upd (upd fR 3 (.pointer (some ⟨g1,0,none⟩))) 5 (.pointer (some ⟨g2,0,none⟩))) 6 (.pointer (some ⟨g3,0,none⟩))) 7 (.pointer (some ⟨g4,0,none⟩))) 9 (.int .i64 x9_7)∧S=sput (sput (sput (sput s0 0 (some (Ck.var 74 g1 ((en (Value.int .u32) a0.1.1++[Value.int .u64 a0.2]))))) 1 (some (Ck.var 69 g2 (en (Value.int .u32) a2.1)))) 2 (some (Ck.var 74 g3 ((en (Value.int .u32) (vrep 8 (0:Int)).1++[Value.int .u64 (0:Int)]))))) 3 (some (Ck.var 69 g4 (en (Value.int .u32) m3_7.1)))∧shadowboxref03_Block.lo7 (shadowboxref03_Block.jo2 k a0 a2) kk x9_7 m3_7=some r) k ?_ ?_ ?_
  ·exact ⟨_,(16:Int),m3_1,fr_next (fr_next (fr_next (fr_next (fr_next (rfl) (by kernel_rfl)) (by kernel_rfl)) (by kernel_rfl)) (by kernel_rfl)) (by kernel_rfl),rfl,H⟩
  ·rintro f S ⟨fr7,x9_7,m3_7,rfl,rfl,H⟩; cases H
  rintro k7 f S ⟨fr7,x9_7,m3_7,rfl,rfl,H⟩
  replace H:((if x9_7<(64:Int) then (shadowboxref03_Block.jo8 x9_7 m3_7 k7 (shadowboxref03_Block.lo7 (shadowboxref03_Block.jo2 k a0 a2) k7)) else (shadowboxref03_Block.jo2 k a0 a2) m3_7))=some r := H
  refine cs_cut (fun f S=>∃ (fR:Fr),f=upd (upd (upd (upd (upd fR 3 (.pointer (some ⟨g1,0,none⟩))) 5 (.pointer (some ⟨g2,0,none⟩))) 6 (.pointer (some ⟨g3,0,none⟩))) 7 (.pointer (some ⟨g4,0,none⟩))) 9 (.int .i64 x9_7)∧S=sput (sput (sput (sput s0 0 (some (Ck.var 74 g1 ((en (Value.int .u32) a0.1.1++[Value.int .u64 a0.2]))))) 1 (some (Ck.var 69 g2 (en (Value.int .u32) a2.1)))) 2 (some (Ck.var 74 g3 ((en (Value.int .u32) (vrep 8 (0:Int)).1++[Value.int .u64 (0:Int)]))))) 3 (some (Ck.var 69 g4 (en (Value.int .u32) m3_7.1)))∧shadowboxref03_Block.jo8 x9_7 m3_7 k7 (shadowboxref03_Block.lo7 (shadowboxref03_Block.jo2 k a0 a2) k7)=some r) ?_ ?_
  ·skip
   refine cs_seq ?_
   refine cs_region (l:=[_,_]) ?_
   refine lv (.int .i64 x9_7) ?_
   refine lv (.bool (decide (x9_7<(64:Int)))) ?_
   refine ls_end ?_
   refine qn_then ?_
   by_cases q139:x9_7<(64:Int)
   ·replace H := ite_t q139 H
    refine cs_know (c:=true) (dec_t q139) 60 (by kernel_rfl) ?_
    refine cs_true (by kernel_rfl) ?_
    refine cs_skip' ?_
    refine qn_meet (sput (sput (sput (sput s0 0 (some (Ck.var 74 g1 ((en (Value.int .u32) a0.1.1++[Value.int .u64 a0.2]))))) 1 (some (Ck.var 69 g2 (en (Value.int .u32) a2.1)))) 2 (some (Ck.var 74 g3 ((en (Value.int .u32) (vrep 8 (0:Int)).1++[Value.int .u64 (0:Int)]))))) 3 (some (Ck.var 69 g4 (en (Value.int .u32) m3_7.1)))) ⟨_,fr_next (fr_next (fr_next (fr_next (fr_next (rfl) (by kernel_rfl)) (by kernel_rfl)) (by kernel_rfl)) (by kernel_rfl)) (by kernel_rfl),rfl,H⟩ (sub_put (by exact rfl) (sub_put (by exact rfl) (sub_put (by exact rfl) (sub_put (by exact rfl) (sub_nil _)))))
   replace H := ite_f q139 H
   refine cs_know (c:=false) (dec_f q139) 60 (by kernel_rfl) ?_
   refine cs_false (by kernel_rfl) ?_
   refine cs_exit' ?_
   refine qx_then ?_
   refine qx_then ?_
   refine qx_same ?_
   refine qn_meet (sput (sput (sput (sput s0 0 (some (Ck.var 74 g1 ((en (Value.int .u32) a0.1.1++[Value.int .u64 a0.2]))))) 1 (some (Ck.var 69 g2 (en (Value.int .u32) a2.1)))) 2 (some (Ck.var 74 g3 ((en (Value.int .u32) (vrep 8 (0:Int)).1++[Value.int .u64 (0:Int)]))))) 3 (some (Ck.var 69 g4 (en (Value.int .u32) m3_7.1)))) ⟨_,m3_7,fr_next (fr_next (fr_next (fr_next (rfl) (by kernel_rfl)) (by kernel_rfl)) (by kernel_rfl)) (by kernel_rfl),rfl,H⟩ (sub_put (by exact rfl) (sub_put (by exact rfl) (sub_put (by exact rfl) (sub_put (by exact rfl) (sub_nil _)))))
  rintro f S ⟨fr8,rfl,rfl,H⟩
  replace H:((if 0≤IntKind.wrap .i64 (x9_7 - (2:Int)) then (if IntKind.wrap .i64 (x9_7 - (2:Int))<(64:Int) then lt ((m3_7.1.getD (IntKind.wrap .i64 (x9_7 - (2:Int))).toNat (0:Int))) fun y101=>(if 0≤IntKind.wrap .i64 (x9_7 - (15:Int)) then (if IntKind.wrap .i64 (x9_7 - (15:Int))<(64:Int) then lt ((m3_7.1.getD (IntKind.wrap .i64 (x9_7 - (15:Int))).toNat (0:Int))) fun y105=>(shadowboxref03_rotr.f k7 y101 (17:Int)).bind fun t109=>(shadowboxref03_rotr.f k7 y101 (19:Int)).bind fun t112=>lt (bits .xor .u32 (bits .xor .u32 t109 t112) (Int.fdiv y101 1024)) fun y115=>(if 0≤IntKind.wrap .i64 (x9_7 - (7:Int)) then (if IntKind.wrap .i64 (x9_7 - (7:Int))<(64:Int) then lt ((m3_7.1.getD (IntKind.wrap .i64 (x9_7 - (7:Int))).toNat (0:Int))) fun y119=>(shadowboxref03_rotr.f k7 y105 (7:Int)).bind fun t121=>(shadowboxref03_rotr.f k7 y105 (18:Int)).bind fun t124=>lt (bits .xor .u32 (bits .xor .u32 t121 t124) (Int.fdiv y105 8)) fun y127=>lt (IntKind.wrap .u32 ((IntKind.wrap .u32 (y115+y119))+y127)) fun y129=>(if 0≤IntKind.wrap .i64 (x9_7 - (16:Int)) then (if IntKind.wrap .i64 (x9_7 - (16:Int))<(64:Int) then lt ((m3_7.1.getD (IntKind.wrap .i64 (x9_7 - (16:Int))).toNat (0:Int))) fun y133=>(if 0≤x9_7 then (if x9_7<(64:Int) then lt (vset m3_7 (x9_7).toNat (IntKind.wrap .u32 (y129+y133))) fun y137=>(shadowboxref03_Block.lo7 (shadowboxref03_Block.jo2 k a0 a2) k7) (IntKind.wrap .i64 (x9_7+(1:Int))) y137 else none) else none) else none) else none) else none) else none) else none) else none) else none) else none))=some r := H
  refine cs_seq ?_
  refine cs_block ?_
  refine cs_seq ?_
  refine cs_region (l:=[_,_,_,_,_]) ?_
  refine lv (.int .i64 x9_7) ?_
  refine lv (.int .i64 (IntKind.wrap .i64 (x9_7 - (2:Int)))) ?_
  obtain ⟨q99,H⟩ := ite_need H
  obtain ⟨q100,H⟩ := ite_need H
  refine ls_idxa1 (g:=g4) (off:=0) (i:=IntKind.wrap .i64 (x9_7 - (2:Int))) (kk:=.i64) (ln:=64) (e:=23) rfl rfl (by kernel_rfl) rfl (by kernel_rfl) (by kernel_rfl) (by kernel_rfl) (by kernel_rfl) q99 q100 ?_
  obtain ⟨y101,hy102,H⟩ := lt_some H
  refine ls_load (a0:=⟨g4,(0+(IntKind.wrap .i64 (x9_7 - (2:Int))).toNat),none⟩) (v:=.int .u32 (m3_7.1.getD (IntKind.wrap .i64 (x9_7 - (2:Int))).toNat (0:Int))) (de:=(TypeDesc.int .u32)) rfl rfl (by kernel_rfl) rfl (by kernel_rfl) (by kernel_rfl) (by kernel_rfl) (fun w hs=>(hs.var (k:=3) (by exact rfl) (Sub4.trans (Sub4.all _) (Sub4.one (i:=(IntKind.wrap .i64 (x9_7 - (2:Int))).toNat) (Value.int .u32) m3_7.1 0 (by have := m3_7.2; omega))))) ?_
  refine ls_ren 66 (v:=.int .u32 (m3_7.1.getD (IntKind.wrap .i64 (x9_7 - (2:Int))).toNat (0:Int))) (v' := .int .u32 y101) (by kernel_rfl) (by rw [hy102]) ?_
  refine lv (.int .u32 y101) ?_
  refine ls_end ?_
  refine qn_then ?_
  refine cs_seq ?_
  refine cs_region (l:=[_,_,_,_,_]) ?_
  refine lv (.int .i64 x9_7) ?_
  refine lv (.int .i64 (IntKind.wrap .i64 (x9_7 - (15:Int)))) ?_
  obtain ⟨q103,H⟩ := ite_need H
  obtain ⟨q104,H⟩ := ite_need H
  refine ls_idxa1 (g:=g4) (off:=0) (i:=IntKind.wrap .i64 (x9_7 - (15:Int))) (kk:=.i64) (ln:=64) (e:=23) rfl rfl (by kernel_rfl) rfl (by kernel_rfl) (by kernel_rfl) (by kernel_rfl) (by kernel_rfl) q103 q104 ?_
  obtain ⟨y105,hy106,H⟩ := lt_some H
  refine ls_load (a0:=⟨g4,(0+(IntKind.wrap .i64 (x9_7 - (15:Int))).toNat),none⟩) (v:=.int .u32 (m3_7.1.getD (IntKind.wrap .i64 (x9_7 - (15:Int))).toNat (0:Int))) (de:=(TypeDesc.int .u32)) rfl rfl (by kernel_rfl) rfl (by kernel_rfl) (by kernel_rfl) (by kernel_rfl) (fun w hs=>(hs.var (k:=3) (by exact rfl) (Sub4.trans (Sub4.all _) (Sub4.one (i:=(IntKind.wrap .i64 (x9_7 - (15:Int))).toNat) (Value.int .u32) m3_7.1 0 (by have := m3_7.2; omega))))) ?_
  refine ls_ren 70 (v:=.int .u32 (m3_7.1.getD (IntKind.wrap .i64 (x9_7 - (15:Int))).toNat (0:Int))) (v' := .int .u32 y105) (by kernel_rfl) (by rw [hy106]) ?_
  refine lv (.int .u32 y105) ?_
  refine ls_end ?_
  refine qn_then ?_
  obtain ⟨s108_0,hs108_0⟩ := exv (.int .i64 x9_7)
  refine have_opa shadowboxref03_Block.tab106 4 0 (fun sp=>sp 0=s108_0) (fun sp on hA hon=>?_) (fun ops108_0=>?_)
  ·refine ⟨fun o ho vs Rs f' S' w hp hf hx hS hR hs=>?_⟩
   obtain rfl := Option.some.inj ho
   exact opv (.int .i64 x9_7) hA hs108_0 hon (fr_next (rfl) ((hx 9 (by kernel_rfl)).trans (by kernel_rfl:(_:Value)=.int .i64 x9_7)))
  obtain ⟨s108_1,hs108_1⟩ := exv (.int .u32 y101)
  refine have_opa shadowboxref03_Block.tab106 4 1 (fun sp=>sp 1=s108_1) (fun sp on hA hon=>?_) (fun ops108_1=>?_)
  ·refine ⟨fun o ho vs Rs f' S' w hp hf hx hS hR hs=>?_⟩
   obtain rfl := Option.some.inj ho
   exact opv (.int .u32 y101) hA hs108_1 hon (fr_next (rfl) ((hx 10 (by kernel_rfl)).trans (by kernel_rfl:(_:Value)=.int .u32 y101)))
  obtain ⟨t109,hc110,H⟩ := bind_some H
  obtain ⟨s108_2,hs108_2⟩:∃ z:Value→Sto→Prop,z=(fun v R=>∃ x111:Unit,v=.int .u32 t109∧R=stl []) := ⟨_,rfl⟩
  refine have_opa shadowboxref03_Block.tab106 4 2 (fun sp=>sp 2=s108_2∧sp 1=s108_1) (fun sp on hA hon=>?_) (fun ops108_2=>?_)
  ·refine ⟨fun o ho vs Rs f' S' w hp hf hx hS hR hs=>?_⟩
   obtain rfl := Option.some.inj ho
   obtain ⟨hv1,hR1⟩ := (spe hA.2 hs108_1 (hp 1 (by kernel_rfl)))
   rw [hA.1,hs108_2]
   refine wn hon ?_
   have hF := fr_next (rfl) ((hf 1 72 (by kernel_rfl) rfl).trans hv1)
   refine ls_fr hF ?_
   refine ls_call (fid:=57) (vals:=#[.int .u32 y101,.int .u64 (17:Int)]) (X:=Unit) (fun x=>.int .u32 t109) (fun x=>stl []) 0 rfl rfl (by kernel_rfl) (fun w=>by kernel_rfl) (fun w1 hs1=>shadowboxref03_rotr.calls k7 y101 (17:Int) t109 (bw w1) (St.refl w1)  hc110) ?_
   intro x111
   exact ls_fin (stl []) (.int .u32 t109) (congrArg (fun z=>upd z 73 _) hF.symm) ⟨x111,rfl,rfl⟩ (sub_join _)
  obtain ⟨s108_3,hs108_3⟩ := exv (.int .u32 y101)
  refine have_opa shadowboxref03_Block.tab106 4 3 (fun sp=>sp 3=s108_3) (fun sp on hA hon=>?_) (fun ops108_3=>?_)
  ·refine ⟨fun o ho vs Rs f' S' w hp hf hx hS hR hs=>?_⟩
   obtain rfl := Option.some.inj ho
   exact opv (.int .u32 y101) hA hs108_3 hon (fr_next (rfl) ((hx 10 (by kernel_rfl)).trans (by kernel_rfl:(_:Value)=.int .u32 y101)))
  obtain ⟨t112,hc113,H⟩ := bind_some H
  obtain ⟨s108_4,hs108_4⟩:∃ z:Value→Sto→Prop,z=(fun v R=>∃ x114:Unit,v=.int .u32 t112∧R=stl []) := ⟨_,rfl⟩
  refine have_opa shadowboxref03_Block.tab106 4 4 (fun sp=>sp 4=s108_4∧sp 3=s108_3) (fun sp on hA hon=>?_) (fun ops108_4=>?_)
  ·refine ⟨fun o ho vs Rs f' S' w hp hf hx hS hR hs=>?_⟩
   obtain rfl := Option.some.inj ho
   obtain ⟨hv3,hR3⟩ := (spe hA.2 hs108_3 (hp 3 (by kernel_rfl)))
   rw [hA.1,hs108_4]
   refine wn hon ?_
   have hF := fr_next (rfl) ((hf 3 74 (by kernel_rfl) rfl).trans hv3)
   refine ls_fr hF ?_
   refine ls_call (fid:=57) (vals:=#[.int .u32 y101,.int .u64 (19:Int)]) (X:=Unit) (fun x=>.int .u32 t112) (fun x=>stl []) 0 rfl rfl (by kernel_rfl) (fun w=>by kernel_rfl) (fun w1 hs1=>shadowboxref03_rotr.calls k7 y101 (19:Int) t112 (bw w1) (St.refl w1)  hc113) ?_
   intro x114
   exact ls_fin (stl []) (.int .u32 t112) (congrArg (fun z=>upd z 75 _) hF.symm) ⟨x114,rfl,rfl⟩ (sub_join _)
  obtain ⟨s108_5,hs108_5⟩ := exv (.int .u32 (bits .xor .u32 t109 t112))
  refine have_opa shadowboxref03_Block.tab106 4 5 (fun sp=>sp 5=s108_5∧sp 2=s108_2∧sp 4=s108_4) (fun sp on hA hon=>?_) (fun ops108_5=>?_)
  ·refine ⟨fun o ho vs Rs f' S' w hp hf hx hS hR hs=>?_⟩
   obtain rfl := Option.some.inj ho
   obtain ⟨x111,hv2,hR2⟩ := (spe hA.2.1 hs108_2 (hp 2 (by kernel_rfl)))
   obtain ⟨x114,hv4,hR4⟩ := (spe hA.2.2 hs108_4 (hp 4 (by kernel_rfl)))
   exact opv (.int .u32 (bits .xor .u32 t109 t112)) hA.1 hs108_5 hon (fr_next (fr_next (rfl) ((hf 2 73 (by kernel_rfl) rfl).trans hv2)) ((hf 4 75 (by kernel_rfl) rfl).trans hv4))
  obtain ⟨s108_6,hs108_6⟩ := exv (.int .u32 y101)
  refine have_opa shadowboxref03_Block.tab106 4 6 (fun sp=>sp 6=s108_6) (fun sp on hA hon=>?_) (fun ops108_6=>?_)
  ·refine ⟨fun o ho vs Rs f' S' w hp hf hx hS hR hs=>?_⟩
   obtain rfl := Option.some.inj ho
   exact opv (.int .u32 y101) hA hs108_6 hon (fr_next (rfl) ((hx 10 (by kernel_rfl)).trans (by kernel_rfl:(_:Value)=.int .u32 y101)))
  obtain ⟨s108_7,hs108_7⟩ := exv (.int .u32 (Int.fdiv y101 1024))
  refine have_opa shadowboxref03_Block.tab106 4 7 (fun sp=>sp 7=s108_7∧sp 6=s108_6) (fun sp on hA hon=>?_) (fun ops108_7=>?_)
  ·refine ⟨fun o ho vs Rs f' S' w hp hf hx hS hR hs=>?_⟩
   obtain rfl := Option.some.inj ho
   obtain ⟨hv6,hR6⟩ := (spe hA.2 hs108_6 (hp 6 (by kernel_rfl)))
   exact opv (.int .u32 (Int.fdiv y101 1024)) hA.1 hs108_7 hon (fr_next (rfl) ((hf 6 77 (by kernel_rfl) rfl).trans hv6))
  obtain ⟨y115,hy116,H⟩ := lt_some H
  obtain ⟨s108_8,hs108_8⟩ := exv (.int .u32 y115)
  refine have_opa shadowboxref03_Block.tab106 4 8 (fun sp=>sp 8=s108_8∧sp 5=s108_5∧sp 7=s108_7) (fun sp on hA hon=>?_) (fun ops108_8=>?_)
  ·refine ⟨fun o ho vs Rs f' S' w hp hf hx hS hR hs=>?_⟩
   obtain rfl := Option.some.inj ho
   obtain ⟨hv5,hR5⟩ := (spe hA.2.1 hs108_5 (hp 5 (by kernel_rfl)))
   obtain ⟨hv7,hR7⟩ := (spe hA.2.2 hs108_7 (hp 7 (by kernel_rfl)))
   rw [hA.1,hs108_8]
   refine wn hon ?_
   have hF := fr_next (fr_next (rfl) ((hf 5 76 (by kernel_rfl) rfl).trans hv5)) ((hf 7 78 (by kernel_rfl) rfl).trans hv7)
   refine ls_fr hF ?_
   refine lv (.int .u32 (bits .xor .u32 (bits .xor .u32 t109 t112) (Int.fdiv y101 1024))) ?_
   refine ls_ren 79 (v:=.int .u32 (bits .xor .u32 (bits .xor .u32 t109 t112) (Int.fdiv y101 1024))) (v' := .int .u32 y115) (by kernel_rfl) (by rw [hy116]) ?_
   exact ls_fin s0 _ ((upd_upd _ _ _ _).trans (congrArg (fun z=>upd z 79 _) hF.symm)) ⟨rfl,rfl⟩ (sub_nil _)
  obtain ⟨s108_9,hs108_9⟩ := exv (.int .i64 x9_7)
  refine have_opa shadowboxref03_Block.tab106 4 9 (fun sp=>sp 9=s108_9) (fun sp on hA hon=>?_) (fun ops108_9=>?_)
  ·refine ⟨fun o ho vs Rs f' S' w hp hf hx hS hR hs=>?_⟩
   obtain rfl := Option.some.inj ho
   exact opv (.int .i64 x9_7) hA hs108_9 hon (fr_next (rfl) ((hx 9 (by kernel_rfl)).trans (by kernel_rfl:(_:Value)=.int .i64 x9_7)))
  obtain ⟨s108_10,hs108_10⟩ := exv (.int .i64 (IntKind.wrap .i64 (x9_7 - (7:Int))))
  refine have_opa shadowboxref03_Block.tab106 4 10 (fun sp=>sp 10=s108_10∧sp 9=s108_9) (fun sp on hA hon=>?_) (fun ops108_10=>?_)
  ·refine ⟨fun o ho vs Rs f' S' w hp hf hx hS hR hs=>?_⟩
   obtain rfl := Option.some.inj ho
   obtain ⟨hv9,hR9⟩ := (spe hA.2 hs108_9 (hp 9 (by kernel_rfl)))
   exact opv (.int .i64 (IntKind.wrap .i64 (x9_7 - (7:Int)))) hA.1 hs108_10 hon (fr_next (rfl) ((hf 9 80 (by kernel_rfl) rfl).trans hv9))
  obtain ⟨q117,H⟩ := ite_need H
  obtain ⟨q118,H⟩ := ite_need H
  obtain ⟨s108_11,hs108_11⟩ := exv (.pointer (some ⟨g4,(0+(IntKind.wrap .i64 (x9_7 - (7:Int))).toNat),none⟩))
  refine have_opa shadowboxref03_Block.tab106 4 11 (fun sp=>sp 11=s108_11∧sp 10=s108_10) (fun sp on hA hon=>?_) (fun ops108_11=>?_)
  ·refine ⟨fun o ho vs Rs f' S' w hp hf hx hS hR hs=>?_⟩
   obtain rfl := Option.some.inj ho
   obtain ⟨hv10,hR10⟩ := (spe hA.2 hs108_10 (hp 10 (by kernel_rfl)))
   rw [hA.1,hs108_11]
   refine wn hon ?_
   have hF := fr_next (fr_next (rfl) ((hx 7 (by kernel_rfl)).trans (by kernel_rfl:(_:Value)=.pointer (some ⟨g4,0,none⟩)))) ((hf 10 81 (by kernel_rfl) rfl).trans hv10)
   refine ls_fr hF ?_
   refine ls_idxa1 (g:=g4) (off:=0) (i:=IntKind.wrap .i64 (x9_7 - (7:Int))) (kk:=.i64) (ln:=64) (e:=23) rfl rfl (by kernel_rfl) rfl (by kernel_rfl) (by kernel_rfl) (by kernel_rfl) (by kernel_rfl) q117 q118 ?_
   exact ls_fin s0 _ (congrArg (fun z=>upd z 82 _) hF.symm) ⟨rfl,rfl⟩ (sub_nil _)
  obtain ⟨y119,hy120,H⟩ := lt_some H
  obtain ⟨s108_12,hs108_12⟩ := exv (.int .u32 y119)
  refine have_opa shadowboxref03_Block.tab106 4 12 (fun sp=>sp 12=s108_12∧sp 11=s108_11) (fun sp on hA hon=>?_) (fun ops108_12=>?_)
  ·refine ⟨fun o ho vs Rs f' S' w hp hf hx hS hR hs=>?_⟩
   obtain rfl := Option.some.inj ho
   obtain ⟨hv11,hR11⟩ := (spe hA.2 hs108_11 (hp 11 (by kernel_rfl)))
   rw [hA.1,hs108_12]
   refine wn hon ?_
   have hF := fr_next (rfl) ((hf 11 82 (by kernel_rfl) rfl).trans hv11)
   refine ls_fr hF ?_
   refine ls_load (a0:=⟨g4,(0+(IntKind.wrap .i64 (x9_7 - (7:Int))).toNat),none⟩) (v:=.int .u32 (m3_7.1.getD (IntKind.wrap .i64 (x9_7 - (7:Int))).toNat (0:Int))) (de:=(TypeDesc.int .u32)) rfl rfl (by kernel_rfl) rfl (by kernel_rfl) (by kernel_rfl) (by kernel_rfl) (fun w1 hs1=>cell_step hs1.below.bw (hs.var (k:=3) ((hS 3 (by kernel_rfl)).trans (by exact rfl)) (Sub4.trans (Sub4.all _) (Sub4.one (i:=(IntKind.wrap .i64 (x9_7 - (7:Int))).toNat) (Value.int .u32) m3_7.1 0 (by have := m3_7.2; omega))))) ?_
   refine ls_ren 83 (v:=.int .u32 (m3_7.1.getD (IntKind.wrap .i64 (x9_7 - (7:Int))).toNat (0:Int))) (v' := .int .u32 y119) (by kernel_rfl) (by rw [hy120]) ?_
   exact ls_fin s0 _ ((upd_upd _ _ _ _).trans (congrArg (fun z=>upd z 83 _) hF.symm)) ⟨rfl,rfl⟩ (sub_nil _)
  obtain ⟨s108_13,hs108_13⟩ := exv (.int .u32 (IntKind.wrap .u32 (y115+y119)))
  refine have_opa shadowboxref03_Block.tab106 4 13 (fun sp=>sp 13=s108_13∧sp 8=s108_8∧sp 12=s108_12) (fun sp on hA hon=>?_) (fun ops108_13=>?_)
  ·refine ⟨fun o ho vs Rs f' S' w hp hf hx hS hR hs=>?_⟩
   obtain rfl := Option.some.inj ho
   obtain ⟨hv8,hR8⟩ := (spe hA.2.1 hs108_8 (hp 8 (by kernel_rfl)))
   obtain ⟨hv12,hR12⟩ := (spe hA.2.2 hs108_12 (hp 12 (by kernel_rfl)))
   exact opv (.int .u32 (IntKind.wrap .u32 (y115+y119))) hA.1 hs108_13 hon (fr_next (fr_next (rfl) ((hf 8 79 (by kernel_rfl) rfl).trans hv8)) ((hf 12 83 (by kernel_rfl) rfl).trans hv12))
  obtain ⟨s108_14,hs108_14⟩ := exv (.int .u32 y105)
  refine have_opa shadowboxref03_Block.tab106 4 14 (fun sp=>sp 14=s108_14) (fun sp on hA hon=>?_) (fun ops108_14=>?_)
  ·refine ⟨fun o ho vs Rs f' S' w hp hf hx hS hR hs=>?_⟩
   obtain rfl := Option.some.inj ho
   exact opv (.int .u32 y105) hA hs108_14 hon (fr_next (rfl) ((hx 11 (by kernel_rfl)).trans (by kernel_rfl:(_:Value)=.int .u32 y105)))
  obtain ⟨t121,hc122,H⟩ := bind_some H
  obtain ⟨s108_15,hs108_15⟩:∃ z:Value→Sto→Prop,z=(fun v R=>∃ x123:Unit,v=.int .u32 t121∧R=stl []) := ⟨_,rfl⟩
  refine have_opa shadowboxref03_Block.tab106 4 15 (fun sp=>sp 15=s108_15∧sp 14=s108_14) (fun sp on hA hon=>?_) (fun ops108_15=>?_)
  ·refine ⟨fun o ho vs Rs f' S' w hp hf hx hS hR hs=>?_⟩
   obtain rfl := Option.some.inj ho
   obtain ⟨hv14,hR14⟩ := (spe hA.2 hs108_14 (hp 14 (by kernel_rfl)))
   rw [hA.1,hs108_15]
   refine wn hon ?_
   have hF := fr_next (rfl) ((hf 14 85 (by kernel_rfl) rfl).trans hv14)
   refine ls_fr hF ?_
   refine ls_call (fid:=57) (vals:=#[.int .u32 y105,.int .u64 (7:Int)]) (X:=Unit) (fun x=>.int .u32 t121) (fun x=>stl []) 0 rfl rfl (by kernel_rfl) (fun w=>by kernel_rfl) (fun w1 hs1=>shadowboxref03_rotr.calls k7 y105 (7:Int) t121 (bw w1) (St.refl w1)  hc122) ?_
   intro x123
   exact ls_fin (stl []) (.int .u32 t121) (congrArg (fun z=>upd z 86 _) hF.symm) ⟨x123,rfl,rfl⟩ (sub_join _)
  obtain ⟨s108_16,hs108_16⟩ := exv (.int .u32 y105)
  refine have_opa shadowboxref03_Block.tab106 4 16 (fun sp=>sp 16=s108_16) (fun sp on hA hon=>?_) (fun ops108_16=>?_)
  ·refine ⟨fun o ho vs Rs f' S' w hp hf hx hS hR hs=>?_⟩
   obtain rfl := Option.some.inj ho
   exact opv (.int .u32 y105) hA hs108_16 hon (fr_next (rfl) ((hx 11 (by kernel_rfl)).trans (by kernel_rfl:(_:Value)=.int .u32 y105)))
  obtain ⟨t124,hc125,H⟩ := bind_some H
  obtain ⟨s108_17,hs108_17⟩:∃ z:Value→Sto→Prop,z=(fun v R=>∃ x126:Unit,v=.int .u32 t124∧R=stl []) := ⟨_,rfl⟩
  refine have_opa shadowboxref03_Block.tab106 4 17 (fun sp=>sp 17=s108_17∧sp 16=s108_16) (fun sp on hA hon=>?_) (fun ops108_17=>?_)
  ·refine ⟨fun o ho vs Rs f' S' w hp hf hx hS hR hs=>?_⟩
   obtain rfl := Option.some.inj ho
   obtain ⟨hv16,hR16⟩ := (spe hA.2 hs108_16 (hp 16 (by kernel_rfl)))
   rw [hA.1,hs108_17]
   refine wn hon ?_
   have hF := fr_next (rfl) ((hf 16 87 (by kernel_rfl) rfl).trans hv16)
   refine ls_fr hF ?_
   refine ls_call (fid:=57) (vals:=#[.int .u32 y105,.int .u64 (18:Int)]) (X:=Unit) (fun x=>.int .u32 t124) (fun x=>stl []) 0 rfl rfl (by kernel_rfl) (fun w=>by kernel_rfl) (fun w1 hs1=>shadowboxref03_rotr.calls k7 y105 (18:Int) t124 (bw w1) (St.refl w1)  hc125) ?_
   intro x126
   exact ls_fin (stl []) (.int .u32 t124) (congrArg (fun z=>upd z 88 _) hF.symm) ⟨x126,rfl,rfl⟩ (sub_join _)
  obtain ⟨s108_18,hs108_18⟩ := exv (.int .u32 (bits .xor .u32 t121 t124))
  refine have_opa shadowboxref03_Block.tab106 4 18 (fun sp=>sp 18=s108_18∧sp 15=s108_15∧sp 17=s108_17) (fun sp on hA hon=>?_) (fun ops108_18=>?_)
  ·refine ⟨fun o ho vs Rs f' S' w hp hf hx hS hR hs=>?_⟩
   obtain rfl := Option.some.inj ho
   obtain ⟨x123,hv15,hR15⟩ := (spe hA.2.1 hs108_15 (hp 15 (by kernel_rfl)))
   obtain ⟨x126,hv17,hR17⟩ := (spe hA.2.2 hs108_17 (hp 17 (by kernel_rfl)))
   exact opv (.int .u32 (bits .xor .u32 t121 t124)) hA.1 hs108_18 hon (fr_next (fr_next (rfl) ((hf 15 86 (by kernel_rfl) rfl).trans hv15)) ((hf 17 88 (by kernel_rfl) rfl).trans hv17))
  obtain ⟨s108_19,hs108_19⟩ := exv (.int .u32 y105)
  refine have_opa shadowboxref03_Block.tab106 4 19 (fun sp=>sp 19=s108_19) (fun sp on hA hon=>?_) (fun ops108_19=>?_)
  ·refine ⟨fun o ho vs Rs f' S' w hp hf hx hS hR hs=>?_⟩
   obtain rfl := Option.some.inj ho
   exact opv (.int .u32 y105) hA hs108_19 hon (fr_next (rfl) ((hx 11 (by kernel_rfl)).trans (by kernel_rfl:(_:Value)=.int .u32 y105)))
  obtain ⟨s108_20,hs108_20⟩ := exv (.int .u32 (Int.fdiv y105 8))
  refine have_opa shadowboxref03_Block.tab106 4 20 (fun sp=>sp 20=s108_20∧sp 19=s108_19) (fun sp on hA hon=>?_) (fun ops108_20=>?_)
  ·refine ⟨fun o ho vs Rs f' S' w hp hf hx hS hR hs=>?_⟩
   obtain rfl := Option.some.inj ho
   obtain ⟨hv19,hR19⟩ := (spe hA.2 hs108_19 (hp 19 (by kernel_rfl)))
   exact opv (.int .u32 (Int.fdiv y105 8)) hA.1 hs108_20 hon (fr_next (rfl) ((hf 19 90 (by kernel_rfl) rfl).trans hv19))
  obtain ⟨y127,hy128,H⟩ := lt_some H
  obtain ⟨s108_21,hs108_21⟩ := exv (.int .u32 y127)
  refine have_opa shadowboxref03_Block.tab106 4 21 (fun sp=>sp 21=s108_21∧sp 18=s108_18∧sp 20=s108_20) (fun sp on hA hon=>?_) (fun ops108_21=>?_)
  ·refine ⟨fun o ho vs Rs f' S' w hp hf hx hS hR hs=>?_⟩
   obtain rfl := Option.some.inj ho
   obtain ⟨hv18,hR18⟩ := (spe hA.2.1 hs108_18 (hp 18 (by kernel_rfl)))
   obtain ⟨hv20,hR20⟩ := (spe hA.2.2 hs108_20 (hp 20 (by kernel_rfl)))
   rw [hA.1,hs108_21]
   refine wn hon ?_
   have hF := fr_next (fr_next (rfl) ((hf 18 89 (by kernel_rfl) rfl).trans hv18)) ((hf 20 91 (by kernel_rfl) rfl).trans hv20)
   refine ls_fr hF ?_
   refine lv (.int .u32 (bits .xor .u32 (bits .xor .u32 t121 t124) (Int.fdiv y105 8))) ?_
   refine ls_ren 92 (v:=.int .u32 (bits .xor .u32 (bits .xor .u32 t121 t124) (Int.fdiv y105 8))) (v' := .int .u32 y127) (by kernel_rfl) (by rw [hy128]) ?_
   exact ls_fin s0 _ ((upd_upd _ _ _ _).trans (congrArg (fun z=>upd z 92 _) hF.symm)) ⟨rfl,rfl⟩ (sub_nil _)
  obtain ⟨y129,hy130,H⟩ := lt_some H
  obtain ⟨s108_22,hs108_22⟩ := exv (.int .u32 y129)
  refine have_opa shadowboxref03_Block.tab106 4 22 (fun sp=>sp 22=s108_22∧sp 13=s108_13∧sp 21=s108_21) (fun sp on hA hon=>?_) (fun ops108_22=>?_)
  ·refine ⟨fun o ho vs Rs f' S' w hp hf hx hS hR hs=>?_⟩
   obtain rfl := Option.some.inj ho
   obtain ⟨hv13,hR13⟩ := (spe hA.2.1 hs108_13 (hp 13 (by kernel_rfl)))
   obtain ⟨hv21,hR21⟩ := (spe hA.2.2 hs108_21 (hp 21 (by kernel_rfl)))
   rw [hA.1,hs108_22]
   refine wn hon ?_
   have hF := fr_next (fr_next (rfl) ((hf 13 84 (by kernel_rfl) rfl).trans hv13)) ((hf 21 92 (by kernel_rfl) rfl).trans hv21)
   refine ls_fr hF ?_
   refine lv (.int .u32 (IntKind.wrap .u32 ((IntKind.wrap .u32 (y115+y119))+y127))) ?_
   refine ls_ren 93 (v:=.int .u32 (IntKind.wrap .u32 ((IntKind.wrap .u32 (y115+y119))+y127))) (v' := .int .u32 y129) (by kernel_rfl) (by rw [hy130]) ?_
   exact ls_fin s0 _ ((upd_upd _ _ _ _).trans (congrArg (fun z=>upd z 93 _) hF.symm)) ⟨rfl,rfl⟩ (sub_nil _)
  obtain ⟨s108_23,hs108_23⟩ := exv (.int .i64 x9_7)
  refine have_opa shadowboxref03_Block.tab106 4 23 (fun sp=>sp 23=s108_23) (fun sp on hA hon=>?_) (fun ops108_23=>?_)
  ·refine ⟨fun o ho vs Rs f' S' w hp hf hx hS hR hs=>?_⟩
   obtain rfl := Option.some.inj ho
   exact opv (.int .i64 x9_7) hA hs108_23 hon (fr_next (rfl) ((hx 9 (by kernel_rfl)).trans (by kernel_rfl:(_:Value)=.int .i64 x9_7)))
  obtain ⟨s108_24,hs108_24⟩ := exv (.int .i64 (IntKind.wrap .i64 (x9_7 - (16:Int))))
  refine have_opa shadowboxref03_Block.tab106 4 24 (fun sp=>sp 24=s108_24∧sp 23=s108_23) (fun sp on hA hon=>?_) (fun ops108_24=>?_)
  ·refine ⟨fun o ho vs Rs f' S' w hp hf hx hS hR hs=>?_⟩
   obtain rfl := Option.some.inj ho
   obtain ⟨hv23,hR23⟩ := (spe hA.2 hs108_23 (hp 23 (by kernel_rfl)))
   exact opv (.int .i64 (IntKind.wrap .i64 (x9_7 - (16:Int)))) hA.1 hs108_24 hon (fr_next (rfl) ((hf 23 94 (by kernel_rfl) rfl).trans hv23))
  obtain ⟨q131,H⟩ := ite_need H
  obtain ⟨q132,H⟩ := ite_need H
  obtain ⟨s108_25,hs108_25⟩ := exv (.pointer (some ⟨g4,(0+(IntKind.wrap .i64 (x9_7 - (16:Int))).toNat),none⟩))
  refine have_opa shadowboxref03_Block.tab106 4 25 (fun sp=>sp 25=s108_25∧sp 24=s108_24) (fun sp on hA hon=>?_) (fun ops108_25=>?_)
  ·refine ⟨fun o ho vs Rs f' S' w hp hf hx hS hR hs=>?_⟩
   obtain rfl := Option.some.inj ho
   obtain ⟨hv24,hR24⟩ := (spe hA.2 hs108_24 (hp 24 (by kernel_rfl)))
   rw [hA.1,hs108_25]
   refine wn hon ?_
   have hF := fr_next (fr_next (rfl) ((hx 7 (by kernel_rfl)).trans (by kernel_rfl:(_:Value)=.pointer (some ⟨g4,0,none⟩)))) ((hf 24 95 (by kernel_rfl) rfl).trans hv24)
   refine ls_fr hF ?_
   refine ls_idxa1 (g:=g4) (off:=0) (i:=IntKind.wrap .i64 (x9_7 - (16:Int))) (kk:=.i64) (ln:=64) (e:=23) rfl rfl (by kernel_rfl) rfl (by kernel_rfl) (by kernel_rfl) (by kernel_rfl) (by kernel_rfl) q131 q132 ?_
   exact ls_fin s0 _ (congrArg (fun z=>upd z 96 _) hF.symm) ⟨rfl,rfl⟩ (sub_nil _)
  obtain ⟨y133,hy134,H⟩ := lt_some H
  obtain ⟨s108_26,hs108_26⟩ := exv (.int .u32 y133)
  refine have_opa shadowboxref03_Block.tab106 4 26 (fun sp=>sp 26=s108_26∧sp 25=s108_25) (fun sp on hA hon=>?_) (fun ops108_26=>?_)
  ·refine ⟨fun o ho vs Rs f' S' w hp hf hx hS hR hs=>?_⟩
   obtain rfl := Option.some.inj ho
   obtain ⟨hv25,hR25⟩ := (spe hA.2 hs108_25 (hp 25 (by kernel_rfl)))
   rw [hA.1,hs108_26]
   refine wn hon ?_
   have hF := fr_next (rfl) ((hf 25 96 (by kernel_rfl) rfl).trans hv25)
   refine ls_fr hF ?_
   refine ls_load (a0:=⟨g4,(0+(IntKind.wrap .i64 (x9_7 - (16:Int))).toNat),none⟩) (v:=.int .u32 (m3_7.1.getD (IntKind.wrap .i64 (x9_7 - (16:Int))).toNat (0:Int))) (de:=(TypeDesc.int .u32)) rfl rfl (by kernel_rfl) rfl (by kernel_rfl) (by kernel_rfl) (by kernel_rfl) (fun w1 hs1=>cell_step hs1.below.bw (hs.var (k:=3) ((hS 3 (by kernel_rfl)).trans (by exact rfl)) (Sub4.trans (Sub4.all _) (Sub4.one (i:=(IntKind.wrap .i64 (x9_7 - (16:Int))).toNat) (Value.int .u32) m3_7.1 0 (by have := m3_7.2; omega))))) ?_
   refine ls_ren 97 (v:=.int .u32 (m3_7.1.getD (IntKind.wrap .i64 (x9_7 - (16:Int))).toNat (0:Int))) (v' := .int .u32 y133) (by kernel_rfl) (by rw [hy134]) ?_
   exact ls_fin s0 _ ((upd_upd _ _ _ _).trans (congrArg (fun z=>upd z 97 _) hF.symm)) ⟨rfl,rfl⟩ (sub_nil _)
  obtain ⟨s108_27,hs108_27⟩ := exv (.int .u32 (IntKind.wrap .u32 (y129+y133)))
  refine have_opa shadowboxref03_Block.tab106 4 27 (fun sp=>sp 27=s108_27∧sp 22=s108_22∧sp 26=s108_26) (fun sp on hA hon=>?_) (fun ops108_27=>?_)
  ·refine ⟨fun o ho vs Rs f' S' w hp hf hx hS hR hs=>?_⟩
   obtain rfl := Option.some.inj ho
   obtain ⟨hv22,hR22⟩ := (spe hA.2.1 hs108_22 (hp 22 (by kernel_rfl)))
   obtain ⟨hv26,hR26⟩ := (spe hA.2.2 hs108_26 (hp 26 (by kernel_rfl)))
   exact opv (.int .u32 (IntKind.wrap .u32 (y129+y133))) hA.1 hs108_27 hon (fr_next (fr_next (rfl) ((hf 22 93 (by kernel_rfl) rfl).trans hv22)) ((hf 26 97 (by kernel_rfl) rfl).trans hv26))
  refine cs_draw shadowboxref03_Block.tab106 28 4 (spl [s108_0,s108_1,s108_2,s108_3,s108_4,s108_5,s108_6,s108_7,s108_8,s108_9,s108_10,s108_11,s108_12,s108_13,s108_14,s108_15,s108_16,s108_17,s108_18,s108_19,s108_20,s108_21,s108_22,s108_23,s108_24,s108_25,s108_26,s108_27]) (onl [true,true,true,true,true,true,true,true,true,true,true,true,true,true,true,true,true,true,true,true,true,true,true,true,true,true,true,true]) (by kernel_rfl) (by kernel_rfl) (by kernel_rfl) (by kernel_rfl) (rs:=[_,_]) rfl (by kernel_rfl) (by kernel_rfl) (all_snoc (all_snoc (all_snoc (all_snoc (all_snoc (all_snoc (all_snoc (all_snoc (all_snoc (all_snoc (all_snoc (all_snoc (all_snoc (all_snoc (all_snoc (all_snoc (all_snoc (all_snoc (all_snoc (all_snoc (all_snoc (all_snoc (all_snoc (all_snoc (all_snoc (all_snoc (all_snoc (all_snoc (all_nil) (ops108_0 _ _ rfl rfl)) (ops108_1 _ _ rfl rfl)) (ops108_2 _ _ ⟨rfl,rfl⟩ rfl)) (ops108_3 _ _ rfl rfl)) (ops108_4 _ _ ⟨rfl,rfl⟩ rfl)) (ops108_5 _ _ ⟨rfl,rfl,rfl⟩ rfl)) (ops108_6 _ _ rfl rfl)) (ops108_7 _ _ ⟨rfl,rfl⟩ rfl)) (ops108_8 _ _ ⟨rfl,rfl,rfl⟩ rfl)) (ops108_9 _ _ rfl rfl)) (ops108_10 _ _ ⟨rfl,rfl⟩ rfl)) (ops108_11 _ _ ⟨rfl,rfl⟩ rfl)) (ops108_12 _ _ ⟨rfl,rfl⟩ rfl)) (ops108_13 _ _ ⟨rfl,rfl,rfl⟩ rfl)) (ops108_14 _ _ rfl rfl)) (ops108_15 _ _ ⟨rfl,rfl⟩ rfl)) (ops108_16 _ _ rfl rfl)) (ops108_17 _ _ ⟨rfl,rfl⟩ rfl)) (ops108_18 _ _ ⟨rfl,rfl,rfl⟩ rfl)) (ops108_19 _ _ rfl rfl)) (ops108_20 _ _ ⟨rfl,rfl⟩ rfl)) (ops108_21 _ _ ⟨rfl,rfl,rfl⟩ rfl)) (ops108_22 _ _ ⟨rfl,rfl,rfl⟩ rfl)) (ops108_23 _ _ rfl rfl)) (ops108_24 _ _ ⟨rfl,rfl⟩ rfl)) (ops108_25 _ _ ⟨rfl,rfl⟩ rfl)) (ops108_26 _ _ ⟨rfl,rfl⟩ rfl)) (ops108_27 _ _ ⟨rfl,rfl,rfl⟩ rfl)) ?_
  intro vs Rs f' S' hp hf hx hS hR
  obtain ⟨hv0,hR0⟩ := (spe rfl hs108_0 (hp 0 (by kernel_rfl)))
  obtain ⟨x111,hv2,hR2⟩ := (spe rfl hs108_2 (hp 2 (by kernel_rfl)))
  obtain ⟨x114,hv4,hR4⟩ := (spe rfl hs108_4 (hp 4 (by kernel_rfl)))
  obtain ⟨x123,hv15,hR15⟩ := (spe rfl hs108_15 (hp 15 (by kernel_rfl)))
  obtain ⟨x126,hv17,hR17⟩ := (spe rfl hs108_17 (hp 17 (by kernel_rfl)))
  obtain ⟨hv27,hR27⟩ := (spe rfl hs108_27 (hp 27 (by kernel_rfl)))
  refine ls_fr (F:=upd (upd (upd (upd (upd (upd (upd f' 3 (.pointer (some ⟨g1,0,none⟩))) 5 (.pointer (some ⟨g2,0,none⟩))) 6 (.pointer (some ⟨g3,0,none⟩))) 7 (.pointer (some ⟨g4,0,none⟩))) 9 (.int .i64 x9_7)) 71 (.int .i64 x9_7)) 98 (.int .u32 (IntKind.wrap .u32 (y129+y133)))) (fr_next (fr_next (fr_next (fr_next (fr_next (fr_next (fr_next (rfl) ((hx 3 (by kernel_rfl)).trans (by kernel_rfl:(_:Value)=.pointer (some ⟨g1,0,none⟩)))) ((hx 5 (by kernel_rfl)).trans (by kernel_rfl:(_:Value)=.pointer (some ⟨g2,0,none⟩)))) ((hx 6 (by kernel_rfl)).trans (by kernel_rfl:(_:Value)=.pointer (some ⟨g3,0,none⟩)))) ((hx 7 (by kernel_rfl)).trans (by kernel_rfl:(_:Value)=.pointer (some ⟨g4,0,none⟩)))) ((hx 9 (by kernel_rfl)).trans (by kernel_rfl:(_:Value)=.int .i64 x9_7))) ((hf 0 71 (by kernel_rfl) rfl).trans hv0)) ((hf 27 98 (by kernel_rfl) rfl).trans hv27)) ?_
  refine ls_sub (sput (sput (sput (sput s0 0 (some (Ck.var 74 g1 ((en (Value.int .u32) a0.1.1++[Value.int .u64 a0.2]))))) 1 (some (Ck.var 69 g2 (en (Value.int .u32) a2.1)))) 2 (some (Ck.var 74 g3 ((en (Value.int .u32) (vrep 8 (0:Int)).1++[Value.int .u64 (0:Int)]))))) 3 (some (Ck.var 69 g4 (en (Value.int .u32) m3_7.1)))) (sub_put ((hS 3 (by kernel_rfl)).trans (by exact rfl)) (sub_put ((hS 2 (by kernel_rfl)).trans (by exact rfl)) (sub_put ((hS 1 (by kernel_rfl)).trans (by exact rfl)) (sub_put ((hS 0 (by kernel_rfl)).trans (by exact rfl)) (sub_nil _))))) ?_
  obtain ⟨q135,H⟩ := ite_need H
  obtain ⟨q136,H⟩ := ite_need H
  refine ls_idxa1 (g:=g4) (off:=0) (i:=x9_7) (kk:=.i64) (ln:=64) (e:=23) rfl rfl (by kernel_rfl) rfl (by kernel_rfl) (by kernel_rfl) (by kernel_rfl) (by kernel_rfl) q135 q136 ?_
  obtain ⟨y137,hy138,H⟩ := lt_some H
  refine ls_storec (g:=g4) (off:=(0+(x9_7).toNat)) (v:=.int .u32 (IntKind.wrap .u32 (y129+y133))) (vs:=[Value.int .u32 (IntKind.wrap .u32 (y129+y133))]) (cs:=en (Value.int .u32) m3_7.1) (ty:=69) 3 rfl rfl rfl (by kernel_rfl) (by kernel_rfl) (by kernel_rfl) (by exact rfl) (by kernel_rfl) (len1 _) (one_cons rfl one_nil) (hl_of (Sub4.trans (Sub4.all _) (Sub4.one (i:=(x9_7).toNat) (Value.int .u32) m3_7.1 0 (by have := m3_7.2; omega))) (len_eq (len1 _) (len1 _))) (cs' := en (Value.int .u32) y137.1) (splc_in (Sub4.all _) ((splc_one (Value.int .u32) m3_7.1 (IntKind.wrap .u32 (y129+y133)) (by have := m3_7.2; omega)).trans (congrArg (fun z:(Vc Int 64)=>en (Value.int .u32) z.1) hy138)) (splc_all (len_eq (len_en _ y137) (len_en _ m3_7))) (hl_of (Sub4.one (i:=(x9_7).toNat) (Value.int .u32) m3_7.1 0 (by have := m3_7.2; omega)) (len_eq (len1 _) (len1 _)))) ?_
  refine ls_end ?_
  refine qn_block ?_
  refine qn_then ?_
  refine cs_region (l:=[_,_,_]) ?_
  refine lv (.int .i64 x9_7) ?_
  refine lv (.int .i64 (IntKind.wrap .i64 (x9_7+(1:Int)))) ?_
  refine lv (.int .i64 (IntKind.wrap .i64 (x9_7+(1:Int)))) ?_
  refine ls_end ?_
  refine qn_again k7 (sput (sput (sput (sput s0 0 (some (Ck.var 74 g1 ((en (Value.int .u32) a0.1.1++[Value.int .u64 a0.2]))))) 1 (some (Ck.var 69 g2 (en (Value.int .u32) a2.1)))) 2 (some (Ck.var 74 g3 ((en (Value.int .u32) (vrep 8 (0:Int)).1++[Value.int .u64 (0:Int)]))))) 3 (some (Ck.var 69 g4 (en (Value.int .u32) y137.1)))) (Nat.le_refl _) ⟨_,(IntKind.wrap .i64 (x9_7+(1:Int))),y137,fr_next (fr_next (fr_next (fr_next (fr_next (rfl) (by kernel_rfl)) (by kernel_rfl)) (by kernel_rfl)) (by kernel_rfl)) (by kernel_rfl),rfl,H⟩ (sub_put (by exact rfl) (sub_put (by exact rfl) (sub_put (by exact rfl) (sub_put (by exact rfl) (sub_nil _)))))
 rintro f S ⟨fr2,m3_2,rfl,rfl,H⟩
 replace H:(shadowboxref03_Block.lo5 a2 m3_2 (shadowboxref03_Block.jo3 k a0) k (0:Int) a0.1)=some r := H
 refine cs_seq ?_
 refine cs_region (l:=[_,_,_,_]) ?_
 refine lv (.pointer (some ⟨g1,(0+0),none⟩)) ?_
 refine ls_loadagg (a:=⟨g1,(0+0),none⟩) (sub:=en (Value.int .u32) a0.1.1) rfl rfl (by kernel_rfl) rfl (by kernel_rfl) (by kernel_rfl) (by kernel_rfl) (len_en _ a0.1) (fun w hs=>(hs.vars (k:=0) (by exact rfl) (Sub4.trans (Sub4.all _) (Sub4.head _ _)))) ?_
 refine ls_new rfl rfl (by kernel_rfl) 4 (fun g=>.pointer (some ⟨g,0,none⟩)) (.cells ⟨en (Value.int .u32) (vrep 8 (0:Int)).1⟩ 71) (fun w=>by kernel_rfl) ?_
 intro g5
 refine ls_storec (g:=g5) (off:=0) (v:=.agg ⟨en (Value.int .u32) a0.1.1⟩) (vs:=en (Value.int .u32) a0.1.1) (cs:=en (Value.int .u32) (vrep 8 (0:Int)).1) (ty:=71) 4 rfl rfl rfl (by kernel_rfl) (by kernel_rfl) (by kernel_rfl) (by exact rfl) (by kernel_rfl) (len_en _ a0.1) (one_en (fun _=>rfl) _) (hl_of (Sub4.all _) (len_eq (len_en _ a0.1) (len_en _ (vrep 8 (0:Int))))) (cs' := en (Value.int .u32) a0.1.1) (splc_all (len_eq (len_en _ a0.1) (len_en _ (vrep 8 (0:Int))))) ?_
 refine ls_end ?_
 refine qn_then ?_
 refine cs_cut (fun f S=>∃ (fR:Fr) (m4_3:(Vc Int 8)),f=upd (upd (upd fR 3 (.pointer (some ⟨g1,0,none⟩))) 6 (.pointer (some ⟨g3,0,none⟩))) 12 (.pointer (some ⟨g5,0,none⟩))∧S=sput (sput (sput s0 0 (some (Ck.var 74 g1 ((en (Value.int .u32) a0.1.1++[Value.int .u64 a0.2]))))) 2 (some (Ck.var 74 g3 ((en (Value.int .u32) (vrep 8 (0:Int)).1++[Value.int .u64 (0:Int)]))))) 4 (some (Ck.var 71 g5 (en (Value.int .u32) m4_3.1)))∧shadowboxref03_Block.jo3 k a0 m4_3=some r) ?_ ?_
 ·skip
  refine cs_seq ?_
  refine cs_region (l:=[_]) ?_
  refine lv (.int .i64 (0:Int)) ?_
  refine ls_end ?_
  refine qn_then ?_
  refine cs_block ?_
  refine cs_sub (sput (sput (sput (sput (sput s0 0 (some (Ck.var 74 g1 ((en (Value.int .u32) a0.1.1++[Value.int .u64 a0.2]))))) 1 (some (Ck.var 69 g2 (en (Value.int .u32) a2.1)))) 2 (some (Ck.var 74 g3 ((en (Value.int .u32) (vrep 8 (0:Int)).1++[Value.int .u64 (0:Int)]))))) 3 (some (Ck.var 69 g4 (en (Value.int .u32) m3_2.1)))) 4 (some (Ck.var 71 g5 (en (Value.int .u32) a0.1.1)))) (sub_put (by exact rfl) (sub_put (by exact rfl) (sub_put (by exact rfl) (sub_put (by exact rfl) (sub_put (by exact rfl) (sub_nil _)))))) ?_
  refine cs_loop (fun kk f S=>∃ (fR:Fr) (x13_5:Int) (m4_5:(Vc Int 8)),f=upd (upd (upd (upd (upd (upd fR 3 (.pointer (some ⟨g1,0,none⟩))) 5 (.pointer (some ⟨g2,0,none⟩))) 6 (.pointer (some ⟨g3,0,none⟩))) 7 (.pointer (some ⟨g4,0,none⟩))) 12 (.pointer (some ⟨g5,0,none⟩))) 13 (.int .i64 x13_5)∧S=sput (sput (sput (sput (sput s0 0 (some (Ck.var 74 g1 ((en (Value.int .u32) a0.1.1++[Value.int .u64 a0.2]))))) 1 (some (Ck.var 69 g2 (en (Value.int .u32) a2.1)))) 2 (some (Ck.var 74 g3 ((en (Value.int .u32) (vrep 8 (0:Int)).1++[Value.int .u64 (0:Int)]))))) 3 (some (Ck.var 69 g4 (en (Value.int .u32) m3_2.1)))) 4 (some (Ck.var 71 g5 (en (Value.int .u32) m4_5.1)))∧shadowboxref03_Block.lo5 a2 m3_2 (shadowboxref03_Block.jo3 k a0) kk x13_5 m4_5=some r) k ?_ ?_ ?_
  ·exact ⟨_,(0:Int),a0.1,fr_next (fr_next (fr_next (fr_next (fr_next (fr_next (rfl) (by kernel_rfl)) (by kernel_rfl)) (by kernel_rfl)) (by kernel_rfl)) (by kernel_rfl)) (by kernel_rfl),rfl,H⟩
  ·rintro f S ⟨fr5,x13_5,m4_5,rfl,rfl,H⟩; cases H
  rintro k5 f S ⟨fr5,x13_5,m4_5,rfl,rfl,H⟩
  replace H:((if x13_5<(64:Int) then (shadowboxref03_Block.jo6 a2 m3_2 x13_5 m4_5 k5 (shadowboxref03_Block.lo5 a2 m3_2 (shadowboxref03_Block.jo3 k a0) k5)) else (shadowboxref03_Block.jo3 k a0) m4_5))=some r := H
  refine cs_cut (fun f S=>∃ (fR:Fr),f=upd (upd (upd (upd (upd (upd fR 3 (.pointer (some ⟨g1,0,none⟩))) 5 (.pointer (some ⟨g2,0,none⟩))) 6 (.pointer (some ⟨g3,0,none⟩))) 7 (.pointer (some ⟨g4,0,none⟩))) 12 (.pointer (some ⟨g5,0,none⟩))) 13 (.int .i64 x13_5)∧S=sput (sput (sput (sput (sput s0 0 (some (Ck.var 74 g1 ((en (Value.int .u32) a0.1.1++[Value.int .u64 a0.2]))))) 1 (some (Ck.var 69 g2 (en (Value.int .u32) a2.1)))) 2 (some (Ck.var 74 g3 ((en (Value.int .u32) (vrep 8 (0:Int)).1++[Value.int .u64 (0:Int)]))))) 3 (some (Ck.var 69 g4 (en (Value.int .u32) m3_2.1)))) 4 (some (Ck.var 71 g5 (en (Value.int .u32) m4_5.1)))∧shadowboxref03_Block.jo6 a2 m3_2 x13_5 m4_5 k5 (shadowboxref03_Block.lo5 a2 m3_2 (shadowboxref03_Block.jo3 k a0) k5)=some r) ?_ ?_
  ·skip
   refine cs_seq ?_
   refine cs_region (l:=[_,_]) ?_
   refine lv (.int .i64 x13_5) ?_
   refine lv (.bool (decide (x13_5<(64:Int)))) ?_
   refine ls_end ?_
   refine qn_then ?_
   by_cases q98:x13_5<(64:Int)
   ·replace H := ite_t q98 H
    refine cs_know (c:=true) (dec_t q98) 103 (by kernel_rfl) ?_
    refine cs_true (by kernel_rfl) ?_
    refine cs_skip' ?_
    refine qn_meet (sput (sput (sput (sput (sput s0 0 (some (Ck.var 74 g1 ((en (Value.int .u32) a0.1.1++[Value.int .u64 a0.2]))))) 1 (some (Ck.var 69 g2 (en (Value.int .u32) a2.1)))) 2 (some (Ck.var 74 g3 ((en (Value.int .u32) (vrep 8 (0:Int)).1++[Value.int .u64 (0:Int)]))))) 3 (some (Ck.var 69 g4 (en (Value.int .u32) m3_2.1)))) 4 (some (Ck.var 71 g5 (en (Value.int .u32) m4_5.1)))) ⟨_,fr_next (fr_next (fr_next (fr_next (fr_next (fr_next (rfl) (by kernel_rfl)) (by kernel_rfl)) (by kernel_rfl)) (by kernel_rfl)) (by kernel_rfl)) (by kernel_rfl),rfl,H⟩ (sub_put (by exact rfl) (sub_put (by exact rfl) (sub_put (by exact rfl) (sub_put (by exact rfl) (sub_put (by exact rfl) (sub_nil _))))))
   replace H := ite_f q98 H
   refine cs_know (c:=false) (dec_f q98) 103 (by kernel_rfl) ?_
   refine cs_false (by kernel_rfl) ?_
   refine cs_exit' ?_
   refine qx_then ?_
   refine qx_then ?_
   refine qx_same ?_
   refine qn_meet (sput (sput (sput s0 0 (some (Ck.var 74 g1 ((en (Value.int .u32) a0.1.1++[Value.int .u64 a0.2]))))) 2 (some (Ck.var 74 g3 ((en (Value.int .u32) (vrep 8 (0:Int)).1++[Value.int .u64 (0:Int)]))))) 4 (some (Ck.var 71 g5 (en (Value.int .u32) m4_5.1)))) ⟨_,m4_5,fr_next (fr_next (fr_next (rfl) (by kernel_rfl)) (by kernel_rfl)) (by kernel_rfl),rfl,H⟩ (sub_put (by exact rfl) (sub_put (by exact rfl) (sub_put (by exact rfl) (sub_nil _))))
  rintro f S ⟨fr6,rfl,rfl,H⟩
  replace H:((if (4:Int)<(8:Int) then lt ((m4_5.1.getD ((4:Int)).toNat (0:Int))) fun y15=>(if (0:Int)<(8:Int) then lt ((m4_5.1.getD ((0:Int)).toNat (0:Int))) fun y18=>(if (7:Int)<(8:Int) then lt ((m4_5.1.getD ((7:Int)).toNat (0:Int))) fun y23=>(shadowboxref03_rotr.f k5 y15 (6:Int)).bind fun t25=>(shadowboxref03_rotr.f k5 y15 (11:Int)).bind fun t28=>(shadowboxref03_rotr.f k5 y15 (25:Int)).bind fun t31=>lt (bits .xor .u32 (bits .xor .u32 t25 t28) t31) fun y34=>(if (5:Int)<(8:Int) then lt ((m4_5.1.getD ((5:Int)).toNat (0:Int))) fun y37=>lt (IntKind.wrap .u32 ((4294967295:Int) - y15)) fun y39=>(if (6:Int)<(8:Int) then lt ((m4_5.1.getD ((6:Int)).toNat (0:Int))) fun y42=>lt (bits .xor .u32 (bits .and .u32 y15 y37) (bits .and .u32 y39 y42)) fun y44=>lt (IntKind.wrap .u32 ((IntKind.wrap .u32 (y23+y34))+y44)) fun y46=>(if 0≤x13_5 then (if x13_5<(64:Int) then lt (IntKind.wrap .u32 (y46+(a2.1.getD (x13_5).toNat (0:Int)))) fun y50=>lt (IntKind.wrap .u32 (y50+(m3_2.1.getD (x13_5).toNat (0:Int)))) fun y52=>(shadowboxref03_rotr.f k5 y18 (2:Int)).bind fun t56=>(shadowboxref03_rotr.f k5 y18 (13:Int)).bind fun t59=>(shadowboxref03_rotr.f k5 y18 (22:Int)).bind fun t62=>lt (bits .xor .u32 (bits .xor .u32 t56 t59) t62) fun y65=>(if (1:Int)<(8:Int) then lt ((m4_5.1.getD ((1:Int)).toNat (0:Int))) fun y68=>(if (2:Int)<(8:Int) then lt ((m4_5.1.getD ((2:Int)).toNat (0:Int))) fun y71=>lt (bits .xor .u32 (bits .and .u32 y18 y68) (bits .and .u32 y18 y71)) fun y73=>lt ((m4_5.1.getD ((1:Int)).toNat (0:Int))) fun y75=>lt ((m4_5.1.getD ((2:Int)).toNat (0:Int))) fun y77=>lt (bits .xor .u32 y73 (bits .and .u32 y75 y77)) fun y79=>lt (IntKind.wrap .u32 (y52+(IntKind.wrap .u32 (y65+y79)))) fun y81=>lt ((m4_5.1.getD ((0:Int)).toNat (0:Int))) fun y83=>lt ((m4_5.1.getD ((1:Int)).toNat (0:Int))) fun y85=>lt ((m4_5.1.getD ((2:Int)).toNat (0:Int))) fun y87=>(if (3:Int)<(8:Int) then lt ((m4_5.1.getD ((3:Int)).toNat (0:Int))) fun y90=>lt ((m4_5.1.getD ((4:Int)).toNat (0:Int))) fun y92=>lt ((m4_5.1.getD ((5:Int)).toNat (0:Int))) fun y94=>lt ((m4_5.1.getD ((6:Int)).toNat (0:Int))) fun y96=>(shadowboxref03_Block.lo5 a2 m3_2 (shadowboxref03_Block.jo3 k a0) k5) (IntKind.wrap .i64 (x13_5+(1:Int))) (⟨[y81,y83,y85,y87,IntKind.wrap .u32 (y90+y52),y92,y94,y96],rfl⟩:(Vc Int 8)) else none) else none) else none) else none) else none) else none) else none) else none) else none) else none))=some r := H
  refine cs_seq ?_
  refine cs_block ?_
  refine cs_seq ?_
  refine cs_region (l:=[_,_,_]) ?_
  obtain ⟨q14,H⟩ := ite_need H
  refine ls_idxa1 (g:=g5) (off:=0) (i:=(4:Int)) (kk:=.i64) (ln:=8) (e:=23) rfl rfl (by kernel_rfl) rfl (by kernel_rfl) (by kernel_rfl) (by kernel_rfl) (by kernel_rfl) (by decide) q14 ?_
  obtain ⟨y15,hy16,H⟩ := lt_some H
  refine ls_load (a0:=⟨g5,(0+((4:Int)).toNat),none⟩) (v:=.int .u32 (m4_5.1.getD ((4:Int)).toNat (0:Int))) (de:=(TypeDesc.int .u32)) rfl rfl (by kernel_rfl) rfl (by kernel_rfl) (by kernel_rfl) (by kernel_rfl) (fun w hs=>(hs.var (k:=4) (by exact rfl) (Sub4.trans (Sub4.all _) (Sub4.one (i:=((4:Int)).toNat) (Value.int .u32) m4_5.1 0 (by have := m4_5.2; omega))))) ?_
  refine ls_ren 107 (v:=.int .u32 (m4_5.1.getD ((4:Int)).toNat (0:Int))) (v' := .int .u32 y15) (by kernel_rfl) (by rw [hy16]) ?_
  refine lv (.int .u32 y15) ?_
  refine ls_end ?_
  refine qn_then ?_
  refine cs_seq ?_
  refine cs_region (l:=[_,_,_]) ?_
  obtain ⟨q17,H⟩ := ite_need H
  refine ls_idxa1 (g:=g5) (off:=0) (i:=(0:Int)) (kk:=.i64) (ln:=8) (e:=23) rfl rfl (by kernel_rfl) rfl (by kernel_rfl) (by kernel_rfl) (by kernel_rfl) (by kernel_rfl) (by decide) q17 ?_
  obtain ⟨y18,hy19,H⟩ := lt_some H
  refine ls_load (a0:=⟨g5,(0+((0:Int)).toNat),none⟩) (v:=.int .u32 (m4_5.1.getD ((0:Int)).toNat (0:Int))) (de:=(TypeDesc.int .u32)) rfl rfl (by kernel_rfl) rfl (by kernel_rfl) (by kernel_rfl) (by kernel_rfl) (fun w hs=>(hs.var (k:=4) (by exact rfl) (Sub4.trans (Sub4.all _) (Sub4.one (i:=((0:Int)).toNat) (Value.int .u32) m4_5.1 0 (by have := m4_5.2; omega))))) ?_
  refine ls_ren 109 (v:=.int .u32 (m4_5.1.getD ((0:Int)).toNat (0:Int))) (v' := .int .u32 y18) (by kernel_rfl) (by rw [hy19]) ?_
  refine lv (.int .u32 y18) ?_
  refine ls_end ?_
  refine qn_then ?_
  refine cs_seq ?_
  obtain ⟨q22,H⟩ := ite_need H
  obtain ⟨s21_0,hs21_0⟩ := exv (.pointer (some ⟨g5,(0+((7:Int)).toNat),none⟩))
  refine have_opa shadowboxref03_Block.tab19 5 0 (fun sp=>sp 0=s21_0) (fun sp on hA hon=>?_) (fun ops21_0=>?_)
  ·refine ⟨fun o ho vs Rs f' S' w hp hf hx hS hR hs=>?_⟩
   obtain rfl := Option.some.inj ho
   rw [hA,hs21_0]
   refine wn hon ?_
   have hF := fr_next (rfl) ((hx 12 (by kernel_rfl)).trans (by kernel_rfl:(_:Value)=.pointer (some ⟨g5,0,none⟩)))
   refine ls_fr hF ?_
   refine ls_idxa1 (g:=g5) (off:=0) (i:=(7:Int)) (kk:=.i64) (ln:=8) (e:=23) rfl rfl (by kernel_rfl) rfl (by kernel_rfl) (by kernel_rfl) (by kernel_rfl) (by kernel_rfl) (by decide) q22 ?_
   exact ls_fin s0 _ (congrArg (fun z=>upd z 110 _) hF.symm) ⟨rfl,rfl⟩ (sub_nil _)
  obtain ⟨y23,hy24,H⟩ := lt_some H
  obtain ⟨s21_1,hs21_1⟩ := exv (.int .u32 y23)
  refine have_opa shadowboxref03_Block.tab19 5 1 (fun sp=>sp 1=s21_1∧sp 0=s21_0) (fun sp on hA hon=>?_) (fun ops21_1=>?_)
  ·refine ⟨fun o ho vs Rs f' S' w hp hf hx hS hR hs=>?_⟩
   obtain rfl := Option.some.inj ho
   obtain ⟨hv0,hR0⟩ := (spe hA.2 hs21_0 (hp 0 (by kernel_rfl)))
   rw [hA.1,hs21_1]
   refine wn hon ?_
   have hF := fr_next (rfl) ((hf 0 110 (by kernel_rfl) rfl).trans hv0)
   refine ls_fr hF ?_
   refine ls_load (a0:=⟨g5,(0+((7:Int)).toNat),none⟩) (v:=.int .u32 (m4_5.1.getD ((7:Int)).toNat (0:Int))) (de:=(TypeDesc.int .u32)) rfl rfl (by kernel_rfl) rfl (by kernel_rfl) (by kernel_rfl) (by kernel_rfl) (fun w1 hs1=>cell_step hs1.below.bw (hs.var (k:=4) ((hS 4 (by kernel_rfl)).trans (by exact rfl)) (Sub4.trans (Sub4.all _) (Sub4.one (i:=((7:Int)).toNat) (Value.int .u32) m4_5.1 0 (by have := m4_5.2; omega))))) ?_
   refine ls_ren 111 (v:=.int .u32 (m4_5.1.getD ((7:Int)).toNat (0:Int))) (v' := .int .u32 y23) (by kernel_rfl) (by rw [hy24]) ?_
   exact ls_fin s0 _ ((upd_upd _ _ _ _).trans (congrArg (fun z=>upd z 111 _) hF.symm)) ⟨rfl,rfl⟩ (sub_nil _)
  obtain ⟨s21_2,hs21_2⟩ := exv (.int .u32 y15)
  refine have_opa shadowboxref03_Block.tab19 5 2 (fun sp=>sp 2=s21_2) (fun sp on hA hon=>?_) (fun ops21_2=>?_)
  ·refine ⟨fun o ho vs Rs f' S' w hp hf hx hS hR hs=>?_⟩
   obtain rfl := Option.some.inj ho
   exact opv (.int .u32 y15) hA hs21_2 hon (fr_next (rfl) ((hx 14 (by kernel_rfl)).trans (by kernel_rfl:(_:Value)=.int .u32 y15)))
  obtain ⟨t25,hc26,H⟩ := bind_some H
  obtain ⟨s21_3,hs21_3⟩:∃ z:Value→Sto→Prop,z=(fun v R=>∃ x27:Unit,v=.int .u32 t25∧R=stl []) := ⟨_,rfl⟩
  refine have_opa shadowboxref03_Block.tab19 5 3 (fun sp=>sp 3=s21_3∧sp 2=s21_2) (fun sp on hA hon=>?_) (fun ops21_3=>?_)
  ·refine ⟨fun o ho vs Rs f' S' w hp hf hx hS hR hs=>?_⟩
   obtain rfl := Option.some.inj ho
   obtain ⟨hv2,hR2⟩ := (spe hA.2 hs21_2 (hp 2 (by kernel_rfl)))
   rw [hA.1,hs21_3]
   refine wn hon ?_
   have hF := fr_next (rfl) ((hf 2 112 (by kernel_rfl) rfl).trans hv2)
   refine ls_fr hF ?_
   refine ls_call (fid:=57) (vals:=#[.int .u32 y15,.int .u64 (6:Int)]) (X:=Unit) (fun x=>.int .u32 t25) (fun x=>stl []) 0 rfl rfl (by kernel_rfl) (fun w=>by kernel_rfl) (fun w1 hs1=>shadowboxref03_rotr.calls k5 y15 (6:Int) t25 (bw w1) (St.refl w1)  hc26) ?_
   intro x27
   exact ls_fin (stl []) (.int .u32 t25) (congrArg (fun z=>upd z 113 _) hF.symm) ⟨x27,rfl,rfl⟩ (sub_join _)
  obtain ⟨s21_4,hs21_4⟩ := exv (.int .u32 y15)
  refine have_opa shadowboxref03_Block.tab19 5 4 (fun sp=>sp 4=s21_4) (fun sp on hA hon=>?_) (fun ops21_4=>?_)
  ·refine ⟨fun o ho vs Rs f' S' w hp hf hx hS hR hs=>?_⟩
   obtain rfl := Option.some.inj ho
   exact opv (.int .u32 y15) hA hs21_4 hon (fr_next (rfl) ((hx 14 (by kernel_rfl)).trans (by kernel_rfl:(_:Value)=.int .u32 y15)))
  obtain ⟨t28,hc29,H⟩ := bind_some H
  obtain ⟨s21_5,hs21_5⟩:∃ z:Value→Sto→Prop,z=(fun v R=>∃ x30:Unit,v=.int .u32 t28∧R=stl []) := ⟨_,rfl⟩
  refine have_opa shadowboxref03_Block.tab19 5 5 (fun sp=>sp 5=s21_5∧sp 4=s21_4) (fun sp on hA hon=>?_) (fun ops21_5=>?_)
  ·refine ⟨fun o ho vs Rs f' S' w hp hf hx hS hR hs=>?_⟩
   obtain rfl := Option.some.inj ho
   obtain ⟨hv4,hR4⟩ := (spe hA.2 hs21_4 (hp 4 (by kernel_rfl)))
   rw [hA.1,hs21_5]
   refine wn hon ?_
   have hF := fr_next (rfl) ((hf 4 114 (by kernel_rfl) rfl).trans hv4)
   refine ls_fr hF ?_
   refine ls_call (fid:=57) (vals:=#[.int .u32 y15,.int .u64 (11:Int)]) (X:=Unit) (fun x=>.int .u32 t28) (fun x=>stl []) 0 rfl rfl (by kernel_rfl) (fun w=>by kernel_rfl) (fun w1 hs1=>shadowboxref03_rotr.calls k5 y15 (11:Int) t28 (bw w1) (St.refl w1)  hc29) ?_
   intro x30
   exact ls_fin (stl []) (.int .u32 t28) (congrArg (fun z=>upd z 115 _) hF.symm) ⟨x30,rfl,rfl⟩ (sub_join _)
  obtain ⟨s21_6,hs21_6⟩ := exv (.int .u32 (bits .xor .u32 t25 t28))
  refine have_opa shadowboxref03_Block.tab19 5 6 (fun sp=>sp 6=s21_6∧sp 3=s21_3∧sp 5=s21_5) (fun sp on hA hon=>?_) (fun ops21_6=>?_)
  ·refine ⟨fun o ho vs Rs f' S' w hp hf hx hS hR hs=>?_⟩
   obtain rfl := Option.some.inj ho
   obtain ⟨x27,hv3,hR3⟩ := (spe hA.2.1 hs21_3 (hp 3 (by kernel_rfl)))
   obtain ⟨x30,hv5,hR5⟩ := (spe hA.2.2 hs21_5 (hp 5 (by kernel_rfl)))
   exact opv (.int .u32 (bits .xor .u32 t25 t28)) hA.1 hs21_6 hon (fr_next (fr_next (rfl) ((hf 3 113 (by kernel_rfl) rfl).trans hv3)) ((hf 5 115 (by kernel_rfl) rfl).trans hv5))
  obtain ⟨s21_7,hs21_7⟩ := exv (.int .u32 y15)
  refine have_opa shadowboxref03_Block.tab19 5 7 (fun sp=>sp 7=s21_7) (fun sp on hA hon=>?_) (fun ops21_7=>?_)
  ·refine ⟨fun o ho vs Rs f' S' w hp hf hx hS hR hs=>?_⟩
   obtain rfl := Option.some.inj ho
   exact opv (.int .u32 y15) hA hs21_7 hon (fr_next (rfl) ((hx 14 (by kernel_rfl)).trans (by kernel_rfl:(_:Value)=.int .u32 y15)))
  obtain ⟨t31,hc32,H⟩ := bind_some H
  obtain ⟨s21_8,hs21_8⟩:∃ z:Value→Sto→Prop,z=(fun v R=>∃ x33:Unit,v=.int .u32 t31∧R=stl []) := ⟨_,rfl⟩
  refine have_opa shadowboxref03_Block.tab19 5 8 (fun sp=>sp 8=s21_8∧sp 7=s21_7) (fun sp on hA hon=>?_) (fun ops21_8=>?_)
  ·refine ⟨fun o ho vs Rs f' S' w hp hf hx hS hR hs=>?_⟩
   obtain rfl := Option.some.inj ho
   obtain ⟨hv7,hR7⟩ := (spe hA.2 hs21_7 (hp 7 (by kernel_rfl)))
   rw [hA.1,hs21_8]
   refine wn hon ?_
   have hF := fr_next (rfl) ((hf 7 117 (by kernel_rfl) rfl).trans hv7)
   refine ls_fr hF ?_
   refine ls_call (fid:=57) (vals:=#[.int .u32 y15,.int .u64 (25:Int)]) (X:=Unit) (fun x=>.int .u32 t31) (fun x=>stl []) 0 rfl rfl (by kernel_rfl) (fun w=>by kernel_rfl) (fun w1 hs1=>shadowboxref03_rotr.calls k5 y15 (25:Int) t31 (bw w1) (St.refl w1)  hc32) ?_
   intro x33
   exact ls_fin (stl []) (.int .u32 t31) (congrArg (fun z=>upd z 118 _) hF.symm) ⟨x33,rfl,rfl⟩ (sub_join _)
  obtain ⟨y34,hy35,H⟩ := lt_some H
  obtain ⟨s21_9,hs21_9⟩ := exv (.int .u32 y34)
  refine have_opa shadowboxref03_Block.tab19 5 9 (fun sp=>sp 9=s21_9∧sp 6=s21_6∧sp 8=s21_8) (fun sp on hA hon=>?_) (fun ops21_9=>?_)
  ·refine ⟨fun o ho vs Rs f' S' w hp hf hx hS hR hs=>?_⟩
   obtain rfl := Option.some.inj ho
   obtain ⟨hv6,hR6⟩ := (spe hA.2.1 hs21_6 (hp 6 (by kernel_rfl)))
   obtain ⟨x33,hv8,hR8⟩ := (spe hA.2.2 hs21_8 (hp 8 (by kernel_rfl)))
   rw [hA.1,hs21_9]
   refine wn hon ?_
   have hF := fr_next (fr_next (rfl) ((hf 6 116 (by kernel_rfl) rfl).trans hv6)) ((hf 8 118 (by kernel_rfl) rfl).trans hv8)
   refine ls_fr hF ?_
   refine lv (.int .u32 (bits .xor .u32 (bits .xor .u32 t25 t28) t31)) ?_
   refine ls_ren 119 (v:=.int .u32 (bits .xor .u32 (bits .xor .u32 t25 t28) t31)) (v' := .int .u32 y34) (by kernel_rfl) (by rw [hy35]) ?_
   exact ls_fin s0 _ ((upd_upd _ _ _ _).trans (congrArg (fun z=>upd z 119 _) hF.symm)) ⟨rfl,rfl⟩ (sub_nil _)
  obtain ⟨s21_10,hs21_10⟩ := exv (.int .u32 (IntKind.wrap .u32 (y23+y34)))
  refine have_opa shadowboxref03_Block.tab19 5 10 (fun sp=>sp 10=s21_10∧sp 1=s21_1∧sp 9=s21_9) (fun sp on hA hon=>?_) (fun ops21_10=>?_)
  ·refine ⟨fun o ho vs Rs f' S' w hp hf hx hS hR hs=>?_⟩
   obtain rfl := Option.some.inj ho
   obtain ⟨hv1,hR1⟩ := (spe hA.2.1 hs21_1 (hp 1 (by kernel_rfl)))
   obtain ⟨hv9,hR9⟩ := (spe hA.2.2 hs21_9 (hp 9 (by kernel_rfl)))
   exact opv (.int .u32 (IntKind.wrap .u32 (y23+y34))) hA.1 hs21_10 hon (fr_next (fr_next (rfl) ((hf 1 111 (by kernel_rfl) rfl).trans hv1)) ((hf 9 119 (by kernel_rfl) rfl).trans hv9))
  obtain ⟨s21_11,hs21_11⟩ := exv (.int .u32 y15)
  refine have_opa shadowboxref03_Block.tab19 5 11 (fun sp=>sp 11=s21_11) (fun sp on hA hon=>?_) (fun ops21_11=>?_)
  ·refine ⟨fun o ho vs Rs f' S' w hp hf hx hS hR hs=>?_⟩
   obtain rfl := Option.some.inj ho
   exact opv (.int .u32 y15) hA hs21_11 hon (fr_next (rfl) ((hx 14 (by kernel_rfl)).trans (by kernel_rfl:(_:Value)=.int .u32 y15)))
  obtain ⟨q36,H⟩ := ite_need H
  obtain ⟨s21_12,hs21_12⟩ := exv (.pointer (some ⟨g5,(0+((5:Int)).toNat),none⟩))
  refine have_opa shadowboxref03_Block.tab19 5 12 (fun sp=>sp 12=s21_12) (fun sp on hA hon=>?_) (fun ops21_12=>?_)
  ·refine ⟨fun o ho vs Rs f' S' w hp hf hx hS hR hs=>?_⟩
   obtain rfl := Option.some.inj ho
   rw [hA,hs21_12]
   refine wn hon ?_
   have hF := fr_next (rfl) ((hx 12 (by kernel_rfl)).trans (by kernel_rfl:(_:Value)=.pointer (some ⟨g5,0,none⟩)))
   refine ls_fr hF ?_
   refine ls_idxa1 (g:=g5) (off:=0) (i:=(5:Int)) (kk:=.i64) (ln:=8) (e:=23) rfl rfl (by kernel_rfl) rfl (by kernel_rfl) (by kernel_rfl) (by kernel_rfl) (by kernel_rfl) (by decide) q36 ?_
   exact ls_fin s0 _ (congrArg (fun z=>upd z 122 _) hF.symm) ⟨rfl,rfl⟩ (sub_nil _)
  obtain ⟨y37,hy38,H⟩ := lt_some H
  obtain ⟨s21_13,hs21_13⟩ := exv (.int .u32 y37)
  refine have_opa shadowboxref03_Block.tab19 5 13 (fun sp=>sp 13=s21_13∧sp 12=s21_12) (fun sp on hA hon=>?_) (fun ops21_13=>?_)
  ·refine ⟨fun o ho vs Rs f' S' w hp hf hx hS hR hs=>?_⟩
   obtain rfl := Option.some.inj ho
   obtain ⟨hv12,hR12⟩ := (spe hA.2 hs21_12 (hp 12 (by kernel_rfl)))
   rw [hA.1,hs21_13]
   refine wn hon ?_
   have hF := fr_next (rfl) ((hf 12 122 (by kernel_rfl) rfl).trans hv12)
   refine ls_fr hF ?_
   refine ls_load (a0:=⟨g5,(0+((5:Int)).toNat),none⟩) (v:=.int .u32 (m4_5.1.getD ((5:Int)).toNat (0:Int))) (de:=(TypeDesc.int .u32)) rfl rfl (by kernel_rfl) rfl (by kernel_rfl) (by kernel_rfl) (by kernel_rfl) (fun w1 hs1=>cell_step hs1.below.bw (hs.var (k:=4) ((hS 4 (by kernel_rfl)).trans (by exact rfl)) (Sub4.trans (Sub4.all _) (Sub4.one (i:=((5:Int)).toNat) (Value.int .u32) m4_5.1 0 (by have := m4_5.2; omega))))) ?_
   refine ls_ren 123 (v:=.int .u32 (m4_5.1.getD ((5:Int)).toNat (0:Int))) (v' := .int .u32 y37) (by kernel_rfl) (by rw [hy38]) ?_
   exact ls_fin s0 _ ((upd_upd _ _ _ _).trans (congrArg (fun z=>upd z 123 _) hF.symm)) ⟨rfl,rfl⟩ (sub_nil _)
  obtain ⟨s21_14,hs21_14⟩ := exv (.int .u32 (bits .and .u32 y15 y37))
  refine have_opa shadowboxref03_Block.tab19 5 14 (fun sp=>sp 14=s21_14∧sp 11=s21_11∧sp 13=s21_13) (fun sp on hA hon=>?_) (fun ops21_14=>?_)
  ·refine ⟨fun o ho vs Rs f' S' w hp hf hx hS hR hs=>?_⟩
   obtain rfl := Option.some.inj ho
   obtain ⟨hv11,hR11⟩ := (spe hA.2.1 hs21_11 (hp 11 (by kernel_rfl)))
   obtain ⟨hv13,hR13⟩ := (spe hA.2.2 hs21_13 (hp 13 (by kernel_rfl)))
   exact opv (.int .u32 (bits .and .u32 y15 y37)) hA.1 hs21_14 hon (fr_next (fr_next (rfl) ((hf 11 121 (by kernel_rfl) rfl).trans hv11)) ((hf 13 123 (by kernel_rfl) rfl).trans hv13))
  obtain ⟨s21_15,hs21_15⟩ := exv (.int .u32 y15)
  refine have_opa shadowboxref03_Block.tab19 5 15 (fun sp=>sp 15=s21_15) (fun sp on hA hon=>?_) (fun ops21_15=>?_)
  ·refine ⟨fun o ho vs Rs f' S' w hp hf hx hS hR hs=>?_⟩
   obtain rfl := Option.some.inj ho
   exact opv (.int .u32 y15) hA hs21_15 hon (fr_next (rfl) ((hx 14 (by kernel_rfl)).trans (by kernel_rfl:(_:Value)=.int .u32 y15)))
  obtain ⟨y39,hy40,H⟩ := lt_some H
  obtain ⟨s21_16,hs21_16⟩ := exv (.int .u32 y39)
  refine have_opa shadowboxref03_Block.tab19 5 16 (fun sp=>sp 16=s21_16∧sp 15=s21_15) (fun sp on hA hon=>?_) (fun ops21_16=>?_)
  ·refine ⟨fun o ho vs Rs f' S' w hp hf hx hS hR hs=>?_⟩
   obtain rfl := Option.some.inj ho
   obtain ⟨hv15,hR15⟩ := (spe hA.2 hs21_15 (hp 15 (by kernel_rfl)))
   rw [hA.1,hs21_16]
   refine wn hon ?_
   have hF := fr_next (rfl) ((hf 15 125 (by kernel_rfl) rfl).trans hv15)
   refine ls_fr hF ?_
   refine lv (.int .u32 (IntKind.wrap .u32 ((4294967295:Int) - y15))) ?_
   refine ls_ren 126 (v:=.int .u32 (IntKind.wrap .u32 ((4294967295:Int) - y15))) (v' := .int .u32 y39) (by kernel_rfl) (by rw [hy40]) ?_
   exact ls_fin s0 _ ((upd_upd _ _ _ _).trans (congrArg (fun z=>upd z 126 _) hF.symm)) ⟨rfl,rfl⟩ (sub_nil _)
  obtain ⟨q41,H⟩ := ite_need H
  obtain ⟨s21_17,hs21_17⟩ := exv (.pointer (some ⟨g5,(0+((6:Int)).toNat),none⟩))
  refine have_opa shadowboxref03_Block.tab19 5 17 (fun sp=>sp 17=s21_17) (fun sp on hA hon=>?_) (fun ops21_17=>?_)
  ·refine ⟨fun o ho vs Rs f' S' w hp hf hx hS hR hs=>?_⟩
   obtain rfl := Option.some.inj ho
   rw [hA,hs21_17]
   refine wn hon ?_
   have hF := fr_next (rfl) ((hx 12 (by kernel_rfl)).trans (by kernel_rfl:(_:Value)=.pointer (some ⟨g5,0,none⟩)))
   refine ls_fr hF ?_
   refine ls_idxa1 (g:=g5) (off:=0) (i:=(6:Int)) (kk:=.i64) (ln:=8) (e:=23) rfl rfl (by kernel_rfl) rfl (by kernel_rfl) (by kernel_rfl) (by kernel_rfl) (by kernel_rfl) (by decide) q41 ?_
   exact ls_fin s0 _ (congrArg (fun z=>upd z 127 _) hF.symm) ⟨rfl,rfl⟩ (sub_nil _)
  obtain ⟨y42,hy43,H⟩ := lt_some H
  obtain ⟨s21_18,hs21_18⟩ := exv (.int .u32 y42)
  refine have_opa shadowboxref03_Block.tab19 5 18 (fun sp=>sp 18=s21_18∧sp 17=s21_17) (fun sp on hA hon=>?_) (fun ops21_18=>?_)
  ·refine ⟨fun o ho vs Rs f' S' w hp hf hx hS hR hs=>?_⟩
   obtain rfl := Option.some.inj ho
   obtain ⟨hv17,hR17⟩ := (spe hA.2 hs21_17 (hp 17 (by kernel_rfl)))
   rw [hA.1,hs21_18]
   refine wn hon ?_
   have hF := fr_next (rfl) ((hf 17 127 (by kernel_rfl) rfl).trans hv17)
   refine ls_fr hF ?_
   refine ls_load (a0:=⟨g5,(0+((6:Int)).toNat),none⟩) (v:=.int .u32 (m4_5.1.getD ((6:Int)).toNat (0:Int))) (de:=(TypeDesc.int .u32)) rfl rfl (by kernel_rfl) rfl (by kernel_rfl) (by kernel_rfl) (by kernel_rfl) (fun w1 hs1=>cell_step hs1.below.bw (hs.var (k:=4) ((hS 4 (by kernel_rfl)).trans (by exact rfl)) (Sub4.trans (Sub4.all _) (Sub4.one (i:=((6:Int)).toNat) (Value.int .u32) m4_5.1 0 (by have := m4_5.2; omega))))) ?_
   refine ls_ren 128 (v:=.int .u32 (m4_5.1.getD ((6:Int)).toNat (0:Int))) (v' := .int .u32 y42) (by kernel_rfl) (by rw [hy43]) ?_
   exact ls_fin s0 _ ((upd_upd _ _ _ _).trans (congrArg (fun z=>upd z 128 _) hF.symm)) ⟨rfl,rfl⟩ (sub_nil _)
  obtain ⟨s21_19,hs21_19⟩ := exv (.int .u32 (bits .and .u32 y39 y42))
  refine have_opa shadowboxref03_Block.tab19 5 19 (fun sp=>sp 19=s21_19∧sp 16=s21_16∧sp 18=s21_18) (fun sp on hA hon=>?_) (fun ops21_19=>?_)
  ·refine ⟨fun o ho vs Rs f' S' w hp hf hx hS hR hs=>?_⟩
   obtain rfl := Option.some.inj ho
   obtain ⟨hv16,hR16⟩ := (spe hA.2.1 hs21_16 (hp 16 (by kernel_rfl)))
   obtain ⟨hv18,hR18⟩ := (spe hA.2.2 hs21_18 (hp 18 (by kernel_rfl)))
   exact opv (.int .u32 (bits .and .u32 y39 y42)) hA.1 hs21_19 hon (fr_next (fr_next (rfl) ((hf 16 126 (by kernel_rfl) rfl).trans hv16)) ((hf 18 128 (by kernel_rfl) rfl).trans hv18))
  obtain ⟨y44,hy45,H⟩ := lt_some H
  obtain ⟨s21_20,hs21_20⟩ := exv (.int .u32 y44)
  refine have_opa shadowboxref03_Block.tab19 5 20 (fun sp=>sp 20=s21_20∧sp 14=s21_14∧sp 19=s21_19) (fun sp on hA hon=>?_) (fun ops21_20=>?_)
  ·refine ⟨fun o ho vs Rs f' S' w hp hf hx hS hR hs=>?_⟩
   obtain rfl := Option.some.inj ho
   obtain ⟨hv14,hR14⟩ := (spe hA.2.1 hs21_14 (hp 14 (by kernel_rfl)))
   obtain ⟨hv19,hR19⟩ := (spe hA.2.2 hs21_19 (hp 19 (by kernel_rfl)))
   rw [hA.1,hs21_20]
   refine wn hon ?_
   have hF := fr_next (fr_next (rfl) ((hf 14 124 (by kernel_rfl) rfl).trans hv14)) ((hf 19 129 (by kernel_rfl) rfl).trans hv19)
   refine ls_fr hF ?_
   refine lv (.int .u32 (bits .xor .u32 (bits .and .u32 y15 y37) (bits .and .u32 y39 y42))) ?_
   refine ls_ren 130 (v:=.int .u32 (bits .xor .u32 (bits .and .u32 y15 y37) (bits .and .u32 y39 y42))) (v' := .int .u32 y44) (by kernel_rfl) (by rw [hy45]) ?_
   exact ls_fin s0 _ ((upd_upd _ _ _ _).trans (congrArg (fun z=>upd z 130 _) hF.symm)) ⟨rfl,rfl⟩ (sub_nil _)
  obtain ⟨y46,hy47,H⟩ := lt_some H
  obtain ⟨s21_21,hs21_21⟩ := exv (.int .u32 y46)
  refine have_opa shadowboxref03_Block.tab19 5 21 (fun sp=>sp 21=s21_21∧sp 10=s21_10∧sp 20=s21_20) (fun sp on hA hon=>?_) (fun ops21_21=>?_)
  ·refine ⟨fun o ho vs Rs f' S' w hp hf hx hS hR hs=>?_⟩
   obtain rfl := Option.some.inj ho
   obtain ⟨hv10,hR10⟩ := (spe hA.2.1 hs21_10 (hp 10 (by kernel_rfl)))
   obtain ⟨hv20,hR20⟩ := (spe hA.2.2 hs21_20 (hp 20 (by kernel_rfl)))
   rw [hA.1,hs21_21]
   refine wn hon ?_
   have hF := fr_next (fr_next (rfl) ((hf 10 120 (by kernel_rfl) rfl).trans hv10)) ((hf 20 130 (by kernel_rfl) rfl).trans hv20)
   refine ls_fr hF ?_
   refine lv (.int .u32 (IntKind.wrap .u32 ((IntKind.wrap .u32 (y23+y34))+y44))) ?_
   refine ls_ren 131 (v:=.int .u32 (IntKind.wrap .u32 ((IntKind.wrap .u32 (y23+y34))+y44))) (v' := .int .u32 y46) (by kernel_rfl) (by rw [hy47]) ?_
   exact ls_fin s0 _ ((upd_upd _ _ _ _).trans (congrArg (fun z=>upd z 131 _) hF.symm)) ⟨rfl,rfl⟩ (sub_nil _)
  obtain ⟨s21_22,hs21_22⟩ := exv (.int .i64 x13_5)
  refine have_opa shadowboxref03_Block.tab19 5 22 (fun sp=>sp 22=s21_22) (fun sp on hA hon=>?_) (fun ops21_22=>?_)
  ·refine ⟨fun o ho vs Rs f' S' w hp hf hx hS hR hs=>?_⟩
   obtain rfl := Option.some.inj ho
   exact opv (.int .i64 x13_5) hA hs21_22 hon (fr_next (rfl) ((hx 13 (by kernel_rfl)).trans (by kernel_rfl:(_:Value)=.int .i64 x13_5)))
  obtain ⟨q48,H⟩ := ite_need H
  obtain ⟨q49,H⟩ := ite_need H
  obtain ⟨s21_23,hs21_23⟩ := exv (.pointer (some ⟨g2,(0+(x13_5).toNat),none⟩))
  refine have_opa shadowboxref03_Block.tab19 5 23 (fun sp=>sp 23=s21_23∧sp 22=s21_22) (fun sp on hA hon=>?_) (fun ops21_23=>?_)
  ·refine ⟨fun o ho vs Rs f' S' w hp hf hx hS hR hs=>?_⟩
   obtain rfl := Option.some.inj ho
   obtain ⟨hv22,hR22⟩ := (spe hA.2 hs21_22 (hp 22 (by kernel_rfl)))
   rw [hA.1,hs21_23]
   refine wn hon ?_
   have hF := fr_next (fr_next (rfl) ((hx 5 (by kernel_rfl)).trans (by kernel_rfl:(_:Value)=.pointer (some ⟨g2,0,none⟩)))) ((hf 22 132 (by kernel_rfl) rfl).trans hv22)
   refine ls_fr hF ?_
   refine ls_idxa1 (g:=g2) (off:=0) (i:=x13_5) (kk:=.i64) (ln:=64) (e:=23) rfl rfl (by kernel_rfl) rfl (by kernel_rfl) (by kernel_rfl) (by kernel_rfl) (by kernel_rfl) q48 q49 ?_
   exact ls_fin s0 _ (congrArg (fun z=>upd z 133 _) hF.symm) ⟨rfl,rfl⟩ (sub_nil _)
  obtain ⟨s21_24,hs21_24⟩ := exv (.int .u32 (a2.1.getD (x13_5).toNat (0:Int)))
  refine have_opa shadowboxref03_Block.tab19 5 24 (fun sp=>sp 24=s21_24∧sp 23=s21_23) (fun sp on hA hon=>?_) (fun ops21_24=>?_)
  ·refine ⟨fun o ho vs Rs f' S' w hp hf hx hS hR hs=>?_⟩
   obtain rfl := Option.some.inj ho
   obtain ⟨hv23,hR23⟩ := (spe hA.2 hs21_23 (hp 23 (by kernel_rfl)))
   rw [hA.1,hs21_24]
   refine wn hon ?_
   have hF := fr_next (rfl) ((hf 23 133 (by kernel_rfl) rfl).trans hv23)
   refine ls_fr hF ?_
   refine ls_load (a0:=⟨g2,(0+(x13_5).toNat),none⟩) (v:=.int .u32 (a2.1.getD (x13_5).toNat (0:Int))) (de:=(TypeDesc.int .u32)) rfl rfl (by kernel_rfl) rfl (by kernel_rfl) (by kernel_rfl) (by kernel_rfl) (fun w1 hs1=>cell_step hs1.below.bw (hs.var (k:=1) ((hS 1 (by kernel_rfl)).trans (by exact rfl)) (Sub4.trans (Sub4.all _) (Sub4.one (i:=(x13_5).toNat) (Value.int .u32) a2.1 0 (by have := a2.2; omega))))) ?_
   exact ls_fin s0 _ (congrArg (fun z=>upd z 134 _) hF.symm) ⟨rfl,rfl⟩ (sub_nil _)
  obtain ⟨y50,hy51,H⟩ := lt_some H
  obtain ⟨s21_25,hs21_25⟩ := exv (.int .u32 y50)
  refine have_opa shadowboxref03_Block.tab19 5 25 (fun sp=>sp 25=s21_25∧sp 21=s21_21∧sp 24=s21_24) (fun sp on hA hon=>?_) (fun ops21_25=>?_)
  ·refine ⟨fun o ho vs Rs f' S' w hp hf hx hS hR hs=>?_⟩
   obtain rfl := Option.some.inj ho
   obtain ⟨hv21,hR21⟩ := (spe hA.2.1 hs21_21 (hp 21 (by kernel_rfl)))
   obtain ⟨hv24,hR24⟩ := (spe hA.2.2 hs21_24 (hp 24 (by kernel_rfl)))
   rw [hA.1,hs21_25]
   refine wn hon ?_
   have hF := fr_next (fr_next (rfl) ((hf 21 131 (by kernel_rfl) rfl).trans hv21)) ((hf 24 134 (by kernel_rfl) rfl).trans hv24)
   refine ls_fr hF ?_
   refine lv (.int .u32 (IntKind.wrap .u32 (y46+(a2.1.getD (x13_5).toNat (0:Int))))) ?_
   refine ls_ren 135 (v:=.int .u32 (IntKind.wrap .u32 (y46+(a2.1.getD (x13_5).toNat (0:Int))))) (v' := .int .u32 y50) (by kernel_rfl) (by rw [hy51]) ?_
   exact ls_fin s0 _ ((upd_upd _ _ _ _).trans (congrArg (fun z=>upd z 135 _) hF.symm)) ⟨rfl,rfl⟩ (sub_nil _)
  obtain ⟨s21_26,hs21_26⟩ := exv (.int .i64 x13_5)
  refine have_opa shadowboxref03_Block.tab19 5 26 (fun sp=>sp 26=s21_26) (fun sp on hA hon=>?_) (fun ops21_26=>?_)
  ·refine ⟨fun o ho vs Rs f' S' w hp hf hx hS hR hs=>?_⟩
   obtain rfl := Option.some.inj ho
   exact opv (.int .i64 x13_5) hA hs21_26 hon (fr_next (rfl) ((hx 13 (by kernel_rfl)).trans (by kernel_rfl:(_:Value)=.int .i64 x13_5)))
  obtain ⟨s21_27,hs21_27⟩ := exv (.pointer (some ⟨g4,(0+(x13_5).toNat),none⟩))
  refine have_opa shadowboxref03_Block.tab19 5 27 (fun sp=>sp 27=s21_27∧sp 26=s21_26) (fun sp on hA hon=>?_) (fun ops21_27=>?_)
  ·refine ⟨fun o ho vs Rs f' S' w hp hf hx hS hR hs=>?_⟩
   obtain rfl := Option.some.inj ho
   obtain ⟨hv26,hR26⟩ := (spe hA.2 hs21_26 (hp 26 (by kernel_rfl)))
   rw [hA.1,hs21_27]
   refine wn hon ?_
   have hF := fr_next (fr_next (rfl) ((hx 7 (by kernel_rfl)).trans (by kernel_rfl:(_:Value)=.pointer (some ⟨g4,0,none⟩)))) ((hf 26 136 (by kernel_rfl) rfl).trans hv26)
   refine ls_fr hF ?_
   refine ls_idxa1 (g:=g4) (off:=0) (i:=x13_5) (kk:=.i64) (ln:=64) (e:=23) rfl rfl (by kernel_rfl) rfl (by kernel_rfl) (by kernel_rfl) (by kernel_rfl) (by kernel_rfl) q48 q49 ?_
   exact ls_fin s0 _ (congrArg (fun z=>upd z 137 _) hF.symm) ⟨rfl,rfl⟩ (sub_nil _)
  obtain ⟨s21_28,hs21_28⟩ := exv (.int .u32 (m3_2.1.getD (x13_5).toNat (0:Int)))
  refine have_opa shadowboxref03_Block.tab19 5 28 (fun sp=>sp 28=s21_28∧sp 27=s21_27) (fun sp on hA hon=>?_) (fun ops21_28=>?_)
  ·refine ⟨fun o ho vs Rs f' S' w hp hf hx hS hR hs=>?_⟩
   obtain rfl := Option.some.inj ho
   obtain ⟨hv27,hR27⟩ := (spe hA.2 hs21_27 (hp 27 (by kernel_rfl)))
   rw [hA.1,hs21_28]
   refine wn hon ?_
   have hF := fr_next (rfl) ((hf 27 137 (by kernel_rfl) rfl).trans hv27)
   refine ls_fr hF ?_
   refine ls_load (a0:=⟨g4,(0+(x13_5).toNat),none⟩) (v:=.int .u32 (m3_2.1.getD (x13_5).toNat (0:Int))) (de:=(TypeDesc.int .u32)) rfl rfl (by kernel_rfl) rfl (by kernel_rfl) (by kernel_rfl) (by kernel_rfl) (fun w1 hs1=>cell_step hs1.below.bw (hs.var (k:=3) ((hS 3 (by kernel_rfl)).trans (by exact rfl)) (Sub4.trans (Sub4.all _) (Sub4.one (i:=(x13_5).toNat) (Value.int .u32) m3_2.1 0 (by have := m3_2.2; omega))))) ?_
   exact ls_fin s0 _ (congrArg (fun z=>upd z 138 _) hF.symm) ⟨rfl,rfl⟩ (sub_nil _)
  refine cs_draw shadowboxref03_Block.tab19 29 5 (spl [s21_0,s21_1,s21_2,s21_3,s21_4,s21_5,s21_6,s21_7,s21_8,s21_9,s21_10,s21_11,s21_12,s21_13,s21_14,s21_15,s21_16,s21_17,s21_18,s21_19,s21_20,s21_21,s21_22,s21_23,s21_24,s21_25,s21_26,s21_27,s21_28]) (onl [true,true,true,true,true,true,true,true,true,true,true,true,true,true,true,true,true,true,true,true,true,true,true,true,true,true,true,true,true]) (by kernel_rfl) (by kernel_rfl) (by kernel_rfl) (by kernel_rfl) (rs:=[_,_]) rfl (by kernel_rfl) (by kernel_rfl) (all_snoc (all_snoc (all_snoc (all_snoc (all_snoc (all_snoc (all_snoc (all_snoc (all_snoc (all_snoc (all_snoc (all_snoc (all_snoc (all_snoc (all_snoc (all_snoc (all_snoc (all_snoc (all_snoc (all_snoc (all_snoc (all_snoc (all_snoc (all_snoc (all_snoc (all_snoc (all_snoc (all_snoc (all_snoc (all_nil) (ops21_0 _ _ rfl rfl)) (ops21_1 _ _ ⟨rfl,rfl⟩ rfl)) (ops21_2 _ _ rfl rfl)) (ops21_3 _ _ ⟨rfl,rfl⟩ rfl)) (ops21_4 _ _ rfl rfl)) (ops21_5 _ _ ⟨rfl,rfl⟩ rfl)) (ops21_6 _ _ ⟨rfl,rfl,rfl⟩ rfl)) (ops21_7 _ _ rfl rfl)) (ops21_8 _ _ ⟨rfl,rfl⟩ rfl)) (ops21_9 _ _ ⟨rfl,rfl,rfl⟩ rfl)) (ops21_10 _ _ ⟨rfl,rfl,rfl⟩ rfl)) (ops21_11 _ _ rfl rfl)) (ops21_12 _ _ rfl rfl)) (ops21_13 _ _ ⟨rfl,rfl⟩ rfl)) (ops21_14 _ _ ⟨rfl,rfl,rfl⟩ rfl)) (ops21_15 _ _ rfl rfl)) (ops21_16 _ _ ⟨rfl,rfl⟩ rfl)) (ops21_17 _ _ rfl rfl)) (ops21_18 _ _ ⟨rfl,rfl⟩ rfl)) (ops21_19 _ _ ⟨rfl,rfl,rfl⟩ rfl)) (ops21_20 _ _ ⟨rfl,rfl,rfl⟩ rfl)) (ops21_21 _ _ ⟨rfl,rfl,rfl⟩ rfl)) (ops21_22 _ _ rfl rfl)) (ops21_23 _ _ ⟨rfl,rfl⟩ rfl)) (ops21_24 _ _ ⟨rfl,rfl⟩ rfl)) (ops21_25 _ _ ⟨rfl,rfl,rfl⟩ rfl)) (ops21_26 _ _ rfl rfl)) (ops21_27 _ _ ⟨rfl,rfl⟩ rfl)) (ops21_28 _ _ ⟨rfl,rfl⟩ rfl)) ?_
  intro vs Rs f' S' hp hf hx hS hR
  obtain ⟨x27,hv3,hR3⟩ := (spe rfl hs21_3 (hp 3 (by kernel_rfl)))
  obtain ⟨x30,hv5,hR5⟩ := (spe rfl hs21_5 (hp 5 (by kernel_rfl)))
  obtain ⟨x33,hv8,hR8⟩ := (spe rfl hs21_8 (hp 8 (by kernel_rfl)))
  obtain ⟨hv25,hR25⟩ := (spe rfl hs21_25 (hp 25 (by kernel_rfl)))
  obtain ⟨hv28,hR28⟩ := (spe rfl hs21_28 (hp 28 (by kernel_rfl)))
  refine ls_fr (F:=upd (upd (upd (upd (upd (upd (upd (upd (upd f' 3 (.pointer (some ⟨g1,0,none⟩))) 5 (.pointer (some ⟨g2,0,none⟩))) 6 (.pointer (some ⟨g3,0,none⟩))) 7 (.pointer (some ⟨g4,0,none⟩))) 12 (.pointer (some ⟨g5,0,none⟩))) 13 (.int .i64 x13_5)) 15 (.int .u32 y18)) 135 (.int .u32 y50)) 138 (.int .u32 (m3_2.1.getD (x13_5).toNat (0:Int)))) (fr_next (fr_next (fr_next (fr_next (fr_next (fr_next (fr_next (fr_next (fr_next (rfl) ((hx 3 (by kernel_rfl)).trans (by kernel_rfl:(_:Value)=.pointer (some ⟨g1,0,none⟩)))) ((hx 5 (by kernel_rfl)).trans (by kernel_rfl:(_:Value)=.pointer (some ⟨g2,0,none⟩)))) ((hx 6 (by kernel_rfl)).trans (by kernel_rfl:(_:Value)=.pointer (some ⟨g3,0,none⟩)))) ((hx 7 (by kernel_rfl)).trans (by kernel_rfl:(_:Value)=.pointer (some ⟨g4,0,none⟩)))) ((hx 12 (by kernel_rfl)).trans (by kernel_rfl:(_:Value)=.pointer (some ⟨g5,0,none⟩)))) ((hx 13 (by kernel_rfl)).trans (by kernel_rfl:(_:Value)=.int .i64 x13_5))) ((hx 15 (by kernel_rfl)).trans (by kernel_rfl:(_:Value)=.int .u32 y18))) ((hf 25 135 (by kernel_rfl) rfl).trans hv25)) ((hf 28 138 (by kernel_rfl) rfl).trans hv28)) ?_
  refine ls_sub (sput (sput (sput (sput (sput s0 0 (some (Ck.var 74 g1 ((en (Value.int .u32) a0.1.1++[Value.int .u64 a0.2]))))) 1 (some (Ck.var 69 g2 (en (Value.int .u32) a2.1)))) 2 (some (Ck.var 74 g3 ((en (Value.int .u32) (vrep 8 (0:Int)).1++[Value.int .u64 (0:Int)]))))) 3 (some (Ck.var 69 g4 (en (Value.int .u32) m3_2.1)))) 4 (some (Ck.var 71 g5 (en (Value.int .u32) m4_5.1)))) (sub_put ((hS 4 (by kernel_rfl)).trans (by exact rfl)) (sub_put ((hS 3 (by kernel_rfl)).trans (by exact rfl)) (sub_put ((hS 2 (by kernel_rfl)).trans (by exact rfl)) (sub_put ((hS 1 (by kernel_rfl)).trans (by exact rfl)) (sub_put ((hS 0 (by kernel_rfl)).trans (by exact rfl)) (sub_nil _)))))) ?_
  obtain ⟨y52,hy53,H⟩ := lt_some H
  refine lv (.int .u32 (IntKind.wrap .u32 (y50+(m3_2.1.getD (x13_5).toNat (0:Int))))) ?_
  refine ls_ren 139 (v:=.int .u32 (IntKind.wrap .u32 (y50+(m3_2.1.getD (x13_5).toNat (0:Int))))) (v' := .int .u32 y52) (by kernel_rfl) (by rw [hy53]) ?_
  refine lv (.int .u32 y52) ?_
  refine ls_end ?_
  refine qn_then ?_
  refine cs_seq ?_
  obtain ⟨s55_0,hs55_0⟩ := exv (.int .u32 y18)
  refine have_opa shadowboxref03_Block.tab53 237 0 (fun sp=>sp 0=s55_0) (fun sp on hA hon=>?_) (fun ops55_0=>?_)
  ·refine ⟨fun o ho vs Rs f' S' w hp hf hx hS hR hs=>?_⟩
   obtain rfl := Option.some.inj ho
   exact opv (.int .u32 y18) hA hs55_0 hon (fr_next (rfl) ((hx 15 (by kernel_rfl)).trans (by kernel_rfl:(_:Value)=.int .u32 y18)))
  obtain ⟨t56,hc57,H⟩ := bind_some H
  obtain ⟨s55_1,hs55_1⟩:∃ z:Value→Sto→Prop,z=(fun v R=>∃ x58:Unit,v=.int .u32 t56∧R=stl []) := ⟨_,rfl⟩
  refine have_opa shadowboxref03_Block.tab53 237 1 (fun sp=>sp 1=s55_1∧sp 0=s55_0) (fun sp on hA hon=>?_) (fun ops55_1=>?_)
  ·refine ⟨fun o ho vs Rs f' S' w hp hf hx hS hR hs=>?_⟩
   obtain rfl := Option.some.inj ho
   obtain ⟨hv0,hR0⟩ := (spe hA.2 hs55_0 (hp 0 (by kernel_rfl)))
   rw [hA.1,hs55_1]
   refine wn hon ?_
   have hF := fr_next (rfl) ((hf 0 140 (by kernel_rfl) rfl).trans hv0)
   refine ls_fr hF ?_
   refine ls_call (fid:=57) (vals:=#[.int .u32 y18,.int .u64 (2:Int)]) (X:=Unit) (fun x=>.int .u32 t56) (fun x=>stl []) 0 rfl rfl (by kernel_rfl) (fun w=>by kernel_rfl) (fun w1 hs1=>shadowboxref03_rotr.calls k5 y18 (2:Int) t56 (bw w1) (St.refl w1)  hc57) ?_
   intro x58
   exact ls_fin (stl []) (.int .u32 t56) (congrArg (fun z=>upd z 141 _) hF.symm) ⟨x58,rfl,rfl⟩ (sub_join _)
  obtain ⟨s55_2,hs55_2⟩ := exv (.int .u32 y18)
  refine have_opa shadowboxref03_Block.tab53 237 2 (fun sp=>sp 2=s55_2) (fun sp on hA hon=>?_) (fun ops55_2=>?_)
  ·refine ⟨fun o ho vs Rs f' S' w hp hf hx hS hR hs=>?_⟩
   obtain rfl := Option.some.inj ho
   exact opv (.int .u32 y18) hA hs55_2 hon (fr_next (rfl) ((hx 15 (by kernel_rfl)).trans (by kernel_rfl:(_:Value)=.int .u32 y18)))
  obtain ⟨t59,hc60,H⟩ := bind_some H
  obtain ⟨s55_3,hs55_3⟩:∃ z:Value→Sto→Prop,z=(fun v R=>∃ x61:Unit,v=.int .u32 t59∧R=stl []) := ⟨_,rfl⟩
  refine have_opa shadowboxref03_Block.tab53 237 3 (fun sp=>sp 3=s55_3∧sp 2=s55_2) (fun sp on hA hon=>?_) (fun ops55_3=>?_)
  ·refine ⟨fun o ho vs Rs f' S' w hp hf hx hS hR hs=>?_⟩
   obtain rfl := Option.some.inj ho
   obtain ⟨hv2,hR2⟩ := (spe hA.2 hs55_2 (hp 2 (by kernel_rfl)))
   rw [hA.1,hs55_3]
   refine wn hon ?_
   have hF := fr_next (rfl) ((hf 2 142 (by kernel_rfl) rfl).trans hv2)
   refine ls_fr hF ?_
   refine ls_call (fid:=57) (vals:=#[.int .u32 y18,.int .u64 (13:Int)]) (X:=Unit) (fun x=>.int .u32 t59) (fun x=>stl []) 0 rfl rfl (by kernel_rfl) (fun w=>by kernel_rfl) (fun w1 hs1=>shadowboxref03_rotr.calls k5 y18 (13:Int) t59 (bw w1) (St.refl w1)  hc60) ?_
   intro x61
   exact ls_fin (stl []) (.int .u32 t59) (congrArg (fun z=>upd z 143 _) hF.symm) ⟨x61,rfl,rfl⟩ (sub_join _)
  obtain ⟨s55_4,hs55_4⟩ := exv (.int .u32 (bits .xor .u32 t56 t59))
  refine have_opa shadowboxref03_Block.tab53 237 4 (fun sp=>sp 4=s55_4∧sp 1=s55_1∧sp 3=s55_3) (fun sp on hA hon=>?_) (fun ops55_4=>?_)
  ·refine ⟨fun o ho vs Rs f' S' w hp hf hx hS hR hs=>?_⟩
   obtain rfl := Option.some.inj ho
   obtain ⟨x58,hv1,hR1⟩ := (spe hA.2.1 hs55_1 (hp 1 (by kernel_rfl)))
   obtain ⟨x61,hv3,hR3⟩ := (spe hA.2.2 hs55_3 (hp 3 (by kernel_rfl)))
   exact opv (.int .u32 (bits .xor .u32 t56 t59)) hA.1 hs55_4 hon (fr_next (fr_next (rfl) ((hf 1 141 (by kernel_rfl) rfl).trans hv1)) ((hf 3 143 (by kernel_rfl) rfl).trans hv3))
  obtain ⟨s55_5,hs55_5⟩ := exv (.int .u32 y18)
  refine have_opa shadowboxref03_Block.tab53 237 5 (fun sp=>sp 5=s55_5) (fun sp on hA hon=>?_) (fun ops55_5=>?_)
  ·refine ⟨fun o ho vs Rs f' S' w hp hf hx hS hR hs=>?_⟩
   obtain rfl := Option.some.inj ho
   exact opv (.int .u32 y18) hA hs55_5 hon (fr_next (rfl) ((hx 15 (by kernel_rfl)).trans (by kernel_rfl:(_:Value)=.int .u32 y18)))
  obtain ⟨t62,hc63,H⟩ := bind_some H
  obtain ⟨s55_6,hs55_6⟩:∃ z:Value→Sto→Prop,z=(fun v R=>∃ x64:Unit,v=.int .u32 t62∧R=stl []) := ⟨_,rfl⟩
  refine have_opa shadowboxref03_Block.tab53 237 6 (fun sp=>sp 6=s55_6∧sp 5=s55_5) (fun sp on hA hon=>?_) (fun ops55_6=>?_)
  ·refine ⟨fun o ho vs Rs f' S' w hp hf hx hS hR hs=>?_⟩
   obtain rfl := Option.some.inj ho
   obtain ⟨hv5,hR5⟩ := (spe hA.2 hs55_5 (hp 5 (by kernel_rfl)))
   rw [hA.1,hs55_6]
   refine wn hon ?_
   have hF := fr_next (rfl) ((hf 5 145 (by kernel_rfl) rfl).trans hv5)
   refine ls_fr hF ?_
   refine ls_call (fid:=57) (vals:=#[.int .u32 y18,.int .u64 (22:Int)]) (X:=Unit) (fun x=>.int .u32 t62) (fun x=>stl []) 0 rfl rfl (by kernel_rfl) (fun w=>by kernel_rfl) (fun w1 hs1=>shadowboxref03_rotr.calls k5 y18 (22:Int) t62 (bw w1) (St.refl w1)  hc63) ?_
   intro x64
   exact ls_fin (stl []) (.int .u32 t62) (congrArg (fun z=>upd z 146 _) hF.symm) ⟨x64,rfl,rfl⟩ (sub_join _)
  obtain ⟨y65,hy66,H⟩ := lt_some H
  obtain ⟨s55_7,hs55_7⟩ := exv (.int .u32 y65)
  refine have_opa shadowboxref03_Block.tab53 237 7 (fun sp=>sp 7=s55_7∧sp 4=s55_4∧sp 6=s55_6) (fun sp on hA hon=>?_) (fun ops55_7=>?_)
  ·refine ⟨fun o ho vs Rs f' S' w hp hf hx hS hR hs=>?_⟩
   obtain rfl := Option.some.inj ho
   obtain ⟨hv4,hR4⟩ := (spe hA.2.1 hs55_4 (hp 4 (by kernel_rfl)))
   obtain ⟨x64,hv6,hR6⟩ := (spe hA.2.2 hs55_6 (hp 6 (by kernel_rfl)))
   rw [hA.1,hs55_7]
   refine wn hon ?_
   have hF := fr_next (fr_next (rfl) ((hf 4 144 (by kernel_rfl) rfl).trans hv4)) ((hf 6 146 (by kernel_rfl) rfl).trans hv6)
   refine ls_fr hF ?_
   refine lv (.int .u32 (bits .xor .u32 (bits .xor .u32 t56 t59) t62)) ?_
   refine ls_ren 147 (v:=.int .u32 (bits .xor .u32 (bits .xor .u32 t56 t59) t62)) (v' := .int .u32 y65) (by kernel_rfl) (by rw [hy66]) ?_
   exact ls_fin s0 _ ((upd_upd _ _ _ _).trans (congrArg (fun z=>upd z 147 _) hF.symm)) ⟨rfl,rfl⟩ (sub_nil _)
  obtain ⟨s55_8,hs55_8⟩ := exv (.int .u32 y18)
  refine have_opa shadowboxref03_Block.tab53 237 8 (fun sp=>sp 8=s55_8) (fun sp on hA hon=>?_) (fun ops55_8=>?_)
  ·refine ⟨fun o ho vs Rs f' S' w hp hf hx hS hR hs=>?_⟩
   obtain rfl := Option.some.inj ho
   exact opv (.int .u32 y18) hA hs55_8 hon (fr_next (rfl) ((hx 15 (by kernel_rfl)).trans (by kernel_rfl:(_:Value)=.int .u32 y18)))
  obtain ⟨q67,H⟩ := ite_need H
  obtain ⟨s55_9,hs55_9⟩ := exv (.pointer (some ⟨g5,(0+((1:Int)).toNat),none⟩))
  refine have_opa shadowboxref03_Block.tab53 237 9 (fun sp=>sp 9=s55_9) (fun sp on hA hon=>?_) (fun ops55_9=>?_)
  ·refine ⟨fun o ho vs Rs f' S' w hp hf hx hS hR hs=>?_⟩
   obtain rfl := Option.some.inj ho
   rw [hA,hs55_9]
   refine wn hon ?_
   have hF := fr_next (rfl) ((hx 12 (by kernel_rfl)).trans (by kernel_rfl:(_:Value)=.pointer (some ⟨g5,0,none⟩)))
   refine ls_fr hF ?_
   refine ls_idxa1 (g:=g5) (off:=0) (i:=(1:Int)) (kk:=.i64) (ln:=8) (e:=23) rfl rfl (by kernel_rfl) rfl (by kernel_rfl) (by kernel_rfl) (by kernel_rfl) (by kernel_rfl) (by decide) q67 ?_
   exact ls_fin s0 _ (congrArg (fun z=>upd z 149 _) hF.symm) ⟨rfl,rfl⟩ (sub_nil _)
  obtain ⟨y68,hy69,H⟩ := lt_some H
  obtain ⟨s55_10,hs55_10⟩ := exv (.int .u32 y68)
  refine have_opa shadowboxref03_Block.tab53 237 10 (fun sp=>sp 10=s55_10∧sp 9=s55_9) (fun sp on hA hon=>?_) (fun ops55_10=>?_)
  ·refine ⟨fun o ho vs Rs f' S' w hp hf hx hS hR hs=>?_⟩
   obtain rfl := Option.some.inj ho
   obtain ⟨hv9,hR9⟩ := (spe hA.2 hs55_9 (hp 9 (by kernel_rfl)))
   rw [hA.1,hs55_10]
   refine wn hon ?_
   have hF := fr_next (rfl) ((hf 9 149 (by kernel_rfl) rfl).trans hv9)
   refine ls_fr hF ?_
   refine ls_load (a0:=⟨g5,(0+((1:Int)).toNat),none⟩) (v:=.int .u32 (m4_5.1.getD ((1:Int)).toNat (0:Int))) (de:=(TypeDesc.int .u32)) rfl rfl (by kernel_rfl) rfl (by kernel_rfl) (by kernel_rfl) (by kernel_rfl) (fun w1 hs1=>cell_step hs1.below.bw (hs.var (k:=4) ((hS 4 (by kernel_rfl)).trans (by exact rfl)) (Sub4.trans (Sub4.all _) (Sub4.one (i:=((1:Int)).toNat) (Value.int .u32) m4_5.1 0 (by have := m4_5.2; omega))))) ?_
   refine ls_ren 150 (v:=.int .u32 (m4_5.1.getD ((1:Int)).toNat (0:Int))) (v' := .int .u32 y68) (by kernel_rfl) (by rw [hy69]) ?_
   exact ls_fin s0 _ ((upd_upd _ _ _ _).trans (congrArg (fun z=>upd z 150 _) hF.symm)) ⟨rfl,rfl⟩ (sub_nil _)
  obtain ⟨s55_11,hs55_11⟩ := exv (.int .u32 (bits .and .u32 y18 y68))
  refine have_opa shadowboxref03_Block.tab53 237 11 (fun sp=>sp 11=s55_11∧sp 8=s55_8∧sp 10=s55_10) (fun sp on hA hon=>?_) (fun ops55_11=>?_)
  ·refine ⟨fun o ho vs Rs f' S' w hp hf hx hS hR hs=>?_⟩
   obtain rfl := Option.some.inj ho
   obtain ⟨hv8,hR8⟩ := (spe hA.2.1 hs55_8 (hp 8 (by kernel_rfl)))
   obtain ⟨hv10,hR10⟩ := (spe hA.2.2 hs55_10 (hp 10 (by kernel_rfl)))
   exact opv (.int .u32 (bits .and .u32 y18 y68)) hA.1 hs55_11 hon (fr_next (fr_next (rfl) ((hf 8 148 (by kernel_rfl) rfl).trans hv8)) ((hf 10 150 (by kernel_rfl) rfl).trans hv10))
  obtain ⟨s55_12,hs55_12⟩ := exv (.int .u32 y18)
  refine have_opa shadowboxref03_Block.tab53 237 12 (fun sp=>sp 12=s55_12) (fun sp on hA hon=>?_) (fun ops55_12=>?_)
  ·refine ⟨fun o ho vs Rs f' S' w hp hf hx hS hR hs=>?_⟩
   obtain rfl := Option.some.inj ho
   exact opv (.int .u32 y18) hA hs55_12 hon (fr_next (rfl) ((hx 15 (by kernel_rfl)).trans (by kernel_rfl:(_:Value)=.int .u32 y18)))
  obtain ⟨q70,H⟩ := ite_need H
  obtain ⟨s55_13,hs55_13⟩ := exv (.pointer (some ⟨g5,(0+((2:Int)).toNat),none⟩))
  refine have_opa shadowboxref03_Block.tab53 237 13 (fun sp=>sp 13=s55_13) (fun sp on hA hon=>?_) (fun ops55_13=>?_)
  ·refine ⟨fun o ho vs Rs f' S' w hp hf hx hS hR hs=>?_⟩
   obtain rfl := Option.some.inj ho
   rw [hA,hs55_13]
   refine wn hon ?_
   have hF := fr_next (rfl) ((hx 12 (by kernel_rfl)).trans (by kernel_rfl:(_:Value)=.pointer (some ⟨g5,0,none⟩)))
   refine ls_fr hF ?_
   refine ls_idxa1 (g:=g5) (off:=0) (i:=(2:Int)) (kk:=.i64) (ln:=8) (e:=23) rfl rfl (by kernel_rfl) rfl (by kernel_rfl) (by kernel_rfl) (by kernel_rfl) (by kernel_rfl) (by decide) q70 ?_
   exact ls_fin s0 _ (congrArg (fun z=>upd z 153 _) hF.symm) ⟨rfl,rfl⟩ (sub_nil _)
  obtain ⟨y71,hy72,H⟩ := lt_some H
  obtain ⟨s55_14,hs55_14⟩ := exv (.int .u32 y71)
  refine have_opa shadowboxref03_Block.tab53 237 14 (fun sp=>sp 14=s55_14∧sp 13=s55_13) (fun sp on hA hon=>?_) (fun ops55_14=>?_)
  ·refine ⟨fun o ho vs Rs f' S' w hp hf hx hS hR hs=>?_⟩
   obtain rfl := Option.some.inj ho
   obtain ⟨hv13,hR13⟩ := (spe hA.2 hs55_13 (hp 13 (by kernel_rfl)))
   rw [hA.1,hs55_14]
   refine wn hon ?_
   have hF := fr_next (rfl) ((hf 13 153 (by kernel_rfl) rfl).trans hv13)
   refine ls_fr hF ?_
   refine ls_load (a0:=⟨g5,(0+((2:Int)).toNat),none⟩) (v:=.int .u32 (m4_5.1.getD ((2:Int)).toNat (0:Int))) (de:=(TypeDesc.int .u32)) rfl rfl (by kernel_rfl) rfl (by kernel_rfl) (by kernel_rfl) (by kernel_rfl) (fun w1 hs1=>cell_step hs1.below.bw (hs.var (k:=4) ((hS 4 (by kernel_rfl)).trans (by exact rfl)) (Sub4.trans (Sub4.all _) (Sub4.one (i:=((2:Int)).toNat) (Value.int .u32) m4_5.1 0 (by have := m4_5.2; omega))))) ?_
   refine ls_ren 154 (v:=.int .u32 (m4_5.1.getD ((2:Int)).toNat (0:Int))) (v' := .int .u32 y71) (by kernel_rfl) (by rw [hy72]) ?_
   exact ls_fin s0 _ ((upd_upd _ _ _ _).trans (congrArg (fun z=>upd z 154 _) hF.symm)) ⟨rfl,rfl⟩ (sub_nil _)
  obtain ⟨s55_15,hs55_15⟩ := exv (.int .u32 (bits .and .u32 y18 y71))
  refine have_opa shadowboxref03_Block.tab53 237 15 (fun sp=>sp 15=s55_15∧sp 12=s55_12∧sp 14=s55_14) (fun sp on hA hon=>?_) (fun ops55_15=>?_)
  ·refine ⟨fun o ho vs Rs f' S' w hp hf hx hS hR hs=>?_⟩
   obtain rfl := Option.some.inj ho
   obtain ⟨hv12,hR12⟩ := (spe hA.2.1 hs55_12 (hp 12 (by kernel_rfl)))
   obtain ⟨hv14,hR14⟩ := (spe hA.2.2 hs55_14 (hp 14 (by kernel_rfl)))
   exact opv (.int .u32 (bits .and .u32 y18 y71)) hA.1 hs55_15 hon (fr_next (fr_next (rfl) ((hf 12 152 (by kernel_rfl) rfl).trans hv12)) ((hf 14 154 (by kernel_rfl) rfl).trans hv14))
  obtain ⟨y73,hy74,H⟩ := lt_some H
  obtain ⟨s55_16,hs55_16⟩ := exv (.int .u32 y73)
  refine have_opa shadowboxref03_Block.tab53 237 16 (fun sp=>sp 16=s55_16∧sp 11=s55_11∧sp 15=s55_15) (fun sp on hA hon=>?_) (fun ops55_16=>?_)
  ·refine ⟨fun o ho vs Rs f' S' w hp hf hx hS hR hs=>?_⟩
   obtain rfl := Option.some.inj ho
   obtain ⟨hv11,hR11⟩ := (spe hA.2.1 hs55_11 (hp 11 (by kernel_rfl)))
   obtain ⟨hv15,hR15⟩ := (spe hA.2.2 hs55_15 (hp 15 (by kernel_rfl)))
   rw [hA.1,hs55_16]
   refine wn hon ?_
   have hF := fr_next (fr_next (rfl) ((hf 11 151 (by kernel_rfl) rfl).trans hv11)) ((hf 15 155 (by kernel_rfl) rfl).trans hv15)
   refine ls_fr hF ?_
   refine lv (.int .u32 (bits .xor .u32 (bits .and .u32 y18 y68) (bits .and .u32 y18 y71))) ?_
   refine ls_ren 156 (v:=.int .u32 (bits .xor .u32 (bits .and .u32 y18 y68) (bits .and .u32 y18 y71))) (v' := .int .u32 y73) (by kernel_rfl) (by rw [hy74]) ?_
   exact ls_fin s0 _ ((upd_upd _ _ _ _).trans (congrArg (fun z=>upd z 156 _) hF.symm)) ⟨rfl,rfl⟩ (sub_nil _)
  obtain ⟨s55_17,hs55_17⟩ := exv (.pointer (some ⟨g5,(0+((1:Int)).toNat),none⟩))
  refine have_opa shadowboxref03_Block.tab53 237 17 (fun sp=>sp 17=s55_17) (fun sp on hA hon=>?_) (fun ops55_17=>?_)
  ·refine ⟨fun o ho vs Rs f' S' w hp hf hx hS hR hs=>?_⟩
   obtain rfl := Option.some.inj ho
   rw [hA,hs55_17]
   refine wn hon ?_
   have hF := fr_next (rfl) ((hx 12 (by kernel_rfl)).trans (by kernel_rfl:(_:Value)=.pointer (some ⟨g5,0,none⟩)))
   refine ls_fr hF ?_
   refine ls_idxa1 (g:=g5) (off:=0) (i:=(1:Int)) (kk:=.i64) (ln:=8) (e:=23) rfl rfl (by kernel_rfl) rfl (by kernel_rfl) (by kernel_rfl) (by kernel_rfl) (by kernel_rfl) (by decide) q67 ?_
   exact ls_fin s0 _ (congrArg (fun z=>upd z 157 _) hF.symm) ⟨rfl,rfl⟩ (sub_nil _)
  obtain ⟨y75,hy76,H⟩ := lt_some H
  obtain ⟨s55_18,hs55_18⟩ := exv (.int .u32 y75)
  refine have_opa shadowboxref03_Block.tab53 237 18 (fun sp=>sp 18=s55_18∧sp 17=s55_17) (fun sp on hA hon=>?_) (fun ops55_18=>?_)
  ·refine ⟨fun o ho vs Rs f' S' w hp hf hx hS hR hs=>?_⟩
   obtain rfl := Option.some.inj ho
   obtain ⟨hv17,hR17⟩ := (spe hA.2 hs55_17 (hp 17 (by kernel_rfl)))
   rw [hA.1,hs55_18]
   refine wn hon ?_
   have hF := fr_next (rfl) ((hf 17 157 (by kernel_rfl) rfl).trans hv17)
   refine ls_fr hF ?_
   refine ls_load (a0:=⟨g5,(0+((1:Int)).toNat),none⟩) (v:=.int .u32 (m4_5.1.getD ((1:Int)).toNat (0:Int))) (de:=(TypeDesc.int .u32)) rfl rfl (by kernel_rfl) rfl (by kernel_rfl) (by kernel_rfl) (by kernel_rfl) (fun w1 hs1=>cell_step hs1.below.bw (hs.var (k:=4) ((hS 4 (by kernel_rfl)).trans (by exact rfl)) (Sub4.trans (Sub4.all _) (Sub4.one (i:=((1:Int)).toNat) (Value.int .u32) m4_5.1 0 (by have := m4_5.2; omega))))) ?_
   refine ls_ren 158 (v:=.int .u32 (m4_5.1.getD ((1:Int)).toNat (0:Int))) (v' := .int .u32 y75) (by kernel_rfl) (by rw [hy76]) ?_
   exact ls_fin s0 _ ((upd_upd _ _ _ _).trans (congrArg (fun z=>upd z 158 _) hF.symm)) ⟨rfl,rfl⟩ (sub_nil _)
  obtain ⟨s55_19,hs55_19⟩ := exv (.pointer (some ⟨g5,(0+((2:Int)).toNat),none⟩))
  refine have_opa shadowboxref03_Block.tab53 237 19 (fun sp=>sp 19=s55_19) (fun sp on hA hon=>?_) (fun ops55_19=>?_)
  ·refine ⟨fun o ho vs Rs f' S' w hp hf hx hS hR hs=>?_⟩
   obtain rfl := Option.some.inj ho
   rw [hA,hs55_19]
   refine wn hon ?_
   have hF := fr_next (rfl) ((hx 12 (by kernel_rfl)).trans (by kernel_rfl:(_:Value)=.pointer (some ⟨g5,0,none⟩)))
   refine ls_fr hF ?_
   refine ls_idxa1 (g:=g5) (off:=0) (i:=(2:Int)) (kk:=.i64) (ln:=8) (e:=23) rfl rfl (by kernel_rfl) rfl (by kernel_rfl) (by kernel_rfl) (by kernel_rfl) (by kernel_rfl) (by decide) q70 ?_
   exact ls_fin s0 _ (congrArg (fun z=>upd z 159 _) hF.symm) ⟨rfl,rfl⟩ (sub_nil _)
  obtain ⟨y77,hy78,H⟩ := lt_some H
  obtain ⟨s55_20,hs55_20⟩ := exv (.int .u32 y77)
  refine have_opa shadowboxref03_Block.tab53 237 20 (fun sp=>sp 20=s55_20∧sp 19=s55_19) (fun sp on hA hon=>?_) (fun ops55_20=>?_)
  ·refine ⟨fun o ho vs Rs f' S' w hp hf hx hS hR hs=>?_⟩
   obtain rfl := Option.some.inj ho
   obtain ⟨hv19,hR19⟩ := (spe hA.2 hs55_19 (hp 19 (by kernel_rfl)))
   rw [hA.1,hs55_20]
   refine wn hon ?_
   have hF := fr_next (rfl) ((hf 19 159 (by kernel_rfl) rfl).trans hv19)
   refine ls_fr hF ?_
   refine ls_load (a0:=⟨g5,(0+((2:Int)).toNat),none⟩) (v:=.int .u32 (m4_5.1.getD ((2:Int)).toNat (0:Int))) (de:=(TypeDesc.int .u32)) rfl rfl (by kernel_rfl) rfl (by kernel_rfl) (by kernel_rfl) (by kernel_rfl) (fun w1 hs1=>cell_step hs1.below.bw (hs.var (k:=4) ((hS 4 (by kernel_rfl)).trans (by exact rfl)) (Sub4.trans (Sub4.all _) (Sub4.one (i:=((2:Int)).toNat) (Value.int .u32) m4_5.1 0 (by have := m4_5.2; omega))))) ?_
   refine ls_ren 160 (v:=.int .u32 (m4_5.1.getD ((2:Int)).toNat (0:Int))) (v' := .int .u32 y77) (by kernel_rfl) (by rw [hy78]) ?_
   exact ls_fin s0 _ ((upd_upd _ _ _ _).trans (congrArg (fun z=>upd z 160 _) hF.symm)) ⟨rfl,rfl⟩ (sub_nil _)
  obtain ⟨s55_21,hs55_21⟩ := exv (.int .u32 (bits .and .u32 y75 y77))
  refine have_opa shadowboxref03_Block.tab53 237 21 (fun sp=>sp 21=s55_21∧sp 18=s55_18∧sp 20=s55_20) (fun sp on hA hon=>?_) (fun ops55_21=>?_)
  ·refine ⟨fun o ho vs Rs f' S' w hp hf hx hS hR hs=>?_⟩
   obtain rfl := Option.some.inj ho
   obtain ⟨hv18,hR18⟩ := (spe hA.2.1 hs55_18 (hp 18 (by kernel_rfl)))
   obtain ⟨hv20,hR20⟩ := (spe hA.2.2 hs55_20 (hp 20 (by kernel_rfl)))
   exact opv (.int .u32 (bits .and .u32 y75 y77)) hA.1 hs55_21 hon (fr_next (fr_next (rfl) ((hf 18 158 (by kernel_rfl) rfl).trans hv18)) ((hf 20 160 (by kernel_rfl) rfl).trans hv20))
  obtain ⟨y79,hy80,H⟩ := lt_some H
  obtain ⟨s55_22,hs55_22⟩ := exv (.int .u32 y79)
  refine have_opa shadowboxref03_Block.tab53 237 22 (fun sp=>sp 22=s55_22∧sp 16=s55_16∧sp 21=s55_21) (fun sp on hA hon=>?_) (fun ops55_22=>?_)
  ·refine ⟨fun o ho vs Rs f' S' w hp hf hx hS hR hs=>?_⟩
   obtain rfl := Option.some.inj ho
   obtain ⟨hv16,hR16⟩ := (spe hA.2.1 hs55_16 (hp 16 (by kernel_rfl)))
   obtain ⟨hv21,hR21⟩ := (spe hA.2.2 hs55_21 (hp 21 (by kernel_rfl)))
   rw [hA.1,hs55_22]
   refine wn hon ?_
   have hF := fr_next (fr_next (rfl) ((hf 16 156 (by kernel_rfl) rfl).trans hv16)) ((hf 21 161 (by kernel_rfl) rfl).trans hv21)
   refine ls_fr hF ?_
   refine lv (.int .u32 (bits .xor .u32 y73 (bits .and .u32 y75 y77))) ?_
   refine ls_ren 162 (v:=.int .u32 (bits .xor .u32 y73 (bits .and .u32 y75 y77))) (v' := .int .u32 y79) (by kernel_rfl) (by rw [hy80]) ?_
   exact ls_fin s0 _ ((upd_upd _ _ _ _).trans (congrArg (fun z=>upd z 162 _) hF.symm)) ⟨rfl,rfl⟩ (sub_nil _)
  refine cs_draw shadowboxref03_Block.tab53 23 237 (spl [s55_0,s55_1,s55_2,s55_3,s55_4,s55_5,s55_6,s55_7,s55_8,s55_9,s55_10,s55_11,s55_12,s55_13,s55_14,s55_15,s55_16,s55_17,s55_18,s55_19,s55_20,s55_21,s55_22]) (onl [true,true,true,true,true,true,true,true,true,true,true,true,true,true,true,true,true,true,true,true,true,true,true]) (by kernel_rfl) (by kernel_rfl) (by kernel_rfl) (by kernel_rfl) (rs:=[_,_]) rfl (by kernel_rfl) (by kernel_rfl) (all_snoc (all_snoc (all_snoc (all_snoc (all_snoc (all_snoc (all_snoc (all_snoc (all_snoc (all_snoc (all_snoc (all_snoc (all_snoc (all_snoc (all_snoc (all_snoc (all_snoc (all_snoc (all_snoc (all_snoc (all_snoc (all_snoc (all_snoc (all_nil) (ops55_0 _ _ rfl rfl)) (ops55_1 _ _ ⟨rfl,rfl⟩ rfl)) (ops55_2 _ _ rfl rfl)) (ops55_3 _ _ ⟨rfl,rfl⟩ rfl)) (ops55_4 _ _ ⟨rfl,rfl,rfl⟩ rfl)) (ops55_5 _ _ rfl rfl)) (ops55_6 _ _ ⟨rfl,rfl⟩ rfl)) (ops55_7 _ _ ⟨rfl,rfl,rfl⟩ rfl)) (ops55_8 _ _ rfl rfl)) (ops55_9 _ _ rfl rfl)) (ops55_10 _ _ ⟨rfl,rfl⟩ rfl)) (ops55_11 _ _ ⟨rfl,rfl,rfl⟩ rfl)) (ops55_12 _ _ rfl rfl)) (ops55_13 _ _ rfl rfl)) (ops55_14 _ _ ⟨rfl,rfl⟩ rfl)) (ops55_15 _ _ ⟨rfl,rfl,rfl⟩ rfl)) (ops55_16 _ _ ⟨rfl,rfl,rfl⟩ rfl)) (ops55_17 _ _ rfl rfl)) (ops55_18 _ _ ⟨rfl,rfl⟩ rfl)) (ops55_19 _ _ rfl rfl)) (ops55_20 _ _ ⟨rfl,rfl⟩ rfl)) (ops55_21 _ _ ⟨rfl,rfl,rfl⟩ rfl)) (ops55_22 _ _ ⟨rfl,rfl,rfl⟩ rfl)) ?_
  intro vs Rs f' S' hp hf hx hS hR
  obtain ⟨x58,hv1,hR1⟩ := (spe rfl hs55_1 (hp 1 (by kernel_rfl)))
  obtain ⟨x61,hv3,hR3⟩ := (spe rfl hs55_3 (hp 3 (by kernel_rfl)))
  obtain ⟨x64,hv6,hR6⟩ := (spe rfl hs55_6 (hp 6 (by kernel_rfl)))
  obtain ⟨hv7,hR7⟩ := (spe rfl hs55_7 (hp 7 (by kernel_rfl)))
  obtain ⟨hv22,hR22⟩ := (spe rfl hs55_22 (hp 22 (by kernel_rfl)))
  refine ls_fr (F:=upd (upd (upd (upd (upd (upd (upd (upd (upd f' 3 (.pointer (some ⟨g1,0,none⟩))) 5 (.pointer (some ⟨g2,0,none⟩))) 6 (.pointer (some ⟨g3,0,none⟩))) 7 (.pointer (some ⟨g4,0,none⟩))) 12 (.pointer (some ⟨g5,0,none⟩))) 13 (.int .i64 x13_5)) 16 (.int .u32 y52)) 147 (.int .u32 y65)) 162 (.int .u32 y79)) (fr_next (fr_next (fr_next (fr_next (fr_next (fr_next (fr_next (fr_next (fr_next (rfl) ((hx 3 (by kernel_rfl)).trans (by kernel_rfl:(_:Value)=.pointer (some ⟨g1,0,none⟩)))) ((hx 5 (by kernel_rfl)).trans (by kernel_rfl:(_:Value)=.pointer (some ⟨g2,0,none⟩)))) ((hx 6 (by kernel_rfl)).trans (by kernel_rfl:(_:Value)=.pointer (some ⟨g3,0,none⟩)))) ((hx 7 (by kernel_rfl)).trans (by kernel_rfl:(_:Value)=.pointer (some ⟨g4,0,none⟩)))) ((hx 12 (by kernel_rfl)).trans (by kernel_rfl:(_:Value)=.pointer (some ⟨g5,0,none⟩)))) ((hx 13 (by kernel_rfl)).trans (by kernel_rfl:(_:Value)=.int .i64 x13_5))) ((hx 16 (by kernel_rfl)).trans (by kernel_rfl:(_:Value)=.int .u32 y52))) ((hf 7 147 (by kernel_rfl) rfl).trans hv7)) ((hf 22 162 (by kernel_rfl) rfl).trans hv22)) ?_
  refine ls_sub (sput (sput (sput (sput (sput s0 0 (some (Ck.var 74 g1 ((en (Value.int .u32) a0.1.1++[Value.int .u64 a0.2]))))) 1 (some (Ck.var 69 g2 (en (Value.int .u32) a2.1)))) 2 (some (Ck.var 74 g3 ((en (Value.int .u32) (vrep 8 (0:Int)).1++[Value.int .u64 (0:Int)]))))) 3 (some (Ck.var 69 g4 (en (Value.int .u32) m3_2.1)))) 4 (some (Ck.var 71 g5 (en (Value.int .u32) m4_5.1)))) (sub_put ((hS 4 (by kernel_rfl)).trans (by exact rfl)) (sub_put ((hS 3 (by kernel_rfl)).trans (by exact rfl)) (sub_put ((hS 2 (by kernel_rfl)).trans (by exact rfl)) (sub_put ((hS 1 (by kernel_rfl)).trans (by exact rfl)) (sub_put ((hS 0 (by kernel_rfl)).trans (by exact rfl)) (sub_nil _)))))) ?_
  refine lv (.int .u32 (IntKind.wrap .u32 (y65+y79))) ?_
  refine lv (.int .u32 (IntKind.wrap .u32 (y65+y79))) ?_
  refine ls_end ?_
  refine qn_then ?_
  refine cs_region (l:=[_,_,_,_,_,_,_,_,_,_,_,_,_,_,_,_,_,_,_,_,_]) ?_
  refine lv (.int .u32 y52) ?_
  refine lv (.int .u32 (IntKind.wrap .u32 (y65+y79))) ?_
  obtain ⟨y81,hy82,H⟩ := lt_some H
  refine lv (.int .u32 (IntKind.wrap .u32 (y52+(IntKind.wrap .u32 (y65+y79))))) ?_
  refine ls_ren 166 (v:=.int .u32 (IntKind.wrap .u32 (y52+(IntKind.wrap .u32 (y65+y79))))) (v' := .int .u32 y81) (by kernel_rfl) (by rw [hy82]) ?_
  refine ls_idxa1 (g:=g5) (off:=0) (i:=(0:Int)) (kk:=.i64) (ln:=8) (e:=23) rfl rfl (by kernel_rfl) rfl (by kernel_rfl) (by kernel_rfl) (by kernel_rfl) (by kernel_rfl) (by decide) q17 ?_
  obtain ⟨y83,hy84,H⟩ := lt_some H
  refine ls_load (a0:=⟨g5,(0+((0:Int)).toNat),none⟩) (v:=.int .u32 (m4_5.1.getD ((0:Int)).toNat (0:Int))) (de:=(TypeDesc.int .u32)) rfl rfl (by kernel_rfl) rfl (by kernel_rfl) (by kernel_rfl) (by kernel_rfl) (fun w hs=>(hs.var (k:=4) (by exact rfl) (Sub4.trans (Sub4.all _) (Sub4.one (i:=((0:Int)).toNat) (Value.int .u32) m4_5.1 0 (by have := m4_5.2; omega))))) ?_
  refine ls_ren 168 (v:=.int .u32 (m4_5.1.getD ((0:Int)).toNat (0:Int))) (v' := .int .u32 y83) (by kernel_rfl) (by rw [hy84]) ?_
  refine ls_idxa1 (g:=g5) (off:=0) (i:=(1:Int)) (kk:=.i64) (ln:=8) (e:=23) rfl rfl (by kernel_rfl) rfl (by kernel_rfl) (by kernel_rfl) (by kernel_rfl) (by kernel_rfl) (by decide) q67 ?_
  obtain ⟨y85,hy86,H⟩ := lt_some H
  refine ls_load (a0:=⟨g5,(0+((1:Int)).toNat),none⟩) (v:=.int .u32 (m4_5.1.getD ((1:Int)).toNat (0:Int))) (de:=(TypeDesc.int .u32)) rfl rfl (by kernel_rfl) rfl (by kernel_rfl) (by kernel_rfl) (by kernel_rfl) (fun w hs=>(hs.var (k:=4) (by exact rfl) (Sub4.trans (Sub4.all _) (Sub4.one (i:=((1:Int)).toNat) (Value.int .u32) m4_5.1 0 (by have := m4_5.2; omega))))) ?_
  refine ls_ren 170 (v:=.int .u32 (m4_5.1.getD ((1:Int)).toNat (0:Int))) (v' := .int .u32 y85) (by kernel_rfl) (by rw [hy86]) ?_
  refine ls_idxa1 (g:=g5) (off:=0) (i:=(2:Int)) (kk:=.i64) (ln:=8) (e:=23) rfl rfl (by kernel_rfl) rfl (by kernel_rfl) (by kernel_rfl) (by kernel_rfl) (by kernel_rfl) (by decide) q70 ?_
  obtain ⟨y87,hy88,H⟩ := lt_some H
  refine ls_load (a0:=⟨g5,(0+((2:Int)).toNat),none⟩) (v:=.int .u32 (m4_5.1.getD ((2:Int)).toNat (0:Int))) (de:=(TypeDesc.int .u32)) rfl rfl (by kernel_rfl) rfl (by kernel_rfl) (by kernel_rfl) (by kernel_rfl) (fun w hs=>(hs.var (k:=4) (by exact rfl) (Sub4.trans (Sub4.all _) (Sub4.one (i:=((2:Int)).toNat) (Value.int .u32) m4_5.1 0 (by have := m4_5.2; omega))))) ?_
  refine ls_ren 172 (v:=.int .u32 (m4_5.1.getD ((2:Int)).toNat (0:Int))) (v' := .int .u32 y87) (by kernel_rfl) (by rw [hy88]) ?_
  obtain ⟨q89,H⟩ := ite_need H
  refine ls_idxa1 (g:=g5) (off:=0) (i:=(3:Int)) (kk:=.i64) (ln:=8) (e:=23) rfl rfl (by kernel_rfl) rfl (by kernel_rfl) (by kernel_rfl) (by kernel_rfl) (by kernel_rfl) (by decide) q89 ?_
  obtain ⟨y90,hy91,H⟩ := lt_some H
  refine ls_load (a0:=⟨g5,(0+((3:Int)).toNat),none⟩) (v:=.int .u32 (m4_5.1.getD ((3:Int)).toNat (0:Int))) (de:=(TypeDesc.int .u32)) rfl rfl (by kernel_rfl) rfl (by kernel_rfl) (by kernel_rfl) (by kernel_rfl) (fun w hs=>(hs.var (k:=4) (by exact rfl) (Sub4.trans (Sub4.all _) (Sub4.one (i:=((3:Int)).toNat) (Value.int .u32) m4_5.1 0 (by have := m4_5.2; omega))))) ?_
  refine ls_ren 174 (v:=.int .u32 (m4_5.1.getD ((3:Int)).toNat (0:Int))) (v' := .int .u32 y90) (by kernel_rfl) (by rw [hy91]) ?_
  refine lv (.int .u32 y52) ?_
  refine lv (.int .u32 (IntKind.wrap .u32 (y90+y52))) ?_
  refine ls_idxa1 (g:=g5) (off:=0) (i:=(4:Int)) (kk:=.i64) (ln:=8) (e:=23) rfl rfl (by kernel_rfl) rfl (by kernel_rfl) (by kernel_rfl) (by kernel_rfl) (by kernel_rfl) (by decide) q14 ?_
  obtain ⟨y92,hy93,H⟩ := lt_some H
  refine ls_load (a0:=⟨g5,(0+((4:Int)).toNat),none⟩) (v:=.int .u32 (m4_5.1.getD ((4:Int)).toNat (0:Int))) (de:=(TypeDesc.int .u32)) rfl rfl (by kernel_rfl) rfl (by kernel_rfl) (by kernel_rfl) (by kernel_rfl) (fun w hs=>(hs.var (k:=4) (by exact rfl) (Sub4.trans (Sub4.all _) (Sub4.one (i:=((4:Int)).toNat) (Value.int .u32) m4_5.1 0 (by have := m4_5.2; omega))))) ?_
  refine ls_ren 178 (v:=.int .u32 (m4_5.1.getD ((4:Int)).toNat (0:Int))) (v' := .int .u32 y92) (by kernel_rfl) (by rw [hy93]) ?_
  refine ls_idxa1 (g:=g5) (off:=0) (i:=(5:Int)) (kk:=.i64) (ln:=8) (e:=23) rfl rfl (by kernel_rfl) rfl (by kernel_rfl) (by kernel_rfl) (by kernel_rfl) (by kernel_rfl) (by decide) q36 ?_
  obtain ⟨y94,hy95,H⟩ := lt_some H
  refine ls_load (a0:=⟨g5,(0+((5:Int)).toNat),none⟩) (v:=.int .u32 (m4_5.1.getD ((5:Int)).toNat (0:Int))) (de:=(TypeDesc.int .u32)) rfl rfl (by kernel_rfl) rfl (by kernel_rfl) (by kernel_rfl) (by kernel_rfl) (fun w hs=>(hs.var (k:=4) (by exact rfl) (Sub4.trans (Sub4.all _) (Sub4.one (i:=((5:Int)).toNat) (Value.int .u32) m4_5.1 0 (by have := m4_5.2; omega))))) ?_
  refine ls_ren 180 (v:=.int .u32 (m4_5.1.getD ((5:Int)).toNat (0:Int))) (v' := .int .u32 y94) (by kernel_rfl) (by rw [hy95]) ?_
  refine ls_idxa1 (g:=g5) (off:=0) (i:=(6:Int)) (kk:=.i64) (ln:=8) (e:=23) rfl rfl (by kernel_rfl) rfl (by kernel_rfl) (by kernel_rfl) (by kernel_rfl) (by kernel_rfl) (by decide) q41 ?_
  obtain ⟨y96,hy97,H⟩ := lt_some H
  refine ls_load (a0:=⟨g5,(0+((6:Int)).toNat),none⟩) (v:=.int .u32 (m4_5.1.getD ((6:Int)).toNat (0:Int))) (de:=(TypeDesc.int .u32)) rfl rfl (by kernel_rfl) rfl (by kernel_rfl) (by kernel_rfl) (by kernel_rfl) (fun w hs=>(hs.var (k:=4) (by exact rfl) (Sub4.trans (Sub4.all _) (Sub4.one (i:=((6:Int)).toNat) (Value.int .u32) m4_5.1 0 (by have := m4_5.2; omega))))) ?_
  refine ls_ren 182 (v:=.int .u32 (m4_5.1.getD ((6:Int)).toNat (0:Int))) (v' := .int .u32 y96) (by kernel_rfl) (by rw [hy97]) ?_
  refine lv (.agg ⟨en (Value.int .u32) (⟨[y81,y83,y85,y87,IntKind.wrap .u32 (y90+y52),y92,y94,y96],rfl⟩:(Vc Int 8)).1⟩) ?_
  refine ls_storec (g:=g5) (off:=0) (v:=.agg ⟨en (Value.int .u32) (⟨[y81,y83,y85,y87,IntKind.wrap .u32 (y90+y52),y92,y94,y96],rfl⟩:(Vc Int 8)).1⟩) (vs:=en (Value.int .u32) (⟨[y81,y83,y85,y87,IntKind.wrap .u32 (y90+y52),y92,y94,y96],rfl⟩:(Vc Int 8)).1) (cs:=en (Value.int .u32) m4_5.1) (ty:=71) 4 rfl rfl rfl (by kernel_rfl) (by kernel_rfl) (by kernel_rfl) (by exact rfl) (by kernel_rfl) (len_en _ (⟨[y81,y83,y85,y87,IntKind.wrap .u32 (y90+y52),y92,y94,y96],rfl⟩:(Vc Int 8))) (one_en (fun _=>rfl) _) (hl_of (Sub4.all _) (len_eq (len_en _ (⟨[y81,y83,y85,y87,IntKind.wrap .u32 (y90+y52),y92,y94,y96],rfl⟩:(Vc Int 8))) (len_en _ m4_5))) (cs' := en (Value.int .u32) (⟨[y81,y83,y85,y87,IntKind.wrap .u32 (y90+y52),y92,y94,y96],rfl⟩:(Vc Int 8)).1) (splc_all (len_eq (len_en _ (⟨[y81,y83,y85,y87,IntKind.wrap .u32 (y90+y52),y92,y94,y96],rfl⟩:(Vc Int 8))) (len_en _ m4_5))) ?_
  refine ls_end ?_
  refine qn_block ?_
  refine qn_then ?_
  refine cs_region (l:=[_,_,_]) ?_
  refine lv (.int .i64 x13_5) ?_
  refine lv (.int .i64 (IntKind.wrap .i64 (x13_5+(1:Int)))) ?_
  refine lv (.int .i64 (IntKind.wrap .i64 (x13_5+(1:Int)))) ?_
  refine ls_end ?_
  refine qn_again k5 (sput (sput (sput (sput (sput s0 0 (some (Ck.var 74 g1 ((en (Value.int .u32) a0.1.1++[Value.int .u64 a0.2]))))) 1 (some (Ck.var 69 g2 (en (Value.int .u32) a2.1)))) 2 (some (Ck.var 74 g3 ((en (Value.int .u32) (vrep 8 (0:Int)).1++[Value.int .u64 (0:Int)]))))) 3 (some (Ck.var 69 g4 (en (Value.int .u32) m3_2.1)))) 4 (some (Ck.var 71 g5 (en (Value.int .u32) (⟨[y81,y83,y85,y87,IntKind.wrap .u32 (y90+y52),y92,y94,y96],rfl⟩:(Vc Int 8)).1)))) (Nat.le_refl _) ⟨_,(IntKind.wrap .i64 (x13_5+(1:Int))),(⟨[y81,y83,y85,y87,IntKind.wrap .u32 (y90+y52),y92,y94,y96],rfl⟩:(Vc Int 8)),fr_next (fr_next (fr_next (fr_next (fr_next (fr_next (rfl) (by kernel_rfl)) (by kernel_rfl)) (by kernel_rfl)) (by kernel_rfl)) (by kernel_rfl)) (by kernel_rfl),rfl,H⟩ (sub_put (by exact rfl) (sub_put (by exact rfl) (sub_put (by exact rfl) (sub_put (by exact rfl) (sub_put (by exact rfl) (sub_nil _))))))
 rintro f S ⟨fr3,m4_3,rfl,rfl,H⟩
 replace H:(shadowboxref03_Block.lo4 m4_3 k (0:Int) a0)=some r := H
 refine cs_seq ?_
 refine cs_seq ?_
 refine cs_region (l:=[_]) ?_
 refine lv (.int .i64 (0:Int)) ?_
 refine ls_end ?_
 refine qn_then ?_
 refine cs_block ?_
 refine cs_sub (sput (sput (sput s0 0 (some (Ck.var 74 g1 ((en (Value.int .u32) a0.1.1++[Value.int .u64 a0.2]))))) 2 (some (Ck.var 74 g3 ((en (Value.int .u32) (vrep 8 (0:Int)).1++[Value.int .u64 (0:Int)]))))) 4 (some (Ck.var 71 g5 (en (Value.int .u32) m4_3.1)))) (sub_put (by exact rfl) (sub_put (by exact rfl) (sub_put (by exact rfl) (sub_nil _)))) ?_
 refine cs_loop (fun kk f S=>∃ (fR:Fr) (x18_4:Int) (m0_4:((Vc Int 8) × Int)),f=upd (upd (upd (upd fR 3 (.pointer (some ⟨g1,0,none⟩))) 6 (.pointer (some ⟨g3,0,none⟩))) 12 (.pointer (some ⟨g5,0,none⟩))) 18 (.int .i64 x18_4)∧S=sput (sput (sput s0 0 (some (Ck.var 74 g1 ((en (Value.int .u32) m0_4.1.1++[Value.int .u64 m0_4.2]))))) 2 (some (Ck.var 74 g3 ((en (Value.int .u32) (vrep 8 (0:Int)).1++[Value.int .u64 (0:Int)]))))) 4 (some (Ck.var 71 g5 (en (Value.int .u32) m4_3.1)))∧shadowboxref03_Block.lo4 m4_3 kk x18_4 m0_4=some r) k ?_ ?_ ?_
 ·exact ⟨_,(0:Int),a0,fr_next (fr_next (fr_next (fr_next (rfl) (by kernel_rfl)) (by kernel_rfl)) (by kernel_rfl)) (by kernel_rfl),rfl,H⟩
 ·rintro f S ⟨fr4,x18_4,m0_4,rfl,rfl,H⟩; cases H
 rintro k4 f S ⟨fr4,x18_4,m0_4,rfl,rfl,H⟩
 replace H:((if x18_4<(8:Int) then (if 0≤x18_4 then lt (IntKind.wrap .u32 ((m0_4.1.1.getD (x18_4).toNat (0:Int))+(m4_3.1.getD (x18_4).toNat (0:Int)))) fun y10=>lt (vset m0_4.1 (x18_4).toNat y10) fun y12=>(shadowboxref03_Block.lo4 m4_3 k4) (IntKind.wrap .i64 (x18_4+(1:Int))) (y12,m0_4.2) else none) else some (m0_4.1,IntKind.wrap .u64 (m0_4.2+(64:Int)))))=some r := H
 refine cs_seq ?_
 refine cs_seq ?_
 refine cs_region (l:=[_,_]) ?_
 refine lv (.int .i64 x18_4) ?_
 refine lv (.bool (decide (x18_4<(8:Int)))) ?_
 refine ls_end ?_
 refine qn_then ?_
 by_cases q6:x18_4<(8:Int)
 ·replace H := ite_t q6 H
  refine cs_know (c:=true) (dec_t q6) 185 (by kernel_rfl) ?_
  refine cs_true (by kernel_rfl) ?_
  refine cs_skip' ?_
  refine qn_then ?_
  refine cs_seq ?_
  refine cs_block ?_
  obtain ⟨s8_0,hs8_0⟩ := exv (.int .i64 x18_4)
  refine have_opa shadowboxref03_Block.tab6 5 0 (fun sp=>sp 0=s8_0) (fun sp on hA hon=>?_) (fun ops8_0=>?_)
  ·refine ⟨fun o ho vs Rs f' S' w hp hf hx hS hR hs=>?_⟩
   obtain rfl := Option.some.inj ho
   exact opv (.int .i64 x18_4) hA hs8_0 hon (fr_next (rfl) ((hx 18 (by kernel_rfl)).trans (by kernel_rfl:(_:Value)=.int .i64 x18_4)))
  obtain ⟨s8_1,hs8_1⟩ := exv (.int .i64 x18_4)
  refine have_opa shadowboxref03_Block.tab6 5 1 (fun sp=>sp 1=s8_1) (fun sp on hA hon=>?_) (fun ops8_1=>?_)
  ·refine ⟨fun o ho vs Rs f' S' w hp hf hx hS hR hs=>?_⟩
   obtain rfl := Option.some.inj ho
   exact opv (.int .i64 x18_4) hA hs8_1 hon (fr_next (rfl) ((hx 18 (by kernel_rfl)).trans (by kernel_rfl:(_:Value)=.int .i64 x18_4)))
  obtain ⟨s8_2,hs8_2⟩ := exv (.pointer (some ⟨g1,(0+0),none⟩))
  refine have_opa shadowboxref03_Block.tab6 5 2 (fun sp=>sp 2=s8_2) (fun sp on hA hon=>?_) (fun ops8_2=>?_)
  ·refine ⟨fun o ho vs Rs f' S' w hp hf hx hS hR hs=>?_⟩
   obtain rfl := Option.some.inj ho
   exact opv (.pointer (some ⟨g1,(0+0),none⟩)) hA hs8_2 hon (fr_next (rfl) ((hx 3 (by kernel_rfl)).trans (by kernel_rfl:(_:Value)=.pointer (some ⟨g1,0,none⟩))))
  obtain ⟨q9,H⟩ := ite_need H
  obtain ⟨s8_3,hs8_3⟩ := exv (.pointer (some ⟨g1,((0+0)+(x18_4).toNat),none⟩))
  refine have_opa shadowboxref03_Block.tab6 5 3 (fun sp=>sp 3=s8_3∧sp 1=s8_1∧sp 2=s8_2) (fun sp on hA hon=>?_) (fun ops8_3=>?_)
  ·refine ⟨fun o ho vs Rs f' S' w hp hf hx hS hR hs=>?_⟩
   obtain rfl := Option.some.inj ho
   obtain ⟨hv1,hR1⟩ := (spe hA.2.1 hs8_1 (hp 1 (by kernel_rfl)))
   obtain ⟨hv2,hR2⟩ := (spe hA.2.2 hs8_2 (hp 2 (by kernel_rfl)))
   rw [hA.1,hs8_3]
   refine wn hon ?_
   have hF := fr_next (fr_next (rfl) ((hf 1 189 (by kernel_rfl) rfl).trans hv1)) ((hf 2 190 (by kernel_rfl) rfl).trans hv2)
   refine ls_fr hF ?_
   refine ls_idxa1 (g:=g1) (off:=(0+0)) (i:=x18_4) (kk:=.i64) (ln:=8) (e:=23) rfl rfl (by kernel_rfl) rfl (by kernel_rfl) (by kernel_rfl) (by kernel_rfl) (by kernel_rfl) q9 q6 ?_
   exact ls_fin s0 _ (congrArg (fun z=>upd z 191 _) hF.symm) ⟨rfl,rfl⟩ (sub_nil _)
  obtain ⟨s8_4,hs8_4⟩ := exv (.int .u32 (m0_4.1.1.getD (x18_4).toNat (0:Int)))
  refine have_opa shadowboxref03_Block.tab6 5 4 (fun sp=>sp 4=s8_4∧sp 3=s8_3) (fun sp on hA hon=>?_) (fun ops8_4=>?_)
  ·refine ⟨fun o ho vs Rs f' S' w hp hf hx hS hR hs=>?_⟩
   obtain rfl := Option.some.inj ho
   obtain ⟨hv3,hR3⟩ := (spe hA.2 hs8_3 (hp 3 (by kernel_rfl)))
   rw [hA.1,hs8_4]
   refine wn hon ?_
   have hF := fr_next (rfl) ((hf 3 191 (by kernel_rfl) rfl).trans hv3)
   refine ls_fr hF ?_
   refine ls_load (a0:=⟨g1,((0+0)+(x18_4).toNat),none⟩) (v:=.int .u32 (m0_4.1.1.getD (x18_4).toNat (0:Int))) (de:=(TypeDesc.int .u32)) rfl rfl (by kernel_rfl) rfl (by kernel_rfl) (by kernel_rfl) (by kernel_rfl) (fun w1 hs1=>cell_step hs1.below.bw (hs.var (k:=0) ((hS 0 (by kernel_rfl)).trans (by exact rfl)) (Sub4.trans (Sub4.trans (Sub4.all _) (Sub4.head _ _)) (Sub4.one (i:=(x18_4).toNat) (Value.int .u32) m0_4.1.1 0 (by have := m0_4.1.2; omega))))) ?_
   exact ls_fin s0 _ (congrArg (fun z=>upd z 192 _) hF.symm) ⟨rfl,rfl⟩ (sub_nil _)
  obtain ⟨s8_5,hs8_5⟩ := exv (.int .i64 x18_4)
  refine have_opa shadowboxref03_Block.tab6 5 5 (fun sp=>sp 5=s8_5) (fun sp on hA hon=>?_) (fun ops8_5=>?_)
  ·refine ⟨fun o ho vs Rs f' S' w hp hf hx hS hR hs=>?_⟩
   obtain rfl := Option.some.inj ho
   exact opv (.int .i64 x18_4) hA hs8_5 hon (fr_next (rfl) ((hx 18 (by kernel_rfl)).trans (by kernel_rfl:(_:Value)=.int .i64 x18_4)))
  obtain ⟨s8_6,hs8_6⟩ := exv (.pointer (some ⟨g5,(0+(x18_4).toNat),none⟩))
  refine have_opa shadowboxref03_Block.tab6 5 6 (fun sp=>sp 6=s8_6∧sp 5=s8_5) (fun sp on hA hon=>?_) (fun ops8_6=>?_)
  ·refine ⟨fun o ho vs Rs f' S' w hp hf hx hS hR hs=>?_⟩
   obtain rfl := Option.some.inj ho
   obtain ⟨hv5,hR5⟩ := (spe hA.2 hs8_5 (hp 5 (by kernel_rfl)))
   rw [hA.1,hs8_6]
   refine wn hon ?_
   have hF := fr_next (fr_next (rfl) ((hx 12 (by kernel_rfl)).trans (by kernel_rfl:(_:Value)=.pointer (some ⟨g5,0,none⟩)))) ((hf 5 193 (by kernel_rfl) rfl).trans hv5)
   refine ls_fr hF ?_
   refine ls_idxa1 (g:=g5) (off:=0) (i:=x18_4) (kk:=.i64) (ln:=8) (e:=23) rfl rfl (by kernel_rfl) rfl (by kernel_rfl) (by kernel_rfl) (by kernel_rfl) (by kernel_rfl) q9 q6 ?_
   exact ls_fin s0 _ (congrArg (fun z=>upd z 194 _) hF.symm) ⟨rfl,rfl⟩ (sub_nil _)
  obtain ⟨s8_7,hs8_7⟩ := exv (.int .u32 (m4_3.1.getD (x18_4).toNat (0:Int)))
  refine have_opa shadowboxref03_Block.tab6 5 7 (fun sp=>sp 7=s8_7∧sp 6=s8_6) (fun sp on hA hon=>?_) (fun ops8_7=>?_)
  ·refine ⟨fun o ho vs Rs f' S' w hp hf hx hS hR hs=>?_⟩
   obtain rfl := Option.some.inj ho
   obtain ⟨hv6,hR6⟩ := (spe hA.2 hs8_6 (hp 6 (by kernel_rfl)))
   rw [hA.1,hs8_7]
   refine wn hon ?_
   have hF := fr_next (rfl) ((hf 6 194 (by kernel_rfl) rfl).trans hv6)
   refine ls_fr hF ?_
   refine ls_load (a0:=⟨g5,(0+(x18_4).toNat),none⟩) (v:=.int .u32 (m4_3.1.getD (x18_4).toNat (0:Int))) (de:=(TypeDesc.int .u32)) rfl rfl (by kernel_rfl) rfl (by kernel_rfl) (by kernel_rfl) (by kernel_rfl) (fun w1 hs1=>cell_step hs1.below.bw (hs.var (k:=4) ((hS 4 (by kernel_rfl)).trans (by exact rfl)) (Sub4.trans (Sub4.all _) (Sub4.one (i:=(x18_4).toNat) (Value.int .u32) m4_3.1 0 (by have := m4_3.2; omega))))) ?_
   exact ls_fin s0 _ (congrArg (fun z=>upd z 195 _) hF.symm) ⟨rfl,rfl⟩ (sub_nil _)
  obtain ⟨y10,hy11,H⟩ := lt_some H
  obtain ⟨s8_8,hs8_8⟩ := exv (.int .u32 y10)
  refine have_opa shadowboxref03_Block.tab6 5 8 (fun sp=>sp 8=s8_8∧sp 4=s8_4∧sp 7=s8_7) (fun sp on hA hon=>?_) (fun ops8_8=>?_)
  ·refine ⟨fun o ho vs Rs f' S' w hp hf hx hS hR hs=>?_⟩
   obtain rfl := Option.some.inj ho
   obtain ⟨hv4,hR4⟩ := (spe hA.2.1 hs8_4 (hp 4 (by kernel_rfl)))
   obtain ⟨hv7,hR7⟩ := (spe hA.2.2 hs8_7 (hp 7 (by kernel_rfl)))
   rw [hA.1,hs8_8]
   refine wn hon ?_
   have hF := fr_next (fr_next (rfl) ((hf 4 192 (by kernel_rfl) rfl).trans hv4)) ((hf 7 195 (by kernel_rfl) rfl).trans hv7)
   refine ls_fr hF ?_
   refine lv (.int .u32 (IntKind.wrap .u32 ((m0_4.1.1.getD (x18_4).toNat (0:Int))+(m4_3.1.getD (x18_4).toNat (0:Int))))) ?_
   refine ls_ren 196 (v:=.int .u32 (IntKind.wrap .u32 ((m0_4.1.1.getD (x18_4).toNat (0:Int))+(m4_3.1.getD (x18_4).toNat (0:Int))))) (v' := .int .u32 y10) (by kernel_rfl) (by rw [hy11]) ?_
   exact ls_fin s0 _ ((upd_upd _ _ _ _).trans (congrArg (fun z=>upd z 196 _) hF.symm)) ⟨rfl,rfl⟩ (sub_nil _)
  obtain ⟨s8_9,hs8_9⟩ := exv (.pointer (some ⟨g1,(0+0),none⟩))
  refine have_opa shadowboxref03_Block.tab6 5 9 (fun sp=>sp 9=s8_9) (fun sp on hA hon=>?_) (fun ops8_9=>?_)
  ·refine ⟨fun o ho vs Rs f' S' w hp hf hx hS hR hs=>?_⟩
   obtain rfl := Option.some.inj ho
   exact opv (.pointer (some ⟨g1,(0+0),none⟩)) hA hs8_9 hon (fr_next (rfl) ((hx 3 (by kernel_rfl)).trans (by kernel_rfl:(_:Value)=.pointer (some ⟨g1,0,none⟩))))
  refine cs_draw shadowboxref03_Block.tab6 10 5 (spl [s8_0,s8_1,s8_2,s8_3,s8_4,s8_5,s8_6,s8_7,s8_8,s8_9]) (onl [true,true,true,true,true,true,true,true,true,true]) (by kernel_rfl) (by kernel_rfl) (by kernel_rfl) (by kernel_rfl) (rs:=[_,_]) rfl (by kernel_rfl) (by kernel_rfl) (all_snoc (all_snoc (all_snoc (all_snoc (all_snoc (all_snoc (all_snoc (all_snoc (all_snoc (all_snoc (all_nil) (ops8_0 _ _ rfl rfl)) (ops8_1 _ _ rfl rfl)) (ops8_2 _ _ rfl rfl)) (ops8_3 _ _ ⟨rfl,rfl,rfl⟩ rfl)) (ops8_4 _ _ ⟨rfl,rfl⟩ rfl)) (ops8_5 _ _ rfl rfl)) (ops8_6 _ _ ⟨rfl,rfl⟩ rfl)) (ops8_7 _ _ ⟨rfl,rfl⟩ rfl)) (ops8_8 _ _ ⟨rfl,rfl,rfl⟩ rfl)) (ops8_9 _ _ rfl rfl)) ?_
  intro vs Rs f' S' hp hf hx hS hR
  obtain ⟨hv0,hR0⟩ := (spe rfl hs8_0 (hp 0 (by kernel_rfl)))
  obtain ⟨hv8,hR8⟩ := (spe rfl hs8_8 (hp 8 (by kernel_rfl)))
  obtain ⟨hv9,hR9⟩ := (spe rfl hs8_9 (hp 9 (by kernel_rfl)))
  refine ls_fr (F:=upd (upd (upd (upd (upd (upd (upd f' 3 (.pointer (some ⟨g1,0,none⟩))) 6 (.pointer (some ⟨g3,0,none⟩))) 12 (.pointer (some ⟨g5,0,none⟩))) 18 (.int .i64 x18_4)) 188 (.int .i64 x18_4)) 196 (.int .u32 y10)) 197 (.pointer (some ⟨g1,(0+0),none⟩))) (fr_next (fr_next (fr_next (fr_next (fr_next (fr_next (fr_next (rfl) ((hx 3 (by kernel_rfl)).trans (by kernel_rfl:(_:Value)=.pointer (some ⟨g1,0,none⟩)))) ((hx 6 (by kernel_rfl)).trans (by kernel_rfl:(_:Value)=.pointer (some ⟨g3,0,none⟩)))) ((hx 12 (by kernel_rfl)).trans (by kernel_rfl:(_:Value)=.pointer (some ⟨g5,0,none⟩)))) ((hx 18 (by kernel_rfl)).trans (by kernel_rfl:(_:Value)=.int .i64 x18_4))) ((hf 0 188 (by kernel_rfl) rfl).trans hv0)) ((hf 8 196 (by kernel_rfl) rfl).trans hv8)) ((hf 9 197 (by kernel_rfl) rfl).trans hv9)) ?_
  refine ls_sub (sput (sput (sput s0 0 (some (Ck.var 74 g1 ((en (Value.int .u32) m0_4.1.1++[Value.int .u64 m0_4.2]))))) 2 (some (Ck.var 74 g3 ((en (Value.int .u32) (vrep 8 (0:Int)).1++[Value.int .u64 (0:Int)]))))) 4 (some (Ck.var 71 g5 (en (Value.int .u32) m4_3.1)))) (sub_put ((hS 4 (by kernel_rfl)).trans (by exact rfl)) (sub_put ((hS 2 (by kernel_rfl)).trans (by exact rfl)) (sub_put ((hS 0 (by kernel_rfl)).trans (by exact rfl)) (sub_nil _)))) ?_
  refine ls_idxa1 (g:=g1) (off:=(0+0)) (i:=x18_4) (kk:=.i64) (ln:=8) (e:=23) rfl rfl (by kernel_rfl) rfl (by kernel_rfl) (by kernel_rfl) (by kernel_rfl) (by kernel_rfl) q9 q6 ?_
  obtain ⟨y12,hy13,H⟩ := lt_some H
  refine ls_storec (g:=g1) (off:=((0+0)+(x18_4).toNat)) (v:=.int .u32 y10) (vs:=[Value.int .u32 y10]) (cs:=(en (Value.int .u32) m0_4.1.1++[Value.int .u64 m0_4.2])) (ty:=74) 0 rfl rfl rfl (by kernel_rfl) (by kernel_rfl) (by kernel_rfl) (by exact rfl) (by kernel_rfl) (len1 _) (one_cons rfl one_nil) (hl_of (Sub4.trans (Sub4.trans (Sub4.all _) (Sub4.head _ _)) (Sub4.one (i:=(x18_4).toNat) (Value.int .u32) m0_4.1.1 0 (by have := m0_4.1.2; omega))) (len_eq (len1 _) (len1 _))) (cs' := (en (Value.int .u32) y12.1++[Value.int .u64 m0_4.2])) (splc_in (Sub4.trans (Sub4.all _) (Sub4.head _ _)) ((splc_one (Value.int .u32) m0_4.1.1 y10 (by have := m0_4.1.2; omega)).trans (congrArg (fun z:(Vc Int 8)=>en (Value.int .u32) z.1) hy13)) (splc_in (Sub4.all _) (splc_head (len_eq (len_en _ y12) (len_en _ m0_4.1))) (splc_all (len_eq (len_app (len_en _ y12) (len1 _)) (len_app (len_en _ m0_4.1) (len1 _)))) (hl_of (Sub4.head _ _) (len_eq (len_en _ y12) (len_en _ m0_4.1)))) (hl_of (Sub4.one (i:=(x18_4).toNat) (Value.int .u32) m0_4.1.1 0 (by have := m0_4.1.2; omega)) (len_eq (len1 _) (len1 _)))) ?_
  refine ls_end ?_
  refine qn_block ?_
  refine qn_then ?_
  refine cs_region (l:=[_,_,_]) ?_
  refine lv (.int .i64 x18_4) ?_
  refine lv (.int .i64 (IntKind.wrap .i64 (x18_4+(1:Int)))) ?_
  refine lv (.int .i64 (IntKind.wrap .i64 (x18_4+(1:Int)))) ?_
  refine ls_end ?_
  refine qn_again k4 (sput (sput (sput s0 0 (some (Ck.var 74 g1 ((en (Value.int .u32) y12.1++[Value.int .u64 m0_4.2]))))) 2 (some (Ck.var 74 g3 ((en (Value.int .u32) (vrep 8 (0:Int)).1++[Value.int .u64 (0:Int)]))))) 4 (some (Ck.var 71 g5 (en (Value.int .u32) m4_3.1)))) (Nat.le_refl _) ⟨_,(IntKind.wrap .i64 (x18_4+(1:Int))),(y12,m0_4.2),fr_next (fr_next (fr_next (fr_next (rfl) (by kernel_rfl)) (by kernel_rfl)) (by kernel_rfl)) (by kernel_rfl),rfl,H⟩ (sub_put (by exact rfl) (sub_put (by exact rfl) (sub_put (by exact rfl) (sub_nil _))))
 replace H := ite_f q6 H
 refine cs_know (c:=false) (dec_f q6) 185 (by kernel_rfl) ?_
 refine cs_false (by kernel_rfl) ?_
 refine cs_exit' ?_
 refine qx_then ?_
 refine qx_then ?_
 refine qx_same ?_
 refine qn_then ?_
 refine cs_seq ?_
 refine cs_region (l:=[_,_,_,_,_]) ?_
 refine lv (.pointer (some ⟨g1,(0+8),none⟩)) ?_
 refine ls_load (a0:=⟨g1,(0+8),none⟩) (v:=.int .u64 m0_4.2) (de:=(TypeDesc.int .u64)) rfl rfl (by kernel_rfl) rfl (by kernel_rfl) (by kernel_rfl) (by kernel_rfl) (fun w hs=>(hs.var (k:=0) (by exact rfl) (Sub4.trans (Sub4.all _) (Sub4.skip (n:=8) (len_en _ m0_4.1) (Sub4.all _))))) ?_
 refine lv (.int .u64 (IntKind.wrap .u64 (m0_4.2+(64:Int)))) ?_
 refine lv (.pointer (some ⟨g1,(0+8),none⟩)) ?_
 refine ls_storec (g:=g1) (off:=(0+8)) (v:=.int .u64 (IntKind.wrap .u64 (m0_4.2+(64:Int)))) (vs:=[Value.int .u64 (IntKind.wrap .u64 (m0_4.2+(64:Int)))]) (cs:=(en (Value.int .u32) m0_4.1.1++[Value.int .u64 m0_4.2])) (ty:=74) 0 rfl rfl rfl (by kernel_rfl) (by kernel_rfl) (by kernel_rfl) (by exact rfl) (by kernel_rfl) (len1 _) (one_cons rfl one_nil) (hl_of (Sub4.trans (Sub4.all _) (Sub4.skip (n:=8) (len_en _ m0_4.1) (Sub4.all _))) (len_eq (len1 _) (len1 _))) (cs' := (en (Value.int .u32) m0_4.1.1++[Value.int .u64 (IntKind.wrap .u64 (m0_4.2+(64:Int)))])) (splc_in (Sub4.all _) (splc_skip (n:=8) (len_en _ m0_4.1) (splc_all (len_eq (len1 _) (len1 _)))) (splc_all (len_eq (len_app (len_en _ m0_4.1) (len1 _)) (len_app (len_en _ m0_4.1) (len1 _)))) (hl_of (Sub4.skip (n:=8) (len_en _ m0_4.1) (Sub4.all _)) (len_eq (len1 _) (len1 _)))) ?_
 refine ls_end ?_
 refine qn_then ?_
 refine cs_seq ?_
 refine cs_region (l:=[_,_]) ?_
 refine ls_loadagg (a:=⟨g1,0,none⟩) (sub:=(en (Value.int .u32) m0_4.1.1++[Value.int .u64 (IntKind.wrap .u64 (m0_4.2+(64:Int)))])) rfl rfl (by kernel_rfl) rfl (by kernel_rfl) (by kernel_rfl) (by kernel_rfl) (len_app (len_en _ m0_4.1) (len1 _)) (fun w hs=>(hs.vars (k:=0) (by exact rfl) (Sub4.all _))) ?_
 refine ls_storec (g:=g3) (off:=0) (v:=.agg ⟨(en (Value.int .u32) m0_4.1.1++[Value.int .u64 (IntKind.wrap .u64 (m0_4.2+(64:Int)))])⟩) (vs:=(en (Value.int .u32) m0_4.1.1++[Value.int .u64 (IntKind.wrap .u64 (m0_4.2+(64:Int)))])) (cs:=(en (Value.int .u32) (vrep 8 (0:Int)).1++[Value.int .u64 (0:Int)])) (ty:=74) 2 rfl rfl rfl (by kernel_rfl) (by kernel_rfl) (by kernel_rfl) (by exact rfl) (by kernel_rfl) (len_app (len_en _ m0_4.1) (len1 _)) (one_app (one_en (fun _=>rfl) _) (one_cons rfl one_nil)) (hl_of (Sub4.all _) (len_eq (len_app (len_en _ m0_4.1) (len1 _)) (len_app (len_en _ (vrep 8 (0:Int))) (len1 _)))) (cs' := (en (Value.int .u32) m0_4.1.1++[Value.int .u64 (IntKind.wrap .u64 (m0_4.2+(64:Int)))])) (splc_all (len_eq (len_app (len_en _ m0_4.1) (len1 _)) (len_app (len_en _ (vrep 8 (0:Int))) (len1 _)))) ?_
 refine ls_end ?_
 refine qn_then ?_
 refine cs_ret' ?_
 obtain rfl := Option.some.inj H
 refine qr_res (rs:=[_]) rfl (fun w' hs=>⟨[.agg ⟨(en (Value.int .u32) m0_4.1.1++[Value.int .u64 (IntKind.wrap .u64 (m0_4.2+(64:Int)))])⟩],(.cell (by kernel_rfl) (run_cellres (by kernel_rfl) (by kernel_rfl) (len_app (len_en _ m0_4.1) (len1 _)) (hs.holds 2 _ (by exact rfl))) (.nil)),(),rfl,hs.pick (ts:=[]) (cs:=[]) trivial (by decide)⟩)

/-! ### shadowbox/shadowboxref03.End: function 38 -/
def shadowboxref03_End.cst0:Vc Int 32 := ⟨[(0:Int),(0:Int),(0:Int),(0:Int),(0:Int),(0:Int),(0:Int),(0:Int),(0:Int),(0:Int),(0:Int),(0:Int),(0:Int),(0:Int),(0:Int),(0:Int),(0:Int),(0:Int),(0:Int),(0:Int),(0:Int),(0:Int),(0:Int),(0:Int),(0:Int),(0:Int),(0:Int),(0:Int),(0:Int),(0:Int),(0:Int),(0:Int)],rfl⟩
def shadowboxref03_End.lo5 (m0_4:((Vc Int 8) × Int)):Nat→Int→((Vc Int 32))→Option ((Vc Int 32))
  | 0,_,_=>none
  | k5+1,x12_5,m5_5=>(if x12_5<(32:Int) then lt (IntKind.wrap .i64 (Int.tdiv x12_5 (4:Int))) fun y16=>(if 0≤y16 then (if y16<(8:Int) then lt (IntKind.wrap .i64 ((8:Int)*(Int.tmod x12_5 (4:Int)))) fun y20=>lt (IntKind.wrap .u64 (IntKind.wrap .i64 ((24:Int) - y20))) fun y22=>(if 0≤y22 then lt (shrv .u32 (m0_4.1.1.getD (y16).toNat (0:Int)) y22) fun y25=>(if 0≤x12_5 then lt (vset m5_5 (x12_5).toNat (IntKind.wrap .u8 y25)) fun y28=>(shadowboxref03_End.lo5 m0_4 k5) (IntKind.wrap .i64 (x12_5+(1:Int))) y28 else none) else none) else none) else none) else some m5_5)
def shadowboxref03_End.jo4 (k:Nat) (m0_4:((Vc Int 8) × Int)):Option ((Vc Int 32)) := shadowboxref03_End.lo5 m0_4 k (0:Int) shadowboxref03_End.cst0
def shadowboxref03_End.tab30:List (List Nat) := [[],[],[],[],[3],[1,2,3,4],[],[0,1,2,3,4,5,6],[0,1,2,3,4,5,6,7]]
def shadowboxref03_End.lo6 (a2:(Vc Int 64)) (l8_3:List Int) (jo4:(((Vc Int 8) × Int))→Option ((Vc Int 32))):Nat→Int→(((Vc Int 8) × Int))→Option ((Vc Int 32))
  | 0,_,_=>none
  | k6+1,x10_6,m0_6=>(if x10_6<(l8_3.length:Int) then (if 0≤IntKind.wrap .i64 (x10_6+(64:Int)) then (if IntKind.wrap .i64 (x10_6+(64:Int))≤(l8_3.length:Int) then (if 0≤x10_6 then (if x10_6≤IntKind.wrap .i64 (x10_6+(64:Int)) then lt ((l8_3.take (IntKind.wrap .i64 (x10_6+(64:Int))).toNat).drop (x10_6).toNat) fun xl42=>(shadowboxref03_Block.f k6 m0_6 xl42 a2).bind fun t47=>(shadowboxref03_End.lo6 a2 l8_3 jo4 k6) (IntKind.wrap .i64 (x10_6+(64:Int))) t47 else none) else none) else none) else none) else jo4 m0_6)
def shadowboxref03_End.jo3 (k:Nat) (a0:((Vc Int 8) × Int)) (a2:(Vc Int 64)) (l8_3:List Int):Option ((Vc Int 32)) := shadowboxref03_End.lo6 a2 l8_3 (shadowboxref03_End.jo4 k) k (0:Int) a0
def shadowboxref03_End.lo7 (y4:Int) (jo3:(List Int)→Option ((Vc Int 32))):Nat→(List Int)→Int→Option ((Vc Int 32))
  | 0,_,_=>none
  | k7+1,l8_7,x9_7=>(if x9_7≥(0:Int) then lt (IntKind.wrap .u64 (IntKind.wrap .i64 ((8:Int)*x9_7))) fun y51=>(if 0≤y51 then lt (shrv .u64 (IntKind.wrap .u64 ((8:Int)*y4)) y51) fun y54=>(if (l8_7.length+([IntKind.wrap .u8 y54]).length)*1≤140737488355328 then (shadowboxref03_End.lo7 y4 jo3 k7) (l8_7++[IntKind.wrap .u8 y54]) (IntKind.wrap .i64 (x9_7 - (1:Int))) else none) else none) else jo3 l8_7)
def shadowboxref03_End.jo2 (k:Nat) (a0:((Vc Int 8) × Int)) (a2:(Vc Int 64)) (y4:Int) (l8_2:List Int):Option ((Vc Int 32)) := shadowboxref03_End.lo7 y4 (shadowboxref03_End.jo3 k a0 a2) k l8_2 (7:Int)
def shadowboxref03_End.lo8 (jo2:(List Int)→Option ((Vc Int 32))):Nat→(List Int)→Option ((Vc Int 32))
  | 0,_=>none
  | k8+1,l8_8=>(if (Int.tmod (l8_8.length:Int) (64:Int))=(56:Int) then jo2 l8_8 else (if (l8_8.length+([(0:Int)]).length)*1≤140737488355328 then (shadowboxref03_End.lo8 jo2 k8) (l8_8++[(0:Int)]) else none))
def shadowboxref03_End.jo1 (k:Nat) (a0:((Vc Int 8) × Int)) (a2:(Vc Int 64)) (l1_1:List Int):Option ((Vc Int 32)) := lt (IntKind.wrap .u64 (a0.2+(IntKind.wrap .u64 (l1_1.length:Int)))) fun y4=>(if (([]:List Int).length+l1_1.length)*1≤140737488355328 then (if ((([]:List Int)++l1_1).length+([(128:Int)]).length)*1≤140737488355328 then shadowboxref03_End.lo8 (shadowboxref03_End.jo2 k a0 a2 y4) k ((([]:List Int)++l1_1)++[(128:Int)]) else none) else none)
def shadowboxref03_End.f (k:Nat) (a0:((Vc Int 8) × Int)) (l1:List Int) (a2:(Vc Int 64)):Option ((Vc Int 32)) :=
  (if (l1.length:Int) > (63:Int) then (if (63:Int)≤(l1.length:Int) then lt (l1.take ((63:Int)).toNat) fun xl71=>(shadowboxref03_End.jo1 k a0 a2) xl71 else none) else (shadowboxref03_End.jo1 k a0 a2) l1)
set_option maxRecDepth 100000 in
set_option maxHeartbeats 4000000 in
theorem shadowboxref03_End.calls (k:Nat) (a0:((Vc Int 8) × Int)) (A1:Option Addr) (c1:Nat) (l1:List Int) (a2:(Vc Int 64)) (r:(Vc Int 32)) (b:Bs) (hs0:St b (stl []) b.w) (R1:Ro b A1 (em (Ec.int 5 .u8) l1)) (C1:l1.length≤c1) (H:shadowboxref03_End.f k a0 l1 a2=some r) :
    Calls Try.prog 38 #[.agg ⟨(en (Value.int .u32) a0.1.1++[Value.int .u64 a0.2])⟩,.slice A1 l1.length c1,.agg ⟨en (Value.int .u32) a2.1⟩] b.w fun e w'=>∃ x:Unit,e=.returned (.agg ⟨en (Value.int .u8) r.1⟩)∧St b (stl []) w' := by
 unfold shadowboxref03_End.f at H
 refine enterb (n:=84) Try.func38 rfl (by kernel_rfl) (by kernel_rfl) hs0 ?_
 refine cs_sub (s0) (sub_nil _) ?_
 refine cs_seq ?_
 refine cs_region (l:=[_,_,_]) ?_
 refine ls_new rfl rfl (by kernel_rfl) 0 (fun g=>.pointer (some ⟨g,0,none⟩)) (.cells ⟨(en (Value.int .u32) a0.1.1++[Value.int .u64 a0.2])⟩ 74) (fun w=>by kernel_rfl) ?_
 intro g1
 refine ls_new rfl rfl (by kernel_rfl) 1 (fun g=>.pointer (some ⟨g,0,none⟩)) (.cells ⟨en (Value.int .u32) a2.1⟩ 69) (fun w=>by kernel_rfl) ?_
 intro g2
 refine ls_new rfl rfl (by kernel_rfl) 2 (fun g=>.pointer (some ⟨g,0,none⟩)) (.cells ⟨en (Value.int .u8) (vrep 32 (0:Int)).1⟩ 28) (fun w=>by kernel_rfl) ?_
 intro g3
 refine ls_end ?_
 refine qn_then ?_
 refine cs_cut (fun f S=>∃ (fR:Fr) (A1_1:Option Addr) (c1_1:Nat) (l1_1:List Int),f=upd (upd (upd (upd fR 1 (.slice A1_1 l1_1.length c1_1)) 3 (.pointer (some ⟨g1,0,none⟩))) 5 (.pointer (some ⟨g2,0,none⟩))) 6 (.pointer (some ⟨g3,0,none⟩))∧S=sput (sput (sput s0 0 (some (Ck.var 74 g1 ((en (Value.int .u32) a0.1.1++[Value.int .u64 a0.2]))))) 1 (some (Ck.var 69 g2 (en (Value.int .u32) a2.1)))) 2 (some (Ck.var 28 g3 (en (Value.int .u8) (vrep 32 (0:Int)).1)))∧Ro b A1_1 (em (Ec.int 5 .u8) l1_1)∧l1_1.length≤c1_1∧shadowboxref03_End.jo1 k a0 a2 l1_1=some r) ?_ ?_
 ·skip
  refine cs_seq ?_
  refine cs_region (l:=[_,_,_]) ?_
  refine lv (.slice A1 l1.length c1) ?_
  refine lv (.int .i64 (l1.length:Int)) ?_
  refine lv (.bool (decide ((l1.length:Int) > (63:Int)))) ?_
  refine ls_end ?_
  refine qn_then ?_
  by_cases q65:(l1.length:Int) > (63:Int)
  ·replace H := ite_t q65 H
   refine cs_know (c:=true) (dec_t q65) 15 (by kernel_rfl) ?_
   refine cs_true (by kernel_rfl) ?_
   refine cs_region (l:=[_,_,_]) ?_
   refine lv (.slice A1 l1.length c1) ?_
   obtain ⟨q66,H⟩ := ite_need H
   obtain ⟨xl71,hy72,H⟩ := lt_some H
   have hz74:0≤((63:Int)).toNat := by omega
   have hz75:((63:Int)).toNat≤l1.length := by omega
   obtain ⟨xA67,xc68,he73,xC70,xR69⟩ := cut_at (A:=A1) (c:=c1) (l:=l1) (Ec.int 5 .u8) 0 (((63:Int)).toNat) hz74 hz75 C1 R1 (m:=xl71) (by rw [← hy72] <;> simp) (z:=1) rfl
   refine ls_cutv (A:=A1) (c:=c1) (m:=l1.length) (z:=1) (e:=5) (a:=0) (b:=((63:Int)).toNat) rfl rfl (by kernel_rfl) rfl (by kernel_rfl) (by kernel_rfl) (by kernel_rfl) (.inl ⟨rfl,rfl⟩) (.inr ⟨.i64,by rw [Int.toNat_of_nonneg (by first | assumption | omega)]; kernel_rfl⟩) hz74 hz75 C1 he73 ?_
   refine lv (.slice xA67 xl71.length xc68) ?_
   refine ls_end ?_
   refine qn_meet (sput (sput (sput s0 0 (some (Ck.var 74 g1 ((en (Value.int .u32) a0.1.1++[Value.int .u64 a0.2]))))) 1 (some (Ck.var 69 g2 (en (Value.int .u32) a2.1)))) 2 (some (Ck.var 28 g3 (en (Value.int .u8) (vrep 32 (0:Int)).1)))) ⟨_,xA67,xc68,xl71,fr_next (fr_next (fr_next (fr_next (rfl) (by kernel_rfl)) (by kernel_rfl)) (by kernel_rfl)) (by kernel_rfl),rfl,xR69,xC70,H⟩ (sub_put (by exact rfl) (sub_put (by exact rfl) (sub_put (by exact rfl) (sub_nil _))))
  replace H := ite_f q65 H
  refine cs_know (c:=false) (dec_f q65) 15 (by kernel_rfl) ?_
  refine cs_false (by kernel_rfl) ?_
  refine cs_skip' ?_
  refine qn_meet (sput (sput (sput s0 0 (some (Ck.var 74 g1 ((en (Value.int .u32) a0.1.1++[Value.int .u64 a0.2]))))) 1 (some (Ck.var 69 g2 (en (Value.int .u32) a2.1)))) 2 (some (Ck.var 28 g3 (en (Value.int .u8) (vrep 32 (0:Int)).1)))) ⟨_,A1,c1,l1,fr_next (fr_next (fr_next (fr_next (rfl) (by kernel_rfl)) (by kernel_rfl)) (by kernel_rfl)) (by kernel_rfl),rfl,R1,C1,H⟩ (sub_put (by exact rfl) (sub_put (by exact rfl) (sub_put (by exact rfl) (sub_nil _))))
 rintro f S ⟨fr1,A1_1,c1_1,l1_1,rfl,rfl,R1_1,C1_1,H⟩
 replace H:(lt (IntKind.wrap .u64 (a0.2+(IntKind.wrap .u64 (l1_1.length:Int)))) fun y4=>(if (([]:List Int).length+l1_1.length)*1≤140737488355328 then (if ((([]:List Int)++l1_1).length+([(128:Int)]).length)*1≤140737488355328 then shadowboxref03_End.lo8 (shadowboxref03_End.jo2 k a0 a2 y4) k ((([]:List Int)++l1_1)++[(128:Int)]) else none) else none))=some r := H
 refine cs_seq ?_
 refine cs_region (l:=[_,_,_,_,_,_,_,_]) ?_
 refine lv (.pointer (some ⟨g1,(0+8),none⟩)) ?_
 refine ls_load (a0:=⟨g1,(0+8),none⟩) (v:=.int .u64 a0.2) (de:=(TypeDesc.int .u64)) rfl rfl (by kernel_rfl) rfl (by kernel_rfl) (by kernel_rfl) (by kernel_rfl) (fun w hs=>(hs.var (k:=0) (by exact rfl) (Sub4.trans (Sub4.all _) (Sub4.skip (n:=8) (len_en _ a0.1) (Sub4.all _))))) ?_
 refine lv (.slice A1_1 l1_1.length c1_1) ?_
 refine lv (.int .i64 (l1_1.length:Int)) ?_
 refine lv (.int .u64 (IntKind.wrap .u64 (l1_1.length:Int))) ?_
 obtain ⟨y4,hy5,H⟩ := lt_some H
 refine lv (.int .u64 (IntKind.wrap .u64 (a0.2+(IntKind.wrap .u64 (l1_1.length:Int))))) ?_
 refine ls_ren 23 (v:=.int .u64 (IntKind.wrap .u64 (a0.2+(IntKind.wrap .u64 (l1_1.length:Int))))) (v' := .int .u64 y4) (by kernel_rfl) (by rw [hy5]) ?_
 refine lv (.int .u64 (IntKind.wrap .u64 ((8:Int)*y4))) ?_
 refine lv (.int .u64 (IntKind.wrap .u64 ((8:Int)*y4))) ?_
 refine ls_end ?_
 refine qn_then ?_
 refine cs_seq ?_
 refine cs_region (l:=[_,_,_,_,_,_]) ?_
 refine ls_lit (Ec.int 5 .u8) 3 rfl rfl (by kernel_rfl) ([]:List Int) (by exact of_decide_eq_true (by kernel_rfl)) (fun w=>by kernel_rfl) ?_
 intro g6
 refine lv (.slice A1_1 l1_1.length c1_1) ?_
 obtain ⟨q7,H⟩ := ite_need H
 refine ls_app (Ec.int 5 .u8) (A:=(some ⟨g6,0,none⟩)) (c:=([]:List Int).length) (B:=A1_1) (cb:=c1_1) (z:=(Value.int .u8 0)) (l:=([]:List Int)) (m:=l1_1) (bytes:=1) 3 rfl rfl (by kernel_rfl) rfl (by kernel_rfl) (by exact rfl) (by kernel_rfl) (fun w hs=>(hs.old R1_1)) (by kernel_rfl) (by kernel_rfl) rfl (by decide) q7 ?_
 intro xA8 xc9
 refine ls_lit (Ec.int 5 .u8) 4 rfl rfl (by kernel_rfl) ([(128:Int)]) (by exact of_decide_eq_true (by kernel_rfl)) (fun w=>by kernel_rfl) ?_
 intro g10
 obtain ⟨q11,H⟩ := ite_need H
 refine ls_app (Ec.int 5 .u8) (A:=xA8) (c:=xc9) (B:=(some ⟨g10,0,none⟩)) (cb:=[(128:Int)].length) (z:=(Value.int .u8 0)) (l:=(([]:List Int)++l1_1)) (m:=[(128:Int)]) (bytes:=1) 3 rfl rfl (by kernel_rfl) rfl (by kernel_rfl) (by exact rfl) (by kernel_rfl) (fun w hs=>(hs.rd (k:=4) (by exact rfl))) (by kernel_rfl) (by kernel_rfl) rfl (by decide) q11 ?_
 intro xA12 xc13
 refine lv (.slice xA12 ((([]:List Int)++l1_1)++[(128:Int)]).length xc13) ?_
 refine ls_end ?_
 refine qn_then ?_
 refine cs_cut (fun f S=>∃ (fR:Fr) (A8_2:Option Addr) (c8_2:Nat) (l8_2:List Int),f=upd (upd (upd (upd (upd fR 3 (.pointer (some ⟨g1,0,none⟩))) 5 (.pointer (some ⟨g2,0,none⟩))) 6 (.pointer (some ⟨g3,0,none⟩))) 7 (.int .u64 (IntKind.wrap .u64 ((8:Int)*y4)))) 8 (.slice A8_2 l8_2.length c8_2)∧S=sput (sput (sput (sput s0 0 (some (Ck.var 74 g1 ((en (Value.int .u32) a0.1.1++[Value.int .u64 a0.2]))))) 1 (some (Ck.var 69 g2 (en (Value.int .u32) a2.1)))) 2 (some (Ck.var 28 g3 (en (Value.int .u8) (vrep 32 (0:Int)).1)))) 3 (some (Ck.sl (Ec.int 5 .u8) A8_2 c8_2 l8_2))∧shadowboxref03_End.jo2 k a0 a2 y4 l8_2=some r) ?_ ?_
 ·skip
  refine cs_block ?_
  refine cs_sub (sput (sput (sput (sput s0 0 (some (Ck.var 74 g1 ((en (Value.int .u32) a0.1.1++[Value.int .u64 a0.2]))))) 1 (some (Ck.var 69 g2 (en (Value.int .u32) a2.1)))) 2 (some (Ck.var 28 g3 (en (Value.int .u8) (vrep 32 (0:Int)).1)))) 3 (some (Ck.sl (Ec.int 5 .u8) xA12 xc13 ((([]:List Int)++l1_1)++[(128:Int)])))) (sub_put (by exact rfl) (sub_put (by exact rfl) (sub_put (by exact rfl) (sub_put (by exact rfl) (sub_nil _))))) ?_
  refine cs_loop (fun kk f S=>∃ (fR:Fr) (A8_8:Option Addr) (c8_8:Nat) (l8_8:List Int),f=upd (upd (upd (upd (upd fR 3 (.pointer (some ⟨g1,0,none⟩))) 5 (.pointer (some ⟨g2,0,none⟩))) 6 (.pointer (some ⟨g3,0,none⟩))) 7 (.int .u64 (IntKind.wrap .u64 ((8:Int)*y4)))) 8 (.slice A8_8 l8_8.length c8_8)∧S=sput (sput (sput (sput s0 0 (some (Ck.var 74 g1 ((en (Value.int .u32) a0.1.1++[Value.int .u64 a0.2]))))) 1 (some (Ck.var 69 g2 (en (Value.int .u32) a2.1)))) 2 (some (Ck.var 28 g3 (en (Value.int .u8) (vrep 32 (0:Int)).1)))) 3 (some (Ck.sl (Ec.int 5 .u8) A8_8 c8_8 l8_8))∧shadowboxref03_End.lo8 (shadowboxref03_End.jo2 k a0 a2 y4) kk l8_8=some r) k ?_ ?_ ?_
  ·exact ⟨_,xA12,xc13,((([]:List Int)++l1_1)++[(128:Int)]),fr_next (fr_next (fr_next (fr_next (fr_next (rfl) (by kernel_rfl)) (by kernel_rfl)) (by kernel_rfl)) (by kernel_rfl)) (by kernel_rfl),rfl,H⟩
  ·rintro f S ⟨fr8,A8_8,c8_8,l8_8,rfl,rfl,H⟩; cases H
  rintro k8 f S ⟨fr8,A8_8,c8_8,l8_8,rfl,rfl,H⟩
  replace H:((if (Int.tmod (l8_8.length:Int) (64:Int))=(56:Int) then (shadowboxref03_End.jo2 k a0 a2 y4) l8_8 else (if (l8_8.length+([(0:Int)]).length)*1≤140737488355328 then (shadowboxref03_End.lo8 (shadowboxref03_End.jo2 k a0 a2 y4) k8) (l8_8++[(0:Int)]) else none)))=some r := H
  refine cs_seq ?_
  refine cs_seq ?_
  refine cs_region (l:=[_,_,_,_]) ?_
  refine lv (.slice A8_8 l8_8.length c8_8) ?_
  refine lv (.int .i64 (l8_8.length:Int)) ?_
  refine lv (.int .i64 (Int.tmod (l8_8.length:Int) (64:Int))) ?_
  refine lv (.bool (!decide ((Int.tmod (l8_8.length:Int) (64:Int))=(56:Int)))) ?_
  refine ls_end ?_
  refine qn_then ?_
  by_cases q60:(Int.tmod (l8_8.length:Int) (64:Int))=(56:Int)
  ·replace H := ite_t q60 H
   refine cs_know (c:=false) (congrArg Bool.not (dec_t q60)) 33 (by kernel_rfl) ?_
   refine cs_false (by kernel_rfl) ?_
   refine cs_exit' ?_
   refine qx_then ?_
   refine qx_then ?_
   refine qx_same ?_
   refine qn_meet (sput (sput (sput (sput s0 0 (some (Ck.var 74 g1 ((en (Value.int .u32) a0.1.1++[Value.int .u64 a0.2]))))) 1 (some (Ck.var 69 g2 (en (Value.int .u32) a2.1)))) 2 (some (Ck.var 28 g3 (en (Value.int .u8) (vrep 32 (0:Int)).1)))) 3 (some (Ck.sl (Ec.int 5 .u8) A8_8 c8_8 l8_8))) ⟨_,A8_8,c8_8,l8_8,fr_next (fr_next (fr_next (fr_next (fr_next (rfl) (by kernel_rfl)) (by kernel_rfl)) (by kernel_rfl)) (by kernel_rfl)) (by kernel_rfl),rfl,H⟩ (sub_put (by exact rfl) (sub_put (by exact rfl) (sub_put (by exact rfl) (sub_put (by exact rfl) (sub_nil _)))))
  replace H := ite_f q60 H
  refine cs_know (c:=true) (congrArg Bool.not (dec_f q60)) 33 (by kernel_rfl) ?_
  refine cs_true (by kernel_rfl) ?_
  refine cs_skip' ?_
  refine qn_then ?_
  refine cs_block ?_
  refine cs_region (l:=[_,_,_,_]) ?_
  refine lv (.slice A8_8 l8_8.length c8_8) ?_
  refine ls_lit (Ec.int 5 .u8) 5 rfl rfl (by kernel_rfl) ([(0:Int)]) (by exact of_decide_eq_true (by kernel_rfl)) (fun w=>by kernel_rfl) ?_
  intro g61
  obtain ⟨q62,H⟩ := ite_need H
  refine ls_app (Ec.int 5 .u8) (A:=A8_8) (c:=c8_8) (B:=(some ⟨g61,0,none⟩)) (cb:=[(0:Int)].length) (z:=(Value.int .u8 0)) (l:=l8_8) (m:=[(0:Int)]) (bytes:=1) 3 rfl rfl (by kernel_rfl) rfl (by kernel_rfl) (by exact rfl) (by kernel_rfl) (fun w hs=>(hs.rd (k:=5) (by exact rfl))) (by kernel_rfl) (by kernel_rfl) rfl (by decide) q62 ?_
  intro xA63 xc64
  refine lv (.slice xA63 (l8_8++[(0:Int)]).length xc64) ?_
  refine ls_end ?_
  refine qn_block ?_
  refine qn_again k8 (sput (sput (sput (sput s0 0 (some (Ck.var 74 g1 ((en (Value.int .u32) a0.1.1++[Value.int .u64 a0.2]))))) 1 (some (Ck.var 69 g2 (en (Value.int .u32) a2.1)))) 2 (some (Ck.var 28 g3 (en (Value.int .u8) (vrep 32 (0:Int)).1)))) 3 (some (Ck.sl (Ec.int 5 .u8) xA63 xc64 (l8_8++[(0:Int)])))) (Nat.le_refl _) ⟨_,xA63,xc64,(l8_8++[(0:Int)]),fr_next (fr_next (fr_next (fr_next (fr_next (rfl) (by kernel_rfl)) (by kernel_rfl)) (by kernel_rfl)) (by kernel_rfl)) (by kernel_rfl),rfl,H⟩ (sub_put (by exact rfl) (sub_put (by exact rfl) (sub_put (by exact rfl) (sub_put (by exact rfl) (sub_nil _)))))
 rintro f S ⟨fr2,A8_2,c8_2,l8_2,rfl,rfl,H⟩
 replace H:(shadowboxref03_End.lo7 y4 (shadowboxref03_End.jo3 k a0 a2) k l8_2 (7:Int))=some r := H
 refine cs_cut (fun f S=>∃ (fR:Fr) (A8_3:Option Addr) (c8_3:Nat) (l8_3:List Int),f=upd (upd (upd (upd fR 3 (.pointer (some ⟨g1,0,none⟩))) 5 (.pointer (some ⟨g2,0,none⟩))) 6 (.pointer (some ⟨g3,0,none⟩))) 8 (.slice A8_3 l8_3.length c8_3)∧S=sput (sput (sput (sput s0 0 (some (Ck.var 74 g1 ((en (Value.int .u32) a0.1.1++[Value.int .u64 a0.2]))))) 1 (some (Ck.var 69 g2 (en (Value.int .u32) a2.1)))) 2 (some (Ck.var 28 g3 (en (Value.int .u8) (vrep 32 (0:Int)).1)))) 3 (some (Ck.sl (Ec.int 5 .u8) A8_3 c8_3 l8_3))∧shadowboxref03_End.jo3 k a0 a2 l8_3=some r) ?_ ?_
 ·skip
  refine cs_seq ?_
  refine cs_region (l:=[_]) ?_
  refine lv (.int .i64 (7:Int)) ?_
  refine ls_end ?_
  refine qn_then ?_
  refine cs_block ?_
  refine cs_sub (sput (sput (sput (sput s0 0 (some (Ck.var 74 g1 ((en (Value.int .u32) a0.1.1++[Value.int .u64 a0.2]))))) 1 (some (Ck.var 69 g2 (en (Value.int .u32) a2.1)))) 2 (some (Ck.var 28 g3 (en (Value.int .u8) (vrep 32 (0:Int)).1)))) 3 (some (Ck.sl (Ec.int 5 .u8) A8_2 c8_2 l8_2))) (sub_put (by exact rfl) (sub_put (by exact rfl) (sub_put (by exact rfl) (sub_put (by exact rfl) (sub_nil _))))) ?_
  refine cs_loop (fun kk f S=>∃ (fR:Fr) (A8_7:Option Addr) (c8_7:Nat) (l8_7:List Int) (x9_7:Int),f=upd (upd (upd (upd (upd (upd fR 3 (.pointer (some ⟨g1,0,none⟩))) 5 (.pointer (some ⟨g2,0,none⟩))) 6 (.pointer (some ⟨g3,0,none⟩))) 7 (.int .u64 (IntKind.wrap .u64 ((8:Int)*y4)))) 8 (.slice A8_7 l8_7.length c8_7)) 9 (.int .i64 x9_7)∧S=sput (sput (sput (sput s0 0 (some (Ck.var 74 g1 ((en (Value.int .u32) a0.1.1++[Value.int .u64 a0.2]))))) 1 (some (Ck.var 69 g2 (en (Value.int .u32) a2.1)))) 2 (some (Ck.var 28 g3 (en (Value.int .u8) (vrep 32 (0:Int)).1)))) 3 (some (Ck.sl (Ec.int 5 .u8) A8_7 c8_7 l8_7))∧shadowboxref03_End.lo7 y4 (shadowboxref03_End.jo3 k a0 a2) kk l8_7 x9_7=some r) k ?_ ?_ ?_
  ·exact ⟨_,A8_2,c8_2,l8_2,(7:Int),fr_next (fr_next (fr_next (fr_next (fr_next (fr_next (rfl) (by kernel_rfl)) (by kernel_rfl)) (by kernel_rfl)) (by kernel_rfl)) (by kernel_rfl)) (by kernel_rfl),rfl,H⟩
  ·rintro f S ⟨fr7,A8_7,c8_7,l8_7,x9_7,rfl,rfl,H⟩; cases H
  rintro k7 f S ⟨fr7,A8_7,c8_7,l8_7,x9_7,rfl,rfl,H⟩
  replace H:((if x9_7≥(0:Int) then lt (IntKind.wrap .u64 (IntKind.wrap .i64 ((8:Int)*x9_7))) fun y51=>(if 0≤y51 then lt (shrv .u64 (IntKind.wrap .u64 ((8:Int)*y4)) y51) fun y54=>(if (l8_7.length+([IntKind.wrap .u8 y54]).length)*1≤140737488355328 then (shadowboxref03_End.lo7 y4 (shadowboxref03_End.jo3 k a0 a2) k7) (l8_7++[IntKind.wrap .u8 y54]) (IntKind.wrap .i64 (x9_7 - (1:Int))) else none) else none) else (shadowboxref03_End.jo3 k a0 a2) l8_7))=some r := H
  refine cs_seq ?_
  refine cs_seq ?_
  refine cs_region (l:=[_,_]) ?_
  refine lv (.int .i64 x9_7) ?_
  refine lv (.bool (decide (x9_7≥(0:Int)))) ?_
  refine ls_end ?_
  refine qn_then ?_
  by_cases q50:x9_7≥(0:Int)
  ·replace H := ite_t q50 H
   refine cs_know (c:=true) (dec_t q50) 38 (by kernel_rfl) ?_
   refine cs_true (by kernel_rfl) ?_
   refine cs_skip' ?_
   refine qn_then ?_
   refine cs_seq ?_
   refine cs_block ?_
   refine cs_region (l:=[_,_,_,_,_,_,_,_,_,_]) ?_
   refine lv (.slice A8_7 l8_7.length c8_7) ?_
   refine lv (.int .u64 (IntKind.wrap .u64 ((8:Int)*y4))) ?_
   refine lv (.int .i64 x9_7) ?_
   refine lv (.int .i64 (IntKind.wrap .i64 ((8:Int)*x9_7))) ?_
   obtain ⟨y51,hy52,H⟩ := lt_some H
   refine lv (.int .u64 (IntKind.wrap .u64 (IntKind.wrap .i64 ((8:Int)*x9_7)))) ?_
   refine ls_ren 45 (v:=.int .u64 (IntKind.wrap .u64 (IntKind.wrap .i64 ((8:Int)*x9_7)))) (v' := .int .u64 y51) (by kernel_rfl) (by rw [hy52]) ?_
   obtain ⟨q53,H⟩ := ite_need H
   obtain ⟨y54,hy55,H⟩ := lt_some H
   refine ls_shiftr (k:=.u64) (yk:=.u64) (x:=(IntKind.wrap .u64 ((8:Int)*y4))) (y:=y51) rfl rfl (by kernel_rfl) (fun w=>by kernel_rfl) q53 ?_
   refine ls_ren 46 (v:=.int .u64 (shrv .u64 (IntKind.wrap .u64 ((8:Int)*y4)) y51)) (v' := .int .u64 y54) (by kernel_rfl) (by rw [hy55]) ?_
   refine lv (.int .u8 (IntKind.wrap .u8 y54)) ?_
   refine ls_lit (Ec.int 5 .u8) 5 rfl rfl (by kernel_rfl) ([IntKind.wrap .u8 y54]) (by exact of_decide_eq_true (by kernel_rfl)) (fun w=>by kernel_rfl) ?_
   intro g56
   obtain ⟨q57,H⟩ := ite_need H
   refine ls_app (Ec.int 5 .u8) (A:=A8_7) (c:=c8_7) (B:=(some ⟨g56,0,none⟩)) (cb:=[IntKind.wrap .u8 y54].length) (z:=(Value.int .u8 0)) (l:=l8_7) (m:=[IntKind.wrap .u8 y54]) (bytes:=1) 3 rfl rfl (by kernel_rfl) rfl (by kernel_rfl) (by exact rfl) (by kernel_rfl) (fun w hs=>(hs.rd (k:=5) (by exact rfl))) (by kernel_rfl) (by kernel_rfl) rfl (by decide) q57 ?_
   intro xA58 xc59
   refine lv (.slice xA58 (l8_7++[IntKind.wrap .u8 y54]).length xc59) ?_
   refine ls_end ?_
   refine qn_block ?_
   refine qn_then ?_
   refine cs_region (l:=[_,_,_]) ?_
   refine lv (.int .i64 x9_7) ?_
   refine lv (.int .i64 (IntKind.wrap .i64 (x9_7 - (1:Int)))) ?_
   refine lv (.int .i64 (IntKind.wrap .i64 (x9_7 - (1:Int)))) ?_
   refine ls_end ?_
   refine qn_again k7 (sput (sput (sput (sput s0 0 (some (Ck.var 74 g1 ((en (Value.int .u32) a0.1.1++[Value.int .u64 a0.2]))))) 1 (some (Ck.var 69 g2 (en (Value.int .u32) a2.1)))) 2 (some (Ck.var 28 g3 (en (Value.int .u8) (vrep 32 (0:Int)).1)))) 3 (some (Ck.sl (Ec.int 5 .u8) xA58 xc59 (l8_7++[IntKind.wrap .u8 y54])))) (Nat.le_refl _) ⟨_,xA58,xc59,(l8_7++[IntKind.wrap .u8 y54]),(IntKind.wrap .i64 (x9_7 - (1:Int))),fr_next (fr_next (fr_next (fr_next (fr_next (fr_next (rfl) (by kernel_rfl)) (by kernel_rfl)) (by kernel_rfl)) (by kernel_rfl)) (by kernel_rfl)) (by kernel_rfl),rfl,H⟩ (sub_put (by exact rfl) (sub_put (by exact rfl) (sub_put (by exact rfl) (sub_put (by exact rfl) (sub_nil _)))))
  replace H := ite_f q50 H
  refine cs_know (c:=false) (dec_f q50) 38 (by kernel_rfl) ?_
  refine cs_false (by kernel_rfl) ?_
  refine cs_exit' ?_
  refine qx_then ?_
  refine qx_then ?_
  refine qx_same ?_
  refine qn_meet (sput (sput (sput (sput s0 0 (some (Ck.var 74 g1 ((en (Value.int .u32) a0.1.1++[Value.int .u64 a0.2]))))) 1 (some (Ck.var 69 g2 (en (Value.int .u32) a2.1)))) 2 (some (Ck.var 28 g3 (en (Value.int .u8) (vrep 32 (0:Int)).1)))) 3 (some (Ck.sl (Ec.int 5 .u8) A8_7 c8_7 l8_7))) ⟨_,A8_7,c8_7,l8_7,fr_next (fr_next (fr_next (fr_next (rfl) (by kernel_rfl)) (by kernel_rfl)) (by kernel_rfl)) (by kernel_rfl),rfl,H⟩ (sub_put (by exact rfl) (sub_put (by exact rfl) (sub_put (by exact rfl) (sub_put (by exact rfl) (sub_nil _)))))
 rintro f S ⟨fr3,A8_3,c8_3,l8_3,rfl,rfl,H⟩
 replace H:(shadowboxref03_End.lo6 a2 l8_3 (shadowboxref03_End.jo4 k) k (0:Int) a0)=some r := H
 refine cs_cut (fun f S=>∃ (fR:Fr) (m0_4:((Vc Int 8) × Int)),f=upd (upd fR 3 (.pointer (some ⟨g1,0,none⟩))) 6 (.pointer (some ⟨g3,0,none⟩))∧S=sput (sput s0 0 (some (Ck.var 74 g1 ((en (Value.int .u32) m0_4.1.1++[Value.int .u64 m0_4.2]))))) 2 (some (Ck.var 28 g3 (en (Value.int .u8) (vrep 32 (0:Int)).1)))∧shadowboxref03_End.jo4 k m0_4=some r) ?_ ?_
 ·skip
  refine cs_seq ?_
  refine cs_region (l:=[_]) ?_
  refine lv (.int .i64 (0:Int)) ?_
  refine ls_end ?_
  refine qn_then ?_
  refine cs_block ?_
  refine cs_sub (sput (sput (sput (sput s0 0 (some (Ck.var 74 g1 ((en (Value.int .u32) a0.1.1++[Value.int .u64 a0.2]))))) 1 (some (Ck.var 69 g2 (en (Value.int .u32) a2.1)))) 2 (some (Ck.var 28 g3 (en (Value.int .u8) (vrep 32 (0:Int)).1)))) 3 (some (Ck.sl (Ec.int 5 .u8) A8_3 c8_3 l8_3))) (sub_put (by exact rfl) (sub_put (by exact rfl) (sub_put (by exact rfl) (sub_put (by exact rfl) (sub_nil _))))) ?_
  refine cs_loop (fun kk f S=>∃ (fR:Fr) (x10_6:Int) (m0_6:((Vc Int 8) × Int)),f=upd (upd (upd (upd (upd fR 3 (.pointer (some ⟨g1,0,none⟩))) 5 (.pointer (some ⟨g2,0,none⟩))) 6 (.pointer (some ⟨g3,0,none⟩))) 8 (.slice A8_3 l8_3.length c8_3)) 10 (.int .i64 x10_6)∧S=sput (sput (sput (sput s0 0 (some (Ck.var 74 g1 ((en (Value.int .u32) m0_6.1.1++[Value.int .u64 m0_6.2]))))) 1 (some (Ck.var 69 g2 (en (Value.int .u32) a2.1)))) 2 (some (Ck.var 28 g3 (en (Value.int .u8) (vrep 32 (0:Int)).1)))) 3 (some (Ck.sl (Ec.int 5 .u8) A8_3 c8_3 l8_3))∧shadowboxref03_End.lo6 a2 l8_3 (shadowboxref03_End.jo4 k) kk x10_6 m0_6=some r) k ?_ ?_ ?_
  ·exact ⟨_,(0:Int),a0,fr_next (fr_next (fr_next (fr_next (fr_next (rfl) (by kernel_rfl)) (by kernel_rfl)) (by kernel_rfl)) (by kernel_rfl)) (by kernel_rfl),rfl,H⟩
  ·rintro f S ⟨fr6,x10_6,m0_6,rfl,rfl,H⟩; cases H
  rintro k6 f S ⟨fr6,x10_6,m0_6,rfl,rfl,H⟩
  replace H:((if x10_6<(l8_3.length:Int) then (if 0≤IntKind.wrap .i64 (x10_6+(64:Int)) then (if IntKind.wrap .i64 (x10_6+(64:Int))≤(l8_3.length:Int) then (if 0≤x10_6 then (if x10_6≤IntKind.wrap .i64 (x10_6+(64:Int)) then lt ((l8_3.take (IntKind.wrap .i64 (x10_6+(64:Int))).toNat).drop (x10_6).toNat) fun xl42=>(shadowboxref03_Block.f k6 m0_6 xl42 a2).bind fun t47=>(shadowboxref03_End.lo6 a2 l8_3 (shadowboxref03_End.jo4 k) k6) (IntKind.wrap .i64 (x10_6+(64:Int))) t47 else none) else none) else none) else none) else (shadowboxref03_End.jo4 k) m0_6))=some r := H
  refine cs_seq ?_
  refine cs_seq ?_
  refine cs_region (l:=[_,_,_,_]) ?_
  refine lv (.int .i64 x10_6) ?_
  refine lv (.slice A8_3 l8_3.length c8_3) ?_
  refine lv (.int .i64 (l8_3.length:Int)) ?_
  refine lv (.bool (decide (x10_6<(l8_3.length:Int)))) ?_
  refine ls_end ?_
  refine qn_then ?_
  by_cases q30:x10_6<(l8_3.length:Int)
  ·replace H := ite_t q30 H
   refine cs_know (c:=true) (dec_t q30) 53 (by kernel_rfl) ?_
   refine cs_true (by kernel_rfl) ?_
   refine cs_skip' ?_
   refine qn_then ?_
   refine cs_seq ?_
   refine cs_block ?_
   obtain ⟨s32_0,hs32_0⟩ := exv (.agg ⟨(en (Value.int .u32) m0_6.1.1++[Value.int .u64 m0_6.2])⟩)
   refine have_opa shadowboxref03_End.tab30 5 0 (fun sp=>sp 0=s32_0) (fun sp on hA hon=>?_) (fun ops32_0=>?_)
   ·refine ⟨fun o ho vs Rs f' S' w hp hf hx hS hR hs=>?_⟩
    obtain rfl := Option.some.inj ho
    rw [hA,hs32_0]
    refine wn hon ?_
    have hF := fr_next (rfl) ((hx 3 (by kernel_rfl)).trans (by kernel_rfl:(_:Value)=.pointer (some ⟨g1,0,none⟩)))
    refine ls_fr hF ?_
    refine ls_loadagg (a:=⟨g1,0,none⟩) (sub:=(en (Value.int .u32) m0_6.1.1++[Value.int .u64 m0_6.2])) rfl rfl (by kernel_rfl) rfl (by kernel_rfl) (by kernel_rfl) (by kernel_rfl) (len_app (len_en _ m0_6.1) (len1 _)) (fun w1 hs1=>Rd.step (hs.vars (k:=0) ((hS 0 (by kernel_rfl)).trans (by exact rfl)) (Sub4.all _)) hs1.below.bw) ?_
    exact ls_fin s0 _ (congrArg (fun z=>upd z 56 _) hF.symm) ⟨rfl,rfl⟩ (sub_nil _)
   obtain ⟨s32_1,hs32_1⟩ := exv (.slice A8_3 l8_3.length c8_3)
   refine have_opa shadowboxref03_End.tab30 5 1 (fun sp=>sp 1=s32_1) (fun sp on hA hon=>?_) (fun ops32_1=>?_)
   ·refine ⟨fun o ho vs Rs f' S' w hp hf hx hS hR hs=>?_⟩
    obtain rfl := Option.some.inj ho
    exact opv (.slice A8_3 l8_3.length c8_3) hA hs32_1 hon (fr_next (rfl) ((hx 8 (by kernel_rfl)).trans (by kernel_rfl:(_:Value)=.slice A8_3 l8_3.length c8_3)))
   obtain ⟨s32_2,hs32_2⟩ := exv (.int .i64 x10_6)
   refine have_opa shadowboxref03_End.tab30 5 2 (fun sp=>sp 2=s32_2) (fun sp on hA hon=>?_) (fun ops32_2=>?_)
   ·refine ⟨fun o ho vs Rs f' S' w hp hf hx hS hR hs=>?_⟩
    obtain rfl := Option.some.inj ho
    exact opv (.int .i64 x10_6) hA hs32_2 hon (fr_next (rfl) ((hx 10 (by kernel_rfl)).trans (by kernel_rfl:(_:Value)=.int .i64 x10_6)))
   obtain ⟨s32_3,hs32_3⟩ := exv (.int .i64 x10_6)
   refine have_opa shadowboxref03_End.tab30 5 3 (fun sp=>sp 3=s32_3) (fun sp on hA hon=>?_) (fun ops32_3=>?_)
   ·refine ⟨fun o ho vs Rs f' S' w hp hf hx hS hR hs=>?_⟩
    obtain rfl := Option.some.inj ho
    exact opv (.int .i64 x10_6) hA hs32_3 hon (fr_next (rfl) ((hx 10 (by kernel_rfl)).trans (by kernel_rfl:(_:Value)=.int .i64 x10_6)))
   obtain ⟨s32_4,hs32_4⟩ := exv (.int .i64 (IntKind.wrap .i64 (x10_6+(64:Int))))
   refine have_opa shadowboxref03_End.tab30 5 4 (fun sp=>sp 4=s32_4∧sp 3=s32_3) (fun sp on hA hon=>?_) (fun ops32_4=>?_)
   ·refine ⟨fun o ho vs Rs f' S' w hp hf hx hS hR hs=>?_⟩
    obtain rfl := Option.some.inj ho
    obtain ⟨hv3,hR3⟩ := (spe hA.2 hs32_3 (hp 3 (by kernel_rfl)))
    exact opv (.int .i64 (IntKind.wrap .i64 (x10_6+(64:Int)))) hA.1 hs32_4 hon (fr_next (rfl) ((hf 3 59 (by kernel_rfl) rfl).trans hv3))
   obtain ⟨q34,H⟩ := ite_need H
   obtain ⟨q35,H⟩ := ite_need H
   obtain ⟨q36,H⟩ := ite_need H
   obtain ⟨q37,H⟩ := ite_need H
   obtain ⟨xl42,hy43,H⟩ := lt_some H
   have hz45:(x10_6).toNat≤(IntKind.wrap .i64 (x10_6+(64:Int))).toNat := by omega
   have hz46:(IntKind.wrap .i64 (x10_6+(64:Int))).toNat≤l8_3.length := by omega
   refine cs_cap (T:=(Ec.int 5 .u8)) (tk:=3) (by exact rfl) ?_
   intro hC33
   obtain ⟨xA38,xc39,he44,xC41,xR40⟩ := cutr_at (A:=A8_3) (c:=c8_3) (l:=l8_3) (Ec.int 5 .u8) ((x10_6).toNat) ((IntKind.wrap .i64 (x10_6+(64:Int))).toNat) hz45 hz46 hC33 (m:=xl42) (by rw [← hy43] <;> simp) (z:=1) rfl
   obtain ⟨s32_5,hs32_5⟩ := exv (.slice xA38 xl42.length xc39)
   refine have_opa shadowboxref03_End.tab30 5 5 (fun sp=>sp 5=s32_5∧sp 1=s32_1∧sp 2=s32_2∧sp 4=s32_4) (fun sp on hA hon=>?_) (fun ops32_5=>?_)
   ·refine ⟨fun o ho vs Rs f' S' w hp hf hx hS hR hs=>?_⟩
    obtain rfl := Option.some.inj ho
    obtain ⟨hv1,hR1⟩ := (spe hA.2.1 hs32_1 (hp 1 (by kernel_rfl)))
    obtain ⟨hv2,hR2⟩ := (spe hA.2.2.1 hs32_2 (hp 2 (by kernel_rfl)))
    obtain ⟨hv4,hR4⟩ := (spe hA.2.2.2 hs32_4 (hp 4 (by kernel_rfl)))
    rw [hA.1,hs32_5]
    refine wn hon ?_
    have hF := fr_next (fr_next (fr_next (rfl) ((hf 1 57 (by kernel_rfl) rfl).trans hv1)) ((hf 2 58 (by kernel_rfl) rfl).trans hv2)) ((hf 4 60 (by kernel_rfl) rfl).trans hv4)
    refine ls_fr hF ?_
    refine ls_cutv (A:=A8_3) (c:=c8_3) (m:=l8_3.length) (z:=1) (e:=5) (a:=(x10_6).toNat) (b:=(IntKind.wrap .i64 (x10_6+(64:Int))).toNat) rfl rfl (by kernel_rfl) rfl (by kernel_rfl) (by kernel_rfl) (by kernel_rfl) (.inr ⟨.i64,by rw [Int.toNat_of_nonneg (by first | assumption | omega)]; kernel_rfl⟩) (.inr ⟨.i64,by rw [Int.toNat_of_nonneg (by first | assumption | omega)]; kernel_rfl⟩) hz45 hz46 hC33 he44 ?_
    exact ls_fin s0 _ (congrArg (fun z=>upd z 61 _) hF.symm) ⟨rfl,rfl⟩ (sub_nil _)
   obtain ⟨s32_6,hs32_6⟩ := exv (.agg ⟨en (Value.int .u32) a2.1⟩)
   refine have_opa shadowboxref03_End.tab30 5 6 (fun sp=>sp 6=s32_6) (fun sp on hA hon=>?_) (fun ops32_6=>?_)
   ·refine ⟨fun o ho vs Rs f' S' w hp hf hx hS hR hs=>?_⟩
    obtain rfl := Option.some.inj ho
    rw [hA,hs32_6]
    refine wn hon ?_
    have hF := fr_next (rfl) ((hx 5 (by kernel_rfl)).trans (by kernel_rfl:(_:Value)=.pointer (some ⟨g2,0,none⟩)))
    refine ls_fr hF ?_
    refine ls_loadagg (a:=⟨g2,0,none⟩) (sub:=en (Value.int .u32) a2.1) rfl rfl (by kernel_rfl) rfl (by kernel_rfl) (by kernel_rfl) (by kernel_rfl) (len_en _ a2) (fun w1 hs1=>Rd.step (hs.vars (k:=1) ((hS 1 (by kernel_rfl)).trans (by exact rfl)) (Sub4.all _)) hs1.below.bw) ?_
    exact ls_fin s0 _ (congrArg (fun z=>upd z 62 _) hF.symm) ⟨rfl,rfl⟩ (sub_nil _)
   refine cs_draw shadowboxref03_End.tab30 7 5 (spl [s32_0,s32_1,s32_2,s32_3,s32_4,s32_5,s32_6]) (onl [true,true,true,true,true,true,true]) (by kernel_rfl) (by kernel_rfl) (by kernel_rfl) (by kernel_rfl) (rs:=[_,_]) rfl (by kernel_rfl) (by kernel_rfl) (all_snoc (all_snoc (all_snoc (all_snoc (all_snoc (all_snoc (all_snoc (all_nil) (ops32_0 _ _ rfl rfl)) (ops32_1 _ _ rfl rfl)) (ops32_2 _ _ rfl rfl)) (ops32_3 _ _ rfl rfl)) (ops32_4 _ _ ⟨rfl,rfl⟩ rfl)) (ops32_5 _ _ ⟨rfl,rfl,rfl,rfl⟩ rfl)) (ops32_6 _ _ rfl rfl)) ?_
   intro vs Rs f' S' hp hf hx hS hR
   obtain ⟨hv0,hR0⟩ := (spe rfl hs32_0 (hp 0 (by kernel_rfl)))
   obtain ⟨hv5,hR5⟩ := (spe rfl hs32_5 (hp 5 (by kernel_rfl)))
   obtain ⟨hv6,hR6⟩ := (spe rfl hs32_6 (hp 6 (by kernel_rfl)))
   refine ls_fr (F:=upd (upd (upd (upd (upd (upd (upd (upd f' 3 (.pointer (some ⟨g1,0,none⟩))) 5 (.pointer (some ⟨g2,0,none⟩))) 6 (.pointer (some ⟨g3,0,none⟩))) 8 (.slice A8_3 l8_3.length c8_3)) 10 (.int .i64 x10_6)) 56 (.agg ⟨(en (Value.int .u32) m0_6.1.1++[Value.int .u64 m0_6.2])⟩)) 61 (.slice xA38 xl42.length xc39)) 62 (.agg ⟨en (Value.int .u32) a2.1⟩)) (fr_next (fr_next (fr_next (fr_next (fr_next (fr_next (fr_next (fr_next (rfl) ((hx 3 (by kernel_rfl)).trans (by kernel_rfl:(_:Value)=.pointer (some ⟨g1,0,none⟩)))) ((hx 5 (by kernel_rfl)).trans (by kernel_rfl:(_:Value)=.pointer (some ⟨g2,0,none⟩)))) ((hx 6 (by kernel_rfl)).trans (by kernel_rfl:(_:Value)=.pointer (some ⟨g3,0,none⟩)))) ((hx 8 (by kernel_rfl)).trans (by kernel_rfl:(_:Value)=.slice A8_3 l8_3.length c8_3))) ((hx 10 (by kernel_rfl)).trans (by kernel_rfl:(_:Value)=.int .i64 x10_6))) ((hf 0 56 (by kernel_rfl) rfl).trans hv0)) ((hf 5 61 (by kernel_rfl) rfl).trans hv5)) ((hf 6 62 (by kernel_rfl) rfl).trans hv6)) ?_
   refine ls_sub (sput (sput (sput (sput s0 0 (some (Ck.var 74 g1 ((en (Value.int .u32) m0_6.1.1++[Value.int .u64 m0_6.2]))))) 1 (some (Ck.var 69 g2 (en (Value.int .u32) a2.1)))) 2 (some (Ck.var 28 g3 (en (Value.int .u8) (vrep 32 (0:Int)).1)))) 3 (some (Ck.sl (Ec.int 5 .u8) A8_3 c8_3 l8_3))) (sub_put ((hS 3 (by kernel_rfl)).trans (by exact rfl)) (sub_put ((hS 2 (by kernel_rfl)).trans (by exact rfl)) (sub_put ((hS 1 (by kernel_rfl)).trans (by exact rfl)) (sub_put ((hS 0 (by kernel_rfl)).trans (by exact rfl)) (sub_nil _))))) ?_
   obtain ⟨t47,hc48,H⟩ := bind_some H
   refine ls_callb (fid:=37) (vals:=#[.agg ⟨(en (Value.int .u32) m0_6.1.1++[Value.int .u64 m0_6.2])⟩,.slice xA38 xl42.length xc39,.agg ⟨en (Value.int .u32) a2.1⟩]) (X:=Unit) (fun x=>.agg ⟨(en (Value.int .u32) t47.1.1++[Value.int .u64 t47.2])⟩) (fun x=>stl []) [] [3] [] [Ck.sl (Ec.int 5 .u8) A8_3 c8_3 l8_3] 61 rfl rfl (by kernel_rfl) (fun w=>by kernel_rfl) trivial ⟨by exact rfl,trivial⟩ (by decide) (fun w hs hb=>shadowboxref03_Block.calls k6 m0_6 xA38 xc39 xl42 a2 t47 (lent b w [] [Ck.sl (Ec.int 5 .u8) A8_3 c8_3 l8_3]) hb (Rd.ror (xR40.1 _ (hs.rd (k:=3) (by exact rfl))) (.head _) (cut_key xR40.2 Ck.sl_key)) xC41 hc48) ?_
   intro x49
   refine ls_storec (g:=g1) (off:=0) (v:=.agg ⟨(en (Value.int .u32) t47.1.1++[Value.int .u64 t47.2])⟩) (vs:=(en (Value.int .u32) t47.1.1++[Value.int .u64 t47.2])) (cs:=(en (Value.int .u32) m0_6.1.1++[Value.int .u64 m0_6.2])) (ty:=74) 0 rfl rfl rfl (by kernel_rfl) (by kernel_rfl) (by kernel_rfl) (by exact rfl) (by kernel_rfl) (len_app (len_en _ t47.1) (len1 _)) (one_app (one_en (fun _=>rfl) _) (one_cons rfl one_nil)) (hl_of (Sub4.all _) (len_eq (len_app (len_en _ t47.1) (len1 _)) (len_app (len_en _ m0_6.1) (len1 _)))) (cs' := (en (Value.int .u32) t47.1.1++[Value.int .u64 t47.2])) (splc_all (len_eq (len_app (len_en _ t47.1) (len1 _)) (len_app (len_en _ m0_6.1) (len1 _)))) ?_
   refine ls_end ?_
   refine qn_block ?_
   refine qn_then ?_
   refine cs_region (l:=[_,_,_]) ?_
   refine lv (.int .i64 x10_6) ?_
   refine lv (.int .i64 (IntKind.wrap .i64 (x10_6+(64:Int)))) ?_
   refine lv (.int .i64 (IntKind.wrap .i64 (x10_6+(64:Int)))) ?_
   refine ls_end ?_
   refine qn_again k6 (sput (sput (sput (sput s0 0 (some (Ck.var 74 g1 ((en (Value.int .u32) t47.1.1++[Value.int .u64 t47.2]))))) 1 (some (Ck.var 69 g2 (en (Value.int .u32) a2.1)))) 2 (some (Ck.var 28 g3 (en (Value.int .u8) (vrep 32 (0:Int)).1)))) 3 (some (Ck.sl (Ec.int 5 .u8) A8_3 c8_3 l8_3))) (Nat.le_refl _) ⟨_,(IntKind.wrap .i64 (x10_6+(64:Int))),t47,fr_next (fr_next (fr_next (fr_next (fr_next (rfl) (by kernel_rfl)) (by kernel_rfl)) (by kernel_rfl)) (by kernel_rfl)) (by kernel_rfl),rfl,H⟩ (sub_put (by exact rfl) (sub_put (by exact rfl) (sub_put (by exact rfl) (sub_put (by exact rfl) (sub_nil _)))))
  replace H := ite_f q30 H
  refine cs_know (c:=false) (dec_f q30) 53 (by kernel_rfl) ?_
  refine cs_false (by kernel_rfl) ?_
  refine cs_exit' ?_
  refine qx_then ?_
  refine qx_then ?_
  refine qx_same ?_
  refine qn_meet (sput (sput s0 0 (some (Ck.var 74 g1 ((en (Value.int .u32) m0_6.1.1++[Value.int .u64 m0_6.2]))))) 2 (some (Ck.var 28 g3 (en (Value.int .u8) (vrep 32 (0:Int)).1)))) ⟨_,m0_6,fr_next (fr_next (rfl) (by kernel_rfl)) (by kernel_rfl),rfl,H⟩ (sub_put (by exact rfl) (sub_put (by exact rfl) (sub_nil _)))
 rintro f S ⟨fr4,m0_4,rfl,rfl,H⟩
 replace H:(shadowboxref03_End.lo5 m0_4 k (0:Int) shadowboxref03_End.cst0)=some r := H
 refine cs_seq ?_
 refine cs_region (l:=[_,_,_]) ?_
 refine lv (.agg ⟨en (Value.int .u8) shadowboxref03_End.cst0.1⟩) ?_
 refine ls_new rfl rfl (by kernel_rfl) 5 (fun g=>.pointer (some ⟨g,0,none⟩)) (.cells ⟨en (Value.int .u8) (vrep 32 (0:Int)).1⟩ 28) (fun w=>by kernel_rfl) ?_
 intro g14
 refine ls_storec (g:=g14) (off:=0) (v:=.agg ⟨en (Value.int .u8) shadowboxref03_End.cst0.1⟩) (vs:=en (Value.int .u8) shadowboxref03_End.cst0.1) (cs:=en (Value.int .u8) (vrep 32 (0:Int)).1) (ty:=28) 5 rfl rfl rfl (by kernel_rfl) (by kernel_rfl) (by kernel_rfl) (by exact rfl) (by kernel_rfl) (len_en _ shadowboxref03_End.cst0) (one_en (fun _=>rfl) _) (hl_of (Sub4.all _) (len_eq (len_en _ shadowboxref03_End.cst0) (len_en _ (vrep 32 (0:Int))))) (cs' := en (Value.int .u8) shadowboxref03_End.cst0.1) (splc_all (len_eq (len_en _ shadowboxref03_End.cst0) (len_en _ (vrep 32 (0:Int))))) ?_
 refine ls_end ?_
 refine qn_then ?_
 refine cs_seq ?_
 refine cs_seq ?_
 refine cs_region (l:=[_]) ?_
 refine lv (.int .i64 (0:Int)) ?_
 refine ls_end ?_
 refine qn_then ?_
 refine cs_block ?_
 refine cs_sub (sput (sput (sput s0 0 (some (Ck.var 74 g1 ((en (Value.int .u32) m0_4.1.1++[Value.int .u64 m0_4.2]))))) 2 (some (Ck.var 28 g3 (en (Value.int .u8) (vrep 32 (0:Int)).1)))) 5 (some (Ck.var 28 g14 (en (Value.int .u8) shadowboxref03_End.cst0.1)))) (sub_put (by exact rfl) (sub_put (by exact rfl) (sub_put (by exact rfl) (sub_nil _)))) ?_
 refine cs_loop (fun kk f S=>∃ (fR:Fr) (x12_5:Int) (m5_5:(Vc Int 32)),f=upd (upd (upd (upd fR 3 (.pointer (some ⟨g1,0,none⟩))) 6 (.pointer (some ⟨g3,0,none⟩))) 11 (.pointer (some ⟨g14,0,none⟩))) 12 (.int .i64 x12_5)∧S=sput (sput (sput s0 0 (some (Ck.var 74 g1 ((en (Value.int .u32) m0_4.1.1++[Value.int .u64 m0_4.2]))))) 2 (some (Ck.var 28 g3 (en (Value.int .u8) (vrep 32 (0:Int)).1)))) 5 (some (Ck.var 28 g14 (en (Value.int .u8) m5_5.1)))∧shadowboxref03_End.lo5 m0_4 kk x12_5 m5_5=some r) k ?_ ?_ ?_
 ·exact ⟨_,(0:Int),shadowboxref03_End.cst0,fr_next (fr_next (fr_next (fr_next (rfl) (by kernel_rfl)) (by kernel_rfl)) (by kernel_rfl)) (by kernel_rfl),rfl,H⟩
 ·rintro f S ⟨fr5,x12_5,m5_5,rfl,rfl,H⟩; cases H
 rintro k5 f S ⟨fr5,x12_5,m5_5,rfl,rfl,H⟩
 replace H:((if x12_5<(32:Int) then lt (IntKind.wrap .i64 (Int.tdiv x12_5 (4:Int))) fun y16=>(if 0≤y16 then (if y16<(8:Int) then lt (IntKind.wrap .i64 ((8:Int)*(Int.tmod x12_5 (4:Int)))) fun y20=>lt (IntKind.wrap .u64 (IntKind.wrap .i64 ((24:Int) - y20))) fun y22=>(if 0≤y22 then lt (shrv .u32 (m0_4.1.1.getD (y16).toNat (0:Int)) y22) fun y25=>(if 0≤x12_5 then lt (vset m5_5 (x12_5).toNat (IntKind.wrap .u8 y25)) fun y28=>(shadowboxref03_End.lo5 m0_4 k5) (IntKind.wrap .i64 (x12_5+(1:Int))) y28 else none) else none) else none) else none) else some m5_5))=some r := H
 refine cs_seq ?_
 refine cs_seq ?_
 refine cs_region (l:=[_,_]) ?_
 refine lv (.int .i64 x12_5) ?_
 refine lv (.bool (decide (x12_5<(32:Int)))) ?_
 refine ls_end ?_
 refine qn_then ?_
 by_cases q15:x12_5<(32:Int)
 ·replace H := ite_t q15 H
  refine cs_know (c:=true) (dec_t q15) 66 (by kernel_rfl) ?_
  refine cs_true (by kernel_rfl) ?_
  refine cs_skip' ?_
  refine qn_then ?_
  refine cs_seq ?_
  refine cs_block ?_
  refine cs_region (l:=[_,_,_,_,_,_,_,_,_,_,_,_,_,_,_]) ?_
  refine lv (.int .i64 x12_5) ?_
  refine lv (.int .i64 x12_5) ?_
  obtain ⟨y16,hy17,H⟩ := lt_some H
  refine lv (.int .i64 (IntKind.wrap .i64 (Int.tdiv x12_5 (4:Int)))) ?_
  refine ls_ren 71 (v:=.int .i64 (IntKind.wrap .i64 (Int.tdiv x12_5 (4:Int)))) (v' := .int .i64 y16) (by kernel_rfl) (by rw [hy17]) ?_
  refine lv (.pointer (some ⟨g1,(0+0),none⟩)) ?_
  obtain ⟨q18,H⟩ := ite_need H
  obtain ⟨q19,H⟩ := ite_need H
  refine ls_idxa1 (g:=g1) (off:=(0+0)) (i:=y16) (kk:=.i64) (ln:=8) (e:=23) rfl rfl (by kernel_rfl) rfl (by kernel_rfl) (by kernel_rfl) (by kernel_rfl) (by kernel_rfl) q18 q19 ?_
  refine ls_load (a0:=⟨g1,((0+0)+(y16).toNat),none⟩) (v:=.int .u32 (m0_4.1.1.getD (y16).toNat (0:Int))) (de:=(TypeDesc.int .u32)) rfl rfl (by kernel_rfl) rfl (by kernel_rfl) (by kernel_rfl) (by kernel_rfl) (fun w hs=>(hs.var (k:=0) (by exact rfl) (Sub4.trans (Sub4.trans (Sub4.all _) (Sub4.head _ _)) (Sub4.one (i:=(y16).toNat) (Value.int .u32) m0_4.1.1 0 (by have := m0_4.1.2; omega))))) ?_
  refine lv (.int .i64 x12_5) ?_
  refine lv (.int .i64 (Int.tmod x12_5 (4:Int))) ?_
  obtain ⟨y20,hy21,H⟩ := lt_some H
  refine lv (.int .i64 (IntKind.wrap .i64 ((8:Int)*(Int.tmod x12_5 (4:Int))))) ?_
  refine ls_ren 77 (v:=.int .i64 (IntKind.wrap .i64 ((8:Int)*(Int.tmod x12_5 (4:Int))))) (v' := .int .i64 y20) (by kernel_rfl) (by rw [hy21]) ?_
  refine lv (.int .i64 (IntKind.wrap .i64 ((24:Int) - y20))) ?_
  obtain ⟨y22,hy23,H⟩ := lt_some H
  refine lv (.int .u64 (IntKind.wrap .u64 (IntKind.wrap .i64 ((24:Int) - y20)))) ?_
  refine ls_ren 79 (v:=.int .u64 (IntKind.wrap .u64 (IntKind.wrap .i64 ((24:Int) - y20)))) (v' := .int .u64 y22) (by kernel_rfl) (by rw [hy23]) ?_
  obtain ⟨q24,H⟩ := ite_need H
  obtain ⟨y25,hy26,H⟩ := lt_some H
  refine ls_shiftr (k:=.u32) (yk:=.u64) (x:=(m0_4.1.1.getD (y16).toNat (0:Int))) (y:=y22) rfl rfl (by kernel_rfl) (fun w=>by kernel_rfl) q24 ?_
  refine ls_ren 80 (v:=.int .u32 (shrv .u32 (m0_4.1.1.getD (y16).toNat (0:Int)) y22)) (v' := .int .u32 y25) (by kernel_rfl) (by rw [hy26]) ?_
  refine lv (.int .u8 (IntKind.wrap .u8 y25)) ?_
  obtain ⟨q27,H⟩ := ite_need H
  refine ls_idxa1 (g:=g14) (off:=0) (i:=x12_5) (kk:=.i64) (ln:=32) (e:=5) rfl rfl (by kernel_rfl) rfl (by kernel_rfl) (by kernel_rfl) (by kernel_rfl) (by kernel_rfl) q27 q15 ?_
  obtain ⟨y28,hy29,H⟩ := lt_some H
  refine ls_storec (g:=g14) (off:=(0+(x12_5).toNat)) (v:=.int .u8 (IntKind.wrap .u8 y25)) (vs:=[Value.int .u8 (IntKind.wrap .u8 y25)]) (cs:=en (Value.int .u8) m5_5.1) (ty:=28) 5 rfl rfl rfl (by kernel_rfl) (by kernel_rfl) (by kernel_rfl) (by exact rfl) (by kernel_rfl) (len1 _) (one_cons rfl one_nil) (hl_of (Sub4.trans (Sub4.all _) (Sub4.one (i:=(x12_5).toNat) (Value.int .u8) m5_5.1 0 (by have := m5_5.2; omega))) (len_eq (len1 _) (len1 _))) (cs' := en (Value.int .u8) y28.1) (splc_in (Sub4.all _) ((splc_one (Value.int .u8) m5_5.1 (IntKind.wrap .u8 y25) (by have := m5_5.2; omega)).trans (congrArg (fun z:(Vc Int 32)=>en (Value.int .u8) z.1) hy29)) (splc_all (len_eq (len_en _ y28) (len_en _ m5_5))) (hl_of (Sub4.one (i:=(x12_5).toNat) (Value.int .u8) m5_5.1 0 (by have := m5_5.2; omega)) (len_eq (len1 _) (len1 _)))) ?_
  refine ls_end ?_
  refine qn_block ?_
  refine qn_then ?_
  refine cs_region (l:=[_,_,_]) ?_
  refine lv (.int .i64 x12_5) ?_
  refine lv (.int .i64 (IntKind.wrap .i64 (x12_5+(1:Int)))) ?_
  refine lv (.int .i64 (IntKind.wrap .i64 (x12_5+(1:Int)))) ?_
  refine ls_end ?_
  refine qn_again k5 (sput (sput (sput s0 0 (some (Ck.var 74 g1 ((en (Value.int .u32) m0_4.1.1++[Value.int .u64 m0_4.2]))))) 2 (some (Ck.var 28 g3 (en (Value.int .u8) (vrep 32 (0:Int)).1)))) 5 (some (Ck.var 28 g14 (en (Value.int .u8) y28.1)))) (Nat.le_refl _) ⟨_,(IntKind.wrap .i64 (x12_5+(1:Int))),y28,fr_next (fr_next (fr_next (fr_next (rfl) (by kernel_rfl)) (by kernel_rfl)) (by kernel_rfl)) (by kernel_rfl),rfl,H⟩ (sub_put (by exact rfl) (sub_put (by exact rfl) (sub_put (by exact rfl) (sub_nil _))))
 replace H := ite_f q15 H
 refine cs_know (c:=false) (dec_f q15) 66 (by kernel_rfl) ?_
 refine cs_false (by kernel_rfl) ?_
 refine cs_exit' ?_
 refine qx_then ?_
 refine qx_then ?_
 refine qx_same ?_
 refine qn_then ?_
 refine cs_seq ?_
 refine cs_region (l:=[_,_]) ?_
 refine ls_loadagg (a:=⟨g14,0,none⟩) (sub:=en (Value.int .u8) m5_5.1) rfl rfl (by kernel_rfl) rfl (by kernel_rfl) (by kernel_rfl) (by kernel_rfl) (len_en _ m5_5) (fun w hs=>(hs.vars (k:=5) (by exact rfl) (Sub4.all _))) ?_
 refine ls_storec (g:=g3) (off:=0) (v:=.agg ⟨en (Value.int .u8) m5_5.1⟩) (vs:=en (Value.int .u8) m5_5.1) (cs:=en (Value.int .u8) (vrep 32 (0:Int)).1) (ty:=28) 2 rfl rfl rfl (by kernel_rfl) (by kernel_rfl) (by kernel_rfl) (by exact rfl) (by kernel_rfl) (len_en _ m5_5) (one_en (fun _=>rfl) _) (hl_of (Sub4.all _) (len_eq (len_en _ m5_5) (len_en _ (vrep 32 (0:Int))))) (cs' := en (Value.int .u8) m5_5.1) (splc_all (len_eq (len_en _ m5_5) (len_en _ (vrep 32 (0:Int))))) ?_
 refine ls_end ?_
 refine qn_then ?_
 refine cs_ret' ?_
 obtain rfl := Option.some.inj H
 refine qr_res (rs:=[_]) rfl (fun w' hs=>⟨[.agg ⟨en (Value.int .u8) m5_5.1⟩],(.cell (by kernel_rfl) (run_cellres (by kernel_rfl) (by kernel_rfl) (len_en _ m5_5) (hs.holds 2 _ (by exact rfl))) (.nil)),(),rfl,hs.pick (ts:=[]) (cs:=[]) trivial (by decide)⟩)

/-! ### shadowbox/shadowboxref03.Sum: function 27 -/
def shadowboxref03_Sum.tab10:List (List Nat) := [[],[],[1],[],[0,1,2,3],[0,1,2,3,4]]
def shadowboxref03_Sum.lo1 (t2:(Vc Int 64)):Nat→(List Int)→(((Vc Int 8) × Int))→Option ((Vc Int 32))
  | 0,_,_=>none
  | k1+1,l0_1,m2_1=>(if (l0_1.length:Int)≥(64:Int) then (if (64:Int)≤(l0_1.length:Int) then lt (l0_1.take ((64:Int)).toNat) fun xl18=>(shadowboxref03_Block.f k1 m2_1 xl18 t2).bind fun t23=>lt (l0_1.drop ((64:Int)).toNat) fun xl30=>(shadowboxref03_Sum.lo1 t2 k1) xl30 t23 else none) else (shadowboxref03_End.f k1 m2_1 l0_1 t2).bind fun t35=>some t35)
def shadowboxref03_Sum.f (k:Nat) (l0:List Int):Option ((Vc Int 32)) :=
  (shadowboxref03_Keys.f k).bind fun t2=>(shadowboxref03_Begin.f k).bind fun t6=>shadowboxref03_Sum.lo1 t2 k l0 t6
set_option maxRecDepth 100000 in
set_option maxHeartbeats 4000000 in
theorem shadowboxref03_Sum.calls (k:Nat) (A0:Option Addr) (c0:Nat) (l0:List Int) (r:(Vc Int 32)) (b:Bs) (hs0:St b (stl []) b.w) (R0:Ro b A0 (em (Ec.int 5 .u8) l0)) (C0:l0.length≤c0) (H:shadowboxref03_Sum.f k l0=some r) :
    Calls Try.prog 27 #[.slice A0 l0.length c0] b.w fun e w'=>∃ x:Unit,e=.returned (.agg ⟨en (Value.int .u8) r.1⟩)∧St b (stl []) w' := by
 unfold shadowboxref03_Sum.f at H
 refine enterb (n:=21) Try.func27 rfl (by kernel_rfl) (by kernel_rfl) hs0 ?_
 refine cs_sub (s0) (sub_nil _) ?_
 refine cs_seq ?_
 refine cs_region (l:=[_]) ?_
 refine ls_new rfl rfl (by kernel_rfl) 0 (fun g=>.pointer (some ⟨g,0,none⟩)) (.cells ⟨en (Value.int .u8) (vrep 32 (0:Int)).1⟩ 28) (fun w=>by kernel_rfl) ?_
 intro g1
 refine ls_end ?_
 refine qn_then ?_
 refine cs_seq ?_
 refine cs_region (l:=[_,_,_]) ?_
 obtain ⟨t2,hc3,H⟩ := bind_some H
 refine ls_callb (fid:=35) (vals:=#[]) (X:=Unit) (fun x=>.agg ⟨en (Value.int .u32) t2.1⟩) (fun x=>stl []) [] [] [] [] 1 rfl rfl (by kernel_rfl) (fun w=>by kernel_rfl) trivial trivial (by decide) (fun w hs hb=>shadowboxref03_Keys.calls k  t2 (lent b w [] []) hb  hc3) ?_
 intro x4
 refine ls_new rfl rfl (by kernel_rfl) 1 (fun g=>.pointer (some ⟨g,0,none⟩)) (.cells ⟨en (Value.int .u32) (vrep 64 (0:Int)).1⟩ 69) (fun w=>by kernel_rfl) ?_
 intro g5
 refine ls_storec (g:=g5) (off:=0) (v:=.agg ⟨en (Value.int .u32) t2.1⟩) (vs:=en (Value.int .u32) t2.1) (cs:=en (Value.int .u32) (vrep 64 (0:Int)).1) (ty:=69) 1 rfl rfl rfl (by kernel_rfl) (by kernel_rfl) (by kernel_rfl) (by exact rfl) (by kernel_rfl) (len_en _ t2) (one_en (fun _=>rfl) _) (hl_of (Sub4.all _) (len_eq (len_en _ t2) (len_en _ (vrep 64 (0:Int))))) (cs' := en (Value.int .u32) t2.1) (splc_all (len_eq (len_en _ t2) (len_en _ (vrep 64 (0:Int))))) ?_
 refine ls_end ?_
 refine qn_then ?_
 refine cs_seq ?_
 refine cs_region (l:=[_,_,_]) ?_
 obtain ⟨t6,hc7,H⟩ := bind_some H
 refine ls_callb (fid:=36) (vals:=#[]) (X:=Unit) (fun x=>.agg ⟨(en (Value.int .u32) t6.1.1++[Value.int .u64 t6.2])⟩) (fun x=>stl []) [] [] [] [] 2 rfl rfl (by kernel_rfl) (fun w=>by kernel_rfl) trivial trivial (by decide) (fun w hs hb=>shadowboxref03_Begin.calls k  t6 (lent b w [] []) hb  hc7) ?_
 intro x8
 refine ls_new rfl rfl (by kernel_rfl) 2 (fun g=>.pointer (some ⟨g,0,none⟩)) (.cells ⟨(en (Value.int .u32) (vrep 8 (0:Int)).1++[Value.int .u64 (0:Int)])⟩ 74) (fun w=>by kernel_rfl) ?_
 intro g9
 refine ls_storec (g:=g9) (off:=0) (v:=.agg ⟨(en (Value.int .u32) t6.1.1++[Value.int .u64 t6.2])⟩) (vs:=(en (Value.int .u32) t6.1.1++[Value.int .u64 t6.2])) (cs:=(en (Value.int .u32) (vrep 8 (0:Int)).1++[Value.int .u64 (0:Int)])) (ty:=74) 2 rfl rfl rfl (by kernel_rfl) (by kernel_rfl) (by kernel_rfl) (by exact rfl) (by kernel_rfl) (len_app (len_en _ t6.1) (len1 _)) (one_app (one_en (fun _=>rfl) _) (one_cons rfl one_nil)) (hl_of (Sub4.all _) (len_eq (len_app (len_en _ t6.1) (len1 _)) (len_app (len_en _ (vrep 8 (0:Int))) (len1 _)))) (cs' := (en (Value.int .u32) t6.1.1++[Value.int .u64 t6.2])) (splc_all (len_eq (len_app (len_en _ t6.1) (len1 _)) (len_app (len_en _ (vrep 8 (0:Int))) (len1 _)))) ?_
 refine ls_end ?_
 refine qn_then ?_
 refine cs_seq ?_
 refine cs_block ?_
 refine cs_sub (sput (sput (sput s0 0 (some (Ck.var 28 g1 (en (Value.int .u8) (vrep 32 (0:Int)).1)))) 1 (some (Ck.var 69 g5 (en (Value.int .u32) t2.1)))) 2 (some (Ck.var 74 g9 ((en (Value.int .u32) t6.1.1++[Value.int .u64 t6.2]))))) (sub_put (by exact rfl) (sub_put (by exact rfl) (sub_put (by exact rfl) (sub_nil _)))) ?_
 refine cs_loop (fun kk f S=>∃ (fR:Fr) (A0_1:Option Addr) (c0_1:Nat) (l0_1:List Int) (m2_1:((Vc Int 8) × Int)),f=upd (upd (upd (upd fR 0 (.slice A0_1 l0_1.length c0_1)) 2 (.pointer (some ⟨g1,0,none⟩))) 3 (.pointer (some ⟨g5,0,none⟩))) 4 (.pointer (some ⟨g9,0,none⟩))∧S=sput (sput (sput s0 0 (some (Ck.var 28 g1 (en (Value.int .u8) (vrep 32 (0:Int)).1)))) 1 (some (Ck.var 69 g5 (en (Value.int .u32) t2.1)))) 2 (some (Ck.var 74 g9 ((en (Value.int .u32) m2_1.1.1++[Value.int .u64 m2_1.2]))))∧Ro b A0_1 (em (Ec.int 5 .u8) l0_1)∧l0_1.length≤c0_1∧shadowboxref03_Sum.lo1 t2 kk l0_1 m2_1=some r) k ?_ ?_ ?_
 ·exact ⟨_,A0,c0,l0,t6,fr_next (fr_next (fr_next (fr_next (rfl) (by kernel_rfl)) (by kernel_rfl)) (by kernel_rfl)) (by kernel_rfl),rfl,R0,C0,H⟩
 ·rintro f S ⟨fr1,A0_1,c0_1,l0_1,m2_1,rfl,rfl,R0_1,C0_1,H⟩; cases H
 rintro k1 f S ⟨fr1,A0_1,c0_1,l0_1,m2_1,rfl,rfl,R0_1,C0_1,H⟩
 replace H:((if (l0_1.length:Int)≥(64:Int) then (if (64:Int)≤(l0_1.length:Int) then lt (l0_1.take ((64:Int)).toNat) fun xl18=>(shadowboxref03_Block.f k1 m2_1 xl18 t2).bind fun t23=>lt (l0_1.drop ((64:Int)).toNat) fun xl30=>(shadowboxref03_Sum.lo1 t2 k1) xl30 t23 else none) else (shadowboxref03_End.f k1 m2_1 l0_1 t2).bind fun t35=>some t35))=some r := H
 refine cs_seq ?_
 refine cs_seq ?_
 refine cs_region (l:=[_,_,_]) ?_
 refine lv (.slice A0_1 l0_1.length c0_1) ?_
 refine lv (.int .i64 (l0_1.length:Int)) ?_
 refine lv (.bool (decide ((l0_1.length:Int)≥(64:Int)))) ?_
 refine ls_end ?_
 refine qn_then ?_
 by_cases q10:(l0_1.length:Int)≥(64:Int)
 ·replace H := ite_t q10 H
  refine cs_know (c:=true) (dec_t q10) 9 (by kernel_rfl) ?_
  refine cs_true (by kernel_rfl) ?_
  refine cs_skip' ?_
  refine qn_then ?_
  refine cs_block ?_
  refine cs_seq ?_
  obtain ⟨s12_0,hs12_0⟩ := exv (.agg ⟨(en (Value.int .u32) m2_1.1.1++[Value.int .u64 m2_1.2])⟩)
  refine have_opa shadowboxref03_Sum.tab10 3 0 (fun sp=>sp 0=s12_0) (fun sp on hA hon=>?_) (fun ops12_0=>?_)
  ·refine ⟨fun o ho vs Rs f' S' w hp hf hx hS hR hs=>?_⟩
   obtain rfl := Option.some.inj ho
   rw [hA,hs12_0]
   refine wn hon ?_
   have hF := fr_next (rfl) ((hx 4 (by kernel_rfl)).trans (by kernel_rfl:(_:Value)=.pointer (some ⟨g9,0,none⟩)))
   refine ls_fr hF ?_
   refine ls_loadagg (a:=⟨g9,0,none⟩) (sub:=(en (Value.int .u32) m2_1.1.1++[Value.int .u64 m2_1.2])) rfl rfl (by kernel_rfl) rfl (by kernel_rfl) (by kernel_rfl) (by kernel_rfl) (len_app (len_en _ m2_1.1) (len1 _)) (fun w1 hs1=>Rd.step (hs.vars (k:=2) ((hS 2 (by kernel_rfl)).trans (by exact rfl)) (Sub4.all _)) hs1.below.bw) ?_
   exact ls_fin s0 _ (congrArg (fun z=>upd z 10 _) hF.symm) ⟨rfl,rfl⟩ (sub_nil _)
  obtain ⟨s12_1,hs12_1⟩ := exv (.slice A0_1 l0_1.length c0_1)
  refine have_opa shadowboxref03_Sum.tab10 3 1 (fun sp=>sp 1=s12_1) (fun sp on hA hon=>?_) (fun ops12_1=>?_)
  ·refine ⟨fun o ho vs Rs f' S' w hp hf hx hS hR hs=>?_⟩
   obtain rfl := Option.some.inj ho
   exact opv (.slice A0_1 l0_1.length c0_1) hA hs12_1 hon (fr_next (rfl) ((hx 0 (by kernel_rfl)).trans (by kernel_rfl:(_:Value)=.slice A0_1 l0_1.length c0_1)))
  obtain ⟨q13,H⟩ := ite_need H
  obtain ⟨xl18,hy19,H⟩ := lt_some H
  have hz21:0≤((64:Int)).toNat := by omega
  have hz22:((64:Int)).toNat≤l0_1.length := by omega
  obtain ⟨xA14,xc15,he20,xC17,xR16⟩ := cut_at (A:=A0_1) (c:=c0_1) (l:=l0_1) (Ec.int 5 .u8) 0 (((64:Int)).toNat) hz21 hz22 C0_1 R0_1 (m:=xl18) (by rw [← hy19] <;> simp) (z:=1) rfl
  obtain ⟨s12_2,hs12_2⟩ := exv (.slice xA14 xl18.length xc15)
  refine have_opa shadowboxref03_Sum.tab10 3 2 (fun sp=>sp 2=s12_2∧sp 1=s12_1) (fun sp on hA hon=>?_) (fun ops12_2=>?_)
  ·refine ⟨fun o ho vs Rs f' S' w hp hf hx hS hR hs=>?_⟩
   obtain rfl := Option.some.inj ho
   obtain ⟨hv1,hR1⟩ := (spe hA.2 hs12_1 (hp 1 (by kernel_rfl)))
   rw [hA.1,hs12_2]
   refine wn hon ?_
   have hF := fr_next (rfl) ((hf 1 11 (by kernel_rfl) rfl).trans hv1)
   refine ls_fr hF ?_
   refine ls_cutv (A:=A0_1) (c:=c0_1) (m:=l0_1.length) (z:=1) (e:=5) (a:=0) (b:=((64:Int)).toNat) rfl rfl (by kernel_rfl) rfl (by kernel_rfl) (by kernel_rfl) (by kernel_rfl) (.inl ⟨rfl,rfl⟩) (.inr ⟨.i64,by rw [Int.toNat_of_nonneg (by first | assumption | omega)]; kernel_rfl⟩) hz21 hz22 C0_1 he20 ?_
   exact ls_fin s0 _ (congrArg (fun z=>upd z 12 _) hF.symm) ⟨rfl,rfl⟩ (sub_nil _)
  obtain ⟨s12_3,hs12_3⟩ := exv (.agg ⟨en (Value.int .u32) t2.1⟩)
  refine have_opa shadowboxref03_Sum.tab10 3 3 (fun sp=>sp 3=s12_3) (fun sp on hA hon=>?_) (fun ops12_3=>?_)
  ·refine ⟨fun o ho vs Rs f' S' w hp hf hx hS hR hs=>?_⟩
   obtain rfl := Option.some.inj ho
   rw [hA,hs12_3]
   refine wn hon ?_
   have hF := fr_next (rfl) ((hx 3 (by kernel_rfl)).trans (by kernel_rfl:(_:Value)=.pointer (some ⟨g5,0,none⟩)))
   refine ls_fr hF ?_
   refine ls_loadagg (a:=⟨g5,0,none⟩) (sub:=en (Value.int .u32) t2.1) rfl rfl (by kernel_rfl) rfl (by kernel_rfl) (by kernel_rfl) (by kernel_rfl) (len_en _ t2) (fun w1 hs1=>Rd.step (hs.vars (k:=1) ((hS 1 (by kernel_rfl)).trans (by exact rfl)) (Sub4.all _)) hs1.below.bw) ?_
   exact ls_fin s0 _ (congrArg (fun z=>upd z 13 _) hF.symm) ⟨rfl,rfl⟩ (sub_nil _)
  refine cs_draw shadowboxref03_Sum.tab10 4 3 (spl [s12_0,s12_1,s12_2,s12_3]) (onl [true,true,true,true]) (by kernel_rfl) (by kernel_rfl) (by kernel_rfl) (by kernel_rfl) (rs:=[_,_]) rfl (by kernel_rfl) (by kernel_rfl) (all_snoc (all_snoc (all_snoc (all_snoc (all_nil) (ops12_0 _ _ rfl rfl)) (ops12_1 _ _ rfl rfl)) (ops12_2 _ _ ⟨rfl,rfl⟩ rfl)) (ops12_3 _ _ rfl rfl)) ?_
  intro vs Rs f' S' hp hf hx hS hR
  obtain ⟨hv0,hR0⟩ := (spe rfl hs12_0 (hp 0 (by kernel_rfl)))
  obtain ⟨hv2,hR2⟩ := (spe rfl hs12_2 (hp 2 (by kernel_rfl)))
  obtain ⟨hv3,hR3⟩ := (spe rfl hs12_3 (hp 3 (by kernel_rfl)))
  refine ls_fr (F:=upd (upd (upd (upd (upd (upd (upd f' 0 (.slice A0_1 l0_1.length c0_1)) 2 (.pointer (some ⟨g1,0,none⟩))) 3 (.pointer (some ⟨g5,0,none⟩))) 4 (.pointer (some ⟨g9,0,none⟩))) 10 (.agg ⟨(en (Value.int .u32) m2_1.1.1++[Value.int .u64 m2_1.2])⟩)) 12 (.slice xA14 xl18.length xc15)) 13 (.agg ⟨en (Value.int .u32) t2.1⟩)) (fr_next (fr_next (fr_next (fr_next (fr_next (fr_next (fr_next (rfl) ((hx 0 (by kernel_rfl)).trans (by kernel_rfl:(_:Value)=.slice A0_1 l0_1.length c0_1))) ((hx 2 (by kernel_rfl)).trans (by kernel_rfl:(_:Value)=.pointer (some ⟨g1,0,none⟩)))) ((hx 3 (by kernel_rfl)).trans (by kernel_rfl:(_:Value)=.pointer (some ⟨g5,0,none⟩)))) ((hx 4 (by kernel_rfl)).trans (by kernel_rfl:(_:Value)=.pointer (some ⟨g9,0,none⟩)))) ((hf 0 10 (by kernel_rfl) rfl).trans hv0)) ((hf 2 12 (by kernel_rfl) rfl).trans hv2)) ((hf 3 13 (by kernel_rfl) rfl).trans hv3)) ?_
  refine ls_sub (sput (sput (sput s0 0 (some (Ck.var 28 g1 (en (Value.int .u8) (vrep 32 (0:Int)).1)))) 1 (some (Ck.var 69 g5 (en (Value.int .u32) t2.1)))) 2 (some (Ck.var 74 g9 ((en (Value.int .u32) m2_1.1.1++[Value.int .u64 m2_1.2]))))) (sub_put ((hS 2 (by kernel_rfl)).trans (by exact rfl)) (sub_put ((hS 1 (by kernel_rfl)).trans (by exact rfl)) (sub_put ((hS 0 (by kernel_rfl)).trans (by exact rfl)) (sub_nil _)))) ?_
  obtain ⟨t23,hc24,H⟩ := bind_some H
  refine ls_callb (fid:=37) (vals:=#[.agg ⟨(en (Value.int .u32) m2_1.1.1++[Value.int .u64 m2_1.2])⟩,.slice xA14 xl18.length xc15,.agg ⟨en (Value.int .u32) t2.1⟩]) (X:=Unit) (fun x=>.agg ⟨(en (Value.int .u32) t23.1.1++[Value.int .u64 t23.2])⟩) (fun x=>stl []) [] [] [] [] 35 rfl rfl (by kernel_rfl) (fun w=>by kernel_rfl) trivial trivial (by decide) (fun w hs hb=>shadowboxref03_Block.calls k1 m2_1 xA14 xc15 xl18 t2 t23 (lent b w [] []) hb (hs.ro xR16 _ _) xC17 hc24) ?_
  intro x25
  refine ls_storec (g:=g9) (off:=0) (v:=.agg ⟨(en (Value.int .u32) t23.1.1++[Value.int .u64 t23.2])⟩) (vs:=(en (Value.int .u32) t23.1.1++[Value.int .u64 t23.2])) (cs:=(en (Value.int .u32) m2_1.1.1++[Value.int .u64 m2_1.2])) (ty:=74) 2 rfl rfl rfl (by kernel_rfl) (by kernel_rfl) (by kernel_rfl) (by exact rfl) (by kernel_rfl) (len_app (len_en _ t23.1) (len1 _)) (one_app (one_en (fun _=>rfl) _) (one_cons rfl one_nil)) (hl_of (Sub4.all _) (len_eq (len_app (len_en _ t23.1) (len1 _)) (len_app (len_en _ m2_1.1) (len1 _)))) (cs' := (en (Value.int .u32) t23.1.1++[Value.int .u64 t23.2])) (splc_all (len_eq (len_app (len_en _ t23.1) (len1 _)) (len_app (len_en _ m2_1.1) (len1 _)))) ?_
  refine ls_end ?_
  refine qn_then ?_
  refine cs_region (l:=[_,_,_]) ?_
  refine lv (.slice A0_1 l0_1.length c0_1) ?_
  obtain ⟨xl30,hy31,H⟩ := lt_some H
  have hz33:((64:Int)).toNat≤l0_1.length := by omega
  have hz34:l0_1.length≤l0_1.length := by omega
  obtain ⟨xA26,xc27,he32,xC29,xR28⟩ := cut_at (A:=A0_1) (c:=c0_1) (l:=l0_1) (Ec.int 5 .u8) (((64:Int)).toNat) l0_1.length hz33 hz34 C0_1 R0_1 (m:=xl30) (by rw [← hy31] <;> simp) (z:=1) rfl
  refine ls_cutv (A:=A0_1) (c:=c0_1) (m:=l0_1.length) (z:=1) (e:=5) (a:=((64:Int)).toNat) (b:=l0_1.length) rfl rfl (by kernel_rfl) rfl (by kernel_rfl) (by kernel_rfl) (by kernel_rfl) (.inr ⟨.i64,by rw [Int.toNat_of_nonneg (by first | assumption | omega)]; kernel_rfl⟩) (.inl ⟨rfl,rfl⟩) hz33 hz34 C0_1 he32 ?_
  refine lv (.slice xA26 xl30.length xc27) ?_
  refine ls_end ?_
  refine qn_block ?_
  refine qn_again k1 (sput (sput (sput s0 0 (some (Ck.var 28 g1 (en (Value.int .u8) (vrep 32 (0:Int)).1)))) 1 (some (Ck.var 69 g5 (en (Value.int .u32) t2.1)))) 2 (some (Ck.var 74 g9 ((en (Value.int .u32) t23.1.1++[Value.int .u64 t23.2]))))) (Nat.le_refl _) ⟨_,xA26,xc27,xl30,t23,fr_next (fr_next (fr_next (fr_next (rfl) (by kernel_rfl)) (by kernel_rfl)) (by kernel_rfl)) (by kernel_rfl),rfl,xR28,xC29,H⟩ (sub_put (by exact rfl) (sub_put (by exact rfl) (sub_put (by exact rfl) (sub_nil _))))
 replace H := ite_f q10 H
 refine cs_know (c:=false) (dec_f q10) 9 (by kernel_rfl) ?_
 refine cs_false (by kernel_rfl) ?_
 refine cs_exit' ?_
 refine qx_then ?_
 refine qx_then ?_
 refine qx_same ?_
 refine qn_then ?_
 refine cs_seq ?_
 refine cs_region (l:=[_,_,_,_,_]) ?_
 refine ls_loadagg (a:=⟨g9,0,none⟩) (sub:=(en (Value.int .u32) m2_1.1.1++[Value.int .u64 m2_1.2])) rfl rfl (by kernel_rfl) rfl (by kernel_rfl) (by kernel_rfl) (by kernel_rfl) (len_app (len_en _ m2_1.1) (len1 _)) (fun w hs=>(hs.vars (k:=2) (by exact rfl) (Sub4.all _))) ?_
 refine lv (.slice A0_1 l0_1.length c0_1) ?_
 refine ls_loadagg (a:=⟨g5,0,none⟩) (sub:=en (Value.int .u32) t2.1) rfl rfl (by kernel_rfl) rfl (by kernel_rfl) (by kernel_rfl) (by kernel_rfl) (len_en _ t2) (fun w hs=>(hs.vars (k:=1) (by exact rfl) (Sub4.all _))) ?_
 obtain ⟨t35,hc36,H⟩ := bind_some H
 refine ls_callb (fid:=38) (vals:=#[.agg ⟨(en (Value.int .u32) m2_1.1.1++[Value.int .u64 m2_1.2])⟩,.slice A0_1 l0_1.length c0_1,.agg ⟨en (Value.int .u32) t2.1⟩]) (X:=Unit) (fun x=>.agg ⟨en (Value.int .u8) t35.1⟩) (fun x=>stl []) [] [] [] [] 3 rfl rfl (by kernel_rfl) (fun w=>by kernel_rfl) trivial trivial (by decide) (fun w hs hb=>shadowboxref03_End.calls k1 m2_1 A0_1 c0_1 l0_1 t2 t35 (lent b w [] []) hb (hs.ro R0_1 _ _) C0_1 hc36) ?_
 intro x37
 refine ls_storec (g:=g1) (off:=0) (v:=.agg ⟨en (Value.int .u8) t35.1⟩) (vs:=en (Value.int .u8) t35.1) (cs:=en (Value.int .u8) (vrep 32 (0:Int)).1) (ty:=28) 0 rfl rfl rfl (by kernel_rfl) (by kernel_rfl) (by kernel_rfl) (by exact rfl) (by kernel_rfl) (len_en _ t35) (one_en (fun _=>rfl) _) (hl_of (Sub4.all _) (len_eq (len_en _ t35) (len_en _ (vrep 32 (0:Int))))) (cs' := en (Value.int .u8) t35.1) (splc_all (len_eq (len_en _ t35) (len_en _ (vrep 32 (0:Int))))) ?_
 refine ls_end ?_
 refine qn_then ?_
 refine cs_ret' ?_
 obtain rfl := Option.some.inj H
 refine qr_res (rs:=[_]) rfl (fun w' hs=>⟨[.agg ⟨en (Value.int .u8) t35.1⟩],(.cell (by kernel_rfl) (run_cellres (by kernel_rfl) (by kernel_rfl) (len_en _ t35) (hs.holds 0 _ (by exact rfl))) (.nil)),(),rfl,hs.pick (ts:=[]) (cs:=[]) trivial (by decide)⟩)

/-! ### shadowbox/shadowboxref06.Of: function 11 -/
def shadowboxref06_Of.f (k:Nat) (a0:Int) (a1:Int) (l2:List Int):Option ((Int × Int × Int × Int × (Vc Int 32))) :=
  (shadowboxref02_Go.f k (0:Int) l2).bind fun t2=>(shadowboxref03_Sum.f k l2).bind fun t5=>some (a0,a1,(l2.length:Int),t2,t5)
set_option maxRecDepth 100000 in
set_option maxHeartbeats 4000000 in
theorem shadowboxref06_Of.calls (k:Nat) (a0:Int) (a1:Int) (A2:Option Addr) (c2:Nat) (l2:List Int) (r:(Int × Int × Int × Int × (Vc Int 32))) (b:Bs) (hs0:St b (stl []) b.w) (R2:Ro b A2 (em (Ec.int 5 .u8) l2)) (C2:l2.length≤c2) (H:shadowboxref06_Of.f k a0 a1 l2=some r) :
    Calls Try.prog 11 #[.int .i64 a0,.int .i64 a1,.slice A2 l2.length c2] b.w fun e w'=>∃ x:Unit,e=.returned (.agg ⟨([Value.int .i64 r.1]++([Value.int .i64 r.2.1]++([Value.int .i64 r.2.2.1]++([Value.int .u32 r.2.2.2.1]++en (Value.int .u8) r.2.2.2.2.1))))⟩)∧St b (stl []) w' := by
 unfold shadowboxref06_Of.f at H
 refine enterb (n:=16) Try.func11 rfl (by kernel_rfl) (by kernel_rfl) hs0 ?_
 refine cs_sub (s0) (sub_nil _) ?_
 refine cs_seq ?_
 refine cs_region (l:=[_]) ?_
 refine ls_new rfl rfl (by kernel_rfl) 0 (fun g=>.pointer (some ⟨g,0,none⟩)) (.cells ⟨([Value.int .i64 (0:Int)]++([Value.int .i64 (0:Int)]++([Value.int .i64 (0:Int)]++([Value.int .u32 (0:Int)]++en (Value.int .u8) (vrep 32 (0:Int)).1))))⟩ 30) (fun w=>by kernel_rfl) ?_
 intro g1
 refine ls_end ?_
 refine qn_then ?_
 refine cs_seq ?_
 refine cs_region (l:=[_,_,_,_,_,_,_,_,_,_]) ?_
 refine lv (.int .i64 a0) ?_
 refine lv (.int .i64 a1) ?_
 refine lv (.slice A2 l2.length c2) ?_
 refine lv (.int .i64 (l2.length:Int)) ?_
 refine lv (.slice A2 l2.length c2) ?_
 obtain ⟨t2,hc3,H⟩ := bind_some H
 refine ls_callb (fid:=26) (vals:=#[.int .u32 (0:Int),.slice A2 l2.length c2]) (X:=Unit) (fun x=>.int .u32 t2) (fun x=>stl []) [] [] [] [] 1 rfl rfl (by kernel_rfl) (fun w=>by kernel_rfl) trivial trivial (by decide) (fun w hs hb=>shadowboxref02_Go.calls k (0:Int) A2 c2 l2 t2 (lent b w [] []) hb (hs.ro R2 _ _) C2 hc3) ?_
 intro x4
 refine lv (.slice A2 l2.length c2) ?_
 obtain ⟨t5,hc6,H⟩ := bind_some H
 refine ls_callb (fid:=27) (vals:=#[.slice A2 l2.length c2]) (X:=Unit) (fun x=>.agg ⟨en (Value.int .u8) t5.1⟩) (fun x=>stl []) [] [] [] [] 1 rfl rfl (by kernel_rfl) (fun w=>by kernel_rfl) trivial trivial (by decide) (fun w hs hb=>shadowboxref03_Sum.calls k A2 c2 l2 t5 (lent b w [] []) hb (hs.ro R2 _ _) C2 hc6) ?_
 intro x7
 refine ls_build (ps:=[(0,.int .i64 a0),(1,.int .i64 a1),(2,.int .i64 (l2.length:Int)),(3,.int .u32 t2),(4,.agg ⟨en (Value.int .u8) t5.1⟩)]) (pl:=#[(0,1),(1,1),(2,1),(3,1),(4,32)]) (zv:=.agg ⟨([Value.int .i64 (0:Int)]++([Value.int .i64 (0:Int)]++([Value.int .i64 (0:Int)]++([Value.int .u32 (0:Int)]++en (Value.int .u8) (vrep 32 (0:Int)).1))))⟩) (zc:=([Value.int .i64 (0:Int)]++([Value.int .i64 (0:Int)]++([Value.int .i64 (0:Int)]++([Value.int .u32 (0:Int)]++en (Value.int .u8) (vrep 32 (0:Int)).1))))) (r:=([Value.int .i64 a0]++([Value.int .i64 a1]++([Value.int .i64 (l2.length:Int)]++([Value.int .u32 t2]++en (Value.int .u8) t5.1))))) rfl rfl (by kernel_rfl) rfl (by kernel_rfl) (by kernel_rfl) (fun w=>by kernel_rfl) (fun w=>by kernel_rfl) rfl (fill_cons (vs:=[Value.int .i64 a0]) (cs' := ([Value.int .i64 a0]++([Value.int .i64 (0:Int)]++([Value.int .i64 (0:Int)]++([Value.int .u32 (0:Int)]++en (Value.int .u8) (vrep 32 (0:Int)).1))))) (off:=0) (size:=1) rfl (by kernel_rfl) (len1 _) (le_of_len (len_app (len1 _) (len_app (len1 _) (len_app (len1 _) (len_app (len1 _) (len_en _ (vrep 32 (0:Int))))))) (by decide)) (splc_in (Sub4.all _) (splc_head (len_eq (len1 _) (len1 _))) (splc_all (len_eq (len_app (len1 _) (len_app (len1 _) (len_app (len1 _) (len_app (len1 _) (len_en _ (vrep 32 (0:Int))))))) (len_app (len1 _) (len_app (len1 _) (len_app (len1 _) (len_app (len1 _) (len_en _ (vrep 32 (0:Int))))))))) (hl_of (Sub4.head _ _) (len_eq (len1 _) (len1 _)))) (fill_cons (vs:=[Value.int .i64 a1]) (cs' := ([Value.int .i64 a0]++([Value.int .i64 a1]++([Value.int .i64 (0:Int)]++([Value.int .u32 (0:Int)]++en (Value.int .u8) (vrep 32 (0:Int)).1))))) (off:=1) (size:=1) rfl (by kernel_rfl) (len1 _) (le_of_len (len_app (len1 _) (len_app (len1 _) (len_app (len1 _) (len_app (len1 _) (len_en _ (vrep 32 (0:Int))))))) (by decide)) (splc_in (Sub4.all _) (splc_skip (n:=1) (len1 _) (splc_head (len_eq (len1 _) (len1 _)))) (splc_all (len_eq (len_app (len1 _) (len_app (len1 _) (len_app (len1 _) (len_app (len1 _) (len_en _ (vrep 32 (0:Int))))))) (len_app (len1 _) (len_app (len1 _) (len_app (len1 _) (len_app (len1 _) (len_en _ (vrep 32 (0:Int))))))))) (hl_of (Sub4.skip (n:=1) (len1 _) (Sub4.head _ _)) (len_eq (len1 _) (len1 _)))) (fill_cons (vs:=[Value.int .i64 (l2.length:Int)]) (cs' := ([Value.int .i64 a0]++([Value.int .i64 a1]++([Value.int .i64 (l2.length:Int)]++([Value.int .u32 (0:Int)]++en (Value.int .u8) (vrep 32 (0:Int)).1))))) (off:=2) (size:=1) rfl (by kernel_rfl) (len1 _) (le_of_len (len_app (len1 _) (len_app (len1 _) (len_app (len1 _) (len_app (len1 _) (len_en _ (vrep 32 (0:Int))))))) (by decide)) (splc_in (Sub4.all _) (splc_skip (n:=1) (len1 _) (splc_skip (n:=1) (len1 _) (splc_head (len_eq (len1 _) (len1 _))))) (splc_all (len_eq (len_app (len1 _) (len_app (len1 _) (len_app (len1 _) (len_app (len1 _) (len_en _ (vrep 32 (0:Int))))))) (len_app (len1 _) (len_app (len1 _) (len_app (len1 _) (len_app (len1 _) (len_en _ (vrep 32 (0:Int))))))))) (hl_of (Sub4.skip (n:=1) (len1 _) (Sub4.skip (n:=1) (len1 _) (Sub4.head _ _))) (len_eq (len1 _) (len1 _)))) (fill_cons (vs:=[Value.int .u32 t2]) (cs' := ([Value.int .i64 a0]++([Value.int .i64 a1]++([Value.int .i64 (l2.length:Int)]++([Value.int .u32 t2]++en (Value.int .u8) (vrep 32 (0:Int)).1))))) (off:=3) (size:=1) rfl (by kernel_rfl) (len1 _) (le_of_len (len_app (len1 _) (len_app (len1 _) (len_app (len1 _) (len_app (len1 _) (len_en _ (vrep 32 (0:Int))))))) (by decide)) (splc_in (Sub4.all _) (splc_skip (n:=1) (len1 _) (splc_skip (n:=1) (len1 _) (splc_skip (n:=1) (len1 _) (splc_head (len_eq (len1 _) (len1 _)))))) (splc_all (len_eq (len_app (len1 _) (len_app (len1 _) (len_app (len1 _) (len_app (len1 _) (len_en _ (vrep 32 (0:Int))))))) (len_app (len1 _) (len_app (len1 _) (len_app (len1 _) (len_app (len1 _) (len_en _ (vrep 32 (0:Int))))))))) (hl_of (Sub4.skip (n:=1) (len1 _) (Sub4.skip (n:=1) (len1 _) (Sub4.skip (n:=1) (len1 _) (Sub4.head _ _)))) (len_eq (len1 _) (len1 _)))) (fill_cons (vs:=en (Value.int .u8) t5.1) (cs' := ([Value.int .i64 a0]++([Value.int .i64 a1]++([Value.int .i64 (l2.length:Int)]++([Value.int .u32 t2]++en (Value.int .u8) t5.1))))) (off:=4) (size:=32) rfl (by kernel_rfl) (len_en _ t5) (le_of_len (len_app (len1 _) (len_app (len1 _) (len_app (len1 _) (len_app (len1 _) (len_en _ (vrep 32 (0:Int))))))) (by decide)) (splc_in (Sub4.all _) (splc_skip (n:=1) (len1 _) (splc_skip (n:=1) (len1 _) (splc_skip (n:=1) (len1 _) (splc_skip (n:=1) (len1 _) (splc_all (len_eq (len_en _ t5) (len_en _ (vrep 32 (0:Int))))))))) (splc_all (len_eq (len_app (len1 _) (len_app (len1 _) (len_app (len1 _) (len_app (len1 _) (len_en _ t5))))) (len_app (len1 _) (len_app (len1 _) (len_app (len1 _) (len_app (len1 _) (len_en _ (vrep 32 (0:Int))))))))) (hl_of (Sub4.skip (n:=1) (len1 _) (Sub4.skip (n:=1) (len1 _) (Sub4.skip (n:=1) (len1 _) (Sub4.skip (n:=1) (len1 _) (Sub4.all _))))) (len_eq (len_en _ t5) (len_en _ (vrep 32 (0:Int)))))) fill_nil))))) ?_
 refine ls_storec (g:=g1) (off:=0) (v:=.agg ⟨([Value.int .i64 a0]++([Value.int .i64 a1]++([Value.int .i64 (l2.length:Int)]++([Value.int .u32 t2]++en (Value.int .u8) t5.1))))⟩) (vs:=([Value.int .i64 a0]++([Value.int .i64 a1]++([Value.int .i64 (l2.length:Int)]++([Value.int .u32 t2]++en (Value.int .u8) t5.1))))) (cs:=([Value.int .i64 (0:Int)]++([Value.int .i64 (0:Int)]++([Value.int .i64 (0:Int)]++([Value.int .u32 (0:Int)]++en (Value.int .u8) (vrep 32 (0:Int)).1))))) (ty:=30) 0 rfl rfl rfl (by kernel_rfl) (by kernel_rfl) (by kernel_rfl) (by exact rfl) (by kernel_rfl) (len_app (len1 _) (len_app (len1 _) (len_app (len1 _) (len_app (len1 _) (len_en _ t5))))) (one_app (one_cons rfl one_nil) (one_app (one_cons rfl one_nil) (one_app (one_cons rfl one_nil) (one_app (one_cons rfl one_nil) (one_en (fun _=>rfl) _))))) (hl_of (Sub4.all _) (len_eq (len_app (len1 _) (len_app (len1 _) (len_app (len1 _) (len_app (len1 _) (len_en _ t5))))) (len_app (len1 _) (len_app (len1 _) (len_app (len1 _) (len_app (len1 _) (len_en _ (vrep 32 (0:Int))))))))) (cs' := ([Value.int .i64 a0]++([Value.int .i64 a1]++([Value.int .i64 (l2.length:Int)]++([Value.int .u32 t2]++en (Value.int .u8) t5.1))))) (splc_all (len_eq (len_app (len1 _) (len_app (len1 _) (len_app (len1 _) (len_app (len1 _) (len_en _ t5))))) (len_app (len1 _) (len_app (len1 _) (len_app (len1 _) (len_app (len1 _) (len_en _ (vrep 32 (0:Int))))))))) ?_
 refine ls_end ?_
 refine qn_then ?_
 refine cs_ret' ?_
 obtain rfl := Option.some.inj H
 refine qr_res (rs:=[_]) rfl (fun w' hs=>⟨[.agg ⟨([Value.int .i64 a0]++([Value.int .i64 a1]++([Value.int .i64 (l2.length:Int)]++([Value.int .u32 t2]++en (Value.int .u8) t5.1))))⟩],(.cell (by kernel_rfl) (run_cellres (by kernel_rfl) (by kernel_rfl) (len_app (len1 _) (len_app (len1 _) (len_app (len1 _) (len_app (len1 _) (len_en _ t5))))) (hs.holds 0 _ (by exact rfl))) (.nil)),(),rfl,hs.pick (ts:=[]) (cs:=[]) trivial (by decide)⟩)

/-! ### shadowbox/shadowboxref06.Sectors: function 13 -/
def shadowboxref06_Sectors.f (k:Nat) (a0:(Int × Int × Int × Int × (Vc Int 32))):Option (Int) :=
  (if a0.2.2.1<(1:Int) then some (0:Int) else (if a0.2.2.1 > (65536:Int) then some (0:Int) else lt (IntKind.wrap .i64 (a0.2.2.1+(511:Int))) fun y4=>lt (IntKind.wrap .i64 (Int.tdiv y4 (512:Int))) fun y6=>some y6))
set_option maxRecDepth 100000 in
set_option maxHeartbeats 4000000 in
theorem shadowboxref06_Sectors.calls (k:Nat) (a0:(Int × Int × Int × Int × (Vc Int 32))) (r:Int) (b:Bs) (hs0:St b (stl []) b.w) (H:shadowboxref06_Sectors.f k a0=some r) :
    Calls Try.prog 13 #[.agg ⟨([Value.int .i64 a0.1]++([Value.int .i64 a0.2.1]++([Value.int .i64 a0.2.2.1]++([Value.int .u32 a0.2.2.2.1]++en (Value.int .u8) a0.2.2.2.2.1))))⟩] b.w fun e w'=>∃ x:Unit,e=.returned (.int .i64 r)∧St b (stl []) w' := by
 unfold shadowboxref06_Sectors.f at H
 refine enterb (n:=15) Try.func13 rfl (by kernel_rfl) (by kernel_rfl) hs0 ?_
 refine cs_sub (s0) (sub_nil _) ?_
 refine cs_seq ?_
 refine cs_region (l:=[_,_]) ?_
 refine ls_new rfl rfl (by kernel_rfl) 0 (fun g=>.pointer (some ⟨g,0,none⟩)) (.cells ⟨([Value.int .i64 a0.1]++([Value.int .i64 a0.2.1]++([Value.int .i64 a0.2.2.1]++([Value.int .u32 a0.2.2.2.1]++en (Value.int .u8) a0.2.2.2.2.1))))⟩ 30) (fun w=>by kernel_rfl) ?_
 intro g1
 refine lv (.int .i64 (0:Int)) ?_
 refine ls_end ?_
 refine qn_then ?_
 refine cs_seq ?_
 refine cs_seq ?_
 refine cs_region (l:=[_,_,_,_,_,_,_,_]) ?_
 refine lv (.pointer (some ⟨g1,(0+2),none⟩)) ?_
 refine ls_load (a0:=⟨g1,(0+2),none⟩) (v:=.int .i64 a0.2.2.1) (de:=(TypeDesc.int .i64)) rfl rfl (by kernel_rfl) rfl (by kernel_rfl) (by kernel_rfl) (by kernel_rfl) (fun w hs=>(hs.var (k:=0) (by exact rfl) (Sub4.trans (Sub4.all _) (Sub4.skip (n:=1) (len1 _) (Sub4.skip (n:=1) (len1 _) (Sub4.head _ _)))))) ?_
 refine lv (.bool (decide (a0.2.2.1<(1:Int)))) ?_
 refine lv (.bool (decide (a0.2.2.1<(1:Int)))) ?_
 by_cases q2:a0.2.2.1<(1:Int)
 ·replace H := ite_t q2 H
  refine ls_know (c:=true) (dec_t q2) 6 (by kernel_rfl) ?_
  refine lofx 3 6 false true ?_
  refine lofx 3 6 false true ?_
  refine lofx 3 6 false true ?_
  refine lv (.bool true) ?_
  refine ls_end ?_
  refine qn_then ?_
  refine cs_true (by kernel_rfl) ?_
  refine cs_seq ?_
  refine cs_region (l:=[_]) ?_
  refine lv (.int .i64 (0:Int)) ?_
  refine ls_end ?_
  refine qn_then ?_
  refine cs_ret' ?_
  refine qr_then ?_
  obtain rfl := Option.some.inj H
  refine qr_res (rs:=[_]) rfl (fun w' hs=>⟨[.int .i64 (0:Int)],(res_tmp (by kernel_rfl) (.nil)),(),rfl,hs.pick (ts:=[]) (cs:=[]) trivial (by decide)⟩)
 replace H := ite_f q2 H
 refine ls_know (c:=false) (dec_f q2) 6 (by kernel_rfl) ?_
 refine ls_on (j:=3) (t:=6) (b:=false) rfl rfl (by kernel_rfl) (by kernel_rfl) ?_
 refine lv (.pointer (some ⟨g1,(0+2),none⟩)) ?_
 refine ls_on (j:=3) (t:=6) (b:=false) rfl rfl (by kernel_rfl) (by kernel_rfl) ?_
 refine ls_load (a0:=⟨g1,(0+2),none⟩) (v:=.int .i64 a0.2.2.1) (de:=(TypeDesc.int .i64)) rfl rfl (by kernel_rfl) rfl (by kernel_rfl) (by kernel_rfl) (by kernel_rfl) (fun w hs=>(hs.var (k:=0) (by exact rfl) (Sub4.trans (Sub4.all _) (Sub4.skip (n:=1) (len1 _) (Sub4.skip (n:=1) (len1 _) (Sub4.head _ _)))))) ?_
 refine ls_on (j:=3) (t:=6) (b:=false) rfl rfl (by kernel_rfl) (by kernel_rfl) ?_
 refine lv (.bool (decide (a0.2.2.1 > (65536:Int)))) ?_
 refine lv (.bool (decide (a0.2.2.1 > (65536:Int)))) ?_
 refine ls_end ?_
 refine qn_then ?_
 by_cases q3:a0.2.2.1 > (65536:Int)
 ·replace H := ite_t q3 H
  refine cs_know (c:=true) (dec_t q3) 10 (by kernel_rfl) ?_
  refine cs_true (by kernel_rfl) ?_
  refine cs_seq ?_
  refine cs_region (l:=[_]) ?_
  refine lv (.int .i64 (0:Int)) ?_
  refine ls_end ?_
  refine qn_then ?_
  refine cs_ret' ?_
  refine qr_then ?_
  obtain rfl := Option.some.inj H
  refine qr_res (rs:=[_]) rfl (fun w' hs=>⟨[.int .i64 (0:Int)],(res_tmp (by kernel_rfl) (.nil)),(),rfl,hs.pick (ts:=[]) (cs:=[]) trivial (by decide)⟩)
 replace H := ite_f q3 H
 refine cs_know (c:=false) (dec_f q3) 10 (by kernel_rfl) ?_
 refine cs_false (by kernel_rfl) ?_
 refine cs_skip' ?_
 refine qn_then ?_
 refine cs_seq ?_
 refine cs_region (l:=[_,_,_,_,_]) ?_
 refine lv (.pointer (some ⟨g1,(0+2),none⟩)) ?_
 refine ls_load (a0:=⟨g1,(0+2),none⟩) (v:=.int .i64 a0.2.2.1) (de:=(TypeDesc.int .i64)) rfl rfl (by kernel_rfl) rfl (by kernel_rfl) (by kernel_rfl) (by kernel_rfl) (fun w hs=>(hs.var (k:=0) (by exact rfl) (Sub4.trans (Sub4.all _) (Sub4.skip (n:=1) (len1 _) (Sub4.skip (n:=1) (len1 _) (Sub4.head _ _)))))) ?_
 obtain ⟨y4,hy5,H⟩ := lt_some H
 refine lv (.int .i64 (IntKind.wrap .i64 (a0.2.2.1+(511:Int)))) ?_
 refine ls_ren 13 (v:=.int .i64 (IntKind.wrap .i64 (a0.2.2.1+(511:Int)))) (v' := .int .i64 y4) (by kernel_rfl) (by rw [hy5]) ?_
 obtain ⟨y6,hy7,H⟩ := lt_some H
 refine lv (.int .i64 (IntKind.wrap .i64 (Int.tdiv y4 (512:Int)))) ?_
 refine ls_ren 14 (v:=.int .i64 (IntKind.wrap .i64 (Int.tdiv y4 (512:Int)))) (v' := .int .i64 y6) (by kernel_rfl) (by rw [hy7]) ?_
 refine lv (.int .i64 y6) ?_
 refine ls_end ?_
 refine qn_then ?_
 refine cs_ret' ?_
 obtain rfl := Option.some.inj H
 refine qr_res (rs:=[_]) rfl (fun w' hs=>⟨[.int .i64 y6],(res_tmp (by kernel_rfl) (.nil)),(),rfl,hs.pick (ts:=[]) (cs:=[]) trivial (by decide)⟩)

end Go.Proofs.Ytbidihabicgedaa.G
