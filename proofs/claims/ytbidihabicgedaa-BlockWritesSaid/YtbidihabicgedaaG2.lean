/- Printed by a program of this session (sz.py): plain functions, and walks that show that the code comes to them; no condition. -/
import Derived.Test.YtbidihabicgedaaProg
import Derived.Test.YtbidihabicgedaaTy
import Derived.Test.YtbidihabicgedaaG0
import Derived.Test.YtbidihabicgedaaG1
set_option linter.unusedVariables false
set_option linter.unusedSimpArgs false
namespace Go.Proofs.Ytbidihabicgedaa.G
open Go Go.RowKit Go.Proofs.Ytbidihabicgedaa.Sx

/-! ### shadowbox/shadowboxref03.primes: function 55 -/
def shadowboxref03_primes.lo3 (l3_1:List Int) (x4_1:Int) (lo1:(List Int)→Int→Option ((List Int))):Nat→Bool→Int→Option ((List Int))
  | 0,_,_=>none
  | k3+1,x5_3,x6_3=>(if x6_3<(l3_1.length:Int) then (if 0≤x6_3 then (if ((l3_1).getD (x6_3).toNat (0:Int))≠0 then lt (Int.tmod x4_1 ((l3_1).getD (x6_3).toNat (0:Int))) fun y6=>(if y6=(0:Int) then (shadowboxref03_primes.lo3 l3_1 x4_1 lo1 k3) false (IntKind.wrap .i64 (x6_3+(1:Int))) else (shadowboxref03_primes.lo3 l3_1 x4_1 lo1 k3) x5_3 (IntKind.wrap .i64 (x6_3+(1:Int)))) else none) else none) else (if x5_3=true then (if (l3_1.length+([x4_1]).length)*8≤140737488355328 then lo1 (l3_1++[x4_1]) (IntKind.wrap .u64 (x4_1+(1:Int))) else none) else lo1 l3_1 (IntKind.wrap .u64 (x4_1+(1:Int)))))
def shadowboxref03_primes.jo2 (l3_1:List Int) (x4_1:Int) (k1:Nat) (lo1:(List Int)→Int→Option ((List Int))):Option ((List Int)) := shadowboxref03_primes.lo3 l3_1 x4_1 lo1 k1 true (0:Int)
def shadowboxref03_primes.lo1 (a0:Int):Nat→(List Int)→Int→Option ((List Int))
  | 0,_,_=>none
  | k1+1,l3_1,x4_1=>(if (l3_1.length:Int)<a0 then (shadowboxref03_primes.jo2 l3_1 x4_1 k1 (shadowboxref03_primes.lo1 a0 k1)) else some l3_1)
def shadowboxref03_primes.f (k:Nat) (a0:Int):Option ((List Int)) :=
  shadowboxref03_primes.lo1 a0 k ([]:List Int) (2:Int)
set_option maxRecDepth 100000 in
set_option maxHeartbeats 4000000 in
theorem shadowboxref03_primes.calls (k:Nat) (a0:Int) (r:(List Int)) (b:Bs) (hs0:St b (stl []) b.w) (H:shadowboxref03_primes.f k a0=some r) :
    Calls Try.prog 55 #[.int .i64 a0] b.w fun e w'=>∃ x:(Option Addr × Nat),e=.returned (.slice x.1 r.length x.2)∧St b (stl [Ck.sl (Ec.int 72 .u64) x.1 x.2 r]) w' := by
 unfold shadowboxref03_primes.f at H
 refine enterb (n:=32) Try.func55 rfl (by kernel_rfl) (by kernel_rfl) hs0 ?_
 refine cs_sub (s0) (sub_nil _) ?_
 refine cs_seq ?_
 refine cs_region (l:=[_]) ?_
 refine lv (.slice none 0 0) ?_
 refine ls_end ?_
 refine qn_then ?_
 refine cs_seq ?_
 refine cs_region (l:=[_]) ?_
 refine lv (.slice none 0 0) ?_
 refine ls_end ?_
 refine qn_then ?_
 refine cs_seq ?_
 refine cs_seq ?_
 refine cs_region (l:=[_]) ?_
 refine lv (.int .u64 (2:Int)) ?_
 refine ls_end ?_
 refine qn_then ?_
 refine cs_block ?_
 refine cs_nilrow 0 (Ec.int 72 .u64) ?_
 refine cs_sub (sput s0 0 (some (Ck.sl (Ec.int 72 .u64) none 0 ([]:List Int)))) (sub_put (by exact rfl) (sub_nil _)) ?_
 refine cs_loop (fun kk f S=>∃ (fR:Fr) (A3_1:Option Addr) (c3_1:Nat) (l3_1:List Int) (x4_1:Int),f=upd (upd (upd fR 0 (.int .i64 a0)) 3 (.slice A3_1 l3_1.length c3_1)) 4 (.int .u64 x4_1)∧S=sput s0 0 (some (Ck.sl (Ec.int 72 .u64) A3_1 c3_1 l3_1))∧shadowboxref03_primes.lo1 a0 kk l3_1 x4_1=some r) k ?_ ?_ ?_
 ·exact ⟨_,none,0,([]:List Int),(2:Int),fr_next (fr_next (fr_next (rfl) (by kernel_rfl)) (by kernel_rfl)) (by kernel_rfl),rfl,H⟩
 ·rintro f S ⟨fr1,A3_1,c3_1,l3_1,x4_1,rfl,rfl,H⟩; cases H
 rintro k1 f S ⟨fr1,A3_1,c3_1,l3_1,x4_1,rfl,rfl,H⟩
 replace H:((if (l3_1.length:Int)<a0 then (shadowboxref03_primes.jo2 l3_1 x4_1 k1 (shadowboxref03_primes.lo1 a0 k1)) else some l3_1))=some r := H
 refine cs_cut (fun f S=>∃ (fR:Fr),f=upd (upd (upd fR 0 (.int .i64 a0)) 3 (.slice A3_1 l3_1.length c3_1)) 4 (.int .u64 x4_1)∧S=sput s0 0 (some (Ck.sl (Ec.int 72 .u64) A3_1 c3_1 l3_1))∧shadowboxref03_primes.jo2 l3_1 x4_1 k1 (shadowboxref03_primes.lo1 a0 k1)=some r) ?_ ?_
 ·skip
  refine cs_seq ?_
  refine cs_region (l:=[_,_,_,_]) ?_
  refine lv (.slice A3_1 l3_1.length c3_1) ?_
  refine lv (.int .i64 (l3_1.length:Int)) ?_
  refine lv (.int .i64 a0) ?_
  refine lv (.bool (decide ((l3_1.length:Int)<a0))) ?_
  refine ls_end ?_
  refine qn_then ?_
  by_cases q14:(l3_1.length:Int)<a0
  ·replace H := ite_t q14 H
   refine cs_know (c:=true) (dec_t q14) 10 (by kernel_rfl) ?_
   refine cs_true (by kernel_rfl) ?_
   refine cs_skip' ?_
   refine qn_meet (sput s0 0 (some (Ck.sl (Ec.int 72 .u64) A3_1 c3_1 l3_1))) ⟨_,fr_next (fr_next (fr_next (rfl) (by kernel_rfl)) (by kernel_rfl)) (by kernel_rfl),rfl,H⟩ (sub_put (by exact rfl) (sub_nil _))
  replace H := ite_f q14 H
  refine cs_know (c:=false) (dec_f q14) 10 (by kernel_rfl) ?_
  refine cs_false (by kernel_rfl) ?_
  refine cs_exit' ?_
  refine qx_then ?_
  refine qx_then ?_
  refine qx_same ?_
  refine qn_then ?_
  refine cs_seq ?_
  refine cs_region (l:=[_,_]) ?_
  refine lv (.slice A3_1 l3_1.length c3_1) ?_
  refine lv (.slice A3_1 l3_1.length c3_1) ?_
  refine ls_end ?_
  refine qn_then ?_
  refine cs_ret' ?_
  obtain rfl := Option.some.inj H
  refine qr_res (rs:=[_]) rfl (fun w' hs=>⟨[.slice A3_1 l3_1.length c3_1],(res_tmp (by kernel_rfl) (.nil)),(A3_1,c3_1),rfl,hs.pick (ts:=[0]) (cs:=[Ck.sl (Ec.int 72 .u64) A3_1 c3_1 l3_1]) ⟨by exact rfl,trivial⟩ (by decide)⟩)
 rintro f S ⟨fr2,rfl,rfl,H⟩
 replace H:(shadowboxref03_primes.lo3 l3_1 x4_1 (shadowboxref03_primes.lo1 a0 k1) k1 true (0:Int))=some r := H
 refine cs_seq ?_
 refine cs_block ?_
 refine cs_seq ?_
 refine cs_region (l:=[_]) ?_
 refine lv (.bool true) ?_
 refine ls_end ?_
 refine qn_then ?_
 refine cs_seq ?_
 refine cs_seq ?_
 refine cs_region (l:=[_]) ?_
 refine lv (.int .i64 (0:Int)) ?_
 refine ls_end ?_
 refine qn_then ?_
 refine cs_block ?_
 refine cs_sub (sput s0 0 (some (Ck.sl (Ec.int 72 .u64) A3_1 c3_1 l3_1))) (sub_put (by exact rfl) (sub_nil _)) ?_
 refine cs_loop (fun kk f S=>∃ (fR:Fr) (x5_3:Bool) (x6_3:Int),f=upd (upd (upd (upd (upd fR 0 (.int .i64 a0)) 3 (.slice A3_1 l3_1.length c3_1)) 4 (.int .u64 x4_1)) 5 (.bool x5_3)) 6 (.int .i64 x6_3)∧S=sput s0 0 (some (Ck.sl (Ec.int 72 .u64) A3_1 c3_1 l3_1))∧shadowboxref03_primes.lo3 l3_1 x4_1 (shadowboxref03_primes.lo1 a0 k1) kk x5_3 x6_3=some r) k1 ?_ ?_ ?_
 ·exact ⟨_,true,(0:Int),fr_next (fr_next (fr_next (fr_next (fr_next (rfl) (by kernel_rfl)) (by kernel_rfl)) (by kernel_rfl)) (by kernel_rfl)) (by kernel_rfl),rfl,H⟩
 ·rintro f S ⟨fr3,x5_3,x6_3,rfl,rfl,H⟩; cases H
 rintro k3 f S ⟨fr3,x5_3,x6_3,rfl,rfl,H⟩
 replace H:((if x6_3<(l3_1.length:Int) then (if 0≤x6_3 then (if ((l3_1).getD (x6_3).toNat (0:Int))≠0 then lt (Int.tmod x4_1 ((l3_1).getD (x6_3).toNat (0:Int))) fun y6=>(if y6=(0:Int) then (shadowboxref03_primes.lo3 l3_1 x4_1 (shadowboxref03_primes.lo1 a0 k1) k3) false (IntKind.wrap .i64 (x6_3+(1:Int))) else (shadowboxref03_primes.lo3 l3_1 x4_1 (shadowboxref03_primes.lo1 a0 k1) k3) x5_3 (IntKind.wrap .i64 (x6_3+(1:Int)))) else none) else none) else (if x5_3=true then (if (l3_1.length+([x4_1]).length)*8≤140737488355328 then (shadowboxref03_primes.lo1 a0 k1) (l3_1++[x4_1]) (IntKind.wrap .u64 (x4_1+(1:Int))) else none) else (shadowboxref03_primes.lo1 a0 k1) l3_1 (IntKind.wrap .u64 (x4_1+(1:Int))))))=some r := H
 refine cs_seq ?_
 refine cs_seq ?_
 refine cs_region (l:=[_,_,_,_]) ?_
 refine lv (.int .i64 x6_3) ?_
 refine lv (.slice A3_1 l3_1.length c3_1) ?_
 refine lv (.int .i64 (l3_1.length:Int)) ?_
 refine lv (.bool (decide (x6_3<(l3_1.length:Int)))) ?_
 refine ls_end ?_
 refine qn_then ?_
 by_cases q1:x6_3<(l3_1.length:Int)
 ·replace H := ite_t q1 H
  refine cs_know (c:=true) (dec_t q1) 16 (by kernel_rfl) ?_
  refine cs_true (by kernel_rfl) ?_
  refine cs_skip' ?_
  refine qn_then ?_
  refine cs_seq ?_
  refine cs_block ?_
  refine cs_seq ?_
  refine cs_region (l:=[_,_,_,_,_,_,_]) ?_
  refine lv (.int .u64 x4_1) ?_
  refine lv (.slice A3_1 l3_1.length c3_1) ?_
  refine lv (.int .i64 x6_3) ?_
  obtain ⟨q2,H⟩ := ite_need H
  refine ls_at (T:=(Ec.int 72 .u64)) (tk:=0) (i:=x6_3) (by exact rfl) q2 q1 ?_
  intro ad3 hA4
  refine ls_idxv (Ec.int 72 .u64) (A:=A3_1) (c:=c3_1) (l:=l3_1) (k:=.i64) (i:=x6_3) (z:=1) (ad:=ad3) rfl rfl (by kernel_rfl) hA4 rfl (by kernel_rfl) (by kernel_rfl) (by kernel_rfl) (by kernel_rfl) q2 q1 ?_
  refine ls_load (a0:=(ad3.add ((x6_3).toNat*1))) (v:=.int .u64 ((l3_1).getD (x6_3).toNat (0:Int))) (de:=(TypeDesc.int .u64)) rfl rfl (by kernel_rfl) rfl (by kernel_rfl) (by kernel_rfl) (by kernel_rfl) (fun w hs=>(hs.rd (k:=0) (by exact rfl)).at hA4 (em_sub (Ec.int 72 .u64) l3_1 (i:=(x6_3).toNat) (by have h0:(0:Int)≤x6_3 := q2; have h1:x6_3<(l3_1.length:Int) := q1; omega))) ?_
  obtain ⟨q5,H⟩ := ite_need H
  obtain ⟨y6,hy7,H⟩ := lt_some H
  refine ls_rem (k:=.u64) (x:=x4_1) (y:=((l3_1).getD (x6_3).toNat (0:Int))) rfl rfl (by kernel_rfl) (fun w=>by kernel_rfl) q5 ?_
  refine ls_ren 24 (v:=.int .u64 (Int.tmod x4_1 ((l3_1).getD (x6_3).toNat (0:Int)))) (v' := .int .u64 y6) (by kernel_rfl) (by rw [hy7]) ?_
  refine lv (.bool (decide (y6=(0:Int)))) ?_
  refine ls_end ?_
  refine qn_then ?_
  by_cases q8:y6=(0:Int)
  ·replace H := ite_t q8 H
   refine cs_know (c:=true) (dec_t q8) 25 (by kernel_rfl) ?_
   refine cs_true (by kernel_rfl) ?_
   refine cs_region (l:=[_]) ?_
   refine lv (.bool false) ?_
   refine ls_end ?_
   refine qn_block ?_
   refine qn_then ?_
   refine cs_region (l:=[_,_,_]) ?_
   refine lv (.int .i64 x6_3) ?_
   refine lv (.int .i64 (IntKind.wrap .i64 (x6_3+(1:Int)))) ?_
   refine lv (.int .i64 (IntKind.wrap .i64 (x6_3+(1:Int)))) ?_
   refine ls_end ?_
   refine qn_again k3 (sput s0 0 (some (Ck.sl (Ec.int 72 .u64) A3_1 c3_1 l3_1))) (Nat.le_refl _) ⟨_,false,(IntKind.wrap .i64 (x6_3+(1:Int))),fr_next (fr_next (fr_next (fr_next (fr_next (rfl) (by kernel_rfl)) (by kernel_rfl)) (by kernel_rfl)) (by kernel_rfl)) (by kernel_rfl),rfl,H⟩ (sub_put (by exact rfl) (sub_nil _))
  replace H := ite_f q8 H
  refine cs_know (c:=false) (dec_f q8) 25 (by kernel_rfl) ?_
  refine cs_false (by kernel_rfl) ?_
  refine cs_skip' ?_
  refine qn_block ?_
  refine qn_then ?_
  refine cs_region (l:=[_,_,_]) ?_
  refine lv (.int .i64 x6_3) ?_
  refine lv (.int .i64 (IntKind.wrap .i64 (x6_3+(1:Int)))) ?_
  refine lv (.int .i64 (IntKind.wrap .i64 (x6_3+(1:Int)))) ?_
  refine ls_end ?_
  refine qn_again k3 (sput s0 0 (some (Ck.sl (Ec.int 72 .u64) A3_1 c3_1 l3_1))) (Nat.le_refl _) ⟨_,x5_3,(IntKind.wrap .i64 (x6_3+(1:Int))),fr_next (fr_next (fr_next (fr_next (fr_next (rfl) (by kernel_rfl)) (by kernel_rfl)) (by kernel_rfl)) (by kernel_rfl)) (by kernel_rfl),rfl,H⟩ (sub_put (by exact rfl) (sub_nil _))
 replace H := ite_f q1 H
 refine cs_know (c:=false) (dec_f q1) 16 (by kernel_rfl) ?_
 refine cs_false (by kernel_rfl) ?_
 refine cs_exit' ?_
 refine qx_then ?_
 refine qx_then ?_
 refine qx_same ?_
 refine qn_then ?_
 refine cs_seq ?_
 refine cs_region (l:=[_]) ?_
 refine lv (.bool x5_3) ?_
 refine ls_end ?_
 refine qn_then ?_
 by_cases q9:x5_3=true
 ·replace H := ite_t q9 H
  refine cs_know (c:=true) (q9) 26 (by kernel_rfl) ?_
  refine cs_true (by kernel_rfl) ?_
  refine cs_region (l:=[_,_,_,_,_]) ?_
  refine lv (.slice A3_1 l3_1.length c3_1) ?_
  refine lv (.int .u64 x4_1) ?_
  refine ls_lit (Ec.int 72 .u64) 1 rfl rfl (by kernel_rfl) ([x4_1]) (by exact of_decide_eq_true (by kernel_rfl)) (fun w=>by kernel_rfl) ?_
  intro g10
  obtain ⟨q11,H⟩ := ite_need H
  refine ls_app (Ec.int 72 .u64) (A:=A3_1) (c:=c3_1) (B:=(some ⟨g10,0,none⟩)) (cb:=[x4_1].length) (z:=(Value.int .u64 0)) (l:=l3_1) (m:=[x4_1]) (bytes:=8) 0 rfl rfl (by kernel_rfl) rfl (by kernel_rfl) (by exact rfl) (by kernel_rfl) (fun w hs=>(hs.rd (k:=1) (by exact rfl))) (by kernel_rfl) (by kernel_rfl) rfl (by decide) q11 ?_
  intro xA12 xc13
  refine lv (.slice xA12 (l3_1++[x4_1]).length xc13) ?_
  refine ls_end ?_
  refine qn_block ?_
  refine qn_then ?_
  refine cs_region (l:=[_,_,_]) ?_
  refine lv (.int .u64 x4_1) ?_
  refine lv (.int .u64 (IntKind.wrap .u64 (x4_1+(1:Int)))) ?_
  refine lv (.int .u64 (IntKind.wrap .u64 (x4_1+(1:Int)))) ?_
  refine ls_end ?_
  refine qn_again k1 (sput s0 0 (some (Ck.sl (Ec.int 72 .u64) xA12 xc13 (l3_1++[x4_1])))) (Nat.le_refl _) ⟨_,xA12,xc13,(l3_1++[x4_1]),(IntKind.wrap .u64 (x4_1+(1:Int))),fr_next (fr_next (fr_next (rfl) (by kernel_rfl)) (by kernel_rfl)) (by kernel_rfl),rfl,H⟩ (sub_put (by exact rfl) (sub_nil _))
 replace H := ite_f q9 H
 refine cs_know (c:=false) (Bool.eq_false_iff.mpr q9) 26 (by kernel_rfl) ?_
 refine cs_false (by kernel_rfl) ?_
 refine cs_skip' ?_
 refine qn_block ?_
 refine qn_then ?_
 refine cs_region (l:=[_,_,_]) ?_
 refine lv (.int .u64 x4_1) ?_
 refine lv (.int .u64 (IntKind.wrap .u64 (x4_1+(1:Int)))) ?_
 refine lv (.int .u64 (IntKind.wrap .u64 (x4_1+(1:Int)))) ?_
 refine ls_end ?_
 refine qn_again k1 (sput s0 0 (some (Ck.sl (Ec.int 72 .u64) A3_1 c3_1 l3_1))) (Nat.le_refl _) ⟨_,A3_1,c3_1,l3_1,(IntKind.wrap .u64 (x4_1+(1:Int))),fr_next (fr_next (fr_next (rfl) (by kernel_rfl)) (by kernel_rfl)) (by kernel_rfl),rfl,H⟩ (sub_put (by exact rfl) (sub_nil _))

/-! ### shadowbox/shadowboxref03.power: function 69 -/
def shadowboxref03_power.tab29:List (List Nat) := [[],[],[0,1],[0,1,2],[],[],[4,5],[4,5,6],[0,1,2,3,4,5,6,7]]
def shadowboxref03_power.tab39:List (List Nat) := [[],[],[0,1],[0,1,2],[],[],[4,5],[4,5,6],[0,1,2,3,4,5,6,7],[0,1,2,3,4,5,6,7,8]]
def shadowboxref03_power.lo2 (l9_1:List Int) (l11_1:List Int):Nat→Int→Option (Bool)
  | 0,_=>none
  | k2+1,x17_2=>(if x17_2≥(0:Int) then (if 0≤x17_2 then (if x17_2<(l9_1.length:Int) then (if x17_2<(l11_1.length:Int) then (if ((l9_1).getD (x17_2).toNat (0:Int))=((l11_1).getD (x17_2).toNat (0:Int)) then (shadowboxref03_power.lo2 l9_1 l11_1 k2) (IntKind.wrap .i64 (x17_2 - (1:Int))) else some (decide (((l9_1).getD (x17_2).toNat (0:Int))<((l11_1).getD (x17_2).toNat (0:Int))))) else none) else none) else none) else some true)
def shadowboxref03_power.jo1 (k:Nat) (l9_1:List Int) (l11_1:List Int):Option (Bool) := shadowboxref03_power.lo2 l9_1 l11_1 k (3:Int)
def shadowboxref03_power.jo4 (a0:Int) (y1:Int) (l9_3:List Int) (l12_3:List Int) (x13_3:Int) (x14_3:Int) (lo3:(List Int)→(List Int)→Int→Int→Option (Bool)):Option (Bool) := (if x14_3<(3:Int) then (if 0≤x14_3 then (if x14_3<(l9_3.length:Int) then lt (IntKind.wrap .u64 (((l9_3).getD (x14_3).toNat (0:Int))*(Int.tmod a0 (4294967296:Int)))) fun y53=>lt (IntKind.wrap .u64 (x13_3+(Int.tmod y53 (4294967296:Int)))) fun y55=>lt (IntKind.wrap .u64 (Int.tdiv y53 (4294967296:Int))) fun y57=>(if x14_3 > (0:Int) then (if 0≤IntKind.wrap .i64 (x14_3 - (1:Int)) then (if IntKind.wrap .i64 (x14_3 - (1:Int))<(l9_3.length:Int) then lt (((l9_3).getD (IntKind.wrap .i64 (x14_3 - (1:Int))).toNat (0:Int))) fun y64=>lt (IntKind.wrap .u64 (y55+(IntKind.wrap .u64 (y64*y1)))) fun y66=>(if x14_3<(l12_3.length:Int) then lt ((l12_3).set (x14_3).toNat (Int.tmod y66 (4294967296:Int))) fun y71=>lt (IntKind.wrap .u64 (Int.tdiv y66 (4294967296:Int))) fun y73=>lo3 l9_3 y71 (IntKind.wrap .u64 (y57+y73)) (IntKind.wrap .i64 (x14_3+(1:Int))) else none) else none) else none) else (if x14_3<(l12_3.length:Int) then lt ((l12_3).set (x14_3).toNat (Int.tmod y55 (4294967296:Int))) fun y78=>lt (IntKind.wrap .u64 (Int.tdiv y55 (4294967296:Int))) fun y80=>lo3 l9_3 y78 (IntKind.wrap .u64 (y57+y80)) (IntKind.wrap .i64 (x14_3+(1:Int))) else none)) else none) else none) else (if x14_3 > (0:Int) then (if 0≤IntKind.wrap .i64 (x14_3 - (1:Int)) then (if IntKind.wrap .i64 (x14_3 - (1:Int))<(l9_3.length:Int) then lt (((l9_3).getD (IntKind.wrap .i64 (x14_3 - (1:Int))).toNat (0:Int))) fun y87=>lt (IntKind.wrap .u64 (x13_3+(IntKind.wrap .u64 (y87*y1)))) fun y89=>(if 0≤x14_3 then (if x14_3<(l12_3.length:Int) then lt ((l12_3).set (x14_3).toNat (Int.tmod y89 (4294967296:Int))) fun y95=>lt (IntKind.wrap .u64 (Int.tdiv y89 (4294967296:Int))) fun y97=>lo3 l9_3 y95 (IntKind.wrap .u64 ((0:Int)+y97)) (IntKind.wrap .i64 (x14_3+(1:Int))) else none) else none) else none) else none) else (if 0≤x14_3 then (if x14_3<(l12_3.length:Int) then lt ((l12_3).set (x14_3).toNat (Int.tmod x13_3 (4294967296:Int))) fun y103=>lt (IntKind.wrap .u64 (Int.tdiv x13_3 (4294967296:Int))) fun y105=>lo3 l9_3 y103 (IntKind.wrap .u64 ((0:Int)+y105)) (IntKind.wrap .i64 (x14_3+(1:Int))) else none) else none)))
def shadowboxref03_power.lo3 (a0:Int) (a2:Int) (y1:Int) (jo1:(List Int)→(List Int)→Option (Bool)):Nat→(List Int)→(List Int)→Int→Int→Option (Bool)
  | 0,_,_,_,_=>none
  | k3+1,l9_3,l12_3,x13_3,x14_3=>(if x14_3<(4:Int) then (shadowboxref03_power.jo4 a0 y1 l9_3 l12_3 x13_3 x14_3 (shadowboxref03_power.lo3 a0 a2 y1 jo1 k3)) else jo1 l12_3 ([(0:Int),(0:Int),(0:Int),a2]))
def shadowboxref03_power.f (k:Nat) (a0:Int) (a1:Bool) (a2:Int):Option (Bool) :=
  lt (IntKind.wrap .u64 (Int.tdiv a0 (4294967296:Int))) fun y1=>lt (IntKind.wrap .u64 ((Int.tmod a0 (4294967296:Int))*(Int.tmod a0 (4294967296:Int)))) fun y3=>lt (IntKind.wrap .u64 ((Int.tmod a0 (4294967296:Int))*(Int.tmod a0 (4294967296:Int)))) fun y6=>lt (IntKind.wrap .u64 (Int.tdiv y6 (4294967296:Int))) fun y8=>lt (IntKind.wrap .u64 ((IntKind.wrap .u64 ((2:Int)*y1))*(Int.tmod a0 (4294967296:Int)))) fun y10=>lt (Int.tmod (IntKind.wrap .u64 (y8+y10)) (4294967296:Int)) fun y12=>(if (1:Int)<(([Int.tmod y3 (4294967296:Int),(0:Int),(0:Int),(0:Int)]).length:Int) then lt (([Int.tmod y3 (4294967296:Int),(0:Int),(0:Int),(0:Int)]).set ((1:Int)).toNat y12) fun y17=>lt (IntKind.wrap .u64 (Int.tdiv (IntKind.wrap .u64 (y8+y10)) (4294967296:Int))) fun y19=>lt (IntKind.wrap .u64 (y19+(IntKind.wrap .u64 (y1*y1)))) fun y21=>(if (2:Int)<(y17.length:Int) then lt ((y17).set ((2:Int)).toNat y21) fun y26=>(if a1=true then shadowboxref03_power.lo3 a0 a2 y1 (shadowboxref03_power.jo1 k) k y26 ([(0:Int),(0:Int),(0:Int),(0:Int)]) (0:Int) (0:Int) else (shadowboxref03_power.jo1 k) y26 ([(0:Int),(0:Int),a2,(0:Int)])) else none) else none)
set_option maxRecDepth 100000 in
set_option maxHeartbeats 4000000 in
theorem shadowboxref03_power.calls (k:Nat) (a0:Int) (a1:Bool) (a2:Int) (r:Bool) (b:Bs) (hs0:St b (stl []) b.w) (H:shadowboxref03_power.f k a0 a1 a2=some r) :
    Calls Try.prog 69 #[.int .u64 a0,.bool a1,.int .u64 a2] b.w fun e w'=>∃ x:Unit,e=.returned (.bool r)∧St b (stl []) w' := by
 unfold shadowboxref03_power.f at H
 refine enterb (n:=116) Try.func69 rfl (by kernel_rfl) (by kernel_rfl) hs0 ?_
 refine cs_sub (s0) (sub_nil _) ?_
 refine cs_seq ?_
 refine cs_region (l:=[_]) ?_
 refine lv (.bool false) ?_
 refine ls_end ?_
 refine qn_then ?_
 refine cs_seq ?_
 refine cs_region (l:=[_,_,_]) ?_
 refine lv (.int .u64 a0) ?_
 obtain ⟨y1,hy2,H⟩ := lt_some H
 refine lv (.int .u64 (IntKind.wrap .u64 (Int.tdiv a0 (4294967296:Int)))) ?_
 refine ls_ren 19 (v:=.int .u64 (IntKind.wrap .u64 (Int.tdiv a0 (4294967296:Int)))) (v' := .int .u64 y1) (by kernel_rfl) (by rw [hy2]) ?_
 refine lv (.int .u64 y1) ?_
 refine ls_end ?_
 refine qn_then ?_
 refine cs_seq ?_
 refine cs_region (l:=[_,_,_]) ?_
 refine lv (.int .u64 a0) ?_
 refine lv (.int .u64 (Int.tmod a0 (4294967296:Int))) ?_
 refine lv (.int .u64 (Int.tmod a0 (4294967296:Int))) ?_
 refine ls_end ?_
 refine qn_then ?_
 refine cs_seq ?_
 refine cs_region (l:=[_,_,_,_,_,_]) ?_
 refine lv (.int .u64 (Int.tmod a0 (4294967296:Int))) ?_
 refine lv (.int .u64 (Int.tmod a0 (4294967296:Int))) ?_
 obtain ⟨y3,hy4,H⟩ := lt_some H
 refine lv (.int .u64 (IntKind.wrap .u64 ((Int.tmod a0 (4294967296:Int))*(Int.tmod a0 (4294967296:Int))))) ?_
 refine ls_ren 24 (v:=.int .u64 (IntKind.wrap .u64 ((Int.tmod a0 (4294967296:Int))*(Int.tmod a0 (4294967296:Int))))) (v' := .int .u64 y3) (by kernel_rfl) (by rw [hy4]) ?_
 refine lv (.int .u64 (Int.tmod y3 (4294967296:Int))) ?_
 refine ls_lit (Ec.int 72 .u64) 0 rfl rfl (by kernel_rfl) ([Int.tmod y3 (4294967296:Int),(0:Int),(0:Int),(0:Int)]) (by exact of_decide_eq_true (by kernel_rfl)) (fun w=>by kernel_rfl) ?_
 intro g5
 refine lv (.slice (some ⟨g5,0,none⟩) [Int.tmod y3 (4294967296:Int),(0:Int),(0:Int),(0:Int)].length [Int.tmod y3 (4294967296:Int),(0:Int),(0:Int),(0:Int)].length) ?_
 refine ls_end ?_
 refine qn_then ?_
 refine cs_seq ?_
 refine cs_region (l:=[_,_,_,_,_,_,_,_,_,_]) ?_
 refine lv (.int .u64 (Int.tmod a0 (4294967296:Int))) ?_
 refine lv (.int .u64 (Int.tmod a0 (4294967296:Int))) ?_
 obtain ⟨y6,hy7,H⟩ := lt_some H
 refine lv (.int .u64 (IntKind.wrap .u64 ((Int.tmod a0 (4294967296:Int))*(Int.tmod a0 (4294967296:Int))))) ?_
 refine ls_ren 29 (v:=.int .u64 (IntKind.wrap .u64 ((Int.tmod a0 (4294967296:Int))*(Int.tmod a0 (4294967296:Int))))) (v' := .int .u64 y6) (by kernel_rfl) (by rw [hy7]) ?_
 obtain ⟨y8,hy9,H⟩ := lt_some H
 refine lv (.int .u64 (IntKind.wrap .u64 (Int.tdiv y6 (4294967296:Int)))) ?_
 refine ls_ren 30 (v:=.int .u64 (IntKind.wrap .u64 (Int.tdiv y6 (4294967296:Int)))) (v' := .int .u64 y8) (by kernel_rfl) (by rw [hy9]) ?_
 refine lv (.int .u64 y1) ?_
 refine lv (.int .u64 (IntKind.wrap .u64 ((2:Int)*y1))) ?_
 refine lv (.int .u64 (Int.tmod a0 (4294967296:Int))) ?_
 obtain ⟨y10,hy11,H⟩ := lt_some H
 refine lv (.int .u64 (IntKind.wrap .u64 ((IntKind.wrap .u64 ((2:Int)*y1))*(Int.tmod a0 (4294967296:Int))))) ?_
 refine ls_ren 34 (v:=.int .u64 (IntKind.wrap .u64 ((IntKind.wrap .u64 ((2:Int)*y1))*(Int.tmod a0 (4294967296:Int))))) (v' := .int .u64 y10) (by kernel_rfl) (by rw [hy11]) ?_
 refine lv (.int .u64 (IntKind.wrap .u64 (y8+y10))) ?_
 refine lv (.int .u64 (IntKind.wrap .u64 (y8+y10))) ?_
 refine ls_end ?_
 refine qn_then ?_
 refine cs_seq ?_
 refine cs_region (l:=[_,_,_,_,_]) ?_
 refine lv (.slice (some ⟨g5,0,none⟩) [Int.tmod y3 (4294967296:Int),(0:Int),(0:Int),(0:Int)].length [Int.tmod y3 (4294967296:Int),(0:Int),(0:Int),(0:Int)].length) ?_
 refine lv (.int .u64 (IntKind.wrap .u64 (y8+y10))) ?_
 obtain ⟨y12,hy13,H⟩ := lt_some H
 refine lv (.int .u64 (Int.tmod (IntKind.wrap .u64 (y8+y10)) (4294967296:Int))) ?_
 refine ls_ren 38 (v:=.int .u64 (Int.tmod (IntKind.wrap .u64 (y8+y10)) (4294967296:Int))) (v' := .int .u64 y12) (by kernel_rfl) (by rw [hy13]) ?_
 obtain ⟨q14,H⟩ := ite_need H
 refine ls_at (T:=(Ec.int 72 .u64)) (tk:=0) (i:=(1:Int)) (by exact rfl) (by decide) q14 ?_
 intro ad15 hA16
 refine ls_idxv (Ec.int 72 .u64) (A:=(some ⟨g5,0,none⟩)) (c:=[Int.tmod y3 (4294967296:Int),(0:Int),(0:Int),(0:Int)].length) (l:=[Int.tmod y3 (4294967296:Int),(0:Int),(0:Int),(0:Int)]) (k:=.i64) (i:=(1:Int)) (z:=1) (ad:=ad15) rfl rfl (by kernel_rfl) hA16 rfl (by kernel_rfl) (by kernel_rfl) (by kernel_rfl) (by kernel_rfl) (by decide) q14 ?_
 obtain ⟨y17,hy18,H⟩ := lt_some H
 refine ls_storem (Ec.int 72 .u64) (A:=(some ⟨g5,0,none⟩)) (c:=[Int.tmod y3 (4294967296:Int),(0:Int),(0:Int),(0:Int)].length) (l:=([Int.tmod y3 (4294967296:Int),(0:Int),(0:Int),(0:Int)])) (l' := y17) (ad:=ad15) (off:=(((1:Int)).toNat*1)) (v:=.int .u64 y12) (vs:=[Value.int .u64 y12]) 0 rfl rfl rfl hA16 (by kernel_rfl) (by kernel_rfl) (by kernel_rfl) (by exact rfl) (by kernel_rfl) (len1 _) (one_cons rfl one_nil) (hl_of (em_sub (Ec.int 72 .u64) ([Int.tmod y3 (4294967296:Int),(0:Int),(0:Int),(0:Int)]) (i:=((1:Int)).toNat) (by have h0:(0:Int)≤(1:Int) := (by decide); have h1:(1:Int)<(([Int.tmod y3 (4294967296:Int),(0:Int),(0:Int),(0:Int)]).length:Int) := q14; omega)) (len_eq (len1 _) (len1 _))) ((splc_em (Ec.int 72 .u64) ([Int.tmod y3 (4294967296:Int),(0:Int),(0:Int),(0:Int)]) y12 (i:=((1:Int)).toNat) (by have h0:(0:Int)≤(1:Int) := (by decide); have h1:(1:Int)<(([Int.tmod y3 (4294967296:Int),(0:Int),(0:Int),(0:Int)]).length:Int) := q14; omega)).trans (congrArg (em (Ec.int 72 .u64)) hy18)) (by rw [← hy18,List.length_set]) ?_
 refine ls_ren 9 (v:=.slice (some ⟨g5,0,none⟩) [Int.tmod y3 (4294967296:Int),(0:Int),(0:Int),(0:Int)].length [Int.tmod y3 (4294967296:Int),(0:Int),(0:Int),(0:Int)].length) (v' := .slice (some ⟨g5,0,none⟩) y17.length [Int.tmod y3 (4294967296:Int),(0:Int),(0:Int),(0:Int)].length) (by kernel_rfl) (by rw [← hy18,List.length_set]) ?_
 refine ls_ren 26 (v:=.slice (some ⟨g5,0,none⟩) [Int.tmod y3 (4294967296:Int),(0:Int),(0:Int),(0:Int)].length [Int.tmod y3 (4294967296:Int),(0:Int),(0:Int),(0:Int)].length) (v' := .slice (some ⟨g5,0,none⟩) y17.length [Int.tmod y3 (4294967296:Int),(0:Int),(0:Int),(0:Int)].length) (by kernel_rfl) (by rw [← hy18,List.length_set]) ?_
 refine ls_ren 36 (v:=.slice (some ⟨g5,0,none⟩) [Int.tmod y3 (4294967296:Int),(0:Int),(0:Int),(0:Int)].length [Int.tmod y3 (4294967296:Int),(0:Int),(0:Int),(0:Int)].length) (v' := .slice (some ⟨g5,0,none⟩) y17.length [Int.tmod y3 (4294967296:Int),(0:Int),(0:Int),(0:Int)].length) (by kernel_rfl) (by rw [← hy18,List.length_set]) ?_
 refine ls_end ?_
 refine qn_then ?_
 refine cs_seq ?_
 refine cs_region (l:=[_,_,_,_,_,_,_,_,_]) ?_
 refine lv (.slice (some ⟨g5,0,none⟩) y17.length [Int.tmod y3 (4294967296:Int),(0:Int),(0:Int),(0:Int)].length) ?_
 refine lv (.int .u64 (IntKind.wrap .u64 (y8+y10))) ?_
 obtain ⟨y19,hy20,H⟩ := lt_some H
 refine lv (.int .u64 (IntKind.wrap .u64 (Int.tdiv (IntKind.wrap .u64 (y8+y10)) (4294967296:Int)))) ?_
 refine ls_ren 42 (v:=.int .u64 (IntKind.wrap .u64 (Int.tdiv (IntKind.wrap .u64 (y8+y10)) (4294967296:Int)))) (v' := .int .u64 y19) (by kernel_rfl) (by rw [hy20]) ?_
 refine lv (.int .u64 y1) ?_
 refine lv (.int .u64 y1) ?_
 refine lv (.int .u64 (IntKind.wrap .u64 (y1*y1))) ?_
 obtain ⟨y21,hy22,H⟩ := lt_some H
 refine lv (.int .u64 (IntKind.wrap .u64 (y19+(IntKind.wrap .u64 (y1*y1))))) ?_
 refine ls_ren 46 (v:=.int .u64 (IntKind.wrap .u64 (y19+(IntKind.wrap .u64 (y1*y1))))) (v' := .int .u64 y21) (by kernel_rfl) (by rw [hy22]) ?_
 obtain ⟨q23,H⟩ := ite_need H
 refine ls_at (T:=(Ec.int 72 .u64)) (tk:=0) (i:=(2:Int)) (by exact rfl) (by decide) q23 ?_
 intro ad24 hA25
 refine ls_idxv (Ec.int 72 .u64) (A:=(some ⟨g5,0,none⟩)) (c:=[Int.tmod y3 (4294967296:Int),(0:Int),(0:Int),(0:Int)].length) (l:=y17) (k:=.i64) (i:=(2:Int)) (z:=1) (ad:=ad24) rfl rfl (by kernel_rfl) hA25 rfl (by kernel_rfl) (by kernel_rfl) (by kernel_rfl) (by kernel_rfl) (by decide) q23 ?_
 obtain ⟨y26,hy27,H⟩ := lt_some H
 refine ls_storem (Ec.int 72 .u64) (A:=(some ⟨g5,0,none⟩)) (c:=[Int.tmod y3 (4294967296:Int),(0:Int),(0:Int),(0:Int)].length) (l:=y17) (l' := y26) (ad:=ad24) (off:=(((2:Int)).toNat*1)) (v:=.int .u64 y21) (vs:=[Value.int .u64 y21]) 0 rfl rfl rfl hA25 (by kernel_rfl) (by kernel_rfl) (by kernel_rfl) (by exact rfl) (by kernel_rfl) (len1 _) (one_cons rfl one_nil) (hl_of (em_sub (Ec.int 72 .u64) y17 (i:=((2:Int)).toNat) (by have h0:(0:Int)≤(2:Int) := (by decide); have h1:(2:Int)<(y17.length:Int) := q23; omega)) (len_eq (len1 _) (len1 _))) ((splc_em (Ec.int 72 .u64) y17 y21 (i:=((2:Int)).toNat) (by have h0:(0:Int)≤(2:Int) := (by decide); have h1:(2:Int)<(y17.length:Int) := q23; omega)).trans (congrArg (em (Ec.int 72 .u64)) hy27)) (by rw [← hy27,List.length_set]) ?_
 refine ls_ren 9 (v:=.slice (some ⟨g5,0,none⟩) y17.length [Int.tmod y3 (4294967296:Int),(0:Int),(0:Int),(0:Int)].length) (v' := .slice (some ⟨g5,0,none⟩) y26.length [Int.tmod y3 (4294967296:Int),(0:Int),(0:Int),(0:Int)].length) (by kernel_rfl) (by rw [← hy27,List.length_set]) ?_
 refine ls_ren 26 (v:=.slice (some ⟨g5,0,none⟩) y17.length [Int.tmod y3 (4294967296:Int),(0:Int),(0:Int),(0:Int)].length) (v' := .slice (some ⟨g5,0,none⟩) y26.length [Int.tmod y3 (4294967296:Int),(0:Int),(0:Int),(0:Int)].length) (by kernel_rfl) (by rw [← hy27,List.length_set]) ?_
 refine ls_ren 36 (v:=.slice (some ⟨g5,0,none⟩) y17.length [Int.tmod y3 (4294967296:Int),(0:Int),(0:Int),(0:Int)].length) (v' := .slice (some ⟨g5,0,none⟩) y26.length [Int.tmod y3 (4294967296:Int),(0:Int),(0:Int),(0:Int)].length) (by kernel_rfl) (by rw [← hy27,List.length_set]) ?_
 refine ls_ren 40 (v:=.slice (some ⟨g5,0,none⟩) y17.length [Int.tmod y3 (4294967296:Int),(0:Int),(0:Int),(0:Int)].length) (v' := .slice (some ⟨g5,0,none⟩) y26.length [Int.tmod y3 (4294967296:Int),(0:Int),(0:Int),(0:Int)].length) (by kernel_rfl) (by rw [← hy27,List.length_set]) ?_
 refine ls_end ?_
 refine qn_then ?_
 refine cs_seq ?_
 refine cs_region (l:=[_,_,_]) ?_
 refine lv (.int .u64 a2) ?_
 refine ls_lit (Ec.int 72 .u64) 1 rfl rfl (by kernel_rfl) ([(0:Int),(0:Int),a2,(0:Int)]) (by exact of_decide_eq_true (by kernel_rfl)) (fun w=>by kernel_rfl) ?_
 intro g28
 refine lv (.slice (some ⟨g28,0,none⟩) [(0:Int),(0:Int),a2,(0:Int)].length [(0:Int),(0:Int),a2,(0:Int)].length) ?_
 refine ls_end ?_
 refine qn_then ?_
 refine cs_toro (T:=(Ec.int 72 .u64)) (A:=(some ⟨g5,0,none⟩)) (c:=([Int.tmod y3 (4294967296:Int),(0:Int),(0:Int),(0:Int)].length)) (l:=y26) 0 2 (by exact rfl) ?_
 refine cs_toro (T:=(Ec.int 72 .u64)) (A:=(some ⟨g28,0,none⟩)) (c:=([(0:Int),(0:Int),a2,(0:Int)].length)) (l:=([(0:Int),(0:Int),a2,(0:Int)])) 1 3 (by exact rfl) ?_
 refine cs_cut (fun f S=>∃ (fR:Fr) (A9_1:Option Addr) (c9_1:Nat) (l9_1:List Int) (A11_1:Option Addr) (c11_1:Nat) (l11_1:List Int),f=upd (upd fR 9 (.slice A9_1 l9_1.length c9_1)) 11 (.slice A11_1 l11_1.length c11_1)∧S=sput (sput s0 2 (some (Ck.ro (Ec.int 72 .u64) A9_1 c9_1 l9_1))) 3 (some (Ck.ro (Ec.int 72 .u64) A11_1 c11_1 l11_1))∧shadowboxref03_power.jo1 k l9_1 l11_1=some r) ?_ ?_
 ·skip
  refine cs_seq ?_
  refine cs_region (l:=[_]) ?_
  refine lv (.bool a1) ?_
  refine ls_end ?_
  refine qn_then ?_
  by_cases q46:a1=true
  ·replace H := ite_t q46 H
   refine cs_know (c:=true) (q46) 50 (by kernel_rfl) ?_
   refine cs_true (by kernel_rfl) ?_
   refine cs_seq ?_
   refine cs_region (l:=[_,_]) ?_
   refine ls_lit (Ec.int 72 .u64) 4 rfl rfl (by kernel_rfl) ([(0:Int),(0:Int),(0:Int),(0:Int)]) (by exact of_decide_eq_true (by kernel_rfl)) (fun w=>by kernel_rfl) ?_
   intro g47
   refine lv (.slice (some ⟨g47,0,none⟩) [(0:Int),(0:Int),(0:Int),(0:Int)].length [(0:Int),(0:Int),(0:Int),(0:Int)].length) ?_
   refine ls_end ?_
   refine qn_then ?_
   refine cs_seq ?_
   refine cs_region (l:=[_]) ?_
   refine lv (.int .u64 (0:Int)) ?_
   refine ls_end ?_
   refine qn_then ?_
   refine cs_seq ?_
   refine cs_seq ?_
   refine cs_region (l:=[_]) ?_
   refine lv (.int .i64 (0:Int)) ?_
   refine ls_end ?_
   refine qn_then ?_
   refine cs_block ?_
   refine cs_sub (sput (sput s0 2 (some (Ck.ro (Ec.int 72 .u64) (some ⟨g5,0,none⟩) ([Int.tmod y3 (4294967296:Int),(0:Int),(0:Int),(0:Int)].length) y26))) 4 (some (Ck.sl (Ec.int 72 .u64) (some ⟨g47,0,none⟩) ([(0:Int),(0:Int),(0:Int),(0:Int)].length) ([(0:Int),(0:Int),(0:Int),(0:Int)])))) (sub_put (by exact rfl) (sub_put (by exact rfl) (sub_nil _))) ?_
   refine cs_loop (fun kk f S=>∃ (fR:Fr) (A9_3:Option Addr) (c9_3:Nat) (l9_3:List Int) (A12_3:Option Addr) (c12_3:Nat) (l12_3:List Int) (x13_3:Int) (x14_3:Int),f=upd (upd (upd (upd (upd (upd (upd fR 2 (.int .u64 a2)) 7 (.int .u64 y1)) 8 (.int .u64 (Int.tmod a0 (4294967296:Int)))) 9 (.slice A9_3 l9_3.length c9_3)) 12 (.slice A12_3 l12_3.length c12_3)) 13 (.int .u64 x13_3)) 14 (.int .i64 x14_3)∧S=sput (sput s0 2 (some (Ck.ro (Ec.int 72 .u64) A9_3 c9_3 l9_3))) 4 (some (Ck.sl (Ec.int 72 .u64) A12_3 c12_3 l12_3))∧shadowboxref03_power.lo3 a0 a2 y1 (shadowboxref03_power.jo1 k) kk l9_3 l12_3 x13_3 x14_3=some r) k ?_ ?_ ?_
   ·exact ⟨_,(some ⟨g5,0,none⟩),[Int.tmod y3 (4294967296:Int),(0:Int),(0:Int),(0:Int)].length,y26,(some ⟨g47,0,none⟩),[(0:Int),(0:Int),(0:Int),(0:Int)].length,([(0:Int),(0:Int),(0:Int),(0:Int)]),(0:Int),(0:Int),fr_next (fr_next (fr_next (fr_next (fr_next (fr_next (fr_next (rfl) (by kernel_rfl)) (by kernel_rfl)) (by kernel_rfl)) (by kernel_rfl)) (by kernel_rfl)) (by kernel_rfl)) (by kernel_rfl),rfl,H⟩
   ·rintro f S ⟨fr3,A9_3,c9_3,l9_3,A12_3,c12_3,l12_3,x13_3,x14_3,rfl,rfl,H⟩; cases H
   rintro k3 f S ⟨fr3,A9_3,c9_3,l9_3,A12_3,c12_3,l12_3,x13_3,x14_3,rfl,rfl,H⟩
   replace H:((if x14_3<(4:Int) then (shadowboxref03_power.jo4 a0 y1 l9_3 l12_3 x13_3 x14_3 (shadowboxref03_power.lo3 a0 a2 y1 (shadowboxref03_power.jo1 k) k3)) else (shadowboxref03_power.jo1 k) l12_3 ([(0:Int),(0:Int),(0:Int),a2])))=some r := H
   refine cs_cut (fun f S=>∃ (fR:Fr),f=upd (upd (upd (upd (upd (upd (upd fR 2 (.int .u64 a2)) 7 (.int .u64 y1)) 8 (.int .u64 (Int.tmod a0 (4294967296:Int)))) 9 (.slice A9_3 l9_3.length c9_3)) 12 (.slice A12_3 l12_3.length c12_3)) 13 (.int .u64 x13_3)) 14 (.int .i64 x14_3)∧S=sput (sput s0 2 (some (Ck.ro (Ec.int 72 .u64) A9_3 c9_3 l9_3))) 4 (some (Ck.sl (Ec.int 72 .u64) A12_3 c12_3 l12_3))∧shadowboxref03_power.jo4 a0 y1 l9_3 l12_3 x13_3 x14_3 (shadowboxref03_power.lo3 a0 a2 y1 (shadowboxref03_power.jo1 k) k3)=some r) ?_ ?_
   ·skip
    refine cs_seq ?_
    refine cs_region (l:=[_,_]) ?_
    refine lv (.int .i64 x14_3) ?_
    refine lv (.bool (decide (x14_3<(4:Int)))) ?_
    refine ls_end ?_
    refine qn_then ?_
    by_cases q107:x14_3<(4:Int)
    ·replace H := ite_t q107 H
     refine cs_know (c:=true) (dec_t q107) 53 (by kernel_rfl) ?_
     refine cs_true (by kernel_rfl) ?_
     refine cs_skip' ?_
     refine qn_meet (sput (sput s0 2 (some (Ck.ro (Ec.int 72 .u64) A9_3 c9_3 l9_3))) 4 (some (Ck.sl (Ec.int 72 .u64) A12_3 c12_3 l12_3))) ⟨_,fr_next (fr_next (fr_next (fr_next (fr_next (fr_next (fr_next (rfl) (by kernel_rfl)) (by kernel_rfl)) (by kernel_rfl)) (by kernel_rfl)) (by kernel_rfl)) (by kernel_rfl)) (by kernel_rfl),rfl,H⟩ (sub_put (by exact rfl) (sub_put (by exact rfl) (sub_nil _)))
    replace H := ite_f q107 H
    refine cs_know (c:=false) (dec_f q107) 53 (by kernel_rfl) ?_
    refine cs_false (by kernel_rfl) ?_
    refine cs_exit' ?_
    refine qx_then ?_
    refine qx_then ?_
    refine qx_same ?_
    refine qn_then ?_
    refine cs_seq ?_
    refine cs_region (l:=[_,_]) ?_
    refine lv (.slice A12_3 l12_3.length c12_3) ?_
    refine lv (.slice A12_3 l12_3.length c12_3) ?_
    refine ls_end ?_
    refine qn_then ?_
    refine cs_region (l:=[_,_,_]) ?_
    refine lv (.int .u64 a2) ?_
    refine ls_lit (Ec.int 72 .u64) 5 rfl rfl (by kernel_rfl) ([(0:Int),(0:Int),(0:Int),a2]) (by exact of_decide_eq_true (by kernel_rfl)) (fun w=>by kernel_rfl) ?_
    intro g108
    refine lv (.slice (some ⟨g108,0,none⟩) [(0:Int),(0:Int),(0:Int),a2].length [(0:Int),(0:Int),(0:Int),a2].length) ?_
    refine ls_end ?_
    refine qn_toro (T:=(Ec.int 72 .u64)) (A:=A12_3) (c:=c12_3) (l:=l12_3) 4 2 (by exact rfl) ?_
    refine qn_toro (T:=(Ec.int 72 .u64)) (A:=(some ⟨g108,0,none⟩)) (c:=([(0:Int),(0:Int),(0:Int),a2].length)) (l:=([(0:Int),(0:Int),(0:Int),a2])) 5 3 (by exact rfl) ?_
    refine qn_meet (sput (sput s0 2 (some (Ck.ro (Ec.int 72 .u64) A12_3 c12_3 l12_3))) 3 (some (Ck.ro (Ec.int 72 .u64) (some ⟨g108,0,none⟩) ([(0:Int),(0:Int),(0:Int),a2].length) ([(0:Int),(0:Int),(0:Int),a2])))) ⟨_,A12_3,c12_3,l12_3,(some ⟨g108,0,none⟩),[(0:Int),(0:Int),(0:Int),a2].length,([(0:Int),(0:Int),(0:Int),a2]),fr_next (fr_next (rfl) (by kernel_rfl)) (by kernel_rfl),rfl,H⟩ (sub_put (by exact rfl) (sub_put (by exact rfl) (sub_nil _)))
   rintro f S ⟨fr4,rfl,rfl,H⟩
   replace H:((if x14_3<(3:Int) then (if 0≤x14_3 then (if x14_3<(l9_3.length:Int) then lt (IntKind.wrap .u64 (((l9_3).getD (x14_3).toNat (0:Int))*(Int.tmod a0 (4294967296:Int)))) fun y53=>lt (IntKind.wrap .u64 (x13_3+(Int.tmod y53 (4294967296:Int)))) fun y55=>lt (IntKind.wrap .u64 (Int.tdiv y53 (4294967296:Int))) fun y57=>(if x14_3 > (0:Int) then (if 0≤IntKind.wrap .i64 (x14_3 - (1:Int)) then (if IntKind.wrap .i64 (x14_3 - (1:Int))<(l9_3.length:Int) then lt (((l9_3).getD (IntKind.wrap .i64 (x14_3 - (1:Int))).toNat (0:Int))) fun y64=>lt (IntKind.wrap .u64 (y55+(IntKind.wrap .u64 (y64*y1)))) fun y66=>(if x14_3<(l12_3.length:Int) then lt ((l12_3).set (x14_3).toNat (Int.tmod y66 (4294967296:Int))) fun y71=>lt (IntKind.wrap .u64 (Int.tdiv y66 (4294967296:Int))) fun y73=>(shadowboxref03_power.lo3 a0 a2 y1 (shadowboxref03_power.jo1 k) k3) l9_3 y71 (IntKind.wrap .u64 (y57+y73)) (IntKind.wrap .i64 (x14_3+(1:Int))) else none) else none) else none) else (if x14_3<(l12_3.length:Int) then lt ((l12_3).set (x14_3).toNat (Int.tmod y55 (4294967296:Int))) fun y78=>lt (IntKind.wrap .u64 (Int.tdiv y55 (4294967296:Int))) fun y80=>(shadowboxref03_power.lo3 a0 a2 y1 (shadowboxref03_power.jo1 k) k3) l9_3 y78 (IntKind.wrap .u64 (y57+y80)) (IntKind.wrap .i64 (x14_3+(1:Int))) else none)) else none) else none) else (if x14_3 > (0:Int) then (if 0≤IntKind.wrap .i64 (x14_3 - (1:Int)) then (if IntKind.wrap .i64 (x14_3 - (1:Int))<(l9_3.length:Int) then lt (((l9_3).getD (IntKind.wrap .i64 (x14_3 - (1:Int))).toNat (0:Int))) fun y87=>lt (IntKind.wrap .u64 (x13_3+(IntKind.wrap .u64 (y87*y1)))) fun y89=>(if 0≤x14_3 then (if x14_3<(l12_3.length:Int) then lt ((l12_3).set (x14_3).toNat (Int.tmod y89 (4294967296:Int))) fun y95=>lt (IntKind.wrap .u64 (Int.tdiv y89 (4294967296:Int))) fun y97=>(shadowboxref03_power.lo3 a0 a2 y1 (shadowboxref03_power.jo1 k) k3) l9_3 y95 (IntKind.wrap .u64 ((0:Int)+y97)) (IntKind.wrap .i64 (x14_3+(1:Int))) else none) else none) else none) else none) else (if 0≤x14_3 then (if x14_3<(l12_3.length:Int) then lt ((l12_3).set (x14_3).toNat (Int.tmod x13_3 (4294967296:Int))) fun y103=>lt (IntKind.wrap .u64 (Int.tdiv x13_3 (4294967296:Int))) fun y105=>(shadowboxref03_power.lo3 a0 a2 y1 (shadowboxref03_power.jo1 k) k3) l9_3 y103 (IntKind.wrap .u64 ((0:Int)+y105)) (IntKind.wrap .i64 (x14_3+(1:Int))) else none) else none))))=some r := H
   refine cs_seq ?_
   refine cs_block ?_
   refine cs_seq ?_
   refine cs_region (l:=[_,_]) ?_
   refine lv (.int .u64 x13_3) ?_
   refine lv (.int .u64 x13_3) ?_
   refine ls_end ?_
   refine qn_then ?_
   refine cs_seq ?_
   refine cs_region (l:=[_]) ?_
   refine lv (.int .u64 (0:Int)) ?_
   refine ls_end ?_
   refine qn_then ?_
   refine cs_seq ?_
   refine cs_seq ?_
   refine cs_region (l:=[_,_]) ?_
   refine lv (.int .i64 x14_3) ?_
   refine lv (.bool (decide (x14_3<(3:Int)))) ?_
   refine ls_end ?_
   refine qn_then ?_
   by_cases q48:x14_3<(3:Int)
   ·replace H := ite_t q48 H
    refine cs_know (c:=true) (dec_t q48) 58 (by kernel_rfl) ?_
    refine cs_true (by kernel_rfl) ?_
    refine cs_seq ?_
    refine cs_region (l:=[_,_,_,_,_,_,_]) ?_
    refine lv (.slice A9_3 l9_3.length c9_3) ?_
    refine lv (.int .i64 x14_3) ?_
    obtain ⟨q49,H⟩ := ite_need H
    obtain ⟨q50,H⟩ := ite_need H
    refine ls_atro (T:=(Ec.int 72 .u64)) (tk:=2) (i:=x14_3) (by exact rfl) q49 q50 ?_
    intro ad51 hA52
    refine ls_idxv (Ec.int 72 .u64) (A:=A9_3) (c:=c9_3) (l:=l9_3) (k:=.i64) (i:=x14_3) (z:=1) (ad:=ad51) rfl rfl (by kernel_rfl) hA52 rfl (by kernel_rfl) (by kernel_rfl) (by kernel_rfl) (by kernel_rfl) q49 q50 ?_
    refine ls_load (a0:=(ad51.add ((x14_3).toNat*1))) (v:=.int .u64 ((l9_3).getD (x14_3).toNat (0:Int))) (de:=(TypeDesc.int .u64)) rfl rfl (by kernel_rfl) rfl (by kernel_rfl) (by kernel_rfl) (by kernel_rfl) (fun w hs=>(hs.rod (k:=2) (by exact rfl)).at hA52 (em_sub (Ec.int 72 .u64) l9_3 (i:=(x14_3).toNat) (by have h0:(0:Int)≤x14_3 := q49; have h1:x14_3<(l9_3.length:Int) := q50; omega))) ?_
    refine lv (.int .u64 (Int.tmod a0 (4294967296:Int))) ?_
    obtain ⟨y53,hy54,H⟩ := lt_some H
    refine lv (.int .u64 (IntKind.wrap .u64 (((l9_3).getD (x14_3).toNat (0:Int))*(Int.tmod a0 (4294967296:Int))))) ?_
    refine ls_ren 64 (v:=.int .u64 (IntKind.wrap .u64 (((l9_3).getD (x14_3).toNat (0:Int))*(Int.tmod a0 (4294967296:Int))))) (v' := .int .u64 y53) (by kernel_rfl) (by rw [hy54]) ?_
    refine lv (.int .u64 y53) ?_
    refine ls_end ?_
    refine qn_then ?_
    refine cs_seq ?_
    refine cs_region (l:=[_,_,_,_,_]) ?_
    refine lv (.int .u64 x13_3) ?_
    refine lv (.int .u64 y53) ?_
    refine lv (.int .u64 (Int.tmod y53 (4294967296:Int))) ?_
    obtain ⟨y55,hy56,H⟩ := lt_some H
    refine lv (.int .u64 (IntKind.wrap .u64 (x13_3+(Int.tmod y53 (4294967296:Int))))) ?_
    refine ls_ren 68 (v:=.int .u64 (IntKind.wrap .u64 (x13_3+(Int.tmod y53 (4294967296:Int))))) (v' := .int .u64 y55) (by kernel_rfl) (by rw [hy56]) ?_
    refine lv (.int .u64 y55) ?_
    refine ls_end ?_
    refine qn_then ?_
    refine cs_region (l:=[_,_,_]) ?_
    refine lv (.int .u64 y53) ?_
    obtain ⟨y57,hy58,H⟩ := lt_some H
    refine lv (.int .u64 (IntKind.wrap .u64 (Int.tdiv y53 (4294967296:Int)))) ?_
    refine ls_ren 70 (v:=.int .u64 (IntKind.wrap .u64 (Int.tdiv y53 (4294967296:Int)))) (v' := .int .u64 y57) (by kernel_rfl) (by rw [hy58]) ?_
    refine lv (.int .u64 y57) ?_
    refine ls_end ?_
    refine qn_then ?_
    refine cs_seq ?_
    refine cs_seq ?_
    refine cs_region (l:=[_,_]) ?_
    refine lv (.int .i64 x14_3) ?_
    refine lv (.bool (decide (x14_3 > (0:Int)))) ?_
    refine ls_end ?_
    refine qn_then ?_
    by_cases q59:x14_3 > (0:Int)
    ·replace H := ite_t q59 H
     refine cs_know (c:=true) (dec_t q59) 72 (by kernel_rfl) ?_
     refine cs_true (by kernel_rfl) ?_
     refine cs_region (l:=[_,_,_,_,_,_,_,_,_,_]) ?_
     refine lv (.int .u64 y55) ?_
     refine lv (.slice A9_3 l9_3.length c9_3) ?_
     refine lv (.int .i64 x14_3) ?_
     refine lv (.int .i64 (IntKind.wrap .i64 (x14_3 - (1:Int)))) ?_
     obtain ⟨q60,H⟩ := ite_need H
     obtain ⟨q61,H⟩ := ite_need H
     refine ls_atro (T:=(Ec.int 72 .u64)) (tk:=2) (i:=IntKind.wrap .i64 (x14_3 - (1:Int))) (by exact rfl) q60 q61 ?_
     intro ad62 hA63
     refine ls_idxv (Ec.int 72 .u64) (A:=A9_3) (c:=c9_3) (l:=l9_3) (k:=.i64) (i:=IntKind.wrap .i64 (x14_3 - (1:Int))) (z:=1) (ad:=ad62) rfl rfl (by kernel_rfl) hA63 rfl (by kernel_rfl) (by kernel_rfl) (by kernel_rfl) (by kernel_rfl) q60 q61 ?_
     obtain ⟨y64,hy65,H⟩ := lt_some H
     refine ls_load (a0:=(ad62.add ((IntKind.wrap .i64 (x14_3 - (1:Int))).toNat*1))) (v:=.int .u64 ((l9_3).getD (IntKind.wrap .i64 (x14_3 - (1:Int))).toNat (0:Int))) (de:=(TypeDesc.int .u64)) rfl rfl (by kernel_rfl) rfl (by kernel_rfl) (by kernel_rfl) (by kernel_rfl) (fun w hs=>(hs.rod (k:=2) (by exact rfl)).at hA63 (em_sub (Ec.int 72 .u64) l9_3 (i:=(IntKind.wrap .i64 (x14_3 - (1:Int))).toNat) (by have h0:(0:Int)≤IntKind.wrap .i64 (x14_3 - (1:Int)) := q60; have h1:IntKind.wrap .i64 (x14_3 - (1:Int))<(l9_3.length:Int) := q61; omega))) ?_
     refine ls_ren 78 (v:=.int .u64 ((l9_3).getD (IntKind.wrap .i64 (x14_3 - (1:Int))).toNat (0:Int))) (v' := .int .u64 y64) (by kernel_rfl) (by rw [hy65]) ?_
     refine lv (.int .u64 y1) ?_
     refine lv (.int .u64 (IntKind.wrap .u64 (y64*y1))) ?_
     obtain ⟨y66,hy67,H⟩ := lt_some H
     refine lv (.int .u64 (IntKind.wrap .u64 (y55+(IntKind.wrap .u64 (y64*y1))))) ?_
     refine ls_ren 81 (v:=.int .u64 (IntKind.wrap .u64 (y55+(IntKind.wrap .u64 (y64*y1))))) (v' := .int .u64 y66) (by kernel_rfl) (by rw [hy67]) ?_
     refine lv (.int .u64 y66) ?_
     refine ls_end ?_
     refine qn_then ?_
     refine cs_seq ?_
     refine cs_region (l:=[_,_,_,_,_,_]) ?_
     refine lv (.slice A12_3 l12_3.length c12_3) ?_
     refine lv (.int .i64 x14_3) ?_
     refine lv (.int .u64 y66) ?_
     refine lv (.int .u64 (Int.tmod y66 (4294967296:Int))) ?_
     obtain ⟨q68,H⟩ := ite_need H
     refine ls_at (T:=(Ec.int 72 .u64)) (tk:=4) (i:=x14_3) (by exact rfl) q49 q68 ?_
     intro ad69 hA70
     refine ls_idxv (Ec.int 72 .u64) (A:=A12_3) (c:=c12_3) (l:=l12_3) (k:=.i64) (i:=x14_3) (z:=1) (ad:=ad69) rfl rfl (by kernel_rfl) hA70 rfl (by kernel_rfl) (by kernel_rfl) (by kernel_rfl) (by kernel_rfl) q49 q68 ?_
     obtain ⟨y71,hy72,H⟩ := lt_some H
     refine ls_storem (Ec.int 72 .u64) (A:=A12_3) (c:=c12_3) (l:=l12_3) (l' := y71) (ad:=ad69) (off:=((x14_3).toNat*1)) (v:=.int .u64 (Int.tmod y66 (4294967296:Int))) (vs:=[Value.int .u64 (Int.tmod y66 (4294967296:Int))]) 4 rfl rfl rfl hA70 (by kernel_rfl) (by kernel_rfl) (by kernel_rfl) (by exact rfl) (by kernel_rfl) (len1 _) (one_cons rfl one_nil) (hl_of (em_sub (Ec.int 72 .u64) l12_3 (i:=(x14_3).toNat) (by have h0:(0:Int)≤x14_3 := q49; have h1:x14_3<(l12_3.length:Int) := q68; omega)) (len_eq (len1 _) (len1 _))) ((splc_em (Ec.int 72 .u64) l12_3 (Int.tmod y66 (4294967296:Int)) (i:=(x14_3).toNat) (by have h0:(0:Int)≤x14_3 := q49; have h1:x14_3<(l12_3.length:Int) := q68; omega)).trans (congrArg (em (Ec.int 72 .u64)) hy72)) (by rw [← hy72,List.length_set]) ?_
     refine ls_ren 12 (v:=.slice A12_3 l12_3.length c12_3) (v' := .slice A12_3 y71.length c12_3) (by kernel_rfl) (by rw [← hy72,List.length_set]) ?_
     refine ls_ren 82 (v:=.slice A12_3 l12_3.length c12_3) (v' := .slice A12_3 y71.length c12_3) (by kernel_rfl) (by rw [← hy72,List.length_set]) ?_
     refine ls_end ?_
     refine qn_then ?_
     refine cs_region (l:=[_,_,_,_,_]) ?_
     refine lv (.int .u64 y57) ?_
     refine lv (.int .u64 y66) ?_
     obtain ⟨y73,hy74,H⟩ := lt_some H
     refine lv (.int .u64 (IntKind.wrap .u64 (Int.tdiv y66 (4294967296:Int)))) ?_
     refine ls_ren 89 (v:=.int .u64 (IntKind.wrap .u64 (Int.tdiv y66 (4294967296:Int)))) (v' := .int .u64 y73) (by kernel_rfl) (by rw [hy74]) ?_
     refine lv (.int .u64 (IntKind.wrap .u64 (y57+y73))) ?_
     refine lv (.int .u64 (IntKind.wrap .u64 (y57+y73))) ?_
     refine ls_end ?_
     refine qn_block ?_
     refine qn_then ?_
     refine cs_region (l:=[_,_,_]) ?_
     refine lv (.int .i64 x14_3) ?_
     refine lv (.int .i64 (IntKind.wrap .i64 (x14_3+(1:Int)))) ?_
     refine lv (.int .i64 (IntKind.wrap .i64 (x14_3+(1:Int)))) ?_
     refine ls_end ?_
     refine qn_again k3 (sput (sput s0 2 (some (Ck.ro (Ec.int 72 .u64) A9_3 c9_3 l9_3))) 4 (some (Ck.sl (Ec.int 72 .u64) A12_3 c12_3 y71))) (Nat.le_refl _) ⟨_,A9_3,c9_3,l9_3,A12_3,c12_3,y71,(IntKind.wrap .u64 (y57+y73)),(IntKind.wrap .i64 (x14_3+(1:Int))),fr_next (fr_next (fr_next (fr_next (fr_next (fr_next (fr_next (rfl) (by kernel_rfl)) (by kernel_rfl)) (by kernel_rfl)) (by kernel_rfl)) (by kernel_rfl)) (by kernel_rfl)) (by kernel_rfl),rfl,H⟩ (sub_put (by exact rfl) (sub_put (by exact rfl) (sub_nil _)))
    replace H := ite_f q59 H
    refine cs_know (c:=false) (dec_f q59) 72 (by kernel_rfl) ?_
    refine cs_false (by kernel_rfl) ?_
    refine cs_skip' ?_
    refine qn_then ?_
    refine cs_seq ?_
    refine cs_region (l:=[_,_,_,_,_,_]) ?_
    refine lv (.slice A12_3 l12_3.length c12_3) ?_
    refine lv (.int .i64 x14_3) ?_
    refine lv (.int .u64 y55) ?_
    refine lv (.int .u64 (Int.tmod y55 (4294967296:Int))) ?_
    obtain ⟨q75,H⟩ := ite_need H
    refine ls_at (T:=(Ec.int 72 .u64)) (tk:=4) (i:=x14_3) (by exact rfl) q49 q75 ?_
    intro ad76 hA77
    refine ls_idxv (Ec.int 72 .u64) (A:=A12_3) (c:=c12_3) (l:=l12_3) (k:=.i64) (i:=x14_3) (z:=1) (ad:=ad76) rfl rfl (by kernel_rfl) hA77 rfl (by kernel_rfl) (by kernel_rfl) (by kernel_rfl) (by kernel_rfl) q49 q75 ?_
    obtain ⟨y78,hy79,H⟩ := lt_some H
    refine ls_storem (Ec.int 72 .u64) (A:=A12_3) (c:=c12_3) (l:=l12_3) (l' := y78) (ad:=ad76) (off:=((x14_3).toNat*1)) (v:=.int .u64 (Int.tmod y55 (4294967296:Int))) (vs:=[Value.int .u64 (Int.tmod y55 (4294967296:Int))]) 4 rfl rfl rfl hA77 (by kernel_rfl) (by kernel_rfl) (by kernel_rfl) (by exact rfl) (by kernel_rfl) (len1 _) (one_cons rfl one_nil) (hl_of (em_sub (Ec.int 72 .u64) l12_3 (i:=(x14_3).toNat) (by have h0:(0:Int)≤x14_3 := q49; have h1:x14_3<(l12_3.length:Int) := q75; omega)) (len_eq (len1 _) (len1 _))) ((splc_em (Ec.int 72 .u64) l12_3 (Int.tmod y55 (4294967296:Int)) (i:=(x14_3).toNat) (by have h0:(0:Int)≤x14_3 := q49; have h1:x14_3<(l12_3.length:Int) := q75; omega)).trans (congrArg (em (Ec.int 72 .u64)) hy79)) (by rw [← hy79,List.length_set]) ?_
    refine ls_ren 12 (v:=.slice A12_3 l12_3.length c12_3) (v' := .slice A12_3 y78.length c12_3) (by kernel_rfl) (by rw [← hy79,List.length_set]) ?_
    refine ls_ren 82 (v:=.slice A12_3 l12_3.length c12_3) (v' := .slice A12_3 y78.length c12_3) (by kernel_rfl) (by rw [← hy79,List.length_set]) ?_
    refine ls_end ?_
    refine qn_then ?_
    refine cs_region (l:=[_,_,_,_,_]) ?_
    refine lv (.int .u64 y57) ?_
    refine lv (.int .u64 y55) ?_
    obtain ⟨y80,hy81,H⟩ := lt_some H
    refine lv (.int .u64 (IntKind.wrap .u64 (Int.tdiv y55 (4294967296:Int)))) ?_
    refine ls_ren 89 (v:=.int .u64 (IntKind.wrap .u64 (Int.tdiv y55 (4294967296:Int)))) (v' := .int .u64 y80) (by kernel_rfl) (by rw [hy81]) ?_
    refine lv (.int .u64 (IntKind.wrap .u64 (y57+y80))) ?_
    refine lv (.int .u64 (IntKind.wrap .u64 (y57+y80))) ?_
    refine ls_end ?_
    refine qn_block ?_
    refine qn_then ?_
    refine cs_region (l:=[_,_,_]) ?_
    refine lv (.int .i64 x14_3) ?_
    refine lv (.int .i64 (IntKind.wrap .i64 (x14_3+(1:Int)))) ?_
    refine lv (.int .i64 (IntKind.wrap .i64 (x14_3+(1:Int)))) ?_
    refine ls_end ?_
    refine qn_again k3 (sput (sput s0 2 (some (Ck.ro (Ec.int 72 .u64) A9_3 c9_3 l9_3))) 4 (some (Ck.sl (Ec.int 72 .u64) A12_3 c12_3 y78))) (Nat.le_refl _) ⟨_,A9_3,c9_3,l9_3,A12_3,c12_3,y78,(IntKind.wrap .u64 (y57+y80)),(IntKind.wrap .i64 (x14_3+(1:Int))),fr_next (fr_next (fr_next (fr_next (fr_next (fr_next (fr_next (rfl) (by kernel_rfl)) (by kernel_rfl)) (by kernel_rfl)) (by kernel_rfl)) (by kernel_rfl)) (by kernel_rfl)) (by kernel_rfl),rfl,H⟩ (sub_put (by exact rfl) (sub_put (by exact rfl) (sub_nil _)))
   replace H := ite_f q48 H
   refine cs_know (c:=false) (dec_f q48) 58 (by kernel_rfl) ?_
   refine cs_false (by kernel_rfl) ?_
   refine cs_skip' ?_
   refine qn_then ?_
   refine cs_seq ?_
   refine cs_seq ?_
   refine cs_region (l:=[_,_]) ?_
   refine lv (.int .i64 x14_3) ?_
   refine lv (.bool (decide (x14_3 > (0:Int)))) ?_
   refine ls_end ?_
   refine qn_then ?_
   by_cases q82:x14_3 > (0:Int)
   ·replace H := ite_t q82 H
    refine cs_know (c:=true) (dec_t q82) 72 (by kernel_rfl) ?_
    refine cs_true (by kernel_rfl) ?_
    refine cs_region (l:=[_,_,_,_,_,_,_,_,_,_]) ?_
    refine lv (.int .u64 x13_3) ?_
    refine lv (.slice A9_3 l9_3.length c9_3) ?_
    refine lv (.int .i64 x14_3) ?_
    refine lv (.int .i64 (IntKind.wrap .i64 (x14_3 - (1:Int)))) ?_
    obtain ⟨q83,H⟩ := ite_need H
    obtain ⟨q84,H⟩ := ite_need H
    refine ls_atro (T:=(Ec.int 72 .u64)) (tk:=2) (i:=IntKind.wrap .i64 (x14_3 - (1:Int))) (by exact rfl) q83 q84 ?_
    intro ad85 hA86
    refine ls_idxv (Ec.int 72 .u64) (A:=A9_3) (c:=c9_3) (l:=l9_3) (k:=.i64) (i:=IntKind.wrap .i64 (x14_3 - (1:Int))) (z:=1) (ad:=ad85) rfl rfl (by kernel_rfl) hA86 rfl (by kernel_rfl) (by kernel_rfl) (by kernel_rfl) (by kernel_rfl) q83 q84 ?_
    obtain ⟨y87,hy88,H⟩ := lt_some H
    refine ls_load (a0:=(ad85.add ((IntKind.wrap .i64 (x14_3 - (1:Int))).toNat*1))) (v:=.int .u64 ((l9_3).getD (IntKind.wrap .i64 (x14_3 - (1:Int))).toNat (0:Int))) (de:=(TypeDesc.int .u64)) rfl rfl (by kernel_rfl) rfl (by kernel_rfl) (by kernel_rfl) (by kernel_rfl) (fun w hs=>(hs.rod (k:=2) (by exact rfl)).at hA86 (em_sub (Ec.int 72 .u64) l9_3 (i:=(IntKind.wrap .i64 (x14_3 - (1:Int))).toNat) (by have h0:(0:Int)≤IntKind.wrap .i64 (x14_3 - (1:Int)) := q83; have h1:IntKind.wrap .i64 (x14_3 - (1:Int))<(l9_3.length:Int) := q84; omega))) ?_
    refine ls_ren 78 (v:=.int .u64 ((l9_3).getD (IntKind.wrap .i64 (x14_3 - (1:Int))).toNat (0:Int))) (v' := .int .u64 y87) (by kernel_rfl) (by rw [hy88]) ?_
    refine lv (.int .u64 y1) ?_
    refine lv (.int .u64 (IntKind.wrap .u64 (y87*y1))) ?_
    obtain ⟨y89,hy90,H⟩ := lt_some H
    refine lv (.int .u64 (IntKind.wrap .u64 (x13_3+(IntKind.wrap .u64 (y87*y1))))) ?_
    refine ls_ren 81 (v:=.int .u64 (IntKind.wrap .u64 (x13_3+(IntKind.wrap .u64 (y87*y1))))) (v' := .int .u64 y89) (by kernel_rfl) (by rw [hy90]) ?_
    refine lv (.int .u64 y89) ?_
    refine ls_end ?_
    refine qn_then ?_
    refine cs_seq ?_
    refine cs_region (l:=[_,_,_,_,_,_]) ?_
    refine lv (.slice A12_3 l12_3.length c12_3) ?_
    refine lv (.int .i64 x14_3) ?_
    refine lv (.int .u64 y89) ?_
    refine lv (.int .u64 (Int.tmod y89 (4294967296:Int))) ?_
    obtain ⟨q91,H⟩ := ite_need H
    obtain ⟨q92,H⟩ := ite_need H
    refine ls_at (T:=(Ec.int 72 .u64)) (tk:=4) (i:=x14_3) (by exact rfl) q91 q92 ?_
    intro ad93 hA94
    refine ls_idxv (Ec.int 72 .u64) (A:=A12_3) (c:=c12_3) (l:=l12_3) (k:=.i64) (i:=x14_3) (z:=1) (ad:=ad93) rfl rfl (by kernel_rfl) hA94 rfl (by kernel_rfl) (by kernel_rfl) (by kernel_rfl) (by kernel_rfl) q91 q92 ?_
    obtain ⟨y95,hy96,H⟩ := lt_some H
    refine ls_storem (Ec.int 72 .u64) (A:=A12_3) (c:=c12_3) (l:=l12_3) (l' := y95) (ad:=ad93) (off:=((x14_3).toNat*1)) (v:=.int .u64 (Int.tmod y89 (4294967296:Int))) (vs:=[Value.int .u64 (Int.tmod y89 (4294967296:Int))]) 4 rfl rfl rfl hA94 (by kernel_rfl) (by kernel_rfl) (by kernel_rfl) (by exact rfl) (by kernel_rfl) (len1 _) (one_cons rfl one_nil) (hl_of (em_sub (Ec.int 72 .u64) l12_3 (i:=(x14_3).toNat) (by have h0:(0:Int)≤x14_3 := q91; have h1:x14_3<(l12_3.length:Int) := q92; omega)) (len_eq (len1 _) (len1 _))) ((splc_em (Ec.int 72 .u64) l12_3 (Int.tmod y89 (4294967296:Int)) (i:=(x14_3).toNat) (by have h0:(0:Int)≤x14_3 := q91; have h1:x14_3<(l12_3.length:Int) := q92; omega)).trans (congrArg (em (Ec.int 72 .u64)) hy96)) (by rw [← hy96,List.length_set]) ?_
    refine ls_ren 12 (v:=.slice A12_3 l12_3.length c12_3) (v' := .slice A12_3 y95.length c12_3) (by kernel_rfl) (by rw [← hy96,List.length_set]) ?_
    refine ls_ren 82 (v:=.slice A12_3 l12_3.length c12_3) (v' := .slice A12_3 y95.length c12_3) (by kernel_rfl) (by rw [← hy96,List.length_set]) ?_
    refine ls_end ?_
    refine qn_then ?_
    refine cs_region (l:=[_,_,_,_,_]) ?_
    refine lv (.int .u64 (0:Int)) ?_
    refine lv (.int .u64 y89) ?_
    obtain ⟨y97,hy98,H⟩ := lt_some H
    refine lv (.int .u64 (IntKind.wrap .u64 (Int.tdiv y89 (4294967296:Int)))) ?_
    refine ls_ren 89 (v:=.int .u64 (IntKind.wrap .u64 (Int.tdiv y89 (4294967296:Int)))) (v' := .int .u64 y97) (by kernel_rfl) (by rw [hy98]) ?_
    refine lv (.int .u64 (IntKind.wrap .u64 ((0:Int)+y97))) ?_
    refine lv (.int .u64 (IntKind.wrap .u64 ((0:Int)+y97))) ?_
    refine ls_end ?_
    refine qn_block ?_
    refine qn_then ?_
    refine cs_region (l:=[_,_,_]) ?_
    refine lv (.int .i64 x14_3) ?_
    refine lv (.int .i64 (IntKind.wrap .i64 (x14_3+(1:Int)))) ?_
    refine lv (.int .i64 (IntKind.wrap .i64 (x14_3+(1:Int)))) ?_
    refine ls_end ?_
    refine qn_again k3 (sput (sput s0 2 (some (Ck.ro (Ec.int 72 .u64) A9_3 c9_3 l9_3))) 4 (some (Ck.sl (Ec.int 72 .u64) A12_3 c12_3 y95))) (Nat.le_refl _) ⟨_,A9_3,c9_3,l9_3,A12_3,c12_3,y95,(IntKind.wrap .u64 ((0:Int)+y97)),(IntKind.wrap .i64 (x14_3+(1:Int))),fr_next (fr_next (fr_next (fr_next (fr_next (fr_next (fr_next (rfl) (by kernel_rfl)) (by kernel_rfl)) (by kernel_rfl)) (by kernel_rfl)) (by kernel_rfl)) (by kernel_rfl)) (by kernel_rfl),rfl,H⟩ (sub_put (by exact rfl) (sub_put (by exact rfl) (sub_nil _)))
   replace H := ite_f q82 H
   refine cs_know (c:=false) (dec_f q82) 72 (by kernel_rfl) ?_
   refine cs_false (by kernel_rfl) ?_
   refine cs_skip' ?_
   refine qn_then ?_
   refine cs_seq ?_
   refine cs_region (l:=[_,_,_,_,_,_]) ?_
   refine lv (.slice A12_3 l12_3.length c12_3) ?_
   refine lv (.int .i64 x14_3) ?_
   refine lv (.int .u64 x13_3) ?_
   refine lv (.int .u64 (Int.tmod x13_3 (4294967296:Int))) ?_
   obtain ⟨q99,H⟩ := ite_need H
   obtain ⟨q100,H⟩ := ite_need H
   refine ls_at (T:=(Ec.int 72 .u64)) (tk:=4) (i:=x14_3) (by exact rfl) q99 q100 ?_
   intro ad101 hA102
   refine ls_idxv (Ec.int 72 .u64) (A:=A12_3) (c:=c12_3) (l:=l12_3) (k:=.i64) (i:=x14_3) (z:=1) (ad:=ad101) rfl rfl (by kernel_rfl) hA102 rfl (by kernel_rfl) (by kernel_rfl) (by kernel_rfl) (by kernel_rfl) q99 q100 ?_
   obtain ⟨y103,hy104,H⟩ := lt_some H
   refine ls_storem (Ec.int 72 .u64) (A:=A12_3) (c:=c12_3) (l:=l12_3) (l' := y103) (ad:=ad101) (off:=((x14_3).toNat*1)) (v:=.int .u64 (Int.tmod x13_3 (4294967296:Int))) (vs:=[Value.int .u64 (Int.tmod x13_3 (4294967296:Int))]) 4 rfl rfl rfl hA102 (by kernel_rfl) (by kernel_rfl) (by kernel_rfl) (by exact rfl) (by kernel_rfl) (len1 _) (one_cons rfl one_nil) (hl_of (em_sub (Ec.int 72 .u64) l12_3 (i:=(x14_3).toNat) (by have h0:(0:Int)≤x14_3 := q99; have h1:x14_3<(l12_3.length:Int) := q100; omega)) (len_eq (len1 _) (len1 _))) ((splc_em (Ec.int 72 .u64) l12_3 (Int.tmod x13_3 (4294967296:Int)) (i:=(x14_3).toNat) (by have h0:(0:Int)≤x14_3 := q99; have h1:x14_3<(l12_3.length:Int) := q100; omega)).trans (congrArg (em (Ec.int 72 .u64)) hy104)) (by rw [← hy104,List.length_set]) ?_
   refine ls_ren 12 (v:=.slice A12_3 l12_3.length c12_3) (v' := .slice A12_3 y103.length c12_3) (by kernel_rfl) (by rw [← hy104,List.length_set]) ?_
   refine ls_ren 82 (v:=.slice A12_3 l12_3.length c12_3) (v' := .slice A12_3 y103.length c12_3) (by kernel_rfl) (by rw [← hy104,List.length_set]) ?_
   refine ls_end ?_
   refine qn_then ?_
   refine cs_region (l:=[_,_,_,_,_]) ?_
   refine lv (.int .u64 (0:Int)) ?_
   refine lv (.int .u64 x13_3) ?_
   obtain ⟨y105,hy106,H⟩ := lt_some H
   refine lv (.int .u64 (IntKind.wrap .u64 (Int.tdiv x13_3 (4294967296:Int)))) ?_
   refine ls_ren 89 (v:=.int .u64 (IntKind.wrap .u64 (Int.tdiv x13_3 (4294967296:Int)))) (v' := .int .u64 y105) (by kernel_rfl) (by rw [hy106]) ?_
   refine lv (.int .u64 (IntKind.wrap .u64 ((0:Int)+y105))) ?_
   refine lv (.int .u64 (IntKind.wrap .u64 ((0:Int)+y105))) ?_
   refine ls_end ?_
   refine qn_block ?_
   refine qn_then ?_
   refine cs_region (l:=[_,_,_]) ?_
   refine lv (.int .i64 x14_3) ?_
   refine lv (.int .i64 (IntKind.wrap .i64 (x14_3+(1:Int)))) ?_
   refine lv (.int .i64 (IntKind.wrap .i64 (x14_3+(1:Int)))) ?_
   refine ls_end ?_
   refine qn_again k3 (sput (sput s0 2 (some (Ck.ro (Ec.int 72 .u64) A9_3 c9_3 l9_3))) 4 (some (Ck.sl (Ec.int 72 .u64) A12_3 c12_3 y103))) (Nat.le_refl _) ⟨_,A9_3,c9_3,l9_3,A12_3,c12_3,y103,(IntKind.wrap .u64 ((0:Int)+y105)),(IntKind.wrap .i64 (x14_3+(1:Int))),fr_next (fr_next (fr_next (fr_next (fr_next (fr_next (fr_next (rfl) (by kernel_rfl)) (by kernel_rfl)) (by kernel_rfl)) (by kernel_rfl)) (by kernel_rfl)) (by kernel_rfl)) (by kernel_rfl),rfl,H⟩ (sub_put (by exact rfl) (sub_put (by exact rfl) (sub_nil _)))
  replace H := ite_f q46 H
  refine cs_know (c:=false) (Bool.eq_false_iff.mpr q46) 50 (by kernel_rfl) ?_
  refine cs_false (by kernel_rfl) ?_
  refine cs_skip' ?_
  refine qn_meet (sput (sput s0 2 (some (Ck.ro (Ec.int 72 .u64) (some ⟨g5,0,none⟩) ([Int.tmod y3 (4294967296:Int),(0:Int),(0:Int),(0:Int)].length) y26))) 3 (some (Ck.ro (Ec.int 72 .u64) (some ⟨g28,0,none⟩) ([(0:Int),(0:Int),a2,(0:Int)].length) ([(0:Int),(0:Int),a2,(0:Int)])))) ⟨_,(some ⟨g5,0,none⟩),[Int.tmod y3 (4294967296:Int),(0:Int),(0:Int),(0:Int)].length,y26,(some ⟨g28,0,none⟩),[(0:Int),(0:Int),a2,(0:Int)].length,([(0:Int),(0:Int),a2,(0:Int)]),fr_next (fr_next (rfl) (by kernel_rfl)) (by kernel_rfl),rfl,H⟩ (sub_put (by exact rfl) (sub_put (by exact rfl) (sub_nil _)))
 rintro f S ⟨fr1,A9_1,c9_1,l9_1,A11_1,c11_1,l11_1,rfl,rfl,H⟩
 replace H:(shadowboxref03_power.lo2 l9_1 l11_1 k (3:Int))=some r := H
 refine cs_seq ?_
 refine cs_seq ?_
 refine cs_region (l:=[_]) ?_
 refine lv (.int .i64 (3:Int)) ?_
 refine ls_end ?_
 refine qn_then ?_
 refine cs_block ?_
 refine cs_sub (sput (sput s0 2 (some (Ck.ro (Ec.int 72 .u64) A9_1 c9_1 l9_1))) 3 (some (Ck.ro (Ec.int 72 .u64) A11_1 c11_1 l11_1))) (sub_put (by exact rfl) (sub_put (by exact rfl) (sub_nil _))) ?_
 refine cs_loop (fun kk f S=>∃ (fR:Fr) (x17_2:Int),f=upd (upd (upd fR 9 (.slice A9_1 l9_1.length c9_1)) 11 (.slice A11_1 l11_1.length c11_1)) 17 (.int .i64 x17_2)∧S=sput (sput s0 2 (some (Ck.ro (Ec.int 72 .u64) A9_1 c9_1 l9_1))) 3 (some (Ck.ro (Ec.int 72 .u64) A11_1 c11_1 l11_1))∧shadowboxref03_power.lo2 l9_1 l11_1 kk x17_2=some r) k ?_ ?_ ?_
 ·exact ⟨_,(3:Int),fr_next (fr_next (fr_next (rfl) (by kernel_rfl)) (by kernel_rfl)) (by kernel_rfl),rfl,H⟩
 ·rintro f S ⟨fr2,x17_2,rfl,rfl,H⟩; cases H
 rintro k2 f S ⟨fr2,x17_2,rfl,rfl,H⟩
 replace H:((if x17_2≥(0:Int) then (if 0≤x17_2 then (if x17_2<(l9_1.length:Int) then (if x17_2<(l11_1.length:Int) then (if ((l9_1).getD (x17_2).toNat (0:Int))=((l11_1).getD (x17_2).toNat (0:Int)) then (shadowboxref03_power.lo2 l9_1 l11_1 k2) (IntKind.wrap .i64 (x17_2 - (1:Int))) else some (decide (((l9_1).getD (x17_2).toNat (0:Int))<((l11_1).getD (x17_2).toNat (0:Int))))) else none) else none) else none) else some true))=some r := H
 refine cs_seq ?_
 refine cs_seq ?_
 refine cs_region (l:=[_,_]) ?_
 refine lv (.int .i64 x17_2) ?_
 refine lv (.bool (decide (x17_2≥(0:Int)))) ?_
 refine ls_end ?_
 refine qn_then ?_
 by_cases q29:x17_2≥(0:Int)
 ·replace H := ite_t q29 H
  refine cs_know (c:=true) (dec_t q29) 95 (by kernel_rfl) ?_
  refine cs_true (by kernel_rfl) ?_
  refine cs_skip' ?_
  refine qn_then ?_
  refine cs_seq ?_
  refine cs_block ?_
  refine cs_seq ?_
  obtain ⟨s31_0,hs31_0⟩ := exv (.slice A9_1 l9_1.length c9_1)
  refine have_opa shadowboxref03_power.tab29 4 0 (fun sp=>sp 0=s31_0) (fun sp on hA hon=>?_) (fun ops31_0=>?_)
  ·refine ⟨fun o ho vs Rs f' S' w hp hf hx hS hR hs=>?_⟩
   obtain rfl := Option.some.inj ho
   exact opv (.slice A9_1 l9_1.length c9_1) hA hs31_0 hon (fr_next (rfl) ((hx 9 (by kernel_rfl)).trans (by kernel_rfl:(_:Value)=.slice A9_1 l9_1.length c9_1)))
  obtain ⟨s31_1,hs31_1⟩ := exv (.int .i64 x17_2)
  refine have_opa shadowboxref03_power.tab29 4 1 (fun sp=>sp 1=s31_1) (fun sp on hA hon=>?_) (fun ops31_1=>?_)
  ·refine ⟨fun o ho vs Rs f' S' w hp hf hx hS hR hs=>?_⟩
   obtain rfl := Option.some.inj ho
   exact opv (.int .i64 x17_2) hA hs31_1 hon (fr_next (rfl) ((hx 17 (by kernel_rfl)).trans (by kernel_rfl:(_:Value)=.int .i64 x17_2)))
  obtain ⟨q32,H⟩ := ite_need H
  obtain ⟨q33,H⟩ := ite_need H
  refine cs_atro (T:=(Ec.int 72 .u64)) (tk:=2) (i:=x17_2) (by exact rfl) q32 q33 ?_
  intro ad34 hA35
  obtain ⟨s31_2,hs31_2⟩ := exv (.pointer (some (ad34.add ((x17_2).toNat*1))))
  refine have_opa shadowboxref03_power.tab29 4 2 (fun sp=>sp 2=s31_2∧sp 0=s31_0∧sp 1=s31_1) (fun sp on hA hon=>?_) (fun ops31_2=>?_)
  ·refine ⟨fun o ho vs Rs f' S' w hp hf hx hS hR hs=>?_⟩
   obtain rfl := Option.some.inj ho
   obtain ⟨hv0,hR0⟩ := (spe hA.2.1 hs31_0 (hp 0 (by kernel_rfl)))
   obtain ⟨hv1,hR1⟩ := (spe hA.2.2 hs31_1 (hp 1 (by kernel_rfl)))
   rw [hA.1,hs31_2]
   refine wn hon ?_
   have hF := fr_next (fr_next (rfl) ((hf 0 98 (by kernel_rfl) rfl).trans hv0)) ((hf 1 99 (by kernel_rfl) rfl).trans hv1)
   refine ls_fr hF ?_
   refine ls_idxv (Ec.int 72 .u64) (A:=A9_1) (c:=c9_1) (l:=l9_1) (k:=.i64) (i:=x17_2) (z:=1) (ad:=ad34) rfl rfl (by kernel_rfl) hA35 rfl (by kernel_rfl) (by kernel_rfl) (by kernel_rfl) (by kernel_rfl) q32 q33 ?_
   exact ls_fin s0 _ (congrArg (fun z=>upd z 100 _) hF.symm) ⟨rfl,rfl⟩ (sub_nil _)
  obtain ⟨s31_3,hs31_3⟩ := exv (.int .u64 ((l9_1).getD (x17_2).toNat (0:Int)))
  refine have_opa shadowboxref03_power.tab29 4 3 (fun sp=>sp 3=s31_3∧sp 2=s31_2) (fun sp on hA hon=>?_) (fun ops31_3=>?_)
  ·refine ⟨fun o ho vs Rs f' S' w hp hf hx hS hR hs=>?_⟩
   obtain rfl := Option.some.inj ho
   obtain ⟨hv2,hR2⟩ := (spe hA.2 hs31_2 (hp 2 (by kernel_rfl)))
   rw [hA.1,hs31_3]
   refine wn hon ?_
   have hF := fr_next (rfl) ((hf 2 100 (by kernel_rfl) rfl).trans hv2)
   refine ls_fr hF ?_
   refine ls_load (a0:=(ad34.add ((x17_2).toNat*1))) (v:=.int .u64 ((l9_1).getD (x17_2).toNat (0:Int))) (de:=(TypeDesc.int .u64)) rfl rfl (by kernel_rfl) rfl (by kernel_rfl) (by kernel_rfl) (by kernel_rfl) (fun w1 hs1=>(Rd.step (hs.rod (k:=2) ((hS 2 (by kernel_rfl)).trans (by exact rfl))) hs1.below.bw).at hA35 (em_sub (Ec.int 72 .u64) l9_1 (i:=(x17_2).toNat) (by have h0:(0:Int)≤x17_2 := q32; have h1:x17_2<(l9_1.length:Int) := q33; omega))) ?_
   exact ls_fin s0 _ (congrArg (fun z=>upd z 101 _) hF.symm) ⟨rfl,rfl⟩ (sub_nil _)
  obtain ⟨s31_4,hs31_4⟩ := exv (.slice A11_1 l11_1.length c11_1)
  refine have_opa shadowboxref03_power.tab29 4 4 (fun sp=>sp 4=s31_4) (fun sp on hA hon=>?_) (fun ops31_4=>?_)
  ·refine ⟨fun o ho vs Rs f' S' w hp hf hx hS hR hs=>?_⟩
   obtain rfl := Option.some.inj ho
   exact opv (.slice A11_1 l11_1.length c11_1) hA hs31_4 hon (fr_next (rfl) ((hx 11 (by kernel_rfl)).trans (by kernel_rfl:(_:Value)=.slice A11_1 l11_1.length c11_1)))
  obtain ⟨s31_5,hs31_5⟩ := exv (.int .i64 x17_2)
  refine have_opa shadowboxref03_power.tab29 4 5 (fun sp=>sp 5=s31_5) (fun sp on hA hon=>?_) (fun ops31_5=>?_)
  ·refine ⟨fun o ho vs Rs f' S' w hp hf hx hS hR hs=>?_⟩
   obtain rfl := Option.some.inj ho
   exact opv (.int .i64 x17_2) hA hs31_5 hon (fr_next (rfl) ((hx 17 (by kernel_rfl)).trans (by kernel_rfl:(_:Value)=.int .i64 x17_2)))
  obtain ⟨q36,H⟩ := ite_need H
  refine cs_atro (T:=(Ec.int 72 .u64)) (tk:=3) (i:=x17_2) (by exact rfl) q32 q36 ?_
  intro ad37 hA38
  obtain ⟨s31_6,hs31_6⟩ := exv (.pointer (some (ad37.add ((x17_2).toNat*1))))
  refine have_opa shadowboxref03_power.tab29 4 6 (fun sp=>sp 6=s31_6∧sp 4=s31_4∧sp 5=s31_5) (fun sp on hA hon=>?_) (fun ops31_6=>?_)
  ·refine ⟨fun o ho vs Rs f' S' w hp hf hx hS hR hs=>?_⟩
   obtain rfl := Option.some.inj ho
   obtain ⟨hv4,hR4⟩ := (spe hA.2.1 hs31_4 (hp 4 (by kernel_rfl)))
   obtain ⟨hv5,hR5⟩ := (spe hA.2.2 hs31_5 (hp 5 (by kernel_rfl)))
   rw [hA.1,hs31_6]
   refine wn hon ?_
   have hF := fr_next (fr_next (rfl) ((hf 4 102 (by kernel_rfl) rfl).trans hv4)) ((hf 5 103 (by kernel_rfl) rfl).trans hv5)
   refine ls_fr hF ?_
   refine ls_idxv (Ec.int 72 .u64) (A:=A11_1) (c:=c11_1) (l:=l11_1) (k:=.i64) (i:=x17_2) (z:=1) (ad:=ad37) rfl rfl (by kernel_rfl) hA38 rfl (by kernel_rfl) (by kernel_rfl) (by kernel_rfl) (by kernel_rfl) q32 q36 ?_
   exact ls_fin s0 _ (congrArg (fun z=>upd z 104 _) hF.symm) ⟨rfl,rfl⟩ (sub_nil _)
  obtain ⟨s31_7,hs31_7⟩ := exv (.int .u64 ((l11_1).getD (x17_2).toNat (0:Int)))
  refine have_opa shadowboxref03_power.tab29 4 7 (fun sp=>sp 7=s31_7∧sp 6=s31_6) (fun sp on hA hon=>?_) (fun ops31_7=>?_)
  ·refine ⟨fun o ho vs Rs f' S' w hp hf hx hS hR hs=>?_⟩
   obtain rfl := Option.some.inj ho
   obtain ⟨hv6,hR6⟩ := (spe hA.2 hs31_6 (hp 6 (by kernel_rfl)))
   rw [hA.1,hs31_7]
   refine wn hon ?_
   have hF := fr_next (rfl) ((hf 6 104 (by kernel_rfl) rfl).trans hv6)
   refine ls_fr hF ?_
   refine ls_load (a0:=(ad37.add ((x17_2).toNat*1))) (v:=.int .u64 ((l11_1).getD (x17_2).toNat (0:Int))) (de:=(TypeDesc.int .u64)) rfl rfl (by kernel_rfl) rfl (by kernel_rfl) (by kernel_rfl) (by kernel_rfl) (fun w1 hs1=>(Rd.step (hs.rod (k:=3) ((hS 3 (by kernel_rfl)).trans (by exact rfl))) hs1.below.bw).at hA38 (em_sub (Ec.int 72 .u64) l11_1 (i:=(x17_2).toNat) (by have h0:(0:Int)≤x17_2 := q32; have h1:x17_2<(l11_1.length:Int) := q36; omega))) ?_
   exact ls_fin s0 _ (congrArg (fun z=>upd z 105 _) hF.symm) ⟨rfl,rfl⟩ (sub_nil _)
  refine cs_draw shadowboxref03_power.tab29 8 4 (spl [s31_0,s31_1,s31_2,s31_3,s31_4,s31_5,s31_6,s31_7]) (onl [true,true,true,true,true,true,true,true]) (by kernel_rfl) (by kernel_rfl) (by kernel_rfl) (by kernel_rfl) (rs:=[_]) rfl (by kernel_rfl) (by kernel_rfl) (all_snoc (all_snoc (all_snoc (all_snoc (all_snoc (all_snoc (all_snoc (all_snoc (all_nil) (ops31_0 _ _ rfl rfl)) (ops31_1 _ _ rfl rfl)) (ops31_2 _ _ ⟨rfl,rfl,rfl⟩ rfl)) (ops31_3 _ _ ⟨rfl,rfl⟩ rfl)) (ops31_4 _ _ rfl rfl)) (ops31_5 _ _ rfl rfl)) (ops31_6 _ _ ⟨rfl,rfl,rfl⟩ rfl)) (ops31_7 _ _ ⟨rfl,rfl⟩ rfl)) ?_
  intro vs Rs f' S' hp hf hx hS hR
  obtain ⟨hv3,hR3⟩ := (spe rfl hs31_3 (hp 3 (by kernel_rfl)))
  obtain ⟨hv7,hR7⟩ := (spe rfl hs31_7 (hp 7 (by kernel_rfl)))
  refine ls_fr (F:=upd (upd (upd (upd (upd f' 9 (.slice A9_1 l9_1.length c9_1)) 11 (.slice A11_1 l11_1.length c11_1)) 17 (.int .i64 x17_2)) 101 (.int .u64 ((l9_1).getD (x17_2).toNat (0:Int)))) 105 (.int .u64 ((l11_1).getD (x17_2).toNat (0:Int)))) (fr_next (fr_next (fr_next (fr_next (fr_next (rfl) ((hx 9 (by kernel_rfl)).trans (by kernel_rfl:(_:Value)=.slice A9_1 l9_1.length c9_1))) ((hx 11 (by kernel_rfl)).trans (by kernel_rfl:(_:Value)=.slice A11_1 l11_1.length c11_1))) ((hx 17 (by kernel_rfl)).trans (by kernel_rfl:(_:Value)=.int .i64 x17_2))) ((hf 3 101 (by kernel_rfl) rfl).trans hv3)) ((hf 7 105 (by kernel_rfl) rfl).trans hv7)) ?_
  refine ls_sub (sput (sput s0 2 (some (Ck.ro (Ec.int 72 .u64) A9_1 c9_1 l9_1))) 3 (some (Ck.ro (Ec.int 72 .u64) A11_1 c11_1 l11_1))) (sub_put ((hS 3 (by kernel_rfl)).trans (by exact rfl)) (sub_put ((hS 2 (by kernel_rfl)).trans (by exact rfl)) (sub_nil _))) ?_
  refine lv (.bool (!decide (((l9_1).getD (x17_2).toNat (0:Int))=((l11_1).getD (x17_2).toNat (0:Int))))) ?_
  refine ls_end ?_
  refine qn_then ?_
  by_cases q39:((l9_1).getD (x17_2).toNat (0:Int))=((l11_1).getD (x17_2).toNat (0:Int))
  ·replace H := ite_t q39 H
   refine cs_know (c:=false) (congrArg Bool.not (dec_t q39)) 106 (by kernel_rfl) ?_
   refine cs_false (by kernel_rfl) ?_
   refine cs_skip' ?_
   refine qn_block ?_
   refine qn_then ?_
   refine cs_region (l:=[_,_,_]) ?_
   refine lv (.int .i64 x17_2) ?_
   refine lv (.int .i64 (IntKind.wrap .i64 (x17_2 - (1:Int)))) ?_
   refine lv (.int .i64 (IntKind.wrap .i64 (x17_2 - (1:Int)))) ?_
   refine ls_end ?_
   refine qn_again k2 (sput (sput s0 2 (some (Ck.ro (Ec.int 72 .u64) A9_1 c9_1 l9_1))) 3 (some (Ck.ro (Ec.int 72 .u64) A11_1 c11_1 l11_1))) (Nat.le_refl _) ⟨_,(IntKind.wrap .i64 (x17_2 - (1:Int))),fr_next (fr_next (fr_next (rfl) (by kernel_rfl)) (by kernel_rfl)) (by kernel_rfl),rfl,H⟩ (sub_put (by exact rfl) (sub_put (by exact rfl) (sub_nil _)))
  replace H := ite_f q39 H
  refine cs_know (c:=true) (congrArg Bool.not (dec_f q39)) 106 (by kernel_rfl) ?_
  refine cs_true (by kernel_rfl) ?_
  refine cs_seq ?_
  obtain ⟨s41_0,hs41_0⟩ := exv (.slice A9_1 l9_1.length c9_1)
  refine have_opa shadowboxref03_power.tab39 68 0 (fun sp=>sp 0=s41_0) (fun sp on hA hon=>?_) (fun ops41_0=>?_)
  ·refine ⟨fun o ho vs Rs f' S' w hp hf hx hS hR hs=>?_⟩
   obtain rfl := Option.some.inj ho
   exact opv (.slice A9_1 l9_1.length c9_1) hA hs41_0 hon (fr_next (rfl) ((hx 9 (by kernel_rfl)).trans (by kernel_rfl:(_:Value)=.slice A9_1 l9_1.length c9_1)))
  obtain ⟨s41_1,hs41_1⟩ := exv (.int .i64 x17_2)
  refine have_opa shadowboxref03_power.tab39 68 1 (fun sp=>sp 1=s41_1) (fun sp on hA hon=>?_) (fun ops41_1=>?_)
  ·refine ⟨fun o ho vs Rs f' S' w hp hf hx hS hR hs=>?_⟩
   obtain rfl := Option.some.inj ho
   exact opv (.int .i64 x17_2) hA hs41_1 hon (fr_next (rfl) ((hx 17 (by kernel_rfl)).trans (by kernel_rfl:(_:Value)=.int .i64 x17_2)))
  refine cs_atro (T:=(Ec.int 72 .u64)) (tk:=2) (i:=x17_2) (by exact rfl) q32 q33 ?_
  intro ad42 hA43
  obtain ⟨s41_2,hs41_2⟩ := exv (.pointer (some (ad42.add ((x17_2).toNat*1))))
  refine have_opa shadowboxref03_power.tab39 68 2 (fun sp=>sp 2=s41_2∧sp 0=s41_0∧sp 1=s41_1) (fun sp on hA hon=>?_) (fun ops41_2=>?_)
  ·refine ⟨fun o ho vs Rs f' S' w hp hf hx hS hR hs=>?_⟩
   obtain rfl := Option.some.inj ho
   obtain ⟨hv0,hR0⟩ := (spe hA.2.1 hs41_0 (hp 0 (by kernel_rfl)))
   obtain ⟨hv1,hR1⟩ := (spe hA.2.2 hs41_1 (hp 1 (by kernel_rfl)))
   rw [hA.1,hs41_2]
   refine wn hon ?_
   have hF := fr_next (fr_next (rfl) ((hf 0 107 (by kernel_rfl) rfl).trans hv0)) ((hf 1 108 (by kernel_rfl) rfl).trans hv1)
   refine ls_fr hF ?_
   refine ls_idxv (Ec.int 72 .u64) (A:=A9_1) (c:=c9_1) (l:=l9_1) (k:=.i64) (i:=x17_2) (z:=1) (ad:=ad42) rfl rfl (by kernel_rfl) hA43 rfl (by kernel_rfl) (by kernel_rfl) (by kernel_rfl) (by kernel_rfl) q32 q33 ?_
   exact ls_fin s0 _ (congrArg (fun z=>upd z 109 _) hF.symm) ⟨rfl,rfl⟩ (sub_nil _)
  obtain ⟨s41_3,hs41_3⟩ := exv (.int .u64 ((l9_1).getD (x17_2).toNat (0:Int)))
  refine have_opa shadowboxref03_power.tab39 68 3 (fun sp=>sp 3=s41_3∧sp 2=s41_2) (fun sp on hA hon=>?_) (fun ops41_3=>?_)
  ·refine ⟨fun o ho vs Rs f' S' w hp hf hx hS hR hs=>?_⟩
   obtain rfl := Option.some.inj ho
   obtain ⟨hv2,hR2⟩ := (spe hA.2 hs41_2 (hp 2 (by kernel_rfl)))
   rw [hA.1,hs41_3]
   refine wn hon ?_
   have hF := fr_next (rfl) ((hf 2 109 (by kernel_rfl) rfl).trans hv2)
   refine ls_fr hF ?_
   refine ls_load (a0:=(ad42.add ((x17_2).toNat*1))) (v:=.int .u64 ((l9_1).getD (x17_2).toNat (0:Int))) (de:=(TypeDesc.int .u64)) rfl rfl (by kernel_rfl) rfl (by kernel_rfl) (by kernel_rfl) (by kernel_rfl) (fun w1 hs1=>(Rd.step (hs.rod (k:=2) ((hS 2 (by kernel_rfl)).trans (by exact rfl))) hs1.below.bw).at hA43 (em_sub (Ec.int 72 .u64) l9_1 (i:=(x17_2).toNat) (by have h0:(0:Int)≤x17_2 := q32; have h1:x17_2<(l9_1.length:Int) := q33; omega))) ?_
   exact ls_fin s0 _ (congrArg (fun z=>upd z 110 _) hF.symm) ⟨rfl,rfl⟩ (sub_nil _)
  obtain ⟨s41_4,hs41_4⟩ := exv (.slice A11_1 l11_1.length c11_1)
  refine have_opa shadowboxref03_power.tab39 68 4 (fun sp=>sp 4=s41_4) (fun sp on hA hon=>?_) (fun ops41_4=>?_)
  ·refine ⟨fun o ho vs Rs f' S' w hp hf hx hS hR hs=>?_⟩
   obtain rfl := Option.some.inj ho
   exact opv (.slice A11_1 l11_1.length c11_1) hA hs41_4 hon (fr_next (rfl) ((hx 11 (by kernel_rfl)).trans (by kernel_rfl:(_:Value)=.slice A11_1 l11_1.length c11_1)))
  obtain ⟨s41_5,hs41_5⟩ := exv (.int .i64 x17_2)
  refine have_opa shadowboxref03_power.tab39 68 5 (fun sp=>sp 5=s41_5) (fun sp on hA hon=>?_) (fun ops41_5=>?_)
  ·refine ⟨fun o ho vs Rs f' S' w hp hf hx hS hR hs=>?_⟩
   obtain rfl := Option.some.inj ho
   exact opv (.int .i64 x17_2) hA hs41_5 hon (fr_next (rfl) ((hx 17 (by kernel_rfl)).trans (by kernel_rfl:(_:Value)=.int .i64 x17_2)))
  refine cs_atro (T:=(Ec.int 72 .u64)) (tk:=3) (i:=x17_2) (by exact rfl) q32 q36 ?_
  intro ad44 hA45
  obtain ⟨s41_6,hs41_6⟩ := exv (.pointer (some (ad44.add ((x17_2).toNat*1))))
  refine have_opa shadowboxref03_power.tab39 68 6 (fun sp=>sp 6=s41_6∧sp 4=s41_4∧sp 5=s41_5) (fun sp on hA hon=>?_) (fun ops41_6=>?_)
  ·refine ⟨fun o ho vs Rs f' S' w hp hf hx hS hR hs=>?_⟩
   obtain rfl := Option.some.inj ho
   obtain ⟨hv4,hR4⟩ := (spe hA.2.1 hs41_4 (hp 4 (by kernel_rfl)))
   obtain ⟨hv5,hR5⟩ := (spe hA.2.2 hs41_5 (hp 5 (by kernel_rfl)))
   rw [hA.1,hs41_6]
   refine wn hon ?_
   have hF := fr_next (fr_next (rfl) ((hf 4 111 (by kernel_rfl) rfl).trans hv4)) ((hf 5 112 (by kernel_rfl) rfl).trans hv5)
   refine ls_fr hF ?_
   refine ls_idxv (Ec.int 72 .u64) (A:=A11_1) (c:=c11_1) (l:=l11_1) (k:=.i64) (i:=x17_2) (z:=1) (ad:=ad44) rfl rfl (by kernel_rfl) hA45 rfl (by kernel_rfl) (by kernel_rfl) (by kernel_rfl) (by kernel_rfl) q32 q36 ?_
   exact ls_fin s0 _ (congrArg (fun z=>upd z 113 _) hF.symm) ⟨rfl,rfl⟩ (sub_nil _)
  obtain ⟨s41_7,hs41_7⟩ := exv (.int .u64 ((l11_1).getD (x17_2).toNat (0:Int)))
  refine have_opa shadowboxref03_power.tab39 68 7 (fun sp=>sp 7=s41_7∧sp 6=s41_6) (fun sp on hA hon=>?_) (fun ops41_7=>?_)
  ·refine ⟨fun o ho vs Rs f' S' w hp hf hx hS hR hs=>?_⟩
   obtain rfl := Option.some.inj ho
   obtain ⟨hv6,hR6⟩ := (spe hA.2 hs41_6 (hp 6 (by kernel_rfl)))
   rw [hA.1,hs41_7]
   refine wn hon ?_
   have hF := fr_next (rfl) ((hf 6 113 (by kernel_rfl) rfl).trans hv6)
   refine ls_fr hF ?_
   refine ls_load (a0:=(ad44.add ((x17_2).toNat*1))) (v:=.int .u64 ((l11_1).getD (x17_2).toNat (0:Int))) (de:=(TypeDesc.int .u64)) rfl rfl (by kernel_rfl) rfl (by kernel_rfl) (by kernel_rfl) (by kernel_rfl) (fun w1 hs1=>(Rd.step (hs.rod (k:=3) ((hS 3 (by kernel_rfl)).trans (by exact rfl))) hs1.below.bw).at hA45 (em_sub (Ec.int 72 .u64) l11_1 (i:=(x17_2).toNat) (by have h0:(0:Int)≤x17_2 := q32; have h1:x17_2<(l11_1.length:Int) := q36; omega))) ?_
   exact ls_fin s0 _ (congrArg (fun z=>upd z 114 _) hF.symm) ⟨rfl,rfl⟩ (sub_nil _)
  refine cs_draw shadowboxref03_power.tab39 8 68 (spl [s41_0,s41_1,s41_2,s41_3,s41_4,s41_5,s41_6,s41_7]) (onl [true,true,true,true,true,true,true,true]) (by kernel_rfl) (by kernel_rfl) (by kernel_rfl) (by kernel_rfl) (rs:=[_,_]) rfl (by kernel_rfl) (by kernel_rfl) (all_snoc (all_snoc (all_snoc (all_snoc (all_snoc (all_snoc (all_snoc (all_snoc (all_nil) (ops41_0 _ _ rfl rfl)) (ops41_1 _ _ rfl rfl)) (ops41_2 _ _ ⟨rfl,rfl,rfl⟩ rfl)) (ops41_3 _ _ ⟨rfl,rfl⟩ rfl)) (ops41_4 _ _ rfl rfl)) (ops41_5 _ _ rfl rfl)) (ops41_6 _ _ ⟨rfl,rfl,rfl⟩ rfl)) (ops41_7 _ _ ⟨rfl,rfl⟩ rfl)) ?_
  intro vs Rs f' S' hp hf hx hS hR
  obtain ⟨hv3,hR3⟩ := (spe rfl hs41_3 (hp 3 (by kernel_rfl)))
  obtain ⟨hv7,hR7⟩ := (spe rfl hs41_7 (hp 7 (by kernel_rfl)))
  refine ls_fr (F:=upd (upd f' 110 (.int .u64 ((l9_1).getD (x17_2).toNat (0:Int)))) 114 (.int .u64 ((l11_1).getD (x17_2).toNat (0:Int)))) (fr_next (fr_next (rfl) ((hf 3 110 (by kernel_rfl) rfl).trans hv3)) ((hf 7 114 (by kernel_rfl) rfl).trans hv7)) ?_
  refine ls_sub (s0) (sub_nil _) ?_
  refine lv (.bool (decide (((l9_1).getD (x17_2).toNat (0:Int))<((l11_1).getD (x17_2).toNat (0:Int))))) ?_
  refine lv (.bool (decide (((l9_1).getD (x17_2).toNat (0:Int))<((l11_1).getD (x17_2).toNat (0:Int))))) ?_
  refine ls_end ?_
  refine qn_then ?_
  refine cs_ret' ?_
  refine qr_block ?_
  refine qr_then ?_
  refine qr_then ?_
  refine qr_block ?_
  refine qr_then ?_
  obtain rfl := Option.some.inj H
  refine qr_res (rs:=[_]) rfl (fun w' hs=>⟨[.bool (decide (((l9_1).getD (x17_2).toNat (0:Int))<((l11_1).getD (x17_2).toNat (0:Int))))],(res_tmp (by kernel_rfl) (.nil)),(),rfl,hs.pick (ts:=[]) (cs:=[]) trivial (by decide)⟩)
 replace H := ite_f q29 H
 refine cs_know (c:=false) (dec_f q29) 95 (by kernel_rfl) ?_
 refine cs_false (by kernel_rfl) ?_
 refine cs_exit' ?_
 refine qx_then ?_
 refine qx_then ?_
 refine qx_same ?_
 refine qn_then ?_
 refine cs_seq ?_
 refine cs_region (l:=[_]) ?_
 refine lv (.bool true) ?_
 refine ls_end ?_
 refine qn_then ?_
 refine cs_ret' ?_
 obtain rfl := Option.some.inj H
 refine qr_res (rs:=[_]) rfl (fun w' hs=>⟨[.bool true],(res_tmp (by kernel_rfl) (.nil)),(),rfl,hs.pick (ts:=[]) (cs:=[]) trivial (by decide)⟩)

/-! ### shadowbox/shadowboxref03.root: function 56 -/
def shadowboxref03_root.lo1 (a0:Int) (a1:Bool):Nat→Int→Int→Option (Int)
  | 0,_,_=>none
  | k1+1,x5_1,x6_1=>(if (IntKind.wrap .u64 (x6_1 - x5_1)) > (1:Int) then lt (IntKind.wrap .u64 (Int.tdiv (IntKind.wrap .u64 (x6_1 - x5_1)) (2:Int))) fun y2=>(shadowboxref03_power.f k1 (IntKind.wrap .u64 (x5_1+y2)) a1 a0).bind fun t4=>(if t4=true then (shadowboxref03_root.lo1 a0 a1 k1) (IntKind.wrap .u64 (x5_1+y2)) x6_1 else (shadowboxref03_root.lo1 a0 a1 k1) x5_1 (IntKind.wrap .u64 (x5_1+y2))) else lt (IntKind.wrap .u32 (Int.tmod x5_1 (4294967296:Int))) fun y8=>some y8)
def shadowboxref03_root.f (k:Nat) (a0:Int) (a1:Bool):Option (Int) :=
  shadowboxref03_root.lo1 a0 a1 k (0:Int) (68719476736:Int)
set_option maxRecDepth 100000 in
set_option maxHeartbeats 4000000 in
theorem shadowboxref03_root.calls (k:Nat) (a0:Int) (a1:Bool) (r:Int) (b:Bs) (hs0:St b (stl []) b.w) (H:shadowboxref03_root.f k a0 a1=some r) :
    Calls Try.prog 56 #[.int .u64 a0,.bool a1] b.w fun e w'=>∃ x:Unit,e=.returned (.int .u32 r)∧St b (stl []) w' := by
 unfold shadowboxref03_root.f at H
 refine enterb (n:=27) Try.func56 rfl (by kernel_rfl) (by kernel_rfl) hs0 ?_
 refine cs_sub (s0) (sub_nil _) ?_
 refine cs_seq ?_
 refine cs_region (l:=[_]) ?_
 refine lv (.int .u32 (0:Int)) ?_
 refine ls_end ?_
 refine qn_then ?_
 refine cs_seq ?_
 refine cs_region (l:=[_]) ?_
 refine lv (.int .u64 (0:Int)) ?_
 refine ls_end ?_
 refine qn_then ?_
 refine cs_seq ?_
 refine cs_region (l:=[_]) ?_
 refine lv (.int .u64 (68719476736:Int)) ?_
 refine ls_end ?_
 refine qn_then ?_
 refine cs_seq ?_
 refine cs_block ?_
 refine cs_sub (s0) (sub_nil _) ?_
 refine cs_loop (fun kk f S=>∃ (fR:Fr) (x5_1:Int) (x6_1:Int),f=upd (upd (upd (upd fR 0 (.int .u64 a0)) 1 (.bool a1)) 5 (.int .u64 x5_1)) 6 (.int .u64 x6_1)∧S=s0∧shadowboxref03_root.lo1 a0 a1 kk x5_1 x6_1=some r) k ?_ ?_ ?_
 ·exact ⟨_,(0:Int),(68719476736:Int),fr_next (fr_next (fr_next (fr_next (rfl) (by kernel_rfl)) (by kernel_rfl)) (by kernel_rfl)) (by kernel_rfl),rfl,H⟩
 ·rintro f S ⟨fr1,x5_1,x6_1,rfl,rfl,H⟩; cases H
 rintro k1 f S ⟨fr1,x5_1,x6_1,rfl,rfl,H⟩
 replace H:((if (IntKind.wrap .u64 (x6_1 - x5_1)) > (1:Int) then lt (IntKind.wrap .u64 (Int.tdiv (IntKind.wrap .u64 (x6_1 - x5_1)) (2:Int))) fun y2=>(shadowboxref03_power.f k1 (IntKind.wrap .u64 (x5_1+y2)) a1 a0).bind fun t4=>(if t4=true then (shadowboxref03_root.lo1 a0 a1 k1) (IntKind.wrap .u64 (x5_1+y2)) x6_1 else (shadowboxref03_root.lo1 a0 a1 k1) x5_1 (IntKind.wrap .u64 (x5_1+y2))) else lt (IntKind.wrap .u32 (Int.tmod x5_1 (4294967296:Int))) fun y8=>some y8))=some r := H
 refine cs_seq ?_
 refine cs_seq ?_
 refine cs_region (l:=[_,_,_,_]) ?_
 refine lv (.int .u64 x6_1) ?_
 refine lv (.int .u64 x5_1) ?_
 refine lv (.int .u64 (IntKind.wrap .u64 (x6_1 - x5_1))) ?_
 refine lv (.bool (decide ((IntKind.wrap .u64 (x6_1 - x5_1)) > (1:Int)))) ?_
 refine ls_end ?_
 refine qn_then ?_
 by_cases q1:(IntKind.wrap .u64 (x6_1 - x5_1)) > (1:Int)
 ·replace H := ite_t q1 H
  refine cs_know (c:=true) (dec_t q1) 11 (by kernel_rfl) ?_
  refine cs_true (by kernel_rfl) ?_
  refine cs_skip' ?_
  refine qn_then ?_
  refine cs_block ?_
  refine cs_seq ?_
  refine cs_region (l:=[_,_,_,_,_,_,_]) ?_
  refine lv (.int .u64 x5_1) ?_
  refine lv (.int .u64 x6_1) ?_
  refine lv (.int .u64 x5_1) ?_
  refine lv (.int .u64 (IntKind.wrap .u64 (x6_1 - x5_1))) ?_
  obtain ⟨y2,hy3,H⟩ := lt_some H
  refine lv (.int .u64 (IntKind.wrap .u64 (Int.tdiv (IntKind.wrap .u64 (x6_1 - x5_1)) (2:Int)))) ?_
  refine ls_ren 16 (v:=.int .u64 (IntKind.wrap .u64 (Int.tdiv (IntKind.wrap .u64 (x6_1 - x5_1)) (2:Int)))) (v' := .int .u64 y2) (by kernel_rfl) (by rw [hy3]) ?_
  refine lv (.int .u64 (IntKind.wrap .u64 (x5_1+y2))) ?_
  refine lv (.int .u64 (IntKind.wrap .u64 (x5_1+y2))) ?_
  refine ls_end ?_
  refine qn_then ?_
  refine cs_seq ?_
  refine cs_region (l:=[_,_,_,_]) ?_
  refine lv (.int .u64 (IntKind.wrap .u64 (x5_1+y2))) ?_
  refine lv (.bool a1) ?_
  refine lv (.int .u64 a0) ?_
  obtain ⟨t4,hc5,H⟩ := bind_some H
  refine ls_callb (fid:=69) (vals:=#[.int .u64 (IntKind.wrap .u64 (x5_1+y2)),.bool a1,.int .u64 a0]) (X:=Unit) (fun x=>.bool t4) (fun x=>stl []) [] [] [] [] 0 rfl rfl (by kernel_rfl) (fun w=>by kernel_rfl) trivial trivial (by decide) (fun w hs hb=>shadowboxref03_power.calls k1 (IntKind.wrap .u64 (x5_1+y2)) a1 a0 t4 (lent b w [] []) hb  hc5) ?_
  intro x6
  refine ls_end ?_
  refine qn_then ?_
  by_cases q7:t4=true
  ·replace H := ite_t q7 H
   refine cs_know (c:=true) (q7) 21 (by kernel_rfl) ?_
   refine cs_true (by kernel_rfl) ?_
   refine cs_region (l:=[_,_]) ?_
   refine lv (.int .u64 (IntKind.wrap .u64 (x5_1+y2))) ?_
   refine lv (.int .u64 (IntKind.wrap .u64 (x5_1+y2))) ?_
   refine ls_end ?_
   refine qn_block ?_
   refine qn_again k1 (s0) (Nat.le_refl _) ⟨_,(IntKind.wrap .u64 (x5_1+y2)),x6_1,fr_next (fr_next (fr_next (fr_next (rfl) (by kernel_rfl)) (by kernel_rfl)) (by kernel_rfl)) (by kernel_rfl),rfl,H⟩ (sub_nil _)
  replace H := ite_f q7 H
  refine cs_know (c:=false) (Bool.eq_false_iff.mpr q7) 21 (by kernel_rfl) ?_
  refine cs_false (by kernel_rfl) ?_
  refine cs_region (l:=[_,_]) ?_
  refine lv (.int .u64 (IntKind.wrap .u64 (x5_1+y2))) ?_
  refine lv (.int .u64 (IntKind.wrap .u64 (x5_1+y2))) ?_
  refine ls_end ?_
  refine qn_block ?_
  refine qn_again k1 (s0) (Nat.le_refl _) ⟨_,x5_1,(IntKind.wrap .u64 (x5_1+y2)),fr_next (fr_next (fr_next (fr_next (rfl) (by kernel_rfl)) (by kernel_rfl)) (by kernel_rfl)) (by kernel_rfl),rfl,H⟩ (sub_nil _)
 replace H := ite_f q1 H
 refine cs_know (c:=false) (dec_f q1) 11 (by kernel_rfl) ?_
 refine cs_false (by kernel_rfl) ?_
 refine cs_exit' ?_
 refine qx_then ?_
 refine qx_then ?_
 refine qx_same ?_
 refine qn_then ?_
 refine cs_seq ?_
 refine cs_region (l:=[_,_,_,_]) ?_
 refine lv (.int .u64 x5_1) ?_
 refine lv (.int .u64 (Int.tmod x5_1 (4294967296:Int))) ?_
 obtain ⟨y8,hy9,H⟩ := lt_some H
 refine lv (.int .u32 (IntKind.wrap .u32 (Int.tmod x5_1 (4294967296:Int)))) ?_
 refine ls_ren 26 (v:=.int .u32 (IntKind.wrap .u32 (Int.tmod x5_1 (4294967296:Int)))) (v' := .int .u32 y8) (by kernel_rfl) (by rw [hy9]) ?_
 refine lv (.int .u32 y8) ?_
 refine ls_end ?_
 refine qn_then ?_
 refine cs_ret' ?_
 obtain rfl := Option.some.inj H
 refine qr_res (rs:=[_]) rfl (fun w' hs=>⟨[.int .u32 y8],(res_tmp (by kernel_rfl) (.nil)),(),rfl,hs.pick (ts:=[]) (cs:=[]) trivial (by decide)⟩)

/-! ### shadowbox/shadowboxref03.Keys: function 35 -/
def shadowboxref03_Keys.cst0:Vc Int 64 := ⟨[(0:Int),(0:Int),(0:Int),(0:Int),(0:Int),(0:Int),(0:Int),(0:Int),(0:Int),(0:Int),(0:Int),(0:Int),(0:Int),(0:Int),(0:Int),(0:Int),(0:Int),(0:Int),(0:Int),(0:Int),(0:Int),(0:Int),(0:Int),(0:Int),(0:Int),(0:Int),(0:Int),(0:Int),(0:Int),(0:Int),(0:Int),(0:Int),(0:Int),(0:Int),(0:Int),(0:Int),(0:Int),(0:Int),(0:Int),(0:Int),(0:Int),(0:Int),(0:Int),(0:Int),(0:Int),(0:Int),(0:Int),(0:Int),(0:Int),(0:Int),(0:Int),(0:Int),(0:Int),(0:Int),(0:Int),(0:Int),(0:Int),(0:Int),(0:Int),(0:Int),(0:Int),(0:Int),(0:Int),(0:Int)],rfl⟩
def shadowboxref03_Keys.lo1 (t3:(List Int)):Nat→Int→((Vc Int 64))→Option ((Vc Int 64))
  | 0,_,_=>none
  | k1+1,x3_1,m1_1=>(if x3_1<(64:Int) then (if 0≤x3_1 then (if x3_1<(t3.length:Int) then (shadowboxref03_root.f k1 ((t3).getD (x3_1).toNat (0:Int)) true).bind fun t11=>lt (vset m1_1 (x3_1).toNat t11) fun y14=>(shadowboxref03_Keys.lo1 t3 k1) (IntKind.wrap .i64 (x3_1+(1:Int))) y14 else none) else none) else some m1_1)
def shadowboxref03_Keys.f (k:Nat):Option ((Vc Int 64)) :=
  (shadowboxref03_primes.f k (64:Int)).bind fun t3=>shadowboxref03_Keys.lo1 t3 k (0:Int) shadowboxref03_Keys.cst0
set_option maxRecDepth 100000 in
set_option maxHeartbeats 4000000 in
theorem shadowboxref03_Keys.calls (k:Nat)  (r:(Vc Int 64)) (b:Bs) (hs0:St b (stl []) b.w) (H:shadowboxref03_Keys.f k=some r) :
    Calls Try.prog 35 #[] b.w fun e w'=>∃ x:Unit,e=.returned (.agg ⟨en (Value.int .u32) r.1⟩)∧St b (stl []) w' := by
 unfold shadowboxref03_Keys.f at H
 refine enterb (n:=18) Try.func35 rfl (by kernel_rfl) (by kernel_rfl) hs0 ?_
 refine cs_sub (s0) (sub_nil _) ?_
 refine cs_seq ?_
 refine cs_region (l:=[_]) ?_
 refine ls_new rfl rfl (by kernel_rfl) 0 (fun g=>.pointer (some ⟨g,0,none⟩)) (.cells ⟨en (Value.int .u32) (vrep 64 (0:Int)).1⟩ 69) (fun w=>by kernel_rfl) ?_
 intro g1
 refine ls_end ?_
 refine qn_then ?_
 refine cs_seq ?_
 refine cs_region (l:=[_,_,_]) ?_
 refine lv (.agg ⟨en (Value.int .u32) shadowboxref03_Keys.cst0.1⟩) ?_
 refine ls_new rfl rfl (by kernel_rfl) 1 (fun g=>.pointer (some ⟨g,0,none⟩)) (.cells ⟨en (Value.int .u32) (vrep 64 (0:Int)).1⟩ 69) (fun w=>by kernel_rfl) ?_
 intro g2
 refine ls_storec (g:=g2) (off:=0) (v:=.agg ⟨en (Value.int .u32) shadowboxref03_Keys.cst0.1⟩) (vs:=en (Value.int .u32) shadowboxref03_Keys.cst0.1) (cs:=en (Value.int .u32) (vrep 64 (0:Int)).1) (ty:=69) 1 rfl rfl rfl (by kernel_rfl) (by kernel_rfl) (by kernel_rfl) (by exact rfl) (by kernel_rfl) (len_en _ shadowboxref03_Keys.cst0) (one_en (fun _=>rfl) _) (hl_of (Sub4.all _) (len_eq (len_en _ shadowboxref03_Keys.cst0) (len_en _ (vrep 64 (0:Int))))) (cs' := en (Value.int .u32) shadowboxref03_Keys.cst0.1) (splc_all (len_eq (len_en _ shadowboxref03_Keys.cst0) (len_en _ (vrep 64 (0:Int))))) ?_
 refine ls_end ?_
 refine qn_then ?_
 refine cs_seq ?_
 refine cs_region (l:=[_,_]) ?_
 obtain ⟨t3,hc4,H⟩ := bind_some H
 refine ls_callb (fid:=55) (vals:=#[.int .i64 (64:Int)]) (X:=(Option Addr × Nat)) (fun x=>.slice x.1 t3.length x.2) (fun x=>stl [Ck.sl (Ec.int 72 .u64) x.1 x.2 t3]) [] [] [] [] 2 rfl rfl (by kernel_rfl) (fun w=>by kernel_rfl) trivial trivial (by decide) (fun w hs hb=>shadowboxref03_primes.calls k (64:Int) t3 (lent b w [] []) hb  hc4) ?_
 intro x5
 refine lv (.slice x5.1 t3.length x5.2) ?_
 refine ls_end ?_
 refine qn_then ?_
 refine cs_seq ?_
 refine cs_seq ?_
 refine cs_region (l:=[_]) ?_
 refine lv (.int .i64 (0:Int)) ?_
 refine ls_end ?_
 refine qn_then ?_
 refine cs_block ?_
 refine cs_sub (sput (sput (sput s0 0 (some (Ck.var 69 g1 (en (Value.int .u32) (vrep 64 (0:Int)).1)))) 1 (some (Ck.var 69 g2 (en (Value.int .u32) shadowboxref03_Keys.cst0.1)))) 2 (some (Ck.sl (Ec.int 72 .u64) x5.1 x5.2 t3))) (sub_put (by exact rfl) (sub_put (by exact rfl) (sub_put (by exact rfl) (sub_nil _)))) ?_
 refine cs_loop (fun kk f S=>∃ (fR:Fr) (x3_1:Int) (m1_1:(Vc Int 64)),f=upd (upd (upd (upd fR 0 (.pointer (some ⟨g1,0,none⟩))) 1 (.pointer (some ⟨g2,0,none⟩))) 2 (.slice x5.1 t3.length x5.2)) 3 (.int .i64 x3_1)∧S=sput (sput (sput s0 0 (some (Ck.var 69 g1 (en (Value.int .u32) (vrep 64 (0:Int)).1)))) 1 (some (Ck.var 69 g2 (en (Value.int .u32) m1_1.1)))) 2 (some (Ck.sl (Ec.int 72 .u64) x5.1 x5.2 t3))∧shadowboxref03_Keys.lo1 t3 kk x3_1 m1_1=some r) k ?_ ?_ ?_
 ·exact ⟨_,(0:Int),shadowboxref03_Keys.cst0,fr_next (fr_next (fr_next (fr_next (rfl) (by kernel_rfl)) (by kernel_rfl)) (by kernel_rfl)) (by kernel_rfl),rfl,H⟩
 ·rintro f S ⟨fr1,x3_1,m1_1,rfl,rfl,H⟩; cases H
 rintro k1 f S ⟨fr1,x3_1,m1_1,rfl,rfl,H⟩
 replace H:((if x3_1<(64:Int) then (if 0≤x3_1 then (if x3_1<(t3.length:Int) then (shadowboxref03_root.f k1 ((t3).getD (x3_1).toNat (0:Int)) true).bind fun t11=>lt (vset m1_1 (x3_1).toNat t11) fun y14=>(shadowboxref03_Keys.lo1 t3 k1) (IntKind.wrap .i64 (x3_1+(1:Int))) y14 else none) else none) else some m1_1))=some r := H
 refine cs_seq ?_
 refine cs_seq ?_
 refine cs_region (l:=[_,_]) ?_
 refine lv (.int .i64 x3_1) ?_
 refine lv (.bool (decide (x3_1<(64:Int)))) ?_
 refine ls_end ?_
 refine qn_then ?_
 by_cases q6:x3_1<(64:Int)
 ·replace H := ite_t q6 H
  refine cs_know (c:=true) (dec_t q6) 7 (by kernel_rfl) ?_
  refine cs_true (by kernel_rfl) ?_
  refine cs_skip' ?_
  refine qn_then ?_
  refine cs_seq ?_
  refine cs_block ?_
  refine cs_region (l:=[_,_,_,_,_,_,_,_]) ?_
  refine lv (.int .i64 x3_1) ?_
  refine lv (.slice x5.1 t3.length x5.2) ?_
  refine lv (.int .i64 x3_1) ?_
  obtain ⟨q7,H⟩ := ite_need H
  obtain ⟨q8,H⟩ := ite_need H
  refine ls_at (T:=(Ec.int 72 .u64)) (tk:=2) (i:=x3_1) (by exact rfl) q7 q8 ?_
  intro ad9 hA10
  refine ls_idxv (Ec.int 72 .u64) (A:=x5.1) (c:=x5.2) (l:=t3) (k:=.i64) (i:=x3_1) (z:=1) (ad:=ad9) rfl rfl (by kernel_rfl) hA10 rfl (by kernel_rfl) (by kernel_rfl) (by kernel_rfl) (by kernel_rfl) q7 q8 ?_
  refine ls_load (a0:=(ad9.add ((x3_1).toNat*1))) (v:=.int .u64 ((t3).getD (x3_1).toNat (0:Int))) (de:=(TypeDesc.int .u64)) rfl rfl (by kernel_rfl) rfl (by kernel_rfl) (by kernel_rfl) (by kernel_rfl) (fun w hs=>(hs.rd (k:=2) (by exact rfl)).at hA10 (em_sub (Ec.int 72 .u64) t3 (i:=(x3_1).toNat) (by have h0:(0:Int)≤x3_1 := q7; have h1:x3_1<(t3.length:Int) := q8; omega))) ?_
  obtain ⟨t11,hc12,H⟩ := bind_some H
  refine ls_callb (fid:=56) (vals:=#[.int .u64 ((t3).getD (x3_1).toNat (0:Int)),.bool true]) (X:=Unit) (fun x=>.int .u32 t11) (fun x=>stl []) [] [] [] [] 3 rfl rfl (by kernel_rfl) (fun w=>by kernel_rfl) trivial trivial (by decide) (fun w hs hb=>shadowboxref03_root.calls k1 ((t3).getD (x3_1).toNat (0:Int)) true t11 (lent b w [] []) hb  hc12) ?_
  intro x13
  refine ls_idxa1 (g:=g2) (off:=0) (i:=x3_1) (kk:=.i64) (ln:=64) (e:=23) rfl rfl (by kernel_rfl) rfl (by kernel_rfl) (by kernel_rfl) (by kernel_rfl) (by kernel_rfl) q7 q6 ?_
  obtain ⟨y14,hy15,H⟩ := lt_some H
  refine ls_storec (g:=g2) (off:=(0+(x3_1).toNat)) (v:=.int .u32 t11) (vs:=[Value.int .u32 t11]) (cs:=en (Value.int .u32) m1_1.1) (ty:=69) 1 rfl rfl rfl (by kernel_rfl) (by kernel_rfl) (by kernel_rfl) (by exact rfl) (by kernel_rfl) (len1 _) (one_cons rfl one_nil) (hl_of (Sub4.trans (Sub4.all _) (Sub4.one (i:=(x3_1).toNat) (Value.int .u32) m1_1.1 0 (by have := m1_1.2; omega))) (len_eq (len1 _) (len1 _))) (cs' := en (Value.int .u32) y14.1) (splc_in (Sub4.all _) ((splc_one (Value.int .u32) m1_1.1 t11 (by have := m1_1.2; omega)).trans (congrArg (fun z:(Vc Int 64)=>en (Value.int .u32) z.1) hy15)) (splc_all (len_eq (len_en _ y14) (len_en _ m1_1))) (hl_of (Sub4.one (i:=(x3_1).toNat) (Value.int .u32) m1_1.1 0 (by have := m1_1.2; omega)) (len_eq (len1 _) (len1 _)))) ?_
  refine ls_end ?_
  refine qn_block ?_
  refine qn_then ?_
  refine cs_region (l:=[_,_,_]) ?_
  refine lv (.int .i64 x3_1) ?_
  refine lv (.int .i64 (IntKind.wrap .i64 (x3_1+(1:Int)))) ?_
  refine lv (.int .i64 (IntKind.wrap .i64 (x3_1+(1:Int)))) ?_
  refine ls_end ?_
  refine qn_again k1 (sput (sput (sput s0 0 (some (Ck.var 69 g1 (en (Value.int .u32) (vrep 64 (0:Int)).1)))) 1 (some (Ck.var 69 g2 (en (Value.int .u32) y14.1)))) 2 (some (Ck.sl (Ec.int 72 .u64) x5.1 x5.2 t3))) (Nat.le_refl _) ⟨_,(IntKind.wrap .i64 (x3_1+(1:Int))),y14,fr_next (fr_next (fr_next (fr_next (rfl) (by kernel_rfl)) (by kernel_rfl)) (by kernel_rfl)) (by kernel_rfl),rfl,H⟩ (sub_put (by exact rfl) (sub_put (by exact rfl) (sub_put (by exact rfl) (sub_nil _))))
 replace H := ite_f q6 H
 refine cs_know (c:=false) (dec_f q6) 7 (by kernel_rfl) ?_
 refine cs_false (by kernel_rfl) ?_
 refine cs_exit' ?_
 refine qx_then ?_
 refine qx_then ?_
 refine qx_same ?_
 refine qn_then ?_
 refine cs_seq ?_
 refine cs_region (l:=[_,_]) ?_
 refine ls_loadagg (a:=⟨g2,0,none⟩) (sub:=en (Value.int .u32) m1_1.1) rfl rfl (by kernel_rfl) rfl (by kernel_rfl) (by kernel_rfl) (by kernel_rfl) (len_en _ m1_1) (fun w hs=>(hs.vars (k:=1) (by exact rfl) (Sub4.all _))) ?_
 refine ls_storec (g:=g1) (off:=0) (v:=.agg ⟨en (Value.int .u32) m1_1.1⟩) (vs:=en (Value.int .u32) m1_1.1) (cs:=en (Value.int .u32) (vrep 64 (0:Int)).1) (ty:=69) 0 rfl rfl rfl (by kernel_rfl) (by kernel_rfl) (by kernel_rfl) (by exact rfl) (by kernel_rfl) (len_en _ m1_1) (one_en (fun _=>rfl) _) (hl_of (Sub4.all _) (len_eq (len_en _ m1_1) (len_en _ (vrep 64 (0:Int))))) (cs' := en (Value.int .u32) m1_1.1) (splc_all (len_eq (len_en _ m1_1) (len_en _ (vrep 64 (0:Int))))) ?_
 refine ls_end ?_
 refine qn_then ?_
 refine cs_ret' ?_
 obtain rfl := Option.some.inj H
 refine qr_res (rs:=[_]) rfl (fun w' hs=>⟨[.agg ⟨en (Value.int .u32) m1_1.1⟩],(.cell (by kernel_rfl) (run_cellres (by kernel_rfl) (by kernel_rfl) (len_en _ m1_1) (hs.holds 0 _ (by exact rfl))) (.nil)),(),rfl,hs.pick (ts:=[]) (cs:=[]) trivial (by decide)⟩)

/-! ### shadowbox/shadowboxref03.Begin: function 36 -/
def shadowboxref03_Begin.lo1 (t3:(List Int)):Nat→Int→(((Vc Int 8) × Int))→Option (((Vc Int 8) × Int))
  | 0,_,_=>none
  | k1+1,x3_1,m1_1=>(if x3_1<(8:Int) then (if 0≤x3_1 then (if x3_1<(t3.length:Int) then (shadowboxref03_root.f k1 ((t3).getD (x3_1).toNat (0:Int)) false).bind fun t11=>lt (vset m1_1.1 (x3_1).toNat t11) fun y14=>(shadowboxref03_Begin.lo1 t3 k1) (IntKind.wrap .i64 (x3_1+(1:Int))) (y14,m1_1.2) else none) else none) else some m1_1)
def shadowboxref03_Begin.f (k:Nat):Option (((Vc Int 8) × Int)) :=
  (shadowboxref03_primes.f k (8:Int)).bind fun t3=>shadowboxref03_Begin.lo1 t3 k (0:Int) ((vrep 8 (0:Int)),(0:Int))
set_option maxRecDepth 100000 in
set_option maxHeartbeats 4000000 in
theorem shadowboxref03_Begin.calls (k:Nat)  (r:((Vc Int 8) × Int)) (b:Bs) (hs0:St b (stl []) b.w) (H:shadowboxref03_Begin.f k=some r) :
    Calls Try.prog 36 #[] b.w fun e w'=>∃ x:Unit,e=.returned (.agg ⟨(en (Value.int .u32) r.1.1++[Value.int .u64 r.2])⟩)∧St b (stl []) w' := by
 unfold shadowboxref03_Begin.f at H
 refine enterb (n:=19) Try.func36 rfl (by kernel_rfl) (by kernel_rfl) hs0 ?_
 refine cs_sub (s0) (sub_nil _) ?_
 refine cs_seq ?_
 refine cs_region (l:=[_]) ?_
 refine ls_new rfl rfl (by kernel_rfl) 0 (fun g=>.pointer (some ⟨g,0,none⟩)) (.cells ⟨(en (Value.int .u32) (vrep 8 (0:Int)).1++[Value.int .u64 (0:Int)])⟩ 74) (fun w=>by kernel_rfl) ?_
 intro g1
 refine ls_end ?_
 refine qn_then ?_
 refine cs_seq ?_
 refine cs_region (l:=[_,_,_]) ?_
 refine ls_build (ps:=[]) (pl:=#[(0,8),(8,1)]) (zv:=.agg ⟨(en (Value.int .u32) (vrep 8 (0:Int)).1++[Value.int .u64 (0:Int)])⟩) (zc:=(en (Value.int .u32) (vrep 8 (0:Int)).1++[Value.int .u64 (0:Int)])) (r:=(en (Value.int .u32) (vrep 8 (0:Int)).1++[Value.int .u64 (0:Int)])) rfl rfl (by kernel_rfl) rfl (by kernel_rfl) (by kernel_rfl) (fun w=>by kernel_rfl) (fun w=>by kernel_rfl) rfl fill_nil ?_
 refine ls_new rfl rfl (by kernel_rfl) 1 (fun g=>.pointer (some ⟨g,0,none⟩)) (.cells ⟨(en (Value.int .u32) (vrep 8 (0:Int)).1++[Value.int .u64 (0:Int)])⟩ 74) (fun w=>by kernel_rfl) ?_
 intro g2
 refine ls_storec (g:=g2) (off:=0) (v:=.agg ⟨(en (Value.int .u32) (vrep 8 (0:Int)).1++[Value.int .u64 (0:Int)])⟩) (vs:=(en (Value.int .u32) (vrep 8 (0:Int)).1++[Value.int .u64 (0:Int)])) (cs:=(en (Value.int .u32) (vrep 8 (0:Int)).1++[Value.int .u64 (0:Int)])) (ty:=74) 1 rfl rfl rfl (by kernel_rfl) (by kernel_rfl) (by kernel_rfl) (by exact rfl) (by kernel_rfl) (len_app (len_en _ (vrep 8 (0:Int))) (len1 _)) (one_app (one_en (fun _=>rfl) _) (one_cons rfl one_nil)) (hl_of (Sub4.all _) (len_eq (len_app (len_en _ (vrep 8 (0:Int))) (len1 _)) (len_app (len_en _ (vrep 8 (0:Int))) (len1 _)))) (cs' := (en (Value.int .u32) (vrep 8 (0:Int)).1++[Value.int .u64 (0:Int)])) (splc_all (len_eq (len_app (len_en _ (vrep 8 (0:Int))) (len1 _)) (len_app (len_en _ (vrep 8 (0:Int))) (len1 _)))) ?_
 refine ls_end ?_
 refine qn_then ?_
 refine cs_seq ?_
 refine cs_region (l:=[_,_]) ?_
 obtain ⟨t3,hc4,H⟩ := bind_some H
 refine ls_callb (fid:=55) (vals:=#[.int .i64 (8:Int)]) (X:=(Option Addr × Nat)) (fun x=>.slice x.1 t3.length x.2) (fun x=>stl [Ck.sl (Ec.int 72 .u64) x.1 x.2 t3]) [] [] [] [] 2 rfl rfl (by kernel_rfl) (fun w=>by kernel_rfl) trivial trivial (by decide) (fun w hs hb=>shadowboxref03_primes.calls k (8:Int) t3 (lent b w [] []) hb  hc4) ?_
 intro x5
 refine lv (.slice x5.1 t3.length x5.2) ?_
 refine ls_end ?_
 refine qn_then ?_
 refine cs_seq ?_
 refine cs_seq ?_
 refine cs_region (l:=[_]) ?_
 refine lv (.int .i64 (0:Int)) ?_
 refine ls_end ?_
 refine qn_then ?_
 refine cs_block ?_
 refine cs_sub (sput (sput (sput s0 0 (some (Ck.var 74 g1 ((en (Value.int .u32) (vrep 8 (0:Int)).1++[Value.int .u64 (0:Int)]))))) 1 (some (Ck.var 74 g2 ((en (Value.int .u32) (vrep 8 (0:Int)).1++[Value.int .u64 (0:Int)]))))) 2 (some (Ck.sl (Ec.int 72 .u64) x5.1 x5.2 t3))) (sub_put (by exact rfl) (sub_put (by exact rfl) (sub_put (by exact rfl) (sub_nil _)))) ?_
 refine cs_loop (fun kk f S=>∃ (fR:Fr) (x3_1:Int) (m1_1:((Vc Int 8) × Int)),f=upd (upd (upd (upd fR 0 (.pointer (some ⟨g1,0,none⟩))) 1 (.pointer (some ⟨g2,0,none⟩))) 2 (.slice x5.1 t3.length x5.2)) 3 (.int .i64 x3_1)∧S=sput (sput (sput s0 0 (some (Ck.var 74 g1 ((en (Value.int .u32) (vrep 8 (0:Int)).1++[Value.int .u64 (0:Int)]))))) 1 (some (Ck.var 74 g2 ((en (Value.int .u32) m1_1.1.1++[Value.int .u64 m1_1.2]))))) 2 (some (Ck.sl (Ec.int 72 .u64) x5.1 x5.2 t3))∧shadowboxref03_Begin.lo1 t3 kk x3_1 m1_1=some r) k ?_ ?_ ?_
 ·exact ⟨_,(0:Int),((vrep 8 (0:Int)),(0:Int)),fr_next (fr_next (fr_next (fr_next (rfl) (by kernel_rfl)) (by kernel_rfl)) (by kernel_rfl)) (by kernel_rfl),rfl,H⟩
 ·rintro f S ⟨fr1,x3_1,m1_1,rfl,rfl,H⟩; cases H
 rintro k1 f S ⟨fr1,x3_1,m1_1,rfl,rfl,H⟩
 replace H:((if x3_1<(8:Int) then (if 0≤x3_1 then (if x3_1<(t3.length:Int) then (shadowboxref03_root.f k1 ((t3).getD (x3_1).toNat (0:Int)) false).bind fun t11=>lt (vset m1_1.1 (x3_1).toNat t11) fun y14=>(shadowboxref03_Begin.lo1 t3 k1) (IntKind.wrap .i64 (x3_1+(1:Int))) (y14,m1_1.2) else none) else none) else some m1_1))=some r := H
 refine cs_seq ?_
 refine cs_seq ?_
 refine cs_region (l:=[_,_]) ?_
 refine lv (.int .i64 x3_1) ?_
 refine lv (.bool (decide (x3_1<(8:Int)))) ?_
 refine ls_end ?_
 refine qn_then ?_
 by_cases q6:x3_1<(8:Int)
 ·replace H := ite_t q6 H
  refine cs_know (c:=true) (dec_t q6) 7 (by kernel_rfl) ?_
  refine cs_true (by kernel_rfl) ?_
  refine cs_skip' ?_
  refine qn_then ?_
  refine cs_seq ?_
  refine cs_block ?_
  refine cs_region (l:=[_,_,_,_,_,_,_,_,_]) ?_
  refine lv (.int .i64 x3_1) ?_
  refine lv (.slice x5.1 t3.length x5.2) ?_
  refine lv (.int .i64 x3_1) ?_
  obtain ⟨q7,H⟩ := ite_need H
  obtain ⟨q8,H⟩ := ite_need H
  refine ls_at (T:=(Ec.int 72 .u64)) (tk:=2) (i:=x3_1) (by exact rfl) q7 q8 ?_
  intro ad9 hA10
  refine ls_idxv (Ec.int 72 .u64) (A:=x5.1) (c:=x5.2) (l:=t3) (k:=.i64) (i:=x3_1) (z:=1) (ad:=ad9) rfl rfl (by kernel_rfl) hA10 rfl (by kernel_rfl) (by kernel_rfl) (by kernel_rfl) (by kernel_rfl) q7 q8 ?_
  refine ls_load (a0:=(ad9.add ((x3_1).toNat*1))) (v:=.int .u64 ((t3).getD (x3_1).toNat (0:Int))) (de:=(TypeDesc.int .u64)) rfl rfl (by kernel_rfl) rfl (by kernel_rfl) (by kernel_rfl) (by kernel_rfl) (fun w hs=>(hs.rd (k:=2) (by exact rfl)).at hA10 (em_sub (Ec.int 72 .u64) t3 (i:=(x3_1).toNat) (by have h0:(0:Int)≤x3_1 := q7; have h1:x3_1<(t3.length:Int) := q8; omega))) ?_
  obtain ⟨t11,hc12,H⟩ := bind_some H
  refine ls_callb (fid:=56) (vals:=#[.int .u64 ((t3).getD (x3_1).toNat (0:Int)),.bool false]) (X:=Unit) (fun x=>.int .u32 t11) (fun x=>stl []) [] [] [] [] 3 rfl rfl (by kernel_rfl) (fun w=>by kernel_rfl) trivial trivial (by decide) (fun w hs hb=>shadowboxref03_root.calls k1 ((t3).getD (x3_1).toNat (0:Int)) false t11 (lent b w [] []) hb  hc12) ?_
  intro x13
  refine lv (.pointer (some ⟨g2,(0+0),none⟩)) ?_
  refine ls_idxa1 (g:=g2) (off:=(0+0)) (i:=x3_1) (kk:=.i64) (ln:=8) (e:=23) rfl rfl (by kernel_rfl) rfl (by kernel_rfl) (by kernel_rfl) (by kernel_rfl) (by kernel_rfl) q7 q6 ?_
  obtain ⟨y14,hy15,H⟩ := lt_some H
  refine ls_storec (g:=g2) (off:=((0+0)+(x3_1).toNat)) (v:=.int .u32 t11) (vs:=[Value.int .u32 t11]) (cs:=(en (Value.int .u32) m1_1.1.1++[Value.int .u64 m1_1.2])) (ty:=74) 1 rfl rfl rfl (by kernel_rfl) (by kernel_rfl) (by kernel_rfl) (by exact rfl) (by kernel_rfl) (len1 _) (one_cons rfl one_nil) (hl_of (Sub4.trans (Sub4.trans (Sub4.all _) (Sub4.head _ _)) (Sub4.one (i:=(x3_1).toNat) (Value.int .u32) m1_1.1.1 0 (by have := m1_1.1.2; omega))) (len_eq (len1 _) (len1 _))) (cs' := (en (Value.int .u32) y14.1++[Value.int .u64 m1_1.2])) (splc_in (Sub4.trans (Sub4.all _) (Sub4.head _ _)) ((splc_one (Value.int .u32) m1_1.1.1 t11 (by have := m1_1.1.2; omega)).trans (congrArg (fun z:(Vc Int 8)=>en (Value.int .u32) z.1) hy15)) (splc_in (Sub4.all _) (splc_head (len_eq (len_en _ y14) (len_en _ m1_1.1))) (splc_all (len_eq (len_app (len_en _ y14) (len1 _)) (len_app (len_en _ m1_1.1) (len1 _)))) (hl_of (Sub4.head _ _) (len_eq (len_en _ y14) (len_en _ m1_1.1)))) (hl_of (Sub4.one (i:=(x3_1).toNat) (Value.int .u32) m1_1.1.1 0 (by have := m1_1.1.2; omega)) (len_eq (len1 _) (len1 _)))) ?_
  refine ls_end ?_
  refine qn_block ?_
  refine qn_then ?_
  refine cs_region (l:=[_,_,_]) ?_
  refine lv (.int .i64 x3_1) ?_
  refine lv (.int .i64 (IntKind.wrap .i64 (x3_1+(1:Int)))) ?_
  refine lv (.int .i64 (IntKind.wrap .i64 (x3_1+(1:Int)))) ?_
  refine ls_end ?_
  refine qn_again k1 (sput (sput (sput s0 0 (some (Ck.var 74 g1 ((en (Value.int .u32) (vrep 8 (0:Int)).1++[Value.int .u64 (0:Int)]))))) 1 (some (Ck.var 74 g2 ((en (Value.int .u32) y14.1++[Value.int .u64 m1_1.2]))))) 2 (some (Ck.sl (Ec.int 72 .u64) x5.1 x5.2 t3))) (Nat.le_refl _) ⟨_,(IntKind.wrap .i64 (x3_1+(1:Int))),(y14,m1_1.2),fr_next (fr_next (fr_next (fr_next (rfl) (by kernel_rfl)) (by kernel_rfl)) (by kernel_rfl)) (by kernel_rfl),rfl,H⟩ (sub_put (by exact rfl) (sub_put (by exact rfl) (sub_put (by exact rfl) (sub_nil _))))
 replace H := ite_f q6 H
 refine cs_know (c:=false) (dec_f q6) 7 (by kernel_rfl) ?_
 refine cs_false (by kernel_rfl) ?_
 refine cs_exit' ?_
 refine qx_then ?_
 refine qx_then ?_
 refine qx_same ?_
 refine qn_then ?_
 refine cs_seq ?_
 refine cs_region (l:=[_,_]) ?_
 refine ls_loadagg (a:=⟨g2,0,none⟩) (sub:=(en (Value.int .u32) m1_1.1.1++[Value.int .u64 m1_1.2])) rfl rfl (by kernel_rfl) rfl (by kernel_rfl) (by kernel_rfl) (by kernel_rfl) (len_app (len_en _ m1_1.1) (len1 _)) (fun w hs=>(hs.vars (k:=1) (by exact rfl) (Sub4.all _))) ?_
 refine ls_storec (g:=g1) (off:=0) (v:=.agg ⟨(en (Value.int .u32) m1_1.1.1++[Value.int .u64 m1_1.2])⟩) (vs:=(en (Value.int .u32) m1_1.1.1++[Value.int .u64 m1_1.2])) (cs:=(en (Value.int .u32) (vrep 8 (0:Int)).1++[Value.int .u64 (0:Int)])) (ty:=74) 0 rfl rfl rfl (by kernel_rfl) (by kernel_rfl) (by kernel_rfl) (by exact rfl) (by kernel_rfl) (len_app (len_en _ m1_1.1) (len1 _)) (one_app (one_en (fun _=>rfl) _) (one_cons rfl one_nil)) (hl_of (Sub4.all _) (len_eq (len_app (len_en _ m1_1.1) (len1 _)) (len_app (len_en _ (vrep 8 (0:Int))) (len1 _)))) (cs' := (en (Value.int .u32) m1_1.1.1++[Value.int .u64 m1_1.2])) (splc_all (len_eq (len_app (len_en _ m1_1.1) (len1 _)) (len_app (len_en _ (vrep 8 (0:Int))) (len1 _)))) ?_
 refine ls_end ?_
 refine qn_then ?_
 refine cs_ret' ?_
 obtain rfl := Option.some.inj H
 refine qr_res (rs:=[_]) rfl (fun w' hs=>⟨[.agg ⟨(en (Value.int .u32) m1_1.1.1++[Value.int .u64 m1_1.2])⟩],(.cell (by kernel_rfl) (run_cellres (by kernel_rfl) (by kernel_rfl) (len_app (len_en _ m1_1.1) (len1 _)) (hs.holds 0 _ (by exact rfl))) (.nil)),(),rfl,hs.pick (ts:=[]) (cs:=[]) trivial (by decide)⟩)

/-! ### shadowbox/shadowboxref03.rotr: function 57 -/
def shadowboxref03_rotr.f (k:Nat) (a0:Int) (a1:Int):Option (Int) :=
  (if 0≤a1 then (if 0≤IntKind.wrap .u64 ((32:Int) - a1) then lt (shlv .u32 a0 (IntKind.wrap .u64 ((32:Int) - a1))) fun y3=>some (bits .or .u32 (shrv .u32 a0 a1) y3) else none) else none)
set_option maxRecDepth 100000 in
set_option maxHeartbeats 4000000 in
theorem shadowboxref03_rotr.calls (k:Nat) (a0:Int) (a1:Int) (r:Int) (b:Bs) (hs0:St b (stl []) b.w) (H:shadowboxref03_rotr.f k a0 a1=some r) :
    Calls Try.prog 57 #[.int .u32 a0,.int .u64 a1] b.w fun e w'=>∃ x:Unit,e=.returned (.int .u32 r)∧St b (stl []) w' := by
 unfold shadowboxref03_rotr.f at H
 refine enterb (n:=13) Try.func57 rfl (by kernel_rfl) (by kernel_rfl) hs0 ?_
 refine cs_sub (s0) (sub_nil _) ?_
 refine cs_seq ?_
 refine cs_region (l:=[_]) ?_
 refine lv (.int .u32 (0:Int)) ?_
 refine ls_end ?_
 refine qn_then ?_
 refine cs_seq ?_
 refine cs_region (l:=[_,_,_,_,_,_,_,_,_]) ?_
 refine lv (.int .u32 a0) ?_
 refine lv (.int .u64 a1) ?_
 obtain ⟨q1,H⟩ := ite_need H
 refine ls_shiftr (k:=.u32) (yk:=.u64) (x:=a0) (y:=a1) rfl rfl (by kernel_rfl) (fun w=>by kernel_rfl) q1 ?_
 refine lv (.int .u32 a0) ?_
 refine lv (.int .u64 a1) ?_
 refine lv (.int .u64 (IntKind.wrap .u64 ((32:Int) - a1))) ?_
 obtain ⟨q2,H⟩ := ite_need H
 obtain ⟨y3,hy4,H⟩ := lt_some H
 refine ls_shiftl (k:=.u32) (yk:=.u64) (x:=a0) (y:=(IntKind.wrap .u64 ((32:Int) - a1))) rfl rfl (by kernel_rfl) (fun w=>by kernel_rfl) q2 ?_
 refine ls_ren 11 (v:=.int .u32 (shlv .u32 a0 (IntKind.wrap .u64 ((32:Int) - a1)))) (v' := .int .u32 y3) (by kernel_rfl) (by rw [hy4]) ?_
 refine lv (.int .u32 (bits .or .u32 (shrv .u32 a0 a1) y3)) ?_
 refine lv (.int .u32 (bits .or .u32 (shrv .u32 a0 a1) y3)) ?_
 refine ls_end ?_
 refine qn_then ?_
 refine cs_ret' ?_
 obtain rfl := Option.some.inj H
 refine qr_res (rs:=[_]) rfl (fun w' hs=>⟨[.int .u32 (bits .or .u32 (shrv .u32 a0 a1) y3)],(res_tmp (by kernel_rfl) (.nil)),(),rfl,hs.pick (ts:=[]) (cs:=[]) trivial (by decide)⟩)

end Go.Proofs.Ytbidihabicgedaa.G
