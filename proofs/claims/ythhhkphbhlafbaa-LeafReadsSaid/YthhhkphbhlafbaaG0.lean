/- Printed by a program of this session (sz.py): plain functions, and walks that show that the code comes to them; no condition. -/
import Derived.Test.YthhhkphbhlafbaaProg
import Derived.Test.YthhhkphbhlafbaaTy
set_option linter.unusedVariables false
set_option linter.unusedSimpArgs false
namespace Go.Proofs.Ythhhkphbhlafbaa.G
open Go Go.RowKit Go.Proofs.Ythhhkphbhlafbaa.Sx
set_option maxRecDepth 100000
set_option maxHeartbeats 4000000
def bits_Len64.cst0:ByteArray := (⟨#[0,1,2,2,3,3,3,3,4,4,4,4,4,4,4,4,5,5,5,5,5,5,5,5,5,5,5,5,5,5,5,5,6,6,6,6,6,6,6,6,6,6,6,6,6,6,6,6,6,6,6,6,6,6,6,6,6,6,6,6,6,6,6,6,7,7,7,7,7,7,7,7,7,7,7,7,7,7,7,7,7,7,7,7,7,7,7,7,7,7,7,7,7,7,7,7,7,7,7,7,7,7,7,7,7,7,7,7,7,7,7,7,7,7,7,7,7,7,7,7,7,7,7,7,7,7,7,7,8,8,8,8,8,8,8,8,8,8,8,8,8,8,8,8,8,8,8,8,8,8,8,8,8,8,8,8,8,8,8,8,8,8,8,8,8,8,8,8,8,8,8,8,8,8,8,8,8,8,8,8,8,8,8,8,8,8,8,8,8,8,8,8,8,8,8,8,8,8,8,8,8,8,8,8,8,8,8,8,8,8,8,8,8,8,8,8,8,8,8,8,8,8,8,8,8,8,8,8,8,8,8,8,8,8,8,8,8,8,8,8,8,8,8,8,8,8,8,8,8,8,8,8,8,8,8,8]⟩:ByteArray)
def bits_Len64.f (k:Nat) (a0:Int):Option (Int) :=
  (if a0≥(4294967296:Int) then (if (Int.fdiv a0 4294967296)≥(65536:Int) then lt (IntKind.wrap .i64 ((32:Int)+(16:Int))) fun y3=>(if (Int.fdiv (Int.fdiv a0 4294967296) 65536)≥(256:Int) then lt (Int.fdiv (Int.fdiv (Int.fdiv a0 4294967296) 65536) 256) fun y6=>(if 0≤IntKind.wrap .u8 y6 then (if IntKind.wrap .u8 y6<(bits_Len64.cst0.size:Int) then lt (IntKind.wrap .i64 (bt bits_Len64.cst0 (IntKind.wrap .u8 y6))) fun y10=>lt (IntKind.wrap .i64 ((IntKind.wrap .i64 (y3+(8:Int)))+y10)) fun y12=>some y12 else none) else none) else lt (IntKind.wrap .u8 (Int.fdiv (Int.fdiv a0 4294967296) 65536)) fun y14=>(if 0≤y14 then (if y14<(bits_Len64.cst0.size:Int) then lt (IntKind.wrap .i64 (bt bits_Len64.cst0 y14)) fun y18=>some (IntKind.wrap .i64 (y3+y18)) else none) else none)) else (if (Int.fdiv a0 4294967296)≥(256:Int) then lt (IntKind.wrap .i64 ((32:Int)+(8:Int))) fun y21=>lt (IntKind.wrap .u8 (Int.fdiv (Int.fdiv a0 4294967296) 256)) fun y23=>(if 0≤y23 then (if y23<(bits_Len64.cst0.size:Int) then lt (IntKind.wrap .i64 (bt bits_Len64.cst0 y23)) fun y27=>some (IntKind.wrap .i64 (y21+y27)) else none) else none) else lt (IntKind.wrap .u8 (Int.fdiv a0 4294967296)) fun y29=>(if 0≤y29 then (if y29<(bits_Len64.cst0.size:Int) then lt (IntKind.wrap .i64 (bt bits_Len64.cst0 y29)) fun y33=>some (IntKind.wrap .i64 ((32:Int)+y33)) else none) else none))) else (if a0≥(65536:Int) then lt (IntKind.wrap .i64 ((0:Int)+(16:Int))) fun y36=>(if (Int.fdiv a0 65536)≥(256:Int) then lt (IntKind.wrap .u8 (Int.fdiv (Int.fdiv a0 65536) 256)) fun y39=>(if 0≤y39 then (if y39<(bits_Len64.cst0.size:Int) then lt (IntKind.wrap .i64 (bt bits_Len64.cst0 y39)) fun y43=>lt (IntKind.wrap .i64 ((IntKind.wrap .i64 (y36+(8:Int)))+y43)) fun y45=>some y45 else none) else none) else (if 0≤IntKind.wrap .u8 (Int.fdiv a0 65536) then (if IntKind.wrap .u8 (Int.fdiv a0 65536)<(bits_Len64.cst0.size:Int) then lt (bt bits_Len64.cst0 (IntKind.wrap .u8 (Int.fdiv a0 65536))) fun y49=>lt (IntKind.wrap .i64 (y36+(IntKind.wrap .i64 y49))) fun y51=>some y51 else none) else none)) else (if a0≥(256:Int) then lt (IntKind.wrap .i64 ((0:Int)+(8:Int))) fun y54=>(if 0≤IntKind.wrap .u8 (Int.fdiv a0 256) then (if IntKind.wrap .u8 (Int.fdiv a0 256)<(bits_Len64.cst0.size:Int) then lt (bt bits_Len64.cst0 (IntKind.wrap .u8 (Int.fdiv a0 256))) fun y58=>lt (IntKind.wrap .i64 (y54+(IntKind.wrap .i64 y58))) fun y60=>some y60 else none) else none) else (if 0≤IntKind.wrap .u8 a0 then (if IntKind.wrap .u8 a0<(bits_Len64.cst0.size:Int) then lt (IntKind.wrap .i64 (bt bits_Len64.cst0 (IntKind.wrap .u8 a0))) fun y64=>some (IntKind.wrap .i64 ((0:Int)+y64)) else none) else none))))
theorem bits_Len64.calls (k:Nat) (a0:Int) (r:Int) (b:Bs) (hs0:St b (stl []) b.w) (H:bits_Len64.f k a0=some r) :
    Calls Try.prog 87 #[.int .u64 a0] b.w fun e w'=>∃ x:Unit,e=.returned (.int .i64 r)∧St b (stl []) w' := by
 unfold bits_Len64.f at H
 refine enterb (n:=25) Try.func87 rfl (by kernel_rfl) (by kernel_rfl) hs0 ?_
 refine cs_sub (s0) (sub_nil _) ?_
 refine cs_seq ?_
 refine cs_region (l:=[_]) ?_
 refine lv (.int .i64 (0:Int)) ?_
 refine ls_end ?_
 refine qn_then ?_
 refine cs_seq ?_
 refine cs_seq ?_
 refine cs_region (l:=[_,_]) ?_
 refine lv (.int .u64 a0) ?_
 refine lv (.bool (decide (a0≥(4294967296:Int)))) ?_
 refine ls_end ?_
 refine qn_then ?_
 by_cases q1:a0≥(4294967296:Int)
 ·replace H := ite_t q1 H
  refine cs_know (c:=true) (dec_t q1) 4 (by kernel_rfl) ?_
  refine cs_true (by kernel_rfl) ?_
  refine cs_seq ?_
  refine cs_region (l:=[_,_,_]) ?_
  refine lv (.int .u64 a0) ?_
  refine lv (.int .u64 (Int.fdiv a0 4294967296)) ?_
  refine lv (.int .u64 (Int.fdiv a0 4294967296)) ?_
  refine ls_end ?_
  refine qn_then ?_
  refine cs_region (l:=[_]) ?_
  refine lv (.int .i64 (32:Int)) ?_
  refine ls_end ?_
  refine qn_then ?_
  refine cs_seq ?_
  refine cs_seq ?_
  refine cs_region (l:=[_,_]) ?_
  refine lv (.int .u64 (Int.fdiv a0 4294967296)) ?_
  refine lv (.bool (decide ((Int.fdiv a0 4294967296)≥(65536:Int)))) ?_
  refine ls_end ?_
  refine qn_then ?_
  by_cases q2:(Int.fdiv a0 4294967296)≥(65536:Int)
  ·replace H := ite_t q2 H
   refine cs_know (c:=true) (dec_t q2) 8 (by kernel_rfl) ?_
   refine cs_true (by kernel_rfl) ?_
   refine cs_seq ?_
   refine cs_region (l:=[_,_,_]) ?_
   refine lv (.int .u64 (Int.fdiv a0 4294967296)) ?_
   refine lv (.int .u64 (Int.fdiv (Int.fdiv a0 4294967296) 65536)) ?_
   refine lv (.int .u64 (Int.fdiv (Int.fdiv a0 4294967296) 65536)) ?_
   refine ls_end ?_
   refine qn_then ?_
   refine cs_region (l:=[_,_,_]) ?_
   refine lv (.int .i64 (32:Int)) ?_
   obtain ⟨y3,hy4,H⟩ := lt_some H
   refine lv (.int .i64 (IntKind.wrap .i64 ((32:Int)+(16:Int)))) ?_
   refine ls_ren 12 (v:=.int .i64 (IntKind.wrap .i64 ((32:Int)+(16:Int)))) (v' := .int .i64 y3) (by kernel_rfl) (by rw [hy4]) ?_
   refine lv (.int .i64 y3) ?_
   refine ls_end ?_
   refine qn_then ?_
   refine cs_seq ?_
   refine cs_seq ?_
   refine cs_region (l:=[_,_]) ?_
   refine lv (.int .u64 (Int.fdiv (Int.fdiv a0 4294967296) 65536)) ?_
   refine lv (.bool (decide ((Int.fdiv (Int.fdiv a0 4294967296) 65536)≥(256:Int)))) ?_
   refine ls_end ?_
   refine qn_then ?_
   by_cases q5:(Int.fdiv (Int.fdiv a0 4294967296) 65536)≥(256:Int)
   ·replace H := ite_t q5 H
    refine cs_know (c:=true) (dec_t q5) 14 (by kernel_rfl) ?_
    refine cs_true (by kernel_rfl) ?_
    refine cs_seq ?_
    refine cs_region (l:=[_,_,_]) ?_
    refine lv (.int .u64 (Int.fdiv (Int.fdiv a0 4294967296) 65536)) ?_
    obtain ⟨y6,hy7,H⟩ := lt_some H
    refine lv (.int .u64 (Int.fdiv (Int.fdiv (Int.fdiv a0 4294967296) 65536) 256)) ?_
    refine ls_ren 16 (v:=.int .u64 (Int.fdiv (Int.fdiv (Int.fdiv a0 4294967296) 65536) 256)) (v' := .int .u64 y6) (by kernel_rfl) (by rw [hy7]) ?_
    refine lv (.int .u64 y6) ?_
    refine ls_end ?_
    refine qn_then ?_
    refine cs_region (l:=[_,_,_]) ?_
    refine lv (.int .i64 y3) ?_
    refine lv (.int .i64 (IntKind.wrap .i64 (y3+(8:Int)))) ?_
    refine lv (.int .i64 (IntKind.wrap .i64 (y3+(8:Int)))) ?_
    refine ls_end ?_
    refine qn_then ?_
    refine cs_seq ?_
    refine cs_region (l:=[_,_,_,_,_,_,_]) ?_
    refine lv (.int .i64 (IntKind.wrap .i64 (y3+(8:Int)))) ?_
    refine lv (.int .u64 y6) ?_
    refine lv (.int .u8 (IntKind.wrap .u8 y6)) ?_
    obtain ⟨q8,H⟩ := ite_need H
    obtain ⟨q9,H⟩ := ite_need H
    refine ls_sidx (s:=bits_Len64.cst0) (k:=.u8) (i:=IntKind.wrap .u8 y6) rfl rfl (by kernel_rfl) rfl (by kernel_rfl) (by kernel_rfl) (by kernel_rfl) q8 q9 ?_
    obtain ⟨y10,hy11,H⟩ := lt_some H
    refine lv (.int .i64 (IntKind.wrap .i64 (bt bits_Len64.cst0 (IntKind.wrap .u8 y6)))) ?_
    refine ls_ren 23 (v:=.int .i64 (IntKind.wrap .i64 (bt bits_Len64.cst0 (IntKind.wrap .u8 y6)))) (v' := .int .i64 y10) (by kernel_rfl) (by rw [hy11]) ?_
    obtain ⟨y12,hy13,H⟩ := lt_some H
    refine lv (.int .i64 (IntKind.wrap .i64 ((IntKind.wrap .i64 (y3+(8:Int)))+y10))) ?_
    refine ls_ren 24 (v:=.int .i64 (IntKind.wrap .i64 ((IntKind.wrap .i64 (y3+(8:Int)))+y10))) (v' := .int .i64 y12) (by kernel_rfl) (by rw [hy13]) ?_
    refine lv (.int .i64 y12) ?_
    refine ls_end ?_
    refine qn_then ?_
    refine cs_ret' ?_
    obtain rfl := Option.some.inj H
    refine qr_res (rs:=[_]) rfl (fun w' hs=>⟨[.int .i64 y12],(res_tmp (by kernel_rfl) (.nil)),(),rfl,hs.pick (ts:=[]) (cs:=[]) trivial (by decide)⟩)
   replace H := ite_f q5 H
   refine cs_know (c:=false) (dec_f q5) 14 (by kernel_rfl) ?_
   refine cs_false (by kernel_rfl) ?_
   refine cs_skip' ?_
   refine qn_then ?_
   refine cs_seq ?_
   refine cs_region (l:=[_,_,_,_,_,_,_]) ?_
   refine lv (.int .i64 y3) ?_
   refine lv (.int .u64 (Int.fdiv (Int.fdiv a0 4294967296) 65536)) ?_
   obtain ⟨y14,hy15,H⟩ := lt_some H
   refine lv (.int .u8 (IntKind.wrap .u8 (Int.fdiv (Int.fdiv a0 4294967296) 65536))) ?_
   refine ls_ren 21 (v:=.int .u8 (IntKind.wrap .u8 (Int.fdiv (Int.fdiv a0 4294967296) 65536))) (v' := .int .u8 y14) (by kernel_rfl) (by rw [hy15]) ?_
   obtain ⟨q16,H⟩ := ite_need H
   obtain ⟨q17,H⟩ := ite_need H
   refine ls_sidx (s:=bits_Len64.cst0) (k:=.u8) (i:=y14) rfl rfl (by kernel_rfl) rfl (by kernel_rfl) (by kernel_rfl) (by kernel_rfl) q16 q17 ?_
   obtain ⟨y18,hy19,H⟩ := lt_some H
   refine lv (.int .i64 (IntKind.wrap .i64 (bt bits_Len64.cst0 y14))) ?_
   refine ls_ren 23 (v:=.int .i64 (IntKind.wrap .i64 (bt bits_Len64.cst0 y14))) (v' := .int .i64 y18) (by kernel_rfl) (by rw [hy19]) ?_
   refine lv (.int .i64 (IntKind.wrap .i64 (y3+y18))) ?_
   refine lv (.int .i64 (IntKind.wrap .i64 (y3+y18))) ?_
   refine ls_end ?_
   refine qn_then ?_
   refine cs_ret' ?_
   obtain rfl := Option.some.inj H
   refine qr_res (rs:=[_]) rfl (fun w' hs=>⟨[.int .i64 (IntKind.wrap .i64 (y3+y18))],(res_tmp (by kernel_rfl) (.nil)),(),rfl,hs.pick (ts:=[]) (cs:=[]) trivial (by decide)⟩)
  replace H := ite_f q2 H
  refine cs_know (c:=false) (dec_f q2) 8 (by kernel_rfl) ?_
  refine cs_false (by kernel_rfl) ?_
  refine cs_skip' ?_
  refine qn_then ?_
  refine cs_seq ?_
  refine cs_seq ?_
  refine cs_region (l:=[_,_]) ?_
  refine lv (.int .u64 (Int.fdiv a0 4294967296)) ?_
  refine lv (.bool (decide ((Int.fdiv a0 4294967296)≥(256:Int)))) ?_
  refine ls_end ?_
  refine qn_then ?_
  by_cases q20:(Int.fdiv a0 4294967296)≥(256:Int)
  ·replace H := ite_t q20 H
   refine cs_know (c:=true) (dec_t q20) 14 (by kernel_rfl) ?_
   refine cs_true (by kernel_rfl) ?_
   refine cs_seq ?_
   refine cs_region (l:=[_,_,_]) ?_
   refine lv (.int .u64 (Int.fdiv a0 4294967296)) ?_
   refine lv (.int .u64 (Int.fdiv (Int.fdiv a0 4294967296) 256)) ?_
   refine lv (.int .u64 (Int.fdiv (Int.fdiv a0 4294967296) 256)) ?_
   refine ls_end ?_
   refine qn_then ?_
   refine cs_region (l:=[_,_,_]) ?_
   refine lv (.int .i64 (32:Int)) ?_
   obtain ⟨y21,hy22,H⟩ := lt_some H
   refine lv (.int .i64 (IntKind.wrap .i64 ((32:Int)+(8:Int)))) ?_
   refine ls_ren 18 (v:=.int .i64 (IntKind.wrap .i64 ((32:Int)+(8:Int)))) (v' := .int .i64 y21) (by kernel_rfl) (by rw [hy22]) ?_
   refine lv (.int .i64 y21) ?_
   refine ls_end ?_
   refine qn_then ?_
   refine cs_seq ?_
   refine cs_region (l:=[_,_,_,_,_,_,_]) ?_
   refine lv (.int .i64 y21) ?_
   refine lv (.int .u64 (Int.fdiv (Int.fdiv a0 4294967296) 256)) ?_
   obtain ⟨y23,hy24,H⟩ := lt_some H
   refine lv (.int .u8 (IntKind.wrap .u8 (Int.fdiv (Int.fdiv a0 4294967296) 256))) ?_
   refine ls_ren 21 (v:=.int .u8 (IntKind.wrap .u8 (Int.fdiv (Int.fdiv a0 4294967296) 256))) (v' := .int .u8 y23) (by kernel_rfl) (by rw [hy24]) ?_
   obtain ⟨q25,H⟩ := ite_need H
   obtain ⟨q26,H⟩ := ite_need H
   refine ls_sidx (s:=bits_Len64.cst0) (k:=.u8) (i:=y23) rfl rfl (by kernel_rfl) rfl (by kernel_rfl) (by kernel_rfl) (by kernel_rfl) q25 q26 ?_
   obtain ⟨y27,hy28,H⟩ := lt_some H
   refine lv (.int .i64 (IntKind.wrap .i64 (bt bits_Len64.cst0 y23))) ?_
   refine ls_ren 23 (v:=.int .i64 (IntKind.wrap .i64 (bt bits_Len64.cst0 y23))) (v' := .int .i64 y27) (by kernel_rfl) (by rw [hy28]) ?_
   refine lv (.int .i64 (IntKind.wrap .i64 (y21+y27))) ?_
   refine lv (.int .i64 (IntKind.wrap .i64 (y21+y27))) ?_
   refine ls_end ?_
   refine qn_then ?_
   refine cs_ret' ?_
   obtain rfl := Option.some.inj H
   refine qr_res (rs:=[_]) rfl (fun w' hs=>⟨[.int .i64 (IntKind.wrap .i64 (y21+y27))],(res_tmp (by kernel_rfl) (.nil)),(),rfl,hs.pick (ts:=[]) (cs:=[]) trivial (by decide)⟩)
  replace H := ite_f q20 H
  refine cs_know (c:=false) (dec_f q20) 14 (by kernel_rfl) ?_
  refine cs_false (by kernel_rfl) ?_
  refine cs_skip' ?_
  refine qn_then ?_
  refine cs_seq ?_
  refine cs_region (l:=[_,_,_,_,_,_,_]) ?_
  refine lv (.int .i64 (32:Int)) ?_
  refine lv (.int .u64 (Int.fdiv a0 4294967296)) ?_
  obtain ⟨y29,hy30,H⟩ := lt_some H
  refine lv (.int .u8 (IntKind.wrap .u8 (Int.fdiv a0 4294967296))) ?_
  refine ls_ren 21 (v:=.int .u8 (IntKind.wrap .u8 (Int.fdiv a0 4294967296))) (v' := .int .u8 y29) (by kernel_rfl) (by rw [hy30]) ?_
  obtain ⟨q31,H⟩ := ite_need H
  obtain ⟨q32,H⟩ := ite_need H
  refine ls_sidx (s:=bits_Len64.cst0) (k:=.u8) (i:=y29) rfl rfl (by kernel_rfl) rfl (by kernel_rfl) (by kernel_rfl) (by kernel_rfl) q31 q32 ?_
  obtain ⟨y33,hy34,H⟩ := lt_some H
  refine lv (.int .i64 (IntKind.wrap .i64 (bt bits_Len64.cst0 y29))) ?_
  refine ls_ren 23 (v:=.int .i64 (IntKind.wrap .i64 (bt bits_Len64.cst0 y29))) (v' := .int .i64 y33) (by kernel_rfl) (by rw [hy34]) ?_
  refine lv (.int .i64 (IntKind.wrap .i64 ((32:Int)+y33))) ?_
  refine lv (.int .i64 (IntKind.wrap .i64 ((32:Int)+y33))) ?_
  refine ls_end ?_
  refine qn_then ?_
  refine cs_ret' ?_
  obtain rfl := Option.some.inj H
  refine qr_res (rs:=[_]) rfl (fun w' hs=>⟨[.int .i64 (IntKind.wrap .i64 ((32:Int)+y33))],(res_tmp (by kernel_rfl) (.nil)),(),rfl,hs.pick (ts:=[]) (cs:=[]) trivial (by decide)⟩)
 replace H := ite_f q1 H
 refine cs_know (c:=false) (dec_f q1) 4 (by kernel_rfl) ?_
 refine cs_false (by kernel_rfl) ?_
 refine cs_skip' ?_
 refine qn_then ?_
 refine cs_seq ?_
 refine cs_seq ?_
 refine cs_region (l:=[_,_]) ?_
 refine lv (.int .u64 a0) ?_
 refine lv (.bool (decide (a0≥(65536:Int)))) ?_
 refine ls_end ?_
 refine qn_then ?_
 by_cases q35:a0≥(65536:Int)
 ·replace H := ite_t q35 H
  refine cs_know (c:=true) (dec_t q35) 8 (by kernel_rfl) ?_
  refine cs_true (by kernel_rfl) ?_
  refine cs_seq ?_
  refine cs_region (l:=[_,_,_]) ?_
  refine lv (.int .u64 a0) ?_
  refine lv (.int .u64 (Int.fdiv a0 65536)) ?_
  refine lv (.int .u64 (Int.fdiv a0 65536)) ?_
  refine ls_end ?_
  refine qn_then ?_
  refine cs_region (l:=[_,_,_]) ?_
  refine lv (.int .i64 (0:Int)) ?_
  obtain ⟨y36,hy37,H⟩ := lt_some H
  refine lv (.int .i64 (IntKind.wrap .i64 ((0:Int)+(16:Int)))) ?_
  refine ls_ren 12 (v:=.int .i64 (IntKind.wrap .i64 ((0:Int)+(16:Int)))) (v' := .int .i64 y36) (by kernel_rfl) (by rw [hy37]) ?_
  refine lv (.int .i64 y36) ?_
  refine ls_end ?_
  refine qn_then ?_
  refine cs_seq ?_
  refine cs_seq ?_
  refine cs_region (l:=[_,_]) ?_
  refine lv (.int .u64 (Int.fdiv a0 65536)) ?_
  refine lv (.bool (decide ((Int.fdiv a0 65536)≥(256:Int)))) ?_
  refine ls_end ?_
  refine qn_then ?_
  by_cases q38:(Int.fdiv a0 65536)≥(256:Int)
  ·replace H := ite_t q38 H
   refine cs_know (c:=true) (dec_t q38) 14 (by kernel_rfl) ?_
   refine cs_true (by kernel_rfl) ?_
   refine cs_seq ?_
   refine cs_region (l:=[_,_,_]) ?_
   refine lv (.int .u64 (Int.fdiv a0 65536)) ?_
   refine lv (.int .u64 (Int.fdiv (Int.fdiv a0 65536) 256)) ?_
   refine lv (.int .u64 (Int.fdiv (Int.fdiv a0 65536) 256)) ?_
   refine ls_end ?_
   refine qn_then ?_
   refine cs_region (l:=[_,_,_]) ?_
   refine lv (.int .i64 y36) ?_
   refine lv (.int .i64 (IntKind.wrap .i64 (y36+(8:Int)))) ?_
   refine lv (.int .i64 (IntKind.wrap .i64 (y36+(8:Int)))) ?_
   refine ls_end ?_
   refine qn_then ?_
   refine cs_seq ?_
   refine cs_region (l:=[_,_,_,_,_,_,_]) ?_
   refine lv (.int .i64 (IntKind.wrap .i64 (y36+(8:Int)))) ?_
   refine lv (.int .u64 (Int.fdiv (Int.fdiv a0 65536) 256)) ?_
   obtain ⟨y39,hy40,H⟩ := lt_some H
   refine lv (.int .u8 (IntKind.wrap .u8 (Int.fdiv (Int.fdiv a0 65536) 256))) ?_
   refine ls_ren 21 (v:=.int .u8 (IntKind.wrap .u8 (Int.fdiv (Int.fdiv a0 65536) 256))) (v' := .int .u8 y39) (by kernel_rfl) (by rw [hy40]) ?_
   obtain ⟨q41,H⟩ := ite_need H
   obtain ⟨q42,H⟩ := ite_need H
   refine ls_sidx (s:=bits_Len64.cst0) (k:=.u8) (i:=y39) rfl rfl (by kernel_rfl) rfl (by kernel_rfl) (by kernel_rfl) (by kernel_rfl) q41 q42 ?_
   obtain ⟨y43,hy44,H⟩ := lt_some H
   refine lv (.int .i64 (IntKind.wrap .i64 (bt bits_Len64.cst0 y39))) ?_
   refine ls_ren 23 (v:=.int .i64 (IntKind.wrap .i64 (bt bits_Len64.cst0 y39))) (v' := .int .i64 y43) (by kernel_rfl) (by rw [hy44]) ?_
   obtain ⟨y45,hy46,H⟩ := lt_some H
   refine lv (.int .i64 (IntKind.wrap .i64 ((IntKind.wrap .i64 (y36+(8:Int)))+y43))) ?_
   refine ls_ren 24 (v:=.int .i64 (IntKind.wrap .i64 ((IntKind.wrap .i64 (y36+(8:Int)))+y43))) (v' := .int .i64 y45) (by kernel_rfl) (by rw [hy46]) ?_
   refine lv (.int .i64 y45) ?_
   refine ls_end ?_
   refine qn_then ?_
   refine cs_ret' ?_
   obtain rfl := Option.some.inj H
   refine qr_res (rs:=[_]) rfl (fun w' hs=>⟨[.int .i64 y45],(res_tmp (by kernel_rfl) (.nil)),(),rfl,hs.pick (ts:=[]) (cs:=[]) trivial (by decide)⟩)
  replace H := ite_f q38 H
  refine cs_know (c:=false) (dec_f q38) 14 (by kernel_rfl) ?_
  refine cs_false (by kernel_rfl) ?_
  refine cs_skip' ?_
  refine qn_then ?_
  refine cs_seq ?_
  refine cs_region (l:=[_,_,_,_,_,_,_]) ?_
  refine lv (.int .i64 y36) ?_
  refine lv (.int .u64 (Int.fdiv a0 65536)) ?_
  refine lv (.int .u8 (IntKind.wrap .u8 (Int.fdiv a0 65536))) ?_
  obtain ⟨q47,H⟩ := ite_need H
  obtain ⟨q48,H⟩ := ite_need H
  obtain ⟨y49,hy50,H⟩ := lt_some H
  refine ls_sidx (s:=bits_Len64.cst0) (k:=.u8) (i:=IntKind.wrap .u8 (Int.fdiv a0 65536)) rfl rfl (by kernel_rfl) rfl (by kernel_rfl) (by kernel_rfl) (by kernel_rfl) q47 q48 ?_
  refine ls_ren 22 (v:=.int .u8 (bt bits_Len64.cst0 (IntKind.wrap .u8 (Int.fdiv a0 65536)))) (v' := .int .u8 y49) (by kernel_rfl) (by rw [hy50]) ?_
  refine lv (.int .i64 (IntKind.wrap .i64 y49)) ?_
  obtain ⟨y51,hy52,H⟩ := lt_some H
  refine lv (.int .i64 (IntKind.wrap .i64 (y36+(IntKind.wrap .i64 y49)))) ?_
  refine ls_ren 24 (v:=.int .i64 (IntKind.wrap .i64 (y36+(IntKind.wrap .i64 y49)))) (v' := .int .i64 y51) (by kernel_rfl) (by rw [hy52]) ?_
  refine lv (.int .i64 y51) ?_
  refine ls_end ?_
  refine qn_then ?_
  refine cs_ret' ?_
  obtain rfl := Option.some.inj H
  refine qr_res (rs:=[_]) rfl (fun w' hs=>⟨[.int .i64 y51],(res_tmp (by kernel_rfl) (.nil)),(),rfl,hs.pick (ts:=[]) (cs:=[]) trivial (by decide)⟩)
 replace H := ite_f q35 H
 refine cs_know (c:=false) (dec_f q35) 8 (by kernel_rfl) ?_
 refine cs_false (by kernel_rfl) ?_
 refine cs_skip' ?_
 refine qn_then ?_
 refine cs_seq ?_
 refine cs_seq ?_
 refine cs_region (l:=[_,_]) ?_
 refine lv (.int .u64 a0) ?_
 refine lv (.bool (decide (a0≥(256:Int)))) ?_
 refine ls_end ?_
 refine qn_then ?_
 by_cases q53:a0≥(256:Int)
 ·replace H := ite_t q53 H
  refine cs_know (c:=true) (dec_t q53) 14 (by kernel_rfl) ?_
  refine cs_true (by kernel_rfl) ?_
  refine cs_seq ?_
  refine cs_region (l:=[_,_,_]) ?_
  refine lv (.int .u64 a0) ?_
  refine lv (.int .u64 (Int.fdiv a0 256)) ?_
  refine lv (.int .u64 (Int.fdiv a0 256)) ?_
  refine ls_end ?_
  refine qn_then ?_
  refine cs_region (l:=[_,_,_]) ?_
  refine lv (.int .i64 (0:Int)) ?_
  obtain ⟨y54,hy55,H⟩ := lt_some H
  refine lv (.int .i64 (IntKind.wrap .i64 ((0:Int)+(8:Int)))) ?_
  refine ls_ren 18 (v:=.int .i64 (IntKind.wrap .i64 ((0:Int)+(8:Int)))) (v' := .int .i64 y54) (by kernel_rfl) (by rw [hy55]) ?_
  refine lv (.int .i64 y54) ?_
  refine ls_end ?_
  refine qn_then ?_
  refine cs_seq ?_
  refine cs_region (l:=[_,_,_,_,_,_,_]) ?_
  refine lv (.int .i64 y54) ?_
  refine lv (.int .u64 (Int.fdiv a0 256)) ?_
  refine lv (.int .u8 (IntKind.wrap .u8 (Int.fdiv a0 256))) ?_
  obtain ⟨q56,H⟩ := ite_need H
  obtain ⟨q57,H⟩ := ite_need H
  obtain ⟨y58,hy59,H⟩ := lt_some H
  refine ls_sidx (s:=bits_Len64.cst0) (k:=.u8) (i:=IntKind.wrap .u8 (Int.fdiv a0 256)) rfl rfl (by kernel_rfl) rfl (by kernel_rfl) (by kernel_rfl) (by kernel_rfl) q56 q57 ?_
  refine ls_ren 22 (v:=.int .u8 (bt bits_Len64.cst0 (IntKind.wrap .u8 (Int.fdiv a0 256)))) (v' := .int .u8 y58) (by kernel_rfl) (by rw [hy59]) ?_
  refine lv (.int .i64 (IntKind.wrap .i64 y58)) ?_
  obtain ⟨y60,hy61,H⟩ := lt_some H
  refine lv (.int .i64 (IntKind.wrap .i64 (y54+(IntKind.wrap .i64 y58)))) ?_
  refine ls_ren 24 (v:=.int .i64 (IntKind.wrap .i64 (y54+(IntKind.wrap .i64 y58)))) (v' := .int .i64 y60) (by kernel_rfl) (by rw [hy61]) ?_
  refine lv (.int .i64 y60) ?_
  refine ls_end ?_
  refine qn_then ?_
  refine cs_ret' ?_
  obtain rfl := Option.some.inj H
  refine qr_res (rs:=[_]) rfl (fun w' hs=>⟨[.int .i64 y60],(res_tmp (by kernel_rfl) (.nil)),(),rfl,hs.pick (ts:=[]) (cs:=[]) trivial (by decide)⟩)
 replace H := ite_f q53 H
 refine cs_know (c:=false) (dec_f q53) 14 (by kernel_rfl) ?_
 refine cs_false (by kernel_rfl) ?_
 refine cs_skip' ?_
 refine qn_then ?_
 refine cs_seq ?_
 refine cs_region (l:=[_,_,_,_,_,_,_]) ?_
 refine lv (.int .i64 (0:Int)) ?_
 refine lv (.int .u64 a0) ?_
 refine lv (.int .u8 (IntKind.wrap .u8 a0)) ?_
 obtain ⟨q62,H⟩ := ite_need H
 obtain ⟨q63,H⟩ := ite_need H
 refine ls_sidx (s:=bits_Len64.cst0) (k:=.u8) (i:=IntKind.wrap .u8 a0) rfl rfl (by kernel_rfl) rfl (by kernel_rfl) (by kernel_rfl) (by kernel_rfl) q62 q63 ?_
 obtain ⟨y64,hy65,H⟩ := lt_some H
 refine lv (.int .i64 (IntKind.wrap .i64 (bt bits_Len64.cst0 (IntKind.wrap .u8 a0)))) ?_
 refine ls_ren 23 (v:=.int .i64 (IntKind.wrap .i64 (bt bits_Len64.cst0 (IntKind.wrap .u8 a0)))) (v' := .int .i64 y64) (by kernel_rfl) (by rw [hy65]) ?_
 refine lv (.int .i64 (IntKind.wrap .i64 ((0:Int)+y64))) ?_
 refine lv (.int .i64 (IntKind.wrap .i64 ((0:Int)+y64))) ?_
 refine ls_end ?_
 refine qn_then ?_
 refine cs_ret' ?_
 obtain rfl := Option.some.inj H
 refine qr_res (rs:=[_]) rfl (fun w' hs=>⟨[.int .i64 (IntKind.wrap .i64 ((0:Int)+y64))],(res_tmp (by kernel_rfl) (.nil)),(),rfl,hs.pick (ts:=[]) (cs:=[]) trivial (by decide)⟩)
def codec_groups.f (k:Nat) (a0:Int):Option (Int) :=
  (bits_Len64.f k a0).bind fun t1=>lt (IntKind.wrap .i64 ((IntKind.wrap .i64 (t1+(7:Int))) - (1:Int))) fun y4=>lt (IntKind.wrap .i64 (Int.tdiv y4 (7:Int))) fun y6=>lt ((if (1:Int)<y6 then y6 else (1:Int))) fun y8=>some y8
theorem codec_groups.calls (k:Nat) (a0:Int) (r:Int) (b:Bs) (hs0:St b (stl []) b.w) (H:codec_groups.f k a0=some r) :
    Calls Try.prog 88 #[.int .u64 a0] b.w fun e w'=>∃ x:Unit,e=.returned (.int .i64 r)∧St b (stl []) w' := by
 unfold codec_groups.f at H
 refine enterb (n:=9) Try.func88 rfl (by kernel_rfl) (by kernel_rfl) hs0 ?_
 refine cs_sub (s0) (sub_nil _) ?_
 refine cs_seq ?_
 refine cs_region (l:=[_]) ?_
 refine lv (.int .i64 (0:Int)) ?_
 refine ls_end ?_
 refine qn_then ?_
 refine cs_seq ?_
 refine cs_region (l:=[_,_,_,_,_,_,_]) ?_
 refine lv (.int .u64 a0) ?_
 obtain ⟨t1,hc2,H⟩ := bind_some H
 refine ls_callb (fid:=87) (vals:=#[.int .u64 a0]) (X:=Unit) (fun x=>.int .i64 t1) (fun x=>stl []) [] [] [] [] 0 rfl rfl (by kernel_rfl) (fun w=>by kernel_rfl) trivial trivial (by decide) (fun w hs hb=>bits_Len64.calls k a0 t1 (lent b w [] []) hb  hc2) ?_
 intro x3
 refine lv (.int .i64 (IntKind.wrap .i64 (t1+(7:Int)))) ?_
 obtain ⟨y4,hy5,H⟩ := lt_some H
 refine lv (.int .i64 (IntKind.wrap .i64 ((IntKind.wrap .i64 (t1+(7:Int))) - (1:Int)))) ?_
 refine ls_ren 6 (v:=.int .i64 (IntKind.wrap .i64 ((IntKind.wrap .i64 (t1+(7:Int))) - (1:Int)))) (v' := .int .i64 y4) (by kernel_rfl) (by rw [hy5]) ?_
 obtain ⟨y6,hy7,H⟩ := lt_some H
 refine lv (.int .i64 (IntKind.wrap .i64 (Int.tdiv y4 (7:Int)))) ?_
 refine ls_ren 7 (v:=.int .i64 (IntKind.wrap .i64 (Int.tdiv y4 (7:Int)))) (v' := .int .i64 y6) (by kernel_rfl) (by rw [hy7]) ?_
 obtain ⟨y8,hy9,H⟩ := lt_some H
 refine lv (.int .i64 (if (1:Int)<y6 then y6 else (1:Int))) ?_
 refine ls_ren 8 (v:=.int .i64 (if (1:Int)<y6 then y6 else (1:Int))) (v' := .int .i64 y8) (by kernel_rfl) (by rw [hy9]) ?_
 refine lv (.int .i64 y8) ?_
 refine ls_end ?_
 refine qn_then ?_
 refine cs_ret' ?_
 obtain rfl := Option.some.inj H
 refine qr_res (rs:=[_]) rfl (fun w' hs=>⟨[.int .i64 y8],(res_tmp (by kernel_rfl) (.nil)),(),rfl,hs.pick (ts:=[]) (cs:=[]) trivial (by decide)⟩)
def codec_Short.lo1:Nat→Int→(List Int)→Int→Option ((List Int))
  | 0,_,_,_=>none
  | k1+1,x1_1,l5_1,x6_1=>(if x6_1 > (0:Int) then lt (bits .or .u8 (IntKind.wrap .u8 x1_1) (128:Int)) fun y9=>(if (l5_1.length+([y9]).length)*1≤140737488355328 then (codec_Short.lo1 k1) (Int.fdiv x1_1 128) (l5_1++[y9]) (IntKind.wrap .i64 (x6_1 - (1:Int))) else none) else (if (l5_1.length+([IntKind.wrap .u8 x1_1]).length)*1≤140737488355328 then some (l5_1++[IntKind.wrap .u8 x1_1]) else none))
def codec_Short.f (k:Nat) (l0:List Int) (a1:Int):Option ((List Int)) :=
  (if (([]:List Int).length+l0.length)*1≤140737488355328 then (codec_groups.f k a1).bind fun t5=>codec_Short.lo1 k a1 (([]:List Int)++l0) (IntKind.wrap .i64 (t5 - (1:Int))) else none)
theorem codec_Short.calls (k:Nat) (A0:Option Addr) (c0:Nat) (l0:List Int) (a1:Int) (r:(List Int)) (b:Bs) (hs0:St b (stl []) b.w) (R0:Ro b A0 (em (Ec.int 5 .u8) l0)) (C0:l0.length≤c0) (H:codec_Short.f k l0 a1=some r) :
    Calls Try.prog 60 #[.slice A0 l0.length c0,.int .u64 a1] b.w fun e w'=>∃ x:(Option Addr × Nat),e=.returned (.slice x.1 r.length x.2)∧St b (stl [Ck.sl (Ec.int 5 .u8) x.1 x.2 r]) w' := by
 unfold codec_Short.f at H
 refine enterb (n:=30) Try.func60 rfl (by kernel_rfl) (by kernel_rfl) hs0 ?_
 refine cs_sub (s0) (sub_nil _) ?_
 refine cs_seq ?_
 refine cs_region (l:=[_]) ?_
 refine lv (.slice none 0 0) ?_
 refine ls_end ?_
 refine qn_then ?_
 refine cs_seq ?_
 refine cs_region (l:=[_,_,_,_]) ?_
 refine ls_lit (Ec.int 5 .u8) 0 rfl rfl (by kernel_rfl) ([]:List Int) (by exact of_decide_eq_true (by kernel_rfl)) (fun w=>by kernel_rfl) ?_
 intro g1
 refine lv (.slice A0 l0.length c0) ?_
 obtain ⟨q2,H⟩ := ite_need H
 refine ls_app (Ec.int 5 .u8) (A:=(some ⟨g1,0,none⟩)) (c:=([]:List Int).length) (B:=A0) (cb:=c0) (z:=(Value.int .u8 0)) (l:=([]:List Int)) (m:=l0) (bytes:=1) 0 rfl rfl (by kernel_rfl) rfl (by kernel_rfl) (by exact rfl) (by kernel_rfl) (fun w hs=>(hs.old R0)) (by kernel_rfl) (by kernel_rfl) rfl (by decide) q2 ?_
 intro xA3 xc4
 refine lv (.slice xA3 (([]:List Int)++l0).length xc4) ?_
 refine ls_end ?_
 refine qn_then ?_
 refine cs_seq ?_
 refine cs_seq ?_
 refine cs_region (l:=[_,_,_,_]) ?_
 refine lv (.int .u64 a1) ?_
 obtain ⟨t5,hc6,H⟩ := bind_some H
 refine ls_callb (fid:=88) (vals:=#[.int .u64 a1]) (X:=Unit) (fun x=>.int .i64 t5) (fun x=>stl []) [] [] [] [] 1 rfl rfl (by kernel_rfl) (fun w=>by kernel_rfl) trivial trivial (by decide) (fun w hs hb=>codec_groups.calls k a1 t5 (lent b w [] []) hb  hc6) ?_
 intro x7
 refine lv (.int .i64 (IntKind.wrap .i64 (t5 - (1:Int)))) ?_
 refine lv (.int .i64 (IntKind.wrap .i64 (t5 - (1:Int)))) ?_
 refine ls_end ?_
 refine qn_then ?_
 refine cs_block ?_
 refine cs_sub (sput s0 0 (some (Ck.sl (Ec.int 5 .u8) xA3 xc4 (([]:List Int)++l0)))) (sub_put (by exact rfl) (sub_nil _)) ?_
 refine cs_loop (fun kk f S=>∃ (fR:Fr) (x1_1:Int) (A5_1:Option Addr) (c5_1:Nat) (l5_1:List Int) (x6_1:Int),f=upd (upd (upd fR 1 (.int .u64 x1_1)) 5 (.slice A5_1 l5_1.length c5_1)) 6 (.int .i64 x6_1)∧S=sput s0 0 (some (Ck.sl (Ec.int 5 .u8) A5_1 c5_1 l5_1))∧codec_Short.lo1 kk x1_1 l5_1 x6_1=some r) k ?_ ?_ ?_
 ·exact ⟨_,a1,xA3,xc4,(([]:List Int)++l0),(IntKind.wrap .i64 (t5 - (1:Int))),fr_next (fr_next (fr_next (rfl) (by kernel_rfl)) (by kernel_rfl)) (by kernel_rfl),rfl,H⟩
 ·rintro f S ⟨fr1,x1_1,A5_1,c5_1,l5_1,x6_1,rfl,rfl,H⟩; cases H
 rintro k1 f S ⟨fr1,x1_1,A5_1,c5_1,l5_1,x6_1,rfl,rfl,H⟩
 replace H:((if x6_1 > (0:Int) then lt (bits .or .u8 (IntKind.wrap .u8 x1_1) (128:Int)) fun y9=>(if (l5_1.length+([y9]).length)*1≤140737488355328 then (codec_Short.lo1 k1) (Int.fdiv x1_1 128) (l5_1++[y9]) (IntKind.wrap .i64 (x6_1 - (1:Int))) else none) else (if (l5_1.length+([IntKind.wrap .u8 x1_1]).length)*1≤140737488355328 then some (l5_1++[IntKind.wrap .u8 x1_1]) else none)))=some r := H
 refine cs_seq ?_
 refine cs_seq ?_
 refine cs_region (l:=[_,_]) ?_
 refine lv (.int .i64 x6_1) ?_
 refine lv (.bool (decide (x6_1 > (0:Int)))) ?_
 refine ls_end ?_
 refine qn_then ?_
 by_cases q8:x6_1 > (0:Int)
 ·replace H := ite_t q8 H
  refine cs_know (c:=true) (dec_t q8) 14 (by kernel_rfl) ?_
  refine cs_true (by kernel_rfl) ?_
  refine cs_skip' ?_
  refine qn_then ?_
  refine cs_seq ?_
  refine cs_block ?_
  refine cs_seq ?_
  refine cs_region (l:=[_,_,_,_,_,_,_]) ?_
  refine lv (.slice A5_1 l5_1.length c5_1) ?_
  refine lv (.int .u64 x1_1) ?_
  refine lv (.int .u8 (IntKind.wrap .u8 x1_1)) ?_
  obtain ⟨y9,hy10,H⟩ := lt_some H
  refine lv (.int .u8 (bits .or .u8 (IntKind.wrap .u8 x1_1) (128:Int))) ?_
  refine ls_ren 20 (v:=.int .u8 (bits .or .u8 (IntKind.wrap .u8 x1_1) (128:Int))) (v' := .int .u8 y9) (by kernel_rfl) (by rw [hy10]) ?_
  refine ls_lit (Ec.int 5 .u8) 1 rfl rfl (by kernel_rfl) ([y9]) (by exact of_decide_eq_true (by kernel_rfl)) (fun w=>by kernel_rfl) ?_
  intro g11
  obtain ⟨q12,H⟩ := ite_need H
  refine ls_app (Ec.int 5 .u8) (A:=A5_1) (c:=c5_1) (B:=(some ⟨g11,0,none⟩)) (cb:=[y9].length) (z:=(Value.int .u8 0)) (l:=l5_1) (m:=[y9]) (bytes:=1) 0 rfl rfl (by kernel_rfl) rfl (by kernel_rfl) (by exact rfl) (by kernel_rfl) (fun w hs=>(hs.rd (k:=1) (by exact rfl))) (by kernel_rfl) (by kernel_rfl) rfl (by decide) q12 ?_
  intro xA13 xc14
  refine lv (.slice xA13 (l5_1++[y9]).length xc14) ?_
  refine ls_end ?_
  refine qn_then ?_
  refine cs_region (l:=[_,_,_]) ?_
  refine lv (.int .u64 x1_1) ?_
  refine lv (.int .u64 (Int.fdiv x1_1 128)) ?_
  refine lv (.int .u64 (Int.fdiv x1_1 128)) ?_
  refine ls_end ?_
  refine qn_block ?_
  refine qn_then ?_
  refine cs_region (l:=[_,_,_]) ?_
  refine lv (.int .i64 x6_1) ?_
  refine lv (.int .i64 (IntKind.wrap .i64 (x6_1 - (1:Int)))) ?_
  refine lv (.int .i64 (IntKind.wrap .i64 (x6_1 - (1:Int)))) ?_
  refine ls_end ?_
  refine qn_again k1 (sput s0 0 (some (Ck.sl (Ec.int 5 .u8) xA13 xc14 (l5_1++[y9])))) (Nat.le_refl _) ⟨_,(Int.fdiv x1_1 128),xA13,xc14,(l5_1++[y9]),(IntKind.wrap .i64 (x6_1 - (1:Int))),fr_next (fr_next (fr_next (rfl) (by kernel_rfl)) (by kernel_rfl)) (by kernel_rfl),rfl,H⟩ (sub_put (by exact rfl) (sub_nil _))
 replace H := ite_f q8 H
 refine cs_know (c:=false) (dec_f q8) 14 (by kernel_rfl) ?_
 refine cs_false (by kernel_rfl) ?_
 refine cs_exit' ?_
 refine qx_then ?_
 refine qx_then ?_
 refine qx_same ?_
 refine qn_then ?_
 refine cs_seq ?_
 refine cs_region (l:=[_,_,_,_,_,_]) ?_
 refine lv (.slice A5_1 l5_1.length c5_1) ?_
 refine lv (.int .u64 x1_1) ?_
 refine lv (.int .u8 (IntKind.wrap .u8 x1_1)) ?_
 refine ls_lit (Ec.int 5 .u8) 1 rfl rfl (by kernel_rfl) ([IntKind.wrap .u8 x1_1]) (by exact of_decide_eq_true (by kernel_rfl)) (fun w=>by kernel_rfl) ?_
 intro g15
 obtain ⟨q16,H⟩ := ite_need H
 refine ls_app (Ec.int 5 .u8) (A:=A5_1) (c:=c5_1) (B:=(some ⟨g15,0,none⟩)) (cb:=[IntKind.wrap .u8 x1_1].length) (z:=(Value.int .u8 0)) (l:=l5_1) (m:=[IntKind.wrap .u8 x1_1]) (bytes:=1) 0 rfl rfl (by kernel_rfl) rfl (by kernel_rfl) (by exact rfl) (by kernel_rfl) (fun w hs=>(hs.rd (k:=1) (by exact rfl))) (by kernel_rfl) (by kernel_rfl) rfl (by decide) q16 ?_
 intro xA17 xc18
 refine lv (.slice xA17 (l5_1++[IntKind.wrap .u8 x1_1]).length xc18) ?_
 refine ls_end ?_
 refine qn_then ?_
 refine cs_ret' ?_
 obtain rfl := Option.some.inj H
 refine qr_res (rs:=[_]) rfl (fun w' hs=>⟨[.slice xA17 (l5_1++[IntKind.wrap .u8 x1_1]).length xc18],(res_tmp (by kernel_rfl) (.nil)),(xA17,xc18),rfl,hs.pick (ts:=[0]) (cs:=[Ck.sl (Ec.int 5 .u8) xA17 xc18 (l5_1++[IntKind.wrap .u8 x1_1])]) ⟨by exact rfl,trivial⟩ (by decide)⟩)
def leaf_shared.tab0:List (List Nat) := [[],[],[1],[0,1,2],[0,1,2,3],[0,1,2,3,4],[0,1,2,3,4],[0,1,2,3,4,6],[0,1,2,3,4,5,6,7],[0,1,2,3,4,5,6,7,8],[0,1,2,3,4,5,6,7,8,9],[0,1,2,3,4,5,6,7,8,9,10],[0,1,2,3,4,5,6,7,8,9,10],[0,1,2,3,4,5,6,7,8,9,10,11,12],[0,1,2,3,4,5,6,7,8,9,10,11,12,13],[0,1,2,3,4,5,6,7,8,9,10],[0,1,2,3,4,5,6,7,8,9,10],[0,1,2,3,4,5,6,7,8,9,10,15,16],[0,1,2,3,4,5,6,7,8,9,10,15,16,17],[0,1,2,3,4,5,6,7,8,9,10,11,12,13,14,15,16,17,18],[0,1,2,3,4,5,6,7,8,9,10,11,12,13,14,15,16,17,18,19]]
def leaf_shared.lo1 (l0:List Int) (l1:List Int):Nat→Int→Option (Int)
  | 0,_=>none
  | k1+1,x5_1=>(if x5_1<(l0.length:Int) then (if x5_1<(l1.length:Int) then (if 0≤x5_1 then (if ((l0).getD (x5_1).toNat (0:Int))=((l1).getD (x5_1).toNat (0:Int)) then (leaf_shared.lo1 l0 l1 k1) (IntKind.wrap .i64 (x5_1+(1:Int))) else some x5_1) else none) else some x5_1) else some x5_1)
def leaf_shared.f (k:Nat) (l0:List Int) (l1:List Int):Option (Int) :=
  leaf_shared.lo1 l0 l1 k (0:Int)
theorem leaf_shared.calls (k:Nat) (A0:Option Addr) (c0:Nat) (l0:List Int) (A1:Option Addr) (c1:Nat) (l1:List Int) (r:Int) (b:Bs) (hs0:St b (stl []) b.w) (R0:Ro b A0 (em (Ec.int 5 .u8) l0)) (C0:l0.length≤c0) (R1:Ro b A1 (em (Ec.int 5 .u8) l1)) (C1:l1.length≤c1) (H:leaf_shared.f k l0 l1=some r) :
    Calls Try.prog 61 #[.slice A0 l0.length c0,.slice A1 l1.length c1] b.w fun e w'=>∃ x:Unit,e=.returned (.int .i64 r)∧St b (stl []) w' := by
 unfold leaf_shared.f at H
 refine enterb (n:=30) Try.func61 rfl (by kernel_rfl) (by kernel_rfl) hs0 ?_
 refine cs_sub (s0) (sub_nil _) ?_
 refine cs_seq ?_
 refine cs_region (l:=[_]) ?_
 refine lv (.int .i64 (0:Int)) ?_
 refine ls_end ?_
 refine qn_then ?_
 refine cs_seq ?_
 refine cs_region (l:=[_]) ?_
 refine lv (.int .i64 (0:Int)) ?_
 refine ls_end ?_
 refine qn_then ?_
 refine cs_seq ?_
 refine cs_block ?_
 refine cs_sub (s0) (sub_nil _) ?_
 refine cs_loop (fun kk f S=>∃ (fR:Fr) (x5_1:Int),f=upd (upd (upd fR 0 (.slice A0 l0.length c0)) 1 (.slice A1 l1.length c1)) 5 (.int .i64 x5_1)∧S=s0∧leaf_shared.lo1 l0 l1 kk x5_1=some r) k ?_ ?_ ?_
 ·exact ⟨_,(0:Int),fr_next (fr_next (fr_next (rfl) (by kernel_rfl)) (by kernel_rfl)) (by kernel_rfl),rfl,H⟩
 ·rintro f S ⟨fr1,x5_1,rfl,rfl,H⟩; cases H
 rintro k1 f S ⟨fr1,x5_1,rfl,rfl,H⟩
 replace H:((if x5_1<(l0.length:Int) then (if x5_1<(l1.length:Int) then (if 0≤x5_1 then (if ((l0).getD (x5_1).toNat (0:Int))=((l1).getD (x5_1).toNat (0:Int)) then (leaf_shared.lo1 l0 l1 k1) (IntKind.wrap .i64 (x5_1+(1:Int))) else some x5_1) else none) else some x5_1) else some x5_1))=some r := H
 refine cs_seq ?_
 refine cs_seq ?_
 obtain ⟨s2_0,hs2_0⟩ := exv (.int .i64 x5_1)
 refine have_opa leaf_shared.tab0 0 0 (fun sp=>sp 0=s2_0) (fun sp on hA hon=>?_) (fun ops2_0=>?_)
 ·refine ⟨fun o ho vs Rs f' S' w hp hf hx hS hR hs=>?_⟩
  obtain rfl := Option.some.inj ho
  exact opv (.int .i64 x5_1) hA hs2_0 hon (fr_next (rfl) ((hx 5 (by kernel_rfl)).trans (by kernel_rfl:(_:Value)=.int .i64 x5_1)))
 obtain ⟨s2_1,hs2_1⟩ := exv (.slice A0 l0.length c0)
 refine have_opa leaf_shared.tab0 0 1 (fun sp=>sp 1=s2_1) (fun sp on hA hon=>?_) (fun ops2_1=>?_)
 ·refine ⟨fun o ho vs Rs f' S' w hp hf hx hS hR hs=>?_⟩
  obtain rfl := Option.some.inj ho
  exact opv (.slice A0 l0.length c0) hA hs2_1 hon (fr_next (rfl) ((hx 0 (by kernel_rfl)).trans (by kernel_rfl:(_:Value)=.slice A0 l0.length c0)))
 obtain ⟨s2_2,hs2_2⟩ := exv (.int .i64 (l0.length:Int))
 refine have_opa leaf_shared.tab0 0 2 (fun sp=>sp 2=s2_2∧sp 1=s2_1) (fun sp on hA hon=>?_) (fun ops2_2=>?_)
 ·refine ⟨fun o ho vs Rs f' S' w hp hf hx hS hR hs=>?_⟩
  obtain rfl := Option.some.inj ho
  obtain ⟨hv1,hR1⟩ := (spe hA.2 hs2_1 (hp 1 (by kernel_rfl)))
  exact opv (.int .i64 (l0.length:Int)) hA.1 hs2_2 hon (fr_next (rfl) ((hf 1 7 (by kernel_rfl) rfl).trans hv1))
 obtain ⟨s2_3,hs2_3⟩ := exv (.bool (decide (x5_1<(l0.length:Int))))
 refine have_opa leaf_shared.tab0 0 3 (fun sp=>sp 3=s2_3∧sp 0=s2_0∧sp 2=s2_2) (fun sp on hA hon=>?_) (fun ops2_3=>?_)
 ·refine ⟨fun o ho vs Rs f' S' w hp hf hx hS hR hs=>?_⟩
  obtain rfl := Option.some.inj ho
  obtain ⟨hv0,hR0⟩ := (spe hA.2.1 hs2_0 (hp 0 (by kernel_rfl)))
  obtain ⟨hv2,hR2⟩ := (spe hA.2.2 hs2_2 (hp 2 (by kernel_rfl)))
  exact opv (.bool (decide (x5_1<(l0.length:Int)))) hA.1 hs2_3 hon (fr_next (fr_next (rfl) ((hf 0 6 (by kernel_rfl) rfl).trans hv0)) ((hf 2 8 (by kernel_rfl) rfl).trans hv2))
 obtain ⟨s2_4,hs2_4⟩ := exv (.bool (decide (x5_1<(l0.length:Int))))
 refine have_opa leaf_shared.tab0 0 4 (fun sp=>sp 4=s2_4∧sp 3=s2_3) (fun sp on hA hon=>?_) (fun ops2_4=>?_)
 ·refine ⟨fun o ho vs Rs f' S' w hp hf hx hS hR hs=>?_⟩
  obtain rfl := Option.some.inj ho
  obtain ⟨hv3,hR3⟩ := (spe hA.2 hs2_3 (hp 3 (by kernel_rfl)))
  exact opv (.bool (decide (x5_1<(l0.length:Int)))) hA.1 hs2_4 hon (fr_next (rfl) ((hf 3 9 (by kernel_rfl) rfl).trans hv3))
 by_cases q3:x5_1<(l0.length:Int)
 ·replace H := ite_t q3 H
  obtain ⟨s2_5,hs2_5⟩ := exv (.int .i64 x5_1)
  refine have_opa leaf_shared.tab0 0 5 (fun sp=>sp 5=s2_5∧sp 4=s2_4) (fun sp on hA hon=>?_) (fun ops2_5=>?_)
  ·refine ⟨fun o ho vs Rs f' S' w hp hf hx hS hR hs=>?_⟩
   obtain rfl := Option.some.inj ho
   obtain ⟨hv4,hR4⟩ := (spe hA.2 hs2_4 (hp 4 (by kernel_rfl)))
   rw [hA.1,hs2_5]
   refine And.intro (fun a ha=>(want_is (j:=4) (t:=10) (r:=true) rfl rfl (by kernel_rfl) (((hf 4 10 (by kernel_rfl) rfl).trans hv4).trans (congrArg Value.bool (show (decide (x5_1<(l0.length:Int)))=true from dec_t q3))) rfl a ha).trans hon.symm) (And.intro (fun _=>?_) (fun h=>by rw [hon] at h; cases h))
   have hF := fr_next (fr_next (rfl) ((hx 5 (by kernel_rfl)).trans (by kernel_rfl:(_:Value)=.int .i64 x5_1))) (((hf 4 10 (by kernel_rfl) rfl).trans hv4).trans (congrArg Value.bool (show (decide (x5_1<(l0.length:Int)))=true from dec_t q3)))
   refine ls_fr hF ?_
   refine lv (.int .i64 x5_1) ?_
   exact ls_fin s0 _ (congrArg (fun z=>upd z 11 _) hF.symm) ⟨rfl,rfl⟩ (sub_nil _)
  obtain ⟨s2_6,hs2_6⟩ := exv (.slice A1 l1.length c1)
  refine have_opa leaf_shared.tab0 0 6 (fun sp=>sp 6=s2_6∧sp 4=s2_4) (fun sp on hA hon=>?_) (fun ops2_6=>?_)
  ·refine ⟨fun o ho vs Rs f' S' w hp hf hx hS hR hs=>?_⟩
   obtain rfl := Option.some.inj ho
   obtain ⟨hv4,hR4⟩ := (spe hA.2 hs2_4 (hp 4 (by kernel_rfl)))
   rw [hA.1,hs2_6]
   refine And.intro (fun a ha=>(want_is (j:=4) (t:=10) (r:=true) rfl rfl (by kernel_rfl) (((hf 4 10 (by kernel_rfl) rfl).trans hv4).trans (congrArg Value.bool (show (decide (x5_1<(l0.length:Int)))=true from dec_t q3))) rfl a ha).trans hon.symm) (And.intro (fun _=>?_) (fun h=>by rw [hon] at h; cases h))
   have hF := fr_next (fr_next (rfl) ((hx 1 (by kernel_rfl)).trans (by kernel_rfl:(_:Value)=.slice A1 l1.length c1))) (((hf 4 10 (by kernel_rfl) rfl).trans hv4).trans (congrArg Value.bool (show (decide (x5_1<(l0.length:Int)))=true from dec_t q3)))
   refine ls_fr hF ?_
   refine lv (.slice A1 l1.length c1) ?_
   exact ls_fin s0 _ (congrArg (fun z=>upd z 12 _) hF.symm) ⟨rfl,rfl⟩ (sub_nil _)
  obtain ⟨s2_7,hs2_7⟩ := exv (.int .i64 (l1.length:Int))
  refine have_opa leaf_shared.tab0 0 7 (fun sp=>sp 7=s2_7∧sp 4=s2_4∧sp 6=s2_6) (fun sp on hA hon=>?_) (fun ops2_7=>?_)
  ·refine ⟨fun o ho vs Rs f' S' w hp hf hx hS hR hs=>?_⟩
   obtain rfl := Option.some.inj ho
   obtain ⟨hv4,hR4⟩ := (spe hA.2.1 hs2_4 (hp 4 (by kernel_rfl)))
   obtain ⟨hv6,hR6⟩ := (spe hA.2.2 hs2_6 (hp 6 (by kernel_rfl)))
   rw [hA.1,hs2_7]
   refine And.intro (fun a ha=>(want_is (j:=4) (t:=10) (r:=true) rfl rfl (by kernel_rfl) (((hf 4 10 (by kernel_rfl) rfl).trans hv4).trans (congrArg Value.bool (show (decide (x5_1<(l0.length:Int)))=true from dec_t q3))) rfl a ha).trans hon.symm) (And.intro (fun _=>?_) (fun h=>by rw [hon] at h; cases h))
   have hF := fr_next (fr_next (rfl) (((hf 4 10 (by kernel_rfl) rfl).trans hv4).trans (congrArg Value.bool (show (decide (x5_1<(l0.length:Int)))=true from dec_t q3)))) ((hf 6 12 (by kernel_rfl) rfl).trans hv6)
   refine ls_fr hF ?_
   refine lv (.int .i64 (l1.length:Int)) ?_
   exact ls_fin s0 _ (congrArg (fun z=>upd z 13 _) hF.symm) ⟨rfl,rfl⟩ (sub_nil _)
  obtain ⟨s2_8,hs2_8⟩ := exv (.bool (decide (x5_1<(l1.length:Int))))
  refine have_opa leaf_shared.tab0 0 8 (fun sp=>sp 8=s2_8∧sp 4=s2_4∧sp 5=s2_5∧sp 7=s2_7) (fun sp on hA hon=>?_) (fun ops2_8=>?_)
  ·refine ⟨fun o ho vs Rs f' S' w hp hf hx hS hR hs=>?_⟩
   obtain rfl := Option.some.inj ho
   obtain ⟨hv4,hR4⟩ := (spe hA.2.1 hs2_4 (hp 4 (by kernel_rfl)))
   obtain ⟨hv5,hR5⟩ := (spe hA.2.2.1 hs2_5 (hp 5 (by kernel_rfl)))
   obtain ⟨hv7,hR7⟩ := (spe hA.2.2.2 hs2_7 (hp 7 (by kernel_rfl)))
   rw [hA.1,hs2_8]
   refine And.intro (fun a ha=>(want_is (j:=4) (t:=10) (r:=true) rfl rfl (by kernel_rfl) (((hf 4 10 (by kernel_rfl) rfl).trans hv4).trans (congrArg Value.bool (show (decide (x5_1<(l0.length:Int)))=true from dec_t q3))) rfl a ha).trans hon.symm) (And.intro (fun _=>?_) (fun h=>by rw [hon] at h; cases h))
   have hF := fr_next (fr_next (fr_next (rfl) (((hf 4 10 (by kernel_rfl) rfl).trans hv4).trans (congrArg Value.bool (show (decide (x5_1<(l0.length:Int)))=true from dec_t q3)))) ((hf 5 11 (by kernel_rfl) rfl).trans hv5)) ((hf 7 13 (by kernel_rfl) rfl).trans hv7)
   refine ls_fr hF ?_
   refine lv (.bool (decide (x5_1<(l1.length:Int)))) ?_
   exact ls_fin s0 _ (congrArg (fun z=>upd z 14 _) hF.symm) ⟨rfl,rfl⟩ (sub_nil _)
  obtain ⟨s2_9,hs2_9⟩ := exv (.bool (decide (x5_1<(l1.length:Int))))
  refine have_opa leaf_shared.tab0 0 9 (fun sp=>sp 9=s2_9∧sp 4=s2_4∧sp 8=s2_8) (fun sp on hA hon=>?_) (fun ops2_9=>?_)
  ·refine ⟨fun o ho vs Rs f' S' w hp hf hx hS hR hs=>?_⟩
   obtain rfl := Option.some.inj ho
   obtain ⟨hv4,hR4⟩ := (spe hA.2.1 hs2_4 (hp 4 (by kernel_rfl)))
   obtain ⟨hv8,hR8⟩ := (spe hA.2.2 hs2_8 (hp 8 (by kernel_rfl)))
   exact opv (.bool (decide (x5_1<(l1.length:Int)))) hA.1 hs2_9 hon (fr_next (fr_next (rfl) (((hf 4 10 (by kernel_rfl) rfl).trans hv4).trans (congrArg Value.bool (show (decide (x5_1<(l0.length:Int)))=true from dec_t q3)))) ((hf 8 14 (by kernel_rfl) rfl).trans hv8))
  obtain ⟨s2_10,hs2_10⟩ := exv (.bool (decide (x5_1<(l1.length:Int))))
  refine have_opa leaf_shared.tab0 0 10 (fun sp=>sp 10=s2_10∧sp 9=s2_9) (fun sp on hA hon=>?_) (fun ops2_10=>?_)
  ·refine ⟨fun o ho vs Rs f' S' w hp hf hx hS hR hs=>?_⟩
   obtain rfl := Option.some.inj ho
   obtain ⟨hv9,hR9⟩ := (spe hA.2 hs2_9 (hp 9 (by kernel_rfl)))
   exact opv (.bool (decide (x5_1<(l1.length:Int)))) hA.1 hs2_10 hon (fr_next (rfl) ((hf 9 15 (by kernel_rfl) rfl).trans hv9))
  by_cases q4:x5_1<(l1.length:Int)
  ·replace H := ite_t q4 H
   obtain ⟨s2_11,hs2_11⟩ := exv (.slice A0 l0.length c0)
   refine have_opa leaf_shared.tab0 0 11 (fun sp=>sp 11=s2_11∧sp 10=s2_10) (fun sp on hA hon=>?_) (fun ops2_11=>?_)
   ·refine ⟨fun o ho vs Rs f' S' w hp hf hx hS hR hs=>?_⟩
    obtain rfl := Option.some.inj ho
    obtain ⟨hv10,hR10⟩ := (spe hA.2 hs2_10 (hp 10 (by kernel_rfl)))
    rw [hA.1,hs2_11]
    refine And.intro (fun a ha=>(want_is (j:=10) (t:=16) (r:=true) rfl rfl (by kernel_rfl) (((hf 10 16 (by kernel_rfl) rfl).trans hv10).trans (congrArg Value.bool (show (decide (x5_1<(l1.length:Int)))=true from dec_t q4))) rfl a ha).trans hon.symm) (And.intro (fun _=>?_) (fun h=>by rw [hon] at h; cases h))
    have hF := fr_next (fr_next (rfl) ((hx 0 (by kernel_rfl)).trans (by kernel_rfl:(_:Value)=.slice A0 l0.length c0))) (((hf 10 16 (by kernel_rfl) rfl).trans hv10).trans (congrArg Value.bool (show (decide (x5_1<(l1.length:Int)))=true from dec_t q4)))
    refine ls_fr hF ?_
    refine lv (.slice A0 l0.length c0) ?_
    exact ls_fin s0 _ (congrArg (fun z=>upd z 17 _) hF.symm) ⟨rfl,rfl⟩ (sub_nil _)
   obtain ⟨s2_12,hs2_12⟩ := exv (.int .i64 x5_1)
   refine have_opa leaf_shared.tab0 0 12 (fun sp=>sp 12=s2_12∧sp 10=s2_10) (fun sp on hA hon=>?_) (fun ops2_12=>?_)
   ·refine ⟨fun o ho vs Rs f' S' w hp hf hx hS hR hs=>?_⟩
    obtain rfl := Option.some.inj ho
    obtain ⟨hv10,hR10⟩ := (spe hA.2 hs2_10 (hp 10 (by kernel_rfl)))
    rw [hA.1,hs2_12]
    refine And.intro (fun a ha=>(want_is (j:=10) (t:=16) (r:=true) rfl rfl (by kernel_rfl) (((hf 10 16 (by kernel_rfl) rfl).trans hv10).trans (congrArg Value.bool (show (decide (x5_1<(l1.length:Int)))=true from dec_t q4))) rfl a ha).trans hon.symm) (And.intro (fun _=>?_) (fun h=>by rw [hon] at h; cases h))
    have hF := fr_next (fr_next (rfl) ((hx 5 (by kernel_rfl)).trans (by kernel_rfl:(_:Value)=.int .i64 x5_1))) (((hf 10 16 (by kernel_rfl) rfl).trans hv10).trans (congrArg Value.bool (show (decide (x5_1<(l1.length:Int)))=true from dec_t q4)))
    refine ls_fr hF ?_
    refine lv (.int .i64 x5_1) ?_
    exact ls_fin s0 _ (congrArg (fun z=>upd z 18 _) hF.symm) ⟨rfl,rfl⟩ (sub_nil _)
   obtain ⟨q5,H⟩ := ite_need H
   obtain ⟨ad6,hA7⟩ := ido_at (T:=(Ec.int 5 .u8)) (l:=l0) (i:=x5_1) R0 q5 q3
   obtain ⟨s2_13,hs2_13⟩ := exv (.pointer (some (ad6.add ((x5_1).toNat*1))))
   refine have_opa leaf_shared.tab0 0 13 (fun sp=>sp 13=s2_13∧sp 10=s2_10∧sp 11=s2_11∧sp 12=s2_12) (fun sp on hA hon=>?_) (fun ops2_13=>?_)
   ·refine ⟨fun o ho vs Rs f' S' w hp hf hx hS hR hs=>?_⟩
    obtain rfl := Option.some.inj ho
    obtain ⟨hv10,hR10⟩ := (spe hA.2.1 hs2_10 (hp 10 (by kernel_rfl)))
    obtain ⟨hv11,hR11⟩ := (spe hA.2.2.1 hs2_11 (hp 11 (by kernel_rfl)))
    obtain ⟨hv12,hR12⟩ := (spe hA.2.2.2 hs2_12 (hp 12 (by kernel_rfl)))
    rw [hA.1,hs2_13]
    refine And.intro (fun a ha=>(want_is (j:=10) (t:=16) (r:=true) rfl rfl (by kernel_rfl) (((hf 10 16 (by kernel_rfl) rfl).trans hv10).trans (congrArg Value.bool (show (decide (x5_1<(l1.length:Int)))=true from dec_t q4))) rfl a ha).trans hon.symm) (And.intro (fun _=>?_) (fun h=>by rw [hon] at h; cases h))
    have hF := fr_next (fr_next (fr_next (rfl) (((hf 10 16 (by kernel_rfl) rfl).trans hv10).trans (congrArg Value.bool (show (decide (x5_1<(l1.length:Int)))=true from dec_t q4)))) ((hf 11 17 (by kernel_rfl) rfl).trans hv11)) ((hf 12 18 (by kernel_rfl) rfl).trans hv12)
    refine ls_fr hF ?_
    refine ls_idxv (Ec.int 5 .u8) (A:=A0) (c:=c0) (l:=l0) (k:=.i64) (i:=x5_1) (z:=1) (ad:=ad6) rfl rfl (by kernel_rfl) hA7 rfl (by kernel_rfl) (by kernel_rfl) (by kernel_rfl) (by kernel_rfl) q5 q3 ?_
    exact ls_fin s0 _ (congrArg (fun z=>upd z 19 _) hF.symm) ⟨rfl,rfl⟩ (sub_nil _)
   obtain ⟨s2_14,hs2_14⟩ := exv (.int .u8 ((l0).getD (x5_1).toNat (0:Int)))
   refine have_opa leaf_shared.tab0 0 14 (fun sp=>sp 14=s2_14∧sp 10=s2_10∧sp 13=s2_13) (fun sp on hA hon=>?_) (fun ops2_14=>?_)
   ·refine ⟨fun o ho vs Rs f' S' w hp hf hx hS hR hs=>?_⟩
    obtain rfl := Option.some.inj ho
    obtain ⟨hv10,hR10⟩ := (spe hA.2.1 hs2_10 (hp 10 (by kernel_rfl)))
    obtain ⟨hv13,hR13⟩ := (spe hA.2.2 hs2_13 (hp 13 (by kernel_rfl)))
    rw [hA.1,hs2_14]
    refine And.intro (fun a ha=>(want_is (j:=10) (t:=16) (r:=true) rfl rfl (by kernel_rfl) (((hf 10 16 (by kernel_rfl) rfl).trans hv10).trans (congrArg Value.bool (show (decide (x5_1<(l1.length:Int)))=true from dec_t q4))) rfl a ha).trans hon.symm) (And.intro (fun _=>?_) (fun h=>by rw [hon] at h; cases h))
    have hF := fr_next (fr_next (rfl) (((hf 10 16 (by kernel_rfl) rfl).trans hv10).trans (congrArg Value.bool (show (decide (x5_1<(l1.length:Int)))=true from dec_t q4)))) ((hf 13 19 (by kernel_rfl) rfl).trans hv13)
    refine ls_fr hF ?_
    refine ls_load (a0:=(ad6.add ((x5_1).toNat*1))) (v:=.int .u8 ((l0).getD (x5_1).toNat (0:Int))) (de:=(TypeDesc.int .u8)) rfl rfl (by kernel_rfl) rfl (by kernel_rfl) (by kernel_rfl) (by kernel_rfl) (fun w1 hs1=>(Rd.step (hs.old R0) hs1.below.bw).at hA7 (em_sub (Ec.int 5 .u8) l0 (i:=(x5_1).toNat) (by have h0:(0:Int)≤x5_1 := q5; have h1:x5_1<(l0.length:Int) := q3; omega))) ?_
    exact ls_fin s0 _ (congrArg (fun z=>upd z 20 _) hF.symm) ⟨rfl,rfl⟩ (sub_nil _)
   obtain ⟨s2_15,hs2_15⟩ := exv (.slice A1 l1.length c1)
   refine have_opa leaf_shared.tab0 0 15 (fun sp=>sp 15=s2_15∧sp 10=s2_10) (fun sp on hA hon=>?_) (fun ops2_15=>?_)
   ·refine ⟨fun o ho vs Rs f' S' w hp hf hx hS hR hs=>?_⟩
    obtain rfl := Option.some.inj ho
    obtain ⟨hv10,hR10⟩ := (spe hA.2 hs2_10 (hp 10 (by kernel_rfl)))
    rw [hA.1,hs2_15]
    refine And.intro (fun a ha=>(want_is (j:=10) (t:=16) (r:=true) rfl rfl (by kernel_rfl) (((hf 10 16 (by kernel_rfl) rfl).trans hv10).trans (congrArg Value.bool (show (decide (x5_1<(l1.length:Int)))=true from dec_t q4))) rfl a ha).trans hon.symm) (And.intro (fun _=>?_) (fun h=>by rw [hon] at h; cases h))
    have hF := fr_next (fr_next (rfl) ((hx 1 (by kernel_rfl)).trans (by kernel_rfl:(_:Value)=.slice A1 l1.length c1))) (((hf 10 16 (by kernel_rfl) rfl).trans hv10).trans (congrArg Value.bool (show (decide (x5_1<(l1.length:Int)))=true from dec_t q4)))
    refine ls_fr hF ?_
    refine lv (.slice A1 l1.length c1) ?_
    exact ls_fin s0 _ (congrArg (fun z=>upd z 21 _) hF.symm) ⟨rfl,rfl⟩ (sub_nil _)
   obtain ⟨s2_16,hs2_16⟩ := exv (.int .i64 x5_1)
   refine have_opa leaf_shared.tab0 0 16 (fun sp=>sp 16=s2_16∧sp 10=s2_10) (fun sp on hA hon=>?_) (fun ops2_16=>?_)
   ·refine ⟨fun o ho vs Rs f' S' w hp hf hx hS hR hs=>?_⟩
    obtain rfl := Option.some.inj ho
    obtain ⟨hv10,hR10⟩ := (spe hA.2 hs2_10 (hp 10 (by kernel_rfl)))
    rw [hA.1,hs2_16]
    refine And.intro (fun a ha=>(want_is (j:=10) (t:=16) (r:=true) rfl rfl (by kernel_rfl) (((hf 10 16 (by kernel_rfl) rfl).trans hv10).trans (congrArg Value.bool (show (decide (x5_1<(l1.length:Int)))=true from dec_t q4))) rfl a ha).trans hon.symm) (And.intro (fun _=>?_) (fun h=>by rw [hon] at h; cases h))
    have hF := fr_next (fr_next (rfl) ((hx 5 (by kernel_rfl)).trans (by kernel_rfl:(_:Value)=.int .i64 x5_1))) (((hf 10 16 (by kernel_rfl) rfl).trans hv10).trans (congrArg Value.bool (show (decide (x5_1<(l1.length:Int)))=true from dec_t q4)))
    refine ls_fr hF ?_
    refine lv (.int .i64 x5_1) ?_
    exact ls_fin s0 _ (congrArg (fun z=>upd z 22 _) hF.symm) ⟨rfl,rfl⟩ (sub_nil _)
   obtain ⟨ad8,hA9⟩ := ido_at (T:=(Ec.int 5 .u8)) (l:=l1) (i:=x5_1) R1 q5 q4
   obtain ⟨s2_17,hs2_17⟩ := exv (.pointer (some (ad8.add ((x5_1).toNat*1))))
   refine have_opa leaf_shared.tab0 0 17 (fun sp=>sp 17=s2_17∧sp 10=s2_10∧sp 15=s2_15∧sp 16=s2_16) (fun sp on hA hon=>?_) (fun ops2_17=>?_)
   ·refine ⟨fun o ho vs Rs f' S' w hp hf hx hS hR hs=>?_⟩
    obtain rfl := Option.some.inj ho
    obtain ⟨hv10,hR10⟩ := (spe hA.2.1 hs2_10 (hp 10 (by kernel_rfl)))
    obtain ⟨hv15,hR15⟩ := (spe hA.2.2.1 hs2_15 (hp 15 (by kernel_rfl)))
    obtain ⟨hv16,hR16⟩ := (spe hA.2.2.2 hs2_16 (hp 16 (by kernel_rfl)))
    rw [hA.1,hs2_17]
    refine And.intro (fun a ha=>(want_is (j:=10) (t:=16) (r:=true) rfl rfl (by kernel_rfl) (((hf 10 16 (by kernel_rfl) rfl).trans hv10).trans (congrArg Value.bool (show (decide (x5_1<(l1.length:Int)))=true from dec_t q4))) rfl a ha).trans hon.symm) (And.intro (fun _=>?_) (fun h=>by rw [hon] at h; cases h))
    have hF := fr_next (fr_next (fr_next (rfl) (((hf 10 16 (by kernel_rfl) rfl).trans hv10).trans (congrArg Value.bool (show (decide (x5_1<(l1.length:Int)))=true from dec_t q4)))) ((hf 15 21 (by kernel_rfl) rfl).trans hv15)) ((hf 16 22 (by kernel_rfl) rfl).trans hv16)
    refine ls_fr hF ?_
    refine ls_idxv (Ec.int 5 .u8) (A:=A1) (c:=c1) (l:=l1) (k:=.i64) (i:=x5_1) (z:=1) (ad:=ad8) rfl rfl (by kernel_rfl) hA9 rfl (by kernel_rfl) (by kernel_rfl) (by kernel_rfl) (by kernel_rfl) q5 q4 ?_
    exact ls_fin s0 _ (congrArg (fun z=>upd z 23 _) hF.symm) ⟨rfl,rfl⟩ (sub_nil _)
   obtain ⟨s2_18,hs2_18⟩ := exv (.int .u8 ((l1).getD (x5_1).toNat (0:Int)))
   refine have_opa leaf_shared.tab0 0 18 (fun sp=>sp 18=s2_18∧sp 10=s2_10∧sp 17=s2_17) (fun sp on hA hon=>?_) (fun ops2_18=>?_)
   ·refine ⟨fun o ho vs Rs f' S' w hp hf hx hS hR hs=>?_⟩
    obtain rfl := Option.some.inj ho
    obtain ⟨hv10,hR10⟩ := (spe hA.2.1 hs2_10 (hp 10 (by kernel_rfl)))
    obtain ⟨hv17,hR17⟩ := (spe hA.2.2 hs2_17 (hp 17 (by kernel_rfl)))
    rw [hA.1,hs2_18]
    refine And.intro (fun a ha=>(want_is (j:=10) (t:=16) (r:=true) rfl rfl (by kernel_rfl) (((hf 10 16 (by kernel_rfl) rfl).trans hv10).trans (congrArg Value.bool (show (decide (x5_1<(l1.length:Int)))=true from dec_t q4))) rfl a ha).trans hon.symm) (And.intro (fun _=>?_) (fun h=>by rw [hon] at h; cases h))
    have hF := fr_next (fr_next (rfl) (((hf 10 16 (by kernel_rfl) rfl).trans hv10).trans (congrArg Value.bool (show (decide (x5_1<(l1.length:Int)))=true from dec_t q4)))) ((hf 17 23 (by kernel_rfl) rfl).trans hv17)
    refine ls_fr hF ?_
    refine ls_load (a0:=(ad8.add ((x5_1).toNat*1))) (v:=.int .u8 ((l1).getD (x5_1).toNat (0:Int))) (de:=(TypeDesc.int .u8)) rfl rfl (by kernel_rfl) rfl (by kernel_rfl) (by kernel_rfl) (by kernel_rfl) (fun w1 hs1=>(Rd.step (hs.old R1) hs1.below.bw).at hA9 (em_sub (Ec.int 5 .u8) l1 (i:=(x5_1).toNat) (by have h0:(0:Int)≤x5_1 := q5; have h1:x5_1<(l1.length:Int) := q4; omega))) ?_
    exact ls_fin s0 _ (congrArg (fun z=>upd z 24 _) hF.symm) ⟨rfl,rfl⟩ (sub_nil _)
   refine cs_draw leaf_shared.tab0 19 0 (spl [s2_0,s2_1,s2_2,s2_3,s2_4,s2_5,s2_6,s2_7,s2_8,s2_9,s2_10,s2_11,s2_12,s2_13,s2_14,s2_15,s2_16,s2_17,s2_18]) (onl [true,true,true,true,true,true,true,true,true,true,true,true,true,true,true,true,true,true,true]) (by kernel_rfl) (by kernel_rfl) (by kernel_rfl) (by kernel_rfl) (rs:=[_,_]) rfl (by kernel_rfl) (by kernel_rfl) (all_snoc (all_snoc (all_snoc (all_snoc (all_snoc (all_snoc (all_snoc (all_snoc (all_snoc (all_snoc (all_snoc (all_snoc (all_snoc (all_snoc (all_snoc (all_snoc (all_snoc (all_snoc (all_snoc (all_nil) (ops2_0 _ _ rfl rfl)) (ops2_1 _ _ rfl rfl)) (ops2_2 _ _ ⟨rfl,rfl⟩ rfl)) (ops2_3 _ _ ⟨rfl,rfl,rfl⟩ rfl)) (ops2_4 _ _ ⟨rfl,rfl⟩ rfl)) (ops2_5 _ _ ⟨rfl,rfl⟩ rfl)) (ops2_6 _ _ ⟨rfl,rfl⟩ rfl)) (ops2_7 _ _ ⟨rfl,rfl,rfl⟩ rfl)) (ops2_8 _ _ ⟨rfl,rfl,rfl,rfl⟩ rfl)) (ops2_9 _ _ ⟨rfl,rfl,rfl⟩ rfl)) (ops2_10 _ _ ⟨rfl,rfl⟩ rfl)) (ops2_11 _ _ ⟨rfl,rfl⟩ rfl)) (ops2_12 _ _ ⟨rfl,rfl⟩ rfl)) (ops2_13 _ _ ⟨rfl,rfl,rfl,rfl⟩ rfl)) (ops2_14 _ _ ⟨rfl,rfl,rfl⟩ rfl)) (ops2_15 _ _ ⟨rfl,rfl⟩ rfl)) (ops2_16 _ _ ⟨rfl,rfl⟩ rfl)) (ops2_17 _ _ ⟨rfl,rfl,rfl,rfl⟩ rfl)) (ops2_18 _ _ ⟨rfl,rfl,rfl⟩ rfl)) ?_
   intro vs Rs f' S' hp hf hx hS hR
   obtain ⟨hv10,hR10⟩ := (spe rfl hs2_10 (hp 10 (by kernel_rfl)))
   obtain ⟨hv14,hR14⟩ := (spe rfl hs2_14 (hp 14 (by kernel_rfl)))
   obtain ⟨hv18,hR18⟩ := (spe rfl hs2_18 (hp 18 (by kernel_rfl)))
   refine ls_fr (F:=upd (upd (upd (upd (upd (upd f' 0 (.slice A0 l0.length c0)) 1 (.slice A1 l1.length c1)) 5 (.int .i64 x5_1)) 16 (.bool (decide (x5_1<(l1.length:Int))))) 20 (.int .u8 ((l0).getD (x5_1).toNat (0:Int)))) 24 (.int .u8 ((l1).getD (x5_1).toNat (0:Int)))) (fr_next (fr_next (fr_next (fr_next (fr_next (fr_next (rfl) ((hx 0 (by kernel_rfl)).trans (by kernel_rfl:(_:Value)=.slice A0 l0.length c0))) ((hx 1 (by kernel_rfl)).trans (by kernel_rfl:(_:Value)=.slice A1 l1.length c1))) ((hx 5 (by kernel_rfl)).trans (by kernel_rfl:(_:Value)=.int .i64 x5_1))) ((hf 10 16 (by kernel_rfl) rfl).trans hv10)) ((hf 14 20 (by kernel_rfl) rfl).trans hv14)) ((hf 18 24 (by kernel_rfl) rfl).trans hv18)) ?_
   refine ls_sub (s0) (sub_nil _) ?_
   refine ls_know (c:=true) (dec_t q4) 16 (by kernel_rfl) ?_
   refine ls_on (j:=10) (t:=16) (b:=true) rfl rfl (by kernel_rfl) (by kernel_rfl) ?_
   refine lv (.bool (decide (((l0).getD (x5_1).toNat (0:Int))=((l1).getD (x5_1).toNat (0:Int))))) ?_
   refine lv (.bool (decide (((l0).getD (x5_1).toNat (0:Int))=((l1).getD (x5_1).toNat (0:Int))))) ?_
   refine ls_end ?_
   refine qn_then ?_
   by_cases q10:((l0).getD (x5_1).toNat (0:Int))=((l1).getD (x5_1).toNat (0:Int))
   ·replace H := ite_t q10 H
    refine cs_know (c:=true) (dec_t q10) 26 (by kernel_rfl) ?_
    refine cs_true (by kernel_rfl) ?_
    refine cs_skip' ?_
    refine qn_then ?_
    refine cs_block ?_
    refine cs_region (l:=[_,_,_]) ?_
    refine lv (.int .i64 x5_1) ?_
    refine lv (.int .i64 (IntKind.wrap .i64 (x5_1+(1:Int)))) ?_
    refine lv (.int .i64 (IntKind.wrap .i64 (x5_1+(1:Int)))) ?_
    refine ls_end ?_
    refine qn_block ?_
    refine qn_again k1 (s0) (Nat.le_refl _) ⟨_,(IntKind.wrap .i64 (x5_1+(1:Int))),fr_next (fr_next (fr_next (rfl) (by kernel_rfl)) (by kernel_rfl)) (by kernel_rfl),rfl,H⟩ (sub_nil _)
   replace H := ite_f q10 H
   refine cs_know (c:=false) (dec_f q10) 26 (by kernel_rfl) ?_
   refine cs_false (by kernel_rfl) ?_
   refine cs_exit' ?_
   refine qx_then ?_
   refine qx_then ?_
   refine qx_same ?_
   refine qn_then ?_
   refine cs_seq ?_
   refine cs_region (l:=[_,_]) ?_
   refine lv (.int .i64 x5_1) ?_
   refine lv (.int .i64 x5_1) ?_
   refine ls_end ?_
   refine qn_then ?_
   refine cs_ret' ?_
   obtain rfl := Option.some.inj H
   refine qr_res (rs:=[_]) rfl (fun w' hs=>⟨[.int .i64 x5_1],(res_tmp (by kernel_rfl) (.nil)),(),rfl,hs.pick (ts:=[]) (cs:=[]) trivial (by decide)⟩)
  replace H := ite_f q4 H
  refine cs_draw leaf_shared.tab0 19 0 (spl [s2_0,s2_1,s2_2,s2_3,s2_4,s2_5,s2_6,s2_7,s2_8,s2_9,s2_10,spu,spu,spu,spu,spu,spu,spu,spu]) (onl [true,true,true,true,true,true,true,true,true,true,true,false,false,false,false,false,false,false,false]) (by kernel_rfl) (by kernel_rfl) (by kernel_rfl) (by kernel_rfl) (rs:=[_,_]) rfl (by kernel_rfl) (by kernel_rfl) (all_snoc (all_snoc (all_snoc (all_snoc (all_snoc (all_snoc (all_snoc (all_snoc (all_snoc (all_snoc (all_snoc (all_snoc (all_snoc (all_snoc (all_snoc (all_snoc (all_snoc (all_snoc (all_snoc (all_nil) (ops2_0 _ _ rfl rfl)) (ops2_1 _ _ rfl rfl)) (ops2_2 _ _ ⟨rfl,rfl⟩ rfl)) (ops2_3 _ _ ⟨rfl,rfl,rfl⟩ rfl)) (ops2_4 _ _ ⟨rfl,rfl⟩ rfl)) (ops2_5 _ _ ⟨rfl,rfl⟩ rfl)) (ops2_6 _ _ ⟨rfl,rfl⟩ rfl)) (ops2_7 _ _ ⟨rfl,rfl,rfl⟩ rfl)) (ops2_8 _ _ ⟨rfl,rfl,rfl,rfl⟩ rfl)) (ops2_9 _ _ ⟨rfl,rfl,rfl⟩ rfl)) (ops2_10 _ _ ⟨rfl,rfl⟩ rfl)) (op_offi 11 10 16 true rfl rfl (by kernel_rfl) (by kernel_rfl) rfl (fun v R h=>by rw [hs2_10] at h; obtain ⟨h,_⟩ := h; exact h.trans (congrArg Value.bool (show (decide (x5_1<(l1.length:Int)))=false from dec_f q4))) rfl rfl)) (op_offi 12 10 16 true rfl rfl (by kernel_rfl) (by kernel_rfl) rfl (fun v R h=>by rw [hs2_10] at h; obtain ⟨h,_⟩ := h; exact h.trans (congrArg Value.bool (show (decide (x5_1<(l1.length:Int)))=false from dec_f q4))) rfl rfl)) (op_offi 13 10 16 true rfl rfl (by kernel_rfl) (by kernel_rfl) rfl (fun v R h=>by rw [hs2_10] at h; obtain ⟨h,_⟩ := h; exact h.trans (congrArg Value.bool (show (decide (x5_1<(l1.length:Int)))=false from dec_f q4))) rfl rfl)) (op_offi 14 10 16 true rfl rfl (by kernel_rfl) (by kernel_rfl) rfl (fun v R h=>by rw [hs2_10] at h; obtain ⟨h,_⟩ := h; exact h.trans (congrArg Value.bool (show (decide (x5_1<(l1.length:Int)))=false from dec_f q4))) rfl rfl)) (op_offi 15 10 16 true rfl rfl (by kernel_rfl) (by kernel_rfl) rfl (fun v R h=>by rw [hs2_10] at h; obtain ⟨h,_⟩ := h; exact h.trans (congrArg Value.bool (show (decide (x5_1<(l1.length:Int)))=false from dec_f q4))) rfl rfl)) (op_offi 16 10 16 true rfl rfl (by kernel_rfl) (by kernel_rfl) rfl (fun v R h=>by rw [hs2_10] at h; obtain ⟨h,_⟩ := h; exact h.trans (congrArg Value.bool (show (decide (x5_1<(l1.length:Int)))=false from dec_f q4))) rfl rfl)) (op_offi 17 10 16 true rfl rfl (by kernel_rfl) (by kernel_rfl) rfl (fun v R h=>by rw [hs2_10] at h; obtain ⟨h,_⟩ := h; exact h.trans (congrArg Value.bool (show (decide (x5_1<(l1.length:Int)))=false from dec_f q4))) rfl rfl)) (op_offi 18 10 16 true rfl rfl (by kernel_rfl) (by kernel_rfl) rfl (fun v R h=>by rw [hs2_10] at h; obtain ⟨h,_⟩ := h; exact h.trans (congrArg Value.bool (show (decide (x5_1<(l1.length:Int)))=false from dec_f q4))) rfl rfl)) ?_
  intro vs Rs f' S' hp hf hx hS hR
  obtain ⟨hv10,hR10⟩ := (spe rfl hs2_10 (hp 10 (by kernel_rfl)))
  obtain ⟨hv14,hR14⟩ := (spe rfl rfl (hp 14 (by kernel_rfl)):spu _ _)
  obtain ⟨hv18,hR18⟩ := (spe rfl rfl (hp 18 (by kernel_rfl)):spu _ _)
  refine ls_fr (F:=upd (upd (upd (upd f' 0 (.slice A0 l0.length c0)) 1 (.slice A1 l1.length c1)) 5 (.int .i64 x5_1)) 16 (.bool (decide (x5_1<(l1.length:Int))))) (fr_next (fr_next (fr_next (fr_next (rfl) ((hx 0 (by kernel_rfl)).trans (by kernel_rfl:(_:Value)=.slice A0 l0.length c0))) ((hx 1 (by kernel_rfl)).trans (by kernel_rfl:(_:Value)=.slice A1 l1.length c1))) ((hx 5 (by kernel_rfl)).trans (by kernel_rfl:(_:Value)=.int .i64 x5_1))) ((hf 10 16 (by kernel_rfl) rfl).trans hv10)) ?_
  refine ls_sub (s0) (sub_nil _) ?_
  refine ls_know (c:=false) (dec_f q4) 16 (by kernel_rfl) ?_
  refine lofx 10 16 true false ?_
  refine lv (.bool false) ?_
  refine ls_end ?_
  refine qn_then ?_
  refine cs_false (by kernel_rfl) ?_
  refine cs_exit' ?_
  refine qx_then ?_
  refine qx_then ?_
  refine qx_same ?_
  refine qn_then ?_
  refine cs_seq ?_
  refine cs_region (l:=[_,_]) ?_
  refine lv (.int .i64 x5_1) ?_
  refine lv (.int .i64 x5_1) ?_
  refine ls_end ?_
  refine qn_then ?_
  refine cs_ret' ?_
  obtain rfl := Option.some.inj H
  refine qr_res (rs:=[_]) rfl (fun w' hs=>⟨[.int .i64 x5_1],(res_tmp (by kernel_rfl) (.nil)),(),rfl,hs.pick (ts:=[]) (cs:=[]) trivial (by decide)⟩)
 replace H := ite_f q3 H
 obtain ⟨s2_9,hs2_9⟩ := exv (.bool false)
 refine have_opa leaf_shared.tab0 0 9 (fun sp=>sp 9=s2_9∧sp 4=s2_4∧sp 8=spu) (fun sp on hA hon=>?_) (fun ops2_9=>?_)
 ·refine ⟨fun o ho vs Rs f' S' w hp hf hx hS hR hs=>?_⟩
  obtain rfl := Option.some.inj ho
  obtain ⟨hv4,hR4⟩ := (spe hA.2.1 hs2_4 (hp 4 (by kernel_rfl)))
  obtain ⟨hv8,hR8⟩ := (spe hA.2.2 rfl (hp 8 (by kernel_rfl)):spu _ _)
  exact opv (.bool false) hA.1 hs2_9 hon (fr_next (fr_next (rfl) (((hf 4 10 (by kernel_rfl) rfl).trans hv4).trans (congrArg Value.bool (show (decide (x5_1<(l0.length:Int)))=false from dec_f q3)))) ((hf 8 14 (by kernel_rfl) rfl).trans hv8))
 obtain ⟨s2_10,hs2_10⟩ := exv (.bool false)
 refine have_opa leaf_shared.tab0 0 10 (fun sp=>sp 10=s2_10∧sp 9=s2_9) (fun sp on hA hon=>?_) (fun ops2_10=>?_)
 ·refine ⟨fun o ho vs Rs f' S' w hp hf hx hS hR hs=>?_⟩
  obtain rfl := Option.some.inj ho
  obtain ⟨hv9,hR9⟩ := (spe hA.2 hs2_9 (hp 9 (by kernel_rfl)))
  exact opv (.bool false) hA.1 hs2_10 hon (fr_next (rfl) ((hf 9 15 (by kernel_rfl) rfl).trans hv9))
 refine cs_draw leaf_shared.tab0 19 0 (spl [s2_0,s2_1,s2_2,s2_3,s2_4,spu,spu,spu,spu,s2_9,s2_10,spu,spu,spu,spu,spu,spu,spu,spu]) (onl [true,true,true,true,true,false,false,false,false,true,true,false,false,false,false,false,false,false,false]) (by kernel_rfl) (by kernel_rfl) (by kernel_rfl) (by kernel_rfl) (rs:=[_,_]) rfl (by kernel_rfl) (by kernel_rfl) (all_snoc (all_snoc (all_snoc (all_snoc (all_snoc (all_snoc (all_snoc (all_snoc (all_snoc (all_snoc (all_snoc (all_snoc (all_snoc (all_snoc (all_snoc (all_snoc (all_snoc (all_snoc (all_snoc (all_nil) (ops2_0 _ _ rfl rfl)) (ops2_1 _ _ rfl rfl)) (ops2_2 _ _ ⟨rfl,rfl⟩ rfl)) (ops2_3 _ _ ⟨rfl,rfl,rfl⟩ rfl)) (ops2_4 _ _ ⟨rfl,rfl⟩ rfl)) (op_offi 5 4 10 true rfl rfl (by kernel_rfl) (by kernel_rfl) rfl (fun v R h=>by rw [hs2_4] at h; obtain ⟨h,_⟩ := h; exact h.trans (congrArg Value.bool (show (decide (x5_1<(l0.length:Int)))=false from dec_f q3))) rfl rfl)) (op_offi 6 4 10 true rfl rfl (by kernel_rfl) (by kernel_rfl) rfl (fun v R h=>by rw [hs2_4] at h; obtain ⟨h,_⟩ := h; exact h.trans (congrArg Value.bool (show (decide (x5_1<(l0.length:Int)))=false from dec_f q3))) rfl rfl)) (op_offi 7 4 10 true rfl rfl (by kernel_rfl) (by kernel_rfl) rfl (fun v R h=>by rw [hs2_4] at h; obtain ⟨h,_⟩ := h; exact h.trans (congrArg Value.bool (show (decide (x5_1<(l0.length:Int)))=false from dec_f q3))) rfl rfl)) (op_offi 8 4 10 true rfl rfl (by kernel_rfl) (by kernel_rfl) rfl (fun v R h=>by rw [hs2_4] at h; obtain ⟨h,_⟩ := h; exact h.trans (congrArg Value.bool (show (decide (x5_1<(l0.length:Int)))=false from dec_f q3))) rfl rfl)) (ops2_9 _ _ ⟨rfl,rfl,rfl⟩ rfl)) (ops2_10 _ _ ⟨rfl,rfl⟩ rfl)) (op_offi 11 10 16 true rfl rfl (by kernel_rfl) (by kernel_rfl) rfl (fun v R h=>by rw [hs2_10] at h; obtain ⟨h,_⟩ := h; exact h) rfl rfl)) (op_offi 12 10 16 true rfl rfl (by kernel_rfl) (by kernel_rfl) rfl (fun v R h=>by rw [hs2_10] at h; obtain ⟨h,_⟩ := h; exact h) rfl rfl)) (op_offi 13 10 16 true rfl rfl (by kernel_rfl) (by kernel_rfl) rfl (fun v R h=>by rw [hs2_10] at h; obtain ⟨h,_⟩ := h; exact h) rfl rfl)) (op_offi 14 10 16 true rfl rfl (by kernel_rfl) (by kernel_rfl) rfl (fun v R h=>by rw [hs2_10] at h; obtain ⟨h,_⟩ := h; exact h) rfl rfl)) (op_offi 15 10 16 true rfl rfl (by kernel_rfl) (by kernel_rfl) rfl (fun v R h=>by rw [hs2_10] at h; obtain ⟨h,_⟩ := h; exact h) rfl rfl)) (op_offi 16 10 16 true rfl rfl (by kernel_rfl) (by kernel_rfl) rfl (fun v R h=>by rw [hs2_10] at h; obtain ⟨h,_⟩ := h; exact h) rfl rfl)) (op_offi 17 10 16 true rfl rfl (by kernel_rfl) (by kernel_rfl) rfl (fun v R h=>by rw [hs2_10] at h; obtain ⟨h,_⟩ := h; exact h) rfl rfl)) (op_offi 18 10 16 true rfl rfl (by kernel_rfl) (by kernel_rfl) rfl (fun v R h=>by rw [hs2_10] at h; obtain ⟨h,_⟩ := h; exact h) rfl rfl)) ?_
 intro vs Rs f' S' hp hf hx hS hR
 obtain ⟨hv10,hR10⟩ := (spe rfl hs2_10 (hp 10 (by kernel_rfl)))
 obtain ⟨hv14,hR14⟩ := (spe rfl rfl (hp 14 (by kernel_rfl)):spu _ _)
 obtain ⟨hv18,hR18⟩ := (spe rfl rfl (hp 18 (by kernel_rfl)):spu _ _)
 refine ls_fr (F:=upd (upd (upd (upd f' 0 (.slice A0 l0.length c0)) 1 (.slice A1 l1.length c1)) 5 (.int .i64 x5_1)) 16 (.bool false)) (fr_next (fr_next (fr_next (fr_next (rfl) ((hx 0 (by kernel_rfl)).trans (by kernel_rfl:(_:Value)=.slice A0 l0.length c0))) ((hx 1 (by kernel_rfl)).trans (by kernel_rfl:(_:Value)=.slice A1 l1.length c1))) ((hx 5 (by kernel_rfl)).trans (by kernel_rfl:(_:Value)=.int .i64 x5_1))) ((hf 10 16 (by kernel_rfl) rfl).trans hv10)) ?_
 refine ls_sub (s0) (sub_nil _) ?_
 refine lofx 10 16 true false ?_
 refine lv (.bool false) ?_
 refine ls_end ?_
 refine qn_then ?_
 refine cs_false (by kernel_rfl) ?_
 refine cs_exit' ?_
 refine qx_then ?_
 refine qx_then ?_
 refine qx_same ?_
 refine qn_then ?_
 refine cs_seq ?_
 refine cs_region (l:=[_,_]) ?_
 refine lv (.int .i64 x5_1) ?_
 refine lv (.int .i64 x5_1) ?_
 refine ls_end ?_
 refine qn_then ?_
 refine cs_ret' ?_
 obtain rfl := Option.some.inj H
 refine qr_res (rs:=[_]) rfl (fun w' hs=>⟨[.int .i64 x5_1],(res_tmp (by kernel_rfl) (.nil)),(),rfl,hs.pick (ts:=[]) (cs:=[]) trivial (by decide)⟩)
def codec_Text.f (k:Nat) (l0:List Int) (a1:ByteArray):Option ((List Int)) :=
  (codec_Short.f k l0 (IntKind.wrap .u64 (a1.size:Int))).bind fun t1=>(if t1.length+a1.size≤140737488355328 then some (t1++bl a1) else none)
theorem codec_Text.calls (k:Nat) (A0:Option Addr) (c0:Nat) (l0:List Int) (a1:ByteArray) (r:(List Int)) (b:Bs) (hs0:St b (stl []) b.w) (R0:Ro b A0 (em (Ec.int 5 .u8) l0)) (C0:l0.length≤c0) (H:codec_Text.f k l0 a1=some r) :
    Calls Try.prog 62 #[.slice A0 l0.length c0,.string a1] b.w fun e w'=>∃ x:(Option Addr × Nat),e=.returned (.slice x.1 r.length x.2)∧St b (stl [Ck.sl (Ec.int 5 .u8) x.1 x.2 r]) w' := by
 unfold codec_Text.f at H
 refine enterb (n:=12) Try.func62 rfl (by kernel_rfl) (by kernel_rfl) hs0 ?_
 refine cs_sub (s0) (sub_nil _) ?_
 refine cs_seq ?_
 refine cs_region (l:=[_]) ?_
 refine lv (.slice none 0 0) ?_
 refine ls_end ?_
 refine qn_then ?_
 refine cs_seq ?_
 refine cs_region (l:=[_,_,_,_,_,_,_,_]) ?_
 refine lv (.slice A0 l0.length c0) ?_
 refine lv (.string a1) ?_
 refine lv (.int .i64 (a1.size:Int)) ?_
 refine lv (.int .u64 (IntKind.wrap .u64 (a1.size:Int))) ?_
 obtain ⟨t1,hc2,H⟩ := bind_some H
 refine ls_callb (fid:=60) (vals:=#[.slice A0 l0.length c0,.int .u64 (IntKind.wrap .u64 (a1.size:Int))]) (X:=(Option Addr × Nat)) (fun x=>.slice x.1 t1.length x.2) (fun x=>stl [Ck.sl (Ec.int 5 .u8) x.1 x.2 t1]) [] [] [] [] 0 rfl rfl (by kernel_rfl) (fun w=>by kernel_rfl) trivial trivial (by decide) (fun w hs hb=>codec_Short.calls k A0 c0 l0 (IntKind.wrap .u64 (a1.size:Int)) t1 (lent b w [] []) hb (hs.ro R0 _ _) C0 hc2) ?_
 intro x3
 refine lv (.string a1) ?_
 obtain ⟨q4,H⟩ := ite_need H
 refine ls_apps (A:=x3.1) (c:=x3.2) (e:=5) (l:=t1) (y:=a1) 0 rfl rfl (by kernel_rfl) rfl (by kernel_rfl) (by exact rfl) (by kernel_rfl) (by kernel_rfl) (by kernel_rfl) (by kernel_rfl) q4 ?_
 intro xA5 xc6
 refine lv (.slice xA5 (t1++bl a1).length xc6) ?_
 refine ls_end ?_
 refine qn_then ?_
 refine cs_ret' ?_
 obtain rfl := Option.some.inj H
 refine qr_res (rs:=[_]) rfl (fun w' hs=>⟨[.slice xA5 (t1++bl a1).length xc6],(res_tmp (by kernel_rfl) (.nil)),(xA5,xc6),rfl,hs.pick (ts:=[0]) (cs:=[Ck.sl (Ec.int 5 .u8) xA5 xc6 (t1++bl a1)]) ⟨by exact rfl,trivial⟩ (by decide)⟩)
def codec_Fixed.lo4 (a1:Int) (l2:List Int) (x23_2:Int) (lo2:(List Int)→Int→Option ((List Int))):Nat→(List Int)→Int→Option ((List Int))
  | 0,_,_=>none
  | k4+1,l7_4,x28_4=>(if x28_4<a1 then (if 0≤IntKind.wrap .i64 ((8:Int)*x28_4) then lt (shrv .u64 ((l2).getD (x23_2).toNat (0:Int)) (IntKind.wrap .i64 ((8:Int)*x28_4))) fun y11=>(if (l7_4.length+([IntKind.wrap .u8 y11]).length)*1≤140737488355328 then (codec_Fixed.lo4 a1 l2 x23_2 lo2 k4) (l7_4++[IntKind.wrap .u8 y11]) (IntKind.wrap .i64 (x28_4+(1:Int))) else none) else none) else lo2 l7_4 (IntKind.wrap .i64 (x23_2+(1:Int))))
def codec_Fixed.jo3 (a1:Int) (l2:List Int) (l7_2:List Int) (x23_2:Int) (k2:Nat) (lo2:(List Int)→Int→Option ((List Int))):Option ((List Int)) := (if 0≤x23_2 then (if x23_2<(l2.length:Int) then codec_Fixed.lo4 a1 l2 x23_2 lo2 k2 l7_2 (0:Int) else none) else none)
def codec_Fixed.lo2 (a1:Int) (l2:List Int):Nat→(List Int)→Int→Option ((List Int))
  | 0,_,_=>none
  | k2+1,l7_2,x23_2=>(if x23_2<(l2.length:Int) then (codec_Fixed.jo3 a1 l2 l7_2 x23_2 k2 (codec_Fixed.lo2 a1 l2 k2)) else some l7_2)
def codec_Fixed.jo1 (k:Nat) (l0:List Int) (a1:Int) (l2:List Int):Option ((List Int)) := codec_Fixed.lo2 a1 l2 k (([]:List Int)++l0) (0:Int)
def codec_Fixed.f (k:Nat) (l0:List Int) (a1:Int) (l2:List Int):Option ((List Int)) :=
  (if (([]:List Int).length+l0.length)*1≤140737488355328 then (if a1<(1:Int) then some (([]:List Int)++l0) else (if a1 > (8:Int) then some (([]:List Int)++l0) else (codec_Fixed.jo1 k l0 a1 l2))) else none)
theorem codec_Fixed.calls (k:Nat) (A0:Option Addr) (c0:Nat) (l0:List Int) (a1:Int) (A2:Option Addr) (c2:Nat) (l2:List Int) (r:(List Int)) (b:Bs) (hs0:St b (stl []) b.w) (R0:Ro b A0 (em (Ec.int 5 .u8) l0)) (C0:l0.length≤c0) (R2:Ro b A2 (em (Ec.int 85 .u64) l2)) (C2:l2.length≤c2) (H:codec_Fixed.f k l0 a1 l2=some r) :
    Calls Try.prog 92 #[.slice A0 l0.length c0,.int .i64 a1,.slice A2 l2.length c2] b.w fun e w'=>∃ x:(Option Addr × Nat),e=.returned (.slice x.1 r.length x.2)∧St b (stl [Ck.sl (Ec.int 5 .u8) x.1 x.2 r]) w' := by
 unfold codec_Fixed.f at H
 refine enterb (n:=42) Try.func92 rfl (by kernel_rfl) (by kernel_rfl) hs0 ?_
 refine cs_sub (s0) (sub_nil _) ?_
 refine cs_seq ?_
 refine cs_region (l:=[_]) ?_
 refine lv (.slice none 0 0) ?_
 refine ls_end ?_
 refine qn_then ?_
 refine cs_seq ?_
 refine cs_region (l:=[_,_,_,_]) ?_
 refine ls_lit (Ec.int 5 .u8) 0 rfl rfl (by kernel_rfl) ([]:List Int) (by exact of_decide_eq_true (by kernel_rfl)) (fun w=>by kernel_rfl) ?_
 intro g1
 refine lv (.slice A0 l0.length c0) ?_
 obtain ⟨q2,H⟩ := ite_need H
 refine ls_app (Ec.int 5 .u8) (A:=(some ⟨g1,0,none⟩)) (c:=([]:List Int).length) (B:=A0) (cb:=c0) (z:=(Value.int .u8 0)) (l:=([]:List Int)) (m:=l0) (bytes:=1) 0 rfl rfl (by kernel_rfl) rfl (by kernel_rfl) (by exact rfl) (by kernel_rfl) (fun w hs=>(hs.old R0)) (by kernel_rfl) (by kernel_rfl) rfl (by decide) q2 ?_
 intro xA3 xc4
 refine lv (.slice xA3 (([]:List Int)++l0).length xc4) ?_
 refine ls_end ?_
 refine qn_then ?_
 refine cs_cut (fun f S=>∃ (fR:Fr),f=upd (upd (upd fR 1 (.int .i64 a1)) 2 (.slice A2 l2.length c2)) 7 (.slice xA3 (([]:List Int)++l0).length xc4)∧S=sput s0 0 (some (Ck.sl (Ec.int 5 .u8) xA3 xc4 (([]:List Int)++l0)))∧codec_Fixed.jo1 k l0 a1 l2=some r) ?_ ?_
 ·skip
  refine cs_seq ?_
  refine cs_region (l:=[_,_,_,_,_,_]) ?_
  refine lv (.int .i64 a1) ?_
  refine lv (.bool (decide (a1<(1:Int)))) ?_
  refine lv (.bool (decide (a1<(1:Int)))) ?_
  by_cases q18:a1<(1:Int)
  ·replace H := ite_t q18 H
   refine ls_know (c:=true) (dec_t q18) 16 (by kernel_rfl) ?_
   refine lofx 2 16 false true ?_
   refine lofx 2 16 false true ?_
   refine lv (.bool true) ?_
   refine ls_end ?_
   refine qn_then ?_
   refine cs_true (by kernel_rfl) ?_
   refine cs_seq ?_
   refine cs_region (l:=[_,_]) ?_
   refine lv (.slice xA3 (([]:List Int)++l0).length xc4) ?_
   refine lv (.slice xA3 (([]:List Int)++l0).length xc4) ?_
   refine ls_end ?_
   refine qn_then ?_
   refine cs_ret' ?_
   refine qr_then ?_
   obtain rfl := Option.some.inj H
   refine qr_res (rs:=[_]) rfl (fun w' hs=>⟨[.slice xA3 (([]:List Int)++l0).length xc4],(res_tmp (by kernel_rfl) (.nil)),(xA3,xc4),rfl,hs.pick (ts:=[0]) (cs:=[Ck.sl (Ec.int 5 .u8) xA3 xc4 (([]:List Int)++l0)]) ⟨by exact rfl,trivial⟩ (by decide)⟩)
  replace H := ite_f q18 H
  refine ls_know (c:=false) (dec_f q18) 16 (by kernel_rfl) ?_
  refine ls_on (j:=2) (t:=16) (b:=false) rfl rfl (by kernel_rfl) (by kernel_rfl) ?_
  refine lv (.int .i64 a1) ?_
  refine ls_on (j:=2) (t:=16) (b:=false) rfl rfl (by kernel_rfl) (by kernel_rfl) ?_
  refine lv (.bool (decide (a1 > (8:Int)))) ?_
  refine lv (.bool (decide (a1 > (8:Int)))) ?_
  refine ls_end ?_
  refine qn_then ?_
  by_cases q19:a1 > (8:Int)
  ·replace H := ite_t q19 H
   refine cs_know (c:=true) (dec_t q19) 19 (by kernel_rfl) ?_
   refine cs_true (by kernel_rfl) ?_
   refine cs_seq ?_
   refine cs_region (l:=[_,_]) ?_
   refine lv (.slice xA3 (([]:List Int)++l0).length xc4) ?_
   refine lv (.slice xA3 (([]:List Int)++l0).length xc4) ?_
   refine ls_end ?_
   refine qn_then ?_
   refine cs_ret' ?_
   refine qr_then ?_
   obtain rfl := Option.some.inj H
   refine qr_res (rs:=[_]) rfl (fun w' hs=>⟨[.slice xA3 (([]:List Int)++l0).length xc4],(res_tmp (by kernel_rfl) (.nil)),(xA3,xc4),rfl,hs.pick (ts:=[0]) (cs:=[Ck.sl (Ec.int 5 .u8) xA3 xc4 (([]:List Int)++l0)]) ⟨by exact rfl,trivial⟩ (by decide)⟩)
  replace H := ite_f q19 H
  refine cs_know (c:=false) (dec_f q19) 19 (by kernel_rfl) ?_
  refine cs_false (by kernel_rfl) ?_
  refine cs_skip' ?_
  refine qn_meet (sput s0 0 (some (Ck.sl (Ec.int 5 .u8) xA3 xc4 (([]:List Int)++l0)))) ⟨_,fr_next (fr_next (fr_next (rfl) (by kernel_rfl)) (by kernel_rfl)) (by kernel_rfl),rfl,H⟩ (sub_put (by exact rfl) (sub_nil _))
 rintro f S ⟨fr1,rfl,rfl,H⟩
 replace H:(codec_Fixed.lo2 a1 l2 k (([]:List Int)++l0) (0:Int))=some r := H
 refine cs_seq ?_
 refine cs_seq ?_
 refine cs_region (l:=[_,_,_]) ?_
 refine lv (.slice A2 l2.length c2) ?_
 refine lv (.int .i64 (l2.length:Int)) ?_
 refine lv (.int .i64 (0:Int)) ?_
 refine ls_end ?_
 refine qn_then ?_
 refine cs_block ?_
 refine cs_sub (sput s0 0 (some (Ck.sl (Ec.int 5 .u8) xA3 xc4 (([]:List Int)++l0)))) (sub_put (by exact rfl) (sub_nil _)) ?_
 refine cs_loop (fun kk f S=>∃ (fR:Fr) (A7_2:Option Addr) (c7_2:Nat) (l7_2:List Int) (x23_2:Int),f=upd (upd (upd (upd (upd fR 1 (.int .i64 a1)) 7 (.slice A7_2 l7_2.length c7_2)) 21 (.slice A2 l2.length c2)) 22 (.int .i64 (l2.length:Int))) 23 (.int .i64 x23_2)∧S=sput s0 0 (some (Ck.sl (Ec.int 5 .u8) A7_2 c7_2 l7_2))∧codec_Fixed.lo2 a1 l2 kk l7_2 x23_2=some r) k ?_ ?_ ?_
 ·exact ⟨_,xA3,xc4,(([]:List Int)++l0),(0:Int),fr_next (fr_next (fr_next (fr_next (fr_next (rfl) (by kernel_rfl)) (by kernel_rfl)) (by kernel_rfl)) (by kernel_rfl)) (by kernel_rfl),rfl,H⟩
 ·rintro f S ⟨fr2,A7_2,c7_2,l7_2,x23_2,rfl,rfl,H⟩; cases H
 rintro k2 f S ⟨fr2,A7_2,c7_2,l7_2,x23_2,rfl,rfl,H⟩
 replace H:((if x23_2<(l2.length:Int) then (codec_Fixed.jo3 a1 l2 l7_2 x23_2 k2 (codec_Fixed.lo2 a1 l2 k2)) else some l7_2))=some r := H
 refine cs_seq ?_
 refine cs_region (l:=[_]) ?_
 refine lv (.bool (decide (x23_2<(l2.length:Int)))) ?_
 refine ls_end ?_
 refine qn_then ?_
 refine cs_cut (fun f S=>∃ (fR:Fr),f=upd (upd (upd (upd (upd fR 1 (.int .i64 a1)) 7 (.slice A7_2 l7_2.length c7_2)) 21 (.slice A2 l2.length c2)) 22 (.int .i64 (l2.length:Int))) 23 (.int .i64 x23_2)∧S=sput s0 0 (some (Ck.sl (Ec.int 5 .u8) A7_2 c7_2 l7_2))∧codec_Fixed.jo3 a1 l2 l7_2 x23_2 k2 (codec_Fixed.lo2 a1 l2 k2)=some r) ?_ ?_
 ·skip
  by_cases q17:x23_2<(l2.length:Int)
  ·replace H := ite_t q17 H
   refine cs_know (c:=true) (dec_t q17) 24 (by kernel_rfl) ?_
   refine cs_true (by kernel_rfl) ?_
   refine cs_skip' ?_
   refine qn_meet (sput s0 0 (some (Ck.sl (Ec.int 5 .u8) A7_2 c7_2 l7_2))) ⟨_,fr_next (fr_next (fr_next (fr_next (fr_next (rfl) (by kernel_rfl)) (by kernel_rfl)) (by kernel_rfl)) (by kernel_rfl)) (by kernel_rfl),rfl,H⟩ (sub_put (by exact rfl) (sub_nil _))
  replace H := ite_f q17 H
  refine cs_know (c:=false) (dec_f q17) 24 (by kernel_rfl) ?_
  refine cs_false (by kernel_rfl) ?_
  refine cs_exit' ?_
  refine qx_then ?_
  refine qx_then ?_
  refine qx_same ?_
  refine qn_then ?_
  refine cs_seq ?_
  refine cs_region (l:=[_,_]) ?_
  refine lv (.slice A7_2 l7_2.length c7_2) ?_
  refine lv (.slice A7_2 l7_2.length c7_2) ?_
  refine ls_end ?_
  refine qn_then ?_
  refine cs_ret' ?_
  obtain rfl := Option.some.inj H
  refine qr_res (rs:=[_]) rfl (fun w' hs=>⟨[.slice A7_2 l7_2.length c7_2],(res_tmp (by kernel_rfl) (.nil)),(A7_2,c7_2),rfl,hs.pick (ts:=[0]) (cs:=[Ck.sl (Ec.int 5 .u8) A7_2 c7_2 l7_2]) ⟨by exact rfl,trivial⟩ (by decide)⟩)
 rintro f S ⟨fr3,rfl,rfl,H⟩
 replace H:((if 0≤x23_2 then (if x23_2<(l2.length:Int) then codec_Fixed.lo4 a1 l2 x23_2 (codec_Fixed.lo2 a1 l2 k2) k2 l7_2 (0:Int) else none) else none))=some r := H
 refine cs_seq ?_
 refine cs_block ?_
 refine cs_seq ?_
 refine cs_region (l:=[_,_,_]) ?_
 obtain ⟨q5,H⟩ := ite_need H
 obtain ⟨q6,H⟩ := ite_need H
 obtain ⟨ad7,hA8⟩ := ido_at (T:=(Ec.int 85 .u64)) (l:=l2) (i:=x23_2) R2 q5 q6
 refine ls_idxv (Ec.int 85 .u64) (A:=A2) (c:=c2) (l:=l2) (k:=.i64) (i:=x23_2) (z:=1) (ad:=ad7) rfl rfl (by kernel_rfl) hA8 rfl (by kernel_rfl) (by kernel_rfl) (by kernel_rfl) (by kernel_rfl) q5 q6 ?_
 refine ls_load (a0:=(ad7.add ((x23_2).toNat*1))) (v:=.int .u64 ((l2).getD (x23_2).toNat (0:Int))) (de:=(TypeDesc.int .u64)) rfl rfl (by kernel_rfl) rfl (by kernel_rfl) (by kernel_rfl) (by kernel_rfl) (fun w hs=>(hs.old R2).at hA8 (em_sub (Ec.int 85 .u64) l2 (i:=(x23_2).toNat) (by have h0:(0:Int)≤x23_2 := q5; have h1:x23_2<(l2.length:Int) := q6; omega))) ?_
 refine lv (.int .u64 ((l2).getD (x23_2).toNat (0:Int))) ?_
 refine ls_end ?_
 refine qn_then ?_
 refine cs_seq ?_
 refine cs_region (l:=[_,_]) ?_
 refine lv (.int .i64 a1) ?_
 refine lv (.int .i64 (0:Int)) ?_
 refine ls_end ?_
 refine qn_then ?_
 refine cs_block ?_
 refine cs_sub (sput s0 0 (some (Ck.sl (Ec.int 5 .u8) A7_2 c7_2 l7_2))) (sub_put (by exact rfl) (sub_nil _)) ?_
 refine cs_loop (fun kk f S=>∃ (fR:Fr) (A7_4:Option Addr) (c7_4:Nat) (l7_4:List Int) (x28_4:Int),f=upd (upd (upd (upd (upd (upd (upd (upd fR 1 (.int .i64 a1)) 7 (.slice A7_4 l7_4.length c7_4)) 9 (.int .u64 ((l2).getD (x23_2).toNat (0:Int)))) 21 (.slice A2 l2.length c2)) 22 (.int .i64 (l2.length:Int))) 23 (.int .i64 x23_2)) 27 (.int .i64 a1)) 28 (.int .i64 x28_4)∧S=sput s0 0 (some (Ck.sl (Ec.int 5 .u8) A7_4 c7_4 l7_4))∧codec_Fixed.lo4 a1 l2 x23_2 (codec_Fixed.lo2 a1 l2 k2) kk l7_4 x28_4=some r) k2 ?_ ?_ ?_
 ·exact ⟨_,A7_2,c7_2,l7_2,(0:Int),fr_next (fr_next (fr_next (fr_next (fr_next (fr_next (fr_next (fr_next (rfl) (by kernel_rfl)) (by kernel_rfl)) (by kernel_rfl)) (by kernel_rfl)) (by kernel_rfl)) (by kernel_rfl)) (by kernel_rfl)) (by kernel_rfl),rfl,H⟩
 ·rintro f S ⟨fr4,A7_4,c7_4,l7_4,x28_4,rfl,rfl,H⟩; cases H
 rintro k4 f S ⟨fr4,A7_4,c7_4,l7_4,x28_4,rfl,rfl,H⟩
 replace H:((if x28_4<a1 then (if 0≤IntKind.wrap .i64 ((8:Int)*x28_4) then lt (shrv .u64 ((l2).getD (x23_2).toNat (0:Int)) (IntKind.wrap .i64 ((8:Int)*x28_4))) fun y11=>(if (l7_4.length+([IntKind.wrap .u8 y11]).length)*1≤140737488355328 then (codec_Fixed.lo4 a1 l2 x23_2 (codec_Fixed.lo2 a1 l2 k2) k4) (l7_4++[IntKind.wrap .u8 y11]) (IntKind.wrap .i64 (x28_4+(1:Int))) else none) else none) else (codec_Fixed.lo2 a1 l2 k2) l7_4 (IntKind.wrap .i64 (x23_2+(1:Int)))))=some r := H
 refine cs_seq ?_
 refine cs_region (l:=[_]) ?_
 refine lv (.bool (decide (x28_4<a1))) ?_
 refine ls_end ?_
 refine qn_then ?_
 refine cs_seq ?_
 by_cases q9:x28_4<a1
 ·replace H := ite_t q9 H
  refine cs_know (c:=true) (dec_t q9) 29 (by kernel_rfl) ?_
  refine cs_true (by kernel_rfl) ?_
  refine cs_skip' ?_
  refine qn_then ?_
  refine cs_seq ?_
  refine cs_block ?_
  refine cs_seq ?_
  refine cs_region (l:=[_,_]) ?_
  refine lv (.int .i64 x28_4) ?_
  refine lv (.int .i64 x28_4) ?_
  refine ls_end ?_
  refine qn_then ?_
  refine cs_region (l:=[_,_,_,_,_,_,_,_,_]) ?_
  refine lv (.slice A7_4 l7_4.length c7_4) ?_
  refine lv (.int .u64 ((l2).getD (x23_2).toNat (0:Int))) ?_
  refine lv (.int .i64 x28_4) ?_
  refine lv (.int .i64 (IntKind.wrap .i64 ((8:Int)*x28_4))) ?_
  obtain ⟨q10,H⟩ := ite_need H
  obtain ⟨y11,hy12,H⟩ := lt_some H
  refine ls_shiftr (k:=.u64) (yk:=.i64) (x:=((l2).getD (x23_2).toNat (0:Int))) (y:=(IntKind.wrap .i64 ((8:Int)*x28_4))) rfl rfl (by kernel_rfl) (fun w=>by kernel_rfl) q10 ?_
  refine ls_ren 35 (v:=.int .u64 (shrv .u64 ((l2).getD (x23_2).toNat (0:Int)) (IntKind.wrap .i64 ((8:Int)*x28_4)))) (v' := .int .u64 y11) (by kernel_rfl) (by rw [hy12]) ?_
  refine lv (.int .u8 (IntKind.wrap .u8 y11)) ?_
  refine ls_lit (Ec.int 5 .u8) 1 rfl rfl (by kernel_rfl) ([IntKind.wrap .u8 y11]) (by exact of_decide_eq_true (by kernel_rfl)) (fun w=>by kernel_rfl) ?_
  intro g13
  obtain ⟨q14,H⟩ := ite_need H
  refine ls_app (Ec.int 5 .u8) (A:=A7_4) (c:=c7_4) (B:=(some ⟨g13,0,none⟩)) (cb:=[IntKind.wrap .u8 y11].length) (z:=(Value.int .u8 0)) (l:=l7_4) (m:=[IntKind.wrap .u8 y11]) (bytes:=1) 0 rfl rfl (by kernel_rfl) rfl (by kernel_rfl) (by exact rfl) (by kernel_rfl) (fun w hs=>(hs.rd (k:=1) (by exact rfl))) (by kernel_rfl) (by kernel_rfl) rfl (by decide) q14 ?_
  intro xA15 xc16
  refine lv (.slice xA15 (l7_4++[IntKind.wrap .u8 y11]).length xc16) ?_
  refine ls_end ?_
  refine qn_block ?_
  refine qn_then ?_
  refine cs_region (l:=[_,_]) ?_
  refine lv (.int .i64 (IntKind.wrap .i64 (x28_4+(1:Int)))) ?_
  refine lv (.int .i64 (IntKind.wrap .i64 (x28_4+(1:Int)))) ?_
  refine ls_end ?_
  refine qn_again k4 (sput s0 0 (some (Ck.sl (Ec.int 5 .u8) xA15 xc16 (l7_4++[IntKind.wrap .u8 y11])))) (Nat.le_refl _) ⟨_,xA15,xc16,(l7_4++[IntKind.wrap .u8 y11]),(IntKind.wrap .i64 (x28_4+(1:Int))),fr_next (fr_next (fr_next (fr_next (fr_next (fr_next (fr_next (fr_next (rfl) (by kernel_rfl)) (by kernel_rfl)) (by kernel_rfl)) (by kernel_rfl)) (by kernel_rfl)) (by kernel_rfl)) (by kernel_rfl)) (by kernel_rfl),rfl,H⟩ (sub_put (by exact rfl) (sub_nil _))
 replace H := ite_f q9 H
 refine cs_know (c:=false) (dec_f q9) 29 (by kernel_rfl) ?_
 refine cs_false (by kernel_rfl) ?_
 refine cs_exit' ?_
 refine qx_then ?_
 refine qx_then ?_
 refine qx_same ?_
 refine qn_block ?_
 refine qn_then ?_
 refine cs_region (l:=[_,_]) ?_
 refine lv (.int .i64 (IntKind.wrap .i64 (x23_2+(1:Int)))) ?_
 refine lv (.int .i64 (IntKind.wrap .i64 (x23_2+(1:Int)))) ?_
 refine ls_end ?_
 refine qn_again k2 (sput s0 0 (some (Ck.sl (Ec.int 5 .u8) A7_4 c7_4 l7_4))) (Nat.le_refl _) ⟨_,A7_4,c7_4,l7_4,(IntKind.wrap .i64 (x23_2+(1:Int))),fr_next (fr_next (fr_next (fr_next (fr_next (rfl) (by kernel_rfl)) (by kernel_rfl)) (by kernel_rfl)) (by kernel_rfl)) (by kernel_rfl),rfl,H⟩ (sub_put (by exact rfl) (sub_nil _))
def pointer_Put.tab9:List (List Nat) := [[],[],[1],[1,2],[1,2,3],[0,1,2,3,4],[],[6],[0,1,2,3,4,5,6,7],[0,1,2,3,4,5,6,7,8]]
def pointer_Put.f (k:Nat) (l0:List Int) (a1:PT):Option ((List Int)) :=
  (codec_Fixed.f k l0 (4:Int) ([IntKind.wrap .u64 a1.1,IntKind.wrap .u64 a1.2.2.1])).bind fun t3=>(codec_Fixed.f k t3 (8:Int) ([IntKind.wrap .u64 a1.2.1])).bind fun t7=>(codec_Fixed.f k t7 (4:Int) ([IntKind.wrap .u64 a1.2.2.2.1])).bind fun t13=>(if (t13.length+a1.2.2.2.2.1.length)*1≤140737488355328 then some (t13++a1.2.2.2.2.1) else none)
theorem pointer_Put.calls (k:Nat) (A0:Option Addr) (c0:Nat) (l0:List Int) (a1:PT) (r:(List Int)) (b:Bs) (hs0:St b (stl []) b.w) (R0:Ro b A0 (em (Ec.int 5 .u8) l0)) (C0:l0.length≤c0) (H:pointer_Put.f k l0 a1=some r) :
    Calls Try.prog 63 #[.slice A0 l0.length c0,.agg ⟨([Value.int .i64 a1.1]++([Value.int .i64 a1.2.1]++([Value.int .i64 a1.2.2.1]++([Value.int .u32 a1.2.2.2.1]++en (Value.int .u8) a1.2.2.2.2.1))))⟩] b.w fun e w'=>∃ x:(Option Addr × Nat),e=.returned (.slice x.1 r.length x.2)∧St b (stl [Ck.sl (Ec.int 5 .u8) x.1 x.2 r]) w' := by
 unfold pointer_Put.f at H
 refine enterb (n:=29) Try.func63 rfl (by kernel_rfl) (by kernel_rfl) hs0 ?_
 refine cs_sub (s0) (sub_nil _) ?_
 refine cs_seq ?_
 refine cs_region (l:=[_,_]) ?_
 refine ls_new rfl rfl (by kernel_rfl) 0 (fun g=>.pointer (some ⟨g,0,none⟩)) (.cells ⟨([Value.int .i64 a1.1]++([Value.int .i64 a1.2.1]++([Value.int .i64 a1.2.2.1]++([Value.int .u32 a1.2.2.2.1]++en (Value.int .u8) a1.2.2.2.2.1))))⟩ 44) (fun w=>by kernel_rfl) ?_
 intro g1
 refine lv (.slice none 0 0) ?_
 refine ls_end ?_
 refine qn_then ?_
 refine cs_seq ?_
 refine cs_region (l:=[_,_,_,_,_,_,_,_,_,_]) ?_
 refine lv (.slice A0 l0.length c0) ?_
 refine lv (.pointer (some ⟨g1,(0+0),none⟩)) ?_
 refine ls_load (a0:=⟨g1,(0+0),none⟩) (v:=.int .i64 a1.1) (de:=(TypeDesc.int .i64)) rfl rfl (by kernel_rfl) rfl (by kernel_rfl) (by kernel_rfl) (by kernel_rfl) (fun w hs=>(hs.var (k:=0) (by exact rfl) (Sub4.trans (Sub4.all _) (Sub4.head _ _)))) ?_
 refine lv (.int .u64 (IntKind.wrap .u64 a1.1)) ?_
 refine lv (.pointer (some ⟨g1,(0+2),none⟩)) ?_
 refine ls_load (a0:=⟨g1,(0+2),none⟩) (v:=.int .i64 a1.2.2.1) (de:=(TypeDesc.int .i64)) rfl rfl (by kernel_rfl) rfl (by kernel_rfl) (by kernel_rfl) (by kernel_rfl) (fun w hs=>(hs.var (k:=0) (by exact rfl) (Sub4.trans (Sub4.all _) (Sub4.skip (n:=1) (len1 _) (Sub4.skip (n:=1) (len1 _) (Sub4.head _ _)))))) ?_
 refine lv (.int .u64 (IntKind.wrap .u64 a1.2.2.1)) ?_
 refine ls_lit (Ec.int 85 .u64) 1 rfl rfl (by kernel_rfl) ([IntKind.wrap .u64 a1.1,IntKind.wrap .u64 a1.2.2.1]) (by exact of_decide_eq_true (by kernel_rfl)) (fun w=>by kernel_rfl) ?_
 intro g2
 obtain ⟨t3,hc4,H⟩ := bind_some H
 refine ls_callb (fid:=92) (vals:=#[.slice A0 l0.length c0,.int .i64 (4:Int),.slice (some ⟨g2,0,none⟩) ([IntKind.wrap .u64 a1.1,IntKind.wrap .u64 a1.2.2.1]).length [IntKind.wrap .u64 a1.1,IntKind.wrap .u64 a1.2.2.1].length]) (X:=(Option Addr × Nat)) (fun x=>.slice x.1 t3.length x.2) (fun x=>stl [Ck.sl (Ec.int 5 .u8) x.1 x.2 t3]) [] [1] [] [Ck.sl (Ec.int 85 .u64) (some ⟨g2,0,none⟩) ([IntKind.wrap .u64 a1.1,IntKind.wrap .u64 a1.2.2.1].length) ([IntKind.wrap .u64 a1.1,IntKind.wrap .u64 a1.2.2.1])] 2 rfl rfl (by kernel_rfl) (fun w=>by kernel_rfl) trivial ⟨by exact rfl,trivial⟩ (by decide) (fun w hs hb=>codec_Fixed.calls k A0 c0 l0 (4:Int) (some ⟨g2,0,none⟩) ([IntKind.wrap .u64 a1.1,IntKind.wrap .u64 a1.2.2.1].length) ([IntKind.wrap .u64 a1.1,IntKind.wrap .u64 a1.2.2.1]) t3 (lent b w [] [Ck.sl (Ec.int 85 .u64) (some ⟨g2,0,none⟩) ([IntKind.wrap .u64 a1.1,IntKind.wrap .u64 a1.2.2.1].length) ([IntKind.wrap .u64 a1.1,IntKind.wrap .u64 a1.2.2.1])]) hb (hs.ro R0 _ _) C0 (hs.ror (k:=1) (by exact rfl) (.head _)) (hs.cap (k:=1) (by exact rfl)) hc4) ?_
 intro x5
 refine lv (.slice x5.1 t3.length x5.2) ?_
 refine ls_end ?_
 refine qn_then ?_
 refine cs_seq ?_
 refine cs_region (l:=[_,_,_,_,_,_,_]) ?_
 refine lv (.slice x5.1 t3.length x5.2) ?_
 refine lv (.pointer (some ⟨g1,(0+1),none⟩)) ?_
 refine ls_load (a0:=⟨g1,(0+1),none⟩) (v:=.int .i64 a1.2.1) (de:=(TypeDesc.int .i64)) rfl rfl (by kernel_rfl) rfl (by kernel_rfl) (by kernel_rfl) (by kernel_rfl) (fun w hs=>(hs.var (k:=0) (by exact rfl) (Sub4.trans (Sub4.all _) (Sub4.skip (n:=1) (len1 _) (Sub4.head _ _))))) ?_
 refine lv (.int .u64 (IntKind.wrap .u64 a1.2.1)) ?_
 refine ls_lit (Ec.int 85 .u64) 3 rfl rfl (by kernel_rfl) ([IntKind.wrap .u64 a1.2.1]) (by exact of_decide_eq_true (by kernel_rfl)) (fun w=>by kernel_rfl) ?_
 intro g6
 obtain ⟨t7,hc8,H⟩ := bind_some H
 refine ls_callb (fid:=92) (vals:=#[.slice x5.1 t3.length x5.2,.int .i64 (8:Int),.slice (some ⟨g6,0,none⟩) ([IntKind.wrap .u64 a1.2.1]).length [IntKind.wrap .u64 a1.2.1].length]) (X:=(Option Addr × Nat)) (fun x=>.slice x.1 t7.length x.2) (fun x=>stl [Ck.sl (Ec.int 5 .u8) x.1 x.2 t7]) [] [2,3] [] [Ck.sl (Ec.int 5 .u8) x5.1 x5.2 t3,Ck.sl (Ec.int 85 .u64) (some ⟨g6,0,none⟩) ([IntKind.wrap .u64 a1.2.1].length) ([IntKind.wrap .u64 a1.2.1])] 4 rfl rfl (by kernel_rfl) (fun w=>by kernel_rfl) trivial ⟨by exact rfl,by exact rfl,trivial⟩ (by decide) (fun w hs hb=>codec_Fixed.calls k x5.1 x5.2 t3 (8:Int) (some ⟨g6,0,none⟩) ([IntKind.wrap .u64 a1.2.1].length) ([IntKind.wrap .u64 a1.2.1]) t7 (lent b w [] [Ck.sl (Ec.int 5 .u8) x5.1 x5.2 t3,Ck.sl (Ec.int 85 .u64) (some ⟨g6,0,none⟩) ([IntKind.wrap .u64 a1.2.1].length) ([IntKind.wrap .u64 a1.2.1])]) hb (hs.ror (k:=2) (by exact rfl) (.head _)) (hs.cap (k:=2) (by exact rfl)) (hs.ror (k:=3) (by exact rfl) (.tail _ (.head _))) (hs.cap (k:=3) (by exact rfl)) hc8) ?_
 intro x9
 refine lv (.slice x9.1 t7.length x9.2) ?_
 refine ls_end ?_
 refine qn_then ?_
 refine cs_seq ?_
 obtain ⟨s11_0,hs11_0⟩ := exv (.slice x9.1 t7.length x9.2)
 refine have_opa pointer_Put.tab9 5 0 (fun sp=>sp 0=s11_0) (fun sp on hA hon=>?_) (fun ops11_0=>?_)
 ·refine ⟨fun o ho vs Rs f' S' w hp hf hx hS hR hs=>?_⟩
  obtain rfl := Option.some.inj ho
  exact opv (.slice x9.1 t7.length x9.2) hA hs11_0 hon (fr_next (rfl) ((hx 0 (by kernel_rfl)).trans (by kernel_rfl:(_:Value)=.slice x9.1 t7.length x9.2)))
 obtain ⟨s11_1,hs11_1⟩ := exv (.pointer (some ⟨g1,(0+3),none⟩))
 refine have_opa pointer_Put.tab9 5 1 (fun sp=>sp 1=s11_1) (fun sp on hA hon=>?_) (fun ops11_1=>?_)
 ·refine ⟨fun o ho vs Rs f' S' w hp hf hx hS hR hs=>?_⟩
  obtain rfl := Option.some.inj ho
  exact opv (.pointer (some ⟨g1,(0+3),none⟩)) hA hs11_1 hon (fr_next (rfl) ((hx 3 (by kernel_rfl)).trans (by kernel_rfl:(_:Value)=.pointer (some ⟨g1,0,none⟩))))
 obtain ⟨s11_2,hs11_2⟩ := exv (.int .u32 a1.2.2.2.1)
 refine have_opa pointer_Put.tab9 5 2 (fun sp=>sp 2=s11_2∧sp 1=s11_1) (fun sp on hA hon=>?_) (fun ops11_2=>?_)
 ·refine ⟨fun o ho vs Rs f' S' w hp hf hx hS hR hs=>?_⟩
  obtain rfl := Option.some.inj ho
  obtain ⟨hv1,hR1⟩ := (spe hA.2 hs11_1 (hp 1 (by kernel_rfl)))
  rw [hA.1,hs11_2]
  refine wn hon ?_
  have hF := fr_next (rfl) ((hf 1 21 (by kernel_rfl) rfl).trans hv1)
  refine ls_fr hF ?_
  refine ls_load (a0:=⟨g1,(0+3),none⟩) (v:=.int .u32 a1.2.2.2.1) (de:=(TypeDesc.int .u32)) rfl rfl (by kernel_rfl) rfl (by kernel_rfl) (by kernel_rfl) (by kernel_rfl) (fun w1 hs1=>cell_step hs1.below.bw (hs.var (k:=0) ((hS 0 (by kernel_rfl)).trans (by exact rfl)) (Sub4.trans (Sub4.all _) (Sub4.skip (n:=1) (len1 _) (Sub4.skip (n:=1) (len1 _) (Sub4.skip (n:=1) (len1 _) (Sub4.head _ _))))))) ?_
  exact ls_fin s0 _ (congrArg (fun z=>upd z 22 _) hF.symm) ⟨rfl,rfl⟩ (sub_nil _)
 obtain ⟨s11_3,hs11_3⟩ := exv (.int .u64 (IntKind.wrap .u64 a1.2.2.2.1))
 refine have_opa pointer_Put.tab9 5 3 (fun sp=>sp 3=s11_3∧sp 2=s11_2) (fun sp on hA hon=>?_) (fun ops11_3=>?_)
 ·refine ⟨fun o ho vs Rs f' S' w hp hf hx hS hR hs=>?_⟩
  obtain rfl := Option.some.inj ho
  obtain ⟨hv2,hR2⟩ := (spe hA.2 hs11_2 (hp 2 (by kernel_rfl)))
  exact opv (.int .u64 (IntKind.wrap .u64 a1.2.2.2.1)) hA.1 hs11_3 hon (fr_next (rfl) ((hf 2 22 (by kernel_rfl) rfl).trans hv2))
 obtain ⟨s11_4,hs11_4⟩:∃ z:Value→Sto→Prop,z=(fun v R=>∃ g12:Nat,v=.slice (some ⟨g12,0,none⟩) [IntKind.wrap .u64 a1.2.2.2.1].length [IntKind.wrap .u64 a1.2.2.2.1].length∧R=sput s0 0 (some (Ck.sl (Ec.int 85 .u64) (some ⟨g12,0,none⟩) ([IntKind.wrap .u64 a1.2.2.2.1].length) ([IntKind.wrap .u64 a1.2.2.2.1])))) := ⟨_,rfl⟩
 refine have_opa pointer_Put.tab9 5 4 (fun sp=>sp 4=s11_4∧sp 3=s11_3) (fun sp on hA hon=>?_) (fun ops11_4=>?_)
 ·refine ⟨fun o ho vs Rs f' S' w hp hf hx hS hR hs=>?_⟩
  obtain rfl := Option.some.inj ho
  obtain ⟨hv3,hR3⟩ := (spe hA.2 hs11_3 (hp 3 (by kernel_rfl)))
  rw [hA.1,hs11_4]
  refine wn hon ?_
  have hF := fr_next (rfl) ((hf 3 23 (by kernel_rfl) rfl).trans hv3)
  refine ls_fr hF ?_
  refine ls_lit (Ec.int 85 .u64) 0 rfl rfl (by kernel_rfl) ([IntKind.wrap .u64 a1.2.2.2.1]) (by exact of_decide_eq_true (by kernel_rfl)) (fun w=>by kernel_rfl) ?_
  intro g12
  exact ls_fin (sput s0 0 (some (Ck.sl (Ec.int 85 .u64) (some ⟨g12,0,none⟩) ([IntKind.wrap .u64 a1.2.2.2.1].length) ([IntKind.wrap .u64 a1.2.2.2.1])))) (.slice (some ⟨g12,0,none⟩) [IntKind.wrap .u64 a1.2.2.2.1].length [IntKind.wrap .u64 a1.2.2.2.1].length) (congrArg (fun z=>upd z 24 _) hF.symm) ⟨g12,rfl,rfl⟩ (sub_put (by exact rfl) (sub_nil _))
 obtain ⟨t13,hc14,H⟩ := bind_some H
 obtain ⟨s11_5,hs11_5⟩:∃ z:Value→Sto→Prop,z=(fun v R=>∃ x15:(Option Addr × Nat),v=.slice x15.1 t13.length x15.2∧R=stl [Ck.sl (Ec.int 5 .u8) x15.1 x15.2 t13]) := ⟨_,rfl⟩
 refine have_opa pointer_Put.tab9 5 5 (fun sp=>sp 5=s11_5∧sp 0=s11_0∧sp 4=s11_4) (fun sp on hA hon=>?_) (fun ops11_5=>?_)
 ·refine ⟨fun o ho vs Rs f' S' w hp hf hx hS hR hs=>?_⟩
  obtain rfl := Option.some.inj ho
  obtain ⟨hv0,hR0⟩ := (spe hA.2.1 hs11_0 (hp 0 (by kernel_rfl)))
  obtain ⟨g12,hv4,hR4⟩ := (spe hA.2.2 hs11_4 (hp 4 (by kernel_rfl)))
  have hT4_0 := (hR 4 0 (by kernel_rfl) (by decide)).trans (congrFun hR4 0)
  rw [hA.1,hs11_5]
  refine wn hon ?_
  have hF := fr_next (fr_next (rfl) ((hf 0 20 (by kernel_rfl) rfl).trans hv0)) ((hf 4 24 (by kernel_rfl) rfl).trans hv4)
  refine ls_fr hF ?_
  refine ls_call (fid:=92) (vals:=#[.slice x9.1 t7.length x9.2,.int .i64 (4:Int),.slice (some ⟨g12,0,none⟩) ([IntKind.wrap .u64 a1.2.2.2.1]).length [IntKind.wrap .u64 a1.2.2.2.1].length]) (X:=(Option Addr × Nat)) (fun x=>.slice x.1 t13.length x.2) (fun x=>stl [Ck.sl (Ec.int 5 .u8) x.1 x.2 t13]) 0 rfl rfl (by kernel_rfl) (fun w=>by kernel_rfl) (fun w1 hs1=>codec_Fixed.calls k x9.1 x9.2 t7 (4:Int) (some ⟨g12,0,none⟩) ([IntKind.wrap .u64 a1.2.2.2.1].length) ([IntKind.wrap .u64 a1.2.2.2.1]) t13 (bw w1) (St.refl w1) (Rd.ro (Rd.step (hs.rd (k:=4) ((hS 4 (by kernel_rfl)).trans (by exact rfl))) hs1.below.bw)) (hs.cap (k:=4) ((hS 4 (by kernel_rfl)).trans (by exact rfl))) (Rd.ro (Rd.step (hs.rd (k:=37) hT4_0) hs1.below.bw)) (hs.cap (k:=37) hT4_0) hc14) ?_
  intro x15
  exact ls_fin (stl [Ck.sl (Ec.int 5 .u8) x15.1 x15.2 t13]) (.slice x15.1 t13.length x15.2) (congrArg (fun z=>upd z 25 _) hF.symm) ⟨x15,rfl,rfl⟩ (sub_join _)
 obtain ⟨s11_6,hs11_6⟩ := exv (.pointer (some ⟨g1,(0+4),none⟩))
 refine have_opa pointer_Put.tab9 5 6 (fun sp=>sp 6=s11_6) (fun sp on hA hon=>?_) (fun ops11_6=>?_)
 ·refine ⟨fun o ho vs Rs f' S' w hp hf hx hS hR hs=>?_⟩
  obtain rfl := Option.some.inj ho
  exact opv (.pointer (some ⟨g1,(0+4),none⟩)) hA hs11_6 hon (fr_next (rfl) ((hx 3 (by kernel_rfl)).trans (by kernel_rfl:(_:Value)=.pointer (some ⟨g1,0,none⟩))))
 obtain ⟨s11_7,hs11_7⟩ := exv (.slice (some ⟨g1,(0+4),none⟩) a1.2.2.2.2.1.length 32)
 refine have_opa pointer_Put.tab9 5 7 (fun sp=>sp 7=s11_7∧sp 6=s11_6) (fun sp on hA hon=>?_) (fun ops11_7=>?_)
 ·refine ⟨fun o ho vs Rs f' S' w hp hf hx hS hR hs=>?_⟩
  obtain rfl := Option.some.inj ho
  obtain ⟨hv6,hR6⟩ := (spe hA.2 hs11_6 (hp 6 (by kernel_rfl)))
  rw [hA.1,hs11_7]
  refine wn hon ?_
  have hF := fr_next (rfl) ((hf 6 26 (by kernel_rfl) rfl).trans hv6)
  refine ls_fr hF ?_
  refine ls_val (v:=.slice (some ⟨g1,(0+4),none⟩) a1.2.2.2.2.1.length 32) rfl rfl (by kernel_rfl) (fun w=>by rw [show a1.2.2.2.2.1.length=32 from a1.2.2.2.2.2]; kernel_rfl) ?_
  exact ls_fin s0 _ (congrArg (fun z=>upd z 27 _) hF.symm) ⟨rfl,rfl⟩ (sub_nil _)
 refine cs_draw pointer_Put.tab9 8 5 (spl [s11_0,s11_1,s11_2,s11_3,s11_4,s11_5,s11_6,s11_7]) (onl [true,true,true,true,true,true,true,true]) (by kernel_rfl) (by kernel_rfl) (by kernel_rfl) (by kernel_rfl) (rs:=[_,_]) rfl (by kernel_rfl) (by kernel_rfl) (all_snoc (all_snoc (all_snoc (all_snoc (all_snoc (all_snoc (all_snoc (all_snoc (all_nil) (ops11_0 _ _ rfl rfl)) (ops11_1 _ _ rfl rfl)) (ops11_2 _ _ ⟨rfl,rfl⟩ rfl)) (ops11_3 _ _ ⟨rfl,rfl⟩ rfl)) (ops11_4 _ _ ⟨rfl,rfl⟩ rfl)) (ops11_5 _ _ ⟨rfl,rfl,rfl⟩ rfl)) (ops11_6 _ _ rfl rfl)) (ops11_7 _ _ ⟨rfl,rfl⟩ rfl)) ?_
 intro vs Rs f' S' hp hf hx hS hR
 obtain ⟨g12,hv4,hR4⟩ := (spe rfl hs11_4 (hp 4 (by kernel_rfl)))
 have hT4_0 := (hR 4 0 (by kernel_rfl) (by decide)).trans (congrFun hR4 0)
 obtain ⟨x15,hv5,hR5⟩ := (spe rfl hs11_5 (hp 5 (by kernel_rfl)))
 have hT5_0 := (hR 5 0 (by kernel_rfl) (by decide)).trans (congrFun hR5 0)
 obtain ⟨hv7,hR7⟩ := (spe rfl hs11_7 (hp 7 (by kernel_rfl)))
 refine ls_fr (F:=upd (upd f' 25 (.slice x15.1 t13.length x15.2)) 27 (.slice (some ⟨g1,(0+4),none⟩) a1.2.2.2.2.1.length 32)) (fr_next (fr_next (rfl) ((hf 5 25 (by kernel_rfl) rfl).trans hv5)) ((hf 7 27 (by kernel_rfl) rfl).trans hv7)) ?_
 refine ls_sub (sput (sput s0 0 (some (Ck.var 44 g1 (([Value.int .i64 a1.1]++([Value.int .i64 a1.2.1]++([Value.int .i64 a1.2.2.1]++([Value.int .u32 a1.2.2.2.1]++en (Value.int .u8) a1.2.2.2.2.1)))))))) 45 (some (Ck.sl (Ec.int 5 .u8) x15.1 x15.2 t13))) (sub_put (by exact hT5_0) (sub_put ((hS 0 (by kernel_rfl)).trans (by exact rfl)) (sub_nil _))) ?_
 obtain ⟨q16,H⟩ := ite_need H
 refine ls_app (Ec.int 5 .u8) (A:=x15.1) (c:=x15.2) (B:=(some ⟨g1,(0+4),none⟩)) (cb:=32) (z:=(Value.int .u8 0)) (l:=t13) (m:=a1.2.2.2.2.1) (bytes:=1) 45 rfl rfl (by kernel_rfl) rfl (by kernel_rfl) (by exact rfl) (by kernel_rfl) (fun w hs=>(Rd.ofen (t:=5) (hs.vars (k:=0) (by exact rfl) (Sub4.trans (Sub4.all _) (Sub4.skip (n:=1) (len1 _) (Sub4.skip (n:=1) (len1 _) (Sub4.skip (n:=1) (len1 _) (Sub4.skip (n:=1) (len1 _) (Sub4.all _))))))))) (by kernel_rfl) (by kernel_rfl) rfl (by decide) q16 ?_
 intro xA17 xc18
 refine lv (.slice xA17 (t13++a1.2.2.2.2.1).length xc18) ?_
 refine ls_end ?_
 refine qn_then ?_
 refine cs_ret' ?_
 obtain rfl := Option.some.inj H
 refine qr_res (rs:=[_]) rfl (fun w' hs=>⟨[.slice xA17 (t13++a1.2.2.2.2.1).length xc18],(res_tmp (by kernel_rfl) (.nil)),(xA17,xc18),rfl,hs.pick (ts:=[45]) (cs:=[Ck.sl (Ec.int 5 .u8) xA17 xc18 (t13++a1.2.2.2.2.1)]) ⟨by exact rfl,trivial⟩ (by decide)⟩)
def leaf_Node_bytes.tab1:List (List Nat) := [[],[0],[0,1],[0,1,2],[],[4],[4,5],[4,5,6],[0,1,2,3,4,5,6,7],[0,1,2,3,4,5,6,7,8]]
def leaf_Node_bytes.jo2 (a0:NO) (l3_1:List Int) (l4_1:List Int) (x20_1:Int) (k1:Nat) (lo1:(List Int)→(List Int)→Int→Option ((List Int))):Option ((List Int)) := (if 0≤x20_1 then (if x20_1<(a0.2.1.length:Int) then (leaf_shared.f k1 l4_1 ((a0.2.1).getD (x20_1).toNat ([]:List Int))).bind fun t18=>(codec_Short.f k1 ([]:List Int) (IntKind.wrap .u64 t18)).bind fun t21=>(if (l3_1.length+t21.length)*1≤140737488355328 then (if 0≤t18 then (if t18≤(((a0.2.1).getD (x20_1).toNat ([]:List Int)).length:Int) then lt (((a0.2.1).getD (x20_1).toNat ([]:List Int)).drop (t18).toNat) fun xl33=>(codec_Text.f k1 ([]:List Int) (strOfNums xl33)).bind fun t38=>(if ((l3_1++t21).length+t38.length)*1≤140737488355328 then (if a0.1=(0:Int) then (if x20_1<(a0.2.2.1.length:Int) then lt (strOfNums ((a0.2.2.1).getD (x20_1).toNat ([]:List Int))) fun y52=>(codec_Text.f k1 ([]:List Int) y52).bind fun t54=>(if (((l3_1++t21)++t38).length+t54.length)*1≤140737488355328 then lo1 (((l3_1++t21)++t38)++t54) ((a0.2.1).getD (x20_1).toNat ([]:List Int)) (IntKind.wrap .i64 (x20_1+(1:Int))) else none) else none) else (if x20_1<(a0.2.2.2.length:Int) then (pointer_Put.f k1 ([]:List Int) ((a0.2.2.2).getD (x20_1).toNat ((0:Int),(0:Int),(0:Int),(0:Int),(vrep 32 (0:Int))))).bind fun t63=>(if (((l3_1++t21)++t38).length+t63.length)*1≤140737488355328 then lo1 (((l3_1++t21)++t38)++t63) ((a0.2.1).getD (x20_1).toNat ([]:List Int)) (IntKind.wrap .i64 (x20_1+(1:Int))) else none) else none)) else none) else none) else none) else none) else none) else none)
def leaf_Node_bytes.lo1 (a0:NO):Nat→(List Int)→(List Int)→Int→Option ((List Int))
  | 0,_,_,_=>none
  | k1+1,l3_1,l4_1,x20_1=>(if x20_1<(a0.2.1.length:Int) then (leaf_Node_bytes.jo2 a0 l3_1 l4_1 x20_1 k1 (leaf_Node_bytes.lo1 a0 k1)) else some l3_1)
def leaf_Node_bytes.f (k:Nat) (a0:NO):Option ((List Int)) :=
  (codec_Short.f k ([]:List Int) (IntKind.wrap .u64 a0.1)).bind fun t4=>(codec_Short.f k t4 (IntKind.wrap .u64 (a0.2.1.length:Int))).bind fun t7=>leaf_Node_bytes.lo1 a0 k t7 ([]:List Int) (0:Int)
theorem leaf_Node_bytes.calls (k:Nat) (A0_1:Option Addr) (c0_1:Nat) (A0_2:Option Addr) (c0_2:Nat) (A0_3:Option Addr) (c0_3:Nat) (a0:NO) (r:(List Int)) (b:Bs) (hs0:St b (stl []) b.w) (R0_1:RoS 23 (Ec.int 5 .u8) b A0_1 a0.2.1) (C0_1:a0.2.1.length≤c0_1) (R0_2:RoS 23 (Ec.int 5 .u8) b A0_2 a0.2.2.1) (C0_2:a0.2.2.1.length≤c0_2) (R0_3:Ro b A0_3 (em T44 a0.2.2.2)) (C0_3:a0.2.2.2.length≤c0_3) (H:leaf_Node_bytes.f k a0=some r) :
    Calls Try.prog 36 #[.agg ⟨([Value.int .i64 a0.1]++([Value.slice A0_1 a0.2.1.length c0_1]++([Value.slice A0_2 a0.2.2.1.length c0_2]++[Value.slice A0_3 a0.2.2.2.length c0_3])))⟩] b.w fun e w'=>∃ x:(Option Addr × Nat),e=.returned (.slice x.1 r.length x.2)∧St b (stl [Ck.sl (Ec.int 5 .u8) x.1 x.2 r]) w' := by
 unfold leaf_Node_bytes.f at H
 refine enterb (n:=63) Try.func36 rfl (by kernel_rfl) (by kernel_rfl) hs0 ?_
 refine cs_sub (s0) (sub_nil _) ?_
 refine cs_seq ?_
 refine cs_region (l:=[_,_]) ?_
 refine ls_new rfl rfl (by kernel_rfl) 0 (fun g=>.pointer (some ⟨g,0,none⟩)) (.cells ⟨([Value.int .i64 a0.1]++([Value.slice A0_1 a0.2.1.length c0_1]++([Value.slice A0_2 a0.2.2.1.length c0_2]++[Value.slice A0_3 a0.2.2.2.length c0_3])))⟩ 27) (fun w=>by kernel_rfl) ?_
 intro g1
 refine lv (.slice none 0 0) ?_
 refine ls_end ?_
 refine qn_then ?_
 refine cs_seq ?_
 obtain ⟨s3_0,hs3_0⟩ := exv (.pointer (some ⟨g1,(0+0),none⟩))
 refine have_opa leaf_Node_bytes.tab1 1 0 (fun sp=>sp 0=s3_0) (fun sp on hA hon=>?_) (fun ops3_0=>?_)
 ·refine ⟨fun o ho vs Rs f' S' w hp hf hx hS hR hs=>?_⟩
  obtain rfl := Option.some.inj ho
  exact opv (.pointer (some ⟨g1,(0+0),none⟩)) hA hs3_0 hon (fr_next (rfl) ((hx 1 (by kernel_rfl)).trans (by kernel_rfl:(_:Value)=.pointer (some ⟨g1,0,none⟩))))
 obtain ⟨s3_1,hs3_1⟩ := exv (.int .i64 a0.1)
 refine have_opa leaf_Node_bytes.tab1 1 1 (fun sp=>sp 1=s3_1∧sp 0=s3_0) (fun sp on hA hon=>?_) (fun ops3_1=>?_)
 ·refine ⟨fun o ho vs Rs f' S' w hp hf hx hS hR hs=>?_⟩
  obtain rfl := Option.some.inj ho
  obtain ⟨hv0,hR0⟩ := (spe hA.2 hs3_0 (hp 0 (by kernel_rfl)))
  rw [hA.1,hs3_1]
  refine wn hon ?_
  have hF := fr_next (rfl) ((hf 0 8 (by kernel_rfl) rfl).trans hv0)
  refine ls_fr hF ?_
  refine ls_load (a0:=⟨g1,(0+0),none⟩) (v:=.int .i64 a0.1) (de:=(TypeDesc.int .i64)) rfl rfl (by kernel_rfl) rfl (by kernel_rfl) (by kernel_rfl) (by kernel_rfl) (fun w1 hs1=>cell_step hs1.below.bw (hs.var (k:=0) ((hS 0 (by kernel_rfl)).trans (by exact rfl)) (Sub4.trans (Sub4.all _) (Sub4.head _ _)))) ?_
  exact ls_fin s0 _ (congrArg (fun z=>upd z 9 _) hF.symm) ⟨rfl,rfl⟩ (sub_nil _)
 obtain ⟨s3_2,hs3_2⟩ := exv (.int .u64 (IntKind.wrap .u64 a0.1))
 refine have_opa leaf_Node_bytes.tab1 1 2 (fun sp=>sp 2=s3_2∧sp 1=s3_1) (fun sp on hA hon=>?_) (fun ops3_2=>?_)
 ·refine ⟨fun o ho vs Rs f' S' w hp hf hx hS hR hs=>?_⟩
  obtain rfl := Option.some.inj ho
  obtain ⟨hv1,hR1⟩ := (spe hA.2 hs3_1 (hp 1 (by kernel_rfl)))
  exact opv (.int .u64 (IntKind.wrap .u64 a0.1)) hA.1 hs3_2 hon (fr_next (rfl) ((hf 1 9 (by kernel_rfl) rfl).trans hv1))
 obtain ⟨t4,hc5,H⟩ := bind_some H
 obtain ⟨s3_3,hs3_3⟩:∃ z:Value→Sto→Prop,z=(fun v R=>∃ x6:(Option Addr × Nat),v=.slice x6.1 t4.length x6.2∧R=stl [Ck.sl (Ec.int 5 .u8) x6.1 x6.2 t4]) := ⟨_,rfl⟩
 refine have_opa leaf_Node_bytes.tab1 1 3 (fun sp=>sp 3=s3_3∧sp 2=s3_2) (fun sp on hA hon=>?_) (fun ops3_3=>?_)
 ·refine ⟨fun o ho vs Rs f' S' w hp hf hx hS hR hs=>?_⟩
  obtain rfl := Option.some.inj ho
  obtain ⟨hv2,hR2⟩ := (spe hA.2 hs3_2 (hp 2 (by kernel_rfl)))
  rw [hA.1,hs3_3]
  refine wn hon ?_
  have hF := fr_next (rfl) ((hf 2 10 (by kernel_rfl) rfl).trans hv2)
  refine ls_fr hF ?_
  refine ls_call (fid:=60) (vals:=#[.slice none ([]:List Int).length 0,.int .u64 (IntKind.wrap .u64 a0.1)]) (X:=(Option Addr × Nat)) (fun x=>.slice x.1 t4.length x.2) (fun x=>stl [Ck.sl (Ec.int 5 .u8) x.1 x.2 t4]) 0 rfl rfl (by kernel_rfl) (fun w=>by kernel_rfl) (fun w1 hs1=>codec_Short.calls k none 0 ([]:List Int) (IntKind.wrap .u64 a0.1) t4 (bw w1) (St.refl w1) (Rd.ro (Rd.nil _ _)) (Nat.le_refl 0) hc5) ?_
  intro x6
  exact ls_fin (stl [Ck.sl (Ec.int 5 .u8) x6.1 x6.2 t4]) (.slice x6.1 t4.length x6.2) (congrArg (fun z=>upd z 11 _) hF.symm) ⟨x6,rfl,rfl⟩ (sub_join _)
 obtain ⟨s3_4,hs3_4⟩ := exv (.pointer (some ⟨g1,(0+1),none⟩))
 refine have_opa leaf_Node_bytes.tab1 1 4 (fun sp=>sp 4=s3_4) (fun sp on hA hon=>?_) (fun ops3_4=>?_)
 ·refine ⟨fun o ho vs Rs f' S' w hp hf hx hS hR hs=>?_⟩
  obtain rfl := Option.some.inj ho
  exact opv (.pointer (some ⟨g1,(0+1),none⟩)) hA hs3_4 hon (fr_next (rfl) ((hx 1 (by kernel_rfl)).trans (by kernel_rfl:(_:Value)=.pointer (some ⟨g1,0,none⟩))))
 obtain ⟨s3_5,hs3_5⟩ := exv (.slice A0_1 a0.2.1.length c0_1)
 refine have_opa leaf_Node_bytes.tab1 1 5 (fun sp=>sp 5=s3_5∧sp 4=s3_4) (fun sp on hA hon=>?_) (fun ops3_5=>?_)
 ·refine ⟨fun o ho vs Rs f' S' w hp hf hx hS hR hs=>?_⟩
  obtain rfl := Option.some.inj ho
  obtain ⟨hv4,hR4⟩ := (spe hA.2 hs3_4 (hp 4 (by kernel_rfl)))
  rw [hA.1,hs3_5]
  refine wn hon ?_
  have hF := fr_next (rfl) ((hf 4 12 (by kernel_rfl) rfl).trans hv4)
  refine ls_fr hF ?_
  refine ls_load (a0:=⟨g1,(0+1),none⟩) (v:=.slice A0_1 a0.2.1.length c0_1) (de:=(TypeDesc.slice 23)) rfl rfl (by kernel_rfl) rfl (by kernel_rfl) (by kernel_rfl) (by kernel_rfl) (fun w1 hs1=>cell_step hs1.below.bw (hs.var (k:=0) ((hS 0 (by kernel_rfl)).trans (by exact rfl)) (Sub4.trans (Sub4.all _) (Sub4.skip (n:=1) (len1 _) (Sub4.head _ _))))) ?_
  exact ls_fin s0 _ (congrArg (fun z=>upd z 13 _) hF.symm) ⟨rfl,rfl⟩ (sub_nil _)
 obtain ⟨s3_6,hs3_6⟩ := exv (.int .i64 (a0.2.1.length:Int))
 refine have_opa leaf_Node_bytes.tab1 1 6 (fun sp=>sp 6=s3_6∧sp 5=s3_5) (fun sp on hA hon=>?_) (fun ops3_6=>?_)
 ·refine ⟨fun o ho vs Rs f' S' w hp hf hx hS hR hs=>?_⟩
  obtain rfl := Option.some.inj ho
  obtain ⟨hv5,hR5⟩ := (spe hA.2 hs3_5 (hp 5 (by kernel_rfl)))
  exact opv (.int .i64 (a0.2.1.length:Int)) hA.1 hs3_6 hon (fr_next (rfl) ((hf 5 13 (by kernel_rfl) rfl).trans hv5))
 obtain ⟨s3_7,hs3_7⟩ := exv (.int .u64 (IntKind.wrap .u64 (a0.2.1.length:Int)))
 refine have_opa leaf_Node_bytes.tab1 1 7 (fun sp=>sp 7=s3_7∧sp 6=s3_6) (fun sp on hA hon=>?_) (fun ops3_7=>?_)
 ·refine ⟨fun o ho vs Rs f' S' w hp hf hx hS hR hs=>?_⟩
  obtain rfl := Option.some.inj ho
  obtain ⟨hv6,hR6⟩ := (spe hA.2 hs3_6 (hp 6 (by kernel_rfl)))
  exact opv (.int .u64 (IntKind.wrap .u64 (a0.2.1.length:Int))) hA.1 hs3_7 hon (fr_next (rfl) ((hf 6 14 (by kernel_rfl) rfl).trans hv6))
 refine cs_draw leaf_Node_bytes.tab1 8 1 (spl [s3_0,s3_1,s3_2,s3_3,s3_4,s3_5,s3_6,s3_7]) (onl [true,true,true,true,true,true,true,true]) (by kernel_rfl) (by kernel_rfl) (by kernel_rfl) (by kernel_rfl) (rs:=[_,_]) rfl (by kernel_rfl) (by kernel_rfl) (all_snoc (all_snoc (all_snoc (all_snoc (all_snoc (all_snoc (all_snoc (all_snoc (all_nil) (ops3_0 _ _ rfl rfl)) (ops3_1 _ _ ⟨rfl,rfl⟩ rfl)) (ops3_2 _ _ ⟨rfl,rfl⟩ rfl)) (ops3_3 _ _ ⟨rfl,rfl⟩ rfl)) (ops3_4 _ _ rfl rfl)) (ops3_5 _ _ ⟨rfl,rfl⟩ rfl)) (ops3_6 _ _ ⟨rfl,rfl⟩ rfl)) (ops3_7 _ _ ⟨rfl,rfl⟩ rfl)) ?_
 intro vs Rs f' S' hp hf hx hS hR
 obtain ⟨x6,hv3,hR3⟩ := (spe rfl hs3_3 (hp 3 (by kernel_rfl)))
 have hT3_0 := (hR 3 0 (by kernel_rfl) (by decide)).trans (congrFun hR3 0)
 obtain ⟨hv7,hR7⟩ := (spe rfl hs3_7 (hp 7 (by kernel_rfl)))
 refine ls_fr (F:=upd (upd (upd f' 1 (.pointer (some ⟨g1,0,none⟩))) 11 (.slice x6.1 t4.length x6.2)) 15 (.int .u64 (IntKind.wrap .u64 (a0.2.1.length:Int)))) (fr_next (fr_next (fr_next (rfl) ((hx 1 (by kernel_rfl)).trans (by kernel_rfl:(_:Value)=.pointer (some ⟨g1,0,none⟩)))) ((hf 3 11 (by kernel_rfl) rfl).trans hv3)) ((hf 7 15 (by kernel_rfl) rfl).trans hv7)) ?_
 refine ls_sub (sput (sput s0 0 (some (Ck.var 27 g1 (([Value.int .i64 a0.1]++([Value.slice A0_1 a0.2.1.length c0_1]++([Value.slice A0_2 a0.2.2.1.length c0_2]++[Value.slice A0_3 a0.2.2.2.length c0_3]))))))) 25 (some (Ck.sl (Ec.int 5 .u8) x6.1 x6.2 t4))) (sub_put (by exact hT3_0) (sub_put ((hS 0 (by kernel_rfl)).trans (by exact rfl)) (sub_nil _))) ?_
 obtain ⟨t7,hc8,H⟩ := bind_some H
 refine ls_callb (fid:=60) (vals:=#[.slice x6.1 t4.length x6.2,.int .u64 (IntKind.wrap .u64 (a0.2.1.length:Int))]) (X:=(Option Addr × Nat)) (fun x=>.slice x.1 t7.length x.2) (fun x=>stl [Ck.sl (Ec.int 5 .u8) x.1 x.2 t7]) [] [25] [] [Ck.sl (Ec.int 5 .u8) x6.1 x6.2 t4] 65 rfl rfl (by kernel_rfl) (fun w=>by kernel_rfl) trivial ⟨by exact rfl,trivial⟩ (by decide) (fun w hs hb=>codec_Short.calls k x6.1 x6.2 t4 (IntKind.wrap .u64 (a0.2.1.length:Int)) t7 (lent b w [] [Ck.sl (Ec.int 5 .u8) x6.1 x6.2 t4]) hb (hs.ror (k:=25) (by exact rfl) (.head _)) (hs.cap (k:=25) (by exact rfl)) hc8) ?_
 intro x9
 refine lv (.slice x9.1 t7.length x9.2) ?_
 refine ls_end ?_
 refine qn_then ?_
 refine cs_seq ?_
 refine cs_region (l:=[_]) ?_
 refine lv (.slice none 0 0) ?_
 refine ls_end ?_
 refine qn_then ?_
 refine cs_seq ?_
 refine cs_seq ?_
 refine cs_region (l:=[_,_,_,_]) ?_
 refine lv (.pointer (some ⟨g1,(0+1),none⟩)) ?_
 refine ls_load (a0:=⟨g1,(0+1),none⟩) (v:=.slice A0_1 a0.2.1.length c0_1) (de:=(TypeDesc.slice 23)) rfl rfl (by kernel_rfl) rfl (by kernel_rfl) (by kernel_rfl) (by kernel_rfl) (fun w hs=>(hs.var (k:=0) (by exact rfl) (Sub4.trans (Sub4.all _) (Sub4.skip (n:=1) (len1 _) (Sub4.head _ _))))) ?_
 refine lv (.int .i64 (a0.2.1.length:Int)) ?_
 refine lv (.int .i64 (0:Int)) ?_
 refine ls_end ?_
 refine qn_then ?_
 refine cs_block ?_
 refine cs_sub (sput (sput s0 0 (some (Ck.var 27 g1 (([Value.int .i64 a0.1]++([Value.slice A0_1 a0.2.1.length c0_1]++([Value.slice A0_2 a0.2.2.1.length c0_2]++[Value.slice A0_3 a0.2.2.2.length c0_3]))))))) 65 (some (Ck.sl (Ec.int 5 .u8) x9.1 x9.2 t7))) (sub_put (by exact rfl) (sub_put (by exact rfl) (sub_nil _))) ?_
 refine cs_loop (fun kk f S=>∃ (fR:Fr) (A3_1:Option Addr) (c3_1:Nat) (l3_1:List Int) (A4_1:Option Addr) (c4_1:Nat) (l4_1:List Int) (x20_1:Int),f=upd (upd (upd (upd (upd (upd fR 1 (.pointer (some ⟨g1,0,none⟩))) 3 (.slice A3_1 l3_1.length c3_1)) 4 (.slice A4_1 l4_1.length c4_1)) 18 (.slice A0_1 a0.2.1.length c0_1)) 19 (.int .i64 (a0.2.1.length:Int))) 20 (.int .i64 x20_1)∧S=sput (sput s0 0 (some (Ck.var 27 g1 (([Value.int .i64 a0.1]++([Value.slice A0_1 a0.2.1.length c0_1]++([Value.slice A0_2 a0.2.2.1.length c0_2]++[Value.slice A0_3 a0.2.2.2.length c0_3]))))))) 65 (some (Ck.sl (Ec.int 5 .u8) A3_1 c3_1 l3_1))∧Ro b A4_1 (em (Ec.int 5 .u8) l4_1)∧l4_1.length≤c4_1∧leaf_Node_bytes.lo1 a0 kk l3_1 l4_1 x20_1=some r) k ?_ ?_ ?_
 ·exact ⟨_,x9.1,x9.2,t7,none,0,([]:List Int),(0:Int),fr_next (fr_next (fr_next (fr_next (fr_next (fr_next (rfl) (by kernel_rfl)) (by kernel_rfl)) (by kernel_rfl)) (by kernel_rfl)) (by kernel_rfl)) (by kernel_rfl),rfl,(Ro.nil _ _),(Nat.zero_le _),H⟩
 ·rintro f S ⟨fr1,A3_1,c3_1,l3_1,A4_1,c4_1,l4_1,x20_1,rfl,rfl,R4_1,C4_1,H⟩; cases H
 rintro k1 f S ⟨fr1,A3_1,c3_1,l3_1,A4_1,c4_1,l4_1,x20_1,rfl,rfl,R4_1,C4_1,H⟩
 replace H:((if x20_1<(a0.2.1.length:Int) then (leaf_Node_bytes.jo2 a0 l3_1 l4_1 x20_1 k1 (leaf_Node_bytes.lo1 a0 k1)) else some l3_1))=some r := H
 refine cs_seq ?_
 refine cs_region (l:=[_]) ?_
 refine lv (.bool (decide (x20_1<(a0.2.1.length:Int)))) ?_
 refine ls_end ?_
 refine qn_then ?_
 refine cs_cut (fun f S=>∃ (fR:Fr),f=upd (upd (upd (upd (upd (upd fR 1 (.pointer (some ⟨g1,0,none⟩))) 3 (.slice A3_1 l3_1.length c3_1)) 4 (.slice A4_1 l4_1.length c4_1)) 18 (.slice A0_1 a0.2.1.length c0_1)) 19 (.int .i64 (a0.2.1.length:Int))) 20 (.int .i64 x20_1)∧S=sput (sput s0 0 (some (Ck.var 27 g1 (([Value.int .i64 a0.1]++([Value.slice A0_1 a0.2.1.length c0_1]++([Value.slice A0_2 a0.2.2.1.length c0_2]++[Value.slice A0_3 a0.2.2.2.length c0_3]))))))) 65 (some (Ck.sl (Ec.int 5 .u8) A3_1 c3_1 l3_1))∧leaf_Node_bytes.jo2 a0 l3_1 l4_1 x20_1 k1 (leaf_Node_bytes.lo1 a0 k1)=some r) ?_ ?_
 ·skip
  by_cases q69:x20_1<(a0.2.1.length:Int)
  ·replace H := ite_t q69 H
   refine cs_know (c:=true) (dec_t q69) 21 (by kernel_rfl) ?_
   refine cs_true (by kernel_rfl) ?_
   refine cs_skip' ?_
   refine qn_meet (sput (sput s0 0 (some (Ck.var 27 g1 (([Value.int .i64 a0.1]++([Value.slice A0_1 a0.2.1.length c0_1]++([Value.slice A0_2 a0.2.2.1.length c0_2]++[Value.slice A0_3 a0.2.2.2.length c0_3]))))))) 65 (some (Ck.sl (Ec.int 5 .u8) A3_1 c3_1 l3_1))) ⟨_,fr_next (fr_next (fr_next (fr_next (fr_next (fr_next (rfl) (by kernel_rfl)) (by kernel_rfl)) (by kernel_rfl)) (by kernel_rfl)) (by kernel_rfl)) (by kernel_rfl),rfl,H⟩ (sub_put (by exact rfl) (sub_put (by exact rfl) (sub_nil _)))
  replace H := ite_f q69 H
  refine cs_know (c:=false) (dec_f q69) 21 (by kernel_rfl) ?_
  refine cs_false (by kernel_rfl) ?_
  refine cs_exit' ?_
  refine qx_then ?_
  refine qx_then ?_
  refine qx_same ?_
  refine qn_then ?_
  refine cs_seq ?_
  refine cs_region (l:=[_,_]) ?_
  refine lv (.slice A3_1 l3_1.length c3_1) ?_
  refine lv (.slice A3_1 l3_1.length c3_1) ?_
  refine ls_end ?_
  refine qn_then ?_
  refine cs_ret' ?_
  obtain rfl := Option.some.inj H
  refine qr_res (rs:=[_]) rfl (fun w' hs=>⟨[.slice A3_1 l3_1.length c3_1],(res_tmp (by kernel_rfl) (.nil)),(A3_1,c3_1),rfl,hs.pick (ts:=[65]) (cs:=[Ck.sl (Ec.int 5 .u8) A3_1 c3_1 l3_1]) ⟨by exact rfl,trivial⟩ (by decide)⟩)
 rintro f S ⟨fr2,rfl,rfl,H⟩
 replace H:((if 0≤x20_1 then (if x20_1<(a0.2.1.length:Int) then (leaf_shared.f k1 l4_1 ((a0.2.1).getD (x20_1).toNat ([]:List Int))).bind fun t18=>(codec_Short.f k1 ([]:List Int) (IntKind.wrap .u64 t18)).bind fun t21=>(if (l3_1.length+t21.length)*1≤140737488355328 then (if 0≤t18 then (if t18≤(((a0.2.1).getD (x20_1).toNat ([]:List Int)).length:Int) then lt (((a0.2.1).getD (x20_1).toNat ([]:List Int)).drop (t18).toNat) fun xl33=>(codec_Text.f k1 ([]:List Int) (strOfNums xl33)).bind fun t38=>(if ((l3_1++t21).length+t38.length)*1≤140737488355328 then (if a0.1=(0:Int) then (if x20_1<(a0.2.2.1.length:Int) then lt (strOfNums ((a0.2.2.1).getD (x20_1).toNat ([]:List Int))) fun y52=>(codec_Text.f k1 ([]:List Int) y52).bind fun t54=>(if (((l3_1++t21)++t38).length+t54.length)*1≤140737488355328 then (leaf_Node_bytes.lo1 a0 k1) (((l3_1++t21)++t38)++t54) ((a0.2.1).getD (x20_1).toNat ([]:List Int)) (IntKind.wrap .i64 (x20_1+(1:Int))) else none) else none) else (if x20_1<(a0.2.2.2.length:Int) then (pointer_Put.f k1 ([]:List Int) ((a0.2.2.2).getD (x20_1).toNat ((0:Int),(0:Int),(0:Int),(0:Int),(vrep 32 (0:Int))))).bind fun t63=>(if (((l3_1++t21)++t38).length+t63.length)*1≤140737488355328 then (leaf_Node_bytes.lo1 a0 k1) (((l3_1++t21)++t38)++t63) ((a0.2.1).getD (x20_1).toNat ([]:List Int)) (IntKind.wrap .i64 (x20_1+(1:Int))) else none) else none)) else none) else none) else none) else none) else none) else none))=some r := H
 refine cs_seq ?_
 refine cs_block ?_
 refine cs_seq ?_
 refine cs_region (l:=[_,_,_,_,_]) ?_
 refine lv (.int .i64 x20_1) ?_
 obtain ⟨q10,H⟩ := ite_need H
 obtain ⟨q11,H⟩ := ite_need H
 obtain ⟨ad12,hA13⟩ := idoS_at (l:=a0.2.1) (i:=x20_1) R0_1 q10 q11
 refine ls_idxv (Ec.sld 23 Int) (A:=A0_1) (c:=c0_1) (l:=a0.2.1) (k:=.i64) (i:=x20_1) (z:=1) (ad:=ad12) rfl rfl (by kernel_rfl) hA13 rfl (by kernel_rfl) (by kernel_rfl) (by kernel_rfl) (by kernel_rfl) q10 q11 ?_
 obtain ⟨xq14,hq15,xR16,xC17⟩ := RoS.el (l:=a0.2.1) R0_1 hA13 (i:=x20_1) q10 q11
 refine ls_load (a0:=(ad12.add ((x20_1).toNat*1))) (v:=.slice xq14.1 ((a0.2.1).getD (x20_1).toNat ([]:List Int)).length xq14.2) (de:=(TypeDesc.slice 5)) rfl rfl (by kernel_rfl) rfl (by kernel_rfl) (by kernel_rfl) (by kernel_rfl) (fun w hs=>(hs.old hq15).cell0) ?_
 refine lv (.int .i64 x20_1) ?_
 refine lv (.slice xq14.1 ((a0.2.1).getD (x20_1).toNat ([]:List Int)).length xq14.2) ?_
 refine ls_end ?_
 refine qn_then ?_
 refine cs_seq ?_
 refine cs_region (l:=[_,_,_,_]) ?_
 refine lv (.slice A4_1 l4_1.length c4_1) ?_
 refine lv (.slice xq14.1 ((a0.2.1).getD (x20_1).toNat ([]:List Int)).length xq14.2) ?_
 obtain ⟨t18,hc19,H⟩ := bind_some H
 refine ls_callb (fid:=61) (vals:=#[.slice A4_1 l4_1.length c4_1,.slice xq14.1 ((a0.2.1).getD (x20_1).toNat ([]:List Int)).length xq14.2]) (X:=Unit) (fun x=>.int .i64 t18) (fun x=>stl []) [] [] [] [] 66 rfl rfl (by kernel_rfl) (fun w=>by kernel_rfl) trivial trivial (by decide) (fun w hs hb=>leaf_shared.calls k1 A4_1 c4_1 l4_1 xq14.1 xq14.2 ((a0.2.1).getD (x20_1).toNat ([]:List Int)) t18 (lent b w [] []) hb (hs.ro R4_1 _ _) C4_1 (hs.ro xR16 _ _) xC17 hc19) ?_
 intro x20
 refine lv (.int .i64 t18) ?_
 refine ls_end ?_
 refine qn_then ?_
 refine cs_seq ?_
 refine cs_region (l:=[_,_,_,_,_,_]) ?_
 refine lv (.slice A3_1 l3_1.length c3_1) ?_
 refine lv (.int .i64 t18) ?_
 refine lv (.int .u64 (IntKind.wrap .u64 t18)) ?_
 obtain ⟨t21,hc22,H⟩ := bind_some H
 refine ls_callb (fid:=60) (vals:=#[.slice none ([]:List Int).length 0,.int .u64 (IntKind.wrap .u64 t18)]) (X:=(Option Addr × Nat)) (fun x=>.slice x.1 t21.length x.2) (fun x=>stl [Ck.sl (Ec.int 5 .u8) x.1 x.2 t21]) [] [] [] [] 66 rfl rfl (by kernel_rfl) (fun w=>by kernel_rfl) trivial trivial (by decide) (fun w hs hb=>codec_Short.calls k1 none 0 ([]:List Int) (IntKind.wrap .u64 t18) t21 (lent b w [] []) hb (Ro.nil _ _) (Nat.le_refl 0) hc22) ?_
 intro x23
 obtain ⟨q24,H⟩ := ite_need H
 refine ls_app (Ec.int 5 .u8) (A:=A3_1) (c:=c3_1) (B:=x23.1) (cb:=x23.2) (z:=(Value.int .u8 0)) (l:=l3_1) (m:=t21) (bytes:=1) 65 rfl rfl (by kernel_rfl) rfl (by kernel_rfl) (by exact rfl) (by kernel_rfl) (fun w hs=>(hs.rd (k:=66) (by exact rfl))) (by kernel_rfl) (by kernel_rfl) rfl (by decide) q24 ?_
 intro xA25 xc26
 refine lv (.slice xA25 (l3_1++t21).length xc26) ?_
 refine ls_end ?_
 refine qn_then ?_
 refine cs_seq ?_
 refine cs_region (l:=[_,_,_,_,_,_,_,_]) ?_
 refine lv (.slice xA25 (l3_1++t21).length xc26) ?_
 refine lv (.slice xq14.1 ((a0.2.1).getD (x20_1).toNat ([]:List Int)).length xq14.2) ?_
 refine lv (.int .i64 t18) ?_
 obtain ⟨q27,H⟩ := ite_need H
 obtain ⟨q28,H⟩ := ite_need H
 obtain ⟨xl33,hy34,H⟩ := lt_some H
 have hz36:(t18).toNat≤((a0.2.1).getD (x20_1).toNat ([]:List Int)).length := by omega
 have hz37:((a0.2.1).getD (x20_1).toNat ([]:List Int)).length≤((a0.2.1).getD (x20_1).toNat ([]:List Int)).length := by omega
 obtain ⟨xA29,xc30,he35,xC32,xR31⟩ := cut_at (A:=xq14.1) (c:=xq14.2) (l:=((a0.2.1).getD (x20_1).toNat ([]:List Int))) (Ec.int 5 .u8) ((t18).toNat) (((a0.2.1).getD (x20_1).toNat ([]:List Int)).length) hz36 hz37 xC17 xR16 (m:=xl33) (by rw [← hy34] <;> simp) (z:=1) rfl
 refine ls_cutv (A:=xq14.1) (c:=xq14.2) (m:=((a0.2.1).getD (x20_1).toNat ([]:List Int)).length) (z:=1) (e:=5) (a:=(t18).toNat) (b:=((a0.2.1).getD (x20_1).toNat ([]:List Int)).length) rfl rfl (by kernel_rfl) rfl (by kernel_rfl) (by kernel_rfl) (by kernel_rfl) (.inr ⟨.i64,by rw [Int.toNat_of_nonneg (by first | assumption | omega)]; kernel_rfl⟩) (.inl ⟨rfl,rfl⟩) hz36 hz37 xC17 he35 ?_
 refine ls_str (A:=xA29) (c:=xc30) (e:=5) (l:=xl33) rfl rfl (by kernel_rfl) rfl (by kernel_rfl) (by kernel_rfl) (by kernel_rfl) (by kernel_rfl) (fun w hs=>(hs.old xR31)) ?_
 obtain ⟨t38,hc39,H⟩ := bind_some H
 refine ls_callb (fid:=62) (vals:=#[.slice none ([]:List Int).length 0,.string (strOfNums xl33)]) (X:=(Option Addr × Nat)) (fun x=>.slice x.1 t38.length x.2) (fun x=>stl [Ck.sl (Ec.int 5 .u8) x.1 x.2 t38]) [] [] [] [] 67 rfl rfl (by kernel_rfl) (fun w=>by kernel_rfl) trivial trivial (by decide) (fun w hs hb=>codec_Text.calls k1 none 0 ([]:List Int) (strOfNums xl33) t38 (lent b w [] []) hb (Ro.nil _ _) (Nat.le_refl 0) hc39) ?_
 intro x40
 obtain ⟨q41,H⟩ := ite_need H
 refine ls_app (Ec.int 5 .u8) (A:=xA25) (c:=xc26) (B:=x40.1) (cb:=x40.2) (z:=(Value.int .u8 0)) (l:=(l3_1++t21)) (m:=t38) (bytes:=1) 65 rfl rfl (by kernel_rfl) rfl (by kernel_rfl) (by exact rfl) (by kernel_rfl) (fun w hs=>(hs.rd (k:=67) (by exact rfl))) (by kernel_rfl) (by kernel_rfl) rfl (by decide) q41 ?_
 intro xA42 xc43
 refine lv (.slice xA42 ((l3_1++t21)++t38).length xc43) ?_
 refine ls_end ?_
 refine qn_then ?_
 refine cs_seq ?_
 refine cs_seq ?_
 refine cs_region (l:=[_,_,_]) ?_
 refine lv (.pointer (some ⟨g1,(0+0),none⟩)) ?_
 refine ls_load (a0:=⟨g1,(0+0),none⟩) (v:=.int .i64 a0.1) (de:=(TypeDesc.int .i64)) rfl rfl (by kernel_rfl) rfl (by kernel_rfl) (by kernel_rfl) (by kernel_rfl) (fun w hs=>(hs.var (k:=0) (by exact rfl) (Sub4.trans (Sub4.all _) (Sub4.head _ _)))) ?_
 refine lv (.bool (decide (a0.1=(0:Int)))) ?_
 refine ls_end ?_
 refine qn_then ?_
 by_cases q44:a0.1=(0:Int)
 ·replace H := ite_t q44 H
  refine cs_know (c:=true) (dec_t q44) 42 (by kernel_rfl) ?_
  refine cs_true (by kernel_rfl) ?_
  refine cs_region (l:=[_,_,_,_,_,_,_,_,_,_]) ?_
  refine lv (.slice xA42 ((l3_1++t21)++t38).length xc43) ?_
  refine lv (.pointer (some ⟨g1,(0+2),none⟩)) ?_
  refine ls_load (a0:=⟨g1,(0+2),none⟩) (v:=.slice A0_2 a0.2.2.1.length c0_2) (de:=(TypeDesc.slice 23)) rfl rfl (by kernel_rfl) rfl (by kernel_rfl) (by kernel_rfl) (by kernel_rfl) (fun w hs=>(hs.var (k:=0) (by exact rfl) (Sub4.trans (Sub4.all _) (Sub4.skip (n:=1) (len1 _) (Sub4.skip (n:=1) (len1 _) (Sub4.head _ _)))))) ?_
  refine lv (.int .i64 x20_1) ?_
  obtain ⟨q45,H⟩ := ite_need H
  obtain ⟨ad46,hA47⟩ := idoS_at (l:=a0.2.2.1) (i:=x20_1) R0_2 q10 q45
  refine ls_idxv (Ec.sld 23 Int) (A:=A0_2) (c:=c0_2) (l:=a0.2.2.1) (k:=.i64) (i:=x20_1) (z:=1) (ad:=ad46) rfl rfl (by kernel_rfl) hA47 rfl (by kernel_rfl) (by kernel_rfl) (by kernel_rfl) (by kernel_rfl) q10 q45 ?_
  obtain ⟨xq48,hq49,xR50,xC51⟩ := RoS.el (l:=a0.2.2.1) R0_2 hA47 (i:=x20_1) q10 q45
  refine ls_load (a0:=(ad46.add ((x20_1).toNat*1))) (v:=.slice xq48.1 ((a0.2.2.1).getD (x20_1).toNat ([]:List Int)).length xq48.2) (de:=(TypeDesc.slice 5)) rfl rfl (by kernel_rfl) rfl (by kernel_rfl) (by kernel_rfl) (by kernel_rfl) (fun w hs=>(hs.old hq49).cell0) ?_
  obtain ⟨y52,hy53,H⟩ := lt_some H
  refine ls_str (A:=xq48.1) (c:=xq48.2) (e:=5) (l:=((a0.2.2.1).getD (x20_1).toNat ([]:List Int))) rfl rfl (by kernel_rfl) rfl (by kernel_rfl) (by kernel_rfl) (by kernel_rfl) (by kernel_rfl) (fun w hs=>(hs.old xR50)) ?_
  refine ls_ren 49 (v:=.string (strOfNums ((a0.2.2.1).getD (x20_1).toNat ([]:List Int)))) (v' := .string y52) (by kernel_rfl) (by rw [hy53]) ?_
  obtain ⟨t54,hc55,H⟩ := bind_some H
  refine ls_callb (fid:=62) (vals:=#[.slice none ([]:List Int).length 0,.string y52]) (X:=(Option Addr × Nat)) (fun x=>.slice x.1 t54.length x.2) (fun x=>stl [Ck.sl (Ec.int 5 .u8) x.1 x.2 t54]) [] [] [] [] 68 rfl rfl (by kernel_rfl) (fun w=>by kernel_rfl) trivial trivial (by decide) (fun w hs hb=>codec_Text.calls k1 none 0 ([]:List Int) y52 t54 (lent b w [] []) hb (Ro.nil _ _) (Nat.le_refl 0) hc55) ?_
  intro x56
  obtain ⟨q57,H⟩ := ite_need H
  refine ls_app (Ec.int 5 .u8) (A:=xA42) (c:=xc43) (B:=x56.1) (cb:=x56.2) (z:=(Value.int .u8 0)) (l:=((l3_1++t21)++t38)) (m:=t54) (bytes:=1) 65 rfl rfl (by kernel_rfl) rfl (by kernel_rfl) (by exact rfl) (by kernel_rfl) (fun w hs=>(hs.rd (k:=68) (by exact rfl))) (by kernel_rfl) (by kernel_rfl) rfl (by decide) q57 ?_
  intro xA58 xc59
  refine lv (.slice xA58 (((l3_1++t21)++t38)++t54).length xc59) ?_
  refine ls_end ?_
  refine qn_then ?_
  refine cs_region (l:=[_,_]) ?_
  refine lv (.slice xq14.1 ((a0.2.1).getD (x20_1).toNat ([]:List Int)).length xq14.2) ?_
  refine lv (.slice xq14.1 ((a0.2.1).getD (x20_1).toNat ([]:List Int)).length xq14.2) ?_
  refine ls_end ?_
  refine qn_block ?_
  refine qn_then ?_
  refine cs_region (l:=[_,_]) ?_
  refine lv (.int .i64 (IntKind.wrap .i64 (x20_1+(1:Int)))) ?_
  refine lv (.int .i64 (IntKind.wrap .i64 (x20_1+(1:Int)))) ?_
  refine ls_end ?_
  refine qn_again k1 (sput (sput s0 0 (some (Ck.var 27 g1 (([Value.int .i64 a0.1]++([Value.slice A0_1 a0.2.1.length c0_1]++([Value.slice A0_2 a0.2.2.1.length c0_2]++[Value.slice A0_3 a0.2.2.2.length c0_3]))))))) 65 (some (Ck.sl (Ec.int 5 .u8) xA58 xc59 (((l3_1++t21)++t38)++t54)))) (Nat.le_refl _) ⟨_,xA58,xc59,(((l3_1++t21)++t38)++t54),xq14.1,xq14.2,((a0.2.1).getD (x20_1).toNat ([]:List Int)),(IntKind.wrap .i64 (x20_1+(1:Int))),fr_next (fr_next (fr_next (fr_next (fr_next (fr_next (rfl) (by kernel_rfl)) (by kernel_rfl)) (by kernel_rfl)) (by kernel_rfl)) (by kernel_rfl)) (by kernel_rfl),rfl,xR16,xC17,H⟩ (sub_put (by exact rfl) (sub_put (by exact rfl) (sub_nil _)))
 replace H := ite_f q44 H
 refine cs_know (c:=false) (dec_f q44) 42 (by kernel_rfl) ?_
 refine cs_false (by kernel_rfl) ?_
 refine cs_region (l:=[_,_,_,_,_,_,_,_,_]) ?_
 refine lv (.slice xA42 ((l3_1++t21)++t38).length xc43) ?_
 refine lv (.pointer (some ⟨g1,(0+3),none⟩)) ?_
 refine ls_load (a0:=⟨g1,(0+3),none⟩) (v:=.slice A0_3 a0.2.2.2.length c0_3) (de:=(TypeDesc.slice 44)) rfl rfl (by kernel_rfl) rfl (by kernel_rfl) (by kernel_rfl) (by kernel_rfl) (fun w hs=>(hs.var (k:=0) (by exact rfl) (Sub4.trans (Sub4.all _) (Sub4.skip (n:=1) (len1 _) (Sub4.skip (n:=1) (len1 _) (Sub4.skip (n:=1) (len1 _) (Sub4.all _))))))) ?_
 refine lv (.int .i64 x20_1) ?_
 obtain ⟨q60,H⟩ := ite_need H
 obtain ⟨ad61,hA62⟩ := ido_at (T:=T44) (l:=a0.2.2.2) (i:=x20_1) R0_3 q10 q60
 refine ls_idxv T44 (A:=A0_3) (c:=c0_3) (l:=a0.2.2.2) (k:=.i64) (i:=x20_1) (z:=36) (ad:=ad61) rfl rfl (by kernel_rfl) hA62 rfl (by kernel_rfl) (by kernel_rfl) (by kernel_rfl) (by kernel_rfl) q10 q60 ?_
 refine ls_loadagg (a:=(ad61.add ((x20_1).toNat*36))) (sub:=([Value.int .i64 (((a0.2.2.2).getD (x20_1).toNat ((0:Int),(0:Int),(0:Int),(0:Int),(vrep 32 (0:Int)))).1)]++([Value.int .i64 (((a0.2.2.2).getD (x20_1).toNat ((0:Int),(0:Int),(0:Int),(0:Int),(vrep 32 (0:Int)))).2.1)]++([Value.int .i64 (((a0.2.2.2).getD (x20_1).toNat ((0:Int),(0:Int),(0:Int),(0:Int),(vrep 32 (0:Int)))).2.2.1)]++([Value.int .u32 (((a0.2.2.2).getD (x20_1).toNat ((0:Int),(0:Int),(0:Int),(0:Int),(vrep 32 (0:Int)))).2.2.2.1)]++en (Value.int .u8) (((a0.2.2.2).getD (x20_1).toNat ((0:Int),(0:Int),(0:Int),(0:Int),(vrep 32 (0:Int)))).2.2.2.2).1))))) rfl rfl (by kernel_rfl) rfl (by kernel_rfl) (by kernel_rfl) (by kernel_rfl) (len_app (len1 _) (len_app (len1 _) (len_app (len1 _) (len_app (len1 _) (len_en _ (((a0.2.2.2).getD (x20_1).toNat ((0:Int),(0:Int),(0:Int),(0:Int),(vrep 32 (0:Int)))).2.2.2.2)))))) (fun w hs=>(hs.old R0_3).part hA62 (em_sub T44 a0.2.2.2 (i:=(x20_1).toNat) (by have h0:(0:Int)≤x20_1 := q10; have h1:x20_1<(a0.2.2.2.length:Int) := q60; omega))) ?_
 obtain ⟨t63,hc64,H⟩ := bind_some H
 refine ls_callb (fid:=63) (vals:=#[.slice none ([]:List Int).length 0,.agg ⟨([Value.int .i64 (((a0.2.2.2).getD (x20_1).toNat ((0:Int),(0:Int),(0:Int),(0:Int),(vrep 32 (0:Int)))).1)]++([Value.int .i64 (((a0.2.2.2).getD (x20_1).toNat ((0:Int),(0:Int),(0:Int),(0:Int),(vrep 32 (0:Int)))).2.1)]++([Value.int .i64 (((a0.2.2.2).getD (x20_1).toNat ((0:Int),(0:Int),(0:Int),(0:Int),(vrep 32 (0:Int)))).2.2.1)]++([Value.int .u32 (((a0.2.2.2).getD (x20_1).toNat ((0:Int),(0:Int),(0:Int),(0:Int),(vrep 32 (0:Int)))).2.2.2.1)]++en (Value.int .u8) (((a0.2.2.2).getD (x20_1).toNat ((0:Int),(0:Int),(0:Int),(0:Int),(vrep 32 (0:Int)))).2.2.2.2).1))))⟩]) (X:=(Option Addr × Nat)) (fun x=>.slice x.1 t63.length x.2) (fun x=>stl [Ck.sl (Ec.int 5 .u8) x.1 x.2 t63]) [] [] [] [] 68 rfl rfl (by kernel_rfl) (fun w=>by kernel_rfl) trivial trivial (by decide) (fun w hs hb=>pointer_Put.calls k1 none 0 ([]:List Int) ((a0.2.2.2).getD (x20_1).toNat ((0:Int),(0:Int),(0:Int),(0:Int),(vrep 32 (0:Int)))) t63 (lent b w [] []) hb (Ro.nil _ _) (Nat.le_refl 0) hc64) ?_
 intro x65
 obtain ⟨q66,H⟩ := ite_need H
 refine ls_app (Ec.int 5 .u8) (A:=xA42) (c:=xc43) (B:=x65.1) (cb:=x65.2) (z:=(Value.int .u8 0)) (l:=((l3_1++t21)++t38)) (m:=t63) (bytes:=1) 65 rfl rfl (by kernel_rfl) rfl (by kernel_rfl) (by exact rfl) (by kernel_rfl) (fun w hs=>(hs.rd (k:=68) (by exact rfl))) (by kernel_rfl) (by kernel_rfl) rfl (by decide) q66 ?_
 intro xA67 xc68
 refine lv (.slice xA67 (((l3_1++t21)++t38)++t63).length xc68) ?_
 refine ls_end ?_
 refine qn_then ?_
 refine cs_region (l:=[_,_]) ?_
 refine lv (.slice xq14.1 ((a0.2.1).getD (x20_1).toNat ([]:List Int)).length xq14.2) ?_
 refine lv (.slice xq14.1 ((a0.2.1).getD (x20_1).toNat ([]:List Int)).length xq14.2) ?_
 refine ls_end ?_
 refine qn_block ?_
 refine qn_then ?_
 refine cs_region (l:=[_,_]) ?_
 refine lv (.int .i64 (IntKind.wrap .i64 (x20_1+(1:Int)))) ?_
 refine lv (.int .i64 (IntKind.wrap .i64 (x20_1+(1:Int)))) ?_
 refine ls_end ?_
 refine qn_again k1 (sput (sput s0 0 (some (Ck.var 27 g1 (([Value.int .i64 a0.1]++([Value.slice A0_1 a0.2.1.length c0_1]++([Value.slice A0_2 a0.2.2.1.length c0_2]++[Value.slice A0_3 a0.2.2.2.length c0_3]))))))) 65 (some (Ck.sl (Ec.int 5 .u8) xA67 xc68 (((l3_1++t21)++t38)++t63)))) (Nat.le_refl _) ⟨_,xA67,xc68,(((l3_1++t21)++t38)++t63),xq14.1,xq14.2,((a0.2.1).getD (x20_1).toNat ([]:List Int)),(IntKind.wrap .i64 (x20_1+(1:Int))),fr_next (fr_next (fr_next (fr_next (fr_next (fr_next (rfl) (by kernel_rfl)) (by kernel_rfl)) (by kernel_rfl)) (by kernel_rfl)) (by kernel_rfl)) (by kernel_rfl),rfl,xR16,xC17,H⟩ (sub_put (by exact rfl) (sub_put (by exact rfl) (sub_nil _)))
def bytes_Compare.f (k:Nat) (l0:List Int) (l1:List Int):Option (Int) :=
  some (bcmp l0 l1)
theorem bytes_Compare.calls (k:Nat) (A0:Option Addr) (c0:Nat) (l0:List Int) (A1:Option Addr) (c1:Nat) (l1:List Int) (r:Int) (b:Bs) (hs0:St b (stl []) b.w) (R0:Ro b A0 (em (Ec.int 5 .u8) l0)) (C0:l0.length≤c0) (R1:Ro b A1 (em (Ec.int 5 .u8) l1)) (C1:l1.length≤c1) (H:bytes_Compare.f k l0 l1=some r) :
    Calls Try.prog 30 #[.slice A0 l0.length c0,.slice A1 l1.length c1] b.w fun e w'=>∃ x:Unit,e=.returned (.int .i64 r)∧St b (stl []) w' := by
 unfold bytes_Compare.f at H
 refine enterb (n:=8) Try.func30 rfl (by kernel_rfl) (by kernel_rfl) hs0 ?_
 refine cs_sub (s0) (sub_nil _) ?_
 refine cs_seq ?_
 refine cs_region (l:=[_]) ?_
 refine lv (.int .i64 (0:Int)) ?_
 refine ls_end ?_
 refine qn_then ?_
 refine cs_seq ?_
 refine cs_region (l:=[_,_,_,_]) ?_
 refine lv (.slice A0 l0.length c0) ?_
 refine lv (.slice A1 l1.length c1) ?_
 refine ls_bcmp (fid:=56) (A:=A0) (c:=c0) (l:=l0) (B:=A1) (cb:=c1) (m:=l1) (t:=5) rfl rfl (by kernel_rfl) (fun w=>by kernel_rfl) (fn:=Try.f56) Try.func56 (by kernel_rfl) (by kernel_rfl) (by kernel_rfl) (by kernel_rfl) (fun w hs=>(hs.old R0)) (fun w hs=>(hs.old R1)) ?_
 refine lv (.int .i64 (bcmp l0 l1)) ?_
 refine ls_end ?_
 refine qn_then ?_
 refine cs_ret' ?_
 obtain rfl := Option.some.inj H
 refine qr_res (rs:=[_]) rfl (fun w' hs=>⟨[.int .i64 (bcmp l0 l1)],(res_tmp (by kernel_rfl) (.nil)),(),rfl,hs.pick (ts:=[]) (cs:=[]) trivial (by decide)⟩)
def leaf_Node_lists.f (k:Nat) (a0:NO):Option (Bool) :=
  (if a0.1=(0:Int) then (if (a0.2.2.1.length:Int)=(a0.2.1.length:Int) then some (decide ((a0.2.2.2.length:Int)=(0:Int))) else some false) else (if (a0.2.2.2.length:Int)=(a0.2.1.length:Int) then some (decide ((a0.2.2.1.length:Int)=(0:Int))) else some false))
theorem leaf_Node_lists.calls (k:Nat) (A0_1:Option Addr) (c0_1:Nat) (A0_2:Option Addr) (c0_2:Nat) (A0_3:Option Addr) (c0_3:Nat) (a0:NO) (r:Bool) (b:Bs) (hs0:St b (stl []) b.w) (R0_1:RoS 23 (Ec.int 5 .u8) b A0_1 a0.2.1) (C0_1:a0.2.1.length≤c0_1) (R0_2:RoS 23 (Ec.int 5 .u8) b A0_2 a0.2.2.1) (C0_2:a0.2.2.1.length≤c0_2) (R0_3:Ro b A0_3 (em T44 a0.2.2.2)) (C0_3:a0.2.2.2.length≤c0_3) (H:leaf_Node_lists.f k a0=some r) :
    Calls Try.prog 69 #[.agg ⟨([Value.int .i64 a0.1]++([Value.slice A0_1 a0.2.1.length c0_1]++([Value.slice A0_2 a0.2.2.1.length c0_2]++[Value.slice A0_3 a0.2.2.2.length c0_3])))⟩] b.w fun e w'=>∃ x:Unit,e=.returned (.bool r)∧St b (stl []) w' := by
 unfold leaf_Node_lists.f at H
 refine enterb (n:=32) Try.func69 rfl (by kernel_rfl) (by kernel_rfl) hs0 ?_
 refine cs_sub (s0) (sub_nil _) ?_
 refine cs_seq ?_
 refine cs_region (l:=[_,_]) ?_
 refine ls_new rfl rfl (by kernel_rfl) 0 (fun g=>.pointer (some ⟨g,0,none⟩)) (.cells ⟨([Value.int .i64 a0.1]++([Value.slice A0_1 a0.2.1.length c0_1]++([Value.slice A0_2 a0.2.2.1.length c0_2]++[Value.slice A0_3 a0.2.2.2.length c0_3])))⟩ 27) (fun w=>by kernel_rfl) ?_
 intro g1
 refine lv (.bool false) ?_
 refine ls_end ?_
 refine qn_then ?_
 refine cs_seq ?_
 refine cs_seq ?_
 refine cs_region (l:=[_,_,_]) ?_
 refine lv (.pointer (some ⟨g1,(0+0),none⟩)) ?_
 refine ls_load (a0:=⟨g1,(0+0),none⟩) (v:=.int .i64 a0.1) (de:=(TypeDesc.int .i64)) rfl rfl (by kernel_rfl) rfl (by kernel_rfl) (by kernel_rfl) (by kernel_rfl) (fun w hs=>(hs.var (k:=0) (by exact rfl) (Sub4.trans (Sub4.all _) (Sub4.head _ _)))) ?_
 refine lv (.bool (decide (a0.1=(0:Int)))) ?_
 refine ls_end ?_
 refine qn_then ?_
 by_cases q2:a0.1=(0:Int)
 ·replace H := ite_t q2 H
  refine cs_know (c:=true) (dec_t q2) 5 (by kernel_rfl) ?_
  refine cs_true (by kernel_rfl) ?_
  refine cs_seq ?_
  refine cs_region (l:=[_,_,_,_,_,_,_,_,_,_,_,_,_,_]) ?_
  refine lv (.pointer (some ⟨g1,(0+2),none⟩)) ?_
  refine ls_load (a0:=⟨g1,(0+2),none⟩) (v:=.slice A0_2 a0.2.2.1.length c0_2) (de:=(TypeDesc.slice 23)) rfl rfl (by kernel_rfl) rfl (by kernel_rfl) (by kernel_rfl) (by kernel_rfl) (fun w hs=>(hs.var (k:=0) (by exact rfl) (Sub4.trans (Sub4.all _) (Sub4.skip (n:=1) (len1 _) (Sub4.skip (n:=1) (len1 _) (Sub4.head _ _)))))) ?_
  refine lv (.int .i64 (a0.2.2.1.length:Int)) ?_
  refine lv (.pointer (some ⟨g1,(0+1),none⟩)) ?_
  refine ls_load (a0:=⟨g1,(0+1),none⟩) (v:=.slice A0_1 a0.2.1.length c0_1) (de:=(TypeDesc.slice 23)) rfl rfl (by kernel_rfl) rfl (by kernel_rfl) (by kernel_rfl) (by kernel_rfl) (fun w hs=>(hs.var (k:=0) (by exact rfl) (Sub4.trans (Sub4.all _) (Sub4.skip (n:=1) (len1 _) (Sub4.head _ _))))) ?_
  refine lv (.int .i64 (a0.2.1.length:Int)) ?_
  refine lv (.bool (decide ((a0.2.2.1.length:Int)=(a0.2.1.length:Int)))) ?_
  refine lv (.bool (decide ((a0.2.2.1.length:Int)=(a0.2.1.length:Int)))) ?_
  by_cases q3:(a0.2.2.1.length:Int)=(a0.2.1.length:Int)
  ·replace H := ite_t q3 H
   refine ls_know (c:=true) (dec_t q3) 13 (by kernel_rfl) ?_
   refine ls_on (j:=7) (t:=13) (b:=true) rfl rfl (by kernel_rfl) (by kernel_rfl) ?_
   refine lv (.pointer (some ⟨g1,(0+3),none⟩)) ?_
   refine ls_on (j:=7) (t:=13) (b:=true) rfl rfl (by kernel_rfl) (by kernel_rfl) ?_
   refine ls_load (a0:=⟨g1,(0+3),none⟩) (v:=.slice A0_3 a0.2.2.2.length c0_3) (de:=(TypeDesc.slice 44)) rfl rfl (by kernel_rfl) rfl (by kernel_rfl) (by kernel_rfl) (by kernel_rfl) (fun w hs=>(hs.var (k:=0) (by exact rfl) (Sub4.trans (Sub4.all _) (Sub4.skip (n:=1) (len1 _) (Sub4.skip (n:=1) (len1 _) (Sub4.skip (n:=1) (len1 _) (Sub4.all _))))))) ?_
   refine ls_on (j:=7) (t:=13) (b:=true) rfl rfl (by kernel_rfl) (by kernel_rfl) ?_
   refine lv (.int .i64 (a0.2.2.2.length:Int)) ?_
   refine ls_on (j:=7) (t:=13) (b:=true) rfl rfl (by kernel_rfl) (by kernel_rfl) ?_
   refine lv (.bool (decide ((a0.2.2.2.length:Int)=(0:Int)))) ?_
   refine lv (.bool (decide ((a0.2.2.2.length:Int)=(0:Int)))) ?_
   refine lv (.bool (decide ((a0.2.2.2.length:Int)=(0:Int)))) ?_
   refine ls_end ?_
   refine qn_then ?_
   refine cs_ret' ?_
   refine qr_then ?_
   obtain rfl := Option.some.inj H
   refine qr_res (rs:=[_]) rfl (fun w' hs=>⟨[.bool (decide ((a0.2.2.2.length:Int)=(0:Int)))],(res_tmp (by kernel_rfl) (.nil)),(),rfl,hs.pick (ts:=[]) (cs:=[]) trivial (by decide)⟩)
  replace H := ite_f q3 H
  refine ls_know (c:=false) (dec_f q3) 13 (by kernel_rfl) ?_
  refine lofx 7 13 true false ?_
  refine lofx 7 13 true false ?_
  refine lofx 7 13 true false ?_
  refine lofx 7 13 true false ?_
  refine lv (.bool false) ?_
  refine lv (.bool false) ?_
  refine ls_end ?_
  refine qn_then ?_
  refine cs_ret' ?_
  refine qr_then ?_
  obtain rfl := Option.some.inj H
  refine qr_res (rs:=[_]) rfl (fun w' hs=>⟨[.bool false],(res_tmp (by kernel_rfl) (.nil)),(),rfl,hs.pick (ts:=[]) (cs:=[]) trivial (by decide)⟩)
 replace H := ite_f q2 H
 refine cs_know (c:=false) (dec_f q2) 5 (by kernel_rfl) ?_
 refine cs_false (by kernel_rfl) ?_
 refine cs_skip' ?_
 refine qn_then ?_
 refine cs_seq ?_
 refine cs_region (l:=[_,_,_,_,_,_,_,_,_,_,_,_,_,_]) ?_
 refine lv (.pointer (some ⟨g1,(0+3),none⟩)) ?_
 refine ls_load (a0:=⟨g1,(0+3),none⟩) (v:=.slice A0_3 a0.2.2.2.length c0_3) (de:=(TypeDesc.slice 44)) rfl rfl (by kernel_rfl) rfl (by kernel_rfl) (by kernel_rfl) (by kernel_rfl) (fun w hs=>(hs.var (k:=0) (by exact rfl) (Sub4.trans (Sub4.all _) (Sub4.skip (n:=1) (len1 _) (Sub4.skip (n:=1) (len1 _) (Sub4.skip (n:=1) (len1 _) (Sub4.all _))))))) ?_
 refine lv (.int .i64 (a0.2.2.2.length:Int)) ?_
 refine lv (.pointer (some ⟨g1,(0+1),none⟩)) ?_
 refine ls_load (a0:=⟨g1,(0+1),none⟩) (v:=.slice A0_1 a0.2.1.length c0_1) (de:=(TypeDesc.slice 23)) rfl rfl (by kernel_rfl) rfl (by kernel_rfl) (by kernel_rfl) (by kernel_rfl) (fun w hs=>(hs.var (k:=0) (by exact rfl) (Sub4.trans (Sub4.all _) (Sub4.skip (n:=1) (len1 _) (Sub4.head _ _))))) ?_
 refine lv (.int .i64 (a0.2.1.length:Int)) ?_
 refine lv (.bool (decide ((a0.2.2.2.length:Int)=(a0.2.1.length:Int)))) ?_
 refine lv (.bool (decide ((a0.2.2.2.length:Int)=(a0.2.1.length:Int)))) ?_
 by_cases q4:(a0.2.2.2.length:Int)=(a0.2.1.length:Int)
 ·replace H := ite_t q4 H
  refine ls_know (c:=true) (dec_t q4) 26 (by kernel_rfl) ?_
  refine ls_on (j:=7) (t:=26) (b:=true) rfl rfl (by kernel_rfl) (by kernel_rfl) ?_
  refine lv (.pointer (some ⟨g1,(0+2),none⟩)) ?_
  refine ls_on (j:=7) (t:=26) (b:=true) rfl rfl (by kernel_rfl) (by kernel_rfl) ?_
  refine ls_load (a0:=⟨g1,(0+2),none⟩) (v:=.slice A0_2 a0.2.2.1.length c0_2) (de:=(TypeDesc.slice 23)) rfl rfl (by kernel_rfl) rfl (by kernel_rfl) (by kernel_rfl) (by kernel_rfl) (fun w hs=>(hs.var (k:=0) (by exact rfl) (Sub4.trans (Sub4.all _) (Sub4.skip (n:=1) (len1 _) (Sub4.skip (n:=1) (len1 _) (Sub4.head _ _)))))) ?_
  refine ls_on (j:=7) (t:=26) (b:=true) rfl rfl (by kernel_rfl) (by kernel_rfl) ?_
  refine lv (.int .i64 (a0.2.2.1.length:Int)) ?_
  refine ls_on (j:=7) (t:=26) (b:=true) rfl rfl (by kernel_rfl) (by kernel_rfl) ?_
  refine lv (.bool (decide ((a0.2.2.1.length:Int)=(0:Int)))) ?_
  refine lv (.bool (decide ((a0.2.2.1.length:Int)=(0:Int)))) ?_
  refine lv (.bool (decide ((a0.2.2.1.length:Int)=(0:Int)))) ?_
  refine ls_end ?_
  refine qn_then ?_
  refine cs_ret' ?_
  obtain rfl := Option.some.inj H
  refine qr_res (rs:=[_]) rfl (fun w' hs=>⟨[.bool (decide ((a0.2.2.1.length:Int)=(0:Int)))],(res_tmp (by kernel_rfl) (.nil)),(),rfl,hs.pick (ts:=[]) (cs:=[]) trivial (by decide)⟩)
 replace H := ite_f q4 H
 refine ls_know (c:=false) (dec_f q4) 26 (by kernel_rfl) ?_
 refine lofx 7 26 true false ?_
 refine lofx 7 26 true false ?_
 refine lofx 7 26 true false ?_
 refine lofx 7 26 true false ?_
 refine lv (.bool false) ?_
 refine lv (.bool false) ?_
 refine ls_end ?_
 refine qn_then ?_
 refine cs_ret' ?_
 obtain rfl := Option.some.inj H
 refine qr_res (rs:=[_]) rfl (fun w' hs=>⟨[.bool false],(res_tmp (by kernel_rfl) (.nil)),(),rfl,hs.pick (ts:=[]) (cs:=[]) trivial (by decide)⟩)
def pointer_Right_1.f (k:Nat) (a0:Int) (a1:Int) (a2:Int):Option (Bool) :=
  (if a0≥a1 then some (decide (a0≤a2)) else some false)
theorem pointer_Right_1.calls (k:Nat) (a0:Int) (a1:Int) (a2:Int) (r:Bool) (b:Bs) (hs0:St b (stl []) b.w) (H:pointer_Right_1.f k a0 a1 a2=some r) :
    Calls Try.prog 98 #[.int .i64 a0,.int .i64 a1,.int .i64 a2] b.w fun e w'=>∃ x:Unit,e=.returned (.bool r)∧St b (stl []) w' := by
 unfold pointer_Right_1.f at H
 refine enterb (n:=15) Try.func98 rfl (by kernel_rfl) (by kernel_rfl) hs0 ?_
 refine cs_sub (s0) (sub_nil _) ?_
 refine cs_seq ?_
 refine cs_region (l:=[_]) ?_
 refine lv (.bool false) ?_
 refine ls_end ?_
 refine qn_then ?_
 refine cs_seq ?_
 refine cs_region (l:=[_,_,_,_,_,_,_,_,_]) ?_
 refine lv (.int .i64 a0) ?_
 refine lv (.int .i64 a1) ?_
 refine lv (.bool (decide (a0≥a1))) ?_
 refine lv (.bool (decide (a0≥a1))) ?_
 by_cases q1:a0≥a1
 ·replace H := ite_t q1 H
  refine ls_know (c:=true) (dec_t q1) 10 (by kernel_rfl) ?_
  refine ls_on (j:=3) (t:=10) (b:=true) rfl rfl (by kernel_rfl) (by kernel_rfl) ?_
  refine lv (.int .i64 a0) ?_
  refine ls_on (j:=3) (t:=10) (b:=true) rfl rfl (by kernel_rfl) (by kernel_rfl) ?_
  refine lv (.int .i64 a2) ?_
  refine ls_on (j:=3) (t:=10) (b:=true) rfl rfl (by kernel_rfl) (by kernel_rfl) ?_
  refine lv (.bool (decide (a0≤a2))) ?_
  refine lv (.bool (decide (a0≤a2))) ?_
  refine lv (.bool (decide (a0≤a2))) ?_
  refine ls_end ?_
  refine qn_then ?_
  refine cs_ret' ?_
  obtain rfl := Option.some.inj H
  refine qr_res (rs:=[_]) rfl (fun w' hs=>⟨[.bool (decide (a0≤a2))],(res_tmp (by kernel_rfl) (.nil)),(),rfl,hs.pick (ts:=[]) (cs:=[]) trivial (by decide)⟩)
 replace H := ite_f q1 H
 refine ls_know (c:=false) (dec_f q1) 10 (by kernel_rfl) ?_
 refine lofx 3 10 true false ?_
 refine lofx 3 10 true false ?_
 refine lofx 3 10 true false ?_
 refine lv (.bool false) ?_
 refine lv (.bool false) ?_
 refine ls_end ?_
 refine qn_then ?_
 refine cs_ret' ?_
 obtain rfl := Option.some.inj H
 refine qr_res (rs:=[_]) rfl (fun w' hs=>⟨[.bool false],(res_tmp (by kernel_rfl) (.nil)),(),rfl,hs.pick (ts:=[]) (cs:=[]) trivial (by decide)⟩)
def pointer_Sectors.f (k:Nat) (a0:PT):Option (Int) :=
  (if a0.2.2.1<(1:Int) then some (0:Int) else (if a0.2.2.1 > (65536:Int) then some (0:Int) else lt (IntKind.wrap .i64 (a0.2.2.1+(512:Int))) fun y4=>lt (IntKind.wrap .i64 (Int.tdiv (IntKind.wrap .i64 (y4 - (1:Int))) (512:Int))) fun y6=>some y6))
theorem pointer_Sectors.calls (k:Nat) (a0:PT) (r:Int) (b:Bs) (hs0:St b (stl []) b.w) (H:pointer_Sectors.f k a0=some r) :
    Calls Try.prog 99 #[.agg ⟨([Value.int .i64 a0.1]++([Value.int .i64 a0.2.1]++([Value.int .i64 a0.2.2.1]++([Value.int .u32 a0.2.2.2.1]++en (Value.int .u8) a0.2.2.2.2.1))))⟩] b.w fun e w'=>∃ x:Unit,e=.returned (.int .i64 r)∧St b (stl []) w' := by
 unfold pointer_Sectors.f at H
 refine enterb (n:=16) Try.func99 rfl (by kernel_rfl) (by kernel_rfl) hs0 ?_
 refine cs_sub (s0) (sub_nil _) ?_
 refine cs_seq ?_
 refine cs_region (l:=[_,_]) ?_
 refine ls_new rfl rfl (by kernel_rfl) 0 (fun g=>.pointer (some ⟨g,0,none⟩)) (.cells ⟨([Value.int .i64 a0.1]++([Value.int .i64 a0.2.1]++([Value.int .i64 a0.2.2.1]++([Value.int .u32 a0.2.2.2.1]++en (Value.int .u8) a0.2.2.2.2.1))))⟩ 44) (fun w=>by kernel_rfl) ?_
 intro g1
 refine lv (.int .i64 (0:Int)) ?_
 refine ls_end ?_
 refine qn_then ?_
 refine cs_seq ?_
 refine cs_seq ?_
 refine cs_region (l:=[_,_,_,_,_,_,_,_]) ?_
 refine lv (.pointer (some ⟨g1,(0+2),none⟩)) ?_
 refine ls_load (a0:=⟨g1,(0+2),none⟩) (v:=.int .i64 a0.2.2.1) (de:=(TypeDesc.int .i64)) rfl rfl (by kernel_rfl) rfl (by kernel_rfl) (by kernel_rfl) (by kernel_rfl) (fun w hs=>(hs.var (k:=0) (by exact rfl) (Sub4.trans (Sub4.all _) (Sub4.skip (n:=1) (len1 _) (Sub4.skip (n:=1) (len1 _) (Sub4.head _ _)))))) ?_
 refine lv (.bool (decide (a0.2.2.1<(1:Int)))) ?_
 refine lv (.bool (decide (a0.2.2.1<(1:Int)))) ?_
 by_cases q2:a0.2.2.1<(1:Int)
 ·replace H := ite_t q2 H
  refine ls_know (c:=true) (dec_t q2) 6 (by kernel_rfl) ?_
  refine lofx 3 6 false true ?_
  refine lofx 3 6 false true ?_
  refine lofx 3 6 false true ?_
  refine lv (.bool true) ?_
  refine ls_end ?_
  refine qn_then ?_
  refine cs_true (by kernel_rfl) ?_
  refine cs_seq ?_
  refine cs_region (l:=[_]) ?_
  refine lv (.int .i64 (0:Int)) ?_
  refine ls_end ?_
  refine qn_then ?_
  refine cs_ret' ?_
  refine qr_then ?_
  obtain rfl := Option.some.inj H
  refine qr_res (rs:=[_]) rfl (fun w' hs=>⟨[.int .i64 (0:Int)],(res_tmp (by kernel_rfl) (.nil)),(),rfl,hs.pick (ts:=[]) (cs:=[]) trivial (by decide)⟩)
 replace H := ite_f q2 H
 refine ls_know (c:=false) (dec_f q2) 6 (by kernel_rfl) ?_
 refine ls_on (j:=3) (t:=6) (b:=false) rfl rfl (by kernel_rfl) (by kernel_rfl) ?_
 refine lv (.pointer (some ⟨g1,(0+2),none⟩)) ?_
 refine ls_on (j:=3) (t:=6) (b:=false) rfl rfl (by kernel_rfl) (by kernel_rfl) ?_
 refine ls_load (a0:=⟨g1,(0+2),none⟩) (v:=.int .i64 a0.2.2.1) (de:=(TypeDesc.int .i64)) rfl rfl (by kernel_rfl) rfl (by kernel_rfl) (by kernel_rfl) (by kernel_rfl) (fun w hs=>(hs.var (k:=0) (by exact rfl) (Sub4.trans (Sub4.all _) (Sub4.skip (n:=1) (len1 _) (Sub4.skip (n:=1) (len1 _) (Sub4.head _ _)))))) ?_
 refine ls_on (j:=3) (t:=6) (b:=false) rfl rfl (by kernel_rfl) (by kernel_rfl) ?_
 refine lv (.bool (decide (a0.2.2.1 > (65536:Int)))) ?_
 refine lv (.bool (decide (a0.2.2.1 > (65536:Int)))) ?_
 refine ls_end ?_
 refine qn_then ?_
 by_cases q3:a0.2.2.1 > (65536:Int)
 ·replace H := ite_t q3 H
  refine cs_know (c:=true) (dec_t q3) 10 (by kernel_rfl) ?_
  refine cs_true (by kernel_rfl) ?_
  refine cs_seq ?_
  refine cs_region (l:=[_]) ?_
  refine lv (.int .i64 (0:Int)) ?_
  refine ls_end ?_
  refine qn_then ?_
  refine cs_ret' ?_
  refine qr_then ?_
  obtain rfl := Option.some.inj H
  refine qr_res (rs:=[_]) rfl (fun w' hs=>⟨[.int .i64 (0:Int)],(res_tmp (by kernel_rfl) (.nil)),(),rfl,hs.pick (ts:=[]) (cs:=[]) trivial (by decide)⟩)
 replace H := ite_f q3 H
 refine cs_know (c:=false) (dec_f q3) 10 (by kernel_rfl) ?_
 refine cs_false (by kernel_rfl) ?_
 refine cs_skip' ?_
 refine qn_then ?_
 refine cs_seq ?_
 refine cs_region (l:=[_,_,_,_,_,_]) ?_
 refine lv (.pointer (some ⟨g1,(0+2),none⟩)) ?_
 refine ls_load (a0:=⟨g1,(0+2),none⟩) (v:=.int .i64 a0.2.2.1) (de:=(TypeDesc.int .i64)) rfl rfl (by kernel_rfl) rfl (by kernel_rfl) (by kernel_rfl) (by kernel_rfl) (fun w hs=>(hs.var (k:=0) (by exact rfl) (Sub4.trans (Sub4.all _) (Sub4.skip (n:=1) (len1 _) (Sub4.skip (n:=1) (len1 _) (Sub4.head _ _)))))) ?_
 obtain ⟨y4,hy5,H⟩ := lt_some H
 refine lv (.int .i64 (IntKind.wrap .i64 (a0.2.2.1+(512:Int)))) ?_
 refine ls_ren 13 (v:=.int .i64 (IntKind.wrap .i64 (a0.2.2.1+(512:Int)))) (v' := .int .i64 y4) (by kernel_rfl) (by rw [hy5]) ?_
 refine lv (.int .i64 (IntKind.wrap .i64 (y4 - (1:Int)))) ?_
 obtain ⟨y6,hy7,H⟩ := lt_some H
 refine lv (.int .i64 (IntKind.wrap .i64 (Int.tdiv (IntKind.wrap .i64 (y4 - (1:Int))) (512:Int)))) ?_
 refine ls_ren 15 (v:=.int .i64 (IntKind.wrap .i64 (Int.tdiv (IntKind.wrap .i64 (y4 - (1:Int))) (512:Int)))) (v' := .int .i64 y6) (by kernel_rfl) (by rw [hy7]) ?_
 refine lv (.int .i64 y6) ?_
 refine ls_end ?_
 refine qn_then ?_
 refine cs_ret' ?_
 obtain rfl := Option.some.inj H
 refine qr_res (rs:=[_]) rfl (fun w' hs=>⟨[.int .i64 y6],(res_tmp (by kernel_rfl) (.nil)),(),rfl,hs.pick (ts:=[]) (cs:=[]) trivial (by decide)⟩)
def pointer_Right.tab1:List (List Nat) := [[],[],[1],[0,1,2],[0,1,2,3],[0,1,2,3,4],[0,1,2,3,4,5],[0,1,2,3,4,5,6],[0,1,2,3,4,5,6,7],[0,1,2,3,4,5,6,7,8],[0,1,2,3,4,5,6,7,8,9],[0,1,2,3,4,5,6,7,8,9],[0,1,2,3,4,5,6,7,8,9,11],[0,1,2,3,4,5,6,7,8,9],[0,1,2,3,4,5,6,7,8,9,13],[0,1,2,3,4,5,6,7,8,9,13,14],[0,1,2,3,4,5,6,7,8,9,10,11,12,13,14,15],[0,1,2,3,4,5,6,7,8,9,10,11,12,13,14,15,16],[0,1,2,3,4,5,6,7,8,9,10,11,12,13,14,15,16,17]]
def pointer_Right.f (k:Nat) (a0:PT):Option (Bool) :=
  (pointer_Right_1.f k a0.2.1 (1:Int) (1152921504606846976:Int)).bind fun t4=>(if t4=true then (pointer_Sectors.f k a0).bind fun t8=>(if t8 > (0:Int) then (pointer_Sectors.f k a0).bind fun t12=>(pointer_Right_1.f k a0.1 (2:Int) (IntKind.wrap .i64 ((8192:Int) - t12))).bind fun t15=>some t15 else some false) else some false)
theorem pointer_Right.calls (k:Nat) (a0:PT) (r:Bool) (b:Bs) (hs0:St b (stl []) b.w) (H:pointer_Right.f k a0=some r) :
    Calls Try.prog 72 #[.agg ⟨([Value.int .i64 a0.1]++([Value.int .i64 a0.2.1]++([Value.int .i64 a0.2.2.1]++([Value.int .u32 a0.2.2.2.1]++en (Value.int .u8) a0.2.2.2.2.1))))⟩] b.w fun e w'=>∃ x:Unit,e=.returned (.bool r)∧St b (stl []) w' := by
 unfold pointer_Right.f at H
 refine enterb (n:=22) Try.func72 rfl (by kernel_rfl) (by kernel_rfl) hs0 ?_
 refine cs_sub (s0) (sub_nil _) ?_
 refine cs_seq ?_
 refine cs_region (l:=[_,_]) ?_
 refine ls_new rfl rfl (by kernel_rfl) 0 (fun g=>.pointer (some ⟨g,0,none⟩)) (.cells ⟨([Value.int .i64 a0.1]++([Value.int .i64 a0.2.1]++([Value.int .i64 a0.2.2.1]++([Value.int .u32 a0.2.2.2.1]++en (Value.int .u8) a0.2.2.2.2.1))))⟩ 44) (fun w=>by kernel_rfl) ?_
 intro g1
 refine lv (.bool false) ?_
 refine ls_end ?_
 refine qn_then ?_
 refine cs_seq ?_
 refine cs_region (l:=[_]) ?_
 refine lv (.func (.func 98) #[] #[]) ?_
 refine ls_end ?_
 refine qn_then ?_
 refine cs_seq ?_
 obtain ⟨s3_0,hs3_0⟩ := exv (.func (.func 98) #[] #[])
 refine have_opa pointer_Right.tab1 1 0 (fun sp=>sp 0=s3_0) (fun sp on hA hon=>?_) (fun ops3_0=>?_)
 ·refine ⟨fun o ho vs Rs f' S' w hp hf hx hS hR hs=>?_⟩
  obtain rfl := Option.some.inj ho
  exact opv (.func (.func 98) #[] #[]) hA hs3_0 hon (fr_next (rfl) ((hx 3 (by kernel_rfl)).trans (by kernel_rfl:(_:Value)=.func (.func 98) #[] #[])))
 obtain ⟨s3_1,hs3_1⟩ := exv (.pointer (some ⟨g1,(0+1),none⟩))
 refine have_opa pointer_Right.tab1 1 1 (fun sp=>sp 1=s3_1) (fun sp on hA hon=>?_) (fun ops3_1=>?_)
 ·refine ⟨fun o ho vs Rs f' S' w hp hf hx hS hR hs=>?_⟩
  obtain rfl := Option.some.inj ho
  exact opv (.pointer (some ⟨g1,(0+1),none⟩)) hA hs3_1 hon (fr_next (rfl) ((hx 1 (by kernel_rfl)).trans (by kernel_rfl:(_:Value)=.pointer (some ⟨g1,0,none⟩))))
 obtain ⟨s3_2,hs3_2⟩ := exv (.int .i64 a0.2.1)
 refine have_opa pointer_Right.tab1 1 2 (fun sp=>sp 2=s3_2∧sp 1=s3_1) (fun sp on hA hon=>?_) (fun ops3_2=>?_)
 ·refine ⟨fun o ho vs Rs f' S' w hp hf hx hS hR hs=>?_⟩
  obtain rfl := Option.some.inj ho
  obtain ⟨hv1,hR1⟩ := (spe hA.2 hs3_1 (hp 1 (by kernel_rfl)))
  rw [hA.1,hs3_2]
  refine wn hon ?_
  have hF := fr_next (rfl) ((hf 1 5 (by kernel_rfl) rfl).trans hv1)
  refine ls_fr hF ?_
  refine ls_load (a0:=⟨g1,(0+1),none⟩) (v:=.int .i64 a0.2.1) (de:=(TypeDesc.int .i64)) rfl rfl (by kernel_rfl) rfl (by kernel_rfl) (by kernel_rfl) (by kernel_rfl) (fun w1 hs1=>cell_step hs1.below.bw (hs.var (k:=0) ((hS 0 (by kernel_rfl)).trans (by exact rfl)) (Sub4.trans (Sub4.all _) (Sub4.skip (n:=1) (len1 _) (Sub4.head _ _))))) ?_
  exact ls_fin s0 _ (congrArg (fun z=>upd z 6 _) hF.symm) ⟨rfl,rfl⟩ (sub_nil _)
 obtain ⟨t4,hc5,H⟩ := bind_some H
 obtain ⟨s3_3,hs3_3⟩:∃ z:Value→Sto→Prop,z=(fun v R=>∃ x6:Unit,v=.bool t4∧R=stl []) := ⟨_,rfl⟩
 refine have_opa pointer_Right.tab1 1 3 (fun sp=>sp 3=s3_3∧sp 0=s3_0∧sp 2=s3_2) (fun sp on hA hon=>?_) (fun ops3_3=>?_)
 ·refine ⟨fun o ho vs Rs f' S' w hp hf hx hS hR hs=>?_⟩
  obtain rfl := Option.some.inj ho
  obtain ⟨hv0,hR0⟩ := (spe hA.2.1 hs3_0 (hp 0 (by kernel_rfl)))
  obtain ⟨hv2,hR2⟩ := (spe hA.2.2 hs3_2 (hp 2 (by kernel_rfl)))
  rw [hA.1,hs3_3]
  refine wn hon ?_
  have hF := fr_next (fr_next (rfl) ((hf 0 4 (by kernel_rfl) rfl).trans hv0)) ((hf 2 6 (by kernel_rfl) rfl).trans hv2)
  refine ls_fr hF ?_
  refine ls_call (fid:=98) (vals:=#[.int .i64 a0.2.1,.int .i64 (1:Int),.int .i64 (1152921504606846976:Int)]) (X:=Unit) (fun x=>.bool t4) (fun x=>stl []) 0 rfl rfl (by kernel_rfl) (fun w=>by kernel_rfl) (fun w1 hs1=>pointer_Right_1.calls k a0.2.1 (1:Int) (1152921504606846976:Int) t4 (bw w1) (St.refl w1)  hc5) ?_
  intro x6
  exact ls_fin (stl []) (.bool t4) (congrArg (fun z=>upd z 7 _) hF.symm) ⟨x6,rfl,rfl⟩ (sub_join _)
 obtain ⟨s3_4,hs3_4⟩ := exv (.bool t4)
 refine have_opa pointer_Right.tab1 1 4 (fun sp=>sp 4=s3_4∧sp 3=s3_3) (fun sp on hA hon=>?_) (fun ops3_4=>?_)
 ·refine ⟨fun o ho vs Rs f' S' w hp hf hx hS hR hs=>?_⟩
  obtain rfl := Option.some.inj ho
  obtain ⟨x6,hv3,hR3⟩ := (spe hA.2 hs3_3 (hp 3 (by kernel_rfl)))
  exact opv (.bool t4) hA.1 hs3_4 hon (fr_next (rfl) ((hf 3 7 (by kernel_rfl) rfl).trans hv3))
 by_cases q7:t4=true
 ·replace H := ite_t q7 H
  obtain ⟨s3_5,hs3_5⟩ := exv (.agg ⟨([Value.int .i64 a0.1]++([Value.int .i64 a0.2.1]++([Value.int .i64 a0.2.2.1]++([Value.int .u32 a0.2.2.2.1]++en (Value.int .u8) a0.2.2.2.2.1))))⟩)
  refine have_opa pointer_Right.tab1 1 5 (fun sp=>sp 5=s3_5∧sp 4=s3_4) (fun sp on hA hon=>?_) (fun ops3_5=>?_)
  ·refine ⟨fun o ho vs Rs f' S' w hp hf hx hS hR hs=>?_⟩
   obtain rfl := Option.some.inj ho
   obtain ⟨hv4,hR4⟩ := (spe hA.2 hs3_4 (hp 4 (by kernel_rfl)))
   rw [hA.1,hs3_5]
   refine And.intro (fun a ha=>(want_is (j:=4) (t:=8) (r:=true) rfl rfl (by kernel_rfl) (((hf 4 8 (by kernel_rfl) rfl).trans hv4).trans (congrArg Value.bool (show t4=true from q7))) rfl a ha).trans hon.symm) (And.intro (fun _=>?_) (fun h=>by rw [hon] at h; cases h))
   have hF := fr_next (fr_next (rfl) ((hx 1 (by kernel_rfl)).trans (by kernel_rfl:(_:Value)=.pointer (some ⟨g1,0,none⟩)))) (((hf 4 8 (by kernel_rfl) rfl).trans hv4).trans (congrArg Value.bool (show t4=true from q7)))
   refine ls_fr hF ?_
   refine ls_loadagg (a:=⟨g1,0,none⟩) (sub:=([Value.int .i64 a0.1]++([Value.int .i64 a0.2.1]++([Value.int .i64 a0.2.2.1]++([Value.int .u32 a0.2.2.2.1]++en (Value.int .u8) a0.2.2.2.2.1))))) rfl rfl (by kernel_rfl) rfl (by kernel_rfl) (by kernel_rfl) (by kernel_rfl) (len_app (len1 _) (len_app (len1 _) (len_app (len1 _) (len_app (len1 _) (len_en _ a0.2.2.2.2))))) (fun w1 hs1=>Rd.step (hs.vars (k:=0) ((hS 0 (by kernel_rfl)).trans (by exact rfl)) (Sub4.all _)) hs1.below.bw) ?_
   exact ls_fin s0 _ (congrArg (fun z=>upd z 9 _) hF.symm) ⟨rfl,rfl⟩ (sub_nil _)
  obtain ⟨t8,hc9,H⟩ := bind_some H
  obtain ⟨s3_6,hs3_6⟩:∃ z:Value→Sto→Prop,z=(fun v R=>∃ x10:Unit,v=.int .i64 t8∧R=stl []) := ⟨_,rfl⟩
  refine have_opa pointer_Right.tab1 1 6 (fun sp=>sp 6=s3_6∧sp 4=s3_4∧sp 5=s3_5) (fun sp on hA hon=>?_) (fun ops3_6=>?_)
  ·refine ⟨fun o ho vs Rs f' S' w hp hf hx hS hR hs=>?_⟩
   obtain rfl := Option.some.inj ho
   obtain ⟨hv4,hR4⟩ := (spe hA.2.1 hs3_4 (hp 4 (by kernel_rfl)))
   obtain ⟨hv5,hR5⟩ := (spe hA.2.2 hs3_5 (hp 5 (by kernel_rfl)))
   rw [hA.1,hs3_6]
   refine And.intro (fun a ha=>(want_is (j:=4) (t:=8) (r:=true) rfl rfl (by kernel_rfl) (((hf 4 8 (by kernel_rfl) rfl).trans hv4).trans (congrArg Value.bool (show t4=true from q7))) rfl a ha).trans hon.symm) (And.intro (fun _=>?_) (fun h=>by rw [hon] at h; cases h))
   have hF := fr_next (fr_next (rfl) (((hf 4 8 (by kernel_rfl) rfl).trans hv4).trans (congrArg Value.bool (show t4=true from q7)))) ((hf 5 9 (by kernel_rfl) rfl).trans hv5)
   refine ls_fr hF ?_
   refine ls_call (fid:=99) (vals:=#[.agg ⟨([Value.int .i64 a0.1]++([Value.int .i64 a0.2.1]++([Value.int .i64 a0.2.2.1]++([Value.int .u32 a0.2.2.2.1]++en (Value.int .u8) a0.2.2.2.2.1))))⟩]) (X:=Unit) (fun x=>.int .i64 t8) (fun x=>stl []) 0 rfl rfl (by kernel_rfl) (fun w=>by kernel_rfl) (fun w1 hs1=>pointer_Sectors.calls k a0 t8 (bw w1) (St.refl w1)  hc9) ?_
   intro x10
   exact ls_fin (stl []) (.int .i64 t8) (congrArg (fun z=>upd z 10 _) hF.symm) ⟨x10,rfl,rfl⟩ (sub_join _)
  obtain ⟨s3_7,hs3_7⟩ := exv (.bool (decide (t8 > (0:Int))))
  refine have_opa pointer_Right.tab1 1 7 (fun sp=>sp 7=s3_7∧sp 4=s3_4∧sp 6=s3_6) (fun sp on hA hon=>?_) (fun ops3_7=>?_)
  ·refine ⟨fun o ho vs Rs f' S' w hp hf hx hS hR hs=>?_⟩
   obtain rfl := Option.some.inj ho
   obtain ⟨hv4,hR4⟩ := (spe hA.2.1 hs3_4 (hp 4 (by kernel_rfl)))
   obtain ⟨x10,hv6,hR6⟩ := (spe hA.2.2 hs3_6 (hp 6 (by kernel_rfl)))
   rw [hA.1,hs3_7]
   refine And.intro (fun a ha=>(want_is (j:=4) (t:=8) (r:=true) rfl rfl (by kernel_rfl) (((hf 4 8 (by kernel_rfl) rfl).trans hv4).trans (congrArg Value.bool (show t4=true from q7))) rfl a ha).trans hon.symm) (And.intro (fun _=>?_) (fun h=>by rw [hon] at h; cases h))
   have hF := fr_next (fr_next (rfl) (((hf 4 8 (by kernel_rfl) rfl).trans hv4).trans (congrArg Value.bool (show t4=true from q7)))) ((hf 6 10 (by kernel_rfl) rfl).trans hv6)
   refine ls_fr hF ?_
   refine lv (.bool (decide (t8 > (0:Int)))) ?_
   exact ls_fin s0 _ (congrArg (fun z=>upd z 11 _) hF.symm) ⟨rfl,rfl⟩ (sub_nil _)
  obtain ⟨s3_8,hs3_8⟩ := exv (.bool (decide (t8 > (0:Int))))
  refine have_opa pointer_Right.tab1 1 8 (fun sp=>sp 8=s3_8∧sp 4=s3_4∧sp 7=s3_7) (fun sp on hA hon=>?_) (fun ops3_8=>?_)
  ·refine ⟨fun o ho vs Rs f' S' w hp hf hx hS hR hs=>?_⟩
   obtain rfl := Option.some.inj ho
   obtain ⟨hv4,hR4⟩ := (spe hA.2.1 hs3_4 (hp 4 (by kernel_rfl)))
   obtain ⟨hv7,hR7⟩ := (spe hA.2.2 hs3_7 (hp 7 (by kernel_rfl)))
   exact opv (.bool (decide (t8 > (0:Int)))) hA.1 hs3_8 hon (fr_next (fr_next (rfl) (((hf 4 8 (by kernel_rfl) rfl).trans hv4).trans (congrArg Value.bool (show t4=true from q7)))) ((hf 7 11 (by kernel_rfl) rfl).trans hv7))
  obtain ⟨s3_9,hs3_9⟩ := exv (.bool (decide (t8 > (0:Int))))
  refine have_opa pointer_Right.tab1 1 9 (fun sp=>sp 9=s3_9∧sp 8=s3_8) (fun sp on hA hon=>?_) (fun ops3_9=>?_)
  ·refine ⟨fun o ho vs Rs f' S' w hp hf hx hS hR hs=>?_⟩
   obtain rfl := Option.some.inj ho
   obtain ⟨hv8,hR8⟩ := (spe hA.2 hs3_8 (hp 8 (by kernel_rfl)))
   exact opv (.bool (decide (t8 > (0:Int)))) hA.1 hs3_9 hon (fr_next (rfl) ((hf 8 12 (by kernel_rfl) rfl).trans hv8))
  by_cases q11:t8 > (0:Int)
  ·replace H := ite_t q11 H
   obtain ⟨s3_10,hs3_10⟩ := exv (.func (.func 98) #[] #[])
   refine have_opa pointer_Right.tab1 1 10 (fun sp=>sp 10=s3_10∧sp 9=s3_9) (fun sp on hA hon=>?_) (fun ops3_10=>?_)
   ·refine ⟨fun o ho vs Rs f' S' w hp hf hx hS hR hs=>?_⟩
    obtain rfl := Option.some.inj ho
    obtain ⟨hv9,hR9⟩ := (spe hA.2 hs3_9 (hp 9 (by kernel_rfl)))
    rw [hA.1,hs3_10]
    refine And.intro (fun a ha=>(want_is (j:=9) (t:=13) (r:=true) rfl rfl (by kernel_rfl) (((hf 9 13 (by kernel_rfl) rfl).trans hv9).trans (congrArg Value.bool (show (decide (t8 > (0:Int)))=true from dec_t q11))) rfl a ha).trans hon.symm) (And.intro (fun _=>?_) (fun h=>by rw [hon] at h; cases h))
    have hF := fr_next (fr_next (rfl) ((hx 3 (by kernel_rfl)).trans (by kernel_rfl:(_:Value)=.func (.func 98) #[] #[]))) (((hf 9 13 (by kernel_rfl) rfl).trans hv9).trans (congrArg Value.bool (show (decide (t8 > (0:Int)))=true from dec_t q11)))
    refine ls_fr hF ?_
    refine lv (.func (.func 98) #[] #[]) ?_
    exact ls_fin s0 _ (congrArg (fun z=>upd z 14 _) hF.symm) ⟨rfl,rfl⟩ (sub_nil _)
   obtain ⟨s3_11,hs3_11⟩ := exv (.pointer (some ⟨g1,(0+0),none⟩))
   refine have_opa pointer_Right.tab1 1 11 (fun sp=>sp 11=s3_11∧sp 9=s3_9) (fun sp on hA hon=>?_) (fun ops3_11=>?_)
   ·refine ⟨fun o ho vs Rs f' S' w hp hf hx hS hR hs=>?_⟩
    obtain rfl := Option.some.inj ho
    obtain ⟨hv9,hR9⟩ := (spe hA.2 hs3_9 (hp 9 (by kernel_rfl)))
    rw [hA.1,hs3_11]
    refine And.intro (fun a ha=>(want_is (j:=9) (t:=13) (r:=true) rfl rfl (by kernel_rfl) (((hf 9 13 (by kernel_rfl) rfl).trans hv9).trans (congrArg Value.bool (show (decide (t8 > (0:Int)))=true from dec_t q11))) rfl a ha).trans hon.symm) (And.intro (fun _=>?_) (fun h=>by rw [hon] at h; cases h))
    have hF := fr_next (fr_next (rfl) ((hx 1 (by kernel_rfl)).trans (by kernel_rfl:(_:Value)=.pointer (some ⟨g1,0,none⟩)))) (((hf 9 13 (by kernel_rfl) rfl).trans hv9).trans (congrArg Value.bool (show (decide (t8 > (0:Int)))=true from dec_t q11)))
    refine ls_fr hF ?_
    refine lv (.pointer (some ⟨g1,(0+0),none⟩)) ?_
    exact ls_fin s0 _ (congrArg (fun z=>upd z 15 _) hF.symm) ⟨rfl,rfl⟩ (sub_nil _)
   obtain ⟨s3_12,hs3_12⟩ := exv (.int .i64 a0.1)
   refine have_opa pointer_Right.tab1 1 12 (fun sp=>sp 12=s3_12∧sp 9=s3_9∧sp 11=s3_11) (fun sp on hA hon=>?_) (fun ops3_12=>?_)
   ·refine ⟨fun o ho vs Rs f' S' w hp hf hx hS hR hs=>?_⟩
    obtain rfl := Option.some.inj ho
    obtain ⟨hv9,hR9⟩ := (spe hA.2.1 hs3_9 (hp 9 (by kernel_rfl)))
    obtain ⟨hv11,hR11⟩ := (spe hA.2.2 hs3_11 (hp 11 (by kernel_rfl)))
    rw [hA.1,hs3_12]
    refine And.intro (fun a ha=>(want_is (j:=9) (t:=13) (r:=true) rfl rfl (by kernel_rfl) (((hf 9 13 (by kernel_rfl) rfl).trans hv9).trans (congrArg Value.bool (show (decide (t8 > (0:Int)))=true from dec_t q11))) rfl a ha).trans hon.symm) (And.intro (fun _=>?_) (fun h=>by rw [hon] at h; cases h))
    have hF := fr_next (fr_next (rfl) (((hf 9 13 (by kernel_rfl) rfl).trans hv9).trans (congrArg Value.bool (show (decide (t8 > (0:Int)))=true from dec_t q11)))) ((hf 11 15 (by kernel_rfl) rfl).trans hv11)
    refine ls_fr hF ?_
    refine ls_load (a0:=⟨g1,(0+0),none⟩) (v:=.int .i64 a0.1) (de:=(TypeDesc.int .i64)) rfl rfl (by kernel_rfl) rfl (by kernel_rfl) (by kernel_rfl) (by kernel_rfl) (fun w1 hs1=>cell_step hs1.below.bw (hs.var (k:=0) ((hS 0 (by kernel_rfl)).trans (by exact rfl)) (Sub4.trans (Sub4.all _) (Sub4.head _ _)))) ?_
    exact ls_fin s0 _ (congrArg (fun z=>upd z 16 _) hF.symm) ⟨rfl,rfl⟩ (sub_nil _)
   obtain ⟨s3_13,hs3_13⟩ := exv (.agg ⟨([Value.int .i64 a0.1]++([Value.int .i64 a0.2.1]++([Value.int .i64 a0.2.2.1]++([Value.int .u32 a0.2.2.2.1]++en (Value.int .u8) a0.2.2.2.2.1))))⟩)
   refine have_opa pointer_Right.tab1 1 13 (fun sp=>sp 13=s3_13∧sp 9=s3_9) (fun sp on hA hon=>?_) (fun ops3_13=>?_)
   ·refine ⟨fun o ho vs Rs f' S' w hp hf hx hS hR hs=>?_⟩
    obtain rfl := Option.some.inj ho
    obtain ⟨hv9,hR9⟩ := (spe hA.2 hs3_9 (hp 9 (by kernel_rfl)))
    rw [hA.1,hs3_13]
    refine And.intro (fun a ha=>(want_is (j:=9) (t:=13) (r:=true) rfl rfl (by kernel_rfl) (((hf 9 13 (by kernel_rfl) rfl).trans hv9).trans (congrArg Value.bool (show (decide (t8 > (0:Int)))=true from dec_t q11))) rfl a ha).trans hon.symm) (And.intro (fun _=>?_) (fun h=>by rw [hon] at h; cases h))
    have hF := fr_next (fr_next (rfl) ((hx 1 (by kernel_rfl)).trans (by kernel_rfl:(_:Value)=.pointer (some ⟨g1,0,none⟩)))) (((hf 9 13 (by kernel_rfl) rfl).trans hv9).trans (congrArg Value.bool (show (decide (t8 > (0:Int)))=true from dec_t q11)))
    refine ls_fr hF ?_
    refine ls_loadagg (a:=⟨g1,0,none⟩) (sub:=([Value.int .i64 a0.1]++([Value.int .i64 a0.2.1]++([Value.int .i64 a0.2.2.1]++([Value.int .u32 a0.2.2.2.1]++en (Value.int .u8) a0.2.2.2.2.1))))) rfl rfl (by kernel_rfl) rfl (by kernel_rfl) (by kernel_rfl) (by kernel_rfl) (len_app (len1 _) (len_app (len1 _) (len_app (len1 _) (len_app (len1 _) (len_en _ a0.2.2.2.2))))) (fun w1 hs1=>Rd.step (hs.vars (k:=0) ((hS 0 (by kernel_rfl)).trans (by exact rfl)) (Sub4.all _)) hs1.below.bw) ?_
    exact ls_fin s0 _ (congrArg (fun z=>upd z 17 _) hF.symm) ⟨rfl,rfl⟩ (sub_nil _)
   obtain ⟨t12,hc13,H⟩ := bind_some H
   obtain ⟨s3_14,hs3_14⟩:∃ z:Value→Sto→Prop,z=(fun v R=>∃ x14:Unit,v=.int .i64 t12∧R=stl []) := ⟨_,rfl⟩
   refine have_opa pointer_Right.tab1 1 14 (fun sp=>sp 14=s3_14∧sp 9=s3_9∧sp 13=s3_13) (fun sp on hA hon=>?_) (fun ops3_14=>?_)
   ·refine ⟨fun o ho vs Rs f' S' w hp hf hx hS hR hs=>?_⟩
    obtain rfl := Option.some.inj ho
    obtain ⟨hv9,hR9⟩ := (spe hA.2.1 hs3_9 (hp 9 (by kernel_rfl)))
    obtain ⟨hv13,hR13⟩ := (spe hA.2.2 hs3_13 (hp 13 (by kernel_rfl)))
    rw [hA.1,hs3_14]
    refine And.intro (fun a ha=>(want_is (j:=9) (t:=13) (r:=true) rfl rfl (by kernel_rfl) (((hf 9 13 (by kernel_rfl) rfl).trans hv9).trans (congrArg Value.bool (show (decide (t8 > (0:Int)))=true from dec_t q11))) rfl a ha).trans hon.symm) (And.intro (fun _=>?_) (fun h=>by rw [hon] at h; cases h))
    have hF := fr_next (fr_next (rfl) (((hf 9 13 (by kernel_rfl) rfl).trans hv9).trans (congrArg Value.bool (show (decide (t8 > (0:Int)))=true from dec_t q11)))) ((hf 13 17 (by kernel_rfl) rfl).trans hv13)
    refine ls_fr hF ?_
    refine ls_call (fid:=99) (vals:=#[.agg ⟨([Value.int .i64 a0.1]++([Value.int .i64 a0.2.1]++([Value.int .i64 a0.2.2.1]++([Value.int .u32 a0.2.2.2.1]++en (Value.int .u8) a0.2.2.2.2.1))))⟩]) (X:=Unit) (fun x=>.int .i64 t12) (fun x=>stl []) 0 rfl rfl (by kernel_rfl) (fun w=>by kernel_rfl) (fun w1 hs1=>pointer_Sectors.calls k a0 t12 (bw w1) (St.refl w1)  hc13) ?_
    intro x14
    exact ls_fin (stl []) (.int .i64 t12) (congrArg (fun z=>upd z 18 _) hF.symm) ⟨x14,rfl,rfl⟩ (sub_join _)
   obtain ⟨s3_15,hs3_15⟩ := exv (.int .i64 (IntKind.wrap .i64 ((8192:Int) - t12)))
   refine have_opa pointer_Right.tab1 1 15 (fun sp=>sp 15=s3_15∧sp 9=s3_9∧sp 14=s3_14) (fun sp on hA hon=>?_) (fun ops3_15=>?_)
   ·refine ⟨fun o ho vs Rs f' S' w hp hf hx hS hR hs=>?_⟩
    obtain rfl := Option.some.inj ho
    obtain ⟨hv9,hR9⟩ := (spe hA.2.1 hs3_9 (hp 9 (by kernel_rfl)))
    obtain ⟨x14,hv14,hR14⟩ := (spe hA.2.2 hs3_14 (hp 14 (by kernel_rfl)))
    rw [hA.1,hs3_15]
    refine And.intro (fun a ha=>(want_is (j:=9) (t:=13) (r:=true) rfl rfl (by kernel_rfl) (((hf 9 13 (by kernel_rfl) rfl).trans hv9).trans (congrArg Value.bool (show (decide (t8 > (0:Int)))=true from dec_t q11))) rfl a ha).trans hon.symm) (And.intro (fun _=>?_) (fun h=>by rw [hon] at h; cases h))
    have hF := fr_next (fr_next (rfl) (((hf 9 13 (by kernel_rfl) rfl).trans hv9).trans (congrArg Value.bool (show (decide (t8 > (0:Int)))=true from dec_t q11)))) ((hf 14 18 (by kernel_rfl) rfl).trans hv14)
    refine ls_fr hF ?_
    refine lv (.int .i64 (IntKind.wrap .i64 ((8192:Int) - t12))) ?_
    exact ls_fin s0 _ (congrArg (fun z=>upd z 19 _) hF.symm) ⟨rfl,rfl⟩ (sub_nil _)
   refine cs_draw pointer_Right.tab1 16 1 (spl [s3_0,s3_1,s3_2,s3_3,s3_4,s3_5,s3_6,s3_7,s3_8,s3_9,s3_10,s3_11,s3_12,s3_13,s3_14,s3_15]) (onl [true,true,true,true,true,true,true,true,true,true,true,true,true,true,true,true]) (by kernel_rfl) (by kernel_rfl) (by kernel_rfl) (by kernel_rfl) (rs:=[_,_,_]) rfl (by kernel_rfl) (by kernel_rfl) (all_snoc (all_snoc (all_snoc (all_snoc (all_snoc (all_snoc (all_snoc (all_snoc (all_snoc (all_snoc (all_snoc (all_snoc (all_snoc (all_snoc (all_snoc (all_snoc (all_nil) (ops3_0 _ _ rfl rfl)) (ops3_1 _ _ rfl rfl)) (ops3_2 _ _ ⟨rfl,rfl⟩ rfl)) (ops3_3 _ _ ⟨rfl,rfl,rfl⟩ rfl)) (ops3_4 _ _ ⟨rfl,rfl⟩ rfl)) (ops3_5 _ _ ⟨rfl,rfl⟩ rfl)) (ops3_6 _ _ ⟨rfl,rfl,rfl⟩ rfl)) (ops3_7 _ _ ⟨rfl,rfl,rfl⟩ rfl)) (ops3_8 _ _ ⟨rfl,rfl,rfl⟩ rfl)) (ops3_9 _ _ ⟨rfl,rfl⟩ rfl)) (ops3_10 _ _ ⟨rfl,rfl⟩ rfl)) (ops3_11 _ _ ⟨rfl,rfl⟩ rfl)) (ops3_12 _ _ ⟨rfl,rfl,rfl⟩ rfl)) (ops3_13 _ _ ⟨rfl,rfl⟩ rfl)) (ops3_14 _ _ ⟨rfl,rfl,rfl⟩ rfl)) (ops3_15 _ _ ⟨rfl,rfl,rfl⟩ rfl)) ?_
   intro vs Rs f' S' hp hf hx hS hR
   obtain ⟨x6,hv3,hR3⟩ := (spe rfl hs3_3 (hp 3 (by kernel_rfl)))
   obtain ⟨x10,hv6,hR6⟩ := (spe rfl hs3_6 (hp 6 (by kernel_rfl)))
   obtain ⟨hv9,hR9⟩ := (spe rfl hs3_9 (hp 9 (by kernel_rfl)))
   obtain ⟨hv10,hR10⟩ := (spe rfl hs3_10 (hp 10 (by kernel_rfl)))
   obtain ⟨hv12,hR12⟩ := (spe rfl hs3_12 (hp 12 (by kernel_rfl)))
   obtain ⟨x14,hv14,hR14⟩ := (spe rfl hs3_14 (hp 14 (by kernel_rfl)))
   obtain ⟨hv15,hR15⟩ := (spe rfl hs3_15 (hp 15 (by kernel_rfl)))
   refine ls_fr (F:=upd (upd (upd (upd f' 13 (.bool (decide (t8 > (0:Int))))) 14 (.func (.func 98) #[] #[])) 16 (.int .i64 a0.1)) 19 (.int .i64 (IntKind.wrap .i64 ((8192:Int) - t12)))) (fr_next (fr_next (fr_next (fr_next (rfl) ((hf 9 13 (by kernel_rfl) rfl).trans hv9)) ((hf 10 14 (by kernel_rfl) rfl).trans hv10)) ((hf 12 16 (by kernel_rfl) rfl).trans hv12)) ((hf 15 19 (by kernel_rfl) rfl).trans hv15)) ?_
   refine ls_sub (s0) (sub_nil _) ?_
   refine ls_know (c:=true) (dec_t q11) 13 (by kernel_rfl) ?_
   refine ls_on (j:=9) (t:=13) (b:=true) rfl rfl (by kernel_rfl) (by kernel_rfl) ?_
   obtain ⟨t15,hc16,H⟩ := bind_some H
   refine ls_callb (fid:=98) (vals:=#[.int .i64 a0.1,.int .i64 (2:Int),.int .i64 (IntKind.wrap .i64 ((8192:Int) - t12))]) (X:=Unit) (fun x=>.bool t15) (fun x=>stl []) [] [] [] [] 129 rfl rfl (by kernel_rfl) (fun w=>by kernel_rfl) trivial trivial (by decide) (fun w hs hb=>pointer_Right_1.calls k a0.1 (2:Int) (IntKind.wrap .i64 ((8192:Int) - t12)) t15 (lent b w [] []) hb  hc16) ?_
   intro x17
   refine lv (.bool t15) ?_
   refine lv (.bool t15) ?_
   refine ls_end ?_
   refine qn_then ?_
   refine cs_ret' ?_
   obtain rfl := Option.some.inj H
   refine qr_res (rs:=[_]) rfl (fun w' hs=>⟨[.bool t15],(res_tmp (by kernel_rfl) (.nil)),(),rfl,hs.pick (ts:=[]) (cs:=[]) trivial (by decide)⟩)
  replace H := ite_f q11 H
  refine cs_draw pointer_Right.tab1 16 1 (spl [s3_0,s3_1,s3_2,s3_3,s3_4,s3_5,s3_6,s3_7,s3_8,s3_9,spu,spu,spu,spu,spu,spu]) (onl [true,true,true,true,true,true,true,true,true,true,false,false,false,false,false,false]) (by kernel_rfl) (by kernel_rfl) (by kernel_rfl) (by kernel_rfl) (rs:=[_,_,_]) rfl (by kernel_rfl) (by kernel_rfl) (all_snoc (all_snoc (all_snoc (all_snoc (all_snoc (all_snoc (all_snoc (all_snoc (all_snoc (all_snoc (all_snoc (all_snoc (all_snoc (all_snoc (all_snoc (all_snoc (all_nil) (ops3_0 _ _ rfl rfl)) (ops3_1 _ _ rfl rfl)) (ops3_2 _ _ ⟨rfl,rfl⟩ rfl)) (ops3_3 _ _ ⟨rfl,rfl,rfl⟩ rfl)) (ops3_4 _ _ ⟨rfl,rfl⟩ rfl)) (ops3_5 _ _ ⟨rfl,rfl⟩ rfl)) (ops3_6 _ _ ⟨rfl,rfl,rfl⟩ rfl)) (ops3_7 _ _ ⟨rfl,rfl,rfl⟩ rfl)) (ops3_8 _ _ ⟨rfl,rfl,rfl⟩ rfl)) (ops3_9 _ _ ⟨rfl,rfl⟩ rfl)) (op_offi 10 9 13 true rfl rfl (by kernel_rfl) (by kernel_rfl) rfl (fun v R h=>by rw [hs3_9] at h; obtain ⟨h,_⟩ := h; exact h.trans (congrArg Value.bool (show (decide (t8 > (0:Int)))=false from dec_f q11))) rfl rfl)) (op_offi 11 9 13 true rfl rfl (by kernel_rfl) (by kernel_rfl) rfl (fun v R h=>by rw [hs3_9] at h; obtain ⟨h,_⟩ := h; exact h.trans (congrArg Value.bool (show (decide (t8 > (0:Int)))=false from dec_f q11))) rfl rfl)) (op_offi 12 9 13 true rfl rfl (by kernel_rfl) (by kernel_rfl) rfl (fun v R h=>by rw [hs3_9] at h; obtain ⟨h,_⟩ := h; exact h.trans (congrArg Value.bool (show (decide (t8 > (0:Int)))=false from dec_f q11))) rfl rfl)) (op_offi 13 9 13 true rfl rfl (by kernel_rfl) (by kernel_rfl) rfl (fun v R h=>by rw [hs3_9] at h; obtain ⟨h,_⟩ := h; exact h.trans (congrArg Value.bool (show (decide (t8 > (0:Int)))=false from dec_f q11))) rfl rfl)) (op_offi 14 9 13 true rfl rfl (by kernel_rfl) (by kernel_rfl) rfl (fun v R h=>by rw [hs3_9] at h; obtain ⟨h,_⟩ := h; exact h.trans (congrArg Value.bool (show (decide (t8 > (0:Int)))=false from dec_f q11))) rfl rfl)) (op_offi 15 9 13 true rfl rfl (by kernel_rfl) (by kernel_rfl) rfl (fun v R h=>by rw [hs3_9] at h; obtain ⟨h,_⟩ := h; exact h.trans (congrArg Value.bool (show (decide (t8 > (0:Int)))=false from dec_f q11))) rfl rfl)) ?_
  intro vs Rs f' S' hp hf hx hS hR
  obtain ⟨x6,hv3,hR3⟩ := (spe rfl hs3_3 (hp 3 (by kernel_rfl)))
  obtain ⟨x10,hv6,hR6⟩ := (spe rfl hs3_6 (hp 6 (by kernel_rfl)))
  obtain ⟨hv9,hR9⟩ := (spe rfl hs3_9 (hp 9 (by kernel_rfl)))
  obtain ⟨hv10,hR10⟩ := (spe rfl rfl (hp 10 (by kernel_rfl)):spu _ _)
  obtain ⟨hv12,hR12⟩ := (spe rfl rfl (hp 12 (by kernel_rfl)):spu _ _)
  obtain ⟨hv15,hR15⟩ := (spe rfl rfl (hp 15 (by kernel_rfl)):spu _ _)
  refine ls_fr (F:=upd f' 13 (.bool (decide (t8 > (0:Int))))) (fr_next (rfl) ((hf 9 13 (by kernel_rfl) rfl).trans hv9)) ?_
  refine ls_sub (s0) (sub_nil _) ?_
  refine ls_know (c:=false) (dec_f q11) 13 (by kernel_rfl) ?_
  refine lofx 9 13 true false ?_
  refine lv (.bool false) ?_
  refine lv (.bool false) ?_
  refine ls_end ?_
  refine qn_then ?_
  refine cs_ret' ?_
  obtain rfl := Option.some.inj H
  refine qr_res (rs:=[_]) rfl (fun w' hs=>⟨[.bool false],(res_tmp (by kernel_rfl) (.nil)),(),rfl,hs.pick (ts:=[]) (cs:=[]) trivial (by decide)⟩)
 replace H := ite_f q7 H
 obtain ⟨s3_8,hs3_8⟩ := exv (.bool false)
 refine have_opa pointer_Right.tab1 1 8 (fun sp=>sp 8=s3_8∧sp 4=s3_4∧sp 7=spu) (fun sp on hA hon=>?_) (fun ops3_8=>?_)
 ·refine ⟨fun o ho vs Rs f' S' w hp hf hx hS hR hs=>?_⟩
  obtain rfl := Option.some.inj ho
  obtain ⟨hv4,hR4⟩ := (spe hA.2.1 hs3_4 (hp 4 (by kernel_rfl)))
  obtain ⟨hv7,hR7⟩ := (spe hA.2.2 rfl (hp 7 (by kernel_rfl)):spu _ _)
  exact opv (.bool false) hA.1 hs3_8 hon (fr_next (fr_next (rfl) (((hf 4 8 (by kernel_rfl) rfl).trans hv4).trans (congrArg Value.bool (show t4=false from Bool.eq_false_iff.mpr q7)))) ((hf 7 11 (by kernel_rfl) rfl).trans hv7))
 obtain ⟨s3_9,hs3_9⟩ := exv (.bool false)
 refine have_opa pointer_Right.tab1 1 9 (fun sp=>sp 9=s3_9∧sp 8=s3_8) (fun sp on hA hon=>?_) (fun ops3_9=>?_)
 ·refine ⟨fun o ho vs Rs f' S' w hp hf hx hS hR hs=>?_⟩
  obtain rfl := Option.some.inj ho
  obtain ⟨hv8,hR8⟩ := (spe hA.2 hs3_8 (hp 8 (by kernel_rfl)))
  exact opv (.bool false) hA.1 hs3_9 hon (fr_next (rfl) ((hf 8 12 (by kernel_rfl) rfl).trans hv8))
 refine cs_draw pointer_Right.tab1 16 1 (spl [s3_0,s3_1,s3_2,s3_3,s3_4,spu,spu,spu,s3_8,s3_9,spu,spu,spu,spu,spu,spu]) (onl [true,true,true,true,true,false,false,false,true,true,false,false,false,false,false,false]) (by kernel_rfl) (by kernel_rfl) (by kernel_rfl) (by kernel_rfl) (rs:=[_,_,_]) rfl (by kernel_rfl) (by kernel_rfl) (all_snoc (all_snoc (all_snoc (all_snoc (all_snoc (all_snoc (all_snoc (all_snoc (all_snoc (all_snoc (all_snoc (all_snoc (all_snoc (all_snoc (all_snoc (all_snoc (all_nil) (ops3_0 _ _ rfl rfl)) (ops3_1 _ _ rfl rfl)) (ops3_2 _ _ ⟨rfl,rfl⟩ rfl)) (ops3_3 _ _ ⟨rfl,rfl,rfl⟩ rfl)) (ops3_4 _ _ ⟨rfl,rfl⟩ rfl)) (op_offi 5 4 8 true rfl rfl (by kernel_rfl) (by kernel_rfl) rfl (fun v R h=>by rw [hs3_4] at h; obtain ⟨h,_⟩ := h; exact h.trans (congrArg Value.bool (show t4=false from Bool.eq_false_iff.mpr q7))) rfl rfl)) (op_offi 6 4 8 true rfl rfl (by kernel_rfl) (by kernel_rfl) rfl (fun v R h=>by rw [hs3_4] at h; obtain ⟨h,_⟩ := h; exact h.trans (congrArg Value.bool (show t4=false from Bool.eq_false_iff.mpr q7))) rfl rfl)) (op_offi 7 4 8 true rfl rfl (by kernel_rfl) (by kernel_rfl) rfl (fun v R h=>by rw [hs3_4] at h; obtain ⟨h,_⟩ := h; exact h.trans (congrArg Value.bool (show t4=false from Bool.eq_false_iff.mpr q7))) rfl rfl)) (ops3_8 _ _ ⟨rfl,rfl,rfl⟩ rfl)) (ops3_9 _ _ ⟨rfl,rfl⟩ rfl)) (op_offi 10 9 13 true rfl rfl (by kernel_rfl) (by kernel_rfl) rfl (fun v R h=>by rw [hs3_9] at h; obtain ⟨h,_⟩ := h; exact h) rfl rfl)) (op_offi 11 9 13 true rfl rfl (by kernel_rfl) (by kernel_rfl) rfl (fun v R h=>by rw [hs3_9] at h; obtain ⟨h,_⟩ := h; exact h) rfl rfl)) (op_offi 12 9 13 true rfl rfl (by kernel_rfl) (by kernel_rfl) rfl (fun v R h=>by rw [hs3_9] at h; obtain ⟨h,_⟩ := h; exact h) rfl rfl)) (op_offi 13 9 13 true rfl rfl (by kernel_rfl) (by kernel_rfl) rfl (fun v R h=>by rw [hs3_9] at h; obtain ⟨h,_⟩ := h; exact h) rfl rfl)) (op_offi 14 9 13 true rfl rfl (by kernel_rfl) (by kernel_rfl) rfl (fun v R h=>by rw [hs3_9] at h; obtain ⟨h,_⟩ := h; exact h) rfl rfl)) (op_offi 15 9 13 true rfl rfl (by kernel_rfl) (by kernel_rfl) rfl (fun v R h=>by rw [hs3_9] at h; obtain ⟨h,_⟩ := h; exact h) rfl rfl)) ?_
 intro vs Rs f' S' hp hf hx hS hR
 obtain ⟨x6,hv3,hR3⟩ := (spe rfl hs3_3 (hp 3 (by kernel_rfl)))
 obtain ⟨hv9,hR9⟩ := (spe rfl hs3_9 (hp 9 (by kernel_rfl)))
 obtain ⟨hv10,hR10⟩ := (spe rfl rfl (hp 10 (by kernel_rfl)):spu _ _)
 obtain ⟨hv12,hR12⟩ := (spe rfl rfl (hp 12 (by kernel_rfl)):spu _ _)
 obtain ⟨hv15,hR15⟩ := (spe rfl rfl (hp 15 (by kernel_rfl)):spu _ _)
 refine ls_fr (F:=upd f' 13 (.bool false)) (fr_next (rfl) ((hf 9 13 (by kernel_rfl) rfl).trans hv9)) ?_
 refine ls_sub (s0) (sub_nil _) ?_
 refine lofx 9 13 true false ?_
 refine lv (.bool false) ?_
 refine lv (.bool false) ?_
 refine ls_end ?_
 refine qn_then ?_
 refine cs_ret' ?_
 obtain rfl := Option.some.inj H
 refine qr_res (rs:=[_]) rfl (fun w' hs=>⟨[.bool false],(res_tmp (by kernel_rfl) (.nil)),(),rfl,hs.pick (ts:=[]) (cs:=[]) trivial (by decide)⟩)
def leaf_Node_shape_1.f (k:Nat) (a0:PT):Option (Bool) :=
  (pointer_Right.f k a0).bind fun t2=>some (!t2)
theorem leaf_Node_shape_1.calls (k:Nat) (a0:PT) (r:Bool) (b:Bs) (hs0:St b (stl []) b.w) (H:leaf_Node_shape_1.f k a0=some r) :
    Calls Try.prog 71 #[.agg ⟨([Value.int .i64 a0.1]++([Value.int .i64 a0.2.1]++([Value.int .i64 a0.2.2.1]++([Value.int .u32 a0.2.2.2.1]++en (Value.int .u8) a0.2.2.2.2.1))))⟩] b.w fun e w'=>∃ x:Unit,e=.returned (.bool r)∧St b (stl []) w' := by
 unfold leaf_Node_shape_1.f at H
 refine enterb (n:=6) Try.func71 rfl (by kernel_rfl) (by kernel_rfl) hs0 ?_
 refine cs_sub (s0) (sub_nil _) ?_
 refine cs_seq ?_
 refine cs_region (l:=[_,_]) ?_
 refine ls_new rfl rfl (by kernel_rfl) 0 (fun g=>.pointer (some ⟨g,0,none⟩)) (.cells ⟨([Value.int .i64 a0.1]++([Value.int .i64 a0.2.1]++([Value.int .i64 a0.2.2.1]++([Value.int .u32 a0.2.2.2.1]++en (Value.int .u8) a0.2.2.2.2.1))))⟩ 44) (fun w=>by kernel_rfl) ?_
 intro g1
 refine lv (.bool false) ?_
 refine ls_end ?_
 refine qn_then ?_
 refine cs_seq ?_
 refine cs_region (l:=[_,_,_,_]) ?_
 refine ls_loadagg (a:=⟨g1,0,none⟩) (sub:=([Value.int .i64 a0.1]++([Value.int .i64 a0.2.1]++([Value.int .i64 a0.2.2.1]++([Value.int .u32 a0.2.2.2.1]++en (Value.int .u8) a0.2.2.2.2.1))))) rfl rfl (by kernel_rfl) rfl (by kernel_rfl) (by kernel_rfl) (by kernel_rfl) (len_app (len1 _) (len_app (len1 _) (len_app (len1 _) (len_app (len1 _) (len_en _ a0.2.2.2.2))))) (fun w hs=>(hs.vars (k:=0) (by exact rfl) (Sub4.all _))) ?_
 obtain ⟨t2,hc3,H⟩ := bind_some H
 refine ls_callb (fid:=72) (vals:=#[.agg ⟨([Value.int .i64 a0.1]++([Value.int .i64 a0.2.1]++([Value.int .i64 a0.2.2.1]++([Value.int .u32 a0.2.2.2.1]++en (Value.int .u8) a0.2.2.2.2.1))))⟩]) (X:=Unit) (fun x=>.bool t2) (fun x=>stl []) [] [] [] [] 1 rfl rfl (by kernel_rfl) (fun w=>by kernel_rfl) trivial trivial (by decide) (fun w hs hb=>pointer_Right.calls k a0 t2 (lent b w [] []) hb  hc3) ?_
 intro x4
 refine lv (.bool (!t2)) ?_
 refine lv (.bool (!t2)) ?_
 refine ls_end ?_
 refine qn_then ?_
 refine cs_ret' ?_
 obtain rfl := Option.some.inj H
 refine qr_res (rs:=[_]) rfl (fun w' hs=>⟨[.bool (!t2)],(res_tmp (by kernel_rfl) (.nil)),(),rfl,hs.pick (ts:=[]) (cs:=[]) trivial (by decide)⟩)
def slices_IndexFunc_97_s71.lo1 (l0:List PT):Nat→Int→Option (Int)
  | 0,_=>none
  | k1+1,x8_1=>(if x8_1<(l0.length:Int) then (if 0≤x8_1 then (leaf_Node_shape_1.f k1 ((l0).getD (x8_1).toNat ((0:Int),(0:Int),(0:Int),(0:Int),(vrep 32 (0:Int))))).bind fun t5=>(if t5=true then some x8_1 else (slices_IndexFunc_97_s71.lo1 l0 k1) (IntKind.wrap .i64 (x8_1+(1:Int)))) else none) else some (-1:Int))
def slices_IndexFunc_97_s71.f (k:Nat) (l0:List PT):Option (Int) :=
  slices_IndexFunc_97_s71.lo1 l0 k (0:Int)
theorem slices_IndexFunc_97_s71.calls (k:Nat) (A0:Option Addr) (c0:Nat) (l0:List PT) (r:Int) (b:Bs) (hs0:St b (stl []) b.w) (R0:Ro b A0 (em T44 l0)) (C0:l0.length≤c0) (H:slices_IndexFunc_97_s71.f k l0=some r) :
    Calls Try.prog 97 #[.slice A0 l0.length c0,.func (.func 71) #[] #[]] b.w fun e w'=>∃ x:Unit,e=.returned (.int .i64 r)∧St b (stl []) w' := by
 unfold slices_IndexFunc_97_s71.f at H
 refine enterb (n:=19) Try.func97 rfl (by kernel_rfl) (by kernel_rfl) hs0 ?_
 refine cs_sub (s0) (sub_nil _) ?_
 refine cs_seq ?_
 refine cs_region (l:=[_]) ?_
 refine lv (.int .i64 (0:Int)) ?_
 refine ls_end ?_
 refine qn_then ?_
 refine cs_seq ?_
 refine cs_seq ?_
 refine cs_region (l:=[_,_,_]) ?_
 refine lv (.slice A0 l0.length c0) ?_
 refine lv (.int .i64 (l0.length:Int)) ?_
 refine lv (.int .i64 (0:Int)) ?_
 refine ls_end ?_
 refine qn_then ?_
 refine cs_block ?_
 refine cs_sub (s0) (sub_nil _) ?_
 refine cs_loop (fun kk f S=>∃ (fR:Fr) (x8_1:Int),f=upd (upd (upd (upd fR 0 (.slice A0 l0.length c0)) 1 (.func (.func 71) #[] #[])) 7 (.int .i64 (l0.length:Int))) 8 (.int .i64 x8_1)∧S=s0∧slices_IndexFunc_97_s71.lo1 l0 kk x8_1=some r) k ?_ ?_ ?_
 ·exact ⟨_,(0:Int),fr_next (fr_next (fr_next (fr_next (rfl) (by kernel_rfl)) (by kernel_rfl)) (by kernel_rfl)) (by kernel_rfl),rfl,H⟩
 ·rintro f S ⟨fr1,x8_1,rfl,rfl,H⟩; cases H
 rintro k1 f S ⟨fr1,x8_1,rfl,rfl,H⟩
 replace H:((if x8_1<(l0.length:Int) then (if 0≤x8_1 then (leaf_Node_shape_1.f k1 ((l0).getD (x8_1).toNat ((0:Int),(0:Int),(0:Int),(0:Int),(vrep 32 (0:Int))))).bind fun t5=>(if t5=true then some x8_1 else (slices_IndexFunc_97_s71.lo1 l0 k1) (IntKind.wrap .i64 (x8_1+(1:Int)))) else none) else some (-1:Int)))=some r := H
 refine cs_seq ?_
 refine cs_region (l:=[_]) ?_
 refine lv (.bool (decide (x8_1<(l0.length:Int)))) ?_
 refine ls_end ?_
 refine qn_then ?_
 refine cs_seq ?_
 by_cases q1:x8_1<(l0.length:Int)
 ·replace H := ite_t q1 H
  refine cs_know (c:=true) (dec_t q1) 9 (by kernel_rfl) ?_
  refine cs_true (by kernel_rfl) ?_
  refine cs_skip' ?_
  refine qn_then ?_
  refine cs_seq ?_
  refine cs_block ?_
  refine cs_seq ?_
  refine cs_region (l:=[_,_]) ?_
  refine lv (.int .i64 x8_1) ?_
  refine lv (.int .i64 x8_1) ?_
  refine ls_end ?_
  refine qn_then ?_
  refine cs_seq ?_
  refine cs_region (l:=[_,_,_,_,_,_]) ?_
  refine lv (.func (.func 71) #[] #[]) ?_
  refine lv (.slice A0 l0.length c0) ?_
  refine lv (.int .i64 x8_1) ?_
  obtain ⟨q2,H⟩ := ite_need H
  obtain ⟨ad3,hA4⟩ := ido_at (T:=T44) (l:=l0) (i:=x8_1) R0 q2 q1
  refine ls_idxv T44 (A:=A0) (c:=c0) (l:=l0) (k:=.i64) (i:=x8_1) (z:=36) (ad:=ad3) rfl rfl (by kernel_rfl) hA4 rfl (by kernel_rfl) (by kernel_rfl) (by kernel_rfl) (by kernel_rfl) q2 q1 ?_
  refine ls_loadagg (a:=(ad3.add ((x8_1).toNat*36))) (sub:=([Value.int .i64 (((l0).getD (x8_1).toNat ((0:Int),(0:Int),(0:Int),(0:Int),(vrep 32 (0:Int)))).1)]++([Value.int .i64 (((l0).getD (x8_1).toNat ((0:Int),(0:Int),(0:Int),(0:Int),(vrep 32 (0:Int)))).2.1)]++([Value.int .i64 (((l0).getD (x8_1).toNat ((0:Int),(0:Int),(0:Int),(0:Int),(vrep 32 (0:Int)))).2.2.1)]++([Value.int .u32 (((l0).getD (x8_1).toNat ((0:Int),(0:Int),(0:Int),(0:Int),(vrep 32 (0:Int)))).2.2.2.1)]++en (Value.int .u8) (((l0).getD (x8_1).toNat ((0:Int),(0:Int),(0:Int),(0:Int),(vrep 32 (0:Int)))).2.2.2.2).1))))) rfl rfl (by kernel_rfl) rfl (by kernel_rfl) (by kernel_rfl) (by kernel_rfl) (len_app (len1 _) (len_app (len1 _) (len_app (len1 _) (len_app (len1 _) (len_en _ (((l0).getD (x8_1).toNat ((0:Int),(0:Int),(0:Int),(0:Int),(vrep 32 (0:Int)))).2.2.2.2)))))) (fun w hs=>(hs.old R0).part hA4 (em_sub T44 l0 (i:=(x8_1).toNat) (by have h0:(0:Int)≤x8_1 := q2; have h1:x8_1<(l0.length:Int) := q1; omega))) ?_
  obtain ⟨t5,hc6,H⟩ := bind_some H
  refine ls_callb (fid:=71) (vals:=#[.agg ⟨([Value.int .i64 (((l0).getD (x8_1).toNat ((0:Int),(0:Int),(0:Int),(0:Int),(vrep 32 (0:Int)))).1)]++([Value.int .i64 (((l0).getD (x8_1).toNat ((0:Int),(0:Int),(0:Int),(0:Int),(vrep 32 (0:Int)))).2.1)]++([Value.int .i64 (((l0).getD (x8_1).toNat ((0:Int),(0:Int),(0:Int),(0:Int),(vrep 32 (0:Int)))).2.2.1)]++([Value.int .u32 (((l0).getD (x8_1).toNat ((0:Int),(0:Int),(0:Int),(0:Int),(vrep 32 (0:Int)))).2.2.2.1)]++en (Value.int .u8) (((l0).getD (x8_1).toNat ((0:Int),(0:Int),(0:Int),(0:Int),(vrep 32 (0:Int)))).2.2.2.2).1))))⟩]) (X:=Unit) (fun x=>.bool t5) (fun x=>stl []) [] [] [] [] 0 rfl rfl (by kernel_rfl) (fun w=>by kernel_rfl) trivial trivial (by decide) (fun w hs hb=>leaf_Node_shape_1.calls k1 ((l0).getD (x8_1).toNat ((0:Int),(0:Int),(0:Int),(0:Int),(vrep 32 (0:Int)))) t5 (lent b w [] []) hb  hc6) ?_
  intro x7
  refine ls_end ?_
  refine qn_then ?_
  by_cases q8:t5=true
  ·replace H := ite_t q8 H
   refine cs_know (c:=true) (q8) 16 (by kernel_rfl) ?_
   refine cs_true (by kernel_rfl) ?_
   refine cs_seq ?_
   refine cs_region (l:=[_,_]) ?_
   refine lv (.int .i64 x8_1) ?_
   refine lv (.int .i64 x8_1) ?_
   refine ls_end ?_
   refine qn_then ?_
   refine cs_ret' ?_
   refine qr_block ?_
   refine qr_then ?_
   refine qr_then ?_
   refine qr_block ?_
   refine qr_then ?_
   obtain rfl := Option.some.inj H
   refine qr_res (rs:=[_]) rfl (fun w' hs=>⟨[.int .i64 x8_1],(res_tmp (by kernel_rfl) (.nil)),(),rfl,hs.pick (ts:=[]) (cs:=[]) trivial (by decide)⟩)
  replace H := ite_f q8 H
  refine cs_know (c:=false) (Bool.eq_false_iff.mpr q8) 16 (by kernel_rfl) ?_
  refine cs_false (by kernel_rfl) ?_
  refine cs_skip' ?_
  refine qn_block ?_
  refine qn_then ?_
  refine cs_region (l:=[_,_]) ?_
  refine lv (.int .i64 (IntKind.wrap .i64 (x8_1+(1:Int)))) ?_
  refine lv (.int .i64 (IntKind.wrap .i64 (x8_1+(1:Int)))) ?_
  refine ls_end ?_
  refine qn_again k1 (s0) (Nat.le_refl _) ⟨_,(IntKind.wrap .i64 (x8_1+(1:Int))),fr_next (fr_next (fr_next (fr_next (rfl) (by kernel_rfl)) (by kernel_rfl)) (by kernel_rfl)) (by kernel_rfl),rfl,H⟩ (sub_nil _)
 replace H := ite_f q1 H
 refine cs_know (c:=false) (dec_f q1) 9 (by kernel_rfl) ?_
 refine cs_false (by kernel_rfl) ?_
 refine cs_exit' ?_
 refine qx_then ?_
 refine qx_then ?_
 refine qx_same ?_
 refine qn_then ?_
 refine cs_seq ?_
 refine cs_region (l:=[_]) ?_
 refine lv (.int .i64 (-1:Int)) ?_
 refine ls_end ?_
 refine qn_then ?_
 refine cs_ret' ?_
 obtain rfl := Option.some.inj H
 refine qr_res (rs:=[_]) rfl (fun w' hs=>⟨[.int .i64 (-1:Int)],(res_tmp (by kernel_rfl) (.nil)),(),rfl,hs.pick (ts:=[]) (cs:=[]) trivial (by decide)⟩)
def slices_ContainsFunc_70_s71.f (k:Nat) (l0:List PT):Option (Bool) :=
  (slices_IndexFunc_97_s71.f k l0).bind fun t1=>some (decide (t1≥(0:Int)))
theorem slices_ContainsFunc_70_s71.calls (k:Nat) (A0:Option Addr) (c0:Nat) (l0:List PT) (r:Bool) (b:Bs) (hs0:St b (stl []) b.w) (R0:Ro b A0 (em T44 l0)) (C0:l0.length≤c0) (H:slices_ContainsFunc_70_s71.f k l0=some r) :
    Calls Try.prog 70 #[.slice A0 l0.length c0,.func (.func 71) #[] #[]] b.w fun e w'=>∃ x:Unit,e=.returned (.bool r)∧St b (stl []) w' := by
 unfold slices_ContainsFunc_70_s71.f at H
 refine enterb (n:=9) Try.func70 rfl (by kernel_rfl) (by kernel_rfl) hs0 ?_
 refine cs_sub (s0) (sub_nil _) ?_
 refine cs_seq ?_
 refine cs_region (l:=[_]) ?_
 refine lv (.bool false) ?_
 refine ls_end ?_
 refine qn_then ?_
 refine cs_seq ?_
 refine cs_region (l:=[_,_,_,_,_]) ?_
 refine lv (.slice A0 l0.length c0) ?_
 refine lv (.func (.func 71) #[] #[]) ?_
 obtain ⟨t1,hc2,H⟩ := bind_some H
 refine ls_callb (fid:=97) (vals:=#[.slice A0 l0.length c0,.func (.func 71) #[] #[]]) (X:=Unit) (fun x=>.int .i64 t1) (fun x=>stl []) [] [] [] [] 0 rfl rfl (by kernel_rfl) (fun w=>by kernel_rfl) trivial trivial (by decide) (fun w hs hb=>slices_IndexFunc_97_s71.calls k A0 c0 l0 t1 (lent b w [] []) hb (hs.ro R0 _ _) C0 hc2) ?_
 intro x3
 refine lv (.bool (decide (t1≥(0:Int)))) ?_
 refine lv (.bool (decide (t1≥(0:Int)))) ?_
 refine ls_end ?_
 refine qn_then ?_
 refine cs_ret' ?_
 obtain rfl := Option.some.inj H
 refine qr_res (rs:=[_]) rfl (fun w' hs=>⟨[.bool (decide (t1≥(0:Int)))],(res_tmp (by kernel_rfl) (.nil)),(),rfl,hs.pick (ts:=[]) (cs:=[]) trivial (by decide)⟩)
def leaf_Node_shape.lo3 (a0:NO):Nat→Int→Option (Bool)
  | 0,_=>none
  | k3+1,x62_3=>(if x62_3<(a0.2.2.1.length:Int) then (if 0≤x62_3 then lt ((((a0.2.2.1).getD (x62_3).toNat ([]:List Int)).length:Int)) fun y10=>(if y10 > (1024:Int) then some false else (leaf_Node_shape.lo3 a0 k3) (IntKind.wrap .i64 (x62_3+(1:Int)))) else none) else (slices_ContainsFunc_70_s71.f k3 a0.2.2.2).bind fun t13=>some (!t13))
def leaf_Node_shape.jo2 (k:Nat) (a0:NO):Option (Bool) := leaf_Node_shape.lo3 a0 k (0:Int)
def leaf_Node_shape.jo5 (a0:NO) (x35_4:Int) (k4:Nat) (lo4:Int→Option (Bool)):Option (Bool) := (if 0≤x35_4 then (if x35_4<(a0.2.1.length:Int) then lt ((((a0.2.1).getD (x35_4).toNat ([]:List Int)).length:Int)) fun y24=>(if y24 > (160:Int) then some false else (if x35_4 > (0:Int) then (if 0≤IntKind.wrap .i64 (x35_4 - (1:Int)) then (if IntKind.wrap .i64 (x35_4 - (1:Int))<(a0.2.1.length:Int) then (bytes_Compare.f k4 ((a0.2.1).getD (IntKind.wrap .i64 (x35_4 - (1:Int))).toNat ([]:List Int)) ((a0.2.1).getD (x35_4).toNat ([]:List Int))).bind fun t36=>(if t36≥(0:Int) then some false else lo4 (IntKind.wrap .i64 (x35_4+(1:Int)))) else none) else none) else lo4 (IntKind.wrap .i64 (x35_4+(1:Int))))) else none) else none)
def leaf_Node_shape.lo4 (a0:NO) (jo2:Option (Bool)):Nat→Int→Option (Bool)
  | 0,_=>none
  | k4+1,x35_4=>(if x35_4<(a0.2.1.length:Int) then (leaf_Node_shape.jo5 a0 x35_4 k4 (leaf_Node_shape.lo4 a0 jo2 k4)) else jo2)
def leaf_Node_shape.jo1 (k:Nat) (a0:NO):Option (Bool) := leaf_Node_shape.lo4 a0 (leaf_Node_shape.jo2 k a0) k (0:Int)
def leaf_Node_shape.f (k:Nat) (a0:NO):Option (Bool) :=
  (if a0.1<(0:Int) then some false else (if a0.1 > (12:Int) then some false else (if (a0.2.1.length:Int)=(0:Int) then some false else (if (a0.2.1.length:Int) > (4096:Int) then some false else (leaf_Node_lists.f k (a0.1,a0.2.1,a0.2.2.1,a0.2.2.2)).bind fun t45=>(if t45=true then (leaf_Node_shape.jo1 k a0) else some false)))))
theorem leaf_Node_shape.calls (k:Nat) (A0_1:Option Addr) (c0_1:Nat) (A0_2:Option Addr) (c0_2:Nat) (A0_3:Option Addr) (c0_3:Nat) (a0:NO) (r:Bool) (b:Bs) (hs0:St b (stl []) b.w) (R0_1:RoS 23 (Ec.int 5 .u8) b A0_1 a0.2.1) (C0_1:a0.2.1.length≤c0_1) (R0_2:RoS 23 (Ec.int 5 .u8) b A0_2 a0.2.2.1) (C0_2:a0.2.2.1.length≤c0_2) (R0_3:Ro b A0_3 (em T44 a0.2.2.2)) (C0_3:a0.2.2.2.length≤c0_3) (H:leaf_Node_shape.f k a0=some r) :
    Calls Try.prog 39 #[.agg ⟨([Value.int .i64 a0.1]++([Value.slice A0_1 a0.2.1.length c0_1]++([Value.slice A0_2 a0.2.2.1.length c0_2]++[Value.slice A0_3 a0.2.2.2.length c0_3])))⟩] b.w fun e w'=>∃ x:Unit,e=.returned (.bool r)∧St b (stl []) w' := by
 unfold leaf_Node_shape.f at H
 refine enterb (n:=74) Try.func39 rfl (by kernel_rfl) (by kernel_rfl) hs0 ?_
 refine cs_sub (s0) (sub_nil _) ?_
 refine cs_seq ?_
 refine cs_region (l:=[_,_]) ?_
 refine ls_new rfl rfl (by kernel_rfl) 0 (fun g=>.pointer (some ⟨g,0,none⟩)) (.cells ⟨([Value.int .i64 a0.1]++([Value.slice A0_1 a0.2.1.length c0_1]++([Value.slice A0_2 a0.2.2.1.length c0_2]++[Value.slice A0_3 a0.2.2.2.length c0_3])))⟩ 27) (fun w=>by kernel_rfl) ?_
 intro g1
 refine lv (.bool false) ?_
 refine ls_end ?_
 refine qn_then ?_
 refine cs_cut (fun f S=>∃ (fR:Fr),f=upd fR 1 (.pointer (some ⟨g1,0,none⟩))∧S=sput s0 0 (some (Ck.var 27 g1 (([Value.int .i64 a0.1]++([Value.slice A0_1 a0.2.1.length c0_1]++([Value.slice A0_2 a0.2.2.1.length c0_2]++[Value.slice A0_3 a0.2.2.2.length c0_3]))))))∧leaf_Node_shape.jo1 k a0=some r) ?_ ?_
 ·skip
  refine cs_seq ?_
  refine cs_region (l:=[_,_,_,_,_,_,_,_,_,_,_,_,_,_,_,_,_,_,_,_,_,_,_,_,_]) ?_
  refine lv (.pointer (some ⟨g1,(0+0),none⟩)) ?_
  refine ls_load (a0:=⟨g1,(0+0),none⟩) (v:=.int .i64 a0.1) (de:=(TypeDesc.int .i64)) rfl rfl (by kernel_rfl) rfl (by kernel_rfl) (by kernel_rfl) (by kernel_rfl) (fun w hs=>(hs.var (k:=0) (by exact rfl) (Sub4.trans (Sub4.all _) (Sub4.head _ _)))) ?_
  refine lv (.bool (decide (a0.1<(0:Int)))) ?_
  refine lv (.bool (decide (a0.1<(0:Int)))) ?_
  by_cases q41:a0.1<(0:Int)
  ·replace H := ite_t q41 H
   refine ls_know (c:=true) (dec_t q41) 10 (by kernel_rfl) ?_
   refine lofx 3 10 false true ?_
   refine lofx 3 10 false true ?_
   refine lofx 3 10 false true ?_
   refine lv (.bool true) ?_
   refine lv (.bool true) ?_
   refine lofx 8 15 false true ?_
   refine lofx 8 15 false true ?_
   refine lofx 8 15 false true ?_
   refine lofx 8 15 false true ?_
   refine lv (.bool true) ?_
   refine lv (.bool true) ?_
   refine lofx 14 21 false true ?_
   refine lofx 14 21 false true ?_
   refine lofx 14 21 false true ?_
   refine lofx 14 21 false true ?_
   refine lv (.bool true) ?_
   refine lv (.bool true) ?_
   refine lofx 20 27 false true ?_
   refine lofx 20 27 false true ?_
   refine lofx 20 27 false true ?_
   refine lv (.bool true) ?_
   refine ls_end ?_
   refine qn_then ?_
   refine cs_true (by kernel_rfl) ?_
   refine cs_seq ?_
   refine cs_region (l:=[_]) ?_
   refine lv (.bool false) ?_
   refine ls_end ?_
   refine qn_then ?_
   refine cs_ret' ?_
   refine qr_then ?_
   obtain rfl := Option.some.inj H
   refine qr_res (rs:=[_]) rfl (fun w' hs=>⟨[.bool false],(res_tmp (by kernel_rfl) (.nil)),(),rfl,hs.pick (ts:=[]) (cs:=[]) trivial (by decide)⟩)
  replace H := ite_f q41 H
  refine ls_know (c:=false) (dec_f q41) 10 (by kernel_rfl) ?_
  refine ls_on (j:=3) (t:=10) (b:=false) rfl rfl (by kernel_rfl) (by kernel_rfl) ?_
  refine lv (.pointer (some ⟨g1,(0+0),none⟩)) ?_
  refine ls_on (j:=3) (t:=10) (b:=false) rfl rfl (by kernel_rfl) (by kernel_rfl) ?_
  refine ls_load (a0:=⟨g1,(0+0),none⟩) (v:=.int .i64 a0.1) (de:=(TypeDesc.int .i64)) rfl rfl (by kernel_rfl) rfl (by kernel_rfl) (by kernel_rfl) (by kernel_rfl) (fun w hs=>(hs.var (k:=0) (by exact rfl) (Sub4.trans (Sub4.all _) (Sub4.head _ _)))) ?_
  refine ls_on (j:=3) (t:=10) (b:=false) rfl rfl (by kernel_rfl) (by kernel_rfl) ?_
  refine lv (.bool (decide (a0.1 > (12:Int)))) ?_
  refine lv (.bool (decide (a0.1 > (12:Int)))) ?_
  refine lv (.bool (decide (a0.1 > (12:Int)))) ?_
  by_cases q42:a0.1 > (12:Int)
  ·replace H := ite_t q42 H
   refine ls_know (c:=true) (dec_t q42) 15 (by kernel_rfl) ?_
   refine lofx 8 15 false true ?_
   refine lofx 8 15 false true ?_
   refine lofx 8 15 false true ?_
   refine lofx 8 15 false true ?_
   refine lv (.bool true) ?_
   refine lv (.bool true) ?_
   refine lofx 14 21 false true ?_
   refine lofx 14 21 false true ?_
   refine lofx 14 21 false true ?_
   refine lofx 14 21 false true ?_
   refine lv (.bool true) ?_
   refine lv (.bool true) ?_
   refine lofx 20 27 false true ?_
   refine lofx 20 27 false true ?_
   refine lofx 20 27 false true ?_
   refine lv (.bool true) ?_
   refine ls_end ?_
   refine qn_then ?_
   refine cs_true (by kernel_rfl) ?_
   refine cs_seq ?_
   refine cs_region (l:=[_]) ?_
   refine lv (.bool false) ?_
   refine ls_end ?_
   refine qn_then ?_
   refine cs_ret' ?_
   refine qr_then ?_
   obtain rfl := Option.some.inj H
   refine qr_res (rs:=[_]) rfl (fun w' hs=>⟨[.bool false],(res_tmp (by kernel_rfl) (.nil)),(),rfl,hs.pick (ts:=[]) (cs:=[]) trivial (by decide)⟩)
  replace H := ite_f q42 H
  refine ls_know (c:=false) (dec_f q42) 15 (by kernel_rfl) ?_
  refine ls_on (j:=8) (t:=15) (b:=false) rfl rfl (by kernel_rfl) (by kernel_rfl) ?_
  refine lv (.pointer (some ⟨g1,(0+1),none⟩)) ?_
  refine ls_on (j:=8) (t:=15) (b:=false) rfl rfl (by kernel_rfl) (by kernel_rfl) ?_
  refine ls_load (a0:=⟨g1,(0+1),none⟩) (v:=.slice A0_1 a0.2.1.length c0_1) (de:=(TypeDesc.slice 23)) rfl rfl (by kernel_rfl) rfl (by kernel_rfl) (by kernel_rfl) (by kernel_rfl) (fun w hs=>(hs.var (k:=0) (by exact rfl) (Sub4.trans (Sub4.all _) (Sub4.skip (n:=1) (len1 _) (Sub4.head _ _))))) ?_
  refine ls_on (j:=8) (t:=15) (b:=false) rfl rfl (by kernel_rfl) (by kernel_rfl) ?_
  refine lv (.int .i64 (a0.2.1.length:Int)) ?_
  refine ls_on (j:=8) (t:=15) (b:=false) rfl rfl (by kernel_rfl) (by kernel_rfl) ?_
  refine lv (.bool (decide ((a0.2.1.length:Int)=(0:Int)))) ?_
  refine lv (.bool (decide ((a0.2.1.length:Int)=(0:Int)))) ?_
  refine lv (.bool (decide ((a0.2.1.length:Int)=(0:Int)))) ?_
  by_cases q43:(a0.2.1.length:Int)=(0:Int)
  ·replace H := ite_t q43 H
   refine ls_know (c:=true) (dec_t q43) 21 (by kernel_rfl) ?_
   refine lofx 14 21 false true ?_
   refine lofx 14 21 false true ?_
   refine lofx 14 21 false true ?_
   refine lofx 14 21 false true ?_
   refine lv (.bool true) ?_
   refine lv (.bool true) ?_
   refine lofx 20 27 false true ?_
   refine lofx 20 27 false true ?_
   refine lofx 20 27 false true ?_
   refine lv (.bool true) ?_
   refine ls_end ?_
   refine qn_then ?_
   refine cs_true (by kernel_rfl) ?_
   refine cs_seq ?_
   refine cs_region (l:=[_]) ?_
   refine lv (.bool false) ?_
   refine ls_end ?_
   refine qn_then ?_
   refine cs_ret' ?_
   refine qr_then ?_
   obtain rfl := Option.some.inj H
   refine qr_res (rs:=[_]) rfl (fun w' hs=>⟨[.bool false],(res_tmp (by kernel_rfl) (.nil)),(),rfl,hs.pick (ts:=[]) (cs:=[]) trivial (by decide)⟩)
  replace H := ite_f q43 H
  refine ls_know (c:=false) (dec_f q43) 21 (by kernel_rfl) ?_
  refine ls_on (j:=14) (t:=21) (b:=false) rfl rfl (by kernel_rfl) (by kernel_rfl) ?_
  refine lv (.pointer (some ⟨g1,(0+1),none⟩)) ?_
  refine ls_on (j:=14) (t:=21) (b:=false) rfl rfl (by kernel_rfl) (by kernel_rfl) ?_
  refine ls_load (a0:=⟨g1,(0+1),none⟩) (v:=.slice A0_1 a0.2.1.length c0_1) (de:=(TypeDesc.slice 23)) rfl rfl (by kernel_rfl) rfl (by kernel_rfl) (by kernel_rfl) (by kernel_rfl) (fun w hs=>(hs.var (k:=0) (by exact rfl) (Sub4.trans (Sub4.all _) (Sub4.skip (n:=1) (len1 _) (Sub4.head _ _))))) ?_
  refine ls_on (j:=14) (t:=21) (b:=false) rfl rfl (by kernel_rfl) (by kernel_rfl) ?_
  refine lv (.int .i64 (a0.2.1.length:Int)) ?_
  refine ls_on (j:=14) (t:=21) (b:=false) rfl rfl (by kernel_rfl) (by kernel_rfl) ?_
  refine lv (.bool (decide ((a0.2.1.length:Int) > (4096:Int)))) ?_
  refine lv (.bool (decide ((a0.2.1.length:Int) > (4096:Int)))) ?_
  refine lv (.bool (decide ((a0.2.1.length:Int) > (4096:Int)))) ?_
  by_cases q44:(a0.2.1.length:Int) > (4096:Int)
  ·replace H := ite_t q44 H
   refine ls_know (c:=true) (dec_t q44) 27 (by kernel_rfl) ?_
   refine lofx 20 27 false true ?_
   refine lofx 20 27 false true ?_
   refine lofx 20 27 false true ?_
   refine lv (.bool true) ?_
   refine ls_end ?_
   refine qn_then ?_
   refine cs_true (by kernel_rfl) ?_
   refine cs_seq ?_
   refine cs_region (l:=[_]) ?_
   refine lv (.bool false) ?_
   refine ls_end ?_
   refine qn_then ?_
   refine cs_ret' ?_
   refine qr_then ?_
   obtain rfl := Option.some.inj H
   refine qr_res (rs:=[_]) rfl (fun w' hs=>⟨[.bool false],(res_tmp (by kernel_rfl) (.nil)),(),rfl,hs.pick (ts:=[]) (cs:=[]) trivial (by decide)⟩)
  replace H := ite_f q44 H
  refine ls_know (c:=false) (dec_f q44) 27 (by kernel_rfl) ?_
  refine ls_on (j:=20) (t:=27) (b:=false) rfl rfl (by kernel_rfl) (by kernel_rfl) ?_
  refine ls_loadagg (a:=⟨g1,0,none⟩) (sub:=([Value.int .i64 a0.1]++([Value.slice A0_1 a0.2.1.length c0_1]++([Value.slice A0_2 a0.2.2.1.length c0_2]++[Value.slice A0_3 a0.2.2.2.length c0_3])))) rfl rfl (by kernel_rfl) rfl (by kernel_rfl) (by kernel_rfl) (by kernel_rfl) (len_app (len1 _) (len_app (len1 _) (len_app (len1 _) (len1 _)))) (fun w hs=>(hs.vars (k:=0) (by exact rfl) (Sub4.all _))) ?_
  refine ls_on (j:=20) (t:=27) (b:=false) rfl rfl (by kernel_rfl) (by kernel_rfl) ?_
  obtain ⟨t45,hc46,H⟩ := bind_some H
  refine ls_callb (fid:=69) (vals:=#[.agg ⟨([Value.int .i64 a0.1]++([Value.slice A0_1 a0.2.1.length c0_1]++([Value.slice A0_2 a0.2.2.1.length c0_2]++[Value.slice A0_3 a0.2.2.2.length c0_3])))⟩]) (X:=Unit) (fun x=>.bool t45) (fun x=>stl []) [] [] [] [] 1 rfl rfl (by kernel_rfl) (fun w=>by kernel_rfl) trivial trivial (by decide) (fun w hs hb=>leaf_Node_lists.calls k A0_1 c0_1 A0_2 c0_2 A0_3 c0_3 (a0.1,a0.2.1,a0.2.2.1,a0.2.2.2) t45 (lent b w [] []) hb (hs.roS R0_1 _ _) C0_1 (hs.roS R0_2 _ _) C0_2 (hs.ro R0_3 _ _) C0_3 hc46) ?_
  intro x47
  refine ls_on (j:=20) (t:=27) (b:=false) rfl rfl (by kernel_rfl) (by kernel_rfl) ?_
  refine lv (.bool (!t45)) ?_
  refine lv (.bool (!t45)) ?_
  refine ls_end ?_
  refine qn_then ?_
  by_cases q48:t45=true
  ·replace H := ite_t q48 H
   refine cs_know (c:=false) (congrArg Bool.not (q48)) 31 (by kernel_rfl) ?_
   refine cs_false (by kernel_rfl) ?_
   refine cs_skip' ?_
   refine qn_meet (sput s0 0 (some (Ck.var 27 g1 (([Value.int .i64 a0.1]++([Value.slice A0_1 a0.2.1.length c0_1]++([Value.slice A0_2 a0.2.2.1.length c0_2]++[Value.slice A0_3 a0.2.2.2.length c0_3]))))))) ⟨_,fr_next (rfl) (by kernel_rfl),rfl,H⟩ (sub_put (by exact rfl) (sub_nil _))
  replace H := ite_f q48 H
  refine cs_know (c:=true) (congrArg Bool.not (Bool.eq_false_iff.mpr q48)) 31 (by kernel_rfl) ?_
  refine cs_true (by kernel_rfl) ?_
  refine cs_seq ?_
  refine cs_region (l:=[_]) ?_
  refine lv (.bool false) ?_
  refine ls_end ?_
  refine qn_then ?_
  refine cs_ret' ?_
  refine qr_then ?_
  obtain rfl := Option.some.inj H
  refine qr_res (rs:=[_]) rfl (fun w' hs=>⟨[.bool false],(res_tmp (by kernel_rfl) (.nil)),(),rfl,hs.pick (ts:=[]) (cs:=[]) trivial (by decide)⟩)
 rintro f S ⟨fr1,rfl,rfl,H⟩
 replace H:(leaf_Node_shape.lo4 a0 (leaf_Node_shape.jo2 k a0) k (0:Int))=some r := H
 refine cs_cut (fun f S=>∃ (fR:Fr),f=upd fR 1 (.pointer (some ⟨g1,0,none⟩))∧S=sput s0 0 (some (Ck.var 27 g1 (([Value.int .i64 a0.1]++([Value.slice A0_1 a0.2.1.length c0_1]++([Value.slice A0_2 a0.2.2.1.length c0_2]++[Value.slice A0_3 a0.2.2.2.length c0_3]))))))∧leaf_Node_shape.jo2 k a0=some r) ?_ ?_
 ·skip
  refine cs_seq ?_
  refine cs_region (l:=[_,_,_,_]) ?_
  refine lv (.pointer (some ⟨g1,(0+1),none⟩)) ?_
  refine ls_load (a0:=⟨g1,(0+1),none⟩) (v:=.slice A0_1 a0.2.1.length c0_1) (de:=(TypeDesc.slice 23)) rfl rfl (by kernel_rfl) rfl (by kernel_rfl) (by kernel_rfl) (by kernel_rfl) (fun w hs=>(hs.var (k:=0) (by exact rfl) (Sub4.trans (Sub4.all _) (Sub4.skip (n:=1) (len1 _) (Sub4.head _ _))))) ?_
  refine lv (.int .i64 (a0.2.1.length:Int)) ?_
  refine lv (.int .i64 (0:Int)) ?_
  refine ls_end ?_
  refine qn_then ?_
  refine cs_block ?_
  refine cs_sub (sput s0 0 (some (Ck.var 27 g1 (([Value.int .i64 a0.1]++([Value.slice A0_1 a0.2.1.length c0_1]++([Value.slice A0_2 a0.2.2.1.length c0_2]++[Value.slice A0_3 a0.2.2.2.length c0_3]))))))) (sub_put (by exact rfl) (sub_nil _)) ?_
  refine cs_loop (fun kk f S=>∃ (fR:Fr) (x35_4:Int),f=upd (upd (upd (upd fR 1 (.pointer (some ⟨g1,0,none⟩))) 33 (.slice A0_1 a0.2.1.length c0_1)) 34 (.int .i64 (a0.2.1.length:Int))) 35 (.int .i64 x35_4)∧S=sput s0 0 (some (Ck.var 27 g1 (([Value.int .i64 a0.1]++([Value.slice A0_1 a0.2.1.length c0_1]++([Value.slice A0_2 a0.2.2.1.length c0_2]++[Value.slice A0_3 a0.2.2.2.length c0_3]))))))∧leaf_Node_shape.lo4 a0 (leaf_Node_shape.jo2 k a0) kk x35_4=some r) k ?_ ?_ ?_
  ·exact ⟨_,(0:Int),fr_next (fr_next (fr_next (fr_next (rfl) (by kernel_rfl)) (by kernel_rfl)) (by kernel_rfl)) (by kernel_rfl),rfl,H⟩
  ·rintro f S ⟨fr4,x35_4,rfl,rfl,H⟩; cases H
  rintro k4 f S ⟨fr4,x35_4,rfl,rfl,H⟩
  replace H:((if x35_4<(a0.2.1.length:Int) then (leaf_Node_shape.jo5 a0 x35_4 k4 (leaf_Node_shape.lo4 a0 (leaf_Node_shape.jo2 k a0) k4)) else (leaf_Node_shape.jo2 k a0)))=some r := H
  refine cs_seq ?_
  refine cs_region (l:=[_]) ?_
  refine lv (.bool (decide (x35_4<(a0.2.1.length:Int)))) ?_
  refine ls_end ?_
  refine qn_then ?_
  refine cs_cut (fun f S=>∃ (fR:Fr),f=upd (upd (upd (upd fR 1 (.pointer (some ⟨g1,0,none⟩))) 33 (.slice A0_1 a0.2.1.length c0_1)) 34 (.int .i64 (a0.2.1.length:Int))) 35 (.int .i64 x35_4)∧S=sput s0 0 (some (Ck.var 27 g1 (([Value.int .i64 a0.1]++([Value.slice A0_1 a0.2.1.length c0_1]++([Value.slice A0_2 a0.2.2.1.length c0_2]++[Value.slice A0_3 a0.2.2.2.length c0_3]))))))∧leaf_Node_shape.jo5 a0 x35_4 k4 (leaf_Node_shape.lo4 a0 (leaf_Node_shape.jo2 k a0) k4)=some r) ?_ ?_
  ·skip
   by_cases q40:x35_4<(a0.2.1.length:Int)
   ·replace H := ite_t q40 H
    refine cs_know (c:=true) (dec_t q40) 36 (by kernel_rfl) ?_
    refine cs_true (by kernel_rfl) ?_
    refine cs_skip' ?_
    refine qn_meet (sput s0 0 (some (Ck.var 27 g1 (([Value.int .i64 a0.1]++([Value.slice A0_1 a0.2.1.length c0_1]++([Value.slice A0_2 a0.2.2.1.length c0_2]++[Value.slice A0_3 a0.2.2.2.length c0_3]))))))) ⟨_,fr_next (fr_next (fr_next (fr_next (rfl) (by kernel_rfl)) (by kernel_rfl)) (by kernel_rfl)) (by kernel_rfl),rfl,H⟩ (sub_put (by exact rfl) (sub_nil _))
   replace H := ite_f q40 H
   refine cs_know (c:=false) (dec_f q40) 36 (by kernel_rfl) ?_
   refine cs_false (by kernel_rfl) ?_
   refine cs_exit' ?_
   refine qx_then ?_
   refine qx_then ?_
   refine qx_same ?_
   refine qn_meet (sput s0 0 (some (Ck.var 27 g1 (([Value.int .i64 a0.1]++([Value.slice A0_1 a0.2.1.length c0_1]++([Value.slice A0_2 a0.2.2.1.length c0_2]++[Value.slice A0_3 a0.2.2.2.length c0_3]))))))) ⟨_,fr_next (rfl) (by kernel_rfl),rfl,H⟩ (sub_put (by exact rfl) (sub_nil _))
  rintro f S ⟨fr5,rfl,rfl,H⟩
  replace H:((if 0≤x35_4 then (if x35_4<(a0.2.1.length:Int) then lt ((((a0.2.1).getD (x35_4).toNat ([]:List Int)).length:Int)) fun y24=>(if y24 > (160:Int) then some false else (if x35_4 > (0:Int) then (if 0≤IntKind.wrap .i64 (x35_4 - (1:Int)) then (if IntKind.wrap .i64 (x35_4 - (1:Int))<(a0.2.1.length:Int) then (bytes_Compare.f k4 ((a0.2.1).getD (IntKind.wrap .i64 (x35_4 - (1:Int))).toNat ([]:List Int)) ((a0.2.1).getD (x35_4).toNat ([]:List Int))).bind fun t36=>(if t36≥(0:Int) then some false else (leaf_Node_shape.lo4 a0 (leaf_Node_shape.jo2 k a0) k4) (IntKind.wrap .i64 (x35_4+(1:Int)))) else none) else none) else (leaf_Node_shape.lo4 a0 (leaf_Node_shape.jo2 k a0) k4) (IntKind.wrap .i64 (x35_4+(1:Int))))) else none) else none))=some r := H
  refine cs_seq ?_
  refine cs_block ?_
  refine cs_seq ?_
  refine cs_region (l:=[_,_,_,_,_]) ?_
  refine lv (.int .i64 x35_4) ?_
  obtain ⟨q16,H⟩ := ite_need H
  obtain ⟨q17,H⟩ := ite_need H
  obtain ⟨ad18,hA19⟩ := idoS_at (l:=a0.2.1) (i:=x35_4) R0_1 q16 q17
  refine ls_idxv (Ec.sld 23 Int) (A:=A0_1) (c:=c0_1) (l:=a0.2.1) (k:=.i64) (i:=x35_4) (z:=1) (ad:=ad18) rfl rfl (by kernel_rfl) hA19 rfl (by kernel_rfl) (by kernel_rfl) (by kernel_rfl) (by kernel_rfl) q16 q17 ?_
  obtain ⟨xq20,hq21,xR22,xC23⟩ := RoS.el (l:=a0.2.1) R0_1 hA19 (i:=x35_4) q16 q17
  refine ls_load (a0:=(ad18.add ((x35_4).toNat*1))) (v:=.slice xq20.1 ((a0.2.1).getD (x35_4).toNat ([]:List Int)).length xq20.2) (de:=(TypeDesc.slice 5)) rfl rfl (by kernel_rfl) rfl (by kernel_rfl) (by kernel_rfl) (by kernel_rfl) (fun w hs=>(hs.old hq21).cell0) ?_
  refine lv (.int .i64 x35_4) ?_
  refine lv (.slice xq20.1 ((a0.2.1).getD (x35_4).toNat ([]:List Int)).length xq20.2) ?_
  refine ls_end ?_
  refine qn_then ?_
  refine cs_seq ?_
  refine cs_region (l:=[_,_,_,_,_,_,_,_,_,_,_,_,_,_,_,_,_,_]) ?_
  refine lv (.slice xq20.1 ((a0.2.1).getD (x35_4).toNat ([]:List Int)).length xq20.2) ?_
  obtain ⟨y24,hy25,H⟩ := lt_some H
  refine lv (.int .i64 (((a0.2.1).getD (x35_4).toNat ([]:List Int)).length:Int)) ?_
  refine ls_ren 41 (v:=.int .i64 (((a0.2.1).getD (x35_4).toNat ([]:List Int)).length:Int)) (v' := .int .i64 y24) (by kernel_rfl) (by rw [hy25]) ?_
  refine lv (.bool (decide (y24 > (160:Int)))) ?_
  refine lv (.bool (decide (y24 > (160:Int)))) ?_
  by_cases q26:y24 > (160:Int)
  ·replace H := ite_t q26 H
   refine ls_know (c:=true) (dec_t q26) 43 (by kernel_rfl) ?_
   refine lofx 3 43 false true ?_
   refine lofx 3 43 false true ?_
   refine lofx 3 43 false true ?_
   refine ls_offu (j:=6) (t:=46) (b:=true) rfl rfl (by kernel_rfl) (by kernel_rfl) rfl (by kernel_rfl) ?_
   refine ls_offu (j:=6) (t:=46) (b:=true) rfl rfl (by kernel_rfl) (by kernel_rfl) rfl (by kernel_rfl) ?_
   refine ls_offu (j:=6) (t:=46) (b:=true) rfl rfl (by kernel_rfl) (by kernel_rfl) rfl (by kernel_rfl) ?_
   refine ls_offu (j:=6) (t:=46) (b:=true) rfl rfl (by kernel_rfl) (by kernel_rfl) rfl (by kernel_rfl) ?_
   refine ls_offu (j:=6) (t:=46) (b:=true) rfl rfl (by kernel_rfl) (by kernel_rfl) rfl (by kernel_rfl) ?_
   refine ls_offu (j:=6) (t:=46) (b:=true) rfl rfl (by kernel_rfl) (by kernel_rfl) rfl (by kernel_rfl) ?_
   refine ls_offu (j:=6) (t:=46) (b:=true) rfl rfl (by kernel_rfl) (by kernel_rfl) rfl (by kernel_rfl) ?_
   refine ls_offu (j:=6) (t:=46) (b:=true) rfl rfl (by kernel_rfl) (by kernel_rfl) rfl (by kernel_rfl) ?_
   refine ls_offu (j:=6) (t:=46) (b:=true) rfl rfl (by kernel_rfl) (by kernel_rfl) rfl (by kernel_rfl) ?_
   refine lofx 3 43 false true ?_
   refine lv (.bool true) ?_
   refine ls_end ?_
   refine qn_then ?_
   refine cs_true (by kernel_rfl) ?_
   refine cs_seq ?_
   refine cs_region (l:=[_]) ?_
   refine lv (.bool false) ?_
   refine ls_end ?_
   refine qn_then ?_
   refine cs_ret' ?_
   refine qr_block ?_
   refine qr_then ?_
   refine qr_then ?_
   refine qr_block ?_
   refine qr_then ?_
   obtain rfl := Option.some.inj H
   refine qr_res (rs:=[_]) rfl (fun w' hs=>⟨[.bool false],(res_tmp (by kernel_rfl) (.nil)),(),rfl,hs.pick (ts:=[]) (cs:=[]) trivial (by decide)⟩)
  replace H := ite_f q26 H
  refine ls_know (c:=false) (dec_f q26) 43 (by kernel_rfl) ?_
  refine ls_on (j:=3) (t:=43) (b:=false) rfl rfl (by kernel_rfl) (by kernel_rfl) ?_
  refine lv (.int .i64 x35_4) ?_
  refine ls_on (j:=3) (t:=43) (b:=false) rfl rfl (by kernel_rfl) (by kernel_rfl) ?_
  refine lv (.bool (decide (x35_4 > (0:Int)))) ?_
  refine ls_on (j:=3) (t:=43) (b:=false) rfl rfl (by kernel_rfl) (by kernel_rfl) ?_
  refine lv (.bool (decide (x35_4 > (0:Int)))) ?_
  by_cases q27:x35_4 > (0:Int)
  ·replace H := ite_t q27 H
   refine ls_know (c:=true) (dec_t q27) 46 (by kernel_rfl) ?_
   refine ls_on (j:=6) (t:=46) (b:=true) rfl rfl (by kernel_rfl) (by kernel_rfl) ?_
   refine lv (.pointer (some ⟨g1,(0+1),none⟩)) ?_
   refine ls_on (j:=6) (t:=46) (b:=true) rfl rfl (by kernel_rfl) (by kernel_rfl) ?_
   refine ls_load (a0:=⟨g1,(0+1),none⟩) (v:=.slice A0_1 a0.2.1.length c0_1) (de:=(TypeDesc.slice 23)) rfl rfl (by kernel_rfl) rfl (by kernel_rfl) (by kernel_rfl) (by kernel_rfl) (fun w hs=>(hs.var (k:=0) (by exact rfl) (Sub4.trans (Sub4.all _) (Sub4.skip (n:=1) (len1 _) (Sub4.head _ _))))) ?_
   refine ls_on (j:=6) (t:=46) (b:=true) rfl rfl (by kernel_rfl) (by kernel_rfl) ?_
   refine lv (.int .i64 x35_4) ?_
   refine ls_on (j:=6) (t:=46) (b:=true) rfl rfl (by kernel_rfl) (by kernel_rfl) ?_
   refine lv (.int .i64 (IntKind.wrap .i64 (x35_4 - (1:Int)))) ?_
   refine ls_on (j:=6) (t:=46) (b:=true) rfl rfl (by kernel_rfl) (by kernel_rfl) ?_
   obtain ⟨q28,H⟩ := ite_need H
   obtain ⟨q29,H⟩ := ite_need H
   obtain ⟨ad30,hA31⟩ := idoS_at (l:=a0.2.1) (i:=IntKind.wrap .i64 (x35_4 - (1:Int))) R0_1 q28 q29
   refine ls_idxv (Ec.sld 23 Int) (A:=A0_1) (c:=c0_1) (l:=a0.2.1) (k:=.i64) (i:=IntKind.wrap .i64 (x35_4 - (1:Int))) (z:=1) (ad:=ad30) rfl rfl (by kernel_rfl) hA31 rfl (by kernel_rfl) (by kernel_rfl) (by kernel_rfl) (by kernel_rfl) q28 q29 ?_
   refine ls_on (j:=6) (t:=46) (b:=true) rfl rfl (by kernel_rfl) (by kernel_rfl) ?_
   obtain ⟨xq32,hq33,xR34,xC35⟩ := RoS.el (l:=a0.2.1) R0_1 hA31 (i:=IntKind.wrap .i64 (x35_4 - (1:Int))) q28 q29
   refine ls_load (a0:=(ad30.add ((IntKind.wrap .i64 (x35_4 - (1:Int))).toNat*1))) (v:=.slice xq32.1 ((a0.2.1).getD (IntKind.wrap .i64 (x35_4 - (1:Int))).toNat ([]:List Int)).length xq32.2) (de:=(TypeDesc.slice 5)) rfl rfl (by kernel_rfl) rfl (by kernel_rfl) (by kernel_rfl) (by kernel_rfl) (fun w hs=>(hs.old hq33).cell0) ?_
   refine ls_on (j:=6) (t:=46) (b:=true) rfl rfl (by kernel_rfl) (by kernel_rfl) ?_
   refine lv (.slice xq20.1 ((a0.2.1).getD (x35_4).toNat ([]:List Int)).length xq20.2) ?_
   refine ls_on (j:=6) (t:=46) (b:=true) rfl rfl (by kernel_rfl) (by kernel_rfl) ?_
   obtain ⟨t36,hc37,H⟩ := bind_some H
   refine ls_callb (fid:=30) (vals:=#[.slice xq32.1 ((a0.2.1).getD (IntKind.wrap .i64 (x35_4 - (1:Int))).toNat ([]:List Int)).length xq32.2,.slice xq20.1 ((a0.2.1).getD (x35_4).toNat ([]:List Int)).length xq20.2]) (X:=Unit) (fun x=>.int .i64 t36) (fun x=>stl []) [] [] [] [] 1 rfl rfl (by kernel_rfl) (fun w=>by kernel_rfl) trivial trivial (by decide) (fun w hs hb=>bytes_Compare.calls k4 xq32.1 xq32.2 ((a0.2.1).getD (IntKind.wrap .i64 (x35_4 - (1:Int))).toNat ([]:List Int)) xq20.1 xq20.2 ((a0.2.1).getD (x35_4).toNat ([]:List Int)) t36 (lent b w [] []) hb (hs.ro xR34 _ _) xC35 (hs.ro xR22 _ _) xC23 hc37) ?_
   intro x38
   refine ls_on (j:=6) (t:=46) (b:=true) rfl rfl (by kernel_rfl) (by kernel_rfl) ?_
   refine lv (.bool (decide (t36≥(0:Int)))) ?_
   refine ls_on (j:=3) (t:=43) (b:=false) rfl rfl (by kernel_rfl) (by kernel_rfl) ?_
   refine lv (.bool (decide (t36≥(0:Int)))) ?_
   refine lv (.bool (decide (t36≥(0:Int)))) ?_
   refine ls_end ?_
   refine qn_then ?_
   by_cases q39:t36≥(0:Int)
   ·replace H := ite_t q39 H
    refine cs_know (c:=true) (dec_t q39) 57 (by kernel_rfl) ?_
    refine cs_true (by kernel_rfl) ?_
    refine cs_seq ?_
    refine cs_region (l:=[_]) ?_
    refine lv (.bool false) ?_
    refine ls_end ?_
    refine qn_then ?_
    refine cs_ret' ?_
    refine qr_block ?_
    refine qr_then ?_
    refine qr_then ?_
    refine qr_block ?_
    refine qr_then ?_
    obtain rfl := Option.some.inj H
    refine qr_res (rs:=[_]) rfl (fun w' hs=>⟨[.bool false],(res_tmp (by kernel_rfl) (.nil)),(),rfl,hs.pick (ts:=[]) (cs:=[]) trivial (by decide)⟩)
   replace H := ite_f q39 H
   refine cs_know (c:=false) (dec_f q39) 57 (by kernel_rfl) ?_
   refine cs_false (by kernel_rfl) ?_
   refine cs_skip' ?_
   refine qn_block ?_
   refine qn_then ?_
   refine cs_region (l:=[_,_]) ?_
   refine lv (.int .i64 (IntKind.wrap .i64 (x35_4+(1:Int)))) ?_
   refine lv (.int .i64 (IntKind.wrap .i64 (x35_4+(1:Int)))) ?_
   refine ls_end ?_
   refine qn_again k4 (sput s0 0 (some (Ck.var 27 g1 (([Value.int .i64 a0.1]++([Value.slice A0_1 a0.2.1.length c0_1]++([Value.slice A0_2 a0.2.2.1.length c0_2]++[Value.slice A0_3 a0.2.2.2.length c0_3]))))))) (Nat.le_refl _) ⟨_,(IntKind.wrap .i64 (x35_4+(1:Int))),fr_next (fr_next (fr_next (fr_next (rfl) (by kernel_rfl)) (by kernel_rfl)) (by kernel_rfl)) (by kernel_rfl),rfl,H⟩ (sub_put (by exact rfl) (sub_nil _))
  replace H := ite_f q27 H
  refine ls_know (c:=false) (dec_f q27) 46 (by kernel_rfl) ?_
  refine lofx 6 46 true false ?_
  refine lofx 6 46 true false ?_
  refine lofx 6 46 true false ?_
  refine lofx 6 46 true false ?_
  refine lofx 6 46 true false ?_
  refine lofx 6 46 true false ?_
  refine lofx 6 46 true false ?_
  refine lofx 6 46 true false ?_
  refine lofx 6 46 true false ?_
  refine ls_on (j:=3) (t:=43) (b:=false) rfl rfl (by kernel_rfl) (by kernel_rfl) ?_
  refine lv (.bool false) ?_
  refine lv (.bool false) ?_
  refine ls_end ?_
  refine qn_then ?_
  refine cs_false (by kernel_rfl) ?_
  refine cs_skip' ?_
  refine qn_block ?_
  refine qn_then ?_
  refine cs_region (l:=[_,_]) ?_
  refine lv (.int .i64 (IntKind.wrap .i64 (x35_4+(1:Int)))) ?_
  refine lv (.int .i64 (IntKind.wrap .i64 (x35_4+(1:Int)))) ?_
  refine ls_end ?_
  refine qn_again k4 (sput s0 0 (some (Ck.var 27 g1 (([Value.int .i64 a0.1]++([Value.slice A0_1 a0.2.1.length c0_1]++([Value.slice A0_2 a0.2.2.1.length c0_2]++[Value.slice A0_3 a0.2.2.2.length c0_3]))))))) (Nat.le_refl _) ⟨_,(IntKind.wrap .i64 (x35_4+(1:Int))),fr_next (fr_next (fr_next (fr_next (rfl) (by kernel_rfl)) (by kernel_rfl)) (by kernel_rfl)) (by kernel_rfl),rfl,H⟩ (sub_put (by exact rfl) (sub_nil _))
 rintro f S ⟨fr2,rfl,rfl,H⟩
 replace H:(leaf_Node_shape.lo3 a0 k (0:Int))=some r := H
 refine cs_seq ?_
 refine cs_seq ?_
 refine cs_region (l:=[_,_,_,_]) ?_
 refine lv (.pointer (some ⟨g1,(0+2),none⟩)) ?_
 refine ls_load (a0:=⟨g1,(0+2),none⟩) (v:=.slice A0_2 a0.2.2.1.length c0_2) (de:=(TypeDesc.slice 23)) rfl rfl (by kernel_rfl) rfl (by kernel_rfl) (by kernel_rfl) (by kernel_rfl) (fun w hs=>(hs.var (k:=0) (by exact rfl) (Sub4.trans (Sub4.all _) (Sub4.skip (n:=1) (len1 _) (Sub4.skip (n:=1) (len1 _) (Sub4.head _ _)))))) ?_
 refine lv (.int .i64 (a0.2.2.1.length:Int)) ?_
 refine lv (.int .i64 (0:Int)) ?_
 refine ls_end ?_
 refine qn_then ?_
 refine cs_block ?_
 refine cs_sub (sput s0 0 (some (Ck.var 27 g1 (([Value.int .i64 a0.1]++([Value.slice A0_1 a0.2.1.length c0_1]++([Value.slice A0_2 a0.2.2.1.length c0_2]++[Value.slice A0_3 a0.2.2.2.length c0_3]))))))) (sub_put (by exact rfl) (sub_nil _)) ?_
 refine cs_loop (fun kk f S=>∃ (fR:Fr) (x62_3:Int),f=upd (upd (upd (upd fR 1 (.pointer (some ⟨g1,0,none⟩))) 60 (.slice A0_2 a0.2.2.1.length c0_2)) 61 (.int .i64 (a0.2.2.1.length:Int))) 62 (.int .i64 x62_3)∧S=sput s0 0 (some (Ck.var 27 g1 (([Value.int .i64 a0.1]++([Value.slice A0_1 a0.2.1.length c0_1]++([Value.slice A0_2 a0.2.2.1.length c0_2]++[Value.slice A0_3 a0.2.2.2.length c0_3]))))))∧leaf_Node_shape.lo3 a0 kk x62_3=some r) k ?_ ?_ ?_
 ·exact ⟨_,(0:Int),fr_next (fr_next (fr_next (fr_next (rfl) (by kernel_rfl)) (by kernel_rfl)) (by kernel_rfl)) (by kernel_rfl),rfl,H⟩
 ·rintro f S ⟨fr3,x62_3,rfl,rfl,H⟩; cases H
 rintro k3 f S ⟨fr3,x62_3,rfl,rfl,H⟩
 replace H:((if x62_3<(a0.2.2.1.length:Int) then (if 0≤x62_3 then lt ((((a0.2.2.1).getD (x62_3).toNat ([]:List Int)).length:Int)) fun y10=>(if y10 > (1024:Int) then some false else (leaf_Node_shape.lo3 a0 k3) (IntKind.wrap .i64 (x62_3+(1:Int)))) else none) else (slices_ContainsFunc_70_s71.f k3 a0.2.2.2).bind fun t13=>some (!t13)))=some r := H
 refine cs_seq ?_
 refine cs_region (l:=[_]) ?_
 refine lv (.bool (decide (x62_3<(a0.2.2.1.length:Int)))) ?_
 refine ls_end ?_
 refine qn_then ?_
 refine cs_seq ?_
 by_cases q2:x62_3<(a0.2.2.1.length:Int)
 ·replace H := ite_t q2 H
  refine cs_know (c:=true) (dec_t q2) 63 (by kernel_rfl) ?_
  refine cs_true (by kernel_rfl) ?_
  refine cs_skip' ?_
  refine qn_then ?_
  refine cs_seq ?_
  refine cs_block ?_
  refine cs_seq ?_
  refine cs_region (l:=[_,_,_]) ?_
  obtain ⟨q3,H⟩ := ite_need H
  obtain ⟨ad4,hA5⟩ := idoS_at (l:=a0.2.2.1) (i:=x62_3) R0_2 q3 q2
  refine ls_idxv (Ec.sld 23 Int) (A:=A0_2) (c:=c0_2) (l:=a0.2.2.1) (k:=.i64) (i:=x62_3) (z:=1) (ad:=ad4) rfl rfl (by kernel_rfl) hA5 rfl (by kernel_rfl) (by kernel_rfl) (by kernel_rfl) (by kernel_rfl) q3 q2 ?_
  obtain ⟨xq6,hq7,xR8,xC9⟩ := RoS.el (l:=a0.2.2.1) R0_2 hA5 (i:=x62_3) q3 q2
  refine ls_load (a0:=(ad4.add ((x62_3).toNat*1))) (v:=.slice xq6.1 ((a0.2.2.1).getD (x62_3).toNat ([]:List Int)).length xq6.2) (de:=(TypeDesc.slice 5)) rfl rfl (by kernel_rfl) rfl (by kernel_rfl) (by kernel_rfl) (by kernel_rfl) (fun w hs=>(hs.old hq7).cell0) ?_
  refine lv (.slice xq6.1 ((a0.2.2.1).getD (x62_3).toNat ([]:List Int)).length xq6.2) ?_
  refine ls_end ?_
  refine qn_then ?_
  refine cs_seq ?_
  refine cs_region (l:=[_,_,_]) ?_
  refine lv (.slice xq6.1 ((a0.2.2.1).getD (x62_3).toNat ([]:List Int)).length xq6.2) ?_
  obtain ⟨y10,hy11,H⟩ := lt_some H
  refine lv (.int .i64 (((a0.2.2.1).getD (x62_3).toNat ([]:List Int)).length:Int)) ?_
  refine ls_ren 67 (v:=.int .i64 (((a0.2.2.1).getD (x62_3).toNat ([]:List Int)).length:Int)) (v' := .int .i64 y10) (by kernel_rfl) (by rw [hy11]) ?_
  refine lv (.bool (decide (y10 > (1024:Int)))) ?_
  refine ls_end ?_
  refine qn_then ?_
  by_cases q12:y10 > (1024:Int)
  ·replace H := ite_t q12 H
   refine cs_know (c:=true) (dec_t q12) 68 (by kernel_rfl) ?_
   refine cs_true (by kernel_rfl) ?_
   refine cs_seq ?_
   refine cs_region (l:=[_]) ?_
   refine lv (.bool false) ?_
   refine ls_end ?_
   refine qn_then ?_
   refine cs_ret' ?_
   refine qr_block ?_
   refine qr_then ?_
   refine qr_then ?_
   refine qr_block ?_
   refine qr_then ?_
   obtain rfl := Option.some.inj H
   refine qr_res (rs:=[_]) rfl (fun w' hs=>⟨[.bool false],(res_tmp (by kernel_rfl) (.nil)),(),rfl,hs.pick (ts:=[]) (cs:=[]) trivial (by decide)⟩)
  replace H := ite_f q12 H
  refine cs_know (c:=false) (dec_f q12) 68 (by kernel_rfl) ?_
  refine cs_false (by kernel_rfl) ?_
  refine cs_skip' ?_
  refine qn_block ?_
  refine qn_then ?_
  refine cs_region (l:=[_,_]) ?_
  refine lv (.int .i64 (IntKind.wrap .i64 (x62_3+(1:Int)))) ?_
  refine lv (.int .i64 (IntKind.wrap .i64 (x62_3+(1:Int)))) ?_
  refine ls_end ?_
  refine qn_again k3 (sput s0 0 (some (Ck.var 27 g1 (([Value.int .i64 a0.1]++([Value.slice A0_1 a0.2.1.length c0_1]++([Value.slice A0_2 a0.2.2.1.length c0_2]++[Value.slice A0_3 a0.2.2.2.length c0_3]))))))) (Nat.le_refl _) ⟨_,(IntKind.wrap .i64 (x62_3+(1:Int))),fr_next (fr_next (fr_next (fr_next (rfl) (by kernel_rfl)) (by kernel_rfl)) (by kernel_rfl)) (by kernel_rfl),rfl,H⟩ (sub_put (by exact rfl) (sub_nil _))
 replace H := ite_f q2 H
 refine cs_know (c:=false) (dec_f q2) 63 (by kernel_rfl) ?_
 refine cs_false (by kernel_rfl) ?_
 refine cs_exit' ?_
 refine qx_then ?_
 refine qx_then ?_
 refine qx_same ?_
 refine qn_then ?_
 refine cs_seq ?_
 refine cs_region (l:=[_,_,_,_,_]) ?_
 refine lv (.pointer (some ⟨g1,(0+3),none⟩)) ?_
 refine ls_load (a0:=⟨g1,(0+3),none⟩) (v:=.slice A0_3 a0.2.2.2.length c0_3) (de:=(TypeDesc.slice 44)) rfl rfl (by kernel_rfl) rfl (by kernel_rfl) (by kernel_rfl) (by kernel_rfl) (fun w hs=>(hs.var (k:=0) (by exact rfl) (Sub4.trans (Sub4.all _) (Sub4.skip (n:=1) (len1 _) (Sub4.skip (n:=1) (len1 _) (Sub4.skip (n:=1) (len1 _) (Sub4.all _))))))) ?_
 obtain ⟨t13,hc14,H⟩ := bind_some H
 refine ls_callb (fid:=70) (vals:=#[.slice A0_3 a0.2.2.2.length c0_3,.func (.func 71) #[] #[]]) (X:=Unit) (fun x=>.bool t13) (fun x=>stl []) [] [] [] [] 1 rfl rfl (by kernel_rfl) (fun w=>by kernel_rfl) trivial trivial (by decide) (fun w hs hb=>slices_ContainsFunc_70_s71.calls k3 A0_3 c0_3 a0.2.2.2 t13 (lent b w [] []) hb (hs.ro R0_3 _ _) C0_3 hc14) ?_
 intro x15
 refine lv (.bool (!t13)) ?_
 refine lv (.bool (!t13)) ?_
 refine ls_end ?_
 refine qn_then ?_
 refine cs_ret' ?_
 obtain rfl := Option.some.inj H
 refine qr_res (rs:=[_]) rfl (fun w' hs=>⟨[.bool (!t13)],(res_tmp (by kernel_rfl) (.nil)),(),rfl,hs.pick (ts:=[]) (cs:=[]) trivial (by decide)⟩)
def leaf_Right.f (k:Nat) (a0:NO):Option (Bool) :=
  (leaf_Node_shape.f k (a0.1,a0.2.1,a0.2.2.1,a0.2.2.2)).bind fun t2=>(if t2=true then (leaf_Node_bytes.f k (a0.1,a0.2.1,a0.2.2.1,a0.2.2.2)).bind fun t6=>some (decide ((t6.length:Int)≤(4096:Int))) else some false)
theorem leaf_Right.calls (k:Nat) (A0_1:Option Addr) (c0_1:Nat) (A0_2:Option Addr) (c0_2:Nat) (A0_3:Option Addr) (c0_3:Nat) (a0:NO) (r:Bool) (b:Bs) (hs0:St b (stl []) b.w) (R0_1:RoS 23 (Ec.int 5 .u8) b A0_1 a0.2.1) (C0_1:a0.2.1.length≤c0_1) (R0_2:RoS 23 (Ec.int 5 .u8) b A0_2 a0.2.2.1) (C0_2:a0.2.2.1.length≤c0_2) (R0_3:Ro b A0_3 (em T44 a0.2.2.2)) (C0_3:a0.2.2.2.length≤c0_3) (H:leaf_Right.f k a0=some r) :
    Calls Try.prog 15 #[.agg ⟨([Value.int .i64 a0.1]++([Value.slice A0_1 a0.2.1.length c0_1]++([Value.slice A0_2 a0.2.2.1.length c0_2]++[Value.slice A0_3 a0.2.2.2.length c0_3])))⟩] b.w fun e w'=>∃ x:Unit,e=.returned (.bool r)∧St b (stl []) w' := by
 unfold leaf_Right.f at H
 refine enterb (n:=11) Try.func15 rfl (by kernel_rfl) (by kernel_rfl) hs0 ?_
 refine cs_sub (s0) (sub_nil _) ?_
 refine cs_seq ?_
 refine cs_region (l:=[_,_]) ?_
 refine ls_new rfl rfl (by kernel_rfl) 0 (fun g=>.pointer (some ⟨g,0,none⟩)) (.cells ⟨([Value.int .i64 a0.1]++([Value.slice A0_1 a0.2.1.length c0_1]++([Value.slice A0_2 a0.2.2.1.length c0_2]++[Value.slice A0_3 a0.2.2.2.length c0_3])))⟩ 27) (fun w=>by kernel_rfl) ?_
 intro g1
 refine lv (.bool false) ?_
 refine ls_end ?_
 refine qn_then ?_
 refine cs_seq ?_
 refine cs_region (l:=[_,_,_,_,_,_,_,_,_]) ?_
 refine ls_loadagg (a:=⟨g1,0,none⟩) (sub:=([Value.int .i64 a0.1]++([Value.slice A0_1 a0.2.1.length c0_1]++([Value.slice A0_2 a0.2.2.1.length c0_2]++[Value.slice A0_3 a0.2.2.2.length c0_3])))) rfl rfl (by kernel_rfl) rfl (by kernel_rfl) (by kernel_rfl) (by kernel_rfl) (len_app (len1 _) (len_app (len1 _) (len_app (len1 _) (len1 _)))) (fun w hs=>(hs.vars (k:=0) (by exact rfl) (Sub4.all _))) ?_
 obtain ⟨t2,hc3,H⟩ := bind_some H
 refine ls_callb (fid:=39) (vals:=#[.agg ⟨([Value.int .i64 a0.1]++([Value.slice A0_1 a0.2.1.length c0_1]++([Value.slice A0_2 a0.2.2.1.length c0_2]++[Value.slice A0_3 a0.2.2.2.length c0_3])))⟩]) (X:=Unit) (fun x=>.bool t2) (fun x=>stl []) [] [] [] [] 1 rfl rfl (by kernel_rfl) (fun w=>by kernel_rfl) trivial trivial (by decide) (fun w hs hb=>leaf_Node_shape.calls k A0_1 c0_1 A0_2 c0_2 A0_3 c0_3 (a0.1,a0.2.1,a0.2.2.1,a0.2.2.2) t2 (lent b w [] []) hb (hs.roS R0_1 _ _) C0_1 (hs.roS R0_2 _ _) C0_2 (hs.ro R0_3 _ _) C0_3 hc3) ?_
 intro x4
 refine lv (.bool t2) ?_
 by_cases q5:t2=true
 ·replace H := ite_t q5 H
  refine ls_know (c:=true) (q5) 5 (by kernel_rfl) ?_
  refine ls_on (j:=2) (t:=5) (b:=true) rfl rfl (by kernel_rfl) (by kernel_rfl) ?_
  refine ls_loadagg (a:=⟨g1,0,none⟩) (sub:=([Value.int .i64 a0.1]++([Value.slice A0_1 a0.2.1.length c0_1]++([Value.slice A0_2 a0.2.2.1.length c0_2]++[Value.slice A0_3 a0.2.2.2.length c0_3])))) rfl rfl (by kernel_rfl) rfl (by kernel_rfl) (by kernel_rfl) (by kernel_rfl) (len_app (len1 _) (len_app (len1 _) (len_app (len1 _) (len1 _)))) (fun w hs=>(hs.vars (k:=0) (by exact rfl) (Sub4.all _))) ?_
  refine ls_on (j:=2) (t:=5) (b:=true) rfl rfl (by kernel_rfl) (by kernel_rfl) ?_
  obtain ⟨t6,hc7,H⟩ := bind_some H
  refine ls_callb (fid:=36) (vals:=#[.agg ⟨([Value.int .i64 a0.1]++([Value.slice A0_1 a0.2.1.length c0_1]++([Value.slice A0_2 a0.2.2.1.length c0_2]++[Value.slice A0_3 a0.2.2.2.length c0_3])))⟩]) (X:=(Option Addr × Nat)) (fun x=>.slice x.1 t6.length x.2) (fun x=>stl [Ck.sl (Ec.int 5 .u8) x.1 x.2 t6]) [] [] [] [] 1 rfl rfl (by kernel_rfl) (fun w=>by kernel_rfl) trivial trivial (by decide) (fun w hs hb=>leaf_Node_bytes.calls k A0_1 c0_1 A0_2 c0_2 A0_3 c0_3 (a0.1,a0.2.1,a0.2.2.1,a0.2.2.2) t6 (lent b w [] []) hb (hs.roS R0_1 _ _) C0_1 (hs.roS R0_2 _ _) C0_2 (hs.ro R0_3 _ _) C0_3 hc7) ?_
  intro x8
  refine ls_on (j:=2) (t:=5) (b:=true) rfl rfl (by kernel_rfl) (by kernel_rfl) ?_
  refine lv (.int .i64 (t6.length:Int)) ?_
  refine ls_on (j:=2) (t:=5) (b:=true) rfl rfl (by kernel_rfl) (by kernel_rfl) ?_
  refine lv (.bool (decide ((t6.length:Int)≤(4096:Int)))) ?_
  refine lv (.bool (decide ((t6.length:Int)≤(4096:Int)))) ?_
  refine lv (.bool (decide ((t6.length:Int)≤(4096:Int)))) ?_
  refine ls_end ?_
  refine qn_then ?_
  refine cs_ret' ?_
  obtain rfl := Option.some.inj H
  refine qr_res (rs:=[_]) rfl (fun w' hs=>⟨[.bool (decide ((t6.length:Int)≤(4096:Int)))],(res_tmp (by kernel_rfl) (.nil)),(),rfl,hs.pick (ts:=[]) (cs:=[]) trivial (by decide)⟩)
 replace H := ite_f q5 H
 refine ls_know (c:=false) (Bool.eq_false_iff.mpr q5) 5 (by kernel_rfl) ?_
 refine lofx 2 5 true false ?_
 refine lofx 2 5 true false ?_
 refine lofx 2 5 true false ?_
 refine lofx 2 5 true false ?_
 refine lv (.bool false) ?_
 refine lv (.bool false) ?_
 refine ls_end ?_
 refine qn_then ?_
 refine cs_ret' ?_
 obtain rfl := Option.some.inj H
 refine qr_res (rs:=[_]) rfl (fun w' hs=>⟨[.bool false],(res_tmp (by kernel_rfl) (.nil)),(),rfl,hs.pick (ts:=[]) (cs:=[]) trivial (by decide)⟩)
def codec_ReadShort_1.f (k:Nat) (a0:Int):Option (Int × Int × Int) :=
  some ((0:Int),(0:Int),a0)
theorem codec_ReadShort_1.calls (k:Nat) (a0:Int) (r:Int × Int × Int) (b:Bs) (hs0:St b (stl []) b.w) (H:codec_ReadShort_1.f k a0=some r) :
    Calls Try.prog 86 #[.int .i64 a0] b.w fun e w'=>∃ x:Unit,e=.returned (.tuple #[.int .u64 r.1,.int .i64 r.2.1,.int .i64 r.2.2])∧St b (stl []) w' := by
 unfold codec_ReadShort_1.f at H
 refine enterb (n:=6) Try.func86 rfl (by kernel_rfl) (by kernel_rfl) hs0 ?_
 refine cs_sub (s0) (sub_nil _) ?_
 refine cs_seq ?_
 refine cs_region (l:=[_,_,_]) ?_
 refine lv (.int .u64 (0:Int)) ?_
 refine lv (.int .i64 (0:Int)) ?_
 refine lv (.int .i64 (0:Int)) ?_
 refine ls_end ?_
 refine qn_then ?_
 refine cs_seq ?_
 refine cs_region (l:=[_,_,_,_]) ?_
 refine lv (.int .i64 a0) ?_
 refine lv (.int .u64 (0:Int)) ?_
 refine lv (.int .i64 (0:Int)) ?_
 refine lv (.int .i64 a0) ?_
 refine ls_end ?_
 refine qn_then ?_
 refine cs_ret' ?_
 obtain rfl := Option.some.inj H
 refine qr_res (rs:=[_,_,_]) rfl (fun w' hs=>⟨[.int .u64 (0:Int),.int .i64 (0:Int),.int .i64 a0],(res_tmp (by kernel_rfl) (res_tmp (by kernel_rfl) (res_tmp (by kernel_rfl) (.nil)))),(),rfl,hs.pick (ts:=[]) (cs:=[]) trivial (by decide)⟩)
def codec_ReadShort.jo3 (xl9:List Int) (x15_1:Int) (k1:Nat) (y18:Int) (lo1:Int→Int→Option (Int × Int × Int)) (x2_3:Int):Option (Int × Int × Int) := (if 0≤IntKind.wrap .i64 ((7:Int)*x15_1) then lt (shlv .u64 (IntKind.wrap .u64 y18) (IntKind.wrap .i64 ((7:Int)*x15_1))) fun y21=>(if ((xl9).getD (x15_1).toNat (0:Int))<(128:Int) then (codec_groups.f k1 (bits .or .u64 x2_3 y21)).bind fun t24=>(if t24=(IntKind.wrap .i64 (x15_1+(1:Int))) then some (bits .or .u64 x2_3 y21,IntKind.wrap .i64 (x15_1+(1:Int)),(0:Int)) else (codec_ReadShort_1.f k1 (11:Int)).bind fun t28=>some (t28.1,t28.2.1,t28.2.2)) else lo1 (bits .or .u64 x2_3 y21) (IntKind.wrap .i64 (x15_1+(1:Int)))) else none)
def codec_ReadShort.jo2 (xl9:List Int) (x2_1:Int) (x15_1:Int) (k1:Nat) (lo1:Int→Int→Option (Int × Int × Int)):Option (Int × Int × Int) := (if 0≤x15_1 then (if x15_1<(xl9.length:Int) then lt (bits .andNot .u8 ((xl9).getD (x15_1).toNat (0:Int)) (128:Int)) fun y18=>(bits_Len64.f k1 (IntKind.wrap .u64 y18)).bind fun t31=>lt (IntKind.wrap .i64 (t31+(IntKind.wrap .i64 ((7:Int)*x15_1)))) fun y34=>(if y34 > (64:Int) then (codec_ReadShort_1.f k1 (11:Int)).bind fun t37=>some (t37.1,t37.2.1,t37.2.2) else (codec_ReadShort.jo3 xl9 x15_1 k1 y18 lo1) x2_1) else none) else none)
def codec_ReadShort.lo1 (l0:List Int) (xl9:List Int):Nat→Int→Int→Option (Int × Int × Int)
  | 0,_,_=>none
  | k1+1,x2_1,x15_1=>(if x15_1<(xl9.length:Int) then (codec_ReadShort.jo2 xl9 x2_1 x15_1 k1 (codec_ReadShort.lo1 l0 xl9 k1)) else (if (l0.length:Int)≥(10:Int) then (codec_ReadShort_1.f k1 (11:Int)).bind fun t42=>some (t42.1,t42.2.1,t42.2.2) else (codec_ReadShort_1.f k1 (10:Int)).bind fun t45=>some (t45.1,t45.2.1,t45.2.2)))
def codec_ReadShort.f (k:Nat) (l0:List Int):Option (Int × Int × Int) :=
  lt ((if (10:Int)<(l0.length:Int) then (10:Int) else (l0.length:Int))) fun y1=>(if 0≤y1 then (if y1≤(l0.length:Int) then lt (l0.take (y1).toNat) fun xl9=>codec_ReadShort.lo1 l0 xl9 k (0:Int) (0:Int) else none) else none)
theorem codec_ReadShort.calls (k:Nat) (A0:Option Addr) (c0:Nat) (l0:List Int) (r:Int × Int × Int) (b:Bs) (hs0:St b (stl []) b.w) (R0:Ro b A0 (em (Ec.int 5 .u8) l0)) (C0:l0.length≤c0) (H:codec_ReadShort.f k l0=some r) :
    Calls Try.prog 57 #[.slice A0 l0.length c0] b.w fun e w'=>∃ x:Unit,e=.returned (.tuple #[.int .u64 r.1,.int .i64 r.2.1,.int .i64 r.2.2])∧St b (stl []) w' := by
 unfold codec_ReadShort.f at H
 refine enterb (n:=69) Try.func57 rfl (by kernel_rfl) (by kernel_rfl) hs0 ?_
 refine cs_sub (s0) (sub_nil _) ?_
 refine cs_seq ?_
 refine cs_region (l:=[_,_,_]) ?_
 refine lv (.int .u64 (0:Int)) ?_
 refine lv (.int .i64 (0:Int)) ?_
 refine lv (.int .i64 (0:Int)) ?_
 refine ls_end ?_
 refine qn_then ?_
 refine cs_seq ?_
 refine cs_region (l:=[_]) ?_
 refine lv (.func (.func 86) #[] #[]) ?_
 refine ls_end ?_
 refine qn_then ?_
 refine cs_seq ?_
 refine cs_seq ?_
 refine cs_region (l:=[_,_,_,_,_,_,_]) ?_
 refine lv (.slice A0 l0.length c0) ?_
 refine lv (.slice A0 l0.length c0) ?_
 refine lv (.int .i64 (l0.length:Int)) ?_
 obtain ⟨y1,hy2,H⟩ := lt_some H
 refine lv (.int .i64 (if (10:Int)<(l0.length:Int) then (10:Int) else (l0.length:Int))) ?_
 refine ls_ren 12 (v:=.int .i64 (if (10:Int)<(l0.length:Int) then (10:Int) else (l0.length:Int))) (v' := .int .i64 y1) (by kernel_rfl) (by rw [hy2]) ?_
 obtain ⟨q3,H⟩ := ite_need H
 obtain ⟨q4,H⟩ := ite_need H
 obtain ⟨xl9,hy10,H⟩ := lt_some H
 have hz12:0≤(y1).toNat := by omega
 have hz13:(y1).toNat≤l0.length := by omega
 obtain ⟨xA5,xc6,he11,xC8,xR7⟩ := cut_at (A:=A0) (c:=c0) (l:=l0) (Ec.int 5 .u8) 0 ((y1).toNat) hz12 hz13 C0 R0 (m:=xl9) (by rw [← hy10] <;> simp) (z:=1) rfl
 refine ls_cutv (A:=A0) (c:=c0) (m:=l0.length) (z:=1) (e:=5) (a:=0) (b:=(y1).toNat) rfl rfl (by kernel_rfl) rfl (by kernel_rfl) (by kernel_rfl) (by kernel_rfl) (.inl ⟨rfl,rfl⟩) (.inr ⟨.i64,by rw [Int.toNat_of_nonneg (by first | assumption | omega)]; kernel_rfl⟩) hz12 hz13 C0 he11 ?_
 refine lv (.int .i64 (xl9.length:Int)) ?_
 refine lv (.int .i64 (0:Int)) ?_
 refine ls_end ?_
 refine qn_then ?_
 refine cs_block ?_
 refine cs_sub (s0) (sub_nil _) ?_
 refine cs_loop (fun kk f S=>∃ (fR:Fr) (x2_1:Int) (x15_1:Int),f=upd (upd (upd (upd (upd (upd fR 0 (.slice A0 l0.length c0)) 2 (.int .u64 x2_1)) 5 (.func (.func 86) #[] #[])) 13 (.slice xA5 xl9.length xc6)) 14 (.int .i64 (xl9.length:Int))) 15 (.int .i64 x15_1)∧S=s0∧codec_ReadShort.lo1 l0 xl9 kk x2_1 x15_1=some r) k ?_ ?_ ?_
 ·exact ⟨_,(0:Int),(0:Int),fr_next (fr_next (fr_next (fr_next (fr_next (fr_next (rfl) (by kernel_rfl)) (by kernel_rfl)) (by kernel_rfl)) (by kernel_rfl)) (by kernel_rfl)) (by kernel_rfl),rfl,H⟩
 ·rintro f S ⟨fr1,x2_1,x15_1,rfl,rfl,H⟩; cases H
 rintro k1 f S ⟨fr1,x2_1,x15_1,rfl,rfl,H⟩
 replace H:((if x15_1<(xl9.length:Int) then (codec_ReadShort.jo2 xl9 x2_1 x15_1 k1 (codec_ReadShort.lo1 l0 xl9 k1)) else (if (l0.length:Int)≥(10:Int) then (codec_ReadShort_1.f k1 (11:Int)).bind fun t42=>some (t42.1,t42.2.1,t42.2.2) else (codec_ReadShort_1.f k1 (10:Int)).bind fun t45=>some (t45.1,t45.2.1,t45.2.2))))=some r := H
 refine cs_seq ?_
 refine cs_region (l:=[_]) ?_
 refine lv (.bool (decide (x15_1<(xl9.length:Int)))) ?_
 refine ls_end ?_
 refine qn_then ?_
 refine cs_cut (fun f S=>∃ (fR:Fr),f=upd (upd (upd (upd (upd (upd fR 0 (.slice A0 l0.length c0)) 2 (.int .u64 x2_1)) 5 (.func (.func 86) #[] #[])) 13 (.slice xA5 xl9.length xc6)) 14 (.int .i64 (xl9.length:Int))) 15 (.int .i64 x15_1)∧S=s0∧codec_ReadShort.jo2 xl9 x2_1 x15_1 k1 (codec_ReadShort.lo1 l0 xl9 k1)=some r) ?_ ?_
 ·skip
  by_cases q40:x15_1<(xl9.length:Int)
  ·replace H := ite_t q40 H
   refine cs_know (c:=true) (dec_t q40) 16 (by kernel_rfl) ?_
   refine cs_true (by kernel_rfl) ?_
   refine cs_skip' ?_
   refine qn_meet (s0) ⟨_,fr_next (fr_next (fr_next (fr_next (fr_next (fr_next (rfl) (by kernel_rfl)) (by kernel_rfl)) (by kernel_rfl)) (by kernel_rfl)) (by kernel_rfl)) (by kernel_rfl),rfl,H⟩ (sub_nil _)
  replace H := ite_f q40 H
  refine cs_know (c:=false) (dec_f q40) 16 (by kernel_rfl) ?_
  refine cs_false (by kernel_rfl) ?_
  refine cs_exit' ?_
  refine qx_then ?_
  refine qx_then ?_
  refine qx_same ?_
  refine qn_then ?_
  refine cs_seq ?_
  refine cs_seq ?_
  refine cs_region (l:=[_,_,_]) ?_
  refine lv (.slice A0 l0.length c0) ?_
  refine lv (.int .i64 (l0.length:Int)) ?_
  refine lv (.bool (decide ((l0.length:Int)≥(10:Int)))) ?_
  refine ls_end ?_
  refine qn_then ?_
  by_cases q41:(l0.length:Int)≥(10:Int)
  ·replace H := ite_t q41 H
   refine cs_know (c:=true) (dec_t q41) 58 (by kernel_rfl) ?_
   refine cs_true (by kernel_rfl) ?_
   refine cs_seq ?_
   refine cs_region (l:=[_,_,_,_,_,_,_,_]) ?_
   refine lv (.func (.func 86) #[] #[]) ?_
   obtain ⟨t42,hc43,H⟩ := bind_some H
   refine ls_callb (fid:=86) (vals:=#[.int .i64 (11:Int)]) (X:=Unit) (fun x=>.tuple #[.int .u64 t42.1,.int .i64 t42.2.1,.int .i64 t42.2.2]) (fun x=>stl []) [] [] [] [] 0 rfl rfl (by kernel_rfl) (fun w=>by kernel_rfl) trivial trivial (by decide) (fun w hs hb=>codec_ReadShort_1.calls k1 (11:Int) t42 (lent b w [] []) hb  hc43) ?_
   intro x44
   refine lv (.int .u64 t42.1) ?_
   refine lv (.int .i64 t42.2.1) ?_
   refine lv (.int .i64 t42.2.2) ?_
   refine lv (.int .u64 t42.1) ?_
   refine lv (.int .i64 t42.2.1) ?_
   refine lv (.int .i64 t42.2.2) ?_
   refine ls_end ?_
   refine qn_then ?_
   refine cs_ret' ?_
   refine qr_then ?_
   obtain rfl := Option.some.inj H
   refine qr_res (rs:=[_,_,_]) rfl (fun w' hs=>⟨[.int .u64 t42.1,.int .i64 t42.2.1,.int .i64 t42.2.2],(res_tmp (by kernel_rfl) (res_tmp (by kernel_rfl) (res_tmp (by kernel_rfl) (.nil)))),(),rfl,hs.pick (ts:=[]) (cs:=[]) trivial (by decide)⟩)
  replace H := ite_f q41 H
  refine cs_know (c:=false) (dec_f q41) 58 (by kernel_rfl) ?_
  refine cs_false (by kernel_rfl) ?_
  refine cs_skip' ?_
  refine qn_then ?_
  refine cs_seq ?_
  refine cs_region (l:=[_,_,_,_,_,_,_,_]) ?_
  refine lv (.func (.func 86) #[] #[]) ?_
  obtain ⟨t45,hc46,H⟩ := bind_some H
  refine ls_callb (fid:=86) (vals:=#[.int .i64 (10:Int)]) (X:=Unit) (fun x=>.tuple #[.int .u64 t45.1,.int .i64 t45.2.1,.int .i64 t45.2.2]) (fun x=>stl []) [] [] [] [] 0 rfl rfl (by kernel_rfl) (fun w=>by kernel_rfl) trivial trivial (by decide) (fun w hs hb=>codec_ReadShort_1.calls k1 (10:Int) t45 (lent b w [] []) hb  hc46) ?_
  intro x47
  refine lv (.int .u64 t45.1) ?_
  refine lv (.int .i64 t45.2.1) ?_
  refine lv (.int .i64 t45.2.2) ?_
  refine lv (.int .u64 t45.1) ?_
  refine lv (.int .i64 t45.2.1) ?_
  refine lv (.int .i64 t45.2.2) ?_
  refine ls_end ?_
  refine qn_then ?_
  refine cs_ret' ?_
  obtain rfl := Option.some.inj H
  refine qr_res (rs:=[_,_,_]) rfl (fun w' hs=>⟨[.int .u64 t45.1,.int .i64 t45.2.1,.int .i64 t45.2.2],(res_tmp (by kernel_rfl) (res_tmp (by kernel_rfl) (res_tmp (by kernel_rfl) (.nil)))),(),rfl,hs.pick (ts:=[]) (cs:=[]) trivial (by decide)⟩)
 rintro f S ⟨fr2,rfl,rfl,H⟩
 replace H:((if 0≤x15_1 then (if x15_1<(xl9.length:Int) then lt (bits .andNot .u8 ((xl9).getD (x15_1).toNat (0:Int)) (128:Int)) fun y18=>(bits_Len64.f k1 (IntKind.wrap .u64 y18)).bind fun t31=>lt (IntKind.wrap .i64 (t31+(IntKind.wrap .i64 ((7:Int)*x15_1)))) fun y34=>(if y34 > (64:Int) then (codec_ReadShort_1.f k1 (11:Int)).bind fun t37=>some (t37.1,t37.2.1,t37.2.2) else (codec_ReadShort.jo3 xl9 x15_1 k1 y18 (codec_ReadShort.lo1 l0 xl9 k1)) x2_1) else none) else none))=some r := H
 refine cs_seq ?_
 refine cs_block ?_
 refine cs_seq ?_
 refine cs_region (l:=[_,_,_,_,_]) ?_
 refine lv (.int .i64 x15_1) ?_
 obtain ⟨q14,H⟩ := ite_need H
 obtain ⟨q15,H⟩ := ite_need H
 obtain ⟨ad16,hA17⟩ := ido_at (T:=(Ec.int 5 .u8)) (l:=xl9) (i:=x15_1) xR7 q14 q15
 refine ls_idxv (Ec.int 5 .u8) (A:=xA5) (c:=xc6) (l:=xl9) (k:=.i64) (i:=x15_1) (z:=1) (ad:=ad16) rfl rfl (by kernel_rfl) hA17 rfl (by kernel_rfl) (by kernel_rfl) (by kernel_rfl) (by kernel_rfl) q14 q15 ?_
 refine ls_load (a0:=(ad16.add ((x15_1).toNat*1))) (v:=.int .u8 ((xl9).getD (x15_1).toNat (0:Int))) (de:=(TypeDesc.int .u8)) rfl rfl (by kernel_rfl) rfl (by kernel_rfl) (by kernel_rfl) (by kernel_rfl) (fun w hs=>(hs.old xR7).at hA17 (em_sub (Ec.int 5 .u8) xl9 (i:=(x15_1).toNat) (by have h0:(0:Int)≤x15_1 := q14; have h1:x15_1<(xl9.length:Int) := q15; omega))) ?_
 refine lv (.int .i64 x15_1) ?_
 refine lv (.int .u8 ((xl9).getD (x15_1).toNat (0:Int))) ?_
 refine ls_end ?_
 refine qn_then ?_
 refine cs_seq ?_
 refine cs_region (l:=[_,_,_,_]) ?_
 refine lv (.int .u8 ((xl9).getD (x15_1).toNat (0:Int))) ?_
 obtain ⟨y18,hy19,H⟩ := lt_some H
 refine lv (.int .u8 (bits .andNot .u8 ((xl9).getD (x15_1).toNat (0:Int)) (128:Int))) ?_
 refine ls_ren 21 (v:=.int .u8 (bits .andNot .u8 ((xl9).getD (x15_1).toNat (0:Int)) (128:Int))) (v' := .int .u8 y18) (by kernel_rfl) (by rw [hy19]) ?_
 refine lv (.int .u64 (IntKind.wrap .u64 y18)) ?_
 refine lv (.int .u64 (IntKind.wrap .u64 y18)) ?_
 refine ls_end ?_
 refine qn_then ?_
 refine cs_cut (fun f S=>∃ (fR:Fr) (x2_3:Int),f=upd (upd (upd (upd (upd (upd (upd (upd (upd fR 0 (.slice A0 l0.length c0)) 2 (.int .u64 x2_3)) 5 (.func (.func 86) #[] #[])) 6 (.int .i64 x15_1)) 7 (.int .u8 ((xl9).getD (x15_1).toNat (0:Int)))) 8 (.int .u64 (IntKind.wrap .u64 y18))) 13 (.slice xA5 xl9.length xc6)) 14 (.int .i64 (xl9.length:Int))) 15 (.int .i64 x15_1)∧S=s0∧codec_ReadShort.jo3 xl9 x15_1 k1 y18 (codec_ReadShort.lo1 l0 xl9 k1) x2_3=some r) ?_ ?_
 ·skip
  refine cs_seq ?_
  refine cs_region (l:=[_,_,_,_,_,_]) ?_
  refine lv (.int .u64 (IntKind.wrap .u64 y18)) ?_
  obtain ⟨t31,hc32,H⟩ := bind_some H
  refine ls_callb (fid:=87) (vals:=#[.int .u64 (IntKind.wrap .u64 y18)]) (X:=Unit) (fun x=>.int .i64 t31) (fun x=>stl []) [] [] [] [] 0 rfl rfl (by kernel_rfl) (fun w=>by kernel_rfl) trivial trivial (by decide) (fun w hs hb=>bits_Len64.calls k1 (IntKind.wrap .u64 y18) t31 (lent b w [] []) hb  hc32) ?_
  intro x33
  refine lv (.int .i64 x15_1) ?_
  refine lv (.int .i64 (IntKind.wrap .i64 ((7:Int)*x15_1))) ?_
  obtain ⟨y34,hy35,H⟩ := lt_some H
  refine lv (.int .i64 (IntKind.wrap .i64 (t31+(IntKind.wrap .i64 ((7:Int)*x15_1))))) ?_
  refine ls_ren 27 (v:=.int .i64 (IntKind.wrap .i64 (t31+(IntKind.wrap .i64 ((7:Int)*x15_1))))) (v' := .int .i64 y34) (by kernel_rfl) (by rw [hy35]) ?_
  refine lv (.bool (decide (y34 > (64:Int)))) ?_
  refine ls_end ?_
  refine qn_then ?_
  by_cases q36:y34 > (64:Int)
  ·replace H := ite_t q36 H
   refine cs_know (c:=true) (dec_t q36) 28 (by kernel_rfl) ?_
   refine cs_true (by kernel_rfl) ?_
   refine cs_seq ?_
   refine cs_region (l:=[_,_,_,_,_,_,_,_]) ?_
   refine lv (.func (.func 86) #[] #[]) ?_
   obtain ⟨t37,hc38,H⟩ := bind_some H
   refine ls_callb (fid:=86) (vals:=#[.int .i64 (11:Int)]) (X:=Unit) (fun x=>.tuple #[.int .u64 t37.1,.int .i64 t37.2.1,.int .i64 t37.2.2]) (fun x=>stl []) [] [] [] [] 0 rfl rfl (by kernel_rfl) (fun w=>by kernel_rfl) trivial trivial (by decide) (fun w hs hb=>codec_ReadShort_1.calls k1 (11:Int) t37 (lent b w [] []) hb  hc38) ?_
   intro x39
   refine lv (.int .u64 t37.1) ?_
   refine lv (.int .i64 t37.2.1) ?_
   refine lv (.int .i64 t37.2.2) ?_
   refine lv (.int .u64 t37.1) ?_
   refine lv (.int .i64 t37.2.1) ?_
   refine lv (.int .i64 t37.2.2) ?_
   refine ls_end ?_
   refine qn_then ?_
   refine cs_ret' ?_
   refine qr_then ?_
   refine qr_block ?_
   refine qr_then ?_
   refine qr_then ?_
   refine qr_block ?_
   refine qr_then ?_
   obtain rfl := Option.some.inj H
   refine qr_res (rs:=[_,_,_]) rfl (fun w' hs=>⟨[.int .u64 t37.1,.int .i64 t37.2.1,.int .i64 t37.2.2],(res_tmp (by kernel_rfl) (res_tmp (by kernel_rfl) (res_tmp (by kernel_rfl) (.nil)))),(),rfl,hs.pick (ts:=[]) (cs:=[]) trivial (by decide)⟩)
  replace H := ite_f q36 H
  refine cs_know (c:=false) (dec_f q36) 28 (by kernel_rfl) ?_
  refine cs_false (by kernel_rfl) ?_
  refine cs_skip' ?_
  refine qn_meet (s0) ⟨_,x2_1,fr_next (fr_next (fr_next (fr_next (fr_next (fr_next (fr_next (fr_next (fr_next (rfl) (by kernel_rfl)) (by kernel_rfl)) (by kernel_rfl)) (by kernel_rfl)) (by kernel_rfl)) (by kernel_rfl)) (by kernel_rfl)) (by kernel_rfl)) (by kernel_rfl),rfl,H⟩ (sub_nil _)
 rintro f S ⟨fr3,x2_3,rfl,rfl,H⟩
 replace H:((if 0≤IntKind.wrap .i64 ((7:Int)*x15_1) then lt (shlv .u64 (IntKind.wrap .u64 y18) (IntKind.wrap .i64 ((7:Int)*x15_1))) fun y21=>(if ((xl9).getD (x15_1).toNat (0:Int))<(128:Int) then (codec_groups.f k1 (bits .or .u64 x2_3 y21)).bind fun t24=>(if t24=(IntKind.wrap .i64 (x15_1+(1:Int))) then some (bits .or .u64 x2_3 y21,IntKind.wrap .i64 (x15_1+(1:Int)),(0:Int)) else (codec_ReadShort_1.f k1 (11:Int)).bind fun t28=>some (t28.1,t28.2.1,t28.2.2)) else (codec_ReadShort.lo1 l0 xl9 k1) (bits .or .u64 x2_3 y21) (IntKind.wrap .i64 (x15_1+(1:Int)))) else none))=some r := H
 refine cs_seq ?_
 refine cs_region (l:=[_,_,_,_,_,_,_]) ?_
 refine lv (.int .u64 x2_3) ?_
 refine lv (.int .u64 (IntKind.wrap .u64 y18)) ?_
 refine lv (.int .i64 x15_1) ?_
 refine lv (.int .i64 (IntKind.wrap .i64 ((7:Int)*x15_1))) ?_
 obtain ⟨q20,H⟩ := ite_need H
 obtain ⟨y21,hy22,H⟩ := lt_some H
 refine ls_shiftl (k:=.u64) (yk:=.i64) (x:=(IntKind.wrap .u64 y18)) (y:=(IntKind.wrap .i64 ((7:Int)*x15_1))) rfl rfl (by kernel_rfl) (fun w=>by kernel_rfl) q20 ?_
 refine ls_ren 38 (v:=.int .u64 (shlv .u64 (IntKind.wrap .u64 y18) (IntKind.wrap .i64 ((7:Int)*x15_1)))) (v' := .int .u64 y21) (by kernel_rfl) (by rw [hy22]) ?_
 refine lv (.int .u64 (bits .or .u64 x2_3 y21)) ?_
 refine lv (.int .u64 (bits .or .u64 x2_3 y21)) ?_
 refine ls_end ?_
 refine qn_then ?_
 refine cs_seq ?_
 refine cs_region (l:=[_,_]) ?_
 refine lv (.int .u8 ((xl9).getD (x15_1).toNat (0:Int))) ?_
 refine lv (.bool (decide (((xl9).getD (x15_1).toNat (0:Int))<(128:Int)))) ?_
 refine ls_end ?_
 refine qn_then ?_
 by_cases q23:((xl9).getD (x15_1).toNat (0:Int))<(128:Int)
 ·replace H := ite_t q23 H
  refine cs_know (c:=true) (dec_t q23) 41 (by kernel_rfl) ?_
  refine cs_true (by kernel_rfl) ?_
  refine cs_seq ?_
  refine cs_seq ?_
  refine cs_region (l:=[_,_,_,_,_]) ?_
  refine lv (.int .u64 (bits .or .u64 x2_3 y21)) ?_
  obtain ⟨t24,hc25,H⟩ := bind_some H
  refine ls_callb (fid:=88) (vals:=#[.int .u64 (bits .or .u64 x2_3 y21)]) (X:=Unit) (fun x=>.int .i64 t24) (fun x=>stl []) [] [] [] [] 0 rfl rfl (by kernel_rfl) (fun w=>by kernel_rfl) trivial trivial (by decide) (fun w hs hb=>codec_groups.calls k1 (bits .or .u64 x2_3 y21) t24 (lent b w [] []) hb  hc25) ?_
  intro x26
  refine lv (.int .i64 x15_1) ?_
  refine lv (.int .i64 (IntKind.wrap .i64 (x15_1+(1:Int)))) ?_
  refine lv (.bool (!decide (t24=(IntKind.wrap .i64 (x15_1+(1:Int)))))) ?_
  refine ls_end ?_
  refine qn_then ?_
  by_cases q27:t24=(IntKind.wrap .i64 (x15_1+(1:Int)))
  ·replace H := ite_t q27 H
   refine cs_know (c:=false) (congrArg Bool.not (dec_t q27)) 46 (by kernel_rfl) ?_
   refine cs_false (by kernel_rfl) ?_
   refine cs_skip' ?_
   refine qn_then ?_
   refine cs_seq ?_
   refine cs_region (l:=[_,_,_,_,_,_]) ?_
   refine lv (.int .u64 (bits .or .u64 x2_3 y21)) ?_
   refine lv (.int .i64 x15_1) ?_
   refine lv (.int .i64 (IntKind.wrap .i64 (x15_1+(1:Int)))) ?_
   refine lv (.int .u64 (bits .or .u64 x2_3 y21)) ?_
   refine lv (.int .i64 (IntKind.wrap .i64 (x15_1+(1:Int)))) ?_
   refine lv (.int .i64 (0:Int)) ?_
   refine ls_end ?_
   refine qn_then ?_
   refine cs_ret' ?_
   refine qr_block ?_
   refine qr_then ?_
   refine qr_then ?_
   refine qr_block ?_
   refine qr_then ?_
   obtain rfl := Option.some.inj H
   refine qr_res (rs:=[_,_,_]) rfl (fun w' hs=>⟨[.int .u64 (bits .or .u64 x2_3 y21),.int .i64 (IntKind.wrap .i64 (x15_1+(1:Int))),.int .i64 (0:Int)],(res_tmp (by kernel_rfl) (res_tmp (by kernel_rfl) (res_tmp (by kernel_rfl) (.nil)))),(),rfl,hs.pick (ts:=[]) (cs:=[]) trivial (by decide)⟩)
  replace H := ite_f q27 H
  refine cs_know (c:=true) (congrArg Bool.not (dec_f q27)) 46 (by kernel_rfl) ?_
  refine cs_true (by kernel_rfl) ?_
  refine cs_seq ?_
  refine cs_region (l:=[_,_,_,_,_,_,_,_]) ?_
  refine lv (.func (.func 86) #[] #[]) ?_
  obtain ⟨t28,hc29,H⟩ := bind_some H
  refine ls_callb (fid:=86) (vals:=#[.int .i64 (11:Int)]) (X:=Unit) (fun x=>.tuple #[.int .u64 t28.1,.int .i64 t28.2.1,.int .i64 t28.2.2]) (fun x=>stl []) [] [] [] [] 0 rfl rfl (by kernel_rfl) (fun w=>by kernel_rfl) trivial trivial (by decide) (fun w hs hb=>codec_ReadShort_1.calls k1 (11:Int) t28 (lent b w [] []) hb  hc29) ?_
  intro x30
  refine lv (.int .u64 t28.1) ?_
  refine lv (.int .i64 t28.2.1) ?_
  refine lv (.int .i64 t28.2.2) ?_
  refine lv (.int .u64 t28.1) ?_
  refine lv (.int .i64 t28.2.1) ?_
  refine lv (.int .i64 t28.2.2) ?_
  refine ls_end ?_
  refine qn_then ?_
  refine cs_ret' ?_
  refine qr_then ?_
  refine qr_block ?_
  refine qr_then ?_
  refine qr_then ?_
  refine qr_block ?_
  refine qr_then ?_
  obtain rfl := Option.some.inj H
  refine qr_res (rs:=[_,_,_]) rfl (fun w' hs=>⟨[.int .u64 t28.1,.int .i64 t28.2.1,.int .i64 t28.2.2],(res_tmp (by kernel_rfl) (res_tmp (by kernel_rfl) (res_tmp (by kernel_rfl) (.nil)))),(),rfl,hs.pick (ts:=[]) (cs:=[]) trivial (by decide)⟩)
 replace H := ite_f q23 H
 refine cs_know (c:=false) (dec_f q23) 41 (by kernel_rfl) ?_
 refine cs_false (by kernel_rfl) ?_
 refine cs_skip' ?_
 refine qn_block ?_
 refine qn_then ?_
 refine cs_region (l:=[_,_]) ?_
 refine lv (.int .i64 (IntKind.wrap .i64 (x15_1+(1:Int)))) ?_
 refine lv (.int .i64 (IntKind.wrap .i64 (x15_1+(1:Int)))) ?_
 refine ls_end ?_
 refine qn_again k1 (s0) (Nat.le_refl _) ⟨_,(bits .or .u64 x2_3 y21),(IntKind.wrap .i64 (x15_1+(1:Int))),fr_next (fr_next (fr_next (fr_next (fr_next (fr_next (rfl) (by kernel_rfl)) (by kernel_rfl)) (by kernel_rfl)) (by kernel_rfl)) (by kernel_rfl)) (by kernel_rfl),rfl,H⟩ (sub_nil _)
def leaf_reader_number.f (k:Nat) (v0:((List Int) × Bool)) (a1:Int):Option (Int × ((List Int) × Bool)) :=
  (codec_ReadShort.f k v0.1).bind fun t1=>(if t1.2.2=(0:Int) then (if t1.1 > (IntKind.wrap .u64 a1) then some ((0:Int),(v0.1,true)) else (if 0≤t1.2.1 then (if t1.2.1≤(v0.1.length:Int) then lt (v0.1.drop (t1.2.1).toNat) fun xl12=>some (IntKind.wrap .i64 t1.1,(xl12,v0.2)) else none) else none)) else some ((0:Int),(v0.1,true)))
theorem leaf_reader_number.calls (k:Nat) (pg0:Nat) (A0_0:Option Addr) (c0_0:Nat) (v0:((List Int) × Bool)) (a1:Int) (r:Int × ((List Int) × Bool)) (b:Bs) (hs0:St b (stl [Ck.var 74 pg0 (([Value.slice A0_0 v0.1.length c0_0]++[Value.bool v0.2]))]) b.w) (R0_0:Ro b A0_0 (em (Ec.int 5 .u8) v0.1)) (C0_0:v0.1.length≤c0_0) (H:leaf_reader_number.f k v0 a1=some r) :
    Calls Try.prog 31 #[.pointer (some ⟨pg0,0,none⟩),.int .i64 a1] b.w fun e w'=>∃ x:(Option Addr × Nat),e=.returned (.int .i64 r.1)∧((Ro b x.1 (em (Ec.int 5 .u8) r.2.1)∧r.2.1.length≤x.2))∧St b (stl [Ck.var 74 pg0 (([Value.slice x.1 r.2.1.length x.2]++[Value.bool r.2.2]))]) w' := by
 unfold leaf_reader_number.f at H
 refine enterb (n:=39) Try.func31 rfl (by kernel_rfl) (by kernel_rfl) hs0 ?_
 refine cs_sub (sput s0 0 (some (Ck.var 74 pg0 (([Value.slice A0_0 v0.1.length c0_0]++[Value.bool v0.2]))))) (sub_put (by exact rfl) (sub_nil _)) ?_
 refine cs_seq ?_
 refine cs_region (l:=[_]) ?_
 refine lv (.int .i64 (0:Int)) ?_
 refine ls_end ?_
 refine qn_then ?_
 refine cs_seq ?_
 refine cs_region (l:=[_,_,_,_,_,_,_,_,_,_,_,_]) ?_
 refine lv (.pointer (some ⟨pg0,0,none⟩)) ?_
 refine lv (.pointer (some ⟨pg0,0,none⟩)) ?_
 refine lv (.pointer (some ⟨pg0,(0+0),none⟩)) ?_
 refine ls_load (a0:=⟨pg0,(0+0),none⟩) (v:=.slice A0_0 v0.1.length c0_0) (de:=(TypeDesc.slice 5)) rfl rfl (by kernel_rfl) rfl (by kernel_rfl) (by kernel_rfl) (by kernel_rfl) (fun w hs=>(hs.var (k:=0) (by exact rfl) (Sub4.trans (Sub4.all _) (Sub4.head _ _)))) ?_
 obtain ⟨t1,hc2,H⟩ := bind_some H
 refine ls_callb (fid:=57) (vals:=#[.slice A0_0 v0.1.length c0_0]) (X:=Unit) (fun x=>.tuple #[.int .u64 t1.1,.int .i64 t1.2.1,.int .i64 t1.2.2]) (fun x=>stl []) [] [] [] [] 1 rfl rfl (by kernel_rfl) (fun w=>by kernel_rfl) trivial trivial (by decide) (fun w hs hb=>codec_ReadShort.calls k A0_0 c0_0 v0.1 t1 (lent b w [] []) hb (hs.ro R0_0 _ _) C0_0 hc2) ?_
 intro x3
 refine lv (.tuple #[.int .u64 t1.1,.int .i64 t1.2.1,.int .i64 t1.2.2]) ?_
 refine lv (.int .u64 t1.1) ?_
 refine lv (.int .i64 t1.2.1) ?_
 refine lv (.int .i64 t1.2.2) ?_
 refine lv (.int .u64 t1.1) ?_
 refine lv (.int .i64 t1.2.1) ?_
 refine lv (.int .i64 t1.2.2) ?_
 refine ls_end ?_
 refine qn_then ?_
 refine cs_seq ?_
 refine cs_seq ?_
 refine cs_region (l:=[_,_,_,_,_,_,_,_]) ?_
 refine lv (.int .i64 t1.2.2) ?_
 refine lv (.bool (!decide (t1.2.2=(0:Int)))) ?_
 refine lv (.bool (!decide (t1.2.2=(0:Int)))) ?_
 by_cases q4:t1.2.2=(0:Int)
 ·replace H := ite_t q4 H
  refine ls_know (c:=false) (congrArg Bool.not (dec_t q4)) 19 (by kernel_rfl) ?_
  refine ls_on (j:=2) (t:=19) (b:=false) rfl rfl (by kernel_rfl) (by kernel_rfl) ?_
  refine lv (.int .u64 t1.1) ?_
  refine ls_on (j:=2) (t:=19) (b:=false) rfl rfl (by kernel_rfl) (by kernel_rfl) ?_
  refine lv (.int .i64 a1) ?_
  refine ls_on (j:=2) (t:=19) (b:=false) rfl rfl (by kernel_rfl) (by kernel_rfl) ?_
  refine lv (.int .u64 (IntKind.wrap .u64 a1)) ?_
  refine ls_on (j:=2) (t:=19) (b:=false) rfl rfl (by kernel_rfl) (by kernel_rfl) ?_
  refine lv (.bool (decide (t1.1 > (IntKind.wrap .u64 a1)))) ?_
  refine lv (.bool (decide (t1.1 > (IntKind.wrap .u64 a1)))) ?_
  refine ls_end ?_
  refine qn_then ?_
  by_cases q5:t1.1 > (IntKind.wrap .u64 a1)
  ·replace H := ite_t q5 H
   refine cs_know (c:=true) (dec_t q5) 24 (by kernel_rfl) ?_
   refine cs_true (by kernel_rfl) ?_
   refine cs_seq ?_
   refine cs_region (l:=[_,_,_,_]) ?_
   refine lv (.pointer (some ⟨pg0,0,none⟩)) ?_
   refine lv (.pointer (some ⟨pg0,0,none⟩)) ?_
   refine lv (.pointer (some ⟨pg0,(0+1),none⟩)) ?_
   refine ls_storec (g:=pg0) (off:=(0+1)) (v:=.bool true) (vs:=[Value.bool true]) (cs:=([Value.slice A0_0 v0.1.length c0_0]++[Value.bool v0.2])) (ty:=74) 0 rfl rfl rfl (by kernel_rfl) (by kernel_rfl) (by kernel_rfl) (by exact rfl) (by kernel_rfl) (len1 _) (one_cons rfl one_nil) (hl_of (Sub4.trans (Sub4.all _) (Sub4.skip (n:=1) (len1 _) (Sub4.all _))) (len_eq (len1 _) (len1 _))) (cs' := ([Value.slice A0_0 v0.1.length c0_0]++[Value.bool true])) (splc_in (Sub4.all _) (splc_skip (n:=1) (len1 _) (splc_all (len_eq (len1 _) (len1 _)))) (splc_all (len_eq (len_app (len1 _) (len1 _)) (len_app (len1 _) (len1 _)))) (hl_of (Sub4.skip (n:=1) (len1 _) (Sub4.all _)) (len_eq (len1 _) (len1 _)))) ?_
   refine ls_end ?_
   refine qn_then ?_
   refine cs_seq ?_
   refine cs_region (l:=[_]) ?_
   refine lv (.int .i64 (0:Int)) ?_
   refine ls_end ?_
   refine qn_then ?_
   refine cs_ret' ?_
   refine qr_then ?_
   obtain rfl := Option.some.inj H
   refine qr_res (rs:=[_]) rfl (fun w' hs=>⟨[.int .i64 (0:Int)],(res_tmp (by kernel_rfl) (.nil)),(A0_0,c0_0),rfl,⟨R0_0,C0_0⟩,hs.pick (ts:=[0]) (cs:=[Ck.var 74 pg0 (([Value.slice A0_0 v0.1.length c0_0]++[Value.bool true]))]) ⟨by exact rfl,trivial⟩ (by decide)⟩)
  replace H := ite_f q5 H
  refine cs_know (c:=false) (dec_f q5) 24 (by kernel_rfl) ?_
  refine cs_false (by kernel_rfl) ?_
  refine cs_skip' ?_
  refine qn_then ?_
  refine cs_seq ?_
  refine cs_region (l:=[_,_,_,_,_,_,_,_,_,_]) ?_
  refine lv (.pointer (some ⟨pg0,0,none⟩)) ?_
  refine lv (.pointer (some ⟨pg0,0,none⟩)) ?_
  refine lv (.pointer (some ⟨pg0,0,none⟩)) ?_
  refine lv (.pointer (some ⟨pg0,(0+0),none⟩)) ?_
  refine ls_load (a0:=⟨pg0,(0+0),none⟩) (v:=.slice A0_0 v0.1.length c0_0) (de:=(TypeDesc.slice 5)) rfl rfl (by kernel_rfl) rfl (by kernel_rfl) (by kernel_rfl) (by kernel_rfl) (fun w hs=>(hs.var (k:=0) (by exact rfl) (Sub4.trans (Sub4.all _) (Sub4.head _ _)))) ?_
  refine lv (.int .i64 t1.2.1) ?_
  obtain ⟨q6,H⟩ := ite_need H
  obtain ⟨q7,H⟩ := ite_need H
  obtain ⟨xl12,hy13,H⟩ := lt_some H
  have hz15:(t1.2.1).toNat≤v0.1.length := by omega
  have hz16:v0.1.length≤v0.1.length := by omega
  obtain ⟨xA8,xc9,he14,xC11,xR10⟩ := cut_at (A:=A0_0) (c:=c0_0) (l:=v0.1) (Ec.int 5 .u8) ((t1.2.1).toNat) v0.1.length hz15 hz16 C0_0 R0_0 (m:=xl12) (by rw [← hy13] <;> simp) (z:=1) rfl
  refine ls_cutv (A:=A0_0) (c:=c0_0) (m:=v0.1.length) (z:=1) (e:=5) (a:=(t1.2.1).toNat) (b:=v0.1.length) rfl rfl (by kernel_rfl) rfl (by kernel_rfl) (by kernel_rfl) (by kernel_rfl) (.inr ⟨.i64,by rw [Int.toNat_of_nonneg (by first | assumption | omega)]; kernel_rfl⟩) (.inl ⟨rfl,rfl⟩) hz15 hz16 C0_0 he14 ?_
  refine lv (.pointer (some ⟨pg0,0,none⟩)) ?_
  refine lv (.pointer (some ⟨pg0,(0+0),none⟩)) ?_
  refine ls_storec (g:=pg0) (off:=(0+0)) (v:=.slice xA8 xl12.length xc9) (vs:=[Value.slice xA8 xl12.length xc9]) (cs:=([Value.slice A0_0 v0.1.length c0_0]++[Value.bool v0.2])) (ty:=74) 0 rfl rfl rfl (by kernel_rfl) (by kernel_rfl) (by kernel_rfl) (by exact rfl) (by kernel_rfl) (len1 _) (one_cons rfl one_nil) (hl_of (Sub4.trans (Sub4.all _) (Sub4.head _ _)) (len_eq (len1 _) (len1 _))) (cs' := ([Value.slice xA8 xl12.length xc9]++[Value.bool v0.2])) (splc_in (Sub4.all _) (splc_head (len_eq (len1 _) (len1 _))) (splc_all (len_eq (len_app (len1 _) (len1 _)) (len_app (len1 _) (len1 _)))) (hl_of (Sub4.head _ _) (len_eq (len1 _) (len1 _)))) ?_
  refine ls_end ?_
  refine qn_then ?_
  refine cs_seq ?_
  refine cs_region (l:=[_,_,_]) ?_
  refine lv (.int .u64 t1.1) ?_
  refine lv (.int .i64 (IntKind.wrap .i64 t1.1)) ?_
  refine lv (.int .i64 (IntKind.wrap .i64 t1.1)) ?_
  refine ls_end ?_
  refine qn_then ?_
  refine cs_ret' ?_
  obtain rfl := Option.some.inj H
  refine qr_res (rs:=[_]) rfl (fun w' hs=>⟨[.int .i64 (IntKind.wrap .i64 t1.1)],(res_tmp (by kernel_rfl) (.nil)),(xA8,xc9),rfl,⟨xR10,xC11⟩,hs.pick (ts:=[0]) (cs:=[Ck.var 74 pg0 (([Value.slice xA8 xl12.length xc9]++[Value.bool v0.2]))]) ⟨by exact rfl,trivial⟩ (by decide)⟩)
 replace H := ite_f q4 H
 refine ls_know (c:=true) (congrArg Bool.not (dec_f q4)) 19 (by kernel_rfl) ?_
 refine lofx 2 19 false true ?_
 refine lofx 2 19 false true ?_
 refine lofx 2 19 false true ?_
 refine lofx 2 19 false true ?_
 refine lv (.bool true) ?_
 refine ls_end ?_
 refine qn_then ?_
 refine cs_true (by kernel_rfl) ?_
 refine cs_seq ?_
 refine cs_region (l:=[_,_,_,_]) ?_
 refine lv (.pointer (some ⟨pg0,0,none⟩)) ?_
 refine lv (.pointer (some ⟨pg0,0,none⟩)) ?_
 refine lv (.pointer (some ⟨pg0,(0+1),none⟩)) ?_
 refine ls_storec (g:=pg0) (off:=(0+1)) (v:=.bool true) (vs:=[Value.bool true]) (cs:=([Value.slice A0_0 v0.1.length c0_0]++[Value.bool v0.2])) (ty:=74) 0 rfl rfl rfl (by kernel_rfl) (by kernel_rfl) (by kernel_rfl) (by exact rfl) (by kernel_rfl) (len1 _) (one_cons rfl one_nil) (hl_of (Sub4.trans (Sub4.all _) (Sub4.skip (n:=1) (len1 _) (Sub4.all _))) (len_eq (len1 _) (len1 _))) (cs' := ([Value.slice A0_0 v0.1.length c0_0]++[Value.bool true])) (splc_in (Sub4.all _) (splc_skip (n:=1) (len1 _) (splc_all (len_eq (len1 _) (len1 _)))) (splc_all (len_eq (len_app (len1 _) (len1 _)) (len_app (len1 _) (len1 _)))) (hl_of (Sub4.skip (n:=1) (len1 _) (Sub4.all _)) (len_eq (len1 _) (len1 _)))) ?_
 refine ls_end ?_
 refine qn_then ?_
 refine cs_seq ?_
 refine cs_region (l:=[_]) ?_
 refine lv (.int .i64 (0:Int)) ?_
 refine ls_end ?_
 refine qn_then ?_
 refine cs_ret' ?_
 refine qr_then ?_
 obtain rfl := Option.some.inj H
 refine qr_res (rs:=[_]) rfl (fun w' hs=>⟨[.int .i64 (0:Int)],(res_tmp (by kernel_rfl) (.nil)),(A0_0,c0_0),rfl,⟨R0_0,C0_0⟩,hs.pick (ts:=[0]) (cs:=[Ck.var 74 pg0 (([Value.slice A0_0 v0.1.length c0_0]++[Value.bool true]))]) ⟨by exact rfl,trivial⟩ (by decide)⟩)
end Go.Proofs.Ythhhkphbhlafbaa.G
