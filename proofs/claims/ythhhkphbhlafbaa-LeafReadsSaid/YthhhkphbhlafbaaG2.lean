/- Printed by a program of this session (sz.py): plain functions, and walks that show that the code comes to them; no condition. -/
import Derived.Test.YthhhkphbhlafbaaProg
import Derived.Test.YthhhkphbhlafbaaTy
import Derived.Test.YthhhkphbhlafbaaG0
import Derived.Test.YthhhkphbhlafbaaG1
set_option linter.unusedVariables false
set_option linter.unusedSimpArgs false
namespace Go.Proofs.Ythhhkphbhlafbaa.G
open Go Go.RowKit Go.Proofs.Ythhhkphbhlafbaa.Sx
set_option maxRecDepth 100000
set_option maxHeartbeats 4000000
def shadowboxref01_Take.lo2 (l0:List Int) (a1:Int):Nat→Int→Int→Option (Int × (List Int) × Bool)
  | 0,_,_=>none
  | k2+1,x7_2,x8_2=>(if x8_2≥(0:Int) then (if 0≤x8_2 then (if x8_2<(l0.length:Int) then lt (IntKind.wrap .u64 ((l0).getD (x8_2).toNat (0:Int))) fun y6=>lt (IntKind.wrap .u64 ((IntKind.wrap .u64 (x7_2*(256:Int)))+y6)) fun y8=>(shadowboxref01_Take.lo2 l0 a1 k2) y8 (IntKind.wrap .i64 (x8_2 - (1:Int))) else none) else none) else (if 0≤a1 then (if a1≤(l0.length:Int) then lt (l0.drop (a1).toNat) fun xl17=>(if (([]:List Int).length+xl17.length)*1≤140737488355328 then some (x7_2,(([]:List Int)++xl17),true) else none) else none) else none))
def shadowboxref01_Take.jo1 (k:Nat) (l0:List Int) (a1:Int):Option (Int × (List Int) × Bool) := shadowboxref01_Take.lo2 l0 a1 k (0:Int) (IntKind.wrap .i64 (a1 - (1:Int)))
def shadowboxref01_Take.f (k:Nat) (l0:List Int) (a1:Int):Option (Int × (List Int) × Bool) :=
  (if a1<(1:Int) then some ((0:Int),([]:List Int),false) else (if a1 > (8:Int) then some ((0:Int),([]:List Int),false) else (if (l0.length:Int)<a1 then some ((0:Int),([]:List Int),false) else (shadowboxref01_Take.jo1 k l0 a1))))
theorem shadowboxref01_Take.calls (k:Nat) (A0:Option Addr) (c0:Nat) (l0:List Int) (a1:Int) (r:Int × (List Int) × Bool) (b:Bs) (hs0:St b (stl []) b.w) (R0:Ro b A0 (em (Ec.int 5 .u8) l0)) (C0:l0.length≤c0) (H:shadowboxref01_Take.f k l0 a1=some r) :
    Calls Try.prog 93 #[.slice A0 l0.length c0,.int .i64 a1] b.w fun e w'=>∃ x:(Option Addr × Nat),e=.returned (.tuple #[.int .u64 r.1,.slice x.1 r.2.1.length x.2,.bool r.2.2])∧St b (stl [Ck.sl (Ec.int 5 .u8) x.1 x.2 r.2.1]) w' := by
 unfold shadowboxref01_Take.f at H
 refine enterb (n:=41) Try.func93 rfl (by kernel_rfl) (by kernel_rfl) hs0 ?_
 refine cs_sub (s0) (sub_nil _) ?_
 refine cs_seq ?_
 refine cs_region (l:=[_,_,_]) ?_
 refine lv (.int .u64 (0:Int)) ?_
 refine lv (.slice none 0 0) ?_
 refine lv (.bool false) ?_
 refine ls_end ?_
 refine qn_then ?_
 refine cs_cut (fun f S=>∃ (fR:Fr),f=upd (upd fR 0 (.slice A0 l0.length c0)) 1 (.int .i64 a1)∧S=s0∧shadowboxref01_Take.jo1 k l0 a1=some r) ?_ ?_
 ·skip
  refine cs_seq ?_
  refine cs_region (l:=[_,_,_,_,_,_,_,_,_,_,_,_]) ?_
  refine lv (.int .i64 a1) ?_
  refine lv (.bool (decide (a1<(1:Int)))) ?_
  refine lv (.bool (decide (a1<(1:Int)))) ?_
  by_cases q25:a1<(1:Int)
  ·replace H := ite_t q25 H
   refine ls_know (c:=true) (dec_t q25) 11 (by kernel_rfl) ?_
   refine lofx 2 11 false true ?_
   refine lofx 2 11 false true ?_
   refine lv (.bool true) ?_
   refine lv (.bool true) ?_
   refine lofx 6 15 false true ?_
   refine lofx 6 15 false true ?_
   refine lofx 6 15 false true ?_
   refine lofx 6 15 false true ?_
   refine lv (.bool true) ?_
   refine ls_end ?_
   refine qn_then ?_
   refine cs_true (by kernel_rfl) ?_
   refine cs_seq ?_
   refine cs_region (l:=[_,_,_]) ?_
   refine lv (.int .u64 (0:Int)) ?_
   refine lv (.slice none 0 0) ?_
   refine lv (.bool false) ?_
   refine ls_end ?_
   refine qn_then ?_
   refine cs_ret' ?_
   refine qr_then ?_
   refine qr_nilrow 0 (Ec.int 5 .u8) ?_
   obtain rfl := Option.some.inj H
   refine qr_res (rs:=[_,_,_]) rfl (fun w' hs=>⟨[.int .u64 (0:Int),.slice none 0 0,.bool false],(res_tmp (by kernel_rfl) (res_tmp (by kernel_rfl) (res_tmp (by kernel_rfl) (.nil)))),(none,0),rfl,hs.pick (ts:=[0]) (cs:=[Ck.sl (Ec.int 5 .u8) none 0 ([]:List Int)]) ⟨by exact rfl,trivial⟩ (by decide)⟩)
  replace H := ite_f q25 H
  refine ls_know (c:=false) (dec_f q25) 11 (by kernel_rfl) ?_
  refine ls_on (j:=2) (t:=11) (b:=false) rfl rfl (by kernel_rfl) (by kernel_rfl) ?_
  refine lv (.int .i64 a1) ?_
  refine ls_on (j:=2) (t:=11) (b:=false) rfl rfl (by kernel_rfl) (by kernel_rfl) ?_
  refine lv (.bool (decide (a1 > (8:Int)))) ?_
  refine lv (.bool (decide (a1 > (8:Int)))) ?_
  refine lv (.bool (decide (a1 > (8:Int)))) ?_
  by_cases q26:a1 > (8:Int)
  ·replace H := ite_t q26 H
   refine ls_know (c:=true) (dec_t q26) 15 (by kernel_rfl) ?_
   refine lofx 6 15 false true ?_
   refine lofx 6 15 false true ?_
   refine lofx 6 15 false true ?_
   refine lofx 6 15 false true ?_
   refine lv (.bool true) ?_
   refine ls_end ?_
   refine qn_then ?_
   refine cs_true (by kernel_rfl) ?_
   refine cs_seq ?_
   refine cs_region (l:=[_,_,_]) ?_
   refine lv (.int .u64 (0:Int)) ?_
   refine lv (.slice none 0 0) ?_
   refine lv (.bool false) ?_
   refine ls_end ?_
   refine qn_then ?_
   refine cs_ret' ?_
   refine qr_then ?_
   refine qr_nilrow 0 (Ec.int 5 .u8) ?_
   obtain rfl := Option.some.inj H
   refine qr_res (rs:=[_,_,_]) rfl (fun w' hs=>⟨[.int .u64 (0:Int),.slice none 0 0,.bool false],(res_tmp (by kernel_rfl) (res_tmp (by kernel_rfl) (res_tmp (by kernel_rfl) (.nil)))),(none,0),rfl,hs.pick (ts:=[0]) (cs:=[Ck.sl (Ec.int 5 .u8) none 0 ([]:List Int)]) ⟨by exact rfl,trivial⟩ (by decide)⟩)
  replace H := ite_f q26 H
  refine ls_know (c:=false) (dec_f q26) 15 (by kernel_rfl) ?_
  refine ls_on (j:=6) (t:=15) (b:=false) rfl rfl (by kernel_rfl) (by kernel_rfl) ?_
  refine lv (.slice A0 l0.length c0) ?_
  refine ls_on (j:=6) (t:=15) (b:=false) rfl rfl (by kernel_rfl) (by kernel_rfl) ?_
  refine lv (.int .i64 (l0.length:Int)) ?_
  refine ls_on (j:=6) (t:=15) (b:=false) rfl rfl (by kernel_rfl) (by kernel_rfl) ?_
  refine lv (.int .i64 a1) ?_
  refine ls_on (j:=6) (t:=15) (b:=false) rfl rfl (by kernel_rfl) (by kernel_rfl) ?_
  refine lv (.bool (decide ((l0.length:Int)<a1))) ?_
  refine lv (.bool (decide ((l0.length:Int)<a1))) ?_
  refine ls_end ?_
  refine qn_then ?_
  by_cases q27:(l0.length:Int)<a1
  ·replace H := ite_t q27 H
   refine cs_know (c:=true) (dec_t q27) 20 (by kernel_rfl) ?_
   refine cs_true (by kernel_rfl) ?_
   refine cs_seq ?_
   refine cs_region (l:=[_,_,_]) ?_
   refine lv (.int .u64 (0:Int)) ?_
   refine lv (.slice none 0 0) ?_
   refine lv (.bool false) ?_
   refine ls_end ?_
   refine qn_then ?_
   refine cs_ret' ?_
   refine qr_then ?_
   refine qr_nilrow 0 (Ec.int 5 .u8) ?_
   obtain rfl := Option.some.inj H
   refine qr_res (rs:=[_,_,_]) rfl (fun w' hs=>⟨[.int .u64 (0:Int),.slice none 0 0,.bool false],(res_tmp (by kernel_rfl) (res_tmp (by kernel_rfl) (res_tmp (by kernel_rfl) (.nil)))),(none,0),rfl,hs.pick (ts:=[0]) (cs:=[Ck.sl (Ec.int 5 .u8) none 0 ([]:List Int)]) ⟨by exact rfl,trivial⟩ (by decide)⟩)
  replace H := ite_f q27 H
  refine cs_know (c:=false) (dec_f q27) 20 (by kernel_rfl) ?_
  refine cs_false (by kernel_rfl) ?_
  refine cs_skip' ?_
  refine qn_meet (s0) ⟨_,fr_next (fr_next (rfl) (by kernel_rfl)) (by kernel_rfl),rfl,H⟩ (sub_nil _)
 rintro f S ⟨fr1,rfl,rfl,H⟩
 replace H:(shadowboxref01_Take.lo2 l0 a1 k (0:Int) (IntKind.wrap .i64 (a1 - (1:Int))))=some r := H
 refine cs_seq ?_
 refine cs_region (l:=[_]) ?_
 refine lv (.int .u64 (0:Int)) ?_
 refine ls_end ?_
 refine qn_then ?_
 refine cs_seq ?_
 refine cs_seq ?_
 refine cs_region (l:=[_,_,_]) ?_
 refine lv (.int .i64 a1) ?_
 refine lv (.int .i64 (IntKind.wrap .i64 (a1 - (1:Int)))) ?_
 refine lv (.int .i64 (IntKind.wrap .i64 (a1 - (1:Int)))) ?_
 refine ls_end ?_
 refine qn_then ?_
 refine cs_block ?_
 refine cs_sub (s0) (sub_nil _) ?_
 refine cs_loop (fun kk f S=>∃ (fR:Fr) (x7_2:Int) (x8_2:Int),f=upd (upd (upd (upd fR 0 (.slice A0 l0.length c0)) 1 (.int .i64 a1)) 7 (.int .u64 x7_2)) 8 (.int .i64 x8_2)∧S=s0∧shadowboxref01_Take.lo2 l0 a1 kk x7_2 x8_2=some r) k ?_ ?_ ?_
 ·exact ⟨_,(0:Int),(IntKind.wrap .i64 (a1 - (1:Int))),fr_next (fr_next (fr_next (fr_next (rfl) (by kernel_rfl)) (by kernel_rfl)) (by kernel_rfl)) (by kernel_rfl),rfl,H⟩
 ·rintro f S ⟨fr2,x7_2,x8_2,rfl,rfl,H⟩; cases H
 rintro k2 f S ⟨fr2,x7_2,x8_2,rfl,rfl,H⟩
 replace H:((if x8_2≥(0:Int) then (if 0≤x8_2 then (if x8_2<(l0.length:Int) then lt (IntKind.wrap .u64 ((l0).getD (x8_2).toNat (0:Int))) fun y6=>lt (IntKind.wrap .u64 ((IntKind.wrap .u64 (x7_2*(256:Int)))+y6)) fun y8=>(shadowboxref01_Take.lo2 l0 a1 k2) y8 (IntKind.wrap .i64 (x8_2 - (1:Int))) else none) else none) else (if 0≤a1 then (if a1≤(l0.length:Int) then lt (l0.drop (a1).toNat) fun xl17=>(if (([]:List Int).length+xl17.length)*1≤140737488355328 then some (x7_2,(([]:List Int)++xl17),true) else none) else none) else none)))=some r := H
 refine cs_seq ?_
 refine cs_seq ?_
 refine cs_region (l:=[_,_]) ?_
 refine lv (.int .i64 x8_2) ?_
 refine lv (.bool (decide (x8_2≥(0:Int)))) ?_
 refine ls_end ?_
 refine qn_then ?_
 by_cases q1:x8_2≥(0:Int)
 ·replace H := ite_t q1 H
  refine cs_know (c:=true) (dec_t q1) 24 (by kernel_rfl) ?_
  refine cs_true (by kernel_rfl) ?_
  refine cs_skip' ?_
  refine qn_then ?_
  refine cs_seq ?_
  refine cs_block ?_
  refine cs_region (l:=[_,_,_,_,_,_,_,_,_]) ?_
  refine lv (.int .u64 x7_2) ?_
  refine lv (.int .u64 (IntKind.wrap .u64 (x7_2*(256:Int)))) ?_
  refine lv (.slice A0 l0.length c0) ?_
  refine lv (.int .i64 x8_2) ?_
  obtain ⟨q2,H⟩ := ite_need H
  obtain ⟨q3,H⟩ := ite_need H
  obtain ⟨ad4,hA5⟩ := ido_at (T:=(Ec.int 5 .u8)) (l:=l0) (i:=x8_2) R0 q2 q3
  refine ls_idxv (Ec.int 5 .u8) (A:=A0) (c:=c0) (l:=l0) (k:=.i64) (i:=x8_2) (z:=1) (ad:=ad4) rfl rfl (by kernel_rfl) hA5 rfl (by kernel_rfl) (by kernel_rfl) (by kernel_rfl) (by kernel_rfl) q2 q3 ?_
  refine ls_load (a0:=(ad4.add ((x8_2).toNat*1))) (v:=.int .u8 ((l0).getD (x8_2).toNat (0:Int))) (de:=(TypeDesc.int .u8)) rfl rfl (by kernel_rfl) rfl (by kernel_rfl) (by kernel_rfl) (by kernel_rfl) (fun w hs=>(hs.old R0).at hA5 (em_sub (Ec.int 5 .u8) l0 (i:=(x8_2).toNat) (by have h0:(0:Int)≤x8_2 := q2; have h1:x8_2<(l0.length:Int) := q3; omega))) ?_
  obtain ⟨y6,hy7,H⟩ := lt_some H
  refine lv (.int .u64 (IntKind.wrap .u64 ((l0).getD (x8_2).toNat (0:Int)))) ?_
  refine ls_ren 33 (v:=.int .u64 (IntKind.wrap .u64 ((l0).getD (x8_2).toNat (0:Int)))) (v' := .int .u64 y6) (by kernel_rfl) (by rw [hy7]) ?_
  obtain ⟨y8,hy9,H⟩ := lt_some H
  refine lv (.int .u64 (IntKind.wrap .u64 ((IntKind.wrap .u64 (x7_2*(256:Int)))+y6))) ?_
  refine ls_ren 34 (v:=.int .u64 (IntKind.wrap .u64 ((IntKind.wrap .u64 (x7_2*(256:Int)))+y6))) (v' := .int .u64 y8) (by kernel_rfl) (by rw [hy9]) ?_
  refine lv (.int .u64 y8) ?_
  refine ls_end ?_
  refine qn_block ?_
  refine qn_then ?_
  refine cs_region (l:=[_,_,_]) ?_
  refine lv (.int .i64 x8_2) ?_
  refine lv (.int .i64 (IntKind.wrap .i64 (x8_2 - (1:Int)))) ?_
  refine lv (.int .i64 (IntKind.wrap .i64 (x8_2 - (1:Int)))) ?_
  refine ls_end ?_
  refine qn_again k2 (s0) (Nat.le_refl _) ⟨_,y8,(IntKind.wrap .i64 (x8_2 - (1:Int))),fr_next (fr_next (fr_next (fr_next (rfl) (by kernel_rfl)) (by kernel_rfl)) (by kernel_rfl)) (by kernel_rfl),rfl,H⟩ (sub_nil _)
 replace H := ite_f q1 H
 refine cs_know (c:=false) (dec_f q1) 24 (by kernel_rfl) ?_
 refine cs_false (by kernel_rfl) ?_
 refine cs_exit' ?_
 refine qx_then ?_
 refine qx_then ?_
 refine qx_same ?_
 refine qn_then ?_
 refine cs_seq ?_
 refine cs_region (l:=[_,_,_,_,_,_,_,_,_]) ?_
 refine lv (.int .u64 x7_2) ?_
 refine ls_lit (Ec.int 5 .u8) 0 rfl rfl (by kernel_rfl) ([]:List Int) (by exact of_decide_eq_true (by kernel_rfl)) (fun w=>by kernel_rfl) ?_
 intro g10
 refine lv (.slice A0 l0.length c0) ?_
 refine lv (.int .i64 a1) ?_
 obtain ⟨q11,H⟩ := ite_need H
 obtain ⟨q12,H⟩ := ite_need H
 obtain ⟨xl17,hy18,H⟩ := lt_some H
 have hz20:(a1).toNat≤l0.length := by omega
 have hz21:l0.length≤l0.length := by omega
 obtain ⟨xA13,xc14,he19,xC16,xR15⟩ := cut_at (A:=A0) (c:=c0) (l:=l0) (Ec.int 5 .u8) ((a1).toNat) l0.length hz20 hz21 C0 R0 (m:=xl17) (by rw [← hy18] <;> simp) (z:=1) rfl
 refine ls_cutv (A:=A0) (c:=c0) (m:=l0.length) (z:=1) (e:=5) (a:=(a1).toNat) (b:=l0.length) rfl rfl (by kernel_rfl) rfl (by kernel_rfl) (by kernel_rfl) (by kernel_rfl) (.inr ⟨.i64,by rw [Int.toNat_of_nonneg (by first | assumption | omega)]; kernel_rfl⟩) (.inl ⟨rfl,rfl⟩) hz20 hz21 C0 he19 ?_
 obtain ⟨q22,H⟩ := ite_need H
 refine ls_app (Ec.int 5 .u8) (A:=(some ⟨g10,0,none⟩)) (c:=([]:List Int).length) (B:=xA13) (cb:=xc14) (z:=(Value.int .u8 0)) (l:=([]:List Int)) (m:=xl17) (bytes:=1) 0 rfl rfl (by kernel_rfl) rfl (by kernel_rfl) (by exact rfl) (by kernel_rfl) (fun w hs=>(hs.old xR15)) (by kernel_rfl) (by kernel_rfl) rfl (by decide) q22 ?_
 intro xA23 xc24
 refine lv (.int .u64 x7_2) ?_
 refine lv (.slice xA23 (([]:List Int)++xl17).length xc24) ?_
 refine lv (.bool true) ?_
 refine ls_end ?_
 refine qn_then ?_
 refine cs_ret' ?_
 obtain rfl := Option.some.inj H
 refine qr_res (rs:=[_,_,_]) rfl (fun w' hs=>⟨[.int .u64 x7_2,.slice xA23 (([]:List Int)++xl17).length xc24,.bool true],(res_tmp (by kernel_rfl) (res_tmp (by kernel_rfl) (res_tmp (by kernel_rfl) (.nil)))),(xA23,xc24),rfl,hs.pick (ts:=[0]) (cs:=[Ck.sl (Ec.int 5 .u8) xA23 xc24 (([]:List Int)++xl17)]) ⟨by exact rfl,trivial⟩ (by decide)⟩)
def shadowboxref06_None.lo2 (a0:PT):Nat→Int→Option (Bool)
  | 0,_=>none
  | k2+1,x3_2=>(if x3_2<(32:Int) then (if 0≤x3_2 then lt ((a0.2.2.2.2.1.getD (x3_2).toNat (0:Int))) fun y4=>(if y4=(0:Int) then (shadowboxref06_None.lo2 a0 k2) (IntKind.wrap .i64 (x3_2+(1:Int))) else some false) else none) else some true)
def shadowboxref06_None.jo1 (k:Nat) (a0:PT):Option (Bool) := shadowboxref06_None.lo2 a0 k (0:Int)
def shadowboxref06_None.f (k:Nat) (a0:PT):Option (Bool) :=
  (if a0.1=(0:Int) then (if a0.2.1=(0:Int) then (if a0.2.2.1=(0:Int) then (if a0.2.2.2.1=(0:Int) then (shadowboxref06_None.jo1 k a0) else some false) else some false) else some false) else some false)
theorem shadowboxref06_None.calls (k:Nat) (a0:PT) (r:Bool) (b:Bs) (hs0:St b (stl []) b.w) (H:shadowboxref06_None.f k a0=some r) :
    Calls Try.prog 94 #[.agg ⟨([Value.int .i64 a0.1]++([Value.int .i64 a0.2.1]++([Value.int .i64 a0.2.2.1]++([Value.int .u32 a0.2.2.2.1]++en (Value.int .u8) a0.2.2.2.2.1))))⟩] b.w fun e w'=>∃ x:Unit,e=.returned (.bool r)∧St b (stl []) w' := by
 unfold shadowboxref06_None.f at H
 refine enterb (n:=31) Try.func94 rfl (by kernel_rfl) (by kernel_rfl) hs0 ?_
 refine cs_sub (s0) (sub_nil _) ?_
 refine cs_seq ?_
 refine cs_region (l:=[_,_]) ?_
 refine ls_new rfl rfl (by kernel_rfl) 0 (fun g=>.pointer (some ⟨g,0,none⟩)) (.cells ⟨([Value.int .i64 a0.1]++([Value.int .i64 a0.2.1]++([Value.int .i64 a0.2.2.1]++([Value.int .u32 a0.2.2.2.1]++en (Value.int .u8) a0.2.2.2.2.1))))⟩ 44) (fun w=>by kernel_rfl) ?_
 intro g1
 refine lv (.bool false) ?_
 refine ls_end ?_
 refine qn_then ?_
 refine cs_cut (fun f S=>∃ (fR:Fr),f=upd fR 1 (.pointer (some ⟨g1,0,none⟩))∧S=sput s0 0 (some (Ck.var 44 g1 (([Value.int .i64 a0.1]++([Value.int .i64 a0.2.1]++([Value.int .i64 a0.2.2.1]++([Value.int .u32 a0.2.2.2.1]++en (Value.int .u8) a0.2.2.2.2.1)))))))∧shadowboxref06_None.jo1 k a0=some r) ?_ ?_
 ·skip
  refine cs_seq ?_
  refine cs_region (l:=[_,_,_,_,_,_,_,_,_,_,_,_,_,_,_,_,_,_]) ?_
  refine lv (.pointer (some ⟨g1,(0+0),none⟩)) ?_
  refine ls_load (a0:=⟨g1,(0+0),none⟩) (v:=.int .i64 a0.1) (de:=(TypeDesc.int .i64)) rfl rfl (by kernel_rfl) rfl (by kernel_rfl) (by kernel_rfl) (by kernel_rfl) (fun w hs=>(hs.var (k:=0) (by exact rfl) (Sub4.trans (Sub4.all _) (Sub4.head _ _)))) ?_
  refine lv (.bool (!decide (a0.1=(0:Int)))) ?_
  refine lv (.bool (!decide (a0.1=(0:Int)))) ?_
  by_cases q7:a0.1=(0:Int)
  ·replace H := ite_t q7 H
   refine ls_know (c:=false) (congrArg Bool.not (dec_t q7)) 7 (by kernel_rfl) ?_
   refine ls_on (j:=3) (t:=7) (b:=false) rfl rfl (by kernel_rfl) (by kernel_rfl) ?_
   refine lv (.pointer (some ⟨g1,(0+1),none⟩)) ?_
   refine ls_on (j:=3) (t:=7) (b:=false) rfl rfl (by kernel_rfl) (by kernel_rfl) ?_
   refine ls_load (a0:=⟨g1,(0+1),none⟩) (v:=.int .i64 a0.2.1) (de:=(TypeDesc.int .i64)) rfl rfl (by kernel_rfl) rfl (by kernel_rfl) (by kernel_rfl) (by kernel_rfl) (fun w hs=>(hs.var (k:=0) (by exact rfl) (Sub4.trans (Sub4.all _) (Sub4.skip (n:=1) (len1 _) (Sub4.head _ _))))) ?_
   refine ls_on (j:=3) (t:=7) (b:=false) rfl rfl (by kernel_rfl) (by kernel_rfl) ?_
   refine lv (.bool (!decide (a0.2.1=(0:Int)))) ?_
   refine lv (.bool (!decide (a0.2.1=(0:Int)))) ?_
   refine lv (.bool (!decide (a0.2.1=(0:Int)))) ?_
   by_cases q8:a0.2.1=(0:Int)
   ·replace H := ite_t q8 H
    refine ls_know (c:=false) (congrArg Bool.not (dec_t q8)) 12 (by kernel_rfl) ?_
    refine ls_on (j:=8) (t:=12) (b:=false) rfl rfl (by kernel_rfl) (by kernel_rfl) ?_
    refine lv (.pointer (some ⟨g1,(0+2),none⟩)) ?_
    refine ls_on (j:=8) (t:=12) (b:=false) rfl rfl (by kernel_rfl) (by kernel_rfl) ?_
    refine ls_load (a0:=⟨g1,(0+2),none⟩) (v:=.int .i64 a0.2.2.1) (de:=(TypeDesc.int .i64)) rfl rfl (by kernel_rfl) rfl (by kernel_rfl) (by kernel_rfl) (by kernel_rfl) (fun w hs=>(hs.var (k:=0) (by exact rfl) (Sub4.trans (Sub4.all _) (Sub4.skip (n:=1) (len1 _) (Sub4.skip (n:=1) (len1 _) (Sub4.head _ _)))))) ?_
    refine ls_on (j:=8) (t:=12) (b:=false) rfl rfl (by kernel_rfl) (by kernel_rfl) ?_
    refine lv (.bool (!decide (a0.2.2.1=(0:Int)))) ?_
    refine lv (.bool (!decide (a0.2.2.1=(0:Int)))) ?_
    refine lv (.bool (!decide (a0.2.2.1=(0:Int)))) ?_
    by_cases q9:a0.2.2.1=(0:Int)
    ·replace H := ite_t q9 H
     refine ls_know (c:=false) (congrArg Bool.not (dec_t q9)) 17 (by kernel_rfl) ?_
     refine ls_on (j:=13) (t:=17) (b:=false) rfl rfl (by kernel_rfl) (by kernel_rfl) ?_
     refine lv (.pointer (some ⟨g1,(0+3),none⟩)) ?_
     refine ls_on (j:=13) (t:=17) (b:=false) rfl rfl (by kernel_rfl) (by kernel_rfl) ?_
     refine ls_load (a0:=⟨g1,(0+3),none⟩) (v:=.int .u32 a0.2.2.2.1) (de:=(TypeDesc.int .u32)) rfl rfl (by kernel_rfl) rfl (by kernel_rfl) (by kernel_rfl) (by kernel_rfl) (fun w hs=>(hs.var (k:=0) (by exact rfl) (Sub4.trans (Sub4.all _) (Sub4.skip (n:=1) (len1 _) (Sub4.skip (n:=1) (len1 _) (Sub4.skip (n:=1) (len1 _) (Sub4.head _ _))))))) ?_
     refine ls_on (j:=13) (t:=17) (b:=false) rfl rfl (by kernel_rfl) (by kernel_rfl) ?_
     refine lv (.bool (!decide (a0.2.2.2.1=(0:Int)))) ?_
     refine lv (.bool (!decide (a0.2.2.2.1=(0:Int)))) ?_
     refine ls_end ?_
     refine qn_then ?_
     by_cases q10:a0.2.2.2.1=(0:Int)
     ·replace H := ite_t q10 H
      refine cs_know (c:=false) (congrArg Bool.not (dec_t q10)) 21 (by kernel_rfl) ?_
      refine cs_false (by kernel_rfl) ?_
      refine cs_skip' ?_
      refine qn_meet (sput s0 0 (some (Ck.var 44 g1 (([Value.int .i64 a0.1]++([Value.int .i64 a0.2.1]++([Value.int .i64 a0.2.2.1]++([Value.int .u32 a0.2.2.2.1]++en (Value.int .u8) a0.2.2.2.2.1)))))))) ⟨_,fr_next (rfl) (by kernel_rfl),rfl,H⟩ (sub_put (by exact rfl) (sub_nil _))
     replace H := ite_f q10 H
     refine cs_know (c:=true) (congrArg Bool.not (dec_f q10)) 21 (by kernel_rfl) ?_
     refine cs_true (by kernel_rfl) ?_
     refine cs_seq ?_
     refine cs_region (l:=[_]) ?_
     refine lv (.bool false) ?_
     refine ls_end ?_
     refine qn_then ?_
     refine cs_ret' ?_
     refine qr_then ?_
     obtain rfl := Option.some.inj H
     refine qr_res (rs:=[_]) rfl (fun w' hs=>⟨[.bool false],(res_tmp (by kernel_rfl) (.nil)),(),rfl,hs.pick (ts:=[]) (cs:=[]) trivial (by decide)⟩)
    replace H := ite_f q9 H
    refine ls_know (c:=true) (congrArg Bool.not (dec_f q9)) 17 (by kernel_rfl) ?_
    refine lofx 13 17 false true ?_
    refine lofx 13 17 false true ?_
    refine lofx 13 17 false true ?_
    refine lv (.bool true) ?_
    refine ls_end ?_
    refine qn_then ?_
    refine cs_true (by kernel_rfl) ?_
    refine cs_seq ?_
    refine cs_region (l:=[_]) ?_
    refine lv (.bool false) ?_
    refine ls_end ?_
    refine qn_then ?_
    refine cs_ret' ?_
    refine qr_then ?_
    obtain rfl := Option.some.inj H
    refine qr_res (rs:=[_]) rfl (fun w' hs=>⟨[.bool false],(res_tmp (by kernel_rfl) (.nil)),(),rfl,hs.pick (ts:=[]) (cs:=[]) trivial (by decide)⟩)
   replace H := ite_f q8 H
   refine ls_know (c:=true) (congrArg Bool.not (dec_f q8)) 12 (by kernel_rfl) ?_
   refine lofx 8 12 false true ?_
   refine lofx 8 12 false true ?_
   refine lofx 8 12 false true ?_
   refine lv (.bool true) ?_
   refine lv (.bool true) ?_
   refine lofx 13 17 false true ?_
   refine lofx 13 17 false true ?_
   refine lofx 13 17 false true ?_
   refine lv (.bool true) ?_
   refine ls_end ?_
   refine qn_then ?_
   refine cs_true (by kernel_rfl) ?_
   refine cs_seq ?_
   refine cs_region (l:=[_]) ?_
   refine lv (.bool false) ?_
   refine ls_end ?_
   refine qn_then ?_
   refine cs_ret' ?_
   refine qr_then ?_
   obtain rfl := Option.some.inj H
   refine qr_res (rs:=[_]) rfl (fun w' hs=>⟨[.bool false],(res_tmp (by kernel_rfl) (.nil)),(),rfl,hs.pick (ts:=[]) (cs:=[]) trivial (by decide)⟩)
  replace H := ite_f q7 H
  refine ls_know (c:=true) (congrArg Bool.not (dec_f q7)) 7 (by kernel_rfl) ?_
  refine lofx 3 7 false true ?_
  refine lofx 3 7 false true ?_
  refine lofx 3 7 false true ?_
  refine lv (.bool true) ?_
  refine lv (.bool true) ?_
  refine lofx 8 12 false true ?_
  refine lofx 8 12 false true ?_
  refine lofx 8 12 false true ?_
  refine lv (.bool true) ?_
  refine lv (.bool true) ?_
  refine lofx 13 17 false true ?_
  refine lofx 13 17 false true ?_
  refine lofx 13 17 false true ?_
  refine lv (.bool true) ?_
  refine ls_end ?_
  refine qn_then ?_
  refine cs_true (by kernel_rfl) ?_
  refine cs_seq ?_
  refine cs_region (l:=[_]) ?_
  refine lv (.bool false) ?_
  refine ls_end ?_
  refine qn_then ?_
  refine cs_ret' ?_
  refine qr_then ?_
  obtain rfl := Option.some.inj H
  refine qr_res (rs:=[_]) rfl (fun w' hs=>⟨[.bool false],(res_tmp (by kernel_rfl) (.nil)),(),rfl,hs.pick (ts:=[]) (cs:=[]) trivial (by decide)⟩)
 rintro f S ⟨fr1,rfl,rfl,H⟩
 replace H:(shadowboxref06_None.lo2 a0 k (0:Int))=some r := H
 refine cs_seq ?_
 refine cs_seq ?_
 refine cs_region (l:=[_]) ?_
 refine lv (.int .i64 (0:Int)) ?_
 refine ls_end ?_
 refine qn_then ?_
 refine cs_block ?_
 refine cs_sub (sput s0 0 (some (Ck.var 44 g1 (([Value.int .i64 a0.1]++([Value.int .i64 a0.2.1]++([Value.int .i64 a0.2.2.1]++([Value.int .u32 a0.2.2.2.1]++en (Value.int .u8) a0.2.2.2.2.1)))))))) (sub_put (by exact rfl) (sub_nil _)) ?_
 refine cs_loop (fun kk f S=>∃ (fR:Fr) (x3_2:Int),f=upd (upd fR 1 (.pointer (some ⟨g1,0,none⟩))) 3 (.int .i64 x3_2)∧S=sput s0 0 (some (Ck.var 44 g1 (([Value.int .i64 a0.1]++([Value.int .i64 a0.2.1]++([Value.int .i64 a0.2.2.1]++([Value.int .u32 a0.2.2.2.1]++en (Value.int .u8) a0.2.2.2.2.1)))))))∧shadowboxref06_None.lo2 a0 kk x3_2=some r) k ?_ ?_ ?_
 ·exact ⟨_,(0:Int),fr_next (fr_next (rfl) (by kernel_rfl)) (by kernel_rfl),rfl,H⟩
 ·rintro f S ⟨fr2,x3_2,rfl,rfl,H⟩; cases H
 rintro k2 f S ⟨fr2,x3_2,rfl,rfl,H⟩
 replace H:((if x3_2<(32:Int) then (if 0≤x3_2 then lt ((a0.2.2.2.2.1.getD (x3_2).toNat (0:Int))) fun y4=>(if y4=(0:Int) then (shadowboxref06_None.lo2 a0 k2) (IntKind.wrap .i64 (x3_2+(1:Int))) else some false) else none) else some true))=some r := H
 refine cs_seq ?_
 refine cs_seq ?_
 refine cs_region (l:=[_,_]) ?_
 refine lv (.int .i64 x3_2) ?_
 refine lv (.bool (decide (x3_2<(32:Int)))) ?_
 refine ls_end ?_
 refine qn_then ?_
 by_cases q2:x3_2<(32:Int)
 ·replace H := ite_t q2 H
  refine cs_know (c:=true) (dec_t q2) 23 (by kernel_rfl) ?_
  refine cs_true (by kernel_rfl) ?_
  refine cs_skip' ?_
  refine qn_then ?_
  refine cs_seq ?_
  refine cs_block ?_
  refine cs_seq ?_
  refine cs_region (l:=[_,_,_,_,_]) ?_
  refine lv (.int .i64 x3_2) ?_
  refine lv (.pointer (some ⟨g1,(0+4),none⟩)) ?_
  obtain ⟨q3,H⟩ := ite_need H
  refine ls_idxa1 (g:=g1) (off:=(0+4)) (i:=x3_2) (kk:=.i64) (ln:=32) (e:=5) rfl rfl (by kernel_rfl) rfl (by kernel_rfl) (by kernel_rfl) (by kernel_rfl) (by kernel_rfl) q3 q2 ?_
  obtain ⟨y4,hy5,H⟩ := lt_some H
  refine ls_load (a0:=⟨g1,((0+4)+(x3_2).toNat),none⟩) (v:=.int .u8 (a0.2.2.2.2.1.getD (x3_2).toNat (0:Int))) (de:=(TypeDesc.int .u8)) rfl rfl (by kernel_rfl) rfl (by kernel_rfl) (by kernel_rfl) (by kernel_rfl) (fun w hs=>(hs.var (k:=0) (by exact rfl) (Sub4.trans (Sub4.trans (Sub4.all _) (Sub4.skip (n:=1) (len1 _) (Sub4.skip (n:=1) (len1 _) (Sub4.skip (n:=1) (len1 _) (Sub4.skip (n:=1) (len1 _) (Sub4.all _)))))) (Sub4.one (i:=(x3_2).toNat) (Value.int .u8) a0.2.2.2.2.1 0 (by have := a0.2.2.2.2.2; omega))))) ?_
  refine ls_ren 29 (v:=.int .u8 (a0.2.2.2.2.1.getD (x3_2).toNat (0:Int))) (v' := .int .u8 y4) (by kernel_rfl) (by rw [hy5]) ?_
  refine lv (.bool (!decide (y4=(0:Int)))) ?_
  refine ls_end ?_
  refine qn_then ?_
  by_cases q6:y4=(0:Int)
  ·replace H := ite_t q6 H
   refine cs_know (c:=false) (congrArg Bool.not (dec_t q6)) 30 (by kernel_rfl) ?_
   refine cs_false (by kernel_rfl) ?_
   refine cs_skip' ?_
   refine qn_block ?_
   refine qn_then ?_
   refine cs_region (l:=[_,_,_]) ?_
   refine lv (.int .i64 x3_2) ?_
   refine lv (.int .i64 (IntKind.wrap .i64 (x3_2+(1:Int)))) ?_
   refine lv (.int .i64 (IntKind.wrap .i64 (x3_2+(1:Int)))) ?_
   refine ls_end ?_
   refine qn_again k2 (sput s0 0 (some (Ck.var 44 g1 (([Value.int .i64 a0.1]++([Value.int .i64 a0.2.1]++([Value.int .i64 a0.2.2.1]++([Value.int .u32 a0.2.2.2.1]++en (Value.int .u8) a0.2.2.2.2.1)))))))) (Nat.le_refl _) ⟨_,(IntKind.wrap .i64 (x3_2+(1:Int))),fr_next (fr_next (rfl) (by kernel_rfl)) (by kernel_rfl),rfl,H⟩ (sub_put (by exact rfl) (sub_nil _))
  replace H := ite_f q6 H
  refine cs_know (c:=true) (congrArg Bool.not (dec_f q6)) 30 (by kernel_rfl) ?_
  refine cs_true (by kernel_rfl) ?_
  refine cs_seq ?_
  refine cs_region (l:=[_]) ?_
  refine lv (.bool false) ?_
  refine ls_end ?_
  refine qn_then ?_
  refine cs_ret' ?_
  refine qr_block ?_
  refine qr_then ?_
  refine qr_then ?_
  refine qr_block ?_
  refine qr_then ?_
  obtain rfl := Option.some.inj H
  refine qr_res (rs:=[_]) rfl (fun w' hs=>⟨[.bool false],(res_tmp (by kernel_rfl) (.nil)),(),rfl,hs.pick (ts:=[]) (cs:=[]) trivial (by decide)⟩)
 replace H := ite_f q2 H
 refine cs_know (c:=false) (dec_f q2) 23 (by kernel_rfl) ?_
 refine cs_false (by kernel_rfl) ?_
 refine cs_exit' ?_
 refine qx_then ?_
 refine qx_then ?_
 refine qx_same ?_
 refine qn_then ?_
 refine cs_seq ?_
 refine cs_region (l:=[_]) ?_
 refine lv (.bool true) ?_
 refine ls_end ?_
 refine qn_then ?_
 refine cs_ret' ?_
 obtain rfl := Option.some.inj H
 refine qr_res (rs:=[_]) rfl (fun w' hs=>⟨[.bool true],(res_tmp (by kernel_rfl) (.nil)),(),rfl,hs.pick (ts:=[]) (cs:=[]) trivial (by decide)⟩)
def shadowboxref06_Sectors.f (k:Nat) (a0:PT):Option (Int) :=
  (if a0.2.2.1<(1:Int) then some (0:Int) else (if a0.2.2.1 > (65536:Int) then some (0:Int) else lt (IntKind.wrap .i64 (a0.2.2.1+(511:Int))) fun y4=>lt (IntKind.wrap .i64 (Int.tdiv y4 (512:Int))) fun y6=>some y6))
theorem shadowboxref06_Sectors.calls (k:Nat) (a0:PT) (r:Int) (b:Bs) (hs0:St b (stl []) b.w) (H:shadowboxref06_Sectors.f k a0=some r) :
    Calls Try.prog 103 #[.agg ⟨([Value.int .i64 a0.1]++([Value.int .i64 a0.2.1]++([Value.int .i64 a0.2.2.1]++([Value.int .u32 a0.2.2.2.1]++en (Value.int .u8) a0.2.2.2.2.1))))⟩] b.w fun e w'=>∃ x:Unit,e=.returned (.int .i64 r)∧St b (stl []) w' := by
 unfold shadowboxref06_Sectors.f at H
 refine enterb (n:=15) Try.func103 rfl (by kernel_rfl) (by kernel_rfl) hs0 ?_
 refine cs_sub (s0) (sub_nil _) ?_
 refine cs_seq ?_
 refine cs_region (l:=[_,_]) ?_
 refine ls_new rfl rfl (by kernel_rfl) 0 (fun g=>.pointer (some ⟨g,0,none⟩)) (.cells ⟨([Value.int .i64 a0.1]++([Value.int .i64 a0.2.1]++([Value.int .i64 a0.2.2.1]++([Value.int .u32 a0.2.2.2.1]++en (Value.int .u8) a0.2.2.2.2.1))))⟩ 44) (fun w=>by kernel_rfl) ?_
 intro g1
 refine lv (.int .i64 (0:Int)) ?_
 refine ls_end ?_
 refine qn_then ?_
 refine cs_seq ?_
 refine cs_seq ?_
 refine cs_region (l:=[_,_,_,_,_,_,_,_]) ?_
 refine lv (.pointer (some ⟨g1,(0+2),none⟩)) ?_
 refine ls_load (a0:=⟨g1,(0+2),none⟩) (v:=.int .i64 a0.2.2.1) (de:=(TypeDesc.int .i64)) rfl rfl (by kernel_rfl) rfl (by kernel_rfl) (by kernel_rfl) (by kernel_rfl) (fun w hs=>(hs.var (k:=0) (by exact rfl) (Sub4.trans (Sub4.all _) (Sub4.skip (n:=1) (len1 _) (Sub4.skip (n:=1) (len1 _) (Sub4.head _ _)))))) ?_
 refine lv (.bool (decide (a0.2.2.1<(1:Int)))) ?_
 refine lv (.bool (decide (a0.2.2.1<(1:Int)))) ?_
 by_cases q2:a0.2.2.1<(1:Int)
 ·replace H := ite_t q2 H
  refine ls_know (c:=true) (dec_t q2) 6 (by kernel_rfl) ?_
  refine lofx 3 6 false true ?_
  refine lofx 3 6 false true ?_
  refine lofx 3 6 false true ?_
  refine lv (.bool true) ?_
  refine ls_end ?_
  refine qn_then ?_
  refine cs_true (by kernel_rfl) ?_
  refine cs_seq ?_
  refine cs_region (l:=[_]) ?_
  refine lv (.int .i64 (0:Int)) ?_
  refine ls_end ?_
  refine qn_then ?_
  refine cs_ret' ?_
  refine qr_then ?_
  obtain rfl := Option.some.inj H
  refine qr_res (rs:=[_]) rfl (fun w' hs=>⟨[.int .i64 (0:Int)],(res_tmp (by kernel_rfl) (.nil)),(),rfl,hs.pick (ts:=[]) (cs:=[]) trivial (by decide)⟩)
 replace H := ite_f q2 H
 refine ls_know (c:=false) (dec_f q2) 6 (by kernel_rfl) ?_
 refine ls_on (j:=3) (t:=6) (b:=false) rfl rfl (by kernel_rfl) (by kernel_rfl) ?_
 refine lv (.pointer (some ⟨g1,(0+2),none⟩)) ?_
 refine ls_on (j:=3) (t:=6) (b:=false) rfl rfl (by kernel_rfl) (by kernel_rfl) ?_
 refine ls_load (a0:=⟨g1,(0+2),none⟩) (v:=.int .i64 a0.2.2.1) (de:=(TypeDesc.int .i64)) rfl rfl (by kernel_rfl) rfl (by kernel_rfl) (by kernel_rfl) (by kernel_rfl) (fun w hs=>(hs.var (k:=0) (by exact rfl) (Sub4.trans (Sub4.all _) (Sub4.skip (n:=1) (len1 _) (Sub4.skip (n:=1) (len1 _) (Sub4.head _ _)))))) ?_
 refine ls_on (j:=3) (t:=6) (b:=false) rfl rfl (by kernel_rfl) (by kernel_rfl) ?_
 refine lv (.bool (decide (a0.2.2.1 > (65536:Int)))) ?_
 refine lv (.bool (decide (a0.2.2.1 > (65536:Int)))) ?_
 refine ls_end ?_
 refine qn_then ?_
 by_cases q3:a0.2.2.1 > (65536:Int)
 ·replace H := ite_t q3 H
  refine cs_know (c:=true) (dec_t q3) 10 (by kernel_rfl) ?_
  refine cs_true (by kernel_rfl) ?_
  refine cs_seq ?_
  refine cs_region (l:=[_]) ?_
  refine lv (.int .i64 (0:Int)) ?_
  refine ls_end ?_
  refine qn_then ?_
  refine cs_ret' ?_
  refine qr_then ?_
  obtain rfl := Option.some.inj H
  refine qr_res (rs:=[_]) rfl (fun w' hs=>⟨[.int .i64 (0:Int)],(res_tmp (by kernel_rfl) (.nil)),(),rfl,hs.pick (ts:=[]) (cs:=[]) trivial (by decide)⟩)
 replace H := ite_f q3 H
 refine cs_know (c:=false) (dec_f q3) 10 (by kernel_rfl) ?_
 refine cs_false (by kernel_rfl) ?_
 refine cs_skip' ?_
 refine qn_then ?_
 refine cs_seq ?_
 refine cs_region (l:=[_,_,_,_,_]) ?_
 refine lv (.pointer (some ⟨g1,(0+2),none⟩)) ?_
 refine ls_load (a0:=⟨g1,(0+2),none⟩) (v:=.int .i64 a0.2.2.1) (de:=(TypeDesc.int .i64)) rfl rfl (by kernel_rfl) rfl (by kernel_rfl) (by kernel_rfl) (by kernel_rfl) (fun w hs=>(hs.var (k:=0) (by exact rfl) (Sub4.trans (Sub4.all _) (Sub4.skip (n:=1) (len1 _) (Sub4.skip (n:=1) (len1 _) (Sub4.head _ _)))))) ?_
 obtain ⟨y4,hy5,H⟩ := lt_some H
 refine lv (.int .i64 (IntKind.wrap .i64 (a0.2.2.1+(511:Int)))) ?_
 refine ls_ren 13 (v:=.int .i64 (IntKind.wrap .i64 (a0.2.2.1+(511:Int)))) (v' := .int .i64 y4) (by kernel_rfl) (by rw [hy5]) ?_
 obtain ⟨y6,hy7,H⟩ := lt_some H
 refine lv (.int .i64 (IntKind.wrap .i64 (Int.tdiv y4 (512:Int)))) ?_
 refine ls_ren 14 (v:=.int .i64 (IntKind.wrap .i64 (Int.tdiv y4 (512:Int)))) (v' := .int .i64 y6) (by kernel_rfl) (by rw [hy7]) ?_
 refine lv (.int .i64 y6) ?_
 refine ls_end ?_
 refine qn_then ?_
 refine cs_ret' ?_
 obtain rfl := Option.some.inj H
 refine qr_res (rs:=[_]) rfl (fun w' hs=>⟨[.int .i64 y6],(res_tmp (by kernel_rfl) (.nil)),(),rfl,hs.pick (ts:=[]) (cs:=[]) trivial (by decide)⟩)
def shadowboxref06_Right.tab1:List (List Nat) := [[],[0],[0,1],[0,1,2],[0,1,2,3],[0,1,2,3,4],[0,1,2,3,4,5],[0,1,2,3,4,5,6],[0,1,2,3,4,5,6,7],[0,1,2,3,4,5,6,7,8],[0,1,2,3,4,5,6,7,8,9],[0,1,2,3,4,5,6,7,8,9,10],[0,1,2,3,4,5,6,7,8,9,10,11],[0,1,2,3,4,5,6,7,8,9,10,11,12],[0,1,2,3,4,5,6,7,8,9,10,11,12,13],[0,1,2,3,4,5,6,7,8,9,10,11,12,13,14],[0,1,2,3,4,5,6,7,8,9,10,11,12,13,14,15],[0,1,2,3,4,5,6,7,8,9,10,11,12,13,14,15,16],[0,1,2,3,4,5,6,7,8,9,10,11,12,13,14,15,16,17],[0,1,2,3,4,5,6,7,8,9,10,11,12,13,14,15,16,17,18],[0,1,2,3,4,5,6,7,8,9,10,11,12,13,14,15,16,17,18,19],[0,1,2,3,4,5,6,7,8,9,10,11,12,13,14,15,16,17,18,19,20],[0,1,2,3,4,5,6,7,8,9,10,11,12,13,14,15,16,17,18,19,20,21],[0,1,2,3,4,5,6,7,8,9,10,11,12,13,14,15,16,17,18,19,20,21,22],[0,1,2,3,4,5,6,7,8,9,10,11,12,13,14,15,16,17,18,19,20,21,22,23],[0,1,2,3,4,5,6,7,8,9,10,11,12,13,14,15,16,17,18,19,20,21,22,23,24],[0,1,2,3,4,5,6,7,8,9,10,11,12,13,14,15,16,17,18,19,20,21,22,23,24,25],[0,1,2,3,4,5,6,7,8,9,10,11,12,13,14,15,16,17,18,19,20,21,22,23,24,25,26],[0,1,2,3,4,5,6,7,8,9,10,11,12,13,14,15,16,17,18,19,20,21,22,23,24,25,26,27],[0,1,2,3,4,5,6,7,8,9,10,11,12,13,14,15,16,17,18,19,20,21,22,23,24,25,26,27,28],[0,1,2,3,4,5,6,7,8,9,10,11,12,13,14,15,16,17,18,19,20,21,22,23,24,25,26,27,28,29],[0,1,2,3,4,5,6,7,8,9,10,11,12,13,14,15,16,17,18,19,20,21,22,23,24,25,26,27,28],[0,1,2,3,4,5,6,7,8,9,10,11,12,13,14,15,16,17,18,19,20,21,22,23,24,25,26,27,28,31],[0,1,2,3,4,5,6,7,8,9,10,11,12,13,14,15,16,17,18,19,20,21,22,23,24,25,26,27,28,29,30,31,32],[0,1,2,3,4,5,6,7,8,9,10,11,12,13,14,15,16,17,18,19,20,21,22,23,24,25,26,27,28,29,30,31,32,33],[0,1,2,3,4,5,6,7,8,9,10,11,12,13,14,15,16,17,18,19,20,21,22,23,24,25,26,27,28,29,30,31,32,33,34],[0,1,2,3,4,5,6,7,8,9,10,11,12,13,14,15,16,17,18,19,20,21,22,23,24,25,26,27,28,29,30,31,32,33,34,35]]
def shadowboxref06_Right.f (k:Nat) (a0:PT):Option (Bool) :=
  (if a0.2.1≥(1:Int) then (if a0.2.1≤(1152921504606846976:Int) then (if a0.2.2.1≥(1:Int) then (if a0.2.2.1≤(65536:Int) then (if a0.1≥(2:Int) then (if a0.1≤(8192:Int) then (shadowboxref06_Sectors.f k a0).bind fun t10=>some (decide ((IntKind.wrap .i64 (a0.1+t10))≤(8192:Int))) else some false) else some false) else some false) else some false) else some false) else some false)
theorem shadowboxref06_Right.calls (k:Nat) (a0:PT) (r:Bool) (b:Bs) (hs0:St b (stl []) b.w) (H:shadowboxref06_Right.f k a0=some r) :
    Calls Try.prog 95 #[.agg ⟨([Value.int .i64 a0.1]++([Value.int .i64 a0.2.1]++([Value.int .i64 a0.2.2.1]++([Value.int .u32 a0.2.2.2.1]++en (Value.int .u8) a0.2.2.2.2.1))))⟩] b.w fun e w'=>∃ x:Unit,e=.returned (.bool r)∧St b (stl []) w' := by
 unfold shadowboxref06_Right.f at H
 refine enterb (n:=39) Try.func95 rfl (by kernel_rfl) (by kernel_rfl) hs0 ?_
 refine cs_sub (s0) (sub_nil _) ?_
 refine cs_seq ?_
 refine cs_region (l:=[_,_]) ?_
 refine ls_new rfl rfl (by kernel_rfl) 0 (fun g=>.pointer (some ⟨g,0,none⟩)) (.cells ⟨([Value.int .i64 a0.1]++([Value.int .i64 a0.2.1]++([Value.int .i64 a0.2.2.1]++([Value.int .u32 a0.2.2.2.1]++en (Value.int .u8) a0.2.2.2.2.1))))⟩ 44) (fun w=>by kernel_rfl) ?_
 intro g1
 refine lv (.bool false) ?_
 refine ls_end ?_
 refine qn_then ?_
 refine cs_seq ?_
 obtain ⟨s3_0,hs3_0⟩ := exv (.pointer (some ⟨g1,(0+1),none⟩))
 refine have_opa shadowboxref06_Right.tab1 1 0 (fun sp=>sp 0=s3_0) (fun sp on hA hon=>?_) (fun ops3_0=>?_)
 ·refine ⟨fun o ho vs Rs f' S' w hp hf hx hS hR hs=>?_⟩
  obtain rfl := Option.some.inj ho
  exact opv (.pointer (some ⟨g1,(0+1),none⟩)) hA hs3_0 hon (fr_next (rfl) ((hx 1 (by kernel_rfl)).trans (by kernel_rfl:(_:Value)=.pointer (some ⟨g1,0,none⟩))))
 obtain ⟨s3_1,hs3_1⟩ := exv (.int .i64 a0.2.1)
 refine have_opa shadowboxref06_Right.tab1 1 1 (fun sp=>sp 1=s3_1∧sp 0=s3_0) (fun sp on hA hon=>?_) (fun ops3_1=>?_)
 ·refine ⟨fun o ho vs Rs f' S' w hp hf hx hS hR hs=>?_⟩
  obtain rfl := Option.some.inj ho
  obtain ⟨hv0,hR0⟩ := (spe hA.2 hs3_0 (hp 0 (by kernel_rfl)))
  rw [hA.1,hs3_1]
  refine wn hon ?_
  have hF := fr_next (rfl) ((hf 0 3 (by kernel_rfl) rfl).trans hv0)
  refine ls_fr hF ?_
  refine ls_load (a0:=⟨g1,(0+1),none⟩) (v:=.int .i64 a0.2.1) (de:=(TypeDesc.int .i64)) rfl rfl (by kernel_rfl) rfl (by kernel_rfl) (by kernel_rfl) (by kernel_rfl) (fun w1 hs1=>cell_step hs1.below.bw (hs.var (k:=0) ((hS 0 (by kernel_rfl)).trans (by exact rfl)) (Sub4.trans (Sub4.all _) (Sub4.skip (n:=1) (len1 _) (Sub4.head _ _))))) ?_
  exact ls_fin s0 _ (congrArg (fun z=>upd z 4 _) hF.symm) ⟨rfl,rfl⟩ (sub_nil _)
 obtain ⟨s3_2,hs3_2⟩ := exv (.bool (decide (a0.2.1≥(1:Int))))
 refine have_opa shadowboxref06_Right.tab1 1 2 (fun sp=>sp 2=s3_2∧sp 1=s3_1) (fun sp on hA hon=>?_) (fun ops3_2=>?_)
 ·refine ⟨fun o ho vs Rs f' S' w hp hf hx hS hR hs=>?_⟩
  obtain rfl := Option.some.inj ho
  obtain ⟨hv1,hR1⟩ := (spe hA.2 hs3_1 (hp 1 (by kernel_rfl)))
  exact opv (.bool (decide (a0.2.1≥(1:Int)))) hA.1 hs3_2 hon (fr_next (rfl) ((hf 1 4 (by kernel_rfl) rfl).trans hv1))
 obtain ⟨s3_3,hs3_3⟩ := exv (.bool (decide (a0.2.1≥(1:Int))))
 refine have_opa shadowboxref06_Right.tab1 1 3 (fun sp=>sp 3=s3_3∧sp 2=s3_2) (fun sp on hA hon=>?_) (fun ops3_3=>?_)
 ·refine ⟨fun o ho vs Rs f' S' w hp hf hx hS hR hs=>?_⟩
  obtain rfl := Option.some.inj ho
  obtain ⟨hv2,hR2⟩ := (spe hA.2 hs3_2 (hp 2 (by kernel_rfl)))
  exact opv (.bool (decide (a0.2.1≥(1:Int)))) hA.1 hs3_3 hon (fr_next (rfl) ((hf 2 5 (by kernel_rfl) rfl).trans hv2))
 by_cases q4:a0.2.1≥(1:Int)
 ·replace H := ite_t q4 H
  obtain ⟨s3_4,hs3_4⟩ := exv (.pointer (some ⟨g1,(0+1),none⟩))
  refine have_opa shadowboxref06_Right.tab1 1 4 (fun sp=>sp 4=s3_4∧sp 3=s3_3) (fun sp on hA hon=>?_) (fun ops3_4=>?_)
  ·refine ⟨fun o ho vs Rs f' S' w hp hf hx hS hR hs=>?_⟩
   obtain rfl := Option.some.inj ho
   obtain ⟨hv3,hR3⟩ := (spe hA.2 hs3_3 (hp 3 (by kernel_rfl)))
   rw [hA.1,hs3_4]
   refine And.intro (fun a ha=>(want_is (j:=3) (t:=6) (r:=true) rfl rfl (by kernel_rfl) (((hf 3 6 (by kernel_rfl) rfl).trans hv3).trans (congrArg Value.bool (show (decide (a0.2.1≥(1:Int)))=true from dec_t q4))) rfl a ha).trans hon.symm) (And.intro (fun _=>?_) (fun h=>by rw [hon] at h; cases h))
   have hF := fr_next (fr_next (rfl) ((hx 1 (by kernel_rfl)).trans (by kernel_rfl:(_:Value)=.pointer (some ⟨g1,0,none⟩)))) (((hf 3 6 (by kernel_rfl) rfl).trans hv3).trans (congrArg Value.bool (show (decide (a0.2.1≥(1:Int)))=true from dec_t q4)))
   refine ls_fr hF ?_
   refine lv (.pointer (some ⟨g1,(0+1),none⟩)) ?_
   exact ls_fin s0 _ (congrArg (fun z=>upd z 7 _) hF.symm) ⟨rfl,rfl⟩ (sub_nil _)
  obtain ⟨s3_5,hs3_5⟩ := exv (.int .i64 a0.2.1)
  refine have_opa shadowboxref06_Right.tab1 1 5 (fun sp=>sp 5=s3_5∧sp 3=s3_3∧sp 4=s3_4) (fun sp on hA hon=>?_) (fun ops3_5=>?_)
  ·refine ⟨fun o ho vs Rs f' S' w hp hf hx hS hR hs=>?_⟩
   obtain rfl := Option.some.inj ho
   obtain ⟨hv3,hR3⟩ := (spe hA.2.1 hs3_3 (hp 3 (by kernel_rfl)))
   obtain ⟨hv4,hR4⟩ := (spe hA.2.2 hs3_4 (hp 4 (by kernel_rfl)))
   rw [hA.1,hs3_5]
   refine And.intro (fun a ha=>(want_is (j:=3) (t:=6) (r:=true) rfl rfl (by kernel_rfl) (((hf 3 6 (by kernel_rfl) rfl).trans hv3).trans (congrArg Value.bool (show (decide (a0.2.1≥(1:Int)))=true from dec_t q4))) rfl a ha).trans hon.symm) (And.intro (fun _=>?_) (fun h=>by rw [hon] at h; cases h))
   have hF := fr_next (fr_next (rfl) (((hf 3 6 (by kernel_rfl) rfl).trans hv3).trans (congrArg Value.bool (show (decide (a0.2.1≥(1:Int)))=true from dec_t q4)))) ((hf 4 7 (by kernel_rfl) rfl).trans hv4)
   refine ls_fr hF ?_
   refine ls_load (a0:=⟨g1,(0+1),none⟩) (v:=.int .i64 a0.2.1) (de:=(TypeDesc.int .i64)) rfl rfl (by kernel_rfl) rfl (by kernel_rfl) (by kernel_rfl) (by kernel_rfl) (fun w1 hs1=>cell_step hs1.below.bw (hs.var (k:=0) ((hS 0 (by kernel_rfl)).trans (by exact rfl)) (Sub4.trans (Sub4.all _) (Sub4.skip (n:=1) (len1 _) (Sub4.head _ _))))) ?_
   exact ls_fin s0 _ (congrArg (fun z=>upd z 8 _) hF.symm) ⟨rfl,rfl⟩ (sub_nil _)
  obtain ⟨s3_6,hs3_6⟩ := exv (.bool (decide (a0.2.1≤(1152921504606846976:Int))))
  refine have_opa shadowboxref06_Right.tab1 1 6 (fun sp=>sp 6=s3_6∧sp 3=s3_3∧sp 5=s3_5) (fun sp on hA hon=>?_) (fun ops3_6=>?_)
  ·refine ⟨fun o ho vs Rs f' S' w hp hf hx hS hR hs=>?_⟩
   obtain rfl := Option.some.inj ho
   obtain ⟨hv3,hR3⟩ := (spe hA.2.1 hs3_3 (hp 3 (by kernel_rfl)))
   obtain ⟨hv5,hR5⟩ := (spe hA.2.2 hs3_5 (hp 5 (by kernel_rfl)))
   rw [hA.1,hs3_6]
   refine And.intro (fun a ha=>(want_is (j:=3) (t:=6) (r:=true) rfl rfl (by kernel_rfl) (((hf 3 6 (by kernel_rfl) rfl).trans hv3).trans (congrArg Value.bool (show (decide (a0.2.1≥(1:Int)))=true from dec_t q4))) rfl a ha).trans hon.symm) (And.intro (fun _=>?_) (fun h=>by rw [hon] at h; cases h))
   have hF := fr_next (fr_next (rfl) (((hf 3 6 (by kernel_rfl) rfl).trans hv3).trans (congrArg Value.bool (show (decide (a0.2.1≥(1:Int)))=true from dec_t q4)))) ((hf 5 8 (by kernel_rfl) rfl).trans hv5)
   refine ls_fr hF ?_
   refine lv (.bool (decide (a0.2.1≤(1152921504606846976:Int)))) ?_
   exact ls_fin s0 _ (congrArg (fun z=>upd z 9 _) hF.symm) ⟨rfl,rfl⟩ (sub_nil _)
  obtain ⟨s3_7,hs3_7⟩ := exv (.bool (decide (a0.2.1≤(1152921504606846976:Int))))
  refine have_opa shadowboxref06_Right.tab1 1 7 (fun sp=>sp 7=s3_7∧sp 3=s3_3∧sp 6=s3_6) (fun sp on hA hon=>?_) (fun ops3_7=>?_)
  ·refine ⟨fun o ho vs Rs f' S' w hp hf hx hS hR hs=>?_⟩
   obtain rfl := Option.some.inj ho
   obtain ⟨hv3,hR3⟩ := (spe hA.2.1 hs3_3 (hp 3 (by kernel_rfl)))
   obtain ⟨hv6,hR6⟩ := (spe hA.2.2 hs3_6 (hp 6 (by kernel_rfl)))
   exact opv (.bool (decide (a0.2.1≤(1152921504606846976:Int)))) hA.1 hs3_7 hon (fr_next (fr_next (rfl) (((hf 3 6 (by kernel_rfl) rfl).trans hv3).trans (congrArg Value.bool (show (decide (a0.2.1≥(1:Int)))=true from dec_t q4)))) ((hf 6 9 (by kernel_rfl) rfl).trans hv6))
  obtain ⟨s3_8,hs3_8⟩ := exv (.bool (decide (a0.2.1≤(1152921504606846976:Int))))
  refine have_opa shadowboxref06_Right.tab1 1 8 (fun sp=>sp 8=s3_8∧sp 7=s3_7) (fun sp on hA hon=>?_) (fun ops3_8=>?_)
  ·refine ⟨fun o ho vs Rs f' S' w hp hf hx hS hR hs=>?_⟩
   obtain rfl := Option.some.inj ho
   obtain ⟨hv7,hR7⟩ := (spe hA.2 hs3_7 (hp 7 (by kernel_rfl)))
   exact opv (.bool (decide (a0.2.1≤(1152921504606846976:Int)))) hA.1 hs3_8 hon (fr_next (rfl) ((hf 7 10 (by kernel_rfl) rfl).trans hv7))
  by_cases q5:a0.2.1≤(1152921504606846976:Int)
  ·replace H := ite_t q5 H
   obtain ⟨s3_9,hs3_9⟩ := exv (.pointer (some ⟨g1,(0+2),none⟩))
   refine have_opa shadowboxref06_Right.tab1 1 9 (fun sp=>sp 9=s3_9∧sp 8=s3_8) (fun sp on hA hon=>?_) (fun ops3_9=>?_)
   ·refine ⟨fun o ho vs Rs f' S' w hp hf hx hS hR hs=>?_⟩
    obtain rfl := Option.some.inj ho
    obtain ⟨hv8,hR8⟩ := (spe hA.2 hs3_8 (hp 8 (by kernel_rfl)))
    rw [hA.1,hs3_9]
    refine And.intro (fun a ha=>(want_is (j:=8) (t:=11) (r:=true) rfl rfl (by kernel_rfl) (((hf 8 11 (by kernel_rfl) rfl).trans hv8).trans (congrArg Value.bool (show (decide (a0.2.1≤(1152921504606846976:Int)))=true from dec_t q5))) rfl a ha).trans hon.symm) (And.intro (fun _=>?_) (fun h=>by rw [hon] at h; cases h))
    have hF := fr_next (fr_next (rfl) ((hx 1 (by kernel_rfl)).trans (by kernel_rfl:(_:Value)=.pointer (some ⟨g1,0,none⟩)))) (((hf 8 11 (by kernel_rfl) rfl).trans hv8).trans (congrArg Value.bool (show (decide (a0.2.1≤(1152921504606846976:Int)))=true from dec_t q5)))
    refine ls_fr hF ?_
    refine lv (.pointer (some ⟨g1,(0+2),none⟩)) ?_
    exact ls_fin s0 _ (congrArg (fun z=>upd z 12 _) hF.symm) ⟨rfl,rfl⟩ (sub_nil _)
   obtain ⟨s3_10,hs3_10⟩ := exv (.int .i64 a0.2.2.1)
   refine have_opa shadowboxref06_Right.tab1 1 10 (fun sp=>sp 10=s3_10∧sp 8=s3_8∧sp 9=s3_9) (fun sp on hA hon=>?_) (fun ops3_10=>?_)
   ·refine ⟨fun o ho vs Rs f' S' w hp hf hx hS hR hs=>?_⟩
    obtain rfl := Option.some.inj ho
    obtain ⟨hv8,hR8⟩ := (spe hA.2.1 hs3_8 (hp 8 (by kernel_rfl)))
    obtain ⟨hv9,hR9⟩ := (spe hA.2.2 hs3_9 (hp 9 (by kernel_rfl)))
    rw [hA.1,hs3_10]
    refine And.intro (fun a ha=>(want_is (j:=8) (t:=11) (r:=true) rfl rfl (by kernel_rfl) (((hf 8 11 (by kernel_rfl) rfl).trans hv8).trans (congrArg Value.bool (show (decide (a0.2.1≤(1152921504606846976:Int)))=true from dec_t q5))) rfl a ha).trans hon.symm) (And.intro (fun _=>?_) (fun h=>by rw [hon] at h; cases h))
    have hF := fr_next (fr_next (rfl) (((hf 8 11 (by kernel_rfl) rfl).trans hv8).trans (congrArg Value.bool (show (decide (a0.2.1≤(1152921504606846976:Int)))=true from dec_t q5)))) ((hf 9 12 (by kernel_rfl) rfl).trans hv9)
    refine ls_fr hF ?_
    refine ls_load (a0:=⟨g1,(0+2),none⟩) (v:=.int .i64 a0.2.2.1) (de:=(TypeDesc.int .i64)) rfl rfl (by kernel_rfl) rfl (by kernel_rfl) (by kernel_rfl) (by kernel_rfl) (fun w1 hs1=>cell_step hs1.below.bw (hs.var (k:=0) ((hS 0 (by kernel_rfl)).trans (by exact rfl)) (Sub4.trans (Sub4.all _) (Sub4.skip (n:=1) (len1 _) (Sub4.skip (n:=1) (len1 _) (Sub4.head _ _)))))) ?_
    exact ls_fin s0 _ (congrArg (fun z=>upd z 13 _) hF.symm) ⟨rfl,rfl⟩ (sub_nil _)
   obtain ⟨s3_11,hs3_11⟩ := exv (.bool (decide (a0.2.2.1≥(1:Int))))
   refine have_opa shadowboxref06_Right.tab1 1 11 (fun sp=>sp 11=s3_11∧sp 8=s3_8∧sp 10=s3_10) (fun sp on hA hon=>?_) (fun ops3_11=>?_)
   ·refine ⟨fun o ho vs Rs f' S' w hp hf hx hS hR hs=>?_⟩
    obtain rfl := Option.some.inj ho
    obtain ⟨hv8,hR8⟩ := (spe hA.2.1 hs3_8 (hp 8 (by kernel_rfl)))
    obtain ⟨hv10,hR10⟩ := (spe hA.2.2 hs3_10 (hp 10 (by kernel_rfl)))
    rw [hA.1,hs3_11]
    refine And.intro (fun a ha=>(want_is (j:=8) (t:=11) (r:=true) rfl rfl (by kernel_rfl) (((hf 8 11 (by kernel_rfl) rfl).trans hv8).trans (congrArg Value.bool (show (decide (a0.2.1≤(1152921504606846976:Int)))=true from dec_t q5))) rfl a ha).trans hon.symm) (And.intro (fun _=>?_) (fun h=>by rw [hon] at h; cases h))
    have hF := fr_next (fr_next (rfl) (((hf 8 11 (by kernel_rfl) rfl).trans hv8).trans (congrArg Value.bool (show (decide (a0.2.1≤(1152921504606846976:Int)))=true from dec_t q5)))) ((hf 10 13 (by kernel_rfl) rfl).trans hv10)
    refine ls_fr hF ?_
    refine lv (.bool (decide (a0.2.2.1≥(1:Int)))) ?_
    exact ls_fin s0 _ (congrArg (fun z=>upd z 14 _) hF.symm) ⟨rfl,rfl⟩ (sub_nil _)
   obtain ⟨s3_12,hs3_12⟩ := exv (.bool (decide (a0.2.2.1≥(1:Int))))
   refine have_opa shadowboxref06_Right.tab1 1 12 (fun sp=>sp 12=s3_12∧sp 8=s3_8∧sp 11=s3_11) (fun sp on hA hon=>?_) (fun ops3_12=>?_)
   ·refine ⟨fun o ho vs Rs f' S' w hp hf hx hS hR hs=>?_⟩
    obtain rfl := Option.some.inj ho
    obtain ⟨hv8,hR8⟩ := (spe hA.2.1 hs3_8 (hp 8 (by kernel_rfl)))
    obtain ⟨hv11,hR11⟩ := (spe hA.2.2 hs3_11 (hp 11 (by kernel_rfl)))
    exact opv (.bool (decide (a0.2.2.1≥(1:Int)))) hA.1 hs3_12 hon (fr_next (fr_next (rfl) (((hf 8 11 (by kernel_rfl) rfl).trans hv8).trans (congrArg Value.bool (show (decide (a0.2.1≤(1152921504606846976:Int)))=true from dec_t q5)))) ((hf 11 14 (by kernel_rfl) rfl).trans hv11))
   obtain ⟨s3_13,hs3_13⟩ := exv (.bool (decide (a0.2.2.1≥(1:Int))))
   refine have_opa shadowboxref06_Right.tab1 1 13 (fun sp=>sp 13=s3_13∧sp 12=s3_12) (fun sp on hA hon=>?_) (fun ops3_13=>?_)
   ·refine ⟨fun o ho vs Rs f' S' w hp hf hx hS hR hs=>?_⟩
    obtain rfl := Option.some.inj ho
    obtain ⟨hv12,hR12⟩ := (spe hA.2 hs3_12 (hp 12 (by kernel_rfl)))
    exact opv (.bool (decide (a0.2.2.1≥(1:Int)))) hA.1 hs3_13 hon (fr_next (rfl) ((hf 12 15 (by kernel_rfl) rfl).trans hv12))
   by_cases q6:a0.2.2.1≥(1:Int)
   ·replace H := ite_t q6 H
    obtain ⟨s3_14,hs3_14⟩ := exv (.pointer (some ⟨g1,(0+2),none⟩))
    refine have_opa shadowboxref06_Right.tab1 1 14 (fun sp=>sp 14=s3_14∧sp 13=s3_13) (fun sp on hA hon=>?_) (fun ops3_14=>?_)
    ·refine ⟨fun o ho vs Rs f' S' w hp hf hx hS hR hs=>?_⟩
     obtain rfl := Option.some.inj ho
     obtain ⟨hv13,hR13⟩ := (spe hA.2 hs3_13 (hp 13 (by kernel_rfl)))
     rw [hA.1,hs3_14]
     refine And.intro (fun a ha=>(want_is (j:=13) (t:=16) (r:=true) rfl rfl (by kernel_rfl) (((hf 13 16 (by kernel_rfl) rfl).trans hv13).trans (congrArg Value.bool (show (decide (a0.2.2.1≥(1:Int)))=true from dec_t q6))) rfl a ha).trans hon.symm) (And.intro (fun _=>?_) (fun h=>by rw [hon] at h; cases h))
     have hF := fr_next (fr_next (rfl) ((hx 1 (by kernel_rfl)).trans (by kernel_rfl:(_:Value)=.pointer (some ⟨g1,0,none⟩)))) (((hf 13 16 (by kernel_rfl) rfl).trans hv13).trans (congrArg Value.bool (show (decide (a0.2.2.1≥(1:Int)))=true from dec_t q6)))
     refine ls_fr hF ?_
     refine lv (.pointer (some ⟨g1,(0+2),none⟩)) ?_
     exact ls_fin s0 _ (congrArg (fun z=>upd z 17 _) hF.symm) ⟨rfl,rfl⟩ (sub_nil _)
    obtain ⟨s3_15,hs3_15⟩ := exv (.int .i64 a0.2.2.1)
    refine have_opa shadowboxref06_Right.tab1 1 15 (fun sp=>sp 15=s3_15∧sp 13=s3_13∧sp 14=s3_14) (fun sp on hA hon=>?_) (fun ops3_15=>?_)
    ·refine ⟨fun o ho vs Rs f' S' w hp hf hx hS hR hs=>?_⟩
     obtain rfl := Option.some.inj ho
     obtain ⟨hv13,hR13⟩ := (spe hA.2.1 hs3_13 (hp 13 (by kernel_rfl)))
     obtain ⟨hv14,hR14⟩ := (spe hA.2.2 hs3_14 (hp 14 (by kernel_rfl)))
     rw [hA.1,hs3_15]
     refine And.intro (fun a ha=>(want_is (j:=13) (t:=16) (r:=true) rfl rfl (by kernel_rfl) (((hf 13 16 (by kernel_rfl) rfl).trans hv13).trans (congrArg Value.bool (show (decide (a0.2.2.1≥(1:Int)))=true from dec_t q6))) rfl a ha).trans hon.symm) (And.intro (fun _=>?_) (fun h=>by rw [hon] at h; cases h))
     have hF := fr_next (fr_next (rfl) (((hf 13 16 (by kernel_rfl) rfl).trans hv13).trans (congrArg Value.bool (show (decide (a0.2.2.1≥(1:Int)))=true from dec_t q6)))) ((hf 14 17 (by kernel_rfl) rfl).trans hv14)
     refine ls_fr hF ?_
     refine ls_load (a0:=⟨g1,(0+2),none⟩) (v:=.int .i64 a0.2.2.1) (de:=(TypeDesc.int .i64)) rfl rfl (by kernel_rfl) rfl (by kernel_rfl) (by kernel_rfl) (by kernel_rfl) (fun w1 hs1=>cell_step hs1.below.bw (hs.var (k:=0) ((hS 0 (by kernel_rfl)).trans (by exact rfl)) (Sub4.trans (Sub4.all _) (Sub4.skip (n:=1) (len1 _) (Sub4.skip (n:=1) (len1 _) (Sub4.head _ _)))))) ?_
     exact ls_fin s0 _ (congrArg (fun z=>upd z 18 _) hF.symm) ⟨rfl,rfl⟩ (sub_nil _)
    obtain ⟨s3_16,hs3_16⟩ := exv (.bool (decide (a0.2.2.1≤(65536:Int))))
    refine have_opa shadowboxref06_Right.tab1 1 16 (fun sp=>sp 16=s3_16∧sp 13=s3_13∧sp 15=s3_15) (fun sp on hA hon=>?_) (fun ops3_16=>?_)
    ·refine ⟨fun o ho vs Rs f' S' w hp hf hx hS hR hs=>?_⟩
     obtain rfl := Option.some.inj ho
     obtain ⟨hv13,hR13⟩ := (spe hA.2.1 hs3_13 (hp 13 (by kernel_rfl)))
     obtain ⟨hv15,hR15⟩ := (spe hA.2.2 hs3_15 (hp 15 (by kernel_rfl)))
     rw [hA.1,hs3_16]
     refine And.intro (fun a ha=>(want_is (j:=13) (t:=16) (r:=true) rfl rfl (by kernel_rfl) (((hf 13 16 (by kernel_rfl) rfl).trans hv13).trans (congrArg Value.bool (show (decide (a0.2.2.1≥(1:Int)))=true from dec_t q6))) rfl a ha).trans hon.symm) (And.intro (fun _=>?_) (fun h=>by rw [hon] at h; cases h))
     have hF := fr_next (fr_next (rfl) (((hf 13 16 (by kernel_rfl) rfl).trans hv13).trans (congrArg Value.bool (show (decide (a0.2.2.1≥(1:Int)))=true from dec_t q6)))) ((hf 15 18 (by kernel_rfl) rfl).trans hv15)
     refine ls_fr hF ?_
     refine lv (.bool (decide (a0.2.2.1≤(65536:Int)))) ?_
     exact ls_fin s0 _ (congrArg (fun z=>upd z 19 _) hF.symm) ⟨rfl,rfl⟩ (sub_nil _)
    obtain ⟨s3_17,hs3_17⟩ := exv (.bool (decide (a0.2.2.1≤(65536:Int))))
    refine have_opa shadowboxref06_Right.tab1 1 17 (fun sp=>sp 17=s3_17∧sp 13=s3_13∧sp 16=s3_16) (fun sp on hA hon=>?_) (fun ops3_17=>?_)
    ·refine ⟨fun o ho vs Rs f' S' w hp hf hx hS hR hs=>?_⟩
     obtain rfl := Option.some.inj ho
     obtain ⟨hv13,hR13⟩ := (spe hA.2.1 hs3_13 (hp 13 (by kernel_rfl)))
     obtain ⟨hv16,hR16⟩ := (spe hA.2.2 hs3_16 (hp 16 (by kernel_rfl)))
     exact opv (.bool (decide (a0.2.2.1≤(65536:Int)))) hA.1 hs3_17 hon (fr_next (fr_next (rfl) (((hf 13 16 (by kernel_rfl) rfl).trans hv13).trans (congrArg Value.bool (show (decide (a0.2.2.1≥(1:Int)))=true from dec_t q6)))) ((hf 16 19 (by kernel_rfl) rfl).trans hv16))
    obtain ⟨s3_18,hs3_18⟩ := exv (.bool (decide (a0.2.2.1≤(65536:Int))))
    refine have_opa shadowboxref06_Right.tab1 1 18 (fun sp=>sp 18=s3_18∧sp 17=s3_17) (fun sp on hA hon=>?_) (fun ops3_18=>?_)
    ·refine ⟨fun o ho vs Rs f' S' w hp hf hx hS hR hs=>?_⟩
     obtain rfl := Option.some.inj ho
     obtain ⟨hv17,hR17⟩ := (spe hA.2 hs3_17 (hp 17 (by kernel_rfl)))
     exact opv (.bool (decide (a0.2.2.1≤(65536:Int)))) hA.1 hs3_18 hon (fr_next (rfl) ((hf 17 20 (by kernel_rfl) rfl).trans hv17))
    by_cases q7:a0.2.2.1≤(65536:Int)
    ·replace H := ite_t q7 H
     obtain ⟨s3_19,hs3_19⟩ := exv (.pointer (some ⟨g1,(0+0),none⟩))
     refine have_opa shadowboxref06_Right.tab1 1 19 (fun sp=>sp 19=s3_19∧sp 18=s3_18) (fun sp on hA hon=>?_) (fun ops3_19=>?_)
     ·refine ⟨fun o ho vs Rs f' S' w hp hf hx hS hR hs=>?_⟩
      obtain rfl := Option.some.inj ho
      obtain ⟨hv18,hR18⟩ := (spe hA.2 hs3_18 (hp 18 (by kernel_rfl)))
      rw [hA.1,hs3_19]
      refine And.intro (fun a ha=>(want_is (j:=18) (t:=21) (r:=true) rfl rfl (by kernel_rfl) (((hf 18 21 (by kernel_rfl) rfl).trans hv18).trans (congrArg Value.bool (show (decide (a0.2.2.1≤(65536:Int)))=true from dec_t q7))) rfl a ha).trans hon.symm) (And.intro (fun _=>?_) (fun h=>by rw [hon] at h; cases h))
      have hF := fr_next (fr_next (rfl) ((hx 1 (by kernel_rfl)).trans (by kernel_rfl:(_:Value)=.pointer (some ⟨g1,0,none⟩)))) (((hf 18 21 (by kernel_rfl) rfl).trans hv18).trans (congrArg Value.bool (show (decide (a0.2.2.1≤(65536:Int)))=true from dec_t q7)))
      refine ls_fr hF ?_
      refine lv (.pointer (some ⟨g1,(0+0),none⟩)) ?_
      exact ls_fin s0 _ (congrArg (fun z=>upd z 22 _) hF.symm) ⟨rfl,rfl⟩ (sub_nil _)
     obtain ⟨s3_20,hs3_20⟩ := exv (.int .i64 a0.1)
     refine have_opa shadowboxref06_Right.tab1 1 20 (fun sp=>sp 20=s3_20∧sp 18=s3_18∧sp 19=s3_19) (fun sp on hA hon=>?_) (fun ops3_20=>?_)
     ·refine ⟨fun o ho vs Rs f' S' w hp hf hx hS hR hs=>?_⟩
      obtain rfl := Option.some.inj ho
      obtain ⟨hv18,hR18⟩ := (spe hA.2.1 hs3_18 (hp 18 (by kernel_rfl)))
      obtain ⟨hv19,hR19⟩ := (spe hA.2.2 hs3_19 (hp 19 (by kernel_rfl)))
      rw [hA.1,hs3_20]
      refine And.intro (fun a ha=>(want_is (j:=18) (t:=21) (r:=true) rfl rfl (by kernel_rfl) (((hf 18 21 (by kernel_rfl) rfl).trans hv18).trans (congrArg Value.bool (show (decide (a0.2.2.1≤(65536:Int)))=true from dec_t q7))) rfl a ha).trans hon.symm) (And.intro (fun _=>?_) (fun h=>by rw [hon] at h; cases h))
      have hF := fr_next (fr_next (rfl) (((hf 18 21 (by kernel_rfl) rfl).trans hv18).trans (congrArg Value.bool (show (decide (a0.2.2.1≤(65536:Int)))=true from dec_t q7)))) ((hf 19 22 (by kernel_rfl) rfl).trans hv19)
      refine ls_fr hF ?_
      refine ls_load (a0:=⟨g1,(0+0),none⟩) (v:=.int .i64 a0.1) (de:=(TypeDesc.int .i64)) rfl rfl (by kernel_rfl) rfl (by kernel_rfl) (by kernel_rfl) (by kernel_rfl) (fun w1 hs1=>cell_step hs1.below.bw (hs.var (k:=0) ((hS 0 (by kernel_rfl)).trans (by exact rfl)) (Sub4.trans (Sub4.all _) (Sub4.head _ _)))) ?_
      exact ls_fin s0 _ (congrArg (fun z=>upd z 23 _) hF.symm) ⟨rfl,rfl⟩ (sub_nil _)
     obtain ⟨s3_21,hs3_21⟩ := exv (.bool (decide (a0.1≥(2:Int))))
     refine have_opa shadowboxref06_Right.tab1 1 21 (fun sp=>sp 21=s3_21∧sp 18=s3_18∧sp 20=s3_20) (fun sp on hA hon=>?_) (fun ops3_21=>?_)
     ·refine ⟨fun o ho vs Rs f' S' w hp hf hx hS hR hs=>?_⟩
      obtain rfl := Option.some.inj ho
      obtain ⟨hv18,hR18⟩ := (spe hA.2.1 hs3_18 (hp 18 (by kernel_rfl)))
      obtain ⟨hv20,hR20⟩ := (spe hA.2.2 hs3_20 (hp 20 (by kernel_rfl)))
      rw [hA.1,hs3_21]
      refine And.intro (fun a ha=>(want_is (j:=18) (t:=21) (r:=true) rfl rfl (by kernel_rfl) (((hf 18 21 (by kernel_rfl) rfl).trans hv18).trans (congrArg Value.bool (show (decide (a0.2.2.1≤(65536:Int)))=true from dec_t q7))) rfl a ha).trans hon.symm) (And.intro (fun _=>?_) (fun h=>by rw [hon] at h; cases h))
      have hF := fr_next (fr_next (rfl) (((hf 18 21 (by kernel_rfl) rfl).trans hv18).trans (congrArg Value.bool (show (decide (a0.2.2.1≤(65536:Int)))=true from dec_t q7)))) ((hf 20 23 (by kernel_rfl) rfl).trans hv20)
      refine ls_fr hF ?_
      refine lv (.bool (decide (a0.1≥(2:Int)))) ?_
      exact ls_fin s0 _ (congrArg (fun z=>upd z 24 _) hF.symm) ⟨rfl,rfl⟩ (sub_nil _)
     obtain ⟨s3_22,hs3_22⟩ := exv (.bool (decide (a0.1≥(2:Int))))
     refine have_opa shadowboxref06_Right.tab1 1 22 (fun sp=>sp 22=s3_22∧sp 18=s3_18∧sp 21=s3_21) (fun sp on hA hon=>?_) (fun ops3_22=>?_)
     ·refine ⟨fun o ho vs Rs f' S' w hp hf hx hS hR hs=>?_⟩
      obtain rfl := Option.some.inj ho
      obtain ⟨hv18,hR18⟩ := (spe hA.2.1 hs3_18 (hp 18 (by kernel_rfl)))
      obtain ⟨hv21,hR21⟩ := (spe hA.2.2 hs3_21 (hp 21 (by kernel_rfl)))
      exact opv (.bool (decide (a0.1≥(2:Int)))) hA.1 hs3_22 hon (fr_next (fr_next (rfl) (((hf 18 21 (by kernel_rfl) rfl).trans hv18).trans (congrArg Value.bool (show (decide (a0.2.2.1≤(65536:Int)))=true from dec_t q7)))) ((hf 21 24 (by kernel_rfl) rfl).trans hv21))
     obtain ⟨s3_23,hs3_23⟩ := exv (.bool (decide (a0.1≥(2:Int))))
     refine have_opa shadowboxref06_Right.tab1 1 23 (fun sp=>sp 23=s3_23∧sp 22=s3_22) (fun sp on hA hon=>?_) (fun ops3_23=>?_)
     ·refine ⟨fun o ho vs Rs f' S' w hp hf hx hS hR hs=>?_⟩
      obtain rfl := Option.some.inj ho
      obtain ⟨hv22,hR22⟩ := (spe hA.2 hs3_22 (hp 22 (by kernel_rfl)))
      exact opv (.bool (decide (a0.1≥(2:Int)))) hA.1 hs3_23 hon (fr_next (rfl) ((hf 22 25 (by kernel_rfl) rfl).trans hv22))
     by_cases q8:a0.1≥(2:Int)
     ·replace H := ite_t q8 H
      obtain ⟨s3_24,hs3_24⟩ := exv (.pointer (some ⟨g1,(0+0),none⟩))
      refine have_opa shadowboxref06_Right.tab1 1 24 (fun sp=>sp 24=s3_24∧sp 23=s3_23) (fun sp on hA hon=>?_) (fun ops3_24=>?_)
      ·refine ⟨fun o ho vs Rs f' S' w hp hf hx hS hR hs=>?_⟩
       obtain rfl := Option.some.inj ho
       obtain ⟨hv23,hR23⟩ := (spe hA.2 hs3_23 (hp 23 (by kernel_rfl)))
       rw [hA.1,hs3_24]
       refine And.intro (fun a ha=>(want_is (j:=23) (t:=26) (r:=true) rfl rfl (by kernel_rfl) (((hf 23 26 (by kernel_rfl) rfl).trans hv23).trans (congrArg Value.bool (show (decide (a0.1≥(2:Int)))=true from dec_t q8))) rfl a ha).trans hon.symm) (And.intro (fun _=>?_) (fun h=>by rw [hon] at h; cases h))
       have hF := fr_next (fr_next (rfl) ((hx 1 (by kernel_rfl)).trans (by kernel_rfl:(_:Value)=.pointer (some ⟨g1,0,none⟩)))) (((hf 23 26 (by kernel_rfl) rfl).trans hv23).trans (congrArg Value.bool (show (decide (a0.1≥(2:Int)))=true from dec_t q8)))
       refine ls_fr hF ?_
       refine lv (.pointer (some ⟨g1,(0+0),none⟩)) ?_
       exact ls_fin s0 _ (congrArg (fun z=>upd z 27 _) hF.symm) ⟨rfl,rfl⟩ (sub_nil _)
      obtain ⟨s3_25,hs3_25⟩ := exv (.int .i64 a0.1)
      refine have_opa shadowboxref06_Right.tab1 1 25 (fun sp=>sp 25=s3_25∧sp 23=s3_23∧sp 24=s3_24) (fun sp on hA hon=>?_) (fun ops3_25=>?_)
      ·refine ⟨fun o ho vs Rs f' S' w hp hf hx hS hR hs=>?_⟩
       obtain rfl := Option.some.inj ho
       obtain ⟨hv23,hR23⟩ := (spe hA.2.1 hs3_23 (hp 23 (by kernel_rfl)))
       obtain ⟨hv24,hR24⟩ := (spe hA.2.2 hs3_24 (hp 24 (by kernel_rfl)))
       rw [hA.1,hs3_25]
       refine And.intro (fun a ha=>(want_is (j:=23) (t:=26) (r:=true) rfl rfl (by kernel_rfl) (((hf 23 26 (by kernel_rfl) rfl).trans hv23).trans (congrArg Value.bool (show (decide (a0.1≥(2:Int)))=true from dec_t q8))) rfl a ha).trans hon.symm) (And.intro (fun _=>?_) (fun h=>by rw [hon] at h; cases h))
       have hF := fr_next (fr_next (rfl) (((hf 23 26 (by kernel_rfl) rfl).trans hv23).trans (congrArg Value.bool (show (decide (a0.1≥(2:Int)))=true from dec_t q8)))) ((hf 24 27 (by kernel_rfl) rfl).trans hv24)
       refine ls_fr hF ?_
       refine ls_load (a0:=⟨g1,(0+0),none⟩) (v:=.int .i64 a0.1) (de:=(TypeDesc.int .i64)) rfl rfl (by kernel_rfl) rfl (by kernel_rfl) (by kernel_rfl) (by kernel_rfl) (fun w1 hs1=>cell_step hs1.below.bw (hs.var (k:=0) ((hS 0 (by kernel_rfl)).trans (by exact rfl)) (Sub4.trans (Sub4.all _) (Sub4.head _ _)))) ?_
       exact ls_fin s0 _ (congrArg (fun z=>upd z 28 _) hF.symm) ⟨rfl,rfl⟩ (sub_nil _)
      obtain ⟨s3_26,hs3_26⟩ := exv (.bool (decide (a0.1≤(8192:Int))))
      refine have_opa shadowboxref06_Right.tab1 1 26 (fun sp=>sp 26=s3_26∧sp 23=s3_23∧sp 25=s3_25) (fun sp on hA hon=>?_) (fun ops3_26=>?_)
      ·refine ⟨fun o ho vs Rs f' S' w hp hf hx hS hR hs=>?_⟩
       obtain rfl := Option.some.inj ho
       obtain ⟨hv23,hR23⟩ := (spe hA.2.1 hs3_23 (hp 23 (by kernel_rfl)))
       obtain ⟨hv25,hR25⟩ := (spe hA.2.2 hs3_25 (hp 25 (by kernel_rfl)))
       rw [hA.1,hs3_26]
       refine And.intro (fun a ha=>(want_is (j:=23) (t:=26) (r:=true) rfl rfl (by kernel_rfl) (((hf 23 26 (by kernel_rfl) rfl).trans hv23).trans (congrArg Value.bool (show (decide (a0.1≥(2:Int)))=true from dec_t q8))) rfl a ha).trans hon.symm) (And.intro (fun _=>?_) (fun h=>by rw [hon] at h; cases h))
       have hF := fr_next (fr_next (rfl) (((hf 23 26 (by kernel_rfl) rfl).trans hv23).trans (congrArg Value.bool (show (decide (a0.1≥(2:Int)))=true from dec_t q8)))) ((hf 25 28 (by kernel_rfl) rfl).trans hv25)
       refine ls_fr hF ?_
       refine lv (.bool (decide (a0.1≤(8192:Int)))) ?_
       exact ls_fin s0 _ (congrArg (fun z=>upd z 29 _) hF.symm) ⟨rfl,rfl⟩ (sub_nil _)
      obtain ⟨s3_27,hs3_27⟩ := exv (.bool (decide (a0.1≤(8192:Int))))
      refine have_opa shadowboxref06_Right.tab1 1 27 (fun sp=>sp 27=s3_27∧sp 23=s3_23∧sp 26=s3_26) (fun sp on hA hon=>?_) (fun ops3_27=>?_)
      ·refine ⟨fun o ho vs Rs f' S' w hp hf hx hS hR hs=>?_⟩
       obtain rfl := Option.some.inj ho
       obtain ⟨hv23,hR23⟩ := (spe hA.2.1 hs3_23 (hp 23 (by kernel_rfl)))
       obtain ⟨hv26,hR26⟩ := (spe hA.2.2 hs3_26 (hp 26 (by kernel_rfl)))
       exact opv (.bool (decide (a0.1≤(8192:Int)))) hA.1 hs3_27 hon (fr_next (fr_next (rfl) (((hf 23 26 (by kernel_rfl) rfl).trans hv23).trans (congrArg Value.bool (show (decide (a0.1≥(2:Int)))=true from dec_t q8)))) ((hf 26 29 (by kernel_rfl) rfl).trans hv26))
      obtain ⟨s3_28,hs3_28⟩ := exv (.bool (decide (a0.1≤(8192:Int))))
      refine have_opa shadowboxref06_Right.tab1 1 28 (fun sp=>sp 28=s3_28∧sp 27=s3_27) (fun sp on hA hon=>?_) (fun ops3_28=>?_)
      ·refine ⟨fun o ho vs Rs f' S' w hp hf hx hS hR hs=>?_⟩
       obtain rfl := Option.some.inj ho
       obtain ⟨hv27,hR27⟩ := (spe hA.2 hs3_27 (hp 27 (by kernel_rfl)))
       exact opv (.bool (decide (a0.1≤(8192:Int)))) hA.1 hs3_28 hon (fr_next (rfl) ((hf 27 30 (by kernel_rfl) rfl).trans hv27))
      by_cases q9:a0.1≤(8192:Int)
      ·replace H := ite_t q9 H
       obtain ⟨s3_29,hs3_29⟩ := exv (.pointer (some ⟨g1,(0+0),none⟩))
       refine have_opa shadowboxref06_Right.tab1 1 29 (fun sp=>sp 29=s3_29∧sp 28=s3_28) (fun sp on hA hon=>?_) (fun ops3_29=>?_)
       ·refine ⟨fun o ho vs Rs f' S' w hp hf hx hS hR hs=>?_⟩
        obtain rfl := Option.some.inj ho
        obtain ⟨hv28,hR28⟩ := (spe hA.2 hs3_28 (hp 28 (by kernel_rfl)))
        rw [hA.1,hs3_29]
        refine And.intro (fun a ha=>(want_is (j:=28) (t:=31) (r:=true) rfl rfl (by kernel_rfl) (((hf 28 31 (by kernel_rfl) rfl).trans hv28).trans (congrArg Value.bool (show (decide (a0.1≤(8192:Int)))=true from dec_t q9))) rfl a ha).trans hon.symm) (And.intro (fun _=>?_) (fun h=>by rw [hon] at h; cases h))
        have hF := fr_next (fr_next (rfl) ((hx 1 (by kernel_rfl)).trans (by kernel_rfl:(_:Value)=.pointer (some ⟨g1,0,none⟩)))) (((hf 28 31 (by kernel_rfl) rfl).trans hv28).trans (congrArg Value.bool (show (decide (a0.1≤(8192:Int)))=true from dec_t q9)))
        refine ls_fr hF ?_
        refine lv (.pointer (some ⟨g1,(0+0),none⟩)) ?_
        exact ls_fin s0 _ (congrArg (fun z=>upd z 32 _) hF.symm) ⟨rfl,rfl⟩ (sub_nil _)
       obtain ⟨s3_30,hs3_30⟩ := exv (.int .i64 a0.1)
       refine have_opa shadowboxref06_Right.tab1 1 30 (fun sp=>sp 30=s3_30∧sp 28=s3_28∧sp 29=s3_29) (fun sp on hA hon=>?_) (fun ops3_30=>?_)
       ·refine ⟨fun o ho vs Rs f' S' w hp hf hx hS hR hs=>?_⟩
        obtain rfl := Option.some.inj ho
        obtain ⟨hv28,hR28⟩ := (spe hA.2.1 hs3_28 (hp 28 (by kernel_rfl)))
        obtain ⟨hv29,hR29⟩ := (spe hA.2.2 hs3_29 (hp 29 (by kernel_rfl)))
        rw [hA.1,hs3_30]
        refine And.intro (fun a ha=>(want_is (j:=28) (t:=31) (r:=true) rfl rfl (by kernel_rfl) (((hf 28 31 (by kernel_rfl) rfl).trans hv28).trans (congrArg Value.bool (show (decide (a0.1≤(8192:Int)))=true from dec_t q9))) rfl a ha).trans hon.symm) (And.intro (fun _=>?_) (fun h=>by rw [hon] at h; cases h))
        have hF := fr_next (fr_next (rfl) (((hf 28 31 (by kernel_rfl) rfl).trans hv28).trans (congrArg Value.bool (show (decide (a0.1≤(8192:Int)))=true from dec_t q9)))) ((hf 29 32 (by kernel_rfl) rfl).trans hv29)
        refine ls_fr hF ?_
        refine ls_load (a0:=⟨g1,(0+0),none⟩) (v:=.int .i64 a0.1) (de:=(TypeDesc.int .i64)) rfl rfl (by kernel_rfl) rfl (by kernel_rfl) (by kernel_rfl) (by kernel_rfl) (fun w1 hs1=>cell_step hs1.below.bw (hs.var (k:=0) ((hS 0 (by kernel_rfl)).trans (by exact rfl)) (Sub4.trans (Sub4.all _) (Sub4.head _ _)))) ?_
        exact ls_fin s0 _ (congrArg (fun z=>upd z 33 _) hF.symm) ⟨rfl,rfl⟩ (sub_nil _)
       obtain ⟨s3_31,hs3_31⟩ := exv (.agg ⟨([Value.int .i64 a0.1]++([Value.int .i64 a0.2.1]++([Value.int .i64 a0.2.2.1]++([Value.int .u32 a0.2.2.2.1]++en (Value.int .u8) a0.2.2.2.2.1))))⟩)
       refine have_opa shadowboxref06_Right.tab1 1 31 (fun sp=>sp 31=s3_31∧sp 28=s3_28) (fun sp on hA hon=>?_) (fun ops3_31=>?_)
       ·refine ⟨fun o ho vs Rs f' S' w hp hf hx hS hR hs=>?_⟩
        obtain rfl := Option.some.inj ho
        obtain ⟨hv28,hR28⟩ := (spe hA.2 hs3_28 (hp 28 (by kernel_rfl)))
        rw [hA.1,hs3_31]
        refine And.intro (fun a ha=>(want_is (j:=28) (t:=31) (r:=true) rfl rfl (by kernel_rfl) (((hf 28 31 (by kernel_rfl) rfl).trans hv28).trans (congrArg Value.bool (show (decide (a0.1≤(8192:Int)))=true from dec_t q9))) rfl a ha).trans hon.symm) (And.intro (fun _=>?_) (fun h=>by rw [hon] at h; cases h))
        have hF := fr_next (fr_next (rfl) ((hx 1 (by kernel_rfl)).trans (by kernel_rfl:(_:Value)=.pointer (some ⟨g1,0,none⟩)))) (((hf 28 31 (by kernel_rfl) rfl).trans hv28).trans (congrArg Value.bool (show (decide (a0.1≤(8192:Int)))=true from dec_t q9)))
        refine ls_fr hF ?_
        refine ls_loadagg (a:=⟨g1,0,none⟩) (sub:=([Value.int .i64 a0.1]++([Value.int .i64 a0.2.1]++([Value.int .i64 a0.2.2.1]++([Value.int .u32 a0.2.2.2.1]++en (Value.int .u8) a0.2.2.2.2.1))))) rfl rfl (by kernel_rfl) rfl (by kernel_rfl) (by kernel_rfl) (by kernel_rfl) (len_app (len1 _) (len_app (len1 _) (len_app (len1 _) (len_app (len1 _) (len_en _ a0.2.2.2.2))))) (fun w1 hs1=>Rd.step (hs.vars (k:=0) ((hS 0 (by kernel_rfl)).trans (by exact rfl)) (Sub4.all _)) hs1.below.bw) ?_
        exact ls_fin s0 _ (congrArg (fun z=>upd z 34 _) hF.symm) ⟨rfl,rfl⟩ (sub_nil _)
       obtain ⟨t10,hc11,H⟩ := bind_some H
       obtain ⟨s3_32,hs3_32⟩:∃ z:Value→Sto→Prop,z=(fun v R=>∃ x12:Unit,v=.int .i64 t10∧R=stl []) := ⟨_,rfl⟩
       refine have_opa shadowboxref06_Right.tab1 1 32 (fun sp=>sp 32=s3_32∧sp 28=s3_28∧sp 31=s3_31) (fun sp on hA hon=>?_) (fun ops3_32=>?_)
       ·refine ⟨fun o ho vs Rs f' S' w hp hf hx hS hR hs=>?_⟩
        obtain rfl := Option.some.inj ho
        obtain ⟨hv28,hR28⟩ := (spe hA.2.1 hs3_28 (hp 28 (by kernel_rfl)))
        obtain ⟨hv31,hR31⟩ := (spe hA.2.2 hs3_31 (hp 31 (by kernel_rfl)))
        rw [hA.1,hs3_32]
        refine And.intro (fun a ha=>(want_is (j:=28) (t:=31) (r:=true) rfl rfl (by kernel_rfl) (((hf 28 31 (by kernel_rfl) rfl).trans hv28).trans (congrArg Value.bool (show (decide (a0.1≤(8192:Int)))=true from dec_t q9))) rfl a ha).trans hon.symm) (And.intro (fun _=>?_) (fun h=>by rw [hon] at h; cases h))
        have hF := fr_next (fr_next (rfl) (((hf 28 31 (by kernel_rfl) rfl).trans hv28).trans (congrArg Value.bool (show (decide (a0.1≤(8192:Int)))=true from dec_t q9)))) ((hf 31 34 (by kernel_rfl) rfl).trans hv31)
        refine ls_fr hF ?_
        refine ls_call (fid:=103) (vals:=#[.agg ⟨([Value.int .i64 a0.1]++([Value.int .i64 a0.2.1]++([Value.int .i64 a0.2.2.1]++([Value.int .u32 a0.2.2.2.1]++en (Value.int .u8) a0.2.2.2.2.1))))⟩]) (X:=Unit) (fun x=>.int .i64 t10) (fun x=>stl []) 0 rfl rfl (by kernel_rfl) (fun w=>by kernel_rfl) (fun w1 hs1=>shadowboxref06_Sectors.calls k a0 t10 (bw w1) (St.refl w1)  hc11) ?_
        intro x12
        exact ls_fin (stl []) (.int .i64 t10) (congrArg (fun z=>upd z 35 _) hF.symm) ⟨x12,rfl,rfl⟩ (sub_join _)
       refine cs_draw shadowboxref06_Right.tab1 33 1 (spl [s3_0,s3_1,s3_2,s3_3,s3_4,s3_5,s3_6,s3_7,s3_8,s3_9,s3_10,s3_11,s3_12,s3_13,s3_14,s3_15,s3_16,s3_17,s3_18,s3_19,s3_20,s3_21,s3_22,s3_23,s3_24,s3_25,s3_26,s3_27,s3_28,s3_29,s3_30,s3_31,s3_32]) (onl [true,true,true,true,true,true,true,true,true,true,true,true,true,true,true,true,true,true,true,true,true,true,true,true,true,true,true,true,true,true,true,true,true]) (by kernel_rfl) (by kernel_rfl) (by kernel_rfl) (by kernel_rfl) (rs:=[_,_,_,_]) rfl (by kernel_rfl) (by kernel_rfl) (all_snoc (all_snoc (all_snoc (all_snoc (all_snoc (all_snoc (all_snoc (all_snoc (all_snoc (all_snoc (all_snoc (all_snoc (all_snoc (all_snoc (all_snoc (all_snoc (all_snoc (all_snoc (all_snoc (all_snoc (all_snoc (all_snoc (all_snoc (all_snoc (all_snoc (all_snoc (all_snoc (all_snoc (all_snoc (all_snoc (all_snoc (all_snoc (all_snoc (all_nil) (ops3_0 _ _ rfl rfl)) (ops3_1 _ _ ⟨rfl,rfl⟩ rfl)) (ops3_2 _ _ ⟨rfl,rfl⟩ rfl)) (ops3_3 _ _ ⟨rfl,rfl⟩ rfl)) (ops3_4 _ _ ⟨rfl,rfl⟩ rfl)) (ops3_5 _ _ ⟨rfl,rfl,rfl⟩ rfl)) (ops3_6 _ _ ⟨rfl,rfl,rfl⟩ rfl)) (ops3_7 _ _ ⟨rfl,rfl,rfl⟩ rfl)) (ops3_8 _ _ ⟨rfl,rfl⟩ rfl)) (ops3_9 _ _ ⟨rfl,rfl⟩ rfl)) (ops3_10 _ _ ⟨rfl,rfl,rfl⟩ rfl)) (ops3_11 _ _ ⟨rfl,rfl,rfl⟩ rfl)) (ops3_12 _ _ ⟨rfl,rfl,rfl⟩ rfl)) (ops3_13 _ _ ⟨rfl,rfl⟩ rfl)) (ops3_14 _ _ ⟨rfl,rfl⟩ rfl)) (ops3_15 _ _ ⟨rfl,rfl,rfl⟩ rfl)) (ops3_16 _ _ ⟨rfl,rfl,rfl⟩ rfl)) (ops3_17 _ _ ⟨rfl,rfl,rfl⟩ rfl)) (ops3_18 _ _ ⟨rfl,rfl⟩ rfl)) (ops3_19 _ _ ⟨rfl,rfl⟩ rfl)) (ops3_20 _ _ ⟨rfl,rfl,rfl⟩ rfl)) (ops3_21 _ _ ⟨rfl,rfl,rfl⟩ rfl)) (ops3_22 _ _ ⟨rfl,rfl,rfl⟩ rfl)) (ops3_23 _ _ ⟨rfl,rfl⟩ rfl)) (ops3_24 _ _ ⟨rfl,rfl⟩ rfl)) (ops3_25 _ _ ⟨rfl,rfl,rfl⟩ rfl)) (ops3_26 _ _ ⟨rfl,rfl,rfl⟩ rfl)) (ops3_27 _ _ ⟨rfl,rfl,rfl⟩ rfl)) (ops3_28 _ _ ⟨rfl,rfl⟩ rfl)) (ops3_29 _ _ ⟨rfl,rfl⟩ rfl)) (ops3_30 _ _ ⟨rfl,rfl,rfl⟩ rfl)) (ops3_31 _ _ ⟨rfl,rfl⟩ rfl)) (ops3_32 _ _ ⟨rfl,rfl,rfl⟩ rfl)) ?_
       intro vs Rs f' S' hp hf hx hS hR
       obtain ⟨hv28,hR28⟩ := (spe rfl hs3_28 (hp 28 (by kernel_rfl)))
       obtain ⟨hv30,hR30⟩ := (spe rfl hs3_30 (hp 30 (by kernel_rfl)))
       obtain ⟨x12,hv32,hR32⟩ := (spe rfl hs3_32 (hp 32 (by kernel_rfl)))
       refine ls_fr (F:=upd (upd (upd f' 31 (.bool (decide (a0.1≤(8192:Int))))) 33 (.int .i64 a0.1)) 35 (.int .i64 t10)) (fr_next (fr_next (fr_next (rfl) ((hf 28 31 (by kernel_rfl) rfl).trans hv28)) ((hf 30 33 (by kernel_rfl) rfl).trans hv30)) ((hf 32 35 (by kernel_rfl) rfl).trans hv32)) ?_
       refine ls_sub (s0) (sub_nil _) ?_
       refine ls_know (c:=true) (dec_t q9) 31 (by kernel_rfl) ?_
       refine ls_on (j:=28) (t:=31) (b:=true) rfl rfl (by kernel_rfl) (by kernel_rfl) ?_
       refine lv (.int .i64 (IntKind.wrap .i64 (a0.1+t10))) ?_
       refine ls_on (j:=28) (t:=31) (b:=true) rfl rfl (by kernel_rfl) (by kernel_rfl) ?_
       refine lv (.bool (decide ((IntKind.wrap .i64 (a0.1+t10))≤(8192:Int)))) ?_
       refine lv (.bool (decide ((IntKind.wrap .i64 (a0.1+t10))≤(8192:Int)))) ?_
       refine lv (.bool (decide ((IntKind.wrap .i64 (a0.1+t10))≤(8192:Int)))) ?_
       refine ls_end ?_
       refine qn_then ?_
       refine cs_ret' ?_
       obtain rfl := Option.some.inj H
       refine qr_res (rs:=[_]) rfl (fun w' hs=>⟨[.bool (decide ((IntKind.wrap .i64 (a0.1+t10))≤(8192:Int)))],(res_tmp (by kernel_rfl) (.nil)),(),rfl,hs.pick (ts:=[]) (cs:=[]) trivial (by decide)⟩)
      replace H := ite_f q9 H
      refine cs_draw shadowboxref06_Right.tab1 33 1 (spl [s3_0,s3_1,s3_2,s3_3,s3_4,s3_5,s3_6,s3_7,s3_8,s3_9,s3_10,s3_11,s3_12,s3_13,s3_14,s3_15,s3_16,s3_17,s3_18,s3_19,s3_20,s3_21,s3_22,s3_23,s3_24,s3_25,s3_26,s3_27,s3_28,spu,spu,spu,spu]) (onl [true,true,true,true,true,true,true,true,true,true,true,true,true,true,true,true,true,true,true,true,true,true,true,true,true,true,true,true,true,false,false,false,false]) (by kernel_rfl) (by kernel_rfl) (by kernel_rfl) (by kernel_rfl) (rs:=[_,_,_,_]) rfl (by kernel_rfl) (by kernel_rfl) (all_snoc (all_snoc (all_snoc (all_snoc (all_snoc (all_snoc (all_snoc (all_snoc (all_snoc (all_snoc (all_snoc (all_snoc (all_snoc (all_snoc (all_snoc (all_snoc (all_snoc (all_snoc (all_snoc (all_snoc (all_snoc (all_snoc (all_snoc (all_snoc (all_snoc (all_snoc (all_snoc (all_snoc (all_snoc (all_snoc (all_snoc (all_snoc (all_snoc (all_nil) (ops3_0 _ _ rfl rfl)) (ops3_1 _ _ ⟨rfl,rfl⟩ rfl)) (ops3_2 _ _ ⟨rfl,rfl⟩ rfl)) (ops3_3 _ _ ⟨rfl,rfl⟩ rfl)) (ops3_4 _ _ ⟨rfl,rfl⟩ rfl)) (ops3_5 _ _ ⟨rfl,rfl,rfl⟩ rfl)) (ops3_6 _ _ ⟨rfl,rfl,rfl⟩ rfl)) (ops3_7 _ _ ⟨rfl,rfl,rfl⟩ rfl)) (ops3_8 _ _ ⟨rfl,rfl⟩ rfl)) (ops3_9 _ _ ⟨rfl,rfl⟩ rfl)) (ops3_10 _ _ ⟨rfl,rfl,rfl⟩ rfl)) (ops3_11 _ _ ⟨rfl,rfl,rfl⟩ rfl)) (ops3_12 _ _ ⟨rfl,rfl,rfl⟩ rfl)) (ops3_13 _ _ ⟨rfl,rfl⟩ rfl)) (ops3_14 _ _ ⟨rfl,rfl⟩ rfl)) (ops3_15 _ _ ⟨rfl,rfl,rfl⟩ rfl)) (ops3_16 _ _ ⟨rfl,rfl,rfl⟩ rfl)) (ops3_17 _ _ ⟨rfl,rfl,rfl⟩ rfl)) (ops3_18 _ _ ⟨rfl,rfl⟩ rfl)) (ops3_19 _ _ ⟨rfl,rfl⟩ rfl)) (ops3_20 _ _ ⟨rfl,rfl,rfl⟩ rfl)) (ops3_21 _ _ ⟨rfl,rfl,rfl⟩ rfl)) (ops3_22 _ _ ⟨rfl,rfl,rfl⟩ rfl)) (ops3_23 _ _ ⟨rfl,rfl⟩ rfl)) (ops3_24 _ _ ⟨rfl,rfl⟩ rfl)) (ops3_25 _ _ ⟨rfl,rfl,rfl⟩ rfl)) (ops3_26 _ _ ⟨rfl,rfl,rfl⟩ rfl)) (ops3_27 _ _ ⟨rfl,rfl,rfl⟩ rfl)) (ops3_28 _ _ ⟨rfl,rfl⟩ rfl)) (op_offi 29 28 31 true rfl rfl (by kernel_rfl) (by kernel_rfl) rfl (fun v R h=>by rw [hs3_28] at h; obtain ⟨h,_⟩ := h; exact h.trans (congrArg Value.bool (show (decide (a0.1≤(8192:Int)))=false from dec_f q9))) rfl rfl)) (op_offi 30 28 31 true rfl rfl (by kernel_rfl) (by kernel_rfl) rfl (fun v R h=>by rw [hs3_28] at h; obtain ⟨h,_⟩ := h; exact h.trans (congrArg Value.bool (show (decide (a0.1≤(8192:Int)))=false from dec_f q9))) rfl rfl)) (op_offi 31 28 31 true rfl rfl (by kernel_rfl) (by kernel_rfl) rfl (fun v R h=>by rw [hs3_28] at h; obtain ⟨h,_⟩ := h; exact h.trans (congrArg Value.bool (show (decide (a0.1≤(8192:Int)))=false from dec_f q9))) rfl rfl)) (op_offi 32 28 31 true rfl rfl (by kernel_rfl) (by kernel_rfl) rfl (fun v R h=>by rw [hs3_28] at h; obtain ⟨h,_⟩ := h; exact h.trans (congrArg Value.bool (show (decide (a0.1≤(8192:Int)))=false from dec_f q9))) rfl rfl)) ?_
      intro vs Rs f' S' hp hf hx hS hR
      obtain ⟨hv28,hR28⟩ := (spe rfl hs3_28 (hp 28 (by kernel_rfl)))
      obtain ⟨hv30,hR30⟩ := (spe rfl rfl (hp 30 (by kernel_rfl)):spu _ _)
      obtain ⟨hv32,hR32⟩ := (spe rfl rfl (hp 32 (by kernel_rfl)):spu _ _)
      refine ls_fr (F:=upd f' 31 (.bool (decide (a0.1≤(8192:Int))))) (fr_next (rfl) ((hf 28 31 (by kernel_rfl) rfl).trans hv28)) ?_
      refine ls_sub (s0) (sub_nil _) ?_
      refine ls_know (c:=false) (dec_f q9) 31 (by kernel_rfl) ?_
      refine lofx 28 31 true false ?_
      refine lofx 28 31 true false ?_
      refine lv (.bool false) ?_
      refine lv (.bool false) ?_
      refine ls_end ?_
      refine qn_then ?_
      refine cs_ret' ?_
      obtain rfl := Option.some.inj H
      refine qr_res (rs:=[_]) rfl (fun w' hs=>⟨[.bool false],(res_tmp (by kernel_rfl) (.nil)),(),rfl,hs.pick (ts:=[]) (cs:=[]) trivial (by decide)⟩)
     replace H := ite_f q8 H
     obtain ⟨s3_27,hs3_27⟩ := exv (.bool false)
     refine have_opa shadowboxref06_Right.tab1 1 27 (fun sp=>sp 27=s3_27∧sp 23=s3_23∧sp 26=spu) (fun sp on hA hon=>?_) (fun ops3_27=>?_)
     ·refine ⟨fun o ho vs Rs f' S' w hp hf hx hS hR hs=>?_⟩
      obtain rfl := Option.some.inj ho
      obtain ⟨hv23,hR23⟩ := (spe hA.2.1 hs3_23 (hp 23 (by kernel_rfl)))
      obtain ⟨hv26,hR26⟩ := (spe hA.2.2 rfl (hp 26 (by kernel_rfl)):spu _ _)
      exact opv (.bool false) hA.1 hs3_27 hon (fr_next (fr_next (rfl) (((hf 23 26 (by kernel_rfl) rfl).trans hv23).trans (congrArg Value.bool (show (decide (a0.1≥(2:Int)))=false from dec_f q8)))) ((hf 26 29 (by kernel_rfl) rfl).trans hv26))
     obtain ⟨s3_28,hs3_28⟩ := exv (.bool false)
     refine have_opa shadowboxref06_Right.tab1 1 28 (fun sp=>sp 28=s3_28∧sp 27=s3_27) (fun sp on hA hon=>?_) (fun ops3_28=>?_)
     ·refine ⟨fun o ho vs Rs f' S' w hp hf hx hS hR hs=>?_⟩
      obtain rfl := Option.some.inj ho
      obtain ⟨hv27,hR27⟩ := (spe hA.2 hs3_27 (hp 27 (by kernel_rfl)))
      exact opv (.bool false) hA.1 hs3_28 hon (fr_next (rfl) ((hf 27 30 (by kernel_rfl) rfl).trans hv27))
     refine cs_draw shadowboxref06_Right.tab1 33 1 (spl [s3_0,s3_1,s3_2,s3_3,s3_4,s3_5,s3_6,s3_7,s3_8,s3_9,s3_10,s3_11,s3_12,s3_13,s3_14,s3_15,s3_16,s3_17,s3_18,s3_19,s3_20,s3_21,s3_22,s3_23,spu,spu,spu,s3_27,s3_28,spu,spu,spu,spu]) (onl [true,true,true,true,true,true,true,true,true,true,true,true,true,true,true,true,true,true,true,true,true,true,true,true,false,false,false,true,true,false,false,false,false]) (by kernel_rfl) (by kernel_rfl) (by kernel_rfl) (by kernel_rfl) (rs:=[_,_,_,_]) rfl (by kernel_rfl) (by kernel_rfl) (all_snoc (all_snoc (all_snoc (all_snoc (all_snoc (all_snoc (all_snoc (all_snoc (all_snoc (all_snoc (all_snoc (all_snoc (all_snoc (all_snoc (all_snoc (all_snoc (all_snoc (all_snoc (all_snoc (all_snoc (all_snoc (all_snoc (all_snoc (all_snoc (all_snoc (all_snoc (all_snoc (all_snoc (all_snoc (all_snoc (all_snoc (all_snoc (all_snoc (all_nil) (ops3_0 _ _ rfl rfl)) (ops3_1 _ _ ⟨rfl,rfl⟩ rfl)) (ops3_2 _ _ ⟨rfl,rfl⟩ rfl)) (ops3_3 _ _ ⟨rfl,rfl⟩ rfl)) (ops3_4 _ _ ⟨rfl,rfl⟩ rfl)) (ops3_5 _ _ ⟨rfl,rfl,rfl⟩ rfl)) (ops3_6 _ _ ⟨rfl,rfl,rfl⟩ rfl)) (ops3_7 _ _ ⟨rfl,rfl,rfl⟩ rfl)) (ops3_8 _ _ ⟨rfl,rfl⟩ rfl)) (ops3_9 _ _ ⟨rfl,rfl⟩ rfl)) (ops3_10 _ _ ⟨rfl,rfl,rfl⟩ rfl)) (ops3_11 _ _ ⟨rfl,rfl,rfl⟩ rfl)) (ops3_12 _ _ ⟨rfl,rfl,rfl⟩ rfl)) (ops3_13 _ _ ⟨rfl,rfl⟩ rfl)) (ops3_14 _ _ ⟨rfl,rfl⟩ rfl)) (ops3_15 _ _ ⟨rfl,rfl,rfl⟩ rfl)) (ops3_16 _ _ ⟨rfl,rfl,rfl⟩ rfl)) (ops3_17 _ _ ⟨rfl,rfl,rfl⟩ rfl)) (ops3_18 _ _ ⟨rfl,rfl⟩ rfl)) (ops3_19 _ _ ⟨rfl,rfl⟩ rfl)) (ops3_20 _ _ ⟨rfl,rfl,rfl⟩ rfl)) (ops3_21 _ _ ⟨rfl,rfl,rfl⟩ rfl)) (ops3_22 _ _ ⟨rfl,rfl,rfl⟩ rfl)) (ops3_23 _ _ ⟨rfl,rfl⟩ rfl)) (op_offi 24 23 26 true rfl rfl (by kernel_rfl) (by kernel_rfl) rfl (fun v R h=>by rw [hs3_23] at h; obtain ⟨h,_⟩ := h; exact h.trans (congrArg Value.bool (show (decide (a0.1≥(2:Int)))=false from dec_f q8))) rfl rfl)) (op_offi 25 23 26 true rfl rfl (by kernel_rfl) (by kernel_rfl) rfl (fun v R h=>by rw [hs3_23] at h; obtain ⟨h,_⟩ := h; exact h.trans (congrArg Value.bool (show (decide (a0.1≥(2:Int)))=false from dec_f q8))) rfl rfl)) (op_offi 26 23 26 true rfl rfl (by kernel_rfl) (by kernel_rfl) rfl (fun v R h=>by rw [hs3_23] at h; obtain ⟨h,_⟩ := h; exact h.trans (congrArg Value.bool (show (decide (a0.1≥(2:Int)))=false from dec_f q8))) rfl rfl)) (ops3_27 _ _ ⟨rfl,rfl,rfl⟩ rfl)) (ops3_28 _ _ ⟨rfl,rfl⟩ rfl)) (op_offi 29 28 31 true rfl rfl (by kernel_rfl) (by kernel_rfl) rfl (fun v R h=>by rw [hs3_28] at h; obtain ⟨h,_⟩ := h; exact h) rfl rfl)) (op_offi 30 28 31 true rfl rfl (by kernel_rfl) (by kernel_rfl) rfl (fun v R h=>by rw [hs3_28] at h; obtain ⟨h,_⟩ := h; exact h) rfl rfl)) (op_offi 31 28 31 true rfl rfl (by kernel_rfl) (by kernel_rfl) rfl (fun v R h=>by rw [hs3_28] at h; obtain ⟨h,_⟩ := h; exact h) rfl rfl)) (op_offi 32 28 31 true rfl rfl (by kernel_rfl) (by kernel_rfl) rfl (fun v R h=>by rw [hs3_28] at h; obtain ⟨h,_⟩ := h; exact h) rfl rfl)) ?_
     intro vs Rs f' S' hp hf hx hS hR
     obtain ⟨hv28,hR28⟩ := (spe rfl hs3_28 (hp 28 (by kernel_rfl)))
     obtain ⟨hv30,hR30⟩ := (spe rfl rfl (hp 30 (by kernel_rfl)):spu _ _)
     obtain ⟨hv32,hR32⟩ := (spe rfl rfl (hp 32 (by kernel_rfl)):spu _ _)
     refine ls_fr (F:=upd f' 31 (.bool false)) (fr_next (rfl) ((hf 28 31 (by kernel_rfl) rfl).trans hv28)) ?_
     refine ls_sub (s0) (sub_nil _) ?_
     refine lofx 28 31 true false ?_
     refine lofx 28 31 true false ?_
     refine lv (.bool false) ?_
     refine lv (.bool false) ?_
     refine ls_end ?_
     refine qn_then ?_
     refine cs_ret' ?_
     obtain rfl := Option.some.inj H
     refine qr_res (rs:=[_]) rfl (fun w' hs=>⟨[.bool false],(res_tmp (by kernel_rfl) (.nil)),(),rfl,hs.pick (ts:=[]) (cs:=[]) trivial (by decide)⟩)
    replace H := ite_f q7 H
    obtain ⟨s3_22,hs3_22⟩ := exv (.bool false)
    refine have_opa shadowboxref06_Right.tab1 1 22 (fun sp=>sp 22=s3_22∧sp 18=s3_18∧sp 21=spu) (fun sp on hA hon=>?_) (fun ops3_22=>?_)
    ·refine ⟨fun o ho vs Rs f' S' w hp hf hx hS hR hs=>?_⟩
     obtain rfl := Option.some.inj ho
     obtain ⟨hv18,hR18⟩ := (spe hA.2.1 hs3_18 (hp 18 (by kernel_rfl)))
     obtain ⟨hv21,hR21⟩ := (spe hA.2.2 rfl (hp 21 (by kernel_rfl)):spu _ _)
     exact opv (.bool false) hA.1 hs3_22 hon (fr_next (fr_next (rfl) (((hf 18 21 (by kernel_rfl) rfl).trans hv18).trans (congrArg Value.bool (show (decide (a0.2.2.1≤(65536:Int)))=false from dec_f q7)))) ((hf 21 24 (by kernel_rfl) rfl).trans hv21))
    obtain ⟨s3_23,hs3_23⟩ := exv (.bool false)
    refine have_opa shadowboxref06_Right.tab1 1 23 (fun sp=>sp 23=s3_23∧sp 22=s3_22) (fun sp on hA hon=>?_) (fun ops3_23=>?_)
    ·refine ⟨fun o ho vs Rs f' S' w hp hf hx hS hR hs=>?_⟩
     obtain rfl := Option.some.inj ho
     obtain ⟨hv22,hR22⟩ := (spe hA.2 hs3_22 (hp 22 (by kernel_rfl)))
     exact opv (.bool false) hA.1 hs3_23 hon (fr_next (rfl) ((hf 22 25 (by kernel_rfl) rfl).trans hv22))
    obtain ⟨s3_27,hs3_27⟩ := exv (.bool false)
    refine have_opa shadowboxref06_Right.tab1 1 27 (fun sp=>sp 27=s3_27∧sp 23=s3_23∧sp 26=spu) (fun sp on hA hon=>?_) (fun ops3_27=>?_)
    ·refine ⟨fun o ho vs Rs f' S' w hp hf hx hS hR hs=>?_⟩
     obtain rfl := Option.some.inj ho
     obtain ⟨hv23,hR23⟩ := (spe hA.2.1 hs3_23 (hp 23 (by kernel_rfl)))
     obtain ⟨hv26,hR26⟩ := (spe hA.2.2 rfl (hp 26 (by kernel_rfl)):spu _ _)
     exact opv (.bool false) hA.1 hs3_27 hon (fr_next (fr_next (rfl) ((hf 23 26 (by kernel_rfl) rfl).trans hv23)) ((hf 26 29 (by kernel_rfl) rfl).trans hv26))
    obtain ⟨s3_28,hs3_28⟩ := exv (.bool false)
    refine have_opa shadowboxref06_Right.tab1 1 28 (fun sp=>sp 28=s3_28∧sp 27=s3_27) (fun sp on hA hon=>?_) (fun ops3_28=>?_)
    ·refine ⟨fun o ho vs Rs f' S' w hp hf hx hS hR hs=>?_⟩
     obtain rfl := Option.some.inj ho
     obtain ⟨hv27,hR27⟩ := (spe hA.2 hs3_27 (hp 27 (by kernel_rfl)))
     exact opv (.bool false) hA.1 hs3_28 hon (fr_next (rfl) ((hf 27 30 (by kernel_rfl) rfl).trans hv27))
    refine cs_draw shadowboxref06_Right.tab1 33 1 (spl [s3_0,s3_1,s3_2,s3_3,s3_4,s3_5,s3_6,s3_7,s3_8,s3_9,s3_10,s3_11,s3_12,s3_13,s3_14,s3_15,s3_16,s3_17,s3_18,spu,spu,spu,s3_22,s3_23,spu,spu,spu,s3_27,s3_28,spu,spu,spu,spu]) (onl [true,true,true,true,true,true,true,true,true,true,true,true,true,true,true,true,true,true,true,false,false,false,true,true,false,false,false,true,true,false,false,false,false]) (by kernel_rfl) (by kernel_rfl) (by kernel_rfl) (by kernel_rfl) (rs:=[_,_,_,_]) rfl (by kernel_rfl) (by kernel_rfl) (all_snoc (all_snoc (all_snoc (all_snoc (all_snoc (all_snoc (all_snoc (all_snoc (all_snoc (all_snoc (all_snoc (all_snoc (all_snoc (all_snoc (all_snoc (all_snoc (all_snoc (all_snoc (all_snoc (all_snoc (all_snoc (all_snoc (all_snoc (all_snoc (all_snoc (all_snoc (all_snoc (all_snoc (all_snoc (all_snoc (all_snoc (all_snoc (all_snoc (all_nil) (ops3_0 _ _ rfl rfl)) (ops3_1 _ _ ⟨rfl,rfl⟩ rfl)) (ops3_2 _ _ ⟨rfl,rfl⟩ rfl)) (ops3_3 _ _ ⟨rfl,rfl⟩ rfl)) (ops3_4 _ _ ⟨rfl,rfl⟩ rfl)) (ops3_5 _ _ ⟨rfl,rfl,rfl⟩ rfl)) (ops3_6 _ _ ⟨rfl,rfl,rfl⟩ rfl)) (ops3_7 _ _ ⟨rfl,rfl,rfl⟩ rfl)) (ops3_8 _ _ ⟨rfl,rfl⟩ rfl)) (ops3_9 _ _ ⟨rfl,rfl⟩ rfl)) (ops3_10 _ _ ⟨rfl,rfl,rfl⟩ rfl)) (ops3_11 _ _ ⟨rfl,rfl,rfl⟩ rfl)) (ops3_12 _ _ ⟨rfl,rfl,rfl⟩ rfl)) (ops3_13 _ _ ⟨rfl,rfl⟩ rfl)) (ops3_14 _ _ ⟨rfl,rfl⟩ rfl)) (ops3_15 _ _ ⟨rfl,rfl,rfl⟩ rfl)) (ops3_16 _ _ ⟨rfl,rfl,rfl⟩ rfl)) (ops3_17 _ _ ⟨rfl,rfl,rfl⟩ rfl)) (ops3_18 _ _ ⟨rfl,rfl⟩ rfl)) (op_offi 19 18 21 true rfl rfl (by kernel_rfl) (by kernel_rfl) rfl (fun v R h=>by rw [hs3_18] at h; obtain ⟨h,_⟩ := h; exact h.trans (congrArg Value.bool (show (decide (a0.2.2.1≤(65536:Int)))=false from dec_f q7))) rfl rfl)) (op_offi 20 18 21 true rfl rfl (by kernel_rfl) (by kernel_rfl) rfl (fun v R h=>by rw [hs3_18] at h; obtain ⟨h,_⟩ := h; exact h.trans (congrArg Value.bool (show (decide (a0.2.2.1≤(65536:Int)))=false from dec_f q7))) rfl rfl)) (op_offi 21 18 21 true rfl rfl (by kernel_rfl) (by kernel_rfl) rfl (fun v R h=>by rw [hs3_18] at h; obtain ⟨h,_⟩ := h; exact h.trans (congrArg Value.bool (show (decide (a0.2.2.1≤(65536:Int)))=false from dec_f q7))) rfl rfl)) (ops3_22 _ _ ⟨rfl,rfl,rfl⟩ rfl)) (ops3_23 _ _ ⟨rfl,rfl⟩ rfl)) (op_offi 24 23 26 true rfl rfl (by kernel_rfl) (by kernel_rfl) rfl (fun v R h=>by rw [hs3_23] at h; obtain ⟨h,_⟩ := h; exact h) rfl rfl)) (op_offi 25 23 26 true rfl rfl (by kernel_rfl) (by kernel_rfl) rfl (fun v R h=>by rw [hs3_23] at h; obtain ⟨h,_⟩ := h; exact h) rfl rfl)) (op_offi 26 23 26 true rfl rfl (by kernel_rfl) (by kernel_rfl) rfl (fun v R h=>by rw [hs3_23] at h; obtain ⟨h,_⟩ := h; exact h) rfl rfl)) (ops3_27 _ _ ⟨rfl,rfl,rfl⟩ rfl)) (ops3_28 _ _ ⟨rfl,rfl⟩ rfl)) (op_offi 29 28 31 true rfl rfl (by kernel_rfl) (by kernel_rfl) rfl (fun v R h=>by rw [hs3_28] at h; obtain ⟨h,_⟩ := h; exact h) rfl rfl)) (op_offi 30 28 31 true rfl rfl (by kernel_rfl) (by kernel_rfl) rfl (fun v R h=>by rw [hs3_28] at h; obtain ⟨h,_⟩ := h; exact h) rfl rfl)) (op_offi 31 28 31 true rfl rfl (by kernel_rfl) (by kernel_rfl) rfl (fun v R h=>by rw [hs3_28] at h; obtain ⟨h,_⟩ := h; exact h) rfl rfl)) (op_offi 32 28 31 true rfl rfl (by kernel_rfl) (by kernel_rfl) rfl (fun v R h=>by rw [hs3_28] at h; obtain ⟨h,_⟩ := h; exact h) rfl rfl)) ?_
    intro vs Rs f' S' hp hf hx hS hR
    obtain ⟨hv28,hR28⟩ := (spe rfl hs3_28 (hp 28 (by kernel_rfl)))
    obtain ⟨hv30,hR30⟩ := (spe rfl rfl (hp 30 (by kernel_rfl)):spu _ _)
    obtain ⟨hv32,hR32⟩ := (spe rfl rfl (hp 32 (by kernel_rfl)):spu _ _)
    refine ls_fr (F:=upd f' 31 (.bool false)) (fr_next (rfl) ((hf 28 31 (by kernel_rfl) rfl).trans hv28)) ?_
    refine ls_sub (s0) (sub_nil _) ?_
    refine lofx 28 31 true false ?_
    refine lofx 28 31 true false ?_
    refine lv (.bool false) ?_
    refine lv (.bool false) ?_
    refine ls_end ?_
    refine qn_then ?_
    refine cs_ret' ?_
    obtain rfl := Option.some.inj H
    refine qr_res (rs:=[_]) rfl (fun w' hs=>⟨[.bool false],(res_tmp (by kernel_rfl) (.nil)),(),rfl,hs.pick (ts:=[]) (cs:=[]) trivial (by decide)⟩)
   replace H := ite_f q6 H
   obtain ⟨s3_17,hs3_17⟩ := exv (.bool false)
   refine have_opa shadowboxref06_Right.tab1 1 17 (fun sp=>sp 17=s3_17∧sp 13=s3_13∧sp 16=spu) (fun sp on hA hon=>?_) (fun ops3_17=>?_)
   ·refine ⟨fun o ho vs Rs f' S' w hp hf hx hS hR hs=>?_⟩
    obtain rfl := Option.some.inj ho
    obtain ⟨hv13,hR13⟩ := (spe hA.2.1 hs3_13 (hp 13 (by kernel_rfl)))
    obtain ⟨hv16,hR16⟩ := (spe hA.2.2 rfl (hp 16 (by kernel_rfl)):spu _ _)
    exact opv (.bool false) hA.1 hs3_17 hon (fr_next (fr_next (rfl) (((hf 13 16 (by kernel_rfl) rfl).trans hv13).trans (congrArg Value.bool (show (decide (a0.2.2.1≥(1:Int)))=false from dec_f q6)))) ((hf 16 19 (by kernel_rfl) rfl).trans hv16))
   obtain ⟨s3_18,hs3_18⟩ := exv (.bool false)
   refine have_opa shadowboxref06_Right.tab1 1 18 (fun sp=>sp 18=s3_18∧sp 17=s3_17) (fun sp on hA hon=>?_) (fun ops3_18=>?_)
   ·refine ⟨fun o ho vs Rs f' S' w hp hf hx hS hR hs=>?_⟩
    obtain rfl := Option.some.inj ho
    obtain ⟨hv17,hR17⟩ := (spe hA.2 hs3_17 (hp 17 (by kernel_rfl)))
    exact opv (.bool false) hA.1 hs3_18 hon (fr_next (rfl) ((hf 17 20 (by kernel_rfl) rfl).trans hv17))
   obtain ⟨s3_22,hs3_22⟩ := exv (.bool false)
   refine have_opa shadowboxref06_Right.tab1 1 22 (fun sp=>sp 22=s3_22∧sp 18=s3_18∧sp 21=spu) (fun sp on hA hon=>?_) (fun ops3_22=>?_)
   ·refine ⟨fun o ho vs Rs f' S' w hp hf hx hS hR hs=>?_⟩
    obtain rfl := Option.some.inj ho
    obtain ⟨hv18,hR18⟩ := (spe hA.2.1 hs3_18 (hp 18 (by kernel_rfl)))
    obtain ⟨hv21,hR21⟩ := (spe hA.2.2 rfl (hp 21 (by kernel_rfl)):spu _ _)
    exact opv (.bool false) hA.1 hs3_22 hon (fr_next (fr_next (rfl) ((hf 18 21 (by kernel_rfl) rfl).trans hv18)) ((hf 21 24 (by kernel_rfl) rfl).trans hv21))
   obtain ⟨s3_23,hs3_23⟩ := exv (.bool false)
   refine have_opa shadowboxref06_Right.tab1 1 23 (fun sp=>sp 23=s3_23∧sp 22=s3_22) (fun sp on hA hon=>?_) (fun ops3_23=>?_)
   ·refine ⟨fun o ho vs Rs f' S' w hp hf hx hS hR hs=>?_⟩
    obtain rfl := Option.some.inj ho
    obtain ⟨hv22,hR22⟩ := (spe hA.2 hs3_22 (hp 22 (by kernel_rfl)))
    exact opv (.bool false) hA.1 hs3_23 hon (fr_next (rfl) ((hf 22 25 (by kernel_rfl) rfl).trans hv22))
   obtain ⟨s3_27,hs3_27⟩ := exv (.bool false)
   refine have_opa shadowboxref06_Right.tab1 1 27 (fun sp=>sp 27=s3_27∧sp 23=s3_23∧sp 26=spu) (fun sp on hA hon=>?_) (fun ops3_27=>?_)
   ·refine ⟨fun o ho vs Rs f' S' w hp hf hx hS hR hs=>?_⟩
    obtain rfl := Option.some.inj ho
    obtain ⟨hv23,hR23⟩ := (spe hA.2.1 hs3_23 (hp 23 (by kernel_rfl)))
    obtain ⟨hv26,hR26⟩ := (spe hA.2.2 rfl (hp 26 (by kernel_rfl)):spu _ _)
    exact opv (.bool false) hA.1 hs3_27 hon (fr_next (fr_next (rfl) ((hf 23 26 (by kernel_rfl) rfl).trans hv23)) ((hf 26 29 (by kernel_rfl) rfl).trans hv26))
   obtain ⟨s3_28,hs3_28⟩ := exv (.bool false)
   refine have_opa shadowboxref06_Right.tab1 1 28 (fun sp=>sp 28=s3_28∧sp 27=s3_27) (fun sp on hA hon=>?_) (fun ops3_28=>?_)
   ·refine ⟨fun o ho vs Rs f' S' w hp hf hx hS hR hs=>?_⟩
    obtain rfl := Option.some.inj ho
    obtain ⟨hv27,hR27⟩ := (spe hA.2 hs3_27 (hp 27 (by kernel_rfl)))
    exact opv (.bool false) hA.1 hs3_28 hon (fr_next (rfl) ((hf 27 30 (by kernel_rfl) rfl).trans hv27))
   refine cs_draw shadowboxref06_Right.tab1 33 1 (spl [s3_0,s3_1,s3_2,s3_3,s3_4,s3_5,s3_6,s3_7,s3_8,s3_9,s3_10,s3_11,s3_12,s3_13,spu,spu,spu,s3_17,s3_18,spu,spu,spu,s3_22,s3_23,spu,spu,spu,s3_27,s3_28,spu,spu,spu,spu]) (onl [true,true,true,true,true,true,true,true,true,true,true,true,true,true,false,false,false,true,true,false,false,false,true,true,false,false,false,true,true,false,false,false,false]) (by kernel_rfl) (by kernel_rfl) (by kernel_rfl) (by kernel_rfl) (rs:=[_,_,_,_]) rfl (by kernel_rfl) (by kernel_rfl) (all_snoc (all_snoc (all_snoc (all_snoc (all_snoc (all_snoc (all_snoc (all_snoc (all_snoc (all_snoc (all_snoc (all_snoc (all_snoc (all_snoc (all_snoc (all_snoc (all_snoc (all_snoc (all_snoc (all_snoc (all_snoc (all_snoc (all_snoc (all_snoc (all_snoc (all_snoc (all_snoc (all_snoc (all_snoc (all_snoc (all_snoc (all_snoc (all_snoc (all_nil) (ops3_0 _ _ rfl rfl)) (ops3_1 _ _ ⟨rfl,rfl⟩ rfl)) (ops3_2 _ _ ⟨rfl,rfl⟩ rfl)) (ops3_3 _ _ ⟨rfl,rfl⟩ rfl)) (ops3_4 _ _ ⟨rfl,rfl⟩ rfl)) (ops3_5 _ _ ⟨rfl,rfl,rfl⟩ rfl)) (ops3_6 _ _ ⟨rfl,rfl,rfl⟩ rfl)) (ops3_7 _ _ ⟨rfl,rfl,rfl⟩ rfl)) (ops3_8 _ _ ⟨rfl,rfl⟩ rfl)) (ops3_9 _ _ ⟨rfl,rfl⟩ rfl)) (ops3_10 _ _ ⟨rfl,rfl,rfl⟩ rfl)) (ops3_11 _ _ ⟨rfl,rfl,rfl⟩ rfl)) (ops3_12 _ _ ⟨rfl,rfl,rfl⟩ rfl)) (ops3_13 _ _ ⟨rfl,rfl⟩ rfl)) (op_offi 14 13 16 true rfl rfl (by kernel_rfl) (by kernel_rfl) rfl (fun v R h=>by rw [hs3_13] at h; obtain ⟨h,_⟩ := h; exact h.trans (congrArg Value.bool (show (decide (a0.2.2.1≥(1:Int)))=false from dec_f q6))) rfl rfl)) (op_offi 15 13 16 true rfl rfl (by kernel_rfl) (by kernel_rfl) rfl (fun v R h=>by rw [hs3_13] at h; obtain ⟨h,_⟩ := h; exact h.trans (congrArg Value.bool (show (decide (a0.2.2.1≥(1:Int)))=false from dec_f q6))) rfl rfl)) (op_offi 16 13 16 true rfl rfl (by kernel_rfl) (by kernel_rfl) rfl (fun v R h=>by rw [hs3_13] at h; obtain ⟨h,_⟩ := h; exact h.trans (congrArg Value.bool (show (decide (a0.2.2.1≥(1:Int)))=false from dec_f q6))) rfl rfl)) (ops3_17 _ _ ⟨rfl,rfl,rfl⟩ rfl)) (ops3_18 _ _ ⟨rfl,rfl⟩ rfl)) (op_offi 19 18 21 true rfl rfl (by kernel_rfl) (by kernel_rfl) rfl (fun v R h=>by rw [hs3_18] at h; obtain ⟨h,_⟩ := h; exact h) rfl rfl)) (op_offi 20 18 21 true rfl rfl (by kernel_rfl) (by kernel_rfl) rfl (fun v R h=>by rw [hs3_18] at h; obtain ⟨h,_⟩ := h; exact h) rfl rfl)) (op_offi 21 18 21 true rfl rfl (by kernel_rfl) (by kernel_rfl) rfl (fun v R h=>by rw [hs3_18] at h; obtain ⟨h,_⟩ := h; exact h) rfl rfl)) (ops3_22 _ _ ⟨rfl,rfl,rfl⟩ rfl)) (ops3_23 _ _ ⟨rfl,rfl⟩ rfl)) (op_offi 24 23 26 true rfl rfl (by kernel_rfl) (by kernel_rfl) rfl (fun v R h=>by rw [hs3_23] at h; obtain ⟨h,_⟩ := h; exact h) rfl rfl)) (op_offi 25 23 26 true rfl rfl (by kernel_rfl) (by kernel_rfl) rfl (fun v R h=>by rw [hs3_23] at h; obtain ⟨h,_⟩ := h; exact h) rfl rfl)) (op_offi 26 23 26 true rfl rfl (by kernel_rfl) (by kernel_rfl) rfl (fun v R h=>by rw [hs3_23] at h; obtain ⟨h,_⟩ := h; exact h) rfl rfl)) (ops3_27 _ _ ⟨rfl,rfl,rfl⟩ rfl)) (ops3_28 _ _ ⟨rfl,rfl⟩ rfl)) (op_offi 29 28 31 true rfl rfl (by kernel_rfl) (by kernel_rfl) rfl (fun v R h=>by rw [hs3_28] at h; obtain ⟨h,_⟩ := h; exact h) rfl rfl)) (op_offi 30 28 31 true rfl rfl (by kernel_rfl) (by kernel_rfl) rfl (fun v R h=>by rw [hs3_28] at h; obtain ⟨h,_⟩ := h; exact h) rfl rfl)) (op_offi 31 28 31 true rfl rfl (by kernel_rfl) (by kernel_rfl) rfl (fun v R h=>by rw [hs3_28] at h; obtain ⟨h,_⟩ := h; exact h) rfl rfl)) (op_offi 32 28 31 true rfl rfl (by kernel_rfl) (by kernel_rfl) rfl (fun v R h=>by rw [hs3_28] at h; obtain ⟨h,_⟩ := h; exact h) rfl rfl)) ?_
   intro vs Rs f' S' hp hf hx hS hR
   obtain ⟨hv28,hR28⟩ := (spe rfl hs3_28 (hp 28 (by kernel_rfl)))
   obtain ⟨hv30,hR30⟩ := (spe rfl rfl (hp 30 (by kernel_rfl)):spu _ _)
   obtain ⟨hv32,hR32⟩ := (spe rfl rfl (hp 32 (by kernel_rfl)):spu _ _)
   refine ls_fr (F:=upd f' 31 (.bool false)) (fr_next (rfl) ((hf 28 31 (by kernel_rfl) rfl).trans hv28)) ?_
   refine ls_sub (s0) (sub_nil _) ?_
   refine lofx 28 31 true false ?_
   refine lofx 28 31 true false ?_
   refine lv (.bool false) ?_
   refine lv (.bool false) ?_
   refine ls_end ?_
   refine qn_then ?_
   refine cs_ret' ?_
   obtain rfl := Option.some.inj H
   refine qr_res (rs:=[_]) rfl (fun w' hs=>⟨[.bool false],(res_tmp (by kernel_rfl) (.nil)),(),rfl,hs.pick (ts:=[]) (cs:=[]) trivial (by decide)⟩)
  replace H := ite_f q5 H
  obtain ⟨s3_12,hs3_12⟩ := exv (.bool false)
  refine have_opa shadowboxref06_Right.tab1 1 12 (fun sp=>sp 12=s3_12∧sp 8=s3_8∧sp 11=spu) (fun sp on hA hon=>?_) (fun ops3_12=>?_)
  ·refine ⟨fun o ho vs Rs f' S' w hp hf hx hS hR hs=>?_⟩
   obtain rfl := Option.some.inj ho
   obtain ⟨hv8,hR8⟩ := (spe hA.2.1 hs3_8 (hp 8 (by kernel_rfl)))
   obtain ⟨hv11,hR11⟩ := (spe hA.2.2 rfl (hp 11 (by kernel_rfl)):spu _ _)
   exact opv (.bool false) hA.1 hs3_12 hon (fr_next (fr_next (rfl) (((hf 8 11 (by kernel_rfl) rfl).trans hv8).trans (congrArg Value.bool (show (decide (a0.2.1≤(1152921504606846976:Int)))=false from dec_f q5)))) ((hf 11 14 (by kernel_rfl) rfl).trans hv11))
  obtain ⟨s3_13,hs3_13⟩ := exv (.bool false)
  refine have_opa shadowboxref06_Right.tab1 1 13 (fun sp=>sp 13=s3_13∧sp 12=s3_12) (fun sp on hA hon=>?_) (fun ops3_13=>?_)
  ·refine ⟨fun o ho vs Rs f' S' w hp hf hx hS hR hs=>?_⟩
   obtain rfl := Option.some.inj ho
   obtain ⟨hv12,hR12⟩ := (spe hA.2 hs3_12 (hp 12 (by kernel_rfl)))
   exact opv (.bool false) hA.1 hs3_13 hon (fr_next (rfl) ((hf 12 15 (by kernel_rfl) rfl).trans hv12))
  obtain ⟨s3_17,hs3_17⟩ := exv (.bool false)
  refine have_opa shadowboxref06_Right.tab1 1 17 (fun sp=>sp 17=s3_17∧sp 13=s3_13∧sp 16=spu) (fun sp on hA hon=>?_) (fun ops3_17=>?_)
  ·refine ⟨fun o ho vs Rs f' S' w hp hf hx hS hR hs=>?_⟩
   obtain rfl := Option.some.inj ho
   obtain ⟨hv13,hR13⟩ := (spe hA.2.1 hs3_13 (hp 13 (by kernel_rfl)))
   obtain ⟨hv16,hR16⟩ := (spe hA.2.2 rfl (hp 16 (by kernel_rfl)):spu _ _)
   exact opv (.bool false) hA.1 hs3_17 hon (fr_next (fr_next (rfl) ((hf 13 16 (by kernel_rfl) rfl).trans hv13)) ((hf 16 19 (by kernel_rfl) rfl).trans hv16))
  obtain ⟨s3_18,hs3_18⟩ := exv (.bool false)
  refine have_opa shadowboxref06_Right.tab1 1 18 (fun sp=>sp 18=s3_18∧sp 17=s3_17) (fun sp on hA hon=>?_) (fun ops3_18=>?_)
  ·refine ⟨fun o ho vs Rs f' S' w hp hf hx hS hR hs=>?_⟩
   obtain rfl := Option.some.inj ho
   obtain ⟨hv17,hR17⟩ := (spe hA.2 hs3_17 (hp 17 (by kernel_rfl)))
   exact opv (.bool false) hA.1 hs3_18 hon (fr_next (rfl) ((hf 17 20 (by kernel_rfl) rfl).trans hv17))
  obtain ⟨s3_22,hs3_22⟩ := exv (.bool false)
  refine have_opa shadowboxref06_Right.tab1 1 22 (fun sp=>sp 22=s3_22∧sp 18=s3_18∧sp 21=spu) (fun sp on hA hon=>?_) (fun ops3_22=>?_)
  ·refine ⟨fun o ho vs Rs f' S' w hp hf hx hS hR hs=>?_⟩
   obtain rfl := Option.some.inj ho
   obtain ⟨hv18,hR18⟩ := (spe hA.2.1 hs3_18 (hp 18 (by kernel_rfl)))
   obtain ⟨hv21,hR21⟩ := (spe hA.2.2 rfl (hp 21 (by kernel_rfl)):spu _ _)
   exact opv (.bool false) hA.1 hs3_22 hon (fr_next (fr_next (rfl) ((hf 18 21 (by kernel_rfl) rfl).trans hv18)) ((hf 21 24 (by kernel_rfl) rfl).trans hv21))
  obtain ⟨s3_23,hs3_23⟩ := exv (.bool false)
  refine have_opa shadowboxref06_Right.tab1 1 23 (fun sp=>sp 23=s3_23∧sp 22=s3_22) (fun sp on hA hon=>?_) (fun ops3_23=>?_)
  ·refine ⟨fun o ho vs Rs f' S' w hp hf hx hS hR hs=>?_⟩
   obtain rfl := Option.some.inj ho
   obtain ⟨hv22,hR22⟩ := (spe hA.2 hs3_22 (hp 22 (by kernel_rfl)))
   exact opv (.bool false) hA.1 hs3_23 hon (fr_next (rfl) ((hf 22 25 (by kernel_rfl) rfl).trans hv22))
  obtain ⟨s3_27,hs3_27⟩ := exv (.bool false)
  refine have_opa shadowboxref06_Right.tab1 1 27 (fun sp=>sp 27=s3_27∧sp 23=s3_23∧sp 26=spu) (fun sp on hA hon=>?_) (fun ops3_27=>?_)
  ·refine ⟨fun o ho vs Rs f' S' w hp hf hx hS hR hs=>?_⟩
   obtain rfl := Option.some.inj ho
   obtain ⟨hv23,hR23⟩ := (spe hA.2.1 hs3_23 (hp 23 (by kernel_rfl)))
   obtain ⟨hv26,hR26⟩ := (spe hA.2.2 rfl (hp 26 (by kernel_rfl)):spu _ _)
   exact opv (.bool false) hA.1 hs3_27 hon (fr_next (fr_next (rfl) ((hf 23 26 (by kernel_rfl) rfl).trans hv23)) ((hf 26 29 (by kernel_rfl) rfl).trans hv26))
  obtain ⟨s3_28,hs3_28⟩ := exv (.bool false)
  refine have_opa shadowboxref06_Right.tab1 1 28 (fun sp=>sp 28=s3_28∧sp 27=s3_27) (fun sp on hA hon=>?_) (fun ops3_28=>?_)
  ·refine ⟨fun o ho vs Rs f' S' w hp hf hx hS hR hs=>?_⟩
   obtain rfl := Option.some.inj ho
   obtain ⟨hv27,hR27⟩ := (spe hA.2 hs3_27 (hp 27 (by kernel_rfl)))
   exact opv (.bool false) hA.1 hs3_28 hon (fr_next (rfl) ((hf 27 30 (by kernel_rfl) rfl).trans hv27))
  refine cs_draw shadowboxref06_Right.tab1 33 1 (spl [s3_0,s3_1,s3_2,s3_3,s3_4,s3_5,s3_6,s3_7,s3_8,spu,spu,spu,s3_12,s3_13,spu,spu,spu,s3_17,s3_18,spu,spu,spu,s3_22,s3_23,spu,spu,spu,s3_27,s3_28,spu,spu,spu,spu]) (onl [true,true,true,true,true,true,true,true,true,false,false,false,true,true,false,false,false,true,true,false,false,false,true,true,false,false,false,true,true,false,false,false,false]) (by kernel_rfl) (by kernel_rfl) (by kernel_rfl) (by kernel_rfl) (rs:=[_,_,_,_]) rfl (by kernel_rfl) (by kernel_rfl) (all_snoc (all_snoc (all_snoc (all_snoc (all_snoc (all_snoc (all_snoc (all_snoc (all_snoc (all_snoc (all_snoc (all_snoc (all_snoc (all_snoc (all_snoc (all_snoc (all_snoc (all_snoc (all_snoc (all_snoc (all_snoc (all_snoc (all_snoc (all_snoc (all_snoc (all_snoc (all_snoc (all_snoc (all_snoc (all_snoc (all_snoc (all_snoc (all_snoc (all_nil) (ops3_0 _ _ rfl rfl)) (ops3_1 _ _ ⟨rfl,rfl⟩ rfl)) (ops3_2 _ _ ⟨rfl,rfl⟩ rfl)) (ops3_3 _ _ ⟨rfl,rfl⟩ rfl)) (ops3_4 _ _ ⟨rfl,rfl⟩ rfl)) (ops3_5 _ _ ⟨rfl,rfl,rfl⟩ rfl)) (ops3_6 _ _ ⟨rfl,rfl,rfl⟩ rfl)) (ops3_7 _ _ ⟨rfl,rfl,rfl⟩ rfl)) (ops3_8 _ _ ⟨rfl,rfl⟩ rfl)) (op_offi 9 8 11 true rfl rfl (by kernel_rfl) (by kernel_rfl) rfl (fun v R h=>by rw [hs3_8] at h; obtain ⟨h,_⟩ := h; exact h.trans (congrArg Value.bool (show (decide (a0.2.1≤(1152921504606846976:Int)))=false from dec_f q5))) rfl rfl)) (op_offi 10 8 11 true rfl rfl (by kernel_rfl) (by kernel_rfl) rfl (fun v R h=>by rw [hs3_8] at h; obtain ⟨h,_⟩ := h; exact h.trans (congrArg Value.bool (show (decide (a0.2.1≤(1152921504606846976:Int)))=false from dec_f q5))) rfl rfl)) (op_offi 11 8 11 true rfl rfl (by kernel_rfl) (by kernel_rfl) rfl (fun v R h=>by rw [hs3_8] at h; obtain ⟨h,_⟩ := h; exact h.trans (congrArg Value.bool (show (decide (a0.2.1≤(1152921504606846976:Int)))=false from dec_f q5))) rfl rfl)) (ops3_12 _ _ ⟨rfl,rfl,rfl⟩ rfl)) (ops3_13 _ _ ⟨rfl,rfl⟩ rfl)) (op_offi 14 13 16 true rfl rfl (by kernel_rfl) (by kernel_rfl) rfl (fun v R h=>by rw [hs3_13] at h; obtain ⟨h,_⟩ := h; exact h) rfl rfl)) (op_offi 15 13 16 true rfl rfl (by kernel_rfl) (by kernel_rfl) rfl (fun v R h=>by rw [hs3_13] at h; obtain ⟨h,_⟩ := h; exact h) rfl rfl)) (op_offi 16 13 16 true rfl rfl (by kernel_rfl) (by kernel_rfl) rfl (fun v R h=>by rw [hs3_13] at h; obtain ⟨h,_⟩ := h; exact h) rfl rfl)) (ops3_17 _ _ ⟨rfl,rfl,rfl⟩ rfl)) (ops3_18 _ _ ⟨rfl,rfl⟩ rfl)) (op_offi 19 18 21 true rfl rfl (by kernel_rfl) (by kernel_rfl) rfl (fun v R h=>by rw [hs3_18] at h; obtain ⟨h,_⟩ := h; exact h) rfl rfl)) (op_offi 20 18 21 true rfl rfl (by kernel_rfl) (by kernel_rfl) rfl (fun v R h=>by rw [hs3_18] at h; obtain ⟨h,_⟩ := h; exact h) rfl rfl)) (op_offi 21 18 21 true rfl rfl (by kernel_rfl) (by kernel_rfl) rfl (fun v R h=>by rw [hs3_18] at h; obtain ⟨h,_⟩ := h; exact h) rfl rfl)) (ops3_22 _ _ ⟨rfl,rfl,rfl⟩ rfl)) (ops3_23 _ _ ⟨rfl,rfl⟩ rfl)) (op_offi 24 23 26 true rfl rfl (by kernel_rfl) (by kernel_rfl) rfl (fun v R h=>by rw [hs3_23] at h; obtain ⟨h,_⟩ := h; exact h) rfl rfl)) (op_offi 25 23 26 true rfl rfl (by kernel_rfl) (by kernel_rfl) rfl (fun v R h=>by rw [hs3_23] at h; obtain ⟨h,_⟩ := h; exact h) rfl rfl)) (op_offi 26 23 26 true rfl rfl (by kernel_rfl) (by kernel_rfl) rfl (fun v R h=>by rw [hs3_23] at h; obtain ⟨h,_⟩ := h; exact h) rfl rfl)) (ops3_27 _ _ ⟨rfl,rfl,rfl⟩ rfl)) (ops3_28 _ _ ⟨rfl,rfl⟩ rfl)) (op_offi 29 28 31 true rfl rfl (by kernel_rfl) (by kernel_rfl) rfl (fun v R h=>by rw [hs3_28] at h; obtain ⟨h,_⟩ := h; exact h) rfl rfl)) (op_offi 30 28 31 true rfl rfl (by kernel_rfl) (by kernel_rfl) rfl (fun v R h=>by rw [hs3_28] at h; obtain ⟨h,_⟩ := h; exact h) rfl rfl)) (op_offi 31 28 31 true rfl rfl (by kernel_rfl) (by kernel_rfl) rfl (fun v R h=>by rw [hs3_28] at h; obtain ⟨h,_⟩ := h; exact h) rfl rfl)) (op_offi 32 28 31 true rfl rfl (by kernel_rfl) (by kernel_rfl) rfl (fun v R h=>by rw [hs3_28] at h; obtain ⟨h,_⟩ := h; exact h) rfl rfl)) ?_
  intro vs Rs f' S' hp hf hx hS hR
  obtain ⟨hv28,hR28⟩ := (spe rfl hs3_28 (hp 28 (by kernel_rfl)))
  obtain ⟨hv30,hR30⟩ := (spe rfl rfl (hp 30 (by kernel_rfl)):spu _ _)
  obtain ⟨hv32,hR32⟩ := (spe rfl rfl (hp 32 (by kernel_rfl)):spu _ _)
  refine ls_fr (F:=upd f' 31 (.bool false)) (fr_next (rfl) ((hf 28 31 (by kernel_rfl) rfl).trans hv28)) ?_
  refine ls_sub (s0) (sub_nil _) ?_
  refine lofx 28 31 true false ?_
  refine lofx 28 31 true false ?_
  refine lv (.bool false) ?_
  refine lv (.bool false) ?_
  refine ls_end ?_
  refine qn_then ?_
  refine cs_ret' ?_
  obtain rfl := Option.some.inj H
  refine qr_res (rs:=[_]) rfl (fun w' hs=>⟨[.bool false],(res_tmp (by kernel_rfl) (.nil)),(),rfl,hs.pick (ts:=[]) (cs:=[]) trivial (by decide)⟩)
 replace H := ite_f q4 H
 obtain ⟨s3_7,hs3_7⟩ := exv (.bool false)
 refine have_opa shadowboxref06_Right.tab1 1 7 (fun sp=>sp 7=s3_7∧sp 3=s3_3∧sp 6=spu) (fun sp on hA hon=>?_) (fun ops3_7=>?_)
 ·refine ⟨fun o ho vs Rs f' S' w hp hf hx hS hR hs=>?_⟩
  obtain rfl := Option.some.inj ho
  obtain ⟨hv3,hR3⟩ := (spe hA.2.1 hs3_3 (hp 3 (by kernel_rfl)))
  obtain ⟨hv6,hR6⟩ := (spe hA.2.2 rfl (hp 6 (by kernel_rfl)):spu _ _)
  exact opv (.bool false) hA.1 hs3_7 hon (fr_next (fr_next (rfl) (((hf 3 6 (by kernel_rfl) rfl).trans hv3).trans (congrArg Value.bool (show (decide (a0.2.1≥(1:Int)))=false from dec_f q4)))) ((hf 6 9 (by kernel_rfl) rfl).trans hv6))
 obtain ⟨s3_8,hs3_8⟩ := exv (.bool false)
 refine have_opa shadowboxref06_Right.tab1 1 8 (fun sp=>sp 8=s3_8∧sp 7=s3_7) (fun sp on hA hon=>?_) (fun ops3_8=>?_)
 ·refine ⟨fun o ho vs Rs f' S' w hp hf hx hS hR hs=>?_⟩
  obtain rfl := Option.some.inj ho
  obtain ⟨hv7,hR7⟩ := (spe hA.2 hs3_7 (hp 7 (by kernel_rfl)))
  exact opv (.bool false) hA.1 hs3_8 hon (fr_next (rfl) ((hf 7 10 (by kernel_rfl) rfl).trans hv7))
 obtain ⟨s3_12,hs3_12⟩ := exv (.bool false)
 refine have_opa shadowboxref06_Right.tab1 1 12 (fun sp=>sp 12=s3_12∧sp 8=s3_8∧sp 11=spu) (fun sp on hA hon=>?_) (fun ops3_12=>?_)
 ·refine ⟨fun o ho vs Rs f' S' w hp hf hx hS hR hs=>?_⟩
  obtain rfl := Option.some.inj ho
  obtain ⟨hv8,hR8⟩ := (spe hA.2.1 hs3_8 (hp 8 (by kernel_rfl)))
  obtain ⟨hv11,hR11⟩ := (spe hA.2.2 rfl (hp 11 (by kernel_rfl)):spu _ _)
  exact opv (.bool false) hA.1 hs3_12 hon (fr_next (fr_next (rfl) ((hf 8 11 (by kernel_rfl) rfl).trans hv8)) ((hf 11 14 (by kernel_rfl) rfl).trans hv11))
 obtain ⟨s3_13,hs3_13⟩ := exv (.bool false)
 refine have_opa shadowboxref06_Right.tab1 1 13 (fun sp=>sp 13=s3_13∧sp 12=s3_12) (fun sp on hA hon=>?_) (fun ops3_13=>?_)
 ·refine ⟨fun o ho vs Rs f' S' w hp hf hx hS hR hs=>?_⟩
  obtain rfl := Option.some.inj ho
  obtain ⟨hv12,hR12⟩ := (spe hA.2 hs3_12 (hp 12 (by kernel_rfl)))
  exact opv (.bool false) hA.1 hs3_13 hon (fr_next (rfl) ((hf 12 15 (by kernel_rfl) rfl).trans hv12))
 obtain ⟨s3_17,hs3_17⟩ := exv (.bool false)
 refine have_opa shadowboxref06_Right.tab1 1 17 (fun sp=>sp 17=s3_17∧sp 13=s3_13∧sp 16=spu) (fun sp on hA hon=>?_) (fun ops3_17=>?_)
 ·refine ⟨fun o ho vs Rs f' S' w hp hf hx hS hR hs=>?_⟩
  obtain rfl := Option.some.inj ho
  obtain ⟨hv13,hR13⟩ := (spe hA.2.1 hs3_13 (hp 13 (by kernel_rfl)))
  obtain ⟨hv16,hR16⟩ := (spe hA.2.2 rfl (hp 16 (by kernel_rfl)):spu _ _)
  exact opv (.bool false) hA.1 hs3_17 hon (fr_next (fr_next (rfl) ((hf 13 16 (by kernel_rfl) rfl).trans hv13)) ((hf 16 19 (by kernel_rfl) rfl).trans hv16))
 obtain ⟨s3_18,hs3_18⟩ := exv (.bool false)
 refine have_opa shadowboxref06_Right.tab1 1 18 (fun sp=>sp 18=s3_18∧sp 17=s3_17) (fun sp on hA hon=>?_) (fun ops3_18=>?_)
 ·refine ⟨fun o ho vs Rs f' S' w hp hf hx hS hR hs=>?_⟩
  obtain rfl := Option.some.inj ho
  obtain ⟨hv17,hR17⟩ := (spe hA.2 hs3_17 (hp 17 (by kernel_rfl)))
  exact opv (.bool false) hA.1 hs3_18 hon (fr_next (rfl) ((hf 17 20 (by kernel_rfl) rfl).trans hv17))
 obtain ⟨s3_22,hs3_22⟩ := exv (.bool false)
 refine have_opa shadowboxref06_Right.tab1 1 22 (fun sp=>sp 22=s3_22∧sp 18=s3_18∧sp 21=spu) (fun sp on hA hon=>?_) (fun ops3_22=>?_)
 ·refine ⟨fun o ho vs Rs f' S' w hp hf hx hS hR hs=>?_⟩
  obtain rfl := Option.some.inj ho
  obtain ⟨hv18,hR18⟩ := (spe hA.2.1 hs3_18 (hp 18 (by kernel_rfl)))
  obtain ⟨hv21,hR21⟩ := (spe hA.2.2 rfl (hp 21 (by kernel_rfl)):spu _ _)
  exact opv (.bool false) hA.1 hs3_22 hon (fr_next (fr_next (rfl) ((hf 18 21 (by kernel_rfl) rfl).trans hv18)) ((hf 21 24 (by kernel_rfl) rfl).trans hv21))
 obtain ⟨s3_23,hs3_23⟩ := exv (.bool false)
 refine have_opa shadowboxref06_Right.tab1 1 23 (fun sp=>sp 23=s3_23∧sp 22=s3_22) (fun sp on hA hon=>?_) (fun ops3_23=>?_)
 ·refine ⟨fun o ho vs Rs f' S' w hp hf hx hS hR hs=>?_⟩
  obtain rfl := Option.some.inj ho
  obtain ⟨hv22,hR22⟩ := (spe hA.2 hs3_22 (hp 22 (by kernel_rfl)))
  exact opv (.bool false) hA.1 hs3_23 hon (fr_next (rfl) ((hf 22 25 (by kernel_rfl) rfl).trans hv22))
 obtain ⟨s3_27,hs3_27⟩ := exv (.bool false)
 refine have_opa shadowboxref06_Right.tab1 1 27 (fun sp=>sp 27=s3_27∧sp 23=s3_23∧sp 26=spu) (fun sp on hA hon=>?_) (fun ops3_27=>?_)
 ·refine ⟨fun o ho vs Rs f' S' w hp hf hx hS hR hs=>?_⟩
  obtain rfl := Option.some.inj ho
  obtain ⟨hv23,hR23⟩ := (spe hA.2.1 hs3_23 (hp 23 (by kernel_rfl)))
  obtain ⟨hv26,hR26⟩ := (spe hA.2.2 rfl (hp 26 (by kernel_rfl)):spu _ _)
  exact opv (.bool false) hA.1 hs3_27 hon (fr_next (fr_next (rfl) ((hf 23 26 (by kernel_rfl) rfl).trans hv23)) ((hf 26 29 (by kernel_rfl) rfl).trans hv26))
 obtain ⟨s3_28,hs3_28⟩ := exv (.bool false)
 refine have_opa shadowboxref06_Right.tab1 1 28 (fun sp=>sp 28=s3_28∧sp 27=s3_27) (fun sp on hA hon=>?_) (fun ops3_28=>?_)
 ·refine ⟨fun o ho vs Rs f' S' w hp hf hx hS hR hs=>?_⟩
  obtain rfl := Option.some.inj ho
  obtain ⟨hv27,hR27⟩ := (spe hA.2 hs3_27 (hp 27 (by kernel_rfl)))
  exact opv (.bool false) hA.1 hs3_28 hon (fr_next (rfl) ((hf 27 30 (by kernel_rfl) rfl).trans hv27))
 refine cs_draw shadowboxref06_Right.tab1 33 1 (spl [s3_0,s3_1,s3_2,s3_3,spu,spu,spu,s3_7,s3_8,spu,spu,spu,s3_12,s3_13,spu,spu,spu,s3_17,s3_18,spu,spu,spu,s3_22,s3_23,spu,spu,spu,s3_27,s3_28,spu,spu,spu,spu]) (onl [true,true,true,true,false,false,false,true,true,false,false,false,true,true,false,false,false,true,true,false,false,false,true,true,false,false,false,true,true,false,false,false,false]) (by kernel_rfl) (by kernel_rfl) (by kernel_rfl) (by kernel_rfl) (rs:=[_,_,_,_]) rfl (by kernel_rfl) (by kernel_rfl) (all_snoc (all_snoc (all_snoc (all_snoc (all_snoc (all_snoc (all_snoc (all_snoc (all_snoc (all_snoc (all_snoc (all_snoc (all_snoc (all_snoc (all_snoc (all_snoc (all_snoc (all_snoc (all_snoc (all_snoc (all_snoc (all_snoc (all_snoc (all_snoc (all_snoc (all_snoc (all_snoc (all_snoc (all_snoc (all_snoc (all_snoc (all_snoc (all_snoc (all_nil) (ops3_0 _ _ rfl rfl)) (ops3_1 _ _ ⟨rfl,rfl⟩ rfl)) (ops3_2 _ _ ⟨rfl,rfl⟩ rfl)) (ops3_3 _ _ ⟨rfl,rfl⟩ rfl)) (op_offi 4 3 6 true rfl rfl (by kernel_rfl) (by kernel_rfl) rfl (fun v R h=>by rw [hs3_3] at h; obtain ⟨h,_⟩ := h; exact h.trans (congrArg Value.bool (show (decide (a0.2.1≥(1:Int)))=false from dec_f q4))) rfl rfl)) (op_offi 5 3 6 true rfl rfl (by kernel_rfl) (by kernel_rfl) rfl (fun v R h=>by rw [hs3_3] at h; obtain ⟨h,_⟩ := h; exact h.trans (congrArg Value.bool (show (decide (a0.2.1≥(1:Int)))=false from dec_f q4))) rfl rfl)) (op_offi 6 3 6 true rfl rfl (by kernel_rfl) (by kernel_rfl) rfl (fun v R h=>by rw [hs3_3] at h; obtain ⟨h,_⟩ := h; exact h.trans (congrArg Value.bool (show (decide (a0.2.1≥(1:Int)))=false from dec_f q4))) rfl rfl)) (ops3_7 _ _ ⟨rfl,rfl,rfl⟩ rfl)) (ops3_8 _ _ ⟨rfl,rfl⟩ rfl)) (op_offi 9 8 11 true rfl rfl (by kernel_rfl) (by kernel_rfl) rfl (fun v R h=>by rw [hs3_8] at h; obtain ⟨h,_⟩ := h; exact h) rfl rfl)) (op_offi 10 8 11 true rfl rfl (by kernel_rfl) (by kernel_rfl) rfl (fun v R h=>by rw [hs3_8] at h; obtain ⟨h,_⟩ := h; exact h) rfl rfl)) (op_offi 11 8 11 true rfl rfl (by kernel_rfl) (by kernel_rfl) rfl (fun v R h=>by rw [hs3_8] at h; obtain ⟨h,_⟩ := h; exact h) rfl rfl)) (ops3_12 _ _ ⟨rfl,rfl,rfl⟩ rfl)) (ops3_13 _ _ ⟨rfl,rfl⟩ rfl)) (op_offi 14 13 16 true rfl rfl (by kernel_rfl) (by kernel_rfl) rfl (fun v R h=>by rw [hs3_13] at h; obtain ⟨h,_⟩ := h; exact h) rfl rfl)) (op_offi 15 13 16 true rfl rfl (by kernel_rfl) (by kernel_rfl) rfl (fun v R h=>by rw [hs3_13] at h; obtain ⟨h,_⟩ := h; exact h) rfl rfl)) (op_offi 16 13 16 true rfl rfl (by kernel_rfl) (by kernel_rfl) rfl (fun v R h=>by rw [hs3_13] at h; obtain ⟨h,_⟩ := h; exact h) rfl rfl)) (ops3_17 _ _ ⟨rfl,rfl,rfl⟩ rfl)) (ops3_18 _ _ ⟨rfl,rfl⟩ rfl)) (op_offi 19 18 21 true rfl rfl (by kernel_rfl) (by kernel_rfl) rfl (fun v R h=>by rw [hs3_18] at h; obtain ⟨h,_⟩ := h; exact h) rfl rfl)) (op_offi 20 18 21 true rfl rfl (by kernel_rfl) (by kernel_rfl) rfl (fun v R h=>by rw [hs3_18] at h; obtain ⟨h,_⟩ := h; exact h) rfl rfl)) (op_offi 21 18 21 true rfl rfl (by kernel_rfl) (by kernel_rfl) rfl (fun v R h=>by rw [hs3_18] at h; obtain ⟨h,_⟩ := h; exact h) rfl rfl)) (ops3_22 _ _ ⟨rfl,rfl,rfl⟩ rfl)) (ops3_23 _ _ ⟨rfl,rfl⟩ rfl)) (op_offi 24 23 26 true rfl rfl (by kernel_rfl) (by kernel_rfl) rfl (fun v R h=>by rw [hs3_23] at h; obtain ⟨h,_⟩ := h; exact h) rfl rfl)) (op_offi 25 23 26 true rfl rfl (by kernel_rfl) (by kernel_rfl) rfl (fun v R h=>by rw [hs3_23] at h; obtain ⟨h,_⟩ := h; exact h) rfl rfl)) (op_offi 26 23 26 true rfl rfl (by kernel_rfl) (by kernel_rfl) rfl (fun v R h=>by rw [hs3_23] at h; obtain ⟨h,_⟩ := h; exact h) rfl rfl)) (ops3_27 _ _ ⟨rfl,rfl,rfl⟩ rfl)) (ops3_28 _ _ ⟨rfl,rfl⟩ rfl)) (op_offi 29 28 31 true rfl rfl (by kernel_rfl) (by kernel_rfl) rfl (fun v R h=>by rw [hs3_28] at h; obtain ⟨h,_⟩ := h; exact h) rfl rfl)) (op_offi 30 28 31 true rfl rfl (by kernel_rfl) (by kernel_rfl) rfl (fun v R h=>by rw [hs3_28] at h; obtain ⟨h,_⟩ := h; exact h) rfl rfl)) (op_offi 31 28 31 true rfl rfl (by kernel_rfl) (by kernel_rfl) rfl (fun v R h=>by rw [hs3_28] at h; obtain ⟨h,_⟩ := h; exact h) rfl rfl)) (op_offi 32 28 31 true rfl rfl (by kernel_rfl) (by kernel_rfl) rfl (fun v R h=>by rw [hs3_28] at h; obtain ⟨h,_⟩ := h; exact h) rfl rfl)) ?_
 intro vs Rs f' S' hp hf hx hS hR
 obtain ⟨hv28,hR28⟩ := (spe rfl hs3_28 (hp 28 (by kernel_rfl)))
 obtain ⟨hv30,hR30⟩ := (spe rfl rfl (hp 30 (by kernel_rfl)):spu _ _)
 obtain ⟨hv32,hR32⟩ := (spe rfl rfl (hp 32 (by kernel_rfl)):spu _ _)
 refine ls_fr (F:=upd f' 31 (.bool false)) (fr_next (rfl) ((hf 28 31 (by kernel_rfl) rfl).trans hv28)) ?_
 refine ls_sub (s0) (sub_nil _) ?_
 refine lofx 28 31 true false ?_
 refine lofx 28 31 true false ?_
 refine lv (.bool false) ?_
 refine lv (.bool false) ?_
 refine ls_end ?_
 refine qn_then ?_
 refine cs_ret' ?_
 obtain rfl := Option.some.inj H
 refine qr_res (rs:=[_]) rfl (fun w' hs=>⟨[.bool false],(res_tmp (by kernel_rfl) (.nil)),(),rfl,hs.pick (ts:=[]) (cs:=[]) trivial (by decide)⟩)
def shadowboxref06_Read.lo2 (l0:List Int):Nat→Int→(PT)→Option (PT × Int)
  | 0,_,_=>none
  | k2+1,x17_2,m5_2=>(if x17_2<(32:Int) then (if 0≤IntKind.wrap .i64 ((20:Int)+x17_2) then (if IntKind.wrap .i64 ((20:Int)+x17_2)<(l0.length:Int) then lt (((l0).getD (IntKind.wrap .i64 ((20:Int)+x17_2)).toNat (0:Int))) fun y63=>(if 0≤x17_2 then lt (vset m5_2.2.2.2.2 (x17_2).toNat y63) fun y66=>(shadowboxref06_Read.lo2 l0 k2) (IntKind.wrap .i64 (x17_2+(1:Int))) (m5_2.1,m5_2.2.1,m5_2.2.2.1,m5_2.2.2.2.1,y66) else none) else none) else none) else (shadowboxref06_None.f k2 m5_2).bind fun t68=>(if t68=true then some (m5_2,(0:Int)) else (shadowboxref06_Right.f k2 m5_2).bind fun t72=>(if t72=true then some (m5_2,(0:Int)) else some (((0:Int),(0:Int),(0:Int),(0:Int),(vrep 32 (0:Int))),(11:Int)))))
def shadowboxref06_Read.jo1 (k:Nat) (l0:List Int):Option (PT × Int) := (if (4:Int)≤(l0.length:Int) then lt (l0.take ((4:Int)).toNat) fun xl7=>(shadowboxref01_Take.f k xl7 (4:Int)).bind fun t12=>(if (8:Int)≤(l0.length:Int) then (if (4:Int)≤(8:Int) then lt ((l0.take ((8:Int)).toNat).drop ((4:Int)).toNat) fun xl21=>(shadowboxref01_Take.f k xl21 (4:Int)).bind fun t26=>(if (16:Int)≤(l0.length:Int) then (if (8:Int)≤(16:Int) then lt ((l0.take ((16:Int)).toNat).drop ((8:Int)).toNat) fun xl35=>(shadowboxref01_Take.f k xl35 (8:Int)).bind fun t40=>(if (20:Int)≤(l0.length:Int) then (if (16:Int)≤(20:Int) then lt ((l0.take ((20:Int)).toNat).drop ((16:Int)).toNat) fun xl49=>(shadowboxref01_Take.f k xl49 (4:Int)).bind fun t54=>shadowboxref06_Read.lo2 l0 k (0:Int) (IntKind.wrap .i64 t12.1,IntKind.wrap .i64 t40.1,IntKind.wrap .i64 t26.1,IntKind.wrap .u32 t54.1,(vrep 32 (0:Int))) else none) else none) else none) else none) else none) else none) else none)
def shadowboxref06_Read.f (k:Nat) (l0:List Int):Option (PT × Int) :=
  (if (l0.length:Int)<(52:Int) then some (((0:Int),(0:Int),(0:Int),(0:Int),(vrep 32 (0:Int))),(10:Int)) else (shadowboxref06_Read.jo1 k l0))
theorem shadowboxref06_Read.calls (k:Nat) (A0:Option Addr) (c0:Nat) (l0:List Int) (r:PT × Int) (b:Bs) (hs0:St b (stl []) b.w) (R0:Ro b A0 (em (Ec.int 5 .u8) l0)) (C0:l0.length≤c0) (H:shadowboxref06_Read.f k l0=some r) :
    Calls Try.prog 66 #[.slice A0 l0.length c0] b.w fun e w'=>∃ x:Unit,e=.returned (.tuple #[.agg ⟨([Value.int .i64 r.1.1]++([Value.int .i64 r.1.2.1]++([Value.int .i64 r.1.2.2.1]++([Value.int .u32 r.1.2.2.2.1]++en (Value.int .u8) r.1.2.2.2.2.1))))⟩,.int .i64 r.2])∧St b (stl []) w' := by
 unfold shadowboxref06_Read.f at H
 refine enterb (n:=81) Try.func66 rfl (by kernel_rfl) (by kernel_rfl) hs0 ?_
 refine cs_sub (s0) (sub_nil _) ?_
 refine cs_seq ?_
 refine cs_region (l:=[_,_]) ?_
 refine ls_new rfl rfl (by kernel_rfl) 0 (fun g=>.pointer (some ⟨g,0,none⟩)) (.cells ⟨([Value.int .i64 (0:Int)]++([Value.int .i64 (0:Int)]++([Value.int .i64 (0:Int)]++([Value.int .u32 (0:Int)]++en (Value.int .u8) (vrep 32 (0:Int)).1))))⟩ 44) (fun w=>by kernel_rfl) ?_
 intro g1
 refine lv (.int .i64 (0:Int)) ?_
 refine ls_end ?_
 refine qn_then ?_
 refine cs_cut (fun f S=>∃ (fR:Fr),f=upd (upd fR 0 (.slice A0 l0.length c0)) 2 (.pointer (some ⟨g1,0,none⟩))∧S=sput s0 0 (some (Ck.var 44 g1 (([Value.int .i64 (0:Int)]++([Value.int .i64 (0:Int)]++([Value.int .i64 (0:Int)]++([Value.int .u32 (0:Int)]++en (Value.int .u8) (vrep 32 (0:Int)).1)))))))∧shadowboxref06_Read.jo1 k l0=some r) ?_ ?_
 ·skip
  refine cs_seq ?_
  refine cs_region (l:=[_,_,_]) ?_
  refine lv (.slice A0 l0.length c0) ?_
  refine lv (.int .i64 (l0.length:Int)) ?_
  refine lv (.bool (decide ((l0.length:Int)<(52:Int)))) ?_
  refine ls_end ?_
  refine qn_then ?_
  by_cases q76:(l0.length:Int)<(52:Int)
  ·replace H := ite_t q76 H
   refine cs_know (c:=true) (dec_t q76) 20 (by kernel_rfl) ?_
   refine cs_true (by kernel_rfl) ?_
   refine cs_seq ?_
   refine cs_region (l:=[_,_,_]) ?_
   refine ls_build (ps:=[]) (pl:=#[(0,1),(1,1),(2,1),(3,1),(4,32)]) (zv:=.agg ⟨([Value.int .i64 (0:Int)]++([Value.int .i64 (0:Int)]++([Value.int .i64 (0:Int)]++([Value.int .u32 (0:Int)]++en (Value.int .u8) (vrep 32 (0:Int)).1))))⟩) (zc:=([Value.int .i64 (0:Int)]++([Value.int .i64 (0:Int)]++([Value.int .i64 (0:Int)]++([Value.int .u32 (0:Int)]++en (Value.int .u8) (vrep 32 (0:Int)).1))))) (r:=([Value.int .i64 (0:Int)]++([Value.int .i64 (0:Int)]++([Value.int .i64 (0:Int)]++([Value.int .u32 (0:Int)]++en (Value.int .u8) (vrep 32 (0:Int)).1))))) rfl rfl (by kernel_rfl) rfl (by kernel_rfl) (by kernel_rfl) (fun w=>by kernel_rfl) (fun w=>by kernel_rfl) rfl fill_nil ?_
   refine ls_storec (g:=g1) (off:=0) (v:=.agg ⟨([Value.int .i64 (0:Int)]++([Value.int .i64 (0:Int)]++([Value.int .i64 (0:Int)]++([Value.int .u32 (0:Int)]++en (Value.int .u8) (vrep 32 (0:Int)).1))))⟩) (vs:=([Value.int .i64 (0:Int)]++([Value.int .i64 (0:Int)]++([Value.int .i64 (0:Int)]++([Value.int .u32 (0:Int)]++en (Value.int .u8) (vrep 32 (0:Int)).1))))) (cs:=([Value.int .i64 (0:Int)]++([Value.int .i64 (0:Int)]++([Value.int .i64 (0:Int)]++([Value.int .u32 (0:Int)]++en (Value.int .u8) (vrep 32 (0:Int)).1))))) (ty:=44) 0 rfl rfl rfl (by kernel_rfl) (by kernel_rfl) (by kernel_rfl) (by exact rfl) (by kernel_rfl) (len_app (len1 _) (len_app (len1 _) (len_app (len1 _) (len_app (len1 _) (len_en _ (vrep 32 (0:Int))))))) (one_app (one_cons rfl one_nil) (one_app (one_cons rfl one_nil) (one_app (one_cons rfl one_nil) (one_app (one_cons rfl one_nil) (one_en (fun _=>rfl) _))))) (hl_of (Sub4.all _) (len_eq (len_app (len1 _) (len_app (len1 _) (len_app (len1 _) (len_app (len1 _) (len_en _ (vrep 32 (0:Int))))))) (len_app (len1 _) (len_app (len1 _) (len_app (len1 _) (len_app (len1 _) (len_en _ (vrep 32 (0:Int))))))))) (cs' := ([Value.int .i64 (0:Int)]++([Value.int .i64 (0:Int)]++([Value.int .i64 (0:Int)]++([Value.int .u32 (0:Int)]++en (Value.int .u8) (vrep 32 (0:Int)).1))))) (splc_all (len_eq (len_app (len1 _) (len_app (len1 _) (len_app (len1 _) (len_app (len1 _) (len_en _ (vrep 32 (0:Int))))))) (len_app (len1 _) (len_app (len1 _) (len_app (len1 _) (len_app (len1 _) (len_en _ (vrep 32 (0:Int))))))))) ?_
   refine lv (.int .i64 (10:Int)) ?_
   refine ls_end ?_
   refine qn_then ?_
   refine cs_ret' ?_
   refine qr_then ?_
   obtain rfl := Option.some.inj H
   refine qr_res (rs:=[_,_]) rfl (fun w' hs=>⟨[.agg ⟨([Value.int .i64 (0:Int)]++([Value.int .i64 (0:Int)]++([Value.int .i64 (0:Int)]++([Value.int .u32 (0:Int)]++en (Value.int .u8) (vrep 32 (0:Int)).1))))⟩,.int .i64 (10:Int)],(.cell (by kernel_rfl) (run_cellres (by kernel_rfl) (by kernel_rfl) (len_app (len1 _) (len_app (len1 _) (len_app (len1 _) (len_app (len1 _) (len_en _ (vrep 32 (0:Int))))))) (hs.holds 0 _ (by exact rfl))) (res_tmp (by kernel_rfl) (.nil))),(),rfl,hs.pick (ts:=[]) (cs:=[]) trivial (by decide)⟩)
  replace H := ite_f q76 H
  refine cs_know (c:=false) (dec_f q76) 20 (by kernel_rfl) ?_
  refine cs_false (by kernel_rfl) ?_
  refine cs_skip' ?_
  refine qn_meet (sput s0 0 (some (Ck.var 44 g1 (([Value.int .i64 (0:Int)]++([Value.int .i64 (0:Int)]++([Value.int .i64 (0:Int)]++([Value.int .u32 (0:Int)]++en (Value.int .u8) (vrep 32 (0:Int)).1)))))))) ⟨_,fr_next (fr_next (rfl) (by kernel_rfl)) (by kernel_rfl),rfl,H⟩ (sub_put (by exact rfl) (sub_nil _))
 rintro f S ⟨fr1,rfl,rfl,H⟩
 replace H:((if (4:Int)≤(l0.length:Int) then lt (l0.take ((4:Int)).toNat) fun xl7=>(shadowboxref01_Take.f k xl7 (4:Int)).bind fun t12=>(if (8:Int)≤(l0.length:Int) then (if (4:Int)≤(8:Int) then lt ((l0.take ((8:Int)).toNat).drop ((4:Int)).toNat) fun xl21=>(shadowboxref01_Take.f k xl21 (4:Int)).bind fun t26=>(if (16:Int)≤(l0.length:Int) then (if (8:Int)≤(16:Int) then lt ((l0.take ((16:Int)).toNat).drop ((8:Int)).toNat) fun xl35=>(shadowboxref01_Take.f k xl35 (8:Int)).bind fun t40=>(if (20:Int)≤(l0.length:Int) then (if (16:Int)≤(20:Int) then lt ((l0.take ((20:Int)).toNat).drop ((16:Int)).toNat) fun xl49=>(shadowboxref01_Take.f k xl49 (4:Int)).bind fun t54=>shadowboxref06_Read.lo2 l0 k (0:Int) (IntKind.wrap .i64 t12.1,IntKind.wrap .i64 t40.1,IntKind.wrap .i64 t26.1,IntKind.wrap .u32 t54.1,(vrep 32 (0:Int))) else none) else none) else none) else none) else none) else none) else none))=some r := H
 refine cs_seq ?_
 refine cs_region (l:=[_,_,_,_,_,_,_,_,_,_]) ?_
 refine lv (.slice A0 l0.length c0) ?_
 obtain ⟨q2,H⟩ := ite_need H
 obtain ⟨xl7,hy8,H⟩ := lt_some H
 have hz10:0≤((4:Int)).toNat := by omega
 have hz11:((4:Int)).toNat≤l0.length := by omega
 obtain ⟨xA3,xc4,he9,xC6,xR5⟩ := cut_at (A:=A0) (c:=c0) (l:=l0) (Ec.int 5 .u8) 0 (((4:Int)).toNat) hz10 hz11 C0 R0 (m:=xl7) (by rw [← hy8] <;> simp) (z:=1) rfl
 refine ls_cutv (A:=A0) (c:=c0) (m:=l0.length) (z:=1) (e:=5) (a:=0) (b:=((4:Int)).toNat) rfl rfl (by kernel_rfl) rfl (by kernel_rfl) (by kernel_rfl) (by kernel_rfl) (.inl ⟨rfl,rfl⟩) (.inr ⟨.i64,by rw [Int.toNat_of_nonneg (by first | assumption | omega)]; kernel_rfl⟩) hz10 hz11 C0 he9 ?_
 obtain ⟨t12,hc13,H⟩ := bind_some H
 refine ls_callb (fid:=93) (vals:=#[.slice xA3 xl7.length xc4,.int .i64 (4:Int)]) (X:=(Option Addr × Nat)) (fun x=>.tuple #[.int .u64 t12.1,.slice x.1 t12.2.1.length x.2,.bool t12.2.2]) (fun x=>stl [Ck.sl (Ec.int 5 .u8) x.1 x.2 t12.2.1]) [] [] [] [] 1 rfl rfl (by kernel_rfl) (fun w=>by kernel_rfl) trivial trivial (by decide) (fun w hs hb=>shadowboxref01_Take.calls k xA3 xc4 xl7 (4:Int) t12 (lent b w [] []) hb (hs.ro xR5 _ _) xC6 hc13) ?_
 intro x14
 refine lv (.tuple #[.int .u64 t12.1,.slice x14.1 t12.2.1.length x14.2,.bool t12.2.2]) ?_
 refine lv (.int .u64 t12.1) ?_
 refine lv (.slice x14.1 t12.2.1.length x14.2) ?_
 refine lv (.bool t12.2.2) ?_
 refine lv (.int .u64 t12.1) ?_
 refine lv (.slice x14.1 t12.2.1.length x14.2) ?_
 refine lv (.bool t12.2.2) ?_
 refine ls_end ?_
 refine qn_then ?_
 refine cs_seq ?_
 refine cs_region (l:=[_,_,_,_,_,_,_,_,_,_]) ?_
 refine lv (.slice A0 l0.length c0) ?_
 obtain ⟨q15,H⟩ := ite_need H
 obtain ⟨q16,H⟩ := ite_need H
 obtain ⟨xl21,hy22,H⟩ := lt_some H
 have hz24:((4:Int)).toNat≤((8:Int)).toNat := by omega
 have hz25:((8:Int)).toNat≤l0.length := by omega
 obtain ⟨xA17,xc18,he23,xC20,xR19⟩ := cut_at (A:=A0) (c:=c0) (l:=l0) (Ec.int 5 .u8) (((4:Int)).toNat) (((8:Int)).toNat) hz24 hz25 C0 R0 (m:=xl21) (by rw [← hy22] <;> simp) (z:=1) rfl
 refine ls_cutv (A:=A0) (c:=c0) (m:=l0.length) (z:=1) (e:=5) (a:=((4:Int)).toNat) (b:=((8:Int)).toNat) rfl rfl (by kernel_rfl) rfl (by kernel_rfl) (by kernel_rfl) (by kernel_rfl) (.inr ⟨.i64,by rw [Int.toNat_of_nonneg (by first | assumption | omega)]; kernel_rfl⟩) (.inr ⟨.i64,by rw [Int.toNat_of_nonneg (by first | assumption | omega)]; kernel_rfl⟩) hz24 hz25 C0 he23 ?_
 obtain ⟨t26,hc27,H⟩ := bind_some H
 refine ls_callb (fid:=93) (vals:=#[.slice xA17 xl21.length xc18,.int .i64 (4:Int)]) (X:=(Option Addr × Nat)) (fun x=>.tuple #[.int .u64 t26.1,.slice x.1 t26.2.1.length x.2,.bool t26.2.2]) (fun x=>stl [Ck.sl (Ec.int 5 .u8) x.1 x.2 t26.2.1]) [] [] [] [] 2 rfl rfl (by kernel_rfl) (fun w=>by kernel_rfl) trivial trivial (by decide) (fun w hs hb=>shadowboxref01_Take.calls k xA17 xc18 xl21 (4:Int) t26 (lent b w [] []) hb (hs.ro xR19 _ _) xC20 hc27) ?_
 intro x28
 refine lv (.tuple #[.int .u64 t26.1,.slice x28.1 t26.2.1.length x28.2,.bool t26.2.2]) ?_
 refine lv (.int .u64 t26.1) ?_
 refine lv (.slice x28.1 t26.2.1.length x28.2) ?_
 refine lv (.bool t26.2.2) ?_
 refine lv (.int .u64 t26.1) ?_
 refine lv (.slice x28.1 t26.2.1.length x28.2) ?_
 refine lv (.bool t26.2.2) ?_
 refine ls_end ?_
 refine qn_then ?_
 refine cs_seq ?_
 refine cs_region (l:=[_,_,_,_,_,_,_,_,_,_]) ?_
 refine lv (.slice A0 l0.length c0) ?_
 obtain ⟨q29,H⟩ := ite_need H
 obtain ⟨q30,H⟩ := ite_need H
 obtain ⟨xl35,hy36,H⟩ := lt_some H
 have hz38:((8:Int)).toNat≤((16:Int)).toNat := by omega
 have hz39:((16:Int)).toNat≤l0.length := by omega
 obtain ⟨xA31,xc32,he37,xC34,xR33⟩ := cut_at (A:=A0) (c:=c0) (l:=l0) (Ec.int 5 .u8) (((8:Int)).toNat) (((16:Int)).toNat) hz38 hz39 C0 R0 (m:=xl35) (by rw [← hy36] <;> simp) (z:=1) rfl
 refine ls_cutv (A:=A0) (c:=c0) (m:=l0.length) (z:=1) (e:=5) (a:=((8:Int)).toNat) (b:=((16:Int)).toNat) rfl rfl (by kernel_rfl) rfl (by kernel_rfl) (by kernel_rfl) (by kernel_rfl) (.inr ⟨.i64,by rw [Int.toNat_of_nonneg (by first | assumption | omega)]; kernel_rfl⟩) (.inr ⟨.i64,by rw [Int.toNat_of_nonneg (by first | assumption | omega)]; kernel_rfl⟩) hz38 hz39 C0 he37 ?_
 obtain ⟨t40,hc41,H⟩ := bind_some H
 refine ls_callb (fid:=93) (vals:=#[.slice xA31 xl35.length xc32,.int .i64 (8:Int)]) (X:=(Option Addr × Nat)) (fun x=>.tuple #[.int .u64 t40.1,.slice x.1 t40.2.1.length x.2,.bool t40.2.2]) (fun x=>stl [Ck.sl (Ec.int 5 .u8) x.1 x.2 t40.2.1]) [] [] [] [] 3 rfl rfl (by kernel_rfl) (fun w=>by kernel_rfl) trivial trivial (by decide) (fun w hs hb=>shadowboxref01_Take.calls k xA31 xc32 xl35 (8:Int) t40 (lent b w [] []) hb (hs.ro xR33 _ _) xC34 hc41) ?_
 intro x42
 refine lv (.tuple #[.int .u64 t40.1,.slice x42.1 t40.2.1.length x42.2,.bool t40.2.2]) ?_
 refine lv (.int .u64 t40.1) ?_
 refine lv (.slice x42.1 t40.2.1.length x42.2) ?_
 refine lv (.bool t40.2.2) ?_
 refine lv (.int .u64 t40.1) ?_
 refine lv (.slice x42.1 t40.2.1.length x42.2) ?_
 refine lv (.bool t40.2.2) ?_
 refine ls_end ?_
 refine qn_then ?_
 refine cs_seq ?_
 refine cs_region (l:=[_,_,_,_,_,_,_,_,_,_]) ?_
 refine lv (.slice A0 l0.length c0) ?_
 obtain ⟨q43,H⟩ := ite_need H
 obtain ⟨q44,H⟩ := ite_need H
 obtain ⟨xl49,hy50,H⟩ := lt_some H
 have hz52:((16:Int)).toNat≤((20:Int)).toNat := by omega
 have hz53:((20:Int)).toNat≤l0.length := by omega
 obtain ⟨xA45,xc46,he51,xC48,xR47⟩ := cut_at (A:=A0) (c:=c0) (l:=l0) (Ec.int 5 .u8) (((16:Int)).toNat) (((20:Int)).toNat) hz52 hz53 C0 R0 (m:=xl49) (by rw [← hy50] <;> simp) (z:=1) rfl
 refine ls_cutv (A:=A0) (c:=c0) (m:=l0.length) (z:=1) (e:=5) (a:=((16:Int)).toNat) (b:=((20:Int)).toNat) rfl rfl (by kernel_rfl) rfl (by kernel_rfl) (by kernel_rfl) (by kernel_rfl) (.inr ⟨.i64,by rw [Int.toNat_of_nonneg (by first | assumption | omega)]; kernel_rfl⟩) (.inr ⟨.i64,by rw [Int.toNat_of_nonneg (by first | assumption | omega)]; kernel_rfl⟩) hz52 hz53 C0 he51 ?_
 obtain ⟨t54,hc55,H⟩ := bind_some H
 refine ls_callb (fid:=93) (vals:=#[.slice xA45 xl49.length xc46,.int .i64 (4:Int)]) (X:=(Option Addr × Nat)) (fun x=>.tuple #[.int .u64 t54.1,.slice x.1 t54.2.1.length x.2,.bool t54.2.2]) (fun x=>stl [Ck.sl (Ec.int 5 .u8) x.1 x.2 t54.2.1]) [] [] [] [] 4 rfl rfl (by kernel_rfl) (fun w=>by kernel_rfl) trivial trivial (by decide) (fun w hs hb=>shadowboxref01_Take.calls k xA45 xc46 xl49 (4:Int) t54 (lent b w [] []) hb (hs.ro xR47 _ _) xC48 hc55) ?_
 intro x56
 refine lv (.tuple #[.int .u64 t54.1,.slice x56.1 t54.2.1.length x56.2,.bool t54.2.2]) ?_
 refine lv (.int .u64 t54.1) ?_
 refine lv (.slice x56.1 t54.2.1.length x56.2) ?_
 refine lv (.bool t54.2.2) ?_
 refine lv (.int .u64 t54.1) ?_
 refine lv (.slice x56.1 t54.2.1.length x56.2) ?_
 refine lv (.bool t54.2.2) ?_
 refine ls_end ?_
 refine qn_then ?_
 refine cs_seq ?_
 refine cs_region (l:=[_,_,_,_,_,_,_,_,_,_,_]) ?_
 refine lv (.int .u64 t12.1) ?_
 refine lv (.int .i64 (IntKind.wrap .i64 t12.1)) ?_
 refine lv (.int .u64 t26.1) ?_
 refine lv (.int .i64 (IntKind.wrap .i64 t26.1)) ?_
 refine lv (.int .u64 t40.1) ?_
 refine lv (.int .i64 (IntKind.wrap .i64 t40.1)) ?_
 refine lv (.int .u64 t54.1) ?_
 refine lv (.int .u32 (IntKind.wrap .u32 t54.1)) ?_
 refine ls_build (ps:=[(0,.int .i64 (IntKind.wrap .i64 t12.1)),(2,.int .i64 (IntKind.wrap .i64 t26.1)),(1,.int .i64 (IntKind.wrap .i64 t40.1)),(3,.int .u32 (IntKind.wrap .u32 t54.1))]) (pl:=#[(0,1),(1,1),(2,1),(3,1),(4,32)]) (zv:=.agg ⟨([Value.int .i64 (0:Int)]++([Value.int .i64 (0:Int)]++([Value.int .i64 (0:Int)]++([Value.int .u32 (0:Int)]++en (Value.int .u8) (vrep 32 (0:Int)).1))))⟩) (zc:=([Value.int .i64 (0:Int)]++([Value.int .i64 (0:Int)]++([Value.int .i64 (0:Int)]++([Value.int .u32 (0:Int)]++en (Value.int .u8) (vrep 32 (0:Int)).1))))) (r:=([Value.int .i64 (IntKind.wrap .i64 t12.1)]++([Value.int .i64 (IntKind.wrap .i64 t40.1)]++([Value.int .i64 (IntKind.wrap .i64 t26.1)]++([Value.int .u32 (IntKind.wrap .u32 t54.1)]++en (Value.int .u8) (vrep 32 (0:Int)).1))))) rfl rfl (by kernel_rfl) rfl (by kernel_rfl) (by kernel_rfl) (fun w=>by kernel_rfl) (fun w=>by kernel_rfl) rfl (fill_cons (vs:=[Value.int .i64 (IntKind.wrap .i64 t12.1)]) (cs' := ([Value.int .i64 (IntKind.wrap .i64 t12.1)]++([Value.int .i64 (0:Int)]++([Value.int .i64 (0:Int)]++([Value.int .u32 (0:Int)]++en (Value.int .u8) (vrep 32 (0:Int)).1))))) (off:=0) (size:=1) rfl (by kernel_rfl) (len1 _) (le_of_len (len_app (len1 _) (len_app (len1 _) (len_app (len1 _) (len_app (len1 _) (len_en _ (vrep 32 (0:Int))))))) (by decide)) (splc_in (Sub4.all _) (splc_head (len_eq (len1 _) (len1 _))) (splc_all (len_eq (len_app (len1 _) (len_app (len1 _) (len_app (len1 _) (len_app (len1 _) (len_en _ (vrep 32 (0:Int))))))) (len_app (len1 _) (len_app (len1 _) (len_app (len1 _) (len_app (len1 _) (len_en _ (vrep 32 (0:Int))))))))) (hl_of (Sub4.head _ _) (len_eq (len1 _) (len1 _)))) (fill_cons (vs:=[Value.int .i64 (IntKind.wrap .i64 t26.1)]) (cs' := ([Value.int .i64 (IntKind.wrap .i64 t12.1)]++([Value.int .i64 (0:Int)]++([Value.int .i64 (IntKind.wrap .i64 t26.1)]++([Value.int .u32 (0:Int)]++en (Value.int .u8) (vrep 32 (0:Int)).1))))) (off:=2) (size:=1) rfl (by kernel_rfl) (len1 _) (le_of_len (len_app (len1 _) (len_app (len1 _) (len_app (len1 _) (len_app (len1 _) (len_en _ (vrep 32 (0:Int))))))) (by decide)) (splc_in (Sub4.all _) (splc_skip (n:=1) (len1 _) (splc_skip (n:=1) (len1 _) (splc_head (len_eq (len1 _) (len1 _))))) (splc_all (len_eq (len_app (len1 _) (len_app (len1 _) (len_app (len1 _) (len_app (len1 _) (len_en _ (vrep 32 (0:Int))))))) (len_app (len1 _) (len_app (len1 _) (len_app (len1 _) (len_app (len1 _) (len_en _ (vrep 32 (0:Int))))))))) (hl_of (Sub4.skip (n:=1) (len1 _) (Sub4.skip (n:=1) (len1 _) (Sub4.head _ _))) (len_eq (len1 _) (len1 _)))) (fill_cons (vs:=[Value.int .i64 (IntKind.wrap .i64 t40.1)]) (cs' := ([Value.int .i64 (IntKind.wrap .i64 t12.1)]++([Value.int .i64 (IntKind.wrap .i64 t40.1)]++([Value.int .i64 (IntKind.wrap .i64 t26.1)]++([Value.int .u32 (0:Int)]++en (Value.int .u8) (vrep 32 (0:Int)).1))))) (off:=1) (size:=1) rfl (by kernel_rfl) (len1 _) (le_of_len (len_app (len1 _) (len_app (len1 _) (len_app (len1 _) (len_app (len1 _) (len_en _ (vrep 32 (0:Int))))))) (by decide)) (splc_in (Sub4.all _) (splc_skip (n:=1) (len1 _) (splc_head (len_eq (len1 _) (len1 _)))) (splc_all (len_eq (len_app (len1 _) (len_app (len1 _) (len_app (len1 _) (len_app (len1 _) (len_en _ (vrep 32 (0:Int))))))) (len_app (len1 _) (len_app (len1 _) (len_app (len1 _) (len_app (len1 _) (len_en _ (vrep 32 (0:Int))))))))) (hl_of (Sub4.skip (n:=1) (len1 _) (Sub4.head _ _)) (len_eq (len1 _) (len1 _)))) (fill_cons (vs:=[Value.int .u32 (IntKind.wrap .u32 t54.1)]) (cs' := ([Value.int .i64 (IntKind.wrap .i64 t12.1)]++([Value.int .i64 (IntKind.wrap .i64 t40.1)]++([Value.int .i64 (IntKind.wrap .i64 t26.1)]++([Value.int .u32 (IntKind.wrap .u32 t54.1)]++en (Value.int .u8) (vrep 32 (0:Int)).1))))) (off:=3) (size:=1) rfl (by kernel_rfl) (len1 _) (le_of_len (len_app (len1 _) (len_app (len1 _) (len_app (len1 _) (len_app (len1 _) (len_en _ (vrep 32 (0:Int))))))) (by decide)) (splc_in (Sub4.all _) (splc_skip (n:=1) (len1 _) (splc_skip (n:=1) (len1 _) (splc_skip (n:=1) (len1 _) (splc_head (len_eq (len1 _) (len1 _)))))) (splc_all (len_eq (len_app (len1 _) (len_app (len1 _) (len_app (len1 _) (len_app (len1 _) (len_en _ (vrep 32 (0:Int))))))) (len_app (len1 _) (len_app (len1 _) (len_app (len1 _) (len_app (len1 _) (len_en _ (vrep 32 (0:Int))))))))) (hl_of (Sub4.skip (n:=1) (len1 _) (Sub4.skip (n:=1) (len1 _) (Sub4.skip (n:=1) (len1 _) (Sub4.head _ _)))) (len_eq (len1 _) (len1 _)))) fill_nil)))) ?_
 refine ls_new rfl rfl (by kernel_rfl) 5 (fun g=>.pointer (some ⟨g,0,none⟩)) (.cells ⟨([Value.int .i64 (0:Int)]++([Value.int .i64 (0:Int)]++([Value.int .i64 (0:Int)]++([Value.int .u32 (0:Int)]++en (Value.int .u8) (vrep 32 (0:Int)).1))))⟩ 44) (fun w=>by kernel_rfl) ?_
 intro g57
 refine ls_storec (g:=g57) (off:=0) (v:=.agg ⟨([Value.int .i64 (IntKind.wrap .i64 t12.1)]++([Value.int .i64 (IntKind.wrap .i64 t40.1)]++([Value.int .i64 (IntKind.wrap .i64 t26.1)]++([Value.int .u32 (IntKind.wrap .u32 t54.1)]++en (Value.int .u8) (vrep 32 (0:Int)).1))))⟩) (vs:=([Value.int .i64 (IntKind.wrap .i64 t12.1)]++([Value.int .i64 (IntKind.wrap .i64 t40.1)]++([Value.int .i64 (IntKind.wrap .i64 t26.1)]++([Value.int .u32 (IntKind.wrap .u32 t54.1)]++en (Value.int .u8) (vrep 32 (0:Int)).1))))) (cs:=([Value.int .i64 (0:Int)]++([Value.int .i64 (0:Int)]++([Value.int .i64 (0:Int)]++([Value.int .u32 (0:Int)]++en (Value.int .u8) (vrep 32 (0:Int)).1))))) (ty:=44) 5 rfl rfl rfl (by kernel_rfl) (by kernel_rfl) (by kernel_rfl) (by exact rfl) (by kernel_rfl) (len_app (len1 _) (len_app (len1 _) (len_app (len1 _) (len_app (len1 _) (len_en _ (vrep 32 (0:Int))))))) (one_app (one_cons rfl one_nil) (one_app (one_cons rfl one_nil) (one_app (one_cons rfl one_nil) (one_app (one_cons rfl one_nil) (one_en (fun _=>rfl) _))))) (hl_of (Sub4.all _) (len_eq (len_app (len1 _) (len_app (len1 _) (len_app (len1 _) (len_app (len1 _) (len_en _ (vrep 32 (0:Int))))))) (len_app (len1 _) (len_app (len1 _) (len_app (len1 _) (len_app (len1 _) (len_en _ (vrep 32 (0:Int))))))))) (cs' := ([Value.int .i64 (IntKind.wrap .i64 t12.1)]++([Value.int .i64 (IntKind.wrap .i64 t40.1)]++([Value.int .i64 (IntKind.wrap .i64 t26.1)]++([Value.int .u32 (IntKind.wrap .u32 t54.1)]++en (Value.int .u8) (vrep 32 (0:Int)).1))))) (splc_all (len_eq (len_app (len1 _) (len_app (len1 _) (len_app (len1 _) (len_app (len1 _) (len_en _ (vrep 32 (0:Int))))))) (len_app (len1 _) (len_app (len1 _) (len_app (len1 _) (len_app (len1 _) (len_en _ (vrep 32 (0:Int))))))))) ?_
 refine ls_end ?_
 refine qn_then ?_
 refine cs_seq ?_
 refine cs_seq ?_
 refine cs_region (l:=[_]) ?_
 refine lv (.int .i64 (0:Int)) ?_
 refine ls_end ?_
 refine qn_then ?_
 refine cs_block ?_
 refine cs_sub (sput (sput s0 0 (some (Ck.var 44 g1 (([Value.int .i64 (0:Int)]++([Value.int .i64 (0:Int)]++([Value.int .i64 (0:Int)]++([Value.int .u32 (0:Int)]++en (Value.int .u8) (vrep 32 (0:Int)).1)))))))) 5 (some (Ck.var 44 g57 (([Value.int .i64 (IntKind.wrap .i64 t12.1)]++([Value.int .i64 (IntKind.wrap .i64 t40.1)]++([Value.int .i64 (IntKind.wrap .i64 t26.1)]++([Value.int .u32 (IntKind.wrap .u32 t54.1)]++en (Value.int .u8) (vrep 32 (0:Int)).1)))))))) (sub_put (by exact rfl) (sub_put (by exact rfl) (sub_nil _))) ?_
 refine cs_loop (fun kk f S=>∃ (fR:Fr) (x17_2:Int) (m5_2:PT),f=upd (upd (upd (upd fR 0 (.slice A0 l0.length c0)) 2 (.pointer (some ⟨g1,0,none⟩))) 16 (.pointer (some ⟨g57,0,none⟩))) 17 (.int .i64 x17_2)∧S=sput (sput s0 0 (some (Ck.var 44 g1 (([Value.int .i64 (0:Int)]++([Value.int .i64 (0:Int)]++([Value.int .i64 (0:Int)]++([Value.int .u32 (0:Int)]++en (Value.int .u8) (vrep 32 (0:Int)).1)))))))) 5 (some (Ck.var 44 g57 (([Value.int .i64 m5_2.1]++([Value.int .i64 m5_2.2.1]++([Value.int .i64 m5_2.2.2.1]++([Value.int .u32 m5_2.2.2.2.1]++en (Value.int .u8) m5_2.2.2.2.2.1)))))))∧shadowboxref06_Read.lo2 l0 kk x17_2 m5_2=some r) k ?_ ?_ ?_
 ·exact ⟨_,(0:Int),(IntKind.wrap .i64 t12.1,IntKind.wrap .i64 t40.1,IntKind.wrap .i64 t26.1,IntKind.wrap .u32 t54.1,(vrep 32 (0:Int))),fr_next (fr_next (fr_next (fr_next (rfl) (by kernel_rfl)) (by kernel_rfl)) (by kernel_rfl)) (by kernel_rfl),rfl,H⟩
 ·rintro f S ⟨fr2,x17_2,m5_2,rfl,rfl,H⟩; cases H
 rintro k2 f S ⟨fr2,x17_2,m5_2,rfl,rfl,H⟩
 replace H:((if x17_2<(32:Int) then (if 0≤IntKind.wrap .i64 ((20:Int)+x17_2) then (if IntKind.wrap .i64 ((20:Int)+x17_2)<(l0.length:Int) then lt (((l0).getD (IntKind.wrap .i64 ((20:Int)+x17_2)).toNat (0:Int))) fun y63=>(if 0≤x17_2 then lt (vset m5_2.2.2.2.2 (x17_2).toNat y63) fun y66=>(shadowboxref06_Read.lo2 l0 k2) (IntKind.wrap .i64 (x17_2+(1:Int))) (m5_2.1,m5_2.2.1,m5_2.2.2.1,m5_2.2.2.2.1,y66) else none) else none) else none) else (shadowboxref06_None.f k2 m5_2).bind fun t68=>(if t68=true then some (m5_2,(0:Int)) else (shadowboxref06_Right.f k2 m5_2).bind fun t72=>(if t72=true then some (m5_2,(0:Int)) else some (((0:Int),(0:Int),(0:Int),(0:Int),(vrep 32 (0:Int))),(11:Int))))))=some r := H
 refine cs_seq ?_
 refine cs_seq ?_
 refine cs_region (l:=[_,_]) ?_
 refine lv (.int .i64 x17_2) ?_
 refine lv (.bool (decide (x17_2<(32:Int)))) ?_
 refine ls_end ?_
 refine qn_then ?_
 by_cases q58:x17_2<(32:Int)
 ·replace H := ite_t q58 H
  refine cs_know (c:=true) (dec_t q58) 60 (by kernel_rfl) ?_
  refine cs_true (by kernel_rfl) ?_
  refine cs_skip' ?_
  refine qn_then ?_
  refine cs_seq ?_
  refine cs_block ?_
  refine cs_region (l:=[_,_,_,_,_,_,_,_,_]) ?_
  refine lv (.int .i64 x17_2) ?_
  refine lv (.slice A0 l0.length c0) ?_
  refine lv (.int .i64 x17_2) ?_
  refine lv (.int .i64 (IntKind.wrap .i64 ((20:Int)+x17_2))) ?_
  obtain ⟨q59,H⟩ := ite_need H
  obtain ⟨q60,H⟩ := ite_need H
  obtain ⟨ad61,hA62⟩ := ido_at (T:=(Ec.int 5 .u8)) (l:=l0) (i:=IntKind.wrap .i64 ((20:Int)+x17_2)) R0 q59 q60
  refine ls_idxv (Ec.int 5 .u8) (A:=A0) (c:=c0) (l:=l0) (k:=.i64) (i:=IntKind.wrap .i64 ((20:Int)+x17_2)) (z:=1) (ad:=ad61) rfl rfl (by kernel_rfl) hA62 rfl (by kernel_rfl) (by kernel_rfl) (by kernel_rfl) (by kernel_rfl) q59 q60 ?_
  obtain ⟨y63,hy64,H⟩ := lt_some H
  refine ls_load (a0:=(ad61.add ((IntKind.wrap .i64 ((20:Int)+x17_2)).toNat*1))) (v:=.int .u8 ((l0).getD (IntKind.wrap .i64 ((20:Int)+x17_2)).toNat (0:Int))) (de:=(TypeDesc.int .u8)) rfl rfl (by kernel_rfl) rfl (by kernel_rfl) (by kernel_rfl) (by kernel_rfl) (fun w hs=>(hs.old R0).at hA62 (em_sub (Ec.int 5 .u8) l0 (i:=(IntKind.wrap .i64 ((20:Int)+x17_2)).toNat) (by have h0:(0:Int)≤IntKind.wrap .i64 ((20:Int)+x17_2) := q59; have h1:IntKind.wrap .i64 ((20:Int)+x17_2)<(l0.length:Int) := q60; omega))) ?_
  refine ls_ren 68 (v:=.int .u8 ((l0).getD (IntKind.wrap .i64 ((20:Int)+x17_2)).toNat (0:Int))) (v' := .int .u8 y63) (by kernel_rfl) (by rw [hy64]) ?_
  refine lv (.pointer (some ⟨g57,(0+4),none⟩)) ?_
  obtain ⟨q65,H⟩ := ite_need H
  refine ls_idxa1 (g:=g57) (off:=(0+4)) (i:=x17_2) (kk:=.i64) (ln:=32) (e:=5) rfl rfl (by kernel_rfl) rfl (by kernel_rfl) (by kernel_rfl) (by kernel_rfl) (by kernel_rfl) q65 q58 ?_
  obtain ⟨y66,hy67,H⟩ := lt_some H
  refine ls_storec (g:=g57) (off:=((0+4)+(x17_2).toNat)) (v:=.int .u8 y63) (vs:=[Value.int .u8 y63]) (cs:=([Value.int .i64 m5_2.1]++([Value.int .i64 m5_2.2.1]++([Value.int .i64 m5_2.2.2.1]++([Value.int .u32 m5_2.2.2.2.1]++en (Value.int .u8) m5_2.2.2.2.2.1))))) (ty:=44) 5 rfl rfl rfl (by kernel_rfl) (by kernel_rfl) (by kernel_rfl) (by exact rfl) (by kernel_rfl) (len1 _) (one_cons rfl one_nil) (hl_of (Sub4.trans (Sub4.trans (Sub4.all _) (Sub4.skip (n:=1) (len1 _) (Sub4.skip (n:=1) (len1 _) (Sub4.skip (n:=1) (len1 _) (Sub4.skip (n:=1) (len1 _) (Sub4.all _)))))) (Sub4.one (i:=(x17_2).toNat) (Value.int .u8) m5_2.2.2.2.2.1 0 (by have := m5_2.2.2.2.2.2; omega))) (len_eq (len1 _) (len1 _))) (cs' := ([Value.int .i64 m5_2.1]++([Value.int .i64 m5_2.2.1]++([Value.int .i64 m5_2.2.2.1]++([Value.int .u32 m5_2.2.2.2.1]++en (Value.int .u8) y66.1))))) (splc_in (Sub4.trans (Sub4.all _) (Sub4.skip (n:=1) (len1 _) (Sub4.skip (n:=1) (len1 _) (Sub4.skip (n:=1) (len1 _) (Sub4.skip (n:=1) (len1 _) (Sub4.all _)))))) ((splc_one (Value.int .u8) m5_2.2.2.2.2.1 y63 (by have := m5_2.2.2.2.2.2; omega)).trans (congrArg (fun z:(Vc Int 32)=>en (Value.int .u8) z.1) hy67)) (splc_in (Sub4.all _) (splc_skip (n:=1) (len1 _) (splc_skip (n:=1) (len1 _) (splc_skip (n:=1) (len1 _) (splc_skip (n:=1) (len1 _) (splc_all (len_eq (len_en _ y66) (len_en _ m5_2.2.2.2.2))))))) (splc_all (len_eq (len_app (len1 _) (len_app (len1 _) (len_app (len1 _) (len_app (len1 _) (len_en _ y66))))) (len_app (len1 _) (len_app (len1 _) (len_app (len1 _) (len_app (len1 _) (len_en _ m5_2.2.2.2.2))))))) (hl_of (Sub4.skip (n:=1) (len1 _) (Sub4.skip (n:=1) (len1 _) (Sub4.skip (n:=1) (len1 _) (Sub4.skip (n:=1) (len1 _) (Sub4.all _))))) (len_eq (len_en _ y66) (len_en _ m5_2.2.2.2.2)))) (hl_of (Sub4.one (i:=(x17_2).toNat) (Value.int .u8) m5_2.2.2.2.2.1 0 (by have := m5_2.2.2.2.2.2; omega)) (len_eq (len1 _) (len1 _)))) ?_
  refine ls_end ?_
  refine qn_block ?_
  refine qn_then ?_
  refine cs_region (l:=[_,_,_]) ?_
  refine lv (.int .i64 x17_2) ?_
  refine lv (.int .i64 (IntKind.wrap .i64 (x17_2+(1:Int)))) ?_
  refine lv (.int .i64 (IntKind.wrap .i64 (x17_2+(1:Int)))) ?_
  refine ls_end ?_
  refine qn_again k2 (sput (sput s0 0 (some (Ck.var 44 g1 (([Value.int .i64 (0:Int)]++([Value.int .i64 (0:Int)]++([Value.int .i64 (0:Int)]++([Value.int .u32 (0:Int)]++en (Value.int .u8) (vrep 32 (0:Int)).1)))))))) 5 (some (Ck.var 44 g57 (([Value.int .i64 m5_2.1]++([Value.int .i64 m5_2.2.1]++([Value.int .i64 m5_2.2.2.1]++([Value.int .u32 m5_2.2.2.2.1]++en (Value.int .u8) y66.1)))))))) (Nat.le_refl _) ⟨_,(IntKind.wrap .i64 (x17_2+(1:Int))),(m5_2.1,m5_2.2.1,m5_2.2.2.1,m5_2.2.2.2.1,y66),fr_next (fr_next (fr_next (fr_next (rfl) (by kernel_rfl)) (by kernel_rfl)) (by kernel_rfl)) (by kernel_rfl),rfl,H⟩ (sub_put (by exact rfl) (sub_put (by exact rfl) (sub_nil _)))
 replace H := ite_f q58 H
 refine cs_know (c:=false) (dec_f q58) 60 (by kernel_rfl) ?_
 refine cs_false (by kernel_rfl) ?_
 refine cs_exit' ?_
 refine qx_then ?_
 refine qx_then ?_
 refine qx_same ?_
 refine qn_then ?_
 refine cs_seq ?_
 refine cs_seq ?_
 refine cs_region (l:=[_,_,_,_,_,_,_,_]) ?_
 refine ls_loadagg (a:=⟨g57,0,none⟩) (sub:=([Value.int .i64 m5_2.1]++([Value.int .i64 m5_2.2.1]++([Value.int .i64 m5_2.2.2.1]++([Value.int .u32 m5_2.2.2.2.1]++en (Value.int .u8) m5_2.2.2.2.2.1))))) rfl rfl (by kernel_rfl) rfl (by kernel_rfl) (by kernel_rfl) (by kernel_rfl) (len_app (len1 _) (len_app (len1 _) (len_app (len1 _) (len_app (len1 _) (len_en _ m5_2.2.2.2.2))))) (fun w hs=>(hs.vars (k:=5) (by exact rfl) (Sub4.all _))) ?_
 obtain ⟨t68,hc69,H⟩ := bind_some H
 refine ls_callb (fid:=94) (vals:=#[.agg ⟨([Value.int .i64 m5_2.1]++([Value.int .i64 m5_2.2.1]++([Value.int .i64 m5_2.2.2.1]++([Value.int .u32 m5_2.2.2.2.1]++en (Value.int .u8) m5_2.2.2.2.2.1))))⟩]) (X:=Unit) (fun x=>.bool t68) (fun x=>stl []) [] [] [] [] 6 rfl rfl (by kernel_rfl) (fun w=>by kernel_rfl) trivial trivial (by decide) (fun w hs hb=>shadowboxref06_None.calls k2 m5_2 t68 (lent b w [] []) hb  hc69) ?_
 intro x70
 refine lv (.bool (!t68)) ?_
 refine lv (.bool (!t68)) ?_
 by_cases q71:t68=true
 ·replace H := ite_t q71 H
  refine ls_know (c:=false) (congrArg Bool.not (q71)) 74 (by kernel_rfl) ?_
  refine lofx 3 74 true false ?_
  refine lofx 3 74 true false ?_
  refine lofx 3 74 true false ?_
  refine lv (.bool false) ?_
  refine ls_end ?_
  refine qn_then ?_
  refine cs_false (by kernel_rfl) ?_
  refine cs_skip' ?_
  refine qn_then ?_
  refine cs_seq ?_
  refine cs_region (l:=[_,_,_]) ?_
  refine ls_loadagg (a:=⟨g57,0,none⟩) (sub:=([Value.int .i64 m5_2.1]++([Value.int .i64 m5_2.2.1]++([Value.int .i64 m5_2.2.2.1]++([Value.int .u32 m5_2.2.2.2.1]++en (Value.int .u8) m5_2.2.2.2.2.1))))) rfl rfl (by kernel_rfl) rfl (by kernel_rfl) (by kernel_rfl) (by kernel_rfl) (len_app (len1 _) (len_app (len1 _) (len_app (len1 _) (len_app (len1 _) (len_en _ m5_2.2.2.2.2))))) (fun w hs=>(hs.vars (k:=5) (by exact rfl) (Sub4.all _))) ?_
  refine ls_storec (g:=g1) (off:=0) (v:=.agg ⟨([Value.int .i64 m5_2.1]++([Value.int .i64 m5_2.2.1]++([Value.int .i64 m5_2.2.2.1]++([Value.int .u32 m5_2.2.2.2.1]++en (Value.int .u8) m5_2.2.2.2.2.1))))⟩) (vs:=([Value.int .i64 m5_2.1]++([Value.int .i64 m5_2.2.1]++([Value.int .i64 m5_2.2.2.1]++([Value.int .u32 m5_2.2.2.2.1]++en (Value.int .u8) m5_2.2.2.2.2.1))))) (cs:=([Value.int .i64 (0:Int)]++([Value.int .i64 (0:Int)]++([Value.int .i64 (0:Int)]++([Value.int .u32 (0:Int)]++en (Value.int .u8) (vrep 32 (0:Int)).1))))) (ty:=44) 0 rfl rfl rfl (by kernel_rfl) (by kernel_rfl) (by kernel_rfl) (by exact rfl) (by kernel_rfl) (len_app (len1 _) (len_app (len1 _) (len_app (len1 _) (len_app (len1 _) (len_en _ m5_2.2.2.2.2))))) (one_app (one_cons rfl one_nil) (one_app (one_cons rfl one_nil) (one_app (one_cons rfl one_nil) (one_app (one_cons rfl one_nil) (one_en (fun _=>rfl) _))))) (hl_of (Sub4.all _) (len_eq (len_app (len1 _) (len_app (len1 _) (len_app (len1 _) (len_app (len1 _) (len_en _ m5_2.2.2.2.2))))) (len_app (len1 _) (len_app (len1 _) (len_app (len1 _) (len_app (len1 _) (len_en _ (vrep 32 (0:Int))))))))) (cs' := ([Value.int .i64 m5_2.1]++([Value.int .i64 m5_2.2.1]++([Value.int .i64 m5_2.2.2.1]++([Value.int .u32 m5_2.2.2.2.1]++en (Value.int .u8) m5_2.2.2.2.2.1))))) (splc_all (len_eq (len_app (len1 _) (len_app (len1 _) (len_app (len1 _) (len_app (len1 _) (len_en _ m5_2.2.2.2.2))))) (len_app (len1 _) (len_app (len1 _) (len_app (len1 _) (len_app (len1 _) (len_en _ (vrep 32 (0:Int))))))))) ?_
  refine lv (.int .i64 (0:Int)) ?_
  refine ls_end ?_
  refine qn_then ?_
  refine cs_ret' ?_
  obtain rfl := Option.some.inj H
  refine qr_res (rs:=[_,_]) rfl (fun w' hs=>⟨[.agg ⟨([Value.int .i64 m5_2.1]++([Value.int .i64 m5_2.2.1]++([Value.int .i64 m5_2.2.2.1]++([Value.int .u32 m5_2.2.2.2.1]++en (Value.int .u8) m5_2.2.2.2.2.1))))⟩,.int .i64 (0:Int)],(.cell (by kernel_rfl) (run_cellres (by kernel_rfl) (by kernel_rfl) (len_app (len1 _) (len_app (len1 _) (len_app (len1 _) (len_app (len1 _) (len_en _ m5_2.2.2.2.2))))) (hs.holds 0 _ (by exact rfl))) (res_tmp (by kernel_rfl) (.nil))),(),rfl,hs.pick (ts:=[]) (cs:=[]) trivial (by decide)⟩)
 replace H := ite_f q71 H
 refine ls_know (c:=true) (congrArg Bool.not (Bool.eq_false_iff.mpr q71)) 74 (by kernel_rfl) ?_
 refine ls_on (j:=3) (t:=74) (b:=true) rfl rfl (by kernel_rfl) (by kernel_rfl) ?_
 refine ls_loadagg (a:=⟨g57,0,none⟩) (sub:=([Value.int .i64 m5_2.1]++([Value.int .i64 m5_2.2.1]++([Value.int .i64 m5_2.2.2.1]++([Value.int .u32 m5_2.2.2.2.1]++en (Value.int .u8) m5_2.2.2.2.2.1))))) rfl rfl (by kernel_rfl) rfl (by kernel_rfl) (by kernel_rfl) (by kernel_rfl) (len_app (len1 _) (len_app (len1 _) (len_app (len1 _) (len_app (len1 _) (len_en _ m5_2.2.2.2.2))))) (fun w hs=>(hs.vars (k:=5) (by exact rfl) (Sub4.all _))) ?_
 refine ls_on (j:=3) (t:=74) (b:=true) rfl rfl (by kernel_rfl) (by kernel_rfl) ?_
 obtain ⟨t72,hc73,H⟩ := bind_some H
 refine ls_callb (fid:=95) (vals:=#[.agg ⟨([Value.int .i64 m5_2.1]++([Value.int .i64 m5_2.2.1]++([Value.int .i64 m5_2.2.2.1]++([Value.int .u32 m5_2.2.2.2.1]++en (Value.int .u8) m5_2.2.2.2.2.1))))⟩]) (X:=Unit) (fun x=>.bool t72) (fun x=>stl []) [] [] [] [] 6 rfl rfl (by kernel_rfl) (fun w=>by kernel_rfl) trivial trivial (by decide) (fun w hs hb=>shadowboxref06_Right.calls k2 m5_2 t72 (lent b w [] []) hb  hc73) ?_
 intro x74
 refine ls_on (j:=3) (t:=74) (b:=true) rfl rfl (by kernel_rfl) (by kernel_rfl) ?_
 refine lv (.bool (!t72)) ?_
 refine lv (.bool (!t72)) ?_
 refine ls_end ?_
 refine qn_then ?_
 by_cases q75:t72=true
 ·replace H := ite_t q75 H
  refine cs_know (c:=false) (congrArg Bool.not (q75)) 78 (by kernel_rfl) ?_
  refine cs_false (by kernel_rfl) ?_
  refine cs_skip' ?_
  refine qn_then ?_
  refine cs_seq ?_
  refine cs_region (l:=[_,_,_]) ?_
  refine ls_loadagg (a:=⟨g57,0,none⟩) (sub:=([Value.int .i64 m5_2.1]++([Value.int .i64 m5_2.2.1]++([Value.int .i64 m5_2.2.2.1]++([Value.int .u32 m5_2.2.2.2.1]++en (Value.int .u8) m5_2.2.2.2.2.1))))) rfl rfl (by kernel_rfl) rfl (by kernel_rfl) (by kernel_rfl) (by kernel_rfl) (len_app (len1 _) (len_app (len1 _) (len_app (len1 _) (len_app (len1 _) (len_en _ m5_2.2.2.2.2))))) (fun w hs=>(hs.vars (k:=5) (by exact rfl) (Sub4.all _))) ?_
  refine ls_storec (g:=g1) (off:=0) (v:=.agg ⟨([Value.int .i64 m5_2.1]++([Value.int .i64 m5_2.2.1]++([Value.int .i64 m5_2.2.2.1]++([Value.int .u32 m5_2.2.2.2.1]++en (Value.int .u8) m5_2.2.2.2.2.1))))⟩) (vs:=([Value.int .i64 m5_2.1]++([Value.int .i64 m5_2.2.1]++([Value.int .i64 m5_2.2.2.1]++([Value.int .u32 m5_2.2.2.2.1]++en (Value.int .u8) m5_2.2.2.2.2.1))))) (cs:=([Value.int .i64 (0:Int)]++([Value.int .i64 (0:Int)]++([Value.int .i64 (0:Int)]++([Value.int .u32 (0:Int)]++en (Value.int .u8) (vrep 32 (0:Int)).1))))) (ty:=44) 0 rfl rfl rfl (by kernel_rfl) (by kernel_rfl) (by kernel_rfl) (by exact rfl) (by kernel_rfl) (len_app (len1 _) (len_app (len1 _) (len_app (len1 _) (len_app (len1 _) (len_en _ m5_2.2.2.2.2))))) (one_app (one_cons rfl one_nil) (one_app (one_cons rfl one_nil) (one_app (one_cons rfl one_nil) (one_app (one_cons rfl one_nil) (one_en (fun _=>rfl) _))))) (hl_of (Sub4.all _) (len_eq (len_app (len1 _) (len_app (len1 _) (len_app (len1 _) (len_app (len1 _) (len_en _ m5_2.2.2.2.2))))) (len_app (len1 _) (len_app (len1 _) (len_app (len1 _) (len_app (len1 _) (len_en _ (vrep 32 (0:Int))))))))) (cs' := ([Value.int .i64 m5_2.1]++([Value.int .i64 m5_2.2.1]++([Value.int .i64 m5_2.2.2.1]++([Value.int .u32 m5_2.2.2.2.1]++en (Value.int .u8) m5_2.2.2.2.2.1))))) (splc_all (len_eq (len_app (len1 _) (len_app (len1 _) (len_app (len1 _) (len_app (len1 _) (len_en _ m5_2.2.2.2.2))))) (len_app (len1 _) (len_app (len1 _) (len_app (len1 _) (len_app (len1 _) (len_en _ (vrep 32 (0:Int))))))))) ?_
  refine lv (.int .i64 (0:Int)) ?_
  refine ls_end ?_
  refine qn_then ?_
  refine cs_ret' ?_
  obtain rfl := Option.some.inj H
  refine qr_res (rs:=[_,_]) rfl (fun w' hs=>⟨[.agg ⟨([Value.int .i64 m5_2.1]++([Value.int .i64 m5_2.2.1]++([Value.int .i64 m5_2.2.2.1]++([Value.int .u32 m5_2.2.2.2.1]++en (Value.int .u8) m5_2.2.2.2.2.1))))⟩,.int .i64 (0:Int)],(.cell (by kernel_rfl) (run_cellres (by kernel_rfl) (by kernel_rfl) (len_app (len1 _) (len_app (len1 _) (len_app (len1 _) (len_app (len1 _) (len_en _ m5_2.2.2.2.2))))) (hs.holds 0 _ (by exact rfl))) (res_tmp (by kernel_rfl) (.nil))),(),rfl,hs.pick (ts:=[]) (cs:=[]) trivial (by decide)⟩)
 replace H := ite_f q75 H
 refine cs_know (c:=true) (congrArg Bool.not (Bool.eq_false_iff.mpr q75)) 78 (by kernel_rfl) ?_
 refine cs_true (by kernel_rfl) ?_
 refine cs_seq ?_
 refine cs_region (l:=[_,_,_]) ?_
 refine ls_build (ps:=[]) (pl:=#[(0,1),(1,1),(2,1),(3,1),(4,32)]) (zv:=.agg ⟨([Value.int .i64 (0:Int)]++([Value.int .i64 (0:Int)]++([Value.int .i64 (0:Int)]++([Value.int .u32 (0:Int)]++en (Value.int .u8) (vrep 32 (0:Int)).1))))⟩) (zc:=([Value.int .i64 (0:Int)]++([Value.int .i64 (0:Int)]++([Value.int .i64 (0:Int)]++([Value.int .u32 (0:Int)]++en (Value.int .u8) (vrep 32 (0:Int)).1))))) (r:=([Value.int .i64 (0:Int)]++([Value.int .i64 (0:Int)]++([Value.int .i64 (0:Int)]++([Value.int .u32 (0:Int)]++en (Value.int .u8) (vrep 32 (0:Int)).1))))) rfl rfl (by kernel_rfl) rfl (by kernel_rfl) (by kernel_rfl) (fun w=>by kernel_rfl) (fun w=>by kernel_rfl) rfl fill_nil ?_
 refine ls_storec (g:=g1) (off:=0) (v:=.agg ⟨([Value.int .i64 (0:Int)]++([Value.int .i64 (0:Int)]++([Value.int .i64 (0:Int)]++([Value.int .u32 (0:Int)]++en (Value.int .u8) (vrep 32 (0:Int)).1))))⟩) (vs:=([Value.int .i64 (0:Int)]++([Value.int .i64 (0:Int)]++([Value.int .i64 (0:Int)]++([Value.int .u32 (0:Int)]++en (Value.int .u8) (vrep 32 (0:Int)).1))))) (cs:=([Value.int .i64 (0:Int)]++([Value.int .i64 (0:Int)]++([Value.int .i64 (0:Int)]++([Value.int .u32 (0:Int)]++en (Value.int .u8) (vrep 32 (0:Int)).1))))) (ty:=44) 0 rfl rfl rfl (by kernel_rfl) (by kernel_rfl) (by kernel_rfl) (by exact rfl) (by kernel_rfl) (len_app (len1 _) (len_app (len1 _) (len_app (len1 _) (len_app (len1 _) (len_en _ (vrep 32 (0:Int))))))) (one_app (one_cons rfl one_nil) (one_app (one_cons rfl one_nil) (one_app (one_cons rfl one_nil) (one_app (one_cons rfl one_nil) (one_en (fun _=>rfl) _))))) (hl_of (Sub4.all _) (len_eq (len_app (len1 _) (len_app (len1 _) (len_app (len1 _) (len_app (len1 _) (len_en _ (vrep 32 (0:Int))))))) (len_app (len1 _) (len_app (len1 _) (len_app (len1 _) (len_app (len1 _) (len_en _ (vrep 32 (0:Int))))))))) (cs' := ([Value.int .i64 (0:Int)]++([Value.int .i64 (0:Int)]++([Value.int .i64 (0:Int)]++([Value.int .u32 (0:Int)]++en (Value.int .u8) (vrep 32 (0:Int)).1))))) (splc_all (len_eq (len_app (len1 _) (len_app (len1 _) (len_app (len1 _) (len_app (len1 _) (len_en _ (vrep 32 (0:Int))))))) (len_app (len1 _) (len_app (len1 _) (len_app (len1 _) (len_app (len1 _) (len_en _ (vrep 32 (0:Int))))))))) ?_
 refine lv (.int .i64 (11:Int)) ?_
 refine ls_end ?_
 refine qn_then ?_
 refine cs_ret' ?_
 refine qr_then ?_
 obtain rfl := Option.some.inj H
 refine qr_res (rs:=[_,_]) rfl (fun w' hs=>⟨[.agg ⟨([Value.int .i64 (0:Int)]++([Value.int .i64 (0:Int)]++([Value.int .i64 (0:Int)]++([Value.int .u32 (0:Int)]++en (Value.int .u8) (vrep 32 (0:Int)).1))))⟩,.int .i64 (11:Int)],(.cell (by kernel_rfl) (run_cellres (by kernel_rfl) (by kernel_rfl) (len_app (len1 _) (len_app (len1 _) (len_app (len1 _) (len_app (len1 _) (len_en _ (vrep 32 (0:Int))))))) (hs.holds 0 _ (by exact rfl))) (res_tmp (by kernel_rfl) (.nil))),(),rfl,hs.pick (ts:=[]) (cs:=[]) trivial (by decide)⟩)
def shadowboxref16_parse.jo6 (t2:Int × (List Int) × Bool) (x8_2:ByteArray) (x9_2:Int) (m1_2:NO) (k2:Nat) (x10_4:Int) (l0_5:List Int) (x5_5:Bool) (x11_5:ByteArray) (lo2:(List Int)→Bool→ByteArray→Int→(NO)→Option (NO × Bool)):Option (NO × Bool) := (if 0≤x10_4 then (if x10_4≤(x8_2.size:Int) then (if (ByteArray.extract x8_2 0 ((x10_4).toNat)).size+x11_5.size≤9223372036854775807 then lt ((ByteArray.extract x8_2 0 ((x10_4).toNat))++x11_5) fun y18=>(if (m1_2.2.1.length+([(bl y18)]).length)*24≤140737488355328 then (if t2.1=(0:Int) then (shadowboxref16_text.f k2 l0_5).bind fun t35=>(if (m1_2.2.2.1.length+([(bl t35.1)]).length)*24≤140737488355328 then lo2 t35.2.1 t35.2.2 y18 (IntKind.wrap .i64 (x9_2+(1:Int))) (m1_2.1,(m1_2.2.1++[(bl y18)]),(m1_2.2.2.1++[(bl t35.1)]),m1_2.2.2.2) else none) else (shadowboxref06_Read.f k2 l0_5).bind fun t55=>(if t55.2=(0:Int) then (if (52:Int)≤(l0_5.length:Int) then lt (l0_5.drop ((52:Int)).toNat) fun xl65=>(if (m1_2.2.2.2.length+([t55.1]).length)*64≤140737488355328 then lo2 xl65 x5_5 y18 (IntKind.wrap .i64 (x9_2+(1:Int))) (m1_2.1,(m1_2.2.1++[(bl y18)]),m1_2.2.2.1,(m1_2.2.2.2++[t55.1])) else none) else none) else some (((0:Int),([]:List (List Int)),([]:List (List Int)),([]:List PT)),false))) else none) else none) else none) else none)
def shadowboxref16_parse.jo5 (t2:Int × (List Int) × Bool) (x8_2:ByteArray) (x9_2:Int) (m1_2:NO) (k2:Nat) (x10_4:Int) (lo2:(List Int)→Bool→ByteArray→Int→(NO)→Option (NO × Bool)) (l0_5:List Int) (x5_5:Bool) (x11_5:ByteArray):Option (NO × Bool) := (if x5_5=true then (if x10_4 > (x8_2.size:Int) then some (((0:Int),([]:List (List Int)),([]:List (List Int)),([]:List PT)),false) else (shadowboxref16_parse.jo6 t2 x8_2 x9_2 m1_2 k2 x10_4 l0_5 x5_5 x11_5 lo2)) else some (((0:Int),([]:List (List Int)),([]:List (List Int)),([]:List PT)),false))
def shadowboxref16_parse.jo4 (t2:Int × (List Int) × Bool) (x8_2:ByteArray) (x9_2:Int) (m1_2:NO) (k2:Nat) (lo2:(List Int)→Bool→ByteArray→Int→(NO)→Option (NO × Bool)) (l0_4:List Int) (x5_4:Bool) (x10_4:Int):Option (NO × Bool) := (if x5_4=true then (shadowboxref16_text.f k2 l0_4).bind fun t77=>(shadowboxref16_parse.jo5 t2 x8_2 x9_2 m1_2 k2 x10_4 lo2) t77.2.1 t77.2.2 t77.1 else (shadowboxref16_parse.jo5 t2 x8_2 x9_2 m1_2 k2 x10_4 lo2) l0_4 x5_4 (⟨#[]⟩:ByteArray))
def shadowboxref16_parse.jo3 (t2:Int × (List Int) × Bool) (l0_2:List Int) (x5_2:Bool) (x8_2:ByteArray) (x9_2:Int) (m1_2:NO) (k2:Nat) (lo2:(List Int)→Bool→ByteArray→Int→(NO)→Option (NO × Bool)):Option (NO × Bool) := (if x5_2=true then (shadowboxref16_number.f k2 l0_2).bind fun t84=>(shadowboxref16_parse.jo4 t2 x8_2 x9_2 m1_2 k2 lo2) t84.2.1 t84.2.2 t84.1 else (shadowboxref16_parse.jo4 t2 x8_2 x9_2 m1_2 k2 lo2) l0_2 x5_2 (0:Int))
def shadowboxref16_parse.lo2 (t2:Int × (List Int) × Bool) (t8:Int × (List Int) × Bool):Nat→(List Int)→Bool→ByteArray→Int→(NO)→Option (NO × Bool)
  | 0,_,_,_,_,_=>none
  | k2+1,l0_2,x5_2,x8_2,x9_2,m1_2=>(if x9_2<t8.1 then (shadowboxref16_parse.jo3 t2 l0_2 x5_2 x8_2 x9_2 m1_2 k2 (shadowboxref16_parse.lo2 t2 t8 k2)) else some ((m1_2.1,m1_2.2.1,m1_2.2.2.1,m1_2.2.2.2),x5_2))
def shadowboxref16_parse.jo1 (k:Nat) (t2:Int × (List Int) × Bool):Option (NO × Bool) := (shadowboxref16_number.f k t2.2.1).bind fun t8=>shadowboxref16_parse.lo2 t2 t8 k t8.2.1 t8.2.2 (⟨#[]⟩:ByteArray) (0:Int) (t2.1,([]:List (List Int)),([]:List (List Int)),([]:List PT))
def shadowboxref16_parse.f (k:Nat) (l0:List Int):Option (NO × Bool) :=
  (shadowboxref16_number.f k l0).bind fun t2=>(if t2.2.2=true then (shadowboxref16_parse.jo1 k t2) else some (((0:Int),([]:List (List Int)),([]:List (List Int)),([]:List PT)),false))
theorem shadowboxref16_parse.calls (k:Nat) (A0:Option Addr) (c0:Nat) (l0:List Int) (r:NO × Bool) (b:Bs) (hs0:St b (stl []) b.w) (R0:Ro b A0 (em (Ec.int 5 .u8) l0)) (C0:l0.length≤c0) (H:shadowboxref16_parse.f k l0=some r) :
    Calls Try.prog 37 #[.slice A0 l0.length c0] b.w fun e w'=>∃ b',b.le b'∧∃ x:(Option Addr × Nat) × (Option Addr × Nat) × (Option Addr × Nat),e=.returned (.tuple #[.agg ⟨([Value.int .i64 r.1.1]++([Value.slice x.1.1 r.1.2.1.length x.1.2]++([Value.slice x.2.1.1 r.1.2.2.1.length x.2.1.2]++[Value.slice x.2.2.1 r.1.2.2.2.length x.2.2.2])))⟩,.bool r.2])∧((RoS 23 (Ec.int 5 .u8) b' x.1.1 r.1.2.1∧r.1.2.1.length≤x.1.2)∧(RoS 23 (Ec.int 5 .u8) b' x.2.1.1 r.1.2.2.1∧r.1.2.2.1.length≤x.2.1.2)∧(Ro b' x.2.2.1 (em T44 r.1.2.2.2)∧r.1.2.2.2.length≤x.2.2.2))∧St b' (stl []) w' := by
 unfold shadowboxref16_parse.f at H
 refine enterb (n:=104) Try.func37 rfl (by kernel_rfl) (by kernel_rfl) hs0 ?_
 refine cs_sub (s0) (sub_nil _) ?_
 refine cs_seq ?_
 refine cs_region (l:=[_,_]) ?_
 refine ls_new rfl rfl (by kernel_rfl) 0 (fun g=>.pointer (some ⟨g,0,none⟩)) (.cells ⟨([Value.int .i64 (0:Int)]++([Value.slice none 0 0]++([Value.slice none 0 0]++[Value.slice none 0 0])))⟩ 32) (fun w=>by kernel_rfl) ?_
 intro g1
 refine lv (.bool false) ?_
 refine ls_end ?_
 refine qn_then ?_
 refine cs_seq ?_
 refine cs_region (l:=[_,_,_,_,_,_,_,_,_]) ?_
 refine lv (.slice A0 l0.length c0) ?_
 obtain ⟨t2,hc3,H⟩ := bind_some H
 refine ls_callg (fid:=64) (vals:=#[.slice A0 l0.length c0]) (X:=(Option Addr × Nat)) (fun x=>.tuple #[.int .i64 t2.1,.slice x.1 t2.2.1.length x.2,.bool t2.2.2]) (fun x=>stl []) (fun x B=>(Ro B x.1 (em (Ec.int 5 .u8) t2.2.1)∧t2.2.1.length≤x.2)) [] [] 1 rfl rfl (by kernel_rfl) (fun w=>by kernel_rfl) trivial (by decide) (fun x b b' h hf=>⟨h _ _ hf.1,hf.2⟩) (fun w hs hb=>shadowboxref16_number.calls k A0 c0 l0 t2 (lent b w [] []) hb (hs.ro R0 _ _) C0 hc3) ?_
 intro x4 hf7
 obtain ⟨fR5,fC6⟩ := hf7
 refine lv (.tuple #[.int .i64 t2.1,.slice x4.1 t2.2.1.length x4.2,.bool t2.2.2]) ?_
 refine lv (.int .i64 t2.1) ?_
 refine lv (.slice x4.1 t2.2.1.length x4.2) ?_
 refine lv (.bool t2.2.2) ?_
 refine lv (.int .i64 t2.1) ?_
 refine lv (.slice x4.1 t2.2.1.length x4.2) ?_
 refine lv (.bool t2.2.2) ?_
 refine ls_end ?_
 refine qn_then ?_
 refine cs_cut (fun f S=>∃ (fR:Fr),f=upd (upd (upd fR 0 (.slice x4.1 t2.2.1.length x4.2)) 2 (.pointer (some ⟨g1,0,none⟩))) 4 (.int .i64 t2.1)∧S=sput s0 0 (some (Ck.var 32 g1 (([Value.int .i64 (0:Int)]++([Value.slice none 0 0]++([Value.slice none 0 0]++[Value.slice none 0 0]))))))∧shadowboxref16_parse.jo1 k t2=some r) ?_ ?_
 ·skip
  refine cs_seq ?_
  refine cs_region (l:=[_,_]) ?_
  refine lv (.bool t2.2.2) ?_
  refine lv (.bool (!t2.2.2)) ?_
  refine ls_end ?_
  refine qn_then ?_
  by_cases q110:t2.2.2=true
  ·replace H := ite_t q110 H
   refine cs_know (c:=false) (congrArg Bool.not (q110)) 21 (by kernel_rfl) ?_
   refine cs_false (by kernel_rfl) ?_
   refine cs_skip' ?_
   refine qn_meet (sput s0 0 (some (Ck.var 32 g1 (([Value.int .i64 (0:Int)]++([Value.slice none 0 0]++([Value.slice none 0 0]++[Value.slice none 0 0]))))))) ⟨_,fr_next (fr_next (fr_next (rfl) (by kernel_rfl)) (by kernel_rfl)) (by kernel_rfl),rfl,H⟩ (sub_put (by exact rfl) (sub_nil _))
  replace H := ite_f q110 H
  refine cs_know (c:=true) (congrArg Bool.not (Bool.eq_false_iff.mpr q110)) 21 (by kernel_rfl) ?_
  refine cs_true (by kernel_rfl) ?_
  refine cs_seq ?_
  refine cs_region (l:=[_,_,_]) ?_
  refine lv (.agg ⟨([Value.int .i64 (0:Int)]++([Value.slice none 0 0]++([Value.slice none 0 0]++[Value.slice none 0 0])))⟩) ?_
  refine ls_storec (g:=g1) (off:=0) (v:=.agg ⟨([Value.int .i64 (0:Int)]++([Value.slice none 0 0]++([Value.slice none 0 0]++[Value.slice none 0 0])))⟩) (vs:=([Value.int .i64 (0:Int)]++([Value.slice none 0 0]++([Value.slice none 0 0]++[Value.slice none 0 0])))) (cs:=([Value.int .i64 (0:Int)]++([Value.slice none 0 0]++([Value.slice none 0 0]++[Value.slice none 0 0])))) (ty:=32) 0 rfl rfl rfl (by kernel_rfl) (by kernel_rfl) (by kernel_rfl) (by exact rfl) (by kernel_rfl) (len_app (len1 _) (len_app (len1 _) (len_app (len1 _) (len1 _)))) (one_app (one_cons rfl one_nil) (one_app (one_cons rfl one_nil) (one_app (one_cons rfl one_nil) (one_cons rfl one_nil)))) (hl_of (Sub4.all _) (len_eq (len_app (len1 _) (len_app (len1 _) (len_app (len1 _) (len1 _)))) (len_app (len1 _) (len_app (len1 _) (len_app (len1 _) (len1 _)))))) (cs' := ([Value.int .i64 (0:Int)]++([Value.slice none 0 0]++([Value.slice none 0 0]++[Value.slice none 0 0])))) (splc_all (len_eq (len_app (len1 _) (len_app (len1 _) (len_app (len1 _) (len1 _)))) (len_app (len1 _) (len_app (len1 _) (len_app (len1 _) (len1 _)))))) ?_
  refine lv (.bool false) ?_
  refine ls_end ?_
  refine qn_then ?_
  refine cs_ret' ?_
  refine qr_then ?_
  obtain rfl := Option.some.inj H
  refine qr_res (rs:=[_,_]) rfl (fun w' hs=>⟨[.agg ⟨([Value.int .i64 (0:Int)]++([Value.slice none 0 0]++([Value.slice none 0 0]++[Value.slice none 0 0])))⟩,.bool false],(.cell (by kernel_rfl) (run_cellres (by kernel_rfl) (by kernel_rfl) (len_app (len1 _) (len_app (len1 _) (len_app (len1 _) (len1 _)))) (hs.holds 0 _ (by exact rfl))) (res_tmp (by kernel_rfl) (.nil))),b,(Bs.le.refl b),((none,0),(none,0),(none,0)),rfl,⟨⟨(RoS.nil _ _ _ _),(Nat.zero_le _)⟩,⟨(RoS.nil _ _ _ _),(Nat.zero_le _)⟩,⟨(Ro.nil _ _),(Nat.zero_le _)⟩⟩,hs.pick (ts:=[]) (cs:=[]) trivial (by decide)⟩)
 rintro f S ⟨fr1,rfl,rfl,H⟩
 replace H:((shadowboxref16_number.f k t2.2.1).bind fun t8=>shadowboxref16_parse.lo2 t2 t8 k t8.2.1 t8.2.2 (⟨#[]⟩:ByteArray) (0:Int) (t2.1,([]:List (List Int)),([]:List (List Int)),([]:List PT)))=some r := H
 refine cs_seq ?_
 refine cs_region (l:=[_,_,_,_,_,_,_,_,_]) ?_
 refine lv (.slice x4.1 t2.2.1.length x4.2) ?_
 obtain ⟨t8,hc9,H⟩ := bind_some H
 refine ls_callg (fid:=64) (vals:=#[.slice x4.1 t2.2.1.length x4.2]) (X:=(Option Addr × Nat)) (fun x=>.tuple #[.int .i64 t8.1,.slice x.1 t8.2.1.length x.2,.bool t8.2.2]) (fun x=>stl []) (fun x B=>(Ro B x.1 (em (Ec.int 5 .u8) t8.2.1)∧t8.2.1.length≤x.2)) [] [] 1 rfl rfl (by kernel_rfl) (fun w=>by kernel_rfl) trivial (by decide) (fun x b b' h hf=>⟨h _ _ hf.1,hf.2⟩) (fun w hs hb=>shadowboxref16_number.calls k x4.1 x4.2 t2.2.1 t8 (lent b w [] []) hb (hs.ro fR5 _ _) fC6 hc9) ?_
 intro x10 hf13
 obtain ⟨fR11,fC12⟩ := hf13
 refine lv (.tuple #[.int .i64 t8.1,.slice x10.1 t8.2.1.length x10.2,.bool t8.2.2]) ?_
 refine lv (.int .i64 t8.1) ?_
 refine lv (.slice x10.1 t8.2.1.length x10.2) ?_
 refine lv (.bool t8.2.2) ?_
 refine lv (.int .i64 t8.1) ?_
 refine lv (.slice x10.1 t8.2.1.length x10.2) ?_
 refine lv (.bool t8.2.2) ?_
 refine ls_end ?_
 refine qn_then ?_
 refine cs_seq ?_
 refine cs_region (l:=[_,_,_,_]) ?_
 refine lv (.int .i64 t2.1) ?_
 refine lv (.agg ⟨([Value.int .i64 t2.1]++([Value.slice none 0 0]++([Value.slice none 0 0]++[Value.slice none 0 0])))⟩) ?_
 refine ls_new rfl rfl (by kernel_rfl) 1 (fun g=>.pointer (some ⟨g,0,none⟩)) (.cells ⟨([Value.int .i64 (0:Int)]++([Value.slice none 0 0]++([Value.slice none 0 0]++[Value.slice none 0 0])))⟩ 32) (fun w=>by kernel_rfl) ?_
 intro g14
 refine ls_storec (g:=g14) (off:=0) (v:=.agg ⟨([Value.int .i64 t2.1]++([Value.slice none 0 0]++([Value.slice none 0 0]++[Value.slice none 0 0])))⟩) (vs:=([Value.int .i64 t2.1]++([Value.slice none 0 0]++([Value.slice none 0 0]++[Value.slice none 0 0])))) (cs:=([Value.int .i64 (0:Int)]++([Value.slice none 0 0]++([Value.slice none 0 0]++[Value.slice none 0 0])))) (ty:=32) 1 rfl rfl rfl (by kernel_rfl) (by kernel_rfl) (by kernel_rfl) (by exact rfl) (by kernel_rfl) (len_app (len1 _) (len_app (len1 _) (len_app (len1 _) (len1 _)))) (one_app (one_cons rfl one_nil) (one_app (one_cons rfl one_nil) (one_app (one_cons rfl one_nil) (one_cons rfl one_nil)))) (hl_of (Sub4.all _) (len_eq (len_app (len1 _) (len_app (len1 _) (len_app (len1 _) (len1 _)))) (len_app (len1 _) (len_app (len1 _) (len_app (len1 _) (len1 _)))))) (cs' := ([Value.int .i64 t2.1]++([Value.slice none 0 0]++([Value.slice none 0 0]++[Value.slice none 0 0])))) (splc_all (len_eq (len_app (len1 _) (len_app (len1 _) (len_app (len1 _) (len1 _)))) (len_app (len1 _) (len_app (len1 _) (len_app (len1 _) (len1 _)))))) ?_
 refine ls_end ?_
 refine qn_then ?_
 refine cs_seq ?_
 refine cs_region (l:=[_]) ?_
 refine lv (.string (⟨#[]⟩:ByteArray)) ?_
 refine ls_end ?_
 refine qn_then ?_
 refine cs_seq ?_
 refine cs_seq ?_
 refine cs_region (l:=[_]) ?_
 refine lv (.int .i64 (0:Int)) ?_
 refine ls_end ?_
 refine qn_then ?_
 refine cs_block ?_
 refine cs_nilrow 2 (Ec.sls 23 Int) ?_
 refine cs_nilrow 3 (Ec.sls 23 Int) ?_
 refine cs_nilrow 4 T44 ?_
 refine cs_sub (sput (sput (sput (sput (sput s0 0 (some (Ck.var 32 g1 (([Value.int .i64 (0:Int)]++([Value.slice none 0 0]++([Value.slice none 0 0]++[Value.slice none 0 0]))))))) 1 (some (Ck.var 32 g14 (([Value.int .i64 t2.1]++([Value.slice none 0 0]++([Value.slice none 0 0]++[Value.slice none 0 0]))))))) 2 (some (Ck.sl (Ec.sls 23 Int) none 0 ([]:List (Pl × (List Int)))))) 3 (some (Ck.sl (Ec.sls 23 Int) none 0 ([]:List (Pl × (List Int)))))) 4 (some (Ck.sl T44 none 0 ([]:List PT)))) (sub_put (by exact rfl) (sub_put (by exact rfl) (sub_put (by exact rfl) (sub_put (by exact rfl) (sub_put (by exact rfl) (sub_nil _)))))) ?_
 refine cs_loopb (fun kk bh2 f S=>∃ (fR:Fr) (A0_2:Option Addr) (c0_2:Nat) (l0_2:List Int) (x5_2:Bool) (x8_2:ByteArray) (x9_2:Int) (Am1_2_1:Option Addr) (cm1_2_1:Nat) (Lm1_2_1:List (Pl × (List Int))) (Am1_2_2:Option Addr) (cm1_2_2:Nat) (Lm1_2_2:List (Pl × (List Int))) (Am1_2_3:Option Addr) (cm1_2_3:Nat) (m1_2:NO),f=upd (upd (upd (upd (upd (upd (upd (upd fR 0 (.slice A0_2 l0_2.length c0_2)) 2 (.pointer (some ⟨g1,0,none⟩))) 4 (.int .i64 t2.1)) 5 (.bool x5_2)) 6 (.int .i64 t8.1)) 7 (.pointer (some ⟨g14,0,none⟩))) 8 (.string x8_2)) 9 (.int .i64 x9_2)∧S=sput (sput (sput (sput (sput s0 0 (some (Ck.var 32 g1 (([Value.int .i64 (0:Int)]++([Value.slice none 0 0]++([Value.slice none 0 0]++[Value.slice none 0 0]))))))) 1 (some (Ck.var 32 g14 (([Value.int .i64 m1_2.1]++([Value.slice Am1_2_1 m1_2.2.1.length cm1_2_1]++([Value.slice Am1_2_2 m1_2.2.2.1.length cm1_2_2]++[Value.slice Am1_2_3 m1_2.2.2.2.length cm1_2_3]))))))) 2 (some (Ck.sl (Ec.sls 23 Int) Am1_2_1 cm1_2_1 Lm1_2_1))) 3 (some (Ck.sl (Ec.sls 23 Int) Am1_2_2 cm1_2_2 Lm1_2_2))) 4 (some (Ck.sl T44 Am1_2_3 cm1_2_3 m1_2.2.2.2))∧Ro bh2 A0_2 (em (Ec.int 5 .u8) l0_2)∧l0_2.length≤c0_2∧InsC (Ec.int 5 .u8) bh2 Lm1_2_1∧Lm1_2_1.map (·.2)=m1_2.2.1∧InsC (Ec.int 5 .u8) bh2 Lm1_2_2∧Lm1_2_2.map (·.2)=m1_2.2.2.1∧b.le bh2∧shadowboxref16_parse.lo2 t2 t8 kk l0_2 x5_2 x8_2 x9_2 m1_2=some r) k ?_ ?_ ?_
 ·exact ⟨_,x10.1,x10.2,t8.2.1,t8.2.2,(⟨#[]⟩:ByteArray),(0:Int),none,0,([]:List (Pl × (List Int))),none,0,([]:List (Pl × (List Int))),none,0,(t2.1,([]:List (List Int)),([]:List (List Int)),([]:List PT)),fr_next (fr_next (fr_next (fr_next (fr_next (fr_next (fr_next (fr_next (rfl) (by kernel_rfl)) (by kernel_rfl)) (by kernel_rfl)) (by kernel_rfl)) (by kernel_rfl)) (by kernel_rfl)) (by kernel_rfl)) (by kernel_rfl),rfl,fR11,fC12,(InsC.nil _ _),rfl,(InsC.nil _ _),rfl,(Bs.le.refl b),H⟩
 ·rintro bh2 f S ⟨fr2,A0_2,c0_2,l0_2,x5_2,x8_2,x9_2,Am1_2_1,cm1_2_1,Lm1_2_1,Am1_2_2,cm1_2_2,Lm1_2_2,Am1_2_3,cm1_2_3,m1_2,rfl,rfl,R0_2,C0_2,Im1_2_1,Em1_2_1,Im1_2_2,Em1_2_2,hleh2,H⟩; cases H
 rintro k2 bh2 f S ⟨fr2,A0_2,c0_2,l0_2,x5_2,x8_2,x9_2,Am1_2_1,cm1_2_1,Lm1_2_1,Am1_2_2,cm1_2_2,Lm1_2_2,Am1_2_3,cm1_2_3,m1_2,rfl,rfl,R0_2,C0_2,Im1_2_1,Em1_2_1,Im1_2_2,Em1_2_2,hleh2,H⟩
 replace H:((if x9_2<t8.1 then (shadowboxref16_parse.jo3 t2 l0_2 x5_2 x8_2 x9_2 m1_2 k2 (shadowboxref16_parse.lo2 t2 t8 k2)) else some ((m1_2.1,m1_2.2.1,m1_2.2.2.1,m1_2.2.2.2),x5_2)))=some r := H
 refine cs_cut (fun f S=>∃ (fR:Fr),f=upd (upd (upd (upd (upd (upd (upd (upd fR 0 (.slice A0_2 l0_2.length c0_2)) 2 (.pointer (some ⟨g1,0,none⟩))) 4 (.int .i64 t2.1)) 5 (.bool x5_2)) 6 (.int .i64 t8.1)) 7 (.pointer (some ⟨g14,0,none⟩))) 8 (.string x8_2)) 9 (.int .i64 x9_2)∧S=sput (sput (sput (sput (sput s0 0 (some (Ck.var 32 g1 (([Value.int .i64 (0:Int)]++([Value.slice none 0 0]++([Value.slice none 0 0]++[Value.slice none 0 0]))))))) 1 (some (Ck.var 32 g14 (([Value.int .i64 m1_2.1]++([Value.slice Am1_2_1 m1_2.2.1.length cm1_2_1]++([Value.slice Am1_2_2 m1_2.2.2.1.length cm1_2_2]++[Value.slice Am1_2_3 m1_2.2.2.2.length cm1_2_3]))))))) 2 (some (Ck.sl (Ec.sls 23 Int) Am1_2_1 cm1_2_1 Lm1_2_1))) 3 (some (Ck.sl (Ec.sls 23 Int) Am1_2_2 cm1_2_2 Lm1_2_2))) 4 (some (Ck.sl T44 Am1_2_3 cm1_2_3 m1_2.2.2.2))∧shadowboxref16_parse.jo3 t2 l0_2 x5_2 x8_2 x9_2 m1_2 k2 (shadowboxref16_parse.lo2 t2 t8 k2)=some r) ?_ ?_
 ·skip
  refine cs_seq ?_
  refine cs_region (l:=[_,_,_]) ?_
  refine lv (.int .i64 x9_2) ?_
  refine lv (.int .i64 t8.1) ?_
  refine lv (.bool (decide (x9_2<t8.1))) ?_
  refine ls_end ?_
  refine qn_then ?_
  by_cases q90:x9_2<t8.1
  ·replace H := ite_t q90 H
   refine cs_know (c:=true) (dec_t q90) 33 (by kernel_rfl) ?_
   refine cs_true (by kernel_rfl) ?_
   refine cs_skip' ?_
   refine qn_meet (sput (sput (sput (sput (sput s0 0 (some (Ck.var 32 g1 (([Value.int .i64 (0:Int)]++([Value.slice none 0 0]++([Value.slice none 0 0]++[Value.slice none 0 0]))))))) 1 (some (Ck.var 32 g14 (([Value.int .i64 m1_2.1]++([Value.slice Am1_2_1 m1_2.2.1.length cm1_2_1]++([Value.slice Am1_2_2 m1_2.2.2.1.length cm1_2_2]++[Value.slice Am1_2_3 m1_2.2.2.2.length cm1_2_3]))))))) 2 (some (Ck.sl (Ec.sls 23 Int) Am1_2_1 cm1_2_1 Lm1_2_1))) 3 (some (Ck.sl (Ec.sls 23 Int) Am1_2_2 cm1_2_2 Lm1_2_2))) 4 (some (Ck.sl T44 Am1_2_3 cm1_2_3 m1_2.2.2.2))) ⟨_,fr_next (fr_next (fr_next (fr_next (fr_next (fr_next (fr_next (fr_next (rfl) (by kernel_rfl)) (by kernel_rfl)) (by kernel_rfl)) (by kernel_rfl)) (by kernel_rfl)) (by kernel_rfl)) (by kernel_rfl)) (by kernel_rfl),rfl,H⟩ (sub_put (by exact rfl) (sub_put (by exact rfl) (sub_put (by exact rfl) (sub_put (by exact rfl) (sub_put (by exact rfl) (sub_nil _))))))
  replace H := ite_f q90 H
  refine cs_know (c:=false) (dec_f q90) 33 (by kernel_rfl) ?_
  refine cs_false (by kernel_rfl) ?_
  refine cs_exit' ?_
  refine qx_then ?_
  refine qx_then ?_
  refine qx_same ?_
  refine qn_then ?_
  refine cs_seq ?_
  refine cs_region (l:=[_,_,_,_]) ?_
  refine ls_loadagg (a:=⟨g14,0,none⟩) (sub:=([Value.int .i64 m1_2.1]++([Value.slice Am1_2_1 m1_2.2.1.length cm1_2_1]++([Value.slice Am1_2_2 m1_2.2.2.1.length cm1_2_2]++[Value.slice Am1_2_3 m1_2.2.2.2.length cm1_2_3])))) rfl rfl (by kernel_rfl) rfl (by kernel_rfl) (by kernel_rfl) (by kernel_rfl) (len_app (len1 _) (len_app (len1 _) (len_app (len1 _) (len1 _)))) (fun w hs=>(hs.vars (k:=1) (by exact rfl) (Sub4.all _))) ?_
  refine lv (.bool x5_2) ?_
  refine ls_storec (g:=g1) (off:=0) (v:=.agg ⟨([Value.int .i64 m1_2.1]++([Value.slice Am1_2_1 m1_2.2.1.length cm1_2_1]++([Value.slice Am1_2_2 m1_2.2.2.1.length cm1_2_2]++[Value.slice Am1_2_3 m1_2.2.2.2.length cm1_2_3])))⟩) (vs:=([Value.int .i64 m1_2.1]++([Value.slice Am1_2_1 m1_2.2.1.length cm1_2_1]++([Value.slice Am1_2_2 m1_2.2.2.1.length cm1_2_2]++[Value.slice Am1_2_3 m1_2.2.2.2.length cm1_2_3])))) (cs:=([Value.int .i64 (0:Int)]++([Value.slice none 0 0]++([Value.slice none 0 0]++[Value.slice none 0 0])))) (ty:=32) 0 rfl rfl rfl (by kernel_rfl) (by kernel_rfl) (by kernel_rfl) (by exact rfl) (by kernel_rfl) (len_app (len1 _) (len_app (len1 _) (len_app (len1 _) (len1 _)))) (one_app (one_cons rfl one_nil) (one_app (one_cons rfl one_nil) (one_app (one_cons rfl one_nil) (one_cons rfl one_nil)))) (hl_of (Sub4.all _) (len_eq (len_app (len1 _) (len_app (len1 _) (len_app (len1 _) (len1 _)))) (len_app (len1 _) (len_app (len1 _) (len_app (len1 _) (len1 _)))))) (cs' := ([Value.int .i64 m1_2.1]++([Value.slice Am1_2_1 m1_2.2.1.length cm1_2_1]++([Value.slice Am1_2_2 m1_2.2.2.1.length cm1_2_2]++[Value.slice Am1_2_3 m1_2.2.2.2.length cm1_2_3])))) (splc_all (len_eq (len_app (len1 _) (len_app (len1 _) (len_app (len1 _) (len1 _)))) (len_app (len1 _) (len_app (len1 _) (len_app (len1 _) (len1 _)))))) ?_
  refine lv (.bool x5_2) ?_
  refine ls_end ?_
  refine qn_then ?_
  refine cs_ret' ?_
  refine qr_freeze (T:=(Ec.sls 23 Int)) (A:=Am1_2_1) (c:=cm1_2_1) (l:=Lm1_2_1) 2 (by exact rfl) ?_
  intro bs91 hle92 hok93 fR94 fC95
  have fR96:RoS 23 (Ec.int 5 .u8) bs91 Am1_2_1 m1_2.2.1 := RoS.ofE fR94 (InsC.mono hok93 hle92 Im1_2_1) Em1_2_1
  have fC97:m1_2.2.1.length≤cm1_2_1 := lenE Em1_2_1 fC95
  refine qr_freeze (T:=(Ec.sls 23 Int)) (A:=Am1_2_2) (c:=cm1_2_2) (l:=Lm1_2_2) 3 (by exact rfl) ?_
  intro bs98 hle99 hok100 fR101 fC102
  have fR103:RoS 23 (Ec.int 5 .u8) bs98 Am1_2_2 m1_2.2.2.1 := RoS.ofE fR101 (InsC.mono hok100 hle99 (InsC.mono hok93 hle92 Im1_2_2)) Em1_2_2
  have fC104:m1_2.2.2.1.length≤cm1_2_2 := lenE Em1_2_2 fC102
  refine qr_freeze (T:=T44) (A:=Am1_2_3) (c:=cm1_2_3) (l:=m1_2.2.2.2) 4 (by exact rfl) ?_
  intro bs105 hle106 hok107 fR108 fC109
  obtain rfl := Option.some.inj H
  refine qr_res (rs:=[_,_]) rfl (fun w' hs=>⟨[.agg ⟨([Value.int .i64 m1_2.1]++([Value.slice Am1_2_1 m1_2.2.1.length cm1_2_1]++([Value.slice Am1_2_2 m1_2.2.2.1.length cm1_2_2]++[Value.slice Am1_2_3 m1_2.2.2.2.length cm1_2_3])))⟩,.bool x5_2],(.cell (by kernel_rfl) (run_cellres (by kernel_rfl) (by kernel_rfl) (len_app (len1 _) (len_app (len1 _) (len_app (len1 _) (len1 _)))) (hs.holds 0 _ (by exact rfl))) (res_tmp (by kernel_rfl) (.nil))),bs105,(((hleh2.trans hle92).trans hle99).trans hle106),((Am1_2_1,cm1_2_1),(Am1_2_2,cm1_2_2),(Am1_2_3,cm1_2_3)),rfl,⟨⟨(RoS.mono hok107 hle106 (RoS.mono hok100 hle99 fR96)),fC97⟩,⟨(RoS.mono hok107 hle106 fR103),fC104⟩,⟨fR108,fC109⟩⟩,hs.pick (ts:=[]) (cs:=[]) trivial (by decide)⟩)
 rintro f S ⟨fr3,rfl,rfl,H⟩
 replace H:((if x5_2=true then (shadowboxref16_number.f k2 l0_2).bind fun t84=>(shadowboxref16_parse.jo4 t2 x8_2 x9_2 m1_2 k2 (shadowboxref16_parse.lo2 t2 t8 k2)) t84.2.1 t84.2.2 t84.1 else (shadowboxref16_parse.jo4 t2 x8_2 x9_2 m1_2 k2 (shadowboxref16_parse.lo2 t2 t8 k2)) l0_2 x5_2 (0:Int)))=some r := H
 refine cs_seq ?_
 refine cs_block ?_
 refine cs_seq ?_
 refine cs_region (l:=[_]) ?_
 refine lv (.int .i64 (0:Int)) ?_
 refine ls_end ?_
 refine qn_then ?_
 refine cs_seq ?_
 refine cs_region (l:=[_]) ?_
 refine lv (.string (⟨#[]⟩:ByteArray)) ?_
 refine ls_end ?_
 refine qn_then ?_
 refine cs_cut (fun f S=>∃ (fR:Fr) (A0_4:Option Addr) (c0_4:Nat) (l0_4:List Int) (x5_4:Bool) (x10_4:Int),f=upd (upd (upd (upd (upd (upd (upd (upd (upd (upd fR 0 (.slice A0_4 l0_4.length c0_4)) 2 (.pointer (some ⟨g1,0,none⟩))) 4 (.int .i64 t2.1)) 5 (.bool x5_4)) 6 (.int .i64 t8.1)) 7 (.pointer (some ⟨g14,0,none⟩))) 8 (.string x8_2)) 9 (.int .i64 x9_2)) 10 (.int .i64 x10_4)) 11 (.string (⟨#[]⟩:ByteArray))∧S=sput (sput (sput (sput (sput s0 0 (some (Ck.var 32 g1 (([Value.int .i64 (0:Int)]++([Value.slice none 0 0]++([Value.slice none 0 0]++[Value.slice none 0 0]))))))) 1 (some (Ck.var 32 g14 (([Value.int .i64 m1_2.1]++([Value.slice Am1_2_1 m1_2.2.1.length cm1_2_1]++([Value.slice Am1_2_2 m1_2.2.2.1.length cm1_2_2]++[Value.slice Am1_2_3 m1_2.2.2.2.length cm1_2_3]))))))) 2 (some (Ck.sl (Ec.sls 23 Int) Am1_2_1 cm1_2_1 Lm1_2_1))) 3 (some (Ck.sl (Ec.sls 23 Int) Am1_2_2 cm1_2_2 Lm1_2_2))) 4 (some (Ck.sl T44 Am1_2_3 cm1_2_3 m1_2.2.2.2))∧Ro bh2 A0_4 (em (Ec.int 5 .u8) l0_4)∧l0_4.length≤c0_4∧shadowboxref16_parse.jo4 t2 x8_2 x9_2 m1_2 k2 (shadowboxref16_parse.lo2 t2 t8 k2) l0_4 x5_4 x10_4=some r) ?_ ?_
 ·skip
  refine cs_seq ?_
  refine cs_region (l:=[_]) ?_
  refine lv (.bool x5_2) ?_
  refine ls_end ?_
  refine qn_then ?_
  by_cases q83:x5_2=true
  ·replace H := ite_t q83 H
   refine cs_know (c:=true) (q83) 36 (by kernel_rfl) ?_
   refine cs_true (by kernel_rfl) ?_
   refine cs_region (l:=[_,_,_,_,_,_,_,_,_]) ?_
   refine lv (.slice A0_2 l0_2.length c0_2) ?_
   obtain ⟨t84,hc85,H⟩ := bind_some H
   refine ls_callg (fid:=64) (vals:=#[.slice A0_2 l0_2.length c0_2]) (X:=(Option Addr × Nat)) (fun x=>.tuple #[.int .i64 t84.1,.slice x.1 t84.2.1.length x.2,.bool t84.2.2]) (fun x=>stl []) (fun x B=>(Ro B x.1 (em (Ec.int 5 .u8) t84.2.1)∧t84.2.1.length≤x.2)) [] [] 5 rfl rfl (by kernel_rfl) (fun w=>by kernel_rfl) trivial (by decide) (fun x b b' h hf=>⟨h _ _ hf.1,hf.2⟩) (fun w hs hb=>shadowboxref16_number.calls k2 A0_2 c0_2 l0_2 t84 (lent bh2 w [] []) hb (hs.ro R0_2 _ _) C0_2 hc85) ?_
   intro x86 hf89
   obtain ⟨fR87,fC88⟩ := hf89
   refine lv (.tuple #[.int .i64 t84.1,.slice x86.1 t84.2.1.length x86.2,.bool t84.2.2]) ?_
   refine lv (.int .i64 t84.1) ?_
   refine lv (.slice x86.1 t84.2.1.length x86.2) ?_
   refine lv (.bool t84.2.2) ?_
   refine lv (.int .i64 t84.1) ?_
   refine lv (.slice x86.1 t84.2.1.length x86.2) ?_
   refine lv (.bool t84.2.2) ?_
   refine ls_end ?_
   refine qn_meet (sput (sput (sput (sput (sput s0 0 (some (Ck.var 32 g1 (([Value.int .i64 (0:Int)]++([Value.slice none 0 0]++([Value.slice none 0 0]++[Value.slice none 0 0]))))))) 1 (some (Ck.var 32 g14 (([Value.int .i64 m1_2.1]++([Value.slice Am1_2_1 m1_2.2.1.length cm1_2_1]++([Value.slice Am1_2_2 m1_2.2.2.1.length cm1_2_2]++[Value.slice Am1_2_3 m1_2.2.2.2.length cm1_2_3]))))))) 2 (some (Ck.sl (Ec.sls 23 Int) Am1_2_1 cm1_2_1 Lm1_2_1))) 3 (some (Ck.sl (Ec.sls 23 Int) Am1_2_2 cm1_2_2 Lm1_2_2))) 4 (some (Ck.sl T44 Am1_2_3 cm1_2_3 m1_2.2.2.2))) ⟨_,x86.1,x86.2,t84.2.1,t84.2.2,t84.1,fr_next (fr_next (fr_next (fr_next (fr_next (fr_next (fr_next (fr_next (fr_next (fr_next (rfl) (by kernel_rfl)) (by kernel_rfl)) (by kernel_rfl)) (by kernel_rfl)) (by kernel_rfl)) (by kernel_rfl)) (by kernel_rfl)) (by kernel_rfl)) (by kernel_rfl)) (by kernel_rfl),rfl,fR87,fC88,H⟩ (sub_put (by exact rfl) (sub_put (by exact rfl) (sub_put (by exact rfl) (sub_put (by exact rfl) (sub_put (by exact rfl) (sub_nil _))))))
  replace H := ite_f q83 H
  refine cs_know (c:=false) (Bool.eq_false_iff.mpr q83) 36 (by kernel_rfl) ?_
  refine cs_false (by kernel_rfl) ?_
  refine cs_skip' ?_
  refine qn_meet (sput (sput (sput (sput (sput s0 0 (some (Ck.var 32 g1 (([Value.int .i64 (0:Int)]++([Value.slice none 0 0]++([Value.slice none 0 0]++[Value.slice none 0 0]))))))) 1 (some (Ck.var 32 g14 (([Value.int .i64 m1_2.1]++([Value.slice Am1_2_1 m1_2.2.1.length cm1_2_1]++([Value.slice Am1_2_2 m1_2.2.2.1.length cm1_2_2]++[Value.slice Am1_2_3 m1_2.2.2.2.length cm1_2_3]))))))) 2 (some (Ck.sl (Ec.sls 23 Int) Am1_2_1 cm1_2_1 Lm1_2_1))) 3 (some (Ck.sl (Ec.sls 23 Int) Am1_2_2 cm1_2_2 Lm1_2_2))) 4 (some (Ck.sl T44 Am1_2_3 cm1_2_3 m1_2.2.2.2))) ⟨_,A0_2,c0_2,l0_2,x5_2,(0:Int),fr_next (fr_next (fr_next (fr_next (fr_next (fr_next (fr_next (fr_next (fr_next (fr_next (rfl) (by kernel_rfl)) (by kernel_rfl)) (by kernel_rfl)) (by kernel_rfl)) (by kernel_rfl)) (by kernel_rfl)) (by kernel_rfl)) (by kernel_rfl)) (by kernel_rfl)) (by kernel_rfl),rfl,R0_2,C0_2,H⟩ (sub_put (by exact rfl) (sub_put (by exact rfl) (sub_put (by exact rfl) (sub_put (by exact rfl) (sub_put (by exact rfl) (sub_nil _))))))
 rintro f S ⟨fr4,A0_4,c0_4,l0_4,x5_4,x10_4,rfl,rfl,R0_4,C0_4,H⟩
 replace H:((if x5_4=true then (shadowboxref16_text.f k2 l0_4).bind fun t77=>(shadowboxref16_parse.jo5 t2 x8_2 x9_2 m1_2 k2 x10_4 (shadowboxref16_parse.lo2 t2 t8 k2)) t77.2.1 t77.2.2 t77.1 else (shadowboxref16_parse.jo5 t2 x8_2 x9_2 m1_2 k2 x10_4 (shadowboxref16_parse.lo2 t2 t8 k2)) l0_4 x5_4 (⟨#[]⟩:ByteArray)))=some r := H
 refine cs_cut (fun f S=>∃ (fR:Fr) (A0_5:Option Addr) (c0_5:Nat) (l0_5:List Int) (x5_5:Bool) (x11_5:ByteArray),f=upd (upd (upd (upd (upd (upd (upd (upd (upd (upd fR 0 (.slice A0_5 l0_5.length c0_5)) 2 (.pointer (some ⟨g1,0,none⟩))) 4 (.int .i64 t2.1)) 5 (.bool x5_5)) 6 (.int .i64 t8.1)) 7 (.pointer (some ⟨g14,0,none⟩))) 8 (.string x8_2)) 9 (.int .i64 x9_2)) 10 (.int .i64 x10_4)) 11 (.string x11_5)∧S=sput (sput (sput (sput (sput s0 0 (some (Ck.var 32 g1 (([Value.int .i64 (0:Int)]++([Value.slice none 0 0]++([Value.slice none 0 0]++[Value.slice none 0 0]))))))) 1 (some (Ck.var 32 g14 (([Value.int .i64 m1_2.1]++([Value.slice Am1_2_1 m1_2.2.1.length cm1_2_1]++([Value.slice Am1_2_2 m1_2.2.2.1.length cm1_2_2]++[Value.slice Am1_2_3 m1_2.2.2.2.length cm1_2_3]))))))) 2 (some (Ck.sl (Ec.sls 23 Int) Am1_2_1 cm1_2_1 Lm1_2_1))) 3 (some (Ck.sl (Ec.sls 23 Int) Am1_2_2 cm1_2_2 Lm1_2_2))) 4 (some (Ck.sl T44 Am1_2_3 cm1_2_3 m1_2.2.2.2))∧Ro bh2 A0_5 (em (Ec.int 5 .u8) l0_5)∧l0_5.length≤c0_5∧shadowboxref16_parse.jo5 t2 x8_2 x9_2 m1_2 k2 x10_4 (shadowboxref16_parse.lo2 t2 t8 k2) l0_5 x5_5 x11_5=some r) ?_ ?_
 ·skip
  refine cs_seq ?_
  refine cs_region (l:=[_]) ?_
  refine lv (.bool x5_4) ?_
  refine ls_end ?_
  refine qn_then ?_
  by_cases q76:x5_4=true
  ·replace H := ite_t q76 H
   refine cs_know (c:=true) (q76) 43 (by kernel_rfl) ?_
   refine cs_true (by kernel_rfl) ?_
   refine cs_region (l:=[_,_,_,_,_,_,_,_,_]) ?_
   refine lv (.slice A0_4 l0_4.length c0_4) ?_
   obtain ⟨t77,hc78,H⟩ := bind_some H
   refine ls_callg (fid:=65) (vals:=#[.slice A0_4 l0_4.length c0_4]) (X:=(Option Addr × Nat)) (fun x=>.tuple #[.string t77.1,.slice x.1 t77.2.1.length x.2,.bool t77.2.2]) (fun x=>stl []) (fun x B=>(Ro B x.1 (em (Ec.int 5 .u8) t77.2.1)∧t77.2.1.length≤x.2)) [] [] 5 rfl rfl (by kernel_rfl) (fun w=>by kernel_rfl) trivial (by decide) (fun x b b' h hf=>⟨h _ _ hf.1,hf.2⟩) (fun w hs hb=>shadowboxref16_text.calls k2 A0_4 c0_4 l0_4 t77 (lent bh2 w [] []) hb (hs.ro R0_4 _ _) C0_4 hc78) ?_
   intro x79 hf82
   obtain ⟨fR80,fC81⟩ := hf82
   refine lv (.tuple #[.string t77.1,.slice x79.1 t77.2.1.length x79.2,.bool t77.2.2]) ?_
   refine lv (.string t77.1) ?_
   refine lv (.slice x79.1 t77.2.1.length x79.2) ?_
   refine lv (.bool t77.2.2) ?_
   refine lv (.string t77.1) ?_
   refine lv (.slice x79.1 t77.2.1.length x79.2) ?_
   refine lv (.bool t77.2.2) ?_
   refine ls_end ?_
   refine qn_meet (sput (sput (sput (sput (sput s0 0 (some (Ck.var 32 g1 (([Value.int .i64 (0:Int)]++([Value.slice none 0 0]++([Value.slice none 0 0]++[Value.slice none 0 0]))))))) 1 (some (Ck.var 32 g14 (([Value.int .i64 m1_2.1]++([Value.slice Am1_2_1 m1_2.2.1.length cm1_2_1]++([Value.slice Am1_2_2 m1_2.2.2.1.length cm1_2_2]++[Value.slice Am1_2_3 m1_2.2.2.2.length cm1_2_3]))))))) 2 (some (Ck.sl (Ec.sls 23 Int) Am1_2_1 cm1_2_1 Lm1_2_1))) 3 (some (Ck.sl (Ec.sls 23 Int) Am1_2_2 cm1_2_2 Lm1_2_2))) 4 (some (Ck.sl T44 Am1_2_3 cm1_2_3 m1_2.2.2.2))) ⟨_,x79.1,x79.2,t77.2.1,t77.2.2,t77.1,fr_next (fr_next (fr_next (fr_next (fr_next (fr_next (fr_next (fr_next (fr_next (fr_next (rfl) (by kernel_rfl)) (by kernel_rfl)) (by kernel_rfl)) (by kernel_rfl)) (by kernel_rfl)) (by kernel_rfl)) (by kernel_rfl)) (by kernel_rfl)) (by kernel_rfl)) (by kernel_rfl),rfl,fR80,fC81,H⟩ (sub_put (by exact rfl) (sub_put (by exact rfl) (sub_put (by exact rfl) (sub_put (by exact rfl) (sub_put (by exact rfl) (sub_nil _))))))
  replace H := ite_f q76 H
  refine cs_know (c:=false) (Bool.eq_false_iff.mpr q76) 43 (by kernel_rfl) ?_
  refine cs_false (by kernel_rfl) ?_
  refine cs_skip' ?_
  refine qn_meet (sput (sput (sput (sput (sput s0 0 (some (Ck.var 32 g1 (([Value.int .i64 (0:Int)]++([Value.slice none 0 0]++([Value.slice none 0 0]++[Value.slice none 0 0]))))))) 1 (some (Ck.var 32 g14 (([Value.int .i64 m1_2.1]++([Value.slice Am1_2_1 m1_2.2.1.length cm1_2_1]++([Value.slice Am1_2_2 m1_2.2.2.1.length cm1_2_2]++[Value.slice Am1_2_3 m1_2.2.2.2.length cm1_2_3]))))))) 2 (some (Ck.sl (Ec.sls 23 Int) Am1_2_1 cm1_2_1 Lm1_2_1))) 3 (some (Ck.sl (Ec.sls 23 Int) Am1_2_2 cm1_2_2 Lm1_2_2))) 4 (some (Ck.sl T44 Am1_2_3 cm1_2_3 m1_2.2.2.2))) ⟨_,A0_4,c0_4,l0_4,x5_4,(⟨#[]⟩:ByteArray),fr_next (fr_next (fr_next (fr_next (fr_next (fr_next (fr_next (fr_next (fr_next (fr_next (rfl) (by kernel_rfl)) (by kernel_rfl)) (by kernel_rfl)) (by kernel_rfl)) (by kernel_rfl)) (by kernel_rfl)) (by kernel_rfl)) (by kernel_rfl)) (by kernel_rfl)) (by kernel_rfl),rfl,R0_4,C0_4,H⟩ (sub_put (by exact rfl) (sub_put (by exact rfl) (sub_put (by exact rfl) (sub_put (by exact rfl) (sub_put (by exact rfl) (sub_nil _))))))
 rintro f S ⟨fr5,A0_5,c0_5,l0_5,x5_5,x11_5,rfl,rfl,R0_5,C0_5,H⟩
 replace H:((if x5_5=true then (if x10_4 > (x8_2.size:Int) then some (((0:Int),([]:List (List Int)),([]:List (List Int)),([]:List PT)),false) else (shadowboxref16_parse.jo6 t2 x8_2 x9_2 m1_2 k2 x10_4 l0_5 x5_5 x11_5 (shadowboxref16_parse.lo2 t2 t8 k2))) else some (((0:Int),([]:List (List Int)),([]:List (List Int)),([]:List PT)),false)))=some r := H
 refine cs_cut (fun f S=>∃ (fR:Fr),f=upd (upd (upd (upd (upd (upd (upd (upd (upd (upd fR 0 (.slice A0_5 l0_5.length c0_5)) 2 (.pointer (some ⟨g1,0,none⟩))) 4 (.int .i64 t2.1)) 5 (.bool x5_5)) 6 (.int .i64 t8.1)) 7 (.pointer (some ⟨g14,0,none⟩))) 8 (.string x8_2)) 9 (.int .i64 x9_2)) 10 (.int .i64 x10_4)) 11 (.string x11_5)∧S=sput (sput (sput (sput (sput s0 0 (some (Ck.var 32 g1 (([Value.int .i64 (0:Int)]++([Value.slice none 0 0]++([Value.slice none 0 0]++[Value.slice none 0 0]))))))) 1 (some (Ck.var 32 g14 (([Value.int .i64 m1_2.1]++([Value.slice Am1_2_1 m1_2.2.1.length cm1_2_1]++([Value.slice Am1_2_2 m1_2.2.2.1.length cm1_2_2]++[Value.slice Am1_2_3 m1_2.2.2.2.length cm1_2_3]))))))) 2 (some (Ck.sl (Ec.sls 23 Int) Am1_2_1 cm1_2_1 Lm1_2_1))) 3 (some (Ck.sl (Ec.sls 23 Int) Am1_2_2 cm1_2_2 Lm1_2_2))) 4 (some (Ck.sl T44 Am1_2_3 cm1_2_3 m1_2.2.2.2))∧shadowboxref16_parse.jo6 t2 x8_2 x9_2 m1_2 k2 x10_4 l0_5 x5_5 x11_5 (shadowboxref16_parse.lo2 t2 t8 k2)=some r) ?_ ?_
 ·skip
  refine cs_seq ?_
  refine cs_region (l:=[_,_,_,_,_,_,_,_]) ?_
  refine lv (.bool x5_5) ?_
  refine lv (.bool (!x5_5)) ?_
  refine lv (.bool (!x5_5)) ?_
  by_cases q74:x5_5=true
  ·replace H := ite_t q74 H
   refine ls_know (c:=false) (congrArg Bool.not (q74)) 52 (by kernel_rfl) ?_
   refine ls_on (j:=2) (t:=52) (b:=false) rfl rfl (by kernel_rfl) (by kernel_rfl) ?_
   refine lv (.int .i64 x10_4) ?_
   refine ls_on (j:=2) (t:=52) (b:=false) rfl rfl (by kernel_rfl) (by kernel_rfl) ?_
   refine lv (.string x8_2) ?_
   refine ls_on (j:=2) (t:=52) (b:=false) rfl rfl (by kernel_rfl) (by kernel_rfl) ?_
   refine lv (.int .i64 (x8_2.size:Int)) ?_
   refine ls_on (j:=2) (t:=52) (b:=false) rfl rfl (by kernel_rfl) (by kernel_rfl) ?_
   refine lv (.bool (decide (x10_4 > (x8_2.size:Int)))) ?_
   refine lv (.bool (decide (x10_4 > (x8_2.size:Int)))) ?_
   refine ls_end ?_
   refine qn_then ?_
   by_cases q75:x10_4 > (x8_2.size:Int)
   ·replace H := ite_t q75 H
    refine cs_know (c:=true) (dec_t q75) 57 (by kernel_rfl) ?_
    refine cs_true (by kernel_rfl) ?_
    refine cs_seq ?_
    refine cs_region (l:=[_,_,_]) ?_
    refine lv (.agg ⟨([Value.int .i64 (0:Int)]++([Value.slice none 0 0]++([Value.slice none 0 0]++[Value.slice none 0 0])))⟩) ?_
    refine ls_storec (g:=g1) (off:=0) (v:=.agg ⟨([Value.int .i64 (0:Int)]++([Value.slice none 0 0]++([Value.slice none 0 0]++[Value.slice none 0 0])))⟩) (vs:=([Value.int .i64 (0:Int)]++([Value.slice none 0 0]++([Value.slice none 0 0]++[Value.slice none 0 0])))) (cs:=([Value.int .i64 (0:Int)]++([Value.slice none 0 0]++([Value.slice none 0 0]++[Value.slice none 0 0])))) (ty:=32) 0 rfl rfl rfl (by kernel_rfl) (by kernel_rfl) (by kernel_rfl) (by exact rfl) (by kernel_rfl) (len_app (len1 _) (len_app (len1 _) (len_app (len1 _) (len1 _)))) (one_app (one_cons rfl one_nil) (one_app (one_cons rfl one_nil) (one_app (one_cons rfl one_nil) (one_cons rfl one_nil)))) (hl_of (Sub4.all _) (len_eq (len_app (len1 _) (len_app (len1 _) (len_app (len1 _) (len1 _)))) (len_app (len1 _) (len_app (len1 _) (len_app (len1 _) (len1 _)))))) (cs' := ([Value.int .i64 (0:Int)]++([Value.slice none 0 0]++([Value.slice none 0 0]++[Value.slice none 0 0])))) (splc_all (len_eq (len_app (len1 _) (len_app (len1 _) (len_app (len1 _) (len1 _)))) (len_app (len1 _) (len_app (len1 _) (len_app (len1 _) (len1 _)))))) ?_
    refine lv (.bool false) ?_
    refine ls_end ?_
    refine qn_then ?_
    refine cs_ret' ?_
    refine qr_then ?_
    refine qr_block ?_
    refine qr_then ?_
    refine qr_then ?_
    refine qr_block ?_
    refine qr_then ?_
    obtain rfl := Option.some.inj H
    refine qr_res (rs:=[_,_]) rfl (fun w' hs=>⟨[.agg ⟨([Value.int .i64 (0:Int)]++([Value.slice none 0 0]++([Value.slice none 0 0]++[Value.slice none 0 0])))⟩,.bool false],(.cell (by kernel_rfl) (run_cellres (by kernel_rfl) (by kernel_rfl) (len_app (len1 _) (len_app (len1 _) (len_app (len1 _) (len1 _)))) (hs.holds 0 _ (by exact rfl))) (res_tmp (by kernel_rfl) (.nil))),bh2,hleh2,((none,0),(none,0),(none,0)),rfl,⟨⟨(RoS.nil _ _ _ _),(Nat.zero_le _)⟩,⟨(RoS.nil _ _ _ _),(Nat.zero_le _)⟩,⟨(Ro.nil _ _),(Nat.zero_le _)⟩⟩,hs.pick (ts:=[]) (cs:=[]) trivial (by decide)⟩)
   replace H := ite_f q75 H
   refine cs_know (c:=false) (dec_f q75) 57 (by kernel_rfl) ?_
   refine cs_false (by kernel_rfl) ?_
   refine cs_skip' ?_
   refine qn_meet (sput (sput (sput (sput (sput s0 0 (some (Ck.var 32 g1 (([Value.int .i64 (0:Int)]++([Value.slice none 0 0]++([Value.slice none 0 0]++[Value.slice none 0 0]))))))) 1 (some (Ck.var 32 g14 (([Value.int .i64 m1_2.1]++([Value.slice Am1_2_1 m1_2.2.1.length cm1_2_1]++([Value.slice Am1_2_2 m1_2.2.2.1.length cm1_2_2]++[Value.slice Am1_2_3 m1_2.2.2.2.length cm1_2_3]))))))) 2 (some (Ck.sl (Ec.sls 23 Int) Am1_2_1 cm1_2_1 Lm1_2_1))) 3 (some (Ck.sl (Ec.sls 23 Int) Am1_2_2 cm1_2_2 Lm1_2_2))) 4 (some (Ck.sl T44 Am1_2_3 cm1_2_3 m1_2.2.2.2))) ⟨_,fr_next (fr_next (fr_next (fr_next (fr_next (fr_next (fr_next (fr_next (fr_next (fr_next (rfl) (by kernel_rfl)) (by kernel_rfl)) (by kernel_rfl)) (by kernel_rfl)) (by kernel_rfl)) (by kernel_rfl)) (by kernel_rfl)) (by kernel_rfl)) (by kernel_rfl)) (by kernel_rfl),rfl,H⟩ (sub_put (by exact rfl) (sub_put (by exact rfl) (sub_put (by exact rfl) (sub_put (by exact rfl) (sub_put (by exact rfl) (sub_nil _))))))
  replace H := ite_f q74 H
  refine ls_know (c:=true) (congrArg Bool.not (Bool.eq_false_iff.mpr q74)) 52 (by kernel_rfl) ?_
  refine lofx 2 52 false true ?_
  refine lofx 2 52 false true ?_
  refine lofx 2 52 false true ?_
  refine lofx 2 52 false true ?_
  refine lv (.bool true) ?_
  refine ls_end ?_
  refine qn_then ?_
  refine cs_true (by kernel_rfl) ?_
  refine cs_seq ?_
  refine cs_region (l:=[_,_,_]) ?_
  refine lv (.agg ⟨([Value.int .i64 (0:Int)]++([Value.slice none 0 0]++([Value.slice none 0 0]++[Value.slice none 0 0])))⟩) ?_
  refine ls_storec (g:=g1) (off:=0) (v:=.agg ⟨([Value.int .i64 (0:Int)]++([Value.slice none 0 0]++([Value.slice none 0 0]++[Value.slice none 0 0])))⟩) (vs:=([Value.int .i64 (0:Int)]++([Value.slice none 0 0]++([Value.slice none 0 0]++[Value.slice none 0 0])))) (cs:=([Value.int .i64 (0:Int)]++([Value.slice none 0 0]++([Value.slice none 0 0]++[Value.slice none 0 0])))) (ty:=32) 0 rfl rfl rfl (by kernel_rfl) (by kernel_rfl) (by kernel_rfl) (by exact rfl) (by kernel_rfl) (len_app (len1 _) (len_app (len1 _) (len_app (len1 _) (len1 _)))) (one_app (one_cons rfl one_nil) (one_app (one_cons rfl one_nil) (one_app (one_cons rfl one_nil) (one_cons rfl one_nil)))) (hl_of (Sub4.all _) (len_eq (len_app (len1 _) (len_app (len1 _) (len_app (len1 _) (len1 _)))) (len_app (len1 _) (len_app (len1 _) (len_app (len1 _) (len1 _)))))) (cs' := ([Value.int .i64 (0:Int)]++([Value.slice none 0 0]++([Value.slice none 0 0]++[Value.slice none 0 0])))) (splc_all (len_eq (len_app (len1 _) (len_app (len1 _) (len_app (len1 _) (len1 _)))) (len_app (len1 _) (len_app (len1 _) (len_app (len1 _) (len1 _)))))) ?_
  refine lv (.bool false) ?_
  refine ls_end ?_
  refine qn_then ?_
  refine cs_ret' ?_
  refine qr_then ?_
  refine qr_block ?_
  refine qr_then ?_
  refine qr_then ?_
  refine qr_block ?_
  refine qr_then ?_
  obtain rfl := Option.some.inj H
  refine qr_res (rs:=[_,_]) rfl (fun w' hs=>⟨[.agg ⟨([Value.int .i64 (0:Int)]++([Value.slice none 0 0]++([Value.slice none 0 0]++[Value.slice none 0 0])))⟩,.bool false],(.cell (by kernel_rfl) (run_cellres (by kernel_rfl) (by kernel_rfl) (len_app (len1 _) (len_app (len1 _) (len_app (len1 _) (len1 _)))) (hs.holds 0 _ (by exact rfl))) (res_tmp (by kernel_rfl) (.nil))),bh2,hleh2,((none,0),(none,0),(none,0)),rfl,⟨⟨(RoS.nil _ _ _ _),(Nat.zero_le _)⟩,⟨(RoS.nil _ _ _ _),(Nat.zero_le _)⟩,⟨(Ro.nil _ _),(Nat.zero_le _)⟩⟩,hs.pick (ts:=[]) (cs:=[]) trivial (by decide)⟩)
 rintro f S ⟨fr6,rfl,rfl,H⟩
 replace H:((if 0≤x10_4 then (if x10_4≤(x8_2.size:Int) then (if (ByteArray.extract x8_2 0 ((x10_4).toNat)).size+x11_5.size≤9223372036854775807 then lt ((ByteArray.extract x8_2 0 ((x10_4).toNat))++x11_5) fun y18=>(if (m1_2.2.1.length+([(bl y18)]).length)*24≤140737488355328 then (if t2.1=(0:Int) then (shadowboxref16_text.f k2 l0_5).bind fun t35=>(if (m1_2.2.2.1.length+([(bl t35.1)]).length)*24≤140737488355328 then (shadowboxref16_parse.lo2 t2 t8 k2) t35.2.1 t35.2.2 y18 (IntKind.wrap .i64 (x9_2+(1:Int))) (m1_2.1,(m1_2.2.1++[(bl y18)]),(m1_2.2.2.1++[(bl t35.1)]),m1_2.2.2.2) else none) else (shadowboxref06_Read.f k2 l0_5).bind fun t55=>(if t55.2=(0:Int) then (if (52:Int)≤(l0_5.length:Int) then lt (l0_5.drop ((52:Int)).toNat) fun xl65=>(if (m1_2.2.2.2.length+([t55.1]).length)*64≤140737488355328 then (shadowboxref16_parse.lo2 t2 t8 k2) xl65 x5_5 y18 (IntKind.wrap .i64 (x9_2+(1:Int))) (m1_2.1,(m1_2.2.1++[(bl y18)]),m1_2.2.2.1,(m1_2.2.2.2++[t55.1])) else none) else none) else some (((0:Int),([]:List (List Int)),([]:List (List Int)),([]:List PT)),false))) else none) else none) else none) else none))=some r := H
 refine cs_seq ?_
 refine cs_region (l:=[_,_,_,_,_,_]) ?_
 refine lv (.string x8_2) ?_
 refine lv (.int .i64 x10_4) ?_
 obtain ⟨q15,H⟩ := ite_need H
 obtain ⟨q16,H⟩ := ite_need H
 refine ls_scut (s:=x8_2) (a:=0) (b:=(x10_4).toNat) rfl rfl (by kernel_rfl) rfl (by kernel_rfl) (by kernel_rfl) (.inl ⟨rfl,rfl⟩) (.inr ⟨.i64,by rw [Int.toNat_of_nonneg (by first | assumption | omega)]; kernel_rfl⟩) (by omega) (by omega) ?_
 refine lv (.string x11_5) ?_
 obtain ⟨q17,H⟩ := ite_need H
 obtain ⟨y18,hy19,H⟩ := lt_some H
 refine ls_sadd (x:=(ByteArray.extract x8_2 0 ((x10_4).toNat))) (y:=x11_5) rfl rfl (by kernel_rfl) (fun w=>by kernel_rfl) q17 ?_
 refine ls_ren 63 (v:=.string ((ByteArray.extract x8_2 0 ((x10_4).toNat))++x11_5)) (v' := .string y18) (by kernel_rfl) (by rw [hy19]) ?_
 refine lv (.string y18) ?_
 refine ls_end ?_
 refine qn_then ?_
 refine cs_seq ?_
 refine cs_region (l:=[_,_,_,_,_,_,_,_]) ?_
 refine lv (.pointer (some ⟨g14,(0+1),none⟩)) ?_
 refine ls_load (a0:=⟨g14,(0+1),none⟩) (v:=.slice Am1_2_1 m1_2.2.1.length cm1_2_1) (de:=(TypeDesc.slice 23)) rfl rfl (by kernel_rfl) rfl (by kernel_rfl) (by kernel_rfl) (by kernel_rfl) (fun w hs=>(hs.var (k:=1) (by exact rfl) (Sub4.trans (Sub4.all _) (Sub4.skip (n:=1) (len1 _) (Sub4.head _ _))))) ?_
 refine lv (.string y18) ?_
 refine ls_bytes (u:=.string) (e:=5) (s:=y18) 5 rfl rfl (by kernel_rfl) rfl (by kernel_rfl) (by kernel_rfl) (by kernel_rfl) (by kernel_rfl) ?_
 intro g20 xc21 xC22
 refine ls_freezers 5 (by exact rfl) ?_
 intro bs23 hle24 hok25 fR26
 refine ls_lit (Ec.sls 23 Int) 6 rfl rfl (by kernel_rfl) [((((some ⟨g20,0,none⟩):Option Addr),xc21),(bl y18))] (by exact of_decide_eq_true (by kernel_rfl)) (fun w=>by kernel_rfl) ?_
 intro g28
 obtain ⟨q29,H⟩ := ite_need H
 refine ls_appS 23 (A:=Am1_2_1) (c:=cm1_2_1) (B:=(some ⟨g28,0,none⟩)) (cb:=[(bl y18)].length) (z:=(Value.slice none 0 0)) (l:=m1_2.2.1) (m:=[(bl y18)]) (L:=Lm1_2_1) (M:=[((((some ⟨g20,0,none⟩):Option Addr),xc21),(bl y18))]) (bytes:=24) 2 Em1_2_1 rfl rfl rfl (by kernel_rfl) rfl (by kernel_rfl) (by exact rfl) (by kernel_rfl) (fun w hs=>hs.rd (k:=6) (by exact rfl)) (by kernel_rfl) (by kernel_rfl) rfl (by decide) q29 ?_
 intro xA30 xc31
 have xI32:InsC (Ec.int 5 .u8) bs23 (Lm1_2_1++[((((some ⟨g20,0,none⟩):Option Addr),xc21),(bl y18))]) := InsC.app (InsC.mono hok25 hle24 Im1_2_1) (InsC.one fR26 xC22)
 have xE33:(Lm1_2_1++[((((some ⟨g20,0,none⟩):Option Addr),xc21),(bl y18))]).map (·.2)=(m1_2.2.1++[(bl y18)]) := mapE Em1_2_1 rfl
 refine lv (.pointer (some ⟨g14,(0+1),none⟩)) ?_
 refine ls_storec (g:=g14) (off:=(0+1)) (v:=.slice xA30 (m1_2.2.1++[(bl y18)]).length xc31) (vs:=[Value.slice xA30 (m1_2.2.1++[(bl y18)]).length xc31]) (cs:=([Value.int .i64 m1_2.1]++([Value.slice Am1_2_1 m1_2.2.1.length cm1_2_1]++([Value.slice Am1_2_2 m1_2.2.2.1.length cm1_2_2]++[Value.slice Am1_2_3 m1_2.2.2.2.length cm1_2_3])))) (ty:=32) 1 rfl rfl rfl (by kernel_rfl) (by kernel_rfl) (by kernel_rfl) (by exact rfl) (by kernel_rfl) (len1 _) (one_cons rfl one_nil) (hl_of (Sub4.trans (Sub4.all _) (Sub4.skip (n:=1) (len1 _) (Sub4.head _ _))) (len_eq (len1 _) (len1 _))) (cs' := ([Value.int .i64 m1_2.1]++([Value.slice xA30 (m1_2.2.1++[(bl y18)]).length xc31]++([Value.slice Am1_2_2 m1_2.2.2.1.length cm1_2_2]++[Value.slice Am1_2_3 m1_2.2.2.2.length cm1_2_3])))) (splc_in (Sub4.all _) (splc_skip (n:=1) (len1 _) (splc_head (len_eq (len1 _) (len1 _)))) (splc_all (len_eq (len_app (len1 _) (len_app (len1 _) (len_app (len1 _) (len1 _)))) (len_app (len1 _) (len_app (len1 _) (len_app (len1 _) (len1 _)))))) (hl_of (Sub4.skip (n:=1) (len1 _) (Sub4.head _ _)) (len_eq (len1 _) (len1 _)))) ?_
 refine ls_end ?_
 refine qn_then ?_
 refine cs_seq ?_
 refine cs_region (l:=[_,_]) ?_
 refine lv (.int .i64 t2.1) ?_
 refine lv (.bool (decide (t2.1=(0:Int)))) ?_
 refine ls_end ?_
 refine qn_then ?_
 by_cases q34:t2.1=(0:Int)
 ·replace H := ite_t q34 H
  refine cs_know (c:=true) (dec_t q34) 72 (by kernel_rfl) ?_
  refine cs_true (by kernel_rfl) ?_
  refine cs_seq ?_
  refine cs_region (l:=[_,_,_,_,_,_,_,_,_]) ?_
  refine lv (.slice A0_5 l0_5.length c0_5) ?_
  obtain ⟨t35,hc36,H⟩ := bind_some H
  refine ls_callg (fid:=65) (vals:=#[.slice A0_5 l0_5.length c0_5]) (X:=(Option Addr × Nat)) (fun x=>.tuple #[.string t35.1,.slice x.1 t35.2.1.length x.2,.bool t35.2.2]) (fun x=>stl []) (fun x B=>(Ro B x.1 (em (Ec.int 5 .u8) t35.2.1)∧t35.2.1.length≤x.2)) [] [] 7 rfl rfl (by kernel_rfl) (fun w=>by kernel_rfl) trivial (by decide) (fun x b b' h hf=>⟨h _ _ hf.1,hf.2⟩) (fun w hs hb=>shadowboxref16_text.calls k2 A0_5 c0_5 l0_5 t35 (lent bs23 w [] []) hb (hs.ro (Ro.mono hok25 hle24 R0_5) _ _) C0_5 hc36) ?_
  intro x37 hf40
  obtain ⟨fR38,fC39⟩ := hf40
  refine lv (.tuple #[.string t35.1,.slice x37.1 t35.2.1.length x37.2,.bool t35.2.2]) ?_
  refine lv (.string t35.1) ?_
  refine lv (.slice x37.1 t35.2.1.length x37.2) ?_
  refine lv (.bool t35.2.2) ?_
  refine lv (.string t35.1) ?_
  refine lv (.slice x37.1 t35.2.1.length x37.2) ?_
  refine lv (.bool t35.2.2) ?_
  refine ls_end ?_
  refine qn_then ?_
  refine cs_region (l:=[_,_,_,_,_,_,_,_]) ?_
  refine lv (.pointer (some ⟨g14,(0+2),none⟩)) ?_
  refine ls_load (a0:=⟨g14,(0+2),none⟩) (v:=.slice Am1_2_2 m1_2.2.2.1.length cm1_2_2) (de:=(TypeDesc.slice 23)) rfl rfl (by kernel_rfl) rfl (by kernel_rfl) (by kernel_rfl) (by kernel_rfl) (fun w hs=>(hs.var (k:=1) (by exact rfl) (Sub4.trans (Sub4.all _) (Sub4.skip (n:=1) (len1 _) (Sub4.skip (n:=1) (len1 _) (Sub4.head _ _)))))) ?_
  refine lv (.string t35.1) ?_
  refine ls_bytes (u:=.string) (e:=5) (s:=t35.1) 7 rfl rfl (by kernel_rfl) rfl (by kernel_rfl) (by kernel_rfl) (by kernel_rfl) (by kernel_rfl) ?_
  intro g41 xc42 xC43
  refine ls_freezers 7 (by exact rfl) ?_
  intro bs44 hle45 hok46 fR47
  refine ls_lit (Ec.sls 23 Int) 8 rfl rfl (by kernel_rfl) [((((some ⟨g41,0,none⟩):Option Addr),xc42),(bl t35.1))] (by exact of_decide_eq_true (by kernel_rfl)) (fun w=>by kernel_rfl) ?_
  intro g49
  obtain ⟨q50,H⟩ := ite_need H
  refine ls_appS 23 (A:=Am1_2_2) (c:=cm1_2_2) (B:=(some ⟨g49,0,none⟩)) (cb:=[(bl t35.1)].length) (z:=(Value.slice none 0 0)) (l:=m1_2.2.2.1) (m:=[(bl t35.1)]) (L:=Lm1_2_2) (M:=[((((some ⟨g41,0,none⟩):Option Addr),xc42),(bl t35.1))]) (bytes:=24) 3 Em1_2_2 rfl rfl rfl (by kernel_rfl) rfl (by kernel_rfl) (by exact rfl) (by kernel_rfl) (fun w hs=>hs.rd (k:=8) (by exact rfl)) (by kernel_rfl) (by kernel_rfl) rfl (by decide) q50 ?_
  intro xA51 xc52
  have xI53:InsC (Ec.int 5 .u8) bs44 (Lm1_2_2++[((((some ⟨g41,0,none⟩):Option Addr),xc42),(bl t35.1))]) := InsC.app (InsC.mono hok46 hle45 (InsC.mono hok25 hle24 Im1_2_2)) (InsC.one fR47 xC43)
  have xE54:(Lm1_2_2++[((((some ⟨g41,0,none⟩):Option Addr),xc42),(bl t35.1))]).map (·.2)=(m1_2.2.2.1++[(bl t35.1)]) := mapE Em1_2_2 rfl
  refine lv (.pointer (some ⟨g14,(0+2),none⟩)) ?_
  refine ls_storec (g:=g14) (off:=(0+2)) (v:=.slice xA51 (m1_2.2.2.1++[(bl t35.1)]).length xc52) (vs:=[Value.slice xA51 (m1_2.2.2.1++[(bl t35.1)]).length xc52]) (cs:=([Value.int .i64 m1_2.1]++([Value.slice xA30 (m1_2.2.1++[(bl y18)]).length xc31]++([Value.slice Am1_2_2 m1_2.2.2.1.length cm1_2_2]++[Value.slice Am1_2_3 m1_2.2.2.2.length cm1_2_3])))) (ty:=32) 1 rfl rfl rfl (by kernel_rfl) (by kernel_rfl) (by kernel_rfl) (by exact rfl) (by kernel_rfl) (len1 _) (one_cons rfl one_nil) (hl_of (Sub4.trans (Sub4.all _) (Sub4.skip (n:=1) (len1 _) (Sub4.skip (n:=1) (len1 _) (Sub4.head _ _)))) (len_eq (len1 _) (len1 _))) (cs' := ([Value.int .i64 m1_2.1]++([Value.slice xA30 (m1_2.2.1++[(bl y18)]).length xc31]++([Value.slice xA51 (m1_2.2.2.1++[(bl t35.1)]).length xc52]++[Value.slice Am1_2_3 m1_2.2.2.2.length cm1_2_3])))) (splc_in (Sub4.all _) (splc_skip (n:=1) (len1 _) (splc_skip (n:=1) (len1 _) (splc_head (len_eq (len1 _) (len1 _))))) (splc_all (len_eq (len_app (len1 _) (len_app (len1 _) (len_app (len1 _) (len1 _)))) (len_app (len1 _) (len_app (len1 _) (len_app (len1 _) (len1 _)))))) (hl_of (Sub4.skip (n:=1) (len1 _) (Sub4.skip (n:=1) (len1 _) (Sub4.head _ _))) (len_eq (len1 _) (len1 _)))) ?_
  refine ls_end ?_
  refine qn_block ?_
  refine qn_then ?_
  refine cs_region (l:=[_,_,_]) ?_
  refine lv (.int .i64 x9_2) ?_
  refine lv (.int .i64 (IntKind.wrap .i64 (x9_2+(1:Int)))) ?_
  refine lv (.int .i64 (IntKind.wrap .i64 (x9_2+(1:Int)))) ?_
  refine ls_end ?_
  refine qn_againb k2 (sput (sput (sput (sput (sput s0 0 (some (Ck.var 32 g1 (([Value.int .i64 (0:Int)]++([Value.slice none 0 0]++([Value.slice none 0 0]++[Value.slice none 0 0]))))))) 1 (some (Ck.var 32 g14 (([Value.int .i64 m1_2.1]++([Value.slice xA30 (m1_2.2.1++[(bl y18)]).length xc31]++([Value.slice xA51 (m1_2.2.2.1++[(bl t35.1)]).length xc52]++[Value.slice Am1_2_3 m1_2.2.2.2.length cm1_2_3]))))))) 2 (some (Ck.sl (Ec.sls 23 Int) xA30 xc31 (Lm1_2_1++[((((some ⟨g20,0,none⟩):Option Addr),xc21),(bl y18))])))) 3 (some (Ck.sl (Ec.sls 23 Int) xA51 xc52 (Lm1_2_2++[((((some ⟨g41,0,none⟩):Option Addr),xc42),(bl t35.1))])))) 4 (some (Ck.sl T44 Am1_2_3 cm1_2_3 m1_2.2.2.2))) (Nat.le_refl _) ⟨_,x37.1,x37.2,t35.2.1,t35.2.2,y18,(IntKind.wrap .i64 (x9_2+(1:Int))),xA30,xc31,(Lm1_2_1++[((((some ⟨g20,0,none⟩):Option Addr),xc21),(bl y18))]),xA51,xc52,(Lm1_2_2++[((((some ⟨g41,0,none⟩):Option Addr),xc42),(bl t35.1))]),Am1_2_3,cm1_2_3,(m1_2.1,(m1_2.2.1++[(bl y18)]),(m1_2.2.2.1++[(bl t35.1)]),m1_2.2.2.2),fr_next (fr_next (fr_next (fr_next (fr_next (fr_next (fr_next (fr_next (rfl) (by kernel_rfl)) (by kernel_rfl)) (by kernel_rfl)) (by kernel_rfl)) (by kernel_rfl)) (by kernel_rfl)) (by kernel_rfl)) (by kernel_rfl),rfl,(Ro.mono hok46 hle45 fR38),fC39,(InsC.mono hok46 hle45 xI32),xE33,xI53,xE54,((hleh2.trans hle24).trans hle45),H⟩ (sub_put (by exact rfl) (sub_put (by exact rfl) (sub_put (by exact rfl) (sub_put (by exact rfl) (sub_put (by exact rfl) (sub_nil _))))))
 replace H := ite_f q34 H
 refine cs_know (c:=false) (dec_f q34) 72 (by kernel_rfl) ?_
 refine cs_false (by kernel_rfl) ?_
 refine cs_seq ?_
 refine cs_region (l:=[_,_,_,_,_,_,_,_]) ?_
 refine lv (.slice A0_5 l0_5.length c0_5) ?_
 obtain ⟨t55,hc56,H⟩ := bind_some H
 refine ls_callb (fid:=66) (vals:=#[.slice A0_5 l0_5.length c0_5]) (X:=Unit) (fun x=>.tuple #[.agg ⟨([Value.int .i64 t55.1.1]++([Value.int .i64 t55.1.2.1]++([Value.int .i64 t55.1.2.2.1]++([Value.int .u32 t55.1.2.2.2.1]++en (Value.int .u8) t55.1.2.2.2.2.1))))⟩,.int .i64 t55.2]) (fun x=>stl []) [] [] [] [] 7 rfl rfl (by kernel_rfl) (fun w=>by kernel_rfl) trivial trivial (by decide) (fun w hs hb=>shadowboxref06_Read.calls k2 A0_5 c0_5 l0_5 t55 (lent bs23 w [] []) hb (hs.ro (Ro.mono hok25 hle24 R0_5) _ _) C0_5 hc56) ?_
 intro x57
 refine lv (.tuple #[.agg ⟨([Value.int .i64 t55.1.1]++([Value.int .i64 t55.1.2.1]++([Value.int .i64 t55.1.2.2.1]++([Value.int .u32 t55.1.2.2.2.1]++en (Value.int .u8) t55.1.2.2.2.2.1))))⟩,.int .i64 t55.2]) ?_
 refine lv (.agg ⟨([Value.int .i64 t55.1.1]++([Value.int .i64 t55.1.2.1]++([Value.int .i64 t55.1.2.2.1]++([Value.int .u32 t55.1.2.2.2.1]++en (Value.int .u8) t55.1.2.2.2.2.1))))⟩) ?_
 refine lv (.int .i64 t55.2) ?_
 refine ls_new rfl rfl (by kernel_rfl) 7 (fun g=>.pointer (some ⟨g,0,none⟩)) (.cells ⟨([Value.int .i64 (0:Int)]++([Value.int .i64 (0:Int)]++([Value.int .i64 (0:Int)]++([Value.int .u32 (0:Int)]++en (Value.int .u8) (vrep 32 (0:Int)).1))))⟩ 44) (fun w=>by kernel_rfl) ?_
 intro g58
 refine ls_storec (g:=g58) (off:=0) (v:=.agg ⟨([Value.int .i64 t55.1.1]++([Value.int .i64 t55.1.2.1]++([Value.int .i64 t55.1.2.2.1]++([Value.int .u32 t55.1.2.2.2.1]++en (Value.int .u8) t55.1.2.2.2.2.1))))⟩) (vs:=([Value.int .i64 t55.1.1]++([Value.int .i64 t55.1.2.1]++([Value.int .i64 t55.1.2.2.1]++([Value.int .u32 t55.1.2.2.2.1]++en (Value.int .u8) t55.1.2.2.2.2.1))))) (cs:=([Value.int .i64 (0:Int)]++([Value.int .i64 (0:Int)]++([Value.int .i64 (0:Int)]++([Value.int .u32 (0:Int)]++en (Value.int .u8) (vrep 32 (0:Int)).1))))) (ty:=44) 7 rfl rfl rfl (by kernel_rfl) (by kernel_rfl) (by kernel_rfl) (by exact rfl) (by kernel_rfl) (len_app (len1 _) (len_app (len1 _) (len_app (len1 _) (len_app (len1 _) (len_en _ t55.1.2.2.2.2))))) (one_app (one_cons rfl one_nil) (one_app (one_cons rfl one_nil) (one_app (one_cons rfl one_nil) (one_app (one_cons rfl one_nil) (one_en (fun _=>rfl) _))))) (hl_of (Sub4.all _) (len_eq (len_app (len1 _) (len_app (len1 _) (len_app (len1 _) (len_app (len1 _) (len_en _ t55.1.2.2.2.2))))) (len_app (len1 _) (len_app (len1 _) (len_app (len1 _) (len_app (len1 _) (len_en _ (vrep 32 (0:Int))))))))) (cs' := ([Value.int .i64 t55.1.1]++([Value.int .i64 t55.1.2.1]++([Value.int .i64 t55.1.2.2.1]++([Value.int .u32 t55.1.2.2.2.1]++en (Value.int .u8) t55.1.2.2.2.2.1))))) (splc_all (len_eq (len_app (len1 _) (len_app (len1 _) (len_app (len1 _) (len_app (len1 _) (len_en _ t55.1.2.2.2.2))))) (len_app (len1 _) (len_app (len1 _) (len_app (len1 _) (len_app (len1 _) (len_en _ (vrep 32 (0:Int))))))))) ?_
 refine lv (.int .i64 t55.2) ?_
 refine ls_end ?_
 refine qn_then ?_
 refine cs_seq ?_
 refine cs_seq ?_
 refine cs_region (l:=[_,_]) ?_
 refine lv (.int .i64 t55.2) ?_
 refine lv (.bool (!decide (t55.2=(0:Int)))) ?_
 refine ls_end ?_
 refine qn_then ?_
 by_cases q59:t55.2=(0:Int)
 ·replace H := ite_t q59 H
  refine cs_know (c:=false) (congrArg Bool.not (dec_t q59)) 92 (by kernel_rfl) ?_
  refine cs_false (by kernel_rfl) ?_
  refine cs_skip' ?_
  refine qn_then ?_
  refine cs_seq ?_
  refine cs_region (l:=[_,_,_]) ?_
  refine lv (.slice A0_5 l0_5.length c0_5) ?_
  obtain ⟨q60,H⟩ := ite_need H
  obtain ⟨xl65,hy66,H⟩ := lt_some H
  have hz68:((52:Int)).toNat≤l0_5.length := by omega
  have hz69:l0_5.length≤l0_5.length := by omega
  obtain ⟨xA61,xc62,he67,xC64,xR63⟩ := cut_at (A:=A0_5) (c:=c0_5) (l:=l0_5) (Ec.int 5 .u8) (((52:Int)).toNat) l0_5.length hz68 hz69 C0_5 (Ro.mono hok25 hle24 R0_5) (m:=xl65) (by rw [← hy66] <;> simp) (z:=1) rfl
  refine ls_cutv (A:=A0_5) (c:=c0_5) (m:=l0_5.length) (z:=1) (e:=5) (a:=((52:Int)).toNat) (b:=l0_5.length) rfl rfl (by kernel_rfl) rfl (by kernel_rfl) (by kernel_rfl) (by kernel_rfl) (.inr ⟨.i64,by rw [Int.toNat_of_nonneg (by first | assumption | omega)]; kernel_rfl⟩) (.inl ⟨rfl,rfl⟩) hz68 hz69 C0_5 he67 ?_
  refine lv (.slice xA61 xl65.length xc62) ?_
  refine ls_end ?_
  refine qn_then ?_
  refine cs_region (l:=[_,_,_,_,_,_,_]) ?_
  refine lv (.pointer (some ⟨g14,(0+3),none⟩)) ?_
  refine ls_load (a0:=⟨g14,(0+3),none⟩) (v:=.slice Am1_2_3 m1_2.2.2.2.length cm1_2_3) (de:=(TypeDesc.slice 44)) rfl rfl (by kernel_rfl) rfl (by kernel_rfl) (by kernel_rfl) (by kernel_rfl) (fun w hs=>(hs.var (k:=1) (by exact rfl) (Sub4.trans (Sub4.all _) (Sub4.skip (n:=1) (len1 _) (Sub4.skip (n:=1) (len1 _) (Sub4.skip (n:=1) (len1 _) (Sub4.all _))))))) ?_
  refine ls_loadagg (a:=⟨g58,0,none⟩) (sub:=([Value.int .i64 t55.1.1]++([Value.int .i64 t55.1.2.1]++([Value.int .i64 t55.1.2.2.1]++([Value.int .u32 t55.1.2.2.2.1]++en (Value.int .u8) t55.1.2.2.2.2.1))))) rfl rfl (by kernel_rfl) rfl (by kernel_rfl) (by kernel_rfl) (by kernel_rfl) (len_app (len1 _) (len_app (len1 _) (len_app (len1 _) (len_app (len1 _) (len_en _ t55.1.2.2.2.2))))) (fun w hs=>(hs.vars (k:=7) (by exact rfl) (Sub4.all _))) ?_
  refine ls_lit1 (T:=T44) 8 t55.1 rfl rfl (by kernel_rfl) rfl rfl (by kernel_rfl) (by kernel_rfl) (by kernel_rfl) ?_
  intro g70
  obtain ⟨q71,H⟩ := ite_need H
  refine ls_app T44 (A:=Am1_2_3) (c:=cm1_2_3) (B:=(some ⟨g70,0,none⟩)) (cb:=[t55.1].length) (z:=(.agg ⟨([Value.int .i64 (0:Int)]++([Value.int .i64 (0:Int)]++([Value.int .i64 (0:Int)]++([Value.int .u32 (0:Int)]++en (Value.int .u8) (vrep 32 (0:Int)).1))))⟩)) (l:=m1_2.2.2.2) (m:=[t55.1]) (bytes:=64) 4 rfl rfl (by kernel_rfl) rfl (by kernel_rfl) (by exact rfl) (by kernel_rfl) (fun w hs=>(hs.rd (k:=8) (by exact rfl))) (by kernel_rfl) (by kernel_rfl) rfl (by decide) q71 ?_
  intro xA72 xc73
  refine lv (.pointer (some ⟨g14,(0+3),none⟩)) ?_
  refine ls_storec (g:=g14) (off:=(0+3)) (v:=.slice xA72 (m1_2.2.2.2++[t55.1]).length xc73) (vs:=[Value.slice xA72 (m1_2.2.2.2++[t55.1]).length xc73]) (cs:=([Value.int .i64 m1_2.1]++([Value.slice xA30 (m1_2.2.1++[(bl y18)]).length xc31]++([Value.slice Am1_2_2 m1_2.2.2.1.length cm1_2_2]++[Value.slice Am1_2_3 m1_2.2.2.2.length cm1_2_3])))) (ty:=32) 1 rfl rfl rfl (by kernel_rfl) (by kernel_rfl) (by kernel_rfl) (by exact rfl) (by kernel_rfl) (len1 _) (one_cons rfl one_nil) (hl_of (Sub4.trans (Sub4.all _) (Sub4.skip (n:=1) (len1 _) (Sub4.skip (n:=1) (len1 _) (Sub4.skip (n:=1) (len1 _) (Sub4.all _))))) (len_eq (len1 _) (len1 _))) (cs' := ([Value.int .i64 m1_2.1]++([Value.slice xA30 (m1_2.2.1++[(bl y18)]).length xc31]++([Value.slice Am1_2_2 m1_2.2.2.1.length cm1_2_2]++[Value.slice xA72 (m1_2.2.2.2++[t55.1]).length xc73])))) (splc_in (Sub4.all _) (splc_skip (n:=1) (len1 _) (splc_skip (n:=1) (len1 _) (splc_skip (n:=1) (len1 _) (splc_all (len_eq (len1 _) (len1 _)))))) (splc_all (len_eq (len_app (len1 _) (len_app (len1 _) (len_app (len1 _) (len1 _)))) (len_app (len1 _) (len_app (len1 _) (len_app (len1 _) (len1 _)))))) (hl_of (Sub4.skip (n:=1) (len1 _) (Sub4.skip (n:=1) (len1 _) (Sub4.skip (n:=1) (len1 _) (Sub4.all _)))) (len_eq (len1 _) (len1 _)))) ?_
  refine ls_end ?_
  refine qn_block ?_
  refine qn_then ?_
  refine cs_region (l:=[_,_,_]) ?_
  refine lv (.int .i64 x9_2) ?_
  refine lv (.int .i64 (IntKind.wrap .i64 (x9_2+(1:Int)))) ?_
  refine lv (.int .i64 (IntKind.wrap .i64 (x9_2+(1:Int)))) ?_
  refine ls_end ?_
  refine qn_againb k2 (sput (sput (sput (sput (sput s0 0 (some (Ck.var 32 g1 (([Value.int .i64 (0:Int)]++([Value.slice none 0 0]++([Value.slice none 0 0]++[Value.slice none 0 0]))))))) 1 (some (Ck.var 32 g14 (([Value.int .i64 m1_2.1]++([Value.slice xA30 (m1_2.2.1++[(bl y18)]).length xc31]++([Value.slice Am1_2_2 m1_2.2.2.1.length cm1_2_2]++[Value.slice xA72 (m1_2.2.2.2++[t55.1]).length xc73]))))))) 2 (some (Ck.sl (Ec.sls 23 Int) xA30 xc31 (Lm1_2_1++[((((some ⟨g20,0,none⟩):Option Addr),xc21),(bl y18))])))) 3 (some (Ck.sl (Ec.sls 23 Int) Am1_2_2 cm1_2_2 Lm1_2_2))) 4 (some (Ck.sl T44 xA72 xc73 (m1_2.2.2.2++[t55.1])))) (Nat.le_refl _) ⟨_,xA61,xc62,xl65,x5_5,y18,(IntKind.wrap .i64 (x9_2+(1:Int))),xA30,xc31,(Lm1_2_1++[((((some ⟨g20,0,none⟩):Option Addr),xc21),(bl y18))]),Am1_2_2,cm1_2_2,Lm1_2_2,xA72,xc73,(m1_2.1,(m1_2.2.1++[(bl y18)]),m1_2.2.2.1,(m1_2.2.2.2++[t55.1])),fr_next (fr_next (fr_next (fr_next (fr_next (fr_next (fr_next (fr_next (rfl) (by kernel_rfl)) (by kernel_rfl)) (by kernel_rfl)) (by kernel_rfl)) (by kernel_rfl)) (by kernel_rfl)) (by kernel_rfl)) (by kernel_rfl),rfl,xR63,xC64,xI32,xE33,(InsC.mono hok25 hle24 Im1_2_2),Em1_2_2,(hleh2.trans hle24),H⟩ (sub_put (by exact rfl) (sub_put (by exact rfl) (sub_put (by exact rfl) (sub_put (by exact rfl) (sub_put (by exact rfl) (sub_nil _))))))
 replace H := ite_f q59 H
 refine cs_know (c:=true) (congrArg Bool.not (dec_f q59)) 92 (by kernel_rfl) ?_
 refine cs_true (by kernel_rfl) ?_
 refine cs_seq ?_
 refine cs_region (l:=[_,_,_]) ?_
 refine lv (.agg ⟨([Value.int .i64 (0:Int)]++([Value.slice none 0 0]++([Value.slice none 0 0]++[Value.slice none 0 0])))⟩) ?_
 refine ls_storec (g:=g1) (off:=0) (v:=.agg ⟨([Value.int .i64 (0:Int)]++([Value.slice none 0 0]++([Value.slice none 0 0]++[Value.slice none 0 0])))⟩) (vs:=([Value.int .i64 (0:Int)]++([Value.slice none 0 0]++([Value.slice none 0 0]++[Value.slice none 0 0])))) (cs:=([Value.int .i64 (0:Int)]++([Value.slice none 0 0]++([Value.slice none 0 0]++[Value.slice none 0 0])))) (ty:=32) 0 rfl rfl rfl (by kernel_rfl) (by kernel_rfl) (by kernel_rfl) (by exact rfl) (by kernel_rfl) (len_app (len1 _) (len_app (len1 _) (len_app (len1 _) (len1 _)))) (one_app (one_cons rfl one_nil) (one_app (one_cons rfl one_nil) (one_app (one_cons rfl one_nil) (one_cons rfl one_nil)))) (hl_of (Sub4.all _) (len_eq (len_app (len1 _) (len_app (len1 _) (len_app (len1 _) (len1 _)))) (len_app (len1 _) (len_app (len1 _) (len_app (len1 _) (len1 _)))))) (cs' := ([Value.int .i64 (0:Int)]++([Value.slice none 0 0]++([Value.slice none 0 0]++[Value.slice none 0 0])))) (splc_all (len_eq (len_app (len1 _) (len_app (len1 _) (len_app (len1 _) (len1 _)))) (len_app (len1 _) (len_app (len1 _) (len_app (len1 _) (len1 _)))))) ?_
 refine lv (.bool false) ?_
 refine ls_end ?_
 refine qn_then ?_
 refine cs_ret' ?_
 refine qr_then ?_
 refine qr_block ?_
 refine qr_then ?_
 refine qr_then ?_
 refine qr_block ?_
 refine qr_then ?_
 obtain rfl := Option.some.inj H
 refine qr_res (rs:=[_,_]) rfl (fun w' hs=>⟨[.agg ⟨([Value.int .i64 (0:Int)]++([Value.slice none 0 0]++([Value.slice none 0 0]++[Value.slice none 0 0])))⟩,.bool false],(.cell (by kernel_rfl) (run_cellres (by kernel_rfl) (by kernel_rfl) (len_app (len1 _) (len_app (len1 _) (len_app (len1 _) (len1 _)))) (hs.holds 0 _ (by exact rfl))) (res_tmp (by kernel_rfl) (.nil))),bs23,(hleh2.trans hle24),((none,0),(none,0),(none,0)),rfl,⟨⟨(RoS.nil _ _ _ _),(Nat.zero_le _)⟩,⟨(RoS.nil _ _ _ _),(Nat.zero_le _)⟩,⟨(Ro.nil _ _),(Nat.zero_le _)⟩⟩,hs.pick (ts:=[]) (cs:=[]) trivial (by decide)⟩)
end Go.Proofs.Ythhhkphbhlafbaa.G
