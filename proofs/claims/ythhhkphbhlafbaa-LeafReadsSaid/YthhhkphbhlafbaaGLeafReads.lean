/- Printed by a program of this session (sz.py): plain functions, and walks that show that the code comes to them; no condition. -/
import Derived.Test.YthhhkphbhlafbaaProg
import Derived.Test.YthhhkphbhlafbaaTy
import Derived.Test.YthhhkphbhlafbaaG0
import Derived.Test.YthhhkphbhlafbaaG1
import Derived.Test.YthhhkphbhlafbaaG2
import Derived.Test.YthhhkphbhlafbaaG3
import Derived.Test.YthhhkphbhlafbaaG4
set_option linter.unusedVariables false
set_option linter.unusedSimpArgs false
namespace Go.Proofs.Ythhhkphbhlafbaa.G
open Go Go.RowKit Go.Proofs.Ythhhkphbhlafbaa.Sx
set_option maxRecDepth 100000
set_option maxHeartbeats 4000000
def shadowboxlaw16_LeafReads.jo1 (k:Nat) (l0_1:List Int):Option (Bool) := (leaf_Read.f k l0_1).bind fun t1=>(shadowboxref16_Read.f k l0_1).bind fun t15=>(leaf_Read.f k ([(0:Int),(1:Int),(0:Int),(1:Int),(97:Int),(1:Int),(49:Int)])).bind fun t35=>(if t1.2=t15.2 then (shadowboxref16_Same.f k (t1.1.1,t1.1.2.1,t1.1.2.2.1,t1.1.2.2.2) (t15.1.1,t15.1.2.1,t15.1.2.2.1,t15.1.2.2.2)).bind fun t50=>(if t50=true then (if t35.2=(0:Int) then some (decide ((t35.1.2.1.length:Int)=(1:Int))) else some false) else some false) else some false)
def shadowboxlaw16_LeafReads.f (k:Nat) (l0:List Int):Option (Bool) :=
  (if (l0.length:Int) > (5000:Int) then (if (5000:Int)≤(l0.length:Int) then lt (l0.take ((5000:Int)).toNat) fun xl61=>(shadowboxlaw16_LeafReads.jo1 k) xl61 else none) else (shadowboxlaw16_LeafReads.jo1 k) l0)
theorem shadowboxlaw16_LeafReads.calls (k:Nat) (A0:Option Addr) (c0:Nat) (l0:List Int) (r:Bool) (b:Bs) (hs0:St b (stl []) b.w) (R0:Ro b A0 (em (Ec.int 5 .u8) l0)) (C0:l0.length≤c0) (H:shadowboxlaw16_LeafReads.f k l0=some r) :
    Calls Try.prog 4 #[.slice A0 l0.length c0] b.w fun e w'=>∃ x:Unit,e=.returned (.bool r)∧St b (stl []) w' := by
 unfold shadowboxlaw16_LeafReads.f at H
 refine enterb (n:=48) Try.func4 rfl (by kernel_rfl) (by kernel_rfl) hs0 ?_
 refine cs_sub (s0) (sub_nil _) ?_
 refine cs_seq ?_
 refine cs_region (l:=[_]) ?_
 refine lv (.bool false) ?_
 refine ls_end ?_
 refine qn_then ?_
 refine cs_cut (fun f S=>∃ (fR:Fr) (A0_1:Option Addr) (c0_1:Nat) (l0_1:List Int),f=upd fR 0 (.slice A0_1 l0_1.length c0_1)∧S=s0∧Ro b A0_1 (em (Ec.int 5 .u8) l0_1)∧l0_1.length≤c0_1∧shadowboxlaw16_LeafReads.jo1 k l0_1=some r) ?_ ?_
 ·skip
  refine cs_seq ?_
  refine cs_region (l:=[_,_,_]) ?_
  refine lv (.slice A0 l0.length c0) ?_
  refine lv (.int .i64 (l0.length:Int)) ?_
  refine lv (.bool (decide ((l0.length:Int) > (5000:Int)))) ?_
  refine ls_end ?_
  refine qn_then ?_
  by_cases q55:(l0.length:Int) > (5000:Int)
  ·replace H := ite_t q55 H
   refine cs_know (c:=true) (dec_t q55) 11 (by kernel_rfl) ?_
   refine cs_true (by kernel_rfl) ?_
   refine cs_region (l:=[_,_,_]) ?_
   refine lv (.slice A0 l0.length c0) ?_
   obtain ⟨q56,H⟩ := ite_need H
   obtain ⟨xl61,hy62,H⟩ := lt_some H
   have hz64:0≤((5000:Int)).toNat := by omega
   have hz65:((5000:Int)).toNat≤l0.length := by omega
   obtain ⟨xA57,xc58,he63,xC60,xR59⟩ := cut_at (A:=A0) (c:=c0) (l:=l0) (Ec.int 5 .u8) 0 (((5000:Int)).toNat) hz64 hz65 C0 R0 (m:=xl61) (by rw [← hy62] <;> simp) (z:=1) rfl
   refine ls_cutv (A:=A0) (c:=c0) (m:=l0.length) (z:=1) (e:=5) (a:=0) (b:=((5000:Int)).toNat) rfl rfl (by kernel_rfl) rfl (by kernel_rfl) (by kernel_rfl) (by kernel_rfl) (.inl ⟨rfl,rfl⟩) (.inr ⟨.i64,by rw [Int.toNat_of_nonneg (by first | assumption | omega)]; kernel_rfl⟩) hz64 hz65 C0 he63 ?_
   refine lv (.slice xA57 xl61.length xc58) ?_
   refine ls_end ?_
   refine qn_meet (s0) ⟨_,xA57,xc58,xl61,fr_next (rfl) (by kernel_rfl),rfl,xR59,xC60,H⟩ (sub_nil _)
  replace H := ite_f q55 H
  refine cs_know (c:=false) (dec_f q55) 11 (by kernel_rfl) ?_
  refine cs_false (by kernel_rfl) ?_
  refine cs_skip' ?_
  refine qn_meet (s0) ⟨_,A0,c0,l0,fr_next (rfl) (by kernel_rfl),rfl,R0,C0,H⟩ (sub_nil _)
 rintro f S ⟨fr1,A0_1,c0_1,l0_1,rfl,rfl,R0_1,C0_1,H⟩
 replace H:((leaf_Read.f k l0_1).bind fun t1=>(shadowboxref16_Read.f k l0_1).bind fun t15=>(leaf_Read.f k ([(0:Int),(1:Int),(0:Int),(1:Int),(97:Int),(1:Int),(49:Int)])).bind fun t35=>(if t1.2=t15.2 then (shadowboxref16_Same.f k (t1.1.1,t1.1.2.1,t1.1.2.2.1,t1.1.2.2.2) (t15.1.1,t15.1.2.1,t15.1.2.2.1,t15.1.2.2.2)).bind fun t50=>(if t50=true then (if t35.2=(0:Int) then some (decide ((t35.1.2.1.length:Int)=(1:Int))) else some false) else some false) else some false))=some r := H
 refine cs_seq ?_
 refine cs_region (l:=[_,_,_,_,_,_,_,_]) ?_
 refine lv (.slice A0_1 l0_1.length c0_1) ?_
 obtain ⟨t1,hc2,H⟩ := bind_some H
 refine ls_callf (fid:=10) (vals:=#[.slice A0_1 l0_1.length c0_1]) (X:=(Option Addr × Nat) × (Option Addr × Nat) × (Option Addr × Nat)) (fun x=>.tuple #[.agg ⟨([Value.int .i64 t1.1.1]++([Value.slice x.1.1 t1.1.2.1.length x.1.2]++([Value.slice x.2.1.1 t1.1.2.2.1.length x.2.1.2]++[Value.slice x.2.2.1 t1.1.2.2.2.length x.2.2.2])))⟩,.int .i64 t1.2]) (fun x=>stl []) (fun x B=>(RoS 23 (Ec.int 5 .u8) B x.1.1 t1.1.2.1∧t1.1.2.1.length≤x.1.2)∧(RoS 23 (Ec.int 5 .u8) B x.2.1.1 t1.1.2.2.1∧t1.1.2.2.1.length≤x.2.1.2)∧(Ro B x.2.2.1 (em T44 t1.1.2.2.2)∧t1.1.2.2.2.length≤x.2.2.2)) [] [] 0 rfl rfl (by kernel_rfl) (fun w=>by kernel_rfl) trivial (by decide) (fun x b b' h hf=>⟨⟨RoS.up h hf.1.1,hf.1.2⟩,⟨⟨RoS.up h hf.2.1.1,hf.2.1.2⟩,⟨h _ _ hf.2.2.1,hf.2.2.2⟩⟩⟩) (fun w hs hb=>leaf_Read.calls k A0_1 c0_1 l0_1 t1 (lent b w [] []) hb (hs.ro R0_1 _ _) C0_1 hc2) ?_
 intro x3 bs10 hle11 hok12 hf13
 obtain ⟨⟨fR4,fC5⟩,⟨fR6,fC7⟩,⟨fR8,fC9⟩⟩ := hf13
 refine lv (.tuple #[.agg ⟨([Value.int .i64 t1.1.1]++([Value.slice x3.1.1 t1.1.2.1.length x3.1.2]++([Value.slice x3.2.1.1 t1.1.2.2.1.length x3.2.1.2]++[Value.slice x3.2.2.1 t1.1.2.2.2.length x3.2.2.2])))⟩,.int .i64 t1.2]) ?_
 refine lv (.agg ⟨([Value.int .i64 t1.1.1]++([Value.slice x3.1.1 t1.1.2.1.length x3.1.2]++([Value.slice x3.2.1.1 t1.1.2.2.1.length x3.2.1.2]++[Value.slice x3.2.2.1 t1.1.2.2.2.length x3.2.2.2])))⟩) ?_
 refine lv (.int .i64 t1.2) ?_
 refine ls_new rfl rfl (by kernel_rfl) 0 (fun g=>.pointer (some ⟨g,0,none⟩)) (.cells ⟨([Value.int .i64 (0:Int)]++([Value.slice none 0 0]++([Value.slice none 0 0]++[Value.slice none 0 0])))⟩ 27) (fun w=>by kernel_rfl) ?_
 intro g14
 refine ls_storec (g:=g14) (off:=0) (v:=.agg ⟨([Value.int .i64 t1.1.1]++([Value.slice x3.1.1 t1.1.2.1.length x3.1.2]++([Value.slice x3.2.1.1 t1.1.2.2.1.length x3.2.1.2]++[Value.slice x3.2.2.1 t1.1.2.2.2.length x3.2.2.2])))⟩) (vs:=([Value.int .i64 t1.1.1]++([Value.slice x3.1.1 t1.1.2.1.length x3.1.2]++([Value.slice x3.2.1.1 t1.1.2.2.1.length x3.2.1.2]++[Value.slice x3.2.2.1 t1.1.2.2.2.length x3.2.2.2])))) (cs:=([Value.int .i64 (0:Int)]++([Value.slice none 0 0]++([Value.slice none 0 0]++[Value.slice none 0 0])))) (ty:=27) 0 rfl rfl rfl (by kernel_rfl) (by kernel_rfl) (by kernel_rfl) (by exact rfl) (by kernel_rfl) (len_app (len1 _) (len_app (len1 _) (len_app (len1 _) (len1 _)))) (one_app (one_cons rfl one_nil) (one_app (one_cons rfl one_nil) (one_app (one_cons rfl one_nil) (one_cons rfl one_nil)))) (hl_of (Sub4.all _) (len_eq (len_app (len1 _) (len_app (len1 _) (len_app (len1 _) (len1 _)))) (len_app (len1 _) (len_app (len1 _) (len_app (len1 _) (len1 _)))))) (cs' := ([Value.int .i64 t1.1.1]++([Value.slice x3.1.1 t1.1.2.1.length x3.1.2]++([Value.slice x3.2.1.1 t1.1.2.2.1.length x3.2.1.2]++[Value.slice x3.2.2.1 t1.1.2.2.2.length x3.2.2.2])))) (splc_all (len_eq (len_app (len1 _) (len_app (len1 _) (len_app (len1 _) (len1 _)))) (len_app (len1 _) (len_app (len1 _) (len_app (len1 _) (len1 _)))))) ?_
 refine lv (.int .i64 t1.2) ?_
 refine ls_end ?_
 refine qn_then ?_
 refine cs_seq ?_
 refine cs_region (l:=[_,_,_,_,_,_,_,_]) ?_
 refine lv (.slice A0_1 l0_1.length c0_1) ?_
 obtain ⟨t15,hc16,H⟩ := bind_some H
 refine ls_callf (fid:=11) (vals:=#[.slice A0_1 l0_1.length c0_1]) (X:=(Option Addr × Nat) × (Option Addr × Nat) × (Option Addr × Nat)) (fun x=>.tuple #[.agg ⟨([Value.int .i64 t15.1.1]++([Value.slice x.1.1 t15.1.2.1.length x.1.2]++([Value.slice x.2.1.1 t15.1.2.2.1.length x.2.1.2]++[Value.slice x.2.2.1 t15.1.2.2.2.length x.2.2.2])))⟩,.int .i64 t15.2]) (fun x=>stl []) (fun x B=>(RoS 23 (Ec.int 5 .u8) B x.1.1 t15.1.2.1∧t15.1.2.1.length≤x.1.2)∧(RoS 23 (Ec.int 5 .u8) B x.2.1.1 t15.1.2.2.1∧t15.1.2.2.1.length≤x.2.1.2)∧(Ro B x.2.2.1 (em T44 t15.1.2.2.2)∧t15.1.2.2.2.length≤x.2.2.2)) [] [] 1 rfl rfl (by kernel_rfl) (fun w=>by kernel_rfl) trivial (by decide) (fun x b b' h hf=>⟨⟨RoS.up h hf.1.1,hf.1.2⟩,⟨⟨RoS.up h hf.2.1.1,hf.2.1.2⟩,⟨h _ _ hf.2.2.1,hf.2.2.2⟩⟩⟩) (fun w hs hb=>shadowboxref16_Read.calls k A0_1 c0_1 l0_1 t15 (lent bs10 w [] []) hb (hs.ro (Ro.mono hok12 hle11 R0_1) _ _) C0_1 hc16) ?_
 intro x17 bs24 hle25 hok26 hf27
 obtain ⟨⟨fR18,fC19⟩,⟨fR20,fC21⟩,⟨fR22,fC23⟩⟩ := hf27
 refine lv (.tuple #[.agg ⟨([Value.int .i64 t15.1.1]++([Value.slice x17.1.1 t15.1.2.1.length x17.1.2]++([Value.slice x17.2.1.1 t15.1.2.2.1.length x17.2.1.2]++[Value.slice x17.2.2.1 t15.1.2.2.2.length x17.2.2.2])))⟩,.int .i64 t15.2]) ?_
 refine lv (.agg ⟨([Value.int .i64 t15.1.1]++([Value.slice x17.1.1 t15.1.2.1.length x17.1.2]++([Value.slice x17.2.1.1 t15.1.2.2.1.length x17.2.1.2]++[Value.slice x17.2.2.1 t15.1.2.2.2.length x17.2.2.2])))⟩) ?_
 refine lv (.int .i64 t15.2) ?_
 refine ls_new rfl rfl (by kernel_rfl) 1 (fun g=>.pointer (some ⟨g,0,none⟩)) (.cells ⟨([Value.int .i64 (0:Int)]++([Value.slice none 0 0]++([Value.slice none 0 0]++[Value.slice none 0 0])))⟩ 32) (fun w=>by kernel_rfl) ?_
 intro g28
 refine ls_storec (g:=g28) (off:=0) (v:=.agg ⟨([Value.int .i64 t15.1.1]++([Value.slice x17.1.1 t15.1.2.1.length x17.1.2]++([Value.slice x17.2.1.1 t15.1.2.2.1.length x17.2.1.2]++[Value.slice x17.2.2.1 t15.1.2.2.2.length x17.2.2.2])))⟩) (vs:=([Value.int .i64 t15.1.1]++([Value.slice x17.1.1 t15.1.2.1.length x17.1.2]++([Value.slice x17.2.1.1 t15.1.2.2.1.length x17.2.1.2]++[Value.slice x17.2.2.1 t15.1.2.2.2.length x17.2.2.2])))) (cs:=([Value.int .i64 (0:Int)]++([Value.slice none 0 0]++([Value.slice none 0 0]++[Value.slice none 0 0])))) (ty:=32) 1 rfl rfl rfl (by kernel_rfl) (by kernel_rfl) (by kernel_rfl) (by exact rfl) (by kernel_rfl) (len_app (len1 _) (len_app (len1 _) (len_app (len1 _) (len1 _)))) (one_app (one_cons rfl one_nil) (one_app (one_cons rfl one_nil) (one_app (one_cons rfl one_nil) (one_cons rfl one_nil)))) (hl_of (Sub4.all _) (len_eq (len_app (len1 _) (len_app (len1 _) (len_app (len1 _) (len1 _)))) (len_app (len1 _) (len_app (len1 _) (len_app (len1 _) (len1 _)))))) (cs' := ([Value.int .i64 t15.1.1]++([Value.slice x17.1.1 t15.1.2.1.length x17.1.2]++([Value.slice x17.2.1.1 t15.1.2.2.1.length x17.2.1.2]++[Value.slice x17.2.2.1 t15.1.2.2.2.length x17.2.2.2])))) (splc_all (len_eq (len_app (len1 _) (len_app (len1 _) (len_app (len1 _) (len1 _)))) (len_app (len1 _) (len_app (len1 _) (len_app (len1 _) (len1 _)))))) ?_
 refine lv (.int .i64 t15.2) ?_
 refine ls_end ?_
 refine qn_then ?_
 refine cs_seq ?_
 refine cs_region (l:=[_,_,_,_,_,_,_,_,_]) ?_
 refine ls_lit (Ec.int 5 .u8) 2 rfl rfl (by kernel_rfl) ([(0:Int),(1:Int),(0:Int),(1:Int),(97:Int),(1:Int),(49:Int)]) (by exact of_decide_eq_true (by kernel_rfl)) (fun w=>by kernel_rfl) ?_
 intro g29
 refine ls_conv (g:=g29) (l:=([(0:Int),(1:Int),(0:Int),(1:Int),(97:Int),(1:Int),(49:Int)])) (e:=5) 2 rfl rfl (by kernel_rfl) rfl (by kernel_rfl) (by kernel_rfl) (by kernel_rfl) (by exact rfl) ?_
 obtain ⟨t35,hc36,H⟩ := bind_some H
 refine ls_freezers 2 (by exact rfl) ?_
 intro bs30 hle31 hok32 fR33
 refine ls_callf (fid:=10) (vals:=#[.slice (some ⟨g29,0,none⟩) ([(0:Int),(1:Int),(0:Int),(1:Int),(97:Int),(1:Int),(49:Int)]).length [(0:Int),(1:Int),(0:Int),(1:Int),(97:Int),(1:Int),(49:Int)].length]) (X:=(Option Addr × Nat) × (Option Addr × Nat) × (Option Addr × Nat)) (fun x=>.tuple #[.agg ⟨([Value.int .i64 t35.1.1]++([Value.slice x.1.1 t35.1.2.1.length x.1.2]++([Value.slice x.2.1.1 t35.1.2.2.1.length x.2.1.2]++[Value.slice x.2.2.1 t35.1.2.2.2.length x.2.2.2])))⟩,.int .i64 t35.2]) (fun x=>stl []) (fun x B=>(RoS 23 (Ec.int 5 .u8) B x.1.1 t35.1.2.1∧t35.1.2.1.length≤x.1.2)∧(RoS 23 (Ec.int 5 .u8) B x.2.1.1 t35.1.2.2.1∧t35.1.2.2.1.length≤x.2.1.2)∧(Ro B x.2.2.1 (em T44 t35.1.2.2.2)∧t35.1.2.2.2.length≤x.2.2.2)) [] [] 3 rfl rfl (by kernel_rfl) (fun w=>by kernel_rfl) trivial (by decide) (fun x b b' h hf=>⟨⟨RoS.up h hf.1.1,hf.1.2⟩,⟨⟨RoS.up h hf.2.1.1,hf.2.1.2⟩,⟨h _ _ hf.2.2.1,hf.2.2.2⟩⟩⟩) (fun w hs hb=>leaf_Read.calls k (some ⟨g29,0,none⟩) ([(0:Int),(1:Int),(0:Int),(1:Int),(97:Int),(1:Int),(49:Int)].length) ([(0:Int),(1:Int),(0:Int),(1:Int),(97:Int),(1:Int),(49:Int)]) t35 (lent bs30 w [] []) hb (hs.ro fR33 _ _) (Nat.le_refl _) hc36) ?_
 intro x37 bs44 hle45 hok46 hf47
 obtain ⟨⟨fR38,fC39⟩,⟨fR40,fC41⟩,⟨fR42,fC43⟩⟩ := hf47
 refine lv (.tuple #[.agg ⟨([Value.int .i64 t35.1.1]++([Value.slice x37.1.1 t35.1.2.1.length x37.1.2]++([Value.slice x37.2.1.1 t35.1.2.2.1.length x37.2.1.2]++[Value.slice x37.2.2.1 t35.1.2.2.2.length x37.2.2.2])))⟩,.int .i64 t35.2]) ?_
 refine lv (.agg ⟨([Value.int .i64 t35.1.1]++([Value.slice x37.1.1 t35.1.2.1.length x37.1.2]++([Value.slice x37.2.1.1 t35.1.2.2.1.length x37.2.1.2]++[Value.slice x37.2.2.1 t35.1.2.2.2.length x37.2.2.2])))⟩) ?_
 refine lv (.int .i64 t35.2) ?_
 refine ls_new rfl rfl (by kernel_rfl) 3 (fun g=>.pointer (some ⟨g,0,none⟩)) (.cells ⟨([Value.int .i64 (0:Int)]++([Value.slice none 0 0]++([Value.slice none 0 0]++[Value.slice none 0 0])))⟩ 27) (fun w=>by kernel_rfl) ?_
 intro g48
 refine ls_storec (g:=g48) (off:=0) (v:=.agg ⟨([Value.int .i64 t35.1.1]++([Value.slice x37.1.1 t35.1.2.1.length x37.1.2]++([Value.slice x37.2.1.1 t35.1.2.2.1.length x37.2.1.2]++[Value.slice x37.2.2.1 t35.1.2.2.2.length x37.2.2.2])))⟩) (vs:=([Value.int .i64 t35.1.1]++([Value.slice x37.1.1 t35.1.2.1.length x37.1.2]++([Value.slice x37.2.1.1 t35.1.2.2.1.length x37.2.1.2]++[Value.slice x37.2.2.1 t35.1.2.2.2.length x37.2.2.2])))) (cs:=([Value.int .i64 (0:Int)]++([Value.slice none 0 0]++([Value.slice none 0 0]++[Value.slice none 0 0])))) (ty:=27) 3 rfl rfl rfl (by kernel_rfl) (by kernel_rfl) (by kernel_rfl) (by exact rfl) (by kernel_rfl) (len_app (len1 _) (len_app (len1 _) (len_app (len1 _) (len1 _)))) (one_app (one_cons rfl one_nil) (one_app (one_cons rfl one_nil) (one_app (one_cons rfl one_nil) (one_cons rfl one_nil)))) (hl_of (Sub4.all _) (len_eq (len_app (len1 _) (len_app (len1 _) (len_app (len1 _) (len1 _)))) (len_app (len1 _) (len_app (len1 _) (len_app (len1 _) (len1 _)))))) (cs' := ([Value.int .i64 t35.1.1]++([Value.slice x37.1.1 t35.1.2.1.length x37.1.2]++([Value.slice x37.2.1.1 t35.1.2.2.1.length x37.2.1.2]++[Value.slice x37.2.2.1 t35.1.2.2.2.length x37.2.2.2])))) (splc_all (len_eq (len_app (len1 _) (len_app (len1 _) (len_app (len1 _) (len1 _)))) (len_app (len1 _) (len_app (len1 _) (len_app (len1 _) (len1 _)))))) ?_
 refine lv (.int .i64 t35.2) ?_
 refine ls_end ?_
 refine qn_then ?_
 refine cs_seq ?_
 refine cs_region (l:=[_,_,_,_,_,_,_,_,_,_,_,_,_,_,_,_,_,_,_]) ?_
 refine lv (.int .i64 t1.2) ?_
 refine lv (.int .i64 t15.2) ?_
 refine lv (.bool (decide (t1.2=t15.2))) ?_
 refine lv (.bool (decide (t1.2=t15.2))) ?_
 by_cases q49:t1.2=t15.2
 ·replace H := ite_t q49 H
  refine ls_know (c:=true) (dec_t q49) 33 (by kernel_rfl) ?_
  refine ls_on (j:=3) (t:=33) (b:=true) rfl rfl (by kernel_rfl) (by kernel_rfl) ?_
  refine ls_loadagg (a:=⟨g14,0,none⟩) (sub:=([Value.int .i64 t1.1.1]++([Value.slice x3.1.1 t1.1.2.1.length x3.1.2]++([Value.slice x3.2.1.1 t1.1.2.2.1.length x3.2.1.2]++[Value.slice x3.2.2.1 t1.1.2.2.2.length x3.2.2.2])))) rfl rfl (by kernel_rfl) rfl (by kernel_rfl) (by kernel_rfl) (by kernel_rfl) (len_app (len1 _) (len_app (len1 _) (len_app (len1 _) (len1 _)))) (fun w hs=>(hs.vars (k:=0) (by exact rfl) (Sub4.all _))) ?_
  refine ls_on (j:=3) (t:=33) (b:=true) rfl rfl (by kernel_rfl) (by kernel_rfl) ?_
  refine ls_loadagg (a:=⟨g28,0,none⟩) (sub:=([Value.int .i64 t15.1.1]++([Value.slice x17.1.1 t15.1.2.1.length x17.1.2]++([Value.slice x17.2.1.1 t15.1.2.2.1.length x17.2.1.2]++[Value.slice x17.2.2.1 t15.1.2.2.2.length x17.2.2.2])))) rfl rfl (by kernel_rfl) rfl (by kernel_rfl) (by kernel_rfl) (by kernel_rfl) (len_app (len1 _) (len_app (len1 _) (len_app (len1 _) (len1 _)))) (fun w hs=>(hs.vars (k:=1) (by exact rfl) (Sub4.all _))) ?_
  refine ls_on (j:=3) (t:=33) (b:=true) rfl rfl (by kernel_rfl) (by kernel_rfl) ?_
  obtain ⟨t50,hc51,H⟩ := bind_some H
  refine ls_callb (fid:=12) (vals:=#[.agg ⟨([Value.int .i64 t1.1.1]++([Value.slice x3.1.1 t1.1.2.1.length x3.1.2]++([Value.slice x3.2.1.1 t1.1.2.2.1.length x3.2.1.2]++[Value.slice x3.2.2.1 t1.1.2.2.2.length x3.2.2.2])))⟩,.agg ⟨([Value.int .i64 t15.1.1]++([Value.slice x17.1.1 t15.1.2.1.length x17.1.2]++([Value.slice x17.2.1.1 t15.1.2.2.1.length x17.2.1.2]++[Value.slice x17.2.2.1 t15.1.2.2.2.length x17.2.2.2])))⟩]) (X:=Unit) (fun x=>.bool t50) (fun x=>stl []) [] [] [] [] 4 rfl rfl (by kernel_rfl) (fun w=>by kernel_rfl) trivial trivial (by decide) (fun w hs hb=>shadowboxref16_Same.calls k x3.1.1 x3.1.2 x3.2.1.1 x3.2.1.2 x3.2.2.1 x3.2.2.2 (t1.1.1,t1.1.2.1,t1.1.2.2.1,t1.1.2.2.2) x17.1.1 x17.1.2 x17.2.1.1 x17.2.1.2 x17.2.2.1 x17.2.2.2 (t15.1.1,t15.1.2.1,t15.1.2.2.1,t15.1.2.2.2) t50 (lent bs44 w [] []) hb (hs.roS (RoS.mono hok46 hle45 (RoS.mono hok32 hle31 (RoS.mono hok26 hle25 fR4))) _ _) fC5 (hs.roS (RoS.mono hok46 hle45 (RoS.mono hok32 hle31 (RoS.mono hok26 hle25 fR6))) _ _) fC7 (hs.ro (Ro.mono hok46 hle45 (Ro.mono hok32 hle31 (Ro.mono hok26 hle25 fR8))) _ _) fC9 (hs.roS (RoS.mono hok46 hle45 (RoS.mono hok32 hle31 fR18)) _ _) fC19 (hs.roS (RoS.mono hok46 hle45 (RoS.mono hok32 hle31 fR20)) _ _) fC21 (hs.ro (Ro.mono hok46 hle45 (Ro.mono hok32 hle31 fR22)) _ _) fC23 hc51) ?_
  intro x52
  refine lv (.bool t50) ?_
  refine lv (.bool t50) ?_
  by_cases q53:t50=true
  ·replace H := ite_t q53 H
   refine ls_know (c:=true) (q53) 38 (by kernel_rfl) ?_
   refine ls_on (j:=8) (t:=38) (b:=true) rfl rfl (by kernel_rfl) (by kernel_rfl) ?_
   refine lv (.int .i64 t35.2) ?_
   refine ls_on (j:=8) (t:=38) (b:=true) rfl rfl (by kernel_rfl) (by kernel_rfl) ?_
   refine lv (.bool (decide (t35.2=(0:Int)))) ?_
   refine lv (.bool (decide (t35.2=(0:Int)))) ?_
   refine lv (.bool (decide (t35.2=(0:Int)))) ?_
   by_cases q54:t35.2=(0:Int)
   ·replace H := ite_t q54 H
    refine ls_know (c:=true) (dec_t q54) 42 (by kernel_rfl) ?_
    refine ls_on (j:=12) (t:=42) (b:=true) rfl rfl (by kernel_rfl) (by kernel_rfl) ?_
    refine lv (.pointer (some ⟨g48,(0+1),none⟩)) ?_
    refine ls_on (j:=12) (t:=42) (b:=true) rfl rfl (by kernel_rfl) (by kernel_rfl) ?_
    refine ls_load (a0:=⟨g48,(0+1),none⟩) (v:=.slice x37.1.1 t35.1.2.1.length x37.1.2) (de:=(TypeDesc.slice 23)) rfl rfl (by kernel_rfl) rfl (by kernel_rfl) (by kernel_rfl) (by kernel_rfl) (fun w hs=>(hs.var (k:=3) (by exact rfl) (Sub4.trans (Sub4.all _) (Sub4.skip (n:=1) (len1 _) (Sub4.head _ _))))) ?_
    refine ls_on (j:=12) (t:=42) (b:=true) rfl rfl (by kernel_rfl) (by kernel_rfl) ?_
    refine lv (.int .i64 (t35.1.2.1.length:Int)) ?_
    refine ls_on (j:=12) (t:=42) (b:=true) rfl rfl (by kernel_rfl) (by kernel_rfl) ?_
    refine lv (.bool (decide ((t35.1.2.1.length:Int)=(1:Int)))) ?_
    refine lv (.bool (decide ((t35.1.2.1.length:Int)=(1:Int)))) ?_
    refine lv (.bool (decide ((t35.1.2.1.length:Int)=(1:Int)))) ?_
    refine ls_end ?_
    refine qn_then ?_
    refine cs_ret' ?_
    obtain rfl := Option.some.inj H
    refine qr_res (rs:=[_]) rfl (fun w' hs=>⟨[.bool (decide ((t35.1.2.1.length:Int)=(1:Int)))],(res_tmp (by kernel_rfl) (.nil)),(),rfl,St.later hs0.ok (((hle11.trans hle25).trans hle31).trans hle45) (hs.pick (ts:=[]) (cs:=[]) trivial (by decide))⟩)
   replace H := ite_f q54 H
   refine ls_know (c:=false) (dec_f q54) 42 (by kernel_rfl) ?_
   refine lofx 12 42 true false ?_
   refine lofx 12 42 true false ?_
   refine lofx 12 42 true false ?_
   refine lofx 12 42 true false ?_
   refine lv (.bool false) ?_
   refine lv (.bool false) ?_
   refine ls_end ?_
   refine qn_then ?_
   refine cs_ret' ?_
   obtain rfl := Option.some.inj H
   refine qr_res (rs:=[_]) rfl (fun w' hs=>⟨[.bool false],(res_tmp (by kernel_rfl) (.nil)),(),rfl,St.later hs0.ok (((hle11.trans hle25).trans hle31).trans hle45) (hs.pick (ts:=[]) (cs:=[]) trivial (by decide))⟩)
  replace H := ite_f q53 H
  refine ls_know (c:=false) (Bool.eq_false_iff.mpr q53) 38 (by kernel_rfl) ?_
  refine lofx 8 38 true false ?_
  refine lofx 8 38 true false ?_
  refine lv (.bool false) ?_
  refine lv (.bool false) ?_
  refine lofx 12 42 true false ?_
  refine lofx 12 42 true false ?_
  refine lofx 12 42 true false ?_
  refine lofx 12 42 true false ?_
  refine lv (.bool false) ?_
  refine lv (.bool false) ?_
  refine ls_end ?_
  refine qn_then ?_
  refine cs_ret' ?_
  obtain rfl := Option.some.inj H
  refine qr_res (rs:=[_]) rfl (fun w' hs=>⟨[.bool false],(res_tmp (by kernel_rfl) (.nil)),(),rfl,St.later hs0.ok (((hle11.trans hle25).trans hle31).trans hle45) (hs.pick (ts:=[]) (cs:=[]) trivial (by decide))⟩)
 replace H := ite_f q49 H
 refine ls_know (c:=false) (dec_f q49) 33 (by kernel_rfl) ?_
 refine lofx 3 33 true false ?_
 refine lofx 3 33 true false ?_
 refine lofx 3 33 true false ?_
 refine lv (.bool false) ?_
 refine lv (.bool false) ?_
 refine lofx 8 38 true false ?_
 refine lofx 8 38 true false ?_
 refine lv (.bool false) ?_
 refine lv (.bool false) ?_
 refine lofx 12 42 true false ?_
 refine lofx 12 42 true false ?_
 refine lofx 12 42 true false ?_
 refine lofx 12 42 true false ?_
 refine lv (.bool false) ?_
 refine lv (.bool false) ?_
 refine ls_end ?_
 refine qn_then ?_
 refine cs_ret' ?_
 obtain rfl := Option.some.inj H
 refine qr_res (rs:=[_]) rfl (fun w' hs=>⟨[.bool false],(res_tmp (by kernel_rfl) (.nil)),(),rfl,St.later hs0.ok (((hle11.trans hle25).trans hle31).trans hle45) (hs.pick (ts:=[]) (cs:=[]) trivial (by decide))⟩)
end Go.Proofs.Ythhhkphbhlafbaa.G
