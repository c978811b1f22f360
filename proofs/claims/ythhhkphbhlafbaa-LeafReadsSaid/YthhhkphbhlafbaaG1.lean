/- Printed by a program of this session (sz.py): plain functions, and walks that show that the code comes to them; no condition. -/
import Derived.Test.YthhhkphbhlafbaaProg
import Derived.Test.YthhhkphbhlafbaaTy
import Derived.Test.YthhhkphbhlafbaaG0
set_option linter.unusedVariables false
set_option linter.unusedSimpArgs false
namespace Go.Proofs.Ythhhkphbhlafbaa.G
open Go Go.RowKit Go.Proofs.Ythhhkphbhlafbaa.Sx
set_option maxRecDepth 100000
set_option maxHeartbeats 4000000
def codec_ReadText.f (k:Nat) (l0:List Int) (a1:Int):Option (ByteArray × Int × Int) :=
  (codec_ReadShort.f k l0).bind fun t1=>(if t1.2.2=(0:Int) then (if a1<(0:Int) then some ((⟨#[]⟩:ByteArray),(0:Int),(3:Int)) else (if t1.1 > (IntKind.wrap .u64 a1) then some ((⟨#[]⟩:ByteArray),(0:Int),(3:Int)) else lt (IntKind.wrap .i64 ((l0.length:Int) - t1.2.1)) fun y7=>(if t1.1 > (IntKind.wrap .u64 y7) then some ((⟨#[]⟩:ByteArray),(0:Int),(10:Int)) else lt (IntKind.wrap .i64 (t1.2.1+(IntKind.wrap .i64 t1.1))) fun y10=>(if 0≤y10 then (if y10≤(l0.length:Int) then (if 0≤t1.2.1 then (if t1.2.1≤y10 then lt ((l0.take (y10).toNat).drop (t1.2.1).toNat) fun xl20=>some (strOfNums xl20,y10,(0:Int)) else none) else none) else none) else none)))) else some ((⟨#[]⟩:ByteArray),(0:Int),t1.2.2))
theorem codec_ReadText.calls (k:Nat) (A0:Option Addr) (c0:Nat) (l0:List Int) (a1:Int) (r:ByteArray × Int × Int) (b:Bs) (hs0:St b (stl []) b.w) (R0:Ro b A0 (em (Ec.int 5 .u8) l0)) (C0:l0.length≤c0) (H:codec_ReadText.f k l0 a1=some r) :
    Calls Try.prog 58 #[.slice A0 l0.length c0,.int .i64 a1] b.w fun e w'=>∃ x:Unit,e=.returned (.tuple #[.string r.1,.int .i64 r.2.1,.int .i64 r.2.2])∧St b (stl []) w' := by
 unfold codec_ReadText.f at H
 refine enterb (n:=46) Try.func58 rfl (by kernel_rfl) (by kernel_rfl) hs0 ?_
 refine cs_sub (s0) (sub_nil _) ?_
 refine cs_seq ?_
 refine cs_region (l:=[_,_,_]) ?_
 refine lv (.string (⟨#[]⟩:ByteArray)) ?_
 refine lv (.int .i64 (0:Int)) ?_
 refine lv (.int .i64 (0:Int)) ?_
 refine ls_end ?_
 refine qn_then ?_
 refine cs_seq ?_
 refine cs_region (l:=[_,_,_,_,_,_,_,_,_]) ?_
 refine lv (.slice A0 l0.length c0) ?_
 obtain ⟨t1,hc2,H⟩ := bind_some H
 refine ls_callb (fid:=57) (vals:=#[.slice A0 l0.length c0]) (X:=Unit) (fun x=>.tuple #[.int .u64 t1.1,.int .i64 t1.2.1,.int .i64 t1.2.2]) (fun x=>stl []) [] [] [] [] 0 rfl rfl (by kernel_rfl) (fun w=>by kernel_rfl) trivial trivial (by decide) (fun w hs hb=>codec_ReadShort.calls k A0 c0 l0 t1 (lent b w [] []) hb (hs.ro R0 _ _) C0 hc2) ?_
 intro x3
 refine lv (.tuple #[.int .u64 t1.1,.int .i64 t1.2.1,.int .i64 t1.2.2]) ?_
 refine lv (.int .u64 t1.1) ?_
 refine lv (.int .i64 t1.2.1) ?_
 refine lv (.int .i64 t1.2.2) ?_
 refine lv (.int .u64 t1.1) ?_
 refine lv (.int .i64 t1.2.1) ?_
 refine lv (.int .i64 t1.2.2) ?_
 refine ls_end ?_
 refine qn_then ?_
 refine cs_seq ?_
 refine cs_block ?_
 refine cs_seq ?_
 refine cs_region (l:=[_,_,_]) ?_
 refine lv (.int .i64 t1.2.2) ?_
 refine lv (.bool (!decide (t1.2.2=(0:Int)))) ?_
 refine lv (.bool (!decide (t1.2.2=(0:Int)))) ?_
 refine ls_end ?_
 refine qn_then ?_
 by_cases q4:t1.2.2=(0:Int)
 ·replace H := ite_t q4 H
  refine cs_know (c:=false) (congrArg Bool.not (dec_t q4)) 15 (by kernel_rfl) ?_
  refine cs_false (by kernel_rfl) ?_
  refine cs_seq ?_
  refine cs_region (l:=[_,_,_,_,_,_,_,_,_]) ?_
  refine lv (.int .i64 a1) ?_
  refine lv (.bool (decide (a1<(0:Int)))) ?_
  refine lv (.bool (decide (a1<(0:Int)))) ?_
  by_cases q5:a1<(0:Int)
  ·replace H := ite_t q5 H
   refine ls_know (c:=true) (dec_t q5) 22 (by kernel_rfl) ?_
   refine lofx 2 22 false true ?_
   refine lofx 2 22 false true ?_
   refine lofx 2 22 false true ?_
   refine lofx 2 22 false true ?_
   refine lv (.bool true) ?_
   refine lv (.bool true) ?_
   refine ls_end ?_
   refine qn_then ?_
   refine cs_true (by kernel_rfl) ?_
   refine cs_seq ?_
   refine cs_region (l:=[_,_,_]) ?_
   refine lv (.string (⟨#[]⟩:ByteArray)) ?_
   refine lv (.int .i64 (0:Int)) ?_
   refine lv (.int .i64 (3:Int)) ?_
   refine ls_end ?_
   refine qn_then ?_
   refine cs_ret' ?_
   refine qr_block ?_
   refine qr_then ?_
   obtain rfl := Option.some.inj H
   refine qr_res (rs:=[_,_,_]) rfl (fun w' hs=>⟨[.string (⟨#[]⟩:ByteArray),.int .i64 (0:Int),.int .i64 (3:Int)],(res_tmp (by kernel_rfl) (res_tmp (by kernel_rfl) (res_tmp (by kernel_rfl) (.nil)))),(),rfl,hs.pick (ts:=[]) (cs:=[]) trivial (by decide)⟩)
  replace H := ite_f q5 H
  refine ls_know (c:=false) (dec_f q5) 22 (by kernel_rfl) ?_
  refine ls_on (j:=2) (t:=22) (b:=false) rfl rfl (by kernel_rfl) (by kernel_rfl) ?_
  refine lv (.int .u64 t1.1) ?_
  refine ls_on (j:=2) (t:=22) (b:=false) rfl rfl (by kernel_rfl) (by kernel_rfl) ?_
  refine lv (.int .i64 a1) ?_
  refine ls_on (j:=2) (t:=22) (b:=false) rfl rfl (by kernel_rfl) (by kernel_rfl) ?_
  refine lv (.int .u64 (IntKind.wrap .u64 a1)) ?_
  refine ls_on (j:=2) (t:=22) (b:=false) rfl rfl (by kernel_rfl) (by kernel_rfl) ?_
  refine lv (.bool (decide (t1.1 > (IntKind.wrap .u64 a1)))) ?_
  refine lv (.bool (decide (t1.1 > (IntKind.wrap .u64 a1)))) ?_
  refine lv (.bool (decide (t1.1 > (IntKind.wrap .u64 a1)))) ?_
  refine ls_end ?_
  refine qn_then ?_
  by_cases q6:t1.1 > (IntKind.wrap .u64 a1)
  ·replace H := ite_t q6 H
   refine cs_know (c:=true) (dec_t q6) 19 (by kernel_rfl) ?_
   refine cs_true (by kernel_rfl) ?_
   refine cs_seq ?_
   refine cs_region (l:=[_,_,_]) ?_
   refine lv (.string (⟨#[]⟩:ByteArray)) ?_
   refine lv (.int .i64 (0:Int)) ?_
   refine lv (.int .i64 (3:Int)) ?_
   refine ls_end ?_
   refine qn_then ?_
   refine cs_ret' ?_
   refine qr_block ?_
   refine qr_then ?_
   obtain rfl := Option.some.inj H
   refine qr_res (rs:=[_,_,_]) rfl (fun w' hs=>⟨[.string (⟨#[]⟩:ByteArray),.int .i64 (0:Int),.int .i64 (3:Int)],(res_tmp (by kernel_rfl) (res_tmp (by kernel_rfl) (res_tmp (by kernel_rfl) (.nil)))),(),rfl,hs.pick (ts:=[]) (cs:=[]) trivial (by decide)⟩)
  replace H := ite_f q6 H
  refine cs_know (c:=false) (dec_f q6) 19 (by kernel_rfl) ?_
  refine cs_false (by kernel_rfl) ?_
  refine cs_seq ?_
  refine cs_region (l:=[_,_,_,_,_,_,_,_]) ?_
  refine lv (.int .u64 t1.1) ?_
  refine lv (.slice A0 l0.length c0) ?_
  refine lv (.int .i64 (l0.length:Int)) ?_
  refine lv (.int .i64 t1.2.1) ?_
  obtain ⟨y7,hy8,H⟩ := lt_some H
  refine lv (.int .i64 (IntKind.wrap .i64 ((l0.length:Int) - t1.2.1))) ?_
  refine ls_ren 33 (v:=.int .i64 (IntKind.wrap .i64 ((l0.length:Int) - t1.2.1))) (v' := .int .i64 y7) (by kernel_rfl) (by rw [hy8]) ?_
  refine lv (.int .u64 (IntKind.wrap .u64 y7)) ?_
  refine lv (.bool (decide (t1.1 > (IntKind.wrap .u64 y7)))) ?_
  refine lv (.bool (decide (t1.1 > (IntKind.wrap .u64 y7)))) ?_
  refine ls_end ?_
  refine qn_then ?_
  by_cases q9:t1.1 > (IntKind.wrap .u64 y7)
  ·replace H := ite_t q9 H
   refine cs_know (c:=true) (dec_t q9) 28 (by kernel_rfl) ?_
   refine cs_true (by kernel_rfl) ?_
   refine cs_seq ?_
   refine cs_region (l:=[_,_,_]) ?_
   refine lv (.string (⟨#[]⟩:ByteArray)) ?_
   refine lv (.int .i64 (0:Int)) ?_
   refine lv (.int .i64 (10:Int)) ?_
   refine ls_end ?_
   refine qn_then ?_
   refine cs_ret' ?_
   refine qr_block ?_
   refine qr_then ?_
   obtain rfl := Option.some.inj H
   refine qr_res (rs:=[_,_,_]) rfl (fun w' hs=>⟨[.string (⟨#[]⟩:ByteArray),.int .i64 (0:Int),.int .i64 (10:Int)],(res_tmp (by kernel_rfl) (res_tmp (by kernel_rfl) (res_tmp (by kernel_rfl) (.nil)))),(),rfl,hs.pick (ts:=[]) (cs:=[]) trivial (by decide)⟩)
  replace H := ite_f q9 H
  refine cs_know (c:=false) (dec_f q9) 28 (by kernel_rfl) ?_
  refine cs_false (by kernel_rfl) ?_
  refine cs_skip' ?_
  refine qn_block ?_
  refine qn_then ?_
  refine cs_seq ?_
  refine cs_region (l:=[_,_,_,_,_]) ?_
  refine lv (.int .i64 t1.2.1) ?_
  refine lv (.int .u64 t1.1) ?_
  refine lv (.int .i64 (IntKind.wrap .i64 t1.1)) ?_
  obtain ⟨y10,hy11,H⟩ := lt_some H
  refine lv (.int .i64 (IntKind.wrap .i64 (t1.2.1+(IntKind.wrap .i64 t1.1)))) ?_
  refine ls_ren 39 (v:=.int .i64 (IntKind.wrap .i64 (t1.2.1+(IntKind.wrap .i64 t1.1)))) (v' := .int .i64 y10) (by kernel_rfl) (by rw [hy11]) ?_
  refine lv (.int .i64 y10) ?_
  refine ls_end ?_
  refine qn_then ?_
  refine cs_seq ?_
  refine cs_region (l:=[_,_,_,_,_,_,_,_,_]) ?_
  refine lv (.slice A0 l0.length c0) ?_
  refine lv (.int .i64 t1.2.1) ?_
  refine lv (.int .i64 y10) ?_
  obtain ⟨q12,H⟩ := ite_need H
  obtain ⟨q13,H⟩ := ite_need H
  obtain ⟨q14,H⟩ := ite_need H
  obtain ⟨q15,H⟩ := ite_need H
  obtain ⟨xl20,hy21,H⟩ := lt_some H
  have hz23:(t1.2.1).toNat≤(y10).toNat := by omega
  have hz24:(y10).toNat≤l0.length := by omega
  obtain ⟨xA16,xc17,he22,xC19,xR18⟩ := cut_at (A:=A0) (c:=c0) (l:=l0) (Ec.int 5 .u8) ((t1.2.1).toNat) ((y10).toNat) hz23 hz24 C0 R0 (m:=xl20) (by rw [← hy21] <;> simp) (z:=1) rfl
  refine ls_cutv (A:=A0) (c:=c0) (m:=l0.length) (z:=1) (e:=5) (a:=(t1.2.1).toNat) (b:=(y10).toNat) rfl rfl (by kernel_rfl) rfl (by kernel_rfl) (by kernel_rfl) (by kernel_rfl) (.inr ⟨.i64,by rw [Int.toNat_of_nonneg (by first | assumption | omega)]; kernel_rfl⟩) (.inr ⟨.i64,by rw [Int.toNat_of_nonneg (by first | assumption | omega)]; kernel_rfl⟩) hz23 hz24 C0 he22 ?_
  refine ls_str (A:=xA16) (c:=xc17) (e:=5) (l:=xl20) rfl rfl (by kernel_rfl) rfl (by kernel_rfl) (by kernel_rfl) (by kernel_rfl) (by kernel_rfl) (fun w hs=>(hs.old xR18)) ?_
  refine lv (.int .i64 y10) ?_
  refine lv (.string (strOfNums xl20)) ?_
  refine lv (.int .i64 y10) ?_
  refine lv (.int .i64 (0:Int)) ?_
  refine ls_end ?_
  refine qn_then ?_
  refine cs_ret' ?_
  obtain rfl := Option.some.inj H
  refine qr_res (rs:=[_,_,_]) rfl (fun w' hs=>⟨[.string (strOfNums xl20),.int .i64 y10,.int .i64 (0:Int)],(res_tmp (by kernel_rfl) (res_tmp (by kernel_rfl) (res_tmp (by kernel_rfl) (.nil)))),(),rfl,hs.pick (ts:=[]) (cs:=[]) trivial (by decide)⟩)
 replace H := ite_f q4 H
 refine cs_know (c:=true) (congrArg Bool.not (dec_f q4)) 15 (by kernel_rfl) ?_
 refine cs_true (by kernel_rfl) ?_
 refine cs_seq ?_
 refine cs_region (l:=[_,_,_,_]) ?_
 refine lv (.int .i64 t1.2.2) ?_
 refine lv (.string (⟨#[]⟩:ByteArray)) ?_
 refine lv (.int .i64 (0:Int)) ?_
 refine lv (.int .i64 t1.2.2) ?_
 refine ls_end ?_
 refine qn_then ?_
 refine cs_ret' ?_
 refine qr_block ?_
 refine qr_then ?_
 obtain rfl := Option.some.inj H
 refine qr_res (rs:=[_,_,_]) rfl (fun w' hs=>⟨[.string (⟨#[]⟩:ByteArray),.int .i64 (0:Int),.int .i64 t1.2.2],(res_tmp (by kernel_rfl) (res_tmp (by kernel_rfl) (res_tmp (by kernel_rfl) (.nil)))),(),rfl,hs.pick (ts:=[]) (cs:=[]) trivial (by decide)⟩)
def leaf_reader_text.f (k:Nat) (v0:((List Int) × Bool)) (a1:Int):Option ((List Int) × ((List Int) × Bool)) :=
  (codec_ReadText.f k v0.1 a1).bind fun t1=>(if t1.2.2=(0:Int) then (if 0≤t1.2.1 then (if t1.2.1≤(v0.1.length:Int) then lt (v0.1.drop (t1.2.1).toNat) fun xl11=>some ((bl t1.1),(xl11,v0.2)) else none) else none) else some (([]:List Int),(v0.1,true)))
theorem leaf_reader_text.calls (k:Nat) (pg0:Nat) (A0_0:Option Addr) (c0_0:Nat) (v0:((List Int) × Bool)) (a1:Int) (r:(List Int) × ((List Int) × Bool)) (b:Bs) (hs0:St b (stl [Ck.var 74 pg0 (([Value.slice A0_0 v0.1.length c0_0]++[Value.bool v0.2]))]) b.w) (R0_0:Ro b A0_0 (em (Ec.int 5 .u8) v0.1)) (C0_0:v0.1.length≤c0_0) (H:leaf_reader_text.f k v0 a1=some r) :
    Calls Try.prog 33 #[.pointer (some ⟨pg0,0,none⟩),.int .i64 a1] b.w fun e w'=>∃ x:(Option Addr × Nat) × (Option Addr × Nat),e=.returned (.slice x.1.1 r.1.length x.1.2)∧((Ro b x.2.1 (em (Ec.int 5 .u8) r.2.1)∧r.2.1.length≤x.2.2))∧St b (stl [Ck.var 74 pg0 (([Value.slice x.2.1 r.2.1.length x.2.2]++[Value.bool r.2.2])),Ck.ro (Ec.int 5 .u8) x.1.1 x.1.2 r.1]) w' := by
 unfold leaf_reader_text.f at H
 refine enterb (n:=34) Try.func33 rfl (by kernel_rfl) (by kernel_rfl) hs0 ?_
 refine cs_sub (sput s0 0 (some (Ck.var 74 pg0 (([Value.slice A0_0 v0.1.length c0_0]++[Value.bool v0.2]))))) (sub_put (by exact rfl) (sub_nil _)) ?_
 refine cs_seq ?_
 refine cs_region (l:=[_]) ?_
 refine lv (.slice none 0 0) ?_
 refine ls_end ?_
 refine qn_then ?_
 refine cs_seq ?_
 refine cs_region (l:=[_,_,_,_,_,_,_,_,_,_,_,_,_]) ?_
 refine lv (.pointer (some ⟨pg0,0,none⟩)) ?_
 refine lv (.pointer (some ⟨pg0,0,none⟩)) ?_
 refine lv (.pointer (some ⟨pg0,(0+0),none⟩)) ?_
 refine ls_load (a0:=⟨pg0,(0+0),none⟩) (v:=.slice A0_0 v0.1.length c0_0) (de:=(TypeDesc.slice 5)) rfl rfl (by kernel_rfl) rfl (by kernel_rfl) (by kernel_rfl) (by kernel_rfl) (fun w hs=>(hs.var (k:=0) (by exact rfl) (Sub4.trans (Sub4.all _) (Sub4.head _ _)))) ?_
 refine lv (.int .i64 a1) ?_
 obtain ⟨t1,hc2,H⟩ := bind_some H
 refine ls_callb (fid:=58) (vals:=#[.slice A0_0 v0.1.length c0_0,.int .i64 a1]) (X:=Unit) (fun x=>.tuple #[.string t1.1,.int .i64 t1.2.1,.int .i64 t1.2.2]) (fun x=>stl []) [] [] [] [] 1 rfl rfl (by kernel_rfl) (fun w=>by kernel_rfl) trivial trivial (by decide) (fun w hs hb=>codec_ReadText.calls k A0_0 c0_0 v0.1 a1 t1 (lent b w [] []) hb (hs.ro R0_0 _ _) C0_0 hc2) ?_
 intro x3
 refine lv (.tuple #[.string t1.1,.int .i64 t1.2.1,.int .i64 t1.2.2]) ?_
 refine lv (.string t1.1) ?_
 refine lv (.int .i64 t1.2.1) ?_
 refine lv (.int .i64 t1.2.2) ?_
 refine lv (.string t1.1) ?_
 refine lv (.int .i64 t1.2.1) ?_
 refine lv (.int .i64 t1.2.2) ?_
 refine ls_end ?_
 refine qn_then ?_
 refine cs_seq ?_
 refine cs_seq ?_
 refine cs_region (l:=[_,_]) ?_
 refine lv (.int .i64 t1.2.2) ?_
 refine lv (.bool (!decide (t1.2.2=(0:Int)))) ?_
 refine ls_end ?_
 refine qn_then ?_
 by_cases q4:t1.2.2=(0:Int)
 ·replace H := ite_t q4 H
  refine cs_know (c:=false) (congrArg Bool.not (dec_t q4)) 19 (by kernel_rfl) ?_
  refine cs_false (by kernel_rfl) ?_
  refine cs_skip' ?_
  refine qn_then ?_
  refine cs_seq ?_
  refine cs_region (l:=[_,_,_,_,_,_,_,_,_,_]) ?_
  refine lv (.pointer (some ⟨pg0,0,none⟩)) ?_
  refine lv (.pointer (some ⟨pg0,0,none⟩)) ?_
  refine lv (.pointer (some ⟨pg0,0,none⟩)) ?_
  refine lv (.pointer (some ⟨pg0,(0+0),none⟩)) ?_
  refine ls_load (a0:=⟨pg0,(0+0),none⟩) (v:=.slice A0_0 v0.1.length c0_0) (de:=(TypeDesc.slice 5)) rfl rfl (by kernel_rfl) rfl (by kernel_rfl) (by kernel_rfl) (by kernel_rfl) (fun w hs=>(hs.var (k:=0) (by exact rfl) (Sub4.trans (Sub4.all _) (Sub4.head _ _)))) ?_
  refine lv (.int .i64 t1.2.1) ?_
  obtain ⟨q5,H⟩ := ite_need H
  obtain ⟨q6,H⟩ := ite_need H
  obtain ⟨xl11,hy12,H⟩ := lt_some H
  have hz14:(t1.2.1).toNat≤v0.1.length := by omega
  have hz15:v0.1.length≤v0.1.length := by omega
  obtain ⟨xA7,xc8,he13,xC10,xR9⟩ := cut_at (A:=A0_0) (c:=c0_0) (l:=v0.1) (Ec.int 5 .u8) ((t1.2.1).toNat) v0.1.length hz14 hz15 C0_0 R0_0 (m:=xl11) (by rw [← hy12] <;> simp) (z:=1) rfl
  refine ls_cutv (A:=A0_0) (c:=c0_0) (m:=v0.1.length) (z:=1) (e:=5) (a:=(t1.2.1).toNat) (b:=v0.1.length) rfl rfl (by kernel_rfl) rfl (by kernel_rfl) (by kernel_rfl) (by kernel_rfl) (.inr ⟨.i64,by rw [Int.toNat_of_nonneg (by first | assumption | omega)]; kernel_rfl⟩) (.inl ⟨rfl,rfl⟩) hz14 hz15 C0_0 he13 ?_
  refine lv (.pointer (some ⟨pg0,0,none⟩)) ?_
  refine lv (.pointer (some ⟨pg0,(0+0),none⟩)) ?_
  refine ls_storec (g:=pg0) (off:=(0+0)) (v:=.slice xA7 xl11.length xc8) (vs:=[Value.slice xA7 xl11.length xc8]) (cs:=([Value.slice A0_0 v0.1.length c0_0]++[Value.bool v0.2])) (ty:=74) 0 rfl rfl rfl (by kernel_rfl) (by kernel_rfl) (by kernel_rfl) (by exact rfl) (by kernel_rfl) (len1 _) (one_cons rfl one_nil) (hl_of (Sub4.trans (Sub4.all _) (Sub4.head _ _)) (len_eq (len1 _) (len1 _))) (cs' := ([Value.slice xA7 xl11.length xc8]++[Value.bool v0.2])) (splc_in (Sub4.all _) (splc_head (len_eq (len1 _) (len1 _))) (splc_all (len_eq (len_app (len1 _) (len1 _)) (len_app (len1 _) (len1 _)))) (hl_of (Sub4.head _ _) (len_eq (len1 _) (len1 _)))) ?_
  refine ls_end ?_
  refine qn_then ?_
  refine cs_seq ?_
  refine cs_region (l:=[_,_,_]) ?_
  refine lv (.string t1.1) ?_
  refine ls_bytes (u:=.string) (e:=5) (s:=t1.1) 1 rfl rfl (by kernel_rfl) rfl (by kernel_rfl) (by kernel_rfl) (by kernel_rfl) (by kernel_rfl) ?_
  intro g16 xc17 xC18
  refine lv (.slice (some ⟨g16,0,none⟩) (bl t1.1).length xc17) ?_
  refine ls_end ?_
  refine qn_then ?_
  refine cs_ret' ?_
  refine qr_tors (Ec.int 5 .u8) (bl t1.1) xc17 1 2 (by exact rfl) xC18 ?_
  obtain rfl := Option.some.inj H
  refine qr_res (rs:=[_]) rfl (fun w' hs=>⟨[.slice (some ⟨g16,0,none⟩) (bl t1.1).length xc17],(res_tmp (by kernel_rfl) (.nil)),(((some ⟨g16,0,none⟩),xc17),(xA7,xc8)),rfl,⟨xR9,xC10⟩,hs.pick (ts:=[0,2]) (cs:=[Ck.var 74 pg0 (([Value.slice xA7 xl11.length xc8]++[Value.bool v0.2])),Ck.ro (Ec.int 5 .u8) (some ⟨g16,0,none⟩) xc17 (bl t1.1)]) ⟨by exact rfl,by exact rfl,trivial⟩ (by decide)⟩)
 replace H := ite_f q4 H
 refine cs_know (c:=true) (congrArg Bool.not (dec_f q4)) 19 (by kernel_rfl) ?_
 refine cs_true (by kernel_rfl) ?_
 refine cs_seq ?_
 refine cs_region (l:=[_,_,_,_]) ?_
 refine lv (.pointer (some ⟨pg0,0,none⟩)) ?_
 refine lv (.pointer (some ⟨pg0,0,none⟩)) ?_
 refine lv (.pointer (some ⟨pg0,(0+1),none⟩)) ?_
 refine ls_storec (g:=pg0) (off:=(0+1)) (v:=.bool true) (vs:=[Value.bool true]) (cs:=([Value.slice A0_0 v0.1.length c0_0]++[Value.bool v0.2])) (ty:=74) 0 rfl rfl rfl (by kernel_rfl) (by kernel_rfl) (by kernel_rfl) (by exact rfl) (by kernel_rfl) (len1 _) (one_cons rfl one_nil) (hl_of (Sub4.trans (Sub4.all _) (Sub4.skip (n:=1) (len1 _) (Sub4.all _))) (len_eq (len1 _) (len1 _))) (cs' := ([Value.slice A0_0 v0.1.length c0_0]++[Value.bool true])) (splc_in (Sub4.all _) (splc_skip (n:=1) (len1 _) (splc_all (len_eq (len1 _) (len1 _)))) (splc_all (len_eq (len_app (len1 _) (len1 _)) (len_app (len1 _) (len1 _)))) (hl_of (Sub4.skip (n:=1) (len1 _) (Sub4.all _)) (len_eq (len1 _) (len1 _)))) ?_
 refine ls_end ?_
 refine qn_then ?_
 refine cs_seq ?_
 refine cs_region (l:=[_]) ?_
 refine lv (.slice none 0 0) ?_
 refine ls_end ?_
 refine qn_then ?_
 refine cs_ret' ?_
 refine qr_then ?_
 refine qr_nilro 1 (Ec.int 5 .u8) ?_
 obtain rfl := Option.some.inj H
 refine qr_res (rs:=[_]) rfl (fun w' hs=>⟨[.slice none 0 0],(res_tmp (by kernel_rfl) (.nil)),((none,0),(A0_0,c0_0)),rfl,⟨R0_0,C0_0⟩,hs.pick (ts:=[0,1]) (cs:=[Ck.var 74 pg0 (([Value.slice A0_0 v0.1.length c0_0]++[Value.bool true])),Ck.ro (Ec.int 5 .u8) none 0 ([]:List Int)]) ⟨by exact rfl,by exact rfl,trivial⟩ (by decide)⟩)
def leaf_reader_key.f (k:Nat) (v0:((List Int) × Bool)) (l1:List Int):Option ((List Int) × ((List Int) × Bool)) :=
  (leaf_reader_number.f k (v0.1,v0.2) (l1.length:Int)).bind fun t1=>(leaf_reader_text.f k (t1.2.1,t1.2.2) (160:Int)).bind fun t7=>lt (IntKind.wrap .i64 (t1.1+(t7.1.length:Int))) fun y13=>(if 0≤t1.1 then (if t1.1≤y13 then (if y13≤140737488355328 then (if (1:Int)*y13≤281474976710656 then (if t1.1≤(l1.length:Int) then lt (l1.take (t1.1).toNat) fun xl25=>lt (lcopy (List.replicate (t1.1).toNat (0:Int)) 0 xl25) fun y30=>(if (y30.length+t7.1.length)*1≤140737488355328 then some ((y30++t7.1),(t7.2.1,t7.2.2)) else none) else none) else none) else none) else none) else none)
theorem leaf_reader_key.calls (k:Nat) (pg0:Nat) (A0_0:Option Addr) (c0_0:Nat) (v0:((List Int) × Bool)) (A1:Option Addr) (c1:Nat) (l1:List Int) (r:(List Int) × ((List Int) × Bool)) (b:Bs) (hs0:St b (stl [Ck.var 74 pg0 (([Value.slice A0_0 v0.1.length c0_0]++[Value.bool v0.2]))]) b.w) (R0_0:Ro b A0_0 (em (Ec.int 5 .u8) v0.1)) (C0_0:v0.1.length≤c0_0) (R1:Ro b A1 (em (Ec.int 5 .u8) l1)) (C1:l1.length≤c1) (H:leaf_reader_key.f k v0 l1=some r) :
    Calls Try.prog 32 #[.pointer (some ⟨pg0,0,none⟩),.slice A1 l1.length c1] b.w fun e w'=>∃ x:(Option Addr × Nat) × (Option Addr × Nat),e=.returned (.slice x.1.1 r.1.length x.1.2)∧((Ro b x.2.1 (em (Ec.int 5 .u8) r.2.1)∧r.2.1.length≤x.2.2))∧St b (stl [Ck.var 74 pg0 (([Value.slice x.2.1 r.2.1.length x.2.2]++[Value.bool r.2.2])),Ck.sl (Ec.int 5 .u8) x.1.1 x.1.2 r.1]) w' := by
 unfold leaf_reader_key.f at H
 refine enterb (n:=29) Try.func32 rfl (by kernel_rfl) (by kernel_rfl) hs0 ?_
 refine cs_sub (sput s0 0 (some (Ck.var 74 pg0 (([Value.slice A0_0 v0.1.length c0_0]++[Value.bool v0.2]))))) (sub_put (by exact rfl) (sub_nil _)) ?_
 refine cs_seq ?_
 refine cs_region (l:=[_]) ?_
 refine lv (.slice none 0 0) ?_
 refine ls_end ?_
 refine qn_then ?_
 refine cs_seq ?_
 refine cs_region (l:=[_,_,_,_,_]) ?_
 refine lv (.pointer (some ⟨pg0,0,none⟩)) ?_
 refine lv (.slice A1 l1.length c1) ?_
 refine lv (.int .i64 (l1.length:Int)) ?_
 obtain ⟨t1,hc2,H⟩ := bind_some H
 refine ls_callg (fid:=31) (vals:=#[.pointer (some ⟨pg0,0,none⟩),.int .i64 (l1.length:Int)]) (X:=(Option Addr × Nat)) (fun x=>.int .i64 t1.1) (fun x=>stl [Ck.var 74 pg0 (([Value.slice x.1 t1.2.1.length x.2]++[Value.bool t1.2.2]))]) (fun x B=>(Ro B x.1 (em (Ec.int 5 .u8) t1.2.1)∧t1.2.1.length≤x.2)) [0] [Ck.var 74 pg0 (([Value.slice A0_0 v0.1.length c0_0]++[Value.bool v0.2]))] 1 rfl rfl (by kernel_rfl) (fun w=>by kernel_rfl) ⟨by exact rfl,trivial⟩ (by decide) (fun x b b' h hf=>⟨h _ _ hf.1,hf.2⟩) (fun w hs hb=>leaf_reader_number.calls k pg0 A0_0 c0_0 (v0.1,v0.2) (l1.length:Int) t1 (lent b w [Ck.var 74 pg0 (([Value.slice A0_0 v0.1.length c0_0]++[Value.bool v0.2]))] []) hb (hs.ro R0_0 _ _) C0_0 hc2) ?_
 intro x3 hf6
 obtain ⟨fR4,fC5⟩ := hf6
 refine lv (.int .i64 t1.1) ?_
 refine ls_end ?_
 refine qn_then ?_
 refine cs_seq ?_
 refine cs_region (l:=[_,_,_]) ?_
 refine lv (.pointer (some ⟨pg0,0,none⟩)) ?_
 obtain ⟨t7,hc8,H⟩ := bind_some H
 refine ls_callg (fid:=33) (vals:=#[.pointer (some ⟨pg0,0,none⟩),.int .i64 (160:Int)]) (X:=(Option Addr × Nat) × (Option Addr × Nat)) (fun x=>.slice x.1.1 t7.1.length x.1.2) (fun x=>stl [Ck.var 74 pg0 (([Value.slice x.2.1 t7.2.1.length x.2.2]++[Value.bool t7.2.2])),Ck.ro (Ec.int 5 .u8) x.1.1 x.1.2 t7.1]) (fun x B=>(Ro B x.2.1 (em (Ec.int 5 .u8) t7.2.1)∧t7.2.1.length≤x.2.2)) [0] [Ck.var 74 pg0 (([Value.slice x3.1 t1.2.1.length x3.2]++[Value.bool t1.2.2]))] 1 rfl rfl (by kernel_rfl) (fun w=>by kernel_rfl) ⟨by exact rfl,trivial⟩ (by decide) (fun x b b' h hf=>⟨h _ _ hf.1,hf.2⟩) (fun w hs hb=>leaf_reader_text.calls k pg0 x3.1 x3.2 (t1.2.1,t1.2.2) (160:Int) t7 (lent b w [Ck.var 74 pg0 (([Value.slice x3.1 t1.2.1.length x3.2]++[Value.bool t1.2.2]))] []) hb (hs.ro fR4 _ _) fC5 hc8) ?_
 intro x9 hf12
 obtain ⟨fR10,fC11⟩ := hf12
 refine lv (.slice x9.1.1 t7.1.length x9.1.2) ?_
 refine ls_end ?_
 refine qn_then ?_
 refine cs_seq ?_
 refine cs_region (l:=[_,_,_,_,_,_,_]) ?_
 refine lv (.int .i64 t1.1) ?_
 refine lv (.int .i64 t1.1) ?_
 refine lv (.slice x9.1.1 t7.1.length x9.1.2) ?_
 refine lv (.int .i64 (t7.1.length:Int)) ?_
 obtain ⟨y13,hy14,H⟩ := lt_some H
 refine lv (.int .i64 (IntKind.wrap .i64 (t1.1+(t7.1.length:Int)))) ?_
 refine ls_ren 18 (v:=.int .i64 (IntKind.wrap .i64 (t1.1+(t7.1.length:Int)))) (v' := .int .i64 y13) (by kernel_rfl) (by rw [hy14]) ?_
 obtain ⟨q15,H⟩ := ite_need H
 obtain ⟨q16,H⟩ := ite_need H
 obtain ⟨q17,H⟩ := ite_need H
 obtain ⟨q18,H⟩ := ite_need H
 refine ls_make (Ec.int 5 .u8) (bytes:=1) (a:=t1.1) (b:=y13) (kx:=.i64) (ky:=.i64) (zc:=[Value.int .u8 (0:Int)]) 2 rfl rfl (by kernel_rfl) rfl (by kernel_rfl) (by kernel_rfl) (by kernel_rfl) (by kernel_rfl) rfl q15 q16 q17 q18 ?_
 intro g19
 refine lv (.slice (some ⟨g19,0,none⟩) (List.replicate (t1.1).toNat (0:Int)).length (y13).toNat) ?_
 refine ls_end ?_
 refine qn_then ?_
 refine cs_seq ?_
 refine cs_region (l:=[_,_,_,_,_,_]) ?_
 refine lv (.slice (some ⟨g19,0,none⟩) (List.replicate (t1.1).toNat (0:Int)).length (y13).toNat) ?_
 refine lv (.slice A1 l1.length c1) ?_
 refine lv (.int .i64 t1.1) ?_
 refine lv (.int .i64 t1.1) ?_
 obtain ⟨q20,H⟩ := ite_need H
 obtain ⟨xl25,hy26,H⟩ := lt_some H
 have hz28:0≤(t1.1).toNat := by omega
 have hz29:(t1.1).toNat≤l1.length := by omega
 obtain ⟨xA21,xc22,he27,xC24,xR23⟩ := cut3_at (A:=A1) (l:=l1) (Ec.int 5 .u8) 0 ((t1.1).toNat) hz28 hz29 R1 (m:=xl25) (by rw [← hy26] <;> simp) (z:=1) rfl
 refine ls_cutv3 (A:=A1) (c:=c1) (m:=l1.length) (z:=1) (e:=5) (a:=0) (b:=(t1.1).toNat) (kh:=.i64) rfl rfl (by kernel_rfl) rfl (by kernel_rfl) (by kernel_rfl) (by kernel_rfl) (.inl ⟨rfl,rfl⟩) (by rw [Int.toNat_of_nonneg (by first | assumption | omega)]; kernel_rfl) (by rw [Int.toNat_of_nonneg (by first | assumption | omega)]; kernel_rfl) hz28 hz29 C1 he27 ?_
 obtain ⟨y30,hy31,H⟩ := lt_some H
 refine ls_copyc (T:=(Ec.int 5 .u8)) (A:=(some ⟨g19,0,none⟩)) (c:=(y13).toNat) (l:=(List.replicate (t1.1).toNat (0:Int))) (m:=xl25) (B:=xA21) (cb:=xc22) (a:=0) (e:=5) 2 rfl rfl (by kernel_rfl) rfl (by kernel_rfl) (by kernel_rfl) (whole_he _ _ _) (Nat.zero_le _) rfl (by exact rfl) (by kernel_rfl) (by kernel_rfl) (fun w hs=>(hs.old xR23)) hy31 ?_
 refine ls_ren 7 (v:=.slice (some ⟨g19,0,none⟩) (List.replicate (t1.1).toNat (0:Int)).length (y13).toNat) (v' := .slice (some ⟨g19,0,none⟩) y30.length (y13).toNat) (by kernel_rfl) (by rw [← hy31,lcopy_length (Nat.zero_le _)]) ?_
 refine ls_ren 19 (v:=.slice (some ⟨g19,0,none⟩) (List.replicate (t1.1).toNat (0:Int)).length (y13).toNat) (v' := .slice (some ⟨g19,0,none⟩) y30.length (y13).toNat) (by kernel_rfl) (by rw [← hy31,lcopy_length (Nat.zero_le _)]) ?_
 refine ls_ren 20 (v:=.slice (some ⟨g19,0,none⟩) (List.replicate (t1.1).toNat (0:Int)).length (y13).toNat) (v' := .slice (some ⟨g19,0,none⟩) y30.length (y13).toNat) (by kernel_rfl) (by rw [← hy31,lcopy_length (Nat.zero_le _)]) ?_
 refine ls_end ?_
 refine qn_then ?_
 refine cs_seq ?_
 refine cs_region (l:=[_,_,_,_]) ?_
 refine lv (.slice (some ⟨g19,0,none⟩) y30.length (y13).toNat) ?_
 refine lv (.slice x9.1.1 t7.1.length x9.1.2) ?_
 obtain ⟨q32,H⟩ := ite_need H
 refine ls_app (Ec.int 5 .u8) (A:=(some ⟨g19,0,none⟩)) (c:=(y13).toNat) (B:=x9.1.1) (cb:=x9.1.2) (z:=(Value.int .u8 0)) (l:=y30) (m:=t7.1) (bytes:=1) 2 rfl rfl (by kernel_rfl) rfl (by kernel_rfl) (by exact rfl) (by kernel_rfl) (fun w hs=>(hs.rod (k:=1) (by exact rfl))) (by kernel_rfl) (by kernel_rfl) rfl (by decide) q32 ?_
 intro xA33 xc34
 refine lv (.slice xA33 (y30++t7.1).length xc34) ?_
 refine ls_end ?_
 refine qn_then ?_
 refine cs_ret' ?_
 obtain rfl := Option.some.inj H
 refine qr_res (rs:=[_]) rfl (fun w' hs=>⟨[.slice xA33 (y30++t7.1).length xc34],(res_tmp (by kernel_rfl) (.nil)),((xA33,xc34),(x9.2.1,x9.2.2)),rfl,⟨fR10,fC11⟩,hs.pick (ts:=[0,2]) (cs:=[Ck.var 74 pg0 (([Value.slice x9.2.1 t7.2.1.length x9.2.2]++[Value.bool t7.2.2])),Ck.sl (Ec.int 5 .u8) xA33 xc34 (y30++t7.1)]) ⟨by exact rfl,by exact rfl,trivial⟩ (by decide)⟩)
def codec_Take.lo2 (l0:List Int) (a1:Int) (xl7:List Int):Nat→Int→Int→Option (Int × (List Int) × Bool)
  | 0,_,_=>none
  | k2+1,x4_2,x25_2=>(if x25_2<(xl7.length:Int) then (if 0≤x25_2 then lt (IntKind.wrap .u64 ((xl7).getD (x25_2).toNat (0:Int))) fun y16=>(if 0≤IntKind.wrap .i64 ((8:Int)*x25_2) then lt (shlv .u64 y16 (IntKind.wrap .i64 ((8:Int)*x25_2))) fun y19=>(codec_Take.lo2 l0 a1 xl7 k2) (bits .or .u64 x4_2 y19) (IntKind.wrap .i64 (x25_2+(1:Int))) else none) else none) else lt (l0.drop (a1).toNat) fun xl26=>(if (([]:List Int).length+xl26.length)*1≤140737488355328 then some (x4_2,(([]:List Int)++xl26),true) else none))
def codec_Take.jo1 (k:Nat) (l0:List Int) (a1:Int) (x4_1:Int):Option (Int × (List Int) × Bool) := (if 0≤a1 then (if a1≤(l0.length:Int) then lt (l0.take (a1).toNat) fun xl7=>codec_Take.lo2 l0 a1 xl7 k x4_1 (0:Int) else none) else none)
def codec_Take.f (k:Nat) (l0:List Int) (a1:Int):Option (Int × (List Int) × Bool) :=
  (if a1<(1:Int) then some ((0:Int),([]:List Int),false) else (if a1 > (8:Int) then some ((0:Int),([]:List Int),false) else (if (l0.length:Int)<a1 then some ((0:Int),([]:List Int),false) else (codec_Take.jo1 k l0 a1) (0:Int))))
theorem codec_Take.calls (k:Nat) (A0:Option Addr) (c0:Nat) (l0:List Int) (a1:Int) (r:Int × (List Int) × Bool) (b:Bs) (hs0:St b (stl []) b.w) (R0:Ro b A0 (em (Ec.int 5 .u8) l0)) (C0:l0.length≤c0) (H:codec_Take.f k l0 a1=some r) :
    Calls Try.prog 90 #[.slice A0 l0.length c0,.int .i64 a1] b.w fun e w'=>∃ x:(Option Addr × Nat),e=.returned (.tuple #[.int .u64 r.1,.slice x.1 r.2.1.length x.2,.bool r.2.2])∧St b (stl [Ck.sl (Ec.int 5 .u8) x.1 x.2 r.2.1]) w' := by
 unfold codec_Take.f at H
 refine enterb (n:=44) Try.func90 rfl (by kernel_rfl) (by kernel_rfl) hs0 ?_
 refine cs_sub (s0) (sub_nil _) ?_
 refine cs_seq ?_
 refine cs_region (l:=[_,_,_]) ?_
 refine lv (.int .u64 (0:Int)) ?_
 refine lv (.slice none 0 0) ?_
 refine lv (.bool false) ?_
 refine ls_end ?_
 refine qn_then ?_
 refine cs_cut (fun f S=>∃ (fR:Fr) (x4_1:Int),f=upd (upd (upd fR 0 (.slice A0 l0.length c0)) 1 (.int .i64 a1)) 4 (.int .u64 x4_1)∧S=s0∧codec_Take.jo1 k l0 a1 x4_1=some r) ?_ ?_
 ·skip
  refine cs_seq ?_
  refine cs_region (l:=[_,_,_,_,_,_,_,_,_,_,_,_]) ?_
  refine lv (.int .i64 a1) ?_
  refine lv (.bool (decide (a1<(1:Int)))) ?_
  refine lv (.bool (decide (a1<(1:Int)))) ?_
  by_cases q34:a1<(1:Int)
  ·replace H := ite_t q34 H
   refine ls_know (c:=true) (dec_t q34) 11 (by kernel_rfl) ?_
   refine lofx 2 11 false true ?_
   refine lofx 2 11 false true ?_
   refine lv (.bool true) ?_
   refine lv (.bool true) ?_
   refine lofx 6 15 false true ?_
   refine lofx 6 15 false true ?_
   refine lofx 6 15 false true ?_
   refine lofx 6 15 false true ?_
   refine lv (.bool true) ?_
   refine ls_end ?_
   refine qn_then ?_
   refine cs_true (by kernel_rfl) ?_
   refine cs_seq ?_
   refine cs_region (l:=[_,_,_]) ?_
   refine lv (.int .u64 (0:Int)) ?_
   refine lv (.slice none 0 0) ?_
   refine lv (.bool false) ?_
   refine ls_end ?_
   refine qn_then ?_
   refine cs_ret' ?_
   refine qr_then ?_
   refine qr_nilrow 0 (Ec.int 5 .u8) ?_
   obtain rfl := Option.some.inj H
   refine qr_res (rs:=[_,_,_]) rfl (fun w' hs=>⟨[.int .u64 (0:Int),.slice none 0 0,.bool false],(res_tmp (by kernel_rfl) (res_tmp (by kernel_rfl) (res_tmp (by kernel_rfl) (.nil)))),(none,0),rfl,hs.pick (ts:=[0]) (cs:=[Ck.sl (Ec.int 5 .u8) none 0 ([]:List Int)]) ⟨by exact rfl,trivial⟩ (by decide)⟩)
  replace H := ite_f q34 H
  refine ls_know (c:=false) (dec_f q34) 11 (by kernel_rfl) ?_
  refine ls_on (j:=2) (t:=11) (b:=false) rfl rfl (by kernel_rfl) (by kernel_rfl) ?_
  refine lv (.int .i64 a1) ?_
  refine ls_on (j:=2) (t:=11) (b:=false) rfl rfl (by kernel_rfl) (by kernel_rfl) ?_
  refine lv (.bool (decide (a1 > (8:Int)))) ?_
  refine lv (.bool (decide (a1 > (8:Int)))) ?_
  refine lv (.bool (decide (a1 > (8:Int)))) ?_
  by_cases q35:a1 > (8:Int)
  ·replace H := ite_t q35 H
   refine ls_know (c:=true) (dec_t q35) 15 (by kernel_rfl) ?_
   refine lofx 6 15 false true ?_
   refine lofx 6 15 false true ?_
   refine lofx 6 15 false true ?_
   refine lofx 6 15 false true ?_
   refine lv (.bool true) ?_
   refine ls_end ?_
   refine qn_then ?_
   refine cs_true (by kernel_rfl) ?_
   refine cs_seq ?_
   refine cs_region (l:=[_,_,_]) ?_
   refine lv (.int .u64 (0:Int)) ?_
   refine lv (.slice none 0 0) ?_
   refine lv (.bool false) ?_
   refine ls_end ?_
   refine qn_then ?_
   refine cs_ret' ?_
   refine qr_then ?_
   refine qr_nilrow 0 (Ec.int 5 .u8) ?_
   obtain rfl := Option.some.inj H
   refine qr_res (rs:=[_,_,_]) rfl (fun w' hs=>⟨[.int .u64 (0:Int),.slice none 0 0,.bool false],(res_tmp (by kernel_rfl) (res_tmp (by kernel_rfl) (res_tmp (by kernel_rfl) (.nil)))),(none,0),rfl,hs.pick (ts:=[0]) (cs:=[Ck.sl (Ec.int 5 .u8) none 0 ([]:List Int)]) ⟨by exact rfl,trivial⟩ (by decide)⟩)
  replace H := ite_f q35 H
  refine ls_know (c:=false) (dec_f q35) 15 (by kernel_rfl) ?_
  refine ls_on (j:=6) (t:=15) (b:=false) rfl rfl (by kernel_rfl) (by kernel_rfl) ?_
  refine lv (.slice A0 l0.length c0) ?_
  refine ls_on (j:=6) (t:=15) (b:=false) rfl rfl (by kernel_rfl) (by kernel_rfl) ?_
  refine lv (.int .i64 (l0.length:Int)) ?_
  refine ls_on (j:=6) (t:=15) (b:=false) rfl rfl (by kernel_rfl) (by kernel_rfl) ?_
  refine lv (.int .i64 a1) ?_
  refine ls_on (j:=6) (t:=15) (b:=false) rfl rfl (by kernel_rfl) (by kernel_rfl) ?_
  refine lv (.bool (decide ((l0.length:Int)<a1))) ?_
  refine lv (.bool (decide ((l0.length:Int)<a1))) ?_
  refine ls_end ?_
  refine qn_then ?_
  by_cases q36:(l0.length:Int)<a1
  ·replace H := ite_t q36 H
   refine cs_know (c:=true) (dec_t q36) 20 (by kernel_rfl) ?_
   refine cs_true (by kernel_rfl) ?_
   refine cs_seq ?_
   refine cs_region (l:=[_,_,_]) ?_
   refine lv (.int .u64 (0:Int)) ?_
   refine lv (.slice none 0 0) ?_
   refine lv (.bool false) ?_
   refine ls_end ?_
   refine qn_then ?_
   refine cs_ret' ?_
   refine qr_then ?_
   refine qr_nilrow 0 (Ec.int 5 .u8) ?_
   obtain rfl := Option.some.inj H
   refine qr_res (rs:=[_,_,_]) rfl (fun w' hs=>⟨[.int .u64 (0:Int),.slice none 0 0,.bool false],(res_tmp (by kernel_rfl) (res_tmp (by kernel_rfl) (res_tmp (by kernel_rfl) (.nil)))),(none,0),rfl,hs.pick (ts:=[0]) (cs:=[Ck.sl (Ec.int 5 .u8) none 0 ([]:List Int)]) ⟨by exact rfl,trivial⟩ (by decide)⟩)
  replace H := ite_f q36 H
  refine cs_know (c:=false) (dec_f q36) 20 (by kernel_rfl) ?_
  refine cs_false (by kernel_rfl) ?_
  refine cs_skip' ?_
  refine qn_meet (s0) ⟨_,(0:Int),fr_next (fr_next (fr_next (rfl) (by kernel_rfl)) (by kernel_rfl)) (by kernel_rfl),rfl,H⟩ (sub_nil _)
 rintro f S ⟨fr1,x4_1,rfl,rfl,H⟩
 replace H:((if 0≤a1 then (if a1≤(l0.length:Int) then lt (l0.take (a1).toNat) fun xl7=>codec_Take.lo2 l0 a1 xl7 k x4_1 (0:Int) else none) else none))=some r := H
 refine cs_seq ?_
 refine cs_seq ?_
 refine cs_region (l:=[_,_,_,_,_]) ?_
 refine lv (.slice A0 l0.length c0) ?_
 refine lv (.int .i64 a1) ?_
 obtain ⟨q1,H⟩ := ite_need H
 obtain ⟨q2,H⟩ := ite_need H
 obtain ⟨xl7,hy8,H⟩ := lt_some H
 have hz10:0≤(a1).toNat := by omega
 have hz11:(a1).toNat≤l0.length := by omega
 obtain ⟨xA3,xc4,he9,xC6,xR5⟩ := cut_at (A:=A0) (c:=c0) (l:=l0) (Ec.int 5 .u8) 0 ((a1).toNat) hz10 hz11 C0 R0 (m:=xl7) (by rw [← hy8] <;> simp) (z:=1) rfl
 refine ls_cutv (A:=A0) (c:=c0) (m:=l0.length) (z:=1) (e:=5) (a:=0) (b:=(a1).toNat) rfl rfl (by kernel_rfl) rfl (by kernel_rfl) (by kernel_rfl) (by kernel_rfl) (.inl ⟨rfl,rfl⟩) (.inr ⟨.i64,by rw [Int.toNat_of_nonneg (by first | assumption | omega)]; kernel_rfl⟩) hz10 hz11 C0 he9 ?_
 refine lv (.int .i64 (xl7.length:Int)) ?_
 refine lv (.int .i64 (0:Int)) ?_
 refine ls_end ?_
 refine qn_then ?_
 refine cs_block ?_
 refine cs_sub (s0) (sub_nil _) ?_
 refine cs_loop (fun kk f S=>∃ (fR:Fr) (x4_2:Int) (x25_2:Int),f=upd (upd (upd (upd (upd (upd fR 0 (.slice A0 l0.length c0)) 1 (.int .i64 a1)) 4 (.int .u64 x4_2)) 23 (.slice xA3 xl7.length xc4)) 24 (.int .i64 (xl7.length:Int))) 25 (.int .i64 x25_2)∧S=s0∧codec_Take.lo2 l0 a1 xl7 kk x4_2 x25_2=some r) k ?_ ?_ ?_
 ·exact ⟨_,x4_1,(0:Int),fr_next (fr_next (fr_next (fr_next (fr_next (fr_next (rfl) (by kernel_rfl)) (by kernel_rfl)) (by kernel_rfl)) (by kernel_rfl)) (by kernel_rfl)) (by kernel_rfl),rfl,H⟩
 ·rintro f S ⟨fr2,x4_2,x25_2,rfl,rfl,H⟩; cases H
 rintro k2 f S ⟨fr2,x4_2,x25_2,rfl,rfl,H⟩
 replace H:((if x25_2<(xl7.length:Int) then (if 0≤x25_2 then lt (IntKind.wrap .u64 ((xl7).getD (x25_2).toNat (0:Int))) fun y16=>(if 0≤IntKind.wrap .i64 ((8:Int)*x25_2) then lt (shlv .u64 y16 (IntKind.wrap .i64 ((8:Int)*x25_2))) fun y19=>(codec_Take.lo2 l0 a1 xl7 k2) (bits .or .u64 x4_2 y19) (IntKind.wrap .i64 (x25_2+(1:Int))) else none) else none) else lt (l0.drop (a1).toNat) fun xl26=>(if (([]:List Int).length+xl26.length)*1≤140737488355328 then some (x4_2,(([]:List Int)++xl26),true) else none)))=some r := H
 refine cs_seq ?_
 refine cs_region (l:=[_]) ?_
 refine lv (.bool (decide (x25_2<(xl7.length:Int)))) ?_
 refine ls_end ?_
 refine qn_then ?_
 refine cs_seq ?_
 by_cases q12:x25_2<(xl7.length:Int)
 ·replace H := ite_t q12 H
  refine cs_know (c:=true) (dec_t q12) 26 (by kernel_rfl) ?_
  refine cs_true (by kernel_rfl) ?_
  refine cs_skip' ?_
  refine qn_then ?_
  refine cs_seq ?_
  refine cs_block ?_
  refine cs_seq ?_
  refine cs_region (l:=[_,_,_,_,_]) ?_
  refine lv (.int .i64 x25_2) ?_
  obtain ⟨q13,H⟩ := ite_need H
  obtain ⟨ad14,hA15⟩ := ido_at (T:=(Ec.int 5 .u8)) (l:=xl7) (i:=x25_2) xR5 q13 q12
  refine ls_idxv (Ec.int 5 .u8) (A:=xA3) (c:=xc4) (l:=xl7) (k:=.i64) (i:=x25_2) (z:=1) (ad:=ad14) rfl rfl (by kernel_rfl) hA15 rfl (by kernel_rfl) (by kernel_rfl) (by kernel_rfl) (by kernel_rfl) q13 q12 ?_
  refine ls_load (a0:=(ad14.add ((x25_2).toNat*1))) (v:=.int .u8 ((xl7).getD (x25_2).toNat (0:Int))) (de:=(TypeDesc.int .u8)) rfl rfl (by kernel_rfl) rfl (by kernel_rfl) (by kernel_rfl) (by kernel_rfl) (fun w hs=>(hs.old xR5).at hA15 (em_sub (Ec.int 5 .u8) xl7 (i:=(x25_2).toNat) (by have h0:(0:Int)≤x25_2 := q13; have h1:x25_2<(xl7.length:Int) := q12; omega))) ?_
  refine lv (.int .i64 x25_2) ?_
  refine lv (.int .u8 ((xl7).getD (x25_2).toNat (0:Int))) ?_
  refine ls_end ?_
  refine qn_then ?_
  refine cs_region (l:=[_,_,_,_,_,_,_,_]) ?_
  refine lv (.int .u64 x4_2) ?_
  refine lv (.int .u8 ((xl7).getD (x25_2).toNat (0:Int))) ?_
  obtain ⟨y16,hy17,H⟩ := lt_some H
  refine lv (.int .u64 (IntKind.wrap .u64 ((xl7).getD (x25_2).toNat (0:Int)))) ?_
  refine ls_ren 32 (v:=.int .u64 (IntKind.wrap .u64 ((xl7).getD (x25_2).toNat (0:Int)))) (v' := .int .u64 y16) (by kernel_rfl) (by rw [hy17]) ?_
  refine lv (.int .i64 x25_2) ?_
  refine lv (.int .i64 (IntKind.wrap .i64 ((8:Int)*x25_2))) ?_
  obtain ⟨q18,H⟩ := ite_need H
  obtain ⟨y19,hy20,H⟩ := lt_some H
  refine ls_shiftl (k:=.u64) (yk:=.i64) (x:=y16) (y:=(IntKind.wrap .i64 ((8:Int)*x25_2))) rfl rfl (by kernel_rfl) (fun w=>by kernel_rfl) q18 ?_
  refine ls_ren 35 (v:=.int .u64 (shlv .u64 y16 (IntKind.wrap .i64 ((8:Int)*x25_2)))) (v' := .int .u64 y19) (by kernel_rfl) (by rw [hy20]) ?_
  refine lv (.int .u64 (bits .or .u64 x4_2 y19)) ?_
  refine lv (.int .u64 (bits .or .u64 x4_2 y19)) ?_
  refine ls_end ?_
  refine qn_block ?_
  refine qn_then ?_
  refine cs_region (l:=[_,_]) ?_
  refine lv (.int .i64 (IntKind.wrap .i64 (x25_2+(1:Int)))) ?_
  refine lv (.int .i64 (IntKind.wrap .i64 (x25_2+(1:Int)))) ?_
  refine ls_end ?_
  refine qn_again k2 (s0) (Nat.le_refl _) ⟨_,(bits .or .u64 x4_2 y19),(IntKind.wrap .i64 (x25_2+(1:Int))),fr_next (fr_next (fr_next (fr_next (fr_next (fr_next (rfl) (by kernel_rfl)) (by kernel_rfl)) (by kernel_rfl)) (by kernel_rfl)) (by kernel_rfl)) (by kernel_rfl),rfl,H⟩ (sub_nil _)
 replace H := ite_f q12 H
 refine cs_know (c:=false) (dec_f q12) 26 (by kernel_rfl) ?_
 refine cs_false (by kernel_rfl) ?_
 refine cs_exit' ?_
 refine qx_then ?_
 refine qx_then ?_
 refine qx_same ?_
 refine qn_then ?_
 refine cs_seq ?_
 refine cs_region (l:=[_,_,_,_,_,_,_,_,_]) ?_
 refine lv (.int .u64 x4_2) ?_
 refine ls_lit (Ec.int 5 .u8) 0 rfl rfl (by kernel_rfl) ([]:List Int) (by exact of_decide_eq_true (by kernel_rfl)) (fun w=>by kernel_rfl) ?_
 intro g21
 refine lv (.slice A0 l0.length c0) ?_
 refine lv (.int .i64 a1) ?_
 obtain ⟨xl26,hy27,H⟩ := lt_some H
 have hz29:(a1).toNat≤l0.length := by omega
 have hz30:l0.length≤l0.length := by omega
 obtain ⟨xA22,xc23,he28,xC25,xR24⟩ := cut_at (A:=A0) (c:=c0) (l:=l0) (Ec.int 5 .u8) ((a1).toNat) l0.length hz29 hz30 C0 R0 (m:=xl26) (by rw [← hy27] <;> simp) (z:=1) rfl
 refine ls_cutv (A:=A0) (c:=c0) (m:=l0.length) (z:=1) (e:=5) (a:=(a1).toNat) (b:=l0.length) rfl rfl (by kernel_rfl) rfl (by kernel_rfl) (by kernel_rfl) (by kernel_rfl) (.inr ⟨.i64,by rw [Int.toNat_of_nonneg (by first | assumption | omega)]; kernel_rfl⟩) (.inl ⟨rfl,rfl⟩) hz29 hz30 C0 he28 ?_
 obtain ⟨q31,H⟩ := ite_need H
 refine ls_app (Ec.int 5 .u8) (A:=(some ⟨g21,0,none⟩)) (c:=([]:List Int).length) (B:=xA22) (cb:=xc23) (z:=(Value.int .u8 0)) (l:=([]:List Int)) (m:=xl26) (bytes:=1) 0 rfl rfl (by kernel_rfl) rfl (by kernel_rfl) (by exact rfl) (by kernel_rfl) (fun w hs=>(hs.old xR24)) (by kernel_rfl) (by kernel_rfl) rfl (by decide) q31 ?_
 intro xA32 xc33
 refine lv (.int .u64 x4_2) ?_
 refine lv (.slice xA32 (([]:List Int)++xl26).length xc33) ?_
 refine lv (.bool true) ?_
 refine ls_end ?_
 refine qn_then ?_
 refine cs_ret' ?_
 obtain rfl := Option.some.inj H
 refine qr_res (rs:=[_,_,_]) rfl (fun w' hs=>⟨[.int .u64 x4_2,.slice xA32 (([]:List Int)++xl26).length xc33,.bool true],(res_tmp (by kernel_rfl) (res_tmp (by kernel_rfl) (res_tmp (by kernel_rfl) (.nil)))),(xA32,xc33),rfl,hs.pick (ts:=[0]) (cs:=[Ck.sl (Ec.int 5 .u8) xA32 xc33 (([]:List Int)++xl26)]) ⟨by exact rfl,trivial⟩ (by decide)⟩)
def pointer_Read_1.f (k:Nat) (a0:Int) (v1:(List Int)):Option (Int × (List Int)) :=
  (if 0≤a0 then (if a0≤(v1.length:Int) then lt (v1.take (a0).toNat) fun xl7=>(codec_Take.f k xl7 a0).bind fun t12=>lt (v1.drop (a0).toNat) fun xl19=>some (t12.1,xl19) else none) else none)
theorem pointer_Read_1.calls (k:Nat) (a0:Int) (pg1:Nat) (A1:Option Addr) (c1:Nat) (v1:(List Int)) (r:Int × (List Int)) (b:Bs) (hs0:St b (stl [Ck.var 23 pg1 ([Value.slice A1 v1.length c1])]) b.w) (R1:Ro b A1 (em (Ec.int 5 .u8) v1)) (C1:v1.length≤c1) (H:pointer_Read_1.f k a0 v1=some r) :
    Calls Try.prog 89 #[.int .i64 a0,.pointer (some ⟨pg1,0,none⟩)] b.w fun e w'=>∃ x:(Option Addr × Nat),e=.returned (.int .u64 r.1)∧((Ro b x.1 (em (Ec.int 5 .u8) r.2)∧r.2.length≤x.2))∧St b (stl [Ck.var 23 pg1 ([Value.slice x.1 r.2.length x.2])]) w' := by
 unfold pointer_Read_1.f at H
 refine enterb (n:=20) Try.func89 rfl (by kernel_rfl) (by kernel_rfl) hs0 ?_
 refine cs_sub (sput s0 0 (some (Ck.var 23 pg1 ([Value.slice A1 v1.length c1])))) (sub_put (by exact rfl) (sub_nil _)) ?_
 refine cs_seq ?_
 refine cs_region (l:=[_]) ?_
 refine lv (.int .u64 (0:Int)) ?_
 refine ls_end ?_
 refine qn_then ?_
 refine cs_seq ?_
 refine cs_region (l:=[_,_,_,_,_,_,_,_,_,_,_,_]) ?_
 refine ls_load (a0:=⟨pg1,0,none⟩) (v:=.slice A1 v1.length c1) (de:=(TypeDesc.slice 5)) rfl rfl (by kernel_rfl) rfl (by kernel_rfl) (by kernel_rfl) (by kernel_rfl) (fun w hs=>(hs.var (k:=0) (by exact rfl) (Sub4.all _))) ?_
 refine lv (.int .i64 a0) ?_
 obtain ⟨q1,H⟩ := ite_need H
 obtain ⟨q2,H⟩ := ite_need H
 obtain ⟨xl7,hy8,H⟩ := lt_some H
 have hz10:0≤(a0).toNat := by omega
 have hz11:(a0).toNat≤v1.length := by omega
 obtain ⟨xA3,xc4,he9,xC6,xR5⟩ := cut_at (A:=A1) (c:=c1) (l:=v1) (Ec.int 5 .u8) 0 ((a0).toNat) hz10 hz11 C1 R1 (m:=xl7) (by rw [← hy8] <;> simp) (z:=1) rfl
 refine ls_cutv (A:=A1) (c:=c1) (m:=v1.length) (z:=1) (e:=5) (a:=0) (b:=(a0).toNat) rfl rfl (by kernel_rfl) rfl (by kernel_rfl) (by kernel_rfl) (by kernel_rfl) (.inl ⟨rfl,rfl⟩) (.inr ⟨.i64,by rw [Int.toNat_of_nonneg (by first | assumption | omega)]; kernel_rfl⟩) hz10 hz11 C1 he9 ?_
 refine lv (.int .i64 a0) ?_
 obtain ⟨t12,hc13,H⟩ := bind_some H
 refine ls_callb (fid:=90) (vals:=#[.slice xA3 xl7.length xc4,.int .i64 a0]) (X:=(Option Addr × Nat)) (fun x=>.tuple #[.int .u64 t12.1,.slice x.1 t12.2.1.length x.2,.bool t12.2.2]) (fun x=>stl [Ck.sl (Ec.int 5 .u8) x.1 x.2 t12.2.1]) [] [] [] [] 1 rfl rfl (by kernel_rfl) (fun w=>by kernel_rfl) trivial trivial (by decide) (fun w hs hb=>codec_Take.calls k xA3 xc4 xl7 a0 t12 (lent b w [] []) hb (hs.ro xR5 _ _) xC6 hc13) ?_
 intro x14
 refine lv (.tuple #[.int .u64 t12.1,.slice x14.1 t12.2.1.length x14.2,.bool t12.2.2]) ?_
 refine lv (.int .u64 t12.1) ?_
 refine lv (.slice x14.1 t12.2.1.length x14.2) ?_
 refine lv (.bool t12.2.2) ?_
 refine lv (.int .u64 t12.1) ?_
 refine lv (.slice x14.1 t12.2.1.length x14.2) ?_
 refine lv (.bool t12.2.2) ?_
 refine ls_end ?_
 refine qn_then ?_
 refine cs_seq ?_
 refine cs_region (l:=[_,_,_,_]) ?_
 refine ls_load (a0:=⟨pg1,0,none⟩) (v:=.slice A1 v1.length c1) (de:=(TypeDesc.slice 5)) rfl rfl (by kernel_rfl) rfl (by kernel_rfl) (by kernel_rfl) (by kernel_rfl) (fun w hs=>(hs.var (k:=0) (by exact rfl) (Sub4.all _))) ?_
 refine lv (.int .i64 a0) ?_
 obtain ⟨xl19,hy20,H⟩ := lt_some H
 have hz22:(a0).toNat≤v1.length := by omega
 have hz23:v1.length≤v1.length := by omega
 obtain ⟨xA15,xc16,he21,xC18,xR17⟩ := cut_at (A:=A1) (c:=c1) (l:=v1) (Ec.int 5 .u8) ((a0).toNat) v1.length hz22 hz23 C1 R1 (m:=xl19) (by rw [← hy20] <;> simp) (z:=1) rfl
 refine ls_cutv (A:=A1) (c:=c1) (m:=v1.length) (z:=1) (e:=5) (a:=(a0).toNat) (b:=v1.length) rfl rfl (by kernel_rfl) rfl (by kernel_rfl) (by kernel_rfl) (by kernel_rfl) (.inr ⟨.i64,by rw [Int.toNat_of_nonneg (by first | assumption | omega)]; kernel_rfl⟩) (.inl ⟨rfl,rfl⟩) hz22 hz23 C1 he21 ?_
 refine ls_storec (g:=pg1) (off:=0) (v:=.slice xA15 xl19.length xc16) (vs:=[Value.slice xA15 xl19.length xc16]) (cs:=[Value.slice A1 v1.length c1]) (ty:=23) 0 rfl rfl rfl (by kernel_rfl) (by kernel_rfl) (by kernel_rfl) (by exact rfl) (by kernel_rfl) (len1 _) (one_cons rfl one_nil) (hl_of (Sub4.all _) (len_eq (len1 _) (len1 _))) (cs' := [Value.slice xA15 xl19.length xc16]) (splc_all (len_eq (len1 _) (len1 _))) ?_
 refine ls_end ?_
 refine qn_then ?_
 refine cs_seq ?_
 refine cs_region (l:=[_,_]) ?_
 refine lv (.int .u64 t12.1) ?_
 refine lv (.int .u64 t12.1) ?_
 refine ls_end ?_
 refine qn_then ?_
 refine cs_ret' ?_
 obtain rfl := Option.some.inj H
 refine qr_res (rs:=[_]) rfl (fun w' hs=>⟨[.int .u64 t12.1],(res_tmp (by kernel_rfl) (.nil)),(xA15,xc16),rfl,⟨xR17,xC18⟩,hs.pick (ts:=[0]) (cs:=[Ck.var 23 pg1 ([Value.slice xA15 xl19.length xc16])]) ⟨by exact rfl,trivial⟩ (by decide)⟩)
def pointer_None.f (k:Nat) (a0:PT):Option (Bool) :=
  some ((a0.1==(0:Int))&&((a0.2.1==(0:Int))&&((a0.2.2.1==(0:Int))&&((a0.2.2.2.1==(0:Int))&&(a0.2.2.2.2.1==(vrep 32 (0:Int)).1)))))
theorem pointer_None.calls (k:Nat) (a0:PT) (r:Bool) (b:Bs) (hs0:St b (stl []) b.w) (H:pointer_None.f k a0=some r) :
    Calls Try.prog 91 #[.agg ⟨([Value.int .i64 a0.1]++([Value.int .i64 a0.2.1]++([Value.int .i64 a0.2.2.1]++([Value.int .u32 a0.2.2.2.1]++en (Value.int .u8) a0.2.2.2.2.1))))⟩] b.w fun e w'=>∃ x:Unit,e=.returned (.bool r)∧St b (stl []) w' := by
 unfold pointer_None.f at H
 refine enterb (n:=6) Try.func91 rfl (by kernel_rfl) (by kernel_rfl) hs0 ?_
 refine cs_sub (s0) (sub_nil _) ?_
 refine cs_seq ?_
 refine cs_region (l:=[_,_]) ?_
 refine ls_new rfl rfl (by kernel_rfl) 0 (fun g=>.pointer (some ⟨g,0,none⟩)) (.cells ⟨([Value.int .i64 a0.1]++([Value.int .i64 a0.2.1]++([Value.int .i64 a0.2.2.1]++([Value.int .u32 a0.2.2.2.1]++en (Value.int .u8) a0.2.2.2.2.1))))⟩ 44) (fun w=>by kernel_rfl) ?_
 intro g1
 refine lv (.bool false) ?_
 refine ls_end ?_
 refine qn_then ?_
 refine cs_seq ?_
 refine cs_region (l:=[_,_,_,_]) ?_
 refine ls_loadagg (a:=⟨g1,0,none⟩) (sub:=([Value.int .i64 a0.1]++([Value.int .i64 a0.2.1]++([Value.int .i64 a0.2.2.1]++([Value.int .u32 a0.2.2.2.1]++en (Value.int .u8) a0.2.2.2.2.1))))) rfl rfl (by kernel_rfl) rfl (by kernel_rfl) (by kernel_rfl) (by kernel_rfl) (len_app (len1 _) (len_app (len1 _) (len_app (len1 _) (len_app (len1 _) (len_en _ a0.2.2.2.2))))) (fun w hs=>(hs.vars (k:=0) (by exact rfl) (Sub4.all _))) ?_
 refine ls_build (ps:=[]) (pl:=#[(0,1),(1,1),(2,1),(3,1),(4,32)]) (zv:=.agg ⟨([Value.int .i64 (0:Int)]++([Value.int .i64 (0:Int)]++([Value.int .i64 (0:Int)]++([Value.int .u32 (0:Int)]++en (Value.int .u8) (vrep 32 (0:Int)).1))))⟩) (zc:=([Value.int .i64 (0:Int)]++([Value.int .i64 (0:Int)]++([Value.int .i64 (0:Int)]++([Value.int .u32 (0:Int)]++en (Value.int .u8) (vrep 32 (0:Int)).1))))) (r:=([Value.int .i64 (0:Int)]++([Value.int .i64 (0:Int)]++([Value.int .i64 (0:Int)]++([Value.int .u32 (0:Int)]++en (Value.int .u8) (vrep 32 (0:Int)).1))))) rfl rfl (by kernel_rfl) rfl (by kernel_rfl) (by kernel_rfl) (fun w=>by kernel_rfl) (fun w=>by kernel_rfl) rfl fill_nil ?_
 refine ls_eql (xs:=([Value.int .i64 a0.1]++([Value.int .i64 a0.2.1]++([Value.int .i64 a0.2.2.1]++([Value.int .u32 a0.2.2.2.1]++en (Value.int .u8) a0.2.2.2.2.1))))) (ys:=([Value.int .i64 (0:Int)]++([Value.int .i64 (0:Int)]++([Value.int .i64 (0:Int)]++([Value.int .u32 (0:Int)]++en (Value.int .u8) (vrep 32 (0:Int)).1))))) (r:=((a0.1==(0:Int))&&((a0.2.1==(0:Int))&&((a0.2.2.1==(0:Int))&&((a0.2.2.2.1==(0:Int))&&(a0.2.2.2.2.1==(vrep 32 (0:Int)).1)))))) rfl rfl (by kernel_rfl) rfl (by kernel_rfl) (by kernel_rfl) (by kernel_rfl) (eq_st (by kernel_rfl) (by kernel_rfl) (eqf_cons (ft:=3) (fo:=0) (by kernel_rfl) (part_one (by kernel_rfl) (Sub4.trans (Sub4.all _) (Sub4.head _ _))) (part_one (by kernel_rfl) (Sub4.trans (Sub4.all _) (Sub4.head _ _))) (eq_int (by kernel_rfl) _ _ _) (eqf_cons (ft:=3) (fo:=1) (by kernel_rfl) (part_one (by kernel_rfl) (Sub4.trans (Sub4.all _) (Sub4.skip (n:=1) (len1 _) (Sub4.head _ _)))) (part_one (by kernel_rfl) (Sub4.trans (Sub4.all _) (Sub4.skip (n:=1) (len1 _) (Sub4.head _ _)))) (eq_int (by kernel_rfl) _ _ _) (eqf_cons (ft:=3) (fo:=2) (by kernel_rfl) (part_one (by kernel_rfl) (Sub4.trans (Sub4.all _) (Sub4.skip (n:=1) (len1 _) (Sub4.skip (n:=1) (len1 _) (Sub4.head _ _))))) (part_one (by kernel_rfl) (Sub4.trans (Sub4.all _) (Sub4.skip (n:=1) (len1 _) (Sub4.skip (n:=1) (len1 _) (Sub4.head _ _))))) (eq_int (by kernel_rfl) _ _ _) (eqf_cons (ft:=41) (fo:=3) (by kernel_rfl) (part_one (by kernel_rfl) (Sub4.trans (Sub4.all _) (Sub4.skip (n:=1) (len1 _) (Sub4.skip (n:=1) (len1 _) (Sub4.skip (n:=1) (len1 _) (Sub4.head _ _)))))) (part_one (by kernel_rfl) (Sub4.trans (Sub4.all _) (Sub4.skip (n:=1) (len1 _) (Sub4.skip (n:=1) (len1 _) (Sub4.skip (n:=1) (len1 _) (Sub4.head _ _)))))) (eq_int (by kernel_rfl) _ _ _) (eqf_last (ft:=42) (fo:=4) (by kernel_rfl) (part_agg (by kernel_rfl) (by kernel_rfl) (len_en _ a0.2.2.2.2) (Sub4.trans (Sub4.all _) (Sub4.skip (n:=1) (len1 _) (Sub4.skip (n:=1) (len1 _) (Sub4.skip (n:=1) (len1 _) (Sub4.skip (n:=1) (len1 _) (Sub4.all _))))))) (part_agg (by kernel_rfl) (by kernel_rfl) (len_en _ (vrep 32 (0:Int))) (Sub4.trans (Sub4.all _) (Sub4.skip (n:=1) (len1 _) (Sub4.skip (n:=1) (len1 _) (Sub4.skip (n:=1) (len1 _) (Sub4.skip (n:=1) (len1 _) (Sub4.all _))))))) (eq_ints (e:=5) (ln:=32) (by kernel_rfl) (by kernel_rfl) (by kernel_rfl) a0.2.2.2.2.2 (vrep 32 (0:Int)).2 _) (by kernel_rfl))))))) ?_
 refine lv (.bool ((a0.1==(0:Int))&&((a0.2.1==(0:Int))&&((a0.2.2.1==(0:Int))&&((a0.2.2.2.1==(0:Int))&&(a0.2.2.2.2.1==(vrep 32 (0:Int)).1)))))) ?_
 refine ls_end ?_
 refine qn_then ?_
 refine cs_ret' ?_
 obtain rfl := Option.some.inj H
 refine qr_res (rs:=[_]) rfl (fun w' hs=>⟨[.bool ((a0.1==(0:Int))&&((a0.2.1==(0:Int))&&((a0.2.2.1==(0:Int))&&((a0.2.2.2.1==(0:Int))&&(a0.2.2.2.2.1==(vrep 32 (0:Int)).1)))))],(res_tmp (by kernel_rfl) (.nil)),(),rfl,hs.pick (ts:=[]) (cs:=[]) trivial (by decide)⟩)
def pointer_Read.jo1 (k:Nat) (l0:List Int):Option (PT × Int) := (if (52:Int)≤(l0.length:Int) then lt (l0.take ((52:Int)).toNat) fun xl8=>(pointer_Read_1.f k (4:Int) xl8).bind fun t13=>(pointer_Read_1.f k (4:Int) t13.2).bind fun t19=>(pointer_Read_1.f k (8:Int) t19.2).bind fun t25=>(pointer_Read_1.f k (4:Int) t25.2).bind fun t31=>(if 32≤t31.2.length then (pointer_None.f k (IntKind.wrap .i64 t13.1,IntKind.wrap .i64 t25.1,IntKind.wrap .i64 t19.1,IntKind.wrap .u32 t31.1,(vpad 32 0 t31.2))).bind fun t40=>(if t40=true then some ((IntKind.wrap .i64 t13.1,IntKind.wrap .i64 t25.1,IntKind.wrap .i64 t19.1,IntKind.wrap .u32 t31.1,(vpad 32 0 t31.2)),(0:Int)) else (pointer_Right.f k (IntKind.wrap .i64 t13.1,IntKind.wrap .i64 t25.1,IntKind.wrap .i64 t19.1,IntKind.wrap .u32 t31.1,(vpad 32 0 t31.2))).bind fun t44=>(if t44=true then some ((IntKind.wrap .i64 t13.1,IntKind.wrap .i64 t25.1,IntKind.wrap .i64 t19.1,IntKind.wrap .u32 t31.1,(vpad 32 0 t31.2)),(0:Int)) else some (((0:Int),(0:Int),(0:Int),(0:Int),(vrep 32 (0:Int))),(11:Int)))) else none) else none)
def pointer_Read.f (k:Nat) (l0:List Int):Option (PT × Int) :=
  (if (l0.length:Int)<(52:Int) then some (((0:Int),(0:Int),(0:Int),(0:Int),(vrep 32 (0:Int))),(10:Int)) else (pointer_Read.jo1 k l0))
theorem pointer_Read.calls (k:Nat) (A0:Option Addr) (c0:Nat) (l0:List Int) (r:PT × Int) (b:Bs) (hs0:St b (stl []) b.w) (R0:Ro b A0 (em (Ec.int 5 .u8) l0)) (C0:l0.length≤c0) (H:pointer_Read.f k l0=some r) :
    Calls Try.prog 59 #[.slice A0 l0.length c0] b.w fun e w'=>∃ x:Unit,e=.returned (.tuple #[.agg ⟨([Value.int .i64 r.1.1]++([Value.int .i64 r.1.2.1]++([Value.int .i64 r.1.2.2.1]++([Value.int .u32 r.1.2.2.2.1]++en (Value.int .u8) r.1.2.2.2.2.1))))⟩,.int .i64 r.2])∧St b (stl []) w' := by
 unfold pointer_Read.f at H
 refine enterb (n:=42) Try.func59 rfl (by kernel_rfl) (by kernel_rfl) hs0 ?_
 refine cs_sub (s0) (sub_nil _) ?_
 refine cs_seq ?_
 refine cs_region (l:=[_,_,_]) ?_
 refine ls_new rfl rfl (by kernel_rfl) 0 (fun g=>.pointer (some ⟨g,0,none⟩)) (.cells ⟨[Value.slice A0 l0.length c0]⟩ 23) (fun w=>by kernel_rfl) ?_
 intro g1
 refine ls_new rfl rfl (by kernel_rfl) 1 (fun g=>.pointer (some ⟨g,0,none⟩)) (.cells ⟨([Value.int .i64 (0:Int)]++([Value.int .i64 (0:Int)]++([Value.int .i64 (0:Int)]++([Value.int .u32 (0:Int)]++en (Value.int .u8) (vrep 32 (0:Int)).1))))⟩ 44) (fun w=>by kernel_rfl) ?_
 intro g2
 refine lv (.int .i64 (0:Int)) ?_
 refine ls_end ?_
 refine qn_then ?_
 refine cs_cut (fun f S=>∃ (fR:Fr),f=upd (upd fR 1 (.pointer (some ⟨g1,0,none⟩))) 2 (.pointer (some ⟨g2,0,none⟩))∧S=sput (sput s0 0 (some (Ck.var 23 g1 ([Value.slice A0 l0.length c0])))) 1 (some (Ck.var 44 g2 (([Value.int .i64 (0:Int)]++([Value.int .i64 (0:Int)]++([Value.int .i64 (0:Int)]++([Value.int .u32 (0:Int)]++en (Value.int .u8) (vrep 32 (0:Int)).1)))))))∧pointer_Read.jo1 k l0=some r) ?_ ?_
 ·skip
  refine cs_seq ?_
  refine cs_region (l:=[_,_,_]) ?_
  refine ls_load (a0:=⟨g1,0,none⟩) (v:=.slice A0 l0.length c0) (de:=(TypeDesc.slice 5)) rfl rfl (by kernel_rfl) rfl (by kernel_rfl) (by kernel_rfl) (by kernel_rfl) (fun w hs=>(hs.var (k:=0) (by exact rfl) (Sub4.all _))) ?_
  refine lv (.int .i64 (l0.length:Int)) ?_
  refine lv (.bool (decide ((l0.length:Int)<(52:Int)))) ?_
  refine ls_end ?_
  refine qn_then ?_
  by_cases q48:(l0.length:Int)<(52:Int)
  ·replace H := ite_t q48 H
   refine cs_know (c:=true) (dec_t q48) 7 (by kernel_rfl) ?_
   refine cs_true (by kernel_rfl) ?_
   refine cs_seq ?_
   refine cs_region (l:=[_,_,_]) ?_
   refine ls_build (ps:=[]) (pl:=#[(0,1),(1,1),(2,1),(3,1),(4,32)]) (zv:=.agg ⟨([Value.int .i64 (0:Int)]++([Value.int .i64 (0:Int)]++([Value.int .i64 (0:Int)]++([Value.int .u32 (0:Int)]++en (Value.int .u8) (vrep 32 (0:Int)).1))))⟩) (zc:=([Value.int .i64 (0:Int)]++([Value.int .i64 (0:Int)]++([Value.int .i64 (0:Int)]++([Value.int .u32 (0:Int)]++en (Value.int .u8) (vrep 32 (0:Int)).1))))) (r:=([Value.int .i64 (0:Int)]++([Value.int .i64 (0:Int)]++([Value.int .i64 (0:Int)]++([Value.int .u32 (0:Int)]++en (Value.int .u8) (vrep 32 (0:Int)).1))))) rfl rfl (by kernel_rfl) rfl (by kernel_rfl) (by kernel_rfl) (fun w=>by kernel_rfl) (fun w=>by kernel_rfl) rfl fill_nil ?_
   refine ls_storec (g:=g2) (off:=0) (v:=.agg ⟨([Value.int .i64 (0:Int)]++([Value.int .i64 (0:Int)]++([Value.int .i64 (0:Int)]++([Value.int .u32 (0:Int)]++en (Value.int .u8) (vrep 32 (0:Int)).1))))⟩) (vs:=([Value.int .i64 (0:Int)]++([Value.int .i64 (0:Int)]++([Value.int .i64 (0:Int)]++([Value.int .u32 (0:Int)]++en (Value.int .u8) (vrep 32 (0:Int)).1))))) (cs:=([Value.int .i64 (0:Int)]++([Value.int .i64 (0:Int)]++([Value.int .i64 (0:Int)]++([Value.int .u32 (0:Int)]++en (Value.int .u8) (vrep 32 (0:Int)).1))))) (ty:=44) 1 rfl rfl rfl (by kernel_rfl) (by kernel_rfl) (by kernel_rfl) (by exact rfl) (by kernel_rfl) (len_app (len1 _) (len_app (len1 _) (len_app (len1 _) (len_app (len1 _) (len_en _ (vrep 32 (0:Int))))))) (one_app (one_cons rfl one_nil) (one_app (one_cons rfl one_nil) (one_app (one_cons rfl one_nil) (one_app (one_cons rfl one_nil) (one_en (fun _=>rfl) _))))) (hl_of (Sub4.all _) (len_eq (len_app (len1 _) (len_app (len1 _) (len_app (len1 _) (len_app (len1 _) (len_en _ (vrep 32 (0:Int))))))) (len_app (len1 _) (len_app (len1 _) (len_app (len1 _) (len_app (len1 _) (len_en _ (vrep 32 (0:Int))))))))) (cs' := ([Value.int .i64 (0:Int)]++([Value.int .i64 (0:Int)]++([Value.int .i64 (0:Int)]++([Value.int .u32 (0:Int)]++en (Value.int .u8) (vrep 32 (0:Int)).1))))) (splc_all (len_eq (len_app (len1 _) (len_app (len1 _) (len_app (len1 _) (len_app (len1 _) (len_en _ (vrep 32 (0:Int))))))) (len_app (len1 _) (len_app (len1 _) (len_app (len1 _) (len_app (len1 _) (len_en _ (vrep 32 (0:Int))))))))) ?_
   refine lv (.int .i64 (10:Int)) ?_
   refine ls_end ?_
   refine qn_then ?_
   refine cs_ret' ?_
   refine qr_then ?_
   obtain rfl := Option.some.inj H
   refine qr_res (rs:=[_,_]) rfl (fun w' hs=>⟨[.agg ⟨([Value.int .i64 (0:Int)]++([Value.int .i64 (0:Int)]++([Value.int .i64 (0:Int)]++([Value.int .u32 (0:Int)]++en (Value.int .u8) (vrep 32 (0:Int)).1))))⟩,.int .i64 (10:Int)],(.cell (by kernel_rfl) (run_cellres (by kernel_rfl) (by kernel_rfl) (len_app (len1 _) (len_app (len1 _) (len_app (len1 _) (len_app (len1 _) (len_en _ (vrep 32 (0:Int))))))) (hs.holds 1 _ (by exact rfl))) (res_tmp (by kernel_rfl) (.nil))),(),rfl,hs.pick (ts:=[]) (cs:=[]) trivial (by decide)⟩)
  replace H := ite_f q48 H
  refine cs_know (c:=false) (dec_f q48) 7 (by kernel_rfl) ?_
  refine cs_false (by kernel_rfl) ?_
  refine cs_skip' ?_
  refine qn_meet (sput (sput s0 0 (some (Ck.var 23 g1 ([Value.slice A0 l0.length c0])))) 1 (some (Ck.var 44 g2 (([Value.int .i64 (0:Int)]++([Value.int .i64 (0:Int)]++([Value.int .i64 (0:Int)]++([Value.int .u32 (0:Int)]++en (Value.int .u8) (vrep 32 (0:Int)).1)))))))) ⟨_,fr_next (fr_next (rfl) (by kernel_rfl)) (by kernel_rfl),rfl,H⟩ (sub_put (by exact rfl) (sub_put (by exact rfl) (sub_nil _)))
 rintro f S ⟨fr1,rfl,rfl,H⟩
 replace H:((if (52:Int)≤(l0.length:Int) then lt (l0.take ((52:Int)).toNat) fun xl8=>(pointer_Read_1.f k (4:Int) xl8).bind fun t13=>(pointer_Read_1.f k (4:Int) t13.2).bind fun t19=>(pointer_Read_1.f k (8:Int) t19.2).bind fun t25=>(pointer_Read_1.f k (4:Int) t25.2).bind fun t31=>(if 32≤t31.2.length then (pointer_None.f k (IntKind.wrap .i64 t13.1,IntKind.wrap .i64 t25.1,IntKind.wrap .i64 t19.1,IntKind.wrap .u32 t31.1,(vpad 32 0 t31.2))).bind fun t40=>(if t40=true then some ((IntKind.wrap .i64 t13.1,IntKind.wrap .i64 t25.1,IntKind.wrap .i64 t19.1,IntKind.wrap .u32 t31.1,(vpad 32 0 t31.2)),(0:Int)) else (pointer_Right.f k (IntKind.wrap .i64 t13.1,IntKind.wrap .i64 t25.1,IntKind.wrap .i64 t19.1,IntKind.wrap .u32 t31.1,(vpad 32 0 t31.2))).bind fun t44=>(if t44=true then some ((IntKind.wrap .i64 t13.1,IntKind.wrap .i64 t25.1,IntKind.wrap .i64 t19.1,IntKind.wrap .u32 t31.1,(vpad 32 0 t31.2)),(0:Int)) else some (((0:Int),(0:Int),(0:Int),(0:Int),(vrep 32 (0:Int))),(11:Int)))) else none) else none))=some r := H
 refine cs_seq ?_
 refine cs_region (l:=[_,_,_]) ?_
 refine ls_load (a0:=⟨g1,0,none⟩) (v:=.slice A0 l0.length c0) (de:=(TypeDesc.slice 5)) rfl rfl (by kernel_rfl) rfl (by kernel_rfl) (by kernel_rfl) (by kernel_rfl) (fun w hs=>(hs.var (k:=0) (by exact rfl) (Sub4.all _))) ?_
 obtain ⟨q3,H⟩ := ite_need H
 obtain ⟨xl8,hy9,H⟩ := lt_some H
 have hz11:0≤((52:Int)).toNat := by omega
 have hz12:((52:Int)).toNat≤l0.length := by omega
 obtain ⟨xA4,xc5,he10,xC7,xR6⟩ := cut_at (A:=A0) (c:=c0) (l:=l0) (Ec.int 5 .u8) 0 (((52:Int)).toNat) hz11 hz12 C0 R0 (m:=xl8) (by rw [← hy9] <;> simp) (z:=1) rfl
 refine ls_cutv (A:=A0) (c:=c0) (m:=l0.length) (z:=1) (e:=5) (a:=0) (b:=((52:Int)).toNat) rfl rfl (by kernel_rfl) rfl (by kernel_rfl) (by kernel_rfl) (by kernel_rfl) (.inl ⟨rfl,rfl⟩) (.inr ⟨.i64,by rw [Int.toNat_of_nonneg (by first | assumption | omega)]; kernel_rfl⟩) hz11 hz12 C0 he10 ?_
 refine ls_storec (g:=g1) (off:=0) (v:=.slice xA4 xl8.length xc5) (vs:=[Value.slice xA4 xl8.length xc5]) (cs:=[Value.slice A0 l0.length c0]) (ty:=23) 0 rfl rfl rfl (by kernel_rfl) (by kernel_rfl) (by kernel_rfl) (by exact rfl) (by kernel_rfl) (len1 _) (one_cons rfl one_nil) (hl_of (Sub4.all _) (len_eq (len1 _) (len1 _))) (cs' := [Value.slice xA4 xl8.length xc5]) (splc_all (len_eq (len1 _) (len1 _))) ?_
 refine ls_end ?_
 refine qn_then ?_
 refine cs_seq ?_
 refine cs_region (l:=[_,_]) ?_
 refine lv (.func (.func 89) #[] #[.pointer (some ⟨g1,0,none⟩)]) ?_
 refine lv (.func (.func 89) #[] #[.pointer (some ⟨g1,0,none⟩)]) ?_
 refine ls_end ?_
 refine qn_then ?_
 refine cs_seq ?_
 refine cs_region (l:=[_,_,_,_,_,_,_,_,_,_]) ?_
 refine lv (.func (.func 89) #[] #[.pointer (some ⟨g1,0,none⟩)]) ?_
 obtain ⟨t13,hc14,H⟩ := bind_some H
 refine ls_callg (fid:=89) (vals:=#[.int .i64 (4:Int),.pointer (some ⟨g1,0,none⟩)]) (X:=(Option Addr × Nat)) (fun x=>.int .u64 t13.1) (fun x=>stl [Ck.var 23 g1 ([Value.slice x.1 t13.2.length x.2])]) (fun x B=>(Ro B x.1 (em (Ec.int 5 .u8) t13.2)∧t13.2.length≤x.2)) [0] [Ck.var 23 g1 ([Value.slice xA4 xl8.length xc5])] 2 rfl rfl (by kernel_rfl) (fun w=>by kernel_rfl) ⟨by exact rfl,trivial⟩ (by decide) (fun x b b' h hf=>⟨h _ _ hf.1,hf.2⟩) (fun w hs hb=>pointer_Read_1.calls k (4:Int) g1 xA4 xc5 xl8 t13 (lent b w [Ck.var 23 g1 ([Value.slice xA4 xl8.length xc5])] []) hb (hs.ro xR6 _ _) xC7 hc14) ?_
 intro x15 hf18
 obtain ⟨fR16,fC17⟩ := hf18
 refine lv (.int .i64 (IntKind.wrap .i64 t13.1)) ?_
 refine lv (.func (.func 89) #[] #[.pointer (some ⟨g1,0,none⟩)]) ?_
 obtain ⟨t19,hc20,H⟩ := bind_some H
 refine ls_callg (fid:=89) (vals:=#[.int .i64 (4:Int),.pointer (some ⟨g1,0,none⟩)]) (X:=(Option Addr × Nat)) (fun x=>.int .u64 t19.1) (fun x=>stl [Ck.var 23 g1 ([Value.slice x.1 t19.2.length x.2])]) (fun x B=>(Ro B x.1 (em (Ec.int 5 .u8) t19.2)∧t19.2.length≤x.2)) [0] [Ck.var 23 g1 ([Value.slice x15.1 t13.2.length x15.2])] 2 rfl rfl (by kernel_rfl) (fun w=>by kernel_rfl) ⟨by exact rfl,trivial⟩ (by decide) (fun x b b' h hf=>⟨h _ _ hf.1,hf.2⟩) (fun w hs hb=>pointer_Read_1.calls k (4:Int) g1 x15.1 x15.2 t13.2 t19 (lent b w [Ck.var 23 g1 ([Value.slice x15.1 t13.2.length x15.2])] []) hb (hs.ro fR16 _ _) fC17 hc20) ?_
 intro x21 hf24
 obtain ⟨fR22,fC23⟩ := hf24
 refine lv (.int .i64 (IntKind.wrap .i64 t19.1)) ?_
 refine lv (.pointer (some ⟨g2,(0+0),none⟩)) ?_
 refine ls_storec (g:=g2) (off:=(0+0)) (v:=.int .i64 (IntKind.wrap .i64 t13.1)) (vs:=[Value.int .i64 (IntKind.wrap .i64 t13.1)]) (cs:=([Value.int .i64 (0:Int)]++([Value.int .i64 (0:Int)]++([Value.int .i64 (0:Int)]++([Value.int .u32 (0:Int)]++en (Value.int .u8) (vrep 32 (0:Int)).1))))) (ty:=44) 1 rfl rfl rfl (by kernel_rfl) (by kernel_rfl) (by kernel_rfl) (by exact rfl) (by kernel_rfl) (len1 _) (one_cons rfl one_nil) (hl_of (Sub4.trans (Sub4.all _) (Sub4.head _ _)) (len_eq (len1 _) (len1 _))) (cs' := ([Value.int .i64 (IntKind.wrap .i64 t13.1)]++([Value.int .i64 (0:Int)]++([Value.int .i64 (0:Int)]++([Value.int .u32 (0:Int)]++en (Value.int .u8) (vrep 32 (0:Int)).1))))) (splc_in (Sub4.all _) (splc_head (len_eq (len1 _) (len1 _))) (splc_all (len_eq (len_app (len1 _) (len_app (len1 _) (len_app (len1 _) (len_app (len1 _) (len_en _ (vrep 32 (0:Int))))))) (len_app (len1 _) (len_app (len1 _) (len_app (len1 _) (len_app (len1 _) (len_en _ (vrep 32 (0:Int))))))))) (hl_of (Sub4.head _ _) (len_eq (len1 _) (len1 _)))) ?_
 refine lv (.pointer (some ⟨g2,(0+2),none⟩)) ?_
 refine ls_storec (g:=g2) (off:=(0+2)) (v:=.int .i64 (IntKind.wrap .i64 t19.1)) (vs:=[Value.int .i64 (IntKind.wrap .i64 t19.1)]) (cs:=([Value.int .i64 (IntKind.wrap .i64 t13.1)]++([Value.int .i64 (0:Int)]++([Value.int .i64 (0:Int)]++([Value.int .u32 (0:Int)]++en (Value.int .u8) (vrep 32 (0:Int)).1))))) (ty:=44) 1 rfl rfl rfl (by kernel_rfl) (by kernel_rfl) (by kernel_rfl) (by exact rfl) (by kernel_rfl) (len1 _) (one_cons rfl one_nil) (hl_of (Sub4.trans (Sub4.all _) (Sub4.skip (n:=1) (len1 _) (Sub4.skip (n:=1) (len1 _) (Sub4.head _ _)))) (len_eq (len1 _) (len1 _))) (cs' := ([Value.int .i64 (IntKind.wrap .i64 t13.1)]++([Value.int .i64 (0:Int)]++([Value.int .i64 (IntKind.wrap .i64 t19.1)]++([Value.int .u32 (0:Int)]++en (Value.int .u8) (vrep 32 (0:Int)).1))))) (splc_in (Sub4.all _) (splc_skip (n:=1) (len1 _) (splc_skip (n:=1) (len1 _) (splc_head (len_eq (len1 _) (len1 _))))) (splc_all (len_eq (len_app (len1 _) (len_app (len1 _) (len_app (len1 _) (len_app (len1 _) (len_en _ (vrep 32 (0:Int))))))) (len_app (len1 _) (len_app (len1 _) (len_app (len1 _) (len_app (len1 _) (len_en _ (vrep 32 (0:Int))))))))) (hl_of (Sub4.skip (n:=1) (len1 _) (Sub4.skip (n:=1) (len1 _) (Sub4.head _ _))) (len_eq (len1 _) (len1 _)))) ?_
 refine ls_end ?_
 refine qn_then ?_
 refine cs_seq ?_
 refine cs_region (l:=[_,_,_,_,_]) ?_
 refine lv (.func (.func 89) #[] #[.pointer (some ⟨g1,0,none⟩)]) ?_
 obtain ⟨t25,hc26,H⟩ := bind_some H
 refine ls_callg (fid:=89) (vals:=#[.int .i64 (8:Int),.pointer (some ⟨g1,0,none⟩)]) (X:=(Option Addr × Nat)) (fun x=>.int .u64 t25.1) (fun x=>stl [Ck.var 23 g1 ([Value.slice x.1 t25.2.length x.2])]) (fun x B=>(Ro B x.1 (em (Ec.int 5 .u8) t25.2)∧t25.2.length≤x.2)) [0] [Ck.var 23 g1 ([Value.slice x21.1 t19.2.length x21.2])] 2 rfl rfl (by kernel_rfl) (fun w=>by kernel_rfl) ⟨by exact rfl,trivial⟩ (by decide) (fun x b b' h hf=>⟨h _ _ hf.1,hf.2⟩) (fun w hs hb=>pointer_Read_1.calls k (8:Int) g1 x21.1 x21.2 t19.2 t25 (lent b w [Ck.var 23 g1 ([Value.slice x21.1 t19.2.length x21.2])] []) hb (hs.ro fR22 _ _) fC23 hc26) ?_
 intro x27 hf30
 obtain ⟨fR28,fC29⟩ := hf30
 refine lv (.int .i64 (IntKind.wrap .i64 t25.1)) ?_
 refine lv (.pointer (some ⟨g2,(0+1),none⟩)) ?_
 refine ls_storec (g:=g2) (off:=(0+1)) (v:=.int .i64 (IntKind.wrap .i64 t25.1)) (vs:=[Value.int .i64 (IntKind.wrap .i64 t25.1)]) (cs:=([Value.int .i64 (IntKind.wrap .i64 t13.1)]++([Value.int .i64 (0:Int)]++([Value.int .i64 (IntKind.wrap .i64 t19.1)]++([Value.int .u32 (0:Int)]++en (Value.int .u8) (vrep 32 (0:Int)).1))))) (ty:=44) 1 rfl rfl rfl (by kernel_rfl) (by kernel_rfl) (by kernel_rfl) (by exact rfl) (by kernel_rfl) (len1 _) (one_cons rfl one_nil) (hl_of (Sub4.trans (Sub4.all _) (Sub4.skip (n:=1) (len1 _) (Sub4.head _ _))) (len_eq (len1 _) (len1 _))) (cs' := ([Value.int .i64 (IntKind.wrap .i64 t13.1)]++([Value.int .i64 (IntKind.wrap .i64 t25.1)]++([Value.int .i64 (IntKind.wrap .i64 t19.1)]++([Value.int .u32 (0:Int)]++en (Value.int .u8) (vrep 32 (0:Int)).1))))) (splc_in (Sub4.all _) (splc_skip (n:=1) (len1 _) (splc_head (len_eq (len1 _) (len1 _)))) (splc_all (len_eq (len_app (len1 _) (len_app (len1 _) (len_app (len1 _) (len_app (len1 _) (len_en _ (vrep 32 (0:Int))))))) (len_app (len1 _) (len_app (len1 _) (len_app (len1 _) (len_app (len1 _) (len_en _ (vrep 32 (0:Int))))))))) (hl_of (Sub4.skip (n:=1) (len1 _) (Sub4.head _ _)) (len_eq (len1 _) (len1 _)))) ?_
 refine ls_end ?_
 refine qn_then ?_
 refine cs_seq ?_
 refine cs_region (l:=[_,_,_,_,_]) ?_
 refine lv (.func (.func 89) #[] #[.pointer (some ⟨g1,0,none⟩)]) ?_
 obtain ⟨t31,hc32,H⟩ := bind_some H
 refine ls_callg (fid:=89) (vals:=#[.int .i64 (4:Int),.pointer (some ⟨g1,0,none⟩)]) (X:=(Option Addr × Nat)) (fun x=>.int .u64 t31.1) (fun x=>stl [Ck.var 23 g1 ([Value.slice x.1 t31.2.length x.2])]) (fun x B=>(Ro B x.1 (em (Ec.int 5 .u8) t31.2)∧t31.2.length≤x.2)) [0] [Ck.var 23 g1 ([Value.slice x27.1 t25.2.length x27.2])] 2 rfl rfl (by kernel_rfl) (fun w=>by kernel_rfl) ⟨by exact rfl,trivial⟩ (by decide) (fun x b b' h hf=>⟨h _ _ hf.1,hf.2⟩) (fun w hs hb=>pointer_Read_1.calls k (4:Int) g1 x27.1 x27.2 t25.2 t31 (lent b w [Ck.var 23 g1 ([Value.slice x27.1 t25.2.length x27.2])] []) hb (hs.ro fR28 _ _) fC29 hc32) ?_
 intro x33 hf36
 obtain ⟨fR34,fC35⟩ := hf36
 refine lv (.int .u32 (IntKind.wrap .u32 t31.1)) ?_
 refine lv (.pointer (some ⟨g2,(0+3),none⟩)) ?_
 refine ls_storec (g:=g2) (off:=(0+3)) (v:=.int .u32 (IntKind.wrap .u32 t31.1)) (vs:=[Value.int .u32 (IntKind.wrap .u32 t31.1)]) (cs:=([Value.int .i64 (IntKind.wrap .i64 t13.1)]++([Value.int .i64 (IntKind.wrap .i64 t25.1)]++([Value.int .i64 (IntKind.wrap .i64 t19.1)]++([Value.int .u32 (0:Int)]++en (Value.int .u8) (vrep 32 (0:Int)).1))))) (ty:=44) 1 rfl rfl rfl (by kernel_rfl) (by kernel_rfl) (by kernel_rfl) (by exact rfl) (by kernel_rfl) (len1 _) (one_cons rfl one_nil) (hl_of (Sub4.trans (Sub4.all _) (Sub4.skip (n:=1) (len1 _) (Sub4.skip (n:=1) (len1 _) (Sub4.skip (n:=1) (len1 _) (Sub4.head _ _))))) (len_eq (len1 _) (len1 _))) (cs' := ([Value.int .i64 (IntKind.wrap .i64 t13.1)]++([Value.int .i64 (IntKind.wrap .i64 t25.1)]++([Value.int .i64 (IntKind.wrap .i64 t19.1)]++([Value.int .u32 (IntKind.wrap .u32 t31.1)]++en (Value.int .u8) (vrep 32 (0:Int)).1))))) (splc_in (Sub4.all _) (splc_skip (n:=1) (len1 _) (splc_skip (n:=1) (len1 _) (splc_skip (n:=1) (len1 _) (splc_head (len_eq (len1 _) (len1 _)))))) (splc_all (len_eq (len_app (len1 _) (len_app (len1 _) (len_app (len1 _) (len_app (len1 _) (len_en _ (vrep 32 (0:Int))))))) (len_app (len1 _) (len_app (len1 _) (len_app (len1 _) (len_app (len1 _) (len_en _ (vrep 32 (0:Int))))))))) (hl_of (Sub4.skip (n:=1) (len1 _) (Sub4.skip (n:=1) (len1 _) (Sub4.skip (n:=1) (len1 _) (Sub4.head _ _)))) (len_eq (len1 _) (len1 _)))) ?_
 refine ls_end ?_
 refine qn_then ?_
 refine cs_seq ?_
 refine cs_region (l:=[_,_,_,_,_]) ?_
 refine ls_load (a0:=⟨g1,0,none⟩) (v:=.slice x33.1 t31.2.length x33.2) (de:=(TypeDesc.slice 5)) rfl rfl (by kernel_rfl) rfl (by kernel_rfl) (by kernel_rfl) (by kernel_rfl) (fun w hs=>(hs.var (k:=0) (by exact rfl) (Sub4.all _))) ?_
 obtain ⟨q37,H⟩ := ite_need H
 obtain ⟨ad38,hA39⟩ := ido_at (T:=(Ec.int 5 .u8)) (l:=t31.2) (i:=(0:Int)) fR34 (by decide) (by have := q37; omega)
 refine ls_toarr (e:=5) (A:=x33.1) (m:=t31.2.length) (c:=x33.2) rfl rfl (by kernel_rfl) rfl (by kernel_rfl) (by kernel_rfl) q37 hA39 ?_
 refine ls_loadagg (a:=(ad38.add 0)) (sub:=en (Value.int .u8) (vpad 32 0 t31.2).1) rfl rfl (by kernel_rfl) rfl (by kernel_rfl) (by kernel_rfl) (by kernel_rfl) (len_en _ (vpad 32 0 t31.2)) (fun w hs=>((hs.old fR34).vpad q37 0).part hA39 (Sub4.all _)) ?_
 refine lv (.pointer (some ⟨g2,(0+4),none⟩)) ?_
 refine ls_storec (g:=g2) (off:=(0+4)) (v:=.agg ⟨en (Value.int .u8) (vpad 32 0 t31.2).1⟩) (vs:=en (Value.int .u8) (vpad 32 0 t31.2).1) (cs:=([Value.int .i64 (IntKind.wrap .i64 t13.1)]++([Value.int .i64 (IntKind.wrap .i64 t25.1)]++([Value.int .i64 (IntKind.wrap .i64 t19.1)]++([Value.int .u32 (IntKind.wrap .u32 t31.1)]++en (Value.int .u8) (vrep 32 (0:Int)).1))))) (ty:=44) 1 rfl rfl rfl (by kernel_rfl) (by kernel_rfl) (by kernel_rfl) (by exact rfl) (by kernel_rfl) (len_en _ (vpad 32 0 t31.2)) (one_en (fun _=>rfl) _) (hl_of (Sub4.trans (Sub4.all _) (Sub4.skip (n:=1) (len1 _) (Sub4.skip (n:=1) (len1 _) (Sub4.skip (n:=1) (len1 _) (Sub4.skip (n:=1) (len1 _) (Sub4.all _)))))) (len_eq (len_en _ (vpad 32 0 t31.2)) (len_en _ (vrep 32 (0:Int))))) (cs' := ([Value.int .i64 (IntKind.wrap .i64 t13.1)]++([Value.int .i64 (IntKind.wrap .i64 t25.1)]++([Value.int .i64 (IntKind.wrap .i64 t19.1)]++([Value.int .u32 (IntKind.wrap .u32 t31.1)]++en (Value.int .u8) (vpad 32 0 t31.2).1))))) (splc_in (Sub4.all _) (splc_skip (n:=1) (len1 _) (splc_skip (n:=1) (len1 _) (splc_skip (n:=1) (len1 _) (splc_skip (n:=1) (len1 _) (splc_all (len_eq (len_en _ (vpad 32 0 t31.2)) (len_en _ (vrep 32 (0:Int))))))))) (splc_all (len_eq (len_app (len1 _) (len_app (len1 _) (len_app (len1 _) (len_app (len1 _) (len_en _ (vpad 32 0 t31.2)))))) (len_app (len1 _) (len_app (len1 _) (len_app (len1 _) (len_app (len1 _) (len_en _ (vrep 32 (0:Int))))))))) (hl_of (Sub4.skip (n:=1) (len1 _) (Sub4.skip (n:=1) (len1 _) (Sub4.skip (n:=1) (len1 _) (Sub4.skip (n:=1) (len1 _) (Sub4.all _))))) (len_eq (len_en _ (vpad 32 0 t31.2)) (len_en _ (vrep 32 (0:Int)))))) ?_
 refine ls_end ?_
 refine qn_then ?_
 refine cs_seq ?_
 refine cs_seq ?_
 refine cs_region (l:=[_,_,_,_,_,_,_,_]) ?_
 refine ls_loadagg (a:=⟨g2,0,none⟩) (sub:=([Value.int .i64 (IntKind.wrap .i64 t13.1)]++([Value.int .i64 (IntKind.wrap .i64 t25.1)]++([Value.int .i64 (IntKind.wrap .i64 t19.1)]++([Value.int .u32 (IntKind.wrap .u32 t31.1)]++en (Value.int .u8) (vpad 32 0 t31.2).1))))) rfl rfl (by kernel_rfl) rfl (by kernel_rfl) (by kernel_rfl) (by kernel_rfl) (len_app (len1 _) (len_app (len1 _) (len_app (len1 _) (len_app (len1 _) (len_en _ (vpad 32 0 t31.2)))))) (fun w hs=>(hs.vars (k:=1) (by exact rfl) (Sub4.all _))) ?_
 obtain ⟨t40,hc41,H⟩ := bind_some H
 refine ls_callb (fid:=91) (vals:=#[.agg ⟨([Value.int .i64 (IntKind.wrap .i64 t13.1)]++([Value.int .i64 (IntKind.wrap .i64 t25.1)]++([Value.int .i64 (IntKind.wrap .i64 t19.1)]++([Value.int .u32 (IntKind.wrap .u32 t31.1)]++en (Value.int .u8) (vpad 32 0 t31.2).1))))⟩]) (X:=Unit) (fun x=>.bool t40) (fun x=>stl []) [] [] [] [] 2 rfl rfl (by kernel_rfl) (fun w=>by kernel_rfl) trivial trivial (by decide) (fun w hs hb=>pointer_None.calls k (IntKind.wrap .i64 t13.1,IntKind.wrap .i64 t25.1,IntKind.wrap .i64 t19.1,IntKind.wrap .u32 t31.1,(vpad 32 0 t31.2)) t40 (lent b w [] []) hb  hc41) ?_
 intro x42
 refine lv (.bool (!t40)) ?_
 refine lv (.bool (!t40)) ?_
 by_cases q43:t40=true
 ·replace H := ite_t q43 H
  refine ls_know (c:=false) (congrArg Bool.not (q43)) 35 (by kernel_rfl) ?_
  refine lofx 3 35 true false ?_
  refine lofx 3 35 true false ?_
  refine lofx 3 35 true false ?_
  refine lv (.bool false) ?_
  refine ls_end ?_
  refine qn_then ?_
  refine cs_false (by kernel_rfl) ?_
  refine cs_skip' ?_
  refine qn_then ?_
  refine cs_seq ?_
  refine cs_region (l:=[_,_,_]) ?_
  refine ls_loadagg (a:=⟨g2,0,none⟩) (sub:=([Value.int .i64 (IntKind.wrap .i64 t13.1)]++([Value.int .i64 (IntKind.wrap .i64 t25.1)]++([Value.int .i64 (IntKind.wrap .i64 t19.1)]++([Value.int .u32 (IntKind.wrap .u32 t31.1)]++en (Value.int .u8) (vpad 32 0 t31.2).1))))) rfl rfl (by kernel_rfl) rfl (by kernel_rfl) (by kernel_rfl) (by kernel_rfl) (len_app (len1 _) (len_app (len1 _) (len_app (len1 _) (len_app (len1 _) (len_en _ (vpad 32 0 t31.2)))))) (fun w hs=>(hs.vars (k:=1) (by exact rfl) (Sub4.all _))) ?_
  refine ls_storec (g:=g2) (off:=0) (v:=.agg ⟨([Value.int .i64 (IntKind.wrap .i64 t13.1)]++([Value.int .i64 (IntKind.wrap .i64 t25.1)]++([Value.int .i64 (IntKind.wrap .i64 t19.1)]++([Value.int .u32 (IntKind.wrap .u32 t31.1)]++en (Value.int .u8) (vpad 32 0 t31.2).1))))⟩) (vs:=([Value.int .i64 (IntKind.wrap .i64 t13.1)]++([Value.int .i64 (IntKind.wrap .i64 t25.1)]++([Value.int .i64 (IntKind.wrap .i64 t19.1)]++([Value.int .u32 (IntKind.wrap .u32 t31.1)]++en (Value.int .u8) (vpad 32 0 t31.2).1))))) (cs:=([Value.int .i64 (IntKind.wrap .i64 t13.1)]++([Value.int .i64 (IntKind.wrap .i64 t25.1)]++([Value.int .i64 (IntKind.wrap .i64 t19.1)]++([Value.int .u32 (IntKind.wrap .u32 t31.1)]++en (Value.int .u8) (vpad 32 0 t31.2).1))))) (ty:=44) 1 rfl rfl rfl (by kernel_rfl) (by kernel_rfl) (by kernel_rfl) (by exact rfl) (by kernel_rfl) (len_app (len1 _) (len_app (len1 _) (len_app (len1 _) (len_app (len1 _) (len_en _ (vpad 32 0 t31.2)))))) (one_app (one_cons rfl one_nil) (one_app (one_cons rfl one_nil) (one_app (one_cons rfl one_nil) (one_app (one_cons rfl one_nil) (one_en (fun _=>rfl) _))))) (hl_of (Sub4.all _) (len_eq (len_app (len1 _) (len_app (len1 _) (len_app (len1 _) (len_app (len1 _) (len_en _ (vpad 32 0 t31.2)))))) (len_app (len1 _) (len_app (len1 _) (len_app (len1 _) (len_app (len1 _) (len_en _ (vpad 32 0 t31.2)))))))) (cs' := ([Value.int .i64 (IntKind.wrap .i64 t13.1)]++([Value.int .i64 (IntKind.wrap .i64 t25.1)]++([Value.int .i64 (IntKind.wrap .i64 t19.1)]++([Value.int .u32 (IntKind.wrap .u32 t31.1)]++en (Value.int .u8) (vpad 32 0 t31.2).1))))) (splc_all (len_eq (len_app (len1 _) (len_app (len1 _) (len_app (len1 _) (len_app (len1 _) (len_en _ (vpad 32 0 t31.2)))))) (len_app (len1 _) (len_app (len1 _) (len_app (len1 _) (len_app (len1 _) (len_en _ (vpad 32 0 t31.2)))))))) ?_
  refine lv (.int .i64 (0:Int)) ?_
  refine ls_end ?_
  refine qn_then ?_
  refine cs_ret' ?_
  obtain rfl := Option.some.inj H
  refine qr_res (rs:=[_,_]) rfl (fun w' hs=>⟨[.agg ⟨([Value.int .i64 (IntKind.wrap .i64 t13.1)]++([Value.int .i64 (IntKind.wrap .i64 t25.1)]++([Value.int .i64 (IntKind.wrap .i64 t19.1)]++([Value.int .u32 (IntKind.wrap .u32 t31.1)]++en (Value.int .u8) (vpad 32 0 t31.2).1))))⟩,.int .i64 (0:Int)],(.cell (by kernel_rfl) (run_cellres (by kernel_rfl) (by kernel_rfl) (len_app (len1 _) (len_app (len1 _) (len_app (len1 _) (len_app (len1 _) (len_en _ (vpad 32 0 t31.2)))))) (hs.holds 1 _ (by exact rfl))) (res_tmp (by kernel_rfl) (.nil))),(),rfl,hs.pick (ts:=[]) (cs:=[]) trivial (by decide)⟩)
 replace H := ite_f q43 H
 refine ls_know (c:=true) (congrArg Bool.not (Bool.eq_false_iff.mpr q43)) 35 (by kernel_rfl) ?_
 refine ls_on (j:=3) (t:=35) (b:=true) rfl rfl (by kernel_rfl) (by kernel_rfl) ?_
 refine ls_loadagg (a:=⟨g2,0,none⟩) (sub:=([Value.int .i64 (IntKind.wrap .i64 t13.1)]++([Value.int .i64 (IntKind.wrap .i64 t25.1)]++([Value.int .i64 (IntKind.wrap .i64 t19.1)]++([Value.int .u32 (IntKind.wrap .u32 t31.1)]++en (Value.int .u8) (vpad 32 0 t31.2).1))))) rfl rfl (by kernel_rfl) rfl (by kernel_rfl) (by kernel_rfl) (by kernel_rfl) (len_app (len1 _) (len_app (len1 _) (len_app (len1 _) (len_app (len1 _) (len_en _ (vpad 32 0 t31.2)))))) (fun w hs=>(hs.vars (k:=1) (by exact rfl) (Sub4.all _))) ?_
 refine ls_on (j:=3) (t:=35) (b:=true) rfl rfl (by kernel_rfl) (by kernel_rfl) ?_
 obtain ⟨t44,hc45,H⟩ := bind_some H
 refine ls_callb (fid:=72) (vals:=#[.agg ⟨([Value.int .i64 (IntKind.wrap .i64 t13.1)]++([Value.int .i64 (IntKind.wrap .i64 t25.1)]++([Value.int .i64 (IntKind.wrap .i64 t19.1)]++([Value.int .u32 (IntKind.wrap .u32 t31.1)]++en (Value.int .u8) (vpad 32 0 t31.2).1))))⟩]) (X:=Unit) (fun x=>.bool t44) (fun x=>stl []) [] [] [] [] 2 rfl rfl (by kernel_rfl) (fun w=>by kernel_rfl) trivial trivial (by decide) (fun w hs hb=>pointer_Right.calls k (IntKind.wrap .i64 t13.1,IntKind.wrap .i64 t25.1,IntKind.wrap .i64 t19.1,IntKind.wrap .u32 t31.1,(vpad 32 0 t31.2)) t44 (lent b w [] []) hb  hc45) ?_
 intro x46
 refine ls_on (j:=3) (t:=35) (b:=true) rfl rfl (by kernel_rfl) (by kernel_rfl) ?_
 refine lv (.bool (!t44)) ?_
 refine lv (.bool (!t44)) ?_
 refine ls_end ?_
 refine qn_then ?_
 by_cases q47:t44=true
 ·replace H := ite_t q47 H
  refine cs_know (c:=false) (congrArg Bool.not (q47)) 39 (by kernel_rfl) ?_
  refine cs_false (by kernel_rfl) ?_
  refine cs_skip' ?_
  refine qn_then ?_
  refine cs_seq ?_
  refine cs_region (l:=[_,_,_]) ?_
  refine ls_loadagg (a:=⟨g2,0,none⟩) (sub:=([Value.int .i64 (IntKind.wrap .i64 t13.1)]++([Value.int .i64 (IntKind.wrap .i64 t25.1)]++([Value.int .i64 (IntKind.wrap .i64 t19.1)]++([Value.int .u32 (IntKind.wrap .u32 t31.1)]++en (Value.int .u8) (vpad 32 0 t31.2).1))))) rfl rfl (by kernel_rfl) rfl (by kernel_rfl) (by kernel_rfl) (by kernel_rfl) (len_app (len1 _) (len_app (len1 _) (len_app (len1 _) (len_app (len1 _) (len_en _ (vpad 32 0 t31.2)))))) (fun w hs=>(hs.vars (k:=1) (by exact rfl) (Sub4.all _))) ?_
  refine ls_storec (g:=g2) (off:=0) (v:=.agg ⟨([Value.int .i64 (IntKind.wrap .i64 t13.1)]++([Value.int .i64 (IntKind.wrap .i64 t25.1)]++([Value.int .i64 (IntKind.wrap .i64 t19.1)]++([Value.int .u32 (IntKind.wrap .u32 t31.1)]++en (Value.int .u8) (vpad 32 0 t31.2).1))))⟩) (vs:=([Value.int .i64 (IntKind.wrap .i64 t13.1)]++([Value.int .i64 (IntKind.wrap .i64 t25.1)]++([Value.int .i64 (IntKind.wrap .i64 t19.1)]++([Value.int .u32 (IntKind.wrap .u32 t31.1)]++en (Value.int .u8) (vpad 32 0 t31.2).1))))) (cs:=([Value.int .i64 (IntKind.wrap .i64 t13.1)]++([Value.int .i64 (IntKind.wrap .i64 t25.1)]++([Value.int .i64 (IntKind.wrap .i64 t19.1)]++([Value.int .u32 (IntKind.wrap .u32 t31.1)]++en (Value.int .u8) (vpad 32 0 t31.2).1))))) (ty:=44) 1 rfl rfl rfl (by kernel_rfl) (by kernel_rfl) (by kernel_rfl) (by exact rfl) (by kernel_rfl) (len_app (len1 _) (len_app (len1 _) (len_app (len1 _) (len_app (len1 _) (len_en _ (vpad 32 0 t31.2)))))) (one_app (one_cons rfl one_nil) (one_app (one_cons rfl one_nil) (one_app (one_cons rfl one_nil) (one_app (one_cons rfl one_nil) (one_en (fun _=>rfl) _))))) (hl_of (Sub4.all _) (len_eq (len_app (len1 _) (len_app (len1 _) (len_app (len1 _) (len_app (len1 _) (len_en _ (vpad 32 0 t31.2)))))) (len_app (len1 _) (len_app (len1 _) (len_app (len1 _) (len_app (len1 _) (len_en _ (vpad 32 0 t31.2)))))))) (cs' := ([Value.int .i64 (IntKind.wrap .i64 t13.1)]++([Value.int .i64 (IntKind.wrap .i64 t25.1)]++([Value.int .i64 (IntKind.wrap .i64 t19.1)]++([Value.int .u32 (IntKind.wrap .u32 t31.1)]++en (Value.int .u8) (vpad 32 0 t31.2).1))))) (splc_all (len_eq (len_app (len1 _) (len_app (len1 _) (len_app (len1 _) (len_app (len1 _) (len_en _ (vpad 32 0 t31.2)))))) (len_app (len1 _) (len_app (len1 _) (len_app (len1 _) (len_app (len1 _) (len_en _ (vpad 32 0 t31.2)))))))) ?_
  refine lv (.int .i64 (0:Int)) ?_
  refine ls_end ?_
  refine qn_then ?_
  refine cs_ret' ?_
  obtain rfl := Option.some.inj H
  refine qr_res (rs:=[_,_]) rfl (fun w' hs=>⟨[.agg ⟨([Value.int .i64 (IntKind.wrap .i64 t13.1)]++([Value.int .i64 (IntKind.wrap .i64 t25.1)]++([Value.int .i64 (IntKind.wrap .i64 t19.1)]++([Value.int .u32 (IntKind.wrap .u32 t31.1)]++en (Value.int .u8) (vpad 32 0 t31.2).1))))⟩,.int .i64 (0:Int)],(.cell (by kernel_rfl) (run_cellres (by kernel_rfl) (by kernel_rfl) (len_app (len1 _) (len_app (len1 _) (len_app (len1 _) (len_app (len1 _) (len_en _ (vpad 32 0 t31.2)))))) (hs.holds 1 _ (by exact rfl))) (res_tmp (by kernel_rfl) (.nil))),(),rfl,hs.pick (ts:=[]) (cs:=[]) trivial (by decide)⟩)
 replace H := ite_f q47 H
 refine cs_know (c:=true) (congrArg Bool.not (Bool.eq_false_iff.mpr q47)) 39 (by kernel_rfl) ?_
 refine cs_true (by kernel_rfl) ?_
 refine cs_seq ?_
 refine cs_region (l:=[_,_,_]) ?_
 refine ls_build (ps:=[]) (pl:=#[(0,1),(1,1),(2,1),(3,1),(4,32)]) (zv:=.agg ⟨([Value.int .i64 (0:Int)]++([Value.int .i64 (0:Int)]++([Value.int .i64 (0:Int)]++([Value.int .u32 (0:Int)]++en (Value.int .u8) (vrep 32 (0:Int)).1))))⟩) (zc:=([Value.int .i64 (0:Int)]++([Value.int .i64 (0:Int)]++([Value.int .i64 (0:Int)]++([Value.int .u32 (0:Int)]++en (Value.int .u8) (vrep 32 (0:Int)).1))))) (r:=([Value.int .i64 (0:Int)]++([Value.int .i64 (0:Int)]++([Value.int .i64 (0:Int)]++([Value.int .u32 (0:Int)]++en (Value.int .u8) (vrep 32 (0:Int)).1))))) rfl rfl (by kernel_rfl) rfl (by kernel_rfl) (by kernel_rfl) (fun w=>by kernel_rfl) (fun w=>by kernel_rfl) rfl fill_nil ?_
 refine ls_storec (g:=g2) (off:=0) (v:=.agg ⟨([Value.int .i64 (0:Int)]++([Value.int .i64 (0:Int)]++([Value.int .i64 (0:Int)]++([Value.int .u32 (0:Int)]++en (Value.int .u8) (vrep 32 (0:Int)).1))))⟩) (vs:=([Value.int .i64 (0:Int)]++([Value.int .i64 (0:Int)]++([Value.int .i64 (0:Int)]++([Value.int .u32 (0:Int)]++en (Value.int .u8) (vrep 32 (0:Int)).1))))) (cs:=([Value.int .i64 (IntKind.wrap .i64 t13.1)]++([Value.int .i64 (IntKind.wrap .i64 t25.1)]++([Value.int .i64 (IntKind.wrap .i64 t19.1)]++([Value.int .u32 (IntKind.wrap .u32 t31.1)]++en (Value.int .u8) (vpad 32 0 t31.2).1))))) (ty:=44) 1 rfl rfl rfl (by kernel_rfl) (by kernel_rfl) (by kernel_rfl) (by exact rfl) (by kernel_rfl) (len_app (len1 _) (len_app (len1 _) (len_app (len1 _) (len_app (len1 _) (len_en _ (vrep 32 (0:Int))))))) (one_app (one_cons rfl one_nil) (one_app (one_cons rfl one_nil) (one_app (one_cons rfl one_nil) (one_app (one_cons rfl one_nil) (one_en (fun _=>rfl) _))))) (hl_of (Sub4.all _) (len_eq (len_app (len1 _) (len_app (len1 _) (len_app (len1 _) (len_app (len1 _) (len_en _ (vrep 32 (0:Int))))))) (len_app (len1 _) (len_app (len1 _) (len_app (len1 _) (len_app (len1 _) (len_en _ (vpad 32 0 t31.2)))))))) (cs' := ([Value.int .i64 (0:Int)]++([Value.int .i64 (0:Int)]++([Value.int .i64 (0:Int)]++([Value.int .u32 (0:Int)]++en (Value.int .u8) (vrep 32 (0:Int)).1))))) (splc_all (len_eq (len_app (len1 _) (len_app (len1 _) (len_app (len1 _) (len_app (len1 _) (len_en _ (vrep 32 (0:Int))))))) (len_app (len1 _) (len_app (len1 _) (len_app (len1 _) (len_app (len1 _) (len_en _ (vpad 32 0 t31.2)))))))) ?_
 refine lv (.int .i64 (11:Int)) ?_
 refine ls_end ?_
 refine qn_then ?_
 refine cs_ret' ?_
 refine qr_then ?_
 obtain rfl := Option.some.inj H
 refine qr_res (rs:=[_,_]) rfl (fun w' hs=>⟨[.agg ⟨([Value.int .i64 (0:Int)]++([Value.int .i64 (0:Int)]++([Value.int .i64 (0:Int)]++([Value.int .u32 (0:Int)]++en (Value.int .u8) (vrep 32 (0:Int)).1))))⟩,.int .i64 (11:Int)],(.cell (by kernel_rfl) (run_cellres (by kernel_rfl) (by kernel_rfl) (len_app (len1 _) (len_app (len1 _) (len_app (len1 _) (len_app (len1 _) (len_en _ (vrep 32 (0:Int))))))) (hs.holds 1 _ (by exact rfl))) (res_tmp (by kernel_rfl) (.nil))),(),rfl,hs.pick (ts:=[]) (cs:=[]) trivial (by decide)⟩)
def leaf_reader_kid.f (k:Nat) (v0:((List Int) × Bool)):Option (PT × ((List Int) × Bool)) :=
  (pointer_Read.f k v0.1).bind fun t2=>(if t2.2=(0:Int) then (if (52:Int)≤(v0.1.length:Int) then lt (v0.1.drop ((52:Int)).toNat) fun xl12=>some (t2.1,(xl12,v0.2)) else none) else some (t2.1,(v0.1,true)))
theorem leaf_reader_kid.calls (k:Nat) (pg0:Nat) (A0_0:Option Addr) (c0_0:Nat) (v0:((List Int) × Bool)) (r:PT × ((List Int) × Bool)) (b:Bs) (hs0:St b (stl [Ck.var 74 pg0 (([Value.slice A0_0 v0.1.length c0_0]++[Value.bool v0.2]))]) b.w) (R0_0:Ro b A0_0 (em (Ec.int 5 .u8) v0.1)) (C0_0:v0.1.length≤c0_0) (H:leaf_reader_kid.f k v0=some r) :
    Calls Try.prog 34 #[.pointer (some ⟨pg0,0,none⟩)] b.w fun e w'=>∃ x:(Option Addr × Nat),e=.returned (.agg ⟨([Value.int .i64 r.1.1]++([Value.int .i64 r.1.2.1]++([Value.int .i64 r.1.2.2.1]++([Value.int .u32 r.1.2.2.2.1]++en (Value.int .u8) r.1.2.2.2.2.1))))⟩)∧((Ro b x.1 (em (Ec.int 5 .u8) r.2.1)∧r.2.1.length≤x.2))∧St b (stl [Ck.var 74 pg0 (([Value.slice x.1 r.2.1.length x.2]++[Value.bool r.2.2]))]) w' := by
 unfold leaf_reader_kid.f at H
 refine enterb (n:=28) Try.func34 rfl (by kernel_rfl) (by kernel_rfl) hs0 ?_
 refine cs_sub (sput s0 0 (some (Ck.var 74 pg0 (([Value.slice A0_0 v0.1.length c0_0]++[Value.bool v0.2]))))) (sub_put (by exact rfl) (sub_nil _)) ?_
 refine cs_seq ?_
 refine cs_region (l:=[_]) ?_
 refine ls_new rfl rfl (by kernel_rfl) 1 (fun g=>.pointer (some ⟨g,0,none⟩)) (.cells ⟨([Value.int .i64 (0:Int)]++([Value.int .i64 (0:Int)]++([Value.int .i64 (0:Int)]++([Value.int .u32 (0:Int)]++en (Value.int .u8) (vrep 32 (0:Int)).1))))⟩ 44) (fun w=>by kernel_rfl) ?_
 intro g1
 refine ls_end ?_
 refine qn_then ?_
 refine cs_seq ?_
 refine cs_region (l:=[_,_,_,_,_,_,_,_,_,_,_]) ?_
 refine lv (.pointer (some ⟨pg0,0,none⟩)) ?_
 refine lv (.pointer (some ⟨pg0,0,none⟩)) ?_
 refine lv (.pointer (some ⟨pg0,(0+0),none⟩)) ?_
 refine ls_load (a0:=⟨pg0,(0+0),none⟩) (v:=.slice A0_0 v0.1.length c0_0) (de:=(TypeDesc.slice 5)) rfl rfl (by kernel_rfl) rfl (by kernel_rfl) (by kernel_rfl) (by kernel_rfl) (fun w hs=>(hs.var (k:=0) (by exact rfl) (Sub4.trans (Sub4.all _) (Sub4.head _ _)))) ?_
 obtain ⟨t2,hc3,H⟩ := bind_some H
 refine ls_callb (fid:=59) (vals:=#[.slice A0_0 v0.1.length c0_0]) (X:=Unit) (fun x=>.tuple #[.agg ⟨([Value.int .i64 t2.1.1]++([Value.int .i64 t2.1.2.1]++([Value.int .i64 t2.1.2.2.1]++([Value.int .u32 t2.1.2.2.2.1]++en (Value.int .u8) t2.1.2.2.2.2.1))))⟩,.int .i64 t2.2]) (fun x=>stl []) [] [] [] [] 2 rfl rfl (by kernel_rfl) (fun w=>by kernel_rfl) trivial trivial (by decide) (fun w hs hb=>pointer_Read.calls k A0_0 c0_0 v0.1 t2 (lent b w [] []) hb (hs.ro R0_0 _ _) C0_0 hc3) ?_
 intro x4
 refine lv (.tuple #[.agg ⟨([Value.int .i64 t2.1.1]++([Value.int .i64 t2.1.2.1]++([Value.int .i64 t2.1.2.2.1]++([Value.int .u32 t2.1.2.2.2.1]++en (Value.int .u8) t2.1.2.2.2.2.1))))⟩,.int .i64 t2.2]) ?_
 refine lv (.agg ⟨([Value.int .i64 t2.1.1]++([Value.int .i64 t2.1.2.1]++([Value.int .i64 t2.1.2.2.1]++([Value.int .u32 t2.1.2.2.2.1]++en (Value.int .u8) t2.1.2.2.2.2.1))))⟩) ?_
 refine lv (.int .i64 t2.2) ?_
 refine ls_new rfl rfl (by kernel_rfl) 2 (fun g=>.pointer (some ⟨g,0,none⟩)) (.cells ⟨([Value.int .i64 (0:Int)]++([Value.int .i64 (0:Int)]++([Value.int .i64 (0:Int)]++([Value.int .u32 (0:Int)]++en (Value.int .u8) (vrep 32 (0:Int)).1))))⟩ 44) (fun w=>by kernel_rfl) ?_
 intro g5
 refine ls_storec (g:=g5) (off:=0) (v:=.agg ⟨([Value.int .i64 t2.1.1]++([Value.int .i64 t2.1.2.1]++([Value.int .i64 t2.1.2.2.1]++([Value.int .u32 t2.1.2.2.2.1]++en (Value.int .u8) t2.1.2.2.2.2.1))))⟩) (vs:=([Value.int .i64 t2.1.1]++([Value.int .i64 t2.1.2.1]++([Value.int .i64 t2.1.2.2.1]++([Value.int .u32 t2.1.2.2.2.1]++en (Value.int .u8) t2.1.2.2.2.2.1))))) (cs:=([Value.int .i64 (0:Int)]++([Value.int .i64 (0:Int)]++([Value.int .i64 (0:Int)]++([Value.int .u32 (0:Int)]++en (Value.int .u8) (vrep 32 (0:Int)).1))))) (ty:=44) 2 rfl rfl rfl (by kernel_rfl) (by kernel_rfl) (by kernel_rfl) (by exact rfl) (by kernel_rfl) (len_app (len1 _) (len_app (len1 _) (len_app (len1 _) (len_app (len1 _) (len_en _ t2.1.2.2.2.2))))) (one_app (one_cons rfl one_nil) (one_app (one_cons rfl one_nil) (one_app (one_cons rfl one_nil) (one_app (one_cons rfl one_nil) (one_en (fun _=>rfl) _))))) (hl_of (Sub4.all _) (len_eq (len_app (len1 _) (len_app (len1 _) (len_app (len1 _) (len_app (len1 _) (len_en _ t2.1.2.2.2.2))))) (len_app (len1 _) (len_app (len1 _) (len_app (len1 _) (len_app (len1 _) (len_en _ (vrep 32 (0:Int))))))))) (cs' := ([Value.int .i64 t2.1.1]++([Value.int .i64 t2.1.2.1]++([Value.int .i64 t2.1.2.2.1]++([Value.int .u32 t2.1.2.2.2.1]++en (Value.int .u8) t2.1.2.2.2.2.1))))) (splc_all (len_eq (len_app (len1 _) (len_app (len1 _) (len_app (len1 _) (len_app (len1 _) (len_en _ t2.1.2.2.2.2))))) (len_app (len1 _) (len_app (len1 _) (len_app (len1 _) (len_app (len1 _) (len_en _ (vrep 32 (0:Int))))))))) ?_
 refine lv (.int .i64 t2.2) ?_
 refine ls_end ?_
 refine qn_then ?_
 refine cs_seq ?_
 refine cs_seq ?_
 refine cs_region (l:=[_,_]) ?_
 refine lv (.int .i64 t2.2) ?_
 refine lv (.bool (!decide (t2.2=(0:Int)))) ?_
 refine ls_end ?_
 refine qn_then ?_
 by_cases q6:t2.2=(0:Int)
 ·replace H := ite_t q6 H
  refine cs_know (c:=false) (congrArg Bool.not (dec_t q6)) 14 (by kernel_rfl) ?_
  refine cs_false (by kernel_rfl) ?_
  refine cs_skip' ?_
  refine qn_then ?_
  refine cs_seq ?_
  refine cs_region (l:=[_,_,_,_,_,_,_,_,_]) ?_
  refine lv (.pointer (some ⟨pg0,0,none⟩)) ?_
  refine lv (.pointer (some ⟨pg0,0,none⟩)) ?_
  refine lv (.pointer (some ⟨pg0,0,none⟩)) ?_
  refine lv (.pointer (some ⟨pg0,(0+0),none⟩)) ?_
  refine ls_load (a0:=⟨pg0,(0+0),none⟩) (v:=.slice A0_0 v0.1.length c0_0) (de:=(TypeDesc.slice 5)) rfl rfl (by kernel_rfl) rfl (by kernel_rfl) (by kernel_rfl) (by kernel_rfl) (fun w hs=>(hs.var (k:=0) (by exact rfl) (Sub4.trans (Sub4.all _) (Sub4.head _ _)))) ?_
  obtain ⟨q7,H⟩ := ite_need H
  obtain ⟨xl12,hy13,H⟩ := lt_some H
  have hz15:((52:Int)).toNat≤v0.1.length := by omega
  have hz16:v0.1.length≤v0.1.length := by omega
  obtain ⟨xA8,xc9,he14,xC11,xR10⟩ := cut_at (A:=A0_0) (c:=c0_0) (l:=v0.1) (Ec.int 5 .u8) (((52:Int)).toNat) v0.1.length hz15 hz16 C0_0 R0_0 (m:=xl12) (by rw [← hy13] <;> simp) (z:=1) rfl
  refine ls_cutv (A:=A0_0) (c:=c0_0) (m:=v0.1.length) (z:=1) (e:=5) (a:=((52:Int)).toNat) (b:=v0.1.length) rfl rfl (by kernel_rfl) rfl (by kernel_rfl) (by kernel_rfl) (by kernel_rfl) (.inr ⟨.i64,by rw [Int.toNat_of_nonneg (by first | assumption | omega)]; kernel_rfl⟩) (.inl ⟨rfl,rfl⟩) hz15 hz16 C0_0 he14 ?_
  refine lv (.pointer (some ⟨pg0,0,none⟩)) ?_
  refine lv (.pointer (some ⟨pg0,(0+0),none⟩)) ?_
  refine ls_storec (g:=pg0) (off:=(0+0)) (v:=.slice xA8 xl12.length xc9) (vs:=[Value.slice xA8 xl12.length xc9]) (cs:=([Value.slice A0_0 v0.1.length c0_0]++[Value.bool v0.2])) (ty:=74) 0 rfl rfl rfl (by kernel_rfl) (by kernel_rfl) (by kernel_rfl) (by exact rfl) (by kernel_rfl) (len1 _) (one_cons rfl one_nil) (hl_of (Sub4.trans (Sub4.all _) (Sub4.head _ _)) (len_eq (len1 _) (len1 _))) (cs' := ([Value.slice xA8 xl12.length xc9]++[Value.bool v0.2])) (splc_in (Sub4.all _) (splc_head (len_eq (len1 _) (len1 _))) (splc_all (len_eq (len_app (len1 _) (len1 _)) (len_app (len1 _) (len1 _)))) (hl_of (Sub4.head _ _) (len_eq (len1 _) (len1 _)))) ?_
  refine ls_end ?_
  refine qn_then ?_
  refine cs_seq ?_
  refine cs_region (l:=[_,_]) ?_
  refine ls_loadagg (a:=⟨g5,0,none⟩) (sub:=([Value.int .i64 t2.1.1]++([Value.int .i64 t2.1.2.1]++([Value.int .i64 t2.1.2.2.1]++([Value.int .u32 t2.1.2.2.2.1]++en (Value.int .u8) t2.1.2.2.2.2.1))))) rfl rfl (by kernel_rfl) rfl (by kernel_rfl) (by kernel_rfl) (by kernel_rfl) (len_app (len1 _) (len_app (len1 _) (len_app (len1 _) (len_app (len1 _) (len_en _ t2.1.2.2.2.2))))) (fun w hs=>(hs.vars (k:=2) (by exact rfl) (Sub4.all _))) ?_
  refine ls_storec (g:=g1) (off:=0) (v:=.agg ⟨([Value.int .i64 t2.1.1]++([Value.int .i64 t2.1.2.1]++([Value.int .i64 t2.1.2.2.1]++([Value.int .u32 t2.1.2.2.2.1]++en (Value.int .u8) t2.1.2.2.2.2.1))))⟩) (vs:=([Value.int .i64 t2.1.1]++([Value.int .i64 t2.1.2.1]++([Value.int .i64 t2.1.2.2.1]++([Value.int .u32 t2.1.2.2.2.1]++en (Value.int .u8) t2.1.2.2.2.2.1))))) (cs:=([Value.int .i64 (0:Int)]++([Value.int .i64 (0:Int)]++([Value.int .i64 (0:Int)]++([Value.int .u32 (0:Int)]++en (Value.int .u8) (vrep 32 (0:Int)).1))))) (ty:=44) 1 rfl rfl rfl (by kernel_rfl) (by kernel_rfl) (by kernel_rfl) (by exact rfl) (by kernel_rfl) (len_app (len1 _) (len_app (len1 _) (len_app (len1 _) (len_app (len1 _) (len_en _ t2.1.2.2.2.2))))) (one_app (one_cons rfl one_nil) (one_app (one_cons rfl one_nil) (one_app (one_cons rfl one_nil) (one_app (one_cons rfl one_nil) (one_en (fun _=>rfl) _))))) (hl_of (Sub4.all _) (len_eq (len_app (len1 _) (len_app (len1 _) (len_app (len1 _) (len_app (len1 _) (len_en _ t2.1.2.2.2.2))))) (len_app (len1 _) (len_app (len1 _) (len_app (len1 _) (len_app (len1 _) (len_en _ (vrep 32 (0:Int))))))))) (cs' := ([Value.int .i64 t2.1.1]++([Value.int .i64 t2.1.2.1]++([Value.int .i64 t2.1.2.2.1]++([Value.int .u32 t2.1.2.2.2.1]++en (Value.int .u8) t2.1.2.2.2.2.1))))) (splc_all (len_eq (len_app (len1 _) (len_app (len1 _) (len_app (len1 _) (len_app (len1 _) (len_en _ t2.1.2.2.2.2))))) (len_app (len1 _) (len_app (len1 _) (len_app (len1 _) (len_app (len1 _) (len_en _ (vrep 32 (0:Int))))))))) ?_
  refine ls_end ?_
  refine qn_then ?_
  refine cs_ret' ?_
  obtain rfl := Option.some.inj H
  refine qr_res (rs:=[_]) rfl (fun w' hs=>⟨[.agg ⟨([Value.int .i64 t2.1.1]++([Value.int .i64 t2.1.2.1]++([Value.int .i64 t2.1.2.2.1]++([Value.int .u32 t2.1.2.2.2.1]++en (Value.int .u8) t2.1.2.2.2.2.1))))⟩],(.cell (by kernel_rfl) (run_cellres (by kernel_rfl) (by kernel_rfl) (len_app (len1 _) (len_app (len1 _) (len_app (len1 _) (len_app (len1 _) (len_en _ t2.1.2.2.2.2))))) (hs.holds 1 _ (by exact rfl))) (.nil)),(xA8,xc9),rfl,⟨xR10,xC11⟩,hs.pick (ts:=[0]) (cs:=[Ck.var 74 pg0 (([Value.slice xA8 xl12.length xc9]++[Value.bool v0.2]))]) ⟨by exact rfl,trivial⟩ (by decide)⟩)
 replace H := ite_f q6 H
 refine cs_know (c:=true) (congrArg Bool.not (dec_f q6)) 14 (by kernel_rfl) ?_
 refine cs_true (by kernel_rfl) ?_
 refine cs_seq ?_
 refine cs_region (l:=[_,_,_,_]) ?_
 refine lv (.pointer (some ⟨pg0,0,none⟩)) ?_
 refine lv (.pointer (some ⟨pg0,0,none⟩)) ?_
 refine lv (.pointer (some ⟨pg0,(0+1),none⟩)) ?_
 refine ls_storec (g:=pg0) (off:=(0+1)) (v:=.bool true) (vs:=[Value.bool true]) (cs:=([Value.slice A0_0 v0.1.length c0_0]++[Value.bool v0.2])) (ty:=74) 0 rfl rfl rfl (by kernel_rfl) (by kernel_rfl) (by kernel_rfl) (by exact rfl) (by kernel_rfl) (len1 _) (one_cons rfl one_nil) (hl_of (Sub4.trans (Sub4.all _) (Sub4.skip (n:=1) (len1 _) (Sub4.all _))) (len_eq (len1 _) (len1 _))) (cs' := ([Value.slice A0_0 v0.1.length c0_0]++[Value.bool true])) (splc_in (Sub4.all _) (splc_skip (n:=1) (len1 _) (splc_all (len_eq (len1 _) (len1 _)))) (splc_all (len_eq (len_app (len1 _) (len1 _)) (len_app (len1 _) (len1 _)))) (hl_of (Sub4.skip (n:=1) (len1 _) (Sub4.all _)) (len_eq (len1 _) (len1 _)))) ?_
 refine ls_end ?_
 refine qn_then ?_
 refine cs_seq ?_
 refine cs_region (l:=[_,_]) ?_
 refine ls_loadagg (a:=⟨g5,0,none⟩) (sub:=([Value.int .i64 t2.1.1]++([Value.int .i64 t2.1.2.1]++([Value.int .i64 t2.1.2.2.1]++([Value.int .u32 t2.1.2.2.2.1]++en (Value.int .u8) t2.1.2.2.2.2.1))))) rfl rfl (by kernel_rfl) rfl (by kernel_rfl) (by kernel_rfl) (by kernel_rfl) (len_app (len1 _) (len_app (len1 _) (len_app (len1 _) (len_app (len1 _) (len_en _ t2.1.2.2.2.2))))) (fun w hs=>(hs.vars (k:=2) (by exact rfl) (Sub4.all _))) ?_
 refine ls_storec (g:=g1) (off:=0) (v:=.agg ⟨([Value.int .i64 t2.1.1]++([Value.int .i64 t2.1.2.1]++([Value.int .i64 t2.1.2.2.1]++([Value.int .u32 t2.1.2.2.2.1]++en (Value.int .u8) t2.1.2.2.2.2.1))))⟩) (vs:=([Value.int .i64 t2.1.1]++([Value.int .i64 t2.1.2.1]++([Value.int .i64 t2.1.2.2.1]++([Value.int .u32 t2.1.2.2.2.1]++en (Value.int .u8) t2.1.2.2.2.2.1))))) (cs:=([Value.int .i64 (0:Int)]++([Value.int .i64 (0:Int)]++([Value.int .i64 (0:Int)]++([Value.int .u32 (0:Int)]++en (Value.int .u8) (vrep 32 (0:Int)).1))))) (ty:=44) 1 rfl rfl rfl (by kernel_rfl) (by kernel_rfl) (by kernel_rfl) (by exact rfl) (by kernel_rfl) (len_app (len1 _) (len_app (len1 _) (len_app (len1 _) (len_app (len1 _) (len_en _ t2.1.2.2.2.2))))) (one_app (one_cons rfl one_nil) (one_app (one_cons rfl one_nil) (one_app (one_cons rfl one_nil) (one_app (one_cons rfl one_nil) (one_en (fun _=>rfl) _))))) (hl_of (Sub4.all _) (len_eq (len_app (len1 _) (len_app (len1 _) (len_app (len1 _) (len_app (len1 _) (len_en _ t2.1.2.2.2.2))))) (len_app (len1 _) (len_app (len1 _) (len_app (len1 _) (len_app (len1 _) (len_en _ (vrep 32 (0:Int))))))))) (cs' := ([Value.int .i64 t2.1.1]++([Value.int .i64 t2.1.2.1]++([Value.int .i64 t2.1.2.2.1]++([Value.int .u32 t2.1.2.2.2.1]++en (Value.int .u8) t2.1.2.2.2.2.1))))) (splc_all (len_eq (len_app (len1 _) (len_app (len1 _) (len_app (len1 _) (len_app (len1 _) (len_en _ t2.1.2.2.2.2))))) (len_app (len1 _) (len_app (len1 _) (len_app (len1 _) (len_app (len1 _) (len_en _ (vrep 32 (0:Int))))))))) ?_
 refine ls_end ?_
 refine qn_then ?_
 refine cs_ret' ?_
 refine qr_then ?_
 obtain rfl := Option.some.inj H
 refine qr_res (rs:=[_]) rfl (fun w' hs=>⟨[.agg ⟨([Value.int .i64 t2.1.1]++([Value.int .i64 t2.1.2.1]++([Value.int .i64 t2.1.2.2.1]++([Value.int .u32 t2.1.2.2.2.1]++en (Value.int .u8) t2.1.2.2.2.2.1))))⟩],(.cell (by kernel_rfl) (run_cellres (by kernel_rfl) (by kernel_rfl) (len_app (len1 _) (len_app (len1 _) (len_app (len1 _) (len_app (len1 _) (len_en _ t2.1.2.2.2.2))))) (hs.holds 1 _ (by exact rfl))) (.nil)),(A0_0,c0_0),rfl,⟨R0_0,C0_0⟩,hs.pick (ts:=[0]) (cs:=[Ck.var 74 pg0 (([Value.slice A0_0 v0.1.length c0_0]++[Value.bool true]))]) ⟨by exact rfl,trivial⟩ (by decide)⟩)
def bytes_Equal.f (k:Nat) (l0:List Int) (l1:List Int):Option (Bool) :=
  some ((strOfNums l0).toList==(strOfNums l1).toList)
theorem bytes_Equal.calls (k:Nat) (A0:Option Addr) (c0:Nat) (l0:List Int) (A1:Option Addr) (c1:Nat) (l1:List Int) (r:Bool) (b:Bs) (hs0:St b (stl []) b.w) (R0:Ro b A0 (em (Ec.int 5 .u8) l0)) (C0:l0.length≤c0) (R1:Ro b A1 (em (Ec.int 5 .u8) l1)) (C1:l1.length≤c1) (H:bytes_Equal.f k l0 l1=some r) :
    Calls Try.prog 35 #[.slice A0 l0.length c0,.slice A1 l1.length c1] b.w fun e w'=>∃ x:Unit,e=.returned (.bool r)∧St b (stl []) w' := by
 unfold bytes_Equal.f at H
 refine enterb (n:=10) Try.func35 rfl (by kernel_rfl) (by kernel_rfl) hs0 ?_
 refine cs_sub (s0) (sub_nil _) ?_
 refine cs_seq ?_
 refine cs_region (l:=[_]) ?_
 refine lv (.bool false) ?_
 refine ls_end ?_
 refine qn_then ?_
 refine cs_seq ?_
 refine cs_region (l:=[_,_,_,_,_,_]) ?_
 refine lv (.slice A0 l0.length c0) ?_
 refine ls_str (A:=A0) (c:=c0) (e:=5) (l:=l0) rfl rfl (by kernel_rfl) rfl (by kernel_rfl) (by kernel_rfl) (by kernel_rfl) (by kernel_rfl) (fun w hs=>(hs.old R0)) ?_
 refine lv (.slice A1 l1.length c1) ?_
 refine ls_str (A:=A1) (c:=c1) (e:=5) (l:=l1) rfl rfl (by kernel_rfl) rfl (by kernel_rfl) (by kernel_rfl) (by kernel_rfl) (by kernel_rfl) (fun w hs=>(hs.old R1)) ?_
 refine lv (.bool ((strOfNums l0).toList==(strOfNums l1).toList)) ?_
 refine lv (.bool ((strOfNums l0).toList==(strOfNums l1).toList)) ?_
 refine ls_end ?_
 refine qn_then ?_
 refine cs_ret' ?_
 obtain rfl := Option.some.inj H
 refine qr_res (rs:=[_]) rfl (fun w' hs=>⟨[.bool ((strOfNums l0).toList==(strOfNums l1).toList)],(res_tmp (by kernel_rfl) (.nil)),(),rfl,hs.pick (ts:=[]) (cs:=[]) trivial (by decide)⟩)
def leaf_Read.jo2 (k:Nat) (l0:List Int) (m1_2:((List Int) × Bool)) (m2_2:NO):Option (NO × Int) := (if m1_2.2=true then some (((0:Int),([]:List (List Int)),([]:List (List Int)),([]:List PT)),(11:Int)) else (if (m1_2.1.length:Int)=(0:Int) then (leaf_Right.f k (m2_2.1,m2_2.2.1,m2_2.2.2.1,m2_2.2.2.2)).bind fun t12=>(if t12=true then (leaf_Node_bytes.f k (m2_2.1,m2_2.2.1,m2_2.2.2.1,m2_2.2.2.2)).bind fun t16=>(bytes_Equal.f k t16 l0).bind fun t19=>(if t19=true then some ((m2_2.1,m2_2.2.1,m2_2.2.2.1,m2_2.2.2.2),(0:Int)) else some (((0:Int),([]:List (List Int)),([]:List (List Int)),([]:List PT)),(11:Int))) else some (((0:Int),([]:List (List Int)),([]:List (List Int)),([]:List PT)),(11:Int))) else some (((0:Int),([]:List (List Int)),([]:List (List Int)),([]:List PT)),(11:Int))))
def leaf_Read.jo5 (l6_3:List Int) (x19_3:Int) (m1_3:((List Int) × Bool)) (m2_3:NO) (k3:Nat) (lo3:(List Int)→Int→(((List Int) × Bool))→(NO)→Option (NO × Int)):Option (NO × Int) := (leaf_reader_key.f k3 (m1_3.1,m1_3.2) l6_3).bind fun t48=>(if (m2_3.2.1.length+([t48.1]).length)*24≤140737488355328 then (if m2_3.1=(0:Int) then (leaf_reader_text.f k3 (t48.2.1,t48.2.2) (1024:Int)).bind fun t69=>(if (m2_3.2.2.1.length+([t69.1]).length)*24≤140737488355328 then lo3 t48.1 (IntKind.wrap .i64 (x19_3+(1:Int))) (t69.2.1,t69.2.2) (m2_3.1,(m2_3.2.1++[t48.1]),(m2_3.2.2.1++[t69.1]),m2_3.2.2.2) else none) else (leaf_reader_kid.f k3 (t48.2.1,t48.2.2)).bind fun t86=>(if (m2_3.2.2.2.length+([t86.1]).length)*64≤140737488355328 then lo3 t48.1 (IntKind.wrap .i64 (x19_3+(1:Int))) (t86.2.1,t86.2.2) (m2_3.1,(m2_3.2.1++[t48.1]),m2_3.2.2.1,(m2_3.2.2.2++[t86.1])) else none)) else none)
def leaf_Read.jo4 (l6_3:List Int) (x19_3:Int) (m1_3:((List Int) × Bool)) (m2_3:NO) (k3:Nat) (jo2:(((List Int) × Bool))→(NO)→Option (NO × Int)) (lo3:(List Int)→Int→(((List Int) × Bool))→(NO)→Option (NO × Int)):Option (NO × Int) := (if m1_3.2=true then jo2 (m1_3.1,m1_3.2) (m2_3.1,m2_3.2.1,m2_3.2.2.1,m2_3.2.2.2) else (leaf_Read.jo5 l6_3 x19_3 m1_3 m2_3 k3 lo3))
def leaf_Read.lo3 (t42:Int × ((List Int) × Bool)) (jo2:(((List Int) × Bool))→(NO)→Option (NO × Int)):Nat→(List Int)→Int→(((List Int) × Bool))→(NO)→Option (NO × Int)
  | 0,_,_,_,_=>none
  | k3+1,l6_3,x19_3,m1_3,m2_3=>(if x19_3<t42.1 then (leaf_Read.jo4 l6_3 x19_3 m1_3 m2_3 k3 jo2 (leaf_Read.lo3 t42 jo2 k3)) else jo2 (m1_3.1,m1_3.2) (m2_3.1,m2_3.2.1,m2_3.2.2.1,m2_3.2.2.2))
def leaf_Read.jo1 (k:Nat) (l0:List Int):Option (NO × Int) := (leaf_reader_number.f k (l0,false) (12:Int)).bind fun t3=>(leaf_reader_number.f k (t3.2.1,t3.2.2) (4096:Int)).bind fun t42=>leaf_Read.lo3 t42 (leaf_Read.jo2 k l0) k ([]:List Int) (0:Int) (t42.2.1,t42.2.2) (t3.1,([]:List (List Int)),([]:List (List Int)),([]:List PT))
def leaf_Read.f (k:Nat) (l0:List Int):Option (NO × Int) :=
  (if (l0.length:Int) > (4096:Int) then some (((0:Int),([]:List (List Int)),([]:List (List Int)),([]:List PT)),(11:Int)) else (leaf_Read.jo1 k l0))
theorem leaf_Read.calls (k:Nat) (A0:Option Addr) (c0:Nat) (l0:List Int) (r:NO × Int) (b:Bs) (hs0:St b (stl []) b.w) (R0:Ro b A0 (em (Ec.int 5 .u8) l0)) (C0:l0.length≤c0) (H:leaf_Read.f k l0=some r) :
    Calls Try.prog 10 #[.slice A0 l0.length c0] b.w fun e w'=>∃ b',b.le b'∧∃ x:(Option Addr × Nat) × (Option Addr × Nat) × (Option Addr × Nat),e=.returned (.tuple #[.agg ⟨([Value.int .i64 r.1.1]++([Value.slice x.1.1 r.1.2.1.length x.1.2]++([Value.slice x.2.1.1 r.1.2.2.1.length x.2.1.2]++[Value.slice x.2.2.1 r.1.2.2.2.length x.2.2.2])))⟩,.int .i64 r.2])∧((RoS 23 (Ec.int 5 .u8) b' x.1.1 r.1.2.1∧r.1.2.1.length≤x.1.2)∧(RoS 23 (Ec.int 5 .u8) b' x.2.1.1 r.1.2.2.1∧r.1.2.2.1.length≤x.2.1.2)∧(Ro b' x.2.2.1 (em T44 r.1.2.2.2)∧r.1.2.2.2.length≤x.2.2.2))∧St b' (stl []) w' := by
 unfold leaf_Read.f at H
 refine enterb (n:=78) Try.func10 rfl (by kernel_rfl) (by kernel_rfl) hs0 ?_
 refine cs_sub (s0) (sub_nil _) ?_
 refine cs_seq ?_
 refine cs_region (l:=[_,_]) ?_
 refine ls_new rfl rfl (by kernel_rfl) 0 (fun g=>.pointer (some ⟨g,0,none⟩)) (.cells ⟨([Value.int .i64 (0:Int)]++([Value.slice none 0 0]++([Value.slice none 0 0]++[Value.slice none 0 0])))⟩ 27) (fun w=>by kernel_rfl) ?_
 intro g1
 refine lv (.int .i64 (0:Int)) ?_
 refine ls_end ?_
 refine qn_then ?_
 refine cs_cut (fun f S=>∃ (fR:Fr),f=upd (upd fR 0 (.slice A0 l0.length c0)) 2 (.pointer (some ⟨g1,0,none⟩))∧S=sput s0 0 (some (Ck.var 27 g1 (([Value.int .i64 (0:Int)]++([Value.slice none 0 0]++([Value.slice none 0 0]++[Value.slice none 0 0]))))))∧leaf_Read.jo1 k l0=some r) ?_ ?_
 ·skip
  refine cs_seq ?_
  refine cs_region (l:=[_,_,_]) ?_
  refine lv (.slice A0 l0.length c0) ?_
  refine lv (.int .i64 (l0.length:Int)) ?_
  refine lv (.bool (decide ((l0.length:Int) > (4096:Int)))) ?_
  refine ls_end ?_
  refine qn_then ?_
  by_cases q98:(l0.length:Int) > (4096:Int)
  ·replace H := ite_t q98 H
   refine cs_know (c:=true) (dec_t q98) 9 (by kernel_rfl) ?_
   refine cs_true (by kernel_rfl) ?_
   refine cs_seq ?_
   refine cs_region (l:=[_,_,_]) ?_
   refine lv (.agg ⟨([Value.int .i64 (0:Int)]++([Value.slice none 0 0]++([Value.slice none 0 0]++[Value.slice none 0 0])))⟩) ?_
   refine ls_storec (g:=g1) (off:=0) (v:=.agg ⟨([Value.int .i64 (0:Int)]++([Value.slice none 0 0]++([Value.slice none 0 0]++[Value.slice none 0 0])))⟩) (vs:=([Value.int .i64 (0:Int)]++([Value.slice none 0 0]++([Value.slice none 0 0]++[Value.slice none 0 0])))) (cs:=([Value.int .i64 (0:Int)]++([Value.slice none 0 0]++([Value.slice none 0 0]++[Value.slice none 0 0])))) (ty:=27) 0 rfl rfl rfl (by kernel_rfl) (by kernel_rfl) (by kernel_rfl) (by exact rfl) (by kernel_rfl) (len_app (len1 _) (len_app (len1 _) (len_app (len1 _) (len1 _)))) (one_app (one_cons rfl one_nil) (one_app (one_cons rfl one_nil) (one_app (one_cons rfl one_nil) (one_cons rfl one_nil)))) (hl_of (Sub4.all _) (len_eq (len_app (len1 _) (len_app (len1 _) (len_app (len1 _) (len1 _)))) (len_app (len1 _) (len_app (len1 _) (len_app (len1 _) (len1 _)))))) (cs' := ([Value.int .i64 (0:Int)]++([Value.slice none 0 0]++([Value.slice none 0 0]++[Value.slice none 0 0])))) (splc_all (len_eq (len_app (len1 _) (len_app (len1 _) (len_app (len1 _) (len1 _)))) (len_app (len1 _) (len_app (len1 _) (len_app (len1 _) (len1 _)))))) ?_
   refine lv (.int .i64 (11:Int)) ?_
   refine ls_end ?_
   refine qn_then ?_
   refine cs_ret' ?_
   refine qr_then ?_
   obtain rfl := Option.some.inj H
   refine qr_res (rs:=[_,_]) rfl (fun w' hs=>⟨[.agg ⟨([Value.int .i64 (0:Int)]++([Value.slice none 0 0]++([Value.slice none 0 0]++[Value.slice none 0 0])))⟩,.int .i64 (11:Int)],(.cell (by kernel_rfl) (run_cellres (by kernel_rfl) (by kernel_rfl) (len_app (len1 _) (len_app (len1 _) (len_app (len1 _) (len1 _)))) (hs.holds 0 _ (by exact rfl))) (res_tmp (by kernel_rfl) (.nil))),b,(Bs.le.refl b),((none,0),(none,0),(none,0)),rfl,⟨⟨(RoS.nil _ _ _ _),(Nat.zero_le _)⟩,⟨(RoS.nil _ _ _ _),(Nat.zero_le _)⟩,⟨(Ro.nil _ _),(Nat.zero_le _)⟩⟩,hs.pick (ts:=[]) (cs:=[]) trivial (by decide)⟩)
  replace H := ite_f q98 H
  refine cs_know (c:=false) (dec_f q98) 9 (by kernel_rfl) ?_
  refine cs_false (by kernel_rfl) ?_
  refine cs_skip' ?_
  refine qn_meet (sput s0 0 (some (Ck.var 27 g1 (([Value.int .i64 (0:Int)]++([Value.slice none 0 0]++([Value.slice none 0 0]++[Value.slice none 0 0]))))))) ⟨_,fr_next (fr_next (rfl) (by kernel_rfl)) (by kernel_rfl),rfl,H⟩ (sub_put (by exact rfl) (sub_nil _))
 rintro f S ⟨fr1,rfl,rfl,H⟩
 replace H:((leaf_reader_number.f k (l0,false) (12:Int)).bind fun t3=>(leaf_reader_number.f k (t3.2.1,t3.2.2) (4096:Int)).bind fun t42=>leaf_Read.lo3 t42 (leaf_Read.jo2 k l0) k ([]:List Int) (0:Int) (t42.2.1,t42.2.2) (t3.1,([]:List (List Int)),([]:List (List Int)),([]:List PT)))=some r := H
 refine cs_seq ?_
 refine cs_region (l:=[_,_,_,_]) ?_
 refine lv (.slice A0 l0.length c0) ?_
 refine lv (.agg ⟨([Value.slice A0 l0.length c0]++[Value.bool false])⟩) ?_
 refine ls_new rfl rfl (by kernel_rfl) 1 (fun g=>.pointer (some ⟨g,0,none⟩)) (.cells ⟨([Value.slice A0 l0.length c0]++[Value.bool false])⟩ 74) (fun w=>by kernel_rfl) ?_
 intro g2
 refine lv (.pointer (some ⟨g2,0,none⟩)) ?_
 refine ls_end ?_
 refine qn_then ?_
 refine cs_seq ?_
 refine cs_region (l:=[_,_,_,_,_]) ?_
 refine lv (.pointer (some ⟨g2,0,none⟩)) ?_
 obtain ⟨t3,hc4,H⟩ := bind_some H
 refine ls_callg (fid:=31) (vals:=#[.pointer (some ⟨g2,0,none⟩),.int .i64 (12:Int)]) (X:=(Option Addr × Nat)) (fun x=>.int .i64 t3.1) (fun x=>stl [Ck.var 74 g2 (([Value.slice x.1 t3.2.1.length x.2]++[Value.bool t3.2.2]))]) (fun x B=>(Ro B x.1 (em (Ec.int 5 .u8) t3.2.1)∧t3.2.1.length≤x.2)) [1] [Ck.var 74 g2 (([Value.slice A0 l0.length c0]++[Value.bool false]))] 2 rfl rfl (by kernel_rfl) (fun w=>by kernel_rfl) ⟨by exact rfl,trivial⟩ (by decide) (fun x b b' h hf=>⟨h _ _ hf.1,hf.2⟩) (fun w hs hb=>leaf_reader_number.calls k g2 A0 c0 (l0,false) (12:Int) t3 (lent b w [Ck.var 74 g2 (([Value.slice A0 l0.length c0]++[Value.bool false]))] []) hb (hs.ro R0 _ _) C0 hc4) ?_
 intro x5 hf8
 obtain ⟨fR6,fC7⟩ := hf8
 refine lv (.agg ⟨([Value.int .i64 t3.1]++([Value.slice none 0 0]++([Value.slice none 0 0]++[Value.slice none 0 0])))⟩) ?_
 refine ls_new rfl rfl (by kernel_rfl) 2 (fun g=>.pointer (some ⟨g,0,none⟩)) (.cells ⟨([Value.int .i64 (0:Int)]++([Value.slice none 0 0]++([Value.slice none 0 0]++[Value.slice none 0 0])))⟩ 27) (fun w=>by kernel_rfl) ?_
 intro g9
 refine ls_storec (g:=g9) (off:=0) (v:=.agg ⟨([Value.int .i64 t3.1]++([Value.slice none 0 0]++([Value.slice none 0 0]++[Value.slice none 0 0])))⟩) (vs:=([Value.int .i64 t3.1]++([Value.slice none 0 0]++([Value.slice none 0 0]++[Value.slice none 0 0])))) (cs:=([Value.int .i64 (0:Int)]++([Value.slice none 0 0]++([Value.slice none 0 0]++[Value.slice none 0 0])))) (ty:=27) 2 rfl rfl rfl (by kernel_rfl) (by kernel_rfl) (by kernel_rfl) (by exact rfl) (by kernel_rfl) (len_app (len1 _) (len_app (len1 _) (len_app (len1 _) (len1 _)))) (one_app (one_cons rfl one_nil) (one_app (one_cons rfl one_nil) (one_app (one_cons rfl one_nil) (one_cons rfl one_nil)))) (hl_of (Sub4.all _) (len_eq (len_app (len1 _) (len_app (len1 _) (len_app (len1 _) (len1 _)))) (len_app (len1 _) (len_app (len1 _) (len_app (len1 _) (len1 _)))))) (cs' := ([Value.int .i64 t3.1]++([Value.slice none 0 0]++([Value.slice none 0 0]++[Value.slice none 0 0])))) (splc_all (len_eq (len_app (len1 _) (len_app (len1 _) (len_app (len1 _) (len1 _)))) (len_app (len1 _) (len_app (len1 _) (len_app (len1 _) (len1 _)))))) ?_
 refine ls_end ?_
 refine qn_then ?_
 refine cs_seq ?_
 refine cs_region (l:=[_]) ?_
 refine lv (.slice none 0 0) ?_
 refine ls_end ?_
 refine qn_then ?_
 refine cs_nilrow 3 (Ec.sls 23 Int) ?_
 refine cs_nilrow 4 (Ec.sls 23 Int) ?_
 refine cs_nilrow 5 T44 ?_
 refine cs_cutb (fun bh2 f S=>∃ (fR:Fr) (Am1_2_0:Option Addr) (cm1_2_0:Nat) (m1_2:((List Int) × Bool)) (Am2_2_1:Option Addr) (cm2_2_1:Nat) (Lm2_2_1:List (Pl × (List Int))) (Am2_2_2:Option Addr) (cm2_2_2:Nat) (Lm2_2_2:List (Pl × (List Int))) (Am2_2_3:Option Addr) (cm2_2_3:Nat) (m2_2:NO),f=upd (upd (upd (upd fR 0 (.slice A0 l0.length c0)) 2 (.pointer (some ⟨g1,0,none⟩))) 4 (.pointer (some ⟨g2,0,none⟩))) 5 (.pointer (some ⟨g9,0,none⟩))∧S=sput (sput (sput (sput (sput (sput s0 0 (some (Ck.var 27 g1 (([Value.int .i64 (0:Int)]++([Value.slice none 0 0]++([Value.slice none 0 0]++[Value.slice none 0 0]))))))) 1 (some (Ck.var 74 g2 (([Value.slice Am1_2_0 m1_2.1.length cm1_2_0]++[Value.bool m1_2.2]))))) 2 (some (Ck.var 27 g9 (([Value.int .i64 m2_2.1]++([Value.slice Am2_2_1 m2_2.2.1.length cm2_2_1]++([Value.slice Am2_2_2 m2_2.2.2.1.length cm2_2_2]++[Value.slice Am2_2_3 m2_2.2.2.2.length cm2_2_3]))))))) 3 (some (Ck.sl (Ec.sls 23 Int) Am2_2_1 cm2_2_1 Lm2_2_1))) 4 (some (Ck.sl (Ec.sls 23 Int) Am2_2_2 cm2_2_2 Lm2_2_2))) 5 (some (Ck.sl T44 Am2_2_3 cm2_2_3 m2_2.2.2.2))∧Ro bh2 Am1_2_0 (em (Ec.int 5 .u8) m1_2.1)∧m1_2.1.length≤cm1_2_0∧InsC (Ec.int 5 .u8) bh2 Lm2_2_1∧Lm2_2_1.map (·.2)=m2_2.2.1∧InsC (Ec.int 5 .u8) bh2 Lm2_2_2∧Lm2_2_2.map (·.2)=m2_2.2.2.1∧b.le bh2∧Ro bh2 A0 (em (Ec.int 5 .u8) l0)∧leaf_Read.jo2 k l0 m1_2 m2_2=some r) ?_ ?_
 ·skip
  refine cs_seq ?_
  refine cs_region (l:=[_,_,_]) ?_
  refine lv (.pointer (some ⟨g2,0,none⟩)) ?_
  obtain ⟨t42,hc43,H⟩ := bind_some H
  refine ls_callg (fid:=31) (vals:=#[.pointer (some ⟨g2,0,none⟩),.int .i64 (4096:Int)]) (X:=(Option Addr × Nat)) (fun x=>.int .i64 t42.1) (fun x=>stl [Ck.var 74 g2 (([Value.slice x.1 t42.2.1.length x.2]++[Value.bool t42.2.2]))]) (fun x B=>(Ro B x.1 (em (Ec.int 5 .u8) t42.2.1)∧t42.2.1.length≤x.2)) [1] [Ck.var 74 g2 (([Value.slice x5.1 t3.2.1.length x5.2]++[Value.bool t3.2.2]))] 6 rfl rfl (by kernel_rfl) (fun w=>by kernel_rfl) ⟨by exact rfl,trivial⟩ (by decide) (fun x b b' h hf=>⟨h _ _ hf.1,hf.2⟩) (fun w hs hb=>leaf_reader_number.calls k g2 x5.1 x5.2 (t3.2.1,t3.2.2) (4096:Int) t42 (lent b w [Ck.var 74 g2 (([Value.slice x5.1 t3.2.1.length x5.2]++[Value.bool t3.2.2]))] []) hb (hs.ro fR6 _ _) fC7 hc43) ?_
  intro x44 hf47
  obtain ⟨fR45,fC46⟩ := hf47
  refine lv (.int .i64 (0:Int)) ?_
  refine ls_end ?_
  refine qn_then ?_
  refine cs_block ?_
  refine cs_sub (sput (sput (sput (sput (sput (sput s0 0 (some (Ck.var 27 g1 (([Value.int .i64 (0:Int)]++([Value.slice none 0 0]++([Value.slice none 0 0]++[Value.slice none 0 0]))))))) 1 (some (Ck.var 74 g2 (([Value.slice x44.1 t42.2.1.length x44.2]++[Value.bool t42.2.2]))))) 2 (some (Ck.var 27 g9 (([Value.int .i64 t3.1]++([Value.slice none 0 0]++([Value.slice none 0 0]++[Value.slice none 0 0]))))))) 3 (some (Ck.sl (Ec.sls 23 Int) none 0 ([]:List (Pl × (List Int)))))) 4 (some (Ck.sl (Ec.sls 23 Int) none 0 ([]:List (Pl × (List Int)))))) 5 (some (Ck.sl T44 none 0 ([]:List PT)))) (sub_put (by exact rfl) (sub_put (by exact rfl) (sub_put (by exact rfl) (sub_put (by exact rfl) (sub_put (by exact rfl) (sub_put (by exact rfl) (sub_nil _))))))) ?_
  refine cs_loopb (fun kk bh3 f S=>∃ (fR:Fr) (A6_3:Option Addr) (c6_3:Nat) (l6_3:List Int) (x19_3:Int) (Am1_3_0:Option Addr) (cm1_3_0:Nat) (m1_3:((List Int) × Bool)) (Am2_3_1:Option Addr) (cm2_3_1:Nat) (Lm2_3_1:List (Pl × (List Int))) (Am2_3_2:Option Addr) (cm2_3_2:Nat) (Lm2_3_2:List (Pl × (List Int))) (Am2_3_3:Option Addr) (cm2_3_3:Nat) (m2_3:NO),f=upd (upd (upd (upd (upd (upd (upd fR 0 (.slice A0 l0.length c0)) 2 (.pointer (some ⟨g1,0,none⟩))) 4 (.pointer (some ⟨g2,0,none⟩))) 5 (.pointer (some ⟨g9,0,none⟩))) 6 (.slice A6_3 l6_3.length c6_3)) 18 (.int .i64 t42.1)) 19 (.int .i64 x19_3)∧S=sput (sput (sput (sput (sput (sput s0 0 (some (Ck.var 27 g1 (([Value.int .i64 (0:Int)]++([Value.slice none 0 0]++([Value.slice none 0 0]++[Value.slice none 0 0]))))))) 1 (some (Ck.var 74 g2 (([Value.slice Am1_3_0 m1_3.1.length cm1_3_0]++[Value.bool m1_3.2]))))) 2 (some (Ck.var 27 g9 (([Value.int .i64 m2_3.1]++([Value.slice Am2_3_1 m2_3.2.1.length cm2_3_1]++([Value.slice Am2_3_2 m2_3.2.2.1.length cm2_3_2]++[Value.slice Am2_3_3 m2_3.2.2.2.length cm2_3_3]))))))) 3 (some (Ck.sl (Ec.sls 23 Int) Am2_3_1 cm2_3_1 Lm2_3_1))) 4 (some (Ck.sl (Ec.sls 23 Int) Am2_3_2 cm2_3_2 Lm2_3_2))) 5 (some (Ck.sl T44 Am2_3_3 cm2_3_3 m2_3.2.2.2))∧Ro bh3 A6_3 (em (Ec.int 5 .u8) l6_3)∧l6_3.length≤c6_3∧Ro bh3 Am1_3_0 (em (Ec.int 5 .u8) m1_3.1)∧m1_3.1.length≤cm1_3_0∧InsC (Ec.int 5 .u8) bh3 Lm2_3_1∧Lm2_3_1.map (·.2)=m2_3.2.1∧InsC (Ec.int 5 .u8) bh3 Lm2_3_2∧Lm2_3_2.map (·.2)=m2_3.2.2.1∧b.le bh3∧Ro bh3 A0 (em (Ec.int 5 .u8) l0)∧leaf_Read.lo3 t42 (leaf_Read.jo2 k l0) kk l6_3 x19_3 m1_3 m2_3=some r) k ?_ ?_ ?_
  ·exact ⟨_,none,0,([]:List Int),(0:Int),x44.1,x44.2,(t42.2.1,t42.2.2),none,0,([]:List (Pl × (List Int))),none,0,([]:List (Pl × (List Int))),none,0,(t3.1,([]:List (List Int)),([]:List (List Int)),([]:List PT)),fr_next (fr_next (fr_next (fr_next (fr_next (fr_next (fr_next (rfl) (by kernel_rfl)) (by kernel_rfl)) (by kernel_rfl)) (by kernel_rfl)) (by kernel_rfl)) (by kernel_rfl)) (by kernel_rfl),rfl,(Ro.nil _ _),(Nat.zero_le _),fR45,fC46,(InsC.nil _ _),rfl,(InsC.nil _ _),rfl,(Bs.le.refl b),R0,H⟩
  ·rintro bh3 f S ⟨fr3,A6_3,c6_3,l6_3,x19_3,Am1_3_0,cm1_3_0,m1_3,Am2_3_1,cm2_3_1,Lm2_3_1,Am2_3_2,cm2_3_2,Lm2_3_2,Am2_3_3,cm2_3_3,m2_3,rfl,rfl,R6_3,C6_3,Rm1_3_0,Cm1_3_0,Im2_3_1,Em2_3_1,Im2_3_2,Em2_3_2,hleh3,Rb0_3,H⟩; cases H
  rintro k3 bh3 f S ⟨fr3,A6_3,c6_3,l6_3,x19_3,Am1_3_0,cm1_3_0,m1_3,Am2_3_1,cm2_3_1,Lm2_3_1,Am2_3_2,cm2_3_2,Lm2_3_2,Am2_3_3,cm2_3_3,m2_3,rfl,rfl,R6_3,C6_3,Rm1_3_0,Cm1_3_0,Im2_3_1,Em2_3_1,Im2_3_2,Em2_3_2,hleh3,Rb0_3,H⟩
  replace H:((if x19_3<t42.1 then (leaf_Read.jo4 l6_3 x19_3 m1_3 m2_3 k3 (leaf_Read.jo2 k l0) (leaf_Read.lo3 t42 (leaf_Read.jo2 k l0) k3)) else (leaf_Read.jo2 k l0) (m1_3.1,m1_3.2) (m2_3.1,m2_3.2.1,m2_3.2.2.1,m2_3.2.2.2)))=some r := H
  refine cs_seq ?_
  refine cs_region (l:=[_]) ?_
  refine lv (.bool (decide (x19_3<t42.1))) ?_
  refine ls_end ?_
  refine qn_then ?_
  refine cs_cut (fun f S=>∃ (fR:Fr),f=upd (upd (upd (upd (upd (upd (upd fR 0 (.slice A0 l0.length c0)) 2 (.pointer (some ⟨g1,0,none⟩))) 4 (.pointer (some ⟨g2,0,none⟩))) 5 (.pointer (some ⟨g9,0,none⟩))) 6 (.slice A6_3 l6_3.length c6_3)) 18 (.int .i64 t42.1)) 19 (.int .i64 x19_3)∧S=sput (sput (sput (sput (sput (sput s0 0 (some (Ck.var 27 g1 (([Value.int .i64 (0:Int)]++([Value.slice none 0 0]++([Value.slice none 0 0]++[Value.slice none 0 0]))))))) 1 (some (Ck.var 74 g2 (([Value.slice Am1_3_0 m1_3.1.length cm1_3_0]++[Value.bool m1_3.2]))))) 2 (some (Ck.var 27 g9 (([Value.int .i64 m2_3.1]++([Value.slice Am2_3_1 m2_3.2.1.length cm2_3_1]++([Value.slice Am2_3_2 m2_3.2.2.1.length cm2_3_2]++[Value.slice Am2_3_3 m2_3.2.2.2.length cm2_3_3]))))))) 3 (some (Ck.sl (Ec.sls 23 Int) Am2_3_1 cm2_3_1 Lm2_3_1))) 4 (some (Ck.sl (Ec.sls 23 Int) Am2_3_2 cm2_3_2 Lm2_3_2))) 5 (some (Ck.sl T44 Am2_3_3 cm2_3_3 m2_3.2.2.2))∧leaf_Read.jo4 l6_3 x19_3 m1_3 m2_3 k3 (leaf_Read.jo2 k l0) (leaf_Read.lo3 t42 (leaf_Read.jo2 k l0) k3)=some r) ?_ ?_
  ·skip
   by_cases q97:x19_3<t42.1
   ·replace H := ite_t q97 H
    refine cs_know (c:=true) (dec_t q97) 20 (by kernel_rfl) ?_
    refine cs_true (by kernel_rfl) ?_
    refine cs_skip' ?_
    refine qn_meet (sput (sput (sput (sput (sput (sput s0 0 (some (Ck.var 27 g1 (([Value.int .i64 (0:Int)]++([Value.slice none 0 0]++([Value.slice none 0 0]++[Value.slice none 0 0]))))))) 1 (some (Ck.var 74 g2 (([Value.slice Am1_3_0 m1_3.1.length cm1_3_0]++[Value.bool m1_3.2]))))) 2 (some (Ck.var 27 g9 (([Value.int .i64 m2_3.1]++([Value.slice Am2_3_1 m2_3.2.1.length cm2_3_1]++([Value.slice Am2_3_2 m2_3.2.2.1.length cm2_3_2]++[Value.slice Am2_3_3 m2_3.2.2.2.length cm2_3_3]))))))) 3 (some (Ck.sl (Ec.sls 23 Int) Am2_3_1 cm2_3_1 Lm2_3_1))) 4 (some (Ck.sl (Ec.sls 23 Int) Am2_3_2 cm2_3_2 Lm2_3_2))) 5 (some (Ck.sl T44 Am2_3_3 cm2_3_3 m2_3.2.2.2))) ⟨_,fr_next (fr_next (fr_next (fr_next (fr_next (fr_next (fr_next (rfl) (by kernel_rfl)) (by kernel_rfl)) (by kernel_rfl)) (by kernel_rfl)) (by kernel_rfl)) (by kernel_rfl)) (by kernel_rfl),rfl,H⟩ (sub_put (by exact rfl) (sub_put (by exact rfl) (sub_put (by exact rfl) (sub_put (by exact rfl) (sub_put (by exact rfl) (sub_put (by exact rfl) (sub_nil _)))))))
   replace H := ite_f q97 H
   refine cs_know (c:=false) (dec_f q97) 20 (by kernel_rfl) ?_
   refine cs_false (by kernel_rfl) ?_
   refine cs_exit' ?_
   refine qx_then ?_
   refine qx_then ?_
   refine qx_same ?_
   refine qn_meetb (sput (sput (sput (sput (sput (sput s0 0 (some (Ck.var 27 g1 (([Value.int .i64 (0:Int)]++([Value.slice none 0 0]++([Value.slice none 0 0]++[Value.slice none 0 0]))))))) 1 (some (Ck.var 74 g2 (([Value.slice Am1_3_0 m1_3.1.length cm1_3_0]++[Value.bool m1_3.2]))))) 2 (some (Ck.var 27 g9 (([Value.int .i64 m2_3.1]++([Value.slice Am2_3_1 m2_3.2.1.length cm2_3_1]++([Value.slice Am2_3_2 m2_3.2.2.1.length cm2_3_2]++[Value.slice Am2_3_3 m2_3.2.2.2.length cm2_3_3]))))))) 3 (some (Ck.sl (Ec.sls 23 Int) Am2_3_1 cm2_3_1 Lm2_3_1))) 4 (some (Ck.sl (Ec.sls 23 Int) Am2_3_2 cm2_3_2 Lm2_3_2))) 5 (some (Ck.sl T44 Am2_3_3 cm2_3_3 m2_3.2.2.2))) ⟨_,Am1_3_0,cm1_3_0,(m1_3.1,m1_3.2),Am2_3_1,cm2_3_1,Lm2_3_1,Am2_3_2,cm2_3_2,Lm2_3_2,Am2_3_3,cm2_3_3,(m2_3.1,m2_3.2.1,m2_3.2.2.1,m2_3.2.2.2),fr_next (fr_next (fr_next (fr_next (rfl) (by kernel_rfl)) (by kernel_rfl)) (by kernel_rfl)) (by kernel_rfl),rfl,Rm1_3_0,Cm1_3_0,Im2_3_1,Em2_3_1,Im2_3_2,Em2_3_2,hleh3,Rb0_3,H⟩ (sub_put (by exact rfl) (sub_put (by exact rfl) (sub_put (by exact rfl) (sub_put (by exact rfl) (sub_put (by exact rfl) (sub_put (by exact rfl) (sub_nil _)))))))
  rintro f S ⟨fr4,rfl,rfl,H⟩
  replace H:((if m1_3.2=true then (leaf_Read.jo2 k l0) (m1_3.1,m1_3.2) (m2_3.1,m2_3.2.1,m2_3.2.2.1,m2_3.2.2.2) else (leaf_Read.jo5 l6_3 x19_3 m1_3 m2_3 k3 (leaf_Read.lo3 t42 (leaf_Read.jo2 k l0) k3))))=some r := H
  refine cs_seq ?_
  refine cs_block ?_
  refine cs_cut (fun f S=>∃ (fR:Fr),f=upd (upd (upd (upd (upd (upd (upd fR 0 (.slice A0 l0.length c0)) 2 (.pointer (some ⟨g1,0,none⟩))) 4 (.pointer (some ⟨g2,0,none⟩))) 5 (.pointer (some ⟨g9,0,none⟩))) 6 (.slice A6_3 l6_3.length c6_3)) 18 (.int .i64 t42.1)) 19 (.int .i64 x19_3)∧S=sput (sput (sput (sput (sput (sput s0 0 (some (Ck.var 27 g1 (([Value.int .i64 (0:Int)]++([Value.slice none 0 0]++([Value.slice none 0 0]++[Value.slice none 0 0]))))))) 1 (some (Ck.var 74 g2 (([Value.slice Am1_3_0 m1_3.1.length cm1_3_0]++[Value.bool m1_3.2]))))) 2 (some (Ck.var 27 g9 (([Value.int .i64 m2_3.1]++([Value.slice Am2_3_1 m2_3.2.1.length cm2_3_1]++([Value.slice Am2_3_2 m2_3.2.2.1.length cm2_3_2]++[Value.slice Am2_3_3 m2_3.2.2.2.length cm2_3_3]))))))) 3 (some (Ck.sl (Ec.sls 23 Int) Am2_3_1 cm2_3_1 Lm2_3_1))) 4 (some (Ck.sl (Ec.sls 23 Int) Am2_3_2 cm2_3_2 Lm2_3_2))) 5 (some (Ck.sl T44 Am2_3_3 cm2_3_3 m2_3.2.2.2))∧leaf_Read.jo5 l6_3 x19_3 m1_3 m2_3 k3 (leaf_Read.lo3 t42 (leaf_Read.jo2 k l0) k3)=some r) ?_ ?_
  ·skip
   refine cs_seq ?_
   refine cs_region (l:=[_,_,_,_]) ?_
   refine lv (.pointer (some ⟨g2,0,none⟩)) ?_
   refine lv (.pointer (some ⟨g2,0,none⟩)) ?_
   refine lv (.pointer (some ⟨g2,(0+1),none⟩)) ?_
   refine ls_load (a0:=⟨g2,(0+1),none⟩) (v:=.bool m1_3.2) (de:=TypeDesc.bool) rfl rfl (by kernel_rfl) rfl (by kernel_rfl) (by kernel_rfl) (by kernel_rfl) (fun w hs=>(hs.var (k:=1) (by exact rfl) (Sub4.trans (Sub4.all _) (Sub4.skip (n:=1) (len1 _) (Sub4.all _))))) ?_
   refine ls_end ?_
   refine qn_then ?_
   by_cases q96:m1_3.2=true
   ·replace H := ite_t q96 H
    refine cs_know (c:=true) (q96) 24 (by kernel_rfl) ?_
    refine cs_true (by kernel_rfl) ?_
    refine cs_exit' ?_
    refine qx_then ?_
    refine qx_other (by decide) ?_
    refine qx_then ?_
    refine qx_then ?_
    refine qx_same ?_
    refine qn_meetb (sput (sput (sput (sput (sput (sput s0 0 (some (Ck.var 27 g1 (([Value.int .i64 (0:Int)]++([Value.slice none 0 0]++([Value.slice none 0 0]++[Value.slice none 0 0]))))))) 1 (some (Ck.var 74 g2 (([Value.slice Am1_3_0 m1_3.1.length cm1_3_0]++[Value.bool m1_3.2]))))) 2 (some (Ck.var 27 g9 (([Value.int .i64 m2_3.1]++([Value.slice Am2_3_1 m2_3.2.1.length cm2_3_1]++([Value.slice Am2_3_2 m2_3.2.2.1.length cm2_3_2]++[Value.slice Am2_3_3 m2_3.2.2.2.length cm2_3_3]))))))) 3 (some (Ck.sl (Ec.sls 23 Int) Am2_3_1 cm2_3_1 Lm2_3_1))) 4 (some (Ck.sl (Ec.sls 23 Int) Am2_3_2 cm2_3_2 Lm2_3_2))) 5 (some (Ck.sl T44 Am2_3_3 cm2_3_3 m2_3.2.2.2))) ⟨_,Am1_3_0,cm1_3_0,(m1_3.1,m1_3.2),Am2_3_1,cm2_3_1,Lm2_3_1,Am2_3_2,cm2_3_2,Lm2_3_2,Am2_3_3,cm2_3_3,(m2_3.1,m2_3.2.1,m2_3.2.2.1,m2_3.2.2.2),fr_next (fr_next (fr_next (fr_next (rfl) (by kernel_rfl)) (by kernel_rfl)) (by kernel_rfl)) (by kernel_rfl),rfl,Rm1_3_0,Cm1_3_0,Im2_3_1,Em2_3_1,Im2_3_2,Em2_3_2,hleh3,Rb0_3,H⟩ (sub_put (by exact rfl) (sub_put (by exact rfl) (sub_put (by exact rfl) (sub_put (by exact rfl) (sub_put (by exact rfl) (sub_put (by exact rfl) (sub_nil _)))))))
   replace H := ite_f q96 H
   refine cs_know (c:=false) (Bool.eq_false_iff.mpr q96) 24 (by kernel_rfl) ?_
   refine cs_false (by kernel_rfl) ?_
   refine cs_skip' ?_
   refine qn_meet (sput (sput (sput (sput (sput (sput s0 0 (some (Ck.var 27 g1 (([Value.int .i64 (0:Int)]++([Value.slice none 0 0]++([Value.slice none 0 0]++[Value.slice none 0 0]))))))) 1 (some (Ck.var 74 g2 (([Value.slice Am1_3_0 m1_3.1.length cm1_3_0]++[Value.bool m1_3.2]))))) 2 (some (Ck.var 27 g9 (([Value.int .i64 m2_3.1]++([Value.slice Am2_3_1 m2_3.2.1.length cm2_3_1]++([Value.slice Am2_3_2 m2_3.2.2.1.length cm2_3_2]++[Value.slice Am2_3_3 m2_3.2.2.2.length cm2_3_3]))))))) 3 (some (Ck.sl (Ec.sls 23 Int) Am2_3_1 cm2_3_1 Lm2_3_1))) 4 (some (Ck.sl (Ec.sls 23 Int) Am2_3_2 cm2_3_2 Lm2_3_2))) 5 (some (Ck.sl T44 Am2_3_3 cm2_3_3 m2_3.2.2.2))) ⟨_,fr_next (fr_next (fr_next (fr_next (fr_next (fr_next (fr_next (rfl) (by kernel_rfl)) (by kernel_rfl)) (by kernel_rfl)) (by kernel_rfl)) (by kernel_rfl)) (by kernel_rfl)) (by kernel_rfl),rfl,H⟩ (sub_put (by exact rfl) (sub_put (by exact rfl) (sub_put (by exact rfl) (sub_put (by exact rfl) (sub_put (by exact rfl) (sub_put (by exact rfl) (sub_nil _)))))))
  rintro f S ⟨fr5,rfl,rfl,H⟩
  replace H:((leaf_reader_key.f k3 (m1_3.1,m1_3.2) l6_3).bind fun t48=>(if (m2_3.2.1.length+([t48.1]).length)*24≤140737488355328 then (if m2_3.1=(0:Int) then (leaf_reader_text.f k3 (t48.2.1,t48.2.2) (1024:Int)).bind fun t69=>(if (m2_3.2.2.1.length+([t69.1]).length)*24≤140737488355328 then (leaf_Read.lo3 t42 (leaf_Read.jo2 k l0) k3) t48.1 (IntKind.wrap .i64 (x19_3+(1:Int))) (t69.2.1,t69.2.2) (m2_3.1,(m2_3.2.1++[t48.1]),(m2_3.2.2.1++[t69.1]),m2_3.2.2.2) else none) else (leaf_reader_kid.f k3 (t48.2.1,t48.2.2)).bind fun t86=>(if (m2_3.2.2.2.length+([t86.1]).length)*64≤140737488355328 then (leaf_Read.lo3 t42 (leaf_Read.jo2 k l0) k3) t48.1 (IntKind.wrap .i64 (x19_3+(1:Int))) (t86.2.1,t86.2.2) (m2_3.1,(m2_3.2.1++[t48.1]),m2_3.2.2.1,(m2_3.2.2.2++[t86.1])) else none)) else none))=some r := H
  refine cs_seq ?_
  refine cs_region (l:=[_,_,_,_]) ?_
  refine lv (.pointer (some ⟨g2,0,none⟩)) ?_
  refine lv (.slice A6_3 l6_3.length c6_3) ?_
  obtain ⟨t48,hc49,H⟩ := bind_some H
  refine ls_callg (fid:=32) (vals:=#[.pointer (some ⟨g2,0,none⟩),.slice A6_3 l6_3.length c6_3]) (X:=(Option Addr × Nat) × (Option Addr × Nat)) (fun x=>.slice x.1.1 t48.1.length x.1.2) (fun x=>stl [Ck.var 74 g2 (([Value.slice x.2.1 t48.2.1.length x.2.2]++[Value.bool t48.2.2])),Ck.sl (Ec.int 5 .u8) x.1.1 x.1.2 t48.1]) (fun x B=>(Ro B x.2.1 (em (Ec.int 5 .u8) t48.2.1)∧t48.2.1.length≤x.2.2)) [1] [Ck.var 74 g2 (([Value.slice Am1_3_0 m1_3.1.length cm1_3_0]++[Value.bool m1_3.2]))] 6 rfl rfl (by kernel_rfl) (fun w=>by kernel_rfl) ⟨by exact rfl,trivial⟩ (by decide) (fun x b b' h hf=>⟨h _ _ hf.1,hf.2⟩) (fun w hs hb=>leaf_reader_key.calls k3 g2 Am1_3_0 cm1_3_0 (m1_3.1,m1_3.2) A6_3 c6_3 l6_3 t48 (lent bh3 w [Ck.var 74 g2 (([Value.slice Am1_3_0 m1_3.1.length cm1_3_0]++[Value.bool m1_3.2]))] []) hb (hs.ro Rm1_3_0 _ _) Cm1_3_0 (hs.ro R6_3 _ _) C6_3 hc49) ?_
  intro x50 hf53
  obtain ⟨fR51,fC52⟩ := hf53
  refine lv (.slice x50.1.1 t48.1.length x50.1.2) ?_
  refine ls_end ?_
  refine qn_then ?_
  refine cs_seq ?_
  refine cs_region (l:=[_,_,_,_,_,_,_]) ?_
  refine lv (.pointer (some ⟨g9,(0+1),none⟩)) ?_
  refine ls_load (a0:=⟨g9,(0+1),none⟩) (v:=.slice Am2_3_1 m2_3.2.1.length cm2_3_1) (de:=(TypeDesc.slice 23)) rfl rfl (by kernel_rfl) rfl (by kernel_rfl) (by kernel_rfl) (by kernel_rfl) (fun w hs=>(hs.var (k:=2) (by exact rfl) (Sub4.trans (Sub4.all _) (Sub4.skip (n:=1) (len1 _) (Sub4.head _ _))))) ?_
  refine lv (.slice x50.1.1 t48.1.length x50.1.2) ?_
  refine ls_freeze (T:=(Ec.int 5 .u8)) (A:=x50.1.1) (c:=x50.1.2) (l:=t48.1) 6 (by exact rfl) ?_
  intro bs54 hle55 hok56 fR57 fC58
  refine ls_lit (Ec.sls 23 Int) 7 rfl rfl (by kernel_rfl) [(((x50.1.1:Option Addr),x50.1.2),t48.1)] (by exact of_decide_eq_true (by kernel_rfl)) (fun w=>by kernel_rfl) ?_
  intro g59
  obtain ⟨q60,H⟩ := ite_need H
  refine ls_appS 23 (A:=Am2_3_1) (c:=cm2_3_1) (B:=(some ⟨g59,0,none⟩)) (cb:=[t48.1].length) (z:=(Value.slice none 0 0)) (l:=m2_3.2.1) (m:=[t48.1]) (L:=Lm2_3_1) (M:=[(((x50.1.1:Option Addr),x50.1.2),t48.1)]) (bytes:=24) 3 Em2_3_1 rfl rfl rfl (by kernel_rfl) rfl (by kernel_rfl) (by exact rfl) (by kernel_rfl) (fun w hs=>hs.rd (k:=7) (by exact rfl)) (by kernel_rfl) (by kernel_rfl) rfl (by decide) q60 ?_
  intro xA61 xc62
  have xI63:InsC (Ec.int 5 .u8) bs54 (Lm2_3_1++[(((x50.1.1:Option Addr),x50.1.2),t48.1)]) := InsC.app (InsC.mono hok56 hle55 Im2_3_1) (InsC.one fR57 fC58)
  have xE64:(Lm2_3_1++[(((x50.1.1:Option Addr),x50.1.2),t48.1)]).map (·.2)=(m2_3.2.1++[t48.1]) := mapE Em2_3_1 rfl
  refine lv (.pointer (some ⟨g9,(0+1),none⟩)) ?_
  refine ls_storec (g:=g9) (off:=(0+1)) (v:=.slice xA61 (m2_3.2.1++[t48.1]).length xc62) (vs:=[Value.slice xA61 (m2_3.2.1++[t48.1]).length xc62]) (cs:=([Value.int .i64 m2_3.1]++([Value.slice Am2_3_1 m2_3.2.1.length cm2_3_1]++([Value.slice Am2_3_2 m2_3.2.2.1.length cm2_3_2]++[Value.slice Am2_3_3 m2_3.2.2.2.length cm2_3_3])))) (ty:=27) 2 rfl rfl rfl (by kernel_rfl) (by kernel_rfl) (by kernel_rfl) (by exact rfl) (by kernel_rfl) (len1 _) (one_cons rfl one_nil) (hl_of (Sub4.trans (Sub4.all _) (Sub4.skip (n:=1) (len1 _) (Sub4.head _ _))) (len_eq (len1 _) (len1 _))) (cs' := ([Value.int .i64 m2_3.1]++([Value.slice xA61 (m2_3.2.1++[t48.1]).length xc62]++([Value.slice Am2_3_2 m2_3.2.2.1.length cm2_3_2]++[Value.slice Am2_3_3 m2_3.2.2.2.length cm2_3_3])))) (splc_in (Sub4.all _) (splc_skip (n:=1) (len1 _) (splc_head (len_eq (len1 _) (len1 _)))) (splc_all (len_eq (len_app (len1 _) (len_app (len1 _) (len_app (len1 _) (len1 _)))) (len_app (len1 _) (len_app (len1 _) (len_app (len1 _) (len1 _)))))) (hl_of (Sub4.skip (n:=1) (len1 _) (Sub4.head _ _)) (len_eq (len1 _) (len1 _)))) ?_
  refine ls_end ?_
  refine qn_then ?_
  refine cs_seq ?_
  refine cs_region (l:=[_,_,_]) ?_
  refine lv (.pointer (some ⟨g9,(0+0),none⟩)) ?_
  refine ls_load (a0:=⟨g9,(0+0),none⟩) (v:=.int .i64 m2_3.1) (de:=(TypeDesc.int .i64)) rfl rfl (by kernel_rfl) rfl (by kernel_rfl) (by kernel_rfl) (by kernel_rfl) (fun w hs=>(hs.var (k:=2) (by exact rfl) (Sub4.trans (Sub4.all _) (Sub4.head _ _)))) ?_
  refine lv (.bool (decide (m2_3.1=(0:Int)))) ?_
  refine ls_end ?_
  refine qn_then ?_
  by_cases q65:m2_3.1=(0:Int)
  ·replace H := ite_t q65 H
   refine cs_know (c:=true) (dec_t q65) 36 (by kernel_rfl) ?_
   refine cs_true (by kernel_rfl) ?_
   obtain ⟨t69,hc70,H⟩ := bind_some H
   refine cs_sub (sput (sput (sput (sput (sput (sput (sput s0 0 (some (Ck.var 27 g1 (([Value.int .i64 (0:Int)]++([Value.slice none 0 0]++([Value.slice none 0 0]++[Value.slice none 0 0]))))))) 1 (some (Ck.var 74 g2 (([Value.slice x50.2.1 t48.2.1.length x50.2.2]++[Value.bool t48.2.2]))))) 2 (some (Ck.var 27 g9 (([Value.int .i64 m2_3.1]++([Value.slice xA61 (m2_3.2.1++[t48.1]).length xc62]++([Value.slice Am2_3_2 m2_3.2.2.1.length cm2_3_2]++[Value.slice Am2_3_3 m2_3.2.2.2.length cm2_3_3]))))))) 3 (some (Ck.sl (Ec.sls 23 Int) xA61 xc62 (Lm2_3_1++[(((x50.1.1:Option Addr),x50.1.2),t48.1)])))) 4 (some (Ck.sl (Ec.sls 23 Int) Am2_3_2 cm2_3_2 Lm2_3_2))) 5 (some (Ck.sl T44 Am2_3_3 cm2_3_3 m2_3.2.2.2))) 7 (some (Ck.sl (Ec.sls 23 Int) (some ⟨g59,0,none⟩) ([(((x50.1.1:Option Addr),x50.1.2),t48.1)].length) ([(((x50.1.1:Option Addr),x50.1.2),t48.1)])))) (sub_put (by exact rfl) (sub_put (by exact rfl) (sub_put (by exact rfl) (sub_put (by exact rfl) (sub_put (by exact rfl) (sub_put (by exact rfl) (sub_put (by exact rfl) (sub_nil _)))))))) ?_
   refine cs_okk ?_
   intro hkq68
   refine cs_chainb (l:=[_,_,_,_,_,_,_,_]) [[],[0],[],[2],[2,3],[0,1,2,3,4],[0,1,2,3,4,5],[0,1,2,3,4,5,6]] 5 (fun u=>[0,2,3,4,5,7].contains u) (efl [false,false,false,true,true]) (pvl [.val (.pointer (some ⟨g9,(0+2),none⟩)),.val (.slice Am2_3_2 m2_3.2.2.1.length cm2_3_2),.val (.pointer (some ⟨g2,0,none⟩)),.eff 3,.eff 4]) (Eslb [fun (B:Bs) (es:Nat→Value) (S':Sto)=>S'=sput (sput (sput (sput (sput (sput (sput s0 0 (some (Ck.var 27 g1 (([Value.int .i64 (0:Int)]++([Value.slice none 0 0]++([Value.slice none 0 0]++[Value.slice none 0 0]))))))) 1 (some (Ck.var 74 g2 (([Value.slice x50.2.1 t48.2.1.length x50.2.2]++[Value.bool t48.2.2]))))) 2 (some (Ck.var 27 g9 (([Value.int .i64 m2_3.1]++([Value.slice xA61 (m2_3.2.1++[t48.1]).length xc62]++([Value.slice Am2_3_2 m2_3.2.2.1.length cm2_3_2]++[Value.slice Am2_3_3 m2_3.2.2.2.length cm2_3_3]))))))) 3 (some (Ck.sl (Ec.sls 23 Int) xA61 xc62 (Lm2_3_1++[(((x50.1.1:Option Addr),x50.1.2),t48.1)])))) 4 (some (Ck.sl (Ec.sls 23 Int) Am2_3_2 cm2_3_2 Lm2_3_2))) 5 (some (Ck.sl T44 Am2_3_3 cm2_3_3 m2_3.2.2.2))) 7 (some (Ck.sl (Ec.sls 23 Int) (some ⟨g59,0,none⟩) ([(((x50.1.1:Option Addr),x50.1.2),t48.1)].length) ([(((x50.1.1:Option Addr),x50.1.2),t48.1)]))),fun (B:Bs) (es:Nat→Value) (S':Sto)=>∃ (x71:(Option Addr × Nat) × (Option Addr × Nat)),es 3=.slice x71.1.1 t69.1.length x71.1.2∧Ro B x71.2.1 (em (Ec.int 5 .u8) t69.2.1)∧t69.2.1.length≤x71.2.2∧S'=sput (sput (sput (sput (sput (sput (sput (sput s0 0 (some (Ck.var 27 g1 (([Value.int .i64 (0:Int)]++([Value.slice none 0 0]++([Value.slice none 0 0]++[Value.slice none 0 0]))))))) 1 (some (Ck.var 74 g2 (([Value.slice x71.2.1 t69.2.1.length x71.2.2]++[Value.bool t69.2.2]))))) 2 (some (Ck.var 27 g9 (([Value.int .i64 m2_3.1]++([Value.slice xA61 (m2_3.2.1++[t48.1]).length xc62]++([Value.slice Am2_3_2 m2_3.2.2.1.length cm2_3_2]++[Value.slice Am2_3_3 m2_3.2.2.2.length cm2_3_3]))))))) 3 (some (Ck.sl (Ec.sls 23 Int) xA61 xc62 (Lm2_3_1++[(((x50.1.1:Option Addr),x50.1.2),t48.1)])))) 4 (some (Ck.sl (Ec.sls 23 Int) Am2_3_2 cm2_3_2 Lm2_3_2))) 5 (some (Ck.sl T44 Am2_3_3 cm2_3_3 m2_3.2.2.2))) 7 (some (Ck.sl (Ec.sls 23 Int) (some ⟨g59,0,none⟩) ([(((x50.1.1:Option Addr),x50.1.2),t48.1)].length) ([(((x50.1.1:Option Addr),x50.1.2),t48.1)])))) 8 (some (Ck.ro (Ec.int 5 .u8) x71.1.1 x71.1.2 t69.1)),fun (B:Bs) (es:Nat→Value) (S':Sto)=>∃ (x71:(Option Addr × Nat) × (Option Addr × Nat)) (g80:Nat),es 3=.slice x71.1.1 t69.1.length x71.1.2∧es 4=.slice (some ⟨g80,0,none⟩) [t69.1].length [t69.1].length∧Ro B x71.2.1 (em (Ec.int 5 .u8) t69.2.1)∧t69.2.1.length≤x71.2.2∧Ro B x71.1.1 (em (Ec.int 5 .u8) t69.1)∧t69.1.length≤x71.1.2∧S'=sput (sput (sput (sput (sput (sput (sput (sput s0 0 (some (Ck.var 27 g1 (([Value.int .i64 (0:Int)]++([Value.slice none 0 0]++([Value.slice none 0 0]++[Value.slice none 0 0]))))))) 1 (some (Ck.var 74 g2 (([Value.slice x71.2.1 t69.2.1.length x71.2.2]++[Value.bool t69.2.2]))))) 2 (some (Ck.var 27 g9 (([Value.int .i64 m2_3.1]++([Value.slice xA61 (m2_3.2.1++[t48.1]).length xc62]++([Value.slice Am2_3_2 m2_3.2.2.1.length cm2_3_2]++[Value.slice Am2_3_3 m2_3.2.2.2.length cm2_3_3]))))))) 3 (some (Ck.sl (Ec.sls 23 Int) xA61 xc62 (Lm2_3_1++[(((x50.1.1:Option Addr),x50.1.2),t48.1)])))) 4 (some (Ck.sl (Ec.sls 23 Int) Am2_3_2 cm2_3_2 Lm2_3_2))) 5 (some (Ck.sl T44 Am2_3_3 cm2_3_3 m2_3.2.2.2))) 7 (some (Ck.sl (Ec.sls 23 Int) (some ⟨g59,0,none⟩) ([(((x50.1.1:Option Addr),x50.1.2),t48.1)].length) ([(((x50.1.1:Option Addr),x50.1.2),t48.1)])))) 9 (some (Ck.sl (Ec.sls 23 Int) (some ⟨g80,0,none⟩) ([(((x71.1.1:Option Addr),x71.1.2),t69.1)].length) ([(((x71.1.1:Option Addr),x71.1.2),t69.1)])))] [0,0,0,0,1,2]) (nxl [0,0,0,4,5]) (onl [true,true,true,true,true]) 3 (by kernel_rfl) (by kernel_rfl) (by kernel_rfl) (by kernel_rfl) (by kernel_rfl) (rs:=[_,_,_]) rfl (by kernel_rfl) (by kernel_rfl) (fun es=>?_) ?_ ?_
   ·exact (rfl:sput (sput (sput (sput (sput (sput (sput s0 0 (some (Ck.var 27 g1 (([Value.int .i64 (0:Int)]++([Value.slice none 0 0]++([Value.slice none 0 0]++[Value.slice none 0 0]))))))) 1 (some (Ck.var 74 g2 (([Value.slice x50.2.1 t48.2.1.length x50.2.2]++[Value.bool t48.2.2]))))) 2 (some (Ck.var 27 g9 (([Value.int .i64 m2_3.1]++([Value.slice xA61 (m2_3.2.1++[t48.1]).length xc62]++([Value.slice Am2_3_2 m2_3.2.2.1.length cm2_3_2]++[Value.slice Am2_3_3 m2_3.2.2.2.length cm2_3_3]))))))) 3 (some (Ck.sl (Ec.sls 23 Int) xA61 xc62 (Lm2_3_1++[(((x50.1.1:Option Addr),x50.1.2),t48.1)])))) 4 (some (Ck.sl (Ec.sls 23 Int) Am2_3_2 cm2_3_2 Lm2_3_2))) 5 (some (Ck.sl T44 Am2_3_3 cm2_3_3 m2_3.2.2.2))) 7 (some (Ck.sl (Ec.sls 23 Int) (some ⟨g59,0,none⟩) ([(((x50.1.1:Option Addr),x50.1.2),t48.1)].length) ([(((x50.1.1:Option Addr),x50.1.2),t48.1)])))=sput (sput (sput (sput (sput (sput (sput s0 0 (some (Ck.var 27 g1 (([Value.int .i64 (0:Int)]++([Value.slice none 0 0]++([Value.slice none 0 0]++[Value.slice none 0 0]))))))) 1 (some (Ck.var 74 g2 (([Value.slice x50.2.1 t48.2.1.length x50.2.2]++[Value.bool t48.2.2]))))) 2 (some (Ck.var 27 g9 (([Value.int .i64 m2_3.1]++([Value.slice xA61 (m2_3.2.1++[t48.1]).length xc62]++([Value.slice Am2_3_2 m2_3.2.2.1.length cm2_3_2]++[Value.slice Am2_3_3 m2_3.2.2.2.length cm2_3_3]))))))) 3 (some (Ck.sl (Ec.sls 23 Int) xA61 xc62 (Lm2_3_1++[(((x50.1.1:Option Addr),x50.1.2),t48.1)])))) 4 (some (Ck.sl (Ec.sls 23 Int) Am2_3_2 cm2_3_2 Lm2_3_2))) 5 (some (Ck.sl T44 Am2_3_3 cm2_3_3 m2_3.2.2.2))) 7 (some (Ck.sl (Ec.sls 23 Int) (some ⟨g59,0,none⟩) ([(((x50.1.1:Option Addr),x50.1.2),t48.1)].length) ([(((x50.1.1:Option Addr),x50.1.2),t48.1)]))))
   ·refine all_snoc (all_snoc (all_snoc (all_snoc (all_snoc (all_nil) ?_) ?_) ?_) ?_) ?_
    ·refine ⟨fun o ho Bq66 es vs f' S' hlq67 hve hvp hf hx hK hE=>?_⟩
     obtain rfl := Option.some.inj ho
     refine ⟨want_none rfl,fun _ _=>?_,(fun _ h=>by cases h),(fun h _=>by cases h),(fun h _=>by cases h)⟩
     have hF := fr_next (rfl) ((hx 5 (by kernel_rfl)).trans (by kernel_rfl:(_:Value)=.pointer (some ⟨g9,0,none⟩)))
     refine ls_fr hF ?_
     refine lv (.pointer (some ⟨g9,(0+2),none⟩)) ?_
     exact ls_finp (.pointer (some ⟨g9,(0+2),none⟩)) (congrArg (fun z=>upd z 37 _) hF.symm) rfl
    ·refine ⟨fun o ho Bq66 es vs f' S' hlq67 hve hvp hf hx hK hE=>?_⟩
     obtain rfl := Option.some.inj ho
     refine ⟨want_none rfl,fun _ _=>?_,(fun _ h=>by cases h),(fun h _=>by cases h),(fun h _=>by cases h)⟩
     have hF := fr_next (rfl) ((hf 0 37 (by kernel_rfl) rfl).trans (show vs 0=.pointer (some ⟨g9,(0+2),none⟩) from hvp 0 (by kernel_rfl)))
     refine ls_fr hF ?_
     refine ls_load (a0:=⟨g9,(0+2),none⟩) (v:=.slice Am2_3_2 m2_3.2.2.1.length cm2_3_2) (de:=(TypeDesc.slice 23)) rfl rfl (by kernel_rfl) rfl (by kernel_rfl) (by kernel_rfl) (by kernel_rfl) (fun w hs=>(hs.var (k:=2) ((hK 2 (by rfl)).trans (by exact rfl)) (Sub4.trans (Sub4.all _) (Sub4.skip (n:=1) (len1 _) (Sub4.skip (n:=1) (len1 _) (Sub4.head _ _)))))) ?_
     exact ls_finp (.slice Am2_3_2 m2_3.2.2.1.length cm2_3_2) (congrArg (fun z=>upd z 38 _) hF.symm) rfl
    ·refine ⟨fun o ho Bq66 es vs f' S' hlq67 hve hvp hf hx hK hE=>?_⟩
     obtain rfl := Option.some.inj ho
     refine ⟨want_none rfl,fun _ _=>?_,(fun _ h=>by cases h),(fun h _=>by cases h),(fun h _=>by cases h)⟩
     have hF := fr_next (rfl) ((hx 4 (by kernel_rfl)).trans (by kernel_rfl:(_:Value)=.pointer (some ⟨g2,0,none⟩)))
     refine ls_fr hF ?_
     refine lv (.pointer (some ⟨g2,0,none⟩)) ?_
     exact ls_finp (.pointer (some ⟨g2,0,none⟩)) (congrArg (fun z=>upd z 39 _) hF.symm) rfl
    ·refine ⟨fun o ho Bq66 es vs f' S' hlq67 hve hvp hf hx hK hE=>?_⟩
     obtain rfl := Option.some.inj ho
     obtain rfl := hE rfl
     refine ⟨want_none rfl,(fun h _=>by cases h),(fun h _=>by cases h),fun _ _=>?_,(fun _ h=>by cases h)⟩
     have hF := fr_next (rfl) ((hf 2 39 (by kernel_rfl) rfl).trans (show vs 2=.pointer (some ⟨g2,0,none⟩) from hvp 2 (by kernel_rfl)))
     refine ls_fr hF ?_
     refine ls_callg (fid:=33) (vals:=#[.pointer (some ⟨g2,0,none⟩),.int .i64 (1024:Int)]) (X:=(Option Addr × Nat) × (Option Addr × Nat)) (fun x=>.slice x.1.1 t69.1.length x.1.2) (fun x=>stl [Ck.var 74 g2 (([Value.slice x.2.1 t69.2.1.length x.2.2]++[Value.bool t69.2.2])),Ck.ro (Ec.int 5 .u8) x.1.1 x.1.2 t69.1]) (fun x B=>(Ro B x.2.1 (em (Ec.int 5 .u8) t69.2.1)∧t69.2.1.length≤x.2.2)) [1] [Ck.var 74 g2 (([Value.slice x50.2.1 t48.2.1.length x50.2.2]++[Value.bool t48.2.2]))] 8 rfl rfl (by kernel_rfl) (fun w=>by kernel_rfl) ⟨by exact rfl,trivial⟩ (by decide) (fun x b b' h hf=>⟨h _ _ hf.1,hf.2⟩) (fun w hs hb=>leaf_reader_text.calls k3 g2 x50.2.1 x50.2.2 (t48.2.1,t48.2.2) (1024:Int) t69 (lent Bq66 w [Ck.var 74 g2 (([Value.slice x50.2.1 t48.2.1.length x50.2.2]++[Value.bool t48.2.2]))] []) hb (hs.ro (Ro.mono hkq68 hlq67 (Ro.mono hok56 hle55 fR51)) _ _) fC52 hc70) ?_
     intro x71 hf74
     obtain ⟨fR72,fC73⟩ := hf74
     exact ls_fineb (sput (sput (sput (sput (sput (sput (sput (sput s0 0 (some (Ck.var 27 g1 (([Value.int .i64 (0:Int)]++([Value.slice none 0 0]++([Value.slice none 0 0]++[Value.slice none 0 0]))))))) 1 (some (Ck.var 74 g2 (([Value.slice x71.2.1 t69.2.1.length x71.2.2]++[Value.bool t69.2.2]))))) 2 (some (Ck.var 27 g9 (([Value.int .i64 m2_3.1]++([Value.slice xA61 (m2_3.2.1++[t48.1]).length xc62]++([Value.slice Am2_3_2 m2_3.2.2.1.length cm2_3_2]++[Value.slice Am2_3_3 m2_3.2.2.2.length cm2_3_3]))))))) 3 (some (Ck.sl (Ec.sls 23 Int) xA61 xc62 (Lm2_3_1++[(((x50.1.1:Option Addr),x50.1.2),t48.1)])))) 4 (some (Ck.sl (Ec.sls 23 Int) Am2_3_2 cm2_3_2 Lm2_3_2))) 5 (some (Ck.sl T44 Am2_3_3 cm2_3_3 m2_3.2.2.2))) 7 (some (Ck.sl (Ec.sls 23 Int) (some ⟨g59,0,none⟩) ([(((x50.1.1:Option Addr),x50.1.2),t48.1)].length) ([(((x50.1.1:Option Addr),x50.1.2),t48.1)])))) 8 (some (Ck.ro (Ec.int 5 .u8) x71.1.1 x71.1.2 t69.1))) (.slice x71.1.1 t69.1.length x71.1.2) (Bs.le.refl _) (congrArg (fun z=>upd z 40 _) hF.symm) (show (fun (B:Bs) (es:Nat→Value) (S':Sto)=>∃ (x71:(Option Addr × Nat) × (Option Addr × Nat)),es 3=.slice x71.1.1 t69.1.length x71.1.2∧Ro B x71.2.1 (em (Ec.int 5 .u8) t69.2.1)∧t69.2.1.length≤x71.2.2∧S'=sput (sput (sput (sput (sput (sput (sput (sput s0 0 (some (Ck.var 27 g1 (([Value.int .i64 (0:Int)]++([Value.slice none 0 0]++([Value.slice none 0 0]++[Value.slice none 0 0]))))))) 1 (some (Ck.var 74 g2 (([Value.slice x71.2.1 t69.2.1.length x71.2.2]++[Value.bool t69.2.2]))))) 2 (some (Ck.var 27 g9 (([Value.int .i64 m2_3.1]++([Value.slice xA61 (m2_3.2.1++[t48.1]).length xc62]++([Value.slice Am2_3_2 m2_3.2.2.1.length cm2_3_2]++[Value.slice Am2_3_3 m2_3.2.2.2.length cm2_3_3]))))))) 3 (some (Ck.sl (Ec.sls 23 Int) xA61 xc62 (Lm2_3_1++[(((x50.1.1:Option Addr),x50.1.2),t48.1)])))) 4 (some (Ck.sl (Ec.sls 23 Int) Am2_3_2 cm2_3_2 Lm2_3_2))) 5 (some (Ck.sl T44 Am2_3_3 cm2_3_3 m2_3.2.2.2))) 7 (some (Ck.sl (Ec.sls 23 Int) (some ⟨g59,0,none⟩) ([(((x50.1.1:Option Addr),x50.1.2),t48.1)].length) ([(((x50.1.1:Option Addr),x50.1.2),t48.1)])))) 8 (some (Ck.ro (Ec.int 5 .u8) x71.1.1 x71.1.2 t69.1))) Bq66 (upv es 3 (.slice x71.1.1 t69.1.length x71.1.2)) (sput (sput (sput (sput (sput (sput (sput (sput s0 0 (some (Ck.var 27 g1 (([Value.int .i64 (0:Int)]++([Value.slice none 0 0]++([Value.slice none 0 0]++[Value.slice none 0 0]))))))) 1 (some (Ck.var 74 g2 (([Value.slice x71.2.1 t69.2.1.length x71.2.2]++[Value.bool t69.2.2]))))) 2 (some (Ck.var 27 g9 (([Value.int .i64 m2_3.1]++([Value.slice xA61 (m2_3.2.1++[t48.1]).length xc62]++([Value.slice Am2_3_2 m2_3.2.2.1.length cm2_3_2]++[Value.slice Am2_3_3 m2_3.2.2.2.length cm2_3_3]))))))) 3 (some (Ck.sl (Ec.sls 23 Int) xA61 xc62 (Lm2_3_1++[(((x50.1.1:Option Addr),x50.1.2),t48.1)])))) 4 (some (Ck.sl (Ec.sls 23 Int) Am2_3_2 cm2_3_2 Lm2_3_2))) 5 (some (Ck.sl T44 Am2_3_3 cm2_3_3 m2_3.2.2.2))) 7 (some (Ck.sl (Ec.sls 23 Int) (some ⟨g59,0,none⟩) ([(((x50.1.1:Option Addr),x50.1.2),t48.1)].length) ([(((x50.1.1:Option Addr),x50.1.2),t48.1)])))) 8 (some (Ck.ro (Ec.int 5 .u8) x71.1.1 x71.1.2 t69.1))) from ⟨x71,rfl,fR72,fC73,rfl⟩) rfl (keep_cons (by exact rfl) (keep_cons (by exact rfl) (keep_cons (by exact rfl) (keep_cons (by exact rfl) (keep_cons (by exact rfl) (keep_cons (by exact rfl) (keep_nil))))))) (sub_put (by exact rfl) (sub_put (by exact rfl) (sub_put (by exact rfl) (sub_put (by exact rfl) (sub_put (by exact rfl) (sub_put (by exact rfl) (sub_put (by exact rfl) (sub_put (by exact rfl) (sub_nil _)))))))))
    refine ⟨fun o ho Bq66 es vs f' S' hlq67 hve hvp hf hx hK hE=>?_⟩
    obtain rfl := Option.some.inj ho
    obtain ⟨x71,hv3,fR72,fC73,rfl⟩ := hE rfl
    refine ⟨want_none rfl,(fun h _=>by cases h),(fun h _=>by cases h),fun _ _=>?_,(fun _ h=>by cases h)⟩
    have hF := fr_next (rfl) (((hf 3 40 (by kernel_rfl) rfl).trans (show vs 3=es 3 from hvp 3 (by kernel_rfl))).trans hv3)
    refine ls_fr hF ?_
    refine ls_freezero (T:=(Ec.int 5 .u8)) (A:=x71.1.1) (c:=x71.1.2) (l:=t69.1) 8 (by exact rfl) ?_
    intro bs75 hle76 hok77 fR78 fC79
    refine ls_lit (Ec.sls 23 Int) 9 rfl rfl (by kernel_rfl) [(((x71.1.1:Option Addr),x71.1.2),t69.1)] (by exact of_decide_eq_true (by kernel_rfl)) (fun w=>by kernel_rfl) ?_
    intro g80
    exact ls_fineb (sput (sput (sput (sput (sput (sput (sput (sput s0 0 (some (Ck.var 27 g1 (([Value.int .i64 (0:Int)]++([Value.slice none 0 0]++([Value.slice none 0 0]++[Value.slice none 0 0]))))))) 1 (some (Ck.var 74 g2 (([Value.slice x71.2.1 t69.2.1.length x71.2.2]++[Value.bool t69.2.2]))))) 2 (some (Ck.var 27 g9 (([Value.int .i64 m2_3.1]++([Value.slice xA61 (m2_3.2.1++[t48.1]).length xc62]++([Value.slice Am2_3_2 m2_3.2.2.1.length cm2_3_2]++[Value.slice Am2_3_3 m2_3.2.2.2.length cm2_3_3]))))))) 3 (some (Ck.sl (Ec.sls 23 Int) xA61 xc62 (Lm2_3_1++[(((x50.1.1:Option Addr),x50.1.2),t48.1)])))) 4 (some (Ck.sl (Ec.sls 23 Int) Am2_3_2 cm2_3_2 Lm2_3_2))) 5 (some (Ck.sl T44 Am2_3_3 cm2_3_3 m2_3.2.2.2))) 7 (some (Ck.sl (Ec.sls 23 Int) (some ⟨g59,0,none⟩) ([(((x50.1.1:Option Addr),x50.1.2),t48.1)].length) ([(((x50.1.1:Option Addr),x50.1.2),t48.1)])))) 9 (some (Ck.sl (Ec.sls 23 Int) (some ⟨g80,0,none⟩) ([(((x71.1.1:Option Addr),x71.1.2),t69.1)].length) ([(((x71.1.1:Option Addr),x71.1.2),t69.1)])))) (.slice (some ⟨g80,0,none⟩) [t69.1].length [t69.1].length) hle76 (congrArg (fun z=>upd z 41 _) hF.symm) (show (fun (B:Bs) (es:Nat→Value) (S':Sto)=>∃ (x71:(Option Addr × Nat) × (Option Addr × Nat)) (g80:Nat),es 3=.slice x71.1.1 t69.1.length x71.1.2∧es 4=.slice (some ⟨g80,0,none⟩) [t69.1].length [t69.1].length∧Ro B x71.2.1 (em (Ec.int 5 .u8) t69.2.1)∧t69.2.1.length≤x71.2.2∧Ro B x71.1.1 (em (Ec.int 5 .u8) t69.1)∧t69.1.length≤x71.1.2∧S'=sput (sput (sput (sput (sput (sput (sput (sput s0 0 (some (Ck.var 27 g1 (([Value.int .i64 (0:Int)]++([Value.slice none 0 0]++([Value.slice none 0 0]++[Value.slice none 0 0]))))))) 1 (some (Ck.var 74 g2 (([Value.slice x71.2.1 t69.2.1.length x71.2.2]++[Value.bool t69.2.2]))))) 2 (some (Ck.var 27 g9 (([Value.int .i64 m2_3.1]++([Value.slice xA61 (m2_3.2.1++[t48.1]).length xc62]++([Value.slice Am2_3_2 m2_3.2.2.1.length cm2_3_2]++[Value.slice Am2_3_3 m2_3.2.2.2.length cm2_3_3]))))))) 3 (some (Ck.sl (Ec.sls 23 Int) xA61 xc62 (Lm2_3_1++[(((x50.1.1:Option Addr),x50.1.2),t48.1)])))) 4 (some (Ck.sl (Ec.sls 23 Int) Am2_3_2 cm2_3_2 Lm2_3_2))) 5 (some (Ck.sl T44 Am2_3_3 cm2_3_3 m2_3.2.2.2))) 7 (some (Ck.sl (Ec.sls 23 Int) (some ⟨g59,0,none⟩) ([(((x50.1.1:Option Addr),x50.1.2),t48.1)].length) ([(((x50.1.1:Option Addr),x50.1.2),t48.1)])))) 9 (some (Ck.sl (Ec.sls 23 Int) (some ⟨g80,0,none⟩) ([(((x71.1.1:Option Addr),x71.1.2),t69.1)].length) ([(((x71.1.1:Option Addr),x71.1.2),t69.1)])))) bs75 (upv es 4 (.slice (some ⟨g80,0,none⟩) [t69.1].length [t69.1].length)) (sput (sput (sput (sput (sput (sput (sput (sput s0 0 (some (Ck.var 27 g1 (([Value.int .i64 (0:Int)]++([Value.slice none 0 0]++([Value.slice none 0 0]++[Value.slice none 0 0]))))))) 1 (some (Ck.var 74 g2 (([Value.slice x71.2.1 t69.2.1.length x71.2.2]++[Value.bool t69.2.2]))))) 2 (some (Ck.var 27 g9 (([Value.int .i64 m2_3.1]++([Value.slice xA61 (m2_3.2.1++[t48.1]).length xc62]++([Value.slice Am2_3_2 m2_3.2.2.1.length cm2_3_2]++[Value.slice Am2_3_3 m2_3.2.2.2.length cm2_3_3]))))))) 3 (some (Ck.sl (Ec.sls 23 Int) xA61 xc62 (Lm2_3_1++[(((x50.1.1:Option Addr),x50.1.2),t48.1)])))) 4 (some (Ck.sl (Ec.sls 23 Int) Am2_3_2 cm2_3_2 Lm2_3_2))) 5 (some (Ck.sl T44 Am2_3_3 cm2_3_3 m2_3.2.2.2))) 7 (some (Ck.sl (Ec.sls 23 Int) (some ⟨g59,0,none⟩) ([(((x50.1.1:Option Addr),x50.1.2),t48.1)].length) ([(((x50.1.1:Option Addr),x50.1.2),t48.1)])))) 9 (some (Ck.sl (Ec.sls 23 Int) (some ⟨g80,0,none⟩) ([(((x71.1.1:Option Addr),x71.1.2),t69.1)].length) ([(((x71.1.1:Option Addr),x71.1.2),t69.1)])))) from ⟨x71,g80,hv3,rfl,(Ro.mono hok77 hle76 fR72),fC73,fR78,fC79,rfl⟩) rfl (keep_cons (by exact rfl) (keep_cons (by exact rfl) (keep_cons (by exact rfl) (keep_cons (by exact rfl) (keep_cons (by exact rfl) (keep_cons (by exact rfl) (keep_nil))))))) (sub_put (by exact rfl) (sub_put (by exact rfl) (sub_put (by exact rfl) (sub_put (by exact rfl) (sub_put (by exact rfl) (sub_put (by exact rfl) (sub_put (by exact rfl) (sub_put (by exact rfl) (sub_nil _)))))))))
   intro Bq66 es vs f' S' hlq67 hve hvp hf hx hK hE
   obtain ⟨x71,g80,hv3,hv4,fR72,fC73,fR78,fC79,rfl⟩ := hE
   refine ls_fr (F:=upd (upd (upd (upd (upd (upd (upd (upd (upd f' 0 (.slice A0 l0.length c0)) 2 (.pointer (some ⟨g1,0,none⟩))) 4 (.pointer (some ⟨g2,0,none⟩))) 5 (.pointer (some ⟨g9,0,none⟩))) 6 (.slice x50.1.1 t48.1.length x50.1.2)) 18 (.int .i64 t42.1)) 19 (.int .i64 x19_3)) 38 (.slice Am2_3_2 m2_3.2.2.1.length cm2_3_2)) 41 (.slice (some ⟨g80,0,none⟩) [t69.1].length [t69.1].length)) (fr_next (fr_next (fr_next (fr_next (fr_next (fr_next (fr_next (fr_next (fr_next (rfl) ((hx 0 (by kernel_rfl)).trans (by kernel_rfl:(_:Value)=.slice A0 l0.length c0))) ((hx 2 (by kernel_rfl)).trans (by kernel_rfl:(_:Value)=.pointer (some ⟨g1,0,none⟩)))) ((hx 4 (by kernel_rfl)).trans (by kernel_rfl:(_:Value)=.pointer (some ⟨g2,0,none⟩)))) ((hx 5 (by kernel_rfl)).trans (by kernel_rfl:(_:Value)=.pointer (some ⟨g9,0,none⟩)))) ((hx 6 (by kernel_rfl)).trans (by kernel_rfl:(_:Value)=.slice x50.1.1 t48.1.length x50.1.2))) ((hx 18 (by kernel_rfl)).trans (by kernel_rfl:(_:Value)=.int .i64 t42.1))) ((hx 19 (by kernel_rfl)).trans (by kernel_rfl:(_:Value)=.int .i64 x19_3))) ((hf 1 38 (by kernel_rfl) rfl).trans (show vs 1=.slice Am2_3_2 m2_3.2.2.1.length cm2_3_2 from hvp 1 (by kernel_rfl)))) (((hf 4 41 (by kernel_rfl) rfl).trans (show vs 4=es 4 from hvp 4 (by kernel_rfl))).trans hv4)) ?_
   refine ls_sub (sput (sput (sput (sput (sput (sput (sput s0 0 (some (Ck.var 27 g1 (([Value.int .i64 (0:Int)]++([Value.slice none 0 0]++([Value.slice none 0 0]++[Value.slice none 0 0]))))))) 1 (some (Ck.var 74 g2 (([Value.slice x71.2.1 t69.2.1.length x71.2.2]++[Value.bool t69.2.2]))))) 2 (some (Ck.var 27 g9 (([Value.int .i64 m2_3.1]++([Value.slice xA61 (m2_3.2.1++[t48.1]).length xc62]++([Value.slice Am2_3_2 m2_3.2.2.1.length cm2_3_2]++[Value.slice Am2_3_3 m2_3.2.2.2.length cm2_3_3]))))))) 3 (some (Ck.sl (Ec.sls 23 Int) xA61 xc62 (Lm2_3_1++[(((x50.1.1:Option Addr),x50.1.2),t48.1)])))) 4 (some (Ck.sl (Ec.sls 23 Int) Am2_3_2 cm2_3_2 Lm2_3_2))) 5 (some (Ck.sl T44 Am2_3_3 cm2_3_3 m2_3.2.2.2))) 9 (some (Ck.sl (Ec.sls 23 Int) (some ⟨g80,0,none⟩) ([(((x71.1.1:Option Addr),x71.1.2),t69.1)].length) ([(((x71.1.1:Option Addr),x71.1.2),t69.1)])))) (sub_put (by exact rfl) (sub_put (by exact rfl) (sub_put (by exact rfl) (sub_put (by exact rfl) (sub_put (by exact rfl) (sub_put (by exact rfl) (sub_put (by exact rfl) (sub_nil _)))))))) ?_
   obtain ⟨q81,H⟩ := ite_need H
   refine ls_appS 23 (A:=Am2_3_2) (c:=cm2_3_2) (B:=(some ⟨g80,0,none⟩)) (cb:=[t69.1].length) (z:=(Value.slice none 0 0)) (l:=m2_3.2.2.1) (m:=[t69.1]) (L:=Lm2_3_2) (M:=[(((x71.1.1:Option Addr),x71.1.2),t69.1)]) (bytes:=24) 4 Em2_3_2 rfl rfl rfl (by kernel_rfl) rfl (by kernel_rfl) (by exact rfl) (by kernel_rfl) (fun w hs=>hs.rd (k:=9) (by exact rfl)) (by kernel_rfl) (by kernel_rfl) rfl (by decide) q81 ?_
   intro xA82 xc83
   have xI84:InsC (Ec.int 5 .u8) Bq66 (Lm2_3_2++[(((x71.1.1:Option Addr),x71.1.2),t69.1)]) := InsC.app (InsC.mono hkq68 hlq67 (InsC.mono hok56 hle55 Im2_3_2)) (InsC.one fR78 fC79)
   have xE85:(Lm2_3_2++[(((x71.1.1:Option Addr),x71.1.2),t69.1)]).map (·.2)=(m2_3.2.2.1++[t69.1]) := mapE Em2_3_2 rfl
   refine lv (.pointer (some ⟨g9,(0+2),none⟩)) ?_
   refine ls_storec (g:=g9) (off:=(0+2)) (v:=.slice xA82 (m2_3.2.2.1++[t69.1]).length xc83) (vs:=[Value.slice xA82 (m2_3.2.2.1++[t69.1]).length xc83]) (cs:=([Value.int .i64 m2_3.1]++([Value.slice xA61 (m2_3.2.1++[t48.1]).length xc62]++([Value.slice Am2_3_2 m2_3.2.2.1.length cm2_3_2]++[Value.slice Am2_3_3 m2_3.2.2.2.length cm2_3_3])))) (ty:=27) 2 rfl rfl rfl (by kernel_rfl) (by kernel_rfl) (by kernel_rfl) (by exact rfl) (by kernel_rfl) (len1 _) (one_cons rfl one_nil) (hl_of (Sub4.trans (Sub4.all _) (Sub4.skip (n:=1) (len1 _) (Sub4.skip (n:=1) (len1 _) (Sub4.head _ _)))) (len_eq (len1 _) (len1 _))) (cs' := ([Value.int .i64 m2_3.1]++([Value.slice xA61 (m2_3.2.1++[t48.1]).length xc62]++([Value.slice xA82 (m2_3.2.2.1++[t69.1]).length xc83]++[Value.slice Am2_3_3 m2_3.2.2.2.length cm2_3_3])))) (splc_in (Sub4.all _) (splc_skip (n:=1) (len1 _) (splc_skip (n:=1) (len1 _) (splc_head (len_eq (len1 _) (len1 _))))) (splc_all (len_eq (len_app (len1 _) (len_app (len1 _) (len_app (len1 _) (len1 _)))) (len_app (len1 _) (len_app (len1 _) (len_app (len1 _) (len1 _)))))) (hl_of (Sub4.skip (n:=1) (len1 _) (Sub4.skip (n:=1) (len1 _) (Sub4.head _ _))) (len_eq (len1 _) (len1 _)))) ?_
   refine ls_end ?_
   refine qn_block ?_
   refine qn_then ?_
   refine cs_region (l:=[_,_]) ?_
   refine lv (.int .i64 (IntKind.wrap .i64 (x19_3+(1:Int)))) ?_
   refine lv (.int .i64 (IntKind.wrap .i64 (x19_3+(1:Int)))) ?_
   refine ls_end ?_
   refine qn_againb k3 (sput (sput (sput (sput (sput (sput s0 0 (some (Ck.var 27 g1 (([Value.int .i64 (0:Int)]++([Value.slice none 0 0]++([Value.slice none 0 0]++[Value.slice none 0 0]))))))) 1 (some (Ck.var 74 g2 (([Value.slice x71.2.1 t69.2.1.length x71.2.2]++[Value.bool t69.2.2]))))) 2 (some (Ck.var 27 g9 (([Value.int .i64 m2_3.1]++([Value.slice xA61 (m2_3.2.1++[t48.1]).length xc62]++([Value.slice xA82 (m2_3.2.2.1++[t69.1]).length xc83]++[Value.slice Am2_3_3 m2_3.2.2.2.length cm2_3_3]))))))) 3 (some (Ck.sl (Ec.sls 23 Int) xA61 xc62 (Lm2_3_1++[(((x50.1.1:Option Addr),x50.1.2),t48.1)])))) 4 (some (Ck.sl (Ec.sls 23 Int) xA82 xc83 (Lm2_3_2++[(((x71.1.1:Option Addr),x71.1.2),t69.1)])))) 5 (some (Ck.sl T44 Am2_3_3 cm2_3_3 m2_3.2.2.2))) (Nat.le_refl _) ⟨_,x50.1.1,x50.1.2,t48.1,(IntKind.wrap .i64 (x19_3+(1:Int))),x71.2.1,x71.2.2,(t69.2.1,t69.2.2),xA61,xc62,(Lm2_3_1++[(((x50.1.1:Option Addr),x50.1.2),t48.1)]),xA82,xc83,(Lm2_3_2++[(((x71.1.1:Option Addr),x71.1.2),t69.1)]),Am2_3_3,cm2_3_3,(m2_3.1,(m2_3.2.1++[t48.1]),(m2_3.2.2.1++[t69.1]),m2_3.2.2.2),fr_next (fr_next (fr_next (fr_next (fr_next (fr_next (fr_next (rfl) (by kernel_rfl)) (by kernel_rfl)) (by kernel_rfl)) (by kernel_rfl)) (by kernel_rfl)) (by kernel_rfl)) (by kernel_rfl),rfl,(Ro.mono hkq68 hlq67 fR57),fC58,fR72,fC73,(InsC.mono hkq68 hlq67 xI63),xE64,xI84,xE85,((hleh3.trans hle55).trans hlq67),(Ro.mono hkq68 hlq67 (Ro.mono hok56 hle55 Rb0_3)),H⟩ (sub_put (by exact rfl) (sub_put (by exact rfl) (sub_put (by exact rfl) (sub_put (by exact rfl) (sub_put (by exact rfl) (sub_put (by exact rfl) (sub_nil _)))))))
  replace H := ite_f q65 H
  refine cs_know (c:=false) (dec_f q65) 36 (by kernel_rfl) ?_
  refine cs_false (by kernel_rfl) ?_
  obtain ⟨t86,hc87,H⟩ := bind_some H
  refine cs_sub (sput (sput (sput (sput (sput (sput (sput s0 0 (some (Ck.var 27 g1 (([Value.int .i64 (0:Int)]++([Value.slice none 0 0]++([Value.slice none 0 0]++[Value.slice none 0 0]))))))) 1 (some (Ck.var 74 g2 (([Value.slice x50.2.1 t48.2.1.length x50.2.2]++[Value.bool t48.2.2]))))) 2 (some (Ck.var 27 g9 (([Value.int .i64 m2_3.1]++([Value.slice xA61 (m2_3.2.1++[t48.1]).length xc62]++([Value.slice Am2_3_2 m2_3.2.2.1.length cm2_3_2]++[Value.slice Am2_3_3 m2_3.2.2.2.length cm2_3_3]))))))) 3 (some (Ck.sl (Ec.sls 23 Int) xA61 xc62 (Lm2_3_1++[(((x50.1.1:Option Addr),x50.1.2),t48.1)])))) 4 (some (Ck.sl (Ec.sls 23 Int) Am2_3_2 cm2_3_2 Lm2_3_2))) 5 (some (Ck.sl T44 Am2_3_3 cm2_3_3 m2_3.2.2.2))) 7 (some (Ck.sl (Ec.sls 23 Int) (some ⟨g59,0,none⟩) ([(((x50.1.1:Option Addr),x50.1.2),t48.1)].length) ([(((x50.1.1:Option Addr),x50.1.2),t48.1)])))) (sub_put (by exact rfl) (sub_put (by exact rfl) (sub_put (by exact rfl) (sub_put (by exact rfl) (sub_put (by exact rfl) (sub_put (by exact rfl) (sub_put (by exact rfl) (sub_nil _)))))))) ?_
  refine cs_chain (l:=[_,_,_,_,_,_,_,_]) [[],[0],[],[2],[2,3],[0,1,2,3,4],[0,1,2,3,4,5],[0,1,2,3,4,5,6]] 5 (fun u=>[0,2,3,4,5,7].contains u) (efl [false,false,false,true,true]) (pvl [.val (.pointer (some ⟨g9,(0+3),none⟩)),.val (.slice Am2_3_3 m2_3.2.2.2.length cm2_3_3),.val (.pointer (some ⟨g2,0,none⟩)),.val (.agg ⟨([Value.int .i64 t86.1.1]++([Value.int .i64 t86.1.2.1]++([Value.int .i64 t86.1.2.2.1]++([Value.int .u32 t86.1.2.2.2.1]++en (Value.int .u8) t86.1.2.2.2.2.1))))⟩),.eff 4]) (Esl [fun (es:Nat→Value) (S':Sto)=>S'=sput (sput (sput (sput (sput (sput (sput s0 0 (some (Ck.var 27 g1 (([Value.int .i64 (0:Int)]++([Value.slice none 0 0]++([Value.slice none 0 0]++[Value.slice none 0 0]))))))) 1 (some (Ck.var 74 g2 (([Value.slice x50.2.1 t48.2.1.length x50.2.2]++[Value.bool t48.2.2]))))) 2 (some (Ck.var 27 g9 (([Value.int .i64 m2_3.1]++([Value.slice xA61 (m2_3.2.1++[t48.1]).length xc62]++([Value.slice Am2_3_2 m2_3.2.2.1.length cm2_3_2]++[Value.slice Am2_3_3 m2_3.2.2.2.length cm2_3_3]))))))) 3 (some (Ck.sl (Ec.sls 23 Int) xA61 xc62 (Lm2_3_1++[(((x50.1.1:Option Addr),x50.1.2),t48.1)])))) 4 (some (Ck.sl (Ec.sls 23 Int) Am2_3_2 cm2_3_2 Lm2_3_2))) 5 (some (Ck.sl T44 Am2_3_3 cm2_3_3 m2_3.2.2.2))) 7 (some (Ck.sl (Ec.sls 23 Int) (some ⟨g59,0,none⟩) ([(((x50.1.1:Option Addr),x50.1.2),t48.1)].length) ([(((x50.1.1:Option Addr),x50.1.2),t48.1)]))),fun (es:Nat→Value) (S':Sto)=>∃ (x88:(Option Addr × Nat)),es 3=.agg ⟨([Value.int .i64 t86.1.1]++([Value.int .i64 t86.1.2.1]++([Value.int .i64 t86.1.2.2.1]++([Value.int .u32 t86.1.2.2.2.1]++en (Value.int .u8) t86.1.2.2.2.2.1))))⟩∧Ro bs54 x88.1 (em (Ec.int 5 .u8) t86.2.1)∧t86.2.1.length≤x88.2∧S'=sput (sput (sput (sput (sput (sput (sput s0 0 (some (Ck.var 27 g1 (([Value.int .i64 (0:Int)]++([Value.slice none 0 0]++([Value.slice none 0 0]++[Value.slice none 0 0]))))))) 1 (some (Ck.var 74 g2 (([Value.slice x88.1 t86.2.1.length x88.2]++[Value.bool t86.2.2]))))) 2 (some (Ck.var 27 g9 (([Value.int .i64 m2_3.1]++([Value.slice xA61 (m2_3.2.1++[t48.1]).length xc62]++([Value.slice Am2_3_2 m2_3.2.2.1.length cm2_3_2]++[Value.slice Am2_3_3 m2_3.2.2.2.length cm2_3_3]))))))) 3 (some (Ck.sl (Ec.sls 23 Int) xA61 xc62 (Lm2_3_1++[(((x50.1.1:Option Addr),x50.1.2),t48.1)])))) 4 (some (Ck.sl (Ec.sls 23 Int) Am2_3_2 cm2_3_2 Lm2_3_2))) 5 (some (Ck.sl T44 Am2_3_3 cm2_3_3 m2_3.2.2.2))) 7 (some (Ck.sl (Ec.sls 23 Int) (some ⟨g59,0,none⟩) ([(((x50.1.1:Option Addr),x50.1.2),t48.1)].length) ([(((x50.1.1:Option Addr),x50.1.2),t48.1)]))),fun (es:Nat→Value) (S':Sto)=>∃ (x88:(Option Addr × Nat)) (g92:Nat),es 3=.agg ⟨([Value.int .i64 t86.1.1]++([Value.int .i64 t86.1.2.1]++([Value.int .i64 t86.1.2.2.1]++([Value.int .u32 t86.1.2.2.2.1]++en (Value.int .u8) t86.1.2.2.2.2.1))))⟩∧es 4=.slice (some ⟨g92,0,none⟩) [t86.1].length [t86.1].length∧Ro bs54 x88.1 (em (Ec.int 5 .u8) t86.2.1)∧t86.2.1.length≤x88.2∧S'=sput (sput (sput (sput (sput (sput (sput (sput s0 0 (some (Ck.var 27 g1 (([Value.int .i64 (0:Int)]++([Value.slice none 0 0]++([Value.slice none 0 0]++[Value.slice none 0 0]))))))) 1 (some (Ck.var 74 g2 (([Value.slice x88.1 t86.2.1.length x88.2]++[Value.bool t86.2.2]))))) 2 (some (Ck.var 27 g9 (([Value.int .i64 m2_3.1]++([Value.slice xA61 (m2_3.2.1++[t48.1]).length xc62]++([Value.slice Am2_3_2 m2_3.2.2.1.length cm2_3_2]++[Value.slice Am2_3_3 m2_3.2.2.2.length cm2_3_3]))))))) 3 (some (Ck.sl (Ec.sls 23 Int) xA61 xc62 (Lm2_3_1++[(((x50.1.1:Option Addr),x50.1.2),t48.1)])))) 4 (some (Ck.sl (Ec.sls 23 Int) Am2_3_2 cm2_3_2 Lm2_3_2))) 5 (some (Ck.sl T44 Am2_3_3 cm2_3_3 m2_3.2.2.2))) 7 (some (Ck.sl (Ec.sls 23 Int) (some ⟨g59,0,none⟩) ([(((x50.1.1:Option Addr),x50.1.2),t48.1)].length) ([(((x50.1.1:Option Addr),x50.1.2),t48.1)])))) 8 (some (Ck.sl T44 (some ⟨g92,0,none⟩) ([t86.1].length) ([t86.1])))] [0,0,0,0,1,2]) (nxl [0,0,0,4,5]) (onl [true,true,true,true,true]) 3 (by kernel_rfl) (by kernel_rfl) (by kernel_rfl) (by kernel_rfl) (by kernel_rfl) (rs:=[_,_,_]) rfl (by kernel_rfl) (by kernel_rfl) (fun es=>?_) ?_ ?_
  ·exact (rfl:sput (sput (sput (sput (sput (sput (sput s0 0 (some (Ck.var 27 g1 (([Value.int .i64 (0:Int)]++([Value.slice none 0 0]++([Value.slice none 0 0]++[Value.slice none 0 0]))))))) 1 (some (Ck.var 74 g2 (([Value.slice x50.2.1 t48.2.1.length x50.2.2]++[Value.bool t48.2.2]))))) 2 (some (Ck.var 27 g9 (([Value.int .i64 m2_3.1]++([Value.slice xA61 (m2_3.2.1++[t48.1]).length xc62]++([Value.slice Am2_3_2 m2_3.2.2.1.length cm2_3_2]++[Value.slice Am2_3_3 m2_3.2.2.2.length cm2_3_3]))))))) 3 (some (Ck.sl (Ec.sls 23 Int) xA61 xc62 (Lm2_3_1++[(((x50.1.1:Option Addr),x50.1.2),t48.1)])))) 4 (some (Ck.sl (Ec.sls 23 Int) Am2_3_2 cm2_3_2 Lm2_3_2))) 5 (some (Ck.sl T44 Am2_3_3 cm2_3_3 m2_3.2.2.2))) 7 (some (Ck.sl (Ec.sls 23 Int) (some ⟨g59,0,none⟩) ([(((x50.1.1:Option Addr),x50.1.2),t48.1)].length) ([(((x50.1.1:Option Addr),x50.1.2),t48.1)])))=sput (sput (sput (sput (sput (sput (sput s0 0 (some (Ck.var 27 g1 (([Value.int .i64 (0:Int)]++([Value.slice none 0 0]++([Value.slice none 0 0]++[Value.slice none 0 0]))))))) 1 (some (Ck.var 74 g2 (([Value.slice x50.2.1 t48.2.1.length x50.2.2]++[Value.bool t48.2.2]))))) 2 (some (Ck.var 27 g9 (([Value.int .i64 m2_3.1]++([Value.slice xA61 (m2_3.2.1++[t48.1]).length xc62]++([Value.slice Am2_3_2 m2_3.2.2.1.length cm2_3_2]++[Value.slice Am2_3_3 m2_3.2.2.2.length cm2_3_3]))))))) 3 (some (Ck.sl (Ec.sls 23 Int) xA61 xc62 (Lm2_3_1++[(((x50.1.1:Option Addr),x50.1.2),t48.1)])))) 4 (some (Ck.sl (Ec.sls 23 Int) Am2_3_2 cm2_3_2 Lm2_3_2))) 5 (some (Ck.sl T44 Am2_3_3 cm2_3_3 m2_3.2.2.2))) 7 (some (Ck.sl (Ec.sls 23 Int) (some ⟨g59,0,none⟩) ([(((x50.1.1:Option Addr),x50.1.2),t48.1)].length) ([(((x50.1.1:Option Addr),x50.1.2),t48.1)]))))
  ·refine all_snoc (all_snoc (all_snoc (all_snoc (all_snoc (all_nil) ?_) ?_) ?_) ?_) ?_
   ·refine ⟨fun o ho es vs f' S' hve hvp hf hx hK hE=>?_⟩
    obtain rfl := Option.some.inj ho
    refine ⟨want_none rfl,fun _ _=>?_,(fun _ h=>by cases h),(fun h _=>by cases h),(fun h _=>by cases h)⟩
    have hF := fr_next (rfl) ((hx 5 (by kernel_rfl)).trans (by kernel_rfl:(_:Value)=.pointer (some ⟨g9,0,none⟩)))
    refine ls_fr hF ?_
    refine lv (.pointer (some ⟨g9,(0+3),none⟩)) ?_
    exact ls_finp (.pointer (some ⟨g9,(0+3),none⟩)) (congrArg (fun z=>upd z 44 _) hF.symm) rfl
   ·refine ⟨fun o ho es vs f' S' hve hvp hf hx hK hE=>?_⟩
    obtain rfl := Option.some.inj ho
    refine ⟨want_none rfl,fun _ _=>?_,(fun _ h=>by cases h),(fun h _=>by cases h),(fun h _=>by cases h)⟩
    have hF := fr_next (rfl) ((hf 0 44 (by kernel_rfl) rfl).trans (show vs 0=.pointer (some ⟨g9,(0+3),none⟩) from hvp 0 (by kernel_rfl)))
    refine ls_fr hF ?_
    refine ls_load (a0:=⟨g9,(0+3),none⟩) (v:=.slice Am2_3_3 m2_3.2.2.2.length cm2_3_3) (de:=(TypeDesc.slice 44)) rfl rfl (by kernel_rfl) rfl (by kernel_rfl) (by kernel_rfl) (by kernel_rfl) (fun w hs=>(hs.var (k:=2) ((hK 2 (by rfl)).trans (by exact rfl)) (Sub4.trans (Sub4.all _) (Sub4.skip (n:=1) (len1 _) (Sub4.skip (n:=1) (len1 _) (Sub4.skip (n:=1) (len1 _) (Sub4.all _))))))) ?_
    exact ls_finp (.slice Am2_3_3 m2_3.2.2.2.length cm2_3_3) (congrArg (fun z=>upd z 45 _) hF.symm) rfl
   ·refine ⟨fun o ho es vs f' S' hve hvp hf hx hK hE=>?_⟩
    obtain rfl := Option.some.inj ho
    refine ⟨want_none rfl,fun _ _=>?_,(fun _ h=>by cases h),(fun h _=>by cases h),(fun h _=>by cases h)⟩
    have hF := fr_next (rfl) ((hx 4 (by kernel_rfl)).trans (by kernel_rfl:(_:Value)=.pointer (some ⟨g2,0,none⟩)))
    refine ls_fr hF ?_
    refine lv (.pointer (some ⟨g2,0,none⟩)) ?_
    exact ls_finp (.pointer (some ⟨g2,0,none⟩)) (congrArg (fun z=>upd z 46 _) hF.symm) rfl
   ·refine ⟨fun o ho es vs f' S' hve hvp hf hx hK hE=>?_⟩
    obtain rfl := Option.some.inj ho
    obtain rfl := hE rfl
    refine ⟨want_none rfl,(fun h _=>by cases h),(fun h _=>by cases h),fun _ _=>?_,(fun _ h=>by cases h)⟩
    have hF := fr_next (rfl) ((hf 2 46 (by kernel_rfl) rfl).trans (show vs 2=.pointer (some ⟨g2,0,none⟩) from hvp 2 (by kernel_rfl)))
    refine ls_fr hF ?_
    refine ls_callg (fid:=34) (vals:=#[.pointer (some ⟨g2,0,none⟩)]) (X:=(Option Addr × Nat)) (fun x=>.agg ⟨([Value.int .i64 t86.1.1]++([Value.int .i64 t86.1.2.1]++([Value.int .i64 t86.1.2.2.1]++([Value.int .u32 t86.1.2.2.2.1]++en (Value.int .u8) t86.1.2.2.2.2.1))))⟩) (fun x=>stl [Ck.var 74 g2 (([Value.slice x.1 t86.2.1.length x.2]++[Value.bool t86.2.2]))]) (fun x B=>(Ro B x.1 (em (Ec.int 5 .u8) t86.2.1)∧t86.2.1.length≤x.2)) [1] [Ck.var 74 g2 (([Value.slice x50.2.1 t48.2.1.length x50.2.2]++[Value.bool t48.2.2]))] 8 rfl rfl (by kernel_rfl) (fun w=>by kernel_rfl) ⟨by exact rfl,trivial⟩ (by decide) (fun x b b' h hf=>⟨h _ _ hf.1,hf.2⟩) (fun w hs hb=>leaf_reader_kid.calls k3 g2 x50.2.1 x50.2.2 (t48.2.1,t48.2.2) t86 (lent bs54 w [Ck.var 74 g2 (([Value.slice x50.2.1 t48.2.1.length x50.2.2]++[Value.bool t48.2.2]))] []) hb (hs.ro (Ro.mono hok56 hle55 fR51) _ _) fC52 hc87) ?_
    intro x88 hf91
    obtain ⟨fR89,fC90⟩ := hf91
    exact ls_fine (sput (sput (sput (sput (sput (sput (sput s0 0 (some (Ck.var 27 g1 (([Value.int .i64 (0:Int)]++([Value.slice none 0 0]++([Value.slice none 0 0]++[Value.slice none 0 0]))))))) 1 (some (Ck.var 74 g2 (([Value.slice x88.1 t86.2.1.length x88.2]++[Value.bool t86.2.2]))))) 2 (some (Ck.var 27 g9 (([Value.int .i64 m2_3.1]++([Value.slice xA61 (m2_3.2.1++[t48.1]).length xc62]++([Value.slice Am2_3_2 m2_3.2.2.1.length cm2_3_2]++[Value.slice Am2_3_3 m2_3.2.2.2.length cm2_3_3]))))))) 3 (some (Ck.sl (Ec.sls 23 Int) xA61 xc62 (Lm2_3_1++[(((x50.1.1:Option Addr),x50.1.2),t48.1)])))) 4 (some (Ck.sl (Ec.sls 23 Int) Am2_3_2 cm2_3_2 Lm2_3_2))) 5 (some (Ck.sl T44 Am2_3_3 cm2_3_3 m2_3.2.2.2))) 7 (some (Ck.sl (Ec.sls 23 Int) (some ⟨g59,0,none⟩) ([(((x50.1.1:Option Addr),x50.1.2),t48.1)].length) ([(((x50.1.1:Option Addr),x50.1.2),t48.1)])))) (.agg ⟨([Value.int .i64 t86.1.1]++([Value.int .i64 t86.1.2.1]++([Value.int .i64 t86.1.2.2.1]++([Value.int .u32 t86.1.2.2.2.1]++en (Value.int .u8) t86.1.2.2.2.2.1))))⟩) (congrArg (fun z=>upd z 47 _) hF.symm) (show (fun (es:Nat→Value) (S':Sto)=>∃ (x88:(Option Addr × Nat)),es 3=.agg ⟨([Value.int .i64 t86.1.1]++([Value.int .i64 t86.1.2.1]++([Value.int .i64 t86.1.2.2.1]++([Value.int .u32 t86.1.2.2.2.1]++en (Value.int .u8) t86.1.2.2.2.2.1))))⟩∧Ro bs54 x88.1 (em (Ec.int 5 .u8) t86.2.1)∧t86.2.1.length≤x88.2∧S'=sput (sput (sput (sput (sput (sput (sput s0 0 (some (Ck.var 27 g1 (([Value.int .i64 (0:Int)]++([Value.slice none 0 0]++([Value.slice none 0 0]++[Value.slice none 0 0]))))))) 1 (some (Ck.var 74 g2 (([Value.slice x88.1 t86.2.1.length x88.2]++[Value.bool t86.2.2]))))) 2 (some (Ck.var 27 g9 (([Value.int .i64 m2_3.1]++([Value.slice xA61 (m2_3.2.1++[t48.1]).length xc62]++([Value.slice Am2_3_2 m2_3.2.2.1.length cm2_3_2]++[Value.slice Am2_3_3 m2_3.2.2.2.length cm2_3_3]))))))) 3 (some (Ck.sl (Ec.sls 23 Int) xA61 xc62 (Lm2_3_1++[(((x50.1.1:Option Addr),x50.1.2),t48.1)])))) 4 (some (Ck.sl (Ec.sls 23 Int) Am2_3_2 cm2_3_2 Lm2_3_2))) 5 (some (Ck.sl T44 Am2_3_3 cm2_3_3 m2_3.2.2.2))) 7 (some (Ck.sl (Ec.sls 23 Int) (some ⟨g59,0,none⟩) ([(((x50.1.1:Option Addr),x50.1.2),t48.1)].length) ([(((x50.1.1:Option Addr),x50.1.2),t48.1)])))) (upv es 3 (.agg ⟨([Value.int .i64 t86.1.1]++([Value.int .i64 t86.1.2.1]++([Value.int .i64 t86.1.2.2.1]++([Value.int .u32 t86.1.2.2.2.1]++en (Value.int .u8) t86.1.2.2.2.2.1))))⟩)) (sput (sput (sput (sput (sput (sput (sput s0 0 (some (Ck.var 27 g1 (([Value.int .i64 (0:Int)]++([Value.slice none 0 0]++([Value.slice none 0 0]++[Value.slice none 0 0]))))))) 1 (some (Ck.var 74 g2 (([Value.slice x88.1 t86.2.1.length x88.2]++[Value.bool t86.2.2]))))) 2 (some (Ck.var 27 g9 (([Value.int .i64 m2_3.1]++([Value.slice xA61 (m2_3.2.1++[t48.1]).length xc62]++([Value.slice Am2_3_2 m2_3.2.2.1.length cm2_3_2]++[Value.slice Am2_3_3 m2_3.2.2.2.length cm2_3_3]))))))) 3 (some (Ck.sl (Ec.sls 23 Int) xA61 xc62 (Lm2_3_1++[(((x50.1.1:Option Addr),x50.1.2),t48.1)])))) 4 (some (Ck.sl (Ec.sls 23 Int) Am2_3_2 cm2_3_2 Lm2_3_2))) 5 (some (Ck.sl T44 Am2_3_3 cm2_3_3 m2_3.2.2.2))) 7 (some (Ck.sl (Ec.sls 23 Int) (some ⟨g59,0,none⟩) ([(((x50.1.1:Option Addr),x50.1.2),t48.1)].length) ([(((x50.1.1:Option Addr),x50.1.2),t48.1)])))) from ⟨x88,rfl,fR89,fC90,rfl⟩) rfl (keep_cons (by exact rfl) (keep_cons (by exact rfl) (keep_cons (by exact rfl) (keep_cons (by exact rfl) (keep_cons (by exact rfl) (keep_cons (by exact rfl) (keep_nil))))))) (sub_put (by exact rfl) (sub_put (by exact rfl) (sub_put (by exact rfl) (sub_put (by exact rfl) (sub_put (by exact rfl) (sub_put (by exact rfl) (sub_put (by exact rfl) (sub_nil _))))))))
   refine ⟨fun o ho es vs f' S' hve hvp hf hx hK hE=>?_⟩
   obtain rfl := Option.some.inj ho
   obtain ⟨x88,hv3,fR89,fC90,rfl⟩ := hE rfl
   refine ⟨want_none rfl,(fun h _=>by cases h),(fun h _=>by cases h),fun _ _=>?_,(fun _ h=>by cases h)⟩
   have hF := fr_next (rfl) ((hf 3 47 (by kernel_rfl) rfl).trans (show vs 3=.agg ⟨([Value.int .i64 t86.1.1]++([Value.int .i64 t86.1.2.1]++([Value.int .i64 t86.1.2.2.1]++([Value.int .u32 t86.1.2.2.2.1]++en (Value.int .u8) t86.1.2.2.2.2.1))))⟩ from hvp 3 (by kernel_rfl)))
   refine ls_fr hF ?_
   refine ls_lit1 (T:=T44) 8 t86.1 rfl rfl (by kernel_rfl) rfl rfl (by kernel_rfl) (by kernel_rfl) (by kernel_rfl) ?_
   intro g92
   exact ls_fine (sput (sput (sput (sput (sput (sput (sput (sput s0 0 (some (Ck.var 27 g1 (([Value.int .i64 (0:Int)]++([Value.slice none 0 0]++([Value.slice none 0 0]++[Value.slice none 0 0]))))))) 1 (some (Ck.var 74 g2 (([Value.slice x88.1 t86.2.1.length x88.2]++[Value.bool t86.2.2]))))) 2 (some (Ck.var 27 g9 (([Value.int .i64 m2_3.1]++([Value.slice xA61 (m2_3.2.1++[t48.1]).length xc62]++([Value.slice Am2_3_2 m2_3.2.2.1.length cm2_3_2]++[Value.slice Am2_3_3 m2_3.2.2.2.length cm2_3_3]))))))) 3 (some (Ck.sl (Ec.sls 23 Int) xA61 xc62 (Lm2_3_1++[(((x50.1.1:Option Addr),x50.1.2),t48.1)])))) 4 (some (Ck.sl (Ec.sls 23 Int) Am2_3_2 cm2_3_2 Lm2_3_2))) 5 (some (Ck.sl T44 Am2_3_3 cm2_3_3 m2_3.2.2.2))) 7 (some (Ck.sl (Ec.sls 23 Int) (some ⟨g59,0,none⟩) ([(((x50.1.1:Option Addr),x50.1.2),t48.1)].length) ([(((x50.1.1:Option Addr),x50.1.2),t48.1)])))) 8 (some (Ck.sl T44 (some ⟨g92,0,none⟩) ([t86.1].length) ([t86.1])))) (.slice (some ⟨g92,0,none⟩) [t86.1].length [t86.1].length) (congrArg (fun z=>upd z 48 _) hF.symm) (show (fun (es:Nat→Value) (S':Sto)=>∃ (x88:(Option Addr × Nat)) (g92:Nat),es 3=.agg ⟨([Value.int .i64 t86.1.1]++([Value.int .i64 t86.1.2.1]++([Value.int .i64 t86.1.2.2.1]++([Value.int .u32 t86.1.2.2.2.1]++en (Value.int .u8) t86.1.2.2.2.2.1))))⟩∧es 4=.slice (some ⟨g92,0,none⟩) [t86.1].length [t86.1].length∧Ro bs54 x88.1 (em (Ec.int 5 .u8) t86.2.1)∧t86.2.1.length≤x88.2∧S'=sput (sput (sput (sput (sput (sput (sput (sput s0 0 (some (Ck.var 27 g1 (([Value.int .i64 (0:Int)]++([Value.slice none 0 0]++([Value.slice none 0 0]++[Value.slice none 0 0]))))))) 1 (some (Ck.var 74 g2 (([Value.slice x88.1 t86.2.1.length x88.2]++[Value.bool t86.2.2]))))) 2 (some (Ck.var 27 g9 (([Value.int .i64 m2_3.1]++([Value.slice xA61 (m2_3.2.1++[t48.1]).length xc62]++([Value.slice Am2_3_2 m2_3.2.2.1.length cm2_3_2]++[Value.slice Am2_3_3 m2_3.2.2.2.length cm2_3_3]))))))) 3 (some (Ck.sl (Ec.sls 23 Int) xA61 xc62 (Lm2_3_1++[(((x50.1.1:Option Addr),x50.1.2),t48.1)])))) 4 (some (Ck.sl (Ec.sls 23 Int) Am2_3_2 cm2_3_2 Lm2_3_2))) 5 (some (Ck.sl T44 Am2_3_3 cm2_3_3 m2_3.2.2.2))) 7 (some (Ck.sl (Ec.sls 23 Int) (some ⟨g59,0,none⟩) ([(((x50.1.1:Option Addr),x50.1.2),t48.1)].length) ([(((x50.1.1:Option Addr),x50.1.2),t48.1)])))) 8 (some (Ck.sl T44 (some ⟨g92,0,none⟩) ([t86.1].length) ([t86.1])))) (upv es 4 (.slice (some ⟨g92,0,none⟩) [t86.1].length [t86.1].length)) (sput (sput (sput (sput (sput (sput (sput (sput s0 0 (some (Ck.var 27 g1 (([Value.int .i64 (0:Int)]++([Value.slice none 0 0]++([Value.slice none 0 0]++[Value.slice none 0 0]))))))) 1 (some (Ck.var 74 g2 (([Value.slice x88.1 t86.2.1.length x88.2]++[Value.bool t86.2.2]))))) 2 (some (Ck.var 27 g9 (([Value.int .i64 m2_3.1]++([Value.slice xA61 (m2_3.2.1++[t48.1]).length xc62]++([Value.slice Am2_3_2 m2_3.2.2.1.length cm2_3_2]++[Value.slice Am2_3_3 m2_3.2.2.2.length cm2_3_3]))))))) 3 (some (Ck.sl (Ec.sls 23 Int) xA61 xc62 (Lm2_3_1++[(((x50.1.1:Option Addr),x50.1.2),t48.1)])))) 4 (some (Ck.sl (Ec.sls 23 Int) Am2_3_2 cm2_3_2 Lm2_3_2))) 5 (some (Ck.sl T44 Am2_3_3 cm2_3_3 m2_3.2.2.2))) 7 (some (Ck.sl (Ec.sls 23 Int) (some ⟨g59,0,none⟩) ([(((x50.1.1:Option Addr),x50.1.2),t48.1)].length) ([(((x50.1.1:Option Addr),x50.1.2),t48.1)])))) 8 (some (Ck.sl T44 (some ⟨g92,0,none⟩) ([t86.1].length) ([t86.1])))) from ⟨x88,g92,hv3,rfl,fR89,fC90,rfl⟩) rfl (keep_cons (by exact rfl) (keep_cons (by exact rfl) (keep_cons (by exact rfl) (keep_cons (by exact rfl) (keep_cons (by exact rfl) (keep_cons (by exact rfl) (keep_nil))))))) (sub_put (by exact rfl) (sub_put (by exact rfl) (sub_put (by exact rfl) (sub_put (by exact rfl) (sub_put (by exact rfl) (sub_put (by exact rfl) (sub_put (by exact rfl) (sub_put (by exact rfl) (sub_nil _)))))))))
  intro es vs f' S' hve hvp hf hx hK hE
  obtain ⟨x88,g92,hv3,hv4,fR89,fC90,rfl⟩ := hE
  refine ls_fr (F:=upd (upd (upd (upd (upd (upd (upd (upd (upd f' 0 (.slice A0 l0.length c0)) 2 (.pointer (some ⟨g1,0,none⟩))) 4 (.pointer (some ⟨g2,0,none⟩))) 5 (.pointer (some ⟨g9,0,none⟩))) 6 (.slice x50.1.1 t48.1.length x50.1.2)) 18 (.int .i64 t42.1)) 19 (.int .i64 x19_3)) 45 (.slice Am2_3_3 m2_3.2.2.2.length cm2_3_3)) 48 (.slice (some ⟨g92,0,none⟩) [t86.1].length [t86.1].length)) (fr_next (fr_next (fr_next (fr_next (fr_next (fr_next (fr_next (fr_next (fr_next (rfl) ((hx 0 (by kernel_rfl)).trans (by kernel_rfl:(_:Value)=.slice A0 l0.length c0))) ((hx 2 (by kernel_rfl)).trans (by kernel_rfl:(_:Value)=.pointer (some ⟨g1,0,none⟩)))) ((hx 4 (by kernel_rfl)).trans (by kernel_rfl:(_:Value)=.pointer (some ⟨g2,0,none⟩)))) ((hx 5 (by kernel_rfl)).trans (by kernel_rfl:(_:Value)=.pointer (some ⟨g9,0,none⟩)))) ((hx 6 (by kernel_rfl)).trans (by kernel_rfl:(_:Value)=.slice x50.1.1 t48.1.length x50.1.2))) ((hx 18 (by kernel_rfl)).trans (by kernel_rfl:(_:Value)=.int .i64 t42.1))) ((hx 19 (by kernel_rfl)).trans (by kernel_rfl:(_:Value)=.int .i64 x19_3))) ((hf 1 45 (by kernel_rfl) rfl).trans (show vs 1=.slice Am2_3_3 m2_3.2.2.2.length cm2_3_3 from hvp 1 (by kernel_rfl)))) (((hf 4 48 (by kernel_rfl) rfl).trans (show vs 4=es 4 from hvp 4 (by kernel_rfl))).trans hv4)) ?_
  refine ls_sub (sput (sput (sput (sput (sput (sput (sput s0 0 (some (Ck.var 27 g1 (([Value.int .i64 (0:Int)]++([Value.slice none 0 0]++([Value.slice none 0 0]++[Value.slice none 0 0]))))))) 1 (some (Ck.var 74 g2 (([Value.slice x88.1 t86.2.1.length x88.2]++[Value.bool t86.2.2]))))) 2 (some (Ck.var 27 g9 (([Value.int .i64 m2_3.1]++([Value.slice xA61 (m2_3.2.1++[t48.1]).length xc62]++([Value.slice Am2_3_2 m2_3.2.2.1.length cm2_3_2]++[Value.slice Am2_3_3 m2_3.2.2.2.length cm2_3_3]))))))) 3 (some (Ck.sl (Ec.sls 23 Int) xA61 xc62 (Lm2_3_1++[(((x50.1.1:Option Addr),x50.1.2),t48.1)])))) 4 (some (Ck.sl (Ec.sls 23 Int) Am2_3_2 cm2_3_2 Lm2_3_2))) 5 (some (Ck.sl T44 Am2_3_3 cm2_3_3 m2_3.2.2.2))) 8 (some (Ck.sl T44 (some ⟨g92,0,none⟩) ([t86.1].length) ([t86.1])))) (sub_put (by exact rfl) (sub_put (by exact rfl) (sub_put (by exact rfl) (sub_put (by exact rfl) (sub_put (by exact rfl) (sub_put (by exact rfl) (sub_put (by exact rfl) (sub_nil _)))))))) ?_
  obtain ⟨q93,H⟩ := ite_need H
  refine ls_app T44 (A:=Am2_3_3) (c:=cm2_3_3) (B:=(some ⟨g92,0,none⟩)) (cb:=[t86.1].length) (z:=(.agg ⟨([Value.int .i64 (0:Int)]++([Value.int .i64 (0:Int)]++([Value.int .i64 (0:Int)]++([Value.int .u32 (0:Int)]++en (Value.int .u8) (vrep 32 (0:Int)).1))))⟩)) (l:=m2_3.2.2.2) (m:=[t86.1]) (bytes:=64) 5 rfl rfl (by kernel_rfl) rfl (by kernel_rfl) (by exact rfl) (by kernel_rfl) (fun w hs=>(hs.rd (k:=8) (by exact rfl))) (by kernel_rfl) (by kernel_rfl) rfl (by decide) q93 ?_
  intro xA94 xc95
  refine lv (.pointer (some ⟨g9,(0+3),none⟩)) ?_
  refine ls_storec (g:=g9) (off:=(0+3)) (v:=.slice xA94 (m2_3.2.2.2++[t86.1]).length xc95) (vs:=[Value.slice xA94 (m2_3.2.2.2++[t86.1]).length xc95]) (cs:=([Value.int .i64 m2_3.1]++([Value.slice xA61 (m2_3.2.1++[t48.1]).length xc62]++([Value.slice Am2_3_2 m2_3.2.2.1.length cm2_3_2]++[Value.slice Am2_3_3 m2_3.2.2.2.length cm2_3_3])))) (ty:=27) 2 rfl rfl rfl (by kernel_rfl) (by kernel_rfl) (by kernel_rfl) (by exact rfl) (by kernel_rfl) (len1 _) (one_cons rfl one_nil) (hl_of (Sub4.trans (Sub4.all _) (Sub4.skip (n:=1) (len1 _) (Sub4.skip (n:=1) (len1 _) (Sub4.skip (n:=1) (len1 _) (Sub4.all _))))) (len_eq (len1 _) (len1 _))) (cs' := ([Value.int .i64 m2_3.1]++([Value.slice xA61 (m2_3.2.1++[t48.1]).length xc62]++([Value.slice Am2_3_2 m2_3.2.2.1.length cm2_3_2]++[Value.slice xA94 (m2_3.2.2.2++[t86.1]).length xc95])))) (splc_in (Sub4.all _) (splc_skip (n:=1) (len1 _) (splc_skip (n:=1) (len1 _) (splc_skip (n:=1) (len1 _) (splc_all (len_eq (len1 _) (len1 _)))))) (splc_all (len_eq (len_app (len1 _) (len_app (len1 _) (len_app (len1 _) (len1 _)))) (len_app (len1 _) (len_app (len1 _) (len_app (len1 _) (len1 _)))))) (hl_of (Sub4.skip (n:=1) (len1 _) (Sub4.skip (n:=1) (len1 _) (Sub4.skip (n:=1) (len1 _) (Sub4.all _)))) (len_eq (len1 _) (len1 _)))) ?_
  refine ls_end ?_
  refine qn_block ?_
  refine qn_then ?_
  refine cs_region (l:=[_,_]) ?_
  refine lv (.int .i64 (IntKind.wrap .i64 (x19_3+(1:Int)))) ?_
  refine lv (.int .i64 (IntKind.wrap .i64 (x19_3+(1:Int)))) ?_
  refine ls_end ?_
  refine qn_againb k3 (sput (sput (sput (sput (sput (sput s0 0 (some (Ck.var 27 g1 (([Value.int .i64 (0:Int)]++([Value.slice none 0 0]++([Value.slice none 0 0]++[Value.slice none 0 0]))))))) 1 (some (Ck.var 74 g2 (([Value.slice x88.1 t86.2.1.length x88.2]++[Value.bool t86.2.2]))))) 2 (some (Ck.var 27 g9 (([Value.int .i64 m2_3.1]++([Value.slice xA61 (m2_3.2.1++[t48.1]).length xc62]++([Value.slice Am2_3_2 m2_3.2.2.1.length cm2_3_2]++[Value.slice xA94 (m2_3.2.2.2++[t86.1]).length xc95]))))))) 3 (some (Ck.sl (Ec.sls 23 Int) xA61 xc62 (Lm2_3_1++[(((x50.1.1:Option Addr),x50.1.2),t48.1)])))) 4 (some (Ck.sl (Ec.sls 23 Int) Am2_3_2 cm2_3_2 Lm2_3_2))) 5 (some (Ck.sl T44 xA94 xc95 (m2_3.2.2.2++[t86.1])))) (Nat.le_refl _) ⟨_,x50.1.1,x50.1.2,t48.1,(IntKind.wrap .i64 (x19_3+(1:Int))),x88.1,x88.2,(t86.2.1,t86.2.2),xA61,xc62,(Lm2_3_1++[(((x50.1.1:Option Addr),x50.1.2),t48.1)]),Am2_3_2,cm2_3_2,Lm2_3_2,xA94,xc95,(m2_3.1,(m2_3.2.1++[t48.1]),m2_3.2.2.1,(m2_3.2.2.2++[t86.1])),fr_next (fr_next (fr_next (fr_next (fr_next (fr_next (fr_next (rfl) (by kernel_rfl)) (by kernel_rfl)) (by kernel_rfl)) (by kernel_rfl)) (by kernel_rfl)) (by kernel_rfl)) (by kernel_rfl),rfl,fR57,fC58,fR89,fC90,xI63,xE64,(InsC.mono hok56 hle55 Im2_3_2),Em2_3_2,(hleh3.trans hle55),(Ro.mono hok56 hle55 Rb0_3),H⟩ (sub_put (by exact rfl) (sub_put (by exact rfl) (sub_put (by exact rfl) (sub_put (by exact rfl) (sub_put (by exact rfl) (sub_put (by exact rfl) (sub_nil _)))))))
 rintro bh2 f S ⟨fr2,Am1_2_0,cm1_2_0,m1_2,Am2_2_1,cm2_2_1,Lm2_2_1,Am2_2_2,cm2_2_2,Lm2_2_2,Am2_2_3,cm2_2_3,m2_2,rfl,rfl,Rm1_2_0,Cm1_2_0,Im2_2_1,Em2_2_1,Im2_2_2,Em2_2_2,hleh2,Rb0_2,H⟩
 replace H:((if m1_2.2=true then some (((0:Int),([]:List (List Int)),([]:List (List Int)),([]:List PT)),(11:Int)) else (if (m1_2.1.length:Int)=(0:Int) then (leaf_Right.f k (m2_2.1,m2_2.2.1,m2_2.2.2.1,m2_2.2.2.2)).bind fun t12=>(if t12=true then (leaf_Node_bytes.f k (m2_2.1,m2_2.2.1,m2_2.2.2.1,m2_2.2.2.2)).bind fun t16=>(bytes_Equal.f k t16 l0).bind fun t19=>(if t19=true then some ((m2_2.1,m2_2.2.1,m2_2.2.2.1,m2_2.2.2.2),(0:Int)) else some (((0:Int),([]:List (List Int)),([]:List (List Int)),([]:List PT)),(11:Int))) else some (((0:Int),([]:List (List Int)),([]:List (List Int)),([]:List PT)),(11:Int))) else some (((0:Int),([]:List (List Int)),([]:List (List Int)),([]:List PT)),(11:Int)))))=some r := H
 refine cs_seq ?_
 refine cs_seq ?_
 refine cs_region (l:=[_,_,_,_,_,_,_,_,_,_,_,_,_,_,_,_,_,_,_,_,_,_,_,_]) ?_
 refine lv (.pointer (some ⟨g2,0,none⟩)) ?_
 refine lv (.pointer (some ⟨g2,0,none⟩)) ?_
 refine lv (.pointer (some ⟨g2,(0+1),none⟩)) ?_
 refine ls_load (a0:=⟨g2,(0+1),none⟩) (v:=.bool m1_2.2) (de:=TypeDesc.bool) rfl rfl (by kernel_rfl) rfl (by kernel_rfl) (by kernel_rfl) (by kernel_rfl) (fun w hs=>(hs.var (k:=1) (by exact rfl) (Sub4.trans (Sub4.all _) (Sub4.skip (n:=1) (len1 _) (Sub4.all _))))) ?_
 refine lv (.bool m1_2.2) ?_
 by_cases q10:m1_2.2=true
 ·replace H := ite_t q10 H
  refine ls_know (c:=true) (q10) 56 (by kernel_rfl) ?_
  refine lofx 4 56 false true ?_
  refine lofx 4 56 false true ?_
  refine lofx 4 56 false true ?_
  refine lofx 4 56 false true ?_
  refine lofx 4 56 false true ?_
  refine lofx 4 56 false true ?_
  refine lv (.bool true) ?_
  refine lv (.bool true) ?_
  refine lofx 12 64 false true ?_
  refine lofx 12 64 false true ?_
  refine lofx 12 64 false true ?_
  refine lv (.bool true) ?_
  refine lv (.bool true) ?_
  refine lofx 17 69 false true ?_
  refine lofx 17 69 false true ?_
  refine lofx 17 69 false true ?_
  refine lofx 17 69 false true ?_
  refine lofx 17 69 false true ?_
  refine lv (.bool true) ?_
  refine ls_end ?_
  refine qn_then ?_
  refine cs_true (by kernel_rfl) ?_
  refine cs_seq ?_
  refine cs_region (l:=[_,_,_]) ?_
  refine lv (.agg ⟨([Value.int .i64 (0:Int)]++([Value.slice none 0 0]++([Value.slice none 0 0]++[Value.slice none 0 0])))⟩) ?_
  refine ls_storec (g:=g1) (off:=0) (v:=.agg ⟨([Value.int .i64 (0:Int)]++([Value.slice none 0 0]++([Value.slice none 0 0]++[Value.slice none 0 0])))⟩) (vs:=([Value.int .i64 (0:Int)]++([Value.slice none 0 0]++([Value.slice none 0 0]++[Value.slice none 0 0])))) (cs:=([Value.int .i64 (0:Int)]++([Value.slice none 0 0]++([Value.slice none 0 0]++[Value.slice none 0 0])))) (ty:=27) 0 rfl rfl rfl (by kernel_rfl) (by kernel_rfl) (by kernel_rfl) (by exact rfl) (by kernel_rfl) (len_app (len1 _) (len_app (len1 _) (len_app (len1 _) (len1 _)))) (one_app (one_cons rfl one_nil) (one_app (one_cons rfl one_nil) (one_app (one_cons rfl one_nil) (one_cons rfl one_nil)))) (hl_of (Sub4.all _) (len_eq (len_app (len1 _) (len_app (len1 _) (len_app (len1 _) (len1 _)))) (len_app (len1 _) (len_app (len1 _) (len_app (len1 _) (len1 _)))))) (cs' := ([Value.int .i64 (0:Int)]++([Value.slice none 0 0]++([Value.slice none 0 0]++[Value.slice none 0 0])))) (splc_all (len_eq (len_app (len1 _) (len_app (len1 _) (len_app (len1 _) (len1 _)))) (len_app (len1 _) (len_app (len1 _) (len_app (len1 _) (len1 _)))))) ?_
  refine lv (.int .i64 (11:Int)) ?_
  refine ls_end ?_
  refine qn_then ?_
  refine cs_ret' ?_
  refine qr_then ?_
  obtain rfl := Option.some.inj H
  refine qr_res (rs:=[_,_]) rfl (fun w' hs=>⟨[.agg ⟨([Value.int .i64 (0:Int)]++([Value.slice none 0 0]++([Value.slice none 0 0]++[Value.slice none 0 0])))⟩,.int .i64 (11:Int)],(.cell (by kernel_rfl) (run_cellres (by kernel_rfl) (by kernel_rfl) (len_app (len1 _) (len_app (len1 _) (len_app (len1 _) (len1 _)))) (hs.holds 0 _ (by exact rfl))) (res_tmp (by kernel_rfl) (.nil))),bh2,hleh2,((none,0),(none,0),(none,0)),rfl,⟨⟨(RoS.nil _ _ _ _),(Nat.zero_le _)⟩,⟨(RoS.nil _ _ _ _),(Nat.zero_le _)⟩,⟨(Ro.nil _ _),(Nat.zero_le _)⟩⟩,hs.pick (ts:=[]) (cs:=[]) trivial (by decide)⟩)
 replace H := ite_f q10 H
 refine ls_know (c:=false) (Bool.eq_false_iff.mpr q10) 56 (by kernel_rfl) ?_
 refine ls_on (j:=4) (t:=56) (b:=false) rfl rfl (by kernel_rfl) (by kernel_rfl) ?_
 refine lv (.pointer (some ⟨g2,0,none⟩)) ?_
 refine ls_on (j:=4) (t:=56) (b:=false) rfl rfl (by kernel_rfl) (by kernel_rfl) ?_
 refine lv (.pointer (some ⟨g2,0,none⟩)) ?_
 refine ls_on (j:=4) (t:=56) (b:=false) rfl rfl (by kernel_rfl) (by kernel_rfl) ?_
 refine lv (.pointer (some ⟨g2,(0+0),none⟩)) ?_
 refine ls_on (j:=4) (t:=56) (b:=false) rfl rfl (by kernel_rfl) (by kernel_rfl) ?_
 refine ls_load (a0:=⟨g2,(0+0),none⟩) (v:=.slice Am1_2_0 m1_2.1.length cm1_2_0) (de:=(TypeDesc.slice 5)) rfl rfl (by kernel_rfl) rfl (by kernel_rfl) (by kernel_rfl) (by kernel_rfl) (fun w hs=>(hs.var (k:=1) (by exact rfl) (Sub4.trans (Sub4.all _) (Sub4.head _ _)))) ?_
 refine ls_on (j:=4) (t:=56) (b:=false) rfl rfl (by kernel_rfl) (by kernel_rfl) ?_
 refine lv (.int .i64 (m1_2.1.length:Int)) ?_
 refine ls_on (j:=4) (t:=56) (b:=false) rfl rfl (by kernel_rfl) (by kernel_rfl) ?_
 refine lv (.bool (!decide ((m1_2.1.length:Int)=(0:Int)))) ?_
 refine lv (.bool (!decide ((m1_2.1.length:Int)=(0:Int)))) ?_
 refine lv (.bool (!decide ((m1_2.1.length:Int)=(0:Int)))) ?_
 by_cases q11:(m1_2.1.length:Int)=(0:Int)
 ·replace H := ite_t q11 H
  refine ls_know (c:=false) (congrArg Bool.not (dec_t q11)) 64 (by kernel_rfl) ?_
  refine ls_on (j:=12) (t:=64) (b:=false) rfl rfl (by kernel_rfl) (by kernel_rfl) ?_
  refine ls_loadagg (a:=⟨g9,0,none⟩) (sub:=([Value.int .i64 m2_2.1]++([Value.slice Am2_2_1 m2_2.2.1.length cm2_2_1]++([Value.slice Am2_2_2 m2_2.2.2.1.length cm2_2_2]++[Value.slice Am2_2_3 m2_2.2.2.2.length cm2_2_3])))) rfl rfl (by kernel_rfl) rfl (by kernel_rfl) (by kernel_rfl) (by kernel_rfl) (len_app (len1 _) (len_app (len1 _) (len_app (len1 _) (len1 _)))) (fun w hs=>(hs.vars (k:=2) (by exact rfl) (Sub4.all _))) ?_
  refine ls_on (j:=12) (t:=64) (b:=false) rfl rfl (by kernel_rfl) (by kernel_rfl) ?_
  obtain ⟨t12,hc13,H⟩ := bind_some H
  refine ls_callb (fid:=15) (vals:=#[.agg ⟨([Value.int .i64 m2_2.1]++([Value.slice Am2_2_1 m2_2.2.1.length cm2_2_1]++([Value.slice Am2_2_2 m2_2.2.2.1.length cm2_2_2]++[Value.slice Am2_2_3 m2_2.2.2.2.length cm2_2_3])))⟩]) (X:=Unit) (fun x=>.bool t12) (fun x=>stl []) [] [3,4,5] [] [Ck.sl (Ec.sls 23 Int) Am2_2_1 cm2_2_1 Lm2_2_1,Ck.sl (Ec.sls 23 Int) Am2_2_2 cm2_2_2 Lm2_2_2,Ck.sl T44 Am2_2_3 cm2_2_3 m2_2.2.2.2] 6 rfl rfl (by kernel_rfl) (fun w=>by kernel_rfl) trivial ⟨by exact rfl,by exact rfl,by exact rfl,trivial⟩ (by decide) (fun w hs hb=>leaf_Right.calls k Am2_2_1 cm2_2_1 Am2_2_2 cm2_2_2 Am2_2_3 cm2_2_3 (m2_2.1,m2_2.2.1,m2_2.2.2.1,m2_2.2.2.2) t12 (lent bh2 w [] [Ck.sl (Ec.sls 23 Int) Am2_2_1 cm2_2_1 Lm2_2_1,Ck.sl (Ec.sls 23 Int) Am2_2_2 cm2_2_2 Lm2_2_2,Ck.sl T44 Am2_2_3 cm2_2_3 m2_2.2.2.2]) hb (RoS.ofE (hs.ror (T:=(Ec.sls 23 Int)) (l:=Lm2_2_1) (k:=3) (by exact rfl) (.head _)) (hs.insC Im2_2_1 _ _) Em2_2_1) (lenE Em2_2_1 (hs.cap (T:=(Ec.sls 23 Int)) (l:=Lm2_2_1) (k:=3) (by exact rfl))) (RoS.ofE (hs.ror (T:=(Ec.sls 23 Int)) (l:=Lm2_2_2) (k:=4) (by exact rfl) (.tail _ (.head _))) (hs.insC Im2_2_2 _ _) Em2_2_2) (lenE Em2_2_2 (hs.cap (T:=(Ec.sls 23 Int)) (l:=Lm2_2_2) (k:=4) (by exact rfl))) (hs.ror (k:=5) (by exact rfl) (.tail _ (.tail _ (.head _)))) (hs.cap (k:=5) (by exact rfl)) hc13) ?_
  intro x14
  refine ls_on (j:=12) (t:=64) (b:=false) rfl rfl (by kernel_rfl) (by kernel_rfl) ?_
  refine lv (.bool (!t12)) ?_
  refine lv (.bool (!t12)) ?_
  refine lv (.bool (!t12)) ?_
  by_cases q15:t12=true
  ·replace H := ite_t q15 H
   refine ls_know (c:=false) (congrArg Bool.not (q15)) 69 (by kernel_rfl) ?_
   refine ls_on (j:=17) (t:=69) (b:=false) rfl rfl (by kernel_rfl) (by kernel_rfl) ?_
   refine ls_loadagg (a:=⟨g9,0,none⟩) (sub:=([Value.int .i64 m2_2.1]++([Value.slice Am2_2_1 m2_2.2.1.length cm2_2_1]++([Value.slice Am2_2_2 m2_2.2.2.1.length cm2_2_2]++[Value.slice Am2_2_3 m2_2.2.2.2.length cm2_2_3])))) rfl rfl (by kernel_rfl) rfl (by kernel_rfl) (by kernel_rfl) (by kernel_rfl) (len_app (len1 _) (len_app (len1 _) (len_app (len1 _) (len1 _)))) (fun w hs=>(hs.vars (k:=2) (by exact rfl) (Sub4.all _))) ?_
   refine ls_on (j:=17) (t:=69) (b:=false) rfl rfl (by kernel_rfl) (by kernel_rfl) ?_
   obtain ⟨t16,hc17,H⟩ := bind_some H
   refine ls_callb (fid:=36) (vals:=#[.agg ⟨([Value.int .i64 m2_2.1]++([Value.slice Am2_2_1 m2_2.2.1.length cm2_2_1]++([Value.slice Am2_2_2 m2_2.2.2.1.length cm2_2_2]++[Value.slice Am2_2_3 m2_2.2.2.2.length cm2_2_3])))⟩]) (X:=(Option Addr × Nat)) (fun x=>.slice x.1 t16.length x.2) (fun x=>stl [Ck.sl (Ec.int 5 .u8) x.1 x.2 t16]) [] [3,4,5] [] [Ck.sl (Ec.sls 23 Int) Am2_2_1 cm2_2_1 Lm2_2_1,Ck.sl (Ec.sls 23 Int) Am2_2_2 cm2_2_2 Lm2_2_2,Ck.sl T44 Am2_2_3 cm2_2_3 m2_2.2.2.2] 6 rfl rfl (by kernel_rfl) (fun w=>by kernel_rfl) trivial ⟨by exact rfl,by exact rfl,by exact rfl,trivial⟩ (by decide) (fun w hs hb=>leaf_Node_bytes.calls k Am2_2_1 cm2_2_1 Am2_2_2 cm2_2_2 Am2_2_3 cm2_2_3 (m2_2.1,m2_2.2.1,m2_2.2.2.1,m2_2.2.2.2) t16 (lent bh2 w [] [Ck.sl (Ec.sls 23 Int) Am2_2_1 cm2_2_1 Lm2_2_1,Ck.sl (Ec.sls 23 Int) Am2_2_2 cm2_2_2 Lm2_2_2,Ck.sl T44 Am2_2_3 cm2_2_3 m2_2.2.2.2]) hb (RoS.ofE (hs.ror (T:=(Ec.sls 23 Int)) (l:=Lm2_2_1) (k:=3) (by exact rfl) (.head _)) (hs.insC Im2_2_1 _ _) Em2_2_1) (lenE Em2_2_1 (hs.cap (T:=(Ec.sls 23 Int)) (l:=Lm2_2_1) (k:=3) (by exact rfl))) (RoS.ofE (hs.ror (T:=(Ec.sls 23 Int)) (l:=Lm2_2_2) (k:=4) (by exact rfl) (.tail _ (.head _))) (hs.insC Im2_2_2 _ _) Em2_2_2) (lenE Em2_2_2 (hs.cap (T:=(Ec.sls 23 Int)) (l:=Lm2_2_2) (k:=4) (by exact rfl))) (hs.ror (k:=5) (by exact rfl) (.tail _ (.tail _ (.head _)))) (hs.cap (k:=5) (by exact rfl)) hc17) ?_
   intro x18
   refine ls_on (j:=17) (t:=69) (b:=false) rfl rfl (by kernel_rfl) (by kernel_rfl) ?_
   refine lv (.slice A0 l0.length c0) ?_
   refine ls_on (j:=17) (t:=69) (b:=false) rfl rfl (by kernel_rfl) (by kernel_rfl) ?_
   obtain ⟨t19,hc20,H⟩ := bind_some H
   refine ls_callb (fid:=35) (vals:=#[.slice x18.1 t16.length x18.2,.slice A0 l0.length c0]) (X:=Unit) (fun x=>.bool t19) (fun x=>stl []) [] [6] [] [Ck.sl (Ec.int 5 .u8) x18.1 x18.2 t16] 7 rfl rfl (by kernel_rfl) (fun w=>by kernel_rfl) trivial ⟨by exact rfl,trivial⟩ (by decide) (fun w hs hb=>bytes_Equal.calls k x18.1 x18.2 t16 A0 c0 l0 t19 (lent bh2 w [] [Ck.sl (Ec.int 5 .u8) x18.1 x18.2 t16]) hb (hs.ror (k:=6) (by exact rfl) (.head _)) (hs.cap (k:=6) (by exact rfl)) (hs.ro Rb0_2 _ _) C0 hc20) ?_
   intro x21
   refine ls_on (j:=17) (t:=69) (b:=false) rfl rfl (by kernel_rfl) (by kernel_rfl) ?_
   refine lv (.bool (!t19)) ?_
   refine lv (.bool (!t19)) ?_
   refine ls_end ?_
   refine qn_then ?_
   by_cases q22:t19=true
   ·replace H := ite_t q22 H
    refine cs_know (c:=false) (congrArg Bool.not (q22)) 75 (by kernel_rfl) ?_
    refine cs_false (by kernel_rfl) ?_
    refine cs_skip' ?_
    refine qn_then ?_
    refine cs_seq ?_
    refine cs_region (l:=[_,_,_]) ?_
    refine ls_loadagg (a:=⟨g9,0,none⟩) (sub:=([Value.int .i64 m2_2.1]++([Value.slice Am2_2_1 m2_2.2.1.length cm2_2_1]++([Value.slice Am2_2_2 m2_2.2.2.1.length cm2_2_2]++[Value.slice Am2_2_3 m2_2.2.2.2.length cm2_2_3])))) rfl rfl (by kernel_rfl) rfl (by kernel_rfl) (by kernel_rfl) (by kernel_rfl) (len_app (len1 _) (len_app (len1 _) (len_app (len1 _) (len1 _)))) (fun w hs=>(hs.vars (k:=2) (by exact rfl) (Sub4.all _))) ?_
    refine ls_storec (g:=g1) (off:=0) (v:=.agg ⟨([Value.int .i64 m2_2.1]++([Value.slice Am2_2_1 m2_2.2.1.length cm2_2_1]++([Value.slice Am2_2_2 m2_2.2.2.1.length cm2_2_2]++[Value.slice Am2_2_3 m2_2.2.2.2.length cm2_2_3])))⟩) (vs:=([Value.int .i64 m2_2.1]++([Value.slice Am2_2_1 m2_2.2.1.length cm2_2_1]++([Value.slice Am2_2_2 m2_2.2.2.1.length cm2_2_2]++[Value.slice Am2_2_3 m2_2.2.2.2.length cm2_2_3])))) (cs:=([Value.int .i64 (0:Int)]++([Value.slice none 0 0]++([Value.slice none 0 0]++[Value.slice none 0 0])))) (ty:=27) 0 rfl rfl rfl (by kernel_rfl) (by kernel_rfl) (by kernel_rfl) (by exact rfl) (by kernel_rfl) (len_app (len1 _) (len_app (len1 _) (len_app (len1 _) (len1 _)))) (one_app (one_cons rfl one_nil) (one_app (one_cons rfl one_nil) (one_app (one_cons rfl one_nil) (one_cons rfl one_nil)))) (hl_of (Sub4.all _) (len_eq (len_app (len1 _) (len_app (len1 _) (len_app (len1 _) (len1 _)))) (len_app (len1 _) (len_app (len1 _) (len_app (len1 _) (len1 _)))))) (cs' := ([Value.int .i64 m2_2.1]++([Value.slice Am2_2_1 m2_2.2.1.length cm2_2_1]++([Value.slice Am2_2_2 m2_2.2.2.1.length cm2_2_2]++[Value.slice Am2_2_3 m2_2.2.2.2.length cm2_2_3])))) (splc_all (len_eq (len_app (len1 _) (len_app (len1 _) (len_app (len1 _) (len1 _)))) (len_app (len1 _) (len_app (len1 _) (len_app (len1 _) (len1 _)))))) ?_
    refine lv (.int .i64 (0:Int)) ?_
    refine ls_end ?_
    refine qn_then ?_
    refine cs_ret' ?_
    refine qr_freeze (T:=(Ec.sls 23 Int)) (A:=Am2_2_1) (c:=cm2_2_1) (l:=Lm2_2_1) 3 (by exact rfl) ?_
    intro bs23 hle24 hok25 fR26 fC27
    have fR28:RoS 23 (Ec.int 5 .u8) bs23 Am2_2_1 m2_2.2.1 := RoS.ofE fR26 (InsC.mono hok25 hle24 Im2_2_1) Em2_2_1
    have fC29:m2_2.2.1.length≤cm2_2_1 := lenE Em2_2_1 fC27
    refine qr_freeze (T:=(Ec.sls 23 Int)) (A:=Am2_2_2) (c:=cm2_2_2) (l:=Lm2_2_2) 4 (by exact rfl) ?_
    intro bs30 hle31 hok32 fR33 fC34
    have fR35:RoS 23 (Ec.int 5 .u8) bs30 Am2_2_2 m2_2.2.2.1 := RoS.ofE fR33 (InsC.mono hok32 hle31 (InsC.mono hok25 hle24 Im2_2_2)) Em2_2_2
    have fC36:m2_2.2.2.1.length≤cm2_2_2 := lenE Em2_2_2 fC34
    refine qr_freeze (T:=T44) (A:=Am2_2_3) (c:=cm2_2_3) (l:=m2_2.2.2.2) 5 (by exact rfl) ?_
    intro bs37 hle38 hok39 fR40 fC41
    obtain rfl := Option.some.inj H
    refine qr_res (rs:=[_,_]) rfl (fun w' hs=>⟨[.agg ⟨([Value.int .i64 m2_2.1]++([Value.slice Am2_2_1 m2_2.2.1.length cm2_2_1]++([Value.slice Am2_2_2 m2_2.2.2.1.length cm2_2_2]++[Value.slice Am2_2_3 m2_2.2.2.2.length cm2_2_3])))⟩,.int .i64 (0:Int)],(.cell (by kernel_rfl) (run_cellres (by kernel_rfl) (by kernel_rfl) (len_app (len1 _) (len_app (len1 _) (len_app (len1 _) (len1 _)))) (hs.holds 0 _ (by exact rfl))) (res_tmp (by kernel_rfl) (.nil))),bs37,(((hleh2.trans hle24).trans hle31).trans hle38),((Am2_2_1,cm2_2_1),(Am2_2_2,cm2_2_2),(Am2_2_3,cm2_2_3)),rfl,⟨⟨(RoS.mono hok39 hle38 (RoS.mono hok32 hle31 fR28)),fC29⟩,⟨(RoS.mono hok39 hle38 fR35),fC36⟩,⟨fR40,fC41⟩⟩,hs.pick (ts:=[]) (cs:=[]) trivial (by decide)⟩)
   replace H := ite_f q22 H
   refine cs_know (c:=true) (congrArg Bool.not (Bool.eq_false_iff.mpr q22)) 75 (by kernel_rfl) ?_
   refine cs_true (by kernel_rfl) ?_
   refine cs_seq ?_
   refine cs_region (l:=[_,_,_]) ?_
   refine lv (.agg ⟨([Value.int .i64 (0:Int)]++([Value.slice none 0 0]++([Value.slice none 0 0]++[Value.slice none 0 0])))⟩) ?_
   refine ls_storec (g:=g1) (off:=0) (v:=.agg ⟨([Value.int .i64 (0:Int)]++([Value.slice none 0 0]++([Value.slice none 0 0]++[Value.slice none 0 0])))⟩) (vs:=([Value.int .i64 (0:Int)]++([Value.slice none 0 0]++([Value.slice none 0 0]++[Value.slice none 0 0])))) (cs:=([Value.int .i64 (0:Int)]++([Value.slice none 0 0]++([Value.slice none 0 0]++[Value.slice none 0 0])))) (ty:=27) 0 rfl rfl rfl (by kernel_rfl) (by kernel_rfl) (by kernel_rfl) (by exact rfl) (by kernel_rfl) (len_app (len1 _) (len_app (len1 _) (len_app (len1 _) (len1 _)))) (one_app (one_cons rfl one_nil) (one_app (one_cons rfl one_nil) (one_app (one_cons rfl one_nil) (one_cons rfl one_nil)))) (hl_of (Sub4.all _) (len_eq (len_app (len1 _) (len_app (len1 _) (len_app (len1 _) (len1 _)))) (len_app (len1 _) (len_app (len1 _) (len_app (len1 _) (len1 _)))))) (cs' := ([Value.int .i64 (0:Int)]++([Value.slice none 0 0]++([Value.slice none 0 0]++[Value.slice none 0 0])))) (splc_all (len_eq (len_app (len1 _) (len_app (len1 _) (len_app (len1 _) (len1 _)))) (len_app (len1 _) (len_app (len1 _) (len_app (len1 _) (len1 _)))))) ?_
   refine lv (.int .i64 (11:Int)) ?_
   refine ls_end ?_
   refine qn_then ?_
   refine cs_ret' ?_
   refine qr_then ?_
   obtain rfl := Option.some.inj H
   refine qr_res (rs:=[_,_]) rfl (fun w' hs=>⟨[.agg ⟨([Value.int .i64 (0:Int)]++([Value.slice none 0 0]++([Value.slice none 0 0]++[Value.slice none 0 0])))⟩,.int .i64 (11:Int)],(.cell (by kernel_rfl) (run_cellres (by kernel_rfl) (by kernel_rfl) (len_app (len1 _) (len_app (len1 _) (len_app (len1 _) (len1 _)))) (hs.holds 0 _ (by exact rfl))) (res_tmp (by kernel_rfl) (.nil))),bh2,hleh2,((none,0),(none,0),(none,0)),rfl,⟨⟨(RoS.nil _ _ _ _),(Nat.zero_le _)⟩,⟨(RoS.nil _ _ _ _),(Nat.zero_le _)⟩,⟨(Ro.nil _ _),(Nat.zero_le _)⟩⟩,hs.pick (ts:=[]) (cs:=[]) trivial (by decide)⟩)
  replace H := ite_f q15 H
  refine ls_know (c:=true) (congrArg Bool.not (Bool.eq_false_iff.mpr q15)) 69 (by kernel_rfl) ?_
  refine lofx 17 69 false true ?_
  refine lofx 17 69 false true ?_
  refine lofx 17 69 false true ?_
  refine lofx 17 69 false true ?_
  refine lofx 17 69 false true ?_
  refine lv (.bool true) ?_
  refine ls_end ?_
  refine qn_then ?_
  refine cs_true (by kernel_rfl) ?_
  refine cs_seq ?_
  refine cs_region (l:=[_,_,_]) ?_
  refine lv (.agg ⟨([Value.int .i64 (0:Int)]++([Value.slice none 0 0]++([Value.slice none 0 0]++[Value.slice none 0 0])))⟩) ?_
  refine ls_storec (g:=g1) (off:=0) (v:=.agg ⟨([Value.int .i64 (0:Int)]++([Value.slice none 0 0]++([Value.slice none 0 0]++[Value.slice none 0 0])))⟩) (vs:=([Value.int .i64 (0:Int)]++([Value.slice none 0 0]++([Value.slice none 0 0]++[Value.slice none 0 0])))) (cs:=([Value.int .i64 (0:Int)]++([Value.slice none 0 0]++([Value.slice none 0 0]++[Value.slice none 0 0])))) (ty:=27) 0 rfl rfl rfl (by kernel_rfl) (by kernel_rfl) (by kernel_rfl) (by exact rfl) (by kernel_rfl) (len_app (len1 _) (len_app (len1 _) (len_app (len1 _) (len1 _)))) (one_app (one_cons rfl one_nil) (one_app (one_cons rfl one_nil) (one_app (one_cons rfl one_nil) (one_cons rfl one_nil)))) (hl_of (Sub4.all _) (len_eq (len_app (len1 _) (len_app (len1 _) (len_app (len1 _) (len1 _)))) (len_app (len1 _) (len_app (len1 _) (len_app (len1 _) (len1 _)))))) (cs' := ([Value.int .i64 (0:Int)]++([Value.slice none 0 0]++([Value.slice none 0 0]++[Value.slice none 0 0])))) (splc_all (len_eq (len_app (len1 _) (len_app (len1 _) (len_app (len1 _) (len1 _)))) (len_app (len1 _) (len_app (len1 _) (len_app (len1 _) (len1 _)))))) ?_
  refine lv (.int .i64 (11:Int)) ?_
  refine ls_end ?_
  refine qn_then ?_
  refine cs_ret' ?_
  refine qr_then ?_
  obtain rfl := Option.some.inj H
  refine qr_res (rs:=[_,_]) rfl (fun w' hs=>⟨[.agg ⟨([Value.int .i64 (0:Int)]++([Value.slice none 0 0]++([Value.slice none 0 0]++[Value.slice none 0 0])))⟩,.int .i64 (11:Int)],(.cell (by kernel_rfl) (run_cellres (by kernel_rfl) (by kernel_rfl) (len_app (len1 _) (len_app (len1 _) (len_app (len1 _) (len1 _)))) (hs.holds 0 _ (by exact rfl))) (res_tmp (by kernel_rfl) (.nil))),bh2,hleh2,((none,0),(none,0),(none,0)),rfl,⟨⟨(RoS.nil _ _ _ _),(Nat.zero_le _)⟩,⟨(RoS.nil _ _ _ _),(Nat.zero_le _)⟩,⟨(Ro.nil _ _),(Nat.zero_le _)⟩⟩,hs.pick (ts:=[]) (cs:=[]) trivial (by decide)⟩)
 replace H := ite_f q11 H
 refine ls_know (c:=true) (congrArg Bool.not (dec_f q11)) 64 (by kernel_rfl) ?_
 refine lofx 12 64 false true ?_
 refine lofx 12 64 false true ?_
 refine lofx 12 64 false true ?_
 refine lv (.bool true) ?_
 refine lv (.bool true) ?_
 refine lofx 17 69 false true ?_
 refine lofx 17 69 false true ?_
 refine lofx 17 69 false true ?_
 refine lofx 17 69 false true ?_
 refine lofx 17 69 false true ?_
 refine lv (.bool true) ?_
 refine ls_end ?_
 refine qn_then ?_
 refine cs_true (by kernel_rfl) ?_
 refine cs_seq ?_
 refine cs_region (l:=[_,_,_]) ?_
 refine lv (.agg ⟨([Value.int .i64 (0:Int)]++([Value.slice none 0 0]++([Value.slice none 0 0]++[Value.slice none 0 0])))⟩) ?_
 refine ls_storec (g:=g1) (off:=0) (v:=.agg ⟨([Value.int .i64 (0:Int)]++([Value.slice none 0 0]++([Value.slice none 0 0]++[Value.slice none 0 0])))⟩) (vs:=([Value.int .i64 (0:Int)]++([Value.slice none 0 0]++([Value.slice none 0 0]++[Value.slice none 0 0])))) (cs:=([Value.int .i64 (0:Int)]++([Value.slice none 0 0]++([Value.slice none 0 0]++[Value.slice none 0 0])))) (ty:=27) 0 rfl rfl rfl (by kernel_rfl) (by kernel_rfl) (by kernel_rfl) (by exact rfl) (by kernel_rfl) (len_app (len1 _) (len_app (len1 _) (len_app (len1 _) (len1 _)))) (one_app (one_cons rfl one_nil) (one_app (one_cons rfl one_nil) (one_app (one_cons rfl one_nil) (one_cons rfl one_nil)))) (hl_of (Sub4.all _) (len_eq (len_app (len1 _) (len_app (len1 _) (len_app (len1 _) (len1 _)))) (len_app (len1 _) (len_app (len1 _) (len_app (len1 _) (len1 _)))))) (cs' := ([Value.int .i64 (0:Int)]++([Value.slice none 0 0]++([Value.slice none 0 0]++[Value.slice none 0 0])))) (splc_all (len_eq (len_app (len1 _) (len_app (len1 _) (len_app (len1 _) (len1 _)))) (len_app (len1 _) (len_app (len1 _) (len_app (len1 _) (len1 _)))))) ?_
 refine lv (.int .i64 (11:Int)) ?_
 refine ls_end ?_
 refine qn_then ?_
 refine cs_ret' ?_
 refine qr_then ?_
 obtain rfl := Option.some.inj H
 refine qr_res (rs:=[_,_]) rfl (fun w' hs=>⟨[.agg ⟨([Value.int .i64 (0:Int)]++([Value.slice none 0 0]++([Value.slice none 0 0]++[Value.slice none 0 0])))⟩,.int .i64 (11:Int)],(.cell (by kernel_rfl) (run_cellres (by kernel_rfl) (by kernel_rfl) (len_app (len1 _) (len_app (len1 _) (len_app (len1 _) (len1 _)))) (hs.holds 0 _ (by exact rfl))) (res_tmp (by kernel_rfl) (.nil))),bh2,hleh2,((none,0),(none,0),(none,0)),rfl,⟨⟨(RoS.nil _ _ _ _),(Nat.zero_le _)⟩,⟨(RoS.nil _ _ _ _),(Nat.zero_le _)⟩,⟨(Ro.nil _ _),(Nat.zero_le _)⟩⟩,hs.pick (ts:=[]) (cs:=[]) trivial (by decide)⟩)
def shadowboxref01_ReadShort.lo5 (l0:List Int) (x5_1:Int):Nat→Int→Int→Option (Int × Int × Int)
  | 0,_,_=>none
  | k5+1,x6_5,x7_5=>(if x7_5≥(0:Int) then (if 0≤x7_5 then (if x7_5<(l0.length:Int) then lt (Int.tmod ((l0).getD (x7_5).toNat (0:Int)) (128:Int)) fun y6=>lt (IntKind.wrap .u64 ((IntKind.wrap .u64 (x6_5*(128:Int)))+(IntKind.wrap .u64 y6))) fun y8=>(shadowboxref01_ReadShort.lo5 l0 x5_1 k5) y8 (IntKind.wrap .i64 (x7_5 - (1:Int))) else none) else none) else some (x6_5,IntKind.wrap .i64 (x5_1+(1:Int)),(0:Int)))
def shadowboxref01_ReadShort.jo4 (k:Nat) (l0:List Int) (x5_1:Int):Option (Int × Int × Int) := shadowboxref01_ReadShort.lo5 l0 x5_1 k (0:Int) x5_1
def shadowboxref01_ReadShort.jo3 (k:Nat) (l0:List Int) (x5_1:Int):Option (Int × Int × Int) := (if x5_1=(9:Int) then (if (9:Int)<(l0.length:Int) then (if ((l0).getD ((9:Int)).toNat (0:Int)) > (1:Int) then some ((0:Int),(0:Int),(11:Int)) else (if x5_1 > (0:Int) then (if 0≤x5_1 then (if x5_1<(l0.length:Int) then (if ((l0).getD (x5_1).toNat (0:Int))=(0:Int) then some ((0:Int),(0:Int),(11:Int)) else (shadowboxref01_ReadShort.jo4 k l0 x5_1)) else none) else none) else (shadowboxref01_ReadShort.jo4 k l0 x5_1))) else none) else (if x5_1 > (0:Int) then (if 0≤x5_1 then (if x5_1<(l0.length:Int) then (if ((l0).getD (x5_1).toNat (0:Int))=(0:Int) then some ((0:Int),(0:Int),(11:Int)) else (shadowboxref01_ReadShort.jo4 k l0 x5_1)) else none) else none) else (shadowboxref01_ReadShort.jo4 k l0 x5_1)))
def shadowboxref01_ReadShort.jo2 (k:Nat) (l0:List Int) (x5_1:Int):Option (Int × Int × Int) := (if x5_1=(l0.length:Int) then some ((0:Int),(0:Int),(10:Int)) else (shadowboxref01_ReadShort.jo3 k l0 x5_1))
def shadowboxref01_ReadShort.jo1 (k:Nat) (l0:List Int) (x5_1:Int):Option (Int × Int × Int) := (if x5_1=(10:Int) then some ((0:Int),(0:Int),(11:Int)) else (shadowboxref01_ReadShort.jo2 k l0 x5_1))
def shadowboxref01_ReadShort.lo6 (l0:List Int) (jo1:Int→Option (Int × Int × Int)):Nat→Int→Option (Int × Int × Int)
  | 0,_=>none
  | k6+1,x5_6=>(if x5_6<(l0.length:Int) then (if x5_6<(10:Int) then (if 0≤x5_6 then (if ((l0).getD (x5_6).toNat (0:Int))≥(128:Int) then (shadowboxref01_ReadShort.lo6 l0 jo1 k6) (IntKind.wrap .i64 (x5_6+(1:Int))) else jo1 x5_6) else none) else jo1 x5_6) else jo1 x5_6)
def shadowboxref01_ReadShort.f (k:Nat) (l0:List Int):Option (Int × Int × Int) :=
  shadowboxref01_ReadShort.lo6 l0 (shadowboxref01_ReadShort.jo1 k l0) k (0:Int)
theorem shadowboxref01_ReadShort.calls (k:Nat) (A0:Option Addr) (c0:Nat) (l0:List Int) (r:Int × Int × Int) (b:Bs) (hs0:St b (stl []) b.w) (R0:Ro b A0 (em (Ec.int 5 .u8) l0)) (C0:l0.length≤c0) (H:shadowboxref01_ReadShort.f k l0=some r) :
    Calls Try.prog 77 #[.slice A0 l0.length c0] b.w fun e w'=>∃ x:Unit,e=.returned (.tuple #[.int .u64 r.1,.int .i64 r.2.1,.int .i64 r.2.2])∧St b (stl []) w' := by
 unfold shadowboxref01_ReadShort.f at H
 refine enterb (n:=67) Try.func77 rfl (by kernel_rfl) (by kernel_rfl) hs0 ?_
 refine cs_sub (s0) (sub_nil _) ?_
 refine cs_seq ?_
 refine cs_region (l:=[_,_,_]) ?_
 refine lv (.int .u64 (0:Int)) ?_
 refine lv (.int .i64 (0:Int)) ?_
 refine lv (.int .i64 (0:Int)) ?_
 refine ls_end ?_
 refine qn_then ?_
 refine cs_seq ?_
 refine cs_region (l:=[_]) ?_
 refine lv (.int .i64 (0:Int)) ?_
 refine ls_end ?_
 refine qn_then ?_
 refine cs_cut (fun f S=>∃ (fR:Fr) (x5_1:Int),f=upd (upd fR 0 (.slice A0 l0.length c0)) 5 (.int .i64 x5_1)∧S=s0∧shadowboxref01_ReadShort.jo1 k l0 x5_1=some r) ?_ ?_
 ·skip
  refine cs_block ?_
  refine cs_sub (s0) (sub_nil _) ?_
  refine cs_loop (fun kk f S=>∃ (fR:Fr) (x5_6:Int),f=upd (upd fR 0 (.slice A0 l0.length c0)) 5 (.int .i64 x5_6)∧S=s0∧shadowboxref01_ReadShort.lo6 l0 (shadowboxref01_ReadShort.jo1 k l0) kk x5_6=some r) k ?_ ?_ ?_
  ·exact ⟨_,(0:Int),fr_next (fr_next (rfl) (by kernel_rfl)) (by kernel_rfl),rfl,H⟩
  ·rintro f S ⟨fr6,x5_6,rfl,rfl,H⟩; cases H
  rintro k6 f S ⟨fr6,x5_6,rfl,rfl,H⟩
  replace H:((if x5_6<(l0.length:Int) then (if x5_6<(10:Int) then (if 0≤x5_6 then (if ((l0).getD (x5_6).toNat (0:Int))≥(128:Int) then (shadowboxref01_ReadShort.lo6 l0 (shadowboxref01_ReadShort.jo1 k l0) k6) (IntKind.wrap .i64 (x5_6+(1:Int))) else (shadowboxref01_ReadShort.jo1 k l0) x5_6) else none) else (shadowboxref01_ReadShort.jo1 k l0) x5_6) else (shadowboxref01_ReadShort.jo1 k l0) x5_6))=some r := H
  refine cs_seq ?_
  refine cs_seq ?_
  refine cs_region (l:=[_,_,_,_,_,_,_,_,_,_,_,_,_,_,_]) ?_
  refine lv (.int .i64 x5_6) ?_
  refine lv (.slice A0 l0.length c0) ?_
  refine lv (.int .i64 (l0.length:Int)) ?_
  refine lv (.bool (decide (x5_6<(l0.length:Int)))) ?_
  refine lv (.bool (decide (x5_6<(l0.length:Int)))) ?_
  by_cases q29:x5_6<(l0.length:Int)
  ·replace H := ite_t q29 H
   refine ls_know (c:=true) (dec_t q29) 12 (by kernel_rfl) ?_
   refine ls_on (j:=4) (t:=12) (b:=true) rfl rfl (by kernel_rfl) (by kernel_rfl) ?_
   refine lv (.int .i64 x5_6) ?_
   refine ls_on (j:=4) (t:=12) (b:=true) rfl rfl (by kernel_rfl) (by kernel_rfl) ?_
   refine lv (.bool (decide (x5_6<(10:Int)))) ?_
   refine lv (.bool (decide (x5_6<(10:Int)))) ?_
   refine lv (.bool (decide (x5_6<(10:Int)))) ?_
   by_cases q30:x5_6<(10:Int)
   ·replace H := ite_t q30 H
    refine ls_know (c:=true) (dec_t q30) 16 (by kernel_rfl) ?_
    refine ls_on (j:=8) (t:=16) (b:=true) rfl rfl (by kernel_rfl) (by kernel_rfl) ?_
    refine lv (.slice A0 l0.length c0) ?_
    refine ls_on (j:=8) (t:=16) (b:=true) rfl rfl (by kernel_rfl) (by kernel_rfl) ?_
    refine lv (.int .i64 x5_6) ?_
    refine ls_on (j:=8) (t:=16) (b:=true) rfl rfl (by kernel_rfl) (by kernel_rfl) ?_
    obtain ⟨q31,H⟩ := ite_need H
    obtain ⟨ad32,hA33⟩ := ido_at (T:=(Ec.int 5 .u8)) (l:=l0) (i:=x5_6) R0 q31 q29
    refine ls_idxv (Ec.int 5 .u8) (A:=A0) (c:=c0) (l:=l0) (k:=.i64) (i:=x5_6) (z:=1) (ad:=ad32) rfl rfl (by kernel_rfl) hA33 rfl (by kernel_rfl) (by kernel_rfl) (by kernel_rfl) (by kernel_rfl) q31 q29 ?_
    refine ls_on (j:=8) (t:=16) (b:=true) rfl rfl (by kernel_rfl) (by kernel_rfl) ?_
    refine ls_load (a0:=(ad32.add ((x5_6).toNat*1))) (v:=.int .u8 ((l0).getD (x5_6).toNat (0:Int))) (de:=(TypeDesc.int .u8)) rfl rfl (by kernel_rfl) rfl (by kernel_rfl) (by kernel_rfl) (by kernel_rfl) (fun w hs=>(hs.old R0).at hA33 (em_sub (Ec.int 5 .u8) l0 (i:=(x5_6).toNat) (by have h0:(0:Int)≤x5_6 := q31; have h1:x5_6<(l0.length:Int) := q29; omega))) ?_
    refine ls_on (j:=8) (t:=16) (b:=true) rfl rfl (by kernel_rfl) (by kernel_rfl) ?_
    refine lv (.bool (decide (((l0).getD (x5_6).toNat (0:Int))≥(128:Int)))) ?_
    refine lv (.bool (decide (((l0).getD (x5_6).toNat (0:Int))≥(128:Int)))) ?_
    refine ls_end ?_
    refine qn_then ?_
    by_cases q34:((l0).getD (x5_6).toNat (0:Int))≥(128:Int)
    ·replace H := ite_t q34 H
     refine cs_know (c:=true) (dec_t q34) 22 (by kernel_rfl) ?_
     refine cs_true (by kernel_rfl) ?_
     refine cs_skip' ?_
     refine qn_then ?_
     refine cs_block ?_
     refine cs_region (l:=[_,_,_]) ?_
     refine lv (.int .i64 x5_6) ?_
     refine lv (.int .i64 (IntKind.wrap .i64 (x5_6+(1:Int)))) ?_
     refine lv (.int .i64 (IntKind.wrap .i64 (x5_6+(1:Int)))) ?_
     refine ls_end ?_
     refine qn_block ?_
     refine qn_again k6 (s0) (Nat.le_refl _) ⟨_,(IntKind.wrap .i64 (x5_6+(1:Int))),fr_next (fr_next (rfl) (by kernel_rfl)) (by kernel_rfl),rfl,H⟩ (sub_nil _)
    replace H := ite_f q34 H
    refine cs_know (c:=false) (dec_f q34) 22 (by kernel_rfl) ?_
    refine cs_false (by kernel_rfl) ?_
    refine cs_exit' ?_
    refine qx_then ?_
    refine qx_then ?_
    refine qx_same ?_
    refine qn_meet (s0) ⟨_,x5_6,fr_next (fr_next (rfl) (by kernel_rfl)) (by kernel_rfl),rfl,H⟩ (sub_nil _)
   replace H := ite_f q30 H
   refine ls_know (c:=false) (dec_f q30) 16 (by kernel_rfl) ?_
   refine lofx 8 16 true false ?_
   refine lofx 8 16 true false ?_
   refine lofx 8 16 true false ?_
   refine lofx 8 16 true false ?_
   refine lofx 8 16 true false ?_
   refine lv (.bool false) ?_
   refine ls_end ?_
   refine qn_then ?_
   refine cs_false (by kernel_rfl) ?_
   refine cs_exit' ?_
   refine qx_then ?_
   refine qx_then ?_
   refine qx_same ?_
   refine qn_meet (s0) ⟨_,x5_6,fr_next (fr_next (rfl) (by kernel_rfl)) (by kernel_rfl),rfl,H⟩ (sub_nil _)
  replace H := ite_f q29 H
  refine ls_know (c:=false) (dec_f q29) 12 (by kernel_rfl) ?_
  refine lofx 4 12 true false ?_
  refine lofx 4 12 true false ?_
  refine lv (.bool false) ?_
  refine lv (.bool false) ?_
  refine lofx 8 16 true false ?_
  refine lofx 8 16 true false ?_
  refine lofx 8 16 true false ?_
  refine lofx 8 16 true false ?_
  refine lofx 8 16 true false ?_
  refine lv (.bool false) ?_
  refine ls_end ?_
  refine qn_then ?_
  refine cs_false (by kernel_rfl) ?_
  refine cs_exit' ?_
  refine qx_then ?_
  refine qx_then ?_
  refine qx_same ?_
  refine qn_meet (s0) ⟨_,x5_6,fr_next (fr_next (rfl) (by kernel_rfl)) (by kernel_rfl),rfl,H⟩ (sub_nil _)
 rintro f S ⟨fr1,x5_1,rfl,rfl,H⟩
 replace H:((if x5_1=(10:Int) then some ((0:Int),(0:Int),(11:Int)) else (shadowboxref01_ReadShort.jo2 k l0 x5_1)))=some r := H
 refine cs_cut (fun f S=>∃ (fR:Fr),f=upd (upd fR 0 (.slice A0 l0.length c0)) 5 (.int .i64 x5_1)∧S=s0∧shadowboxref01_ReadShort.jo2 k l0 x5_1=some r) ?_ ?_
 ·skip
  refine cs_seq ?_
  refine cs_region (l:=[_,_]) ?_
  refine lv (.int .i64 x5_1) ?_
  refine lv (.bool (decide (x5_1=(10:Int)))) ?_
  refine ls_end ?_
  refine qn_then ?_
  by_cases q28:x5_1=(10:Int)
  ·replace H := ite_t q28 H
   refine cs_know (c:=true) (dec_t q28) 26 (by kernel_rfl) ?_
   refine cs_true (by kernel_rfl) ?_
   refine cs_seq ?_
   refine cs_region (l:=[_,_,_]) ?_
   refine lv (.int .u64 (0:Int)) ?_
   refine lv (.int .i64 (0:Int)) ?_
   refine lv (.int .i64 (11:Int)) ?_
   refine ls_end ?_
   refine qn_then ?_
   refine cs_ret' ?_
   refine qr_then ?_
   obtain rfl := Option.some.inj H
   refine qr_res (rs:=[_,_,_]) rfl (fun w' hs=>⟨[.int .u64 (0:Int),.int .i64 (0:Int),.int .i64 (11:Int)],(res_tmp (by kernel_rfl) (res_tmp (by kernel_rfl) (res_tmp (by kernel_rfl) (.nil)))),(),rfl,hs.pick (ts:=[]) (cs:=[]) trivial (by decide)⟩)
  replace H := ite_f q28 H
  refine cs_know (c:=false) (dec_f q28) 26 (by kernel_rfl) ?_
  refine cs_false (by kernel_rfl) ?_
  refine cs_skip' ?_
  refine qn_meet (s0) ⟨_,fr_next (fr_next (rfl) (by kernel_rfl)) (by kernel_rfl),rfl,H⟩ (sub_nil _)
 rintro f S ⟨fr2,rfl,rfl,H⟩
 replace H:((if x5_1=(l0.length:Int) then some ((0:Int),(0:Int),(10:Int)) else (shadowboxref01_ReadShort.jo3 k l0 x5_1)))=some r := H
 refine cs_cut (fun f S=>∃ (fR:Fr),f=upd (upd fR 0 (.slice A0 l0.length c0)) 5 (.int .i64 x5_1)∧S=s0∧shadowboxref01_ReadShort.jo3 k l0 x5_1=some r) ?_ ?_
 ·skip
  refine cs_seq ?_
  refine cs_region (l:=[_,_,_,_]) ?_
  refine lv (.int .i64 x5_1) ?_
  refine lv (.slice A0 l0.length c0) ?_
  refine lv (.int .i64 (l0.length:Int)) ?_
  refine lv (.bool (decide (x5_1=(l0.length:Int)))) ?_
  refine ls_end ?_
  refine qn_then ?_
  by_cases q27:x5_1=(l0.length:Int)
  ·replace H := ite_t q27 H
   refine cs_know (c:=true) (dec_t q27) 30 (by kernel_rfl) ?_
   refine cs_true (by kernel_rfl) ?_
   refine cs_seq ?_
   refine cs_region (l:=[_,_,_]) ?_
   refine lv (.int .u64 (0:Int)) ?_
   refine lv (.int .i64 (0:Int)) ?_
   refine lv (.int .i64 (10:Int)) ?_
   refine ls_end ?_
   refine qn_then ?_
   refine cs_ret' ?_
   refine qr_then ?_
   obtain rfl := Option.some.inj H
   refine qr_res (rs:=[_,_,_]) rfl (fun w' hs=>⟨[.int .u64 (0:Int),.int .i64 (0:Int),.int .i64 (10:Int)],(res_tmp (by kernel_rfl) (res_tmp (by kernel_rfl) (res_tmp (by kernel_rfl) (.nil)))),(),rfl,hs.pick (ts:=[]) (cs:=[]) trivial (by decide)⟩)
  replace H := ite_f q27 H
  refine cs_know (c:=false) (dec_f q27) 30 (by kernel_rfl) ?_
  refine cs_false (by kernel_rfl) ?_
  refine cs_skip' ?_
  refine qn_meet (s0) ⟨_,fr_next (fr_next (rfl) (by kernel_rfl)) (by kernel_rfl),rfl,H⟩ (sub_nil _)
 rintro f S ⟨fr3,rfl,rfl,H⟩
 replace H:((if x5_1=(9:Int) then (if (9:Int)<(l0.length:Int) then (if ((l0).getD ((9:Int)).toNat (0:Int)) > (1:Int) then some ((0:Int),(0:Int),(11:Int)) else (if x5_1 > (0:Int) then (if 0≤x5_1 then (if x5_1<(l0.length:Int) then (if ((l0).getD (x5_1).toNat (0:Int))=(0:Int) then some ((0:Int),(0:Int),(11:Int)) else (shadowboxref01_ReadShort.jo4 k l0 x5_1)) else none) else none) else (shadowboxref01_ReadShort.jo4 k l0 x5_1))) else none) else (if x5_1 > (0:Int) then (if 0≤x5_1 then (if x5_1<(l0.length:Int) then (if ((l0).getD (x5_1).toNat (0:Int))=(0:Int) then some ((0:Int),(0:Int),(11:Int)) else (shadowboxref01_ReadShort.jo4 k l0 x5_1)) else none) else none) else (shadowboxref01_ReadShort.jo4 k l0 x5_1))))=some r := H
 refine cs_cut (fun f S=>∃ (fR:Fr),f=upd (upd fR 0 (.slice A0 l0.length c0)) 5 (.int .i64 x5_1)∧S=s0∧shadowboxref01_ReadShort.jo4 k l0 x5_1=some r) ?_ ?_
 ·skip
  refine cs_seq ?_
  refine cs_region (l:=[_,_,_,_,_,_,_,_,_,_,_,_,_,_,_,_,_,_,_]) ?_
  refine lv (.int .i64 x5_1) ?_
  refine lv (.bool (decide (x5_1=(9:Int)))) ?_
  refine lv (.bool (decide (x5_1=(9:Int)))) ?_
  by_cases q10:x5_1=(9:Int)
  ·replace H := ite_t q10 H
   refine ls_know (c:=true) (dec_t q10) 33 (by kernel_rfl) ?_
   refine ls_on (j:=2) (t:=33) (b:=true) rfl rfl (by kernel_rfl) (by kernel_rfl) ?_
   refine lv (.slice A0 l0.length c0) ?_
   refine ls_on (j:=2) (t:=33) (b:=true) rfl rfl (by kernel_rfl) (by kernel_rfl) ?_
   obtain ⟨q11,H⟩ := ite_need H
   obtain ⟨ad12,hA13⟩ := ido_at (T:=(Ec.int 5 .u8)) (l:=l0) (i:=(9:Int)) R0 (by decide) q11
   refine ls_idxv (Ec.int 5 .u8) (A:=A0) (c:=c0) (l:=l0) (k:=.i64) (i:=(9:Int)) (z:=1) (ad:=ad12) rfl rfl (by kernel_rfl) hA13 rfl (by kernel_rfl) (by kernel_rfl) (by kernel_rfl) (by kernel_rfl) (by decide) q11 ?_
   refine ls_on (j:=2) (t:=33) (b:=true) rfl rfl (by kernel_rfl) (by kernel_rfl) ?_
   refine ls_load (a0:=(ad12.add (((9:Int)).toNat*1))) (v:=.int .u8 ((l0).getD ((9:Int)).toNat (0:Int))) (de:=(TypeDesc.int .u8)) rfl rfl (by kernel_rfl) rfl (by kernel_rfl) (by kernel_rfl) (by kernel_rfl) (fun w hs=>(hs.old R0).at hA13 (em_sub (Ec.int 5 .u8) l0 (i:=((9:Int)).toNat) (by have h0:(0:Int)≤(9:Int) := (by decide); have h1:(9:Int)<(l0.length:Int) := q11; omega))) ?_
   refine ls_on (j:=2) (t:=33) (b:=true) rfl rfl (by kernel_rfl) (by kernel_rfl) ?_
   refine lv (.bool (decide (((l0).getD ((9:Int)).toNat (0:Int)) > (1:Int)))) ?_
   refine lv (.bool (decide (((l0).getD ((9:Int)).toNat (0:Int)) > (1:Int)))) ?_
   refine lv (.bool (decide (((l0).getD ((9:Int)).toNat (0:Int)) > (1:Int)))) ?_
   by_cases q14:((l0).getD ((9:Int)).toNat (0:Int)) > (1:Int)
   ·replace H := ite_t q14 H
    refine ls_know (c:=true) (dec_t q14) 39 (by kernel_rfl) ?_
    refine lofx 8 39 false true ?_
    refine lofx 8 39 false true ?_
    refine lofx 8 39 false true ?_
    refine ls_offu (j:=11) (t:=42) (b:=true) rfl rfl (by kernel_rfl) (by kernel_rfl) rfl (by kernel_rfl) ?_
    refine ls_offu (j:=11) (t:=42) (b:=true) rfl rfl (by kernel_rfl) (by kernel_rfl) rfl (by kernel_rfl) ?_
    refine ls_offu (j:=11) (t:=42) (b:=true) rfl rfl (by kernel_rfl) (by kernel_rfl) rfl (by kernel_rfl) ?_
    refine ls_offu (j:=11) (t:=42) (b:=true) rfl rfl (by kernel_rfl) (by kernel_rfl) rfl (by kernel_rfl) ?_
    refine ls_offu (j:=11) (t:=42) (b:=true) rfl rfl (by kernel_rfl) (by kernel_rfl) rfl (by kernel_rfl) ?_
    refine lofx 8 39 false true ?_
    refine lv (.bool true) ?_
    refine ls_end ?_
    refine qn_then ?_
    refine cs_true (by kernel_rfl) ?_
    refine cs_seq ?_
    refine cs_region (l:=[_,_,_]) ?_
    refine lv (.int .u64 (0:Int)) ?_
    refine lv (.int .i64 (0:Int)) ?_
    refine lv (.int .i64 (11:Int)) ?_
    refine ls_end ?_
    refine qn_then ?_
    refine cs_ret' ?_
    refine qr_then ?_
    obtain rfl := Option.some.inj H
    refine qr_res (rs:=[_,_,_]) rfl (fun w' hs=>⟨[.int .u64 (0:Int),.int .i64 (0:Int),.int .i64 (11:Int)],(res_tmp (by kernel_rfl) (res_tmp (by kernel_rfl) (res_tmp (by kernel_rfl) (.nil)))),(),rfl,hs.pick (ts:=[]) (cs:=[]) trivial (by decide)⟩)
   replace H := ite_f q14 H
   refine ls_know (c:=false) (dec_f q14) 39 (by kernel_rfl) ?_
   refine ls_on (j:=8) (t:=39) (b:=false) rfl rfl (by kernel_rfl) (by kernel_rfl) ?_
   refine lv (.int .i64 x5_1) ?_
   refine ls_on (j:=8) (t:=39) (b:=false) rfl rfl (by kernel_rfl) (by kernel_rfl) ?_
   refine lv (.bool (decide (x5_1 > (0:Int)))) ?_
   refine ls_on (j:=8) (t:=39) (b:=false) rfl rfl (by kernel_rfl) (by kernel_rfl) ?_
   refine lv (.bool (decide (x5_1 > (0:Int)))) ?_
   by_cases q15:x5_1 > (0:Int)
   ·replace H := ite_t q15 H
    refine ls_know (c:=true) (dec_t q15) 42 (by kernel_rfl) ?_
    refine ls_on (j:=11) (t:=42) (b:=true) rfl rfl (by kernel_rfl) (by kernel_rfl) ?_
    refine lv (.slice A0 l0.length c0) ?_
    refine ls_on (j:=11) (t:=42) (b:=true) rfl rfl (by kernel_rfl) (by kernel_rfl) ?_
    refine lv (.int .i64 x5_1) ?_
    refine ls_on (j:=11) (t:=42) (b:=true) rfl rfl (by kernel_rfl) (by kernel_rfl) ?_
    obtain ⟨q16,H⟩ := ite_need H
    obtain ⟨q17,H⟩ := ite_need H
    obtain ⟨ad18,hA19⟩ := ido_at (T:=(Ec.int 5 .u8)) (l:=l0) (i:=x5_1) R0 q16 q17
    refine ls_idxv (Ec.int 5 .u8) (A:=A0) (c:=c0) (l:=l0) (k:=.i64) (i:=x5_1) (z:=1) (ad:=ad18) rfl rfl (by kernel_rfl) hA19 rfl (by kernel_rfl) (by kernel_rfl) (by kernel_rfl) (by kernel_rfl) q16 q17 ?_
    refine ls_on (j:=11) (t:=42) (b:=true) rfl rfl (by kernel_rfl) (by kernel_rfl) ?_
    refine ls_load (a0:=(ad18.add ((x5_1).toNat*1))) (v:=.int .u8 ((l0).getD (x5_1).toNat (0:Int))) (de:=(TypeDesc.int .u8)) rfl rfl (by kernel_rfl) rfl (by kernel_rfl) (by kernel_rfl) (by kernel_rfl) (fun w hs=>(hs.old R0).at hA19 (em_sub (Ec.int 5 .u8) l0 (i:=(x5_1).toNat) (by have h0:(0:Int)≤x5_1 := q16; have h1:x5_1<(l0.length:Int) := q17; omega))) ?_
    refine ls_on (j:=11) (t:=42) (b:=true) rfl rfl (by kernel_rfl) (by kernel_rfl) ?_
    refine lv (.bool (decide (((l0).getD (x5_1).toNat (0:Int))=(0:Int)))) ?_
    refine ls_on (j:=8) (t:=39) (b:=false) rfl rfl (by kernel_rfl) (by kernel_rfl) ?_
    refine lv (.bool (decide (((l0).getD (x5_1).toNat (0:Int))=(0:Int)))) ?_
    refine lv (.bool (decide (((l0).getD (x5_1).toNat (0:Int))=(0:Int)))) ?_
    refine ls_end ?_
    refine qn_then ?_
    by_cases q20:((l0).getD (x5_1).toNat (0:Int))=(0:Int)
    ·replace H := ite_t q20 H
     refine cs_know (c:=true) (dec_t q20) 49 (by kernel_rfl) ?_
     refine cs_true (by kernel_rfl) ?_
     refine cs_seq ?_
     refine cs_region (l:=[_,_,_]) ?_
     refine lv (.int .u64 (0:Int)) ?_
     refine lv (.int .i64 (0:Int)) ?_
     refine lv (.int .i64 (11:Int)) ?_
     refine ls_end ?_
     refine qn_then ?_
     refine cs_ret' ?_
     refine qr_then ?_
     obtain rfl := Option.some.inj H
     refine qr_res (rs:=[_,_,_]) rfl (fun w' hs=>⟨[.int .u64 (0:Int),.int .i64 (0:Int),.int .i64 (11:Int)],(res_tmp (by kernel_rfl) (res_tmp (by kernel_rfl) (res_tmp (by kernel_rfl) (.nil)))),(),rfl,hs.pick (ts:=[]) (cs:=[]) trivial (by decide)⟩)
    replace H := ite_f q20 H
    refine cs_know (c:=false) (dec_f q20) 49 (by kernel_rfl) ?_
    refine cs_false (by kernel_rfl) ?_
    refine cs_skip' ?_
    refine qn_meet (s0) ⟨_,fr_next (fr_next (rfl) (by kernel_rfl)) (by kernel_rfl),rfl,H⟩ (sub_nil _)
   replace H := ite_f q15 H
   refine ls_know (c:=false) (dec_f q15) 42 (by kernel_rfl) ?_
   refine lofx 11 42 true false ?_
   refine lofx 11 42 true false ?_
   refine lofx 11 42 true false ?_
   refine lofx 11 42 true false ?_
   refine lofx 11 42 true false ?_
   refine ls_on (j:=8) (t:=39) (b:=false) rfl rfl (by kernel_rfl) (by kernel_rfl) ?_
   refine lv (.bool false) ?_
   refine lv (.bool false) ?_
   refine ls_end ?_
   refine qn_then ?_
   refine cs_false (by kernel_rfl) ?_
   refine cs_skip' ?_
   refine qn_meet (s0) ⟨_,fr_next (fr_next (rfl) (by kernel_rfl)) (by kernel_rfl),rfl,H⟩ (sub_nil _)
  replace H := ite_f q10 H
  refine ls_know (c:=false) (dec_f q10) 33 (by kernel_rfl) ?_
  refine lofx 2 33 true false ?_
  refine lofx 2 33 true false ?_
  refine lofx 2 33 true false ?_
  refine lofx 2 33 true false ?_
  refine lv (.bool false) ?_
  refine lv (.bool false) ?_
  refine ls_on (j:=8) (t:=39) (b:=false) rfl rfl (by kernel_rfl) (by kernel_rfl) ?_
  refine lv (.int .i64 x5_1) ?_
  refine ls_on (j:=8) (t:=39) (b:=false) rfl rfl (by kernel_rfl) (by kernel_rfl) ?_
  refine lv (.bool (decide (x5_1 > (0:Int)))) ?_
  refine ls_on (j:=8) (t:=39) (b:=false) rfl rfl (by kernel_rfl) (by kernel_rfl) ?_
  refine lv (.bool (decide (x5_1 > (0:Int)))) ?_
  by_cases q21:x5_1 > (0:Int)
  ·replace H := ite_t q21 H
   refine ls_know (c:=true) (dec_t q21) 42 (by kernel_rfl) ?_
   refine ls_on (j:=11) (t:=42) (b:=true) rfl rfl (by kernel_rfl) (by kernel_rfl) ?_
   refine lv (.slice A0 l0.length c0) ?_
   refine ls_on (j:=11) (t:=42) (b:=true) rfl rfl (by kernel_rfl) (by kernel_rfl) ?_
   refine lv (.int .i64 x5_1) ?_
   refine ls_on (j:=11) (t:=42) (b:=true) rfl rfl (by kernel_rfl) (by kernel_rfl) ?_
   obtain ⟨q22,H⟩ := ite_need H
   obtain ⟨q23,H⟩ := ite_need H
   obtain ⟨ad24,hA25⟩ := ido_at (T:=(Ec.int 5 .u8)) (l:=l0) (i:=x5_1) R0 q22 q23
   refine ls_idxv (Ec.int 5 .u8) (A:=A0) (c:=c0) (l:=l0) (k:=.i64) (i:=x5_1) (z:=1) (ad:=ad24) rfl rfl (by kernel_rfl) hA25 rfl (by kernel_rfl) (by kernel_rfl) (by kernel_rfl) (by kernel_rfl) q22 q23 ?_
   refine ls_on (j:=11) (t:=42) (b:=true) rfl rfl (by kernel_rfl) (by kernel_rfl) ?_
   refine ls_load (a0:=(ad24.add ((x5_1).toNat*1))) (v:=.int .u8 ((l0).getD (x5_1).toNat (0:Int))) (de:=(TypeDesc.int .u8)) rfl rfl (by kernel_rfl) rfl (by kernel_rfl) (by kernel_rfl) (by kernel_rfl) (fun w hs=>(hs.old R0).at hA25 (em_sub (Ec.int 5 .u8) l0 (i:=(x5_1).toNat) (by have h0:(0:Int)≤x5_1 := q22; have h1:x5_1<(l0.length:Int) := q23; omega))) ?_
   refine ls_on (j:=11) (t:=42) (b:=true) rfl rfl (by kernel_rfl) (by kernel_rfl) ?_
   refine lv (.bool (decide (((l0).getD (x5_1).toNat (0:Int))=(0:Int)))) ?_
   refine ls_on (j:=8) (t:=39) (b:=false) rfl rfl (by kernel_rfl) (by kernel_rfl) ?_
   refine lv (.bool (decide (((l0).getD (x5_1).toNat (0:Int))=(0:Int)))) ?_
   refine lv (.bool (decide (((l0).getD (x5_1).toNat (0:Int))=(0:Int)))) ?_
   refine ls_end ?_
   refine qn_then ?_
   by_cases q26:((l0).getD (x5_1).toNat (0:Int))=(0:Int)
   ·replace H := ite_t q26 H
    refine cs_know (c:=true) (dec_t q26) 49 (by kernel_rfl) ?_
    refine cs_true (by kernel_rfl) ?_
    refine cs_seq ?_
    refine cs_region (l:=[_,_,_]) ?_
    refine lv (.int .u64 (0:Int)) ?_
    refine lv (.int .i64 (0:Int)) ?_
    refine lv (.int .i64 (11:Int)) ?_
    refine ls_end ?_
    refine qn_then ?_
    refine cs_ret' ?_
    refine qr_then ?_
    obtain rfl := Option.some.inj H
    refine qr_res (rs:=[_,_,_]) rfl (fun w' hs=>⟨[.int .u64 (0:Int),.int .i64 (0:Int),.int .i64 (11:Int)],(res_tmp (by kernel_rfl) (res_tmp (by kernel_rfl) (res_tmp (by kernel_rfl) (.nil)))),(),rfl,hs.pick (ts:=[]) (cs:=[]) trivial (by decide)⟩)
   replace H := ite_f q26 H
   refine cs_know (c:=false) (dec_f q26) 49 (by kernel_rfl) ?_
   refine cs_false (by kernel_rfl) ?_
   refine cs_skip' ?_
   refine qn_meet (s0) ⟨_,fr_next (fr_next (rfl) (by kernel_rfl)) (by kernel_rfl),rfl,H⟩ (sub_nil _)
  replace H := ite_f q21 H
  refine ls_know (c:=false) (dec_f q21) 42 (by kernel_rfl) ?_
  refine lofx 11 42 true false ?_
  refine lofx 11 42 true false ?_
  refine lofx 11 42 true false ?_
  refine lofx 11 42 true false ?_
  refine lofx 11 42 true false ?_
  refine ls_on (j:=8) (t:=39) (b:=false) rfl rfl (by kernel_rfl) (by kernel_rfl) ?_
  refine lv (.bool false) ?_
  refine lv (.bool false) ?_
  refine ls_end ?_
  refine qn_then ?_
  refine cs_false (by kernel_rfl) ?_
  refine cs_skip' ?_
  refine qn_meet (s0) ⟨_,fr_next (fr_next (rfl) (by kernel_rfl)) (by kernel_rfl),rfl,H⟩ (sub_nil _)
 rintro f S ⟨fr4,rfl,rfl,H⟩
 replace H:(shadowboxref01_ReadShort.lo5 l0 x5_1 k (0:Int) x5_1)=some r := H
 refine cs_seq ?_
 refine cs_region (l:=[_]) ?_
 refine lv (.int .u64 (0:Int)) ?_
 refine ls_end ?_
 refine qn_then ?_
 refine cs_seq ?_
 refine cs_seq ?_
 refine cs_region (l:=[_,_]) ?_
 refine lv (.int .i64 x5_1) ?_
 refine lv (.int .i64 x5_1) ?_
 refine ls_end ?_
 refine qn_then ?_
 refine cs_block ?_
 refine cs_sub (s0) (sub_nil _) ?_
 refine cs_loop (fun kk f S=>∃ (fR:Fr) (x6_5:Int) (x7_5:Int),f=upd (upd (upd (upd fR 0 (.slice A0 l0.length c0)) 5 (.int .i64 x5_1)) 6 (.int .u64 x6_5)) 7 (.int .i64 x7_5)∧S=s0∧shadowboxref01_ReadShort.lo5 l0 x5_1 kk x6_5 x7_5=some r) k ?_ ?_ ?_
 ·exact ⟨_,(0:Int),x5_1,fr_next (fr_next (fr_next (fr_next (rfl) (by kernel_rfl)) (by kernel_rfl)) (by kernel_rfl)) (by kernel_rfl),rfl,H⟩
 ·rintro f S ⟨fr5,x6_5,x7_5,rfl,rfl,H⟩; cases H
 rintro k5 f S ⟨fr5,x6_5,x7_5,rfl,rfl,H⟩
 replace H:((if x7_5≥(0:Int) then (if 0≤x7_5 then (if x7_5<(l0.length:Int) then lt (Int.tmod ((l0).getD (x7_5).toNat (0:Int)) (128:Int)) fun y6=>lt (IntKind.wrap .u64 ((IntKind.wrap .u64 (x6_5*(128:Int)))+(IntKind.wrap .u64 y6))) fun y8=>(shadowboxref01_ReadShort.lo5 l0 x5_1 k5) y8 (IntKind.wrap .i64 (x7_5 - (1:Int))) else none) else none) else some (x6_5,IntKind.wrap .i64 (x5_1+(1:Int)),(0:Int))))=some r := H
 refine cs_seq ?_
 refine cs_seq ?_
 refine cs_region (l:=[_,_]) ?_
 refine lv (.int .i64 x7_5) ?_
 refine lv (.bool (decide (x7_5≥(0:Int)))) ?_
 refine ls_end ?_
 refine qn_then ?_
 by_cases q1:x7_5≥(0:Int)
 ·replace H := ite_t q1 H
  refine cs_know (c:=true) (dec_t q1) 52 (by kernel_rfl) ?_
  refine cs_true (by kernel_rfl) ?_
  refine cs_skip' ?_
  refine qn_then ?_
  refine cs_seq ?_
  refine cs_block ?_
  refine cs_region (l:=[_,_,_,_,_,_,_,_,_,_]) ?_
  refine lv (.int .u64 x6_5) ?_
  refine lv (.int .u64 (IntKind.wrap .u64 (x6_5*(128:Int)))) ?_
  refine lv (.slice A0 l0.length c0) ?_
  refine lv (.int .i64 x7_5) ?_
  obtain ⟨q2,H⟩ := ite_need H
  obtain ⟨q3,H⟩ := ite_need H
  obtain ⟨ad4,hA5⟩ := ido_at (T:=(Ec.int 5 .u8)) (l:=l0) (i:=x7_5) R0 q2 q3
  refine ls_idxv (Ec.int 5 .u8) (A:=A0) (c:=c0) (l:=l0) (k:=.i64) (i:=x7_5) (z:=1) (ad:=ad4) rfl rfl (by kernel_rfl) hA5 rfl (by kernel_rfl) (by kernel_rfl) (by kernel_rfl) (by kernel_rfl) q2 q3 ?_
  refine ls_load (a0:=(ad4.add ((x7_5).toNat*1))) (v:=.int .u8 ((l0).getD (x7_5).toNat (0:Int))) (de:=(TypeDesc.int .u8)) rfl rfl (by kernel_rfl) rfl (by kernel_rfl) (by kernel_rfl) (by kernel_rfl) (fun w hs=>(hs.old R0).at hA5 (em_sub (Ec.int 5 .u8) l0 (i:=(x7_5).toNat) (by have h0:(0:Int)≤x7_5 := q2; have h1:x7_5<(l0.length:Int) := q3; omega))) ?_
  obtain ⟨y6,hy7,H⟩ := lt_some H
  refine lv (.int .u8 (Int.tmod ((l0).getD (x7_5).toNat (0:Int)) (128:Int))) ?_
  refine ls_ren 61 (v:=.int .u8 (Int.tmod ((l0).getD (x7_5).toNat (0:Int)) (128:Int))) (v' := .int .u8 y6) (by kernel_rfl) (by rw [hy7]) ?_
  refine lv (.int .u64 (IntKind.wrap .u64 y6)) ?_
  obtain ⟨y8,hy9,H⟩ := lt_some H
  refine lv (.int .u64 (IntKind.wrap .u64 ((IntKind.wrap .u64 (x6_5*(128:Int)))+(IntKind.wrap .u64 y6)))) ?_
  refine ls_ren 63 (v:=.int .u64 (IntKind.wrap .u64 ((IntKind.wrap .u64 (x6_5*(128:Int)))+(IntKind.wrap .u64 y6)))) (v' := .int .u64 y8) (by kernel_rfl) (by rw [hy9]) ?_
  refine lv (.int .u64 y8) ?_
  refine ls_end ?_
  refine qn_block ?_
  refine qn_then ?_
  refine cs_region (l:=[_,_,_]) ?_
  refine lv (.int .i64 x7_5) ?_
  refine lv (.int .i64 (IntKind.wrap .i64 (x7_5 - (1:Int)))) ?_
  refine lv (.int .i64 (IntKind.wrap .i64 (x7_5 - (1:Int)))) ?_
  refine ls_end ?_
  refine qn_again k5 (s0) (Nat.le_refl _) ⟨_,y8,(IntKind.wrap .i64 (x7_5 - (1:Int))),fr_next (fr_next (fr_next (fr_next (rfl) (by kernel_rfl)) (by kernel_rfl)) (by kernel_rfl)) (by kernel_rfl),rfl,H⟩ (sub_nil _)
 replace H := ite_f q1 H
 refine cs_know (c:=false) (dec_f q1) 52 (by kernel_rfl) ?_
 refine cs_false (by kernel_rfl) ?_
 refine cs_exit' ?_
 refine qx_then ?_
 refine qx_then ?_
 refine qx_same ?_
 refine qn_then ?_
 refine cs_seq ?_
 refine cs_region (l:=[_,_,_,_,_,_]) ?_
 refine lv (.int .u64 x6_5) ?_
 refine lv (.int .i64 x5_1) ?_
 refine lv (.int .i64 (IntKind.wrap .i64 (x5_1+(1:Int)))) ?_
 refine lv (.int .u64 x6_5) ?_
 refine lv (.int .i64 (IntKind.wrap .i64 (x5_1+(1:Int)))) ?_
 refine lv (.int .i64 (0:Int)) ?_
 refine ls_end ?_
 refine qn_then ?_
 refine cs_ret' ?_
 obtain rfl := Option.some.inj H
 refine qr_res (rs:=[_,_,_]) rfl (fun w' hs=>⟨[.int .u64 x6_5,.int .i64 (IntKind.wrap .i64 (x5_1+(1:Int))),.int .i64 (0:Int)],(res_tmp (by kernel_rfl) (res_tmp (by kernel_rfl) (res_tmp (by kernel_rfl) (.nil)))),(),rfl,hs.pick (ts:=[]) (cs:=[]) trivial (by decide)⟩)
def shadowboxref16_number.tab5:List (List Nat) := [[],[0],[],[],[2,3],[0,1],[0,1,2,3,4,5],[0,1,2,3,4,5,6]]
def shadowboxref16_number.f (k:Nat) (l0:List Int):Option (Int × (List Int) × Bool) :=
  (shadowboxref01_ReadShort.f k l0).bind fun t1=>(if t1.2.2=(0:Int) then (if t1.1 > (65536:Int) then some ((0:Int),([]:List Int),false) else (if 0≤t1.2.1 then (if t1.2.1≤(l0.length:Int) then lt (l0.drop (t1.2.1).toNat) fun xl14=>some (IntKind.wrap .i64 t1.1,xl14,true) else none) else none)) else some ((0:Int),([]:List Int),false))
theorem shadowboxref16_number.calls (k:Nat) (A0:Option Addr) (c0:Nat) (l0:List Int) (r:Int × (List Int) × Bool) (b:Bs) (hs0:St b (stl []) b.w) (R0:Ro b A0 (em (Ec.int 5 .u8) l0)) (C0:l0.length≤c0) (H:shadowboxref16_number.f k l0=some r) :
    Calls Try.prog 64 #[.slice A0 l0.length c0] b.w fun e w'=>∃ x:(Option Addr × Nat),e=.returned (.tuple #[.int .i64 r.1,.slice x.1 r.2.1.length x.2,.bool r.2.2])∧((Ro b x.1 (em (Ec.int 5 .u8) r.2.1)∧r.2.1.length≤x.2))∧St b (stl []) w' := by
 unfold shadowboxref16_number.f at H
 refine enterb (n:=25) Try.func64 rfl (by kernel_rfl) (by kernel_rfl) hs0 ?_
 refine cs_sub (s0) (sub_nil _) ?_
 refine cs_seq ?_
 refine cs_region (l:=[_,_,_]) ?_
 refine lv (.int .i64 (0:Int)) ?_
 refine lv (.slice none 0 0) ?_
 refine lv (.bool false) ?_
 refine ls_end ?_
 refine qn_then ?_
 refine cs_seq ?_
 refine cs_region (l:=[_,_,_,_,_,_,_,_,_]) ?_
 refine lv (.slice A0 l0.length c0) ?_
 obtain ⟨t1,hc2,H⟩ := bind_some H
 refine ls_callb (fid:=77) (vals:=#[.slice A0 l0.length c0]) (X:=Unit) (fun x=>.tuple #[.int .u64 t1.1,.int .i64 t1.2.1,.int .i64 t1.2.2]) (fun x=>stl []) [] [] [] [] 0 rfl rfl (by kernel_rfl) (fun w=>by kernel_rfl) trivial trivial (by decide) (fun w hs hb=>shadowboxref01_ReadShort.calls k A0 c0 l0 t1 (lent b w [] []) hb (hs.ro R0 _ _) C0 hc2) ?_
 intro x3
 refine lv (.tuple #[.int .u64 t1.1,.int .i64 t1.2.1,.int .i64 t1.2.2]) ?_
 refine lv (.int .u64 t1.1) ?_
 refine lv (.int .i64 t1.2.1) ?_
 refine lv (.int .i64 t1.2.2) ?_
 refine lv (.int .u64 t1.1) ?_
 refine lv (.int .i64 t1.2.1) ?_
 refine lv (.int .i64 t1.2.2) ?_
 refine ls_end ?_
 refine qn_then ?_
 refine cs_seq ?_
 refine cs_seq ?_
 refine cs_region (l:=[_,_,_,_,_,_]) ?_
 refine lv (.int .i64 t1.2.2) ?_
 refine lv (.bool (!decide (t1.2.2=(0:Int)))) ?_
 refine lv (.bool (!decide (t1.2.2=(0:Int)))) ?_
 by_cases q4:t1.2.2=(0:Int)
 ·replace H := ite_t q4 H
  refine ls_know (c:=false) (congrArg Bool.not (dec_t q4)) 16 (by kernel_rfl) ?_
  refine ls_on (j:=2) (t:=16) (b:=false) rfl rfl (by kernel_rfl) (by kernel_rfl) ?_
  refine lv (.int .u64 t1.1) ?_
  refine ls_on (j:=2) (t:=16) (b:=false) rfl rfl (by kernel_rfl) (by kernel_rfl) ?_
  refine lv (.bool (decide (t1.1 > (65536:Int)))) ?_
  refine lv (.bool (decide (t1.1 > (65536:Int)))) ?_
  refine ls_end ?_
  refine qn_then ?_
  by_cases q5:t1.1 > (65536:Int)
  ·replace H := ite_t q5 H
   refine cs_know (c:=true) (dec_t q5) 19 (by kernel_rfl) ?_
   refine cs_true (by kernel_rfl) ?_
   refine cs_seq ?_
   refine cs_region (l:=[_,_,_]) ?_
   refine lv (.int .i64 (0:Int)) ?_
   refine lv (.slice none 0 0) ?_
   refine lv (.bool false) ?_
   refine ls_end ?_
   refine qn_then ?_
   refine cs_ret' ?_
   refine qr_then ?_
   obtain rfl := Option.some.inj H
   refine qr_res (rs:=[_,_,_]) rfl (fun w' hs=>⟨[.int .i64 (0:Int),.slice none 0 0,.bool false],(res_tmp (by kernel_rfl) (res_tmp (by kernel_rfl) (res_tmp (by kernel_rfl) (.nil)))),(none,0),rfl,⟨(Ro.nil _ _),(Nat.zero_le _)⟩,hs.pick (ts:=[]) (cs:=[]) trivial (by decide)⟩)
  replace H := ite_f q5 H
  refine cs_know (c:=false) (dec_f q5) 19 (by kernel_rfl) ?_
  refine cs_false (by kernel_rfl) ?_
  refine cs_skip' ?_
  refine qn_then ?_
  refine cs_seq ?_
  obtain ⟨s7_0,hs7_0⟩ := exv (.int .u64 t1.1)
  refine have_opa shadowboxref16_number.tab5 0 0 (fun sp=>sp 0=s7_0) (fun sp on hA hon=>?_) (fun ops7_0=>?_)
  ·refine ⟨fun o ho vs Rs f' S' w hp hf hx hS hR hs=>?_⟩
   obtain rfl := Option.some.inj ho
   exact opv (.int .u64 t1.1) hA hs7_0 hon (fr_next (rfl) ((hx 5 (by kernel_rfl)).trans (by kernel_rfl:(_:Value)=.int .u64 t1.1)))
  obtain ⟨s7_1,hs7_1⟩ := exv (.int .i64 (IntKind.wrap .i64 t1.1))
  refine have_opa shadowboxref16_number.tab5 0 1 (fun sp=>sp 1=s7_1∧sp 0=s7_0) (fun sp on hA hon=>?_) (fun ops7_1=>?_)
  ·refine ⟨fun o ho vs Rs f' S' w hp hf hx hS hR hs=>?_⟩
   obtain rfl := Option.some.inj ho
   obtain ⟨hv0,hR0⟩ := (spe hA.2 hs7_0 (hp 0 (by kernel_rfl)))
   exact opv (.int .i64 (IntKind.wrap .i64 t1.1)) hA.1 hs7_1 hon (fr_next (rfl) ((hf 0 20 (by kernel_rfl) rfl).trans hv0))
  obtain ⟨s7_2,hs7_2⟩ := exv (.slice A0 l0.length c0)
  refine have_opa shadowboxref16_number.tab5 0 2 (fun sp=>sp 2=s7_2) (fun sp on hA hon=>?_) (fun ops7_2=>?_)
  ·refine ⟨fun o ho vs Rs f' S' w hp hf hx hS hR hs=>?_⟩
   obtain rfl := Option.some.inj ho
   exact opv (.slice A0 l0.length c0) hA hs7_2 hon (fr_next (rfl) ((hx 0 (by kernel_rfl)).trans (by kernel_rfl:(_:Value)=.slice A0 l0.length c0)))
  obtain ⟨s7_3,hs7_3⟩ := exv (.int .i64 t1.2.1)
  refine have_opa shadowboxref16_number.tab5 0 3 (fun sp=>sp 3=s7_3) (fun sp on hA hon=>?_) (fun ops7_3=>?_)
  ·refine ⟨fun o ho vs Rs f' S' w hp hf hx hS hR hs=>?_⟩
   obtain rfl := Option.some.inj ho
   exact opv (.int .i64 t1.2.1) hA hs7_3 hon (fr_next (rfl) ((hx 6 (by kernel_rfl)).trans (by kernel_rfl:(_:Value)=.int .i64 t1.2.1)))
  obtain ⟨q8,H⟩ := ite_need H
  obtain ⟨q9,H⟩ := ite_need H
  obtain ⟨xl14,hy15,H⟩ := lt_some H
  have hz17:(t1.2.1).toNat≤l0.length := by omega
  have hz18:l0.length≤l0.length := by omega
  obtain ⟨xA10,xc11,he16,xC13,xR12⟩ := cut_at (A:=A0) (c:=c0) (l:=l0) (Ec.int 5 .u8) ((t1.2.1).toNat) l0.length hz17 hz18 C0 R0 (m:=xl14) (by rw [← hy15] <;> simp) (z:=1) rfl
  obtain ⟨s7_4,hs7_4⟩ := exv (.slice xA10 xl14.length xc11)
  refine have_opa shadowboxref16_number.tab5 0 4 (fun sp=>sp 4=s7_4∧sp 2=s7_2∧sp 3=s7_3) (fun sp on hA hon=>?_) (fun ops7_4=>?_)
  ·refine ⟨fun o ho vs Rs f' S' w hp hf hx hS hR hs=>?_⟩
   obtain rfl := Option.some.inj ho
   obtain ⟨hv2,hR2⟩ := (spe hA.2.1 hs7_2 (hp 2 (by kernel_rfl)))
   obtain ⟨hv3,hR3⟩ := (spe hA.2.2 hs7_3 (hp 3 (by kernel_rfl)))
   rw [hA.1,hs7_4]
   refine wn hon ?_
   have hF := fr_next (fr_next (rfl) ((hf 2 22 (by kernel_rfl) rfl).trans hv2)) ((hf 3 23 (by kernel_rfl) rfl).trans hv3)
   refine ls_fr hF ?_
   refine ls_cutv (A:=A0) (c:=c0) (m:=l0.length) (z:=1) (e:=5) (a:=(t1.2.1).toNat) (b:=l0.length) rfl rfl (by kernel_rfl) rfl (by kernel_rfl) (by kernel_rfl) (by kernel_rfl) (.inr ⟨.i64,by rw [Int.toNat_of_nonneg (by first | assumption | omega)]; kernel_rfl⟩) (.inl ⟨rfl,rfl⟩) hz17 hz18 C0 he16 ?_
   exact ls_fin s0 _ (congrArg (fun z=>upd z 24 _) hF.symm) ⟨rfl,rfl⟩ (sub_nil _)
  obtain ⟨s7_5,hs7_5⟩ := exv (.int .i64 (IntKind.wrap .i64 t1.1))
  refine have_opa shadowboxref16_number.tab5 0 5 (fun sp=>sp 5=s7_5∧sp 1=s7_1) (fun sp on hA hon=>?_) (fun ops7_5=>?_)
  ·refine ⟨fun o ho vs Rs f' S' w hp hf hx hS hR hs=>?_⟩
   obtain rfl := Option.some.inj ho
   obtain ⟨hv1,hR1⟩ := (spe hA.2 hs7_1 (hp 1 (by kernel_rfl)))
   exact opv (.int .i64 (IntKind.wrap .i64 t1.1)) hA.1 hs7_5 hon (fr_next (rfl) ((hf 1 21 (by kernel_rfl) rfl).trans hv1))
  refine cs_draw shadowboxref16_number.tab5 6 0 (spl [s7_0,s7_1,s7_2,s7_3,s7_4,s7_5]) (onl [true,true,true,true,true,true]) (by kernel_rfl) (by kernel_rfl) (by kernel_rfl) (by kernel_rfl) (rs:=[_,_]) rfl (by kernel_rfl) (by kernel_rfl) (all_snoc (all_snoc (all_snoc (all_snoc (all_snoc (all_snoc (all_nil) (ops7_0 _ _ rfl rfl)) (ops7_1 _ _ ⟨rfl,rfl⟩ rfl)) (ops7_2 _ _ rfl rfl)) (ops7_3 _ _ rfl rfl)) (ops7_4 _ _ ⟨rfl,rfl,rfl⟩ rfl)) (ops7_5 _ _ ⟨rfl,rfl⟩ rfl)) ?_
  intro vs Rs f' S' hp hf hx hS hR
  obtain ⟨hv4,hR4⟩ := (spe rfl hs7_4 (hp 4 (by kernel_rfl)))
  obtain ⟨hv5,hR5⟩ := (spe rfl hs7_5 (hp 5 (by kernel_rfl)))
  refine ls_fr (F:=upd (upd f' 2 (.int .i64 (IntKind.wrap .i64 t1.1))) 24 (.slice xA10 xl14.length xc11)) (fr_next (fr_next (rfl) ((hf 5 2 (by kernel_rfl) rfl).trans hv5)) ((hf 4 24 (by kernel_rfl) rfl).trans hv4)) ?_
  refine ls_sub (s0) (sub_nil _) ?_
  refine lv (.slice xA10 xl14.length xc11) ?_
  refine lv (.bool true) ?_
  refine ls_end ?_
  refine qn_then ?_
  refine cs_ret' ?_
  obtain rfl := Option.some.inj H
  refine qr_res (rs:=[_,_,_]) rfl (fun w' hs=>⟨[.int .i64 (IntKind.wrap .i64 t1.1),.slice xA10 xl14.length xc11,.bool true],(res_tmp (by kernel_rfl) (res_tmp (by kernel_rfl) (res_tmp (by kernel_rfl) (.nil)))),(xA10,xc11),rfl,⟨xR12,xC13⟩,hs.pick (ts:=[]) (cs:=[]) trivial (by decide)⟩)
 replace H := ite_f q4 H
 refine ls_know (c:=true) (congrArg Bool.not (dec_f q4)) 16 (by kernel_rfl) ?_
 refine lofx 2 16 false true ?_
 refine lofx 2 16 false true ?_
 refine lv (.bool true) ?_
 refine ls_end ?_
 refine qn_then ?_
 refine cs_true (by kernel_rfl) ?_
 refine cs_seq ?_
 refine cs_region (l:=[_,_,_]) ?_
 refine lv (.int .i64 (0:Int)) ?_
 refine lv (.slice none 0 0) ?_
 refine lv (.bool false) ?_
 refine ls_end ?_
 refine qn_then ?_
 refine cs_ret' ?_
 refine qr_then ?_
 obtain rfl := Option.some.inj H
 refine qr_res (rs:=[_,_,_]) rfl (fun w' hs=>⟨[.int .i64 (0:Int),.slice none 0 0,.bool false],(res_tmp (by kernel_rfl) (res_tmp (by kernel_rfl) (res_tmp (by kernel_rfl) (.nil)))),(none,0),rfl,⟨(Ro.nil _ _),(Nat.zero_le _)⟩,hs.pick (ts:=[]) (cs:=[]) trivial (by decide)⟩)
def shadowboxref01_ReadText.jo1 (l0:List Int) (a1:Int) (t1:Int × Int × Int):Option (ByteArray × Int × Int) := (if a1<(0:Int) then some ((⟨#[]⟩:ByteArray),(0:Int),(3:Int)) else (if t1.1 > (IntKind.wrap .u64 a1) then some ((⟨#[]⟩:ByteArray),(0:Int),(3:Int)) else lt (IntKind.wrap .i64 ((l0.length:Int) - t1.2.1)) fun y6=>(if t1.1 > (IntKind.wrap .u64 y6) then some ((⟨#[]⟩:ByteArray),(0:Int),(10:Int)) else lt (IntKind.wrap .i64 (t1.2.1+(IntKind.wrap .i64 t1.1))) fun y9=>(if 0≤y9 then (if y9≤(l0.length:Int) then (if 0≤t1.2.1 then (if t1.2.1≤y9 then lt ((l0.take (y9).toNat).drop (t1.2.1).toNat) fun xl19=>lt (IntKind.wrap .i64 (t1.2.1+(IntKind.wrap .i64 t1.1))) fun y24=>some (strOfNums xl19,y24,(0:Int)) else none) else none) else none) else none))))
def shadowboxref01_ReadText.f (k:Nat) (l0:List Int) (a1:Int):Option (ByteArray × Int × Int) :=
  (shadowboxref01_ReadShort.f k l0).bind fun t1=>(if t1.2.2=(0:Int) then (shadowboxref01_ReadText.jo1 l0 a1 t1) else some ((⟨#[]⟩:ByteArray),(0:Int),t1.2.2))
theorem shadowboxref01_ReadText.calls (k:Nat) (A0:Option Addr) (c0:Nat) (l0:List Int) (a1:Int) (r:ByteArray × Int × Int) (b:Bs) (hs0:St b (stl []) b.w) (R0:Ro b A0 (em (Ec.int 5 .u8) l0)) (C0:l0.length≤c0) (H:shadowboxref01_ReadText.f k l0 a1=some r) :
    Calls Try.prog 78 #[.slice A0 l0.length c0,.int .i64 a1] b.w fun e w'=>∃ x:Unit,e=.returned (.tuple #[.string r.1,.int .i64 r.2.1,.int .i64 r.2.2])∧St b (stl []) w' := by
 unfold shadowboxref01_ReadText.f at H
 refine enterb (n:=46) Try.func78 rfl (by kernel_rfl) (by kernel_rfl) hs0 ?_
 refine cs_sub (s0) (sub_nil _) ?_
 refine cs_seq ?_
 refine cs_region (l:=[_,_,_]) ?_
 refine lv (.string (⟨#[]⟩:ByteArray)) ?_
 refine lv (.int .i64 (0:Int)) ?_
 refine lv (.int .i64 (0:Int)) ?_
 refine ls_end ?_
 refine qn_then ?_
 refine cs_seq ?_
 refine cs_region (l:=[_,_,_,_,_,_,_,_,_]) ?_
 refine lv (.slice A0 l0.length c0) ?_
 obtain ⟨t1,hc2,H⟩ := bind_some H
 refine ls_callb (fid:=77) (vals:=#[.slice A0 l0.length c0]) (X:=Unit) (fun x=>.tuple #[.int .u64 t1.1,.int .i64 t1.2.1,.int .i64 t1.2.2]) (fun x=>stl []) [] [] [] [] 0 rfl rfl (by kernel_rfl) (fun w=>by kernel_rfl) trivial trivial (by decide) (fun w hs hb=>shadowboxref01_ReadShort.calls k A0 c0 l0 t1 (lent b w [] []) hb (hs.ro R0 _ _) C0 hc2) ?_
 intro x3
 refine lv (.tuple #[.int .u64 t1.1,.int .i64 t1.2.1,.int .i64 t1.2.2]) ?_
 refine lv (.int .u64 t1.1) ?_
 refine lv (.int .i64 t1.2.1) ?_
 refine lv (.int .i64 t1.2.2) ?_
 refine lv (.int .u64 t1.1) ?_
 refine lv (.int .i64 t1.2.1) ?_
 refine lv (.int .i64 t1.2.2) ?_
 refine ls_end ?_
 refine qn_then ?_
 refine cs_cut (fun f S=>∃ (fR:Fr),f=upd (upd (upd (upd fR 0 (.slice A0 l0.length c0)) 1 (.int .i64 a1)) 7 (.int .u64 t1.1)) 8 (.int .i64 t1.2.1)∧S=s0∧shadowboxref01_ReadText.jo1 l0 a1 t1=some r) ?_ ?_
 ·skip
  refine cs_seq ?_
  refine cs_region (l:=[_,_]) ?_
  refine lv (.int .i64 t1.2.2) ?_
  refine lv (.bool (!decide (t1.2.2=(0:Int)))) ?_
  refine ls_end ?_
  refine qn_then ?_
  by_cases q26:t1.2.2=(0:Int)
  ·replace H := ite_t q26 H
   refine cs_know (c:=false) (congrArg Bool.not (dec_t q26)) 17 (by kernel_rfl) ?_
   refine cs_false (by kernel_rfl) ?_
   refine cs_skip' ?_
   refine qn_meet (s0) ⟨_,fr_next (fr_next (fr_next (fr_next (rfl) (by kernel_rfl)) (by kernel_rfl)) (by kernel_rfl)) (by kernel_rfl),rfl,H⟩ (sub_nil _)
  replace H := ite_f q26 H
  refine cs_know (c:=true) (congrArg Bool.not (dec_f q26)) 17 (by kernel_rfl) ?_
  refine cs_true (by kernel_rfl) ?_
  refine cs_seq ?_
  refine cs_region (l:=[_,_,_,_]) ?_
  refine lv (.int .i64 t1.2.2) ?_
  refine lv (.string (⟨#[]⟩:ByteArray)) ?_
  refine lv (.int .i64 (0:Int)) ?_
  refine lv (.int .i64 t1.2.2) ?_
  refine ls_end ?_
  refine qn_then ?_
  refine cs_ret' ?_
  refine qr_then ?_
  obtain rfl := Option.some.inj H
  refine qr_res (rs:=[_,_,_]) rfl (fun w' hs=>⟨[.string (⟨#[]⟩:ByteArray),.int .i64 (0:Int),.int .i64 t1.2.2],(res_tmp (by kernel_rfl) (res_tmp (by kernel_rfl) (res_tmp (by kernel_rfl) (.nil)))),(),rfl,hs.pick (ts:=[]) (cs:=[]) trivial (by decide)⟩)
 rintro f S ⟨fr1,rfl,rfl,H⟩
 replace H:((if a1<(0:Int) then some ((⟨#[]⟩:ByteArray),(0:Int),(3:Int)) else (if t1.1 > (IntKind.wrap .u64 a1) then some ((⟨#[]⟩:ByteArray),(0:Int),(3:Int)) else lt (IntKind.wrap .i64 ((l0.length:Int) - t1.2.1)) fun y6=>(if t1.1 > (IntKind.wrap .u64 y6) then some ((⟨#[]⟩:ByteArray),(0:Int),(10:Int)) else lt (IntKind.wrap .i64 (t1.2.1+(IntKind.wrap .i64 t1.1))) fun y9=>(if 0≤y9 then (if y9≤(l0.length:Int) then (if 0≤t1.2.1 then (if t1.2.1≤y9 then lt ((l0.take (y9).toNat).drop (t1.2.1).toNat) fun xl19=>lt (IntKind.wrap .i64 (t1.2.1+(IntKind.wrap .i64 t1.1))) fun y24=>some (strOfNums xl19,y24,(0:Int)) else none) else none) else none) else none)))))=some r := H
 refine cs_seq ?_
 refine cs_seq ?_
 refine cs_region (l:=[_,_,_,_,_,_,_,_]) ?_
 refine lv (.int .i64 a1) ?_
 refine lv (.bool (decide (a1<(0:Int)))) ?_
 refine lv (.bool (decide (a1<(0:Int)))) ?_
 by_cases q4:a1<(0:Int)
 ·replace H := ite_t q4 H
  refine ls_know (c:=true) (dec_t q4) 21 (by kernel_rfl) ?_
  refine lofx 2 21 false true ?_
  refine lofx 2 21 false true ?_
  refine lofx 2 21 false true ?_
  refine lofx 2 21 false true ?_
  refine lv (.bool true) ?_
  refine ls_end ?_
  refine qn_then ?_
  refine cs_true (by kernel_rfl) ?_
  refine cs_seq ?_
  refine cs_region (l:=[_,_,_]) ?_
  refine lv (.string (⟨#[]⟩:ByteArray)) ?_
  refine lv (.int .i64 (0:Int)) ?_
  refine lv (.int .i64 (3:Int)) ?_
  refine ls_end ?_
  refine qn_then ?_
  refine cs_ret' ?_
  refine qr_then ?_
  obtain rfl := Option.some.inj H
  refine qr_res (rs:=[_,_,_]) rfl (fun w' hs=>⟨[.string (⟨#[]⟩:ByteArray),.int .i64 (0:Int),.int .i64 (3:Int)],(res_tmp (by kernel_rfl) (res_tmp (by kernel_rfl) (res_tmp (by kernel_rfl) (.nil)))),(),rfl,hs.pick (ts:=[]) (cs:=[]) trivial (by decide)⟩)
 replace H := ite_f q4 H
 refine ls_know (c:=false) (dec_f q4) 21 (by kernel_rfl) ?_
 refine ls_on (j:=2) (t:=21) (b:=false) rfl rfl (by kernel_rfl) (by kernel_rfl) ?_
 refine lv (.int .u64 t1.1) ?_
 refine ls_on (j:=2) (t:=21) (b:=false) rfl rfl (by kernel_rfl) (by kernel_rfl) ?_
 refine lv (.int .i64 a1) ?_
 refine ls_on (j:=2) (t:=21) (b:=false) rfl rfl (by kernel_rfl) (by kernel_rfl) ?_
 refine lv (.int .u64 (IntKind.wrap .u64 a1)) ?_
 refine ls_on (j:=2) (t:=21) (b:=false) rfl rfl (by kernel_rfl) (by kernel_rfl) ?_
 refine lv (.bool (decide (t1.1 > (IntKind.wrap .u64 a1)))) ?_
 refine lv (.bool (decide (t1.1 > (IntKind.wrap .u64 a1)))) ?_
 refine ls_end ?_
 refine qn_then ?_
 by_cases q5:t1.1 > (IntKind.wrap .u64 a1)
 ·replace H := ite_t q5 H
  refine cs_know (c:=true) (dec_t q5) 26 (by kernel_rfl) ?_
  refine cs_true (by kernel_rfl) ?_
  refine cs_seq ?_
  refine cs_region (l:=[_,_,_]) ?_
  refine lv (.string (⟨#[]⟩:ByteArray)) ?_
  refine lv (.int .i64 (0:Int)) ?_
  refine lv (.int .i64 (3:Int)) ?_
  refine ls_end ?_
  refine qn_then ?_
  refine cs_ret' ?_
  refine qr_then ?_
  obtain rfl := Option.some.inj H
  refine qr_res (rs:=[_,_,_]) rfl (fun w' hs=>⟨[.string (⟨#[]⟩:ByteArray),.int .i64 (0:Int),.int .i64 (3:Int)],(res_tmp (by kernel_rfl) (res_tmp (by kernel_rfl) (res_tmp (by kernel_rfl) (.nil)))),(),rfl,hs.pick (ts:=[]) (cs:=[]) trivial (by decide)⟩)
 replace H := ite_f q5 H
 refine cs_know (c:=false) (dec_f q5) 26 (by kernel_rfl) ?_
 refine cs_false (by kernel_rfl) ?_
 refine cs_skip' ?_
 refine qn_then ?_
 refine cs_seq ?_
 refine cs_seq ?_
 refine cs_region (l:=[_,_,_,_,_,_,_]) ?_
 refine lv (.int .u64 t1.1) ?_
 refine lv (.slice A0 l0.length c0) ?_
 refine lv (.int .i64 (l0.length:Int)) ?_
 refine lv (.int .i64 t1.2.1) ?_
 obtain ⟨y6,hy7,H⟩ := lt_some H
 refine lv (.int .i64 (IntKind.wrap .i64 ((l0.length:Int) - t1.2.1))) ?_
 refine ls_ren 31 (v:=.int .i64 (IntKind.wrap .i64 ((l0.length:Int) - t1.2.1))) (v' := .int .i64 y6) (by kernel_rfl) (by rw [hy7]) ?_
 refine lv (.int .u64 (IntKind.wrap .u64 y6)) ?_
 refine lv (.bool (decide (t1.1 > (IntKind.wrap .u64 y6)))) ?_
 refine ls_end ?_
 refine qn_then ?_
 by_cases q8:t1.1 > (IntKind.wrap .u64 y6)
 ·replace H := ite_t q8 H
  refine cs_know (c:=true) (dec_t q8) 33 (by kernel_rfl) ?_
  refine cs_true (by kernel_rfl) ?_
  refine cs_seq ?_
  refine cs_region (l:=[_,_,_]) ?_
  refine lv (.string (⟨#[]⟩:ByteArray)) ?_
  refine lv (.int .i64 (0:Int)) ?_
  refine lv (.int .i64 (10:Int)) ?_
  refine ls_end ?_
  refine qn_then ?_
  refine cs_ret' ?_
  refine qr_then ?_
  obtain rfl := Option.some.inj H
  refine qr_res (rs:=[_,_,_]) rfl (fun w' hs=>⟨[.string (⟨#[]⟩:ByteArray),.int .i64 (0:Int),.int .i64 (10:Int)],(res_tmp (by kernel_rfl) (res_tmp (by kernel_rfl) (res_tmp (by kernel_rfl) (.nil)))),(),rfl,hs.pick (ts:=[]) (cs:=[]) trivial (by decide)⟩)
 replace H := ite_f q8 H
 refine cs_know (c:=false) (dec_f q8) 33 (by kernel_rfl) ?_
 refine cs_false (by kernel_rfl) ?_
 refine cs_skip' ?_
 refine qn_then ?_
 refine cs_seq ?_
 refine cs_region (l:=[_,_,_,_,_,_,_,_,_,_,_,_,_,_,_]) ?_
 refine lv (.slice A0 l0.length c0) ?_
 refine lv (.int .i64 t1.2.1) ?_
 refine lv (.int .i64 t1.2.1) ?_
 refine lv (.int .u64 t1.1) ?_
 refine lv (.int .i64 (IntKind.wrap .i64 t1.1)) ?_
 obtain ⟨y9,hy10,H⟩ := lt_some H
 refine lv (.int .i64 (IntKind.wrap .i64 (t1.2.1+(IntKind.wrap .i64 t1.1)))) ?_
 refine ls_ren 39 (v:=.int .i64 (IntKind.wrap .i64 (t1.2.1+(IntKind.wrap .i64 t1.1)))) (v' := .int .i64 y9) (by kernel_rfl) (by rw [hy10]) ?_
 obtain ⟨q11,H⟩ := ite_need H
 obtain ⟨q12,H⟩ := ite_need H
 obtain ⟨q13,H⟩ := ite_need H
 obtain ⟨q14,H⟩ := ite_need H
 obtain ⟨xl19,hy20,H⟩ := lt_some H
 have hz22:(t1.2.1).toNat≤(y9).toNat := by omega
 have hz23:(y9).toNat≤l0.length := by omega
 obtain ⟨xA15,xc16,he21,xC18,xR17⟩ := cut_at (A:=A0) (c:=c0) (l:=l0) (Ec.int 5 .u8) ((t1.2.1).toNat) ((y9).toNat) hz22 hz23 C0 R0 (m:=xl19) (by rw [← hy20] <;> simp) (z:=1) rfl
 refine ls_cutv (A:=A0) (c:=c0) (m:=l0.length) (z:=1) (e:=5) (a:=(t1.2.1).toNat) (b:=(y9).toNat) rfl rfl (by kernel_rfl) rfl (by kernel_rfl) (by kernel_rfl) (by kernel_rfl) (.inr ⟨.i64,by rw [Int.toNat_of_nonneg (by first | assumption | omega)]; kernel_rfl⟩) (.inr ⟨.i64,by rw [Int.toNat_of_nonneg (by first | assumption | omega)]; kernel_rfl⟩) hz22 hz23 C0 he21 ?_
 refine ls_str (A:=xA15) (c:=xc16) (e:=5) (l:=xl19) rfl rfl (by kernel_rfl) rfl (by kernel_rfl) (by kernel_rfl) (by kernel_rfl) (by kernel_rfl) (fun w hs=>(hs.old xR17)) ?_
 refine lv (.int .i64 t1.2.1) ?_
 refine lv (.int .u64 t1.1) ?_
 refine lv (.int .i64 (IntKind.wrap .i64 t1.1)) ?_
 obtain ⟨y24,hy25,H⟩ := lt_some H
 refine lv (.int .i64 (IntKind.wrap .i64 (t1.2.1+(IntKind.wrap .i64 t1.1)))) ?_
 refine ls_ren 45 (v:=.int .i64 (IntKind.wrap .i64 (t1.2.1+(IntKind.wrap .i64 t1.1)))) (v' := .int .i64 y24) (by kernel_rfl) (by rw [hy25]) ?_
 refine lv (.string (strOfNums xl19)) ?_
 refine lv (.int .i64 y24) ?_
 refine lv (.int .i64 (0:Int)) ?_
 refine ls_end ?_
 refine qn_then ?_
 refine cs_ret' ?_
 obtain rfl := Option.some.inj H
 refine qr_res (rs:=[_,_,_]) rfl (fun w' hs=>⟨[.string (strOfNums xl19),.int .i64 y24,.int .i64 (0:Int)],(res_tmp (by kernel_rfl) (res_tmp (by kernel_rfl) (res_tmp (by kernel_rfl) (.nil)))),(),rfl,hs.pick (ts:=[]) (cs:=[]) trivial (by decide)⟩)
def shadowboxref16_text.tab4:List (List Nat) := [[],[],[],[1,2],[0],[0,1,2,3,4],[0,1,2,3,4,5]]
def shadowboxref16_text.f (k:Nat) (l0:List Int):Option (ByteArray × (List Int) × Bool) :=
  (shadowboxref01_ReadText.f k l0 (65536:Int)).bind fun t1=>(if t1.2.2=(0:Int) then (if 0≤t1.2.1 then (if t1.2.1≤(l0.length:Int) then lt (l0.drop (t1.2.1).toNat) fun xl13=>some (t1.1,xl13,true) else none) else none) else some ((⟨#[]⟩:ByteArray),([]:List Int),false))
theorem shadowboxref16_text.calls (k:Nat) (A0:Option Addr) (c0:Nat) (l0:List Int) (r:ByteArray × (List Int) × Bool) (b:Bs) (hs0:St b (stl []) b.w) (R0:Ro b A0 (em (Ec.int 5 .u8) l0)) (C0:l0.length≤c0) (H:shadowboxref16_text.f k l0=some r) :
    Calls Try.prog 65 #[.slice A0 l0.length c0] b.w fun e w'=>∃ x:(Option Addr × Nat),e=.returned (.tuple #[.string r.1,.slice x.1 r.2.1.length x.2,.bool r.2.2])∧((Ro b x.1 (em (Ec.int 5 .u8) r.2.1)∧r.2.1.length≤x.2))∧St b (stl []) w' := by
 unfold shadowboxref16_text.f at H
 refine enterb (n:=20) Try.func65 rfl (by kernel_rfl) (by kernel_rfl) hs0 ?_
 refine cs_sub (s0) (sub_nil _) ?_
 refine cs_seq ?_
 refine cs_region (l:=[_,_,_]) ?_
 refine lv (.string (⟨#[]⟩:ByteArray)) ?_
 refine lv (.slice none 0 0) ?_
 refine lv (.bool false) ?_
 refine ls_end ?_
 refine qn_then ?_
 refine cs_seq ?_
 refine cs_region (l:=[_,_,_,_,_,_,_,_,_]) ?_
 refine lv (.slice A0 l0.length c0) ?_
 obtain ⟨t1,hc2,H⟩ := bind_some H
 refine ls_callb (fid:=78) (vals:=#[.slice A0 l0.length c0,.int .i64 (65536:Int)]) (X:=Unit) (fun x=>.tuple #[.string t1.1,.int .i64 t1.2.1,.int .i64 t1.2.2]) (fun x=>stl []) [] [] [] [] 0 rfl rfl (by kernel_rfl) (fun w=>by kernel_rfl) trivial trivial (by decide) (fun w hs hb=>shadowboxref01_ReadText.calls k A0 c0 l0 (65536:Int) t1 (lent b w [] []) hb (hs.ro R0 _ _) C0 hc2) ?_
 intro x3
 refine lv (.tuple #[.string t1.1,.int .i64 t1.2.1,.int .i64 t1.2.2]) ?_
 refine lv (.string t1.1) ?_
 refine lv (.int .i64 t1.2.1) ?_
 refine lv (.int .i64 t1.2.2) ?_
 refine lv (.string t1.1) ?_
 refine lv (.int .i64 t1.2.1) ?_
 refine lv (.int .i64 t1.2.2) ?_
 refine ls_end ?_
 refine qn_then ?_
 refine cs_seq ?_
 refine cs_seq ?_
 refine cs_region (l:=[_,_]) ?_
 refine lv (.int .i64 t1.2.2) ?_
 refine lv (.bool (!decide (t1.2.2=(0:Int)))) ?_
 refine ls_end ?_
 refine qn_then ?_
 by_cases q4:t1.2.2=(0:Int)
 ·replace H := ite_t q4 H
  refine cs_know (c:=false) (congrArg Bool.not (dec_t q4)) 15 (by kernel_rfl) ?_
  refine cs_false (by kernel_rfl) ?_
  refine cs_skip' ?_
  refine qn_then ?_
  refine cs_seq ?_
  obtain ⟨s6_0,hs6_0⟩ := exv (.string t1.1)
  refine have_opa shadowboxref16_text.tab4 0 0 (fun sp=>sp 0=s6_0) (fun sp on hA hon=>?_) (fun ops6_0=>?_)
  ·refine ⟨fun o ho vs Rs f' S' w hp hf hx hS hR hs=>?_⟩
   obtain rfl := Option.some.inj ho
   exact opv (.string t1.1) hA hs6_0 hon (fr_next (rfl) ((hx 5 (by kernel_rfl)).trans (by kernel_rfl:(_:Value)=.string t1.1)))
  obtain ⟨s6_1,hs6_1⟩ := exv (.slice A0 l0.length c0)
  refine have_opa shadowboxref16_text.tab4 0 1 (fun sp=>sp 1=s6_1) (fun sp on hA hon=>?_) (fun ops6_1=>?_)
  ·refine ⟨fun o ho vs Rs f' S' w hp hf hx hS hR hs=>?_⟩
   obtain rfl := Option.some.inj ho
   exact opv (.slice A0 l0.length c0) hA hs6_1 hon (fr_next (rfl) ((hx 0 (by kernel_rfl)).trans (by kernel_rfl:(_:Value)=.slice A0 l0.length c0)))
  obtain ⟨s6_2,hs6_2⟩ := exv (.int .i64 t1.2.1)
  refine have_opa shadowboxref16_text.tab4 0 2 (fun sp=>sp 2=s6_2) (fun sp on hA hon=>?_) (fun ops6_2=>?_)
  ·refine ⟨fun o ho vs Rs f' S' w hp hf hx hS hR hs=>?_⟩
   obtain rfl := Option.some.inj ho
   exact opv (.int .i64 t1.2.1) hA hs6_2 hon (fr_next (rfl) ((hx 6 (by kernel_rfl)).trans (by kernel_rfl:(_:Value)=.int .i64 t1.2.1)))
  obtain ⟨q7,H⟩ := ite_need H
  obtain ⟨q8,H⟩ := ite_need H
  obtain ⟨xl13,hy14,H⟩ := lt_some H
  have hz16:(t1.2.1).toNat≤l0.length := by omega
  have hz17:l0.length≤l0.length := by omega
  obtain ⟨xA9,xc10,he15,xC12,xR11⟩ := cut_at (A:=A0) (c:=c0) (l:=l0) (Ec.int 5 .u8) ((t1.2.1).toNat) l0.length hz16 hz17 C0 R0 (m:=xl13) (by rw [← hy14] <;> simp) (z:=1) rfl
  obtain ⟨s6_3,hs6_3⟩ := exv (.slice xA9 xl13.length xc10)
  refine have_opa shadowboxref16_text.tab4 0 3 (fun sp=>sp 3=s6_3∧sp 1=s6_1∧sp 2=s6_2) (fun sp on hA hon=>?_) (fun ops6_3=>?_)
  ·refine ⟨fun o ho vs Rs f' S' w hp hf hx hS hR hs=>?_⟩
   obtain rfl := Option.some.inj ho
   obtain ⟨hv1,hR1⟩ := (spe hA.2.1 hs6_1 (hp 1 (by kernel_rfl)))
   obtain ⟨hv2,hR2⟩ := (spe hA.2.2 hs6_2 (hp 2 (by kernel_rfl)))
   rw [hA.1,hs6_3]
   refine wn hon ?_
   have hF := fr_next (fr_next (rfl) ((hf 1 17 (by kernel_rfl) rfl).trans hv1)) ((hf 2 18 (by kernel_rfl) rfl).trans hv2)
   refine ls_fr hF ?_
   refine ls_cutv (A:=A0) (c:=c0) (m:=l0.length) (z:=1) (e:=5) (a:=(t1.2.1).toNat) (b:=l0.length) rfl rfl (by kernel_rfl) rfl (by kernel_rfl) (by kernel_rfl) (by kernel_rfl) (.inr ⟨.i64,by rw [Int.toNat_of_nonneg (by first | assumption | omega)]; kernel_rfl⟩) (.inl ⟨rfl,rfl⟩) hz16 hz17 C0 he15 ?_
   exact ls_fin s0 _ (congrArg (fun z=>upd z 19 _) hF.symm) ⟨rfl,rfl⟩ (sub_nil _)
  obtain ⟨s6_4,hs6_4⟩ := exv (.string t1.1)
  refine have_opa shadowboxref16_text.tab4 0 4 (fun sp=>sp 4=s6_4∧sp 0=s6_0) (fun sp on hA hon=>?_) (fun ops6_4=>?_)
  ·refine ⟨fun o ho vs Rs f' S' w hp hf hx hS hR hs=>?_⟩
   obtain rfl := Option.some.inj ho
   obtain ⟨hv0,hR0⟩ := (spe hA.2 hs6_0 (hp 0 (by kernel_rfl)))
   exact opv (.string t1.1) hA.1 hs6_4 hon (fr_next (rfl) ((hf 0 16 (by kernel_rfl) rfl).trans hv0))
  refine cs_draw shadowboxref16_text.tab4 5 0 (spl [s6_0,s6_1,s6_2,s6_3,s6_4]) (onl [true,true,true,true,true]) (by kernel_rfl) (by kernel_rfl) (by kernel_rfl) (by kernel_rfl) (rs:=[_,_]) rfl (by kernel_rfl) (by kernel_rfl) (all_snoc (all_snoc (all_snoc (all_snoc (all_snoc (all_nil) (ops6_0 _ _ rfl rfl)) (ops6_1 _ _ rfl rfl)) (ops6_2 _ _ rfl rfl)) (ops6_3 _ _ ⟨rfl,rfl,rfl⟩ rfl)) (ops6_4 _ _ ⟨rfl,rfl⟩ rfl)) ?_
  intro vs Rs f' S' hp hf hx hS hR
  obtain ⟨hv3,hR3⟩ := (spe rfl hs6_3 (hp 3 (by kernel_rfl)))
  obtain ⟨hv4,hR4⟩ := (spe rfl hs6_4 (hp 4 (by kernel_rfl)))
  refine ls_fr (F:=upd (upd f' 2 (.string t1.1)) 19 (.slice xA9 xl13.length xc10)) (fr_next (fr_next (rfl) ((hf 4 2 (by kernel_rfl) rfl).trans hv4)) ((hf 3 19 (by kernel_rfl) rfl).trans hv3)) ?_
  refine ls_sub (s0) (sub_nil _) ?_
  refine lv (.slice xA9 xl13.length xc10) ?_
  refine lv (.bool true) ?_
  refine ls_end ?_
  refine qn_then ?_
  refine cs_ret' ?_
  obtain rfl := Option.some.inj H
  refine qr_res (rs:=[_,_,_]) rfl (fun w' hs=>⟨[.string t1.1,.slice xA9 xl13.length xc10,.bool true],(res_tmp (by kernel_rfl) (res_tmp (by kernel_rfl) (res_tmp (by kernel_rfl) (.nil)))),(xA9,xc10),rfl,⟨xR11,xC12⟩,hs.pick (ts:=[]) (cs:=[]) trivial (by decide)⟩)
 replace H := ite_f q4 H
 refine cs_know (c:=true) (congrArg Bool.not (dec_f q4)) 15 (by kernel_rfl) ?_
 refine cs_true (by kernel_rfl) ?_
 refine cs_seq ?_
 refine cs_region (l:=[_,_,_]) ?_
 refine lv (.string (⟨#[]⟩:ByteArray)) ?_
 refine lv (.slice none 0 0) ?_
 refine lv (.bool false) ?_
 refine ls_end ?_
 refine qn_then ?_
 refine cs_ret' ?_
 refine qr_then ?_
 obtain rfl := Option.some.inj H
 refine qr_res (rs:=[_,_,_]) rfl (fun w' hs=>⟨[.string (⟨#[]⟩:ByteArray),.slice none 0 0,.bool false],(res_tmp (by kernel_rfl) (res_tmp (by kernel_rfl) (res_tmp (by kernel_rfl) (.nil)))),(none,0),rfl,⟨(Ro.nil _ _),(Nat.zero_le _)⟩,hs.pick (ts:=[]) (cs:=[]) trivial (by decide)⟩)
end Go.Proofs.Ythhhkphbhlafbaa.G
