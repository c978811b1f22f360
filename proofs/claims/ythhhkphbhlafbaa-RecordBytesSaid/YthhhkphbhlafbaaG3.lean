/- Printed by a program of this session (sz.py): plain functions, and walks that show that the code comes to them; no condition. -/
import Derived.Test.YthhhkphbhlafbaaProg
import Derived.Test.YthhhkphbhlafbaaTy
import Derived.Test.YthhhkphbhlafbaaG0
import Derived.Test.YthhhkphbhlafbaaG1
import Derived.Test.YthhhkphbhlafbaaG2
set_option linter.unusedVariables false
set_option linter.unusedSimpArgs false
namespace Go.Proofs.Ythhhkphbhlafbaa.G
open Go Go.RowKit Go.Proofs.Ythhhkphbhlafbaa.Sx

/-! ### shadowbox/shadowboxref36.Read: function 24 -/
def shadowboxref36_Read.jo2 (l5_1 : List Int) (x7_1 : Int) (m1_1 : (Int × Int × Int × Int × ByteArray × ByteArray × (List (ByteArray × ByteArray)))) (k1 : Nat) (lo1 : (List Int) → Int → ((Int × Int × Int × Int × ByteArray × ByteArray × (List (ByteArray × ByteArray)))) → Option ((Int × Int × Int × Int × ByteArray × ByteArray × (List (ByteArray × ByteArray))) × Int)) : Option ((Int × Int × Int × Int × ByteArray × ByteArray × (List (ByteArray × ByteArray))) × Int) := (shadowboxref36_text.f k1 l5_1).bind fun t46 => (shadowboxref36_text.f k1 t46.2).bind fun t52 => (if (m1_1.2.2.2.2.2.2.length + ([(t46.1, t52.1)]).length) * 32 ≤ 140737488355328 then lo1 t52.2 (IntKind.wrap .i64 (x7_1 + (1 : Int))) (m1_1.1, m1_1.2.1, m1_1.2.2.1, m1_1.2.2.2.1, m1_1.2.2.2.2.1, m1_1.2.2.2.2.2.1, (m1_1.2.2.2.2.2.2 ++ [(t46.1, t52.1)])) else none)
def shadowboxref36_Read.lo1 (l0 : List Int) (t39 : Int × (List Int)) : Nat → (List Int) → Int → ((Int × Int × Int × Int × ByteArray × ByteArray × (List (ByteArray × ByteArray)))) → Option ((Int × Int × Int × Int × ByteArray × ByteArray × (List (ByteArray × ByteArray))) × Int)
  | 0, _, _, _ => none
  | k1 + 1, l5_1, x7_1, m1_1 => (if x7_1 < t39.1 then (if x7_1 < (9 : Int) then (shadowboxref36_Read.jo2 l5_1 x7_1 m1_1 k1 (shadowboxref36_Read.lo1 l0 t39 k1)) else (shadowboxref36_Put.f k1 (m1_1.1, m1_1.2.1, m1_1.2.2.1, m1_1.2.2.2.1, m1_1.2.2.2.2.1, m1_1.2.2.2.2.2.1, m1_1.2.2.2.2.2.2)).bind fun t64 => (if t64.2 = (0 : Int) then (if ((strOfNums t64.1).toList == (strOfNums l0).toList) = true then some ((m1_1.1, m1_1.2.1, m1_1.2.2.1, m1_1.2.2.2.1, m1_1.2.2.2.2.1, m1_1.2.2.2.2.2.1, m1_1.2.2.2.2.2.2), (0 : Int)) else some (((0 : Int), (0 : Int), (0 : Int), (0 : Int), ByteArray.empty, ByteArray.empty, ([] : List (ByteArray × ByteArray))), (11 : Int))) else some (((0 : Int), (0 : Int), (0 : Int), (0 : Int), ByteArray.empty, ByteArray.empty, ([] : List (ByteArray × ByteArray))), (11 : Int)))) else (shadowboxref36_Put.f k1 (m1_1.1, m1_1.2.1, m1_1.2.2.1, m1_1.2.2.2.1, m1_1.2.2.2.2.1, m1_1.2.2.2.2.2.1, m1_1.2.2.2.2.2.2)).bind fun t74 => (if t74.2 = (0 : Int) then (if ((strOfNums t74.1).toList == (strOfNums l0).toList) = true then some ((m1_1.1, m1_1.2.1, m1_1.2.2.1, m1_1.2.2.2.1, m1_1.2.2.2.2.1, m1_1.2.2.2.2.2.1, m1_1.2.2.2.2.2.2), (0 : Int)) else some (((0 : Int), (0 : Int), (0 : Int), (0 : Int), ByteArray.empty, ByteArray.empty, ([] : List (ByteArray × ByteArray))), (11 : Int))) else some (((0 : Int), (0 : Int), (0 : Int), (0 : Int), ByteArray.empty, ByteArray.empty, ([] : List (ByteArray × ByteArray))), (11 : Int))))
def shadowboxref36_Read.f (k : Nat) (l0 : List Int) : Option ((Int × Int × Int × Int × ByteArray × ByteArray × (List (ByteArray × ByteArray))) × Int) :=
  (shadowboxref36_number.f k l0).bind fun t3 => (shadowboxref36_number.f k t3.2).bind fun t9 => (shadowboxref36_number.f k t9.2).bind fun t15 => (shadowboxref36_number.f k t15.2).bind fun t21 => (shadowboxref36_text.f k t21.2).bind fun t27 => (shadowboxref36_text.f k t27.2).bind fun t33 => (shadowboxref36_number.f k t33.2).bind fun t39 => shadowboxref36_Read.lo1 l0 t39 k t39.2 (0 : Int) (t3.1, t9.1, t15.1, t21.1, t27.1, t33.1, ([] : List (ByteArray × ByteArray)))
set_option maxRecDepth 100000 in
set_option maxHeartbeats 4000000 in
theorem shadowboxref36_Read.calls (k : Nat) (A0 : Option Addr) (c0 : Nat) (l0 : List Int) (r : (Int × Int × Int × Int × ByteArray × ByteArray × (List (ByteArray × ByteArray))) × Int) (b : Bs) (hs0 : St b (stl []) b.w) (R0 : Ro b A0 (em (Ec.int 5 .u8) l0)) (C0 : l0.length ≤ c0) (H : shadowboxref36_Read.f k l0 = some r) :
    Calls Try.prog 24 #[.slice A0 l0.length c0] b.w fun e w' => ∃ b', b.le b' ∧ ∃ x : (Option Addr × Nat), e = .returned (.tuple #[.agg ⟨([Value.int .i64 r.1.1] ++ ([Value.int .i64 r.1.2.1] ++ ([Value.int .i64 r.1.2.2.1] ++ ([Value.int .i64 r.1.2.2.2.1] ++ ([Value.string r.1.2.2.2.2.1] ++ ([Value.string r.1.2.2.2.2.2.1] ++ [Value.slice x.1 r.1.2.2.2.2.2.2.length x.2]))))))⟩, .int .i64 r.2]) ∧ ((Ro b' x.1 (em T67 r.1.2.2.2.2.2.2) ∧ r.1.2.2.2.2.2.2.length ≤ x.2)) ∧ St b' (stl []) w' := by
  unfold shadowboxref36_Read.f at H
  refine enterb (n := 98) Try.func24 rfl (by kernel_rfl) (by kernel_rfl) hs0 ?_
  refine cs_sub (s0) (sub_nil _) ?_
  refine cs_seq ?_
  refine cs_region (l := [_, _]) ?_
  refine ls_new rfl rfl (by kernel_rfl) 0 (fun g => .pointer (some ⟨g, 0, none⟩)) (.cells ⟨([Value.int .i64 (0 : Int)] ++ ([Value.int .i64 (0 : Int)] ++ ([Value.int .i64 (0 : Int)] ++ ([Value.int .i64 (0 : Int)] ++ ([Value.string ByteArray.empty] ++ ([Value.string ByteArray.empty] ++ [Value.slice none 0 0]))))))⟩ 56) (fun w => by kernel_rfl) ?_
  intro g1
  refine lv (.int .i64 (0 : Int)) ?_
  refine ls_end ?_
  refine qn_then ?_
  refine cs_seq ?_
  refine cs_region (l := [_, _, _]) ?_
  refine lv (.agg ⟨([Value.int .i64 (0 : Int)] ++ ([Value.int .i64 (0 : Int)] ++ ([Value.int .i64 (0 : Int)] ++ ([Value.int .i64 (0 : Int)] ++ ([Value.string ByteArray.empty] ++ ([Value.string ByteArray.empty] ++ [Value.slice none 0 0]))))))⟩) ?_
  refine ls_new rfl rfl (by kernel_rfl) 1 (fun g => .pointer (some ⟨g, 0, none⟩)) (.cells ⟨([Value.int .i64 (0 : Int)] ++ ([Value.int .i64 (0 : Int)] ++ ([Value.int .i64 (0 : Int)] ++ ([Value.int .i64 (0 : Int)] ++ ([Value.string ByteArray.empty] ++ ([Value.string ByteArray.empty] ++ [Value.slice none 0 0]))))))⟩ 56) (fun w => by kernel_rfl) ?_
  intro g2
  refine ls_storec (g := g2) (off := 0) (v := .agg ⟨([Value.int .i64 (0 : Int)] ++ ([Value.int .i64 (0 : Int)] ++ ([Value.int .i64 (0 : Int)] ++ ([Value.int .i64 (0 : Int)] ++ ([Value.string ByteArray.empty] ++ ([Value.string ByteArray.empty] ++ [Value.slice none 0 0]))))))⟩) (vs := ([Value.int .i64 (0 : Int)] ++ ([Value.int .i64 (0 : Int)] ++ ([Value.int .i64 (0 : Int)] ++ ([Value.int .i64 (0 : Int)] ++ ([Value.string ByteArray.empty] ++ ([Value.string ByteArray.empty] ++ [Value.slice none 0 0]))))))) (cs := ([Value.int .i64 (0 : Int)] ++ ([Value.int .i64 (0 : Int)] ++ ([Value.int .i64 (0 : Int)] ++ ([Value.int .i64 (0 : Int)] ++ ([Value.string ByteArray.empty] ++ ([Value.string ByteArray.empty] ++ [Value.slice none 0 0]))))))) (ty := 56) 1 rfl rfl rfl (by kernel_rfl) (by kernel_rfl) (by kernel_rfl) (by exact rfl) (by kernel_rfl) (len_app (len1 _) (len_app (len1 _) (len_app (len1 _) (len_app (len1 _) (len_app (len1 _) (len_app (len1 _) (len1 _))))))) (one_app (one_cons rfl one_nil) (one_app (one_cons rfl one_nil) (one_app (one_cons rfl one_nil) (one_app (one_cons rfl one_nil) (one_app (one_cons rfl one_nil) (one_app (one_cons rfl one_nil) (one_cons rfl one_nil))))))) (hl_of (Sub4.all _) (len_eq (len_app (len1 _) (len_app (len1 _) (len_app (len1 _) (len_app (len1 _) (len_app (len1 _) (len_app (len1 _) (len1 _))))))) (len_app (len1 _) (len_app (len1 _) (len_app (len1 _) (len_app (len1 _) (len_app (len1 _) (len_app (len1 _) (len1 _))))))))) (cs' := ([Value.int .i64 (0 : Int)] ++ ([Value.int .i64 (0 : Int)] ++ ([Value.int .i64 (0 : Int)] ++ ([Value.int .i64 (0 : Int)] ++ ([Value.string ByteArray.empty] ++ ([Value.string ByteArray.empty] ++ [Value.slice none 0 0]))))))) (splc_all (len_eq (len_app (len1 _) (len_app (len1 _) (len_app (len1 _) (len_app (len1 _) (len_app (len1 _) (len_app (len1 _) (len1 _))))))) (len_app (len1 _) (len_app (len1 _) (len_app (len1 _) (len_app (len1 _) (len_app (len1 _) (len_app (len1 _) (len1 _))))))))) ?_
  refine ls_end ?_
  refine qn_then ?_
  refine cs_seq ?_
  refine cs_region (l := [_, _]) ?_
  refine lv (.slice A0 l0.length c0) ?_
  refine lv (.slice A0 l0.length c0) ?_
  refine ls_end ?_
  refine qn_then ?_
  refine cs_seq ?_
  refine cs_region (l := [_, _, _, _, _, _, _, _]) ?_
  refine lv (.slice A0 l0.length c0) ?_
  obtain ⟨t3, hc4, H⟩ := bind_some H
  refine ls_callg (fid := 45) (vals := #[.slice A0 l0.length c0]) (X := (Option Addr × Nat)) (fun x => .tuple #[.int .i64 t3.1, .slice x.1 t3.2.length x.2]) (fun x => stl []) (fun x B => (Ro B x.1 (em (Ec.int 5 .u8) t3.2) ∧ t3.2.length ≤ x.2)) [] [] 2 rfl rfl (by kernel_rfl) (fun w => by kernel_rfl) trivial (by decide) (fun x b b' h hf => ⟨h _ _ hf.1, hf.2⟩) (fun w hs hb => shadowboxref36_number.calls k A0 c0 l0 t3 (lent b w [] []) hb (hs.ro R0 _ _) C0 hc4) ?_
  intro x5 hf8
  obtain ⟨fR6, fC7⟩ := hf8
  refine lv (.tuple #[.int .i64 t3.1, .slice x5.1 t3.2.length x5.2]) ?_
  refine lv (.int .i64 t3.1) ?_
  refine lv (.slice x5.1 t3.2.length x5.2) ?_
  refine lv (.pointer (some ⟨g2, (0 + 0), none⟩)) ?_
  refine ls_storec (g := g2) (off := (0 + 0)) (v := .int .i64 t3.1) (vs := [Value.int .i64 t3.1]) (cs := ([Value.int .i64 (0 : Int)] ++ ([Value.int .i64 (0 : Int)] ++ ([Value.int .i64 (0 : Int)] ++ ([Value.int .i64 (0 : Int)] ++ ([Value.string ByteArray.empty] ++ ([Value.string ByteArray.empty] ++ [Value.slice none 0 0]))))))) (ty := 56) 1 rfl rfl rfl (by kernel_rfl) (by kernel_rfl) (by kernel_rfl) (by exact rfl) (by kernel_rfl) (len1 _) (one_cons rfl one_nil) (hl_of (Sub4.trans (Sub4.all _) (Sub4.head _ _)) (len_eq (len1 _) (len1 _))) (cs' := ([Value.int .i64 t3.1] ++ ([Value.int .i64 (0 : Int)] ++ ([Value.int .i64 (0 : Int)] ++ ([Value.int .i64 (0 : Int)] ++ ([Value.string ByteArray.empty] ++ ([Value.string ByteArray.empty] ++ [Value.slice none 0 0]))))))) (splc_in (Sub4.all _) (splc_head (len_eq (len1 _) (len1 _))) (splc_all (len_eq (len_app (len1 _) (len_app (len1 _) (len_app (len1 _) (len_app (len1 _) (len_app (len1 _) (len_app (len1 _) (len1 _))))))) (len_app (len1 _) (len_app (len1 _) (len_app (len1 _) (len_app (len1 _) (len_app (len1 _) (len_app (len1 _) (len1 _))))))))) (hl_of (Sub4.head _ _) (len_eq (len1 _) (len1 _)))) ?_
  refine lv (.slice x5.1 t3.2.length x5.2) ?_
  refine ls_end ?_
  refine qn_then ?_
  refine cs_seq ?_
  refine cs_region (l := [_, _, _, _, _, _, _, _]) ?_
  refine lv (.slice x5.1 t3.2.length x5.2) ?_
  obtain ⟨t9, hc10, H⟩ := bind_some H
  refine ls_callg (fid := 45) (vals := #[.slice x5.1 t3.2.length x5.2]) (X := (Option Addr × Nat)) (fun x => .tuple #[.int .i64 t9.1, .slice x.1 t9.2.length x.2]) (fun x => stl []) (fun x B => (Ro B x.1 (em (Ec.int 5 .u8) t9.2) ∧ t9.2.length ≤ x.2)) [] [] 2 rfl rfl (by kernel_rfl) (fun w => by kernel_rfl) trivial (by decide) (fun x b b' h hf => ⟨h _ _ hf.1, hf.2⟩) (fun w hs hb => shadowboxref36_number.calls k x5.1 x5.2 t3.2 t9 (lent b w [] []) hb (hs.ro fR6 _ _) fC7 hc10) ?_
  intro x11 hf14
  obtain ⟨fR12, fC13⟩ := hf14
  refine lv (.tuple #[.int .i64 t9.1, .slice x11.1 t9.2.length x11.2]) ?_
  refine lv (.int .i64 t9.1) ?_
  refine lv (.slice x11.1 t9.2.length x11.2) ?_
  refine lv (.pointer (some ⟨g2, (0 + 1), none⟩)) ?_
  refine ls_storec (g := g2) (off := (0 + 1)) (v := .int .i64 t9.1) (vs := [Value.int .i64 t9.1]) (cs := ([Value.int .i64 t3.1] ++ ([Value.int .i64 (0 : Int)] ++ ([Value.int .i64 (0 : Int)] ++ ([Value.int .i64 (0 : Int)] ++ ([Value.string ByteArray.empty] ++ ([Value.string ByteArray.empty] ++ [Value.slice none 0 0]))))))) (ty := 56) 1 rfl rfl rfl (by kernel_rfl) (by kernel_rfl) (by kernel_rfl) (by exact rfl) (by kernel_rfl) (len1 _) (one_cons rfl one_nil) (hl_of (Sub4.trans (Sub4.all _) (Sub4.skip (n := 1) (len1 _) (Sub4.head _ _))) (len_eq (len1 _) (len1 _))) (cs' := ([Value.int .i64 t3.1] ++ ([Value.int .i64 t9.1] ++ ([Value.int .i64 (0 : Int)] ++ ([Value.int .i64 (0 : Int)] ++ ([Value.string ByteArray.empty] ++ ([Value.string ByteArray.empty] ++ [Value.slice none 0 0]))))))) (splc_in (Sub4.all _) (splc_skip (n := 1) (len1 _) (splc_head (len_eq (len1 _) (len1 _)))) (splc_all (len_eq (len_app (len1 _) (len_app (len1 _) (len_app (len1 _) (len_app (len1 _) (len_app (len1 _) (len_app (len1 _) (len1 _))))))) (len_app (len1 _) (len_app (len1 _) (len_app (len1 _) (len_app (len1 _) (len_app (len1 _) (len_app (len1 _) (len1 _))))))))) (hl_of (Sub4.skip (n := 1) (len1 _) (Sub4.head _ _)) (len_eq (len1 _) (len1 _)))) ?_
  refine lv (.slice x11.1 t9.2.length x11.2) ?_
  refine ls_end ?_
  refine qn_then ?_
  refine cs_seq ?_
  refine cs_region (l := [_, _, _, _, _, _, _, _]) ?_
  refine lv (.slice x11.1 t9.2.length x11.2) ?_
  obtain ⟨t15, hc16, H⟩ := bind_some H
  refine ls_callg (fid := 45) (vals := #[.slice x11.1 t9.2.length x11.2]) (X := (Option Addr × Nat)) (fun x => .tuple #[.int .i64 t15.1, .slice x.1 t15.2.length x.2]) (fun x => stl []) (fun x B => (Ro B x.1 (em (Ec.int 5 .u8) t15.2) ∧ t15.2.length ≤ x.2)) [] [] 2 rfl rfl (by kernel_rfl) (fun w => by kernel_rfl) trivial (by decide) (fun x b b' h hf => ⟨h _ _ hf.1, hf.2⟩) (fun w hs hb => shadowboxref36_number.calls k x11.1 x11.2 t9.2 t15 (lent b w [] []) hb (hs.ro fR12 _ _) fC13 hc16) ?_
  intro x17 hf20
  obtain ⟨fR18, fC19⟩ := hf20
  refine lv (.tuple #[.int .i64 t15.1, .slice x17.1 t15.2.length x17.2]) ?_
  refine lv (.int .i64 t15.1) ?_
  refine lv (.slice x17.1 t15.2.length x17.2) ?_
  refine lv (.pointer (some ⟨g2, (0 + 2), none⟩)) ?_
  refine ls_storec (g := g2) (off := (0 + 2)) (v := .int .i64 t15.1) (vs := [Value.int .i64 t15.1]) (cs := ([Value.int .i64 t3.1] ++ ([Value.int .i64 t9.1] ++ ([Value.int .i64 (0 : Int)] ++ ([Value.int .i64 (0 : Int)] ++ ([Value.string ByteArray.empty] ++ ([Value.string ByteArray.empty] ++ [Value.slice none 0 0]))))))) (ty := 56) 1 rfl rfl rfl (by kernel_rfl) (by kernel_rfl) (by kernel_rfl) (by exact rfl) (by kernel_rfl) (len1 _) (one_cons rfl one_nil) (hl_of (Sub4.trans (Sub4.all _) (Sub4.skip (n := 1) (len1 _) (Sub4.skip (n := 1) (len1 _) (Sub4.head _ _)))) (len_eq (len1 _) (len1 _))) (cs' := ([Value.int .i64 t3.1] ++ ([Value.int .i64 t9.1] ++ ([Value.int .i64 t15.1] ++ ([Value.int .i64 (0 : Int)] ++ ([Value.string ByteArray.empty] ++ ([Value.string ByteArray.empty] ++ [Value.slice none 0 0]))))))) (splc_in (Sub4.all _) (splc_skip (n := 1) (len1 _) (splc_skip (n := 1) (len1 _) (splc_head (len_eq (len1 _) (len1 _))))) (splc_all (len_eq (len_app (len1 _) (len_app (len1 _) (len_app (len1 _) (len_app (len1 _) (len_app (len1 _) (len_app (len1 _) (len1 _))))))) (len_app (len1 _) (len_app (len1 _) (len_app (len1 _) (len_app (len1 _) (len_app (len1 _) (len_app (len1 _) (len1 _))))))))) (hl_of (Sub4.skip (n := 1) (len1 _) (Sub4.skip (n := 1) (len1 _) (Sub4.head _ _))) (len_eq (len1 _) (len1 _)))) ?_
  refine lv (.slice x17.1 t15.2.length x17.2) ?_
  refine ls_end ?_
  refine qn_then ?_
  refine cs_seq ?_
  refine cs_region (l := [_, _, _, _, _, _, _, _]) ?_
  refine lv (.slice x17.1 t15.2.length x17.2) ?_
  obtain ⟨t21, hc22, H⟩ := bind_some H
  refine ls_callg (fid := 45) (vals := #[.slice x17.1 t15.2.length x17.2]) (X := (Option Addr × Nat)) (fun x => .tuple #[.int .i64 t21.1, .slice x.1 t21.2.length x.2]) (fun x => stl []) (fun x B => (Ro B x.1 (em (Ec.int 5 .u8) t21.2) ∧ t21.2.length ≤ x.2)) [] [] 2 rfl rfl (by kernel_rfl) (fun w => by kernel_rfl) trivial (by decide) (fun x b b' h hf => ⟨h _ _ hf.1, hf.2⟩) (fun w hs hb => shadowboxref36_number.calls k x17.1 x17.2 t15.2 t21 (lent b w [] []) hb (hs.ro fR18 _ _) fC19 hc22) ?_
  intro x23 hf26
  obtain ⟨fR24, fC25⟩ := hf26
  refine lv (.tuple #[.int .i64 t21.1, .slice x23.1 t21.2.length x23.2]) ?_
  refine lv (.int .i64 t21.1) ?_
  refine lv (.slice x23.1 t21.2.length x23.2) ?_
  refine lv (.pointer (some ⟨g2, (0 + 3), none⟩)) ?_
  refine ls_storec (g := g2) (off := (0 + 3)) (v := .int .i64 t21.1) (vs := [Value.int .i64 t21.1]) (cs := ([Value.int .i64 t3.1] ++ ([Value.int .i64 t9.1] ++ ([Value.int .i64 t15.1] ++ ([Value.int .i64 (0 : Int)] ++ ([Value.string ByteArray.empty] ++ ([Value.string ByteArray.empty] ++ [Value.slice none 0 0]))))))) (ty := 56) 1 rfl rfl rfl (by kernel_rfl) (by kernel_rfl) (by kernel_rfl) (by exact rfl) (by kernel_rfl) (len1 _) (one_cons rfl one_nil) (hl_of (Sub4.trans (Sub4.all _) (Sub4.skip (n := 1) (len1 _) (Sub4.skip (n := 1) (len1 _) (Sub4.skip (n := 1) (len1 _) (Sub4.head _ _))))) (len_eq (len1 _) (len1 _))) (cs' := ([Value.int .i64 t3.1] ++ ([Value.int .i64 t9.1] ++ ([Value.int .i64 t15.1] ++ ([Value.int .i64 t21.1] ++ ([Value.string ByteArray.empty] ++ ([Value.string ByteArray.empty] ++ [Value.slice none 0 0]))))))) (splc_in (Sub4.all _) (splc_skip (n := 1) (len1 _) (splc_skip (n := 1) (len1 _) (splc_skip (n := 1) (len1 _) (splc_head (len_eq (len1 _) (len1 _)))))) (splc_all (len_eq (len_app (len1 _) (len_app (len1 _) (len_app (len1 _) (len_app (len1 _) (len_app (len1 _) (len_app (len1 _) (len1 _))))))) (len_app (len1 _) (len_app (len1 _) (len_app (len1 _) (len_app (len1 _) (len_app (len1 _) (len_app (len1 _) (len1 _))))))))) (hl_of (Sub4.skip (n := 1) (len1 _) (Sub4.skip (n := 1) (len1 _) (Sub4.skip (n := 1) (len1 _) (Sub4.head _ _)))) (len_eq (len1 _) (len1 _)))) ?_
  refine lv (.slice x23.1 t21.2.length x23.2) ?_
  refine ls_end ?_
  refine qn_then ?_
  refine cs_seq ?_
  refine cs_region (l := [_, _, _, _, _, _, _, _]) ?_
  refine lv (.slice x23.1 t21.2.length x23.2) ?_
  obtain ⟨t27, hc28, H⟩ := bind_some H
  refine ls_callg (fid := 46) (vals := #[.slice x23.1 t21.2.length x23.2]) (X := (Option Addr × Nat)) (fun x => .tuple #[.string t27.1, .slice x.1 t27.2.length x.2]) (fun x => stl []) (fun x B => (Ro B x.1 (em (Ec.int 5 .u8) t27.2) ∧ t27.2.length ≤ x.2)) [] [] 2 rfl rfl (by kernel_rfl) (fun w => by kernel_rfl) trivial (by decide) (fun x b b' h hf => ⟨h _ _ hf.1, hf.2⟩) (fun w hs hb => shadowboxref36_text.calls k x23.1 x23.2 t21.2 t27 (lent b w [] []) hb (hs.ro fR24 _ _) fC25 hc28) ?_
  intro x29 hf32
  obtain ⟨fR30, fC31⟩ := hf32
  refine lv (.tuple #[.string t27.1, .slice x29.1 t27.2.length x29.2]) ?_
  refine lv (.string t27.1) ?_
  refine lv (.slice x29.1 t27.2.length x29.2) ?_
  refine lv (.pointer (some ⟨g2, (0 + 4), none⟩)) ?_
  refine ls_storec (g := g2) (off := (0 + 4)) (v := .string t27.1) (vs := [Value.string t27.1]) (cs := ([Value.int .i64 t3.1] ++ ([Value.int .i64 t9.1] ++ ([Value.int .i64 t15.1] ++ ([Value.int .i64 t21.1] ++ ([Value.string ByteArray.empty] ++ ([Value.string ByteArray.empty] ++ [Value.slice none 0 0]))))))) (ty := 56) 1 rfl rfl rfl (by kernel_rfl) (by kernel_rfl) (by kernel_rfl) (by exact rfl) (by kernel_rfl) (len1 _) (one_cons rfl one_nil) (hl_of (Sub4.trans (Sub4.all _) (Sub4.skip (n := 1) (len1 _) (Sub4.skip (n := 1) (len1 _) (Sub4.skip (n := 1) (len1 _) (Sub4.skip (n := 1) (len1 _) (Sub4.head _ _)))))) (len_eq (len1 _) (len1 _))) (cs' := ([Value.int .i64 t3.1] ++ ([Value.int .i64 t9.1] ++ ([Value.int .i64 t15.1] ++ ([Value.int .i64 t21.1] ++ ([Value.string t27.1] ++ ([Value.string ByteArray.empty] ++ [Value.slice none 0 0]))))))) (splc_in (Sub4.all _) (splc_skip (n := 1) (len1 _) (splc_skip (n := 1) (len1 _) (splc_skip (n := 1) (len1 _) (splc_skip (n := 1) (len1 _) (splc_head (len_eq (len1 _) (len1 _))))))) (splc_all (len_eq (len_app (len1 _) (len_app (len1 _) (len_app (len1 _) (len_app (len1 _) (len_app (len1 _) (len_app (len1 _) (len1 _))))))) (len_app (len1 _) (len_app (len1 _) (len_app (len1 _) (len_app (len1 _) (len_app (len1 _) (len_app (len1 _) (len1 _))))))))) (hl_of (Sub4.skip (n := 1) (len1 _) (Sub4.skip (n := 1) (len1 _) (Sub4.skip (n := 1) (len1 _) (Sub4.skip (n := 1) (len1 _) (Sub4.head _ _))))) (len_eq (len1 _) (len1 _)))) ?_
  refine lv (.slice x29.1 t27.2.length x29.2) ?_
  refine ls_end ?_
  refine qn_then ?_
  refine cs_seq ?_
  refine cs_region (l := [_, _, _, _, _, _, _, _]) ?_
  refine lv (.slice x29.1 t27.2.length x29.2) ?_
  obtain ⟨t33, hc34, H⟩ := bind_some H
  refine ls_callg (fid := 46) (vals := #[.slice x29.1 t27.2.length x29.2]) (X := (Option Addr × Nat)) (fun x => .tuple #[.string t33.1, .slice x.1 t33.2.length x.2]) (fun x => stl []) (fun x B => (Ro B x.1 (em (Ec.int 5 .u8) t33.2) ∧ t33.2.length ≤ x.2)) [] [] 2 rfl rfl (by kernel_rfl) (fun w => by kernel_rfl) trivial (by decide) (fun x b b' h hf => ⟨h _ _ hf.1, hf.2⟩) (fun w hs hb => shadowboxref36_text.calls k x29.1 x29.2 t27.2 t33 (lent b w [] []) hb (hs.ro fR30 _ _) fC31 hc34) ?_
  intro x35 hf38
  obtain ⟨fR36, fC37⟩ := hf38
  refine lv (.tuple #[.string t33.1, .slice x35.1 t33.2.length x35.2]) ?_
  refine lv (.string t33.1) ?_
  refine lv (.slice x35.1 t33.2.length x35.2) ?_
  refine lv (.pointer (some ⟨g2, (0 + 5), none⟩)) ?_
  refine ls_storec (g := g2) (off := (0 + 5)) (v := .string t33.1) (vs := [Value.string t33.1]) (cs := ([Value.int .i64 t3.1] ++ ([Value.int .i64 t9.1] ++ ([Value.int .i64 t15.1] ++ ([Value.int .i64 t21.1] ++ ([Value.string t27.1] ++ ([Value.string ByteArray.empty] ++ [Value.slice none 0 0]))))))) (ty := 56) 1 rfl rfl rfl (by kernel_rfl) (by kernel_rfl) (by kernel_rfl) (by exact rfl) (by kernel_rfl) (len1 _) (one_cons rfl one_nil) (hl_of (Sub4.trans (Sub4.all _) (Sub4.skip (n := 1) (len1 _) (Sub4.skip (n := 1) (len1 _) (Sub4.skip (n := 1) (len1 _) (Sub4.skip (n := 1) (len1 _) (Sub4.skip (n := 1) (len1 _) (Sub4.head _ _))))))) (len_eq (len1 _) (len1 _))) (cs' := ([Value.int .i64 t3.1] ++ ([Value.int .i64 t9.1] ++ ([Value.int .i64 t15.1] ++ ([Value.int .i64 t21.1] ++ ([Value.string t27.1] ++ ([Value.string t33.1] ++ [Value.slice none 0 0]))))))) (splc_in (Sub4.all _) (splc_skip (n := 1) (len1 _) (splc_skip (n := 1) (len1 _) (splc_skip (n := 1) (len1 _) (splc_skip (n := 1) (len1 _) (splc_skip (n := 1) (len1 _) (splc_head (len_eq (len1 _) (len1 _)))))))) (splc_all (len_eq (len_app (len1 _) (len_app (len1 _) (len_app (len1 _) (len_app (len1 _) (len_app (len1 _) (len_app (len1 _) (len1 _))))))) (len_app (len1 _) (len_app (len1 _) (len_app (len1 _) (len_app (len1 _) (len_app (len1 _) (len_app (len1 _) (len1 _))))))))) (hl_of (Sub4.skip (n := 1) (len1 _) (Sub4.skip (n := 1) (len1 _) (Sub4.skip (n := 1) (len1 _) (Sub4.skip (n := 1) (len1 _) (Sub4.skip (n := 1) (len1 _) (Sub4.head _ _)))))) (len_eq (len1 _) (len1 _)))) ?_
  refine lv (.slice x35.1 t33.2.length x35.2) ?_
  refine ls_end ?_
  refine qn_then ?_
  refine cs_seq ?_
  refine cs_region (l := [_, _, _, _, _, _, _]) ?_
  refine lv (.slice x35.1 t33.2.length x35.2) ?_
  obtain ⟨t39, hc40, H⟩ := bind_some H
  refine ls_callg (fid := 45) (vals := #[.slice x35.1 t33.2.length x35.2]) (X := (Option Addr × Nat)) (fun x => .tuple #[.int .i64 t39.1, .slice x.1 t39.2.length x.2]) (fun x => stl []) (fun x B => (Ro B x.1 (em (Ec.int 5 .u8) t39.2) ∧ t39.2.length ≤ x.2)) [] [] 2 rfl rfl (by kernel_rfl) (fun w => by kernel_rfl) trivial (by decide) (fun x b b' h hf => ⟨h _ _ hf.1, hf.2⟩) (fun w hs hb => shadowboxref36_number.calls k x35.1 x35.2 t33.2 t39 (lent b w [] []) hb (hs.ro fR36 _ _) fC37 hc40) ?_
  intro x41 hf44
  obtain ⟨fR42, fC43⟩ := hf44
  refine lv (.tuple #[.int .i64 t39.1, .slice x41.1 t39.2.length x41.2]) ?_
  refine lv (.int .i64 t39.1) ?_
  refine lv (.slice x41.1 t39.2.length x41.2) ?_
  refine lv (.int .i64 t39.1) ?_
  refine lv (.slice x41.1 t39.2.length x41.2) ?_
  refine ls_end ?_
  refine qn_then ?_
  refine cs_seq ?_
  refine cs_seq ?_
  refine cs_region (l := [_]) ?_
  refine lv (.int .i64 (0 : Int)) ?_
  refine ls_end ?_
  refine qn_then ?_
  refine cs_block ?_
  refine cs_nilrow 2 T67 ?_
  refine cs_sub (sput (sput (sput s0 0 (some (Ck.var 56 g1 (([Value.int .i64 (0 : Int)] ++ ([Value.int .i64 (0 : Int)] ++ ([Value.int .i64 (0 : Int)] ++ ([Value.int .i64 (0 : Int)] ++ ([Value.string ByteArray.empty] ++ ([Value.string ByteArray.empty] ++ [Value.slice none 0 0])))))))))) 1 (some (Ck.var 56 g2 (([Value.int .i64 t3.1] ++ ([Value.int .i64 t9.1] ++ ([Value.int .i64 t15.1] ++ ([Value.int .i64 t21.1] ++ ([Value.string t27.1] ++ ([Value.string t33.1] ++ [Value.slice none 0 0])))))))))) 2 (some (Ck.sl T67 none 0 ([] : List (ByteArray × ByteArray))))) (sub_put (by exact rfl) (sub_put (by exact rfl) (sub_put (by exact rfl) (sub_nil _)))) ?_
  refine cs_loop (fun kk f S => ∃ (fR : Fr) (A5_1 : Option Addr) (c5_1 : Nat) (l5_1 : List Int) (x7_1 : Int) (Am1_1_6 : Option Addr) (cm1_1_6 : Nat) (m1_1 : (Int × Int × Int × Int × ByteArray × ByteArray × (List (ByteArray × ByteArray)))), f = upd (upd (upd (upd (upd (upd fR 0 (.slice A0 l0.length c0)) 2 (.pointer (some ⟨g1, 0, none⟩))) 4 (.pointer (some ⟨g2, 0, none⟩))) 5 (.slice A5_1 l5_1.length c5_1)) 6 (.int .i64 t39.1)) 7 (.int .i64 x7_1) ∧ S = sput (sput (sput s0 0 (some (Ck.var 56 g1 (([Value.int .i64 (0 : Int)] ++ ([Value.int .i64 (0 : Int)] ++ ([Value.int .i64 (0 : Int)] ++ ([Value.int .i64 (0 : Int)] ++ ([Value.string ByteArray.empty] ++ ([Value.string ByteArray.empty] ++ [Value.slice none 0 0])))))))))) 1 (some (Ck.var 56 g2 (([Value.int .i64 m1_1.1] ++ ([Value.int .i64 m1_1.2.1] ++ ([Value.int .i64 m1_1.2.2.1] ++ ([Value.int .i64 m1_1.2.2.2.1] ++ ([Value.string m1_1.2.2.2.2.1] ++ ([Value.string m1_1.2.2.2.2.2.1] ++ [Value.slice Am1_1_6 m1_1.2.2.2.2.2.2.length cm1_1_6])))))))))) 2 (some (Ck.sl T67 Am1_1_6 cm1_1_6 m1_1.2.2.2.2.2.2)) ∧ Ro b A5_1 (em (Ec.int 5 .u8) l5_1) ∧ l5_1.length ≤ c5_1 ∧ shadowboxref36_Read.lo1 l0 t39 kk l5_1 x7_1 m1_1 = some r) k ?_ ?_ ?_
  · exact ⟨_, x41.1, x41.2, t39.2, (0 : Int), none, 0, (t3.1, t9.1, t15.1, t21.1, t27.1, t33.1, ([] : List (ByteArray × ByteArray))), fr_next (fr_next (fr_next (fr_next (fr_next (fr_next (rfl) (by kernel_rfl)) (by kernel_rfl)) (by kernel_rfl)) (by kernel_rfl)) (by kernel_rfl)) (by kernel_rfl), rfl, fR42, fC43, H⟩
  · rintro f S ⟨fr1, A5_1, c5_1, l5_1, x7_1, Am1_1_6, cm1_1_6, m1_1, rfl, rfl, R5_1, C5_1, H⟩; cases H
  rintro k1 f S ⟨fr1, A5_1, c5_1, l5_1, x7_1, Am1_1_6, cm1_1_6, m1_1, rfl, rfl, R5_1, C5_1, H⟩
  replace H : ((if x7_1 < t39.1 then (if x7_1 < (9 : Int) then (shadowboxref36_Read.jo2 l5_1 x7_1 m1_1 k1 (shadowboxref36_Read.lo1 l0 t39 k1)) else (shadowboxref36_Put.f k1 (m1_1.1, m1_1.2.1, m1_1.2.2.1, m1_1.2.2.2.1, m1_1.2.2.2.2.1, m1_1.2.2.2.2.2.1, m1_1.2.2.2.2.2.2)).bind fun t64 => (if t64.2 = (0 : Int) then (if ((strOfNums t64.1).toList == (strOfNums l0).toList) = true then some ((m1_1.1, m1_1.2.1, m1_1.2.2.1, m1_1.2.2.2.1, m1_1.2.2.2.2.1, m1_1.2.2.2.2.2.1, m1_1.2.2.2.2.2.2), (0 : Int)) else some (((0 : Int), (0 : Int), (0 : Int), (0 : Int), ByteArray.empty, ByteArray.empty, ([] : List (ByteArray × ByteArray))), (11 : Int))) else some (((0 : Int), (0 : Int), (0 : Int), (0 : Int), ByteArray.empty, ByteArray.empty, ([] : List (ByteArray × ByteArray))), (11 : Int)))) else (shadowboxref36_Put.f k1 (m1_1.1, m1_1.2.1, m1_1.2.2.1, m1_1.2.2.2.1, m1_1.2.2.2.2.1, m1_1.2.2.2.2.2.1, m1_1.2.2.2.2.2.2)).bind fun t74 => (if t74.2 = (0 : Int) then (if ((strOfNums t74.1).toList == (strOfNums l0).toList) = true then some ((m1_1.1, m1_1.2.1, m1_1.2.2.1, m1_1.2.2.2.1, m1_1.2.2.2.2.1, m1_1.2.2.2.2.2.1, m1_1.2.2.2.2.2.2), (0 : Int)) else some (((0 : Int), (0 : Int), (0 : Int), (0 : Int), ByteArray.empty, ByteArray.empty, ([] : List (ByteArray × ByteArray))), (11 : Int))) else some (((0 : Int), (0 : Int), (0 : Int), (0 : Int), ByteArray.empty, ByteArray.empty, ([] : List (ByteArray × ByteArray))), (11 : Int))))) = some r := H
  refine cs_cut (fun f S => ∃ (fR : Fr), f = upd (upd (upd (upd (upd (upd fR 0 (.slice A0 l0.length c0)) 2 (.pointer (some ⟨g1, 0, none⟩))) 4 (.pointer (some ⟨g2, 0, none⟩))) 5 (.slice A5_1 l5_1.length c5_1)) 6 (.int .i64 t39.1)) 7 (.int .i64 x7_1) ∧ S = sput (sput (sput s0 0 (some (Ck.var 56 g1 (([Value.int .i64 (0 : Int)] ++ ([Value.int .i64 (0 : Int)] ++ ([Value.int .i64 (0 : Int)] ++ ([Value.int .i64 (0 : Int)] ++ ([Value.string ByteArray.empty] ++ ([Value.string ByteArray.empty] ++ [Value.slice none 0 0])))))))))) 1 (some (Ck.var 56 g2 (([Value.int .i64 m1_1.1] ++ ([Value.int .i64 m1_1.2.1] ++ ([Value.int .i64 m1_1.2.2.1] ++ ([Value.int .i64 m1_1.2.2.2.1] ++ ([Value.string m1_1.2.2.2.2.1] ++ ([Value.string m1_1.2.2.2.2.2.1] ++ [Value.slice Am1_1_6 m1_1.2.2.2.2.2.2.length cm1_1_6])))))))))) 2 (some (Ck.sl T67 Am1_1_6 cm1_1_6 m1_1.2.2.2.2.2.2)) ∧ shadowboxref36_Read.jo2 l5_1 x7_1 m1_1 k1 (shadowboxref36_Read.lo1 l0 t39 k1) = some r) ?_ ?_
  · skip
    refine cs_seq ?_
    refine cs_region (l := [_, _, _, _, _, _, _]) ?_
    refine lv (.int .i64 x7_1) ?_
    refine lv (.int .i64 t39.1) ?_
    refine lv (.bool (decide (x7_1 < t39.1))) ?_
    refine lv (.bool (decide (x7_1 < t39.1))) ?_
    by_cases q62 : x7_1 < t39.1
    · replace H := ite_t q62 H
      refine ls_know (c := true) (dec_t q62) 57 (by kernel_rfl) ?_
      refine ls_on (j := 3) (t := 57) (b := true) rfl rfl (by kernel_rfl) (by kernel_rfl) ?_
      refine lv (.int .i64 x7_1) ?_
      refine ls_on (j := 3) (t := 57) (b := true) rfl rfl (by kernel_rfl) (by kernel_rfl) ?_
      refine lv (.bool (decide (x7_1 < (9 : Int)))) ?_
      refine lv (.bool (decide (x7_1 < (9 : Int)))) ?_
      refine ls_end ?_
      refine qn_then ?_
      by_cases q63 : x7_1 < (9 : Int)
      · replace H := ite_t q63 H
        refine cs_know (c := true) (dec_t q63) 60 (by kernel_rfl) ?_
        refine cs_true (by kernel_rfl) ?_
        refine cs_skip' ?_
        refine qn_meet (sput (sput (sput s0 0 (some (Ck.var 56 g1 (([Value.int .i64 (0 : Int)] ++ ([Value.int .i64 (0 : Int)] ++ ([Value.int .i64 (0 : Int)] ++ ([Value.int .i64 (0 : Int)] ++ ([Value.string ByteArray.empty] ++ ([Value.string ByteArray.empty] ++ [Value.slice none 0 0])))))))))) 1 (some (Ck.var 56 g2 (([Value.int .i64 m1_1.1] ++ ([Value.int .i64 m1_1.2.1] ++ ([Value.int .i64 m1_1.2.2.1] ++ ([Value.int .i64 m1_1.2.2.2.1] ++ ([Value.string m1_1.2.2.2.2.1] ++ ([Value.string m1_1.2.2.2.2.2.1] ++ [Value.slice Am1_1_6 m1_1.2.2.2.2.2.2.length cm1_1_6])))))))))) 2 (some (Ck.sl T67 Am1_1_6 cm1_1_6 m1_1.2.2.2.2.2.2))) ⟨_, fr_next (fr_next (fr_next (fr_next (fr_next (fr_next (rfl) (by kernel_rfl)) (by kernel_rfl)) (by kernel_rfl)) (by kernel_rfl)) (by kernel_rfl)) (by kernel_rfl), rfl, H⟩ (sub_put (by exact rfl) (sub_put (by exact rfl) (sub_put (by exact rfl) (sub_nil _))))
      replace H := ite_f q63 H
      refine cs_know (c := false) (dec_f q63) 60 (by kernel_rfl) ?_
      refine cs_false (by kernel_rfl) ?_
      refine cs_exit' ?_
      refine qx_then ?_
      refine qx_then ?_
      refine qx_same ?_
      refine qn_then ?_
      refine cs_seq ?_
      refine cs_region (l := [_, _, _, _, _, _, _]) ?_
      refine ls_loadagg (a := ⟨g2, 0, none⟩) (sub := ([Value.int .i64 m1_1.1] ++ ([Value.int .i64 m1_1.2.1] ++ ([Value.int .i64 m1_1.2.2.1] ++ ([Value.int .i64 m1_1.2.2.2.1] ++ ([Value.string m1_1.2.2.2.2.1] ++ ([Value.string m1_1.2.2.2.2.2.1] ++ [Value.slice Am1_1_6 m1_1.2.2.2.2.2.2.length cm1_1_6]))))))) rfl rfl (by kernel_rfl) rfl (by kernel_rfl) (by kernel_rfl) (by kernel_rfl) (len_app (len1 _) (len_app (len1 _) (len_app (len1 _) (len_app (len1 _) (len_app (len1 _) (len_app (len1 _) (len1 _))))))) (fun w hs => (hs.vars (k := 1) (by exact rfl) (Sub4.all _))) ?_
      obtain ⟨t64, hc65, H⟩ := bind_some H
      refine ls_callb (fid := 22) (vals := #[.agg ⟨([Value.int .i64 m1_1.1] ++ ([Value.int .i64 m1_1.2.1] ++ ([Value.int .i64 m1_1.2.2.1] ++ ([Value.int .i64 m1_1.2.2.2.1] ++ ([Value.string m1_1.2.2.2.2.1] ++ ([Value.string m1_1.2.2.2.2.2.1] ++ [Value.slice Am1_1_6 m1_1.2.2.2.2.2.2.length cm1_1_6]))))))⟩]) (X := (Option Addr × Nat)) (fun x => .tuple #[.slice x.1 t64.1.length x.2, .int .i64 t64.2]) (fun x => stl [Ck.ro (Ec.int 5 .u8) x.1 x.2 t64.1]) [] [2] [] [Ck.sl T67 Am1_1_6 cm1_1_6 m1_1.2.2.2.2.2.2] 3 rfl rfl (by kernel_rfl) (fun w => by kernel_rfl) trivial ⟨by exact rfl, trivial⟩ (by decide) (fun w hs hb => shadowboxref36_Put.calls k1 Am1_1_6 cm1_1_6 (m1_1.1, m1_1.2.1, m1_1.2.2.1, m1_1.2.2.2.1, m1_1.2.2.2.2.1, m1_1.2.2.2.2.2.1, m1_1.2.2.2.2.2.2) t64 (lent b w [] [Ck.sl T67 Am1_1_6 cm1_1_6 m1_1.2.2.2.2.2.2]) hb (hs.ror (k := 2) (by exact rfl) (.head _)) (hs.cap (k := 2) (by exact rfl)) hc65) ?_
      intro x66
      refine lv (.tuple #[.slice x66.1 t64.1.length x66.2, .int .i64 t64.2]) ?_
      refine lv (.slice x66.1 t64.1.length x66.2) ?_
      refine lv (.int .i64 t64.2) ?_
      refine lv (.slice x66.1 t64.1.length x66.2) ?_
      refine lv (.int .i64 t64.2) ?_
      refine ls_end ?_
      refine qn_then ?_
      refine cs_seq ?_
      refine cs_seq ?_
      refine cs_region (l := [_, _, _, _, _, _, _, _, _]) ?_
      refine lv (.int .i64 t64.2) ?_
      refine lv (.bool (!decide (t64.2 = (0 : Int)))) ?_
      refine lv (.bool (!decide (t64.2 = (0 : Int)))) ?_
      by_cases q67 : t64.2 = (0 : Int)
      · replace H := ite_t q67 H
        refine ls_know (c := false) (congrArg Bool.not (dec_t q67)) 89 (by kernel_rfl) ?_
        refine ls_on (j := 2) (t := 89) (b := false) rfl rfl (by kernel_rfl) (by kernel_rfl) ?_
        refine lv (.slice x66.1 t64.1.length x66.2) ?_
        refine ls_on (j := 2) (t := 89) (b := false) rfl rfl (by kernel_rfl) (by kernel_rfl) ?_
        refine ls_str (A := x66.1) (c := x66.2) (e := 5) (l := t64.1) rfl rfl (by kernel_rfl) rfl (by kernel_rfl) (by kernel_rfl) (by kernel_rfl) (by kernel_rfl) (fun w hs => (hs.rod (k := 3) (by exact rfl))) ?_
        refine ls_on (j := 2) (t := 89) (b := false) rfl rfl (by kernel_rfl) (by kernel_rfl) ?_
        refine lv (.slice A0 l0.length c0) ?_
        refine ls_on (j := 2) (t := 89) (b := false) rfl rfl (by kernel_rfl) (by kernel_rfl) ?_
        refine ls_str (A := A0) (c := c0) (e := 5) (l := l0) rfl rfl (by kernel_rfl) rfl (by kernel_rfl) (by kernel_rfl) (by kernel_rfl) (by kernel_rfl) (fun w hs => (hs.old R0)) ?_
        refine ls_on (j := 2) (t := 89) (b := false) rfl rfl (by kernel_rfl) (by kernel_rfl) ?_
        refine lv (.bool (!((strOfNums t64.1).toList == (strOfNums l0).toList))) ?_
        refine lv (.bool (!((strOfNums t64.1).toList == (strOfNums l0).toList))) ?_
        refine ls_end ?_
        refine qn_then ?_
        by_cases q68 : ((strOfNums t64.1).toList == (strOfNums l0).toList) = true
        · replace H := ite_t q68 H
          refine cs_know (c := false) (congrArg Bool.not (q68)) 95 (by kernel_rfl) ?_
          refine cs_false (by kernel_rfl) ?_
          refine cs_skip' ?_
          refine qn_then ?_
          refine cs_seq ?_
          refine cs_region (l := [_, _, _]) ?_
          refine ls_loadagg (a := ⟨g2, 0, none⟩) (sub := ([Value.int .i64 m1_1.1] ++ ([Value.int .i64 m1_1.2.1] ++ ([Value.int .i64 m1_1.2.2.1] ++ ([Value.int .i64 m1_1.2.2.2.1] ++ ([Value.string m1_1.2.2.2.2.1] ++ ([Value.string m1_1.2.2.2.2.2.1] ++ [Value.slice Am1_1_6 m1_1.2.2.2.2.2.2.length cm1_1_6]))))))) rfl rfl (by kernel_rfl) rfl (by kernel_rfl) (by kernel_rfl) (by kernel_rfl) (len_app (len1 _) (len_app (len1 _) (len_app (len1 _) (len_app (len1 _) (len_app (len1 _) (len_app (len1 _) (len1 _))))))) (fun w hs => (hs.vars (k := 1) (by exact rfl) (Sub4.all _))) ?_
          refine ls_storec (g := g1) (off := 0) (v := .agg ⟨([Value.int .i64 m1_1.1] ++ ([Value.int .i64 m1_1.2.1] ++ ([Value.int .i64 m1_1.2.2.1] ++ ([Value.int .i64 m1_1.2.2.2.1] ++ ([Value.string m1_1.2.2.2.2.1] ++ ([Value.string m1_1.2.2.2.2.2.1] ++ [Value.slice Am1_1_6 m1_1.2.2.2.2.2.2.length cm1_1_6]))))))⟩) (vs := ([Value.int .i64 m1_1.1] ++ ([Value.int .i64 m1_1.2.1] ++ ([Value.int .i64 m1_1.2.2.1] ++ ([Value.int .i64 m1_1.2.2.2.1] ++ ([Value.string m1_1.2.2.2.2.1] ++ ([Value.string m1_1.2.2.2.2.2.1] ++ [Value.slice Am1_1_6 m1_1.2.2.2.2.2.2.length cm1_1_6]))))))) (cs := ([Value.int .i64 (0 : Int)] ++ ([Value.int .i64 (0 : Int)] ++ ([Value.int .i64 (0 : Int)] ++ ([Value.int .i64 (0 : Int)] ++ ([Value.string ByteArray.empty] ++ ([Value.string ByteArray.empty] ++ [Value.slice none 0 0]))))))) (ty := 56) 0 rfl rfl rfl (by kernel_rfl) (by kernel_rfl) (by kernel_rfl) (by exact rfl) (by kernel_rfl) (len_app (len1 _) (len_app (len1 _) (len_app (len1 _) (len_app (len1 _) (len_app (len1 _) (len_app (len1 _) (len1 _))))))) (one_app (one_cons rfl one_nil) (one_app (one_cons rfl one_nil) (one_app (one_cons rfl one_nil) (one_app (one_cons rfl one_nil) (one_app (one_cons rfl one_nil) (one_app (one_cons rfl one_nil) (one_cons rfl one_nil))))))) (hl_of (Sub4.all _) (len_eq (len_app (len1 _) (len_app (len1 _) (len_app (len1 _) (len_app (len1 _) (len_app (len1 _) (len_app (len1 _) (len1 _))))))) (len_app (len1 _) (len_app (len1 _) (len_app (len1 _) (len_app (len1 _) (len_app (len1 _) (len_app (len1 _) (len1 _))))))))) (cs' := ([Value.int .i64 m1_1.1] ++ ([Value.int .i64 m1_1.2.1] ++ ([Value.int .i64 m1_1.2.2.1] ++ ([Value.int .i64 m1_1.2.2.2.1] ++ ([Value.string m1_1.2.2.2.2.1] ++ ([Value.string m1_1.2.2.2.2.2.1] ++ [Value.slice Am1_1_6 m1_1.2.2.2.2.2.2.length cm1_1_6]))))))) (splc_all (len_eq (len_app (len1 _) (len_app (len1 _) (len_app (len1 _) (len_app (len1 _) (len_app (len1 _) (len_app (len1 _) (len1 _))))))) (len_app (len1 _) (len_app (len1 _) (len_app (len1 _) (len_app (len1 _) (len_app (len1 _) (len_app (len1 _) (len1 _))))))))) ?_
          refine lv (.int .i64 (0 : Int)) ?_
          refine ls_end ?_
          refine qn_then ?_
          refine cs_ret' ?_
          refine qr_freeze (T := T67) (A := Am1_1_6) (c := cm1_1_6) (l := m1_1.2.2.2.2.2.2) 2 (by exact rfl) ?_
          intro bs69 hle70 hok71 fR72 fC73
          obtain rfl := Option.some.inj H
          refine qr_res (rs := [_, _]) rfl (fun w' hs => ⟨[.agg ⟨([Value.int .i64 m1_1.1] ++ ([Value.int .i64 m1_1.2.1] ++ ([Value.int .i64 m1_1.2.2.1] ++ ([Value.int .i64 m1_1.2.2.2.1] ++ ([Value.string m1_1.2.2.2.2.1] ++ ([Value.string m1_1.2.2.2.2.2.1] ++ [Value.slice Am1_1_6 m1_1.2.2.2.2.2.2.length cm1_1_6]))))))⟩, .int .i64 (0 : Int)], (.cell (by kernel_rfl) (run_cellres (by kernel_rfl) (by kernel_rfl) (len_app (len1 _) (len_app (len1 _) (len_app (len1 _) (len_app (len1 _) (len_app (len1 _) (len_app (len1 _) (len1 _))))))) (hs.holds 0 _ (by exact rfl))) (res_tmp (by kernel_rfl) (.nil))), bs69, hle70, (Am1_1_6, cm1_1_6), rfl, ⟨fR72, fC73⟩, hs.pick (ts := []) (cs := []) trivial (by decide)⟩)
        replace H := ite_f q68 H
        refine cs_know (c := true) (congrArg Bool.not (Bool.eq_false_iff.mpr q68)) 95 (by kernel_rfl) ?_
        refine cs_true (by kernel_rfl) ?_
        refine cs_seq ?_
        refine cs_region (l := [_, _, _]) ?_
        refine lv (.agg ⟨([Value.int .i64 (0 : Int)] ++ ([Value.int .i64 (0 : Int)] ++ ([Value.int .i64 (0 : Int)] ++ ([Value.int .i64 (0 : Int)] ++ ([Value.string ByteArray.empty] ++ ([Value.string ByteArray.empty] ++ [Value.slice none 0 0]))))))⟩) ?_
        refine ls_storec (g := g1) (off := 0) (v := .agg ⟨([Value.int .i64 (0 : Int)] ++ ([Value.int .i64 (0 : Int)] ++ ([Value.int .i64 (0 : Int)] ++ ([Value.int .i64 (0 : Int)] ++ ([Value.string ByteArray.empty] ++ ([Value.string ByteArray.empty] ++ [Value.slice none 0 0]))))))⟩) (vs := ([Value.int .i64 (0 : Int)] ++ ([Value.int .i64 (0 : Int)] ++ ([Value.int .i64 (0 : Int)] ++ ([Value.int .i64 (0 : Int)] ++ ([Value.string ByteArray.empty] ++ ([Value.string ByteArray.empty] ++ [Value.slice none 0 0]))))))) (cs := ([Value.int .i64 (0 : Int)] ++ ([Value.int .i64 (0 : Int)] ++ ([Value.int .i64 (0 : Int)] ++ ([Value.int .i64 (0 : Int)] ++ ([Value.string ByteArray.empty] ++ ([Value.string ByteArray.empty] ++ [Value.slice none 0 0]))))))) (ty := 56) 0 rfl rfl rfl (by kernel_rfl) (by kernel_rfl) (by kernel_rfl) (by exact rfl) (by kernel_rfl) (len_app (len1 _) (len_app (len1 _) (len_app (len1 _) (len_app (len1 _) (len_app (len1 _) (len_app (len1 _) (len1 _))))))) (one_app (one_cons rfl one_nil) (one_app (one_cons rfl one_nil) (one_app (one_cons rfl one_nil) (one_app (one_cons rfl one_nil) (one_app (one_cons rfl one_nil) (one_app (one_cons rfl one_nil) (one_cons rfl one_nil))))))) (hl_of (Sub4.all _) (len_eq (len_app (len1 _) (len_app (len1 _) (len_app (len1 _) (len_app (len1 _) (len_app (len1 _) (len_app (len1 _) (len1 _))))))) (len_app (len1 _) (len_app (len1 _) (len_app (len1 _) (len_app (len1 _) (len_app (len1 _) (len_app (len1 _) (len1 _))))))))) (cs' := ([Value.int .i64 (0 : Int)] ++ ([Value.int .i64 (0 : Int)] ++ ([Value.int .i64 (0 : Int)] ++ ([Value.int .i64 (0 : Int)] ++ ([Value.string ByteArray.empty] ++ ([Value.string ByteArray.empty] ++ [Value.slice none 0 0]))))))) (splc_all (len_eq (len_app (len1 _) (len_app (len1 _) (len_app (len1 _) (len_app (len1 _) (len_app (len1 _) (len_app (len1 _) (len1 _))))))) (len_app (len1 _) (len_app (len1 _) (len_app (len1 _) (len_app (len1 _) (len_app (len1 _) (len_app (len1 _) (len1 _))))))))) ?_
        refine lv (.int .i64 (11 : Int)) ?_
        refine ls_end ?_
        refine qn_then ?_
        refine cs_ret' ?_
        refine qr_then ?_
        obtain rfl := Option.some.inj H
        refine qr_res (rs := [_, _]) rfl (fun w' hs => ⟨[.agg ⟨([Value.int .i64 (0 : Int)] ++ ([Value.int .i64 (0 : Int)] ++ ([Value.int .i64 (0 : Int)] ++ ([Value.int .i64 (0 : Int)] ++ ([Value.string ByteArray.empty] ++ ([Value.string ByteArray.empty] ++ [Value.slice none 0 0]))))))⟩, .int .i64 (11 : Int)], (.cell (by kernel_rfl) (run_cellres (by kernel_rfl) (by kernel_rfl) (len_app (len1 _) (len_app (len1 _) (len_app (len1 _) (len_app (len1 _) (len_app (len1 _) (len_app (len1 _) (len1 _))))))) (hs.holds 0 _ (by exact rfl))) (res_tmp (by kernel_rfl) (.nil))), b, (Bs.le.refl b), (none, 0), rfl, ⟨(Ro.nil _ _), (Nat.zero_le _)⟩, hs.pick (ts := []) (cs := []) trivial (by decide)⟩)
      replace H := ite_f q67 H
      refine ls_know (c := true) (congrArg Bool.not (dec_f q67)) 89 (by kernel_rfl) ?_
      refine lofx 2 89 false true ?_
      refine lofx 2 89 false true ?_
      refine lofx 2 89 false true ?_
      refine lofx 2 89 false true ?_
      refine lofx 2 89 false true ?_
      refine lv (.bool true) ?_
      refine ls_end ?_
      refine qn_then ?_
      refine cs_true (by kernel_rfl) ?_
      refine cs_seq ?_
      refine cs_region (l := [_, _, _]) ?_
      refine lv (.agg ⟨([Value.int .i64 (0 : Int)] ++ ([Value.int .i64 (0 : Int)] ++ ([Value.int .i64 (0 : Int)] ++ ([Value.int .i64 (0 : Int)] ++ ([Value.string ByteArray.empty] ++ ([Value.string ByteArray.empty] ++ [Value.slice none 0 0]))))))⟩) ?_
      refine ls_storec (g := g1) (off := 0) (v := .agg ⟨([Value.int .i64 (0 : Int)] ++ ([Value.int .i64 (0 : Int)] ++ ([Value.int .i64 (0 : Int)] ++ ([Value.int .i64 (0 : Int)] ++ ([Value.string ByteArray.empty] ++ ([Value.string ByteArray.empty] ++ [Value.slice none 0 0]))))))⟩) (vs := ([Value.int .i64 (0 : Int)] ++ ([Value.int .i64 (0 : Int)] ++ ([Value.int .i64 (0 : Int)] ++ ([Value.int .i64 (0 : Int)] ++ ([Value.string ByteArray.empty] ++ ([Value.string ByteArray.empty] ++ [Value.slice none 0 0]))))))) (cs := ([Value.int .i64 (0 : Int)] ++ ([Value.int .i64 (0 : Int)] ++ ([Value.int .i64 (0 : Int)] ++ ([Value.int .i64 (0 : Int)] ++ ([Value.string ByteArray.empty] ++ ([Value.string ByteArray.empty] ++ [Value.slice none 0 0]))))))) (ty := 56) 0 rfl rfl rfl (by kernel_rfl) (by kernel_rfl) (by kernel_rfl) (by exact rfl) (by kernel_rfl) (len_app (len1 _) (len_app (len1 _) (len_app (len1 _) (len_app (len1 _) (len_app (len1 _) (len_app (len1 _) (len1 _))))))) (one_app (one_cons rfl one_nil) (one_app (one_cons rfl one_nil) (one_app (one_cons rfl one_nil) (one_app (one_cons rfl one_nil) (one_app (one_cons rfl one_nil) (one_app (one_cons rfl one_nil) (one_cons rfl one_nil))))))) (hl_of (Sub4.all _) (len_eq (len_app (len1 _) (len_app (len1 _) (len_app (len1 _) (len_app (len1 _) (len_app (len1 _) (len_app (len1 _) (len1 _))))))) (len_app (len1 _) (len_app (len1 _) (len_app (len1 _) (len_app (len1 _) (len_app (len1 _) (len_app (len1 _) (len1 _))))))))) (cs' := ([Value.int .i64 (0 : Int)] ++ ([Value.int .i64 (0 : Int)] ++ ([Value.int .i64 (0 : Int)] ++ ([Value.int .i64 (0 : Int)] ++ ([Value.string ByteArray.empty] ++ ([Value.string ByteArray.empty] ++ [Value.slice none 0 0]))))))) (splc_all (len_eq (len_app (len1 _) (len_app (len1 _) (len_app (len1 _) (len_app (len1 _) (len_app (len1 _) (len_app (len1 _) (len1 _))))))) (len_app (len1 _) (len_app (len1 _) (len_app (len1 _) (len_app (len1 _) (len_app (len1 _) (len_app (len1 _) (len1 _))))))))) ?_
      refine lv (.int .i64 (11 : Int)) ?_
      refine ls_end ?_
      refine qn_then ?_
      refine cs_ret' ?_
      refine qr_then ?_
      obtain rfl := Option.some.inj H
      refine qr_res (rs := [_, _]) rfl (fun w' hs => ⟨[.agg ⟨([Value.int .i64 (0 : Int)] ++ ([Value.int .i64 (0 : Int)] ++ ([Value.int .i64 (0 : Int)] ++ ([Value.int .i64 (0 : Int)] ++ ([Value.string ByteArray.empty] ++ ([Value.string ByteArray.empty] ++ [Value.slice none 0 0]))))))⟩, .int .i64 (11 : Int)], (.cell (by kernel_rfl) (run_cellres (by kernel_rfl) (by kernel_rfl) (len_app (len1 _) (len_app (len1 _) (len_app (len1 _) (len_app (len1 _) (len_app (len1 _) (len_app (len1 _) (len1 _))))))) (hs.holds 0 _ (by exact rfl))) (res_tmp (by kernel_rfl) (.nil))), b, (Bs.le.refl b), (none, 0), rfl, ⟨(Ro.nil _ _), (Nat.zero_le _)⟩, hs.pick (ts := []) (cs := []) trivial (by decide)⟩)
    replace H := ite_f q62 H
    refine ls_know (c := false) (dec_f q62) 57 (by kernel_rfl) ?_
    refine lofx 3 57 true false ?_
    refine lofx 3 57 true false ?_
    refine lv (.bool false) ?_
    refine ls_end ?_
    refine qn_then ?_
    refine cs_false (by kernel_rfl) ?_
    refine cs_exit' ?_
    refine qx_then ?_
    refine qx_then ?_
    refine qx_same ?_
    refine qn_then ?_
    refine cs_seq ?_
    refine cs_region (l := [_, _, _, _, _, _, _]) ?_
    refine ls_loadagg (a := ⟨g2, 0, none⟩) (sub := ([Value.int .i64 m1_1.1] ++ ([Value.int .i64 m1_1.2.1] ++ ([Value.int .i64 m1_1.2.2.1] ++ ([Value.int .i64 m1_1.2.2.2.1] ++ ([Value.string m1_1.2.2.2.2.1] ++ ([Value.string m1_1.2.2.2.2.2.1] ++ [Value.slice Am1_1_6 m1_1.2.2.2.2.2.2.length cm1_1_6]))))))) rfl rfl (by kernel_rfl) rfl (by kernel_rfl) (by kernel_rfl) (by kernel_rfl) (len_app (len1 _) (len_app (len1 _) (len_app (len1 _) (len_app (len1 _) (len_app (len1 _) (len_app (len1 _) (len1 _))))))) (fun w hs => (hs.vars (k := 1) (by exact rfl) (Sub4.all _))) ?_
    obtain ⟨t74, hc75, H⟩ := bind_some H
    refine ls_callb (fid := 22) (vals := #[.agg ⟨([Value.int .i64 m1_1.1] ++ ([Value.int .i64 m1_1.2.1] ++ ([Value.int .i64 m1_1.2.2.1] ++ ([Value.int .i64 m1_1.2.2.2.1] ++ ([Value.string m1_1.2.2.2.2.1] ++ ([Value.string m1_1.2.2.2.2.2.1] ++ [Value.slice Am1_1_6 m1_1.2.2.2.2.2.2.length cm1_1_6]))))))⟩]) (X := (Option Addr × Nat)) (fun x => .tuple #[.slice x.1 t74.1.length x.2, .int .i64 t74.2]) (fun x => stl [Ck.ro (Ec.int 5 .u8) x.1 x.2 t74.1]) [] [2] [] [Ck.sl T67 Am1_1_6 cm1_1_6 m1_1.2.2.2.2.2.2] 3 rfl rfl (by kernel_rfl) (fun w => by kernel_rfl) trivial ⟨by exact rfl, trivial⟩ (by decide) (fun w hs hb => shadowboxref36_Put.calls k1 Am1_1_6 cm1_1_6 (m1_1.1, m1_1.2.1, m1_1.2.2.1, m1_1.2.2.2.1, m1_1.2.2.2.2.1, m1_1.2.2.2.2.2.1, m1_1.2.2.2.2.2.2) t74 (lent b w [] [Ck.sl T67 Am1_1_6 cm1_1_6 m1_1.2.2.2.2.2.2]) hb (hs.ror (k := 2) (by exact rfl) (.head _)) (hs.cap (k := 2) (by exact rfl)) hc75) ?_
    intro x76
    refine lv (.tuple #[.slice x76.1 t74.1.length x76.2, .int .i64 t74.2]) ?_
    refine lv (.slice x76.1 t74.1.length x76.2) ?_
    refine lv (.int .i64 t74.2) ?_
    refine lv (.slice x76.1 t74.1.length x76.2) ?_
    refine lv (.int .i64 t74.2) ?_
    refine ls_end ?_
    refine qn_then ?_
    refine cs_seq ?_
    refine cs_seq ?_
    refine cs_region (l := [_, _, _, _, _, _, _, _, _]) ?_
    refine lv (.int .i64 t74.2) ?_
    refine lv (.bool (!decide (t74.2 = (0 : Int)))) ?_
    refine lv (.bool (!decide (t74.2 = (0 : Int)))) ?_
    by_cases q77 : t74.2 = (0 : Int)
    · replace H := ite_t q77 H
      refine ls_know (c := false) (congrArg Bool.not (dec_t q77)) 89 (by kernel_rfl) ?_
      refine ls_on (j := 2) (t := 89) (b := false) rfl rfl (by kernel_rfl) (by kernel_rfl) ?_
      refine lv (.slice x76.1 t74.1.length x76.2) ?_
      refine ls_on (j := 2) (t := 89) (b := false) rfl rfl (by kernel_rfl) (by kernel_rfl) ?_
      refine ls_str (A := x76.1) (c := x76.2) (e := 5) (l := t74.1) rfl rfl (by kernel_rfl) rfl (by kernel_rfl) (by kernel_rfl) (by kernel_rfl) (by kernel_rfl) (fun w hs => (hs.rod (k := 3) (by exact rfl))) ?_
      refine ls_on (j := 2) (t := 89) (b := false) rfl rfl (by kernel_rfl) (by kernel_rfl) ?_
      refine lv (.slice A0 l0.length c0) ?_
      refine ls_on (j := 2) (t := 89) (b := false) rfl rfl (by kernel_rfl) (by kernel_rfl) ?_
      refine ls_str (A := A0) (c := c0) (e := 5) (l := l0) rfl rfl (by kernel_rfl) rfl (by kernel_rfl) (by kernel_rfl) (by kernel_rfl) (by kernel_rfl) (fun w hs => (hs.old R0)) ?_
      refine ls_on (j := 2) (t := 89) (b := false) rfl rfl (by kernel_rfl) (by kernel_rfl) ?_
      refine lv (.bool (!((strOfNums t74.1).toList == (strOfNums l0).toList))) ?_
      refine lv (.bool (!((strOfNums t74.1).toList == (strOfNums l0).toList))) ?_
      refine ls_end ?_
      refine qn_then ?_
      by_cases q78 : ((strOfNums t74.1).toList == (strOfNums l0).toList) = true
      · replace H := ite_t q78 H
        refine cs_know (c := false) (congrArg Bool.not (q78)) 95 (by kernel_rfl) ?_
        refine cs_false (by kernel_rfl) ?_
        refine cs_skip' ?_
        refine qn_then ?_
        refine cs_seq ?_
        refine cs_region (l := [_, _, _]) ?_
        refine ls_loadagg (a := ⟨g2, 0, none⟩) (sub := ([Value.int .i64 m1_1.1] ++ ([Value.int .i64 m1_1.2.1] ++ ([Value.int .i64 m1_1.2.2.1] ++ ([Value.int .i64 m1_1.2.2.2.1] ++ ([Value.string m1_1.2.2.2.2.1] ++ ([Value.string m1_1.2.2.2.2.2.1] ++ [Value.slice Am1_1_6 m1_1.2.2.2.2.2.2.length cm1_1_6]))))))) rfl rfl (by kernel_rfl) rfl (by kernel_rfl) (by kernel_rfl) (by kernel_rfl) (len_app (len1 _) (len_app (len1 _) (len_app (len1 _) (len_app (len1 _) (len_app (len1 _) (len_app (len1 _) (len1 _))))))) (fun w hs => (hs.vars (k := 1) (by exact rfl) (Sub4.all _))) ?_
        refine ls_storec (g := g1) (off := 0) (v := .agg ⟨([Value.int .i64 m1_1.1] ++ ([Value.int .i64 m1_1.2.1] ++ ([Value.int .i64 m1_1.2.2.1] ++ ([Value.int .i64 m1_1.2.2.2.1] ++ ([Value.string m1_1.2.2.2.2.1] ++ ([Value.string m1_1.2.2.2.2.2.1] ++ [Value.slice Am1_1_6 m1_1.2.2.2.2.2.2.length cm1_1_6]))))))⟩) (vs := ([Value.int .i64 m1_1.1] ++ ([Value.int .i64 m1_1.2.1] ++ ([Value.int .i64 m1_1.2.2.1] ++ ([Value.int .i64 m1_1.2.2.2.1] ++ ([Value.string m1_1.2.2.2.2.1] ++ ([Value.string m1_1.2.2.2.2.2.1] ++ [Value.slice Am1_1_6 m1_1.2.2.2.2.2.2.length cm1_1_6]))))))) (cs := ([Value.int .i64 (0 : Int)] ++ ([Value.int .i64 (0 : Int)] ++ ([Value.int .i64 (0 : Int)] ++ ([Value.int .i64 (0 : Int)] ++ ([Value.string ByteArray.empty] ++ ([Value.string ByteArray.empty] ++ [Value.slice none 0 0]))))))) (ty := 56) 0 rfl rfl rfl (by kernel_rfl) (by kernel_rfl) (by kernel_rfl) (by exact rfl) (by kernel_rfl) (len_app (len1 _) (len_app (len1 _) (len_app (len1 _) (len_app (len1 _) (len_app (len1 _) (len_app (len1 _) (len1 _))))))) (one_app (one_cons rfl one_nil) (one_app (one_cons rfl one_nil) (one_app (one_cons rfl one_nil) (one_app (one_cons rfl one_nil) (one_app (one_cons rfl one_nil) (one_app (one_cons rfl one_nil) (one_cons rfl one_nil))))))) (hl_of (Sub4.all _) (len_eq (len_app (len1 _) (len_app (len1 _) (len_app (len1 _) (len_app (len1 _) (len_app (len1 _) (len_app (len1 _) (len1 _))))))) (len_app (len1 _) (len_app (len1 _) (len_app (len1 _) (len_app (len1 _) (len_app (len1 _) (len_app (len1 _) (len1 _))))))))) (cs' := ([Value.int .i64 m1_1.1] ++ ([Value.int .i64 m1_1.2.1] ++ ([Value.int .i64 m1_1.2.2.1] ++ ([Value.int .i64 m1_1.2.2.2.1] ++ ([Value.string m1_1.2.2.2.2.1] ++ ([Value.string m1_1.2.2.2.2.2.1] ++ [Value.slice Am1_1_6 m1_1.2.2.2.2.2.2.length cm1_1_6]))))))) (splc_all (len_eq (len_app (len1 _) (len_app (len1 _) (len_app (len1 _) (len_app (len1 _) (len_app (len1 _) (len_app (len1 _) (len1 _))))))) (len_app (len1 _) (len_app (len1 _) (len_app (len1 _) (len_app (len1 _) (len_app (len1 _) (len_app (len1 _) (len1 _))))))))) ?_
        refine lv (.int .i64 (0 : Int)) ?_
        refine ls_end ?_
        refine qn_then ?_
        refine cs_ret' ?_
        refine qr_freeze (T := T67) (A := Am1_1_6) (c := cm1_1_6) (l := m1_1.2.2.2.2.2.2) 2 (by exact rfl) ?_
        intro bs79 hle80 hok81 fR82 fC83
        obtain rfl := Option.some.inj H
        refine qr_res (rs := [_, _]) rfl (fun w' hs => ⟨[.agg ⟨([Value.int .i64 m1_1.1] ++ ([Value.int .i64 m1_1.2.1] ++ ([Value.int .i64 m1_1.2.2.1] ++ ([Value.int .i64 m1_1.2.2.2.1] ++ ([Value.string m1_1.2.2.2.2.1] ++ ([Value.string m1_1.2.2.2.2.2.1] ++ [Value.slice Am1_1_6 m1_1.2.2.2.2.2.2.length cm1_1_6]))))))⟩, .int .i64 (0 : Int)], (.cell (by kernel_rfl) (run_cellres (by kernel_rfl) (by kernel_rfl) (len_app (len1 _) (len_app (len1 _) (len_app (len1 _) (len_app (len1 _) (len_app (len1 _) (len_app (len1 _) (len1 _))))))) (hs.holds 0 _ (by exact rfl))) (res_tmp (by kernel_rfl) (.nil))), bs79, hle80, (Am1_1_6, cm1_1_6), rfl, ⟨fR82, fC83⟩, hs.pick (ts := []) (cs := []) trivial (by decide)⟩)
      replace H := ite_f q78 H
      refine cs_know (c := true) (congrArg Bool.not (Bool.eq_false_iff.mpr q78)) 95 (by kernel_rfl) ?_
      refine cs_true (by kernel_rfl) ?_
      refine cs_seq ?_
      refine cs_region (l := [_, _, _]) ?_
      refine lv (.agg ⟨([Value.int .i64 (0 : Int)] ++ ([Value.int .i64 (0 : Int)] ++ ([Value.int .i64 (0 : Int)] ++ ([Value.int .i64 (0 : Int)] ++ ([Value.string ByteArray.empty] ++ ([Value.string ByteArray.empty] ++ [Value.slice none 0 0]))))))⟩) ?_
      refine ls_storec (g := g1) (off := 0) (v := .agg ⟨([Value.int .i64 (0 : Int)] ++ ([Value.int .i64 (0 : Int)] ++ ([Value.int .i64 (0 : Int)] ++ ([Value.int .i64 (0 : Int)] ++ ([Value.string ByteArray.empty] ++ ([Value.string ByteArray.empty] ++ [Value.slice none 0 0]))))))⟩) (vs := ([Value.int .i64 (0 : Int)] ++ ([Value.int .i64 (0 : Int)] ++ ([Value.int .i64 (0 : Int)] ++ ([Value.int .i64 (0 : Int)] ++ ([Value.string ByteArray.empty] ++ ([Value.string ByteArray.empty] ++ [Value.slice none 0 0]))))))) (cs := ([Value.int .i64 (0 : Int)] ++ ([Value.int .i64 (0 : Int)] ++ ([Value.int .i64 (0 : Int)] ++ ([Value.int .i64 (0 : Int)] ++ ([Value.string ByteArray.empty] ++ ([Value.string ByteArray.empty] ++ [Value.slice none 0 0]))))))) (ty := 56) 0 rfl rfl rfl (by kernel_rfl) (by kernel_rfl) (by kernel_rfl) (by exact rfl) (by kernel_rfl) (len_app (len1 _) (len_app (len1 _) (len_app (len1 _) (len_app (len1 _) (len_app (len1 _) (len_app (len1 _) (len1 _))))))) (one_app (one_cons rfl one_nil) (one_app (one_cons rfl one_nil) (one_app (one_cons rfl one_nil) (one_app (one_cons rfl one_nil) (one_app (one_cons rfl one_nil) (one_app (one_cons rfl one_nil) (one_cons rfl one_nil))))))) (hl_of (Sub4.all _) (len_eq (len_app (len1 _) (len_app (len1 _) (len_app (len1 _) (len_app (len1 _) (len_app (len1 _) (len_app (len1 _) (len1 _))))))) (len_app (len1 _) (len_app (len1 _) (len_app (len1 _) (len_app (len1 _) (len_app (len1 _) (len_app (len1 _) (len1 _))))))))) (cs' := ([Value.int .i64 (0 : Int)] ++ ([Value.int .i64 (0 : Int)] ++ ([Value.int .i64 (0 : Int)] ++ ([Value.int .i64 (0 : Int)] ++ ([Value.string ByteArray.empty] ++ ([Value.string ByteArray.empty] ++ [Value.slice none 0 0]))))))) (splc_all (len_eq (len_app (len1 _) (len_app (len1 _) (len_app (len1 _) (len_app (len1 _) (len_app (len1 _) (len_app (len1 _) (len1 _))))))) (len_app (len1 _) (len_app (len1 _) (len_app (len1 _) (len_app (len1 _) (len_app (len1 _) (len_app (len1 _) (len1 _))))))))) ?_
      refine lv (.int .i64 (11 : Int)) ?_
      refine ls_end ?_
      refine qn_then ?_
      refine cs_ret' ?_
      refine qr_then ?_
      obtain rfl := Option.some.inj H
      refine qr_res (rs := [_, _]) rfl (fun w' hs => ⟨[.agg ⟨([Value.int .i64 (0 : Int)] ++ ([Value.int .i64 (0 : Int)] ++ ([Value.int .i64 (0 : Int)] ++ ([Value.int .i64 (0 : Int)] ++ ([Value.string ByteArray.empty] ++ ([Value.string ByteArray.empty] ++ [Value.slice none 0 0]))))))⟩, .int .i64 (11 : Int)], (.cell (by kernel_rfl) (run_cellres (by kernel_rfl) (by kernel_rfl) (len_app (len1 _) (len_app (len1 _) (len_app (len1 _) (len_app (len1 _) (len_app (len1 _) (len_app (len1 _) (len1 _))))))) (hs.holds 0 _ (by exact rfl))) (res_tmp (by kernel_rfl) (.nil))), b, (Bs.le.refl b), (none, 0), rfl, ⟨(Ro.nil _ _), (Nat.zero_le _)⟩, hs.pick (ts := []) (cs := []) trivial (by decide)⟩)
    replace H := ite_f q77 H
    refine ls_know (c := true) (congrArg Bool.not (dec_f q77)) 89 (by kernel_rfl) ?_
    refine lofx 2 89 false true ?_
    refine lofx 2 89 false true ?_
    refine lofx 2 89 false true ?_
    refine lofx 2 89 false true ?_
    refine lofx 2 89 false true ?_
    refine lv (.bool true) ?_
    refine ls_end ?_
    refine qn_then ?_
    refine cs_true (by kernel_rfl) ?_
    refine cs_seq ?_
    refine cs_region (l := [_, _, _]) ?_
    refine lv (.agg ⟨([Value.int .i64 (0 : Int)] ++ ([Value.int .i64 (0 : Int)] ++ ([Value.int .i64 (0 : Int)] ++ ([Value.int .i64 (0 : Int)] ++ ([Value.string ByteArray.empty] ++ ([Value.string ByteArray.empty] ++ [Value.slice none 0 0]))))))⟩) ?_
    refine ls_storec (g := g1) (off := 0) (v := .agg ⟨([Value.int .i64 (0 : Int)] ++ ([Value.int .i64 (0 : Int)] ++ ([Value.int .i64 (0 : Int)] ++ ([Value.int .i64 (0 : Int)] ++ ([Value.string ByteArray.empty] ++ ([Value.string ByteArray.empty] ++ [Value.slice none 0 0]))))))⟩) (vs := ([Value.int .i64 (0 : Int)] ++ ([Value.int .i64 (0 : Int)] ++ ([Value.int .i64 (0 : Int)] ++ ([Value.int .i64 (0 : Int)] ++ ([Value.string ByteArray.empty] ++ ([Value.string ByteArray.empty] ++ [Value.slice none 0 0]))))))) (cs := ([Value.int .i64 (0 : Int)] ++ ([Value.int .i64 (0 : Int)] ++ ([Value.int .i64 (0 : Int)] ++ ([Value.int .i64 (0 : Int)] ++ ([Value.string ByteArray.empty] ++ ([Value.string ByteArray.empty] ++ [Value.slice none 0 0]))))))) (ty := 56) 0 rfl rfl rfl (by kernel_rfl) (by kernel_rfl) (by kernel_rfl) (by exact rfl) (by kernel_rfl) (len_app (len1 _) (len_app (len1 _) (len_app (len1 _) (len_app (len1 _) (len_app (len1 _) (len_app (len1 _) (len1 _))))))) (one_app (one_cons rfl one_nil) (one_app (one_cons rfl one_nil) (one_app (one_cons rfl one_nil) (one_app (one_cons rfl one_nil) (one_app (one_cons rfl one_nil) (one_app (one_cons rfl one_nil) (one_cons rfl one_nil))))))) (hl_of (Sub4.all _) (len_eq (len_app (len1 _) (len_app (len1 _) (len_app (len1 _) (len_app (len1 _) (len_app (len1 _) (len_app (len1 _) (len1 _))))))) (len_app (len1 _) (len_app (len1 _) (len_app (len1 _) (len_app (len1 _) (len_app (len1 _) (len_app (len1 _) (len1 _))))))))) (cs' := ([Value.int .i64 (0 : Int)] ++ ([Value.int .i64 (0 : Int)] ++ ([Value.int .i64 (0 : Int)] ++ ([Value.int .i64 (0 : Int)] ++ ([Value.string ByteArray.empty] ++ ([Value.string ByteArray.empty] ++ [Value.slice none 0 0]))))))) (splc_all (len_eq (len_app (len1 _) (len_app (len1 _) (len_app (len1 _) (len_app (len1 _) (len_app (len1 _) (len_app (len1 _) (len1 _))))))) (len_app (len1 _) (len_app (len1 _) (len_app (len1 _) (len_app (len1 _) (len_app (len1 _) (len_app (len1 _) (len1 _))))))))) ?_
    refine lv (.int .i64 (11 : Int)) ?_
    refine ls_end ?_
    refine qn_then ?_
    refine cs_ret' ?_
    refine qr_then ?_
    obtain rfl := Option.some.inj H
    refine qr_res (rs := [_, _]) rfl (fun w' hs => ⟨[.agg ⟨([Value.int .i64 (0 : Int)] ++ ([Value.int .i64 (0 : Int)] ++ ([Value.int .i64 (0 : Int)] ++ ([Value.int .i64 (0 : Int)] ++ ([Value.string ByteArray.empty] ++ ([Value.string ByteArray.empty] ++ [Value.slice none 0 0]))))))⟩, .int .i64 (11 : Int)], (.cell (by kernel_rfl) (run_cellres (by kernel_rfl) (by kernel_rfl) (len_app (len1 _) (len_app (len1 _) (len_app (len1 _) (len_app (len1 _) (len_app (len1 _) (len_app (len1 _) (len1 _))))))) (hs.holds 0 _ (by exact rfl))) (res_tmp (by kernel_rfl) (.nil))), b, (Bs.le.refl b), (none, 0), rfl, ⟨(Ro.nil _ _), (Nat.zero_le _)⟩, hs.pick (ts := []) (cs := []) trivial (by decide)⟩)
  rintro f S ⟨fr2, rfl, rfl, H⟩
  replace H : ((shadowboxref36_text.f k1 l5_1).bind fun t46 => (shadowboxref36_text.f k1 t46.2).bind fun t52 => (if (m1_1.2.2.2.2.2.2.length + ([(t46.1, t52.1)]).length) * 32 ≤ 140737488355328 then (shadowboxref36_Read.lo1 l0 t39 k1) t52.2 (IntKind.wrap .i64 (x7_1 + (1 : Int))) (m1_1.1, m1_1.2.1, m1_1.2.2.1, m1_1.2.2.2.1, m1_1.2.2.2.2.1, m1_1.2.2.2.2.2.1, (m1_1.2.2.2.2.2.2 ++ [(t46.1, t52.1)])) else none)) = some r := H
  refine cs_seq ?_
  refine cs_block ?_
  refine cs_seq ?_
  refine cs_region (l := [_, _, _]) ?_
  refine lv (.agg ⟨([Value.string ByteArray.empty] ++ [Value.string ByteArray.empty])⟩) ?_
  refine ls_new rfl rfl (by kernel_rfl) 3 (fun g => .pointer (some ⟨g, 0, none⟩)) (.cells ⟨([Value.string ByteArray.empty] ++ [Value.string ByteArray.empty])⟩ 67) (fun w => by kernel_rfl) ?_
  intro g45
  refine ls_storec (g := g45) (off := 0) (v := .agg ⟨([Value.string ByteArray.empty] ++ [Value.string ByteArray.empty])⟩) (vs := ([Value.string ByteArray.empty] ++ [Value.string ByteArray.empty])) (cs := ([Value.string ByteArray.empty] ++ [Value.string ByteArray.empty])) (ty := 67) 3 rfl rfl rfl (by kernel_rfl) (by kernel_rfl) (by kernel_rfl) (by exact rfl) (by kernel_rfl) (len_app (len1 _) (len1 _)) (one_app (one_cons rfl one_nil) (one_cons rfl one_nil)) (hl_of (Sub4.all _) (len_eq (len_app (len1 _) (len1 _)) (len_app (len1 _) (len1 _)))) (cs' := ([Value.string ByteArray.empty] ++ [Value.string ByteArray.empty])) (splc_all (len_eq (len_app (len1 _) (len1 _)) (len_app (len1 _) (len1 _)))) ?_
  refine ls_end ?_
  refine qn_then ?_
  refine cs_seq ?_
  refine cs_region (l := [_, _, _, _, _, _, _, _]) ?_
  refine lv (.slice A5_1 l5_1.length c5_1) ?_
  obtain ⟨t46, hc47, H⟩ := bind_some H
  refine ls_callg (fid := 46) (vals := #[.slice A5_1 l5_1.length c5_1]) (X := (Option Addr × Nat)) (fun x => .tuple #[.string t46.1, .slice x.1 t46.2.length x.2]) (fun x => stl []) (fun x B => (Ro B x.1 (em (Ec.int 5 .u8) t46.2) ∧ t46.2.length ≤ x.2)) [] [] 4 rfl rfl (by kernel_rfl) (fun w => by kernel_rfl) trivial (by decide) (fun x b b' h hf => ⟨h _ _ hf.1, hf.2⟩) (fun w hs hb => shadowboxref36_text.calls k1 A5_1 c5_1 l5_1 t46 (lent b w [] []) hb (hs.ro R5_1 _ _) C5_1 hc47) ?_
  intro x48 hf51
  obtain ⟨fR49, fC50⟩ := hf51
  refine lv (.tuple #[.string t46.1, .slice x48.1 t46.2.length x48.2]) ?_
  refine lv (.string t46.1) ?_
  refine lv (.slice x48.1 t46.2.length x48.2) ?_
  refine lv (.pointer (some ⟨g45, (0 + 0), none⟩)) ?_
  refine ls_storec (g := g45) (off := (0 + 0)) (v := .string t46.1) (vs := [Value.string t46.1]) (cs := ([Value.string ByteArray.empty] ++ [Value.string ByteArray.empty])) (ty := 67) 3 rfl rfl rfl (by kernel_rfl) (by kernel_rfl) (by kernel_rfl) (by exact rfl) (by kernel_rfl) (len1 _) (one_cons rfl one_nil) (hl_of (Sub4.trans (Sub4.all _) (Sub4.head _ _)) (len_eq (len1 _) (len1 _))) (cs' := ([Value.string t46.1] ++ [Value.string ByteArray.empty])) (splc_in (Sub4.all _) (splc_head (len_eq (len1 _) (len1 _))) (splc_all (len_eq (len_app (len1 _) (len1 _)) (len_app (len1 _) (len1 _)))) (hl_of (Sub4.head _ _) (len_eq (len1 _) (len1 _)))) ?_
  refine lv (.slice x48.1 t46.2.length x48.2) ?_
  refine ls_end ?_
  refine qn_then ?_
  refine cs_seq ?_
  refine cs_region (l := [_, _, _, _, _, _, _, _]) ?_
  refine lv (.slice x48.1 t46.2.length x48.2) ?_
  obtain ⟨t52, hc53, H⟩ := bind_some H
  refine ls_callg (fid := 46) (vals := #[.slice x48.1 t46.2.length x48.2]) (X := (Option Addr × Nat)) (fun x => .tuple #[.string t52.1, .slice x.1 t52.2.length x.2]) (fun x => stl []) (fun x B => (Ro B x.1 (em (Ec.int 5 .u8) t52.2) ∧ t52.2.length ≤ x.2)) [] [] 4 rfl rfl (by kernel_rfl) (fun w => by kernel_rfl) trivial (by decide) (fun x b b' h hf => ⟨h _ _ hf.1, hf.2⟩) (fun w hs hb => shadowboxref36_text.calls k1 x48.1 x48.2 t46.2 t52 (lent b w [] []) hb (hs.ro fR49 _ _) fC50 hc53) ?_
  intro x54 hf57
  obtain ⟨fR55, fC56⟩ := hf57
  refine lv (.tuple #[.string t52.1, .slice x54.1 t52.2.length x54.2]) ?_
  refine lv (.string t52.1) ?_
  refine lv (.slice x54.1 t52.2.length x54.2) ?_
  refine lv (.pointer (some ⟨g45, (0 + 1), none⟩)) ?_
  refine ls_storec (g := g45) (off := (0 + 1)) (v := .string t52.1) (vs := [Value.string t52.1]) (cs := ([Value.string t46.1] ++ [Value.string ByteArray.empty])) (ty := 67) 3 rfl rfl rfl (by kernel_rfl) (by kernel_rfl) (by kernel_rfl) (by exact rfl) (by kernel_rfl) (len1 _) (one_cons rfl one_nil) (hl_of (Sub4.trans (Sub4.all _) (Sub4.skip (n := 1) (len1 _) (Sub4.all _))) (len_eq (len1 _) (len1 _))) (cs' := ([Value.string t46.1] ++ [Value.string t52.1])) (splc_in (Sub4.all _) (splc_skip (n := 1) (len1 _) (splc_all (len_eq (len1 _) (len1 _)))) (splc_all (len_eq (len_app (len1 _) (len1 _)) (len_app (len1 _) (len1 _)))) (hl_of (Sub4.skip (n := 1) (len1 _) (Sub4.all _)) (len_eq (len1 _) (len1 _)))) ?_
  refine lv (.slice x54.1 t52.2.length x54.2) ?_
  refine ls_end ?_
  refine qn_then ?_
  refine cs_region (l := [_, _, _, _, _, _, _]) ?_
  refine lv (.pointer (some ⟨g2, (0 + 6), none⟩)) ?_
  refine ls_load (a0 := ⟨g2, (0 + 6), none⟩) (v := .slice Am1_1_6 m1_1.2.2.2.2.2.2.length cm1_1_6) (de := (TypeDesc.slice 67)) rfl rfl (by kernel_rfl) rfl (by kernel_rfl) (by kernel_rfl) (by kernel_rfl) (fun w hs => (hs.var (k := 1) (by exact rfl) (Sub4.trans (Sub4.all _) (Sub4.skip (n := 1) (len1 _) (Sub4.skip (n := 1) (len1 _) (Sub4.skip (n := 1) (len1 _) (Sub4.skip (n := 1) (len1 _) (Sub4.skip (n := 1) (len1 _) (Sub4.skip (n := 1) (len1 _) (Sub4.all _)))))))))) ?_
  refine ls_loadagg (a := ⟨g45, 0, none⟩) (sub := ([Value.string t46.1] ++ [Value.string t52.1])) rfl rfl (by kernel_rfl) rfl (by kernel_rfl) (by kernel_rfl) (by kernel_rfl) (len_app (len1 _) (len1 _)) (fun w hs => (hs.vars (k := 3) (by exact rfl) (Sub4.all _))) ?_
  refine ls_lit T67 4 rfl rfl (by kernel_rfl) ([(t46.1, t52.1)]) (by exact of_decide_eq_true (by kernel_rfl)) (fun w => by kernel_rfl) ?_
  intro g58
  obtain ⟨q59, H⟩ := ite_need H
  refine ls_app T67 (A := Am1_1_6) (c := cm1_1_6) (B := (some ⟨g58, 0, none⟩)) (cb := [(t46.1, t52.1)].length) (z := (.agg ⟨([Value.string ByteArray.empty] ++ [Value.string ByteArray.empty])⟩)) (l := m1_1.2.2.2.2.2.2) (m := [(t46.1, t52.1)]) (bytes := 32) 2 rfl rfl (by kernel_rfl) rfl (by kernel_rfl) (by exact rfl) (by kernel_rfl) (fun w hs => (hs.rd (k := 4) (by exact rfl))) (by kernel_rfl) (by kernel_rfl) rfl (by decide) q59 ?_
  intro xA60 xc61
  refine lv (.pointer (some ⟨g2, (0 + 6), none⟩)) ?_
  refine ls_storec (g := g2) (off := (0 + 6)) (v := .slice xA60 (m1_1.2.2.2.2.2.2 ++ [(t46.1, t52.1)]).length xc61) (vs := [Value.slice xA60 (m1_1.2.2.2.2.2.2 ++ [(t46.1, t52.1)]).length xc61]) (cs := ([Value.int .i64 m1_1.1] ++ ([Value.int .i64 m1_1.2.1] ++ ([Value.int .i64 m1_1.2.2.1] ++ ([Value.int .i64 m1_1.2.2.2.1] ++ ([Value.string m1_1.2.2.2.2.1] ++ ([Value.string m1_1.2.2.2.2.2.1] ++ [Value.slice Am1_1_6 m1_1.2.2.2.2.2.2.length cm1_1_6]))))))) (ty := 56) 1 rfl rfl rfl (by kernel_rfl) (by kernel_rfl) (by kernel_rfl) (by exact rfl) (by kernel_rfl) (len1 _) (one_cons rfl one_nil) (hl_of (Sub4.trans (Sub4.all _) (Sub4.skip (n := 1) (len1 _) (Sub4.skip (n := 1) (len1 _) (Sub4.skip (n := 1) (len1 _) (Sub4.skip (n := 1) (len1 _) (Sub4.skip (n := 1) (len1 _) (Sub4.skip (n := 1) (len1 _) (Sub4.all _)))))))) (len_eq (len1 _) (len1 _))) (cs' := ([Value.int .i64 m1_1.1] ++ ([Value.int .i64 m1_1.2.1] ++ ([Value.int .i64 m1_1.2.2.1] ++ ([Value.int .i64 m1_1.2.2.2.1] ++ ([Value.string m1_1.2.2.2.2.1] ++ ([Value.string m1_1.2.2.2.2.2.1] ++ [Value.slice xA60 (m1_1.2.2.2.2.2.2 ++ [(t46.1, t52.1)]).length xc61]))))))) (splc_in (Sub4.all _) (splc_skip (n := 1) (len1 _) (splc_skip (n := 1) (len1 _) (splc_skip (n := 1) (len1 _) (splc_skip (n := 1) (len1 _) (splc_skip (n := 1) (len1 _) (splc_skip (n := 1) (len1 _) (splc_all (len_eq (len1 _) (len1 _))))))))) (splc_all (len_eq (len_app (len1 _) (len_app (len1 _) (len_app (len1 _) (len_app (len1 _) (len_app (len1 _) (len_app (len1 _) (len1 _))))))) (len_app (len1 _) (len_app (len1 _) (len_app (len1 _) (len_app (len1 _) (len_app (len1 _) (len_app (len1 _) (len1 _))))))))) (hl_of (Sub4.skip (n := 1) (len1 _) (Sub4.skip (n := 1) (len1 _) (Sub4.skip (n := 1) (len1 _) (Sub4.skip (n := 1) (len1 _) (Sub4.skip (n := 1) (len1 _) (Sub4.skip (n := 1) (len1 _) (Sub4.all _))))))) (len_eq (len1 _) (len1 _)))) ?_
  refine ls_end ?_
  refine qn_block ?_
  refine qn_then ?_
  refine cs_region (l := [_, _, _]) ?_
  refine lv (.int .i64 x7_1) ?_
  refine lv (.int .i64 (IntKind.wrap .i64 (x7_1 + (1 : Int)))) ?_
  refine lv (.int .i64 (IntKind.wrap .i64 (x7_1 + (1 : Int)))) ?_
  refine ls_end ?_
  refine qn_again k1 (sput (sput (sput s0 0 (some (Ck.var 56 g1 (([Value.int .i64 (0 : Int)] ++ ([Value.int .i64 (0 : Int)] ++ ([Value.int .i64 (0 : Int)] ++ ([Value.int .i64 (0 : Int)] ++ ([Value.string ByteArray.empty] ++ ([Value.string ByteArray.empty] ++ [Value.slice none 0 0])))))))))) 1 (some (Ck.var 56 g2 (([Value.int .i64 m1_1.1] ++ ([Value.int .i64 m1_1.2.1] ++ ([Value.int .i64 m1_1.2.2.1] ++ ([Value.int .i64 m1_1.2.2.2.1] ++ ([Value.string m1_1.2.2.2.2.1] ++ ([Value.string m1_1.2.2.2.2.2.1] ++ [Value.slice xA60 (m1_1.2.2.2.2.2.2 ++ [(t46.1, t52.1)]).length xc61])))))))))) 2 (some (Ck.sl T67 xA60 xc61 (m1_1.2.2.2.2.2.2 ++ [(t46.1, t52.1)])))) (Nat.le_refl _) ⟨_, x54.1, x54.2, t52.2, (IntKind.wrap .i64 (x7_1 + (1 : Int))), xA60, xc61, (m1_1.1, m1_1.2.1, m1_1.2.2.1, m1_1.2.2.2.1, m1_1.2.2.2.2.1, m1_1.2.2.2.2.2.1, (m1_1.2.2.2.2.2.2 ++ [(t46.1, t52.1)])), fr_next (fr_next (fr_next (fr_next (fr_next (fr_next (rfl) (by kernel_rfl)) (by kernel_rfl)) (by kernel_rfl)) (by kernel_rfl)) (by kernel_rfl)) (by kernel_rfl), rfl, fR55, fC56, H⟩ (sub_put (by exact rfl) (sub_put (by exact rfl) (sub_put (by exact rfl) (sub_nil _))))

/-! ### shadowbox/shadowboxref36.Same: function 27 -/
def shadowboxref36_Same.tab3 : List (List Nat) := [[], [0], [], [0, 1, 2], [0, 1, 2, 3], [], [5], [], [5, 6, 7], [5, 6, 7, 8], [0, 1, 2, 3, 4, 5, 6, 7, 8, 9]]
def shadowboxref36_Same.lo2 (a0 : (Int × Int × Int × Int × ByteArray × ByteArray × (List (ByteArray × ByteArray)))) (a1 : (Int × Int × Int × Int × ByteArray × ByteArray × (List (ByteArray × ByteArray)))) : Nat → Int → Option (Bool)
  | 0, _ => none
  | k2 + 1, x5_2 => (if x5_2 < (a0.2.2.2.2.2.2.length : Int) then (if 0 ≤ x5_2 then (if x5_2 < (a1.2.2.2.2.2.2.length : Int) then (if (((((a0.2.2.2.2.2.2).getD (x5_2).toNat (ByteArray.empty, ByteArray.empty)).1).toList == (((a1.2.2.2.2.2.2).getD (x5_2).toNat (ByteArray.empty, ByteArray.empty)).1).toList) && ((((a0.2.2.2.2.2.2).getD (x5_2).toNat (ByteArray.empty, ByteArray.empty)).2).toList == (((a1.2.2.2.2.2.2).getD (x5_2).toNat (ByteArray.empty, ByteArray.empty)).2).toList)) = true then (shadowboxref36_Same.lo2 a0 a1 k2) (IntKind.wrap .i64 (x5_2 + (1 : Int))) else some false) else none) else none) else some true)
def shadowboxref36_Same.jo1 (k : Nat) (a0 : (Int × Int × Int × Int × ByteArray × ByteArray × (List (ByteArray × ByteArray)))) (a1 : (Int × Int × Int × Int × ByteArray × ByteArray × (List (ByteArray × ByteArray)))) : Option (Bool) := shadowboxref36_Same.lo2 a0 a1 k (0 : Int)
def shadowboxref36_Same.f (k : Nat) (a0 : (Int × Int × Int × Int × ByteArray × ByteArray × (List (ByteArray × ByteArray)))) (a1 : (Int × Int × Int × Int × ByteArray × ByteArray × (List (ByteArray × ByteArray)))) : Option (Bool) :=
  (if a0.1 = a1.1 then (if a0.2.1 = a1.2.1 then (if a0.2.2.1 = a1.2.2.1 then (if a0.2.2.2.1 = a1.2.2.2.1 then (if (a0.2.2.2.2.1.toList == a1.2.2.2.2.1.toList) = true then (if (a0.2.2.2.2.2.1.toList == a1.2.2.2.2.2.1.toList) = true then (if (a0.2.2.2.2.2.2.length : Int) = (a1.2.2.2.2.2.2.length : Int) then (shadowboxref36_Same.jo1 k a0 a1) else some false) else some false) else some false) else some false) else some false) else some false) else some false)
set_option maxRecDepth 100000 in
set_option maxHeartbeats 4000000 in
theorem shadowboxref36_Same.calls (k : Nat) (A0_6 : Option Addr) (c0_6 : Nat) (a0 : (Int × Int × Int × Int × ByteArray × ByteArray × (List (ByteArray × ByteArray)))) (A1_6 : Option Addr) (c1_6 : Nat) (a1 : (Int × Int × Int × Int × ByteArray × ByteArray × (List (ByteArray × ByteArray)))) (r : Bool) (b : Bs) (hs0 : St b (stl []) b.w) (R0_6 : Ro b A0_6 (em T67 a0.2.2.2.2.2.2)) (C0_6 : a0.2.2.2.2.2.2.length ≤ c0_6) (R1_6 : Ro b A1_6 (em T67 a1.2.2.2.2.2.2)) (C1_6 : a1.2.2.2.2.2.2.length ≤ c1_6) (H : shadowboxref36_Same.f k a0 a1 = some r) :
    Calls Try.prog 27 #[.agg ⟨([Value.int .i64 a0.1] ++ ([Value.int .i64 a0.2.1] ++ ([Value.int .i64 a0.2.2.1] ++ ([Value.int .i64 a0.2.2.2.1] ++ ([Value.string a0.2.2.2.2.1] ++ ([Value.string a0.2.2.2.2.2.1] ++ [Value.slice A0_6 a0.2.2.2.2.2.2.length c0_6]))))))⟩, .agg ⟨([Value.int .i64 a1.1] ++ ([Value.int .i64 a1.2.1] ++ ([Value.int .i64 a1.2.2.1] ++ ([Value.int .i64 a1.2.2.2.1] ++ ([Value.string a1.2.2.2.2.1] ++ ([Value.string a1.2.2.2.2.2.1] ++ [Value.slice A1_6 a1.2.2.2.2.2.2.length c1_6]))))))⟩] b.w fun e w' => ∃ x : Unit, e = .returned (.bool r) ∧ St b (stl []) w' := by
  unfold shadowboxref36_Same.f at H
  refine enterb (n := 73) Try.func27 rfl (by kernel_rfl) (by kernel_rfl) hs0 ?_
  refine cs_sub (s0) (sub_nil _) ?_
  refine cs_seq ?_
  refine cs_region (l := [_, _, _]) ?_
  refine ls_new rfl rfl (by kernel_rfl) 0 (fun g => .pointer (some ⟨g, 0, none⟩)) (.cells ⟨([Value.int .i64 a0.1] ++ ([Value.int .i64 a0.2.1] ++ ([Value.int .i64 a0.2.2.1] ++ ([Value.int .i64 a0.2.2.2.1] ++ ([Value.string a0.2.2.2.2.1] ++ ([Value.string a0.2.2.2.2.2.1] ++ [Value.slice A0_6 a0.2.2.2.2.2.2.length c0_6]))))))⟩ 56) (fun w => by kernel_rfl) ?_
  intro g1
  refine ls_new rfl rfl (by kernel_rfl) 1 (fun g => .pointer (some ⟨g, 0, none⟩)) (.cells ⟨([Value.int .i64 a1.1] ++ ([Value.int .i64 a1.2.1] ++ ([Value.int .i64 a1.2.2.1] ++ ([Value.int .i64 a1.2.2.2.1] ++ ([Value.string a1.2.2.2.2.1] ++ ([Value.string a1.2.2.2.2.2.1] ++ [Value.slice A1_6 a1.2.2.2.2.2.2.length c1_6]))))))⟩ 56) (fun w => by kernel_rfl) ?_
  intro g2
  refine lv (.bool false) ?_
  refine ls_end ?_
  refine qn_then ?_
  refine cs_cut (fun f S => ∃ (fR : Fr), f = upd (upd fR 2 (.pointer (some ⟨g1, 0, none⟩))) 3 (.pointer (some ⟨g2, 0, none⟩)) ∧ S = sput (sput s0 0 (some (Ck.var 56 g1 (([Value.int .i64 a0.1] ++ ([Value.int .i64 a0.2.1] ++ ([Value.int .i64 a0.2.2.1] ++ ([Value.int .i64 a0.2.2.2.1] ++ ([Value.string a0.2.2.2.2.1] ++ ([Value.string a0.2.2.2.2.2.1] ++ [Value.slice A0_6 a0.2.2.2.2.2.2.length c0_6])))))))))) 1 (some (Ck.var 56 g2 (([Value.int .i64 a1.1] ++ ([Value.int .i64 a1.2.1] ++ ([Value.int .i64 a1.2.2.1] ++ ([Value.int .i64 a1.2.2.2.1] ++ ([Value.string a1.2.2.2.2.1] ++ ([Value.string a1.2.2.2.2.2.1] ++ [Value.slice A1_6 a1.2.2.2.2.2.2.length c1_6]))))))))) ∧ shadowboxref36_Same.jo1 k a0 a1 = some r) ?_ ?_
  · skip
    refine cs_seq ?_
    refine cs_region (l := [_, _, _, _, _, _, _, _, _, _, _, _, _, _, _, _, _, _, _, _, _, _, _, _, _, _, _, _, _, _, _, _, _, _, _, _, _, _, _, _, _, _, _, _, _, _, _, _, _]) ?_
    refine lv (.pointer (some ⟨g1, (0 + 0), none⟩)) ?_
    refine ls_load (a0 := ⟨g1, (0 + 0), none⟩) (v := .int .i64 a0.1) (de := (TypeDesc.int .i64)) rfl rfl (by kernel_rfl) rfl (by kernel_rfl) (by kernel_rfl) (by kernel_rfl) (fun w hs => (hs.var (k := 0) (by exact rfl) (Sub4.trans (Sub4.all _) (Sub4.head _ _)))) ?_
    refine lv (.pointer (some ⟨g2, (0 + 0), none⟩)) ?_
    refine ls_load (a0 := ⟨g2, (0 + 0), none⟩) (v := .int .i64 a1.1) (de := (TypeDesc.int .i64)) rfl rfl (by kernel_rfl) rfl (by kernel_rfl) (by kernel_rfl) (by kernel_rfl) (fun w hs => (hs.var (k := 1) (by exact rfl) (Sub4.trans (Sub4.all _) (Sub4.head _ _)))) ?_
    refine lv (.bool (!decide (a0.1 = a1.1))) ?_
    refine lv (.bool (!decide (a0.1 = a1.1))) ?_
    by_cases q13 : a0.1 = a1.1
    · replace H := ite_t q13 H
      refine ls_know (c := false) (congrArg Bool.not (dec_t q13)) 11 (by kernel_rfl) ?_
      refine ls_on (j := 5) (t := 11) (b := false) rfl rfl (by kernel_rfl) (by kernel_rfl) ?_
      refine lv (.pointer (some ⟨g1, (0 + 1), none⟩)) ?_
      refine ls_on (j := 5) (t := 11) (b := false) rfl rfl (by kernel_rfl) (by kernel_rfl) ?_
      refine ls_load (a0 := ⟨g1, (0 + 1), none⟩) (v := .int .i64 a0.2.1) (de := (TypeDesc.int .i64)) rfl rfl (by kernel_rfl) rfl (by kernel_rfl) (by kernel_rfl) (by kernel_rfl) (fun w hs => (hs.var (k := 0) (by exact rfl) (Sub4.trans (Sub4.all _) (Sub4.skip (n := 1) (len1 _) (Sub4.head _ _))))) ?_
      refine ls_on (j := 5) (t := 11) (b := false) rfl rfl (by kernel_rfl) (by kernel_rfl) ?_
      refine lv (.pointer (some ⟨g2, (0 + 1), none⟩)) ?_
      refine ls_on (j := 5) (t := 11) (b := false) rfl rfl (by kernel_rfl) (by kernel_rfl) ?_
      refine ls_load (a0 := ⟨g2, (0 + 1), none⟩) (v := .int .i64 a1.2.1) (de := (TypeDesc.int .i64)) rfl rfl (by kernel_rfl) rfl (by kernel_rfl) (by kernel_rfl) (by kernel_rfl) (fun w hs => (hs.var (k := 1) (by exact rfl) (Sub4.trans (Sub4.all _) (Sub4.skip (n := 1) (len1 _) (Sub4.head _ _))))) ?_
      refine ls_on (j := 5) (t := 11) (b := false) rfl rfl (by kernel_rfl) (by kernel_rfl) ?_
      refine lv (.bool (!decide (a0.2.1 = a1.2.1))) ?_
      refine lv (.bool (!decide (a0.2.1 = a1.2.1))) ?_
      refine lv (.bool (!decide (a0.2.1 = a1.2.1))) ?_
      by_cases q14 : a0.2.1 = a1.2.1
      · replace H := ite_t q14 H
        refine ls_know (c := false) (congrArg Bool.not (dec_t q14)) 18 (by kernel_rfl) ?_
        refine ls_on (j := 12) (t := 18) (b := false) rfl rfl (by kernel_rfl) (by kernel_rfl) ?_
        refine lv (.pointer (some ⟨g1, (0 + 2), none⟩)) ?_
        refine ls_on (j := 12) (t := 18) (b := false) rfl rfl (by kernel_rfl) (by kernel_rfl) ?_
        refine ls_load (a0 := ⟨g1, (0 + 2), none⟩) (v := .int .i64 a0.2.2.1) (de := (TypeDesc.int .i64)) rfl rfl (by kernel_rfl) rfl (by kernel_rfl) (by kernel_rfl) (by kernel_rfl) (fun w hs => (hs.var (k := 0) (by exact rfl) (Sub4.trans (Sub4.all _) (Sub4.skip (n := 1) (len1 _) (Sub4.skip (n := 1) (len1 _) (Sub4.head _ _)))))) ?_
        refine ls_on (j := 12) (t := 18) (b := false) rfl rfl (by kernel_rfl) (by kernel_rfl) ?_
        refine lv (.pointer (some ⟨g2, (0 + 2), none⟩)) ?_
        refine ls_on (j := 12) (t := 18) (b := false) rfl rfl (by kernel_rfl) (by kernel_rfl) ?_
        refine ls_load (a0 := ⟨g2, (0 + 2), none⟩) (v := .int .i64 a1.2.2.1) (de := (TypeDesc.int .i64)) rfl rfl (by kernel_rfl) rfl (by kernel_rfl) (by kernel_rfl) (by kernel_rfl) (fun w hs => (hs.var (k := 1) (by exact rfl) (Sub4.trans (Sub4.all _) (Sub4.skip (n := 1) (len1 _) (Sub4.skip (n := 1) (len1 _) (Sub4.head _ _)))))) ?_
        refine ls_on (j := 12) (t := 18) (b := false) rfl rfl (by kernel_rfl) (by kernel_rfl) ?_
        refine lv (.bool (!decide (a0.2.2.1 = a1.2.2.1))) ?_
        refine lv (.bool (!decide (a0.2.2.1 = a1.2.2.1))) ?_
        refine lv (.bool (!decide (a0.2.2.1 = a1.2.2.1))) ?_
        by_cases q15 : a0.2.2.1 = a1.2.2.1
        · replace H := ite_t q15 H
          refine ls_know (c := false) (congrArg Bool.not (dec_t q15)) 25 (by kernel_rfl) ?_
          refine ls_on (j := 19) (t := 25) (b := false) rfl rfl (by kernel_rfl) (by kernel_rfl) ?_
          refine lv (.pointer (some ⟨g1, (0 + 3), none⟩)) ?_
          refine ls_on (j := 19) (t := 25) (b := false) rfl rfl (by kernel_rfl) (by kernel_rfl) ?_
          refine ls_load (a0 := ⟨g1, (0 + 3), none⟩) (v := .int .i64 a0.2.2.2.1) (de := (TypeDesc.int .i64)) rfl rfl (by kernel_rfl) rfl (by kernel_rfl) (by kernel_rfl) (by kernel_rfl) (fun w hs => (hs.var (k := 0) (by exact rfl) (Sub4.trans (Sub4.all _) (Sub4.skip (n := 1) (len1 _) (Sub4.skip (n := 1) (len1 _) (Sub4.skip (n := 1) (len1 _) (Sub4.head _ _))))))) ?_
          refine ls_on (j := 19) (t := 25) (b := false) rfl rfl (by kernel_rfl) (by kernel_rfl) ?_
          refine lv (.pointer (some ⟨g2, (0 + 3), none⟩)) ?_
          refine ls_on (j := 19) (t := 25) (b := false) rfl rfl (by kernel_rfl) (by kernel_rfl) ?_
          refine ls_load (a0 := ⟨g2, (0 + 3), none⟩) (v := .int .i64 a1.2.2.2.1) (de := (TypeDesc.int .i64)) rfl rfl (by kernel_rfl) rfl (by kernel_rfl) (by kernel_rfl) (by kernel_rfl) (fun w hs => (hs.var (k := 1) (by exact rfl) (Sub4.trans (Sub4.all _) (Sub4.skip (n := 1) (len1 _) (Sub4.skip (n := 1) (len1 _) (Sub4.skip (n := 1) (len1 _) (Sub4.head _ _))))))) ?_
          refine ls_on (j := 19) (t := 25) (b := false) rfl rfl (by kernel_rfl) (by kernel_rfl) ?_
          refine lv (.bool (!decide (a0.2.2.2.1 = a1.2.2.2.1))) ?_
          refine lv (.bool (!decide (a0.2.2.2.1 = a1.2.2.2.1))) ?_
          refine lv (.bool (!decide (a0.2.2.2.1 = a1.2.2.2.1))) ?_
          by_cases q16 : a0.2.2.2.1 = a1.2.2.2.1
          · replace H := ite_t q16 H
            refine ls_know (c := false) (congrArg Bool.not (dec_t q16)) 32 (by kernel_rfl) ?_
            refine ls_on (j := 26) (t := 32) (b := false) rfl rfl (by kernel_rfl) (by kernel_rfl) ?_
            refine lv (.pointer (some ⟨g1, (0 + 4), none⟩)) ?_
            refine ls_on (j := 26) (t := 32) (b := false) rfl rfl (by kernel_rfl) (by kernel_rfl) ?_
            refine ls_load (a0 := ⟨g1, (0 + 4), none⟩) (v := .string a0.2.2.2.2.1) (de := TypeDesc.string) rfl rfl (by kernel_rfl) rfl (by kernel_rfl) (by kernel_rfl) (by kernel_rfl) (fun w hs => (hs.var (k := 0) (by exact rfl) (Sub4.trans (Sub4.all _) (Sub4.skip (n := 1) (len1 _) (Sub4.skip (n := 1) (len1 _) (Sub4.skip (n := 1) (len1 _) (Sub4.skip (n := 1) (len1 _) (Sub4.head _ _)))))))) ?_
            refine ls_on (j := 26) (t := 32) (b := false) rfl rfl (by kernel_rfl) (by kernel_rfl) ?_
            refine lv (.pointer (some ⟨g2, (0 + 4), none⟩)) ?_
            refine ls_on (j := 26) (t := 32) (b := false) rfl rfl (by kernel_rfl) (by kernel_rfl) ?_
            refine ls_load (a0 := ⟨g2, (0 + 4), none⟩) (v := .string a1.2.2.2.2.1) (de := TypeDesc.string) rfl rfl (by kernel_rfl) rfl (by kernel_rfl) (by kernel_rfl) (by kernel_rfl) (fun w hs => (hs.var (k := 1) (by exact rfl) (Sub4.trans (Sub4.all _) (Sub4.skip (n := 1) (len1 _) (Sub4.skip (n := 1) (len1 _) (Sub4.skip (n := 1) (len1 _) (Sub4.skip (n := 1) (len1 _) (Sub4.head _ _)))))))) ?_
            refine ls_on (j := 26) (t := 32) (b := false) rfl rfl (by kernel_rfl) (by kernel_rfl) ?_
            refine lv (.bool (!(a0.2.2.2.2.1.toList == a1.2.2.2.2.1.toList))) ?_
            refine lv (.bool (!(a0.2.2.2.2.1.toList == a1.2.2.2.2.1.toList))) ?_
            refine lv (.bool (!(a0.2.2.2.2.1.toList == a1.2.2.2.2.1.toList))) ?_
            by_cases q17 : (a0.2.2.2.2.1.toList == a1.2.2.2.2.1.toList) = true
            · replace H := ite_t q17 H
              refine ls_know (c := false) (congrArg Bool.not (q17)) 39 (by kernel_rfl) ?_
              refine ls_on (j := 33) (t := 39) (b := false) rfl rfl (by kernel_rfl) (by kernel_rfl) ?_
              refine lv (.pointer (some ⟨g1, (0 + 5), none⟩)) ?_
              refine ls_on (j := 33) (t := 39) (b := false) rfl rfl (by kernel_rfl) (by kernel_rfl) ?_
              refine ls_load (a0 := ⟨g1, (0 + 5), none⟩) (v := .string a0.2.2.2.2.2.1) (de := TypeDesc.string) rfl rfl (by kernel_rfl) rfl (by kernel_rfl) (by kernel_rfl) (by kernel_rfl) (fun w hs => (hs.var (k := 0) (by exact rfl) (Sub4.trans (Sub4.all _) (Sub4.skip (n := 1) (len1 _) (Sub4.skip (n := 1) (len1 _) (Sub4.skip (n := 1) (len1 _) (Sub4.skip (n := 1) (len1 _) (Sub4.skip (n := 1) (len1 _) (Sub4.head _ _))))))))) ?_
              refine ls_on (j := 33) (t := 39) (b := false) rfl rfl (by kernel_rfl) (by kernel_rfl) ?_
              refine lv (.pointer (some ⟨g2, (0 + 5), none⟩)) ?_
              refine ls_on (j := 33) (t := 39) (b := false) rfl rfl (by kernel_rfl) (by kernel_rfl) ?_
              refine ls_load (a0 := ⟨g2, (0 + 5), none⟩) (v := .string a1.2.2.2.2.2.1) (de := TypeDesc.string) rfl rfl (by kernel_rfl) rfl (by kernel_rfl) (by kernel_rfl) (by kernel_rfl) (fun w hs => (hs.var (k := 1) (by exact rfl) (Sub4.trans (Sub4.all _) (Sub4.skip (n := 1) (len1 _) (Sub4.skip (n := 1) (len1 _) (Sub4.skip (n := 1) (len1 _) (Sub4.skip (n := 1) (len1 _) (Sub4.skip (n := 1) (len1 _) (Sub4.head _ _))))))))) ?_
              refine ls_on (j := 33) (t := 39) (b := false) rfl rfl (by kernel_rfl) (by kernel_rfl) ?_
              refine lv (.bool (!(a0.2.2.2.2.2.1.toList == a1.2.2.2.2.2.1.toList))) ?_
              refine lv (.bool (!(a0.2.2.2.2.2.1.toList == a1.2.2.2.2.2.1.toList))) ?_
              refine lv (.bool (!(a0.2.2.2.2.2.1.toList == a1.2.2.2.2.2.1.toList))) ?_
              by_cases q18 : (a0.2.2.2.2.2.1.toList == a1.2.2.2.2.2.1.toList) = true
              · replace H := ite_t q18 H
                refine ls_know (c := false) (congrArg Bool.not (q18)) 46 (by kernel_rfl) ?_
                refine ls_on (j := 40) (t := 46) (b := false) rfl rfl (by kernel_rfl) (by kernel_rfl) ?_
                refine lv (.pointer (some ⟨g1, (0 + 6), none⟩)) ?_
                refine ls_on (j := 40) (t := 46) (b := false) rfl rfl (by kernel_rfl) (by kernel_rfl) ?_
                refine ls_load (a0 := ⟨g1, (0 + 6), none⟩) (v := .slice A0_6 a0.2.2.2.2.2.2.length c0_6) (de := (TypeDesc.slice 67)) rfl rfl (by kernel_rfl) rfl (by kernel_rfl) (by kernel_rfl) (by kernel_rfl) (fun w hs => (hs.var (k := 0) (by exact rfl) (Sub4.trans (Sub4.all _) (Sub4.skip (n := 1) (len1 _) (Sub4.skip (n := 1) (len1 _) (Sub4.skip (n := 1) (len1 _) (Sub4.skip (n := 1) (len1 _) (Sub4.skip (n := 1) (len1 _) (Sub4.skip (n := 1) (len1 _) (Sub4.all _)))))))))) ?_
                refine ls_on (j := 40) (t := 46) (b := false) rfl rfl (by kernel_rfl) (by kernel_rfl) ?_
                refine lv (.int .i64 (a0.2.2.2.2.2.2.length : Int)) ?_
                refine ls_on (j := 40) (t := 46) (b := false) rfl rfl (by kernel_rfl) (by kernel_rfl) ?_
                refine lv (.pointer (some ⟨g2, (0 + 6), none⟩)) ?_
                refine ls_on (j := 40) (t := 46) (b := false) rfl rfl (by kernel_rfl) (by kernel_rfl) ?_
                refine ls_load (a0 := ⟨g2, (0 + 6), none⟩) (v := .slice A1_6 a1.2.2.2.2.2.2.length c1_6) (de := (TypeDesc.slice 67)) rfl rfl (by kernel_rfl) rfl (by kernel_rfl) (by kernel_rfl) (by kernel_rfl) (fun w hs => (hs.var (k := 1) (by exact rfl) (Sub4.trans (Sub4.all _) (Sub4.skip (n := 1) (len1 _) (Sub4.skip (n := 1) (len1 _) (Sub4.skip (n := 1) (len1 _) (Sub4.skip (n := 1) (len1 _) (Sub4.skip (n := 1) (len1 _) (Sub4.skip (n := 1) (len1 _) (Sub4.all _)))))))))) ?_
                refine ls_on (j := 40) (t := 46) (b := false) rfl rfl (by kernel_rfl) (by kernel_rfl) ?_
                refine lv (.int .i64 (a1.2.2.2.2.2.2.length : Int)) ?_
                refine ls_on (j := 40) (t := 46) (b := false) rfl rfl (by kernel_rfl) (by kernel_rfl) ?_
                refine lv (.bool (!decide ((a0.2.2.2.2.2.2.length : Int) = (a1.2.2.2.2.2.2.length : Int)))) ?_
                refine lv (.bool (!decide ((a0.2.2.2.2.2.2.length : Int) = (a1.2.2.2.2.2.2.length : Int)))) ?_
                refine ls_end ?_
                refine qn_then ?_
                by_cases q19 : (a0.2.2.2.2.2.2.length : Int) = (a1.2.2.2.2.2.2.length : Int)
                · replace H := ite_t q19 H
                  refine cs_know (c := false) (congrArg Bool.not (dec_t q19)) 54 (by kernel_rfl) ?_
                  refine cs_false (by kernel_rfl) ?_
                  refine cs_skip' ?_
                  refine qn_meet (sput (sput s0 0 (some (Ck.var 56 g1 (([Value.int .i64 a0.1] ++ ([Value.int .i64 a0.2.1] ++ ([Value.int .i64 a0.2.2.1] ++ ([Value.int .i64 a0.2.2.2.1] ++ ([Value.string a0.2.2.2.2.1] ++ ([Value.string a0.2.2.2.2.2.1] ++ [Value.slice A0_6 a0.2.2.2.2.2.2.length c0_6])))))))))) 1 (some (Ck.var 56 g2 (([Value.int .i64 a1.1] ++ ([Value.int .i64 a1.2.1] ++ ([Value.int .i64 a1.2.2.1] ++ ([Value.int .i64 a1.2.2.2.1] ++ ([Value.string a1.2.2.2.2.1] ++ ([Value.string a1.2.2.2.2.2.1] ++ [Value.slice A1_6 a1.2.2.2.2.2.2.length c1_6])))))))))) ⟨_, fr_next (fr_next (rfl) (by kernel_rfl)) (by kernel_rfl), rfl, H⟩ (sub_put (by exact rfl) (sub_put (by exact rfl) (sub_nil _)))
                replace H := ite_f q19 H
                refine cs_know (c := true) (congrArg Bool.not (dec_f q19)) 54 (by kernel_rfl) ?_
                refine cs_true (by kernel_rfl) ?_
                refine cs_seq ?_
                refine cs_region (l := [_]) ?_
                refine lv (.bool false) ?_
                refine ls_end ?_
                refine qn_then ?_
                refine cs_ret' ?_
                refine qr_then ?_
                obtain rfl := Option.some.inj H
                refine qr_res (rs := [_]) rfl (fun w' hs => ⟨[.bool false], (res_tmp (by kernel_rfl) (.nil)), (), rfl, hs.pick (ts := []) (cs := []) trivial (by decide)⟩)
              replace H := ite_f q18 H
              refine ls_know (c := true) (congrArg Bool.not (Bool.eq_false_iff.mpr q18)) 46 (by kernel_rfl) ?_
              refine lofx 40 46 false true ?_
              refine lofx 40 46 false true ?_
              refine lofx 40 46 false true ?_
              refine lofx 40 46 false true ?_
              refine lofx 40 46 false true ?_
              refine lofx 40 46 false true ?_
              refine lofx 40 46 false true ?_
              refine lv (.bool true) ?_
              refine ls_end ?_
              refine qn_then ?_
              refine cs_true (by kernel_rfl) ?_
              refine cs_seq ?_
              refine cs_region (l := [_]) ?_
              refine lv (.bool false) ?_
              refine ls_end ?_
              refine qn_then ?_
              refine cs_ret' ?_
              refine qr_then ?_
              obtain rfl := Option.some.inj H
              refine qr_res (rs := [_]) rfl (fun w' hs => ⟨[.bool false], (res_tmp (by kernel_rfl) (.nil)), (), rfl, hs.pick (ts := []) (cs := []) trivial (by decide)⟩)
            replace H := ite_f q17 H
            refine ls_know (c := true) (congrArg Bool.not (Bool.eq_false_iff.mpr q17)) 39 (by kernel_rfl) ?_
            refine lofx 33 39 false true ?_
            refine lofx 33 39 false true ?_
            refine lofx 33 39 false true ?_
            refine lofx 33 39 false true ?_
            refine lofx 33 39 false true ?_
            refine lv (.bool true) ?_
            refine lv (.bool true) ?_
            refine lofx 40 46 false true ?_
            refine lofx 40 46 false true ?_
            refine lofx 40 46 false true ?_
            refine lofx 40 46 false true ?_
            refine lofx 40 46 false true ?_
            refine lofx 40 46 false true ?_
            refine lofx 40 46 false true ?_
            refine lv (.bool true) ?_
            refine ls_end ?_
            refine qn_then ?_
            refine cs_true (by kernel_rfl) ?_
            refine cs_seq ?_
            refine cs_region (l := [_]) ?_
            refine lv (.bool false) ?_
            refine ls_end ?_
            refine qn_then ?_
            refine cs_ret' ?_
            refine qr_then ?_
            obtain rfl := Option.some.inj H
            refine qr_res (rs := [_]) rfl (fun w' hs => ⟨[.bool false], (res_tmp (by kernel_rfl) (.nil)), (), rfl, hs.pick (ts := []) (cs := []) trivial (by decide)⟩)
          replace H := ite_f q16 H
          refine ls_know (c := true) (congrArg Bool.not (dec_f q16)) 32 (by kernel_rfl) ?_
          refine lofx 26 32 false true ?_
          refine lofx 26 32 false true ?_
          refine lofx 26 32 false true ?_
          refine lofx 26 32 false true ?_
          refine lofx 26 32 false true ?_
          refine lv (.bool true) ?_
          refine lv (.bool true) ?_
          refine lofx 33 39 false true ?_
          refine lofx 33 39 false true ?_
          refine lofx 33 39 false true ?_
          refine lofx 33 39 false true ?_
          refine lofx 33 39 false true ?_
          refine lv (.bool true) ?_
          refine lv (.bool true) ?_
          refine lofx 40 46 false true ?_
          refine lofx 40 46 false true ?_
          refine lofx 40 46 false true ?_
          refine lofx 40 46 false true ?_
          refine lofx 40 46 false true ?_
          refine lofx 40 46 false true ?_
          refine lofx 40 46 false true ?_
          refine lv (.bool true) ?_
          refine ls_end ?_
          refine qn_then ?_
          refine cs_true (by kernel_rfl) ?_
          refine cs_seq ?_
          refine cs_region (l := [_]) ?_
          refine lv (.bool false) ?_
          refine ls_end ?_
          refine qn_then ?_
          refine cs_ret' ?_
          refine qr_then ?_
          obtain rfl := Option.some.inj H
          refine qr_res (rs := [_]) rfl (fun w' hs => ⟨[.bool false], (res_tmp (by kernel_rfl) (.nil)), (), rfl, hs.pick (ts := []) (cs := []) trivial (by decide)⟩)
        replace H := ite_f q15 H
        refine ls_know (c := true) (congrArg Bool.not (dec_f q15)) 25 (by kernel_rfl) ?_
        refine lofx 19 25 false true ?_
        refine lofx 19 25 false true ?_
        refine lofx 19 25 false true ?_
        refine lofx 19 25 false true ?_
        refine lofx 19 25 false true ?_
        refine lv (.bool true) ?_
        refine lv (.bool true) ?_
        refine lofx 26 32 false true ?_
        refine lofx 26 32 false true ?_
        refine lofx 26 32 false true ?_
        refine lofx 26 32 false true ?_
        refine lofx 26 32 false true ?_
        refine lv (.bool true) ?_
        refine lv (.bool true) ?_
        refine lofx 33 39 false true ?_
        refine lofx 33 39 false true ?_
        refine lofx 33 39 false true ?_
        refine lofx 33 39 false true ?_
        refine lofx 33 39 false true ?_
        refine lv (.bool true) ?_
        refine lv (.bool true) ?_
        refine lofx 40 46 false true ?_
        refine lofx 40 46 false true ?_
        refine lofx 40 46 false true ?_
        refine lofx 40 46 false true ?_
        refine lofx 40 46 false true ?_
        refine lofx 40 46 false true ?_
        refine lofx 40 46 false true ?_
        refine lv (.bool true) ?_
        refine ls_end ?_
        refine qn_then ?_
        refine cs_true (by kernel_rfl) ?_
        refine cs_seq ?_
        refine cs_region (l := [_]) ?_
        refine lv (.bool false) ?_
        refine ls_end ?_
        refine qn_then ?_
        refine cs_ret' ?_
        refine qr_then ?_
        obtain rfl := Option.some.inj H
        refine qr_res (rs := [_]) rfl (fun w' hs => ⟨[.bool false], (res_tmp (by kernel_rfl) (.nil)), (), rfl, hs.pick (ts := []) (cs := []) trivial (by decide)⟩)
      replace H := ite_f q14 H
      refine ls_know (c := true) (congrArg Bool.not (dec_f q14)) 18 (by kernel_rfl) ?_
      refine lofx 12 18 false true ?_
      refine lofx 12 18 false true ?_
      refine lofx 12 18 false true ?_
      refine lofx 12 18 false true ?_
      refine lofx 12 18 false true ?_
      refine lv (.bool true) ?_
      refine lv (.bool true) ?_
      refine lofx 19 25 false true ?_
      refine lofx 19 25 false true ?_
      refine lofx 19 25 false true ?_
      refine lofx 19 25 false true ?_
      refine lofx 19 25 false true ?_
      refine lv (.bool true) ?_
      refine lv (.bool true) ?_
      refine lofx 26 32 false true ?_
      refine lofx 26 32 false true ?_
      refine lofx 26 32 false true ?_
      refine lofx 26 32 false true ?_
      refine lofx 26 32 false true ?_
      refine lv (.bool true) ?_
      refine lv (.bool true) ?_
      refine lofx 33 39 false true ?_
      refine lofx 33 39 false true ?_
      refine lofx 33 39 false true ?_
      refine lofx 33 39 false true ?_
      refine lofx 33 39 false true ?_
      refine lv (.bool true) ?_
      refine lv (.bool true) ?_
      refine lofx 40 46 false true ?_
      refine lofx 40 46 false true ?_
      refine lofx 40 46 false true ?_
      refine lofx 40 46 false true ?_
      refine lofx 40 46 false true ?_
      refine lofx 40 46 false true ?_
      refine lofx 40 46 false true ?_
      refine lv (.bool true) ?_
      refine ls_end ?_
      refine qn_then ?_
      refine cs_true (by kernel_rfl) ?_
      refine cs_seq ?_
      refine cs_region (l := [_]) ?_
      refine lv (.bool false) ?_
      refine ls_end ?_
      refine qn_then ?_
      refine cs_ret' ?_
      refine qr_then ?_
      obtain rfl := Option.some.inj H
      refine qr_res (rs := [_]) rfl (fun w' hs => ⟨[.bool false], (res_tmp (by kernel_rfl) (.nil)), (), rfl, hs.pick (ts := []) (cs := []) trivial (by decide)⟩)
    replace H := ite_f q13 H
    refine ls_know (c := true) (congrArg Bool.not (dec_f q13)) 11 (by kernel_rfl) ?_
    refine lofx 5 11 false true ?_
    refine lofx 5 11 false true ?_
    refine lofx 5 11 false true ?_
    refine lofx 5 11 false true ?_
    refine lofx 5 11 false true ?_
    refine lv (.bool true) ?_
    refine lv (.bool true) ?_
    refine lofx 12 18 false true ?_
    refine lofx 12 18 false true ?_
    refine lofx 12 18 false true ?_
    refine lofx 12 18 false true ?_
    refine lofx 12 18 false true ?_
    refine lv (.bool true) ?_
    refine lv (.bool true) ?_
    refine lofx 19 25 false true ?_
    refine lofx 19 25 false true ?_
    refine lofx 19 25 false true ?_
    refine lofx 19 25 false true ?_
    refine lofx 19 25 false true ?_
    refine lv (.bool true) ?_
    refine lv (.bool true) ?_
    refine lofx 26 32 false true ?_
    refine lofx 26 32 false true ?_
    refine lofx 26 32 false true ?_
    refine lofx 26 32 false true ?_
    refine lofx 26 32 false true ?_
    refine lv (.bool true) ?_
    refine lv (.bool true) ?_
    refine lofx 33 39 false true ?_
    refine lofx 33 39 false true ?_
    refine lofx 33 39 false true ?_
    refine lofx 33 39 false true ?_
    refine lofx 33 39 false true ?_
    refine lv (.bool true) ?_
    refine lv (.bool true) ?_
    refine lofx 40 46 false true ?_
    refine lofx 40 46 false true ?_
    refine lofx 40 46 false true ?_
    refine lofx 40 46 false true ?_
    refine lofx 40 46 false true ?_
    refine lofx 40 46 false true ?_
    refine lofx 40 46 false true ?_
    refine lv (.bool true) ?_
    refine ls_end ?_
    refine qn_then ?_
    refine cs_true (by kernel_rfl) ?_
    refine cs_seq ?_
    refine cs_region (l := [_]) ?_
    refine lv (.bool false) ?_
    refine ls_end ?_
    refine qn_then ?_
    refine cs_ret' ?_
    refine qr_then ?_
    obtain rfl := Option.some.inj H
    refine qr_res (rs := [_]) rfl (fun w' hs => ⟨[.bool false], (res_tmp (by kernel_rfl) (.nil)), (), rfl, hs.pick (ts := []) (cs := []) trivial (by decide)⟩)
  rintro f S ⟨fr1, rfl, rfl, H⟩
  replace H : (shadowboxref36_Same.lo2 a0 a1 k (0 : Int)) = some r := H
  refine cs_seq ?_
  refine cs_seq ?_
  refine cs_region (l := [_]) ?_
  refine lv (.int .i64 (0 : Int)) ?_
  refine ls_end ?_
  refine qn_then ?_
  refine cs_block ?_
  refine cs_sub (sput (sput s0 0 (some (Ck.var 56 g1 (([Value.int .i64 a0.1] ++ ([Value.int .i64 a0.2.1] ++ ([Value.int .i64 a0.2.2.1] ++ ([Value.int .i64 a0.2.2.2.1] ++ ([Value.string a0.2.2.2.2.1] ++ ([Value.string a0.2.2.2.2.2.1] ++ [Value.slice A0_6 a0.2.2.2.2.2.2.length c0_6])))))))))) 1 (some (Ck.var 56 g2 (([Value.int .i64 a1.1] ++ ([Value.int .i64 a1.2.1] ++ ([Value.int .i64 a1.2.2.1] ++ ([Value.int .i64 a1.2.2.2.1] ++ ([Value.string a1.2.2.2.2.1] ++ ([Value.string a1.2.2.2.2.2.1] ++ [Value.slice A1_6 a1.2.2.2.2.2.2.length c1_6])))))))))) (sub_put (by exact rfl) (sub_put (by exact rfl) (sub_nil _))) ?_
  refine cs_loop (fun kk f S => ∃ (fR : Fr) (x5_2 : Int), f = upd (upd (upd fR 2 (.pointer (some ⟨g1, 0, none⟩))) 3 (.pointer (some ⟨g2, 0, none⟩))) 5 (.int .i64 x5_2) ∧ S = sput (sput s0 0 (some (Ck.var 56 g1 (([Value.int .i64 a0.1] ++ ([Value.int .i64 a0.2.1] ++ ([Value.int .i64 a0.2.2.1] ++ ([Value.int .i64 a0.2.2.2.1] ++ ([Value.string a0.2.2.2.2.1] ++ ([Value.string a0.2.2.2.2.2.1] ++ [Value.slice A0_6 a0.2.2.2.2.2.2.length c0_6])))))))))) 1 (some (Ck.var 56 g2 (([Value.int .i64 a1.1] ++ ([Value.int .i64 a1.2.1] ++ ([Value.int .i64 a1.2.2.1] ++ ([Value.int .i64 a1.2.2.2.1] ++ ([Value.string a1.2.2.2.2.1] ++ ([Value.string a1.2.2.2.2.2.1] ++ [Value.slice A1_6 a1.2.2.2.2.2.2.length c1_6]))))))))) ∧ shadowboxref36_Same.lo2 a0 a1 kk x5_2 = some r) k ?_ ?_ ?_
  · exact ⟨_, (0 : Int), fr_next (fr_next (fr_next (rfl) (by kernel_rfl)) (by kernel_rfl)) (by kernel_rfl), rfl, H⟩
  · rintro f S ⟨fr2, x5_2, rfl, rfl, H⟩; cases H
  rintro k2 f S ⟨fr2, x5_2, rfl, rfl, H⟩
  replace H : ((if x5_2 < (a0.2.2.2.2.2.2.length : Int) then (if 0 ≤ x5_2 then (if x5_2 < (a1.2.2.2.2.2.2.length : Int) then (if (((((a0.2.2.2.2.2.2).getD (x5_2).toNat (ByteArray.empty, ByteArray.empty)).1).toList == (((a1.2.2.2.2.2.2).getD (x5_2).toNat (ByteArray.empty, ByteArray.empty)).1).toList) && ((((a0.2.2.2.2.2.2).getD (x5_2).toNat (ByteArray.empty, ByteArray.empty)).2).toList == (((a1.2.2.2.2.2.2).getD (x5_2).toNat (ByteArray.empty, ByteArray.empty)).2).toList)) = true then (shadowboxref36_Same.lo2 a0 a1 k2) (IntKind.wrap .i64 (x5_2 + (1 : Int))) else some false) else none) else none) else some true)) = some r := H
  refine cs_seq ?_
  refine cs_seq ?_
  refine cs_region (l := [_, _, _, _, _]) ?_
  refine lv (.int .i64 x5_2) ?_
  refine lv (.pointer (some ⟨g1, (0 + 6), none⟩)) ?_
  refine ls_load (a0 := ⟨g1, (0 + 6), none⟩) (v := .slice A0_6 a0.2.2.2.2.2.2.length c0_6) (de := (TypeDesc.slice 67)) rfl rfl (by kernel_rfl) rfl (by kernel_rfl) (by kernel_rfl) (by kernel_rfl) (fun w hs => (hs.var (k := 0) (by exact rfl) (Sub4.trans (Sub4.all _) (Sub4.skip (n := 1) (len1 _) (Sub4.skip (n := 1) (len1 _) (Sub4.skip (n := 1) (len1 _) (Sub4.skip (n := 1) (len1 _) (Sub4.skip (n := 1) (len1 _) (Sub4.skip (n := 1) (len1 _) (Sub4.all _)))))))))) ?_
  refine lv (.int .i64 (a0.2.2.2.2.2.2.length : Int)) ?_
  refine lv (.bool (decide (x5_2 < (a0.2.2.2.2.2.2.length : Int)))) ?_
  refine ls_end ?_
  refine qn_then ?_
  by_cases q3 : x5_2 < (a0.2.2.2.2.2.2.length : Int)
  · replace H := ite_t q3 H
    refine cs_know (c := true) (dec_t q3) 59 (by kernel_rfl) ?_
    refine cs_true (by kernel_rfl) ?_
    refine cs_skip' ?_
    refine qn_then ?_
    refine cs_seq ?_
    refine cs_block ?_
    refine cs_seq ?_
    obtain ⟨s5_0, hs5_0⟩ := exv (.pointer (some ⟨g1, (0 + 6), none⟩))
    refine have_opa shadowboxref36_Same.tab3 2 0 (fun sp => sp 0 = s5_0) (fun sp on hA hon => ?_) (fun ops5_0 => ?_)
    · refine ⟨fun o ho vs Rs f' S' w hp hf hx hS hR hs => ?_⟩
      obtain rfl := Option.some.inj ho
      exact opv (.pointer (some ⟨g1, (0 + 6), none⟩)) hA hs5_0 hon (fr_next (rfl) ((hx 2 (by kernel_rfl)).trans (by kernel_rfl : (_ : Value) = .pointer (some ⟨g1, 0, none⟩))))
    obtain ⟨s5_1, hs5_1⟩ := exv (.slice A0_6 a0.2.2.2.2.2.2.length c0_6)
    refine have_opa shadowboxref36_Same.tab3 2 1 (fun sp => sp 1 = s5_1 ∧ sp 0 = s5_0) (fun sp on hA hon => ?_) (fun ops5_1 => ?_)
    · refine ⟨fun o ho vs Rs f' S' w hp hf hx hS hR hs => ?_⟩
      obtain rfl := Option.some.inj ho
      obtain ⟨hv0, hR0⟩ := (spe hA.2 hs5_0 (hp 0 (by kernel_rfl)))
      rw [hA.1, hs5_1]
      refine wn hon ?_
      have hF := fr_next (rfl) ((hf 0 62 (by kernel_rfl) rfl).trans hv0)
      refine ls_fr hF ?_
      refine ls_load (a0 := ⟨g1, (0 + 6), none⟩) (v := .slice A0_6 a0.2.2.2.2.2.2.length c0_6) (de := (TypeDesc.slice 67)) rfl rfl (by kernel_rfl) rfl (by kernel_rfl) (by kernel_rfl) (by kernel_rfl) (fun w1 hs1 => cell_step hs1.below.bw (hs.var (k := 0) ((hS 0 (by kernel_rfl)).trans (by exact rfl)) (Sub4.trans (Sub4.all _) (Sub4.skip (n := 1) (len1 _) (Sub4.skip (n := 1) (len1 _) (Sub4.skip (n := 1) (len1 _) (Sub4.skip (n := 1) (len1 _) (Sub4.skip (n := 1) (len1 _) (Sub4.skip (n := 1) (len1 _) (Sub4.all _)))))))))) ?_
      exact ls_fin s0 _ (congrArg (fun z => upd z 63 _) hF.symm) ⟨rfl, rfl⟩ (sub_nil _)
    obtain ⟨s5_2, hs5_2⟩ := exv (.int .i64 x5_2)
    refine have_opa shadowboxref36_Same.tab3 2 2 (fun sp => sp 2 = s5_2) (fun sp on hA hon => ?_) (fun ops5_2 => ?_)
    · refine ⟨fun o ho vs Rs f' S' w hp hf hx hS hR hs => ?_⟩
      obtain rfl := Option.some.inj ho
      exact opv (.int .i64 x5_2) hA hs5_2 hon (fr_next (rfl) ((hx 5 (by kernel_rfl)).trans (by kernel_rfl : (_ : Value) = .int .i64 x5_2)))
    obtain ⟨q6, H⟩ := ite_need H
    obtain ⟨ad7, hA8⟩ := ido_at (T := T67) (l := a0.2.2.2.2.2.2) (i := x5_2) R0_6 q6 q3
    obtain ⟨s5_3, hs5_3⟩ := exv (.pointer (some (ad7.add ((x5_2).toNat * 2))))
    refine have_opa shadowboxref36_Same.tab3 2 3 (fun sp => sp 3 = s5_3 ∧ sp 1 = s5_1 ∧ sp 2 = s5_2) (fun sp on hA hon => ?_) (fun ops5_3 => ?_)
    · refine ⟨fun o ho vs Rs f' S' w hp hf hx hS hR hs => ?_⟩
      obtain rfl := Option.some.inj ho
      obtain ⟨hv1, hR1⟩ := (spe hA.2.1 hs5_1 (hp 1 (by kernel_rfl)))
      obtain ⟨hv2, hR2⟩ := (spe hA.2.2 hs5_2 (hp 2 (by kernel_rfl)))
      rw [hA.1, hs5_3]
      refine wn hon ?_
      have hF := fr_next (fr_next (rfl) ((hf 1 63 (by kernel_rfl) rfl).trans hv1)) ((hf 2 64 (by kernel_rfl) rfl).trans hv2)
      refine ls_fr hF ?_
      refine ls_idxv T67 (A := A0_6) (c := c0_6) (l := a0.2.2.2.2.2.2) (k := .i64) (i := x5_2) (z := 2) (ad := ad7) rfl rfl (by kernel_rfl) hA8 rfl (by kernel_rfl) (by kernel_rfl) (by kernel_rfl) (by kernel_rfl) q6 q3 ?_
      exact ls_fin s0 _ (congrArg (fun z => upd z 65 _) hF.symm) ⟨rfl, rfl⟩ (sub_nil _)
    obtain ⟨s5_4, hs5_4⟩ := exv (.agg ⟨([Value.string (((a0.2.2.2.2.2.2).getD (x5_2).toNat (ByteArray.empty, ByteArray.empty)).1)] ++ [Value.string (((a0.2.2.2.2.2.2).getD (x5_2).toNat (ByteArray.empty, ByteArray.empty)).2)])⟩)
    refine have_opa shadowboxref36_Same.tab3 2 4 (fun sp => sp 4 = s5_4 ∧ sp 3 = s5_3) (fun sp on hA hon => ?_) (fun ops5_4 => ?_)
    · refine ⟨fun o ho vs Rs f' S' w hp hf hx hS hR hs => ?_⟩
      obtain rfl := Option.some.inj ho
      obtain ⟨hv3, hR3⟩ := (spe hA.2 hs5_3 (hp 3 (by kernel_rfl)))
      rw [hA.1, hs5_4]
      refine wn hon ?_
      have hF := fr_next (rfl) ((hf 3 65 (by kernel_rfl) rfl).trans hv3)
      refine ls_fr hF ?_
      refine ls_loadagg (a := (ad7.add ((x5_2).toNat * 2))) (sub := ([Value.string (((a0.2.2.2.2.2.2).getD (x5_2).toNat (ByteArray.empty, ByteArray.empty)).1)] ++ [Value.string (((a0.2.2.2.2.2.2).getD (x5_2).toNat (ByteArray.empty, ByteArray.empty)).2)])) rfl rfl (by kernel_rfl) rfl (by kernel_rfl) (by kernel_rfl) (by kernel_rfl) (len_app (len1 _) (len1 _)) (fun w1 hs1 => (Rd.step (hs.old R0_6) hs1.below.bw).part hA8 (em_sub T67 a0.2.2.2.2.2.2 (i := (x5_2).toNat) (by have h0 : (0 : Int) ≤ x5_2 := q6; have h1 : x5_2 < (a0.2.2.2.2.2.2.length : Int) := q3; omega))) ?_
      exact ls_fin s0 _ (congrArg (fun z => upd z 66 _) hF.symm) ⟨rfl, rfl⟩ (sub_nil _)
    obtain ⟨s5_5, hs5_5⟩ := exv (.pointer (some ⟨g2, (0 + 6), none⟩))
    refine have_opa shadowboxref36_Same.tab3 2 5 (fun sp => sp 5 = s5_5) (fun sp on hA hon => ?_) (fun ops5_5 => ?_)
    · refine ⟨fun o ho vs Rs f' S' w hp hf hx hS hR hs => ?_⟩
      obtain rfl := Option.some.inj ho
      exact opv (.pointer (some ⟨g2, (0 + 6), none⟩)) hA hs5_5 hon (fr_next (rfl) ((hx 3 (by kernel_rfl)).trans (by kernel_rfl : (_ : Value) = .pointer (some ⟨g2, 0, none⟩))))
    obtain ⟨s5_6, hs5_6⟩ := exv (.slice A1_6 a1.2.2.2.2.2.2.length c1_6)
    refine have_opa shadowboxref36_Same.tab3 2 6 (fun sp => sp 6 = s5_6 ∧ sp 5 = s5_5) (fun sp on hA hon => ?_) (fun ops5_6 => ?_)
    · refine ⟨fun o ho vs Rs f' S' w hp hf hx hS hR hs => ?_⟩
      obtain rfl := Option.some.inj ho
      obtain ⟨hv5, hR5⟩ := (spe hA.2 hs5_5 (hp 5 (by kernel_rfl)))
      rw [hA.1, hs5_6]
      refine wn hon ?_
      have hF := fr_next (rfl) ((hf 5 67 (by kernel_rfl) rfl).trans hv5)
      refine ls_fr hF ?_
      refine ls_load (a0 := ⟨g2, (0 + 6), none⟩) (v := .slice A1_6 a1.2.2.2.2.2.2.length c1_6) (de := (TypeDesc.slice 67)) rfl rfl (by kernel_rfl) rfl (by kernel_rfl) (by kernel_rfl) (by kernel_rfl) (fun w1 hs1 => cell_step hs1.below.bw (hs.var (k := 1) ((hS 1 (by kernel_rfl)).trans (by exact rfl)) (Sub4.trans (Sub4.all _) (Sub4.skip (n := 1) (len1 _) (Sub4.skip (n := 1) (len1 _) (Sub4.skip (n := 1) (len1 _) (Sub4.skip (n := 1) (len1 _) (Sub4.skip (n := 1) (len1 _) (Sub4.skip (n := 1) (len1 _) (Sub4.all _)))))))))) ?_
      exact ls_fin s0 _ (congrArg (fun z => upd z 68 _) hF.symm) ⟨rfl, rfl⟩ (sub_nil _)
    obtain ⟨s5_7, hs5_7⟩ := exv (.int .i64 x5_2)
    refine have_opa shadowboxref36_Same.tab3 2 7 (fun sp => sp 7 = s5_7) (fun sp on hA hon => ?_) (fun ops5_7 => ?_)
    · refine ⟨fun o ho vs Rs f' S' w hp hf hx hS hR hs => ?_⟩
      obtain rfl := Option.some.inj ho
      exact opv (.int .i64 x5_2) hA hs5_7 hon (fr_next (rfl) ((hx 5 (by kernel_rfl)).trans (by kernel_rfl : (_ : Value) = .int .i64 x5_2)))
    obtain ⟨q9, H⟩ := ite_need H
    obtain ⟨ad10, hA11⟩ := ido_at (T := T67) (l := a1.2.2.2.2.2.2) (i := x5_2) R1_6 q6 q9
    obtain ⟨s5_8, hs5_8⟩ := exv (.pointer (some (ad10.add ((x5_2).toNat * 2))))
    refine have_opa shadowboxref36_Same.tab3 2 8 (fun sp => sp 8 = s5_8 ∧ sp 6 = s5_6 ∧ sp 7 = s5_7) (fun sp on hA hon => ?_) (fun ops5_8 => ?_)
    · refine ⟨fun o ho vs Rs f' S' w hp hf hx hS hR hs => ?_⟩
      obtain rfl := Option.some.inj ho
      obtain ⟨hv6, hR6⟩ := (spe hA.2.1 hs5_6 (hp 6 (by kernel_rfl)))
      obtain ⟨hv7, hR7⟩ := (spe hA.2.2 hs5_7 (hp 7 (by kernel_rfl)))
      rw [hA.1, hs5_8]
      refine wn hon ?_
      have hF := fr_next (fr_next (rfl) ((hf 6 68 (by kernel_rfl) rfl).trans hv6)) ((hf 7 69 (by kernel_rfl) rfl).trans hv7)
      refine ls_fr hF ?_
      refine ls_idxv T67 (A := A1_6) (c := c1_6) (l := a1.2.2.2.2.2.2) (k := .i64) (i := x5_2) (z := 2) (ad := ad10) rfl rfl (by kernel_rfl) hA11 rfl (by kernel_rfl) (by kernel_rfl) (by kernel_rfl) (by kernel_rfl) q6 q9 ?_
      exact ls_fin s0 _ (congrArg (fun z => upd z 70 _) hF.symm) ⟨rfl, rfl⟩ (sub_nil _)
    obtain ⟨s5_9, hs5_9⟩ := exv (.agg ⟨([Value.string (((a1.2.2.2.2.2.2).getD (x5_2).toNat (ByteArray.empty, ByteArray.empty)).1)] ++ [Value.string (((a1.2.2.2.2.2.2).getD (x5_2).toNat (ByteArray.empty, ByteArray.empty)).2)])⟩)
    refine have_opa shadowboxref36_Same.tab3 2 9 (fun sp => sp 9 = s5_9 ∧ sp 8 = s5_8) (fun sp on hA hon => ?_) (fun ops5_9 => ?_)
    · refine ⟨fun o ho vs Rs f' S' w hp hf hx hS hR hs => ?_⟩
      obtain rfl := Option.some.inj ho
      obtain ⟨hv8, hR8⟩ := (spe hA.2 hs5_8 (hp 8 (by kernel_rfl)))
      rw [hA.1, hs5_9]
      refine wn hon ?_
      have hF := fr_next (rfl) ((hf 8 70 (by kernel_rfl) rfl).trans hv8)
      refine ls_fr hF ?_
      refine ls_loadagg (a := (ad10.add ((x5_2).toNat * 2))) (sub := ([Value.string (((a1.2.2.2.2.2.2).getD (x5_2).toNat (ByteArray.empty, ByteArray.empty)).1)] ++ [Value.string (((a1.2.2.2.2.2.2).getD (x5_2).toNat (ByteArray.empty, ByteArray.empty)).2)])) rfl rfl (by kernel_rfl) rfl (by kernel_rfl) (by kernel_rfl) (by kernel_rfl) (len_app (len1 _) (len1 _)) (fun w1 hs1 => (Rd.step (hs.old R1_6) hs1.below.bw).part hA11 (em_sub T67 a1.2.2.2.2.2.2 (i := (x5_2).toNat) (by have h0 : (0 : Int) ≤ x5_2 := q6; have h1 : x5_2 < (a1.2.2.2.2.2.2.length : Int) := q9; omega))) ?_
      exact ls_fin s0 _ (congrArg (fun z => upd z 71 _) hF.symm) ⟨rfl, rfl⟩ (sub_nil _)
    refine cs_draw shadowboxref36_Same.tab3 10 2 (spl [s5_0, s5_1, s5_2, s5_3, s5_4, s5_5, s5_6, s5_7, s5_8, s5_9]) (onl [true, true, true, true, true, true, true, true, true, true]) (by kernel_rfl) (by kernel_rfl) (by kernel_rfl) (by kernel_rfl) (rs := [_]) rfl (by kernel_rfl) (by kernel_rfl) (all_snoc (all_snoc (all_snoc (all_snoc (all_snoc (all_snoc (all_snoc (all_snoc (all_snoc (all_snoc (all_nil) (ops5_0 _ _ rfl rfl)) (ops5_1 _ _ ⟨rfl, rfl⟩ rfl)) (ops5_2 _ _ rfl rfl)) (ops5_3 _ _ ⟨rfl, rfl, rfl⟩ rfl)) (ops5_4 _ _ ⟨rfl, rfl⟩ rfl)) (ops5_5 _ _ rfl rfl)) (ops5_6 _ _ ⟨rfl, rfl⟩ rfl)) (ops5_7 _ _ rfl rfl)) (ops5_8 _ _ ⟨rfl, rfl, rfl⟩ rfl)) (ops5_9 _ _ ⟨rfl, rfl⟩ rfl)) ?_
    intro vs Rs f' S' hp hf hx hS hR
    obtain ⟨hv4, hR4⟩ := (spe rfl hs5_4 (hp 4 (by kernel_rfl)))
    obtain ⟨hv9, hR9⟩ := (spe rfl hs5_9 (hp 9 (by kernel_rfl)))
    refine ls_fr (F := upd (upd (upd (upd (upd f' 2 (.pointer (some ⟨g1, 0, none⟩))) 3 (.pointer (some ⟨g2, 0, none⟩))) 5 (.int .i64 x5_2)) 66 (.agg ⟨([Value.string (((a0.2.2.2.2.2.2).getD (x5_2).toNat (ByteArray.empty, ByteArray.empty)).1)] ++ [Value.string (((a0.2.2.2.2.2.2).getD (x5_2).toNat (ByteArray.empty, ByteArray.empty)).2)])⟩)) 71 (.agg ⟨([Value.string (((a1.2.2.2.2.2.2).getD (x5_2).toNat (ByteArray.empty, ByteArray.empty)).1)] ++ [Value.string (((a1.2.2.2.2.2.2).getD (x5_2).toNat (ByteArray.empty, ByteArray.empty)).2)])⟩)) (fr_next (fr_next (fr_next (fr_next (fr_next (rfl) ((hx 2 (by kernel_rfl)).trans (by kernel_rfl : (_ : Value) = .pointer (some ⟨g1, 0, none⟩)))) ((hx 3 (by kernel_rfl)).trans (by kernel_rfl : (_ : Value) = .pointer (some ⟨g2, 0, none⟩)))) ((hx 5 (by kernel_rfl)).trans (by kernel_rfl : (_ : Value) = .int .i64 x5_2))) ((hf 4 66 (by kernel_rfl) rfl).trans hv4)) ((hf 9 71 (by kernel_rfl) rfl).trans hv9)) ?_
    refine ls_sub (sput (sput s0 0 (some (Ck.var 56 g1 (([Value.int .i64 a0.1] ++ ([Value.int .i64 a0.2.1] ++ ([Value.int .i64 a0.2.2.1] ++ ([Value.int .i64 a0.2.2.2.1] ++ ([Value.string a0.2.2.2.2.1] ++ ([Value.string a0.2.2.2.2.2.1] ++ [Value.slice A0_6 a0.2.2.2.2.2.2.length c0_6])))))))))) 1 (some (Ck.var 56 g2 (([Value.int .i64 a1.1] ++ ([Value.int .i64 a1.2.1] ++ ([Value.int .i64 a1.2.2.1] ++ ([Value.int .i64 a1.2.2.2.1] ++ ([Value.string a1.2.2.2.2.1] ++ ([Value.string a1.2.2.2.2.2.1] ++ [Value.slice A1_6 a1.2.2.2.2.2.2.length c1_6])))))))))) (sub_put ((hS 1 (by kernel_rfl)).trans (by exact rfl)) (sub_put ((hS 0 (by kernel_rfl)).trans (by exact rfl)) (sub_nil _))) ?_
    refine ls_neq (xs := ([Value.string (((a0.2.2.2.2.2.2).getD (x5_2).toNat (ByteArray.empty, ByteArray.empty)).1)] ++ [Value.string (((a0.2.2.2.2.2.2).getD (x5_2).toNat (ByteArray.empty, ByteArray.empty)).2)])) (ys := ([Value.string (((a1.2.2.2.2.2.2).getD (x5_2).toNat (ByteArray.empty, ByteArray.empty)).1)] ++ [Value.string (((a1.2.2.2.2.2.2).getD (x5_2).toNat (ByteArray.empty, ByteArray.empty)).2)])) (r := (((((a0.2.2.2.2.2.2).getD (x5_2).toNat (ByteArray.empty, ByteArray.empty)).1).toList == (((a1.2.2.2.2.2.2).getD (x5_2).toNat (ByteArray.empty, ByteArray.empty)).1).toList) && ((((a0.2.2.2.2.2.2).getD (x5_2).toNat (ByteArray.empty, ByteArray.empty)).2).toList == (((a1.2.2.2.2.2.2).getD (x5_2).toNat (ByteArray.empty, ByteArray.empty)).2).toList))) rfl rfl (by kernel_rfl) rfl (by kernel_rfl) (by kernel_rfl) (by kernel_rfl) (eq_st (by kernel_rfl) (by kernel_rfl) (eqf_cons (ft := 9) (fo := 0) (by kernel_rfl) (part_one (by kernel_rfl) (Sub4.trans (Sub4.all _) (Sub4.head _ _))) (part_one (by kernel_rfl) (Sub4.trans (Sub4.all _) (Sub4.head _ _))) (eq_str (by kernel_rfl) _ _ _) (eqf_last (ft := 9) (fo := 1) (by kernel_rfl) (part_one (by kernel_rfl) (Sub4.trans (Sub4.all _) (Sub4.skip (n := 1) (len1 _) (Sub4.all _)))) (part_one (by kernel_rfl) (Sub4.trans (Sub4.all _) (Sub4.skip (n := 1) (len1 _) (Sub4.all _)))) (eq_str (by kernel_rfl) _ _ _) (by kernel_rfl)))) ?_
    refine ls_end ?_
    refine qn_then ?_
    by_cases q12 : (((((a0.2.2.2.2.2.2).getD (x5_2).toNat (ByteArray.empty, ByteArray.empty)).1).toList == (((a1.2.2.2.2.2.2).getD (x5_2).toNat (ByteArray.empty, ByteArray.empty)).1).toList) && ((((a0.2.2.2.2.2.2).getD (x5_2).toNat (ByteArray.empty, ByteArray.empty)).2).toList == (((a1.2.2.2.2.2.2).getD (x5_2).toNat (ByteArray.empty, ByteArray.empty)).2).toList)) = true
    · replace H := ite_t q12 H
      refine cs_know (c := false) (congrArg Bool.not (q12)) 72 (by kernel_rfl) ?_
      refine cs_false (by kernel_rfl) ?_
      refine cs_skip' ?_
      refine qn_block ?_
      refine qn_then ?_
      refine cs_region (l := [_, _, _]) ?_
      refine lv (.int .i64 x5_2) ?_
      refine lv (.int .i64 (IntKind.wrap .i64 (x5_2 + (1 : Int)))) ?_
      refine lv (.int .i64 (IntKind.wrap .i64 (x5_2 + (1 : Int)))) ?_
      refine ls_end ?_
      refine qn_again k2 (sput (sput s0 0 (some (Ck.var 56 g1 (([Value.int .i64 a0.1] ++ ([Value.int .i64 a0.2.1] ++ ([Value.int .i64 a0.2.2.1] ++ ([Value.int .i64 a0.2.2.2.1] ++ ([Value.string a0.2.2.2.2.1] ++ ([Value.string a0.2.2.2.2.2.1] ++ [Value.slice A0_6 a0.2.2.2.2.2.2.length c0_6])))))))))) 1 (some (Ck.var 56 g2 (([Value.int .i64 a1.1] ++ ([Value.int .i64 a1.2.1] ++ ([Value.int .i64 a1.2.2.1] ++ ([Value.int .i64 a1.2.2.2.1] ++ ([Value.string a1.2.2.2.2.1] ++ ([Value.string a1.2.2.2.2.2.1] ++ [Value.slice A1_6 a1.2.2.2.2.2.2.length c1_6])))))))))) (Nat.le_refl _) ⟨_, (IntKind.wrap .i64 (x5_2 + (1 : Int))), fr_next (fr_next (fr_next (rfl) (by kernel_rfl)) (by kernel_rfl)) (by kernel_rfl), rfl, H⟩ (sub_put (by exact rfl) (sub_put (by exact rfl) (sub_nil _)))
    replace H := ite_f q12 H
    refine cs_know (c := true) (congrArg Bool.not (Bool.eq_false_iff.mpr q12)) 72 (by kernel_rfl) ?_
    refine cs_true (by kernel_rfl) ?_
    refine cs_seq ?_
    refine cs_region (l := [_]) ?_
    refine lv (.bool false) ?_
    refine ls_end ?_
    refine qn_then ?_
    refine cs_ret' ?_
    refine qr_block ?_
    refine qr_then ?_
    refine qr_then ?_
    refine qr_block ?_
    refine qr_then ?_
    obtain rfl := Option.some.inj H
    refine qr_res (rs := [_]) rfl (fun w' hs => ⟨[.bool false], (res_tmp (by kernel_rfl) (.nil)), (), rfl, hs.pick (ts := []) (cs := []) trivial (by decide)⟩)
  replace H := ite_f q3 H
  refine cs_know (c := false) (dec_f q3) 59 (by kernel_rfl) ?_
  refine cs_false (by kernel_rfl) ?_
  refine cs_exit' ?_
  refine qx_then ?_
  refine qx_then ?_
  refine qx_same ?_
  refine qn_then ?_
  refine cs_seq ?_
  refine cs_region (l := [_]) ?_
  refine lv (.bool true) ?_
  refine ls_end ?_
  refine qn_then ?_
  refine cs_ret' ?_
  obtain rfl := Option.some.inj H
  refine qr_res (rs := [_]) rfl (fun w' hs => ⟨[.bool true], (res_tmp (by kernel_rfl) (.nil)), (), rfl, hs.pick (ts := []) (cs := []) trivial (by decide)⟩)

end Go.Proofs.Ythhhkphbhlafbaa.G
