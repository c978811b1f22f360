/- Printed by a program of this session (sz.py): plain functions, and walks that show that the code comes to them; no condition. -/
import Derived.Test.YtnjijflgafghmaaProg
import Derived.Test.YtnjijflgafghmaaTy
import Derived.Test.YtnjijflgafghmaaG0
import Derived.Test.YtnjijflgafghmaaG1
import Derived.Test.YtnjijflgafghmaaG2
import Derived.Test.YtnjijflgafghmaaG3
set_option linter.unusedVariables false
set_option linter.unusedSimpArgs false
namespace Go.Proofs.Ytnjijflgafghmaa.G
open Go Go.RowKit Go.Proofs.Ytnjijflgafghmaa.Sx

/-! ### shadowbox/shadowboxlaw08.LabelChooses: function 8 -/
def shadowboxlaw08_LabelChooses.jo1 (k : Nat) (l0 : List Int) (l1 : List Int) : Option (Bool) := (label_Choose.f k l0 l1).bind fun t1 => (shadowboxref08_Choose.f k l0 l1).bind fun t5 => (label_Seal.f k ((3 : Int), ((0 : Int), (0 : Int), (0 : Int), (0 : Int), (vrep 32 (0 : Int))), (5 : Int))).bind fun t9 => (label_Choose.f k ([] : List Int) t9.1).bind fun t12 => (if ((t1.1.1 == t5.1.1) && (((t1.1.2.1.1 == t5.1.2.1.1) && ((t1.1.2.1.2.1 == t5.1.2.1.2.1) && ((t1.1.2.1.2.2.1 == t5.1.2.1.2.2.1) && ((t1.1.2.1.2.2.2.1 == t5.1.2.1.2.2.2.1) && (t1.1.2.1.2.2.2.2.1 == t5.1.2.1.2.2.2.2.1))))) && (t1.1.2.2 == t5.1.2.2))) = true then (if (t1.2 == t5.2) = true then (if t12.2 = true then some (decide (t12.1.2.2 = (5 : Int))) else some false) else some false) else some false)
def shadowboxlaw08_LabelChooses.f (k : Nat) (l0 : List Int) (l1 : List Int) : Option (Bool) :=
  lt (IntKind.wrap .i64 ((l0.length : Int) + (l1.length : Int))) fun y19 => (if y19 > (1100 : Int) then some true else (shadowboxlaw08_LabelChooses.jo1 k l0 l1))
set_option maxRecDepth 100000 in
set_option maxHeartbeats 4000000 in
theorem shadowboxlaw08_LabelChooses.calls (k : Nat) (A0 : Option Addr) (c0 : Nat) (l0 : List Int) (A1 : Option Addr) (c1 : Nat) (l1 : List Int) (r : Bool) (b : Bs) (hs0 : St b (stl []) b.w) (R0 : Ro b A0 (em (Ec.int 5 .u8) l0)) (C0 : l0.length ≤ c0) (R1 : Ro b A1 (em (Ec.int 5 .u8) l1)) (C1 : l1.length ≤ c1) (H : shadowboxlaw08_LabelChooses.f k l0 l1 = some r) :
    Calls Try.prog 8 #[.slice A0 l0.length c0, .slice A1 l1.length c1] b.w fun e w' => ∃ x : Unit, e = .returned (.bool r) ∧ St b (stl []) w' := by
  unfold shadowboxlaw08_LabelChooses.f at H
  refine enterb (n := 59) Try.func8 rfl (by kernel_rfl) (by kernel_rfl) hs0 ?_
  refine cs_sub (s0) (sub_nil _) ?_
  refine cs_seq ?_
  refine cs_region (l := [_]) ?_
  refine ls_val (v := .bool false) rfl rfl (by kernel_rfl) (fun w => by kernel_rfl) ?_
  refine ls_end ?_
  refine qn_then ?_
  refine cs_cut (fun f S => ∃ (fR : Fr), f = upd (upd fR 0 (.slice A0 l0.length c0)) 1 (.slice A1 l1.length c1) ∧ S = s0 ∧ shadowboxlaw08_LabelChooses.jo1 k l0 l1 = some r) ?_ ?_
  · skip
    refine cs_seq ?_
    refine cs_region (l := [_, _, _, _, _, _]) ?_
    refine ls_val (v := .slice A0 l0.length c0) rfl rfl (by kernel_rfl) (fun w => by kernel_rfl) ?_
    refine ls_val (v := .int .i64 (l0.length : Int)) rfl rfl (by kernel_rfl) (fun w => by kernel_rfl) ?_
    refine ls_val (v := .slice A1 l1.length c1) rfl rfl (by kernel_rfl) (fun w => by kernel_rfl) ?_
    refine ls_val (v := .int .i64 (l1.length : Int)) rfl rfl (by kernel_rfl) (fun w => by kernel_rfl) ?_
    obtain ⟨y19, hy20, H⟩ := lt_some H
    refine ls_val (v := .int .i64 (IntKind.wrap .i64 ((l0.length : Int) + (l1.length : Int)))) rfl rfl (by kernel_rfl) (fun w => by kernel_rfl) ?_
    refine ls_ren 18 (v := .int .i64 (IntKind.wrap .i64 ((l0.length : Int) + (l1.length : Int)))) (v' := .int .i64 y19) (by kernel_rfl) (by rw [hy20]) ?_
    refine ls_val (v := .bool (decide (y19 > (1100 : Int)))) rfl rfl (by kernel_rfl) (fun w => by kernel_rfl) ?_
    refine ls_end ?_
    refine qn_then ?_
    by_cases q21 : y19 > (1100 : Int)
    · replace H := ite_t q21 H
      refine cs_know (c := true) (dec_t q21) 19 (by kernel_rfl) ?_
      refine cs_true (by kernel_rfl) ?_
      refine cs_seq ?_
      refine cs_region (l := [_]) ?_
      refine ls_val (v := .bool true) rfl rfl (by kernel_rfl) (fun w => by kernel_rfl) ?_
      refine ls_end ?_
      refine qn_then ?_
      refine cs_ret' ?_
      refine qr_then ?_
      obtain rfl := Option.some.inj H
      refine qr_res (rs := [_]) rfl (fun w' hs => ⟨[.bool true], (res_tmp (by kernel_rfl) (.nil)), (), rfl, hs.pick (ts := []) (cs := []) trivial (by decide)⟩)
    · replace H := ite_f q21 H
      refine cs_know (c := false) (dec_f q21) 19 (by kernel_rfl) ?_
      refine cs_false (by kernel_rfl) ?_
      refine cs_skip' ?_
      refine qn_meet (s0) ⟨_, fr_next (fr_next (rfl) (by kernel_rfl)) (by kernel_rfl), rfl, H⟩ (sub_nil _)
  · rintro f S ⟨fr1, rfl, rfl, H⟩
    replace H : ((label_Choose.f k l0 l1).bind fun t1 => (shadowboxref08_Choose.f k l0 l1).bind fun t5 => (label_Seal.f k ((3 : Int), ((0 : Int), (0 : Int), (0 : Int), (0 : Int), (vrep 32 (0 : Int))), (5 : Int))).bind fun t9 => (label_Choose.f k ([] : List Int) t9.1).bind fun t12 => (if ((t1.1.1 == t5.1.1) && (((t1.1.2.1.1 == t5.1.2.1.1) && ((t1.1.2.1.2.1 == t5.1.2.1.2.1) && ((t1.1.2.1.2.2.1 == t5.1.2.1.2.2.1) && ((t1.1.2.1.2.2.2.1 == t5.1.2.1.2.2.2.1) && (t1.1.2.1.2.2.2.2.1 == t5.1.2.1.2.2.2.2.1))))) && (t1.1.2.2 == t5.1.2.2))) = true then (if (t1.2 == t5.2) = true then (if t12.2 = true then some (decide (t12.1.2.2 = (5 : Int))) else some false) else some false) else some false)) = some r := H
    refine cs_seq ?_
    refine cs_region (l := [_, _, _, _, _, _, _, _, _]) ?_
    refine ls_val (v := .slice A0 l0.length c0) rfl rfl (by kernel_rfl) (fun w => by kernel_rfl) ?_
    refine ls_val (v := .slice A1 l1.length c1) rfl rfl (by kernel_rfl) (fun w => by kernel_rfl) ?_
    obtain ⟨t1, hc2, H⟩ := bind_some H
    refine ls_callb (fid := 28) (vals := #[.slice A0 l0.length c0, .slice A1 l1.length c1]) (X := Unit) (fun x => .tuple #[.agg ⟨([Value.int .i64 t1.1.1] ++ (([Value.int .i64 t1.1.2.1.1] ++ ([Value.int .i64 t1.1.2.1.2.1] ++ ([Value.int .i64 t1.1.2.1.2.2.1] ++ ([Value.int .u32 t1.1.2.1.2.2.2.1] ++ en (Value.int .u8) t1.1.2.1.2.2.2.2.1)))) ++ [Value.int .i64 t1.1.2.2]))⟩, .bool t1.2]) (fun x => stl []) [] [] [] [] 0 rfl rfl (by kernel_rfl) (fun w => by kernel_rfl) trivial trivial (by decide) (fun w hs hb => label_Choose.calls k A0 c0 l0 A1 c1 l1 t1 (lent b w [] []) hb (hs.ro R0 _ _) C0 (hs.ro R1 _ _) C1 hc2) ?_
    intro x3
    refine ls_val (v := .tuple #[.agg ⟨([Value.int .i64 t1.1.1] ++ (([Value.int .i64 t1.1.2.1.1] ++ ([Value.int .i64 t1.1.2.1.2.1] ++ ([Value.int .i64 t1.1.2.1.2.2.1] ++ ([Value.int .u32 t1.1.2.1.2.2.2.1] ++ en (Value.int .u8) t1.1.2.1.2.2.2.2.1)))) ++ [Value.int .i64 t1.1.2.2]))⟩, .bool t1.2]) rfl rfl (by kernel_rfl) (fun w => by kernel_rfl) ?_
    refine ls_val (v := .agg ⟨([Value.int .i64 t1.1.1] ++ (([Value.int .i64 t1.1.2.1.1] ++ ([Value.int .i64 t1.1.2.1.2.1] ++ ([Value.int .i64 t1.1.2.1.2.2.1] ++ ([Value.int .u32 t1.1.2.1.2.2.2.1] ++ en (Value.int .u8) t1.1.2.1.2.2.2.2.1)))) ++ [Value.int .i64 t1.1.2.2]))⟩) rfl rfl (by kernel_rfl) (fun w => by kernel_rfl) ?_
    refine ls_val (v := .bool t1.2) rfl rfl (by kernel_rfl) (fun w => by kernel_rfl) ?_
    refine ls_new rfl rfl (by kernel_rfl) 0 (fun g => .pointer (some ⟨g, 0, none⟩)) (.cells ⟨([Value.int .i64 (0 : Int)] ++ (([Value.int .i64 (0 : Int)] ++ ([Value.int .i64 (0 : Int)] ++ ([Value.int .i64 (0 : Int)] ++ ([Value.int .u32 (0 : Int)] ++ en (Value.int .u8) (vrep 32 (0 : Int)).1)))) ++ [Value.int .i64 (0 : Int)]))⟩ 42) (fun w => by kernel_rfl) ?_
    intro g4
    refine ls_storec (g := g4) (off := 0) (v := .agg ⟨([Value.int .i64 t1.1.1] ++ (([Value.int .i64 t1.1.2.1.1] ++ ([Value.int .i64 t1.1.2.1.2.1] ++ ([Value.int .i64 t1.1.2.1.2.2.1] ++ ([Value.int .u32 t1.1.2.1.2.2.2.1] ++ en (Value.int .u8) t1.1.2.1.2.2.2.2.1)))) ++ [Value.int .i64 t1.1.2.2]))⟩) (vs := ([Value.int .i64 t1.1.1] ++ (([Value.int .i64 t1.1.2.1.1] ++ ([Value.int .i64 t1.1.2.1.2.1] ++ ([Value.int .i64 t1.1.2.1.2.2.1] ++ ([Value.int .u32 t1.1.2.1.2.2.2.1] ++ en (Value.int .u8) t1.1.2.1.2.2.2.2.1)))) ++ [Value.int .i64 t1.1.2.2]))) (cs := ([Value.int .i64 (0 : Int)] ++ (([Value.int .i64 (0 : Int)] ++ ([Value.int .i64 (0 : Int)] ++ ([Value.int .i64 (0 : Int)] ++ ([Value.int .u32 (0 : Int)] ++ en (Value.int .u8) (vrep 32 (0 : Int)).1)))) ++ [Value.int .i64 (0 : Int)]))) (ty := 42) 0 rfl rfl rfl (by kernel_rfl) (by kernel_rfl) (by kernel_rfl) (by exact rfl) (by kernel_rfl) (len_app (len1 _) (len_app (len_app (len1 _) (len_app (len1 _) (len_app (len1 _) (len_app (len1 _) (len_en _ t1.1.2.1.2.2.2.2))))) (len1 _))) (one_app (one_cons rfl one_nil) (one_app (one_app (one_cons rfl one_nil) (one_app (one_cons rfl one_nil) (one_app (one_cons rfl one_nil) (one_app (one_cons rfl one_nil) (one_en (fun _ => rfl) _))))) (one_cons rfl one_nil))) (hl_of (Sub4.all _) (len_eq (len_app (len1 _) (len_app (len_app (len1 _) (len_app (len1 _) (len_app (len1 _) (len_app (len1 _) (len_en _ t1.1.2.1.2.2.2.2))))) (len1 _))) (len_app (len1 _) (len_app (len_app (len1 _) (len_app (len1 _) (len_app (len1 _) (len_app (len1 _) (len_en _ (vrep 32 (0 : Int))))))) (len1 _))))) (cs' := ([Value.int .i64 t1.1.1] ++ (([Value.int .i64 t1.1.2.1.1] ++ ([Value.int .i64 t1.1.2.1.2.1] ++ ([Value.int .i64 t1.1.2.1.2.2.1] ++ ([Value.int .u32 t1.1.2.1.2.2.2.1] ++ en (Value.int .u8) t1.1.2.1.2.2.2.2.1)))) ++ [Value.int .i64 t1.1.2.2]))) (splc_all (len_eq (len_app (len1 _) (len_app (len_app (len1 _) (len_app (len1 _) (len_app (len1 _) (len_app (len1 _) (len_en _ t1.1.2.1.2.2.2.2))))) (len1 _))) (len_app (len1 _) (len_app (len_app (len1 _) (len_app (len1 _) (len_app (len1 _) (len_app (len1 _) (len_en _ (vrep 32 (0 : Int))))))) (len1 _))))) ?_
    refine ls_val (v := .bool t1.2) rfl rfl (by kernel_rfl) (fun w => by kernel_rfl) ?_
    refine ls_end ?_
    refine qn_then ?_
    refine cs_seq ?_
    refine cs_region (l := [_, _, _, _, _, _, _, _, _]) ?_
    refine ls_val (v := .slice A0 l0.length c0) rfl rfl (by kernel_rfl) (fun w => by kernel_rfl) ?_
    refine ls_val (v := .slice A1 l1.length c1) rfl rfl (by kernel_rfl) (fun w => by kernel_rfl) ?_
    obtain ⟨t5, hc6, H⟩ := bind_some H
    refine ls_callb (fid := 29) (vals := #[.slice A0 l0.length c0, .slice A1 l1.length c1]) (X := Unit) (fun x => .tuple #[.agg ⟨([Value.int .i64 t5.1.1] ++ (([Value.int .i64 t5.1.2.1.1] ++ ([Value.int .i64 t5.1.2.1.2.1] ++ ([Value.int .i64 t5.1.2.1.2.2.1] ++ ([Value.int .u32 t5.1.2.1.2.2.2.1] ++ en (Value.int .u8) t5.1.2.1.2.2.2.2.1)))) ++ [Value.int .i64 t5.1.2.2]))⟩, .bool t5.2]) (fun x => stl []) [] [] [] [] 1 rfl rfl (by kernel_rfl) (fun w => by kernel_rfl) trivial trivial (by decide) (fun w hs hb => shadowboxref08_Choose.calls k A0 c0 l0 A1 c1 l1 t5 (lent b w [] []) hb (hs.ro R0 _ _) C0 (hs.ro R1 _ _) C1 hc6) ?_
    intro x7
    refine ls_val (v := .tuple #[.agg ⟨([Value.int .i64 t5.1.1] ++ (([Value.int .i64 t5.1.2.1.1] ++ ([Value.int .i64 t5.1.2.1.2.1] ++ ([Value.int .i64 t5.1.2.1.2.2.1] ++ ([Value.int .u32 t5.1.2.1.2.2.2.1] ++ en (Value.int .u8) t5.1.2.1.2.2.2.2.1)))) ++ [Value.int .i64 t5.1.2.2]))⟩, .bool t5.2]) rfl rfl (by kernel_rfl) (fun w => by kernel_rfl) ?_
    refine ls_val (v := .agg ⟨([Value.int .i64 t5.1.1] ++ (([Value.int .i64 t5.1.2.1.1] ++ ([Value.int .i64 t5.1.2.1.2.1] ++ ([Value.int .i64 t5.1.2.1.2.2.1] ++ ([Value.int .u32 t5.1.2.1.2.2.2.1] ++ en (Value.int .u8) t5.1.2.1.2.2.2.2.1)))) ++ [Value.int .i64 t5.1.2.2]))⟩) rfl rfl (by kernel_rfl) (fun w => by kernel_rfl) ?_
    refine ls_val (v := .bool t5.2) rfl rfl (by kernel_rfl) (fun w => by kernel_rfl) ?_
    refine ls_new rfl rfl (by kernel_rfl) 1 (fun g => .pointer (some ⟨g, 0, none⟩)) (.cells ⟨([Value.int .i64 (0 : Int)] ++ (([Value.int .i64 (0 : Int)] ++ ([Value.int .i64 (0 : Int)] ++ ([Value.int .i64 (0 : Int)] ++ ([Value.int .u32 (0 : Int)] ++ en (Value.int .u8) (vrep 32 (0 : Int)).1)))) ++ [Value.int .i64 (0 : Int)]))⟩ 47) (fun w => by kernel_rfl) ?_
    intro g8
    refine ls_storec (g := g8) (off := 0) (v := .agg ⟨([Value.int .i64 t5.1.1] ++ (([Value.int .i64 t5.1.2.1.1] ++ ([Value.int .i64 t5.1.2.1.2.1] ++ ([Value.int .i64 t5.1.2.1.2.2.1] ++ ([Value.int .u32 t5.1.2.1.2.2.2.1] ++ en (Value.int .u8) t5.1.2.1.2.2.2.2.1)))) ++ [Value.int .i64 t5.1.2.2]))⟩) (vs := ([Value.int .i64 t5.1.1] ++ (([Value.int .i64 t5.1.2.1.1] ++ ([Value.int .i64 t5.1.2.1.2.1] ++ ([Value.int .i64 t5.1.2.1.2.2.1] ++ ([Value.int .u32 t5.1.2.1.2.2.2.1] ++ en (Value.int .u8) t5.1.2.1.2.2.2.2.1)))) ++ [Value.int .i64 t5.1.2.2]))) (cs := ([Value.int .i64 (0 : Int)] ++ (([Value.int .i64 (0 : Int)] ++ ([Value.int .i64 (0 : Int)] ++ ([Value.int .i64 (0 : Int)] ++ ([Value.int .u32 (0 : Int)] ++ en (Value.int .u8) (vrep 32 (0 : Int)).1)))) ++ [Value.int .i64 (0 : Int)]))) (ty := 47) 1 rfl rfl rfl (by kernel_rfl) (by kernel_rfl) (by kernel_rfl) (by exact rfl) (by kernel_rfl) (len_app (len1 _) (len_app (len_app (len1 _) (len_app (len1 _) (len_app (len1 _) (len_app (len1 _) (len_en _ t5.1.2.1.2.2.2.2))))) (len1 _))) (one_app (one_cons rfl one_nil) (one_app (one_app (one_cons rfl one_nil) (one_app (one_cons rfl one_nil) (one_app (one_cons rfl one_nil) (one_app (one_cons rfl one_nil) (one_en (fun _ => rfl) _))))) (one_cons rfl one_nil))) (hl_of (Sub4.all _) (len_eq (len_app (len1 _) (len_app (len_app (len1 _) (len_app (len1 _) (len_app (len1 _) (len_app (len1 _) (len_en _ t5.1.2.1.2.2.2.2))))) (len1 _))) (len_app (len1 _) (len_app (len_app (len1 _) (len_app (len1 _) (len_app (len1 _) (len_app (len1 _) (len_en _ (vrep 32 (0 : Int))))))) (len1 _))))) (cs' := ([Value.int .i64 t5.1.1] ++ (([Value.int .i64 t5.1.2.1.1] ++ ([Value.int .i64 t5.1.2.1.2.1] ++ ([Value.int .i64 t5.1.2.1.2.2.1] ++ ([Value.int .u32 t5.1.2.1.2.2.2.1] ++ en (Value.int .u8) t5.1.2.1.2.2.2.2.1)))) ++ [Value.int .i64 t5.1.2.2]))) (splc_all (len_eq (len_app (len1 _) (len_app (len_app (len1 _) (len_app (len1 _) (len_app (len1 _) (len_app (len1 _) (len_en _ t5.1.2.1.2.2.2.2))))) (len1 _))) (len_app (len1 _) (len_app (len_app (len1 _) (len_app (len1 _) (len_app (len1 _) (len_app (len1 _) (len_en _ (vrep 32 (0 : Int))))))) (len1 _))))) ?_
    refine ls_val (v := .bool t5.2) rfl rfl (by kernel_rfl) (fun w => by kernel_rfl) ?_
    refine ls_end ?_
    refine qn_then ?_
    refine cs_seq ?_
    refine cs_region (l := [_, _, _, _, _, _, _, _, _]) ?_
    refine ls_build (ps := [(0, .int .i64 (3 : Int)), (2, .int .i64 (5 : Int))]) (pl := #[(0, 1), (1, 36), (37, 1)]) (zv := .agg ⟨([Value.int .i64 (0 : Int)] ++ (([Value.int .i64 (0 : Int)] ++ ([Value.int .i64 (0 : Int)] ++ ([Value.int .i64 (0 : Int)] ++ ([Value.int .u32 (0 : Int)] ++ en (Value.int .u8) (vrep 32 (0 : Int)).1)))) ++ [Value.int .i64 (0 : Int)]))⟩) (zc := ([Value.int .i64 (0 : Int)] ++ (([Value.int .i64 (0 : Int)] ++ ([Value.int .i64 (0 : Int)] ++ ([Value.int .i64 (0 : Int)] ++ ([Value.int .u32 (0 : Int)] ++ en (Value.int .u8) (vrep 32 (0 : Int)).1)))) ++ [Value.int .i64 (0 : Int)]))) (r := ([Value.int .i64 (3 : Int)] ++ (([Value.int .i64 (0 : Int)] ++ ([Value.int .i64 (0 : Int)] ++ ([Value.int .i64 (0 : Int)] ++ ([Value.int .u32 (0 : Int)] ++ en (Value.int .u8) (vrep 32 (0 : Int)).1)))) ++ [Value.int .i64 (5 : Int)]))) rfl rfl (by kernel_rfl) rfl (by kernel_rfl) (by kernel_rfl) (fun w => by kernel_rfl) (fun w => by kernel_rfl) rfl (fill_cons (vs := [Value.int .i64 (3 : Int)]) (cs' := ([Value.int .i64 (3 : Int)] ++ (([Value.int .i64 (0 : Int)] ++ ([Value.int .i64 (0 : Int)] ++ ([Value.int .i64 (0 : Int)] ++ ([Value.int .u32 (0 : Int)] ++ en (Value.int .u8) (vrep 32 (0 : Int)).1)))) ++ [Value.int .i64 (0 : Int)]))) (off := 0) (size := 1) rfl (by kernel_rfl) (len1 _) (le_of_len (len_app (len1 _) (len_app (len_app (len1 _) (len_app (len1 _) (len_app (len1 _) (len_app (len1 _) (len_en _ (vrep 32 (0 : Int))))))) (len1 _))) (by decide)) (splc_in (Sub4.all _) (splc_head (len_eq (len1 _) (len1 _))) (splc_all (len_eq (len_app (len1 _) (len_app (len_app (len1 _) (len_app (len1 _) (len_app (len1 _) (len_app (len1 _) (len_en _ (vrep 32 (0 : Int))))))) (len1 _))) (len_app (len1 _) (len_app (len_app (len1 _) (len_app (len1 _) (len_app (len1 _) (len_app (len1 _) (len_en _ (vrep 32 (0 : Int))))))) (len1 _))))) (hl_of (Sub4.head _ _) (len_eq (len1 _) (len1 _)))) (fill_cons (vs := [Value.int .i64 (5 : Int)]) (cs' := ([Value.int .i64 (3 : Int)] ++ (([Value.int .i64 (0 : Int)] ++ ([Value.int .i64 (0 : Int)] ++ ([Value.int .i64 (0 : Int)] ++ ([Value.int .u32 (0 : Int)] ++ en (Value.int .u8) (vrep 32 (0 : Int)).1)))) ++ [Value.int .i64 (5 : Int)]))) (off := 37) (size := 1) rfl (by kernel_rfl) (len1 _) (le_of_len (len_app (len1 _) (len_app (len_app (len1 _) (len_app (len1 _) (len_app (len1 _) (len_app (len1 _) (len_en _ (vrep 32 (0 : Int))))))) (len1 _))) (by decide)) (splc_in (Sub4.all _) (splc_skip (n := 1) (len1 _) (splc_skip (n := 36) (len_app (len1 _) (len_app (len1 _) (len_app (len1 _) (len_app (len1 _) (len_en _ (vrep 32 (0 : Int))))))) (splc_all (len_eq (len1 _) (len1 _))))) (splc_all (len_eq (len_app (len1 _) (len_app (len_app (len1 _) (len_app (len1 _) (len_app (len1 _) (len_app (len1 _) (len_en _ (vrep 32 (0 : Int))))))) (len1 _))) (len_app (len1 _) (len_app (len_app (len1 _) (len_app (len1 _) (len_app (len1 _) (len_app (len1 _) (len_en _ (vrep 32 (0 : Int))))))) (len1 _))))) (hl_of (Sub4.skip (n := 1) (len1 _) (Sub4.skip (n := 36) (len_app (len1 _) (len_app (len1 _) (len_app (len1 _) (len_app (len1 _) (len_en _ (vrep 32 (0 : Int))))))) (Sub4.all _))) (len_eq (len1 _) (len1 _)))) fill_nil)) ?_
    obtain ⟨t9, hc10, H⟩ := bind_some H
    refine ls_callb (fid := 24) (vals := #[.agg ⟨([Value.int .i64 (3 : Int)] ++ (([Value.int .i64 (0 : Int)] ++ ([Value.int .i64 (0 : Int)] ++ ([Value.int .i64 (0 : Int)] ++ ([Value.int .u32 (0 : Int)] ++ en (Value.int .u8) (vrep 32 (0 : Int)).1)))) ++ [Value.int .i64 (5 : Int)]))⟩]) (X := (Option Addr × Nat)) (fun x => .tuple #[.slice x.1 t9.1.length x.2, .int .i64 t9.2.1, .int .i64 t9.2.2]) (fun x => stl [Ck.sl (Ec.int 5 .u8) x.1 x.2 t9.1]) [] [] [] [] 2 rfl rfl (by kernel_rfl) (fun w => by kernel_rfl) trivial trivial (by decide) (fun w hs hb => label_Seal.calls k ((3 : Int), ((0 : Int), (0 : Int), (0 : Int), (0 : Int), (vrep 32 (0 : Int))), (5 : Int)) t9 (lent b w [] []) hb  hc10) ?_
    intro x11
    refine ls_val (v := .tuple #[.slice x11.1 t9.1.length x11.2, .int .i64 t9.2.1, .int .i64 t9.2.2]) rfl rfl (by kernel_rfl) (fun w => by kernel_rfl) ?_
    refine ls_val (v := .slice x11.1 t9.1.length x11.2) rfl rfl (by kernel_rfl) (fun w => by kernel_rfl) ?_
    refine ls_val (v := .int .i64 t9.2.1) rfl rfl (by kernel_rfl) (fun w => by kernel_rfl) ?_
    refine ls_val (v := .int .i64 t9.2.2) rfl rfl (by kernel_rfl) (fun w => by kernel_rfl) ?_
    refine ls_val (v := .slice x11.1 t9.1.length x11.2) rfl rfl (by kernel_rfl) (fun w => by kernel_rfl) ?_
    refine ls_val (v := .int .i64 t9.2.1) rfl rfl (by kernel_rfl) (fun w => by kernel_rfl) ?_
    refine ls_val (v := .int .i64 t9.2.2) rfl rfl (by kernel_rfl) (fun w => by kernel_rfl) ?_
    refine ls_end ?_
    refine qn_then ?_
    refine cs_seq ?_
    refine cs_region (l := [_, _, _, _, _, _, _, _]) ?_
    refine ls_val (v := .slice x11.1 t9.1.length x11.2) rfl rfl (by kernel_rfl) (fun w => by kernel_rfl) ?_
    obtain ⟨t12, hc13, H⟩ := bind_some H
    refine ls_callb (fid := 28) (vals := #[.slice none ([] : List Int).length 0, .slice x11.1 t9.1.length x11.2]) (X := Unit) (fun x => .tuple #[.agg ⟨([Value.int .i64 t12.1.1] ++ (([Value.int .i64 t12.1.2.1.1] ++ ([Value.int .i64 t12.1.2.1.2.1] ++ ([Value.int .i64 t12.1.2.1.2.2.1] ++ ([Value.int .u32 t12.1.2.1.2.2.2.1] ++ en (Value.int .u8) t12.1.2.1.2.2.2.2.1)))) ++ [Value.int .i64 t12.1.2.2]))⟩, .bool t12.2]) (fun x => stl []) [] [2] [] [Ck.sl (Ec.int 5 .u8) x11.1 x11.2 t9.1] 3 rfl rfl (by kernel_rfl) (fun w => by kernel_rfl) trivial ⟨by exact rfl, trivial⟩ (by decide) (fun w hs hb => label_Choose.calls k none 0 ([] : List Int) x11.1 x11.2 t9.1 t12 (lent b w [] [Ck.sl (Ec.int 5 .u8) x11.1 x11.2 t9.1]) hb (Ro.nil _ _) (Nat.le_refl 0) (hs.ror (k := 2) (by exact rfl) (.head _)) (hs.cap (k := 2) (by exact rfl)) hc13) ?_
    intro x14
    refine ls_val (v := .tuple #[.agg ⟨([Value.int .i64 t12.1.1] ++ (([Value.int .i64 t12.1.2.1.1] ++ ([Value.int .i64 t12.1.2.1.2.1] ++ ([Value.int .i64 t12.1.2.1.2.2.1] ++ ([Value.int .u32 t12.1.2.1.2.2.2.1] ++ en (Value.int .u8) t12.1.2.1.2.2.2.2.1)))) ++ [Value.int .i64 t12.1.2.2]))⟩, .bool t12.2]) rfl rfl (by kernel_rfl) (fun w => by kernel_rfl) ?_
    refine ls_val (v := .agg ⟨([Value.int .i64 t12.1.1] ++ (([Value.int .i64 t12.1.2.1.1] ++ ([Value.int .i64 t12.1.2.1.2.1] ++ ([Value.int .i64 t12.1.2.1.2.2.1] ++ ([Value.int .u32 t12.1.2.1.2.2.2.1] ++ en (Value.int .u8) t12.1.2.1.2.2.2.2.1)))) ++ [Value.int .i64 t12.1.2.2]))⟩) rfl rfl (by kernel_rfl) (fun w => by kernel_rfl) ?_
    refine ls_val (v := .bool t12.2) rfl rfl (by kernel_rfl) (fun w => by kernel_rfl) ?_
    refine ls_new rfl rfl (by kernel_rfl) 3 (fun g => .pointer (some ⟨g, 0, none⟩)) (.cells ⟨([Value.int .i64 (0 : Int)] ++ (([Value.int .i64 (0 : Int)] ++ ([Value.int .i64 (0 : Int)] ++ ([Value.int .i64 (0 : Int)] ++ ([Value.int .u32 (0 : Int)] ++ en (Value.int .u8) (vrep 32 (0 : Int)).1)))) ++ [Value.int .i64 (0 : Int)]))⟩ 42) (fun w => by kernel_rfl) ?_
    intro g15
    refine ls_storec (g := g15) (off := 0) (v := .agg ⟨([Value.int .i64 t12.1.1] ++ (([Value.int .i64 t12.1.2.1.1] ++ ([Value.int .i64 t12.1.2.1.2.1] ++ ([Value.int .i64 t12.1.2.1.2.2.1] ++ ([Value.int .u32 t12.1.2.1.2.2.2.1] ++ en (Value.int .u8) t12.1.2.1.2.2.2.2.1)))) ++ [Value.int .i64 t12.1.2.2]))⟩) (vs := ([Value.int .i64 t12.1.1] ++ (([Value.int .i64 t12.1.2.1.1] ++ ([Value.int .i64 t12.1.2.1.2.1] ++ ([Value.int .i64 t12.1.2.1.2.2.1] ++ ([Value.int .u32 t12.1.2.1.2.2.2.1] ++ en (Value.int .u8) t12.1.2.1.2.2.2.2.1)))) ++ [Value.int .i64 t12.1.2.2]))) (cs := ([Value.int .i64 (0 : Int)] ++ (([Value.int .i64 (0 : Int)] ++ ([Value.int .i64 (0 : Int)] ++ ([Value.int .i64 (0 : Int)] ++ ([Value.int .u32 (0 : Int)] ++ en (Value.int .u8) (vrep 32 (0 : Int)).1)))) ++ [Value.int .i64 (0 : Int)]))) (ty := 42) 3 rfl rfl rfl (by kernel_rfl) (by kernel_rfl) (by kernel_rfl) (by exact rfl) (by kernel_rfl) (len_app (len1 _) (len_app (len_app (len1 _) (len_app (len1 _) (len_app (len1 _) (len_app (len1 _) (len_en _ t12.1.2.1.2.2.2.2))))) (len1 _))) (one_app (one_cons rfl one_nil) (one_app (one_app (one_cons rfl one_nil) (one_app (one_cons rfl one_nil) (one_app (one_cons rfl one_nil) (one_app (one_cons rfl one_nil) (one_en (fun _ => rfl) _))))) (one_cons rfl one_nil))) (hl_of (Sub4.all _) (len_eq (len_app (len1 _) (len_app (len_app (len1 _) (len_app (len1 _) (len_app (len1 _) (len_app (len1 _) (len_en _ t12.1.2.1.2.2.2.2))))) (len1 _))) (len_app (len1 _) (len_app (len_app (len1 _) (len_app (len1 _) (len_app (len1 _) (len_app (len1 _) (len_en _ (vrep 32 (0 : Int))))))) (len1 _))))) (cs' := ([Value.int .i64 t12.1.1] ++ (([Value.int .i64 t12.1.2.1.1] ++ ([Value.int .i64 t12.1.2.1.2.1] ++ ([Value.int .i64 t12.1.2.1.2.2.1] ++ ([Value.int .u32 t12.1.2.1.2.2.2.1] ++ en (Value.int .u8) t12.1.2.1.2.2.2.2.1)))) ++ [Value.int .i64 t12.1.2.2]))) (splc_all (len_eq (len_app (len1 _) (len_app (len_app (len1 _) (len_app (len1 _) (len_app (len1 _) (len_app (len1 _) (len_en _ t12.1.2.1.2.2.2.2))))) (len1 _))) (len_app (len1 _) (len_app (len_app (len1 _) (len_app (len1 _) (len_app (len1 _) (len_app (len1 _) (len_en _ (vrep 32 (0 : Int))))))) (len1 _))))) ?_
    refine ls_val (v := .bool t12.2) rfl rfl (by kernel_rfl) (fun w => by kernel_rfl) ?_
    refine ls_end ?_
    refine qn_then ?_
    refine cs_seq ?_
    refine cs_region (l := [_, _, _, _, _, _, _, _, _, _, _, _, _, _, _, _, _]) ?_
    refine ls_loadagg (a := ⟨g4, 0, none⟩) (sub := ([Value.int .i64 t1.1.1] ++ (([Value.int .i64 t1.1.2.1.1] ++ ([Value.int .i64 t1.1.2.1.2.1] ++ ([Value.int .i64 t1.1.2.1.2.2.1] ++ ([Value.int .u32 t1.1.2.1.2.2.2.1] ++ en (Value.int .u8) t1.1.2.1.2.2.2.2.1)))) ++ [Value.int .i64 t1.1.2.2]))) rfl rfl (by kernel_rfl) rfl (by kernel_rfl) (by kernel_rfl) (by kernel_rfl) (len_app (len1 _) (len_app (len_app (len1 _) (len_app (len1 _) (len_app (len1 _) (len_app (len1 _) (len_en _ t1.1.2.1.2.2.2.2))))) (len1 _))) (fun w hs => (hs.vars (k := 0) (by exact rfl) (Sub4.all _))) ?_
    refine ls_loadagg (a := ⟨g8, 0, none⟩) (sub := ([Value.int .i64 t5.1.1] ++ (([Value.int .i64 t5.1.2.1.1] ++ ([Value.int .i64 t5.1.2.1.2.1] ++ ([Value.int .i64 t5.1.2.1.2.2.1] ++ ([Value.int .u32 t5.1.2.1.2.2.2.1] ++ en (Value.int .u8) t5.1.2.1.2.2.2.2.1)))) ++ [Value.int .i64 t5.1.2.2]))) rfl rfl (by kernel_rfl) rfl (by kernel_rfl) (by kernel_rfl) (by kernel_rfl) (len_app (len1 _) (len_app (len_app (len1 _) (len_app (len1 _) (len_app (len1 _) (len_app (len1 _) (len_en _ t5.1.2.1.2.2.2.2))))) (len1 _))) (fun w hs => (hs.vars (k := 1) (by exact rfl) (Sub4.all _))) ?_
    refine ls_eql (xs := ([Value.int .i64 t1.1.1] ++ (([Value.int .i64 t1.1.2.1.1] ++ ([Value.int .i64 t1.1.2.1.2.1] ++ ([Value.int .i64 t1.1.2.1.2.2.1] ++ ([Value.int .u32 t1.1.2.1.2.2.2.1] ++ en (Value.int .u8) t1.1.2.1.2.2.2.2.1)))) ++ [Value.int .i64 t1.1.2.2]))) (ys := ([Value.int .i64 t5.1.1] ++ (([Value.int .i64 t5.1.2.1.1] ++ ([Value.int .i64 t5.1.2.1.2.1] ++ ([Value.int .i64 t5.1.2.1.2.2.1] ++ ([Value.int .u32 t5.1.2.1.2.2.2.1] ++ en (Value.int .u8) t5.1.2.1.2.2.2.2.1)))) ++ [Value.int .i64 t5.1.2.2]))) (r := ((t1.1.1 == t5.1.1) && (((t1.1.2.1.1 == t5.1.2.1.1) && ((t1.1.2.1.2.1 == t5.1.2.1.2.1) && ((t1.1.2.1.2.2.1 == t5.1.2.1.2.2.1) && ((t1.1.2.1.2.2.2.1 == t5.1.2.1.2.2.2.1) && (t1.1.2.1.2.2.2.2.1 == t5.1.2.1.2.2.2.2.1))))) && (t1.1.2.2 == t5.1.2.2)))) rfl rfl (by kernel_rfl) rfl (by kernel_rfl) (by kernel_rfl) (by kernel_rfl) (eq_st (by kernel_rfl) (by kernel_rfl) (eqf_cons (ft := 3) (fo := 0) (by kernel_rfl) (part_one (by kernel_rfl) (Sub4.trans (Sub4.all _) (Sub4.head _ _))) (part_one (by kernel_rfl) (Sub4.trans (Sub4.all _) (Sub4.head _ _))) (eq_int (by kernel_rfl) _ _ _) (eqf_cons (ft := 25) (fo := 1) (by kernel_rfl) (part_agg (by kernel_rfl) (by kernel_rfl) (len_app (len1 _) (len_app (len1 _) (len_app (len1 _) (len_app (len1 _) (len_en _ t1.1.2.1.2.2.2.2))))) (Sub4.trans (Sub4.all _) (Sub4.skip (n := 1) (len1 _) (Sub4.head _ _)))) (part_agg (by kernel_rfl) (by kernel_rfl) (len_app (len1 _) (len_app (len1 _) (len_app (len1 _) (len_app (len1 _) (len_en _ t5.1.2.1.2.2.2.2))))) (Sub4.trans (Sub4.all _) (Sub4.skip (n := 1) (len1 _) (Sub4.head _ _)))) (eq_st (by kernel_rfl) (by kernel_rfl) (eqf_cons (ft := 3) (fo := 0) (by kernel_rfl) (part_one (by kernel_rfl) (Sub4.trans (Sub4.all _) (Sub4.head _ _))) (part_one (by kernel_rfl) (Sub4.trans (Sub4.all _) (Sub4.head _ _))) (eq_int (by kernel_rfl) _ _ _) (eqf_cons (ft := 3) (fo := 1) (by kernel_rfl) (part_one (by kernel_rfl) (Sub4.trans (Sub4.all _) (Sub4.skip (n := 1) (len1 _) (Sub4.head _ _)))) (part_one (by kernel_rfl) (Sub4.trans (Sub4.all _) (Sub4.skip (n := 1) (len1 _) (Sub4.head _ _)))) (eq_int (by kernel_rfl) _ _ _) (eqf_cons (ft := 3) (fo := 2) (by kernel_rfl) (part_one (by kernel_rfl) (Sub4.trans (Sub4.all _) (Sub4.skip (n := 1) (len1 _) (Sub4.skip (n := 1) (len1 _) (Sub4.head _ _))))) (part_one (by kernel_rfl) (Sub4.trans (Sub4.all _) (Sub4.skip (n := 1) (len1 _) (Sub4.skip (n := 1) (len1 _) (Sub4.head _ _))))) (eq_int (by kernel_rfl) _ _ _) (eqf_cons (ft := 22) (fo := 3) (by kernel_rfl) (part_one (by kernel_rfl) (Sub4.trans (Sub4.all _) (Sub4.skip (n := 1) (len1 _) (Sub4.skip (n := 1) (len1 _) (Sub4.skip (n := 1) (len1 _) (Sub4.head _ _)))))) (part_one (by kernel_rfl) (Sub4.trans (Sub4.all _) (Sub4.skip (n := 1) (len1 _) (Sub4.skip (n := 1) (len1 _) (Sub4.skip (n := 1) (len1 _) (Sub4.head _ _)))))) (eq_int (by kernel_rfl) _ _ _) (eqf_last (ft := 23) (fo := 4) (by kernel_rfl) (part_agg (by kernel_rfl) (by kernel_rfl) (len_en _ t1.1.2.1.2.2.2.2) (Sub4.trans (Sub4.all _) (Sub4.skip (n := 1) (len1 _) (Sub4.skip (n := 1) (len1 _) (Sub4.skip (n := 1) (len1 _) (Sub4.skip (n := 1) (len1 _) (Sub4.all _))))))) (part_agg (by kernel_rfl) (by kernel_rfl) (len_en _ t5.1.2.1.2.2.2.2) (Sub4.trans (Sub4.all _) (Sub4.skip (n := 1) (len1 _) (Sub4.skip (n := 1) (len1 _) (Sub4.skip (n := 1) (len1 _) (Sub4.skip (n := 1) (len1 _) (Sub4.all _))))))) (eq_ints (e := 5) (ln := 32) (by kernel_rfl) (by kernel_rfl) (by kernel_rfl) t1.1.2.1.2.2.2.2.2 t5.1.2.1.2.2.2.2.2 _) (by kernel_rfl))))))) (eqf_last (ft := 3) (fo := 37) (by kernel_rfl) (part_one (by kernel_rfl) (Sub4.trans (Sub4.all _) (Sub4.skip (n := 1) (len1 _) (Sub4.skip (n := 36) (len_app (len1 _) (len_app (len1 _) (len_app (len1 _) (len_app (len1 _) (len_en _ t1.1.2.1.2.2.2.2))))) (Sub4.all _))))) (part_one (by kernel_rfl) (Sub4.trans (Sub4.all _) (Sub4.skip (n := 1) (len1 _) (Sub4.skip (n := 36) (len_app (len1 _) (len_app (len1 _) (len_app (len1 _) (len_app (len1 _) (len_en _ t5.1.2.1.2.2.2.2))))) (Sub4.all _))))) (eq_int (by kernel_rfl) _ _ _) (by kernel_rfl))))) ?_
    refine ls_val (v := .bool ((t1.1.1 == t5.1.1) && (((t1.1.2.1.1 == t5.1.2.1.1) && ((t1.1.2.1.2.1 == t5.1.2.1.2.1) && ((t1.1.2.1.2.2.1 == t5.1.2.1.2.2.1) && ((t1.1.2.1.2.2.2.1 == t5.1.2.1.2.2.2.1) && (t1.1.2.1.2.2.2.2.1 == t5.1.2.1.2.2.2.2.1))))) && (t1.1.2.2 == t5.1.2.2)))) rfl rfl (by kernel_rfl) (fun w => by kernel_rfl) ?_
    by_cases q16 : ((t1.1.1 == t5.1.1) && (((t1.1.2.1.1 == t5.1.2.1.1) && ((t1.1.2.1.2.1 == t5.1.2.1.2.1) && ((t1.1.2.1.2.2.1 == t5.1.2.1.2.2.1) && ((t1.1.2.1.2.2.2.1 == t5.1.2.1.2.2.2.1) && (t1.1.2.1.2.2.2.2.1 == t5.1.2.1.2.2.2.2.1))))) && (t1.1.2.2 == t5.1.2.2))) = true
    · replace H := ite_t q16 H
      refine ls_know (c := true) (q16) 46 (by kernel_rfl) ?_
      refine ls_on (j := 3) (t := 46) (b := true) rfl rfl (by kernel_rfl) (by kernel_rfl) ?_
      refine ls_val (v := .bool t1.2) rfl rfl (by kernel_rfl) (fun w => by kernel_rfl) ?_
      refine ls_on (j := 3) (t := 46) (b := true) rfl rfl (by kernel_rfl) (by kernel_rfl) ?_
      refine ls_val (v := .bool t5.2) rfl rfl (by kernel_rfl) (fun w => by kernel_rfl) ?_
      refine ls_on (j := 3) (t := 46) (b := true) rfl rfl (by kernel_rfl) (by kernel_rfl) ?_
      refine ls_val (v := .bool (t1.2 == t5.2)) rfl rfl (by kernel_rfl) (fun w => by kernel_rfl) ?_
      refine ls_val (v := .bool (t1.2 == t5.2)) rfl rfl (by kernel_rfl) (fun w => by kernel_rfl) ?_
      refine ls_val (v := .bool (t1.2 == t5.2)) rfl rfl (by kernel_rfl) (fun w => by kernel_rfl) ?_
      by_cases q17 : (t1.2 == t5.2) = true
      · replace H := ite_t q17 H
        refine ls_know (c := true) (q17) 51 (by kernel_rfl) ?_
        refine ls_on (j := 8) (t := 51) (b := true) rfl rfl (by kernel_rfl) (by kernel_rfl) ?_
        refine ls_val (v := .bool t12.2) rfl rfl (by kernel_rfl) (fun w => by kernel_rfl) ?_
        refine ls_val (v := .bool t12.2) rfl rfl (by kernel_rfl) (fun w => by kernel_rfl) ?_
        refine ls_val (v := .bool t12.2) rfl rfl (by kernel_rfl) (fun w => by kernel_rfl) ?_
        by_cases q18 : t12.2 = true
        · replace H := ite_t q18 H
          refine ls_know (c := true) (q18) 54 (by kernel_rfl) ?_
          refine ls_on (j := 11) (t := 54) (b := true) rfl rfl (by kernel_rfl) (by kernel_rfl) ?_
          refine ls_val (v := .pointer (some ⟨g15, (0 + 37), none⟩)) rfl rfl (by kernel_rfl) (fun w => by kernel_rfl) ?_
          refine ls_on (j := 11) (t := 54) (b := true) rfl rfl (by kernel_rfl) (by kernel_rfl) ?_
          refine ls_load (a0 := ⟨g15, (0 + 37), none⟩) (v := .int .i64 t12.1.2.2) (de := (TypeDesc.int .i64)) rfl rfl (by kernel_rfl) rfl (by kernel_rfl) (by kernel_rfl) (by kernel_rfl) (fun w hs => (hs.var (k := 3) (by exact rfl) (Sub4.trans (Sub4.all _) (Sub4.skip (n := 1) (len1 _) (Sub4.skip (n := 36) (len_app (len1 _) (len_app (len1 _) (len_app (len1 _) (len_app (len1 _) (len_en _ t12.1.2.1.2.2.2.2))))) (Sub4.all _)))))) ?_
          refine ls_on (j := 11) (t := 54) (b := true) rfl rfl (by kernel_rfl) (by kernel_rfl) ?_
          refine ls_val (v := .bool (decide (t12.1.2.2 = (5 : Int)))) rfl rfl (by kernel_rfl) (fun w => by kernel_rfl) ?_
          refine ls_val (v := .bool (decide (t12.1.2.2 = (5 : Int)))) rfl rfl (by kernel_rfl) (fun w => by kernel_rfl) ?_
          refine ls_val (v := .bool (decide (t12.1.2.2 = (5 : Int)))) rfl rfl (by kernel_rfl) (fun w => by kernel_rfl) ?_
          refine ls_end ?_
          refine qn_then ?_
          refine cs_ret' ?_
          obtain rfl := Option.some.inj H
          refine qr_res (rs := [_]) rfl (fun w' hs => ⟨[.bool (decide (t12.1.2.2 = (5 : Int)))], (res_tmp (by kernel_rfl) (.nil)), (), rfl, hs.pick (ts := []) (cs := []) trivial (by decide)⟩)
        · replace H := ite_f q18 H
          refine ls_know (c := false) (Bool.eq_false_iff.mpr q18) 54 (by kernel_rfl) ?_
          refine ls_off (j := 11) (t := 54) (b := true) (c := false) rfl rfl (by kernel_rfl) (by kernel_rfl) rfl rfl (by kernel_rfl) ?_
          refine ls_off (j := 11) (t := 54) (b := true) (c := false) rfl rfl (by kernel_rfl) (by kernel_rfl) rfl rfl (by kernel_rfl) ?_
          refine ls_off (j := 11) (t := 54) (b := true) (c := false) rfl rfl (by kernel_rfl) (by kernel_rfl) rfl rfl (by kernel_rfl) ?_
          refine ls_val (v := .bool false) rfl rfl (by kernel_rfl) (fun w => by kernel_rfl) ?_
          refine ls_val (v := .bool false) rfl rfl (by kernel_rfl) (fun w => by kernel_rfl) ?_
          refine ls_end ?_
          refine qn_then ?_
          refine cs_ret' ?_
          obtain rfl := Option.some.inj H
          refine qr_res (rs := [_]) rfl (fun w' hs => ⟨[.bool false], (res_tmp (by kernel_rfl) (.nil)), (), rfl, hs.pick (ts := []) (cs := []) trivial (by decide)⟩)
      · replace H := ite_f q17 H
        refine ls_know (c := false) (Bool.eq_false_iff.mpr q17) 51 (by kernel_rfl) ?_
        refine ls_off (j := 8) (t := 51) (b := true) (c := false) rfl rfl (by kernel_rfl) (by kernel_rfl) rfl rfl (by kernel_rfl) ?_
        refine ls_val (v := .bool false) rfl rfl (by kernel_rfl) (fun w => by kernel_rfl) ?_
        refine ls_val (v := .bool false) rfl rfl (by kernel_rfl) (fun w => by kernel_rfl) ?_
        refine ls_off (j := 11) (t := 54) (b := true) (c := false) rfl rfl (by kernel_rfl) (by kernel_rfl) rfl rfl (by kernel_rfl) ?_
        refine ls_off (j := 11) (t := 54) (b := true) (c := false) rfl rfl (by kernel_rfl) (by kernel_rfl) rfl rfl (by kernel_rfl) ?_
        refine ls_off (j := 11) (t := 54) (b := true) (c := false) rfl rfl (by kernel_rfl) (by kernel_rfl) rfl rfl (by kernel_rfl) ?_
        refine ls_val (v := .bool false) rfl rfl (by kernel_rfl) (fun w => by kernel_rfl) ?_
        refine ls_val (v := .bool false) rfl rfl (by kernel_rfl) (fun w => by kernel_rfl) ?_
        refine ls_end ?_
        refine qn_then ?_
        refine cs_ret' ?_
        obtain rfl := Option.some.inj H
        refine qr_res (rs := [_]) rfl (fun w' hs => ⟨[.bool false], (res_tmp (by kernel_rfl) (.nil)), (), rfl, hs.pick (ts := []) (cs := []) trivial (by decide)⟩)
    · replace H := ite_f q16 H
      refine ls_know (c := false) (Bool.eq_false_iff.mpr q16) 46 (by kernel_rfl) ?_
      refine ls_off (j := 3) (t := 46) (b := true) (c := false) rfl rfl (by kernel_rfl) (by kernel_rfl) rfl rfl (by kernel_rfl) ?_
      refine ls_off (j := 3) (t := 46) (b := true) (c := false) rfl rfl (by kernel_rfl) (by kernel_rfl) rfl rfl (by kernel_rfl) ?_
      refine ls_off (j := 3) (t := 46) (b := true) (c := false) rfl rfl (by kernel_rfl) (by kernel_rfl) rfl rfl (by kernel_rfl) ?_
      refine ls_val (v := .bool false) rfl rfl (by kernel_rfl) (fun w => by kernel_rfl) ?_
      refine ls_val (v := .bool false) rfl rfl (by kernel_rfl) (fun w => by kernel_rfl) ?_
      refine ls_off (j := 8) (t := 51) (b := true) (c := false) rfl rfl (by kernel_rfl) (by kernel_rfl) rfl rfl (by kernel_rfl) ?_
      refine ls_val (v := .bool false) rfl rfl (by kernel_rfl) (fun w => by kernel_rfl) ?_
      refine ls_val (v := .bool false) rfl rfl (by kernel_rfl) (fun w => by kernel_rfl) ?_
      refine ls_off (j := 11) (t := 54) (b := true) (c := false) rfl rfl (by kernel_rfl) (by kernel_rfl) rfl rfl (by kernel_rfl) ?_
      refine ls_off (j := 11) (t := 54) (b := true) (c := false) rfl rfl (by kernel_rfl) (by kernel_rfl) rfl rfl (by kernel_rfl) ?_
      refine ls_off (j := 11) (t := 54) (b := true) (c := false) rfl rfl (by kernel_rfl) (by kernel_rfl) rfl rfl (by kernel_rfl) ?_
      refine ls_val (v := .bool false) rfl rfl (by kernel_rfl) (fun w => by kernel_rfl) ?_
      refine ls_val (v := .bool false) rfl rfl (by kernel_rfl) (fun w => by kernel_rfl) ?_
      refine ls_end ?_
      refine qn_then ?_
      refine cs_ret' ?_
      obtain rfl := Option.some.inj H
      refine qr_res (rs := [_]) rfl (fun w' hs => ⟨[.bool false], (res_tmp (by kernel_rfl) (.nil)), (), rfl, hs.pick (ts := []) (cs := []) trivial (by decide)⟩)

end Go.Proofs.Ytnjijflgafghmaa.G
