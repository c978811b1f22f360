/- Printed by a program of this session (sz.py): plain functions, and walks that show that the code comes to them; no condition. -/
import Derived.Test.YtnjijflgafghmaaProg
import Derived.Test.YtnjijflgafghmaaTy
import Derived.Test.YtnjijflgafghmaaG0
import Derived.Test.YtnjijflgafghmaaG1
import Derived.Test.YtnjijflgafghmaaG2
set_option linter.unusedVariables false
set_option linter.unusedSimpArgs false
namespace Go.Proofs.Ytnjijflgafghmaa.G
open Go Go.RowKit Go.Proofs.Ytnjijflgafghmaa.Sx

/-! ### shadowbox/shadowboxref08.Seal: function 25 -/
def shadowboxref08_Seal.lo2 (a0 : (Int × (Int × Int × Int × Int × (Vc Int 32)) × Int)) : Nat → (List Int) → Option ((List Int) × Int × Int)
  | 0, _ => none
  | k2 + 1, l5_2 => (if (l5_2.length : Int) < (500 : Int) then (if (l5_2.length + ([(0 : Int)]).length) * 1 ≤ 140737488355328 then (shadowboxref08_Seal.lo2 a0 k2) (l5_2 ++ [(0 : Int)]) else none) else (shadowboxref02_Go.f k2 (0 : Int) l5_2).bind fun t19 => (shadowboxref01_Fixed.f k2 l5_2 (4 : Int) (IntKind.wrap .u64 t19)).bind fun t22 => (shadowboxref01_Fixed.f k2 t22 (8 : Int) (IntKind.wrap .u64 a0.1)).bind fun t25 => some (t25, Int.tmod a0.1 (2 : Int), (0 : Int)))
def shadowboxref08_Seal.jo1 (k : Nat) (a0 : (Int × (Int × Int × Int × Int × (Vc Int 32)) × Int)) : Option ((List Int) × Int × Int) := (shadowboxref01_Fixed.f k ([] : List Int) (8 : Int) (IntKind.wrap .u64 a0.1)).bind fun t2 => (if t2.length + (⟨#[83, 66, 88, 49]⟩ : ByteArray).size ≤ 140737488355328 then (shadowboxref01_Fixed.f k (t2 ++ bl (⟨#[83, 66, 88, 49]⟩ : ByteArray)) (8 : Int) (IntKind.wrap .u64 a0.2.2)).bind fun t8 => (shadowboxref06_Put.f k t8 a0.2.1).bind fun t11 => shadowboxref08_Seal.lo2 a0 k t11 else none)
def shadowboxref08_Seal.f (k : Nat) (a0 : (Int × (Int × Int × Int × Int × (Vc Int 32)) × Int)) : Option ((List Int) × Int × Int) :=
  (shadowboxref08_Right.f k a0).bind fun t28 => (if t28 = true then (shadowboxref08_Seal.jo1 k a0) else some (([] : List Int), (0 : Int), (2 : Int)))
set_option maxRecDepth 100000 in
set_option maxHeartbeats 4000000 in
theorem shadowboxref08_Seal.calls (k : Nat) (a0 : (Int × (Int × Int × Int × Int × (Vc Int 32)) × Int)) (r : (List Int) × Int × Int) (b : Bs) (hs0 : St b (stl []) b.w) (H : shadowboxref08_Seal.f k a0 = some r) :
    Calls Try.prog 25 #[.agg ⟨([Value.int .i64 a0.1] ++ (([Value.int .i64 a0.2.1.1] ++ ([Value.int .i64 a0.2.1.2.1] ++ ([Value.int .i64 a0.2.1.2.2.1] ++ ([Value.int .u32 a0.2.1.2.2.2.1] ++ en (Value.int .u8) a0.2.1.2.2.2.2.1)))) ++ [Value.int .i64 a0.2.2]))⟩] b.w fun e w' => ∃ x : (Option Addr × Nat), e = .returned (.tuple #[.slice x.1 r.1.length x.2, .int .i64 r.2.1, .int .i64 r.2.2]) ∧ St b (stl [Ck.sl (Ec.int 5 .u8) x.1 x.2 r.1]) w' := by
  unfold shadowboxref08_Seal.f at H
  refine enterb (n := 43) Try.func25 rfl (by kernel_rfl) (by kernel_rfl) hs0 ?_
  refine cs_sub (s0) (sub_nil _) ?_
  refine cs_seq ?_
  refine cs_region (l := [_, _, _, _]) ?_
  refine ls_new rfl rfl (by kernel_rfl) 0 (fun g => .pointer (some ⟨g, 0, none⟩)) (.cells ⟨([Value.int .i64 a0.1] ++ (([Value.int .i64 a0.2.1.1] ++ ([Value.int .i64 a0.2.1.2.1] ++ ([Value.int .i64 a0.2.1.2.2.1] ++ ([Value.int .u32 a0.2.1.2.2.2.1] ++ en (Value.int .u8) a0.2.1.2.2.2.2.1)))) ++ [Value.int .i64 a0.2.2]))⟩ 47) (fun w => by kernel_rfl) ?_
  intro g1
  refine ls_val (v := .slice none 0 0) rfl rfl (by kernel_rfl) (fun w => by kernel_rfl) ?_
  refine ls_val (v := .int .i64 (0 : Int)) rfl rfl (by kernel_rfl) (fun w => by kernel_rfl) ?_
  refine ls_val (v := .int .i64 (0 : Int)) rfl rfl (by kernel_rfl) (fun w => by kernel_rfl) ?_
  refine ls_end ?_
  refine qn_then ?_
  refine cs_cut (fun f S => ∃ (fR : Fr), f = upd fR 1 (.pointer (some ⟨g1, 0, none⟩)) ∧ S = sput s0 0 (some (Ck.var 47 g1 (([Value.int .i64 a0.1] ++ (([Value.int .i64 a0.2.1.1] ++ ([Value.int .i64 a0.2.1.2.1] ++ ([Value.int .i64 a0.2.1.2.2.1] ++ ([Value.int .u32 a0.2.1.2.2.2.1] ++ en (Value.int .u8) a0.2.1.2.2.2.2.1)))) ++ [Value.int .i64 a0.2.2]))))) ∧ shadowboxref08_Seal.jo1 k a0 = some r) ?_ ?_
  · skip
    refine cs_seq ?_
    refine cs_region (l := [_, _, _]) ?_
    refine ls_loadagg (a := ⟨g1, 0, none⟩) (sub := ([Value.int .i64 a0.1] ++ (([Value.int .i64 a0.2.1.1] ++ ([Value.int .i64 a0.2.1.2.1] ++ ([Value.int .i64 a0.2.1.2.2.1] ++ ([Value.int .u32 a0.2.1.2.2.2.1] ++ en (Value.int .u8) a0.2.1.2.2.2.2.1)))) ++ [Value.int .i64 a0.2.2]))) rfl rfl (by kernel_rfl) rfl (by kernel_rfl) (by kernel_rfl) (by kernel_rfl) (len_app (len1 _) (len_app (len_app (len1 _) (len_app (len1 _) (len_app (len1 _) (len_app (len1 _) (len_en _ a0.2.1.2.2.2.2))))) (len1 _))) (fun w hs => (hs.vars (k := 0) (by exact rfl) (Sub4.all _))) ?_
    obtain ⟨t28, hc29, H⟩ := bind_some H
    refine ls_callb (fid := 42) (vals := #[.agg ⟨([Value.int .i64 a0.1] ++ (([Value.int .i64 a0.2.1.1] ++ ([Value.int .i64 a0.2.1.2.1] ++ ([Value.int .i64 a0.2.1.2.2.1] ++ ([Value.int .u32 a0.2.1.2.2.2.1] ++ en (Value.int .u8) a0.2.1.2.2.2.2.1)))) ++ [Value.int .i64 a0.2.2]))⟩]) (X := Unit) (fun x => .bool t28) (fun x => stl []) [] [] [] [] 1 rfl rfl (by kernel_rfl) (fun w => by kernel_rfl) trivial trivial (by decide) (fun w hs hb => shadowboxref08_Right.calls k a0 t28 (lent b w [] []) hb  hc29) ?_
    intro x30
    refine ls_val (v := .bool (!t28)) rfl rfl (by kernel_rfl) (fun w => by kernel_rfl) ?_
    refine ls_end ?_
    refine qn_then ?_
    by_cases q31 : t28 = true
    · replace H := ite_t q31 H
      refine cs_know (c := false) (congrArg Bool.not (q31)) 8 (by kernel_rfl) ?_
      refine cs_false (by kernel_rfl) ?_
      refine cs_skip' ?_
      refine qn_meet (sput s0 0 (some (Ck.var 47 g1 (([Value.int .i64 a0.1] ++ (([Value.int .i64 a0.2.1.1] ++ ([Value.int .i64 a0.2.1.2.1] ++ ([Value.int .i64 a0.2.1.2.2.1] ++ ([Value.int .u32 a0.2.1.2.2.2.1] ++ en (Value.int .u8) a0.2.1.2.2.2.2.1)))) ++ [Value.int .i64 a0.2.2])))))) ⟨_, fr_next (rfl) (by kernel_rfl), rfl, H⟩ (sub_put (by exact rfl) (sub_nil _))
    · replace H := ite_f q31 H
      refine cs_know (c := true) (congrArg Bool.not (Bool.eq_false_iff.mpr q31)) 8 (by kernel_rfl) ?_
      refine cs_true (by kernel_rfl) ?_
      refine cs_seq ?_
      refine cs_region (l := [_, _, _]) ?_
      refine ls_val (v := .slice none 0 0) rfl rfl (by kernel_rfl) (fun w => by kernel_rfl) ?_
      refine ls_val (v := .int .i64 (0 : Int)) rfl rfl (by kernel_rfl) (fun w => by kernel_rfl) ?_
      refine ls_val (v := .int .i64 (2 : Int)) rfl rfl (by kernel_rfl) (fun w => by kernel_rfl) ?_
      refine ls_end ?_
      refine qn_then ?_
      refine cs_ret' ?_
      refine qr_then ?_
      refine qr_nilrow 1 (Ec.int 5 .u8) ?_
      obtain rfl := Option.some.inj H
      refine qr_res (rs := [_, _, _]) rfl (fun w' hs => ⟨[.slice none 0 0, .int .i64 (0 : Int), .int .i64 (2 : Int)], (res_tmp (by kernel_rfl) (res_tmp (by kernel_rfl) (res_tmp (by kernel_rfl) (.nil)))), (none, 0), rfl, hs.pick (ts := [1]) (cs := [Ck.sl (Ec.int 5 .u8) none 0 ([] : List Int)]) ⟨by exact rfl, trivial⟩ (by decide)⟩)
  · rintro f S ⟨fr1, rfl, rfl, H⟩
    replace H : ((shadowboxref01_Fixed.f k ([] : List Int) (8 : Int) (IntKind.wrap .u64 a0.1)).bind fun t2 => (if t2.length + (⟨#[83, 66, 88, 49]⟩ : ByteArray).size ≤ 140737488355328 then (shadowboxref01_Fixed.f k (t2 ++ bl (⟨#[83, 66, 88, 49]⟩ : ByteArray)) (8 : Int) (IntKind.wrap .u64 a0.2.2)).bind fun t8 => (shadowboxref06_Put.f k t8 a0.2.1).bind fun t11 => shadowboxref08_Seal.lo2 a0 k t11 else none)) = some r := H
    refine cs_seq ?_
    refine cs_region (l := [_, _, _, _, _]) ?_
    refine ls_val (v := .pointer (some ⟨g1, (0 + 0), none⟩)) rfl rfl (by kernel_rfl) (fun w => by kernel_rfl) ?_
    refine ls_load (a0 := ⟨g1, (0 + 0), none⟩) (v := .int .i64 a0.1) (de := (TypeDesc.int .i64)) rfl rfl (by kernel_rfl) rfl (by kernel_rfl) (by kernel_rfl) (by kernel_rfl) (fun w hs => (hs.var (k := 0) (by exact rfl) (Sub4.trans (Sub4.all _) (Sub4.head _ _)))) ?_
    refine ls_val (v := .int .u64 (IntKind.wrap .u64 a0.1)) rfl rfl (by kernel_rfl) (fun w => by kernel_rfl) ?_
    obtain ⟨t2, hc3, H⟩ := bind_some H
    refine ls_callb (fid := 35) (vals := #[.slice none ([] : List Int).length 0, .int .i64 (8 : Int), .int .u64 (IntKind.wrap .u64 a0.1)]) (X := (Option Addr × Nat)) (fun x => .slice x.1 t2.length x.2) (fun x => stl [Ck.sl (Ec.int 5 .u8) x.1 x.2 t2]) [] [] [] [] 1 rfl rfl (by kernel_rfl) (fun w => by kernel_rfl) trivial trivial (by decide) (fun w hs hb => shadowboxref01_Fixed.calls k none 0 ([] : List Int) (8 : Int) (IntKind.wrap .u64 a0.1) t2 (lent b w [] []) hb (Ro.nil _ _) (Nat.le_refl 0) hc3) ?_
    intro x4
    refine ls_val (v := .slice x4.1 t2.length x4.2) rfl rfl (by kernel_rfl) (fun w => by kernel_rfl) ?_
    refine ls_end ?_
    refine qn_then ?_
    refine cs_seq ?_
    refine cs_region (l := [_, _, _]) ?_
    refine ls_val (v := .slice x4.1 t2.length x4.2) rfl rfl (by kernel_rfl) (fun w => by kernel_rfl) ?_
    obtain ⟨q5, H⟩ := ite_need H
    refine ls_apps (A := x4.1) (c := x4.2) (e := 5) (l := t2) (y := (⟨#[83, 66, 88, 49]⟩ : ByteArray)) 1 rfl rfl (by kernel_rfl) rfl (by kernel_rfl) (by exact rfl) (by kernel_rfl) (by kernel_rfl) (by kernel_rfl) (by kernel_rfl) q5 ?_
    intro xA6 xc7
    refine ls_val (v := .slice xA6 (t2 ++ bl (⟨#[83, 66, 88, 49]⟩ : ByteArray)).length xc7) rfl rfl (by kernel_rfl) (fun w => by kernel_rfl) ?_
    refine ls_end ?_
    refine qn_then ?_
    refine cs_seq ?_
    refine cs_region (l := [_, _, _, _, _, _]) ?_
    refine ls_val (v := .slice xA6 (t2 ++ bl (⟨#[83, 66, 88, 49]⟩ : ByteArray)).length xc7) rfl rfl (by kernel_rfl) (fun w => by kernel_rfl) ?_
    refine ls_val (v := .pointer (some ⟨g1, (0 + 37), none⟩)) rfl rfl (by kernel_rfl) (fun w => by kernel_rfl) ?_
    refine ls_load (a0 := ⟨g1, (0 + 37), none⟩) (v := .int .i64 a0.2.2) (de := (TypeDesc.int .i64)) rfl rfl (by kernel_rfl) rfl (by kernel_rfl) (by kernel_rfl) (by kernel_rfl) (fun w hs => (hs.var (k := 0) (by exact rfl) (Sub4.trans (Sub4.all _) (Sub4.skip (n := 1) (len1 _) (Sub4.skip (n := 36) (len_app (len1 _) (len_app (len1 _) (len_app (len1 _) (len_app (len1 _) (len_en _ a0.2.1.2.2.2.2))))) (Sub4.all _)))))) ?_
    refine ls_val (v := .int .u64 (IntKind.wrap .u64 a0.2.2)) rfl rfl (by kernel_rfl) (fun w => by kernel_rfl) ?_
    obtain ⟨t8, hc9, H⟩ := bind_some H
    refine ls_callb (fid := 35) (vals := #[.slice xA6 (t2 ++ bl (⟨#[83, 66, 88, 49]⟩ : ByteArray)).length xc7, .int .i64 (8 : Int), .int .u64 (IntKind.wrap .u64 a0.2.2)]) (X := (Option Addr × Nat)) (fun x => .slice x.1 t8.length x.2) (fun x => stl [Ck.sl (Ec.int 5 .u8) x.1 x.2 t8]) [] [1] [] [Ck.sl (Ec.int 5 .u8) xA6 xc7 (t2 ++ bl (⟨#[83, 66, 88, 49]⟩ : ByteArray))] 2 rfl rfl (by kernel_rfl) (fun w => by kernel_rfl) trivial ⟨by exact rfl, trivial⟩ (by decide) (fun w hs hb => shadowboxref01_Fixed.calls k xA6 xc7 (t2 ++ bl (⟨#[83, 66, 88, 49]⟩ : ByteArray)) (8 : Int) (IntKind.wrap .u64 a0.2.2) t8 (lent b w [] [Ck.sl (Ec.int 5 .u8) xA6 xc7 (t2 ++ bl (⟨#[83, 66, 88, 49]⟩ : ByteArray))]) hb (hs.ror (k := 1) (by exact rfl) (.head _)) (hs.cap (k := 1) (by exact rfl)) hc9) ?_
    intro x10
    refine ls_val (v := .slice x10.1 t8.length x10.2) rfl rfl (by kernel_rfl) (fun w => by kernel_rfl) ?_
    refine ls_end ?_
    refine qn_then ?_
    refine cs_seq ?_
    refine cs_region (l := [_, _, _, _, _]) ?_
    refine ls_val (v := .slice x10.1 t8.length x10.2) rfl rfl (by kernel_rfl) (fun w => by kernel_rfl) ?_
    refine ls_val (v := .pointer (some ⟨g1, (0 + 1), none⟩)) rfl rfl (by kernel_rfl) (fun w => by kernel_rfl) ?_
    refine ls_loadagg (a := ⟨g1, (0 + 1), none⟩) (sub := ([Value.int .i64 a0.2.1.1] ++ ([Value.int .i64 a0.2.1.2.1] ++ ([Value.int .i64 a0.2.1.2.2.1] ++ ([Value.int .u32 a0.2.1.2.2.2.1] ++ en (Value.int .u8) a0.2.1.2.2.2.2.1))))) rfl rfl (by kernel_rfl) rfl (by kernel_rfl) (by kernel_rfl) (by kernel_rfl) (len_app (len1 _) (len_app (len1 _) (len_app (len1 _) (len_app (len1 _) (len_en _ a0.2.1.2.2.2.2))))) (fun w hs => (hs.vars (k := 0) (by exact rfl) (Sub4.trans (Sub4.all _) (Sub4.skip (n := 1) (len1 _) (Sub4.head _ _))))) ?_
    obtain ⟨t11, hc12, H⟩ := bind_some H
    refine ls_callb (fid := 19) (vals := #[.slice x10.1 t8.length x10.2, .agg ⟨([Value.int .i64 a0.2.1.1] ++ ([Value.int .i64 a0.2.1.2.1] ++ ([Value.int .i64 a0.2.1.2.2.1] ++ ([Value.int .u32 a0.2.1.2.2.2.1] ++ en (Value.int .u8) a0.2.1.2.2.2.2.1))))⟩]) (X := (Option Addr × Nat)) (fun x => .slice x.1 t11.length x.2) (fun x => stl [Ck.sl (Ec.int 5 .u8) x.1 x.2 t11]) [] [2] [] [Ck.sl (Ec.int 5 .u8) x10.1 x10.2 t8] 3 rfl rfl (by kernel_rfl) (fun w => by kernel_rfl) trivial ⟨by exact rfl, trivial⟩ (by decide) (fun w hs hb => shadowboxref06_Put.calls k x10.1 x10.2 t8 a0.2.1 t11 (lent b w [] [Ck.sl (Ec.int 5 .u8) x10.1 x10.2 t8]) hb (hs.ror (k := 2) (by exact rfl) (.head _)) (hs.cap (k := 2) (by exact rfl)) hc12) ?_
    intro x13
    refine ls_val (v := .slice x13.1 t11.length x13.2) rfl rfl (by kernel_rfl) (fun w => by kernel_rfl) ?_
    refine ls_end ?_
    refine qn_then ?_
    refine cs_seq ?_
    refine cs_block ?_
    refine cs_sub (sput (sput s0 0 (some (Ck.var 47 g1 (([Value.int .i64 a0.1] ++ (([Value.int .i64 a0.2.1.1] ++ ([Value.int .i64 a0.2.1.2.1] ++ ([Value.int .i64 a0.2.1.2.2.1] ++ ([Value.int .u32 a0.2.1.2.2.2.1] ++ en (Value.int .u8) a0.2.1.2.2.2.2.1)))) ++ [Value.int .i64 a0.2.2])))))) 3 (some (Ck.sl (Ec.int 5 .u8) x13.1 x13.2 t11))) (sub_put (by exact rfl) (sub_put (by exact rfl) (sub_nil _))) ?_
    refine cs_loop (fun kk f S => ∃ (fR : Fr) (A5_2 : Option Addr) (c5_2 : Nat) (l5_2 : List Int), f = upd (upd fR 1 (.pointer (some ⟨g1, 0, none⟩))) 5 (.slice A5_2 l5_2.length c5_2) ∧ S = sput (sput s0 0 (some (Ck.var 47 g1 (([Value.int .i64 a0.1] ++ (([Value.int .i64 a0.2.1.1] ++ ([Value.int .i64 a0.2.1.2.1] ++ ([Value.int .i64 a0.2.1.2.2.1] ++ ([Value.int .u32 a0.2.1.2.2.2.1] ++ en (Value.int .u8) a0.2.1.2.2.2.2.1)))) ++ [Value.int .i64 a0.2.2])))))) 3 (some (Ck.sl (Ec.int 5 .u8) A5_2 c5_2 l5_2)) ∧ shadowboxref08_Seal.lo2 a0 kk l5_2 = some r) k ?_ ?_ ?_
    · exact ⟨_, x13.1, x13.2, t11, fr_next (fr_next (rfl) (by kernel_rfl)) (by kernel_rfl), rfl, H⟩
    · rintro f S ⟨fr2, A5_2, c5_2, l5_2, rfl, rfl, H⟩; cases H
    · rintro k2 f S ⟨fr2, A5_2, c5_2, l5_2, rfl, rfl, H⟩
      replace H : ((if (l5_2.length : Int) < (500 : Int) then (if (l5_2.length + ([(0 : Int)]).length) * 1 ≤ 140737488355328 then (shadowboxref08_Seal.lo2 a0 k2) (l5_2 ++ [(0 : Int)]) else none) else (shadowboxref02_Go.f k2 (0 : Int) l5_2).bind fun t19 => (shadowboxref01_Fixed.f k2 l5_2 (4 : Int) (IntKind.wrap .u64 t19)).bind fun t22 => (shadowboxref01_Fixed.f k2 t22 (8 : Int) (IntKind.wrap .u64 a0.1)).bind fun t25 => some (t25, Int.tmod a0.1 (2 : Int), (0 : Int)))) = some r := H
      refine cs_seq ?_
      refine cs_seq ?_
      refine cs_region (l := [_, _, _]) ?_
      refine ls_val (v := .slice A5_2 l5_2.length c5_2) rfl rfl (by kernel_rfl) (fun w => by kernel_rfl) ?_
      refine ls_val (v := .int .i64 (l5_2.length : Int)) rfl rfl (by kernel_rfl) (fun w => by kernel_rfl) ?_
      refine ls_val (v := .bool (decide ((l5_2.length : Int) < (500 : Int)))) rfl rfl (by kernel_rfl) (fun w => by kernel_rfl) ?_
      refine ls_end ?_
      refine qn_then ?_
      by_cases q14 : (l5_2.length : Int) < (500 : Int)
      · replace H := ite_t q14 H
        refine cs_know (c := true) (dec_t q14) 26 (by kernel_rfl) ?_
        refine cs_true (by kernel_rfl) ?_
        refine cs_skip' ?_
        refine qn_then ?_
        refine cs_block ?_
        refine cs_region (l := [_, _, _, _]) ?_
        refine ls_val (v := .slice A5_2 l5_2.length c5_2) rfl rfl (by kernel_rfl) (fun w => by kernel_rfl) ?_
        refine ls_lit (Ec.int 5 .u8) 4 rfl rfl (by kernel_rfl) ([(0 : Int)]) (by exact of_decide_eq_true (by kernel_rfl)) (fun w => by kernel_rfl) ?_
        intro g15
        obtain ⟨q16, H⟩ := ite_need H
        refine ls_app (Ec.int 5 .u8) (A := A5_2) (c := c5_2) (B := (some ⟨g15, 0, none⟩)) (cb := [(0 : Int)].length) (z := (Value.int .u8 0)) (l := l5_2) (m := [(0 : Int)]) (bytes := 1) 3 rfl rfl (by kernel_rfl) rfl (by kernel_rfl) (by exact rfl) (by kernel_rfl) (fun w hs => (hs.rd (k := 4) (by exact rfl))) (by kernel_rfl) (by kernel_rfl) rfl (by decide) q16 ?_
        intro xA17 xc18
        refine ls_val (v := .slice xA17 (l5_2 ++ [(0 : Int)]).length xc18) rfl rfl (by kernel_rfl) (fun w => by kernel_rfl) ?_
        refine ls_end ?_
        refine qn_block ?_
        refine qn_again k2 (sput (sput s0 0 (some (Ck.var 47 g1 (([Value.int .i64 a0.1] ++ (([Value.int .i64 a0.2.1.1] ++ ([Value.int .i64 a0.2.1.2.1] ++ ([Value.int .i64 a0.2.1.2.2.1] ++ ([Value.int .u32 a0.2.1.2.2.2.1] ++ en (Value.int .u8) a0.2.1.2.2.2.2.1)))) ++ [Value.int .i64 a0.2.2])))))) 3 (some (Ck.sl (Ec.int 5 .u8) xA17 xc18 (l5_2 ++ [(0 : Int)])))) (Nat.le_refl _) ⟨_, xA17, xc18, (l5_2 ++ [(0 : Int)]), fr_next (fr_next (rfl) (by kernel_rfl)) (by kernel_rfl), rfl, H⟩ (sub_put (by exact rfl) (sub_put (by exact rfl) (sub_nil _)))
      · replace H := ite_f q14 H
        refine cs_know (c := false) (dec_f q14) 26 (by kernel_rfl) ?_
        refine cs_false (by kernel_rfl) ?_
        refine cs_exit' ?_
        refine qx_then ?_
        refine qx_then ?_
        refine qx_same ?_
        refine qn_then ?_
        refine cs_seq ?_
        refine cs_region (l := [_, _, _, _, _, _]) ?_
        refine ls_val (v := .slice A5_2 l5_2.length c5_2) rfl rfl (by kernel_rfl) (fun w => by kernel_rfl) ?_
        refine ls_val (v := .slice A5_2 l5_2.length c5_2) rfl rfl (by kernel_rfl) (fun w => by kernel_rfl) ?_
        obtain ⟨t19, hc20, H⟩ := bind_some H
        refine ls_callb (fid := 38) (vals := #[.int .u32 (0 : Int), .slice A5_2 l5_2.length c5_2]) (X := Unit) (fun x => .int .u32 t19) (fun x => stl []) [] [3] [] [Ck.sl (Ec.int 5 .u8) A5_2 c5_2 l5_2] 4 rfl rfl (by kernel_rfl) (fun w => by kernel_rfl) trivial ⟨by exact rfl, trivial⟩ (by decide) (fun w hs hb => shadowboxref02_Go.calls k2 (0 : Int) A5_2 c5_2 l5_2 t19 (lent b w [] [Ck.sl (Ec.int 5 .u8) A5_2 c5_2 l5_2]) hb (hs.ror (k := 3) (by exact rfl) (.head _)) (hs.cap (k := 3) (by exact rfl)) hc20) ?_
        intro x21
        refine ls_val (v := .int .u64 (IntKind.wrap .u64 t19)) rfl rfl (by kernel_rfl) (fun w => by kernel_rfl) ?_
        obtain ⟨t22, hc23, H⟩ := bind_some H
        refine ls_callb (fid := 35) (vals := #[.slice A5_2 l5_2.length c5_2, .int .i64 (4 : Int), .int .u64 (IntKind.wrap .u64 t19)]) (X := (Option Addr × Nat)) (fun x => .slice x.1 t22.length x.2) (fun x => stl [Ck.sl (Ec.int 5 .u8) x.1 x.2 t22]) [] [3] [] [Ck.sl (Ec.int 5 .u8) A5_2 c5_2 l5_2] 4 rfl rfl (by kernel_rfl) (fun w => by kernel_rfl) trivial ⟨by exact rfl, trivial⟩ (by decide) (fun w hs hb => shadowboxref01_Fixed.calls k2 A5_2 c5_2 l5_2 (4 : Int) (IntKind.wrap .u64 t19) t22 (lent b w [] [Ck.sl (Ec.int 5 .u8) A5_2 c5_2 l5_2]) hb (hs.ror (k := 3) (by exact rfl) (.head _)) (hs.cap (k := 3) (by exact rfl)) hc23) ?_
        intro x24
        refine ls_val (v := .slice x24.1 t22.length x24.2) rfl rfl (by kernel_rfl) (fun w => by kernel_rfl) ?_
        refine ls_end ?_
        refine qn_then ?_
        refine cs_seq ?_
        obtain ⟨t25, hc26, H⟩ := bind_some H
        refine cs_sub (sput (sput (sput s0 0 (some (Ck.var 47 g1 (([Value.int .i64 a0.1] ++ (([Value.int .i64 a0.2.1.1] ++ ([Value.int .i64 a0.2.1.2.1] ++ ([Value.int .i64 a0.2.1.2.2.1] ++ ([Value.int .u32 a0.2.1.2.2.2.1] ++ en (Value.int .u8) a0.2.1.2.2.2.2.1)))) ++ [Value.int .i64 a0.2.2])))))) 3 (some (Ck.sl (Ec.int 5 .u8) A5_2 c5_2 l5_2))) 4 (some (Ck.sl (Ec.int 5 .u8) x24.1 x24.2 t22))) (sub_put (by exact rfl) (sub_put (by exact rfl) (sub_put (by exact rfl) (sub_nil _)))) ?_
        refine cs_chain (l := [_, _, _, _, _, _, _, _, _, _, _]) [[], [], [1], [1, 2], [0, 1, 2, 3], [], [5], [5, 6], [0, 1, 2, 3, 4], [0, 1, 2, 3, 4, 5, 6, 7, 8], [0, 1, 2, 3, 4, 5, 6, 7, 8, 9]] 9 (fun u => [0, 3, 4].contains u) (efl [false, false, false, false, true, false, false, false, false]) (pvl [.val (.slice x24.1 t22.length x24.2), .val (.pointer (some ⟨g1, (0 + 0), none⟩)), .val (.int .i64 a0.1), .val (.int .u64 (IntKind.wrap .u64 a0.1)), .eff 4, .val (.pointer (some ⟨g1, (0 + 0), none⟩)), .val (.int .i64 a0.1), .val (.int .i64 (Int.tmod a0.1 (2 : Int))), .eff 4]) (Esl [fun (es : Nat → Value) (S' : Sto) => S' = sput (sput (sput s0 0 (some (Ck.var 47 g1 (([Value.int .i64 a0.1] ++ (([Value.int .i64 a0.2.1.1] ++ ([Value.int .i64 a0.2.1.2.1] ++ ([Value.int .i64 a0.2.1.2.2.1] ++ ([Value.int .u32 a0.2.1.2.2.2.1] ++ en (Value.int .u8) a0.2.1.2.2.2.2.1)))) ++ [Value.int .i64 a0.2.2])))))) 3 (some (Ck.sl (Ec.int 5 .u8) A5_2 c5_2 l5_2))) 4 (some (Ck.sl (Ec.int 5 .u8) x24.1 x24.2 t22)), fun (es : Nat → Value) (S' : Sto) => ∃ (x27 : (Option Addr × Nat)), es 4 = .slice x27.1 t25.length x27.2 ∧ S' = sput (sput (sput (sput s0 0 (some (Ck.var 47 g1 (([Value.int .i64 a0.1] ++ (([Value.int .i64 a0.2.1.1] ++ ([Value.int .i64 a0.2.1.2.1] ++ ([Value.int .i64 a0.2.1.2.2.1] ++ ([Value.int .u32 a0.2.1.2.2.2.1] ++ en (Value.int .u8) a0.2.1.2.2.2.2.1)))) ++ [Value.int .i64 a0.2.2])))))) 3 (some (Ck.sl (Ec.int 5 .u8) A5_2 c5_2 l5_2))) 4 (some (Ck.sl (Ec.int 5 .u8) x24.1 x24.2 t22))) 5 (some (Ck.sl (Ec.int 5 .u8) x27.1 x27.2 t25))] [0, 0, 0, 0, 0, 0, 0, 0, 0, 1]) (nxl [0, 0, 0, 0, 9, 0, 0, 0, 0]) (onl [true, true, true, true, true, true, true, true, true]) 4 (by kernel_rfl) (by kernel_rfl) (by kernel_rfl) (by kernel_rfl) (by kernel_rfl) (rs := [_, _]) rfl (by kernel_rfl) (by kernel_rfl) (fun es => ?_) ?_ ?_
        · exact (rfl : sput (sput (sput s0 0 (some (Ck.var 47 g1 (([Value.int .i64 a0.1] ++ (([Value.int .i64 a0.2.1.1] ++ ([Value.int .i64 a0.2.1.2.1] ++ ([Value.int .i64 a0.2.1.2.2.1] ++ ([Value.int .u32 a0.2.1.2.2.2.1] ++ en (Value.int .u8) a0.2.1.2.2.2.2.1)))) ++ [Value.int .i64 a0.2.2])))))) 3 (some (Ck.sl (Ec.int 5 .u8) A5_2 c5_2 l5_2))) 4 (some (Ck.sl (Ec.int 5 .u8) x24.1 x24.2 t22)) = sput (sput (sput s0 0 (some (Ck.var 47 g1 (([Value.int .i64 a0.1] ++ (([Value.int .i64 a0.2.1.1] ++ ([Value.int .i64 a0.2.1.2.1] ++ ([Value.int .i64 a0.2.1.2.2.1] ++ ([Value.int .u32 a0.2.1.2.2.2.1] ++ en (Value.int .u8) a0.2.1.2.2.2.2.1)))) ++ [Value.int .i64 a0.2.2])))))) 3 (some (Ck.sl (Ec.int 5 .u8) A5_2 c5_2 l5_2))) 4 (some (Ck.sl (Ec.int 5 .u8) x24.1 x24.2 t22)))
        · refine all_snoc (all_snoc (all_snoc (all_snoc (all_snoc (all_snoc (all_snoc (all_snoc (all_snoc (all_nil) ?_) ?_) ?_) ?_) ?_) ?_) ?_) ?_) ?_
          · refine ⟨fun o ho es vs f' S' hve hvp hf hx hK hE => ?_⟩
            obtain rfl := Option.some.inj ho
            refine ⟨want_none rfl, fun _ _ => ?_, (fun _ h => by cases h), (fun h _ => by cases h), (fun h _ => by cases h)⟩
            have hF := fr_next (rfl) ((hx 5 (by kernel_rfl)).trans (by kernel_rfl : (_ : Value) = .slice x24.1 t22.length x24.2))
            refine ls_fr hF ?_
            refine ls_val (v := .slice x24.1 t22.length x24.2) rfl rfl (by kernel_rfl) (fun w => by kernel_rfl) ?_
            exact ls_finp (.slice x24.1 t22.length x24.2) (congrArg (fun z => upd z 35 _) hF.symm) rfl
          · refine ⟨fun o ho es vs f' S' hve hvp hf hx hK hE => ?_⟩
            obtain rfl := Option.some.inj ho
            refine ⟨want_none rfl, fun _ _ => ?_, (fun _ h => by cases h), (fun h _ => by cases h), (fun h _ => by cases h)⟩
            have hF := fr_next (rfl) ((hx 1 (by kernel_rfl)).trans (by kernel_rfl : (_ : Value) = .pointer (some ⟨g1, 0, none⟩)))
            refine ls_fr hF ?_
            refine ls_val (v := .pointer (some ⟨g1, (0 + 0), none⟩)) rfl rfl (by kernel_rfl) (fun w => by kernel_rfl) ?_
            exact ls_finp (.pointer (some ⟨g1, (0 + 0), none⟩)) (congrArg (fun z => upd z 36 _) hF.symm) rfl
          · refine ⟨fun o ho es vs f' S' hve hvp hf hx hK hE => ?_⟩
            obtain rfl := Option.some.inj ho
            refine ⟨want_none rfl, fun _ _ => ?_, (fun _ h => by cases h), (fun h _ => by cases h), (fun h _ => by cases h)⟩
            have hF := fr_next (rfl) ((hf 1 36 (by kernel_rfl) rfl).trans (show vs 1 = .pointer (some ⟨g1, (0 + 0), none⟩) from hvp 1 (by kernel_rfl)))
            refine ls_fr hF ?_
            refine ls_load (a0 := ⟨g1, (0 + 0), none⟩) (v := .int .i64 a0.1) (de := (TypeDesc.int .i64)) rfl rfl (by kernel_rfl) rfl (by kernel_rfl) (by kernel_rfl) (by kernel_rfl) (fun w hs => (hs.var (k := 0) ((hK 0 (by rfl)).trans (by exact rfl)) (Sub4.trans (Sub4.all _) (Sub4.head _ _)))) ?_
            exact ls_finp (.int .i64 a0.1) (congrArg (fun z => upd z 37 _) hF.symm) rfl
          · refine ⟨fun o ho es vs f' S' hve hvp hf hx hK hE => ?_⟩
            obtain rfl := Option.some.inj ho
            refine ⟨want_none rfl, fun _ _ => ?_, (fun _ h => by cases h), (fun h _ => by cases h), (fun h _ => by cases h)⟩
            have hF := fr_next (rfl) ((hf 2 37 (by kernel_rfl) rfl).trans (show vs 2 = .int .i64 a0.1 from hvp 2 (by kernel_rfl)))
            refine ls_fr hF ?_
            refine ls_val (v := .int .u64 (IntKind.wrap .u64 a0.1)) rfl rfl (by kernel_rfl) (fun w => by kernel_rfl) ?_
            exact ls_finp (.int .u64 (IntKind.wrap .u64 a0.1)) (congrArg (fun z => upd z 38 _) hF.symm) rfl
          · refine ⟨fun o ho es vs f' S' hve hvp hf hx hK hE => ?_⟩
            obtain rfl := Option.some.inj ho
            obtain rfl := hE rfl
            refine ⟨want_none rfl, (fun h _ => by cases h), (fun h _ => by cases h), fun _ _ => ?_, (fun _ h => by cases h)⟩
            have hF := fr_next (fr_next (rfl) ((hf 0 35 (by kernel_rfl) rfl).trans (show vs 0 = .slice x24.1 t22.length x24.2 from hvp 0 (by kernel_rfl)))) ((hf 3 38 (by kernel_rfl) rfl).trans (show vs 3 = .int .u64 (IntKind.wrap .u64 a0.1) from hvp 3 (by kernel_rfl)))
            refine ls_fr hF ?_
            refine ls_callb (fid := 35) (vals := #[.slice x24.1 t22.length x24.2, .int .i64 (8 : Int), .int .u64 (IntKind.wrap .u64 a0.1)]) (X := (Option Addr × Nat)) (fun x => .slice x.1 t25.length x.2) (fun x => stl [Ck.sl (Ec.int 5 .u8) x.1 x.2 t25]) [] [4] [] [Ck.sl (Ec.int 5 .u8) x24.1 x24.2 t22] 5 rfl rfl (by kernel_rfl) (fun w => by kernel_rfl) trivial ⟨by exact rfl, trivial⟩ (by decide) (fun w hs hb => shadowboxref01_Fixed.calls k2 x24.1 x24.2 t22 (8 : Int) (IntKind.wrap .u64 a0.1) t25 (lent b w [] [Ck.sl (Ec.int 5 .u8) x24.1 x24.2 t22]) hb (hs.ror (k := 4) (by exact rfl) (.head _)) (hs.cap (k := 4) (by exact rfl)) hc26) ?_
            intro x27
            exact ls_fine (sput (sput (sput (sput s0 0 (some (Ck.var 47 g1 (([Value.int .i64 a0.1] ++ (([Value.int .i64 a0.2.1.1] ++ ([Value.int .i64 a0.2.1.2.1] ++ ([Value.int .i64 a0.2.1.2.2.1] ++ ([Value.int .u32 a0.2.1.2.2.2.1] ++ en (Value.int .u8) a0.2.1.2.2.2.2.1)))) ++ [Value.int .i64 a0.2.2])))))) 3 (some (Ck.sl (Ec.int 5 .u8) A5_2 c5_2 l5_2))) 4 (some (Ck.sl (Ec.int 5 .u8) x24.1 x24.2 t22))) 5 (some (Ck.sl (Ec.int 5 .u8) x27.1 x27.2 t25))) (.slice x27.1 t25.length x27.2) (congrArg (fun z => upd z 39 _) hF.symm) (show (fun (es : Nat → Value) (S' : Sto) => ∃ (x27 : (Option Addr × Nat)), es 4 = .slice x27.1 t25.length x27.2 ∧ S' = sput (sput (sput (sput s0 0 (some (Ck.var 47 g1 (([Value.int .i64 a0.1] ++ (([Value.int .i64 a0.2.1.1] ++ ([Value.int .i64 a0.2.1.2.1] ++ ([Value.int .i64 a0.2.1.2.2.1] ++ ([Value.int .u32 a0.2.1.2.2.2.1] ++ en (Value.int .u8) a0.2.1.2.2.2.2.1)))) ++ [Value.int .i64 a0.2.2])))))) 3 (some (Ck.sl (Ec.int 5 .u8) A5_2 c5_2 l5_2))) 4 (some (Ck.sl (Ec.int 5 .u8) x24.1 x24.2 t22))) 5 (some (Ck.sl (Ec.int 5 .u8) x27.1 x27.2 t25))) (upv es 4 (.slice x27.1 t25.length x27.2)) (sput (sput (sput (sput s0 0 (some (Ck.var 47 g1 (([Value.int .i64 a0.1] ++ (([Value.int .i64 a0.2.1.1] ++ ([Value.int .i64 a0.2.1.2.1] ++ ([Value.int .i64 a0.2.1.2.2.1] ++ ([Value.int .u32 a0.2.1.2.2.2.1] ++ en (Value.int .u8) a0.2.1.2.2.2.2.1)))) ++ [Value.int .i64 a0.2.2])))))) 3 (some (Ck.sl (Ec.int 5 .u8) A5_2 c5_2 l5_2))) 4 (some (Ck.sl (Ec.int 5 .u8) x24.1 x24.2 t22))) 5 (some (Ck.sl (Ec.int 5 .u8) x27.1 x27.2 t25))) from ⟨x27, rfl, rfl⟩) rfl (keep_cons (by exact rfl) (keep_cons (by exact rfl) (keep_cons (by exact rfl) (keep_nil)))) (sub_put (by exact rfl) (sub_put (by exact rfl) (sub_put (by exact rfl) (sub_put (by exact rfl) (sub_nil _)))))
          · refine ⟨fun o ho es vs f' S' hve hvp hf hx hK hE => ?_⟩
            obtain rfl := Option.some.inj ho
            refine ⟨want_none rfl, fun _ _ => ?_, (fun _ h => by cases h), (fun h _ => by cases h), (fun h _ => by cases h)⟩
            have hF := fr_next (rfl) ((hx 1 (by kernel_rfl)).trans (by kernel_rfl : (_ : Value) = .pointer (some ⟨g1, 0, none⟩)))
            refine ls_fr hF ?_
            refine ls_val (v := .pointer (some ⟨g1, (0 + 0), none⟩)) rfl rfl (by kernel_rfl) (fun w => by kernel_rfl) ?_
            exact ls_finp (.pointer (some ⟨g1, (0 + 0), none⟩)) (congrArg (fun z => upd z 40 _) hF.symm) rfl
          · refine ⟨fun o ho es vs f' S' hve hvp hf hx hK hE => ?_⟩
            obtain rfl := Option.some.inj ho
            refine ⟨want_none rfl, fun _ _ => ?_, (fun _ h => by cases h), (fun h _ => by cases h), (fun h _ => by cases h)⟩
            have hF := fr_next (rfl) ((hf 5 40 (by kernel_rfl) rfl).trans (show vs 5 = .pointer (some ⟨g1, (0 + 0), none⟩) from hvp 5 (by kernel_rfl)))
            refine ls_fr hF ?_
            refine ls_load (a0 := ⟨g1, (0 + 0), none⟩) (v := .int .i64 a0.1) (de := (TypeDesc.int .i64)) rfl rfl (by kernel_rfl) rfl (by kernel_rfl) (by kernel_rfl) (by kernel_rfl) (fun w hs => (hs.var (k := 0) ((hK 0 (by rfl)).trans (by exact rfl)) (Sub4.trans (Sub4.all _) (Sub4.head _ _)))) ?_
            exact ls_finp (.int .i64 a0.1) (congrArg (fun z => upd z 41 _) hF.symm) rfl
          · refine ⟨fun o ho es vs f' S' hve hvp hf hx hK hE => ?_⟩
            obtain rfl := Option.some.inj ho
            refine ⟨want_none rfl, fun _ _ => ?_, (fun _ h => by cases h), (fun h _ => by cases h), (fun h _ => by cases h)⟩
            have hF := fr_next (rfl) ((hf 6 41 (by kernel_rfl) rfl).trans (show vs 6 = .int .i64 a0.1 from hvp 6 (by kernel_rfl)))
            refine ls_fr hF ?_
            refine ls_val (v := .int .i64 (Int.tmod a0.1 (2 : Int))) rfl rfl (by kernel_rfl) (fun w => by kernel_rfl) ?_
            exact ls_finp (.int .i64 (Int.tmod a0.1 (2 : Int))) (congrArg (fun z => upd z 42 _) hF.symm) rfl
          · refine ⟨fun o ho es vs f' S' hve hvp hf hx hK hE => ?_⟩
            obtain rfl := Option.some.inj ho
            refine ⟨want_none rfl, fun _ _ => ?_, (fun _ h => by cases h), (fun h _ => by cases h), (fun h _ => by cases h)⟩
            have hF := fr_next (rfl) ((hf 4 39 (by kernel_rfl) rfl).trans (show vs 4 = es 4 from hvp 4 (by kernel_rfl)))
            refine ls_fr hF ?_
            refine ls_val (v := es 4) rfl rfl (by kernel_rfl) (fun w => by kernel_rfl) ?_
            exact ls_finp (es 4) (congrArg (fun z => upd z 2 _) hF.symm) rfl
        · intro es vs f' S' hve hvp hf hx hK hE
          obtain ⟨x27, hv4, rfl⟩ := hE
          refine ls_fr (F := upd (upd f' 2 (.slice x27.1 t25.length x27.2)) 42 (.int .i64 (Int.tmod a0.1 (2 : Int)))) (fr_next (fr_next (rfl) (((hf 8 2 (by kernel_rfl) rfl).trans (show vs 8 = es 4 from hvp 8 (by kernel_rfl))).trans hv4)) ((hf 7 42 (by kernel_rfl) rfl).trans (show vs 7 = .int .i64 (Int.tmod a0.1 (2 : Int)) from hvp 7 (by kernel_rfl)))) ?_
          refine ls_sub (sput s0 5 (some (Ck.sl (Ec.int 5 .u8) x27.1 x27.2 t25))) (sub_put (by exact rfl) (sub_nil _)) ?_
          refine ls_val (v := .int .i64 (Int.tmod a0.1 (2 : Int))) rfl rfl (by kernel_rfl) (fun w => by kernel_rfl) ?_
          refine ls_val (v := .int .i64 (0 : Int)) rfl rfl (by kernel_rfl) (fun w => by kernel_rfl) ?_
          refine ls_end ?_
          refine qn_then ?_
          refine cs_ret' ?_
          obtain rfl := Option.some.inj H
          refine qr_res (rs := [_, _, _]) rfl (fun w' hs => ⟨[.slice x27.1 t25.length x27.2, .int .i64 (Int.tmod a0.1 (2 : Int)), .int .i64 (0 : Int)], (res_tmp (by kernel_rfl) (res_tmp (by kernel_rfl) (res_tmp (by kernel_rfl) (.nil)))), (x27.1, x27.2), rfl, hs.pick (ts := [5]) (cs := [Ck.sl (Ec.int 5 .u8) x27.1 x27.2 t25]) ⟨by exact rfl, trivial⟩ (by decide)⟩)

/-! ### shadowbox/shadowboxref08.Open: function 27 -/
def shadowboxref08_Open.jo2 (k : Nat) (xl7 : List Int) : Option ((Int × (Int × Int × Int × Int × (Vc Int 32)) × Int) × Int) := (if (8 : Int) ≤ (xl7.length : Int) then lt (xl7.take ((8 : Int)).toNat) fun xl31 => (shadowboxref01_Take.f k xl31 (8 : Int)).bind fun t36 => (if (20 : Int) ≤ (xl7.length : Int) then (if (12 : Int) ≤ (20 : Int) then lt ((xl7.take ((20 : Int)).toNat).drop ((12 : Int)).toNat) fun xl45 => (shadowboxref01_Take.f k xl45 (8 : Int)).bind fun t50 => (if (72 : Int) ≤ (xl7.length : Int) then (if (20 : Int) ≤ (72 : Int) then lt ((xl7.take ((72 : Int)).toNat).drop ((20 : Int)).toNat) fun xl59 => (shadowboxref06_Read.f k xl59).bind fun t64 => (shadowboxref08_Seal.f k (IntKind.wrap .i64 t36.1, t64.1, IntKind.wrap .i64 t50.1)).bind fun t69 => (if t69.2.2 = (0 : Int) then (if ((strOfNums t69.1).toList == (strOfNums xl7).toList) = true then some ((IntKind.wrap .i64 t36.1, t64.1, IntKind.wrap .i64 t50.1), (0 : Int)) else some (((0 : Int), ((0 : Int), (0 : Int), (0 : Int), (0 : Int), (vrep 32 (0 : Int))), (0 : Int)), (11 : Int))) else some (((0 : Int), ((0 : Int), (0 : Int), (0 : Int), (0 : Int), (vrep 32 (0 : Int))), (0 : Int)), (11 : Int))) else none) else none) else none) else none) else none)
def shadowboxref08_Open.jo1 (k : Nat) (l0 : List Int) : Option ((Int × (Int × Int × Int × Int × (Vc Int 32)) × Int) × Int) := (if (512 : Int) ≤ (l0.length : Int) then lt (l0.take ((512 : Int)).toNat) fun xl7 => (if (504 : Int) ≤ (xl7.length : Int) then (if (500 : Int) ≤ (504 : Int) then lt ((xl7.take ((504 : Int)).toNat).drop ((500 : Int)).toNat) fun xl18 => (shadowboxref01_Take.f k xl18 (4 : Int)).bind fun t23 => (if (500 : Int) ≤ (xl7.length : Int) then lt (xl7.take ((500 : Int)).toNat) fun xl79 => (shadowboxref02_Go.f k (0 : Int) xl79).bind fun t84 => (if (IntKind.wrap .u32 t23.1) = t84 then (shadowboxref08_Open.jo2 k xl7) else some (((0 : Int), ((0 : Int), (0 : Int), (0 : Int), (0 : Int), (vrep 32 (0 : Int))), (0 : Int)), (12 : Int))) else none) else none) else none) else none)
def shadowboxref08_Open.f (k : Nat) (l0 : List Int) : Option ((Int × (Int × Int × Int × Int × (Vc Int 32)) × Int) × Int) :=
  (if (l0.length : Int) < (512 : Int) then some (((0 : Int), ((0 : Int), (0 : Int), (0 : Int), (0 : Int), (vrep 32 (0 : Int))), (0 : Int)), (10 : Int)) else (shadowboxref08_Open.jo1 k l0))
set_option maxRecDepth 100000 in
set_option maxHeartbeats 4000000 in
theorem shadowboxref08_Open.calls (k : Nat) (A0 : Option Addr) (c0 : Nat) (l0 : List Int) (r : (Int × (Int × Int × Int × Int × (Vc Int 32)) × Int) × Int) (b : Bs) (hs0 : St b (stl []) b.w) (R0 : Ro b A0 (em (Ec.int 5 .u8) l0)) (C0 : l0.length ≤ c0) (H : shadowboxref08_Open.f k l0 = some r) :
    Calls Try.prog 27 #[.slice A0 l0.length c0] b.w fun e w' => ∃ x : Unit, e = .returned (.tuple #[.agg ⟨([Value.int .i64 r.1.1] ++ (([Value.int .i64 r.1.2.1.1] ++ ([Value.int .i64 r.1.2.1.2.1] ++ ([Value.int .i64 r.1.2.1.2.2.1] ++ ([Value.int .u32 r.1.2.1.2.2.2.1] ++ en (Value.int .u8) r.1.2.1.2.2.2.2.1)))) ++ [Value.int .i64 r.1.2.2]))⟩, .int .i64 r.2]) ∧ St b (stl []) w' := by
  unfold shadowboxref08_Open.f at H
  refine enterb (n := 82) Try.func27 rfl (by kernel_rfl) (by kernel_rfl) hs0 ?_
  refine cs_sub (s0) (sub_nil _) ?_
  refine cs_seq ?_
  refine cs_region (l := [_, _]) ?_
  refine ls_new rfl rfl (by kernel_rfl) 0 (fun g => .pointer (some ⟨g, 0, none⟩)) (.cells ⟨([Value.int .i64 (0 : Int)] ++ (([Value.int .i64 (0 : Int)] ++ ([Value.int .i64 (0 : Int)] ++ ([Value.int .i64 (0 : Int)] ++ ([Value.int .u32 (0 : Int)] ++ en (Value.int .u8) (vrep 32 (0 : Int)).1)))) ++ [Value.int .i64 (0 : Int)]))⟩ 47) (fun w => by kernel_rfl) ?_
  intro g1
  refine ls_val (v := .int .i64 (0 : Int)) rfl rfl (by kernel_rfl) (fun w => by kernel_rfl) ?_
  refine ls_end ?_
  refine qn_then ?_
  refine cs_cut (fun f S => ∃ (fR : Fr), f = upd (upd fR 0 (.slice A0 l0.length c0)) 2 (.pointer (some ⟨g1, 0, none⟩)) ∧ S = sput s0 0 (some (Ck.var 47 g1 (([Value.int .i64 (0 : Int)] ++ (([Value.int .i64 (0 : Int)] ++ ([Value.int .i64 (0 : Int)] ++ ([Value.int .i64 (0 : Int)] ++ ([Value.int .u32 (0 : Int)] ++ en (Value.int .u8) (vrep 32 (0 : Int)).1)))) ++ [Value.int .i64 (0 : Int)]))))) ∧ shadowboxref08_Open.jo1 k l0 = some r) ?_ ?_
  · skip
    refine cs_seq ?_
    refine cs_region (l := [_, _, _]) ?_
    refine ls_val (v := .slice A0 l0.length c0) rfl rfl (by kernel_rfl) (fun w => by kernel_rfl) ?_
    refine ls_val (v := .int .i64 (l0.length : Int)) rfl rfl (by kernel_rfl) (fun w => by kernel_rfl) ?_
    refine ls_val (v := .bool (decide ((l0.length : Int) < (512 : Int)))) rfl rfl (by kernel_rfl) (fun w => by kernel_rfl) ?_
    refine ls_end ?_
    refine qn_then ?_
    by_cases q88 : (l0.length : Int) < (512 : Int)
    · replace H := ite_t q88 H
      refine cs_know (c := true) (dec_t q88) 21 (by kernel_rfl) ?_
      refine cs_true (by kernel_rfl) ?_
      refine cs_seq ?_
      refine cs_region (l := [_, _, _]) ?_
      refine ls_build (ps := []) (pl := #[(0, 1), (1, 36), (37, 1)]) (zv := .agg ⟨([Value.int .i64 (0 : Int)] ++ (([Value.int .i64 (0 : Int)] ++ ([Value.int .i64 (0 : Int)] ++ ([Value.int .i64 (0 : Int)] ++ ([Value.int .u32 (0 : Int)] ++ en (Value.int .u8) (vrep 32 (0 : Int)).1)))) ++ [Value.int .i64 (0 : Int)]))⟩) (zc := ([Value.int .i64 (0 : Int)] ++ (([Value.int .i64 (0 : Int)] ++ ([Value.int .i64 (0 : Int)] ++ ([Value.int .i64 (0 : Int)] ++ ([Value.int .u32 (0 : Int)] ++ en (Value.int .u8) (vrep 32 (0 : Int)).1)))) ++ [Value.int .i64 (0 : Int)]))) (r := ([Value.int .i64 (0 : Int)] ++ (([Value.int .i64 (0 : Int)] ++ ([Value.int .i64 (0 : Int)] ++ ([Value.int .i64 (0 : Int)] ++ ([Value.int .u32 (0 : Int)] ++ en (Value.int .u8) (vrep 32 (0 : Int)).1)))) ++ [Value.int .i64 (0 : Int)]))) rfl rfl (by kernel_rfl) rfl (by kernel_rfl) (by kernel_rfl) (fun w => by kernel_rfl) (fun w => by kernel_rfl) rfl fill_nil ?_
      refine ls_storec (g := g1) (off := 0) (v := .agg ⟨([Value.int .i64 (0 : Int)] ++ (([Value.int .i64 (0 : Int)] ++ ([Value.int .i64 (0 : Int)] ++ ([Value.int .i64 (0 : Int)] ++ ([Value.int .u32 (0 : Int)] ++ en (Value.int .u8) (vrep 32 (0 : Int)).1)))) ++ [Value.int .i64 (0 : Int)]))⟩) (vs := ([Value.int .i64 (0 : Int)] ++ (([Value.int .i64 (0 : Int)] ++ ([Value.int .i64 (0 : Int)] ++ ([Value.int .i64 (0 : Int)] ++ ([Value.int .u32 (0 : Int)] ++ en (Value.int .u8) (vrep 32 (0 : Int)).1)))) ++ [Value.int .i64 (0 : Int)]))) (cs := ([Value.int .i64 (0 : Int)] ++ (([Value.int .i64 (0 : Int)] ++ ([Value.int .i64 (0 : Int)] ++ ([Value.int .i64 (0 : Int)] ++ ([Value.int .u32 (0 : Int)] ++ en (Value.int .u8) (vrep 32 (0 : Int)).1)))) ++ [Value.int .i64 (0 : Int)]))) (ty := 47) 0 rfl rfl rfl (by kernel_rfl) (by kernel_rfl) (by kernel_rfl) (by exact rfl) (by kernel_rfl) (len_app (len1 _) (len_app (len_app (len1 _) (len_app (len1 _) (len_app (len1 _) (len_app (len1 _) (len_en _ (vrep 32 (0 : Int))))))) (len1 _))) (one_app (one_cons rfl one_nil) (one_app (one_app (one_cons rfl one_nil) (one_app (one_cons rfl one_nil) (one_app (one_cons rfl one_nil) (one_app (one_cons rfl one_nil) (one_en (fun _ => rfl) _))))) (one_cons rfl one_nil))) (hl_of (Sub4.all _) (len_eq (len_app (len1 _) (len_app (len_app (len1 _) (len_app (len1 _) (len_app (len1 _) (len_app (len1 _) (len_en _ (vrep 32 (0 : Int))))))) (len1 _))) (len_app (len1 _) (len_app (len_app (len1 _) (len_app (len1 _) (len_app (len1 _) (len_app (len1 _) (len_en _ (vrep 32 (0 : Int))))))) (len1 _))))) (cs' := ([Value.int .i64 (0 : Int)] ++ (([Value.int .i64 (0 : Int)] ++ ([Value.int .i64 (0 : Int)] ++ ([Value.int .i64 (0 : Int)] ++ ([Value.int .u32 (0 : Int)] ++ en (Value.int .u8) (vrep 32 (0 : Int)).1)))) ++ [Value.int .i64 (0 : Int)]))) (splc_all (len_eq (len_app (len1 _) (len_app (len_app (len1 _) (len_app (len1 _) (len_app (len1 _) (len_app (len1 _) (len_en _ (vrep 32 (0 : Int))))))) (len1 _))) (len_app (len1 _) (len_app (len_app (len1 _) (len_app (len1 _) (len_app (len1 _) (len_app (len1 _) (len_en _ (vrep 32 (0 : Int))))))) (len1 _))))) ?_
      refine ls_val (v := .int .i64 (10 : Int)) rfl rfl (by kernel_rfl) (fun w => by kernel_rfl) ?_
      refine ls_end ?_
      refine qn_then ?_
      refine cs_ret' ?_
      refine qr_then ?_
      obtain rfl := Option.some.inj H
      refine qr_res (rs := [_, _]) rfl (fun w' hs => ⟨[.agg ⟨([Value.int .i64 (0 : Int)] ++ (([Value.int .i64 (0 : Int)] ++ ([Value.int .i64 (0 : Int)] ++ ([Value.int .i64 (0 : Int)] ++ ([Value.int .u32 (0 : Int)] ++ en (Value.int .u8) (vrep 32 (0 : Int)).1)))) ++ [Value.int .i64 (0 : Int)]))⟩, .int .i64 (10 : Int)], (.cell (by kernel_rfl) (run_cellres (by kernel_rfl) (by kernel_rfl) (len_app (len1 _) (len_app (len_app (len1 _) (len_app (len1 _) (len_app (len1 _) (len_app (len1 _) (len_en _ (vrep 32 (0 : Int))))))) (len1 _))) (hs.holds 0 _ (by exact rfl))) (res_tmp (by kernel_rfl) (.nil))), (), rfl, hs.pick (ts := []) (cs := []) trivial (by decide)⟩)
    · replace H := ite_f q88 H
      refine cs_know (c := false) (dec_f q88) 21 (by kernel_rfl) ?_
      refine cs_false (by kernel_rfl) ?_
      refine cs_skip' ?_
      refine qn_meet (sput s0 0 (some (Ck.var 47 g1 (([Value.int .i64 (0 : Int)] ++ (([Value.int .i64 (0 : Int)] ++ ([Value.int .i64 (0 : Int)] ++ ([Value.int .i64 (0 : Int)] ++ ([Value.int .u32 (0 : Int)] ++ en (Value.int .u8) (vrep 32 (0 : Int)).1)))) ++ [Value.int .i64 (0 : Int)])))))) ⟨_, fr_next (fr_next (rfl) (by kernel_rfl)) (by kernel_rfl), rfl, H⟩ (sub_put (by exact rfl) (sub_nil _))
  · rintro f S ⟨fr1, rfl, rfl, H⟩
    replace H : ((if (512 : Int) ≤ (l0.length : Int) then lt (l0.take ((512 : Int)).toNat) fun xl7 => (if (504 : Int) ≤ (xl7.length : Int) then (if (500 : Int) ≤ (504 : Int) then lt ((xl7.take ((504 : Int)).toNat).drop ((500 : Int)).toNat) fun xl18 => (shadowboxref01_Take.f k xl18 (4 : Int)).bind fun t23 => (if (500 : Int) ≤ (xl7.length : Int) then lt (xl7.take ((500 : Int)).toNat) fun xl79 => (shadowboxref02_Go.f k (0 : Int) xl79).bind fun t84 => (if (IntKind.wrap .u32 t23.1) = t84 then (shadowboxref08_Open.jo2 k xl7) else some (((0 : Int), ((0 : Int), (0 : Int), (0 : Int), (0 : Int), (vrep 32 (0 : Int))), (0 : Int)), (12 : Int))) else none) else none) else none) else none)) = some r := H
    refine cs_seq ?_
    refine cs_region (l := [_, _, _]) ?_
    refine ls_val (v := .slice A0 l0.length c0) rfl rfl (by kernel_rfl) (fun w => by kernel_rfl) ?_
    obtain ⟨q2, H⟩ := ite_need H
    obtain ⟨xl7, hy8, H⟩ := lt_some H
    have hz10 : 0 ≤ ((512 : Int)).toNat := by omega
    have hz11 : ((512 : Int)).toNat ≤ l0.length := by omega
    obtain ⟨xA3, xc4, he9, xC6, xR5⟩ := cut_at (A := A0) (c := c0) (l := l0) (Ec.int 5 .u8) 0 (((512 : Int)).toNat) hz10 hz11 C0 R0 (m := xl7) (by rw [← hy8] <;> simp) (z := 1) rfl
    refine ls_cutv (A := A0) (c := c0) (m := l0.length) (z := 1) (e := 5) (a := 0) (b := ((512 : Int)).toNat) rfl rfl (by kernel_rfl) rfl (by kernel_rfl) (by kernel_rfl) (by kernel_rfl) (.inl ⟨rfl, rfl⟩) (.inr ⟨.i64, by rw [Int.toNat_of_nonneg (by first | assumption | omega)]; kernel_rfl⟩) hz10 hz11 C0 he9 ?_
    refine ls_val (v := .slice xA3 xl7.length xc4) rfl rfl (by kernel_rfl) (fun w => by kernel_rfl) ?_
    refine ls_end ?_
    refine qn_then ?_
    refine cs_seq ?_
    refine cs_region (l := [_, _, _, _, _, _, _, _, _, _]) ?_
    refine ls_val (v := .slice xA3 xl7.length xc4) rfl rfl (by kernel_rfl) (fun w => by kernel_rfl) ?_
    obtain ⟨q12, H⟩ := ite_need H
    obtain ⟨q13, H⟩ := ite_need H
    obtain ⟨xl18, hy19, H⟩ := lt_some H
    have hz21 : ((500 : Int)).toNat ≤ ((504 : Int)).toNat := by omega
    have hz22 : ((504 : Int)).toNat ≤ xl7.length := by omega
    obtain ⟨xA14, xc15, he20, xC17, xR16⟩ := cut_at (A := xA3) (c := xc4) (l := xl7) (Ec.int 5 .u8) (((500 : Int)).toNat) (((504 : Int)).toNat) hz21 hz22 xC6 xR5 (m := xl18) (by rw [← hy19] <;> simp) (z := 1) rfl
    refine ls_cutv (A := xA3) (c := xc4) (m := xl7.length) (z := 1) (e := 5) (a := ((500 : Int)).toNat) (b := ((504 : Int)).toNat) rfl rfl (by kernel_rfl) rfl (by kernel_rfl) (by kernel_rfl) (by kernel_rfl) (.inr ⟨.i64, by rw [Int.toNat_of_nonneg (by first | assumption | omega)]; kernel_rfl⟩) (.inr ⟨.i64, by rw [Int.toNat_of_nonneg (by first | assumption | omega)]; kernel_rfl⟩) hz21 hz22 xC6 he20 ?_
    obtain ⟨t23, hc24, H⟩ := bind_some H
    refine ls_callb (fid := 32) (vals := #[.slice xA14 xl18.length xc15, .int .i64 (4 : Int)]) (X := (Option Addr × Nat)) (fun x => .tuple #[.int .u64 t23.1, .slice x.1 t23.2.1.length x.2, .bool t23.2.2]) (fun x => stl [Ck.sl (Ec.int 5 .u8) x.1 x.2 t23.2.1]) [] [] [] [] 1 rfl rfl (by kernel_rfl) (fun w => by kernel_rfl) trivial trivial (by decide) (fun w hs hb => shadowboxref01_Take.calls k xA14 xc15 xl18 (4 : Int) t23 (lent b w [] []) hb (hs.ro xR16 _ _) xC17 hc24) ?_
    intro x25
    refine ls_val (v := .tuple #[.int .u64 t23.1, .slice x25.1 t23.2.1.length x25.2, .bool t23.2.2]) rfl rfl (by kernel_rfl) (fun w => by kernel_rfl) ?_
    refine ls_val (v := .int .u64 t23.1) rfl rfl (by kernel_rfl) (fun w => by kernel_rfl) ?_
    refine ls_val (v := .slice x25.1 t23.2.1.length x25.2) rfl rfl (by kernel_rfl) (fun w => by kernel_rfl) ?_
    refine ls_val (v := .bool t23.2.2) rfl rfl (by kernel_rfl) (fun w => by kernel_rfl) ?_
    refine ls_val (v := .int .u64 t23.1) rfl rfl (by kernel_rfl) (fun w => by kernel_rfl) ?_
    refine ls_val (v := .slice x25.1 t23.2.1.length x25.2) rfl rfl (by kernel_rfl) (fun w => by kernel_rfl) ?_
    refine ls_val (v := .bool t23.2.2) rfl rfl (by kernel_rfl) (fun w => by kernel_rfl) ?_
    refine ls_end ?_
    refine qn_then ?_
    refine cs_cut (fun f S => ∃ (fR : Fr), f = upd (upd fR 0 (.slice xA3 xl7.length xc4)) 2 (.pointer (some ⟨g1, 0, none⟩)) ∧ S = sput s0 0 (some (Ck.var 47 g1 (([Value.int .i64 (0 : Int)] ++ (([Value.int .i64 (0 : Int)] ++ ([Value.int .i64 (0 : Int)] ++ ([Value.int .i64 (0 : Int)] ++ ([Value.int .u32 (0 : Int)] ++ en (Value.int .u8) (vrep 32 (0 : Int)).1)))) ++ [Value.int .i64 (0 : Int)]))))) ∧ shadowboxref08_Open.jo2 k xl7 = some r) ?_ ?_
    · skip
      refine cs_seq ?_
      refine cs_region (l := [_, _, _, _, _, _]) ?_
      refine ls_val (v := .int .u64 t23.1) rfl rfl (by kernel_rfl) (fun w => by kernel_rfl) ?_
      refine ls_val (v := .int .u32 (IntKind.wrap .u32 t23.1)) rfl rfl (by kernel_rfl) (fun w => by kernel_rfl) ?_
      refine ls_val (v := .slice xA3 xl7.length xc4) rfl rfl (by kernel_rfl) (fun w => by kernel_rfl) ?_
      obtain ⟨q74, H⟩ := ite_need H
      obtain ⟨xl79, hy80, H⟩ := lt_some H
      have hz82 : 0 ≤ ((500 : Int)).toNat := by omega
      have hz83 : ((500 : Int)).toNat ≤ xl7.length := by omega
      obtain ⟨xA75, xc76, he81, xC78, xR77⟩ := cut_at (A := xA3) (c := xc4) (l := xl7) (Ec.int 5 .u8) 0 (((500 : Int)).toNat) hz82 hz83 xC6 xR5 (m := xl79) (by rw [← hy80] <;> simp) (z := 1) rfl
      refine ls_cutv (A := xA3) (c := xc4) (m := xl7.length) (z := 1) (e := 5) (a := 0) (b := ((500 : Int)).toNat) rfl rfl (by kernel_rfl) rfl (by kernel_rfl) (by kernel_rfl) (by kernel_rfl) (.inl ⟨rfl, rfl⟩) (.inr ⟨.i64, by rw [Int.toNat_of_nonneg (by first | assumption | omega)]; kernel_rfl⟩) hz82 hz83 xC6 he81 ?_
      obtain ⟨t84, hc85, H⟩ := bind_some H
      refine ls_callb (fid := 38) (vals := #[.int .u32 (0 : Int), .slice xA75 xl79.length xc76]) (X := Unit) (fun x => .int .u32 t84) (fun x => stl []) [] [] [] [] 2 rfl rfl (by kernel_rfl) (fun w => by kernel_rfl) trivial trivial (by decide) (fun w hs hb => shadowboxref02_Go.calls k (0 : Int) xA75 xc76 xl79 t84 (lent b w [] []) hb (hs.ro xR77 _ _) xC78 hc85) ?_
      intro x86
      refine ls_val (v := .bool (!decide ((IntKind.wrap .u32 t23.1) = t84))) rfl rfl (by kernel_rfl) (fun w => by kernel_rfl) ?_
      refine ls_end ?_
      refine qn_then ?_
      by_cases q87 : (IntKind.wrap .u32 t23.1) = t84
      · replace H := ite_t q87 H
        refine cs_know (c := false) (congrArg Bool.not (dec_t q87)) 37 (by kernel_rfl) ?_
        refine cs_false (by kernel_rfl) ?_
        refine cs_skip' ?_
        refine qn_meet (sput s0 0 (some (Ck.var 47 g1 (([Value.int .i64 (0 : Int)] ++ (([Value.int .i64 (0 : Int)] ++ ([Value.int .i64 (0 : Int)] ++ ([Value.int .i64 (0 : Int)] ++ ([Value.int .u32 (0 : Int)] ++ en (Value.int .u8) (vrep 32 (0 : Int)).1)))) ++ [Value.int .i64 (0 : Int)])))))) ⟨_, fr_next (fr_next (rfl) (by kernel_rfl)) (by kernel_rfl), rfl, H⟩ (sub_put (by exact rfl) (sub_nil _))
      · replace H := ite_f q87 H
        refine cs_know (c := true) (congrArg Bool.not (dec_f q87)) 37 (by kernel_rfl) ?_
        refine cs_true (by kernel_rfl) ?_
        refine cs_seq ?_
        refine cs_region (l := [_, _, _]) ?_
        refine ls_build (ps := []) (pl := #[(0, 1), (1, 36), (37, 1)]) (zv := .agg ⟨([Value.int .i64 (0 : Int)] ++ (([Value.int .i64 (0 : Int)] ++ ([Value.int .i64 (0 : Int)] ++ ([Value.int .i64 (0 : Int)] ++ ([Value.int .u32 (0 : Int)] ++ en (Value.int .u8) (vrep 32 (0 : Int)).1)))) ++ [Value.int .i64 (0 : Int)]))⟩) (zc := ([Value.int .i64 (0 : Int)] ++ (([Value.int .i64 (0 : Int)] ++ ([Value.int .i64 (0 : Int)] ++ ([Value.int .i64 (0 : Int)] ++ ([Value.int .u32 (0 : Int)] ++ en (Value.int .u8) (vrep 32 (0 : Int)).1)))) ++ [Value.int .i64 (0 : Int)]))) (r := ([Value.int .i64 (0 : Int)] ++ (([Value.int .i64 (0 : Int)] ++ ([Value.int .i64 (0 : Int)] ++ ([Value.int .i64 (0 : Int)] ++ ([Value.int .u32 (0 : Int)] ++ en (Value.int .u8) (vrep 32 (0 : Int)).1)))) ++ [Value.int .i64 (0 : Int)]))) rfl rfl (by kernel_rfl) rfl (by kernel_rfl) (by kernel_rfl) (fun w => by kernel_rfl) (fun w => by kernel_rfl) rfl fill_nil ?_
        refine ls_storec (g := g1) (off := 0) (v := .agg ⟨([Value.int .i64 (0 : Int)] ++ (([Value.int .i64 (0 : Int)] ++ ([Value.int .i64 (0 : Int)] ++ ([Value.int .i64 (0 : Int)] ++ ([Value.int .u32 (0 : Int)] ++ en (Value.int .u8) (vrep 32 (0 : Int)).1)))) ++ [Value.int .i64 (0 : Int)]))⟩) (vs := ([Value.int .i64 (0 : Int)] ++ (([Value.int .i64 (0 : Int)] ++ ([Value.int .i64 (0 : Int)] ++ ([Value.int .i64 (0 : Int)] ++ ([Value.int .u32 (0 : Int)] ++ en (Value.int .u8) (vrep 32 (0 : Int)).1)))) ++ [Value.int .i64 (0 : Int)]))) (cs := ([Value.int .i64 (0 : Int)] ++ (([Value.int .i64 (0 : Int)] ++ ([Value.int .i64 (0 : Int)] ++ ([Value.int .i64 (0 : Int)] ++ ([Value.int .u32 (0 : Int)] ++ en (Value.int .u8) (vrep 32 (0 : Int)).1)))) ++ [Value.int .i64 (0 : Int)]))) (ty := 47) 0 rfl rfl rfl (by kernel_rfl) (by kernel_rfl) (by kernel_rfl) (by exact rfl) (by kernel_rfl) (len_app (len1 _) (len_app (len_app (len1 _) (len_app (len1 _) (len_app (len1 _) (len_app (len1 _) (len_en _ (vrep 32 (0 : Int))))))) (len1 _))) (one_app (one_cons rfl one_nil) (one_app (one_app (one_cons rfl one_nil) (one_app (one_cons rfl one_nil) (one_app (one_cons rfl one_nil) (one_app (one_cons rfl one_nil) (one_en (fun _ => rfl) _))))) (one_cons rfl one_nil))) (hl_of (Sub4.all _) (len_eq (len_app (len1 _) (len_app (len_app (len1 _) (len_app (len1 _) (len_app (len1 _) (len_app (len1 _) (len_en _ (vrep 32 (0 : Int))))))) (len1 _))) (len_app (len1 _) (len_app (len_app (len1 _) (len_app (len1 _) (len_app (len1 _) (len_app (len1 _) (len_en _ (vrep 32 (0 : Int))))))) (len1 _))))) (cs' := ([Value.int .i64 (0 : Int)] ++ (([Value.int .i64 (0 : Int)] ++ ([Value.int .i64 (0 : Int)] ++ ([Value.int .i64 (0 : Int)] ++ ([Value.int .u32 (0 : Int)] ++ en (Value.int .u8) (vrep 32 (0 : Int)).1)))) ++ [Value.int .i64 (0 : Int)]))) (splc_all (len_eq (len_app (len1 _) (len_app (len_app (len1 _) (len_app (len1 _) (len_app (len1 _) (len_app (len1 _) (len_en _ (vrep 32 (0 : Int))))))) (len1 _))) (len_app (len1 _) (len_app (len_app (len1 _) (len_app (len1 _) (len_app (len1 _) (len_app (len1 _) (len_en _ (vrep 32 (0 : Int))))))) (len1 _))))) ?_
        refine ls_val (v := .int .i64 (12 : Int)) rfl rfl (by kernel_rfl) (fun w => by kernel_rfl) ?_
        refine ls_end ?_
        refine qn_then ?_
        refine cs_ret' ?_
        refine qr_then ?_
        obtain rfl := Option.some.inj H
        refine qr_res (rs := [_, _]) rfl (fun w' hs => ⟨[.agg ⟨([Value.int .i64 (0 : Int)] ++ (([Value.int .i64 (0 : Int)] ++ ([Value.int .i64 (0 : Int)] ++ ([Value.int .i64 (0 : Int)] ++ ([Value.int .u32 (0 : Int)] ++ en (Value.int .u8) (vrep 32 (0 : Int)).1)))) ++ [Value.int .i64 (0 : Int)]))⟩, .int .i64 (12 : Int)], (.cell (by kernel_rfl) (run_cellres (by kernel_rfl) (by kernel_rfl) (len_app (len1 _) (len_app (len_app (len1 _) (len_app (len1 _) (len_app (len1 _) (len_app (len1 _) (len_en _ (vrep 32 (0 : Int))))))) (len1 _))) (hs.holds 0 _ (by exact rfl))) (res_tmp (by kernel_rfl) (.nil))), (), rfl, hs.pick (ts := []) (cs := []) trivial (by decide)⟩)
    · rintro f S ⟨fr2, rfl, rfl, H⟩
      replace H : ((if (8 : Int) ≤ (xl7.length : Int) then lt (xl7.take ((8 : Int)).toNat) fun xl31 => (shadowboxref01_Take.f k xl31 (8 : Int)).bind fun t36 => (if (20 : Int) ≤ (xl7.length : Int) then (if (12 : Int) ≤ (20 : Int) then lt ((xl7.take ((20 : Int)).toNat).drop ((12 : Int)).toNat) fun xl45 => (shadowboxref01_Take.f k xl45 (8 : Int)).bind fun t50 => (if (72 : Int) ≤ (xl7.length : Int) then (if (20 : Int) ≤ (72 : Int) then lt ((xl7.take ((72 : Int)).toNat).drop ((20 : Int)).toNat) fun xl59 => (shadowboxref06_Read.f k xl59).bind fun t64 => (shadowboxref08_Seal.f k (IntKind.wrap .i64 t36.1, t64.1, IntKind.wrap .i64 t50.1)).bind fun t69 => (if t69.2.2 = (0 : Int) then (if ((strOfNums t69.1).toList == (strOfNums xl7).toList) = true then some ((IntKind.wrap .i64 t36.1, t64.1, IntKind.wrap .i64 t50.1), (0 : Int)) else some (((0 : Int), ((0 : Int), (0 : Int), (0 : Int), (0 : Int), (vrep 32 (0 : Int))), (0 : Int)), (11 : Int))) else some (((0 : Int), ((0 : Int), (0 : Int), (0 : Int), (0 : Int), (vrep 32 (0 : Int))), (0 : Int)), (11 : Int))) else none) else none) else none) else none) else none)) = some r := H
      refine cs_seq ?_
      refine cs_region (l := [_, _, _, _, _, _, _, _, _, _]) ?_
      refine ls_val (v := .slice xA3 xl7.length xc4) rfl rfl (by kernel_rfl) (fun w => by kernel_rfl) ?_
      obtain ⟨q26, H⟩ := ite_need H
      obtain ⟨xl31, hy32, H⟩ := lt_some H
      have hz34 : 0 ≤ ((8 : Int)).toNat := by omega
      have hz35 : ((8 : Int)).toNat ≤ xl7.length := by omega
      obtain ⟨xA27, xc28, he33, xC30, xR29⟩ := cut_at (A := xA3) (c := xc4) (l := xl7) (Ec.int 5 .u8) 0 (((8 : Int)).toNat) hz34 hz35 xC6 xR5 (m := xl31) (by rw [← hy32] <;> simp) (z := 1) rfl
      refine ls_cutv (A := xA3) (c := xc4) (m := xl7.length) (z := 1) (e := 5) (a := 0) (b := ((8 : Int)).toNat) rfl rfl (by kernel_rfl) rfl (by kernel_rfl) (by kernel_rfl) (by kernel_rfl) (.inl ⟨rfl, rfl⟩) (.inr ⟨.i64, by rw [Int.toNat_of_nonneg (by first | assumption | omega)]; kernel_rfl⟩) hz34 hz35 xC6 he33 ?_
      obtain ⟨t36, hc37, H⟩ := bind_some H
      refine ls_callb (fid := 32) (vals := #[.slice xA27 xl31.length xc28, .int .i64 (8 : Int)]) (X := (Option Addr × Nat)) (fun x => .tuple #[.int .u64 t36.1, .slice x.1 t36.2.1.length x.2, .bool t36.2.2]) (fun x => stl [Ck.sl (Ec.int 5 .u8) x.1 x.2 t36.2.1]) [] [] [] [] 2 rfl rfl (by kernel_rfl) (fun w => by kernel_rfl) trivial trivial (by decide) (fun w hs hb => shadowboxref01_Take.calls k xA27 xc28 xl31 (8 : Int) t36 (lent b w [] []) hb (hs.ro xR29 _ _) xC30 hc37) ?_
      intro x38
      refine ls_val (v := .tuple #[.int .u64 t36.1, .slice x38.1 t36.2.1.length x38.2, .bool t36.2.2]) rfl rfl (by kernel_rfl) (fun w => by kernel_rfl) ?_
      refine ls_val (v := .int .u64 t36.1) rfl rfl (by kernel_rfl) (fun w => by kernel_rfl) ?_
      refine ls_val (v := .slice x38.1 t36.2.1.length x38.2) rfl rfl (by kernel_rfl) (fun w => by kernel_rfl) ?_
      refine ls_val (v := .bool t36.2.2) rfl rfl (by kernel_rfl) (fun w => by kernel_rfl) ?_
      refine ls_val (v := .int .u64 t36.1) rfl rfl (by kernel_rfl) (fun w => by kernel_rfl) ?_
      refine ls_val (v := .slice x38.1 t36.2.1.length x38.2) rfl rfl (by kernel_rfl) (fun w => by kernel_rfl) ?_
      refine ls_val (v := .bool t36.2.2) rfl rfl (by kernel_rfl) (fun w => by kernel_rfl) ?_
      refine ls_end ?_
      refine qn_then ?_
      refine cs_seq ?_
      refine cs_region (l := [_, _, _, _, _, _, _, _, _, _]) ?_
      refine ls_val (v := .slice xA3 xl7.length xc4) rfl rfl (by kernel_rfl) (fun w => by kernel_rfl) ?_
      obtain ⟨q39, H⟩ := ite_need H
      obtain ⟨q40, H⟩ := ite_need H
      obtain ⟨xl45, hy46, H⟩ := lt_some H
      have hz48 : ((12 : Int)).toNat ≤ ((20 : Int)).toNat := by omega
      have hz49 : ((20 : Int)).toNat ≤ xl7.length := by omega
      obtain ⟨xA41, xc42, he47, xC44, xR43⟩ := cut_at (A := xA3) (c := xc4) (l := xl7) (Ec.int 5 .u8) (((12 : Int)).toNat) (((20 : Int)).toNat) hz48 hz49 xC6 xR5 (m := xl45) (by rw [← hy46] <;> simp) (z := 1) rfl
      refine ls_cutv (A := xA3) (c := xc4) (m := xl7.length) (z := 1) (e := 5) (a := ((12 : Int)).toNat) (b := ((20 : Int)).toNat) rfl rfl (by kernel_rfl) rfl (by kernel_rfl) (by kernel_rfl) (by kernel_rfl) (.inr ⟨.i64, by rw [Int.toNat_of_nonneg (by first | assumption | omega)]; kernel_rfl⟩) (.inr ⟨.i64, by rw [Int.toNat_of_nonneg (by first | assumption | omega)]; kernel_rfl⟩) hz48 hz49 xC6 he47 ?_
      obtain ⟨t50, hc51, H⟩ := bind_some H
      refine ls_callb (fid := 32) (vals := #[.slice xA41 xl45.length xc42, .int .i64 (8 : Int)]) (X := (Option Addr × Nat)) (fun x => .tuple #[.int .u64 t50.1, .slice x.1 t50.2.1.length x.2, .bool t50.2.2]) (fun x => stl [Ck.sl (Ec.int 5 .u8) x.1 x.2 t50.2.1]) [] [] [] [] 3 rfl rfl (by kernel_rfl) (fun w => by kernel_rfl) trivial trivial (by decide) (fun w hs hb => shadowboxref01_Take.calls k xA41 xc42 xl45 (8 : Int) t50 (lent b w [] []) hb (hs.ro xR43 _ _) xC44 hc51) ?_
      intro x52
      refine ls_val (v := .tuple #[.int .u64 t50.1, .slice x52.1 t50.2.1.length x52.2, .bool t50.2.2]) rfl rfl (by kernel_rfl) (fun w => by kernel_rfl) ?_
      refine ls_val (v := .int .u64 t50.1) rfl rfl (by kernel_rfl) (fun w => by kernel_rfl) ?_
      refine ls_val (v := .slice x52.1 t50.2.1.length x52.2) rfl rfl (by kernel_rfl) (fun w => by kernel_rfl) ?_
      refine ls_val (v := .bool t50.2.2) rfl rfl (by kernel_rfl) (fun w => by kernel_rfl) ?_
      refine ls_val (v := .int .u64 t50.1) rfl rfl (by kernel_rfl) (fun w => by kernel_rfl) ?_
      refine ls_val (v := .slice x52.1 t50.2.1.length x52.2) rfl rfl (by kernel_rfl) (fun w => by kernel_rfl) ?_
      refine ls_val (v := .bool t50.2.2) rfl rfl (by kernel_rfl) (fun w => by kernel_rfl) ?_
      refine ls_end ?_
      refine qn_then ?_
      refine cs_seq ?_
      refine cs_region (l := [_, _, _, _, _, _, _, _, _]) ?_
      refine ls_val (v := .slice xA3 xl7.length xc4) rfl rfl (by kernel_rfl) (fun w => by kernel_rfl) ?_
      obtain ⟨q53, H⟩ := ite_need H
      obtain ⟨q54, H⟩ := ite_need H
      obtain ⟨xl59, hy60, H⟩ := lt_some H
      have hz62 : ((20 : Int)).toNat ≤ ((72 : Int)).toNat := by omega
      have hz63 : ((72 : Int)).toNat ≤ xl7.length := by omega
      obtain ⟨xA55, xc56, he61, xC58, xR57⟩ := cut_at (A := xA3) (c := xc4) (l := xl7) (Ec.int 5 .u8) (((20 : Int)).toNat) (((72 : Int)).toNat) hz62 hz63 xC6 xR5 (m := xl59) (by rw [← hy60] <;> simp) (z := 1) rfl
      refine ls_cutv (A := xA3) (c := xc4) (m := xl7.length) (z := 1) (e := 5) (a := ((20 : Int)).toNat) (b := ((72 : Int)).toNat) rfl rfl (by kernel_rfl) rfl (by kernel_rfl) (by kernel_rfl) (by kernel_rfl) (.inr ⟨.i64, by rw [Int.toNat_of_nonneg (by first | assumption | omega)]; kernel_rfl⟩) (.inr ⟨.i64, by rw [Int.toNat_of_nonneg (by first | assumption | omega)]; kernel_rfl⟩) hz62 hz63 xC6 he61 ?_
      obtain ⟨t64, hc65, H⟩ := bind_some H
      refine ls_callb (fid := 11) (vals := #[.slice xA55 xl59.length xc56]) (X := Unit) (fun x => .tuple #[.agg ⟨([Value.int .i64 t64.1.1] ++ ([Value.int .i64 t64.1.2.1] ++ ([Value.int .i64 t64.1.2.2.1] ++ ([Value.int .u32 t64.1.2.2.2.1] ++ en (Value.int .u8) t64.1.2.2.2.2.1))))⟩, .int .i64 t64.2]) (fun x => stl []) [] [] [] [] 4 rfl rfl (by kernel_rfl) (fun w => by kernel_rfl) trivial trivial (by decide) (fun w hs hb => shadowboxref06_Read.calls k xA55 xc56 xl59 t64 (lent b w [] []) hb (hs.ro xR57 _ _) xC58 hc65) ?_
      intro x66
      refine ls_val (v := .tuple #[.agg ⟨([Value.int .i64 t64.1.1] ++ ([Value.int .i64 t64.1.2.1] ++ ([Value.int .i64 t64.1.2.2.1] ++ ([Value.int .u32 t64.1.2.2.2.1] ++ en (Value.int .u8) t64.1.2.2.2.2.1))))⟩, .int .i64 t64.2]) rfl rfl (by kernel_rfl) (fun w => by kernel_rfl) ?_
      refine ls_val (v := .agg ⟨([Value.int .i64 t64.1.1] ++ ([Value.int .i64 t64.1.2.1] ++ ([Value.int .i64 t64.1.2.2.1] ++ ([Value.int .u32 t64.1.2.2.2.1] ++ en (Value.int .u8) t64.1.2.2.2.2.1))))⟩) rfl rfl (by kernel_rfl) (fun w => by kernel_rfl) ?_
      refine ls_val (v := .int .i64 t64.2) rfl rfl (by kernel_rfl) (fun w => by kernel_rfl) ?_
      refine ls_new rfl rfl (by kernel_rfl) 4 (fun g => .pointer (some ⟨g, 0, none⟩)) (.cells ⟨([Value.int .i64 (0 : Int)] ++ ([Value.int .i64 (0 : Int)] ++ ([Value.int .i64 (0 : Int)] ++ ([Value.int .u32 (0 : Int)] ++ en (Value.int .u8) (vrep 32 (0 : Int)).1))))⟩ 25) (fun w => by kernel_rfl) ?_
      intro g67
      refine ls_storec (g := g67) (off := 0) (v := .agg ⟨([Value.int .i64 t64.1.1] ++ ([Value.int .i64 t64.1.2.1] ++ ([Value.int .i64 t64.1.2.2.1] ++ ([Value.int .u32 t64.1.2.2.2.1] ++ en (Value.int .u8) t64.1.2.2.2.2.1))))⟩) (vs := ([Value.int .i64 t64.1.1] ++ ([Value.int .i64 t64.1.2.1] ++ ([Value.int .i64 t64.1.2.2.1] ++ ([Value.int .u32 t64.1.2.2.2.1] ++ en (Value.int .u8) t64.1.2.2.2.2.1))))) (cs := ([Value.int .i64 (0 : Int)] ++ ([Value.int .i64 (0 : Int)] ++ ([Value.int .i64 (0 : Int)] ++ ([Value.int .u32 (0 : Int)] ++ en (Value.int .u8) (vrep 32 (0 : Int)).1))))) (ty := 25) 4 rfl rfl rfl (by kernel_rfl) (by kernel_rfl) (by kernel_rfl) (by exact rfl) (by kernel_rfl) (len_app (len1 _) (len_app (len1 _) (len_app (len1 _) (len_app (len1 _) (len_en _ t64.1.2.2.2.2))))) (one_app (one_cons rfl one_nil) (one_app (one_cons rfl one_nil) (one_app (one_cons rfl one_nil) (one_app (one_cons rfl one_nil) (one_en (fun _ => rfl) _))))) (hl_of (Sub4.all _) (len_eq (len_app (len1 _) (len_app (len1 _) (len_app (len1 _) (len_app (len1 _) (len_en _ t64.1.2.2.2.2))))) (len_app (len1 _) (len_app (len1 _) (len_app (len1 _) (len_app (len1 _) (len_en _ (vrep 32 (0 : Int))))))))) (cs' := ([Value.int .i64 t64.1.1] ++ ([Value.int .i64 t64.1.2.1] ++ ([Value.int .i64 t64.1.2.2.1] ++ ([Value.int .u32 t64.1.2.2.2.1] ++ en (Value.int .u8) t64.1.2.2.2.2.1))))) (splc_all (len_eq (len_app (len1 _) (len_app (len1 _) (len_app (len1 _) (len_app (len1 _) (len_en _ t64.1.2.2.2.2))))) (len_app (len1 _) (len_app (len1 _) (len_app (len1 _) (len_app (len1 _) (len_en _ (vrep 32 (0 : Int))))))))) ?_
      refine ls_val (v := .int .i64 t64.2) rfl rfl (by kernel_rfl) (fun w => by kernel_rfl) ?_
      refine ls_end ?_
      refine qn_then ?_
      refine cs_seq ?_
      refine cs_region (l := [_, _, _, _, _, _, _, _]) ?_
      refine ls_val (v := .int .u64 t36.1) rfl rfl (by kernel_rfl) (fun w => by kernel_rfl) ?_
      refine ls_val (v := .int .i64 (IntKind.wrap .i64 t36.1)) rfl rfl (by kernel_rfl) (fun w => by kernel_rfl) ?_
      refine ls_loadagg (a := ⟨g67, 0, none⟩) (sub := ([Value.int .i64 t64.1.1] ++ ([Value.int .i64 t64.1.2.1] ++ ([Value.int .i64 t64.1.2.2.1] ++ ([Value.int .u32 t64.1.2.2.2.1] ++ en (Value.int .u8) t64.1.2.2.2.2.1))))) rfl rfl (by kernel_rfl) rfl (by kernel_rfl) (by kernel_rfl) (by kernel_rfl) (len_app (len1 _) (len_app (len1 _) (len_app (len1 _) (len_app (len1 _) (len_en _ t64.1.2.2.2.2))))) (fun w hs => (hs.vars (k := 4) (by exact rfl) (Sub4.all _))) ?_
      refine ls_val (v := .int .u64 t50.1) rfl rfl (by kernel_rfl) (fun w => by kernel_rfl) ?_
      refine ls_val (v := .int .i64 (IntKind.wrap .i64 t50.1)) rfl rfl (by kernel_rfl) (fun w => by kernel_rfl) ?_
      refine ls_build (ps := [(0, .int .i64 (IntKind.wrap .i64 t36.1)), (1, .agg ⟨([Value.int .i64 t64.1.1] ++ ([Value.int .i64 t64.1.2.1] ++ ([Value.int .i64 t64.1.2.2.1] ++ ([Value.int .u32 t64.1.2.2.2.1] ++ en (Value.int .u8) t64.1.2.2.2.2.1))))⟩), (2, .int .i64 (IntKind.wrap .i64 t50.1))]) (pl := #[(0, 1), (1, 36), (37, 1)]) (zv := .agg ⟨([Value.int .i64 (0 : Int)] ++ (([Value.int .i64 (0 : Int)] ++ ([Value.int .i64 (0 : Int)] ++ ([Value.int .i64 (0 : Int)] ++ ([Value.int .u32 (0 : Int)] ++ en (Value.int .u8) (vrep 32 (0 : Int)).1)))) ++ [Value.int .i64 (0 : Int)]))⟩) (zc := ([Value.int .i64 (0 : Int)] ++ (([Value.int .i64 (0 : Int)] ++ ([Value.int .i64 (0 : Int)] ++ ([Value.int .i64 (0 : Int)] ++ ([Value.int .u32 (0 : Int)] ++ en (Value.int .u8) (vrep 32 (0 : Int)).1)))) ++ [Value.int .i64 (0 : Int)]))) (r := ([Value.int .i64 (IntKind.wrap .i64 t36.1)] ++ (([Value.int .i64 t64.1.1] ++ ([Value.int .i64 t64.1.2.1] ++ ([Value.int .i64 t64.1.2.2.1] ++ ([Value.int .u32 t64.1.2.2.2.1] ++ en (Value.int .u8) t64.1.2.2.2.2.1)))) ++ [Value.int .i64 (IntKind.wrap .i64 t50.1)]))) rfl rfl (by kernel_rfl) rfl (by kernel_rfl) (by kernel_rfl) (fun w => by kernel_rfl) (fun w => by kernel_rfl) rfl (fill_cons (vs := [Value.int .i64 (IntKind.wrap .i64 t36.1)]) (cs' := ([Value.int .i64 (IntKind.wrap .i64 t36.1)] ++ (([Value.int .i64 (0 : Int)] ++ ([Value.int .i64 (0 : Int)] ++ ([Value.int .i64 (0 : Int)] ++ ([Value.int .u32 (0 : Int)] ++ en (Value.int .u8) (vrep 32 (0 : Int)).1)))) ++ [Value.int .i64 (0 : Int)]))) (off := 0) (size := 1) rfl (by kernel_rfl) (len1 _) (le_of_len (len_app (len1 _) (len_app (len_app (len1 _) (len_app (len1 _) (len_app (len1 _) (len_app (len1 _) (len_en _ (vrep 32 (0 : Int))))))) (len1 _))) (by decide)) (splc_in (Sub4.all _) (splc_head (len_eq (len1 _) (len1 _))) (splc_all (len_eq (len_app (len1 _) (len_app (len_app (len1 _) (len_app (len1 _) (len_app (len1 _) (len_app (len1 _) (len_en _ (vrep 32 (0 : Int))))))) (len1 _))) (len_app (len1 _) (len_app (len_app (len1 _) (len_app (len1 _) (len_app (len1 _) (len_app (len1 _) (len_en _ (vrep 32 (0 : Int))))))) (len1 _))))) (hl_of (Sub4.head _ _) (len_eq (len1 _) (len1 _)))) (fill_cons (vs := ([Value.int .i64 t64.1.1] ++ ([Value.int .i64 t64.1.2.1] ++ ([Value.int .i64 t64.1.2.2.1] ++ ([Value.int .u32 t64.1.2.2.2.1] ++ en (Value.int .u8) t64.1.2.2.2.2.1))))) (cs' := ([Value.int .i64 (IntKind.wrap .i64 t36.1)] ++ (([Value.int .i64 t64.1.1] ++ ([Value.int .i64 t64.1.2.1] ++ ([Value.int .i64 t64.1.2.2.1] ++ ([Value.int .u32 t64.1.2.2.2.1] ++ en (Value.int .u8) t64.1.2.2.2.2.1)))) ++ [Value.int .i64 (0 : Int)]))) (off := 1) (size := 36) rfl (by kernel_rfl) (len_app (len1 _) (len_app (len1 _) (len_app (len1 _) (len_app (len1 _) (len_en _ t64.1.2.2.2.2))))) (le_of_len (len_app (len1 _) (len_app (len_app (len1 _) (len_app (len1 _) (len_app (len1 _) (len_app (len1 _) (len_en _ (vrep 32 (0 : Int))))))) (len1 _))) (by decide)) (splc_in (Sub4.all _) (splc_skip (n := 1) (len1 _) (splc_head (len_eq (len_app (len1 _) (len_app (len1 _) (len_app (len1 _) (len_app (len1 _) (len_en _ t64.1.2.2.2.2))))) (len_app (len1 _) (len_app (len1 _) (len_app (len1 _) (len_app (len1 _) (len_en _ (vrep 32 (0 : Int)))))))))) (splc_all (len_eq (len_app (len1 _) (len_app (len_app (len1 _) (len_app (len1 _) (len_app (len1 _) (len_app (len1 _) (len_en _ t64.1.2.2.2.2))))) (len1 _))) (len_app (len1 _) (len_app (len_app (len1 _) (len_app (len1 _) (len_app (len1 _) (len_app (len1 _) (len_en _ (vrep 32 (0 : Int))))))) (len1 _))))) (hl_of (Sub4.skip (n := 1) (len1 _) (Sub4.head _ _)) (len_eq (len_app (len1 _) (len_app (len1 _) (len_app (len1 _) (len_app (len1 _) (len_en _ t64.1.2.2.2.2))))) (len_app (len1 _) (len_app (len1 _) (len_app (len1 _) (len_app (len1 _) (len_en _ (vrep 32 (0 : Int)))))))))) (fill_cons (vs := [Value.int .i64 (IntKind.wrap .i64 t50.1)]) (cs' := ([Value.int .i64 (IntKind.wrap .i64 t36.1)] ++ (([Value.int .i64 t64.1.1] ++ ([Value.int .i64 t64.1.2.1] ++ ([Value.int .i64 t64.1.2.2.1] ++ ([Value.int .u32 t64.1.2.2.2.1] ++ en (Value.int .u8) t64.1.2.2.2.2.1)))) ++ [Value.int .i64 (IntKind.wrap .i64 t50.1)]))) (off := 37) (size := 1) rfl (by kernel_rfl) (len1 _) (le_of_len (len_app (len1 _) (len_app (len_app (len1 _) (len_app (len1 _) (len_app (len1 _) (len_app (len1 _) (len_en _ t64.1.2.2.2.2))))) (len1 _))) (by decide)) (splc_in (Sub4.all _) (splc_skip (n := 1) (len1 _) (splc_skip (n := 36) (len_app (len1 _) (len_app (len1 _) (len_app (len1 _) (len_app (len1 _) (len_en _ t64.1.2.2.2.2))))) (splc_all (len_eq (len1 _) (len1 _))))) (splc_all (len_eq (len_app (len1 _) (len_app (len_app (len1 _) (len_app (len1 _) (len_app (len1 _) (len_app (len1 _) (len_en _ t64.1.2.2.2.2))))) (len1 _))) (len_app (len1 _) (len_app (len_app (len1 _) (len_app (len1 _) (len_app (len1 _) (len_app (len1 _) (len_en _ t64.1.2.2.2.2))))) (len1 _))))) (hl_of (Sub4.skip (n := 1) (len1 _) (Sub4.skip (n := 36) (len_app (len1 _) (len_app (len1 _) (len_app (len1 _) (len_app (len1 _) (len_en _ t64.1.2.2.2.2))))) (Sub4.all _))) (len_eq (len1 _) (len1 _)))) fill_nil))) ?_
      refine ls_new rfl rfl (by kernel_rfl) 5 (fun g => .pointer (some ⟨g, 0, none⟩)) (.cells ⟨([Value.int .i64 (0 : Int)] ++ (([Value.int .i64 (0 : Int)] ++ ([Value.int .i64 (0 : Int)] ++ ([Value.int .i64 (0 : Int)] ++ ([Value.int .u32 (0 : Int)] ++ en (Value.int .u8) (vrep 32 (0 : Int)).1)))) ++ [Value.int .i64 (0 : Int)]))⟩ 47) (fun w => by kernel_rfl) ?_
      intro g68
      refine ls_storec (g := g68) (off := 0) (v := .agg ⟨([Value.int .i64 (IntKind.wrap .i64 t36.1)] ++ (([Value.int .i64 t64.1.1] ++ ([Value.int .i64 t64.1.2.1] ++ ([Value.int .i64 t64.1.2.2.1] ++ ([Value.int .u32 t64.1.2.2.2.1] ++ en (Value.int .u8) t64.1.2.2.2.2.1)))) ++ [Value.int .i64 (IntKind.wrap .i64 t50.1)]))⟩) (vs := ([Value.int .i64 (IntKind.wrap .i64 t36.1)] ++ (([Value.int .i64 t64.1.1] ++ ([Value.int .i64 t64.1.2.1] ++ ([Value.int .i64 t64.1.2.2.1] ++ ([Value.int .u32 t64.1.2.2.2.1] ++ en (Value.int .u8) t64.1.2.2.2.2.1)))) ++ [Value.int .i64 (IntKind.wrap .i64 t50.1)]))) (cs := ([Value.int .i64 (0 : Int)] ++ (([Value.int .i64 (0 : Int)] ++ ([Value.int .i64 (0 : Int)] ++ ([Value.int .i64 (0 : Int)] ++ ([Value.int .u32 (0 : Int)] ++ en (Value.int .u8) (vrep 32 (0 : Int)).1)))) ++ [Value.int .i64 (0 : Int)]))) (ty := 47) 5 rfl rfl rfl (by kernel_rfl) (by kernel_rfl) (by kernel_rfl) (by exact rfl) (by kernel_rfl) (len_app (len1 _) (len_app (len_app (len1 _) (len_app (len1 _) (len_app (len1 _) (len_app (len1 _) (len_en _ t64.1.2.2.2.2))))) (len1 _))) (one_app (one_cons rfl one_nil) (one_app (one_app (one_cons rfl one_nil) (one_app (one_cons rfl one_nil) (one_app (one_cons rfl one_nil) (one_app (one_cons rfl one_nil) (one_en (fun _ => rfl) _))))) (one_cons rfl one_nil))) (hl_of (Sub4.all _) (len_eq (len_app (len1 _) (len_app (len_app (len1 _) (len_app (len1 _) (len_app (len1 _) (len_app (len1 _) (len_en _ t64.1.2.2.2.2))))) (len1 _))) (len_app (len1 _) (len_app (len_app (len1 _) (len_app (len1 _) (len_app (len1 _) (len_app (len1 _) (len_en _ (vrep 32 (0 : Int))))))) (len1 _))))) (cs' := ([Value.int .i64 (IntKind.wrap .i64 t36.1)] ++ (([Value.int .i64 t64.1.1] ++ ([Value.int .i64 t64.1.2.1] ++ ([Value.int .i64 t64.1.2.2.1] ++ ([Value.int .u32 t64.1.2.2.2.1] ++ en (Value.int .u8) t64.1.2.2.2.2.1)))) ++ [Value.int .i64 (IntKind.wrap .i64 t50.1)]))) (splc_all (len_eq (len_app (len1 _) (len_app (len_app (len1 _) (len_app (len1 _) (len_app (len1 _) (len_app (len1 _) (len_en _ t64.1.2.2.2.2))))) (len1 _))) (len_app (len1 _) (len_app (len_app (len1 _) (len_app (len1 _) (len_app (len1 _) (len_app (len1 _) (len_en _ (vrep 32 (0 : Int))))))) (len1 _))))) ?_
      refine ls_end ?_
      refine qn_then ?_
      refine cs_seq ?_
      refine cs_region (l := [_, _, _, _, _, _, _, _, _]) ?_
      refine ls_loadagg (a := ⟨g68, 0, none⟩) (sub := ([Value.int .i64 (IntKind.wrap .i64 t36.1)] ++ (([Value.int .i64 t64.1.1] ++ ([Value.int .i64 t64.1.2.1] ++ ([Value.int .i64 t64.1.2.2.1] ++ ([Value.int .u32 t64.1.2.2.2.1] ++ en (Value.int .u8) t64.1.2.2.2.2.1)))) ++ [Value.int .i64 (IntKind.wrap .i64 t50.1)]))) rfl rfl (by kernel_rfl) rfl (by kernel_rfl) (by kernel_rfl) (by kernel_rfl) (len_app (len1 _) (len_app (len_app (len1 _) (len_app (len1 _) (len_app (len1 _) (len_app (len1 _) (len_en _ t64.1.2.2.2.2))))) (len1 _))) (fun w hs => (hs.vars (k := 5) (by exact rfl) (Sub4.all _))) ?_
      obtain ⟨t69, hc70, H⟩ := bind_some H
      refine ls_callb (fid := 25) (vals := #[.agg ⟨([Value.int .i64 (IntKind.wrap .i64 t36.1)] ++ (([Value.int .i64 t64.1.1] ++ ([Value.int .i64 t64.1.2.1] ++ ([Value.int .i64 t64.1.2.2.1] ++ ([Value.int .u32 t64.1.2.2.2.1] ++ en (Value.int .u8) t64.1.2.2.2.2.1)))) ++ [Value.int .i64 (IntKind.wrap .i64 t50.1)]))⟩]) (X := (Option Addr × Nat)) (fun x => .tuple #[.slice x.1 t69.1.length x.2, .int .i64 t69.2.1, .int .i64 t69.2.2]) (fun x => stl [Ck.sl (Ec.int 5 .u8) x.1 x.2 t69.1]) [] [] [] [] 6 rfl rfl (by kernel_rfl) (fun w => by kernel_rfl) trivial trivial (by decide) (fun w hs hb => shadowboxref08_Seal.calls k (IntKind.wrap .i64 t36.1, t64.1, IntKind.wrap .i64 t50.1) t69 (lent b w [] []) hb  hc70) ?_
      intro x71
      refine ls_val (v := .tuple #[.slice x71.1 t69.1.length x71.2, .int .i64 t69.2.1, .int .i64 t69.2.2]) rfl rfl (by kernel_rfl) (fun w => by kernel_rfl) ?_
      refine ls_val (v := .slice x71.1 t69.1.length x71.2) rfl rfl (by kernel_rfl) (fun w => by kernel_rfl) ?_
      refine ls_val (v := .int .i64 t69.2.1) rfl rfl (by kernel_rfl) (fun w => by kernel_rfl) ?_
      refine ls_val (v := .int .i64 t69.2.2) rfl rfl (by kernel_rfl) (fun w => by kernel_rfl) ?_
      refine ls_val (v := .slice x71.1 t69.1.length x71.2) rfl rfl (by kernel_rfl) (fun w => by kernel_rfl) ?_
      refine ls_val (v := .int .i64 t69.2.1) rfl rfl (by kernel_rfl) (fun w => by kernel_rfl) ?_
      refine ls_val (v := .int .i64 t69.2.2) rfl rfl (by kernel_rfl) (fun w => by kernel_rfl) ?_
      refine ls_end ?_
      refine qn_then ?_
      refine cs_seq ?_
      refine cs_seq ?_
      refine cs_region (l := [_, _, _, _, _, _, _, _, _]) ?_
      refine ls_val (v := .int .i64 t69.2.2) rfl rfl (by kernel_rfl) (fun w => by kernel_rfl) ?_
      refine ls_val (v := .bool (!decide (t69.2.2 = (0 : Int)))) rfl rfl (by kernel_rfl) (fun w => by kernel_rfl) ?_
      refine ls_val (v := .bool (!decide (t69.2.2 = (0 : Int)))) rfl rfl (by kernel_rfl) (fun w => by kernel_rfl) ?_
      by_cases q72 : t69.2.2 = (0 : Int)
      · replace H := ite_t q72 H
        refine ls_know (c := false) (congrArg Bool.not (dec_t q72)) 73 (by kernel_rfl) ?_
        refine ls_on (j := 2) (t := 73) (b := false) rfl rfl (by kernel_rfl) (by kernel_rfl) ?_
        refine ls_val (v := .slice x71.1 t69.1.length x71.2) rfl rfl (by kernel_rfl) (fun w => by kernel_rfl) ?_
        refine ls_on (j := 2) (t := 73) (b := false) rfl rfl (by kernel_rfl) (by kernel_rfl) ?_
        refine ls_str (A := x71.1) (c := x71.2) (e := 5) (l := t69.1) rfl rfl (by kernel_rfl) rfl (by kernel_rfl) (by kernel_rfl) (by kernel_rfl) (by kernel_rfl) (fun w hs => (hs.rd (k := 6) (by exact rfl))) ?_
        refine ls_on (j := 2) (t := 73) (b := false) rfl rfl (by kernel_rfl) (by kernel_rfl) ?_
        refine ls_val (v := .slice xA3 xl7.length xc4) rfl rfl (by kernel_rfl) (fun w => by kernel_rfl) ?_
        refine ls_on (j := 2) (t := 73) (b := false) rfl rfl (by kernel_rfl) (by kernel_rfl) ?_
        refine ls_str (A := xA3) (c := xc4) (e := 5) (l := xl7) rfl rfl (by kernel_rfl) rfl (by kernel_rfl) (by kernel_rfl) (by kernel_rfl) (by kernel_rfl) (fun w hs => (hs.old xR5)) ?_
        refine ls_on (j := 2) (t := 73) (b := false) rfl rfl (by kernel_rfl) (by kernel_rfl) ?_
        refine ls_val (v := .bool (!((strOfNums t69.1).toList == (strOfNums xl7).toList))) rfl rfl (by kernel_rfl) (fun w => by kernel_rfl) ?_
        refine ls_val (v := .bool (!((strOfNums t69.1).toList == (strOfNums xl7).toList))) rfl rfl (by kernel_rfl) (fun w => by kernel_rfl) ?_
        refine ls_end ?_
        refine qn_then ?_
        by_cases q73 : ((strOfNums t69.1).toList == (strOfNums xl7).toList) = true
        · replace H := ite_t q73 H
          refine cs_know (c := false) (congrArg Bool.not (q73)) 79 (by kernel_rfl) ?_
          refine cs_false (by kernel_rfl) ?_
          refine cs_skip' ?_
          refine qn_then ?_
          refine cs_seq ?_
          refine cs_region (l := [_, _, _]) ?_
          refine ls_loadagg (a := ⟨g68, 0, none⟩) (sub := ([Value.int .i64 (IntKind.wrap .i64 t36.1)] ++ (([Value.int .i64 t64.1.1] ++ ([Value.int .i64 t64.1.2.1] ++ ([Value.int .i64 t64.1.2.2.1] ++ ([Value.int .u32 t64.1.2.2.2.1] ++ en (Value.int .u8) t64.1.2.2.2.2.1)))) ++ [Value.int .i64 (IntKind.wrap .i64 t50.1)]))) rfl rfl (by kernel_rfl) rfl (by kernel_rfl) (by kernel_rfl) (by kernel_rfl) (len_app (len1 _) (len_app (len_app (len1 _) (len_app (len1 _) (len_app (len1 _) (len_app (len1 _) (len_en _ t64.1.2.2.2.2))))) (len1 _))) (fun w hs => (hs.vars (k := 5) (by exact rfl) (Sub4.all _))) ?_
          refine ls_storec (g := g1) (off := 0) (v := .agg ⟨([Value.int .i64 (IntKind.wrap .i64 t36.1)] ++ (([Value.int .i64 t64.1.1] ++ ([Value.int .i64 t64.1.2.1] ++ ([Value.int .i64 t64.1.2.2.1] ++ ([Value.int .u32 t64.1.2.2.2.1] ++ en (Value.int .u8) t64.1.2.2.2.2.1)))) ++ [Value.int .i64 (IntKind.wrap .i64 t50.1)]))⟩) (vs := ([Value.int .i64 (IntKind.wrap .i64 t36.1)] ++ (([Value.int .i64 t64.1.1] ++ ([Value.int .i64 t64.1.2.1] ++ ([Value.int .i64 t64.1.2.2.1] ++ ([Value.int .u32 t64.1.2.2.2.1] ++ en (Value.int .u8) t64.1.2.2.2.2.1)))) ++ [Value.int .i64 (IntKind.wrap .i64 t50.1)]))) (cs := ([Value.int .i64 (0 : Int)] ++ (([Value.int .i64 (0 : Int)] ++ ([Value.int .i64 (0 : Int)] ++ ([Value.int .i64 (0 : Int)] ++ ([Value.int .u32 (0 : Int)] ++ en (Value.int .u8) (vrep 32 (0 : Int)).1)))) ++ [Value.int .i64 (0 : Int)]))) (ty := 47) 0 rfl rfl rfl (by kernel_rfl) (by kernel_rfl) (by kernel_rfl) (by exact rfl) (by kernel_rfl) (len_app (len1 _) (len_app (len_app (len1 _) (len_app (len1 _) (len_app (len1 _) (len_app (len1 _) (len_en _ t64.1.2.2.2.2))))) (len1 _))) (one_app (one_cons rfl one_nil) (one_app (one_app (one_cons rfl one_nil) (one_app (one_cons rfl one_nil) (one_app (one_cons rfl one_nil) (one_app (one_cons rfl one_nil) (one_en (fun _ => rfl) _))))) (one_cons rfl one_nil))) (hl_of (Sub4.all _) (len_eq (len_app (len1 _) (len_app (len_app (len1 _) (len_app (len1 _) (len_app (len1 _) (len_app (len1 _) (len_en _ t64.1.2.2.2.2))))) (len1 _))) (len_app (len1 _) (len_app (len_app (len1 _) (len_app (len1 _) (len_app (len1 _) (len_app (len1 _) (len_en _ (vrep 32 (0 : Int))))))) (len1 _))))) (cs' := ([Value.int .i64 (IntKind.wrap .i64 t36.1)] ++ (([Value.int .i64 t64.1.1] ++ ([Value.int .i64 t64.1.2.1] ++ ([Value.int .i64 t64.1.2.2.1] ++ ([Value.int .u32 t64.1.2.2.2.1] ++ en (Value.int .u8) t64.1.2.2.2.2.1)))) ++ [Value.int .i64 (IntKind.wrap .i64 t50.1)]))) (splc_all (len_eq (len_app (len1 _) (len_app (len_app (len1 _) (len_app (len1 _) (len_app (len1 _) (len_app (len1 _) (len_en _ t64.1.2.2.2.2))))) (len1 _))) (len_app (len1 _) (len_app (len_app (len1 _) (len_app (len1 _) (len_app (len1 _) (len_app (len1 _) (len_en _ (vrep 32 (0 : Int))))))) (len1 _))))) ?_
          refine ls_val (v := .int .i64 (0 : Int)) rfl rfl (by kernel_rfl) (fun w => by kernel_rfl) ?_
          refine ls_end ?_
          refine qn_then ?_
          refine cs_ret' ?_
          obtain rfl := Option.some.inj H
          refine qr_res (rs := [_, _]) rfl (fun w' hs => ⟨[.agg ⟨([Value.int .i64 (IntKind.wrap .i64 t36.1)] ++ (([Value.int .i64 t64.1.1] ++ ([Value.int .i64 t64.1.2.1] ++ ([Value.int .i64 t64.1.2.2.1] ++ ([Value.int .u32 t64.1.2.2.2.1] ++ en (Value.int .u8) t64.1.2.2.2.2.1)))) ++ [Value.int .i64 (IntKind.wrap .i64 t50.1)]))⟩, .int .i64 (0 : Int)], (.cell (by kernel_rfl) (run_cellres (by kernel_rfl) (by kernel_rfl) (len_app (len1 _) (len_app (len_app (len1 _) (len_app (len1 _) (len_app (len1 _) (len_app (len1 _) (len_en _ t64.1.2.2.2.2))))) (len1 _))) (hs.holds 0 _ (by exact rfl))) (res_tmp (by kernel_rfl) (.nil))), (), rfl, hs.pick (ts := []) (cs := []) trivial (by decide)⟩)
        · replace H := ite_f q73 H
          refine cs_know (c := true) (congrArg Bool.not (Bool.eq_false_iff.mpr q73)) 79 (by kernel_rfl) ?_
          refine cs_true (by kernel_rfl) ?_
          refine cs_seq ?_
          refine cs_region (l := [_, _, _]) ?_
          refine ls_build (ps := []) (pl := #[(0, 1), (1, 36), (37, 1)]) (zv := .agg ⟨([Value.int .i64 (0 : Int)] ++ (([Value.int .i64 (0 : Int)] ++ ([Value.int .i64 (0 : Int)] ++ ([Value.int .i64 (0 : Int)] ++ ([Value.int .u32 (0 : Int)] ++ en (Value.int .u8) (vrep 32 (0 : Int)).1)))) ++ [Value.int .i64 (0 : Int)]))⟩) (zc := ([Value.int .i64 (0 : Int)] ++ (([Value.int .i64 (0 : Int)] ++ ([Value.int .i64 (0 : Int)] ++ ([Value.int .i64 (0 : Int)] ++ ([Value.int .u32 (0 : Int)] ++ en (Value.int .u8) (vrep 32 (0 : Int)).1)))) ++ [Value.int .i64 (0 : Int)]))) (r := ([Value.int .i64 (0 : Int)] ++ (([Value.int .i64 (0 : Int)] ++ ([Value.int .i64 (0 : Int)] ++ ([Value.int .i64 (0 : Int)] ++ ([Value.int .u32 (0 : Int)] ++ en (Value.int .u8) (vrep 32 (0 : Int)).1)))) ++ [Value.int .i64 (0 : Int)]))) rfl rfl (by kernel_rfl) rfl (by kernel_rfl) (by kernel_rfl) (fun w => by kernel_rfl) (fun w => by kernel_rfl) rfl fill_nil ?_
          refine ls_storec (g := g1) (off := 0) (v := .agg ⟨([Value.int .i64 (0 : Int)] ++ (([Value.int .i64 (0 : Int)] ++ ([Value.int .i64 (0 : Int)] ++ ([Value.int .i64 (0 : Int)] ++ ([Value.int .u32 (0 : Int)] ++ en (Value.int .u8) (vrep 32 (0 : Int)).1)))) ++ [Value.int .i64 (0 : Int)]))⟩) (vs := ([Value.int .i64 (0 : Int)] ++ (([Value.int .i64 (0 : Int)] ++ ([Value.int .i64 (0 : Int)] ++ ([Value.int .i64 (0 : Int)] ++ ([Value.int .u32 (0 : Int)] ++ en (Value.int .u8) (vrep 32 (0 : Int)).1)))) ++ [Value.int .i64 (0 : Int)]))) (cs := ([Value.int .i64 (0 : Int)] ++ (([Value.int .i64 (0 : Int)] ++ ([Value.int .i64 (0 : Int)] ++ ([Value.int .i64 (0 : Int)] ++ ([Value.int .u32 (0 : Int)] ++ en (Value.int .u8) (vrep 32 (0 : Int)).1)))) ++ [Value.int .i64 (0 : Int)]))) (ty := 47) 0 rfl rfl rfl (by kernel_rfl) (by kernel_rfl) (by kernel_rfl) (by exact rfl) (by kernel_rfl) (len_app (len1 _) (len_app (len_app (len1 _) (len_app (len1 _) (len_app (len1 _) (len_app (len1 _) (len_en _ (vrep 32 (0 : Int))))))) (len1 _))) (one_app (one_cons rfl one_nil) (one_app (one_app (one_cons rfl one_nil) (one_app (one_cons rfl one_nil) (one_app (one_cons rfl one_nil) (one_app (one_cons rfl one_nil) (one_en (fun _ => rfl) _))))) (one_cons rfl one_nil))) (hl_of (Sub4.all _) (len_eq (len_app (len1 _) (len_app (len_app (len1 _) (len_app (len1 _) (len_app (len1 _) (len_app (len1 _) (len_en _ (vrep 32 (0 : Int))))))) (len1 _))) (len_app (len1 _) (len_app (len_app (len1 _) (len_app (len1 _) (len_app (len1 _) (len_app (len1 _) (len_en _ (vrep 32 (0 : Int))))))) (len1 _))))) (cs' := ([Value.int .i64 (0 : Int)] ++ (([Value.int .i64 (0 : Int)] ++ ([Value.int .i64 (0 : Int)] ++ ([Value.int .i64 (0 : Int)] ++ ([Value.int .u32 (0 : Int)] ++ en (Value.int .u8) (vrep 32 (0 : Int)).1)))) ++ [Value.int .i64 (0 : Int)]))) (splc_all (len_eq (len_app (len1 _) (len_app (len_app (len1 _) (len_app (len1 _) (len_app (len1 _) (len_app (len1 _) (len_en _ (vrep 32 (0 : Int))))))) (len1 _))) (len_app (len1 _) (len_app (len_app (len1 _) (len_app (len1 _) (len_app (len1 _) (len_app (len1 _) (len_en _ (vrep 32 (0 : Int))))))) (len1 _))))) ?_
          refine ls_val (v := .int .i64 (11 : Int)) rfl rfl (by kernel_rfl) (fun w => by kernel_rfl) ?_
          refine ls_end ?_
          refine qn_then ?_
          refine cs_ret' ?_
          refine qr_then ?_
          obtain rfl := Option.some.inj H
          refine qr_res (rs := [_, _]) rfl (fun w' hs => ⟨[.agg ⟨([Value.int .i64 (0 : Int)] ++ (([Value.int .i64 (0 : Int)] ++ ([Value.int .i64 (0 : Int)] ++ ([Value.int .i64 (0 : Int)] ++ ([Value.int .u32 (0 : Int)] ++ en (Value.int .u8) (vrep 32 (0 : Int)).1)))) ++ [Value.int .i64 (0 : Int)]))⟩, .int .i64 (11 : Int)], (.cell (by kernel_rfl) (run_cellres (by kernel_rfl) (by kernel_rfl) (len_app (len1 _) (len_app (len_app (len1 _) (len_app (len1 _) (len_app (len1 _) (len_app (len1 _) (len_en _ (vrep 32 (0 : Int))))))) (len1 _))) (hs.holds 0 _ (by exact rfl))) (res_tmp (by kernel_rfl) (.nil))), (), rfl, hs.pick (ts := []) (cs := []) trivial (by decide)⟩)
      · replace H := ite_f q72 H
        refine ls_know (c := true) (congrArg Bool.not (dec_f q72)) 73 (by kernel_rfl) ?_
        refine ls_off (j := 2) (t := 73) (b := false) (c := true) rfl rfl (by kernel_rfl) (by kernel_rfl) rfl rfl (by kernel_rfl) ?_
        refine ls_off (j := 2) (t := 73) (b := false) (c := true) rfl rfl (by kernel_rfl) (by kernel_rfl) rfl rfl (by kernel_rfl) ?_
        refine ls_off (j := 2) (t := 73) (b := false) (c := true) rfl rfl (by kernel_rfl) (by kernel_rfl) rfl rfl (by kernel_rfl) ?_
        refine ls_off (j := 2) (t := 73) (b := false) (c := true) rfl rfl (by kernel_rfl) (by kernel_rfl) rfl rfl (by kernel_rfl) ?_
        refine ls_off (j := 2) (t := 73) (b := false) (c := true) rfl rfl (by kernel_rfl) (by kernel_rfl) rfl rfl (by kernel_rfl) ?_
        refine ls_val (v := .bool true) rfl rfl (by kernel_rfl) (fun w => by kernel_rfl) ?_
        refine ls_end ?_
        refine qn_then ?_
        refine cs_true (by kernel_rfl) ?_
        refine cs_seq ?_
        refine cs_region (l := [_, _, _]) ?_
        refine ls_build (ps := []) (pl := #[(0, 1), (1, 36), (37, 1)]) (zv := .agg ⟨([Value.int .i64 (0 : Int)] ++ (([Value.int .i64 (0 : Int)] ++ ([Value.int .i64 (0 : Int)] ++ ([Value.int .i64 (0 : Int)] ++ ([Value.int .u32 (0 : Int)] ++ en (Value.int .u8) (vrep 32 (0 : Int)).1)))) ++ [Value.int .i64 (0 : Int)]))⟩) (zc := ([Value.int .i64 (0 : Int)] ++ (([Value.int .i64 (0 : Int)] ++ ([Value.int .i64 (0 : Int)] ++ ([Value.int .i64 (0 : Int)] ++ ([Value.int .u32 (0 : Int)] ++ en (Value.int .u8) (vrep 32 (0 : Int)).1)))) ++ [Value.int .i64 (0 : Int)]))) (r := ([Value.int .i64 (0 : Int)] ++ (([Value.int .i64 (0 : Int)] ++ ([Value.int .i64 (0 : Int)] ++ ([Value.int .i64 (0 : Int)] ++ ([Value.int .u32 (0 : Int)] ++ en (Value.int .u8) (vrep 32 (0 : Int)).1)))) ++ [Value.int .i64 (0 : Int)]))) rfl rfl (by kernel_rfl) rfl (by kernel_rfl) (by kernel_rfl) (fun w => by kernel_rfl) (fun w => by kernel_rfl) rfl fill_nil ?_
        refine ls_storec (g := g1) (off := 0) (v := .agg ⟨([Value.int .i64 (0 : Int)] ++ (([Value.int .i64 (0 : Int)] ++ ([Value.int .i64 (0 : Int)] ++ ([Value.int .i64 (0 : Int)] ++ ([Value.int .u32 (0 : Int)] ++ en (Value.int .u8) (vrep 32 (0 : Int)).1)))) ++ [Value.int .i64 (0 : Int)]))⟩) (vs := ([Value.int .i64 (0 : Int)] ++ (([Value.int .i64 (0 : Int)] ++ ([Value.int .i64 (0 : Int)] ++ ([Value.int .i64 (0 : Int)] ++ ([Value.int .u32 (0 : Int)] ++ en (Value.int .u8) (vrep 32 (0 : Int)).1)))) ++ [Value.int .i64 (0 : Int)]))) (cs := ([Value.int .i64 (0 : Int)] ++ (([Value.int .i64 (0 : Int)] ++ ([Value.int .i64 (0 : Int)] ++ ([Value.int .i64 (0 : Int)] ++ ([Value.int .u32 (0 : Int)] ++ en (Value.int .u8) (vrep 32 (0 : Int)).1)))) ++ [Value.int .i64 (0 : Int)]))) (ty := 47) 0 rfl rfl rfl (by kernel_rfl) (by kernel_rfl) (by kernel_rfl) (by exact rfl) (by kernel_rfl) (len_app (len1 _) (len_app (len_app (len1 _) (len_app (len1 _) (len_app (len1 _) (len_app (len1 _) (len_en _ (vrep 32 (0 : Int))))))) (len1 _))) (one_app (one_cons rfl one_nil) (one_app (one_app (one_cons rfl one_nil) (one_app (one_cons rfl one_nil) (one_app (one_cons rfl one_nil) (one_app (one_cons rfl one_nil) (one_en (fun _ => rfl) _))))) (one_cons rfl one_nil))) (hl_of (Sub4.all _) (len_eq (len_app (len1 _) (len_app (len_app (len1 _) (len_app (len1 _) (len_app (len1 _) (len_app (len1 _) (len_en _ (vrep 32 (0 : Int))))))) (len1 _))) (len_app (len1 _) (len_app (len_app (len1 _) (len_app (len1 _) (len_app (len1 _) (len_app (len1 _) (len_en _ (vrep 32 (0 : Int))))))) (len1 _))))) (cs' := ([Value.int .i64 (0 : Int)] ++ (([Value.int .i64 (0 : Int)] ++ ([Value.int .i64 (0 : Int)] ++ ([Value.int .i64 (0 : Int)] ++ ([Value.int .u32 (0 : Int)] ++ en (Value.int .u8) (vrep 32 (0 : Int)).1)))) ++ [Value.int .i64 (0 : Int)]))) (splc_all (len_eq (len_app (len1 _) (len_app (len_app (len1 _) (len_app (len1 _) (len_app (len1 _) (len_app (len1 _) (len_en _ (vrep 32 (0 : Int))))))) (len1 _))) (len_app (len1 _) (len_app (len_app (len1 _) (len_app (len1 _) (len_app (len1 _) (len_app (len1 _) (len_en _ (vrep 32 (0 : Int))))))) (len1 _))))) ?_
        refine ls_val (v := .int .i64 (11 : Int)) rfl rfl (by kernel_rfl) (fun w => by kernel_rfl) ?_
        refine ls_end ?_
        refine qn_then ?_
        refine cs_ret' ?_
        refine qr_then ?_
        obtain rfl := Option.some.inj H
        refine qr_res (rs := [_, _]) rfl (fun w' hs => ⟨[.agg ⟨([Value.int .i64 (0 : Int)] ++ (([Value.int .i64 (0 : Int)] ++ ([Value.int .i64 (0 : Int)] ++ ([Value.int .i64 (0 : Int)] ++ ([Value.int .u32 (0 : Int)] ++ en (Value.int .u8) (vrep 32 (0 : Int)).1)))) ++ [Value.int .i64 (0 : Int)]))⟩, .int .i64 (11 : Int)], (.cell (by kernel_rfl) (run_cellres (by kernel_rfl) (by kernel_rfl) (len_app (len1 _) (len_app (len_app (len1 _) (len_app (len1 _) (len_app (len1 _) (len_app (len1 _) (len_en _ (vrep 32 (0 : Int))))))) (len1 _))) (hs.holds 0 _ (by exact rfl))) (res_tmp (by kernel_rfl) (.nil))), (), rfl, hs.pick (ts := []) (cs := []) trivial (by decide)⟩)

/-! ### shadowbox/shadowboxref08.Choose: function 29 -/
def shadowboxref08_Choose.jo1 (t2 : (Int × (Int × Int × Int × Int × (Vc Int 32)) × Int) × Int) (t6 : (Int × (Int × Int × Int × Int × (Vc Int 32)) × Int) × Int) (x10_1 : Bool) : Option ((Int × (Int × Int × Int × Int × (Vc Int 32)) × Int) × Bool) := (if t6.2 = (0 : Int) then (if x10_1 = true then (if (Int.tmod t6.1.1 (2 : Int)) = (1 : Int) then (if t2.1.1 > t6.1.1 then some (t2.1, true) else some (t6.1, true)) else some (t2.1, true)) else (if (Int.tmod t6.1.1 (2 : Int)) = (1 : Int) then some (t6.1, true) else some (((0 : Int), ((0 : Int), (0 : Int), (0 : Int), (0 : Int), (vrep 32 (0 : Int))), (0 : Int)), false))) else (if x10_1 = true then some (t2.1, true) else some (((0 : Int), ((0 : Int), (0 : Int), (0 : Int), (0 : Int), (vrep 32 (0 : Int))), (0 : Int)), false)))
def shadowboxref08_Choose.f (k : Nat) (l0 : List Int) (l1 : List Int) : Option ((Int × (Int × Int × Int × Int × (Vc Int 32)) × Int) × Bool) :=
  (shadowboxref08_Open.f k l0).bind fun t2 => (shadowboxref08_Open.f k l1).bind fun t6 => (if t2.2 = (0 : Int) then (shadowboxref08_Choose.jo1 t2 t6) (decide ((Int.tmod t2.1.1 (2 : Int)) = (0 : Int))) else (shadowboxref08_Choose.jo1 t2 t6) false)
set_option maxRecDepth 100000 in
set_option maxHeartbeats 4000000 in
theorem shadowboxref08_Choose.calls (k : Nat) (A0 : Option Addr) (c0 : Nat) (l0 : List Int) (A1 : Option Addr) (c1 : Nat) (l1 : List Int) (r : (Int × (Int × Int × Int × Int × (Vc Int 32)) × Int) × Bool) (b : Bs) (hs0 : St b (stl []) b.w) (R0 : Ro b A0 (em (Ec.int 5 .u8) l0)) (C0 : l0.length ≤ c0) (R1 : Ro b A1 (em (Ec.int 5 .u8) l1)) (C1 : l1.length ≤ c1) (H : shadowboxref08_Choose.f k l0 l1 = some r) :
    Calls Try.prog 29 #[.slice A0 l0.length c0, .slice A1 l1.length c1] b.w fun e w' => ∃ x : Unit, e = .returned (.tuple #[.agg ⟨([Value.int .i64 r.1.1] ++ (([Value.int .i64 r.1.2.1.1] ++ ([Value.int .i64 r.1.2.1.2.1] ++ ([Value.int .i64 r.1.2.1.2.2.1] ++ ([Value.int .u32 r.1.2.1.2.2.2.1] ++ en (Value.int .u8) r.1.2.1.2.2.2.2.1)))) ++ [Value.int .i64 r.1.2.2]))⟩, .bool r.2]) ∧ St b (stl []) w' := by
  unfold shadowboxref08_Choose.f at H
  refine enterb (n := 54) Try.func29 rfl (by kernel_rfl) (by kernel_rfl) hs0 ?_
  refine cs_sub (s0) (sub_nil _) ?_
  refine cs_seq ?_
  refine cs_region (l := [_, _]) ?_
  refine ls_new rfl rfl (by kernel_rfl) 0 (fun g => .pointer (some ⟨g, 0, none⟩)) (.cells ⟨([Value.int .i64 (0 : Int)] ++ (([Value.int .i64 (0 : Int)] ++ ([Value.int .i64 (0 : Int)] ++ ([Value.int .i64 (0 : Int)] ++ ([Value.int .u32 (0 : Int)] ++ en (Value.int .u8) (vrep 32 (0 : Int)).1)))) ++ [Value.int .i64 (0 : Int)]))⟩ 47) (fun w => by kernel_rfl) ?_
  intro g1
  refine ls_val (v := .bool false) rfl rfl (by kernel_rfl) (fun w => by kernel_rfl) ?_
  refine ls_end ?_
  refine qn_then ?_
  refine cs_seq ?_
  refine cs_region (l := [_, _, _, _, _, _, _, _]) ?_
  refine ls_val (v := .slice A0 l0.length c0) rfl rfl (by kernel_rfl) (fun w => by kernel_rfl) ?_
  obtain ⟨t2, hc3, H⟩ := bind_some H
  refine ls_callb (fid := 27) (vals := #[.slice A0 l0.length c0]) (X := Unit) (fun x => .tuple #[.agg ⟨([Value.int .i64 t2.1.1] ++ (([Value.int .i64 t2.1.2.1.1] ++ ([Value.int .i64 t2.1.2.1.2.1] ++ ([Value.int .i64 t2.1.2.1.2.2.1] ++ ([Value.int .u32 t2.1.2.1.2.2.2.1] ++ en (Value.int .u8) t2.1.2.1.2.2.2.2.1)))) ++ [Value.int .i64 t2.1.2.2]))⟩, .int .i64 t2.2]) (fun x => stl []) [] [] [] [] 1 rfl rfl (by kernel_rfl) (fun w => by kernel_rfl) trivial trivial (by decide) (fun w hs hb => shadowboxref08_Open.calls k A0 c0 l0 t2 (lent b w [] []) hb (hs.ro R0 _ _) C0 hc3) ?_
  intro x4
  refine ls_val (v := .tuple #[.agg ⟨([Value.int .i64 t2.1.1] ++ (([Value.int .i64 t2.1.2.1.1] ++ ([Value.int .i64 t2.1.2.1.2.1] ++ ([Value.int .i64 t2.1.2.1.2.2.1] ++ ([Value.int .u32 t2.1.2.1.2.2.2.1] ++ en (Value.int .u8) t2.1.2.1.2.2.2.2.1)))) ++ [Value.int .i64 t2.1.2.2]))⟩, .int .i64 t2.2]) rfl rfl (by kernel_rfl) (fun w => by kernel_rfl) ?_
  refine ls_val (v := .agg ⟨([Value.int .i64 t2.1.1] ++ (([Value.int .i64 t2.1.2.1.1] ++ ([Value.int .i64 t2.1.2.1.2.1] ++ ([Value.int .i64 t2.1.2.1.2.2.1] ++ ([Value.int .u32 t2.1.2.1.2.2.2.1] ++ en (Value.int .u8) t2.1.2.1.2.2.2.2.1)))) ++ [Value.int .i64 t2.1.2.2]))⟩) rfl rfl (by kernel_rfl) (fun w => by kernel_rfl) ?_
  refine ls_val (v := .int .i64 t2.2) rfl rfl (by kernel_rfl) (fun w => by kernel_rfl) ?_
  refine ls_new rfl rfl (by kernel_rfl) 1 (fun g => .pointer (some ⟨g, 0, none⟩)) (.cells ⟨([Value.int .i64 (0 : Int)] ++ (([Value.int .i64 (0 : Int)] ++ ([Value.int .i64 (0 : Int)] ++ ([Value.int .i64 (0 : Int)] ++ ([Value.int .u32 (0 : Int)] ++ en (Value.int .u8) (vrep 32 (0 : Int)).1)))) ++ [Value.int .i64 (0 : Int)]))⟩ 47) (fun w => by kernel_rfl) ?_
  intro g5
  refine ls_storec (g := g5) (off := 0) (v := .agg ⟨([Value.int .i64 t2.1.1] ++ (([Value.int .i64 t2.1.2.1.1] ++ ([Value.int .i64 t2.1.2.1.2.1] ++ ([Value.int .i64 t2.1.2.1.2.2.1] ++ ([Value.int .u32 t2.1.2.1.2.2.2.1] ++ en (Value.int .u8) t2.1.2.1.2.2.2.2.1)))) ++ [Value.int .i64 t2.1.2.2]))⟩) (vs := ([Value.int .i64 t2.1.1] ++ (([Value.int .i64 t2.1.2.1.1] ++ ([Value.int .i64 t2.1.2.1.2.1] ++ ([Value.int .i64 t2.1.2.1.2.2.1] ++ ([Value.int .u32 t2.1.2.1.2.2.2.1] ++ en (Value.int .u8) t2.1.2.1.2.2.2.2.1)))) ++ [Value.int .i64 t2.1.2.2]))) (cs := ([Value.int .i64 (0 : Int)] ++ (([Value.int .i64 (0 : Int)] ++ ([Value.int .i64 (0 : Int)] ++ ([Value.int .i64 (0 : Int)] ++ ([Value.int .u32 (0 : Int)] ++ en (Value.int .u8) (vrep 32 (0 : Int)).1)))) ++ [Value.int .i64 (0 : Int)]))) (ty := 47) 1 rfl rfl rfl (by kernel_rfl) (by kernel_rfl) (by kernel_rfl) (by exact rfl) (by kernel_rfl) (len_app (len1 _) (len_app (len_app (len1 _) (len_app (len1 _) (len_app (len1 _) (len_app (len1 _) (len_en _ t2.1.2.1.2.2.2.2))))) (len1 _))) (one_app (one_cons rfl one_nil) (one_app (one_app (one_cons rfl one_nil) (one_app (one_cons rfl one_nil) (one_app (one_cons rfl one_nil) (one_app (one_cons rfl one_nil) (one_en (fun _ => rfl) _))))) (one_cons rfl one_nil))) (hl_of (Sub4.all _) (len_eq (len_app (len1 _) (len_app (len_app (len1 _) (len_app (len1 _) (len_app (len1 _) (len_app (len1 _) (len_en _ t2.1.2.1.2.2.2.2))))) (len1 _))) (len_app (len1 _) (len_app (len_app (len1 _) (len_app (len1 _) (len_app (len1 _) (len_app (len1 _) (len_en _ (vrep 32 (0 : Int))))))) (len1 _))))) (cs' := ([Value.int .i64 t2.1.1] ++ (([Value.int .i64 t2.1.2.1.1] ++ ([Value.int .i64 t2.1.2.1.2.1] ++ ([Value.int .i64 t2.1.2.1.2.2.1] ++ ([Value.int .u32 t2.1.2.1.2.2.2.1] ++ en (Value.int .u8) t2.1.2.1.2.2.2.2.1)))) ++ [Value.int .i64 t2.1.2.2]))) (splc_all (len_eq (len_app (len1 _) (len_app (len_app (len1 _) (len_app (len1 _) (len_app (len1 _) (len_app (len1 _) (len_en _ t2.1.2.1.2.2.2.2))))) (len1 _))) (len_app (len1 _) (len_app (len_app (len1 _) (len_app (len1 _) (len_app (len1 _) (len_app (len1 _) (len_en _ (vrep 32 (0 : Int))))))) (len1 _))))) ?_
  refine ls_val (v := .int .i64 t2.2) rfl rfl (by kernel_rfl) (fun w => by kernel_rfl) ?_
  refine ls_end ?_
  refine qn_then ?_
  refine cs_seq ?_
  refine cs_region (l := [_, _, _, _, _, _, _, _]) ?_
  refine ls_val (v := .slice A1 l1.length c1) rfl rfl (by kernel_rfl) (fun w => by kernel_rfl) ?_
  obtain ⟨t6, hc7, H⟩ := bind_some H
  refine ls_callb (fid := 27) (vals := #[.slice A1 l1.length c1]) (X := Unit) (fun x => .tuple #[.agg ⟨([Value.int .i64 t6.1.1] ++ (([Value.int .i64 t6.1.2.1.1] ++ ([Value.int .i64 t6.1.2.1.2.1] ++ ([Value.int .i64 t6.1.2.1.2.2.1] ++ ([Value.int .u32 t6.1.2.1.2.2.2.1] ++ en (Value.int .u8) t6.1.2.1.2.2.2.2.1)))) ++ [Value.int .i64 t6.1.2.2]))⟩, .int .i64 t6.2]) (fun x => stl []) [] [] [] [] 2 rfl rfl (by kernel_rfl) (fun w => by kernel_rfl) trivial trivial (by decide) (fun w hs hb => shadowboxref08_Open.calls k A1 c1 l1 t6 (lent b w [] []) hb (hs.ro R1 _ _) C1 hc7) ?_
  intro x8
  refine ls_val (v := .tuple #[.agg ⟨([Value.int .i64 t6.1.1] ++ (([Value.int .i64 t6.1.2.1.1] ++ ([Value.int .i64 t6.1.2.1.2.1] ++ ([Value.int .i64 t6.1.2.1.2.2.1] ++ ([Value.int .u32 t6.1.2.1.2.2.2.1] ++ en (Value.int .u8) t6.1.2.1.2.2.2.2.1)))) ++ [Value.int .i64 t6.1.2.2]))⟩, .int .i64 t6.2]) rfl rfl (by kernel_rfl) (fun w => by kernel_rfl) ?_
  refine ls_val (v := .agg ⟨([Value.int .i64 t6.1.1] ++ (([Value.int .i64 t6.1.2.1.1] ++ ([Value.int .i64 t6.1.2.1.2.1] ++ ([Value.int .i64 t6.1.2.1.2.2.1] ++ ([Value.int .u32 t6.1.2.1.2.2.2.1] ++ en (Value.int .u8) t6.1.2.1.2.2.2.2.1)))) ++ [Value.int .i64 t6.1.2.2]))⟩) rfl rfl (by kernel_rfl) (fun w => by kernel_rfl) ?_
  refine ls_val (v := .int .i64 t6.2) rfl rfl (by kernel_rfl) (fun w => by kernel_rfl) ?_
  refine ls_new rfl rfl (by kernel_rfl) 2 (fun g => .pointer (some ⟨g, 0, none⟩)) (.cells ⟨([Value.int .i64 (0 : Int)] ++ (([Value.int .i64 (0 : Int)] ++ ([Value.int .i64 (0 : Int)] ++ ([Value.int .i64 (0 : Int)] ++ ([Value.int .u32 (0 : Int)] ++ en (Value.int .u8) (vrep 32 (0 : Int)).1)))) ++ [Value.int .i64 (0 : Int)]))⟩ 47) (fun w => by kernel_rfl) ?_
  intro g9
  refine ls_storec (g := g9) (off := 0) (v := .agg ⟨([Value.int .i64 t6.1.1] ++ (([Value.int .i64 t6.1.2.1.1] ++ ([Value.int .i64 t6.1.2.1.2.1] ++ ([Value.int .i64 t6.1.2.1.2.2.1] ++ ([Value.int .u32 t6.1.2.1.2.2.2.1] ++ en (Value.int .u8) t6.1.2.1.2.2.2.2.1)))) ++ [Value.int .i64 t6.1.2.2]))⟩) (vs := ([Value.int .i64 t6.1.1] ++ (([Value.int .i64 t6.1.2.1.1] ++ ([Value.int .i64 t6.1.2.1.2.1] ++ ([Value.int .i64 t6.1.2.1.2.2.1] ++ ([Value.int .u32 t6.1.2.1.2.2.2.1] ++ en (Value.int .u8) t6.1.2.1.2.2.2.2.1)))) ++ [Value.int .i64 t6.1.2.2]))) (cs := ([Value.int .i64 (0 : Int)] ++ (([Value.int .i64 (0 : Int)] ++ ([Value.int .i64 (0 : Int)] ++ ([Value.int .i64 (0 : Int)] ++ ([Value.int .u32 (0 : Int)] ++ en (Value.int .u8) (vrep 32 (0 : Int)).1)))) ++ [Value.int .i64 (0 : Int)]))) (ty := 47) 2 rfl rfl rfl (by kernel_rfl) (by kernel_rfl) (by kernel_rfl) (by exact rfl) (by kernel_rfl) (len_app (len1 _) (len_app (len_app (len1 _) (len_app (len1 _) (len_app (len1 _) (len_app (len1 _) (len_en _ t6.1.2.1.2.2.2.2))))) (len1 _))) (one_app (one_cons rfl one_nil) (one_app (one_app (one_cons rfl one_nil) (one_app (one_cons rfl one_nil) (one_app (one_cons rfl one_nil) (one_app (one_cons rfl one_nil) (one_en (fun _ => rfl) _))))) (one_cons rfl one_nil))) (hl_of (Sub4.all _) (len_eq (len_app (len1 _) (len_app (len_app (len1 _) (len_app (len1 _) (len_app (len1 _) (len_app (len1 _) (len_en _ t6.1.2.1.2.2.2.2))))) (len1 _))) (len_app (len1 _) (len_app (len_app (len1 _) (len_app (len1 _) (len_app (len1 _) (len_app (len1 _) (len_en _ (vrep 32 (0 : Int))))))) (len1 _))))) (cs' := ([Value.int .i64 t6.1.1] ++ (([Value.int .i64 t6.1.2.1.1] ++ ([Value.int .i64 t6.1.2.1.2.1] ++ ([Value.int .i64 t6.1.2.1.2.2.1] ++ ([Value.int .u32 t6.1.2.1.2.2.2.1] ++ en (Value.int .u8) t6.1.2.1.2.2.2.2.1)))) ++ [Value.int .i64 t6.1.2.2]))) (splc_all (len_eq (len_app (len1 _) (len_app (len_app (len1 _) (len_app (len1 _) (len_app (len1 _) (len_app (len1 _) (len_en _ t6.1.2.1.2.2.2.2))))) (len1 _))) (len_app (len1 _) (len_app (len_app (len1 _) (len_app (len1 _) (len_app (len1 _) (len_app (len1 _) (len_en _ (vrep 32 (0 : Int))))))) (len1 _))))) ?_
  refine ls_val (v := .int .i64 t6.2) rfl rfl (by kernel_rfl) (fun w => by kernel_rfl) ?_
  refine ls_end ?_
  refine qn_then ?_
  refine cs_cut (fun f S => ∃ (fR : Fr) (x10_1 : Bool), f = upd (upd (upd (upd (upd fR 4 (.pointer (some ⟨g1, 0, none⟩))) 6 (.pointer (some ⟨g5, 0, none⟩))) 8 (.pointer (some ⟨g9, 0, none⟩))) 9 (.int .i64 t6.2)) 10 (.bool x10_1) ∧ S = sput (sput (sput s0 0 (some (Ck.var 47 g1 (([Value.int .i64 (0 : Int)] ++ (([Value.int .i64 (0 : Int)] ++ ([Value.int .i64 (0 : Int)] ++ ([Value.int .i64 (0 : Int)] ++ ([Value.int .u32 (0 : Int)] ++ en (Value.int .u8) (vrep 32 (0 : Int)).1)))) ++ [Value.int .i64 (0 : Int)])))))) 1 (some (Ck.var 47 g5 (([Value.int .i64 t2.1.1] ++ (([Value.int .i64 t2.1.2.1.1] ++ ([Value.int .i64 t2.1.2.1.2.1] ++ ([Value.int .i64 t2.1.2.1.2.2.1] ++ ([Value.int .u32 t2.1.2.1.2.2.2.1] ++ en (Value.int .u8) t2.1.2.1.2.2.2.2.1)))) ++ [Value.int .i64 t2.1.2.2])))))) 2 (some (Ck.var 47 g9 (([Value.int .i64 t6.1.1] ++ (([Value.int .i64 t6.1.2.1.1] ++ ([Value.int .i64 t6.1.2.1.2.1] ++ ([Value.int .i64 t6.1.2.1.2.2.1] ++ ([Value.int .u32 t6.1.2.1.2.2.2.1] ++ en (Value.int .u8) t6.1.2.1.2.2.2.2.1)))) ++ [Value.int .i64 t6.1.2.2]))))) ∧ shadowboxref08_Choose.jo1 t2 t6 x10_1 = some r) ?_ ?_
  · skip
    refine cs_region (l := [_, _, _, _, _, _, _, _, _]) ?_
    refine ls_val (v := .int .i64 t2.2) rfl rfl (by kernel_rfl) (fun w => by kernel_rfl) ?_
    refine ls_val (v := .bool (decide (t2.2 = (0 : Int)))) rfl rfl (by kernel_rfl) (fun w => by kernel_rfl) ?_
    refine ls_val (v := .bool (decide (t2.2 = (0 : Int)))) rfl rfl (by kernel_rfl) (fun w => by kernel_rfl) ?_
    by_cases q16 : t2.2 = (0 : Int)
    · replace H := ite_t q16 H
      refine ls_know (c := true) (dec_t q16) 24 (by kernel_rfl) ?_
      refine ls_on (j := 2) (t := 24) (b := true) rfl rfl (by kernel_rfl) (by kernel_rfl) ?_
      refine ls_val (v := .pointer (some ⟨g5, (0 + 0), none⟩)) rfl rfl (by kernel_rfl) (fun w => by kernel_rfl) ?_
      refine ls_on (j := 2) (t := 24) (b := true) rfl rfl (by kernel_rfl) (by kernel_rfl) ?_
      refine ls_load (a0 := ⟨g5, (0 + 0), none⟩) (v := .int .i64 t2.1.1) (de := (TypeDesc.int .i64)) rfl rfl (by kernel_rfl) rfl (by kernel_rfl) (by kernel_rfl) (by kernel_rfl) (fun w hs => (hs.var (k := 1) (by exact rfl) (Sub4.trans (Sub4.all _) (Sub4.head _ _)))) ?_
      refine ls_on (j := 2) (t := 24) (b := true) rfl rfl (by kernel_rfl) (by kernel_rfl) ?_
      refine ls_val (v := .int .i64 (Int.tmod t2.1.1 (2 : Int))) rfl rfl (by kernel_rfl) (fun w => by kernel_rfl) ?_
      refine ls_on (j := 2) (t := 24) (b := true) rfl rfl (by kernel_rfl) (by kernel_rfl) ?_
      refine ls_val (v := .bool (decide ((Int.tmod t2.1.1 (2 : Int)) = (0 : Int)))) rfl rfl (by kernel_rfl) (fun w => by kernel_rfl) ?_
      refine ls_val (v := .bool (decide ((Int.tmod t2.1.1 (2 : Int)) = (0 : Int)))) rfl rfl (by kernel_rfl) (fun w => by kernel_rfl) ?_
      refine ls_val (v := .bool (decide ((Int.tmod t2.1.1 (2 : Int)) = (0 : Int)))) rfl rfl (by kernel_rfl) (fun w => by kernel_rfl) ?_
      refine ls_end ?_
      refine qn_meet (sput (sput (sput s0 0 (some (Ck.var 47 g1 (([Value.int .i64 (0 : Int)] ++ (([Value.int .i64 (0 : Int)] ++ ([Value.int .i64 (0 : Int)] ++ ([Value.int .i64 (0 : Int)] ++ ([Value.int .u32 (0 : Int)] ++ en (Value.int .u8) (vrep 32 (0 : Int)).1)))) ++ [Value.int .i64 (0 : Int)])))))) 1 (some (Ck.var 47 g5 (([Value.int .i64 t2.1.1] ++ (([Value.int .i64 t2.1.2.1.1] ++ ([Value.int .i64 t2.1.2.1.2.1] ++ ([Value.int .i64 t2.1.2.1.2.2.1] ++ ([Value.int .u32 t2.1.2.1.2.2.2.1] ++ en (Value.int .u8) t2.1.2.1.2.2.2.2.1)))) ++ [Value.int .i64 t2.1.2.2])))))) 2 (some (Ck.var 47 g9 (([Value.int .i64 t6.1.1] ++ (([Value.int .i64 t6.1.2.1.1] ++ ([Value.int .i64 t6.1.2.1.2.1] ++ ([Value.int .i64 t6.1.2.1.2.2.1] ++ ([Value.int .u32 t6.1.2.1.2.2.2.1] ++ en (Value.int .u8) t6.1.2.1.2.2.2.2.1)))) ++ [Value.int .i64 t6.1.2.2])))))) ⟨_, (decide ((Int.tmod t2.1.1 (2 : Int)) = (0 : Int))), fr_next (fr_next (fr_next (fr_next (fr_next (rfl) (by kernel_rfl)) (by kernel_rfl)) (by kernel_rfl)) (by kernel_rfl)) (by kernel_rfl), rfl, H⟩ (sub_put (by exact rfl) (sub_put (by exact rfl) (sub_put (by exact rfl) (sub_nil _))))
    · replace H := ite_f q16 H
      refine ls_know (c := false) (dec_f q16) 24 (by kernel_rfl) ?_
      refine ls_off (j := 2) (t := 24) (b := true) (c := false) rfl rfl (by kernel_rfl) (by kernel_rfl) rfl rfl (by kernel_rfl) ?_
      refine ls_off (j := 2) (t := 24) (b := true) (c := false) rfl rfl (by kernel_rfl) (by kernel_rfl) rfl rfl (by kernel_rfl) ?_
      refine ls_off (j := 2) (t := 24) (b := true) (c := false) rfl rfl (by kernel_rfl) (by kernel_rfl) rfl rfl (by kernel_rfl) ?_
      refine ls_off (j := 2) (t := 24) (b := true) (c := false) rfl rfl (by kernel_rfl) (by kernel_rfl) rfl rfl (by kernel_rfl) ?_
      refine ls_val (v := .bool false) rfl rfl (by kernel_rfl) (fun w => by kernel_rfl) ?_
      refine ls_val (v := .bool false) rfl rfl (by kernel_rfl) (fun w => by kernel_rfl) ?_
      refine ls_end ?_
      refine qn_meet (sput (sput (sput s0 0 (some (Ck.var 47 g1 (([Value.int .i64 (0 : Int)] ++ (([Value.int .i64 (0 : Int)] ++ ([Value.int .i64 (0 : Int)] ++ ([Value.int .i64 (0 : Int)] ++ ([Value.int .u32 (0 : Int)] ++ en (Value.int .u8) (vrep 32 (0 : Int)).1)))) ++ [Value.int .i64 (0 : Int)])))))) 1 (some (Ck.var 47 g5 (([Value.int .i64 t2.1.1] ++ (([Value.int .i64 t2.1.2.1.1] ++ ([Value.int .i64 t2.1.2.1.2.1] ++ ([Value.int .i64 t2.1.2.1.2.2.1] ++ ([Value.int .u32 t2.1.2.1.2.2.2.1] ++ en (Value.int .u8) t2.1.2.1.2.2.2.2.1)))) ++ [Value.int .i64 t2.1.2.2])))))) 2 (some (Ck.var 47 g9 (([Value.int .i64 t6.1.1] ++ (([Value.int .i64 t6.1.2.1.1] ++ ([Value.int .i64 t6.1.2.1.2.1] ++ ([Value.int .i64 t6.1.2.1.2.2.1] ++ ([Value.int .u32 t6.1.2.1.2.2.2.1] ++ en (Value.int .u8) t6.1.2.1.2.2.2.2.1)))) ++ [Value.int .i64 t6.1.2.2])))))) ⟨_, false, fr_next (fr_next (fr_next (fr_next (fr_next (rfl) (by kernel_rfl)) (by kernel_rfl)) (by kernel_rfl)) (by kernel_rfl)) (by kernel_rfl), rfl, H⟩ (sub_put (by exact rfl) (sub_put (by exact rfl) (sub_put (by exact rfl) (sub_nil _))))
  · rintro f S ⟨fr1, x10_1, rfl, rfl, H⟩
    replace H : ((if t6.2 = (0 : Int) then (if x10_1 = true then (if (Int.tmod t6.1.1 (2 : Int)) = (1 : Int) then (if t2.1.1 > t6.1.1 then some (t2.1, true) else some (t6.1, true)) else some (t2.1, true)) else (if (Int.tmod t6.1.1 (2 : Int)) = (1 : Int) then some (t6.1, true) else some (((0 : Int), ((0 : Int), (0 : Int), (0 : Int), (0 : Int), (vrep 32 (0 : Int))), (0 : Int)), false))) else (if x10_1 = true then some (t2.1, true) else some (((0 : Int), ((0 : Int), (0 : Int), (0 : Int), (0 : Int), (vrep 32 (0 : Int))), (0 : Int)), false)))) = some r := H
    refine cs_seq ?_
    refine cs_region (l := [_, _, _, _, _, _, _, _, _]) ?_
    refine ls_val (v := .int .i64 t6.2) rfl rfl (by kernel_rfl) (fun w => by kernel_rfl) ?_
    refine ls_val (v := .bool (decide (t6.2 = (0 : Int)))) rfl rfl (by kernel_rfl) (fun w => by kernel_rfl) ?_
    refine ls_val (v := .bool (decide (t6.2 = (0 : Int)))) rfl rfl (by kernel_rfl) (fun w => by kernel_rfl) ?_
    by_cases q10 : t6.2 = (0 : Int)
    · replace H := ite_t q10 H
      refine ls_know (c := true) (dec_t q10) 32 (by kernel_rfl) ?_
      refine ls_on (j := 2) (t := 32) (b := true) rfl rfl (by kernel_rfl) (by kernel_rfl) ?_
      refine ls_val (v := .pointer (some ⟨g9, (0 + 0), none⟩)) rfl rfl (by kernel_rfl) (fun w => by kernel_rfl) ?_
      refine ls_on (j := 2) (t := 32) (b := true) rfl rfl (by kernel_rfl) (by kernel_rfl) ?_
      refine ls_load (a0 := ⟨g9, (0 + 0), none⟩) (v := .int .i64 t6.1.1) (de := (TypeDesc.int .i64)) rfl rfl (by kernel_rfl) rfl (by kernel_rfl) (by kernel_rfl) (by kernel_rfl) (fun w hs => (hs.var (k := 2) (by exact rfl) (Sub4.trans (Sub4.all _) (Sub4.head _ _)))) ?_
      refine ls_on (j := 2) (t := 32) (b := true) rfl rfl (by kernel_rfl) (by kernel_rfl) ?_
      refine ls_val (v := .int .i64 (Int.tmod t6.1.1 (2 : Int))) rfl rfl (by kernel_rfl) (fun w => by kernel_rfl) ?_
      refine ls_on (j := 2) (t := 32) (b := true) rfl rfl (by kernel_rfl) (by kernel_rfl) ?_
      refine ls_val (v := .bool (decide ((Int.tmod t6.1.1 (2 : Int)) = (1 : Int)))) rfl rfl (by kernel_rfl) (fun w => by kernel_rfl) ?_
      refine ls_val (v := .bool (decide ((Int.tmod t6.1.1 (2 : Int)) = (1 : Int)))) rfl rfl (by kernel_rfl) (fun w => by kernel_rfl) ?_
      refine ls_val (v := .bool (decide ((Int.tmod t6.1.1 (2 : Int)) = (1 : Int)))) rfl rfl (by kernel_rfl) (fun w => by kernel_rfl) ?_
      refine ls_end ?_
      refine qn_then ?_
      refine cs_seq ?_
      refine cs_seq ?_
      refine cs_region (l := [_, _, _, _, _, _, _, _, _, _, _, _]) ?_
      refine ls_val (v := .bool x10_1) rfl rfl (by kernel_rfl) (fun w => by kernel_rfl) ?_
      refine ls_val (v := .bool x10_1) rfl rfl (by kernel_rfl) (fun w => by kernel_rfl) ?_
      by_cases q11 : x10_1 = true
      · replace H := ite_t q11 H
        refine ls_know (c := true) (q11) 39 (by kernel_rfl) ?_
        refine ls_on (j := 1) (t := 39) (b := true) rfl rfl (by kernel_rfl) (by kernel_rfl) ?_
        refine ls_val (v := .bool (decide ((Int.tmod t6.1.1 (2 : Int)) = (1 : Int)))) rfl rfl (by kernel_rfl) (fun w => by kernel_rfl) ?_
        refine ls_on (j := 1) (t := 39) (b := true) rfl rfl (by kernel_rfl) (by kernel_rfl) ?_
        refine ls_val (v := .bool (!(decide ((Int.tmod t6.1.1 (2 : Int)) = (1 : Int))))) rfl rfl (by kernel_rfl) (fun w => by kernel_rfl) ?_
        refine ls_on (j := 1) (t := 39) (b := true) rfl rfl (by kernel_rfl) (by kernel_rfl) ?_
        refine ls_val (v := .bool (!(decide ((Int.tmod t6.1.1 (2 : Int)) = (1 : Int))))) rfl rfl (by kernel_rfl) (fun w => by kernel_rfl) ?_
        by_cases q12 : (Int.tmod t6.1.1 (2 : Int)) = (1 : Int)
        · replace H := ite_t q12 H
          refine ls_know (c := false) (congrArg Bool.not (dec_t q12)) 42 (by kernel_rfl) ?_
          refine ls_on (j := 4) (t := 42) (b := false) rfl rfl (by kernel_rfl) (by kernel_rfl) ?_
          refine ls_val (v := .pointer (some ⟨g5, (0 + 0), none⟩)) rfl rfl (by kernel_rfl) (fun w => by kernel_rfl) ?_
          refine ls_on (j := 4) (t := 42) (b := false) rfl rfl (by kernel_rfl) (by kernel_rfl) ?_
          refine ls_load (a0 := ⟨g5, (0 + 0), none⟩) (v := .int .i64 t2.1.1) (de := (TypeDesc.int .i64)) rfl rfl (by kernel_rfl) rfl (by kernel_rfl) (by kernel_rfl) (by kernel_rfl) (fun w hs => (hs.var (k := 1) (by exact rfl) (Sub4.trans (Sub4.all _) (Sub4.head _ _)))) ?_
          refine ls_on (j := 4) (t := 42) (b := false) rfl rfl (by kernel_rfl) (by kernel_rfl) ?_
          refine ls_val (v := .pointer (some ⟨g9, (0 + 0), none⟩)) rfl rfl (by kernel_rfl) (fun w => by kernel_rfl) ?_
          refine ls_on (j := 4) (t := 42) (b := false) rfl rfl (by kernel_rfl) (by kernel_rfl) ?_
          refine ls_load (a0 := ⟨g9, (0 + 0), none⟩) (v := .int .i64 t6.1.1) (de := (TypeDesc.int .i64)) rfl rfl (by kernel_rfl) rfl (by kernel_rfl) (by kernel_rfl) (by kernel_rfl) (fun w hs => (hs.var (k := 2) (by exact rfl) (Sub4.trans (Sub4.all _) (Sub4.head _ _)))) ?_
          refine ls_on (j := 4) (t := 42) (b := false) rfl rfl (by kernel_rfl) (by kernel_rfl) ?_
          refine ls_val (v := .bool (decide (t2.1.1 > t6.1.1))) rfl rfl (by kernel_rfl) (fun w => by kernel_rfl) ?_
          refine ls_on (j := 1) (t := 39) (b := true) rfl rfl (by kernel_rfl) (by kernel_rfl) ?_
          refine ls_val (v := .bool (decide (t2.1.1 > t6.1.1))) rfl rfl (by kernel_rfl) (fun w => by kernel_rfl) ?_
          refine ls_val (v := .bool (decide (t2.1.1 > t6.1.1))) rfl rfl (by kernel_rfl) (fun w => by kernel_rfl) ?_
          refine ls_end ?_
          refine qn_then ?_
          by_cases q13 : t2.1.1 > t6.1.1
          · replace H := ite_t q13 H
            refine cs_know (c := true) (dec_t q13) 49 (by kernel_rfl) ?_
            refine cs_true (by kernel_rfl) ?_
            refine cs_seq ?_
            refine cs_region (l := [_, _, _]) ?_
            refine ls_loadagg (a := ⟨g5, 0, none⟩) (sub := ([Value.int .i64 t2.1.1] ++ (([Value.int .i64 t2.1.2.1.1] ++ ([Value.int .i64 t2.1.2.1.2.1] ++ ([Value.int .i64 t2.1.2.1.2.2.1] ++ ([Value.int .u32 t2.1.2.1.2.2.2.1] ++ en (Value.int .u8) t2.1.2.1.2.2.2.2.1)))) ++ [Value.int .i64 t2.1.2.2]))) rfl rfl (by kernel_rfl) rfl (by kernel_rfl) (by kernel_rfl) (by kernel_rfl) (len_app (len1 _) (len_app (len_app (len1 _) (len_app (len1 _) (len_app (len1 _) (len_app (len1 _) (len_en _ t2.1.2.1.2.2.2.2))))) (len1 _))) (fun w hs => (hs.vars (k := 1) (by exact rfl) (Sub4.all _))) ?_
            refine ls_storec (g := g1) (off := 0) (v := .agg ⟨([Value.int .i64 t2.1.1] ++ (([Value.int .i64 t2.1.2.1.1] ++ ([Value.int .i64 t2.1.2.1.2.1] ++ ([Value.int .i64 t2.1.2.1.2.2.1] ++ ([Value.int .u32 t2.1.2.1.2.2.2.1] ++ en (Value.int .u8) t2.1.2.1.2.2.2.2.1)))) ++ [Value.int .i64 t2.1.2.2]))⟩) (vs := ([Value.int .i64 t2.1.1] ++ (([Value.int .i64 t2.1.2.1.1] ++ ([Value.int .i64 t2.1.2.1.2.1] ++ ([Value.int .i64 t2.1.2.1.2.2.1] ++ ([Value.int .u32 t2.1.2.1.2.2.2.1] ++ en (Value.int .u8) t2.1.2.1.2.2.2.2.1)))) ++ [Value.int .i64 t2.1.2.2]))) (cs := ([Value.int .i64 (0 : Int)] ++ (([Value.int .i64 (0 : Int)] ++ ([Value.int .i64 (0 : Int)] ++ ([Value.int .i64 (0 : Int)] ++ ([Value.int .u32 (0 : Int)] ++ en (Value.int .u8) (vrep 32 (0 : Int)).1)))) ++ [Value.int .i64 (0 : Int)]))) (ty := 47) 0 rfl rfl rfl (by kernel_rfl) (by kernel_rfl) (by kernel_rfl) (by exact rfl) (by kernel_rfl) (len_app (len1 _) (len_app (len_app (len1 _) (len_app (len1 _) (len_app (len1 _) (len_app (len1 _) (len_en _ t2.1.2.1.2.2.2.2))))) (len1 _))) (one_app (one_cons rfl one_nil) (one_app (one_app (one_cons rfl one_nil) (one_app (one_cons rfl one_nil) (one_app (one_cons rfl one_nil) (one_app (one_cons rfl one_nil) (one_en (fun _ => rfl) _))))) (one_cons rfl one_nil))) (hl_of (Sub4.all _) (len_eq (len_app (len1 _) (len_app (len_app (len1 _) (len_app (len1 _) (len_app (len1 _) (len_app (len1 _) (len_en _ t2.1.2.1.2.2.2.2))))) (len1 _))) (len_app (len1 _) (len_app (len_app (len1 _) (len_app (len1 _) (len_app (len1 _) (len_app (len1 _) (len_en _ (vrep 32 (0 : Int))))))) (len1 _))))) (cs' := ([Value.int .i64 t2.1.1] ++ (([Value.int .i64 t2.1.2.1.1] ++ ([Value.int .i64 t2.1.2.1.2.1] ++ ([Value.int .i64 t2.1.2.1.2.2.1] ++ ([Value.int .u32 t2.1.2.1.2.2.2.1] ++ en (Value.int .u8) t2.1.2.1.2.2.2.2.1)))) ++ [Value.int .i64 t2.1.2.2]))) (splc_all (len_eq (len_app (len1 _) (len_app (len_app (len1 _) (len_app (len1 _) (len_app (len1 _) (len_app (len1 _) (len_en _ t2.1.2.1.2.2.2.2))))) (len1 _))) (len_app (len1 _) (len_app (len_app (len1 _) (len_app (len1 _) (len_app (len1 _) (len_app (len1 _) (len_en _ (vrep 32 (0 : Int))))))) (len1 _))))) ?_
            refine ls_val (v := .bool true) rfl rfl (by kernel_rfl) (fun w => by kernel_rfl) ?_
            refine ls_end ?_
            refine qn_then ?_
            refine cs_ret' ?_
            refine qr_then ?_
            obtain rfl := Option.some.inj H
            refine qr_res (rs := [_, _]) rfl (fun w' hs => ⟨[.agg ⟨([Value.int .i64 t2.1.1] ++ (([Value.int .i64 t2.1.2.1.1] ++ ([Value.int .i64 t2.1.2.1.2.1] ++ ([Value.int .i64 t2.1.2.1.2.2.1] ++ ([Value.int .u32 t2.1.2.1.2.2.2.1] ++ en (Value.int .u8) t2.1.2.1.2.2.2.2.1)))) ++ [Value.int .i64 t2.1.2.2]))⟩, .bool true], (.cell (by kernel_rfl) (run_cellres (by kernel_rfl) (by kernel_rfl) (len_app (len1 _) (len_app (len_app (len1 _) (len_app (len1 _) (len_app (len1 _) (len_app (len1 _) (len_en _ t2.1.2.1.2.2.2.2))))) (len1 _))) (hs.holds 0 _ (by exact rfl))) (res_tmp (by kernel_rfl) (.nil))), (), rfl, hs.pick (ts := []) (cs := []) trivial (by decide)⟩)
          · replace H := ite_f q13 H
            refine cs_know (c := false) (dec_f q13) 49 (by kernel_rfl) ?_
            refine cs_false (by kernel_rfl) ?_
            refine cs_skip' ?_
            refine qn_then ?_
            refine cs_seq ?_
            refine cs_seq ?_
            refine cs_region (l := [_]) ?_
            refine ls_val (v := .bool (decide ((Int.tmod t6.1.1 (2 : Int)) = (1 : Int)))) rfl rfl (by kernel_rfl) (fun w => by kernel_rfl) ?_
            refine ls_end ?_
            refine qn_then ?_
            refine cs_know (c := true) (dec_t q12) 51 (by kernel_rfl) ?_
            refine cs_true (by kernel_rfl) ?_
            refine cs_seq ?_
            refine cs_region (l := [_, _, _]) ?_
            refine ls_loadagg (a := ⟨g9, 0, none⟩) (sub := ([Value.int .i64 t6.1.1] ++ (([Value.int .i64 t6.1.2.1.1] ++ ([Value.int .i64 t6.1.2.1.2.1] ++ ([Value.int .i64 t6.1.2.1.2.2.1] ++ ([Value.int .u32 t6.1.2.1.2.2.2.1] ++ en (Value.int .u8) t6.1.2.1.2.2.2.2.1)))) ++ [Value.int .i64 t6.1.2.2]))) rfl rfl (by kernel_rfl) rfl (by kernel_rfl) (by kernel_rfl) (by kernel_rfl) (len_app (len1 _) (len_app (len_app (len1 _) (len_app (len1 _) (len_app (len1 _) (len_app (len1 _) (len_en _ t6.1.2.1.2.2.2.2))))) (len1 _))) (fun w hs => (hs.vars (k := 2) (by exact rfl) (Sub4.all _))) ?_
            refine ls_storec (g := g1) (off := 0) (v := .agg ⟨([Value.int .i64 t6.1.1] ++ (([Value.int .i64 t6.1.2.1.1] ++ ([Value.int .i64 t6.1.2.1.2.1] ++ ([Value.int .i64 t6.1.2.1.2.2.1] ++ ([Value.int .u32 t6.1.2.1.2.2.2.1] ++ en (Value.int .u8) t6.1.2.1.2.2.2.2.1)))) ++ [Value.int .i64 t6.1.2.2]))⟩) (vs := ([Value.int .i64 t6.1.1] ++ (([Value.int .i64 t6.1.2.1.1] ++ ([Value.int .i64 t6.1.2.1.2.1] ++ ([Value.int .i64 t6.1.2.1.2.2.1] ++ ([Value.int .u32 t6.1.2.1.2.2.2.1] ++ en (Value.int .u8) t6.1.2.1.2.2.2.2.1)))) ++ [Value.int .i64 t6.1.2.2]))) (cs := ([Value.int .i64 (0 : Int)] ++ (([Value.int .i64 (0 : Int)] ++ ([Value.int .i64 (0 : Int)] ++ ([Value.int .i64 (0 : Int)] ++ ([Value.int .u32 (0 : Int)] ++ en (Value.int .u8) (vrep 32 (0 : Int)).1)))) ++ [Value.int .i64 (0 : Int)]))) (ty := 47) 0 rfl rfl rfl (by kernel_rfl) (by kernel_rfl) (by kernel_rfl) (by exact rfl) (by kernel_rfl) (len_app (len1 _) (len_app (len_app (len1 _) (len_app (len1 _) (len_app (len1 _) (len_app (len1 _) (len_en _ t6.1.2.1.2.2.2.2))))) (len1 _))) (one_app (one_cons rfl one_nil) (one_app (one_app (one_cons rfl one_nil) (one_app (one_cons rfl one_nil) (one_app (one_cons rfl one_nil) (one_app (one_cons rfl one_nil) (one_en (fun _ => rfl) _))))) (one_cons rfl one_nil))) (hl_of (Sub4.all _) (len_eq (len_app (len1 _) (len_app (len_app (len1 _) (len_app (len1 _) (len_app (len1 _) (len_app (len1 _) (len_en _ t6.1.2.1.2.2.2.2))))) (len1 _))) (len_app (len1 _) (len_app (len_app (len1 _) (len_app (len1 _) (len_app (len1 _) (len_app (len1 _) (len_en _ (vrep 32 (0 : Int))))))) (len1 _))))) (cs' := ([Value.int .i64 t6.1.1] ++ (([Value.int .i64 t6.1.2.1.1] ++ ([Value.int .i64 t6.1.2.1.2.1] ++ ([Value.int .i64 t6.1.2.1.2.2.1] ++ ([Value.int .u32 t6.1.2.1.2.2.2.1] ++ en (Value.int .u8) t6.1.2.1.2.2.2.2.1)))) ++ [Value.int .i64 t6.1.2.2]))) (splc_all (len_eq (len_app (len1 _) (len_app (len_app (len1 _) (len_app (len1 _) (len_app (len1 _) (len_app (len1 _) (len_en _ t6.1.2.1.2.2.2.2))))) (len1 _))) (len_app (len1 _) (len_app (len_app (len1 _) (len_app (len1 _) (len_app (len1 _) (len_app (len1 _) (len_en _ (vrep 32 (0 : Int))))))) (len1 _))))) ?_
            refine ls_val (v := .bool true) rfl rfl (by kernel_rfl) (fun w => by kernel_rfl) ?_
            refine ls_end ?_
            refine qn_then ?_
            refine cs_ret' ?_
            refine qr_then ?_
            obtain rfl := Option.some.inj H
            refine qr_res (rs := [_, _]) rfl (fun w' hs => ⟨[.agg ⟨([Value.int .i64 t6.1.1] ++ (([Value.int .i64 t6.1.2.1.1] ++ ([Value.int .i64 t6.1.2.1.2.1] ++ ([Value.int .i64 t6.1.2.1.2.2.1] ++ ([Value.int .u32 t6.1.2.1.2.2.2.1] ++ en (Value.int .u8) t6.1.2.1.2.2.2.2.1)))) ++ [Value.int .i64 t6.1.2.2]))⟩, .bool true], (.cell (by kernel_rfl) (run_cellres (by kernel_rfl) (by kernel_rfl) (len_app (len1 _) (len_app (len_app (len1 _) (len_app (len1 _) (len_app (len1 _) (len_app (len1 _) (len_en _ t6.1.2.1.2.2.2.2))))) (len1 _))) (hs.holds 0 _ (by exact rfl))) (res_tmp (by kernel_rfl) (.nil))), (), rfl, hs.pick (ts := []) (cs := []) trivial (by decide)⟩)
        · replace H := ite_f q12 H
          refine ls_know (c := true) (congrArg Bool.not (dec_f q12)) 42 (by kernel_rfl) ?_
          refine ls_off (j := 4) (t := 42) (b := false) (c := true) rfl rfl (by kernel_rfl) (by kernel_rfl) rfl rfl (by kernel_rfl) ?_
          refine ls_off (j := 4) (t := 42) (b := false) (c := true) rfl rfl (by kernel_rfl) (by kernel_rfl) rfl rfl (by kernel_rfl) ?_
          refine ls_off (j := 4) (t := 42) (b := false) (c := true) rfl rfl (by kernel_rfl) (by kernel_rfl) rfl rfl (by kernel_rfl) ?_
          refine ls_off (j := 4) (t := 42) (b := false) (c := true) rfl rfl (by kernel_rfl) (by kernel_rfl) rfl rfl (by kernel_rfl) ?_
          refine ls_off (j := 4) (t := 42) (b := false) (c := true) rfl rfl (by kernel_rfl) (by kernel_rfl) rfl rfl (by kernel_rfl) ?_
          refine ls_on (j := 1) (t := 39) (b := true) rfl rfl (by kernel_rfl) (by kernel_rfl) ?_
          refine ls_val (v := .bool true) rfl rfl (by kernel_rfl) (fun w => by kernel_rfl) ?_
          refine ls_val (v := .bool true) rfl rfl (by kernel_rfl) (fun w => by kernel_rfl) ?_
          refine ls_end ?_
          refine qn_then ?_
          refine cs_true (by kernel_rfl) ?_
          refine cs_seq ?_
          refine cs_region (l := [_, _, _]) ?_
          refine ls_loadagg (a := ⟨g5, 0, none⟩) (sub := ([Value.int .i64 t2.1.1] ++ (([Value.int .i64 t2.1.2.1.1] ++ ([Value.int .i64 t2.1.2.1.2.1] ++ ([Value.int .i64 t2.1.2.1.2.2.1] ++ ([Value.int .u32 t2.1.2.1.2.2.2.1] ++ en (Value.int .u8) t2.1.2.1.2.2.2.2.1)))) ++ [Value.int .i64 t2.1.2.2]))) rfl rfl (by kernel_rfl) rfl (by kernel_rfl) (by kernel_rfl) (by kernel_rfl) (len_app (len1 _) (len_app (len_app (len1 _) (len_app (len1 _) (len_app (len1 _) (len_app (len1 _) (len_en _ t2.1.2.1.2.2.2.2))))) (len1 _))) (fun w hs => (hs.vars (k := 1) (by exact rfl) (Sub4.all _))) ?_
          refine ls_storec (g := g1) (off := 0) (v := .agg ⟨([Value.int .i64 t2.1.1] ++ (([Value.int .i64 t2.1.2.1.1] ++ ([Value.int .i64 t2.1.2.1.2.1] ++ ([Value.int .i64 t2.1.2.1.2.2.1] ++ ([Value.int .u32 t2.1.2.1.2.2.2.1] ++ en (Value.int .u8) t2.1.2.1.2.2.2.2.1)))) ++ [Value.int .i64 t2.1.2.2]))⟩) (vs := ([Value.int .i64 t2.1.1] ++ (([Value.int .i64 t2.1.2.1.1] ++ ([Value.int .i64 t2.1.2.1.2.1] ++ ([Value.int .i64 t2.1.2.1.2.2.1] ++ ([Value.int .u32 t2.1.2.1.2.2.2.1] ++ en (Value.int .u8) t2.1.2.1.2.2.2.2.1)))) ++ [Value.int .i64 t2.1.2.2]))) (cs := ([Value.int .i64 (0 : Int)] ++ (([Value.int .i64 (0 : Int)] ++ ([Value.int .i64 (0 : Int)] ++ ([Value.int .i64 (0 : Int)] ++ ([Value.int .u32 (0 : Int)] ++ en (Value.int .u8) (vrep 32 (0 : Int)).1)))) ++ [Value.int .i64 (0 : Int)]))) (ty := 47) 0 rfl rfl rfl (by kernel_rfl) (by kernel_rfl) (by kernel_rfl) (by exact rfl) (by kernel_rfl) (len_app (len1 _) (len_app (len_app (len1 _) (len_app (len1 _) (len_app (len1 _) (len_app (len1 _) (len_en _ t2.1.2.1.2.2.2.2))))) (len1 _))) (one_app (one_cons rfl one_nil) (one_app (one_app (one_cons rfl one_nil) (one_app (one_cons rfl one_nil) (one_app (one_cons rfl one_nil) (one_app (one_cons rfl one_nil) (one_en (fun _ => rfl) _))))) (one_cons rfl one_nil))) (hl_of (Sub4.all _) (len_eq (len_app (len1 _) (len_app (len_app (len1 _) (len_app (len1 _) (len_app (len1 _) (len_app (len1 _) (len_en _ t2.1.2.1.2.2.2.2))))) (len1 _))) (len_app (len1 _) (len_app (len_app (len1 _) (len_app (len1 _) (len_app (len1 _) (len_app (len1 _) (len_en _ (vrep 32 (0 : Int))))))) (len1 _))))) (cs' := ([Value.int .i64 t2.1.1] ++ (([Value.int .i64 t2.1.2.1.1] ++ ([Value.int .i64 t2.1.2.1.2.1] ++ ([Value.int .i64 t2.1.2.1.2.2.1] ++ ([Value.int .u32 t2.1.2.1.2.2.2.1] ++ en (Value.int .u8) t2.1.2.1.2.2.2.2.1)))) ++ [Value.int .i64 t2.1.2.2]))) (splc_all (len_eq (len_app (len1 _) (len_app (len_app (len1 _) (len_app (len1 _) (len_app (len1 _) (len_app (len1 _) (len_en _ t2.1.2.1.2.2.2.2))))) (len1 _))) (len_app (len1 _) (len_app (len_app (len1 _) (len_app (len1 _) (len_app (len1 _) (len_app (len1 _) (len_en _ (vrep 32 (0 : Int))))))) (len1 _))))) ?_
          refine ls_val (v := .bool true) rfl rfl (by kernel_rfl) (fun w => by kernel_rfl) ?_
          refine ls_end ?_
          refine qn_then ?_
          refine cs_ret' ?_
          refine qr_then ?_
          obtain rfl := Option.some.inj H
          refine qr_res (rs := [_, _]) rfl (fun w' hs => ⟨[.agg ⟨([Value.int .i64 t2.1.1] ++ (([Value.int .i64 t2.1.2.1.1] ++ ([Value.int .i64 t2.1.2.1.2.1] ++ ([Value.int .i64 t2.1.2.1.2.2.1] ++ ([Value.int .u32 t2.1.2.1.2.2.2.1] ++ en (Value.int .u8) t2.1.2.1.2.2.2.2.1)))) ++ [Value.int .i64 t2.1.2.2]))⟩, .bool true], (.cell (by kernel_rfl) (run_cellres (by kernel_rfl) (by kernel_rfl) (len_app (len1 _) (len_app (len_app (len1 _) (len_app (len1 _) (len_app (len1 _) (len_app (len1 _) (len_en _ t2.1.2.1.2.2.2.2))))) (len1 _))) (hs.holds 0 _ (by exact rfl))) (res_tmp (by kernel_rfl) (.nil))), (), rfl, hs.pick (ts := []) (cs := []) trivial (by decide)⟩)
      · replace H := ite_f q11 H
        refine ls_know (c := false) (Bool.eq_false_iff.mpr q11) 39 (by kernel_rfl) ?_
        refine ls_off (j := 1) (t := 39) (b := true) (c := false) rfl rfl (by kernel_rfl) (by kernel_rfl) rfl rfl (by kernel_rfl) ?_
        refine ls_off (j := 1) (t := 39) (b := true) (c := false) rfl rfl (by kernel_rfl) (by kernel_rfl) rfl rfl (by kernel_rfl) ?_
        refine ls_off (j := 1) (t := 39) (b := true) (c := false) rfl rfl (by kernel_rfl) (by kernel_rfl) rfl rfl (by kernel_rfl) ?_
        refine ls_offu (j := 4) (t := 42) (b := false) rfl rfl (by kernel_rfl) (by kernel_rfl) rfl (by kernel_rfl) ?_
        refine ls_offu (j := 4) (t := 42) (b := false) rfl rfl (by kernel_rfl) (by kernel_rfl) rfl (by kernel_rfl) ?_
        refine ls_offu (j := 4) (t := 42) (b := false) rfl rfl (by kernel_rfl) (by kernel_rfl) rfl (by kernel_rfl) ?_
        refine ls_offu (j := 4) (t := 42) (b := false) rfl rfl (by kernel_rfl) (by kernel_rfl) rfl (by kernel_rfl) ?_
        refine ls_offu (j := 4) (t := 42) (b := false) rfl rfl (by kernel_rfl) (by kernel_rfl) rfl (by kernel_rfl) ?_
        refine ls_off (j := 1) (t := 39) (b := true) (c := false) rfl rfl (by kernel_rfl) (by kernel_rfl) rfl rfl (by kernel_rfl) ?_
        refine ls_val (v := .bool false) rfl rfl (by kernel_rfl) (fun w => by kernel_rfl) ?_
        refine ls_end ?_
        refine qn_then ?_
        refine cs_false (by kernel_rfl) ?_
        refine cs_skip' ?_
        refine qn_then ?_
        refine cs_seq ?_
        refine cs_seq ?_
        refine cs_region (l := [_]) ?_
        refine ls_val (v := .bool (decide ((Int.tmod t6.1.1 (2 : Int)) = (1 : Int)))) rfl rfl (by kernel_rfl) (fun w => by kernel_rfl) ?_
        refine ls_end ?_
        refine qn_then ?_
        by_cases q14 : (Int.tmod t6.1.1 (2 : Int)) = (1 : Int)
        · replace H := ite_t q14 H
          refine cs_know (c := true) (dec_t q14) 51 (by kernel_rfl) ?_
          refine cs_true (by kernel_rfl) ?_
          refine cs_seq ?_
          refine cs_region (l := [_, _, _]) ?_
          refine ls_loadagg (a := ⟨g9, 0, none⟩) (sub := ([Value.int .i64 t6.1.1] ++ (([Value.int .i64 t6.1.2.1.1] ++ ([Value.int .i64 t6.1.2.1.2.1] ++ ([Value.int .i64 t6.1.2.1.2.2.1] ++ ([Value.int .u32 t6.1.2.1.2.2.2.1] ++ en (Value.int .u8) t6.1.2.1.2.2.2.2.1)))) ++ [Value.int .i64 t6.1.2.2]))) rfl rfl (by kernel_rfl) rfl (by kernel_rfl) (by kernel_rfl) (by kernel_rfl) (len_app (len1 _) (len_app (len_app (len1 _) (len_app (len1 _) (len_app (len1 _) (len_app (len1 _) (len_en _ t6.1.2.1.2.2.2.2))))) (len1 _))) (fun w hs => (hs.vars (k := 2) (by exact rfl) (Sub4.all _))) ?_
          refine ls_storec (g := g1) (off := 0) (v := .agg ⟨([Value.int .i64 t6.1.1] ++ (([Value.int .i64 t6.1.2.1.1] ++ ([Value.int .i64 t6.1.2.1.2.1] ++ ([Value.int .i64 t6.1.2.1.2.2.1] ++ ([Value.int .u32 t6.1.2.1.2.2.2.1] ++ en (Value.int .u8) t6.1.2.1.2.2.2.2.1)))) ++ [Value.int .i64 t6.1.2.2]))⟩) (vs := ([Value.int .i64 t6.1.1] ++ (([Value.int .i64 t6.1.2.1.1] ++ ([Value.int .i64 t6.1.2.1.2.1] ++ ([Value.int .i64 t6.1.2.1.2.2.1] ++ ([Value.int .u32 t6.1.2.1.2.2.2.1] ++ en (Value.int .u8) t6.1.2.1.2.2.2.2.1)))) ++ [Value.int .i64 t6.1.2.2]))) (cs := ([Value.int .i64 (0 : Int)] ++ (([Value.int .i64 (0 : Int)] ++ ([Value.int .i64 (0 : Int)] ++ ([Value.int .i64 (0 : Int)] ++ ([Value.int .u32 (0 : Int)] ++ en (Value.int .u8) (vrep 32 (0 : Int)).1)))) ++ [Value.int .i64 (0 : Int)]))) (ty := 47) 0 rfl rfl rfl (by kernel_rfl) (by kernel_rfl) (by kernel_rfl) (by exact rfl) (by kernel_rfl) (len_app (len1 _) (len_app (len_app (len1 _) (len_app (len1 _) (len_app (len1 _) (len_app (len1 _) (len_en _ t6.1.2.1.2.2.2.2))))) (len1 _))) (one_app (one_cons rfl one_nil) (one_app (one_app (one_cons rfl one_nil) (one_app (one_cons rfl one_nil) (one_app (one_cons rfl one_nil) (one_app (one_cons rfl one_nil) (one_en (fun _ => rfl) _))))) (one_cons rfl one_nil))) (hl_of (Sub4.all _) (len_eq (len_app (len1 _) (len_app (len_app (len1 _) (len_app (len1 _) (len_app (len1 _) (len_app (len1 _) (len_en _ t6.1.2.1.2.2.2.2))))) (len1 _))) (len_app (len1 _) (len_app (len_app (len1 _) (len_app (len1 _) (len_app (len1 _) (len_app (len1 _) (len_en _ (vrep 32 (0 : Int))))))) (len1 _))))) (cs' := ([Value.int .i64 t6.1.1] ++ (([Value.int .i64 t6.1.2.1.1] ++ ([Value.int .i64 t6.1.2.1.2.1] ++ ([Value.int .i64 t6.1.2.1.2.2.1] ++ ([Value.int .u32 t6.1.2.1.2.2.2.1] ++ en (Value.int .u8) t6.1.2.1.2.2.2.2.1)))) ++ [Value.int .i64 t6.1.2.2]))) (splc_all (len_eq (len_app (len1 _) (len_app (len_app (len1 _) (len_app (len1 _) (len_app (len1 _) (len_app (len1 _) (len_en _ t6.1.2.1.2.2.2.2))))) (len1 _))) (len_app (len1 _) (len_app (len_app (len1 _) (len_app (len1 _) (len_app (len1 _) (len_app (len1 _) (len_en _ (vrep 32 (0 : Int))))))) (len1 _))))) ?_
          refine ls_val (v := .bool true) rfl rfl (by kernel_rfl) (fun w => by kernel_rfl) ?_
          refine ls_end ?_
          refine qn_then ?_
          refine cs_ret' ?_
          refine qr_then ?_
          obtain rfl := Option.some.inj H
          refine qr_res (rs := [_, _]) rfl (fun w' hs => ⟨[.agg ⟨([Value.int .i64 t6.1.1] ++ (([Value.int .i64 t6.1.2.1.1] ++ ([Value.int .i64 t6.1.2.1.2.1] ++ ([Value.int .i64 t6.1.2.1.2.2.1] ++ ([Value.int .u32 t6.1.2.1.2.2.2.1] ++ en (Value.int .u8) t6.1.2.1.2.2.2.2.1)))) ++ [Value.int .i64 t6.1.2.2]))⟩, .bool true], (.cell (by kernel_rfl) (run_cellres (by kernel_rfl) (by kernel_rfl) (len_app (len1 _) (len_app (len_app (len1 _) (len_app (len1 _) (len_app (len1 _) (len_app (len1 _) (len_en _ t6.1.2.1.2.2.2.2))))) (len1 _))) (hs.holds 0 _ (by exact rfl))) (res_tmp (by kernel_rfl) (.nil))), (), rfl, hs.pick (ts := []) (cs := []) trivial (by decide)⟩)
        · replace H := ite_f q14 H
          refine cs_know (c := false) (dec_f q14) 51 (by kernel_rfl) ?_
          refine cs_false (by kernel_rfl) ?_
          refine cs_skip' ?_
          refine qn_then ?_
          refine cs_seq ?_
          refine cs_region (l := [_, _, _]) ?_
          refine ls_build (ps := []) (pl := #[(0, 1), (1, 36), (37, 1)]) (zv := .agg ⟨([Value.int .i64 (0 : Int)] ++ (([Value.int .i64 (0 : Int)] ++ ([Value.int .i64 (0 : Int)] ++ ([Value.int .i64 (0 : Int)] ++ ([Value.int .u32 (0 : Int)] ++ en (Value.int .u8) (vrep 32 (0 : Int)).1)))) ++ [Value.int .i64 (0 : Int)]))⟩) (zc := ([Value.int .i64 (0 : Int)] ++ (([Value.int .i64 (0 : Int)] ++ ([Value.int .i64 (0 : Int)] ++ ([Value.int .i64 (0 : Int)] ++ ([Value.int .u32 (0 : Int)] ++ en (Value.int .u8) (vrep 32 (0 : Int)).1)))) ++ [Value.int .i64 (0 : Int)]))) (r := ([Value.int .i64 (0 : Int)] ++ (([Value.int .i64 (0 : Int)] ++ ([Value.int .i64 (0 : Int)] ++ ([Value.int .i64 (0 : Int)] ++ ([Value.int .u32 (0 : Int)] ++ en (Value.int .u8) (vrep 32 (0 : Int)).1)))) ++ [Value.int .i64 (0 : Int)]))) rfl rfl (by kernel_rfl) rfl (by kernel_rfl) (by kernel_rfl) (fun w => by kernel_rfl) (fun w => by kernel_rfl) rfl fill_nil ?_
          refine ls_storec (g := g1) (off := 0) (v := .agg ⟨([Value.int .i64 (0 : Int)] ++ (([Value.int .i64 (0 : Int)] ++ ([Value.int .i64 (0 : Int)] ++ ([Value.int .i64 (0 : Int)] ++ ([Value.int .u32 (0 : Int)] ++ en (Value.int .u8) (vrep 32 (0 : Int)).1)))) ++ [Value.int .i64 (0 : Int)]))⟩) (vs := ([Value.int .i64 (0 : Int)] ++ (([Value.int .i64 (0 : Int)] ++ ([Value.int .i64 (0 : Int)] ++ ([Value.int .i64 (0 : Int)] ++ ([Value.int .u32 (0 : Int)] ++ en (Value.int .u8) (vrep 32 (0 : Int)).1)))) ++ [Value.int .i64 (0 : Int)]))) (cs := ([Value.int .i64 (0 : Int)] ++ (([Value.int .i64 (0 : Int)] ++ ([Value.int .i64 (0 : Int)] ++ ([Value.int .i64 (0 : Int)] ++ ([Value.int .u32 (0 : Int)] ++ en (Value.int .u8) (vrep 32 (0 : Int)).1)))) ++ [Value.int .i64 (0 : Int)]))) (ty := 47) 0 rfl rfl rfl (by kernel_rfl) (by kernel_rfl) (by kernel_rfl) (by exact rfl) (by kernel_rfl) (len_app (len1 _) (len_app (len_app (len1 _) (len_app (len1 _) (len_app (len1 _) (len_app (len1 _) (len_en _ (vrep 32 (0 : Int))))))) (len1 _))) (one_app (one_cons rfl one_nil) (one_app (one_app (one_cons rfl one_nil) (one_app (one_cons rfl one_nil) (one_app (one_cons rfl one_nil) (one_app (one_cons rfl one_nil) (one_en (fun _ => rfl) _))))) (one_cons rfl one_nil))) (hl_of (Sub4.all _) (len_eq (len_app (len1 _) (len_app (len_app (len1 _) (len_app (len1 _) (len_app (len1 _) (len_app (len1 _) (len_en _ (vrep 32 (0 : Int))))))) (len1 _))) (len_app (len1 _) (len_app (len_app (len1 _) (len_app (len1 _) (len_app (len1 _) (len_app (len1 _) (len_en _ (vrep 32 (0 : Int))))))) (len1 _))))) (cs' := ([Value.int .i64 (0 : Int)] ++ (([Value.int .i64 (0 : Int)] ++ ([Value.int .i64 (0 : Int)] ++ ([Value.int .i64 (0 : Int)] ++ ([Value.int .u32 (0 : Int)] ++ en (Value.int .u8) (vrep 32 (0 : Int)).1)))) ++ [Value.int .i64 (0 : Int)]))) (splc_all (len_eq (len_app (len1 _) (len_app (len_app (len1 _) (len_app (len1 _) (len_app (len1 _) (len_app (len1 _) (len_en _ (vrep 32 (0 : Int))))))) (len1 _))) (len_app (len1 _) (len_app (len_app (len1 _) (len_app (len1 _) (len_app (len1 _) (len_app (len1 _) (len_en _ (vrep 32 (0 : Int))))))) (len1 _))))) ?_
          refine ls_val (v := .bool false) rfl rfl (by kernel_rfl) (fun w => by kernel_rfl) ?_
          refine ls_end ?_
          refine qn_then ?_
          refine cs_ret' ?_
          obtain rfl := Option.some.inj H
          refine qr_res (rs := [_, _]) rfl (fun w' hs => ⟨[.agg ⟨([Value.int .i64 (0 : Int)] ++ (([Value.int .i64 (0 : Int)] ++ ([Value.int .i64 (0 : Int)] ++ ([Value.int .i64 (0 : Int)] ++ ([Value.int .u32 (0 : Int)] ++ en (Value.int .u8) (vrep 32 (0 : Int)).1)))) ++ [Value.int .i64 (0 : Int)]))⟩, .bool false], (.cell (by kernel_rfl) (run_cellres (by kernel_rfl) (by kernel_rfl) (len_app (len1 _) (len_app (len_app (len1 _) (len_app (len1 _) (len_app (len1 _) (len_app (len1 _) (len_en _ (vrep 32 (0 : Int))))))) (len1 _))) (hs.holds 0 _ (by exact rfl))) (res_tmp (by kernel_rfl) (.nil))), (), rfl, hs.pick (ts := []) (cs := []) trivial (by decide)⟩)
    · replace H := ite_f q10 H
      refine ls_know (c := false) (dec_f q10) 32 (by kernel_rfl) ?_
      refine ls_off (j := 2) (t := 32) (b := true) (c := false) rfl rfl (by kernel_rfl) (by kernel_rfl) rfl rfl (by kernel_rfl) ?_
      refine ls_off (j := 2) (t := 32) (b := true) (c := false) rfl rfl (by kernel_rfl) (by kernel_rfl) rfl rfl (by kernel_rfl) ?_
      refine ls_off (j := 2) (t := 32) (b := true) (c := false) rfl rfl (by kernel_rfl) (by kernel_rfl) rfl rfl (by kernel_rfl) ?_
      refine ls_off (j := 2) (t := 32) (b := true) (c := false) rfl rfl (by kernel_rfl) (by kernel_rfl) rfl rfl (by kernel_rfl) ?_
      refine ls_val (v := .bool false) rfl rfl (by kernel_rfl) (fun w => by kernel_rfl) ?_
      refine ls_val (v := .bool false) rfl rfl (by kernel_rfl) (fun w => by kernel_rfl) ?_
      refine ls_end ?_
      refine qn_then ?_
      refine cs_seq ?_
      refine cs_seq ?_
      refine cs_region (l := [_, _, _, _, _, _, _, _, _, _, _, _]) ?_
      refine ls_val (v := .bool x10_1) rfl rfl (by kernel_rfl) (fun w => by kernel_rfl) ?_
      refine ls_val (v := .bool x10_1) rfl rfl (by kernel_rfl) (fun w => by kernel_rfl) ?_
      by_cases q15 : x10_1 = true
      · replace H := ite_t q15 H
        refine ls_know (c := true) (q15) 39 (by kernel_rfl) ?_
        refine ls_on (j := 1) (t := 39) (b := true) rfl rfl (by kernel_rfl) (by kernel_rfl) ?_
        refine ls_val (v := .bool false) rfl rfl (by kernel_rfl) (fun w => by kernel_rfl) ?_
        refine ls_on (j := 1) (t := 39) (b := true) rfl rfl (by kernel_rfl) (by kernel_rfl) ?_
        refine ls_val (v := .bool true) rfl rfl (by kernel_rfl) (fun w => by kernel_rfl) ?_
        refine ls_on (j := 1) (t := 39) (b := true) rfl rfl (by kernel_rfl) (by kernel_rfl) ?_
        refine ls_val (v := .bool true) rfl rfl (by kernel_rfl) (fun w => by kernel_rfl) ?_
        refine ls_off (j := 4) (t := 42) (b := false) (c := true) rfl rfl (by kernel_rfl) (by kernel_rfl) rfl rfl (by kernel_rfl) ?_
        refine ls_off (j := 4) (t := 42) (b := false) (c := true) rfl rfl (by kernel_rfl) (by kernel_rfl) rfl rfl (by kernel_rfl) ?_
        refine ls_off (j := 4) (t := 42) (b := false) (c := true) rfl rfl (by kernel_rfl) (by kernel_rfl) rfl rfl (by kernel_rfl) ?_
        refine ls_off (j := 4) (t := 42) (b := false) (c := true) rfl rfl (by kernel_rfl) (by kernel_rfl) rfl rfl (by kernel_rfl) ?_
        refine ls_off (j := 4) (t := 42) (b := false) (c := true) rfl rfl (by kernel_rfl) (by kernel_rfl) rfl rfl (by kernel_rfl) ?_
        refine ls_on (j := 1) (t := 39) (b := true) rfl rfl (by kernel_rfl) (by kernel_rfl) ?_
        refine ls_val (v := .bool true) rfl rfl (by kernel_rfl) (fun w => by kernel_rfl) ?_
        refine ls_val (v := .bool true) rfl rfl (by kernel_rfl) (fun w => by kernel_rfl) ?_
        refine ls_end ?_
        refine qn_then ?_
        refine cs_true (by kernel_rfl) ?_
        refine cs_seq ?_
        refine cs_region (l := [_, _, _]) ?_
        refine ls_loadagg (a := ⟨g5, 0, none⟩) (sub := ([Value.int .i64 t2.1.1] ++ (([Value.int .i64 t2.1.2.1.1] ++ ([Value.int .i64 t2.1.2.1.2.1] ++ ([Value.int .i64 t2.1.2.1.2.2.1] ++ ([Value.int .u32 t2.1.2.1.2.2.2.1] ++ en (Value.int .u8) t2.1.2.1.2.2.2.2.1)))) ++ [Value.int .i64 t2.1.2.2]))) rfl rfl (by kernel_rfl) rfl (by kernel_rfl) (by kernel_rfl) (by kernel_rfl) (len_app (len1 _) (len_app (len_app (len1 _) (len_app (len1 _) (len_app (len1 _) (len_app (len1 _) (len_en _ t2.1.2.1.2.2.2.2))))) (len1 _))) (fun w hs => (hs.vars (k := 1) (by exact rfl) (Sub4.all _))) ?_
        refine ls_storec (g := g1) (off := 0) (v := .agg ⟨([Value.int .i64 t2.1.1] ++ (([Value.int .i64 t2.1.2.1.1] ++ ([Value.int .i64 t2.1.2.1.2.1] ++ ([Value.int .i64 t2.1.2.1.2.2.1] ++ ([Value.int .u32 t2.1.2.1.2.2.2.1] ++ en (Value.int .u8) t2.1.2.1.2.2.2.2.1)))) ++ [Value.int .i64 t2.1.2.2]))⟩) (vs := ([Value.int .i64 t2.1.1] ++ (([Value.int .i64 t2.1.2.1.1] ++ ([Value.int .i64 t2.1.2.1.2.1] ++ ([Value.int .i64 t2.1.2.1.2.2.1] ++ ([Value.int .u32 t2.1.2.1.2.2.2.1] ++ en (Value.int .u8) t2.1.2.1.2.2.2.2.1)))) ++ [Value.int .i64 t2.1.2.2]))) (cs := ([Value.int .i64 (0 : Int)] ++ (([Value.int .i64 (0 : Int)] ++ ([Value.int .i64 (0 : Int)] ++ ([Value.int .i64 (0 : Int)] ++ ([Value.int .u32 (0 : Int)] ++ en (Value.int .u8) (vrep 32 (0 : Int)).1)))) ++ [Value.int .i64 (0 : Int)]))) (ty := 47) 0 rfl rfl rfl (by kernel_rfl) (by kernel_rfl) (by kernel_rfl) (by exact rfl) (by kernel_rfl) (len_app (len1 _) (len_app (len_app (len1 _) (len_app (len1 _) (len_app (len1 _) (len_app (len1 _) (len_en _ t2.1.2.1.2.2.2.2))))) (len1 _))) (one_app (one_cons rfl one_nil) (one_app (one_app (one_cons rfl one_nil) (one_app (one_cons rfl one_nil) (one_app (one_cons rfl one_nil) (one_app (one_cons rfl one_nil) (one_en (fun _ => rfl) _))))) (one_cons rfl one_nil))) (hl_of (Sub4.all _) (len_eq (len_app (len1 _) (len_app (len_app (len1 _) (len_app (len1 _) (len_app (len1 _) (len_app (len1 _) (len_en _ t2.1.2.1.2.2.2.2))))) (len1 _))) (len_app (len1 _) (len_app (len_app (len1 _) (len_app (len1 _) (len_app (len1 _) (len_app (len1 _) (len_en _ (vrep 32 (0 : Int))))))) (len1 _))))) (cs' := ([Value.int .i64 t2.1.1] ++ (([Value.int .i64 t2.1.2.1.1] ++ ([Value.int .i64 t2.1.2.1.2.1] ++ ([Value.int .i64 t2.1.2.1.2.2.1] ++ ([Value.int .u32 t2.1.2.1.2.2.2.1] ++ en (Value.int .u8) t2.1.2.1.2.2.2.2.1)))) ++ [Value.int .i64 t2.1.2.2]))) (splc_all (len_eq (len_app (len1 _) (len_app (len_app (len1 _) (len_app (len1 _) (len_app (len1 _) (len_app (len1 _) (len_en _ t2.1.2.1.2.2.2.2))))) (len1 _))) (len_app (len1 _) (len_app (len_app (len1 _) (len_app (len1 _) (len_app (len1 _) (len_app (len1 _) (len_en _ (vrep 32 (0 : Int))))))) (len1 _))))) ?_
        refine ls_val (v := .bool true) rfl rfl (by kernel_rfl) (fun w => by kernel_rfl) ?_
        refine ls_end ?_
        refine qn_then ?_
        refine cs_ret' ?_
        refine qr_then ?_
        obtain rfl := Option.some.inj H
        refine qr_res (rs := [_, _]) rfl (fun w' hs => ⟨[.agg ⟨([Value.int .i64 t2.1.1] ++ (([Value.int .i64 t2.1.2.1.1] ++ ([Value.int .i64 t2.1.2.1.2.1] ++ ([Value.int .i64 t2.1.2.1.2.2.1] ++ ([Value.int .u32 t2.1.2.1.2.2.2.1] ++ en (Value.int .u8) t2.1.2.1.2.2.2.2.1)))) ++ [Value.int .i64 t2.1.2.2]))⟩, .bool true], (.cell (by kernel_rfl) (run_cellres (by kernel_rfl) (by kernel_rfl) (len_app (len1 _) (len_app (len_app (len1 _) (len_app (len1 _) (len_app (len1 _) (len_app (len1 _) (len_en _ t2.1.2.1.2.2.2.2))))) (len1 _))) (hs.holds 0 _ (by exact rfl))) (res_tmp (by kernel_rfl) (.nil))), (), rfl, hs.pick (ts := []) (cs := []) trivial (by decide)⟩)
      · replace H := ite_f q15 H
        refine ls_know (c := false) (Bool.eq_false_iff.mpr q15) 39 (by kernel_rfl) ?_
        refine ls_off (j := 1) (t := 39) (b := true) (c := false) rfl rfl (by kernel_rfl) (by kernel_rfl) rfl rfl (by kernel_rfl) ?_
        refine ls_off (j := 1) (t := 39) (b := true) (c := false) rfl rfl (by kernel_rfl) (by kernel_rfl) rfl rfl (by kernel_rfl) ?_
        refine ls_off (j := 1) (t := 39) (b := true) (c := false) rfl rfl (by kernel_rfl) (by kernel_rfl) rfl rfl (by kernel_rfl) ?_
        refine ls_offu (j := 4) (t := 42) (b := false) rfl rfl (by kernel_rfl) (by kernel_rfl) rfl (by kernel_rfl) ?_
        refine ls_offu (j := 4) (t := 42) (b := false) rfl rfl (by kernel_rfl) (by kernel_rfl) rfl (by kernel_rfl) ?_
        refine ls_offu (j := 4) (t := 42) (b := false) rfl rfl (by kernel_rfl) (by kernel_rfl) rfl (by kernel_rfl) ?_
        refine ls_offu (j := 4) (t := 42) (b := false) rfl rfl (by kernel_rfl) (by kernel_rfl) rfl (by kernel_rfl) ?_
        refine ls_offu (j := 4) (t := 42) (b := false) rfl rfl (by kernel_rfl) (by kernel_rfl) rfl (by kernel_rfl) ?_
        refine ls_off (j := 1) (t := 39) (b := true) (c := false) rfl rfl (by kernel_rfl) (by kernel_rfl) rfl rfl (by kernel_rfl) ?_
        refine ls_val (v := .bool false) rfl rfl (by kernel_rfl) (fun w => by kernel_rfl) ?_
        refine ls_end ?_
        refine qn_then ?_
        refine cs_false (by kernel_rfl) ?_
        refine cs_skip' ?_
        refine qn_then ?_
        refine cs_seq ?_
        refine cs_seq ?_
        refine cs_region (l := [_]) ?_
        refine ls_val (v := .bool false) rfl rfl (by kernel_rfl) (fun w => by kernel_rfl) ?_
        refine ls_end ?_
        refine qn_then ?_
        refine cs_false (by kernel_rfl) ?_
        refine cs_skip' ?_
        refine qn_then ?_
        refine cs_seq ?_
        refine cs_region (l := [_, _, _]) ?_
        refine ls_build (ps := []) (pl := #[(0, 1), (1, 36), (37, 1)]) (zv := .agg ⟨([Value.int .i64 (0 : Int)] ++ (([Value.int .i64 (0 : Int)] ++ ([Value.int .i64 (0 : Int)] ++ ([Value.int .i64 (0 : Int)] ++ ([Value.int .u32 (0 : Int)] ++ en (Value.int .u8) (vrep 32 (0 : Int)).1)))) ++ [Value.int .i64 (0 : Int)]))⟩) (zc := ([Value.int .i64 (0 : Int)] ++ (([Value.int .i64 (0 : Int)] ++ ([Value.int .i64 (0 : Int)] ++ ([Value.int .i64 (0 : Int)] ++ ([Value.int .u32 (0 : Int)] ++ en (Value.int .u8) (vrep 32 (0 : Int)).1)))) ++ [Value.int .i64 (0 : Int)]))) (r := ([Value.int .i64 (0 : Int)] ++ (([Value.int .i64 (0 : Int)] ++ ([Value.int .i64 (0 : Int)] ++ ([Value.int .i64 (0 : Int)] ++ ([Value.int .u32 (0 : Int)] ++ en (Value.int .u8) (vrep 32 (0 : Int)).1)))) ++ [Value.int .i64 (0 : Int)]))) rfl rfl (by kernel_rfl) rfl (by kernel_rfl) (by kernel_rfl) (fun w => by kernel_rfl) (fun w => by kernel_rfl) rfl fill_nil ?_
        refine ls_storec (g := g1) (off := 0) (v := .agg ⟨([Value.int .i64 (0 : Int)] ++ (([Value.int .i64 (0 : Int)] ++ ([Value.int .i64 (0 : Int)] ++ ([Value.int .i64 (0 : Int)] ++ ([Value.int .u32 (0 : Int)] ++ en (Value.int .u8) (vrep 32 (0 : Int)).1)))) ++ [Value.int .i64 (0 : Int)]))⟩) (vs := ([Value.int .i64 (0 : Int)] ++ (([Value.int .i64 (0 : Int)] ++ ([Value.int .i64 (0 : Int)] ++ ([Value.int .i64 (0 : Int)] ++ ([Value.int .u32 (0 : Int)] ++ en (Value.int .u8) (vrep 32 (0 : Int)).1)))) ++ [Value.int .i64 (0 : Int)]))) (cs := ([Value.int .i64 (0 : Int)] ++ (([Value.int .i64 (0 : Int)] ++ ([Value.int .i64 (0 : Int)] ++ ([Value.int .i64 (0 : Int)] ++ ([Value.int .u32 (0 : Int)] ++ en (Value.int .u8) (vrep 32 (0 : Int)).1)))) ++ [Value.int .i64 (0 : Int)]))) (ty := 47) 0 rfl rfl rfl (by kernel_rfl) (by kernel_rfl) (by kernel_rfl) (by exact rfl) (by kernel_rfl) (len_app (len1 _) (len_app (len_app (len1 _) (len_app (len1 _) (len_app (len1 _) (len_app (len1 _) (len_en _ (vrep 32 (0 : Int))))))) (len1 _))) (one_app (one_cons rfl one_nil) (one_app (one_app (one_cons rfl one_nil) (one_app (one_cons rfl one_nil) (one_app (one_cons rfl one_nil) (one_app (one_cons rfl one_nil) (one_en (fun _ => rfl) _))))) (one_cons rfl one_nil))) (hl_of (Sub4.all _) (len_eq (len_app (len1 _) (len_app (len_app (len1 _) (len_app (len1 _) (len_app (len1 _) (len_app (len1 _) (len_en _ (vrep 32 (0 : Int))))))) (len1 _))) (len_app (len1 _) (len_app (len_app (len1 _) (len_app (len1 _) (len_app (len1 _) (len_app (len1 _) (len_en _ (vrep 32 (0 : Int))))))) (len1 _))))) (cs' := ([Value.int .i64 (0 : Int)] ++ (([Value.int .i64 (0 : Int)] ++ ([Value.int .i64 (0 : Int)] ++ ([Value.int .i64 (0 : Int)] ++ ([Value.int .u32 (0 : Int)] ++ en (Value.int .u8) (vrep 32 (0 : Int)).1)))) ++ [Value.int .i64 (0 : Int)]))) (splc_all (len_eq (len_app (len1 _) (len_app (len_app (len1 _) (len_app (len1 _) (len_app (len1 _) (len_app (len1 _) (len_en _ (vrep 32 (0 : Int))))))) (len1 _))) (len_app (len1 _) (len_app (len_app (len1 _) (len_app (len1 _) (len_app (len1 _) (len_app (len1 _) (len_en _ (vrep 32 (0 : Int))))))) (len1 _))))) ?_
        refine ls_val (v := .bool false) rfl rfl (by kernel_rfl) (fun w => by kernel_rfl) ?_
        refine ls_end ?_
        refine qn_then ?_
        refine cs_ret' ?_
        obtain rfl := Option.some.inj H
        refine qr_res (rs := [_, _]) rfl (fun w' hs => ⟨[.agg ⟨([Value.int .i64 (0 : Int)] ++ (([Value.int .i64 (0 : Int)] ++ ([Value.int .i64 (0 : Int)] ++ ([Value.int .i64 (0 : Int)] ++ ([Value.int .u32 (0 : Int)] ++ en (Value.int .u8) (vrep 32 (0 : Int)).1)))) ++ [Value.int .i64 (0 : Int)]))⟩, .bool false], (.cell (by kernel_rfl) (run_cellres (by kernel_rfl) (by kernel_rfl) (len_app (len1 _) (len_app (len_app (len1 _) (len_app (len1 _) (len_app (len1 _) (len_app (len1 _) (len_en _ (vrep 32 (0 : Int))))))) (len1 _))) (hs.holds 0 _ (by exact rfl))) (res_tmp (by kernel_rfl) (.nil))), (), rfl, hs.pick (ts := []) (cs := []) trivial (by decide)⟩)

end Go.Proofs.Ytnjijflgafghmaa.G
