/- Printed by a program of this session (sz.py): plain functions, and walks that show that the code comes to them; no condition. -/
import Derived.Test.YthhhkphbhlafbaaProg
import Derived.Test.YthhhkphbhlafbaaTy
import Derived.Test.YthhhkphbhlafbaaG0
import Derived.Test.YthhhkphbhlafbaaG1
set_option linter.unusedVariables false
set_option linter.unusedSimpArgs false
namespace Go.Proofs.Ythhhkphbhlafbaa.G
open Go Go.RowKit Go.Proofs.Ythhhkphbhlafbaa.Sx

/-! ### shadowbox/shadowboxlaw16.LeafBack: function 5 -/
def shadowboxlaw16_LeafBack.tab24 : List (List Nat) := [[], [0], [], [0, 1, 2], [0, 1, 2, 3], [0, 1, 2, 3, 4], [], [6], [], [6, 7, 8], [6, 7, 8, 9], [6, 7, 8, 9, 10], [0, 1, 2, 3, 4, 5, 6, 7, 8, 9, 10, 11]]
def shadowboxlaw16_LeafBack.tab46 : List (List Nat) := [[], [], [1], [], [1, 2, 3], [1, 2, 3, 4], [], [6], [], [6, 7, 8], [6, 7, 8, 9], [1, 2, 3, 4, 5, 6, 7, 8, 9, 10], [0, 1, 2, 3, 4, 5, 6, 7, 8, 9, 10, 11], [0, 1, 2, 3, 4, 5, 6, 7, 8, 9, 10, 11, 12]]
def shadowboxlaw16_LeafBack.tab64 : List (List Nat) := [[], [0], [], [0, 1, 2], [0, 1, 2, 3], [], [5], [], [5, 6, 7], [5, 6, 7, 8], [0, 1, 2, 3, 4, 5, 6, 7, 8, 9]]
def shadowboxlaw16_LeafBack.jo6 (a0 : (Int × (List (List Int)) × (List (List Int)) × (List (Int × Int × Int × Int × (Vc Int 32))))) (t10 : (Int × (List (List Int)) × (List (List Int)) × (List (Int × Int × Int × Int × (Vc Int 32)))) × Int) (x8_4 : Int) (x9_4 : Int) (k4 : Nat) (lo4 : Int → Int → Option (Bool)) : Option (Bool) := (if a0.1 = (0 : Int) then (if 0 ≤ x9_4 then (if x9_4 < (t10.1.2.2.1.length : Int) then lt (strOfNums ((t10.1.2.2.1).getD (x9_4).toNat ([] : List Int))) fun y35 => (if x9_4 < (a0.2.2.1.length : Int) then lt (strOfNums ((a0.2.2.1).getD (x9_4).toNat ([] : List Int))) fun y44 => (if (y35.toList == y44.toList) = true then (if x9_4 < (a0.2.1.length : Int) then (leaf_Weight.f k4 ((a0.2.1).getD (x9_4).toNat ([] : List Int)) ((a0.2.2.1).getD (x9_4).toNat ([] : List Int)) false).bind fun t62 => lo4 (IntKind.wrap .i64 (x8_4 + t62)) (IntKind.wrap .i64 (x9_4 + (1 : Int))) else none) else some false) else none) else none) else none) else (if 0 ≤ x9_4 then (if x9_4 < (t10.1.2.2.2.length : Int) then (if x9_4 < (a0.2.2.2.length : Int) then (if ((((t10.1.2.2.2).getD (x9_4).toNat ((0 : Int), (0 : Int), (0 : Int), (0 : Int), (vrep 32 (0 : Int)))).1 == ((a0.2.2.2).getD (x9_4).toNat ((0 : Int), (0 : Int), (0 : Int), (0 : Int), (vrep 32 (0 : Int)))).1) && ((((t10.1.2.2.2).getD (x9_4).toNat ((0 : Int), (0 : Int), (0 : Int), (0 : Int), (vrep 32 (0 : Int)))).2.1 == ((a0.2.2.2).getD (x9_4).toNat ((0 : Int), (0 : Int), (0 : Int), (0 : Int), (vrep 32 (0 : Int)))).2.1) && ((((t10.1.2.2.2).getD (x9_4).toNat ((0 : Int), (0 : Int), (0 : Int), (0 : Int), (vrep 32 (0 : Int)))).2.2.1 == ((a0.2.2.2).getD (x9_4).toNat ((0 : Int), (0 : Int), (0 : Int), (0 : Int), (vrep 32 (0 : Int)))).2.2.1) && ((((t10.1.2.2.2).getD (x9_4).toNat ((0 : Int), (0 : Int), (0 : Int), (0 : Int), (vrep 32 (0 : Int)))).2.2.2.1 == ((a0.2.2.2).getD (x9_4).toNat ((0 : Int), (0 : Int), (0 : Int), (0 : Int), (vrep 32 (0 : Int)))).2.2.2.1) && ((((t10.1.2.2.2).getD (x9_4).toNat ((0 : Int), (0 : Int), (0 : Int), (0 : Int), (vrep 32 (0 : Int)))).2.2.2.2).1 == (((a0.2.2.2).getD (x9_4).toNat ((0 : Int), (0 : Int), (0 : Int), (0 : Int), (vrep 32 (0 : Int)))).2.2.2.2).1))))) = true then (if x9_4 < (a0.2.1.length : Int) then (leaf_Weight.f k4 ((a0.2.1).getD (x9_4).toNat ([] : List Int)) ([] : List Int) true).bind fun t82 => lo4 (IntKind.wrap .i64 (x8_4 + t82)) (IntKind.wrap .i64 (x9_4 + (1 : Int))) else none) else some false) else none) else none) else none))
def shadowboxlaw16_LeafBack.jo5 (a0 : (Int × (List (List Int)) × (List (List Int)) × (List (Int × Int × Int × Int × (Vc Int 32))))) (t10 : (Int × (List (List Int)) × (List (List Int)) × (List (Int × Int × Int × Int × (Vc Int 32)))) × Int) (x8_4 : Int) (x9_4 : Int) (k4 : Nat) (lo4 : Int → Int → Option (Bool)) : Option (Bool) := (if 0 ≤ x9_4 then (if x9_4 < (t10.1.2.1.length : Int) then lt (strOfNums ((t10.1.2.1).getD (x9_4).toNat ([] : List Int))) fun y93 => (if x9_4 < (a0.2.1.length : Int) then lt (strOfNums ((a0.2.1).getD (x9_4).toNat ([] : List Int))) fun y102 => (if (y93.toList == y102.toList) = true then (leaf_Find.f k4 (t10.1.1, t10.1.2.1, t10.1.2.2.1, t10.1.2.2.2) ((a0.2.1).getD (x9_4).toNat ([] : List Int))).bind fun t111 => (if t111 = x9_4 then (if (([] : List Int).length + ((a0.2.1).getD (x9_4).toNat ([] : List Int)).length) * 1 ≤ 140737488355328 then (if ((([] : List Int) ++ ((a0.2.1).getD (x9_4).toNat ([] : List Int))).length + ([(0 : Int)]).length) * 1 ≤ 140737488355328 then (leaf_Find.f k4 (t10.1.1, t10.1.2.1, t10.1.2.2.1, t10.1.2.2.2) ((([] : List Int) ++ ((a0.2.1).getD (x9_4).toNat ([] : List Int))) ++ [(0 : Int)])).bind fun t129 => (if t129 < x9_4 then some false else (shadowboxlaw16_LeafBack.jo6 a0 t10 x8_4 x9_4 k4 lo4)) else none) else none) else some false) else some false) else none) else none) else none)
def shadowboxlaw16_LeafBack.lo4 (a0 : (Int × (List (List Int)) × (List (List Int)) × (List (Int × Int × Int × Int × (Vc Int 32))))) (t2 : (List Int) × Int) (t10 : (Int × (List (List Int)) × (List (List Int)) × (List (Int × Int × Int × Int × (Vc Int 32)))) × Int) : Nat → Int → Int → Option (Bool)
  | 0, _, _ => none
  | k4 + 1, x8_4, x9_4 => (if x9_4 < (a0.2.1.length : Int) then (shadowboxlaw16_LeafBack.jo5 a0 t10 x8_4 x9_4 k4 (shadowboxlaw16_LeafBack.lo4 a0 t2 t10 k4)) else (if (t2.1.length : Int) ≤ x8_4 then some (decide ((t2.1.length : Int) ≤ (4096 : Int))) else some false))
def shadowboxlaw16_LeafBack.jo3 (k : Nat) (a0 : (Int × (List (List Int)) × (List (List Int)) × (List (Int × Int × Int × Int × (Vc Int 32))))) (t2 : (List Int) × Int) (t10 : (Int × (List (List Int)) × (List (List Int)) × (List (Int × Int × Int × Int × (Vc Int 32)))) × Int) : Option (Bool) := shadowboxlaw16_LeafBack.lo4 a0 t2 t10 k (4 : Int) (0 : Int)
def shadowboxlaw16_LeafBack.jo2 (k : Nat) (a0 : (Int × (List (List Int)) × (List (List Int)) × (List (Int × Int × Int × Int × (Vc Int 32))))) (t2 : (List Int) × Int) : Option (Bool) := (leaf_Read.f k t2.1).bind fun t10 => (if t10.2 = (0 : Int) then (if t10.1.1 = a0.1 then (if (t10.1.2.1.length : Int) = (a0.2.1.length : Int) then (if (t10.1.2.2.1.length : Int) = (a0.2.2.1.length : Int) then (if (t10.1.2.2.2.length : Int) = (a0.2.2.2.length : Int) then (shadowboxlaw16_LeafBack.jo3 k a0 t2 t10) else some false) else some false) else some false) else some false) else some false)
def shadowboxlaw16_LeafBack.jo1 (k : Nat) (a0 : (Int × (List (List Int)) × (List (List Int)) × (List (Int × Int × Int × Int × (Vc Int 32))))) : Option (Bool) := (leaf_Put.f k (a0.1, a0.2.1, a0.2.2.1, a0.2.2.2)).bind fun t2 => (if t2.2 = (0 : Int) then (shadowboxlaw16_LeafBack.jo2 k a0 t2) else (leaf_Put.f k ((0 : Int), [([] : List Int)], [([] : List Int)], ([] : List (Int × Int × Int × Int × (Vc Int 32))))).bind fun t143 => (if (t2.1.length : Int) = (0 : Int) then (leaf_Right.f k (a0.1, a0.2.1, a0.2.2.1, a0.2.2.2)).bind fun t147 => (if t147 = true then some false else (if t143.2 = (0 : Int) then some (decide ((t143.1.length : Int) = (5 : Int))) else some false)) else some false))
def shadowboxlaw16_LeafBack.f (k : Nat) (a0 : (Int × (List (List Int)) × (List (List Int)) × (List (Int × Int × Int × Int × (Vc Int 32))))) : Option (Bool) :=
  (shadowboxlaw16_few.f k (a0.1, a0.2.1, a0.2.2.1, a0.2.2.2)).bind fun t152 => (if t152 = true then (shadowboxlaw16_LeafBack.jo1 k a0) else some true)
set_option maxRecDepth 100000 in
set_option maxHeartbeats 4000000 in
theorem shadowboxlaw16_LeafBack.calls (k : Nat) (A0_1 : Option Addr) (c0_1 : Nat) (A0_2 : Option Addr) (c0_2 : Nat) (A0_3 : Option Addr) (c0_3 : Nat) (a0 : (Int × (List (List Int)) × (List (List Int)) × (List (Int × Int × Int × Int × (Vc Int 32))))) (r : Bool) (b : Bs) (hs0 : St b (stl []) b.w) (R0_1 : RoS 23 (Ec.int 5 .u8) b A0_1 a0.2.1) (C0_1 : a0.2.1.length ≤ c0_1) (R0_2 : RoS 23 (Ec.int 5 .u8) b A0_2 a0.2.2.1) (C0_2 : a0.2.2.1.length ≤ c0_2) (R0_3 : Ro b A0_3 (em T44 a0.2.2.2)) (C0_3 : a0.2.2.2.length ≤ c0_3) (H : shadowboxlaw16_LeafBack.f k a0 = some r) :
    Calls Try.prog 5 #[.agg ⟨([Value.int .i64 a0.1] ++ ([Value.slice A0_1 a0.2.1.length c0_1] ++ ([Value.slice A0_2 a0.2.2.1.length c0_2] ++ [Value.slice A0_3 a0.2.2.2.length c0_3])))⟩] b.w fun e w' => ∃ x : Unit, e = .returned (.bool r) ∧ St b (stl []) w' := by
  unfold shadowboxlaw16_LeafBack.f at H
  refine enterb (n := 188) Try.func5 rfl (by kernel_rfl) (by kernel_rfl) hs0 ?_
  refine cs_sub (s0) (sub_nil _) ?_
  refine cs_seq ?_
  refine cs_region (l := [_, _]) ?_
  refine ls_new rfl rfl (by kernel_rfl) 0 (fun g => .pointer (some ⟨g, 0, none⟩)) (.cells ⟨([Value.int .i64 a0.1] ++ ([Value.slice A0_1 a0.2.1.length c0_1] ++ ([Value.slice A0_2 a0.2.2.1.length c0_2] ++ [Value.slice A0_3 a0.2.2.2.length c0_3])))⟩ 27) (fun w => by kernel_rfl) ?_
  intro g1
  refine lv (.bool false) ?_
  refine ls_end ?_
  refine qn_then ?_
  refine cs_cut (fun f S => ∃ (fR : Fr), f = upd fR 1 (.pointer (some ⟨g1, 0, none⟩)) ∧ S = sput s0 0 (some (Ck.var 27 g1 (([Value.int .i64 a0.1] ++ ([Value.slice A0_1 a0.2.1.length c0_1] ++ ([Value.slice A0_2 a0.2.2.1.length c0_2] ++ [Value.slice A0_3 a0.2.2.2.length c0_3])))))) ∧ shadowboxlaw16_LeafBack.jo1 k a0 = some r) ?_ ?_
  · skip
    refine cs_seq ?_
    refine cs_region (l := [_, _, _]) ?_
    refine ls_loadagg (a := ⟨g1, 0, none⟩) (sub := ([Value.int .i64 a0.1] ++ ([Value.slice A0_1 a0.2.1.length c0_1] ++ ([Value.slice A0_2 a0.2.2.1.length c0_2] ++ [Value.slice A0_3 a0.2.2.2.length c0_3])))) rfl rfl (by kernel_rfl) rfl (by kernel_rfl) (by kernel_rfl) (by kernel_rfl) (len_app (len1 _) (len_app (len1 _) (len_app (len1 _) (len1 _)))) (fun w hs => (hs.vars (k := 0) (by exact rfl) (Sub4.all _))) ?_
    obtain ⟨t152, hc153, H⟩ := bind_some H
    refine ls_callb (fid := 13) (vals := #[.agg ⟨([Value.int .i64 a0.1] ++ ([Value.slice A0_1 a0.2.1.length c0_1] ++ ([Value.slice A0_2 a0.2.2.1.length c0_2] ++ [Value.slice A0_3 a0.2.2.2.length c0_3])))⟩]) (X := Unit) (fun x => .bool t152) (fun x => stl []) [] [] [] [] 1 rfl rfl (by kernel_rfl) (fun w => by kernel_rfl) trivial trivial (by decide) (fun w hs hb => shadowboxlaw16_few.calls k A0_1 c0_1 A0_2 c0_2 A0_3 c0_3 (a0.1, a0.2.1, a0.2.2.1, a0.2.2.2) t152 (lent b w [] []) hb (hs.roS R0_1 _ _) C0_1 (hs.roS R0_2 _ _) C0_2 (hs.ro R0_3 _ _) C0_3 hc153) ?_
    intro x154
    refine lv (.bool (!t152)) ?_
    refine ls_end ?_
    refine qn_then ?_
    by_cases q155 : t152 = true
    · replace H := ite_t q155 H
      refine cs_know (c := false) (congrArg Bool.not (q155)) 12 (by kernel_rfl) ?_
      refine cs_false (by kernel_rfl) ?_
      refine cs_skip' ?_
      refine qn_meet (sput s0 0 (some (Ck.var 27 g1 (([Value.int .i64 a0.1] ++ ([Value.slice A0_1 a0.2.1.length c0_1] ++ ([Value.slice A0_2 a0.2.2.1.length c0_2] ++ [Value.slice A0_3 a0.2.2.2.length c0_3]))))))) ⟨_, fr_next (rfl) (by kernel_rfl), rfl, H⟩ (sub_put (by exact rfl) (sub_nil _))
    replace H := ite_f q155 H
    refine cs_know (c := true) (congrArg Bool.not (Bool.eq_false_iff.mpr q155)) 12 (by kernel_rfl) ?_
    refine cs_true (by kernel_rfl) ?_
    refine cs_seq ?_
    refine cs_region (l := [_]) ?_
    refine lv (.bool true) ?_
    refine ls_end ?_
    refine qn_then ?_
    refine cs_ret' ?_
    refine qr_then ?_
    obtain rfl := Option.some.inj H
    refine qr_res (rs := [_]) rfl (fun w' hs => ⟨[.bool true], (res_tmp (by kernel_rfl) (.nil)), (), rfl, hs.pick (ts := []) (cs := []) trivial (by decide)⟩)
  rintro f S ⟨fr1, rfl, rfl, H⟩
  replace H : ((leaf_Put.f k (a0.1, a0.2.1, a0.2.2.1, a0.2.2.2)).bind fun t2 => (if t2.2 = (0 : Int) then (shadowboxlaw16_LeafBack.jo2 k a0 t2) else (leaf_Put.f k ((0 : Int), [([] : List Int)], [([] : List Int)], ([] : List (Int × Int × Int × Int × (Vc Int 32))))).bind fun t143 => (if (t2.1.length : Int) = (0 : Int) then (leaf_Right.f k (a0.1, a0.2.1, a0.2.2.1, a0.2.2.2)).bind fun t147 => (if t147 = true then some false else (if t143.2 = (0 : Int) then some (decide ((t143.1.length : Int) = (5 : Int))) else some false)) else some false))) = some r := H
  refine cs_seq ?_
  refine cs_region (l := [_, _, _, _, _, _, _]) ?_
  refine ls_loadagg (a := ⟨g1, 0, none⟩) (sub := ([Value.int .i64 a0.1] ++ ([Value.slice A0_1 a0.2.1.length c0_1] ++ ([Value.slice A0_2 a0.2.2.1.length c0_2] ++ [Value.slice A0_3 a0.2.2.2.length c0_3])))) rfl rfl (by kernel_rfl) rfl (by kernel_rfl) (by kernel_rfl) (by kernel_rfl) (len_app (len1 _) (len_app (len1 _) (len_app (len1 _) (len1 _)))) (fun w hs => (hs.vars (k := 0) (by exact rfl) (Sub4.all _))) ?_
  obtain ⟨t2, hc3, H⟩ := bind_some H
  refine ls_callb (fid := 14) (vals := #[.agg ⟨([Value.int .i64 a0.1] ++ ([Value.slice A0_1 a0.2.1.length c0_1] ++ ([Value.slice A0_2 a0.2.2.1.length c0_2] ++ [Value.slice A0_3 a0.2.2.2.length c0_3])))⟩]) (X := (Option Addr × Nat)) (fun x => .tuple #[.slice x.1 t2.1.length x.2, .int .i64 t2.2]) (fun x => stl [Ck.sl (Ec.int 5 .u8) x.1 x.2 t2.1]) [] [] [] [] 1 rfl rfl (by kernel_rfl) (fun w => by kernel_rfl) trivial trivial (by decide) (fun w hs hb => leaf_Put.calls k A0_1 c0_1 A0_2 c0_2 A0_3 c0_3 (a0.1, a0.2.1, a0.2.2.1, a0.2.2.2) t2 (lent b w [] []) hb (hs.roS R0_1 _ _) C0_1 (hs.roS R0_2 _ _) C0_2 (hs.ro R0_3 _ _) C0_3 hc3) ?_
  intro x4
  refine lv (.tuple #[.slice x4.1 t2.1.length x4.2, .int .i64 t2.2]) ?_
  refine lv (.slice x4.1 t2.1.length x4.2) ?_
  refine lv (.int .i64 t2.2) ?_
  refine lv (.slice x4.1 t2.1.length x4.2) ?_
  refine lv (.int .i64 t2.2) ?_
  refine ls_end ?_
  refine qn_then ?_
  refine cs_cut (fun f S => ∃ (fR : Fr), f = upd (upd fR 1 (.pointer (some ⟨g1, 0, none⟩))) 3 (.slice x4.1 t2.1.length x4.2) ∧ S = sput (sput s0 0 (some (Ck.var 27 g1 (([Value.int .i64 a0.1] ++ ([Value.slice A0_1 a0.2.1.length c0_1] ++ ([Value.slice A0_2 a0.2.2.1.length c0_2] ++ [Value.slice A0_3 a0.2.2.2.length c0_3]))))))) 1 (some (Ck.sl (Ec.int 5 .u8) x4.1 x4.2 t2.1)) ∧ shadowboxlaw16_LeafBack.jo2 k a0 t2 = some r) ?_ ?_
  · skip
    refine cs_seq ?_
    refine cs_region (l := [_, _]) ?_
    refine lv (.int .i64 t2.2) ?_
    refine lv (.bool (!decide (t2.2 = (0 : Int)))) ?_
    refine ls_end ?_
    refine qn_then ?_
    by_cases q140 : t2.2 = (0 : Int)
    · replace H := ite_t q140 H
      refine cs_know (c := false) (congrArg Bool.not (dec_t q140)) 19 (by kernel_rfl) ?_
      refine cs_false (by kernel_rfl) ?_
      refine cs_skip' ?_
      refine qn_meet (sput (sput s0 0 (some (Ck.var 27 g1 (([Value.int .i64 a0.1] ++ ([Value.slice A0_1 a0.2.1.length c0_1] ++ ([Value.slice A0_2 a0.2.2.1.length c0_2] ++ [Value.slice A0_3 a0.2.2.2.length c0_3]))))))) 1 (some (Ck.sl (Ec.int 5 .u8) x4.1 x4.2 t2.1))) ⟨_, fr_next (fr_next (rfl) (by kernel_rfl)) (by kernel_rfl), rfl, H⟩ (sub_put (by exact rfl) (sub_put (by exact rfl) (sub_nil _)))
    replace H := ite_f q140 H
    refine cs_know (c := true) (congrArg Bool.not (dec_f q140)) 19 (by kernel_rfl) ?_
    refine cs_true (by kernel_rfl) ?_
    refine cs_seq ?_
    refine cs_region (l := [_, _, _, _, _, _, _, _, _]) ?_
    refine ls_lit (Ec.sls 23 Int) 2 rfl rfl (by kernel_rfl) [(((none : Option Addr), 0), ([] : List Int))] (by exact of_decide_eq_true (by kernel_rfl)) (fun w => by kernel_rfl) ?_
    intro g141
    refine ls_lit (Ec.sls 23 Int) 3 rfl rfl (by kernel_rfl) [(((none : Option Addr), 0), ([] : List Int))] (by exact of_decide_eq_true (by kernel_rfl)) (fun w => by kernel_rfl) ?_
    intro g142
    refine lv (.agg ⟨([Value.int .i64 (0 : Int)] ++ ([Value.slice (some ⟨g141, 0, none⟩) [([] : List Int)].length [([] : List Int)].length] ++ ([Value.slice (some ⟨g142, 0, none⟩) [([] : List Int)].length [([] : List Int)].length] ++ [Value.slice none 0 0])))⟩) ?_
    obtain ⟨t143, hc144, H⟩ := bind_some H
    refine ls_callb (fid := 14) (vals := #[.agg ⟨([Value.int .i64 (0 : Int)] ++ ([Value.slice (some ⟨g141, 0, none⟩) [([] : List Int)].length [([] : List Int)].length] ++ ([Value.slice (some ⟨g142, 0, none⟩) [([] : List Int)].length [([] : List Int)].length] ++ [Value.slice none 0 0])))⟩]) (X := (Option Addr × Nat)) (fun x => .tuple #[.slice x.1 t143.1.length x.2, .int .i64 t143.2]) (fun x => stl [Ck.sl (Ec.int 5 .u8) x.1 x.2 t143.1]) [] [2, 3] [] [Ck.sl (Ec.sls 23 Int) (some ⟨g141, 0, none⟩) ([(((none : Option Addr), 0), ([] : List Int))].length) ([(((none : Option Addr), 0), ([] : List Int))]), Ck.sl (Ec.sls 23 Int) (some ⟨g142, 0, none⟩) ([(((none : Option Addr), 0), ([] : List Int))].length) ([(((none : Option Addr), 0), ([] : List Int))])] 4 rfl rfl (by kernel_rfl) (fun w => by kernel_rfl) trivial ⟨by exact rfl, by exact rfl, trivial⟩ (by decide) (fun w hs hb => leaf_Put.calls k (some ⟨g141, 0, none⟩) ([([] : List Int)].length) (some ⟨g142, 0, none⟩) ([([] : List Int)].length) none 0 ((0 : Int), [([] : List Int)], [([] : List Int)], ([] : List (Int × Int × Int × Int × (Vc Int 32)))) t143 (lent b w [] [Ck.sl (Ec.sls 23 Int) (some ⟨g141, 0, none⟩) ([(((none : Option Addr), 0), ([] : List Int))].length) ([(((none : Option Addr), 0), ([] : List Int))]), Ck.sl (Ec.sls 23 Int) (some ⟨g142, 0, none⟩) ([(((none : Option Addr), 0), ([] : List Int))].length) ([(((none : Option Addr), 0), ([] : List Int))])]) hb (RoS.lit1 (hs.ror (k := 2) (by exact rfl) (.head _)) (Ro.nil _ _) (Nat.le_refl 0)) (Nat.le_refl _) (RoS.lit1 (hs.ror (k := 3) (by exact rfl) (.tail _ (.head _))) (Ro.nil _ _) (Nat.le_refl 0)) (Nat.le_refl _) (Ro.nil _ _) (Nat.le_refl 0) hc144) ?_
    intro x145
    refine lv (.tuple #[.slice x145.1 t143.1.length x145.2, .int .i64 t143.2]) ?_
    refine lv (.slice x145.1 t143.1.length x145.2) ?_
    refine lv (.int .i64 t143.2) ?_
    refine lv (.slice x145.1 t143.1.length x145.2) ?_
    refine lv (.int .i64 t143.2) ?_
    refine ls_end ?_
    refine qn_then ?_
    refine cs_seq ?_
    refine cs_region (l := [_, _, _, _, _, _, _, _, _, _, _, _, _, _, _, _, _, _]) ?_
    refine lv (.slice x4.1 t2.1.length x4.2) ?_
    refine lv (.int .i64 (t2.1.length : Int)) ?_
    refine lv (.bool (decide ((t2.1.length : Int) = (0 : Int)))) ?_
    refine lv (.bool (decide ((t2.1.length : Int) = (0 : Int)))) ?_
    by_cases q146 : (t2.1.length : Int) = (0 : Int)
    · replace H := ite_t q146 H
      refine ls_know (c := true) (dec_t q146) 30 (by kernel_rfl) ?_
      refine ls_on (j := 3) (t := 30) (b := true) rfl rfl (by kernel_rfl) (by kernel_rfl) ?_
      refine ls_loadagg (a := ⟨g1, 0, none⟩) (sub := ([Value.int .i64 a0.1] ++ ([Value.slice A0_1 a0.2.1.length c0_1] ++ ([Value.slice A0_2 a0.2.2.1.length c0_2] ++ [Value.slice A0_3 a0.2.2.2.length c0_3])))) rfl rfl (by kernel_rfl) rfl (by kernel_rfl) (by kernel_rfl) (by kernel_rfl) (len_app (len1 _) (len_app (len1 _) (len_app (len1 _) (len1 _)))) (fun w hs => (hs.vars (k := 0) (by exact rfl) (Sub4.all _))) ?_
      refine ls_on (j := 3) (t := 30) (b := true) rfl rfl (by kernel_rfl) (by kernel_rfl) ?_
      obtain ⟨t147, hc148, H⟩ := bind_some H
      refine ls_callb (fid := 15) (vals := #[.agg ⟨([Value.int .i64 a0.1] ++ ([Value.slice A0_1 a0.2.1.length c0_1] ++ ([Value.slice A0_2 a0.2.2.1.length c0_2] ++ [Value.slice A0_3 a0.2.2.2.length c0_3])))⟩]) (X := Unit) (fun x => .bool t147) (fun x => stl []) [] [] [] [] 5 rfl rfl (by kernel_rfl) (fun w => by kernel_rfl) trivial trivial (by decide) (fun w hs hb => leaf_Right.calls k A0_1 c0_1 A0_2 c0_2 A0_3 c0_3 (a0.1, a0.2.1, a0.2.2.1, a0.2.2.2) t147 (lent b w [] []) hb (hs.roS R0_1 _ _) C0_1 (hs.roS R0_2 _ _) C0_2 (hs.ro R0_3 _ _) C0_3 hc148) ?_
      intro x149
      refine ls_on (j := 3) (t := 30) (b := true) rfl rfl (by kernel_rfl) (by kernel_rfl) ?_
      refine lv (.bool (!t147)) ?_
      refine lv (.bool (!t147)) ?_
      refine lv (.bool (!t147)) ?_
      by_cases q150 : t147 = true
      · replace H := ite_t q150 H
        refine ls_know (c := false) (congrArg Bool.not (q150)) 35 (by kernel_rfl) ?_
        refine lofx 8 35 true false ?_
        refine lofx 8 35 true false ?_
        refine lv (.bool false) ?_
        refine lv (.bool false) ?_
        refine lofx 12 39 true false ?_
        refine lofx 12 39 true false ?_
        refine lofx 12 39 true false ?_
        refine lv (.bool false) ?_
        refine lv (.bool false) ?_
        refine ls_end ?_
        refine qn_then ?_
        refine cs_ret' ?_
        refine qr_then ?_
        obtain rfl := Option.some.inj H
        refine qr_res (rs := [_]) rfl (fun w' hs => ⟨[.bool false], (res_tmp (by kernel_rfl) (.nil)), (), rfl, hs.pick (ts := []) (cs := []) trivial (by decide)⟩)
      replace H := ite_f q150 H
      refine ls_know (c := true) (congrArg Bool.not (Bool.eq_false_iff.mpr q150)) 35 (by kernel_rfl) ?_
      refine ls_on (j := 8) (t := 35) (b := true) rfl rfl (by kernel_rfl) (by kernel_rfl) ?_
      refine lv (.int .i64 t143.2) ?_
      refine ls_on (j := 8) (t := 35) (b := true) rfl rfl (by kernel_rfl) (by kernel_rfl) ?_
      refine lv (.bool (decide (t143.2 = (0 : Int)))) ?_
      refine lv (.bool (decide (t143.2 = (0 : Int)))) ?_
      refine lv (.bool (decide (t143.2 = (0 : Int)))) ?_
      by_cases q151 : t143.2 = (0 : Int)
      · replace H := ite_t q151 H
        refine ls_know (c := true) (dec_t q151) 39 (by kernel_rfl) ?_
        refine ls_on (j := 12) (t := 39) (b := true) rfl rfl (by kernel_rfl) (by kernel_rfl) ?_
        refine lv (.slice x145.1 t143.1.length x145.2) ?_
        refine ls_on (j := 12) (t := 39) (b := true) rfl rfl (by kernel_rfl) (by kernel_rfl) ?_
        refine lv (.int .i64 (t143.1.length : Int)) ?_
        refine ls_on (j := 12) (t := 39) (b := true) rfl rfl (by kernel_rfl) (by kernel_rfl) ?_
        refine lv (.bool (decide ((t143.1.length : Int) = (5 : Int)))) ?_
        refine lv (.bool (decide ((t143.1.length : Int) = (5 : Int)))) ?_
        refine lv (.bool (decide ((t143.1.length : Int) = (5 : Int)))) ?_
        refine ls_end ?_
        refine qn_then ?_
        refine cs_ret' ?_
        refine qr_then ?_
        obtain rfl := Option.some.inj H
        refine qr_res (rs := [_]) rfl (fun w' hs => ⟨[.bool (decide ((t143.1.length : Int) = (5 : Int)))], (res_tmp (by kernel_rfl) (.nil)), (), rfl, hs.pick (ts := []) (cs := []) trivial (by decide)⟩)
      replace H := ite_f q151 H
      refine ls_know (c := false) (dec_f q151) 39 (by kernel_rfl) ?_
      refine lofx 12 39 true false ?_
      refine lofx 12 39 true false ?_
      refine lofx 12 39 true false ?_
      refine lv (.bool false) ?_
      refine lv (.bool false) ?_
      refine ls_end ?_
      refine qn_then ?_
      refine cs_ret' ?_
      refine qr_then ?_
      obtain rfl := Option.some.inj H
      refine qr_res (rs := [_]) rfl (fun w' hs => ⟨[.bool false], (res_tmp (by kernel_rfl) (.nil)), (), rfl, hs.pick (ts := []) (cs := []) trivial (by decide)⟩)
    replace H := ite_f q146 H
    refine ls_know (c := false) (dec_f q146) 30 (by kernel_rfl) ?_
    refine lofx 3 30 true false ?_
    refine lofx 3 30 true false ?_
    refine lofx 3 30 true false ?_
    refine lv (.bool false) ?_
    refine lv (.bool false) ?_
    refine lofx 8 35 true false ?_
    refine lofx 8 35 true false ?_
    refine lv (.bool false) ?_
    refine lv (.bool false) ?_
    refine lofx 12 39 true false ?_
    refine lofx 12 39 true false ?_
    refine lofx 12 39 true false ?_
    refine lv (.bool false) ?_
    refine lv (.bool false) ?_
    refine ls_end ?_
    refine qn_then ?_
    refine cs_ret' ?_
    refine qr_then ?_
    obtain rfl := Option.some.inj H
    refine qr_res (rs := [_]) rfl (fun w' hs => ⟨[.bool false], (res_tmp (by kernel_rfl) (.nil)), (), rfl, hs.pick (ts := []) (cs := []) trivial (by decide)⟩)
  rintro f S ⟨fr2, rfl, rfl, H⟩
  replace H : ((leaf_Read.f k t2.1).bind fun t10 => (if t10.2 = (0 : Int) then (if t10.1.1 = a0.1 then (if (t10.1.2.1.length : Int) = (a0.2.1.length : Int) then (if (t10.1.2.2.1.length : Int) = (a0.2.2.1.length : Int) then (if (t10.1.2.2.2.length : Int) = (a0.2.2.2.length : Int) then (shadowboxlaw16_LeafBack.jo3 k a0 t2 t10) else some false) else some false) else some false) else some false) else some false)) = some r := H
  refine cs_seq ?_
  refine cs_region (l := [_, _, _, _, _, _, _, _]) ?_
  refine lv (.slice x4.1 t2.1.length x4.2) ?_
  obtain ⟨t10, hc11, H⟩ := bind_some H
  refine ls_freeze (T := (Ec.int 5 .u8)) (A := x4.1) (c := x4.2) (l := t2.1) 1 (by exact rfl) ?_
  intro bs5 hle6 hok7 fR8 fC9
  refine ls_callf (fid := 10) (vals := #[.slice x4.1 t2.1.length x4.2]) (X := (Option Addr × Nat) × (Option Addr × Nat) × (Option Addr × Nat)) (fun x => .tuple #[.agg ⟨([Value.int .i64 t10.1.1] ++ ([Value.slice x.1.1 t10.1.2.1.length x.1.2] ++ ([Value.slice x.2.1.1 t10.1.2.2.1.length x.2.1.2] ++ [Value.slice x.2.2.1 t10.1.2.2.2.length x.2.2.2])))⟩, .int .i64 t10.2]) (fun x => stl []) (fun x B => (RoS 23 (Ec.int 5 .u8) B x.1.1 t10.1.2.1 ∧ t10.1.2.1.length ≤ x.1.2) ∧ (RoS 23 (Ec.int 5 .u8) B x.2.1.1 t10.1.2.2.1 ∧ t10.1.2.2.1.length ≤ x.2.1.2) ∧ (Ro B x.2.2.1 (em T44 t10.1.2.2.2) ∧ t10.1.2.2.2.length ≤ x.2.2.2)) [] [] 2 rfl rfl (by kernel_rfl) (fun w => by kernel_rfl) trivial (by decide) (fun x b b' h hf => ⟨⟨RoS.up h hf.1.1, hf.1.2⟩, ⟨⟨RoS.up h hf.2.1.1, hf.2.1.2⟩, ⟨h _ _ hf.2.2.1, hf.2.2.2⟩⟩⟩) (fun w hs hb => leaf_Read.calls k x4.1 x4.2 t2.1 t10 (lent bs5 w [] []) hb (hs.ro fR8 _ _) fC9 hc11) ?_
  intro x12 bs19 hle20 hok21 hf22
  obtain ⟨⟨fR13, fC14⟩, ⟨fR15, fC16⟩, ⟨fR17, fC18⟩⟩ := hf22
  refine lv (.tuple #[.agg ⟨([Value.int .i64 t10.1.1] ++ ([Value.slice x12.1.1 t10.1.2.1.length x12.1.2] ++ ([Value.slice x12.2.1.1 t10.1.2.2.1.length x12.2.1.2] ++ [Value.slice x12.2.2.1 t10.1.2.2.2.length x12.2.2.2])))⟩, .int .i64 t10.2]) ?_
  refine lv (.agg ⟨([Value.int .i64 t10.1.1] ++ ([Value.slice x12.1.1 t10.1.2.1.length x12.1.2] ++ ([Value.slice x12.2.1.1 t10.1.2.2.1.length x12.2.1.2] ++ [Value.slice x12.2.2.1 t10.1.2.2.2.length x12.2.2.2])))⟩) ?_
  refine lv (.int .i64 t10.2) ?_
  refine ls_new rfl rfl (by kernel_rfl) 2 (fun g => .pointer (some ⟨g, 0, none⟩)) (.cells ⟨([Value.int .i64 (0 : Int)] ++ ([Value.slice none 0 0] ++ ([Value.slice none 0 0] ++ [Value.slice none 0 0])))⟩ 27) (fun w => by kernel_rfl) ?_
  intro g23
  refine ls_storec (g := g23) (off := 0) (v := .agg ⟨([Value.int .i64 t10.1.1] ++ ([Value.slice x12.1.1 t10.1.2.1.length x12.1.2] ++ ([Value.slice x12.2.1.1 t10.1.2.2.1.length x12.2.1.2] ++ [Value.slice x12.2.2.1 t10.1.2.2.2.length x12.2.2.2])))⟩) (vs := ([Value.int .i64 t10.1.1] ++ ([Value.slice x12.1.1 t10.1.2.1.length x12.1.2] ++ ([Value.slice x12.2.1.1 t10.1.2.2.1.length x12.2.1.2] ++ [Value.slice x12.2.2.1 t10.1.2.2.2.length x12.2.2.2])))) (cs := ([Value.int .i64 (0 : Int)] ++ ([Value.slice none 0 0] ++ ([Value.slice none 0 0] ++ [Value.slice none 0 0])))) (ty := 27) 2 rfl rfl rfl (by kernel_rfl) (by kernel_rfl) (by kernel_rfl) (by exact rfl) (by kernel_rfl) (len_app (len1 _) (len_app (len1 _) (len_app (len1 _) (len1 _)))) (one_app (one_cons rfl one_nil) (one_app (one_cons rfl one_nil) (one_app (one_cons rfl one_nil) (one_cons rfl one_nil)))) (hl_of (Sub4.all _) (len_eq (len_app (len1 _) (len_app (len1 _) (len_app (len1 _) (len1 _)))) (len_app (len1 _) (len_app (len1 _) (len_app (len1 _) (len1 _)))))) (cs' := ([Value.int .i64 t10.1.1] ++ ([Value.slice x12.1.1 t10.1.2.1.length x12.1.2] ++ ([Value.slice x12.2.1.1 t10.1.2.2.1.length x12.2.1.2] ++ [Value.slice x12.2.2.1 t10.1.2.2.2.length x12.2.2.2])))) (splc_all (len_eq (len_app (len1 _) (len_app (len1 _) (len_app (len1 _) (len1 _)))) (len_app (len1 _) (len_app (len1 _) (len_app (len1 _) (len1 _)))))) ?_
  refine lv (.int .i64 t10.2) ?_
  refine ls_end ?_
  refine qn_then ?_
  refine cs_cut (fun f S => ∃ (fR : Fr), f = upd (upd (upd fR 1 (.pointer (some ⟨g1, 0, none⟩))) 3 (.slice x4.1 t2.1.length x4.2)) 7 (.pointer (some ⟨g23, 0, none⟩)) ∧ S = sput (sput s0 0 (some (Ck.var 27 g1 (([Value.int .i64 a0.1] ++ ([Value.slice A0_1 a0.2.1.length c0_1] ++ ([Value.slice A0_2 a0.2.2.1.length c0_2] ++ [Value.slice A0_3 a0.2.2.2.length c0_3]))))))) 2 (some (Ck.var 27 g23 (([Value.int .i64 t10.1.1] ++ ([Value.slice x12.1.1 t10.1.2.1.length x12.1.2] ++ ([Value.slice x12.2.1.1 t10.1.2.2.1.length x12.2.1.2] ++ [Value.slice x12.2.2.1 t10.1.2.2.2.length x12.2.2.2])))))) ∧ shadowboxlaw16_LeafBack.jo3 k a0 t2 t10 = some r) ?_ ?_
  · skip
    refine cs_seq ?_
    refine cs_region (l := [_, _, _, _, _, _, _, _, _, _, _, _, _, _, _, _, _, _, _, _, _, _, _, _, _, _, _, _, _, _, _, _, _, _, _, _]) ?_
    refine lv (.int .i64 t10.2) ?_
    refine lv (.bool (!decide (t10.2 = (0 : Int)))) ?_
    refine lv (.bool (!decide (t10.2 = (0 : Int)))) ?_
    by_cases q135 : t10.2 = (0 : Int)
    · replace H := ite_t q135 H
      refine ls_know (c := false) (congrArg Bool.not (dec_t q135)) 51 (by kernel_rfl) ?_
      refine ls_on (j := 2) (t := 51) (b := false) rfl rfl (by kernel_rfl) (by kernel_rfl) ?_
      refine lv (.pointer (some ⟨g23, (0 + 0), none⟩)) ?_
      refine ls_on (j := 2) (t := 51) (b := false) rfl rfl (by kernel_rfl) (by kernel_rfl) ?_
      refine ls_load (a0 := ⟨g23, (0 + 0), none⟩) (v := .int .i64 t10.1.1) (de := (TypeDesc.int .i64)) rfl rfl (by kernel_rfl) rfl (by kernel_rfl) (by kernel_rfl) (by kernel_rfl) (fun w hs => (hs.var (k := 2) (by exact rfl) (Sub4.trans (Sub4.all _) (Sub4.head _ _)))) ?_
      refine ls_on (j := 2) (t := 51) (b := false) rfl rfl (by kernel_rfl) (by kernel_rfl) ?_
      refine lv (.pointer (some ⟨g1, (0 + 0), none⟩)) ?_
      refine ls_on (j := 2) (t := 51) (b := false) rfl rfl (by kernel_rfl) (by kernel_rfl) ?_
      refine ls_load (a0 := ⟨g1, (0 + 0), none⟩) (v := .int .i64 a0.1) (de := (TypeDesc.int .i64)) rfl rfl (by kernel_rfl) rfl (by kernel_rfl) (by kernel_rfl) (by kernel_rfl) (fun w hs => (hs.var (k := 0) (by exact rfl) (Sub4.trans (Sub4.all _) (Sub4.head _ _)))) ?_
      refine ls_on (j := 2) (t := 51) (b := false) rfl rfl (by kernel_rfl) (by kernel_rfl) ?_
      refine lv (.bool (!decide (t10.1.1 = a0.1))) ?_
      refine lv (.bool (!decide (t10.1.1 = a0.1))) ?_
      refine lv (.bool (!decide (t10.1.1 = a0.1))) ?_
      by_cases q136 : t10.1.1 = a0.1
      · replace H := ite_t q136 H
        refine ls_know (c := false) (congrArg Bool.not (dec_t q136)) 58 (by kernel_rfl) ?_
        refine ls_on (j := 9) (t := 58) (b := false) rfl rfl (by kernel_rfl) (by kernel_rfl) ?_
        refine lv (.pointer (some ⟨g23, (0 + 1), none⟩)) ?_
        refine ls_on (j := 9) (t := 58) (b := false) rfl rfl (by kernel_rfl) (by kernel_rfl) ?_
        refine ls_load (a0 := ⟨g23, (0 + 1), none⟩) (v := .slice x12.1.1 t10.1.2.1.length x12.1.2) (de := (TypeDesc.slice 23)) rfl rfl (by kernel_rfl) rfl (by kernel_rfl) (by kernel_rfl) (by kernel_rfl) (fun w hs => (hs.var (k := 2) (by exact rfl) (Sub4.trans (Sub4.all _) (Sub4.skip (n := 1) (len1 _) (Sub4.head _ _))))) ?_
        refine ls_on (j := 9) (t := 58) (b := false) rfl rfl (by kernel_rfl) (by kernel_rfl) ?_
        refine lv (.int .i64 (t10.1.2.1.length : Int)) ?_
        refine ls_on (j := 9) (t := 58) (b := false) rfl rfl (by kernel_rfl) (by kernel_rfl) ?_
        refine lv (.pointer (some ⟨g1, (0 + 1), none⟩)) ?_
        refine ls_on (j := 9) (t := 58) (b := false) rfl rfl (by kernel_rfl) (by kernel_rfl) ?_
        refine ls_load (a0 := ⟨g1, (0 + 1), none⟩) (v := .slice A0_1 a0.2.1.length c0_1) (de := (TypeDesc.slice 23)) rfl rfl (by kernel_rfl) rfl (by kernel_rfl) (by kernel_rfl) (by kernel_rfl) (fun w hs => (hs.var (k := 0) (by exact rfl) (Sub4.trans (Sub4.all _) (Sub4.skip (n := 1) (len1 _) (Sub4.head _ _))))) ?_
        refine ls_on (j := 9) (t := 58) (b := false) rfl rfl (by kernel_rfl) (by kernel_rfl) ?_
        refine lv (.int .i64 (a0.2.1.length : Int)) ?_
        refine ls_on (j := 9) (t := 58) (b := false) rfl rfl (by kernel_rfl) (by kernel_rfl) ?_
        refine lv (.bool (!decide ((t10.1.2.1.length : Int) = (a0.2.1.length : Int)))) ?_
        refine lv (.bool (!decide ((t10.1.2.1.length : Int) = (a0.2.1.length : Int)))) ?_
        refine lv (.bool (!decide ((t10.1.2.1.length : Int) = (a0.2.1.length : Int)))) ?_
        by_cases q137 : (t10.1.2.1.length : Int) = (a0.2.1.length : Int)
        · replace H := ite_t q137 H
          refine ls_know (c := false) (congrArg Bool.not (dec_t q137)) 67 (by kernel_rfl) ?_
          refine ls_on (j := 18) (t := 67) (b := false) rfl rfl (by kernel_rfl) (by kernel_rfl) ?_
          refine lv (.pointer (some ⟨g23, (0 + 2), none⟩)) ?_
          refine ls_on (j := 18) (t := 67) (b := false) rfl rfl (by kernel_rfl) (by kernel_rfl) ?_
          refine ls_load (a0 := ⟨g23, (0 + 2), none⟩) (v := .slice x12.2.1.1 t10.1.2.2.1.length x12.2.1.2) (de := (TypeDesc.slice 23)) rfl rfl (by kernel_rfl) rfl (by kernel_rfl) (by kernel_rfl) (by kernel_rfl) (fun w hs => (hs.var (k := 2) (by exact rfl) (Sub4.trans (Sub4.all _) (Sub4.skip (n := 1) (len1 _) (Sub4.skip (n := 1) (len1 _) (Sub4.head _ _)))))) ?_
          refine ls_on (j := 18) (t := 67) (b := false) rfl rfl (by kernel_rfl) (by kernel_rfl) ?_
          refine lv (.int .i64 (t10.1.2.2.1.length : Int)) ?_
          refine ls_on (j := 18) (t := 67) (b := false) rfl rfl (by kernel_rfl) (by kernel_rfl) ?_
          refine lv (.pointer (some ⟨g1, (0 + 2), none⟩)) ?_
          refine ls_on (j := 18) (t := 67) (b := false) rfl rfl (by kernel_rfl) (by kernel_rfl) ?_
          refine ls_load (a0 := ⟨g1, (0 + 2), none⟩) (v := .slice A0_2 a0.2.2.1.length c0_2) (de := (TypeDesc.slice 23)) rfl rfl (by kernel_rfl) rfl (by kernel_rfl) (by kernel_rfl) (by kernel_rfl) (fun w hs => (hs.var (k := 0) (by exact rfl) (Sub4.trans (Sub4.all _) (Sub4.skip (n := 1) (len1 _) (Sub4.skip (n := 1) (len1 _) (Sub4.head _ _)))))) ?_
          refine ls_on (j := 18) (t := 67) (b := false) rfl rfl (by kernel_rfl) (by kernel_rfl) ?_
          refine lv (.int .i64 (a0.2.2.1.length : Int)) ?_
          refine ls_on (j := 18) (t := 67) (b := false) rfl rfl (by kernel_rfl) (by kernel_rfl) ?_
          refine lv (.bool (!decide ((t10.1.2.2.1.length : Int) = (a0.2.2.1.length : Int)))) ?_
          refine lv (.bool (!decide ((t10.1.2.2.1.length : Int) = (a0.2.2.1.length : Int)))) ?_
          refine lv (.bool (!decide ((t10.1.2.2.1.length : Int) = (a0.2.2.1.length : Int)))) ?_
          by_cases q138 : (t10.1.2.2.1.length : Int) = (a0.2.2.1.length : Int)
          · replace H := ite_t q138 H
            refine ls_know (c := false) (congrArg Bool.not (dec_t q138)) 76 (by kernel_rfl) ?_
            refine ls_on (j := 27) (t := 76) (b := false) rfl rfl (by kernel_rfl) (by kernel_rfl) ?_
            refine lv (.pointer (some ⟨g23, (0 + 3), none⟩)) ?_
            refine ls_on (j := 27) (t := 76) (b := false) rfl rfl (by kernel_rfl) (by kernel_rfl) ?_
            refine ls_load (a0 := ⟨g23, (0 + 3), none⟩) (v := .slice x12.2.2.1 t10.1.2.2.2.length x12.2.2.2) (de := (TypeDesc.slice 44)) rfl rfl (by kernel_rfl) rfl (by kernel_rfl) (by kernel_rfl) (by kernel_rfl) (fun w hs => (hs.var (k := 2) (by exact rfl) (Sub4.trans (Sub4.all _) (Sub4.skip (n := 1) (len1 _) (Sub4.skip (n := 1) (len1 _) (Sub4.skip (n := 1) (len1 _) (Sub4.all _))))))) ?_
            refine ls_on (j := 27) (t := 76) (b := false) rfl rfl (by kernel_rfl) (by kernel_rfl) ?_
            refine lv (.int .i64 (t10.1.2.2.2.length : Int)) ?_
            refine ls_on (j := 27) (t := 76) (b := false) rfl rfl (by kernel_rfl) (by kernel_rfl) ?_
            refine lv (.pointer (some ⟨g1, (0 + 3), none⟩)) ?_
            refine ls_on (j := 27) (t := 76) (b := false) rfl rfl (by kernel_rfl) (by kernel_rfl) ?_
            refine ls_load (a0 := ⟨g1, (0 + 3), none⟩) (v := .slice A0_3 a0.2.2.2.length c0_3) (de := (TypeDesc.slice 44)) rfl rfl (by kernel_rfl) rfl (by kernel_rfl) (by kernel_rfl) (by kernel_rfl) (fun w hs => (hs.var (k := 0) (by exact rfl) (Sub4.trans (Sub4.all _) (Sub4.skip (n := 1) (len1 _) (Sub4.skip (n := 1) (len1 _) (Sub4.skip (n := 1) (len1 _) (Sub4.all _))))))) ?_
            refine ls_on (j := 27) (t := 76) (b := false) rfl rfl (by kernel_rfl) (by kernel_rfl) ?_
            refine lv (.int .i64 (a0.2.2.2.length : Int)) ?_
            refine ls_on (j := 27) (t := 76) (b := false) rfl rfl (by kernel_rfl) (by kernel_rfl) ?_
            refine lv (.bool (!decide ((t10.1.2.2.2.length : Int) = (a0.2.2.2.length : Int)))) ?_
            refine lv (.bool (!decide ((t10.1.2.2.2.length : Int) = (a0.2.2.2.length : Int)))) ?_
            refine ls_end ?_
            refine qn_then ?_
            by_cases q139 : (t10.1.2.2.2.length : Int) = (a0.2.2.2.length : Int)
            · replace H := ite_t q139 H
              refine cs_know (c := false) (congrArg Bool.not (dec_t q139)) 84 (by kernel_rfl) ?_
              refine cs_false (by kernel_rfl) ?_
              refine cs_skip' ?_
              refine qn_meet (sput (sput s0 0 (some (Ck.var 27 g1 (([Value.int .i64 a0.1] ++ ([Value.slice A0_1 a0.2.1.length c0_1] ++ ([Value.slice A0_2 a0.2.2.1.length c0_2] ++ [Value.slice A0_3 a0.2.2.2.length c0_3]))))))) 2 (some (Ck.var 27 g23 (([Value.int .i64 t10.1.1] ++ ([Value.slice x12.1.1 t10.1.2.1.length x12.1.2] ++ ([Value.slice x12.2.1.1 t10.1.2.2.1.length x12.2.1.2] ++ [Value.slice x12.2.2.1 t10.1.2.2.2.length x12.2.2.2]))))))) ⟨_, fr_next (fr_next (fr_next (rfl) (by kernel_rfl)) (by kernel_rfl)) (by kernel_rfl), rfl, H⟩ (sub_put (by exact rfl) (sub_put (by exact rfl) (sub_nil _)))
            replace H := ite_f q139 H
            refine cs_know (c := true) (congrArg Bool.not (dec_f q139)) 84 (by kernel_rfl) ?_
            refine cs_true (by kernel_rfl) ?_
            refine cs_seq ?_
            refine cs_region (l := [_]) ?_
            refine lv (.bool false) ?_
            refine ls_end ?_
            refine qn_then ?_
            refine cs_ret' ?_
            refine qr_then ?_
            obtain rfl := Option.some.inj H
            refine qr_res (rs := [_]) rfl (fun w' hs => ⟨[.bool false], (res_tmp (by kernel_rfl) (.nil)), (), rfl, St.later hs0.ok (hle6.trans hle20) (hs.pick (ts := []) (cs := []) trivial (by decide))⟩)
          replace H := ite_f q138 H
          refine ls_know (c := true) (congrArg Bool.not (dec_f q138)) 76 (by kernel_rfl) ?_
          refine lofx 27 76 false true ?_
          refine lofx 27 76 false true ?_
          refine lofx 27 76 false true ?_
          refine lofx 27 76 false true ?_
          refine lofx 27 76 false true ?_
          refine lofx 27 76 false true ?_
          refine lofx 27 76 false true ?_
          refine lv (.bool true) ?_
          refine ls_end ?_
          refine qn_then ?_
          refine cs_true (by kernel_rfl) ?_
          refine cs_seq ?_
          refine cs_region (l := [_]) ?_
          refine lv (.bool false) ?_
          refine ls_end ?_
          refine qn_then ?_
          refine cs_ret' ?_
          refine qr_then ?_
          obtain rfl := Option.some.inj H
          refine qr_res (rs := [_]) rfl (fun w' hs => ⟨[.bool false], (res_tmp (by kernel_rfl) (.nil)), (), rfl, St.later hs0.ok (hle6.trans hle20) (hs.pick (ts := []) (cs := []) trivial (by decide))⟩)
        replace H := ite_f q137 H
        refine ls_know (c := true) (congrArg Bool.not (dec_f q137)) 67 (by kernel_rfl) ?_
        refine lofx 18 67 false true ?_
        refine lofx 18 67 false true ?_
        refine lofx 18 67 false true ?_
        refine lofx 18 67 false true ?_
        refine lofx 18 67 false true ?_
        refine lofx 18 67 false true ?_
        refine lofx 18 67 false true ?_
        refine lv (.bool true) ?_
        refine lv (.bool true) ?_
        refine lofx 27 76 false true ?_
        refine lofx 27 76 false true ?_
        refine lofx 27 76 false true ?_
        refine lofx 27 76 false true ?_
        refine lofx 27 76 false true ?_
        refine lofx 27 76 false true ?_
        refine lofx 27 76 false true ?_
        refine lv (.bool true) ?_
        refine ls_end ?_
        refine qn_then ?_
        refine cs_true (by kernel_rfl) ?_
        refine cs_seq ?_
        refine cs_region (l := [_]) ?_
        refine lv (.bool false) ?_
        refine ls_end ?_
        refine qn_then ?_
        refine cs_ret' ?_
        refine qr_then ?_
        obtain rfl := Option.some.inj H
        refine qr_res (rs := [_]) rfl (fun w' hs => ⟨[.bool false], (res_tmp (by kernel_rfl) (.nil)), (), rfl, St.later hs0.ok (hle6.trans hle20) (hs.pick (ts := []) (cs := []) trivial (by decide))⟩)
      replace H := ite_f q136 H
      refine ls_know (c := true) (congrArg Bool.not (dec_f q136)) 58 (by kernel_rfl) ?_
      refine lofx 9 58 false true ?_
      refine lofx 9 58 false true ?_
      refine lofx 9 58 false true ?_
      refine lofx 9 58 false true ?_
      refine lofx 9 58 false true ?_
      refine lofx 9 58 false true ?_
      refine lofx 9 58 false true ?_
      refine lv (.bool true) ?_
      refine lv (.bool true) ?_
      refine lofx 18 67 false true ?_
      refine lofx 18 67 false true ?_
      refine lofx 18 67 false true ?_
      refine lofx 18 67 false true ?_
      refine lofx 18 67 false true ?_
      refine lofx 18 67 false true ?_
      refine lofx 18 67 false true ?_
      refine lv (.bool true) ?_
      refine lv (.bool true) ?_
      refine lofx 27 76 false true ?_
      refine lofx 27 76 false true ?_
      refine lofx 27 76 false true ?_
      refine lofx 27 76 false true ?_
      refine lofx 27 76 false true ?_
      refine lofx 27 76 false true ?_
      refine lofx 27 76 false true ?_
      refine lv (.bool true) ?_
      refine ls_end ?_
      refine qn_then ?_
      refine cs_true (by kernel_rfl) ?_
      refine cs_seq ?_
      refine cs_region (l := [_]) ?_
      refine lv (.bool false) ?_
      refine ls_end ?_
      refine qn_then ?_
      refine cs_ret' ?_
      refine qr_then ?_
      obtain rfl := Option.some.inj H
      refine qr_res (rs := [_]) rfl (fun w' hs => ⟨[.bool false], (res_tmp (by kernel_rfl) (.nil)), (), rfl, St.later hs0.ok (hle6.trans hle20) (hs.pick (ts := []) (cs := []) trivial (by decide))⟩)
    replace H := ite_f q135 H
    refine ls_know (c := true) (congrArg Bool.not (dec_f q135)) 51 (by kernel_rfl) ?_
    refine lofx 2 51 false true ?_
    refine lofx 2 51 false true ?_
    refine lofx 2 51 false true ?_
    refine lofx 2 51 false true ?_
    refine lofx 2 51 false true ?_
    refine lv (.bool true) ?_
    refine lv (.bool true) ?_
    refine lofx 9 58 false true ?_
    refine lofx 9 58 false true ?_
    refine lofx 9 58 false true ?_
    refine lofx 9 58 false true ?_
    refine lofx 9 58 false true ?_
    refine lofx 9 58 false true ?_
    refine lofx 9 58 false true ?_
    refine lv (.bool true) ?_
    refine lv (.bool true) ?_
    refine lofx 18 67 false true ?_
    refine lofx 18 67 false true ?_
    refine lofx 18 67 false true ?_
    refine lofx 18 67 false true ?_
    refine lofx 18 67 false true ?_
    refine lofx 18 67 false true ?_
    refine lofx 18 67 false true ?_
    refine lv (.bool true) ?_
    refine lv (.bool true) ?_
    refine lofx 27 76 false true ?_
    refine lofx 27 76 false true ?_
    refine lofx 27 76 false true ?_
    refine lofx 27 76 false true ?_
    refine lofx 27 76 false true ?_
    refine lofx 27 76 false true ?_
    refine lofx 27 76 false true ?_
    refine lv (.bool true) ?_
    refine ls_end ?_
    refine qn_then ?_
    refine cs_true (by kernel_rfl) ?_
    refine cs_seq ?_
    refine cs_region (l := [_]) ?_
    refine lv (.bool false) ?_
    refine ls_end ?_
    refine qn_then ?_
    refine cs_ret' ?_
    refine qr_then ?_
    obtain rfl := Option.some.inj H
    refine qr_res (rs := [_]) rfl (fun w' hs => ⟨[.bool false], (res_tmp (by kernel_rfl) (.nil)), (), rfl, St.later hs0.ok (hle6.trans hle20) (hs.pick (ts := []) (cs := []) trivial (by decide))⟩)
  rintro f S ⟨fr3, rfl, rfl, H⟩
  replace H : (shadowboxlaw16_LeafBack.lo4 a0 t2 t10 k (4 : Int) (0 : Int)) = some r := H
  refine cs_seq ?_
  refine cs_region (l := [_]) ?_
  refine lv (.int .i64 (4 : Int)) ?_
  refine ls_end ?_
  refine qn_then ?_
  refine cs_seq ?_
  refine cs_seq ?_
  refine cs_region (l := [_]) ?_
  refine lv (.int .i64 (0 : Int)) ?_
  refine ls_end ?_
  refine qn_then ?_
  refine cs_block ?_
  refine cs_sub (sput (sput s0 0 (some (Ck.var 27 g1 (([Value.int .i64 a0.1] ++ ([Value.slice A0_1 a0.2.1.length c0_1] ++ ([Value.slice A0_2 a0.2.2.1.length c0_2] ++ [Value.slice A0_3 a0.2.2.2.length c0_3]))))))) 2 (some (Ck.var 27 g23 (([Value.int .i64 t10.1.1] ++ ([Value.slice x12.1.1 t10.1.2.1.length x12.1.2] ++ ([Value.slice x12.2.1.1 t10.1.2.2.1.length x12.2.1.2] ++ [Value.slice x12.2.2.1 t10.1.2.2.2.length x12.2.2.2]))))))) (sub_put (by exact rfl) (sub_put (by exact rfl) (sub_nil _))) ?_
  refine cs_loop (fun kk f S => ∃ (fR : Fr) (x8_4 : Int) (x9_4 : Int), f = upd (upd (upd (upd (upd fR 1 (.pointer (some ⟨g1, 0, none⟩))) 3 (.slice x4.1 t2.1.length x4.2)) 7 (.pointer (some ⟨g23, 0, none⟩))) 8 (.int .i64 x8_4)) 9 (.int .i64 x9_4) ∧ S = sput (sput s0 0 (some (Ck.var 27 g1 (([Value.int .i64 a0.1] ++ ([Value.slice A0_1 a0.2.1.length c0_1] ++ ([Value.slice A0_2 a0.2.2.1.length c0_2] ++ [Value.slice A0_3 a0.2.2.2.length c0_3]))))))) 2 (some (Ck.var 27 g23 (([Value.int .i64 t10.1.1] ++ ([Value.slice x12.1.1 t10.1.2.1.length x12.1.2] ++ ([Value.slice x12.2.1.1 t10.1.2.2.1.length x12.2.1.2] ++ [Value.slice x12.2.2.1 t10.1.2.2.2.length x12.2.2.2])))))) ∧ shadowboxlaw16_LeafBack.lo4 a0 t2 t10 kk x8_4 x9_4 = some r) k ?_ ?_ ?_
  · exact ⟨_, (4 : Int), (0 : Int), fr_next (fr_next (fr_next (fr_next (fr_next (rfl) (by kernel_rfl)) (by kernel_rfl)) (by kernel_rfl)) (by kernel_rfl)) (by kernel_rfl), rfl, H⟩
  · rintro f S ⟨fr4, x8_4, x9_4, rfl, rfl, H⟩; cases H
  rintro k4 f S ⟨fr4, x8_4, x9_4, rfl, rfl, H⟩
  replace H : ((if x9_4 < (a0.2.1.length : Int) then (shadowboxlaw16_LeafBack.jo5 a0 t10 x8_4 x9_4 k4 (shadowboxlaw16_LeafBack.lo4 a0 t2 t10 k4)) else (if (t2.1.length : Int) ≤ x8_4 then some (decide ((t2.1.length : Int) ≤ (4096 : Int))) else some false))) = some r := H
  refine cs_cut (fun f S => ∃ (fR : Fr), f = upd (upd (upd (upd (upd fR 1 (.pointer (some ⟨g1, 0, none⟩))) 3 (.slice x4.1 t2.1.length x4.2)) 7 (.pointer (some ⟨g23, 0, none⟩))) 8 (.int .i64 x8_4)) 9 (.int .i64 x9_4) ∧ S = sput (sput s0 0 (some (Ck.var 27 g1 (([Value.int .i64 a0.1] ++ ([Value.slice A0_1 a0.2.1.length c0_1] ++ ([Value.slice A0_2 a0.2.2.1.length c0_2] ++ [Value.slice A0_3 a0.2.2.2.length c0_3]))))))) 2 (some (Ck.var 27 g23 (([Value.int .i64 t10.1.1] ++ ([Value.slice x12.1.1 t10.1.2.1.length x12.1.2] ++ ([Value.slice x12.2.1.1 t10.1.2.2.1.length x12.2.1.2] ++ [Value.slice x12.2.2.1 t10.1.2.2.2.length x12.2.2.2])))))) ∧ shadowboxlaw16_LeafBack.jo5 a0 t10 x8_4 x9_4 k4 (shadowboxlaw16_LeafBack.lo4 a0 t2 t10 k4) = some r) ?_ ?_
  · skip
    refine cs_seq ?_
    refine cs_region (l := [_, _, _, _, _]) ?_
    refine lv (.int .i64 x9_4) ?_
    refine lv (.pointer (some ⟨g1, (0 + 1), none⟩)) ?_
    refine ls_load (a0 := ⟨g1, (0 + 1), none⟩) (v := .slice A0_1 a0.2.1.length c0_1) (de := (TypeDesc.slice 23)) rfl rfl (by kernel_rfl) rfl (by kernel_rfl) (by kernel_rfl) (by kernel_rfl) (fun w hs => (hs.var (k := 0) (by exact rfl) (Sub4.trans (Sub4.all _) (Sub4.skip (n := 1) (len1 _) (Sub4.head _ _))))) ?_
    refine lv (.int .i64 (a0.2.1.length : Int)) ?_
    refine lv (.bool (decide (x9_4 < (a0.2.1.length : Int)))) ?_
    refine ls_end ?_
    refine qn_then ?_
    by_cases q133 : x9_4 < (a0.2.1.length : Int)
    · replace H := ite_t q133 H
      refine cs_know (c := true) (dec_t q133) 89 (by kernel_rfl) ?_
      refine cs_true (by kernel_rfl) ?_
      refine cs_skip' ?_
      refine qn_meet (sput (sput s0 0 (some (Ck.var 27 g1 (([Value.int .i64 a0.1] ++ ([Value.slice A0_1 a0.2.1.length c0_1] ++ ([Value.slice A0_2 a0.2.2.1.length c0_2] ++ [Value.slice A0_3 a0.2.2.2.length c0_3]))))))) 2 (some (Ck.var 27 g23 (([Value.int .i64 t10.1.1] ++ ([Value.slice x12.1.1 t10.1.2.1.length x12.1.2] ++ ([Value.slice x12.2.1.1 t10.1.2.2.1.length x12.2.1.2] ++ [Value.slice x12.2.2.1 t10.1.2.2.2.length x12.2.2.2]))))))) ⟨_, fr_next (fr_next (fr_next (fr_next (fr_next (rfl) (by kernel_rfl)) (by kernel_rfl)) (by kernel_rfl)) (by kernel_rfl)) (by kernel_rfl), rfl, H⟩ (sub_put (by exact rfl) (sub_put (by exact rfl) (sub_nil _)))
    replace H := ite_f q133 H
    refine cs_know (c := false) (dec_f q133) 89 (by kernel_rfl) ?_
    refine cs_false (by kernel_rfl) ?_
    refine cs_exit' ?_
    refine qx_then ?_
    refine qx_then ?_
    refine qx_same ?_
    refine qn_then ?_
    refine cs_seq ?_
    refine cs_region (l := [_, _, _, _, _, _, _, _, _, _]) ?_
    refine lv (.slice x4.1 t2.1.length x4.2) ?_
    refine lv (.int .i64 (t2.1.length : Int)) ?_
    refine lv (.int .i64 x8_4) ?_
    refine lv (.bool (decide ((t2.1.length : Int) ≤ x8_4))) ?_
    refine lv (.bool (decide ((t2.1.length : Int) ≤ x8_4))) ?_
    by_cases q134 : (t2.1.length : Int) ≤ x8_4
    · replace H := ite_t q134 H
      refine ls_know (c := true) (dec_t q134) 183 (by kernel_rfl) ?_
      refine ls_on (j := 4) (t := 183) (b := true) rfl rfl (by kernel_rfl) (by kernel_rfl) ?_
      refine lv (.slice x4.1 t2.1.length x4.2) ?_
      refine ls_on (j := 4) (t := 183) (b := true) rfl rfl (by kernel_rfl) (by kernel_rfl) ?_
      refine lv (.int .i64 (t2.1.length : Int)) ?_
      refine ls_on (j := 4) (t := 183) (b := true) rfl rfl (by kernel_rfl) (by kernel_rfl) ?_
      refine lv (.bool (decide ((t2.1.length : Int) ≤ (4096 : Int)))) ?_
      refine lv (.bool (decide ((t2.1.length : Int) ≤ (4096 : Int)))) ?_
      refine lv (.bool (decide ((t2.1.length : Int) ≤ (4096 : Int)))) ?_
      refine ls_end ?_
      refine qn_then ?_
      refine cs_ret' ?_
      obtain rfl := Option.some.inj H
      refine qr_res (rs := [_]) rfl (fun w' hs => ⟨[.bool (decide ((t2.1.length : Int) ≤ (4096 : Int)))], (res_tmp (by kernel_rfl) (.nil)), (), rfl, St.later hs0.ok (hle6.trans hle20) (hs.pick (ts := []) (cs := []) trivial (by decide))⟩)
    replace H := ite_f q134 H
    refine ls_know (c := false) (dec_f q134) 183 (by kernel_rfl) ?_
    refine lofx 4 183 true false ?_
    refine lofx 4 183 true false ?_
    refine lofx 4 183 true false ?_
    refine lv (.bool false) ?_
    refine lv (.bool false) ?_
    refine ls_end ?_
    refine qn_then ?_
    refine cs_ret' ?_
    obtain rfl := Option.some.inj H
    refine qr_res (rs := [_]) rfl (fun w' hs => ⟨[.bool false], (res_tmp (by kernel_rfl) (.nil)), (), rfl, St.later hs0.ok (hle6.trans hle20) (hs.pick (ts := []) (cs := []) trivial (by decide))⟩)
  rintro f S ⟨fr5, rfl, rfl, H⟩
  replace H : ((if 0 ≤ x9_4 then (if x9_4 < (t10.1.2.1.length : Int) then lt (strOfNums ((t10.1.2.1).getD (x9_4).toNat ([] : List Int))) fun y93 => (if x9_4 < (a0.2.1.length : Int) then lt (strOfNums ((a0.2.1).getD (x9_4).toNat ([] : List Int))) fun y102 => (if (y93.toList == y102.toList) = true then (leaf_Find.f k4 (t10.1.1, t10.1.2.1, t10.1.2.2.1, t10.1.2.2.2) ((a0.2.1).getD (x9_4).toNat ([] : List Int))).bind fun t111 => (if t111 = x9_4 then (if (([] : List Int).length + ((a0.2.1).getD (x9_4).toNat ([] : List Int)).length) * 1 ≤ 140737488355328 then (if ((([] : List Int) ++ ((a0.2.1).getD (x9_4).toNat ([] : List Int))).length + ([(0 : Int)]).length) * 1 ≤ 140737488355328 then (leaf_Find.f k4 (t10.1.1, t10.1.2.1, t10.1.2.2.1, t10.1.2.2.2) ((([] : List Int) ++ ((a0.2.1).getD (x9_4).toNat ([] : List Int))) ++ [(0 : Int)])).bind fun t129 => (if t129 < x9_4 then some false else (shadowboxlaw16_LeafBack.jo6 a0 t10 x8_4 x9_4 k4 (shadowboxlaw16_LeafBack.lo4 a0 t2 t10 k4))) else none) else none) else some false) else some false) else none) else none) else none)) = some r := H
  refine cs_seq ?_
  refine cs_block ?_
  refine cs_cut (fun f S => ∃ (fR : Fr), f = upd (upd (upd (upd (upd fR 1 (.pointer (some ⟨g1, 0, none⟩))) 3 (.slice x4.1 t2.1.length x4.2)) 7 (.pointer (some ⟨g23, 0, none⟩))) 8 (.int .i64 x8_4)) 9 (.int .i64 x9_4) ∧ S = sput (sput s0 0 (some (Ck.var 27 g1 (([Value.int .i64 a0.1] ++ ([Value.slice A0_1 a0.2.1.length c0_1] ++ ([Value.slice A0_2 a0.2.2.1.length c0_2] ++ [Value.slice A0_3 a0.2.2.2.length c0_3]))))))) 2 (some (Ck.var 27 g23 (([Value.int .i64 t10.1.1] ++ ([Value.slice x12.1.1 t10.1.2.1.length x12.1.2] ++ ([Value.slice x12.2.1.1 t10.1.2.2.1.length x12.2.1.2] ++ [Value.slice x12.2.2.1 t10.1.2.2.2.length x12.2.2.2])))))) ∧ shadowboxlaw16_LeafBack.jo6 a0 t10 x8_4 x9_4 k4 (shadowboxlaw16_LeafBack.lo4 a0 t2 t10 k4) = some r) ?_ ?_
  · skip
    refine cs_seq ?_
    obtain ⟨q85, H⟩ := ite_need H
    obtain ⟨q86, H⟩ := ite_need H
    obtain ⟨ad87, hA88⟩ := idoS_at (l := t10.1.2.1) (i := x9_4) fR13 q85 q86
    obtain ⟨xq89, hq90, xR91, xC92⟩ := RoS.el (l := t10.1.2.1) fR13 hA88 (i := x9_4) q85 q86
    obtain ⟨y93, hy94, H⟩ := lt_some H
    obtain ⟨q95, H⟩ := ite_need H
    obtain ⟨ad96, hA97⟩ := idoS_at (l := a0.2.1) (i := x9_4) (RoS.mono hok21 hle20 (RoS.mono hok7 hle6 R0_1)) q85 q95
    obtain ⟨xq98, hq99, xR100, xC101⟩ := RoS.el (l := a0.2.1) R0_1 hA97 (i := x9_4) q85 q95
    obtain ⟨y102, hy103, H⟩ := lt_some H
    by_cases q104 : (y93.toList == y102.toList) = true
    · replace H := ite_t q104 H
      obtain ⟨ad105, hA106⟩ := idoS_at (l := a0.2.1) (i := x9_4) (RoS.mono hok21 hle20 (RoS.mono hok7 hle6 R0_1)) q85 q95
      obtain ⟨xq107, hq108, xR109, xC110⟩ := RoS.el (l := a0.2.1) R0_1 hA106 (i := x9_4) q85 q95
      obtain ⟨t111, hc112, H⟩ := bind_some H
      by_cases q114 : t111 = x9_4
      · replace H := ite_t q114 H
        obtain ⟨ad116, hA117⟩ := idoS_at (l := a0.2.1) (i := x9_4) (RoS.mono hok21 hle20 (RoS.mono hok7 hle6 R0_1)) q85 q95
        obtain ⟨xq118, hq119, xR120, xC121⟩ := RoS.el (l := a0.2.1) R0_1 hA117 (i := x9_4) q85 q95
        obtain ⟨q122, H⟩ := ite_need H
        obtain ⟨q126, H⟩ := ite_need H
        obtain ⟨t129, hc130, H⟩ := bind_some H
        refine cs_sub (sput (sput s0 0 (some (Ck.var 27 g1 (([Value.int .i64 a0.1] ++ ([Value.slice A0_1 a0.2.1.length c0_1] ++ ([Value.slice A0_2 a0.2.2.1.length c0_2] ++ [Value.slice A0_3 a0.2.2.2.length c0_3]))))))) 2 (some (Ck.var 27 g23 (([Value.int .i64 t10.1.1] ++ ([Value.slice x12.1.1 t10.1.2.1.length x12.1.2] ++ ([Value.slice x12.2.1.1 t10.1.2.2.1.length x12.2.1.2] ++ [Value.slice x12.2.2.1 t10.1.2.2.2.length x12.2.2.2]))))))) (sub_put (by exact rfl) (sub_put (by exact rfl) (sub_nil _))) ?_
        refine cs_lab (l := [_, _, _, _, _, _, _, _, _, _, _, _, _, _, _, _, _, _, _, _, _, _, _, _, _, _, _, _, _, _, _, _, _, _, _, _, _, _, _]) [[], [0], [], [0, 1, 2], [0, 1, 2, 3], [0, 1, 2, 3, 4], [], [6], [], [6, 7, 8], [6, 7, 8, 9], [6, 7, 8, 9, 10], [0, 1, 2, 3, 4, 5, 6, 7, 8, 9, 10, 11], [0, 1, 2, 3, 4, 5, 6, 7, 8, 9, 10, 11, 12], [0, 1, 2, 3, 4, 5, 6, 7, 8, 9, 10, 11, 12, 13], [0, 1, 2, 3, 4, 5, 6, 7, 8, 9, 10, 11, 12, 13], [0, 1, 2, 3, 4, 5, 6, 7, 8, 9, 10, 11, 12, 13, 15], [0, 1, 2, 3, 4, 5, 6, 7, 8, 9, 10, 11, 12, 13], [0, 1, 2, 3, 4, 5, 6, 7, 8, 9, 10, 11, 12, 13, 15, 16, 17], [0, 1, 2, 3, 4, 5, 6, 7, 8, 9, 10, 11, 12, 13, 15, 16, 17, 18], [0, 1, 2, 3, 4, 5, 6, 7, 8, 9, 10, 11, 12, 13, 14, 15, 16, 17, 18, 19], [0, 1, 2, 3, 4, 5, 6, 7, 8, 9, 10, 11, 12, 13], [0, 1, 2, 3, 4, 5, 6, 7, 8, 9, 10, 11, 12, 13, 14, 15, 16, 17, 18, 19, 20, 21], [0, 1, 2, 3, 4, 5, 6, 7, 8, 9, 10, 11, 12, 13, 14, 15, 16, 17, 18, 19, 20, 21, 22], [0, 1, 2, 3, 4, 5, 6, 7, 8, 9, 10, 11, 12, 13, 14, 15, 16, 17, 18, 19, 20, 21, 22, 23], [0, 1, 2, 3, 4, 5, 6, 7, 8, 9, 10, 11, 12, 13, 14, 15, 16, 17, 18, 19, 20, 21, 22, 23, 24], [0, 1, 2, 3, 4, 5, 6, 7, 8, 9, 10, 11, 12, 13, 14, 15, 16, 17, 18, 19, 20, 21, 22, 23, 24], [0, 1, 2, 3, 4, 5, 6, 7, 8, 9, 10, 11, 12, 13, 14, 15, 16, 17, 18, 19, 20, 21, 22, 23, 24], [0, 1, 2, 3, 4, 5, 6, 7, 8, 9, 10, 11, 12, 13, 14, 15, 16, 17, 18, 19, 20, 21, 22, 23, 24, 27], [0, 1, 2, 3, 4, 5, 6, 7, 8, 9, 10, 11, 12, 13, 14, 15, 16, 17, 18, 19, 20, 21, 22, 23, 24], [0, 1, 2, 3, 4, 5, 6, 7, 8, 9, 10, 11, 12, 13, 14, 15, 16, 17, 18, 19, 20, 21, 22, 23, 24, 27, 28, 29], [0, 1, 2, 3, 4, 5, 6, 7, 8, 9, 10, 11, 12, 13, 14, 15, 16, 17, 18, 19, 20, 21, 22, 23, 24, 27, 28, 29, 30], [0, 1, 2, 3, 4, 5, 6, 7, 8, 9, 10, 11, 12, 13, 14, 15, 16, 17, 18, 19, 20, 21, 22, 23, 24, 26, 27, 28, 29, 30, 31], [0, 1, 2, 3, 4, 5, 6, 7, 8, 9, 10, 11, 12, 13, 14, 15, 16, 17, 18, 19, 20, 21, 22, 23, 24], [0, 1, 2, 3, 4, 5, 6, 7, 8, 9, 10, 11, 12, 13, 14, 15, 16, 17, 18, 19, 20, 21, 22, 23, 24, 26, 27, 28, 29, 30, 31, 32, 33], [0, 1, 2, 3, 4, 5, 6, 7, 8, 9, 10, 11, 12, 13, 14, 15, 16, 17, 18, 19, 20, 21, 22, 23, 24, 25, 26, 27, 28, 29, 30, 31, 32, 33, 34], [0, 1, 2, 3, 4, 5, 6, 7, 8, 9, 10, 11, 12, 13, 14, 15, 16, 17, 18, 19, 20, 21, 22, 23, 24], [0, 1, 2, 3, 4, 5, 6, 7, 8, 9, 10, 11, 12, 13, 14, 15, 16, 17, 18, 19, 20, 21, 22, 23, 24, 25, 26, 27, 28, 29, 30, 31, 32, 33, 34, 35, 36], [0, 1, 2, 3, 4, 5, 6, 7, 8, 9, 10, 11, 12, 13, 14, 15, 16, 17, 18, 19, 20, 21, 22, 23, 24, 25, 26, 27, 28, 29, 30, 31, 32, 33, 34, 35, 36, 37]] 37 (fun u => [0, 2].contains u) (efl [false, false, false, false, false, false, false, false, false, false, false, false, false, false, false, false, false, false, false, false, true, false, false, false, false, false, true, false, false, false, false, false, true, true, true, true, false]) (pvl [.val (.pointer (some ⟨g23, (0 + 1), none⟩)), .val (.slice x12.1.1 t10.1.2.1.length x12.1.2), .val (.int .i64 x9_4), .val (.pointer (some (ad87.add ((x9_4).toNat * 1)))), .val (.slice xq89.1 ((t10.1.2.1).getD (x9_4).toNat ([] : List Int)).length xq89.2), .val (.string y93), .val (.pointer (some ⟨g1, (0 + 1), none⟩)), .val (.slice A0_1 a0.2.1.length c0_1), .val (.int .i64 x9_4), .val (.pointer (some (ad96.add ((x9_4).toNat * 1)))), .val (.slice xq98.1 ((a0.2.1).getD (x9_4).toNat ([] : List Int)).length xq98.2), .val (.string y102), .val (.bool false), .val (.bool false), .val (.agg ⟨([Value.int .i64 t10.1.1] ++ ([Value.slice x12.1.1 t10.1.2.1.length x12.1.2] ++ ([Value.slice x12.2.1.1 t10.1.2.2.1.length x12.2.1.2] ++ [Value.slice x12.2.2.1 t10.1.2.2.2.length x12.2.2.2])))⟩), .val (.pointer (some ⟨g1, (0 + 1), none⟩)), .val (.slice A0_1 a0.2.1.length c0_1), .val (.int .i64 x9_4), .val (.pointer (some (ad105.add ((x9_4).toNat * 1)))), .val (.slice xq107.1 ((a0.2.1).getD (x9_4).toNat ([] : List Int)).length xq107.2), .val (.int .i64 t111), .val (.int .i64 x9_4), .val (.bool false), .val (.bool false), .val (.bool false), .val (.agg ⟨([Value.int .i64 t10.1.1] ++ ([Value.slice x12.1.1 t10.1.2.1.length x12.1.2] ++ ([Value.slice x12.2.1.1 t10.1.2.2.1.length x12.2.1.2] ++ [Value.slice x12.2.2.1 t10.1.2.2.2.length x12.2.2.2])))⟩), .eff 26, .val (.pointer (some ⟨g1, (0 + 1), none⟩)), .val (.slice A0_1 a0.2.1.length c0_1), .val (.int .i64 x9_4), .val (.pointer (some (ad116.add ((x9_4).toNat * 1)))), .val (.slice xq118.1 ((a0.2.1).getD (x9_4).toNat ([] : List Int)).length xq118.2), .eff 32, .eff 33, .eff 34, .val (.int .i64 t129), .val (.int .i64 x9_4)]) (Esl [fun (es : Nat → Value) (S' : Sto) => S' = sput (sput s0 0 (some (Ck.var 27 g1 (([Value.int .i64 a0.1] ++ ([Value.slice A0_1 a0.2.1.length c0_1] ++ ([Value.slice A0_2 a0.2.2.1.length c0_2] ++ [Value.slice A0_3 a0.2.2.2.length c0_3]))))))) 2 (some (Ck.var 27 g23 (([Value.int .i64 t10.1.1] ++ ([Value.slice x12.1.1 t10.1.2.1.length x12.1.2] ++ ([Value.slice x12.2.1.1 t10.1.2.2.1.length x12.2.1.2] ++ [Value.slice x12.2.2.1 t10.1.2.2.2.length x12.2.2.2])))))), fun (es : Nat → Value) (S' : Sto) => ∃ (x113 : Unit), es 20 = .int .i64 t111 ∧ S' = sput (sput s0 0 (some (Ck.var 27 g1 (([Value.int .i64 a0.1] ++ ([Value.slice A0_1 a0.2.1.length c0_1] ++ ([Value.slice A0_2 a0.2.2.1.length c0_2] ++ [Value.slice A0_3 a0.2.2.2.length c0_3]))))))) 2 (some (Ck.var 27 g23 (([Value.int .i64 t10.1.1] ++ ([Value.slice x12.1.1 t10.1.2.1.length x12.1.2] ++ ([Value.slice x12.2.1.1 t10.1.2.2.1.length x12.2.1.2] ++ [Value.slice x12.2.2.1 t10.1.2.2.2.length x12.2.2.2])))))), fun (es : Nat → Value) (S' : Sto) => ∃ (x113 : Unit) (g115 : Nat), es 20 = .int .i64 t111 ∧ es 26 = .slice (some ⟨g115, 0, none⟩) ([] : List Int).length ([] : List Int).length ∧ S' = sput (sput (sput s0 0 (some (Ck.var 27 g1 (([Value.int .i64 a0.1] ++ ([Value.slice A0_1 a0.2.1.length c0_1] ++ ([Value.slice A0_2 a0.2.2.1.length c0_2] ++ [Value.slice A0_3 a0.2.2.2.length c0_3]))))))) 2 (some (Ck.var 27 g23 (([Value.int .i64 t10.1.1] ++ ([Value.slice x12.1.1 t10.1.2.1.length x12.1.2] ++ ([Value.slice x12.2.1.1 t10.1.2.2.1.length x12.2.1.2] ++ [Value.slice x12.2.2.1 t10.1.2.2.2.length x12.2.2.2]))))))) 3 (some (Ck.sl (Ec.int 5 .u8) (some ⟨g115, 0, none⟩) (([] : List Int).length) ([] : List Int))), fun (es : Nat → Value) (S' : Sto) => ∃ (x113 : Unit) (g125 : Nat), es 20 = .int .i64 t111 ∧ es 33 = .slice (some ⟨g125, 0, none⟩) [(0 : Int)].length [(0 : Int)].length ∧ S' = sput (sput (sput s0 0 (some (Ck.var 27 g1 (([Value.int .i64 a0.1] ++ ([Value.slice A0_1 a0.2.1.length c0_1] ++ ([Value.slice A0_2 a0.2.2.1.length c0_2] ++ [Value.slice A0_3 a0.2.2.2.length c0_3]))))))) 2 (some (Ck.var 27 g23 (([Value.int .i64 t10.1.1] ++ ([Value.slice x12.1.1 t10.1.2.1.length x12.1.2] ++ ([Value.slice x12.2.1.1 t10.1.2.2.1.length x12.2.1.2] ++ [Value.slice x12.2.2.1 t10.1.2.2.2.length x12.2.2.2]))))))) 4 (some (Ck.sl (Ec.int 5 .u8) (some ⟨g125, 0, none⟩) ([(0 : Int)].length) ([(0 : Int)]))), fun (es : Nat → Value) (S' : Sto) => ∃ (x113 : Unit) (g115 : Nat) (xA123 : Option Addr) (xc124 : Nat), es 20 = .int .i64 t111 ∧ es 26 = .slice (some ⟨g115, 0, none⟩) ([] : List Int).length ([] : List Int).length ∧ es 32 = .slice xA123 (([] : List Int) ++ ((a0.2.1).getD (x9_4).toNat ([] : List Int))).length xc124 ∧ S' = sput (sput (sput s0 0 (some (Ck.var 27 g1 (([Value.int .i64 a0.1] ++ ([Value.slice A0_1 a0.2.1.length c0_1] ++ ([Value.slice A0_2 a0.2.2.1.length c0_2] ++ [Value.slice A0_3 a0.2.2.2.length c0_3]))))))) 2 (some (Ck.var 27 g23 (([Value.int .i64 t10.1.1] ++ ([Value.slice x12.1.1 t10.1.2.1.length x12.1.2] ++ ([Value.slice x12.2.1.1 t10.1.2.2.1.length x12.2.1.2] ++ [Value.slice x12.2.2.1 t10.1.2.2.2.length x12.2.2.2]))))))) 3 (some (Ck.sl (Ec.int 5 .u8) xA123 xc124 (([] : List Int) ++ ((a0.2.1).getD (x9_4).toNat ([] : List Int))))), fun (es : Nat → Value) (S' : Sto) => ∃ (x113 : Unit) (g115 : Nat) (g125 : Nat), es 20 = .int .i64 t111 ∧ es 26 = .slice (some ⟨g115, 0, none⟩) ([] : List Int).length ([] : List Int).length ∧ es 33 = .slice (some ⟨g125, 0, none⟩) [(0 : Int)].length [(0 : Int)].length ∧ S' = sput (sput (sput (sput s0 0 (some (Ck.var 27 g1 (([Value.int .i64 a0.1] ++ ([Value.slice A0_1 a0.2.1.length c0_1] ++ ([Value.slice A0_2 a0.2.2.1.length c0_2] ++ [Value.slice A0_3 a0.2.2.2.length c0_3]))))))) 2 (some (Ck.var 27 g23 (([Value.int .i64 t10.1.1] ++ ([Value.slice x12.1.1 t10.1.2.1.length x12.1.2] ++ ([Value.slice x12.2.1.1 t10.1.2.2.1.length x12.2.1.2] ++ [Value.slice x12.2.2.1 t10.1.2.2.2.length x12.2.2.2]))))))) 3 (some (Ck.sl (Ec.int 5 .u8) (some ⟨g115, 0, none⟩) (([] : List Int).length) ([] : List Int)))) 4 (some (Ck.sl (Ec.int 5 .u8) (some ⟨g125, 0, none⟩) ([(0 : Int)].length) ([(0 : Int)]))), fun (es : Nat → Value) (S' : Sto) => ∃ (x113 : Unit) (g115 : Nat) (xA123 : Option Addr) (xc124 : Nat) (g125 : Nat), es 20 = .int .i64 t111 ∧ es 26 = .slice (some ⟨g115, 0, none⟩) ([] : List Int).length ([] : List Int).length ∧ es 32 = .slice xA123 (([] : List Int) ++ ((a0.2.1).getD (x9_4).toNat ([] : List Int))).length xc124 ∧ es 33 = .slice (some ⟨g125, 0, none⟩) [(0 : Int)].length [(0 : Int)].length ∧ S' = sput (sput (sput (sput s0 0 (some (Ck.var 27 g1 (([Value.int .i64 a0.1] ++ ([Value.slice A0_1 a0.2.1.length c0_1] ++ ([Value.slice A0_2 a0.2.2.1.length c0_2] ++ [Value.slice A0_3 a0.2.2.2.length c0_3]))))))) 2 (some (Ck.var 27 g23 (([Value.int .i64 t10.1.1] ++ ([Value.slice x12.1.1 t10.1.2.1.length x12.1.2] ++ ([Value.slice x12.2.1.1 t10.1.2.2.1.length x12.2.1.2] ++ [Value.slice x12.2.2.1 t10.1.2.2.2.length x12.2.2.2]))))))) 3 (some (Ck.sl (Ec.int 5 .u8) xA123 xc124 (([] : List Int) ++ ((a0.2.1).getD (x9_4).toNat ([] : List Int)))))) 4 (some (Ck.sl (Ec.int 5 .u8) (some ⟨g125, 0, none⟩) ([(0 : Int)].length) ([(0 : Int)]))), fun (es : Nat → Value) (S' : Sto) => ∃ (x113 : Unit) (g115 : Nat) (xA123 : Option Addr) (xc124 : Nat) (g125 : Nat) (xA127 : Option Addr) (xc128 : Nat), es 20 = .int .i64 t111 ∧ es 26 = .slice (some ⟨g115, 0, none⟩) ([] : List Int).length ([] : List Int).length ∧ es 32 = .slice xA123 (([] : List Int) ++ ((a0.2.1).getD (x9_4).toNat ([] : List Int))).length xc124 ∧ es 33 = .slice (some ⟨g125, 0, none⟩) [(0 : Int)].length [(0 : Int)].length ∧ es 34 = .slice xA127 ((([] : List Int) ++ ((a0.2.1).getD (x9_4).toNat ([] : List Int))) ++ [(0 : Int)]).length xc128 ∧ S' = sput (sput (sput (sput s0 0 (some (Ck.var 27 g1 (([Value.int .i64 a0.1] ++ ([Value.slice A0_1 a0.2.1.length c0_1] ++ ([Value.slice A0_2 a0.2.2.1.length c0_2] ++ [Value.slice A0_3 a0.2.2.2.length c0_3]))))))) 2 (some (Ck.var 27 g23 (([Value.int .i64 t10.1.1] ++ ([Value.slice x12.1.1 t10.1.2.1.length x12.1.2] ++ ([Value.slice x12.2.1.1 t10.1.2.2.1.length x12.2.1.2] ++ [Value.slice x12.2.2.1 t10.1.2.2.2.length x12.2.2.2]))))))) 3 (some (Ck.sl (Ec.int 5 .u8) xA127 xc128 ((([] : List Int) ++ ((a0.2.1).getD (x9_4).toNat ([] : List Int))) ++ [(0 : Int)])))) 4 (some (Ck.sl (Ec.int 5 .u8) (some ⟨g125, 0, none⟩) ([(0 : Int)].length) ([(0 : Int)]))), fun (es : Nat → Value) (S' : Sto) => ∃ (x113 : Unit) (g115 : Nat) (xA123 : Option Addr) (xc124 : Nat) (g125 : Nat) (xA127 : Option Addr) (xc128 : Nat) (x131 : Unit), es 20 = .int .i64 t111 ∧ es 26 = .slice (some ⟨g115, 0, none⟩) ([] : List Int).length ([] : List Int).length ∧ es 32 = .slice xA123 (([] : List Int) ++ ((a0.2.1).getD (x9_4).toNat ([] : List Int))).length xc124 ∧ es 33 = .slice (some ⟨g125, 0, none⟩) [(0 : Int)].length [(0 : Int)].length ∧ es 34 = .slice xA127 ((([] : List Int) ++ ((a0.2.1).getD (x9_4).toNat ([] : List Int))) ++ [(0 : Int)]).length xc128 ∧ es 35 = .int .i64 t129 ∧ S' = sput (sput (sput (sput s0 0 (some (Ck.var 27 g1 (([Value.int .i64 a0.1] ++ ([Value.slice A0_1 a0.2.1.length c0_1] ++ ([Value.slice A0_2 a0.2.2.1.length c0_2] ++ [Value.slice A0_3 a0.2.2.2.length c0_3]))))))) 2 (some (Ck.var 27 g23 (([Value.int .i64 t10.1.1] ++ ([Value.slice x12.1.1 t10.1.2.1.length x12.1.2] ++ ([Value.slice x12.2.1.1 t10.1.2.2.1.length x12.2.1.2] ++ [Value.slice x12.2.2.1 t10.1.2.2.2.length x12.2.2.2]))))))) 3 (some (Ck.sl (Ec.int 5 .u8) xA127 xc128 ((([] : List Int) ++ ((a0.2.1).getD (x9_4).toNat ([] : List Int))) ++ [(0 : Int)])))) 4 (some (Ck.sl (Ec.int 5 .u8) (some ⟨g125, 0, none⟩) ([(0 : Int)].length) ([(0 : Int)])))] [0, 1, 2, 3, 4, 5, 6, 7, 8]) [[], [20], [20, 26], [20, 33], [20, 26, 32], [20, 26, 33], [20, 26, 32, 33], [20, 26, 32, 33, 34], [20, 26, 32, 33, 34, 35]] [[0, 0, 0, 0, 0, 0, 0, 0, 0, 0, 0, 0, 0, 0, 0, 0, 0, 0, 0, 0, 1, 0, 0, 0, 0, 0, 0, 0, 0, 0, 0, 0, 0, 0, 0, 0, 0], [0, 0, 0, 0, 0, 0, 0, 0, 0, 0, 0, 0, 0, 0, 0, 0, 0, 0, 0, 0, 0, 0, 0, 0, 0, 0, 2, 0, 0, 0, 0, 0, 0, 3, 0, 0, 0], [0, 0, 0, 0, 0, 0, 0, 0, 0, 0, 0, 0, 0, 0, 0, 0, 0, 0, 0, 0, 0, 0, 0, 0, 0, 0, 0, 0, 0, 0, 0, 0, 4, 5, 0, 0, 0], [0, 0, 0, 0, 0, 0, 0, 0, 0, 0, 0, 0, 0, 0, 0, 0, 0, 0, 0, 0, 0, 0, 0, 0, 0, 0, 5, 0, 0, 0, 0, 0, 0, 0, 0, 0, 0], [0, 0, 0, 0, 0, 0, 0, 0, 0, 0, 0, 0, 0, 0, 0, 0, 0, 0, 0, 0, 0, 0, 0, 0, 0, 0, 0, 0, 0, 0, 0, 0, 0, 6, 0, 0, 0], [0, 0, 0, 0, 0, 0, 0, 0, 0, 0, 0, 0, 0, 0, 0, 0, 0, 0, 0, 0, 0, 0, 0, 0, 0, 0, 0, 0, 0, 0, 0, 0, 6, 0, 0, 0, 0], [0, 0, 0, 0, 0, 0, 0, 0, 0, 0, 0, 0, 0, 0, 0, 0, 0, 0, 0, 0, 0, 0, 0, 0, 0, 0, 0, 0, 0, 0, 0, 0, 0, 0, 7, 0, 0], [0, 0, 0, 0, 0, 0, 0, 0, 0, 0, 0, 0, 0, 0, 0, 0, 0, 0, 0, 0, 0, 0, 0, 0, 0, 0, 0, 0, 0, 0, 0, 0, 0, 0, 0, 8, 0], [0, 0, 0, 0, 0, 0, 0, 0, 0, 0, 0, 0, 0, 0, 0, 0, 0, 0, 0, 0, 0, 0, 0, 0, 0, 0, 0, 0, 0, 0, 0, 0, 0, 0, 0, 0, 0]] [[0], [0], [0], [0], [0], [0], [0], [0], [0], [0], [0], [0], [0], [0], [0], [0], [0], [0], [0], [0], [0], [0], [0], [0], [0], [0], [1, 3], [0], [0], [0], [0], [0], [2, 5], [1, 2, 4], [6], [7], [0]] (onl [true, true, true, true, true, true, true, true, true, true, true, true, true, true, true, true, true, true, true, true, true, true, true, true, true, true, true, true, true, true, true, true, true, true, true, true, true]) 9 8 (by kernel_rfl) (by kernel_rfl) (by kernel_rfl) (by kernel_rfl) (by kernel_rfl) (rs := [_, _]) rfl (by kernel_rfl) (by kernel_rfl) (fun es => ?_) ?_ ?_
        · exact (rfl : sput (sput s0 0 (some (Ck.var 27 g1 (([Value.int .i64 a0.1] ++ ([Value.slice A0_1 a0.2.1.length c0_1] ++ ([Value.slice A0_2 a0.2.2.1.length c0_2] ++ [Value.slice A0_3 a0.2.2.2.length c0_3]))))))) 2 (some (Ck.var 27 g23 (([Value.int .i64 t10.1.1] ++ ([Value.slice x12.1.1 t10.1.2.1.length x12.1.2] ++ ([Value.slice x12.2.1.1 t10.1.2.2.1.length x12.2.1.2] ++ [Value.slice x12.2.2.1 t10.1.2.2.2.length x12.2.2.2])))))) = sput (sput s0 0 (some (Ck.var 27 g1 (([Value.int .i64 a0.1] ++ ([Value.slice A0_1 a0.2.1.length c0_1] ++ ([Value.slice A0_2 a0.2.2.1.length c0_2] ++ [Value.slice A0_3 a0.2.2.2.length c0_3]))))))) 2 (some (Ck.var 27 g23 (([Value.int .i64 t10.1.1] ++ ([Value.slice x12.1.1 t10.1.2.1.length x12.1.2] ++ ([Value.slice x12.2.1.1 t10.1.2.2.1.length x12.2.1.2] ++ [Value.slice x12.2.2.1 t10.1.2.2.2.length x12.2.2.2])))))))
        · refine all_snoc (all_snoc (all_snoc (all_snoc (all_snoc (all_snoc (all_snoc (all_snoc (all_snoc (all_snoc (all_snoc (all_snoc (all_snoc (all_snoc (all_snoc (all_snoc (all_snoc (all_snoc (all_snoc (all_snoc (all_snoc (all_snoc (all_snoc (all_snoc (all_snoc (all_snoc (all_snoc (all_snoc (all_snoc (all_snoc (all_snoc (all_snoc (all_snoc (all_snoc (all_snoc (all_snoc (all_snoc (all_nil) ?_) ?_) ?_) ?_) ?_) ?_) ?_) ?_) ?_) ?_) ?_) ?_) ?_) ?_) ?_) ?_) ?_) ?_) ?_) ?_) ?_) ?_) ?_) ?_) ?_) ?_) ?_) ?_) ?_) ?_) ?_) ?_) ?_) ?_) ?_) ?_) ?_
          · refine ⟨lq_cons ?_ (lq_nil)⟩
            refine fun o ho es vs f' S' hve hvp hf hx hK hE => ?_
            obtain rfl := Option.some.inj ho
            refine ⟨want_none rfl, fun _ _ => ?_, (fun _ h => by cases h), (fun h _ => by cases h), (fun h _ => by cases h)⟩
            have hF := fr_next (rfl) ((hx 7 (by kernel_rfl)).trans (by kernel_rfl : (_ : Value) = .pointer (some ⟨g23, 0, none⟩)))
            refine ls_fr hF ?_
            refine lv (.pointer (some ⟨g23, (0 + 1), none⟩)) ?_
            exact ls_finp (.pointer (some ⟨g23, (0 + 1), none⟩)) (congrArg (fun z => upd z 92 _) hF.symm) rfl
          · refine ⟨lq_cons ?_ (lq_nil)⟩
            refine fun o ho es vs f' S' hve hvp hf hx hK hE => ?_
            obtain rfl := Option.some.inj ho
            refine ⟨want_none rfl, fun _ _ => ?_, (fun _ h => by cases h), (fun h _ => by cases h), (fun h _ => by cases h)⟩
            have hF := fr_next (rfl) ((hf 0 92 (by kernel_rfl) rfl).trans (show vs 0 = .pointer (some ⟨g23, (0 + 1), none⟩) from hvp 0 (by kernel_rfl)))
            refine ls_fr hF ?_
            refine ls_load (a0 := ⟨g23, (0 + 1), none⟩) (v := .slice x12.1.1 t10.1.2.1.length x12.1.2) (de := (TypeDesc.slice 23)) rfl rfl (by kernel_rfl) rfl (by kernel_rfl) (by kernel_rfl) (by kernel_rfl) (fun w hs => (hs.var (k := 2) ((hK 2 (by rfl)).trans (by exact rfl)) (Sub4.trans (Sub4.all _) (Sub4.skip (n := 1) (len1 _) (Sub4.head _ _))))) ?_
            exact ls_finp (.slice x12.1.1 t10.1.2.1.length x12.1.2) (congrArg (fun z => upd z 93 _) hF.symm) rfl
          · refine ⟨lq_cons ?_ (lq_nil)⟩
            refine fun o ho es vs f' S' hve hvp hf hx hK hE => ?_
            obtain rfl := Option.some.inj ho
            refine ⟨want_none rfl, fun _ _ => ?_, (fun _ h => by cases h), (fun h _ => by cases h), (fun h _ => by cases h)⟩
            have hF := fr_next (rfl) ((hx 9 (by kernel_rfl)).trans (by kernel_rfl : (_ : Value) = .int .i64 x9_4))
            refine ls_fr hF ?_
            refine lv (.int .i64 x9_4) ?_
            exact ls_finp (.int .i64 x9_4) (congrArg (fun z => upd z 94 _) hF.symm) rfl
          · refine ⟨lq_cons ?_ (lq_nil)⟩
            refine fun o ho es vs f' S' hve hvp hf hx hK hE => ?_
            obtain rfl := Option.some.inj ho
            refine ⟨want_none rfl, fun _ _ => ?_, (fun _ h => by cases h), (fun h _ => by cases h), (fun h _ => by cases h)⟩
            have hF := fr_next (fr_next (rfl) ((hf 1 93 (by kernel_rfl) rfl).trans (show vs 1 = .slice x12.1.1 t10.1.2.1.length x12.1.2 from hvp 1 (by kernel_rfl)))) ((hf 2 94 (by kernel_rfl) rfl).trans (show vs 2 = .int .i64 x9_4 from hvp 2 (by kernel_rfl)))
            refine ls_fr hF ?_
            refine ls_idxv (Ec.sld 23 Int) (A := x12.1.1) (c := x12.1.2) (l := t10.1.2.1) (k := .i64) (i := x9_4) (z := 1) (ad := ad87) rfl rfl (by kernel_rfl) hA88 rfl (by kernel_rfl) (by kernel_rfl) (by kernel_rfl) (by kernel_rfl) q85 q86 ?_
            exact ls_finp (.pointer (some (ad87.add ((x9_4).toNat * 1)))) (congrArg (fun z => upd z 95 _) hF.symm) rfl
          · refine ⟨lq_cons ?_ (lq_nil)⟩
            refine fun o ho es vs f' S' hve hvp hf hx hK hE => ?_
            obtain rfl := Option.some.inj ho
            refine ⟨want_none rfl, fun _ _ => ?_, (fun _ h => by cases h), (fun h _ => by cases h), (fun h _ => by cases h)⟩
            have hF := fr_next (rfl) ((hf 3 95 (by kernel_rfl) rfl).trans (show vs 3 = .pointer (some (ad87.add ((x9_4).toNat * 1))) from hvp 3 (by kernel_rfl)))
            refine ls_fr hF ?_
            refine ls_load (a0 := (ad87.add ((x9_4).toNat * 1))) (v := .slice xq89.1 ((t10.1.2.1).getD (x9_4).toNat ([] : List Int)).length xq89.2) (de := (TypeDesc.slice 5)) rfl rfl (by kernel_rfl) rfl (by kernel_rfl) (by kernel_rfl) (by kernel_rfl) (fun w hs => (hs.old hq90).cell0) ?_
            exact ls_finp (.slice xq89.1 ((t10.1.2.1).getD (x9_4).toNat ([] : List Int)).length xq89.2) (congrArg (fun z => upd z 96 _) hF.symm) rfl
          · refine ⟨lq_cons ?_ (lq_nil)⟩
            refine fun o ho es vs f' S' hve hvp hf hx hK hE => ?_
            obtain rfl := Option.some.inj ho
            refine ⟨want_none rfl, fun _ _ => ?_, (fun _ h => by cases h), (fun h _ => by cases h), (fun h _ => by cases h)⟩
            have hF := fr_next (rfl) ((hf 4 96 (by kernel_rfl) rfl).trans (show vs 4 = .slice xq89.1 ((t10.1.2.1).getD (x9_4).toNat ([] : List Int)).length xq89.2 from hvp 4 (by kernel_rfl)))
            refine ls_fr hF ?_
            refine ls_str (A := xq89.1) (c := xq89.2) (e := 5) (l := ((t10.1.2.1).getD (x9_4).toNat ([] : List Int))) rfl rfl (by kernel_rfl) rfl (by kernel_rfl) (by kernel_rfl) (by kernel_rfl) (by kernel_rfl) (fun w hs => (hs.old xR91)) ?_
            refine ls_ren 97 (v := .string (strOfNums ((t10.1.2.1).getD (x9_4).toNat ([] : List Int)))) (v' := .string y93) (by kernel_rfl) (by rw [hy94]) ?_
            exact ls_finp (.string y93) ((upd_upd _ _ _ _).trans (congrArg (fun z => upd z 97 _) hF.symm)) rfl
          · refine ⟨lq_cons ?_ (lq_nil)⟩
            refine fun o ho es vs f' S' hve hvp hf hx hK hE => ?_
            obtain rfl := Option.some.inj ho
            refine ⟨want_none rfl, fun _ _ => ?_, (fun _ h => by cases h), (fun h _ => by cases h), (fun h _ => by cases h)⟩
            have hF := fr_next (rfl) ((hx 1 (by kernel_rfl)).trans (by kernel_rfl : (_ : Value) = .pointer (some ⟨g1, 0, none⟩)))
            refine ls_fr hF ?_
            refine lv (.pointer (some ⟨g1, (0 + 1), none⟩)) ?_
            exact ls_finp (.pointer (some ⟨g1, (0 + 1), none⟩)) (congrArg (fun z => upd z 98 _) hF.symm) rfl
          · refine ⟨lq_cons ?_ (lq_nil)⟩
            refine fun o ho es vs f' S' hve hvp hf hx hK hE => ?_
            obtain rfl := Option.some.inj ho
            refine ⟨want_none rfl, fun _ _ => ?_, (fun _ h => by cases h), (fun h _ => by cases h), (fun h _ => by cases h)⟩
            have hF := fr_next (rfl) ((hf 6 98 (by kernel_rfl) rfl).trans (show vs 6 = .pointer (some ⟨g1, (0 + 1), none⟩) from hvp 6 (by kernel_rfl)))
            refine ls_fr hF ?_
            refine ls_load (a0 := ⟨g1, (0 + 1), none⟩) (v := .slice A0_1 a0.2.1.length c0_1) (de := (TypeDesc.slice 23)) rfl rfl (by kernel_rfl) rfl (by kernel_rfl) (by kernel_rfl) (by kernel_rfl) (fun w hs => (hs.var (k := 0) ((hK 0 (by rfl)).trans (by exact rfl)) (Sub4.trans (Sub4.all _) (Sub4.skip (n := 1) (len1 _) (Sub4.head _ _))))) ?_
            exact ls_finp (.slice A0_1 a0.2.1.length c0_1) (congrArg (fun z => upd z 99 _) hF.symm) rfl
          · refine ⟨lq_cons ?_ (lq_nil)⟩
            refine fun o ho es vs f' S' hve hvp hf hx hK hE => ?_
            obtain rfl := Option.some.inj ho
            refine ⟨want_none rfl, fun _ _ => ?_, (fun _ h => by cases h), (fun h _ => by cases h), (fun h _ => by cases h)⟩
            have hF := fr_next (rfl) ((hx 9 (by kernel_rfl)).trans (by kernel_rfl : (_ : Value) = .int .i64 x9_4))
            refine ls_fr hF ?_
            refine lv (.int .i64 x9_4) ?_
            exact ls_finp (.int .i64 x9_4) (congrArg (fun z => upd z 100 _) hF.symm) rfl
          · refine ⟨lq_cons ?_ (lq_nil)⟩
            refine fun o ho es vs f' S' hve hvp hf hx hK hE => ?_
            obtain rfl := Option.some.inj ho
            refine ⟨want_none rfl, fun _ _ => ?_, (fun _ h => by cases h), (fun h _ => by cases h), (fun h _ => by cases h)⟩
            have hF := fr_next (fr_next (rfl) ((hf 7 99 (by kernel_rfl) rfl).trans (show vs 7 = .slice A0_1 a0.2.1.length c0_1 from hvp 7 (by kernel_rfl)))) ((hf 8 100 (by kernel_rfl) rfl).trans (show vs 8 = .int .i64 x9_4 from hvp 8 (by kernel_rfl)))
            refine ls_fr hF ?_
            refine ls_idxv (Ec.sld 23 Int) (A := A0_1) (c := c0_1) (l := a0.2.1) (k := .i64) (i := x9_4) (z := 1) (ad := ad96) rfl rfl (by kernel_rfl) hA97 rfl (by kernel_rfl) (by kernel_rfl) (by kernel_rfl) (by kernel_rfl) q85 q95 ?_
            exact ls_finp (.pointer (some (ad96.add ((x9_4).toNat * 1)))) (congrArg (fun z => upd z 101 _) hF.symm) rfl
          · refine ⟨lq_cons ?_ (lq_nil)⟩
            refine fun o ho es vs f' S' hve hvp hf hx hK hE => ?_
            obtain rfl := Option.some.inj ho
            refine ⟨want_none rfl, fun _ _ => ?_, (fun _ h => by cases h), (fun h _ => by cases h), (fun h _ => by cases h)⟩
            have hF := fr_next (rfl) ((hf 9 101 (by kernel_rfl) rfl).trans (show vs 9 = .pointer (some (ad96.add ((x9_4).toNat * 1))) from hvp 9 (by kernel_rfl)))
            refine ls_fr hF ?_
            refine ls_load (a0 := (ad96.add ((x9_4).toNat * 1))) (v := .slice xq98.1 ((a0.2.1).getD (x9_4).toNat ([] : List Int)).length xq98.2) (de := (TypeDesc.slice 5)) rfl rfl (by kernel_rfl) rfl (by kernel_rfl) (by kernel_rfl) (by kernel_rfl) (fun w hs => (hs.old (Ro.mono hok21 hle20 (Ro.mono hok7 hle6 hq99))).cell0) ?_
            exact ls_finp (.slice xq98.1 ((a0.2.1).getD (x9_4).toNat ([] : List Int)).length xq98.2) (congrArg (fun z => upd z 102 _) hF.symm) rfl
          · refine ⟨lq_cons ?_ (lq_nil)⟩
            refine fun o ho es vs f' S' hve hvp hf hx hK hE => ?_
            obtain rfl := Option.some.inj ho
            refine ⟨want_none rfl, fun _ _ => ?_, (fun _ h => by cases h), (fun h _ => by cases h), (fun h _ => by cases h)⟩
            have hF := fr_next (rfl) ((hf 10 102 (by kernel_rfl) rfl).trans (show vs 10 = .slice xq98.1 ((a0.2.1).getD (x9_4).toNat ([] : List Int)).length xq98.2 from hvp 10 (by kernel_rfl)))
            refine ls_fr hF ?_
            refine ls_str (A := xq98.1) (c := xq98.2) (e := 5) (l := ((a0.2.1).getD (x9_4).toNat ([] : List Int))) rfl rfl (by kernel_rfl) rfl (by kernel_rfl) (by kernel_rfl) (by kernel_rfl) (by kernel_rfl) (fun w hs => (hs.old (Ro.mono hok21 hle20 (Ro.mono hok7 hle6 xR100)))) ?_
            refine ls_ren 103 (v := .string (strOfNums ((a0.2.1).getD (x9_4).toNat ([] : List Int)))) (v' := .string y102) (by kernel_rfl) (by rw [hy103]) ?_
            exact ls_finp (.string y102) ((upd_upd _ _ _ _).trans (congrArg (fun z => upd z 103 _) hF.symm)) rfl
          · refine ⟨lq_cons ?_ (lq_nil)⟩
            refine fun o ho es vs f' S' hve hvp hf hx hK hE => ?_
            obtain rfl := Option.some.inj ho
            refine ⟨want_none rfl, fun _ _ => ?_, (fun _ h => by cases h), (fun h _ => by cases h), (fun h _ => by cases h)⟩
            have hF := fr_next (fr_next (rfl) ((hf 5 97 (by kernel_rfl) rfl).trans (show vs 5 = .string y93 from hvp 5 (by kernel_rfl)))) ((hf 11 103 (by kernel_rfl) rfl).trans (show vs 11 = .string y102 from hvp 11 (by kernel_rfl)))
            refine ls_fr hF ?_
            refine lv (.bool (!(y93.toList == y102.toList))) ?_
            refine ls_ren 104 (v := .bool (!(y93.toList == y102.toList))) (v' := .bool false) (by kernel_rfl) (congrArg Value.bool (show (!(y93.toList == y102.toList)) = false from congrArg Bool.not (q104))) ?_
            exact ls_finp (.bool false) ((upd_upd _ _ _ _).trans (congrArg (fun z => upd z 104 _) hF.symm)) rfl
          · refine ⟨lq_cons ?_ (lq_nil)⟩
            refine fun o ho es vs f' S' hve hvp hf hx hK hE => ?_
            obtain rfl := Option.some.inj ho
            refine ⟨want_none rfl, fun _ _ => ?_, (fun _ h => by cases h), (fun h _ => by cases h), (fun h _ => by cases h)⟩
            have hF := fr_next (rfl) ((hf 12 104 (by kernel_rfl) rfl).trans (show vs 12 = .bool false from hvp 12 (by kernel_rfl)))
            refine ls_fr hF ?_
            refine lv (.bool false) ?_
            exact ls_finp (.bool false) (congrArg (fun z => upd z 105 _) hF.symm) rfl
          · refine ⟨lq_cons ?_ (lq_nil)⟩
            refine fun o ho es vs f' S' hve hvp hf hx hK hE => ?_
            obtain rfl := Option.some.inj ho
            refine ⟨want_is (j := 13) (t := 105) rfl rfl (by kernel_rfl) ((hf 13 105 (by kernel_rfl) rfl).trans (show vs 13 = .bool false from hvp 13 (by kernel_rfl))) rfl, fun _ _ => ?_, (fun _ h => by cases h), (fun h _ => by cases h), (fun h _ => by cases h)⟩
            have hF := fr_next (fr_next (rfl) ((hx 7 (by kernel_rfl)).trans (by kernel_rfl : (_ : Value) = .pointer (some ⟨g23, 0, none⟩)))) ((hf 13 105 (by kernel_rfl) rfl).trans (show vs 13 = .bool false from hvp 13 (by kernel_rfl)))
            refine ls_fr hF ?_
            refine ls_loadagg (a := ⟨g23, 0, none⟩) (sub := ([Value.int .i64 t10.1.1] ++ ([Value.slice x12.1.1 t10.1.2.1.length x12.1.2] ++ ([Value.slice x12.2.1.1 t10.1.2.2.1.length x12.2.1.2] ++ [Value.slice x12.2.2.1 t10.1.2.2.2.length x12.2.2.2])))) rfl rfl (by kernel_rfl) rfl (by kernel_rfl) (by kernel_rfl) (by kernel_rfl) (len_app (len1 _) (len_app (len1 _) (len_app (len1 _) (len1 _)))) (fun w hs => (hs.vars (k := 2) ((hK 2 (by rfl)).trans (by exact rfl)) (Sub4.all _))) ?_
            exact ls_finp (.agg ⟨([Value.int .i64 t10.1.1] ++ ([Value.slice x12.1.1 t10.1.2.1.length x12.1.2] ++ ([Value.slice x12.2.1.1 t10.1.2.2.1.length x12.2.1.2] ++ [Value.slice x12.2.2.1 t10.1.2.2.2.length x12.2.2.2])))⟩) (congrArg (fun z => upd z 106 _) hF.symm) rfl
          · refine ⟨lq_cons ?_ (lq_nil)⟩
            refine fun o ho es vs f' S' hve hvp hf hx hK hE => ?_
            obtain rfl := Option.some.inj ho
            refine ⟨want_is (j := 13) (t := 105) rfl rfl (by kernel_rfl) ((hf 13 105 (by kernel_rfl) rfl).trans (show vs 13 = .bool false from hvp 13 (by kernel_rfl))) rfl, fun _ _ => ?_, (fun _ h => by cases h), (fun h _ => by cases h), (fun h _ => by cases h)⟩
            have hF := fr_next (fr_next (rfl) ((hx 1 (by kernel_rfl)).trans (by kernel_rfl : (_ : Value) = .pointer (some ⟨g1, 0, none⟩)))) ((hf 13 105 (by kernel_rfl) rfl).trans (show vs 13 = .bool false from hvp 13 (by kernel_rfl)))
            refine ls_fr hF ?_
            refine lv (.pointer (some ⟨g1, (0 + 1), none⟩)) ?_
            exact ls_finp (.pointer (some ⟨g1, (0 + 1), none⟩)) (congrArg (fun z => upd z 107 _) hF.symm) rfl
          · refine ⟨lq_cons ?_ (lq_nil)⟩
            refine fun o ho es vs f' S' hve hvp hf hx hK hE => ?_
            obtain rfl := Option.some.inj ho
            refine ⟨want_is (j := 13) (t := 105) rfl rfl (by kernel_rfl) ((hf 13 105 (by kernel_rfl) rfl).trans (show vs 13 = .bool false from hvp 13 (by kernel_rfl))) rfl, fun _ _ => ?_, (fun _ h => by cases h), (fun h _ => by cases h), (fun h _ => by cases h)⟩
            have hF := fr_next (fr_next (rfl) ((hf 13 105 (by kernel_rfl) rfl).trans (show vs 13 = .bool false from hvp 13 (by kernel_rfl)))) ((hf 15 107 (by kernel_rfl) rfl).trans (show vs 15 = .pointer (some ⟨g1, (0 + 1), none⟩) from hvp 15 (by kernel_rfl)))
            refine ls_fr hF ?_
            refine ls_load (a0 := ⟨g1, (0 + 1), none⟩) (v := .slice A0_1 a0.2.1.length c0_1) (de := (TypeDesc.slice 23)) rfl rfl (by kernel_rfl) rfl (by kernel_rfl) (by kernel_rfl) (by kernel_rfl) (fun w hs => (hs.var (k := 0) ((hK 0 (by rfl)).trans (by exact rfl)) (Sub4.trans (Sub4.all _) (Sub4.skip (n := 1) (len1 _) (Sub4.head _ _))))) ?_
            exact ls_finp (.slice A0_1 a0.2.1.length c0_1) (congrArg (fun z => upd z 108 _) hF.symm) rfl
          · refine ⟨lq_cons ?_ (lq_nil)⟩
            refine fun o ho es vs f' S' hve hvp hf hx hK hE => ?_
            obtain rfl := Option.some.inj ho
            refine ⟨want_is (j := 13) (t := 105) rfl rfl (by kernel_rfl) ((hf 13 105 (by kernel_rfl) rfl).trans (show vs 13 = .bool false from hvp 13 (by kernel_rfl))) rfl, fun _ _ => ?_, (fun _ h => by cases h), (fun h _ => by cases h), (fun h _ => by cases h)⟩
            have hF := fr_next (fr_next (rfl) ((hx 9 (by kernel_rfl)).trans (by kernel_rfl : (_ : Value) = .int .i64 x9_4))) ((hf 13 105 (by kernel_rfl) rfl).trans (show vs 13 = .bool false from hvp 13 (by kernel_rfl)))
            refine ls_fr hF ?_
            refine lv (.int .i64 x9_4) ?_
            exact ls_finp (.int .i64 x9_4) (congrArg (fun z => upd z 109 _) hF.symm) rfl
          · refine ⟨lq_cons ?_ (lq_nil)⟩
            refine fun o ho es vs f' S' hve hvp hf hx hK hE => ?_
            obtain rfl := Option.some.inj ho
            refine ⟨want_is (j := 13) (t := 105) rfl rfl (by kernel_rfl) ((hf 13 105 (by kernel_rfl) rfl).trans (show vs 13 = .bool false from hvp 13 (by kernel_rfl))) rfl, fun _ _ => ?_, (fun _ h => by cases h), (fun h _ => by cases h), (fun h _ => by cases h)⟩
            have hF := fr_next (fr_next (fr_next (rfl) ((hf 13 105 (by kernel_rfl) rfl).trans (show vs 13 = .bool false from hvp 13 (by kernel_rfl)))) ((hf 16 108 (by kernel_rfl) rfl).trans (show vs 16 = .slice A0_1 a0.2.1.length c0_1 from hvp 16 (by kernel_rfl)))) ((hf 17 109 (by kernel_rfl) rfl).trans (show vs 17 = .int .i64 x9_4 from hvp 17 (by kernel_rfl)))
            refine ls_fr hF ?_
            refine ls_idxv (Ec.sld 23 Int) (A := A0_1) (c := c0_1) (l := a0.2.1) (k := .i64) (i := x9_4) (z := 1) (ad := ad105) rfl rfl (by kernel_rfl) hA106 rfl (by kernel_rfl) (by kernel_rfl) (by kernel_rfl) (by kernel_rfl) q85 q95 ?_
            exact ls_finp (.pointer (some (ad105.add ((x9_4).toNat * 1)))) (congrArg (fun z => upd z 110 _) hF.symm) rfl
          · refine ⟨lq_cons ?_ (lq_nil)⟩
            refine fun o ho es vs f' S' hve hvp hf hx hK hE => ?_
            obtain rfl := Option.some.inj ho
            refine ⟨want_is (j := 13) (t := 105) rfl rfl (by kernel_rfl) ((hf 13 105 (by kernel_rfl) rfl).trans (show vs 13 = .bool false from hvp 13 (by kernel_rfl))) rfl, fun _ _ => ?_, (fun _ h => by cases h), (fun h _ => by cases h), (fun h _ => by cases h)⟩
            have hF := fr_next (fr_next (rfl) ((hf 13 105 (by kernel_rfl) rfl).trans (show vs 13 = .bool false from hvp 13 (by kernel_rfl)))) ((hf 18 110 (by kernel_rfl) rfl).trans (show vs 18 = .pointer (some (ad105.add ((x9_4).toNat * 1))) from hvp 18 (by kernel_rfl)))
            refine ls_fr hF ?_
            refine ls_load (a0 := (ad105.add ((x9_4).toNat * 1))) (v := .slice xq107.1 ((a0.2.1).getD (x9_4).toNat ([] : List Int)).length xq107.2) (de := (TypeDesc.slice 5)) rfl rfl (by kernel_rfl) rfl (by kernel_rfl) (by kernel_rfl) (by kernel_rfl) (fun w hs => (hs.old (Ro.mono hok21 hle20 (Ro.mono hok7 hle6 hq108))).cell0) ?_
            exact ls_finp (.slice xq107.1 ((a0.2.1).getD (x9_4).toNat ([] : List Int)).length xq107.2) (congrArg (fun z => upd z 111 _) hF.symm) rfl
          · refine ⟨lq_cons ?_ (lq_nil)⟩
            refine fun o ho es vs f' S' hve hvp hf hx hK hE => ?_
            obtain rfl := Option.some.inj ho
            obtain rfl := hE rfl
            refine ⟨want_is (j := 13) (t := 105) rfl rfl (by kernel_rfl) ((hf 13 105 (by kernel_rfl) rfl).trans (show vs 13 = .bool false from hvp 13 (by kernel_rfl))) rfl, (fun h _ => by cases h), (fun h _ => by cases h), fun _ _ => ?_, (fun _ h => by cases h)⟩
            have hF := fr_next (fr_next (fr_next (rfl) ((hf 13 105 (by kernel_rfl) rfl).trans (show vs 13 = .bool false from hvp 13 (by kernel_rfl)))) ((hf 14 106 (by kernel_rfl) rfl).trans (show vs 14 = .agg ⟨([Value.int .i64 t10.1.1] ++ ([Value.slice x12.1.1 t10.1.2.1.length x12.1.2] ++ ([Value.slice x12.2.1.1 t10.1.2.2.1.length x12.2.1.2] ++ [Value.slice x12.2.2.1 t10.1.2.2.2.length x12.2.2.2])))⟩ from hvp 14 (by kernel_rfl)))) ((hf 19 111 (by kernel_rfl) rfl).trans (show vs 19 = .slice xq107.1 ((a0.2.1).getD (x9_4).toNat ([] : List Int)).length xq107.2 from hvp 19 (by kernel_rfl)))
            refine ls_fr hF ?_
            refine ls_callb (fid := 9) (vals := #[.agg ⟨([Value.int .i64 t10.1.1] ++ ([Value.slice x12.1.1 t10.1.2.1.length x12.1.2] ++ ([Value.slice x12.2.1.1 t10.1.2.2.1.length x12.2.1.2] ++ [Value.slice x12.2.2.1 t10.1.2.2.2.length x12.2.2.2])))⟩, .slice xq107.1 ((a0.2.1).getD (x9_4).toNat ([] : List Int)).length xq107.2]) (X := Unit) (fun x => .int .i64 t111) (fun x => stl []) [] [] [] [] 3 rfl rfl (by kernel_rfl) (fun w => by kernel_rfl) trivial trivial (by decide) (fun w hs hb => leaf_Find.calls k4 x12.1.1 x12.1.2 x12.2.1.1 x12.2.1.2 x12.2.2.1 x12.2.2.2 (t10.1.1, t10.1.2.1, t10.1.2.2.1, t10.1.2.2.2) xq107.1 xq107.2 ((a0.2.1).getD (x9_4).toNat ([] : List Int)) t111 (lent bs19 w [] []) hb (hs.roS fR13 _ _) fC14 (hs.roS fR15 _ _) fC16 (hs.ro fR17 _ _) fC18 (hs.ro (Ro.mono hok21 hle20 (Ro.mono hok7 hle6 xR109)) _ _) xC110 hc112) ?_
            intro x113
            exact ls_fine (sput (sput s0 0 (some (Ck.var 27 g1 (([Value.int .i64 a0.1] ++ ([Value.slice A0_1 a0.2.1.length c0_1] ++ ([Value.slice A0_2 a0.2.2.1.length c0_2] ++ [Value.slice A0_3 a0.2.2.2.length c0_3]))))))) 2 (some (Ck.var 27 g23 (([Value.int .i64 t10.1.1] ++ ([Value.slice x12.1.1 t10.1.2.1.length x12.1.2] ++ ([Value.slice x12.2.1.1 t10.1.2.2.1.length x12.2.1.2] ++ [Value.slice x12.2.2.1 t10.1.2.2.2.length x12.2.2.2]))))))) (.int .i64 t111) (congrArg (fun z => upd z 112 _) hF.symm) (show (fun (es : Nat → Value) (S' : Sto) => ∃ (x113 : Unit), es 20 = .int .i64 t111 ∧ S' = sput (sput s0 0 (some (Ck.var 27 g1 (([Value.int .i64 a0.1] ++ ([Value.slice A0_1 a0.2.1.length c0_1] ++ ([Value.slice A0_2 a0.2.2.1.length c0_2] ++ [Value.slice A0_3 a0.2.2.2.length c0_3]))))))) 2 (some (Ck.var 27 g23 (([Value.int .i64 t10.1.1] ++ ([Value.slice x12.1.1 t10.1.2.1.length x12.1.2] ++ ([Value.slice x12.2.1.1 t10.1.2.2.1.length x12.2.1.2] ++ [Value.slice x12.2.2.1 t10.1.2.2.2.length x12.2.2.2]))))))) (upv es 20 (.int .i64 t111)) (sput (sput s0 0 (some (Ck.var 27 g1 (([Value.int .i64 a0.1] ++ ([Value.slice A0_1 a0.2.1.length c0_1] ++ ([Value.slice A0_2 a0.2.2.1.length c0_2] ++ [Value.slice A0_3 a0.2.2.2.length c0_3]))))))) 2 (some (Ck.var 27 g23 (([Value.int .i64 t10.1.1] ++ ([Value.slice x12.1.1 t10.1.2.1.length x12.1.2] ++ ([Value.slice x12.2.1.1 t10.1.2.2.1.length x12.2.1.2] ++ [Value.slice x12.2.2.1 t10.1.2.2.2.length x12.2.2.2]))))))) from ⟨x113, rfl, rfl⟩) rfl (keep_cons (by exact rfl) (keep_cons (by exact rfl) (keep_nil))) (sub_put (by exact rfl) (sub_put (by exact rfl) (sub_nil _)))
          · refine ⟨lq_cons ?_ (lq_nil)⟩
            refine fun o ho es vs f' S' hve hvp hf hx hK hE => ?_
            obtain rfl := Option.some.inj ho
            refine ⟨want_is (j := 13) (t := 105) rfl rfl (by kernel_rfl) ((hf 13 105 (by kernel_rfl) rfl).trans (show vs 13 = .bool false from hvp 13 (by kernel_rfl))) rfl, fun _ _ => ?_, (fun _ h => by cases h), (fun h _ => by cases h), (fun h _ => by cases h)⟩
            have hF := fr_next (fr_next (rfl) ((hx 9 (by kernel_rfl)).trans (by kernel_rfl : (_ : Value) = .int .i64 x9_4))) ((hf 13 105 (by kernel_rfl) rfl).trans (show vs 13 = .bool false from hvp 13 (by kernel_rfl)))
            refine ls_fr hF ?_
            refine lv (.int .i64 x9_4) ?_
            exact ls_finp (.int .i64 x9_4) (congrArg (fun z => upd z 113 _) hF.symm) rfl
          · refine ⟨lq_cons ?_ (lq_nil)⟩
            refine fun o ho es vs f' S' hve hvp hf hx hK hE => ?_
            obtain rfl := Option.some.inj ho
            refine ⟨want_is (j := 13) (t := 105) rfl rfl (by kernel_rfl) ((hf 13 105 (by kernel_rfl) rfl).trans (show vs 13 = .bool false from hvp 13 (by kernel_rfl))) rfl, fun _ _ => ?_, (fun _ h => by cases h), (fun h _ => by cases h), (fun h _ => by cases h)⟩
            have hF := fr_next (fr_next (fr_next (rfl) ((hf 13 105 (by kernel_rfl) rfl).trans (show vs 13 = .bool false from hvp 13 (by kernel_rfl)))) ((hf 20 112 (by kernel_rfl) rfl).trans (show vs 20 = .int .i64 t111 from hvp 20 (by kernel_rfl)))) ((hf 21 113 (by kernel_rfl) rfl).trans (show vs 21 = .int .i64 x9_4 from hvp 21 (by kernel_rfl)))
            refine ls_fr hF ?_
            refine lv (.bool (!decide (t111 = x9_4))) ?_
            refine ls_ren 114 (v := .bool (!decide (t111 = x9_4))) (v' := .bool false) (by kernel_rfl) (congrArg Value.bool (show (!decide (t111 = x9_4)) = false from congrArg Bool.not (dec_t q114))) ?_
            exact ls_finp (.bool false) ((upd_upd _ _ _ _).trans (congrArg (fun z => upd z 114 _) hF.symm)) rfl
          · refine ⟨lq_cons ?_ (lq_nil)⟩
            refine fun o ho es vs f' S' hve hvp hf hx hK hE => ?_
            obtain rfl := Option.some.inj ho
            refine ⟨want_none rfl, fun _ _ => ?_, (fun _ h => by cases h), (fun h _ => by cases h), (fun h _ => by cases h)⟩
            have hF := fr_next (fr_next (rfl) ((hf 13 105 (by kernel_rfl) rfl).trans (show vs 13 = .bool false from hvp 13 (by kernel_rfl)))) ((hf 22 114 (by kernel_rfl) rfl).trans (show vs 22 = .bool false from hvp 22 (by kernel_rfl)))
            refine ls_fr hF ?_
            refine lv (.bool false) ?_
            exact ls_finp (.bool false) (congrArg (fun z => upd z 115 _) hF.symm) rfl
          · refine ⟨lq_cons ?_ (lq_nil)⟩
            refine fun o ho es vs f' S' hve hvp hf hx hK hE => ?_
            obtain rfl := Option.some.inj ho
            refine ⟨want_none rfl, fun _ _ => ?_, (fun _ h => by cases h), (fun h _ => by cases h), (fun h _ => by cases h)⟩
            have hF := fr_next (rfl) ((hf 23 115 (by kernel_rfl) rfl).trans (show vs 23 = .bool false from hvp 23 (by kernel_rfl)))
            refine ls_fr hF ?_
            refine lv (.bool false) ?_
            exact ls_finp (.bool false) (congrArg (fun z => upd z 116 _) hF.symm) rfl
          · refine ⟨lq_cons ?_ (lq_nil)⟩
            refine fun o ho es vs f' S' hve hvp hf hx hK hE => ?_
            obtain rfl := Option.some.inj ho
            refine ⟨want_is (j := 24) (t := 116) rfl rfl (by kernel_rfl) ((hf 24 116 (by kernel_rfl) rfl).trans (show vs 24 = .bool false from hvp 24 (by kernel_rfl))) rfl, fun _ _ => ?_, (fun _ h => by cases h), (fun h _ => by cases h), (fun h _ => by cases h)⟩
            have hF := fr_next (fr_next (rfl) ((hx 7 (by kernel_rfl)).trans (by kernel_rfl : (_ : Value) = .pointer (some ⟨g23, 0, none⟩)))) ((hf 24 116 (by kernel_rfl) rfl).trans (show vs 24 = .bool false from hvp 24 (by kernel_rfl)))
            refine ls_fr hF ?_
            refine ls_loadagg (a := ⟨g23, 0, none⟩) (sub := ([Value.int .i64 t10.1.1] ++ ([Value.slice x12.1.1 t10.1.2.1.length x12.1.2] ++ ([Value.slice x12.2.1.1 t10.1.2.2.1.length x12.2.1.2] ++ [Value.slice x12.2.2.1 t10.1.2.2.2.length x12.2.2.2])))) rfl rfl (by kernel_rfl) rfl (by kernel_rfl) (by kernel_rfl) (by kernel_rfl) (len_app (len1 _) (len_app (len1 _) (len_app (len1 _) (len1 _)))) (fun w hs => (hs.vars (k := 2) ((hK 2 (by rfl)).trans (by exact rfl)) (Sub4.all _))) ?_
            exact ls_finp (.agg ⟨([Value.int .i64 t10.1.1] ++ ([Value.slice x12.1.1 t10.1.2.1.length x12.1.2] ++ ([Value.slice x12.2.1.1 t10.1.2.2.1.length x12.2.1.2] ++ [Value.slice x12.2.2.1 t10.1.2.2.2.length x12.2.2.2])))⟩) (congrArg (fun z => upd z 117 _) hF.symm) rfl
          · refine ⟨lq_cons ?_ (lq_cons ?_ (lq_nil))⟩
            · refine fun o ho es vs f' S' hve hvp hf hx hK hE => ?_
              obtain rfl := Option.some.inj ho
              obtain ⟨x113, hv20, rfl⟩ := hE rfl
              refine ⟨want_is (j := 24) (t := 116) rfl rfl (by kernel_rfl) ((hf 24 116 (by kernel_rfl) rfl).trans (show vs 24 = .bool false from hvp 24 (by kernel_rfl))) rfl, (fun h _ => by cases h), (fun h _ => by cases h), fun _ _ => ?_, (fun _ h => by cases h)⟩
              have hF := fr_next (rfl) ((hf 24 116 (by kernel_rfl) rfl).trans (show vs 24 = .bool false from hvp 24 (by kernel_rfl)))
              refine ls_fr hF ?_
              refine ls_lit (Ec.int 5 .u8) 3 rfl rfl (by kernel_rfl) ([] : List Int) (by exact of_decide_eq_true (by kernel_rfl)) (fun w => by kernel_rfl) ?_
              intro g115
              exact ls_fine (sput (sput (sput s0 0 (some (Ck.var 27 g1 (([Value.int .i64 a0.1] ++ ([Value.slice A0_1 a0.2.1.length c0_1] ++ ([Value.slice A0_2 a0.2.2.1.length c0_2] ++ [Value.slice A0_3 a0.2.2.2.length c0_3]))))))) 2 (some (Ck.var 27 g23 (([Value.int .i64 t10.1.1] ++ ([Value.slice x12.1.1 t10.1.2.1.length x12.1.2] ++ ([Value.slice x12.2.1.1 t10.1.2.2.1.length x12.2.1.2] ++ [Value.slice x12.2.2.1 t10.1.2.2.2.length x12.2.2.2]))))))) 3 (some (Ck.sl (Ec.int 5 .u8) (some ⟨g115, 0, none⟩) (([] : List Int).length) ([] : List Int)))) (.slice (some ⟨g115, 0, none⟩) ([] : List Int).length ([] : List Int).length) (congrArg (fun z => upd z 118 _) hF.symm) (show (fun (es : Nat → Value) (S' : Sto) => ∃ (x113 : Unit) (g115 : Nat), es 20 = .int .i64 t111 ∧ es 26 = .slice (some ⟨g115, 0, none⟩) ([] : List Int).length ([] : List Int).length ∧ S' = sput (sput (sput s0 0 (some (Ck.var 27 g1 (([Value.int .i64 a0.1] ++ ([Value.slice A0_1 a0.2.1.length c0_1] ++ ([Value.slice A0_2 a0.2.2.1.length c0_2] ++ [Value.slice A0_3 a0.2.2.2.length c0_3]))))))) 2 (some (Ck.var 27 g23 (([Value.int .i64 t10.1.1] ++ ([Value.slice x12.1.1 t10.1.2.1.length x12.1.2] ++ ([Value.slice x12.2.1.1 t10.1.2.2.1.length x12.2.1.2] ++ [Value.slice x12.2.2.1 t10.1.2.2.2.length x12.2.2.2]))))))) 3 (some (Ck.sl (Ec.int 5 .u8) (some ⟨g115, 0, none⟩) (([] : List Int).length) ([] : List Int)))) (upv es 26 (.slice (some ⟨g115, 0, none⟩) ([] : List Int).length ([] : List Int).length)) (sput (sput (sput s0 0 (some (Ck.var 27 g1 (([Value.int .i64 a0.1] ++ ([Value.slice A0_1 a0.2.1.length c0_1] ++ ([Value.slice A0_2 a0.2.2.1.length c0_2] ++ [Value.slice A0_3 a0.2.2.2.length c0_3]))))))) 2 (some (Ck.var 27 g23 (([Value.int .i64 t10.1.1] ++ ([Value.slice x12.1.1 t10.1.2.1.length x12.1.2] ++ ([Value.slice x12.2.1.1 t10.1.2.2.1.length x12.2.1.2] ++ [Value.slice x12.2.2.1 t10.1.2.2.2.length x12.2.2.2]))))))) 3 (some (Ck.sl (Ec.int 5 .u8) (some ⟨g115, 0, none⟩) (([] : List Int).length) ([] : List Int)))) from ⟨x113, g115, hv20, rfl, rfl⟩) rfl (keep_cons (by exact rfl) (keep_cons (by exact rfl) (keep_nil))) (sub_put (by exact rfl) (sub_put (by exact rfl) (sub_put (by exact rfl) (sub_nil _))))
            refine fun o ho es vs f' S' hve hvp hf hx hK hE => ?_
            obtain rfl := Option.some.inj ho
            obtain ⟨x113, g125, hv20, hv33, rfl⟩ := hE rfl
            refine ⟨want_is (j := 24) (t := 116) rfl rfl (by kernel_rfl) ((hf 24 116 (by kernel_rfl) rfl).trans (show vs 24 = .bool false from hvp 24 (by kernel_rfl))) rfl, (fun h _ => by cases h), (fun h _ => by cases h), fun _ _ => ?_, (fun _ h => by cases h)⟩
            have hF := fr_next (rfl) ((hf 24 116 (by kernel_rfl) rfl).trans (show vs 24 = .bool false from hvp 24 (by kernel_rfl)))
            refine ls_fr hF ?_
            refine ls_lit (Ec.int 5 .u8) 3 rfl rfl (by kernel_rfl) ([] : List Int) (by exact of_decide_eq_true (by kernel_rfl)) (fun w => by kernel_rfl) ?_
            intro g115
            exact ls_fine (sput (sput (sput (sput s0 0 (some (Ck.var 27 g1 (([Value.int .i64 a0.1] ++ ([Value.slice A0_1 a0.2.1.length c0_1] ++ ([Value.slice A0_2 a0.2.2.1.length c0_2] ++ [Value.slice A0_3 a0.2.2.2.length c0_3]))))))) 2 (some (Ck.var 27 g23 (([Value.int .i64 t10.1.1] ++ ([Value.slice x12.1.1 t10.1.2.1.length x12.1.2] ++ ([Value.slice x12.2.1.1 t10.1.2.2.1.length x12.2.1.2] ++ [Value.slice x12.2.2.1 t10.1.2.2.2.length x12.2.2.2]))))))) 3 (some (Ck.sl (Ec.int 5 .u8) (some ⟨g115, 0, none⟩) (([] : List Int).length) ([] : List Int)))) 4 (some (Ck.sl (Ec.int 5 .u8) (some ⟨g125, 0, none⟩) ([(0 : Int)].length) ([(0 : Int)])))) (.slice (some ⟨g115, 0, none⟩) ([] : List Int).length ([] : List Int).length) (congrArg (fun z => upd z 118 _) hF.symm) (show (fun (es : Nat → Value) (S' : Sto) => ∃ (x113 : Unit) (g115 : Nat) (g125 : Nat), es 20 = .int .i64 t111 ∧ es 26 = .slice (some ⟨g115, 0, none⟩) ([] : List Int).length ([] : List Int).length ∧ es 33 = .slice (some ⟨g125, 0, none⟩) [(0 : Int)].length [(0 : Int)].length ∧ S' = sput (sput (sput (sput s0 0 (some (Ck.var 27 g1 (([Value.int .i64 a0.1] ++ ([Value.slice A0_1 a0.2.1.length c0_1] ++ ([Value.slice A0_2 a0.2.2.1.length c0_2] ++ [Value.slice A0_3 a0.2.2.2.length c0_3]))))))) 2 (some (Ck.var 27 g23 (([Value.int .i64 t10.1.1] ++ ([Value.slice x12.1.1 t10.1.2.1.length x12.1.2] ++ ([Value.slice x12.2.1.1 t10.1.2.2.1.length x12.2.1.2] ++ [Value.slice x12.2.2.1 t10.1.2.2.2.length x12.2.2.2]))))))) 3 (some (Ck.sl (Ec.int 5 .u8) (some ⟨g115, 0, none⟩) (([] : List Int).length) ([] : List Int)))) 4 (some (Ck.sl (Ec.int 5 .u8) (some ⟨g125, 0, none⟩) ([(0 : Int)].length) ([(0 : Int)])))) (upv es 26 (.slice (some ⟨g115, 0, none⟩) ([] : List Int).length ([] : List Int).length)) (sput (sput (sput (sput s0 0 (some (Ck.var 27 g1 (([Value.int .i64 a0.1] ++ ([Value.slice A0_1 a0.2.1.length c0_1] ++ ([Value.slice A0_2 a0.2.2.1.length c0_2] ++ [Value.slice A0_3 a0.2.2.2.length c0_3]))))))) 2 (some (Ck.var 27 g23 (([Value.int .i64 t10.1.1] ++ ([Value.slice x12.1.1 t10.1.2.1.length x12.1.2] ++ ([Value.slice x12.2.1.1 t10.1.2.2.1.length x12.2.1.2] ++ [Value.slice x12.2.2.1 t10.1.2.2.2.length x12.2.2.2]))))))) 3 (some (Ck.sl (Ec.int 5 .u8) (some ⟨g115, 0, none⟩) (([] : List Int).length) ([] : List Int)))) 4 (some (Ck.sl (Ec.int 5 .u8) (some ⟨g125, 0, none⟩) ([(0 : Int)].length) ([(0 : Int)])))) from ⟨x113, g115, g125, hv20, rfl, hv33, rfl⟩) rfl (keep_cons (by exact rfl) (keep_cons (by exact rfl) (keep_nil))) (sub_put (by exact rfl) (sub_put (by exact rfl) (sub_put (by exact rfl) (sub_put (by exact rfl) (sub_nil _)))))
          · refine ⟨lq_cons ?_ (lq_nil)⟩
            refine fun o ho es vs f' S' hve hvp hf hx hK hE => ?_
            obtain rfl := Option.some.inj ho
            refine ⟨want_is (j := 24) (t := 116) rfl rfl (by kernel_rfl) ((hf 24 116 (by kernel_rfl) rfl).trans (show vs 24 = .bool false from hvp 24 (by kernel_rfl))) rfl, fun _ _ => ?_, (fun _ h => by cases h), (fun h _ => by cases h), (fun h _ => by cases h)⟩
            have hF := fr_next (fr_next (rfl) ((hx 1 (by kernel_rfl)).trans (by kernel_rfl : (_ : Value) = .pointer (some ⟨g1, 0, none⟩)))) ((hf 24 116 (by kernel_rfl) rfl).trans (show vs 24 = .bool false from hvp 24 (by kernel_rfl)))
            refine ls_fr hF ?_
            refine lv (.pointer (some ⟨g1, (0 + 1), none⟩)) ?_
            exact ls_finp (.pointer (some ⟨g1, (0 + 1), none⟩)) (congrArg (fun z => upd z 119 _) hF.symm) rfl
          · refine ⟨lq_cons ?_ (lq_nil)⟩
            refine fun o ho es vs f' S' hve hvp hf hx hK hE => ?_
            obtain rfl := Option.some.inj ho
            refine ⟨want_is (j := 24) (t := 116) rfl rfl (by kernel_rfl) ((hf 24 116 (by kernel_rfl) rfl).trans (show vs 24 = .bool false from hvp 24 (by kernel_rfl))) rfl, fun _ _ => ?_, (fun _ h => by cases h), (fun h _ => by cases h), (fun h _ => by cases h)⟩
            have hF := fr_next (fr_next (rfl) ((hf 24 116 (by kernel_rfl) rfl).trans (show vs 24 = .bool false from hvp 24 (by kernel_rfl)))) ((hf 27 119 (by kernel_rfl) rfl).trans (show vs 27 = .pointer (some ⟨g1, (0 + 1), none⟩) from hvp 27 (by kernel_rfl)))
            refine ls_fr hF ?_
            refine ls_load (a0 := ⟨g1, (0 + 1), none⟩) (v := .slice A0_1 a0.2.1.length c0_1) (de := (TypeDesc.slice 23)) rfl rfl (by kernel_rfl) rfl (by kernel_rfl) (by kernel_rfl) (by kernel_rfl) (fun w hs => (hs.var (k := 0) ((hK 0 (by rfl)).trans (by exact rfl)) (Sub4.trans (Sub4.all _) (Sub4.skip (n := 1) (len1 _) (Sub4.head _ _))))) ?_
            exact ls_finp (.slice A0_1 a0.2.1.length c0_1) (congrArg (fun z => upd z 120 _) hF.symm) rfl
          · refine ⟨lq_cons ?_ (lq_nil)⟩
            refine fun o ho es vs f' S' hve hvp hf hx hK hE => ?_
            obtain rfl := Option.some.inj ho
            refine ⟨want_is (j := 24) (t := 116) rfl rfl (by kernel_rfl) ((hf 24 116 (by kernel_rfl) rfl).trans (show vs 24 = .bool false from hvp 24 (by kernel_rfl))) rfl, fun _ _ => ?_, (fun _ h => by cases h), (fun h _ => by cases h), (fun h _ => by cases h)⟩
            have hF := fr_next (fr_next (rfl) ((hx 9 (by kernel_rfl)).trans (by kernel_rfl : (_ : Value) = .int .i64 x9_4))) ((hf 24 116 (by kernel_rfl) rfl).trans (show vs 24 = .bool false from hvp 24 (by kernel_rfl)))
            refine ls_fr hF ?_
            refine lv (.int .i64 x9_4) ?_
            exact ls_finp (.int .i64 x9_4) (congrArg (fun z => upd z 121 _) hF.symm) rfl
          · refine ⟨lq_cons ?_ (lq_nil)⟩
            refine fun o ho es vs f' S' hve hvp hf hx hK hE => ?_
            obtain rfl := Option.some.inj ho
            refine ⟨want_is (j := 24) (t := 116) rfl rfl (by kernel_rfl) ((hf 24 116 (by kernel_rfl) rfl).trans (show vs 24 = .bool false from hvp 24 (by kernel_rfl))) rfl, fun _ _ => ?_, (fun _ h => by cases h), (fun h _ => by cases h), (fun h _ => by cases h)⟩
            have hF := fr_next (fr_next (fr_next (rfl) ((hf 24 116 (by kernel_rfl) rfl).trans (show vs 24 = .bool false from hvp 24 (by kernel_rfl)))) ((hf 28 120 (by kernel_rfl) rfl).trans (show vs 28 = .slice A0_1 a0.2.1.length c0_1 from hvp 28 (by kernel_rfl)))) ((hf 29 121 (by kernel_rfl) rfl).trans (show vs 29 = .int .i64 x9_4 from hvp 29 (by kernel_rfl)))
            refine ls_fr hF ?_
            refine ls_idxv (Ec.sld 23 Int) (A := A0_1) (c := c0_1) (l := a0.2.1) (k := .i64) (i := x9_4) (z := 1) (ad := ad116) rfl rfl (by kernel_rfl) hA117 rfl (by kernel_rfl) (by kernel_rfl) (by kernel_rfl) (by kernel_rfl) q85 q95 ?_
            exact ls_finp (.pointer (some (ad116.add ((x9_4).toNat * 1)))) (congrArg (fun z => upd z 122 _) hF.symm) rfl
          · refine ⟨lq_cons ?_ (lq_nil)⟩
            refine fun o ho es vs f' S' hve hvp hf hx hK hE => ?_
            obtain rfl := Option.some.inj ho
            refine ⟨want_is (j := 24) (t := 116) rfl rfl (by kernel_rfl) ((hf 24 116 (by kernel_rfl) rfl).trans (show vs 24 = .bool false from hvp 24 (by kernel_rfl))) rfl, fun _ _ => ?_, (fun _ h => by cases h), (fun h _ => by cases h), (fun h _ => by cases h)⟩
            have hF := fr_next (fr_next (rfl) ((hf 24 116 (by kernel_rfl) rfl).trans (show vs 24 = .bool false from hvp 24 (by kernel_rfl)))) ((hf 30 122 (by kernel_rfl) rfl).trans (show vs 30 = .pointer (some (ad116.add ((x9_4).toNat * 1))) from hvp 30 (by kernel_rfl)))
            refine ls_fr hF ?_
            refine ls_load (a0 := (ad116.add ((x9_4).toNat * 1))) (v := .slice xq118.1 ((a0.2.1).getD (x9_4).toNat ([] : List Int)).length xq118.2) (de := (TypeDesc.slice 5)) rfl rfl (by kernel_rfl) rfl (by kernel_rfl) (by kernel_rfl) (by kernel_rfl) (fun w hs => (hs.old (Ro.mono hok21 hle20 (Ro.mono hok7 hle6 hq119))).cell0) ?_
            exact ls_finp (.slice xq118.1 ((a0.2.1).getD (x9_4).toNat ([] : List Int)).length xq118.2) (congrArg (fun z => upd z 123 _) hF.symm) rfl
          · refine ⟨lq_cons ?_ (lq_cons ?_ (lq_nil))⟩
            · refine fun o ho es vs f' S' hve hvp hf hx hK hE => ?_
              obtain rfl := Option.some.inj ho
              obtain ⟨x113, g115, hv20, hv26, rfl⟩ := hE rfl
              refine ⟨want_is (j := 24) (t := 116) rfl rfl (by kernel_rfl) ((hf 24 116 (by kernel_rfl) rfl).trans (show vs 24 = .bool false from hvp 24 (by kernel_rfl))) rfl, (fun h _ => by cases h), (fun h _ => by cases h), fun _ _ => ?_, (fun _ h => by cases h)⟩
              have hF := fr_next (fr_next (fr_next (rfl) ((hf 24 116 (by kernel_rfl) rfl).trans (show vs 24 = .bool false from hvp 24 (by kernel_rfl)))) (((hf 26 118 (by kernel_rfl) rfl).trans (show vs 26 = es 26 from hvp 26 (by kernel_rfl))).trans hv26)) ((hf 31 123 (by kernel_rfl) rfl).trans (show vs 31 = .slice xq118.1 ((a0.2.1).getD (x9_4).toNat ([] : List Int)).length xq118.2 from hvp 31 (by kernel_rfl)))
              refine ls_fr hF ?_
              refine ls_app (Ec.int 5 .u8) (A := (some ⟨g115, 0, none⟩)) (c := ([] : List Int).length) (B := xq118.1) (cb := xq118.2) (z := (Value.int .u8 0)) (l := ([] : List Int)) (m := ((a0.2.1).getD (x9_4).toNat ([] : List Int))) (bytes := 1) 3 rfl rfl (by kernel_rfl) rfl (by kernel_rfl) (by exact rfl) (by kernel_rfl) (fun w hs => (hs.old (Ro.mono hok21 hle20 (Ro.mono hok7 hle6 xR120)))) (by kernel_rfl) (by kernel_rfl) rfl (by decide) q122 ?_
              intro xA123 xc124
              exact ls_fine (sput (sput (sput s0 0 (some (Ck.var 27 g1 (([Value.int .i64 a0.1] ++ ([Value.slice A0_1 a0.2.1.length c0_1] ++ ([Value.slice A0_2 a0.2.2.1.length c0_2] ++ [Value.slice A0_3 a0.2.2.2.length c0_3]))))))) 2 (some (Ck.var 27 g23 (([Value.int .i64 t10.1.1] ++ ([Value.slice x12.1.1 t10.1.2.1.length x12.1.2] ++ ([Value.slice x12.2.1.1 t10.1.2.2.1.length x12.2.1.2] ++ [Value.slice x12.2.2.1 t10.1.2.2.2.length x12.2.2.2]))))))) 3 (some (Ck.sl (Ec.int 5 .u8) xA123 xc124 (([] : List Int) ++ ((a0.2.1).getD (x9_4).toNat ([] : List Int)))))) (.slice xA123 (([] : List Int) ++ ((a0.2.1).getD (x9_4).toNat ([] : List Int))).length xc124) (congrArg (fun z => upd z 124 _) hF.symm) (show (fun (es : Nat → Value) (S' : Sto) => ∃ (x113 : Unit) (g115 : Nat) (xA123 : Option Addr) (xc124 : Nat), es 20 = .int .i64 t111 ∧ es 26 = .slice (some ⟨g115, 0, none⟩) ([] : List Int).length ([] : List Int).length ∧ es 32 = .slice xA123 (([] : List Int) ++ ((a0.2.1).getD (x9_4).toNat ([] : List Int))).length xc124 ∧ S' = sput (sput (sput s0 0 (some (Ck.var 27 g1 (([Value.int .i64 a0.1] ++ ([Value.slice A0_1 a0.2.1.length c0_1] ++ ([Value.slice A0_2 a0.2.2.1.length c0_2] ++ [Value.slice A0_3 a0.2.2.2.length c0_3]))))))) 2 (some (Ck.var 27 g23 (([Value.int .i64 t10.1.1] ++ ([Value.slice x12.1.1 t10.1.2.1.length x12.1.2] ++ ([Value.slice x12.2.1.1 t10.1.2.2.1.length x12.2.1.2] ++ [Value.slice x12.2.2.1 t10.1.2.2.2.length x12.2.2.2]))))))) 3 (some (Ck.sl (Ec.int 5 .u8) xA123 xc124 (([] : List Int) ++ ((a0.2.1).getD (x9_4).toNat ([] : List Int)))))) (upv es 32 (.slice xA123 (([] : List Int) ++ ((a0.2.1).getD (x9_4).toNat ([] : List Int))).length xc124)) (sput (sput (sput s0 0 (some (Ck.var 27 g1 (([Value.int .i64 a0.1] ++ ([Value.slice A0_1 a0.2.1.length c0_1] ++ ([Value.slice A0_2 a0.2.2.1.length c0_2] ++ [Value.slice A0_3 a0.2.2.2.length c0_3]))))))) 2 (some (Ck.var 27 g23 (([Value.int .i64 t10.1.1] ++ ([Value.slice x12.1.1 t10.1.2.1.length x12.1.2] ++ ([Value.slice x12.2.1.1 t10.1.2.2.1.length x12.2.1.2] ++ [Value.slice x12.2.2.1 t10.1.2.2.2.length x12.2.2.2]))))))) 3 (some (Ck.sl (Ec.int 5 .u8) xA123 xc124 (([] : List Int) ++ ((a0.2.1).getD (x9_4).toNat ([] : List Int)))))) from ⟨x113, g115, xA123, xc124, hv20, hv26, rfl, rfl⟩) rfl (keep_cons (by exact rfl) (keep_cons (by exact rfl) (keep_nil))) (sub_put (by exact rfl) (sub_put (by exact rfl) (sub_put (by exact rfl) (sub_nil _))))
            refine fun o ho es vs f' S' hve hvp hf hx hK hE => ?_
            obtain rfl := Option.some.inj ho
            obtain ⟨x113, g115, g125, hv20, hv26, hv33, rfl⟩ := hE rfl
            refine ⟨want_is (j := 24) (t := 116) rfl rfl (by kernel_rfl) ((hf 24 116 (by kernel_rfl) rfl).trans (show vs 24 = .bool false from hvp 24 (by kernel_rfl))) rfl, (fun h _ => by cases h), (fun h _ => by cases h), fun _ _ => ?_, (fun _ h => by cases h)⟩
            have hF := fr_next (fr_next (fr_next (rfl) ((hf 24 116 (by kernel_rfl) rfl).trans (show vs 24 = .bool false from hvp 24 (by kernel_rfl)))) (((hf 26 118 (by kernel_rfl) rfl).trans (show vs 26 = es 26 from hvp 26 (by kernel_rfl))).trans hv26)) ((hf 31 123 (by kernel_rfl) rfl).trans (show vs 31 = .slice xq118.1 ((a0.2.1).getD (x9_4).toNat ([] : List Int)).length xq118.2 from hvp 31 (by kernel_rfl)))
            refine ls_fr hF ?_
            refine ls_app (Ec.int 5 .u8) (A := (some ⟨g115, 0, none⟩)) (c := ([] : List Int).length) (B := xq118.1) (cb := xq118.2) (z := (Value.int .u8 0)) (l := ([] : List Int)) (m := ((a0.2.1).getD (x9_4).toNat ([] : List Int))) (bytes := 1) 3 rfl rfl (by kernel_rfl) rfl (by kernel_rfl) (by exact rfl) (by kernel_rfl) (fun w hs => (hs.old (Ro.mono hok21 hle20 (Ro.mono hok7 hle6 xR120)))) (by kernel_rfl) (by kernel_rfl) rfl (by decide) q122 ?_
            intro xA123 xc124
            exact ls_fine (sput (sput (sput (sput s0 0 (some (Ck.var 27 g1 (([Value.int .i64 a0.1] ++ ([Value.slice A0_1 a0.2.1.length c0_1] ++ ([Value.slice A0_2 a0.2.2.1.length c0_2] ++ [Value.slice A0_3 a0.2.2.2.length c0_3]))))))) 2 (some (Ck.var 27 g23 (([Value.int .i64 t10.1.1] ++ ([Value.slice x12.1.1 t10.1.2.1.length x12.1.2] ++ ([Value.slice x12.2.1.1 t10.1.2.2.1.length x12.2.1.2] ++ [Value.slice x12.2.2.1 t10.1.2.2.2.length x12.2.2.2]))))))) 3 (some (Ck.sl (Ec.int 5 .u8) xA123 xc124 (([] : List Int) ++ ((a0.2.1).getD (x9_4).toNat ([] : List Int)))))) 4 (some (Ck.sl (Ec.int 5 .u8) (some ⟨g125, 0, none⟩) ([(0 : Int)].length) ([(0 : Int)])))) (.slice xA123 (([] : List Int) ++ ((a0.2.1).getD (x9_4).toNat ([] : List Int))).length xc124) (congrArg (fun z => upd z 124 _) hF.symm) (show (fun (es : Nat → Value) (S' : Sto) => ∃ (x113 : Unit) (g115 : Nat) (xA123 : Option Addr) (xc124 : Nat) (g125 : Nat), es 20 = .int .i64 t111 ∧ es 26 = .slice (some ⟨g115, 0, none⟩) ([] : List Int).length ([] : List Int).length ∧ es 32 = .slice xA123 (([] : List Int) ++ ((a0.2.1).getD (x9_4).toNat ([] : List Int))).length xc124 ∧ es 33 = .slice (some ⟨g125, 0, none⟩) [(0 : Int)].length [(0 : Int)].length ∧ S' = sput (sput (sput (sput s0 0 (some (Ck.var 27 g1 (([Value.int .i64 a0.1] ++ ([Value.slice A0_1 a0.2.1.length c0_1] ++ ([Value.slice A0_2 a0.2.2.1.length c0_2] ++ [Value.slice A0_3 a0.2.2.2.length c0_3]))))))) 2 (some (Ck.var 27 g23 (([Value.int .i64 t10.1.1] ++ ([Value.slice x12.1.1 t10.1.2.1.length x12.1.2] ++ ([Value.slice x12.2.1.1 t10.1.2.2.1.length x12.2.1.2] ++ [Value.slice x12.2.2.1 t10.1.2.2.2.length x12.2.2.2]))))))) 3 (some (Ck.sl (Ec.int 5 .u8) xA123 xc124 (([] : List Int) ++ ((a0.2.1).getD (x9_4).toNat ([] : List Int)))))) 4 (some (Ck.sl (Ec.int 5 .u8) (some ⟨g125, 0, none⟩) ([(0 : Int)].length) ([(0 : Int)])))) (upv es 32 (.slice xA123 (([] : List Int) ++ ((a0.2.1).getD (x9_4).toNat ([] : List Int))).length xc124)) (sput (sput (sput (sput s0 0 (some (Ck.var 27 g1 (([Value.int .i64 a0.1] ++ ([Value.slice A0_1 a0.2.1.length c0_1] ++ ([Value.slice A0_2 a0.2.2.1.length c0_2] ++ [Value.slice A0_3 a0.2.2.2.length c0_3]))))))) 2 (some (Ck.var 27 g23 (([Value.int .i64 t10.1.1] ++ ([Value.slice x12.1.1 t10.1.2.1.length x12.1.2] ++ ([Value.slice x12.2.1.1 t10.1.2.2.1.length x12.2.1.2] ++ [Value.slice x12.2.2.1 t10.1.2.2.2.length x12.2.2.2]))))))) 3 (some (Ck.sl (Ec.int 5 .u8) xA123 xc124 (([] : List Int) ++ ((a0.2.1).getD (x9_4).toNat ([] : List Int)))))) 4 (some (Ck.sl (Ec.int 5 .u8) (some ⟨g125, 0, none⟩) ([(0 : Int)].length) ([(0 : Int)])))) from ⟨x113, g115, xA123, xc124, g125, hv20, hv26, rfl, hv33, rfl⟩) rfl (keep_cons (by exact rfl) (keep_cons (by exact rfl) (keep_nil))) (sub_put (by exact rfl) (sub_put (by exact rfl) (sub_put (by exact rfl) (sub_put (by exact rfl) (sub_nil _)))))
          · refine ⟨lq_cons ?_ (lq_cons ?_ (lq_cons ?_ (lq_nil)))⟩
            · refine fun o ho es vs f' S' hve hvp hf hx hK hE => ?_
              obtain rfl := Option.some.inj ho
              obtain ⟨x113, hv20, rfl⟩ := hE rfl
              refine ⟨want_is (j := 24) (t := 116) rfl rfl (by kernel_rfl) ((hf 24 116 (by kernel_rfl) rfl).trans (show vs 24 = .bool false from hvp 24 (by kernel_rfl))) rfl, (fun h _ => by cases h), (fun h _ => by cases h), fun _ _ => ?_, (fun _ h => by cases h)⟩
              have hF := fr_next (rfl) ((hf 24 116 (by kernel_rfl) rfl).trans (show vs 24 = .bool false from hvp 24 (by kernel_rfl)))
              refine ls_fr hF ?_
              refine ls_lit (Ec.int 5 .u8) 4 rfl rfl (by kernel_rfl) ([(0 : Int)]) (by exact of_decide_eq_true (by kernel_rfl)) (fun w => by kernel_rfl) ?_
              intro g125
              exact ls_fine (sput (sput (sput s0 0 (some (Ck.var 27 g1 (([Value.int .i64 a0.1] ++ ([Value.slice A0_1 a0.2.1.length c0_1] ++ ([Value.slice A0_2 a0.2.2.1.length c0_2] ++ [Value.slice A0_3 a0.2.2.2.length c0_3]))))))) 2 (some (Ck.var 27 g23 (([Value.int .i64 t10.1.1] ++ ([Value.slice x12.1.1 t10.1.2.1.length x12.1.2] ++ ([Value.slice x12.2.1.1 t10.1.2.2.1.length x12.2.1.2] ++ [Value.slice x12.2.2.1 t10.1.2.2.2.length x12.2.2.2]))))))) 4 (some (Ck.sl (Ec.int 5 .u8) (some ⟨g125, 0, none⟩) ([(0 : Int)].length) ([(0 : Int)])))) (.slice (some ⟨g125, 0, none⟩) [(0 : Int)].length [(0 : Int)].length) (congrArg (fun z => upd z 125 _) hF.symm) (show (fun (es : Nat → Value) (S' : Sto) => ∃ (x113 : Unit) (g125 : Nat), es 20 = .int .i64 t111 ∧ es 33 = .slice (some ⟨g125, 0, none⟩) [(0 : Int)].length [(0 : Int)].length ∧ S' = sput (sput (sput s0 0 (some (Ck.var 27 g1 (([Value.int .i64 a0.1] ++ ([Value.slice A0_1 a0.2.1.length c0_1] ++ ([Value.slice A0_2 a0.2.2.1.length c0_2] ++ [Value.slice A0_3 a0.2.2.2.length c0_3]))))))) 2 (some (Ck.var 27 g23 (([Value.int .i64 t10.1.1] ++ ([Value.slice x12.1.1 t10.1.2.1.length x12.1.2] ++ ([Value.slice x12.2.1.1 t10.1.2.2.1.length x12.2.1.2] ++ [Value.slice x12.2.2.1 t10.1.2.2.2.length x12.2.2.2]))))))) 4 (some (Ck.sl (Ec.int 5 .u8) (some ⟨g125, 0, none⟩) ([(0 : Int)].length) ([(0 : Int)])))) (upv es 33 (.slice (some ⟨g125, 0, none⟩) [(0 : Int)].length [(0 : Int)].length)) (sput (sput (sput s0 0 (some (Ck.var 27 g1 (([Value.int .i64 a0.1] ++ ([Value.slice A0_1 a0.2.1.length c0_1] ++ ([Value.slice A0_2 a0.2.2.1.length c0_2] ++ [Value.slice A0_3 a0.2.2.2.length c0_3]))))))) 2 (some (Ck.var 27 g23 (([Value.int .i64 t10.1.1] ++ ([Value.slice x12.1.1 t10.1.2.1.length x12.1.2] ++ ([Value.slice x12.2.1.1 t10.1.2.2.1.length x12.2.1.2] ++ [Value.slice x12.2.2.1 t10.1.2.2.2.length x12.2.2.2]))))))) 4 (some (Ck.sl (Ec.int 5 .u8) (some ⟨g125, 0, none⟩) ([(0 : Int)].length) ([(0 : Int)])))) from ⟨x113, g125, hv20, rfl, rfl⟩) rfl (keep_cons (by exact rfl) (keep_cons (by exact rfl) (keep_nil))) (sub_put (by exact rfl) (sub_put (by exact rfl) (sub_put (by exact rfl) (sub_nil _))))
            · refine fun o ho es vs f' S' hve hvp hf hx hK hE => ?_
              obtain rfl := Option.some.inj ho
              obtain ⟨x113, g115, hv20, hv26, rfl⟩ := hE rfl
              refine ⟨want_is (j := 24) (t := 116) rfl rfl (by kernel_rfl) ((hf 24 116 (by kernel_rfl) rfl).trans (show vs 24 = .bool false from hvp 24 (by kernel_rfl))) rfl, (fun h _ => by cases h), (fun h _ => by cases h), fun _ _ => ?_, (fun _ h => by cases h)⟩
              have hF := fr_next (rfl) ((hf 24 116 (by kernel_rfl) rfl).trans (show vs 24 = .bool false from hvp 24 (by kernel_rfl)))
              refine ls_fr hF ?_
              refine ls_lit (Ec.int 5 .u8) 4 rfl rfl (by kernel_rfl) ([(0 : Int)]) (by exact of_decide_eq_true (by kernel_rfl)) (fun w => by kernel_rfl) ?_
              intro g125
              exact ls_fine (sput (sput (sput (sput s0 0 (some (Ck.var 27 g1 (([Value.int .i64 a0.1] ++ ([Value.slice A0_1 a0.2.1.length c0_1] ++ ([Value.slice A0_2 a0.2.2.1.length c0_2] ++ [Value.slice A0_3 a0.2.2.2.length c0_3]))))))) 2 (some (Ck.var 27 g23 (([Value.int .i64 t10.1.1] ++ ([Value.slice x12.1.1 t10.1.2.1.length x12.1.2] ++ ([Value.slice x12.2.1.1 t10.1.2.2.1.length x12.2.1.2] ++ [Value.slice x12.2.2.1 t10.1.2.2.2.length x12.2.2.2]))))))) 3 (some (Ck.sl (Ec.int 5 .u8) (some ⟨g115, 0, none⟩) (([] : List Int).length) ([] : List Int)))) 4 (some (Ck.sl (Ec.int 5 .u8) (some ⟨g125, 0, none⟩) ([(0 : Int)].length) ([(0 : Int)])))) (.slice (some ⟨g125, 0, none⟩) [(0 : Int)].length [(0 : Int)].length) (congrArg (fun z => upd z 125 _) hF.symm) (show (fun (es : Nat → Value) (S' : Sto) => ∃ (x113 : Unit) (g115 : Nat) (g125 : Nat), es 20 = .int .i64 t111 ∧ es 26 = .slice (some ⟨g115, 0, none⟩) ([] : List Int).length ([] : List Int).length ∧ es 33 = .slice (some ⟨g125, 0, none⟩) [(0 : Int)].length [(0 : Int)].length ∧ S' = sput (sput (sput (sput s0 0 (some (Ck.var 27 g1 (([Value.int .i64 a0.1] ++ ([Value.slice A0_1 a0.2.1.length c0_1] ++ ([Value.slice A0_2 a0.2.2.1.length c0_2] ++ [Value.slice A0_3 a0.2.2.2.length c0_3]))))))) 2 (some (Ck.var 27 g23 (([Value.int .i64 t10.1.1] ++ ([Value.slice x12.1.1 t10.1.2.1.length x12.1.2] ++ ([Value.slice x12.2.1.1 t10.1.2.2.1.length x12.2.1.2] ++ [Value.slice x12.2.2.1 t10.1.2.2.2.length x12.2.2.2]))))))) 3 (some (Ck.sl (Ec.int 5 .u8) (some ⟨g115, 0, none⟩) (([] : List Int).length) ([] : List Int)))) 4 (some (Ck.sl (Ec.int 5 .u8) (some ⟨g125, 0, none⟩) ([(0 : Int)].length) ([(0 : Int)])))) (upv es 33 (.slice (some ⟨g125, 0, none⟩) [(0 : Int)].length [(0 : Int)].length)) (sput (sput (sput (sput s0 0 (some (Ck.var 27 g1 (([Value.int .i64 a0.1] ++ ([Value.slice A0_1 a0.2.1.length c0_1] ++ ([Value.slice A0_2 a0.2.2.1.length c0_2] ++ [Value.slice A0_3 a0.2.2.2.length c0_3]))))))) 2 (some (Ck.var 27 g23 (([Value.int .i64 t10.1.1] ++ ([Value.slice x12.1.1 t10.1.2.1.length x12.1.2] ++ ([Value.slice x12.2.1.1 t10.1.2.2.1.length x12.2.1.2] ++ [Value.slice x12.2.2.1 t10.1.2.2.2.length x12.2.2.2]))))))) 3 (some (Ck.sl (Ec.int 5 .u8) (some ⟨g115, 0, none⟩) (([] : List Int).length) ([] : List Int)))) 4 (some (Ck.sl (Ec.int 5 .u8) (some ⟨g125, 0, none⟩) ([(0 : Int)].length) ([(0 : Int)])))) from ⟨x113, g115, g125, hv20, hv26, rfl, rfl⟩) rfl (keep_cons (by exact rfl) (keep_cons (by exact rfl) (keep_nil))) (sub_put (by exact rfl) (sub_put (by exact rfl) (sub_put (by exact rfl) (sub_put (by exact rfl) (sub_nil _)))))
            refine fun o ho es vs f' S' hve hvp hf hx hK hE => ?_
            obtain rfl := Option.some.inj ho
            obtain ⟨x113, g115, xA123, xc124, hv20, hv26, hv32, rfl⟩ := hE rfl
            refine ⟨want_is (j := 24) (t := 116) rfl rfl (by kernel_rfl) ((hf 24 116 (by kernel_rfl) rfl).trans (show vs 24 = .bool false from hvp 24 (by kernel_rfl))) rfl, (fun h _ => by cases h), (fun h _ => by cases h), fun _ _ => ?_, (fun _ h => by cases h)⟩
            have hF := fr_next (rfl) ((hf 24 116 (by kernel_rfl) rfl).trans (show vs 24 = .bool false from hvp 24 (by kernel_rfl)))
            refine ls_fr hF ?_
            refine ls_lit (Ec.int 5 .u8) 4 rfl rfl (by kernel_rfl) ([(0 : Int)]) (by exact of_decide_eq_true (by kernel_rfl)) (fun w => by kernel_rfl) ?_
            intro g125
            exact ls_fine (sput (sput (sput (sput s0 0 (some (Ck.var 27 g1 (([Value.int .i64 a0.1] ++ ([Value.slice A0_1 a0.2.1.length c0_1] ++ ([Value.slice A0_2 a0.2.2.1.length c0_2] ++ [Value.slice A0_3 a0.2.2.2.length c0_3]))))))) 2 (some (Ck.var 27 g23 (([Value.int .i64 t10.1.1] ++ ([Value.slice x12.1.1 t10.1.2.1.length x12.1.2] ++ ([Value.slice x12.2.1.1 t10.1.2.2.1.length x12.2.1.2] ++ [Value.slice x12.2.2.1 t10.1.2.2.2.length x12.2.2.2]))))))) 3 (some (Ck.sl (Ec.int 5 .u8) xA123 xc124 (([] : List Int) ++ ((a0.2.1).getD (x9_4).toNat ([] : List Int)))))) 4 (some (Ck.sl (Ec.int 5 .u8) (some ⟨g125, 0, none⟩) ([(0 : Int)].length) ([(0 : Int)])))) (.slice (some ⟨g125, 0, none⟩) [(0 : Int)].length [(0 : Int)].length) (congrArg (fun z => upd z 125 _) hF.symm) (show (fun (es : Nat → Value) (S' : Sto) => ∃ (x113 : Unit) (g115 : Nat) (xA123 : Option Addr) (xc124 : Nat) (g125 : Nat), es 20 = .int .i64 t111 ∧ es 26 = .slice (some ⟨g115, 0, none⟩) ([] : List Int).length ([] : List Int).length ∧ es 32 = .slice xA123 (([] : List Int) ++ ((a0.2.1).getD (x9_4).toNat ([] : List Int))).length xc124 ∧ es 33 = .slice (some ⟨g125, 0, none⟩) [(0 : Int)].length [(0 : Int)].length ∧ S' = sput (sput (sput (sput s0 0 (some (Ck.var 27 g1 (([Value.int .i64 a0.1] ++ ([Value.slice A0_1 a0.2.1.length c0_1] ++ ([Value.slice A0_2 a0.2.2.1.length c0_2] ++ [Value.slice A0_3 a0.2.2.2.length c0_3]))))))) 2 (some (Ck.var 27 g23 (([Value.int .i64 t10.1.1] ++ ([Value.slice x12.1.1 t10.1.2.1.length x12.1.2] ++ ([Value.slice x12.2.1.1 t10.1.2.2.1.length x12.2.1.2] ++ [Value.slice x12.2.2.1 t10.1.2.2.2.length x12.2.2.2]))))))) 3 (some (Ck.sl (Ec.int 5 .u8) xA123 xc124 (([] : List Int) ++ ((a0.2.1).getD (x9_4).toNat ([] : List Int)))))) 4 (some (Ck.sl (Ec.int 5 .u8) (some ⟨g125, 0, none⟩) ([(0 : Int)].length) ([(0 : Int)])))) (upv es 33 (.slice (some ⟨g125, 0, none⟩) [(0 : Int)].length [(0 : Int)].length)) (sput (sput (sput (sput s0 0 (some (Ck.var 27 g1 (([Value.int .i64 a0.1] ++ ([Value.slice A0_1 a0.2.1.length c0_1] ++ ([Value.slice A0_2 a0.2.2.1.length c0_2] ++ [Value.slice A0_3 a0.2.2.2.length c0_3]))))))) 2 (some (Ck.var 27 g23 (([Value.int .i64 t10.1.1] ++ ([Value.slice x12.1.1 t10.1.2.1.length x12.1.2] ++ ([Value.slice x12.2.1.1 t10.1.2.2.1.length x12.2.1.2] ++ [Value.slice x12.2.2.1 t10.1.2.2.2.length x12.2.2.2]))))))) 3 (some (Ck.sl (Ec.int 5 .u8) xA123 xc124 (([] : List Int) ++ ((a0.2.1).getD (x9_4).toNat ([] : List Int)))))) 4 (some (Ck.sl (Ec.int 5 .u8) (some ⟨g125, 0, none⟩) ([(0 : Int)].length) ([(0 : Int)])))) from ⟨x113, g115, xA123, xc124, g125, hv20, hv26, hv32, rfl, rfl⟩) rfl (keep_cons (by exact rfl) (keep_cons (by exact rfl) (keep_nil))) (sub_put (by exact rfl) (sub_put (by exact rfl) (sub_put (by exact rfl) (sub_put (by exact rfl) (sub_nil _)))))
          · refine ⟨lq_cons ?_ (lq_nil)⟩
            refine fun o ho es vs f' S' hve hvp hf hx hK hE => ?_
            obtain rfl := Option.some.inj ho
            obtain ⟨x113, g115, xA123, xc124, g125, hv20, hv26, hv32, hv33, rfl⟩ := hE rfl
            refine ⟨want_is (j := 24) (t := 116) rfl rfl (by kernel_rfl) ((hf 24 116 (by kernel_rfl) rfl).trans (show vs 24 = .bool false from hvp 24 (by kernel_rfl))) rfl, (fun h _ => by cases h), (fun h _ => by cases h), fun _ _ => ?_, (fun _ h => by cases h)⟩
            have hF := fr_next (fr_next (fr_next (rfl) ((hf 24 116 (by kernel_rfl) rfl).trans (show vs 24 = .bool false from hvp 24 (by kernel_rfl)))) (((hf 32 124 (by kernel_rfl) rfl).trans (show vs 32 = es 32 from hvp 32 (by kernel_rfl))).trans hv32)) (((hf 33 125 (by kernel_rfl) rfl).trans (show vs 33 = es 33 from hvp 33 (by kernel_rfl))).trans hv33)
            refine ls_fr hF ?_
            refine ls_app (Ec.int 5 .u8) (A := xA123) (c := xc124) (B := (some ⟨g125, 0, none⟩)) (cb := [(0 : Int)].length) (z := (Value.int .u8 0)) (l := (([] : List Int) ++ ((a0.2.1).getD (x9_4).toNat ([] : List Int)))) (m := [(0 : Int)]) (bytes := 1) 3 rfl rfl (by kernel_rfl) rfl (by kernel_rfl) (by exact rfl) (by kernel_rfl) (fun w hs => (hs.rd (k := 4) (by exact rfl))) (by kernel_rfl) (by kernel_rfl) rfl (by decide) q126 ?_
            intro xA127 xc128
            exact ls_fine (sput (sput (sput (sput s0 0 (some (Ck.var 27 g1 (([Value.int .i64 a0.1] ++ ([Value.slice A0_1 a0.2.1.length c0_1] ++ ([Value.slice A0_2 a0.2.2.1.length c0_2] ++ [Value.slice A0_3 a0.2.2.2.length c0_3]))))))) 2 (some (Ck.var 27 g23 (([Value.int .i64 t10.1.1] ++ ([Value.slice x12.1.1 t10.1.2.1.length x12.1.2] ++ ([Value.slice x12.2.1.1 t10.1.2.2.1.length x12.2.1.2] ++ [Value.slice x12.2.2.1 t10.1.2.2.2.length x12.2.2.2]))))))) 3 (some (Ck.sl (Ec.int 5 .u8) xA127 xc128 ((([] : List Int) ++ ((a0.2.1).getD (x9_4).toNat ([] : List Int))) ++ [(0 : Int)])))) 4 (some (Ck.sl (Ec.int 5 .u8) (some ⟨g125, 0, none⟩) ([(0 : Int)].length) ([(0 : Int)])))) (.slice xA127 ((([] : List Int) ++ ((a0.2.1).getD (x9_4).toNat ([] : List Int))) ++ [(0 : Int)]).length xc128) (congrArg (fun z => upd z 126 _) hF.symm) (show (fun (es : Nat → Value) (S' : Sto) => ∃ (x113 : Unit) (g115 : Nat) (xA123 : Option Addr) (xc124 : Nat) (g125 : Nat) (xA127 : Option Addr) (xc128 : Nat), es 20 = .int .i64 t111 ∧ es 26 = .slice (some ⟨g115, 0, none⟩) ([] : List Int).length ([] : List Int).length ∧ es 32 = .slice xA123 (([] : List Int) ++ ((a0.2.1).getD (x9_4).toNat ([] : List Int))).length xc124 ∧ es 33 = .slice (some ⟨g125, 0, none⟩) [(0 : Int)].length [(0 : Int)].length ∧ es 34 = .slice xA127 ((([] : List Int) ++ ((a0.2.1).getD (x9_4).toNat ([] : List Int))) ++ [(0 : Int)]).length xc128 ∧ S' = sput (sput (sput (sput s0 0 (some (Ck.var 27 g1 (([Value.int .i64 a0.1] ++ ([Value.slice A0_1 a0.2.1.length c0_1] ++ ([Value.slice A0_2 a0.2.2.1.length c0_2] ++ [Value.slice A0_3 a0.2.2.2.length c0_3]))))))) 2 (some (Ck.var 27 g23 (([Value.int .i64 t10.1.1] ++ ([Value.slice x12.1.1 t10.1.2.1.length x12.1.2] ++ ([Value.slice x12.2.1.1 t10.1.2.2.1.length x12.2.1.2] ++ [Value.slice x12.2.2.1 t10.1.2.2.2.length x12.2.2.2]))))))) 3 (some (Ck.sl (Ec.int 5 .u8) xA127 xc128 ((([] : List Int) ++ ((a0.2.1).getD (x9_4).toNat ([] : List Int))) ++ [(0 : Int)])))) 4 (some (Ck.sl (Ec.int 5 .u8) (some ⟨g125, 0, none⟩) ([(0 : Int)].length) ([(0 : Int)])))) (upv es 34 (.slice xA127 ((([] : List Int) ++ ((a0.2.1).getD (x9_4).toNat ([] : List Int))) ++ [(0 : Int)]).length xc128)) (sput (sput (sput (sput s0 0 (some (Ck.var 27 g1 (([Value.int .i64 a0.1] ++ ([Value.slice A0_1 a0.2.1.length c0_1] ++ ([Value.slice A0_2 a0.2.2.1.length c0_2] ++ [Value.slice A0_3 a0.2.2.2.length c0_3]))))))) 2 (some (Ck.var 27 g23 (([Value.int .i64 t10.1.1] ++ ([Value.slice x12.1.1 t10.1.2.1.length x12.1.2] ++ ([Value.slice x12.2.1.1 t10.1.2.2.1.length x12.2.1.2] ++ [Value.slice x12.2.2.1 t10.1.2.2.2.length x12.2.2.2]))))))) 3 (some (Ck.sl (Ec.int 5 .u8) xA127 xc128 ((([] : List Int) ++ ((a0.2.1).getD (x9_4).toNat ([] : List Int))) ++ [(0 : Int)])))) 4 (some (Ck.sl (Ec.int 5 .u8) (some ⟨g125, 0, none⟩) ([(0 : Int)].length) ([(0 : Int)])))) from ⟨x113, g115, xA123, xc124, g125, xA127, xc128, hv20, hv26, hv32, hv33, rfl, rfl⟩) rfl (keep_cons (by exact rfl) (keep_cons (by exact rfl) (keep_nil))) (sub_put (by exact rfl) (sub_put (by exact rfl) (sub_put (by exact rfl) (sub_put (by exact rfl) (sub_nil _)))))
          · refine ⟨lq_cons ?_ (lq_nil)⟩
            refine fun o ho es vs f' S' hve hvp hf hx hK hE => ?_
            obtain rfl := Option.some.inj ho
            obtain ⟨x113, g115, xA123, xc124, g125, xA127, xc128, hv20, hv26, hv32, hv33, hv34, rfl⟩ := hE rfl
            refine ⟨want_is (j := 24) (t := 116) rfl rfl (by kernel_rfl) ((hf 24 116 (by kernel_rfl) rfl).trans (show vs 24 = .bool false from hvp 24 (by kernel_rfl))) rfl, (fun h _ => by cases h), (fun h _ => by cases h), fun _ _ => ?_, (fun _ h => by cases h)⟩
            have hF := fr_next (fr_next (fr_next (rfl) ((hf 24 116 (by kernel_rfl) rfl).trans (show vs 24 = .bool false from hvp 24 (by kernel_rfl)))) ((hf 25 117 (by kernel_rfl) rfl).trans (show vs 25 = .agg ⟨([Value.int .i64 t10.1.1] ++ ([Value.slice x12.1.1 t10.1.2.1.length x12.1.2] ++ ([Value.slice x12.2.1.1 t10.1.2.2.1.length x12.2.1.2] ++ [Value.slice x12.2.2.1 t10.1.2.2.2.length x12.2.2.2])))⟩ from hvp 25 (by kernel_rfl)))) (((hf 34 126 (by kernel_rfl) rfl).trans (show vs 34 = es 34 from hvp 34 (by kernel_rfl))).trans hv34)
            refine ls_fr hF ?_
            refine ls_callb (fid := 9) (vals := #[.agg ⟨([Value.int .i64 t10.1.1] ++ ([Value.slice x12.1.1 t10.1.2.1.length x12.1.2] ++ ([Value.slice x12.2.1.1 t10.1.2.2.1.length x12.2.1.2] ++ [Value.slice x12.2.2.1 t10.1.2.2.2.length x12.2.2.2])))⟩, .slice xA127 ((([] : List Int) ++ ((a0.2.1).getD (x9_4).toNat ([] : List Int))) ++ [(0 : Int)]).length xc128]) (X := Unit) (fun x => .int .i64 t129) (fun x => stl []) [] [3] [] [Ck.sl (Ec.int 5 .u8) xA127 xc128 ((([] : List Int) ++ ((a0.2.1).getD (x9_4).toNat ([] : List Int))) ++ [(0 : Int)])] 5 rfl rfl (by kernel_rfl) (fun w => by kernel_rfl) trivial ⟨by exact rfl, trivial⟩ (by decide) (fun w hs hb => leaf_Find.calls k4 x12.1.1 x12.1.2 x12.2.1.1 x12.2.1.2 x12.2.2.1 x12.2.2.2 (t10.1.1, t10.1.2.1, t10.1.2.2.1, t10.1.2.2.2) xA127 xc128 ((([] : List Int) ++ ((a0.2.1).getD (x9_4).toNat ([] : List Int))) ++ [(0 : Int)]) t129 (lent bs19 w [] [Ck.sl (Ec.int 5 .u8) xA127 xc128 ((([] : List Int) ++ ((a0.2.1).getD (x9_4).toNat ([] : List Int))) ++ [(0 : Int)])]) hb (hs.roS fR13 _ _) fC14 (hs.roS fR15 _ _) fC16 (hs.ro fR17 _ _) fC18 (hs.ror (k := 3) (by exact rfl) (.head _)) (hs.cap (k := 3) (by exact rfl)) hc130) ?_
            intro x131
            exact ls_fine (sput (sput (sput (sput s0 0 (some (Ck.var 27 g1 (([Value.int .i64 a0.1] ++ ([Value.slice A0_1 a0.2.1.length c0_1] ++ ([Value.slice A0_2 a0.2.2.1.length c0_2] ++ [Value.slice A0_3 a0.2.2.2.length c0_3]))))))) 2 (some (Ck.var 27 g23 (([Value.int .i64 t10.1.1] ++ ([Value.slice x12.1.1 t10.1.2.1.length x12.1.2] ++ ([Value.slice x12.2.1.1 t10.1.2.2.1.length x12.2.1.2] ++ [Value.slice x12.2.2.1 t10.1.2.2.2.length x12.2.2.2]))))))) 3 (some (Ck.sl (Ec.int 5 .u8) xA127 xc128 ((([] : List Int) ++ ((a0.2.1).getD (x9_4).toNat ([] : List Int))) ++ [(0 : Int)])))) 4 (some (Ck.sl (Ec.int 5 .u8) (some ⟨g125, 0, none⟩) ([(0 : Int)].length) ([(0 : Int)])))) (.int .i64 t129) (congrArg (fun z => upd z 127 _) hF.symm) (show (fun (es : Nat → Value) (S' : Sto) => ∃ (x113 : Unit) (g115 : Nat) (xA123 : Option Addr) (xc124 : Nat) (g125 : Nat) (xA127 : Option Addr) (xc128 : Nat) (x131 : Unit), es 20 = .int .i64 t111 ∧ es 26 = .slice (some ⟨g115, 0, none⟩) ([] : List Int).length ([] : List Int).length ∧ es 32 = .slice xA123 (([] : List Int) ++ ((a0.2.1).getD (x9_4).toNat ([] : List Int))).length xc124 ∧ es 33 = .slice (some ⟨g125, 0, none⟩) [(0 : Int)].length [(0 : Int)].length ∧ es 34 = .slice xA127 ((([] : List Int) ++ ((a0.2.1).getD (x9_4).toNat ([] : List Int))) ++ [(0 : Int)]).length xc128 ∧ es 35 = .int .i64 t129 ∧ S' = sput (sput (sput (sput s0 0 (some (Ck.var 27 g1 (([Value.int .i64 a0.1] ++ ([Value.slice A0_1 a0.2.1.length c0_1] ++ ([Value.slice A0_2 a0.2.2.1.length c0_2] ++ [Value.slice A0_3 a0.2.2.2.length c0_3]))))))) 2 (some (Ck.var 27 g23 (([Value.int .i64 t10.1.1] ++ ([Value.slice x12.1.1 t10.1.2.1.length x12.1.2] ++ ([Value.slice x12.2.1.1 t10.1.2.2.1.length x12.2.1.2] ++ [Value.slice x12.2.2.1 t10.1.2.2.2.length x12.2.2.2]))))))) 3 (some (Ck.sl (Ec.int 5 .u8) xA127 xc128 ((([] : List Int) ++ ((a0.2.1).getD (x9_4).toNat ([] : List Int))) ++ [(0 : Int)])))) 4 (some (Ck.sl (Ec.int 5 .u8) (some ⟨g125, 0, none⟩) ([(0 : Int)].length) ([(0 : Int)])))) (upv es 35 (.int .i64 t129)) (sput (sput (sput (sput s0 0 (some (Ck.var 27 g1 (([Value.int .i64 a0.1] ++ ([Value.slice A0_1 a0.2.1.length c0_1] ++ ([Value.slice A0_2 a0.2.2.1.length c0_2] ++ [Value.slice A0_3 a0.2.2.2.length c0_3]))))))) 2 (some (Ck.var 27 g23 (([Value.int .i64 t10.1.1] ++ ([Value.slice x12.1.1 t10.1.2.1.length x12.1.2] ++ ([Value.slice x12.2.1.1 t10.1.2.2.1.length x12.2.1.2] ++ [Value.slice x12.2.2.1 t10.1.2.2.2.length x12.2.2.2]))))))) 3 (some (Ck.sl (Ec.int 5 .u8) xA127 xc128 ((([] : List Int) ++ ((a0.2.1).getD (x9_4).toNat ([] : List Int))) ++ [(0 : Int)])))) 4 (some (Ck.sl (Ec.int 5 .u8) (some ⟨g125, 0, none⟩) ([(0 : Int)].length) ([(0 : Int)])))) from ⟨x113, g115, xA123, xc124, g125, xA127, xc128, x131, hv20, hv26, hv32, hv33, hv34, rfl, rfl⟩) rfl (keep_cons (by exact rfl) (keep_cons (by exact rfl) (keep_nil))) (sub_put (by exact rfl) (sub_put (by exact rfl) (sub_put (by exact rfl) (sub_put (by exact rfl) (sub_nil _)))))
          refine ⟨lq_cons ?_ (lq_nil)⟩
          refine fun o ho es vs f' S' hve hvp hf hx hK hE => ?_
          obtain rfl := Option.some.inj ho
          refine ⟨want_is (j := 24) (t := 116) rfl rfl (by kernel_rfl) ((hf 24 116 (by kernel_rfl) rfl).trans (show vs 24 = .bool false from hvp 24 (by kernel_rfl))) rfl, fun _ _ => ?_, (fun _ h => by cases h), (fun h _ => by cases h), (fun h _ => by cases h)⟩
          have hF := fr_next (fr_next (rfl) ((hx 9 (by kernel_rfl)).trans (by kernel_rfl : (_ : Value) = .int .i64 x9_4))) ((hf 24 116 (by kernel_rfl) rfl).trans (show vs 24 = .bool false from hvp 24 (by kernel_rfl)))
          refine ls_fr hF ?_
          refine lv (.int .i64 x9_4) ?_
          exact ls_finp (.int .i64 x9_4) (congrArg (fun z => upd z 128 _) hF.symm) rfl
        intro es vs f' S' hve hvp hf hx hK hE
        obtain ⟨x113, g115, xA123, xc124, g125, xA127, xc128, x131, hv20, hv26, hv32, hv33, hv34, hv35, rfl⟩ := hE
        refine ls_fr (F := upd (upd (upd (upd (upd (upd (upd (upd f' 1 (.pointer (some ⟨g1, 0, none⟩))) 3 (.slice x4.1 t2.1.length x4.2)) 7 (.pointer (some ⟨g23, 0, none⟩))) 8 (.int .i64 x8_4)) 9 (.int .i64 x9_4)) 116 (.bool false)) 127 (.int .i64 t129)) 128 (.int .i64 x9_4)) (fr_next (fr_next (fr_next (fr_next (fr_next (fr_next (fr_next (fr_next (rfl) ((hx 1 (by kernel_rfl)).trans (by kernel_rfl : (_ : Value) = .pointer (some ⟨g1, 0, none⟩)))) ((hx 3 (by kernel_rfl)).trans (by kernel_rfl : (_ : Value) = .slice x4.1 t2.1.length x4.2))) ((hx 7 (by kernel_rfl)).trans (by kernel_rfl : (_ : Value) = .pointer (some ⟨g23, 0, none⟩)))) ((hx 8 (by kernel_rfl)).trans (by kernel_rfl : (_ : Value) = .int .i64 x8_4))) ((hx 9 (by kernel_rfl)).trans (by kernel_rfl : (_ : Value) = .int .i64 x9_4))) ((hf 24 116 (by kernel_rfl) rfl).trans (show vs 24 = .bool false from hvp 24 (by kernel_rfl)))) ((hf 35 127 (by kernel_rfl) rfl).trans (show vs 35 = .int .i64 t129 from hvp 35 (by kernel_rfl)))) ((hf 36 128 (by kernel_rfl) rfl).trans (show vs 36 = .int .i64 x9_4 from hvp 36 (by kernel_rfl)))) ?_
        refine ls_sub (sput (sput s0 0 (some (Ck.var 27 g1 (([Value.int .i64 a0.1] ++ ([Value.slice A0_1 a0.2.1.length c0_1] ++ ([Value.slice A0_2 a0.2.2.1.length c0_2] ++ [Value.slice A0_3 a0.2.2.2.length c0_3]))))))) 2 (some (Ck.var 27 g23 (([Value.int .i64 t10.1.1] ++ ([Value.slice x12.1.1 t10.1.2.1.length x12.1.2] ++ ([Value.slice x12.2.1.1 t10.1.2.2.1.length x12.2.1.2] ++ [Value.slice x12.2.2.1 t10.1.2.2.2.length x12.2.2.2]))))))) (sub_put (by exact rfl) (sub_put (by exact rfl) (sub_nil _))) ?_
        refine ls_on (j := 24) (t := 116) (b := false) rfl rfl (by kernel_rfl) (by kernel_rfl) ?_
        refine lv (.bool (decide (t129 < x9_4))) ?_
        refine lv (.bool (decide (t129 < x9_4))) ?_
        refine ls_end ?_
        refine qn_then ?_
        by_cases q132 : t129 < x9_4
        · replace H := ite_t q132 H
          refine cs_know (c := true) (dec_t q132) 130 (by kernel_rfl) ?_
          refine cs_true (by kernel_rfl) ?_
          refine cs_seq ?_
          refine cs_region (l := [_]) ?_
          refine lv (.bool false) ?_
          refine ls_end ?_
          refine qn_then ?_
          refine cs_ret' ?_
          refine qr_then ?_
          refine qr_block ?_
          refine qr_then ?_
          refine qr_then ?_
          refine qr_block ?_
          refine qr_then ?_
          obtain rfl := Option.some.inj H
          refine qr_res (rs := [_]) rfl (fun w' hs => ⟨[.bool false], (res_tmp (by kernel_rfl) (.nil)), (), rfl, St.later hs0.ok (hle6.trans hle20) (hs.pick (ts := []) (cs := []) trivial (by decide))⟩)
        replace H := ite_f q132 H
        refine cs_know (c := false) (dec_f q132) 130 (by kernel_rfl) ?_
        refine cs_false (by kernel_rfl) ?_
        refine cs_skip' ?_
        refine qn_meet (sput (sput s0 0 (some (Ck.var 27 g1 (([Value.int .i64 a0.1] ++ ([Value.slice A0_1 a0.2.1.length c0_1] ++ ([Value.slice A0_2 a0.2.2.1.length c0_2] ++ [Value.slice A0_3 a0.2.2.2.length c0_3]))))))) 2 (some (Ck.var 27 g23 (([Value.int .i64 t10.1.1] ++ ([Value.slice x12.1.1 t10.1.2.1.length x12.1.2] ++ ([Value.slice x12.2.1.1 t10.1.2.2.1.length x12.2.1.2] ++ [Value.slice x12.2.2.1 t10.1.2.2.2.length x12.2.2.2]))))))) ⟨_, fr_next (fr_next (fr_next (fr_next (fr_next (rfl) (by kernel_rfl)) (by kernel_rfl)) (by kernel_rfl)) (by kernel_rfl)) (by kernel_rfl), rfl, H⟩ (sub_put (by exact rfl) (sub_put (by exact rfl) (sub_nil _)))
      replace H := ite_f q114 H
      refine cs_sub (sput (sput s0 0 (some (Ck.var 27 g1 (([Value.int .i64 a0.1] ++ ([Value.slice A0_1 a0.2.1.length c0_1] ++ ([Value.slice A0_2 a0.2.2.1.length c0_2] ++ [Value.slice A0_3 a0.2.2.2.length c0_3]))))))) 2 (some (Ck.var 27 g23 (([Value.int .i64 t10.1.1] ++ ([Value.slice x12.1.1 t10.1.2.1.length x12.1.2] ++ ([Value.slice x12.2.1.1 t10.1.2.2.1.length x12.2.1.2] ++ [Value.slice x12.2.2.1 t10.1.2.2.2.length x12.2.2.2]))))))) (sub_put (by exact rfl) (sub_put (by exact rfl) (sub_nil _))) ?_
      refine cs_chain (l := [_, _, _, _, _, _, _, _, _, _, _, _, _, _, _, _, _, _, _, _, _, _, _, _, _, _, _, _, _, _, _, _, _, _, _, _, _, _, _]) [[], [0], [], [0, 1, 2], [0, 1, 2, 3], [0, 1, 2, 3, 4], [], [6], [], [6, 7, 8], [6, 7, 8, 9], [6, 7, 8, 9, 10], [0, 1, 2, 3, 4, 5, 6, 7, 8, 9, 10, 11], [0, 1, 2, 3, 4, 5, 6, 7, 8, 9, 10, 11, 12], [0, 1, 2, 3, 4, 5, 6, 7, 8, 9, 10, 11, 12, 13], [0, 1, 2, 3, 4, 5, 6, 7, 8, 9, 10, 11, 12, 13], [0, 1, 2, 3, 4, 5, 6, 7, 8, 9, 10, 11, 12, 13, 15], [0, 1, 2, 3, 4, 5, 6, 7, 8, 9, 10, 11, 12, 13], [0, 1, 2, 3, 4, 5, 6, 7, 8, 9, 10, 11, 12, 13, 15, 16, 17], [0, 1, 2, 3, 4, 5, 6, 7, 8, 9, 10, 11, 12, 13, 15, 16, 17, 18], [0, 1, 2, 3, 4, 5, 6, 7, 8, 9, 10, 11, 12, 13, 14, 15, 16, 17, 18, 19], [0, 1, 2, 3, 4, 5, 6, 7, 8, 9, 10, 11, 12, 13], [0, 1, 2, 3, 4, 5, 6, 7, 8, 9, 10, 11, 12, 13, 14, 15, 16, 17, 18, 19, 20, 21], [0, 1, 2, 3, 4, 5, 6, 7, 8, 9, 10, 11, 12, 13, 14, 15, 16, 17, 18, 19, 20, 21, 22], [0, 1, 2, 3, 4, 5, 6, 7, 8, 9, 10, 11, 12, 13, 14, 15, 16, 17, 18, 19, 20, 21, 22, 23], [0, 1, 2, 3, 4, 5, 6, 7, 8, 9, 10, 11, 12, 13, 14, 15, 16, 17, 18, 19, 20, 21, 22, 23, 24], [0, 1, 2, 3, 4, 5, 6, 7, 8, 9, 10, 11, 12, 13, 14, 15, 16, 17, 18, 19, 20, 21, 22, 23, 24], [0, 1, 2, 3, 4, 5, 6, 7, 8, 9, 10, 11, 12, 13, 14, 15, 16, 17, 18, 19, 20, 21, 22, 23, 24], [0, 1, 2, 3, 4, 5, 6, 7, 8, 9, 10, 11, 12, 13, 14, 15, 16, 17, 18, 19, 20, 21, 22, 23, 24, 27], [0, 1, 2, 3, 4, 5, 6, 7, 8, 9, 10, 11, 12, 13, 14, 15, 16, 17, 18, 19, 20, 21, 22, 23, 24], [0, 1, 2, 3, 4, 5, 6, 7, 8, 9, 10, 11, 12, 13, 14, 15, 16, 17, 18, 19, 20, 21, 22, 23, 24, 27, 28, 29], [0, 1, 2, 3, 4, 5, 6, 7, 8, 9, 10, 11, 12, 13, 14, 15, 16, 17, 18, 19, 20, 21, 22, 23, 24, 27, 28, 29, 30], [0, 1, 2, 3, 4, 5, 6, 7, 8, 9, 10, 11, 12, 13, 14, 15, 16, 17, 18, 19, 20, 21, 22, 23, 24, 26, 27, 28, 29, 30, 31], [0, 1, 2, 3, 4, 5, 6, 7, 8, 9, 10, 11, 12, 13, 14, 15, 16, 17, 18, 19, 20, 21, 22, 23, 24], [0, 1, 2, 3, 4, 5, 6, 7, 8, 9, 10, 11, 12, 13, 14, 15, 16, 17, 18, 19, 20, 21, 22, 23, 24, 26, 27, 28, 29, 30, 31, 32, 33], [0, 1, 2, 3, 4, 5, 6, 7, 8, 9, 10, 11, 12, 13, 14, 15, 16, 17, 18, 19, 20, 21, 22, 23, 24, 25, 26, 27, 28, 29, 30, 31, 32, 33, 34], [0, 1, 2, 3, 4, 5, 6, 7, 8, 9, 10, 11, 12, 13, 14, 15, 16, 17, 18, 19, 20, 21, 22, 23, 24], [0, 1, 2, 3, 4, 5, 6, 7, 8, 9, 10, 11, 12, 13, 14, 15, 16, 17, 18, 19, 20, 21, 22, 23, 24, 25, 26, 27, 28, 29, 30, 31, 32, 33, 34, 35, 36], [0, 1, 2, 3, 4, 5, 6, 7, 8, 9, 10, 11, 12, 13, 14, 15, 16, 17, 18, 19, 20, 21, 22, 23, 24, 25, 26, 27, 28, 29, 30, 31, 32, 33, 34, 35, 36, 37]] 37 (fun u => [0, 2].contains u) (efl [false, false, false, false, false, false, false, false, false, false, false, false, false, false, false, false, false, false, false, false, true, false, false, false, false, false, false, false, false, false, false, false, false, false, false, false, false]) (pvl [.val (.pointer (some ⟨g23, (0 + 1), none⟩)), .val (.slice x12.1.1 t10.1.2.1.length x12.1.2), .val (.int .i64 x9_4), .val (.pointer (some (ad87.add ((x9_4).toNat * 1)))), .val (.slice xq89.1 ((t10.1.2.1).getD (x9_4).toNat ([] : List Int)).length xq89.2), .val (.string y93), .val (.pointer (some ⟨g1, (0 + 1), none⟩)), .val (.slice A0_1 a0.2.1.length c0_1), .val (.int .i64 x9_4), .val (.pointer (some (ad96.add ((x9_4).toNat * 1)))), .val (.slice xq98.1 ((a0.2.1).getD (x9_4).toNat ([] : List Int)).length xq98.2), .val (.string y102), .val (.bool false), .val (.bool false), .val (.agg ⟨([Value.int .i64 t10.1.1] ++ ([Value.slice x12.1.1 t10.1.2.1.length x12.1.2] ++ ([Value.slice x12.2.1.1 t10.1.2.2.1.length x12.2.1.2] ++ [Value.slice x12.2.2.1 t10.1.2.2.2.length x12.2.2.2])))⟩), .val (.pointer (some ⟨g1, (0 + 1), none⟩)), .val (.slice A0_1 a0.2.1.length c0_1), .val (.int .i64 x9_4), .val (.pointer (some (ad105.add ((x9_4).toNat * 1)))), .val (.slice xq107.1 ((a0.2.1).getD (x9_4).toNat ([] : List Int)).length xq107.2), .val (.int .i64 t111), .val (.int .i64 x9_4), .val (.bool true), .val (.bool true), .val (.bool true), .val (undef), .val (undef), .val (undef), .val (undef), .val (undef), .val (undef), .val (undef), .val (undef), .val (undef), .val (undef), .val (undef), .val (undef)]) (Esl [fun (es : Nat → Value) (S' : Sto) => S' = sput (sput s0 0 (some (Ck.var 27 g1 (([Value.int .i64 a0.1] ++ ([Value.slice A0_1 a0.2.1.length c0_1] ++ ([Value.slice A0_2 a0.2.2.1.length c0_2] ++ [Value.slice A0_3 a0.2.2.2.length c0_3]))))))) 2 (some (Ck.var 27 g23 (([Value.int .i64 t10.1.1] ++ ([Value.slice x12.1.1 t10.1.2.1.length x12.1.2] ++ ([Value.slice x12.2.1.1 t10.1.2.2.1.length x12.2.1.2] ++ [Value.slice x12.2.2.1 t10.1.2.2.2.length x12.2.2.2])))))), fun (es : Nat → Value) (S' : Sto) => ∃ (x113 : Unit), es 20 = .int .i64 t111 ∧ S' = sput (sput s0 0 (some (Ck.var 27 g1 (([Value.int .i64 a0.1] ++ ([Value.slice A0_1 a0.2.1.length c0_1] ++ ([Value.slice A0_2 a0.2.2.1.length c0_2] ++ [Value.slice A0_3 a0.2.2.2.length c0_3]))))))) 2 (some (Ck.var 27 g23 (([Value.int .i64 t10.1.1] ++ ([Value.slice x12.1.1 t10.1.2.1.length x12.1.2] ++ ([Value.slice x12.2.1.1 t10.1.2.2.1.length x12.2.1.2] ++ [Value.slice x12.2.2.1 t10.1.2.2.2.length x12.2.2.2]))))))] [0, 0, 0, 0, 0, 0, 0, 0, 0, 0, 0, 0, 0, 0, 0, 0, 0, 0, 0, 0, 0, 0, 0, 0, 0, 0, 0, 0, 0, 0, 0, 0, 0, 0, 0, 0, 0, 1]) (nxl [0, 0, 0, 0, 0, 0, 0, 0, 0, 0, 0, 0, 0, 0, 0, 0, 0, 0, 0, 0, 37, 0, 0, 0, 0, 0, 0, 0, 0, 0, 0, 0, 0, 0, 0, 0, 0]) (onl [true, true, true, true, true, true, true, true, true, true, true, true, true, true, true, true, true, true, true, true, true, true, true, true, true, false, false, false, false, false, false, false, false, false, false, false, false]) 20 (by kernel_rfl) (by kernel_rfl) (by kernel_rfl) (by kernel_rfl) (by kernel_rfl) (rs := [_, _]) rfl (by kernel_rfl) (by kernel_rfl) (fun es => ?_) ?_ ?_
      · exact (rfl : sput (sput s0 0 (some (Ck.var 27 g1 (([Value.int .i64 a0.1] ++ ([Value.slice A0_1 a0.2.1.length c0_1] ++ ([Value.slice A0_2 a0.2.2.1.length c0_2] ++ [Value.slice A0_3 a0.2.2.2.length c0_3]))))))) 2 (some (Ck.var 27 g23 (([Value.int .i64 t10.1.1] ++ ([Value.slice x12.1.1 t10.1.2.1.length x12.1.2] ++ ([Value.slice x12.2.1.1 t10.1.2.2.1.length x12.2.1.2] ++ [Value.slice x12.2.2.1 t10.1.2.2.2.length x12.2.2.2])))))) = sput (sput s0 0 (some (Ck.var 27 g1 (([Value.int .i64 a0.1] ++ ([Value.slice A0_1 a0.2.1.length c0_1] ++ ([Value.slice A0_2 a0.2.2.1.length c0_2] ++ [Value.slice A0_3 a0.2.2.2.length c0_3]))))))) 2 (some (Ck.var 27 g23 (([Value.int .i64 t10.1.1] ++ ([Value.slice x12.1.1 t10.1.2.1.length x12.1.2] ++ ([Value.slice x12.2.1.1 t10.1.2.2.1.length x12.2.1.2] ++ [Value.slice x12.2.2.1 t10.1.2.2.2.length x12.2.2.2])))))))
      · refine all_snoc (all_snoc (all_snoc (all_snoc (all_snoc (all_snoc (all_snoc (all_snoc (all_snoc (all_snoc (all_snoc (all_snoc (all_snoc (all_snoc (all_snoc (all_snoc (all_snoc (all_snoc (all_snoc (all_snoc (all_snoc (all_snoc (all_snoc (all_snoc (all_snoc (all_snoc (all_snoc (all_snoc (all_snoc (all_snoc (all_snoc (all_snoc (all_snoc (all_snoc (all_snoc (all_snoc (all_snoc (all_nil) ?_) ?_) ?_) ?_) ?_) ?_) ?_) ?_) ?_) ?_) ?_) ?_) ?_) ?_) ?_) ?_) ?_) ?_) ?_) ?_) ?_) ?_) ?_) ?_) ?_) ?_) ?_) ?_) ?_) ?_) ?_) ?_) ?_) ?_) ?_) ?_) ?_
        · refine ⟨fun o ho es vs f' S' hve hvp hf hx hK hE => ?_⟩
          obtain rfl := Option.some.inj ho
          refine ⟨want_none rfl, fun _ _ => ?_, (fun _ h => by cases h), (fun h _ => by cases h), (fun h _ => by cases h)⟩
          have hF := fr_next (rfl) ((hx 7 (by kernel_rfl)).trans (by kernel_rfl : (_ : Value) = .pointer (some ⟨g23, 0, none⟩)))
          refine ls_fr hF ?_
          refine lv (.pointer (some ⟨g23, (0 + 1), none⟩)) ?_
          exact ls_finp (.pointer (some ⟨g23, (0 + 1), none⟩)) (congrArg (fun z => upd z 92 _) hF.symm) rfl
        · refine ⟨fun o ho es vs f' S' hve hvp hf hx hK hE => ?_⟩
          obtain rfl := Option.some.inj ho
          refine ⟨want_none rfl, fun _ _ => ?_, (fun _ h => by cases h), (fun h _ => by cases h), (fun h _ => by cases h)⟩
          have hF := fr_next (rfl) ((hf 0 92 (by kernel_rfl) rfl).trans (show vs 0 = .pointer (some ⟨g23, (0 + 1), none⟩) from hvp 0 (by kernel_rfl)))
          refine ls_fr hF ?_
          refine ls_load (a0 := ⟨g23, (0 + 1), none⟩) (v := .slice x12.1.1 t10.1.2.1.length x12.1.2) (de := (TypeDesc.slice 23)) rfl rfl (by kernel_rfl) rfl (by kernel_rfl) (by kernel_rfl) (by kernel_rfl) (fun w hs => (hs.var (k := 2) ((hK 2 (by rfl)).trans (by exact rfl)) (Sub4.trans (Sub4.all _) (Sub4.skip (n := 1) (len1 _) (Sub4.head _ _))))) ?_
          exact ls_finp (.slice x12.1.1 t10.1.2.1.length x12.1.2) (congrArg (fun z => upd z 93 _) hF.symm) rfl
        · refine ⟨fun o ho es vs f' S' hve hvp hf hx hK hE => ?_⟩
          obtain rfl := Option.some.inj ho
          refine ⟨want_none rfl, fun _ _ => ?_, (fun _ h => by cases h), (fun h _ => by cases h), (fun h _ => by cases h)⟩
          have hF := fr_next (rfl) ((hx 9 (by kernel_rfl)).trans (by kernel_rfl : (_ : Value) = .int .i64 x9_4))
          refine ls_fr hF ?_
          refine lv (.int .i64 x9_4) ?_
          exact ls_finp (.int .i64 x9_4) (congrArg (fun z => upd z 94 _) hF.symm) rfl
        · refine ⟨fun o ho es vs f' S' hve hvp hf hx hK hE => ?_⟩
          obtain rfl := Option.some.inj ho
          refine ⟨want_none rfl, fun _ _ => ?_, (fun _ h => by cases h), (fun h _ => by cases h), (fun h _ => by cases h)⟩
          have hF := fr_next (fr_next (rfl) ((hf 1 93 (by kernel_rfl) rfl).trans (show vs 1 = .slice x12.1.1 t10.1.2.1.length x12.1.2 from hvp 1 (by kernel_rfl)))) ((hf 2 94 (by kernel_rfl) rfl).trans (show vs 2 = .int .i64 x9_4 from hvp 2 (by kernel_rfl)))
          refine ls_fr hF ?_
          refine ls_idxv (Ec.sld 23 Int) (A := x12.1.1) (c := x12.1.2) (l := t10.1.2.1) (k := .i64) (i := x9_4) (z := 1) (ad := ad87) rfl rfl (by kernel_rfl) hA88 rfl (by kernel_rfl) (by kernel_rfl) (by kernel_rfl) (by kernel_rfl) q85 q86 ?_
          exact ls_finp (.pointer (some (ad87.add ((x9_4).toNat * 1)))) (congrArg (fun z => upd z 95 _) hF.symm) rfl
        · refine ⟨fun o ho es vs f' S' hve hvp hf hx hK hE => ?_⟩
          obtain rfl := Option.some.inj ho
          refine ⟨want_none rfl, fun _ _ => ?_, (fun _ h => by cases h), (fun h _ => by cases h), (fun h _ => by cases h)⟩
          have hF := fr_next (rfl) ((hf 3 95 (by kernel_rfl) rfl).trans (show vs 3 = .pointer (some (ad87.add ((x9_4).toNat * 1))) from hvp 3 (by kernel_rfl)))
          refine ls_fr hF ?_
          refine ls_load (a0 := (ad87.add ((x9_4).toNat * 1))) (v := .slice xq89.1 ((t10.1.2.1).getD (x9_4).toNat ([] : List Int)).length xq89.2) (de := (TypeDesc.slice 5)) rfl rfl (by kernel_rfl) rfl (by kernel_rfl) (by kernel_rfl) (by kernel_rfl) (fun w hs => (hs.old hq90).cell0) ?_
          exact ls_finp (.slice xq89.1 ((t10.1.2.1).getD (x9_4).toNat ([] : List Int)).length xq89.2) (congrArg (fun z => upd z 96 _) hF.symm) rfl
        · refine ⟨fun o ho es vs f' S' hve hvp hf hx hK hE => ?_⟩
          obtain rfl := Option.some.inj ho
          refine ⟨want_none rfl, fun _ _ => ?_, (fun _ h => by cases h), (fun h _ => by cases h), (fun h _ => by cases h)⟩
          have hF := fr_next (rfl) ((hf 4 96 (by kernel_rfl) rfl).trans (show vs 4 = .slice xq89.1 ((t10.1.2.1).getD (x9_4).toNat ([] : List Int)).length xq89.2 from hvp 4 (by kernel_rfl)))
          refine ls_fr hF ?_
          refine ls_str (A := xq89.1) (c := xq89.2) (e := 5) (l := ((t10.1.2.1).getD (x9_4).toNat ([] : List Int))) rfl rfl (by kernel_rfl) rfl (by kernel_rfl) (by kernel_rfl) (by kernel_rfl) (by kernel_rfl) (fun w hs => (hs.old xR91)) ?_
          refine ls_ren 97 (v := .string (strOfNums ((t10.1.2.1).getD (x9_4).toNat ([] : List Int)))) (v' := .string y93) (by kernel_rfl) (by rw [hy94]) ?_
          exact ls_finp (.string y93) ((upd_upd _ _ _ _).trans (congrArg (fun z => upd z 97 _) hF.symm)) rfl
        · refine ⟨fun o ho es vs f' S' hve hvp hf hx hK hE => ?_⟩
          obtain rfl := Option.some.inj ho
          refine ⟨want_none rfl, fun _ _ => ?_, (fun _ h => by cases h), (fun h _ => by cases h), (fun h _ => by cases h)⟩
          have hF := fr_next (rfl) ((hx 1 (by kernel_rfl)).trans (by kernel_rfl : (_ : Value) = .pointer (some ⟨g1, 0, none⟩)))
          refine ls_fr hF ?_
          refine lv (.pointer (some ⟨g1, (0 + 1), none⟩)) ?_
          exact ls_finp (.pointer (some ⟨g1, (0 + 1), none⟩)) (congrArg (fun z => upd z 98 _) hF.symm) rfl
        · refine ⟨fun o ho es vs f' S' hve hvp hf hx hK hE => ?_⟩
          obtain rfl := Option.some.inj ho
          refine ⟨want_none rfl, fun _ _ => ?_, (fun _ h => by cases h), (fun h _ => by cases h), (fun h _ => by cases h)⟩
          have hF := fr_next (rfl) ((hf 6 98 (by kernel_rfl) rfl).trans (show vs 6 = .pointer (some ⟨g1, (0 + 1), none⟩) from hvp 6 (by kernel_rfl)))
          refine ls_fr hF ?_
          refine ls_load (a0 := ⟨g1, (0 + 1), none⟩) (v := .slice A0_1 a0.2.1.length c0_1) (de := (TypeDesc.slice 23)) rfl rfl (by kernel_rfl) rfl (by kernel_rfl) (by kernel_rfl) (by kernel_rfl) (fun w hs => (hs.var (k := 0) ((hK 0 (by rfl)).trans (by exact rfl)) (Sub4.trans (Sub4.all _) (Sub4.skip (n := 1) (len1 _) (Sub4.head _ _))))) ?_
          exact ls_finp (.slice A0_1 a0.2.1.length c0_1) (congrArg (fun z => upd z 99 _) hF.symm) rfl
        · refine ⟨fun o ho es vs f' S' hve hvp hf hx hK hE => ?_⟩
          obtain rfl := Option.some.inj ho
          refine ⟨want_none rfl, fun _ _ => ?_, (fun _ h => by cases h), (fun h _ => by cases h), (fun h _ => by cases h)⟩
          have hF := fr_next (rfl) ((hx 9 (by kernel_rfl)).trans (by kernel_rfl : (_ : Value) = .int .i64 x9_4))
          refine ls_fr hF ?_
          refine lv (.int .i64 x9_4) ?_
          exact ls_finp (.int .i64 x9_4) (congrArg (fun z => upd z 100 _) hF.symm) rfl
        · refine ⟨fun o ho es vs f' S' hve hvp hf hx hK hE => ?_⟩
          obtain rfl := Option.some.inj ho
          refine ⟨want_none rfl, fun _ _ => ?_, (fun _ h => by cases h), (fun h _ => by cases h), (fun h _ => by cases h)⟩
          have hF := fr_next (fr_next (rfl) ((hf 7 99 (by kernel_rfl) rfl).trans (show vs 7 = .slice A0_1 a0.2.1.length c0_1 from hvp 7 (by kernel_rfl)))) ((hf 8 100 (by kernel_rfl) rfl).trans (show vs 8 = .int .i64 x9_4 from hvp 8 (by kernel_rfl)))
          refine ls_fr hF ?_
          refine ls_idxv (Ec.sld 23 Int) (A := A0_1) (c := c0_1) (l := a0.2.1) (k := .i64) (i := x9_4) (z := 1) (ad := ad96) rfl rfl (by kernel_rfl) hA97 rfl (by kernel_rfl) (by kernel_rfl) (by kernel_rfl) (by kernel_rfl) q85 q95 ?_
          exact ls_finp (.pointer (some (ad96.add ((x9_4).toNat * 1)))) (congrArg (fun z => upd z 101 _) hF.symm) rfl
        · refine ⟨fun o ho es vs f' S' hve hvp hf hx hK hE => ?_⟩
          obtain rfl := Option.some.inj ho
          refine ⟨want_none rfl, fun _ _ => ?_, (fun _ h => by cases h), (fun h _ => by cases h), (fun h _ => by cases h)⟩
          have hF := fr_next (rfl) ((hf 9 101 (by kernel_rfl) rfl).trans (show vs 9 = .pointer (some (ad96.add ((x9_4).toNat * 1))) from hvp 9 (by kernel_rfl)))
          refine ls_fr hF ?_
          refine ls_load (a0 := (ad96.add ((x9_4).toNat * 1))) (v := .slice xq98.1 ((a0.2.1).getD (x9_4).toNat ([] : List Int)).length xq98.2) (de := (TypeDesc.slice 5)) rfl rfl (by kernel_rfl) rfl (by kernel_rfl) (by kernel_rfl) (by kernel_rfl) (fun w hs => (hs.old (Ro.mono hok21 hle20 (Ro.mono hok7 hle6 hq99))).cell0) ?_
          exact ls_finp (.slice xq98.1 ((a0.2.1).getD (x9_4).toNat ([] : List Int)).length xq98.2) (congrArg (fun z => upd z 102 _) hF.symm) rfl
        · refine ⟨fun o ho es vs f' S' hve hvp hf hx hK hE => ?_⟩
          obtain rfl := Option.some.inj ho
          refine ⟨want_none rfl, fun _ _ => ?_, (fun _ h => by cases h), (fun h _ => by cases h), (fun h _ => by cases h)⟩
          have hF := fr_next (rfl) ((hf 10 102 (by kernel_rfl) rfl).trans (show vs 10 = .slice xq98.1 ((a0.2.1).getD (x9_4).toNat ([] : List Int)).length xq98.2 from hvp 10 (by kernel_rfl)))
          refine ls_fr hF ?_
          refine ls_str (A := xq98.1) (c := xq98.2) (e := 5) (l := ((a0.2.1).getD (x9_4).toNat ([] : List Int))) rfl rfl (by kernel_rfl) rfl (by kernel_rfl) (by kernel_rfl) (by kernel_rfl) (by kernel_rfl) (fun w hs => (hs.old (Ro.mono hok21 hle20 (Ro.mono hok7 hle6 xR100)))) ?_
          refine ls_ren 103 (v := .string (strOfNums ((a0.2.1).getD (x9_4).toNat ([] : List Int)))) (v' := .string y102) (by kernel_rfl) (by rw [hy103]) ?_
          exact ls_finp (.string y102) ((upd_upd _ _ _ _).trans (congrArg (fun z => upd z 103 _) hF.symm)) rfl
        · refine ⟨fun o ho es vs f' S' hve hvp hf hx hK hE => ?_⟩
          obtain rfl := Option.some.inj ho
          refine ⟨want_none rfl, fun _ _ => ?_, (fun _ h => by cases h), (fun h _ => by cases h), (fun h _ => by cases h)⟩
          have hF := fr_next (fr_next (rfl) ((hf 5 97 (by kernel_rfl) rfl).trans (show vs 5 = .string y93 from hvp 5 (by kernel_rfl)))) ((hf 11 103 (by kernel_rfl) rfl).trans (show vs 11 = .string y102 from hvp 11 (by kernel_rfl)))
          refine ls_fr hF ?_
          refine lv (.bool (!(y93.toList == y102.toList))) ?_
          refine ls_ren 104 (v := .bool (!(y93.toList == y102.toList))) (v' := .bool false) (by kernel_rfl) (congrArg Value.bool (show (!(y93.toList == y102.toList)) = false from congrArg Bool.not (q104))) ?_
          exact ls_finp (.bool false) ((upd_upd _ _ _ _).trans (congrArg (fun z => upd z 104 _) hF.symm)) rfl
        · refine ⟨fun o ho es vs f' S' hve hvp hf hx hK hE => ?_⟩
          obtain rfl := Option.some.inj ho
          refine ⟨want_none rfl, fun _ _ => ?_, (fun _ h => by cases h), (fun h _ => by cases h), (fun h _ => by cases h)⟩
          have hF := fr_next (rfl) ((hf 12 104 (by kernel_rfl) rfl).trans (show vs 12 = .bool false from hvp 12 (by kernel_rfl)))
          refine ls_fr hF ?_
          refine lv (.bool false) ?_
          exact ls_finp (.bool false) (congrArg (fun z => upd z 105 _) hF.symm) rfl
        · refine ⟨fun o ho es vs f' S' hve hvp hf hx hK hE => ?_⟩
          obtain rfl := Option.some.inj ho
          refine ⟨want_is (j := 13) (t := 105) rfl rfl (by kernel_rfl) ((hf 13 105 (by kernel_rfl) rfl).trans (show vs 13 = .bool false from hvp 13 (by kernel_rfl))) rfl, fun _ _ => ?_, (fun _ h => by cases h), (fun h _ => by cases h), (fun h _ => by cases h)⟩
          have hF := fr_next (fr_next (rfl) ((hx 7 (by kernel_rfl)).trans (by kernel_rfl : (_ : Value) = .pointer (some ⟨g23, 0, none⟩)))) ((hf 13 105 (by kernel_rfl) rfl).trans (show vs 13 = .bool false from hvp 13 (by kernel_rfl)))
          refine ls_fr hF ?_
          refine ls_loadagg (a := ⟨g23, 0, none⟩) (sub := ([Value.int .i64 t10.1.1] ++ ([Value.slice x12.1.1 t10.1.2.1.length x12.1.2] ++ ([Value.slice x12.2.1.1 t10.1.2.2.1.length x12.2.1.2] ++ [Value.slice x12.2.2.1 t10.1.2.2.2.length x12.2.2.2])))) rfl rfl (by kernel_rfl) rfl (by kernel_rfl) (by kernel_rfl) (by kernel_rfl) (len_app (len1 _) (len_app (len1 _) (len_app (len1 _) (len1 _)))) (fun w hs => (hs.vars (k := 2) ((hK 2 (by rfl)).trans (by exact rfl)) (Sub4.all _))) ?_
          exact ls_finp (.agg ⟨([Value.int .i64 t10.1.1] ++ ([Value.slice x12.1.1 t10.1.2.1.length x12.1.2] ++ ([Value.slice x12.2.1.1 t10.1.2.2.1.length x12.2.1.2] ++ [Value.slice x12.2.2.1 t10.1.2.2.2.length x12.2.2.2])))⟩) (congrArg (fun z => upd z 106 _) hF.symm) rfl
        · refine ⟨fun o ho es vs f' S' hve hvp hf hx hK hE => ?_⟩
          obtain rfl := Option.some.inj ho
          refine ⟨want_is (j := 13) (t := 105) rfl rfl (by kernel_rfl) ((hf 13 105 (by kernel_rfl) rfl).trans (show vs 13 = .bool false from hvp 13 (by kernel_rfl))) rfl, fun _ _ => ?_, (fun _ h => by cases h), (fun h _ => by cases h), (fun h _ => by cases h)⟩
          have hF := fr_next (fr_next (rfl) ((hx 1 (by kernel_rfl)).trans (by kernel_rfl : (_ : Value) = .pointer (some ⟨g1, 0, none⟩)))) ((hf 13 105 (by kernel_rfl) rfl).trans (show vs 13 = .bool false from hvp 13 (by kernel_rfl)))
          refine ls_fr hF ?_
          refine lv (.pointer (some ⟨g1, (0 + 1), none⟩)) ?_
          exact ls_finp (.pointer (some ⟨g1, (0 + 1), none⟩)) (congrArg (fun z => upd z 107 _) hF.symm) rfl
        · refine ⟨fun o ho es vs f' S' hve hvp hf hx hK hE => ?_⟩
          obtain rfl := Option.some.inj ho
          refine ⟨want_is (j := 13) (t := 105) rfl rfl (by kernel_rfl) ((hf 13 105 (by kernel_rfl) rfl).trans (show vs 13 = .bool false from hvp 13 (by kernel_rfl))) rfl, fun _ _ => ?_, (fun _ h => by cases h), (fun h _ => by cases h), (fun h _ => by cases h)⟩
          have hF := fr_next (fr_next (rfl) ((hf 13 105 (by kernel_rfl) rfl).trans (show vs 13 = .bool false from hvp 13 (by kernel_rfl)))) ((hf 15 107 (by kernel_rfl) rfl).trans (show vs 15 = .pointer (some ⟨g1, (0 + 1), none⟩) from hvp 15 (by kernel_rfl)))
          refine ls_fr hF ?_
          refine ls_load (a0 := ⟨g1, (0 + 1), none⟩) (v := .slice A0_1 a0.2.1.length c0_1) (de := (TypeDesc.slice 23)) rfl rfl (by kernel_rfl) rfl (by kernel_rfl) (by kernel_rfl) (by kernel_rfl) (fun w hs => (hs.var (k := 0) ((hK 0 (by rfl)).trans (by exact rfl)) (Sub4.trans (Sub4.all _) (Sub4.skip (n := 1) (len1 _) (Sub4.head _ _))))) ?_
          exact ls_finp (.slice A0_1 a0.2.1.length c0_1) (congrArg (fun z => upd z 108 _) hF.symm) rfl
        · refine ⟨fun o ho es vs f' S' hve hvp hf hx hK hE => ?_⟩
          obtain rfl := Option.some.inj ho
          refine ⟨want_is (j := 13) (t := 105) rfl rfl (by kernel_rfl) ((hf 13 105 (by kernel_rfl) rfl).trans (show vs 13 = .bool false from hvp 13 (by kernel_rfl))) rfl, fun _ _ => ?_, (fun _ h => by cases h), (fun h _ => by cases h), (fun h _ => by cases h)⟩
          have hF := fr_next (fr_next (rfl) ((hx 9 (by kernel_rfl)).trans (by kernel_rfl : (_ : Value) = .int .i64 x9_4))) ((hf 13 105 (by kernel_rfl) rfl).trans (show vs 13 = .bool false from hvp 13 (by kernel_rfl)))
          refine ls_fr hF ?_
          refine lv (.int .i64 x9_4) ?_
          exact ls_finp (.int .i64 x9_4) (congrArg (fun z => upd z 109 _) hF.symm) rfl
        · refine ⟨fun o ho es vs f' S' hve hvp hf hx hK hE => ?_⟩
          obtain rfl := Option.some.inj ho
          refine ⟨want_is (j := 13) (t := 105) rfl rfl (by kernel_rfl) ((hf 13 105 (by kernel_rfl) rfl).trans (show vs 13 = .bool false from hvp 13 (by kernel_rfl))) rfl, fun _ _ => ?_, (fun _ h => by cases h), (fun h _ => by cases h), (fun h _ => by cases h)⟩
          have hF := fr_next (fr_next (fr_next (rfl) ((hf 13 105 (by kernel_rfl) rfl).trans (show vs 13 = .bool false from hvp 13 (by kernel_rfl)))) ((hf 16 108 (by kernel_rfl) rfl).trans (show vs 16 = .slice A0_1 a0.2.1.length c0_1 from hvp 16 (by kernel_rfl)))) ((hf 17 109 (by kernel_rfl) rfl).trans (show vs 17 = .int .i64 x9_4 from hvp 17 (by kernel_rfl)))
          refine ls_fr hF ?_
          refine ls_idxv (Ec.sld 23 Int) (A := A0_1) (c := c0_1) (l := a0.2.1) (k := .i64) (i := x9_4) (z := 1) (ad := ad105) rfl rfl (by kernel_rfl) hA106 rfl (by kernel_rfl) (by kernel_rfl) (by kernel_rfl) (by kernel_rfl) q85 q95 ?_
          exact ls_finp (.pointer (some (ad105.add ((x9_4).toNat * 1)))) (congrArg (fun z => upd z 110 _) hF.symm) rfl
        · refine ⟨fun o ho es vs f' S' hve hvp hf hx hK hE => ?_⟩
          obtain rfl := Option.some.inj ho
          refine ⟨want_is (j := 13) (t := 105) rfl rfl (by kernel_rfl) ((hf 13 105 (by kernel_rfl) rfl).trans (show vs 13 = .bool false from hvp 13 (by kernel_rfl))) rfl, fun _ _ => ?_, (fun _ h => by cases h), (fun h _ => by cases h), (fun h _ => by cases h)⟩
          have hF := fr_next (fr_next (rfl) ((hf 13 105 (by kernel_rfl) rfl).trans (show vs 13 = .bool false from hvp 13 (by kernel_rfl)))) ((hf 18 110 (by kernel_rfl) rfl).trans (show vs 18 = .pointer (some (ad105.add ((x9_4).toNat * 1))) from hvp 18 (by kernel_rfl)))
          refine ls_fr hF ?_
          refine ls_load (a0 := (ad105.add ((x9_4).toNat * 1))) (v := .slice xq107.1 ((a0.2.1).getD (x9_4).toNat ([] : List Int)).length xq107.2) (de := (TypeDesc.slice 5)) rfl rfl (by kernel_rfl) rfl (by kernel_rfl) (by kernel_rfl) (by kernel_rfl) (fun w hs => (hs.old (Ro.mono hok21 hle20 (Ro.mono hok7 hle6 hq108))).cell0) ?_
          exact ls_finp (.slice xq107.1 ((a0.2.1).getD (x9_4).toNat ([] : List Int)).length xq107.2) (congrArg (fun z => upd z 111 _) hF.symm) rfl
        · refine ⟨fun o ho es vs f' S' hve hvp hf hx hK hE => ?_⟩
          obtain rfl := Option.some.inj ho
          obtain rfl := hE rfl
          refine ⟨want_is (j := 13) (t := 105) rfl rfl (by kernel_rfl) ((hf 13 105 (by kernel_rfl) rfl).trans (show vs 13 = .bool false from hvp 13 (by kernel_rfl))) rfl, (fun h _ => by cases h), (fun h _ => by cases h), fun _ _ => ?_, (fun _ h => by cases h)⟩
          have hF := fr_next (fr_next (fr_next (rfl) ((hf 13 105 (by kernel_rfl) rfl).trans (show vs 13 = .bool false from hvp 13 (by kernel_rfl)))) ((hf 14 106 (by kernel_rfl) rfl).trans (show vs 14 = .agg ⟨([Value.int .i64 t10.1.1] ++ ([Value.slice x12.1.1 t10.1.2.1.length x12.1.2] ++ ([Value.slice x12.2.1.1 t10.1.2.2.1.length x12.2.1.2] ++ [Value.slice x12.2.2.1 t10.1.2.2.2.length x12.2.2.2])))⟩ from hvp 14 (by kernel_rfl)))) ((hf 19 111 (by kernel_rfl) rfl).trans (show vs 19 = .slice xq107.1 ((a0.2.1).getD (x9_4).toNat ([] : List Int)).length xq107.2 from hvp 19 (by kernel_rfl)))
          refine ls_fr hF ?_
          refine ls_callb (fid := 9) (vals := #[.agg ⟨([Value.int .i64 t10.1.1] ++ ([Value.slice x12.1.1 t10.1.2.1.length x12.1.2] ++ ([Value.slice x12.2.1.1 t10.1.2.2.1.length x12.2.1.2] ++ [Value.slice x12.2.2.1 t10.1.2.2.2.length x12.2.2.2])))⟩, .slice xq107.1 ((a0.2.1).getD (x9_4).toNat ([] : List Int)).length xq107.2]) (X := Unit) (fun x => .int .i64 t111) (fun x => stl []) [] [] [] [] 3 rfl rfl (by kernel_rfl) (fun w => by kernel_rfl) trivial trivial (by decide) (fun w hs hb => leaf_Find.calls k4 x12.1.1 x12.1.2 x12.2.1.1 x12.2.1.2 x12.2.2.1 x12.2.2.2 (t10.1.1, t10.1.2.1, t10.1.2.2.1, t10.1.2.2.2) xq107.1 xq107.2 ((a0.2.1).getD (x9_4).toNat ([] : List Int)) t111 (lent bs19 w [] []) hb (hs.roS fR13 _ _) fC14 (hs.roS fR15 _ _) fC16 (hs.ro fR17 _ _) fC18 (hs.ro (Ro.mono hok21 hle20 (Ro.mono hok7 hle6 xR109)) _ _) xC110 hc112) ?_
          intro x113
          exact ls_fine (sput (sput s0 0 (some (Ck.var 27 g1 (([Value.int .i64 a0.1] ++ ([Value.slice A0_1 a0.2.1.length c0_1] ++ ([Value.slice A0_2 a0.2.2.1.length c0_2] ++ [Value.slice A0_3 a0.2.2.2.length c0_3]))))))) 2 (some (Ck.var 27 g23 (([Value.int .i64 t10.1.1] ++ ([Value.slice x12.1.1 t10.1.2.1.length x12.1.2] ++ ([Value.slice x12.2.1.1 t10.1.2.2.1.length x12.2.1.2] ++ [Value.slice x12.2.2.1 t10.1.2.2.2.length x12.2.2.2]))))))) (.int .i64 t111) (congrArg (fun z => upd z 112 _) hF.symm) (show (fun (es : Nat → Value) (S' : Sto) => ∃ (x113 : Unit), es 20 = .int .i64 t111 ∧ S' = sput (sput s0 0 (some (Ck.var 27 g1 (([Value.int .i64 a0.1] ++ ([Value.slice A0_1 a0.2.1.length c0_1] ++ ([Value.slice A0_2 a0.2.2.1.length c0_2] ++ [Value.slice A0_3 a0.2.2.2.length c0_3]))))))) 2 (some (Ck.var 27 g23 (([Value.int .i64 t10.1.1] ++ ([Value.slice x12.1.1 t10.1.2.1.length x12.1.2] ++ ([Value.slice x12.2.1.1 t10.1.2.2.1.length x12.2.1.2] ++ [Value.slice x12.2.2.1 t10.1.2.2.2.length x12.2.2.2]))))))) (upv es 20 (.int .i64 t111)) (sput (sput s0 0 (some (Ck.var 27 g1 (([Value.int .i64 a0.1] ++ ([Value.slice A0_1 a0.2.1.length c0_1] ++ ([Value.slice A0_2 a0.2.2.1.length c0_2] ++ [Value.slice A0_3 a0.2.2.2.length c0_3]))))))) 2 (some (Ck.var 27 g23 (([Value.int .i64 t10.1.1] ++ ([Value.slice x12.1.1 t10.1.2.1.length x12.1.2] ++ ([Value.slice x12.2.1.1 t10.1.2.2.1.length x12.2.1.2] ++ [Value.slice x12.2.2.1 t10.1.2.2.2.length x12.2.2.2]))))))) from ⟨x113, rfl, rfl⟩) rfl (keep_cons (by exact rfl) (keep_cons (by exact rfl) (keep_nil))) (sub_put (by exact rfl) (sub_put (by exact rfl) (sub_nil _)))
        · refine ⟨fun o ho es vs f' S' hve hvp hf hx hK hE => ?_⟩
          obtain rfl := Option.some.inj ho
          refine ⟨want_is (j := 13) (t := 105) rfl rfl (by kernel_rfl) ((hf 13 105 (by kernel_rfl) rfl).trans (show vs 13 = .bool false from hvp 13 (by kernel_rfl))) rfl, fun _ _ => ?_, (fun _ h => by cases h), (fun h _ => by cases h), (fun h _ => by cases h)⟩
          have hF := fr_next (fr_next (rfl) ((hx 9 (by kernel_rfl)).trans (by kernel_rfl : (_ : Value) = .int .i64 x9_4))) ((hf 13 105 (by kernel_rfl) rfl).trans (show vs 13 = .bool false from hvp 13 (by kernel_rfl)))
          refine ls_fr hF ?_
          refine lv (.int .i64 x9_4) ?_
          exact ls_finp (.int .i64 x9_4) (congrArg (fun z => upd z 113 _) hF.symm) rfl
        · refine ⟨fun o ho es vs f' S' hve hvp hf hx hK hE => ?_⟩
          obtain rfl := Option.some.inj ho
          refine ⟨want_is (j := 13) (t := 105) rfl rfl (by kernel_rfl) ((hf 13 105 (by kernel_rfl) rfl).trans (show vs 13 = .bool false from hvp 13 (by kernel_rfl))) rfl, fun _ _ => ?_, (fun _ h => by cases h), (fun h _ => by cases h), (fun h _ => by cases h)⟩
          have hF := fr_next (fr_next (fr_next (rfl) ((hf 13 105 (by kernel_rfl) rfl).trans (show vs 13 = .bool false from hvp 13 (by kernel_rfl)))) ((hf 20 112 (by kernel_rfl) rfl).trans (show vs 20 = .int .i64 t111 from hvp 20 (by kernel_rfl)))) ((hf 21 113 (by kernel_rfl) rfl).trans (show vs 21 = .int .i64 x9_4 from hvp 21 (by kernel_rfl)))
          refine ls_fr hF ?_
          refine lv (.bool (!decide (t111 = x9_4))) ?_
          refine ls_ren 114 (v := .bool (!decide (t111 = x9_4))) (v' := .bool true) (by kernel_rfl) (congrArg Value.bool (show (!decide (t111 = x9_4)) = true from congrArg Bool.not (dec_f q114))) ?_
          exact ls_finp (.bool true) ((upd_upd _ _ _ _).trans (congrArg (fun z => upd z 114 _) hF.symm)) rfl
        · refine ⟨fun o ho es vs f' S' hve hvp hf hx hK hE => ?_⟩
          obtain rfl := Option.some.inj ho
          refine ⟨want_none rfl, fun _ _ => ?_, (fun _ h => by cases h), (fun h _ => by cases h), (fun h _ => by cases h)⟩
          have hF := fr_next (fr_next (rfl) ((hf 13 105 (by kernel_rfl) rfl).trans (show vs 13 = .bool false from hvp 13 (by kernel_rfl)))) ((hf 22 114 (by kernel_rfl) rfl).trans (show vs 22 = .bool true from hvp 22 (by kernel_rfl)))
          refine ls_fr hF ?_
          refine lv (.bool true) ?_
          exact ls_finp (.bool true) (congrArg (fun z => upd z 115 _) hF.symm) rfl
        · refine ⟨fun o ho es vs f' S' hve hvp hf hx hK hE => ?_⟩
          obtain rfl := Option.some.inj ho
          refine ⟨want_none rfl, fun _ _ => ?_, (fun _ h => by cases h), (fun h _ => by cases h), (fun h _ => by cases h)⟩
          have hF := fr_next (rfl) ((hf 23 115 (by kernel_rfl) rfl).trans (show vs 23 = .bool true from hvp 23 (by kernel_rfl)))
          refine ls_fr hF ?_
          refine lv (.bool true) ?_
          exact ls_finp (.bool true) (congrArg (fun z => upd z 116 _) hF.symm) rfl
        · refine ⟨fun o ho es vs f' S' hve hvp hf hx hK hE => ?_⟩
          obtain rfl := Option.some.inj ho
          exact ⟨want_is (j := 24) (t := 116) rfl rfl (by kernel_rfl) ((hf 24 116 (by kernel_rfl) rfl).trans (show vs 24 = .bool true from hvp 24 (by kernel_rfl))) rfl, (fun _ h => by cases h), fun _ _ => rfl, (fun h _ => by cases h), (fun h _ => by cases h)⟩
        · refine ⟨fun o ho es vs f' S' hve hvp hf hx hK hE => ?_⟩
          obtain rfl := Option.some.inj ho
          exact ⟨want_is (j := 24) (t := 116) rfl rfl (by kernel_rfl) ((hf 24 116 (by kernel_rfl) rfl).trans (show vs 24 = .bool true from hvp 24 (by kernel_rfl))) rfl, (fun _ h => by cases h), fun _ _ => rfl, (fun h _ => by cases h), (fun h _ => by cases h)⟩
        · refine ⟨fun o ho es vs f' S' hve hvp hf hx hK hE => ?_⟩
          obtain rfl := Option.some.inj ho
          exact ⟨want_is (j := 24) (t := 116) rfl rfl (by kernel_rfl) ((hf 24 116 (by kernel_rfl) rfl).trans (show vs 24 = .bool true from hvp 24 (by kernel_rfl))) rfl, (fun _ h => by cases h), fun _ _ => rfl, (fun h _ => by cases h), (fun h _ => by cases h)⟩
        · refine ⟨fun o ho es vs f' S' hve hvp hf hx hK hE => ?_⟩
          obtain rfl := Option.some.inj ho
          exact ⟨want_is (j := 24) (t := 116) rfl rfl (by kernel_rfl) ((hf 24 116 (by kernel_rfl) rfl).trans (show vs 24 = .bool true from hvp 24 (by kernel_rfl))) rfl, (fun _ h => by cases h), fun _ _ => rfl, (fun h _ => by cases h), (fun h _ => by cases h)⟩
        · refine ⟨fun o ho es vs f' S' hve hvp hf hx hK hE => ?_⟩
          obtain rfl := Option.some.inj ho
          exact ⟨want_is (j := 24) (t := 116) rfl rfl (by kernel_rfl) ((hf 24 116 (by kernel_rfl) rfl).trans (show vs 24 = .bool true from hvp 24 (by kernel_rfl))) rfl, (fun _ h => by cases h), fun _ _ => rfl, (fun h _ => by cases h), (fun h _ => by cases h)⟩
        · refine ⟨fun o ho es vs f' S' hve hvp hf hx hK hE => ?_⟩
          obtain rfl := Option.some.inj ho
          exact ⟨want_is (j := 24) (t := 116) rfl rfl (by kernel_rfl) ((hf 24 116 (by kernel_rfl) rfl).trans (show vs 24 = .bool true from hvp 24 (by kernel_rfl))) rfl, (fun _ h => by cases h), fun _ _ => rfl, (fun h _ => by cases h), (fun h _ => by cases h)⟩
        · refine ⟨fun o ho es vs f' S' hve hvp hf hx hK hE => ?_⟩
          obtain rfl := Option.some.inj ho
          exact ⟨want_is (j := 24) (t := 116) rfl rfl (by kernel_rfl) ((hf 24 116 (by kernel_rfl) rfl).trans (show vs 24 = .bool true from hvp 24 (by kernel_rfl))) rfl, (fun _ h => by cases h), fun _ _ => rfl, (fun h _ => by cases h), (fun h _ => by cases h)⟩
        · refine ⟨fun o ho es vs f' S' hve hvp hf hx hK hE => ?_⟩
          obtain rfl := Option.some.inj ho
          exact ⟨want_is (j := 24) (t := 116) rfl rfl (by kernel_rfl) ((hf 24 116 (by kernel_rfl) rfl).trans (show vs 24 = .bool true from hvp 24 (by kernel_rfl))) rfl, (fun _ h => by cases h), fun _ _ => rfl, (fun h _ => by cases h), (fun h _ => by cases h)⟩
        · refine ⟨fun o ho es vs f' S' hve hvp hf hx hK hE => ?_⟩
          obtain rfl := Option.some.inj ho
          exact ⟨want_is (j := 24) (t := 116) rfl rfl (by kernel_rfl) ((hf 24 116 (by kernel_rfl) rfl).trans (show vs 24 = .bool true from hvp 24 (by kernel_rfl))) rfl, (fun _ h => by cases h), fun _ _ => rfl, (fun h _ => by cases h), (fun h _ => by cases h)⟩
        · refine ⟨fun o ho es vs f' S' hve hvp hf hx hK hE => ?_⟩
          obtain rfl := Option.some.inj ho
          exact ⟨want_is (j := 24) (t := 116) rfl rfl (by kernel_rfl) ((hf 24 116 (by kernel_rfl) rfl).trans (show vs 24 = .bool true from hvp 24 (by kernel_rfl))) rfl, (fun _ h => by cases h), fun _ _ => rfl, (fun h _ => by cases h), (fun h _ => by cases h)⟩
        · refine ⟨fun o ho es vs f' S' hve hvp hf hx hK hE => ?_⟩
          obtain rfl := Option.some.inj ho
          exact ⟨want_is (j := 24) (t := 116) rfl rfl (by kernel_rfl) ((hf 24 116 (by kernel_rfl) rfl).trans (show vs 24 = .bool true from hvp 24 (by kernel_rfl))) rfl, (fun _ h => by cases h), fun _ _ => rfl, (fun h _ => by cases h), (fun h _ => by cases h)⟩
        refine ⟨fun o ho es vs f' S' hve hvp hf hx hK hE => ?_⟩
        obtain rfl := Option.some.inj ho
        exact ⟨want_is (j := 24) (t := 116) rfl rfl (by kernel_rfl) ((hf 24 116 (by kernel_rfl) rfl).trans (show vs 24 = .bool true from hvp 24 (by kernel_rfl))) rfl, (fun _ h => by cases h), fun _ _ => rfl, (fun h _ => by cases h), (fun h _ => by cases h)⟩
      intro es vs f' S' hve hvp hf hx hK hE
      obtain ⟨x113, hv20, rfl⟩ := hE
      refine ls_fr (F := upd (upd (upd (upd (upd (upd f' 1 (.pointer (some ⟨g1, 0, none⟩))) 3 (.slice x4.1 t2.1.length x4.2)) 7 (.pointer (some ⟨g23, 0, none⟩))) 8 (.int .i64 x8_4)) 9 (.int .i64 x9_4)) 116 (.bool true)) (fr_next (fr_next (fr_next (fr_next (fr_next (fr_next (rfl) ((hx 1 (by kernel_rfl)).trans (by kernel_rfl : (_ : Value) = .pointer (some ⟨g1, 0, none⟩)))) ((hx 3 (by kernel_rfl)).trans (by kernel_rfl : (_ : Value) = .slice x4.1 t2.1.length x4.2))) ((hx 7 (by kernel_rfl)).trans (by kernel_rfl : (_ : Value) = .pointer (some ⟨g23, 0, none⟩)))) ((hx 8 (by kernel_rfl)).trans (by kernel_rfl : (_ : Value) = .int .i64 x8_4))) ((hx 9 (by kernel_rfl)).trans (by kernel_rfl : (_ : Value) = .int .i64 x9_4))) ((hf 24 116 (by kernel_rfl) rfl).trans (show vs 24 = .bool true from hvp 24 (by kernel_rfl)))) ?_
      refine ls_sub (sput (sput s0 0 (some (Ck.var 27 g1 (([Value.int .i64 a0.1] ++ ([Value.slice A0_1 a0.2.1.length c0_1] ++ ([Value.slice A0_2 a0.2.2.1.length c0_2] ++ [Value.slice A0_3 a0.2.2.2.length c0_3]))))))) 2 (some (Ck.var 27 g23 (([Value.int .i64 t10.1.1] ++ ([Value.slice x12.1.1 t10.1.2.1.length x12.1.2] ++ ([Value.slice x12.2.1.1 t10.1.2.2.1.length x12.2.1.2] ++ [Value.slice x12.2.2.1 t10.1.2.2.2.length x12.2.2.2]))))))) (sub_put (by exact rfl) (sub_put (by exact rfl) (sub_nil _))) ?_
      refine lofx 24 116 false true ?_
      refine lv (.bool true) ?_
      refine ls_end ?_
      refine qn_then ?_
      refine cs_true (by kernel_rfl) ?_
      refine cs_seq ?_
      refine cs_region (l := [_]) ?_
      refine lv (.bool false) ?_
      refine ls_end ?_
      refine qn_then ?_
      refine cs_ret' ?_
      refine qr_then ?_
      refine qr_block ?_
      refine qr_then ?_
      refine qr_then ?_
      refine qr_block ?_
      refine qr_then ?_
      obtain rfl := Option.some.inj H
      refine qr_res (rs := [_]) rfl (fun w' hs => ⟨[.bool false], (res_tmp (by kernel_rfl) (.nil)), (), rfl, St.later hs0.ok (hle6.trans hle20) (hs.pick (ts := []) (cs := []) trivial (by decide))⟩)
    replace H := ite_f q104 H
    refine cs_sub (sput (sput s0 0 (some (Ck.var 27 g1 (([Value.int .i64 a0.1] ++ ([Value.slice A0_1 a0.2.1.length c0_1] ++ ([Value.slice A0_2 a0.2.2.1.length c0_2] ++ [Value.slice A0_3 a0.2.2.2.length c0_3]))))))) 2 (some (Ck.var 27 g23 (([Value.int .i64 t10.1.1] ++ ([Value.slice x12.1.1 t10.1.2.1.length x12.1.2] ++ ([Value.slice x12.2.1.1 t10.1.2.2.1.length x12.2.1.2] ++ [Value.slice x12.2.2.1 t10.1.2.2.2.length x12.2.2.2]))))))) (sub_put (by exact rfl) (sub_put (by exact rfl) (sub_nil _))) ?_
    refine cs_chain (l := [_, _, _, _, _, _, _, _, _, _, _, _, _, _, _, _, _, _, _, _, _, _, _, _, _, _, _, _, _, _, _, _, _, _, _, _, _, _, _]) [[], [0], [], [0, 1, 2], [0, 1, 2, 3], [0, 1, 2, 3, 4], [], [6], [], [6, 7, 8], [6, 7, 8, 9], [6, 7, 8, 9, 10], [0, 1, 2, 3, 4, 5, 6, 7, 8, 9, 10, 11], [0, 1, 2, 3, 4, 5, 6, 7, 8, 9, 10, 11, 12], [0, 1, 2, 3, 4, 5, 6, 7, 8, 9, 10, 11, 12, 13], [0, 1, 2, 3, 4, 5, 6, 7, 8, 9, 10, 11, 12, 13], [0, 1, 2, 3, 4, 5, 6, 7, 8, 9, 10, 11, 12, 13, 15], [0, 1, 2, 3, 4, 5, 6, 7, 8, 9, 10, 11, 12, 13], [0, 1, 2, 3, 4, 5, 6, 7, 8, 9, 10, 11, 12, 13, 15, 16, 17], [0, 1, 2, 3, 4, 5, 6, 7, 8, 9, 10, 11, 12, 13, 15, 16, 17, 18], [0, 1, 2, 3, 4, 5, 6, 7, 8, 9, 10, 11, 12, 13, 14, 15, 16, 17, 18, 19], [0, 1, 2, 3, 4, 5, 6, 7, 8, 9, 10, 11, 12, 13], [0, 1, 2, 3, 4, 5, 6, 7, 8, 9, 10, 11, 12, 13, 14, 15, 16, 17, 18, 19, 20, 21], [0, 1, 2, 3, 4, 5, 6, 7, 8, 9, 10, 11, 12, 13, 14, 15, 16, 17, 18, 19, 20, 21, 22], [0, 1, 2, 3, 4, 5, 6, 7, 8, 9, 10, 11, 12, 13, 14, 15, 16, 17, 18, 19, 20, 21, 22, 23], [0, 1, 2, 3, 4, 5, 6, 7, 8, 9, 10, 11, 12, 13, 14, 15, 16, 17, 18, 19, 20, 21, 22, 23, 24], [0, 1, 2, 3, 4, 5, 6, 7, 8, 9, 10, 11, 12, 13, 14, 15, 16, 17, 18, 19, 20, 21, 22, 23, 24], [0, 1, 2, 3, 4, 5, 6, 7, 8, 9, 10, 11, 12, 13, 14, 15, 16, 17, 18, 19, 20, 21, 22, 23, 24], [0, 1, 2, 3, 4, 5, 6, 7, 8, 9, 10, 11, 12, 13, 14, 15, 16, 17, 18, 19, 20, 21, 22, 23, 24, 27], [0, 1, 2, 3, 4, 5, 6, 7, 8, 9, 10, 11, 12, 13, 14, 15, 16, 17, 18, 19, 20, 21, 22, 23, 24], [0, 1, 2, 3, 4, 5, 6, 7, 8, 9, 10, 11, 12, 13, 14, 15, 16, 17, 18, 19, 20, 21, 22, 23, 24, 27, 28, 29], [0, 1, 2, 3, 4, 5, 6, 7, 8, 9, 10, 11, 12, 13, 14, 15, 16, 17, 18, 19, 20, 21, 22, 23, 24, 27, 28, 29, 30], [0, 1, 2, 3, 4, 5, 6, 7, 8, 9, 10, 11, 12, 13, 14, 15, 16, 17, 18, 19, 20, 21, 22, 23, 24, 26, 27, 28, 29, 30, 31], [0, 1, 2, 3, 4, 5, 6, 7, 8, 9, 10, 11, 12, 13, 14, 15, 16, 17, 18, 19, 20, 21, 22, 23, 24], [0, 1, 2, 3, 4, 5, 6, 7, 8, 9, 10, 11, 12, 13, 14, 15, 16, 17, 18, 19, 20, 21, 22, 23, 24, 26, 27, 28, 29, 30, 31, 32, 33], [0, 1, 2, 3, 4, 5, 6, 7, 8, 9, 10, 11, 12, 13, 14, 15, 16, 17, 18, 19, 20, 21, 22, 23, 24, 25, 26, 27, 28, 29, 30, 31, 32, 33, 34], [0, 1, 2, 3, 4, 5, 6, 7, 8, 9, 10, 11, 12, 13, 14, 15, 16, 17, 18, 19, 20, 21, 22, 23, 24], [0, 1, 2, 3, 4, 5, 6, 7, 8, 9, 10, 11, 12, 13, 14, 15, 16, 17, 18, 19, 20, 21, 22, 23, 24, 25, 26, 27, 28, 29, 30, 31, 32, 33, 34, 35, 36], [0, 1, 2, 3, 4, 5, 6, 7, 8, 9, 10, 11, 12, 13, 14, 15, 16, 17, 18, 19, 20, 21, 22, 23, 24, 25, 26, 27, 28, 29, 30, 31, 32, 33, 34, 35, 36, 37]] 37 (fun u => [0, 2].contains u) (efl [false, false, false, false, false, false, false, false, false, false, false, false, false, false, false, false, false, false, false, false, false, false, false, false, false, false, false, false, false, false, false, false, false, false, false, false, false]) (pvl [.val (.pointer (some ⟨g23, (0 + 1), none⟩)), .val (.slice x12.1.1 t10.1.2.1.length x12.1.2), .val (.int .i64 x9_4), .val (.pointer (some (ad87.add ((x9_4).toNat * 1)))), .val (.slice xq89.1 ((t10.1.2.1).getD (x9_4).toNat ([] : List Int)).length xq89.2), .val (.string y93), .val (.pointer (some ⟨g1, (0 + 1), none⟩)), .val (.slice A0_1 a0.2.1.length c0_1), .val (.int .i64 x9_4), .val (.pointer (some (ad96.add ((x9_4).toNat * 1)))), .val (.slice xq98.1 ((a0.2.1).getD (x9_4).toNat ([] : List Int)).length xq98.2), .val (.string y102), .val (.bool true), .val (.bool true), .val (undef), .val (undef), .val (undef), .val (undef), .val (undef), .val (undef), .val (undef), .val (undef), .val (undef), .val (.bool true), .val (.bool true), .val (undef), .val (undef), .val (undef), .val (undef), .val (undef), .val (undef), .val (undef), .val (undef), .val (undef), .val (undef), .val (undef), .val (undef)]) (Esl [fun (es : Nat → Value) (S' : Sto) => S' = sput (sput s0 0 (some (Ck.var 27 g1 (([Value.int .i64 a0.1] ++ ([Value.slice A0_1 a0.2.1.length c0_1] ++ ([Value.slice A0_2 a0.2.2.1.length c0_2] ++ [Value.slice A0_3 a0.2.2.2.length c0_3]))))))) 2 (some (Ck.var 27 g23 (([Value.int .i64 t10.1.1] ++ ([Value.slice x12.1.1 t10.1.2.1.length x12.1.2] ++ ([Value.slice x12.2.1.1 t10.1.2.2.1.length x12.2.1.2] ++ [Value.slice x12.2.2.1 t10.1.2.2.2.length x12.2.2.2]))))))] [0, 0, 0, 0, 0, 0, 0, 0, 0, 0, 0, 0, 0, 0, 0, 0, 0, 0, 0, 0, 0, 0, 0, 0, 0, 0, 0, 0, 0, 0, 0, 0, 0, 0, 0, 0, 0, 0]) (nxl [0, 0, 0, 0, 0, 0, 0, 0, 0, 0, 0, 0, 0, 0, 0, 0, 0, 0, 0, 0, 0, 0, 0, 0, 0, 0, 0, 0, 0, 0, 0, 0, 0, 0, 0, 0, 0]) (onl [true, true, true, true, true, true, true, true, true, true, true, true, true, true, false, false, false, false, false, false, false, false, false, true, true, false, false, false, false, false, false, false, false, false, false, false, false]) 37 (by kernel_rfl) (by kernel_rfl) (by kernel_rfl) (by kernel_rfl) (by kernel_rfl) (rs := [_, _]) rfl (by kernel_rfl) (by kernel_rfl) (fun es => ?_) ?_ ?_
    · exact (rfl : sput (sput s0 0 (some (Ck.var 27 g1 (([Value.int .i64 a0.1] ++ ([Value.slice A0_1 a0.2.1.length c0_1] ++ ([Value.slice A0_2 a0.2.2.1.length c0_2] ++ [Value.slice A0_3 a0.2.2.2.length c0_3]))))))) 2 (some (Ck.var 27 g23 (([Value.int .i64 t10.1.1] ++ ([Value.slice x12.1.1 t10.1.2.1.length x12.1.2] ++ ([Value.slice x12.2.1.1 t10.1.2.2.1.length x12.2.1.2] ++ [Value.slice x12.2.2.1 t10.1.2.2.2.length x12.2.2.2])))))) = sput (sput s0 0 (some (Ck.var 27 g1 (([Value.int .i64 a0.1] ++ ([Value.slice A0_1 a0.2.1.length c0_1] ++ ([Value.slice A0_2 a0.2.2.1.length c0_2] ++ [Value.slice A0_3 a0.2.2.2.length c0_3]))))))) 2 (some (Ck.var 27 g23 (([Value.int .i64 t10.1.1] ++ ([Value.slice x12.1.1 t10.1.2.1.length x12.1.2] ++ ([Value.slice x12.2.1.1 t10.1.2.2.1.length x12.2.1.2] ++ [Value.slice x12.2.2.1 t10.1.2.2.2.length x12.2.2.2])))))))
    · refine all_snoc (all_snoc (all_snoc (all_snoc (all_snoc (all_snoc (all_snoc (all_snoc (all_snoc (all_snoc (all_snoc (all_snoc (all_snoc (all_snoc (all_snoc (all_snoc (all_snoc (all_snoc (all_snoc (all_snoc (all_snoc (all_snoc (all_snoc (all_snoc (all_snoc (all_snoc (all_snoc (all_snoc (all_snoc (all_snoc (all_snoc (all_snoc (all_snoc (all_snoc (all_snoc (all_snoc (all_snoc (all_nil) ?_) ?_) ?_) ?_) ?_) ?_) ?_) ?_) ?_) ?_) ?_) ?_) ?_) ?_) ?_) ?_) ?_) ?_) ?_) ?_) ?_) ?_) ?_) ?_) ?_) ?_) ?_) ?_) ?_) ?_) ?_) ?_) ?_) ?_) ?_) ?_) ?_
      · refine ⟨fun o ho es vs f' S' hve hvp hf hx hK hE => ?_⟩
        obtain rfl := Option.some.inj ho
        refine ⟨want_none rfl, fun _ _ => ?_, (fun _ h => by cases h), (fun h _ => by cases h), (fun h _ => by cases h)⟩
        have hF := fr_next (rfl) ((hx 7 (by kernel_rfl)).trans (by kernel_rfl : (_ : Value) = .pointer (some ⟨g23, 0, none⟩)))
        refine ls_fr hF ?_
        refine lv (.pointer (some ⟨g23, (0 + 1), none⟩)) ?_
        exact ls_finp (.pointer (some ⟨g23, (0 + 1), none⟩)) (congrArg (fun z => upd z 92 _) hF.symm) rfl
      · refine ⟨fun o ho es vs f' S' hve hvp hf hx hK hE => ?_⟩
        obtain rfl := Option.some.inj ho
        refine ⟨want_none rfl, fun _ _ => ?_, (fun _ h => by cases h), (fun h _ => by cases h), (fun h _ => by cases h)⟩
        have hF := fr_next (rfl) ((hf 0 92 (by kernel_rfl) rfl).trans (show vs 0 = .pointer (some ⟨g23, (0 + 1), none⟩) from hvp 0 (by kernel_rfl)))
        refine ls_fr hF ?_
        refine ls_load (a0 := ⟨g23, (0 + 1), none⟩) (v := .slice x12.1.1 t10.1.2.1.length x12.1.2) (de := (TypeDesc.slice 23)) rfl rfl (by kernel_rfl) rfl (by kernel_rfl) (by kernel_rfl) (by kernel_rfl) (fun w hs => (hs.var (k := 2) ((hK 2 (by rfl)).trans (by exact rfl)) (Sub4.trans (Sub4.all _) (Sub4.skip (n := 1) (len1 _) (Sub4.head _ _))))) ?_
        exact ls_finp (.slice x12.1.1 t10.1.2.1.length x12.1.2) (congrArg (fun z => upd z 93 _) hF.symm) rfl
      · refine ⟨fun o ho es vs f' S' hve hvp hf hx hK hE => ?_⟩
        obtain rfl := Option.some.inj ho
        refine ⟨want_none rfl, fun _ _ => ?_, (fun _ h => by cases h), (fun h _ => by cases h), (fun h _ => by cases h)⟩
        have hF := fr_next (rfl) ((hx 9 (by kernel_rfl)).trans (by kernel_rfl : (_ : Value) = .int .i64 x9_4))
        refine ls_fr hF ?_
        refine lv (.int .i64 x9_4) ?_
        exact ls_finp (.int .i64 x9_4) (congrArg (fun z => upd z 94 _) hF.symm) rfl
      · refine ⟨fun o ho es vs f' S' hve hvp hf hx hK hE => ?_⟩
        obtain rfl := Option.some.inj ho
        refine ⟨want_none rfl, fun _ _ => ?_, (fun _ h => by cases h), (fun h _ => by cases h), (fun h _ => by cases h)⟩
        have hF := fr_next (fr_next (rfl) ((hf 1 93 (by kernel_rfl) rfl).trans (show vs 1 = .slice x12.1.1 t10.1.2.1.length x12.1.2 from hvp 1 (by kernel_rfl)))) ((hf 2 94 (by kernel_rfl) rfl).trans (show vs 2 = .int .i64 x9_4 from hvp 2 (by kernel_rfl)))
        refine ls_fr hF ?_
        refine ls_idxv (Ec.sld 23 Int) (A := x12.1.1) (c := x12.1.2) (l := t10.1.2.1) (k := .i64) (i := x9_4) (z := 1) (ad := ad87) rfl rfl (by kernel_rfl) hA88 rfl (by kernel_rfl) (by kernel_rfl) (by kernel_rfl) (by kernel_rfl) q85 q86 ?_
        exact ls_finp (.pointer (some (ad87.add ((x9_4).toNat * 1)))) (congrArg (fun z => upd z 95 _) hF.symm) rfl
      · refine ⟨fun o ho es vs f' S' hve hvp hf hx hK hE => ?_⟩
        obtain rfl := Option.some.inj ho
        refine ⟨want_none rfl, fun _ _ => ?_, (fun _ h => by cases h), (fun h _ => by cases h), (fun h _ => by cases h)⟩
        have hF := fr_next (rfl) ((hf 3 95 (by kernel_rfl) rfl).trans (show vs 3 = .pointer (some (ad87.add ((x9_4).toNat * 1))) from hvp 3 (by kernel_rfl)))
        refine ls_fr hF ?_
        refine ls_load (a0 := (ad87.add ((x9_4).toNat * 1))) (v := .slice xq89.1 ((t10.1.2.1).getD (x9_4).toNat ([] : List Int)).length xq89.2) (de := (TypeDesc.slice 5)) rfl rfl (by kernel_rfl) rfl (by kernel_rfl) (by kernel_rfl) (by kernel_rfl) (fun w hs => (hs.old hq90).cell0) ?_
        exact ls_finp (.slice xq89.1 ((t10.1.2.1).getD (x9_4).toNat ([] : List Int)).length xq89.2) (congrArg (fun z => upd z 96 _) hF.symm) rfl
      · refine ⟨fun o ho es vs f' S' hve hvp hf hx hK hE => ?_⟩
        obtain rfl := Option.some.inj ho
        refine ⟨want_none rfl, fun _ _ => ?_, (fun _ h => by cases h), (fun h _ => by cases h), (fun h _ => by cases h)⟩
        have hF := fr_next (rfl) ((hf 4 96 (by kernel_rfl) rfl).trans (show vs 4 = .slice xq89.1 ((t10.1.2.1).getD (x9_4).toNat ([] : List Int)).length xq89.2 from hvp 4 (by kernel_rfl)))
        refine ls_fr hF ?_
        refine ls_str (A := xq89.1) (c := xq89.2) (e := 5) (l := ((t10.1.2.1).getD (x9_4).toNat ([] : List Int))) rfl rfl (by kernel_rfl) rfl (by kernel_rfl) (by kernel_rfl) (by kernel_rfl) (by kernel_rfl) (fun w hs => (hs.old xR91)) ?_
        refine ls_ren 97 (v := .string (strOfNums ((t10.1.2.1).getD (x9_4).toNat ([] : List Int)))) (v' := .string y93) (by kernel_rfl) (by rw [hy94]) ?_
        exact ls_finp (.string y93) ((upd_upd _ _ _ _).trans (congrArg (fun z => upd z 97 _) hF.symm)) rfl
      · refine ⟨fun o ho es vs f' S' hve hvp hf hx hK hE => ?_⟩
        obtain rfl := Option.some.inj ho
        refine ⟨want_none rfl, fun _ _ => ?_, (fun _ h => by cases h), (fun h _ => by cases h), (fun h _ => by cases h)⟩
        have hF := fr_next (rfl) ((hx 1 (by kernel_rfl)).trans (by kernel_rfl : (_ : Value) = .pointer (some ⟨g1, 0, none⟩)))
        refine ls_fr hF ?_
        refine lv (.pointer (some ⟨g1, (0 + 1), none⟩)) ?_
        exact ls_finp (.pointer (some ⟨g1, (0 + 1), none⟩)) (congrArg (fun z => upd z 98 _) hF.symm) rfl
      · refine ⟨fun o ho es vs f' S' hve hvp hf hx hK hE => ?_⟩
        obtain rfl := Option.some.inj ho
        refine ⟨want_none rfl, fun _ _ => ?_, (fun _ h => by cases h), (fun h _ => by cases h), (fun h _ => by cases h)⟩
        have hF := fr_next (rfl) ((hf 6 98 (by kernel_rfl) rfl).trans (show vs 6 = .pointer (some ⟨g1, (0 + 1), none⟩) from hvp 6 (by kernel_rfl)))
        refine ls_fr hF ?_
        refine ls_load (a0 := ⟨g1, (0 + 1), none⟩) (v := .slice A0_1 a0.2.1.length c0_1) (de := (TypeDesc.slice 23)) rfl rfl (by kernel_rfl) rfl (by kernel_rfl) (by kernel_rfl) (by kernel_rfl) (fun w hs => (hs.var (k := 0) ((hK 0 (by rfl)).trans (by exact rfl)) (Sub4.trans (Sub4.all _) (Sub4.skip (n := 1) (len1 _) (Sub4.head _ _))))) ?_
        exact ls_finp (.slice A0_1 a0.2.1.length c0_1) (congrArg (fun z => upd z 99 _) hF.symm) rfl
      · refine ⟨fun o ho es vs f' S' hve hvp hf hx hK hE => ?_⟩
        obtain rfl := Option.some.inj ho
        refine ⟨want_none rfl, fun _ _ => ?_, (fun _ h => by cases h), (fun h _ => by cases h), (fun h _ => by cases h)⟩
        have hF := fr_next (rfl) ((hx 9 (by kernel_rfl)).trans (by kernel_rfl : (_ : Value) = .int .i64 x9_4))
        refine ls_fr hF ?_
        refine lv (.int .i64 x9_4) ?_
        exact ls_finp (.int .i64 x9_4) (congrArg (fun z => upd z 100 _) hF.symm) rfl
      · refine ⟨fun o ho es vs f' S' hve hvp hf hx hK hE => ?_⟩
        obtain rfl := Option.some.inj ho
        refine ⟨want_none rfl, fun _ _ => ?_, (fun _ h => by cases h), (fun h _ => by cases h), (fun h _ => by cases h)⟩
        have hF := fr_next (fr_next (rfl) ((hf 7 99 (by kernel_rfl) rfl).trans (show vs 7 = .slice A0_1 a0.2.1.length c0_1 from hvp 7 (by kernel_rfl)))) ((hf 8 100 (by kernel_rfl) rfl).trans (show vs 8 = .int .i64 x9_4 from hvp 8 (by kernel_rfl)))
        refine ls_fr hF ?_
        refine ls_idxv (Ec.sld 23 Int) (A := A0_1) (c := c0_1) (l := a0.2.1) (k := .i64) (i := x9_4) (z := 1) (ad := ad96) rfl rfl (by kernel_rfl) hA97 rfl (by kernel_rfl) (by kernel_rfl) (by kernel_rfl) (by kernel_rfl) q85 q95 ?_
        exact ls_finp (.pointer (some (ad96.add ((x9_4).toNat * 1)))) (congrArg (fun z => upd z 101 _) hF.symm) rfl
      · refine ⟨fun o ho es vs f' S' hve hvp hf hx hK hE => ?_⟩
        obtain rfl := Option.some.inj ho
        refine ⟨want_none rfl, fun _ _ => ?_, (fun _ h => by cases h), (fun h _ => by cases h), (fun h _ => by cases h)⟩
        have hF := fr_next (rfl) ((hf 9 101 (by kernel_rfl) rfl).trans (show vs 9 = .pointer (some (ad96.add ((x9_4).toNat * 1))) from hvp 9 (by kernel_rfl)))
        refine ls_fr hF ?_
        refine ls_load (a0 := (ad96.add ((x9_4).toNat * 1))) (v := .slice xq98.1 ((a0.2.1).getD (x9_4).toNat ([] : List Int)).length xq98.2) (de := (TypeDesc.slice 5)) rfl rfl (by kernel_rfl) rfl (by kernel_rfl) (by kernel_rfl) (by kernel_rfl) (fun w hs => (hs.old (Ro.mono hok21 hle20 (Ro.mono hok7 hle6 hq99))).cell0) ?_
        exact ls_finp (.slice xq98.1 ((a0.2.1).getD (x9_4).toNat ([] : List Int)).length xq98.2) (congrArg (fun z => upd z 102 _) hF.symm) rfl
      · refine ⟨fun o ho es vs f' S' hve hvp hf hx hK hE => ?_⟩
        obtain rfl := Option.some.inj ho
        refine ⟨want_none rfl, fun _ _ => ?_, (fun _ h => by cases h), (fun h _ => by cases h), (fun h _ => by cases h)⟩
        have hF := fr_next (rfl) ((hf 10 102 (by kernel_rfl) rfl).trans (show vs 10 = .slice xq98.1 ((a0.2.1).getD (x9_4).toNat ([] : List Int)).length xq98.2 from hvp 10 (by kernel_rfl)))
        refine ls_fr hF ?_
        refine ls_str (A := xq98.1) (c := xq98.2) (e := 5) (l := ((a0.2.1).getD (x9_4).toNat ([] : List Int))) rfl rfl (by kernel_rfl) rfl (by kernel_rfl) (by kernel_rfl) (by kernel_rfl) (by kernel_rfl) (fun w hs => (hs.old (Ro.mono hok21 hle20 (Ro.mono hok7 hle6 xR100)))) ?_
        refine ls_ren 103 (v := .string (strOfNums ((a0.2.1).getD (x9_4).toNat ([] : List Int)))) (v' := .string y102) (by kernel_rfl) (by rw [hy103]) ?_
        exact ls_finp (.string y102) ((upd_upd _ _ _ _).trans (congrArg (fun z => upd z 103 _) hF.symm)) rfl
      · refine ⟨fun o ho es vs f' S' hve hvp hf hx hK hE => ?_⟩
        obtain rfl := Option.some.inj ho
        refine ⟨want_none rfl, fun _ _ => ?_, (fun _ h => by cases h), (fun h _ => by cases h), (fun h _ => by cases h)⟩
        have hF := fr_next (fr_next (rfl) ((hf 5 97 (by kernel_rfl) rfl).trans (show vs 5 = .string y93 from hvp 5 (by kernel_rfl)))) ((hf 11 103 (by kernel_rfl) rfl).trans (show vs 11 = .string y102 from hvp 11 (by kernel_rfl)))
        refine ls_fr hF ?_
        refine lv (.bool (!(y93.toList == y102.toList))) ?_
        refine ls_ren 104 (v := .bool (!(y93.toList == y102.toList))) (v' := .bool true) (by kernel_rfl) (congrArg Value.bool (show (!(y93.toList == y102.toList)) = true from congrArg Bool.not (Bool.eq_false_iff.mpr q104))) ?_
        exact ls_finp (.bool true) ((upd_upd _ _ _ _).trans (congrArg (fun z => upd z 104 _) hF.symm)) rfl
      · refine ⟨fun o ho es vs f' S' hve hvp hf hx hK hE => ?_⟩
        obtain rfl := Option.some.inj ho
        refine ⟨want_none rfl, fun _ _ => ?_, (fun _ h => by cases h), (fun h _ => by cases h), (fun h _ => by cases h)⟩
        have hF := fr_next (rfl) ((hf 12 104 (by kernel_rfl) rfl).trans (show vs 12 = .bool true from hvp 12 (by kernel_rfl)))
        refine ls_fr hF ?_
        refine lv (.bool true) ?_
        exact ls_finp (.bool true) (congrArg (fun z => upd z 105 _) hF.symm) rfl
      · refine ⟨fun o ho es vs f' S' hve hvp hf hx hK hE => ?_⟩
        obtain rfl := Option.some.inj ho
        exact ⟨want_is (j := 13) (t := 105) rfl rfl (by kernel_rfl) ((hf 13 105 (by kernel_rfl) rfl).trans (show vs 13 = .bool true from hvp 13 (by kernel_rfl))) rfl, (fun _ h => by cases h), fun _ _ => rfl, (fun h _ => by cases h), (fun h _ => by cases h)⟩
      · refine ⟨fun o ho es vs f' S' hve hvp hf hx hK hE => ?_⟩
        obtain rfl := Option.some.inj ho
        exact ⟨want_is (j := 13) (t := 105) rfl rfl (by kernel_rfl) ((hf 13 105 (by kernel_rfl) rfl).trans (show vs 13 = .bool true from hvp 13 (by kernel_rfl))) rfl, (fun _ h => by cases h), fun _ _ => rfl, (fun h _ => by cases h), (fun h _ => by cases h)⟩
      · refine ⟨fun o ho es vs f' S' hve hvp hf hx hK hE => ?_⟩
        obtain rfl := Option.some.inj ho
        exact ⟨want_is (j := 13) (t := 105) rfl rfl (by kernel_rfl) ((hf 13 105 (by kernel_rfl) rfl).trans (show vs 13 = .bool true from hvp 13 (by kernel_rfl))) rfl, (fun _ h => by cases h), fun _ _ => rfl, (fun h _ => by cases h), (fun h _ => by cases h)⟩
      · refine ⟨fun o ho es vs f' S' hve hvp hf hx hK hE => ?_⟩
        obtain rfl := Option.some.inj ho
        exact ⟨want_is (j := 13) (t := 105) rfl rfl (by kernel_rfl) ((hf 13 105 (by kernel_rfl) rfl).trans (show vs 13 = .bool true from hvp 13 (by kernel_rfl))) rfl, (fun _ h => by cases h), fun _ _ => rfl, (fun h _ => by cases h), (fun h _ => by cases h)⟩
      · refine ⟨fun o ho es vs f' S' hve hvp hf hx hK hE => ?_⟩
        obtain rfl := Option.some.inj ho
        exact ⟨want_is (j := 13) (t := 105) rfl rfl (by kernel_rfl) ((hf 13 105 (by kernel_rfl) rfl).trans (show vs 13 = .bool true from hvp 13 (by kernel_rfl))) rfl, (fun _ h => by cases h), fun _ _ => rfl, (fun h _ => by cases h), (fun h _ => by cases h)⟩
      · refine ⟨fun o ho es vs f' S' hve hvp hf hx hK hE => ?_⟩
        obtain rfl := Option.some.inj ho
        exact ⟨want_is (j := 13) (t := 105) rfl rfl (by kernel_rfl) ((hf 13 105 (by kernel_rfl) rfl).trans (show vs 13 = .bool true from hvp 13 (by kernel_rfl))) rfl, (fun _ h => by cases h), fun _ _ => rfl, (fun h _ => by cases h), (fun h _ => by cases h)⟩
      · refine ⟨fun o ho es vs f' S' hve hvp hf hx hK hE => ?_⟩
        obtain rfl := Option.some.inj ho
        exact ⟨want_is (j := 13) (t := 105) rfl rfl (by kernel_rfl) ((hf 13 105 (by kernel_rfl) rfl).trans (show vs 13 = .bool true from hvp 13 (by kernel_rfl))) rfl, (fun _ h => by cases h), fun _ _ => rfl, (fun h _ => by cases h), (fun h _ => by cases h)⟩
      · refine ⟨fun o ho es vs f' S' hve hvp hf hx hK hE => ?_⟩
        obtain rfl := Option.some.inj ho
        exact ⟨want_is (j := 13) (t := 105) rfl rfl (by kernel_rfl) ((hf 13 105 (by kernel_rfl) rfl).trans (show vs 13 = .bool true from hvp 13 (by kernel_rfl))) rfl, (fun _ h => by cases h), fun _ _ => rfl, (fun h _ => by cases h), (fun h _ => by cases h)⟩
      · refine ⟨fun o ho es vs f' S' hve hvp hf hx hK hE => ?_⟩
        obtain rfl := Option.some.inj ho
        exact ⟨want_is (j := 13) (t := 105) rfl rfl (by kernel_rfl) ((hf 13 105 (by kernel_rfl) rfl).trans (show vs 13 = .bool true from hvp 13 (by kernel_rfl))) rfl, (fun _ h => by cases h), fun _ _ => rfl, (fun h _ => by cases h), (fun h _ => by cases h)⟩
      · refine ⟨fun o ho es vs f' S' hve hvp hf hx hK hE => ?_⟩
        obtain rfl := Option.some.inj ho
        refine ⟨want_none rfl, fun _ _ => ?_, (fun _ h => by cases h), (fun h _ => by cases h), (fun h _ => by cases h)⟩
        have hF := fr_next (fr_next (rfl) ((hf 13 105 (by kernel_rfl) rfl).trans (show vs 13 = .bool true from hvp 13 (by kernel_rfl)))) ((hf 22 114 (by kernel_rfl) rfl).trans (show vs 22 = undef from hvp 22 (by kernel_rfl)))
        refine ls_fr hF ?_
        refine lv (.bool true) ?_
        exact ls_finp (.bool true) (congrArg (fun z => upd z 115 _) hF.symm) rfl
      · refine ⟨fun o ho es vs f' S' hve hvp hf hx hK hE => ?_⟩
        obtain rfl := Option.some.inj ho
        refine ⟨want_none rfl, fun _ _ => ?_, (fun _ h => by cases h), (fun h _ => by cases h), (fun h _ => by cases h)⟩
        have hF := fr_next (rfl) ((hf 23 115 (by kernel_rfl) rfl).trans (show vs 23 = .bool true from hvp 23 (by kernel_rfl)))
        refine ls_fr hF ?_
        refine lv (.bool true) ?_
        exact ls_finp (.bool true) (congrArg (fun z => upd z 116 _) hF.symm) rfl
      · refine ⟨fun o ho es vs f' S' hve hvp hf hx hK hE => ?_⟩
        obtain rfl := Option.some.inj ho
        exact ⟨want_is (j := 24) (t := 116) rfl rfl (by kernel_rfl) ((hf 24 116 (by kernel_rfl) rfl).trans (show vs 24 = .bool true from hvp 24 (by kernel_rfl))) rfl, (fun _ h => by cases h), fun _ _ => rfl, (fun h _ => by cases h), (fun h _ => by cases h)⟩
      · refine ⟨fun o ho es vs f' S' hve hvp hf hx hK hE => ?_⟩
        obtain rfl := Option.some.inj ho
        exact ⟨want_is (j := 24) (t := 116) rfl rfl (by kernel_rfl) ((hf 24 116 (by kernel_rfl) rfl).trans (show vs 24 = .bool true from hvp 24 (by kernel_rfl))) rfl, (fun _ h => by cases h), fun _ _ => rfl, (fun h _ => by cases h), (fun h _ => by cases h)⟩
      · refine ⟨fun o ho es vs f' S' hve hvp hf hx hK hE => ?_⟩
        obtain rfl := Option.some.inj ho
        exact ⟨want_is (j := 24) (t := 116) rfl rfl (by kernel_rfl) ((hf 24 116 (by kernel_rfl) rfl).trans (show vs 24 = .bool true from hvp 24 (by kernel_rfl))) rfl, (fun _ h => by cases h), fun _ _ => rfl, (fun h _ => by cases h), (fun h _ => by cases h)⟩
      · refine ⟨fun o ho es vs f' S' hve hvp hf hx hK hE => ?_⟩
        obtain rfl := Option.some.inj ho
        exact ⟨want_is (j := 24) (t := 116) rfl rfl (by kernel_rfl) ((hf 24 116 (by kernel_rfl) rfl).trans (show vs 24 = .bool true from hvp 24 (by kernel_rfl))) rfl, (fun _ h => by cases h), fun _ _ => rfl, (fun h _ => by cases h), (fun h _ => by cases h)⟩
      · refine ⟨fun o ho es vs f' S' hve hvp hf hx hK hE => ?_⟩
        obtain rfl := Option.some.inj ho
        exact ⟨want_is (j := 24) (t := 116) rfl rfl (by kernel_rfl) ((hf 24 116 (by kernel_rfl) rfl).trans (show vs 24 = .bool true from hvp 24 (by kernel_rfl))) rfl, (fun _ h => by cases h), fun _ _ => rfl, (fun h _ => by cases h), (fun h _ => by cases h)⟩
      · refine ⟨fun o ho es vs f' S' hve hvp hf hx hK hE => ?_⟩
        obtain rfl := Option.some.inj ho
        exact ⟨want_is (j := 24) (t := 116) rfl rfl (by kernel_rfl) ((hf 24 116 (by kernel_rfl) rfl).trans (show vs 24 = .bool true from hvp 24 (by kernel_rfl))) rfl, (fun _ h => by cases h), fun _ _ => rfl, (fun h _ => by cases h), (fun h _ => by cases h)⟩
      · refine ⟨fun o ho es vs f' S' hve hvp hf hx hK hE => ?_⟩
        obtain rfl := Option.some.inj ho
        exact ⟨want_is (j := 24) (t := 116) rfl rfl (by kernel_rfl) ((hf 24 116 (by kernel_rfl) rfl).trans (show vs 24 = .bool true from hvp 24 (by kernel_rfl))) rfl, (fun _ h => by cases h), fun _ _ => rfl, (fun h _ => by cases h), (fun h _ => by cases h)⟩
      · refine ⟨fun o ho es vs f' S' hve hvp hf hx hK hE => ?_⟩
        obtain rfl := Option.some.inj ho
        exact ⟨want_is (j := 24) (t := 116) rfl rfl (by kernel_rfl) ((hf 24 116 (by kernel_rfl) rfl).trans (show vs 24 = .bool true from hvp 24 (by kernel_rfl))) rfl, (fun _ h => by cases h), fun _ _ => rfl, (fun h _ => by cases h), (fun h _ => by cases h)⟩
      · refine ⟨fun o ho es vs f' S' hve hvp hf hx hK hE => ?_⟩
        obtain rfl := Option.some.inj ho
        exact ⟨want_is (j := 24) (t := 116) rfl rfl (by kernel_rfl) ((hf 24 116 (by kernel_rfl) rfl).trans (show vs 24 = .bool true from hvp 24 (by kernel_rfl))) rfl, (fun _ h => by cases h), fun _ _ => rfl, (fun h _ => by cases h), (fun h _ => by cases h)⟩
      · refine ⟨fun o ho es vs f' S' hve hvp hf hx hK hE => ?_⟩
        obtain rfl := Option.some.inj ho
        exact ⟨want_is (j := 24) (t := 116) rfl rfl (by kernel_rfl) ((hf 24 116 (by kernel_rfl) rfl).trans (show vs 24 = .bool true from hvp 24 (by kernel_rfl))) rfl, (fun _ h => by cases h), fun _ _ => rfl, (fun h _ => by cases h), (fun h _ => by cases h)⟩
      · refine ⟨fun o ho es vs f' S' hve hvp hf hx hK hE => ?_⟩
        obtain rfl := Option.some.inj ho
        exact ⟨want_is (j := 24) (t := 116) rfl rfl (by kernel_rfl) ((hf 24 116 (by kernel_rfl) rfl).trans (show vs 24 = .bool true from hvp 24 (by kernel_rfl))) rfl, (fun _ h => by cases h), fun _ _ => rfl, (fun h _ => by cases h), (fun h _ => by cases h)⟩
      refine ⟨fun o ho es vs f' S' hve hvp hf hx hK hE => ?_⟩
      obtain rfl := Option.some.inj ho
      exact ⟨want_is (j := 24) (t := 116) rfl rfl (by kernel_rfl) ((hf 24 116 (by kernel_rfl) rfl).trans (show vs 24 = .bool true from hvp 24 (by kernel_rfl))) rfl, (fun _ h => by cases h), fun _ _ => rfl, (fun h _ => by cases h), (fun h _ => by cases h)⟩
    intro es vs f' S' hve hvp hf hx hK hE
    obtain rfl := hE
    refine ls_fr (F := upd (upd (upd (upd (upd (upd f' 1 (.pointer (some ⟨g1, 0, none⟩))) 3 (.slice x4.1 t2.1.length x4.2)) 7 (.pointer (some ⟨g23, 0, none⟩))) 8 (.int .i64 x8_4)) 9 (.int .i64 x9_4)) 116 (.bool true)) (fr_next (fr_next (fr_next (fr_next (fr_next (fr_next (rfl) ((hx 1 (by kernel_rfl)).trans (by kernel_rfl : (_ : Value) = .pointer (some ⟨g1, 0, none⟩)))) ((hx 3 (by kernel_rfl)).trans (by kernel_rfl : (_ : Value) = .slice x4.1 t2.1.length x4.2))) ((hx 7 (by kernel_rfl)).trans (by kernel_rfl : (_ : Value) = .pointer (some ⟨g23, 0, none⟩)))) ((hx 8 (by kernel_rfl)).trans (by kernel_rfl : (_ : Value) = .int .i64 x8_4))) ((hx 9 (by kernel_rfl)).trans (by kernel_rfl : (_ : Value) = .int .i64 x9_4))) ((hf 24 116 (by kernel_rfl) rfl).trans (show vs 24 = .bool true from hvp 24 (by kernel_rfl)))) ?_
    refine ls_sub (sput (sput s0 0 (some (Ck.var 27 g1 (([Value.int .i64 a0.1] ++ ([Value.slice A0_1 a0.2.1.length c0_1] ++ ([Value.slice A0_2 a0.2.2.1.length c0_2] ++ [Value.slice A0_3 a0.2.2.2.length c0_3]))))))) 2 (some (Ck.var 27 g23 (([Value.int .i64 t10.1.1] ++ ([Value.slice x12.1.1 t10.1.2.1.length x12.1.2] ++ ([Value.slice x12.2.1.1 t10.1.2.2.1.length x12.2.1.2] ++ [Value.slice x12.2.2.1 t10.1.2.2.2.length x12.2.2.2]))))))) (sub_put (by exact rfl) (sub_put (by exact rfl) (sub_nil _))) ?_
    refine lofx 24 116 false true ?_
    refine lv (.bool true) ?_
    refine ls_end ?_
    refine qn_then ?_
    refine cs_true (by kernel_rfl) ?_
    refine cs_seq ?_
    refine cs_region (l := [_]) ?_
    refine lv (.bool false) ?_
    refine ls_end ?_
    refine qn_then ?_
    refine cs_ret' ?_
    refine qr_then ?_
    refine qr_block ?_
    refine qr_then ?_
    refine qr_then ?_
    refine qr_block ?_
    refine qr_then ?_
    obtain rfl := Option.some.inj H
    refine qr_res (rs := [_]) rfl (fun w' hs => ⟨[.bool false], (res_tmp (by kernel_rfl) (.nil)), (), rfl, St.later hs0.ok (hle6.trans hle20) (hs.pick (ts := []) (cs := []) trivial (by decide))⟩)
  rintro f S ⟨fr6, rfl, rfl, H⟩
  replace H : ((if a0.1 = (0 : Int) then (if 0 ≤ x9_4 then (if x9_4 < (t10.1.2.2.1.length : Int) then lt (strOfNums ((t10.1.2.2.1).getD (x9_4).toNat ([] : List Int))) fun y35 => (if x9_4 < (a0.2.2.1.length : Int) then lt (strOfNums ((a0.2.2.1).getD (x9_4).toNat ([] : List Int))) fun y44 => (if (y35.toList == y44.toList) = true then (if x9_4 < (a0.2.1.length : Int) then (leaf_Weight.f k4 ((a0.2.1).getD (x9_4).toNat ([] : List Int)) ((a0.2.2.1).getD (x9_4).toNat ([] : List Int)) false).bind fun t62 => (shadowboxlaw16_LeafBack.lo4 a0 t2 t10 k4) (IntKind.wrap .i64 (x8_4 + t62)) (IntKind.wrap .i64 (x9_4 + (1 : Int))) else none) else some false) else none) else none) else none) else (if 0 ≤ x9_4 then (if x9_4 < (t10.1.2.2.2.length : Int) then (if x9_4 < (a0.2.2.2.length : Int) then (if ((((t10.1.2.2.2).getD (x9_4).toNat ((0 : Int), (0 : Int), (0 : Int), (0 : Int), (vrep 32 (0 : Int)))).1 == ((a0.2.2.2).getD (x9_4).toNat ((0 : Int), (0 : Int), (0 : Int), (0 : Int), (vrep 32 (0 : Int)))).1) && ((((t10.1.2.2.2).getD (x9_4).toNat ((0 : Int), (0 : Int), (0 : Int), (0 : Int), (vrep 32 (0 : Int)))).2.1 == ((a0.2.2.2).getD (x9_4).toNat ((0 : Int), (0 : Int), (0 : Int), (0 : Int), (vrep 32 (0 : Int)))).2.1) && ((((t10.1.2.2.2).getD (x9_4).toNat ((0 : Int), (0 : Int), (0 : Int), (0 : Int), (vrep 32 (0 : Int)))).2.2.1 == ((a0.2.2.2).getD (x9_4).toNat ((0 : Int), (0 : Int), (0 : Int), (0 : Int), (vrep 32 (0 : Int)))).2.2.1) && ((((t10.1.2.2.2).getD (x9_4).toNat ((0 : Int), (0 : Int), (0 : Int), (0 : Int), (vrep 32 (0 : Int)))).2.2.2.1 == ((a0.2.2.2).getD (x9_4).toNat ((0 : Int), (0 : Int), (0 : Int), (0 : Int), (vrep 32 (0 : Int)))).2.2.2.1) && ((((t10.1.2.2.2).getD (x9_4).toNat ((0 : Int), (0 : Int), (0 : Int), (0 : Int), (vrep 32 (0 : Int)))).2.2.2.2).1 == (((a0.2.2.2).getD (x9_4).toNat ((0 : Int), (0 : Int), (0 : Int), (0 : Int), (vrep 32 (0 : Int)))).2.2.2.2).1))))) = true then (if x9_4 < (a0.2.1.length : Int) then (leaf_Weight.f k4 ((a0.2.1).getD (x9_4).toNat ([] : List Int)) ([] : List Int) true).bind fun t82 => (shadowboxlaw16_LeafBack.lo4 a0 t2 t10 k4) (IntKind.wrap .i64 (x8_4 + t82)) (IntKind.wrap .i64 (x9_4 + (1 : Int))) else none) else some false) else none) else none) else none))) = some r := H
  refine cs_seq ?_
  refine cs_region (l := [_, _, _]) ?_
  refine lv (.pointer (some ⟨g1, (0 + 0), none⟩)) ?_
  refine ls_load (a0 := ⟨g1, (0 + 0), none⟩) (v := .int .i64 a0.1) (de := (TypeDesc.int .i64)) rfl rfl (by kernel_rfl) rfl (by kernel_rfl) (by kernel_rfl) (by kernel_rfl) (fun w hs => (hs.var (k := 0) (by exact rfl) (Sub4.trans (Sub4.all _) (Sub4.head _ _)))) ?_
  refine lv (.bool (decide (a0.1 = (0 : Int)))) ?_
  refine ls_end ?_
  refine qn_then ?_
  by_cases q24 : a0.1 = (0 : Int)
  · replace H := ite_t q24 H
    refine cs_know (c := true) (dec_t q24) 133 (by kernel_rfl) ?_
    refine cs_true (by kernel_rfl) ?_
    refine cs_seq ?_
    refine cs_seq ?_
    obtain ⟨s26_0, hs26_0⟩ := exv (.pointer (some ⟨g23, (0 + 2), none⟩))
    refine have_opa shadowboxlaw16_LeafBack.tab24 3 0 (fun sp => sp 0 = s26_0) (fun sp on hA hon => ?_) (fun ops26_0 => ?_)
    · refine ⟨fun o ho vs Rs f' S' w hp hf hx hS hR hs => ?_⟩
      obtain rfl := Option.some.inj ho
      exact opv (.pointer (some ⟨g23, (0 + 2), none⟩)) hA hs26_0 hon (fr_next (rfl) ((hx 7 (by kernel_rfl)).trans (by kernel_rfl : (_ : Value) = .pointer (some ⟨g23, 0, none⟩))))
    obtain ⟨s26_1, hs26_1⟩ := exv (.slice x12.2.1.1 t10.1.2.2.1.length x12.2.1.2)
    refine have_opa shadowboxlaw16_LeafBack.tab24 3 1 (fun sp => sp 1 = s26_1 ∧ sp 0 = s26_0) (fun sp on hA hon => ?_) (fun ops26_1 => ?_)
    · refine ⟨fun o ho vs Rs f' S' w hp hf hx hS hR hs => ?_⟩
      obtain rfl := Option.some.inj ho
      obtain ⟨hv0, hR0⟩ := (spe hA.2 hs26_0 (hp 0 (by kernel_rfl)))
      rw [hA.1, hs26_1]
      refine wn hon ?_
      have hF := fr_next (rfl) ((hf 0 134 (by kernel_rfl) rfl).trans hv0)
      refine ls_fr hF ?_
      refine ls_load (a0 := ⟨g23, (0 + 2), none⟩) (v := .slice x12.2.1.1 t10.1.2.2.1.length x12.2.1.2) (de := (TypeDesc.slice 23)) rfl rfl (by kernel_rfl) rfl (by kernel_rfl) (by kernel_rfl) (by kernel_rfl) (fun w1 hs1 => cell_step hs1.below.bw (hs.var (k := 2) ((hS 2 (by kernel_rfl)).trans (by exact rfl)) (Sub4.trans (Sub4.all _) (Sub4.skip (n := 1) (len1 _) (Sub4.skip (n := 1) (len1 _) (Sub4.head _ _)))))) ?_
      exact ls_fin s0 _ (congrArg (fun z => upd z 135 _) hF.symm) ⟨rfl, rfl⟩ (sub_nil _)
    obtain ⟨s26_2, hs26_2⟩ := exv (.int .i64 x9_4)
    refine have_opa shadowboxlaw16_LeafBack.tab24 3 2 (fun sp => sp 2 = s26_2) (fun sp on hA hon => ?_) (fun ops26_2 => ?_)
    · refine ⟨fun o ho vs Rs f' S' w hp hf hx hS hR hs => ?_⟩
      obtain rfl := Option.some.inj ho
      exact opv (.int .i64 x9_4) hA hs26_2 hon (fr_next (rfl) ((hx 9 (by kernel_rfl)).trans (by kernel_rfl : (_ : Value) = .int .i64 x9_4)))
    obtain ⟨q27, H⟩ := ite_need H
    obtain ⟨q28, H⟩ := ite_need H
    obtain ⟨ad29, hA30⟩ := idoS_at (l := t10.1.2.2.1) (i := x9_4) fR15 q27 q28
    obtain ⟨s26_3, hs26_3⟩ := exv (.pointer (some (ad29.add ((x9_4).toNat * 1))))
    refine have_opa shadowboxlaw16_LeafBack.tab24 3 3 (fun sp => sp 3 = s26_3 ∧ sp 1 = s26_1 ∧ sp 2 = s26_2) (fun sp on hA hon => ?_) (fun ops26_3 => ?_)
    · refine ⟨fun o ho vs Rs f' S' w hp hf hx hS hR hs => ?_⟩
      obtain rfl := Option.some.inj ho
      obtain ⟨hv1, hR1⟩ := (spe hA.2.1 hs26_1 (hp 1 (by kernel_rfl)))
      obtain ⟨hv2, hR2⟩ := (spe hA.2.2 hs26_2 (hp 2 (by kernel_rfl)))
      rw [hA.1, hs26_3]
      refine wn hon ?_
      have hF := fr_next (fr_next (rfl) ((hf 1 135 (by kernel_rfl) rfl).trans hv1)) ((hf 2 136 (by kernel_rfl) rfl).trans hv2)
      refine ls_fr hF ?_
      refine ls_idxv (Ec.sld 23 Int) (A := x12.2.1.1) (c := x12.2.1.2) (l := t10.1.2.2.1) (k := .i64) (i := x9_4) (z := 1) (ad := ad29) rfl rfl (by kernel_rfl) hA30 rfl (by kernel_rfl) (by kernel_rfl) (by kernel_rfl) (by kernel_rfl) q27 q28 ?_
      exact ls_fin s0 _ (congrArg (fun z => upd z 137 _) hF.symm) ⟨rfl, rfl⟩ (sub_nil _)
    obtain ⟨xq31, hq32, xR33, xC34⟩ := RoS.el (l := t10.1.2.2.1) fR15 hA30 (i := x9_4) q27 q28
    obtain ⟨s26_4, hs26_4⟩ := exv (.slice xq31.1 ((t10.1.2.2.1).getD (x9_4).toNat ([] : List Int)).length xq31.2)
    refine have_opa shadowboxlaw16_LeafBack.tab24 3 4 (fun sp => sp 4 = s26_4 ∧ sp 3 = s26_3) (fun sp on hA hon => ?_) (fun ops26_4 => ?_)
    · refine ⟨fun o ho vs Rs f' S' w hp hf hx hS hR hs => ?_⟩
      obtain rfl := Option.some.inj ho
      obtain ⟨hv3, hR3⟩ := (spe hA.2 hs26_3 (hp 3 (by kernel_rfl)))
      rw [hA.1, hs26_4]
      refine wn hon ?_
      have hF := fr_next (rfl) ((hf 3 137 (by kernel_rfl) rfl).trans hv3)
      refine ls_fr hF ?_
      refine ls_load (a0 := (ad29.add ((x9_4).toNat * 1))) (v := .slice xq31.1 ((t10.1.2.2.1).getD (x9_4).toNat ([] : List Int)).length xq31.2) (de := (TypeDesc.slice 5)) rfl rfl (by kernel_rfl) rfl (by kernel_rfl) (by kernel_rfl) (by kernel_rfl) (fun w1 hs1 => (Rd.step (hs.old hq32) hs1.below.bw).cell0) ?_
      exact ls_fin s0 _ (congrArg (fun z => upd z 138 _) hF.symm) ⟨rfl, rfl⟩ (sub_nil _)
    obtain ⟨y35, hy36, H⟩ := lt_some H
    obtain ⟨s26_5, hs26_5⟩ := exv (.string y35)
    refine have_opa shadowboxlaw16_LeafBack.tab24 3 5 (fun sp => sp 5 = s26_5 ∧ sp 4 = s26_4) (fun sp on hA hon => ?_) (fun ops26_5 => ?_)
    · refine ⟨fun o ho vs Rs f' S' w hp hf hx hS hR hs => ?_⟩
      obtain rfl := Option.some.inj ho
      obtain ⟨hv4, hR4⟩ := (spe hA.2 hs26_4 (hp 4 (by kernel_rfl)))
      rw [hA.1, hs26_5]
      refine wn hon ?_
      have hF := fr_next (rfl) ((hf 4 138 (by kernel_rfl) rfl).trans hv4)
      refine ls_fr hF ?_
      refine ls_str (A := xq31.1) (c := xq31.2) (e := 5) (l := ((t10.1.2.2.1).getD (x9_4).toNat ([] : List Int))) rfl rfl (by kernel_rfl) rfl (by kernel_rfl) (by kernel_rfl) (by kernel_rfl) (by kernel_rfl) (fun w1 hs1 => (Rd.step (hs.old xR33) hs1.below.bw)) ?_
      refine ls_ren 139 (v := .string (strOfNums ((t10.1.2.2.1).getD (x9_4).toNat ([] : List Int)))) (v' := .string y35) (by kernel_rfl) (by rw [hy36]) ?_
      exact ls_fin s0 _ ((upd_upd _ _ _ _).trans (congrArg (fun z => upd z 139 _) hF.symm)) ⟨rfl, rfl⟩ (sub_nil _)
    obtain ⟨s26_6, hs26_6⟩ := exv (.pointer (some ⟨g1, (0 + 2), none⟩))
    refine have_opa shadowboxlaw16_LeafBack.tab24 3 6 (fun sp => sp 6 = s26_6) (fun sp on hA hon => ?_) (fun ops26_6 => ?_)
    · refine ⟨fun o ho vs Rs f' S' w hp hf hx hS hR hs => ?_⟩
      obtain rfl := Option.some.inj ho
      exact opv (.pointer (some ⟨g1, (0 + 2), none⟩)) hA hs26_6 hon (fr_next (rfl) ((hx 1 (by kernel_rfl)).trans (by kernel_rfl : (_ : Value) = .pointer (some ⟨g1, 0, none⟩))))
    obtain ⟨s26_7, hs26_7⟩ := exv (.slice A0_2 a0.2.2.1.length c0_2)
    refine have_opa shadowboxlaw16_LeafBack.tab24 3 7 (fun sp => sp 7 = s26_7 ∧ sp 6 = s26_6) (fun sp on hA hon => ?_) (fun ops26_7 => ?_)
    · refine ⟨fun o ho vs Rs f' S' w hp hf hx hS hR hs => ?_⟩
      obtain rfl := Option.some.inj ho
      obtain ⟨hv6, hR6⟩ := (spe hA.2 hs26_6 (hp 6 (by kernel_rfl)))
      rw [hA.1, hs26_7]
      refine wn hon ?_
      have hF := fr_next (rfl) ((hf 6 140 (by kernel_rfl) rfl).trans hv6)
      refine ls_fr hF ?_
      refine ls_load (a0 := ⟨g1, (0 + 2), none⟩) (v := .slice A0_2 a0.2.2.1.length c0_2) (de := (TypeDesc.slice 23)) rfl rfl (by kernel_rfl) rfl (by kernel_rfl) (by kernel_rfl) (by kernel_rfl) (fun w1 hs1 => cell_step hs1.below.bw (hs.var (k := 0) ((hS 0 (by kernel_rfl)).trans (by exact rfl)) (Sub4.trans (Sub4.all _) (Sub4.skip (n := 1) (len1 _) (Sub4.skip (n := 1) (len1 _) (Sub4.head _ _)))))) ?_
      exact ls_fin s0 _ (congrArg (fun z => upd z 141 _) hF.symm) ⟨rfl, rfl⟩ (sub_nil _)
    obtain ⟨s26_8, hs26_8⟩ := exv (.int .i64 x9_4)
    refine have_opa shadowboxlaw16_LeafBack.tab24 3 8 (fun sp => sp 8 = s26_8) (fun sp on hA hon => ?_) (fun ops26_8 => ?_)
    · refine ⟨fun o ho vs Rs f' S' w hp hf hx hS hR hs => ?_⟩
      obtain rfl := Option.some.inj ho
      exact opv (.int .i64 x9_4) hA hs26_8 hon (fr_next (rfl) ((hx 9 (by kernel_rfl)).trans (by kernel_rfl : (_ : Value) = .int .i64 x9_4)))
    obtain ⟨q37, H⟩ := ite_need H
    obtain ⟨ad38, hA39⟩ := idoS_at (l := a0.2.2.1) (i := x9_4) (RoS.mono hok21 hle20 (RoS.mono hok7 hle6 R0_2)) q27 q37
    obtain ⟨s26_9, hs26_9⟩ := exv (.pointer (some (ad38.add ((x9_4).toNat * 1))))
    refine have_opa shadowboxlaw16_LeafBack.tab24 3 9 (fun sp => sp 9 = s26_9 ∧ sp 7 = s26_7 ∧ sp 8 = s26_8) (fun sp on hA hon => ?_) (fun ops26_9 => ?_)
    · refine ⟨fun o ho vs Rs f' S' w hp hf hx hS hR hs => ?_⟩
      obtain rfl := Option.some.inj ho
      obtain ⟨hv7, hR7⟩ := (spe hA.2.1 hs26_7 (hp 7 (by kernel_rfl)))
      obtain ⟨hv8, hR8⟩ := (spe hA.2.2 hs26_8 (hp 8 (by kernel_rfl)))
      rw [hA.1, hs26_9]
      refine wn hon ?_
      have hF := fr_next (fr_next (rfl) ((hf 7 141 (by kernel_rfl) rfl).trans hv7)) ((hf 8 142 (by kernel_rfl) rfl).trans hv8)
      refine ls_fr hF ?_
      refine ls_idxv (Ec.sld 23 Int) (A := A0_2) (c := c0_2) (l := a0.2.2.1) (k := .i64) (i := x9_4) (z := 1) (ad := ad38) rfl rfl (by kernel_rfl) hA39 rfl (by kernel_rfl) (by kernel_rfl) (by kernel_rfl) (by kernel_rfl) q27 q37 ?_
      exact ls_fin s0 _ (congrArg (fun z => upd z 143 _) hF.symm) ⟨rfl, rfl⟩ (sub_nil _)
    obtain ⟨xq40, hq41, xR42, xC43⟩ := RoS.el (l := a0.2.2.1) R0_2 hA39 (i := x9_4) q27 q37
    obtain ⟨s26_10, hs26_10⟩ := exv (.slice xq40.1 ((a0.2.2.1).getD (x9_4).toNat ([] : List Int)).length xq40.2)
    refine have_opa shadowboxlaw16_LeafBack.tab24 3 10 (fun sp => sp 10 = s26_10 ∧ sp 9 = s26_9) (fun sp on hA hon => ?_) (fun ops26_10 => ?_)
    · refine ⟨fun o ho vs Rs f' S' w hp hf hx hS hR hs => ?_⟩
      obtain rfl := Option.some.inj ho
      obtain ⟨hv9, hR9⟩ := (spe hA.2 hs26_9 (hp 9 (by kernel_rfl)))
      rw [hA.1, hs26_10]
      refine wn hon ?_
      have hF := fr_next (rfl) ((hf 9 143 (by kernel_rfl) rfl).trans hv9)
      refine ls_fr hF ?_
      refine ls_load (a0 := (ad38.add ((x9_4).toNat * 1))) (v := .slice xq40.1 ((a0.2.2.1).getD (x9_4).toNat ([] : List Int)).length xq40.2) (de := (TypeDesc.slice 5)) rfl rfl (by kernel_rfl) rfl (by kernel_rfl) (by kernel_rfl) (by kernel_rfl) (fun w1 hs1 => (Rd.step (hs.old (Ro.mono hok21 hle20 (Ro.mono hok7 hle6 hq41))) hs1.below.bw).cell0) ?_
      exact ls_fin s0 _ (congrArg (fun z => upd z 144 _) hF.symm) ⟨rfl, rfl⟩ (sub_nil _)
    obtain ⟨y44, hy45, H⟩ := lt_some H
    obtain ⟨s26_11, hs26_11⟩ := exv (.string y44)
    refine have_opa shadowboxlaw16_LeafBack.tab24 3 11 (fun sp => sp 11 = s26_11 ∧ sp 10 = s26_10) (fun sp on hA hon => ?_) (fun ops26_11 => ?_)
    · refine ⟨fun o ho vs Rs f' S' w hp hf hx hS hR hs => ?_⟩
      obtain rfl := Option.some.inj ho
      obtain ⟨hv10, hR10⟩ := (spe hA.2 hs26_10 (hp 10 (by kernel_rfl)))
      rw [hA.1, hs26_11]
      refine wn hon ?_
      have hF := fr_next (rfl) ((hf 10 144 (by kernel_rfl) rfl).trans hv10)
      refine ls_fr hF ?_
      refine ls_str (A := xq40.1) (c := xq40.2) (e := 5) (l := ((a0.2.2.1).getD (x9_4).toNat ([] : List Int))) rfl rfl (by kernel_rfl) rfl (by kernel_rfl) (by kernel_rfl) (by kernel_rfl) (by kernel_rfl) (fun w1 hs1 => (Rd.step (hs.old (Ro.mono hok21 hle20 (Ro.mono hok7 hle6 xR42))) hs1.below.bw)) ?_
      refine ls_ren 145 (v := .string (strOfNums ((a0.2.2.1).getD (x9_4).toNat ([] : List Int)))) (v' := .string y44) (by kernel_rfl) (by rw [hy45]) ?_
      exact ls_fin s0 _ ((upd_upd _ _ _ _).trans (congrArg (fun z => upd z 145 _) hF.symm)) ⟨rfl, rfl⟩ (sub_nil _)
    refine cs_draw shadowboxlaw16_LeafBack.tab24 12 3 (spl [s26_0, s26_1, s26_2, s26_3, s26_4, s26_5, s26_6, s26_7, s26_8, s26_9, s26_10, s26_11]) (onl [true, true, true, true, true, true, true, true, true, true, true, true]) (by kernel_rfl) (by kernel_rfl) (by kernel_rfl) (by kernel_rfl) (rs := [_]) rfl (by kernel_rfl) (by kernel_rfl) (all_snoc (all_snoc (all_snoc (all_snoc (all_snoc (all_snoc (all_snoc (all_snoc (all_snoc (all_snoc (all_snoc (all_snoc (all_nil) (ops26_0 _ _ rfl rfl)) (ops26_1 _ _ ⟨rfl, rfl⟩ rfl)) (ops26_2 _ _ rfl rfl)) (ops26_3 _ _ ⟨rfl, rfl, rfl⟩ rfl)) (ops26_4 _ _ ⟨rfl, rfl⟩ rfl)) (ops26_5 _ _ ⟨rfl, rfl⟩ rfl)) (ops26_6 _ _ rfl rfl)) (ops26_7 _ _ ⟨rfl, rfl⟩ rfl)) (ops26_8 _ _ rfl rfl)) (ops26_9 _ _ ⟨rfl, rfl, rfl⟩ rfl)) (ops26_10 _ _ ⟨rfl, rfl⟩ rfl)) (ops26_11 _ _ ⟨rfl, rfl⟩ rfl)) ?_
    intro vs Rs f' S' hp hf hx hS hR
    obtain ⟨hv5, hR5⟩ := (spe rfl hs26_5 (hp 5 (by kernel_rfl)))
    obtain ⟨hv11, hR11⟩ := (spe rfl hs26_11 (hp 11 (by kernel_rfl)))
    refine ls_fr (F := upd (upd (upd (upd (upd (upd (upd f' 1 (.pointer (some ⟨g1, 0, none⟩))) 3 (.slice x4.1 t2.1.length x4.2)) 7 (.pointer (some ⟨g23, 0, none⟩))) 8 (.int .i64 x8_4)) 9 (.int .i64 x9_4)) 139 (.string y35)) 145 (.string y44)) (fr_next (fr_next (fr_next (fr_next (fr_next (fr_next (fr_next (rfl) ((hx 1 (by kernel_rfl)).trans (by kernel_rfl : (_ : Value) = .pointer (some ⟨g1, 0, none⟩)))) ((hx 3 (by kernel_rfl)).trans (by kernel_rfl : (_ : Value) = .slice x4.1 t2.1.length x4.2))) ((hx 7 (by kernel_rfl)).trans (by kernel_rfl : (_ : Value) = .pointer (some ⟨g23, 0, none⟩)))) ((hx 8 (by kernel_rfl)).trans (by kernel_rfl : (_ : Value) = .int .i64 x8_4))) ((hx 9 (by kernel_rfl)).trans (by kernel_rfl : (_ : Value) = .int .i64 x9_4))) ((hf 5 139 (by kernel_rfl) rfl).trans hv5)) ((hf 11 145 (by kernel_rfl) rfl).trans hv11)) ?_
    refine ls_sub (sput (sput s0 0 (some (Ck.var 27 g1 (([Value.int .i64 a0.1] ++ ([Value.slice A0_1 a0.2.1.length c0_1] ++ ([Value.slice A0_2 a0.2.2.1.length c0_2] ++ [Value.slice A0_3 a0.2.2.2.length c0_3]))))))) 2 (some (Ck.var 27 g23 (([Value.int .i64 t10.1.1] ++ ([Value.slice x12.1.1 t10.1.2.1.length x12.1.2] ++ ([Value.slice x12.2.1.1 t10.1.2.2.1.length x12.2.1.2] ++ [Value.slice x12.2.2.1 t10.1.2.2.2.length x12.2.2.2]))))))) (sub_put ((hS 2 (by kernel_rfl)).trans (by exact rfl)) (sub_put ((hS 0 (by kernel_rfl)).trans (by exact rfl)) (sub_nil _))) ?_
    refine lv (.bool (!(y35.toList == y44.toList))) ?_
    refine ls_end ?_
    refine qn_then ?_
    by_cases q46 : (y35.toList == y44.toList) = true
    · replace H := ite_t q46 H
      refine cs_know (c := false) (congrArg Bool.not (q46)) 146 (by kernel_rfl) ?_
      refine cs_false (by kernel_rfl) ?_
      refine cs_skip' ?_
      refine qn_then ?_
      obtain ⟨s48_0, hs48_0⟩ := exv (.int .i64 x8_4)
      refine have_opa shadowboxlaw16_LeafBack.tab46 99 0 (fun sp => sp 0 = s48_0) (fun sp on hA hon => ?_) (fun ops48_0 => ?_)
      · refine ⟨fun o ho vs Rs f' S' w hp hf hx hS hR hs => ?_⟩
        obtain rfl := Option.some.inj ho
        exact opv (.int .i64 x8_4) hA hs48_0 hon (fr_next (rfl) ((hx 8 (by kernel_rfl)).trans (by kernel_rfl : (_ : Value) = .int .i64 x8_4)))
      obtain ⟨s48_1, hs48_1⟩ := exv (.pointer (some ⟨g1, (0 + 1), none⟩))
      refine have_opa shadowboxlaw16_LeafBack.tab46 99 1 (fun sp => sp 1 = s48_1) (fun sp on hA hon => ?_) (fun ops48_1 => ?_)
      · refine ⟨fun o ho vs Rs f' S' w hp hf hx hS hR hs => ?_⟩
        obtain rfl := Option.some.inj ho
        exact opv (.pointer (some ⟨g1, (0 + 1), none⟩)) hA hs48_1 hon (fr_next (rfl) ((hx 1 (by kernel_rfl)).trans (by kernel_rfl : (_ : Value) = .pointer (some ⟨g1, 0, none⟩))))
      obtain ⟨s48_2, hs48_2⟩ := exv (.slice A0_1 a0.2.1.length c0_1)
      refine have_opa shadowboxlaw16_LeafBack.tab46 99 2 (fun sp => sp 2 = s48_2 ∧ sp 1 = s48_1) (fun sp on hA hon => ?_) (fun ops48_2 => ?_)
      · refine ⟨fun o ho vs Rs f' S' w hp hf hx hS hR hs => ?_⟩
        obtain rfl := Option.some.inj ho
        obtain ⟨hv1, hR1⟩ := (spe hA.2 hs48_1 (hp 1 (by kernel_rfl)))
        rw [hA.1, hs48_2]
        refine wn hon ?_
        have hF := fr_next (rfl) ((hf 1 148 (by kernel_rfl) rfl).trans hv1)
        refine ls_fr hF ?_
        refine ls_load (a0 := ⟨g1, (0 + 1), none⟩) (v := .slice A0_1 a0.2.1.length c0_1) (de := (TypeDesc.slice 23)) rfl rfl (by kernel_rfl) rfl (by kernel_rfl) (by kernel_rfl) (by kernel_rfl) (fun w1 hs1 => cell_step hs1.below.bw (hs.var (k := 0) ((hS 0 (by kernel_rfl)).trans (by exact rfl)) (Sub4.trans (Sub4.all _) (Sub4.skip (n := 1) (len1 _) (Sub4.head _ _))))) ?_
        exact ls_fin s0 _ (congrArg (fun z => upd z 149 _) hF.symm) ⟨rfl, rfl⟩ (sub_nil _)
      obtain ⟨s48_3, hs48_3⟩ := exv (.int .i64 x9_4)
      refine have_opa shadowboxlaw16_LeafBack.tab46 99 3 (fun sp => sp 3 = s48_3) (fun sp on hA hon => ?_) (fun ops48_3 => ?_)
      · refine ⟨fun o ho vs Rs f' S' w hp hf hx hS hR hs => ?_⟩
        obtain rfl := Option.some.inj ho
        exact opv (.int .i64 x9_4) hA hs48_3 hon (fr_next (rfl) ((hx 9 (by kernel_rfl)).trans (by kernel_rfl : (_ : Value) = .int .i64 x9_4)))
      obtain ⟨q49, H⟩ := ite_need H
      obtain ⟨ad50, hA51⟩ := idoS_at (l := a0.2.1) (i := x9_4) (RoS.mono hok21 hle20 (RoS.mono hok7 hle6 R0_1)) q27 q49
      obtain ⟨s48_4, hs48_4⟩ := exv (.pointer (some (ad50.add ((x9_4).toNat * 1))))
      refine have_opa shadowboxlaw16_LeafBack.tab46 99 4 (fun sp => sp 4 = s48_4 ∧ sp 2 = s48_2 ∧ sp 3 = s48_3) (fun sp on hA hon => ?_) (fun ops48_4 => ?_)
      · refine ⟨fun o ho vs Rs f' S' w hp hf hx hS hR hs => ?_⟩
        obtain rfl := Option.some.inj ho
        obtain ⟨hv2, hR2⟩ := (spe hA.2.1 hs48_2 (hp 2 (by kernel_rfl)))
        obtain ⟨hv3, hR3⟩ := (spe hA.2.2 hs48_3 (hp 3 (by kernel_rfl)))
        rw [hA.1, hs48_4]
        refine wn hon ?_
        have hF := fr_next (fr_next (rfl) ((hf 2 149 (by kernel_rfl) rfl).trans hv2)) ((hf 3 150 (by kernel_rfl) rfl).trans hv3)
        refine ls_fr hF ?_
        refine ls_idxv (Ec.sld 23 Int) (A := A0_1) (c := c0_1) (l := a0.2.1) (k := .i64) (i := x9_4) (z := 1) (ad := ad50) rfl rfl (by kernel_rfl) hA51 rfl (by kernel_rfl) (by kernel_rfl) (by kernel_rfl) (by kernel_rfl) q27 q49 ?_
        exact ls_fin s0 _ (congrArg (fun z => upd z 151 _) hF.symm) ⟨rfl, rfl⟩ (sub_nil _)
      obtain ⟨xq52, hq53, xR54, xC55⟩ := RoS.el (l := a0.2.1) R0_1 hA51 (i := x9_4) q27 q49
      obtain ⟨s48_5, hs48_5⟩ := exv (.slice xq52.1 ((a0.2.1).getD (x9_4).toNat ([] : List Int)).length xq52.2)
      refine have_opa shadowboxlaw16_LeafBack.tab46 99 5 (fun sp => sp 5 = s48_5 ∧ sp 4 = s48_4) (fun sp on hA hon => ?_) (fun ops48_5 => ?_)
      · refine ⟨fun o ho vs Rs f' S' w hp hf hx hS hR hs => ?_⟩
        obtain rfl := Option.some.inj ho
        obtain ⟨hv4, hR4⟩ := (spe hA.2 hs48_4 (hp 4 (by kernel_rfl)))
        rw [hA.1, hs48_5]
        refine wn hon ?_
        have hF := fr_next (rfl) ((hf 4 151 (by kernel_rfl) rfl).trans hv4)
        refine ls_fr hF ?_
        refine ls_load (a0 := (ad50.add ((x9_4).toNat * 1))) (v := .slice xq52.1 ((a0.2.1).getD (x9_4).toNat ([] : List Int)).length xq52.2) (de := (TypeDesc.slice 5)) rfl rfl (by kernel_rfl) rfl (by kernel_rfl) (by kernel_rfl) (by kernel_rfl) (fun w1 hs1 => (Rd.step (hs.old (Ro.mono hok21 hle20 (Ro.mono hok7 hle6 hq53))) hs1.below.bw).cell0) ?_
        exact ls_fin s0 _ (congrArg (fun z => upd z 152 _) hF.symm) ⟨rfl, rfl⟩ (sub_nil _)
      obtain ⟨s48_6, hs48_6⟩ := exv (.pointer (some ⟨g1, (0 + 2), none⟩))
      refine have_opa shadowboxlaw16_LeafBack.tab46 99 6 (fun sp => sp 6 = s48_6) (fun sp on hA hon => ?_) (fun ops48_6 => ?_)
      · refine ⟨fun o ho vs Rs f' S' w hp hf hx hS hR hs => ?_⟩
        obtain rfl := Option.some.inj ho
        exact opv (.pointer (some ⟨g1, (0 + 2), none⟩)) hA hs48_6 hon (fr_next (rfl) ((hx 1 (by kernel_rfl)).trans (by kernel_rfl : (_ : Value) = .pointer (some ⟨g1, 0, none⟩))))
      obtain ⟨s48_7, hs48_7⟩ := exv (.slice A0_2 a0.2.2.1.length c0_2)
      refine have_opa shadowboxlaw16_LeafBack.tab46 99 7 (fun sp => sp 7 = s48_7 ∧ sp 6 = s48_6) (fun sp on hA hon => ?_) (fun ops48_7 => ?_)
      · refine ⟨fun o ho vs Rs f' S' w hp hf hx hS hR hs => ?_⟩
        obtain rfl := Option.some.inj ho
        obtain ⟨hv6, hR6⟩ := (spe hA.2 hs48_6 (hp 6 (by kernel_rfl)))
        rw [hA.1, hs48_7]
        refine wn hon ?_
        have hF := fr_next (rfl) ((hf 6 153 (by kernel_rfl) rfl).trans hv6)
        refine ls_fr hF ?_
        refine ls_load (a0 := ⟨g1, (0 + 2), none⟩) (v := .slice A0_2 a0.2.2.1.length c0_2) (de := (TypeDesc.slice 23)) rfl rfl (by kernel_rfl) rfl (by kernel_rfl) (by kernel_rfl) (by kernel_rfl) (fun w1 hs1 => cell_step hs1.below.bw (hs.var (k := 0) ((hS 0 (by kernel_rfl)).trans (by exact rfl)) (Sub4.trans (Sub4.all _) (Sub4.skip (n := 1) (len1 _) (Sub4.skip (n := 1) (len1 _) (Sub4.head _ _)))))) ?_
        exact ls_fin s0 _ (congrArg (fun z => upd z 154 _) hF.symm) ⟨rfl, rfl⟩ (sub_nil _)
      obtain ⟨s48_8, hs48_8⟩ := exv (.int .i64 x9_4)
      refine have_opa shadowboxlaw16_LeafBack.tab46 99 8 (fun sp => sp 8 = s48_8) (fun sp on hA hon => ?_) (fun ops48_8 => ?_)
      · refine ⟨fun o ho vs Rs f' S' w hp hf hx hS hR hs => ?_⟩
        obtain rfl := Option.some.inj ho
        exact opv (.int .i64 x9_4) hA hs48_8 hon (fr_next (rfl) ((hx 9 (by kernel_rfl)).trans (by kernel_rfl : (_ : Value) = .int .i64 x9_4)))
      obtain ⟨ad56, hA57⟩ := idoS_at (l := a0.2.2.1) (i := x9_4) (RoS.mono hok21 hle20 (RoS.mono hok7 hle6 R0_2)) q27 q37
      obtain ⟨s48_9, hs48_9⟩ := exv (.pointer (some (ad56.add ((x9_4).toNat * 1))))
      refine have_opa shadowboxlaw16_LeafBack.tab46 99 9 (fun sp => sp 9 = s48_9 ∧ sp 7 = s48_7 ∧ sp 8 = s48_8) (fun sp on hA hon => ?_) (fun ops48_9 => ?_)
      · refine ⟨fun o ho vs Rs f' S' w hp hf hx hS hR hs => ?_⟩
        obtain rfl := Option.some.inj ho
        obtain ⟨hv7, hR7⟩ := (spe hA.2.1 hs48_7 (hp 7 (by kernel_rfl)))
        obtain ⟨hv8, hR8⟩ := (spe hA.2.2 hs48_8 (hp 8 (by kernel_rfl)))
        rw [hA.1, hs48_9]
        refine wn hon ?_
        have hF := fr_next (fr_next (rfl) ((hf 7 154 (by kernel_rfl) rfl).trans hv7)) ((hf 8 155 (by kernel_rfl) rfl).trans hv8)
        refine ls_fr hF ?_
        refine ls_idxv (Ec.sld 23 Int) (A := A0_2) (c := c0_2) (l := a0.2.2.1) (k := .i64) (i := x9_4) (z := 1) (ad := ad56) rfl rfl (by kernel_rfl) hA57 rfl (by kernel_rfl) (by kernel_rfl) (by kernel_rfl) (by kernel_rfl) q27 q37 ?_
        exact ls_fin s0 _ (congrArg (fun z => upd z 156 _) hF.symm) ⟨rfl, rfl⟩ (sub_nil _)
      obtain ⟨xq58, hq59, xR60, xC61⟩ := RoS.el (l := a0.2.2.1) R0_2 hA57 (i := x9_4) q27 q37
      obtain ⟨s48_10, hs48_10⟩ := exv (.slice xq58.1 ((a0.2.2.1).getD (x9_4).toNat ([] : List Int)).length xq58.2)
      refine have_opa shadowboxlaw16_LeafBack.tab46 99 10 (fun sp => sp 10 = s48_10 ∧ sp 9 = s48_9) (fun sp on hA hon => ?_) (fun ops48_10 => ?_)
      · refine ⟨fun o ho vs Rs f' S' w hp hf hx hS hR hs => ?_⟩
        obtain rfl := Option.some.inj ho
        obtain ⟨hv9, hR9⟩ := (spe hA.2 hs48_9 (hp 9 (by kernel_rfl)))
        rw [hA.1, hs48_10]
        refine wn hon ?_
        have hF := fr_next (rfl) ((hf 9 156 (by kernel_rfl) rfl).trans hv9)
        refine ls_fr hF ?_
        refine ls_load (a0 := (ad56.add ((x9_4).toNat * 1))) (v := .slice xq58.1 ((a0.2.2.1).getD (x9_4).toNat ([] : List Int)).length xq58.2) (de := (TypeDesc.slice 5)) rfl rfl (by kernel_rfl) rfl (by kernel_rfl) (by kernel_rfl) (by kernel_rfl) (fun w1 hs1 => (Rd.step (hs.old (Ro.mono hok21 hle20 (Ro.mono hok7 hle6 hq59))) hs1.below.bw).cell0) ?_
        exact ls_fin s0 _ (congrArg (fun z => upd z 157 _) hF.symm) ⟨rfl, rfl⟩ (sub_nil _)
      obtain ⟨t62, hc63, H⟩ := bind_some H
      obtain ⟨s48_11, hs48_11⟩ : ∃ z : Value → Sto → Prop, z = (fun v R => ∃ x64 : Unit, v = .int .i64 t62 ∧ R = stl []) := ⟨_, rfl⟩
      refine have_opa shadowboxlaw16_LeafBack.tab46 99 11 (fun sp => sp 11 = s48_11 ∧ sp 5 = s48_5 ∧ sp 10 = s48_10) (fun sp on hA hon => ?_) (fun ops48_11 => ?_)
      · refine ⟨fun o ho vs Rs f' S' w hp hf hx hS hR hs => ?_⟩
        obtain rfl := Option.some.inj ho
        obtain ⟨hv5, hR5⟩ := (spe hA.2.1 hs48_5 (hp 5 (by kernel_rfl)))
        obtain ⟨hv10, hR10⟩ := (spe hA.2.2 hs48_10 (hp 10 (by kernel_rfl)))
        rw [hA.1, hs48_11]
        refine wn hon ?_
        have hF := fr_next (fr_next (rfl) ((hf 5 152 (by kernel_rfl) rfl).trans hv5)) ((hf 10 157 (by kernel_rfl) rfl).trans hv10)
        refine ls_fr hF ?_
        refine ls_call (fid := 16) (vals := #[.slice xq52.1 ((a0.2.1).getD (x9_4).toNat ([] : List Int)).length xq52.2, .slice xq58.1 ((a0.2.2.1).getD (x9_4).toNat ([] : List Int)).length xq58.2, .bool false]) (X := Unit) (fun x => .int .i64 t62) (fun x => stl []) 0 rfl rfl (by kernel_rfl) (fun w => by kernel_rfl) (fun w1 hs1 => leaf_Weight.calls k4 xq52.1 xq52.2 ((a0.2.1).getD (x9_4).toNat ([] : List Int)) xq58.1 xq58.2 ((a0.2.2.1).getD (x9_4).toNat ([] : List Int)) false t62 (bw w1) (St.refl w1) (Rd.ro (Rd.step (hs.old (Ro.mono hok21 hle20 (Ro.mono hok7 hle6 xR54))) hs1.below.bw)) xC55 (Rd.ro (Rd.step (hs.old (Ro.mono hok21 hle20 (Ro.mono hok7 hle6 xR60))) hs1.below.bw)) xC61 hc63) ?_
        intro x64
        exact ls_fin (stl []) (.int .i64 t62) (congrArg (fun z => upd z 158 _) hF.symm) ⟨x64, rfl, rfl⟩ (sub_join _)
      refine cs_draw shadowboxlaw16_LeafBack.tab46 12 99 (spl [s48_0, s48_1, s48_2, s48_3, s48_4, s48_5, s48_6, s48_7, s48_8, s48_9, s48_10, s48_11]) (onl [true, true, true, true, true, true, true, true, true, true, true, true]) (by kernel_rfl) (by kernel_rfl) (by kernel_rfl) (by kernel_rfl) (rs := [_, _]) rfl (by kernel_rfl) (by kernel_rfl) (all_snoc (all_snoc (all_snoc (all_snoc (all_snoc (all_snoc (all_snoc (all_snoc (all_snoc (all_snoc (all_snoc (all_snoc (all_nil) (ops48_0 _ _ rfl rfl)) (ops48_1 _ _ rfl rfl)) (ops48_2 _ _ ⟨rfl, rfl⟩ rfl)) (ops48_3 _ _ rfl rfl)) (ops48_4 _ _ ⟨rfl, rfl, rfl⟩ rfl)) (ops48_5 _ _ ⟨rfl, rfl⟩ rfl)) (ops48_6 _ _ rfl rfl)) (ops48_7 _ _ ⟨rfl, rfl⟩ rfl)) (ops48_8 _ _ rfl rfl)) (ops48_9 _ _ ⟨rfl, rfl, rfl⟩ rfl)) (ops48_10 _ _ ⟨rfl, rfl⟩ rfl)) (ops48_11 _ _ ⟨rfl, rfl, rfl⟩ rfl)) ?_
      intro vs Rs f' S' hp hf hx hS hR
      obtain ⟨hv0, hR0⟩ := (spe rfl hs48_0 (hp 0 (by kernel_rfl)))
      obtain ⟨x64, hv11, hR11⟩ := (spe rfl hs48_11 (hp 11 (by kernel_rfl)))
      refine ls_fr (F := upd (upd (upd (upd (upd (upd f' 1 (.pointer (some ⟨g1, 0, none⟩))) 3 (.slice x4.1 t2.1.length x4.2)) 7 (.pointer (some ⟨g23, 0, none⟩))) 9 (.int .i64 x9_4)) 147 (.int .i64 x8_4)) 158 (.int .i64 t62)) (fr_next (fr_next (fr_next (fr_next (fr_next (fr_next (rfl) ((hx 1 (by kernel_rfl)).trans (by kernel_rfl : (_ : Value) = .pointer (some ⟨g1, 0, none⟩)))) ((hx 3 (by kernel_rfl)).trans (by kernel_rfl : (_ : Value) = .slice x4.1 t2.1.length x4.2))) ((hx 7 (by kernel_rfl)).trans (by kernel_rfl : (_ : Value) = .pointer (some ⟨g23, 0, none⟩)))) ((hx 9 (by kernel_rfl)).trans (by kernel_rfl : (_ : Value) = .int .i64 x9_4))) ((hf 0 147 (by kernel_rfl) rfl).trans hv0)) ((hf 11 158 (by kernel_rfl) rfl).trans hv11)) ?_
      refine ls_sub (sput (sput s0 0 (some (Ck.var 27 g1 (([Value.int .i64 a0.1] ++ ([Value.slice A0_1 a0.2.1.length c0_1] ++ ([Value.slice A0_2 a0.2.2.1.length c0_2] ++ [Value.slice A0_3 a0.2.2.2.length c0_3]))))))) 2 (some (Ck.var 27 g23 (([Value.int .i64 t10.1.1] ++ ([Value.slice x12.1.1 t10.1.2.1.length x12.1.2] ++ ([Value.slice x12.2.1.1 t10.1.2.2.1.length x12.2.1.2] ++ [Value.slice x12.2.2.1 t10.1.2.2.2.length x12.2.2.2]))))))) (sub_put ((hS 2 (by kernel_rfl)).trans (by exact rfl)) (sub_put ((hS 0 (by kernel_rfl)).trans (by exact rfl)) (sub_nil _))) ?_
      refine lv (.int .i64 (IntKind.wrap .i64 (x8_4 + t62))) ?_
      refine lv (.int .i64 (IntKind.wrap .i64 (x8_4 + t62))) ?_
      refine ls_end ?_
      refine qn_block ?_
      refine qn_then ?_
      refine cs_region (l := [_, _, _]) ?_
      refine lv (.int .i64 x9_4) ?_
      refine lv (.int .i64 (IntKind.wrap .i64 (x9_4 + (1 : Int)))) ?_
      refine lv (.int .i64 (IntKind.wrap .i64 (x9_4 + (1 : Int)))) ?_
      refine ls_end ?_
      refine qn_again k4 (sput (sput s0 0 (some (Ck.var 27 g1 (([Value.int .i64 a0.1] ++ ([Value.slice A0_1 a0.2.1.length c0_1] ++ ([Value.slice A0_2 a0.2.2.1.length c0_2] ++ [Value.slice A0_3 a0.2.2.2.length c0_3]))))))) 2 (some (Ck.var 27 g23 (([Value.int .i64 t10.1.1] ++ ([Value.slice x12.1.1 t10.1.2.1.length x12.1.2] ++ ([Value.slice x12.2.1.1 t10.1.2.2.1.length x12.2.1.2] ++ [Value.slice x12.2.2.1 t10.1.2.2.2.length x12.2.2.2]))))))) (Nat.le_refl _) ⟨_, (IntKind.wrap .i64 (x8_4 + t62)), (IntKind.wrap .i64 (x9_4 + (1 : Int))), fr_next (fr_next (fr_next (fr_next (fr_next (rfl) (by kernel_rfl)) (by kernel_rfl)) (by kernel_rfl)) (by kernel_rfl)) (by kernel_rfl), rfl, H⟩ (sub_put (by exact rfl) (sub_put (by exact rfl) (sub_nil _)))
    replace H := ite_f q46 H
    refine cs_know (c := true) (congrArg Bool.not (Bool.eq_false_iff.mpr q46)) 146 (by kernel_rfl) ?_
    refine cs_true (by kernel_rfl) ?_
    refine cs_seq ?_
    refine cs_region (l := [_]) ?_
    refine lv (.bool false) ?_
    refine ls_end ?_
    refine qn_then ?_
    refine cs_ret' ?_
    refine qr_then ?_
    refine qr_block ?_
    refine qr_then ?_
    refine qr_then ?_
    refine qr_block ?_
    refine qr_then ?_
    obtain rfl := Option.some.inj H
    refine qr_res (rs := [_]) rfl (fun w' hs => ⟨[.bool false], (res_tmp (by kernel_rfl) (.nil)), (), rfl, St.later hs0.ok (hle6.trans hle20) (hs.pick (ts := []) (cs := []) trivial (by decide))⟩)
  replace H := ite_f q24 H
  refine cs_know (c := false) (dec_f q24) 133 (by kernel_rfl) ?_
  refine cs_false (by kernel_rfl) ?_
  refine cs_seq ?_
  refine cs_seq ?_
  obtain ⟨s66_0, hs66_0⟩ := exv (.pointer (some ⟨g23, (0 + 3), none⟩))
  refine have_opa shadowboxlaw16_LeafBack.tab64 3 0 (fun sp => sp 0 = s66_0) (fun sp on hA hon => ?_) (fun ops66_0 => ?_)
  · refine ⟨fun o ho vs Rs f' S' w hp hf hx hS hR hs => ?_⟩
    obtain rfl := Option.some.inj ho
    exact opv (.pointer (some ⟨g23, (0 + 3), none⟩)) hA hs66_0 hon (fr_next (rfl) ((hx 7 (by kernel_rfl)).trans (by kernel_rfl : (_ : Value) = .pointer (some ⟨g23, 0, none⟩))))
  obtain ⟨s66_1, hs66_1⟩ := exv (.slice x12.2.2.1 t10.1.2.2.2.length x12.2.2.2)
  refine have_opa shadowboxlaw16_LeafBack.tab64 3 1 (fun sp => sp 1 = s66_1 ∧ sp 0 = s66_0) (fun sp on hA hon => ?_) (fun ops66_1 => ?_)
  · refine ⟨fun o ho vs Rs f' S' w hp hf hx hS hR hs => ?_⟩
    obtain rfl := Option.some.inj ho
    obtain ⟨hv0, hR0⟩ := (spe hA.2 hs66_0 (hp 0 (by kernel_rfl)))
    rw [hA.1, hs66_1]
    refine wn hon ?_
    have hF := fr_next (rfl) ((hf 0 160 (by kernel_rfl) rfl).trans hv0)
    refine ls_fr hF ?_
    refine ls_load (a0 := ⟨g23, (0 + 3), none⟩) (v := .slice x12.2.2.1 t10.1.2.2.2.length x12.2.2.2) (de := (TypeDesc.slice 44)) rfl rfl (by kernel_rfl) rfl (by kernel_rfl) (by kernel_rfl) (by kernel_rfl) (fun w1 hs1 => cell_step hs1.below.bw (hs.var (k := 2) ((hS 2 (by kernel_rfl)).trans (by exact rfl)) (Sub4.trans (Sub4.all _) (Sub4.skip (n := 1) (len1 _) (Sub4.skip (n := 1) (len1 _) (Sub4.skip (n := 1) (len1 _) (Sub4.all _))))))) ?_
    exact ls_fin s0 _ (congrArg (fun z => upd z 161 _) hF.symm) ⟨rfl, rfl⟩ (sub_nil _)
  obtain ⟨s66_2, hs66_2⟩ := exv (.int .i64 x9_4)
  refine have_opa shadowboxlaw16_LeafBack.tab64 3 2 (fun sp => sp 2 = s66_2) (fun sp on hA hon => ?_) (fun ops66_2 => ?_)
  · refine ⟨fun o ho vs Rs f' S' w hp hf hx hS hR hs => ?_⟩
    obtain rfl := Option.some.inj ho
    exact opv (.int .i64 x9_4) hA hs66_2 hon (fr_next (rfl) ((hx 9 (by kernel_rfl)).trans (by kernel_rfl : (_ : Value) = .int .i64 x9_4)))
  obtain ⟨q67, H⟩ := ite_need H
  obtain ⟨q68, H⟩ := ite_need H
  obtain ⟨ad69, hA70⟩ := ido_at (T := T44) (l := t10.1.2.2.2) (i := x9_4) fR17 q67 q68
  obtain ⟨s66_3, hs66_3⟩ := exv (.pointer (some (ad69.add ((x9_4).toNat * 36))))
  refine have_opa shadowboxlaw16_LeafBack.tab64 3 3 (fun sp => sp 3 = s66_3 ∧ sp 1 = s66_1 ∧ sp 2 = s66_2) (fun sp on hA hon => ?_) (fun ops66_3 => ?_)
  · refine ⟨fun o ho vs Rs f' S' w hp hf hx hS hR hs => ?_⟩
    obtain rfl := Option.some.inj ho
    obtain ⟨hv1, hR1⟩ := (spe hA.2.1 hs66_1 (hp 1 (by kernel_rfl)))
    obtain ⟨hv2, hR2⟩ := (spe hA.2.2 hs66_2 (hp 2 (by kernel_rfl)))
    rw [hA.1, hs66_3]
    refine wn hon ?_
    have hF := fr_next (fr_next (rfl) ((hf 1 161 (by kernel_rfl) rfl).trans hv1)) ((hf 2 162 (by kernel_rfl) rfl).trans hv2)
    refine ls_fr hF ?_
    refine ls_idxv T44 (A := x12.2.2.1) (c := x12.2.2.2) (l := t10.1.2.2.2) (k := .i64) (i := x9_4) (z := 36) (ad := ad69) rfl rfl (by kernel_rfl) hA70 rfl (by kernel_rfl) (by kernel_rfl) (by kernel_rfl) (by kernel_rfl) q67 q68 ?_
    exact ls_fin s0 _ (congrArg (fun z => upd z 163 _) hF.symm) ⟨rfl, rfl⟩ (sub_nil _)
  obtain ⟨s66_4, hs66_4⟩ := exv (.agg ⟨([Value.int .i64 (((t10.1.2.2.2).getD (x9_4).toNat ((0 : Int), (0 : Int), (0 : Int), (0 : Int), (vrep 32 (0 : Int)))).1)] ++ ([Value.int .i64 (((t10.1.2.2.2).getD (x9_4).toNat ((0 : Int), (0 : Int), (0 : Int), (0 : Int), (vrep 32 (0 : Int)))).2.1)] ++ ([Value.int .i64 (((t10.1.2.2.2).getD (x9_4).toNat ((0 : Int), (0 : Int), (0 : Int), (0 : Int), (vrep 32 (0 : Int)))).2.2.1)] ++ ([Value.int .u32 (((t10.1.2.2.2).getD (x9_4).toNat ((0 : Int), (0 : Int), (0 : Int), (0 : Int), (vrep 32 (0 : Int)))).2.2.2.1)] ++ en (Value.int .u8) (((t10.1.2.2.2).getD (x9_4).toNat ((0 : Int), (0 : Int), (0 : Int), (0 : Int), (vrep 32 (0 : Int)))).2.2.2.2).1))))⟩)
  refine have_opa shadowboxlaw16_LeafBack.tab64 3 4 (fun sp => sp 4 = s66_4 ∧ sp 3 = s66_3) (fun sp on hA hon => ?_) (fun ops66_4 => ?_)
  · refine ⟨fun o ho vs Rs f' S' w hp hf hx hS hR hs => ?_⟩
    obtain rfl := Option.some.inj ho
    obtain ⟨hv3, hR3⟩ := (spe hA.2 hs66_3 (hp 3 (by kernel_rfl)))
    rw [hA.1, hs66_4]
    refine wn hon ?_
    have hF := fr_next (rfl) ((hf 3 163 (by kernel_rfl) rfl).trans hv3)
    refine ls_fr hF ?_
    refine ls_loadagg (a := (ad69.add ((x9_4).toNat * 36))) (sub := ([Value.int .i64 (((t10.1.2.2.2).getD (x9_4).toNat ((0 : Int), (0 : Int), (0 : Int), (0 : Int), (vrep 32 (0 : Int)))).1)] ++ ([Value.int .i64 (((t10.1.2.2.2).getD (x9_4).toNat ((0 : Int), (0 : Int), (0 : Int), (0 : Int), (vrep 32 (0 : Int)))).2.1)] ++ ([Value.int .i64 (((t10.1.2.2.2).getD (x9_4).toNat ((0 : Int), (0 : Int), (0 : Int), (0 : Int), (vrep 32 (0 : Int)))).2.2.1)] ++ ([Value.int .u32 (((t10.1.2.2.2).getD (x9_4).toNat ((0 : Int), (0 : Int), (0 : Int), (0 : Int), (vrep 32 (0 : Int)))).2.2.2.1)] ++ en (Value.int .u8) (((t10.1.2.2.2).getD (x9_4).toNat ((0 : Int), (0 : Int), (0 : Int), (0 : Int), (vrep 32 (0 : Int)))).2.2.2.2).1))))) rfl rfl (by kernel_rfl) rfl (by kernel_rfl) (by kernel_rfl) (by kernel_rfl) (len_app (len1 _) (len_app (len1 _) (len_app (len1 _) (len_app (len1 _) (len_en _ (((t10.1.2.2.2).getD (x9_4).toNat ((0 : Int), (0 : Int), (0 : Int), (0 : Int), (vrep 32 (0 : Int)))).2.2.2.2)))))) (fun w1 hs1 => (Rd.step (hs.old fR17) hs1.below.bw).part hA70 (em_sub T44 t10.1.2.2.2 (i := (x9_4).toNat) (by have h0 : (0 : Int) ≤ x9_4 := q67; have h1 : x9_4 < (t10.1.2.2.2.length : Int) := q68; omega))) ?_
    exact ls_fin s0 _ (congrArg (fun z => upd z 164 _) hF.symm) ⟨rfl, rfl⟩ (sub_nil _)
  obtain ⟨s66_5, hs66_5⟩ := exv (.pointer (some ⟨g1, (0 + 3), none⟩))
  refine have_opa shadowboxlaw16_LeafBack.tab64 3 5 (fun sp => sp 5 = s66_5) (fun sp on hA hon => ?_) (fun ops66_5 => ?_)
  · refine ⟨fun o ho vs Rs f' S' w hp hf hx hS hR hs => ?_⟩
    obtain rfl := Option.some.inj ho
    exact opv (.pointer (some ⟨g1, (0 + 3), none⟩)) hA hs66_5 hon (fr_next (rfl) ((hx 1 (by kernel_rfl)).trans (by kernel_rfl : (_ : Value) = .pointer (some ⟨g1, 0, none⟩))))
  obtain ⟨s66_6, hs66_6⟩ := exv (.slice A0_3 a0.2.2.2.length c0_3)
  refine have_opa shadowboxlaw16_LeafBack.tab64 3 6 (fun sp => sp 6 = s66_6 ∧ sp 5 = s66_5) (fun sp on hA hon => ?_) (fun ops66_6 => ?_)
  · refine ⟨fun o ho vs Rs f' S' w hp hf hx hS hR hs => ?_⟩
    obtain rfl := Option.some.inj ho
    obtain ⟨hv5, hR5⟩ := (spe hA.2 hs66_5 (hp 5 (by kernel_rfl)))
    rw [hA.1, hs66_6]
    refine wn hon ?_
    have hF := fr_next (rfl) ((hf 5 165 (by kernel_rfl) rfl).trans hv5)
    refine ls_fr hF ?_
    refine ls_load (a0 := ⟨g1, (0 + 3), none⟩) (v := .slice A0_3 a0.2.2.2.length c0_3) (de := (TypeDesc.slice 44)) rfl rfl (by kernel_rfl) rfl (by kernel_rfl) (by kernel_rfl) (by kernel_rfl) (fun w1 hs1 => cell_step hs1.below.bw (hs.var (k := 0) ((hS 0 (by kernel_rfl)).trans (by exact rfl)) (Sub4.trans (Sub4.all _) (Sub4.skip (n := 1) (len1 _) (Sub4.skip (n := 1) (len1 _) (Sub4.skip (n := 1) (len1 _) (Sub4.all _))))))) ?_
    exact ls_fin s0 _ (congrArg (fun z => upd z 166 _) hF.symm) ⟨rfl, rfl⟩ (sub_nil _)
  obtain ⟨s66_7, hs66_7⟩ := exv (.int .i64 x9_4)
  refine have_opa shadowboxlaw16_LeafBack.tab64 3 7 (fun sp => sp 7 = s66_7) (fun sp on hA hon => ?_) (fun ops66_7 => ?_)
  · refine ⟨fun o ho vs Rs f' S' w hp hf hx hS hR hs => ?_⟩
    obtain rfl := Option.some.inj ho
    exact opv (.int .i64 x9_4) hA hs66_7 hon (fr_next (rfl) ((hx 9 (by kernel_rfl)).trans (by kernel_rfl : (_ : Value) = .int .i64 x9_4)))
  obtain ⟨q71, H⟩ := ite_need H
  obtain ⟨ad72, hA73⟩ := ido_at (T := T44) (l := a0.2.2.2) (i := x9_4) (Ro.mono hok21 hle20 (Ro.mono hok7 hle6 R0_3)) q67 q71
  obtain ⟨s66_8, hs66_8⟩ := exv (.pointer (some (ad72.add ((x9_4).toNat * 36))))
  refine have_opa shadowboxlaw16_LeafBack.tab64 3 8 (fun sp => sp 8 = s66_8 ∧ sp 6 = s66_6 ∧ sp 7 = s66_7) (fun sp on hA hon => ?_) (fun ops66_8 => ?_)
  · refine ⟨fun o ho vs Rs f' S' w hp hf hx hS hR hs => ?_⟩
    obtain rfl := Option.some.inj ho
    obtain ⟨hv6, hR6⟩ := (spe hA.2.1 hs66_6 (hp 6 (by kernel_rfl)))
    obtain ⟨hv7, hR7⟩ := (spe hA.2.2 hs66_7 (hp 7 (by kernel_rfl)))
    rw [hA.1, hs66_8]
    refine wn hon ?_
    have hF := fr_next (fr_next (rfl) ((hf 6 166 (by kernel_rfl) rfl).trans hv6)) ((hf 7 167 (by kernel_rfl) rfl).trans hv7)
    refine ls_fr hF ?_
    refine ls_idxv T44 (A := A0_3) (c := c0_3) (l := a0.2.2.2) (k := .i64) (i := x9_4) (z := 36) (ad := ad72) rfl rfl (by kernel_rfl) hA73 rfl (by kernel_rfl) (by kernel_rfl) (by kernel_rfl) (by kernel_rfl) q67 q71 ?_
    exact ls_fin s0 _ (congrArg (fun z => upd z 168 _) hF.symm) ⟨rfl, rfl⟩ (sub_nil _)
  obtain ⟨s66_9, hs66_9⟩ := exv (.agg ⟨([Value.int .i64 (((a0.2.2.2).getD (x9_4).toNat ((0 : Int), (0 : Int), (0 : Int), (0 : Int), (vrep 32 (0 : Int)))).1)] ++ ([Value.int .i64 (((a0.2.2.2).getD (x9_4).toNat ((0 : Int), (0 : Int), (0 : Int), (0 : Int), (vrep 32 (0 : Int)))).2.1)] ++ ([Value.int .i64 (((a0.2.2.2).getD (x9_4).toNat ((0 : Int), (0 : Int), (0 : Int), (0 : Int), (vrep 32 (0 : Int)))).2.2.1)] ++ ([Value.int .u32 (((a0.2.2.2).getD (x9_4).toNat ((0 : Int), (0 : Int), (0 : Int), (0 : Int), (vrep 32 (0 : Int)))).2.2.2.1)] ++ en (Value.int .u8) (((a0.2.2.2).getD (x9_4).toNat ((0 : Int), (0 : Int), (0 : Int), (0 : Int), (vrep 32 (0 : Int)))).2.2.2.2).1))))⟩)
  refine have_opa shadowboxlaw16_LeafBack.tab64 3 9 (fun sp => sp 9 = s66_9 ∧ sp 8 = s66_8) (fun sp on hA hon => ?_) (fun ops66_9 => ?_)
  · refine ⟨fun o ho vs Rs f' S' w hp hf hx hS hR hs => ?_⟩
    obtain rfl := Option.some.inj ho
    obtain ⟨hv8, hR8⟩ := (spe hA.2 hs66_8 (hp 8 (by kernel_rfl)))
    rw [hA.1, hs66_9]
    refine wn hon ?_
    have hF := fr_next (rfl) ((hf 8 168 (by kernel_rfl) rfl).trans hv8)
    refine ls_fr hF ?_
    refine ls_loadagg (a := (ad72.add ((x9_4).toNat * 36))) (sub := ([Value.int .i64 (((a0.2.2.2).getD (x9_4).toNat ((0 : Int), (0 : Int), (0 : Int), (0 : Int), (vrep 32 (0 : Int)))).1)] ++ ([Value.int .i64 (((a0.2.2.2).getD (x9_4).toNat ((0 : Int), (0 : Int), (0 : Int), (0 : Int), (vrep 32 (0 : Int)))).2.1)] ++ ([Value.int .i64 (((a0.2.2.2).getD (x9_4).toNat ((0 : Int), (0 : Int), (0 : Int), (0 : Int), (vrep 32 (0 : Int)))).2.2.1)] ++ ([Value.int .u32 (((a0.2.2.2).getD (x9_4).toNat ((0 : Int), (0 : Int), (0 : Int), (0 : Int), (vrep 32 (0 : Int)))).2.2.2.1)] ++ en (Value.int .u8) (((a0.2.2.2).getD (x9_4).toNat ((0 : Int), (0 : Int), (0 : Int), (0 : Int), (vrep 32 (0 : Int)))).2.2.2.2).1))))) rfl rfl (by kernel_rfl) rfl (by kernel_rfl) (by kernel_rfl) (by kernel_rfl) (len_app (len1 _) (len_app (len1 _) (len_app (len1 _) (len_app (len1 _) (len_en _ (((a0.2.2.2).getD (x9_4).toNat ((0 : Int), (0 : Int), (0 : Int), (0 : Int), (vrep 32 (0 : Int)))).2.2.2.2)))))) (fun w1 hs1 => (Rd.step (hs.old (Ro.mono hok21 hle20 (Ro.mono hok7 hle6 R0_3))) hs1.below.bw).part hA73 (em_sub T44 a0.2.2.2 (i := (x9_4).toNat) (by have h0 : (0 : Int) ≤ x9_4 := q67; have h1 : x9_4 < (a0.2.2.2.length : Int) := q71; omega))) ?_
    exact ls_fin s0 _ (congrArg (fun z => upd z 169 _) hF.symm) ⟨rfl, rfl⟩ (sub_nil _)
  refine cs_draw shadowboxlaw16_LeafBack.tab64 10 3 (spl [s66_0, s66_1, s66_2, s66_3, s66_4, s66_5, s66_6, s66_7, s66_8, s66_9]) (onl [true, true, true, true, true, true, true, true, true, true]) (by kernel_rfl) (by kernel_rfl) (by kernel_rfl) (by kernel_rfl) (rs := [_]) rfl (by kernel_rfl) (by kernel_rfl) (all_snoc (all_snoc (all_snoc (all_snoc (all_snoc (all_snoc (all_snoc (all_snoc (all_snoc (all_snoc (all_nil) (ops66_0 _ _ rfl rfl)) (ops66_1 _ _ ⟨rfl, rfl⟩ rfl)) (ops66_2 _ _ rfl rfl)) (ops66_3 _ _ ⟨rfl, rfl, rfl⟩ rfl)) (ops66_4 _ _ ⟨rfl, rfl⟩ rfl)) (ops66_5 _ _ rfl rfl)) (ops66_6 _ _ ⟨rfl, rfl⟩ rfl)) (ops66_7 _ _ rfl rfl)) (ops66_8 _ _ ⟨rfl, rfl, rfl⟩ rfl)) (ops66_9 _ _ ⟨rfl, rfl⟩ rfl)) ?_
  intro vs Rs f' S' hp hf hx hS hR
  obtain ⟨hv4, hR4⟩ := (spe rfl hs66_4 (hp 4 (by kernel_rfl)))
  obtain ⟨hv9, hR9⟩ := (spe rfl hs66_9 (hp 9 (by kernel_rfl)))
  refine ls_fr (F := upd (upd (upd (upd (upd (upd (upd f' 1 (.pointer (some ⟨g1, 0, none⟩))) 3 (.slice x4.1 t2.1.length x4.2)) 7 (.pointer (some ⟨g23, 0, none⟩))) 8 (.int .i64 x8_4)) 9 (.int .i64 x9_4)) 164 (.agg ⟨([Value.int .i64 (((t10.1.2.2.2).getD (x9_4).toNat ((0 : Int), (0 : Int), (0 : Int), (0 : Int), (vrep 32 (0 : Int)))).1)] ++ ([Value.int .i64 (((t10.1.2.2.2).getD (x9_4).toNat ((0 : Int), (0 : Int), (0 : Int), (0 : Int), (vrep 32 (0 : Int)))).2.1)] ++ ([Value.int .i64 (((t10.1.2.2.2).getD (x9_4).toNat ((0 : Int), (0 : Int), (0 : Int), (0 : Int), (vrep 32 (0 : Int)))).2.2.1)] ++ ([Value.int .u32 (((t10.1.2.2.2).getD (x9_4).toNat ((0 : Int), (0 : Int), (0 : Int), (0 : Int), (vrep 32 (0 : Int)))).2.2.2.1)] ++ en (Value.int .u8) (((t10.1.2.2.2).getD (x9_4).toNat ((0 : Int), (0 : Int), (0 : Int), (0 : Int), (vrep 32 (0 : Int)))).2.2.2.2).1))))⟩)) 169 (.agg ⟨([Value.int .i64 (((a0.2.2.2).getD (x9_4).toNat ((0 : Int), (0 : Int), (0 : Int), (0 : Int), (vrep 32 (0 : Int)))).1)] ++ ([Value.int .i64 (((a0.2.2.2).getD (x9_4).toNat ((0 : Int), (0 : Int), (0 : Int), (0 : Int), (vrep 32 (0 : Int)))).2.1)] ++ ([Value.int .i64 (((a0.2.2.2).getD (x9_4).toNat ((0 : Int), (0 : Int), (0 : Int), (0 : Int), (vrep 32 (0 : Int)))).2.2.1)] ++ ([Value.int .u32 (((a0.2.2.2).getD (x9_4).toNat ((0 : Int), (0 : Int), (0 : Int), (0 : Int), (vrep 32 (0 : Int)))).2.2.2.1)] ++ en (Value.int .u8) (((a0.2.2.2).getD (x9_4).toNat ((0 : Int), (0 : Int), (0 : Int), (0 : Int), (vrep 32 (0 : Int)))).2.2.2.2).1))))⟩)) (fr_next (fr_next (fr_next (fr_next (fr_next (fr_next (fr_next (rfl) ((hx 1 (by kernel_rfl)).trans (by kernel_rfl : (_ : Value) = .pointer (some ⟨g1, 0, none⟩)))) ((hx 3 (by kernel_rfl)).trans (by kernel_rfl : (_ : Value) = .slice x4.1 t2.1.length x4.2))) ((hx 7 (by kernel_rfl)).trans (by kernel_rfl : (_ : Value) = .pointer (some ⟨g23, 0, none⟩)))) ((hx 8 (by kernel_rfl)).trans (by kernel_rfl : (_ : Value) = .int .i64 x8_4))) ((hx 9 (by kernel_rfl)).trans (by kernel_rfl : (_ : Value) = .int .i64 x9_4))) ((hf 4 164 (by kernel_rfl) rfl).trans hv4)) ((hf 9 169 (by kernel_rfl) rfl).trans hv9)) ?_
  refine ls_sub (sput (sput s0 0 (some (Ck.var 27 g1 (([Value.int .i64 a0.1] ++ ([Value.slice A0_1 a0.2.1.length c0_1] ++ ([Value.slice A0_2 a0.2.2.1.length c0_2] ++ [Value.slice A0_3 a0.2.2.2.length c0_3]))))))) 2 (some (Ck.var 27 g23 (([Value.int .i64 t10.1.1] ++ ([Value.slice x12.1.1 t10.1.2.1.length x12.1.2] ++ ([Value.slice x12.2.1.1 t10.1.2.2.1.length x12.2.1.2] ++ [Value.slice x12.2.2.1 t10.1.2.2.2.length x12.2.2.2]))))))) (sub_put ((hS 2 (by kernel_rfl)).trans (by exact rfl)) (sub_put ((hS 0 (by kernel_rfl)).trans (by exact rfl)) (sub_nil _))) ?_
  refine ls_neq (xs := ([Value.int .i64 (((t10.1.2.2.2).getD (x9_4).toNat ((0 : Int), (0 : Int), (0 : Int), (0 : Int), (vrep 32 (0 : Int)))).1)] ++ ([Value.int .i64 (((t10.1.2.2.2).getD (x9_4).toNat ((0 : Int), (0 : Int), (0 : Int), (0 : Int), (vrep 32 (0 : Int)))).2.1)] ++ ([Value.int .i64 (((t10.1.2.2.2).getD (x9_4).toNat ((0 : Int), (0 : Int), (0 : Int), (0 : Int), (vrep 32 (0 : Int)))).2.2.1)] ++ ([Value.int .u32 (((t10.1.2.2.2).getD (x9_4).toNat ((0 : Int), (0 : Int), (0 : Int), (0 : Int), (vrep 32 (0 : Int)))).2.2.2.1)] ++ en (Value.int .u8) (((t10.1.2.2.2).getD (x9_4).toNat ((0 : Int), (0 : Int), (0 : Int), (0 : Int), (vrep 32 (0 : Int)))).2.2.2.2).1))))) (ys := ([Value.int .i64 (((a0.2.2.2).getD (x9_4).toNat ((0 : Int), (0 : Int), (0 : Int), (0 : Int), (vrep 32 (0 : Int)))).1)] ++ ([Value.int .i64 (((a0.2.2.2).getD (x9_4).toNat ((0 : Int), (0 : Int), (0 : Int), (0 : Int), (vrep 32 (0 : Int)))).2.1)] ++ ([Value.int .i64 (((a0.2.2.2).getD (x9_4).toNat ((0 : Int), (0 : Int), (0 : Int), (0 : Int), (vrep 32 (0 : Int)))).2.2.1)] ++ ([Value.int .u32 (((a0.2.2.2).getD (x9_4).toNat ((0 : Int), (0 : Int), (0 : Int), (0 : Int), (vrep 32 (0 : Int)))).2.2.2.1)] ++ en (Value.int .u8) (((a0.2.2.2).getD (x9_4).toNat ((0 : Int), (0 : Int), (0 : Int), (0 : Int), (vrep 32 (0 : Int)))).2.2.2.2).1))))) (r := ((((t10.1.2.2.2).getD (x9_4).toNat ((0 : Int), (0 : Int), (0 : Int), (0 : Int), (vrep 32 (0 : Int)))).1 == ((a0.2.2.2).getD (x9_4).toNat ((0 : Int), (0 : Int), (0 : Int), (0 : Int), (vrep 32 (0 : Int)))).1) && ((((t10.1.2.2.2).getD (x9_4).toNat ((0 : Int), (0 : Int), (0 : Int), (0 : Int), (vrep 32 (0 : Int)))).2.1 == ((a0.2.2.2).getD (x9_4).toNat ((0 : Int), (0 : Int), (0 : Int), (0 : Int), (vrep 32 (0 : Int)))).2.1) && ((((t10.1.2.2.2).getD (x9_4).toNat ((0 : Int), (0 : Int), (0 : Int), (0 : Int), (vrep 32 (0 : Int)))).2.2.1 == ((a0.2.2.2).getD (x9_4).toNat ((0 : Int), (0 : Int), (0 : Int), (0 : Int), (vrep 32 (0 : Int)))).2.2.1) && ((((t10.1.2.2.2).getD (x9_4).toNat ((0 : Int), (0 : Int), (0 : Int), (0 : Int), (vrep 32 (0 : Int)))).2.2.2.1 == ((a0.2.2.2).getD (x9_4).toNat ((0 : Int), (0 : Int), (0 : Int), (0 : Int), (vrep 32 (0 : Int)))).2.2.2.1) && ((((t10.1.2.2.2).getD (x9_4).toNat ((0 : Int), (0 : Int), (0 : Int), (0 : Int), (vrep 32 (0 : Int)))).2.2.2.2).1 == (((a0.2.2.2).getD (x9_4).toNat ((0 : Int), (0 : Int), (0 : Int), (0 : Int), (vrep 32 (0 : Int)))).2.2.2.2).1)))))) rfl rfl (by kernel_rfl) rfl (by kernel_rfl) (by kernel_rfl) (by kernel_rfl) (eq_st (by kernel_rfl) (by kernel_rfl) (eqf_cons (ft := 3) (fo := 0) (by kernel_rfl) (part_one (by kernel_rfl) (Sub4.trans (Sub4.all _) (Sub4.head _ _))) (part_one (by kernel_rfl) (Sub4.trans (Sub4.all _) (Sub4.head _ _))) (eq_int (by kernel_rfl) _ _ _) (eqf_cons (ft := 3) (fo := 1) (by kernel_rfl) (part_one (by kernel_rfl) (Sub4.trans (Sub4.all _) (Sub4.skip (n := 1) (len1 _) (Sub4.head _ _)))) (part_one (by kernel_rfl) (Sub4.trans (Sub4.all _) (Sub4.skip (n := 1) (len1 _) (Sub4.head _ _)))) (eq_int (by kernel_rfl) _ _ _) (eqf_cons (ft := 3) (fo := 2) (by kernel_rfl) (part_one (by kernel_rfl) (Sub4.trans (Sub4.all _) (Sub4.skip (n := 1) (len1 _) (Sub4.skip (n := 1) (len1 _) (Sub4.head _ _))))) (part_one (by kernel_rfl) (Sub4.trans (Sub4.all _) (Sub4.skip (n := 1) (len1 _) (Sub4.skip (n := 1) (len1 _) (Sub4.head _ _))))) (eq_int (by kernel_rfl) _ _ _) (eqf_cons (ft := 41) (fo := 3) (by kernel_rfl) (part_one (by kernel_rfl) (Sub4.trans (Sub4.all _) (Sub4.skip (n := 1) (len1 _) (Sub4.skip (n := 1) (len1 _) (Sub4.skip (n := 1) (len1 _) (Sub4.head _ _)))))) (part_one (by kernel_rfl) (Sub4.trans (Sub4.all _) (Sub4.skip (n := 1) (len1 _) (Sub4.skip (n := 1) (len1 _) (Sub4.skip (n := 1) (len1 _) (Sub4.head _ _)))))) (eq_int (by kernel_rfl) _ _ _) (eqf_last (ft := 42) (fo := 4) (by kernel_rfl) (part_agg (by kernel_rfl) (by kernel_rfl) (len_en _ (((t10.1.2.2.2).getD (x9_4).toNat ((0 : Int), (0 : Int), (0 : Int), (0 : Int), (vrep 32 (0 : Int)))).2.2.2.2)) (Sub4.trans (Sub4.all _) (Sub4.skip (n := 1) (len1 _) (Sub4.skip (n := 1) (len1 _) (Sub4.skip (n := 1) (len1 _) (Sub4.skip (n := 1) (len1 _) (Sub4.all _))))))) (part_agg (by kernel_rfl) (by kernel_rfl) (len_en _ (((a0.2.2.2).getD (x9_4).toNat ((0 : Int), (0 : Int), (0 : Int), (0 : Int), (vrep 32 (0 : Int)))).2.2.2.2)) (Sub4.trans (Sub4.all _) (Sub4.skip (n := 1) (len1 _) (Sub4.skip (n := 1) (len1 _) (Sub4.skip (n := 1) (len1 _) (Sub4.skip (n := 1) (len1 _) (Sub4.all _))))))) (eq_ints (e := 5) (ln := 32) (by kernel_rfl) (by kernel_rfl) (by kernel_rfl) (((t10.1.2.2.2).getD (x9_4).toNat ((0 : Int), (0 : Int), (0 : Int), (0 : Int), (vrep 32 (0 : Int)))).2.2.2.2).2 (((a0.2.2.2).getD (x9_4).toNat ((0 : Int), (0 : Int), (0 : Int), (0 : Int), (vrep 32 (0 : Int)))).2.2.2.2).2 _) (by kernel_rfl))))))) ?_
  refine ls_end ?_
  refine qn_then ?_
  by_cases q74 : ((((t10.1.2.2.2).getD (x9_4).toNat ((0 : Int), (0 : Int), (0 : Int), (0 : Int), (vrep 32 (0 : Int)))).1 == ((a0.2.2.2).getD (x9_4).toNat ((0 : Int), (0 : Int), (0 : Int), (0 : Int), (vrep 32 (0 : Int)))).1) && ((((t10.1.2.2.2).getD (x9_4).toNat ((0 : Int), (0 : Int), (0 : Int), (0 : Int), (vrep 32 (0 : Int)))).2.1 == ((a0.2.2.2).getD (x9_4).toNat ((0 : Int), (0 : Int), (0 : Int), (0 : Int), (vrep 32 (0 : Int)))).2.1) && ((((t10.1.2.2.2).getD (x9_4).toNat ((0 : Int), (0 : Int), (0 : Int), (0 : Int), (vrep 32 (0 : Int)))).2.2.1 == ((a0.2.2.2).getD (x9_4).toNat ((0 : Int), (0 : Int), (0 : Int), (0 : Int), (vrep 32 (0 : Int)))).2.2.1) && ((((t10.1.2.2.2).getD (x9_4).toNat ((0 : Int), (0 : Int), (0 : Int), (0 : Int), (vrep 32 (0 : Int)))).2.2.2.1 == ((a0.2.2.2).getD (x9_4).toNat ((0 : Int), (0 : Int), (0 : Int), (0 : Int), (vrep 32 (0 : Int)))).2.2.2.1) && ((((t10.1.2.2.2).getD (x9_4).toNat ((0 : Int), (0 : Int), (0 : Int), (0 : Int), (vrep 32 (0 : Int)))).2.2.2.2).1 == (((a0.2.2.2).getD (x9_4).toNat ((0 : Int), (0 : Int), (0 : Int), (0 : Int), (vrep 32 (0 : Int)))).2.2.2.2).1))))) = true
  · replace H := ite_t q74 H
    refine cs_know (c := false) (congrArg Bool.not (q74)) 170 (by kernel_rfl) ?_
    refine cs_false (by kernel_rfl) ?_
    refine cs_skip' ?_
    refine qn_then ?_
    refine cs_region (l := [_, _, _, _, _, _, _, _, _]) ?_
    refine lv (.int .i64 x8_4) ?_
    refine lv (.pointer (some ⟨g1, (0 + 1), none⟩)) ?_
    refine ls_load (a0 := ⟨g1, (0 + 1), none⟩) (v := .slice A0_1 a0.2.1.length c0_1) (de := (TypeDesc.slice 23)) rfl rfl (by kernel_rfl) rfl (by kernel_rfl) (by kernel_rfl) (by kernel_rfl) (fun w hs => (hs.var (k := 0) (by exact rfl) (Sub4.trans (Sub4.all _) (Sub4.skip (n := 1) (len1 _) (Sub4.head _ _))))) ?_
    refine lv (.int .i64 x9_4) ?_
    obtain ⟨q75, H⟩ := ite_need H
    obtain ⟨ad76, hA77⟩ := idoS_at (l := a0.2.1) (i := x9_4) (RoS.mono hok21 hle20 (RoS.mono hok7 hle6 R0_1)) q67 q75
    refine ls_idxv (Ec.sld 23 Int) (A := A0_1) (c := c0_1) (l := a0.2.1) (k := .i64) (i := x9_4) (z := 1) (ad := ad76) rfl rfl (by kernel_rfl) hA77 rfl (by kernel_rfl) (by kernel_rfl) (by kernel_rfl) (by kernel_rfl) q67 q75 ?_
    obtain ⟨xq78, hq79, xR80, xC81⟩ := RoS.el (l := a0.2.1) R0_1 hA77 (i := x9_4) q67 q75
    refine ls_load (a0 := (ad76.add ((x9_4).toNat * 1))) (v := .slice xq78.1 ((a0.2.1).getD (x9_4).toNat ([] : List Int)).length xq78.2) (de := (TypeDesc.slice 5)) rfl rfl (by kernel_rfl) rfl (by kernel_rfl) (by kernel_rfl) (by kernel_rfl) (fun w hs => (hs.old (Ro.mono hok21 hle20 (Ro.mono hok7 hle6 hq79))).cell0) ?_
    obtain ⟨t82, hc83, H⟩ := bind_some H
    refine ls_callb (fid := 16) (vals := #[.slice xq78.1 ((a0.2.1).getD (x9_4).toNat ([] : List Int)).length xq78.2, .slice none ([] : List Int).length 0, .bool true]) (X := Unit) (fun x => .int .i64 t82) (fun x => stl []) [] [] [] [] 83 rfl rfl (by kernel_rfl) (fun w => by kernel_rfl) trivial trivial (by decide) (fun w hs hb => leaf_Weight.calls k4 xq78.1 xq78.2 ((a0.2.1).getD (x9_4).toNat ([] : List Int)) none 0 ([] : List Int) true t82 (lent bs19 w [] []) hb (hs.ro (Ro.mono hok21 hle20 (Ro.mono hok7 hle6 xR80)) _ _) xC81 (Ro.nil _ _) (Nat.le_refl 0) hc83) ?_
    intro x84
    refine lv (.int .i64 (IntKind.wrap .i64 (x8_4 + t82))) ?_
    refine lv (.int .i64 (IntKind.wrap .i64 (x8_4 + t82))) ?_
    refine ls_end ?_
    refine qn_block ?_
    refine qn_then ?_
    refine cs_region (l := [_, _, _]) ?_
    refine lv (.int .i64 x9_4) ?_
    refine lv (.int .i64 (IntKind.wrap .i64 (x9_4 + (1 : Int)))) ?_
    refine lv (.int .i64 (IntKind.wrap .i64 (x9_4 + (1 : Int)))) ?_
    refine ls_end ?_
    refine qn_again k4 (sput (sput s0 0 (some (Ck.var 27 g1 (([Value.int .i64 a0.1] ++ ([Value.slice A0_1 a0.2.1.length c0_1] ++ ([Value.slice A0_2 a0.2.2.1.length c0_2] ++ [Value.slice A0_3 a0.2.2.2.length c0_3]))))))) 2 (some (Ck.var 27 g23 (([Value.int .i64 t10.1.1] ++ ([Value.slice x12.1.1 t10.1.2.1.length x12.1.2] ++ ([Value.slice x12.2.1.1 t10.1.2.2.1.length x12.2.1.2] ++ [Value.slice x12.2.2.1 t10.1.2.2.2.length x12.2.2.2]))))))) (Nat.le_refl _) ⟨_, (IntKind.wrap .i64 (x8_4 + t82)), (IntKind.wrap .i64 (x9_4 + (1 : Int))), fr_next (fr_next (fr_next (fr_next (fr_next (rfl) (by kernel_rfl)) (by kernel_rfl)) (by kernel_rfl)) (by kernel_rfl)) (by kernel_rfl), rfl, H⟩ (sub_put (by exact rfl) (sub_put (by exact rfl) (sub_nil _)))
  replace H := ite_f q74 H
  refine cs_know (c := true) (congrArg Bool.not (Bool.eq_false_iff.mpr q74)) 170 (by kernel_rfl) ?_
  refine cs_true (by kernel_rfl) ?_
  refine cs_seq ?_
  refine cs_region (l := [_]) ?_
  refine lv (.bool false) ?_
  refine ls_end ?_
  refine qn_then ?_
  refine cs_ret' ?_
  refine qr_then ?_
  refine qr_block ?_
  refine qr_then ?_
  refine qr_then ?_
  refine qr_block ?_
  refine qr_then ?_
  obtain rfl := Option.some.inj H
  refine qr_res (rs := [_]) rfl (fun w' hs => ⟨[.bool false], (res_tmp (by kernel_rfl) (.nil)), (), rfl, St.later hs0.ok (hle6.trans hle20) (hs.pick (ts := []) (cs := []) trivial (by decide))⟩)

end Go.Proofs.Ythhhkphbhlafbaa.G
