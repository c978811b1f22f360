/- Printed by a program of this session (sz.py): plain functions, and walks that show that the code comes to them; no condition. -/
import Derived.Test.YtiikfaefeonfhaaProg
import Derived.Test.YtiikfaefeonfhaaTy
import Derived.Test.YtiikfaefeonfhaaG0
import Derived.Test.YtiikfaefeonfhaaG1
import Derived.Test.YtiikfaefeonfhaaG2
set_option linter.unusedVariables false
set_option linter.unusedSimpArgs false
namespace Go.Proofs.Ytiikfaefeonfhaa.G
open Go Go.RowKit Go.Proofs.Ytiikfaefeonfhaa.Sx

/-! ### shadowbox/shadowboxlaw10.AllocKeeps: function 6 -/
def shadowboxlaw10_AllocKeeps.jo3 (k : Nat) (a0 : Int) (y9 : Int) (t11 : (((Int × Int) × Bool × Int × (List (Int × Int)) × Unit × (List (Int × Int))) × (Bool × (List (Int × Int)))) × Int) (x7_2 : Int) (x11_3 : Int) (m0_3 : ((Int × Int) × Bool × Int × (List (Int × Int)) × Unit × (List (Int × Int)))) : Option (Bool) := (alloc_Alloc_Take.f k (m0_3.1, m0_3.2.1, m0_3.2.2.1, m0_3.2.2.2.1, (), m0_3.2.2.2.2.2) (t11.1.2.1, t11.1.2.2) (1 : Int) true).bind fun t22 => lt (IntKind.wrap .i64 ((bits .and .i64 a0 (63 : Int)) - y9)) fun y33 => (if x7_2 = y33 then (if x11_3 = y9 then (alloc_Alloc_Used.f k (t22.2.2.1, t22.2.2.2.1, t22.2.2.2.2.1, t22.2.2.2.2.2.1, (), t22.2.2.2.2.2.2.2) (t11.1.2.1, t11.1.2.2)).bind fun t37 => (if t37.1 = (bits .and .i64 a0 (63 : Int)) then some (decide (t22.2.1 = (15 : Int))) else some false) else some false) else some false)
def shadowboxlaw10_AllocKeeps.lo4 (a0 : Int) (t11 : (((Int × Int) × Bool × Int × (List (Int × Int)) × Unit × (List (Int × Int))) × (Bool × (List (Int × Int)))) × Int) (jo3 : Int → (((Int × Int) × Bool × Int × (List (Int × Int)) × Unit × (List (Int × Int)))) → Option (Bool)) : Nat → Int → Int → (((Int × Int) × Bool × Int × (List (Int × Int)) × Unit × (List (Int × Int)))) → Option (Bool)
  | 0, _, _, _ => none
  | k4 + 1, x11_4, x12_4, m0_4 => lt (IntKind.wrap .i64 ((bits .and .i64 a0 (63 : Int)) + (2 : Int))) fun y41 => (if x12_4 < y41 then (alloc_Alloc_Take.f k4 (m0_4.1, m0_4.2.1, m0_4.2.2.1, m0_4.2.2.2.1, (), m0_4.2.2.2.2.2) (t11.1.2.1, t11.1.2.2) (1 : Int) true).bind fun t44 => (if t44.2.1 = (0 : Int) then (shadowboxlaw10_AllocKeeps.lo4 a0 t11 jo3 k4) (IntKind.wrap .i64 (x11_4 + (1 : Int))) (IntKind.wrap .i64 (x12_4 + (1 : Int))) (t44.2.2.1, t44.2.2.2.1, t44.2.2.2.2.1, t44.2.2.2.2.2.1, (), t44.2.2.2.2.2.2.2) else (shadowboxlaw10_AllocKeeps.lo4 a0 t11 jo3 k4) x11_4 (IntKind.wrap .i64 (x12_4 + (1 : Int))) (t44.2.2.1, t44.2.2.2.1, t44.2.2.2.2.1, t44.2.2.2.2.2.1, (), t44.2.2.2.2.2.2.2)) else jo3 x11_4 (m0_4.1, m0_4.2.1, m0_4.2.2.1, m0_4.2.2.2.1, (), m0_4.2.2.2.2.2))
def shadowboxlaw10_AllocKeeps.jo2 (k : Nat) (a0 : Int) (y9 : Int) (t11 : (((Int × Int) × Bool × Int × (List (Int × Int)) × Unit × (List (Int × Int))) × (Bool × (List (Int × Int)))) × Int) (x7_2 : Int) (m0_2 : ((Int × Int) × Bool × Int × (List (Int × Int)) × Unit × (List (Int × Int)))) : Option (Bool) := shadowboxlaw10_AllocKeeps.lo4 a0 t11 (shadowboxlaw10_AllocKeeps.jo3 k a0 y9 t11 x7_2) k (0 : Int) (0 : Int) (m0_2.1, m0_2.2.1, m0_2.2.2.1, m0_2.2.2.2.1, (), m0_2.2.2.2.2.2)
def shadowboxlaw10_AllocKeeps.lo5 (a0 : Int) (t11 : (((Int × Int) × Bool × Int × (List (Int × Int)) × Unit × (List (Int × Int))) × (Bool × (List (Int × Int)))) × Int) (jo2 : Int → (((Int × Int) × Bool × Int × (List (Int × Int)) × Unit × (List (Int × Int)))) → Option (Bool)) : Nat → Int → Int → (((Int × Int) × Bool × Int × (List (Int × Int)) × Unit × (List (Int × Int)))) → Option (Bool)
  | 0, _, _, _ => none
  | k5 + 1, x7_5, x8_5, m0_5 => lt (IntKind.wrap .i64 ((bits .and .i64 a0 (63 : Int)) + (2 : Int))) fun y56 => (if x8_5 < y56 then (alloc_Alloc_Take.f k5 (m0_5.1, m0_5.2.1, m0_5.2.2.1, m0_5.2.2.2.1, (), m0_5.2.2.2.2.2) (t11.1.2.1, t11.1.2.2) (1 : Int) false).bind fun t59 => (if t59.2.1 = (0 : Int) then (shadowboxlaw10_AllocKeeps.lo5 a0 t11 jo2 k5) (IntKind.wrap .i64 (x7_5 + (1 : Int))) (IntKind.wrap .i64 (x8_5 + (1 : Int))) (t59.2.2.1, t59.2.2.2.1, t59.2.2.2.2.1, t59.2.2.2.2.2.1, (), t59.2.2.2.2.2.2.2) else (shadowboxlaw10_AllocKeeps.lo5 a0 t11 jo2 k5) x7_5 (IntKind.wrap .i64 (x8_5 + (1 : Int))) (t59.2.2.1, t59.2.2.2.1, t59.2.2.2.2.1, t59.2.2.2.2.2.1, (), t59.2.2.2.2.2.2.2)) else jo2 x7_5 (m0_5.1, m0_5.2.1, m0_5.2.2.1, m0_5.2.2.2.1, (), m0_5.2.2.2.2.2))
def shadowboxlaw10_AllocKeeps.jo1 (k : Nat) (a0 : Int) (y9 : Int) (t11 : (((Int × Int) × Bool × Int × (List (Int × Int)) × Unit × (List (Int × Int))) × (Bool × (List (Int × Int)))) × Int) : Option (Bool) := shadowboxlaw10_AllocKeeps.lo5 a0 t11 (shadowboxlaw10_AllocKeeps.jo2 k a0 y9 t11) k (0 : Int) (0 : Int) (t11.1.1.1, t11.1.1.2.1, t11.1.1.2.2.1, t11.1.1.2.2.2.1, (), t11.1.1.2.2.2.2.2)
def shadowboxlaw10_AllocKeeps.f (k : Nat) (a0 : Int) (a1 : Int) : Option (Bool) :=
  lt (IntKind.wrap .i64 ((bits .and .i64 a0 (63 : Int)) + (1 : Int))) fun y1 => (if y1 ≠ 0 then lt (IntKind.wrap .i64 ((Int.tmod a1 y1) + (bits .and .i64 a0 (63 : Int)))) fun y4 => lt (IntKind.wrap .i64 ((bits .and .i64 a0 (63 : Int)) + (1 : Int))) fun y6 => (if y6 ≠ 0 then lt (Int.tmod (IntKind.wrap .i64 (y4 + (1 : Int))) y6) fun y9 => (alloc_New.f k (0 : Int) (bits .and .i64 a0 (63 : Int)) y9).bind fun t11 => (if t11.2 = (0 : Int) then (shadowboxlaw10_AllocKeeps.jo1 k a0 y9 t11) else some false) else none) else none)
set_option maxRecDepth 100000 in
set_option maxHeartbeats 4000000 in
theorem shadowboxlaw10_AllocKeeps.calls (k : Nat) (a0 : Int) (a1 : Int) (r : Bool) (b : Bs) (hs0 : St b (stl []) b.w) (H : shadowboxlaw10_AllocKeeps.f k a0 a1 = some r) :
    Calls Try.prog 6 #[.int .i64 a0, .int .i64 a1] b.w fun e w' => ∃ x : Unit, e = .returned (.bool r) ∧ St b (stl []) w' := by
  unfold shadowboxlaw10_AllocKeeps.f at H
  refine enterb (n := 96) Try.func6 rfl (by kernel_rfl) (by kernel_rfl) hs0 ?_
  refine cs_sub (s0) (sub_nil _) ?_
  refine cs_seq ?_
  refine cs_region (l := [_]) ?_
  refine ls_val (v := .bool false) rfl rfl (by kernel_rfl) (fun w => by kernel_rfl) ?_
  refine ls_end ?_
  refine qn_then ?_
  refine cs_seq ?_
  refine cs_region (l := [_, _, _]) ?_
  refine ls_val (v := .int .i64 a0) rfl rfl (by kernel_rfl) (fun w => by kernel_rfl) ?_
  refine ls_val (v := .int .i64 (bits .and .i64 a0 (63 : Int))) rfl rfl (by kernel_rfl) (fun w => by kernel_rfl) ?_
  refine ls_val (v := .int .i64 (bits .and .i64 a0 (63 : Int))) rfl rfl (by kernel_rfl) (fun w => by kernel_rfl) ?_
  refine ls_end ?_
  refine qn_then ?_
  refine cs_seq ?_
  refine cs_region (l := [_, _, _, _, _, _, _, _, _, _, _]) ?_
  refine ls_val (v := .int .i64 a1) rfl rfl (by kernel_rfl) (fun w => by kernel_rfl) ?_
  refine ls_val (v := .int .i64 (bits .and .i64 a0 (63 : Int))) rfl rfl (by kernel_rfl) (fun w => by kernel_rfl) ?_
  obtain ⟨y1, hy2, H⟩ := lt_some H
  refine ls_val (v := .int .i64 (IntKind.wrap .i64 ((bits .and .i64 a0 (63 : Int)) + (1 : Int)))) rfl rfl (by kernel_rfl) (fun w => by kernel_rfl) ?_
  refine ls_ren 21 (v := .int .i64 (IntKind.wrap .i64 ((bits .and .i64 a0 (63 : Int)) + (1 : Int)))) (v' := .int .i64 y1) (by kernel_rfl) (by rw [hy2]) ?_
  obtain ⟨q3, H⟩ := ite_need H
  refine ls_rem (k := .i64) (x := a1) (y := y1) rfl rfl (by kernel_rfl) (fun w => by kernel_rfl) q3 ?_
  refine ls_val (v := .int .i64 (bits .and .i64 a0 (63 : Int))) rfl rfl (by kernel_rfl) (fun w => by kernel_rfl) ?_
  obtain ⟨y4, hy5, H⟩ := lt_some H
  refine ls_val (v := .int .i64 (IntKind.wrap .i64 ((Int.tmod a1 y1) + (bits .and .i64 a0 (63 : Int))))) rfl rfl (by kernel_rfl) (fun w => by kernel_rfl) ?_
  refine ls_ren 24 (v := .int .i64 (IntKind.wrap .i64 ((Int.tmod a1 y1) + (bits .and .i64 a0 (63 : Int))))) (v' := .int .i64 y4) (by kernel_rfl) (by rw [hy5]) ?_
  refine ls_val (v := .int .i64 (IntKind.wrap .i64 (y4 + (1 : Int)))) rfl rfl (by kernel_rfl) (fun w => by kernel_rfl) ?_
  refine ls_val (v := .int .i64 (bits .and .i64 a0 (63 : Int))) rfl rfl (by kernel_rfl) (fun w => by kernel_rfl) ?_
  obtain ⟨y6, hy7, H⟩ := lt_some H
  refine ls_val (v := .int .i64 (IntKind.wrap .i64 ((bits .and .i64 a0 (63 : Int)) + (1 : Int)))) rfl rfl (by kernel_rfl) (fun w => by kernel_rfl) ?_
  refine ls_ren 27 (v := .int .i64 (IntKind.wrap .i64 ((bits .and .i64 a0 (63 : Int)) + (1 : Int)))) (v' := .int .i64 y6) (by kernel_rfl) (by rw [hy7]) ?_
  obtain ⟨q8, H⟩ := ite_need H
  obtain ⟨y9, hy10, H⟩ := lt_some H
  refine ls_rem (k := .i64) (x := (IntKind.wrap .i64 (y4 + (1 : Int)))) (y := y6) rfl rfl (by kernel_rfl) (fun w => by kernel_rfl) q8 ?_
  refine ls_ren 28 (v := .int .i64 (Int.tmod (IntKind.wrap .i64 (y4 + (1 : Int))) y6)) (v' := .int .i64 y9) (by kernel_rfl) (by rw [hy10]) ?_
  refine ls_val (v := .int .i64 y9) rfl rfl (by kernel_rfl) (fun w => by kernel_rfl) ?_
  refine ls_end ?_
  refine qn_then ?_
  refine cs_seq ?_
  refine cs_region (l := [_, _, _, _, _, _, _, _]) ?_
  refine ls_val (v := .int .i64 (bits .and .i64 a0 (63 : Int))) rfl rfl (by kernel_rfl) (fun w => by kernel_rfl) ?_
  refine ls_val (v := .int .i64 y9) rfl rfl (by kernel_rfl) (fun w => by kernel_rfl) ?_
  obtain ⟨t11, hc12, H⟩ := bind_some H
  refine ls_callf (fid := 27) (vals := #[.int .i64 (0 : Int), .int .i64 (bits .and .i64 a0 (63 : Int)), .int .i64 y9]) (X := Nat × (Option Addr × Nat) × (Option Addr × Nat) × Nat × (Option Addr × Nat)) (fun x => .tuple #[.pointer (some ⟨x.1, 0, none⟩), .int .i64 t11.2]) (fun x => stl [Ck.var 66 x.1 ((([Value.int .i64 t11.1.1.1.1] ++ [Value.int .i64 t11.1.1.1.2]) ++ ([Value.bool t11.1.1.2.1] ++ ([Value.int .i64 t11.1.1.2.2.1] ++ ([Value.slice x.2.1.1 t11.1.1.2.2.2.1.length x.2.1.2] ++ ([Value.map (some x.2.2.2.1)] ++ [Value.slice x.2.2.1.1 t11.1.1.2.2.2.2.2.length x.2.2.1.2])))))), Ck.m1 x.2.2.2.1 t11.1.2.1 x.2.2.2.2.1 t11.1.2.2.length x.2.2.2.2.2, Ck.sl T24 x.2.2.2.2.1 x.2.2.2.2.2 t11.1.2.2]) (fun x B => (Ro B x.2.1.1 (em T24 t11.1.1.2.2.2.1) ∧ t11.1.1.2.2.2.1.length ≤ x.2.1.2) ∧ (Ro B x.2.2.1.1 (em T24 t11.1.1.2.2.2.2.2) ∧ t11.1.1.2.2.2.2.2.length ≤ x.2.2.1.2)) [] [] 0 rfl rfl (by kernel_rfl) (fun w => by kernel_rfl) trivial (by decide) (fun x b b' h hf => ⟨⟨h _ _ hf.1.1, hf.1.2⟩, ⟨h _ _ hf.2.1, hf.2.2⟩⟩) (fun w hs hb => alloc_New.calls k (0 : Int) (bits .and .i64 a0 (63 : Int)) y9 t11 (lent b w [] []) hb  hc12) ?_
  intro x13 bs18 hle19 hok20 hf21
  obtain ⟨⟨fR14, fC15⟩, ⟨fR16, fC17⟩⟩ := hf21
  refine ls_val (v := .tuple #[.pointer (some ⟨x13.1, 0, none⟩), .int .i64 t11.2]) rfl rfl (by kernel_rfl) (fun w => by kernel_rfl) ?_
  refine ls_val (v := .pointer (some ⟨x13.1, 0, none⟩)) rfl rfl (by kernel_rfl) (fun w => by kernel_rfl) ?_
  refine ls_val (v := .int .i64 t11.2) rfl rfl (by kernel_rfl) (fun w => by kernel_rfl) ?_
  refine ls_val (v := .pointer (some ⟨x13.1, 0, none⟩)) rfl rfl (by kernel_rfl) (fun w => by kernel_rfl) ?_
  refine ls_val (v := .int .i64 t11.2) rfl rfl (by kernel_rfl) (fun w => by kernel_rfl) ?_
  refine ls_end ?_
  refine qn_then ?_
  refine cs_cut (fun f S => ∃ (fR : Fr), f = upd (upd (upd fR 0 (.int .i64 (bits .and .i64 a0 (63 : Int)))) 1 (.int .i64 y9)) 5 (.pointer (some ⟨x13.1, 0, none⟩)) ∧ S = sput (sput (sput s0 0 (some (Ck.var 66 x13.1 ((([Value.int .i64 t11.1.1.1.1] ++ [Value.int .i64 t11.1.1.1.2]) ++ ([Value.bool t11.1.1.2.1] ++ ([Value.int .i64 t11.1.1.2.2.1] ++ ([Value.slice x13.2.1.1 t11.1.1.2.2.2.1.length x13.2.1.2] ++ ([Value.map (some x13.2.2.2.1)] ++ [Value.slice x13.2.2.1.1 t11.1.1.2.2.2.2.2.length x13.2.2.1.2]))))))))) 1 (some (Ck.m1 x13.2.2.2.1 t11.1.2.1 x13.2.2.2.2.1 t11.1.2.2.length x13.2.2.2.2.2))) 2 (some (Ck.sl T24 x13.2.2.2.2.1 x13.2.2.2.2.2 t11.1.2.2)) ∧ shadowboxlaw10_AllocKeeps.jo1 k a0 y9 t11 = some r) ?_ ?_
  · skip
    refine cs_seq ?_
    refine cs_region (l := [_, _, _, _, _, _]) ?_
    refine ls_val (v := .int .i64 t11.2) rfl rfl (by kernel_rfl) (fun w => by kernel_rfl) ?_
    refine ls_val (v := .bool (!decide (t11.2 = (0 : Int)))) rfl rfl (by kernel_rfl) (fun w => by kernel_rfl) ?_
    refine ls_val (v := .bool (!decide (t11.2 = (0 : Int)))) rfl rfl (by kernel_rfl) (fun w => by kernel_rfl) ?_
    by_cases q71 : t11.2 = (0 : Int)
    · replace H := ite_t q71 H
      refine ls_know (c := false) (congrArg Bool.not (dec_t q71)) 37 (by kernel_rfl) ?_
      refine ls_on (j := 2) (t := 37) (b := false) rfl rfl (by kernel_rfl) (by kernel_rfl) ?_
      refine ls_val (v := .pointer (some ⟨x13.1, 0, none⟩)) rfl rfl (by kernel_rfl) (fun w => by kernel_rfl) ?_
      refine ls_on (j := 2) (t := 37) (b := false) rfl rfl (by kernel_rfl) (by kernel_rfl) ?_
      refine ls_val (v := .bool false) rfl rfl (by kernel_rfl) (fun w => by kernel_rfl) ?_
      refine ls_val (v := .bool false) rfl rfl (by kernel_rfl) (fun w => by kernel_rfl) ?_
      refine ls_end ?_
      refine qn_then ?_
      refine cs_false (by kernel_rfl) ?_
      refine cs_skip' ?_
      refine qn_meet (sput (sput (sput s0 0 (some (Ck.var 66 x13.1 ((([Value.int .i64 t11.1.1.1.1] ++ [Value.int .i64 t11.1.1.1.2]) ++ ([Value.bool t11.1.1.2.1] ++ ([Value.int .i64 t11.1.1.2.2.1] ++ ([Value.slice x13.2.1.1 t11.1.1.2.2.2.1.length x13.2.1.2] ++ ([Value.map (some x13.2.2.2.1)] ++ [Value.slice x13.2.2.1.1 t11.1.1.2.2.2.2.2.length x13.2.2.1.2]))))))))) 1 (some (Ck.m1 x13.2.2.2.1 t11.1.2.1 x13.2.2.2.2.1 t11.1.2.2.length x13.2.2.2.2.2))) 2 (some (Ck.sl T24 x13.2.2.2.2.1 x13.2.2.2.2.2 t11.1.2.2))) ⟨_, fr_next (fr_next (fr_next (rfl) (by kernel_rfl)) (by kernel_rfl)) (by kernel_rfl), rfl, H⟩ (sub_put (by exact rfl) (sub_put (by exact rfl) (sub_put (by exact rfl) (sub_nil _))))
    · replace H := ite_f q71 H
      refine ls_know (c := true) (congrArg Bool.not (dec_f q71)) 37 (by kernel_rfl) ?_
      refine ls_off (j := 2) (t := 37) (b := false) (c := true) rfl rfl (by kernel_rfl) (by kernel_rfl) rfl rfl (by kernel_rfl) ?_
      refine ls_off (j := 2) (t := 37) (b := false) (c := true) rfl rfl (by kernel_rfl) (by kernel_rfl) rfl rfl (by kernel_rfl) ?_
      refine ls_val (v := .bool true) rfl rfl (by kernel_rfl) (fun w => by kernel_rfl) ?_
      refine ls_end ?_
      refine qn_then ?_
      refine cs_true (by kernel_rfl) ?_
      refine cs_seq ?_
      refine cs_region (l := [_]) ?_
      refine ls_val (v := .bool false) rfl rfl (by kernel_rfl) (fun w => by kernel_rfl) ?_
      refine ls_end ?_
      refine qn_then ?_
      refine cs_ret' ?_
      refine qr_then ?_
      obtain rfl := Option.some.inj H
      refine qr_res (rs := [_]) rfl (fun w' hs => ⟨[.bool false], (res_tmp (by kernel_rfl) (.nil)), (), rfl, St.later hs0.ok hle19 (hs.pick (ts := []) (cs := []) trivial (by decide))⟩)
  · rintro f S ⟨fr1, rfl, rfl, H⟩
    replace H : (shadowboxlaw10_AllocKeeps.lo5 a0 t11 (shadowboxlaw10_AllocKeeps.jo2 k a0 y9 t11) k (0 : Int) (0 : Int) (t11.1.1.1, t11.1.1.2.1, t11.1.1.2.2.1, t11.1.1.2.2.2.1, (), t11.1.1.2.2.2.2.2)) = some r := H
    refine cs_seq ?_
    refine cs_region (l := [_]) ?_
    refine ls_val (v := .int .i64 (0 : Int)) rfl rfl (by kernel_rfl) (fun w => by kernel_rfl) ?_
    refine ls_end ?_
    refine qn_then ?_
    refine cs_cutb (fun bh2 f S => ∃ (fR : Fr) (x7_2 : Int) (Am0_2_3 : Option Addr) (cm0_2_3 : Nat) (Am0_2_5 : Option Addr) (cm0_2_5 : Nat) (m0_2 : ((Int × Int) × Bool × Int × (List (Int × Int)) × Unit × (List (Int × Int)))), f = upd (upd (upd (upd fR 0 (.int .i64 (bits .and .i64 a0 (63 : Int)))) 1 (.int .i64 y9)) 5 (.pointer (some ⟨x13.1, 0, none⟩))) 7 (.int .i64 x7_2) ∧ S = sput (sput (sput s0 0 (some (Ck.var 66 x13.1 ((([Value.int .i64 m0_2.1.1] ++ [Value.int .i64 m0_2.1.2]) ++ ([Value.bool m0_2.2.1] ++ ([Value.int .i64 m0_2.2.2.1] ++ ([Value.slice Am0_2_3 m0_2.2.2.2.1.length cm0_2_3] ++ ([Value.map (some x13.2.2.2.1)] ++ [Value.slice Am0_2_5 m0_2.2.2.2.2.2.length cm0_2_5]))))))))) 1 (some (Ck.m1 x13.2.2.2.1 t11.1.2.1 x13.2.2.2.2.1 t11.1.2.2.length x13.2.2.2.2.2))) 2 (some (Ck.sl T24 x13.2.2.2.2.1 x13.2.2.2.2.2 t11.1.2.2)) ∧ Ro bh2 Am0_2_3 (em T24 m0_2.2.2.2.1) ∧ m0_2.2.2.2.1.length ≤ cm0_2_3 ∧ Ro bh2 Am0_2_5 (em T24 m0_2.2.2.2.2.2) ∧ m0_2.2.2.2.2.2.length ≤ cm0_2_5 ∧ b.le bh2 ∧ shadowboxlaw10_AllocKeeps.jo2 k a0 y9 t11 x7_2 m0_2 = some r) ?_ ?_
    · skip
      refine cs_seq ?_
      refine cs_region (l := [_]) ?_
      refine ls_val (v := .int .i64 (0 : Int)) rfl rfl (by kernel_rfl) (fun w => by kernel_rfl) ?_
      refine ls_end ?_
      refine qn_then ?_
      refine cs_block ?_
      refine cs_sub (sput (sput (sput s0 0 (some (Ck.var 66 x13.1 ((([Value.int .i64 t11.1.1.1.1] ++ [Value.int .i64 t11.1.1.1.2]) ++ ([Value.bool t11.1.1.2.1] ++ ([Value.int .i64 t11.1.1.2.2.1] ++ ([Value.slice x13.2.1.1 t11.1.1.2.2.2.1.length x13.2.1.2] ++ ([Value.map (some x13.2.2.2.1)] ++ [Value.slice x13.2.2.1.1 t11.1.1.2.2.2.2.2.length x13.2.2.1.2]))))))))) 1 (some (Ck.m1 x13.2.2.2.1 t11.1.2.1 x13.2.2.2.2.1 t11.1.2.2.length x13.2.2.2.2.2))) 2 (some (Ck.sl T24 x13.2.2.2.2.1 x13.2.2.2.2.2 t11.1.2.2))) (sub_put (by exact rfl) (sub_put (by exact rfl) (sub_put (by exact rfl) (sub_nil _)))) ?_
      refine cs_loopb (fun kk bh5 f S => ∃ (fR : Fr) (x7_5 : Int) (x8_5 : Int) (Am0_5_3 : Option Addr) (cm0_5_3 : Nat) (Am0_5_5 : Option Addr) (cm0_5_5 : Nat) (m0_5 : ((Int × Int) × Bool × Int × (List (Int × Int)) × Unit × (List (Int × Int)))), f = upd (upd (upd (upd (upd fR 0 (.int .i64 (bits .and .i64 a0 (63 : Int)))) 1 (.int .i64 y9)) 5 (.pointer (some ⟨x13.1, 0, none⟩))) 7 (.int .i64 x7_5)) 8 (.int .i64 x8_5) ∧ S = sput (sput (sput s0 0 (some (Ck.var 66 x13.1 ((([Value.int .i64 m0_5.1.1] ++ [Value.int .i64 m0_5.1.2]) ++ ([Value.bool m0_5.2.1] ++ ([Value.int .i64 m0_5.2.2.1] ++ ([Value.slice Am0_5_3 m0_5.2.2.2.1.length cm0_5_3] ++ ([Value.map (some x13.2.2.2.1)] ++ [Value.slice Am0_5_5 m0_5.2.2.2.2.2.length cm0_5_5]))))))))) 1 (some (Ck.m1 x13.2.2.2.1 t11.1.2.1 x13.2.2.2.2.1 t11.1.2.2.length x13.2.2.2.2.2))) 2 (some (Ck.sl T24 x13.2.2.2.2.1 x13.2.2.2.2.2 t11.1.2.2)) ∧ Ro bh5 Am0_5_3 (em T24 m0_5.2.2.2.1) ∧ m0_5.2.2.2.1.length ≤ cm0_5_3 ∧ Ro bh5 Am0_5_5 (em T24 m0_5.2.2.2.2.2) ∧ m0_5.2.2.2.2.2.length ≤ cm0_5_5 ∧ b.le bh5 ∧ shadowboxlaw10_AllocKeeps.lo5 a0 t11 (shadowboxlaw10_AllocKeeps.jo2 k a0 y9 t11) kk x7_5 x8_5 m0_5 = some r) k ?_ ?_ ?_
      · exact ⟨_, (0 : Int), (0 : Int), x13.2.1.1, x13.2.1.2, x13.2.2.1.1, x13.2.2.1.2, (t11.1.1.1, t11.1.1.2.1, t11.1.1.2.2.1, t11.1.1.2.2.2.1, (), t11.1.1.2.2.2.2.2), fr_next (fr_next (fr_next (fr_next (fr_next (rfl) (by kernel_rfl)) (by kernel_rfl)) (by kernel_rfl)) (by kernel_rfl)) (by kernel_rfl), rfl, fR14, fC15, fR16, fC17, hle19, H⟩
      · rintro bh5 f S ⟨fr5, x7_5, x8_5, Am0_5_3, cm0_5_3, Am0_5_5, cm0_5_5, m0_5, rfl, rfl, Rm0_5_3, Cm0_5_3, Rm0_5_5, Cm0_5_5, hleh5, H⟩; cases H
      · rintro k5 bh5 f S ⟨fr5, x7_5, x8_5, Am0_5_3, cm0_5_3, Am0_5_5, cm0_5_5, m0_5, rfl, rfl, Rm0_5_3, Cm0_5_3, Rm0_5_5, Cm0_5_5, hleh5, H⟩
        replace H : (lt (IntKind.wrap .i64 ((bits .and .i64 a0 (63 : Int)) + (2 : Int))) fun y56 => (if x8_5 < y56 then (alloc_Alloc_Take.f k5 (m0_5.1, m0_5.2.1, m0_5.2.2.1, m0_5.2.2.2.1, (), m0_5.2.2.2.2.2) (t11.1.2.1, t11.1.2.2) (1 : Int) false).bind fun t59 => (if t59.2.1 = (0 : Int) then (shadowboxlaw10_AllocKeeps.lo5 a0 t11 (shadowboxlaw10_AllocKeeps.jo2 k a0 y9 t11) k5) (IntKind.wrap .i64 (x7_5 + (1 : Int))) (IntKind.wrap .i64 (x8_5 + (1 : Int))) (t59.2.2.1, t59.2.2.2.1, t59.2.2.2.2.1, t59.2.2.2.2.2.1, (), t59.2.2.2.2.2.2.2) else (shadowboxlaw10_AllocKeeps.lo5 a0 t11 (shadowboxlaw10_AllocKeeps.jo2 k a0 y9 t11) k5) x7_5 (IntKind.wrap .i64 (x8_5 + (1 : Int))) (t59.2.2.1, t59.2.2.2.1, t59.2.2.2.2.1, t59.2.2.2.2.2.1, (), t59.2.2.2.2.2.2.2)) else (shadowboxlaw10_AllocKeeps.jo2 k a0 y9 t11) x7_5 (m0_5.1, m0_5.2.1, m0_5.2.2.1, m0_5.2.2.2.1, (), m0_5.2.2.2.2.2))) = some r := H
        refine cs_seq ?_
        refine cs_seq ?_
        refine cs_region (l := [_, _, _, _]) ?_
        refine ls_val (v := .int .i64 x8_5) rfl rfl (by kernel_rfl) (fun w => by kernel_rfl) ?_
        refine ls_val (v := .int .i64 (bits .and .i64 a0 (63 : Int))) rfl rfl (by kernel_rfl) (fun w => by kernel_rfl) ?_
        obtain ⟨y56, hy57, H⟩ := lt_some H
        refine ls_val (v := .int .i64 (IntKind.wrap .i64 ((bits .and .i64 a0 (63 : Int)) + (2 : Int)))) rfl rfl (by kernel_rfl) (fun w => by kernel_rfl) ?_
        refine ls_ren 43 (v := .int .i64 (IntKind.wrap .i64 ((bits .and .i64 a0 (63 : Int)) + (2 : Int)))) (v' := .int .i64 y56) (by kernel_rfl) (by rw [hy57]) ?_
        refine ls_val (v := .bool (decide (x8_5 < y56))) rfl rfl (by kernel_rfl) (fun w => by kernel_rfl) ?_
        refine ls_end ?_
        refine qn_then ?_
        by_cases q58 : x8_5 < y56
        · replace H := ite_t q58 H
          refine cs_know (c := true) (dec_t q58) 44 (by kernel_rfl) ?_
          refine cs_true (by kernel_rfl) ?_
          refine cs_skip' ?_
          refine qn_then ?_
          refine cs_seq ?_
          refine cs_block ?_
          refine cs_seq ?_
          refine cs_region (l := [_, _, _, _, _, _, _]) ?_
          refine ls_val (v := .pointer (some ⟨x13.1, 0, none⟩)) rfl rfl (by kernel_rfl) (fun w => by kernel_rfl) ?_
          obtain ⟨t59, hc60, H⟩ := bind_some H
          refine ls_callf (fid := 28) (vals := #[.pointer (some ⟨x13.1, 0, none⟩), .int .i64 (1 : Int), .bool false]) (X := (Option Addr × Nat) × (Option Addr × Nat)) (fun x => .tuple #[.int .i64 t59.1, .int .i64 t59.2.1]) (fun x => stl [Ck.var 66 x13.1 ((([Value.int .i64 t59.2.2.1.1] ++ [Value.int .i64 t59.2.2.1.2]) ++ ([Value.bool t59.2.2.2.1] ++ ([Value.int .i64 t59.2.2.2.2.1] ++ ([Value.slice x.1.1 t59.2.2.2.2.2.1.length x.1.2] ++ ([Value.map (some x13.2.2.2.1)] ++ [Value.slice x.2.1 t59.2.2.2.2.2.2.2.length x.2.2])))))), Ck.m1 x13.2.2.2.1 t11.1.2.1 x13.2.2.2.2.1 t11.1.2.2.length x13.2.2.2.2.2, Ck.sl T24 x13.2.2.2.2.1 x13.2.2.2.2.2 t11.1.2.2]) (fun x B => (Ro B x.1.1 (em T24 t59.2.2.2.2.2.1) ∧ t59.2.2.2.2.2.1.length ≤ x.1.2) ∧ (Ro B x.2.1 (em T24 t59.2.2.2.2.2.2.2) ∧ t59.2.2.2.2.2.2.2.length ≤ x.2.2)) [0, 1, 2] [Ck.var 66 x13.1 ((([Value.int .i64 m0_5.1.1] ++ [Value.int .i64 m0_5.1.2]) ++ ([Value.bool m0_5.2.1] ++ ([Value.int .i64 m0_5.2.2.1] ++ ([Value.slice Am0_5_3 m0_5.2.2.2.1.length cm0_5_3] ++ ([Value.map (some x13.2.2.2.1)] ++ [Value.slice Am0_5_5 m0_5.2.2.2.2.2.length cm0_5_5])))))), Ck.m1 x13.2.2.2.1 t11.1.2.1 x13.2.2.2.2.1 t11.1.2.2.length x13.2.2.2.2.2, Ck.sl T24 x13.2.2.2.2.1 x13.2.2.2.2.2 t11.1.2.2] 3 rfl rfl (by kernel_rfl) (fun w => by kernel_rfl) ⟨by exact rfl, by exact rfl, by exact rfl, trivial⟩ (by decide) (fun x b b' h hf => ⟨⟨h _ _ hf.1.1, hf.1.2⟩, ⟨h _ _ hf.2.1, hf.2.2⟩⟩) (fun w hs hb => alloc_Alloc_Take.calls k5 x13.1 Am0_5_3 cm0_5_3 x13.2.2.2.1 Am0_5_5 cm0_5_5 (m0_5.1, m0_5.2.1, m0_5.2.2.1, m0_5.2.2.2.1, (), m0_5.2.2.2.2.2) x13.2.2.2.2.1 x13.2.2.2.2.2 (t11.1.2.1, t11.1.2.2) (1 : Int) false t59 (lent bh5 w [Ck.var 66 x13.1 ((([Value.int .i64 m0_5.1.1] ++ [Value.int .i64 m0_5.1.2]) ++ ([Value.bool m0_5.2.1] ++ ([Value.int .i64 m0_5.2.2.1] ++ ([Value.slice Am0_5_3 m0_5.2.2.2.1.length cm0_5_3] ++ ([Value.map (some x13.2.2.2.1)] ++ [Value.slice Am0_5_5 m0_5.2.2.2.2.2.length cm0_5_5])))))), Ck.m1 x13.2.2.2.1 t11.1.2.1 x13.2.2.2.2.1 t11.1.2.2.length x13.2.2.2.2.2, Ck.sl T24 x13.2.2.2.2.1 x13.2.2.2.2.2 t11.1.2.2] []) hb (hs.ro Rm0_5_3 _ _) Cm0_5_3 (hs.ro Rm0_5_5 _ _) Cm0_5_5 hc60) ?_
          intro x61 bs66 hle67 hok68 hf69
          obtain ⟨⟨fR62, fC63⟩, ⟨fR64, fC65⟩⟩ := hf69
          refine ls_val (v := .tuple #[.int .i64 t59.1, .int .i64 t59.2.1]) rfl rfl (by kernel_rfl) (fun w => by kernel_rfl) ?_
          refine ls_val (v := .int .i64 t59.1) rfl rfl (by kernel_rfl) (fun w => by kernel_rfl) ?_
          refine ls_val (v := .int .i64 t59.2.1) rfl rfl (by kernel_rfl) (fun w => by kernel_rfl) ?_
          refine ls_val (v := .int .i64 t59.1) rfl rfl (by kernel_rfl) (fun w => by kernel_rfl) ?_
          refine ls_val (v := .int .i64 t59.2.1) rfl rfl (by kernel_rfl) (fun w => by kernel_rfl) ?_
          refine ls_end ?_
          refine qn_then ?_
          refine cs_seq ?_
          refine cs_region (l := [_, _]) ?_
          refine ls_val (v := .int .i64 t59.2.1) rfl rfl (by kernel_rfl) (fun w => by kernel_rfl) ?_
          refine ls_val (v := .bool (decide (t59.2.1 = (0 : Int)))) rfl rfl (by kernel_rfl) (fun w => by kernel_rfl) ?_
          refine ls_end ?_
          refine qn_then ?_
          by_cases q70 : t59.2.1 = (0 : Int)
          · replace H := ite_t q70 H
            refine cs_know (c := true) (dec_t q70) 53 (by kernel_rfl) ?_
            refine cs_true (by kernel_rfl) ?_
            refine cs_region (l := [_, _, _]) ?_
            refine ls_val (v := .int .i64 x7_5) rfl rfl (by kernel_rfl) (fun w => by kernel_rfl) ?_
            refine ls_val (v := .int .i64 (IntKind.wrap .i64 (x7_5 + (1 : Int)))) rfl rfl (by kernel_rfl) (fun w => by kernel_rfl) ?_
            refine ls_val (v := .int .i64 (IntKind.wrap .i64 (x7_5 + (1 : Int)))) rfl rfl (by kernel_rfl) (fun w => by kernel_rfl) ?_
            refine ls_end ?_
            refine qn_block ?_
            refine qn_then ?_
            refine cs_region (l := [_, _, _]) ?_
            refine ls_val (v := .int .i64 x8_5) rfl rfl (by kernel_rfl) (fun w => by kernel_rfl) ?_
            refine ls_val (v := .int .i64 (IntKind.wrap .i64 (x8_5 + (1 : Int)))) rfl rfl (by kernel_rfl) (fun w => by kernel_rfl) ?_
            refine ls_val (v := .int .i64 (IntKind.wrap .i64 (x8_5 + (1 : Int)))) rfl rfl (by kernel_rfl) (fun w => by kernel_rfl) ?_
            refine ls_end ?_
            refine qn_againb k5 (sput (sput (sput s0 0 (some (Ck.var 66 x13.1 ((([Value.int .i64 t59.2.2.1.1] ++ [Value.int .i64 t59.2.2.1.2]) ++ ([Value.bool t59.2.2.2.1] ++ ([Value.int .i64 t59.2.2.2.2.1] ++ ([Value.slice x61.1.1 t59.2.2.2.2.2.1.length x61.1.2] ++ ([Value.map (some x13.2.2.2.1)] ++ [Value.slice x61.2.1 t59.2.2.2.2.2.2.2.length x61.2.2]))))))))) 1 (some (Ck.m1 x13.2.2.2.1 t11.1.2.1 x13.2.2.2.2.1 t11.1.2.2.length x13.2.2.2.2.2))) 2 (some (Ck.sl T24 x13.2.2.2.2.1 x13.2.2.2.2.2 t11.1.2.2))) (Nat.le_refl _) ⟨_, (IntKind.wrap .i64 (x7_5 + (1 : Int))), (IntKind.wrap .i64 (x8_5 + (1 : Int))), x61.1.1, x61.1.2, x61.2.1, x61.2.2, (t59.2.2.1, t59.2.2.2.1, t59.2.2.2.2.1, t59.2.2.2.2.2.1, (), t59.2.2.2.2.2.2.2), fr_next (fr_next (fr_next (fr_next (fr_next (rfl) (by kernel_rfl)) (by kernel_rfl)) (by kernel_rfl)) (by kernel_rfl)) (by kernel_rfl), rfl, fR62, fC63, fR64, fC65, (hleh5.trans hle67), H⟩ (sub_put (by exact rfl) (sub_put (by exact rfl) (sub_put (by exact rfl) (sub_nil _))))
          · replace H := ite_f q70 H
            refine cs_know (c := false) (dec_f q70) 53 (by kernel_rfl) ?_
            refine cs_false (by kernel_rfl) ?_
            refine cs_skip' ?_
            refine qn_block ?_
            refine qn_then ?_
            refine cs_region (l := [_, _, _]) ?_
            refine ls_val (v := .int .i64 x8_5) rfl rfl (by kernel_rfl) (fun w => by kernel_rfl) ?_
            refine ls_val (v := .int .i64 (IntKind.wrap .i64 (x8_5 + (1 : Int)))) rfl rfl (by kernel_rfl) (fun w => by kernel_rfl) ?_
            refine ls_val (v := .int .i64 (IntKind.wrap .i64 (x8_5 + (1 : Int)))) rfl rfl (by kernel_rfl) (fun w => by kernel_rfl) ?_
            refine ls_end ?_
            refine qn_againb k5 (sput (sput (sput s0 0 (some (Ck.var 66 x13.1 ((([Value.int .i64 t59.2.2.1.1] ++ [Value.int .i64 t59.2.2.1.2]) ++ ([Value.bool t59.2.2.2.1] ++ ([Value.int .i64 t59.2.2.2.2.1] ++ ([Value.slice x61.1.1 t59.2.2.2.2.2.1.length x61.1.2] ++ ([Value.map (some x13.2.2.2.1)] ++ [Value.slice x61.2.1 t59.2.2.2.2.2.2.2.length x61.2.2]))))))))) 1 (some (Ck.m1 x13.2.2.2.1 t11.1.2.1 x13.2.2.2.2.1 t11.1.2.2.length x13.2.2.2.2.2))) 2 (some (Ck.sl T24 x13.2.2.2.2.1 x13.2.2.2.2.2 t11.1.2.2))) (Nat.le_refl _) ⟨_, x7_5, (IntKind.wrap .i64 (x8_5 + (1 : Int))), x61.1.1, x61.1.2, x61.2.1, x61.2.2, (t59.2.2.1, t59.2.2.2.1, t59.2.2.2.2.1, t59.2.2.2.2.2.1, (), t59.2.2.2.2.2.2.2), fr_next (fr_next (fr_next (fr_next (fr_next (rfl) (by kernel_rfl)) (by kernel_rfl)) (by kernel_rfl)) (by kernel_rfl)) (by kernel_rfl), rfl, fR62, fC63, fR64, fC65, (hleh5.trans hle67), H⟩ (sub_put (by exact rfl) (sub_put (by exact rfl) (sub_put (by exact rfl) (sub_nil _))))
        · replace H := ite_f q58 H
          refine cs_know (c := false) (dec_f q58) 44 (by kernel_rfl) ?_
          refine cs_false (by kernel_rfl) ?_
          refine cs_exit' ?_
          refine qx_then ?_
          refine qx_then ?_
          refine qx_same ?_
          refine qn_meetb (sput (sput (sput s0 0 (some (Ck.var 66 x13.1 ((([Value.int .i64 m0_5.1.1] ++ [Value.int .i64 m0_5.1.2]) ++ ([Value.bool m0_5.2.1] ++ ([Value.int .i64 m0_5.2.2.1] ++ ([Value.slice Am0_5_3 m0_5.2.2.2.1.length cm0_5_3] ++ ([Value.map (some x13.2.2.2.1)] ++ [Value.slice Am0_5_5 m0_5.2.2.2.2.2.length cm0_5_5]))))))))) 1 (some (Ck.m1 x13.2.2.2.1 t11.1.2.1 x13.2.2.2.2.1 t11.1.2.2.length x13.2.2.2.2.2))) 2 (some (Ck.sl T24 x13.2.2.2.2.1 x13.2.2.2.2.2 t11.1.2.2))) ⟨_, x7_5, Am0_5_3, cm0_5_3, Am0_5_5, cm0_5_5, (m0_5.1, m0_5.2.1, m0_5.2.2.1, m0_5.2.2.2.1, (), m0_5.2.2.2.2.2), fr_next (fr_next (fr_next (fr_next (rfl) (by kernel_rfl)) (by kernel_rfl)) (by kernel_rfl)) (by kernel_rfl), rfl, Rm0_5_3, Cm0_5_3, Rm0_5_5, Cm0_5_5, hleh5, H⟩ (sub_put (by exact rfl) (sub_put (by exact rfl) (sub_put (by exact rfl) (sub_nil _))))
    · rintro bh2 f S ⟨fr2, x7_2, Am0_2_3, cm0_2_3, Am0_2_5, cm0_2_5, m0_2, rfl, rfl, Rm0_2_3, Cm0_2_3, Rm0_2_5, Cm0_2_5, hleh2, H⟩
      replace H : (shadowboxlaw10_AllocKeeps.lo4 a0 t11 (shadowboxlaw10_AllocKeeps.jo3 k a0 y9 t11 x7_2) k (0 : Int) (0 : Int) (m0_2.1, m0_2.2.1, m0_2.2.2.1, m0_2.2.2.2.1, (), m0_2.2.2.2.2.2)) = some r := H
      refine cs_seq ?_
      refine cs_region (l := [_]) ?_
      refine ls_val (v := .int .i64 (0 : Int)) rfl rfl (by kernel_rfl) (fun w => by kernel_rfl) ?_
      refine ls_end ?_
      refine qn_then ?_
      refine cs_cutb (fun bh3 f S => ∃ (fR : Fr) (x11_3 : Int) (Am0_3_3 : Option Addr) (cm0_3_3 : Nat) (Am0_3_5 : Option Addr) (cm0_3_5 : Nat) (m0_3 : ((Int × Int) × Bool × Int × (List (Int × Int)) × Unit × (List (Int × Int)))), f = upd (upd (upd (upd (upd fR 0 (.int .i64 (bits .and .i64 a0 (63 : Int)))) 1 (.int .i64 y9)) 5 (.pointer (some ⟨x13.1, 0, none⟩))) 7 (.int .i64 x7_2)) 11 (.int .i64 x11_3) ∧ S = sput (sput (sput s0 0 (some (Ck.var 66 x13.1 ((([Value.int .i64 m0_3.1.1] ++ [Value.int .i64 m0_3.1.2]) ++ ([Value.bool m0_3.2.1] ++ ([Value.int .i64 m0_3.2.2.1] ++ ([Value.slice Am0_3_3 m0_3.2.2.2.1.length cm0_3_3] ++ ([Value.map (some x13.2.2.2.1)] ++ [Value.slice Am0_3_5 m0_3.2.2.2.2.2.length cm0_3_5]))))))))) 1 (some (Ck.m1 x13.2.2.2.1 t11.1.2.1 x13.2.2.2.2.1 t11.1.2.2.length x13.2.2.2.2.2))) 2 (some (Ck.sl T24 x13.2.2.2.2.1 x13.2.2.2.2.2 t11.1.2.2)) ∧ Ro bh3 Am0_3_3 (em T24 m0_3.2.2.2.1) ∧ m0_3.2.2.2.1.length ≤ cm0_3_3 ∧ Ro bh3 Am0_3_5 (em T24 m0_3.2.2.2.2.2) ∧ m0_3.2.2.2.2.2.length ≤ cm0_3_5 ∧ b.le bh3 ∧ shadowboxlaw10_AllocKeeps.jo3 k a0 y9 t11 x7_2 x11_3 m0_3 = some r) ?_ ?_
      · skip
        refine cs_seq ?_
        refine cs_region (l := [_]) ?_
        refine ls_val (v := .int .i64 (0 : Int)) rfl rfl (by kernel_rfl) (fun w => by kernel_rfl) ?_
        refine ls_end ?_
        refine qn_then ?_
        refine cs_block ?_
        refine cs_sub (sput (sput (sput s0 0 (some (Ck.var 66 x13.1 ((([Value.int .i64 m0_2.1.1] ++ [Value.int .i64 m0_2.1.2]) ++ ([Value.bool m0_2.2.1] ++ ([Value.int .i64 m0_2.2.2.1] ++ ([Value.slice Am0_2_3 m0_2.2.2.2.1.length cm0_2_3] ++ ([Value.map (some x13.2.2.2.1)] ++ [Value.slice Am0_2_5 m0_2.2.2.2.2.2.length cm0_2_5]))))))))) 1 (some (Ck.m1 x13.2.2.2.1 t11.1.2.1 x13.2.2.2.2.1 t11.1.2.2.length x13.2.2.2.2.2))) 2 (some (Ck.sl T24 x13.2.2.2.2.1 x13.2.2.2.2.2 t11.1.2.2))) (sub_put (by exact rfl) (sub_put (by exact rfl) (sub_put (by exact rfl) (sub_nil _)))) ?_
        refine cs_loopb (fun kk bh4 f S => ∃ (fR : Fr) (x11_4 : Int) (x12_4 : Int) (Am0_4_3 : Option Addr) (cm0_4_3 : Nat) (Am0_4_5 : Option Addr) (cm0_4_5 : Nat) (m0_4 : ((Int × Int) × Bool × Int × (List (Int × Int)) × Unit × (List (Int × Int)))), f = upd (upd (upd (upd (upd (upd fR 0 (.int .i64 (bits .and .i64 a0 (63 : Int)))) 1 (.int .i64 y9)) 5 (.pointer (some ⟨x13.1, 0, none⟩))) 7 (.int .i64 x7_2)) 11 (.int .i64 x11_4)) 12 (.int .i64 x12_4) ∧ S = sput (sput (sput s0 0 (some (Ck.var 66 x13.1 ((([Value.int .i64 m0_4.1.1] ++ [Value.int .i64 m0_4.1.2]) ++ ([Value.bool m0_4.2.1] ++ ([Value.int .i64 m0_4.2.2.1] ++ ([Value.slice Am0_4_3 m0_4.2.2.2.1.length cm0_4_3] ++ ([Value.map (some x13.2.2.2.1)] ++ [Value.slice Am0_4_5 m0_4.2.2.2.2.2.length cm0_4_5]))))))))) 1 (some (Ck.m1 x13.2.2.2.1 t11.1.2.1 x13.2.2.2.2.1 t11.1.2.2.length x13.2.2.2.2.2))) 2 (some (Ck.sl T24 x13.2.2.2.2.1 x13.2.2.2.2.2 t11.1.2.2)) ∧ Ro bh4 Am0_4_3 (em T24 m0_4.2.2.2.1) ∧ m0_4.2.2.2.1.length ≤ cm0_4_3 ∧ Ro bh4 Am0_4_5 (em T24 m0_4.2.2.2.2.2) ∧ m0_4.2.2.2.2.2.length ≤ cm0_4_5 ∧ b.le bh4 ∧ shadowboxlaw10_AllocKeeps.lo4 a0 t11 (shadowboxlaw10_AllocKeeps.jo3 k a0 y9 t11 x7_2) kk x11_4 x12_4 m0_4 = some r) k ?_ ?_ ?_
        · exact ⟨_, (0 : Int), (0 : Int), Am0_2_3, cm0_2_3, Am0_2_5, cm0_2_5, (m0_2.1, m0_2.2.1, m0_2.2.2.1, m0_2.2.2.2.1, (), m0_2.2.2.2.2.2), fr_next (fr_next (fr_next (fr_next (fr_next (fr_next (rfl) (by kernel_rfl)) (by kernel_rfl)) (by kernel_rfl)) (by kernel_rfl)) (by kernel_rfl)) (by kernel_rfl), rfl, Rm0_2_3, Cm0_2_3, Rm0_2_5, Cm0_2_5, hleh2, H⟩
        · rintro bh4 f S ⟨fr4, x11_4, x12_4, Am0_4_3, cm0_4_3, Am0_4_5, cm0_4_5, m0_4, rfl, rfl, Rm0_4_3, Cm0_4_3, Rm0_4_5, Cm0_4_5, hleh4, H⟩; cases H
        · rintro k4 bh4 f S ⟨fr4, x11_4, x12_4, Am0_4_3, cm0_4_3, Am0_4_5, cm0_4_5, m0_4, rfl, rfl, Rm0_4_3, Cm0_4_3, Rm0_4_5, Cm0_4_5, hleh4, H⟩
          replace H : (lt (IntKind.wrap .i64 ((bits .and .i64 a0 (63 : Int)) + (2 : Int))) fun y41 => (if x12_4 < y41 then (alloc_Alloc_Take.f k4 (m0_4.1, m0_4.2.1, m0_4.2.2.1, m0_4.2.2.2.1, (), m0_4.2.2.2.2.2) (t11.1.2.1, t11.1.2.2) (1 : Int) true).bind fun t44 => (if t44.2.1 = (0 : Int) then (shadowboxlaw10_AllocKeeps.lo4 a0 t11 (shadowboxlaw10_AllocKeeps.jo3 k a0 y9 t11 x7_2) k4) (IntKind.wrap .i64 (x11_4 + (1 : Int))) (IntKind.wrap .i64 (x12_4 + (1 : Int))) (t44.2.2.1, t44.2.2.2.1, t44.2.2.2.2.1, t44.2.2.2.2.2.1, (), t44.2.2.2.2.2.2.2) else (shadowboxlaw10_AllocKeeps.lo4 a0 t11 (shadowboxlaw10_AllocKeeps.jo3 k a0 y9 t11 x7_2) k4) x11_4 (IntKind.wrap .i64 (x12_4 + (1 : Int))) (t44.2.2.1, t44.2.2.2.1, t44.2.2.2.2.1, t44.2.2.2.2.2.1, (), t44.2.2.2.2.2.2.2)) else (shadowboxlaw10_AllocKeeps.jo3 k a0 y9 t11 x7_2) x11_4 (m0_4.1, m0_4.2.1, m0_4.2.2.1, m0_4.2.2.2.1, (), m0_4.2.2.2.2.2))) = some r := H
          refine cs_seq ?_
          refine cs_seq ?_
          refine cs_region (l := [_, _, _, _]) ?_
          refine ls_val (v := .int .i64 x12_4) rfl rfl (by kernel_rfl) (fun w => by kernel_rfl) ?_
          refine ls_val (v := .int .i64 (bits .and .i64 a0 (63 : Int))) rfl rfl (by kernel_rfl) (fun w => by kernel_rfl) ?_
          obtain ⟨y41, hy42, H⟩ := lt_some H
          refine ls_val (v := .int .i64 (IntKind.wrap .i64 ((bits .and .i64 a0 (63 : Int)) + (2 : Int)))) rfl rfl (by kernel_rfl) (fun w => by kernel_rfl) ?_
          refine ls_ren 58 (v := .int .i64 (IntKind.wrap .i64 ((bits .and .i64 a0 (63 : Int)) + (2 : Int)))) (v' := .int .i64 y41) (by kernel_rfl) (by rw [hy42]) ?_
          refine ls_val (v := .bool (decide (x12_4 < y41))) rfl rfl (by kernel_rfl) (fun w => by kernel_rfl) ?_
          refine ls_end ?_
          refine qn_then ?_
          by_cases q43 : x12_4 < y41
          · replace H := ite_t q43 H
            refine cs_know (c := true) (dec_t q43) 59 (by kernel_rfl) ?_
            refine cs_true (by kernel_rfl) ?_
            refine cs_skip' ?_
            refine qn_then ?_
            refine cs_seq ?_
            refine cs_block ?_
            refine cs_seq ?_
            refine cs_region (l := [_, _, _, _, _, _, _]) ?_
            refine ls_val (v := .pointer (some ⟨x13.1, 0, none⟩)) rfl rfl (by kernel_rfl) (fun w => by kernel_rfl) ?_
            obtain ⟨t44, hc45, H⟩ := bind_some H
            refine ls_callf (fid := 28) (vals := #[.pointer (some ⟨x13.1, 0, none⟩), .int .i64 (1 : Int), .bool true]) (X := (Option Addr × Nat) × (Option Addr × Nat)) (fun x => .tuple #[.int .i64 t44.1, .int .i64 t44.2.1]) (fun x => stl [Ck.var 66 x13.1 ((([Value.int .i64 t44.2.2.1.1] ++ [Value.int .i64 t44.2.2.1.2]) ++ ([Value.bool t44.2.2.2.1] ++ ([Value.int .i64 t44.2.2.2.2.1] ++ ([Value.slice x.1.1 t44.2.2.2.2.2.1.length x.1.2] ++ ([Value.map (some x13.2.2.2.1)] ++ [Value.slice x.2.1 t44.2.2.2.2.2.2.2.length x.2.2])))))), Ck.m1 x13.2.2.2.1 t11.1.2.1 x13.2.2.2.2.1 t11.1.2.2.length x13.2.2.2.2.2, Ck.sl T24 x13.2.2.2.2.1 x13.2.2.2.2.2 t11.1.2.2]) (fun x B => (Ro B x.1.1 (em T24 t44.2.2.2.2.2.1) ∧ t44.2.2.2.2.2.1.length ≤ x.1.2) ∧ (Ro B x.2.1 (em T24 t44.2.2.2.2.2.2.2) ∧ t44.2.2.2.2.2.2.2.length ≤ x.2.2)) [0, 1, 2] [Ck.var 66 x13.1 ((([Value.int .i64 m0_4.1.1] ++ [Value.int .i64 m0_4.1.2]) ++ ([Value.bool m0_4.2.1] ++ ([Value.int .i64 m0_4.2.2.1] ++ ([Value.slice Am0_4_3 m0_4.2.2.2.1.length cm0_4_3] ++ ([Value.map (some x13.2.2.2.1)] ++ [Value.slice Am0_4_5 m0_4.2.2.2.2.2.length cm0_4_5])))))), Ck.m1 x13.2.2.2.1 t11.1.2.1 x13.2.2.2.2.1 t11.1.2.2.length x13.2.2.2.2.2, Ck.sl T24 x13.2.2.2.2.1 x13.2.2.2.2.2 t11.1.2.2] 3 rfl rfl (by kernel_rfl) (fun w => by kernel_rfl) ⟨by exact rfl, by exact rfl, by exact rfl, trivial⟩ (by decide) (fun x b b' h hf => ⟨⟨h _ _ hf.1.1, hf.1.2⟩, ⟨h _ _ hf.2.1, hf.2.2⟩⟩) (fun w hs hb => alloc_Alloc_Take.calls k4 x13.1 Am0_4_3 cm0_4_3 x13.2.2.2.1 Am0_4_5 cm0_4_5 (m0_4.1, m0_4.2.1, m0_4.2.2.1, m0_4.2.2.2.1, (), m0_4.2.2.2.2.2) x13.2.2.2.2.1 x13.2.2.2.2.2 (t11.1.2.1, t11.1.2.2) (1 : Int) true t44 (lent bh4 w [Ck.var 66 x13.1 ((([Value.int .i64 m0_4.1.1] ++ [Value.int .i64 m0_4.1.2]) ++ ([Value.bool m0_4.2.1] ++ ([Value.int .i64 m0_4.2.2.1] ++ ([Value.slice Am0_4_3 m0_4.2.2.2.1.length cm0_4_3] ++ ([Value.map (some x13.2.2.2.1)] ++ [Value.slice Am0_4_5 m0_4.2.2.2.2.2.length cm0_4_5])))))), Ck.m1 x13.2.2.2.1 t11.1.2.1 x13.2.2.2.2.1 t11.1.2.2.length x13.2.2.2.2.2, Ck.sl T24 x13.2.2.2.2.1 x13.2.2.2.2.2 t11.1.2.2] []) hb (hs.ro Rm0_4_3 _ _) Cm0_4_3 (hs.ro Rm0_4_5 _ _) Cm0_4_5 hc45) ?_
            intro x46 bs51 hle52 hok53 hf54
            obtain ⟨⟨fR47, fC48⟩, ⟨fR49, fC50⟩⟩ := hf54
            refine ls_val (v := .tuple #[.int .i64 t44.1, .int .i64 t44.2.1]) rfl rfl (by kernel_rfl) (fun w => by kernel_rfl) ?_
            refine ls_val (v := .int .i64 t44.1) rfl rfl (by kernel_rfl) (fun w => by kernel_rfl) ?_
            refine ls_val (v := .int .i64 t44.2.1) rfl rfl (by kernel_rfl) (fun w => by kernel_rfl) ?_
            refine ls_val (v := .int .i64 t44.1) rfl rfl (by kernel_rfl) (fun w => by kernel_rfl) ?_
            refine ls_val (v := .int .i64 t44.2.1) rfl rfl (by kernel_rfl) (fun w => by kernel_rfl) ?_
            refine ls_end ?_
            refine qn_then ?_
            refine cs_seq ?_
            refine cs_region (l := [_, _]) ?_
            refine ls_val (v := .int .i64 t44.2.1) rfl rfl (by kernel_rfl) (fun w => by kernel_rfl) ?_
            refine ls_val (v := .bool (decide (t44.2.1 = (0 : Int)))) rfl rfl (by kernel_rfl) (fun w => by kernel_rfl) ?_
            refine ls_end ?_
            refine qn_then ?_
            by_cases q55 : t44.2.1 = (0 : Int)
            · replace H := ite_t q55 H
              refine cs_know (c := true) (dec_t q55) 68 (by kernel_rfl) ?_
              refine cs_true (by kernel_rfl) ?_
              refine cs_region (l := [_, _, _]) ?_
              refine ls_val (v := .int .i64 x11_4) rfl rfl (by kernel_rfl) (fun w => by kernel_rfl) ?_
              refine ls_val (v := .int .i64 (IntKind.wrap .i64 (x11_4 + (1 : Int)))) rfl rfl (by kernel_rfl) (fun w => by kernel_rfl) ?_
              refine ls_val (v := .int .i64 (IntKind.wrap .i64 (x11_4 + (1 : Int)))) rfl rfl (by kernel_rfl) (fun w => by kernel_rfl) ?_
              refine ls_end ?_
              refine qn_block ?_
              refine qn_then ?_
              refine cs_region (l := [_, _, _]) ?_
              refine ls_val (v := .int .i64 x12_4) rfl rfl (by kernel_rfl) (fun w => by kernel_rfl) ?_
              refine ls_val (v := .int .i64 (IntKind.wrap .i64 (x12_4 + (1 : Int)))) rfl rfl (by kernel_rfl) (fun w => by kernel_rfl) ?_
              refine ls_val (v := .int .i64 (IntKind.wrap .i64 (x12_4 + (1 : Int)))) rfl rfl (by kernel_rfl) (fun w => by kernel_rfl) ?_
              refine ls_end ?_
              refine qn_againb k4 (sput (sput (sput s0 0 (some (Ck.var 66 x13.1 ((([Value.int .i64 t44.2.2.1.1] ++ [Value.int .i64 t44.2.2.1.2]) ++ ([Value.bool t44.2.2.2.1] ++ ([Value.int .i64 t44.2.2.2.2.1] ++ ([Value.slice x46.1.1 t44.2.2.2.2.2.1.length x46.1.2] ++ ([Value.map (some x13.2.2.2.1)] ++ [Value.slice x46.2.1 t44.2.2.2.2.2.2.2.length x46.2.2]))))))))) 1 (some (Ck.m1 x13.2.2.2.1 t11.1.2.1 x13.2.2.2.2.1 t11.1.2.2.length x13.2.2.2.2.2))) 2 (some (Ck.sl T24 x13.2.2.2.2.1 x13.2.2.2.2.2 t11.1.2.2))) (Nat.le_refl _) ⟨_, (IntKind.wrap .i64 (x11_4 + (1 : Int))), (IntKind.wrap .i64 (x12_4 + (1 : Int))), x46.1.1, x46.1.2, x46.2.1, x46.2.2, (t44.2.2.1, t44.2.2.2.1, t44.2.2.2.2.1, t44.2.2.2.2.2.1, (), t44.2.2.2.2.2.2.2), fr_next (fr_next (fr_next (fr_next (fr_next (fr_next (rfl) (by kernel_rfl)) (by kernel_rfl)) (by kernel_rfl)) (by kernel_rfl)) (by kernel_rfl)) (by kernel_rfl), rfl, fR47, fC48, fR49, fC50, (hleh4.trans hle52), H⟩ (sub_put (by exact rfl) (sub_put (by exact rfl) (sub_put (by exact rfl) (sub_nil _))))
            · replace H := ite_f q55 H
              refine cs_know (c := false) (dec_f q55) 68 (by kernel_rfl) ?_
              refine cs_false (by kernel_rfl) ?_
              refine cs_skip' ?_
              refine qn_block ?_
              refine qn_then ?_
              refine cs_region (l := [_, _, _]) ?_
              refine ls_val (v := .int .i64 x12_4) rfl rfl (by kernel_rfl) (fun w => by kernel_rfl) ?_
              refine ls_val (v := .int .i64 (IntKind.wrap .i64 (x12_4 + (1 : Int)))) rfl rfl (by kernel_rfl) (fun w => by kernel_rfl) ?_
              refine ls_val (v := .int .i64 (IntKind.wrap .i64 (x12_4 + (1 : Int)))) rfl rfl (by kernel_rfl) (fun w => by kernel_rfl) ?_
              refine ls_end ?_
              refine qn_againb k4 (sput (sput (sput s0 0 (some (Ck.var 66 x13.1 ((([Value.int .i64 t44.2.2.1.1] ++ [Value.int .i64 t44.2.2.1.2]) ++ ([Value.bool t44.2.2.2.1] ++ ([Value.int .i64 t44.2.2.2.2.1] ++ ([Value.slice x46.1.1 t44.2.2.2.2.2.1.length x46.1.2] ++ ([Value.map (some x13.2.2.2.1)] ++ [Value.slice x46.2.1 t44.2.2.2.2.2.2.2.length x46.2.2]))))))))) 1 (some (Ck.m1 x13.2.2.2.1 t11.1.2.1 x13.2.2.2.2.1 t11.1.2.2.length x13.2.2.2.2.2))) 2 (some (Ck.sl T24 x13.2.2.2.2.1 x13.2.2.2.2.2 t11.1.2.2))) (Nat.le_refl _) ⟨_, x11_4, (IntKind.wrap .i64 (x12_4 + (1 : Int))), x46.1.1, x46.1.2, x46.2.1, x46.2.2, (t44.2.2.1, t44.2.2.2.1, t44.2.2.2.2.1, t44.2.2.2.2.2.1, (), t44.2.2.2.2.2.2.2), fr_next (fr_next (fr_next (fr_next (fr_next (fr_next (rfl) (by kernel_rfl)) (by kernel_rfl)) (by kernel_rfl)) (by kernel_rfl)) (by kernel_rfl)) (by kernel_rfl), rfl, fR47, fC48, fR49, fC50, (hleh4.trans hle52), H⟩ (sub_put (by exact rfl) (sub_put (by exact rfl) (sub_put (by exact rfl) (sub_nil _))))
          · replace H := ite_f q43 H
            refine cs_know (c := false) (dec_f q43) 59 (by kernel_rfl) ?_
            refine cs_false (by kernel_rfl) ?_
            refine cs_exit' ?_
            refine qx_then ?_
            refine qx_then ?_
            refine qx_same ?_
            refine qn_meetb (sput (sput (sput s0 0 (some (Ck.var 66 x13.1 ((([Value.int .i64 m0_4.1.1] ++ [Value.int .i64 m0_4.1.2]) ++ ([Value.bool m0_4.2.1] ++ ([Value.int .i64 m0_4.2.2.1] ++ ([Value.slice Am0_4_3 m0_4.2.2.2.1.length cm0_4_3] ++ ([Value.map (some x13.2.2.2.1)] ++ [Value.slice Am0_4_5 m0_4.2.2.2.2.2.length cm0_4_5]))))))))) 1 (some (Ck.m1 x13.2.2.2.1 t11.1.2.1 x13.2.2.2.2.1 t11.1.2.2.length x13.2.2.2.2.2))) 2 (some (Ck.sl T24 x13.2.2.2.2.1 x13.2.2.2.2.2 t11.1.2.2))) ⟨_, x11_4, Am0_4_3, cm0_4_3, Am0_4_5, cm0_4_5, (m0_4.1, m0_4.2.1, m0_4.2.2.1, m0_4.2.2.2.1, (), m0_4.2.2.2.2.2), fr_next (fr_next (fr_next (fr_next (fr_next (rfl) (by kernel_rfl)) (by kernel_rfl)) (by kernel_rfl)) (by kernel_rfl)) (by kernel_rfl), rfl, Rm0_4_3, Cm0_4_3, Rm0_4_5, Cm0_4_5, hleh4, H⟩ (sub_put (by exact rfl) (sub_put (by exact rfl) (sub_put (by exact rfl) (sub_nil _))))
      · rintro bh3 f S ⟨fr3, x11_3, Am0_3_3, cm0_3_3, Am0_3_5, cm0_3_5, m0_3, rfl, rfl, Rm0_3_3, Cm0_3_3, Rm0_3_5, Cm0_3_5, hleh3, H⟩
        replace H : ((alloc_Alloc_Take.f k (m0_3.1, m0_3.2.1, m0_3.2.2.1, m0_3.2.2.2.1, (), m0_3.2.2.2.2.2) (t11.1.2.1, t11.1.2.2) (1 : Int) true).bind fun t22 => lt (IntKind.wrap .i64 ((bits .and .i64 a0 (63 : Int)) - y9)) fun y33 => (if x7_2 = y33 then (if x11_3 = y9 then (alloc_Alloc_Used.f k (t22.2.2.1, t22.2.2.2.1, t22.2.2.2.2.1, t22.2.2.2.2.2.1, (), t22.2.2.2.2.2.2.2) (t11.1.2.1, t11.1.2.2)).bind fun t37 => (if t37.1 = (bits .and .i64 a0 (63 : Int)) then some (decide (t22.2.1 = (15 : Int))) else some false) else some false) else some false)) = some r := H
        refine cs_seq ?_
        refine cs_region (l := [_, _, _, _, _, _, _]) ?_
        refine ls_val (v := .pointer (some ⟨x13.1, 0, none⟩)) rfl rfl (by kernel_rfl) (fun w => by kernel_rfl) ?_
        obtain ⟨t22, hc23, H⟩ := bind_some H
        refine ls_callf (fid := 28) (vals := #[.pointer (some ⟨x13.1, 0, none⟩), .int .i64 (1 : Int), .bool true]) (X := (Option Addr × Nat) × (Option Addr × Nat)) (fun x => .tuple #[.int .i64 t22.1, .int .i64 t22.2.1]) (fun x => stl [Ck.var 66 x13.1 ((([Value.int .i64 t22.2.2.1.1] ++ [Value.int .i64 t22.2.2.1.2]) ++ ([Value.bool t22.2.2.2.1] ++ ([Value.int .i64 t22.2.2.2.2.1] ++ ([Value.slice x.1.1 t22.2.2.2.2.2.1.length x.1.2] ++ ([Value.map (some x13.2.2.2.1)] ++ [Value.slice x.2.1 t22.2.2.2.2.2.2.2.length x.2.2])))))), Ck.m1 x13.2.2.2.1 t11.1.2.1 x13.2.2.2.2.1 t11.1.2.2.length x13.2.2.2.2.2, Ck.sl T24 x13.2.2.2.2.1 x13.2.2.2.2.2 t11.1.2.2]) (fun x B => (Ro B x.1.1 (em T24 t22.2.2.2.2.2.1) ∧ t22.2.2.2.2.2.1.length ≤ x.1.2) ∧ (Ro B x.2.1 (em T24 t22.2.2.2.2.2.2.2) ∧ t22.2.2.2.2.2.2.2.length ≤ x.2.2)) [0, 1, 2] [Ck.var 66 x13.1 ((([Value.int .i64 m0_3.1.1] ++ [Value.int .i64 m0_3.1.2]) ++ ([Value.bool m0_3.2.1] ++ ([Value.int .i64 m0_3.2.2.1] ++ ([Value.slice Am0_3_3 m0_3.2.2.2.1.length cm0_3_3] ++ ([Value.map (some x13.2.2.2.1)] ++ [Value.slice Am0_3_5 m0_3.2.2.2.2.2.length cm0_3_5])))))), Ck.m1 x13.2.2.2.1 t11.1.2.1 x13.2.2.2.2.1 t11.1.2.2.length x13.2.2.2.2.2, Ck.sl T24 x13.2.2.2.2.1 x13.2.2.2.2.2 t11.1.2.2] 3 rfl rfl (by kernel_rfl) (fun w => by kernel_rfl) ⟨by exact rfl, by exact rfl, by exact rfl, trivial⟩ (by decide) (fun x b b' h hf => ⟨⟨h _ _ hf.1.1, hf.1.2⟩, ⟨h _ _ hf.2.1, hf.2.2⟩⟩) (fun w hs hb => alloc_Alloc_Take.calls k x13.1 Am0_3_3 cm0_3_3 x13.2.2.2.1 Am0_3_5 cm0_3_5 (m0_3.1, m0_3.2.1, m0_3.2.2.1, m0_3.2.2.2.1, (), m0_3.2.2.2.2.2) x13.2.2.2.2.1 x13.2.2.2.2.2 (t11.1.2.1, t11.1.2.2) (1 : Int) true t22 (lent bh3 w [Ck.var 66 x13.1 ((([Value.int .i64 m0_3.1.1] ++ [Value.int .i64 m0_3.1.2]) ++ ([Value.bool m0_3.2.1] ++ ([Value.int .i64 m0_3.2.2.1] ++ ([Value.slice Am0_3_3 m0_3.2.2.2.1.length cm0_3_3] ++ ([Value.map (some x13.2.2.2.1)] ++ [Value.slice Am0_3_5 m0_3.2.2.2.2.2.length cm0_3_5])))))), Ck.m1 x13.2.2.2.1 t11.1.2.1 x13.2.2.2.2.1 t11.1.2.2.length x13.2.2.2.2.2, Ck.sl T24 x13.2.2.2.2.1 x13.2.2.2.2.2 t11.1.2.2] []) hb (hs.ro Rm0_3_3 _ _) Cm0_3_3 (hs.ro Rm0_3_5 _ _) Cm0_3_5 hc23) ?_
        intro x24 bs29 hle30 hok31 hf32
        obtain ⟨⟨fR25, fC26⟩, ⟨fR27, fC28⟩⟩ := hf32
        refine ls_val (v := .tuple #[.int .i64 t22.1, .int .i64 t22.2.1]) rfl rfl (by kernel_rfl) (fun w => by kernel_rfl) ?_
        refine ls_val (v := .int .i64 t22.1) rfl rfl (by kernel_rfl) (fun w => by kernel_rfl) ?_
        refine ls_val (v := .int .i64 t22.2.1) rfl rfl (by kernel_rfl) (fun w => by kernel_rfl) ?_
        refine ls_val (v := .int .i64 t22.1) rfl rfl (by kernel_rfl) (fun w => by kernel_rfl) ?_
        refine ls_val (v := .int .i64 t22.2.1) rfl rfl (by kernel_rfl) (fun w => by kernel_rfl) ?_
        refine ls_end ?_
        refine qn_then ?_
        refine cs_seq ?_
        refine cs_region (l := [_, _, _, _, _, _, _, _, _, _, _, _, _, _, _, _, _, _, _, _, _]) ?_
        refine ls_val (v := .int .i64 x7_2) rfl rfl (by kernel_rfl) (fun w => by kernel_rfl) ?_
        refine ls_val (v := .int .i64 (bits .and .i64 a0 (63 : Int))) rfl rfl (by kernel_rfl) (fun w => by kernel_rfl) ?_
        refine ls_val (v := .int .i64 y9) rfl rfl (by kernel_rfl) (fun w => by kernel_rfl) ?_
        obtain ⟨y33, hy34, H⟩ := lt_some H
        refine ls_val (v := .int .i64 (IntKind.wrap .i64 ((bits .and .i64 a0 (63 : Int)) - y9))) rfl rfl (by kernel_rfl) (fun w => by kernel_rfl) ?_
        refine ls_ren 79 (v := .int .i64 (IntKind.wrap .i64 ((bits .and .i64 a0 (63 : Int)) - y9))) (v' := .int .i64 y33) (by kernel_rfl) (by rw [hy34]) ?_
        refine ls_val (v := .bool (decide (x7_2 = y33))) rfl rfl (by kernel_rfl) (fun w => by kernel_rfl) ?_
        refine ls_val (v := .bool (decide (x7_2 = y33))) rfl rfl (by kernel_rfl) (fun w => by kernel_rfl) ?_
        by_cases q35 : x7_2 = y33
        · replace H := ite_t q35 H
          refine ls_know (c := true) (dec_t q35) 81 (by kernel_rfl) ?_
          refine ls_on (j := 5) (t := 81) (b := true) rfl rfl (by kernel_rfl) (by kernel_rfl) ?_
          refine ls_val (v := .int .i64 x11_3) rfl rfl (by kernel_rfl) (fun w => by kernel_rfl) ?_
          refine ls_on (j := 5) (t := 81) (b := true) rfl rfl (by kernel_rfl) (by kernel_rfl) ?_
          refine ls_val (v := .int .i64 y9) rfl rfl (by kernel_rfl) (fun w => by kernel_rfl) ?_
          refine ls_on (j := 5) (t := 81) (b := true) rfl rfl (by kernel_rfl) (by kernel_rfl) ?_
          refine ls_val (v := .bool (decide (x11_3 = y9))) rfl rfl (by kernel_rfl) (fun w => by kernel_rfl) ?_
          refine ls_val (v := .bool (decide (x11_3 = y9))) rfl rfl (by kernel_rfl) (fun w => by kernel_rfl) ?_
          refine ls_val (v := .bool (decide (x11_3 = y9))) rfl rfl (by kernel_rfl) (fun w => by kernel_rfl) ?_
          by_cases q36 : x11_3 = y9
          · replace H := ite_t q36 H
            refine ls_know (c := true) (dec_t q36) 86 (by kernel_rfl) ?_
            refine ls_on (j := 10) (t := 86) (b := true) rfl rfl (by kernel_rfl) (by kernel_rfl) ?_
            refine ls_val (v := .pointer (some ⟨x13.1, 0, none⟩)) rfl rfl (by kernel_rfl) (fun w => by kernel_rfl) ?_
            refine ls_on (j := 10) (t := 86) (b := true) rfl rfl (by kernel_rfl) (by kernel_rfl) ?_
            obtain ⟨t37, hc38, H⟩ := bind_some H
            refine ls_callb (fid := 29) (vals := #[.pointer (some ⟨x13.1, 0, none⟩)]) (X := (Option Addr × Nat)) (fun x => .int .i64 t37.1) (fun x => stl [Ck.var 66 x13.1 ((([Value.int .i64 t22.2.2.1.1] ++ [Value.int .i64 t22.2.2.1.2]) ++ ([Value.bool t22.2.2.2.1] ++ ([Value.int .i64 t22.2.2.2.2.1] ++ ([Value.slice x24.1.1 t22.2.2.2.2.2.1.length x24.1.2] ++ ([Value.map (some x13.2.2.2.1)] ++ [Value.slice x24.2.1 t22.2.2.2.2.2.2.2.length x24.2.2])))))), Ck.m1 x13.2.2.2.1 t37.2.1 x.1 t37.2.2.length x.2, Ck.sl T24 x.1 x.2 t37.2.2]) [0, 1, 2] [] [Ck.var 66 x13.1 ((([Value.int .i64 t22.2.2.1.1] ++ [Value.int .i64 t22.2.2.1.2]) ++ ([Value.bool t22.2.2.2.1] ++ ([Value.int .i64 t22.2.2.2.2.1] ++ ([Value.slice x24.1.1 t22.2.2.2.2.2.1.length x24.1.2] ++ ([Value.map (some x13.2.2.2.1)] ++ [Value.slice x24.2.1 t22.2.2.2.2.2.2.2.length x24.2.2])))))), Ck.m1 x13.2.2.2.1 t11.1.2.1 x13.2.2.2.2.1 t11.1.2.2.length x13.2.2.2.2.2, Ck.sl T24 x13.2.2.2.2.1 x13.2.2.2.2.2 t11.1.2.2] [] 3 rfl rfl (by kernel_rfl) (fun w => by kernel_rfl) ⟨by exact rfl, by exact rfl, by exact rfl, trivial⟩ trivial (by decide) (fun w hs hb => alloc_Alloc_Used.calls k x13.1 x24.1.1 x24.1.2 x13.2.2.2.1 x24.2.1 x24.2.2 (t22.2.2.1, t22.2.2.2.1, t22.2.2.2.2.1, t22.2.2.2.2.2.1, (), t22.2.2.2.2.2.2.2) x13.2.2.2.2.1 x13.2.2.2.2.2 (t11.1.2.1, t11.1.2.2) t37 (lent bs29 w [Ck.var 66 x13.1 ((([Value.int .i64 t22.2.2.1.1] ++ [Value.int .i64 t22.2.2.1.2]) ++ ([Value.bool t22.2.2.2.1] ++ ([Value.int .i64 t22.2.2.2.2.1] ++ ([Value.slice x24.1.1 t22.2.2.2.2.2.1.length x24.1.2] ++ ([Value.map (some x13.2.2.2.1)] ++ [Value.slice x24.2.1 t22.2.2.2.2.2.2.2.length x24.2.2])))))), Ck.m1 x13.2.2.2.1 t11.1.2.1 x13.2.2.2.2.1 t11.1.2.2.length x13.2.2.2.2.2, Ck.sl T24 x13.2.2.2.2.1 x13.2.2.2.2.2 t11.1.2.2] []) hb (hs.ro fR25 _ _) fC26 (hs.ro fR27 _ _) fC28 hc38) ?_
            intro x39
            refine ls_on (j := 10) (t := 86) (b := true) rfl rfl (by kernel_rfl) (by kernel_rfl) ?_
            refine ls_val (v := .int .i64 (bits .and .i64 a0 (63 : Int))) rfl rfl (by kernel_rfl) (fun w => by kernel_rfl) ?_
            refine ls_on (j := 10) (t := 86) (b := true) rfl rfl (by kernel_rfl) (by kernel_rfl) ?_
            refine ls_val (v := .bool (decide (t37.1 = (bits .and .i64 a0 (63 : Int))))) rfl rfl (by kernel_rfl) (fun w => by kernel_rfl) ?_
            refine ls_val (v := .bool (decide (t37.1 = (bits .and .i64 a0 (63 : Int))))) rfl rfl (by kernel_rfl) (fun w => by kernel_rfl) ?_
            refine ls_val (v := .bool (decide (t37.1 = (bits .and .i64 a0 (63 : Int))))) rfl rfl (by kernel_rfl) (fun w => by kernel_rfl) ?_
            by_cases q40 : t37.1 = (bits .and .i64 a0 (63 : Int))
            · replace H := ite_t q40 H
              refine ls_know (c := true) (dec_t q40) 92 (by kernel_rfl) ?_
              refine ls_on (j := 16) (t := 92) (b := true) rfl rfl (by kernel_rfl) (by kernel_rfl) ?_
              refine ls_val (v := .int .i64 t22.2.1) rfl rfl (by kernel_rfl) (fun w => by kernel_rfl) ?_
              refine ls_on (j := 16) (t := 92) (b := true) rfl rfl (by kernel_rfl) (by kernel_rfl) ?_
              refine ls_val (v := .bool (decide (t22.2.1 = (15 : Int)))) rfl rfl (by kernel_rfl) (fun w => by kernel_rfl) ?_
              refine ls_val (v := .bool (decide (t22.2.1 = (15 : Int)))) rfl rfl (by kernel_rfl) (fun w => by kernel_rfl) ?_
              refine ls_val (v := .bool (decide (t22.2.1 = (15 : Int)))) rfl rfl (by kernel_rfl) (fun w => by kernel_rfl) ?_
              refine ls_end ?_
              refine qn_then ?_
              refine cs_ret' ?_
              obtain rfl := Option.some.inj H
              refine qr_res (rs := [_]) rfl (fun w' hs => ⟨[.bool (decide (t22.2.1 = (15 : Int)))], (res_tmp (by kernel_rfl) (.nil)), (), rfl, St.later hs0.ok (hleh3.trans hle30) (hs.pick (ts := []) (cs := []) trivial (by decide))⟩)
            · replace H := ite_f q40 H
              refine ls_know (c := false) (dec_f q40) 92 (by kernel_rfl) ?_
              refine ls_off (j := 16) (t := 92) (b := true) (c := false) rfl rfl (by kernel_rfl) (by kernel_rfl) rfl rfl (by kernel_rfl) ?_
              refine ls_off (j := 16) (t := 92) (b := true) (c := false) rfl rfl (by kernel_rfl) (by kernel_rfl) rfl rfl (by kernel_rfl) ?_
              refine ls_val (v := .bool false) rfl rfl (by kernel_rfl) (fun w => by kernel_rfl) ?_
              refine ls_val (v := .bool false) rfl rfl (by kernel_rfl) (fun w => by kernel_rfl) ?_
              refine ls_end ?_
              refine qn_then ?_
              refine cs_ret' ?_
              obtain rfl := Option.some.inj H
              refine qr_res (rs := [_]) rfl (fun w' hs => ⟨[.bool false], (res_tmp (by kernel_rfl) (.nil)), (), rfl, St.later hs0.ok (hleh3.trans hle30) (hs.pick (ts := []) (cs := []) trivial (by decide))⟩)
          · replace H := ite_f q36 H
            refine ls_know (c := false) (dec_f q36) 86 (by kernel_rfl) ?_
            refine ls_off (j := 10) (t := 86) (b := true) (c := false) rfl rfl (by kernel_rfl) (by kernel_rfl) rfl rfl (by kernel_rfl) ?_
            refine ls_off (j := 10) (t := 86) (b := true) (c := false) rfl rfl (by kernel_rfl) (by kernel_rfl) rfl rfl (by kernel_rfl) ?_
            refine ls_off (j := 10) (t := 86) (b := true) (c := false) rfl rfl (by kernel_rfl) (by kernel_rfl) rfl rfl (by kernel_rfl) ?_
            refine ls_off (j := 10) (t := 86) (b := true) (c := false) rfl rfl (by kernel_rfl) (by kernel_rfl) rfl rfl (by kernel_rfl) ?_
            refine ls_val (v := .bool false) rfl rfl (by kernel_rfl) (fun w => by kernel_rfl) ?_
            refine ls_val (v := .bool false) rfl rfl (by kernel_rfl) (fun w => by kernel_rfl) ?_
            refine ls_off (j := 16) (t := 92) (b := true) (c := false) rfl rfl (by kernel_rfl) (by kernel_rfl) rfl rfl (by kernel_rfl) ?_
            refine ls_off (j := 16) (t := 92) (b := true) (c := false) rfl rfl (by kernel_rfl) (by kernel_rfl) rfl rfl (by kernel_rfl) ?_
            refine ls_val (v := .bool false) rfl rfl (by kernel_rfl) (fun w => by kernel_rfl) ?_
            refine ls_val (v := .bool false) rfl rfl (by kernel_rfl) (fun w => by kernel_rfl) ?_
            refine ls_end ?_
            refine qn_then ?_
            refine cs_ret' ?_
            obtain rfl := Option.some.inj H
            refine qr_res (rs := [_]) rfl (fun w' hs => ⟨[.bool false], (res_tmp (by kernel_rfl) (.nil)), (), rfl, St.later hs0.ok (hleh3.trans hle30) (hs.pick (ts := []) (cs := []) trivial (by decide))⟩)
        · replace H := ite_f q35 H
          refine ls_know (c := false) (dec_f q35) 81 (by kernel_rfl) ?_
          refine ls_off (j := 5) (t := 81) (b := true) (c := false) rfl rfl (by kernel_rfl) (by kernel_rfl) rfl rfl (by kernel_rfl) ?_
          refine ls_off (j := 5) (t := 81) (b := true) (c := false) rfl rfl (by kernel_rfl) (by kernel_rfl) rfl rfl (by kernel_rfl) ?_
          refine ls_off (j := 5) (t := 81) (b := true) (c := false) rfl rfl (by kernel_rfl) (by kernel_rfl) rfl rfl (by kernel_rfl) ?_
          refine ls_val (v := .bool false) rfl rfl (by kernel_rfl) (fun w => by kernel_rfl) ?_
          refine ls_val (v := .bool false) rfl rfl (by kernel_rfl) (fun w => by kernel_rfl) ?_
          refine ls_off (j := 10) (t := 86) (b := true) (c := false) rfl rfl (by kernel_rfl) (by kernel_rfl) rfl rfl (by kernel_rfl) ?_
          refine ls_off (j := 10) (t := 86) (b := true) (c := false) rfl rfl (by kernel_rfl) (by kernel_rfl) rfl rfl (by kernel_rfl) ?_
          refine ls_off (j := 10) (t := 86) (b := true) (c := false) rfl rfl (by kernel_rfl) (by kernel_rfl) rfl rfl (by kernel_rfl) ?_
          refine ls_off (j := 10) (t := 86) (b := true) (c := false) rfl rfl (by kernel_rfl) (by kernel_rfl) rfl rfl (by kernel_rfl) ?_
          refine ls_val (v := .bool false) rfl rfl (by kernel_rfl) (fun w => by kernel_rfl) ?_
          refine ls_val (v := .bool false) rfl rfl (by kernel_rfl) (fun w => by kernel_rfl) ?_
          refine ls_off (j := 16) (t := 92) (b := true) (c := false) rfl rfl (by kernel_rfl) (by kernel_rfl) rfl rfl (by kernel_rfl) ?_
          refine ls_off (j := 16) (t := 92) (b := true) (c := false) rfl rfl (by kernel_rfl) (by kernel_rfl) rfl rfl (by kernel_rfl) ?_
          refine ls_val (v := .bool false) rfl rfl (by kernel_rfl) (fun w => by kernel_rfl) ?_
          refine ls_val (v := .bool false) rfl rfl (by kernel_rfl) (fun w => by kernel_rfl) ?_
          refine ls_end ?_
          refine qn_then ?_
          refine cs_ret' ?_
          obtain rfl := Option.some.inj H
          refine qr_res (rs := [_]) rfl (fun w' hs => ⟨[.bool false], (res_tmp (by kernel_rfl) (.nil)), (), rfl, St.later hs0.ok (hleh3.trans hle30) (hs.pick (ts := []) (cs := []) trivial (by decide))⟩)

end Go.Proofs.Ytiikfaefeonfhaa.G
