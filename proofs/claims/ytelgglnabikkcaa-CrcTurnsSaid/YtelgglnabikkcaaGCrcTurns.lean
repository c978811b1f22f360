/- Printed by a program of this session (sx.py): plain functions, and walks that show that the code comes to them; no condition. -/
import Derived.Test.YtelgglnabikkcaaProg
import Derived.Test.YtelgglnabikkcaaSx
import Derived.Test.YtelgglnabikkcaaGa
set_option linter.unusedVariables false
namespace Go.Proofs.Ytelgglnabikkcaa.G
open Go Go.RowKit Go.Proofs.Ytelgglnabikkcaa.Sx

/-! ### shadowbox/shadowboxlaw02.CrcTurns: function 3 -/
def shadowboxlaw02_CrcTurns.l1 (l0 : List Int) (a2 : Int) (y18 : Int) : Nat → (List Int) → Int → Option (Bool)
  | 0, _, _ => none
  | k1 + 1, l8_1, x9_1 => (if x9_1 < (32 : Int) then (if 0 ≤ IntKind.wrap .u64 x9_1 then lt (bits .and .u32 (shrv .u32 a2 (IntKind.wrap .u64 x9_1)) (1 : Int)) fun y26 => (if y26 = (1 : Int) then lt (IntKind.wrap .i64 (Int.tdiv (IntKind.wrap .i64 (y18 + x9_1)) (8 : Int))) fun y29 => lt (IntKind.wrap .i64 (Int.tdiv (IntKind.wrap .i64 (y18 + x9_1)) (8 : Int))) fun y31 => (if 0 ≤ y31 then (if y31 < (l8_1.length : Int) then lt (Int.tmod (IntKind.wrap .i64 (y18 + x9_1)) (8 : Int)) fun y38 => (if 0 ≤ IntKind.wrap .u64 y38 then lt (shlv .u8 (1 : Int) (IntKind.wrap .u64 y38)) fun y41 => lt (bits .xor .u8 ((l8_1).getD (y31).toNat 0) y41) fun y43 => (if 0 ≤ y29 then (if y29 < (l8_1.length : Int) then lt ((l8_1).set (y29).toNat y43) fun y50 => (shadowboxlaw02_CrcTurns.l1 l0 a2 y18 k1) y50 (IntKind.wrap .i64 (x9_1 + (1 : Int))) else none) else none) else none) else none) else none) else (shadowboxlaw02_CrcTurns.l1 l0 a2 y18 k1) l8_1 (IntKind.wrap .i64 (x9_1 + (1 : Int)))) else none) else (crc_Sum.f k1 l8_1).bind fun t52 => (crc_Sum.f k1 l0).bind fun t55 => some (decide (t52 = t55) == decide (a2 = (0 : Int))))
def shadowboxlaw02_CrcTurns.f (k : Nat) (l0 : List Int) (a1 : Int) (a2 : Int) : Option (Bool) :=
  (if (l0.length : Int) < (4 : Int) then (crc_Sum.f k ([(97 : Int)])).bind fun t3 => some (decide (t3 = (3251651376 : Int))) else (if (l0.length : Int) > (4000 : Int) then (crc_Sum.f k ([(97 : Int)])).bind fun t8 => some (decide (t8 = (3251651376 : Int))) else lt (IntKind.wrap .i64 ((8 : Int) * (l0.length : Int))) fun y11 => (if IntKind.wrap .i64 (y11 - (31 : Int)) ≠ 0 then lt (Int.tmod a1 (IntKind.wrap .i64 (y11 - (31 : Int)))) fun y14 => lt (IntKind.wrap .i64 (y14 + (IntKind.wrap .i64 (y11 - (31 : Int))))) fun y16 => lt (Int.tmod y16 (IntKind.wrap .i64 (y11 - (31 : Int)))) fun y18 => (if (([] : List Int).length + l0.length) * 1 ≤ 140737488355328 then shadowboxlaw02_CrcTurns.l1 l0 a2 y18 k (([] : List Int) ++ l0) (0 : Int) else none) else none)))
set_option maxRecDepth 100000 in
set_option maxHeartbeats 4000000 in
theorem shadowboxlaw02_CrcTurns.calls (k : Nat) (A0 : Option Addr) (c0 : Nat) (l0 : List Int) (a1 : Int) (a2 : Int) (r : Bool) (w : World) (R0 : Ro (bw w) A0 (en (Value.int .u8) l0)) (C0 : l0.length ≤ c0) (H : shadowboxlaw02_CrcTurns.f k l0 a1 a2 = some r) :
    Calls Try.prog 3 #[.slice A0 l0.length c0, .int .i64 a1, .int .u32 a2] w fun e w' => ∃ x : Unit, e = .returned (.bool r) ∧ St (bw w) (stl []) w' := by
  unfold shadowboxlaw02_CrcTurns.f at H
  refine enter (n := 74) Try.func3 rfl (by kernel_rfl) (by kernel_rfl) ?_
  refine cs_seq ?_
  refine cs_region (l := [_]) ?_
  refine ls_val (v := .bool false) rfl rfl (by kernel_rfl) (fun w => by kernel_rfl) ?_
  refine ls_end ?_
  refine qn_then ?_
  refine cs_seq ?_
  refine cs_seq ?_
  refine cs_region (l := [_, _, _, _, _, _, _, _]) ?_
  refine ls_val (v := .slice A0 l0.length c0) rfl rfl (by kernel_rfl) (fun w => by kernel_rfl) ?_
  refine ls_val (v := .int .i64 (l0.length : Int)) rfl rfl (by kernel_rfl) (fun w => by kernel_rfl) ?_
  refine ls_val (v := .bool (decide ((l0.length : Int) < (4 : Int)))) rfl rfl (by kernel_rfl) (fun w => by kernel_rfl) ?_
  refine ls_val (v := .bool (decide ((l0.length : Int) < (4 : Int)))) rfl rfl (by kernel_rfl) (fun w => by kernel_rfl) ?_
  by_cases q1 : (l0.length : Int) < (4 : Int)
  · replace H := ite_t q1 H
    refine ls_know (c := true) (dec_t q1) 13 (by kernel_rfl) ?_
    refine ls_off (j := 3) (t := 13) (b := false) (c := true) rfl rfl (by kernel_rfl) (by kernel_rfl) rfl rfl (by kernel_rfl) ?_
    refine ls_off (j := 3) (t := 13) (b := false) (c := true) rfl rfl (by kernel_rfl) (by kernel_rfl) rfl rfl (by kernel_rfl) ?_
    refine ls_off (j := 3) (t := 13) (b := false) (c := true) rfl rfl (by kernel_rfl) (by kernel_rfl) rfl rfl (by kernel_rfl) ?_
    refine ls_val (v := .bool true) rfl rfl (by kernel_rfl) (fun w => by kernel_rfl) ?_
    refine ls_end ?_
    refine qn_then ?_
    refine cs_true (by kernel_rfl) ?_
    refine cs_seq ?_
    refine cs_region (l := [_, _, _, _, _]) ?_
    refine ls_lit (E := (Value.int .u8)) (e := 5) 0 rfl rfl (by kernel_rfl) ([(97 : Int)]) (by exact of_decide_eq_true (by kernel_rfl)) (fun w => by kernel_rfl) ?_
    intro g2
    refine ls_conv (g := g2) (l := ([(97 : Int)])) (E := (Value.int .u8)) 0 rfl rfl (by kernel_rfl) rfl (by kernel_rfl) (by kernel_rfl) (by kernel_rfl) (by exact rfl) ?_
    obtain ⟨t3, hc4, H⟩ := bind_some H
    refine ls_call (fid := 8) (vals := #[.slice (some ⟨g2, 0, none⟩) ([(97 : Int)]).length [(97 : Int)].length]) (X := Unit) (fun x => .int .u32 t3) (fun x => stl []) 1 rfl rfl (by kernel_rfl) (fun w => by kernel_rfl) (fun w hs => crc_Sum.calls k (some ⟨g2, 0, none⟩) [(97 : Int)].length ([(97 : Int)]) t3 w (hs.ros (k := 0) (by exact rfl) no_ks) (Nat.le_refl _) hc4) ?_
    intro x5
    refine ls_val (v := .bool (decide (t3 = (3251651376 : Int)))) rfl rfl (by kernel_rfl) (fun w => by kernel_rfl) ?_
    refine ls_val (v := .bool (decide (t3 = (3251651376 : Int)))) rfl rfl (by kernel_rfl) (fun w => by kernel_rfl) ?_
    refine ls_end ?_
    refine qn_then ?_
    refine cs_ret' ?_
    refine qr_then ?_
    obtain rfl := Option.some.inj H
    refine qr_res (rs := [_]) rfl (fun w' hs => ⟨[.bool (decide (t3 = (3251651376 : Int)))], (res_tmp (by kernel_rfl) (.nil)), (), rfl, hs.pick (ts := []) (cs := []) trivial (by decide)⟩)
  · replace H := ite_f q1 H
    refine ls_know (c := false) (dec_f q1) 13 (by kernel_rfl) ?_
    refine ls_on (j := 3) (t := 13) (b := false) rfl rfl (by kernel_rfl) (by kernel_rfl) ?_
    refine ls_val (v := .slice A0 l0.length c0) rfl rfl (by kernel_rfl) (fun w => by kernel_rfl) ?_
    refine ls_on (j := 3) (t := 13) (b := false) rfl rfl (by kernel_rfl) (by kernel_rfl) ?_
    refine ls_val (v := .int .i64 (l0.length : Int)) rfl rfl (by kernel_rfl) (fun w => by kernel_rfl) ?_
    refine ls_on (j := 3) (t := 13) (b := false) rfl rfl (by kernel_rfl) (by kernel_rfl) ?_
    refine ls_val (v := .bool (decide ((l0.length : Int) > (4000 : Int)))) rfl rfl (by kernel_rfl) (fun w => by kernel_rfl) ?_
    refine ls_val (v := .bool (decide ((l0.length : Int) > (4000 : Int)))) rfl rfl (by kernel_rfl) (fun w => by kernel_rfl) ?_
    refine ls_end ?_
    refine qn_then ?_
    by_cases q6 : (l0.length : Int) > (4000 : Int)
    · replace H := ite_t q6 H
      refine cs_know (c := true) (dec_t q6) 17 (by kernel_rfl) ?_
      refine cs_true (by kernel_rfl) ?_
      refine cs_seq ?_
      refine cs_region (l := [_, _, _, _, _]) ?_
      refine ls_lit (E := (Value.int .u8)) (e := 5) 0 rfl rfl (by kernel_rfl) ([(97 : Int)]) (by exact of_decide_eq_true (by kernel_rfl)) (fun w => by kernel_rfl) ?_
      intro g7
      refine ls_conv (g := g7) (l := ([(97 : Int)])) (E := (Value.int .u8)) 0 rfl rfl (by kernel_rfl) rfl (by kernel_rfl) (by kernel_rfl) (by kernel_rfl) (by exact rfl) ?_
      obtain ⟨t8, hc9, H⟩ := bind_some H
      refine ls_call (fid := 8) (vals := #[.slice (some ⟨g7, 0, none⟩) ([(97 : Int)]).length [(97 : Int)].length]) (X := Unit) (fun x => .int .u32 t8) (fun x => stl []) 1 rfl rfl (by kernel_rfl) (fun w => by kernel_rfl) (fun w hs => crc_Sum.calls k (some ⟨g7, 0, none⟩) [(97 : Int)].length ([(97 : Int)]) t8 w (hs.ros (k := 0) (by exact rfl) no_ks) (Nat.le_refl _) hc9) ?_
      intro x10
      refine ls_val (v := .bool (decide (t8 = (3251651376 : Int)))) rfl rfl (by kernel_rfl) (fun w => by kernel_rfl) ?_
      refine ls_val (v := .bool (decide (t8 = (3251651376 : Int)))) rfl rfl (by kernel_rfl) (fun w => by kernel_rfl) ?_
      refine ls_end ?_
      refine qn_then ?_
      refine cs_ret' ?_
      refine qr_then ?_
      obtain rfl := Option.some.inj H
      refine qr_res (rs := [_]) rfl (fun w' hs => ⟨[.bool (decide (t8 = (3251651376 : Int)))], (res_tmp (by kernel_rfl) (.nil)), (), rfl, hs.pick (ts := []) (cs := []) trivial (by decide)⟩)
    · replace H := ite_f q6 H
      refine cs_know (c := false) (dec_f q6) 17 (by kernel_rfl) ?_
      refine cs_false (by kernel_rfl) ?_
      refine cs_skip' ?_
      refine qn_then ?_
      refine cs_seq ?_
      refine cs_region (l := [_, _, _, _, _]) ?_
      refine ls_val (v := .slice A0 l0.length c0) rfl rfl (by kernel_rfl) (fun w => by kernel_rfl) ?_
      refine ls_val (v := .int .i64 (l0.length : Int)) rfl rfl (by kernel_rfl) (fun w => by kernel_rfl) ?_
      obtain ⟨y11, hy12, H⟩ := lt_some H
      refine ls_val (v := .int .i64 (IntKind.wrap .i64 ((8 : Int) * (l0.length : Int)))) rfl rfl (by kernel_rfl) (fun w => by kernel_rfl) ?_
      refine ls_ren 24 (v := .int .i64 (IntKind.wrap .i64 ((8 : Int) * (l0.length : Int)))) (v' := .int .i64 y11) (by kernel_rfl) (by rw [hy12]) ?_
      refine ls_val (v := .int .i64 (IntKind.wrap .i64 (y11 - (31 : Int)))) rfl rfl (by kernel_rfl) (fun w => by kernel_rfl) ?_
      refine ls_val (v := .int .i64 (IntKind.wrap .i64 (y11 - (31 : Int)))) rfl rfl (by kernel_rfl) (fun w => by kernel_rfl) ?_
      refine ls_end ?_
      refine qn_then ?_
      refine cs_seq ?_
      refine cs_region (l := [_, _, _, _, _, _, _, _]) ?_
      refine ls_val (v := .int .i64 a1) rfl rfl (by kernel_rfl) (fun w => by kernel_rfl) ?_
      refine ls_val (v := .int .i64 (IntKind.wrap .i64 (y11 - (31 : Int)))) rfl rfl (by kernel_rfl) (fun w => by kernel_rfl) ?_
      obtain ⟨q13, H⟩ := ite_need H
      obtain ⟨y14, hy15, H⟩ := lt_some H
      refine ls_rem (k := .i64) (x := a1) (y := (IntKind.wrap .i64 (y11 - (31 : Int)))) rfl rfl (by kernel_rfl) (fun w => by kernel_rfl) q13 ?_
      refine ls_ren 28 (v := .int .i64 (Int.tmod a1 (IntKind.wrap .i64 (y11 - (31 : Int))))) (v' := .int .i64 y14) (by kernel_rfl) (by rw [hy15]) ?_
      refine ls_val (v := .int .i64 (IntKind.wrap .i64 (y11 - (31 : Int)))) rfl rfl (by kernel_rfl) (fun w => by kernel_rfl) ?_
      obtain ⟨y16, hy17, H⟩ := lt_some H
      refine ls_val (v := .int .i64 (IntKind.wrap .i64 (y14 + (IntKind.wrap .i64 (y11 - (31 : Int)))))) rfl rfl (by kernel_rfl) (fun w => by kernel_rfl) ?_
      refine ls_ren 30 (v := .int .i64 (IntKind.wrap .i64 (y14 + (IntKind.wrap .i64 (y11 - (31 : Int)))))) (v' := .int .i64 y16) (by kernel_rfl) (by rw [hy17]) ?_
      refine ls_val (v := .int .i64 (IntKind.wrap .i64 (y11 - (31 : Int)))) rfl rfl (by kernel_rfl) (fun w => by kernel_rfl) ?_
      obtain ⟨y18, hy19, H⟩ := lt_some H
      refine ls_rem (k := .i64) (x := y16) (y := (IntKind.wrap .i64 (y11 - (31 : Int)))) rfl rfl (by kernel_rfl) (fun w => by kernel_rfl) q13 ?_
      refine ls_ren 32 (v := .int .i64 (Int.tmod y16 (IntKind.wrap .i64 (y11 - (31 : Int))))) (v' := .int .i64 y18) (by kernel_rfl) (by rw [hy19]) ?_
      refine ls_val (v := .int .i64 y18) rfl rfl (by kernel_rfl) (fun w => by kernel_rfl) ?_
      refine ls_end ?_
      refine qn_then ?_
      refine cs_seq ?_
      refine cs_region (l := [_, _, _, _]) ?_
      refine ls_lit (E := (Value.int .u8)) (e := 5) 0 rfl rfl (by kernel_rfl) ([] : List Int) (by exact of_decide_eq_true (by kernel_rfl)) (fun w => by kernel_rfl) ?_
      intro g20
      refine ls_val (v := .slice A0 l0.length c0) rfl rfl (by kernel_rfl) (fun w => by kernel_rfl) ?_
      obtain ⟨q21, H⟩ := ite_need H
      refine ls_app (A := (some ⟨g20, 0, none⟩)) (c := ([] : List Int).length) (B := A0) (cb := c0) (e := 5) (z := (Value.int .u8 0)) (E := (Value.int .u8)) (l := ([] : List Int)) (m := l0) (bytes := 1) 0 rfl rfl (by kernel_rfl) rfl (by kernel_rfl) (by exact rfl) (by kernel_rfl) (fun w hs => (hs.old R0)) (by kernel_rfl) (by kernel_rfl) rfl (fun _ => rfl) (by decide) q21 ?_
      intro xA22 xc23
      refine ls_val (v := .slice xA22 (([] : List Int) ++ l0).length xc23) rfl rfl (by kernel_rfl) (fun w => by kernel_rfl) ?_
      refine ls_end ?_
      refine qn_then ?_
      refine cs_seq ?_
      refine cs_seq ?_
      refine cs_region (l := [_]) ?_
      refine ls_val (v := .int .i64 (0 : Int)) rfl rfl (by kernel_rfl) (fun w => by kernel_rfl) ?_
      refine ls_end ?_
      refine qn_then ?_
      refine cs_block ?_
      refine cs_sub (sput s0 0 (some (Ck.sl 5 (Value.int .u8) xA22 xc23 (([] : List Int) ++ l0)))) (sub_put (by exact rfl) (sub_nil _)) ?_
      refine cs_loop (fun kk f S => ∃ (fR : Fr) (A8_1 : Option Addr) (c8_1 : Nat) (l8_1 : List Int) (x9_1 : Int), f = upd (upd (upd (upd (upd fR 0 (.slice A0 l0.length c0)) 1 (.int .i64 y18)) 2 (.int .u32 a2)) 8 (.slice A8_1 l8_1.length c8_1)) 9 (.int .i64 x9_1) ∧ S = sput s0 0 (some (Ck.sl 5 (Value.int .u8) A8_1 c8_1 l8_1)) ∧ shadowboxlaw02_CrcTurns.l1 l0 a2 y18 kk l8_1 x9_1 = some r) k ?_ ?_ ?_
      · exact ⟨_, xA22, xc23, (([] : List Int) ++ l0), (0 : Int), fr_next (fr_next (fr_next (fr_next (fr_next (rfl) (by kernel_rfl)) (by kernel_rfl)) (by kernel_rfl)) (by kernel_rfl)) (by kernel_rfl), rfl, H⟩
      · rintro f S ⟨fr1, A8_1, c8_1, l8_1, x9_1, rfl, rfl, H⟩; cases H
      · rintro k1 f S ⟨fr1, A8_1, c8_1, l8_1, x9_1, rfl, rfl, H⟩
        replace H : (if x9_1 < (32 : Int) then (if 0 ≤ IntKind.wrap .u64 x9_1 then lt (bits .and .u32 (shrv .u32 a2 (IntKind.wrap .u64 x9_1)) (1 : Int)) fun y26 => (if y26 = (1 : Int) then lt (IntKind.wrap .i64 (Int.tdiv (IntKind.wrap .i64 (y18 + x9_1)) (8 : Int))) fun y29 => lt (IntKind.wrap .i64 (Int.tdiv (IntKind.wrap .i64 (y18 + x9_1)) (8 : Int))) fun y31 => (if 0 ≤ y31 then (if y31 < (l8_1.length : Int) then lt (Int.tmod (IntKind.wrap .i64 (y18 + x9_1)) (8 : Int)) fun y38 => (if 0 ≤ IntKind.wrap .u64 y38 then lt (shlv .u8 (1 : Int) (IntKind.wrap .u64 y38)) fun y41 => lt (bits .xor .u8 ((l8_1).getD (y31).toNat 0) y41) fun y43 => (if 0 ≤ y29 then (if y29 < (l8_1.length : Int) then lt ((l8_1).set (y29).toNat y43) fun y50 => (shadowboxlaw02_CrcTurns.l1 l0 a2 y18 k1) y50 (IntKind.wrap .i64 (x9_1 + (1 : Int))) else none) else none) else none) else none) else none) else (shadowboxlaw02_CrcTurns.l1 l0 a2 y18 k1) l8_1 (IntKind.wrap .i64 (x9_1 + (1 : Int)))) else none) else (crc_Sum.f k1 l8_1).bind fun t52 => (crc_Sum.f k1 l0).bind fun t55 => some (decide (t52 = t55) == decide (a2 = (0 : Int)))) = some r := H
        refine cs_seq ?_
        refine cs_seq ?_
        refine cs_region (l := [_, _]) ?_
        refine ls_val (v := .int .i64 x9_1) rfl rfl (by kernel_rfl) (fun w => by kernel_rfl) ?_
        refine ls_val (v := .bool (decide (x9_1 < (32 : Int)))) rfl rfl (by kernel_rfl) (fun w => by kernel_rfl) ?_
        refine ls_end ?_
        refine qn_then ?_
        by_cases q24 : x9_1 < (32 : Int)
        · replace H := ite_t q24 H
          refine cs_know (c := true) (dec_t q24) 37 (by kernel_rfl) ?_
          refine cs_true (by kernel_rfl) ?_
          refine cs_skip' ?_
          refine qn_then ?_
          refine cs_seq ?_
          refine cs_block ?_
          refine cs_seq ?_
          refine cs_region (l := [_, _, _, _, _, _]) ?_
          refine ls_val (v := .int .u32 a2) rfl rfl (by kernel_rfl) (fun w => by kernel_rfl) ?_
          refine ls_val (v := .int .i64 x9_1) rfl rfl (by kernel_rfl) (fun w => by kernel_rfl) ?_
          refine ls_val (v := .int .u64 (IntKind.wrap .u64 x9_1)) rfl rfl (by kernel_rfl) (fun w => by kernel_rfl) ?_
          obtain ⟨q25, H⟩ := ite_need H
          refine ls_shiftr (k := .u32) (yk := .u64) (x := a2) (y := (IntKind.wrap .u64 x9_1)) rfl rfl (by kernel_rfl) (fun w => by kernel_rfl) q25 ?_
          obtain ⟨y26, hy27, H⟩ := lt_some H
          refine ls_val (v := .int .u32 (bits .and .u32 (shrv .u32 a2 (IntKind.wrap .u64 x9_1)) (1 : Int))) rfl rfl (by kernel_rfl) (fun w => by kernel_rfl) ?_
          refine ls_ren 44 (v := .int .u32 (bits .and .u32 (shrv .u32 a2 (IntKind.wrap .u64 x9_1)) (1 : Int))) (v' := .int .u32 y26) (by kernel_rfl) (by rw [hy27]) ?_
          refine ls_val (v := .bool (decide (y26 = (1 : Int)))) rfl rfl (by kernel_rfl) (fun w => by kernel_rfl) ?_
          refine ls_end ?_
          refine qn_then ?_
          by_cases q28 : y26 = (1 : Int)
          · replace H := ite_t q28 H
            refine cs_know (c := true) (dec_t q28) 45 (by kernel_rfl) ?_
            refine cs_true (by kernel_rfl) ?_
            refine cs_region (l := [_, _, _, _, _, _, _, _, _, _, _, _, _, _, _, _, _, _, _, _, _]) ?_
            refine ls_val (v := .slice A8_1 l8_1.length c8_1) rfl rfl (by kernel_rfl) (fun w => by kernel_rfl) ?_
            refine ls_val (v := .int .i64 y18) rfl rfl (by kernel_rfl) (fun w => by kernel_rfl) ?_
            refine ls_val (v := .int .i64 x9_1) rfl rfl (by kernel_rfl) (fun w => by kernel_rfl) ?_
            refine ls_val (v := .int .i64 (IntKind.wrap .i64 (y18 + x9_1))) rfl rfl (by kernel_rfl) (fun w => by kernel_rfl) ?_
            obtain ⟨y29, hy30, H⟩ := lt_some H
            refine ls_val (v := .int .i64 (IntKind.wrap .i64 (Int.tdiv (IntKind.wrap .i64 (y18 + x9_1)) (8 : Int)))) rfl rfl (by kernel_rfl) (fun w => by kernel_rfl) ?_
            refine ls_ren 50 (v := .int .i64 (IntKind.wrap .i64 (Int.tdiv (IntKind.wrap .i64 (y18 + x9_1)) (8 : Int)))) (v' := .int .i64 y29) (by kernel_rfl) (by rw [hy30]) ?_
            refine ls_val (v := .slice A8_1 l8_1.length c8_1) rfl rfl (by kernel_rfl) (fun w => by kernel_rfl) ?_
            refine ls_val (v := .int .i64 y18) rfl rfl (by kernel_rfl) (fun w => by kernel_rfl) ?_
            refine ls_val (v := .int .i64 x9_1) rfl rfl (by kernel_rfl) (fun w => by kernel_rfl) ?_
            refine ls_val (v := .int .i64 (IntKind.wrap .i64 (y18 + x9_1))) rfl rfl (by kernel_rfl) (fun w => by kernel_rfl) ?_
            obtain ⟨y31, hy32, H⟩ := lt_some H
            refine ls_val (v := .int .i64 (IntKind.wrap .i64 (Int.tdiv (IntKind.wrap .i64 (y18 + x9_1)) (8 : Int)))) rfl rfl (by kernel_rfl) (fun w => by kernel_rfl) ?_
            refine ls_ren 55 (v := .int .i64 (IntKind.wrap .i64 (Int.tdiv (IntKind.wrap .i64 (y18 + x9_1)) (8 : Int)))) (v' := .int .i64 y31) (by kernel_rfl) (by rw [hy32]) ?_
            obtain ⟨q33, H⟩ := ite_need H
            obtain ⟨q34, H⟩ := ite_need H
            refine ls_at (tk := 0) (i := y31) (by exact rfl) q33 q34 0 ?_
            intro ad35 hA36
            refine ls_idxv (A := A8_1) (c := c8_1) (l := l8_1) (k := .i64) (i := y31) (e := 5) (ad := ad35) rfl rfl (by kernel_rfl) hA36 rfl (by kernel_rfl) (by kernel_rfl) (by kernel_rfl) (by kernel_rfl) q33 q34 ?_
            refine ls_load (a0 := (ad35.add (y31).toNat)) (v := .int .u8 ((l8_1).getD (y31).toNat 0)) (de := (TypeDesc.int .u8)) rfl rfl (by kernel_rfl) rfl (by kernel_rfl) (by kernel_rfl) (by kernel_rfl) (fun w hs => rd_at hA36 q33 q34 0 (hs.rd (k := 0) (by exact rfl))) ?_
            refine ls_val (v := .int .i64 y18) rfl rfl (by kernel_rfl) (fun w => by kernel_rfl) ?_
            refine ls_val (v := .int .i64 x9_1) rfl rfl (by kernel_rfl) (fun w => by kernel_rfl) ?_
            refine ls_val (v := .int .i64 (IntKind.wrap .i64 (y18 + x9_1))) rfl rfl (by kernel_rfl) (fun w => by kernel_rfl) ?_
            obtain ⟨y38, hy39, H⟩ := lt_some H
            refine ls_val (v := .int .i64 (Int.tmod (IntKind.wrap .i64 (y18 + x9_1)) (8 : Int))) rfl rfl (by kernel_rfl) (fun w => by kernel_rfl) ?_
            refine ls_ren 61 (v := .int .i64 (Int.tmod (IntKind.wrap .i64 (y18 + x9_1)) (8 : Int))) (v' := .int .i64 y38) (by kernel_rfl) (by rw [hy39]) ?_
            refine ls_val (v := .int .u64 (IntKind.wrap .u64 y38)) rfl rfl (by kernel_rfl) (fun w => by kernel_rfl) ?_
            obtain ⟨q40, H⟩ := ite_need H
            obtain ⟨y41, hy42, H⟩ := lt_some H
            refine ls_shiftl (k := .u8) (yk := .u64) (x := (1 : Int)) (y := (IntKind.wrap .u64 y38)) rfl rfl (by kernel_rfl) (fun w => by kernel_rfl) q40 ?_
            refine ls_ren 63 (v := .int .u8 (shlv .u8 (1 : Int) (IntKind.wrap .u64 y38))) (v' := .int .u8 y41) (by kernel_rfl) (by rw [hy42]) ?_
            obtain ⟨y43, hy44, H⟩ := lt_some H
            refine ls_val (v := .int .u8 (bits .xor .u8 ((l8_1).getD (y31).toNat 0) y41)) rfl rfl (by kernel_rfl) (fun w => by kernel_rfl) ?_
            refine ls_ren 64 (v := .int .u8 (bits .xor .u8 ((l8_1).getD (y31).toNat 0) y41)) (v' := .int .u8 y43) (by kernel_rfl) (by rw [hy44]) ?_
            obtain ⟨q45, H⟩ := ite_need H
            obtain ⟨q46, H⟩ := ite_need H
            refine ls_at (tk := 0) (i := y29) (by exact rfl) q45 q46 0 ?_
            intro ad47 hA48
            refine ls_idxv (A := A8_1) (c := c8_1) (l := l8_1) (k := .i64) (i := y29) (e := 5) (ad := ad47) rfl rfl (by kernel_rfl) hA48 rfl (by kernel_rfl) (by kernel_rfl) (by kernel_rfl) (by kernel_rfl) q45 q46 ?_
            obtain ⟨y50, hy51, H⟩ := lt_some H
            refine ls_storee (A := A8_1) (c := c8_1) (l := l8_1) (u := y43) (E := (Value.int .u8)) (ad := ad47) (i := y29) (e := 5) 0 rfl rfl rfl hA48 (by kernel_rfl) (by kernel_rfl) (by exact rfl) (by kernel_rfl) rfl rfl q45 q46 ?_
            rw [hy51]
            refine ls_ren 8 (v := .slice A8_1 l8_1.length c8_1) (v' := .slice A8_1 y50.length c8_1) (by kernel_rfl) (by rw [← hy51, List.length_set]) ?_
            refine ls_ren 46 (v := .slice A8_1 l8_1.length c8_1) (v' := .slice A8_1 y50.length c8_1) (by kernel_rfl) (by rw [← hy51, List.length_set]) ?_
            refine ls_ren 51 (v := .slice A8_1 l8_1.length c8_1) (v' := .slice A8_1 y50.length c8_1) (by kernel_rfl) (by rw [← hy51, List.length_set]) ?_
            refine ls_end ?_
            refine qn_block ?_
            refine qn_then ?_
            refine cs_region (l := [_, _, _]) ?_
            refine ls_val (v := .int .i64 x9_1) rfl rfl (by kernel_rfl) (fun w => by kernel_rfl) ?_
            refine ls_val (v := .int .i64 (IntKind.wrap .i64 (x9_1 + (1 : Int)))) rfl rfl (by kernel_rfl) (fun w => by kernel_rfl) ?_
            refine ls_val (v := .int .i64 (IntKind.wrap .i64 (x9_1 + (1 : Int)))) rfl rfl (by kernel_rfl) (fun w => by kernel_rfl) ?_
            refine ls_end ?_
            refine qn_again k1 (sput s0 0 (some (Ck.sl 5 (Value.int .u8) A8_1 c8_1 y50))) (Nat.le_refl _) ⟨_, A8_1, c8_1, y50, (IntKind.wrap .i64 (x9_1 + (1 : Int))), fr_next (fr_next (fr_next (fr_next (fr_next (rfl) (by kernel_rfl)) (by kernel_rfl)) (by kernel_rfl)) (by kernel_rfl)) (by kernel_rfl), rfl, H⟩ (sub_put (by exact rfl) (sub_nil _))
          · replace H := ite_f q28 H
            refine cs_know (c := false) (dec_f q28) 45 (by kernel_rfl) ?_
            refine cs_false (by kernel_rfl) ?_
            refine cs_skip' ?_
            refine qn_block ?_
            refine qn_then ?_
            refine cs_region (l := [_, _, _]) ?_
            refine ls_val (v := .int .i64 x9_1) rfl rfl (by kernel_rfl) (fun w => by kernel_rfl) ?_
            refine ls_val (v := .int .i64 (IntKind.wrap .i64 (x9_1 + (1 : Int)))) rfl rfl (by kernel_rfl) (fun w => by kernel_rfl) ?_
            refine ls_val (v := .int .i64 (IntKind.wrap .i64 (x9_1 + (1 : Int)))) rfl rfl (by kernel_rfl) (fun w => by kernel_rfl) ?_
            refine ls_end ?_
            refine qn_again k1 (sput s0 0 (some (Ck.sl 5 (Value.int .u8) A8_1 c8_1 l8_1))) (Nat.le_refl _) ⟨_, A8_1, c8_1, l8_1, (IntKind.wrap .i64 (x9_1 + (1 : Int))), fr_next (fr_next (fr_next (fr_next (fr_next (rfl) (by kernel_rfl)) (by kernel_rfl)) (by kernel_rfl)) (by kernel_rfl)) (by kernel_rfl), rfl, H⟩ (sub_put (by exact rfl) (sub_nil _))
        · replace H := ite_f q24 H
          refine cs_know (c := false) (dec_f q24) 37 (by kernel_rfl) ?_
          refine cs_false (by kernel_rfl) ?_
          refine cs_exit' ?_
          refine qx_then ?_
          refine qx_then ?_
          refine qx_same ?_
          refine qn_then ?_
          refine cs_seq ?_
          refine cs_region (l := [_, _, _, _, _, _, _, _, _]) ?_
          refine ls_val (v := .slice A8_1 l8_1.length c8_1) rfl rfl (by kernel_rfl) (fun w => by kernel_rfl) ?_
          obtain ⟨t52, hc53, H⟩ := bind_some H
          refine ls_call (fid := 8) (vals := #[.slice A8_1 l8_1.length c8_1]) (X := Unit) (fun x => .int .u32 t52) (fun x => stl []) 1 rfl rfl (by kernel_rfl) (fun w => by kernel_rfl) (fun w hs => crc_Sum.calls k1 A8_1 c8_1 l8_1 t52 w (hs.ror (k := 0) (by exact rfl) no_ks) (hs.cap (k := 0) (by exact rfl)) hc53) ?_
          intro x54
          refine ls_val (v := .slice A0 l0.length c0) rfl rfl (by kernel_rfl) (fun w => by kernel_rfl) ?_
          obtain ⟨t55, hc56, H⟩ := bind_some H
          refine ls_call (fid := 8) (vals := #[.slice A0 l0.length c0]) (X := Unit) (fun x => .int .u32 t55) (fun x => stl []) 1 rfl rfl (by kernel_rfl) (fun w => by kernel_rfl) (fun w hs => crc_Sum.calls k1 A0 c0 l0 t55 w (hs.ro R0 no_ks) C0 hc56) ?_
          intro x57
          refine ls_val (v := .bool (decide (t52 = t55))) rfl rfl (by kernel_rfl) (fun w => by kernel_rfl) ?_
          refine ls_val (v := .int .u32 a2) rfl rfl (by kernel_rfl) (fun w => by kernel_rfl) ?_
          refine ls_val (v := .bool (decide (a2 = (0 : Int)))) rfl rfl (by kernel_rfl) (fun w => by kernel_rfl) ?_
          refine ls_val (v := .bool (decide (t52 = t55) == decide (a2 = (0 : Int)))) rfl rfl (by kernel_rfl) (fun w => by kernel_rfl) ?_
          refine ls_val (v := .bool (decide (t52 = t55) == decide (a2 = (0 : Int)))) rfl rfl (by kernel_rfl) (fun w => by kernel_rfl) ?_
          refine ls_end ?_
          refine qn_then ?_
          refine cs_ret' ?_
          obtain rfl := Option.some.inj H
          refine qr_res (rs := [_]) rfl (fun w' hs => ⟨[.bool (decide (t52 = t55) == decide (a2 = (0 : Int)))], (res_tmp (by kernel_rfl) (.nil)), (), rfl, hs.pick (ts := []) (cs := []) trivial (by decide)⟩)

end Go.Proofs.Ytelgglnabikkcaa.G
