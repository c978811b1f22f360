/- Printed by a program of this session (sx.py): plain functions, and walks that show that the code comes to them; no condition. -/
import Derived.Test.YtelgglnabikkcaaProg
import Derived.Test.YtelgglnabikkcaaSx
import Derived.Test.YtelgglnabikkcaaGa
set_option linter.unusedVariables false
namespace Go.Proofs.Ytelgglnabikkcaa.G
open Go Go.RowKit Go.Proofs.Ytelgglnabikkcaa.Sx

/-! ### shadowbox/shadowboxlaw02.CrcParts: function 4 -/
def shadowboxlaw02_CrcParts.f (k : Nat) (l0 : List Int) (l1 : List Int) : Option (Bool) :=
  lt (IntKind.wrap .i64 ((l0.length : Int) + (l1.length : Int))) fun y1 => (if y1 > (4000 : Int) then some true else (if (([] : List Int).length + l0.length) * 1 ≤ 140737488355328 then (if ((([] : List Int) ++ l0).length + l1.length) * 1 ≤ 140737488355328 then (crc_Sum.f k ((([] : List Int) ++ l0) ++ l1)).bind fun t11 => (crc_Sum.f k l0).bind fun t14 => (crc_Go.f k t14 l1).bind fun t17 => (if t17 = t11 then (crc_Sum.f k l0).bind fun t21 => (crc_Sum.f k l1).bind fun t24 => (crc_Join.f k t21 t24 (l1.length : Int)).bind fun t27 => (if t27 = t11 then (crc_Sum.f k ([(97 : Int)])).bind fun t32 => some (decide (t32 = (3251651376 : Int))) else some false) else some false) else none) else none))
set_option maxRecDepth 100000 in
set_option maxHeartbeats 4000000 in
theorem shadowboxlaw02_CrcParts.calls (k : Nat) (A0 : Option Addr) (c0 : Nat) (l0 : List Int) (A1 : Option Addr) (c1 : Nat) (l1 : List Int) (r : Bool) (w : World) (R0 : Ro (bw w) A0 (en (Value.int .u8) l0)) (C0 : l0.length ≤ c0) (R1 : Ro (bw w) A1 (en (Value.int .u8) l1)) (C1 : l1.length ≤ c1) (H : shadowboxlaw02_CrcParts.f k l0 l1 = some r) :
    Calls Try.prog 4 #[.slice A0 l0.length c0, .slice A1 l1.length c1] w fun e w' => ∃ x : Unit, e = .returned (.bool r) ∧ St (bw w) (stl []) w' := by
  unfold shadowboxlaw02_CrcParts.f at H
  refine enter (n := 41) Try.func4 rfl (by kernel_rfl) (by kernel_rfl) ?_
  refine cs_seq ?_
  refine cs_region (l := [_]) ?_
  refine ls_val (v := .bool false) rfl rfl (by kernel_rfl) (fun w => by kernel_rfl) ?_
  refine ls_end ?_
  refine qn_then ?_
  refine cs_seq ?_
  refine cs_seq ?_
  refine cs_region (l := [_, _, _, _, _, _]) ?_
  refine ls_val (v := .slice A0 l0.length c0) rfl rfl (by kernel_rfl) (fun w => by kernel_rfl) ?_
  refine ls_val (v := .int .i64 (l0.length : Int)) rfl rfl (by kernel_rfl) (fun w => by kernel_rfl) ?_
  refine ls_val (v := .slice A1 l1.length c1) rfl rfl (by kernel_rfl) (fun w => by kernel_rfl) ?_
  refine ls_val (v := .int .i64 (l1.length : Int)) rfl rfl (by kernel_rfl) (fun w => by kernel_rfl) ?_
  obtain ⟨y1, hy2, H⟩ := lt_some H
  refine ls_val (v := .int .i64 (IntKind.wrap .i64 ((l0.length : Int) + (l1.length : Int)))) rfl rfl (by kernel_rfl) (fun w => by kernel_rfl) ?_
  refine ls_ren 10 (v := .int .i64 (IntKind.wrap .i64 ((l0.length : Int) + (l1.length : Int)))) (v' := .int .i64 y1) (by kernel_rfl) (by rw [hy2]) ?_
  refine ls_val (v := .bool (decide (y1 > (4000 : Int)))) rfl rfl (by kernel_rfl) (fun w => by kernel_rfl) ?_
  refine ls_end ?_
  refine qn_then ?_
  by_cases q3 : y1 > (4000 : Int)
  · replace H := ite_t q3 H
    refine cs_know (c := true) (dec_t q3) 11 (by kernel_rfl) ?_
    refine cs_true (by kernel_rfl) ?_
    refine cs_seq ?_
    refine cs_region (l := [_]) ?_
    refine ls_val (v := .bool true) rfl rfl (by kernel_rfl) (fun w => by kernel_rfl) ?_
    refine ls_end ?_
    refine qn_then ?_
    refine cs_ret' ?_
    refine qr_then ?_
    obtain rfl := Option.some.inj H
    refine qr_res (rs := [_]) rfl (fun w' hs => ⟨[.bool true], (res_tmp (by kernel_rfl) (.nil)), (), rfl, hs.pick (ts := []) (cs := []) trivial (by decide)⟩)
  · replace H := ite_f q3 H
    refine cs_know (c := false) (dec_f q3) 11 (by kernel_rfl) ?_
    refine cs_false (by kernel_rfl) ?_
    refine cs_skip' ?_
    refine qn_then ?_
    refine cs_seq ?_
    refine cs_region (l := [_, _, _, _, _, _, _]) ?_
    refine ls_lit (E := (Value.int .u8)) (e := 5) 0 rfl rfl (by kernel_rfl) ([] : List Int) (by exact of_decide_eq_true (by kernel_rfl)) (fun w => by kernel_rfl) ?_
    intro g4
    refine ls_val (v := .slice A0 l0.length c0) rfl rfl (by kernel_rfl) (fun w => by kernel_rfl) ?_
    obtain ⟨q5, H⟩ := ite_need H
    refine ls_app (A := (some ⟨g4, 0, none⟩)) (c := ([] : List Int).length) (B := A0) (cb := c0) (e := 5) (z := (Value.int .u8 0)) (E := (Value.int .u8)) (l := ([] : List Int)) (m := l0) (bytes := 1) 0 rfl rfl (by kernel_rfl) rfl (by kernel_rfl) (by exact rfl) (by kernel_rfl) (fun w hs => (hs.old R0)) (by kernel_rfl) (by kernel_rfl) rfl (fun _ => rfl) (by decide) q5 ?_
    intro xA6 xc7
    refine ls_val (v := .slice A1 l1.length c1) rfl rfl (by kernel_rfl) (fun w => by kernel_rfl) ?_
    obtain ⟨q8, H⟩ := ite_need H
    refine ls_app (A := xA6) (c := xc7) (B := A1) (cb := c1) (e := 5) (z := (Value.int .u8 0)) (E := (Value.int .u8)) (l := (([] : List Int) ++ l0)) (m := l1) (bytes := 1) 0 rfl rfl (by kernel_rfl) rfl (by kernel_rfl) (by exact rfl) (by kernel_rfl) (fun w hs => (hs.old R1)) (by kernel_rfl) (by kernel_rfl) rfl (fun _ => rfl) (by decide) q8 ?_
    intro xA9 xc10
    obtain ⟨t11, hc12, H⟩ := bind_some H
    refine ls_call (fid := 8) (vals := #[.slice xA9 ((([] : List Int) ++ l0) ++ l1).length xc10]) (X := Unit) (fun x => .int .u32 t11) (fun x => stl []) 1 rfl rfl (by kernel_rfl) (fun w => by kernel_rfl) (fun w hs => crc_Sum.calls k xA9 xc10 ((([] : List Int) ++ l0) ++ l1) t11 w (hs.ror (k := 0) (by exact rfl) no_ks) (hs.cap (k := 0) (by exact rfl)) hc12) ?_
    intro x13
    refine ls_val (v := .int .u32 t11) rfl rfl (by kernel_rfl) (fun w => by kernel_rfl) ?_
    refine ls_end ?_
    refine qn_then ?_
    refine cs_seq ?_
    refine cs_region (l := [_, _, _, _, _, _, _, _, _, _, _, _, _, _, _, _, _, _, _, _, _, _, _, _]) ?_
    refine ls_val (v := .slice A0 l0.length c0) rfl rfl (by kernel_rfl) (fun w => by kernel_rfl) ?_
    obtain ⟨t14, hc15, H⟩ := bind_some H
    refine ls_call (fid := 8) (vals := #[.slice A0 l0.length c0]) (X := Unit) (fun x => .int .u32 t14) (fun x => stl []) 1 rfl rfl (by kernel_rfl) (fun w => by kernel_rfl) (fun w hs => crc_Sum.calls k A0 c0 l0 t14 w (hs.ro R0 no_ks) C0 hc15) ?_
    intro x16
    refine ls_val (v := .slice A1 l1.length c1) rfl rfl (by kernel_rfl) (fun w => by kernel_rfl) ?_
    obtain ⟨t17, hc18, H⟩ := bind_some H
    refine ls_call (fid := 9) (vals := #[.int .u32 t14, .slice A1 l1.length c1]) (X := Unit) (fun x => .int .u32 t17) (fun x => stl []) 1 rfl rfl (by kernel_rfl) (fun w => by kernel_rfl) (fun w hs => crc_Go.calls k t14 A1 c1 l1 t17 w (hs.ro R1 no_ks) C1 hc18) ?_
    intro x19
    refine ls_val (v := .int .u32 t11) rfl rfl (by kernel_rfl) (fun w => by kernel_rfl) ?_
    refine ls_val (v := .bool (decide (t17 = t11))) rfl rfl (by kernel_rfl) (fun w => by kernel_rfl) ?_
    refine ls_val (v := .bool (decide (t17 = t11))) rfl rfl (by kernel_rfl) (fun w => by kernel_rfl) ?_
    by_cases q20 : t17 = t11
    · replace H := ite_t q20 H
      refine ls_know (c := true) (dec_t q20) 24 (by kernel_rfl) ?_
      refine ls_on (j := 6) (t := 24) (b := true) rfl rfl (by kernel_rfl) (by kernel_rfl) ?_
      refine ls_val (v := .slice A0 l0.length c0) rfl rfl (by kernel_rfl) (fun w => by kernel_rfl) ?_
      refine ls_on (j := 6) (t := 24) (b := true) rfl rfl (by kernel_rfl) (by kernel_rfl) ?_
      obtain ⟨t21, hc22, H⟩ := bind_some H
      refine ls_call (fid := 8) (vals := #[.slice A0 l0.length c0]) (X := Unit) (fun x => .int .u32 t21) (fun x => stl []) 1 rfl rfl (by kernel_rfl) (fun w => by kernel_rfl) (fun w hs => crc_Sum.calls k A0 c0 l0 t21 w (hs.ro R0 no_ks) C0 hc22) ?_
      intro x23
      refine ls_on (j := 6) (t := 24) (b := true) rfl rfl (by kernel_rfl) (by kernel_rfl) ?_
      refine ls_val (v := .slice A1 l1.length c1) rfl rfl (by kernel_rfl) (fun w => by kernel_rfl) ?_
      refine ls_on (j := 6) (t := 24) (b := true) rfl rfl (by kernel_rfl) (by kernel_rfl) ?_
      obtain ⟨t24, hc25, H⟩ := bind_some H
      refine ls_call (fid := 8) (vals := #[.slice A1 l1.length c1]) (X := Unit) (fun x => .int .u32 t24) (fun x => stl []) 1 rfl rfl (by kernel_rfl) (fun w => by kernel_rfl) (fun w hs => crc_Sum.calls k A1 c1 l1 t24 w (hs.ro R1 no_ks) C1 hc25) ?_
      intro x26
      refine ls_on (j := 6) (t := 24) (b := true) rfl rfl (by kernel_rfl) (by kernel_rfl) ?_
      refine ls_val (v := .slice A1 l1.length c1) rfl rfl (by kernel_rfl) (fun w => by kernel_rfl) ?_
      refine ls_on (j := 6) (t := 24) (b := true) rfl rfl (by kernel_rfl) (by kernel_rfl) ?_
      refine ls_val (v := .int .i64 (l1.length : Int)) rfl rfl (by kernel_rfl) (fun w => by kernel_rfl) ?_
      refine ls_on (j := 6) (t := 24) (b := true) rfl rfl (by kernel_rfl) (by kernel_rfl) ?_
      obtain ⟨t27, hc28, H⟩ := bind_some H
      refine ls_call (fid := 10) (vals := #[.int .u32 t21, .int .u32 t24, .int .i64 (l1.length : Int)]) (X := Unit) (fun x => .int .u32 t27) (fun x => stl []) 1 rfl rfl (by kernel_rfl) (fun w => by kernel_rfl) (fun w hs => crc_Join.calls k t21 t24 (l1.length : Int) t27 w  hc28) ?_
      intro x29
      refine ls_on (j := 6) (t := 24) (b := true) rfl rfl (by kernel_rfl) (by kernel_rfl) ?_
      refine ls_val (v := .int .u32 t11) rfl rfl (by kernel_rfl) (fun w => by kernel_rfl) ?_
      refine ls_on (j := 6) (t := 24) (b := true) rfl rfl (by kernel_rfl) (by kernel_rfl) ?_
      refine ls_val (v := .bool (decide (t27 = t11))) rfl rfl (by kernel_rfl) (fun w => by kernel_rfl) ?_
      refine ls_val (v := .bool (decide (t27 = t11))) rfl rfl (by kernel_rfl) (fun w => by kernel_rfl) ?_
      refine ls_val (v := .bool (decide (t27 = t11))) rfl rfl (by kernel_rfl) (fun w => by kernel_rfl) ?_
      by_cases q30 : t27 = t11
      · replace H := ite_t q30 H
        refine ls_know (c := true) (dec_t q30) 35 (by kernel_rfl) ?_
        refine ls_on (j := 17) (t := 35) (b := true) rfl rfl (by kernel_rfl) (by kernel_rfl) ?_
        refine ls_lit (E := (Value.int .u8)) (e := 5) 1 rfl rfl (by kernel_rfl) ([(97 : Int)]) (by exact of_decide_eq_true (by kernel_rfl)) (fun w => by kernel_rfl) ?_
        intro g31
        refine ls_on (j := 17) (t := 35) (b := true) rfl rfl (by kernel_rfl) (by kernel_rfl) ?_
        refine ls_conv (g := g31) (l := ([(97 : Int)])) (E := (Value.int .u8)) 1 rfl rfl (by kernel_rfl) rfl (by kernel_rfl) (by kernel_rfl) (by kernel_rfl) (by exact rfl) ?_
        refine ls_on (j := 17) (t := 35) (b := true) rfl rfl (by kernel_rfl) (by kernel_rfl) ?_
        obtain ⟨t32, hc33, H⟩ := bind_some H
        refine ls_call (fid := 8) (vals := #[.slice (some ⟨g31, 0, none⟩) ([(97 : Int)]).length [(97 : Int)].length]) (X := Unit) (fun x => .int .u32 t32) (fun x => stl []) 2 rfl rfl (by kernel_rfl) (fun w => by kernel_rfl) (fun w hs => crc_Sum.calls k (some ⟨g31, 0, none⟩) [(97 : Int)].length ([(97 : Int)]) t32 w (hs.ros (k := 1) (by exact rfl) no_ks) (Nat.le_refl _) hc33) ?_
        intro x34
        refine ls_on (j := 17) (t := 35) (b := true) rfl rfl (by kernel_rfl) (by kernel_rfl) ?_
        refine ls_val (v := .bool (decide (t32 = (3251651376 : Int)))) rfl rfl (by kernel_rfl) (fun w => by kernel_rfl) ?_
        refine ls_val (v := .bool (decide (t32 = (3251651376 : Int)))) rfl rfl (by kernel_rfl) (fun w => by kernel_rfl) ?_
        refine ls_val (v := .bool (decide (t32 = (3251651376 : Int)))) rfl rfl (by kernel_rfl) (fun w => by kernel_rfl) ?_
        refine ls_end ?_
        refine qn_then ?_
        refine cs_ret' ?_
        obtain rfl := Option.some.inj H
        refine qr_res (rs := [_]) rfl (fun w' hs => ⟨[.bool (decide (t32 = (3251651376 : Int)))], (res_tmp (by kernel_rfl) (.nil)), (), rfl, hs.pick (ts := []) (cs := []) trivial (by decide)⟩)
      · replace H := ite_f q30 H
        refine ls_know (c := false) (dec_f q30) 35 (by kernel_rfl) ?_
        refine ls_off (j := 17) (t := 35) (b := true) (c := false) rfl rfl (by kernel_rfl) (by kernel_rfl) rfl rfl (by kernel_rfl) ?_
        refine ls_off (j := 17) (t := 35) (b := true) (c := false) rfl rfl (by kernel_rfl) (by kernel_rfl) rfl rfl (by kernel_rfl) ?_
        refine ls_off (j := 17) (t := 35) (b := true) (c := false) rfl rfl (by kernel_rfl) (by kernel_rfl) rfl rfl (by kernel_rfl) ?_
        refine ls_off (j := 17) (t := 35) (b := true) (c := false) rfl rfl (by kernel_rfl) (by kernel_rfl) rfl rfl (by kernel_rfl) ?_
        refine ls_val (v := .bool false) rfl rfl (by kernel_rfl) (fun w => by kernel_rfl) ?_
        refine ls_val (v := .bool false) rfl rfl (by kernel_rfl) (fun w => by kernel_rfl) ?_
        refine ls_end ?_
        refine qn_then ?_
        refine cs_ret' ?_
        obtain rfl := Option.some.inj H
        refine qr_res (rs := [_]) rfl (fun w' hs => ⟨[.bool false], (res_tmp (by kernel_rfl) (.nil)), (), rfl, hs.pick (ts := []) (cs := []) trivial (by decide)⟩)
    · replace H := ite_f q20 H
      refine ls_know (c := false) (dec_f q20) 24 (by kernel_rfl) ?_
      refine ls_off (j := 6) (t := 24) (b := true) (c := false) rfl rfl (by kernel_rfl) (by kernel_rfl) rfl rfl (by kernel_rfl) ?_
      refine ls_off (j := 6) (t := 24) (b := true) (c := false) rfl rfl (by kernel_rfl) (by kernel_rfl) rfl rfl (by kernel_rfl) ?_
      refine ls_off (j := 6) (t := 24) (b := true) (c := false) rfl rfl (by kernel_rfl) (by kernel_rfl) rfl rfl (by kernel_rfl) ?_
      refine ls_off (j := 6) (t := 24) (b := true) (c := false) rfl rfl (by kernel_rfl) (by kernel_rfl) rfl rfl (by kernel_rfl) ?_
      refine ls_off (j := 6) (t := 24) (b := true) (c := false) rfl rfl (by kernel_rfl) (by kernel_rfl) rfl rfl (by kernel_rfl) ?_
      refine ls_off (j := 6) (t := 24) (b := true) (c := false) rfl rfl (by kernel_rfl) (by kernel_rfl) rfl rfl (by kernel_rfl) ?_
      refine ls_off (j := 6) (t := 24) (b := true) (c := false) rfl rfl (by kernel_rfl) (by kernel_rfl) rfl rfl (by kernel_rfl) ?_
      refine ls_off (j := 6) (t := 24) (b := true) (c := false) rfl rfl (by kernel_rfl) (by kernel_rfl) rfl rfl (by kernel_rfl) ?_
      refine ls_off (j := 6) (t := 24) (b := true) (c := false) rfl rfl (by kernel_rfl) (by kernel_rfl) rfl rfl (by kernel_rfl) ?_
      refine ls_val (v := .bool false) rfl rfl (by kernel_rfl) (fun w => by kernel_rfl) ?_
      refine ls_val (v := .bool false) rfl rfl (by kernel_rfl) (fun w => by kernel_rfl) ?_
      refine ls_off (j := 17) (t := 35) (b := true) (c := false) rfl rfl (by kernel_rfl) (by kernel_rfl) rfl rfl (by kernel_rfl) ?_
      refine ls_off (j := 17) (t := 35) (b := true) (c := false) rfl rfl (by kernel_rfl) (by kernel_rfl) rfl rfl (by kernel_rfl) ?_
      refine ls_off (j := 17) (t := 35) (b := true) (c := false) rfl rfl (by kernel_rfl) (by kernel_rfl) rfl rfl (by kernel_rfl) ?_
      refine ls_off (j := 17) (t := 35) (b := true) (c := false) rfl rfl (by kernel_rfl) (by kernel_rfl) rfl rfl (by kernel_rfl) ?_
      refine ls_val (v := .bool false) rfl rfl (by kernel_rfl) (fun w => by kernel_rfl) ?_
      refine ls_val (v := .bool false) rfl rfl (by kernel_rfl) (fun w => by kernel_rfl) ?_
      refine ls_end ?_
      refine qn_then ?_
      refine cs_ret' ?_
      obtain rfl := Option.some.inj H
      refine qr_res (rs := [_]) rfl (fun w' hs => ⟨[.bool false], (res_tmp (by kernel_rfl) (.nil)), (), rfl, hs.pick (ts := []) (cs := []) trivial (by decide)⟩)

end Go.Proofs.Ytelgglnabikkcaa.G
