/- Printed by a program of this session (sx.py): plain functions, and walks that show that the code comes to them; no condition. -/
import Derived.Test.YtknjphpfofbdiaaProg
import Derived.Test.YtknjphpfofbdiaaSx
import Derived.Test.YtknjphpfofbdiaaGa
set_option linter.unusedVariables false
namespace Go.Proofs.Ytknjphpfofbdiaa.G
open Go Go.RowKit Go.Proofs.Ytknjphpfofbdiaa.Sx

/-! ### shadowbox/shadowboxlaw01.CodecBack: function 8 -/
def shadowboxlaw01_CodecBack.l1 (a0 : Int) (a1 : ByteArray) (l2 : List Int) : Nat → Int → Option (Bool)
  | 0, _ => none
  | k1 + 1, x7_1 => (if x7_1 ≤ (8 : Int) then (codec_Fixed.f k1 ([] : List Int) x7_1 ([a0])).bind fun t6 => (if (t6.length + l2.length) * 1 ≤ 140737488355328 then (codec_Take.f k1 (t6 ++ l2) x7_1).bind fun t12 => (if x7_1 < (8 : Int) then lt (IntKind.wrap .u64 (IntKind.wrap .i64 ((8 : Int) * x7_1))) fun y16 => (if 0 ≤ y16 then lt (IntKind.wrap .u64 ((shlv .u64 (1 : Int) y16) - (1 : Int))) fun y19 => (if t12.1 = (bits .and .u64 a0 y19) then (if ((strOfNums t12.2.1).toList == (strOfNums l2).toList) = true then (if t12.2.2 = true then (shadowboxlaw01_CodecBack.l1 a0 a1 l2 k1) (IntKind.wrap .i64 (x7_1 + (1 : Int))) else some false) else some false) else some false) else none) else (if t12.1 = a0 then (if ((strOfNums t12.2.1).toList == (strOfNums l2).toList) = true then (if t12.2.2 = true then (shadowboxlaw01_CodecBack.l1 a0 a1 l2 k1) (IntKind.wrap .i64 (x7_1 + (1 : Int))) else some false) else some false) else some false)) else none) else (codec_Short.f k1 ([] : List Int) a0).bind fun t27 => (if (t27.length + l2.length) * 1 ≤ 140737488355328 then (codec_ReadShort.f k1 (t27 ++ l2)).bind fun t33 => (codec_Text.f k1 ([] : List Int) a1).bind fun t36 => (if (([] : List Int).length + t36.length) * 1 ≤ 140737488355328 then (if ((([] : List Int) ++ t36).length + l2.length) * 1 ≤ 140737488355328 then (codec_ReadText.f k1 ((([] : List Int) ++ t36) ++ l2) (a1.size : Int)).bind fun t46 => (if t33.1 = a0 then (codec_Short.f k1 ([] : List Int) a0).bind fun t50 => (if t33.2.1 = (t50.length : Int) then (if t33.2.2 = (0 : Int) then (if t33.2.1 ≥ (1 : Int) then (if (t46.1.toList == a1.toList) = true then (if t46.2.1 = (t36.length : Int) then some (decide (t46.2.2 = (0 : Int))) else some false) else some false) else some false) else some false) else some false) else some false) else none) else none) else none))
def shadowboxlaw01_CodecBack.f (k : Nat) (a0 : Int) (a1 : ByteArray) (l2 : List Int) : Option (Bool) :=
  lt (IntKind.wrap .i64 ((a1.size : Int) + (l2.length : Int))) fun y1 => (if y1 > (3000 : Int) then some true else shadowboxlaw01_CodecBack.l1 a0 a1 l2 k (1 : Int))
set_option maxRecDepth 100000 in
set_option maxHeartbeats 4000000 in
theorem shadowboxlaw01_CodecBack.calls (k : Nat) (a0 : Int) (a1 : ByteArray) (A2 : Option Addr) (c2 : Nat) (l2 : List Int) (r : Bool) (w : World) (R2 : Rd w A2 (en (Value.int .u8) l2)) (C2 : l2.length ≤ c2) (H : shadowboxlaw01_CodecBack.f k a0 a1 l2 = some r) :
    Calls Try.prog 8 #[.int .u64 a0, .string a1, .slice A2 l2.length c2] w fun e w' => ∃ x : Unit, e = .returned (.bool r) ∧ St w s0 w' := by
  unfold shadowboxlaw01_CodecBack.f at H
  refine enter (n := 123) Try.func8 rfl (by kernel_rfl) (by kernel_rfl) ?_
  refine cs_seq ?_
  refine cs_region (l := [_]) ?_
  refine ls_val (v := .bool false) rfl rfl (by kernel_rfl) (fun w => by kernel_rfl) ?_
  refine ls_end ?_
  refine qn_then ?_
  refine cs_seq ?_
  refine cs_seq ?_
  refine cs_region (l := [_, _, _, _, _, _]) ?_
  refine ls_val (v := .string a1) rfl rfl (by kernel_rfl) (fun w => by kernel_rfl) ?_
  refine ls_val (v := .int .i64 (a1.size : Int)) rfl rfl (by kernel_rfl) (fun w => by kernel_rfl) ?_
  refine ls_val (v := .slice A2 l2.length c2) rfl rfl (by kernel_rfl) (fun w => by kernel_rfl) ?_
  refine ls_val (v := .int .i64 (l2.length : Int)) rfl rfl (by kernel_rfl) (fun w => by kernel_rfl) ?_
  obtain ⟨y1, hy2, H⟩ := lt_some H
  refine ls_val (v := .int .i64 (IntKind.wrap .i64 ((a1.size : Int) + (l2.length : Int)))) rfl rfl (by kernel_rfl) (fun w => by kernel_rfl) ?_
  refine ls_ren 24 (v := .int .i64 (IntKind.wrap .i64 ((a1.size : Int) + (l2.length : Int)))) (v' := .int .i64 y1) (by kernel_rfl) (by rw [hy2]) ?_
  refine ls_val (v := .bool (decide (y1 > (3000 : Int)))) rfl rfl (by kernel_rfl) (fun w => by kernel_rfl) ?_
  refine ls_end ?_
  refine qn_then ?_
  by_cases q3 : y1 > (3000 : Int)
  · replace H := ite_t q3 H
    refine cs_know (c := true) (dec_t q3) 25 (by kernel_rfl) ?_
    refine cs_true (by kernel_rfl) ?_
    refine cs_seq ?_
    refine cs_region (l := [_]) ?_
    refine ls_val (v := .bool true) rfl rfl (by kernel_rfl) (fun w => by kernel_rfl) ?_
    refine ls_end ?_
    refine qn_then ?_
    refine cs_ret' ?_
    refine qr_then ?_
    obtain rfl := Option.some.inj H
    refine qr_end1 rfl (fun w' hs => ⟨(), rfl, ?_⟩)
    exact hs.sub (sub_nil _)
  · replace H := ite_f q3 H
    refine cs_know (c := false) (dec_f q3) 25 (by kernel_rfl) ?_
    refine cs_false (by kernel_rfl) ?_
    refine cs_skip' ?_
    refine qn_then ?_
    refine cs_seq ?_
    refine cs_seq ?_
    refine cs_region (l := [_]) ?_
    refine ls_val (v := .int .i64 (1 : Int)) rfl rfl (by kernel_rfl) (fun w => by kernel_rfl) ?_
    refine ls_end ?_
    refine qn_then ?_
    refine cs_block ?_
    refine cs_sub (s0) (sub_nil _) ?_
    refine cs_loop (fun kk f S => ∃ (g : Fr) (x7_1 : Int), f = upd (upd (upd (upd g 0 (.int .u64 a0)) 1 (.string a1)) 2 (.slice A2 l2.length c2)) 7 (.int .i64 x7_1) ∧ S = s0 ∧ shadowboxlaw01_CodecBack.l1 a0 a1 l2 kk x7_1 = some r) k ?_ ?_ ?_
    · exact ⟨_, (1 : Int), fr_next (fr_next (fr_next (fr_next (rfl) (by kernel_rfl)) (by kernel_rfl)) (by kernel_rfl)) (by kernel_rfl), rfl, H⟩
    · rintro f S ⟨g1, x7_1, rfl, rfl, H⟩; cases H
    · rintro k1 f S ⟨g1, x7_1, rfl, rfl, H⟩
      replace H : (if x7_1 ≤ (8 : Int) then (codec_Fixed.f k1 ([] : List Int) x7_1 ([a0])).bind fun t6 => (if (t6.length + l2.length) * 1 ≤ 140737488355328 then (codec_Take.f k1 (t6 ++ l2) x7_1).bind fun t12 => (if x7_1 < (8 : Int) then lt (IntKind.wrap .u64 (IntKind.wrap .i64 ((8 : Int) * x7_1))) fun y16 => (if 0 ≤ y16 then lt (IntKind.wrap .u64 ((shlv .u64 (1 : Int) y16) - (1 : Int))) fun y19 => (if t12.1 = (bits .and .u64 a0 y19) then (if ((strOfNums t12.2.1).toList == (strOfNums l2).toList) = true then (if t12.2.2 = true then (shadowboxlaw01_CodecBack.l1 a0 a1 l2 k1) (IntKind.wrap .i64 (x7_1 + (1 : Int))) else some false) else some false) else some false) else none) else (if t12.1 = a0 then (if ((strOfNums t12.2.1).toList == (strOfNums l2).toList) = true then (if t12.2.2 = true then (shadowboxlaw01_CodecBack.l1 a0 a1 l2 k1) (IntKind.wrap .i64 (x7_1 + (1 : Int))) else some false) else some false) else some false)) else none) else (codec_Short.f k1 ([] : List Int) a0).bind fun t27 => (if (t27.length + l2.length) * 1 ≤ 140737488355328 then (codec_ReadShort.f k1 (t27 ++ l2)).bind fun t33 => (codec_Text.f k1 ([] : List Int) a1).bind fun t36 => (if (([] : List Int).length + t36.length) * 1 ≤ 140737488355328 then (if ((([] : List Int) ++ t36).length + l2.length) * 1 ≤ 140737488355328 then (codec_ReadText.f k1 ((([] : List Int) ++ t36) ++ l2) (a1.size : Int)).bind fun t46 => (if t33.1 = a0 then (codec_Short.f k1 ([] : List Int) a0).bind fun t50 => (if t33.2.1 = (t50.length : Int) then (if t33.2.2 = (0 : Int) then (if t33.2.1 ≥ (1 : Int) then (if (t46.1.toList == a1.toList) = true then (if t46.2.1 = (t36.length : Int) then some (decide (t46.2.2 = (0 : Int))) else some false) else some false) else some false) else some false) else some false) else some false) else none) else none) else none)) = some r := H
      refine cs_seq ?_
      refine cs_seq ?_
      refine cs_region (l := [_, _]) ?_
      refine ls_val (v := .int .i64 x7_1) rfl rfl (by kernel_rfl) (fun w => by kernel_rfl) ?_
      refine ls_val (v := .bool (decide (x7_1 ≤ (8 : Int)))) rfl rfl (by kernel_rfl) (fun w => by kernel_rfl) ?_
      refine ls_end ?_
      refine qn_then ?_
      by_cases q4 : x7_1 ≤ (8 : Int)
      · replace H := ite_t q4 H
        refine cs_know (c := true) (dec_t q4) 27 (by kernel_rfl) ?_
        refine cs_true (by kernel_rfl) ?_
        refine cs_skip' ?_
        refine qn_then ?_
        refine cs_seq ?_
        refine cs_block ?_
        refine cs_seq ?_
        refine cs_region (l := [_, _, _, _, _, _, _, _, _, _, _, _, _, _, _]) ?_
        refine ls_val (v := .int .i64 x7_1) rfl rfl (by kernel_rfl) (fun w => by kernel_rfl) ?_
        refine ls_val (v := .int .u64 a0) rfl rfl (by kernel_rfl) (fun w => by kernel_rfl) ?_
        refine ls_lit (E := (Value.int .u64)) (e := 22) 0 rfl rfl (by kernel_rfl) ([a0]) (by exact of_decide_eq_true (by kernel_rfl)) (fun w => by kernel_rfl) ?_
        intro g5
        obtain ⟨t6, hc7, H⟩ := bind_some H
        refine ls_call (fid := 13) (vals := #[.slice none ([] : List Int).length 0, .int .i64 x7_1, .slice (some ⟨g5, 0, none⟩) ([a0]).length [a0].length]) (X := (Option Addr × Nat)) (fun x => .slice x.1 t6.length x.2) (fun x => sput s0 0 (some (Ck.sl 5 (Value.int .u8) x.1 x.2 t6))) 1 rfl rfl (by kernel_rfl) (fun w => by kernel_rfl) (fun w hs => codec_Fixed.calls k1 none 0 ([] : List Int) x7_1 (some ⟨g5, 0, none⟩) [a0].length ([a0]) t6 w (Rd.nil _ _) (Nat.le_refl 0) (hs.rd (k := 0) (by exact rfl)) (hs.cap (k := 0) (by exact rfl)) hc7) ?_
        intro x8
        refine ls_val (v := .slice A2 l2.length c2) rfl rfl (by kernel_rfl) (fun w => by kernel_rfl) ?_
        obtain ⟨q9, H⟩ := ite_need H
        refine ls_app (A := x8.1) (c := x8.2) (B := A2) (cb := c2) (e := 5) (z := (Value.int .u8 0)) (E := (Value.int .u8)) (l := t6) (m := l2) (bytes := 1) 1 rfl rfl (by kernel_rfl) rfl (by kernel_rfl) (by exact rfl) (by kernel_rfl) (fun w hs => (hs.old R2)) (by kernel_rfl) (by kernel_rfl) rfl (fun _ => rfl) (by decide) q9 ?_
        intro xA10 xc11
        refine ls_val (v := .int .i64 x7_1) rfl rfl (by kernel_rfl) (fun w => by kernel_rfl) ?_
        obtain ⟨t12, hc13, H⟩ := bind_some H
        refine ls_call (fid := 11) (vals := #[.slice xA10 (t6 ++ l2).length xc11, .int .i64 x7_1]) (X := (Option Addr × Nat)) (fun x => .tuple #[.int .u64 t12.1, .slice x.1 t12.2.1.length x.2, .bool t12.2.2]) (fun x => sput s0 0 (some (Ck.sl 5 (Value.int .u8) x.1 x.2 t12.2.1))) 2 rfl rfl (by kernel_rfl) (fun w => by kernel_rfl) (fun w hs => codec_Take.calls k1 xA10 xc11 (t6 ++ l2) x7_1 t12 w (hs.rd (k := 1) (by exact rfl)) (hs.cap (k := 1) (by exact rfl)) hc13) ?_
        intro x14
        refine ls_val (v := .tuple #[.int .u64 t12.1, .slice x14.1 t12.2.1.length x14.2, .bool t12.2.2]) rfl rfl (by kernel_rfl) (fun w => by kernel_rfl) ?_
        refine ls_val (v := .int .u64 t12.1) rfl rfl (by kernel_rfl) (fun w => by kernel_rfl) ?_
        refine ls_val (v := .slice x14.1 t12.2.1.length x14.2) rfl rfl (by kernel_rfl) (fun w => by kernel_rfl) ?_
        refine ls_val (v := .bool t12.2.2) rfl rfl (by kernel_rfl) (fun w => by kernel_rfl) ?_
        refine ls_val (v := .int .u64 t12.1) rfl rfl (by kernel_rfl) (fun w => by kernel_rfl) ?_
        refine ls_val (v := .slice x14.1 t12.2.1.length x14.2) rfl rfl (by kernel_rfl) (fun w => by kernel_rfl) ?_
        refine ls_val (v := .bool t12.2.2) rfl rfl (by kernel_rfl) (fun w => by kernel_rfl) ?_
        refine ls_end ?_
        refine qn_then ?_
        refine cs_seq ?_
        refine cs_region (l := [_, _]) ?_
        refine ls_val (v := .int .u64 a0) rfl rfl (by kernel_rfl) (fun w => by kernel_rfl) ?_
        refine ls_val (v := .int .u64 a0) rfl rfl (by kernel_rfl) (fun w => by kernel_rfl) ?_
        refine ls_end ?_
        refine qn_then ?_
        refine cs_seq ?_
        refine cs_seq ?_
        refine cs_region (l := [_, _]) ?_
        refine ls_val (v := .int .i64 x7_1) rfl rfl (by kernel_rfl) (fun w => by kernel_rfl) ?_
        refine ls_val (v := .bool (decide (x7_1 < (8 : Int)))) rfl rfl (by kernel_rfl) (fun w => by kernel_rfl) ?_
        refine ls_end ?_
        refine qn_then ?_
        by_cases q15 : x7_1 < (8 : Int)
        · replace H := ite_t q15 H
          refine cs_know (c := true) (dec_t q15) 44 (by kernel_rfl) ?_
          refine cs_true (by kernel_rfl) ?_
          refine cs_region (l := [_, _, _, _, _, _, _, _]) ?_
          refine ls_val (v := .int .u64 a0) rfl rfl (by kernel_rfl) (fun w => by kernel_rfl) ?_
          refine ls_val (v := .int .i64 x7_1) rfl rfl (by kernel_rfl) (fun w => by kernel_rfl) ?_
          refine ls_val (v := .int .i64 (IntKind.wrap .i64 ((8 : Int) * x7_1))) rfl rfl (by kernel_rfl) (fun w => by kernel_rfl) ?_
          obtain ⟨y16, hy17, H⟩ := lt_some H
          refine ls_val (v := .int .u64 (IntKind.wrap .u64 (IntKind.wrap .i64 ((8 : Int) * x7_1)))) rfl rfl (by kernel_rfl) (fun w => by kernel_rfl) ?_
          refine ls_ren 48 (v := .int .u64 (IntKind.wrap .u64 (IntKind.wrap .i64 ((8 : Int) * x7_1)))) (v' := .int .u64 y16) (by kernel_rfl) (by rw [hy17]) ?_
          obtain ⟨q18, H⟩ := ite_need H
          refine ls_shiftl (k := .u64) (yk := .u64) (x := (1 : Int)) (y := y16) rfl rfl (by kernel_rfl) (fun w => by kernel_rfl) q18 ?_
          obtain ⟨y19, hy20, H⟩ := lt_some H
          refine ls_val (v := .int .u64 (IntKind.wrap .u64 ((shlv .u64 (1 : Int) y16) - (1 : Int)))) rfl rfl (by kernel_rfl) (fun w => by kernel_rfl) ?_
          refine ls_ren 50 (v := .int .u64 (IntKind.wrap .u64 ((shlv .u64 (1 : Int) y16) - (1 : Int)))) (v' := .int .u64 y19) (by kernel_rfl) (by rw [hy20]) ?_
          refine ls_val (v := .int .u64 (bits .and .u64 a0 y19)) rfl rfl (by kernel_rfl) (fun w => by kernel_rfl) ?_
          refine ls_val (v := .int .u64 (bits .and .u64 a0 y19)) rfl rfl (by kernel_rfl) (fun w => by kernel_rfl) ?_
          refine ls_end ?_
          refine qn_then ?_
          refine cs_seq ?_
          refine cs_region (l := [_, _, _, _, _, _, _, _, _, _, _, _, _, _]) ?_
          refine ls_val (v := .int .u64 t12.1) rfl rfl (by kernel_rfl) (fun w => by kernel_rfl) ?_
          refine ls_val (v := .int .u64 (bits .and .u64 a0 y19)) rfl rfl (by kernel_rfl) (fun w => by kernel_rfl) ?_
          refine ls_val (v := .bool (!decide (t12.1 = (bits .and .u64 a0 y19)))) rfl rfl (by kernel_rfl) (fun w => by kernel_rfl) ?_
          refine ls_val (v := .bool (!decide (t12.1 = (bits .and .u64 a0 y19)))) rfl rfl (by kernel_rfl) (fun w => by kernel_rfl) ?_
          by_cases q21 : t12.1 = (bits .and .u64 a0 y19)
          · replace H := ite_t q21 H
            refine ls_know (c := false) (congrArg Bool.not (dec_t q21)) 55 (by kernel_rfl) ?_
            refine ls_on (j := 3) (t := 55) (b := false) rfl rfl (by kernel_rfl) (by kernel_rfl) ?_
            refine ls_val (v := .slice x14.1 t12.2.1.length x14.2) rfl rfl (by kernel_rfl) (fun w => by kernel_rfl) ?_
            refine ls_on (j := 3) (t := 55) (b := false) rfl rfl (by kernel_rfl) (by kernel_rfl) ?_
            refine ls_str (A := x14.1) (c := x14.2) (e := 5) (l := t12.2.1) rfl rfl (by kernel_rfl) rfl (by kernel_rfl) (by kernel_rfl) (by kernel_rfl) (by kernel_rfl) (fun w hs => (hs.rd (k := 2) (by exact rfl))) ?_
            refine ls_on (j := 3) (t := 55) (b := false) rfl rfl (by kernel_rfl) (by kernel_rfl) ?_
            refine ls_val (v := .slice A2 l2.length c2) rfl rfl (by kernel_rfl) (fun w => by kernel_rfl) ?_
            refine ls_on (j := 3) (t := 55) (b := false) rfl rfl (by kernel_rfl) (by kernel_rfl) ?_
            refine ls_str (A := A2) (c := c2) (e := 5) (l := l2) rfl rfl (by kernel_rfl) rfl (by kernel_rfl) (by kernel_rfl) (by kernel_rfl) (by kernel_rfl) (fun w hs => (hs.old R2)) ?_
            refine ls_on (j := 3) (t := 55) (b := false) rfl rfl (by kernel_rfl) (by kernel_rfl) ?_
            refine ls_val (v := .bool (!((strOfNums t12.2.1).toList == (strOfNums l2).toList))) rfl rfl (by kernel_rfl) (fun w => by kernel_rfl) ?_
            refine ls_val (v := .bool (!((strOfNums t12.2.1).toList == (strOfNums l2).toList))) rfl rfl (by kernel_rfl) (fun w => by kernel_rfl) ?_
            refine ls_val (v := .bool (!((strOfNums t12.2.1).toList == (strOfNums l2).toList))) rfl rfl (by kernel_rfl) (fun w => by kernel_rfl) ?_
            by_cases q22 : ((strOfNums t12.2.1).toList == (strOfNums l2).toList) = true
            · replace H := ite_t q22 H
              refine ls_know (c := false) (congrArg Bool.not (q22)) 62 (by kernel_rfl) ?_
              refine ls_on (j := 10) (t := 62) (b := false) rfl rfl (by kernel_rfl) (by kernel_rfl) ?_
              refine ls_val (v := .bool t12.2.2) rfl rfl (by kernel_rfl) (fun w => by kernel_rfl) ?_
              refine ls_on (j := 10) (t := 62) (b := false) rfl rfl (by kernel_rfl) (by kernel_rfl) ?_
              refine ls_val (v := .bool (!t12.2.2)) rfl rfl (by kernel_rfl) (fun w => by kernel_rfl) ?_
              refine ls_val (v := .bool (!t12.2.2)) rfl rfl (by kernel_rfl) (fun w => by kernel_rfl) ?_
              refine ls_end ?_
              refine qn_then ?_
              by_cases q23 : t12.2.2 = true
              · replace H := ite_t q23 H
                refine cs_know (c := false) (congrArg Bool.not (q23)) 65 (by kernel_rfl) ?_
                refine cs_false (by kernel_rfl) ?_
                refine cs_skip' ?_
                refine qn_block ?_
                refine qn_then ?_
                refine cs_region (l := [_, _, _]) ?_
                refine ls_val (v := .int .i64 x7_1) rfl rfl (by kernel_rfl) (fun w => by kernel_rfl) ?_
                refine ls_val (v := .int .i64 (IntKind.wrap .i64 (x7_1 + (1 : Int)))) rfl rfl (by kernel_rfl) (fun w => by kernel_rfl) ?_
                refine ls_val (v := .int .i64 (IntKind.wrap .i64 (x7_1 + (1 : Int)))) rfl rfl (by kernel_rfl) (fun w => by kernel_rfl) ?_
                refine ls_end ?_
                refine qn_again k1 (s0) (Nat.le_refl _) ⟨_, (IntKind.wrap .i64 (x7_1 + (1 : Int))), fr_next (fr_next (fr_next (fr_next (rfl) (by kernel_rfl)) (by kernel_rfl)) (by kernel_rfl)) (by kernel_rfl), rfl, H⟩ (sub_nil _)
              · replace H := ite_f q23 H
                refine cs_know (c := true) (congrArg Bool.not (Bool.eq_false_iff.mpr q23)) 65 (by kernel_rfl) ?_
                refine cs_true (by kernel_rfl) ?_
                refine cs_seq ?_
                refine cs_region (l := [_]) ?_
                refine ls_val (v := .bool false) rfl rfl (by kernel_rfl) (fun w => by kernel_rfl) ?_
                refine ls_end ?_
                refine qn_then ?_
                refine cs_ret' ?_
                refine qr_block ?_
                refine qr_then ?_
                refine qr_then ?_
                refine qr_block ?_
                refine qr_then ?_
                obtain rfl := Option.some.inj H
                refine qr_end1 rfl (fun w' hs => ⟨(), rfl, ?_⟩)
                exact hs.sub (sub_nil _)
            · replace H := ite_f q22 H
              refine ls_know (c := true) (congrArg Bool.not (Bool.eq_false_iff.mpr q22)) 62 (by kernel_rfl) ?_
              refine ls_off (j := 10) (t := 62) (b := false) (c := true) rfl rfl (by kernel_rfl) (by kernel_rfl) rfl rfl (by kernel_rfl) ?_
              refine ls_off (j := 10) (t := 62) (b := false) (c := true) rfl rfl (by kernel_rfl) (by kernel_rfl) rfl rfl (by kernel_rfl) ?_
              refine ls_val (v := .bool true) rfl rfl (by kernel_rfl) (fun w => by kernel_rfl) ?_
              refine ls_end ?_
              refine qn_then ?_
              refine cs_true (by kernel_rfl) ?_
              refine cs_seq ?_
              refine cs_region (l := [_]) ?_
              refine ls_val (v := .bool false) rfl rfl (by kernel_rfl) (fun w => by kernel_rfl) ?_
              refine ls_end ?_
              refine qn_then ?_
              refine cs_ret' ?_
              refine qr_block ?_
              refine qr_then ?_
              refine qr_then ?_
              refine qr_block ?_
              refine qr_then ?_
              obtain rfl := Option.some.inj H
              refine qr_end1 rfl (fun w' hs => ⟨(), rfl, ?_⟩)
              exact hs.sub (sub_nil _)
          · replace H := ite_f q21 H
            refine ls_know (c := true) (congrArg Bool.not (dec_f q21)) 55 (by kernel_rfl) ?_
            refine ls_off (j := 3) (t := 55) (b := false) (c := true) rfl rfl (by kernel_rfl) (by kernel_rfl) rfl rfl (by kernel_rfl) ?_
            refine ls_off (j := 3) (t := 55) (b := false) (c := true) rfl rfl (by kernel_rfl) (by kernel_rfl) rfl rfl (by kernel_rfl) ?_
            refine ls_off (j := 3) (t := 55) (b := false) (c := true) rfl rfl (by kernel_rfl) (by kernel_rfl) rfl rfl (by kernel_rfl) ?_
            refine ls_off (j := 3) (t := 55) (b := false) (c := true) rfl rfl (by kernel_rfl) (by kernel_rfl) rfl rfl (by kernel_rfl) ?_
            refine ls_off (j := 3) (t := 55) (b := false) (c := true) rfl rfl (by kernel_rfl) (by kernel_rfl) rfl rfl (by kernel_rfl) ?_
            refine ls_val (v := .bool true) rfl rfl (by kernel_rfl) (fun w => by kernel_rfl) ?_
            refine ls_val (v := .bool true) rfl rfl (by kernel_rfl) (fun w => by kernel_rfl) ?_
            refine ls_off (j := 10) (t := 62) (b := false) (c := true) rfl rfl (by kernel_rfl) (by kernel_rfl) rfl rfl (by kernel_rfl) ?_
            refine ls_off (j := 10) (t := 62) (b := false) (c := true) rfl rfl (by kernel_rfl) (by kernel_rfl) rfl rfl (by kernel_rfl) ?_
            refine ls_val (v := .bool true) rfl rfl (by kernel_rfl) (fun w => by kernel_rfl) ?_
            refine ls_end ?_
            refine qn_then ?_
            refine cs_true (by kernel_rfl) ?_
            refine cs_seq ?_
            refine cs_region (l := [_]) ?_
            refine ls_val (v := .bool false) rfl rfl (by kernel_rfl) (fun w => by kernel_rfl) ?_
            refine ls_end ?_
            refine qn_then ?_
            refine cs_ret' ?_
            refine qr_block ?_
            refine qr_then ?_
            refine qr_then ?_
            refine qr_block ?_
            refine qr_then ?_
            obtain rfl := Option.some.inj H
            refine qr_end1 rfl (fun w' hs => ⟨(), rfl, ?_⟩)
            exact hs.sub (sub_nil _)
        · replace H := ite_f q15 H
          refine cs_know (c := false) (dec_f q15) 44 (by kernel_rfl) ?_
          refine cs_false (by kernel_rfl) ?_
          refine cs_skip' ?_
          refine qn_then ?_
          refine cs_seq ?_
          refine cs_region (l := [_, _, _, _, _, _, _, _, _, _, _, _, _, _]) ?_
          refine ls_val (v := .int .u64 t12.1) rfl rfl (by kernel_rfl) (fun w => by kernel_rfl) ?_
          refine ls_val (v := .int .u64 a0) rfl rfl (by kernel_rfl) (fun w => by kernel_rfl) ?_
          refine ls_val (v := .bool (!decide (t12.1 = a0))) rfl rfl (by kernel_rfl) (fun w => by kernel_rfl) ?_
          refine ls_val (v := .bool (!decide (t12.1 = a0))) rfl rfl (by kernel_rfl) (fun w => by kernel_rfl) ?_
          by_cases q24 : t12.1 = a0
          · replace H := ite_t q24 H
            refine ls_know (c := false) (congrArg Bool.not (dec_t q24)) 55 (by kernel_rfl) ?_
            refine ls_on (j := 3) (t := 55) (b := false) rfl rfl (by kernel_rfl) (by kernel_rfl) ?_
            refine ls_val (v := .slice x14.1 t12.2.1.length x14.2) rfl rfl (by kernel_rfl) (fun w => by kernel_rfl) ?_
            refine ls_on (j := 3) (t := 55) (b := false) rfl rfl (by kernel_rfl) (by kernel_rfl) ?_
            refine ls_str (A := x14.1) (c := x14.2) (e := 5) (l := t12.2.1) rfl rfl (by kernel_rfl) rfl (by kernel_rfl) (by kernel_rfl) (by kernel_rfl) (by kernel_rfl) (fun w hs => (hs.rd (k := 2) (by exact rfl))) ?_
            refine ls_on (j := 3) (t := 55) (b := false) rfl rfl (by kernel_rfl) (by kernel_rfl) ?_
            refine ls_val (v := .slice A2 l2.length c2) rfl rfl (by kernel_rfl) (fun w => by kernel_rfl) ?_
            refine ls_on (j := 3) (t := 55) (b := false) rfl rfl (by kernel_rfl) (by kernel_rfl) ?_
            refine ls_str (A := A2) (c := c2) (e := 5) (l := l2) rfl rfl (by kernel_rfl) rfl (by kernel_rfl) (by kernel_rfl) (by kernel_rfl) (by kernel_rfl) (fun w hs => (hs.old R2)) ?_
            refine ls_on (j := 3) (t := 55) (b := false) rfl rfl (by kernel_rfl) (by kernel_rfl) ?_
            refine ls_val (v := .bool (!((strOfNums t12.2.1).toList == (strOfNums l2).toList))) rfl rfl (by kernel_rfl) (fun w => by kernel_rfl) ?_
            refine ls_val (v := .bool (!((strOfNums t12.2.1).toList == (strOfNums l2).toList))) rfl rfl (by kernel_rfl) (fun w => by kernel_rfl) ?_
            refine ls_val (v := .bool (!((strOfNums t12.2.1).toList == (strOfNums l2).toList))) rfl rfl (by kernel_rfl) (fun w => by kernel_rfl) ?_
            by_cases q25 : ((strOfNums t12.2.1).toList == (strOfNums l2).toList) = true
            · replace H := ite_t q25 H
              refine ls_know (c := false) (congrArg Bool.not (q25)) 62 (by kernel_rfl) ?_
              refine ls_on (j := 10) (t := 62) (b := false) rfl rfl (by kernel_rfl) (by kernel_rfl) ?_
              refine ls_val (v := .bool t12.2.2) rfl rfl (by kernel_rfl) (fun w => by kernel_rfl) ?_
              refine ls_on (j := 10) (t := 62) (b := false) rfl rfl (by kernel_rfl) (by kernel_rfl) ?_
              refine ls_val (v := .bool (!t12.2.2)) rfl rfl (by kernel_rfl) (fun w => by kernel_rfl) ?_
              refine ls_val (v := .bool (!t12.2.2)) rfl rfl (by kernel_rfl) (fun w => by kernel_rfl) ?_
              refine ls_end ?_
              refine qn_then ?_
              by_cases q26 : t12.2.2 = true
              · replace H := ite_t q26 H
                refine cs_know (c := false) (congrArg Bool.not (q26)) 65 (by kernel_rfl) ?_
                refine cs_false (by kernel_rfl) ?_
                refine cs_skip' ?_
                refine qn_block ?_
                refine qn_then ?_
                refine cs_region (l := [_, _, _]) ?_
                refine ls_val (v := .int .i64 x7_1) rfl rfl (by kernel_rfl) (fun w => by kernel_rfl) ?_
                refine ls_val (v := .int .i64 (IntKind.wrap .i64 (x7_1 + (1 : Int)))) rfl rfl (by kernel_rfl) (fun w => by kernel_rfl) ?_
                refine ls_val (v := .int .i64 (IntKind.wrap .i64 (x7_1 + (1 : Int)))) rfl rfl (by kernel_rfl) (fun w => by kernel_rfl) ?_
                refine ls_end ?_
                refine qn_again k1 (s0) (Nat.le_refl _) ⟨_, (IntKind.wrap .i64 (x7_1 + (1 : Int))), fr_next (fr_next (fr_next (fr_next (rfl) (by kernel_rfl)) (by kernel_rfl)) (by kernel_rfl)) (by kernel_rfl), rfl, H⟩ (sub_nil _)
              · replace H := ite_f q26 H
                refine cs_know (c := true) (congrArg Bool.not (Bool.eq_false_iff.mpr q26)) 65 (by kernel_rfl) ?_
                refine cs_true (by kernel_rfl) ?_
                refine cs_seq ?_
                refine cs_region (l := [_]) ?_
                refine ls_val (v := .bool false) rfl rfl (by kernel_rfl) (fun w => by kernel_rfl) ?_
                refine ls_end ?_
                refine qn_then ?_
                refine cs_ret' ?_
                refine qr_block ?_
                refine qr_then ?_
                refine qr_then ?_
                refine qr_block ?_
                refine qr_then ?_
                obtain rfl := Option.some.inj H
                refine qr_end1 rfl (fun w' hs => ⟨(), rfl, ?_⟩)
                exact hs.sub (sub_nil _)
            · replace H := ite_f q25 H
              refine ls_know (c := true) (congrArg Bool.not (Bool.eq_false_iff.mpr q25)) 62 (by kernel_rfl) ?_
              refine ls_off (j := 10) (t := 62) (b := false) (c := true) rfl rfl (by kernel_rfl) (by kernel_rfl) rfl rfl (by kernel_rfl) ?_
              refine ls_off (j := 10) (t := 62) (b := false) (c := true) rfl rfl (by kernel_rfl) (by kernel_rfl) rfl rfl (by kernel_rfl) ?_
              refine ls_val (v := .bool true) rfl rfl (by kernel_rfl) (fun w => by kernel_rfl) ?_
              refine ls_end ?_
              refine qn_then ?_
              refine cs_true (by kernel_rfl) ?_
              refine cs_seq ?_
              refine cs_region (l := [_]) ?_
              refine ls_val (v := .bool false) rfl rfl (by kernel_rfl) (fun w => by kernel_rfl) ?_
              refine ls_end ?_
              refine qn_then ?_
              refine cs_ret' ?_
              refine qr_block ?_
              refine qr_then ?_
              refine qr_then ?_
              refine qr_block ?_
              refine qr_then ?_
              obtain rfl := Option.some.inj H
              refine qr_end1 rfl (fun w' hs => ⟨(), rfl, ?_⟩)
              exact hs.sub (sub_nil _)
          · replace H := ite_f q24 H
            refine ls_know (c := true) (congrArg Bool.not (dec_f q24)) 55 (by kernel_rfl) ?_
            refine ls_off (j := 3) (t := 55) (b := false) (c := true) rfl rfl (by kernel_rfl) (by kernel_rfl) rfl rfl (by kernel_rfl) ?_
            refine ls_off (j := 3) (t := 55) (b := false) (c := true) rfl rfl (by kernel_rfl) (by kernel_rfl) rfl rfl (by kernel_rfl) ?_
            refine ls_off (j := 3) (t := 55) (b := false) (c := true) rfl rfl (by kernel_rfl) (by kernel_rfl) rfl rfl (by kernel_rfl) ?_
            refine ls_off (j := 3) (t := 55) (b := false) (c := true) rfl rfl (by kernel_rfl) (by kernel_rfl) rfl rfl (by kernel_rfl) ?_
            refine ls_off (j := 3) (t := 55) (b := false) (c := true) rfl rfl (by kernel_rfl) (by kernel_rfl) rfl rfl (by kernel_rfl) ?_
            refine ls_val (v := .bool true) rfl rfl (by kernel_rfl) (fun w => by kernel_rfl) ?_
            refine ls_val (v := .bool true) rfl rfl (by kernel_rfl) (fun w => by kernel_rfl) ?_
            refine ls_off (j := 10) (t := 62) (b := false) (c := true) rfl rfl (by kernel_rfl) (by kernel_rfl) rfl rfl (by kernel_rfl) ?_
            refine ls_off (j := 10) (t := 62) (b := false) (c := true) rfl rfl (by kernel_rfl) (by kernel_rfl) rfl rfl (by kernel_rfl) ?_
            refine ls_val (v := .bool true) rfl rfl (by kernel_rfl) (fun w => by kernel_rfl) ?_
            refine ls_end ?_
            refine qn_then ?_
            refine cs_true (by kernel_rfl) ?_
            refine cs_seq ?_
            refine cs_region (l := [_]) ?_
            refine ls_val (v := .bool false) rfl rfl (by kernel_rfl) (fun w => by kernel_rfl) ?_
            refine ls_end ?_
            refine qn_then ?_
            refine cs_ret' ?_
            refine qr_block ?_
            refine qr_then ?_
            refine qr_then ?_
            refine qr_block ?_
            refine qr_then ?_
            obtain rfl := Option.some.inj H
            refine qr_end1 rfl (fun w' hs => ⟨(), rfl, ?_⟩)
            exact hs.sub (sub_nil _)
      · replace H := ite_f q4 H
        refine cs_know (c := false) (dec_f q4) 27 (by kernel_rfl) ?_
        refine cs_false (by kernel_rfl) ?_
        refine cs_exit' ?_
        refine qx_then ?_
        refine qx_then ?_
        refine qx_same ?_
        refine qn_then ?_
        refine cs_seq ?_
        refine cs_region (l := [_, _, _]) ?_
        refine ls_val (v := .int .u64 a0) rfl rfl (by kernel_rfl) (fun w => by kernel_rfl) ?_
        obtain ⟨t27, hc28, H⟩ := bind_some H
        refine ls_call (fid := 17) (vals := #[.slice none ([] : List Int).length 0, .int .u64 a0]) (X := (Option Addr × Nat)) (fun x => .slice x.1 t27.length x.2) (fun x => sput s0 0 (some (Ck.sl 5 (Value.int .u8) x.1 x.2 t27))) 0 rfl rfl (by kernel_rfl) (fun w => by kernel_rfl) (fun w hs => codec_Short.calls k1 none 0 ([] : List Int) a0 t27 w (Rd.nil _ _) (Nat.le_refl 0) hc28) ?_
        intro x29
        refine ls_val (v := .slice x29.1 t27.length x29.2) rfl rfl (by kernel_rfl) (fun w => by kernel_rfl) ?_
        refine ls_end ?_
        refine qn_then ?_
        refine cs_seq ?_
        refine cs_region (l := [_, _, _, _, _, _, _, _, _, _, _]) ?_
        refine ls_val (v := .slice x29.1 t27.length x29.2) rfl rfl (by kernel_rfl) (fun w => by kernel_rfl) ?_
        refine ls_val (v := .slice A2 l2.length c2) rfl rfl (by kernel_rfl) (fun w => by kernel_rfl) ?_
        obtain ⟨q30, H⟩ := ite_need H
        refine ls_app (A := x29.1) (c := x29.2) (B := A2) (cb := c2) (e := 5) (z := (Value.int .u8 0)) (E := (Value.int .u8)) (l := t27) (m := l2) (bytes := 1) 0 rfl rfl (by kernel_rfl) rfl (by kernel_rfl) (by exact rfl) (by kernel_rfl) (fun w hs => (hs.old R2)) (by kernel_rfl) (by kernel_rfl) rfl (fun _ => rfl) (by decide) q30 ?_
        intro xA31 xc32
        obtain ⟨t33, hc34, H⟩ := bind_some H
        refine ls_call (fid := 15) (vals := #[.slice xA31 (t27 ++ l2).length xc32]) (X := Unit) (fun x => .tuple #[.int .u64 t33.1, .int .i64 t33.2.1, .int .i64 t33.2.2]) (fun x => s0) 1 rfl rfl (by kernel_rfl) (fun w => by kernel_rfl) (fun w hs => codec_ReadShort.calls k1 xA31 xc32 (t27 ++ l2) t33 w (hs.rd (k := 0) (by exact rfl)) (hs.cap (k := 0) (by exact rfl)) hc34) ?_
        intro x35
        refine ls_val (v := .tuple #[.int .u64 t33.1, .int .i64 t33.2.1, .int .i64 t33.2.2]) rfl rfl (by kernel_rfl) (fun w => by kernel_rfl) ?_
        refine ls_val (v := .int .u64 t33.1) rfl rfl (by kernel_rfl) (fun w => by kernel_rfl) ?_
        refine ls_val (v := .int .i64 t33.2.1) rfl rfl (by kernel_rfl) (fun w => by kernel_rfl) ?_
        refine ls_val (v := .int .i64 t33.2.2) rfl rfl (by kernel_rfl) (fun w => by kernel_rfl) ?_
        refine ls_val (v := .int .u64 t33.1) rfl rfl (by kernel_rfl) (fun w => by kernel_rfl) ?_
        refine ls_val (v := .int .i64 t33.2.1) rfl rfl (by kernel_rfl) (fun w => by kernel_rfl) ?_
        refine ls_val (v := .int .i64 t33.2.2) rfl rfl (by kernel_rfl) (fun w => by kernel_rfl) ?_
        refine ls_end ?_
        refine qn_then ?_
        refine cs_seq ?_
        refine cs_region (l := [_, _, _]) ?_
        refine ls_val (v := .string a1) rfl rfl (by kernel_rfl) (fun w => by kernel_rfl) ?_
        obtain ⟨t36, hc37, H⟩ := bind_some H
        refine ls_call (fid := 21) (vals := #[.slice none ([] : List Int).length 0, .string a1]) (X := (Option Addr × Nat)) (fun x => .slice x.1 t36.length x.2) (fun x => sput s0 0 (some (Ck.sl 5 (Value.int .u8) x.1 x.2 t36))) 1 rfl rfl (by kernel_rfl) (fun w => by kernel_rfl) (fun w hs => codec_Text.calls k1 none 0 ([] : List Int) a1 t36 w (Rd.nil _ _) (Nat.le_refl 0) hc37) ?_
        intro x38
        refine ls_val (v := .slice x38.1 t36.length x38.2) rfl rfl (by kernel_rfl) (fun w => by kernel_rfl) ?_
        refine ls_end ?_
        refine qn_then ?_
        refine cs_seq ?_
        refine cs_region (l := [_, _, _, _, _, _, _, _, _, _, _, _, _, _, _]) ?_
        refine ls_lit (E := (Value.int .u8)) (e := 5) 2 rfl rfl (by kernel_rfl) ([] : List Int) (by exact of_decide_eq_true (by kernel_rfl)) (fun w => by kernel_rfl) ?_
        intro g39
        refine ls_val (v := .slice x38.1 t36.length x38.2) rfl rfl (by kernel_rfl) (fun w => by kernel_rfl) ?_
        obtain ⟨q40, H⟩ := ite_need H
        refine ls_app (A := (some ⟨g39, 0, none⟩)) (c := ([] : List Int).length) (B := x38.1) (cb := x38.2) (e := 5) (z := (Value.int .u8 0)) (E := (Value.int .u8)) (l := ([] : List Int)) (m := t36) (bytes := 1) 2 rfl rfl (by kernel_rfl) rfl (by kernel_rfl) (by exact rfl) (by kernel_rfl) (fun w hs => (hs.rd (k := 1) (by exact rfl))) (by kernel_rfl) (by kernel_rfl) rfl (fun _ => rfl) (by decide) q40 ?_
        intro xA41 xc42
        refine ls_val (v := .slice A2 l2.length c2) rfl rfl (by kernel_rfl) (fun w => by kernel_rfl) ?_
        obtain ⟨q43, H⟩ := ite_need H
        refine ls_app (A := xA41) (c := xc42) (B := A2) (cb := c2) (e := 5) (z := (Value.int .u8 0)) (E := (Value.int .u8)) (l := (([] : List Int) ++ t36)) (m := l2) (bytes := 1) 2 rfl rfl (by kernel_rfl) rfl (by kernel_rfl) (by exact rfl) (by kernel_rfl) (fun w hs => (hs.old R2)) (by kernel_rfl) (by kernel_rfl) rfl (fun _ => rfl) (by decide) q43 ?_
        intro xA44 xc45
        refine ls_val (v := .string a1) rfl rfl (by kernel_rfl) (fun w => by kernel_rfl) ?_
        refine ls_val (v := .int .i64 (a1.size : Int)) rfl rfl (by kernel_rfl) (fun w => by kernel_rfl) ?_
        obtain ⟨t46, hc47, H⟩ := bind_some H
        refine ls_call (fid := 19) (vals := #[.slice xA44 ((([] : List Int) ++ t36) ++ l2).length xc45, .int .i64 (a1.size : Int)]) (X := Unit) (fun x => .tuple #[.string t46.1, .int .i64 t46.2.1, .int .i64 t46.2.2]) (fun x => s0) 3 rfl rfl (by kernel_rfl) (fun w => by kernel_rfl) (fun w hs => codec_ReadText.calls k1 xA44 xc45 ((([] : List Int) ++ t36) ++ l2) (a1.size : Int) t46 w (hs.rd (k := 2) (by exact rfl)) (hs.cap (k := 2) (by exact rfl)) hc47) ?_
        intro x48
        refine ls_val (v := .tuple #[.string t46.1, .int .i64 t46.2.1, .int .i64 t46.2.2]) rfl rfl (by kernel_rfl) (fun w => by kernel_rfl) ?_
        refine ls_val (v := .string t46.1) rfl rfl (by kernel_rfl) (fun w => by kernel_rfl) ?_
        refine ls_val (v := .int .i64 t46.2.1) rfl rfl (by kernel_rfl) (fun w => by kernel_rfl) ?_
        refine ls_val (v := .int .i64 t46.2.2) rfl rfl (by kernel_rfl) (fun w => by kernel_rfl) ?_
        refine ls_val (v := .string t46.1) rfl rfl (by kernel_rfl) (fun w => by kernel_rfl) ?_
        refine ls_val (v := .int .i64 t46.2.1) rfl rfl (by kernel_rfl) (fun w => by kernel_rfl) ?_
        refine ls_val (v := .int .i64 t46.2.2) rfl rfl (by kernel_rfl) (fun w => by kernel_rfl) ?_
        refine ls_end ?_
        refine qn_then ?_
        refine cs_seq ?_
        refine cs_region (l := [_, _, _, _, _, _, _, _, _, _, _, _, _, _, _, _, _, _, _, _, _, _, _, _, _, _, _, _, _, _, _, _, _, _]) ?_
        refine ls_val (v := .int .u64 t33.1) rfl rfl (by kernel_rfl) (fun w => by kernel_rfl) ?_
        refine ls_val (v := .int .u64 a0) rfl rfl (by kernel_rfl) (fun w => by kernel_rfl) ?_
        refine ls_val (v := .bool (decide (t33.1 = a0))) rfl rfl (by kernel_rfl) (fun w => by kernel_rfl) ?_
        refine ls_val (v := .bool (decide (t33.1 = a0))) rfl rfl (by kernel_rfl) (fun w => by kernel_rfl) ?_
        by_cases q49 : t33.1 = a0
        · replace H := ite_t q49 H
          refine ls_know (c := true) (dec_t q49) 93 (by kernel_rfl) ?_
          refine ls_on (j := 3) (t := 93) (b := true) rfl rfl (by kernel_rfl) (by kernel_rfl) ?_
          refine ls_val (v := .int .i64 t33.2.1) rfl rfl (by kernel_rfl) (fun w => by kernel_rfl) ?_
          refine ls_on (j := 3) (t := 93) (b := true) rfl rfl (by kernel_rfl) (by kernel_rfl) ?_
          refine ls_val (v := .int .u64 a0) rfl rfl (by kernel_rfl) (fun w => by kernel_rfl) ?_
          refine ls_on (j := 3) (t := 93) (b := true) rfl rfl (by kernel_rfl) (by kernel_rfl) ?_
          obtain ⟨t50, hc51, H⟩ := bind_some H
          refine ls_call (fid := 17) (vals := #[.slice none ([] : List Int).length 0, .int .u64 a0]) (X := (Option Addr × Nat)) (fun x => .slice x.1 t50.length x.2) (fun x => sput s0 0 (some (Ck.sl 5 (Value.int .u8) x.1 x.2 t50))) 3 rfl rfl (by kernel_rfl) (fun w => by kernel_rfl) (fun w hs => codec_Short.calls k1 none 0 ([] : List Int) a0 t50 w (Rd.nil _ _) (Nat.le_refl 0) hc51) ?_
          intro x52
          refine ls_on (j := 3) (t := 93) (b := true) rfl rfl (by kernel_rfl) (by kernel_rfl) ?_
          refine ls_val (v := .int .i64 (t50.length : Int)) rfl rfl (by kernel_rfl) (fun w => by kernel_rfl) ?_
          refine ls_on (j := 3) (t := 93) (b := true) rfl rfl (by kernel_rfl) (by kernel_rfl) ?_
          refine ls_val (v := .bool (decide (t33.2.1 = (t50.length : Int)))) rfl rfl (by kernel_rfl) (fun w => by kernel_rfl) ?_
          refine ls_val (v := .bool (decide (t33.2.1 = (t50.length : Int)))) rfl rfl (by kernel_rfl) (fun w => by kernel_rfl) ?_
          refine ls_val (v := .bool (decide (t33.2.1 = (t50.length : Int)))) rfl rfl (by kernel_rfl) (fun w => by kernel_rfl) ?_
          by_cases q53 : t33.2.1 = (t50.length : Int)
          · replace H := ite_t q53 H
            refine ls_know (c := true) (dec_t q53) 100 (by kernel_rfl) ?_
            refine ls_on (j := 10) (t := 100) (b := true) rfl rfl (by kernel_rfl) (by kernel_rfl) ?_
            refine ls_val (v := .int .i64 t33.2.2) rfl rfl (by kernel_rfl) (fun w => by kernel_rfl) ?_
            refine ls_on (j := 10) (t := 100) (b := true) rfl rfl (by kernel_rfl) (by kernel_rfl) ?_
            refine ls_val (v := .bool (decide (t33.2.2 = (0 : Int)))) rfl rfl (by kernel_rfl) (fun w => by kernel_rfl) ?_
            refine ls_val (v := .bool (decide (t33.2.2 = (0 : Int)))) rfl rfl (by kernel_rfl) (fun w => by kernel_rfl) ?_
            refine ls_val (v := .bool (decide (t33.2.2 = (0 : Int)))) rfl rfl (by kernel_rfl) (fun w => by kernel_rfl) ?_
            by_cases q54 : t33.2.2 = (0 : Int)
            · replace H := ite_t q54 H
              refine ls_know (c := true) (dec_t q54) 104 (by kernel_rfl) ?_
              refine ls_on (j := 14) (t := 104) (b := true) rfl rfl (by kernel_rfl) (by kernel_rfl) ?_
              refine ls_val (v := .int .i64 t33.2.1) rfl rfl (by kernel_rfl) (fun w => by kernel_rfl) ?_
              refine ls_on (j := 14) (t := 104) (b := true) rfl rfl (by kernel_rfl) (by kernel_rfl) ?_
              refine ls_val (v := .bool (decide (t33.2.1 ≥ (1 : Int)))) rfl rfl (by kernel_rfl) (fun w => by kernel_rfl) ?_
              refine ls_val (v := .bool (decide (t33.2.1 ≥ (1 : Int)))) rfl rfl (by kernel_rfl) (fun w => by kernel_rfl) ?_
              refine ls_val (v := .bool (decide (t33.2.1 ≥ (1 : Int)))) rfl rfl (by kernel_rfl) (fun w => by kernel_rfl) ?_
              by_cases q55 : t33.2.1 ≥ (1 : Int)
              · replace H := ite_t q55 H
                refine ls_know (c := true) (dec_t q55) 108 (by kernel_rfl) ?_
                refine ls_on (j := 18) (t := 108) (b := true) rfl rfl (by kernel_rfl) (by kernel_rfl) ?_
                refine ls_val (v := .string t46.1) rfl rfl (by kernel_rfl) (fun w => by kernel_rfl) ?_
                refine ls_on (j := 18) (t := 108) (b := true) rfl rfl (by kernel_rfl) (by kernel_rfl) ?_
                refine ls_val (v := .string a1) rfl rfl (by kernel_rfl) (fun w => by kernel_rfl) ?_
                refine ls_on (j := 18) (t := 108) (b := true) rfl rfl (by kernel_rfl) (by kernel_rfl) ?_
                refine ls_val (v := .bool (t46.1.toList == a1.toList)) rfl rfl (by kernel_rfl) (fun w => by kernel_rfl) ?_
                refine ls_val (v := .bool (t46.1.toList == a1.toList)) rfl rfl (by kernel_rfl) (fun w => by kernel_rfl) ?_
                refine ls_val (v := .bool (t46.1.toList == a1.toList)) rfl rfl (by kernel_rfl) (fun w => by kernel_rfl) ?_
                by_cases q56 : (t46.1.toList == a1.toList) = true
                · replace H := ite_t q56 H
                  refine ls_know (c := true) (q56) 113 (by kernel_rfl) ?_
                  refine ls_on (j := 23) (t := 113) (b := true) rfl rfl (by kernel_rfl) (by kernel_rfl) ?_
                  refine ls_val (v := .int .i64 t46.2.1) rfl rfl (by kernel_rfl) (fun w => by kernel_rfl) ?_
                  refine ls_on (j := 23) (t := 113) (b := true) rfl rfl (by kernel_rfl) (by kernel_rfl) ?_
                  refine ls_val (v := .slice x38.1 t36.length x38.2) rfl rfl (by kernel_rfl) (fun w => by kernel_rfl) ?_
                  refine ls_on (j := 23) (t := 113) (b := true) rfl rfl (by kernel_rfl) (by kernel_rfl) ?_
                  refine ls_val (v := .int .i64 (t36.length : Int)) rfl rfl (by kernel_rfl) (fun w => by kernel_rfl) ?_
                  refine ls_on (j := 23) (t := 113) (b := true) rfl rfl (by kernel_rfl) (by kernel_rfl) ?_
                  refine ls_val (v := .bool (decide (t46.2.1 = (t36.length : Int)))) rfl rfl (by kernel_rfl) (fun w => by kernel_rfl) ?_
                  refine ls_val (v := .bool (decide (t46.2.1 = (t36.length : Int)))) rfl rfl (by kernel_rfl) (fun w => by kernel_rfl) ?_
                  refine ls_val (v := .bool (decide (t46.2.1 = (t36.length : Int)))) rfl rfl (by kernel_rfl) (fun w => by kernel_rfl) ?_
                  by_cases q57 : t46.2.1 = (t36.length : Int)
                  · replace H := ite_t q57 H
                    refine ls_know (c := true) (dec_t q57) 119 (by kernel_rfl) ?_
                    refine ls_on (j := 29) (t := 119) (b := true) rfl rfl (by kernel_rfl) (by kernel_rfl) ?_
                    refine ls_val (v := .int .i64 t46.2.2) rfl rfl (by kernel_rfl) (fun w => by kernel_rfl) ?_
                    refine ls_on (j := 29) (t := 119) (b := true) rfl rfl (by kernel_rfl) (by kernel_rfl) ?_
                    refine ls_val (v := .bool (decide (t46.2.2 = (0 : Int)))) rfl rfl (by kernel_rfl) (fun w => by kernel_rfl) ?_
                    refine ls_val (v := .bool (decide (t46.2.2 = (0 : Int)))) rfl rfl (by kernel_rfl) (fun w => by kernel_rfl) ?_
                    refine ls_val (v := .bool (decide (t46.2.2 = (0 : Int)))) rfl rfl (by kernel_rfl) (fun w => by kernel_rfl) ?_
                    refine ls_end ?_
                    refine qn_then ?_
                    refine cs_ret' ?_
                    obtain rfl := Option.some.inj H
                    refine qr_end1 rfl (fun w' hs => ⟨(), rfl, ?_⟩)
                    exact hs.sub (sub_nil _)
                  · replace H := ite_f q57 H
                    refine ls_know (c := false) (dec_f q57) 119 (by kernel_rfl) ?_
                    refine ls_off (j := 29) (t := 119) (b := true) (c := false) rfl rfl (by kernel_rfl) (by kernel_rfl) rfl rfl (by kernel_rfl) ?_
                    refine ls_off (j := 29) (t := 119) (b := true) (c := false) rfl rfl (by kernel_rfl) (by kernel_rfl) rfl rfl (by kernel_rfl) ?_
                    refine ls_val (v := .bool false) rfl rfl (by kernel_rfl) (fun w => by kernel_rfl) ?_
                    refine ls_val (v := .bool false) rfl rfl (by kernel_rfl) (fun w => by kernel_rfl) ?_
                    refine ls_end ?_
                    refine qn_then ?_
                    refine cs_ret' ?_
                    obtain rfl := Option.some.inj H
                    refine qr_end1 rfl (fun w' hs => ⟨(), rfl, ?_⟩)
                    exact hs.sub (sub_nil _)
                · replace H := ite_f q56 H
                  refine ls_know (c := false) (Bool.eq_false_iff.mpr q56) 113 (by kernel_rfl) ?_
                  refine ls_off (j := 23) (t := 113) (b := true) (c := false) rfl rfl (by kernel_rfl) (by kernel_rfl) rfl rfl (by kernel_rfl) ?_
                  refine ls_off (j := 23) (t := 113) (b := true) (c := false) rfl rfl (by kernel_rfl) (by kernel_rfl) rfl rfl (by kernel_rfl) ?_
                  refine ls_off (j := 23) (t := 113) (b := true) (c := false) rfl rfl (by kernel_rfl) (by kernel_rfl) rfl rfl (by kernel_rfl) ?_
                  refine ls_off (j := 23) (t := 113) (b := true) (c := false) rfl rfl (by kernel_rfl) (by kernel_rfl) rfl rfl (by kernel_rfl) ?_
                  refine ls_val (v := .bool false) rfl rfl (by kernel_rfl) (fun w => by kernel_rfl) ?_
                  refine ls_val (v := .bool false) rfl rfl (by kernel_rfl) (fun w => by kernel_rfl) ?_
                  refine ls_off (j := 29) (t := 119) (b := true) (c := false) rfl rfl (by kernel_rfl) (by kernel_rfl) rfl rfl (by kernel_rfl) ?_
                  refine ls_off (j := 29) (t := 119) (b := true) (c := false) rfl rfl (by kernel_rfl) (by kernel_rfl) rfl rfl (by kernel_rfl) ?_
                  refine ls_val (v := .bool false) rfl rfl (by kernel_rfl) (fun w => by kernel_rfl) ?_
                  refine ls_val (v := .bool false) rfl rfl (by kernel_rfl) (fun w => by kernel_rfl) ?_
                  refine ls_end ?_
                  refine qn_then ?_
                  refine cs_ret' ?_
                  obtain rfl := Option.some.inj H
                  refine qr_end1 rfl (fun w' hs => ⟨(), rfl, ?_⟩)
                  exact hs.sub (sub_nil _)
              · replace H := ite_f q55 H
                refine ls_know (c := false) (dec_f q55) 108 (by kernel_rfl) ?_
                refine ls_off (j := 18) (t := 108) (b := true) (c := false) rfl rfl (by kernel_rfl) (by kernel_rfl) rfl rfl (by kernel_rfl) ?_
                refine ls_off (j := 18) (t := 108) (b := true) (c := false) rfl rfl (by kernel_rfl) (by kernel_rfl) rfl rfl (by kernel_rfl) ?_
                refine ls_off (j := 18) (t := 108) (b := true) (c := false) rfl rfl (by kernel_rfl) (by kernel_rfl) rfl rfl (by kernel_rfl) ?_
                refine ls_val (v := .bool false) rfl rfl (by kernel_rfl) (fun w => by kernel_rfl) ?_
                refine ls_val (v := .bool false) rfl rfl (by kernel_rfl) (fun w => by kernel_rfl) ?_
                refine ls_off (j := 23) (t := 113) (b := true) (c := false) rfl rfl (by kernel_rfl) (by kernel_rfl) rfl rfl (by kernel_rfl) ?_
                refine ls_off (j := 23) (t := 113) (b := true) (c := false) rfl rfl (by kernel_rfl) (by kernel_rfl) rfl rfl (by kernel_rfl) ?_
                refine ls_off (j := 23) (t := 113) (b := true) (c := false) rfl rfl (by kernel_rfl) (by kernel_rfl) rfl rfl (by kernel_rfl) ?_
                refine ls_off (j := 23) (t := 113) (b := true) (c := false) rfl rfl (by kernel_rfl) (by kernel_rfl) rfl rfl (by kernel_rfl) ?_
                refine ls_val (v := .bool false) rfl rfl (by kernel_rfl) (fun w => by kernel_rfl) ?_
                refine ls_val (v := .bool false) rfl rfl (by kernel_rfl) (fun w => by kernel_rfl) ?_
                refine ls_off (j := 29) (t := 119) (b := true) (c := false) rfl rfl (by kernel_rfl) (by kernel_rfl) rfl rfl (by kernel_rfl) ?_
                refine ls_off (j := 29) (t := 119) (b := true) (c := false) rfl rfl (by kernel_rfl) (by kernel_rfl) rfl rfl (by kernel_rfl) ?_
                refine ls_val (v := .bool false) rfl rfl (by kernel_rfl) (fun w => by kernel_rfl) ?_
                refine ls_val (v := .bool false) rfl rfl (by kernel_rfl) (fun w => by kernel_rfl) ?_
                refine ls_end ?_
                refine qn_then ?_
                refine cs_ret' ?_
                obtain rfl := Option.some.inj H
                refine qr_end1 rfl (fun w' hs => ⟨(), rfl, ?_⟩)
                exact hs.sub (sub_nil _)
            · replace H := ite_f q54 H
              refine ls_know (c := false) (dec_f q54) 104 (by kernel_rfl) ?_
              refine ls_off (j := 14) (t := 104) (b := true) (c := false) rfl rfl (by kernel_rfl) (by kernel_rfl) rfl rfl (by kernel_rfl) ?_
              refine ls_off (j := 14) (t := 104) (b := true) (c := false) rfl rfl (by kernel_rfl) (by kernel_rfl) rfl rfl (by kernel_rfl) ?_
              refine ls_val (v := .bool false) rfl rfl (by kernel_rfl) (fun w => by kernel_rfl) ?_
              refine ls_val (v := .bool false) rfl rfl (by kernel_rfl) (fun w => by kernel_rfl) ?_
              refine ls_off (j := 18) (t := 108) (b := true) (c := false) rfl rfl (by kernel_rfl) (by kernel_rfl) rfl rfl (by kernel_rfl) ?_
              refine ls_off (j := 18) (t := 108) (b := true) (c := false) rfl rfl (by kernel_rfl) (by kernel_rfl) rfl rfl (by kernel_rfl) ?_
              refine ls_off (j := 18) (t := 108) (b := true) (c := false) rfl rfl (by kernel_rfl) (by kernel_rfl) rfl rfl (by kernel_rfl) ?_
              refine ls_val (v := .bool false) rfl rfl (by kernel_rfl) (fun w => by kernel_rfl) ?_
              refine ls_val (v := .bool false) rfl rfl (by kernel_rfl) (fun w => by kernel_rfl) ?_
              refine ls_off (j := 23) (t := 113) (b := true) (c := false) rfl rfl (by kernel_rfl) (by kernel_rfl) rfl rfl (by kernel_rfl) ?_
              refine ls_off (j := 23) (t := 113) (b := true) (c := false) rfl rfl (by kernel_rfl) (by kernel_rfl) rfl rfl (by kernel_rfl) ?_
              refine ls_off (j := 23) (t := 113) (b := true) (c := false) rfl rfl (by kernel_rfl) (by kernel_rfl) rfl rfl (by kernel_rfl) ?_
              refine ls_off (j := 23) (t := 113) (b := true) (c := false) rfl rfl (by kernel_rfl) (by kernel_rfl) rfl rfl (by kernel_rfl) ?_
              refine ls_val (v := .bool false) rfl rfl (by kernel_rfl) (fun w => by kernel_rfl) ?_
              refine ls_val (v := .bool false) rfl rfl (by kernel_rfl) (fun w => by kernel_rfl) ?_
              refine ls_off (j := 29) (t := 119) (b := true) (c := false) rfl rfl (by kernel_rfl) (by kernel_rfl) rfl rfl (by kernel_rfl) ?_
              refine ls_off (j := 29) (t := 119) (b := true) (c := false) rfl rfl (by kernel_rfl) (by kernel_rfl) rfl rfl (by kernel_rfl) ?_
              refine ls_val (v := .bool false) rfl rfl (by kernel_rfl) (fun w => by kernel_rfl) ?_
              refine ls_val (v := .bool false) rfl rfl (by kernel_rfl) (fun w => by kernel_rfl) ?_
              refine ls_end ?_
              refine qn_then ?_
              refine cs_ret' ?_
              obtain rfl := Option.some.inj H
              refine qr_end1 rfl (fun w' hs => ⟨(), rfl, ?_⟩)
              exact hs.sub (sub_nil _)
          · replace H := ite_f q53 H
            refine ls_know (c := false) (dec_f q53) 100 (by kernel_rfl) ?_
            refine ls_off (j := 10) (t := 100) (b := true) (c := false) rfl rfl (by kernel_rfl) (by kernel_rfl) rfl rfl (by kernel_rfl) ?_
            refine ls_off (j := 10) (t := 100) (b := true) (c := false) rfl rfl (by kernel_rfl) (by kernel_rfl) rfl rfl (by kernel_rfl) ?_
            refine ls_val (v := .bool false) rfl rfl (by kernel_rfl) (fun w => by kernel_rfl) ?_
            refine ls_val (v := .bool false) rfl rfl (by kernel_rfl) (fun w => by kernel_rfl) ?_
            refine ls_off (j := 14) (t := 104) (b := true) (c := false) rfl rfl (by kernel_rfl) (by kernel_rfl) rfl rfl (by kernel_rfl) ?_
            refine ls_off (j := 14) (t := 104) (b := true) (c := false) rfl rfl (by kernel_rfl) (by kernel_rfl) rfl rfl (by kernel_rfl) ?_
            refine ls_val (v := .bool false) rfl rfl (by kernel_rfl) (fun w => by kernel_rfl) ?_
            refine ls_val (v := .bool false) rfl rfl (by kernel_rfl) (fun w => by kernel_rfl) ?_
            refine ls_off (j := 18) (t := 108) (b := true) (c := false) rfl rfl (by kernel_rfl) (by kernel_rfl) rfl rfl (by kernel_rfl) ?_
            refine ls_off (j := 18) (t := 108) (b := true) (c := false) rfl rfl (by kernel_rfl) (by kernel_rfl) rfl rfl (by kernel_rfl) ?_
            refine ls_off (j := 18) (t := 108) (b := true) (c := false) rfl rfl (by kernel_rfl) (by kernel_rfl) rfl rfl (by kernel_rfl) ?_
            refine ls_val (v := .bool false) rfl rfl (by kernel_rfl) (fun w => by kernel_rfl) ?_
            refine ls_val (v := .bool false) rfl rfl (by kernel_rfl) (fun w => by kernel_rfl) ?_
            refine ls_off (j := 23) (t := 113) (b := true) (c := false) rfl rfl (by kernel_rfl) (by kernel_rfl) rfl rfl (by kernel_rfl) ?_
            refine ls_off (j := 23) (t := 113) (b := true) (c := false) rfl rfl (by kernel_rfl) (by kernel_rfl) rfl rfl (by kernel_rfl) ?_
            refine ls_off (j := 23) (t := 113) (b := true) (c := false) rfl rfl (by kernel_rfl) (by kernel_rfl) rfl rfl (by kernel_rfl) ?_
            refine ls_off (j := 23) (t := 113) (b := true) (c := false) rfl rfl (by kernel_rfl) (by kernel_rfl) rfl rfl (by kernel_rfl) ?_
            refine ls_val (v := .bool false) rfl rfl (by kernel_rfl) (fun w => by kernel_rfl) ?_
            refine ls_val (v := .bool false) rfl rfl (by kernel_rfl) (fun w => by kernel_rfl) ?_
            refine ls_off (j := 29) (t := 119) (b := true) (c := false) rfl rfl (by kernel_rfl) (by kernel_rfl) rfl rfl (by kernel_rfl) ?_
            refine ls_off (j := 29) (t := 119) (b := true) (c := false) rfl rfl (by kernel_rfl) (by kernel_rfl) rfl rfl (by kernel_rfl) ?_
            refine ls_val (v := .bool false) rfl rfl (by kernel_rfl) (fun w => by kernel_rfl) ?_
            refine ls_val (v := .bool false) rfl rfl (by kernel_rfl) (fun w => by kernel_rfl) ?_
            refine ls_end ?_
            refine qn_then ?_
            refine cs_ret' ?_
            obtain rfl := Option.some.inj H
            refine qr_end1 rfl (fun w' hs => ⟨(), rfl, ?_⟩)
            exact hs.sub (sub_nil _)
        · replace H := ite_f q49 H
          refine ls_know (c := false) (dec_f q49) 93 (by kernel_rfl) ?_
          refine ls_off (j := 3) (t := 93) (b := true) (c := false) rfl rfl (by kernel_rfl) (by kernel_rfl) rfl rfl (by kernel_rfl) ?_
          refine ls_off (j := 3) (t := 93) (b := true) (c := false) rfl rfl (by kernel_rfl) (by kernel_rfl) rfl rfl (by kernel_rfl) ?_
          refine ls_off (j := 3) (t := 93) (b := true) (c := false) rfl rfl (by kernel_rfl) (by kernel_rfl) rfl rfl (by kernel_rfl) ?_
          refine ls_off (j := 3) (t := 93) (b := true) (c := false) rfl rfl (by kernel_rfl) (by kernel_rfl) rfl rfl (by kernel_rfl) ?_
          refine ls_off (j := 3) (t := 93) (b := true) (c := false) rfl rfl (by kernel_rfl) (by kernel_rfl) rfl rfl (by kernel_rfl) ?_
          refine ls_val (v := .bool false) rfl rfl (by kernel_rfl) (fun w => by kernel_rfl) ?_
          refine ls_val (v := .bool false) rfl rfl (by kernel_rfl) (fun w => by kernel_rfl) ?_
          refine ls_off (j := 10) (t := 100) (b := true) (c := false) rfl rfl (by kernel_rfl) (by kernel_rfl) rfl rfl (by kernel_rfl) ?_
          refine ls_off (j := 10) (t := 100) (b := true) (c := false) rfl rfl (by kernel_rfl) (by kernel_rfl) rfl rfl (by kernel_rfl) ?_
          refine ls_val (v := .bool false) rfl rfl (by kernel_rfl) (fun w => by kernel_rfl) ?_
          refine ls_val (v := .bool false) rfl rfl (by kernel_rfl) (fun w => by kernel_rfl) ?_
          refine ls_off (j := 14) (t := 104) (b := true) (c := false) rfl rfl (by kernel_rfl) (by kernel_rfl) rfl rfl (by kernel_rfl) ?_
          refine ls_off (j := 14) (t := 104) (b := true) (c := false) rfl rfl (by kernel_rfl) (by kernel_rfl) rfl rfl (by kernel_rfl) ?_
          refine ls_val (v := .bool false) rfl rfl (by kernel_rfl) (fun w => by kernel_rfl) ?_
          refine ls_val (v := .bool false) rfl rfl (by kernel_rfl) (fun w => by kernel_rfl) ?_
          refine ls_off (j := 18) (t := 108) (b := true) (c := false) rfl rfl (by kernel_rfl) (by kernel_rfl) rfl rfl (by kernel_rfl) ?_
          refine ls_off (j := 18) (t := 108) (b := true) (c := false) rfl rfl (by kernel_rfl) (by kernel_rfl) rfl rfl (by kernel_rfl) ?_
          refine ls_off (j := 18) (t := 108) (b := true) (c := false) rfl rfl (by kernel_rfl) (by kernel_rfl) rfl rfl (by kernel_rfl) ?_
          refine ls_val (v := .bool false) rfl rfl (by kernel_rfl) (fun w => by kernel_rfl) ?_
          refine ls_val (v := .bool false) rfl rfl (by kernel_rfl) (fun w => by kernel_rfl) ?_
          refine ls_off (j := 23) (t := 113) (b := true) (c := false) rfl rfl (by kernel_rfl) (by kernel_rfl) rfl rfl (by kernel_rfl) ?_
          refine ls_off (j := 23) (t := 113) (b := true) (c := false) rfl rfl (by kernel_rfl) (by kernel_rfl) rfl rfl (by kernel_rfl) ?_
          refine ls_off (j := 23) (t := 113) (b := true) (c := false) rfl rfl (by kernel_rfl) (by kernel_rfl) rfl rfl (by kernel_rfl) ?_
          refine ls_off (j := 23) (t := 113) (b := true) (c := false) rfl rfl (by kernel_rfl) (by kernel_rfl) rfl rfl (by kernel_rfl) ?_
          refine ls_val (v := .bool false) rfl rfl (by kernel_rfl) (fun w => by kernel_rfl) ?_
          refine ls_val (v := .bool false) rfl rfl (by kernel_rfl) (fun w => by kernel_rfl) ?_
          refine ls_off (j := 29) (t := 119) (b := true) (c := false) rfl rfl (by kernel_rfl) (by kernel_rfl) rfl rfl (by kernel_rfl) ?_
          refine ls_off (j := 29) (t := 119) (b := true) (c := false) rfl rfl (by kernel_rfl) (by kernel_rfl) rfl rfl (by kernel_rfl) ?_
          refine ls_val (v := .bool false) rfl rfl (by kernel_rfl) (fun w => by kernel_rfl) ?_
          refine ls_val (v := .bool false) rfl rfl (by kernel_rfl) (fun w => by kernel_rfl) ?_
          refine ls_end ?_
          refine qn_then ?_
          refine cs_ret' ?_
          obtain rfl := Option.some.inj H
          refine qr_end1 rfl (fun w' hs => ⟨(), rfl, ?_⟩)
          exact hs.sub (sub_nil _)

end Go.Proofs.Ytknjphpfofbdiaa.G
