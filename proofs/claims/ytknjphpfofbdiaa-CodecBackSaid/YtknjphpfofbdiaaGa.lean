/- Printed by a program of this session (sx.py): plain functions, and walks that show that the code comes to them; no condition. -/
import Derived.Test.YtknjphpfofbdiaaProg
import Derived.Test.YtknjphpfofbdiaaSx
set_option linter.unusedVariables false
namespace Go.Proofs.Ytknjphpfofbdiaa.G
open Go Go.RowKit Go.Proofs.Ytknjphpfofbdiaa.Sx

/-! ### shadowbox/codec.Zig: function 9 -/
def codec_Zig.f (k : Nat) (a0 : Int) : Option (Int) :=
  lt (IntKind.wrap .u64 ((IntKind.wrap .u64 a0) * 2)) fun y1 => lt (IntKind.wrap .u64 (Int.fdiv a0 9223372036854775808)) fun y3 => some (bits .xor .u64 y1 y3)
set_option maxRecDepth 100000 in
set_option maxHeartbeats 4000000 in
theorem codec_Zig.calls (k : Nat) (a0 : Int) (r : Int) (w : World) (H : codec_Zig.f k a0 = some r) :
    Calls Try.prog 9 #[.int .i64 a0] w fun e w' => ∃ x : Unit, e = .returned (.int .u64 r) ∧ St w s0 w' := by
  unfold codec_Zig.f at H
  refine enter (n := 10) Try.func9 rfl (by kernel_rfl) (by kernel_rfl) ?_
  refine cs_seq ?_
  refine cs_region (l := [_]) ?_
  refine ls_val (v := .int .u64 (0 : Int)) rfl rfl (by kernel_rfl) (fun w => by kernel_rfl) ?_
  refine ls_end ?_
  refine qn_then ?_
  refine cs_seq ?_
  refine cs_region (l := [_, _, _, _, _, _, _, _]) ?_
  refine ls_val (v := .int .i64 a0) rfl rfl (by kernel_rfl) (fun w => by kernel_rfl) ?_
  refine ls_val (v := .int .u64 (IntKind.wrap .u64 a0)) rfl rfl (by kernel_rfl) (fun w => by kernel_rfl) ?_
  obtain ⟨y1, hy2, H⟩ := lt_some H
  refine ls_val (v := .int .u64 (IntKind.wrap .u64 ((IntKind.wrap .u64 a0) * 2))) rfl rfl (by kernel_rfl) (fun w => by kernel_rfl) ?_
  refine ls_ren 5 (v := .int .u64 (IntKind.wrap .u64 ((IntKind.wrap .u64 a0) * 2))) (v' := .int .u64 y1) (by kernel_rfl) (by rw [hy2]) ?_
  refine ls_val (v := .int .i64 a0) rfl rfl (by kernel_rfl) (fun w => by kernel_rfl) ?_
  refine ls_val (v := .int .i64 (Int.fdiv a0 9223372036854775808)) rfl rfl (by kernel_rfl) (fun w => by kernel_rfl) ?_
  obtain ⟨y3, hy4, H⟩ := lt_some H
  refine ls_val (v := .int .u64 (IntKind.wrap .u64 (Int.fdiv a0 9223372036854775808))) rfl rfl (by kernel_rfl) (fun w => by kernel_rfl) ?_
  refine ls_ren 8 (v := .int .u64 (IntKind.wrap .u64 (Int.fdiv a0 9223372036854775808))) (v' := .int .u64 y3) (by kernel_rfl) (by rw [hy4]) ?_
  refine ls_val (v := .int .u64 (bits .xor .u64 y1 y3)) rfl rfl (by kernel_rfl) (fun w => by kernel_rfl) ?_
  refine ls_val (v := .int .u64 (bits .xor .u64 y1 y3)) rfl rfl (by kernel_rfl) (fun w => by kernel_rfl) ?_
  refine ls_end ?_
  refine qn_then ?_
  refine cs_ret' ?_
  obtain rfl := Option.some.inj H
  refine qr_end1 rfl (fun w' hs => ⟨(), rfl, ?_⟩)
  exact hs.sub (sub_nil _)

/-! ### shadowbox/codec.Zag: function 10 -/
def codec_Zag.f (k : Nat) (a0 : Int) : Option (Int) :=
  lt (IntKind.wrap .i64 (bits .and .u64 a0 (1 : Int))) fun y1 => lt (bits .xor .i64 (IntKind.wrap .i64 (Int.fdiv a0 2)) (IntKind.wrap .i64 (0 - y1))) fun y3 => some y3
set_option maxRecDepth 100000 in
set_option maxHeartbeats 4000000 in
theorem codec_Zag.calls (k : Nat) (a0 : Int) (r : Int) (w : World) (H : codec_Zag.f k a0 = some r) :
    Calls Try.prog 10 #[.int .u64 a0] w fun e w' => ∃ x : Unit, e = .returned (.int .i64 r) ∧ St w s0 w' := by
  unfold codec_Zag.f at H
  refine enter (n := 11) Try.func10 rfl (by kernel_rfl) (by kernel_rfl) ?_
  refine cs_seq ?_
  refine cs_region (l := [_]) ?_
  refine ls_val (v := .int .i64 (0 : Int)) rfl rfl (by kernel_rfl) (fun w => by kernel_rfl) ?_
  refine ls_end ?_
  refine qn_then ?_
  refine cs_seq ?_
  refine cs_region (l := [_, _, _, _, _, _, _, _, _]) ?_
  refine ls_val (v := .int .u64 a0) rfl rfl (by kernel_rfl) (fun w => by kernel_rfl) ?_
  refine ls_val (v := .int .u64 (Int.fdiv a0 2)) rfl rfl (by kernel_rfl) (fun w => by kernel_rfl) ?_
  refine ls_val (v := .int .i64 (IntKind.wrap .i64 (Int.fdiv a0 2))) rfl rfl (by kernel_rfl) (fun w => by kernel_rfl) ?_
  refine ls_val (v := .int .u64 a0) rfl rfl (by kernel_rfl) (fun w => by kernel_rfl) ?_
  refine ls_val (v := .int .u64 (bits .and .u64 a0 (1 : Int))) rfl rfl (by kernel_rfl) (fun w => by kernel_rfl) ?_
  obtain ⟨y1, hy2, H⟩ := lt_some H
  refine ls_val (v := .int .i64 (IntKind.wrap .i64 (bits .and .u64 a0 (1 : Int)))) rfl rfl (by kernel_rfl) (fun w => by kernel_rfl) ?_
  refine ls_ren 8 (v := .int .i64 (IntKind.wrap .i64 (bits .and .u64 a0 (1 : Int)))) (v' := .int .i64 y1) (by kernel_rfl) (by rw [hy2]) ?_
  refine ls_val (v := .int .i64 (IntKind.wrap .i64 (0 - y1))) rfl rfl (by kernel_rfl) (fun w => by kernel_rfl) ?_
  obtain ⟨y3, hy4, H⟩ := lt_some H
  refine ls_val (v := .int .i64 (bits .xor .i64 (IntKind.wrap .i64 (Int.fdiv a0 2)) (IntKind.wrap .i64 (0 - y1)))) rfl rfl (by kernel_rfl) (fun w => by kernel_rfl) ?_
  refine ls_ren 10 (v := .int .i64 (bits .xor .i64 (IntKind.wrap .i64 (Int.fdiv a0 2)) (IntKind.wrap .i64 (0 - y1)))) (v' := .int .i64 y3) (by kernel_rfl) (by rw [hy4]) ?_
  refine ls_val (v := .int .i64 y3) rfl rfl (by kernel_rfl) (fun w => by kernel_rfl) ?_
  refine ls_end ?_
  refine qn_then ?_
  refine cs_ret' ?_
  obtain rfl := Option.some.inj H
  refine qr_end1 rfl (fun w' hs => ⟨(), rfl, ?_⟩)
  exact hs.sub (sub_nil _)

/-! ### shadowbox/shadowboxref01.Zig: function 23 -/
def shadowboxref01_Zig.f (k : Nat) (a0 : Int) : Option (Int) :=
  (if a0 ≥ (0 : Int) then lt (IntKind.wrap .u64 ((2 : Int) * (IntKind.wrap .u64 a0))) fun y2 => some y2 else lt (IntKind.wrap .i64 (0 - (IntKind.wrap .i64 (a0 + (1 : Int))))) fun y4 => lt (IntKind.wrap .u64 ((2 : Int) * (IntKind.wrap .u64 y4))) fun y6 => some (IntKind.wrap .u64 (y6 + (1 : Int))))
set_option maxRecDepth 100000 in
set_option maxHeartbeats 4000000 in
theorem shadowboxref01_Zig.calls (k : Nat) (a0 : Int) (r : Int) (w : World) (H : shadowboxref01_Zig.f k a0 = some r) :
    Calls Try.prog 23 #[.int .i64 a0] w fun e w' => ∃ x : Unit, e = .returned (.int .u64 r) ∧ St w s0 w' := by
  unfold shadowboxref01_Zig.f at H
  refine enter (n := 14) Try.func23 rfl (by kernel_rfl) (by kernel_rfl) ?_
  refine cs_seq ?_
  refine cs_region (l := [_]) ?_
  refine ls_val (v := .int .u64 (0 : Int)) rfl rfl (by kernel_rfl) (fun w => by kernel_rfl) ?_
  refine ls_end ?_
  refine qn_then ?_
  refine cs_seq ?_
  refine cs_seq ?_
  refine cs_region (l := [_, _]) ?_
  refine ls_val (v := .int .i64 a0) rfl rfl (by kernel_rfl) (fun w => by kernel_rfl) ?_
  refine ls_val (v := .bool (decide (a0 ≥ (0 : Int)))) rfl rfl (by kernel_rfl) (fun w => by kernel_rfl) ?_
  refine ls_end ?_
  refine qn_then ?_
  by_cases q1 : a0 ≥ (0 : Int)
  · replace H := ite_t q1 H
    refine cs_know (c := true) (dec_t q1) 4 (by kernel_rfl) ?_
    refine cs_true (by kernel_rfl) ?_
    refine cs_seq ?_
    refine cs_region (l := [_, _, _, _]) ?_
    refine ls_val (v := .int .i64 a0) rfl rfl (by kernel_rfl) (fun w => by kernel_rfl) ?_
    refine ls_val (v := .int .u64 (IntKind.wrap .u64 a0)) rfl rfl (by kernel_rfl) (fun w => by kernel_rfl) ?_
    obtain ⟨y2, hy3, H⟩ := lt_some H
    refine ls_val (v := .int .u64 (IntKind.wrap .u64 ((2 : Int) * (IntKind.wrap .u64 a0)))) rfl rfl (by kernel_rfl) (fun w => by kernel_rfl) ?_
    refine ls_ren 7 (v := .int .u64 (IntKind.wrap .u64 ((2 : Int) * (IntKind.wrap .u64 a0)))) (v' := .int .u64 y2) (by kernel_rfl) (by rw [hy3]) ?_
    refine ls_val (v := .int .u64 y2) rfl rfl (by kernel_rfl) (fun w => by kernel_rfl) ?_
    refine ls_end ?_
    refine qn_then ?_
    refine cs_ret' ?_
    refine qr_then ?_
    obtain rfl := Option.some.inj H
    refine qr_end1 rfl (fun w' hs => ⟨(), rfl, ?_⟩)
    exact hs.sub (sub_nil _)
  · replace H := ite_f q1 H
    refine cs_know (c := false) (dec_f q1) 4 (by kernel_rfl) ?_
    refine cs_false (by kernel_rfl) ?_
    refine cs_skip' ?_
    refine qn_then ?_
    refine cs_seq ?_
    refine cs_region (l := [_, _, _, _, _, _, _]) ?_
    refine ls_val (v := .int .i64 a0) rfl rfl (by kernel_rfl) (fun w => by kernel_rfl) ?_
    refine ls_val (v := .int .i64 (IntKind.wrap .i64 (a0 + (1 : Int)))) rfl rfl (by kernel_rfl) (fun w => by kernel_rfl) ?_
    obtain ⟨y4, hy5, H⟩ := lt_some H
    refine ls_val (v := .int .i64 (IntKind.wrap .i64 (0 - (IntKind.wrap .i64 (a0 + (1 : Int)))))) rfl rfl (by kernel_rfl) (fun w => by kernel_rfl) ?_
    refine ls_ren 10 (v := .int .i64 (IntKind.wrap .i64 (0 - (IntKind.wrap .i64 (a0 + (1 : Int)))))) (v' := .int .i64 y4) (by kernel_rfl) (by rw [hy5]) ?_
    refine ls_val (v := .int .u64 (IntKind.wrap .u64 y4)) rfl rfl (by kernel_rfl) (fun w => by kernel_rfl) ?_
    obtain ⟨y6, hy7, H⟩ := lt_some H
    refine ls_val (v := .int .u64 (IntKind.wrap .u64 ((2 : Int) * (IntKind.wrap .u64 y4)))) rfl rfl (by kernel_rfl) (fun w => by kernel_rfl) ?_
    refine ls_ren 12 (v := .int .u64 (IntKind.wrap .u64 ((2 : Int) * (IntKind.wrap .u64 y4)))) (v' := .int .u64 y6) (by kernel_rfl) (by rw [hy7]) ?_
    refine ls_val (v := .int .u64 (IntKind.wrap .u64 (y6 + (1 : Int)))) rfl rfl (by kernel_rfl) (fun w => by kernel_rfl) ?_
    refine ls_val (v := .int .u64 (IntKind.wrap .u64 (y6 + (1 : Int)))) rfl rfl (by kernel_rfl) (fun w => by kernel_rfl) ?_
    refine ls_end ?_
    refine qn_then ?_
    refine cs_ret' ?_
    obtain rfl := Option.some.inj H
    refine qr_end1 rfl (fun w' hs => ⟨(), rfl, ?_⟩)
    exact hs.sub (sub_nil _)

/-! ### shadowbox/codec.ReadShort$1: function 24 -/
def codec_ReadShort_1.f (k : Nat) (a0 : Int) : Option (Int × Int × Int) :=
  some ((0 : Int), (0 : Int), a0)
set_option maxRecDepth 100000 in
set_option maxHeartbeats 4000000 in
theorem codec_ReadShort_1.calls (k : Nat) (a0 : Int) (r : Int × Int × Int) (w : World) (H : codec_ReadShort_1.f k a0 = some r) :
    Calls Try.prog 24 #[.int .i64 a0] w fun e w' => ∃ x : Unit, e = .returned (.tuple #[.int .u64 r.1, .int .i64 r.2.1, .int .i64 r.2.2]) ∧ St w s0 w' := by
  unfold codec_ReadShort_1.f at H
  refine enter (n := 6) Try.func24 rfl (by kernel_rfl) (by kernel_rfl) ?_
  refine cs_seq ?_
  refine cs_region (l := [_, _, _]) ?_
  refine ls_val (v := .int .u64 (0 : Int)) rfl rfl (by kernel_rfl) (fun w => by kernel_rfl) ?_
  refine ls_val (v := .int .i64 (0 : Int)) rfl rfl (by kernel_rfl) (fun w => by kernel_rfl) ?_
  refine ls_val (v := .int .i64 (0 : Int)) rfl rfl (by kernel_rfl) (fun w => by kernel_rfl) ?_
  refine ls_end ?_
  refine qn_then ?_
  refine cs_seq ?_
  refine cs_region (l := [_, _, _, _]) ?_
  refine ls_val (v := .int .i64 a0) rfl rfl (by kernel_rfl) (fun w => by kernel_rfl) ?_
  refine ls_val (v := .int .u64 (0 : Int)) rfl rfl (by kernel_rfl) (fun w => by kernel_rfl) ?_
  refine ls_val (v := .int .i64 (0 : Int)) rfl rfl (by kernel_rfl) (fun w => by kernel_rfl) ?_
  refine ls_val (v := .int .i64 a0) rfl rfl (by kernel_rfl) (fun w => by kernel_rfl) ?_
  refine ls_end ?_
  refine qn_then ?_
  refine cs_ret' ?_
  obtain rfl := Option.some.inj H
  refine qr_end3 rfl (fun w' hs => ⟨(), rfl, ?_⟩)
  exact hs.sub (sub_nil _)

/-! ### math/bits.Len64: function 25 -/
def bits_Len64.cst0 : ByteArray := (⟨#[0, 1, 2, 2, 3, 3, 3, 3, 4, 4, 4, 4, 4, 4, 4, 4, 5, 5, 5, 5, 5, 5, 5, 5, 5, 5, 5, 5, 5, 5, 5, 5, 6, 6, 6, 6, 6, 6, 6, 6, 6, 6, 6, 6, 6, 6, 6, 6, 6, 6, 6, 6, 6, 6, 6, 6, 6, 6, 6, 6, 6, 6, 6, 6, 7, 7, 7, 7, 7, 7, 7, 7, 7, 7, 7, 7, 7, 7, 7, 7, 7, 7, 7, 7, 7, 7, 7, 7, 7, 7, 7, 7, 7, 7, 7, 7, 7, 7, 7, 7, 7, 7, 7, 7, 7, 7, 7, 7, 7, 7, 7, 7, 7, 7, 7, 7, 7, 7, 7, 7, 7, 7, 7, 7, 7, 7, 7, 7, 8, 8, 8, 8, 8, 8, 8, 8, 8, 8, 8, 8, 8, 8, 8, 8, 8, 8, 8, 8, 8, 8, 8, 8, 8, 8, 8, 8, 8, 8, 8, 8, 8, 8, 8, 8, 8, 8, 8, 8, 8, 8, 8, 8, 8, 8, 8, 8, 8, 8, 8, 8, 8, 8, 8, 8, 8, 8, 8, 8, 8, 8, 8, 8, 8, 8, 8, 8, 8, 8, 8, 8, 8, 8, 8, 8, 8, 8, 8, 8, 8, 8, 8, 8, 8, 8, 8, 8, 8, 8, 8, 8, 8, 8, 8, 8, 8, 8, 8, 8, 8, 8, 8, 8, 8, 8, 8, 8, 8, 8, 8, 8, 8, 8, 8, 8, 8, 8, 8, 8, 8, 8, 8, 8, 8, 8, 8, 8]⟩ : ByteArray)
def bits_Len64.f (k : Nat) (a0 : Int) : Option (Int) :=
  (if a0 ≥ (4294967296 : Int) then (if (Int.fdiv a0 4294967296) ≥ (65536 : Int) then lt (IntKind.wrap .i64 ((32 : Int) + (16 : Int))) fun y3 => (if (Int.fdiv (Int.fdiv a0 4294967296) 65536) ≥ (256 : Int) then lt (Int.fdiv (Int.fdiv (Int.fdiv a0 4294967296) 65536) 256) fun y6 => (if 0 ≤ IntKind.wrap .u8 y6 then (if IntKind.wrap .u8 y6 < (bits_Len64.cst0.size : Int) then lt (IntKind.wrap .i64 (bt bits_Len64.cst0 (IntKind.wrap .u8 y6))) fun y10 => lt (IntKind.wrap .i64 ((IntKind.wrap .i64 (y3 + (8 : Int))) + y10)) fun y12 => some y12 else none) else none) else lt (IntKind.wrap .u8 (Int.fdiv (Int.fdiv a0 4294967296) 65536)) fun y14 => (if 0 ≤ y14 then (if y14 < (bits_Len64.cst0.size : Int) then lt (IntKind.wrap .i64 (bt bits_Len64.cst0 y14)) fun y18 => some (IntKind.wrap .i64 (y3 + y18)) else none) else none)) else (if (Int.fdiv a0 4294967296) ≥ (256 : Int) then lt (IntKind.wrap .i64 ((32 : Int) + (8 : Int))) fun y21 => lt (IntKind.wrap .u8 (Int.fdiv (Int.fdiv a0 4294967296) 256)) fun y23 => (if 0 ≤ y23 then (if y23 < (bits_Len64.cst0.size : Int) then lt (IntKind.wrap .i64 (bt bits_Len64.cst0 y23)) fun y27 => some (IntKind.wrap .i64 (y21 + y27)) else none) else none) else lt (IntKind.wrap .u8 (Int.fdiv a0 4294967296)) fun y29 => (if 0 ≤ y29 then (if y29 < (bits_Len64.cst0.size : Int) then lt (IntKind.wrap .i64 (bt bits_Len64.cst0 y29)) fun y33 => some (IntKind.wrap .i64 ((32 : Int) + y33)) else none) else none))) else (if a0 ≥ (65536 : Int) then lt (IntKind.wrap .i64 ((0 : Int) + (16 : Int))) fun y36 => (if (Int.fdiv a0 65536) ≥ (256 : Int) then lt (IntKind.wrap .u8 (Int.fdiv (Int.fdiv a0 65536) 256)) fun y39 => (if 0 ≤ y39 then (if y39 < (bits_Len64.cst0.size : Int) then lt (IntKind.wrap .i64 (bt bits_Len64.cst0 y39)) fun y43 => lt (IntKind.wrap .i64 ((IntKind.wrap .i64 (y36 + (8 : Int))) + y43)) fun y45 => some y45 else none) else none) else (if 0 ≤ IntKind.wrap .u8 (Int.fdiv a0 65536) then (if IntKind.wrap .u8 (Int.fdiv a0 65536) < (bits_Len64.cst0.size : Int) then lt (bt bits_Len64.cst0 (IntKind.wrap .u8 (Int.fdiv a0 65536))) fun y49 => lt (IntKind.wrap .i64 (y36 + (IntKind.wrap .i64 y49))) fun y51 => some y51 else none) else none)) else (if a0 ≥ (256 : Int) then lt (IntKind.wrap .i64 ((0 : Int) + (8 : Int))) fun y54 => (if 0 ≤ IntKind.wrap .u8 (Int.fdiv a0 256) then (if IntKind.wrap .u8 (Int.fdiv a0 256) < (bits_Len64.cst0.size : Int) then lt (bt bits_Len64.cst0 (IntKind.wrap .u8 (Int.fdiv a0 256))) fun y58 => lt (IntKind.wrap .i64 (y54 + (IntKind.wrap .i64 y58))) fun y60 => some y60 else none) else none) else (if 0 ≤ IntKind.wrap .u8 a0 then (if IntKind.wrap .u8 a0 < (bits_Len64.cst0.size : Int) then lt (IntKind.wrap .i64 (bt bits_Len64.cst0 (IntKind.wrap .u8 a0))) fun y64 => some (IntKind.wrap .i64 ((0 : Int) + y64)) else none) else none))))
set_option maxRecDepth 100000 in
set_option maxHeartbeats 4000000 in
theorem bits_Len64.calls (k : Nat) (a0 : Int) (r : Int) (w : World) (H : bits_Len64.f k a0 = some r) :
    Calls Try.prog 25 #[.int .u64 a0] w fun e w' => ∃ x : Unit, e = .returned (.int .i64 r) ∧ St w s0 w' := by
  unfold bits_Len64.f at H
  refine enter (n := 25) Try.func25 rfl (by kernel_rfl) (by kernel_rfl) ?_
  refine cs_seq ?_
  refine cs_region (l := [_]) ?_
  refine ls_val (v := .int .i64 (0 : Int)) rfl rfl (by kernel_rfl) (fun w => by kernel_rfl) ?_
  refine ls_end ?_
  refine qn_then ?_
  refine cs_seq ?_
  refine cs_seq ?_
  refine cs_region (l := [_, _]) ?_
  refine ls_val (v := .int .u64 a0) rfl rfl (by kernel_rfl) (fun w => by kernel_rfl) ?_
  refine ls_val (v := .bool (decide (a0 ≥ (4294967296 : Int)))) rfl rfl (by kernel_rfl) (fun w => by kernel_rfl) ?_
  refine ls_end ?_
  refine qn_then ?_
  by_cases q1 : a0 ≥ (4294967296 : Int)
  · replace H := ite_t q1 H
    refine cs_know (c := true) (dec_t q1) 4 (by kernel_rfl) ?_
    refine cs_true (by kernel_rfl) ?_
    refine cs_seq ?_
    refine cs_region (l := [_, _, _]) ?_
    refine ls_val (v := .int .u64 a0) rfl rfl (by kernel_rfl) (fun w => by kernel_rfl) ?_
    refine ls_val (v := .int .u64 (Int.fdiv a0 4294967296)) rfl rfl (by kernel_rfl) (fun w => by kernel_rfl) ?_
    refine ls_val (v := .int .u64 (Int.fdiv a0 4294967296)) rfl rfl (by kernel_rfl) (fun w => by kernel_rfl) ?_
    refine ls_end ?_
    refine qn_then ?_
    refine cs_region (l := [_]) ?_
    refine ls_val (v := .int .i64 (32 : Int)) rfl rfl (by kernel_rfl) (fun w => by kernel_rfl) ?_
    refine ls_end ?_
    refine qn_then ?_
    refine cs_seq ?_
    refine cs_seq ?_
    refine cs_region (l := [_, _]) ?_
    refine ls_val (v := .int .u64 (Int.fdiv a0 4294967296)) rfl rfl (by kernel_rfl) (fun w => by kernel_rfl) ?_
    refine ls_val (v := .bool (decide ((Int.fdiv a0 4294967296) ≥ (65536 : Int)))) rfl rfl (by kernel_rfl) (fun w => by kernel_rfl) ?_
    refine ls_end ?_
    refine qn_then ?_
    by_cases q2 : (Int.fdiv a0 4294967296) ≥ (65536 : Int)
    · replace H := ite_t q2 H
      refine cs_know (c := true) (dec_t q2) 8 (by kernel_rfl) ?_
      refine cs_true (by kernel_rfl) ?_
      refine cs_seq ?_
      refine cs_region (l := [_, _, _]) ?_
      refine ls_val (v := .int .u64 (Int.fdiv a0 4294967296)) rfl rfl (by kernel_rfl) (fun w => by kernel_rfl) ?_
      refine ls_val (v := .int .u64 (Int.fdiv (Int.fdiv a0 4294967296) 65536)) rfl rfl (by kernel_rfl) (fun w => by kernel_rfl) ?_
      refine ls_val (v := .int .u64 (Int.fdiv (Int.fdiv a0 4294967296) 65536)) rfl rfl (by kernel_rfl) (fun w => by kernel_rfl) ?_
      refine ls_end ?_
      refine qn_then ?_
      refine cs_region (l := [_, _, _]) ?_
      refine ls_val (v := .int .i64 (32 : Int)) rfl rfl (by kernel_rfl) (fun w => by kernel_rfl) ?_
      obtain ⟨y3, hy4, H⟩ := lt_some H
      refine ls_val (v := .int .i64 (IntKind.wrap .i64 ((32 : Int) + (16 : Int)))) rfl rfl (by kernel_rfl) (fun w => by kernel_rfl) ?_
      refine ls_ren 12 (v := .int .i64 (IntKind.wrap .i64 ((32 : Int) + (16 : Int)))) (v' := .int .i64 y3) (by kernel_rfl) (by rw [hy4]) ?_
      refine ls_val (v := .int .i64 y3) rfl rfl (by kernel_rfl) (fun w => by kernel_rfl) ?_
      refine ls_end ?_
      refine qn_then ?_
      refine cs_seq ?_
      refine cs_seq ?_
      refine cs_region (l := [_, _]) ?_
      refine ls_val (v := .int .u64 (Int.fdiv (Int.fdiv a0 4294967296) 65536)) rfl rfl (by kernel_rfl) (fun w => by kernel_rfl) ?_
      refine ls_val (v := .bool (decide ((Int.fdiv (Int.fdiv a0 4294967296) 65536) ≥ (256 : Int)))) rfl rfl (by kernel_rfl) (fun w => by kernel_rfl) ?_
      refine ls_end ?_
      refine qn_then ?_
      by_cases q5 : (Int.fdiv (Int.fdiv a0 4294967296) 65536) ≥ (256 : Int)
      · replace H := ite_t q5 H
        refine cs_know (c := true) (dec_t q5) 14 (by kernel_rfl) ?_
        refine cs_true (by kernel_rfl) ?_
        refine cs_seq ?_
        refine cs_region (l := [_, _, _]) ?_
        refine ls_val (v := .int .u64 (Int.fdiv (Int.fdiv a0 4294967296) 65536)) rfl rfl (by kernel_rfl) (fun w => by kernel_rfl) ?_
        obtain ⟨y6, hy7, H⟩ := lt_some H
        refine ls_val (v := .int .u64 (Int.fdiv (Int.fdiv (Int.fdiv a0 4294967296) 65536) 256)) rfl rfl (by kernel_rfl) (fun w => by kernel_rfl) ?_
        refine ls_ren 16 (v := .int .u64 (Int.fdiv (Int.fdiv (Int.fdiv a0 4294967296) 65536) 256)) (v' := .int .u64 y6) (by kernel_rfl) (by rw [hy7]) ?_
        refine ls_val (v := .int .u64 y6) rfl rfl (by kernel_rfl) (fun w => by kernel_rfl) ?_
        refine ls_end ?_
        refine qn_then ?_
        refine cs_region (l := [_, _, _]) ?_
        refine ls_val (v := .int .i64 y3) rfl rfl (by kernel_rfl) (fun w => by kernel_rfl) ?_
        refine ls_val (v := .int .i64 (IntKind.wrap .i64 (y3 + (8 : Int)))) rfl rfl (by kernel_rfl) (fun w => by kernel_rfl) ?_
        refine ls_val (v := .int .i64 (IntKind.wrap .i64 (y3 + (8 : Int)))) rfl rfl (by kernel_rfl) (fun w => by kernel_rfl) ?_
        refine ls_end ?_
        refine qn_then ?_
        refine cs_seq ?_
        refine cs_region (l := [_, _, _, _, _, _, _]) ?_
        refine ls_val (v := .int .i64 (IntKind.wrap .i64 (y3 + (8 : Int)))) rfl rfl (by kernel_rfl) (fun w => by kernel_rfl) ?_
        refine ls_val (v := .int .u64 y6) rfl rfl (by kernel_rfl) (fun w => by kernel_rfl) ?_
        refine ls_val (v := .int .u8 (IntKind.wrap .u8 y6)) rfl rfl (by kernel_rfl) (fun w => by kernel_rfl) ?_
        obtain ⟨q8, H⟩ := ite_need H
        obtain ⟨q9, H⟩ := ite_need H
        refine ls_sidx (s := bits_Len64.cst0) (k := .u8) (i := IntKind.wrap .u8 y6) rfl rfl (by kernel_rfl) rfl (by kernel_rfl) (by kernel_rfl) (by kernel_rfl) q8 q9 ?_
        obtain ⟨y10, hy11, H⟩ := lt_some H
        refine ls_val (v := .int .i64 (IntKind.wrap .i64 (bt bits_Len64.cst0 (IntKind.wrap .u8 y6)))) rfl rfl (by kernel_rfl) (fun w => by kernel_rfl) ?_
        refine ls_ren 23 (v := .int .i64 (IntKind.wrap .i64 (bt bits_Len64.cst0 (IntKind.wrap .u8 y6)))) (v' := .int .i64 y10) (by kernel_rfl) (by rw [hy11]) ?_
        obtain ⟨y12, hy13, H⟩ := lt_some H
        refine ls_val (v := .int .i64 (IntKind.wrap .i64 ((IntKind.wrap .i64 (y3 + (8 : Int))) + y10))) rfl rfl (by kernel_rfl) (fun w => by kernel_rfl) ?_
        refine ls_ren 24 (v := .int .i64 (IntKind.wrap .i64 ((IntKind.wrap .i64 (y3 + (8 : Int))) + y10))) (v' := .int .i64 y12) (by kernel_rfl) (by rw [hy13]) ?_
        refine ls_val (v := .int .i64 y12) rfl rfl (by kernel_rfl) (fun w => by kernel_rfl) ?_
        refine ls_end ?_
        refine qn_then ?_
        refine cs_ret' ?_
        obtain rfl := Option.some.inj H
        refine qr_end1 rfl (fun w' hs => ⟨(), rfl, ?_⟩)
        exact hs.sub (sub_nil _)
      · replace H := ite_f q5 H
        refine cs_know (c := false) (dec_f q5) 14 (by kernel_rfl) ?_
        refine cs_false (by kernel_rfl) ?_
        refine cs_skip' ?_
        refine qn_then ?_
        refine cs_seq ?_
        refine cs_region (l := [_, _, _, _, _, _, _]) ?_
        refine ls_val (v := .int .i64 y3) rfl rfl (by kernel_rfl) (fun w => by kernel_rfl) ?_
        refine ls_val (v := .int .u64 (Int.fdiv (Int.fdiv a0 4294967296) 65536)) rfl rfl (by kernel_rfl) (fun w => by kernel_rfl) ?_
        obtain ⟨y14, hy15, H⟩ := lt_some H
        refine ls_val (v := .int .u8 (IntKind.wrap .u8 (Int.fdiv (Int.fdiv a0 4294967296) 65536))) rfl rfl (by kernel_rfl) (fun w => by kernel_rfl) ?_
        refine ls_ren 21 (v := .int .u8 (IntKind.wrap .u8 (Int.fdiv (Int.fdiv a0 4294967296) 65536))) (v' := .int .u8 y14) (by kernel_rfl) (by rw [hy15]) ?_
        obtain ⟨q16, H⟩ := ite_need H
        obtain ⟨q17, H⟩ := ite_need H
        refine ls_sidx (s := bits_Len64.cst0) (k := .u8) (i := y14) rfl rfl (by kernel_rfl) rfl (by kernel_rfl) (by kernel_rfl) (by kernel_rfl) q16 q17 ?_
        obtain ⟨y18, hy19, H⟩ := lt_some H
        refine ls_val (v := .int .i64 (IntKind.wrap .i64 (bt bits_Len64.cst0 y14))) rfl rfl (by kernel_rfl) (fun w => by kernel_rfl) ?_
        refine ls_ren 23 (v := .int .i64 (IntKind.wrap .i64 (bt bits_Len64.cst0 y14))) (v' := .int .i64 y18) (by kernel_rfl) (by rw [hy19]) ?_
        refine ls_val (v := .int .i64 (IntKind.wrap .i64 (y3 + y18))) rfl rfl (by kernel_rfl) (fun w => by kernel_rfl) ?_
        refine ls_val (v := .int .i64 (IntKind.wrap .i64 (y3 + y18))) rfl rfl (by kernel_rfl) (fun w => by kernel_rfl) ?_
        refine ls_end ?_
        refine qn_then ?_
        refine cs_ret' ?_
        obtain rfl := Option.some.inj H
        refine qr_end1 rfl (fun w' hs => ⟨(), rfl, ?_⟩)
        exact hs.sub (sub_nil _)
    · replace H := ite_f q2 H
      refine cs_know (c := false) (dec_f q2) 8 (by kernel_rfl) ?_
      refine cs_false (by kernel_rfl) ?_
      refine cs_skip' ?_
      refine qn_then ?_
      refine cs_seq ?_
      refine cs_seq ?_
      refine cs_region (l := [_, _]) ?_
      refine ls_val (v := .int .u64 (Int.fdiv a0 4294967296)) rfl rfl (by kernel_rfl) (fun w => by kernel_rfl) ?_
      refine ls_val (v := .bool (decide ((Int.fdiv a0 4294967296) ≥ (256 : Int)))) rfl rfl (by kernel_rfl) (fun w => by kernel_rfl) ?_
      refine ls_end ?_
      refine qn_then ?_
      by_cases q20 : (Int.fdiv a0 4294967296) ≥ (256 : Int)
      · replace H := ite_t q20 H
        refine cs_know (c := true) (dec_t q20) 14 (by kernel_rfl) ?_
        refine cs_true (by kernel_rfl) ?_
        refine cs_seq ?_
        refine cs_region (l := [_, _, _]) ?_
        refine ls_val (v := .int .u64 (Int.fdiv a0 4294967296)) rfl rfl (by kernel_rfl) (fun w => by kernel_rfl) ?_
        refine ls_val (v := .int .u64 (Int.fdiv (Int.fdiv a0 4294967296) 256)) rfl rfl (by kernel_rfl) (fun w => by kernel_rfl) ?_
        refine ls_val (v := .int .u64 (Int.fdiv (Int.fdiv a0 4294967296) 256)) rfl rfl (by kernel_rfl) (fun w => by kernel_rfl) ?_
        refine ls_end ?_
        refine qn_then ?_
        refine cs_region (l := [_, _, _]) ?_
        refine ls_val (v := .int .i64 (32 : Int)) rfl rfl (by kernel_rfl) (fun w => by kernel_rfl) ?_
        obtain ⟨y21, hy22, H⟩ := lt_some H
        refine ls_val (v := .int .i64 (IntKind.wrap .i64 ((32 : Int) + (8 : Int)))) rfl rfl (by kernel_rfl) (fun w => by kernel_rfl) ?_
        refine ls_ren 18 (v := .int .i64 (IntKind.wrap .i64 ((32 : Int) + (8 : Int)))) (v' := .int .i64 y21) (by kernel_rfl) (by rw [hy22]) ?_
        refine ls_val (v := .int .i64 y21) rfl rfl (by kernel_rfl) (fun w => by kernel_rfl) ?_
        refine ls_end ?_
        refine qn_then ?_
        refine cs_seq ?_
        refine cs_region (l := [_, _, _, _, _, _, _]) ?_
        refine ls_val (v := .int .i64 y21) rfl rfl (by kernel_rfl) (fun w => by kernel_rfl) ?_
        refine ls_val (v := .int .u64 (Int.fdiv (Int.fdiv a0 4294967296) 256)) rfl rfl (by kernel_rfl) (fun w => by kernel_rfl) ?_
        obtain ⟨y23, hy24, H⟩ := lt_some H
        refine ls_val (v := .int .u8 (IntKind.wrap .u8 (Int.fdiv (Int.fdiv a0 4294967296) 256))) rfl rfl (by kernel_rfl) (fun w => by kernel_rfl) ?_
        refine ls_ren 21 (v := .int .u8 (IntKind.wrap .u8 (Int.fdiv (Int.fdiv a0 4294967296) 256))) (v' := .int .u8 y23) (by kernel_rfl) (by rw [hy24]) ?_
        obtain ⟨q25, H⟩ := ite_need H
        obtain ⟨q26, H⟩ := ite_need H
        refine ls_sidx (s := bits_Len64.cst0) (k := .u8) (i := y23) rfl rfl (by kernel_rfl) rfl (by kernel_rfl) (by kernel_rfl) (by kernel_rfl) q25 q26 ?_
        obtain ⟨y27, hy28, H⟩ := lt_some H
        refine ls_val (v := .int .i64 (IntKind.wrap .i64 (bt bits_Len64.cst0 y23))) rfl rfl (by kernel_rfl) (fun w => by kernel_rfl) ?_
        refine ls_ren 23 (v := .int .i64 (IntKind.wrap .i64 (bt bits_Len64.cst0 y23))) (v' := .int .i64 y27) (by kernel_rfl) (by rw [hy28]) ?_
        refine ls_val (v := .int .i64 (IntKind.wrap .i64 (y21 + y27))) rfl rfl (by kernel_rfl) (fun w => by kernel_rfl) ?_
        refine ls_val (v := .int .i64 (IntKind.wrap .i64 (y21 + y27))) rfl rfl (by kernel_rfl) (fun w => by kernel_rfl) ?_
        refine ls_end ?_
        refine qn_then ?_
        refine cs_ret' ?_
        obtain rfl := Option.some.inj H
        refine qr_end1 rfl (fun w' hs => ⟨(), rfl, ?_⟩)
        exact hs.sub (sub_nil _)
      · replace H := ite_f q20 H
        refine cs_know (c := false) (dec_f q20) 14 (by kernel_rfl) ?_
        refine cs_false (by kernel_rfl) ?_
        refine cs_skip' ?_
        refine qn_then ?_
        refine cs_seq ?_
        refine cs_region (l := [_, _, _, _, _, _, _]) ?_
        refine ls_val (v := .int .i64 (32 : Int)) rfl rfl (by kernel_rfl) (fun w => by kernel_rfl) ?_
        refine ls_val (v := .int .u64 (Int.fdiv a0 4294967296)) rfl rfl (by kernel_rfl) (fun w => by kernel_rfl) ?_
        obtain ⟨y29, hy30, H⟩ := lt_some H
        refine ls_val (v := .int .u8 (IntKind.wrap .u8 (Int.fdiv a0 4294967296))) rfl rfl (by kernel_rfl) (fun w => by kernel_rfl) ?_
        refine ls_ren 21 (v := .int .u8 (IntKind.wrap .u8 (Int.fdiv a0 4294967296))) (v' := .int .u8 y29) (by kernel_rfl) (by rw [hy30]) ?_
        obtain ⟨q31, H⟩ := ite_need H
        obtain ⟨q32, H⟩ := ite_need H
        refine ls_sidx (s := bits_Len64.cst0) (k := .u8) (i := y29) rfl rfl (by kernel_rfl) rfl (by kernel_rfl) (by kernel_rfl) (by kernel_rfl) q31 q32 ?_
        obtain ⟨y33, hy34, H⟩ := lt_some H
        refine ls_val (v := .int .i64 (IntKind.wrap .i64 (bt bits_Len64.cst0 y29))) rfl rfl (by kernel_rfl) (fun w => by kernel_rfl) ?_
        refine ls_ren 23 (v := .int .i64 (IntKind.wrap .i64 (bt bits_Len64.cst0 y29))) (v' := .int .i64 y33) (by kernel_rfl) (by rw [hy34]) ?_
        refine ls_val (v := .int .i64 (IntKind.wrap .i64 ((32 : Int) + y33))) rfl rfl (by kernel_rfl) (fun w => by kernel_rfl) ?_
        refine ls_val (v := .int .i64 (IntKind.wrap .i64 ((32 : Int) + y33))) rfl rfl (by kernel_rfl) (fun w => by kernel_rfl) ?_
        refine ls_end ?_
        refine qn_then ?_
        refine cs_ret' ?_
        obtain rfl := Option.some.inj H
        refine qr_end1 rfl (fun w' hs => ⟨(), rfl, ?_⟩)
        exact hs.sub (sub_nil _)
  · replace H := ite_f q1 H
    refine cs_know (c := false) (dec_f q1) 4 (by kernel_rfl) ?_
    refine cs_false (by kernel_rfl) ?_
    refine cs_skip' ?_
    refine qn_then ?_
    refine cs_seq ?_
    refine cs_seq ?_
    refine cs_region (l := [_, _]) ?_
    refine ls_val (v := .int .u64 a0) rfl rfl (by kernel_rfl) (fun w => by kernel_rfl) ?_
    refine ls_val (v := .bool (decide (a0 ≥ (65536 : Int)))) rfl rfl (by kernel_rfl) (fun w => by kernel_rfl) ?_
    refine ls_end ?_
    refine qn_then ?_
    by_cases q35 : a0 ≥ (65536 : Int)
    · replace H := ite_t q35 H
      refine cs_know (c := true) (dec_t q35) 8 (by kernel_rfl) ?_
      refine cs_true (by kernel_rfl) ?_
      refine cs_seq ?_
      refine cs_region (l := [_, _, _]) ?_
      refine ls_val (v := .int .u64 a0) rfl rfl (by kernel_rfl) (fun w => by kernel_rfl) ?_
      refine ls_val (v := .int .u64 (Int.fdiv a0 65536)) rfl rfl (by kernel_rfl) (fun w => by kernel_rfl) ?_
      refine ls_val (v := .int .u64 (Int.fdiv a0 65536)) rfl rfl (by kernel_rfl) (fun w => by kernel_rfl) ?_
      refine ls_end ?_
      refine qn_then ?_
      refine cs_region (l := [_, _, _]) ?_
      refine ls_val (v := .int .i64 (0 : Int)) rfl rfl (by kernel_rfl) (fun w => by kernel_rfl) ?_
      obtain ⟨y36, hy37, H⟩ := lt_some H
      refine ls_val (v := .int .i64 (IntKind.wrap .i64 ((0 : Int) + (16 : Int)))) rfl rfl (by kernel_rfl) (fun w => by kernel_rfl) ?_
      refine ls_ren 12 (v := .int .i64 (IntKind.wrap .i64 ((0 : Int) + (16 : Int)))) (v' := .int .i64 y36) (by kernel_rfl) (by rw [hy37]) ?_
      refine ls_val (v := .int .i64 y36) rfl rfl (by kernel_rfl) (fun w => by kernel_rfl) ?_
      refine ls_end ?_
      refine qn_then ?_
      refine cs_seq ?_
      refine cs_seq ?_
      refine cs_region (l := [_, _]) ?_
      refine ls_val (v := .int .u64 (Int.fdiv a0 65536)) rfl rfl (by kernel_rfl) (fun w => by kernel_rfl) ?_
      refine ls_val (v := .bool (decide ((Int.fdiv a0 65536) ≥ (256 : Int)))) rfl rfl (by kernel_rfl) (fun w => by kernel_rfl) ?_
      refine ls_end ?_
      refine qn_then ?_
      by_cases q38 : (Int.fdiv a0 65536) ≥ (256 : Int)
      · replace H := ite_t q38 H
        refine cs_know (c := true) (dec_t q38) 14 (by kernel_rfl) ?_
        refine cs_true (by kernel_rfl) ?_
        refine cs_seq ?_
        refine cs_region (l := [_, _, _]) ?_
        refine ls_val (v := .int .u64 (Int.fdiv a0 65536)) rfl rfl (by kernel_rfl) (fun w => by kernel_rfl) ?_
        refine ls_val (v := .int .u64 (Int.fdiv (Int.fdiv a0 65536) 256)) rfl rfl (by kernel_rfl) (fun w => by kernel_rfl) ?_
        refine ls_val (v := .int .u64 (Int.fdiv (Int.fdiv a0 65536) 256)) rfl rfl (by kernel_rfl) (fun w => by kernel_rfl) ?_
        refine ls_end ?_
        refine qn_then ?_
        refine cs_region (l := [_, _, _]) ?_
        refine ls_val (v := .int .i64 y36) rfl rfl (by kernel_rfl) (fun w => by kernel_rfl) ?_
        refine ls_val (v := .int .i64 (IntKind.wrap .i64 (y36 + (8 : Int)))) rfl rfl (by kernel_rfl) (fun w => by kernel_rfl) ?_
        refine ls_val (v := .int .i64 (IntKind.wrap .i64 (y36 + (8 : Int)))) rfl rfl (by kernel_rfl) (fun w => by kernel_rfl) ?_
        refine ls_end ?_
        refine qn_then ?_
        refine cs_seq ?_
        refine cs_region (l := [_, _, _, _, _, _, _]) ?_
        refine ls_val (v := .int .i64 (IntKind.wrap .i64 (y36 + (8 : Int)))) rfl rfl (by kernel_rfl) (fun w => by kernel_rfl) ?_
        refine ls_val (v := .int .u64 (Int.fdiv (Int.fdiv a0 65536) 256)) rfl rfl (by kernel_rfl) (fun w => by kernel_rfl) ?_
        obtain ⟨y39, hy40, H⟩ := lt_some H
        refine ls_val (v := .int .u8 (IntKind.wrap .u8 (Int.fdiv (Int.fdiv a0 65536) 256))) rfl rfl (by kernel_rfl) (fun w => by kernel_rfl) ?_
        refine ls_ren 21 (v := .int .u8 (IntKind.wrap .u8 (Int.fdiv (Int.fdiv a0 65536) 256))) (v' := .int .u8 y39) (by kernel_rfl) (by rw [hy40]) ?_
        obtain ⟨q41, H⟩ := ite_need H
        obtain ⟨q42, H⟩ := ite_need H
        refine ls_sidx (s := bits_Len64.cst0) (k := .u8) (i := y39) rfl rfl (by kernel_rfl) rfl (by kernel_rfl) (by kernel_rfl) (by kernel_rfl) q41 q42 ?_
        obtain ⟨y43, hy44, H⟩ := lt_some H
        refine ls_val (v := .int .i64 (IntKind.wrap .i64 (bt bits_Len64.cst0 y39))) rfl rfl (by kernel_rfl) (fun w => by kernel_rfl) ?_
        refine ls_ren 23 (v := .int .i64 (IntKind.wrap .i64 (bt bits_Len64.cst0 y39))) (v' := .int .i64 y43) (by kernel_rfl) (by rw [hy44]) ?_
        obtain ⟨y45, hy46, H⟩ := lt_some H
        refine ls_val (v := .int .i64 (IntKind.wrap .i64 ((IntKind.wrap .i64 (y36 + (8 : Int))) + y43))) rfl rfl (by kernel_rfl) (fun w => by kernel_rfl) ?_
        refine ls_ren 24 (v := .int .i64 (IntKind.wrap .i64 ((IntKind.wrap .i64 (y36 + (8 : Int))) + y43))) (v' := .int .i64 y45) (by kernel_rfl) (by rw [hy46]) ?_
        refine ls_val (v := .int .i64 y45) rfl rfl (by kernel_rfl) (fun w => by kernel_rfl) ?_
        refine ls_end ?_
        refine qn_then ?_
        refine cs_ret' ?_
        obtain rfl := Option.some.inj H
        refine qr_end1 rfl (fun w' hs => ⟨(), rfl, ?_⟩)
        exact hs.sub (sub_nil _)
      · replace H := ite_f q38 H
        refine cs_know (c := false) (dec_f q38) 14 (by kernel_rfl) ?_
        refine cs_false (by kernel_rfl) ?_
        refine cs_skip' ?_
        refine qn_then ?_
        refine cs_seq ?_
        refine cs_region (l := [_, _, _, _, _, _, _]) ?_
        refine ls_val (v := .int .i64 y36) rfl rfl (by kernel_rfl) (fun w => by kernel_rfl) ?_
        refine ls_val (v := .int .u64 (Int.fdiv a0 65536)) rfl rfl (by kernel_rfl) (fun w => by kernel_rfl) ?_
        refine ls_val (v := .int .u8 (IntKind.wrap .u8 (Int.fdiv a0 65536))) rfl rfl (by kernel_rfl) (fun w => by kernel_rfl) ?_
        obtain ⟨q47, H⟩ := ite_need H
        obtain ⟨q48, H⟩ := ite_need H
        obtain ⟨y49, hy50, H⟩ := lt_some H
        refine ls_sidx (s := bits_Len64.cst0) (k := .u8) (i := IntKind.wrap .u8 (Int.fdiv a0 65536)) rfl rfl (by kernel_rfl) rfl (by kernel_rfl) (by kernel_rfl) (by kernel_rfl) q47 q48 ?_
        refine ls_ren 22 (v := .int .u8 (bt bits_Len64.cst0 (IntKind.wrap .u8 (Int.fdiv a0 65536)))) (v' := .int .u8 y49) (by kernel_rfl) (by rw [hy50]) ?_
        refine ls_val (v := .int .i64 (IntKind.wrap .i64 y49)) rfl rfl (by kernel_rfl) (fun w => by kernel_rfl) ?_
        obtain ⟨y51, hy52, H⟩ := lt_some H
        refine ls_val (v := .int .i64 (IntKind.wrap .i64 (y36 + (IntKind.wrap .i64 y49)))) rfl rfl (by kernel_rfl) (fun w => by kernel_rfl) ?_
        refine ls_ren 24 (v := .int .i64 (IntKind.wrap .i64 (y36 + (IntKind.wrap .i64 y49)))) (v' := .int .i64 y51) (by kernel_rfl) (by rw [hy52]) ?_
        refine ls_val (v := .int .i64 y51) rfl rfl (by kernel_rfl) (fun w => by kernel_rfl) ?_
        refine ls_end ?_
        refine qn_then ?_
        refine cs_ret' ?_
        obtain rfl := Option.some.inj H
        refine qr_end1 rfl (fun w' hs => ⟨(), rfl, ?_⟩)
        exact hs.sub (sub_nil _)
    · replace H := ite_f q35 H
      refine cs_know (c := false) (dec_f q35) 8 (by kernel_rfl) ?_
      refine cs_false (by kernel_rfl) ?_
      refine cs_skip' ?_
      refine qn_then ?_
      refine cs_seq ?_
      refine cs_seq ?_
      refine cs_region (l := [_, _]) ?_
      refine ls_val (v := .int .u64 a0) rfl rfl (by kernel_rfl) (fun w => by kernel_rfl) ?_
      refine ls_val (v := .bool (decide (a0 ≥ (256 : Int)))) rfl rfl (by kernel_rfl) (fun w => by kernel_rfl) ?_
      refine ls_end ?_
      refine qn_then ?_
      by_cases q53 : a0 ≥ (256 : Int)
      · replace H := ite_t q53 H
        refine cs_know (c := true) (dec_t q53) 14 (by kernel_rfl) ?_
        refine cs_true (by kernel_rfl) ?_
        refine cs_seq ?_
        refine cs_region (l := [_, _, _]) ?_
        refine ls_val (v := .int .u64 a0) rfl rfl (by kernel_rfl) (fun w => by kernel_rfl) ?_
        refine ls_val (v := .int .u64 (Int.fdiv a0 256)) rfl rfl (by kernel_rfl) (fun w => by kernel_rfl) ?_
        refine ls_val (v := .int .u64 (Int.fdiv a0 256)) rfl rfl (by kernel_rfl) (fun w => by kernel_rfl) ?_
        refine ls_end ?_
        refine qn_then ?_
        refine cs_region (l := [_, _, _]) ?_
        refine ls_val (v := .int .i64 (0 : Int)) rfl rfl (by kernel_rfl) (fun w => by kernel_rfl) ?_
        obtain ⟨y54, hy55, H⟩ := lt_some H
        refine ls_val (v := .int .i64 (IntKind.wrap .i64 ((0 : Int) + (8 : Int)))) rfl rfl (by kernel_rfl) (fun w => by kernel_rfl) ?_
        refine ls_ren 18 (v := .int .i64 (IntKind.wrap .i64 ((0 : Int) + (8 : Int)))) (v' := .int .i64 y54) (by kernel_rfl) (by rw [hy55]) ?_
        refine ls_val (v := .int .i64 y54) rfl rfl (by kernel_rfl) (fun w => by kernel_rfl) ?_
        refine ls_end ?_
        refine qn_then ?_
        refine cs_seq ?_
        refine cs_region (l := [_, _, _, _, _, _, _]) ?_
        refine ls_val (v := .int .i64 y54) rfl rfl (by kernel_rfl) (fun w => by kernel_rfl) ?_
        refine ls_val (v := .int .u64 (Int.fdiv a0 256)) rfl rfl (by kernel_rfl) (fun w => by kernel_rfl) ?_
        refine ls_val (v := .int .u8 (IntKind.wrap .u8 (Int.fdiv a0 256))) rfl rfl (by kernel_rfl) (fun w => by kernel_rfl) ?_
        obtain ⟨q56, H⟩ := ite_need H
        obtain ⟨q57, H⟩ := ite_need H
        obtain ⟨y58, hy59, H⟩ := lt_some H
        refine ls_sidx (s := bits_Len64.cst0) (k := .u8) (i := IntKind.wrap .u8 (Int.fdiv a0 256)) rfl rfl (by kernel_rfl) rfl (by kernel_rfl) (by kernel_rfl) (by kernel_rfl) q56 q57 ?_
        refine ls_ren 22 (v := .int .u8 (bt bits_Len64.cst0 (IntKind.wrap .u8 (Int.fdiv a0 256)))) (v' := .int .u8 y58) (by kernel_rfl) (by rw [hy59]) ?_
        refine ls_val (v := .int .i64 (IntKind.wrap .i64 y58)) rfl rfl (by kernel_rfl) (fun w => by kernel_rfl) ?_
        obtain ⟨y60, hy61, H⟩ := lt_some H
        refine ls_val (v := .int .i64 (IntKind.wrap .i64 (y54 + (IntKind.wrap .i64 y58)))) rfl rfl (by kernel_rfl) (fun w => by kernel_rfl) ?_
        refine ls_ren 24 (v := .int .i64 (IntKind.wrap .i64 (y54 + (IntKind.wrap .i64 y58)))) (v' := .int .i64 y60) (by kernel_rfl) (by rw [hy61]) ?_
        refine ls_val (v := .int .i64 y60) rfl rfl (by kernel_rfl) (fun w => by kernel_rfl) ?_
        refine ls_end ?_
        refine qn_then ?_
        refine cs_ret' ?_
        obtain rfl := Option.some.inj H
        refine qr_end1 rfl (fun w' hs => ⟨(), rfl, ?_⟩)
        exact hs.sub (sub_nil _)
      · replace H := ite_f q53 H
        refine cs_know (c := false) (dec_f q53) 14 (by kernel_rfl) ?_
        refine cs_false (by kernel_rfl) ?_
        refine cs_skip' ?_
        refine qn_then ?_
        refine cs_seq ?_
        refine cs_region (l := [_, _, _, _, _, _, _]) ?_
        refine ls_val (v := .int .i64 (0 : Int)) rfl rfl (by kernel_rfl) (fun w => by kernel_rfl) ?_
        refine ls_val (v := .int .u64 a0) rfl rfl (by kernel_rfl) (fun w => by kernel_rfl) ?_
        refine ls_val (v := .int .u8 (IntKind.wrap .u8 a0)) rfl rfl (by kernel_rfl) (fun w => by kernel_rfl) ?_
        obtain ⟨q62, H⟩ := ite_need H
        obtain ⟨q63, H⟩ := ite_need H
        refine ls_sidx (s := bits_Len64.cst0) (k := .u8) (i := IntKind.wrap .u8 a0) rfl rfl (by kernel_rfl) rfl (by kernel_rfl) (by kernel_rfl) (by kernel_rfl) q62 q63 ?_
        obtain ⟨y64, hy65, H⟩ := lt_some H
        refine ls_val (v := .int .i64 (IntKind.wrap .i64 (bt bits_Len64.cst0 (IntKind.wrap .u8 a0)))) rfl rfl (by kernel_rfl) (fun w => by kernel_rfl) ?_
        refine ls_ren 23 (v := .int .i64 (IntKind.wrap .i64 (bt bits_Len64.cst0 (IntKind.wrap .u8 a0)))) (v' := .int .i64 y64) (by kernel_rfl) (by rw [hy65]) ?_
        refine ls_val (v := .int .i64 (IntKind.wrap .i64 ((0 : Int) + y64))) rfl rfl (by kernel_rfl) (fun w => by kernel_rfl) ?_
        refine ls_val (v := .int .i64 (IntKind.wrap .i64 ((0 : Int) + y64))) rfl rfl (by kernel_rfl) (fun w => by kernel_rfl) ?_
        refine ls_end ?_
        refine qn_then ?_
        refine cs_ret' ?_
        obtain rfl := Option.some.inj H
        refine qr_end1 rfl (fun w' hs => ⟨(), rfl, ?_⟩)
        exact hs.sub (sub_nil _)

/-! ### shadowbox/codec.groups: function 26 -/
def codec_groups.f (k : Nat) (a0 : Int) : Option (Int) :=
  (bits_Len64.f k a0).bind fun t1 => lt (IntKind.wrap .i64 ((IntKind.wrap .i64 (t1 + (7 : Int))) - (1 : Int))) fun y4 => lt (IntKind.wrap .i64 (Int.tdiv y4 (7 : Int))) fun y6 => lt ((if (1 : Int) < y6 then y6 else (1 : Int))) fun y8 => some y8
set_option maxRecDepth 100000 in
set_option maxHeartbeats 4000000 in
theorem codec_groups.calls (k : Nat) (a0 : Int) (r : Int) (w : World) (H : codec_groups.f k a0 = some r) :
    Calls Try.prog 26 #[.int .u64 a0] w fun e w' => ∃ x : Unit, e = .returned (.int .i64 r) ∧ St w s0 w' := by
  unfold codec_groups.f at H
  refine enter (n := 9) Try.func26 rfl (by kernel_rfl) (by kernel_rfl) ?_
  refine cs_seq ?_
  refine cs_region (l := [_]) ?_
  refine ls_val (v := .int .i64 (0 : Int)) rfl rfl (by kernel_rfl) (fun w => by kernel_rfl) ?_
  refine ls_end ?_
  refine qn_then ?_
  refine cs_seq ?_
  refine cs_region (l := [_, _, _, _, _, _, _]) ?_
  refine ls_val (v := .int .u64 a0) rfl rfl (by kernel_rfl) (fun w => by kernel_rfl) ?_
  obtain ⟨t1, hc2, H⟩ := bind_some H
  refine ls_call (fid := 25) (vals := #[.int .u64 a0]) (X := Unit) (fun x => .int .i64 t1) (fun x => s0) 0 rfl rfl (by kernel_rfl) (fun w => by kernel_rfl) (fun w hs => bits_Len64.calls k a0 t1 w  hc2) ?_
  intro x3
  refine ls_val (v := .int .i64 (IntKind.wrap .i64 (t1 + (7 : Int)))) rfl rfl (by kernel_rfl) (fun w => by kernel_rfl) ?_
  obtain ⟨y4, hy5, H⟩ := lt_some H
  refine ls_val (v := .int .i64 (IntKind.wrap .i64 ((IntKind.wrap .i64 (t1 + (7 : Int))) - (1 : Int)))) rfl rfl (by kernel_rfl) (fun w => by kernel_rfl) ?_
  refine ls_ren 6 (v := .int .i64 (IntKind.wrap .i64 ((IntKind.wrap .i64 (t1 + (7 : Int))) - (1 : Int)))) (v' := .int .i64 y4) (by kernel_rfl) (by rw [hy5]) ?_
  obtain ⟨y6, hy7, H⟩ := lt_some H
  refine ls_val (v := .int .i64 (IntKind.wrap .i64 (Int.tdiv y4 (7 : Int)))) rfl rfl (by kernel_rfl) (fun w => by kernel_rfl) ?_
  refine ls_ren 7 (v := .int .i64 (IntKind.wrap .i64 (Int.tdiv y4 (7 : Int)))) (v' := .int .i64 y6) (by kernel_rfl) (by rw [hy7]) ?_
  obtain ⟨y8, hy9, H⟩ := lt_some H
  refine ls_val (v := .int .i64 (if (1 : Int) < y6 then y6 else (1 : Int))) rfl rfl (by kernel_rfl) (fun w => by kernel_rfl) ?_
  refine ls_ren 8 (v := .int .i64 (if (1 : Int) < y6 then y6 else (1 : Int))) (v' := .int .i64 y8) (by kernel_rfl) (by rw [hy9]) ?_
  refine ls_val (v := .int .i64 y8) rfl rfl (by kernel_rfl) (fun w => by kernel_rfl) ?_
  refine ls_end ?_
  refine qn_then ?_
  refine cs_ret' ?_
  obtain rfl := Option.some.inj H
  refine qr_end1 rfl (fun w' hs => ⟨(), rfl, ?_⟩)
  exact hs.sub (sub_nil _)

/-! ### shadowbox/codec.Take: function 11 -/
def codec_Take.l1 (l0 : List Int) (a1 : Int) (xl10 : List Int) : Nat → Int → Int → Option (Int × List Int × Bool)
  | 0, _, _ => none
  | k1 + 1, x4_1, x25_1 => (if x25_1 < (xl10.length : Int) then (if 0 ≤ x25_1 then lt (IntKind.wrap .u64 ((xl10).getD (x25_1).toNat 0)) fun y20 => (if 0 ≤ IntKind.wrap .i64 ((8 : Int) * x25_1) then lt (shlv .u64 y20 (IntKind.wrap .i64 ((8 : Int) * x25_1))) fun y23 => (codec_Take.l1 l0 a1 xl10 k1) (bits .or .u64 x4_1 y23) (IntKind.wrap .i64 (x25_1 + (1 : Int))) else none) else none) else lt (l0.drop (a1).toNat) fun xl30 => (if (([] : List Int).length + xl30.length) * 1 ≤ 140737488355328 then some (x4_1, (([] : List Int) ++ xl30), true) else none))
def codec_Take.f (k : Nat) (l0 : List Int) (a1 : Int) : Option (Int × List Int × Bool) :=
  (if a1 < (1 : Int) then some ((0 : Int), ([] : List Int), false) else (if a1 > (8 : Int) then some ((0 : Int), ([] : List Int), false) else (if (l0.length : Int) < a1 then some ((0 : Int), ([] : List Int), false) else (if 0 ≤ a1 then (if a1 ≤ (l0.length : Int) then lt (l0.take (a1).toNat) fun xl10 => codec_Take.l1 l0 a1 xl10 k (0 : Int) (0 : Int) else none) else none))))
set_option maxRecDepth 100000 in
set_option maxHeartbeats 4000000 in
theorem codec_Take.calls (k : Nat) (A0 : Option Addr) (c0 : Nat) (l0 : List Int) (a1 : Int) (r : Int × List Int × Bool) (w : World) (R0 : Rd w A0 (en (Value.int .u8) l0)) (C0 : l0.length ≤ c0) (H : codec_Take.f k l0 a1 = some r) :
    Calls Try.prog 11 #[.slice A0 l0.length c0, .int .i64 a1] w fun e w' => ∃ x : (Option Addr × Nat), e = .returned (.tuple #[.int .u64 r.1, .slice x.1 r.2.1.length x.2, .bool r.2.2]) ∧ St w (sput s0 0 (some (Ck.sl 5 (Value.int .u8) x.1 x.2 r.2.1))) w' := by
  unfold codec_Take.f at H
  refine enter (n := 44) Try.func11 rfl (by kernel_rfl) (by kernel_rfl) ?_
  refine cs_seq ?_
  refine cs_region (l := [_, _, _]) ?_
  refine ls_val (v := .int .u64 (0 : Int)) rfl rfl (by kernel_rfl) (fun w => by kernel_rfl) ?_
  refine ls_val (v := .slice none 0 0) rfl rfl (by kernel_rfl) (fun w => by kernel_rfl) ?_
  refine ls_val (v := .bool false) rfl rfl (by kernel_rfl) (fun w => by kernel_rfl) ?_
  refine ls_end ?_
  refine qn_then ?_
  refine cs_seq ?_
  refine cs_seq ?_
  refine cs_region (l := [_, _, _, _, _, _, _, _, _, _, _, _]) ?_
  refine ls_val (v := .int .i64 a1) rfl rfl (by kernel_rfl) (fun w => by kernel_rfl) ?_
  refine ls_val (v := .bool (decide (a1 < (1 : Int)))) rfl rfl (by kernel_rfl) (fun w => by kernel_rfl) ?_
  refine ls_val (v := .bool (decide (a1 < (1 : Int)))) rfl rfl (by kernel_rfl) (fun w => by kernel_rfl) ?_
  by_cases q1 : a1 < (1 : Int)
  · replace H := ite_t q1 H
    refine ls_know (c := true) (dec_t q1) 11 (by kernel_rfl) ?_
    refine ls_off (j := 2) (t := 11) (b := false) (c := true) rfl rfl (by kernel_rfl) (by kernel_rfl) rfl rfl (by kernel_rfl) ?_
    refine ls_off (j := 2) (t := 11) (b := false) (c := true) rfl rfl (by kernel_rfl) (by kernel_rfl) rfl rfl (by kernel_rfl) ?_
    refine ls_val (v := .bool true) rfl rfl (by kernel_rfl) (fun w => by kernel_rfl) ?_
    refine ls_val (v := .bool true) rfl rfl (by kernel_rfl) (fun w => by kernel_rfl) ?_
    refine ls_off (j := 6) (t := 15) (b := false) (c := true) rfl rfl (by kernel_rfl) (by kernel_rfl) rfl rfl (by kernel_rfl) ?_
    refine ls_off (j := 6) (t := 15) (b := false) (c := true) rfl rfl (by kernel_rfl) (by kernel_rfl) rfl rfl (by kernel_rfl) ?_
    refine ls_off (j := 6) (t := 15) (b := false) (c := true) rfl rfl (by kernel_rfl) (by kernel_rfl) rfl rfl (by kernel_rfl) ?_
    refine ls_off (j := 6) (t := 15) (b := false) (c := true) rfl rfl (by kernel_rfl) (by kernel_rfl) rfl rfl (by kernel_rfl) ?_
    refine ls_val (v := .bool true) rfl rfl (by kernel_rfl) (fun w => by kernel_rfl) ?_
    refine ls_end ?_
    refine qn_then ?_
    refine cs_true (by kernel_rfl) ?_
    refine cs_seq ?_
    refine cs_region (l := [_, _, _]) ?_
    refine ls_val (v := .int .u64 (0 : Int)) rfl rfl (by kernel_rfl) (fun w => by kernel_rfl) ?_
    refine ls_val (v := .slice none 0 0) rfl rfl (by kernel_rfl) (fun w => by kernel_rfl) ?_
    refine ls_val (v := .bool false) rfl rfl (by kernel_rfl) (fun w => by kernel_rfl) ?_
    refine ls_end ?_
    refine qn_then ?_
    refine cs_ret' ?_
    refine qr_then ?_
    refine qr_nilrow 0 5 (Value.int .u8) ?_
    obtain rfl := Option.some.inj H
    refine qr_end3 rfl (fun w' hs => ⟨(none, 0), rfl, ?_⟩)
    exact hs.res1 (t := 0) (by exact rfl)
  · replace H := ite_f q1 H
    refine ls_know (c := false) (dec_f q1) 11 (by kernel_rfl) ?_
    refine ls_on (j := 2) (t := 11) (b := false) rfl rfl (by kernel_rfl) (by kernel_rfl) ?_
    refine ls_val (v := .int .i64 a1) rfl rfl (by kernel_rfl) (fun w => by kernel_rfl) ?_
    refine ls_on (j := 2) (t := 11) (b := false) rfl rfl (by kernel_rfl) (by kernel_rfl) ?_
    refine ls_val (v := .bool (decide (a1 > (8 : Int)))) rfl rfl (by kernel_rfl) (fun w => by kernel_rfl) ?_
    refine ls_val (v := .bool (decide (a1 > (8 : Int)))) rfl rfl (by kernel_rfl) (fun w => by kernel_rfl) ?_
    refine ls_val (v := .bool (decide (a1 > (8 : Int)))) rfl rfl (by kernel_rfl) (fun w => by kernel_rfl) ?_
    by_cases q2 : a1 > (8 : Int)
    · replace H := ite_t q2 H
      refine ls_know (c := true) (dec_t q2) 15 (by kernel_rfl) ?_
      refine ls_off (j := 6) (t := 15) (b := false) (c := true) rfl rfl (by kernel_rfl) (by kernel_rfl) rfl rfl (by kernel_rfl) ?_
      refine ls_off (j := 6) (t := 15) (b := false) (c := true) rfl rfl (by kernel_rfl) (by kernel_rfl) rfl rfl (by kernel_rfl) ?_
      refine ls_off (j := 6) (t := 15) (b := false) (c := true) rfl rfl (by kernel_rfl) (by kernel_rfl) rfl rfl (by kernel_rfl) ?_
      refine ls_off (j := 6) (t := 15) (b := false) (c := true) rfl rfl (by kernel_rfl) (by kernel_rfl) rfl rfl (by kernel_rfl) ?_
      refine ls_val (v := .bool true) rfl rfl (by kernel_rfl) (fun w => by kernel_rfl) ?_
      refine ls_end ?_
      refine qn_then ?_
      refine cs_true (by kernel_rfl) ?_
      refine cs_seq ?_
      refine cs_region (l := [_, _, _]) ?_
      refine ls_val (v := .int .u64 (0 : Int)) rfl rfl (by kernel_rfl) (fun w => by kernel_rfl) ?_
      refine ls_val (v := .slice none 0 0) rfl rfl (by kernel_rfl) (fun w => by kernel_rfl) ?_
      refine ls_val (v := .bool false) rfl rfl (by kernel_rfl) (fun w => by kernel_rfl) ?_
      refine ls_end ?_
      refine qn_then ?_
      refine cs_ret' ?_
      refine qr_then ?_
      refine qr_nilrow 0 5 (Value.int .u8) ?_
      obtain rfl := Option.some.inj H
      refine qr_end3 rfl (fun w' hs => ⟨(none, 0), rfl, ?_⟩)
      exact hs.res1 (t := 0) (by exact rfl)
    · replace H := ite_f q2 H
      refine ls_know (c := false) (dec_f q2) 15 (by kernel_rfl) ?_
      refine ls_on (j := 6) (t := 15) (b := false) rfl rfl (by kernel_rfl) (by kernel_rfl) ?_
      refine ls_val (v := .slice A0 l0.length c0) rfl rfl (by kernel_rfl) (fun w => by kernel_rfl) ?_
      refine ls_on (j := 6) (t := 15) (b := false) rfl rfl (by kernel_rfl) (by kernel_rfl) ?_
      refine ls_val (v := .int .i64 (l0.length : Int)) rfl rfl (by kernel_rfl) (fun w => by kernel_rfl) ?_
      refine ls_on (j := 6) (t := 15) (b := false) rfl rfl (by kernel_rfl) (by kernel_rfl) ?_
      refine ls_val (v := .int .i64 a1) rfl rfl (by kernel_rfl) (fun w => by kernel_rfl) ?_
      refine ls_on (j := 6) (t := 15) (b := false) rfl rfl (by kernel_rfl) (by kernel_rfl) ?_
      refine ls_val (v := .bool (decide ((l0.length : Int) < a1))) rfl rfl (by kernel_rfl) (fun w => by kernel_rfl) ?_
      refine ls_val (v := .bool (decide ((l0.length : Int) < a1))) rfl rfl (by kernel_rfl) (fun w => by kernel_rfl) ?_
      refine ls_end ?_
      refine qn_then ?_
      by_cases q3 : (l0.length : Int) < a1
      · replace H := ite_t q3 H
        refine cs_know (c := true) (dec_t q3) 20 (by kernel_rfl) ?_
        refine cs_true (by kernel_rfl) ?_
        refine cs_seq ?_
        refine cs_region (l := [_, _, _]) ?_
        refine ls_val (v := .int .u64 (0 : Int)) rfl rfl (by kernel_rfl) (fun w => by kernel_rfl) ?_
        refine ls_val (v := .slice none 0 0) rfl rfl (by kernel_rfl) (fun w => by kernel_rfl) ?_
        refine ls_val (v := .bool false) rfl rfl (by kernel_rfl) (fun w => by kernel_rfl) ?_
        refine ls_end ?_
        refine qn_then ?_
        refine cs_ret' ?_
        refine qr_then ?_
        refine qr_nilrow 0 5 (Value.int .u8) ?_
        obtain rfl := Option.some.inj H
        refine qr_end3 rfl (fun w' hs => ⟨(none, 0), rfl, ?_⟩)
        exact hs.res1 (t := 0) (by exact rfl)
      · replace H := ite_f q3 H
        refine cs_know (c := false) (dec_f q3) 20 (by kernel_rfl) ?_
        refine cs_false (by kernel_rfl) ?_
        refine cs_skip' ?_
        refine qn_then ?_
        refine cs_seq ?_
        refine cs_seq ?_
        refine cs_region (l := [_, _, _, _, _]) ?_
        refine ls_val (v := .slice A0 l0.length c0) rfl rfl (by kernel_rfl) (fun w => by kernel_rfl) ?_
        refine ls_val (v := .int .i64 a1) rfl rfl (by kernel_rfl) (fun w => by kernel_rfl) ?_
        obtain ⟨q4, H⟩ := ite_need H
        obtain ⟨q5, H⟩ := ite_need H
        obtain ⟨xl10, hy11, H⟩ := lt_some H
        have hz13 : 0 ≤ (a1).toNat := by omega
        have hz14 : (a1).toNat ≤ l0.length := by omega
        obtain ⟨xA6, xc7, he12, xC9, xR8⟩ := cut_at (A := A0) (c := c0) (l := l0) (E := (Value.int .u8)) 0 ((a1).toNat) hz13 hz14 C0 R0 (m := xl10) (by rw [← hy11] <;> simp)
        refine ls_cutv (A := A0) (c := c0) (l := l0) (e := 5) (a := 0) (b := (a1).toNat) rfl rfl (by kernel_rfl) rfl (by kernel_rfl) (by kernel_rfl) (by kernel_rfl) (.inl ⟨rfl, rfl⟩) (.inr ⟨.i64, by rw [Int.toNat_of_nonneg (by first | assumption | omega)]; kernel_rfl⟩) hz13 hz14 C0 he12 ?_
        refine ls_val (v := .int .i64 (xl10.length : Int)) rfl rfl (by kernel_rfl) (fun w => by kernel_rfl) ?_
        refine ls_val (v := .int .i64 (0 : Int)) rfl rfl (by kernel_rfl) (fun w => by kernel_rfl) ?_
        refine ls_end ?_
        refine qn_then ?_
        refine cs_block ?_
        refine cs_sub (s0) (sub_nil _) ?_
        refine cs_loop (fun kk f S => ∃ (g : Fr) (x4_1 : Int) (x25_1 : Int), f = upd (upd (upd (upd (upd (upd g 0 (.slice A0 l0.length c0)) 1 (.int .i64 a1)) 4 (.int .u64 x4_1)) 23 (.slice xA6 xl10.length xc7)) 24 (.int .i64 (xl10.length : Int))) 25 (.int .i64 x25_1) ∧ S = s0 ∧ codec_Take.l1 l0 a1 xl10 kk x4_1 x25_1 = some r) k ?_ ?_ ?_
        · exact ⟨_, (0 : Int), (0 : Int), fr_next (fr_next (fr_next (fr_next (fr_next (fr_next (rfl) (by kernel_rfl)) (by kernel_rfl)) (by kernel_rfl)) (by kernel_rfl)) (by kernel_rfl)) (by kernel_rfl), rfl, H⟩
        · rintro f S ⟨g1, x4_1, x25_1, rfl, rfl, H⟩; cases H
        · rintro k1 f S ⟨g1, x4_1, x25_1, rfl, rfl, H⟩
          replace H : (if x25_1 < (xl10.length : Int) then (if 0 ≤ x25_1 then lt (IntKind.wrap .u64 ((xl10).getD (x25_1).toNat 0)) fun y20 => (if 0 ≤ IntKind.wrap .i64 ((8 : Int) * x25_1) then lt (shlv .u64 y20 (IntKind.wrap .i64 ((8 : Int) * x25_1))) fun y23 => (codec_Take.l1 l0 a1 xl10 k1) (bits .or .u64 x4_1 y23) (IntKind.wrap .i64 (x25_1 + (1 : Int))) else none) else none) else lt (l0.drop (a1).toNat) fun xl30 => (if (([] : List Int).length + xl30.length) * 1 ≤ 140737488355328 then some (x4_1, (([] : List Int) ++ xl30), true) else none)) = some r := H
          refine cs_seq ?_
          refine cs_region (l := [_]) ?_
          refine ls_val (v := .bool (decide (x25_1 < (xl10.length : Int)))) rfl rfl (by kernel_rfl) (fun w => by kernel_rfl) ?_
          refine ls_end ?_
          refine qn_then ?_
          refine cs_seq ?_
          by_cases q15 : x25_1 < (xl10.length : Int)
          · replace H := ite_t q15 H
            refine cs_know (c := true) (dec_t q15) 26 (by kernel_rfl) ?_
            refine cs_true (by kernel_rfl) ?_
            refine cs_skip' ?_
            refine qn_then ?_
            refine cs_seq ?_
            refine cs_block ?_
            refine cs_seq ?_
            refine cs_region (l := [_, _, _, _, _]) ?_
            refine ls_val (v := .int .i64 x25_1) rfl rfl (by kernel_rfl) (fun w => by kernel_rfl) ?_
            obtain ⟨q16, H⟩ := ite_need H
            obtain ⟨ad17, hA18, hc19⟩ := idx_at (E := (Value.int .u8)) (i := x25_1) xR8 q16 q15 0
            refine ls_idxv (A := xA6) (c := xc7) (l := xl10) (k := .i64) (i := x25_1) (e := 5) (ad := ad17) rfl rfl (by kernel_rfl) hA18 rfl (by kernel_rfl) (by kernel_rfl) (by kernel_rfl) (by kernel_rfl) q16 q15 ?_
            refine ls_load (a0 := (ad17.add (x25_1).toNat)) (v := .int .u8 ((xl10).getD (x25_1).toNat 0)) (de := (TypeDesc.int .u8)) rfl rfl (by kernel_rfl) rfl (by kernel_rfl) (by kernel_rfl) (by kernel_rfl) (fun w hs => cell_step hs.below hc19) ?_
            refine ls_val (v := .int .i64 x25_1) rfl rfl (by kernel_rfl) (fun w => by kernel_rfl) ?_
            refine ls_val (v := .int .u8 ((xl10).getD (x25_1).toNat 0)) rfl rfl (by kernel_rfl) (fun w => by kernel_rfl) ?_
            refine ls_end ?_
            refine qn_then ?_
            refine cs_region (l := [_, _, _, _, _, _, _, _]) ?_
            refine ls_val (v := .int .u64 x4_1) rfl rfl (by kernel_rfl) (fun w => by kernel_rfl) ?_
            refine ls_val (v := .int .u8 ((xl10).getD (x25_1).toNat 0)) rfl rfl (by kernel_rfl) (fun w => by kernel_rfl) ?_
            obtain ⟨y20, hy21, H⟩ := lt_some H
            refine ls_val (v := .int .u64 (IntKind.wrap .u64 ((xl10).getD (x25_1).toNat 0))) rfl rfl (by kernel_rfl) (fun w => by kernel_rfl) ?_
            refine ls_ren 32 (v := .int .u64 (IntKind.wrap .u64 ((xl10).getD (x25_1).toNat 0))) (v' := .int .u64 y20) (by kernel_rfl) (by rw [hy21]) ?_
            refine ls_val (v := .int .i64 x25_1) rfl rfl (by kernel_rfl) (fun w => by kernel_rfl) ?_
            refine ls_val (v := .int .i64 (IntKind.wrap .i64 ((8 : Int) * x25_1))) rfl rfl (by kernel_rfl) (fun w => by kernel_rfl) ?_
            obtain ⟨q22, H⟩ := ite_need H
            obtain ⟨y23, hy24, H⟩ := lt_some H
            refine ls_shiftl (k := .u64) (yk := .i64) (x := y20) (y := (IntKind.wrap .i64 ((8 : Int) * x25_1))) rfl rfl (by kernel_rfl) (fun w => by kernel_rfl) q22 ?_
            refine ls_ren 35 (v := .int .u64 (shlv .u64 y20 (IntKind.wrap .i64 ((8 : Int) * x25_1)))) (v' := .int .u64 y23) (by kernel_rfl) (by rw [hy24]) ?_
            refine ls_val (v := .int .u64 (bits .or .u64 x4_1 y23)) rfl rfl (by kernel_rfl) (fun w => by kernel_rfl) ?_
            refine ls_val (v := .int .u64 (bits .or .u64 x4_1 y23)) rfl rfl (by kernel_rfl) (fun w => by kernel_rfl) ?_
            refine ls_end ?_
            refine qn_block ?_
            refine qn_then ?_
            refine cs_region (l := [_, _]) ?_
            refine ls_val (v := .int .i64 (IntKind.wrap .i64 (x25_1 + (1 : Int)))) rfl rfl (by kernel_rfl) (fun w => by kernel_rfl) ?_
            refine ls_val (v := .int .i64 (IntKind.wrap .i64 (x25_1 + (1 : Int)))) rfl rfl (by kernel_rfl) (fun w => by kernel_rfl) ?_
            refine ls_end ?_
            refine qn_again k1 (s0) (Nat.le_refl _) ⟨_, (bits .or .u64 x4_1 y23), (IntKind.wrap .i64 (x25_1 + (1 : Int))), fr_next (fr_next (fr_next (fr_next (fr_next (fr_next (rfl) (by kernel_rfl)) (by kernel_rfl)) (by kernel_rfl)) (by kernel_rfl)) (by kernel_rfl)) (by kernel_rfl), rfl, H⟩ (sub_nil _)
          · replace H := ite_f q15 H
            refine cs_know (c := false) (dec_f q15) 26 (by kernel_rfl) ?_
            refine cs_false (by kernel_rfl) ?_
            refine cs_exit' ?_
            refine qx_then ?_
            refine qx_then ?_
            refine qx_same ?_
            refine qn_then ?_
            refine cs_seq ?_
            refine cs_region (l := [_, _, _, _, _, _, _, _, _]) ?_
            refine ls_val (v := .int .u64 x4_1) rfl rfl (by kernel_rfl) (fun w => by kernel_rfl) ?_
            refine ls_lit (E := (Value.int .u8)) (e := 5) 0 rfl rfl (by kernel_rfl) ([] : List Int) (by exact of_decide_eq_true (by kernel_rfl)) (fun w => by kernel_rfl) ?_
            intro g25
            refine ls_val (v := .slice A0 l0.length c0) rfl rfl (by kernel_rfl) (fun w => by kernel_rfl) ?_
            refine ls_val (v := .int .i64 a1) rfl rfl (by kernel_rfl) (fun w => by kernel_rfl) ?_
            obtain ⟨xl30, hy31, H⟩ := lt_some H
            have hz33 : (a1).toNat ≤ l0.length := by omega
            have hz34 : l0.length ≤ l0.length := by omega
            obtain ⟨xA26, xc27, he32, xC29, xR28⟩ := cut_at (A := A0) (c := c0) (l := l0) (E := (Value.int .u8)) ((a1).toNat) l0.length hz33 hz34 C0 R0 (m := xl30) (by rw [← hy31] <;> simp)
            refine ls_cutv (A := A0) (c := c0) (l := l0) (e := 5) (a := (a1).toNat) (b := l0.length) rfl rfl (by kernel_rfl) rfl (by kernel_rfl) (by kernel_rfl) (by kernel_rfl) (.inr ⟨.i64, by rw [Int.toNat_of_nonneg (by first | assumption | omega)]; kernel_rfl⟩) (.inl ⟨rfl, rfl⟩) hz33 hz34 C0 he32 ?_
            obtain ⟨q35, H⟩ := ite_need H
            refine ls_app (A := (some ⟨g25, 0, none⟩)) (c := ([] : List Int).length) (B := xA26) (cb := xc27) (e := 5) (z := (Value.int .u8 0)) (E := (Value.int .u8)) (l := ([] : List Int)) (m := xl30) (bytes := 1) 0 rfl rfl (by kernel_rfl) rfl (by kernel_rfl) (by exact rfl) (by kernel_rfl) (fun w hs => (hs.old xR28)) (by kernel_rfl) (by kernel_rfl) rfl (fun _ => rfl) (by decide) q35 ?_
            intro xA36 xc37
            refine ls_val (v := .int .u64 x4_1) rfl rfl (by kernel_rfl) (fun w => by kernel_rfl) ?_
            refine ls_val (v := .slice xA36 (([] : List Int) ++ xl30).length xc37) rfl rfl (by kernel_rfl) (fun w => by kernel_rfl) ?_
            refine ls_val (v := .bool true) rfl rfl (by kernel_rfl) (fun w => by kernel_rfl) ?_
            refine ls_end ?_
            refine qn_then ?_
            refine cs_ret' ?_
            obtain rfl := Option.some.inj H
            refine qr_end3 rfl (fun w' hs => ⟨(xA36, xc37), rfl, ?_⟩)
            exact hs.res1 (t := 0) (by exact rfl)

/-! ### shadowbox/shadowboxref01.Take: function 12 -/
def shadowboxref01_Take.l1 (l0 : List Int) (a1 : Int) : Nat → Int → Int → Option (Int × List Int × Bool)
  | 0, _, _ => none
  | k1 + 1, x7_1, x8_1 => (if x8_1 ≥ (0 : Int) then (if 0 ≤ x8_1 then (if x8_1 < (l0.length : Int) then lt (IntKind.wrap .u64 ((l0).getD (x8_1).toNat 0)) fun y10 => lt (IntKind.wrap .u64 ((IntKind.wrap .u64 (x7_1 * (256 : Int))) + y10)) fun y12 => (shadowboxref01_Take.l1 l0 a1 k1) y12 (IntKind.wrap .i64 (x8_1 - (1 : Int))) else none) else none) else (if 0 ≤ a1 then (if a1 ≤ (l0.length : Int) then lt (l0.drop (a1).toNat) fun xl21 => (if (([] : List Int).length + xl21.length) * 1 ≤ 140737488355328 then some (x7_1, (([] : List Int) ++ xl21), true) else none) else none) else none))
def shadowboxref01_Take.f (k : Nat) (l0 : List Int) (a1 : Int) : Option (Int × List Int × Bool) :=
  (if a1 < (1 : Int) then some ((0 : Int), ([] : List Int), false) else (if a1 > (8 : Int) then some ((0 : Int), ([] : List Int), false) else (if (l0.length : Int) < a1 then some ((0 : Int), ([] : List Int), false) else shadowboxref01_Take.l1 l0 a1 k (0 : Int) (IntKind.wrap .i64 (a1 - (1 : Int))))))
set_option maxRecDepth 100000 in
set_option maxHeartbeats 4000000 in
theorem shadowboxref01_Take.calls (k : Nat) (A0 : Option Addr) (c0 : Nat) (l0 : List Int) (a1 : Int) (r : Int × List Int × Bool) (w : World) (R0 : Rd w A0 (en (Value.int .u8) l0)) (C0 : l0.length ≤ c0) (H : shadowboxref01_Take.f k l0 a1 = some r) :
    Calls Try.prog 12 #[.slice A0 l0.length c0, .int .i64 a1] w fun e w' => ∃ x : (Option Addr × Nat), e = .returned (.tuple #[.int .u64 r.1, .slice x.1 r.2.1.length x.2, .bool r.2.2]) ∧ St w (sput s0 0 (some (Ck.sl 5 (Value.int .u8) x.1 x.2 r.2.1))) w' := by
  unfold shadowboxref01_Take.f at H
  refine enter (n := 41) Try.func12 rfl (by kernel_rfl) (by kernel_rfl) ?_
  refine cs_seq ?_
  refine cs_region (l := [_, _, _]) ?_
  refine ls_val (v := .int .u64 (0 : Int)) rfl rfl (by kernel_rfl) (fun w => by kernel_rfl) ?_
  refine ls_val (v := .slice none 0 0) rfl rfl (by kernel_rfl) (fun w => by kernel_rfl) ?_
  refine ls_val (v := .bool false) rfl rfl (by kernel_rfl) (fun w => by kernel_rfl) ?_
  refine ls_end ?_
  refine qn_then ?_
  refine cs_seq ?_
  refine cs_seq ?_
  refine cs_region (l := [_, _, _, _, _, _, _, _, _, _, _, _]) ?_
  refine ls_val (v := .int .i64 a1) rfl rfl (by kernel_rfl) (fun w => by kernel_rfl) ?_
  refine ls_val (v := .bool (decide (a1 < (1 : Int)))) rfl rfl (by kernel_rfl) (fun w => by kernel_rfl) ?_
  refine ls_val (v := .bool (decide (a1 < (1 : Int)))) rfl rfl (by kernel_rfl) (fun w => by kernel_rfl) ?_
  by_cases q1 : a1 < (1 : Int)
  · replace H := ite_t q1 H
    refine ls_know (c := true) (dec_t q1) 11 (by kernel_rfl) ?_
    refine ls_off (j := 2) (t := 11) (b := false) (c := true) rfl rfl (by kernel_rfl) (by kernel_rfl) rfl rfl (by kernel_rfl) ?_
    refine ls_off (j := 2) (t := 11) (b := false) (c := true) rfl rfl (by kernel_rfl) (by kernel_rfl) rfl rfl (by kernel_rfl) ?_
    refine ls_val (v := .bool true) rfl rfl (by kernel_rfl) (fun w => by kernel_rfl) ?_
    refine ls_val (v := .bool true) rfl rfl (by kernel_rfl) (fun w => by kernel_rfl) ?_
    refine ls_off (j := 6) (t := 15) (b := false) (c := true) rfl rfl (by kernel_rfl) (by kernel_rfl) rfl rfl (by kernel_rfl) ?_
    refine ls_off (j := 6) (t := 15) (b := false) (c := true) rfl rfl (by kernel_rfl) (by kernel_rfl) rfl rfl (by kernel_rfl) ?_
    refine ls_off (j := 6) (t := 15) (b := false) (c := true) rfl rfl (by kernel_rfl) (by kernel_rfl) rfl rfl (by kernel_rfl) ?_
    refine ls_off (j := 6) (t := 15) (b := false) (c := true) rfl rfl (by kernel_rfl) (by kernel_rfl) rfl rfl (by kernel_rfl) ?_
    refine ls_val (v := .bool true) rfl rfl (by kernel_rfl) (fun w => by kernel_rfl) ?_
    refine ls_end ?_
    refine qn_then ?_
    refine cs_true (by kernel_rfl) ?_
    refine cs_seq ?_
    refine cs_region (l := [_, _, _]) ?_
    refine ls_val (v := .int .u64 (0 : Int)) rfl rfl (by kernel_rfl) (fun w => by kernel_rfl) ?_
    refine ls_val (v := .slice none 0 0) rfl rfl (by kernel_rfl) (fun w => by kernel_rfl) ?_
    refine ls_val (v := .bool false) rfl rfl (by kernel_rfl) (fun w => by kernel_rfl) ?_
    refine ls_end ?_
    refine qn_then ?_
    refine cs_ret' ?_
    refine qr_then ?_
    refine qr_nilrow 0 5 (Value.int .u8) ?_
    obtain rfl := Option.some.inj H
    refine qr_end3 rfl (fun w' hs => ⟨(none, 0), rfl, ?_⟩)
    exact hs.res1 (t := 0) (by exact rfl)
  · replace H := ite_f q1 H
    refine ls_know (c := false) (dec_f q1) 11 (by kernel_rfl) ?_
    refine ls_on (j := 2) (t := 11) (b := false) rfl rfl (by kernel_rfl) (by kernel_rfl) ?_
    refine ls_val (v := .int .i64 a1) rfl rfl (by kernel_rfl) (fun w => by kernel_rfl) ?_
    refine ls_on (j := 2) (t := 11) (b := false) rfl rfl (by kernel_rfl) (by kernel_rfl) ?_
    refine ls_val (v := .bool (decide (a1 > (8 : Int)))) rfl rfl (by kernel_rfl) (fun w => by kernel_rfl) ?_
    refine ls_val (v := .bool (decide (a1 > (8 : Int)))) rfl rfl (by kernel_rfl) (fun w => by kernel_rfl) ?_
    refine ls_val (v := .bool (decide (a1 > (8 : Int)))) rfl rfl (by kernel_rfl) (fun w => by kernel_rfl) ?_
    by_cases q2 : a1 > (8 : Int)
    · replace H := ite_t q2 H
      refine ls_know (c := true) (dec_t q2) 15 (by kernel_rfl) ?_
      refine ls_off (j := 6) (t := 15) (b := false) (c := true) rfl rfl (by kernel_rfl) (by kernel_rfl) rfl rfl (by kernel_rfl) ?_
      refine ls_off (j := 6) (t := 15) (b := false) (c := true) rfl rfl (by kernel_rfl) (by kernel_rfl) rfl rfl (by kernel_rfl) ?_
      refine ls_off (j := 6) (t := 15) (b := false) (c := true) rfl rfl (by kernel_rfl) (by kernel_rfl) rfl rfl (by kernel_rfl) ?_
      refine ls_off (j := 6) (t := 15) (b := false) (c := true) rfl rfl (by kernel_rfl) (by kernel_rfl) rfl rfl (by kernel_rfl) ?_
      refine ls_val (v := .bool true) rfl rfl (by kernel_rfl) (fun w => by kernel_rfl) ?_
      refine ls_end ?_
      refine qn_then ?_
      refine cs_true (by kernel_rfl) ?_
      refine cs_seq ?_
      refine cs_region (l := [_, _, _]) ?_
      refine ls_val (v := .int .u64 (0 : Int)) rfl rfl (by kernel_rfl) (fun w => by kernel_rfl) ?_
      refine ls_val (v := .slice none 0 0) rfl rfl (by kernel_rfl) (fun w => by kernel_rfl) ?_
      refine ls_val (v := .bool false) rfl rfl (by kernel_rfl) (fun w => by kernel_rfl) ?_
      refine ls_end ?_
      refine qn_then ?_
      refine cs_ret' ?_
      refine qr_then ?_
      refine qr_nilrow 0 5 (Value.int .u8) ?_
      obtain rfl := Option.some.inj H
      refine qr_end3 rfl (fun w' hs => ⟨(none, 0), rfl, ?_⟩)
      exact hs.res1 (t := 0) (by exact rfl)
    · replace H := ite_f q2 H
      refine ls_know (c := false) (dec_f q2) 15 (by kernel_rfl) ?_
      refine ls_on (j := 6) (t := 15) (b := false) rfl rfl (by kernel_rfl) (by kernel_rfl) ?_
      refine ls_val (v := .slice A0 l0.length c0) rfl rfl (by kernel_rfl) (fun w => by kernel_rfl) ?_
      refine ls_on (j := 6) (t := 15) (b := false) rfl rfl (by kernel_rfl) (by kernel_rfl) ?_
      refine ls_val (v := .int .i64 (l0.length : Int)) rfl rfl (by kernel_rfl) (fun w => by kernel_rfl) ?_
      refine ls_on (j := 6) (t := 15) (b := false) rfl rfl (by kernel_rfl) (by kernel_rfl) ?_
      refine ls_val (v := .int .i64 a1) rfl rfl (by kernel_rfl) (fun w => by kernel_rfl) ?_
      refine ls_on (j := 6) (t := 15) (b := false) rfl rfl (by kernel_rfl) (by kernel_rfl) ?_
      refine ls_val (v := .bool (decide ((l0.length : Int) < a1))) rfl rfl (by kernel_rfl) (fun w => by kernel_rfl) ?_
      refine ls_val (v := .bool (decide ((l0.length : Int) < a1))) rfl rfl (by kernel_rfl) (fun w => by kernel_rfl) ?_
      refine ls_end ?_
      refine qn_then ?_
      by_cases q3 : (l0.length : Int) < a1
      · replace H := ite_t q3 H
        refine cs_know (c := true) (dec_t q3) 20 (by kernel_rfl) ?_
        refine cs_true (by kernel_rfl) ?_
        refine cs_seq ?_
        refine cs_region (l := [_, _, _]) ?_
        refine ls_val (v := .int .u64 (0 : Int)) rfl rfl (by kernel_rfl) (fun w => by kernel_rfl) ?_
        refine ls_val (v := .slice none 0 0) rfl rfl (by kernel_rfl) (fun w => by kernel_rfl) ?_
        refine ls_val (v := .bool false) rfl rfl (by kernel_rfl) (fun w => by kernel_rfl) ?_
        refine ls_end ?_
        refine qn_then ?_
        refine cs_ret' ?_
        refine qr_then ?_
        refine qr_nilrow 0 5 (Value.int .u8) ?_
        obtain rfl := Option.some.inj H
        refine qr_end3 rfl (fun w' hs => ⟨(none, 0), rfl, ?_⟩)
        exact hs.res1 (t := 0) (by exact rfl)
      · replace H := ite_f q3 H
        refine cs_know (c := false) (dec_f q3) 20 (by kernel_rfl) ?_
        refine cs_false (by kernel_rfl) ?_
        refine cs_skip' ?_
        refine qn_then ?_
        refine cs_seq ?_
        refine cs_region (l := [_]) ?_
        refine ls_val (v := .int .u64 (0 : Int)) rfl rfl (by kernel_rfl) (fun w => by kernel_rfl) ?_
        refine ls_end ?_
        refine qn_then ?_
        refine cs_seq ?_
        refine cs_seq ?_
        refine cs_region (l := [_, _, _]) ?_
        refine ls_val (v := .int .i64 a1) rfl rfl (by kernel_rfl) (fun w => by kernel_rfl) ?_
        refine ls_val (v := .int .i64 (IntKind.wrap .i64 (a1 - (1 : Int)))) rfl rfl (by kernel_rfl) (fun w => by kernel_rfl) ?_
        refine ls_val (v := .int .i64 (IntKind.wrap .i64 (a1 - (1 : Int)))) rfl rfl (by kernel_rfl) (fun w => by kernel_rfl) ?_
        refine ls_end ?_
        refine qn_then ?_
        refine cs_block ?_
        refine cs_sub (s0) (sub_nil _) ?_
        refine cs_loop (fun kk f S => ∃ (g : Fr) (x7_1 : Int) (x8_1 : Int), f = upd (upd (upd (upd g 0 (.slice A0 l0.length c0)) 1 (.int .i64 a1)) 7 (.int .u64 x7_1)) 8 (.int .i64 x8_1) ∧ S = s0 ∧ shadowboxref01_Take.l1 l0 a1 kk x7_1 x8_1 = some r) k ?_ ?_ ?_
        · exact ⟨_, (0 : Int), (IntKind.wrap .i64 (a1 - (1 : Int))), fr_next (fr_next (fr_next (fr_next (rfl) (by kernel_rfl)) (by kernel_rfl)) (by kernel_rfl)) (by kernel_rfl), rfl, H⟩
        · rintro f S ⟨g1, x7_1, x8_1, rfl, rfl, H⟩; cases H
        · rintro k1 f S ⟨g1, x7_1, x8_1, rfl, rfl, H⟩
          replace H : (if x8_1 ≥ (0 : Int) then (if 0 ≤ x8_1 then (if x8_1 < (l0.length : Int) then lt (IntKind.wrap .u64 ((l0).getD (x8_1).toNat 0)) fun y10 => lt (IntKind.wrap .u64 ((IntKind.wrap .u64 (x7_1 * (256 : Int))) + y10)) fun y12 => (shadowboxref01_Take.l1 l0 a1 k1) y12 (IntKind.wrap .i64 (x8_1 - (1 : Int))) else none) else none) else (if 0 ≤ a1 then (if a1 ≤ (l0.length : Int) then lt (l0.drop (a1).toNat) fun xl21 => (if (([] : List Int).length + xl21.length) * 1 ≤ 140737488355328 then some (x7_1, (([] : List Int) ++ xl21), true) else none) else none) else none)) = some r := H
          refine cs_seq ?_
          refine cs_seq ?_
          refine cs_region (l := [_, _]) ?_
          refine ls_val (v := .int .i64 x8_1) rfl rfl (by kernel_rfl) (fun w => by kernel_rfl) ?_
          refine ls_val (v := .bool (decide (x8_1 ≥ (0 : Int)))) rfl rfl (by kernel_rfl) (fun w => by kernel_rfl) ?_
          refine ls_end ?_
          refine qn_then ?_
          by_cases q4 : x8_1 ≥ (0 : Int)
          · replace H := ite_t q4 H
            refine cs_know (c := true) (dec_t q4) 24 (by kernel_rfl) ?_
            refine cs_true (by kernel_rfl) ?_
            refine cs_skip' ?_
            refine qn_then ?_
            refine cs_seq ?_
            refine cs_block ?_
            refine cs_region (l := [_, _, _, _, _, _, _, _, _]) ?_
            refine ls_val (v := .int .u64 x7_1) rfl rfl (by kernel_rfl) (fun w => by kernel_rfl) ?_
            refine ls_val (v := .int .u64 (IntKind.wrap .u64 (x7_1 * (256 : Int)))) rfl rfl (by kernel_rfl) (fun w => by kernel_rfl) ?_
            refine ls_val (v := .slice A0 l0.length c0) rfl rfl (by kernel_rfl) (fun w => by kernel_rfl) ?_
            refine ls_val (v := .int .i64 x8_1) rfl rfl (by kernel_rfl) (fun w => by kernel_rfl) ?_
            obtain ⟨q5, H⟩ := ite_need H
            obtain ⟨q6, H⟩ := ite_need H
            obtain ⟨ad7, hA8, hc9⟩ := idx_at (E := (Value.int .u8)) (i := x8_1) R0 q5 q6 0
            refine ls_idxv (A := A0) (c := c0) (l := l0) (k := .i64) (i := x8_1) (e := 5) (ad := ad7) rfl rfl (by kernel_rfl) hA8 rfl (by kernel_rfl) (by kernel_rfl) (by kernel_rfl) (by kernel_rfl) q5 q6 ?_
            refine ls_load (a0 := (ad7.add (x8_1).toNat)) (v := .int .u8 ((l0).getD (x8_1).toNat 0)) (de := (TypeDesc.int .u8)) rfl rfl (by kernel_rfl) rfl (by kernel_rfl) (by kernel_rfl) (by kernel_rfl) (fun w hs => cell_step hs.below hc9) ?_
            obtain ⟨y10, hy11, H⟩ := lt_some H
            refine ls_val (v := .int .u64 (IntKind.wrap .u64 ((l0).getD (x8_1).toNat 0))) rfl rfl (by kernel_rfl) (fun w => by kernel_rfl) ?_
            refine ls_ren 33 (v := .int .u64 (IntKind.wrap .u64 ((l0).getD (x8_1).toNat 0))) (v' := .int .u64 y10) (by kernel_rfl) (by rw [hy11]) ?_
            obtain ⟨y12, hy13, H⟩ := lt_some H
            refine ls_val (v := .int .u64 (IntKind.wrap .u64 ((IntKind.wrap .u64 (x7_1 * (256 : Int))) + y10))) rfl rfl (by kernel_rfl) (fun w => by kernel_rfl) ?_
            refine ls_ren 34 (v := .int .u64 (IntKind.wrap .u64 ((IntKind.wrap .u64 (x7_1 * (256 : Int))) + y10))) (v' := .int .u64 y12) (by kernel_rfl) (by rw [hy13]) ?_
            refine ls_val (v := .int .u64 y12) rfl rfl (by kernel_rfl) (fun w => by kernel_rfl) ?_
            refine ls_end ?_
            refine qn_block ?_
            refine qn_then ?_
            refine cs_region (l := [_, _, _]) ?_
            refine ls_val (v := .int .i64 x8_1) rfl rfl (by kernel_rfl) (fun w => by kernel_rfl) ?_
            refine ls_val (v := .int .i64 (IntKind.wrap .i64 (x8_1 - (1 : Int)))) rfl rfl (by kernel_rfl) (fun w => by kernel_rfl) ?_
            refine ls_val (v := .int .i64 (IntKind.wrap .i64 (x8_1 - (1 : Int)))) rfl rfl (by kernel_rfl) (fun w => by kernel_rfl) ?_
            refine ls_end ?_
            refine qn_again k1 (s0) (Nat.le_refl _) ⟨_, y12, (IntKind.wrap .i64 (x8_1 - (1 : Int))), fr_next (fr_next (fr_next (fr_next (rfl) (by kernel_rfl)) (by kernel_rfl)) (by kernel_rfl)) (by kernel_rfl), rfl, H⟩ (sub_nil _)
          · replace H := ite_f q4 H
            refine cs_know (c := false) (dec_f q4) 24 (by kernel_rfl) ?_
            refine cs_false (by kernel_rfl) ?_
            refine cs_exit' ?_
            refine qx_then ?_
            refine qx_then ?_
            refine qx_same ?_
            refine qn_then ?_
            refine cs_seq ?_
            refine cs_region (l := [_, _, _, _, _, _, _, _, _]) ?_
            refine ls_val (v := .int .u64 x7_1) rfl rfl (by kernel_rfl) (fun w => by kernel_rfl) ?_
            refine ls_lit (E := (Value.int .u8)) (e := 5) 0 rfl rfl (by kernel_rfl) ([] : List Int) (by exact of_decide_eq_true (by kernel_rfl)) (fun w => by kernel_rfl) ?_
            intro g14
            refine ls_val (v := .slice A0 l0.length c0) rfl rfl (by kernel_rfl) (fun w => by kernel_rfl) ?_
            refine ls_val (v := .int .i64 a1) rfl rfl (by kernel_rfl) (fun w => by kernel_rfl) ?_
            obtain ⟨q15, H⟩ := ite_need H
            obtain ⟨q16, H⟩ := ite_need H
            obtain ⟨xl21, hy22, H⟩ := lt_some H
            have hz24 : (a1).toNat ≤ l0.length := by omega
            have hz25 : l0.length ≤ l0.length := by omega
            obtain ⟨xA17, xc18, he23, xC20, xR19⟩ := cut_at (A := A0) (c := c0) (l := l0) (E := (Value.int .u8)) ((a1).toNat) l0.length hz24 hz25 C0 R0 (m := xl21) (by rw [← hy22] <;> simp)
            refine ls_cutv (A := A0) (c := c0) (l := l0) (e := 5) (a := (a1).toNat) (b := l0.length) rfl rfl (by kernel_rfl) rfl (by kernel_rfl) (by kernel_rfl) (by kernel_rfl) (.inr ⟨.i64, by rw [Int.toNat_of_nonneg (by first | assumption | omega)]; kernel_rfl⟩) (.inl ⟨rfl, rfl⟩) hz24 hz25 C0 he23 ?_
            obtain ⟨q26, H⟩ := ite_need H
            refine ls_app (A := (some ⟨g14, 0, none⟩)) (c := ([] : List Int).length) (B := xA17) (cb := xc18) (e := 5) (z := (Value.int .u8 0)) (E := (Value.int .u8)) (l := ([] : List Int)) (m := xl21) (bytes := 1) 0 rfl rfl (by kernel_rfl) rfl (by kernel_rfl) (by exact rfl) (by kernel_rfl) (fun w hs => (hs.old xR19)) (by kernel_rfl) (by kernel_rfl) rfl (fun _ => rfl) (by decide) q26 ?_
            intro xA27 xc28
            refine ls_val (v := .int .u64 x7_1) rfl rfl (by kernel_rfl) (fun w => by kernel_rfl) ?_
            refine ls_val (v := .slice xA27 (([] : List Int) ++ xl21).length xc28) rfl rfl (by kernel_rfl) (fun w => by kernel_rfl) ?_
            refine ls_val (v := .bool true) rfl rfl (by kernel_rfl) (fun w => by kernel_rfl) ?_
            refine ls_end ?_
            refine qn_then ?_
            refine cs_ret' ?_
            obtain rfl := Option.some.inj H
            refine qr_end3 rfl (fun w' hs => ⟨(xA27, xc28), rfl, ?_⟩)
            exact hs.res1 (t := 0) (by exact rfl)

/-! ### shadowbox/codec.Fixed: function 13 -/
def codec_Fixed.l3 (a1 : Int) (l2 : List Int) (x23_1 : Int) (l1 : (List Int) → Int → Option (List Int)) : Nat → (List Int) → Int → Option (List Int)
  | 0, _, _ => none
  | k3 + 1, l7_3, x28_3 => (if x28_3 < a1 then (if 0 ≤ IntKind.wrap .i64 ((8 : Int) * x28_3) then lt (shrv .u64 ((l2).getD (x23_1).toNat 0) (IntKind.wrap .i64 ((8 : Int) * x28_3))) fun y14 => (if (l7_3.length + ([IntKind.wrap .u8 y14]).length) * 1 ≤ 140737488355328 then (codec_Fixed.l3 a1 l2 x23_1 l1 k3) (l7_3 ++ [IntKind.wrap .u8 y14]) (IntKind.wrap .i64 (x28_3 + (1 : Int))) else none) else none) else l1 l7_3 (IntKind.wrap .i64 (x23_1 + (1 : Int))))
def codec_Fixed.j2 (a1 : Int) (l2 : List Int) (l7_1 : List Int) (x23_1 : Int) (k1 : Nat) (l1 : (List Int) → Int → Option (List Int)) : Option (List Int) := (if 0 ≤ x23_1 then (if x23_1 < (l2.length : Int) then codec_Fixed.l3 a1 l2 x23_1 l1 k1 l7_1 (0 : Int) else none) else none)
def codec_Fixed.l1 (a1 : Int) (l2 : List Int) : Nat → (List Int) → Int → Option (List Int)
  | 0, _, _ => none
  | k1 + 1, l7_1, x23_1 => (if x23_1 < (l2.length : Int) then (codec_Fixed.j2 a1 l2 l7_1 x23_1 k1 (codec_Fixed.l1 a1 l2 k1)) else some l7_1)
def codec_Fixed.f (k : Nat) (l0 : List Int) (a1 : Int) (l2 : List Int) : Option (List Int) :=
  (if (([] : List Int).length + l0.length) * 1 ≤ 140737488355328 then (if a1 < (1 : Int) then some (([] : List Int) ++ l0) else (if a1 > (8 : Int) then some (([] : List Int) ++ l0) else codec_Fixed.l1 a1 l2 k (([] : List Int) ++ l0) (0 : Int))) else none)
set_option maxRecDepth 100000 in
set_option maxHeartbeats 4000000 in
theorem codec_Fixed.calls (k : Nat) (A0 : Option Addr) (c0 : Nat) (l0 : List Int) (a1 : Int) (A2 : Option Addr) (c2 : Nat) (l2 : List Int) (r : List Int) (w : World) (R0 : Rd w A0 (en (Value.int .u8) l0)) (C0 : l0.length ≤ c0) (R2 : Rd w A2 (en (Value.int .u64) l2)) (C2 : l2.length ≤ c2) (H : codec_Fixed.f k l0 a1 l2 = some r) :
    Calls Try.prog 13 #[.slice A0 l0.length c0, .int .i64 a1, .slice A2 l2.length c2] w fun e w' => ∃ x : (Option Addr × Nat), e = .returned (.slice x.1 r.length x.2) ∧ St w (sput s0 0 (some (Ck.sl 5 (Value.int .u8) x.1 x.2 r))) w' := by
  unfold codec_Fixed.f at H
  refine enter (n := 42) Try.func13 rfl (by kernel_rfl) (by kernel_rfl) ?_
  refine cs_seq ?_
  refine cs_region (l := [_]) ?_
  refine ls_val (v := .slice none 0 0) rfl rfl (by kernel_rfl) (fun w => by kernel_rfl) ?_
  refine ls_end ?_
  refine qn_then ?_
  refine cs_seq ?_
  refine cs_region (l := [_, _, _, _]) ?_
  refine ls_lit (E := (Value.int .u8)) (e := 5) 0 rfl rfl (by kernel_rfl) ([] : List Int) (by exact of_decide_eq_true (by kernel_rfl)) (fun w => by kernel_rfl) ?_
  intro g1
  refine ls_val (v := .slice A0 l0.length c0) rfl rfl (by kernel_rfl) (fun w => by kernel_rfl) ?_
  obtain ⟨q2, H⟩ := ite_need H
  refine ls_app (A := (some ⟨g1, 0, none⟩)) (c := ([] : List Int).length) (B := A0) (cb := c0) (e := 5) (z := (Value.int .u8 0)) (E := (Value.int .u8)) (l := ([] : List Int)) (m := l0) (bytes := 1) 0 rfl rfl (by kernel_rfl) rfl (by kernel_rfl) (by exact rfl) (by kernel_rfl) (fun w hs => (hs.old R0)) (by kernel_rfl) (by kernel_rfl) rfl (fun _ => rfl) (by decide) q2 ?_
  intro xA3 xc4
  refine ls_val (v := .slice xA3 (([] : List Int) ++ l0).length xc4) rfl rfl (by kernel_rfl) (fun w => by kernel_rfl) ?_
  refine ls_end ?_
  refine qn_then ?_
  refine cs_seq ?_
  refine cs_seq ?_
  refine cs_region (l := [_, _, _, _, _, _]) ?_
  refine ls_val (v := .int .i64 a1) rfl rfl (by kernel_rfl) (fun w => by kernel_rfl) ?_
  refine ls_val (v := .bool (decide (a1 < (1 : Int)))) rfl rfl (by kernel_rfl) (fun w => by kernel_rfl) ?_
  refine ls_val (v := .bool (decide (a1 < (1 : Int)))) rfl rfl (by kernel_rfl) (fun w => by kernel_rfl) ?_
  by_cases q5 : a1 < (1 : Int)
  · replace H := ite_t q5 H
    refine ls_know (c := true) (dec_t q5) 16 (by kernel_rfl) ?_
    refine ls_off (j := 2) (t := 16) (b := false) (c := true) rfl rfl (by kernel_rfl) (by kernel_rfl) rfl rfl (by kernel_rfl) ?_
    refine ls_off (j := 2) (t := 16) (b := false) (c := true) rfl rfl (by kernel_rfl) (by kernel_rfl) rfl rfl (by kernel_rfl) ?_
    refine ls_val (v := .bool true) rfl rfl (by kernel_rfl) (fun w => by kernel_rfl) ?_
    refine ls_end ?_
    refine qn_then ?_
    refine cs_true (by kernel_rfl) ?_
    refine cs_seq ?_
    refine cs_region (l := [_, _]) ?_
    refine ls_val (v := .slice xA3 (([] : List Int) ++ l0).length xc4) rfl rfl (by kernel_rfl) (fun w => by kernel_rfl) ?_
    refine ls_val (v := .slice xA3 (([] : List Int) ++ l0).length xc4) rfl rfl (by kernel_rfl) (fun w => by kernel_rfl) ?_
    refine ls_end ?_
    refine qn_then ?_
    refine cs_ret' ?_
    refine qr_then ?_
    obtain rfl := Option.some.inj H
    refine qr_end1 rfl (fun w' hs => ⟨(xA3, xc4), rfl, ?_⟩)
    exact hs.res1 (t := 0) (by exact rfl)
  · replace H := ite_f q5 H
    refine ls_know (c := false) (dec_f q5) 16 (by kernel_rfl) ?_
    refine ls_on (j := 2) (t := 16) (b := false) rfl rfl (by kernel_rfl) (by kernel_rfl) ?_
    refine ls_val (v := .int .i64 a1) rfl rfl (by kernel_rfl) (fun w => by kernel_rfl) ?_
    refine ls_on (j := 2) (t := 16) (b := false) rfl rfl (by kernel_rfl) (by kernel_rfl) ?_
    refine ls_val (v := .bool (decide (a1 > (8 : Int)))) rfl rfl (by kernel_rfl) (fun w => by kernel_rfl) ?_
    refine ls_val (v := .bool (decide (a1 > (8 : Int)))) rfl rfl (by kernel_rfl) (fun w => by kernel_rfl) ?_
    refine ls_end ?_
    refine qn_then ?_
    by_cases q6 : a1 > (8 : Int)
    · replace H := ite_t q6 H
      refine cs_know (c := true) (dec_t q6) 19 (by kernel_rfl) ?_
      refine cs_true (by kernel_rfl) ?_
      refine cs_seq ?_
      refine cs_region (l := [_, _]) ?_
      refine ls_val (v := .slice xA3 (([] : List Int) ++ l0).length xc4) rfl rfl (by kernel_rfl) (fun w => by kernel_rfl) ?_
      refine ls_val (v := .slice xA3 (([] : List Int) ++ l0).length xc4) rfl rfl (by kernel_rfl) (fun w => by kernel_rfl) ?_
      refine ls_end ?_
      refine qn_then ?_
      refine cs_ret' ?_
      refine qr_then ?_
      obtain rfl := Option.some.inj H
      refine qr_end1 rfl (fun w' hs => ⟨(xA3, xc4), rfl, ?_⟩)
      exact hs.res1 (t := 0) (by exact rfl)
    · replace H := ite_f q6 H
      refine cs_know (c := false) (dec_f q6) 19 (by kernel_rfl) ?_
      refine cs_false (by kernel_rfl) ?_
      refine cs_skip' ?_
      refine qn_then ?_
      refine cs_seq ?_
      refine cs_seq ?_
      refine cs_region (l := [_, _, _]) ?_
      refine ls_val (v := .slice A2 l2.length c2) rfl rfl (by kernel_rfl) (fun w => by kernel_rfl) ?_
      refine ls_val (v := .int .i64 (l2.length : Int)) rfl rfl (by kernel_rfl) (fun w => by kernel_rfl) ?_
      refine ls_val (v := .int .i64 (0 : Int)) rfl rfl (by kernel_rfl) (fun w => by kernel_rfl) ?_
      refine ls_end ?_
      refine qn_then ?_
      refine cs_block ?_
      refine cs_sub (sput s0 0 (some (Ck.sl 5 (Value.int .u8) xA3 xc4 (([] : List Int) ++ l0)))) (sub_put (by exact rfl) (sub_nil _)) ?_
      refine cs_loop (fun kk f S => ∃ (g : Fr) (A7_1 : Option Addr) (c7_1 : Nat) (l7_1 : List Int) (x23_1 : Int), f = upd (upd (upd (upd (upd g 1 (.int .i64 a1)) 7 (.slice A7_1 l7_1.length c7_1)) 21 (.slice A2 l2.length c2)) 22 (.int .i64 (l2.length : Int))) 23 (.int .i64 x23_1) ∧ S = sput s0 0 (some (Ck.sl 5 (Value.int .u8) A7_1 c7_1 l7_1)) ∧ codec_Fixed.l1 a1 l2 kk l7_1 x23_1 = some r) k ?_ ?_ ?_
      · exact ⟨_, xA3, xc4, (([] : List Int) ++ l0), (0 : Int), fr_next (fr_next (fr_next (fr_next (fr_next (rfl) (by kernel_rfl)) (by kernel_rfl)) (by kernel_rfl)) (by kernel_rfl)) (by kernel_rfl), rfl, H⟩
      · rintro f S ⟨g1, A7_1, c7_1, l7_1, x23_1, rfl, rfl, H⟩; cases H
      · rintro k1 f S ⟨g1, A7_1, c7_1, l7_1, x23_1, rfl, rfl, H⟩
        replace H : (if x23_1 < (l2.length : Int) then (codec_Fixed.j2 a1 l2 l7_1 x23_1 k1 (codec_Fixed.l1 a1 l2 k1)) else some l7_1) = some r := H
        refine cs_seq ?_
        refine cs_region (l := [_]) ?_
        refine ls_val (v := .bool (decide (x23_1 < (l2.length : Int)))) rfl rfl (by kernel_rfl) (fun w => by kernel_rfl) ?_
        refine ls_end ?_
        refine qn_then ?_
        refine cs_cut (fun f S => ∃ (g : Fr), f = upd (upd (upd (upd (upd g 1 (.int .i64 a1)) 7 (.slice A7_1 l7_1.length c7_1)) 21 (.slice A2 l2.length c2)) 22 (.int .i64 (l2.length : Int))) 23 (.int .i64 x23_1) ∧ S = sput s0 0 (some (Ck.sl 5 (Value.int .u8) A7_1 c7_1 l7_1)) ∧ codec_Fixed.j2 a1 l2 l7_1 x23_1 k1 (codec_Fixed.l1 a1 l2 k1) = some r) ?_ ?_
        · skip
          by_cases q20 : x23_1 < (l2.length : Int)
          · replace H := ite_t q20 H
            refine cs_know (c := true) (dec_t q20) 24 (by kernel_rfl) ?_
            refine cs_true (by kernel_rfl) ?_
            refine cs_skip' ?_
            refine qn_meet (sput s0 0 (some (Ck.sl 5 (Value.int .u8) A7_1 c7_1 l7_1))) ⟨_, fr_next (fr_next (fr_next (fr_next (fr_next (rfl) (by kernel_rfl)) (by kernel_rfl)) (by kernel_rfl)) (by kernel_rfl)) (by kernel_rfl), rfl, H⟩ (sub_put (by exact rfl) (sub_nil _))
          · replace H := ite_f q20 H
            refine cs_know (c := false) (dec_f q20) 24 (by kernel_rfl) ?_
            refine cs_false (by kernel_rfl) ?_
            refine cs_exit' ?_
            refine qx_then ?_
            refine qx_then ?_
            refine qx_same ?_
            refine qn_then ?_
            refine cs_seq ?_
            refine cs_region (l := [_, _]) ?_
            refine ls_val (v := .slice A7_1 l7_1.length c7_1) rfl rfl (by kernel_rfl) (fun w => by kernel_rfl) ?_
            refine ls_val (v := .slice A7_1 l7_1.length c7_1) rfl rfl (by kernel_rfl) (fun w => by kernel_rfl) ?_
            refine ls_end ?_
            refine qn_then ?_
            refine cs_ret' ?_
            obtain rfl := Option.some.inj H
            refine qr_end1 rfl (fun w' hs => ⟨(A7_1, c7_1), rfl, ?_⟩)
            exact hs.res1 (t := 0) (by exact rfl)
        · rintro f S ⟨g2, rfl, rfl, H⟩
          replace H : (if 0 ≤ x23_1 then (if x23_1 < (l2.length : Int) then codec_Fixed.l3 a1 l2 x23_1 (codec_Fixed.l1 a1 l2 k1) k1 l7_1 (0 : Int) else none) else none) = some r := H
          refine cs_seq ?_
          refine cs_block ?_
          refine cs_seq ?_
          refine cs_region (l := [_, _, _]) ?_
          obtain ⟨q7, H⟩ := ite_need H
          obtain ⟨q8, H⟩ := ite_need H
          obtain ⟨ad9, hA10, hc11⟩ := idx_at (E := (Value.int .u64)) (i := x23_1) R2 q7 q8 0
          refine ls_idxv (A := A2) (c := c2) (l := l2) (k := .i64) (i := x23_1) (e := 22) (ad := ad9) rfl rfl (by kernel_rfl) hA10 rfl (by kernel_rfl) (by kernel_rfl) (by kernel_rfl) (by kernel_rfl) q7 q8 ?_
          refine ls_load (a0 := (ad9.add (x23_1).toNat)) (v := .int .u64 ((l2).getD (x23_1).toNat 0)) (de := (TypeDesc.int .u64)) rfl rfl (by kernel_rfl) rfl (by kernel_rfl) (by kernel_rfl) (by kernel_rfl) (fun w hs => cell_step hs.below hc11) ?_
          refine ls_val (v := .int .u64 ((l2).getD (x23_1).toNat 0)) rfl rfl (by kernel_rfl) (fun w => by kernel_rfl) ?_
          refine ls_end ?_
          refine qn_then ?_
          refine cs_seq ?_
          refine cs_region (l := [_, _]) ?_
          refine ls_val (v := .int .i64 a1) rfl rfl (by kernel_rfl) (fun w => by kernel_rfl) ?_
          refine ls_val (v := .int .i64 (0 : Int)) rfl rfl (by kernel_rfl) (fun w => by kernel_rfl) ?_
          refine ls_end ?_
          refine qn_then ?_
          refine cs_block ?_
          refine cs_sub (sput s0 0 (some (Ck.sl 5 (Value.int .u8) A7_1 c7_1 l7_1))) (sub_put (by exact rfl) (sub_nil _)) ?_
          refine cs_loop (fun kk f S => ∃ (g : Fr) (A7_3 : Option Addr) (c7_3 : Nat) (l7_3 : List Int) (x28_3 : Int), f = upd (upd (upd (upd (upd (upd (upd (upd g 1 (.int .i64 a1)) 7 (.slice A7_3 l7_3.length c7_3)) 9 (.int .u64 ((l2).getD (x23_1).toNat 0))) 21 (.slice A2 l2.length c2)) 22 (.int .i64 (l2.length : Int))) 23 (.int .i64 x23_1)) 27 (.int .i64 a1)) 28 (.int .i64 x28_3) ∧ S = sput s0 0 (some (Ck.sl 5 (Value.int .u8) A7_3 c7_3 l7_3)) ∧ codec_Fixed.l3 a1 l2 x23_1 (codec_Fixed.l1 a1 l2 k1) kk l7_3 x28_3 = some r) k1 ?_ ?_ ?_
          · exact ⟨_, A7_1, c7_1, l7_1, (0 : Int), fr_next (fr_next (fr_next (fr_next (fr_next (fr_next (fr_next (fr_next (rfl) (by kernel_rfl)) (by kernel_rfl)) (by kernel_rfl)) (by kernel_rfl)) (by kernel_rfl)) (by kernel_rfl)) (by kernel_rfl)) (by kernel_rfl), rfl, H⟩
          · rintro f S ⟨g3, A7_3, c7_3, l7_3, x28_3, rfl, rfl, H⟩; cases H
          · rintro k3 f S ⟨g3, A7_3, c7_3, l7_3, x28_3, rfl, rfl, H⟩
            replace H : (if x28_3 < a1 then (if 0 ≤ IntKind.wrap .i64 ((8 : Int) * x28_3) then lt (shrv .u64 ((l2).getD (x23_1).toNat 0) (IntKind.wrap .i64 ((8 : Int) * x28_3))) fun y14 => (if (l7_3.length + ([IntKind.wrap .u8 y14]).length) * 1 ≤ 140737488355328 then (codec_Fixed.l3 a1 l2 x23_1 (codec_Fixed.l1 a1 l2 k1) k3) (l7_3 ++ [IntKind.wrap .u8 y14]) (IntKind.wrap .i64 (x28_3 + (1 : Int))) else none) else none) else (codec_Fixed.l1 a1 l2 k1) l7_3 (IntKind.wrap .i64 (x23_1 + (1 : Int)))) = some r := H
            refine cs_seq ?_
            refine cs_region (l := [_]) ?_
            refine ls_val (v := .bool (decide (x28_3 < a1))) rfl rfl (by kernel_rfl) (fun w => by kernel_rfl) ?_
            refine ls_end ?_
            refine qn_then ?_
            refine cs_seq ?_
            by_cases q12 : x28_3 < a1
            · replace H := ite_t q12 H
              refine cs_know (c := true) (dec_t q12) 29 (by kernel_rfl) ?_
              refine cs_true (by kernel_rfl) ?_
              refine cs_skip' ?_
              refine qn_then ?_
              refine cs_seq ?_
              refine cs_block ?_
              refine cs_seq ?_
              refine cs_region (l := [_, _]) ?_
              refine ls_val (v := .int .i64 x28_3) rfl rfl (by kernel_rfl) (fun w => by kernel_rfl) ?_
              refine ls_val (v := .int .i64 x28_3) rfl rfl (by kernel_rfl) (fun w => by kernel_rfl) ?_
              refine ls_end ?_
              refine qn_then ?_
              refine cs_region (l := [_, _, _, _, _, _, _, _, _]) ?_
              refine ls_val (v := .slice A7_3 l7_3.length c7_3) rfl rfl (by kernel_rfl) (fun w => by kernel_rfl) ?_
              refine ls_val (v := .int .u64 ((l2).getD (x23_1).toNat 0)) rfl rfl (by kernel_rfl) (fun w => by kernel_rfl) ?_
              refine ls_val (v := .int .i64 x28_3) rfl rfl (by kernel_rfl) (fun w => by kernel_rfl) ?_
              refine ls_val (v := .int .i64 (IntKind.wrap .i64 ((8 : Int) * x28_3))) rfl rfl (by kernel_rfl) (fun w => by kernel_rfl) ?_
              obtain ⟨q13, H⟩ := ite_need H
              obtain ⟨y14, hy15, H⟩ := lt_some H
              refine ls_shiftr (k := .u64) (yk := .i64) (x := ((l2).getD (x23_1).toNat 0)) (y := (IntKind.wrap .i64 ((8 : Int) * x28_3))) rfl rfl (by kernel_rfl) (fun w => by kernel_rfl) q13 ?_
              refine ls_ren 35 (v := .int .u64 (shrv .u64 ((l2).getD (x23_1).toNat 0) (IntKind.wrap .i64 ((8 : Int) * x28_3)))) (v' := .int .u64 y14) (by kernel_rfl) (by rw [hy15]) ?_
              refine ls_val (v := .int .u8 (IntKind.wrap .u8 y14)) rfl rfl (by kernel_rfl) (fun w => by kernel_rfl) ?_
              refine ls_lit (E := (Value.int .u8)) (e := 5) 1 rfl rfl (by kernel_rfl) ([IntKind.wrap .u8 y14]) (by exact of_decide_eq_true (by kernel_rfl)) (fun w => by kernel_rfl) ?_
              intro g16
              obtain ⟨q17, H⟩ := ite_need H
              refine ls_app (A := A7_3) (c := c7_3) (B := (some ⟨g16, 0, none⟩)) (cb := [IntKind.wrap .u8 y14].length) (e := 5) (z := (Value.int .u8 0)) (E := (Value.int .u8)) (l := l7_3) (m := [IntKind.wrap .u8 y14]) (bytes := 1) 0 rfl rfl (by kernel_rfl) rfl (by kernel_rfl) (by exact rfl) (by kernel_rfl) (fun w hs => (hs.rd (k := 1) (by exact rfl))) (by kernel_rfl) (by kernel_rfl) rfl (fun _ => rfl) (by decide) q17 ?_
              intro xA18 xc19
              refine ls_val (v := .slice xA18 (l7_3 ++ [IntKind.wrap .u8 y14]).length xc19) rfl rfl (by kernel_rfl) (fun w => by kernel_rfl) ?_
              refine ls_end ?_
              refine qn_block ?_
              refine qn_then ?_
              refine cs_region (l := [_, _]) ?_
              refine ls_val (v := .int .i64 (IntKind.wrap .i64 (x28_3 + (1 : Int)))) rfl rfl (by kernel_rfl) (fun w => by kernel_rfl) ?_
              refine ls_val (v := .int .i64 (IntKind.wrap .i64 (x28_3 + (1 : Int)))) rfl rfl (by kernel_rfl) (fun w => by kernel_rfl) ?_
              refine ls_end ?_
              refine qn_again k3 (sput s0 0 (some (Ck.sl 5 (Value.int .u8) xA18 xc19 (l7_3 ++ [IntKind.wrap .u8 y14])))) (Nat.le_refl _) ⟨_, xA18, xc19, (l7_3 ++ [IntKind.wrap .u8 y14]), (IntKind.wrap .i64 (x28_3 + (1 : Int))), fr_next (fr_next (fr_next (fr_next (fr_next (fr_next (fr_next (fr_next (rfl) (by kernel_rfl)) (by kernel_rfl)) (by kernel_rfl)) (by kernel_rfl)) (by kernel_rfl)) (by kernel_rfl)) (by kernel_rfl)) (by kernel_rfl), rfl, H⟩ (sub_put (by exact rfl) (sub_nil _))
            · replace H := ite_f q12 H
              refine cs_know (c := false) (dec_f q12) 29 (by kernel_rfl) ?_
              refine cs_false (by kernel_rfl) ?_
              refine cs_exit' ?_
              refine qx_then ?_
              refine qx_then ?_
              refine qx_same ?_
              refine qn_block ?_
              refine qn_then ?_
              refine cs_region (l := [_, _]) ?_
              refine ls_val (v := .int .i64 (IntKind.wrap .i64 (x23_1 + (1 : Int)))) rfl rfl (by kernel_rfl) (fun w => by kernel_rfl) ?_
              refine ls_val (v := .int .i64 (IntKind.wrap .i64 (x23_1 + (1 : Int)))) rfl rfl (by kernel_rfl) (fun w => by kernel_rfl) ?_
              refine ls_end ?_
              refine qn_again k1 (sput s0 0 (some (Ck.sl 5 (Value.int .u8) A7_3 c7_3 l7_3))) (Nat.le_refl _) ⟨_, A7_3, c7_3, l7_3, (IntKind.wrap .i64 (x23_1 + (1 : Int))), fr_next (fr_next (fr_next (fr_next (fr_next (rfl) (by kernel_rfl)) (by kernel_rfl)) (by kernel_rfl)) (by kernel_rfl)) (by kernel_rfl), rfl, H⟩ (sub_put (by exact rfl) (sub_nil _))

/-! ### shadowbox/shadowboxref01.Fixed: function 14 -/
def shadowboxref01_Fixed.l1 (a1 : Int) : Nat → Int → (List Int) → Int → Option (List Int)
  | 0, _, _, _ => none
  | k1 + 1, x2_1, l7_1, x8_1 => (if x8_1 < a1 then (if a1 ≤ (8 : Int) then lt (IntKind.wrap .u8 (Int.tmod x2_1 (256 : Int))) fun y7 => (if (l7_1.length + ([y7]).length) * 1 ≤ 140737488355328 then lt (IntKind.wrap .u64 (Int.tdiv x2_1 (256 : Int))) fun y13 => (shadowboxref01_Fixed.l1 a1 k1) y13 (l7_1 ++ [y7]) (IntKind.wrap .i64 (x8_1 + (1 : Int))) else none) else some l7_1) else some l7_1)
def shadowboxref01_Fixed.f (k : Nat) (l0 : List Int) (a1 : Int) (a2 : Int) : Option (List Int) :=
  (if (([] : List Int).length + l0.length) * 1 ≤ 140737488355328 then shadowboxref01_Fixed.l1 a1 k a2 (([] : List Int) ++ l0) (0 : Int) else none)
set_option maxRecDepth 100000 in
set_option maxHeartbeats 4000000 in
theorem shadowboxref01_Fixed.calls (k : Nat) (A0 : Option Addr) (c0 : Nat) (l0 : List Int) (a1 : Int) (a2 : Int) (r : List Int) (w : World) (R0 : Rd w A0 (en (Value.int .u8) l0)) (C0 : l0.length ≤ c0) (H : shadowboxref01_Fixed.f k l0 a1 a2 = some r) :
    Calls Try.prog 14 #[.slice A0 l0.length c0, .int .i64 a1, .int .u64 a2] w fun e w' => ∃ x : (Option Addr × Nat), e = .returned (.slice x.1 r.length x.2) ∧ St w (sput s0 0 (some (Ck.sl 5 (Value.int .u8) x.1 x.2 r))) w' := by
  unfold shadowboxref01_Fixed.f at H
  refine enter (n := 30) Try.func14 rfl (by kernel_rfl) (by kernel_rfl) ?_
  refine cs_seq ?_
  refine cs_region (l := [_]) ?_
  refine ls_val (v := .slice none 0 0) rfl rfl (by kernel_rfl) (fun w => by kernel_rfl) ?_
  refine ls_end ?_
  refine qn_then ?_
  refine cs_seq ?_
  refine cs_region (l := [_, _, _, _]) ?_
  refine ls_lit (E := (Value.int .u8)) (e := 5) 0 rfl rfl (by kernel_rfl) ([] : List Int) (by exact of_decide_eq_true (by kernel_rfl)) (fun w => by kernel_rfl) ?_
  intro g1
  refine ls_val (v := .slice A0 l0.length c0) rfl rfl (by kernel_rfl) (fun w => by kernel_rfl) ?_
  obtain ⟨q2, H⟩ := ite_need H
  refine ls_app (A := (some ⟨g1, 0, none⟩)) (c := ([] : List Int).length) (B := A0) (cb := c0) (e := 5) (z := (Value.int .u8 0)) (E := (Value.int .u8)) (l := ([] : List Int)) (m := l0) (bytes := 1) 0 rfl rfl (by kernel_rfl) rfl (by kernel_rfl) (by exact rfl) (by kernel_rfl) (fun w hs => (hs.old R0)) (by kernel_rfl) (by kernel_rfl) rfl (fun _ => rfl) (by decide) q2 ?_
  intro xA3 xc4
  refine ls_val (v := .slice xA3 (([] : List Int) ++ l0).length xc4) rfl rfl (by kernel_rfl) (fun w => by kernel_rfl) ?_
  refine ls_end ?_
  refine qn_then ?_
  refine cs_seq ?_
  refine cs_seq ?_
  refine cs_region (l := [_]) ?_
  refine ls_val (v := .int .i64 (0 : Int)) rfl rfl (by kernel_rfl) (fun w => by kernel_rfl) ?_
  refine ls_end ?_
  refine qn_then ?_
  refine cs_block ?_
  refine cs_sub (sput s0 0 (some (Ck.sl 5 (Value.int .u8) xA3 xc4 (([] : List Int) ++ l0)))) (sub_put (by exact rfl) (sub_nil _)) ?_
  refine cs_loop (fun kk f S => ∃ (g : Fr) (x2_1 : Int) (A7_1 : Option Addr) (c7_1 : Nat) (l7_1 : List Int) (x8_1 : Int), f = upd (upd (upd (upd g 1 (.int .i64 a1)) 2 (.int .u64 x2_1)) 7 (.slice A7_1 l7_1.length c7_1)) 8 (.int .i64 x8_1) ∧ S = sput s0 0 (some (Ck.sl 5 (Value.int .u8) A7_1 c7_1 l7_1)) ∧ shadowboxref01_Fixed.l1 a1 kk x2_1 l7_1 x8_1 = some r) k ?_ ?_ ?_
  · exact ⟨_, a2, xA3, xc4, (([] : List Int) ++ l0), (0 : Int), fr_next (fr_next (fr_next (fr_next (rfl) (by kernel_rfl)) (by kernel_rfl)) (by kernel_rfl)) (by kernel_rfl), rfl, H⟩
  · rintro f S ⟨g1, x2_1, A7_1, c7_1, l7_1, x8_1, rfl, rfl, H⟩; cases H
  · rintro k1 f S ⟨g1, x2_1, A7_1, c7_1, l7_1, x8_1, rfl, rfl, H⟩
    replace H : (if x8_1 < a1 then (if a1 ≤ (8 : Int) then lt (IntKind.wrap .u8 (Int.tmod x2_1 (256 : Int))) fun y7 => (if (l7_1.length + ([y7]).length) * 1 ≤ 140737488355328 then lt (IntKind.wrap .u64 (Int.tdiv x2_1 (256 : Int))) fun y13 => (shadowboxref01_Fixed.l1 a1 k1) y13 (l7_1 ++ [y7]) (IntKind.wrap .i64 (x8_1 + (1 : Int))) else none) else some l7_1) else some l7_1) = some r := H
    refine cs_seq ?_
    refine cs_seq ?_
    refine cs_region (l := [_, _, _, _, _, _, _]) ?_
    refine ls_val (v := .int .i64 x8_1) rfl rfl (by kernel_rfl) (fun w => by kernel_rfl) ?_
    refine ls_val (v := .int .i64 a1) rfl rfl (by kernel_rfl) (fun w => by kernel_rfl) ?_
    refine ls_val (v := .bool (decide (x8_1 < a1))) rfl rfl (by kernel_rfl) (fun w => by kernel_rfl) ?_
    refine ls_val (v := .bool (decide (x8_1 < a1))) rfl rfl (by kernel_rfl) (fun w => by kernel_rfl) ?_
    by_cases q5 : x8_1 < a1
    · replace H := ite_t q5 H
      refine ls_know (c := true) (dec_t q5) 15 (by kernel_rfl) ?_
      refine ls_on (j := 3) (t := 15) (b := true) rfl rfl (by kernel_rfl) (by kernel_rfl) ?_
      refine ls_val (v := .int .i64 a1) rfl rfl (by kernel_rfl) (fun w => by kernel_rfl) ?_
      refine ls_on (j := 3) (t := 15) (b := true) rfl rfl (by kernel_rfl) (by kernel_rfl) ?_
      refine ls_val (v := .bool (decide (a1 ≤ (8 : Int)))) rfl rfl (by kernel_rfl) (fun w => by kernel_rfl) ?_
      refine ls_val (v := .bool (decide (a1 ≤ (8 : Int)))) rfl rfl (by kernel_rfl) (fun w => by kernel_rfl) ?_
      refine ls_end ?_
      refine qn_then ?_
      by_cases q6 : a1 ≤ (8 : Int)
      · replace H := ite_t q6 H
        refine cs_know (c := true) (dec_t q6) 18 (by kernel_rfl) ?_
        refine cs_true (by kernel_rfl) ?_
        refine cs_skip' ?_
        refine qn_then ?_
        refine cs_seq ?_
        refine cs_block ?_
        refine cs_seq ?_
        refine cs_region (l := [_, _, _, _, _, _, _]) ?_
        refine ls_val (v := .slice A7_1 l7_1.length c7_1) rfl rfl (by kernel_rfl) (fun w => by kernel_rfl) ?_
        refine ls_val (v := .int .u64 x2_1) rfl rfl (by kernel_rfl) (fun w => by kernel_rfl) ?_
        refine ls_val (v := .int .u64 (Int.tmod x2_1 (256 : Int))) rfl rfl (by kernel_rfl) (fun w => by kernel_rfl) ?_
        obtain ⟨y7, hy8, H⟩ := lt_some H
        refine ls_val (v := .int .u8 (IntKind.wrap .u8 (Int.tmod x2_1 (256 : Int)))) rfl rfl (by kernel_rfl) (fun w => by kernel_rfl) ?_
        refine ls_ren 24 (v := .int .u8 (IntKind.wrap .u8 (Int.tmod x2_1 (256 : Int)))) (v' := .int .u8 y7) (by kernel_rfl) (by rw [hy8]) ?_
        refine ls_lit (E := (Value.int .u8)) (e := 5) 1 rfl rfl (by kernel_rfl) ([y7]) (by exact of_decide_eq_true (by kernel_rfl)) (fun w => by kernel_rfl) ?_
        intro g9
        obtain ⟨q10, H⟩ := ite_need H
        refine ls_app (A := A7_1) (c := c7_1) (B := (some ⟨g9, 0, none⟩)) (cb := [y7].length) (e := 5) (z := (Value.int .u8 0)) (E := (Value.int .u8)) (l := l7_1) (m := [y7]) (bytes := 1) 0 rfl rfl (by kernel_rfl) rfl (by kernel_rfl) (by exact rfl) (by kernel_rfl) (fun w hs => (hs.rd (k := 1) (by exact rfl))) (by kernel_rfl) (by kernel_rfl) rfl (fun _ => rfl) (by decide) q10 ?_
        intro xA11 xc12
        refine ls_val (v := .slice xA11 (l7_1 ++ [y7]).length xc12) rfl rfl (by kernel_rfl) (fun w => by kernel_rfl) ?_
        refine ls_end ?_
        refine qn_then ?_
        refine cs_region (l := [_, _, _]) ?_
        refine ls_val (v := .int .u64 x2_1) rfl rfl (by kernel_rfl) (fun w => by kernel_rfl) ?_
        obtain ⟨y13, hy14, H⟩ := lt_some H
        refine ls_val (v := .int .u64 (IntKind.wrap .u64 (Int.tdiv x2_1 (256 : Int)))) rfl rfl (by kernel_rfl) (fun w => by kernel_rfl) ?_
        refine ls_ren 28 (v := .int .u64 (IntKind.wrap .u64 (Int.tdiv x2_1 (256 : Int)))) (v' := .int .u64 y13) (by kernel_rfl) (by rw [hy14]) ?_
        refine ls_val (v := .int .u64 y13) rfl rfl (by kernel_rfl) (fun w => by kernel_rfl) ?_
        refine ls_end ?_
        refine qn_block ?_
        refine qn_then ?_
        refine cs_region (l := [_, _, _]) ?_
        refine ls_val (v := .int .i64 x8_1) rfl rfl (by kernel_rfl) (fun w => by kernel_rfl) ?_
        refine ls_val (v := .int .i64 (IntKind.wrap .i64 (x8_1 + (1 : Int)))) rfl rfl (by kernel_rfl) (fun w => by kernel_rfl) ?_
        refine ls_val (v := .int .i64 (IntKind.wrap .i64 (x8_1 + (1 : Int)))) rfl rfl (by kernel_rfl) (fun w => by kernel_rfl) ?_
        refine ls_end ?_
        refine qn_again k1 (sput s0 0 (some (Ck.sl 5 (Value.int .u8) xA11 xc12 (l7_1 ++ [y7])))) (Nat.le_refl _) ⟨_, y13, xA11, xc12, (l7_1 ++ [y7]), (IntKind.wrap .i64 (x8_1 + (1 : Int))), fr_next (fr_next (fr_next (fr_next (rfl) (by kernel_rfl)) (by kernel_rfl)) (by kernel_rfl)) (by kernel_rfl), rfl, H⟩ (sub_put (by exact rfl) (sub_nil _))
      · replace H := ite_f q6 H
        refine cs_know (c := false) (dec_f q6) 18 (by kernel_rfl) ?_
        refine cs_false (by kernel_rfl) ?_
        refine cs_exit' ?_
        refine qx_then ?_
        refine qx_then ?_
        refine qx_same ?_
        refine qn_then ?_
        refine cs_seq ?_
        refine cs_region (l := [_, _]) ?_
        refine ls_val (v := .slice A7_1 l7_1.length c7_1) rfl rfl (by kernel_rfl) (fun w => by kernel_rfl) ?_
        refine ls_val (v := .slice A7_1 l7_1.length c7_1) rfl rfl (by kernel_rfl) (fun w => by kernel_rfl) ?_
        refine ls_end ?_
        refine qn_then ?_
        refine cs_ret' ?_
        obtain rfl := Option.some.inj H
        refine qr_end1 rfl (fun w' hs => ⟨(A7_1, c7_1), rfl, ?_⟩)
        exact hs.res1 (t := 0) (by exact rfl)
    · replace H := ite_f q5 H
      refine ls_know (c := false) (dec_f q5) 15 (by kernel_rfl) ?_
      refine ls_off (j := 3) (t := 15) (b := true) (c := false) rfl rfl (by kernel_rfl) (by kernel_rfl) rfl rfl (by kernel_rfl) ?_
      refine ls_off (j := 3) (t := 15) (b := true) (c := false) rfl rfl (by kernel_rfl) (by kernel_rfl) rfl rfl (by kernel_rfl) ?_
      refine ls_val (v := .bool false) rfl rfl (by kernel_rfl) (fun w => by kernel_rfl) ?_
      refine ls_end ?_
      refine qn_then ?_
      refine cs_false (by kernel_rfl) ?_
      refine cs_exit' ?_
      refine qx_then ?_
      refine qx_then ?_
      refine qx_same ?_
      refine qn_then ?_
      refine cs_seq ?_
      refine cs_region (l := [_, _]) ?_
      refine ls_val (v := .slice A7_1 l7_1.length c7_1) rfl rfl (by kernel_rfl) (fun w => by kernel_rfl) ?_
      refine ls_val (v := .slice A7_1 l7_1.length c7_1) rfl rfl (by kernel_rfl) (fun w => by kernel_rfl) ?_
      refine ls_end ?_
      refine qn_then ?_
      refine cs_ret' ?_
      obtain rfl := Option.some.inj H
      refine qr_end1 rfl (fun w' hs => ⟨(A7_1, c7_1), rfl, ?_⟩)
      exact hs.res1 (t := 0) (by exact rfl)

/-! ### shadowbox/codec.Short: function 17 -/
def codec_Short.l1 : Nat → Int → (List Int) → Int → Option (List Int)
  | 0, _, _, _ => none
  | k1 + 1, x1_1, l5_1, x6_1 => (if x6_1 > (0 : Int) then lt (bits .or .u8 (IntKind.wrap .u8 x1_1) (128 : Int)) fun y9 => (if (l5_1.length + ([y9]).length) * 1 ≤ 140737488355328 then (codec_Short.l1 k1) (Int.fdiv x1_1 128) (l5_1 ++ [y9]) (IntKind.wrap .i64 (x6_1 - (1 : Int))) else none) else (if (l5_1.length + ([IntKind.wrap .u8 x1_1]).length) * 1 ≤ 140737488355328 then some (l5_1 ++ [IntKind.wrap .u8 x1_1]) else none))
def codec_Short.f (k : Nat) (l0 : List Int) (a1 : Int) : Option (List Int) :=
  (if (([] : List Int).length + l0.length) * 1 ≤ 140737488355328 then (codec_groups.f k a1).bind fun t5 => codec_Short.l1 k a1 (([] : List Int) ++ l0) (IntKind.wrap .i64 (t5 - (1 : Int))) else none)
set_option maxRecDepth 100000 in
set_option maxHeartbeats 4000000 in
theorem codec_Short.calls (k : Nat) (A0 : Option Addr) (c0 : Nat) (l0 : List Int) (a1 : Int) (r : List Int) (w : World) (R0 : Rd w A0 (en (Value.int .u8) l0)) (C0 : l0.length ≤ c0) (H : codec_Short.f k l0 a1 = some r) :
    Calls Try.prog 17 #[.slice A0 l0.length c0, .int .u64 a1] w fun e w' => ∃ x : (Option Addr × Nat), e = .returned (.slice x.1 r.length x.2) ∧ St w (sput s0 0 (some (Ck.sl 5 (Value.int .u8) x.1 x.2 r))) w' := by
  unfold codec_Short.f at H
  refine enter (n := 30) Try.func17 rfl (by kernel_rfl) (by kernel_rfl) ?_
  refine cs_seq ?_
  refine cs_region (l := [_]) ?_
  refine ls_val (v := .slice none 0 0) rfl rfl (by kernel_rfl) (fun w => by kernel_rfl) ?_
  refine ls_end ?_
  refine qn_then ?_
  refine cs_seq ?_
  refine cs_region (l := [_, _, _, _]) ?_
  refine ls_lit (E := (Value.int .u8)) (e := 5) 0 rfl rfl (by kernel_rfl) ([] : List Int) (by exact of_decide_eq_true (by kernel_rfl)) (fun w => by kernel_rfl) ?_
  intro g1
  refine ls_val (v := .slice A0 l0.length c0) rfl rfl (by kernel_rfl) (fun w => by kernel_rfl) ?_
  obtain ⟨q2, H⟩ := ite_need H
  refine ls_app (A := (some ⟨g1, 0, none⟩)) (c := ([] : List Int).length) (B := A0) (cb := c0) (e := 5) (z := (Value.int .u8 0)) (E := (Value.int .u8)) (l := ([] : List Int)) (m := l0) (bytes := 1) 0 rfl rfl (by kernel_rfl) rfl (by kernel_rfl) (by exact rfl) (by kernel_rfl) (fun w hs => (hs.old R0)) (by kernel_rfl) (by kernel_rfl) rfl (fun _ => rfl) (by decide) q2 ?_
  intro xA3 xc4
  refine ls_val (v := .slice xA3 (([] : List Int) ++ l0).length xc4) rfl rfl (by kernel_rfl) (fun w => by kernel_rfl) ?_
  refine ls_end ?_
  refine qn_then ?_
  refine cs_seq ?_
  refine cs_seq ?_
  refine cs_region (l := [_, _, _, _]) ?_
  refine ls_val (v := .int .u64 a1) rfl rfl (by kernel_rfl) (fun w => by kernel_rfl) ?_
  obtain ⟨t5, hc6, H⟩ := bind_some H
  refine ls_call (fid := 26) (vals := #[.int .u64 a1]) (X := Unit) (fun x => .int .i64 t5) (fun x => s0) 1 rfl rfl (by kernel_rfl) (fun w => by kernel_rfl) (fun w hs => codec_groups.calls k a1 t5 w  hc6) ?_
  intro x7
  refine ls_val (v := .int .i64 (IntKind.wrap .i64 (t5 - (1 : Int)))) rfl rfl (by kernel_rfl) (fun w => by kernel_rfl) ?_
  refine ls_val (v := .int .i64 (IntKind.wrap .i64 (t5 - (1 : Int)))) rfl rfl (by kernel_rfl) (fun w => by kernel_rfl) ?_
  refine ls_end ?_
  refine qn_then ?_
  refine cs_block ?_
  refine cs_sub (sput s0 0 (some (Ck.sl 5 (Value.int .u8) xA3 xc4 (([] : List Int) ++ l0)))) (sub_put (by exact rfl) (sub_nil _)) ?_
  refine cs_loop (fun kk f S => ∃ (g : Fr) (x1_1 : Int) (A5_1 : Option Addr) (c5_1 : Nat) (l5_1 : List Int) (x6_1 : Int), f = upd (upd (upd g 1 (.int .u64 x1_1)) 5 (.slice A5_1 l5_1.length c5_1)) 6 (.int .i64 x6_1) ∧ S = sput s0 0 (some (Ck.sl 5 (Value.int .u8) A5_1 c5_1 l5_1)) ∧ codec_Short.l1 kk x1_1 l5_1 x6_1 = some r) k ?_ ?_ ?_
  · exact ⟨_, a1, xA3, xc4, (([] : List Int) ++ l0), (IntKind.wrap .i64 (t5 - (1 : Int))), fr_next (fr_next (fr_next (rfl) (by kernel_rfl)) (by kernel_rfl)) (by kernel_rfl), rfl, H⟩
  · rintro f S ⟨g1, x1_1, A5_1, c5_1, l5_1, x6_1, rfl, rfl, H⟩; cases H
  · rintro k1 f S ⟨g1, x1_1, A5_1, c5_1, l5_1, x6_1, rfl, rfl, H⟩
    replace H : (if x6_1 > (0 : Int) then lt (bits .or .u8 (IntKind.wrap .u8 x1_1) (128 : Int)) fun y9 => (if (l5_1.length + ([y9]).length) * 1 ≤ 140737488355328 then (codec_Short.l1 k1) (Int.fdiv x1_1 128) (l5_1 ++ [y9]) (IntKind.wrap .i64 (x6_1 - (1 : Int))) else none) else (if (l5_1.length + ([IntKind.wrap .u8 x1_1]).length) * 1 ≤ 140737488355328 then some (l5_1 ++ [IntKind.wrap .u8 x1_1]) else none)) = some r := H
    refine cs_seq ?_
    refine cs_seq ?_
    refine cs_region (l := [_, _]) ?_
    refine ls_val (v := .int .i64 x6_1) rfl rfl (by kernel_rfl) (fun w => by kernel_rfl) ?_
    refine ls_val (v := .bool (decide (x6_1 > (0 : Int)))) rfl rfl (by kernel_rfl) (fun w => by kernel_rfl) ?_
    refine ls_end ?_
    refine qn_then ?_
    by_cases q8 : x6_1 > (0 : Int)
    · replace H := ite_t q8 H
      refine cs_know (c := true) (dec_t q8) 14 (by kernel_rfl) ?_
      refine cs_true (by kernel_rfl) ?_
      refine cs_skip' ?_
      refine qn_then ?_
      refine cs_seq ?_
      refine cs_block ?_
      refine cs_seq ?_
      refine cs_region (l := [_, _, _, _, _, _, _]) ?_
      refine ls_val (v := .slice A5_1 l5_1.length c5_1) rfl rfl (by kernel_rfl) (fun w => by kernel_rfl) ?_
      refine ls_val (v := .int .u64 x1_1) rfl rfl (by kernel_rfl) (fun w => by kernel_rfl) ?_
      refine ls_val (v := .int .u8 (IntKind.wrap .u8 x1_1)) rfl rfl (by kernel_rfl) (fun w => by kernel_rfl) ?_
      obtain ⟨y9, hy10, H⟩ := lt_some H
      refine ls_val (v := .int .u8 (bits .or .u8 (IntKind.wrap .u8 x1_1) (128 : Int))) rfl rfl (by kernel_rfl) (fun w => by kernel_rfl) ?_
      refine ls_ren 20 (v := .int .u8 (bits .or .u8 (IntKind.wrap .u8 x1_1) (128 : Int))) (v' := .int .u8 y9) (by kernel_rfl) (by rw [hy10]) ?_
      refine ls_lit (E := (Value.int .u8)) (e := 5) 1 rfl rfl (by kernel_rfl) ([y9]) (by exact of_decide_eq_true (by kernel_rfl)) (fun w => by kernel_rfl) ?_
      intro g11
      obtain ⟨q12, H⟩ := ite_need H
      refine ls_app (A := A5_1) (c := c5_1) (B := (some ⟨g11, 0, none⟩)) (cb := [y9].length) (e := 5) (z := (Value.int .u8 0)) (E := (Value.int .u8)) (l := l5_1) (m := [y9]) (bytes := 1) 0 rfl rfl (by kernel_rfl) rfl (by kernel_rfl) (by exact rfl) (by kernel_rfl) (fun w hs => (hs.rd (k := 1) (by exact rfl))) (by kernel_rfl) (by kernel_rfl) rfl (fun _ => rfl) (by decide) q12 ?_
      intro xA13 xc14
      refine ls_val (v := .slice xA13 (l5_1 ++ [y9]).length xc14) rfl rfl (by kernel_rfl) (fun w => by kernel_rfl) ?_
      refine ls_end ?_
      refine qn_then ?_
      refine cs_region (l := [_, _, _]) ?_
      refine ls_val (v := .int .u64 x1_1) rfl rfl (by kernel_rfl) (fun w => by kernel_rfl) ?_
      refine ls_val (v := .int .u64 (Int.fdiv x1_1 128)) rfl rfl (by kernel_rfl) (fun w => by kernel_rfl) ?_
      refine ls_val (v := .int .u64 (Int.fdiv x1_1 128)) rfl rfl (by kernel_rfl) (fun w => by kernel_rfl) ?_
      refine ls_end ?_
      refine qn_block ?_
      refine qn_then ?_
      refine cs_region (l := [_, _, _]) ?_
      refine ls_val (v := .int .i64 x6_1) rfl rfl (by kernel_rfl) (fun w => by kernel_rfl) ?_
      refine ls_val (v := .int .i64 (IntKind.wrap .i64 (x6_1 - (1 : Int)))) rfl rfl (by kernel_rfl) (fun w => by kernel_rfl) ?_
      refine ls_val (v := .int .i64 (IntKind.wrap .i64 (x6_1 - (1 : Int)))) rfl rfl (by kernel_rfl) (fun w => by kernel_rfl) ?_
      refine ls_end ?_
      refine qn_again k1 (sput s0 0 (some (Ck.sl 5 (Value.int .u8) xA13 xc14 (l5_1 ++ [y9])))) (Nat.le_refl _) ⟨_, (Int.fdiv x1_1 128), xA13, xc14, (l5_1 ++ [y9]), (IntKind.wrap .i64 (x6_1 - (1 : Int))), fr_next (fr_next (fr_next (rfl) (by kernel_rfl)) (by kernel_rfl)) (by kernel_rfl), rfl, H⟩ (sub_put (by exact rfl) (sub_nil _))
    · replace H := ite_f q8 H
      refine cs_know (c := false) (dec_f q8) 14 (by kernel_rfl) ?_
      refine cs_false (by kernel_rfl) ?_
      refine cs_exit' ?_
      refine qx_then ?_
      refine qx_then ?_
      refine qx_same ?_
      refine qn_then ?_
      refine cs_seq ?_
      refine cs_region (l := [_, _, _, _, _, _]) ?_
      refine ls_val (v := .slice A5_1 l5_1.length c5_1) rfl rfl (by kernel_rfl) (fun w => by kernel_rfl) ?_
      refine ls_val (v := .int .u64 x1_1) rfl rfl (by kernel_rfl) (fun w => by kernel_rfl) ?_
      refine ls_val (v := .int .u8 (IntKind.wrap .u8 x1_1)) rfl rfl (by kernel_rfl) (fun w => by kernel_rfl) ?_
      refine ls_lit (E := (Value.int .u8)) (e := 5) 1 rfl rfl (by kernel_rfl) ([IntKind.wrap .u8 x1_1]) (by exact of_decide_eq_true (by kernel_rfl)) (fun w => by kernel_rfl) ?_
      intro g15
      obtain ⟨q16, H⟩ := ite_need H
      refine ls_app (A := A5_1) (c := c5_1) (B := (some ⟨g15, 0, none⟩)) (cb := [IntKind.wrap .u8 x1_1].length) (e := 5) (z := (Value.int .u8 0)) (E := (Value.int .u8)) (l := l5_1) (m := [IntKind.wrap .u8 x1_1]) (bytes := 1) 0 rfl rfl (by kernel_rfl) rfl (by kernel_rfl) (by exact rfl) (by kernel_rfl) (fun w hs => (hs.rd (k := 1) (by exact rfl))) (by kernel_rfl) (by kernel_rfl) rfl (fun _ => rfl) (by decide) q16 ?_
      intro xA17 xc18
      refine ls_val (v := .slice xA17 (l5_1 ++ [IntKind.wrap .u8 x1_1]).length xc18) rfl rfl (by kernel_rfl) (fun w => by kernel_rfl) ?_
      refine ls_end ?_
      refine qn_then ?_
      refine cs_ret' ?_
      obtain rfl := Option.some.inj H
      refine qr_end1 rfl (fun w' hs => ⟨(xA17, xc18), rfl, ?_⟩)
      exact hs.res1 (t := 0) (by exact rfl)

/-! ### shadowbox/shadowboxref01.Short: function 18 -/
def shadowboxref01_Short.l1 : Nat → Int → (List Int) → Option (List Int)
  | 0, _, _ => none
  | k1 + 1, x1_1, l5_1 => (if x1_1 ≥ (128 : Int) then lt (IntKind.wrap .u64 ((Int.tmod x1_1 (128 : Int)) + (128 : Int))) fun y6 => (if (l5_1.length + ([IntKind.wrap .u8 y6]).length) * 1 ≤ 140737488355328 then lt (IntKind.wrap .u64 (Int.tdiv x1_1 (128 : Int))) fun y12 => (shadowboxref01_Short.l1 k1) y12 (l5_1 ++ [IntKind.wrap .u8 y6]) else none) else (if (l5_1.length + ([IntKind.wrap .u8 x1_1]).length) * 1 ≤ 140737488355328 then some (l5_1 ++ [IntKind.wrap .u8 x1_1]) else none))
def shadowboxref01_Short.f (k : Nat) (l0 : List Int) (a1 : Int) : Option (List Int) :=
  (if (([] : List Int).length + l0.length) * 1 ≤ 140737488355328 then shadowboxref01_Short.l1 k a1 (([] : List Int) ++ l0) else none)
set_option maxRecDepth 100000 in
set_option maxHeartbeats 4000000 in
theorem shadowboxref01_Short.calls (k : Nat) (A0 : Option Addr) (c0 : Nat) (l0 : List Int) (a1 : Int) (r : List Int) (w : World) (R0 : Rd w A0 (en (Value.int .u8) l0)) (C0 : l0.length ≤ c0) (H : shadowboxref01_Short.f k l0 a1 = some r) :
    Calls Try.prog 18 #[.slice A0 l0.length c0, .int .u64 a1] w fun e w' => ∃ x : (Option Addr × Nat), e = .returned (.slice x.1 r.length x.2) ∧ St w (sput s0 0 (some (Ck.sl 5 (Value.int .u8) x.1 x.2 r))) w' := by
  unfold shadowboxref01_Short.f at H
  refine enter (n := 25) Try.func18 rfl (by kernel_rfl) (by kernel_rfl) ?_
  refine cs_seq ?_
  refine cs_region (l := [_]) ?_
  refine ls_val (v := .slice none 0 0) rfl rfl (by kernel_rfl) (fun w => by kernel_rfl) ?_
  refine ls_end ?_
  refine qn_then ?_
  refine cs_seq ?_
  refine cs_region (l := [_, _, _, _]) ?_
  refine ls_lit (E := (Value.int .u8)) (e := 5) 0 rfl rfl (by kernel_rfl) ([] : List Int) (by exact of_decide_eq_true (by kernel_rfl)) (fun w => by kernel_rfl) ?_
  intro g1
  refine ls_val (v := .slice A0 l0.length c0) rfl rfl (by kernel_rfl) (fun w => by kernel_rfl) ?_
  obtain ⟨q2, H⟩ := ite_need H
  refine ls_app (A := (some ⟨g1, 0, none⟩)) (c := ([] : List Int).length) (B := A0) (cb := c0) (e := 5) (z := (Value.int .u8 0)) (E := (Value.int .u8)) (l := ([] : List Int)) (m := l0) (bytes := 1) 0 rfl rfl (by kernel_rfl) rfl (by kernel_rfl) (by exact rfl) (by kernel_rfl) (fun w hs => (hs.old R0)) (by kernel_rfl) (by kernel_rfl) rfl (fun _ => rfl) (by decide) q2 ?_
  intro xA3 xc4
  refine ls_val (v := .slice xA3 (([] : List Int) ++ l0).length xc4) rfl rfl (by kernel_rfl) (fun w => by kernel_rfl) ?_
  refine ls_end ?_
  refine qn_then ?_
  refine cs_seq ?_
  refine cs_block ?_
  refine cs_sub (sput s0 0 (some (Ck.sl 5 (Value.int .u8) xA3 xc4 (([] : List Int) ++ l0)))) (sub_put (by exact rfl) (sub_nil _)) ?_
  refine cs_loop (fun kk f S => ∃ (g : Fr) (x1_1 : Int) (A5_1 : Option Addr) (c5_1 : Nat) (l5_1 : List Int), f = upd (upd g 1 (.int .u64 x1_1)) 5 (.slice A5_1 l5_1.length c5_1) ∧ S = sput s0 0 (some (Ck.sl 5 (Value.int .u8) A5_1 c5_1 l5_1)) ∧ shadowboxref01_Short.l1 kk x1_1 l5_1 = some r) k ?_ ?_ ?_
  · exact ⟨_, a1, xA3, xc4, (([] : List Int) ++ l0), fr_next (fr_next (rfl) (by kernel_rfl)) (by kernel_rfl), rfl, H⟩
  · rintro f S ⟨g1, x1_1, A5_1, c5_1, l5_1, rfl, rfl, H⟩; cases H
  · rintro k1 f S ⟨g1, x1_1, A5_1, c5_1, l5_1, rfl, rfl, H⟩
    replace H : (if x1_1 ≥ (128 : Int) then lt (IntKind.wrap .u64 ((Int.tmod x1_1 (128 : Int)) + (128 : Int))) fun y6 => (if (l5_1.length + ([IntKind.wrap .u8 y6]).length) * 1 ≤ 140737488355328 then lt (IntKind.wrap .u64 (Int.tdiv x1_1 (128 : Int))) fun y12 => (shadowboxref01_Short.l1 k1) y12 (l5_1 ++ [IntKind.wrap .u8 y6]) else none) else (if (l5_1.length + ([IntKind.wrap .u8 x1_1]).length) * 1 ≤ 140737488355328 then some (l5_1 ++ [IntKind.wrap .u8 x1_1]) else none)) = some r := H
    refine cs_seq ?_
    refine cs_seq ?_
    refine cs_region (l := [_, _]) ?_
    refine ls_val (v := .int .u64 x1_1) rfl rfl (by kernel_rfl) (fun w => by kernel_rfl) ?_
    refine ls_val (v := .bool (decide (x1_1 ≥ (128 : Int)))) rfl rfl (by kernel_rfl) (fun w => by kernel_rfl) ?_
    refine ls_end ?_
    refine qn_then ?_
    by_cases q5 : x1_1 ≥ (128 : Int)
    · replace H := ite_t q5 H
      refine cs_know (c := true) (dec_t q5) 10 (by kernel_rfl) ?_
      refine cs_true (by kernel_rfl) ?_
      refine cs_skip' ?_
      refine qn_then ?_
      refine cs_block ?_
      refine cs_seq ?_
      refine cs_region (l := [_, _, _, _, _, _, _, _]) ?_
      refine ls_val (v := .slice A5_1 l5_1.length c5_1) rfl rfl (by kernel_rfl) (fun w => by kernel_rfl) ?_
      refine ls_val (v := .int .u64 x1_1) rfl rfl (by kernel_rfl) (fun w => by kernel_rfl) ?_
      refine ls_val (v := .int .u64 (Int.tmod x1_1 (128 : Int))) rfl rfl (by kernel_rfl) (fun w => by kernel_rfl) ?_
      obtain ⟨y6, hy7, H⟩ := lt_some H
      refine ls_val (v := .int .u64 (IntKind.wrap .u64 ((Int.tmod x1_1 (128 : Int)) + (128 : Int)))) rfl rfl (by kernel_rfl) (fun w => by kernel_rfl) ?_
      refine ls_ren 14 (v := .int .u64 (IntKind.wrap .u64 ((Int.tmod x1_1 (128 : Int)) + (128 : Int)))) (v' := .int .u64 y6) (by kernel_rfl) (by rw [hy7]) ?_
      refine ls_val (v := .int .u8 (IntKind.wrap .u8 y6)) rfl rfl (by kernel_rfl) (fun w => by kernel_rfl) ?_
      refine ls_lit (E := (Value.int .u8)) (e := 5) 1 rfl rfl (by kernel_rfl) ([IntKind.wrap .u8 y6]) (by exact of_decide_eq_true (by kernel_rfl)) (fun w => by kernel_rfl) ?_
      intro g8
      obtain ⟨q9, H⟩ := ite_need H
      refine ls_app (A := A5_1) (c := c5_1) (B := (some ⟨g8, 0, none⟩)) (cb := [IntKind.wrap .u8 y6].length) (e := 5) (z := (Value.int .u8 0)) (E := (Value.int .u8)) (l := l5_1) (m := [IntKind.wrap .u8 y6]) (bytes := 1) 0 rfl rfl (by kernel_rfl) rfl (by kernel_rfl) (by exact rfl) (by kernel_rfl) (fun w hs => (hs.rd (k := 1) (by exact rfl))) (by kernel_rfl) (by kernel_rfl) rfl (fun _ => rfl) (by decide) q9 ?_
      intro xA10 xc11
      refine ls_val (v := .slice xA10 (l5_1 ++ [IntKind.wrap .u8 y6]).length xc11) rfl rfl (by kernel_rfl) (fun w => by kernel_rfl) ?_
      refine ls_end ?_
      refine qn_then ?_
      refine cs_region (l := [_, _, _]) ?_
      refine ls_val (v := .int .u64 x1_1) rfl rfl (by kernel_rfl) (fun w => by kernel_rfl) ?_
      obtain ⟨y12, hy13, H⟩ := lt_some H
      refine ls_val (v := .int .u64 (IntKind.wrap .u64 (Int.tdiv x1_1 (128 : Int)))) rfl rfl (by kernel_rfl) (fun w => by kernel_rfl) ?_
      refine ls_ren 19 (v := .int .u64 (IntKind.wrap .u64 (Int.tdiv x1_1 (128 : Int)))) (v' := .int .u64 y12) (by kernel_rfl) (by rw [hy13]) ?_
      refine ls_val (v := .int .u64 y12) rfl rfl (by kernel_rfl) (fun w => by kernel_rfl) ?_
      refine ls_end ?_
      refine qn_block ?_
      refine qn_again k1 (sput s0 0 (some (Ck.sl 5 (Value.int .u8) xA10 xc11 (l5_1 ++ [IntKind.wrap .u8 y6])))) (Nat.le_refl _) ⟨_, y12, xA10, xc11, (l5_1 ++ [IntKind.wrap .u8 y6]), fr_next (fr_next (rfl) (by kernel_rfl)) (by kernel_rfl), rfl, H⟩ (sub_put (by exact rfl) (sub_nil _))
    · replace H := ite_f q5 H
      refine cs_know (c := false) (dec_f q5) 10 (by kernel_rfl) ?_
      refine cs_false (by kernel_rfl) ?_
      refine cs_exit' ?_
      refine qx_then ?_
      refine qx_then ?_
      refine qx_same ?_
      refine qn_then ?_
      refine cs_seq ?_
      refine cs_region (l := [_, _, _, _, _, _]) ?_
      refine ls_val (v := .slice A5_1 l5_1.length c5_1) rfl rfl (by kernel_rfl) (fun w => by kernel_rfl) ?_
      refine ls_val (v := .int .u64 x1_1) rfl rfl (by kernel_rfl) (fun w => by kernel_rfl) ?_
      refine ls_val (v := .int .u8 (IntKind.wrap .u8 x1_1)) rfl rfl (by kernel_rfl) (fun w => by kernel_rfl) ?_
      refine ls_lit (E := (Value.int .u8)) (e := 5) 1 rfl rfl (by kernel_rfl) ([IntKind.wrap .u8 x1_1]) (by exact of_decide_eq_true (by kernel_rfl)) (fun w => by kernel_rfl) ?_
      intro g14
      obtain ⟨q15, H⟩ := ite_need H
      refine ls_app (A := A5_1) (c := c5_1) (B := (some ⟨g14, 0, none⟩)) (cb := [IntKind.wrap .u8 x1_1].length) (e := 5) (z := (Value.int .u8 0)) (E := (Value.int .u8)) (l := l5_1) (m := [IntKind.wrap .u8 x1_1]) (bytes := 1) 0 rfl rfl (by kernel_rfl) rfl (by kernel_rfl) (by exact rfl) (by kernel_rfl) (fun w hs => (hs.rd (k := 1) (by exact rfl))) (by kernel_rfl) (by kernel_rfl) rfl (fun _ => rfl) (by decide) q15 ?_
      intro xA16 xc17
      refine ls_val (v := .slice xA16 (l5_1 ++ [IntKind.wrap .u8 x1_1]).length xc17) rfl rfl (by kernel_rfl) (fun w => by kernel_rfl) ?_
      refine ls_end ?_
      refine qn_then ?_
      refine cs_ret' ?_
      obtain rfl := Option.some.inj H
      refine qr_end1 rfl (fun w' hs => ⟨(xA16, xc17), rfl, ?_⟩)
      exact hs.res1 (t := 0) (by exact rfl)

/-! ### shadowbox/codec.Text: function 21 -/
def codec_Text.f (k : Nat) (l0 : List Int) (a1 : ByteArray) : Option (List Int) :=
  (codec_Short.f k l0 (IntKind.wrap .u64 (a1.size : Int))).bind fun t1 => (if t1.length + a1.size ≤ 140737488355328 then some (t1 ++ bl a1) else none)
set_option maxRecDepth 100000 in
set_option maxHeartbeats 4000000 in
theorem codec_Text.calls (k : Nat) (A0 : Option Addr) (c0 : Nat) (l0 : List Int) (a1 : ByteArray) (r : List Int) (w : World) (R0 : Rd w A0 (en (Value.int .u8) l0)) (C0 : l0.length ≤ c0) (H : codec_Text.f k l0 a1 = some r) :
    Calls Try.prog 21 #[.slice A0 l0.length c0, .string a1] w fun e w' => ∃ x : (Option Addr × Nat), e = .returned (.slice x.1 r.length x.2) ∧ St w (sput s0 0 (some (Ck.sl 5 (Value.int .u8) x.1 x.2 r))) w' := by
  unfold codec_Text.f at H
  refine enter (n := 12) Try.func21 rfl (by kernel_rfl) (by kernel_rfl) ?_
  refine cs_seq ?_
  refine cs_region (l := [_]) ?_
  refine ls_val (v := .slice none 0 0) rfl rfl (by kernel_rfl) (fun w => by kernel_rfl) ?_
  refine ls_end ?_
  refine qn_then ?_
  refine cs_seq ?_
  refine cs_region (l := [_, _, _, _, _, _, _, _]) ?_
  refine ls_val (v := .slice A0 l0.length c0) rfl rfl (by kernel_rfl) (fun w => by kernel_rfl) ?_
  refine ls_val (v := .string a1) rfl rfl (by kernel_rfl) (fun w => by kernel_rfl) ?_
  refine ls_val (v := .int .i64 (a1.size : Int)) rfl rfl (by kernel_rfl) (fun w => by kernel_rfl) ?_
  refine ls_val (v := .int .u64 (IntKind.wrap .u64 (a1.size : Int))) rfl rfl (by kernel_rfl) (fun w => by kernel_rfl) ?_
  obtain ⟨t1, hc2, H⟩ := bind_some H
  refine ls_call (fid := 17) (vals := #[.slice A0 l0.length c0, .int .u64 (IntKind.wrap .u64 (a1.size : Int))]) (X := (Option Addr × Nat)) (fun x => .slice x.1 t1.length x.2) (fun x => sput s0 0 (some (Ck.sl 5 (Value.int .u8) x.1 x.2 t1))) 0 rfl rfl (by kernel_rfl) (fun w => by kernel_rfl) (fun w hs => codec_Short.calls k A0 c0 l0 (IntKind.wrap .u64 (a1.size : Int)) t1 w (hs.old R0) C0 hc2) ?_
  intro x3
  refine ls_val (v := .string a1) rfl rfl (by kernel_rfl) (fun w => by kernel_rfl) ?_
  obtain ⟨q4, H⟩ := ite_need H
  refine ls_apps (A := x3.1) (c := x3.2) (e := 5) (l := t1) (y := a1) 0 rfl rfl (by kernel_rfl) rfl (by kernel_rfl) (by exact rfl) (by kernel_rfl) (by kernel_rfl) (by kernel_rfl) (by kernel_rfl) q4 ?_
  intro xA5 xc6
  refine ls_val (v := .slice xA5 (t1 ++ bl a1).length xc6) rfl rfl (by kernel_rfl) (fun w => by kernel_rfl) ?_
  refine ls_end ?_
  refine qn_then ?_
  refine cs_ret' ?_
  obtain rfl := Option.some.inj H
  refine qr_end1 rfl (fun w' hs => ⟨(xA5, xc6), rfl, ?_⟩)
  exact hs.res1 (t := 0) (by exact rfl)

/-! ### shadowbox/shadowboxref01.Text: function 22 -/
def shadowboxref01_Text.f (k : Nat) (l0 : List Int) (a1 : ByteArray) : Option (List Int) :=
  (shadowboxref01_Short.f k l0 (IntKind.wrap .u64 (a1.size : Int))).bind fun t1 => (if t1.length + a1.size ≤ 140737488355328 then some (t1 ++ bl a1) else none)
set_option maxRecDepth 100000 in
set_option maxHeartbeats 4000000 in
theorem shadowboxref01_Text.calls (k : Nat) (A0 : Option Addr) (c0 : Nat) (l0 : List Int) (a1 : ByteArray) (r : List Int) (w : World) (R0 : Rd w A0 (en (Value.int .u8) l0)) (C0 : l0.length ≤ c0) (H : shadowboxref01_Text.f k l0 a1 = some r) :
    Calls Try.prog 22 #[.slice A0 l0.length c0, .string a1] w fun e w' => ∃ x : (Option Addr × Nat), e = .returned (.slice x.1 r.length x.2) ∧ St w (sput s0 0 (some (Ck.sl 5 (Value.int .u8) x.1 x.2 r))) w' := by
  unfold shadowboxref01_Text.f at H
  refine enter (n := 12) Try.func22 rfl (by kernel_rfl) (by kernel_rfl) ?_
  refine cs_seq ?_
  refine cs_region (l := [_]) ?_
  refine ls_val (v := .slice none 0 0) rfl rfl (by kernel_rfl) (fun w => by kernel_rfl) ?_
  refine ls_end ?_
  refine qn_then ?_
  refine cs_seq ?_
  refine cs_region (l := [_, _, _, _, _, _, _, _]) ?_
  refine ls_val (v := .slice A0 l0.length c0) rfl rfl (by kernel_rfl) (fun w => by kernel_rfl) ?_
  refine ls_val (v := .string a1) rfl rfl (by kernel_rfl) (fun w => by kernel_rfl) ?_
  refine ls_val (v := .int .i64 (a1.size : Int)) rfl rfl (by kernel_rfl) (fun w => by kernel_rfl) ?_
  refine ls_val (v := .int .u64 (IntKind.wrap .u64 (a1.size : Int))) rfl rfl (by kernel_rfl) (fun w => by kernel_rfl) ?_
  obtain ⟨t1, hc2, H⟩ := bind_some H
  refine ls_call (fid := 18) (vals := #[.slice A0 l0.length c0, .int .u64 (IntKind.wrap .u64 (a1.size : Int))]) (X := (Option Addr × Nat)) (fun x => .slice x.1 t1.length x.2) (fun x => sput s0 0 (some (Ck.sl 5 (Value.int .u8) x.1 x.2 t1))) 0 rfl rfl (by kernel_rfl) (fun w => by kernel_rfl) (fun w hs => shadowboxref01_Short.calls k A0 c0 l0 (IntKind.wrap .u64 (a1.size : Int)) t1 w (hs.old R0) C0 hc2) ?_
  intro x3
  refine ls_val (v := .string a1) rfl rfl (by kernel_rfl) (fun w => by kernel_rfl) ?_
  obtain ⟨q4, H⟩ := ite_need H
  refine ls_apps (A := x3.1) (c := x3.2) (e := 5) (l := t1) (y := a1) 0 rfl rfl (by kernel_rfl) rfl (by kernel_rfl) (by exact rfl) (by kernel_rfl) (by kernel_rfl) (by kernel_rfl) (by kernel_rfl) q4 ?_
  intro xA5 xc6
  refine ls_val (v := .slice xA5 (t1 ++ bl a1).length xc6) rfl rfl (by kernel_rfl) (fun w => by kernel_rfl) ?_
  refine ls_end ?_
  refine qn_then ?_
  refine cs_ret' ?_
  obtain rfl := Option.some.inj H
  refine qr_end1 rfl (fun w' hs => ⟨(xA5, xc6), rfl, ?_⟩)
  exact hs.res1 (t := 0) (by exact rfl)

/-! ### shadowbox/codec.ReadShort: function 15 -/
def codec_ReadShort.j2 (xl9 : List Int) (x2_1 : Int) (x15_1 : Int) (k1 : Nat) (l1 : Int → Int → Option (Int × Int × Int)) : Option (Int × Int × Int) := (if 0 ≤ x15_1 then (if x15_1 < (xl9.length : Int) then lt (bits .andNot .u8 ((xl9).getD (x15_1).toNat 0) (128 : Int)) fun y19 => (bits_Len64.f k1 (IntKind.wrap .u64 y19)).bind fun t21 => lt (IntKind.wrap .i64 (t21 + (IntKind.wrap .i64 ((7 : Int) * x15_1)))) fun y24 => (if y24 > (64 : Int) then (codec_ReadShort_1.f k1 (11 : Int)).bind fun t27 => some (t27.1, t27.2.1, t27.2.2) else (if 0 ≤ IntKind.wrap .i64 ((7 : Int) * x15_1) then lt (shlv .u64 (IntKind.wrap .u64 y19) (IntKind.wrap .i64 ((7 : Int) * x15_1))) fun y31 => (if ((xl9).getD (x15_1).toNat 0) < (128 : Int) then (codec_groups.f k1 (bits .or .u64 x2_1 y31)).bind fun t34 => (if t34 = (IntKind.wrap .i64 (x15_1 + (1 : Int))) then some (bits .or .u64 x2_1 y31, IntKind.wrap .i64 (x15_1 + (1 : Int)), (0 : Int)) else (codec_ReadShort_1.f k1 (11 : Int)).bind fun t38 => some (t38.1, t38.2.1, t38.2.2)) else l1 (bits .or .u64 x2_1 y31) (IntKind.wrap .i64 (x15_1 + (1 : Int)))) else none)) else none) else none)
def codec_ReadShort.l1 (l0 : List Int) (xl9 : List Int) : Nat → Int → Int → Option (Int × Int × Int)
  | 0, _, _ => none
  | k1 + 1, x2_1, x15_1 => (if x15_1 < (xl9.length : Int) then (codec_ReadShort.j2 xl9 x2_1 x15_1 k1 (codec_ReadShort.l1 l0 xl9 k1)) else (if (l0.length : Int) ≥ (10 : Int) then (codec_ReadShort_1.f k1 (11 : Int)).bind fun t43 => some (t43.1, t43.2.1, t43.2.2) else (codec_ReadShort_1.f k1 (10 : Int)).bind fun t46 => some (t46.1, t46.2.1, t46.2.2)))
def codec_ReadShort.f (k : Nat) (l0 : List Int) : Option (Int × Int × Int) :=
  lt ((if (10 : Int) < (l0.length : Int) then (10 : Int) else (l0.length : Int))) fun y1 => (if 0 ≤ y1 then (if y1 ≤ (l0.length : Int) then lt (l0.take (y1).toNat) fun xl9 => codec_ReadShort.l1 l0 xl9 k (0 : Int) (0 : Int) else none) else none)
set_option maxRecDepth 100000 in
set_option maxHeartbeats 4000000 in
theorem codec_ReadShort.calls (k : Nat) (A0 : Option Addr) (c0 : Nat) (l0 : List Int) (r : Int × Int × Int) (w : World) (R0 : Rd w A0 (en (Value.int .u8) l0)) (C0 : l0.length ≤ c0) (H : codec_ReadShort.f k l0 = some r) :
    Calls Try.prog 15 #[.slice A0 l0.length c0] w fun e w' => ∃ x : Unit, e = .returned (.tuple #[.int .u64 r.1, .int .i64 r.2.1, .int .i64 r.2.2]) ∧ St w s0 w' := by
  unfold codec_ReadShort.f at H
  refine enter (n := 69) Try.func15 rfl (by kernel_rfl) (by kernel_rfl) ?_
  refine cs_seq ?_
  refine cs_region (l := [_, _, _]) ?_
  refine ls_val (v := .int .u64 (0 : Int)) rfl rfl (by kernel_rfl) (fun w => by kernel_rfl) ?_
  refine ls_val (v := .int .i64 (0 : Int)) rfl rfl (by kernel_rfl) (fun w => by kernel_rfl) ?_
  refine ls_val (v := .int .i64 (0 : Int)) rfl rfl (by kernel_rfl) (fun w => by kernel_rfl) ?_
  refine ls_end ?_
  refine qn_then ?_
  refine cs_seq ?_
  refine cs_region (l := [_]) ?_
  refine ls_val (v := .func (.func 24) #[] #[]) rfl rfl (by kernel_rfl) (fun w => by kernel_rfl) ?_
  refine ls_end ?_
  refine qn_then ?_
  refine cs_seq ?_
  refine cs_seq ?_
  refine cs_region (l := [_, _, _, _, _, _, _]) ?_
  refine ls_val (v := .slice A0 l0.length c0) rfl rfl (by kernel_rfl) (fun w => by kernel_rfl) ?_
  refine ls_val (v := .slice A0 l0.length c0) rfl rfl (by kernel_rfl) (fun w => by kernel_rfl) ?_
  refine ls_val (v := .int .i64 (l0.length : Int)) rfl rfl (by kernel_rfl) (fun w => by kernel_rfl) ?_
  obtain ⟨y1, hy2, H⟩ := lt_some H
  refine ls_val (v := .int .i64 (if (10 : Int) < (l0.length : Int) then (10 : Int) else (l0.length : Int))) rfl rfl (by kernel_rfl) (fun w => by kernel_rfl) ?_
  refine ls_ren 12 (v := .int .i64 (if (10 : Int) < (l0.length : Int) then (10 : Int) else (l0.length : Int))) (v' := .int .i64 y1) (by kernel_rfl) (by rw [hy2]) ?_
  obtain ⟨q3, H⟩ := ite_need H
  obtain ⟨q4, H⟩ := ite_need H
  obtain ⟨xl9, hy10, H⟩ := lt_some H
  have hz12 : 0 ≤ (y1).toNat := by omega
  have hz13 : (y1).toNat ≤ l0.length := by omega
  obtain ⟨xA5, xc6, he11, xC8, xR7⟩ := cut_at (A := A0) (c := c0) (l := l0) (E := (Value.int .u8)) 0 ((y1).toNat) hz12 hz13 C0 R0 (m := xl9) (by rw [← hy10] <;> simp)
  refine ls_cutv (A := A0) (c := c0) (l := l0) (e := 5) (a := 0) (b := (y1).toNat) rfl rfl (by kernel_rfl) rfl (by kernel_rfl) (by kernel_rfl) (by kernel_rfl) (.inl ⟨rfl, rfl⟩) (.inr ⟨.i64, by rw [Int.toNat_of_nonneg (by first | assumption | omega)]; kernel_rfl⟩) hz12 hz13 C0 he11 ?_
  refine ls_val (v := .int .i64 (xl9.length : Int)) rfl rfl (by kernel_rfl) (fun w => by kernel_rfl) ?_
  refine ls_val (v := .int .i64 (0 : Int)) rfl rfl (by kernel_rfl) (fun w => by kernel_rfl) ?_
  refine ls_end ?_
  refine qn_then ?_
  refine cs_block ?_
  refine cs_sub (s0) (sub_nil _) ?_
  refine cs_loop (fun kk f S => ∃ (g : Fr) (x2_1 : Int) (x15_1 : Int), f = upd (upd (upd (upd (upd (upd g 0 (.slice A0 l0.length c0)) 2 (.int .u64 x2_1)) 5 (.func (.func 24) #[] #[])) 13 (.slice xA5 xl9.length xc6)) 14 (.int .i64 (xl9.length : Int))) 15 (.int .i64 x15_1) ∧ S = s0 ∧ codec_ReadShort.l1 l0 xl9 kk x2_1 x15_1 = some r) k ?_ ?_ ?_
  · exact ⟨_, (0 : Int), (0 : Int), fr_next (fr_next (fr_next (fr_next (fr_next (fr_next (rfl) (by kernel_rfl)) (by kernel_rfl)) (by kernel_rfl)) (by kernel_rfl)) (by kernel_rfl)) (by kernel_rfl), rfl, H⟩
  · rintro f S ⟨g1, x2_1, x15_1, rfl, rfl, H⟩; cases H
  · rintro k1 f S ⟨g1, x2_1, x15_1, rfl, rfl, H⟩
    replace H : (if x15_1 < (xl9.length : Int) then (codec_ReadShort.j2 xl9 x2_1 x15_1 k1 (codec_ReadShort.l1 l0 xl9 k1)) else (if (l0.length : Int) ≥ (10 : Int) then (codec_ReadShort_1.f k1 (11 : Int)).bind fun t43 => some (t43.1, t43.2.1, t43.2.2) else (codec_ReadShort_1.f k1 (10 : Int)).bind fun t46 => some (t46.1, t46.2.1, t46.2.2))) = some r := H
    refine cs_seq ?_
    refine cs_region (l := [_]) ?_
    refine ls_val (v := .bool (decide (x15_1 < (xl9.length : Int)))) rfl rfl (by kernel_rfl) (fun w => by kernel_rfl) ?_
    refine ls_end ?_
    refine qn_then ?_
    refine cs_cut (fun f S => ∃ (g : Fr), f = upd (upd (upd (upd (upd (upd g 0 (.slice A0 l0.length c0)) 2 (.int .u64 x2_1)) 5 (.func (.func 24) #[] #[])) 13 (.slice xA5 xl9.length xc6)) 14 (.int .i64 (xl9.length : Int))) 15 (.int .i64 x15_1) ∧ S = s0 ∧ codec_ReadShort.j2 xl9 x2_1 x15_1 k1 (codec_ReadShort.l1 l0 xl9 k1) = some r) ?_ ?_
    · skip
      by_cases q41 : x15_1 < (xl9.length : Int)
      · replace H := ite_t q41 H
        refine cs_know (c := true) (dec_t q41) 16 (by kernel_rfl) ?_
        refine cs_true (by kernel_rfl) ?_
        refine cs_skip' ?_
        refine qn_meet (s0) ⟨_, fr_next (fr_next (fr_next (fr_next (fr_next (fr_next (rfl) (by kernel_rfl)) (by kernel_rfl)) (by kernel_rfl)) (by kernel_rfl)) (by kernel_rfl)) (by kernel_rfl), rfl, H⟩ (sub_nil _)
      · replace H := ite_f q41 H
        refine cs_know (c := false) (dec_f q41) 16 (by kernel_rfl) ?_
        refine cs_false (by kernel_rfl) ?_
        refine cs_exit' ?_
        refine qx_then ?_
        refine qx_then ?_
        refine qx_same ?_
        refine qn_then ?_
        refine cs_seq ?_
        refine cs_seq ?_
        refine cs_region (l := [_, _, _]) ?_
        refine ls_val (v := .slice A0 l0.length c0) rfl rfl (by kernel_rfl) (fun w => by kernel_rfl) ?_
        refine ls_val (v := .int .i64 (l0.length : Int)) rfl rfl (by kernel_rfl) (fun w => by kernel_rfl) ?_
        refine ls_val (v := .bool (decide ((l0.length : Int) ≥ (10 : Int)))) rfl rfl (by kernel_rfl) (fun w => by kernel_rfl) ?_
        refine ls_end ?_
        refine qn_then ?_
        by_cases q42 : (l0.length : Int) ≥ (10 : Int)
        · replace H := ite_t q42 H
          refine cs_know (c := true) (dec_t q42) 58 (by kernel_rfl) ?_
          refine cs_true (by kernel_rfl) ?_
          refine cs_seq ?_
          refine cs_region (l := [_, _, _, _, _, _, _, _]) ?_
          refine ls_val (v := .func (.func 24) #[] #[]) rfl rfl (by kernel_rfl) (fun w => by kernel_rfl) ?_
          obtain ⟨t43, hc44, H⟩ := bind_some H
          refine ls_call (fid := 24) (vals := #[.int .i64 (11 : Int)]) (X := Unit) (fun x => .tuple #[.int .u64 t43.1, .int .i64 t43.2.1, .int .i64 t43.2.2]) (fun x => s0) 0 rfl rfl (by kernel_rfl) (fun w => by kernel_rfl) (fun w hs => codec_ReadShort_1.calls k1 (11 : Int) t43 w  hc44) ?_
          intro x45
          refine ls_val (v := .int .u64 t43.1) rfl rfl (by kernel_rfl) (fun w => by kernel_rfl) ?_
          refine ls_val (v := .int .i64 t43.2.1) rfl rfl (by kernel_rfl) (fun w => by kernel_rfl) ?_
          refine ls_val (v := .int .i64 t43.2.2) rfl rfl (by kernel_rfl) (fun w => by kernel_rfl) ?_
          refine ls_val (v := .int .u64 t43.1) rfl rfl (by kernel_rfl) (fun w => by kernel_rfl) ?_
          refine ls_val (v := .int .i64 t43.2.1) rfl rfl (by kernel_rfl) (fun w => by kernel_rfl) ?_
          refine ls_val (v := .int .i64 t43.2.2) rfl rfl (by kernel_rfl) (fun w => by kernel_rfl) ?_
          refine ls_end ?_
          refine qn_then ?_
          refine cs_ret' ?_
          refine qr_then ?_
          obtain rfl := Option.some.inj H
          refine qr_end3 rfl (fun w' hs => ⟨(), rfl, ?_⟩)
          exact hs.sub (sub_nil _)
        · replace H := ite_f q42 H
          refine cs_know (c := false) (dec_f q42) 58 (by kernel_rfl) ?_
          refine cs_false (by kernel_rfl) ?_
          refine cs_skip' ?_
          refine qn_then ?_
          refine cs_seq ?_
          refine cs_region (l := [_, _, _, _, _, _, _, _]) ?_
          refine ls_val (v := .func (.func 24) #[] #[]) rfl rfl (by kernel_rfl) (fun w => by kernel_rfl) ?_
          obtain ⟨t46, hc47, H⟩ := bind_some H
          refine ls_call (fid := 24) (vals := #[.int .i64 (10 : Int)]) (X := Unit) (fun x => .tuple #[.int .u64 t46.1, .int .i64 t46.2.1, .int .i64 t46.2.2]) (fun x => s0) 0 rfl rfl (by kernel_rfl) (fun w => by kernel_rfl) (fun w hs => codec_ReadShort_1.calls k1 (10 : Int) t46 w  hc47) ?_
          intro x48
          refine ls_val (v := .int .u64 t46.1) rfl rfl (by kernel_rfl) (fun w => by kernel_rfl) ?_
          refine ls_val (v := .int .i64 t46.2.1) rfl rfl (by kernel_rfl) (fun w => by kernel_rfl) ?_
          refine ls_val (v := .int .i64 t46.2.2) rfl rfl (by kernel_rfl) (fun w => by kernel_rfl) ?_
          refine ls_val (v := .int .u64 t46.1) rfl rfl (by kernel_rfl) (fun w => by kernel_rfl) ?_
          refine ls_val (v := .int .i64 t46.2.1) rfl rfl (by kernel_rfl) (fun w => by kernel_rfl) ?_
          refine ls_val (v := .int .i64 t46.2.2) rfl rfl (by kernel_rfl) (fun w => by kernel_rfl) ?_
          refine ls_end ?_
          refine qn_then ?_
          refine cs_ret' ?_
          obtain rfl := Option.some.inj H
          refine qr_end3 rfl (fun w' hs => ⟨(), rfl, ?_⟩)
          exact hs.sub (sub_nil _)
    · rintro f S ⟨g2, rfl, rfl, H⟩
      replace H : (if 0 ≤ x15_1 then (if x15_1 < (xl9.length : Int) then lt (bits .andNot .u8 ((xl9).getD (x15_1).toNat 0) (128 : Int)) fun y19 => (bits_Len64.f k1 (IntKind.wrap .u64 y19)).bind fun t21 => lt (IntKind.wrap .i64 (t21 + (IntKind.wrap .i64 ((7 : Int) * x15_1)))) fun y24 => (if y24 > (64 : Int) then (codec_ReadShort_1.f k1 (11 : Int)).bind fun t27 => some (t27.1, t27.2.1, t27.2.2) else (if 0 ≤ IntKind.wrap .i64 ((7 : Int) * x15_1) then lt (shlv .u64 (IntKind.wrap .u64 y19) (IntKind.wrap .i64 ((7 : Int) * x15_1))) fun y31 => (if ((xl9).getD (x15_1).toNat 0) < (128 : Int) then (codec_groups.f k1 (bits .or .u64 x2_1 y31)).bind fun t34 => (if t34 = (IntKind.wrap .i64 (x15_1 + (1 : Int))) then some (bits .or .u64 x2_1 y31, IntKind.wrap .i64 (x15_1 + (1 : Int)), (0 : Int)) else (codec_ReadShort_1.f k1 (11 : Int)).bind fun t38 => some (t38.1, t38.2.1, t38.2.2)) else (codec_ReadShort.l1 l0 xl9 k1) (bits .or .u64 x2_1 y31) (IntKind.wrap .i64 (x15_1 + (1 : Int)))) else none)) else none) else none) = some r := H
      refine cs_seq ?_
      refine cs_block ?_
      refine cs_seq ?_
      refine cs_region (l := [_, _, _, _, _]) ?_
      refine ls_val (v := .int .i64 x15_1) rfl rfl (by kernel_rfl) (fun w => by kernel_rfl) ?_
      obtain ⟨q14, H⟩ := ite_need H
      obtain ⟨q15, H⟩ := ite_need H
      obtain ⟨ad16, hA17, hc18⟩ := idx_at (E := (Value.int .u8)) (i := x15_1) xR7 q14 q15 0
      refine ls_idxv (A := xA5) (c := xc6) (l := xl9) (k := .i64) (i := x15_1) (e := 5) (ad := ad16) rfl rfl (by kernel_rfl) hA17 rfl (by kernel_rfl) (by kernel_rfl) (by kernel_rfl) (by kernel_rfl) q14 q15 ?_
      refine ls_load (a0 := (ad16.add (x15_1).toNat)) (v := .int .u8 ((xl9).getD (x15_1).toNat 0)) (de := (TypeDesc.int .u8)) rfl rfl (by kernel_rfl) rfl (by kernel_rfl) (by kernel_rfl) (by kernel_rfl) (fun w hs => cell_step hs.below hc18) ?_
      refine ls_val (v := .int .i64 x15_1) rfl rfl (by kernel_rfl) (fun w => by kernel_rfl) ?_
      refine ls_val (v := .int .u8 ((xl9).getD (x15_1).toNat 0)) rfl rfl (by kernel_rfl) (fun w => by kernel_rfl) ?_
      refine ls_end ?_
      refine qn_then ?_
      refine cs_seq ?_
      refine cs_region (l := [_, _, _, _]) ?_
      refine ls_val (v := .int .u8 ((xl9).getD (x15_1).toNat 0)) rfl rfl (by kernel_rfl) (fun w => by kernel_rfl) ?_
      obtain ⟨y19, hy20, H⟩ := lt_some H
      refine ls_val (v := .int .u8 (bits .andNot .u8 ((xl9).getD (x15_1).toNat 0) (128 : Int))) rfl rfl (by kernel_rfl) (fun w => by kernel_rfl) ?_
      refine ls_ren 21 (v := .int .u8 (bits .andNot .u8 ((xl9).getD (x15_1).toNat 0) (128 : Int))) (v' := .int .u8 y19) (by kernel_rfl) (by rw [hy20]) ?_
      refine ls_val (v := .int .u64 (IntKind.wrap .u64 y19)) rfl rfl (by kernel_rfl) (fun w => by kernel_rfl) ?_
      refine ls_val (v := .int .u64 (IntKind.wrap .u64 y19)) rfl rfl (by kernel_rfl) (fun w => by kernel_rfl) ?_
      refine ls_end ?_
      refine qn_then ?_
      refine cs_seq ?_
      refine cs_seq ?_
      refine cs_region (l := [_, _, _, _, _, _]) ?_
      refine ls_val (v := .int .u64 (IntKind.wrap .u64 y19)) rfl rfl (by kernel_rfl) (fun w => by kernel_rfl) ?_
      obtain ⟨t21, hc22, H⟩ := bind_some H
      refine ls_call (fid := 25) (vals := #[.int .u64 (IntKind.wrap .u64 y19)]) (X := Unit) (fun x => .int .i64 t21) (fun x => s0) 0 rfl rfl (by kernel_rfl) (fun w => by kernel_rfl) (fun w hs => bits_Len64.calls k1 (IntKind.wrap .u64 y19) t21 w  hc22) ?_
      intro x23
      refine ls_val (v := .int .i64 x15_1) rfl rfl (by kernel_rfl) (fun w => by kernel_rfl) ?_
      refine ls_val (v := .int .i64 (IntKind.wrap .i64 ((7 : Int) * x15_1))) rfl rfl (by kernel_rfl) (fun w => by kernel_rfl) ?_
      obtain ⟨y24, hy25, H⟩ := lt_some H
      refine ls_val (v := .int .i64 (IntKind.wrap .i64 (t21 + (IntKind.wrap .i64 ((7 : Int) * x15_1))))) rfl rfl (by kernel_rfl) (fun w => by kernel_rfl) ?_
      refine ls_ren 27 (v := .int .i64 (IntKind.wrap .i64 (t21 + (IntKind.wrap .i64 ((7 : Int) * x15_1))))) (v' := .int .i64 y24) (by kernel_rfl) (by rw [hy25]) ?_
      refine ls_val (v := .bool (decide (y24 > (64 : Int)))) rfl rfl (by kernel_rfl) (fun w => by kernel_rfl) ?_
      refine ls_end ?_
      refine qn_then ?_
      by_cases q26 : y24 > (64 : Int)
      · replace H := ite_t q26 H
        refine cs_know (c := true) (dec_t q26) 28 (by kernel_rfl) ?_
        refine cs_true (by kernel_rfl) ?_
        refine cs_seq ?_
        refine cs_region (l := [_, _, _, _, _, _, _, _]) ?_
        refine ls_val (v := .func (.func 24) #[] #[]) rfl rfl (by kernel_rfl) (fun w => by kernel_rfl) ?_
        obtain ⟨t27, hc28, H⟩ := bind_some H
        refine ls_call (fid := 24) (vals := #[.int .i64 (11 : Int)]) (X := Unit) (fun x => .tuple #[.int .u64 t27.1, .int .i64 t27.2.1, .int .i64 t27.2.2]) (fun x => s0) 0 rfl rfl (by kernel_rfl) (fun w => by kernel_rfl) (fun w hs => codec_ReadShort_1.calls k1 (11 : Int) t27 w  hc28) ?_
        intro x29
        refine ls_val (v := .int .u64 t27.1) rfl rfl (by kernel_rfl) (fun w => by kernel_rfl) ?_
        refine ls_val (v := .int .i64 t27.2.1) rfl rfl (by kernel_rfl) (fun w => by kernel_rfl) ?_
        refine ls_val (v := .int .i64 t27.2.2) rfl rfl (by kernel_rfl) (fun w => by kernel_rfl) ?_
        refine ls_val (v := .int .u64 t27.1) rfl rfl (by kernel_rfl) (fun w => by kernel_rfl) ?_
        refine ls_val (v := .int .i64 t27.2.1) rfl rfl (by kernel_rfl) (fun w => by kernel_rfl) ?_
        refine ls_val (v := .int .i64 t27.2.2) rfl rfl (by kernel_rfl) (fun w => by kernel_rfl) ?_
        refine ls_end ?_
        refine qn_then ?_
        refine cs_ret' ?_
        refine qr_then ?_
        refine qr_block ?_
        refine qr_then ?_
        refine qr_then ?_
        refine qr_block ?_
        refine qr_then ?_
        obtain rfl := Option.some.inj H
        refine qr_end3 rfl (fun w' hs => ⟨(), rfl, ?_⟩)
        exact hs.sub (sub_nil _)
      · replace H := ite_f q26 H
        refine cs_know (c := false) (dec_f q26) 28 (by kernel_rfl) ?_
        refine cs_false (by kernel_rfl) ?_
        refine cs_skip' ?_
        refine qn_then ?_
        refine cs_seq ?_
        refine cs_region (l := [_, _, _, _, _, _, _]) ?_
        refine ls_val (v := .int .u64 x2_1) rfl rfl (by kernel_rfl) (fun w => by kernel_rfl) ?_
        refine ls_val (v := .int .u64 (IntKind.wrap .u64 y19)) rfl rfl (by kernel_rfl) (fun w => by kernel_rfl) ?_
        refine ls_val (v := .int .i64 x15_1) rfl rfl (by kernel_rfl) (fun w => by kernel_rfl) ?_
        refine ls_val (v := .int .i64 (IntKind.wrap .i64 ((7 : Int) * x15_1))) rfl rfl (by kernel_rfl) (fun w => by kernel_rfl) ?_
        obtain ⟨q30, H⟩ := ite_need H
        obtain ⟨y31, hy32, H⟩ := lt_some H
        refine ls_shiftl (k := .u64) (yk := .i64) (x := (IntKind.wrap .u64 y19)) (y := (IntKind.wrap .i64 ((7 : Int) * x15_1))) rfl rfl (by kernel_rfl) (fun w => by kernel_rfl) q30 ?_
        refine ls_ren 38 (v := .int .u64 (shlv .u64 (IntKind.wrap .u64 y19) (IntKind.wrap .i64 ((7 : Int) * x15_1)))) (v' := .int .u64 y31) (by kernel_rfl) (by rw [hy32]) ?_
        refine ls_val (v := .int .u64 (bits .or .u64 x2_1 y31)) rfl rfl (by kernel_rfl) (fun w => by kernel_rfl) ?_
        refine ls_val (v := .int .u64 (bits .or .u64 x2_1 y31)) rfl rfl (by kernel_rfl) (fun w => by kernel_rfl) ?_
        refine ls_end ?_
        refine qn_then ?_
        refine cs_seq ?_
        refine cs_region (l := [_, _]) ?_
        refine ls_val (v := .int .u8 ((xl9).getD (x15_1).toNat 0)) rfl rfl (by kernel_rfl) (fun w => by kernel_rfl) ?_
        refine ls_val (v := .bool (decide (((xl9).getD (x15_1).toNat 0) < (128 : Int)))) rfl rfl (by kernel_rfl) (fun w => by kernel_rfl) ?_
        refine ls_end ?_
        refine qn_then ?_
        by_cases q33 : ((xl9).getD (x15_1).toNat 0) < (128 : Int)
        · replace H := ite_t q33 H
          refine cs_know (c := true) (dec_t q33) 41 (by kernel_rfl) ?_
          refine cs_true (by kernel_rfl) ?_
          refine cs_seq ?_
          refine cs_seq ?_
          refine cs_region (l := [_, _, _, _, _]) ?_
          refine ls_val (v := .int .u64 (bits .or .u64 x2_1 y31)) rfl rfl (by kernel_rfl) (fun w => by kernel_rfl) ?_
          obtain ⟨t34, hc35, H⟩ := bind_some H
          refine ls_call (fid := 26) (vals := #[.int .u64 (bits .or .u64 x2_1 y31)]) (X := Unit) (fun x => .int .i64 t34) (fun x => s0) 0 rfl rfl (by kernel_rfl) (fun w => by kernel_rfl) (fun w hs => codec_groups.calls k1 (bits .or .u64 x2_1 y31) t34 w  hc35) ?_
          intro x36
          refine ls_val (v := .int .i64 x15_1) rfl rfl (by kernel_rfl) (fun w => by kernel_rfl) ?_
          refine ls_val (v := .int .i64 (IntKind.wrap .i64 (x15_1 + (1 : Int)))) rfl rfl (by kernel_rfl) (fun w => by kernel_rfl) ?_
          refine ls_val (v := .bool (!decide (t34 = (IntKind.wrap .i64 (x15_1 + (1 : Int)))))) rfl rfl (by kernel_rfl) (fun w => by kernel_rfl) ?_
          refine ls_end ?_
          refine qn_then ?_
          by_cases q37 : t34 = (IntKind.wrap .i64 (x15_1 + (1 : Int)))
          · replace H := ite_t q37 H
            refine cs_know (c := false) (congrArg Bool.not (dec_t q37)) 46 (by kernel_rfl) ?_
            refine cs_false (by kernel_rfl) ?_
            refine cs_skip' ?_
            refine qn_then ?_
            refine cs_seq ?_
            refine cs_region (l := [_, _, _, _, _, _]) ?_
            refine ls_val (v := .int .u64 (bits .or .u64 x2_1 y31)) rfl rfl (by kernel_rfl) (fun w => by kernel_rfl) ?_
            refine ls_val (v := .int .i64 x15_1) rfl rfl (by kernel_rfl) (fun w => by kernel_rfl) ?_
            refine ls_val (v := .int .i64 (IntKind.wrap .i64 (x15_1 + (1 : Int)))) rfl rfl (by kernel_rfl) (fun w => by kernel_rfl) ?_
            refine ls_val (v := .int .u64 (bits .or .u64 x2_1 y31)) rfl rfl (by kernel_rfl) (fun w => by kernel_rfl) ?_
            refine ls_val (v := .int .i64 (IntKind.wrap .i64 (x15_1 + (1 : Int)))) rfl rfl (by kernel_rfl) (fun w => by kernel_rfl) ?_
            refine ls_val (v := .int .i64 (0 : Int)) rfl rfl (by kernel_rfl) (fun w => by kernel_rfl) ?_
            refine ls_end ?_
            refine qn_then ?_
            refine cs_ret' ?_
            refine qr_block ?_
            refine qr_then ?_
            refine qr_then ?_
            refine qr_block ?_
            refine qr_then ?_
            obtain rfl := Option.some.inj H
            refine qr_end3 rfl (fun w' hs => ⟨(), rfl, ?_⟩)
            exact hs.sub (sub_nil _)
          · replace H := ite_f q37 H
            refine cs_know (c := true) (congrArg Bool.not (dec_f q37)) 46 (by kernel_rfl) ?_
            refine cs_true (by kernel_rfl) ?_
            refine cs_seq ?_
            refine cs_region (l := [_, _, _, _, _, _, _, _]) ?_
            refine ls_val (v := .func (.func 24) #[] #[]) rfl rfl (by kernel_rfl) (fun w => by kernel_rfl) ?_
            obtain ⟨t38, hc39, H⟩ := bind_some H
            refine ls_call (fid := 24) (vals := #[.int .i64 (11 : Int)]) (X := Unit) (fun x => .tuple #[.int .u64 t38.1, .int .i64 t38.2.1, .int .i64 t38.2.2]) (fun x => s0) 0 rfl rfl (by kernel_rfl) (fun w => by kernel_rfl) (fun w hs => codec_ReadShort_1.calls k1 (11 : Int) t38 w  hc39) ?_
            intro x40
            refine ls_val (v := .int .u64 t38.1) rfl rfl (by kernel_rfl) (fun w => by kernel_rfl) ?_
            refine ls_val (v := .int .i64 t38.2.1) rfl rfl (by kernel_rfl) (fun w => by kernel_rfl) ?_
            refine ls_val (v := .int .i64 t38.2.2) rfl rfl (by kernel_rfl) (fun w => by kernel_rfl) ?_
            refine ls_val (v := .int .u64 t38.1) rfl rfl (by kernel_rfl) (fun w => by kernel_rfl) ?_
            refine ls_val (v := .int .i64 t38.2.1) rfl rfl (by kernel_rfl) (fun w => by kernel_rfl) ?_
            refine ls_val (v := .int .i64 t38.2.2) rfl rfl (by kernel_rfl) (fun w => by kernel_rfl) ?_
            refine ls_end ?_
            refine qn_then ?_
            refine cs_ret' ?_
            refine qr_then ?_
            refine qr_block ?_
            refine qr_then ?_
            refine qr_then ?_
            refine qr_block ?_
            refine qr_then ?_
            obtain rfl := Option.some.inj H
            refine qr_end3 rfl (fun w' hs => ⟨(), rfl, ?_⟩)
            exact hs.sub (sub_nil _)
        · replace H := ite_f q33 H
          refine cs_know (c := false) (dec_f q33) 41 (by kernel_rfl) ?_
          refine cs_false (by kernel_rfl) ?_
          refine cs_skip' ?_
          refine qn_block ?_
          refine qn_then ?_
          refine cs_region (l := [_, _]) ?_
          refine ls_val (v := .int .i64 (IntKind.wrap .i64 (x15_1 + (1 : Int)))) rfl rfl (by kernel_rfl) (fun w => by kernel_rfl) ?_
          refine ls_val (v := .int .i64 (IntKind.wrap .i64 (x15_1 + (1 : Int)))) rfl rfl (by kernel_rfl) (fun w => by kernel_rfl) ?_
          refine ls_end ?_
          refine qn_again k1 (s0) (Nat.le_refl _) ⟨_, (bits .or .u64 x2_1 y31), (IntKind.wrap .i64 (x15_1 + (1 : Int))), fr_next (fr_next (fr_next (fr_next (fr_next (fr_next (rfl) (by kernel_rfl)) (by kernel_rfl)) (by kernel_rfl)) (by kernel_rfl)) (by kernel_rfl)) (by kernel_rfl), rfl, H⟩ (sub_nil _)

/-! ### shadowbox/shadowboxref01.ReadShort: function 16 -/
def shadowboxref01_ReadShort.l2 (l0 : List Int) (x5_1 : Int) : Nat → Int → Int → Option (Int × Int × Int)
  | 0, _, _ => none
  | k2 + 1, x6_2, x7_2 => (if x7_2 ≥ (0 : Int) then (if 0 ≤ x7_2 then (if x7_2 < (l0.length : Int) then lt (Int.tmod ((l0).getD (x7_2).toNat 0) (128 : Int)) fun y22 => lt (IntKind.wrap .u64 ((IntKind.wrap .u64 (x6_2 * (128 : Int))) + (IntKind.wrap .u64 y22))) fun y24 => (shadowboxref01_ReadShort.l2 l0 x5_1 k2) y24 (IntKind.wrap .i64 (x7_2 - (1 : Int))) else none) else none) else some (x6_2, IntKind.wrap .i64 (x5_1 + (1 : Int)), (0 : Int)))
def shadowboxref01_ReadShort.l3 (l0 : List Int) (x5_1 : Int) : Nat → Int → Int → Option (Int × Int × Int)
  | 0, _, _ => none
  | k3 + 1, x6_3, x7_3 => (if x7_3 ≥ (0 : Int) then (if 0 ≤ x7_3 then (if x7_3 < (l0.length : Int) then lt (Int.tmod ((l0).getD (x7_3).toNat 0) (128 : Int)) fun y32 => lt (IntKind.wrap .u64 ((IntKind.wrap .u64 (x6_3 * (128 : Int))) + (IntKind.wrap .u64 y32))) fun y34 => (shadowboxref01_ReadShort.l3 l0 x5_1 k3) y34 (IntKind.wrap .i64 (x7_3 - (1 : Int))) else none) else none) else some (x6_3, IntKind.wrap .i64 (x5_1 + (1 : Int)), (0 : Int)))
def shadowboxref01_ReadShort.l4 (l0 : List Int) (x5_1 : Int) : Nat → Int → Int → Option (Int × Int × Int)
  | 0, _, _ => none
  | k4 + 1, x6_4, x7_4 => (if x7_4 ≥ (0 : Int) then (if 0 ≤ x7_4 then (if x7_4 < (l0.length : Int) then lt (Int.tmod ((l0).getD (x7_4).toNat 0) (128 : Int)) fun y49 => lt (IntKind.wrap .u64 ((IntKind.wrap .u64 (x6_4 * (128 : Int))) + (IntKind.wrap .u64 y49))) fun y51 => (shadowboxref01_ReadShort.l4 l0 x5_1 k4) y51 (IntKind.wrap .i64 (x7_4 - (1 : Int))) else none) else none) else some (x6_4, IntKind.wrap .i64 (x5_1 + (1 : Int)), (0 : Int)))
def shadowboxref01_ReadShort.l5 (l0 : List Int) (x5_1 : Int) : Nat → Int → Int → Option (Int × Int × Int)
  | 0, _, _ => none
  | k5 + 1, x6_5, x7_5 => (if x7_5 ≥ (0 : Int) then (if 0 ≤ x7_5 then (if x7_5 < (l0.length : Int) then lt (Int.tmod ((l0).getD (x7_5).toNat 0) (128 : Int)) fun y59 => lt (IntKind.wrap .u64 ((IntKind.wrap .u64 (x6_5 * (128 : Int))) + (IntKind.wrap .u64 y59))) fun y61 => (shadowboxref01_ReadShort.l5 l0 x5_1 k5) y61 (IntKind.wrap .i64 (x7_5 - (1 : Int))) else none) else none) else some (x6_5, IntKind.wrap .i64 (x5_1 + (1 : Int)), (0 : Int)))
def shadowboxref01_ReadShort.j1 (k : Nat) (l0 : List Int) (x5_1 : Int) : Option (Int × Int × Int) := (if x5_1 = (10 : Int) then some ((0 : Int), (0 : Int), (11 : Int)) else (if x5_1 = (l0.length : Int) then some ((0 : Int), (0 : Int), (10 : Int)) else (if x5_1 = (9 : Int) then (if (9 : Int) < (l0.length : Int) then (if ((l0).getD ((9 : Int)).toNat 0) > (1 : Int) then some ((0 : Int), (0 : Int), (11 : Int)) else (if x5_1 > (0 : Int) then (if 0 ≤ x5_1 then (if x5_1 < (l0.length : Int) then (if ((l0).getD (x5_1).toNat 0) = (0 : Int) then some ((0 : Int), (0 : Int), (11 : Int)) else shadowboxref01_ReadShort.l2 l0 x5_1 k (0 : Int) x5_1) else none) else none) else shadowboxref01_ReadShort.l3 l0 x5_1 k (0 : Int) x5_1)) else none) else (if x5_1 > (0 : Int) then (if 0 ≤ x5_1 then (if x5_1 < (l0.length : Int) then (if ((l0).getD (x5_1).toNat 0) = (0 : Int) then some ((0 : Int), (0 : Int), (11 : Int)) else shadowboxref01_ReadShort.l4 l0 x5_1 k (0 : Int) x5_1) else none) else none) else shadowboxref01_ReadShort.l5 l0 x5_1 k (0 : Int) x5_1))))
def shadowboxref01_ReadShort.l6 (l0 : List Int) (j1 : Int → Option (Int × Int × Int)) : Nat → Int → Option (Int × Int × Int)
  | 0, _ => none
  | k6 + 1, x5_6 => (if x5_6 < (l0.length : Int) then (if x5_6 < (10 : Int) then (if 0 ≤ x5_6 then (if ((l0).getD (x5_6).toNat 0) ≥ (128 : Int) then (shadowboxref01_ReadShort.l6 l0 j1 k6) (IntKind.wrap .i64 (x5_6 + (1 : Int))) else j1 x5_6) else none) else j1 x5_6) else j1 x5_6)
def shadowboxref01_ReadShort.f (k : Nat) (l0 : List Int) : Option (Int × Int × Int) :=
  shadowboxref01_ReadShort.l6 l0 (shadowboxref01_ReadShort.j1 k l0) k (0 : Int)
set_option maxRecDepth 100000 in
set_option maxHeartbeats 4000000 in
theorem shadowboxref01_ReadShort.calls (k : Nat) (A0 : Option Addr) (c0 : Nat) (l0 : List Int) (r : Int × Int × Int) (w : World) (R0 : Rd w A0 (en (Value.int .u8) l0)) (C0 : l0.length ≤ c0) (H : shadowboxref01_ReadShort.f k l0 = some r) :
    Calls Try.prog 16 #[.slice A0 l0.length c0] w fun e w' => ∃ x : Unit, e = .returned (.tuple #[.int .u64 r.1, .int .i64 r.2.1, .int .i64 r.2.2]) ∧ St w s0 w' := by
  unfold shadowboxref01_ReadShort.f at H
  refine enter (n := 67) Try.func16 rfl (by kernel_rfl) (by kernel_rfl) ?_
  refine cs_seq ?_
  refine cs_region (l := [_, _, _]) ?_
  refine ls_val (v := .int .u64 (0 : Int)) rfl rfl (by kernel_rfl) (fun w => by kernel_rfl) ?_
  refine ls_val (v := .int .i64 (0 : Int)) rfl rfl (by kernel_rfl) (fun w => by kernel_rfl) ?_
  refine ls_val (v := .int .i64 (0 : Int)) rfl rfl (by kernel_rfl) (fun w => by kernel_rfl) ?_
  refine ls_end ?_
  refine qn_then ?_
  refine cs_seq ?_
  refine cs_region (l := [_]) ?_
  refine ls_val (v := .int .i64 (0 : Int)) rfl rfl (by kernel_rfl) (fun w => by kernel_rfl) ?_
  refine ls_end ?_
  refine qn_then ?_
  refine cs_cut (fun f S => ∃ (g : Fr) (x5_1 : Int), f = upd (upd g 0 (.slice A0 l0.length c0)) 5 (.int .i64 x5_1) ∧ S = s0 ∧ shadowboxref01_ReadShort.j1 k l0 x5_1 = some r) ?_ ?_
  · skip
    refine cs_block ?_
    refine cs_sub (s0) (sub_nil _) ?_
    refine cs_loop (fun kk f S => ∃ (g : Fr) (x5_6 : Int), f = upd (upd g 0 (.slice A0 l0.length c0)) 5 (.int .i64 x5_6) ∧ S = s0 ∧ shadowboxref01_ReadShort.l6 l0 (shadowboxref01_ReadShort.j1 k l0) kk x5_6 = some r) k ?_ ?_ ?_
    · exact ⟨_, (0 : Int), fr_next (fr_next (rfl) (by kernel_rfl)) (by kernel_rfl), rfl, H⟩
    · rintro f S ⟨g6, x5_6, rfl, rfl, H⟩; cases H
    · rintro k6 f S ⟨g6, x5_6, rfl, rfl, H⟩
      replace H : (if x5_6 < (l0.length : Int) then (if x5_6 < (10 : Int) then (if 0 ≤ x5_6 then (if ((l0).getD (x5_6).toNat 0) ≥ (128 : Int) then (shadowboxref01_ReadShort.l6 l0 (shadowboxref01_ReadShort.j1 k l0) k6) (IntKind.wrap .i64 (x5_6 + (1 : Int))) else (shadowboxref01_ReadShort.j1 k l0) x5_6) else none) else (shadowboxref01_ReadShort.j1 k l0) x5_6) else (shadowboxref01_ReadShort.j1 k l0) x5_6) = some r := H
      refine cs_seq ?_
      refine cs_seq ?_
      refine cs_region (l := [_, _, _, _, _, _, _, _, _, _, _, _, _, _, _]) ?_
      refine ls_val (v := .int .i64 x5_6) rfl rfl (by kernel_rfl) (fun w => by kernel_rfl) ?_
      refine ls_val (v := .slice A0 l0.length c0) rfl rfl (by kernel_rfl) (fun w => by kernel_rfl) ?_
      refine ls_val (v := .int .i64 (l0.length : Int)) rfl rfl (by kernel_rfl) (fun w => by kernel_rfl) ?_
      refine ls_val (v := .bool (decide (x5_6 < (l0.length : Int)))) rfl rfl (by kernel_rfl) (fun w => by kernel_rfl) ?_
      refine ls_val (v := .bool (decide (x5_6 < (l0.length : Int)))) rfl rfl (by kernel_rfl) (fun w => by kernel_rfl) ?_
      by_cases q63 : x5_6 < (l0.length : Int)
      · replace H := ite_t q63 H
        refine ls_know (c := true) (dec_t q63) 12 (by kernel_rfl) ?_
        refine ls_on (j := 4) (t := 12) (b := true) rfl rfl (by kernel_rfl) (by kernel_rfl) ?_
        refine ls_val (v := .int .i64 x5_6) rfl rfl (by kernel_rfl) (fun w => by kernel_rfl) ?_
        refine ls_on (j := 4) (t := 12) (b := true) rfl rfl (by kernel_rfl) (by kernel_rfl) ?_
        refine ls_val (v := .bool (decide (x5_6 < (10 : Int)))) rfl rfl (by kernel_rfl) (fun w => by kernel_rfl) ?_
        refine ls_val (v := .bool (decide (x5_6 < (10 : Int)))) rfl rfl (by kernel_rfl) (fun w => by kernel_rfl) ?_
        refine ls_val (v := .bool (decide (x5_6 < (10 : Int)))) rfl rfl (by kernel_rfl) (fun w => by kernel_rfl) ?_
        by_cases q64 : x5_6 < (10 : Int)
        · replace H := ite_t q64 H
          refine ls_know (c := true) (dec_t q64) 16 (by kernel_rfl) ?_
          refine ls_on (j := 8) (t := 16) (b := true) rfl rfl (by kernel_rfl) (by kernel_rfl) ?_
          refine ls_val (v := .slice A0 l0.length c0) rfl rfl (by kernel_rfl) (fun w => by kernel_rfl) ?_
          refine ls_on (j := 8) (t := 16) (b := true) rfl rfl (by kernel_rfl) (by kernel_rfl) ?_
          refine ls_val (v := .int .i64 x5_6) rfl rfl (by kernel_rfl) (fun w => by kernel_rfl) ?_
          refine ls_on (j := 8) (t := 16) (b := true) rfl rfl (by kernel_rfl) (by kernel_rfl) ?_
          obtain ⟨q65, H⟩ := ite_need H
          obtain ⟨ad66, hA67, hc68⟩ := idx_at (E := (Value.int .u8)) (i := x5_6) R0 q65 q63 0
          refine ls_idxv (A := A0) (c := c0) (l := l0) (k := .i64) (i := x5_6) (e := 5) (ad := ad66) rfl rfl (by kernel_rfl) hA67 rfl (by kernel_rfl) (by kernel_rfl) (by kernel_rfl) (by kernel_rfl) q65 q63 ?_
          refine ls_on (j := 8) (t := 16) (b := true) rfl rfl (by kernel_rfl) (by kernel_rfl) ?_
          refine ls_load (a0 := (ad66.add (x5_6).toNat)) (v := .int .u8 ((l0).getD (x5_6).toNat 0)) (de := (TypeDesc.int .u8)) rfl rfl (by kernel_rfl) rfl (by kernel_rfl) (by kernel_rfl) (by kernel_rfl) (fun w hs => cell_step hs.below hc68) ?_
          refine ls_on (j := 8) (t := 16) (b := true) rfl rfl (by kernel_rfl) (by kernel_rfl) ?_
          refine ls_val (v := .bool (decide (((l0).getD (x5_6).toNat 0) ≥ (128 : Int)))) rfl rfl (by kernel_rfl) (fun w => by kernel_rfl) ?_
          refine ls_val (v := .bool (decide (((l0).getD (x5_6).toNat 0) ≥ (128 : Int)))) rfl rfl (by kernel_rfl) (fun w => by kernel_rfl) ?_
          refine ls_end ?_
          refine qn_then ?_
          by_cases q69 : ((l0).getD (x5_6).toNat 0) ≥ (128 : Int)
          · replace H := ite_t q69 H
            refine cs_know (c := true) (dec_t q69) 22 (by kernel_rfl) ?_
            refine cs_true (by kernel_rfl) ?_
            refine cs_skip' ?_
            refine qn_then ?_
            refine cs_block ?_
            refine cs_region (l := [_, _, _]) ?_
            refine ls_val (v := .int .i64 x5_6) rfl rfl (by kernel_rfl) (fun w => by kernel_rfl) ?_
            refine ls_val (v := .int .i64 (IntKind.wrap .i64 (x5_6 + (1 : Int)))) rfl rfl (by kernel_rfl) (fun w => by kernel_rfl) ?_
            refine ls_val (v := .int .i64 (IntKind.wrap .i64 (x5_6 + (1 : Int)))) rfl rfl (by kernel_rfl) (fun w => by kernel_rfl) ?_
            refine ls_end ?_
            refine qn_block ?_
            refine qn_again k6 (s0) (Nat.le_refl _) ⟨_, (IntKind.wrap .i64 (x5_6 + (1 : Int))), fr_next (fr_next (rfl) (by kernel_rfl)) (by kernel_rfl), rfl, H⟩ (sub_nil _)
          · replace H := ite_f q69 H
            refine cs_know (c := false) (dec_f q69) 22 (by kernel_rfl) ?_
            refine cs_false (by kernel_rfl) ?_
            refine cs_exit' ?_
            refine qx_then ?_
            refine qx_then ?_
            refine qx_same ?_
            refine qn_meet (s0) ⟨_, x5_6, fr_next (fr_next (rfl) (by kernel_rfl)) (by kernel_rfl), rfl, H⟩ (sub_nil _)
        · replace H := ite_f q64 H
          refine ls_know (c := false) (dec_f q64) 16 (by kernel_rfl) ?_
          refine ls_off (j := 8) (t := 16) (b := true) (c := false) rfl rfl (by kernel_rfl) (by kernel_rfl) rfl rfl (by kernel_rfl) ?_
          refine ls_off (j := 8) (t := 16) (b := true) (c := false) rfl rfl (by kernel_rfl) (by kernel_rfl) rfl rfl (by kernel_rfl) ?_
          refine ls_off (j := 8) (t := 16) (b := true) (c := false) rfl rfl (by kernel_rfl) (by kernel_rfl) rfl rfl (by kernel_rfl) ?_
          refine ls_off (j := 8) (t := 16) (b := true) (c := false) rfl rfl (by kernel_rfl) (by kernel_rfl) rfl rfl (by kernel_rfl) ?_
          refine ls_off (j := 8) (t := 16) (b := true) (c := false) rfl rfl (by kernel_rfl) (by kernel_rfl) rfl rfl (by kernel_rfl) ?_
          refine ls_val (v := .bool false) rfl rfl (by kernel_rfl) (fun w => by kernel_rfl) ?_
          refine ls_end ?_
          refine qn_then ?_
          refine cs_false (by kernel_rfl) ?_
          refine cs_exit' ?_
          refine qx_then ?_
          refine qx_then ?_
          refine qx_same ?_
          refine qn_meet (s0) ⟨_, x5_6, fr_next (fr_next (rfl) (by kernel_rfl)) (by kernel_rfl), rfl, H⟩ (sub_nil _)
      · replace H := ite_f q63 H
        refine ls_know (c := false) (dec_f q63) 12 (by kernel_rfl) ?_
        refine ls_off (j := 4) (t := 12) (b := true) (c := false) rfl rfl (by kernel_rfl) (by kernel_rfl) rfl rfl (by kernel_rfl) ?_
        refine ls_off (j := 4) (t := 12) (b := true) (c := false) rfl rfl (by kernel_rfl) (by kernel_rfl) rfl rfl (by kernel_rfl) ?_
        refine ls_val (v := .bool false) rfl rfl (by kernel_rfl) (fun w => by kernel_rfl) ?_
        refine ls_val (v := .bool false) rfl rfl (by kernel_rfl) (fun w => by kernel_rfl) ?_
        refine ls_off (j := 8) (t := 16) (b := true) (c := false) rfl rfl (by kernel_rfl) (by kernel_rfl) rfl rfl (by kernel_rfl) ?_
        refine ls_off (j := 8) (t := 16) (b := true) (c := false) rfl rfl (by kernel_rfl) (by kernel_rfl) rfl rfl (by kernel_rfl) ?_
        refine ls_off (j := 8) (t := 16) (b := true) (c := false) rfl rfl (by kernel_rfl) (by kernel_rfl) rfl rfl (by kernel_rfl) ?_
        refine ls_off (j := 8) (t := 16) (b := true) (c := false) rfl rfl (by kernel_rfl) (by kernel_rfl) rfl rfl (by kernel_rfl) ?_
        refine ls_off (j := 8) (t := 16) (b := true) (c := false) rfl rfl (by kernel_rfl) (by kernel_rfl) rfl rfl (by kernel_rfl) ?_
        refine ls_val (v := .bool false) rfl rfl (by kernel_rfl) (fun w => by kernel_rfl) ?_
        refine ls_end ?_
        refine qn_then ?_
        refine cs_false (by kernel_rfl) ?_
        refine cs_exit' ?_
        refine qx_then ?_
        refine qx_then ?_
        refine qx_same ?_
        refine qn_meet (s0) ⟨_, x5_6, fr_next (fr_next (rfl) (by kernel_rfl)) (by kernel_rfl), rfl, H⟩ (sub_nil _)
  · rintro f S ⟨g1, x5_1, rfl, rfl, H⟩
    replace H : (if x5_1 = (10 : Int) then some ((0 : Int), (0 : Int), (11 : Int)) else (if x5_1 = (l0.length : Int) then some ((0 : Int), (0 : Int), (10 : Int)) else (if x5_1 = (9 : Int) then (if (9 : Int) < (l0.length : Int) then (if ((l0).getD ((9 : Int)).toNat 0) > (1 : Int) then some ((0 : Int), (0 : Int), (11 : Int)) else (if x5_1 > (0 : Int) then (if 0 ≤ x5_1 then (if x5_1 < (l0.length : Int) then (if ((l0).getD (x5_1).toNat 0) = (0 : Int) then some ((0 : Int), (0 : Int), (11 : Int)) else shadowboxref01_ReadShort.l2 l0 x5_1 k (0 : Int) x5_1) else none) else none) else shadowboxref01_ReadShort.l3 l0 x5_1 k (0 : Int) x5_1)) else none) else (if x5_1 > (0 : Int) then (if 0 ≤ x5_1 then (if x5_1 < (l0.length : Int) then (if ((l0).getD (x5_1).toNat 0) = (0 : Int) then some ((0 : Int), (0 : Int), (11 : Int)) else shadowboxref01_ReadShort.l4 l0 x5_1 k (0 : Int) x5_1) else none) else none) else shadowboxref01_ReadShort.l5 l0 x5_1 k (0 : Int) x5_1)))) = some r := H
    refine cs_seq ?_
    refine cs_seq ?_
    refine cs_region (l := [_, _]) ?_
    refine ls_val (v := .int .i64 x5_1) rfl rfl (by kernel_rfl) (fun w => by kernel_rfl) ?_
    refine ls_val (v := .bool (decide (x5_1 = (10 : Int)))) rfl rfl (by kernel_rfl) (fun w => by kernel_rfl) ?_
    refine ls_end ?_
    refine qn_then ?_
    by_cases q1 : x5_1 = (10 : Int)
    · replace H := ite_t q1 H
      refine cs_know (c := true) (dec_t q1) 26 (by kernel_rfl) ?_
      refine cs_true (by kernel_rfl) ?_
      refine cs_seq ?_
      refine cs_region (l := [_, _, _]) ?_
      refine ls_val (v := .int .u64 (0 : Int)) rfl rfl (by kernel_rfl) (fun w => by kernel_rfl) ?_
      refine ls_val (v := .int .i64 (0 : Int)) rfl rfl (by kernel_rfl) (fun w => by kernel_rfl) ?_
      refine ls_val (v := .int .i64 (11 : Int)) rfl rfl (by kernel_rfl) (fun w => by kernel_rfl) ?_
      refine ls_end ?_
      refine qn_then ?_
      refine cs_ret' ?_
      refine qr_then ?_
      obtain rfl := Option.some.inj H
      refine qr_end3 rfl (fun w' hs => ⟨(), rfl, ?_⟩)
      exact hs.sub (sub_nil _)
    · replace H := ite_f q1 H
      refine cs_know (c := false) (dec_f q1) 26 (by kernel_rfl) ?_
      refine cs_false (by kernel_rfl) ?_
      refine cs_skip' ?_
      refine qn_then ?_
      refine cs_seq ?_
      refine cs_seq ?_
      refine cs_region (l := [_, _, _, _]) ?_
      refine ls_val (v := .int .i64 x5_1) rfl rfl (by kernel_rfl) (fun w => by kernel_rfl) ?_
      refine ls_val (v := .slice A0 l0.length c0) rfl rfl (by kernel_rfl) (fun w => by kernel_rfl) ?_
      refine ls_val (v := .int .i64 (l0.length : Int)) rfl rfl (by kernel_rfl) (fun w => by kernel_rfl) ?_
      refine ls_val (v := .bool (decide (x5_1 = (l0.length : Int)))) rfl rfl (by kernel_rfl) (fun w => by kernel_rfl) ?_
      refine ls_end ?_
      refine qn_then ?_
      by_cases q2 : x5_1 = (l0.length : Int)
      · replace H := ite_t q2 H
        refine cs_know (c := true) (dec_t q2) 30 (by kernel_rfl) ?_
        refine cs_true (by kernel_rfl) ?_
        refine cs_seq ?_
        refine cs_region (l := [_, _, _]) ?_
        refine ls_val (v := .int .u64 (0 : Int)) rfl rfl (by kernel_rfl) (fun w => by kernel_rfl) ?_
        refine ls_val (v := .int .i64 (0 : Int)) rfl rfl (by kernel_rfl) (fun w => by kernel_rfl) ?_
        refine ls_val (v := .int .i64 (10 : Int)) rfl rfl (by kernel_rfl) (fun w => by kernel_rfl) ?_
        refine ls_end ?_
        refine qn_then ?_
        refine cs_ret' ?_
        refine qr_then ?_
        obtain rfl := Option.some.inj H
        refine qr_end3 rfl (fun w' hs => ⟨(), rfl, ?_⟩)
        exact hs.sub (sub_nil _)
      · replace H := ite_f q2 H
        refine cs_know (c := false) (dec_f q2) 30 (by kernel_rfl) ?_
        refine cs_false (by kernel_rfl) ?_
        refine cs_skip' ?_
        refine qn_then ?_
        refine cs_seq ?_
        refine cs_seq ?_
        refine cs_region (l := [_, _, _, _, _, _, _, _, _, _, _, _, _, _, _, _, _, _, _]) ?_
        refine ls_val (v := .int .i64 x5_1) rfl rfl (by kernel_rfl) (fun w => by kernel_rfl) ?_
        refine ls_val (v := .bool (decide (x5_1 = (9 : Int)))) rfl rfl (by kernel_rfl) (fun w => by kernel_rfl) ?_
        refine ls_val (v := .bool (decide (x5_1 = (9 : Int)))) rfl rfl (by kernel_rfl) (fun w => by kernel_rfl) ?_
        by_cases q3 : x5_1 = (9 : Int)
        · replace H := ite_t q3 H
          refine ls_know (c := true) (dec_t q3) 33 (by kernel_rfl) ?_
          refine ls_on (j := 2) (t := 33) (b := true) rfl rfl (by kernel_rfl) (by kernel_rfl) ?_
          refine ls_val (v := .slice A0 l0.length c0) rfl rfl (by kernel_rfl) (fun w => by kernel_rfl) ?_
          refine ls_on (j := 2) (t := 33) (b := true) rfl rfl (by kernel_rfl) (by kernel_rfl) ?_
          obtain ⟨q4, H⟩ := ite_need H
          obtain ⟨ad5, hA6, hc7⟩ := idx_at (E := (Value.int .u8)) (i := (9 : Int)) R0 (by decide) q4 0
          refine ls_idxv (A := A0) (c := c0) (l := l0) (k := .i64) (i := (9 : Int)) (e := 5) (ad := ad5) rfl rfl (by kernel_rfl) hA6 rfl (by kernel_rfl) (by kernel_rfl) (by kernel_rfl) (by kernel_rfl) (by decide) q4 ?_
          refine ls_on (j := 2) (t := 33) (b := true) rfl rfl (by kernel_rfl) (by kernel_rfl) ?_
          refine ls_load (a0 := (ad5.add ((9 : Int)).toNat)) (v := .int .u8 ((l0).getD ((9 : Int)).toNat 0)) (de := (TypeDesc.int .u8)) rfl rfl (by kernel_rfl) rfl (by kernel_rfl) (by kernel_rfl) (by kernel_rfl) (fun w hs => cell_step hs.below hc7) ?_
          refine ls_on (j := 2) (t := 33) (b := true) rfl rfl (by kernel_rfl) (by kernel_rfl) ?_
          refine ls_val (v := .bool (decide (((l0).getD ((9 : Int)).toNat 0) > (1 : Int)))) rfl rfl (by kernel_rfl) (fun w => by kernel_rfl) ?_
          refine ls_val (v := .bool (decide (((l0).getD ((9 : Int)).toNat 0) > (1 : Int)))) rfl rfl (by kernel_rfl) (fun w => by kernel_rfl) ?_
          refine ls_val (v := .bool (decide (((l0).getD ((9 : Int)).toNat 0) > (1 : Int)))) rfl rfl (by kernel_rfl) (fun w => by kernel_rfl) ?_
          by_cases q8 : ((l0).getD ((9 : Int)).toNat 0) > (1 : Int)
          · replace H := ite_t q8 H
            refine ls_know (c := true) (dec_t q8) 39 (by kernel_rfl) ?_
            refine ls_off (j := 8) (t := 39) (b := false) (c := true) rfl rfl (by kernel_rfl) (by kernel_rfl) rfl rfl (by kernel_rfl) ?_
            refine ls_off (j := 8) (t := 39) (b := false) (c := true) rfl rfl (by kernel_rfl) (by kernel_rfl) rfl rfl (by kernel_rfl) ?_
            refine ls_off (j := 8) (t := 39) (b := false) (c := true) rfl rfl (by kernel_rfl) (by kernel_rfl) rfl rfl (by kernel_rfl) ?_
            refine ls_offu (j := 11) (t := 42) (b := true) rfl rfl (by kernel_rfl) (by kernel_rfl) rfl (by kernel_rfl) ?_
            refine ls_offu (j := 11) (t := 42) (b := true) rfl rfl (by kernel_rfl) (by kernel_rfl) rfl (by kernel_rfl) ?_
            refine ls_offu (j := 11) (t := 42) (b := true) rfl rfl (by kernel_rfl) (by kernel_rfl) rfl (by kernel_rfl) ?_
            refine ls_offu (j := 11) (t := 42) (b := true) rfl rfl (by kernel_rfl) (by kernel_rfl) rfl (by kernel_rfl) ?_
            refine ls_offu (j := 11) (t := 42) (b := true) rfl rfl (by kernel_rfl) (by kernel_rfl) rfl (by kernel_rfl) ?_
            refine ls_off (j := 8) (t := 39) (b := false) (c := true) rfl rfl (by kernel_rfl) (by kernel_rfl) rfl rfl (by kernel_rfl) ?_
            refine ls_val (v := .bool true) rfl rfl (by kernel_rfl) (fun w => by kernel_rfl) ?_
            refine ls_end ?_
            refine qn_then ?_
            refine cs_true (by kernel_rfl) ?_
            refine cs_seq ?_
            refine cs_region (l := [_, _, _]) ?_
            refine ls_val (v := .int .u64 (0 : Int)) rfl rfl (by kernel_rfl) (fun w => by kernel_rfl) ?_
            refine ls_val (v := .int .i64 (0 : Int)) rfl rfl (by kernel_rfl) (fun w => by kernel_rfl) ?_
            refine ls_val (v := .int .i64 (11 : Int)) rfl rfl (by kernel_rfl) (fun w => by kernel_rfl) ?_
            refine ls_end ?_
            refine qn_then ?_
            refine cs_ret' ?_
            refine qr_then ?_
            obtain rfl := Option.some.inj H
            refine qr_end3 rfl (fun w' hs => ⟨(), rfl, ?_⟩)
            exact hs.sub (sub_nil _)
          · replace H := ite_f q8 H
            refine ls_know (c := false) (dec_f q8) 39 (by kernel_rfl) ?_
            refine ls_on (j := 8) (t := 39) (b := false) rfl rfl (by kernel_rfl) (by kernel_rfl) ?_
            refine ls_val (v := .int .i64 x5_1) rfl rfl (by kernel_rfl) (fun w => by kernel_rfl) ?_
            refine ls_on (j := 8) (t := 39) (b := false) rfl rfl (by kernel_rfl) (by kernel_rfl) ?_
            refine ls_val (v := .bool (decide (x5_1 > (0 : Int)))) rfl rfl (by kernel_rfl) (fun w => by kernel_rfl) ?_
            refine ls_on (j := 8) (t := 39) (b := false) rfl rfl (by kernel_rfl) (by kernel_rfl) ?_
            refine ls_val (v := .bool (decide (x5_1 > (0 : Int)))) rfl rfl (by kernel_rfl) (fun w => by kernel_rfl) ?_
            by_cases q9 : x5_1 > (0 : Int)
            · replace H := ite_t q9 H
              refine ls_know (c := true) (dec_t q9) 42 (by kernel_rfl) ?_
              refine ls_on (j := 11) (t := 42) (b := true) rfl rfl (by kernel_rfl) (by kernel_rfl) ?_
              refine ls_val (v := .slice A0 l0.length c0) rfl rfl (by kernel_rfl) (fun w => by kernel_rfl) ?_
              refine ls_on (j := 11) (t := 42) (b := true) rfl rfl (by kernel_rfl) (by kernel_rfl) ?_
              refine ls_val (v := .int .i64 x5_1) rfl rfl (by kernel_rfl) (fun w => by kernel_rfl) ?_
              refine ls_on (j := 11) (t := 42) (b := true) rfl rfl (by kernel_rfl) (by kernel_rfl) ?_
              obtain ⟨q10, H⟩ := ite_need H
              obtain ⟨q11, H⟩ := ite_need H
              obtain ⟨ad12, hA13, hc14⟩ := idx_at (E := (Value.int .u8)) (i := x5_1) R0 q10 q11 0
              refine ls_idxv (A := A0) (c := c0) (l := l0) (k := .i64) (i := x5_1) (e := 5) (ad := ad12) rfl rfl (by kernel_rfl) hA13 rfl (by kernel_rfl) (by kernel_rfl) (by kernel_rfl) (by kernel_rfl) q10 q11 ?_
              refine ls_on (j := 11) (t := 42) (b := true) rfl rfl (by kernel_rfl) (by kernel_rfl) ?_
              refine ls_load (a0 := (ad12.add (x5_1).toNat)) (v := .int .u8 ((l0).getD (x5_1).toNat 0)) (de := (TypeDesc.int .u8)) rfl rfl (by kernel_rfl) rfl (by kernel_rfl) (by kernel_rfl) (by kernel_rfl) (fun w hs => cell_step hs.below hc14) ?_
              refine ls_on (j := 11) (t := 42) (b := true) rfl rfl (by kernel_rfl) (by kernel_rfl) ?_
              refine ls_val (v := .bool (decide (((l0).getD (x5_1).toNat 0) = (0 : Int)))) rfl rfl (by kernel_rfl) (fun w => by kernel_rfl) ?_
              refine ls_on (j := 8) (t := 39) (b := false) rfl rfl (by kernel_rfl) (by kernel_rfl) ?_
              refine ls_val (v := .bool (decide (((l0).getD (x5_1).toNat 0) = (0 : Int)))) rfl rfl (by kernel_rfl) (fun w => by kernel_rfl) ?_
              refine ls_val (v := .bool (decide (((l0).getD (x5_1).toNat 0) = (0 : Int)))) rfl rfl (by kernel_rfl) (fun w => by kernel_rfl) ?_
              refine ls_end ?_
              refine qn_then ?_
              by_cases q15 : ((l0).getD (x5_1).toNat 0) = (0 : Int)
              · replace H := ite_t q15 H
                refine cs_know (c := true) (dec_t q15) 49 (by kernel_rfl) ?_
                refine cs_true (by kernel_rfl) ?_
                refine cs_seq ?_
                refine cs_region (l := [_, _, _]) ?_
                refine ls_val (v := .int .u64 (0 : Int)) rfl rfl (by kernel_rfl) (fun w => by kernel_rfl) ?_
                refine ls_val (v := .int .i64 (0 : Int)) rfl rfl (by kernel_rfl) (fun w => by kernel_rfl) ?_
                refine ls_val (v := .int .i64 (11 : Int)) rfl rfl (by kernel_rfl) (fun w => by kernel_rfl) ?_
                refine ls_end ?_
                refine qn_then ?_
                refine cs_ret' ?_
                refine qr_then ?_
                obtain rfl := Option.some.inj H
                refine qr_end3 rfl (fun w' hs => ⟨(), rfl, ?_⟩)
                exact hs.sub (sub_nil _)
              · replace H := ite_f q15 H
                refine cs_know (c := false) (dec_f q15) 49 (by kernel_rfl) ?_
                refine cs_false (by kernel_rfl) ?_
                refine cs_skip' ?_
                refine qn_then ?_
                refine cs_seq ?_
                refine cs_region (l := [_]) ?_
                refine ls_val (v := .int .u64 (0 : Int)) rfl rfl (by kernel_rfl) (fun w => by kernel_rfl) ?_
                refine ls_end ?_
                refine qn_then ?_
                refine cs_seq ?_
                refine cs_seq ?_
                refine cs_region (l := [_, _]) ?_
                refine ls_val (v := .int .i64 x5_1) rfl rfl (by kernel_rfl) (fun w => by kernel_rfl) ?_
                refine ls_val (v := .int .i64 x5_1) rfl rfl (by kernel_rfl) (fun w => by kernel_rfl) ?_
                refine ls_end ?_
                refine qn_then ?_
                refine cs_block ?_
                refine cs_sub (s0) (sub_nil _) ?_
                refine cs_loop (fun kk f S => ∃ (g : Fr) (x6_2 : Int) (x7_2 : Int), f = upd (upd (upd (upd g 0 (.slice A0 l0.length c0)) 5 (.int .i64 x5_1)) 6 (.int .u64 x6_2)) 7 (.int .i64 x7_2) ∧ S = s0 ∧ shadowboxref01_ReadShort.l2 l0 x5_1 kk x6_2 x7_2 = some r) k ?_ ?_ ?_
                · exact ⟨_, (0 : Int), x5_1, fr_next (fr_next (fr_next (fr_next (rfl) (by kernel_rfl)) (by kernel_rfl)) (by kernel_rfl)) (by kernel_rfl), rfl, H⟩
                · rintro f S ⟨g2, x6_2, x7_2, rfl, rfl, H⟩; cases H
                · rintro k2 f S ⟨g2, x6_2, x7_2, rfl, rfl, H⟩
                  replace H : (if x7_2 ≥ (0 : Int) then (if 0 ≤ x7_2 then (if x7_2 < (l0.length : Int) then lt (Int.tmod ((l0).getD (x7_2).toNat 0) (128 : Int)) fun y22 => lt (IntKind.wrap .u64 ((IntKind.wrap .u64 (x6_2 * (128 : Int))) + (IntKind.wrap .u64 y22))) fun y24 => (shadowboxref01_ReadShort.l2 l0 x5_1 k2) y24 (IntKind.wrap .i64 (x7_2 - (1 : Int))) else none) else none) else some (x6_2, IntKind.wrap .i64 (x5_1 + (1 : Int)), (0 : Int))) = some r := H
                  refine cs_seq ?_
                  refine cs_seq ?_
                  refine cs_region (l := [_, _]) ?_
                  refine ls_val (v := .int .i64 x7_2) rfl rfl (by kernel_rfl) (fun w => by kernel_rfl) ?_
                  refine ls_val (v := .bool (decide (x7_2 ≥ (0 : Int)))) rfl rfl (by kernel_rfl) (fun w => by kernel_rfl) ?_
                  refine ls_end ?_
                  refine qn_then ?_
                  by_cases q16 : x7_2 ≥ (0 : Int)
                  · replace H := ite_t q16 H
                    refine cs_know (c := true) (dec_t q16) 52 (by kernel_rfl) ?_
                    refine cs_true (by kernel_rfl) ?_
                    refine cs_skip' ?_
                    refine qn_then ?_
                    refine cs_seq ?_
                    refine cs_block ?_
                    refine cs_region (l := [_, _, _, _, _, _, _, _, _, _]) ?_
                    refine ls_val (v := .int .u64 x6_2) rfl rfl (by kernel_rfl) (fun w => by kernel_rfl) ?_
                    refine ls_val (v := .int .u64 (IntKind.wrap .u64 (x6_2 * (128 : Int)))) rfl rfl (by kernel_rfl) (fun w => by kernel_rfl) ?_
                    refine ls_val (v := .slice A0 l0.length c0) rfl rfl (by kernel_rfl) (fun w => by kernel_rfl) ?_
                    refine ls_val (v := .int .i64 x7_2) rfl rfl (by kernel_rfl) (fun w => by kernel_rfl) ?_
                    obtain ⟨q17, H⟩ := ite_need H
                    obtain ⟨q18, H⟩ := ite_need H
                    obtain ⟨ad19, hA20, hc21⟩ := idx_at (E := (Value.int .u8)) (i := x7_2) R0 q17 q18 0
                    refine ls_idxv (A := A0) (c := c0) (l := l0) (k := .i64) (i := x7_2) (e := 5) (ad := ad19) rfl rfl (by kernel_rfl) hA20 rfl (by kernel_rfl) (by kernel_rfl) (by kernel_rfl) (by kernel_rfl) q17 q18 ?_
                    refine ls_load (a0 := (ad19.add (x7_2).toNat)) (v := .int .u8 ((l0).getD (x7_2).toNat 0)) (de := (TypeDesc.int .u8)) rfl rfl (by kernel_rfl) rfl (by kernel_rfl) (by kernel_rfl) (by kernel_rfl) (fun w hs => cell_step hs.below hc21) ?_
                    obtain ⟨y22, hy23, H⟩ := lt_some H
                    refine ls_val (v := .int .u8 (Int.tmod ((l0).getD (x7_2).toNat 0) (128 : Int))) rfl rfl (by kernel_rfl) (fun w => by kernel_rfl) ?_
                    refine ls_ren 61 (v := .int .u8 (Int.tmod ((l0).getD (x7_2).toNat 0) (128 : Int))) (v' := .int .u8 y22) (by kernel_rfl) (by rw [hy23]) ?_
                    refine ls_val (v := .int .u64 (IntKind.wrap .u64 y22)) rfl rfl (by kernel_rfl) (fun w => by kernel_rfl) ?_
                    obtain ⟨y24, hy25, H⟩ := lt_some H
                    refine ls_val (v := .int .u64 (IntKind.wrap .u64 ((IntKind.wrap .u64 (x6_2 * (128 : Int))) + (IntKind.wrap .u64 y22)))) rfl rfl (by kernel_rfl) (fun w => by kernel_rfl) ?_
                    refine ls_ren 63 (v := .int .u64 (IntKind.wrap .u64 ((IntKind.wrap .u64 (x6_2 * (128 : Int))) + (IntKind.wrap .u64 y22)))) (v' := .int .u64 y24) (by kernel_rfl) (by rw [hy25]) ?_
                    refine ls_val (v := .int .u64 y24) rfl rfl (by kernel_rfl) (fun w => by kernel_rfl) ?_
                    refine ls_end ?_
                    refine qn_block ?_
                    refine qn_then ?_
                    refine cs_region (l := [_, _, _]) ?_
                    refine ls_val (v := .int .i64 x7_2) rfl rfl (by kernel_rfl) (fun w => by kernel_rfl) ?_
                    refine ls_val (v := .int .i64 (IntKind.wrap .i64 (x7_2 - (1 : Int)))) rfl rfl (by kernel_rfl) (fun w => by kernel_rfl) ?_
                    refine ls_val (v := .int .i64 (IntKind.wrap .i64 (x7_2 - (1 : Int)))) rfl rfl (by kernel_rfl) (fun w => by kernel_rfl) ?_
                    refine ls_end ?_
                    refine qn_again k2 (s0) (Nat.le_refl _) ⟨_, y24, (IntKind.wrap .i64 (x7_2 - (1 : Int))), fr_next (fr_next (fr_next (fr_next (rfl) (by kernel_rfl)) (by kernel_rfl)) (by kernel_rfl)) (by kernel_rfl), rfl, H⟩ (sub_nil _)
                  · replace H := ite_f q16 H
                    refine cs_know (c := false) (dec_f q16) 52 (by kernel_rfl) ?_
                    refine cs_false (by kernel_rfl) ?_
                    refine cs_exit' ?_
                    refine qx_then ?_
                    refine qx_then ?_
                    refine qx_same ?_
                    refine qn_then ?_
                    refine cs_seq ?_
                    refine cs_region (l := [_, _, _, _, _, _]) ?_
                    refine ls_val (v := .int .u64 x6_2) rfl rfl (by kernel_rfl) (fun w => by kernel_rfl) ?_
                    refine ls_val (v := .int .i64 x5_1) rfl rfl (by kernel_rfl) (fun w => by kernel_rfl) ?_
                    refine ls_val (v := .int .i64 (IntKind.wrap .i64 (x5_1 + (1 : Int)))) rfl rfl (by kernel_rfl) (fun w => by kernel_rfl) ?_
                    refine ls_val (v := .int .u64 x6_2) rfl rfl (by kernel_rfl) (fun w => by kernel_rfl) ?_
                    refine ls_val (v := .int .i64 (IntKind.wrap .i64 (x5_1 + (1 : Int)))) rfl rfl (by kernel_rfl) (fun w => by kernel_rfl) ?_
                    refine ls_val (v := .int .i64 (0 : Int)) rfl rfl (by kernel_rfl) (fun w => by kernel_rfl) ?_
                    refine ls_end ?_
                    refine qn_then ?_
                    refine cs_ret' ?_
                    obtain rfl := Option.some.inj H
                    refine qr_end3 rfl (fun w' hs => ⟨(), rfl, ?_⟩)
                    exact hs.sub (sub_nil _)
            · replace H := ite_f q9 H
              refine ls_know (c := false) (dec_f q9) 42 (by kernel_rfl) ?_
              refine ls_off (j := 11) (t := 42) (b := true) (c := false) rfl rfl (by kernel_rfl) (by kernel_rfl) rfl rfl (by kernel_rfl) ?_
              refine ls_off (j := 11) (t := 42) (b := true) (c := false) rfl rfl (by kernel_rfl) (by kernel_rfl) rfl rfl (by kernel_rfl) ?_
              refine ls_off (j := 11) (t := 42) (b := true) (c := false) rfl rfl (by kernel_rfl) (by kernel_rfl) rfl rfl (by kernel_rfl) ?_
              refine ls_off (j := 11) (t := 42) (b := true) (c := false) rfl rfl (by kernel_rfl) (by kernel_rfl) rfl rfl (by kernel_rfl) ?_
              refine ls_off (j := 11) (t := 42) (b := true) (c := false) rfl rfl (by kernel_rfl) (by kernel_rfl) rfl rfl (by kernel_rfl) ?_
              refine ls_on (j := 8) (t := 39) (b := false) rfl rfl (by kernel_rfl) (by kernel_rfl) ?_
              refine ls_val (v := .bool false) rfl rfl (by kernel_rfl) (fun w => by kernel_rfl) ?_
              refine ls_val (v := .bool false) rfl rfl (by kernel_rfl) (fun w => by kernel_rfl) ?_
              refine ls_end ?_
              refine qn_then ?_
              refine cs_false (by kernel_rfl) ?_
              refine cs_skip' ?_
              refine qn_then ?_
              refine cs_seq ?_
              refine cs_region (l := [_]) ?_
              refine ls_val (v := .int .u64 (0 : Int)) rfl rfl (by kernel_rfl) (fun w => by kernel_rfl) ?_
              refine ls_end ?_
              refine qn_then ?_
              refine cs_seq ?_
              refine cs_seq ?_
              refine cs_region (l := [_, _]) ?_
              refine ls_val (v := .int .i64 x5_1) rfl rfl (by kernel_rfl) (fun w => by kernel_rfl) ?_
              refine ls_val (v := .int .i64 x5_1) rfl rfl (by kernel_rfl) (fun w => by kernel_rfl) ?_
              refine ls_end ?_
              refine qn_then ?_
              refine cs_block ?_
              refine cs_sub (s0) (sub_nil _) ?_
              refine cs_loop (fun kk f S => ∃ (g : Fr) (x6_3 : Int) (x7_3 : Int), f = upd (upd (upd (upd g 0 (.slice A0 l0.length c0)) 5 (.int .i64 x5_1)) 6 (.int .u64 x6_3)) 7 (.int .i64 x7_3) ∧ S = s0 ∧ shadowboxref01_ReadShort.l3 l0 x5_1 kk x6_3 x7_3 = some r) k ?_ ?_ ?_
              · exact ⟨_, (0 : Int), x5_1, fr_next (fr_next (fr_next (fr_next (rfl) (by kernel_rfl)) (by kernel_rfl)) (by kernel_rfl)) (by kernel_rfl), rfl, H⟩
              · rintro f S ⟨g3, x6_3, x7_3, rfl, rfl, H⟩; cases H
              · rintro k3 f S ⟨g3, x6_3, x7_3, rfl, rfl, H⟩
                replace H : (if x7_3 ≥ (0 : Int) then (if 0 ≤ x7_3 then (if x7_3 < (l0.length : Int) then lt (Int.tmod ((l0).getD (x7_3).toNat 0) (128 : Int)) fun y32 => lt (IntKind.wrap .u64 ((IntKind.wrap .u64 (x6_3 * (128 : Int))) + (IntKind.wrap .u64 y32))) fun y34 => (shadowboxref01_ReadShort.l3 l0 x5_1 k3) y34 (IntKind.wrap .i64 (x7_3 - (1 : Int))) else none) else none) else some (x6_3, IntKind.wrap .i64 (x5_1 + (1 : Int)), (0 : Int))) = some r := H
                refine cs_seq ?_
                refine cs_seq ?_
                refine cs_region (l := [_, _]) ?_
                refine ls_val (v := .int .i64 x7_3) rfl rfl (by kernel_rfl) (fun w => by kernel_rfl) ?_
                refine ls_val (v := .bool (decide (x7_3 ≥ (0 : Int)))) rfl rfl (by kernel_rfl) (fun w => by kernel_rfl) ?_
                refine ls_end ?_
                refine qn_then ?_
                by_cases q26 : x7_3 ≥ (0 : Int)
                · replace H := ite_t q26 H
                  refine cs_know (c := true) (dec_t q26) 52 (by kernel_rfl) ?_
                  refine cs_true (by kernel_rfl) ?_
                  refine cs_skip' ?_
                  refine qn_then ?_
                  refine cs_seq ?_
                  refine cs_block ?_
                  refine cs_region (l := [_, _, _, _, _, _, _, _, _, _]) ?_
                  refine ls_val (v := .int .u64 x6_3) rfl rfl (by kernel_rfl) (fun w => by kernel_rfl) ?_
                  refine ls_val (v := .int .u64 (IntKind.wrap .u64 (x6_3 * (128 : Int)))) rfl rfl (by kernel_rfl) (fun w => by kernel_rfl) ?_
                  refine ls_val (v := .slice A0 l0.length c0) rfl rfl (by kernel_rfl) (fun w => by kernel_rfl) ?_
                  refine ls_val (v := .int .i64 x7_3) rfl rfl (by kernel_rfl) (fun w => by kernel_rfl) ?_
                  obtain ⟨q27, H⟩ := ite_need H
                  obtain ⟨q28, H⟩ := ite_need H
                  obtain ⟨ad29, hA30, hc31⟩ := idx_at (E := (Value.int .u8)) (i := x7_3) R0 q27 q28 0
                  refine ls_idxv (A := A0) (c := c0) (l := l0) (k := .i64) (i := x7_3) (e := 5) (ad := ad29) rfl rfl (by kernel_rfl) hA30 rfl (by kernel_rfl) (by kernel_rfl) (by kernel_rfl) (by kernel_rfl) q27 q28 ?_
                  refine ls_load (a0 := (ad29.add (x7_3).toNat)) (v := .int .u8 ((l0).getD (x7_3).toNat 0)) (de := (TypeDesc.int .u8)) rfl rfl (by kernel_rfl) rfl (by kernel_rfl) (by kernel_rfl) (by kernel_rfl) (fun w hs => cell_step hs.below hc31) ?_
                  obtain ⟨y32, hy33, H⟩ := lt_some H
                  refine ls_val (v := .int .u8 (Int.tmod ((l0).getD (x7_3).toNat 0) (128 : Int))) rfl rfl (by kernel_rfl) (fun w => by kernel_rfl) ?_
                  refine ls_ren 61 (v := .int .u8 (Int.tmod ((l0).getD (x7_3).toNat 0) (128 : Int))) (v' := .int .u8 y32) (by kernel_rfl) (by rw [hy33]) ?_
                  refine ls_val (v := .int .u64 (IntKind.wrap .u64 y32)) rfl rfl (by kernel_rfl) (fun w => by kernel_rfl) ?_
                  obtain ⟨y34, hy35, H⟩ := lt_some H
                  refine ls_val (v := .int .u64 (IntKind.wrap .u64 ((IntKind.wrap .u64 (x6_3 * (128 : Int))) + (IntKind.wrap .u64 y32)))) rfl rfl (by kernel_rfl) (fun w => by kernel_rfl) ?_
                  refine ls_ren 63 (v := .int .u64 (IntKind.wrap .u64 ((IntKind.wrap .u64 (x6_3 * (128 : Int))) + (IntKind.wrap .u64 y32)))) (v' := .int .u64 y34) (by kernel_rfl) (by rw [hy35]) ?_
                  refine ls_val (v := .int .u64 y34) rfl rfl (by kernel_rfl) (fun w => by kernel_rfl) ?_
                  refine ls_end ?_
                  refine qn_block ?_
                  refine qn_then ?_
                  refine cs_region (l := [_, _, _]) ?_
                  refine ls_val (v := .int .i64 x7_3) rfl rfl (by kernel_rfl) (fun w => by kernel_rfl) ?_
                  refine ls_val (v := .int .i64 (IntKind.wrap .i64 (x7_3 - (1 : Int)))) rfl rfl (by kernel_rfl) (fun w => by kernel_rfl) ?_
                  refine ls_val (v := .int .i64 (IntKind.wrap .i64 (x7_3 - (1 : Int)))) rfl rfl (by kernel_rfl) (fun w => by kernel_rfl) ?_
                  refine ls_end ?_
                  refine qn_again k3 (s0) (Nat.le_refl _) ⟨_, y34, (IntKind.wrap .i64 (x7_3 - (1 : Int))), fr_next (fr_next (fr_next (fr_next (rfl) (by kernel_rfl)) (by kernel_rfl)) (by kernel_rfl)) (by kernel_rfl), rfl, H⟩ (sub_nil _)
                · replace H := ite_f q26 H
                  refine cs_know (c := false) (dec_f q26) 52 (by kernel_rfl) ?_
                  refine cs_false (by kernel_rfl) ?_
                  refine cs_exit' ?_
                  refine qx_then ?_
                  refine qx_then ?_
                  refine qx_same ?_
                  refine qn_then ?_
                  refine cs_seq ?_
                  refine cs_region (l := [_, _, _, _, _, _]) ?_
                  refine ls_val (v := .int .u64 x6_3) rfl rfl (by kernel_rfl) (fun w => by kernel_rfl) ?_
                  refine ls_val (v := .int .i64 x5_1) rfl rfl (by kernel_rfl) (fun w => by kernel_rfl) ?_
                  refine ls_val (v := .int .i64 (IntKind.wrap .i64 (x5_1 + (1 : Int)))) rfl rfl (by kernel_rfl) (fun w => by kernel_rfl) ?_
                  refine ls_val (v := .int .u64 x6_3) rfl rfl (by kernel_rfl) (fun w => by kernel_rfl) ?_
                  refine ls_val (v := .int .i64 (IntKind.wrap .i64 (x5_1 + (1 : Int)))) rfl rfl (by kernel_rfl) (fun w => by kernel_rfl) ?_
                  refine ls_val (v := .int .i64 (0 : Int)) rfl rfl (by kernel_rfl) (fun w => by kernel_rfl) ?_
                  refine ls_end ?_
                  refine qn_then ?_
                  refine cs_ret' ?_
                  obtain rfl := Option.some.inj H
                  refine qr_end3 rfl (fun w' hs => ⟨(), rfl, ?_⟩)
                  exact hs.sub (sub_nil _)
        · replace H := ite_f q3 H
          refine ls_know (c := false) (dec_f q3) 33 (by kernel_rfl) ?_
          refine ls_off (j := 2) (t := 33) (b := true) (c := false) rfl rfl (by kernel_rfl) (by kernel_rfl) rfl rfl (by kernel_rfl) ?_
          refine ls_off (j := 2) (t := 33) (b := true) (c := false) rfl rfl (by kernel_rfl) (by kernel_rfl) rfl rfl (by kernel_rfl) ?_
          refine ls_off (j := 2) (t := 33) (b := true) (c := false) rfl rfl (by kernel_rfl) (by kernel_rfl) rfl rfl (by kernel_rfl) ?_
          refine ls_off (j := 2) (t := 33) (b := true) (c := false) rfl rfl (by kernel_rfl) (by kernel_rfl) rfl rfl (by kernel_rfl) ?_
          refine ls_val (v := .bool false) rfl rfl (by kernel_rfl) (fun w => by kernel_rfl) ?_
          refine ls_val (v := .bool false) rfl rfl (by kernel_rfl) (fun w => by kernel_rfl) ?_
          refine ls_on (j := 8) (t := 39) (b := false) rfl rfl (by kernel_rfl) (by kernel_rfl) ?_
          refine ls_val (v := .int .i64 x5_1) rfl rfl (by kernel_rfl) (fun w => by kernel_rfl) ?_
          refine ls_on (j := 8) (t := 39) (b := false) rfl rfl (by kernel_rfl) (by kernel_rfl) ?_
          refine ls_val (v := .bool (decide (x5_1 > (0 : Int)))) rfl rfl (by kernel_rfl) (fun w => by kernel_rfl) ?_
          refine ls_on (j := 8) (t := 39) (b := false) rfl rfl (by kernel_rfl) (by kernel_rfl) ?_
          refine ls_val (v := .bool (decide (x5_1 > (0 : Int)))) rfl rfl (by kernel_rfl) (fun w => by kernel_rfl) ?_
          by_cases q36 : x5_1 > (0 : Int)
          · replace H := ite_t q36 H
            refine ls_know (c := true) (dec_t q36) 42 (by kernel_rfl) ?_
            refine ls_on (j := 11) (t := 42) (b := true) rfl rfl (by kernel_rfl) (by kernel_rfl) ?_
            refine ls_val (v := .slice A0 l0.length c0) rfl rfl (by kernel_rfl) (fun w => by kernel_rfl) ?_
            refine ls_on (j := 11) (t := 42) (b := true) rfl rfl (by kernel_rfl) (by kernel_rfl) ?_
            refine ls_val (v := .int .i64 x5_1) rfl rfl (by kernel_rfl) (fun w => by kernel_rfl) ?_
            refine ls_on (j := 11) (t := 42) (b := true) rfl rfl (by kernel_rfl) (by kernel_rfl) ?_
            obtain ⟨q37, H⟩ := ite_need H
            obtain ⟨q38, H⟩ := ite_need H
            obtain ⟨ad39, hA40, hc41⟩ := idx_at (E := (Value.int .u8)) (i := x5_1) R0 q37 q38 0
            refine ls_idxv (A := A0) (c := c0) (l := l0) (k := .i64) (i := x5_1) (e := 5) (ad := ad39) rfl rfl (by kernel_rfl) hA40 rfl (by kernel_rfl) (by kernel_rfl) (by kernel_rfl) (by kernel_rfl) q37 q38 ?_
            refine ls_on (j := 11) (t := 42) (b := true) rfl rfl (by kernel_rfl) (by kernel_rfl) ?_
            refine ls_load (a0 := (ad39.add (x5_1).toNat)) (v := .int .u8 ((l0).getD (x5_1).toNat 0)) (de := (TypeDesc.int .u8)) rfl rfl (by kernel_rfl) rfl (by kernel_rfl) (by kernel_rfl) (by kernel_rfl) (fun w hs => cell_step hs.below hc41) ?_
            refine ls_on (j := 11) (t := 42) (b := true) rfl rfl (by kernel_rfl) (by kernel_rfl) ?_
            refine ls_val (v := .bool (decide (((l0).getD (x5_1).toNat 0) = (0 : Int)))) rfl rfl (by kernel_rfl) (fun w => by kernel_rfl) ?_
            refine ls_on (j := 8) (t := 39) (b := false) rfl rfl (by kernel_rfl) (by kernel_rfl) ?_
            refine ls_val (v := .bool (decide (((l0).getD (x5_1).toNat 0) = (0 : Int)))) rfl rfl (by kernel_rfl) (fun w => by kernel_rfl) ?_
            refine ls_val (v := .bool (decide (((l0).getD (x5_1).toNat 0) = (0 : Int)))) rfl rfl (by kernel_rfl) (fun w => by kernel_rfl) ?_
            refine ls_end ?_
            refine qn_then ?_
            by_cases q42 : ((l0).getD (x5_1).toNat 0) = (0 : Int)
            · replace H := ite_t q42 H
              refine cs_know (c := true) (dec_t q42) 49 (by kernel_rfl) ?_
              refine cs_true (by kernel_rfl) ?_
              refine cs_seq ?_
              refine cs_region (l := [_, _, _]) ?_
              refine ls_val (v := .int .u64 (0 : Int)) rfl rfl (by kernel_rfl) (fun w => by kernel_rfl) ?_
              refine ls_val (v := .int .i64 (0 : Int)) rfl rfl (by kernel_rfl) (fun w => by kernel_rfl) ?_
              refine ls_val (v := .int .i64 (11 : Int)) rfl rfl (by kernel_rfl) (fun w => by kernel_rfl) ?_
              refine ls_end ?_
              refine qn_then ?_
              refine cs_ret' ?_
              refine qr_then ?_
              obtain rfl := Option.some.inj H
              refine qr_end3 rfl (fun w' hs => ⟨(), rfl, ?_⟩)
              exact hs.sub (sub_nil _)
            · replace H := ite_f q42 H
              refine cs_know (c := false) (dec_f q42) 49 (by kernel_rfl) ?_
              refine cs_false (by kernel_rfl) ?_
              refine cs_skip' ?_
              refine qn_then ?_
              refine cs_seq ?_
              refine cs_region (l := [_]) ?_
              refine ls_val (v := .int .u64 (0 : Int)) rfl rfl (by kernel_rfl) (fun w => by kernel_rfl) ?_
              refine ls_end ?_
              refine qn_then ?_
              refine cs_seq ?_
              refine cs_seq ?_
              refine cs_region (l := [_, _]) ?_
              refine ls_val (v := .int .i64 x5_1) rfl rfl (by kernel_rfl) (fun w => by kernel_rfl) ?_
              refine ls_val (v := .int .i64 x5_1) rfl rfl (by kernel_rfl) (fun w => by kernel_rfl) ?_
              refine ls_end ?_
              refine qn_then ?_
              refine cs_block ?_
              refine cs_sub (s0) (sub_nil _) ?_
              refine cs_loop (fun kk f S => ∃ (g : Fr) (x6_4 : Int) (x7_4 : Int), f = upd (upd (upd (upd g 0 (.slice A0 l0.length c0)) 5 (.int .i64 x5_1)) 6 (.int .u64 x6_4)) 7 (.int .i64 x7_4) ∧ S = s0 ∧ shadowboxref01_ReadShort.l4 l0 x5_1 kk x6_4 x7_4 = some r) k ?_ ?_ ?_
              · exact ⟨_, (0 : Int), x5_1, fr_next (fr_next (fr_next (fr_next (rfl) (by kernel_rfl)) (by kernel_rfl)) (by kernel_rfl)) (by kernel_rfl), rfl, H⟩
              · rintro f S ⟨g4, x6_4, x7_4, rfl, rfl, H⟩; cases H
              · rintro k4 f S ⟨g4, x6_4, x7_4, rfl, rfl, H⟩
                replace H : (if x7_4 ≥ (0 : Int) then (if 0 ≤ x7_4 then (if x7_4 < (l0.length : Int) then lt (Int.tmod ((l0).getD (x7_4).toNat 0) (128 : Int)) fun y49 => lt (IntKind.wrap .u64 ((IntKind.wrap .u64 (x6_4 * (128 : Int))) + (IntKind.wrap .u64 y49))) fun y51 => (shadowboxref01_ReadShort.l4 l0 x5_1 k4) y51 (IntKind.wrap .i64 (x7_4 - (1 : Int))) else none) else none) else some (x6_4, IntKind.wrap .i64 (x5_1 + (1 : Int)), (0 : Int))) = some r := H
                refine cs_seq ?_
                refine cs_seq ?_
                refine cs_region (l := [_, _]) ?_
                refine ls_val (v := .int .i64 x7_4) rfl rfl (by kernel_rfl) (fun w => by kernel_rfl) ?_
                refine ls_val (v := .bool (decide (x7_4 ≥ (0 : Int)))) rfl rfl (by kernel_rfl) (fun w => by kernel_rfl) ?_
                refine ls_end ?_
                refine qn_then ?_
                by_cases q43 : x7_4 ≥ (0 : Int)
                · replace H := ite_t q43 H
                  refine cs_know (c := true) (dec_t q43) 52 (by kernel_rfl) ?_
                  refine cs_true (by kernel_rfl) ?_
                  refine cs_skip' ?_
                  refine qn_then ?_
                  refine cs_seq ?_
                  refine cs_block ?_
                  refine cs_region (l := [_, _, _, _, _, _, _, _, _, _]) ?_
                  refine ls_val (v := .int .u64 x6_4) rfl rfl (by kernel_rfl) (fun w => by kernel_rfl) ?_
                  refine ls_val (v := .int .u64 (IntKind.wrap .u64 (x6_4 * (128 : Int)))) rfl rfl (by kernel_rfl) (fun w => by kernel_rfl) ?_
                  refine ls_val (v := .slice A0 l0.length c0) rfl rfl (by kernel_rfl) (fun w => by kernel_rfl) ?_
                  refine ls_val (v := .int .i64 x7_4) rfl rfl (by kernel_rfl) (fun w => by kernel_rfl) ?_
                  obtain ⟨q44, H⟩ := ite_need H
                  obtain ⟨q45, H⟩ := ite_need H
                  obtain ⟨ad46, hA47, hc48⟩ := idx_at (E := (Value.int .u8)) (i := x7_4) R0 q44 q45 0
                  refine ls_idxv (A := A0) (c := c0) (l := l0) (k := .i64) (i := x7_4) (e := 5) (ad := ad46) rfl rfl (by kernel_rfl) hA47 rfl (by kernel_rfl) (by kernel_rfl) (by kernel_rfl) (by kernel_rfl) q44 q45 ?_
                  refine ls_load (a0 := (ad46.add (x7_4).toNat)) (v := .int .u8 ((l0).getD (x7_4).toNat 0)) (de := (TypeDesc.int .u8)) rfl rfl (by kernel_rfl) rfl (by kernel_rfl) (by kernel_rfl) (by kernel_rfl) (fun w hs => cell_step hs.below hc48) ?_
                  obtain ⟨y49, hy50, H⟩ := lt_some H
                  refine ls_val (v := .int .u8 (Int.tmod ((l0).getD (x7_4).toNat 0) (128 : Int))) rfl rfl (by kernel_rfl) (fun w => by kernel_rfl) ?_
                  refine ls_ren 61 (v := .int .u8 (Int.tmod ((l0).getD (x7_4).toNat 0) (128 : Int))) (v' := .int .u8 y49) (by kernel_rfl) (by rw [hy50]) ?_
                  refine ls_val (v := .int .u64 (IntKind.wrap .u64 y49)) rfl rfl (by kernel_rfl) (fun w => by kernel_rfl) ?_
                  obtain ⟨y51, hy52, H⟩ := lt_some H
                  refine ls_val (v := .int .u64 (IntKind.wrap .u64 ((IntKind.wrap .u64 (x6_4 * (128 : Int))) + (IntKind.wrap .u64 y49)))) rfl rfl (by kernel_rfl) (fun w => by kernel_rfl) ?_
                  refine ls_ren 63 (v := .int .u64 (IntKind.wrap .u64 ((IntKind.wrap .u64 (x6_4 * (128 : Int))) + (IntKind.wrap .u64 y49)))) (v' := .int .u64 y51) (by kernel_rfl) (by rw [hy52]) ?_
                  refine ls_val (v := .int .u64 y51) rfl rfl (by kernel_rfl) (fun w => by kernel_rfl) ?_
                  refine ls_end ?_
                  refine qn_block ?_
                  refine qn_then ?_
                  refine cs_region (l := [_, _, _]) ?_
                  refine ls_val (v := .int .i64 x7_4) rfl rfl (by kernel_rfl) (fun w => by kernel_rfl) ?_
                  refine ls_val (v := .int .i64 (IntKind.wrap .i64 (x7_4 - (1 : Int)))) rfl rfl (by kernel_rfl) (fun w => by kernel_rfl) ?_
                  refine ls_val (v := .int .i64 (IntKind.wrap .i64 (x7_4 - (1 : Int)))) rfl rfl (by kernel_rfl) (fun w => by kernel_rfl) ?_
                  refine ls_end ?_
                  refine qn_again k4 (s0) (Nat.le_refl _) ⟨_, y51, (IntKind.wrap .i64 (x7_4 - (1 : Int))), fr_next (fr_next (fr_next (fr_next (rfl) (by kernel_rfl)) (by kernel_rfl)) (by kernel_rfl)) (by kernel_rfl), rfl, H⟩ (sub_nil _)
                · replace H := ite_f q43 H
                  refine cs_know (c := false) (dec_f q43) 52 (by kernel_rfl) ?_
                  refine cs_false (by kernel_rfl) ?_
                  refine cs_exit' ?_
                  refine qx_then ?_
                  refine qx_then ?_
                  refine qx_same ?_
                  refine qn_then ?_
                  refine cs_seq ?_
                  refine cs_region (l := [_, _, _, _, _, _]) ?_
                  refine ls_val (v := .int .u64 x6_4) rfl rfl (by kernel_rfl) (fun w => by kernel_rfl) ?_
                  refine ls_val (v := .int .i64 x5_1) rfl rfl (by kernel_rfl) (fun w => by kernel_rfl) ?_
                  refine ls_val (v := .int .i64 (IntKind.wrap .i64 (x5_1 + (1 : Int)))) rfl rfl (by kernel_rfl) (fun w => by kernel_rfl) ?_
                  refine ls_val (v := .int .u64 x6_4) rfl rfl (by kernel_rfl) (fun w => by kernel_rfl) ?_
                  refine ls_val (v := .int .i64 (IntKind.wrap .i64 (x5_1 + (1 : Int)))) rfl rfl (by kernel_rfl) (fun w => by kernel_rfl) ?_
                  refine ls_val (v := .int .i64 (0 : Int)) rfl rfl (by kernel_rfl) (fun w => by kernel_rfl) ?_
                  refine ls_end ?_
                  refine qn_then ?_
                  refine cs_ret' ?_
                  obtain rfl := Option.some.inj H
                  refine qr_end3 rfl (fun w' hs => ⟨(), rfl, ?_⟩)
                  exact hs.sub (sub_nil _)
          · replace H := ite_f q36 H
            refine ls_know (c := false) (dec_f q36) 42 (by kernel_rfl) ?_
            refine ls_off (j := 11) (t := 42) (b := true) (c := false) rfl rfl (by kernel_rfl) (by kernel_rfl) rfl rfl (by kernel_rfl) ?_
            refine ls_off (j := 11) (t := 42) (b := true) (c := false) rfl rfl (by kernel_rfl) (by kernel_rfl) rfl rfl (by kernel_rfl) ?_
            refine ls_off (j := 11) (t := 42) (b := true) (c := false) rfl rfl (by kernel_rfl) (by kernel_rfl) rfl rfl (by kernel_rfl) ?_
            refine ls_off (j := 11) (t := 42) (b := true) (c := false) rfl rfl (by kernel_rfl) (by kernel_rfl) rfl rfl (by kernel_rfl) ?_
            refine ls_off (j := 11) (t := 42) (b := true) (c := false) rfl rfl (by kernel_rfl) (by kernel_rfl) rfl rfl (by kernel_rfl) ?_
            refine ls_on (j := 8) (t := 39) (b := false) rfl rfl (by kernel_rfl) (by kernel_rfl) ?_
            refine ls_val (v := .bool false) rfl rfl (by kernel_rfl) (fun w => by kernel_rfl) ?_
            refine ls_val (v := .bool false) rfl rfl (by kernel_rfl) (fun w => by kernel_rfl) ?_
            refine ls_end ?_
            refine qn_then ?_
            refine cs_false (by kernel_rfl) ?_
            refine cs_skip' ?_
            refine qn_then ?_
            refine cs_seq ?_
            refine cs_region (l := [_]) ?_
            refine ls_val (v := .int .u64 (0 : Int)) rfl rfl (by kernel_rfl) (fun w => by kernel_rfl) ?_
            refine ls_end ?_
            refine qn_then ?_
            refine cs_seq ?_
            refine cs_seq ?_
            refine cs_region (l := [_, _]) ?_
            refine ls_val (v := .int .i64 x5_1) rfl rfl (by kernel_rfl) (fun w => by kernel_rfl) ?_
            refine ls_val (v := .int .i64 x5_1) rfl rfl (by kernel_rfl) (fun w => by kernel_rfl) ?_
            refine ls_end ?_
            refine qn_then ?_
            refine cs_block ?_
            refine cs_sub (s0) (sub_nil _) ?_
            refine cs_loop (fun kk f S => ∃ (g : Fr) (x6_5 : Int) (x7_5 : Int), f = upd (upd (upd (upd g 0 (.slice A0 l0.length c0)) 5 (.int .i64 x5_1)) 6 (.int .u64 x6_5)) 7 (.int .i64 x7_5) ∧ S = s0 ∧ shadowboxref01_ReadShort.l5 l0 x5_1 kk x6_5 x7_5 = some r) k ?_ ?_ ?_
            · exact ⟨_, (0 : Int), x5_1, fr_next (fr_next (fr_next (fr_next (rfl) (by kernel_rfl)) (by kernel_rfl)) (by kernel_rfl)) (by kernel_rfl), rfl, H⟩
            · rintro f S ⟨g5, x6_5, x7_5, rfl, rfl, H⟩; cases H
            · rintro k5 f S ⟨g5, x6_5, x7_5, rfl, rfl, H⟩
              replace H : (if x7_5 ≥ (0 : Int) then (if 0 ≤ x7_5 then (if x7_5 < (l0.length : Int) then lt (Int.tmod ((l0).getD (x7_5).toNat 0) (128 : Int)) fun y59 => lt (IntKind.wrap .u64 ((IntKind.wrap .u64 (x6_5 * (128 : Int))) + (IntKind.wrap .u64 y59))) fun y61 => (shadowboxref01_ReadShort.l5 l0 x5_1 k5) y61 (IntKind.wrap .i64 (x7_5 - (1 : Int))) else none) else none) else some (x6_5, IntKind.wrap .i64 (x5_1 + (1 : Int)), (0 : Int))) = some r := H
              refine cs_seq ?_
              refine cs_seq ?_
              refine cs_region (l := [_, _]) ?_
              refine ls_val (v := .int .i64 x7_5) rfl rfl (by kernel_rfl) (fun w => by kernel_rfl) ?_
              refine ls_val (v := .bool (decide (x7_5 ≥ (0 : Int)))) rfl rfl (by kernel_rfl) (fun w => by kernel_rfl) ?_
              refine ls_end ?_
              refine qn_then ?_
              by_cases q53 : x7_5 ≥ (0 : Int)
              · replace H := ite_t q53 H
                refine cs_know (c := true) (dec_t q53) 52 (by kernel_rfl) ?_
                refine cs_true (by kernel_rfl) ?_
                refine cs_skip' ?_
                refine qn_then ?_
                refine cs_seq ?_
                refine cs_block ?_
                refine cs_region (l := [_, _, _, _, _, _, _, _, _, _]) ?_
                refine ls_val (v := .int .u64 x6_5) rfl rfl (by kernel_rfl) (fun w => by kernel_rfl) ?_
                refine ls_val (v := .int .u64 (IntKind.wrap .u64 (x6_5 * (128 : Int)))) rfl rfl (by kernel_rfl) (fun w => by kernel_rfl) ?_
                refine ls_val (v := .slice A0 l0.length c0) rfl rfl (by kernel_rfl) (fun w => by kernel_rfl) ?_
                refine ls_val (v := .int .i64 x7_5) rfl rfl (by kernel_rfl) (fun w => by kernel_rfl) ?_
                obtain ⟨q54, H⟩ := ite_need H
                obtain ⟨q55, H⟩ := ite_need H
                obtain ⟨ad56, hA57, hc58⟩ := idx_at (E := (Value.int .u8)) (i := x7_5) R0 q54 q55 0
                refine ls_idxv (A := A0) (c := c0) (l := l0) (k := .i64) (i := x7_5) (e := 5) (ad := ad56) rfl rfl (by kernel_rfl) hA57 rfl (by kernel_rfl) (by kernel_rfl) (by kernel_rfl) (by kernel_rfl) q54 q55 ?_
                refine ls_load (a0 := (ad56.add (x7_5).toNat)) (v := .int .u8 ((l0).getD (x7_5).toNat 0)) (de := (TypeDesc.int .u8)) rfl rfl (by kernel_rfl) rfl (by kernel_rfl) (by kernel_rfl) (by kernel_rfl) (fun w hs => cell_step hs.below hc58) ?_
                obtain ⟨y59, hy60, H⟩ := lt_some H
                refine ls_val (v := .int .u8 (Int.tmod ((l0).getD (x7_5).toNat 0) (128 : Int))) rfl rfl (by kernel_rfl) (fun w => by kernel_rfl) ?_
                refine ls_ren 61 (v := .int .u8 (Int.tmod ((l0).getD (x7_5).toNat 0) (128 : Int))) (v' := .int .u8 y59) (by kernel_rfl) (by rw [hy60]) ?_
                refine ls_val (v := .int .u64 (IntKind.wrap .u64 y59)) rfl rfl (by kernel_rfl) (fun w => by kernel_rfl) ?_
                obtain ⟨y61, hy62, H⟩ := lt_some H
                refine ls_val (v := .int .u64 (IntKind.wrap .u64 ((IntKind.wrap .u64 (x6_5 * (128 : Int))) + (IntKind.wrap .u64 y59)))) rfl rfl (by kernel_rfl) (fun w => by kernel_rfl) ?_
                refine ls_ren 63 (v := .int .u64 (IntKind.wrap .u64 ((IntKind.wrap .u64 (x6_5 * (128 : Int))) + (IntKind.wrap .u64 y59)))) (v' := .int .u64 y61) (by kernel_rfl) (by rw [hy62]) ?_
                refine ls_val (v := .int .u64 y61) rfl rfl (by kernel_rfl) (fun w => by kernel_rfl) ?_
                refine ls_end ?_
                refine qn_block ?_
                refine qn_then ?_
                refine cs_region (l := [_, _, _]) ?_
                refine ls_val (v := .int .i64 x7_5) rfl rfl (by kernel_rfl) (fun w => by kernel_rfl) ?_
                refine ls_val (v := .int .i64 (IntKind.wrap .i64 (x7_5 - (1 : Int)))) rfl rfl (by kernel_rfl) (fun w => by kernel_rfl) ?_
                refine ls_val (v := .int .i64 (IntKind.wrap .i64 (x7_5 - (1 : Int)))) rfl rfl (by kernel_rfl) (fun w => by kernel_rfl) ?_
                refine ls_end ?_
                refine qn_again k5 (s0) (Nat.le_refl _) ⟨_, y61, (IntKind.wrap .i64 (x7_5 - (1 : Int))), fr_next (fr_next (fr_next (fr_next (rfl) (by kernel_rfl)) (by kernel_rfl)) (by kernel_rfl)) (by kernel_rfl), rfl, H⟩ (sub_nil _)
              · replace H := ite_f q53 H
                refine cs_know (c := false) (dec_f q53) 52 (by kernel_rfl) ?_
                refine cs_false (by kernel_rfl) ?_
                refine cs_exit' ?_
                refine qx_then ?_
                refine qx_then ?_
                refine qx_same ?_
                refine qn_then ?_
                refine cs_seq ?_
                refine cs_region (l := [_, _, _, _, _, _]) ?_
                refine ls_val (v := .int .u64 x6_5) rfl rfl (by kernel_rfl) (fun w => by kernel_rfl) ?_
                refine ls_val (v := .int .i64 x5_1) rfl rfl (by kernel_rfl) (fun w => by kernel_rfl) ?_
                refine ls_val (v := .int .i64 (IntKind.wrap .i64 (x5_1 + (1 : Int)))) rfl rfl (by kernel_rfl) (fun w => by kernel_rfl) ?_
                refine ls_val (v := .int .u64 x6_5) rfl rfl (by kernel_rfl) (fun w => by kernel_rfl) ?_
                refine ls_val (v := .int .i64 (IntKind.wrap .i64 (x5_1 + (1 : Int)))) rfl rfl (by kernel_rfl) (fun w => by kernel_rfl) ?_
                refine ls_val (v := .int .i64 (0 : Int)) rfl rfl (by kernel_rfl) (fun w => by kernel_rfl) ?_
                refine ls_end ?_
                refine qn_then ?_
                refine cs_ret' ?_
                obtain rfl := Option.some.inj H
                refine qr_end3 rfl (fun w' hs => ⟨(), rfl, ?_⟩)
                exact hs.sub (sub_nil _)

/-! ### shadowbox/codec.ReadText: function 19 -/
def codec_ReadText.f (k : Nat) (l0 : List Int) (a1 : Int) : Option (ByteArray × Int × Int) :=
  (codec_ReadShort.f k l0).bind fun t1 => (if t1.2.2 = (0 : Int) then (if a1 < (0 : Int) then some ((⟨#[]⟩ : ByteArray), (0 : Int), (3 : Int)) else (if t1.1 > (IntKind.wrap .u64 a1) then some ((⟨#[]⟩ : ByteArray), (0 : Int), (3 : Int)) else lt (IntKind.wrap .i64 ((l0.length : Int) - t1.2.1)) fun y7 => (if t1.1 > (IntKind.wrap .u64 y7) then some ((⟨#[]⟩ : ByteArray), (0 : Int), (10 : Int)) else lt (IntKind.wrap .i64 (t1.2.1 + (IntKind.wrap .i64 t1.1))) fun y10 => (if 0 ≤ y10 then (if y10 ≤ (l0.length : Int) then (if 0 ≤ t1.2.1 then (if t1.2.1 ≤ y10 then lt ((l0.take (y10).toNat).drop (t1.2.1).toNat) fun xl20 => some (strOfNums xl20, y10, (0 : Int)) else none) else none) else none) else none)))) else some ((⟨#[]⟩ : ByteArray), (0 : Int), t1.2.2))
set_option maxRecDepth 100000 in
set_option maxHeartbeats 4000000 in
theorem codec_ReadText.calls (k : Nat) (A0 : Option Addr) (c0 : Nat) (l0 : List Int) (a1 : Int) (r : ByteArray × Int × Int) (w : World) (R0 : Rd w A0 (en (Value.int .u8) l0)) (C0 : l0.length ≤ c0) (H : codec_ReadText.f k l0 a1 = some r) :
    Calls Try.prog 19 #[.slice A0 l0.length c0, .int .i64 a1] w fun e w' => ∃ x : Unit, e = .returned (.tuple #[.string r.1, .int .i64 r.2.1, .int .i64 r.2.2]) ∧ St w s0 w' := by
  unfold codec_ReadText.f at H
  refine enter (n := 46) Try.func19 rfl (by kernel_rfl) (by kernel_rfl) ?_
  refine cs_seq ?_
  refine cs_region (l := [_, _, _]) ?_
  refine ls_val (v := .string (⟨#[]⟩ : ByteArray)) rfl rfl (by kernel_rfl) (fun w => by kernel_rfl) ?_
  refine ls_val (v := .int .i64 (0 : Int)) rfl rfl (by kernel_rfl) (fun w => by kernel_rfl) ?_
  refine ls_val (v := .int .i64 (0 : Int)) rfl rfl (by kernel_rfl) (fun w => by kernel_rfl) ?_
  refine ls_end ?_
  refine qn_then ?_
  refine cs_seq ?_
  refine cs_region (l := [_, _, _, _, _, _, _, _, _]) ?_
  refine ls_val (v := .slice A0 l0.length c0) rfl rfl (by kernel_rfl) (fun w => by kernel_rfl) ?_
  obtain ⟨t1, hc2, H⟩ := bind_some H
  refine ls_call (fid := 15) (vals := #[.slice A0 l0.length c0]) (X := Unit) (fun x => .tuple #[.int .u64 t1.1, .int .i64 t1.2.1, .int .i64 t1.2.2]) (fun x => s0) 0 rfl rfl (by kernel_rfl) (fun w => by kernel_rfl) (fun w hs => codec_ReadShort.calls k A0 c0 l0 t1 w (hs.old R0) C0 hc2) ?_
  intro x3
  refine ls_val (v := .tuple #[.int .u64 t1.1, .int .i64 t1.2.1, .int .i64 t1.2.2]) rfl rfl (by kernel_rfl) (fun w => by kernel_rfl) ?_
  refine ls_val (v := .int .u64 t1.1) rfl rfl (by kernel_rfl) (fun w => by kernel_rfl) ?_
  refine ls_val (v := .int .i64 t1.2.1) rfl rfl (by kernel_rfl) (fun w => by kernel_rfl) ?_
  refine ls_val (v := .int .i64 t1.2.2) rfl rfl (by kernel_rfl) (fun w => by kernel_rfl) ?_
  refine ls_val (v := .int .u64 t1.1) rfl rfl (by kernel_rfl) (fun w => by kernel_rfl) ?_
  refine ls_val (v := .int .i64 t1.2.1) rfl rfl (by kernel_rfl) (fun w => by kernel_rfl) ?_
  refine ls_val (v := .int .i64 t1.2.2) rfl rfl (by kernel_rfl) (fun w => by kernel_rfl) ?_
  refine ls_end ?_
  refine qn_then ?_
  refine cs_seq ?_
  refine cs_block ?_
  refine cs_seq ?_
  refine cs_region (l := [_, _, _]) ?_
  refine ls_val (v := .int .i64 t1.2.2) rfl rfl (by kernel_rfl) (fun w => by kernel_rfl) ?_
  refine ls_val (v := .bool (!decide (t1.2.2 = (0 : Int)))) rfl rfl (by kernel_rfl) (fun w => by kernel_rfl) ?_
  refine ls_val (v := .bool (!decide (t1.2.2 = (0 : Int)))) rfl rfl (by kernel_rfl) (fun w => by kernel_rfl) ?_
  refine ls_end ?_
  refine qn_then ?_
  by_cases q4 : t1.2.2 = (0 : Int)
  · replace H := ite_t q4 H
    refine cs_know (c := false) (congrArg Bool.not (dec_t q4)) 15 (by kernel_rfl) ?_
    refine cs_false (by kernel_rfl) ?_
    refine cs_seq ?_
    refine cs_region (l := [_, _, _, _, _, _, _, _, _]) ?_
    refine ls_val (v := .int .i64 a1) rfl rfl (by kernel_rfl) (fun w => by kernel_rfl) ?_
    refine ls_val (v := .bool (decide (a1 < (0 : Int)))) rfl rfl (by kernel_rfl) (fun w => by kernel_rfl) ?_
    refine ls_val (v := .bool (decide (a1 < (0 : Int)))) rfl rfl (by kernel_rfl) (fun w => by kernel_rfl) ?_
    by_cases q5 : a1 < (0 : Int)
    · replace H := ite_t q5 H
      refine ls_know (c := true) (dec_t q5) 22 (by kernel_rfl) ?_
      refine ls_off (j := 2) (t := 22) (b := false) (c := true) rfl rfl (by kernel_rfl) (by kernel_rfl) rfl rfl (by kernel_rfl) ?_
      refine ls_off (j := 2) (t := 22) (b := false) (c := true) rfl rfl (by kernel_rfl) (by kernel_rfl) rfl rfl (by kernel_rfl) ?_
      refine ls_off (j := 2) (t := 22) (b := false) (c := true) rfl rfl (by kernel_rfl) (by kernel_rfl) rfl rfl (by kernel_rfl) ?_
      refine ls_off (j := 2) (t := 22) (b := false) (c := true) rfl rfl (by kernel_rfl) (by kernel_rfl) rfl rfl (by kernel_rfl) ?_
      refine ls_val (v := .bool true) rfl rfl (by kernel_rfl) (fun w => by kernel_rfl) ?_
      refine ls_val (v := .bool true) rfl rfl (by kernel_rfl) (fun w => by kernel_rfl) ?_
      refine ls_end ?_
      refine qn_then ?_
      refine cs_true (by kernel_rfl) ?_
      refine cs_seq ?_
      refine cs_region (l := [_, _, _]) ?_
      refine ls_val (v := .string (⟨#[]⟩ : ByteArray)) rfl rfl (by kernel_rfl) (fun w => by kernel_rfl) ?_
      refine ls_val (v := .int .i64 (0 : Int)) rfl rfl (by kernel_rfl) (fun w => by kernel_rfl) ?_
      refine ls_val (v := .int .i64 (3 : Int)) rfl rfl (by kernel_rfl) (fun w => by kernel_rfl) ?_
      refine ls_end ?_
      refine qn_then ?_
      refine cs_ret' ?_
      refine qr_block ?_
      refine qr_then ?_
      obtain rfl := Option.some.inj H
      refine qr_end3 rfl (fun w' hs => ⟨(), rfl, ?_⟩)
      exact hs.sub (sub_nil _)
    · replace H := ite_f q5 H
      refine ls_know (c := false) (dec_f q5) 22 (by kernel_rfl) ?_
      refine ls_on (j := 2) (t := 22) (b := false) rfl rfl (by kernel_rfl) (by kernel_rfl) ?_
      refine ls_val (v := .int .u64 t1.1) rfl rfl (by kernel_rfl) (fun w => by kernel_rfl) ?_
      refine ls_on (j := 2) (t := 22) (b := false) rfl rfl (by kernel_rfl) (by kernel_rfl) ?_
      refine ls_val (v := .int .i64 a1) rfl rfl (by kernel_rfl) (fun w => by kernel_rfl) ?_
      refine ls_on (j := 2) (t := 22) (b := false) rfl rfl (by kernel_rfl) (by kernel_rfl) ?_
      refine ls_val (v := .int .u64 (IntKind.wrap .u64 a1)) rfl rfl (by kernel_rfl) (fun w => by kernel_rfl) ?_
      refine ls_on (j := 2) (t := 22) (b := false) rfl rfl (by kernel_rfl) (by kernel_rfl) ?_
      refine ls_val (v := .bool (decide (t1.1 > (IntKind.wrap .u64 a1)))) rfl rfl (by kernel_rfl) (fun w => by kernel_rfl) ?_
      refine ls_val (v := .bool (decide (t1.1 > (IntKind.wrap .u64 a1)))) rfl rfl (by kernel_rfl) (fun w => by kernel_rfl) ?_
      refine ls_val (v := .bool (decide (t1.1 > (IntKind.wrap .u64 a1)))) rfl rfl (by kernel_rfl) (fun w => by kernel_rfl) ?_
      refine ls_end ?_
      refine qn_then ?_
      by_cases q6 : t1.1 > (IntKind.wrap .u64 a1)
      · replace H := ite_t q6 H
        refine cs_know (c := true) (dec_t q6) 19 (by kernel_rfl) ?_
        refine cs_true (by kernel_rfl) ?_
        refine cs_seq ?_
        refine cs_region (l := [_, _, _]) ?_
        refine ls_val (v := .string (⟨#[]⟩ : ByteArray)) rfl rfl (by kernel_rfl) (fun w => by kernel_rfl) ?_
        refine ls_val (v := .int .i64 (0 : Int)) rfl rfl (by kernel_rfl) (fun w => by kernel_rfl) ?_
        refine ls_val (v := .int .i64 (3 : Int)) rfl rfl (by kernel_rfl) (fun w => by kernel_rfl) ?_
        refine ls_end ?_
        refine qn_then ?_
        refine cs_ret' ?_
        refine qr_block ?_
        refine qr_then ?_
        obtain rfl := Option.some.inj H
        refine qr_end3 rfl (fun w' hs => ⟨(), rfl, ?_⟩)
        exact hs.sub (sub_nil _)
      · replace H := ite_f q6 H
        refine cs_know (c := false) (dec_f q6) 19 (by kernel_rfl) ?_
        refine cs_false (by kernel_rfl) ?_
        refine cs_seq ?_
        refine cs_region (l := [_, _, _, _, _, _, _, _]) ?_
        refine ls_val (v := .int .u64 t1.1) rfl rfl (by kernel_rfl) (fun w => by kernel_rfl) ?_
        refine ls_val (v := .slice A0 l0.length c0) rfl rfl (by kernel_rfl) (fun w => by kernel_rfl) ?_
        refine ls_val (v := .int .i64 (l0.length : Int)) rfl rfl (by kernel_rfl) (fun w => by kernel_rfl) ?_
        refine ls_val (v := .int .i64 t1.2.1) rfl rfl (by kernel_rfl) (fun w => by kernel_rfl) ?_
        obtain ⟨y7, hy8, H⟩ := lt_some H
        refine ls_val (v := .int .i64 (IntKind.wrap .i64 ((l0.length : Int) - t1.2.1))) rfl rfl (by kernel_rfl) (fun w => by kernel_rfl) ?_
        refine ls_ren 33 (v := .int .i64 (IntKind.wrap .i64 ((l0.length : Int) - t1.2.1))) (v' := .int .i64 y7) (by kernel_rfl) (by rw [hy8]) ?_
        refine ls_val (v := .int .u64 (IntKind.wrap .u64 y7)) rfl rfl (by kernel_rfl) (fun w => by kernel_rfl) ?_
        refine ls_val (v := .bool (decide (t1.1 > (IntKind.wrap .u64 y7)))) rfl rfl (by kernel_rfl) (fun w => by kernel_rfl) ?_
        refine ls_val (v := .bool (decide (t1.1 > (IntKind.wrap .u64 y7)))) rfl rfl (by kernel_rfl) (fun w => by kernel_rfl) ?_
        refine ls_end ?_
        refine qn_then ?_
        by_cases q9 : t1.1 > (IntKind.wrap .u64 y7)
        · replace H := ite_t q9 H
          refine cs_know (c := true) (dec_t q9) 28 (by kernel_rfl) ?_
          refine cs_true (by kernel_rfl) ?_
          refine cs_seq ?_
          refine cs_region (l := [_, _, _]) ?_
          refine ls_val (v := .string (⟨#[]⟩ : ByteArray)) rfl rfl (by kernel_rfl) (fun w => by kernel_rfl) ?_
          refine ls_val (v := .int .i64 (0 : Int)) rfl rfl (by kernel_rfl) (fun w => by kernel_rfl) ?_
          refine ls_val (v := .int .i64 (10 : Int)) rfl rfl (by kernel_rfl) (fun w => by kernel_rfl) ?_
          refine ls_end ?_
          refine qn_then ?_
          refine cs_ret' ?_
          refine qr_block ?_
          refine qr_then ?_
          obtain rfl := Option.some.inj H
          refine qr_end3 rfl (fun w' hs => ⟨(), rfl, ?_⟩)
          exact hs.sub (sub_nil _)
        · replace H := ite_f q9 H
          refine cs_know (c := false) (dec_f q9) 28 (by kernel_rfl) ?_
          refine cs_false (by kernel_rfl) ?_
          refine cs_skip' ?_
          refine qn_block ?_
          refine qn_then ?_
          refine cs_seq ?_
          refine cs_region (l := [_, _, _, _, _]) ?_
          refine ls_val (v := .int .i64 t1.2.1) rfl rfl (by kernel_rfl) (fun w => by kernel_rfl) ?_
          refine ls_val (v := .int .u64 t1.1) rfl rfl (by kernel_rfl) (fun w => by kernel_rfl) ?_
          refine ls_val (v := .int .i64 (IntKind.wrap .i64 t1.1)) rfl rfl (by kernel_rfl) (fun w => by kernel_rfl) ?_
          obtain ⟨y10, hy11, H⟩ := lt_some H
          refine ls_val (v := .int .i64 (IntKind.wrap .i64 (t1.2.1 + (IntKind.wrap .i64 t1.1)))) rfl rfl (by kernel_rfl) (fun w => by kernel_rfl) ?_
          refine ls_ren 39 (v := .int .i64 (IntKind.wrap .i64 (t1.2.1 + (IntKind.wrap .i64 t1.1)))) (v' := .int .i64 y10) (by kernel_rfl) (by rw [hy11]) ?_
          refine ls_val (v := .int .i64 y10) rfl rfl (by kernel_rfl) (fun w => by kernel_rfl) ?_
          refine ls_end ?_
          refine qn_then ?_
          refine cs_seq ?_
          refine cs_region (l := [_, _, _, _, _, _, _, _, _]) ?_
          refine ls_val (v := .slice A0 l0.length c0) rfl rfl (by kernel_rfl) (fun w => by kernel_rfl) ?_
          refine ls_val (v := .int .i64 t1.2.1) rfl rfl (by kernel_rfl) (fun w => by kernel_rfl) ?_
          refine ls_val (v := .int .i64 y10) rfl rfl (by kernel_rfl) (fun w => by kernel_rfl) ?_
          obtain ⟨q12, H⟩ := ite_need H
          obtain ⟨q13, H⟩ := ite_need H
          obtain ⟨q14, H⟩ := ite_need H
          obtain ⟨q15, H⟩ := ite_need H
          obtain ⟨xl20, hy21, H⟩ := lt_some H
          have hz23 : (t1.2.1).toNat ≤ (y10).toNat := by omega
          have hz24 : (y10).toNat ≤ l0.length := by omega
          obtain ⟨xA16, xc17, he22, xC19, xR18⟩ := cut_at (A := A0) (c := c0) (l := l0) (E := (Value.int .u8)) ((t1.2.1).toNat) ((y10).toNat) hz23 hz24 C0 R0 (m := xl20) (by rw [← hy21] <;> simp)
          refine ls_cutv (A := A0) (c := c0) (l := l0) (e := 5) (a := (t1.2.1).toNat) (b := (y10).toNat) rfl rfl (by kernel_rfl) rfl (by kernel_rfl) (by kernel_rfl) (by kernel_rfl) (.inr ⟨.i64, by rw [Int.toNat_of_nonneg (by first | assumption | omega)]; kernel_rfl⟩) (.inr ⟨.i64, by rw [Int.toNat_of_nonneg (by first | assumption | omega)]; kernel_rfl⟩) hz23 hz24 C0 he22 ?_
          refine ls_str (A := xA16) (c := xc17) (e := 5) (l := xl20) rfl rfl (by kernel_rfl) rfl (by kernel_rfl) (by kernel_rfl) (by kernel_rfl) (by kernel_rfl) (fun w hs => (hs.old xR18)) ?_
          refine ls_val (v := .int .i64 y10) rfl rfl (by kernel_rfl) (fun w => by kernel_rfl) ?_
          refine ls_val (v := .string (strOfNums xl20)) rfl rfl (by kernel_rfl) (fun w => by kernel_rfl) ?_
          refine ls_val (v := .int .i64 y10) rfl rfl (by kernel_rfl) (fun w => by kernel_rfl) ?_
          refine ls_val (v := .int .i64 (0 : Int)) rfl rfl (by kernel_rfl) (fun w => by kernel_rfl) ?_
          refine ls_end ?_
          refine qn_then ?_
          refine cs_ret' ?_
          obtain rfl := Option.some.inj H
          refine qr_end3 rfl (fun w' hs => ⟨(), rfl, ?_⟩)
          exact hs.sub (sub_nil _)
  · replace H := ite_f q4 H
    refine cs_know (c := true) (congrArg Bool.not (dec_f q4)) 15 (by kernel_rfl) ?_
    refine cs_true (by kernel_rfl) ?_
    refine cs_seq ?_
    refine cs_region (l := [_, _, _, _]) ?_
    refine ls_val (v := .int .i64 t1.2.2) rfl rfl (by kernel_rfl) (fun w => by kernel_rfl) ?_
    refine ls_val (v := .string (⟨#[]⟩ : ByteArray)) rfl rfl (by kernel_rfl) (fun w => by kernel_rfl) ?_
    refine ls_val (v := .int .i64 (0 : Int)) rfl rfl (by kernel_rfl) (fun w => by kernel_rfl) ?_
    refine ls_val (v := .int .i64 t1.2.2) rfl rfl (by kernel_rfl) (fun w => by kernel_rfl) ?_
    refine ls_end ?_
    refine qn_then ?_
    refine cs_ret' ?_
    refine qr_block ?_
    refine qr_then ?_
    obtain rfl := Option.some.inj H
    refine qr_end3 rfl (fun w' hs => ⟨(), rfl, ?_⟩)
    exact hs.sub (sub_nil _)

/-! ### shadowbox/shadowboxref01.ReadText: function 20 -/
def shadowboxref01_ReadText.f (k : Nat) (l0 : List Int) (a1 : Int) : Option (ByteArray × Int × Int) :=
  (shadowboxref01_ReadShort.f k l0).bind fun t1 => (if t1.2.2 = (0 : Int) then (if a1 < (0 : Int) then some ((⟨#[]⟩ : ByteArray), (0 : Int), (3 : Int)) else (if t1.1 > (IntKind.wrap .u64 a1) then some ((⟨#[]⟩ : ByteArray), (0 : Int), (3 : Int)) else lt (IntKind.wrap .i64 ((l0.length : Int) - t1.2.1)) fun y7 => (if t1.1 > (IntKind.wrap .u64 y7) then some ((⟨#[]⟩ : ByteArray), (0 : Int), (10 : Int)) else lt (IntKind.wrap .i64 (t1.2.1 + (IntKind.wrap .i64 t1.1))) fun y10 => (if 0 ≤ y10 then (if y10 ≤ (l0.length : Int) then (if 0 ≤ t1.2.1 then (if t1.2.1 ≤ y10 then lt ((l0.take (y10).toNat).drop (t1.2.1).toNat) fun xl20 => lt (IntKind.wrap .i64 (t1.2.1 + (IntKind.wrap .i64 t1.1))) fun y25 => some (strOfNums xl20, y25, (0 : Int)) else none) else none) else none) else none)))) else some ((⟨#[]⟩ : ByteArray), (0 : Int), t1.2.2))
set_option maxRecDepth 100000 in
set_option maxHeartbeats 4000000 in
theorem shadowboxref01_ReadText.calls (k : Nat) (A0 : Option Addr) (c0 : Nat) (l0 : List Int) (a1 : Int) (r : ByteArray × Int × Int) (w : World) (R0 : Rd w A0 (en (Value.int .u8) l0)) (C0 : l0.length ≤ c0) (H : shadowboxref01_ReadText.f k l0 a1 = some r) :
    Calls Try.prog 20 #[.slice A0 l0.length c0, .int .i64 a1] w fun e w' => ∃ x : Unit, e = .returned (.tuple #[.string r.1, .int .i64 r.2.1, .int .i64 r.2.2]) ∧ St w s0 w' := by
  unfold shadowboxref01_ReadText.f at H
  refine enter (n := 46) Try.func20 rfl (by kernel_rfl) (by kernel_rfl) ?_
  refine cs_seq ?_
  refine cs_region (l := [_, _, _]) ?_
  refine ls_val (v := .string (⟨#[]⟩ : ByteArray)) rfl rfl (by kernel_rfl) (fun w => by kernel_rfl) ?_
  refine ls_val (v := .int .i64 (0 : Int)) rfl rfl (by kernel_rfl) (fun w => by kernel_rfl) ?_
  refine ls_val (v := .int .i64 (0 : Int)) rfl rfl (by kernel_rfl) (fun w => by kernel_rfl) ?_
  refine ls_end ?_
  refine qn_then ?_
  refine cs_seq ?_
  refine cs_region (l := [_, _, _, _, _, _, _, _, _]) ?_
  refine ls_val (v := .slice A0 l0.length c0) rfl rfl (by kernel_rfl) (fun w => by kernel_rfl) ?_
  obtain ⟨t1, hc2, H⟩ := bind_some H
  refine ls_call (fid := 16) (vals := #[.slice A0 l0.length c0]) (X := Unit) (fun x => .tuple #[.int .u64 t1.1, .int .i64 t1.2.1, .int .i64 t1.2.2]) (fun x => s0) 0 rfl rfl (by kernel_rfl) (fun w => by kernel_rfl) (fun w hs => shadowboxref01_ReadShort.calls k A0 c0 l0 t1 w (hs.old R0) C0 hc2) ?_
  intro x3
  refine ls_val (v := .tuple #[.int .u64 t1.1, .int .i64 t1.2.1, .int .i64 t1.2.2]) rfl rfl (by kernel_rfl) (fun w => by kernel_rfl) ?_
  refine ls_val (v := .int .u64 t1.1) rfl rfl (by kernel_rfl) (fun w => by kernel_rfl) ?_
  refine ls_val (v := .int .i64 t1.2.1) rfl rfl (by kernel_rfl) (fun w => by kernel_rfl) ?_
  refine ls_val (v := .int .i64 t1.2.2) rfl rfl (by kernel_rfl) (fun w => by kernel_rfl) ?_
  refine ls_val (v := .int .u64 t1.1) rfl rfl (by kernel_rfl) (fun w => by kernel_rfl) ?_
  refine ls_val (v := .int .i64 t1.2.1) rfl rfl (by kernel_rfl) (fun w => by kernel_rfl) ?_
  refine ls_val (v := .int .i64 t1.2.2) rfl rfl (by kernel_rfl) (fun w => by kernel_rfl) ?_
  refine ls_end ?_
  refine qn_then ?_
  refine cs_seq ?_
  refine cs_seq ?_
  refine cs_region (l := [_, _]) ?_
  refine ls_val (v := .int .i64 t1.2.2) rfl rfl (by kernel_rfl) (fun w => by kernel_rfl) ?_
  refine ls_val (v := .bool (!decide (t1.2.2 = (0 : Int)))) rfl rfl (by kernel_rfl) (fun w => by kernel_rfl) ?_
  refine ls_end ?_
  refine qn_then ?_
  by_cases q4 : t1.2.2 = (0 : Int)
  · replace H := ite_t q4 H
    refine cs_know (c := false) (congrArg Bool.not (dec_t q4)) 17 (by kernel_rfl) ?_
    refine cs_false (by kernel_rfl) ?_
    refine cs_skip' ?_
    refine qn_then ?_
    refine cs_seq ?_
    refine cs_seq ?_
    refine cs_region (l := [_, _, _, _, _, _, _, _]) ?_
    refine ls_val (v := .int .i64 a1) rfl rfl (by kernel_rfl) (fun w => by kernel_rfl) ?_
    refine ls_val (v := .bool (decide (a1 < (0 : Int)))) rfl rfl (by kernel_rfl) (fun w => by kernel_rfl) ?_
    refine ls_val (v := .bool (decide (a1 < (0 : Int)))) rfl rfl (by kernel_rfl) (fun w => by kernel_rfl) ?_
    by_cases q5 : a1 < (0 : Int)
    · replace H := ite_t q5 H
      refine ls_know (c := true) (dec_t q5) 21 (by kernel_rfl) ?_
      refine ls_off (j := 2) (t := 21) (b := false) (c := true) rfl rfl (by kernel_rfl) (by kernel_rfl) rfl rfl (by kernel_rfl) ?_
      refine ls_off (j := 2) (t := 21) (b := false) (c := true) rfl rfl (by kernel_rfl) (by kernel_rfl) rfl rfl (by kernel_rfl) ?_
      refine ls_off (j := 2) (t := 21) (b := false) (c := true) rfl rfl (by kernel_rfl) (by kernel_rfl) rfl rfl (by kernel_rfl) ?_
      refine ls_off (j := 2) (t := 21) (b := false) (c := true) rfl rfl (by kernel_rfl) (by kernel_rfl) rfl rfl (by kernel_rfl) ?_
      refine ls_val (v := .bool true) rfl rfl (by kernel_rfl) (fun w => by kernel_rfl) ?_
      refine ls_end ?_
      refine qn_then ?_
      refine cs_true (by kernel_rfl) ?_
      refine cs_seq ?_
      refine cs_region (l := [_, _, _]) ?_
      refine ls_val (v := .string (⟨#[]⟩ : ByteArray)) rfl rfl (by kernel_rfl) (fun w => by kernel_rfl) ?_
      refine ls_val (v := .int .i64 (0 : Int)) rfl rfl (by kernel_rfl) (fun w => by kernel_rfl) ?_
      refine ls_val (v := .int .i64 (3 : Int)) rfl rfl (by kernel_rfl) (fun w => by kernel_rfl) ?_
      refine ls_end ?_
      refine qn_then ?_
      refine cs_ret' ?_
      refine qr_then ?_
      obtain rfl := Option.some.inj H
      refine qr_end3 rfl (fun w' hs => ⟨(), rfl, ?_⟩)
      exact hs.sub (sub_nil _)
    · replace H := ite_f q5 H
      refine ls_know (c := false) (dec_f q5) 21 (by kernel_rfl) ?_
      refine ls_on (j := 2) (t := 21) (b := false) rfl rfl (by kernel_rfl) (by kernel_rfl) ?_
      refine ls_val (v := .int .u64 t1.1) rfl rfl (by kernel_rfl) (fun w => by kernel_rfl) ?_
      refine ls_on (j := 2) (t := 21) (b := false) rfl rfl (by kernel_rfl) (by kernel_rfl) ?_
      refine ls_val (v := .int .i64 a1) rfl rfl (by kernel_rfl) (fun w => by kernel_rfl) ?_
      refine ls_on (j := 2) (t := 21) (b := false) rfl rfl (by kernel_rfl) (by kernel_rfl) ?_
      refine ls_val (v := .int .u64 (IntKind.wrap .u64 a1)) rfl rfl (by kernel_rfl) (fun w => by kernel_rfl) ?_
      refine ls_on (j := 2) (t := 21) (b := false) rfl rfl (by kernel_rfl) (by kernel_rfl) ?_
      refine ls_val (v := .bool (decide (t1.1 > (IntKind.wrap .u64 a1)))) rfl rfl (by kernel_rfl) (fun w => by kernel_rfl) ?_
      refine ls_val (v := .bool (decide (t1.1 > (IntKind.wrap .u64 a1)))) rfl rfl (by kernel_rfl) (fun w => by kernel_rfl) ?_
      refine ls_end ?_
      refine qn_then ?_
      by_cases q6 : t1.1 > (IntKind.wrap .u64 a1)
      · replace H := ite_t q6 H
        refine cs_know (c := true) (dec_t q6) 26 (by kernel_rfl) ?_
        refine cs_true (by kernel_rfl) ?_
        refine cs_seq ?_
        refine cs_region (l := [_, _, _]) ?_
        refine ls_val (v := .string (⟨#[]⟩ : ByteArray)) rfl rfl (by kernel_rfl) (fun w => by kernel_rfl) ?_
        refine ls_val (v := .int .i64 (0 : Int)) rfl rfl (by kernel_rfl) (fun w => by kernel_rfl) ?_
        refine ls_val (v := .int .i64 (3 : Int)) rfl rfl (by kernel_rfl) (fun w => by kernel_rfl) ?_
        refine ls_end ?_
        refine qn_then ?_
        refine cs_ret' ?_
        refine qr_then ?_
        obtain rfl := Option.some.inj H
        refine qr_end3 rfl (fun w' hs => ⟨(), rfl, ?_⟩)
        exact hs.sub (sub_nil _)
      · replace H := ite_f q6 H
        refine cs_know (c := false) (dec_f q6) 26 (by kernel_rfl) ?_
        refine cs_false (by kernel_rfl) ?_
        refine cs_skip' ?_
        refine qn_then ?_
        refine cs_seq ?_
        refine cs_seq ?_
        refine cs_region (l := [_, _, _, _, _, _, _]) ?_
        refine ls_val (v := .int .u64 t1.1) rfl rfl (by kernel_rfl) (fun w => by kernel_rfl) ?_
        refine ls_val (v := .slice A0 l0.length c0) rfl rfl (by kernel_rfl) (fun w => by kernel_rfl) ?_
        refine ls_val (v := .int .i64 (l0.length : Int)) rfl rfl (by kernel_rfl) (fun w => by kernel_rfl) ?_
        refine ls_val (v := .int .i64 t1.2.1) rfl rfl (by kernel_rfl) (fun w => by kernel_rfl) ?_
        obtain ⟨y7, hy8, H⟩ := lt_some H
        refine ls_val (v := .int .i64 (IntKind.wrap .i64 ((l0.length : Int) - t1.2.1))) rfl rfl (by kernel_rfl) (fun w => by kernel_rfl) ?_
        refine ls_ren 31 (v := .int .i64 (IntKind.wrap .i64 ((l0.length : Int) - t1.2.1))) (v' := .int .i64 y7) (by kernel_rfl) (by rw [hy8]) ?_
        refine ls_val (v := .int .u64 (IntKind.wrap .u64 y7)) rfl rfl (by kernel_rfl) (fun w => by kernel_rfl) ?_
        refine ls_val (v := .bool (decide (t1.1 > (IntKind.wrap .u64 y7)))) rfl rfl (by kernel_rfl) (fun w => by kernel_rfl) ?_
        refine ls_end ?_
        refine qn_then ?_
        by_cases q9 : t1.1 > (IntKind.wrap .u64 y7)
        · replace H := ite_t q9 H
          refine cs_know (c := true) (dec_t q9) 33 (by kernel_rfl) ?_
          refine cs_true (by kernel_rfl) ?_
          refine cs_seq ?_
          refine cs_region (l := [_, _, _]) ?_
          refine ls_val (v := .string (⟨#[]⟩ : ByteArray)) rfl rfl (by kernel_rfl) (fun w => by kernel_rfl) ?_
          refine ls_val (v := .int .i64 (0 : Int)) rfl rfl (by kernel_rfl) (fun w => by kernel_rfl) ?_
          refine ls_val (v := .int .i64 (10 : Int)) rfl rfl (by kernel_rfl) (fun w => by kernel_rfl) ?_
          refine ls_end ?_
          refine qn_then ?_
          refine cs_ret' ?_
          refine qr_then ?_
          obtain rfl := Option.some.inj H
          refine qr_end3 rfl (fun w' hs => ⟨(), rfl, ?_⟩)
          exact hs.sub (sub_nil _)
        · replace H := ite_f q9 H
          refine cs_know (c := false) (dec_f q9) 33 (by kernel_rfl) ?_
          refine cs_false (by kernel_rfl) ?_
          refine cs_skip' ?_
          refine qn_then ?_
          refine cs_seq ?_
          refine cs_region (l := [_, _, _, _, _, _, _, _, _, _, _, _, _, _, _]) ?_
          refine ls_val (v := .slice A0 l0.length c0) rfl rfl (by kernel_rfl) (fun w => by kernel_rfl) ?_
          refine ls_val (v := .int .i64 t1.2.1) rfl rfl (by kernel_rfl) (fun w => by kernel_rfl) ?_
          refine ls_val (v := .int .i64 t1.2.1) rfl rfl (by kernel_rfl) (fun w => by kernel_rfl) ?_
          refine ls_val (v := .int .u64 t1.1) rfl rfl (by kernel_rfl) (fun w => by kernel_rfl) ?_
          refine ls_val (v := .int .i64 (IntKind.wrap .i64 t1.1)) rfl rfl (by kernel_rfl) (fun w => by kernel_rfl) ?_
          obtain ⟨y10, hy11, H⟩ := lt_some H
          refine ls_val (v := .int .i64 (IntKind.wrap .i64 (t1.2.1 + (IntKind.wrap .i64 t1.1)))) rfl rfl (by kernel_rfl) (fun w => by kernel_rfl) ?_
          refine ls_ren 39 (v := .int .i64 (IntKind.wrap .i64 (t1.2.1 + (IntKind.wrap .i64 t1.1)))) (v' := .int .i64 y10) (by kernel_rfl) (by rw [hy11]) ?_
          obtain ⟨q12, H⟩ := ite_need H
          obtain ⟨q13, H⟩ := ite_need H
          obtain ⟨q14, H⟩ := ite_need H
          obtain ⟨q15, H⟩ := ite_need H
          obtain ⟨xl20, hy21, H⟩ := lt_some H
          have hz23 : (t1.2.1).toNat ≤ (y10).toNat := by omega
          have hz24 : (y10).toNat ≤ l0.length := by omega
          obtain ⟨xA16, xc17, he22, xC19, xR18⟩ := cut_at (A := A0) (c := c0) (l := l0) (E := (Value.int .u8)) ((t1.2.1).toNat) ((y10).toNat) hz23 hz24 C0 R0 (m := xl20) (by rw [← hy21] <;> simp)
          refine ls_cutv (A := A0) (c := c0) (l := l0) (e := 5) (a := (t1.2.1).toNat) (b := (y10).toNat) rfl rfl (by kernel_rfl) rfl (by kernel_rfl) (by kernel_rfl) (by kernel_rfl) (.inr ⟨.i64, by rw [Int.toNat_of_nonneg (by first | assumption | omega)]; kernel_rfl⟩) (.inr ⟨.i64, by rw [Int.toNat_of_nonneg (by first | assumption | omega)]; kernel_rfl⟩) hz23 hz24 C0 he22 ?_
          refine ls_str (A := xA16) (c := xc17) (e := 5) (l := xl20) rfl rfl (by kernel_rfl) rfl (by kernel_rfl) (by kernel_rfl) (by kernel_rfl) (by kernel_rfl) (fun w hs => (hs.old xR18)) ?_
          refine ls_val (v := .int .i64 t1.2.1) rfl rfl (by kernel_rfl) (fun w => by kernel_rfl) ?_
          refine ls_val (v := .int .u64 t1.1) rfl rfl (by kernel_rfl) (fun w => by kernel_rfl) ?_
          refine ls_val (v := .int .i64 (IntKind.wrap .i64 t1.1)) rfl rfl (by kernel_rfl) (fun w => by kernel_rfl) ?_
          obtain ⟨y25, hy26, H⟩ := lt_some H
          refine ls_val (v := .int .i64 (IntKind.wrap .i64 (t1.2.1 + (IntKind.wrap .i64 t1.1)))) rfl rfl (by kernel_rfl) (fun w => by kernel_rfl) ?_
          refine ls_ren 45 (v := .int .i64 (IntKind.wrap .i64 (t1.2.1 + (IntKind.wrap .i64 t1.1)))) (v' := .int .i64 y25) (by kernel_rfl) (by rw [hy26]) ?_
          refine ls_val (v := .string (strOfNums xl20)) rfl rfl (by kernel_rfl) (fun w => by kernel_rfl) ?_
          refine ls_val (v := .int .i64 y25) rfl rfl (by kernel_rfl) (fun w => by kernel_rfl) ?_
          refine ls_val (v := .int .i64 (0 : Int)) rfl rfl (by kernel_rfl) (fun w => by kernel_rfl) ?_
          refine ls_end ?_
          refine qn_then ?_
          refine cs_ret' ?_
          obtain rfl := Option.some.inj H
          refine qr_end3 rfl (fun w' hs => ⟨(), rfl, ?_⟩)
          exact hs.sub (sub_nil _)
  · replace H := ite_f q4 H
    refine cs_know (c := true) (congrArg Bool.not (dec_f q4)) 17 (by kernel_rfl) ?_
    refine cs_true (by kernel_rfl) ?_
    refine cs_seq ?_
    refine cs_region (l := [_, _, _, _]) ?_
    refine ls_val (v := .int .i64 t1.2.2) rfl rfl (by kernel_rfl) (fun w => by kernel_rfl) ?_
    refine ls_val (v := .string (⟨#[]⟩ : ByteArray)) rfl rfl (by kernel_rfl) (fun w => by kernel_rfl) ?_
    refine ls_val (v := .int .i64 (0 : Int)) rfl rfl (by kernel_rfl) (fun w => by kernel_rfl) ?_
    refine ls_val (v := .int .i64 t1.2.2) rfl rfl (by kernel_rfl) (fun w => by kernel_rfl) ?_
    refine ls_end ?_
    refine qn_then ?_
    refine cs_ret' ?_
    refine qr_then ?_
    obtain rfl := Option.some.inj H
    refine qr_end3 rfl (fun w' hs => ⟨(), rfl, ?_⟩)
    exact hs.sub (sub_nil _)

end Go.Proofs.Ytknjphpfofbdiaa.G
