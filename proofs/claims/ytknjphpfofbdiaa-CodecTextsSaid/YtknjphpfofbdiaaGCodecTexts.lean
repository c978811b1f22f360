/- Printed by a program of this session (sx.py): plain functions, and walks that show that the code comes to them; no condition. -/
import Derived.Test.YtknjphpfofbdiaaProg
import Derived.Test.YtknjphpfofbdiaaSx
import Derived.Test.YtknjphpfofbdiaaGa
set_option linter.unusedVariables false
namespace Go.Proofs.Ytknjphpfofbdiaa.G
open Go Go.RowKit Go.Proofs.Ytknjphpfofbdiaa.Sx

/-! ### shadowbox/shadowboxlaw01.CodecTexts: function 7 -/
def shadowboxlaw01_CodecTexts.f (k : Nat) (l0 : List Int) (a1 : ByteArray) (a2 : Int) : Option (Bool) :=
  lt (IntKind.wrap .i64 ((l0.length : Int) + (a1.size : Int))) fun y1 => (if y1 > (3000 : Int) then some true else (codec_ReadText.f k l0 a2).bind fun t4 => (shadowboxref01_ReadText.f k l0 a2).bind fun t7 => (codec_Text.f k l0 a1).bind fun t10 => (shadowboxref01_Text.f k l0 a1).bind fun t13 => (if ((strOfNums t10).toList == (strOfNums t13).toList) = true then (if (t4.1.toList == t7.1.toList) = true then (if t4.2.1 = t7.2.1 then (if t4.2.2 = t7.2.2 then (codec_Zig.f k a2).bind fun t20 => (shadowboxref01_Zig.f k a2).bind fun t23 => (if t20 = t23 then (codec_Zig.f k (-1 : Int)).bind fun t27 => some (decide (t27 = (1 : Int))) else some false) else some false) else some false) else some false) else some false))
set_option maxRecDepth 100000 in
set_option maxHeartbeats 4000000 in
theorem shadowboxlaw01_CodecTexts.calls (k : Nat) (A0 : Option Addr) (c0 : Nat) (l0 : List Int) (a1 : ByteArray) (a2 : Int) (r : Bool) (w : World) (R0 : Rd w A0 (en (Value.int .u8) l0)) (C0 : l0.length ≤ c0) (H : shadowboxlaw01_CodecTexts.f k l0 a1 a2 = some r) :
    Calls Try.prog 7 #[.slice A0 l0.length c0, .string a1, .int .i64 a2] w fun e w' => ∃ x : Unit, e = .returned (.bool r) ∧ St w s0 w' := by
  unfold shadowboxlaw01_CodecTexts.f at H
  refine enter (n := 68) Try.func7 rfl (by kernel_rfl) (by kernel_rfl) ?_
  refine cs_seq ?_
  refine cs_region (l := [_]) ?_
  refine ls_val (v := .bool false) rfl rfl (by kernel_rfl) (fun w => by kernel_rfl) ?_
  refine ls_end ?_
  refine qn_then ?_
  refine cs_seq ?_
  refine cs_seq ?_
  refine cs_region (l := [_, _, _, _, _, _]) ?_
  refine ls_val (v := .slice A0 l0.length c0) rfl rfl (by kernel_rfl) (fun w => by kernel_rfl) ?_
  refine ls_val (v := .int .i64 (l0.length : Int)) rfl rfl (by kernel_rfl) (fun w => by kernel_rfl) ?_
  refine ls_val (v := .string a1) rfl rfl (by kernel_rfl) (fun w => by kernel_rfl) ?_
  refine ls_val (v := .int .i64 (a1.size : Int)) rfl rfl (by kernel_rfl) (fun w => by kernel_rfl) ?_
  obtain ⟨y1, hy2, H⟩ := lt_some H
  refine ls_val (v := .int .i64 (IntKind.wrap .i64 ((l0.length : Int) + (a1.size : Int)))) rfl rfl (by kernel_rfl) (fun w => by kernel_rfl) ?_
  refine ls_ren 17 (v := .int .i64 (IntKind.wrap .i64 ((l0.length : Int) + (a1.size : Int)))) (v' := .int .i64 y1) (by kernel_rfl) (by rw [hy2]) ?_
  refine ls_val (v := .bool (decide (y1 > (3000 : Int)))) rfl rfl (by kernel_rfl) (fun w => by kernel_rfl) ?_
  refine ls_end ?_
  refine qn_then ?_
  by_cases q3 : y1 > (3000 : Int)
  · replace H := ite_t q3 H
    refine cs_know (c := true) (dec_t q3) 18 (by kernel_rfl) ?_
    refine cs_true (by kernel_rfl) ?_
    refine cs_seq ?_
    refine cs_region (l := [_]) ?_
    refine ls_val (v := .bool true) rfl rfl (by kernel_rfl) (fun w => by kernel_rfl) ?_
    refine ls_end ?_
    refine qn_then ?_
    refine cs_ret' ?_
    refine qr_then ?_
    obtain rfl := Option.some.inj H
    refine qr_end1 rfl (fun w' hs => ⟨(), rfl, ?_⟩)
    exact hs.sub (sub_nil _)
  · replace H := ite_f q3 H
    refine cs_know (c := false) (dec_f q3) 18 (by kernel_rfl) ?_
    refine cs_false (by kernel_rfl) ?_
    refine cs_skip' ?_
    refine qn_then ?_
    refine cs_seq ?_
    refine cs_region (l := [_, _, _, _, _, _, _, _, _, _]) ?_
    refine ls_val (v := .slice A0 l0.length c0) rfl rfl (by kernel_rfl) (fun w => by kernel_rfl) ?_
    refine ls_val (v := .int .i64 a2) rfl rfl (by kernel_rfl) (fun w => by kernel_rfl) ?_
    obtain ⟨t4, hc5, H⟩ := bind_some H
    refine ls_call (fid := 19) (vals := #[.slice A0 l0.length c0, .int .i64 a2]) (X := Unit) (fun x => .tuple #[.string t4.1, .int .i64 t4.2.1, .int .i64 t4.2.2]) (fun x => s0) 0 rfl rfl (by kernel_rfl) (fun w => by kernel_rfl) (fun w hs => codec_ReadText.calls k A0 c0 l0 a2 t4 w (hs.old R0) C0 hc5) ?_
    intro x6
    refine ls_val (v := .tuple #[.string t4.1, .int .i64 t4.2.1, .int .i64 t4.2.2]) rfl rfl (by kernel_rfl) (fun w => by kernel_rfl) ?_
    refine ls_val (v := .string t4.1) rfl rfl (by kernel_rfl) (fun w => by kernel_rfl) ?_
    refine ls_val (v := .int .i64 t4.2.1) rfl rfl (by kernel_rfl) (fun w => by kernel_rfl) ?_
    refine ls_val (v := .int .i64 t4.2.2) rfl rfl (by kernel_rfl) (fun w => by kernel_rfl) ?_
    refine ls_val (v := .string t4.1) rfl rfl (by kernel_rfl) (fun w => by kernel_rfl) ?_
    refine ls_val (v := .int .i64 t4.2.1) rfl rfl (by kernel_rfl) (fun w => by kernel_rfl) ?_
    refine ls_val (v := .int .i64 t4.2.2) rfl rfl (by kernel_rfl) (fun w => by kernel_rfl) ?_
    refine ls_end ?_
    refine qn_then ?_
    refine cs_seq ?_
    refine cs_region (l := [_, _, _, _, _, _, _, _, _, _]) ?_
    refine ls_val (v := .slice A0 l0.length c0) rfl rfl (by kernel_rfl) (fun w => by kernel_rfl) ?_
    refine ls_val (v := .int .i64 a2) rfl rfl (by kernel_rfl) (fun w => by kernel_rfl) ?_
    obtain ⟨t7, hc8, H⟩ := bind_some H
    refine ls_call (fid := 20) (vals := #[.slice A0 l0.length c0, .int .i64 a2]) (X := Unit) (fun x => .tuple #[.string t7.1, .int .i64 t7.2.1, .int .i64 t7.2.2]) (fun x => s0) 0 rfl rfl (by kernel_rfl) (fun w => by kernel_rfl) (fun w hs => shadowboxref01_ReadText.calls k A0 c0 l0 a2 t7 w (hs.old R0) C0 hc8) ?_
    intro x9
    refine ls_val (v := .tuple #[.string t7.1, .int .i64 t7.2.1, .int .i64 t7.2.2]) rfl rfl (by kernel_rfl) (fun w => by kernel_rfl) ?_
    refine ls_val (v := .string t7.1) rfl rfl (by kernel_rfl) (fun w => by kernel_rfl) ?_
    refine ls_val (v := .int .i64 t7.2.1) rfl rfl (by kernel_rfl) (fun w => by kernel_rfl) ?_
    refine ls_val (v := .int .i64 t7.2.2) rfl rfl (by kernel_rfl) (fun w => by kernel_rfl) ?_
    refine ls_val (v := .string t7.1) rfl rfl (by kernel_rfl) (fun w => by kernel_rfl) ?_
    refine ls_val (v := .int .i64 t7.2.1) rfl rfl (by kernel_rfl) (fun w => by kernel_rfl) ?_
    refine ls_val (v := .int .i64 t7.2.2) rfl rfl (by kernel_rfl) (fun w => by kernel_rfl) ?_
    refine ls_end ?_
    refine qn_then ?_
    refine cs_seq ?_
    obtain ⟨t10, hc11, H⟩ := bind_some H
    obtain ⟨t13, hc14, H⟩ := bind_some H
    by_cases q16 : ((strOfNums t10).toList == (strOfNums t13).toList) = true
    · replace H := ite_t q16 H
      by_cases q17 : (t4.1.toList == t7.1.toList) = true
      · replace H := ite_t q17 H
        by_cases q18 : t4.2.1 = t7.2.1
        · replace H := ite_t q18 H
          by_cases q19 : t4.2.2 = t7.2.2
          · replace H := ite_t q19 H
            obtain ⟨t20, hc21, H⟩ := bind_some H
            refine cs_draw (l := [_, _, _, _, _, _, _, _, _, _, _, _, _, _, _, _, _, _, _, _, _, _, _, _, _, _, _, _, _, _, _, _, _, _, _, _]) [[], [], [0, 1], [0, 1, 2], [], [], [0, 1, 2, 4, 5], [0, 1, 2, 4, 5, 6], [0, 1, 2, 3, 4, 5, 6, 7], [0, 1, 2, 3, 4, 5, 6, 7, 8], [0, 1, 2, 3, 4, 5, 6, 7, 8, 9], [0, 1, 2, 3, 4, 5, 6, 7, 8, 9], [0, 1, 2, 3, 4, 5, 6, 7, 8, 9, 10, 11], [0, 1, 2, 3, 4, 5, 6, 7, 8, 9, 10, 11, 12], [0, 1, 2, 3, 4, 5, 6, 7, 8, 9, 10, 11, 12, 13], [0, 1, 2, 3, 4, 5, 6, 7, 8, 9, 10, 11, 12, 13, 14], [0, 1, 2, 3, 4, 5, 6, 7, 8, 9, 10, 11, 12, 13, 14], [0, 1, 2, 3, 4, 5, 6, 7, 8, 9, 10, 11, 12, 13, 14, 15, 16], [0, 1, 2, 3, 4, 5, 6, 7, 8, 9, 10, 11, 12, 13, 14, 15, 16, 17], [0, 1, 2, 3, 4, 5, 6, 7, 8, 9, 10, 11, 12, 13, 14, 15, 16, 17, 18], [0, 1, 2, 3, 4, 5, 6, 7, 8, 9, 10, 11, 12, 13, 14, 15, 16, 17, 18, 19], [0, 1, 2, 3, 4, 5, 6, 7, 8, 9, 10, 11, 12, 13, 14, 15, 16, 17, 18, 19], [0, 1, 2, 3, 4, 5, 6, 7, 8, 9, 10, 11, 12, 13, 14, 15, 16, 17, 18, 19, 20, 21], [0, 1, 2, 3, 4, 5, 6, 7, 8, 9, 10, 11, 12, 13, 14, 15, 16, 17, 18, 19, 20, 21, 22], [0, 1, 2, 3, 4, 5, 6, 7, 8, 9, 10, 11, 12, 13, 14, 15, 16, 17, 18, 19, 20, 21, 22, 23], [0, 1, 2, 3, 4, 5, 6, 7, 8, 9, 10, 11, 12, 13, 14, 15, 16, 17, 18, 19, 20, 21, 22, 23, 24], [0, 1, 2, 3, 4, 5, 6, 7, 8, 9, 10, 11, 12, 13, 14, 15, 16, 17, 18, 19, 20, 21, 22, 23, 24, 25], [0, 1, 2, 3, 4, 5, 6, 7, 8, 9, 10, 11, 12, 13, 14, 15, 16, 17, 18, 19, 20, 21, 22, 23, 24], [0, 1, 2, 3, 4, 5, 6, 7, 8, 9, 10, 11, 12, 13, 14, 15, 16, 17, 18, 19, 20, 21, 22, 23, 24, 25, 26, 27], [0, 1, 2, 3, 4, 5, 6, 7, 8, 9, 10, 11, 12, 13, 14, 15, 16, 17, 18, 19, 20, 21, 22, 23, 24, 25, 26, 27, 28], [0, 1, 2, 3, 4, 5, 6, 7, 8, 9, 10, 11, 12, 13, 14, 15, 16, 17, 18, 19, 20, 21, 22, 23, 24, 25, 26, 27, 28, 29], [0, 1, 2, 3, 4, 5, 6, 7, 8, 9, 10, 11, 12, 13, 14, 15, 16, 17, 18, 19, 20, 21, 22, 23, 24, 25, 26, 27, 28, 29, 30], [0, 1, 2, 3, 4, 5, 6, 7, 8, 9, 10, 11, 12, 13, 14, 15, 16, 17, 18, 19, 20, 21, 22, 23, 24, 25, 26, 27, 28, 29, 30, 31], [0, 1, 2, 3, 4, 5, 6, 7, 8, 9, 10, 11, 12, 13, 14, 15, 16, 17, 18, 19, 20, 21, 22, 23, 24, 25, 26, 27, 28, 29, 30, 31, 32], [0, 1, 2, 3, 4, 5, 6, 7, 8, 9, 10, 11, 12, 13, 14, 15, 16, 17, 18, 19, 20, 21, 22, 23, 24, 25, 26, 27, 28, 29, 30, 31, 32, 33], [0, 1, 2, 3, 4, 5, 6, 7, 8, 9, 10, 11, 12, 13, 14, 15, 16, 17, 18, 19, 20, 21, 22, 23, 24, 25, 26, 27, 28, 29, 30, 31, 32, 33, 34]] 28 0 (spl [fun v R => v = .slice A0 l0.length c0 ∧ R = s0, fun v R => v = .string a1 ∧ R = s0, fun v R => ∃ x12 : (Option Addr × Nat), v = .slice x12.1 t10.length x12.2 ∧ R = sput s0 0 (some (Ck.sl 5 (Value.int .u8) x12.1 x12.2 t10)), fun v R => v = .string (strOfNums t10) ∧ R = s0, fun v R => v = .slice A0 l0.length c0 ∧ R = s0, fun v R => v = .string a1 ∧ R = s0, fun v R => ∃ x15 : (Option Addr × Nat), v = .slice x15.1 t13.length x15.2 ∧ R = sput s0 0 (some (Ck.sl 5 (Value.int .u8) x15.1 x15.2 t13)), fun v R => v = .string (strOfNums t13) ∧ R = s0, fun v R => v = .bool true ∧ R = s0, fun v R => v = .bool true ∧ R = s0, fun v R => v = .string t4.1 ∧ R = s0, fun v R => v = .string t7.1 ∧ R = s0, fun v R => v = .bool true ∧ R = s0, fun v R => v = .bool true ∧ R = s0, fun v R => v = .bool true ∧ R = s0, fun v R => v = .int .i64 t4.2.1 ∧ R = s0, fun v R => v = .int .i64 t7.2.1 ∧ R = s0, fun v R => v = .bool true ∧ R = s0, fun v R => v = .bool true ∧ R = s0, fun v R => v = .bool true ∧ R = s0, fun v R => v = .int .i64 t4.2.2 ∧ R = s0, fun v R => v = .int .i64 t7.2.2 ∧ R = s0, fun v R => v = .bool true ∧ R = s0, fun v R => v = .bool true ∧ R = s0, fun v R => v = .bool true ∧ R = s0, fun v R => v = .int .i64 a2 ∧ R = s0, fun v R => ∃ x22 : Unit, v = .int .u64 t20 ∧ R = s0, fun v R => v = .int .i64 a2 ∧ R = s0]) (onl [true, true, true, true, true, true, true, true, true, true, true, true, true, true, true, true, true, true, true, true, true, true, true, true, true, true, true, true]) (by kernel_rfl) (by kernel_rfl) (by kernel_rfl) (by kernel_rfl) (rs := [_, _, _, _, _, _, _, _]) rfl (by kernel_rfl) (by kernel_rfl) ?_ ?_
            · refine all_snoc (all_snoc (all_snoc (all_snoc (all_snoc (all_snoc (all_snoc (all_snoc (all_snoc (all_snoc (all_snoc (all_snoc (all_snoc (all_snoc (all_snoc (all_snoc (all_snoc (all_snoc (all_snoc (all_snoc (all_snoc (all_snoc (all_snoc (all_snoc (all_snoc (all_snoc (all_snoc (all_snoc (all_nil) ?_) ?_) ?_) ?_) ?_) ?_) ?_) ?_) ?_) ?_) ?_) ?_) ?_) ?_) ?_) ?_) ?_) ?_) ?_) ?_) ?_) ?_) ?_) ?_) ?_) ?_) ?_) ?_
              · refine ⟨fun o ho vs Rs f' S' w hp hf hx hS hR hs => ?_⟩
                obtain rfl := Option.some.inj ho
                refine And.intro (want_none rfl) (And.intro (fun _ => ?_) (fun h => by cases h))
                have hF := fr_next (rfl) ((hx 0 (by kernel_rfl)).trans (by kernel_rfl : (_ : Value) = .slice A0 l0.length c0))
                refine ls_fr hF ?_
                refine ls_val (v := .slice A0 l0.length c0) rfl rfl (by kernel_rfl) (fun w => by kernel_rfl) ?_
                exact ls_fin s0 (.slice A0 l0.length c0) (congrArg (fun z => upd z 33 _) hF.symm) ⟨rfl, rfl⟩ (sub_nil _)
              · refine ⟨fun o ho vs Rs f' S' w hp hf hx hS hR hs => ?_⟩
                obtain rfl := Option.some.inj ho
                refine And.intro (want_none rfl) (And.intro (fun _ => ?_) (fun h => by cases h))
                have hF := fr_next (rfl) ((hx 1 (by kernel_rfl)).trans (by kernel_rfl : (_ : Value) = .string a1))
                refine ls_fr hF ?_
                refine ls_val (v := .string a1) rfl rfl (by kernel_rfl) (fun w => by kernel_rfl) ?_
                exact ls_fin s0 (.string a1) (congrArg (fun z => upd z 34 _) hF.symm) ⟨rfl, rfl⟩ (sub_nil _)
              · refine ⟨fun o ho vs Rs f' S' w hp hf hx hS hR hs => ?_⟩
                obtain rfl := Option.some.inj ho
                obtain ⟨hv0, hR0⟩ := hp 0 (by kernel_rfl)
                obtain ⟨hv1, hR1⟩ := hp 1 (by kernel_rfl)
                refine And.intro (want_none rfl) (And.intro (fun _ => ?_) (fun h => by cases h))
                have hF := fr_next (fr_next (rfl) ((hf 0 33 (by kernel_rfl) rfl).trans hv0)) ((hf 1 34 (by kernel_rfl) rfl).trans hv1)
                refine ls_fr hF ?_
                refine ls_call (fid := 21) (vals := #[.slice A0 l0.length c0, .string a1]) (X := (Option Addr × Nat)) (fun x => .slice x.1 t10.length x.2) (fun x => sput s0 0 (some (Ck.sl 5 (Value.int .u8) x.1 x.2 t10))) 0 rfl rfl (by kernel_rfl) (fun w => by kernel_rfl) (fun w1 hs1 => codec_Text.calls k A0 c0 l0 a1 t10 w1 (hs1.old (hs.old R0)) C0 hc11) ?_
                intro x12
                exact ls_fin (sput s0 0 (some (Ck.sl 5 (Value.int .u8) x12.1 x12.2 t10))) (.slice x12.1 t10.length x12.2) (congrArg (fun z => upd z 35 _) hF.symm) ⟨x12, rfl, rfl⟩ (sub_put (by exact rfl) (sub_nil _))
              · refine ⟨fun o ho vs Rs f' S' w hp hf hx hS hR hs => ?_⟩
                obtain rfl := Option.some.inj ho
                obtain ⟨x12, hv2, hR2⟩ := hp 2 (by kernel_rfl)
                have hT2_0 := (hR 2 0 (by kernel_rfl) (by decide)).trans (congrFun hR2 0)
                refine And.intro (want_none rfl) (And.intro (fun _ => ?_) (fun h => by cases h))
                have hF := fr_next (rfl) ((hf 2 35 (by kernel_rfl) rfl).trans hv2)
                refine ls_fr hF ?_
                refine ls_str (A := x12.1) (c := x12.2) (e := 5) (l := t10) rfl rfl (by kernel_rfl) rfl (by kernel_rfl) (by kernel_rfl) (by kernel_rfl) (by kernel_rfl) (fun w1 hs1 => (hs1.old (hs.rd (k := 16) hT2_0))) ?_
                exact ls_fin s0 (.string (strOfNums t10)) (congrArg (fun z => upd z 36 _) hF.symm) ⟨rfl, rfl⟩ (sub_nil _)
              · refine ⟨fun o ho vs Rs f' S' w hp hf hx hS hR hs => ?_⟩
                obtain rfl := Option.some.inj ho
                refine And.intro (want_none rfl) (And.intro (fun _ => ?_) (fun h => by cases h))
                have hF := fr_next (rfl) ((hx 0 (by kernel_rfl)).trans (by kernel_rfl : (_ : Value) = .slice A0 l0.length c0))
                refine ls_fr hF ?_
                refine ls_val (v := .slice A0 l0.length c0) rfl rfl (by kernel_rfl) (fun w => by kernel_rfl) ?_
                exact ls_fin s0 (.slice A0 l0.length c0) (congrArg (fun z => upd z 37 _) hF.symm) ⟨rfl, rfl⟩ (sub_nil _)
              · refine ⟨fun o ho vs Rs f' S' w hp hf hx hS hR hs => ?_⟩
                obtain rfl := Option.some.inj ho
                refine And.intro (want_none rfl) (And.intro (fun _ => ?_) (fun h => by cases h))
                have hF := fr_next (rfl) ((hx 1 (by kernel_rfl)).trans (by kernel_rfl : (_ : Value) = .string a1))
                refine ls_fr hF ?_
                refine ls_val (v := .string a1) rfl rfl (by kernel_rfl) (fun w => by kernel_rfl) ?_
                exact ls_fin s0 (.string a1) (congrArg (fun z => upd z 38 _) hF.symm) ⟨rfl, rfl⟩ (sub_nil _)
              · refine ⟨fun o ho vs Rs f' S' w hp hf hx hS hR hs => ?_⟩
                obtain rfl := Option.some.inj ho
                obtain ⟨hv4, hR4⟩ := hp 4 (by kernel_rfl)
                obtain ⟨hv5, hR5⟩ := hp 5 (by kernel_rfl)
                refine And.intro (want_none rfl) (And.intro (fun _ => ?_) (fun h => by cases h))
                have hF := fr_next (fr_next (rfl) ((hf 4 37 (by kernel_rfl) rfl).trans hv4)) ((hf 5 38 (by kernel_rfl) rfl).trans hv5)
                refine ls_fr hF ?_
                refine ls_call (fid := 22) (vals := #[.slice A0 l0.length c0, .string a1]) (X := (Option Addr × Nat)) (fun x => .slice x.1 t13.length x.2) (fun x => sput s0 0 (some (Ck.sl 5 (Value.int .u8) x.1 x.2 t13))) 0 rfl rfl (by kernel_rfl) (fun w => by kernel_rfl) (fun w1 hs1 => shadowboxref01_Text.calls k A0 c0 l0 a1 t13 w1 (hs1.old (hs.old R0)) C0 hc14) ?_
                intro x15
                exact ls_fin (sput s0 0 (some (Ck.sl 5 (Value.int .u8) x15.1 x15.2 t13))) (.slice x15.1 t13.length x15.2) (congrArg (fun z => upd z 39 _) hF.symm) ⟨x15, rfl, rfl⟩ (sub_put (by exact rfl) (sub_nil _))
              · refine ⟨fun o ho vs Rs f' S' w hp hf hx hS hR hs => ?_⟩
                obtain rfl := Option.some.inj ho
                obtain ⟨x15, hv6, hR6⟩ := hp 6 (by kernel_rfl)
                have hT6_0 := (hR 6 0 (by kernel_rfl) (by decide)).trans (congrFun hR6 0)
                refine And.intro (want_none rfl) (And.intro (fun _ => ?_) (fun h => by cases h))
                have hF := fr_next (rfl) ((hf 6 39 (by kernel_rfl) rfl).trans hv6)
                refine ls_fr hF ?_
                refine ls_str (A := x15.1) (c := x15.2) (e := 5) (l := t13) rfl rfl (by kernel_rfl) rfl (by kernel_rfl) (by kernel_rfl) (by kernel_rfl) (by kernel_rfl) (fun w1 hs1 => (hs1.old (hs.rd (k := 48) hT6_0))) ?_
                exact ls_fin s0 (.string (strOfNums t13)) (congrArg (fun z => upd z 40 _) hF.symm) ⟨rfl, rfl⟩ (sub_nil _)
              · refine ⟨fun o ho vs Rs f' S' w hp hf hx hS hR hs => ?_⟩
                obtain rfl := Option.some.inj ho
                obtain ⟨hv3, hR3⟩ := hp 3 (by kernel_rfl)
                obtain ⟨hv7, hR7⟩ := hp 7 (by kernel_rfl)
                refine And.intro (want_none rfl) (And.intro (fun _ => ?_) (fun h => by cases h))
                have hF := fr_next (fr_next (rfl) ((hf 3 36 (by kernel_rfl) rfl).trans hv3)) ((hf 7 40 (by kernel_rfl) rfl).trans hv7)
                refine ls_fr hF ?_
                refine ls_val (v := .bool ((strOfNums t10).toList == (strOfNums t13).toList)) rfl rfl (by kernel_rfl) (fun w => by kernel_rfl) ?_
                refine ls_ren 41 (v := .bool ((strOfNums t10).toList == (strOfNums t13).toList)) (v' := .bool true) (by kernel_rfl) (congrArg Value.bool (show ((strOfNums t10).toList == (strOfNums t13).toList) = true from q16)) ?_
                exact ls_fin s0 (.bool true) ((upd_upd _ _ _ _).trans (congrArg (fun z => upd z 41 _) hF.symm)) ⟨rfl, rfl⟩ (sub_nil _)
              · refine ⟨fun o ho vs Rs f' S' w hp hf hx hS hR hs => ?_⟩
                obtain rfl := Option.some.inj ho
                obtain ⟨hv8, hR8⟩ := hp 8 (by kernel_rfl)
                refine And.intro (want_none rfl) (And.intro (fun _ => ?_) (fun h => by cases h))
                have hF := fr_next (rfl) ((hf 8 41 (by kernel_rfl) rfl).trans hv8)
                refine ls_fr hF ?_
                refine ls_val (v := .bool true) rfl rfl (by kernel_rfl) (fun w => by kernel_rfl) ?_
                exact ls_fin s0 (.bool true) (congrArg (fun z => upd z 42 _) hF.symm) ⟨rfl, rfl⟩ (sub_nil _)
              · refine ⟨fun o ho vs Rs f' S' w hp hf hx hS hR hs => ?_⟩
                obtain rfl := Option.some.inj ho
                obtain ⟨hv9, hR9⟩ := hp 9 (by kernel_rfl)
                refine And.intro (want_is (j := 9) (t := 42) rfl rfl (by kernel_rfl) ((hf 9 42 (by kernel_rfl) rfl).trans hv9) rfl) (And.intro (fun _ => ?_) (fun h => by cases h))
                have hF := fr_next (fr_next (rfl) ((hx 7 (by kernel_rfl)).trans (by kernel_rfl : (_ : Value) = .string t4.1))) ((hf 9 42 (by kernel_rfl) rfl).trans hv9)
                refine ls_fr hF ?_
                refine ls_val (v := .string t4.1) rfl rfl (by kernel_rfl) (fun w => by kernel_rfl) ?_
                exact ls_fin s0 (.string t4.1) (congrArg (fun z => upd z 43 _) hF.symm) ⟨rfl, rfl⟩ (sub_nil _)
              · refine ⟨fun o ho vs Rs f' S' w hp hf hx hS hR hs => ?_⟩
                obtain rfl := Option.some.inj ho
                obtain ⟨hv9, hR9⟩ := hp 9 (by kernel_rfl)
                refine And.intro (want_is (j := 9) (t := 42) rfl rfl (by kernel_rfl) ((hf 9 42 (by kernel_rfl) rfl).trans hv9) rfl) (And.intro (fun _ => ?_) (fun h => by cases h))
                have hF := fr_next (fr_next (rfl) ((hx 10 (by kernel_rfl)).trans (by kernel_rfl : (_ : Value) = .string t7.1))) ((hf 9 42 (by kernel_rfl) rfl).trans hv9)
                refine ls_fr hF ?_
                refine ls_val (v := .string t7.1) rfl rfl (by kernel_rfl) (fun w => by kernel_rfl) ?_
                exact ls_fin s0 (.string t7.1) (congrArg (fun z => upd z 44 _) hF.symm) ⟨rfl, rfl⟩ (sub_nil _)
              · refine ⟨fun o ho vs Rs f' S' w hp hf hx hS hR hs => ?_⟩
                obtain rfl := Option.some.inj ho
                obtain ⟨hv9, hR9⟩ := hp 9 (by kernel_rfl)
                obtain ⟨hv10, hR10⟩ := hp 10 (by kernel_rfl)
                obtain ⟨hv11, hR11⟩ := hp 11 (by kernel_rfl)
                refine And.intro (want_is (j := 9) (t := 42) rfl rfl (by kernel_rfl) ((hf 9 42 (by kernel_rfl) rfl).trans hv9) rfl) (And.intro (fun _ => ?_) (fun h => by cases h))
                have hF := fr_next (fr_next (fr_next (rfl) ((hf 9 42 (by kernel_rfl) rfl).trans hv9)) ((hf 10 43 (by kernel_rfl) rfl).trans hv10)) ((hf 11 44 (by kernel_rfl) rfl).trans hv11)
                refine ls_fr hF ?_
                refine ls_val (v := .bool (t4.1.toList == t7.1.toList)) rfl rfl (by kernel_rfl) (fun w => by kernel_rfl) ?_
                refine ls_ren 45 (v := .bool (t4.1.toList == t7.1.toList)) (v' := .bool true) (by kernel_rfl) (congrArg Value.bool (show (t4.1.toList == t7.1.toList) = true from q17)) ?_
                exact ls_fin s0 (.bool true) ((upd_upd _ _ _ _).trans (congrArg (fun z => upd z 45 _) hF.symm)) ⟨rfl, rfl⟩ (sub_nil _)
              · refine ⟨fun o ho vs Rs f' S' w hp hf hx hS hR hs => ?_⟩
                obtain rfl := Option.some.inj ho
                obtain ⟨hv9, hR9⟩ := hp 9 (by kernel_rfl)
                obtain ⟨hv12, hR12⟩ := hp 12 (by kernel_rfl)
                refine And.intro (want_none rfl) (And.intro (fun _ => ?_) (fun h => by cases h))
                have hF := fr_next (fr_next (rfl) ((hf 9 42 (by kernel_rfl) rfl).trans hv9)) ((hf 12 45 (by kernel_rfl) rfl).trans hv12)
                refine ls_fr hF ?_
                refine ls_val (v := .bool true) rfl rfl (by kernel_rfl) (fun w => by kernel_rfl) ?_
                exact ls_fin s0 (.bool true) (congrArg (fun z => upd z 46 _) hF.symm) ⟨rfl, rfl⟩ (sub_nil _)
              · refine ⟨fun o ho vs Rs f' S' w hp hf hx hS hR hs => ?_⟩
                obtain rfl := Option.some.inj ho
                obtain ⟨hv13, hR13⟩ := hp 13 (by kernel_rfl)
                refine And.intro (want_none rfl) (And.intro (fun _ => ?_) (fun h => by cases h))
                have hF := fr_next (rfl) ((hf 13 46 (by kernel_rfl) rfl).trans hv13)
                refine ls_fr hF ?_
                refine ls_val (v := .bool true) rfl rfl (by kernel_rfl) (fun w => by kernel_rfl) ?_
                exact ls_fin s0 (.bool true) (congrArg (fun z => upd z 47 _) hF.symm) ⟨rfl, rfl⟩ (sub_nil _)
              · refine ⟨fun o ho vs Rs f' S' w hp hf hx hS hR hs => ?_⟩
                obtain rfl := Option.some.inj ho
                obtain ⟨hv14, hR14⟩ := hp 14 (by kernel_rfl)
                refine And.intro (want_is (j := 14) (t := 47) rfl rfl (by kernel_rfl) ((hf 14 47 (by kernel_rfl) rfl).trans hv14) rfl) (And.intro (fun _ => ?_) (fun h => by cases h))
                have hF := fr_next (fr_next (rfl) ((hx 8 (by kernel_rfl)).trans (by kernel_rfl : (_ : Value) = .int .i64 t4.2.1))) ((hf 14 47 (by kernel_rfl) rfl).trans hv14)
                refine ls_fr hF ?_
                refine ls_val (v := .int .i64 t4.2.1) rfl rfl (by kernel_rfl) (fun w => by kernel_rfl) ?_
                exact ls_fin s0 (.int .i64 t4.2.1) (congrArg (fun z => upd z 48 _) hF.symm) ⟨rfl, rfl⟩ (sub_nil _)
              · refine ⟨fun o ho vs Rs f' S' w hp hf hx hS hR hs => ?_⟩
                obtain rfl := Option.some.inj ho
                obtain ⟨hv14, hR14⟩ := hp 14 (by kernel_rfl)
                refine And.intro (want_is (j := 14) (t := 47) rfl rfl (by kernel_rfl) ((hf 14 47 (by kernel_rfl) rfl).trans hv14) rfl) (And.intro (fun _ => ?_) (fun h => by cases h))
                have hF := fr_next (fr_next (rfl) ((hx 11 (by kernel_rfl)).trans (by kernel_rfl : (_ : Value) = .int .i64 t7.2.1))) ((hf 14 47 (by kernel_rfl) rfl).trans hv14)
                refine ls_fr hF ?_
                refine ls_val (v := .int .i64 t7.2.1) rfl rfl (by kernel_rfl) (fun w => by kernel_rfl) ?_
                exact ls_fin s0 (.int .i64 t7.2.1) (congrArg (fun z => upd z 49 _) hF.symm) ⟨rfl, rfl⟩ (sub_nil _)
              · refine ⟨fun o ho vs Rs f' S' w hp hf hx hS hR hs => ?_⟩
                obtain rfl := Option.some.inj ho
                obtain ⟨hv14, hR14⟩ := hp 14 (by kernel_rfl)
                obtain ⟨hv15, hR15⟩ := hp 15 (by kernel_rfl)
                obtain ⟨hv16, hR16⟩ := hp 16 (by kernel_rfl)
                refine And.intro (want_is (j := 14) (t := 47) rfl rfl (by kernel_rfl) ((hf 14 47 (by kernel_rfl) rfl).trans hv14) rfl) (And.intro (fun _ => ?_) (fun h => by cases h))
                have hF := fr_next (fr_next (fr_next (rfl) ((hf 14 47 (by kernel_rfl) rfl).trans hv14)) ((hf 15 48 (by kernel_rfl) rfl).trans hv15)) ((hf 16 49 (by kernel_rfl) rfl).trans hv16)
                refine ls_fr hF ?_
                refine ls_val (v := .bool (decide (t4.2.1 = t7.2.1))) rfl rfl (by kernel_rfl) (fun w => by kernel_rfl) ?_
                refine ls_ren 50 (v := .bool (decide (t4.2.1 = t7.2.1))) (v' := .bool true) (by kernel_rfl) (congrArg Value.bool (show (decide (t4.2.1 = t7.2.1)) = true from dec_t q18)) ?_
                exact ls_fin s0 (.bool true) ((upd_upd _ _ _ _).trans (congrArg (fun z => upd z 50 _) hF.symm)) ⟨rfl, rfl⟩ (sub_nil _)
              · refine ⟨fun o ho vs Rs f' S' w hp hf hx hS hR hs => ?_⟩
                obtain rfl := Option.some.inj ho
                obtain ⟨hv14, hR14⟩ := hp 14 (by kernel_rfl)
                obtain ⟨hv17, hR17⟩ := hp 17 (by kernel_rfl)
                refine And.intro (want_none rfl) (And.intro (fun _ => ?_) (fun h => by cases h))
                have hF := fr_next (fr_next (rfl) ((hf 14 47 (by kernel_rfl) rfl).trans hv14)) ((hf 17 50 (by kernel_rfl) rfl).trans hv17)
                refine ls_fr hF ?_
                refine ls_val (v := .bool true) rfl rfl (by kernel_rfl) (fun w => by kernel_rfl) ?_
                exact ls_fin s0 (.bool true) (congrArg (fun z => upd z 51 _) hF.symm) ⟨rfl, rfl⟩ (sub_nil _)
              · refine ⟨fun o ho vs Rs f' S' w hp hf hx hS hR hs => ?_⟩
                obtain rfl := Option.some.inj ho
                obtain ⟨hv18, hR18⟩ := hp 18 (by kernel_rfl)
                refine And.intro (want_none rfl) (And.intro (fun _ => ?_) (fun h => by cases h))
                have hF := fr_next (rfl) ((hf 18 51 (by kernel_rfl) rfl).trans hv18)
                refine ls_fr hF ?_
                refine ls_val (v := .bool true) rfl rfl (by kernel_rfl) (fun w => by kernel_rfl) ?_
                exact ls_fin s0 (.bool true) (congrArg (fun z => upd z 52 _) hF.symm) ⟨rfl, rfl⟩ (sub_nil _)
              · refine ⟨fun o ho vs Rs f' S' w hp hf hx hS hR hs => ?_⟩
                obtain rfl := Option.some.inj ho
                obtain ⟨hv19, hR19⟩ := hp 19 (by kernel_rfl)
                refine And.intro (want_is (j := 19) (t := 52) rfl rfl (by kernel_rfl) ((hf 19 52 (by kernel_rfl) rfl).trans hv19) rfl) (And.intro (fun _ => ?_) (fun h => by cases h))
                have hF := fr_next (fr_next (rfl) ((hx 9 (by kernel_rfl)).trans (by kernel_rfl : (_ : Value) = .int .i64 t4.2.2))) ((hf 19 52 (by kernel_rfl) rfl).trans hv19)
                refine ls_fr hF ?_
                refine ls_val (v := .int .i64 t4.2.2) rfl rfl (by kernel_rfl) (fun w => by kernel_rfl) ?_
                exact ls_fin s0 (.int .i64 t4.2.2) (congrArg (fun z => upd z 53 _) hF.symm) ⟨rfl, rfl⟩ (sub_nil _)
              · refine ⟨fun o ho vs Rs f' S' w hp hf hx hS hR hs => ?_⟩
                obtain rfl := Option.some.inj ho
                obtain ⟨hv19, hR19⟩ := hp 19 (by kernel_rfl)
                refine And.intro (want_is (j := 19) (t := 52) rfl rfl (by kernel_rfl) ((hf 19 52 (by kernel_rfl) rfl).trans hv19) rfl) (And.intro (fun _ => ?_) (fun h => by cases h))
                have hF := fr_next (fr_next (rfl) ((hx 12 (by kernel_rfl)).trans (by kernel_rfl : (_ : Value) = .int .i64 t7.2.2))) ((hf 19 52 (by kernel_rfl) rfl).trans hv19)
                refine ls_fr hF ?_
                refine ls_val (v := .int .i64 t7.2.2) rfl rfl (by kernel_rfl) (fun w => by kernel_rfl) ?_
                exact ls_fin s0 (.int .i64 t7.2.2) (congrArg (fun z => upd z 54 _) hF.symm) ⟨rfl, rfl⟩ (sub_nil _)
              · refine ⟨fun o ho vs Rs f' S' w hp hf hx hS hR hs => ?_⟩
                obtain rfl := Option.some.inj ho
                obtain ⟨hv19, hR19⟩ := hp 19 (by kernel_rfl)
                obtain ⟨hv20, hR20⟩ := hp 20 (by kernel_rfl)
                obtain ⟨hv21, hR21⟩ := hp 21 (by kernel_rfl)
                refine And.intro (want_is (j := 19) (t := 52) rfl rfl (by kernel_rfl) ((hf 19 52 (by kernel_rfl) rfl).trans hv19) rfl) (And.intro (fun _ => ?_) (fun h => by cases h))
                have hF := fr_next (fr_next (fr_next (rfl) ((hf 19 52 (by kernel_rfl) rfl).trans hv19)) ((hf 20 53 (by kernel_rfl) rfl).trans hv20)) ((hf 21 54 (by kernel_rfl) rfl).trans hv21)
                refine ls_fr hF ?_
                refine ls_val (v := .bool (decide (t4.2.2 = t7.2.2))) rfl rfl (by kernel_rfl) (fun w => by kernel_rfl) ?_
                refine ls_ren 55 (v := .bool (decide (t4.2.2 = t7.2.2))) (v' := .bool true) (by kernel_rfl) (congrArg Value.bool (show (decide (t4.2.2 = t7.2.2)) = true from dec_t q19)) ?_
                exact ls_fin s0 (.bool true) ((upd_upd _ _ _ _).trans (congrArg (fun z => upd z 55 _) hF.symm)) ⟨rfl, rfl⟩ (sub_nil _)
              · refine ⟨fun o ho vs Rs f' S' w hp hf hx hS hR hs => ?_⟩
                obtain rfl := Option.some.inj ho
                obtain ⟨hv19, hR19⟩ := hp 19 (by kernel_rfl)
                obtain ⟨hv22, hR22⟩ := hp 22 (by kernel_rfl)
                refine And.intro (want_none rfl) (And.intro (fun _ => ?_) (fun h => by cases h))
                have hF := fr_next (fr_next (rfl) ((hf 19 52 (by kernel_rfl) rfl).trans hv19)) ((hf 22 55 (by kernel_rfl) rfl).trans hv22)
                refine ls_fr hF ?_
                refine ls_val (v := .bool true) rfl rfl (by kernel_rfl) (fun w => by kernel_rfl) ?_
                exact ls_fin s0 (.bool true) (congrArg (fun z => upd z 56 _) hF.symm) ⟨rfl, rfl⟩ (sub_nil _)
              · refine ⟨fun o ho vs Rs f' S' w hp hf hx hS hR hs => ?_⟩
                obtain rfl := Option.some.inj ho
                obtain ⟨hv23, hR23⟩ := hp 23 (by kernel_rfl)
                refine And.intro (want_none rfl) (And.intro (fun _ => ?_) (fun h => by cases h))
                have hF := fr_next (rfl) ((hf 23 56 (by kernel_rfl) rfl).trans hv23)
                refine ls_fr hF ?_
                refine ls_val (v := .bool true) rfl rfl (by kernel_rfl) (fun w => by kernel_rfl) ?_
                exact ls_fin s0 (.bool true) (congrArg (fun z => upd z 57 _) hF.symm) ⟨rfl, rfl⟩ (sub_nil _)
              · refine ⟨fun o ho vs Rs f' S' w hp hf hx hS hR hs => ?_⟩
                obtain rfl := Option.some.inj ho
                obtain ⟨hv24, hR24⟩ := hp 24 (by kernel_rfl)
                refine And.intro (want_is (j := 24) (t := 57) rfl rfl (by kernel_rfl) ((hf 24 57 (by kernel_rfl) rfl).trans hv24) rfl) (And.intro (fun _ => ?_) (fun h => by cases h))
                have hF := fr_next (fr_next (rfl) ((hx 2 (by kernel_rfl)).trans (by kernel_rfl : (_ : Value) = .int .i64 a2))) ((hf 24 57 (by kernel_rfl) rfl).trans hv24)
                refine ls_fr hF ?_
                refine ls_val (v := .int .i64 a2) rfl rfl (by kernel_rfl) (fun w => by kernel_rfl) ?_
                exact ls_fin s0 (.int .i64 a2) (congrArg (fun z => upd z 58 _) hF.symm) ⟨rfl, rfl⟩ (sub_nil _)
              · refine ⟨fun o ho vs Rs f' S' w hp hf hx hS hR hs => ?_⟩
                obtain rfl := Option.some.inj ho
                obtain ⟨hv24, hR24⟩ := hp 24 (by kernel_rfl)
                obtain ⟨hv25, hR25⟩ := hp 25 (by kernel_rfl)
                refine And.intro (want_is (j := 24) (t := 57) rfl rfl (by kernel_rfl) ((hf 24 57 (by kernel_rfl) rfl).trans hv24) rfl) (And.intro (fun _ => ?_) (fun h => by cases h))
                have hF := fr_next (fr_next (rfl) ((hf 24 57 (by kernel_rfl) rfl).trans hv24)) ((hf 25 58 (by kernel_rfl) rfl).trans hv25)
                refine ls_fr hF ?_
                refine ls_call (fid := 9) (vals := #[.int .i64 a2]) (X := Unit) (fun x => .int .u64 t20) (fun x => s0) 0 rfl rfl (by kernel_rfl) (fun w => by kernel_rfl) (fun w1 hs1 => codec_Zig.calls k a2 t20 w1  hc21) ?_
                intro x22
                exact ls_fin (s0) (.int .u64 t20) (congrArg (fun z => upd z 59 _) hF.symm) ⟨x22, rfl, rfl⟩ (sub_nil _)
              · refine ⟨fun o ho vs Rs f' S' w hp hf hx hS hR hs => ?_⟩
                obtain rfl := Option.some.inj ho
                obtain ⟨hv24, hR24⟩ := hp 24 (by kernel_rfl)
                refine And.intro (want_is (j := 24) (t := 57) rfl rfl (by kernel_rfl) ((hf 24 57 (by kernel_rfl) rfl).trans hv24) rfl) (And.intro (fun _ => ?_) (fun h => by cases h))
                have hF := fr_next (fr_next (rfl) ((hx 2 (by kernel_rfl)).trans (by kernel_rfl : (_ : Value) = .int .i64 a2))) ((hf 24 57 (by kernel_rfl) rfl).trans hv24)
                refine ls_fr hF ?_
                refine ls_val (v := .int .i64 a2) rfl rfl (by kernel_rfl) (fun w => by kernel_rfl) ?_
                exact ls_fin s0 (.int .i64 a2) (congrArg (fun z => upd z 60 _) hF.symm) ⟨rfl, rfl⟩ (sub_nil _)
            · intro vs Rs f' S' hp hf hx hS hR
              obtain ⟨x12, hv2, hR2⟩ := hp 2 (by kernel_rfl)
              have hT2_0 := (hR 2 0 (by kernel_rfl) (by decide)).trans (congrFun hR2 0)
              obtain ⟨x15, hv6, hR6⟩ := hp 6 (by kernel_rfl)
              have hT6_0 := (hR 6 0 (by kernel_rfl) (by decide)).trans (congrFun hR6 0)
              obtain ⟨hv24, hR24⟩ := hp 24 (by kernel_rfl)
              obtain ⟨x22, hv26, hR26⟩ := hp 26 (by kernel_rfl)
              obtain ⟨hv27, hR27⟩ := hp 27 (by kernel_rfl)
              refine ls_fr (F := upd (upd (upd f' 57 (.bool true)) 59 (.int .u64 t20)) 60 (.int .i64 a2)) (fr_next (fr_next (fr_next (rfl) ((hf 24 57 (by kernel_rfl) rfl).trans hv24)) ((hf 26 59 (by kernel_rfl) rfl).trans hv26)) ((hf 27 60 (by kernel_rfl) rfl).trans hv27)) ?_
              refine ls_sub (s0) (sub_nil _) ?_
              refine ls_on (j := 24) (t := 57) (b := true) rfl rfl (by kernel_rfl) (by kernel_rfl) ?_
              obtain ⟨t23, hc24, H⟩ := bind_some H
              refine ls_call (fid := 23) (vals := #[.int .i64 a2]) (X := Unit) (fun x => .int .u64 t23) (fun x => s0) 224 rfl rfl (by kernel_rfl) (fun w => by kernel_rfl) (fun w hs => shadowboxref01_Zig.calls k a2 t23 w  hc24) ?_
              intro x25
              refine ls_on (j := 24) (t := 57) (b := true) rfl rfl (by kernel_rfl) (by kernel_rfl) ?_
              refine ls_val (v := .bool (decide (t20 = t23))) rfl rfl (by kernel_rfl) (fun w => by kernel_rfl) ?_
              refine ls_val (v := .bool (decide (t20 = t23))) rfl rfl (by kernel_rfl) (fun w => by kernel_rfl) ?_
              refine ls_val (v := .bool (decide (t20 = t23))) rfl rfl (by kernel_rfl) (fun w => by kernel_rfl) ?_
              by_cases q26 : t20 = t23
              · replace H := ite_t q26 H
                refine ls_know (c := true) (dec_t q26) 64 (by kernel_rfl) ?_
                refine ls_on (j := 31) (t := 64) (b := true) rfl rfl (by kernel_rfl) (by kernel_rfl) ?_
                obtain ⟨t27, hc28, H⟩ := bind_some H
                refine ls_call (fid := 9) (vals := #[.int .i64 (-1 : Int)]) (X := Unit) (fun x => .int .u64 t27) (fun x => s0) 224 rfl rfl (by kernel_rfl) (fun w => by kernel_rfl) (fun w hs => codec_Zig.calls k (-1 : Int) t27 w  hc28) ?_
                intro x29
                refine ls_on (j := 31) (t := 64) (b := true) rfl rfl (by kernel_rfl) (by kernel_rfl) ?_
                refine ls_val (v := .bool (decide (t27 = (1 : Int)))) rfl rfl (by kernel_rfl) (fun w => by kernel_rfl) ?_
                refine ls_val (v := .bool (decide (t27 = (1 : Int)))) rfl rfl (by kernel_rfl) (fun w => by kernel_rfl) ?_
                refine ls_val (v := .bool (decide (t27 = (1 : Int)))) rfl rfl (by kernel_rfl) (fun w => by kernel_rfl) ?_
                refine ls_end ?_
                refine qn_then ?_
                refine cs_ret' ?_
                obtain rfl := Option.some.inj H
                refine qr_end1 rfl (fun w' hs => ⟨(), rfl, ?_⟩)
                exact hs.sub (sub_nil _)
              · replace H := ite_f q26 H
                refine ls_know (c := false) (dec_f q26) 64 (by kernel_rfl) ?_
                refine ls_off (j := 31) (t := 64) (b := true) (c := false) rfl rfl (by kernel_rfl) (by kernel_rfl) rfl rfl (by kernel_rfl) ?_
                refine ls_off (j := 31) (t := 64) (b := true) (c := false) rfl rfl (by kernel_rfl) (by kernel_rfl) rfl rfl (by kernel_rfl) ?_
                refine ls_val (v := .bool false) rfl rfl (by kernel_rfl) (fun w => by kernel_rfl) ?_
                refine ls_val (v := .bool false) rfl rfl (by kernel_rfl) (fun w => by kernel_rfl) ?_
                refine ls_end ?_
                refine qn_then ?_
                refine cs_ret' ?_
                obtain rfl := Option.some.inj H
                refine qr_end1 rfl (fun w' hs => ⟨(), rfl, ?_⟩)
                exact hs.sub (sub_nil _)
          · replace H := ite_f q19 H
            refine cs_draw (l := [_, _, _, _, _, _, _, _, _, _, _, _, _, _, _, _, _, _, _, _, _, _, _, _, _, _, _, _, _, _, _, _, _, _, _, _]) [[], [], [0, 1], [0, 1, 2], [], [], [0, 1, 2, 4, 5], [0, 1, 2, 4, 5, 6], [0, 1, 2, 3, 4, 5, 6, 7], [0, 1, 2, 3, 4, 5, 6, 7, 8], [0, 1, 2, 3, 4, 5, 6, 7, 8, 9], [0, 1, 2, 3, 4, 5, 6, 7, 8, 9], [0, 1, 2, 3, 4, 5, 6, 7, 8, 9, 10, 11], [0, 1, 2, 3, 4, 5, 6, 7, 8, 9, 10, 11, 12], [0, 1, 2, 3, 4, 5, 6, 7, 8, 9, 10, 11, 12, 13], [0, 1, 2, 3, 4, 5, 6, 7, 8, 9, 10, 11, 12, 13, 14], [0, 1, 2, 3, 4, 5, 6, 7, 8, 9, 10, 11, 12, 13, 14], [0, 1, 2, 3, 4, 5, 6, 7, 8, 9, 10, 11, 12, 13, 14, 15, 16], [0, 1, 2, 3, 4, 5, 6, 7, 8, 9, 10, 11, 12, 13, 14, 15, 16, 17], [0, 1, 2, 3, 4, 5, 6, 7, 8, 9, 10, 11, 12, 13, 14, 15, 16, 17, 18], [0, 1, 2, 3, 4, 5, 6, 7, 8, 9, 10, 11, 12, 13, 14, 15, 16, 17, 18, 19], [0, 1, 2, 3, 4, 5, 6, 7, 8, 9, 10, 11, 12, 13, 14, 15, 16, 17, 18, 19], [0, 1, 2, 3, 4, 5, 6, 7, 8, 9, 10, 11, 12, 13, 14, 15, 16, 17, 18, 19, 20, 21], [0, 1, 2, 3, 4, 5, 6, 7, 8, 9, 10, 11, 12, 13, 14, 15, 16, 17, 18, 19, 20, 21, 22], [0, 1, 2, 3, 4, 5, 6, 7, 8, 9, 10, 11, 12, 13, 14, 15, 16, 17, 18, 19, 20, 21, 22, 23], [0, 1, 2, 3, 4, 5, 6, 7, 8, 9, 10, 11, 12, 13, 14, 15, 16, 17, 18, 19, 20, 21, 22, 23, 24], [0, 1, 2, 3, 4, 5, 6, 7, 8, 9, 10, 11, 12, 13, 14, 15, 16, 17, 18, 19, 20, 21, 22, 23, 24, 25], [0, 1, 2, 3, 4, 5, 6, 7, 8, 9, 10, 11, 12, 13, 14, 15, 16, 17, 18, 19, 20, 21, 22, 23, 24], [0, 1, 2, 3, 4, 5, 6, 7, 8, 9, 10, 11, 12, 13, 14, 15, 16, 17, 18, 19, 20, 21, 22, 23, 24, 25, 26, 27], [0, 1, 2, 3, 4, 5, 6, 7, 8, 9, 10, 11, 12, 13, 14, 15, 16, 17, 18, 19, 20, 21, 22, 23, 24, 25, 26, 27, 28], [0, 1, 2, 3, 4, 5, 6, 7, 8, 9, 10, 11, 12, 13, 14, 15, 16, 17, 18, 19, 20, 21, 22, 23, 24, 25, 26, 27, 28, 29], [0, 1, 2, 3, 4, 5, 6, 7, 8, 9, 10, 11, 12, 13, 14, 15, 16, 17, 18, 19, 20, 21, 22, 23, 24, 25, 26, 27, 28, 29, 30], [0, 1, 2, 3, 4, 5, 6, 7, 8, 9, 10, 11, 12, 13, 14, 15, 16, 17, 18, 19, 20, 21, 22, 23, 24, 25, 26, 27, 28, 29, 30, 31], [0, 1, 2, 3, 4, 5, 6, 7, 8, 9, 10, 11, 12, 13, 14, 15, 16, 17, 18, 19, 20, 21, 22, 23, 24, 25, 26, 27, 28, 29, 30, 31, 32], [0, 1, 2, 3, 4, 5, 6, 7, 8, 9, 10, 11, 12, 13, 14, 15, 16, 17, 18, 19, 20, 21, 22, 23, 24, 25, 26, 27, 28, 29, 30, 31, 32, 33], [0, 1, 2, 3, 4, 5, 6, 7, 8, 9, 10, 11, 12, 13, 14, 15, 16, 17, 18, 19, 20, 21, 22, 23, 24, 25, 26, 27, 28, 29, 30, 31, 32, 33, 34]] 28 0 (spl [fun v R => v = .slice A0 l0.length c0 ∧ R = s0, fun v R => v = .string a1 ∧ R = s0, fun v R => ∃ x12 : (Option Addr × Nat), v = .slice x12.1 t10.length x12.2 ∧ R = sput s0 0 (some (Ck.sl 5 (Value.int .u8) x12.1 x12.2 t10)), fun v R => v = .string (strOfNums t10) ∧ R = s0, fun v R => v = .slice A0 l0.length c0 ∧ R = s0, fun v R => v = .string a1 ∧ R = s0, fun v R => ∃ x15 : (Option Addr × Nat), v = .slice x15.1 t13.length x15.2 ∧ R = sput s0 0 (some (Ck.sl 5 (Value.int .u8) x15.1 x15.2 t13)), fun v R => v = .string (strOfNums t13) ∧ R = s0, fun v R => v = .bool true ∧ R = s0, fun v R => v = .bool true ∧ R = s0, fun v R => v = .string t4.1 ∧ R = s0, fun v R => v = .string t7.1 ∧ R = s0, fun v R => v = .bool true ∧ R = s0, fun v R => v = .bool true ∧ R = s0, fun v R => v = .bool true ∧ R = s0, fun v R => v = .int .i64 t4.2.1 ∧ R = s0, fun v R => v = .int .i64 t7.2.1 ∧ R = s0, fun v R => v = .bool true ∧ R = s0, fun v R => v = .bool true ∧ R = s0, fun v R => v = .bool true ∧ R = s0, fun v R => v = .int .i64 t4.2.2 ∧ R = s0, fun v R => v = .int .i64 t7.2.2 ∧ R = s0, fun v R => v = .bool false ∧ R = s0, fun v R => v = .bool false ∧ R = s0, fun v R => v = .bool false ∧ R = s0, fun v R => v = undef ∧ R = s0, fun v R => v = undef ∧ R = s0, fun v R => v = undef ∧ R = s0]) (onl [true, true, true, true, true, true, true, true, true, true, true, true, true, true, true, true, true, true, true, true, true, true, true, true, true, false, false, false]) (by kernel_rfl) (by kernel_rfl) (by kernel_rfl) (by kernel_rfl) (rs := [_, _, _, _, _, _, _, _]) rfl (by kernel_rfl) (by kernel_rfl) ?_ ?_
            · refine all_snoc (all_snoc (all_snoc (all_snoc (all_snoc (all_snoc (all_snoc (all_snoc (all_snoc (all_snoc (all_snoc (all_snoc (all_snoc (all_snoc (all_snoc (all_snoc (all_snoc (all_snoc (all_snoc (all_snoc (all_snoc (all_snoc (all_snoc (all_snoc (all_snoc (all_snoc (all_snoc (all_snoc (all_nil) ?_) ?_) ?_) ?_) ?_) ?_) ?_) ?_) ?_) ?_) ?_) ?_) ?_) ?_) ?_) ?_) ?_) ?_) ?_) ?_) ?_) ?_) ?_) ?_) ?_) ?_) ?_) ?_
              · refine ⟨fun o ho vs Rs f' S' w hp hf hx hS hR hs => ?_⟩
                obtain rfl := Option.some.inj ho
                refine And.intro (want_none rfl) (And.intro (fun _ => ?_) (fun h => by cases h))
                have hF := fr_next (rfl) ((hx 0 (by kernel_rfl)).trans (by kernel_rfl : (_ : Value) = .slice A0 l0.length c0))
                refine ls_fr hF ?_
                refine ls_val (v := .slice A0 l0.length c0) rfl rfl (by kernel_rfl) (fun w => by kernel_rfl) ?_
                exact ls_fin s0 (.slice A0 l0.length c0) (congrArg (fun z => upd z 33 _) hF.symm) ⟨rfl, rfl⟩ (sub_nil _)
              · refine ⟨fun o ho vs Rs f' S' w hp hf hx hS hR hs => ?_⟩
                obtain rfl := Option.some.inj ho
                refine And.intro (want_none rfl) (And.intro (fun _ => ?_) (fun h => by cases h))
                have hF := fr_next (rfl) ((hx 1 (by kernel_rfl)).trans (by kernel_rfl : (_ : Value) = .string a1))
                refine ls_fr hF ?_
                refine ls_val (v := .string a1) rfl rfl (by kernel_rfl) (fun w => by kernel_rfl) ?_
                exact ls_fin s0 (.string a1) (congrArg (fun z => upd z 34 _) hF.symm) ⟨rfl, rfl⟩ (sub_nil _)
              · refine ⟨fun o ho vs Rs f' S' w hp hf hx hS hR hs => ?_⟩
                obtain rfl := Option.some.inj ho
                obtain ⟨hv0, hR0⟩ := hp 0 (by kernel_rfl)
                obtain ⟨hv1, hR1⟩ := hp 1 (by kernel_rfl)
                refine And.intro (want_none rfl) (And.intro (fun _ => ?_) (fun h => by cases h))
                have hF := fr_next (fr_next (rfl) ((hf 0 33 (by kernel_rfl) rfl).trans hv0)) ((hf 1 34 (by kernel_rfl) rfl).trans hv1)
                refine ls_fr hF ?_
                refine ls_call (fid := 21) (vals := #[.slice A0 l0.length c0, .string a1]) (X := (Option Addr × Nat)) (fun x => .slice x.1 t10.length x.2) (fun x => sput s0 0 (some (Ck.sl 5 (Value.int .u8) x.1 x.2 t10))) 0 rfl rfl (by kernel_rfl) (fun w => by kernel_rfl) (fun w1 hs1 => codec_Text.calls k A0 c0 l0 a1 t10 w1 (hs1.old (hs.old R0)) C0 hc11) ?_
                intro x12
                exact ls_fin (sput s0 0 (some (Ck.sl 5 (Value.int .u8) x12.1 x12.2 t10))) (.slice x12.1 t10.length x12.2) (congrArg (fun z => upd z 35 _) hF.symm) ⟨x12, rfl, rfl⟩ (sub_put (by exact rfl) (sub_nil _))
              · refine ⟨fun o ho vs Rs f' S' w hp hf hx hS hR hs => ?_⟩
                obtain rfl := Option.some.inj ho
                obtain ⟨x12, hv2, hR2⟩ := hp 2 (by kernel_rfl)
                have hT2_0 := (hR 2 0 (by kernel_rfl) (by decide)).trans (congrFun hR2 0)
                refine And.intro (want_none rfl) (And.intro (fun _ => ?_) (fun h => by cases h))
                have hF := fr_next (rfl) ((hf 2 35 (by kernel_rfl) rfl).trans hv2)
                refine ls_fr hF ?_
                refine ls_str (A := x12.1) (c := x12.2) (e := 5) (l := t10) rfl rfl (by kernel_rfl) rfl (by kernel_rfl) (by kernel_rfl) (by kernel_rfl) (by kernel_rfl) (fun w1 hs1 => (hs1.old (hs.rd (k := 16) hT2_0))) ?_
                exact ls_fin s0 (.string (strOfNums t10)) (congrArg (fun z => upd z 36 _) hF.symm) ⟨rfl, rfl⟩ (sub_nil _)
              · refine ⟨fun o ho vs Rs f' S' w hp hf hx hS hR hs => ?_⟩
                obtain rfl := Option.some.inj ho
                refine And.intro (want_none rfl) (And.intro (fun _ => ?_) (fun h => by cases h))
                have hF := fr_next (rfl) ((hx 0 (by kernel_rfl)).trans (by kernel_rfl : (_ : Value) = .slice A0 l0.length c0))
                refine ls_fr hF ?_
                refine ls_val (v := .slice A0 l0.length c0) rfl rfl (by kernel_rfl) (fun w => by kernel_rfl) ?_
                exact ls_fin s0 (.slice A0 l0.length c0) (congrArg (fun z => upd z 37 _) hF.symm) ⟨rfl, rfl⟩ (sub_nil _)
              · refine ⟨fun o ho vs Rs f' S' w hp hf hx hS hR hs => ?_⟩
                obtain rfl := Option.some.inj ho
                refine And.intro (want_none rfl) (And.intro (fun _ => ?_) (fun h => by cases h))
                have hF := fr_next (rfl) ((hx 1 (by kernel_rfl)).trans (by kernel_rfl : (_ : Value) = .string a1))
                refine ls_fr hF ?_
                refine ls_val (v := .string a1) rfl rfl (by kernel_rfl) (fun w => by kernel_rfl) ?_
                exact ls_fin s0 (.string a1) (congrArg (fun z => upd z 38 _) hF.symm) ⟨rfl, rfl⟩ (sub_nil _)
              · refine ⟨fun o ho vs Rs f' S' w hp hf hx hS hR hs => ?_⟩
                obtain rfl := Option.some.inj ho
                obtain ⟨hv4, hR4⟩ := hp 4 (by kernel_rfl)
                obtain ⟨hv5, hR5⟩ := hp 5 (by kernel_rfl)
                refine And.intro (want_none rfl) (And.intro (fun _ => ?_) (fun h => by cases h))
                have hF := fr_next (fr_next (rfl) ((hf 4 37 (by kernel_rfl) rfl).trans hv4)) ((hf 5 38 (by kernel_rfl) rfl).trans hv5)
                refine ls_fr hF ?_
                refine ls_call (fid := 22) (vals := #[.slice A0 l0.length c0, .string a1]) (X := (Option Addr × Nat)) (fun x => .slice x.1 t13.length x.2) (fun x => sput s0 0 (some (Ck.sl 5 (Value.int .u8) x.1 x.2 t13))) 0 rfl rfl (by kernel_rfl) (fun w => by kernel_rfl) (fun w1 hs1 => shadowboxref01_Text.calls k A0 c0 l0 a1 t13 w1 (hs1.old (hs.old R0)) C0 hc14) ?_
                intro x15
                exact ls_fin (sput s0 0 (some (Ck.sl 5 (Value.int .u8) x15.1 x15.2 t13))) (.slice x15.1 t13.length x15.2) (congrArg (fun z => upd z 39 _) hF.symm) ⟨x15, rfl, rfl⟩ (sub_put (by exact rfl) (sub_nil _))
              · refine ⟨fun o ho vs Rs f' S' w hp hf hx hS hR hs => ?_⟩
                obtain rfl := Option.some.inj ho
                obtain ⟨x15, hv6, hR6⟩ := hp 6 (by kernel_rfl)
                have hT6_0 := (hR 6 0 (by kernel_rfl) (by decide)).trans (congrFun hR6 0)
                refine And.intro (want_none rfl) (And.intro (fun _ => ?_) (fun h => by cases h))
                have hF := fr_next (rfl) ((hf 6 39 (by kernel_rfl) rfl).trans hv6)
                refine ls_fr hF ?_
                refine ls_str (A := x15.1) (c := x15.2) (e := 5) (l := t13) rfl rfl (by kernel_rfl) rfl (by kernel_rfl) (by kernel_rfl) (by kernel_rfl) (by kernel_rfl) (fun w1 hs1 => (hs1.old (hs.rd (k := 48) hT6_0))) ?_
                exact ls_fin s0 (.string (strOfNums t13)) (congrArg (fun z => upd z 40 _) hF.symm) ⟨rfl, rfl⟩ (sub_nil _)
              · refine ⟨fun o ho vs Rs f' S' w hp hf hx hS hR hs => ?_⟩
                obtain rfl := Option.some.inj ho
                obtain ⟨hv3, hR3⟩ := hp 3 (by kernel_rfl)
                obtain ⟨hv7, hR7⟩ := hp 7 (by kernel_rfl)
                refine And.intro (want_none rfl) (And.intro (fun _ => ?_) (fun h => by cases h))
                have hF := fr_next (fr_next (rfl) ((hf 3 36 (by kernel_rfl) rfl).trans hv3)) ((hf 7 40 (by kernel_rfl) rfl).trans hv7)
                refine ls_fr hF ?_
                refine ls_val (v := .bool ((strOfNums t10).toList == (strOfNums t13).toList)) rfl rfl (by kernel_rfl) (fun w => by kernel_rfl) ?_
                refine ls_ren 41 (v := .bool ((strOfNums t10).toList == (strOfNums t13).toList)) (v' := .bool true) (by kernel_rfl) (congrArg Value.bool (show ((strOfNums t10).toList == (strOfNums t13).toList) = true from q16)) ?_
                exact ls_fin s0 (.bool true) ((upd_upd _ _ _ _).trans (congrArg (fun z => upd z 41 _) hF.symm)) ⟨rfl, rfl⟩ (sub_nil _)
              · refine ⟨fun o ho vs Rs f' S' w hp hf hx hS hR hs => ?_⟩
                obtain rfl := Option.some.inj ho
                obtain ⟨hv8, hR8⟩ := hp 8 (by kernel_rfl)
                refine And.intro (want_none rfl) (And.intro (fun _ => ?_) (fun h => by cases h))
                have hF := fr_next (rfl) ((hf 8 41 (by kernel_rfl) rfl).trans hv8)
                refine ls_fr hF ?_
                refine ls_val (v := .bool true) rfl rfl (by kernel_rfl) (fun w => by kernel_rfl) ?_
                exact ls_fin s0 (.bool true) (congrArg (fun z => upd z 42 _) hF.symm) ⟨rfl, rfl⟩ (sub_nil _)
              · refine ⟨fun o ho vs Rs f' S' w hp hf hx hS hR hs => ?_⟩
                obtain rfl := Option.some.inj ho
                obtain ⟨hv9, hR9⟩ := hp 9 (by kernel_rfl)
                refine And.intro (want_is (j := 9) (t := 42) rfl rfl (by kernel_rfl) ((hf 9 42 (by kernel_rfl) rfl).trans hv9) rfl) (And.intro (fun _ => ?_) (fun h => by cases h))
                have hF := fr_next (fr_next (rfl) ((hx 7 (by kernel_rfl)).trans (by kernel_rfl : (_ : Value) = .string t4.1))) ((hf 9 42 (by kernel_rfl) rfl).trans hv9)
                refine ls_fr hF ?_
                refine ls_val (v := .string t4.1) rfl rfl (by kernel_rfl) (fun w => by kernel_rfl) ?_
                exact ls_fin s0 (.string t4.1) (congrArg (fun z => upd z 43 _) hF.symm) ⟨rfl, rfl⟩ (sub_nil _)
              · refine ⟨fun o ho vs Rs f' S' w hp hf hx hS hR hs => ?_⟩
                obtain rfl := Option.some.inj ho
                obtain ⟨hv9, hR9⟩ := hp 9 (by kernel_rfl)
                refine And.intro (want_is (j := 9) (t := 42) rfl rfl (by kernel_rfl) ((hf 9 42 (by kernel_rfl) rfl).trans hv9) rfl) (And.intro (fun _ => ?_) (fun h => by cases h))
                have hF := fr_next (fr_next (rfl) ((hx 10 (by kernel_rfl)).trans (by kernel_rfl : (_ : Value) = .string t7.1))) ((hf 9 42 (by kernel_rfl) rfl).trans hv9)
                refine ls_fr hF ?_
                refine ls_val (v := .string t7.1) rfl rfl (by kernel_rfl) (fun w => by kernel_rfl) ?_
                exact ls_fin s0 (.string t7.1) (congrArg (fun z => upd z 44 _) hF.symm) ⟨rfl, rfl⟩ (sub_nil _)
              · refine ⟨fun o ho vs Rs f' S' w hp hf hx hS hR hs => ?_⟩
                obtain rfl := Option.some.inj ho
                obtain ⟨hv9, hR9⟩ := hp 9 (by kernel_rfl)
                obtain ⟨hv10, hR10⟩ := hp 10 (by kernel_rfl)
                obtain ⟨hv11, hR11⟩ := hp 11 (by kernel_rfl)
                refine And.intro (want_is (j := 9) (t := 42) rfl rfl (by kernel_rfl) ((hf 9 42 (by kernel_rfl) rfl).trans hv9) rfl) (And.intro (fun _ => ?_) (fun h => by cases h))
                have hF := fr_next (fr_next (fr_next (rfl) ((hf 9 42 (by kernel_rfl) rfl).trans hv9)) ((hf 10 43 (by kernel_rfl) rfl).trans hv10)) ((hf 11 44 (by kernel_rfl) rfl).trans hv11)
                refine ls_fr hF ?_
                refine ls_val (v := .bool (t4.1.toList == t7.1.toList)) rfl rfl (by kernel_rfl) (fun w => by kernel_rfl) ?_
                refine ls_ren 45 (v := .bool (t4.1.toList == t7.1.toList)) (v' := .bool true) (by kernel_rfl) (congrArg Value.bool (show (t4.1.toList == t7.1.toList) = true from q17)) ?_
                exact ls_fin s0 (.bool true) ((upd_upd _ _ _ _).trans (congrArg (fun z => upd z 45 _) hF.symm)) ⟨rfl, rfl⟩ (sub_nil _)
              · refine ⟨fun o ho vs Rs f' S' w hp hf hx hS hR hs => ?_⟩
                obtain rfl := Option.some.inj ho
                obtain ⟨hv9, hR9⟩ := hp 9 (by kernel_rfl)
                obtain ⟨hv12, hR12⟩ := hp 12 (by kernel_rfl)
                refine And.intro (want_none rfl) (And.intro (fun _ => ?_) (fun h => by cases h))
                have hF := fr_next (fr_next (rfl) ((hf 9 42 (by kernel_rfl) rfl).trans hv9)) ((hf 12 45 (by kernel_rfl) rfl).trans hv12)
                refine ls_fr hF ?_
                refine ls_val (v := .bool true) rfl rfl (by kernel_rfl) (fun w => by kernel_rfl) ?_
                exact ls_fin s0 (.bool true) (congrArg (fun z => upd z 46 _) hF.symm) ⟨rfl, rfl⟩ (sub_nil _)
              · refine ⟨fun o ho vs Rs f' S' w hp hf hx hS hR hs => ?_⟩
                obtain rfl := Option.some.inj ho
                obtain ⟨hv13, hR13⟩ := hp 13 (by kernel_rfl)
                refine And.intro (want_none rfl) (And.intro (fun _ => ?_) (fun h => by cases h))
                have hF := fr_next (rfl) ((hf 13 46 (by kernel_rfl) rfl).trans hv13)
                refine ls_fr hF ?_
                refine ls_val (v := .bool true) rfl rfl (by kernel_rfl) (fun w => by kernel_rfl) ?_
                exact ls_fin s0 (.bool true) (congrArg (fun z => upd z 47 _) hF.symm) ⟨rfl, rfl⟩ (sub_nil _)
              · refine ⟨fun o ho vs Rs f' S' w hp hf hx hS hR hs => ?_⟩
                obtain rfl := Option.some.inj ho
                obtain ⟨hv14, hR14⟩ := hp 14 (by kernel_rfl)
                refine And.intro (want_is (j := 14) (t := 47) rfl rfl (by kernel_rfl) ((hf 14 47 (by kernel_rfl) rfl).trans hv14) rfl) (And.intro (fun _ => ?_) (fun h => by cases h))
                have hF := fr_next (fr_next (rfl) ((hx 8 (by kernel_rfl)).trans (by kernel_rfl : (_ : Value) = .int .i64 t4.2.1))) ((hf 14 47 (by kernel_rfl) rfl).trans hv14)
                refine ls_fr hF ?_
                refine ls_val (v := .int .i64 t4.2.1) rfl rfl (by kernel_rfl) (fun w => by kernel_rfl) ?_
                exact ls_fin s0 (.int .i64 t4.2.1) (congrArg (fun z => upd z 48 _) hF.symm) ⟨rfl, rfl⟩ (sub_nil _)
              · refine ⟨fun o ho vs Rs f' S' w hp hf hx hS hR hs => ?_⟩
                obtain rfl := Option.some.inj ho
                obtain ⟨hv14, hR14⟩ := hp 14 (by kernel_rfl)
                refine And.intro (want_is (j := 14) (t := 47) rfl rfl (by kernel_rfl) ((hf 14 47 (by kernel_rfl) rfl).trans hv14) rfl) (And.intro (fun _ => ?_) (fun h => by cases h))
                have hF := fr_next (fr_next (rfl) ((hx 11 (by kernel_rfl)).trans (by kernel_rfl : (_ : Value) = .int .i64 t7.2.1))) ((hf 14 47 (by kernel_rfl) rfl).trans hv14)
                refine ls_fr hF ?_
                refine ls_val (v := .int .i64 t7.2.1) rfl rfl (by kernel_rfl) (fun w => by kernel_rfl) ?_
                exact ls_fin s0 (.int .i64 t7.2.1) (congrArg (fun z => upd z 49 _) hF.symm) ⟨rfl, rfl⟩ (sub_nil _)
              · refine ⟨fun o ho vs Rs f' S' w hp hf hx hS hR hs => ?_⟩
                obtain rfl := Option.some.inj ho
                obtain ⟨hv14, hR14⟩ := hp 14 (by kernel_rfl)
                obtain ⟨hv15, hR15⟩ := hp 15 (by kernel_rfl)
                obtain ⟨hv16, hR16⟩ := hp 16 (by kernel_rfl)
                refine And.intro (want_is (j := 14) (t := 47) rfl rfl (by kernel_rfl) ((hf 14 47 (by kernel_rfl) rfl).trans hv14) rfl) (And.intro (fun _ => ?_) (fun h => by cases h))
                have hF := fr_next (fr_next (fr_next (rfl) ((hf 14 47 (by kernel_rfl) rfl).trans hv14)) ((hf 15 48 (by kernel_rfl) rfl).trans hv15)) ((hf 16 49 (by kernel_rfl) rfl).trans hv16)
                refine ls_fr hF ?_
                refine ls_val (v := .bool (decide (t4.2.1 = t7.2.1))) rfl rfl (by kernel_rfl) (fun w => by kernel_rfl) ?_
                refine ls_ren 50 (v := .bool (decide (t4.2.1 = t7.2.1))) (v' := .bool true) (by kernel_rfl) (congrArg Value.bool (show (decide (t4.2.1 = t7.2.1)) = true from dec_t q18)) ?_
                exact ls_fin s0 (.bool true) ((upd_upd _ _ _ _).trans (congrArg (fun z => upd z 50 _) hF.symm)) ⟨rfl, rfl⟩ (sub_nil _)
              · refine ⟨fun o ho vs Rs f' S' w hp hf hx hS hR hs => ?_⟩
                obtain rfl := Option.some.inj ho
                obtain ⟨hv14, hR14⟩ := hp 14 (by kernel_rfl)
                obtain ⟨hv17, hR17⟩ := hp 17 (by kernel_rfl)
                refine And.intro (want_none rfl) (And.intro (fun _ => ?_) (fun h => by cases h))
                have hF := fr_next (fr_next (rfl) ((hf 14 47 (by kernel_rfl) rfl).trans hv14)) ((hf 17 50 (by kernel_rfl) rfl).trans hv17)
                refine ls_fr hF ?_
                refine ls_val (v := .bool true) rfl rfl (by kernel_rfl) (fun w => by kernel_rfl) ?_
                exact ls_fin s0 (.bool true) (congrArg (fun z => upd z 51 _) hF.symm) ⟨rfl, rfl⟩ (sub_nil _)
              · refine ⟨fun o ho vs Rs f' S' w hp hf hx hS hR hs => ?_⟩
                obtain rfl := Option.some.inj ho
                obtain ⟨hv18, hR18⟩ := hp 18 (by kernel_rfl)
                refine And.intro (want_none rfl) (And.intro (fun _ => ?_) (fun h => by cases h))
                have hF := fr_next (rfl) ((hf 18 51 (by kernel_rfl) rfl).trans hv18)
                refine ls_fr hF ?_
                refine ls_val (v := .bool true) rfl rfl (by kernel_rfl) (fun w => by kernel_rfl) ?_
                exact ls_fin s0 (.bool true) (congrArg (fun z => upd z 52 _) hF.symm) ⟨rfl, rfl⟩ (sub_nil _)
              · refine ⟨fun o ho vs Rs f' S' w hp hf hx hS hR hs => ?_⟩
                obtain rfl := Option.some.inj ho
                obtain ⟨hv19, hR19⟩ := hp 19 (by kernel_rfl)
                refine And.intro (want_is (j := 19) (t := 52) rfl rfl (by kernel_rfl) ((hf 19 52 (by kernel_rfl) rfl).trans hv19) rfl) (And.intro (fun _ => ?_) (fun h => by cases h))
                have hF := fr_next (fr_next (rfl) ((hx 9 (by kernel_rfl)).trans (by kernel_rfl : (_ : Value) = .int .i64 t4.2.2))) ((hf 19 52 (by kernel_rfl) rfl).trans hv19)
                refine ls_fr hF ?_
                refine ls_val (v := .int .i64 t4.2.2) rfl rfl (by kernel_rfl) (fun w => by kernel_rfl) ?_
                exact ls_fin s0 (.int .i64 t4.2.2) (congrArg (fun z => upd z 53 _) hF.symm) ⟨rfl, rfl⟩ (sub_nil _)
              · refine ⟨fun o ho vs Rs f' S' w hp hf hx hS hR hs => ?_⟩
                obtain rfl := Option.some.inj ho
                obtain ⟨hv19, hR19⟩ := hp 19 (by kernel_rfl)
                refine And.intro (want_is (j := 19) (t := 52) rfl rfl (by kernel_rfl) ((hf 19 52 (by kernel_rfl) rfl).trans hv19) rfl) (And.intro (fun _ => ?_) (fun h => by cases h))
                have hF := fr_next (fr_next (rfl) ((hx 12 (by kernel_rfl)).trans (by kernel_rfl : (_ : Value) = .int .i64 t7.2.2))) ((hf 19 52 (by kernel_rfl) rfl).trans hv19)
                refine ls_fr hF ?_
                refine ls_val (v := .int .i64 t7.2.2) rfl rfl (by kernel_rfl) (fun w => by kernel_rfl) ?_
                exact ls_fin s0 (.int .i64 t7.2.2) (congrArg (fun z => upd z 54 _) hF.symm) ⟨rfl, rfl⟩ (sub_nil _)
              · refine ⟨fun o ho vs Rs f' S' w hp hf hx hS hR hs => ?_⟩
                obtain rfl := Option.some.inj ho
                obtain ⟨hv19, hR19⟩ := hp 19 (by kernel_rfl)
                obtain ⟨hv20, hR20⟩ := hp 20 (by kernel_rfl)
                obtain ⟨hv21, hR21⟩ := hp 21 (by kernel_rfl)
                refine And.intro (want_is (j := 19) (t := 52) rfl rfl (by kernel_rfl) ((hf 19 52 (by kernel_rfl) rfl).trans hv19) rfl) (And.intro (fun _ => ?_) (fun h => by cases h))
                have hF := fr_next (fr_next (fr_next (rfl) ((hf 19 52 (by kernel_rfl) rfl).trans hv19)) ((hf 20 53 (by kernel_rfl) rfl).trans hv20)) ((hf 21 54 (by kernel_rfl) rfl).trans hv21)
                refine ls_fr hF ?_
                refine ls_val (v := .bool (decide (t4.2.2 = t7.2.2))) rfl rfl (by kernel_rfl) (fun w => by kernel_rfl) ?_
                refine ls_ren 55 (v := .bool (decide (t4.2.2 = t7.2.2))) (v' := .bool false) (by kernel_rfl) (congrArg Value.bool (show (decide (t4.2.2 = t7.2.2)) = false from dec_f q19)) ?_
                exact ls_fin s0 (.bool false) ((upd_upd _ _ _ _).trans (congrArg (fun z => upd z 55 _) hF.symm)) ⟨rfl, rfl⟩ (sub_nil _)
              · refine ⟨fun o ho vs Rs f' S' w hp hf hx hS hR hs => ?_⟩
                obtain rfl := Option.some.inj ho
                obtain ⟨hv19, hR19⟩ := hp 19 (by kernel_rfl)
                obtain ⟨hv22, hR22⟩ := hp 22 (by kernel_rfl)
                refine And.intro (want_none rfl) (And.intro (fun _ => ?_) (fun h => by cases h))
                have hF := fr_next (fr_next (rfl) ((hf 19 52 (by kernel_rfl) rfl).trans hv19)) ((hf 22 55 (by kernel_rfl) rfl).trans hv22)
                refine ls_fr hF ?_
                refine ls_val (v := .bool false) rfl rfl (by kernel_rfl) (fun w => by kernel_rfl) ?_
                exact ls_fin s0 (.bool false) (congrArg (fun z => upd z 56 _) hF.symm) ⟨rfl, rfl⟩ (sub_nil _)
              · refine ⟨fun o ho vs Rs f' S' w hp hf hx hS hR hs => ?_⟩
                obtain rfl := Option.some.inj ho
                obtain ⟨hv23, hR23⟩ := hp 23 (by kernel_rfl)
                refine And.intro (want_none rfl) (And.intro (fun _ => ?_) (fun h => by cases h))
                have hF := fr_next (rfl) ((hf 23 56 (by kernel_rfl) rfl).trans hv23)
                refine ls_fr hF ?_
                refine ls_val (v := .bool false) rfl rfl (by kernel_rfl) (fun w => by kernel_rfl) ?_
                exact ls_fin s0 (.bool false) (congrArg (fun z => upd z 57 _) hF.symm) ⟨rfl, rfl⟩ (sub_nil _)
              · refine ⟨fun o ho vs Rs f' S' w hp hf hx hS hR hs => ?_⟩
                obtain rfl := Option.some.inj ho
                obtain ⟨hv24, hR24⟩ := hp 24 (by kernel_rfl)
                refine And.intro ?_ (And.intro ?_ ?_)
                · exact want_is (j := 24) (t := 57) rfl rfl (by kernel_rfl) ((hf 24 57 (by kernel_rfl) rfl).trans hv24) rfl
                · intro h; cases h
                · intro _; exact ⟨rfl, rfl⟩
              · refine ⟨fun o ho vs Rs f' S' w hp hf hx hS hR hs => ?_⟩
                obtain rfl := Option.some.inj ho
                obtain ⟨hv24, hR24⟩ := hp 24 (by kernel_rfl)
                obtain ⟨hv25, hR25⟩ := hp 25 (by kernel_rfl)
                refine And.intro ?_ (And.intro ?_ ?_)
                · exact want_is (j := 24) (t := 57) rfl rfl (by kernel_rfl) ((hf 24 57 (by kernel_rfl) rfl).trans hv24) rfl
                · intro h; cases h
                · intro _; exact ⟨rfl, rfl⟩
              · refine ⟨fun o ho vs Rs f' S' w hp hf hx hS hR hs => ?_⟩
                obtain rfl := Option.some.inj ho
                obtain ⟨hv24, hR24⟩ := hp 24 (by kernel_rfl)
                refine And.intro ?_ (And.intro ?_ ?_)
                · exact want_is (j := 24) (t := 57) rfl rfl (by kernel_rfl) ((hf 24 57 (by kernel_rfl) rfl).trans hv24) rfl
                · intro h; cases h
                · intro _; exact ⟨rfl, rfl⟩
            · intro vs Rs f' S' hp hf hx hS hR
              obtain ⟨x12, hv2, hR2⟩ := hp 2 (by kernel_rfl)
              have hT2_0 := (hR 2 0 (by kernel_rfl) (by decide)).trans (congrFun hR2 0)
              obtain ⟨x15, hv6, hR6⟩ := hp 6 (by kernel_rfl)
              have hT6_0 := (hR 6 0 (by kernel_rfl) (by decide)).trans (congrFun hR6 0)
              obtain ⟨hv24, hR24⟩ := hp 24 (by kernel_rfl)
              obtain ⟨hv26, hR26⟩ := hp 26 (by kernel_rfl)
              obtain ⟨hv27, hR27⟩ := hp 27 (by kernel_rfl)
              refine ls_fr (F := upd f' 57 (.bool false)) (fr_next (rfl) ((hf 24 57 (by kernel_rfl) rfl).trans hv24)) ?_
              refine ls_sub (s0) (sub_nil _) ?_
              refine ls_off (j := 24) (t := 57) (b := true) (c := false) rfl rfl (by kernel_rfl) (by kernel_rfl) rfl rfl (by kernel_rfl) ?_
              refine ls_off (j := 24) (t := 57) (b := true) (c := false) rfl rfl (by kernel_rfl) (by kernel_rfl) rfl rfl (by kernel_rfl) ?_
              refine ls_val (v := .bool false) rfl rfl (by kernel_rfl) (fun w => by kernel_rfl) ?_
              refine ls_val (v := .bool false) rfl rfl (by kernel_rfl) (fun w => by kernel_rfl) ?_
              refine ls_off (j := 31) (t := 64) (b := true) (c := false) rfl rfl (by kernel_rfl) (by kernel_rfl) rfl rfl (by kernel_rfl) ?_
              refine ls_off (j := 31) (t := 64) (b := true) (c := false) rfl rfl (by kernel_rfl) (by kernel_rfl) rfl rfl (by kernel_rfl) ?_
              refine ls_val (v := .bool false) rfl rfl (by kernel_rfl) (fun w => by kernel_rfl) ?_
              refine ls_val (v := .bool false) rfl rfl (by kernel_rfl) (fun w => by kernel_rfl) ?_
              refine ls_end ?_
              refine qn_then ?_
              refine cs_ret' ?_
              obtain rfl := Option.some.inj H
              refine qr_end1 rfl (fun w' hs => ⟨(), rfl, ?_⟩)
              exact hs.sub (sub_nil _)
        · replace H := ite_f q18 H
          refine cs_draw (l := [_, _, _, _, _, _, _, _, _, _, _, _, _, _, _, _, _, _, _, _, _, _, _, _, _, _, _, _, _, _, _, _, _, _, _, _]) [[], [], [0, 1], [0, 1, 2], [], [], [0, 1, 2, 4, 5], [0, 1, 2, 4, 5, 6], [0, 1, 2, 3, 4, 5, 6, 7], [0, 1, 2, 3, 4, 5, 6, 7, 8], [0, 1, 2, 3, 4, 5, 6, 7, 8, 9], [0, 1, 2, 3, 4, 5, 6, 7, 8, 9], [0, 1, 2, 3, 4, 5, 6, 7, 8, 9, 10, 11], [0, 1, 2, 3, 4, 5, 6, 7, 8, 9, 10, 11, 12], [0, 1, 2, 3, 4, 5, 6, 7, 8, 9, 10, 11, 12, 13], [0, 1, 2, 3, 4, 5, 6, 7, 8, 9, 10, 11, 12, 13, 14], [0, 1, 2, 3, 4, 5, 6, 7, 8, 9, 10, 11, 12, 13, 14], [0, 1, 2, 3, 4, 5, 6, 7, 8, 9, 10, 11, 12, 13, 14, 15, 16], [0, 1, 2, 3, 4, 5, 6, 7, 8, 9, 10, 11, 12, 13, 14, 15, 16, 17], [0, 1, 2, 3, 4, 5, 6, 7, 8, 9, 10, 11, 12, 13, 14, 15, 16, 17, 18], [0, 1, 2, 3, 4, 5, 6, 7, 8, 9, 10, 11, 12, 13, 14, 15, 16, 17, 18, 19], [0, 1, 2, 3, 4, 5, 6, 7, 8, 9, 10, 11, 12, 13, 14, 15, 16, 17, 18, 19], [0, 1, 2, 3, 4, 5, 6, 7, 8, 9, 10, 11, 12, 13, 14, 15, 16, 17, 18, 19, 20, 21], [0, 1, 2, 3, 4, 5, 6, 7, 8, 9, 10, 11, 12, 13, 14, 15, 16, 17, 18, 19, 20, 21, 22], [0, 1, 2, 3, 4, 5, 6, 7, 8, 9, 10, 11, 12, 13, 14, 15, 16, 17, 18, 19, 20, 21, 22, 23], [0, 1, 2, 3, 4, 5, 6, 7, 8, 9, 10, 11, 12, 13, 14, 15, 16, 17, 18, 19, 20, 21, 22, 23, 24], [0, 1, 2, 3, 4, 5, 6, 7, 8, 9, 10, 11, 12, 13, 14, 15, 16, 17, 18, 19, 20, 21, 22, 23, 24, 25], [0, 1, 2, 3, 4, 5, 6, 7, 8, 9, 10, 11, 12, 13, 14, 15, 16, 17, 18, 19, 20, 21, 22, 23, 24], [0, 1, 2, 3, 4, 5, 6, 7, 8, 9, 10, 11, 12, 13, 14, 15, 16, 17, 18, 19, 20, 21, 22, 23, 24, 25, 26, 27], [0, 1, 2, 3, 4, 5, 6, 7, 8, 9, 10, 11, 12, 13, 14, 15, 16, 17, 18, 19, 20, 21, 22, 23, 24, 25, 26, 27, 28], [0, 1, 2, 3, 4, 5, 6, 7, 8, 9, 10, 11, 12, 13, 14, 15, 16, 17, 18, 19, 20, 21, 22, 23, 24, 25, 26, 27, 28, 29], [0, 1, 2, 3, 4, 5, 6, 7, 8, 9, 10, 11, 12, 13, 14, 15, 16, 17, 18, 19, 20, 21, 22, 23, 24, 25, 26, 27, 28, 29, 30], [0, 1, 2, 3, 4, 5, 6, 7, 8, 9, 10, 11, 12, 13, 14, 15, 16, 17, 18, 19, 20, 21, 22, 23, 24, 25, 26, 27, 28, 29, 30, 31], [0, 1, 2, 3, 4, 5, 6, 7, 8, 9, 10, 11, 12, 13, 14, 15, 16, 17, 18, 19, 20, 21, 22, 23, 24, 25, 26, 27, 28, 29, 30, 31, 32], [0, 1, 2, 3, 4, 5, 6, 7, 8, 9, 10, 11, 12, 13, 14, 15, 16, 17, 18, 19, 20, 21, 22, 23, 24, 25, 26, 27, 28, 29, 30, 31, 32, 33], [0, 1, 2, 3, 4, 5, 6, 7, 8, 9, 10, 11, 12, 13, 14, 15, 16, 17, 18, 19, 20, 21, 22, 23, 24, 25, 26, 27, 28, 29, 30, 31, 32, 33, 34]] 28 0 (spl [fun v R => v = .slice A0 l0.length c0 ∧ R = s0, fun v R => v = .string a1 ∧ R = s0, fun v R => ∃ x12 : (Option Addr × Nat), v = .slice x12.1 t10.length x12.2 ∧ R = sput s0 0 (some (Ck.sl 5 (Value.int .u8) x12.1 x12.2 t10)), fun v R => v = .string (strOfNums t10) ∧ R = s0, fun v R => v = .slice A0 l0.length c0 ∧ R = s0, fun v R => v = .string a1 ∧ R = s0, fun v R => ∃ x15 : (Option Addr × Nat), v = .slice x15.1 t13.length x15.2 ∧ R = sput s0 0 (some (Ck.sl 5 (Value.int .u8) x15.1 x15.2 t13)), fun v R => v = .string (strOfNums t13) ∧ R = s0, fun v R => v = .bool true ∧ R = s0, fun v R => v = .bool true ∧ R = s0, fun v R => v = .string t4.1 ∧ R = s0, fun v R => v = .string t7.1 ∧ R = s0, fun v R => v = .bool true ∧ R = s0, fun v R => v = .bool true ∧ R = s0, fun v R => v = .bool true ∧ R = s0, fun v R => v = .int .i64 t4.2.1 ∧ R = s0, fun v R => v = .int .i64 t7.2.1 ∧ R = s0, fun v R => v = .bool false ∧ R = s0, fun v R => v = .bool false ∧ R = s0, fun v R => v = .bool false ∧ R = s0, fun v R => v = undef ∧ R = s0, fun v R => v = undef ∧ R = s0, fun v R => v = undef ∧ R = s0, fun v R => v = .bool false ∧ R = s0, fun v R => v = .bool false ∧ R = s0, fun v R => v = undef ∧ R = s0, fun v R => v = undef ∧ R = s0, fun v R => v = undef ∧ R = s0]) (onl [true, true, true, true, true, true, true, true, true, true, true, true, true, true, true, true, true, true, true, true, false, false, false, true, true, false, false, false]) (by kernel_rfl) (by kernel_rfl) (by kernel_rfl) (by kernel_rfl) (rs := [_, _, _, _, _, _, _, _]) rfl (by kernel_rfl) (by kernel_rfl) ?_ ?_
          · refine all_snoc (all_snoc (all_snoc (all_snoc (all_snoc (all_snoc (all_snoc (all_snoc (all_snoc (all_snoc (all_snoc (all_snoc (all_snoc (all_snoc (all_snoc (all_snoc (all_snoc (all_snoc (all_snoc (all_snoc (all_snoc (all_snoc (all_snoc (all_snoc (all_snoc (all_snoc (all_snoc (all_snoc (all_nil) ?_) ?_) ?_) ?_) ?_) ?_) ?_) ?_) ?_) ?_) ?_) ?_) ?_) ?_) ?_) ?_) ?_) ?_) ?_) ?_) ?_) ?_) ?_) ?_) ?_) ?_) ?_) ?_
            · refine ⟨fun o ho vs Rs f' S' w hp hf hx hS hR hs => ?_⟩
              obtain rfl := Option.some.inj ho
              refine And.intro (want_none rfl) (And.intro (fun _ => ?_) (fun h => by cases h))
              have hF := fr_next (rfl) ((hx 0 (by kernel_rfl)).trans (by kernel_rfl : (_ : Value) = .slice A0 l0.length c0))
              refine ls_fr hF ?_
              refine ls_val (v := .slice A0 l0.length c0) rfl rfl (by kernel_rfl) (fun w => by kernel_rfl) ?_
              exact ls_fin s0 (.slice A0 l0.length c0) (congrArg (fun z => upd z 33 _) hF.symm) ⟨rfl, rfl⟩ (sub_nil _)
            · refine ⟨fun o ho vs Rs f' S' w hp hf hx hS hR hs => ?_⟩
              obtain rfl := Option.some.inj ho
              refine And.intro (want_none rfl) (And.intro (fun _ => ?_) (fun h => by cases h))
              have hF := fr_next (rfl) ((hx 1 (by kernel_rfl)).trans (by kernel_rfl : (_ : Value) = .string a1))
              refine ls_fr hF ?_
              refine ls_val (v := .string a1) rfl rfl (by kernel_rfl) (fun w => by kernel_rfl) ?_
              exact ls_fin s0 (.string a1) (congrArg (fun z => upd z 34 _) hF.symm) ⟨rfl, rfl⟩ (sub_nil _)
            · refine ⟨fun o ho vs Rs f' S' w hp hf hx hS hR hs => ?_⟩
              obtain rfl := Option.some.inj ho
              obtain ⟨hv0, hR0⟩ := hp 0 (by kernel_rfl)
              obtain ⟨hv1, hR1⟩ := hp 1 (by kernel_rfl)
              refine And.intro (want_none rfl) (And.intro (fun _ => ?_) (fun h => by cases h))
              have hF := fr_next (fr_next (rfl) ((hf 0 33 (by kernel_rfl) rfl).trans hv0)) ((hf 1 34 (by kernel_rfl) rfl).trans hv1)
              refine ls_fr hF ?_
              refine ls_call (fid := 21) (vals := #[.slice A0 l0.length c0, .string a1]) (X := (Option Addr × Nat)) (fun x => .slice x.1 t10.length x.2) (fun x => sput s0 0 (some (Ck.sl 5 (Value.int .u8) x.1 x.2 t10))) 0 rfl rfl (by kernel_rfl) (fun w => by kernel_rfl) (fun w1 hs1 => codec_Text.calls k A0 c0 l0 a1 t10 w1 (hs1.old (hs.old R0)) C0 hc11) ?_
              intro x12
              exact ls_fin (sput s0 0 (some (Ck.sl 5 (Value.int .u8) x12.1 x12.2 t10))) (.slice x12.1 t10.length x12.2) (congrArg (fun z => upd z 35 _) hF.symm) ⟨x12, rfl, rfl⟩ (sub_put (by exact rfl) (sub_nil _))
            · refine ⟨fun o ho vs Rs f' S' w hp hf hx hS hR hs => ?_⟩
              obtain rfl := Option.some.inj ho
              obtain ⟨x12, hv2, hR2⟩ := hp 2 (by kernel_rfl)
              have hT2_0 := (hR 2 0 (by kernel_rfl) (by decide)).trans (congrFun hR2 0)
              refine And.intro (want_none rfl) (And.intro (fun _ => ?_) (fun h => by cases h))
              have hF := fr_next (rfl) ((hf 2 35 (by kernel_rfl) rfl).trans hv2)
              refine ls_fr hF ?_
              refine ls_str (A := x12.1) (c := x12.2) (e := 5) (l := t10) rfl rfl (by kernel_rfl) rfl (by kernel_rfl) (by kernel_rfl) (by kernel_rfl) (by kernel_rfl) (fun w1 hs1 => (hs1.old (hs.rd (k := 16) hT2_0))) ?_
              exact ls_fin s0 (.string (strOfNums t10)) (congrArg (fun z => upd z 36 _) hF.symm) ⟨rfl, rfl⟩ (sub_nil _)
            · refine ⟨fun o ho vs Rs f' S' w hp hf hx hS hR hs => ?_⟩
              obtain rfl := Option.some.inj ho
              refine And.intro (want_none rfl) (And.intro (fun _ => ?_) (fun h => by cases h))
              have hF := fr_next (rfl) ((hx 0 (by kernel_rfl)).trans (by kernel_rfl : (_ : Value) = .slice A0 l0.length c0))
              refine ls_fr hF ?_
              refine ls_val (v := .slice A0 l0.length c0) rfl rfl (by kernel_rfl) (fun w => by kernel_rfl) ?_
              exact ls_fin s0 (.slice A0 l0.length c0) (congrArg (fun z => upd z 37 _) hF.symm) ⟨rfl, rfl⟩ (sub_nil _)
            · refine ⟨fun o ho vs Rs f' S' w hp hf hx hS hR hs => ?_⟩
              obtain rfl := Option.some.inj ho
              refine And.intro (want_none rfl) (And.intro (fun _ => ?_) (fun h => by cases h))
              have hF := fr_next (rfl) ((hx 1 (by kernel_rfl)).trans (by kernel_rfl : (_ : Value) = .string a1))
              refine ls_fr hF ?_
              refine ls_val (v := .string a1) rfl rfl (by kernel_rfl) (fun w => by kernel_rfl) ?_
              exact ls_fin s0 (.string a1) (congrArg (fun z => upd z 38 _) hF.symm) ⟨rfl, rfl⟩ (sub_nil _)
            · refine ⟨fun o ho vs Rs f' S' w hp hf hx hS hR hs => ?_⟩
              obtain rfl := Option.some.inj ho
              obtain ⟨hv4, hR4⟩ := hp 4 (by kernel_rfl)
              obtain ⟨hv5, hR5⟩ := hp 5 (by kernel_rfl)
              refine And.intro (want_none rfl) (And.intro (fun _ => ?_) (fun h => by cases h))
              have hF := fr_next (fr_next (rfl) ((hf 4 37 (by kernel_rfl) rfl).trans hv4)) ((hf 5 38 (by kernel_rfl) rfl).trans hv5)
              refine ls_fr hF ?_
              refine ls_call (fid := 22) (vals := #[.slice A0 l0.length c0, .string a1]) (X := (Option Addr × Nat)) (fun x => .slice x.1 t13.length x.2) (fun x => sput s0 0 (some (Ck.sl 5 (Value.int .u8) x.1 x.2 t13))) 0 rfl rfl (by kernel_rfl) (fun w => by kernel_rfl) (fun w1 hs1 => shadowboxref01_Text.calls k A0 c0 l0 a1 t13 w1 (hs1.old (hs.old R0)) C0 hc14) ?_
              intro x15
              exact ls_fin (sput s0 0 (some (Ck.sl 5 (Value.int .u8) x15.1 x15.2 t13))) (.slice x15.1 t13.length x15.2) (congrArg (fun z => upd z 39 _) hF.symm) ⟨x15, rfl, rfl⟩ (sub_put (by exact rfl) (sub_nil _))
            · refine ⟨fun o ho vs Rs f' S' w hp hf hx hS hR hs => ?_⟩
              obtain rfl := Option.some.inj ho
              obtain ⟨x15, hv6, hR6⟩ := hp 6 (by kernel_rfl)
              have hT6_0 := (hR 6 0 (by kernel_rfl) (by decide)).trans (congrFun hR6 0)
              refine And.intro (want_none rfl) (And.intro (fun _ => ?_) (fun h => by cases h))
              have hF := fr_next (rfl) ((hf 6 39 (by kernel_rfl) rfl).trans hv6)
              refine ls_fr hF ?_
              refine ls_str (A := x15.1) (c := x15.2) (e := 5) (l := t13) rfl rfl (by kernel_rfl) rfl (by kernel_rfl) (by kernel_rfl) (by kernel_rfl) (by kernel_rfl) (fun w1 hs1 => (hs1.old (hs.rd (k := 48) hT6_0))) ?_
              exact ls_fin s0 (.string (strOfNums t13)) (congrArg (fun z => upd z 40 _) hF.symm) ⟨rfl, rfl⟩ (sub_nil _)
            · refine ⟨fun o ho vs Rs f' S' w hp hf hx hS hR hs => ?_⟩
              obtain rfl := Option.some.inj ho
              obtain ⟨hv3, hR3⟩ := hp 3 (by kernel_rfl)
              obtain ⟨hv7, hR7⟩ := hp 7 (by kernel_rfl)
              refine And.intro (want_none rfl) (And.intro (fun _ => ?_) (fun h => by cases h))
              have hF := fr_next (fr_next (rfl) ((hf 3 36 (by kernel_rfl) rfl).trans hv3)) ((hf 7 40 (by kernel_rfl) rfl).trans hv7)
              refine ls_fr hF ?_
              refine ls_val (v := .bool ((strOfNums t10).toList == (strOfNums t13).toList)) rfl rfl (by kernel_rfl) (fun w => by kernel_rfl) ?_
              refine ls_ren 41 (v := .bool ((strOfNums t10).toList == (strOfNums t13).toList)) (v' := .bool true) (by kernel_rfl) (congrArg Value.bool (show ((strOfNums t10).toList == (strOfNums t13).toList) = true from q16)) ?_
              exact ls_fin s0 (.bool true) ((upd_upd _ _ _ _).trans (congrArg (fun z => upd z 41 _) hF.symm)) ⟨rfl, rfl⟩ (sub_nil _)
            · refine ⟨fun o ho vs Rs f' S' w hp hf hx hS hR hs => ?_⟩
              obtain rfl := Option.some.inj ho
              obtain ⟨hv8, hR8⟩ := hp 8 (by kernel_rfl)
              refine And.intro (want_none rfl) (And.intro (fun _ => ?_) (fun h => by cases h))
              have hF := fr_next (rfl) ((hf 8 41 (by kernel_rfl) rfl).trans hv8)
              refine ls_fr hF ?_
              refine ls_val (v := .bool true) rfl rfl (by kernel_rfl) (fun w => by kernel_rfl) ?_
              exact ls_fin s0 (.bool true) (congrArg (fun z => upd z 42 _) hF.symm) ⟨rfl, rfl⟩ (sub_nil _)
            · refine ⟨fun o ho vs Rs f' S' w hp hf hx hS hR hs => ?_⟩
              obtain rfl := Option.some.inj ho
              obtain ⟨hv9, hR9⟩ := hp 9 (by kernel_rfl)
              refine And.intro (want_is (j := 9) (t := 42) rfl rfl (by kernel_rfl) ((hf 9 42 (by kernel_rfl) rfl).trans hv9) rfl) (And.intro (fun _ => ?_) (fun h => by cases h))
              have hF := fr_next (fr_next (rfl) ((hx 7 (by kernel_rfl)).trans (by kernel_rfl : (_ : Value) = .string t4.1))) ((hf 9 42 (by kernel_rfl) rfl).trans hv9)
              refine ls_fr hF ?_
              refine ls_val (v := .string t4.1) rfl rfl (by kernel_rfl) (fun w => by kernel_rfl) ?_
              exact ls_fin s0 (.string t4.1) (congrArg (fun z => upd z 43 _) hF.symm) ⟨rfl, rfl⟩ (sub_nil _)
            · refine ⟨fun o ho vs Rs f' S' w hp hf hx hS hR hs => ?_⟩
              obtain rfl := Option.some.inj ho
              obtain ⟨hv9, hR9⟩ := hp 9 (by kernel_rfl)
              refine And.intro (want_is (j := 9) (t := 42) rfl rfl (by kernel_rfl) ((hf 9 42 (by kernel_rfl) rfl).trans hv9) rfl) (And.intro (fun _ => ?_) (fun h => by cases h))
              have hF := fr_next (fr_next (rfl) ((hx 10 (by kernel_rfl)).trans (by kernel_rfl : (_ : Value) = .string t7.1))) ((hf 9 42 (by kernel_rfl) rfl).trans hv9)
              refine ls_fr hF ?_
              refine ls_val (v := .string t7.1) rfl rfl (by kernel_rfl) (fun w => by kernel_rfl) ?_
              exact ls_fin s0 (.string t7.1) (congrArg (fun z => upd z 44 _) hF.symm) ⟨rfl, rfl⟩ (sub_nil _)
            · refine ⟨fun o ho vs Rs f' S' w hp hf hx hS hR hs => ?_⟩
              obtain rfl := Option.some.inj ho
              obtain ⟨hv9, hR9⟩ := hp 9 (by kernel_rfl)
              obtain ⟨hv10, hR10⟩ := hp 10 (by kernel_rfl)
              obtain ⟨hv11, hR11⟩ := hp 11 (by kernel_rfl)
              refine And.intro (want_is (j := 9) (t := 42) rfl rfl (by kernel_rfl) ((hf 9 42 (by kernel_rfl) rfl).trans hv9) rfl) (And.intro (fun _ => ?_) (fun h => by cases h))
              have hF := fr_next (fr_next (fr_next (rfl) ((hf 9 42 (by kernel_rfl) rfl).trans hv9)) ((hf 10 43 (by kernel_rfl) rfl).trans hv10)) ((hf 11 44 (by kernel_rfl) rfl).trans hv11)
              refine ls_fr hF ?_
              refine ls_val (v := .bool (t4.1.toList == t7.1.toList)) rfl rfl (by kernel_rfl) (fun w => by kernel_rfl) ?_
              refine ls_ren 45 (v := .bool (t4.1.toList == t7.1.toList)) (v' := .bool true) (by kernel_rfl) (congrArg Value.bool (show (t4.1.toList == t7.1.toList) = true from q17)) ?_
              exact ls_fin s0 (.bool true) ((upd_upd _ _ _ _).trans (congrArg (fun z => upd z 45 _) hF.symm)) ⟨rfl, rfl⟩ (sub_nil _)
            · refine ⟨fun o ho vs Rs f' S' w hp hf hx hS hR hs => ?_⟩
              obtain rfl := Option.some.inj ho
              obtain ⟨hv9, hR9⟩ := hp 9 (by kernel_rfl)
              obtain ⟨hv12, hR12⟩ := hp 12 (by kernel_rfl)
              refine And.intro (want_none rfl) (And.intro (fun _ => ?_) (fun h => by cases h))
              have hF := fr_next (fr_next (rfl) ((hf 9 42 (by kernel_rfl) rfl).trans hv9)) ((hf 12 45 (by kernel_rfl) rfl).trans hv12)
              refine ls_fr hF ?_
              refine ls_val (v := .bool true) rfl rfl (by kernel_rfl) (fun w => by kernel_rfl) ?_
              exact ls_fin s0 (.bool true) (congrArg (fun z => upd z 46 _) hF.symm) ⟨rfl, rfl⟩ (sub_nil _)
            · refine ⟨fun o ho vs Rs f' S' w hp hf hx hS hR hs => ?_⟩
              obtain rfl := Option.some.inj ho
              obtain ⟨hv13, hR13⟩ := hp 13 (by kernel_rfl)
              refine And.intro (want_none rfl) (And.intro (fun _ => ?_) (fun h => by cases h))
              have hF := fr_next (rfl) ((hf 13 46 (by kernel_rfl) rfl).trans hv13)
              refine ls_fr hF ?_
              refine ls_val (v := .bool true) rfl rfl (by kernel_rfl) (fun w => by kernel_rfl) ?_
              exact ls_fin s0 (.bool true) (congrArg (fun z => upd z 47 _) hF.symm) ⟨rfl, rfl⟩ (sub_nil _)
            · refine ⟨fun o ho vs Rs f' S' w hp hf hx hS hR hs => ?_⟩
              obtain rfl := Option.some.inj ho
              obtain ⟨hv14, hR14⟩ := hp 14 (by kernel_rfl)
              refine And.intro (want_is (j := 14) (t := 47) rfl rfl (by kernel_rfl) ((hf 14 47 (by kernel_rfl) rfl).trans hv14) rfl) (And.intro (fun _ => ?_) (fun h => by cases h))
              have hF := fr_next (fr_next (rfl) ((hx 8 (by kernel_rfl)).trans (by kernel_rfl : (_ : Value) = .int .i64 t4.2.1))) ((hf 14 47 (by kernel_rfl) rfl).trans hv14)
              refine ls_fr hF ?_
              refine ls_val (v := .int .i64 t4.2.1) rfl rfl (by kernel_rfl) (fun w => by kernel_rfl) ?_
              exact ls_fin s0 (.int .i64 t4.2.1) (congrArg (fun z => upd z 48 _) hF.symm) ⟨rfl, rfl⟩ (sub_nil _)
            · refine ⟨fun o ho vs Rs f' S' w hp hf hx hS hR hs => ?_⟩
              obtain rfl := Option.some.inj ho
              obtain ⟨hv14, hR14⟩ := hp 14 (by kernel_rfl)
              refine And.intro (want_is (j := 14) (t := 47) rfl rfl (by kernel_rfl) ((hf 14 47 (by kernel_rfl) rfl).trans hv14) rfl) (And.intro (fun _ => ?_) (fun h => by cases h))
              have hF := fr_next (fr_next (rfl) ((hx 11 (by kernel_rfl)).trans (by kernel_rfl : (_ : Value) = .int .i64 t7.2.1))) ((hf 14 47 (by kernel_rfl) rfl).trans hv14)
              refine ls_fr hF ?_
              refine ls_val (v := .int .i64 t7.2.1) rfl rfl (by kernel_rfl) (fun w => by kernel_rfl) ?_
              exact ls_fin s0 (.int .i64 t7.2.1) (congrArg (fun z => upd z 49 _) hF.symm) ⟨rfl, rfl⟩ (sub_nil _)
            · refine ⟨fun o ho vs Rs f' S' w hp hf hx hS hR hs => ?_⟩
              obtain rfl := Option.some.inj ho
              obtain ⟨hv14, hR14⟩ := hp 14 (by kernel_rfl)
              obtain ⟨hv15, hR15⟩ := hp 15 (by kernel_rfl)
              obtain ⟨hv16, hR16⟩ := hp 16 (by kernel_rfl)
              refine And.intro (want_is (j := 14) (t := 47) rfl rfl (by kernel_rfl) ((hf 14 47 (by kernel_rfl) rfl).trans hv14) rfl) (And.intro (fun _ => ?_) (fun h => by cases h))
              have hF := fr_next (fr_next (fr_next (rfl) ((hf 14 47 (by kernel_rfl) rfl).trans hv14)) ((hf 15 48 (by kernel_rfl) rfl).trans hv15)) ((hf 16 49 (by kernel_rfl) rfl).trans hv16)
              refine ls_fr hF ?_
              refine ls_val (v := .bool (decide (t4.2.1 = t7.2.1))) rfl rfl (by kernel_rfl) (fun w => by kernel_rfl) ?_
              refine ls_ren 50 (v := .bool (decide (t4.2.1 = t7.2.1))) (v' := .bool false) (by kernel_rfl) (congrArg Value.bool (show (decide (t4.2.1 = t7.2.1)) = false from dec_f q18)) ?_
              exact ls_fin s0 (.bool false) ((upd_upd _ _ _ _).trans (congrArg (fun z => upd z 50 _) hF.symm)) ⟨rfl, rfl⟩ (sub_nil _)
            · refine ⟨fun o ho vs Rs f' S' w hp hf hx hS hR hs => ?_⟩
              obtain rfl := Option.some.inj ho
              obtain ⟨hv14, hR14⟩ := hp 14 (by kernel_rfl)
              obtain ⟨hv17, hR17⟩ := hp 17 (by kernel_rfl)
              refine And.intro (want_none rfl) (And.intro (fun _ => ?_) (fun h => by cases h))
              have hF := fr_next (fr_next (rfl) ((hf 14 47 (by kernel_rfl) rfl).trans hv14)) ((hf 17 50 (by kernel_rfl) rfl).trans hv17)
              refine ls_fr hF ?_
              refine ls_val (v := .bool false) rfl rfl (by kernel_rfl) (fun w => by kernel_rfl) ?_
              exact ls_fin s0 (.bool false) (congrArg (fun z => upd z 51 _) hF.symm) ⟨rfl, rfl⟩ (sub_nil _)
            · refine ⟨fun o ho vs Rs f' S' w hp hf hx hS hR hs => ?_⟩
              obtain rfl := Option.some.inj ho
              obtain ⟨hv18, hR18⟩ := hp 18 (by kernel_rfl)
              refine And.intro (want_none rfl) (And.intro (fun _ => ?_) (fun h => by cases h))
              have hF := fr_next (rfl) ((hf 18 51 (by kernel_rfl) rfl).trans hv18)
              refine ls_fr hF ?_
              refine ls_val (v := .bool false) rfl rfl (by kernel_rfl) (fun w => by kernel_rfl) ?_
              exact ls_fin s0 (.bool false) (congrArg (fun z => upd z 52 _) hF.symm) ⟨rfl, rfl⟩ (sub_nil _)
            · refine ⟨fun o ho vs Rs f' S' w hp hf hx hS hR hs => ?_⟩
              obtain rfl := Option.some.inj ho
              obtain ⟨hv19, hR19⟩ := hp 19 (by kernel_rfl)
              refine And.intro ?_ (And.intro ?_ ?_)
              · exact want_is (j := 19) (t := 52) rfl rfl (by kernel_rfl) ((hf 19 52 (by kernel_rfl) rfl).trans hv19) rfl
              · intro h; cases h
              · intro _; exact ⟨rfl, rfl⟩
            · refine ⟨fun o ho vs Rs f' S' w hp hf hx hS hR hs => ?_⟩
              obtain rfl := Option.some.inj ho
              obtain ⟨hv19, hR19⟩ := hp 19 (by kernel_rfl)
              refine And.intro ?_ (And.intro ?_ ?_)
              · exact want_is (j := 19) (t := 52) rfl rfl (by kernel_rfl) ((hf 19 52 (by kernel_rfl) rfl).trans hv19) rfl
              · intro h; cases h
              · intro _; exact ⟨rfl, rfl⟩
            · refine ⟨fun o ho vs Rs f' S' w hp hf hx hS hR hs => ?_⟩
              obtain rfl := Option.some.inj ho
              obtain ⟨hv19, hR19⟩ := hp 19 (by kernel_rfl)
              obtain ⟨hv20, hR20⟩ := hp 20 (by kernel_rfl)
              obtain ⟨hv21, hR21⟩ := hp 21 (by kernel_rfl)
              refine And.intro ?_ (And.intro ?_ ?_)
              · exact want_is (j := 19) (t := 52) rfl rfl (by kernel_rfl) ((hf 19 52 (by kernel_rfl) rfl).trans hv19) rfl
              · intro h; cases h
              · intro _; exact ⟨rfl, rfl⟩
            · refine ⟨fun o ho vs Rs f' S' w hp hf hx hS hR hs => ?_⟩
              obtain rfl := Option.some.inj ho
              obtain ⟨hv19, hR19⟩ := hp 19 (by kernel_rfl)
              obtain ⟨hv22, hR22⟩ := hp 22 (by kernel_rfl)
              refine And.intro (want_none rfl) (And.intro (fun _ => ?_) (fun h => by cases h))
              have hF := fr_next (fr_next (rfl) ((hf 19 52 (by kernel_rfl) rfl).trans hv19)) ((hf 22 55 (by kernel_rfl) rfl).trans hv22)
              refine ls_fr hF ?_
              refine ls_val (v := .bool false) rfl rfl (by kernel_rfl) (fun w => by kernel_rfl) ?_
              exact ls_fin s0 (.bool false) (congrArg (fun z => upd z 56 _) hF.symm) ⟨rfl, rfl⟩ (sub_nil _)
            · refine ⟨fun o ho vs Rs f' S' w hp hf hx hS hR hs => ?_⟩
              obtain rfl := Option.some.inj ho
              obtain ⟨hv23, hR23⟩ := hp 23 (by kernel_rfl)
              refine And.intro (want_none rfl) (And.intro (fun _ => ?_) (fun h => by cases h))
              have hF := fr_next (rfl) ((hf 23 56 (by kernel_rfl) rfl).trans hv23)
              refine ls_fr hF ?_
              refine ls_val (v := .bool false) rfl rfl (by kernel_rfl) (fun w => by kernel_rfl) ?_
              exact ls_fin s0 (.bool false) (congrArg (fun z => upd z 57 _) hF.symm) ⟨rfl, rfl⟩ (sub_nil _)
            · refine ⟨fun o ho vs Rs f' S' w hp hf hx hS hR hs => ?_⟩
              obtain rfl := Option.some.inj ho
              obtain ⟨hv24, hR24⟩ := hp 24 (by kernel_rfl)
              refine And.intro ?_ (And.intro ?_ ?_)
              · exact want_is (j := 24) (t := 57) rfl rfl (by kernel_rfl) ((hf 24 57 (by kernel_rfl) rfl).trans hv24) rfl
              · intro h; cases h
              · intro _; exact ⟨rfl, rfl⟩
            · refine ⟨fun o ho vs Rs f' S' w hp hf hx hS hR hs => ?_⟩
              obtain rfl := Option.some.inj ho
              obtain ⟨hv24, hR24⟩ := hp 24 (by kernel_rfl)
              obtain ⟨hv25, hR25⟩ := hp 25 (by kernel_rfl)
              refine And.intro ?_ (And.intro ?_ ?_)
              · exact want_is (j := 24) (t := 57) rfl rfl (by kernel_rfl) ((hf 24 57 (by kernel_rfl) rfl).trans hv24) rfl
              · intro h; cases h
              · intro _; exact ⟨rfl, rfl⟩
            · refine ⟨fun o ho vs Rs f' S' w hp hf hx hS hR hs => ?_⟩
              obtain rfl := Option.some.inj ho
              obtain ⟨hv24, hR24⟩ := hp 24 (by kernel_rfl)
              refine And.intro ?_ (And.intro ?_ ?_)
              · exact want_is (j := 24) (t := 57) rfl rfl (by kernel_rfl) ((hf 24 57 (by kernel_rfl) rfl).trans hv24) rfl
              · intro h; cases h
              · intro _; exact ⟨rfl, rfl⟩
          · intro vs Rs f' S' hp hf hx hS hR
            obtain ⟨x12, hv2, hR2⟩ := hp 2 (by kernel_rfl)
            have hT2_0 := (hR 2 0 (by kernel_rfl) (by decide)).trans (congrFun hR2 0)
            obtain ⟨x15, hv6, hR6⟩ := hp 6 (by kernel_rfl)
            have hT6_0 := (hR 6 0 (by kernel_rfl) (by decide)).trans (congrFun hR6 0)
            obtain ⟨hv24, hR24⟩ := hp 24 (by kernel_rfl)
            obtain ⟨hv26, hR26⟩ := hp 26 (by kernel_rfl)
            obtain ⟨hv27, hR27⟩ := hp 27 (by kernel_rfl)
            refine ls_fr (F := upd f' 57 (.bool false)) (fr_next (rfl) ((hf 24 57 (by kernel_rfl) rfl).trans hv24)) ?_
            refine ls_sub (s0) (sub_nil _) ?_
            refine ls_off (j := 24) (t := 57) (b := true) (c := false) rfl rfl (by kernel_rfl) (by kernel_rfl) rfl rfl (by kernel_rfl) ?_
            refine ls_off (j := 24) (t := 57) (b := true) (c := false) rfl rfl (by kernel_rfl) (by kernel_rfl) rfl rfl (by kernel_rfl) ?_
            refine ls_val (v := .bool false) rfl rfl (by kernel_rfl) (fun w => by kernel_rfl) ?_
            refine ls_val (v := .bool false) rfl rfl (by kernel_rfl) (fun w => by kernel_rfl) ?_
            refine ls_off (j := 31) (t := 64) (b := true) (c := false) rfl rfl (by kernel_rfl) (by kernel_rfl) rfl rfl (by kernel_rfl) ?_
            refine ls_off (j := 31) (t := 64) (b := true) (c := false) rfl rfl (by kernel_rfl) (by kernel_rfl) rfl rfl (by kernel_rfl) ?_
            refine ls_val (v := .bool false) rfl rfl (by kernel_rfl) (fun w => by kernel_rfl) ?_
            refine ls_val (v := .bool false) rfl rfl (by kernel_rfl) (fun w => by kernel_rfl) ?_
            refine ls_end ?_
            refine qn_then ?_
            refine cs_ret' ?_
            obtain rfl := Option.some.inj H
            refine qr_end1 rfl (fun w' hs => ⟨(), rfl, ?_⟩)
            exact hs.sub (sub_nil _)
      · replace H := ite_f q17 H
        refine cs_draw (l := [_, _, _, _, _, _, _, _, _, _, _, _, _, _, _, _, _, _, _, _, _, _, _, _, _, _, _, _, _, _, _, _, _, _, _, _]) [[], [], [0, 1], [0, 1, 2], [], [], [0, 1, 2, 4, 5], [0, 1, 2, 4, 5, 6], [0, 1, 2, 3, 4, 5, 6, 7], [0, 1, 2, 3, 4, 5, 6, 7, 8], [0, 1, 2, 3, 4, 5, 6, 7, 8, 9], [0, 1, 2, 3, 4, 5, 6, 7, 8, 9], [0, 1, 2, 3, 4, 5, 6, 7, 8, 9, 10, 11], [0, 1, 2, 3, 4, 5, 6, 7, 8, 9, 10, 11, 12], [0, 1, 2, 3, 4, 5, 6, 7, 8, 9, 10, 11, 12, 13], [0, 1, 2, 3, 4, 5, 6, 7, 8, 9, 10, 11, 12, 13, 14], [0, 1, 2, 3, 4, 5, 6, 7, 8, 9, 10, 11, 12, 13, 14], [0, 1, 2, 3, 4, 5, 6, 7, 8, 9, 10, 11, 12, 13, 14, 15, 16], [0, 1, 2, 3, 4, 5, 6, 7, 8, 9, 10, 11, 12, 13, 14, 15, 16, 17], [0, 1, 2, 3, 4, 5, 6, 7, 8, 9, 10, 11, 12, 13, 14, 15, 16, 17, 18], [0, 1, 2, 3, 4, 5, 6, 7, 8, 9, 10, 11, 12, 13, 14, 15, 16, 17, 18, 19], [0, 1, 2, 3, 4, 5, 6, 7, 8, 9, 10, 11, 12, 13, 14, 15, 16, 17, 18, 19], [0, 1, 2, 3, 4, 5, 6, 7, 8, 9, 10, 11, 12, 13, 14, 15, 16, 17, 18, 19, 20, 21], [0, 1, 2, 3, 4, 5, 6, 7, 8, 9, 10, 11, 12, 13, 14, 15, 16, 17, 18, 19, 20, 21, 22], [0, 1, 2, 3, 4, 5, 6, 7, 8, 9, 10, 11, 12, 13, 14, 15, 16, 17, 18, 19, 20, 21, 22, 23], [0, 1, 2, 3, 4, 5, 6, 7, 8, 9, 10, 11, 12, 13, 14, 15, 16, 17, 18, 19, 20, 21, 22, 23, 24], [0, 1, 2, 3, 4, 5, 6, 7, 8, 9, 10, 11, 12, 13, 14, 15, 16, 17, 18, 19, 20, 21, 22, 23, 24, 25], [0, 1, 2, 3, 4, 5, 6, 7, 8, 9, 10, 11, 12, 13, 14, 15, 16, 17, 18, 19, 20, 21, 22, 23, 24], [0, 1, 2, 3, 4, 5, 6, 7, 8, 9, 10, 11, 12, 13, 14, 15, 16, 17, 18, 19, 20, 21, 22, 23, 24, 25, 26, 27], [0, 1, 2, 3, 4, 5, 6, 7, 8, 9, 10, 11, 12, 13, 14, 15, 16, 17, 18, 19, 20, 21, 22, 23, 24, 25, 26, 27, 28], [0, 1, 2, 3, 4, 5, 6, 7, 8, 9, 10, 11, 12, 13, 14, 15, 16, 17, 18, 19, 20, 21, 22, 23, 24, 25, 26, 27, 28, 29], [0, 1, 2, 3, 4, 5, 6, 7, 8, 9, 10, 11, 12, 13, 14, 15, 16, 17, 18, 19, 20, 21, 22, 23, 24, 25, 26, 27, 28, 29, 30], [0, 1, 2, 3, 4, 5, 6, 7, 8, 9, 10, 11, 12, 13, 14, 15, 16, 17, 18, 19, 20, 21, 22, 23, 24, 25, 26, 27, 28, 29, 30, 31], [0, 1, 2, 3, 4, 5, 6, 7, 8, 9, 10, 11, 12, 13, 14, 15, 16, 17, 18, 19, 20, 21, 22, 23, 24, 25, 26, 27, 28, 29, 30, 31, 32], [0, 1, 2, 3, 4, 5, 6, 7, 8, 9, 10, 11, 12, 13, 14, 15, 16, 17, 18, 19, 20, 21, 22, 23, 24, 25, 26, 27, 28, 29, 30, 31, 32, 33], [0, 1, 2, 3, 4, 5, 6, 7, 8, 9, 10, 11, 12, 13, 14, 15, 16, 17, 18, 19, 20, 21, 22, 23, 24, 25, 26, 27, 28, 29, 30, 31, 32, 33, 34]] 28 0 (spl [fun v R => v = .slice A0 l0.length c0 ∧ R = s0, fun v R => v = .string a1 ∧ R = s0, fun v R => ∃ x12 : (Option Addr × Nat), v = .slice x12.1 t10.length x12.2 ∧ R = sput s0 0 (some (Ck.sl 5 (Value.int .u8) x12.1 x12.2 t10)), fun v R => v = .string (strOfNums t10) ∧ R = s0, fun v R => v = .slice A0 l0.length c0 ∧ R = s0, fun v R => v = .string a1 ∧ R = s0, fun v R => ∃ x15 : (Option Addr × Nat), v = .slice x15.1 t13.length x15.2 ∧ R = sput s0 0 (some (Ck.sl 5 (Value.int .u8) x15.1 x15.2 t13)), fun v R => v = .string (strOfNums t13) ∧ R = s0, fun v R => v = .bool true ∧ R = s0, fun v R => v = .bool true ∧ R = s0, fun v R => v = .string t4.1 ∧ R = s0, fun v R => v = .string t7.1 ∧ R = s0, fun v R => v = .bool false ∧ R = s0, fun v R => v = .bool false ∧ R = s0, fun v R => v = .bool false ∧ R = s0, fun v R => v = undef ∧ R = s0, fun v R => v = undef ∧ R = s0, fun v R => v = undef ∧ R = s0, fun v R => v = .bool false ∧ R = s0, fun v R => v = .bool false ∧ R = s0, fun v R => v = undef ∧ R = s0, fun v R => v = undef ∧ R = s0, fun v R => v = undef ∧ R = s0, fun v R => v = .bool false ∧ R = s0, fun v R => v = .bool false ∧ R = s0, fun v R => v = undef ∧ R = s0, fun v R => v = undef ∧ R = s0, fun v R => v = undef ∧ R = s0]) (onl [true, true, true, true, true, true, true, true, true, true, true, true, true, true, true, false, false, false, true, true, false, false, false, true, true, false, false, false]) (by kernel_rfl) (by kernel_rfl) (by kernel_rfl) (by kernel_rfl) (rs := [_, _, _, _, _, _, _, _]) rfl (by kernel_rfl) (by kernel_rfl) ?_ ?_
        · refine all_snoc (all_snoc (all_snoc (all_snoc (all_snoc (all_snoc (all_snoc (all_snoc (all_snoc (all_snoc (all_snoc (all_snoc (all_snoc (all_snoc (all_snoc (all_snoc (all_snoc (all_snoc (all_snoc (all_snoc (all_snoc (all_snoc (all_snoc (all_snoc (all_snoc (all_snoc (all_snoc (all_snoc (all_nil) ?_) ?_) ?_) ?_) ?_) ?_) ?_) ?_) ?_) ?_) ?_) ?_) ?_) ?_) ?_) ?_) ?_) ?_) ?_) ?_) ?_) ?_) ?_) ?_) ?_) ?_) ?_) ?_
          · refine ⟨fun o ho vs Rs f' S' w hp hf hx hS hR hs => ?_⟩
            obtain rfl := Option.some.inj ho
            refine And.intro (want_none rfl) (And.intro (fun _ => ?_) (fun h => by cases h))
            have hF := fr_next (rfl) ((hx 0 (by kernel_rfl)).trans (by kernel_rfl : (_ : Value) = .slice A0 l0.length c0))
            refine ls_fr hF ?_
            refine ls_val (v := .slice A0 l0.length c0) rfl rfl (by kernel_rfl) (fun w => by kernel_rfl) ?_
            exact ls_fin s0 (.slice A0 l0.length c0) (congrArg (fun z => upd z 33 _) hF.symm) ⟨rfl, rfl⟩ (sub_nil _)
          · refine ⟨fun o ho vs Rs f' S' w hp hf hx hS hR hs => ?_⟩
            obtain rfl := Option.some.inj ho
            refine And.intro (want_none rfl) (And.intro (fun _ => ?_) (fun h => by cases h))
            have hF := fr_next (rfl) ((hx 1 (by kernel_rfl)).trans (by kernel_rfl : (_ : Value) = .string a1))
            refine ls_fr hF ?_
            refine ls_val (v := .string a1) rfl rfl (by kernel_rfl) (fun w => by kernel_rfl) ?_
            exact ls_fin s0 (.string a1) (congrArg (fun z => upd z 34 _) hF.symm) ⟨rfl, rfl⟩ (sub_nil _)
          · refine ⟨fun o ho vs Rs f' S' w hp hf hx hS hR hs => ?_⟩
            obtain rfl := Option.some.inj ho
            obtain ⟨hv0, hR0⟩ := hp 0 (by kernel_rfl)
            obtain ⟨hv1, hR1⟩ := hp 1 (by kernel_rfl)
            refine And.intro (want_none rfl) (And.intro (fun _ => ?_) (fun h => by cases h))
            have hF := fr_next (fr_next (rfl) ((hf 0 33 (by kernel_rfl) rfl).trans hv0)) ((hf 1 34 (by kernel_rfl) rfl).trans hv1)
            refine ls_fr hF ?_
            refine ls_call (fid := 21) (vals := #[.slice A0 l0.length c0, .string a1]) (X := (Option Addr × Nat)) (fun x => .slice x.1 t10.length x.2) (fun x => sput s0 0 (some (Ck.sl 5 (Value.int .u8) x.1 x.2 t10))) 0 rfl rfl (by kernel_rfl) (fun w => by kernel_rfl) (fun w1 hs1 => codec_Text.calls k A0 c0 l0 a1 t10 w1 (hs1.old (hs.old R0)) C0 hc11) ?_
            intro x12
            exact ls_fin (sput s0 0 (some (Ck.sl 5 (Value.int .u8) x12.1 x12.2 t10))) (.slice x12.1 t10.length x12.2) (congrArg (fun z => upd z 35 _) hF.symm) ⟨x12, rfl, rfl⟩ (sub_put (by exact rfl) (sub_nil _))
          · refine ⟨fun o ho vs Rs f' S' w hp hf hx hS hR hs => ?_⟩
            obtain rfl := Option.some.inj ho
            obtain ⟨x12, hv2, hR2⟩ := hp 2 (by kernel_rfl)
            have hT2_0 := (hR 2 0 (by kernel_rfl) (by decide)).trans (congrFun hR2 0)
            refine And.intro (want_none rfl) (And.intro (fun _ => ?_) (fun h => by cases h))
            have hF := fr_next (rfl) ((hf 2 35 (by kernel_rfl) rfl).trans hv2)
            refine ls_fr hF ?_
            refine ls_str (A := x12.1) (c := x12.2) (e := 5) (l := t10) rfl rfl (by kernel_rfl) rfl (by kernel_rfl) (by kernel_rfl) (by kernel_rfl) (by kernel_rfl) (fun w1 hs1 => (hs1.old (hs.rd (k := 16) hT2_0))) ?_
            exact ls_fin s0 (.string (strOfNums t10)) (congrArg (fun z => upd z 36 _) hF.symm) ⟨rfl, rfl⟩ (sub_nil _)
          · refine ⟨fun o ho vs Rs f' S' w hp hf hx hS hR hs => ?_⟩
            obtain rfl := Option.some.inj ho
            refine And.intro (want_none rfl) (And.intro (fun _ => ?_) (fun h => by cases h))
            have hF := fr_next (rfl) ((hx 0 (by kernel_rfl)).trans (by kernel_rfl : (_ : Value) = .slice A0 l0.length c0))
            refine ls_fr hF ?_
            refine ls_val (v := .slice A0 l0.length c0) rfl rfl (by kernel_rfl) (fun w => by kernel_rfl) ?_
            exact ls_fin s0 (.slice A0 l0.length c0) (congrArg (fun z => upd z 37 _) hF.symm) ⟨rfl, rfl⟩ (sub_nil _)
          · refine ⟨fun o ho vs Rs f' S' w hp hf hx hS hR hs => ?_⟩
            obtain rfl := Option.some.inj ho
            refine And.intro (want_none rfl) (And.intro (fun _ => ?_) (fun h => by cases h))
            have hF := fr_next (rfl) ((hx 1 (by kernel_rfl)).trans (by kernel_rfl : (_ : Value) = .string a1))
            refine ls_fr hF ?_
            refine ls_val (v := .string a1) rfl rfl (by kernel_rfl) (fun w => by kernel_rfl) ?_
            exact ls_fin s0 (.string a1) (congrArg (fun z => upd z 38 _) hF.symm) ⟨rfl, rfl⟩ (sub_nil _)
          · refine ⟨fun o ho vs Rs f' S' w hp hf hx hS hR hs => ?_⟩
            obtain rfl := Option.some.inj ho
            obtain ⟨hv4, hR4⟩ := hp 4 (by kernel_rfl)
            obtain ⟨hv5, hR5⟩ := hp 5 (by kernel_rfl)
            refine And.intro (want_none rfl) (And.intro (fun _ => ?_) (fun h => by cases h))
            have hF := fr_next (fr_next (rfl) ((hf 4 37 (by kernel_rfl) rfl).trans hv4)) ((hf 5 38 (by kernel_rfl) rfl).trans hv5)
            refine ls_fr hF ?_
            refine ls_call (fid := 22) (vals := #[.slice A0 l0.length c0, .string a1]) (X := (Option Addr × Nat)) (fun x => .slice x.1 t13.length x.2) (fun x => sput s0 0 (some (Ck.sl 5 (Value.int .u8) x.1 x.2 t13))) 0 rfl rfl (by kernel_rfl) (fun w => by kernel_rfl) (fun w1 hs1 => shadowboxref01_Text.calls k A0 c0 l0 a1 t13 w1 (hs1.old (hs.old R0)) C0 hc14) ?_
            intro x15
            exact ls_fin (sput s0 0 (some (Ck.sl 5 (Value.int .u8) x15.1 x15.2 t13))) (.slice x15.1 t13.length x15.2) (congrArg (fun z => upd z 39 _) hF.symm) ⟨x15, rfl, rfl⟩ (sub_put (by exact rfl) (sub_nil _))
          · refine ⟨fun o ho vs Rs f' S' w hp hf hx hS hR hs => ?_⟩
            obtain rfl := Option.some.inj ho
            obtain ⟨x15, hv6, hR6⟩ := hp 6 (by kernel_rfl)
            have hT6_0 := (hR 6 0 (by kernel_rfl) (by decide)).trans (congrFun hR6 0)
            refine And.intro (want_none rfl) (And.intro (fun _ => ?_) (fun h => by cases h))
            have hF := fr_next (rfl) ((hf 6 39 (by kernel_rfl) rfl).trans hv6)
            refine ls_fr hF ?_
            refine ls_str (A := x15.1) (c := x15.2) (e := 5) (l := t13) rfl rfl (by kernel_rfl) rfl (by kernel_rfl) (by kernel_rfl) (by kernel_rfl) (by kernel_rfl) (fun w1 hs1 => (hs1.old (hs.rd (k := 48) hT6_0))) ?_
            exact ls_fin s0 (.string (strOfNums t13)) (congrArg (fun z => upd z 40 _) hF.symm) ⟨rfl, rfl⟩ (sub_nil _)
          · refine ⟨fun o ho vs Rs f' S' w hp hf hx hS hR hs => ?_⟩
            obtain rfl := Option.some.inj ho
            obtain ⟨hv3, hR3⟩ := hp 3 (by kernel_rfl)
            obtain ⟨hv7, hR7⟩ := hp 7 (by kernel_rfl)
            refine And.intro (want_none rfl) (And.intro (fun _ => ?_) (fun h => by cases h))
            have hF := fr_next (fr_next (rfl) ((hf 3 36 (by kernel_rfl) rfl).trans hv3)) ((hf 7 40 (by kernel_rfl) rfl).trans hv7)
            refine ls_fr hF ?_
            refine ls_val (v := .bool ((strOfNums t10).toList == (strOfNums t13).toList)) rfl rfl (by kernel_rfl) (fun w => by kernel_rfl) ?_
            refine ls_ren 41 (v := .bool ((strOfNums t10).toList == (strOfNums t13).toList)) (v' := .bool true) (by kernel_rfl) (congrArg Value.bool (show ((strOfNums t10).toList == (strOfNums t13).toList) = true from q16)) ?_
            exact ls_fin s0 (.bool true) ((upd_upd _ _ _ _).trans (congrArg (fun z => upd z 41 _) hF.symm)) ⟨rfl, rfl⟩ (sub_nil _)
          · refine ⟨fun o ho vs Rs f' S' w hp hf hx hS hR hs => ?_⟩
            obtain rfl := Option.some.inj ho
            obtain ⟨hv8, hR8⟩ := hp 8 (by kernel_rfl)
            refine And.intro (want_none rfl) (And.intro (fun _ => ?_) (fun h => by cases h))
            have hF := fr_next (rfl) ((hf 8 41 (by kernel_rfl) rfl).trans hv8)
            refine ls_fr hF ?_
            refine ls_val (v := .bool true) rfl rfl (by kernel_rfl) (fun w => by kernel_rfl) ?_
            exact ls_fin s0 (.bool true) (congrArg (fun z => upd z 42 _) hF.symm) ⟨rfl, rfl⟩ (sub_nil _)
          · refine ⟨fun o ho vs Rs f' S' w hp hf hx hS hR hs => ?_⟩
            obtain rfl := Option.some.inj ho
            obtain ⟨hv9, hR9⟩ := hp 9 (by kernel_rfl)
            refine And.intro (want_is (j := 9) (t := 42) rfl rfl (by kernel_rfl) ((hf 9 42 (by kernel_rfl) rfl).trans hv9) rfl) (And.intro (fun _ => ?_) (fun h => by cases h))
            have hF := fr_next (fr_next (rfl) ((hx 7 (by kernel_rfl)).trans (by kernel_rfl : (_ : Value) = .string t4.1))) ((hf 9 42 (by kernel_rfl) rfl).trans hv9)
            refine ls_fr hF ?_
            refine ls_val (v := .string t4.1) rfl rfl (by kernel_rfl) (fun w => by kernel_rfl) ?_
            exact ls_fin s0 (.string t4.1) (congrArg (fun z => upd z 43 _) hF.symm) ⟨rfl, rfl⟩ (sub_nil _)
          · refine ⟨fun o ho vs Rs f' S' w hp hf hx hS hR hs => ?_⟩
            obtain rfl := Option.some.inj ho
            obtain ⟨hv9, hR9⟩ := hp 9 (by kernel_rfl)
            refine And.intro (want_is (j := 9) (t := 42) rfl rfl (by kernel_rfl) ((hf 9 42 (by kernel_rfl) rfl).trans hv9) rfl) (And.intro (fun _ => ?_) (fun h => by cases h))
            have hF := fr_next (fr_next (rfl) ((hx 10 (by kernel_rfl)).trans (by kernel_rfl : (_ : Value) = .string t7.1))) ((hf 9 42 (by kernel_rfl) rfl).trans hv9)
            refine ls_fr hF ?_
            refine ls_val (v := .string t7.1) rfl rfl (by kernel_rfl) (fun w => by kernel_rfl) ?_
            exact ls_fin s0 (.string t7.1) (congrArg (fun z => upd z 44 _) hF.symm) ⟨rfl, rfl⟩ (sub_nil _)
          · refine ⟨fun o ho vs Rs f' S' w hp hf hx hS hR hs => ?_⟩
            obtain rfl := Option.some.inj ho
            obtain ⟨hv9, hR9⟩ := hp 9 (by kernel_rfl)
            obtain ⟨hv10, hR10⟩ := hp 10 (by kernel_rfl)
            obtain ⟨hv11, hR11⟩ := hp 11 (by kernel_rfl)
            refine And.intro (want_is (j := 9) (t := 42) rfl rfl (by kernel_rfl) ((hf 9 42 (by kernel_rfl) rfl).trans hv9) rfl) (And.intro (fun _ => ?_) (fun h => by cases h))
            have hF := fr_next (fr_next (fr_next (rfl) ((hf 9 42 (by kernel_rfl) rfl).trans hv9)) ((hf 10 43 (by kernel_rfl) rfl).trans hv10)) ((hf 11 44 (by kernel_rfl) rfl).trans hv11)
            refine ls_fr hF ?_
            refine ls_val (v := .bool (t4.1.toList == t7.1.toList)) rfl rfl (by kernel_rfl) (fun w => by kernel_rfl) ?_
            refine ls_ren 45 (v := .bool (t4.1.toList == t7.1.toList)) (v' := .bool false) (by kernel_rfl) (congrArg Value.bool (show (t4.1.toList == t7.1.toList) = false from Bool.eq_false_iff.mpr q17)) ?_
            exact ls_fin s0 (.bool false) ((upd_upd _ _ _ _).trans (congrArg (fun z => upd z 45 _) hF.symm)) ⟨rfl, rfl⟩ (sub_nil _)
          · refine ⟨fun o ho vs Rs f' S' w hp hf hx hS hR hs => ?_⟩
            obtain rfl := Option.some.inj ho
            obtain ⟨hv9, hR9⟩ := hp 9 (by kernel_rfl)
            obtain ⟨hv12, hR12⟩ := hp 12 (by kernel_rfl)
            refine And.intro (want_none rfl) (And.intro (fun _ => ?_) (fun h => by cases h))
            have hF := fr_next (fr_next (rfl) ((hf 9 42 (by kernel_rfl) rfl).trans hv9)) ((hf 12 45 (by kernel_rfl) rfl).trans hv12)
            refine ls_fr hF ?_
            refine ls_val (v := .bool false) rfl rfl (by kernel_rfl) (fun w => by kernel_rfl) ?_
            exact ls_fin s0 (.bool false) (congrArg (fun z => upd z 46 _) hF.symm) ⟨rfl, rfl⟩ (sub_nil _)
          · refine ⟨fun o ho vs Rs f' S' w hp hf hx hS hR hs => ?_⟩
            obtain rfl := Option.some.inj ho
            obtain ⟨hv13, hR13⟩ := hp 13 (by kernel_rfl)
            refine And.intro (want_none rfl) (And.intro (fun _ => ?_) (fun h => by cases h))
            have hF := fr_next (rfl) ((hf 13 46 (by kernel_rfl) rfl).trans hv13)
            refine ls_fr hF ?_
            refine ls_val (v := .bool false) rfl rfl (by kernel_rfl) (fun w => by kernel_rfl) ?_
            exact ls_fin s0 (.bool false) (congrArg (fun z => upd z 47 _) hF.symm) ⟨rfl, rfl⟩ (sub_nil _)
          · refine ⟨fun o ho vs Rs f' S' w hp hf hx hS hR hs => ?_⟩
            obtain rfl := Option.some.inj ho
            obtain ⟨hv14, hR14⟩ := hp 14 (by kernel_rfl)
            refine And.intro ?_ (And.intro ?_ ?_)
            · exact want_is (j := 14) (t := 47) rfl rfl (by kernel_rfl) ((hf 14 47 (by kernel_rfl) rfl).trans hv14) rfl
            · intro h; cases h
            · intro _; exact ⟨rfl, rfl⟩
          · refine ⟨fun o ho vs Rs f' S' w hp hf hx hS hR hs => ?_⟩
            obtain rfl := Option.some.inj ho
            obtain ⟨hv14, hR14⟩ := hp 14 (by kernel_rfl)
            refine And.intro ?_ (And.intro ?_ ?_)
            · exact want_is (j := 14) (t := 47) rfl rfl (by kernel_rfl) ((hf 14 47 (by kernel_rfl) rfl).trans hv14) rfl
            · intro h; cases h
            · intro _; exact ⟨rfl, rfl⟩
          · refine ⟨fun o ho vs Rs f' S' w hp hf hx hS hR hs => ?_⟩
            obtain rfl := Option.some.inj ho
            obtain ⟨hv14, hR14⟩ := hp 14 (by kernel_rfl)
            obtain ⟨hv15, hR15⟩ := hp 15 (by kernel_rfl)
            obtain ⟨hv16, hR16⟩ := hp 16 (by kernel_rfl)
            refine And.intro ?_ (And.intro ?_ ?_)
            · exact want_is (j := 14) (t := 47) rfl rfl (by kernel_rfl) ((hf 14 47 (by kernel_rfl) rfl).trans hv14) rfl
            · intro h; cases h
            · intro _; exact ⟨rfl, rfl⟩
          · refine ⟨fun o ho vs Rs f' S' w hp hf hx hS hR hs => ?_⟩
            obtain rfl := Option.some.inj ho
            obtain ⟨hv14, hR14⟩ := hp 14 (by kernel_rfl)
            obtain ⟨hv17, hR17⟩ := hp 17 (by kernel_rfl)
            refine And.intro (want_none rfl) (And.intro (fun _ => ?_) (fun h => by cases h))
            have hF := fr_next (fr_next (rfl) ((hf 14 47 (by kernel_rfl) rfl).trans hv14)) ((hf 17 50 (by kernel_rfl) rfl).trans hv17)
            refine ls_fr hF ?_
            refine ls_val (v := .bool false) rfl rfl (by kernel_rfl) (fun w => by kernel_rfl) ?_
            exact ls_fin s0 (.bool false) (congrArg (fun z => upd z 51 _) hF.symm) ⟨rfl, rfl⟩ (sub_nil _)
          · refine ⟨fun o ho vs Rs f' S' w hp hf hx hS hR hs => ?_⟩
            obtain rfl := Option.some.inj ho
            obtain ⟨hv18, hR18⟩ := hp 18 (by kernel_rfl)
            refine And.intro (want_none rfl) (And.intro (fun _ => ?_) (fun h => by cases h))
            have hF := fr_next (rfl) ((hf 18 51 (by kernel_rfl) rfl).trans hv18)
            refine ls_fr hF ?_
            refine ls_val (v := .bool false) rfl rfl (by kernel_rfl) (fun w => by kernel_rfl) ?_
            exact ls_fin s0 (.bool false) (congrArg (fun z => upd z 52 _) hF.symm) ⟨rfl, rfl⟩ (sub_nil _)
          · refine ⟨fun o ho vs Rs f' S' w hp hf hx hS hR hs => ?_⟩
            obtain rfl := Option.some.inj ho
            obtain ⟨hv19, hR19⟩ := hp 19 (by kernel_rfl)
            refine And.intro ?_ (And.intro ?_ ?_)
            · exact want_is (j := 19) (t := 52) rfl rfl (by kernel_rfl) ((hf 19 52 (by kernel_rfl) rfl).trans hv19) rfl
            · intro h; cases h
            · intro _; exact ⟨rfl, rfl⟩
          · refine ⟨fun o ho vs Rs f' S' w hp hf hx hS hR hs => ?_⟩
            obtain rfl := Option.some.inj ho
            obtain ⟨hv19, hR19⟩ := hp 19 (by kernel_rfl)
            refine And.intro ?_ (And.intro ?_ ?_)
            · exact want_is (j := 19) (t := 52) rfl rfl (by kernel_rfl) ((hf 19 52 (by kernel_rfl) rfl).trans hv19) rfl
            · intro h; cases h
            · intro _; exact ⟨rfl, rfl⟩
          · refine ⟨fun o ho vs Rs f' S' w hp hf hx hS hR hs => ?_⟩
            obtain rfl := Option.some.inj ho
            obtain ⟨hv19, hR19⟩ := hp 19 (by kernel_rfl)
            obtain ⟨hv20, hR20⟩ := hp 20 (by kernel_rfl)
            obtain ⟨hv21, hR21⟩ := hp 21 (by kernel_rfl)
            refine And.intro ?_ (And.intro ?_ ?_)
            · exact want_is (j := 19) (t := 52) rfl rfl (by kernel_rfl) ((hf 19 52 (by kernel_rfl) rfl).trans hv19) rfl
            · intro h; cases h
            · intro _; exact ⟨rfl, rfl⟩
          · refine ⟨fun o ho vs Rs f' S' w hp hf hx hS hR hs => ?_⟩
            obtain rfl := Option.some.inj ho
            obtain ⟨hv19, hR19⟩ := hp 19 (by kernel_rfl)
            obtain ⟨hv22, hR22⟩ := hp 22 (by kernel_rfl)
            refine And.intro (want_none rfl) (And.intro (fun _ => ?_) (fun h => by cases h))
            have hF := fr_next (fr_next (rfl) ((hf 19 52 (by kernel_rfl) rfl).trans hv19)) ((hf 22 55 (by kernel_rfl) rfl).trans hv22)
            refine ls_fr hF ?_
            refine ls_val (v := .bool false) rfl rfl (by kernel_rfl) (fun w => by kernel_rfl) ?_
            exact ls_fin s0 (.bool false) (congrArg (fun z => upd z 56 _) hF.symm) ⟨rfl, rfl⟩ (sub_nil _)
          · refine ⟨fun o ho vs Rs f' S' w hp hf hx hS hR hs => ?_⟩
            obtain rfl := Option.some.inj ho
            obtain ⟨hv23, hR23⟩ := hp 23 (by kernel_rfl)
            refine And.intro (want_none rfl) (And.intro (fun _ => ?_) (fun h => by cases h))
            have hF := fr_next (rfl) ((hf 23 56 (by kernel_rfl) rfl).trans hv23)
            refine ls_fr hF ?_
            refine ls_val (v := .bool false) rfl rfl (by kernel_rfl) (fun w => by kernel_rfl) ?_
            exact ls_fin s0 (.bool false) (congrArg (fun z => upd z 57 _) hF.symm) ⟨rfl, rfl⟩ (sub_nil _)
          · refine ⟨fun o ho vs Rs f' S' w hp hf hx hS hR hs => ?_⟩
            obtain rfl := Option.some.inj ho
            obtain ⟨hv24, hR24⟩ := hp 24 (by kernel_rfl)
            refine And.intro ?_ (And.intro ?_ ?_)
            · exact want_is (j := 24) (t := 57) rfl rfl (by kernel_rfl) ((hf 24 57 (by kernel_rfl) rfl).trans hv24) rfl
            · intro h; cases h
            · intro _; exact ⟨rfl, rfl⟩
          · refine ⟨fun o ho vs Rs f' S' w hp hf hx hS hR hs => ?_⟩
            obtain rfl := Option.some.inj ho
            obtain ⟨hv24, hR24⟩ := hp 24 (by kernel_rfl)
            obtain ⟨hv25, hR25⟩ := hp 25 (by kernel_rfl)
            refine And.intro ?_ (And.intro ?_ ?_)
            · exact want_is (j := 24) (t := 57) rfl rfl (by kernel_rfl) ((hf 24 57 (by kernel_rfl) rfl).trans hv24) rfl
            · intro h; cases h
            · intro _; exact ⟨rfl, rfl⟩
          · refine ⟨fun o ho vs Rs f' S' w hp hf hx hS hR hs => ?_⟩
            obtain rfl := Option.some.inj ho
            obtain ⟨hv24, hR24⟩ := hp 24 (by kernel_rfl)
            refine And.intro ?_ (And.intro ?_ ?_)
            · exact want_is (j := 24) (t := 57) rfl rfl (by kernel_rfl) ((hf 24 57 (by kernel_rfl) rfl).trans hv24) rfl
            · intro h; cases h
            · intro _; exact ⟨rfl, rfl⟩
        · intro vs Rs f' S' hp hf hx hS hR
          obtain ⟨x12, hv2, hR2⟩ := hp 2 (by kernel_rfl)
          have hT2_0 := (hR 2 0 (by kernel_rfl) (by decide)).trans (congrFun hR2 0)
          obtain ⟨x15, hv6, hR6⟩ := hp 6 (by kernel_rfl)
          have hT6_0 := (hR 6 0 (by kernel_rfl) (by decide)).trans (congrFun hR6 0)
          obtain ⟨hv24, hR24⟩ := hp 24 (by kernel_rfl)
          obtain ⟨hv26, hR26⟩ := hp 26 (by kernel_rfl)
          obtain ⟨hv27, hR27⟩ := hp 27 (by kernel_rfl)
          refine ls_fr (F := upd f' 57 (.bool false)) (fr_next (rfl) ((hf 24 57 (by kernel_rfl) rfl).trans hv24)) ?_
          refine ls_sub (s0) (sub_nil _) ?_
          refine ls_off (j := 24) (t := 57) (b := true) (c := false) rfl rfl (by kernel_rfl) (by kernel_rfl) rfl rfl (by kernel_rfl) ?_
          refine ls_off (j := 24) (t := 57) (b := true) (c := false) rfl rfl (by kernel_rfl) (by kernel_rfl) rfl rfl (by kernel_rfl) ?_
          refine ls_val (v := .bool false) rfl rfl (by kernel_rfl) (fun w => by kernel_rfl) ?_
          refine ls_val (v := .bool false) rfl rfl (by kernel_rfl) (fun w => by kernel_rfl) ?_
          refine ls_off (j := 31) (t := 64) (b := true) (c := false) rfl rfl (by kernel_rfl) (by kernel_rfl) rfl rfl (by kernel_rfl) ?_
          refine ls_off (j := 31) (t := 64) (b := true) (c := false) rfl rfl (by kernel_rfl) (by kernel_rfl) rfl rfl (by kernel_rfl) ?_
          refine ls_val (v := .bool false) rfl rfl (by kernel_rfl) (fun w => by kernel_rfl) ?_
          refine ls_val (v := .bool false) rfl rfl (by kernel_rfl) (fun w => by kernel_rfl) ?_
          refine ls_end ?_
          refine qn_then ?_
          refine cs_ret' ?_
          obtain rfl := Option.some.inj H
          refine qr_end1 rfl (fun w' hs => ⟨(), rfl, ?_⟩)
          exact hs.sub (sub_nil _)
    · replace H := ite_f q16 H
      refine cs_draw (l := [_, _, _, _, _, _, _, _, _, _, _, _, _, _, _, _, _, _, _, _, _, _, _, _, _, _, _, _, _, _, _, _, _, _, _, _]) [[], [], [0, 1], [0, 1, 2], [], [], [0, 1, 2, 4, 5], [0, 1, 2, 4, 5, 6], [0, 1, 2, 3, 4, 5, 6, 7], [0, 1, 2, 3, 4, 5, 6, 7, 8], [0, 1, 2, 3, 4, 5, 6, 7, 8, 9], [0, 1, 2, 3, 4, 5, 6, 7, 8, 9], [0, 1, 2, 3, 4, 5, 6, 7, 8, 9, 10, 11], [0, 1, 2, 3, 4, 5, 6, 7, 8, 9, 10, 11, 12], [0, 1, 2, 3, 4, 5, 6, 7, 8, 9, 10, 11, 12, 13], [0, 1, 2, 3, 4, 5, 6, 7, 8, 9, 10, 11, 12, 13, 14], [0, 1, 2, 3, 4, 5, 6, 7, 8, 9, 10, 11, 12, 13, 14], [0, 1, 2, 3, 4, 5, 6, 7, 8, 9, 10, 11, 12, 13, 14, 15, 16], [0, 1, 2, 3, 4, 5, 6, 7, 8, 9, 10, 11, 12, 13, 14, 15, 16, 17], [0, 1, 2, 3, 4, 5, 6, 7, 8, 9, 10, 11, 12, 13, 14, 15, 16, 17, 18], [0, 1, 2, 3, 4, 5, 6, 7, 8, 9, 10, 11, 12, 13, 14, 15, 16, 17, 18, 19], [0, 1, 2, 3, 4, 5, 6, 7, 8, 9, 10, 11, 12, 13, 14, 15, 16, 17, 18, 19], [0, 1, 2, 3, 4, 5, 6, 7, 8, 9, 10, 11, 12, 13, 14, 15, 16, 17, 18, 19, 20, 21], [0, 1, 2, 3, 4, 5, 6, 7, 8, 9, 10, 11, 12, 13, 14, 15, 16, 17, 18, 19, 20, 21, 22], [0, 1, 2, 3, 4, 5, 6, 7, 8, 9, 10, 11, 12, 13, 14, 15, 16, 17, 18, 19, 20, 21, 22, 23], [0, 1, 2, 3, 4, 5, 6, 7, 8, 9, 10, 11, 12, 13, 14, 15, 16, 17, 18, 19, 20, 21, 22, 23, 24], [0, 1, 2, 3, 4, 5, 6, 7, 8, 9, 10, 11, 12, 13, 14, 15, 16, 17, 18, 19, 20, 21, 22, 23, 24, 25], [0, 1, 2, 3, 4, 5, 6, 7, 8, 9, 10, 11, 12, 13, 14, 15, 16, 17, 18, 19, 20, 21, 22, 23, 24], [0, 1, 2, 3, 4, 5, 6, 7, 8, 9, 10, 11, 12, 13, 14, 15, 16, 17, 18, 19, 20, 21, 22, 23, 24, 25, 26, 27], [0, 1, 2, 3, 4, 5, 6, 7, 8, 9, 10, 11, 12, 13, 14, 15, 16, 17, 18, 19, 20, 21, 22, 23, 24, 25, 26, 27, 28], [0, 1, 2, 3, 4, 5, 6, 7, 8, 9, 10, 11, 12, 13, 14, 15, 16, 17, 18, 19, 20, 21, 22, 23, 24, 25, 26, 27, 28, 29], [0, 1, 2, 3, 4, 5, 6, 7, 8, 9, 10, 11, 12, 13, 14, 15, 16, 17, 18, 19, 20, 21, 22, 23, 24, 25, 26, 27, 28, 29, 30], [0, 1, 2, 3, 4, 5, 6, 7, 8, 9, 10, 11, 12, 13, 14, 15, 16, 17, 18, 19, 20, 21, 22, 23, 24, 25, 26, 27, 28, 29, 30, 31], [0, 1, 2, 3, 4, 5, 6, 7, 8, 9, 10, 11, 12, 13, 14, 15, 16, 17, 18, 19, 20, 21, 22, 23, 24, 25, 26, 27, 28, 29, 30, 31, 32], [0, 1, 2, 3, 4, 5, 6, 7, 8, 9, 10, 11, 12, 13, 14, 15, 16, 17, 18, 19, 20, 21, 22, 23, 24, 25, 26, 27, 28, 29, 30, 31, 32, 33], [0, 1, 2, 3, 4, 5, 6, 7, 8, 9, 10, 11, 12, 13, 14, 15, 16, 17, 18, 19, 20, 21, 22, 23, 24, 25, 26, 27, 28, 29, 30, 31, 32, 33, 34]] 28 0 (spl [fun v R => v = .slice A0 l0.length c0 ∧ R = s0, fun v R => v = .string a1 ∧ R = s0, fun v R => ∃ x12 : (Option Addr × Nat), v = .slice x12.1 t10.length x12.2 ∧ R = sput s0 0 (some (Ck.sl 5 (Value.int .u8) x12.1 x12.2 t10)), fun v R => v = .string (strOfNums t10) ∧ R = s0, fun v R => v = .slice A0 l0.length c0 ∧ R = s0, fun v R => v = .string a1 ∧ R = s0, fun v R => ∃ x15 : (Option Addr × Nat), v = .slice x15.1 t13.length x15.2 ∧ R = sput s0 0 (some (Ck.sl 5 (Value.int .u8) x15.1 x15.2 t13)), fun v R => v = .string (strOfNums t13) ∧ R = s0, fun v R => v = .bool false ∧ R = s0, fun v R => v = .bool false ∧ R = s0, fun v R => v = undef ∧ R = s0, fun v R => v = undef ∧ R = s0, fun v R => v = undef ∧ R = s0, fun v R => v = .bool false ∧ R = s0, fun v R => v = .bool false ∧ R = s0, fun v R => v = undef ∧ R = s0, fun v R => v = undef ∧ R = s0, fun v R => v = undef ∧ R = s0, fun v R => v = .bool false ∧ R = s0, fun v R => v = .bool false ∧ R = s0, fun v R => v = undef ∧ R = s0, fun v R => v = undef ∧ R = s0, fun v R => v = undef ∧ R = s0, fun v R => v = .bool false ∧ R = s0, fun v R => v = .bool false ∧ R = s0, fun v R => v = undef ∧ R = s0, fun v R => v = undef ∧ R = s0, fun v R => v = undef ∧ R = s0]) (onl [true, true, true, true, true, true, true, true, true, true, false, false, false, true, true, false, false, false, true, true, false, false, false, true, true, false, false, false]) (by kernel_rfl) (by kernel_rfl) (by kernel_rfl) (by kernel_rfl) (rs := [_, _, _, _, _, _, _, _]) rfl (by kernel_rfl) (by kernel_rfl) ?_ ?_
      · refine all_snoc (all_snoc (all_snoc (all_snoc (all_snoc (all_snoc (all_snoc (all_snoc (all_snoc (all_snoc (all_snoc (all_snoc (all_snoc (all_snoc (all_snoc (all_snoc (all_snoc (all_snoc (all_snoc (all_snoc (all_snoc (all_snoc (all_snoc (all_snoc (all_snoc (all_snoc (all_snoc (all_snoc (all_nil) ?_) ?_) ?_) ?_) ?_) ?_) ?_) ?_) ?_) ?_) ?_) ?_) ?_) ?_) ?_) ?_) ?_) ?_) ?_) ?_) ?_) ?_) ?_) ?_) ?_) ?_) ?_) ?_
        · refine ⟨fun o ho vs Rs f' S' w hp hf hx hS hR hs => ?_⟩
          obtain rfl := Option.some.inj ho
          refine And.intro (want_none rfl) (And.intro (fun _ => ?_) (fun h => by cases h))
          have hF := fr_next (rfl) ((hx 0 (by kernel_rfl)).trans (by kernel_rfl : (_ : Value) = .slice A0 l0.length c0))
          refine ls_fr hF ?_
          refine ls_val (v := .slice A0 l0.length c0) rfl rfl (by kernel_rfl) (fun w => by kernel_rfl) ?_
          exact ls_fin s0 (.slice A0 l0.length c0) (congrArg (fun z => upd z 33 _) hF.symm) ⟨rfl, rfl⟩ (sub_nil _)
        · refine ⟨fun o ho vs Rs f' S' w hp hf hx hS hR hs => ?_⟩
          obtain rfl := Option.some.inj ho
          refine And.intro (want_none rfl) (And.intro (fun _ => ?_) (fun h => by cases h))
          have hF := fr_next (rfl) ((hx 1 (by kernel_rfl)).trans (by kernel_rfl : (_ : Value) = .string a1))
          refine ls_fr hF ?_
          refine ls_val (v := .string a1) rfl rfl (by kernel_rfl) (fun w => by kernel_rfl) ?_
          exact ls_fin s0 (.string a1) (congrArg (fun z => upd z 34 _) hF.symm) ⟨rfl, rfl⟩ (sub_nil _)
        · refine ⟨fun o ho vs Rs f' S' w hp hf hx hS hR hs => ?_⟩
          obtain rfl := Option.some.inj ho
          obtain ⟨hv0, hR0⟩ := hp 0 (by kernel_rfl)
          obtain ⟨hv1, hR1⟩ := hp 1 (by kernel_rfl)
          refine And.intro (want_none rfl) (And.intro (fun _ => ?_) (fun h => by cases h))
          have hF := fr_next (fr_next (rfl) ((hf 0 33 (by kernel_rfl) rfl).trans hv0)) ((hf 1 34 (by kernel_rfl) rfl).trans hv1)
          refine ls_fr hF ?_
          refine ls_call (fid := 21) (vals := #[.slice A0 l0.length c0, .string a1]) (X := (Option Addr × Nat)) (fun x => .slice x.1 t10.length x.2) (fun x => sput s0 0 (some (Ck.sl 5 (Value.int .u8) x.1 x.2 t10))) 0 rfl rfl (by kernel_rfl) (fun w => by kernel_rfl) (fun w1 hs1 => codec_Text.calls k A0 c0 l0 a1 t10 w1 (hs1.old (hs.old R0)) C0 hc11) ?_
          intro x12
          exact ls_fin (sput s0 0 (some (Ck.sl 5 (Value.int .u8) x12.1 x12.2 t10))) (.slice x12.1 t10.length x12.2) (congrArg (fun z => upd z 35 _) hF.symm) ⟨x12, rfl, rfl⟩ (sub_put (by exact rfl) (sub_nil _))
        · refine ⟨fun o ho vs Rs f' S' w hp hf hx hS hR hs => ?_⟩
          obtain rfl := Option.some.inj ho
          obtain ⟨x12, hv2, hR2⟩ := hp 2 (by kernel_rfl)
          have hT2_0 := (hR 2 0 (by kernel_rfl) (by decide)).trans (congrFun hR2 0)
          refine And.intro (want_none rfl) (And.intro (fun _ => ?_) (fun h => by cases h))
          have hF := fr_next (rfl) ((hf 2 35 (by kernel_rfl) rfl).trans hv2)
          refine ls_fr hF ?_
          refine ls_str (A := x12.1) (c := x12.2) (e := 5) (l := t10) rfl rfl (by kernel_rfl) rfl (by kernel_rfl) (by kernel_rfl) (by kernel_rfl) (by kernel_rfl) (fun w1 hs1 => (hs1.old (hs.rd (k := 16) hT2_0))) ?_
          exact ls_fin s0 (.string (strOfNums t10)) (congrArg (fun z => upd z 36 _) hF.symm) ⟨rfl, rfl⟩ (sub_nil _)
        · refine ⟨fun o ho vs Rs f' S' w hp hf hx hS hR hs => ?_⟩
          obtain rfl := Option.some.inj ho
          refine And.intro (want_none rfl) (And.intro (fun _ => ?_) (fun h => by cases h))
          have hF := fr_next (rfl) ((hx 0 (by kernel_rfl)).trans (by kernel_rfl : (_ : Value) = .slice A0 l0.length c0))
          refine ls_fr hF ?_
          refine ls_val (v := .slice A0 l0.length c0) rfl rfl (by kernel_rfl) (fun w => by kernel_rfl) ?_
          exact ls_fin s0 (.slice A0 l0.length c0) (congrArg (fun z => upd z 37 _) hF.symm) ⟨rfl, rfl⟩ (sub_nil _)
        · refine ⟨fun o ho vs Rs f' S' w hp hf hx hS hR hs => ?_⟩
          obtain rfl := Option.some.inj ho
          refine And.intro (want_none rfl) (And.intro (fun _ => ?_) (fun h => by cases h))
          have hF := fr_next (rfl) ((hx 1 (by kernel_rfl)).trans (by kernel_rfl : (_ : Value) = .string a1))
          refine ls_fr hF ?_
          refine ls_val (v := .string a1) rfl rfl (by kernel_rfl) (fun w => by kernel_rfl) ?_
          exact ls_fin s0 (.string a1) (congrArg (fun z => upd z 38 _) hF.symm) ⟨rfl, rfl⟩ (sub_nil _)
        · refine ⟨fun o ho vs Rs f' S' w hp hf hx hS hR hs => ?_⟩
          obtain rfl := Option.some.inj ho
          obtain ⟨hv4, hR4⟩ := hp 4 (by kernel_rfl)
          obtain ⟨hv5, hR5⟩ := hp 5 (by kernel_rfl)
          refine And.intro (want_none rfl) (And.intro (fun _ => ?_) (fun h => by cases h))
          have hF := fr_next (fr_next (rfl) ((hf 4 37 (by kernel_rfl) rfl).trans hv4)) ((hf 5 38 (by kernel_rfl) rfl).trans hv5)
          refine ls_fr hF ?_
          refine ls_call (fid := 22) (vals := #[.slice A0 l0.length c0, .string a1]) (X := (Option Addr × Nat)) (fun x => .slice x.1 t13.length x.2) (fun x => sput s0 0 (some (Ck.sl 5 (Value.int .u8) x.1 x.2 t13))) 0 rfl rfl (by kernel_rfl) (fun w => by kernel_rfl) (fun w1 hs1 => shadowboxref01_Text.calls k A0 c0 l0 a1 t13 w1 (hs1.old (hs.old R0)) C0 hc14) ?_
          intro x15
          exact ls_fin (sput s0 0 (some (Ck.sl 5 (Value.int .u8) x15.1 x15.2 t13))) (.slice x15.1 t13.length x15.2) (congrArg (fun z => upd z 39 _) hF.symm) ⟨x15, rfl, rfl⟩ (sub_put (by exact rfl) (sub_nil _))
        · refine ⟨fun o ho vs Rs f' S' w hp hf hx hS hR hs => ?_⟩
          obtain rfl := Option.some.inj ho
          obtain ⟨x15, hv6, hR6⟩ := hp 6 (by kernel_rfl)
          have hT6_0 := (hR 6 0 (by kernel_rfl) (by decide)).trans (congrFun hR6 0)
          refine And.intro (want_none rfl) (And.intro (fun _ => ?_) (fun h => by cases h))
          have hF := fr_next (rfl) ((hf 6 39 (by kernel_rfl) rfl).trans hv6)
          refine ls_fr hF ?_
          refine ls_str (A := x15.1) (c := x15.2) (e := 5) (l := t13) rfl rfl (by kernel_rfl) rfl (by kernel_rfl) (by kernel_rfl) (by kernel_rfl) (by kernel_rfl) (fun w1 hs1 => (hs1.old (hs.rd (k := 48) hT6_0))) ?_
          exact ls_fin s0 (.string (strOfNums t13)) (congrArg (fun z => upd z 40 _) hF.symm) ⟨rfl, rfl⟩ (sub_nil _)
        · refine ⟨fun o ho vs Rs f' S' w hp hf hx hS hR hs => ?_⟩
          obtain rfl := Option.some.inj ho
          obtain ⟨hv3, hR3⟩ := hp 3 (by kernel_rfl)
          obtain ⟨hv7, hR7⟩ := hp 7 (by kernel_rfl)
          refine And.intro (want_none rfl) (And.intro (fun _ => ?_) (fun h => by cases h))
          have hF := fr_next (fr_next (rfl) ((hf 3 36 (by kernel_rfl) rfl).trans hv3)) ((hf 7 40 (by kernel_rfl) rfl).trans hv7)
          refine ls_fr hF ?_
          refine ls_val (v := .bool ((strOfNums t10).toList == (strOfNums t13).toList)) rfl rfl (by kernel_rfl) (fun w => by kernel_rfl) ?_
          refine ls_ren 41 (v := .bool ((strOfNums t10).toList == (strOfNums t13).toList)) (v' := .bool false) (by kernel_rfl) (congrArg Value.bool (show ((strOfNums t10).toList == (strOfNums t13).toList) = false from Bool.eq_false_iff.mpr q16)) ?_
          exact ls_fin s0 (.bool false) ((upd_upd _ _ _ _).trans (congrArg (fun z => upd z 41 _) hF.symm)) ⟨rfl, rfl⟩ (sub_nil _)
        · refine ⟨fun o ho vs Rs f' S' w hp hf hx hS hR hs => ?_⟩
          obtain rfl := Option.some.inj ho
          obtain ⟨hv8, hR8⟩ := hp 8 (by kernel_rfl)
          refine And.intro (want_none rfl) (And.intro (fun _ => ?_) (fun h => by cases h))
          have hF := fr_next (rfl) ((hf 8 41 (by kernel_rfl) rfl).trans hv8)
          refine ls_fr hF ?_
          refine ls_val (v := .bool false) rfl rfl (by kernel_rfl) (fun w => by kernel_rfl) ?_
          exact ls_fin s0 (.bool false) (congrArg (fun z => upd z 42 _) hF.symm) ⟨rfl, rfl⟩ (sub_nil _)
        · refine ⟨fun o ho vs Rs f' S' w hp hf hx hS hR hs => ?_⟩
          obtain rfl := Option.some.inj ho
          obtain ⟨hv9, hR9⟩ := hp 9 (by kernel_rfl)
          refine And.intro ?_ (And.intro ?_ ?_)
          · exact want_is (j := 9) (t := 42) rfl rfl (by kernel_rfl) ((hf 9 42 (by kernel_rfl) rfl).trans hv9) rfl
          · intro h; cases h
          · intro _; exact ⟨rfl, rfl⟩
        · refine ⟨fun o ho vs Rs f' S' w hp hf hx hS hR hs => ?_⟩
          obtain rfl := Option.some.inj ho
          obtain ⟨hv9, hR9⟩ := hp 9 (by kernel_rfl)
          refine And.intro ?_ (And.intro ?_ ?_)
          · exact want_is (j := 9) (t := 42) rfl rfl (by kernel_rfl) ((hf 9 42 (by kernel_rfl) rfl).trans hv9) rfl
          · intro h; cases h
          · intro _; exact ⟨rfl, rfl⟩
        · refine ⟨fun o ho vs Rs f' S' w hp hf hx hS hR hs => ?_⟩
          obtain rfl := Option.some.inj ho
          obtain ⟨hv9, hR9⟩ := hp 9 (by kernel_rfl)
          obtain ⟨hv10, hR10⟩ := hp 10 (by kernel_rfl)
          obtain ⟨hv11, hR11⟩ := hp 11 (by kernel_rfl)
          refine And.intro ?_ (And.intro ?_ ?_)
          · exact want_is (j := 9) (t := 42) rfl rfl (by kernel_rfl) ((hf 9 42 (by kernel_rfl) rfl).trans hv9) rfl
          · intro h; cases h
          · intro _; exact ⟨rfl, rfl⟩
        · refine ⟨fun o ho vs Rs f' S' w hp hf hx hS hR hs => ?_⟩
          obtain rfl := Option.some.inj ho
          obtain ⟨hv9, hR9⟩ := hp 9 (by kernel_rfl)
          obtain ⟨hv12, hR12⟩ := hp 12 (by kernel_rfl)
          refine And.intro (want_none rfl) (And.intro (fun _ => ?_) (fun h => by cases h))
          have hF := fr_next (fr_next (rfl) ((hf 9 42 (by kernel_rfl) rfl).trans hv9)) ((hf 12 45 (by kernel_rfl) rfl).trans hv12)
          refine ls_fr hF ?_
          refine ls_val (v := .bool false) rfl rfl (by kernel_rfl) (fun w => by kernel_rfl) ?_
          exact ls_fin s0 (.bool false) (congrArg (fun z => upd z 46 _) hF.symm) ⟨rfl, rfl⟩ (sub_nil _)
        · refine ⟨fun o ho vs Rs f' S' w hp hf hx hS hR hs => ?_⟩
          obtain rfl := Option.some.inj ho
          obtain ⟨hv13, hR13⟩ := hp 13 (by kernel_rfl)
          refine And.intro (want_none rfl) (And.intro (fun _ => ?_) (fun h => by cases h))
          have hF := fr_next (rfl) ((hf 13 46 (by kernel_rfl) rfl).trans hv13)
          refine ls_fr hF ?_
          refine ls_val (v := .bool false) rfl rfl (by kernel_rfl) (fun w => by kernel_rfl) ?_
          exact ls_fin s0 (.bool false) (congrArg (fun z => upd z 47 _) hF.symm) ⟨rfl, rfl⟩ (sub_nil _)
        · refine ⟨fun o ho vs Rs f' S' w hp hf hx hS hR hs => ?_⟩
          obtain rfl := Option.some.inj ho
          obtain ⟨hv14, hR14⟩ := hp 14 (by kernel_rfl)
          refine And.intro ?_ (And.intro ?_ ?_)
          · exact want_is (j := 14) (t := 47) rfl rfl (by kernel_rfl) ((hf 14 47 (by kernel_rfl) rfl).trans hv14) rfl
          · intro h; cases h
          · intro _; exact ⟨rfl, rfl⟩
        · refine ⟨fun o ho vs Rs f' S' w hp hf hx hS hR hs => ?_⟩
          obtain rfl := Option.some.inj ho
          obtain ⟨hv14, hR14⟩ := hp 14 (by kernel_rfl)
          refine And.intro ?_ (And.intro ?_ ?_)
          · exact want_is (j := 14) (t := 47) rfl rfl (by kernel_rfl) ((hf 14 47 (by kernel_rfl) rfl).trans hv14) rfl
          · intro h; cases h
          · intro _; exact ⟨rfl, rfl⟩
        · refine ⟨fun o ho vs Rs f' S' w hp hf hx hS hR hs => ?_⟩
          obtain rfl := Option.some.inj ho
          obtain ⟨hv14, hR14⟩ := hp 14 (by kernel_rfl)
          obtain ⟨hv15, hR15⟩ := hp 15 (by kernel_rfl)
          obtain ⟨hv16, hR16⟩ := hp 16 (by kernel_rfl)
          refine And.intro ?_ (And.intro ?_ ?_)
          · exact want_is (j := 14) (t := 47) rfl rfl (by kernel_rfl) ((hf 14 47 (by kernel_rfl) rfl).trans hv14) rfl
          · intro h; cases h
          · intro _; exact ⟨rfl, rfl⟩
        · refine ⟨fun o ho vs Rs f' S' w hp hf hx hS hR hs => ?_⟩
          obtain rfl := Option.some.inj ho
          obtain ⟨hv14, hR14⟩ := hp 14 (by kernel_rfl)
          obtain ⟨hv17, hR17⟩ := hp 17 (by kernel_rfl)
          refine And.intro (want_none rfl) (And.intro (fun _ => ?_) (fun h => by cases h))
          have hF := fr_next (fr_next (rfl) ((hf 14 47 (by kernel_rfl) rfl).trans hv14)) ((hf 17 50 (by kernel_rfl) rfl).trans hv17)
          refine ls_fr hF ?_
          refine ls_val (v := .bool false) rfl rfl (by kernel_rfl) (fun w => by kernel_rfl) ?_
          exact ls_fin s0 (.bool false) (congrArg (fun z => upd z 51 _) hF.symm) ⟨rfl, rfl⟩ (sub_nil _)
        · refine ⟨fun o ho vs Rs f' S' w hp hf hx hS hR hs => ?_⟩
          obtain rfl := Option.some.inj ho
          obtain ⟨hv18, hR18⟩ := hp 18 (by kernel_rfl)
          refine And.intro (want_none rfl) (And.intro (fun _ => ?_) (fun h => by cases h))
          have hF := fr_next (rfl) ((hf 18 51 (by kernel_rfl) rfl).trans hv18)
          refine ls_fr hF ?_
          refine ls_val (v := .bool false) rfl rfl (by kernel_rfl) (fun w => by kernel_rfl) ?_
          exact ls_fin s0 (.bool false) (congrArg (fun z => upd z 52 _) hF.symm) ⟨rfl, rfl⟩ (sub_nil _)
        · refine ⟨fun o ho vs Rs f' S' w hp hf hx hS hR hs => ?_⟩
          obtain rfl := Option.some.inj ho
          obtain ⟨hv19, hR19⟩ := hp 19 (by kernel_rfl)
          refine And.intro ?_ (And.intro ?_ ?_)
          · exact want_is (j := 19) (t := 52) rfl rfl (by kernel_rfl) ((hf 19 52 (by kernel_rfl) rfl).trans hv19) rfl
          · intro h; cases h
          · intro _; exact ⟨rfl, rfl⟩
        · refine ⟨fun o ho vs Rs f' S' w hp hf hx hS hR hs => ?_⟩
          obtain rfl := Option.some.inj ho
          obtain ⟨hv19, hR19⟩ := hp 19 (by kernel_rfl)
          refine And.intro ?_ (And.intro ?_ ?_)
          · exact want_is (j := 19) (t := 52) rfl rfl (by kernel_rfl) ((hf 19 52 (by kernel_rfl) rfl).trans hv19) rfl
          · intro h; cases h
          · intro _; exact ⟨rfl, rfl⟩
        · refine ⟨fun o ho vs Rs f' S' w hp hf hx hS hR hs => ?_⟩
          obtain rfl := Option.some.inj ho
          obtain ⟨hv19, hR19⟩ := hp 19 (by kernel_rfl)
          obtain ⟨hv20, hR20⟩ := hp 20 (by kernel_rfl)
          obtain ⟨hv21, hR21⟩ := hp 21 (by kernel_rfl)
          refine And.intro ?_ (And.intro ?_ ?_)
          · exact want_is (j := 19) (t := 52) rfl rfl (by kernel_rfl) ((hf 19 52 (by kernel_rfl) rfl).trans hv19) rfl
          · intro h; cases h
          · intro _; exact ⟨rfl, rfl⟩
        · refine ⟨fun o ho vs Rs f' S' w hp hf hx hS hR hs => ?_⟩
          obtain rfl := Option.some.inj ho
          obtain ⟨hv19, hR19⟩ := hp 19 (by kernel_rfl)
          obtain ⟨hv22, hR22⟩ := hp 22 (by kernel_rfl)
          refine And.intro (want_none rfl) (And.intro (fun _ => ?_) (fun h => by cases h))
          have hF := fr_next (fr_next (rfl) ((hf 19 52 (by kernel_rfl) rfl).trans hv19)) ((hf 22 55 (by kernel_rfl) rfl).trans hv22)
          refine ls_fr hF ?_
          refine ls_val (v := .bool false) rfl rfl (by kernel_rfl) (fun w => by kernel_rfl) ?_
          exact ls_fin s0 (.bool false) (congrArg (fun z => upd z 56 _) hF.symm) ⟨rfl, rfl⟩ (sub_nil _)
        · refine ⟨fun o ho vs Rs f' S' w hp hf hx hS hR hs => ?_⟩
          obtain rfl := Option.some.inj ho
          obtain ⟨hv23, hR23⟩ := hp 23 (by kernel_rfl)
          refine And.intro (want_none rfl) (And.intro (fun _ => ?_) (fun h => by cases h))
          have hF := fr_next (rfl) ((hf 23 56 (by kernel_rfl) rfl).trans hv23)
          refine ls_fr hF ?_
          refine ls_val (v := .bool false) rfl rfl (by kernel_rfl) (fun w => by kernel_rfl) ?_
          exact ls_fin s0 (.bool false) (congrArg (fun z => upd z 57 _) hF.symm) ⟨rfl, rfl⟩ (sub_nil _)
        · refine ⟨fun o ho vs Rs f' S' w hp hf hx hS hR hs => ?_⟩
          obtain rfl := Option.some.inj ho
          obtain ⟨hv24, hR24⟩ := hp 24 (by kernel_rfl)
          refine And.intro ?_ (And.intro ?_ ?_)
          · exact want_is (j := 24) (t := 57) rfl rfl (by kernel_rfl) ((hf 24 57 (by kernel_rfl) rfl).trans hv24) rfl
          · intro h; cases h
          · intro _; exact ⟨rfl, rfl⟩
        · refine ⟨fun o ho vs Rs f' S' w hp hf hx hS hR hs => ?_⟩
          obtain rfl := Option.some.inj ho
          obtain ⟨hv24, hR24⟩ := hp 24 (by kernel_rfl)
          obtain ⟨hv25, hR25⟩ := hp 25 (by kernel_rfl)
          refine And.intro ?_ (And.intro ?_ ?_)
          · exact want_is (j := 24) (t := 57) rfl rfl (by kernel_rfl) ((hf 24 57 (by kernel_rfl) rfl).trans hv24) rfl
          · intro h; cases h
          · intro _; exact ⟨rfl, rfl⟩
        · refine ⟨fun o ho vs Rs f' S' w hp hf hx hS hR hs => ?_⟩
          obtain rfl := Option.some.inj ho
          obtain ⟨hv24, hR24⟩ := hp 24 (by kernel_rfl)
          refine And.intro ?_ (And.intro ?_ ?_)
          · exact want_is (j := 24) (t := 57) rfl rfl (by kernel_rfl) ((hf 24 57 (by kernel_rfl) rfl).trans hv24) rfl
          · intro h; cases h
          · intro _; exact ⟨rfl, rfl⟩
      · intro vs Rs f' S' hp hf hx hS hR
        obtain ⟨x12, hv2, hR2⟩ := hp 2 (by kernel_rfl)
        have hT2_0 := (hR 2 0 (by kernel_rfl) (by decide)).trans (congrFun hR2 0)
        obtain ⟨x15, hv6, hR6⟩ := hp 6 (by kernel_rfl)
        have hT6_0 := (hR 6 0 (by kernel_rfl) (by decide)).trans (congrFun hR6 0)
        obtain ⟨hv24, hR24⟩ := hp 24 (by kernel_rfl)
        obtain ⟨hv26, hR26⟩ := hp 26 (by kernel_rfl)
        obtain ⟨hv27, hR27⟩ := hp 27 (by kernel_rfl)
        refine ls_fr (F := upd f' 57 (.bool false)) (fr_next (rfl) ((hf 24 57 (by kernel_rfl) rfl).trans hv24)) ?_
        refine ls_sub (s0) (sub_nil _) ?_
        refine ls_off (j := 24) (t := 57) (b := true) (c := false) rfl rfl (by kernel_rfl) (by kernel_rfl) rfl rfl (by kernel_rfl) ?_
        refine ls_off (j := 24) (t := 57) (b := true) (c := false) rfl rfl (by kernel_rfl) (by kernel_rfl) rfl rfl (by kernel_rfl) ?_
        refine ls_val (v := .bool false) rfl rfl (by kernel_rfl) (fun w => by kernel_rfl) ?_
        refine ls_val (v := .bool false) rfl rfl (by kernel_rfl) (fun w => by kernel_rfl) ?_
        refine ls_off (j := 31) (t := 64) (b := true) (c := false) rfl rfl (by kernel_rfl) (by kernel_rfl) rfl rfl (by kernel_rfl) ?_
        refine ls_off (j := 31) (t := 64) (b := true) (c := false) rfl rfl (by kernel_rfl) (by kernel_rfl) rfl rfl (by kernel_rfl) ?_
        refine ls_val (v := .bool false) rfl rfl (by kernel_rfl) (fun w => by kernel_rfl) ?_
        refine ls_val (v := .bool false) rfl rfl (by kernel_rfl) (fun w => by kernel_rfl) ?_
        refine ls_end ?_
        refine qn_then ?_
        refine cs_ret' ?_
        obtain rfl := Option.some.inj H
        refine qr_end1 rfl (fun w' hs => ⟨(), rfl, ?_⟩)
        exact hs.sub (sub_nil _)

end Go.Proofs.Ytknjphpfofbdiaa.G
