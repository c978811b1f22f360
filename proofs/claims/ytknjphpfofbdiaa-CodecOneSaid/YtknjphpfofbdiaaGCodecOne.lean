/- Printed by a program of this session (sx.py): plain functions, and walks that show that the code comes to them; no condition. -/
import Derived.Test.YtknjphpfofbdiaaProg
import Derived.Test.YtknjphpfofbdiaaSx
import Derived.Test.YtknjphpfofbdiaaGa
set_option linter.unusedVariables false
namespace Go.Proofs.Ytknjphpfofbdiaa.G
open Go Go.RowKit Go.Proofs.Ytknjphpfofbdiaa.Sx

/-! ### shadowbox/shadowboxlaw01.CodecOne: function 6 -/
def shadowboxlaw01_CodecOne.f (k : Nat) (l0 : List Int) : Option (Bool) :=
  (if (l0.length : Int) > (2000 : Int) then (if (2000 : Int) ≤ (l0.length : Int) then lt (l0.take ((2000 : Int)).toNat) fun xl7 => (codec_ReadShort.f k xl7).bind fun t12 => (if t12.2.2 = (0 : Int) then (if t12.2.1 < (1 : Int) then some false else (if t12.2.1 > (xl7.length : Int) then some false else (codec_Short.f k ([] : List Int) t12.1).bind fun t18 => (if 0 ≤ t12.2.1 then (if t12.2.1 ≤ (xl7.length : Int) then lt (xl7.take (t12.2.1).toNat) fun xl27 => (if ((strOfNums t18).toList == (strOfNums xl27).toList) = true then (if 0 ≤ IntKind.wrap .i64 (t12.2.1 - (1 : Int)) then (if IntKind.wrap .i64 (t12.2.1 - (1 : Int)) ≤ (xl7.length : Int) then lt (xl7.take (IntKind.wrap .i64 (t12.2.1 - (1 : Int))).toNat) fun xl39 => (codec_ReadShort.f k xl39).bind fun t44 => some (decide (t44.2.2 = (10 : Int))) else none) else none) else some false) else none) else none))) else (codec_ReadShort.f k ([(5 : Int)])).bind fun t48 => (if t12.1 = (0 : Int) then (if t12.2.1 = (0 : Int) then (if t48.1 = (5 : Int) then (if t48.2.1 = (1 : Int) then some (decide (t48.2.2 = (0 : Int))) else some false) else some false) else some false) else some false)) else none) else (codec_ReadShort.f k l0).bind fun t55 => (if t55.2.2 = (0 : Int) then (if t55.2.1 < (1 : Int) then some false else (if t55.2.1 > (l0.length : Int) then some false else (codec_Short.f k ([] : List Int) t55.1).bind fun t61 => (if 0 ≤ t55.2.1 then (if t55.2.1 ≤ (l0.length : Int) then lt (l0.take (t55.2.1).toNat) fun xl70 => (if ((strOfNums t61).toList == (strOfNums xl70).toList) = true then (if 0 ≤ IntKind.wrap .i64 (t55.2.1 - (1 : Int)) then (if IntKind.wrap .i64 (t55.2.1 - (1 : Int)) ≤ (l0.length : Int) then lt (l0.take (IntKind.wrap .i64 (t55.2.1 - (1 : Int))).toNat) fun xl82 => (codec_ReadShort.f k xl82).bind fun t87 => some (decide (t87.2.2 = (10 : Int))) else none) else none) else some false) else none) else none))) else (codec_ReadShort.f k ([(5 : Int)])).bind fun t91 => (if t55.1 = (0 : Int) then (if t55.2.1 = (0 : Int) then (if t91.1 = (5 : Int) then (if t91.2.1 = (1 : Int) then some (decide (t91.2.2 = (0 : Int))) else some false) else some false) else some false) else some false)))
set_option maxRecDepth 100000 in
set_option maxHeartbeats 4000000 in
theorem shadowboxlaw01_CodecOne.calls (k : Nat) (A0 : Option Addr) (c0 : Nat) (l0 : List Int) (r : Bool) (w : World) (R0 : Rd w A0 (en (Value.int .u8) l0)) (C0 : l0.length ≤ c0) (H : shadowboxlaw01_CodecOne.f k l0 = some r) :
    Calls Try.prog 6 #[.slice A0 l0.length c0] w fun e w' => ∃ x : Unit, e = .returned (.bool r) ∧ St w s0 w' := by
  unfold shadowboxlaw01_CodecOne.f at H
  refine enter (n := 75) Try.func6 rfl (by kernel_rfl) (by kernel_rfl) ?_
  refine cs_seq ?_
  refine cs_region (l := [_]) ?_
  refine ls_val (v := .bool false) rfl rfl (by kernel_rfl) (fun w => by kernel_rfl) ?_
  refine ls_end ?_
  refine qn_then ?_
  refine cs_seq ?_
  refine cs_seq ?_
  refine cs_region (l := [_, _, _]) ?_
  refine ls_val (v := .slice A0 l0.length c0) rfl rfl (by kernel_rfl) (fun w => by kernel_rfl) ?_
  refine ls_val (v := .int .i64 (l0.length : Int)) rfl rfl (by kernel_rfl) (fun w => by kernel_rfl) ?_
  refine ls_val (v := .bool (decide ((l0.length : Int) > (2000 : Int)))) rfl rfl (by kernel_rfl) (fun w => by kernel_rfl) ?_
  refine ls_end ?_
  refine qn_then ?_
  by_cases q1 : (l0.length : Int) > (2000 : Int)
  · replace H := ite_t q1 H
    refine cs_know (c := true) (dec_t q1) 11 (by kernel_rfl) ?_
    refine cs_true (by kernel_rfl) ?_
    refine cs_region (l := [_, _, _]) ?_
    refine ls_val (v := .slice A0 l0.length c0) rfl rfl (by kernel_rfl) (fun w => by kernel_rfl) ?_
    obtain ⟨q2, H⟩ := ite_need H
    obtain ⟨xl7, hy8, H⟩ := lt_some H
    have hz10 : 0 ≤ ((2000 : Int)).toNat := by omega
    have hz11 : ((2000 : Int)).toNat ≤ l0.length := by omega
    obtain ⟨xA3, xc4, he9, xC6, xR5⟩ := cut_at (A := A0) (c := c0) (l := l0) (E := (Value.int .u8)) 0 (((2000 : Int)).toNat) hz10 hz11 C0 R0 (m := xl7) (by rw [← hy8] <;> simp)
    refine ls_cutv (A := A0) (c := c0) (l := l0) (e := 5) (a := 0) (b := ((2000 : Int)).toNat) rfl rfl (by kernel_rfl) rfl (by kernel_rfl) (by kernel_rfl) (by kernel_rfl) (.inl ⟨rfl, rfl⟩) (.inr ⟨.i64, by rw [Int.toNat_of_nonneg (by first | assumption | omega)]; kernel_rfl⟩) hz10 hz11 C0 he9 ?_
    refine ls_val (v := .slice xA3 xl7.length xc4) rfl rfl (by kernel_rfl) (fun w => by kernel_rfl) ?_
    refine ls_end ?_
    refine qn_then ?_
    refine cs_seq ?_
    refine cs_region (l := [_, _, _, _, _, _, _, _, _]) ?_
    refine ls_val (v := .slice xA3 xl7.length xc4) rfl rfl (by kernel_rfl) (fun w => by kernel_rfl) ?_
    obtain ⟨t12, hc13, H⟩ := bind_some H
    refine ls_call (fid := 15) (vals := #[.slice xA3 xl7.length xc4]) (X := Unit) (fun x => .tuple #[.int .u64 t12.1, .int .i64 t12.2.1, .int .i64 t12.2.2]) (fun x => s0) 0 rfl rfl (by kernel_rfl) (fun w => by kernel_rfl) (fun w hs => codec_ReadShort.calls k xA3 xc4 xl7 t12 w (hs.old xR5) xC6 hc13) ?_
    intro x14
    refine ls_val (v := .tuple #[.int .u64 t12.1, .int .i64 t12.2.1, .int .i64 t12.2.2]) rfl rfl (by kernel_rfl) (fun w => by kernel_rfl) ?_
    refine ls_val (v := .int .u64 t12.1) rfl rfl (by kernel_rfl) (fun w => by kernel_rfl) ?_
    refine ls_val (v := .int .i64 t12.2.1) rfl rfl (by kernel_rfl) (fun w => by kernel_rfl) ?_
    refine ls_val (v := .int .i64 t12.2.2) rfl rfl (by kernel_rfl) (fun w => by kernel_rfl) ?_
    refine ls_val (v := .int .u64 t12.1) rfl rfl (by kernel_rfl) (fun w => by kernel_rfl) ?_
    refine ls_val (v := .int .i64 t12.2.1) rfl rfl (by kernel_rfl) (fun w => by kernel_rfl) ?_
    refine ls_val (v := .int .i64 t12.2.2) rfl rfl (by kernel_rfl) (fun w => by kernel_rfl) ?_
    refine ls_end ?_
    refine qn_then ?_
    refine cs_seq ?_
    refine cs_seq ?_
    refine cs_region (l := [_, _]) ?_
    refine ls_val (v := .int .i64 t12.2.2) rfl rfl (by kernel_rfl) (fun w => by kernel_rfl) ?_
    refine ls_val (v := .bool (!decide (t12.2.2 = (0 : Int)))) rfl rfl (by kernel_rfl) (fun w => by kernel_rfl) ?_
    refine ls_end ?_
    refine qn_then ?_
    by_cases q15 : t12.2.2 = (0 : Int)
    · replace H := ite_t q15 H
      refine cs_know (c := false) (congrArg Bool.not (dec_t q15)) 21 (by kernel_rfl) ?_
      refine cs_false (by kernel_rfl) ?_
      refine cs_skip' ?_
      refine qn_then ?_
      refine cs_seq ?_
      refine cs_seq ?_
      by_cases q16 : t12.2.1 < (1 : Int)
      · replace H := ite_t q16 H
        refine cs_draw (l := [_, _, _, _, _, _, _, _, _, _, _, _, _, _, _, _, _, _]) [[], [0], [0, 1], [0, 1, 2], [0, 1, 2], [0, 1, 2, 4], [0, 1, 2, 3, 4, 5], [0, 1, 2, 3, 4, 5, 6], [0, 1, 2, 3, 4, 5, 6, 7], [0, 1, 2, 3, 4, 5, 6, 7, 8], [0, 1, 2, 3, 4, 5, 6, 7, 8, 9], [0, 1, 2, 3, 4, 5, 6, 7, 8, 9, 10], [0, 1, 2, 3, 4, 5, 6, 7, 8], [0, 1, 2, 3, 4, 5, 6, 7, 8], [0, 1, 2, 3, 4, 5, 6, 7, 8, 12, 13], [0, 1, 2, 3, 4, 5, 6, 7, 8, 12, 13, 14], [0, 1, 2, 3, 4, 5, 6, 7, 8, 9, 10, 11, 12, 13, 14, 15], [0, 1, 2, 3, 4, 5, 6, 7, 8, 9, 10, 11, 12, 13, 14, 15, 16]] 16 0 (spl [fun v R => v = .int .i64 t12.2.1 ∧ R = s0, fun v R => v = .bool true ∧ R = s0, fun v R => v = .bool true ∧ R = s0, fun v R => v = undef ∧ R = s0, fun v R => v = undef ∧ R = s0, fun v R => v = undef ∧ R = s0, fun v R => v = undef ∧ R = s0, fun v R => v = .bool true ∧ R = s0, fun v R => v = .bool true ∧ R = s0, fun v R => v = undef ∧ R = s0, fun v R => v = undef ∧ R = s0, fun v R => v = undef ∧ R = s0, fun v R => v = undef ∧ R = s0, fun v R => v = undef ∧ R = s0, fun v R => v = undef ∧ R = s0, fun v R => v = undef ∧ R = s0]) (onl [true, true, true, false, false, false, false, true, true, false, false, false, false, false, false, false]) (by kernel_rfl) (by kernel_rfl) (by kernel_rfl) (by kernel_rfl) (rs := [_, _]) rfl (by kernel_rfl) (by kernel_rfl) ?_ ?_
        · refine all_snoc (all_snoc (all_snoc (all_snoc (all_snoc (all_snoc (all_snoc (all_snoc (all_snoc (all_snoc (all_snoc (all_snoc (all_snoc (all_snoc (all_snoc (all_snoc (all_nil) ?_) ?_) ?_) ?_) ?_) ?_) ?_) ?_) ?_) ?_) ?_) ?_) ?_) ?_) ?_) ?_
          · refine ⟨fun o ho vs Rs f' S' w hp hf hx hS hR hs => ?_⟩
            obtain rfl := Option.some.inj ho
            refine And.intro (want_none rfl) (And.intro (fun _ => ?_) (fun h => by cases h))
            have hF := fr_next (rfl) ((hx 4 (by kernel_rfl)).trans (by kernel_rfl : (_ : Value) = .int .i64 t12.2.1))
            refine ls_fr hF ?_
            refine ls_val (v := .int .i64 t12.2.1) rfl rfl (by kernel_rfl) (fun w => by kernel_rfl) ?_
            exact ls_fin s0 (.int .i64 t12.2.1) (congrArg (fun z => upd z 46 _) hF.symm) ⟨rfl, rfl⟩ (sub_nil _)
          · refine ⟨fun o ho vs Rs f' S' w hp hf hx hS hR hs => ?_⟩
            obtain rfl := Option.some.inj ho
            obtain ⟨hv0, hR0⟩ := hp 0 (by kernel_rfl)
            refine And.intro (want_none rfl) (And.intro (fun _ => ?_) (fun h => by cases h))
            have hF := fr_next (rfl) ((hf 0 46 (by kernel_rfl) rfl).trans hv0)
            refine ls_fr hF ?_
            refine ls_val (v := .bool (decide (t12.2.1 < (1 : Int)))) rfl rfl (by kernel_rfl) (fun w => by kernel_rfl) ?_
            refine ls_ren 47 (v := .bool (decide (t12.2.1 < (1 : Int)))) (v' := .bool true) (by kernel_rfl) (congrArg Value.bool (show (decide (t12.2.1 < (1 : Int))) = true from dec_t q16)) ?_
            exact ls_fin s0 (.bool true) ((upd_upd _ _ _ _).trans (congrArg (fun z => upd z 47 _) hF.symm)) ⟨rfl, rfl⟩ (sub_nil _)
          · refine ⟨fun o ho vs Rs f' S' w hp hf hx hS hR hs => ?_⟩
            obtain rfl := Option.some.inj ho
            obtain ⟨hv1, hR1⟩ := hp 1 (by kernel_rfl)
            refine And.intro (want_none rfl) (And.intro (fun _ => ?_) (fun h => by cases h))
            have hF := fr_next (rfl) ((hf 1 47 (by kernel_rfl) rfl).trans hv1)
            refine ls_fr hF ?_
            refine ls_val (v := .bool true) rfl rfl (by kernel_rfl) (fun w => by kernel_rfl) ?_
            exact ls_fin s0 (.bool true) (congrArg (fun z => upd z 48 _) hF.symm) ⟨rfl, rfl⟩ (sub_nil _)
          · refine ⟨fun o ho vs Rs f' S' w hp hf hx hS hR hs => ?_⟩
            obtain rfl := Option.some.inj ho
            obtain ⟨hv2, hR2⟩ := hp 2 (by kernel_rfl)
            refine And.intro ?_ (And.intro ?_ ?_)
            · exact want_is (j := 2) (t := 48) rfl rfl (by kernel_rfl) ((hf 2 48 (by kernel_rfl) rfl).trans hv2) rfl
            · intro h; cases h
            · intro _; exact ⟨rfl, rfl⟩
          · refine ⟨fun o ho vs Rs f' S' w hp hf hx hS hR hs => ?_⟩
            obtain rfl := Option.some.inj ho
            obtain ⟨hv2, hR2⟩ := hp 2 (by kernel_rfl)
            refine And.intro ?_ (And.intro ?_ ?_)
            · exact want_is (j := 2) (t := 48) rfl rfl (by kernel_rfl) ((hf 2 48 (by kernel_rfl) rfl).trans hv2) rfl
            · intro h; cases h
            · intro _; exact ⟨rfl, rfl⟩
          · refine ⟨fun o ho vs Rs f' S' w hp hf hx hS hR hs => ?_⟩
            obtain rfl := Option.some.inj ho
            obtain ⟨hv2, hR2⟩ := hp 2 (by kernel_rfl)
            obtain ⟨hv4, hR4⟩ := hp 4 (by kernel_rfl)
            refine And.intro ?_ (And.intro ?_ ?_)
            · exact want_is (j := 2) (t := 48) rfl rfl (by kernel_rfl) ((hf 2 48 (by kernel_rfl) rfl).trans hv2) rfl
            · intro h; cases h
            · intro _; exact ⟨rfl, rfl⟩
          · refine ⟨fun o ho vs Rs f' S' w hp hf hx hS hR hs => ?_⟩
            obtain rfl := Option.some.inj ho
            obtain ⟨hv2, hR2⟩ := hp 2 (by kernel_rfl)
            obtain ⟨hv3, hR3⟩ := hp 3 (by kernel_rfl)
            obtain ⟨hv5, hR5⟩ := hp 5 (by kernel_rfl)
            refine And.intro ?_ (And.intro ?_ ?_)
            · exact want_is (j := 2) (t := 48) rfl rfl (by kernel_rfl) ((hf 2 48 (by kernel_rfl) rfl).trans hv2) rfl
            · intro h; cases h
            · intro _; exact ⟨rfl, rfl⟩
          · refine ⟨fun o ho vs Rs f' S' w hp hf hx hS hR hs => ?_⟩
            obtain rfl := Option.some.inj ho
            obtain ⟨hv2, hR2⟩ := hp 2 (by kernel_rfl)
            obtain ⟨hv6, hR6⟩ := hp 6 (by kernel_rfl)
            refine And.intro (want_none rfl) (And.intro (fun _ => ?_) (fun h => by cases h))
            have hF := fr_next (fr_next (rfl) ((hf 2 48 (by kernel_rfl) rfl).trans hv2)) ((hf 6 52 (by kernel_rfl) rfl).trans hv6)
            refine ls_fr hF ?_
            refine ls_val (v := .bool true) rfl rfl (by kernel_rfl) (fun w => by kernel_rfl) ?_
            exact ls_fin s0 (.bool true) (congrArg (fun z => upd z 53 _) hF.symm) ⟨rfl, rfl⟩ (sub_nil _)
          · refine ⟨fun o ho vs Rs f' S' w hp hf hx hS hR hs => ?_⟩
            obtain rfl := Option.some.inj ho
            obtain ⟨hv7, hR7⟩ := hp 7 (by kernel_rfl)
            refine And.intro (want_none rfl) (And.intro (fun _ => ?_) (fun h => by cases h))
            have hF := fr_next (rfl) ((hf 7 53 (by kernel_rfl) rfl).trans hv7)
            refine ls_fr hF ?_
            refine ls_val (v := .bool true) rfl rfl (by kernel_rfl) (fun w => by kernel_rfl) ?_
            exact ls_fin s0 (.bool true) (congrArg (fun z => upd z 54 _) hF.symm) ⟨rfl, rfl⟩ (sub_nil _)
          · refine ⟨fun o ho vs Rs f' S' w hp hf hx hS hR hs => ?_⟩
            obtain rfl := Option.some.inj ho
            obtain ⟨hv8, hR8⟩ := hp 8 (by kernel_rfl)
            refine And.intro ?_ (And.intro ?_ ?_)
            · exact want_is (j := 8) (t := 54) rfl rfl (by kernel_rfl) ((hf 8 54 (by kernel_rfl) rfl).trans hv8) rfl
            · intro h; cases h
            · intro _; exact ⟨rfl, rfl⟩
          · refine ⟨fun o ho vs Rs f' S' w hp hf hx hS hR hs => ?_⟩
            obtain rfl := Option.some.inj ho
            obtain ⟨hv8, hR8⟩ := hp 8 (by kernel_rfl)
            obtain ⟨hv9, hR9⟩ := hp 9 (by kernel_rfl)
            refine And.intro ?_ (And.intro ?_ ?_)
            · exact want_is (j := 8) (t := 54) rfl rfl (by kernel_rfl) ((hf 8 54 (by kernel_rfl) rfl).trans hv8) rfl
            · intro h; cases h
            · intro _; exact ⟨rfl, rfl⟩
          · refine ⟨fun o ho vs Rs f' S' w hp hf hx hS hR hs => ?_⟩
            obtain rfl := Option.some.inj ho
            obtain ⟨hv8, hR8⟩ := hp 8 (by kernel_rfl)
            obtain ⟨hv10, hR10⟩ := hp 10 (by kernel_rfl)
            refine And.intro ?_ (And.intro ?_ ?_)
            · exact want_is (j := 8) (t := 54) rfl rfl (by kernel_rfl) ((hf 8 54 (by kernel_rfl) rfl).trans hv8) rfl
            · intro h; cases h
            · intro _; exact ⟨rfl, rfl⟩
          · refine ⟨fun o ho vs Rs f' S' w hp hf hx hS hR hs => ?_⟩
            obtain rfl := Option.some.inj ho
            obtain ⟨hv8, hR8⟩ := hp 8 (by kernel_rfl)
            refine And.intro ?_ (And.intro ?_ ?_)
            · exact want_is (j := 8) (t := 54) rfl rfl (by kernel_rfl) ((hf 8 54 (by kernel_rfl) rfl).trans hv8) rfl
            · intro h; cases h
            · intro _; exact ⟨rfl, rfl⟩
          · refine ⟨fun o ho vs Rs f' S' w hp hf hx hS hR hs => ?_⟩
            obtain rfl := Option.some.inj ho
            obtain ⟨hv8, hR8⟩ := hp 8 (by kernel_rfl)
            refine And.intro ?_ (And.intro ?_ ?_)
            · exact want_is (j := 8) (t := 54) rfl rfl (by kernel_rfl) ((hf 8 54 (by kernel_rfl) rfl).trans hv8) rfl
            · intro h; cases h
            · intro _; exact ⟨rfl, rfl⟩
          · refine ⟨fun o ho vs Rs f' S' w hp hf hx hS hR hs => ?_⟩
            obtain rfl := Option.some.inj ho
            obtain ⟨hv8, hR8⟩ := hp 8 (by kernel_rfl)
            obtain ⟨hv12, hR12⟩ := hp 12 (by kernel_rfl)
            obtain ⟨hv13, hR13⟩ := hp 13 (by kernel_rfl)
            refine And.intro ?_ (And.intro ?_ ?_)
            · exact want_is (j := 8) (t := 54) rfl rfl (by kernel_rfl) ((hf 8 54 (by kernel_rfl) rfl).trans hv8) rfl
            · intro h; cases h
            · intro _; exact ⟨rfl, rfl⟩
          · refine ⟨fun o ho vs Rs f' S' w hp hf hx hS hR hs => ?_⟩
            obtain rfl := Option.some.inj ho
            obtain ⟨hv8, hR8⟩ := hp 8 (by kernel_rfl)
            obtain ⟨hv14, hR14⟩ := hp 14 (by kernel_rfl)
            refine And.intro ?_ (And.intro ?_ ?_)
            · exact want_is (j := 8) (t := 54) rfl rfl (by kernel_rfl) ((hf 8 54 (by kernel_rfl) rfl).trans hv8) rfl
            · intro h; cases h
            · intro _; exact ⟨rfl, rfl⟩
        · intro vs Rs f' S' hp hf hx hS hR
          obtain ⟨hv8, hR8⟩ := hp 8 (by kernel_rfl)
          obtain ⟨hv11, hR11⟩ := hp 11 (by kernel_rfl)
          obtain ⟨hv15, hR15⟩ := hp 15 (by kernel_rfl)
          refine ls_fr (F := upd (upd (upd f' 0 (.slice xA3 xl7.length xc4)) 4 (.int .i64 t12.2.1)) 54 (.bool true)) (fr_next (fr_next (fr_next (rfl) ((hx 0 (by kernel_rfl)).trans (by kernel_rfl : (_ : Value) = .slice xA3 xl7.length xc4))) ((hx 4 (by kernel_rfl)).trans (by kernel_rfl : (_ : Value) = .int .i64 t12.2.1))) ((hf 8 54 (by kernel_rfl) rfl).trans hv8)) ?_
          refine ls_sub (s0) (sub_nil _) ?_
          refine ls_off (j := 8) (t := 54) (b := false) (c := true) rfl rfl (by kernel_rfl) (by kernel_rfl) rfl rfl (by kernel_rfl) ?_
          refine ls_val (v := .bool true) rfl rfl (by kernel_rfl) (fun w => by kernel_rfl) ?_
          refine ls_end ?_
          refine qn_then ?_
          refine cs_true (by kernel_rfl) ?_
          refine cs_seq ?_
          refine cs_region (l := [_]) ?_
          refine ls_val (v := .bool false) rfl rfl (by kernel_rfl) (fun w => by kernel_rfl) ?_
          refine ls_end ?_
          refine qn_then ?_
          refine cs_ret' ?_
          refine qr_then ?_
          obtain rfl := Option.some.inj H
          refine qr_end1 rfl (fun w' hs => ⟨(), rfl, ?_⟩)
          exact hs.sub (sub_nil _)
      · replace H := ite_f q16 H
        by_cases q17 : t12.2.1 > (xl7.length : Int)
        · replace H := ite_t q17 H
          refine cs_draw (l := [_, _, _, _, _, _, _, _, _, _, _, _, _, _, _, _, _, _]) [[], [0], [0, 1], [0, 1, 2], [0, 1, 2], [0, 1, 2, 4], [0, 1, 2, 3, 4, 5], [0, 1, 2, 3, 4, 5, 6], [0, 1, 2, 3, 4, 5, 6, 7], [0, 1, 2, 3, 4, 5, 6, 7, 8], [0, 1, 2, 3, 4, 5, 6, 7, 8, 9], [0, 1, 2, 3, 4, 5, 6, 7, 8, 9, 10], [0, 1, 2, 3, 4, 5, 6, 7, 8], [0, 1, 2, 3, 4, 5, 6, 7, 8], [0, 1, 2, 3, 4, 5, 6, 7, 8, 12, 13], [0, 1, 2, 3, 4, 5, 6, 7, 8, 12, 13, 14], [0, 1, 2, 3, 4, 5, 6, 7, 8, 9, 10, 11, 12, 13, 14, 15], [0, 1, 2, 3, 4, 5, 6, 7, 8, 9, 10, 11, 12, 13, 14, 15, 16]] 16 0 (spl [fun v R => v = .int .i64 t12.2.1 ∧ R = s0, fun v R => v = .bool false ∧ R = s0, fun v R => v = .bool false ∧ R = s0, fun v R => v = .int .i64 t12.2.1 ∧ R = s0, fun v R => v = .slice xA3 xl7.length xc4 ∧ R = s0, fun v R => v = .int .i64 (xl7.length : Int) ∧ R = s0, fun v R => v = .bool true ∧ R = s0, fun v R => v = .bool true ∧ R = s0, fun v R => v = .bool true ∧ R = s0, fun v R => v = undef ∧ R = s0, fun v R => v = undef ∧ R = s0, fun v R => v = undef ∧ R = s0, fun v R => v = undef ∧ R = s0, fun v R => v = undef ∧ R = s0, fun v R => v = undef ∧ R = s0, fun v R => v = undef ∧ R = s0]) (onl [true, true, true, true, true, true, true, true, true, false, false, false, false, false, false, false]) (by kernel_rfl) (by kernel_rfl) (by kernel_rfl) (by kernel_rfl) (rs := [_, _]) rfl (by kernel_rfl) (by kernel_rfl) ?_ ?_
          · refine all_snoc (all_snoc (all_snoc (all_snoc (all_snoc (all_snoc (all_snoc (all_snoc (all_snoc (all_snoc (all_snoc (all_snoc (all_snoc (all_snoc (all_snoc (all_snoc (all_nil) ?_) ?_) ?_) ?_) ?_) ?_) ?_) ?_) ?_) ?_) ?_) ?_) ?_) ?_) ?_) ?_
            · refine ⟨fun o ho vs Rs f' S' w hp hf hx hS hR hs => ?_⟩
              obtain rfl := Option.some.inj ho
              refine And.intro (want_none rfl) (And.intro (fun _ => ?_) (fun h => by cases h))
              have hF := fr_next (rfl) ((hx 4 (by kernel_rfl)).trans (by kernel_rfl : (_ : Value) = .int .i64 t12.2.1))
              refine ls_fr hF ?_
              refine ls_val (v := .int .i64 t12.2.1) rfl rfl (by kernel_rfl) (fun w => by kernel_rfl) ?_
              exact ls_fin s0 (.int .i64 t12.2.1) (congrArg (fun z => upd z 46 _) hF.symm) ⟨rfl, rfl⟩ (sub_nil _)
            · refine ⟨fun o ho vs Rs f' S' w hp hf hx hS hR hs => ?_⟩
              obtain rfl := Option.some.inj ho
              obtain ⟨hv0, hR0⟩ := hp 0 (by kernel_rfl)
              refine And.intro (want_none rfl) (And.intro (fun _ => ?_) (fun h => by cases h))
              have hF := fr_next (rfl) ((hf 0 46 (by kernel_rfl) rfl).trans hv0)
              refine ls_fr hF ?_
              refine ls_val (v := .bool (decide (t12.2.1 < (1 : Int)))) rfl rfl (by kernel_rfl) (fun w => by kernel_rfl) ?_
              refine ls_ren 47 (v := .bool (decide (t12.2.1 < (1 : Int)))) (v' := .bool false) (by kernel_rfl) (congrArg Value.bool (show (decide (t12.2.1 < (1 : Int))) = false from dec_f q16)) ?_
              exact ls_fin s0 (.bool false) ((upd_upd _ _ _ _).trans (congrArg (fun z => upd z 47 _) hF.symm)) ⟨rfl, rfl⟩ (sub_nil _)
            · refine ⟨fun o ho vs Rs f' S' w hp hf hx hS hR hs => ?_⟩
              obtain rfl := Option.some.inj ho
              obtain ⟨hv1, hR1⟩ := hp 1 (by kernel_rfl)
              refine And.intro (want_none rfl) (And.intro (fun _ => ?_) (fun h => by cases h))
              have hF := fr_next (rfl) ((hf 1 47 (by kernel_rfl) rfl).trans hv1)
              refine ls_fr hF ?_
              refine ls_val (v := .bool false) rfl rfl (by kernel_rfl) (fun w => by kernel_rfl) ?_
              exact ls_fin s0 (.bool false) (congrArg (fun z => upd z 48 _) hF.symm) ⟨rfl, rfl⟩ (sub_nil _)
            · refine ⟨fun o ho vs Rs f' S' w hp hf hx hS hR hs => ?_⟩
              obtain rfl := Option.some.inj ho
              obtain ⟨hv2, hR2⟩ := hp 2 (by kernel_rfl)
              refine And.intro (want_is (j := 2) (t := 48) rfl rfl (by kernel_rfl) ((hf 2 48 (by kernel_rfl) rfl).trans hv2) rfl) (And.intro (fun _ => ?_) (fun h => by cases h))
              have hF := fr_next (fr_next (rfl) ((hx 4 (by kernel_rfl)).trans (by kernel_rfl : (_ : Value) = .int .i64 t12.2.1))) ((hf 2 48 (by kernel_rfl) rfl).trans hv2)
              refine ls_fr hF ?_
              refine ls_val (v := .int .i64 t12.2.1) rfl rfl (by kernel_rfl) (fun w => by kernel_rfl) ?_
              exact ls_fin s0 (.int .i64 t12.2.1) (congrArg (fun z => upd z 49 _) hF.symm) ⟨rfl, rfl⟩ (sub_nil _)
            · refine ⟨fun o ho vs Rs f' S' w hp hf hx hS hR hs => ?_⟩
              obtain rfl := Option.some.inj ho
              obtain ⟨hv2, hR2⟩ := hp 2 (by kernel_rfl)
              refine And.intro (want_is (j := 2) (t := 48) rfl rfl (by kernel_rfl) ((hf 2 48 (by kernel_rfl) rfl).trans hv2) rfl) (And.intro (fun _ => ?_) (fun h => by cases h))
              have hF := fr_next (fr_next (rfl) ((hx 0 (by kernel_rfl)).trans (by kernel_rfl : (_ : Value) = .slice xA3 xl7.length xc4))) ((hf 2 48 (by kernel_rfl) rfl).trans hv2)
              refine ls_fr hF ?_
              refine ls_val (v := .slice xA3 xl7.length xc4) rfl rfl (by kernel_rfl) (fun w => by kernel_rfl) ?_
              exact ls_fin s0 (.slice xA3 xl7.length xc4) (congrArg (fun z => upd z 50 _) hF.symm) ⟨rfl, rfl⟩ (sub_nil _)
            · refine ⟨fun o ho vs Rs f' S' w hp hf hx hS hR hs => ?_⟩
              obtain rfl := Option.some.inj ho
              obtain ⟨hv2, hR2⟩ := hp 2 (by kernel_rfl)
              obtain ⟨hv4, hR4⟩ := hp 4 (by kernel_rfl)
              refine And.intro (want_is (j := 2) (t := 48) rfl rfl (by kernel_rfl) ((hf 2 48 (by kernel_rfl) rfl).trans hv2) rfl) (And.intro (fun _ => ?_) (fun h => by cases h))
              have hF := fr_next (fr_next (rfl) ((hf 2 48 (by kernel_rfl) rfl).trans hv2)) ((hf 4 50 (by kernel_rfl) rfl).trans hv4)
              refine ls_fr hF ?_
              refine ls_val (v := .int .i64 (xl7.length : Int)) rfl rfl (by kernel_rfl) (fun w => by kernel_rfl) ?_
              exact ls_fin s0 (.int .i64 (xl7.length : Int)) (congrArg (fun z => upd z 51 _) hF.symm) ⟨rfl, rfl⟩ (sub_nil _)
            · refine ⟨fun o ho vs Rs f' S' w hp hf hx hS hR hs => ?_⟩
              obtain rfl := Option.some.inj ho
              obtain ⟨hv2, hR2⟩ := hp 2 (by kernel_rfl)
              obtain ⟨hv3, hR3⟩ := hp 3 (by kernel_rfl)
              obtain ⟨hv5, hR5⟩ := hp 5 (by kernel_rfl)
              refine And.intro (want_is (j := 2) (t := 48) rfl rfl (by kernel_rfl) ((hf 2 48 (by kernel_rfl) rfl).trans hv2) rfl) (And.intro (fun _ => ?_) (fun h => by cases h))
              have hF := fr_next (fr_next (fr_next (rfl) ((hf 2 48 (by kernel_rfl) rfl).trans hv2)) ((hf 3 49 (by kernel_rfl) rfl).trans hv3)) ((hf 5 51 (by kernel_rfl) rfl).trans hv5)
              refine ls_fr hF ?_
              refine ls_val (v := .bool (decide (t12.2.1 > (xl7.length : Int)))) rfl rfl (by kernel_rfl) (fun w => by kernel_rfl) ?_
              refine ls_ren 52 (v := .bool (decide (t12.2.1 > (xl7.length : Int)))) (v' := .bool true) (by kernel_rfl) (congrArg Value.bool (show (decide (t12.2.1 > (xl7.length : Int))) = true from dec_t q17)) ?_
              exact ls_fin s0 (.bool true) ((upd_upd _ _ _ _).trans (congrArg (fun z => upd z 52 _) hF.symm)) ⟨rfl, rfl⟩ (sub_nil _)
            · refine ⟨fun o ho vs Rs f' S' w hp hf hx hS hR hs => ?_⟩
              obtain rfl := Option.some.inj ho
              obtain ⟨hv2, hR2⟩ := hp 2 (by kernel_rfl)
              obtain ⟨hv6, hR6⟩ := hp 6 (by kernel_rfl)
              refine And.intro (want_none rfl) (And.intro (fun _ => ?_) (fun h => by cases h))
              have hF := fr_next (fr_next (rfl) ((hf 2 48 (by kernel_rfl) rfl).trans hv2)) ((hf 6 52 (by kernel_rfl) rfl).trans hv6)
              refine ls_fr hF ?_
              refine ls_val (v := .bool true) rfl rfl (by kernel_rfl) (fun w => by kernel_rfl) ?_
              exact ls_fin s0 (.bool true) (congrArg (fun z => upd z 53 _) hF.symm) ⟨rfl, rfl⟩ (sub_nil _)
            · refine ⟨fun o ho vs Rs f' S' w hp hf hx hS hR hs => ?_⟩
              obtain rfl := Option.some.inj ho
              obtain ⟨hv7, hR7⟩ := hp 7 (by kernel_rfl)
              refine And.intro (want_none rfl) (And.intro (fun _ => ?_) (fun h => by cases h))
              have hF := fr_next (rfl) ((hf 7 53 (by kernel_rfl) rfl).trans hv7)
              refine ls_fr hF ?_
              refine ls_val (v := .bool true) rfl rfl (by kernel_rfl) (fun w => by kernel_rfl) ?_
              exact ls_fin s0 (.bool true) (congrArg (fun z => upd z 54 _) hF.symm) ⟨rfl, rfl⟩ (sub_nil _)
            · refine ⟨fun o ho vs Rs f' S' w hp hf hx hS hR hs => ?_⟩
              obtain rfl := Option.some.inj ho
              obtain ⟨hv8, hR8⟩ := hp 8 (by kernel_rfl)
              refine And.intro ?_ (And.intro ?_ ?_)
              · exact want_is (j := 8) (t := 54) rfl rfl (by kernel_rfl) ((hf 8 54 (by kernel_rfl) rfl).trans hv8) rfl
              · intro h; cases h
              · intro _; exact ⟨rfl, rfl⟩
            · refine ⟨fun o ho vs Rs f' S' w hp hf hx hS hR hs => ?_⟩
              obtain rfl := Option.some.inj ho
              obtain ⟨hv8, hR8⟩ := hp 8 (by kernel_rfl)
              obtain ⟨hv9, hR9⟩ := hp 9 (by kernel_rfl)
              refine And.intro ?_ (And.intro ?_ ?_)
              · exact want_is (j := 8) (t := 54) rfl rfl (by kernel_rfl) ((hf 8 54 (by kernel_rfl) rfl).trans hv8) rfl
              · intro h; cases h
              · intro _; exact ⟨rfl, rfl⟩
            · refine ⟨fun o ho vs Rs f' S' w hp hf hx hS hR hs => ?_⟩
              obtain rfl := Option.some.inj ho
              obtain ⟨hv8, hR8⟩ := hp 8 (by kernel_rfl)
              obtain ⟨hv10, hR10⟩ := hp 10 (by kernel_rfl)
              refine And.intro ?_ (And.intro ?_ ?_)
              · exact want_is (j := 8) (t := 54) rfl rfl (by kernel_rfl) ((hf 8 54 (by kernel_rfl) rfl).trans hv8) rfl
              · intro h; cases h
              · intro _; exact ⟨rfl, rfl⟩
            · refine ⟨fun o ho vs Rs f' S' w hp hf hx hS hR hs => ?_⟩
              obtain rfl := Option.some.inj ho
              obtain ⟨hv8, hR8⟩ := hp 8 (by kernel_rfl)
              refine And.intro ?_ (And.intro ?_ ?_)
              · exact want_is (j := 8) (t := 54) rfl rfl (by kernel_rfl) ((hf 8 54 (by kernel_rfl) rfl).trans hv8) rfl
              · intro h; cases h
              · intro _; exact ⟨rfl, rfl⟩
            · refine ⟨fun o ho vs Rs f' S' w hp hf hx hS hR hs => ?_⟩
              obtain rfl := Option.some.inj ho
              obtain ⟨hv8, hR8⟩ := hp 8 (by kernel_rfl)
              refine And.intro ?_ (And.intro ?_ ?_)
              · exact want_is (j := 8) (t := 54) rfl rfl (by kernel_rfl) ((hf 8 54 (by kernel_rfl) rfl).trans hv8) rfl
              · intro h; cases h
              · intro _; exact ⟨rfl, rfl⟩
            · refine ⟨fun o ho vs Rs f' S' w hp hf hx hS hR hs => ?_⟩
              obtain rfl := Option.some.inj ho
              obtain ⟨hv8, hR8⟩ := hp 8 (by kernel_rfl)
              obtain ⟨hv12, hR12⟩ := hp 12 (by kernel_rfl)
              obtain ⟨hv13, hR13⟩ := hp 13 (by kernel_rfl)
              refine And.intro ?_ (And.intro ?_ ?_)
              · exact want_is (j := 8) (t := 54) rfl rfl (by kernel_rfl) ((hf 8 54 (by kernel_rfl) rfl).trans hv8) rfl
              · intro h; cases h
              · intro _; exact ⟨rfl, rfl⟩
            · refine ⟨fun o ho vs Rs f' S' w hp hf hx hS hR hs => ?_⟩
              obtain rfl := Option.some.inj ho
              obtain ⟨hv8, hR8⟩ := hp 8 (by kernel_rfl)
              obtain ⟨hv14, hR14⟩ := hp 14 (by kernel_rfl)
              refine And.intro ?_ (And.intro ?_ ?_)
              · exact want_is (j := 8) (t := 54) rfl rfl (by kernel_rfl) ((hf 8 54 (by kernel_rfl) rfl).trans hv8) rfl
              · intro h; cases h
              · intro _; exact ⟨rfl, rfl⟩
          · intro vs Rs f' S' hp hf hx hS hR
            obtain ⟨hv8, hR8⟩ := hp 8 (by kernel_rfl)
            obtain ⟨hv11, hR11⟩ := hp 11 (by kernel_rfl)
            obtain ⟨hv15, hR15⟩ := hp 15 (by kernel_rfl)
            refine ls_fr (F := upd (upd (upd f' 0 (.slice xA3 xl7.length xc4)) 4 (.int .i64 t12.2.1)) 54 (.bool true)) (fr_next (fr_next (fr_next (rfl) ((hx 0 (by kernel_rfl)).trans (by kernel_rfl : (_ : Value) = .slice xA3 xl7.length xc4))) ((hx 4 (by kernel_rfl)).trans (by kernel_rfl : (_ : Value) = .int .i64 t12.2.1))) ((hf 8 54 (by kernel_rfl) rfl).trans hv8)) ?_
            refine ls_sub (s0) (sub_nil _) ?_
            refine ls_off (j := 8) (t := 54) (b := false) (c := true) rfl rfl (by kernel_rfl) (by kernel_rfl) rfl rfl (by kernel_rfl) ?_
            refine ls_val (v := .bool true) rfl rfl (by kernel_rfl) (fun w => by kernel_rfl) ?_
            refine ls_end ?_
            refine qn_then ?_
            refine cs_true (by kernel_rfl) ?_
            refine cs_seq ?_
            refine cs_region (l := [_]) ?_
            refine ls_val (v := .bool false) rfl rfl (by kernel_rfl) (fun w => by kernel_rfl) ?_
            refine ls_end ?_
            refine qn_then ?_
            refine cs_ret' ?_
            refine qr_then ?_
            obtain rfl := Option.some.inj H
            refine qr_end1 rfl (fun w' hs => ⟨(), rfl, ?_⟩)
            exact hs.sub (sub_nil _)
        · replace H := ite_f q17 H
          obtain ⟨t18, hc19, H⟩ := bind_some H
          obtain ⟨q21, H⟩ := ite_need H
          obtain ⟨q22, H⟩ := ite_need H
          obtain ⟨xl27, hy28, H⟩ := lt_some H
          have hz30 : 0 ≤ (t12.2.1).toNat := by omega
          have hz31 : (t12.2.1).toNat ≤ xl7.length := by omega
          obtain ⟨xA23, xc24, he29, xC26, xR25⟩ := cut_at (A := xA3) (c := xc4) (l := xl7) (E := (Value.int .u8)) 0 ((t12.2.1).toNat) hz30 hz31 xC6 xR5 (m := xl27) (by rw [← hy28] <;> simp)
          refine cs_draw (l := [_, _, _, _, _, _, _, _, _, _, _, _, _, _, _, _, _, _]) [[], [0], [0, 1], [0, 1, 2], [0, 1, 2], [0, 1, 2, 4], [0, 1, 2, 3, 4, 5], [0, 1, 2, 3, 4, 5, 6], [0, 1, 2, 3, 4, 5, 6, 7], [0, 1, 2, 3, 4, 5, 6, 7, 8], [0, 1, 2, 3, 4, 5, 6, 7, 8, 9], [0, 1, 2, 3, 4, 5, 6, 7, 8, 9, 10], [0, 1, 2, 3, 4, 5, 6, 7, 8], [0, 1, 2, 3, 4, 5, 6, 7, 8], [0, 1, 2, 3, 4, 5, 6, 7, 8, 12, 13], [0, 1, 2, 3, 4, 5, 6, 7, 8, 12, 13, 14], [0, 1, 2, 3, 4, 5, 6, 7, 8, 9, 10, 11, 12, 13, 14, 15], [0, 1, 2, 3, 4, 5, 6, 7, 8, 9, 10, 11, 12, 13, 14, 15, 16]] 16 0 (spl [fun v R => v = .int .i64 t12.2.1 ∧ R = s0, fun v R => v = .bool false ∧ R = s0, fun v R => v = .bool false ∧ R = s0, fun v R => v = .int .i64 t12.2.1 ∧ R = s0, fun v R => v = .slice xA3 xl7.length xc4 ∧ R = s0, fun v R => v = .int .i64 (xl7.length : Int) ∧ R = s0, fun v R => v = .bool false ∧ R = s0, fun v R => v = .bool false ∧ R = s0, fun v R => v = .bool false ∧ R = s0, fun v R => v = .int .u64 t12.1 ∧ R = s0, fun v R => ∃ x20 : (Option Addr × Nat), v = .slice x20.1 t18.length x20.2 ∧ R = sput s0 0 (some (Ck.sl 5 (Value.int .u8) x20.1 x20.2 t18)), fun v R => v = .string (strOfNums t18) ∧ R = s0, fun v R => v = .slice xA3 xl7.length xc4 ∧ R = s0, fun v R => v = .int .i64 t12.2.1 ∧ R = s0, fun v R => v = .slice xA23 xl27.length xc24 ∧ R = s0, fun v R => v = .string (strOfNums xl27) ∧ R = s0]) (onl [true, true, true, true, true, true, true, true, true, true, true, true, true, true, true, true]) (by kernel_rfl) (by kernel_rfl) (by kernel_rfl) (by kernel_rfl) (rs := [_, _]) rfl (by kernel_rfl) (by kernel_rfl) ?_ ?_
          · refine all_snoc (all_snoc (all_snoc (all_snoc (all_snoc (all_snoc (all_snoc (all_snoc (all_snoc (all_snoc (all_snoc (all_snoc (all_snoc (all_snoc (all_snoc (all_snoc (all_nil) ?_) ?_) ?_) ?_) ?_) ?_) ?_) ?_) ?_) ?_) ?_) ?_) ?_) ?_) ?_) ?_
            · refine ⟨fun o ho vs Rs f' S' w hp hf hx hS hR hs => ?_⟩
              obtain rfl := Option.some.inj ho
              refine And.intro (want_none rfl) (And.intro (fun _ => ?_) (fun h => by cases h))
              have hF := fr_next (rfl) ((hx 4 (by kernel_rfl)).trans (by kernel_rfl : (_ : Value) = .int .i64 t12.2.1))
              refine ls_fr hF ?_
              refine ls_val (v := .int .i64 t12.2.1) rfl rfl (by kernel_rfl) (fun w => by kernel_rfl) ?_
              exact ls_fin s0 (.int .i64 t12.2.1) (congrArg (fun z => upd z 46 _) hF.symm) ⟨rfl, rfl⟩ (sub_nil _)
            · refine ⟨fun o ho vs Rs f' S' w hp hf hx hS hR hs => ?_⟩
              obtain rfl := Option.some.inj ho
              obtain ⟨hv0, hR0⟩ := hp 0 (by kernel_rfl)
              refine And.intro (want_none rfl) (And.intro (fun _ => ?_) (fun h => by cases h))
              have hF := fr_next (rfl) ((hf 0 46 (by kernel_rfl) rfl).trans hv0)
              refine ls_fr hF ?_
              refine ls_val (v := .bool (decide (t12.2.1 < (1 : Int)))) rfl rfl (by kernel_rfl) (fun w => by kernel_rfl) ?_
              refine ls_ren 47 (v := .bool (decide (t12.2.1 < (1 : Int)))) (v' := .bool false) (by kernel_rfl) (congrArg Value.bool (show (decide (t12.2.1 < (1 : Int))) = false from dec_f q16)) ?_
              exact ls_fin s0 (.bool false) ((upd_upd _ _ _ _).trans (congrArg (fun z => upd z 47 _) hF.symm)) ⟨rfl, rfl⟩ (sub_nil _)
            · refine ⟨fun o ho vs Rs f' S' w hp hf hx hS hR hs => ?_⟩
              obtain rfl := Option.some.inj ho
              obtain ⟨hv1, hR1⟩ := hp 1 (by kernel_rfl)
              refine And.intro (want_none rfl) (And.intro (fun _ => ?_) (fun h => by cases h))
              have hF := fr_next (rfl) ((hf 1 47 (by kernel_rfl) rfl).trans hv1)
              refine ls_fr hF ?_
              refine ls_val (v := .bool false) rfl rfl (by kernel_rfl) (fun w => by kernel_rfl) ?_
              exact ls_fin s0 (.bool false) (congrArg (fun z => upd z 48 _) hF.symm) ⟨rfl, rfl⟩ (sub_nil _)
            · refine ⟨fun o ho vs Rs f' S' w hp hf hx hS hR hs => ?_⟩
              obtain rfl := Option.some.inj ho
              obtain ⟨hv2, hR2⟩ := hp 2 (by kernel_rfl)
              refine And.intro (want_is (j := 2) (t := 48) rfl rfl (by kernel_rfl) ((hf 2 48 (by kernel_rfl) rfl).trans hv2) rfl) (And.intro (fun _ => ?_) (fun h => by cases h))
              have hF := fr_next (fr_next (rfl) ((hx 4 (by kernel_rfl)).trans (by kernel_rfl : (_ : Value) = .int .i64 t12.2.1))) ((hf 2 48 (by kernel_rfl) rfl).trans hv2)
              refine ls_fr hF ?_
              refine ls_val (v := .int .i64 t12.2.1) rfl rfl (by kernel_rfl) (fun w => by kernel_rfl) ?_
              exact ls_fin s0 (.int .i64 t12.2.1) (congrArg (fun z => upd z 49 _) hF.symm) ⟨rfl, rfl⟩ (sub_nil _)
            · refine ⟨fun o ho vs Rs f' S' w hp hf hx hS hR hs => ?_⟩
              obtain rfl := Option.some.inj ho
              obtain ⟨hv2, hR2⟩ := hp 2 (by kernel_rfl)
              refine And.intro (want_is (j := 2) (t := 48) rfl rfl (by kernel_rfl) ((hf 2 48 (by kernel_rfl) rfl).trans hv2) rfl) (And.intro (fun _ => ?_) (fun h => by cases h))
              have hF := fr_next (fr_next (rfl) ((hx 0 (by kernel_rfl)).trans (by kernel_rfl : (_ : Value) = .slice xA3 xl7.length xc4))) ((hf 2 48 (by kernel_rfl) rfl).trans hv2)
              refine ls_fr hF ?_
              refine ls_val (v := .slice xA3 xl7.length xc4) rfl rfl (by kernel_rfl) (fun w => by kernel_rfl) ?_
              exact ls_fin s0 (.slice xA3 xl7.length xc4) (congrArg (fun z => upd z 50 _) hF.symm) ⟨rfl, rfl⟩ (sub_nil _)
            · refine ⟨fun o ho vs Rs f' S' w hp hf hx hS hR hs => ?_⟩
              obtain rfl := Option.some.inj ho
              obtain ⟨hv2, hR2⟩ := hp 2 (by kernel_rfl)
              obtain ⟨hv4, hR4⟩ := hp 4 (by kernel_rfl)
              refine And.intro (want_is (j := 2) (t := 48) rfl rfl (by kernel_rfl) ((hf 2 48 (by kernel_rfl) rfl).trans hv2) rfl) (And.intro (fun _ => ?_) (fun h => by cases h))
              have hF := fr_next (fr_next (rfl) ((hf 2 48 (by kernel_rfl) rfl).trans hv2)) ((hf 4 50 (by kernel_rfl) rfl).trans hv4)
              refine ls_fr hF ?_
              refine ls_val (v := .int .i64 (xl7.length : Int)) rfl rfl (by kernel_rfl) (fun w => by kernel_rfl) ?_
              exact ls_fin s0 (.int .i64 (xl7.length : Int)) (congrArg (fun z => upd z 51 _) hF.symm) ⟨rfl, rfl⟩ (sub_nil _)
            · refine ⟨fun o ho vs Rs f' S' w hp hf hx hS hR hs => ?_⟩
              obtain rfl := Option.some.inj ho
              obtain ⟨hv2, hR2⟩ := hp 2 (by kernel_rfl)
              obtain ⟨hv3, hR3⟩ := hp 3 (by kernel_rfl)
              obtain ⟨hv5, hR5⟩ := hp 5 (by kernel_rfl)
              refine And.intro (want_is (j := 2) (t := 48) rfl rfl (by kernel_rfl) ((hf 2 48 (by kernel_rfl) rfl).trans hv2) rfl) (And.intro (fun _ => ?_) (fun h => by cases h))
              have hF := fr_next (fr_next (fr_next (rfl) ((hf 2 48 (by kernel_rfl) rfl).trans hv2)) ((hf 3 49 (by kernel_rfl) rfl).trans hv3)) ((hf 5 51 (by kernel_rfl) rfl).trans hv5)
              refine ls_fr hF ?_
              refine ls_val (v := .bool (decide (t12.2.1 > (xl7.length : Int)))) rfl rfl (by kernel_rfl) (fun w => by kernel_rfl) ?_
              refine ls_ren 52 (v := .bool (decide (t12.2.1 > (xl7.length : Int)))) (v' := .bool false) (by kernel_rfl) (congrArg Value.bool (show (decide (t12.2.1 > (xl7.length : Int))) = false from dec_f q17)) ?_
              exact ls_fin s0 (.bool false) ((upd_upd _ _ _ _).trans (congrArg (fun z => upd z 52 _) hF.symm)) ⟨rfl, rfl⟩ (sub_nil _)
            · refine ⟨fun o ho vs Rs f' S' w hp hf hx hS hR hs => ?_⟩
              obtain rfl := Option.some.inj ho
              obtain ⟨hv2, hR2⟩ := hp 2 (by kernel_rfl)
              obtain ⟨hv6, hR6⟩ := hp 6 (by kernel_rfl)
              refine And.intro (want_none rfl) (And.intro (fun _ => ?_) (fun h => by cases h))
              have hF := fr_next (fr_next (rfl) ((hf 2 48 (by kernel_rfl) rfl).trans hv2)) ((hf 6 52 (by kernel_rfl) rfl).trans hv6)
              refine ls_fr hF ?_
              refine ls_val (v := .bool false) rfl rfl (by kernel_rfl) (fun w => by kernel_rfl) ?_
              exact ls_fin s0 (.bool false) (congrArg (fun z => upd z 53 _) hF.symm) ⟨rfl, rfl⟩ (sub_nil _)
            · refine ⟨fun o ho vs Rs f' S' w hp hf hx hS hR hs => ?_⟩
              obtain rfl := Option.some.inj ho
              obtain ⟨hv7, hR7⟩ := hp 7 (by kernel_rfl)
              refine And.intro (want_none rfl) (And.intro (fun _ => ?_) (fun h => by cases h))
              have hF := fr_next (rfl) ((hf 7 53 (by kernel_rfl) rfl).trans hv7)
              refine ls_fr hF ?_
              refine ls_val (v := .bool false) rfl rfl (by kernel_rfl) (fun w => by kernel_rfl) ?_
              exact ls_fin s0 (.bool false) (congrArg (fun z => upd z 54 _) hF.symm) ⟨rfl, rfl⟩ (sub_nil _)
            · refine ⟨fun o ho vs Rs f' S' w hp hf hx hS hR hs => ?_⟩
              obtain rfl := Option.some.inj ho
              obtain ⟨hv8, hR8⟩ := hp 8 (by kernel_rfl)
              refine And.intro (want_is (j := 8) (t := 54) rfl rfl (by kernel_rfl) ((hf 8 54 (by kernel_rfl) rfl).trans hv8) rfl) (And.intro (fun _ => ?_) (fun h => by cases h))
              have hF := fr_next (fr_next (rfl) ((hx 3 (by kernel_rfl)).trans (by kernel_rfl : (_ : Value) = .int .u64 t12.1))) ((hf 8 54 (by kernel_rfl) rfl).trans hv8)
              refine ls_fr hF ?_
              refine ls_val (v := .int .u64 t12.1) rfl rfl (by kernel_rfl) (fun w => by kernel_rfl) ?_
              exact ls_fin s0 (.int .u64 t12.1) (congrArg (fun z => upd z 55 _) hF.symm) ⟨rfl, rfl⟩ (sub_nil _)
            · refine ⟨fun o ho vs Rs f' S' w hp hf hx hS hR hs => ?_⟩
              obtain rfl := Option.some.inj ho
              obtain ⟨hv8, hR8⟩ := hp 8 (by kernel_rfl)
              obtain ⟨hv9, hR9⟩ := hp 9 (by kernel_rfl)
              refine And.intro (want_is (j := 8) (t := 54) rfl rfl (by kernel_rfl) ((hf 8 54 (by kernel_rfl) rfl).trans hv8) rfl) (And.intro (fun _ => ?_) (fun h => by cases h))
              have hF := fr_next (fr_next (rfl) ((hf 8 54 (by kernel_rfl) rfl).trans hv8)) ((hf 9 55 (by kernel_rfl) rfl).trans hv9)
              refine ls_fr hF ?_
              refine ls_call (fid := 17) (vals := #[.slice none ([] : List Int).length 0, .int .u64 t12.1]) (X := (Option Addr × Nat)) (fun x => .slice x.1 t18.length x.2) (fun x => sput s0 0 (some (Ck.sl 5 (Value.int .u8) x.1 x.2 t18))) 0 rfl rfl (by kernel_rfl) (fun w => by kernel_rfl) (fun w1 hs1 => codec_Short.calls k none 0 ([] : List Int) t12.1 t18 w1 (Rd.nil _ _) (Nat.le_refl 0) hc19) ?_
              intro x20
              exact ls_fin (sput s0 0 (some (Ck.sl 5 (Value.int .u8) x20.1 x20.2 t18))) (.slice x20.1 t18.length x20.2) (congrArg (fun z => upd z 56 _) hF.symm) ⟨x20, rfl, rfl⟩ (sub_put (by exact rfl) (sub_nil _))
            · refine ⟨fun o ho vs Rs f' S' w hp hf hx hS hR hs => ?_⟩
              obtain rfl := Option.some.inj ho
              obtain ⟨hv8, hR8⟩ := hp 8 (by kernel_rfl)
              obtain ⟨x20, hv10, hR10⟩ := hp 10 (by kernel_rfl)
              have hT10_0 := (hR 10 0 (by kernel_rfl) (by decide)).trans (congrFun hR10 0)
              refine And.intro (want_is (j := 8) (t := 54) rfl rfl (by kernel_rfl) ((hf 8 54 (by kernel_rfl) rfl).trans hv8) rfl) (And.intro (fun _ => ?_) (fun h => by cases h))
              have hF := fr_next (fr_next (rfl) ((hf 8 54 (by kernel_rfl) rfl).trans hv8)) ((hf 10 56 (by kernel_rfl) rfl).trans hv10)
              refine ls_fr hF ?_
              refine ls_str (A := x20.1) (c := x20.2) (e := 5) (l := t18) rfl rfl (by kernel_rfl) rfl (by kernel_rfl) (by kernel_rfl) (by kernel_rfl) (by kernel_rfl) (fun w1 hs1 => (hs1.old (hs.rd (k := 80) hT10_0))) ?_
              exact ls_fin s0 (.string (strOfNums t18)) (congrArg (fun z => upd z 57 _) hF.symm) ⟨rfl, rfl⟩ (sub_nil _)
            · refine ⟨fun o ho vs Rs f' S' w hp hf hx hS hR hs => ?_⟩
              obtain rfl := Option.some.inj ho
              obtain ⟨hv8, hR8⟩ := hp 8 (by kernel_rfl)
              refine And.intro (want_is (j := 8) (t := 54) rfl rfl (by kernel_rfl) ((hf 8 54 (by kernel_rfl) rfl).trans hv8) rfl) (And.intro (fun _ => ?_) (fun h => by cases h))
              have hF := fr_next (fr_next (rfl) ((hx 0 (by kernel_rfl)).trans (by kernel_rfl : (_ : Value) = .slice xA3 xl7.length xc4))) ((hf 8 54 (by kernel_rfl) rfl).trans hv8)
              refine ls_fr hF ?_
              refine ls_val (v := .slice xA3 xl7.length xc4) rfl rfl (by kernel_rfl) (fun w => by kernel_rfl) ?_
              exact ls_fin s0 (.slice xA3 xl7.length xc4) (congrArg (fun z => upd z 58 _) hF.symm) ⟨rfl, rfl⟩ (sub_nil _)
            · refine ⟨fun o ho vs Rs f' S' w hp hf hx hS hR hs => ?_⟩
              obtain rfl := Option.some.inj ho
              obtain ⟨hv8, hR8⟩ := hp 8 (by kernel_rfl)
              refine And.intro (want_is (j := 8) (t := 54) rfl rfl (by kernel_rfl) ((hf 8 54 (by kernel_rfl) rfl).trans hv8) rfl) (And.intro (fun _ => ?_) (fun h => by cases h))
              have hF := fr_next (fr_next (rfl) ((hx 4 (by kernel_rfl)).trans (by kernel_rfl : (_ : Value) = .int .i64 t12.2.1))) ((hf 8 54 (by kernel_rfl) rfl).trans hv8)
              refine ls_fr hF ?_
              refine ls_val (v := .int .i64 t12.2.1) rfl rfl (by kernel_rfl) (fun w => by kernel_rfl) ?_
              exact ls_fin s0 (.int .i64 t12.2.1) (congrArg (fun z => upd z 59 _) hF.symm) ⟨rfl, rfl⟩ (sub_nil _)
            · refine ⟨fun o ho vs Rs f' S' w hp hf hx hS hR hs => ?_⟩
              obtain rfl := Option.some.inj ho
              obtain ⟨hv8, hR8⟩ := hp 8 (by kernel_rfl)
              obtain ⟨hv12, hR12⟩ := hp 12 (by kernel_rfl)
              obtain ⟨hv13, hR13⟩ := hp 13 (by kernel_rfl)
              refine And.intro (want_is (j := 8) (t := 54) rfl rfl (by kernel_rfl) ((hf 8 54 (by kernel_rfl) rfl).trans hv8) rfl) (And.intro (fun _ => ?_) (fun h => by cases h))
              have hF := fr_next (fr_next (fr_next (rfl) ((hf 8 54 (by kernel_rfl) rfl).trans hv8)) ((hf 12 58 (by kernel_rfl) rfl).trans hv12)) ((hf 13 59 (by kernel_rfl) rfl).trans hv13)
              refine ls_fr hF ?_
              refine ls_cutv (A := xA3) (c := xc4) (l := xl7) (e := 5) (a := 0) (b := (t12.2.1).toNat) rfl rfl (by kernel_rfl) rfl (by kernel_rfl) (by kernel_rfl) (by kernel_rfl) (.inl ⟨rfl, rfl⟩) (.inr ⟨.i64, by rw [Int.toNat_of_nonneg (by first | assumption | omega)]; kernel_rfl⟩) hz30 hz31 xC6 he29 ?_
              exact ls_fin s0 (.slice xA23 xl27.length xc24) (congrArg (fun z => upd z 60 _) hF.symm) ⟨rfl, rfl⟩ (sub_nil _)
            · refine ⟨fun o ho vs Rs f' S' w hp hf hx hS hR hs => ?_⟩
              obtain rfl := Option.some.inj ho
              obtain ⟨hv8, hR8⟩ := hp 8 (by kernel_rfl)
              obtain ⟨hv14, hR14⟩ := hp 14 (by kernel_rfl)
              refine And.intro (want_is (j := 8) (t := 54) rfl rfl (by kernel_rfl) ((hf 8 54 (by kernel_rfl) rfl).trans hv8) rfl) (And.intro (fun _ => ?_) (fun h => by cases h))
              have hF := fr_next (fr_next (rfl) ((hf 8 54 (by kernel_rfl) rfl).trans hv8)) ((hf 14 60 (by kernel_rfl) rfl).trans hv14)
              refine ls_fr hF ?_
              refine ls_str (A := xA23) (c := xc24) (e := 5) (l := xl27) rfl rfl (by kernel_rfl) rfl (by kernel_rfl) (by kernel_rfl) (by kernel_rfl) (by kernel_rfl) (fun w1 hs1 => (hs1.old (hs.old xR25))) ?_
              exact ls_fin s0 (.string (strOfNums xl27)) (congrArg (fun z => upd z 61 _) hF.symm) ⟨rfl, rfl⟩ (sub_nil _)
          · intro vs Rs f' S' hp hf hx hS hR
            obtain ⟨hv8, hR8⟩ := hp 8 (by kernel_rfl)
            obtain ⟨x20, hv10, hR10⟩ := hp 10 (by kernel_rfl)
            have hT10_0 := (hR 10 0 (by kernel_rfl) (by decide)).trans (congrFun hR10 0)
            obtain ⟨hv11, hR11⟩ := hp 11 (by kernel_rfl)
            obtain ⟨hv15, hR15⟩ := hp 15 (by kernel_rfl)
            refine ls_fr (F := upd (upd (upd (upd (upd f' 0 (.slice xA3 xl7.length xc4)) 4 (.int .i64 t12.2.1)) 54 (.bool false)) 57 (.string (strOfNums t18))) 61 (.string (strOfNums xl27))) (fr_next (fr_next (fr_next (fr_next (fr_next (rfl) ((hx 0 (by kernel_rfl)).trans (by kernel_rfl : (_ : Value) = .slice xA3 xl7.length xc4))) ((hx 4 (by kernel_rfl)).trans (by kernel_rfl : (_ : Value) = .int .i64 t12.2.1))) ((hf 8 54 (by kernel_rfl) rfl).trans hv8)) ((hf 11 57 (by kernel_rfl) rfl).trans hv11)) ((hf 15 61 (by kernel_rfl) rfl).trans hv15)) ?_
            refine ls_sub (s0) (sub_nil _) ?_
            refine ls_on (j := 8) (t := 54) (b := false) rfl rfl (by kernel_rfl) (by kernel_rfl) ?_
            refine ls_val (v := .bool (!((strOfNums t18).toList == (strOfNums xl27).toList))) rfl rfl (by kernel_rfl) (fun w => by kernel_rfl) ?_
            refine ls_val (v := .bool (!((strOfNums t18).toList == (strOfNums xl27).toList))) rfl rfl (by kernel_rfl) (fun w => by kernel_rfl) ?_
            refine ls_end ?_
            refine qn_then ?_
            by_cases q32 : ((strOfNums t18).toList == (strOfNums xl27).toList) = true
            · replace H := ite_t q32 H
              refine cs_know (c := false) (congrArg Bool.not (q32)) 63 (by kernel_rfl) ?_
              refine cs_false (by kernel_rfl) ?_
              refine cs_skip' ?_
              refine qn_then ?_
              refine cs_seq ?_
              refine cs_region (l := [_, _, _, _, _, _, _, _, _, _]) ?_
              refine ls_val (v := .slice xA3 xl7.length xc4) rfl rfl (by kernel_rfl) (fun w => by kernel_rfl) ?_
              refine ls_val (v := .int .i64 t12.2.1) rfl rfl (by kernel_rfl) (fun w => by kernel_rfl) ?_
              refine ls_val (v := .int .i64 (IntKind.wrap .i64 (t12.2.1 - (1 : Int)))) rfl rfl (by kernel_rfl) (fun w => by kernel_rfl) ?_
              obtain ⟨q33, H⟩ := ite_need H
              obtain ⟨q34, H⟩ := ite_need H
              obtain ⟨xl39, hy40, H⟩ := lt_some H
              have hz42 : 0 ≤ (IntKind.wrap .i64 (t12.2.1 - (1 : Int))).toNat := by omega
              have hz43 : (IntKind.wrap .i64 (t12.2.1 - (1 : Int))).toNat ≤ xl7.length := by omega
              obtain ⟨xA35, xc36, he41, xC38, xR37⟩ := cut_at (A := xA3) (c := xc4) (l := xl7) (E := (Value.int .u8)) 0 ((IntKind.wrap .i64 (t12.2.1 - (1 : Int))).toNat) hz42 hz43 xC6 xR5 (m := xl39) (by rw [← hy40] <;> simp)
              refine ls_cutv (A := xA3) (c := xc4) (l := xl7) (e := 5) (a := 0) (b := (IntKind.wrap .i64 (t12.2.1 - (1 : Int))).toNat) rfl rfl (by kernel_rfl) rfl (by kernel_rfl) (by kernel_rfl) (by kernel_rfl) (.inl ⟨rfl, rfl⟩) (.inr ⟨.i64, by rw [Int.toNat_of_nonneg (by first | assumption | omega)]; kernel_rfl⟩) hz42 hz43 xC6 he41 ?_
              obtain ⟨t44, hc45, H⟩ := bind_some H
              refine ls_call (fid := 15) (vals := #[.slice xA35 xl39.length xc36]) (X := Unit) (fun x => .tuple #[.int .u64 t44.1, .int .i64 t44.2.1, .int .i64 t44.2.2]) (fun x => s0) 128 rfl rfl (by kernel_rfl) (fun w => by kernel_rfl) (fun w hs => codec_ReadShort.calls k xA35 xc36 xl39 t44 w (hs.old xR37) xC38 hc45) ?_
              intro x46
              refine ls_val (v := .tuple #[.int .u64 t44.1, .int .i64 t44.2.1, .int .i64 t44.2.2]) rfl rfl (by kernel_rfl) (fun w => by kernel_rfl) ?_
              refine ls_val (v := .int .u64 t44.1) rfl rfl (by kernel_rfl) (fun w => by kernel_rfl) ?_
              refine ls_val (v := .int .i64 t44.2.1) rfl rfl (by kernel_rfl) (fun w => by kernel_rfl) ?_
              refine ls_val (v := .int .i64 t44.2.2) rfl rfl (by kernel_rfl) (fun w => by kernel_rfl) ?_
              refine ls_val (v := .int .i64 t44.2.2) rfl rfl (by kernel_rfl) (fun w => by kernel_rfl) ?_
              refine ls_end ?_
              refine qn_then ?_
              refine cs_seq ?_
              refine cs_region (l := [_, _, _]) ?_
              refine ls_val (v := .int .i64 t44.2.2) rfl rfl (by kernel_rfl) (fun w => by kernel_rfl) ?_
              refine ls_val (v := .bool (decide (t44.2.2 = (10 : Int)))) rfl rfl (by kernel_rfl) (fun w => by kernel_rfl) ?_
              refine ls_val (v := .bool (decide (t44.2.2 = (10 : Int)))) rfl rfl (by kernel_rfl) (fun w => by kernel_rfl) ?_
              refine ls_end ?_
              refine qn_then ?_
              refine cs_ret' ?_
              obtain rfl := Option.some.inj H
              refine qr_end1 rfl (fun w' hs => ⟨(), rfl, ?_⟩)
              exact hs.sub (sub_nil _)
            · replace H := ite_f q32 H
              refine cs_know (c := true) (congrArg Bool.not (Bool.eq_false_iff.mpr q32)) 63 (by kernel_rfl) ?_
              refine cs_true (by kernel_rfl) ?_
              refine cs_seq ?_
              refine cs_region (l := [_]) ?_
              refine ls_val (v := .bool false) rfl rfl (by kernel_rfl) (fun w => by kernel_rfl) ?_
              refine ls_end ?_
              refine qn_then ?_
              refine cs_ret' ?_
              refine qr_then ?_
              obtain rfl := Option.some.inj H
              refine qr_end1 rfl (fun w' hs => ⟨(), rfl, ?_⟩)
              exact hs.sub (sub_nil _)
    · replace H := ite_f q15 H
      refine cs_know (c := true) (congrArg Bool.not (dec_f q15)) 21 (by kernel_rfl) ?_
      refine cs_true (by kernel_rfl) ?_
      refine cs_seq ?_
      refine cs_region (l := [_, _, _, _, _, _, _, _, _]) ?_
      refine ls_lit (E := (Value.int .u8)) (e := 5) 0 rfl rfl (by kernel_rfl) ([(5 : Int)]) (by exact of_decide_eq_true (by kernel_rfl)) (fun w => by kernel_rfl) ?_
      intro g47
      obtain ⟨t48, hc49, H⟩ := bind_some H
      refine ls_call (fid := 15) (vals := #[.slice (some ⟨g47, 0, none⟩) ([(5 : Int)]).length [(5 : Int)].length]) (X := Unit) (fun x => .tuple #[.int .u64 t48.1, .int .i64 t48.2.1, .int .i64 t48.2.2]) (fun x => s0) 1 rfl rfl (by kernel_rfl) (fun w => by kernel_rfl) (fun w hs => codec_ReadShort.calls k (some ⟨g47, 0, none⟩) [(5 : Int)].length ([(5 : Int)]) t48 w (hs.rd (k := 0) (by exact rfl)) (hs.cap (k := 0) (by exact rfl)) hc49) ?_
      intro x50
      refine ls_val (v := .tuple #[.int .u64 t48.1, .int .i64 t48.2.1, .int .i64 t48.2.2]) rfl rfl (by kernel_rfl) (fun w => by kernel_rfl) ?_
      refine ls_val (v := .int .u64 t48.1) rfl rfl (by kernel_rfl) (fun w => by kernel_rfl) ?_
      refine ls_val (v := .int .i64 t48.2.1) rfl rfl (by kernel_rfl) (fun w => by kernel_rfl) ?_
      refine ls_val (v := .int .i64 t48.2.2) rfl rfl (by kernel_rfl) (fun w => by kernel_rfl) ?_
      refine ls_val (v := .int .u64 t48.1) rfl rfl (by kernel_rfl) (fun w => by kernel_rfl) ?_
      refine ls_val (v := .int .i64 t48.2.1) rfl rfl (by kernel_rfl) (fun w => by kernel_rfl) ?_
      refine ls_val (v := .int .i64 t48.2.2) rfl rfl (by kernel_rfl) (fun w => by kernel_rfl) ?_
      refine ls_end ?_
      refine qn_then ?_
      refine cs_seq ?_
      refine cs_region (l := [_, _, _, _, _, _, _, _, _, _, _, _, _, _, _, _, _, _, _]) ?_
      refine ls_val (v := .int .u64 t12.1) rfl rfl (by kernel_rfl) (fun w => by kernel_rfl) ?_
      refine ls_val (v := .bool (decide (t12.1 = (0 : Int)))) rfl rfl (by kernel_rfl) (fun w => by kernel_rfl) ?_
      refine ls_val (v := .bool (decide (t12.1 = (0 : Int)))) rfl rfl (by kernel_rfl) (fun w => by kernel_rfl) ?_
      by_cases q51 : t12.1 = (0 : Int)
      · replace H := ite_t q51 H
        refine ls_know (c := true) (dec_t q51) 30 (by kernel_rfl) ?_
        refine ls_on (j := 2) (t := 30) (b := true) rfl rfl (by kernel_rfl) (by kernel_rfl) ?_
        refine ls_val (v := .int .i64 t12.2.1) rfl rfl (by kernel_rfl) (fun w => by kernel_rfl) ?_
        refine ls_on (j := 2) (t := 30) (b := true) rfl rfl (by kernel_rfl) (by kernel_rfl) ?_
        refine ls_val (v := .bool (decide (t12.2.1 = (0 : Int)))) rfl rfl (by kernel_rfl) (fun w => by kernel_rfl) ?_
        refine ls_val (v := .bool (decide (t12.2.1 = (0 : Int)))) rfl rfl (by kernel_rfl) (fun w => by kernel_rfl) ?_
        refine ls_val (v := .bool (decide (t12.2.1 = (0 : Int)))) rfl rfl (by kernel_rfl) (fun w => by kernel_rfl) ?_
        by_cases q52 : t12.2.1 = (0 : Int)
        · replace H := ite_t q52 H
          refine ls_know (c := true) (dec_t q52) 34 (by kernel_rfl) ?_
          refine ls_on (j := 6) (t := 34) (b := true) rfl rfl (by kernel_rfl) (by kernel_rfl) ?_
          refine ls_val (v := .int .u64 t48.1) rfl rfl (by kernel_rfl) (fun w => by kernel_rfl) ?_
          refine ls_on (j := 6) (t := 34) (b := true) rfl rfl (by kernel_rfl) (by kernel_rfl) ?_
          refine ls_val (v := .bool (decide (t48.1 = (5 : Int)))) rfl rfl (by kernel_rfl) (fun w => by kernel_rfl) ?_
          refine ls_val (v := .bool (decide (t48.1 = (5 : Int)))) rfl rfl (by kernel_rfl) (fun w => by kernel_rfl) ?_
          refine ls_val (v := .bool (decide (t48.1 = (5 : Int)))) rfl rfl (by kernel_rfl) (fun w => by kernel_rfl) ?_
          by_cases q53 : t48.1 = (5 : Int)
          · replace H := ite_t q53 H
            refine ls_know (c := true) (dec_t q53) 38 (by kernel_rfl) ?_
            refine ls_on (j := 10) (t := 38) (b := true) rfl rfl (by kernel_rfl) (by kernel_rfl) ?_
            refine ls_val (v := .int .i64 t48.2.1) rfl rfl (by kernel_rfl) (fun w => by kernel_rfl) ?_
            refine ls_on (j := 10) (t := 38) (b := true) rfl rfl (by kernel_rfl) (by kernel_rfl) ?_
            refine ls_val (v := .bool (decide (t48.2.1 = (1 : Int)))) rfl rfl (by kernel_rfl) (fun w => by kernel_rfl) ?_
            refine ls_val (v := .bool (decide (t48.2.1 = (1 : Int)))) rfl rfl (by kernel_rfl) (fun w => by kernel_rfl) ?_
            refine ls_val (v := .bool (decide (t48.2.1 = (1 : Int)))) rfl rfl (by kernel_rfl) (fun w => by kernel_rfl) ?_
            by_cases q54 : t48.2.1 = (1 : Int)
            · replace H := ite_t q54 H
              refine ls_know (c := true) (dec_t q54) 42 (by kernel_rfl) ?_
              refine ls_on (j := 14) (t := 42) (b := true) rfl rfl (by kernel_rfl) (by kernel_rfl) ?_
              refine ls_val (v := .int .i64 t48.2.2) rfl rfl (by kernel_rfl) (fun w => by kernel_rfl) ?_
              refine ls_on (j := 14) (t := 42) (b := true) rfl rfl (by kernel_rfl) (by kernel_rfl) ?_
              refine ls_val (v := .bool (decide (t48.2.2 = (0 : Int)))) rfl rfl (by kernel_rfl) (fun w => by kernel_rfl) ?_
              refine ls_val (v := .bool (decide (t48.2.2 = (0 : Int)))) rfl rfl (by kernel_rfl) (fun w => by kernel_rfl) ?_
              refine ls_val (v := .bool (decide (t48.2.2 = (0 : Int)))) rfl rfl (by kernel_rfl) (fun w => by kernel_rfl) ?_
              refine ls_end ?_
              refine qn_then ?_
              refine cs_ret' ?_
              refine qr_then ?_
              obtain rfl := Option.some.inj H
              refine qr_end1 rfl (fun w' hs => ⟨(), rfl, ?_⟩)
              exact hs.sub (sub_nil _)
            · replace H := ite_f q54 H
              refine ls_know (c := false) (dec_f q54) 42 (by kernel_rfl) ?_
              refine ls_off (j := 14) (t := 42) (b := true) (c := false) rfl rfl (by kernel_rfl) (by kernel_rfl) rfl rfl (by kernel_rfl) ?_
              refine ls_off (j := 14) (t := 42) (b := true) (c := false) rfl rfl (by kernel_rfl) (by kernel_rfl) rfl rfl (by kernel_rfl) ?_
              refine ls_val (v := .bool false) rfl rfl (by kernel_rfl) (fun w => by kernel_rfl) ?_
              refine ls_val (v := .bool false) rfl rfl (by kernel_rfl) (fun w => by kernel_rfl) ?_
              refine ls_end ?_
              refine qn_then ?_
              refine cs_ret' ?_
              refine qr_then ?_
              obtain rfl := Option.some.inj H
              refine qr_end1 rfl (fun w' hs => ⟨(), rfl, ?_⟩)
              exact hs.sub (sub_nil _)
          · replace H := ite_f q53 H
            refine ls_know (c := false) (dec_f q53) 38 (by kernel_rfl) ?_
            refine ls_off (j := 10) (t := 38) (b := true) (c := false) rfl rfl (by kernel_rfl) (by kernel_rfl) rfl rfl (by kernel_rfl) ?_
            refine ls_off (j := 10) (t := 38) (b := true) (c := false) rfl rfl (by kernel_rfl) (by kernel_rfl) rfl rfl (by kernel_rfl) ?_
            refine ls_val (v := .bool false) rfl rfl (by kernel_rfl) (fun w => by kernel_rfl) ?_
            refine ls_val (v := .bool false) rfl rfl (by kernel_rfl) (fun w => by kernel_rfl) ?_
            refine ls_off (j := 14) (t := 42) (b := true) (c := false) rfl rfl (by kernel_rfl) (by kernel_rfl) rfl rfl (by kernel_rfl) ?_
            refine ls_off (j := 14) (t := 42) (b := true) (c := false) rfl rfl (by kernel_rfl) (by kernel_rfl) rfl rfl (by kernel_rfl) ?_
            refine ls_val (v := .bool false) rfl rfl (by kernel_rfl) (fun w => by kernel_rfl) ?_
            refine ls_val (v := .bool false) rfl rfl (by kernel_rfl) (fun w => by kernel_rfl) ?_
            refine ls_end ?_
            refine qn_then ?_
            refine cs_ret' ?_
            refine qr_then ?_
            obtain rfl := Option.some.inj H
            refine qr_end1 rfl (fun w' hs => ⟨(), rfl, ?_⟩)
            exact hs.sub (sub_nil _)
        · replace H := ite_f q52 H
          refine ls_know (c := false) (dec_f q52) 34 (by kernel_rfl) ?_
          refine ls_off (j := 6) (t := 34) (b := true) (c := false) rfl rfl (by kernel_rfl) (by kernel_rfl) rfl rfl (by kernel_rfl) ?_
          refine ls_off (j := 6) (t := 34) (b := true) (c := false) rfl rfl (by kernel_rfl) (by kernel_rfl) rfl rfl (by kernel_rfl) ?_
          refine ls_val (v := .bool false) rfl rfl (by kernel_rfl) (fun w => by kernel_rfl) ?_
          refine ls_val (v := .bool false) rfl rfl (by kernel_rfl) (fun w => by kernel_rfl) ?_
          refine ls_off (j := 10) (t := 38) (b := true) (c := false) rfl rfl (by kernel_rfl) (by kernel_rfl) rfl rfl (by kernel_rfl) ?_
          refine ls_off (j := 10) (t := 38) (b := true) (c := false) rfl rfl (by kernel_rfl) (by kernel_rfl) rfl rfl (by kernel_rfl) ?_
          refine ls_val (v := .bool false) rfl rfl (by kernel_rfl) (fun w => by kernel_rfl) ?_
          refine ls_val (v := .bool false) rfl rfl (by kernel_rfl) (fun w => by kernel_rfl) ?_
          refine ls_off (j := 14) (t := 42) (b := true) (c := false) rfl rfl (by kernel_rfl) (by kernel_rfl) rfl rfl (by kernel_rfl) ?_
          refine ls_off (j := 14) (t := 42) (b := true) (c := false) rfl rfl (by kernel_rfl) (by kernel_rfl) rfl rfl (by kernel_rfl) ?_
          refine ls_val (v := .bool false) rfl rfl (by kernel_rfl) (fun w => by kernel_rfl) ?_
          refine ls_val (v := .bool false) rfl rfl (by kernel_rfl) (fun w => by kernel_rfl) ?_
          refine ls_end ?_
          refine qn_then ?_
          refine cs_ret' ?_
          refine qr_then ?_
          obtain rfl := Option.some.inj H
          refine qr_end1 rfl (fun w' hs => ⟨(), rfl, ?_⟩)
          exact hs.sub (sub_nil _)
      · replace H := ite_f q51 H
        refine ls_know (c := false) (dec_f q51) 30 (by kernel_rfl) ?_
        refine ls_off (j := 2) (t := 30) (b := true) (c := false) rfl rfl (by kernel_rfl) (by kernel_rfl) rfl rfl (by kernel_rfl) ?_
        refine ls_off (j := 2) (t := 30) (b := true) (c := false) rfl rfl (by kernel_rfl) (by kernel_rfl) rfl rfl (by kernel_rfl) ?_
        refine ls_val (v := .bool false) rfl rfl (by kernel_rfl) (fun w => by kernel_rfl) ?_
        refine ls_val (v := .bool false) rfl rfl (by kernel_rfl) (fun w => by kernel_rfl) ?_
        refine ls_off (j := 6) (t := 34) (b := true) (c := false) rfl rfl (by kernel_rfl) (by kernel_rfl) rfl rfl (by kernel_rfl) ?_
        refine ls_off (j := 6) (t := 34) (b := true) (c := false) rfl rfl (by kernel_rfl) (by kernel_rfl) rfl rfl (by kernel_rfl) ?_
        refine ls_val (v := .bool false) rfl rfl (by kernel_rfl) (fun w => by kernel_rfl) ?_
        refine ls_val (v := .bool false) rfl rfl (by kernel_rfl) (fun w => by kernel_rfl) ?_
        refine ls_off (j := 10) (t := 38) (b := true) (c := false) rfl rfl (by kernel_rfl) (by kernel_rfl) rfl rfl (by kernel_rfl) ?_
        refine ls_off (j := 10) (t := 38) (b := true) (c := false) rfl rfl (by kernel_rfl) (by kernel_rfl) rfl rfl (by kernel_rfl) ?_
        refine ls_val (v := .bool false) rfl rfl (by kernel_rfl) (fun w => by kernel_rfl) ?_
        refine ls_val (v := .bool false) rfl rfl (by kernel_rfl) (fun w => by kernel_rfl) ?_
        refine ls_off (j := 14) (t := 42) (b := true) (c := false) rfl rfl (by kernel_rfl) (by kernel_rfl) rfl rfl (by kernel_rfl) ?_
        refine ls_off (j := 14) (t := 42) (b := true) (c := false) rfl rfl (by kernel_rfl) (by kernel_rfl) rfl rfl (by kernel_rfl) ?_
        refine ls_val (v := .bool false) rfl rfl (by kernel_rfl) (fun w => by kernel_rfl) ?_
        refine ls_val (v := .bool false) rfl rfl (by kernel_rfl) (fun w => by kernel_rfl) ?_
        refine ls_end ?_
        refine qn_then ?_
        refine cs_ret' ?_
        refine qr_then ?_
        obtain rfl := Option.some.inj H
        refine qr_end1 rfl (fun w' hs => ⟨(), rfl, ?_⟩)
        exact hs.sub (sub_nil _)
  · replace H := ite_f q1 H
    refine cs_know (c := false) (dec_f q1) 11 (by kernel_rfl) ?_
    refine cs_false (by kernel_rfl) ?_
    refine cs_skip' ?_
    refine qn_then ?_
    refine cs_seq ?_
    refine cs_region (l := [_, _, _, _, _, _, _, _, _]) ?_
    refine ls_val (v := .slice A0 l0.length c0) rfl rfl (by kernel_rfl) (fun w => by kernel_rfl) ?_
    obtain ⟨t55, hc56, H⟩ := bind_some H
    refine ls_call (fid := 15) (vals := #[.slice A0 l0.length c0]) (X := Unit) (fun x => .tuple #[.int .u64 t55.1, .int .i64 t55.2.1, .int .i64 t55.2.2]) (fun x => s0) 0 rfl rfl (by kernel_rfl) (fun w => by kernel_rfl) (fun w hs => codec_ReadShort.calls k A0 c0 l0 t55 w (hs.old R0) C0 hc56) ?_
    intro x57
    refine ls_val (v := .tuple #[.int .u64 t55.1, .int .i64 t55.2.1, .int .i64 t55.2.2]) rfl rfl (by kernel_rfl) (fun w => by kernel_rfl) ?_
    refine ls_val (v := .int .u64 t55.1) rfl rfl (by kernel_rfl) (fun w => by kernel_rfl) ?_
    refine ls_val (v := .int .i64 t55.2.1) rfl rfl (by kernel_rfl) (fun w => by kernel_rfl) ?_
    refine ls_val (v := .int .i64 t55.2.2) rfl rfl (by kernel_rfl) (fun w => by kernel_rfl) ?_
    refine ls_val (v := .int .u64 t55.1) rfl rfl (by kernel_rfl) (fun w => by kernel_rfl) ?_
    refine ls_val (v := .int .i64 t55.2.1) rfl rfl (by kernel_rfl) (fun w => by kernel_rfl) ?_
    refine ls_val (v := .int .i64 t55.2.2) rfl rfl (by kernel_rfl) (fun w => by kernel_rfl) ?_
    refine ls_end ?_
    refine qn_then ?_
    refine cs_seq ?_
    refine cs_seq ?_
    refine cs_region (l := [_, _]) ?_
    refine ls_val (v := .int .i64 t55.2.2) rfl rfl (by kernel_rfl) (fun w => by kernel_rfl) ?_
    refine ls_val (v := .bool (!decide (t55.2.2 = (0 : Int)))) rfl rfl (by kernel_rfl) (fun w => by kernel_rfl) ?_
    refine ls_end ?_
    refine qn_then ?_
    by_cases q58 : t55.2.2 = (0 : Int)
    · replace H := ite_t q58 H
      refine cs_know (c := false) (congrArg Bool.not (dec_t q58)) 21 (by kernel_rfl) ?_
      refine cs_false (by kernel_rfl) ?_
      refine cs_skip' ?_
      refine qn_then ?_
      refine cs_seq ?_
      refine cs_seq ?_
      by_cases q59 : t55.2.1 < (1 : Int)
      · replace H := ite_t q59 H
        refine cs_draw (l := [_, _, _, _, _, _, _, _, _, _, _, _, _, _, _, _, _, _]) [[], [0], [0, 1], [0, 1, 2], [0, 1, 2], [0, 1, 2, 4], [0, 1, 2, 3, 4, 5], [0, 1, 2, 3, 4, 5, 6], [0, 1, 2, 3, 4, 5, 6, 7], [0, 1, 2, 3, 4, 5, 6, 7, 8], [0, 1, 2, 3, 4, 5, 6, 7, 8, 9], [0, 1, 2, 3, 4, 5, 6, 7, 8, 9, 10], [0, 1, 2, 3, 4, 5, 6, 7, 8], [0, 1, 2, 3, 4, 5, 6, 7, 8], [0, 1, 2, 3, 4, 5, 6, 7, 8, 12, 13], [0, 1, 2, 3, 4, 5, 6, 7, 8, 12, 13, 14], [0, 1, 2, 3, 4, 5, 6, 7, 8, 9, 10, 11, 12, 13, 14, 15], [0, 1, 2, 3, 4, 5, 6, 7, 8, 9, 10, 11, 12, 13, 14, 15, 16]] 16 0 (spl [fun v R => v = .int .i64 t55.2.1 ∧ R = s0, fun v R => v = .bool true ∧ R = s0, fun v R => v = .bool true ∧ R = s0, fun v R => v = undef ∧ R = s0, fun v R => v = undef ∧ R = s0, fun v R => v = undef ∧ R = s0, fun v R => v = undef ∧ R = s0, fun v R => v = .bool true ∧ R = s0, fun v R => v = .bool true ∧ R = s0, fun v R => v = undef ∧ R = s0, fun v R => v = undef ∧ R = s0, fun v R => v = undef ∧ R = s0, fun v R => v = undef ∧ R = s0, fun v R => v = undef ∧ R = s0, fun v R => v = undef ∧ R = s0, fun v R => v = undef ∧ R = s0]) (onl [true, true, true, false, false, false, false, true, true, false, false, false, false, false, false, false]) (by kernel_rfl) (by kernel_rfl) (by kernel_rfl) (by kernel_rfl) (rs := [_, _]) rfl (by kernel_rfl) (by kernel_rfl) ?_ ?_
        · refine all_snoc (all_snoc (all_snoc (all_snoc (all_snoc (all_snoc (all_snoc (all_snoc (all_snoc (all_snoc (all_snoc (all_snoc (all_snoc (all_snoc (all_snoc (all_snoc (all_nil) ?_) ?_) ?_) ?_) ?_) ?_) ?_) ?_) ?_) ?_) ?_) ?_) ?_) ?_) ?_) ?_
          · refine ⟨fun o ho vs Rs f' S' w hp hf hx hS hR hs => ?_⟩
            obtain rfl := Option.some.inj ho
            refine And.intro (want_none rfl) (And.intro (fun _ => ?_) (fun h => by cases h))
            have hF := fr_next (rfl) ((hx 4 (by kernel_rfl)).trans (by kernel_rfl : (_ : Value) = .int .i64 t55.2.1))
            refine ls_fr hF ?_
            refine ls_val (v := .int .i64 t55.2.1) rfl rfl (by kernel_rfl) (fun w => by kernel_rfl) ?_
            exact ls_fin s0 (.int .i64 t55.2.1) (congrArg (fun z => upd z 46 _) hF.symm) ⟨rfl, rfl⟩ (sub_nil _)
          · refine ⟨fun o ho vs Rs f' S' w hp hf hx hS hR hs => ?_⟩
            obtain rfl := Option.some.inj ho
            obtain ⟨hv0, hR0⟩ := hp 0 (by kernel_rfl)
            refine And.intro (want_none rfl) (And.intro (fun _ => ?_) (fun h => by cases h))
            have hF := fr_next (rfl) ((hf 0 46 (by kernel_rfl) rfl).trans hv0)
            refine ls_fr hF ?_
            refine ls_val (v := .bool (decide (t55.2.1 < (1 : Int)))) rfl rfl (by kernel_rfl) (fun w => by kernel_rfl) ?_
            refine ls_ren 47 (v := .bool (decide (t55.2.1 < (1 : Int)))) (v' := .bool true) (by kernel_rfl) (congrArg Value.bool (show (decide (t55.2.1 < (1 : Int))) = true from dec_t q59)) ?_
            exact ls_fin s0 (.bool true) ((upd_upd _ _ _ _).trans (congrArg (fun z => upd z 47 _) hF.symm)) ⟨rfl, rfl⟩ (sub_nil _)
          · refine ⟨fun o ho vs Rs f' S' w hp hf hx hS hR hs => ?_⟩
            obtain rfl := Option.some.inj ho
            obtain ⟨hv1, hR1⟩ := hp 1 (by kernel_rfl)
            refine And.intro (want_none rfl) (And.intro (fun _ => ?_) (fun h => by cases h))
            have hF := fr_next (rfl) ((hf 1 47 (by kernel_rfl) rfl).trans hv1)
            refine ls_fr hF ?_
            refine ls_val (v := .bool true) rfl rfl (by kernel_rfl) (fun w => by kernel_rfl) ?_
            exact ls_fin s0 (.bool true) (congrArg (fun z => upd z 48 _) hF.symm) ⟨rfl, rfl⟩ (sub_nil _)
          · refine ⟨fun o ho vs Rs f' S' w hp hf hx hS hR hs => ?_⟩
            obtain rfl := Option.some.inj ho
            obtain ⟨hv2, hR2⟩ := hp 2 (by kernel_rfl)
            refine And.intro ?_ (And.intro ?_ ?_)
            · exact want_is (j := 2) (t := 48) rfl rfl (by kernel_rfl) ((hf 2 48 (by kernel_rfl) rfl).trans hv2) rfl
            · intro h; cases h
            · intro _; exact ⟨rfl, rfl⟩
          · refine ⟨fun o ho vs Rs f' S' w hp hf hx hS hR hs => ?_⟩
            obtain rfl := Option.some.inj ho
            obtain ⟨hv2, hR2⟩ := hp 2 (by kernel_rfl)
            refine And.intro ?_ (And.intro ?_ ?_)
            · exact want_is (j := 2) (t := 48) rfl rfl (by kernel_rfl) ((hf 2 48 (by kernel_rfl) rfl).trans hv2) rfl
            · intro h; cases h
            · intro _; exact ⟨rfl, rfl⟩
          · refine ⟨fun o ho vs Rs f' S' w hp hf hx hS hR hs => ?_⟩
            obtain rfl := Option.some.inj ho
            obtain ⟨hv2, hR2⟩ := hp 2 (by kernel_rfl)
            obtain ⟨hv4, hR4⟩ := hp 4 (by kernel_rfl)
            refine And.intro ?_ (And.intro ?_ ?_)
            · exact want_is (j := 2) (t := 48) rfl rfl (by kernel_rfl) ((hf 2 48 (by kernel_rfl) rfl).trans hv2) rfl
            · intro h; cases h
            · intro _; exact ⟨rfl, rfl⟩
          · refine ⟨fun o ho vs Rs f' S' w hp hf hx hS hR hs => ?_⟩
            obtain rfl := Option.some.inj ho
            obtain ⟨hv2, hR2⟩ := hp 2 (by kernel_rfl)
            obtain ⟨hv3, hR3⟩ := hp 3 (by kernel_rfl)
            obtain ⟨hv5, hR5⟩ := hp 5 (by kernel_rfl)
            refine And.intro ?_ (And.intro ?_ ?_)
            · exact want_is (j := 2) (t := 48) rfl rfl (by kernel_rfl) ((hf 2 48 (by kernel_rfl) rfl).trans hv2) rfl
            · intro h; cases h
            · intro _; exact ⟨rfl, rfl⟩
          · refine ⟨fun o ho vs Rs f' S' w hp hf hx hS hR hs => ?_⟩
            obtain rfl := Option.some.inj ho
            obtain ⟨hv2, hR2⟩ := hp 2 (by kernel_rfl)
            obtain ⟨hv6, hR6⟩ := hp 6 (by kernel_rfl)
            refine And.intro (want_none rfl) (And.intro (fun _ => ?_) (fun h => by cases h))
            have hF := fr_next (fr_next (rfl) ((hf 2 48 (by kernel_rfl) rfl).trans hv2)) ((hf 6 52 (by kernel_rfl) rfl).trans hv6)
            refine ls_fr hF ?_
            refine ls_val (v := .bool true) rfl rfl (by kernel_rfl) (fun w => by kernel_rfl) ?_
            exact ls_fin s0 (.bool true) (congrArg (fun z => upd z 53 _) hF.symm) ⟨rfl, rfl⟩ (sub_nil _)
          · refine ⟨fun o ho vs Rs f' S' w hp hf hx hS hR hs => ?_⟩
            obtain rfl := Option.some.inj ho
            obtain ⟨hv7, hR7⟩ := hp 7 (by kernel_rfl)
            refine And.intro (want_none rfl) (And.intro (fun _ => ?_) (fun h => by cases h))
            have hF := fr_next (rfl) ((hf 7 53 (by kernel_rfl) rfl).trans hv7)
            refine ls_fr hF ?_
            refine ls_val (v := .bool true) rfl rfl (by kernel_rfl) (fun w => by kernel_rfl) ?_
            exact ls_fin s0 (.bool true) (congrArg (fun z => upd z 54 _) hF.symm) ⟨rfl, rfl⟩ (sub_nil _)
          · refine ⟨fun o ho vs Rs f' S' w hp hf hx hS hR hs => ?_⟩
            obtain rfl := Option.some.inj ho
            obtain ⟨hv8, hR8⟩ := hp 8 (by kernel_rfl)
            refine And.intro ?_ (And.intro ?_ ?_)
            · exact want_is (j := 8) (t := 54) rfl rfl (by kernel_rfl) ((hf 8 54 (by kernel_rfl) rfl).trans hv8) rfl
            · intro h; cases h
            · intro _; exact ⟨rfl, rfl⟩
          · refine ⟨fun o ho vs Rs f' S' w hp hf hx hS hR hs => ?_⟩
            obtain rfl := Option.some.inj ho
            obtain ⟨hv8, hR8⟩ := hp 8 (by kernel_rfl)
            obtain ⟨hv9, hR9⟩ := hp 9 (by kernel_rfl)
            refine And.intro ?_ (And.intro ?_ ?_)
            · exact want_is (j := 8) (t := 54) rfl rfl (by kernel_rfl) ((hf 8 54 (by kernel_rfl) rfl).trans hv8) rfl
            · intro h; cases h
            · intro _; exact ⟨rfl, rfl⟩
          · refine ⟨fun o ho vs Rs f' S' w hp hf hx hS hR hs => ?_⟩
            obtain rfl := Option.some.inj ho
            obtain ⟨hv8, hR8⟩ := hp 8 (by kernel_rfl)
            obtain ⟨hv10, hR10⟩ := hp 10 (by kernel_rfl)
            refine And.intro ?_ (And.intro ?_ ?_)
            · exact want_is (j := 8) (t := 54) rfl rfl (by kernel_rfl) ((hf 8 54 (by kernel_rfl) rfl).trans hv8) rfl
            · intro h; cases h
            · intro _; exact ⟨rfl, rfl⟩
          · refine ⟨fun o ho vs Rs f' S' w hp hf hx hS hR hs => ?_⟩
            obtain rfl := Option.some.inj ho
            obtain ⟨hv8, hR8⟩ := hp 8 (by kernel_rfl)
            refine And.intro ?_ (And.intro ?_ ?_)
            · exact want_is (j := 8) (t := 54) rfl rfl (by kernel_rfl) ((hf 8 54 (by kernel_rfl) rfl).trans hv8) rfl
            · intro h; cases h
            · intro _; exact ⟨rfl, rfl⟩
          · refine ⟨fun o ho vs Rs f' S' w hp hf hx hS hR hs => ?_⟩
            obtain rfl := Option.some.inj ho
            obtain ⟨hv8, hR8⟩ := hp 8 (by kernel_rfl)
            refine And.intro ?_ (And.intro ?_ ?_)
            · exact want_is (j := 8) (t := 54) rfl rfl (by kernel_rfl) ((hf 8 54 (by kernel_rfl) rfl).trans hv8) rfl
            · intro h; cases h
            · intro _; exact ⟨rfl, rfl⟩
          · refine ⟨fun o ho vs Rs f' S' w hp hf hx hS hR hs => ?_⟩
            obtain rfl := Option.some.inj ho
            obtain ⟨hv8, hR8⟩ := hp 8 (by kernel_rfl)
            obtain ⟨hv12, hR12⟩ := hp 12 (by kernel_rfl)
            obtain ⟨hv13, hR13⟩ := hp 13 (by kernel_rfl)
            refine And.intro ?_ (And.intro ?_ ?_)
            · exact want_is (j := 8) (t := 54) rfl rfl (by kernel_rfl) ((hf 8 54 (by kernel_rfl) rfl).trans hv8) rfl
            · intro h; cases h
            · intro _; exact ⟨rfl, rfl⟩
          · refine ⟨fun o ho vs Rs f' S' w hp hf hx hS hR hs => ?_⟩
            obtain rfl := Option.some.inj ho
            obtain ⟨hv8, hR8⟩ := hp 8 (by kernel_rfl)
            obtain ⟨hv14, hR14⟩ := hp 14 (by kernel_rfl)
            refine And.intro ?_ (And.intro ?_ ?_)
            · exact want_is (j := 8) (t := 54) rfl rfl (by kernel_rfl) ((hf 8 54 (by kernel_rfl) rfl).trans hv8) rfl
            · intro h; cases h
            · intro _; exact ⟨rfl, rfl⟩
        · intro vs Rs f' S' hp hf hx hS hR
          obtain ⟨hv8, hR8⟩ := hp 8 (by kernel_rfl)
          obtain ⟨hv11, hR11⟩ := hp 11 (by kernel_rfl)
          obtain ⟨hv15, hR15⟩ := hp 15 (by kernel_rfl)
          refine ls_fr (F := upd (upd (upd f' 0 (.slice A0 l0.length c0)) 4 (.int .i64 t55.2.1)) 54 (.bool true)) (fr_next (fr_next (fr_next (rfl) ((hx 0 (by kernel_rfl)).trans (by kernel_rfl : (_ : Value) = .slice A0 l0.length c0))) ((hx 4 (by kernel_rfl)).trans (by kernel_rfl : (_ : Value) = .int .i64 t55.2.1))) ((hf 8 54 (by kernel_rfl) rfl).trans hv8)) ?_
          refine ls_sub (s0) (sub_nil _) ?_
          refine ls_off (j := 8) (t := 54) (b := false) (c := true) rfl rfl (by kernel_rfl) (by kernel_rfl) rfl rfl (by kernel_rfl) ?_
          refine ls_val (v := .bool true) rfl rfl (by kernel_rfl) (fun w => by kernel_rfl) ?_
          refine ls_end ?_
          refine qn_then ?_
          refine cs_true (by kernel_rfl) ?_
          refine cs_seq ?_
          refine cs_region (l := [_]) ?_
          refine ls_val (v := .bool false) rfl rfl (by kernel_rfl) (fun w => by kernel_rfl) ?_
          refine ls_end ?_
          refine qn_then ?_
          refine cs_ret' ?_
          refine qr_then ?_
          obtain rfl := Option.some.inj H
          refine qr_end1 rfl (fun w' hs => ⟨(), rfl, ?_⟩)
          exact hs.sub (sub_nil _)
      · replace H := ite_f q59 H
        by_cases q60 : t55.2.1 > (l0.length : Int)
        · replace H := ite_t q60 H
          refine cs_draw (l := [_, _, _, _, _, _, _, _, _, _, _, _, _, _, _, _, _, _]) [[], [0], [0, 1], [0, 1, 2], [0, 1, 2], [0, 1, 2, 4], [0, 1, 2, 3, 4, 5], [0, 1, 2, 3, 4, 5, 6], [0, 1, 2, 3, 4, 5, 6, 7], [0, 1, 2, 3, 4, 5, 6, 7, 8], [0, 1, 2, 3, 4, 5, 6, 7, 8, 9], [0, 1, 2, 3, 4, 5, 6, 7, 8, 9, 10], [0, 1, 2, 3, 4, 5, 6, 7, 8], [0, 1, 2, 3, 4, 5, 6, 7, 8], [0, 1, 2, 3, 4, 5, 6, 7, 8, 12, 13], [0, 1, 2, 3, 4, 5, 6, 7, 8, 12, 13, 14], [0, 1, 2, 3, 4, 5, 6, 7, 8, 9, 10, 11, 12, 13, 14, 15], [0, 1, 2, 3, 4, 5, 6, 7, 8, 9, 10, 11, 12, 13, 14, 15, 16]] 16 0 (spl [fun v R => v = .int .i64 t55.2.1 ∧ R = s0, fun v R => v = .bool false ∧ R = s0, fun v R => v = .bool false ∧ R = s0, fun v R => v = .int .i64 t55.2.1 ∧ R = s0, fun v R => v = .slice A0 l0.length c0 ∧ R = s0, fun v R => v = .int .i64 (l0.length : Int) ∧ R = s0, fun v R => v = .bool true ∧ R = s0, fun v R => v = .bool true ∧ R = s0, fun v R => v = .bool true ∧ R = s0, fun v R => v = undef ∧ R = s0, fun v R => v = undef ∧ R = s0, fun v R => v = undef ∧ R = s0, fun v R => v = undef ∧ R = s0, fun v R => v = undef ∧ R = s0, fun v R => v = undef ∧ R = s0, fun v R => v = undef ∧ R = s0]) (onl [true, true, true, true, true, true, true, true, true, false, false, false, false, false, false, false]) (by kernel_rfl) (by kernel_rfl) (by kernel_rfl) (by kernel_rfl) (rs := [_, _]) rfl (by kernel_rfl) (by kernel_rfl) ?_ ?_
          · refine all_snoc (all_snoc (all_snoc (all_snoc (all_snoc (all_snoc (all_snoc (all_snoc (all_snoc (all_snoc (all_snoc (all_snoc (all_snoc (all_snoc (all_snoc (all_snoc (all_nil) ?_) ?_) ?_) ?_) ?_) ?_) ?_) ?_) ?_) ?_) ?_) ?_) ?_) ?_) ?_) ?_
            · refine ⟨fun o ho vs Rs f' S' w hp hf hx hS hR hs => ?_⟩
              obtain rfl := Option.some.inj ho
              refine And.intro (want_none rfl) (And.intro (fun _ => ?_) (fun h => by cases h))
              have hF := fr_next (rfl) ((hx 4 (by kernel_rfl)).trans (by kernel_rfl : (_ : Value) = .int .i64 t55.2.1))
              refine ls_fr hF ?_
              refine ls_val (v := .int .i64 t55.2.1) rfl rfl (by kernel_rfl) (fun w => by kernel_rfl) ?_
              exact ls_fin s0 (.int .i64 t55.2.1) (congrArg (fun z => upd z 46 _) hF.symm) ⟨rfl, rfl⟩ (sub_nil _)
            · refine ⟨fun o ho vs Rs f' S' w hp hf hx hS hR hs => ?_⟩
              obtain rfl := Option.some.inj ho
              obtain ⟨hv0, hR0⟩ := hp 0 (by kernel_rfl)
              refine And.intro (want_none rfl) (And.intro (fun _ => ?_) (fun h => by cases h))
              have hF := fr_next (rfl) ((hf 0 46 (by kernel_rfl) rfl).trans hv0)
              refine ls_fr hF ?_
              refine ls_val (v := .bool (decide (t55.2.1 < (1 : Int)))) rfl rfl (by kernel_rfl) (fun w => by kernel_rfl) ?_
              refine ls_ren 47 (v := .bool (decide (t55.2.1 < (1 : Int)))) (v' := .bool false) (by kernel_rfl) (congrArg Value.bool (show (decide (t55.2.1 < (1 : Int))) = false from dec_f q59)) ?_
              exact ls_fin s0 (.bool false) ((upd_upd _ _ _ _).trans (congrArg (fun z => upd z 47 _) hF.symm)) ⟨rfl, rfl⟩ (sub_nil _)
            · refine ⟨fun o ho vs Rs f' S' w hp hf hx hS hR hs => ?_⟩
              obtain rfl := Option.some.inj ho
              obtain ⟨hv1, hR1⟩ := hp 1 (by kernel_rfl)
              refine And.intro (want_none rfl) (And.intro (fun _ => ?_) (fun h => by cases h))
              have hF := fr_next (rfl) ((hf 1 47 (by kernel_rfl) rfl).trans hv1)
              refine ls_fr hF ?_
              refine ls_val (v := .bool false) rfl rfl (by kernel_rfl) (fun w => by kernel_rfl) ?_
              exact ls_fin s0 (.bool false) (congrArg (fun z => upd z 48 _) hF.symm) ⟨rfl, rfl⟩ (sub_nil _)
            · refine ⟨fun o ho vs Rs f' S' w hp hf hx hS hR hs => ?_⟩
              obtain rfl := Option.some.inj ho
              obtain ⟨hv2, hR2⟩ := hp 2 (by kernel_rfl)
              refine And.intro (want_is (j := 2) (t := 48) rfl rfl (by kernel_rfl) ((hf 2 48 (by kernel_rfl) rfl).trans hv2) rfl) (And.intro (fun _ => ?_) (fun h => by cases h))
              have hF := fr_next (fr_next (rfl) ((hx 4 (by kernel_rfl)).trans (by kernel_rfl : (_ : Value) = .int .i64 t55.2.1))) ((hf 2 48 (by kernel_rfl) rfl).trans hv2)
              refine ls_fr hF ?_
              refine ls_val (v := .int .i64 t55.2.1) rfl rfl (by kernel_rfl) (fun w => by kernel_rfl) ?_
              exact ls_fin s0 (.int .i64 t55.2.1) (congrArg (fun z => upd z 49 _) hF.symm) ⟨rfl, rfl⟩ (sub_nil _)
            · refine ⟨fun o ho vs Rs f' S' w hp hf hx hS hR hs => ?_⟩
              obtain rfl := Option.some.inj ho
              obtain ⟨hv2, hR2⟩ := hp 2 (by kernel_rfl)
              refine And.intro (want_is (j := 2) (t := 48) rfl rfl (by kernel_rfl) ((hf 2 48 (by kernel_rfl) rfl).trans hv2) rfl) (And.intro (fun _ => ?_) (fun h => by cases h))
              have hF := fr_next (fr_next (rfl) ((hx 0 (by kernel_rfl)).trans (by kernel_rfl : (_ : Value) = .slice A0 l0.length c0))) ((hf 2 48 (by kernel_rfl) rfl).trans hv2)
              refine ls_fr hF ?_
              refine ls_val (v := .slice A0 l0.length c0) rfl rfl (by kernel_rfl) (fun w => by kernel_rfl) ?_
              exact ls_fin s0 (.slice A0 l0.length c0) (congrArg (fun z => upd z 50 _) hF.symm) ⟨rfl, rfl⟩ (sub_nil _)
            · refine ⟨fun o ho vs Rs f' S' w hp hf hx hS hR hs => ?_⟩
              obtain rfl := Option.some.inj ho
              obtain ⟨hv2, hR2⟩ := hp 2 (by kernel_rfl)
              obtain ⟨hv4, hR4⟩ := hp 4 (by kernel_rfl)
              refine And.intro (want_is (j := 2) (t := 48) rfl rfl (by kernel_rfl) ((hf 2 48 (by kernel_rfl) rfl).trans hv2) rfl) (And.intro (fun _ => ?_) (fun h => by cases h))
              have hF := fr_next (fr_next (rfl) ((hf 2 48 (by kernel_rfl) rfl).trans hv2)) ((hf 4 50 (by kernel_rfl) rfl).trans hv4)
              refine ls_fr hF ?_
              refine ls_val (v := .int .i64 (l0.length : Int)) rfl rfl (by kernel_rfl) (fun w => by kernel_rfl) ?_
              exact ls_fin s0 (.int .i64 (l0.length : Int)) (congrArg (fun z => upd z 51 _) hF.symm) ⟨rfl, rfl⟩ (sub_nil _)
            · refine ⟨fun o ho vs Rs f' S' w hp hf hx hS hR hs => ?_⟩
              obtain rfl := Option.some.inj ho
              obtain ⟨hv2, hR2⟩ := hp 2 (by kernel_rfl)
              obtain ⟨hv3, hR3⟩ := hp 3 (by kernel_rfl)
              obtain ⟨hv5, hR5⟩ := hp 5 (by kernel_rfl)
              refine And.intro (want_is (j := 2) (t := 48) rfl rfl (by kernel_rfl) ((hf 2 48 (by kernel_rfl) rfl).trans hv2) rfl) (And.intro (fun _ => ?_) (fun h => by cases h))
              have hF := fr_next (fr_next (fr_next (rfl) ((hf 2 48 (by kernel_rfl) rfl).trans hv2)) ((hf 3 49 (by kernel_rfl) rfl).trans hv3)) ((hf 5 51 (by kernel_rfl) rfl).trans hv5)
              refine ls_fr hF ?_
              refine ls_val (v := .bool (decide (t55.2.1 > (l0.length : Int)))) rfl rfl (by kernel_rfl) (fun w => by kernel_rfl) ?_
              refine ls_ren 52 (v := .bool (decide (t55.2.1 > (l0.length : Int)))) (v' := .bool true) (by kernel_rfl) (congrArg Value.bool (show (decide (t55.2.1 > (l0.length : Int))) = true from dec_t q60)) ?_
              exact ls_fin s0 (.bool true) ((upd_upd _ _ _ _).trans (congrArg (fun z => upd z 52 _) hF.symm)) ⟨rfl, rfl⟩ (sub_nil _)
            · refine ⟨fun o ho vs Rs f' S' w hp hf hx hS hR hs => ?_⟩
              obtain rfl := Option.some.inj ho
              obtain ⟨hv2, hR2⟩ := hp 2 (by kernel_rfl)
              obtain ⟨hv6, hR6⟩ := hp 6 (by kernel_rfl)
              refine And.intro (want_none rfl) (And.intro (fun _ => ?_) (fun h => by cases h))
              have hF := fr_next (fr_next (rfl) ((hf 2 48 (by kernel_rfl) rfl).trans hv2)) ((hf 6 52 (by kernel_rfl) rfl).trans hv6)
              refine ls_fr hF ?_
              refine ls_val (v := .bool true) rfl rfl (by kernel_rfl) (fun w => by kernel_rfl) ?_
              exact ls_fin s0 (.bool true) (congrArg (fun z => upd z 53 _) hF.symm) ⟨rfl, rfl⟩ (sub_nil _)
            · refine ⟨fun o ho vs Rs f' S' w hp hf hx hS hR hs => ?_⟩
              obtain rfl := Option.some.inj ho
              obtain ⟨hv7, hR7⟩ := hp 7 (by kernel_rfl)
              refine And.intro (want_none rfl) (And.intro (fun _ => ?_) (fun h => by cases h))
              have hF := fr_next (rfl) ((hf 7 53 (by kernel_rfl) rfl).trans hv7)
              refine ls_fr hF ?_
              refine ls_val (v := .bool true) rfl rfl (by kernel_rfl) (fun w => by kernel_rfl) ?_
              exact ls_fin s0 (.bool true) (congrArg (fun z => upd z 54 _) hF.symm) ⟨rfl, rfl⟩ (sub_nil _)
            · refine ⟨fun o ho vs Rs f' S' w hp hf hx hS hR hs => ?_⟩
              obtain rfl := Option.some.inj ho
              obtain ⟨hv8, hR8⟩ := hp 8 (by kernel_rfl)
              refine And.intro ?_ (And.intro ?_ ?_)
              · exact want_is (j := 8) (t := 54) rfl rfl (by kernel_rfl) ((hf 8 54 (by kernel_rfl) rfl).trans hv8) rfl
              · intro h; cases h
              · intro _; exact ⟨rfl, rfl⟩
            · refine ⟨fun o ho vs Rs f' S' w hp hf hx hS hR hs => ?_⟩
              obtain rfl := Option.some.inj ho
              obtain ⟨hv8, hR8⟩ := hp 8 (by kernel_rfl)
              obtain ⟨hv9, hR9⟩ := hp 9 (by kernel_rfl)
              refine And.intro ?_ (And.intro ?_ ?_)
              · exact want_is (j := 8) (t := 54) rfl rfl (by kernel_rfl) ((hf 8 54 (by kernel_rfl) rfl).trans hv8) rfl
              · intro h; cases h
              · intro _; exact ⟨rfl, rfl⟩
            · refine ⟨fun o ho vs Rs f' S' w hp hf hx hS hR hs => ?_⟩
              obtain rfl := Option.some.inj ho
              obtain ⟨hv8, hR8⟩ := hp 8 (by kernel_rfl)
              obtain ⟨hv10, hR10⟩ := hp 10 (by kernel_rfl)
              refine And.intro ?_ (And.intro ?_ ?_)
              · exact want_is (j := 8) (t := 54) rfl rfl (by kernel_rfl) ((hf 8 54 (by kernel_rfl) rfl).trans hv8) rfl
              · intro h; cases h
              · intro _; exact ⟨rfl, rfl⟩
            · refine ⟨fun o ho vs Rs f' S' w hp hf hx hS hR hs => ?_⟩
              obtain rfl := Option.some.inj ho
              obtain ⟨hv8, hR8⟩ := hp 8 (by kernel_rfl)
              refine And.intro ?_ (And.intro ?_ ?_)
              · exact want_is (j := 8) (t := 54) rfl rfl (by kernel_rfl) ((hf 8 54 (by kernel_rfl) rfl).trans hv8) rfl
              · intro h; cases h
              · intro _; exact ⟨rfl, rfl⟩
            · refine ⟨fun o ho vs Rs f' S' w hp hf hx hS hR hs => ?_⟩
              obtain rfl := Option.some.inj ho
              obtain ⟨hv8, hR8⟩ := hp 8 (by kernel_rfl)
              refine And.intro ?_ (And.intro ?_ ?_)
              · exact want_is (j := 8) (t := 54) rfl rfl (by kernel_rfl) ((hf 8 54 (by kernel_rfl) rfl).trans hv8) rfl
              · intro h; cases h
              · intro _; exact ⟨rfl, rfl⟩
            · refine ⟨fun o ho vs Rs f' S' w hp hf hx hS hR hs => ?_⟩
              obtain rfl := Option.some.inj ho
              obtain ⟨hv8, hR8⟩ := hp 8 (by kernel_rfl)
              obtain ⟨hv12, hR12⟩ := hp 12 (by kernel_rfl)
              obtain ⟨hv13, hR13⟩ := hp 13 (by kernel_rfl)
              refine And.intro ?_ (And.intro ?_ ?_)
              · exact want_is (j := 8) (t := 54) rfl rfl (by kernel_rfl) ((hf 8 54 (by kernel_rfl) rfl).trans hv8) rfl
              · intro h; cases h
              · intro _; exact ⟨rfl, rfl⟩
            · refine ⟨fun o ho vs Rs f' S' w hp hf hx hS hR hs => ?_⟩
              obtain rfl := Option.some.inj ho
              obtain ⟨hv8, hR8⟩ := hp 8 (by kernel_rfl)
              obtain ⟨hv14, hR14⟩ := hp 14 (by kernel_rfl)
              refine And.intro ?_ (And.intro ?_ ?_)
              · exact want_is (j := 8) (t := 54) rfl rfl (by kernel_rfl) ((hf 8 54 (by kernel_rfl) rfl).trans hv8) rfl
              · intro h; cases h
              · intro _; exact ⟨rfl, rfl⟩
          · intro vs Rs f' S' hp hf hx hS hR
            obtain ⟨hv8, hR8⟩ := hp 8 (by kernel_rfl)
            obtain ⟨hv11, hR11⟩ := hp 11 (by kernel_rfl)
            obtain ⟨hv15, hR15⟩ := hp 15 (by kernel_rfl)
            refine ls_fr (F := upd (upd (upd f' 0 (.slice A0 l0.length c0)) 4 (.int .i64 t55.2.1)) 54 (.bool true)) (fr_next (fr_next (fr_next (rfl) ((hx 0 (by kernel_rfl)).trans (by kernel_rfl : (_ : Value) = .slice A0 l0.length c0))) ((hx 4 (by kernel_rfl)).trans (by kernel_rfl : (_ : Value) = .int .i64 t55.2.1))) ((hf 8 54 (by kernel_rfl) rfl).trans hv8)) ?_
            refine ls_sub (s0) (sub_nil _) ?_
            refine ls_off (j := 8) (t := 54) (b := false) (c := true) rfl rfl (by kernel_rfl) (by kernel_rfl) rfl rfl (by kernel_rfl) ?_
            refine ls_val (v := .bool true) rfl rfl (by kernel_rfl) (fun w => by kernel_rfl) ?_
            refine ls_end ?_
            refine qn_then ?_
            refine cs_true (by kernel_rfl) ?_
            refine cs_seq ?_
            refine cs_region (l := [_]) ?_
            refine ls_val (v := .bool false) rfl rfl (by kernel_rfl) (fun w => by kernel_rfl) ?_
            refine ls_end ?_
            refine qn_then ?_
            refine cs_ret' ?_
            refine qr_then ?_
            obtain rfl := Option.some.inj H
            refine qr_end1 rfl (fun w' hs => ⟨(), rfl, ?_⟩)
            exact hs.sub (sub_nil _)
        · replace H := ite_f q60 H
          obtain ⟨t61, hc62, H⟩ := bind_some H
          obtain ⟨q64, H⟩ := ite_need H
          obtain ⟨q65, H⟩ := ite_need H
          obtain ⟨xl70, hy71, H⟩ := lt_some H
          have hz73 : 0 ≤ (t55.2.1).toNat := by omega
          have hz74 : (t55.2.1).toNat ≤ l0.length := by omega
          obtain ⟨xA66, xc67, he72, xC69, xR68⟩ := cut_at (A := A0) (c := c0) (l := l0) (E := (Value.int .u8)) 0 ((t55.2.1).toNat) hz73 hz74 C0 R0 (m := xl70) (by rw [← hy71] <;> simp)
          refine cs_draw (l := [_, _, _, _, _, _, _, _, _, _, _, _, _, _, _, _, _, _]) [[], [0], [0, 1], [0, 1, 2], [0, 1, 2], [0, 1, 2, 4], [0, 1, 2, 3, 4, 5], [0, 1, 2, 3, 4, 5, 6], [0, 1, 2, 3, 4, 5, 6, 7], [0, 1, 2, 3, 4, 5, 6, 7, 8], [0, 1, 2, 3, 4, 5, 6, 7, 8, 9], [0, 1, 2, 3, 4, 5, 6, 7, 8, 9, 10], [0, 1, 2, 3, 4, 5, 6, 7, 8], [0, 1, 2, 3, 4, 5, 6, 7, 8], [0, 1, 2, 3, 4, 5, 6, 7, 8, 12, 13], [0, 1, 2, 3, 4, 5, 6, 7, 8, 12, 13, 14], [0, 1, 2, 3, 4, 5, 6, 7, 8, 9, 10, 11, 12, 13, 14, 15], [0, 1, 2, 3, 4, 5, 6, 7, 8, 9, 10, 11, 12, 13, 14, 15, 16]] 16 0 (spl [fun v R => v = .int .i64 t55.2.1 ∧ R = s0, fun v R => v = .bool false ∧ R = s0, fun v R => v = .bool false ∧ R = s0, fun v R => v = .int .i64 t55.2.1 ∧ R = s0, fun v R => v = .slice A0 l0.length c0 ∧ R = s0, fun v R => v = .int .i64 (l0.length : Int) ∧ R = s0, fun v R => v = .bool false ∧ R = s0, fun v R => v = .bool false ∧ R = s0, fun v R => v = .bool false ∧ R = s0, fun v R => v = .int .u64 t55.1 ∧ R = s0, fun v R => ∃ x63 : (Option Addr × Nat), v = .slice x63.1 t61.length x63.2 ∧ R = sput s0 0 (some (Ck.sl 5 (Value.int .u8) x63.1 x63.2 t61)), fun v R => v = .string (strOfNums t61) ∧ R = s0, fun v R => v = .slice A0 l0.length c0 ∧ R = s0, fun v R => v = .int .i64 t55.2.1 ∧ R = s0, fun v R => v = .slice xA66 xl70.length xc67 ∧ R = s0, fun v R => v = .string (strOfNums xl70) ∧ R = s0]) (onl [true, true, true, true, true, true, true, true, true, true, true, true, true, true, true, true]) (by kernel_rfl) (by kernel_rfl) (by kernel_rfl) (by kernel_rfl) (rs := [_, _]) rfl (by kernel_rfl) (by kernel_rfl) ?_ ?_
          · refine all_snoc (all_snoc (all_snoc (all_snoc (all_snoc (all_snoc (all_snoc (all_snoc (all_snoc (all_snoc (all_snoc (all_snoc (all_snoc (all_snoc (all_snoc (all_snoc (all_nil) ?_) ?_) ?_) ?_) ?_) ?_) ?_) ?_) ?_) ?_) ?_) ?_) ?_) ?_) ?_) ?_
            · refine ⟨fun o ho vs Rs f' S' w hp hf hx hS hR hs => ?_⟩
              obtain rfl := Option.some.inj ho
              refine And.intro (want_none rfl) (And.intro (fun _ => ?_) (fun h => by cases h))
              have hF := fr_next (rfl) ((hx 4 (by kernel_rfl)).trans (by kernel_rfl : (_ : Value) = .int .i64 t55.2.1))
              refine ls_fr hF ?_
              refine ls_val (v := .int .i64 t55.2.1) rfl rfl (by kernel_rfl) (fun w => by kernel_rfl) ?_
              exact ls_fin s0 (.int .i64 t55.2.1) (congrArg (fun z => upd z 46 _) hF.symm) ⟨rfl, rfl⟩ (sub_nil _)
            · refine ⟨fun o ho vs Rs f' S' w hp hf hx hS hR hs => ?_⟩
              obtain rfl := Option.some.inj ho
              obtain ⟨hv0, hR0⟩ := hp 0 (by kernel_rfl)
              refine And.intro (want_none rfl) (And.intro (fun _ => ?_) (fun h => by cases h))
              have hF := fr_next (rfl) ((hf 0 46 (by kernel_rfl) rfl).trans hv0)
              refine ls_fr hF ?_
              refine ls_val (v := .bool (decide (t55.2.1 < (1 : Int)))) rfl rfl (by kernel_rfl) (fun w => by kernel_rfl) ?_
              refine ls_ren 47 (v := .bool (decide (t55.2.1 < (1 : Int)))) (v' := .bool false) (by kernel_rfl) (congrArg Value.bool (show (decide (t55.2.1 < (1 : Int))) = false from dec_f q59)) ?_
              exact ls_fin s0 (.bool false) ((upd_upd _ _ _ _).trans (congrArg (fun z => upd z 47 _) hF.symm)) ⟨rfl, rfl⟩ (sub_nil _)
            · refine ⟨fun o ho vs Rs f' S' w hp hf hx hS hR hs => ?_⟩
              obtain rfl := Option.some.inj ho
              obtain ⟨hv1, hR1⟩ := hp 1 (by kernel_rfl)
              refine And.intro (want_none rfl) (And.intro (fun _ => ?_) (fun h => by cases h))
              have hF := fr_next (rfl) ((hf 1 47 (by kernel_rfl) rfl).trans hv1)
              refine ls_fr hF ?_
              refine ls_val (v := .bool false) rfl rfl (by kernel_rfl) (fun w => by kernel_rfl) ?_
              exact ls_fin s0 (.bool false) (congrArg (fun z => upd z 48 _) hF.symm) ⟨rfl, rfl⟩ (sub_nil _)
            · refine ⟨fun o ho vs Rs f' S' w hp hf hx hS hR hs => ?_⟩
              obtain rfl := Option.some.inj ho
              obtain ⟨hv2, hR2⟩ := hp 2 (by kernel_rfl)
              refine And.intro (want_is (j := 2) (t := 48) rfl rfl (by kernel_rfl) ((hf 2 48 (by kernel_rfl) rfl).trans hv2) rfl) (And.intro (fun _ => ?_) (fun h => by cases h))
              have hF := fr_next (fr_next (rfl) ((hx 4 (by kernel_rfl)).trans (by kernel_rfl : (_ : Value) = .int .i64 t55.2.1))) ((hf 2 48 (by kernel_rfl) rfl).trans hv2)
              refine ls_fr hF ?_
              refine ls_val (v := .int .i64 t55.2.1) rfl rfl (by kernel_rfl) (fun w => by kernel_rfl) ?_
              exact ls_fin s0 (.int .i64 t55.2.1) (congrArg (fun z => upd z 49 _) hF.symm) ⟨rfl, rfl⟩ (sub_nil _)
            · refine ⟨fun o ho vs Rs f' S' w hp hf hx hS hR hs => ?_⟩
              obtain rfl := Option.some.inj ho
              obtain ⟨hv2, hR2⟩ := hp 2 (by kernel_rfl)
              refine And.intro (want_is (j := 2) (t := 48) rfl rfl (by kernel_rfl) ((hf 2 48 (by kernel_rfl) rfl).trans hv2) rfl) (And.intro (fun _ => ?_) (fun h => by cases h))
              have hF := fr_next (fr_next (rfl) ((hx 0 (by kernel_rfl)).trans (by kernel_rfl : (_ : Value) = .slice A0 l0.length c0))) ((hf 2 48 (by kernel_rfl) rfl).trans hv2)
              refine ls_fr hF ?_
              refine ls_val (v := .slice A0 l0.length c0) rfl rfl (by kernel_rfl) (fun w => by kernel_rfl) ?_
              exact ls_fin s0 (.slice A0 l0.length c0) (congrArg (fun z => upd z 50 _) hF.symm) ⟨rfl, rfl⟩ (sub_nil _)
            · refine ⟨fun o ho vs Rs f' S' w hp hf hx hS hR hs => ?_⟩
              obtain rfl := Option.some.inj ho
              obtain ⟨hv2, hR2⟩ := hp 2 (by kernel_rfl)
              obtain ⟨hv4, hR4⟩ := hp 4 (by kernel_rfl)
              refine And.intro (want_is (j := 2) (t := 48) rfl rfl (by kernel_rfl) ((hf 2 48 (by kernel_rfl) rfl).trans hv2) rfl) (And.intro (fun _ => ?_) (fun h => by cases h))
              have hF := fr_next (fr_next (rfl) ((hf 2 48 (by kernel_rfl) rfl).trans hv2)) ((hf 4 50 (by kernel_rfl) rfl).trans hv4)
              refine ls_fr hF ?_
              refine ls_val (v := .int .i64 (l0.length : Int)) rfl rfl (by kernel_rfl) (fun w => by kernel_rfl) ?_
              exact ls_fin s0 (.int .i64 (l0.length : Int)) (congrArg (fun z => upd z 51 _) hF.symm) ⟨rfl, rfl⟩ (sub_nil _)
            · refine ⟨fun o ho vs Rs f' S' w hp hf hx hS hR hs => ?_⟩
              obtain rfl := Option.some.inj ho
              obtain ⟨hv2, hR2⟩ := hp 2 (by kernel_rfl)
              obtain ⟨hv3, hR3⟩ := hp 3 (by kernel_rfl)
              obtain ⟨hv5, hR5⟩ := hp 5 (by kernel_rfl)
              refine And.intro (want_is (j := 2) (t := 48) rfl rfl (by kernel_rfl) ((hf 2 48 (by kernel_rfl) rfl).trans hv2) rfl) (And.intro (fun _ => ?_) (fun h => by cases h))
              have hF := fr_next (fr_next (fr_next (rfl) ((hf 2 48 (by kernel_rfl) rfl).trans hv2)) ((hf 3 49 (by kernel_rfl) rfl).trans hv3)) ((hf 5 51 (by kernel_rfl) rfl).trans hv5)
              refine ls_fr hF ?_
              refine ls_val (v := .bool (decide (t55.2.1 > (l0.length : Int)))) rfl rfl (by kernel_rfl) (fun w => by kernel_rfl) ?_
              refine ls_ren 52 (v := .bool (decide (t55.2.1 > (l0.length : Int)))) (v' := .bool false) (by kernel_rfl) (congrArg Value.bool (show (decide (t55.2.1 > (l0.length : Int))) = false from dec_f q60)) ?_
              exact ls_fin s0 (.bool false) ((upd_upd _ _ _ _).trans (congrArg (fun z => upd z 52 _) hF.symm)) ⟨rfl, rfl⟩ (sub_nil _)
            · refine ⟨fun o ho vs Rs f' S' w hp hf hx hS hR hs => ?_⟩
              obtain rfl := Option.some.inj ho
              obtain ⟨hv2, hR2⟩ := hp 2 (by kernel_rfl)
              obtain ⟨hv6, hR6⟩ := hp 6 (by kernel_rfl)
              refine And.intro (want_none rfl) (And.intro (fun _ => ?_) (fun h => by cases h))
              have hF := fr_next (fr_next (rfl) ((hf 2 48 (by kernel_rfl) rfl).trans hv2)) ((hf 6 52 (by kernel_rfl) rfl).trans hv6)
              refine ls_fr hF ?_
              refine ls_val (v := .bool false) rfl rfl (by kernel_rfl) (fun w => by kernel_rfl) ?_
              exact ls_fin s0 (.bool false) (congrArg (fun z => upd z 53 _) hF.symm) ⟨rfl, rfl⟩ (sub_nil _)
            · refine ⟨fun o ho vs Rs f' S' w hp hf hx hS hR hs => ?_⟩
              obtain rfl := Option.some.inj ho
              obtain ⟨hv7, hR7⟩ := hp 7 (by kernel_rfl)
              refine And.intro (want_none rfl) (And.intro (fun _ => ?_) (fun h => by cases h))
              have hF := fr_next (rfl) ((hf 7 53 (by kernel_rfl) rfl).trans hv7)
              refine ls_fr hF ?_
              refine ls_val (v := .bool false) rfl rfl (by kernel_rfl) (fun w => by kernel_rfl) ?_
              exact ls_fin s0 (.bool false) (congrArg (fun z => upd z 54 _) hF.symm) ⟨rfl, rfl⟩ (sub_nil _)
            · refine ⟨fun o ho vs Rs f' S' w hp hf hx hS hR hs => ?_⟩
              obtain rfl := Option.some.inj ho
              obtain ⟨hv8, hR8⟩ := hp 8 (by kernel_rfl)
              refine And.intro (want_is (j := 8) (t := 54) rfl rfl (by kernel_rfl) ((hf 8 54 (by kernel_rfl) rfl).trans hv8) rfl) (And.intro (fun _ => ?_) (fun h => by cases h))
              have hF := fr_next (fr_next (rfl) ((hx 3 (by kernel_rfl)).trans (by kernel_rfl : (_ : Value) = .int .u64 t55.1))) ((hf 8 54 (by kernel_rfl) rfl).trans hv8)
              refine ls_fr hF ?_
              refine ls_val (v := .int .u64 t55.1) rfl rfl (by kernel_rfl) (fun w => by kernel_rfl) ?_
              exact ls_fin s0 (.int .u64 t55.1) (congrArg (fun z => upd z 55 _) hF.symm) ⟨rfl, rfl⟩ (sub_nil _)
            · refine ⟨fun o ho vs Rs f' S' w hp hf hx hS hR hs => ?_⟩
              obtain rfl := Option.some.inj ho
              obtain ⟨hv8, hR8⟩ := hp 8 (by kernel_rfl)
              obtain ⟨hv9, hR9⟩ := hp 9 (by kernel_rfl)
              refine And.intro (want_is (j := 8) (t := 54) rfl rfl (by kernel_rfl) ((hf 8 54 (by kernel_rfl) rfl).trans hv8) rfl) (And.intro (fun _ => ?_) (fun h => by cases h))
              have hF := fr_next (fr_next (rfl) ((hf 8 54 (by kernel_rfl) rfl).trans hv8)) ((hf 9 55 (by kernel_rfl) rfl).trans hv9)
              refine ls_fr hF ?_
              refine ls_call (fid := 17) (vals := #[.slice none ([] : List Int).length 0, .int .u64 t55.1]) (X := (Option Addr × Nat)) (fun x => .slice x.1 t61.length x.2) (fun x => sput s0 0 (some (Ck.sl 5 (Value.int .u8) x.1 x.2 t61))) 0 rfl rfl (by kernel_rfl) (fun w => by kernel_rfl) (fun w1 hs1 => codec_Short.calls k none 0 ([] : List Int) t55.1 t61 w1 (Rd.nil _ _) (Nat.le_refl 0) hc62) ?_
              intro x63
              exact ls_fin (sput s0 0 (some (Ck.sl 5 (Value.int .u8) x63.1 x63.2 t61))) (.slice x63.1 t61.length x63.2) (congrArg (fun z => upd z 56 _) hF.symm) ⟨x63, rfl, rfl⟩ (sub_put (by exact rfl) (sub_nil _))
            · refine ⟨fun o ho vs Rs f' S' w hp hf hx hS hR hs => ?_⟩
              obtain rfl := Option.some.inj ho
              obtain ⟨hv8, hR8⟩ := hp 8 (by kernel_rfl)
              obtain ⟨x63, hv10, hR10⟩ := hp 10 (by kernel_rfl)
              have hT10_0 := (hR 10 0 (by kernel_rfl) (by decide)).trans (congrFun hR10 0)
              refine And.intro (want_is (j := 8) (t := 54) rfl rfl (by kernel_rfl) ((hf 8 54 (by kernel_rfl) rfl).trans hv8) rfl) (And.intro (fun _ => ?_) (fun h => by cases h))
              have hF := fr_next (fr_next (rfl) ((hf 8 54 (by kernel_rfl) rfl).trans hv8)) ((hf 10 56 (by kernel_rfl) rfl).trans hv10)
              refine ls_fr hF ?_
              refine ls_str (A := x63.1) (c := x63.2) (e := 5) (l := t61) rfl rfl (by kernel_rfl) rfl (by kernel_rfl) (by kernel_rfl) (by kernel_rfl) (by kernel_rfl) (fun w1 hs1 => (hs1.old (hs.rd (k := 80) hT10_0))) ?_
              exact ls_fin s0 (.string (strOfNums t61)) (congrArg (fun z => upd z 57 _) hF.symm) ⟨rfl, rfl⟩ (sub_nil _)
            · refine ⟨fun o ho vs Rs f' S' w hp hf hx hS hR hs => ?_⟩
              obtain rfl := Option.some.inj ho
              obtain ⟨hv8, hR8⟩ := hp 8 (by kernel_rfl)
              refine And.intro (want_is (j := 8) (t := 54) rfl rfl (by kernel_rfl) ((hf 8 54 (by kernel_rfl) rfl).trans hv8) rfl) (And.intro (fun _ => ?_) (fun h => by cases h))
              have hF := fr_next (fr_next (rfl) ((hx 0 (by kernel_rfl)).trans (by kernel_rfl : (_ : Value) = .slice A0 l0.length c0))) ((hf 8 54 (by kernel_rfl) rfl).trans hv8)
              refine ls_fr hF ?_
              refine ls_val (v := .slice A0 l0.length c0) rfl rfl (by kernel_rfl) (fun w => by kernel_rfl) ?_
              exact ls_fin s0 (.slice A0 l0.length c0) (congrArg (fun z => upd z 58 _) hF.symm) ⟨rfl, rfl⟩ (sub_nil _)
            · refine ⟨fun o ho vs Rs f' S' w hp hf hx hS hR hs => ?_⟩
              obtain rfl := Option.some.inj ho
              obtain ⟨hv8, hR8⟩ := hp 8 (by kernel_rfl)
              refine And.intro (want_is (j := 8) (t := 54) rfl rfl (by kernel_rfl) ((hf 8 54 (by kernel_rfl) rfl).trans hv8) rfl) (And.intro (fun _ => ?_) (fun h => by cases h))
              have hF := fr_next (fr_next (rfl) ((hx 4 (by kernel_rfl)).trans (by kernel_rfl : (_ : Value) = .int .i64 t55.2.1))) ((hf 8 54 (by kernel_rfl) rfl).trans hv8)
              refine ls_fr hF ?_
              refine ls_val (v := .int .i64 t55.2.1) rfl rfl (by kernel_rfl) (fun w => by kernel_rfl) ?_
              exact ls_fin s0 (.int .i64 t55.2.1) (congrArg (fun z => upd z 59 _) hF.symm) ⟨rfl, rfl⟩ (sub_nil _)
            · refine ⟨fun o ho vs Rs f' S' w hp hf hx hS hR hs => ?_⟩
              obtain rfl := Option.some.inj ho
              obtain ⟨hv8, hR8⟩ := hp 8 (by kernel_rfl)
              obtain ⟨hv12, hR12⟩ := hp 12 (by kernel_rfl)
              obtain ⟨hv13, hR13⟩ := hp 13 (by kernel_rfl)
              refine And.intro (want_is (j := 8) (t := 54) rfl rfl (by kernel_rfl) ((hf 8 54 (by kernel_rfl) rfl).trans hv8) rfl) (And.intro (fun _ => ?_) (fun h => by cases h))
              have hF := fr_next (fr_next (fr_next (rfl) ((hf 8 54 (by kernel_rfl) rfl).trans hv8)) ((hf 12 58 (by kernel_rfl) rfl).trans hv12)) ((hf 13 59 (by kernel_rfl) rfl).trans hv13)
              refine ls_fr hF ?_
              refine ls_cutv (A := A0) (c := c0) (l := l0) (e := 5) (a := 0) (b := (t55.2.1).toNat) rfl rfl (by kernel_rfl) rfl (by kernel_rfl) (by kernel_rfl) (by kernel_rfl) (.inl ⟨rfl, rfl⟩) (.inr ⟨.i64, by rw [Int.toNat_of_nonneg (by first | assumption | omega)]; kernel_rfl⟩) hz73 hz74 C0 he72 ?_
              exact ls_fin s0 (.slice xA66 xl70.length xc67) (congrArg (fun z => upd z 60 _) hF.symm) ⟨rfl, rfl⟩ (sub_nil _)
            · refine ⟨fun o ho vs Rs f' S' w hp hf hx hS hR hs => ?_⟩
              obtain rfl := Option.some.inj ho
              obtain ⟨hv8, hR8⟩ := hp 8 (by kernel_rfl)
              obtain ⟨hv14, hR14⟩ := hp 14 (by kernel_rfl)
              refine And.intro (want_is (j := 8) (t := 54) rfl rfl (by kernel_rfl) ((hf 8 54 (by kernel_rfl) rfl).trans hv8) rfl) (And.intro (fun _ => ?_) (fun h => by cases h))
              have hF := fr_next (fr_next (rfl) ((hf 8 54 (by kernel_rfl) rfl).trans hv8)) ((hf 14 60 (by kernel_rfl) rfl).trans hv14)
              refine ls_fr hF ?_
              refine ls_str (A := xA66) (c := xc67) (e := 5) (l := xl70) rfl rfl (by kernel_rfl) rfl (by kernel_rfl) (by kernel_rfl) (by kernel_rfl) (by kernel_rfl) (fun w1 hs1 => (hs1.old (hs.old xR68))) ?_
              exact ls_fin s0 (.string (strOfNums xl70)) (congrArg (fun z => upd z 61 _) hF.symm) ⟨rfl, rfl⟩ (sub_nil _)
          · intro vs Rs f' S' hp hf hx hS hR
            obtain ⟨hv8, hR8⟩ := hp 8 (by kernel_rfl)
            obtain ⟨x63, hv10, hR10⟩ := hp 10 (by kernel_rfl)
            have hT10_0 := (hR 10 0 (by kernel_rfl) (by decide)).trans (congrFun hR10 0)
            obtain ⟨hv11, hR11⟩ := hp 11 (by kernel_rfl)
            obtain ⟨hv15, hR15⟩ := hp 15 (by kernel_rfl)
            refine ls_fr (F := upd (upd (upd (upd (upd f' 0 (.slice A0 l0.length c0)) 4 (.int .i64 t55.2.1)) 54 (.bool false)) 57 (.string (strOfNums t61))) 61 (.string (strOfNums xl70))) (fr_next (fr_next (fr_next (fr_next (fr_next (rfl) ((hx 0 (by kernel_rfl)).trans (by kernel_rfl : (_ : Value) = .slice A0 l0.length c0))) ((hx 4 (by kernel_rfl)).trans (by kernel_rfl : (_ : Value) = .int .i64 t55.2.1))) ((hf 8 54 (by kernel_rfl) rfl).trans hv8)) ((hf 11 57 (by kernel_rfl) rfl).trans hv11)) ((hf 15 61 (by kernel_rfl) rfl).trans hv15)) ?_
            refine ls_sub (s0) (sub_nil _) ?_
            refine ls_on (j := 8) (t := 54) (b := false) rfl rfl (by kernel_rfl) (by kernel_rfl) ?_
            refine ls_val (v := .bool (!((strOfNums t61).toList == (strOfNums xl70).toList))) rfl rfl (by kernel_rfl) (fun w => by kernel_rfl) ?_
            refine ls_val (v := .bool (!((strOfNums t61).toList == (strOfNums xl70).toList))) rfl rfl (by kernel_rfl) (fun w => by kernel_rfl) ?_
            refine ls_end ?_
            refine qn_then ?_
            by_cases q75 : ((strOfNums t61).toList == (strOfNums xl70).toList) = true
            · replace H := ite_t q75 H
              refine cs_know (c := false) (congrArg Bool.not (q75)) 63 (by kernel_rfl) ?_
              refine cs_false (by kernel_rfl) ?_
              refine cs_skip' ?_
              refine qn_then ?_
              refine cs_seq ?_
              refine cs_region (l := [_, _, _, _, _, _, _, _, _, _]) ?_
              refine ls_val (v := .slice A0 l0.length c0) rfl rfl (by kernel_rfl) (fun w => by kernel_rfl) ?_
              refine ls_val (v := .int .i64 t55.2.1) rfl rfl (by kernel_rfl) (fun w => by kernel_rfl) ?_
              refine ls_val (v := .int .i64 (IntKind.wrap .i64 (t55.2.1 - (1 : Int)))) rfl rfl (by kernel_rfl) (fun w => by kernel_rfl) ?_
              obtain ⟨q76, H⟩ := ite_need H
              obtain ⟨q77, H⟩ := ite_need H
              obtain ⟨xl82, hy83, H⟩ := lt_some H
              have hz85 : 0 ≤ (IntKind.wrap .i64 (t55.2.1 - (1 : Int))).toNat := by omega
              have hz86 : (IntKind.wrap .i64 (t55.2.1 - (1 : Int))).toNat ≤ l0.length := by omega
              obtain ⟨xA78, xc79, he84, xC81, xR80⟩ := cut_at (A := A0) (c := c0) (l := l0) (E := (Value.int .u8)) 0 ((IntKind.wrap .i64 (t55.2.1 - (1 : Int))).toNat) hz85 hz86 C0 R0 (m := xl82) (by rw [← hy83] <;> simp)
              refine ls_cutv (A := A0) (c := c0) (l := l0) (e := 5) (a := 0) (b := (IntKind.wrap .i64 (t55.2.1 - (1 : Int))).toNat) rfl rfl (by kernel_rfl) rfl (by kernel_rfl) (by kernel_rfl) (by kernel_rfl) (.inl ⟨rfl, rfl⟩) (.inr ⟨.i64, by rw [Int.toNat_of_nonneg (by first | assumption | omega)]; kernel_rfl⟩) hz85 hz86 C0 he84 ?_
              obtain ⟨t87, hc88, H⟩ := bind_some H
              refine ls_call (fid := 15) (vals := #[.slice xA78 xl82.length xc79]) (X := Unit) (fun x => .tuple #[.int .u64 t87.1, .int .i64 t87.2.1, .int .i64 t87.2.2]) (fun x => s0) 128 rfl rfl (by kernel_rfl) (fun w => by kernel_rfl) (fun w hs => codec_ReadShort.calls k xA78 xc79 xl82 t87 w (hs.old xR80) xC81 hc88) ?_
              intro x89
              refine ls_val (v := .tuple #[.int .u64 t87.1, .int .i64 t87.2.1, .int .i64 t87.2.2]) rfl rfl (by kernel_rfl) (fun w => by kernel_rfl) ?_
              refine ls_val (v := .int .u64 t87.1) rfl rfl (by kernel_rfl) (fun w => by kernel_rfl) ?_
              refine ls_val (v := .int .i64 t87.2.1) rfl rfl (by kernel_rfl) (fun w => by kernel_rfl) ?_
              refine ls_val (v := .int .i64 t87.2.2) rfl rfl (by kernel_rfl) (fun w => by kernel_rfl) ?_
              refine ls_val (v := .int .i64 t87.2.2) rfl rfl (by kernel_rfl) (fun w => by kernel_rfl) ?_
              refine ls_end ?_
              refine qn_then ?_
              refine cs_seq ?_
              refine cs_region (l := [_, _, _]) ?_
              refine ls_val (v := .int .i64 t87.2.2) rfl rfl (by kernel_rfl) (fun w => by kernel_rfl) ?_
              refine ls_val (v := .bool (decide (t87.2.2 = (10 : Int)))) rfl rfl (by kernel_rfl) (fun w => by kernel_rfl) ?_
              refine ls_val (v := .bool (decide (t87.2.2 = (10 : Int)))) rfl rfl (by kernel_rfl) (fun w => by kernel_rfl) ?_
              refine ls_end ?_
              refine qn_then ?_
              refine cs_ret' ?_
              obtain rfl := Option.some.inj H
              refine qr_end1 rfl (fun w' hs => ⟨(), rfl, ?_⟩)
              exact hs.sub (sub_nil _)
            · replace H := ite_f q75 H
              refine cs_know (c := true) (congrArg Bool.not (Bool.eq_false_iff.mpr q75)) 63 (by kernel_rfl) ?_
              refine cs_true (by kernel_rfl) ?_
              refine cs_seq ?_
              refine cs_region (l := [_]) ?_
              refine ls_val (v := .bool false) rfl rfl (by kernel_rfl) (fun w => by kernel_rfl) ?_
              refine ls_end ?_
              refine qn_then ?_
              refine cs_ret' ?_
              refine qr_then ?_
              obtain rfl := Option.some.inj H
              refine qr_end1 rfl (fun w' hs => ⟨(), rfl, ?_⟩)
              exact hs.sub (sub_nil _)
    · replace H := ite_f q58 H
      refine cs_know (c := true) (congrArg Bool.not (dec_f q58)) 21 (by kernel_rfl) ?_
      refine cs_true (by kernel_rfl) ?_
      refine cs_seq ?_
      refine cs_region (l := [_, _, _, _, _, _, _, _, _]) ?_
      refine ls_lit (E := (Value.int .u8)) (e := 5) 0 rfl rfl (by kernel_rfl) ([(5 : Int)]) (by exact of_decide_eq_true (by kernel_rfl)) (fun w => by kernel_rfl) ?_
      intro g90
      obtain ⟨t91, hc92, H⟩ := bind_some H
      refine ls_call (fid := 15) (vals := #[.slice (some ⟨g90, 0, none⟩) ([(5 : Int)]).length [(5 : Int)].length]) (X := Unit) (fun x => .tuple #[.int .u64 t91.1, .int .i64 t91.2.1, .int .i64 t91.2.2]) (fun x => s0) 1 rfl rfl (by kernel_rfl) (fun w => by kernel_rfl) (fun w hs => codec_ReadShort.calls k (some ⟨g90, 0, none⟩) [(5 : Int)].length ([(5 : Int)]) t91 w (hs.rd (k := 0) (by exact rfl)) (hs.cap (k := 0) (by exact rfl)) hc92) ?_
      intro x93
      refine ls_val (v := .tuple #[.int .u64 t91.1, .int .i64 t91.2.1, .int .i64 t91.2.2]) rfl rfl (by kernel_rfl) (fun w => by kernel_rfl) ?_
      refine ls_val (v := .int .u64 t91.1) rfl rfl (by kernel_rfl) (fun w => by kernel_rfl) ?_
      refine ls_val (v := .int .i64 t91.2.1) rfl rfl (by kernel_rfl) (fun w => by kernel_rfl) ?_
      refine ls_val (v := .int .i64 t91.2.2) rfl rfl (by kernel_rfl) (fun w => by kernel_rfl) ?_
      refine ls_val (v := .int .u64 t91.1) rfl rfl (by kernel_rfl) (fun w => by kernel_rfl) ?_
      refine ls_val (v := .int .i64 t91.2.1) rfl rfl (by kernel_rfl) (fun w => by kernel_rfl) ?_
      refine ls_val (v := .int .i64 t91.2.2) rfl rfl (by kernel_rfl) (fun w => by kernel_rfl) ?_
      refine ls_end ?_
      refine qn_then ?_
      refine cs_seq ?_
      refine cs_region (l := [_, _, _, _, _, _, _, _, _, _, _, _, _, _, _, _, _, _, _]) ?_
      refine ls_val (v := .int .u64 t55.1) rfl rfl (by kernel_rfl) (fun w => by kernel_rfl) ?_
      refine ls_val (v := .bool (decide (t55.1 = (0 : Int)))) rfl rfl (by kernel_rfl) (fun w => by kernel_rfl) ?_
      refine ls_val (v := .bool (decide (t55.1 = (0 : Int)))) rfl rfl (by kernel_rfl) (fun w => by kernel_rfl) ?_
      by_cases q94 : t55.1 = (0 : Int)
      · replace H := ite_t q94 H
        refine ls_know (c := true) (dec_t q94) 30 (by kernel_rfl) ?_
        refine ls_on (j := 2) (t := 30) (b := true) rfl rfl (by kernel_rfl) (by kernel_rfl) ?_
        refine ls_val (v := .int .i64 t55.2.1) rfl rfl (by kernel_rfl) (fun w => by kernel_rfl) ?_
        refine ls_on (j := 2) (t := 30) (b := true) rfl rfl (by kernel_rfl) (by kernel_rfl) ?_
        refine ls_val (v := .bool (decide (t55.2.1 = (0 : Int)))) rfl rfl (by kernel_rfl) (fun w => by kernel_rfl) ?_
        refine ls_val (v := .bool (decide (t55.2.1 = (0 : Int)))) rfl rfl (by kernel_rfl) (fun w => by kernel_rfl) ?_
        refine ls_val (v := .bool (decide (t55.2.1 = (0 : Int)))) rfl rfl (by kernel_rfl) (fun w => by kernel_rfl) ?_
        by_cases q95 : t55.2.1 = (0 : Int)
        · replace H := ite_t q95 H
          refine ls_know (c := true) (dec_t q95) 34 (by kernel_rfl) ?_
          refine ls_on (j := 6) (t := 34) (b := true) rfl rfl (by kernel_rfl) (by kernel_rfl) ?_
          refine ls_val (v := .int .u64 t91.1) rfl rfl (by kernel_rfl) (fun w => by kernel_rfl) ?_
          refine ls_on (j := 6) (t := 34) (b := true) rfl rfl (by kernel_rfl) (by kernel_rfl) ?_
          refine ls_val (v := .bool (decide (t91.1 = (5 : Int)))) rfl rfl (by kernel_rfl) (fun w => by kernel_rfl) ?_
          refine ls_val (v := .bool (decide (t91.1 = (5 : Int)))) rfl rfl (by kernel_rfl) (fun w => by kernel_rfl) ?_
          refine ls_val (v := .bool (decide (t91.1 = (5 : Int)))) rfl rfl (by kernel_rfl) (fun w => by kernel_rfl) ?_
          by_cases q96 : t91.1 = (5 : Int)
          · replace H := ite_t q96 H
            refine ls_know (c := true) (dec_t q96) 38 (by kernel_rfl) ?_
            refine ls_on (j := 10) (t := 38) (b := true) rfl rfl (by kernel_rfl) (by kernel_rfl) ?_
            refine ls_val (v := .int .i64 t91.2.1) rfl rfl (by kernel_rfl) (fun w => by kernel_rfl) ?_
            refine ls_on (j := 10) (t := 38) (b := true) rfl rfl (by kernel_rfl) (by kernel_rfl) ?_
            refine ls_val (v := .bool (decide (t91.2.1 = (1 : Int)))) rfl rfl (by kernel_rfl) (fun w => by kernel_rfl) ?_
            refine ls_val (v := .bool (decide (t91.2.1 = (1 : Int)))) rfl rfl (by kernel_rfl) (fun w => by kernel_rfl) ?_
            refine ls_val (v := .bool (decide (t91.2.1 = (1 : Int)))) rfl rfl (by kernel_rfl) (fun w => by kernel_rfl) ?_
            by_cases q97 : t91.2.1 = (1 : Int)
            · replace H := ite_t q97 H
              refine ls_know (c := true) (dec_t q97) 42 (by kernel_rfl) ?_
              refine ls_on (j := 14) (t := 42) (b := true) rfl rfl (by kernel_rfl) (by kernel_rfl) ?_
              refine ls_val (v := .int .i64 t91.2.2) rfl rfl (by kernel_rfl) (fun w => by kernel_rfl) ?_
              refine ls_on (j := 14) (t := 42) (b := true) rfl rfl (by kernel_rfl) (by kernel_rfl) ?_
              refine ls_val (v := .bool (decide (t91.2.2 = (0 : Int)))) rfl rfl (by kernel_rfl) (fun w => by kernel_rfl) ?_
              refine ls_val (v := .bool (decide (t91.2.2 = (0 : Int)))) rfl rfl (by kernel_rfl) (fun w => by kernel_rfl) ?_
              refine ls_val (v := .bool (decide (t91.2.2 = (0 : Int)))) rfl rfl (by kernel_rfl) (fun w => by kernel_rfl) ?_
              refine ls_end ?_
              refine qn_then ?_
              refine cs_ret' ?_
              refine qr_then ?_
              obtain rfl := Option.some.inj H
              refine qr_end1 rfl (fun w' hs => ⟨(), rfl, ?_⟩)
              exact hs.sub (sub_nil _)
            · replace H := ite_f q97 H
              refine ls_know (c := false) (dec_f q97) 42 (by kernel_rfl) ?_
              refine ls_off (j := 14) (t := 42) (b := true) (c := false) rfl rfl (by kernel_rfl) (by kernel_rfl) rfl rfl (by kernel_rfl) ?_
              refine ls_off (j := 14) (t := 42) (b := true) (c := false) rfl rfl (by kernel_rfl) (by kernel_rfl) rfl rfl (by kernel_rfl) ?_
              refine ls_val (v := .bool false) rfl rfl (by kernel_rfl) (fun w => by kernel_rfl) ?_
              refine ls_val (v := .bool false) rfl rfl (by kernel_rfl) (fun w => by kernel_rfl) ?_
              refine ls_end ?_
              refine qn_then ?_
              refine cs_ret' ?_
              refine qr_then ?_
              obtain rfl := Option.some.inj H
              refine qr_end1 rfl (fun w' hs => ⟨(), rfl, ?_⟩)
              exact hs.sub (sub_nil _)
          · replace H := ite_f q96 H
            refine ls_know (c := false) (dec_f q96) 38 (by kernel_rfl) ?_
            refine ls_off (j := 10) (t := 38) (b := true) (c := false) rfl rfl (by kernel_rfl) (by kernel_rfl) rfl rfl (by kernel_rfl) ?_
            refine ls_off (j := 10) (t := 38) (b := true) (c := false) rfl rfl (by kernel_rfl) (by kernel_rfl) rfl rfl (by kernel_rfl) ?_
            refine ls_val (v := .bool false) rfl rfl (by kernel_rfl) (fun w => by kernel_rfl) ?_
            refine ls_val (v := .bool false) rfl rfl (by kernel_rfl) (fun w => by kernel_rfl) ?_
            refine ls_off (j := 14) (t := 42) (b := true) (c := false) rfl rfl (by kernel_rfl) (by kernel_rfl) rfl rfl (by kernel_rfl) ?_
            refine ls_off (j := 14) (t := 42) (b := true) (c := false) rfl rfl (by kernel_rfl) (by kernel_rfl) rfl rfl (by kernel_rfl) ?_
            refine ls_val (v := .bool false) rfl rfl (by kernel_rfl) (fun w => by kernel_rfl) ?_
            refine ls_val (v := .bool false) rfl rfl (by kernel_rfl) (fun w => by kernel_rfl) ?_
            refine ls_end ?_
            refine qn_then ?_
            refine cs_ret' ?_
            refine qr_then ?_
            obtain rfl := Option.some.inj H
            refine qr_end1 rfl (fun w' hs => ⟨(), rfl, ?_⟩)
            exact hs.sub (sub_nil _)
        · replace H := ite_f q95 H
          refine ls_know (c := false) (dec_f q95) 34 (by kernel_rfl) ?_
          refine ls_off (j := 6) (t := 34) (b := true) (c := false) rfl rfl (by kernel_rfl) (by kernel_rfl) rfl rfl (by kernel_rfl) ?_
          refine ls_off (j := 6) (t := 34) (b := true) (c := false) rfl rfl (by kernel_rfl) (by kernel_rfl) rfl rfl (by kernel_rfl) ?_
          refine ls_val (v := .bool false) rfl rfl (by kernel_rfl) (fun w => by kernel_rfl) ?_
          refine ls_val (v := .bool false) rfl rfl (by kernel_rfl) (fun w => by kernel_rfl) ?_
          refine ls_off (j := 10) (t := 38) (b := true) (c := false) rfl rfl (by kernel_rfl) (by kernel_rfl) rfl rfl (by kernel_rfl) ?_
          refine ls_off (j := 10) (t := 38) (b := true) (c := false) rfl rfl (by kernel_rfl) (by kernel_rfl) rfl rfl (by kernel_rfl) ?_
          refine ls_val (v := .bool false) rfl rfl (by kernel_rfl) (fun w => by kernel_rfl) ?_
          refine ls_val (v := .bool false) rfl rfl (by kernel_rfl) (fun w => by kernel_rfl) ?_
          refine ls_off (j := 14) (t := 42) (b := true) (c := false) rfl rfl (by kernel_rfl) (by kernel_rfl) rfl rfl (by kernel_rfl) ?_
          refine ls_off (j := 14) (t := 42) (b := true) (c := false) rfl rfl (by kernel_rfl) (by kernel_rfl) rfl rfl (by kernel_rfl) ?_
          refine ls_val (v := .bool false) rfl rfl (by kernel_rfl) (fun w => by kernel_rfl) ?_
          refine ls_val (v := .bool false) rfl rfl (by kernel_rfl) (fun w => by kernel_rfl) ?_
          refine ls_end ?_
          refine qn_then ?_
          refine cs_ret' ?_
          refine qr_then ?_
          obtain rfl := Option.some.inj H
          refine qr_end1 rfl (fun w' hs => ⟨(), rfl, ?_⟩)
          exact hs.sub (sub_nil _)
      · replace H := ite_f q94 H
        refine ls_know (c := false) (dec_f q94) 30 (by kernel_rfl) ?_
        refine ls_off (j := 2) (t := 30) (b := true) (c := false) rfl rfl (by kernel_rfl) (by kernel_rfl) rfl rfl (by kernel_rfl) ?_
        refine ls_off (j := 2) (t := 30) (b := true) (c := false) rfl rfl (by kernel_rfl) (by kernel_rfl) rfl rfl (by kernel_rfl) ?_
        refine ls_val (v := .bool false) rfl rfl (by kernel_rfl) (fun w => by kernel_rfl) ?_
        refine ls_val (v := .bool false) rfl rfl (by kernel_rfl) (fun w => by kernel_rfl) ?_
        refine ls_off (j := 6) (t := 34) (b := true) (c := false) rfl rfl (by kernel_rfl) (by kernel_rfl) rfl rfl (by kernel_rfl) ?_
        refine ls_off (j := 6) (t := 34) (b := true) (c := false) rfl rfl (by kernel_rfl) (by kernel_rfl) rfl rfl (by kernel_rfl) ?_
        refine ls_val (v := .bool false) rfl rfl (by kernel_rfl) (fun w => by kernel_rfl) ?_
        refine ls_val (v := .bool false) rfl rfl (by kernel_rfl) (fun w => by kernel_rfl) ?_
        refine ls_off (j := 10) (t := 38) (b := true) (c := false) rfl rfl (by kernel_rfl) (by kernel_rfl) rfl rfl (by kernel_rfl) ?_
        refine ls_off (j := 10) (t := 38) (b := true) (c := false) rfl rfl (by kernel_rfl) (by kernel_rfl) rfl rfl (by kernel_rfl) ?_
        refine ls_val (v := .bool false) rfl rfl (by kernel_rfl) (fun w => by kernel_rfl) ?_
        refine ls_val (v := .bool false) rfl rfl (by kernel_rfl) (fun w => by kernel_rfl) ?_
        refine ls_off (j := 14) (t := 42) (b := true) (c := false) rfl rfl (by kernel_rfl) (by kernel_rfl) rfl rfl (by kernel_rfl) ?_
        refine ls_off (j := 14) (t := 42) (b := true) (c := false) rfl rfl (by kernel_rfl) (by kernel_rfl) rfl rfl (by kernel_rfl) ?_
        refine ls_val (v := .bool false) rfl rfl (by kernel_rfl) (fun w => by kernel_rfl) ?_
        refine ls_val (v := .bool false) rfl rfl (by kernel_rfl) (fun w => by kernel_rfl) ?_
        refine ls_end ?_
        refine qn_then ?_
        refine cs_ret' ?_
        refine qr_then ?_
        obtain rfl := Option.some.inj H
        refine qr_end1 rfl (fun w' hs => ⟨(), rfl, ?_⟩)
        exact hs.sub (sub_nil _)

end Go.Proofs.Ytknjphpfofbdiaa.G
