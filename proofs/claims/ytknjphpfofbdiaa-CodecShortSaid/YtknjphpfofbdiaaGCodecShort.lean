/- Printed by a program of this session (sx.py): plain functions, and walks that show that the code comes to them; no condition. -/
import Derived.Test.YtknjphpfofbdiaaProg
import Derived.Test.YtknjphpfofbdiaaSx
import Derived.Test.YtknjphpfofbdiaaGa
set_option linter.unusedVariables false
namespace Go.Proofs.Ytknjphpfofbdiaa.G
open Go Go.RowKit Go.Proofs.Ytknjphpfofbdiaa.Sx

/-! ### shadowbox/shadowboxlaw01.CodecShort: function 5 -/
def shadowboxlaw01_CodecShort.f (k : Nat) (l0 : List Int) (a1 : Int) : Option (Bool) :=
  (if (l0.length : Int) > (2000 : Int) then (if (2000 : Int) ≤ (l0.length : Int) then lt (l0.take ((2000 : Int)).toNat) fun xl7 => (codec_ReadShort.f k xl7).bind fun t12 => (shadowboxref01_ReadShort.f k xl7).bind fun t15 => (codec_Short.f k xl7 a1).bind fun t18 => (shadowboxref01_Short.f k xl7 a1).bind fun t21 => (if ((strOfNums t18).toList == (strOfNums t21).toList) = true then (if t12.1 = t15.1 then (if t12.2.1 = t15.2.1 then (if t12.2.2 = t15.2.2 then (codec_Short.f k ([] : List Int) (300 : Int)).bind fun t28 => (if ((strOfNums t28).toList == (⟨#[172, 2]⟩ : ByteArray).toList) = true then some true else some false) else some false) else some false) else some false) else some false) else none) else (codec_ReadShort.f k l0).bind fun t32 => (shadowboxref01_ReadShort.f k l0).bind fun t35 => (codec_Short.f k l0 a1).bind fun t38 => (shadowboxref01_Short.f k l0 a1).bind fun t41 => (if ((strOfNums t38).toList == (strOfNums t41).toList) = true then (if t32.1 = t35.1 then (if t32.2.1 = t35.2.1 then (if t32.2.2 = t35.2.2 then (codec_Short.f k ([] : List Int) (300 : Int)).bind fun t48 => (if ((strOfNums t48).toList == (⟨#[172, 2]⟩ : ByteArray).toList) = true then some true else some false) else some false) else some false) else some false) else some false))
set_option maxRecDepth 100000 in
set_option maxHeartbeats 4000000 in
theorem shadowboxlaw01_CodecShort.calls (k : Nat) (A0 : Option Addr) (c0 : Nat) (l0 : List Int) (a1 : Int) (r : Bool) (w : World) (R0 : Rd w A0 (en (Value.int .u8) l0)) (C0 : l0.length ≤ c0) (H : shadowboxlaw01_CodecShort.f k l0 a1 = some r) :
    Calls Try.prog 5 #[.slice A0 l0.length c0, .int .u64 a1] w fun e w' => ∃ x : Unit, e = .returned (.bool r) ∧ St w s0 w' := by
  unfold shadowboxlaw01_CodecShort.f at H
  refine enter (n := 59) Try.func5 rfl (by kernel_rfl) (by kernel_rfl) ?_
  refine cs_seq ?_
  refine cs_region (l := [_]) ?_
  refine ls_val (v := .bool false) rfl rfl (by kernel_rfl) (fun w => by kernel_rfl) ?_
  refine ls_end ?_
  refine qn_then ?_
  refine cs_seq ?_
  refine cs_seq ?_
  refine cs_region (l := [_, _, _]) ?_
  refine ls_val (v := .slice A0 l0.length c0) rfl rfl (by kernel_rfl) (fun w => by kernel_rfl) ?_
  refine ls_val (v := .int .i64 (l0.length : Int)) rfl rfl (by kernel_rfl) (fun w => by kernel_rfl) ?_
  refine ls_val (v := .bool (decide ((l0.length : Int) > (2000 : Int)))) rfl rfl (by kernel_rfl) (fun w => by kernel_rfl) ?_
  refine ls_end ?_
  refine qn_then ?_
  by_cases q1 : (l0.length : Int) > (2000 : Int)
  · replace H := ite_t q1 H
    refine cs_know (c := true) (dec_t q1) 13 (by kernel_rfl) ?_
    refine cs_true (by kernel_rfl) ?_
    refine cs_region (l := [_, _, _]) ?_
    refine ls_val (v := .slice A0 l0.length c0) rfl rfl (by kernel_rfl) (fun w => by kernel_rfl) ?_
    obtain ⟨q2, H⟩ := ite_need H
    obtain ⟨xl7, hy8, H⟩ := lt_some H
    have hz10 : 0 ≤ ((2000 : Int)).toNat := by omega
    have hz11 : ((2000 : Int)).toNat ≤ l0.length := by omega
    obtain ⟨xA3, xc4, he9, xC6, xR5⟩ := cut_at (A := A0) (c := c0) (l := l0) (E := (Value.int .u8)) 0 (((2000 : Int)).toNat) hz10 hz11 C0 R0 (m := xl7) (by rw [← hy8] <;> simp)
    refine ls_cutv (A := A0) (c := c0) (l := l0) (e := 5) (a := 0) (b := ((2000 : Int)).toNat) rfl rfl (by kernel_rfl) rfl (by kernel_rfl) (by kernel_rfl) (by kernel_rfl) (.inl ⟨rfl, rfl⟩) (.inr ⟨.i64, by rw [Int.toNat_of_nonneg (by first | assumption | omega)]; kernel_rfl⟩) hz10 hz11 C0 he9 ?_
    refine ls_val (v := .slice xA3 xl7.length xc4) rfl rfl (by kernel_rfl) (fun w => by kernel_rfl) ?_
    refine ls_end ?_
    refine qn_then ?_
    refine cs_seq ?_
    refine cs_region (l := [_, _, _, _, _, _, _, _, _]) ?_
    refine ls_val (v := .slice xA3 xl7.length xc4) rfl rfl (by kernel_rfl) (fun w => by kernel_rfl) ?_
    obtain ⟨t12, hc13, H⟩ := bind_some H
    refine ls_call (fid := 15) (vals := #[.slice xA3 xl7.length xc4]) (X := Unit) (fun x => .tuple #[.int .u64 t12.1, .int .i64 t12.2.1, .int .i64 t12.2.2]) (fun x => s0) 0 rfl rfl (by kernel_rfl) (fun w => by kernel_rfl) (fun w hs => codec_ReadShort.calls k xA3 xc4 xl7 t12 w (hs.old xR5) xC6 hc13) ?_
    intro x14
    refine ls_val (v := .tuple #[.int .u64 t12.1, .int .i64 t12.2.1, .int .i64 t12.2.2]) rfl rfl (by kernel_rfl) (fun w => by kernel_rfl) ?_
    refine ls_val (v := .int .u64 t12.1) rfl rfl (by kernel_rfl) (fun w => by kernel_rfl) ?_
    refine ls_val (v := .int .i64 t12.2.1) rfl rfl (by kernel_rfl) (fun w => by kernel_rfl) ?_
    refine ls_val (v := .int .i64 t12.2.2) rfl rfl (by kernel_rfl) (fun w => by kernel_rfl) ?_
    refine ls_val (v := .int .u64 t12.1) rfl rfl (by kernel_rfl) (fun w => by kernel_rfl) ?_
    refine ls_val (v := .int .i64 t12.2.1) rfl rfl (by kernel_rfl) (fun w => by kernel_rfl) ?_
    refine ls_val (v := .int .i64 t12.2.2) rfl rfl (by kernel_rfl) (fun w => by kernel_rfl) ?_
    refine ls_end ?_
    refine qn_then ?_
    refine cs_seq ?_
    refine cs_region (l := [_, _, _, _, _, _, _, _, _]) ?_
    refine ls_val (v := .slice xA3 xl7.length xc4) rfl rfl (by kernel_rfl) (fun w => by kernel_rfl) ?_
    obtain ⟨t15, hc16, H⟩ := bind_some H
    refine ls_call (fid := 16) (vals := #[.slice xA3 xl7.length xc4]) (X := Unit) (fun x => .tuple #[.int .u64 t15.1, .int .i64 t15.2.1, .int .i64 t15.2.2]) (fun x => s0) 0 rfl rfl (by kernel_rfl) (fun w => by kernel_rfl) (fun w hs => shadowboxref01_ReadShort.calls k xA3 xc4 xl7 t15 w (hs.old xR5) xC6 hc16) ?_
    intro x17
    refine ls_val (v := .tuple #[.int .u64 t15.1, .int .i64 t15.2.1, .int .i64 t15.2.2]) rfl rfl (by kernel_rfl) (fun w => by kernel_rfl) ?_
    refine ls_val (v := .int .u64 t15.1) rfl rfl (by kernel_rfl) (fun w => by kernel_rfl) ?_
    refine ls_val (v := .int .i64 t15.2.1) rfl rfl (by kernel_rfl) (fun w => by kernel_rfl) ?_
    refine ls_val (v := .int .i64 t15.2.2) rfl rfl (by kernel_rfl) (fun w => by kernel_rfl) ?_
    refine ls_val (v := .int .u64 t15.1) rfl rfl (by kernel_rfl) (fun w => by kernel_rfl) ?_
    refine ls_val (v := .int .i64 t15.2.1) rfl rfl (by kernel_rfl) (fun w => by kernel_rfl) ?_
    refine ls_val (v := .int .i64 t15.2.2) rfl rfl (by kernel_rfl) (fun w => by kernel_rfl) ?_
    refine ls_end ?_
    refine qn_then ?_
    refine cs_seq ?_
    obtain ⟨t18, hc19, H⟩ := bind_some H
    obtain ⟨t21, hc22, H⟩ := bind_some H
    by_cases q24 : ((strOfNums t18).toList == (strOfNums t21).toList) = true
    · replace H := ite_t q24 H
      by_cases q25 : t12.1 = t15.1
      · replace H := ite_t q25 H
        by_cases q26 : t12.2.1 = t15.2.1
        · replace H := ite_t q26 H
          refine cs_draw (l := [_, _, _, _, _, _, _, _, _, _, _, _, _, _, _, _, _, _, _, _, _, _, _, _, _, _, _, _, _, _, _, _]) [[], [], [0, 1], [0, 1, 2], [], [], [0, 1, 2, 4, 5], [0, 1, 2, 4, 5, 6], [0, 1, 2, 3, 4, 5, 6, 7], [0, 1, 2, 3, 4, 5, 6, 7, 8], [0, 1, 2, 3, 4, 5, 6, 7, 8, 9], [0, 1, 2, 3, 4, 5, 6, 7, 8, 9], [0, 1, 2, 3, 4, 5, 6, 7, 8, 9, 10, 11], [0, 1, 2, 3, 4, 5, 6, 7, 8, 9, 10, 11, 12], [0, 1, 2, 3, 4, 5, 6, 7, 8, 9, 10, 11, 12, 13], [0, 1, 2, 3, 4, 5, 6, 7, 8, 9, 10, 11, 12, 13, 14], [0, 1, 2, 3, 4, 5, 6, 7, 8, 9, 10, 11, 12, 13, 14], [0, 1, 2, 3, 4, 5, 6, 7, 8, 9, 10, 11, 12, 13, 14, 15, 16], [0, 1, 2, 3, 4, 5, 6, 7, 8, 9, 10, 11, 12, 13, 14, 15, 16, 17], [0, 1, 2, 3, 4, 5, 6, 7, 8, 9, 10, 11, 12, 13, 14, 15, 16, 17, 18], [0, 1, 2, 3, 4, 5, 6, 7, 8, 9, 10, 11, 12, 13, 14, 15, 16, 17, 18, 19], [0, 1, 2, 3, 4, 5, 6, 7, 8, 9, 10, 11, 12, 13, 14, 15, 16, 17, 18, 19], [0, 1, 2, 3, 4, 5, 6, 7, 8, 9, 10, 11, 12, 13, 14, 15, 16, 17, 18, 19, 20, 21], [0, 1, 2, 3, 4, 5, 6, 7, 8, 9, 10, 11, 12, 13, 14, 15, 16, 17, 18, 19, 20, 21, 22], [0, 1, 2, 3, 4, 5, 6, 7, 8, 9, 10, 11, 12, 13, 14, 15, 16, 17, 18, 19, 20, 21, 22, 23], [0, 1, 2, 3, 4, 5, 6, 7, 8, 9, 10, 11, 12, 13, 14, 15, 16, 17, 18, 19, 20, 21, 22, 23, 24], [0, 1, 2, 3, 4, 5, 6, 7, 8, 9, 10, 11, 12, 13, 14, 15, 16, 17, 18, 19, 20, 21, 22, 23, 24, 25], [0, 1, 2, 3, 4, 5, 6, 7, 8, 9, 10, 11, 12, 13, 14, 15, 16, 17, 18, 19, 20, 21, 22, 23, 24, 25, 26], [0, 1, 2, 3, 4, 5, 6, 7, 8, 9, 10, 11, 12, 13, 14, 15, 16, 17, 18, 19, 20, 21, 22, 23, 24, 25, 26, 27], [0, 1, 2, 3, 4, 5, 6, 7, 8, 9, 10, 11, 12, 13, 14, 15, 16, 17, 18, 19, 20, 21, 22, 23, 24, 25, 26, 27, 28], [0, 1, 2, 3, 4, 5, 6, 7, 8, 9, 10, 11, 12, 13, 14, 15, 16, 17, 18, 19, 20, 21, 22, 23, 24, 25, 26, 27, 28, 29], [0, 1, 2, 3, 4, 5, 6, 7, 8, 9, 10, 11, 12, 13, 14, 15, 16, 17, 18, 19, 20, 21, 22, 23, 24, 25, 26, 27, 28, 29, 30]] 22 0 (spl [fun v R => v = .slice xA3 xl7.length xc4 ∧ R = s0, fun v R => v = .int .u64 a1 ∧ R = s0, fun v R => ∃ x20 : (Option Addr × Nat), v = .slice x20.1 t18.length x20.2 ∧ R = sput s0 0 (some (Ck.sl 5 (Value.int .u8) x20.1 x20.2 t18)), fun v R => v = .string (strOfNums t18) ∧ R = s0, fun v R => v = .slice xA3 xl7.length xc4 ∧ R = s0, fun v R => v = .int .u64 a1 ∧ R = s0, fun v R => ∃ x23 : (Option Addr × Nat), v = .slice x23.1 t21.length x23.2 ∧ R = sput s0 0 (some (Ck.sl 5 (Value.int .u8) x23.1 x23.2 t21)), fun v R => v = .string (strOfNums t21) ∧ R = s0, fun v R => v = .bool true ∧ R = s0, fun v R => v = .bool true ∧ R = s0, fun v R => v = .int .u64 t12.1 ∧ R = s0, fun v R => v = .int .u64 t15.1 ∧ R = s0, fun v R => v = .bool true ∧ R = s0, fun v R => v = .bool true ∧ R = s0, fun v R => v = .bool true ∧ R = s0, fun v R => v = .int .i64 t12.2.1 ∧ R = s0, fun v R => v = .int .i64 t15.2.1 ∧ R = s0, fun v R => v = .bool true ∧ R = s0, fun v R => v = .bool true ∧ R = s0, fun v R => v = .bool true ∧ R = s0, fun v R => v = .int .i64 t12.2.2 ∧ R = s0, fun v R => v = .int .i64 t15.2.2 ∧ R = s0]) (onl [true, true, true, true, true, true, true, true, true, true, true, true, true, true, true, true, true, true, true, true, true, true]) (by kernel_rfl) (by kernel_rfl) (by kernel_rfl) (by kernel_rfl) (rs := [_, _, _, _, _, _, _, _, _, _]) rfl (by kernel_rfl) (by kernel_rfl) ?_ ?_
          · refine all_snoc (all_snoc (all_snoc (all_snoc (all_snoc (all_snoc (all_snoc (all_snoc (all_snoc (all_snoc (all_snoc (all_snoc (all_snoc (all_snoc (all_snoc (all_snoc (all_snoc (all_snoc (all_snoc (all_snoc (all_snoc (all_snoc (all_nil) ?_) ?_) ?_) ?_) ?_) ?_) ?_) ?_) ?_) ?_) ?_) ?_) ?_) ?_) ?_) ?_) ?_) ?_) ?_) ?_) ?_) ?_
            · refine ⟨fun o ho vs Rs f' S' w hp hf hx hS hR hs => ?_⟩
              obtain rfl := Option.some.inj ho
              refine And.intro (want_none rfl) (And.intro (fun _ => ?_) (fun h => by cases h))
              have hF := fr_next (rfl) ((hx 0 (by kernel_rfl)).trans (by kernel_rfl : (_ : Value) = .slice xA3 xl7.length xc4))
              refine ls_fr hF ?_
              refine ls_val (v := .slice xA3 xl7.length xc4) rfl rfl (by kernel_rfl) (fun w => by kernel_rfl) ?_
              exact ls_fin s0 (.slice xA3 xl7.length xc4) (congrArg (fun z => upd z 28 _) hF.symm) ⟨rfl, rfl⟩ (sub_nil _)
            · refine ⟨fun o ho vs Rs f' S' w hp hf hx hS hR hs => ?_⟩
              obtain rfl := Option.some.inj ho
              refine And.intro (want_none rfl) (And.intro (fun _ => ?_) (fun h => by cases h))
              have hF := fr_next (rfl) ((hx 1 (by kernel_rfl)).trans (by kernel_rfl : (_ : Value) = .int .u64 a1))
              refine ls_fr hF ?_
              refine ls_val (v := .int .u64 a1) rfl rfl (by kernel_rfl) (fun w => by kernel_rfl) ?_
              exact ls_fin s0 (.int .u64 a1) (congrArg (fun z => upd z 29 _) hF.symm) ⟨rfl, rfl⟩ (sub_nil _)
            · refine ⟨fun o ho vs Rs f' S' w hp hf hx hS hR hs => ?_⟩
              obtain rfl := Option.some.inj ho
              obtain ⟨hv0, hR0⟩ := hp 0 (by kernel_rfl)
              obtain ⟨hv1, hR1⟩ := hp 1 (by kernel_rfl)
              refine And.intro (want_none rfl) (And.intro (fun _ => ?_) (fun h => by cases h))
              have hF := fr_next (fr_next (rfl) ((hf 0 28 (by kernel_rfl) rfl).trans hv0)) ((hf 1 29 (by kernel_rfl) rfl).trans hv1)
              refine ls_fr hF ?_
              refine ls_call (fid := 17) (vals := #[.slice xA3 xl7.length xc4, .int .u64 a1]) (X := (Option Addr × Nat)) (fun x => .slice x.1 t18.length x.2) (fun x => sput s0 0 (some (Ck.sl 5 (Value.int .u8) x.1 x.2 t18))) 0 rfl rfl (by kernel_rfl) (fun w => by kernel_rfl) (fun w1 hs1 => codec_Short.calls k xA3 xc4 xl7 a1 t18 w1 (hs1.old (hs.old xR5)) xC6 hc19) ?_
              intro x20
              exact ls_fin (sput s0 0 (some (Ck.sl 5 (Value.int .u8) x20.1 x20.2 t18))) (.slice x20.1 t18.length x20.2) (congrArg (fun z => upd z 30 _) hF.symm) ⟨x20, rfl, rfl⟩ (sub_put (by exact rfl) (sub_nil _))
            · refine ⟨fun o ho vs Rs f' S' w hp hf hx hS hR hs => ?_⟩
              obtain rfl := Option.some.inj ho
              obtain ⟨x20, hv2, hR2⟩ := hp 2 (by kernel_rfl)
              have hT2_0 := (hR 2 0 (by kernel_rfl) (by decide)).trans (congrFun hR2 0)
              refine And.intro (want_none rfl) (And.intro (fun _ => ?_) (fun h => by cases h))
              have hF := fr_next (rfl) ((hf 2 30 (by kernel_rfl) rfl).trans hv2)
              refine ls_fr hF ?_
              refine ls_str (A := x20.1) (c := x20.2) (e := 5) (l := t18) rfl rfl (by kernel_rfl) rfl (by kernel_rfl) (by kernel_rfl) (by kernel_rfl) (by kernel_rfl) (fun w1 hs1 => (hs1.old (hs.rd (k := 16) hT2_0))) ?_
              exact ls_fin s0 (.string (strOfNums t18)) (congrArg (fun z => upd z 31 _) hF.symm) ⟨rfl, rfl⟩ (sub_nil _)
            · refine ⟨fun o ho vs Rs f' S' w hp hf hx hS hR hs => ?_⟩
              obtain rfl := Option.some.inj ho
              refine And.intro (want_none rfl) (And.intro (fun _ => ?_) (fun h => by cases h))
              have hF := fr_next (rfl) ((hx 0 (by kernel_rfl)).trans (by kernel_rfl : (_ : Value) = .slice xA3 xl7.length xc4))
              refine ls_fr hF ?_
              refine ls_val (v := .slice xA3 xl7.length xc4) rfl rfl (by kernel_rfl) (fun w => by kernel_rfl) ?_
              exact ls_fin s0 (.slice xA3 xl7.length xc4) (congrArg (fun z => upd z 32 _) hF.symm) ⟨rfl, rfl⟩ (sub_nil _)
            · refine ⟨fun o ho vs Rs f' S' w hp hf hx hS hR hs => ?_⟩
              obtain rfl := Option.some.inj ho
              refine And.intro (want_none rfl) (And.intro (fun _ => ?_) (fun h => by cases h))
              have hF := fr_next (rfl) ((hx 1 (by kernel_rfl)).trans (by kernel_rfl : (_ : Value) = .int .u64 a1))
              refine ls_fr hF ?_
              refine ls_val (v := .int .u64 a1) rfl rfl (by kernel_rfl) (fun w => by kernel_rfl) ?_
              exact ls_fin s0 (.int .u64 a1) (congrArg (fun z => upd z 33 _) hF.symm) ⟨rfl, rfl⟩ (sub_nil _)
            · refine ⟨fun o ho vs Rs f' S' w hp hf hx hS hR hs => ?_⟩
              obtain rfl := Option.some.inj ho
              obtain ⟨hv4, hR4⟩ := hp 4 (by kernel_rfl)
              obtain ⟨hv5, hR5⟩ := hp 5 (by kernel_rfl)
              refine And.intro (want_none rfl) (And.intro (fun _ => ?_) (fun h => by cases h))
              have hF := fr_next (fr_next (rfl) ((hf 4 32 (by kernel_rfl) rfl).trans hv4)) ((hf 5 33 (by kernel_rfl) rfl).trans hv5)
              refine ls_fr hF ?_
              refine ls_call (fid := 18) (vals := #[.slice xA3 xl7.length xc4, .int .u64 a1]) (X := (Option Addr × Nat)) (fun x => .slice x.1 t21.length x.2) (fun x => sput s0 0 (some (Ck.sl 5 (Value.int .u8) x.1 x.2 t21))) 0 rfl rfl (by kernel_rfl) (fun w => by kernel_rfl) (fun w1 hs1 => shadowboxref01_Short.calls k xA3 xc4 xl7 a1 t21 w1 (hs1.old (hs.old xR5)) xC6 hc22) ?_
              intro x23
              exact ls_fin (sput s0 0 (some (Ck.sl 5 (Value.int .u8) x23.1 x23.2 t21))) (.slice x23.1 t21.length x23.2) (congrArg (fun z => upd z 34 _) hF.symm) ⟨x23, rfl, rfl⟩ (sub_put (by exact rfl) (sub_nil _))
            · refine ⟨fun o ho vs Rs f' S' w hp hf hx hS hR hs => ?_⟩
              obtain rfl := Option.some.inj ho
              obtain ⟨x23, hv6, hR6⟩ := hp 6 (by kernel_rfl)
              have hT6_0 := (hR 6 0 (by kernel_rfl) (by decide)).trans (congrFun hR6 0)
              refine And.intro (want_none rfl) (And.intro (fun _ => ?_) (fun h => by cases h))
              have hF := fr_next (rfl) ((hf 6 34 (by kernel_rfl) rfl).trans hv6)
              refine ls_fr hF ?_
              refine ls_str (A := x23.1) (c := x23.2) (e := 5) (l := t21) rfl rfl (by kernel_rfl) rfl (by kernel_rfl) (by kernel_rfl) (by kernel_rfl) (by kernel_rfl) (fun w1 hs1 => (hs1.old (hs.rd (k := 48) hT6_0))) ?_
              exact ls_fin s0 (.string (strOfNums t21)) (congrArg (fun z => upd z 35 _) hF.symm) ⟨rfl, rfl⟩ (sub_nil _)
            · refine ⟨fun o ho vs Rs f' S' w hp hf hx hS hR hs => ?_⟩
              obtain rfl := Option.some.inj ho
              obtain ⟨hv3, hR3⟩ := hp 3 (by kernel_rfl)
              obtain ⟨hv7, hR7⟩ := hp 7 (by kernel_rfl)
              refine And.intro (want_none rfl) (And.intro (fun _ => ?_) (fun h => by cases h))
              have hF := fr_next (fr_next (rfl) ((hf 3 31 (by kernel_rfl) rfl).trans hv3)) ((hf 7 35 (by kernel_rfl) rfl).trans hv7)
              refine ls_fr hF ?_
              refine ls_val (v := .bool ((strOfNums t18).toList == (strOfNums t21).toList)) rfl rfl (by kernel_rfl) (fun w => by kernel_rfl) ?_
              refine ls_ren 36 (v := .bool ((strOfNums t18).toList == (strOfNums t21).toList)) (v' := .bool true) (by kernel_rfl) (congrArg Value.bool (show ((strOfNums t18).toList == (strOfNums t21).toList) = true from q24)) ?_
              exact ls_fin s0 (.bool true) ((upd_upd _ _ _ _).trans (congrArg (fun z => upd z 36 _) hF.symm)) ⟨rfl, rfl⟩ (sub_nil _)
            · refine ⟨fun o ho vs Rs f' S' w hp hf hx hS hR hs => ?_⟩
              obtain rfl := Option.some.inj ho
              obtain ⟨hv8, hR8⟩ := hp 8 (by kernel_rfl)
              refine And.intro (want_none rfl) (And.intro (fun _ => ?_) (fun h => by cases h))
              have hF := fr_next (rfl) ((hf 8 36 (by kernel_rfl) rfl).trans hv8)
              refine ls_fr hF ?_
              refine ls_val (v := .bool true) rfl rfl (by kernel_rfl) (fun w => by kernel_rfl) ?_
              exact ls_fin s0 (.bool true) (congrArg (fun z => upd z 37 _) hF.symm) ⟨rfl, rfl⟩ (sub_nil _)
            · refine ⟨fun o ho vs Rs f' S' w hp hf hx hS hR hs => ?_⟩
              obtain rfl := Option.some.inj ho
              obtain ⟨hv9, hR9⟩ := hp 9 (by kernel_rfl)
              refine And.intro (want_is (j := 9) (t := 37) rfl rfl (by kernel_rfl) ((hf 9 37 (by kernel_rfl) rfl).trans hv9) rfl) (And.intro (fun _ => ?_) (fun h => by cases h))
              have hF := fr_next (fr_next (rfl) ((hx 5 (by kernel_rfl)).trans (by kernel_rfl : (_ : Value) = .int .u64 t12.1))) ((hf 9 37 (by kernel_rfl) rfl).trans hv9)
              refine ls_fr hF ?_
              refine ls_val (v := .int .u64 t12.1) rfl rfl (by kernel_rfl) (fun w => by kernel_rfl) ?_
              exact ls_fin s0 (.int .u64 t12.1) (congrArg (fun z => upd z 38 _) hF.symm) ⟨rfl, rfl⟩ (sub_nil _)
            · refine ⟨fun o ho vs Rs f' S' w hp hf hx hS hR hs => ?_⟩
              obtain rfl := Option.some.inj ho
              obtain ⟨hv9, hR9⟩ := hp 9 (by kernel_rfl)
              refine And.intro (want_is (j := 9) (t := 37) rfl rfl (by kernel_rfl) ((hf 9 37 (by kernel_rfl) rfl).trans hv9) rfl) (And.intro (fun _ => ?_) (fun h => by cases h))
              have hF := fr_next (fr_next (rfl) ((hx 8 (by kernel_rfl)).trans (by kernel_rfl : (_ : Value) = .int .u64 t15.1))) ((hf 9 37 (by kernel_rfl) rfl).trans hv9)
              refine ls_fr hF ?_
              refine ls_val (v := .int .u64 t15.1) rfl rfl (by kernel_rfl) (fun w => by kernel_rfl) ?_
              exact ls_fin s0 (.int .u64 t15.1) (congrArg (fun z => upd z 39 _) hF.symm) ⟨rfl, rfl⟩ (sub_nil _)
            · refine ⟨fun o ho vs Rs f' S' w hp hf hx hS hR hs => ?_⟩
              obtain rfl := Option.some.inj ho
              obtain ⟨hv9, hR9⟩ := hp 9 (by kernel_rfl)
              obtain ⟨hv10, hR10⟩ := hp 10 (by kernel_rfl)
              obtain ⟨hv11, hR11⟩ := hp 11 (by kernel_rfl)
              refine And.intro (want_is (j := 9) (t := 37) rfl rfl (by kernel_rfl) ((hf 9 37 (by kernel_rfl) rfl).trans hv9) rfl) (And.intro (fun _ => ?_) (fun h => by cases h))
              have hF := fr_next (fr_next (fr_next (rfl) ((hf 9 37 (by kernel_rfl) rfl).trans hv9)) ((hf 10 38 (by kernel_rfl) rfl).trans hv10)) ((hf 11 39 (by kernel_rfl) rfl).trans hv11)
              refine ls_fr hF ?_
              refine ls_val (v := .bool (decide (t12.1 = t15.1))) rfl rfl (by kernel_rfl) (fun w => by kernel_rfl) ?_
              refine ls_ren 40 (v := .bool (decide (t12.1 = t15.1))) (v' := .bool true) (by kernel_rfl) (congrArg Value.bool (show (decide (t12.1 = t15.1)) = true from dec_t q25)) ?_
              exact ls_fin s0 (.bool true) ((upd_upd _ _ _ _).trans (congrArg (fun z => upd z 40 _) hF.symm)) ⟨rfl, rfl⟩ (sub_nil _)
            · refine ⟨fun o ho vs Rs f' S' w hp hf hx hS hR hs => ?_⟩
              obtain rfl := Option.some.inj ho
              obtain ⟨hv9, hR9⟩ := hp 9 (by kernel_rfl)
              obtain ⟨hv12, hR12⟩ := hp 12 (by kernel_rfl)
              refine And.intro (want_none rfl) (And.intro (fun _ => ?_) (fun h => by cases h))
              have hF := fr_next (fr_next (rfl) ((hf 9 37 (by kernel_rfl) rfl).trans hv9)) ((hf 12 40 (by kernel_rfl) rfl).trans hv12)
              refine ls_fr hF ?_
              refine ls_val (v := .bool true) rfl rfl (by kernel_rfl) (fun w => by kernel_rfl) ?_
              exact ls_fin s0 (.bool true) (congrArg (fun z => upd z 41 _) hF.symm) ⟨rfl, rfl⟩ (sub_nil _)
            · refine ⟨fun o ho vs Rs f' S' w hp hf hx hS hR hs => ?_⟩
              obtain rfl := Option.some.inj ho
              obtain ⟨hv13, hR13⟩ := hp 13 (by kernel_rfl)
              refine And.intro (want_none rfl) (And.intro (fun _ => ?_) (fun h => by cases h))
              have hF := fr_next (rfl) ((hf 13 41 (by kernel_rfl) rfl).trans hv13)
              refine ls_fr hF ?_
              refine ls_val (v := .bool true) rfl rfl (by kernel_rfl) (fun w => by kernel_rfl) ?_
              exact ls_fin s0 (.bool true) (congrArg (fun z => upd z 42 _) hF.symm) ⟨rfl, rfl⟩ (sub_nil _)
            · refine ⟨fun o ho vs Rs f' S' w hp hf hx hS hR hs => ?_⟩
              obtain rfl := Option.some.inj ho
              obtain ⟨hv14, hR14⟩ := hp 14 (by kernel_rfl)
              refine And.intro (want_is (j := 14) (t := 42) rfl rfl (by kernel_rfl) ((hf 14 42 (by kernel_rfl) rfl).trans hv14) rfl) (And.intro (fun _ => ?_) (fun h => by cases h))
              have hF := fr_next (fr_next (rfl) ((hx 6 (by kernel_rfl)).trans (by kernel_rfl : (_ : Value) = .int .i64 t12.2.1))) ((hf 14 42 (by kernel_rfl) rfl).trans hv14)
              refine ls_fr hF ?_
              refine ls_val (v := .int .i64 t12.2.1) rfl rfl (by kernel_rfl) (fun w => by kernel_rfl) ?_
              exact ls_fin s0 (.int .i64 t12.2.1) (congrArg (fun z => upd z 43 _) hF.symm) ⟨rfl, rfl⟩ (sub_nil _)
            · refine ⟨fun o ho vs Rs f' S' w hp hf hx hS hR hs => ?_⟩
              obtain rfl := Option.some.inj ho
              obtain ⟨hv14, hR14⟩ := hp 14 (by kernel_rfl)
              refine And.intro (want_is (j := 14) (t := 42) rfl rfl (by kernel_rfl) ((hf 14 42 (by kernel_rfl) rfl).trans hv14) rfl) (And.intro (fun _ => ?_) (fun h => by cases h))
              have hF := fr_next (fr_next (rfl) ((hx 9 (by kernel_rfl)).trans (by kernel_rfl : (_ : Value) = .int .i64 t15.2.1))) ((hf 14 42 (by kernel_rfl) rfl).trans hv14)
              refine ls_fr hF ?_
              refine ls_val (v := .int .i64 t15.2.1) rfl rfl (by kernel_rfl) (fun w => by kernel_rfl) ?_
              exact ls_fin s0 (.int .i64 t15.2.1) (congrArg (fun z => upd z 44 _) hF.symm) ⟨rfl, rfl⟩ (sub_nil _)
            · refine ⟨fun o ho vs Rs f' S' w hp hf hx hS hR hs => ?_⟩
              obtain rfl := Option.some.inj ho
              obtain ⟨hv14, hR14⟩ := hp 14 (by kernel_rfl)
              obtain ⟨hv15, hR15⟩ := hp 15 (by kernel_rfl)
              obtain ⟨hv16, hR16⟩ := hp 16 (by kernel_rfl)
              refine And.intro (want_is (j := 14) (t := 42) rfl rfl (by kernel_rfl) ((hf 14 42 (by kernel_rfl) rfl).trans hv14) rfl) (And.intro (fun _ => ?_) (fun h => by cases h))
              have hF := fr_next (fr_next (fr_next (rfl) ((hf 14 42 (by kernel_rfl) rfl).trans hv14)) ((hf 15 43 (by kernel_rfl) rfl).trans hv15)) ((hf 16 44 (by kernel_rfl) rfl).trans hv16)
              refine ls_fr hF ?_
              refine ls_val (v := .bool (decide (t12.2.1 = t15.2.1))) rfl rfl (by kernel_rfl) (fun w => by kernel_rfl) ?_
              refine ls_ren 45 (v := .bool (decide (t12.2.1 = t15.2.1))) (v' := .bool true) (by kernel_rfl) (congrArg Value.bool (show (decide (t12.2.1 = t15.2.1)) = true from dec_t q26)) ?_
              exact ls_fin s0 (.bool true) ((upd_upd _ _ _ _).trans (congrArg (fun z => upd z 45 _) hF.symm)) ⟨rfl, rfl⟩ (sub_nil _)
            · refine ⟨fun o ho vs Rs f' S' w hp hf hx hS hR hs => ?_⟩
              obtain rfl := Option.some.inj ho
              obtain ⟨hv14, hR14⟩ := hp 14 (by kernel_rfl)
              obtain ⟨hv17, hR17⟩ := hp 17 (by kernel_rfl)
              refine And.intro (want_none rfl) (And.intro (fun _ => ?_) (fun h => by cases h))
              have hF := fr_next (fr_next (rfl) ((hf 14 42 (by kernel_rfl) rfl).trans hv14)) ((hf 17 45 (by kernel_rfl) rfl).trans hv17)
              refine ls_fr hF ?_
              refine ls_val (v := .bool true) rfl rfl (by kernel_rfl) (fun w => by kernel_rfl) ?_
              exact ls_fin s0 (.bool true) (congrArg (fun z => upd z 46 _) hF.symm) ⟨rfl, rfl⟩ (sub_nil _)
            · refine ⟨fun o ho vs Rs f' S' w hp hf hx hS hR hs => ?_⟩
              obtain rfl := Option.some.inj ho
              obtain ⟨hv18, hR18⟩ := hp 18 (by kernel_rfl)
              refine And.intro (want_none rfl) (And.intro (fun _ => ?_) (fun h => by cases h))
              have hF := fr_next (rfl) ((hf 18 46 (by kernel_rfl) rfl).trans hv18)
              refine ls_fr hF ?_
              refine ls_val (v := .bool true) rfl rfl (by kernel_rfl) (fun w => by kernel_rfl) ?_
              exact ls_fin s0 (.bool true) (congrArg (fun z => upd z 47 _) hF.symm) ⟨rfl, rfl⟩ (sub_nil _)
            · refine ⟨fun o ho vs Rs f' S' w hp hf hx hS hR hs => ?_⟩
              obtain rfl := Option.some.inj ho
              obtain ⟨hv19, hR19⟩ := hp 19 (by kernel_rfl)
              refine And.intro (want_is (j := 19) (t := 47) rfl rfl (by kernel_rfl) ((hf 19 47 (by kernel_rfl) rfl).trans hv19) rfl) (And.intro (fun _ => ?_) (fun h => by cases h))
              have hF := fr_next (fr_next (rfl) ((hx 7 (by kernel_rfl)).trans (by kernel_rfl : (_ : Value) = .int .i64 t12.2.2))) ((hf 19 47 (by kernel_rfl) rfl).trans hv19)
              refine ls_fr hF ?_
              refine ls_val (v := .int .i64 t12.2.2) rfl rfl (by kernel_rfl) (fun w => by kernel_rfl) ?_
              exact ls_fin s0 (.int .i64 t12.2.2) (congrArg (fun z => upd z 48 _) hF.symm) ⟨rfl, rfl⟩ (sub_nil _)
            · refine ⟨fun o ho vs Rs f' S' w hp hf hx hS hR hs => ?_⟩
              obtain rfl := Option.some.inj ho
              obtain ⟨hv19, hR19⟩ := hp 19 (by kernel_rfl)
              refine And.intro (want_is (j := 19) (t := 47) rfl rfl (by kernel_rfl) ((hf 19 47 (by kernel_rfl) rfl).trans hv19) rfl) (And.intro (fun _ => ?_) (fun h => by cases h))
              have hF := fr_next (fr_next (rfl) ((hx 10 (by kernel_rfl)).trans (by kernel_rfl : (_ : Value) = .int .i64 t15.2.2))) ((hf 19 47 (by kernel_rfl) rfl).trans hv19)
              refine ls_fr hF ?_
              refine ls_val (v := .int .i64 t15.2.2) rfl rfl (by kernel_rfl) (fun w => by kernel_rfl) ?_
              exact ls_fin s0 (.int .i64 t15.2.2) (congrArg (fun z => upd z 49 _) hF.symm) ⟨rfl, rfl⟩ (sub_nil _)
          · intro vs Rs f' S' hp hf hx hS hR
            obtain ⟨x20, hv2, hR2⟩ := hp 2 (by kernel_rfl)
            have hT2_0 := (hR 2 0 (by kernel_rfl) (by decide)).trans (congrFun hR2 0)
            obtain ⟨x23, hv6, hR6⟩ := hp 6 (by kernel_rfl)
            have hT6_0 := (hR 6 0 (by kernel_rfl) (by decide)).trans (congrFun hR6 0)
            obtain ⟨hv19, hR19⟩ := hp 19 (by kernel_rfl)
            obtain ⟨hv20, hR20⟩ := hp 20 (by kernel_rfl)
            obtain ⟨hv21, hR21⟩ := hp 21 (by kernel_rfl)
            refine ls_fr (F := upd (upd (upd f' 47 (.bool true)) 48 (.int .i64 t12.2.2)) 49 (.int .i64 t15.2.2)) (fr_next (fr_next (fr_next (rfl) ((hf 19 47 (by kernel_rfl) rfl).trans hv19)) ((hf 20 48 (by kernel_rfl) rfl).trans hv20)) ((hf 21 49 (by kernel_rfl) rfl).trans hv21)) ?_
            refine ls_sub (s0) (sub_nil _) ?_
            refine ls_on (j := 19) (t := 47) (b := true) rfl rfl (by kernel_rfl) (by kernel_rfl) ?_
            refine ls_val (v := .bool (decide (t12.2.2 = t15.2.2))) rfl rfl (by kernel_rfl) (fun w => by kernel_rfl) ?_
            refine ls_val (v := .bool (decide (t12.2.2 = t15.2.2))) rfl rfl (by kernel_rfl) (fun w => by kernel_rfl) ?_
            refine ls_val (v := .bool (decide (t12.2.2 = t15.2.2))) rfl rfl (by kernel_rfl) (fun w => by kernel_rfl) ?_
            by_cases q27 : t12.2.2 = t15.2.2
            · replace H := ite_t q27 H
              refine ls_know (c := true) (dec_t q27) 52 (by kernel_rfl) ?_
              refine ls_on (j := 24) (t := 52) (b := true) rfl rfl (by kernel_rfl) (by kernel_rfl) ?_
              obtain ⟨t28, hc29, H⟩ := bind_some H
              refine ls_call (fid := 17) (vals := #[.slice none ([] : List Int).length 0, .int .u64 (300 : Int)]) (X := (Option Addr × Nat)) (fun x => .slice x.1 t28.length x.2) (fun x => sput s0 0 (some (Ck.sl 5 (Value.int .u8) x.1 x.2 t28))) 176 rfl rfl (by kernel_rfl) (fun w => by kernel_rfl) (fun w hs => codec_Short.calls k none 0 ([] : List Int) (300 : Int) t28 w (Rd.nil _ _) (Nat.le_refl 0) hc29) ?_
              intro x30
              refine ls_on (j := 24) (t := 52) (b := true) rfl rfl (by kernel_rfl) (by kernel_rfl) ?_
              refine ls_str (A := x30.1) (c := x30.2) (e := 5) (l := t28) rfl rfl (by kernel_rfl) rfl (by kernel_rfl) (by kernel_rfl) (by kernel_rfl) (by kernel_rfl) (fun w hs => (hs.rd (k := 176) (by exact rfl))) ?_
              refine ls_on (j := 24) (t := 52) (b := true) rfl rfl (by kernel_rfl) (by kernel_rfl) ?_
              refine ls_val (v := .bool ((strOfNums t28).toList == (⟨#[172, 2]⟩ : ByteArray).toList)) rfl rfl (by kernel_rfl) (fun w => by kernel_rfl) ?_
              refine ls_val (v := .bool ((strOfNums t28).toList == (⟨#[172, 2]⟩ : ByteArray).toList)) rfl rfl (by kernel_rfl) (fun w => by kernel_rfl) ?_
              refine ls_val (v := .bool ((strOfNums t28).toList == (⟨#[172, 2]⟩ : ByteArray).toList)) rfl rfl (by kernel_rfl) (fun w => by kernel_rfl) ?_
              by_cases q31 : ((strOfNums t28).toList == (⟨#[172, 2]⟩ : ByteArray).toList) = true
              · replace H := ite_t q31 H
                refine ls_know (c := true) (q31) 57 (by kernel_rfl) ?_
                refine ls_val (v := .bool true) rfl rfl (by kernel_rfl) (fun w => by kernel_rfl) ?_
                refine ls_val (v := .bool true) rfl rfl (by kernel_rfl) (fun w => by kernel_rfl) ?_
                refine ls_end ?_
                refine qn_then ?_
                refine cs_ret' ?_
                obtain rfl := Option.some.inj H
                refine qr_end1 rfl (fun w' hs => ⟨(), rfl, ?_⟩)
                exact hs.sub (sub_nil _)
              · replace H := ite_f q31 H
                refine ls_know (c := false) (Bool.eq_false_iff.mpr q31) 57 (by kernel_rfl) ?_
                refine ls_val (v := .bool false) rfl rfl (by kernel_rfl) (fun w => by kernel_rfl) ?_
                refine ls_val (v := .bool false) rfl rfl (by kernel_rfl) (fun w => by kernel_rfl) ?_
                refine ls_end ?_
                refine qn_then ?_
                refine cs_ret' ?_
                obtain rfl := Option.some.inj H
                refine qr_end1 rfl (fun w' hs => ⟨(), rfl, ?_⟩)
                exact hs.sub (sub_nil _)
            · replace H := ite_f q27 H
              refine ls_know (c := false) (dec_f q27) 52 (by kernel_rfl) ?_
              refine ls_off (j := 24) (t := 52) (b := true) (c := false) rfl rfl (by kernel_rfl) (by kernel_rfl) rfl rfl (by kernel_rfl) ?_
              refine ls_off (j := 24) (t := 52) (b := true) (c := false) rfl rfl (by kernel_rfl) (by kernel_rfl) rfl rfl (by kernel_rfl) ?_
              refine ls_off (j := 24) (t := 52) (b := true) (c := false) rfl rfl (by kernel_rfl) (by kernel_rfl) rfl rfl (by kernel_rfl) ?_
              refine ls_val (v := .bool false) rfl rfl (by kernel_rfl) (fun w => by kernel_rfl) ?_
              refine ls_val (v := .bool false) rfl rfl (by kernel_rfl) (fun w => by kernel_rfl) ?_
              refine ls_val (v := .bool false) rfl rfl (by kernel_rfl) (fun w => by kernel_rfl) ?_
              refine ls_val (v := .bool false) rfl rfl (by kernel_rfl) (fun w => by kernel_rfl) ?_
              refine ls_end ?_
              refine qn_then ?_
              refine cs_ret' ?_
              obtain rfl := Option.some.inj H
              refine qr_end1 rfl (fun w' hs => ⟨(), rfl, ?_⟩)
              exact hs.sub (sub_nil _)
        · replace H := ite_f q26 H
          refine cs_draw (l := [_, _, _, _, _, _, _, _, _, _, _, _, _, _, _, _, _, _, _, _, _, _, _, _, _, _, _, _, _, _, _, _]) [[], [], [0, 1], [0, 1, 2], [], [], [0, 1, 2, 4, 5], [0, 1, 2, 4, 5, 6], [0, 1, 2, 3, 4, 5, 6, 7], [0, 1, 2, 3, 4, 5, 6, 7, 8], [0, 1, 2, 3, 4, 5, 6, 7, 8, 9], [0, 1, 2, 3, 4, 5, 6, 7, 8, 9], [0, 1, 2, 3, 4, 5, 6, 7, 8, 9, 10, 11], [0, 1, 2, 3, 4, 5, 6, 7, 8, 9, 10, 11, 12], [0, 1, 2, 3, 4, 5, 6, 7, 8, 9, 10, 11, 12, 13], [0, 1, 2, 3, 4, 5, 6, 7, 8, 9, 10, 11, 12, 13, 14], [0, 1, 2, 3, 4, 5, 6, 7, 8, 9, 10, 11, 12, 13, 14], [0, 1, 2, 3, 4, 5, 6, 7, 8, 9, 10, 11, 12, 13, 14, 15, 16], [0, 1, 2, 3, 4, 5, 6, 7, 8, 9, 10, 11, 12, 13, 14, 15, 16, 17], [0, 1, 2, 3, 4, 5, 6, 7, 8, 9, 10, 11, 12, 13, 14, 15, 16, 17, 18], [0, 1, 2, 3, 4, 5, 6, 7, 8, 9, 10, 11, 12, 13, 14, 15, 16, 17, 18, 19], [0, 1, 2, 3, 4, 5, 6, 7, 8, 9, 10, 11, 12, 13, 14, 15, 16, 17, 18, 19], [0, 1, 2, 3, 4, 5, 6, 7, 8, 9, 10, 11, 12, 13, 14, 15, 16, 17, 18, 19, 20, 21], [0, 1, 2, 3, 4, 5, 6, 7, 8, 9, 10, 11, 12, 13, 14, 15, 16, 17, 18, 19, 20, 21, 22], [0, 1, 2, 3, 4, 5, 6, 7, 8, 9, 10, 11, 12, 13, 14, 15, 16, 17, 18, 19, 20, 21, 22, 23], [0, 1, 2, 3, 4, 5, 6, 7, 8, 9, 10, 11, 12, 13, 14, 15, 16, 17, 18, 19, 20, 21, 22, 23, 24], [0, 1, 2, 3, 4, 5, 6, 7, 8, 9, 10, 11, 12, 13, 14, 15, 16, 17, 18, 19, 20, 21, 22, 23, 24, 25], [0, 1, 2, 3, 4, 5, 6, 7, 8, 9, 10, 11, 12, 13, 14, 15, 16, 17, 18, 19, 20, 21, 22, 23, 24, 25, 26], [0, 1, 2, 3, 4, 5, 6, 7, 8, 9, 10, 11, 12, 13, 14, 15, 16, 17, 18, 19, 20, 21, 22, 23, 24, 25, 26, 27], [0, 1, 2, 3, 4, 5, 6, 7, 8, 9, 10, 11, 12, 13, 14, 15, 16, 17, 18, 19, 20, 21, 22, 23, 24, 25, 26, 27, 28], [0, 1, 2, 3, 4, 5, 6, 7, 8, 9, 10, 11, 12, 13, 14, 15, 16, 17, 18, 19, 20, 21, 22, 23, 24, 25, 26, 27, 28, 29], [0, 1, 2, 3, 4, 5, 6, 7, 8, 9, 10, 11, 12, 13, 14, 15, 16, 17, 18, 19, 20, 21, 22, 23, 24, 25, 26, 27, 28, 29, 30]] 22 0 (spl [fun v R => v = .slice xA3 xl7.length xc4 ∧ R = s0, fun v R => v = .int .u64 a1 ∧ R = s0, fun v R => ∃ x20 : (Option Addr × Nat), v = .slice x20.1 t18.length x20.2 ∧ R = sput s0 0 (some (Ck.sl 5 (Value.int .u8) x20.1 x20.2 t18)), fun v R => v = .string (strOfNums t18) ∧ R = s0, fun v R => v = .slice xA3 xl7.length xc4 ∧ R = s0, fun v R => v = .int .u64 a1 ∧ R = s0, fun v R => ∃ x23 : (Option Addr × Nat), v = .slice x23.1 t21.length x23.2 ∧ R = sput s0 0 (some (Ck.sl 5 (Value.int .u8) x23.1 x23.2 t21)), fun v R => v = .string (strOfNums t21) ∧ R = s0, fun v R => v = .bool true ∧ R = s0, fun v R => v = .bool true ∧ R = s0, fun v R => v = .int .u64 t12.1 ∧ R = s0, fun v R => v = .int .u64 t15.1 ∧ R = s0, fun v R => v = .bool true ∧ R = s0, fun v R => v = .bool true ∧ R = s0, fun v R => v = .bool true ∧ R = s0, fun v R => v = .int .i64 t12.2.1 ∧ R = s0, fun v R => v = .int .i64 t15.2.1 ∧ R = s0, fun v R => v = .bool false ∧ R = s0, fun v R => v = .bool false ∧ R = s0, fun v R => v = .bool false ∧ R = s0, fun v R => v = undef ∧ R = s0, fun v R => v = undef ∧ R = s0]) (onl [true, true, true, true, true, true, true, true, true, true, true, true, true, true, true, true, true, true, true, true, false, false]) (by kernel_rfl) (by kernel_rfl) (by kernel_rfl) (by kernel_rfl) (rs := [_, _, _, _, _, _, _, _, _, _]) rfl (by kernel_rfl) (by kernel_rfl) ?_ ?_
          · refine all_snoc (all_snoc (all_snoc (all_snoc (all_snoc (all_snoc (all_snoc (all_snoc (all_snoc (all_snoc (all_snoc (all_snoc (all_snoc (all_snoc (all_snoc (all_snoc (all_snoc (all_snoc (all_snoc (all_snoc (all_snoc (all_snoc (all_nil) ?_) ?_) ?_) ?_) ?_) ?_) ?_) ?_) ?_) ?_) ?_) ?_) ?_) ?_) ?_) ?_) ?_) ?_) ?_) ?_) ?_) ?_
            · refine ⟨fun o ho vs Rs f' S' w hp hf hx hS hR hs => ?_⟩
              obtain rfl := Option.some.inj ho
              refine And.intro (want_none rfl) (And.intro (fun _ => ?_) (fun h => by cases h))
              have hF := fr_next (rfl) ((hx 0 (by kernel_rfl)).trans (by kernel_rfl : (_ : Value) = .slice xA3 xl7.length xc4))
              refine ls_fr hF ?_
              refine ls_val (v := .slice xA3 xl7.length xc4) rfl rfl (by kernel_rfl) (fun w => by kernel_rfl) ?_
              exact ls_fin s0 (.slice xA3 xl7.length xc4) (congrArg (fun z => upd z 28 _) hF.symm) ⟨rfl, rfl⟩ (sub_nil _)
            · refine ⟨fun o ho vs Rs f' S' w hp hf hx hS hR hs => ?_⟩
              obtain rfl := Option.some.inj ho
              refine And.intro (want_none rfl) (And.intro (fun _ => ?_) (fun h => by cases h))
              have hF := fr_next (rfl) ((hx 1 (by kernel_rfl)).trans (by kernel_rfl : (_ : Value) = .int .u64 a1))
              refine ls_fr hF ?_
              refine ls_val (v := .int .u64 a1) rfl rfl (by kernel_rfl) (fun w => by kernel_rfl) ?_
              exact ls_fin s0 (.int .u64 a1) (congrArg (fun z => upd z 29 _) hF.symm) ⟨rfl, rfl⟩ (sub_nil _)
            · refine ⟨fun o ho vs Rs f' S' w hp hf hx hS hR hs => ?_⟩
              obtain rfl := Option.some.inj ho
              obtain ⟨hv0, hR0⟩ := hp 0 (by kernel_rfl)
              obtain ⟨hv1, hR1⟩ := hp 1 (by kernel_rfl)
              refine And.intro (want_none rfl) (And.intro (fun _ => ?_) (fun h => by cases h))
              have hF := fr_next (fr_next (rfl) ((hf 0 28 (by kernel_rfl) rfl).trans hv0)) ((hf 1 29 (by kernel_rfl) rfl).trans hv1)
              refine ls_fr hF ?_
              refine ls_call (fid := 17) (vals := #[.slice xA3 xl7.length xc4, .int .u64 a1]) (X := (Option Addr × Nat)) (fun x => .slice x.1 t18.length x.2) (fun x => sput s0 0 (some (Ck.sl 5 (Value.int .u8) x.1 x.2 t18))) 0 rfl rfl (by kernel_rfl) (fun w => by kernel_rfl) (fun w1 hs1 => codec_Short.calls k xA3 xc4 xl7 a1 t18 w1 (hs1.old (hs.old xR5)) xC6 hc19) ?_
              intro x20
              exact ls_fin (sput s0 0 (some (Ck.sl 5 (Value.int .u8) x20.1 x20.2 t18))) (.slice x20.1 t18.length x20.2) (congrArg (fun z => upd z 30 _) hF.symm) ⟨x20, rfl, rfl⟩ (sub_put (by exact rfl) (sub_nil _))
            · refine ⟨fun o ho vs Rs f' S' w hp hf hx hS hR hs => ?_⟩
              obtain rfl := Option.some.inj ho
              obtain ⟨x20, hv2, hR2⟩ := hp 2 (by kernel_rfl)
              have hT2_0 := (hR 2 0 (by kernel_rfl) (by decide)).trans (congrFun hR2 0)
              refine And.intro (want_none rfl) (And.intro (fun _ => ?_) (fun h => by cases h))
              have hF := fr_next (rfl) ((hf 2 30 (by kernel_rfl) rfl).trans hv2)
              refine ls_fr hF ?_
              refine ls_str (A := x20.1) (c := x20.2) (e := 5) (l := t18) rfl rfl (by kernel_rfl) rfl (by kernel_rfl) (by kernel_rfl) (by kernel_rfl) (by kernel_rfl) (fun w1 hs1 => (hs1.old (hs.rd (k := 16) hT2_0))) ?_
              exact ls_fin s0 (.string (strOfNums t18)) (congrArg (fun z => upd z 31 _) hF.symm) ⟨rfl, rfl⟩ (sub_nil _)
            · refine ⟨fun o ho vs Rs f' S' w hp hf hx hS hR hs => ?_⟩
              obtain rfl := Option.some.inj ho
              refine And.intro (want_none rfl) (And.intro (fun _ => ?_) (fun h => by cases h))
              have hF := fr_next (rfl) ((hx 0 (by kernel_rfl)).trans (by kernel_rfl : (_ : Value) = .slice xA3 xl7.length xc4))
              refine ls_fr hF ?_
              refine ls_val (v := .slice xA3 xl7.length xc4) rfl rfl (by kernel_rfl) (fun w => by kernel_rfl) ?_
              exact ls_fin s0 (.slice xA3 xl7.length xc4) (congrArg (fun z => upd z 32 _) hF.symm) ⟨rfl, rfl⟩ (sub_nil _)
            · refine ⟨fun o ho vs Rs f' S' w hp hf hx hS hR hs => ?_⟩
              obtain rfl := Option.some.inj ho
              refine And.intro (want_none rfl) (And.intro (fun _ => ?_) (fun h => by cases h))
              have hF := fr_next (rfl) ((hx 1 (by kernel_rfl)).trans (by kernel_rfl : (_ : Value) = .int .u64 a1))
              refine ls_fr hF ?_
              refine ls_val (v := .int .u64 a1) rfl rfl (by kernel_rfl) (fun w => by kernel_rfl) ?_
              exact ls_fin s0 (.int .u64 a1) (congrArg (fun z => upd z 33 _) hF.symm) ⟨rfl, rfl⟩ (sub_nil _)
            · refine ⟨fun o ho vs Rs f' S' w hp hf hx hS hR hs => ?_⟩
              obtain rfl := Option.some.inj ho
              obtain ⟨hv4, hR4⟩ := hp 4 (by kernel_rfl)
              obtain ⟨hv5, hR5⟩ := hp 5 (by kernel_rfl)
              refine And.intro (want_none rfl) (And.intro (fun _ => ?_) (fun h => by cases h))
              have hF := fr_next (fr_next (rfl) ((hf 4 32 (by kernel_rfl) rfl).trans hv4)) ((hf 5 33 (by kernel_rfl) rfl).trans hv5)
              refine ls_fr hF ?_
              refine ls_call (fid := 18) (vals := #[.slice xA3 xl7.length xc4, .int .u64 a1]) (X := (Option Addr × Nat)) (fun x => .slice x.1 t21.length x.2) (fun x => sput s0 0 (some (Ck.sl 5 (Value.int .u8) x.1 x.2 t21))) 0 rfl rfl (by kernel_rfl) (fun w => by kernel_rfl) (fun w1 hs1 => shadowboxref01_Short.calls k xA3 xc4 xl7 a1 t21 w1 (hs1.old (hs.old xR5)) xC6 hc22) ?_
              intro x23
              exact ls_fin (sput s0 0 (some (Ck.sl 5 (Value.int .u8) x23.1 x23.2 t21))) (.slice x23.1 t21.length x23.2) (congrArg (fun z => upd z 34 _) hF.symm) ⟨x23, rfl, rfl⟩ (sub_put (by exact rfl) (sub_nil _))
            · refine ⟨fun o ho vs Rs f' S' w hp hf hx hS hR hs => ?_⟩
              obtain rfl := Option.some.inj ho
              obtain ⟨x23, hv6, hR6⟩ := hp 6 (by kernel_rfl)
              have hT6_0 := (hR 6 0 (by kernel_rfl) (by decide)).trans (congrFun hR6 0)
              refine And.intro (want_none rfl) (And.intro (fun _ => ?_) (fun h => by cases h))
              have hF := fr_next (rfl) ((hf 6 34 (by kernel_rfl) rfl).trans hv6)
              refine ls_fr hF ?_
              refine ls_str (A := x23.1) (c := x23.2) (e := 5) (l := t21) rfl rfl (by kernel_rfl) rfl (by kernel_rfl) (by kernel_rfl) (by kernel_rfl) (by kernel_rfl) (fun w1 hs1 => (hs1.old (hs.rd (k := 48) hT6_0))) ?_
              exact ls_fin s0 (.string (strOfNums t21)) (congrArg (fun z => upd z 35 _) hF.symm) ⟨rfl, rfl⟩ (sub_nil _)
            · refine ⟨fun o ho vs Rs f' S' w hp hf hx hS hR hs => ?_⟩
              obtain rfl := Option.some.inj ho
              obtain ⟨hv3, hR3⟩ := hp 3 (by kernel_rfl)
              obtain ⟨hv7, hR7⟩ := hp 7 (by kernel_rfl)
              refine And.intro (want_none rfl) (And.intro (fun _ => ?_) (fun h => by cases h))
              have hF := fr_next (fr_next (rfl) ((hf 3 31 (by kernel_rfl) rfl).trans hv3)) ((hf 7 35 (by kernel_rfl) rfl).trans hv7)
              refine ls_fr hF ?_
              refine ls_val (v := .bool ((strOfNums t18).toList == (strOfNums t21).toList)) rfl rfl (by kernel_rfl) (fun w => by kernel_rfl) ?_
              refine ls_ren 36 (v := .bool ((strOfNums t18).toList == (strOfNums t21).toList)) (v' := .bool true) (by kernel_rfl) (congrArg Value.bool (show ((strOfNums t18).toList == (strOfNums t21).toList) = true from q24)) ?_
              exact ls_fin s0 (.bool true) ((upd_upd _ _ _ _).trans (congrArg (fun z => upd z 36 _) hF.symm)) ⟨rfl, rfl⟩ (sub_nil _)
            · refine ⟨fun o ho vs Rs f' S' w hp hf hx hS hR hs => ?_⟩
              obtain rfl := Option.some.inj ho
              obtain ⟨hv8, hR8⟩ := hp 8 (by kernel_rfl)
              refine And.intro (want_none rfl) (And.intro (fun _ => ?_) (fun h => by cases h))
              have hF := fr_next (rfl) ((hf 8 36 (by kernel_rfl) rfl).trans hv8)
              refine ls_fr hF ?_
              refine ls_val (v := .bool true) rfl rfl (by kernel_rfl) (fun w => by kernel_rfl) ?_
              exact ls_fin s0 (.bool true) (congrArg (fun z => upd z 37 _) hF.symm) ⟨rfl, rfl⟩ (sub_nil _)
            · refine ⟨fun o ho vs Rs f' S' w hp hf hx hS hR hs => ?_⟩
              obtain rfl := Option.some.inj ho
              obtain ⟨hv9, hR9⟩ := hp 9 (by kernel_rfl)
              refine And.intro (want_is (j := 9) (t := 37) rfl rfl (by kernel_rfl) ((hf 9 37 (by kernel_rfl) rfl).trans hv9) rfl) (And.intro (fun _ => ?_) (fun h => by cases h))
              have hF := fr_next (fr_next (rfl) ((hx 5 (by kernel_rfl)).trans (by kernel_rfl : (_ : Value) = .int .u64 t12.1))) ((hf 9 37 (by kernel_rfl) rfl).trans hv9)
              refine ls_fr hF ?_
              refine ls_val (v := .int .u64 t12.1) rfl rfl (by kernel_rfl) (fun w => by kernel_rfl) ?_
              exact ls_fin s0 (.int .u64 t12.1) (congrArg (fun z => upd z 38 _) hF.symm) ⟨rfl, rfl⟩ (sub_nil _)
            · refine ⟨fun o ho vs Rs f' S' w hp hf hx hS hR hs => ?_⟩
              obtain rfl := Option.some.inj ho
              obtain ⟨hv9, hR9⟩ := hp 9 (by kernel_rfl)
              refine And.intro (want_is (j := 9) (t := 37) rfl rfl (by kernel_rfl) ((hf 9 37 (by kernel_rfl) rfl).trans hv9) rfl) (And.intro (fun _ => ?_) (fun h => by cases h))
              have hF := fr_next (fr_next (rfl) ((hx 8 (by kernel_rfl)).trans (by kernel_rfl : (_ : Value) = .int .u64 t15.1))) ((hf 9 37 (by kernel_rfl) rfl).trans hv9)
              refine ls_fr hF ?_
              refine ls_val (v := .int .u64 t15.1) rfl rfl (by kernel_rfl) (fun w => by kernel_rfl) ?_
              exact ls_fin s0 (.int .u64 t15.1) (congrArg (fun z => upd z 39 _) hF.symm) ⟨rfl, rfl⟩ (sub_nil _)
            · refine ⟨fun o ho vs Rs f' S' w hp hf hx hS hR hs => ?_⟩
              obtain rfl := Option.some.inj ho
              obtain ⟨hv9, hR9⟩ := hp 9 (by kernel_rfl)
              obtain ⟨hv10, hR10⟩ := hp 10 (by kernel_rfl)
              obtain ⟨hv11, hR11⟩ := hp 11 (by kernel_rfl)
              refine And.intro (want_is (j := 9) (t := 37) rfl rfl (by kernel_rfl) ((hf 9 37 (by kernel_rfl) rfl).trans hv9) rfl) (And.intro (fun _ => ?_) (fun h => by cases h))
              have hF := fr_next (fr_next (fr_next (rfl) ((hf 9 37 (by kernel_rfl) rfl).trans hv9)) ((hf 10 38 (by kernel_rfl) rfl).trans hv10)) ((hf 11 39 (by kernel_rfl) rfl).trans hv11)
              refine ls_fr hF ?_
              refine ls_val (v := .bool (decide (t12.1 = t15.1))) rfl rfl (by kernel_rfl) (fun w => by kernel_rfl) ?_
              refine ls_ren 40 (v := .bool (decide (t12.1 = t15.1))) (v' := .bool true) (by kernel_rfl) (congrArg Value.bool (show (decide (t12.1 = t15.1)) = true from dec_t q25)) ?_
              exact ls_fin s0 (.bool true) ((upd_upd _ _ _ _).trans (congrArg (fun z => upd z 40 _) hF.symm)) ⟨rfl, rfl⟩ (sub_nil _)
            · refine ⟨fun o ho vs Rs f' S' w hp hf hx hS hR hs => ?_⟩
              obtain rfl := Option.some.inj ho
              obtain ⟨hv9, hR9⟩ := hp 9 (by kernel_rfl)
              obtain ⟨hv12, hR12⟩ := hp 12 (by kernel_rfl)
              refine And.intro (want_none rfl) (And.intro (fun _ => ?_) (fun h => by cases h))
              have hF := fr_next (fr_next (rfl) ((hf 9 37 (by kernel_rfl) rfl).trans hv9)) ((hf 12 40 (by kernel_rfl) rfl).trans hv12)
              refine ls_fr hF ?_
              refine ls_val (v := .bool true) rfl rfl (by kernel_rfl) (fun w => by kernel_rfl) ?_
              exact ls_fin s0 (.bool true) (congrArg (fun z => upd z 41 _) hF.symm) ⟨rfl, rfl⟩ (sub_nil _)
            · refine ⟨fun o ho vs Rs f' S' w hp hf hx hS hR hs => ?_⟩
              obtain rfl := Option.some.inj ho
              obtain ⟨hv13, hR13⟩ := hp 13 (by kernel_rfl)
              refine And.intro (want_none rfl) (And.intro (fun _ => ?_) (fun h => by cases h))
              have hF := fr_next (rfl) ((hf 13 41 (by kernel_rfl) rfl).trans hv13)
              refine ls_fr hF ?_
              refine ls_val (v := .bool true) rfl rfl (by kernel_rfl) (fun w => by kernel_rfl) ?_
              exact ls_fin s0 (.bool true) (congrArg (fun z => upd z 42 _) hF.symm) ⟨rfl, rfl⟩ (sub_nil _)
            · refine ⟨fun o ho vs Rs f' S' w hp hf hx hS hR hs => ?_⟩
              obtain rfl := Option.some.inj ho
              obtain ⟨hv14, hR14⟩ := hp 14 (by kernel_rfl)
              refine And.intro (want_is (j := 14) (t := 42) rfl rfl (by kernel_rfl) ((hf 14 42 (by kernel_rfl) rfl).trans hv14) rfl) (And.intro (fun _ => ?_) (fun h => by cases h))
              have hF := fr_next (fr_next (rfl) ((hx 6 (by kernel_rfl)).trans (by kernel_rfl : (_ : Value) = .int .i64 t12.2.1))) ((hf 14 42 (by kernel_rfl) rfl).trans hv14)
              refine ls_fr hF ?_
              refine ls_val (v := .int .i64 t12.2.1) rfl rfl (by kernel_rfl) (fun w => by kernel_rfl) ?_
              exact ls_fin s0 (.int .i64 t12.2.1) (congrArg (fun z => upd z 43 _) hF.symm) ⟨rfl, rfl⟩ (sub_nil _)
            · refine ⟨fun o ho vs Rs f' S' w hp hf hx hS hR hs => ?_⟩
              obtain rfl := Option.some.inj ho
              obtain ⟨hv14, hR14⟩ := hp 14 (by kernel_rfl)
              refine And.intro (want_is (j := 14) (t := 42) rfl rfl (by kernel_rfl) ((hf 14 42 (by kernel_rfl) rfl).trans hv14) rfl) (And.intro (fun _ => ?_) (fun h => by cases h))
              have hF := fr_next (fr_next (rfl) ((hx 9 (by kernel_rfl)).trans (by kernel_rfl : (_ : Value) = .int .i64 t15.2.1))) ((hf 14 42 (by kernel_rfl) rfl).trans hv14)
              refine ls_fr hF ?_
              refine ls_val (v := .int .i64 t15.2.1) rfl rfl (by kernel_rfl) (fun w => by kernel_rfl) ?_
              exact ls_fin s0 (.int .i64 t15.2.1) (congrArg (fun z => upd z 44 _) hF.symm) ⟨rfl, rfl⟩ (sub_nil _)
            · refine ⟨fun o ho vs Rs f' S' w hp hf hx hS hR hs => ?_⟩
              obtain rfl := Option.some.inj ho
              obtain ⟨hv14, hR14⟩ := hp 14 (by kernel_rfl)
              obtain ⟨hv15, hR15⟩ := hp 15 (by kernel_rfl)
              obtain ⟨hv16, hR16⟩ := hp 16 (by kernel_rfl)
              refine And.intro (want_is (j := 14) (t := 42) rfl rfl (by kernel_rfl) ((hf 14 42 (by kernel_rfl) rfl).trans hv14) rfl) (And.intro (fun _ => ?_) (fun h => by cases h))
              have hF := fr_next (fr_next (fr_next (rfl) ((hf 14 42 (by kernel_rfl) rfl).trans hv14)) ((hf 15 43 (by kernel_rfl) rfl).trans hv15)) ((hf 16 44 (by kernel_rfl) rfl).trans hv16)
              refine ls_fr hF ?_
              refine ls_val (v := .bool (decide (t12.2.1 = t15.2.1))) rfl rfl (by kernel_rfl) (fun w => by kernel_rfl) ?_
              refine ls_ren 45 (v := .bool (decide (t12.2.1 = t15.2.1))) (v' := .bool false) (by kernel_rfl) (congrArg Value.bool (show (decide (t12.2.1 = t15.2.1)) = false from dec_f q26)) ?_
              exact ls_fin s0 (.bool false) ((upd_upd _ _ _ _).trans (congrArg (fun z => upd z 45 _) hF.symm)) ⟨rfl, rfl⟩ (sub_nil _)
            · refine ⟨fun o ho vs Rs f' S' w hp hf hx hS hR hs => ?_⟩
              obtain rfl := Option.some.inj ho
              obtain ⟨hv14, hR14⟩ := hp 14 (by kernel_rfl)
              obtain ⟨hv17, hR17⟩ := hp 17 (by kernel_rfl)
              refine And.intro (want_none rfl) (And.intro (fun _ => ?_) (fun h => by cases h))
              have hF := fr_next (fr_next (rfl) ((hf 14 42 (by kernel_rfl) rfl).trans hv14)) ((hf 17 45 (by kernel_rfl) rfl).trans hv17)
              refine ls_fr hF ?_
              refine ls_val (v := .bool false) rfl rfl (by kernel_rfl) (fun w => by kernel_rfl) ?_
              exact ls_fin s0 (.bool false) (congrArg (fun z => upd z 46 _) hF.symm) ⟨rfl, rfl⟩ (sub_nil _)
            · refine ⟨fun o ho vs Rs f' S' w hp hf hx hS hR hs => ?_⟩
              obtain rfl := Option.some.inj ho
              obtain ⟨hv18, hR18⟩ := hp 18 (by kernel_rfl)
              refine And.intro (want_none rfl) (And.intro (fun _ => ?_) (fun h => by cases h))
              have hF := fr_next (rfl) ((hf 18 46 (by kernel_rfl) rfl).trans hv18)
              refine ls_fr hF ?_
              refine ls_val (v := .bool false) rfl rfl (by kernel_rfl) (fun w => by kernel_rfl) ?_
              exact ls_fin s0 (.bool false) (congrArg (fun z => upd z 47 _) hF.symm) ⟨rfl, rfl⟩ (sub_nil _)
            · refine ⟨fun o ho vs Rs f' S' w hp hf hx hS hR hs => ?_⟩
              obtain rfl := Option.some.inj ho
              obtain ⟨hv19, hR19⟩ := hp 19 (by kernel_rfl)
              refine And.intro ?_ (And.intro ?_ ?_)
              · exact want_is (j := 19) (t := 47) rfl rfl (by kernel_rfl) ((hf 19 47 (by kernel_rfl) rfl).trans hv19) rfl
              · intro h; cases h
              · intro _; exact ⟨rfl, rfl⟩
            · refine ⟨fun o ho vs Rs f' S' w hp hf hx hS hR hs => ?_⟩
              obtain rfl := Option.some.inj ho
              obtain ⟨hv19, hR19⟩ := hp 19 (by kernel_rfl)
              refine And.intro ?_ (And.intro ?_ ?_)
              · exact want_is (j := 19) (t := 47) rfl rfl (by kernel_rfl) ((hf 19 47 (by kernel_rfl) rfl).trans hv19) rfl
              · intro h; cases h
              · intro _; exact ⟨rfl, rfl⟩
          · intro vs Rs f' S' hp hf hx hS hR
            obtain ⟨x20, hv2, hR2⟩ := hp 2 (by kernel_rfl)
            have hT2_0 := (hR 2 0 (by kernel_rfl) (by decide)).trans (congrFun hR2 0)
            obtain ⟨x23, hv6, hR6⟩ := hp 6 (by kernel_rfl)
            have hT6_0 := (hR 6 0 (by kernel_rfl) (by decide)).trans (congrFun hR6 0)
            obtain ⟨hv19, hR19⟩ := hp 19 (by kernel_rfl)
            obtain ⟨hv20, hR20⟩ := hp 20 (by kernel_rfl)
            obtain ⟨hv21, hR21⟩ := hp 21 (by kernel_rfl)
            refine ls_fr (F := upd f' 47 (.bool false)) (fr_next (rfl) ((hf 19 47 (by kernel_rfl) rfl).trans hv19)) ?_
            refine ls_sub (s0) (sub_nil _) ?_
            refine ls_off (j := 19) (t := 47) (b := true) (c := false) rfl rfl (by kernel_rfl) (by kernel_rfl) rfl rfl (by kernel_rfl) ?_
            refine ls_val (v := .bool false) rfl rfl (by kernel_rfl) (fun w => by kernel_rfl) ?_
            refine ls_val (v := .bool false) rfl rfl (by kernel_rfl) (fun w => by kernel_rfl) ?_
            refine ls_off (j := 24) (t := 52) (b := true) (c := false) rfl rfl (by kernel_rfl) (by kernel_rfl) rfl rfl (by kernel_rfl) ?_
            refine ls_off (j := 24) (t := 52) (b := true) (c := false) rfl rfl (by kernel_rfl) (by kernel_rfl) rfl rfl (by kernel_rfl) ?_
            refine ls_off (j := 24) (t := 52) (b := true) (c := false) rfl rfl (by kernel_rfl) (by kernel_rfl) rfl rfl (by kernel_rfl) ?_
            refine ls_val (v := .bool false) rfl rfl (by kernel_rfl) (fun w => by kernel_rfl) ?_
            refine ls_val (v := .bool false) rfl rfl (by kernel_rfl) (fun w => by kernel_rfl) ?_
            refine ls_val (v := .bool false) rfl rfl (by kernel_rfl) (fun w => by kernel_rfl) ?_
            refine ls_val (v := .bool false) rfl rfl (by kernel_rfl) (fun w => by kernel_rfl) ?_
            refine ls_end ?_
            refine qn_then ?_
            refine cs_ret' ?_
            obtain rfl := Option.some.inj H
            refine qr_end1 rfl (fun w' hs => ⟨(), rfl, ?_⟩)
            exact hs.sub (sub_nil _)
      · replace H := ite_f q25 H
        refine cs_draw (l := [_, _, _, _, _, _, _, _, _, _, _, _, _, _, _, _, _, _, _, _, _, _, _, _, _, _, _, _, _, _, _, _]) [[], [], [0, 1], [0, 1, 2], [], [], [0, 1, 2, 4, 5], [0, 1, 2, 4, 5, 6], [0, 1, 2, 3, 4, 5, 6, 7], [0, 1, 2, 3, 4, 5, 6, 7, 8], [0, 1, 2, 3, 4, 5, 6, 7, 8, 9], [0, 1, 2, 3, 4, 5, 6, 7, 8, 9], [0, 1, 2, 3, 4, 5, 6, 7, 8, 9, 10, 11], [0, 1, 2, 3, 4, 5, 6, 7, 8, 9, 10, 11, 12], [0, 1, 2, 3, 4, 5, 6, 7, 8, 9, 10, 11, 12, 13], [0, 1, 2, 3, 4, 5, 6, 7, 8, 9, 10, 11, 12, 13, 14], [0, 1, 2, 3, 4, 5, 6, 7, 8, 9, 10, 11, 12, 13, 14], [0, 1, 2, 3, 4, 5, 6, 7, 8, 9, 10, 11, 12, 13, 14, 15, 16], [0, 1, 2, 3, 4, 5, 6, 7, 8, 9, 10, 11, 12, 13, 14, 15, 16, 17], [0, 1, 2, 3, 4, 5, 6, 7, 8, 9, 10, 11, 12, 13, 14, 15, 16, 17, 18], [0, 1, 2, 3, 4, 5, 6, 7, 8, 9, 10, 11, 12, 13, 14, 15, 16, 17, 18, 19], [0, 1, 2, 3, 4, 5, 6, 7, 8, 9, 10, 11, 12, 13, 14, 15, 16, 17, 18, 19], [0, 1, 2, 3, 4, 5, 6, 7, 8, 9, 10, 11, 12, 13, 14, 15, 16, 17, 18, 19, 20, 21], [0, 1, 2, 3, 4, 5, 6, 7, 8, 9, 10, 11, 12, 13, 14, 15, 16, 17, 18, 19, 20, 21, 22], [0, 1, 2, 3, 4, 5, 6, 7, 8, 9, 10, 11, 12, 13, 14, 15, 16, 17, 18, 19, 20, 21, 22, 23], [0, 1, 2, 3, 4, 5, 6, 7, 8, 9, 10, 11, 12, 13, 14, 15, 16, 17, 18, 19, 20, 21, 22, 23, 24], [0, 1, 2, 3, 4, 5, 6, 7, 8, 9, 10, 11, 12, 13, 14, 15, 16, 17, 18, 19, 20, 21, 22, 23, 24, 25], [0, 1, 2, 3, 4, 5, 6, 7, 8, 9, 10, 11, 12, 13, 14, 15, 16, 17, 18, 19, 20, 21, 22, 23, 24, 25, 26], [0, 1, 2, 3, 4, 5, 6, 7, 8, 9, 10, 11, 12, 13, 14, 15, 16, 17, 18, 19, 20, 21, 22, 23, 24, 25, 26, 27], [0, 1, 2, 3, 4, 5, 6, 7, 8, 9, 10, 11, 12, 13, 14, 15, 16, 17, 18, 19, 20, 21, 22, 23, 24, 25, 26, 27, 28], [0, 1, 2, 3, 4, 5, 6, 7, 8, 9, 10, 11, 12, 13, 14, 15, 16, 17, 18, 19, 20, 21, 22, 23, 24, 25, 26, 27, 28, 29], [0, 1, 2, 3, 4, 5, 6, 7, 8, 9, 10, 11, 12, 13, 14, 15, 16, 17, 18, 19, 20, 21, 22, 23, 24, 25, 26, 27, 28, 29, 30]] 22 0 (spl [fun v R => v = .slice xA3 xl7.length xc4 ∧ R = s0, fun v R => v = .int .u64 a1 ∧ R = s0, fun v R => ∃ x20 : (Option Addr × Nat), v = .slice x20.1 t18.length x20.2 ∧ R = sput s0 0 (some (Ck.sl 5 (Value.int .u8) x20.1 x20.2 t18)), fun v R => v = .string (strOfNums t18) ∧ R = s0, fun v R => v = .slice xA3 xl7.length xc4 ∧ R = s0, fun v R => v = .int .u64 a1 ∧ R = s0, fun v R => ∃ x23 : (Option Addr × Nat), v = .slice x23.1 t21.length x23.2 ∧ R = sput s0 0 (some (Ck.sl 5 (Value.int .u8) x23.1 x23.2 t21)), fun v R => v = .string (strOfNums t21) ∧ R = s0, fun v R => v = .bool true ∧ R = s0, fun v R => v = .bool true ∧ R = s0, fun v R => v = .int .u64 t12.1 ∧ R = s0, fun v R => v = .int .u64 t15.1 ∧ R = s0, fun v R => v = .bool false ∧ R = s0, fun v R => v = .bool false ∧ R = s0, fun v R => v = .bool false ∧ R = s0, fun v R => v = undef ∧ R = s0, fun v R => v = undef ∧ R = s0, fun v R => v = undef ∧ R = s0, fun v R => v = .bool false ∧ R = s0, fun v R => v = .bool false ∧ R = s0, fun v R => v = undef ∧ R = s0, fun v R => v = undef ∧ R = s0]) (onl [true, true, true, true, true, true, true, true, true, true, true, true, true, true, true, false, false, false, true, true, false, false]) (by kernel_rfl) (by kernel_rfl) (by kernel_rfl) (by kernel_rfl) (rs := [_, _, _, _, _, _, _, _, _, _]) rfl (by kernel_rfl) (by kernel_rfl) ?_ ?_
        · refine all_snoc (all_snoc (all_snoc (all_snoc (all_snoc (all_snoc (all_snoc (all_snoc (all_snoc (all_snoc (all_snoc (all_snoc (all_snoc (all_snoc (all_snoc (all_snoc (all_snoc (all_snoc (all_snoc (all_snoc (all_snoc (all_snoc (all_nil) ?_) ?_) ?_) ?_) ?_) ?_) ?_) ?_) ?_) ?_) ?_) ?_) ?_) ?_) ?_) ?_) ?_) ?_) ?_) ?_) ?_) ?_
          · refine ⟨fun o ho vs Rs f' S' w hp hf hx hS hR hs => ?_⟩
            obtain rfl := Option.some.inj ho
            refine And.intro (want_none rfl) (And.intro (fun _ => ?_) (fun h => by cases h))
            have hF := fr_next (rfl) ((hx 0 (by kernel_rfl)).trans (by kernel_rfl : (_ : Value) = .slice xA3 xl7.length xc4))
            refine ls_fr hF ?_
            refine ls_val (v := .slice xA3 xl7.length xc4) rfl rfl (by kernel_rfl) (fun w => by kernel_rfl) ?_
            exact ls_fin s0 (.slice xA3 xl7.length xc4) (congrArg (fun z => upd z 28 _) hF.symm) ⟨rfl, rfl⟩ (sub_nil _)
          · refine ⟨fun o ho vs Rs f' S' w hp hf hx hS hR hs => ?_⟩
            obtain rfl := Option.some.inj ho
            refine And.intro (want_none rfl) (And.intro (fun _ => ?_) (fun h => by cases h))
            have hF := fr_next (rfl) ((hx 1 (by kernel_rfl)).trans (by kernel_rfl : (_ : Value) = .int .u64 a1))
            refine ls_fr hF ?_
            refine ls_val (v := .int .u64 a1) rfl rfl (by kernel_rfl) (fun w => by kernel_rfl) ?_
            exact ls_fin s0 (.int .u64 a1) (congrArg (fun z => upd z 29 _) hF.symm) ⟨rfl, rfl⟩ (sub_nil _)
          · refine ⟨fun o ho vs Rs f' S' w hp hf hx hS hR hs => ?_⟩
            obtain rfl := Option.some.inj ho
            obtain ⟨hv0, hR0⟩ := hp 0 (by kernel_rfl)
            obtain ⟨hv1, hR1⟩ := hp 1 (by kernel_rfl)
            refine And.intro (want_none rfl) (And.intro (fun _ => ?_) (fun h => by cases h))
            have hF := fr_next (fr_next (rfl) ((hf 0 28 (by kernel_rfl) rfl).trans hv0)) ((hf 1 29 (by kernel_rfl) rfl).trans hv1)
            refine ls_fr hF ?_
            refine ls_call (fid := 17) (vals := #[.slice xA3 xl7.length xc4, .int .u64 a1]) (X := (Option Addr × Nat)) (fun x => .slice x.1 t18.length x.2) (fun x => sput s0 0 (some (Ck.sl 5 (Value.int .u8) x.1 x.2 t18))) 0 rfl rfl (by kernel_rfl) (fun w => by kernel_rfl) (fun w1 hs1 => codec_Short.calls k xA3 xc4 xl7 a1 t18 w1 (hs1.old (hs.old xR5)) xC6 hc19) ?_
            intro x20
            exact ls_fin (sput s0 0 (some (Ck.sl 5 (Value.int .u8) x20.1 x20.2 t18))) (.slice x20.1 t18.length x20.2) (congrArg (fun z => upd z 30 _) hF.symm) ⟨x20, rfl, rfl⟩ (sub_put (by exact rfl) (sub_nil _))
          · refine ⟨fun o ho vs Rs f' S' w hp hf hx hS hR hs => ?_⟩
            obtain rfl := Option.some.inj ho
            obtain ⟨x20, hv2, hR2⟩ := hp 2 (by kernel_rfl)
            have hT2_0 := (hR 2 0 (by kernel_rfl) (by decide)).trans (congrFun hR2 0)
            refine And.intro (want_none rfl) (And.intro (fun _ => ?_) (fun h => by cases h))
            have hF := fr_next (rfl) ((hf 2 30 (by kernel_rfl) rfl).trans hv2)
            refine ls_fr hF ?_
            refine ls_str (A := x20.1) (c := x20.2) (e := 5) (l := t18) rfl rfl (by kernel_rfl) rfl (by kernel_rfl) (by kernel_rfl) (by kernel_rfl) (by kernel_rfl) (fun w1 hs1 => (hs1.old (hs.rd (k := 16) hT2_0))) ?_
            exact ls_fin s0 (.string (strOfNums t18)) (congrArg (fun z => upd z 31 _) hF.symm) ⟨rfl, rfl⟩ (sub_nil _)
          · refine ⟨fun o ho vs Rs f' S' w hp hf hx hS hR hs => ?_⟩
            obtain rfl := Option.some.inj ho
            refine And.intro (want_none rfl) (And.intro (fun _ => ?_) (fun h => by cases h))
            have hF := fr_next (rfl) ((hx 0 (by kernel_rfl)).trans (by kernel_rfl : (_ : Value) = .slice xA3 xl7.length xc4))
            refine ls_fr hF ?_
            refine ls_val (v := .slice xA3 xl7.length xc4) rfl rfl (by kernel_rfl) (fun w => by kernel_rfl) ?_
            exact ls_fin s0 (.slice xA3 xl7.length xc4) (congrArg (fun z => upd z 32 _) hF.symm) ⟨rfl, rfl⟩ (sub_nil _)
          · refine ⟨fun o ho vs Rs f' S' w hp hf hx hS hR hs => ?_⟩
            obtain rfl := Option.some.inj ho
            refine And.intro (want_none rfl) (And.intro (fun _ => ?_) (fun h => by cases h))
            have hF := fr_next (rfl) ((hx 1 (by kernel_rfl)).trans (by kernel_rfl : (_ : Value) = .int .u64 a1))
            refine ls_fr hF ?_
            refine ls_val (v := .int .u64 a1) rfl rfl (by kernel_rfl) (fun w => by kernel_rfl) ?_
            exact ls_fin s0 (.int .u64 a1) (congrArg (fun z => upd z 33 _) hF.symm) ⟨rfl, rfl⟩ (sub_nil _)
          · refine ⟨fun o ho vs Rs f' S' w hp hf hx hS hR hs => ?_⟩
            obtain rfl := Option.some.inj ho
            obtain ⟨hv4, hR4⟩ := hp 4 (by kernel_rfl)
            obtain ⟨hv5, hR5⟩ := hp 5 (by kernel_rfl)
            refine And.intro (want_none rfl) (And.intro (fun _ => ?_) (fun h => by cases h))
            have hF := fr_next (fr_next (rfl) ((hf 4 32 (by kernel_rfl) rfl).trans hv4)) ((hf 5 33 (by kernel_rfl) rfl).trans hv5)
            refine ls_fr hF ?_
            refine ls_call (fid := 18) (vals := #[.slice xA3 xl7.length xc4, .int .u64 a1]) (X := (Option Addr × Nat)) (fun x => .slice x.1 t21.length x.2) (fun x => sput s0 0 (some (Ck.sl 5 (Value.int .u8) x.1 x.2 t21))) 0 rfl rfl (by kernel_rfl) (fun w => by kernel_rfl) (fun w1 hs1 => shadowboxref01_Short.calls k xA3 xc4 xl7 a1 t21 w1 (hs1.old (hs.old xR5)) xC6 hc22) ?_
            intro x23
            exact ls_fin (sput s0 0 (some (Ck.sl 5 (Value.int .u8) x23.1 x23.2 t21))) (.slice x23.1 t21.length x23.2) (congrArg (fun z => upd z 34 _) hF.symm) ⟨x23, rfl, rfl⟩ (sub_put (by exact rfl) (sub_nil _))
          · refine ⟨fun o ho vs Rs f' S' w hp hf hx hS hR hs => ?_⟩
            obtain rfl := Option.some.inj ho
            obtain ⟨x23, hv6, hR6⟩ := hp 6 (by kernel_rfl)
            have hT6_0 := (hR 6 0 (by kernel_rfl) (by decide)).trans (congrFun hR6 0)
            refine And.intro (want_none rfl) (And.intro (fun _ => ?_) (fun h => by cases h))
            have hF := fr_next (rfl) ((hf 6 34 (by kernel_rfl) rfl).trans hv6)
            refine ls_fr hF ?_
            refine ls_str (A := x23.1) (c := x23.2) (e := 5) (l := t21) rfl rfl (by kernel_rfl) rfl (by kernel_rfl) (by kernel_rfl) (by kernel_rfl) (by kernel_rfl) (fun w1 hs1 => (hs1.old (hs.rd (k := 48) hT6_0))) ?_
            exact ls_fin s0 (.string (strOfNums t21)) (congrArg (fun z => upd z 35 _) hF.symm) ⟨rfl, rfl⟩ (sub_nil _)
          · refine ⟨fun o ho vs Rs f' S' w hp hf hx hS hR hs => ?_⟩
            obtain rfl := Option.some.inj ho
            obtain ⟨hv3, hR3⟩ := hp 3 (by kernel_rfl)
            obtain ⟨hv7, hR7⟩ := hp 7 (by kernel_rfl)
            refine And.intro (want_none rfl) (And.intro (fun _ => ?_) (fun h => by cases h))
            have hF := fr_next (fr_next (rfl) ((hf 3 31 (by kernel_rfl) rfl).trans hv3)) ((hf 7 35 (by kernel_rfl) rfl).trans hv7)
            refine ls_fr hF ?_
            refine ls_val (v := .bool ((strOfNums t18).toList == (strOfNums t21).toList)) rfl rfl (by kernel_rfl) (fun w => by kernel_rfl) ?_
            refine ls_ren 36 (v := .bool ((strOfNums t18).toList == (strOfNums t21).toList)) (v' := .bool true) (by kernel_rfl) (congrArg Value.bool (show ((strOfNums t18).toList == (strOfNums t21).toList) = true from q24)) ?_
            exact ls_fin s0 (.bool true) ((upd_upd _ _ _ _).trans (congrArg (fun z => upd z 36 _) hF.symm)) ⟨rfl, rfl⟩ (sub_nil _)
          · refine ⟨fun o ho vs Rs f' S' w hp hf hx hS hR hs => ?_⟩
            obtain rfl := Option.some.inj ho
            obtain ⟨hv8, hR8⟩ := hp 8 (by kernel_rfl)
            refine And.intro (want_none rfl) (And.intro (fun _ => ?_) (fun h => by cases h))
            have hF := fr_next (rfl) ((hf 8 36 (by kernel_rfl) rfl).trans hv8)
            refine ls_fr hF ?_
            refine ls_val (v := .bool true) rfl rfl (by kernel_rfl) (fun w => by kernel_rfl) ?_
            exact ls_fin s0 (.bool true) (congrArg (fun z => upd z 37 _) hF.symm) ⟨rfl, rfl⟩ (sub_nil _)
          · refine ⟨fun o ho vs Rs f' S' w hp hf hx hS hR hs => ?_⟩
            obtain rfl := Option.some.inj ho
            obtain ⟨hv9, hR9⟩ := hp 9 (by kernel_rfl)
            refine And.intro (want_is (j := 9) (t := 37) rfl rfl (by kernel_rfl) ((hf 9 37 (by kernel_rfl) rfl).trans hv9) rfl) (And.intro (fun _ => ?_) (fun h => by cases h))
            have hF := fr_next (fr_next (rfl) ((hx 5 (by kernel_rfl)).trans (by kernel_rfl : (_ : Value) = .int .u64 t12.1))) ((hf 9 37 (by kernel_rfl) rfl).trans hv9)
            refine ls_fr hF ?_
            refine ls_val (v := .int .u64 t12.1) rfl rfl (by kernel_rfl) (fun w => by kernel_rfl) ?_
            exact ls_fin s0 (.int .u64 t12.1) (congrArg (fun z => upd z 38 _) hF.symm) ⟨rfl, rfl⟩ (sub_nil _)
          · refine ⟨fun o ho vs Rs f' S' w hp hf hx hS hR hs => ?_⟩
            obtain rfl := Option.some.inj ho
            obtain ⟨hv9, hR9⟩ := hp 9 (by kernel_rfl)
            refine And.intro (want_is (j := 9) (t := 37) rfl rfl (by kernel_rfl) ((hf 9 37 (by kernel_rfl) rfl).trans hv9) rfl) (And.intro (fun _ => ?_) (fun h => by cases h))
            have hF := fr_next (fr_next (rfl) ((hx 8 (by kernel_rfl)).trans (by kernel_rfl : (_ : Value) = .int .u64 t15.1))) ((hf 9 37 (by kernel_rfl) rfl).trans hv9)
            refine ls_fr hF ?_
            refine ls_val (v := .int .u64 t15.1) rfl rfl (by kernel_rfl) (fun w => by kernel_rfl) ?_
            exact ls_fin s0 (.int .u64 t15.1) (congrArg (fun z => upd z 39 _) hF.symm) ⟨rfl, rfl⟩ (sub_nil _)
          · refine ⟨fun o ho vs Rs f' S' w hp hf hx hS hR hs => ?_⟩
            obtain rfl := Option.some.inj ho
            obtain ⟨hv9, hR9⟩ := hp 9 (by kernel_rfl)
            obtain ⟨hv10, hR10⟩ := hp 10 (by kernel_rfl)
            obtain ⟨hv11, hR11⟩ := hp 11 (by kernel_rfl)
            refine And.intro (want_is (j := 9) (t := 37) rfl rfl (by kernel_rfl) ((hf 9 37 (by kernel_rfl) rfl).trans hv9) rfl) (And.intro (fun _ => ?_) (fun h => by cases h))
            have hF := fr_next (fr_next (fr_next (rfl) ((hf 9 37 (by kernel_rfl) rfl).trans hv9)) ((hf 10 38 (by kernel_rfl) rfl).trans hv10)) ((hf 11 39 (by kernel_rfl) rfl).trans hv11)
            refine ls_fr hF ?_
            refine ls_val (v := .bool (decide (t12.1 = t15.1))) rfl rfl (by kernel_rfl) (fun w => by kernel_rfl) ?_
            refine ls_ren 40 (v := .bool (decide (t12.1 = t15.1))) (v' := .bool false) (by kernel_rfl) (congrArg Value.bool (show (decide (t12.1 = t15.1)) = false from dec_f q25)) ?_
            exact ls_fin s0 (.bool false) ((upd_upd _ _ _ _).trans (congrArg (fun z => upd z 40 _) hF.symm)) ⟨rfl, rfl⟩ (sub_nil _)
          · refine ⟨fun o ho vs Rs f' S' w hp hf hx hS hR hs => ?_⟩
            obtain rfl := Option.some.inj ho
            obtain ⟨hv9, hR9⟩ := hp 9 (by kernel_rfl)
            obtain ⟨hv12, hR12⟩ := hp 12 (by kernel_rfl)
            refine And.intro (want_none rfl) (And.intro (fun _ => ?_) (fun h => by cases h))
            have hF := fr_next (fr_next (rfl) ((hf 9 37 (by kernel_rfl) rfl).trans hv9)) ((hf 12 40 (by kernel_rfl) rfl).trans hv12)
            refine ls_fr hF ?_
            refine ls_val (v := .bool false) rfl rfl (by kernel_rfl) (fun w => by kernel_rfl) ?_
            exact ls_fin s0 (.bool false) (congrArg (fun z => upd z 41 _) hF.symm) ⟨rfl, rfl⟩ (sub_nil _)
          · refine ⟨fun o ho vs Rs f' S' w hp hf hx hS hR hs => ?_⟩
            obtain rfl := Option.some.inj ho
            obtain ⟨hv13, hR13⟩ := hp 13 (by kernel_rfl)
            refine And.intro (want_none rfl) (And.intro (fun _ => ?_) (fun h => by cases h))
            have hF := fr_next (rfl) ((hf 13 41 (by kernel_rfl) rfl).trans hv13)
            refine ls_fr hF ?_
            refine ls_val (v := .bool false) rfl rfl (by kernel_rfl) (fun w => by kernel_rfl) ?_
            exact ls_fin s0 (.bool false) (congrArg (fun z => upd z 42 _) hF.symm) ⟨rfl, rfl⟩ (sub_nil _)
          · refine ⟨fun o ho vs Rs f' S' w hp hf hx hS hR hs => ?_⟩
            obtain rfl := Option.some.inj ho
            obtain ⟨hv14, hR14⟩ := hp 14 (by kernel_rfl)
            refine And.intro ?_ (And.intro ?_ ?_)
            · exact want_is (j := 14) (t := 42) rfl rfl (by kernel_rfl) ((hf 14 42 (by kernel_rfl) rfl).trans hv14) rfl
            · intro h; cases h
            · intro _; exact ⟨rfl, rfl⟩
          · refine ⟨fun o ho vs Rs f' S' w hp hf hx hS hR hs => ?_⟩
            obtain rfl := Option.some.inj ho
            obtain ⟨hv14, hR14⟩ := hp 14 (by kernel_rfl)
            refine And.intro ?_ (And.intro ?_ ?_)
            · exact want_is (j := 14) (t := 42) rfl rfl (by kernel_rfl) ((hf 14 42 (by kernel_rfl) rfl).trans hv14) rfl
            · intro h; cases h
            · intro _; exact ⟨rfl, rfl⟩
          · refine ⟨fun o ho vs Rs f' S' w hp hf hx hS hR hs => ?_⟩
            obtain rfl := Option.some.inj ho
            obtain ⟨hv14, hR14⟩ := hp 14 (by kernel_rfl)
            obtain ⟨hv15, hR15⟩ := hp 15 (by kernel_rfl)
            obtain ⟨hv16, hR16⟩ := hp 16 (by kernel_rfl)
            refine And.intro ?_ (And.intro ?_ ?_)
            · exact want_is (j := 14) (t := 42) rfl rfl (by kernel_rfl) ((hf 14 42 (by kernel_rfl) rfl).trans hv14) rfl
            · intro h; cases h
            · intro _; exact ⟨rfl, rfl⟩
          · refine ⟨fun o ho vs Rs f' S' w hp hf hx hS hR hs => ?_⟩
            obtain rfl := Option.some.inj ho
            obtain ⟨hv14, hR14⟩ := hp 14 (by kernel_rfl)
            obtain ⟨hv17, hR17⟩ := hp 17 (by kernel_rfl)
            refine And.intro (want_none rfl) (And.intro (fun _ => ?_) (fun h => by cases h))
            have hF := fr_next (fr_next (rfl) ((hf 14 42 (by kernel_rfl) rfl).trans hv14)) ((hf 17 45 (by kernel_rfl) rfl).trans hv17)
            refine ls_fr hF ?_
            refine ls_val (v := .bool false) rfl rfl (by kernel_rfl) (fun w => by kernel_rfl) ?_
            exact ls_fin s0 (.bool false) (congrArg (fun z => upd z 46 _) hF.symm) ⟨rfl, rfl⟩ (sub_nil _)
          · refine ⟨fun o ho vs Rs f' S' w hp hf hx hS hR hs => ?_⟩
            obtain rfl := Option.some.inj ho
            obtain ⟨hv18, hR18⟩ := hp 18 (by kernel_rfl)
            refine And.intro (want_none rfl) (And.intro (fun _ => ?_) (fun h => by cases h))
            have hF := fr_next (rfl) ((hf 18 46 (by kernel_rfl) rfl).trans hv18)
            refine ls_fr hF ?_
            refine ls_val (v := .bool false) rfl rfl (by kernel_rfl) (fun w => by kernel_rfl) ?_
            exact ls_fin s0 (.bool false) (congrArg (fun z => upd z 47 _) hF.symm) ⟨rfl, rfl⟩ (sub_nil _)
          · refine ⟨fun o ho vs Rs f' S' w hp hf hx hS hR hs => ?_⟩
            obtain rfl := Option.some.inj ho
            obtain ⟨hv19, hR19⟩ := hp 19 (by kernel_rfl)
            refine And.intro ?_ (And.intro ?_ ?_)
            · exact want_is (j := 19) (t := 47) rfl rfl (by kernel_rfl) ((hf 19 47 (by kernel_rfl) rfl).trans hv19) rfl
            · intro h; cases h
            · intro _; exact ⟨rfl, rfl⟩
          · refine ⟨fun o ho vs Rs f' S' w hp hf hx hS hR hs => ?_⟩
            obtain rfl := Option.some.inj ho
            obtain ⟨hv19, hR19⟩ := hp 19 (by kernel_rfl)
            refine And.intro ?_ (And.intro ?_ ?_)
            · exact want_is (j := 19) (t := 47) rfl rfl (by kernel_rfl) ((hf 19 47 (by kernel_rfl) rfl).trans hv19) rfl
            · intro h; cases h
            · intro _; exact ⟨rfl, rfl⟩
        · intro vs Rs f' S' hp hf hx hS hR
          obtain ⟨x20, hv2, hR2⟩ := hp 2 (by kernel_rfl)
          have hT2_0 := (hR 2 0 (by kernel_rfl) (by decide)).trans (congrFun hR2 0)
          obtain ⟨x23, hv6, hR6⟩ := hp 6 (by kernel_rfl)
          have hT6_0 := (hR 6 0 (by kernel_rfl) (by decide)).trans (congrFun hR6 0)
          obtain ⟨hv19, hR19⟩ := hp 19 (by kernel_rfl)
          obtain ⟨hv20, hR20⟩ := hp 20 (by kernel_rfl)
          obtain ⟨hv21, hR21⟩ := hp 21 (by kernel_rfl)
          refine ls_fr (F := upd f' 47 (.bool false)) (fr_next (rfl) ((hf 19 47 (by kernel_rfl) rfl).trans hv19)) ?_
          refine ls_sub (s0) (sub_nil _) ?_
          refine ls_off (j := 19) (t := 47) (b := true) (c := false) rfl rfl (by kernel_rfl) (by kernel_rfl) rfl rfl (by kernel_rfl) ?_
          refine ls_val (v := .bool false) rfl rfl (by kernel_rfl) (fun w => by kernel_rfl) ?_
          refine ls_val (v := .bool false) rfl rfl (by kernel_rfl) (fun w => by kernel_rfl) ?_
          refine ls_off (j := 24) (t := 52) (b := true) (c := false) rfl rfl (by kernel_rfl) (by kernel_rfl) rfl rfl (by kernel_rfl) ?_
          refine ls_off (j := 24) (t := 52) (b := true) (c := false) rfl rfl (by kernel_rfl) (by kernel_rfl) rfl rfl (by kernel_rfl) ?_
          refine ls_off (j := 24) (t := 52) (b := true) (c := false) rfl rfl (by kernel_rfl) (by kernel_rfl) rfl rfl (by kernel_rfl) ?_
          refine ls_val (v := .bool false) rfl rfl (by kernel_rfl) (fun w => by kernel_rfl) ?_
          refine ls_val (v := .bool false) rfl rfl (by kernel_rfl) (fun w => by kernel_rfl) ?_
          refine ls_val (v := .bool false) rfl rfl (by kernel_rfl) (fun w => by kernel_rfl) ?_
          refine ls_val (v := .bool false) rfl rfl (by kernel_rfl) (fun w => by kernel_rfl) ?_
          refine ls_end ?_
          refine qn_then ?_
          refine cs_ret' ?_
          obtain rfl := Option.some.inj H
          refine qr_end1 rfl (fun w' hs => ⟨(), rfl, ?_⟩)
          exact hs.sub (sub_nil _)
    · replace H := ite_f q24 H
      refine cs_draw (l := [_, _, _, _, _, _, _, _, _, _, _, _, _, _, _, _, _, _, _, _, _, _, _, _, _, _, _, _, _, _, _, _]) [[], [], [0, 1], [0, 1, 2], [], [], [0, 1, 2, 4, 5], [0, 1, 2, 4, 5, 6], [0, 1, 2, 3, 4, 5, 6, 7], [0, 1, 2, 3, 4, 5, 6, 7, 8], [0, 1, 2, 3, 4, 5, 6, 7, 8, 9], [0, 1, 2, 3, 4, 5, 6, 7, 8, 9], [0, 1, 2, 3, 4, 5, 6, 7, 8, 9, 10, 11], [0, 1, 2, 3, 4, 5, 6, 7, 8, 9, 10, 11, 12], [0, 1, 2, 3, 4, 5, 6, 7, 8, 9, 10, 11, 12, 13], [0, 1, 2, 3, 4, 5, 6, 7, 8, 9, 10, 11, 12, 13, 14], [0, 1, 2, 3, 4, 5, 6, 7, 8, 9, 10, 11, 12, 13, 14], [0, 1, 2, 3, 4, 5, 6, 7, 8, 9, 10, 11, 12, 13, 14, 15, 16], [0, 1, 2, 3, 4, 5, 6, 7, 8, 9, 10, 11, 12, 13, 14, 15, 16, 17], [0, 1, 2, 3, 4, 5, 6, 7, 8, 9, 10, 11, 12, 13, 14, 15, 16, 17, 18], [0, 1, 2, 3, 4, 5, 6, 7, 8, 9, 10, 11, 12, 13, 14, 15, 16, 17, 18, 19], [0, 1, 2, 3, 4, 5, 6, 7, 8, 9, 10, 11, 12, 13, 14, 15, 16, 17, 18, 19], [0, 1, 2, 3, 4, 5, 6, 7, 8, 9, 10, 11, 12, 13, 14, 15, 16, 17, 18, 19, 20, 21], [0, 1, 2, 3, 4, 5, 6, 7, 8, 9, 10, 11, 12, 13, 14, 15, 16, 17, 18, 19, 20, 21, 22], [0, 1, 2, 3, 4, 5, 6, 7, 8, 9, 10, 11, 12, 13, 14, 15, 16, 17, 18, 19, 20, 21, 22, 23], [0, 1, 2, 3, 4, 5, 6, 7, 8, 9, 10, 11, 12, 13, 14, 15, 16, 17, 18, 19, 20, 21, 22, 23, 24], [0, 1, 2, 3, 4, 5, 6, 7, 8, 9, 10, 11, 12, 13, 14, 15, 16, 17, 18, 19, 20, 21, 22, 23, 24, 25], [0, 1, 2, 3, 4, 5, 6, 7, 8, 9, 10, 11, 12, 13, 14, 15, 16, 17, 18, 19, 20, 21, 22, 23, 24, 25, 26], [0, 1, 2, 3, 4, 5, 6, 7, 8, 9, 10, 11, 12, 13, 14, 15, 16, 17, 18, 19, 20, 21, 22, 23, 24, 25, 26, 27], [0, 1, 2, 3, 4, 5, 6, 7, 8, 9, 10, 11, 12, 13, 14, 15, 16, 17, 18, 19, 20, 21, 22, 23, 24, 25, 26, 27, 28], [0, 1, 2, 3, 4, 5, 6, 7, 8, 9, 10, 11, 12, 13, 14, 15, 16, 17, 18, 19, 20, 21, 22, 23, 24, 25, 26, 27, 28, 29], [0, 1, 2, 3, 4, 5, 6, 7, 8, 9, 10, 11, 12, 13, 14, 15, 16, 17, 18, 19, 20, 21, 22, 23, 24, 25, 26, 27, 28, 29, 30]] 22 0 (spl [fun v R => v = .slice xA3 xl7.length xc4 ∧ R = s0, fun v R => v = .int .u64 a1 ∧ R = s0, fun v R => ∃ x20 : (Option Addr × Nat), v = .slice x20.1 t18.length x20.2 ∧ R = sput s0 0 (some (Ck.sl 5 (Value.int .u8) x20.1 x20.2 t18)), fun v R => v = .string (strOfNums t18) ∧ R = s0, fun v R => v = .slice xA3 xl7.length xc4 ∧ R = s0, fun v R => v = .int .u64 a1 ∧ R = s0, fun v R => ∃ x23 : (Option Addr × Nat), v = .slice x23.1 t21.length x23.2 ∧ R = sput s0 0 (some (Ck.sl 5 (Value.int .u8) x23.1 x23.2 t21)), fun v R => v = .string (strOfNums t21) ∧ R = s0, fun v R => v = .bool false ∧ R = s0, fun v R => v = .bool false ∧ R = s0, fun v R => v = undef ∧ R = s0, fun v R => v = undef ∧ R = s0, fun v R => v = undef ∧ R = s0, fun v R => v = .bool false ∧ R = s0, fun v R => v = .bool false ∧ R = s0, fun v R => v = undef ∧ R = s0, fun v R => v = undef ∧ R = s0, fun v R => v = undef ∧ R = s0, fun v R => v = .bool false ∧ R = s0, fun v R => v = .bool false ∧ R = s0, fun v R => v = undef ∧ R = s0, fun v R => v = undef ∧ R = s0]) (onl [true, true, true, true, true, true, true, true, true, true, false, false, false, true, true, false, false, false, true, true, false, false]) (by kernel_rfl) (by kernel_rfl) (by kernel_rfl) (by kernel_rfl) (rs := [_, _, _, _, _, _, _, _, _, _]) rfl (by kernel_rfl) (by kernel_rfl) ?_ ?_
      · refine all_snoc (all_snoc (all_snoc (all_snoc (all_snoc (all_snoc (all_snoc (all_snoc (all_snoc (all_snoc (all_snoc (all_snoc (all_snoc (all_snoc (all_snoc (all_snoc (all_snoc (all_snoc (all_snoc (all_snoc (all_snoc (all_snoc (all_nil) ?_) ?_) ?_) ?_) ?_) ?_) ?_) ?_) ?_) ?_) ?_) ?_) ?_) ?_) ?_) ?_) ?_) ?_) ?_) ?_) ?_) ?_
        · refine ⟨fun o ho vs Rs f' S' w hp hf hx hS hR hs => ?_⟩
          obtain rfl := Option.some.inj ho
          refine And.intro (want_none rfl) (And.intro (fun _ => ?_) (fun h => by cases h))
          have hF := fr_next (rfl) ((hx 0 (by kernel_rfl)).trans (by kernel_rfl : (_ : Value) = .slice xA3 xl7.length xc4))
          refine ls_fr hF ?_
          refine ls_val (v := .slice xA3 xl7.length xc4) rfl rfl (by kernel_rfl) (fun w => by kernel_rfl) ?_
          exact ls_fin s0 (.slice xA3 xl7.length xc4) (congrArg (fun z => upd z 28 _) hF.symm) ⟨rfl, rfl⟩ (sub_nil _)
        · refine ⟨fun o ho vs Rs f' S' w hp hf hx hS hR hs => ?_⟩
          obtain rfl := Option.some.inj ho
          refine And.intro (want_none rfl) (And.intro (fun _ => ?_) (fun h => by cases h))
          have hF := fr_next (rfl) ((hx 1 (by kernel_rfl)).trans (by kernel_rfl : (_ : Value) = .int .u64 a1))
          refine ls_fr hF ?_
          refine ls_val (v := .int .u64 a1) rfl rfl (by kernel_rfl) (fun w => by kernel_rfl) ?_
          exact ls_fin s0 (.int .u64 a1) (congrArg (fun z => upd z 29 _) hF.symm) ⟨rfl, rfl⟩ (sub_nil _)
        · refine ⟨fun o ho vs Rs f' S' w hp hf hx hS hR hs => ?_⟩
          obtain rfl := Option.some.inj ho
          obtain ⟨hv0, hR0⟩ := hp 0 (by kernel_rfl)
          obtain ⟨hv1, hR1⟩ := hp 1 (by kernel_rfl)
          refine And.intro (want_none rfl) (And.intro (fun _ => ?_) (fun h => by cases h))
          have hF := fr_next (fr_next (rfl) ((hf 0 28 (by kernel_rfl) rfl).trans hv0)) ((hf 1 29 (by kernel_rfl) rfl).trans hv1)
          refine ls_fr hF ?_
          refine ls_call (fid := 17) (vals := #[.slice xA3 xl7.length xc4, .int .u64 a1]) (X := (Option Addr × Nat)) (fun x => .slice x.1 t18.length x.2) (fun x => sput s0 0 (some (Ck.sl 5 (Value.int .u8) x.1 x.2 t18))) 0 rfl rfl (by kernel_rfl) (fun w => by kernel_rfl) (fun w1 hs1 => codec_Short.calls k xA3 xc4 xl7 a1 t18 w1 (hs1.old (hs.old xR5)) xC6 hc19) ?_
          intro x20
          exact ls_fin (sput s0 0 (some (Ck.sl 5 (Value.int .u8) x20.1 x20.2 t18))) (.slice x20.1 t18.length x20.2) (congrArg (fun z => upd z 30 _) hF.symm) ⟨x20, rfl, rfl⟩ (sub_put (by exact rfl) (sub_nil _))
        · refine ⟨fun o ho vs Rs f' S' w hp hf hx hS hR hs => ?_⟩
          obtain rfl := Option.some.inj ho
          obtain ⟨x20, hv2, hR2⟩ := hp 2 (by kernel_rfl)
          have hT2_0 := (hR 2 0 (by kernel_rfl) (by decide)).trans (congrFun hR2 0)
          refine And.intro (want_none rfl) (And.intro (fun _ => ?_) (fun h => by cases h))
          have hF := fr_next (rfl) ((hf 2 30 (by kernel_rfl) rfl).trans hv2)
          refine ls_fr hF ?_
          refine ls_str (A := x20.1) (c := x20.2) (e := 5) (l := t18) rfl rfl (by kernel_rfl) rfl (by kernel_rfl) (by kernel_rfl) (by kernel_rfl) (by kernel_rfl) (fun w1 hs1 => (hs1.old (hs.rd (k := 16) hT2_0))) ?_
          exact ls_fin s0 (.string (strOfNums t18)) (congrArg (fun z => upd z 31 _) hF.symm) ⟨rfl, rfl⟩ (sub_nil _)
        · refine ⟨fun o ho vs Rs f' S' w hp hf hx hS hR hs => ?_⟩
          obtain rfl := Option.some.inj ho
          refine And.intro (want_none rfl) (And.intro (fun _ => ?_) (fun h => by cases h))
          have hF := fr_next (rfl) ((hx 0 (by kernel_rfl)).trans (by kernel_rfl : (_ : Value) = .slice xA3 xl7.length xc4))
          refine ls_fr hF ?_
          refine ls_val (v := .slice xA3 xl7.length xc4) rfl rfl (by kernel_rfl) (fun w => by kernel_rfl) ?_
          exact ls_fin s0 (.slice xA3 xl7.length xc4) (congrArg (fun z => upd z 32 _) hF.symm) ⟨rfl, rfl⟩ (sub_nil _)
        · refine ⟨fun o ho vs Rs f' S' w hp hf hx hS hR hs => ?_⟩
          obtain rfl := Option.some.inj ho
          refine And.intro (want_none rfl) (And.intro (fun _ => ?_) (fun h => by cases h))
          have hF := fr_next (rfl) ((hx 1 (by kernel_rfl)).trans (by kernel_rfl : (_ : Value) = .int .u64 a1))
          refine ls_fr hF ?_
          refine ls_val (v := .int .u64 a1) rfl rfl (by kernel_rfl) (fun w => by kernel_rfl) ?_
          exact ls_fin s0 (.int .u64 a1) (congrArg (fun z => upd z 33 _) hF.symm) ⟨rfl, rfl⟩ (sub_nil _)
        · refine ⟨fun o ho vs Rs f' S' w hp hf hx hS hR hs => ?_⟩
          obtain rfl := Option.some.inj ho
          obtain ⟨hv4, hR4⟩ := hp 4 (by kernel_rfl)
          obtain ⟨hv5, hR5⟩ := hp 5 (by kernel_rfl)
          refine And.intro (want_none rfl) (And.intro (fun _ => ?_) (fun h => by cases h))
          have hF := fr_next (fr_next (rfl) ((hf 4 32 (by kernel_rfl) rfl).trans hv4)) ((hf 5 33 (by kernel_rfl) rfl).trans hv5)
          refine ls_fr hF ?_
          refine ls_call (fid := 18) (vals := #[.slice xA3 xl7.length xc4, .int .u64 a1]) (X := (Option Addr × Nat)) (fun x => .slice x.1 t21.length x.2) (fun x => sput s0 0 (some (Ck.sl 5 (Value.int .u8) x.1 x.2 t21))) 0 rfl rfl (by kernel_rfl) (fun w => by kernel_rfl) (fun w1 hs1 => shadowboxref01_Short.calls k xA3 xc4 xl7 a1 t21 w1 (hs1.old (hs.old xR5)) xC6 hc22) ?_
          intro x23
          exact ls_fin (sput s0 0 (some (Ck.sl 5 (Value.int .u8) x23.1 x23.2 t21))) (.slice x23.1 t21.length x23.2) (congrArg (fun z => upd z 34 _) hF.symm) ⟨x23, rfl, rfl⟩ (sub_put (by exact rfl) (sub_nil _))
        · refine ⟨fun o ho vs Rs f' S' w hp hf hx hS hR hs => ?_⟩
          obtain rfl := Option.some.inj ho
          obtain ⟨x23, hv6, hR6⟩ := hp 6 (by kernel_rfl)
          have hT6_0 := (hR 6 0 (by kernel_rfl) (by decide)).trans (congrFun hR6 0)
          refine And.intro (want_none rfl) (And.intro (fun _ => ?_) (fun h => by cases h))
          have hF := fr_next (rfl) ((hf 6 34 (by kernel_rfl) rfl).trans hv6)
          refine ls_fr hF ?_
          refine ls_str (A := x23.1) (c := x23.2) (e := 5) (l := t21) rfl rfl (by kernel_rfl) rfl (by kernel_rfl) (by kernel_rfl) (by kernel_rfl) (by kernel_rfl) (fun w1 hs1 => (hs1.old (hs.rd (k := 48) hT6_0))) ?_
          exact ls_fin s0 (.string (strOfNums t21)) (congrArg (fun z => upd z 35 _) hF.symm) ⟨rfl, rfl⟩ (sub_nil _)
        · refine ⟨fun o ho vs Rs f' S' w hp hf hx hS hR hs => ?_⟩
          obtain rfl := Option.some.inj ho
          obtain ⟨hv3, hR3⟩ := hp 3 (by kernel_rfl)
          obtain ⟨hv7, hR7⟩ := hp 7 (by kernel_rfl)
          refine And.intro (want_none rfl) (And.intro (fun _ => ?_) (fun h => by cases h))
          have hF := fr_next (fr_next (rfl) ((hf 3 31 (by kernel_rfl) rfl).trans hv3)) ((hf 7 35 (by kernel_rfl) rfl).trans hv7)
          refine ls_fr hF ?_
          refine ls_val (v := .bool ((strOfNums t18).toList == (strOfNums t21).toList)) rfl rfl (by kernel_rfl) (fun w => by kernel_rfl) ?_
          refine ls_ren 36 (v := .bool ((strOfNums t18).toList == (strOfNums t21).toList)) (v' := .bool false) (by kernel_rfl) (congrArg Value.bool (show ((strOfNums t18).toList == (strOfNums t21).toList) = false from Bool.eq_false_iff.mpr q24)) ?_
          exact ls_fin s0 (.bool false) ((upd_upd _ _ _ _).trans (congrArg (fun z => upd z 36 _) hF.symm)) ⟨rfl, rfl⟩ (sub_nil _)
        · refine ⟨fun o ho vs Rs f' S' w hp hf hx hS hR hs => ?_⟩
          obtain rfl := Option.some.inj ho
          obtain ⟨hv8, hR8⟩ := hp 8 (by kernel_rfl)
          refine And.intro (want_none rfl) (And.intro (fun _ => ?_) (fun h => by cases h))
          have hF := fr_next (rfl) ((hf 8 36 (by kernel_rfl) rfl).trans hv8)
          refine ls_fr hF ?_
          refine ls_val (v := .bool false) rfl rfl (by kernel_rfl) (fun w => by kernel_rfl) ?_
          exact ls_fin s0 (.bool false) (congrArg (fun z => upd z 37 _) hF.symm) ⟨rfl, rfl⟩ (sub_nil _)
        · refine ⟨fun o ho vs Rs f' S' w hp hf hx hS hR hs => ?_⟩
          obtain rfl := Option.some.inj ho
          obtain ⟨hv9, hR9⟩ := hp 9 (by kernel_rfl)
          refine And.intro ?_ (And.intro ?_ ?_)
          · exact want_is (j := 9) (t := 37) rfl rfl (by kernel_rfl) ((hf 9 37 (by kernel_rfl) rfl).trans hv9) rfl
          · intro h; cases h
          · intro _; exact ⟨rfl, rfl⟩
        · refine ⟨fun o ho vs Rs f' S' w hp hf hx hS hR hs => ?_⟩
          obtain rfl := Option.some.inj ho
          obtain ⟨hv9, hR9⟩ := hp 9 (by kernel_rfl)
          refine And.intro ?_ (And.intro ?_ ?_)
          · exact want_is (j := 9) (t := 37) rfl rfl (by kernel_rfl) ((hf 9 37 (by kernel_rfl) rfl).trans hv9) rfl
          · intro h; cases h
          · intro _; exact ⟨rfl, rfl⟩
        · refine ⟨fun o ho vs Rs f' S' w hp hf hx hS hR hs => ?_⟩
          obtain rfl := Option.some.inj ho
          obtain ⟨hv9, hR9⟩ := hp 9 (by kernel_rfl)
          obtain ⟨hv10, hR10⟩ := hp 10 (by kernel_rfl)
          obtain ⟨hv11, hR11⟩ := hp 11 (by kernel_rfl)
          refine And.intro ?_ (And.intro ?_ ?_)
          · exact want_is (j := 9) (t := 37) rfl rfl (by kernel_rfl) ((hf 9 37 (by kernel_rfl) rfl).trans hv9) rfl
          · intro h; cases h
          · intro _; exact ⟨rfl, rfl⟩
        · refine ⟨fun o ho vs Rs f' S' w hp hf hx hS hR hs => ?_⟩
          obtain rfl := Option.some.inj ho
          obtain ⟨hv9, hR9⟩ := hp 9 (by kernel_rfl)
          obtain ⟨hv12, hR12⟩ := hp 12 (by kernel_rfl)
          refine And.intro (want_none rfl) (And.intro (fun _ => ?_) (fun h => by cases h))
          have hF := fr_next (fr_next (rfl) ((hf 9 37 (by kernel_rfl) rfl).trans hv9)) ((hf 12 40 (by kernel_rfl) rfl).trans hv12)
          refine ls_fr hF ?_
          refine ls_val (v := .bool false) rfl rfl (by kernel_rfl) (fun w => by kernel_rfl) ?_
          exact ls_fin s0 (.bool false) (congrArg (fun z => upd z 41 _) hF.symm) ⟨rfl, rfl⟩ (sub_nil _)
        · refine ⟨fun o ho vs Rs f' S' w hp hf hx hS hR hs => ?_⟩
          obtain rfl := Option.some.inj ho
          obtain ⟨hv13, hR13⟩ := hp 13 (by kernel_rfl)
          refine And.intro (want_none rfl) (And.intro (fun _ => ?_) (fun h => by cases h))
          have hF := fr_next (rfl) ((hf 13 41 (by kernel_rfl) rfl).trans hv13)
          refine ls_fr hF ?_
          refine ls_val (v := .bool false) rfl rfl (by kernel_rfl) (fun w => by kernel_rfl) ?_
          exact ls_fin s0 (.bool false) (congrArg (fun z => upd z 42 _) hF.symm) ⟨rfl, rfl⟩ (sub_nil _)
        · refine ⟨fun o ho vs Rs f' S' w hp hf hx hS hR hs => ?_⟩
          obtain rfl := Option.some.inj ho
          obtain ⟨hv14, hR14⟩ := hp 14 (by kernel_rfl)
          refine And.intro ?_ (And.intro ?_ ?_)
          · exact want_is (j := 14) (t := 42) rfl rfl (by kernel_rfl) ((hf 14 42 (by kernel_rfl) rfl).trans hv14) rfl
          · intro h; cases h
          · intro _; exact ⟨rfl, rfl⟩
        · refine ⟨fun o ho vs Rs f' S' w hp hf hx hS hR hs => ?_⟩
          obtain rfl := Option.some.inj ho
          obtain ⟨hv14, hR14⟩ := hp 14 (by kernel_rfl)
          refine And.intro ?_ (And.intro ?_ ?_)
          · exact want_is (j := 14) (t := 42) rfl rfl (by kernel_rfl) ((hf 14 42 (by kernel_rfl) rfl).trans hv14) rfl
          · intro h; cases h
          · intro _; exact ⟨rfl, rfl⟩
        · refine ⟨fun o ho vs Rs f' S' w hp hf hx hS hR hs => ?_⟩
          obtain rfl := Option.some.inj ho
          obtain ⟨hv14, hR14⟩ := hp 14 (by kernel_rfl)
          obtain ⟨hv15, hR15⟩ := hp 15 (by kernel_rfl)
          obtain ⟨hv16, hR16⟩ := hp 16 (by kernel_rfl)
          refine And.intro ?_ (And.intro ?_ ?_)
          · exact want_is (j := 14) (t := 42) rfl rfl (by kernel_rfl) ((hf 14 42 (by kernel_rfl) rfl).trans hv14) rfl
          · intro h; cases h
          · intro _; exact ⟨rfl, rfl⟩
        · refine ⟨fun o ho vs Rs f' S' w hp hf hx hS hR hs => ?_⟩
          obtain rfl := Option.some.inj ho
          obtain ⟨hv14, hR14⟩ := hp 14 (by kernel_rfl)
          obtain ⟨hv17, hR17⟩ := hp 17 (by kernel_rfl)
          refine And.intro (want_none rfl) (And.intro (fun _ => ?_) (fun h => by cases h))
          have hF := fr_next (fr_next (rfl) ((hf 14 42 (by kernel_rfl) rfl).trans hv14)) ((hf 17 45 (by kernel_rfl) rfl).trans hv17)
          refine ls_fr hF ?_
          refine ls_val (v := .bool false) rfl rfl (by kernel_rfl) (fun w => by kernel_rfl) ?_
          exact ls_fin s0 (.bool false) (congrArg (fun z => upd z 46 _) hF.symm) ⟨rfl, rfl⟩ (sub_nil _)
        · refine ⟨fun o ho vs Rs f' S' w hp hf hx hS hR hs => ?_⟩
          obtain rfl := Option.some.inj ho
          obtain ⟨hv18, hR18⟩ := hp 18 (by kernel_rfl)
          refine And.intro (want_none rfl) (And.intro (fun _ => ?_) (fun h => by cases h))
          have hF := fr_next (rfl) ((hf 18 46 (by kernel_rfl) rfl).trans hv18)
          refine ls_fr hF ?_
          refine ls_val (v := .bool false) rfl rfl (by kernel_rfl) (fun w => by kernel_rfl) ?_
          exact ls_fin s0 (.bool false) (congrArg (fun z => upd z 47 _) hF.symm) ⟨rfl, rfl⟩ (sub_nil _)
        · refine ⟨fun o ho vs Rs f' S' w hp hf hx hS hR hs => ?_⟩
          obtain rfl := Option.some.inj ho
          obtain ⟨hv19, hR19⟩ := hp 19 (by kernel_rfl)
          refine And.intro ?_ (And.intro ?_ ?_)
          · exact want_is (j := 19) (t := 47) rfl rfl (by kernel_rfl) ((hf 19 47 (by kernel_rfl) rfl).trans hv19) rfl
          · intro h; cases h
          · intro _; exact ⟨rfl, rfl⟩
        · refine ⟨fun o ho vs Rs f' S' w hp hf hx hS hR hs => ?_⟩
          obtain rfl := Option.some.inj ho
          obtain ⟨hv19, hR19⟩ := hp 19 (by kernel_rfl)
          refine And.intro ?_ (And.intro ?_ ?_)
          · exact want_is (j := 19) (t := 47) rfl rfl (by kernel_rfl) ((hf 19 47 (by kernel_rfl) rfl).trans hv19) rfl
          · intro h; cases h
          · intro _; exact ⟨rfl, rfl⟩
      · intro vs Rs f' S' hp hf hx hS hR
        obtain ⟨x20, hv2, hR2⟩ := hp 2 (by kernel_rfl)
        have hT2_0 := (hR 2 0 (by kernel_rfl) (by decide)).trans (congrFun hR2 0)
        obtain ⟨x23, hv6, hR6⟩ := hp 6 (by kernel_rfl)
        have hT6_0 := (hR 6 0 (by kernel_rfl) (by decide)).trans (congrFun hR6 0)
        obtain ⟨hv19, hR19⟩ := hp 19 (by kernel_rfl)
        obtain ⟨hv20, hR20⟩ := hp 20 (by kernel_rfl)
        obtain ⟨hv21, hR21⟩ := hp 21 (by kernel_rfl)
        refine ls_fr (F := upd f' 47 (.bool false)) (fr_next (rfl) ((hf 19 47 (by kernel_rfl) rfl).trans hv19)) ?_
        refine ls_sub (s0) (sub_nil _) ?_
        refine ls_off (j := 19) (t := 47) (b := true) (c := false) rfl rfl (by kernel_rfl) (by kernel_rfl) rfl rfl (by kernel_rfl) ?_
        refine ls_val (v := .bool false) rfl rfl (by kernel_rfl) (fun w => by kernel_rfl) ?_
        refine ls_val (v := .bool false) rfl rfl (by kernel_rfl) (fun w => by kernel_rfl) ?_
        refine ls_off (j := 24) (t := 52) (b := true) (c := false) rfl rfl (by kernel_rfl) (by kernel_rfl) rfl rfl (by kernel_rfl) ?_
        refine ls_off (j := 24) (t := 52) (b := true) (c := false) rfl rfl (by kernel_rfl) (by kernel_rfl) rfl rfl (by kernel_rfl) ?_
        refine ls_off (j := 24) (t := 52) (b := true) (c := false) rfl rfl (by kernel_rfl) (by kernel_rfl) rfl rfl (by kernel_rfl) ?_
        refine ls_val (v := .bool false) rfl rfl (by kernel_rfl) (fun w => by kernel_rfl) ?_
        refine ls_val (v := .bool false) rfl rfl (by kernel_rfl) (fun w => by kernel_rfl) ?_
        refine ls_val (v := .bool false) rfl rfl (by kernel_rfl) (fun w => by kernel_rfl) ?_
        refine ls_val (v := .bool false) rfl rfl (by kernel_rfl) (fun w => by kernel_rfl) ?_
        refine ls_end ?_
        refine qn_then ?_
        refine cs_ret' ?_
        obtain rfl := Option.some.inj H
        refine qr_end1 rfl (fun w' hs => ⟨(), rfl, ?_⟩)
        exact hs.sub (sub_nil _)
  · replace H := ite_f q1 H
    refine cs_know (c := false) (dec_f q1) 13 (by kernel_rfl) ?_
    refine cs_false (by kernel_rfl) ?_
    refine cs_skip' ?_
    refine qn_then ?_
    refine cs_seq ?_
    refine cs_region (l := [_, _, _, _, _, _, _, _, _]) ?_
    refine ls_val (v := .slice A0 l0.length c0) rfl rfl (by kernel_rfl) (fun w => by kernel_rfl) ?_
    obtain ⟨t32, hc33, H⟩ := bind_some H
    refine ls_call (fid := 15) (vals := #[.slice A0 l0.length c0]) (X := Unit) (fun x => .tuple #[.int .u64 t32.1, .int .i64 t32.2.1, .int .i64 t32.2.2]) (fun x => s0) 0 rfl rfl (by kernel_rfl) (fun w => by kernel_rfl) (fun w hs => codec_ReadShort.calls k A0 c0 l0 t32 w (hs.old R0) C0 hc33) ?_
    intro x34
    refine ls_val (v := .tuple #[.int .u64 t32.1, .int .i64 t32.2.1, .int .i64 t32.2.2]) rfl rfl (by kernel_rfl) (fun w => by kernel_rfl) ?_
    refine ls_val (v := .int .u64 t32.1) rfl rfl (by kernel_rfl) (fun w => by kernel_rfl) ?_
    refine ls_val (v := .int .i64 t32.2.1) rfl rfl (by kernel_rfl) (fun w => by kernel_rfl) ?_
    refine ls_val (v := .int .i64 t32.2.2) rfl rfl (by kernel_rfl) (fun w => by kernel_rfl) ?_
    refine ls_val (v := .int .u64 t32.1) rfl rfl (by kernel_rfl) (fun w => by kernel_rfl) ?_
    refine ls_val (v := .int .i64 t32.2.1) rfl rfl (by kernel_rfl) (fun w => by kernel_rfl) ?_
    refine ls_val (v := .int .i64 t32.2.2) rfl rfl (by kernel_rfl) (fun w => by kernel_rfl) ?_
    refine ls_end ?_
    refine qn_then ?_
    refine cs_seq ?_
    refine cs_region (l := [_, _, _, _, _, _, _, _, _]) ?_
    refine ls_val (v := .slice A0 l0.length c0) rfl rfl (by kernel_rfl) (fun w => by kernel_rfl) ?_
    obtain ⟨t35, hc36, H⟩ := bind_some H
    refine ls_call (fid := 16) (vals := #[.slice A0 l0.length c0]) (X := Unit) (fun x => .tuple #[.int .u64 t35.1, .int .i64 t35.2.1, .int .i64 t35.2.2]) (fun x => s0) 0 rfl rfl (by kernel_rfl) (fun w => by kernel_rfl) (fun w hs => shadowboxref01_ReadShort.calls k A0 c0 l0 t35 w (hs.old R0) C0 hc36) ?_
    intro x37
    refine ls_val (v := .tuple #[.int .u64 t35.1, .int .i64 t35.2.1, .int .i64 t35.2.2]) rfl rfl (by kernel_rfl) (fun w => by kernel_rfl) ?_
    refine ls_val (v := .int .u64 t35.1) rfl rfl (by kernel_rfl) (fun w => by kernel_rfl) ?_
    refine ls_val (v := .int .i64 t35.2.1) rfl rfl (by kernel_rfl) (fun w => by kernel_rfl) ?_
    refine ls_val (v := .int .i64 t35.2.2) rfl rfl (by kernel_rfl) (fun w => by kernel_rfl) ?_
    refine ls_val (v := .int .u64 t35.1) rfl rfl (by kernel_rfl) (fun w => by kernel_rfl) ?_
    refine ls_val (v := .int .i64 t35.2.1) rfl rfl (by kernel_rfl) (fun w => by kernel_rfl) ?_
    refine ls_val (v := .int .i64 t35.2.2) rfl rfl (by kernel_rfl) (fun w => by kernel_rfl) ?_
    refine ls_end ?_
    refine qn_then ?_
    refine cs_seq ?_
    obtain ⟨t38, hc39, H⟩ := bind_some H
    obtain ⟨t41, hc42, H⟩ := bind_some H
    by_cases q44 : ((strOfNums t38).toList == (strOfNums t41).toList) = true
    · replace H := ite_t q44 H
      by_cases q45 : t32.1 = t35.1
      · replace H := ite_t q45 H
        by_cases q46 : t32.2.1 = t35.2.1
        · replace H := ite_t q46 H
          refine cs_draw (l := [_, _, _, _, _, _, _, _, _, _, _, _, _, _, _, _, _, _, _, _, _, _, _, _, _, _, _, _, _, _, _, _]) [[], [], [0, 1], [0, 1, 2], [], [], [0, 1, 2, 4, 5], [0, 1, 2, 4, 5, 6], [0, 1, 2, 3, 4, 5, 6, 7], [0, 1, 2, 3, 4, 5, 6, 7, 8], [0, 1, 2, 3, 4, 5, 6, 7, 8, 9], [0, 1, 2, 3, 4, 5, 6, 7, 8, 9], [0, 1, 2, 3, 4, 5, 6, 7, 8, 9, 10, 11], [0, 1, 2, 3, 4, 5, 6, 7, 8, 9, 10, 11, 12], [0, 1, 2, 3, 4, 5, 6, 7, 8, 9, 10, 11, 12, 13], [0, 1, 2, 3, 4, 5, 6, 7, 8, 9, 10, 11, 12, 13, 14], [0, 1, 2, 3, 4, 5, 6, 7, 8, 9, 10, 11, 12, 13, 14], [0, 1, 2, 3, 4, 5, 6, 7, 8, 9, 10, 11, 12, 13, 14, 15, 16], [0, 1, 2, 3, 4, 5, 6, 7, 8, 9, 10, 11, 12, 13, 14, 15, 16, 17], [0, 1, 2, 3, 4, 5, 6, 7, 8, 9, 10, 11, 12, 13, 14, 15, 16, 17, 18], [0, 1, 2, 3, 4, 5, 6, 7, 8, 9, 10, 11, 12, 13, 14, 15, 16, 17, 18, 19], [0, 1, 2, 3, 4, 5, 6, 7, 8, 9, 10, 11, 12, 13, 14, 15, 16, 17, 18, 19], [0, 1, 2, 3, 4, 5, 6, 7, 8, 9, 10, 11, 12, 13, 14, 15, 16, 17, 18, 19, 20, 21], [0, 1, 2, 3, 4, 5, 6, 7, 8, 9, 10, 11, 12, 13, 14, 15, 16, 17, 18, 19, 20, 21, 22], [0, 1, 2, 3, 4, 5, 6, 7, 8, 9, 10, 11, 12, 13, 14, 15, 16, 17, 18, 19, 20, 21, 22, 23], [0, 1, 2, 3, 4, 5, 6, 7, 8, 9, 10, 11, 12, 13, 14, 15, 16, 17, 18, 19, 20, 21, 22, 23, 24], [0, 1, 2, 3, 4, 5, 6, 7, 8, 9, 10, 11, 12, 13, 14, 15, 16, 17, 18, 19, 20, 21, 22, 23, 24, 25], [0, 1, 2, 3, 4, 5, 6, 7, 8, 9, 10, 11, 12, 13, 14, 15, 16, 17, 18, 19, 20, 21, 22, 23, 24, 25, 26], [0, 1, 2, 3, 4, 5, 6, 7, 8, 9, 10, 11, 12, 13, 14, 15, 16, 17, 18, 19, 20, 21, 22, 23, 24, 25, 26, 27], [0, 1, 2, 3, 4, 5, 6, 7, 8, 9, 10, 11, 12, 13, 14, 15, 16, 17, 18, 19, 20, 21, 22, 23, 24, 25, 26, 27, 28], [0, 1, 2, 3, 4, 5, 6, 7, 8, 9, 10, 11, 12, 13, 14, 15, 16, 17, 18, 19, 20, 21, 22, 23, 24, 25, 26, 27, 28, 29], [0, 1, 2, 3, 4, 5, 6, 7, 8, 9, 10, 11, 12, 13, 14, 15, 16, 17, 18, 19, 20, 21, 22, 23, 24, 25, 26, 27, 28, 29, 30]] 22 0 (spl [fun v R => v = .slice A0 l0.length c0 ∧ R = s0, fun v R => v = .int .u64 a1 ∧ R = s0, fun v R => ∃ x40 : (Option Addr × Nat), v = .slice x40.1 t38.length x40.2 ∧ R = sput s0 0 (some (Ck.sl 5 (Value.int .u8) x40.1 x40.2 t38)), fun v R => v = .string (strOfNums t38) ∧ R = s0, fun v R => v = .slice A0 l0.length c0 ∧ R = s0, fun v R => v = .int .u64 a1 ∧ R = s0, fun v R => ∃ x43 : (Option Addr × Nat), v = .slice x43.1 t41.length x43.2 ∧ R = sput s0 0 (some (Ck.sl 5 (Value.int .u8) x43.1 x43.2 t41)), fun v R => v = .string (strOfNums t41) ∧ R = s0, fun v R => v = .bool true ∧ R = s0, fun v R => v = .bool true ∧ R = s0, fun v R => v = .int .u64 t32.1 ∧ R = s0, fun v R => v = .int .u64 t35.1 ∧ R = s0, fun v R => v = .bool true ∧ R = s0, fun v R => v = .bool true ∧ R = s0, fun v R => v = .bool true ∧ R = s0, fun v R => v = .int .i64 t32.2.1 ∧ R = s0, fun v R => v = .int .i64 t35.2.1 ∧ R = s0, fun v R => v = .bool true ∧ R = s0, fun v R => v = .bool true ∧ R = s0, fun v R => v = .bool true ∧ R = s0, fun v R => v = .int .i64 t32.2.2 ∧ R = s0, fun v R => v = .int .i64 t35.2.2 ∧ R = s0]) (onl [true, true, true, true, true, true, true, true, true, true, true, true, true, true, true, true, true, true, true, true, true, true]) (by kernel_rfl) (by kernel_rfl) (by kernel_rfl) (by kernel_rfl) (rs := [_, _, _, _, _, _, _, _, _, _]) rfl (by kernel_rfl) (by kernel_rfl) ?_ ?_
          · refine all_snoc (all_snoc (all_snoc (all_snoc (all_snoc (all_snoc (all_snoc (all_snoc (all_snoc (all_snoc (all_snoc (all_snoc (all_snoc (all_snoc (all_snoc (all_snoc (all_snoc (all_snoc (all_snoc (all_snoc (all_snoc (all_snoc (all_nil) ?_) ?_) ?_) ?_) ?_) ?_) ?_) ?_) ?_) ?_) ?_) ?_) ?_) ?_) ?_) ?_) ?_) ?_) ?_) ?_) ?_) ?_
            · refine ⟨fun o ho vs Rs f' S' w hp hf hx hS hR hs => ?_⟩
              obtain rfl := Option.some.inj ho
              refine And.intro (want_none rfl) (And.intro (fun _ => ?_) (fun h => by cases h))
              have hF := fr_next (rfl) ((hx 0 (by kernel_rfl)).trans (by kernel_rfl : (_ : Value) = .slice A0 l0.length c0))
              refine ls_fr hF ?_
              refine ls_val (v := .slice A0 l0.length c0) rfl rfl (by kernel_rfl) (fun w => by kernel_rfl) ?_
              exact ls_fin s0 (.slice A0 l0.length c0) (congrArg (fun z => upd z 28 _) hF.symm) ⟨rfl, rfl⟩ (sub_nil _)
            · refine ⟨fun o ho vs Rs f' S' w hp hf hx hS hR hs => ?_⟩
              obtain rfl := Option.some.inj ho
              refine And.intro (want_none rfl) (And.intro (fun _ => ?_) (fun h => by cases h))
              have hF := fr_next (rfl) ((hx 1 (by kernel_rfl)).trans (by kernel_rfl : (_ : Value) = .int .u64 a1))
              refine ls_fr hF ?_
              refine ls_val (v := .int .u64 a1) rfl rfl (by kernel_rfl) (fun w => by kernel_rfl) ?_
              exact ls_fin s0 (.int .u64 a1) (congrArg (fun z => upd z 29 _) hF.symm) ⟨rfl, rfl⟩ (sub_nil _)
            · refine ⟨fun o ho vs Rs f' S' w hp hf hx hS hR hs => ?_⟩
              obtain rfl := Option.some.inj ho
              obtain ⟨hv0, hR0⟩ := hp 0 (by kernel_rfl)
              obtain ⟨hv1, hR1⟩ := hp 1 (by kernel_rfl)
              refine And.intro (want_none rfl) (And.intro (fun _ => ?_) (fun h => by cases h))
              have hF := fr_next (fr_next (rfl) ((hf 0 28 (by kernel_rfl) rfl).trans hv0)) ((hf 1 29 (by kernel_rfl) rfl).trans hv1)
              refine ls_fr hF ?_
              refine ls_call (fid := 17) (vals := #[.slice A0 l0.length c0, .int .u64 a1]) (X := (Option Addr × Nat)) (fun x => .slice x.1 t38.length x.2) (fun x => sput s0 0 (some (Ck.sl 5 (Value.int .u8) x.1 x.2 t38))) 0 rfl rfl (by kernel_rfl) (fun w => by kernel_rfl) (fun w1 hs1 => codec_Short.calls k A0 c0 l0 a1 t38 w1 (hs1.old (hs.old R0)) C0 hc39) ?_
              intro x40
              exact ls_fin (sput s0 0 (some (Ck.sl 5 (Value.int .u8) x40.1 x40.2 t38))) (.slice x40.1 t38.length x40.2) (congrArg (fun z => upd z 30 _) hF.symm) ⟨x40, rfl, rfl⟩ (sub_put (by exact rfl) (sub_nil _))
            · refine ⟨fun o ho vs Rs f' S' w hp hf hx hS hR hs => ?_⟩
              obtain rfl := Option.some.inj ho
              obtain ⟨x40, hv2, hR2⟩ := hp 2 (by kernel_rfl)
              have hT2_0 := (hR 2 0 (by kernel_rfl) (by decide)).trans (congrFun hR2 0)
              refine And.intro (want_none rfl) (And.intro (fun _ => ?_) (fun h => by cases h))
              have hF := fr_next (rfl) ((hf 2 30 (by kernel_rfl) rfl).trans hv2)
              refine ls_fr hF ?_
              refine ls_str (A := x40.1) (c := x40.2) (e := 5) (l := t38) rfl rfl (by kernel_rfl) rfl (by kernel_rfl) (by kernel_rfl) (by kernel_rfl) (by kernel_rfl) (fun w1 hs1 => (hs1.old (hs.rd (k := 16) hT2_0))) ?_
              exact ls_fin s0 (.string (strOfNums t38)) (congrArg (fun z => upd z 31 _) hF.symm) ⟨rfl, rfl⟩ (sub_nil _)
            · refine ⟨fun o ho vs Rs f' S' w hp hf hx hS hR hs => ?_⟩
              obtain rfl := Option.some.inj ho
              refine And.intro (want_none rfl) (And.intro (fun _ => ?_) (fun h => by cases h))
              have hF := fr_next (rfl) ((hx 0 (by kernel_rfl)).trans (by kernel_rfl : (_ : Value) = .slice A0 l0.length c0))
              refine ls_fr hF ?_
              refine ls_val (v := .slice A0 l0.length c0) rfl rfl (by kernel_rfl) (fun w => by kernel_rfl) ?_
              exact ls_fin s0 (.slice A0 l0.length c0) (congrArg (fun z => upd z 32 _) hF.symm) ⟨rfl, rfl⟩ (sub_nil _)
            · refine ⟨fun o ho vs Rs f' S' w hp hf hx hS hR hs => ?_⟩
              obtain rfl := Option.some.inj ho
              refine And.intro (want_none rfl) (And.intro (fun _ => ?_) (fun h => by cases h))
              have hF := fr_next (rfl) ((hx 1 (by kernel_rfl)).trans (by kernel_rfl : (_ : Value) = .int .u64 a1))
              refine ls_fr hF ?_
              refine ls_val (v := .int .u64 a1) rfl rfl (by kernel_rfl) (fun w => by kernel_rfl) ?_
              exact ls_fin s0 (.int .u64 a1) (congrArg (fun z => upd z 33 _) hF.symm) ⟨rfl, rfl⟩ (sub_nil _)
            · refine ⟨fun o ho vs Rs f' S' w hp hf hx hS hR hs => ?_⟩
              obtain rfl := Option.some.inj ho
              obtain ⟨hv4, hR4⟩ := hp 4 (by kernel_rfl)
              obtain ⟨hv5, hR5⟩ := hp 5 (by kernel_rfl)
              refine And.intro (want_none rfl) (And.intro (fun _ => ?_) (fun h => by cases h))
              have hF := fr_next (fr_next (rfl) ((hf 4 32 (by kernel_rfl) rfl).trans hv4)) ((hf 5 33 (by kernel_rfl) rfl).trans hv5)
              refine ls_fr hF ?_
              refine ls_call (fid := 18) (vals := #[.slice A0 l0.length c0, .int .u64 a1]) (X := (Option Addr × Nat)) (fun x => .slice x.1 t41.length x.2) (fun x => sput s0 0 (some (Ck.sl 5 (Value.int .u8) x.1 x.2 t41))) 0 rfl rfl (by kernel_rfl) (fun w => by kernel_rfl) (fun w1 hs1 => shadowboxref01_Short.calls k A0 c0 l0 a1 t41 w1 (hs1.old (hs.old R0)) C0 hc42) ?_
              intro x43
              exact ls_fin (sput s0 0 (some (Ck.sl 5 (Value.int .u8) x43.1 x43.2 t41))) (.slice x43.1 t41.length x43.2) (congrArg (fun z => upd z 34 _) hF.symm) ⟨x43, rfl, rfl⟩ (sub_put (by exact rfl) (sub_nil _))
            · refine ⟨fun o ho vs Rs f' S' w hp hf hx hS hR hs => ?_⟩
              obtain rfl := Option.some.inj ho
              obtain ⟨x43, hv6, hR6⟩ := hp 6 (by kernel_rfl)
              have hT6_0 := (hR 6 0 (by kernel_rfl) (by decide)).trans (congrFun hR6 0)
              refine And.intro (want_none rfl) (And.intro (fun _ => ?_) (fun h => by cases h))
              have hF := fr_next (rfl) ((hf 6 34 (by kernel_rfl) rfl).trans hv6)
              refine ls_fr hF ?_
              refine ls_str (A := x43.1) (c := x43.2) (e := 5) (l := t41) rfl rfl (by kernel_rfl) rfl (by kernel_rfl) (by kernel_rfl) (by kernel_rfl) (by kernel_rfl) (fun w1 hs1 => (hs1.old (hs.rd (k := 48) hT6_0))) ?_
              exact ls_fin s0 (.string (strOfNums t41)) (congrArg (fun z => upd z 35 _) hF.symm) ⟨rfl, rfl⟩ (sub_nil _)
            · refine ⟨fun o ho vs Rs f' S' w hp hf hx hS hR hs => ?_⟩
              obtain rfl := Option.some.inj ho
              obtain ⟨hv3, hR3⟩ := hp 3 (by kernel_rfl)
              obtain ⟨hv7, hR7⟩ := hp 7 (by kernel_rfl)
              refine And.intro (want_none rfl) (And.intro (fun _ => ?_) (fun h => by cases h))
              have hF := fr_next (fr_next (rfl) ((hf 3 31 (by kernel_rfl) rfl).trans hv3)) ((hf 7 35 (by kernel_rfl) rfl).trans hv7)
              refine ls_fr hF ?_
              refine ls_val (v := .bool ((strOfNums t38).toList == (strOfNums t41).toList)) rfl rfl (by kernel_rfl) (fun w => by kernel_rfl) ?_
              refine ls_ren 36 (v := .bool ((strOfNums t38).toList == (strOfNums t41).toList)) (v' := .bool true) (by kernel_rfl) (congrArg Value.bool (show ((strOfNums t38).toList == (strOfNums t41).toList) = true from q44)) ?_
              exact ls_fin s0 (.bool true) ((upd_upd _ _ _ _).trans (congrArg (fun z => upd z 36 _) hF.symm)) ⟨rfl, rfl⟩ (sub_nil _)
            · refine ⟨fun o ho vs Rs f' S' w hp hf hx hS hR hs => ?_⟩
              obtain rfl := Option.some.inj ho
              obtain ⟨hv8, hR8⟩ := hp 8 (by kernel_rfl)
              refine And.intro (want_none rfl) (And.intro (fun _ => ?_) (fun h => by cases h))
              have hF := fr_next (rfl) ((hf 8 36 (by kernel_rfl) rfl).trans hv8)
              refine ls_fr hF ?_
              refine ls_val (v := .bool true) rfl rfl (by kernel_rfl) (fun w => by kernel_rfl) ?_
              exact ls_fin s0 (.bool true) (congrArg (fun z => upd z 37 _) hF.symm) ⟨rfl, rfl⟩ (sub_nil _)
            · refine ⟨fun o ho vs Rs f' S' w hp hf hx hS hR hs => ?_⟩
              obtain rfl := Option.some.inj ho
              obtain ⟨hv9, hR9⟩ := hp 9 (by kernel_rfl)
              refine And.intro (want_is (j := 9) (t := 37) rfl rfl (by kernel_rfl) ((hf 9 37 (by kernel_rfl) rfl).trans hv9) rfl) (And.intro (fun _ => ?_) (fun h => by cases h))
              have hF := fr_next (fr_next (rfl) ((hx 5 (by kernel_rfl)).trans (by kernel_rfl : (_ : Value) = .int .u64 t32.1))) ((hf 9 37 (by kernel_rfl) rfl).trans hv9)
              refine ls_fr hF ?_
              refine ls_val (v := .int .u64 t32.1) rfl rfl (by kernel_rfl) (fun w => by kernel_rfl) ?_
              exact ls_fin s0 (.int .u64 t32.1) (congrArg (fun z => upd z 38 _) hF.symm) ⟨rfl, rfl⟩ (sub_nil _)
            · refine ⟨fun o ho vs Rs f' S' w hp hf hx hS hR hs => ?_⟩
              obtain rfl := Option.some.inj ho
              obtain ⟨hv9, hR9⟩ := hp 9 (by kernel_rfl)
              refine And.intro (want_is (j := 9) (t := 37) rfl rfl (by kernel_rfl) ((hf 9 37 (by kernel_rfl) rfl).trans hv9) rfl) (And.intro (fun _ => ?_) (fun h => by cases h))
              have hF := fr_next (fr_next (rfl) ((hx 8 (by kernel_rfl)).trans (by kernel_rfl : (_ : Value) = .int .u64 t35.1))) ((hf 9 37 (by kernel_rfl) rfl).trans hv9)
              refine ls_fr hF ?_
              refine ls_val (v := .int .u64 t35.1) rfl rfl (by kernel_rfl) (fun w => by kernel_rfl) ?_
              exact ls_fin s0 (.int .u64 t35.1) (congrArg (fun z => upd z 39 _) hF.symm) ⟨rfl, rfl⟩ (sub_nil _)
            · refine ⟨fun o ho vs Rs f' S' w hp hf hx hS hR hs => ?_⟩
              obtain rfl := Option.some.inj ho
              obtain ⟨hv9, hR9⟩ := hp 9 (by kernel_rfl)
              obtain ⟨hv10, hR10⟩ := hp 10 (by kernel_rfl)
              obtain ⟨hv11, hR11⟩ := hp 11 (by kernel_rfl)
              refine And.intro (want_is (j := 9) (t := 37) rfl rfl (by kernel_rfl) ((hf 9 37 (by kernel_rfl) rfl).trans hv9) rfl) (And.intro (fun _ => ?_) (fun h => by cases h))
              have hF := fr_next (fr_next (fr_next (rfl) ((hf 9 37 (by kernel_rfl) rfl).trans hv9)) ((hf 10 38 (by kernel_rfl) rfl).trans hv10)) ((hf 11 39 (by kernel_rfl) rfl).trans hv11)
              refine ls_fr hF ?_
              refine ls_val (v := .bool (decide (t32.1 = t35.1))) rfl rfl (by kernel_rfl) (fun w => by kernel_rfl) ?_
              refine ls_ren 40 (v := .bool (decide (t32.1 = t35.1))) (v' := .bool true) (by kernel_rfl) (congrArg Value.bool (show (decide (t32.1 = t35.1)) = true from dec_t q45)) ?_
              exact ls_fin s0 (.bool true) ((upd_upd _ _ _ _).trans (congrArg (fun z => upd z 40 _) hF.symm)) ⟨rfl, rfl⟩ (sub_nil _)
            · refine ⟨fun o ho vs Rs f' S' w hp hf hx hS hR hs => ?_⟩
              obtain rfl := Option.some.inj ho
              obtain ⟨hv9, hR9⟩ := hp 9 (by kernel_rfl)
              obtain ⟨hv12, hR12⟩ := hp 12 (by kernel_rfl)
              refine And.intro (want_none rfl) (And.intro (fun _ => ?_) (fun h => by cases h))
              have hF := fr_next (fr_next (rfl) ((hf 9 37 (by kernel_rfl) rfl).trans hv9)) ((hf 12 40 (by kernel_rfl) rfl).trans hv12)
              refine ls_fr hF ?_
              refine ls_val (v := .bool true) rfl rfl (by kernel_rfl) (fun w => by kernel_rfl) ?_
              exact ls_fin s0 (.bool true) (congrArg (fun z => upd z 41 _) hF.symm) ⟨rfl, rfl⟩ (sub_nil _)
            · refine ⟨fun o ho vs Rs f' S' w hp hf hx hS hR hs => ?_⟩
              obtain rfl := Option.some.inj ho
              obtain ⟨hv13, hR13⟩ := hp 13 (by kernel_rfl)
              refine And.intro (want_none rfl) (And.intro (fun _ => ?_) (fun h => by cases h))
              have hF := fr_next (rfl) ((hf 13 41 (by kernel_rfl) rfl).trans hv13)
              refine ls_fr hF ?_
              refine ls_val (v := .bool true) rfl rfl (by kernel_rfl) (fun w => by kernel_rfl) ?_
              exact ls_fin s0 (.bool true) (congrArg (fun z => upd z 42 _) hF.symm) ⟨rfl, rfl⟩ (sub_nil _)
            · refine ⟨fun o ho vs Rs f' S' w hp hf hx hS hR hs => ?_⟩
              obtain rfl := Option.some.inj ho
              obtain ⟨hv14, hR14⟩ := hp 14 (by kernel_rfl)
              refine And.intro (want_is (j := 14) (t := 42) rfl rfl (by kernel_rfl) ((hf 14 42 (by kernel_rfl) rfl).trans hv14) rfl) (And.intro (fun _ => ?_) (fun h => by cases h))
              have hF := fr_next (fr_next (rfl) ((hx 6 (by kernel_rfl)).trans (by kernel_rfl : (_ : Value) = .int .i64 t32.2.1))) ((hf 14 42 (by kernel_rfl) rfl).trans hv14)
              refine ls_fr hF ?_
              refine ls_val (v := .int .i64 t32.2.1) rfl rfl (by kernel_rfl) (fun w => by kernel_rfl) ?_
              exact ls_fin s0 (.int .i64 t32.2.1) (congrArg (fun z => upd z 43 _) hF.symm) ⟨rfl, rfl⟩ (sub_nil _)
            · refine ⟨fun o ho vs Rs f' S' w hp hf hx hS hR hs => ?_⟩
              obtain rfl := Option.some.inj ho
              obtain ⟨hv14, hR14⟩ := hp 14 (by kernel_rfl)
              refine And.intro (want_is (j := 14) (t := 42) rfl rfl (by kernel_rfl) ((hf 14 42 (by kernel_rfl) rfl).trans hv14) rfl) (And.intro (fun _ => ?_) (fun h => by cases h))
              have hF := fr_next (fr_next (rfl) ((hx 9 (by kernel_rfl)).trans (by kernel_rfl : (_ : Value) = .int .i64 t35.2.1))) ((hf 14 42 (by kernel_rfl) rfl).trans hv14)
              refine ls_fr hF ?_
              refine ls_val (v := .int .i64 t35.2.1) rfl rfl (by kernel_rfl) (fun w => by kernel_rfl) ?_
              exact ls_fin s0 (.int .i64 t35.2.1) (congrArg (fun z => upd z 44 _) hF.symm) ⟨rfl, rfl⟩ (sub_nil _)
            · refine ⟨fun o ho vs Rs f' S' w hp hf hx hS hR hs => ?_⟩
              obtain rfl := Option.some.inj ho
              obtain ⟨hv14, hR14⟩ := hp 14 (by kernel_rfl)
              obtain ⟨hv15, hR15⟩ := hp 15 (by kernel_rfl)
              obtain ⟨hv16, hR16⟩ := hp 16 (by kernel_rfl)
              refine And.intro (want_is (j := 14) (t := 42) rfl rfl (by kernel_rfl) ((hf 14 42 (by kernel_rfl) rfl).trans hv14) rfl) (And.intro (fun _ => ?_) (fun h => by cases h))
              have hF := fr_next (fr_next (fr_next (rfl) ((hf 14 42 (by kernel_rfl) rfl).trans hv14)) ((hf 15 43 (by kernel_rfl) rfl).trans hv15)) ((hf 16 44 (by kernel_rfl) rfl).trans hv16)
              refine ls_fr hF ?_
              refine ls_val (v := .bool (decide (t32.2.1 = t35.2.1))) rfl rfl (by kernel_rfl) (fun w => by kernel_rfl) ?_
              refine ls_ren 45 (v := .bool (decide (t32.2.1 = t35.2.1))) (v' := .bool true) (by kernel_rfl) (congrArg Value.bool (show (decide (t32.2.1 = t35.2.1)) = true from dec_t q46)) ?_
              exact ls_fin s0 (.bool true) ((upd_upd _ _ _ _).trans (congrArg (fun z => upd z 45 _) hF.symm)) ⟨rfl, rfl⟩ (sub_nil _)
            · refine ⟨fun o ho vs Rs f' S' w hp hf hx hS hR hs => ?_⟩
              obtain rfl := Option.some.inj ho
              obtain ⟨hv14, hR14⟩ := hp 14 (by kernel_rfl)
              obtain ⟨hv17, hR17⟩ := hp 17 (by kernel_rfl)
              refine And.intro (want_none rfl) (And.intro (fun _ => ?_) (fun h => by cases h))
              have hF := fr_next (fr_next (rfl) ((hf 14 42 (by kernel_rfl) rfl).trans hv14)) ((hf 17 45 (by kernel_rfl) rfl).trans hv17)
              refine ls_fr hF ?_
              refine ls_val (v := .bool true) rfl rfl (by kernel_rfl) (fun w => by kernel_rfl) ?_
              exact ls_fin s0 (.bool true) (congrArg (fun z => upd z 46 _) hF.symm) ⟨rfl, rfl⟩ (sub_nil _)
            · refine ⟨fun o ho vs Rs f' S' w hp hf hx hS hR hs => ?_⟩
              obtain rfl := Option.some.inj ho
              obtain ⟨hv18, hR18⟩ := hp 18 (by kernel_rfl)
              refine And.intro (want_none rfl) (And.intro (fun _ => ?_) (fun h => by cases h))
              have hF := fr_next (rfl) ((hf 18 46 (by kernel_rfl) rfl).trans hv18)
              refine ls_fr hF ?_
              refine ls_val (v := .bool true) rfl rfl (by kernel_rfl) (fun w => by kernel_rfl) ?_
              exact ls_fin s0 (.bool true) (congrArg (fun z => upd z 47 _) hF.symm) ⟨rfl, rfl⟩ (sub_nil _)
            · refine ⟨fun o ho vs Rs f' S' w hp hf hx hS hR hs => ?_⟩
              obtain rfl := Option.some.inj ho
              obtain ⟨hv19, hR19⟩ := hp 19 (by kernel_rfl)
              refine And.intro (want_is (j := 19) (t := 47) rfl rfl (by kernel_rfl) ((hf 19 47 (by kernel_rfl) rfl).trans hv19) rfl) (And.intro (fun _ => ?_) (fun h => by cases h))
              have hF := fr_next (fr_next (rfl) ((hx 7 (by kernel_rfl)).trans (by kernel_rfl : (_ : Value) = .int .i64 t32.2.2))) ((hf 19 47 (by kernel_rfl) rfl).trans hv19)
              refine ls_fr hF ?_
              refine ls_val (v := .int .i64 t32.2.2) rfl rfl (by kernel_rfl) (fun w => by kernel_rfl) ?_
              exact ls_fin s0 (.int .i64 t32.2.2) (congrArg (fun z => upd z 48 _) hF.symm) ⟨rfl, rfl⟩ (sub_nil _)
            · refine ⟨fun o ho vs Rs f' S' w hp hf hx hS hR hs => ?_⟩
              obtain rfl := Option.some.inj ho
              obtain ⟨hv19, hR19⟩ := hp 19 (by kernel_rfl)
              refine And.intro (want_is (j := 19) (t := 47) rfl rfl (by kernel_rfl) ((hf 19 47 (by kernel_rfl) rfl).trans hv19) rfl) (And.intro (fun _ => ?_) (fun h => by cases h))
              have hF := fr_next (fr_next (rfl) ((hx 10 (by kernel_rfl)).trans (by kernel_rfl : (_ : Value) = .int .i64 t35.2.2))) ((hf 19 47 (by kernel_rfl) rfl).trans hv19)
              refine ls_fr hF ?_
              refine ls_val (v := .int .i64 t35.2.2) rfl rfl (by kernel_rfl) (fun w => by kernel_rfl) ?_
              exact ls_fin s0 (.int .i64 t35.2.2) (congrArg (fun z => upd z 49 _) hF.symm) ⟨rfl, rfl⟩ (sub_nil _)
          · intro vs Rs f' S' hp hf hx hS hR
            obtain ⟨x40, hv2, hR2⟩ := hp 2 (by kernel_rfl)
            have hT2_0 := (hR 2 0 (by kernel_rfl) (by decide)).trans (congrFun hR2 0)
            obtain ⟨x43, hv6, hR6⟩ := hp 6 (by kernel_rfl)
            have hT6_0 := (hR 6 0 (by kernel_rfl) (by decide)).trans (congrFun hR6 0)
            obtain ⟨hv19, hR19⟩ := hp 19 (by kernel_rfl)
            obtain ⟨hv20, hR20⟩ := hp 20 (by kernel_rfl)
            obtain ⟨hv21, hR21⟩ := hp 21 (by kernel_rfl)
            refine ls_fr (F := upd (upd (upd f' 47 (.bool true)) 48 (.int .i64 t32.2.2)) 49 (.int .i64 t35.2.2)) (fr_next (fr_next (fr_next (rfl) ((hf 19 47 (by kernel_rfl) rfl).trans hv19)) ((hf 20 48 (by kernel_rfl) rfl).trans hv20)) ((hf 21 49 (by kernel_rfl) rfl).trans hv21)) ?_
            refine ls_sub (s0) (sub_nil _) ?_
            refine ls_on (j := 19) (t := 47) (b := true) rfl rfl (by kernel_rfl) (by kernel_rfl) ?_
            refine ls_val (v := .bool (decide (t32.2.2 = t35.2.2))) rfl rfl (by kernel_rfl) (fun w => by kernel_rfl) ?_
            refine ls_val (v := .bool (decide (t32.2.2 = t35.2.2))) rfl rfl (by kernel_rfl) (fun w => by kernel_rfl) ?_
            refine ls_val (v := .bool (decide (t32.2.2 = t35.2.2))) rfl rfl (by kernel_rfl) (fun w => by kernel_rfl) ?_
            by_cases q47 : t32.2.2 = t35.2.2
            · replace H := ite_t q47 H
              refine ls_know (c := true) (dec_t q47) 52 (by kernel_rfl) ?_
              refine ls_on (j := 24) (t := 52) (b := true) rfl rfl (by kernel_rfl) (by kernel_rfl) ?_
              obtain ⟨t48, hc49, H⟩ := bind_some H
              refine ls_call (fid := 17) (vals := #[.slice none ([] : List Int).length 0, .int .u64 (300 : Int)]) (X := (Option Addr × Nat)) (fun x => .slice x.1 t48.length x.2) (fun x => sput s0 0 (some (Ck.sl 5 (Value.int .u8) x.1 x.2 t48))) 176 rfl rfl (by kernel_rfl) (fun w => by kernel_rfl) (fun w hs => codec_Short.calls k none 0 ([] : List Int) (300 : Int) t48 w (Rd.nil _ _) (Nat.le_refl 0) hc49) ?_
              intro x50
              refine ls_on (j := 24) (t := 52) (b := true) rfl rfl (by kernel_rfl) (by kernel_rfl) ?_
              refine ls_str (A := x50.1) (c := x50.2) (e := 5) (l := t48) rfl rfl (by kernel_rfl) rfl (by kernel_rfl) (by kernel_rfl) (by kernel_rfl) (by kernel_rfl) (fun w hs => (hs.rd (k := 176) (by exact rfl))) ?_
              refine ls_on (j := 24) (t := 52) (b := true) rfl rfl (by kernel_rfl) (by kernel_rfl) ?_
              refine ls_val (v := .bool ((strOfNums t48).toList == (⟨#[172, 2]⟩ : ByteArray).toList)) rfl rfl (by kernel_rfl) (fun w => by kernel_rfl) ?_
              refine ls_val (v := .bool ((strOfNums t48).toList == (⟨#[172, 2]⟩ : ByteArray).toList)) rfl rfl (by kernel_rfl) (fun w => by kernel_rfl) ?_
              refine ls_val (v := .bool ((strOfNums t48).toList == (⟨#[172, 2]⟩ : ByteArray).toList)) rfl rfl (by kernel_rfl) (fun w => by kernel_rfl) ?_
              by_cases q51 : ((strOfNums t48).toList == (⟨#[172, 2]⟩ : ByteArray).toList) = true
              · replace H := ite_t q51 H
                refine ls_know (c := true) (q51) 57 (by kernel_rfl) ?_
                refine ls_val (v := .bool true) rfl rfl (by kernel_rfl) (fun w => by kernel_rfl) ?_
                refine ls_val (v := .bool true) rfl rfl (by kernel_rfl) (fun w => by kernel_rfl) ?_
                refine ls_end ?_
                refine qn_then ?_
                refine cs_ret' ?_
                obtain rfl := Option.some.inj H
                refine qr_end1 rfl (fun w' hs => ⟨(), rfl, ?_⟩)
                exact hs.sub (sub_nil _)
              · replace H := ite_f q51 H
                refine ls_know (c := false) (Bool.eq_false_iff.mpr q51) 57 (by kernel_rfl) ?_
                refine ls_val (v := .bool false) rfl rfl (by kernel_rfl) (fun w => by kernel_rfl) ?_
                refine ls_val (v := .bool false) rfl rfl (by kernel_rfl) (fun w => by kernel_rfl) ?_
                refine ls_end ?_
                refine qn_then ?_
                refine cs_ret' ?_
                obtain rfl := Option.some.inj H
                refine qr_end1 rfl (fun w' hs => ⟨(), rfl, ?_⟩)
                exact hs.sub (sub_nil _)
            · replace H := ite_f q47 H
              refine ls_know (c := false) (dec_f q47) 52 (by kernel_rfl) ?_
              refine ls_off (j := 24) (t := 52) (b := true) (c := false) rfl rfl (by kernel_rfl) (by kernel_rfl) rfl rfl (by kernel_rfl) ?_
              refine ls_off (j := 24) (t := 52) (b := true) (c := false) rfl rfl (by kernel_rfl) (by kernel_rfl) rfl rfl (by kernel_rfl) ?_
              refine ls_off (j := 24) (t := 52) (b := true) (c := false) rfl rfl (by kernel_rfl) (by kernel_rfl) rfl rfl (by kernel_rfl) ?_
              refine ls_val (v := .bool false) rfl rfl (by kernel_rfl) (fun w => by kernel_rfl) ?_
              refine ls_val (v := .bool false) rfl rfl (by kernel_rfl) (fun w => by kernel_rfl) ?_
              refine ls_val (v := .bool false) rfl rfl (by kernel_rfl) (fun w => by kernel_rfl) ?_
              refine ls_val (v := .bool false) rfl rfl (by kernel_rfl) (fun w => by kernel_rfl) ?_
              refine ls_end ?_
              refine qn_then ?_
              refine cs_ret' ?_
              obtain rfl := Option.some.inj H
              refine qr_end1 rfl (fun w' hs => ⟨(), rfl, ?_⟩)
              exact hs.sub (sub_nil _)
        · replace H := ite_f q46 H
          refine cs_draw (l := [_, _, _, _, _, _, _, _, _, _, _, _, _, _, _, _, _, _, _, _, _, _, _, _, _, _, _, _, _, _, _, _]) [[], [], [0, 1], [0, 1, 2], [], [], [0, 1, 2, 4, 5], [0, 1, 2, 4, 5, 6], [0, 1, 2, 3, 4, 5, 6, 7], [0, 1, 2, 3, 4, 5, 6, 7, 8], [0, 1, 2, 3, 4, 5, 6, 7, 8, 9], [0, 1, 2, 3, 4, 5, 6, 7, 8, 9], [0, 1, 2, 3, 4, 5, 6, 7, 8, 9, 10, 11], [0, 1, 2, 3, 4, 5, 6, 7, 8, 9, 10, 11, 12], [0, 1, 2, 3, 4, 5, 6, 7, 8, 9, 10, 11, 12, 13], [0, 1, 2, 3, 4, 5, 6, 7, 8, 9, 10, 11, 12, 13, 14], [0, 1, 2, 3, 4, 5, 6, 7, 8, 9, 10, 11, 12, 13, 14], [0, 1, 2, 3, 4, 5, 6, 7, 8, 9, 10, 11, 12, 13, 14, 15, 16], [0, 1, 2, 3, 4, 5, 6, 7, 8, 9, 10, 11, 12, 13, 14, 15, 16, 17], [0, 1, 2, 3, 4, 5, 6, 7, 8, 9, 10, 11, 12, 13, 14, 15, 16, 17, 18], [0, 1, 2, 3, 4, 5, 6, 7, 8, 9, 10, 11, 12, 13, 14, 15, 16, 17, 18, 19], [0, 1, 2, 3, 4, 5, 6, 7, 8, 9, 10, 11, 12, 13, 14, 15, 16, 17, 18, 19], [0, 1, 2, 3, 4, 5, 6, 7, 8, 9, 10, 11, 12, 13, 14, 15, 16, 17, 18, 19, 20, 21], [0, 1, 2, 3, 4, 5, 6, 7, 8, 9, 10, 11, 12, 13, 14, 15, 16, 17, 18, 19, 20, 21, 22], [0, 1, 2, 3, 4, 5, 6, 7, 8, 9, 10, 11, 12, 13, 14, 15, 16, 17, 18, 19, 20, 21, 22, 23], [0, 1, 2, 3, 4, 5, 6, 7, 8, 9, 10, 11, 12, 13, 14, 15, 16, 17, 18, 19, 20, 21, 22, 23, 24], [0, 1, 2, 3, 4, 5, 6, 7, 8, 9, 10, 11, 12, 13, 14, 15, 16, 17, 18, 19, 20, 21, 22, 23, 24, 25], [0, 1, 2, 3, 4, 5, 6, 7, 8, 9, 10, 11, 12, 13, 14, 15, 16, 17, 18, 19, 20, 21, 22, 23, 24, 25, 26], [0, 1, 2, 3, 4, 5, 6, 7, 8, 9, 10, 11, 12, 13, 14, 15, 16, 17, 18, 19, 20, 21, 22, 23, 24, 25, 26, 27], [0, 1, 2, 3, 4, 5, 6, 7, 8, 9, 10, 11, 12, 13, 14, 15, 16, 17, 18, 19, 20, 21, 22, 23, 24, 25, 26, 27, 28], [0, 1, 2, 3, 4, 5, 6, 7, 8, 9, 10, 11, 12, 13, 14, 15, 16, 17, 18, 19, 20, 21, 22, 23, 24, 25, 26, 27, 28, 29], [0, 1, 2, 3, 4, 5, 6, 7, 8, 9, 10, 11, 12, 13, 14, 15, 16, 17, 18, 19, 20, 21, 22, 23, 24, 25, 26, 27, 28, 29, 30]] 22 0 (spl [fun v R => v = .slice A0 l0.length c0 ∧ R = s0, fun v R => v = .int .u64 a1 ∧ R = s0, fun v R => ∃ x40 : (Option Addr × Nat), v = .slice x40.1 t38.length x40.2 ∧ R = sput s0 0 (some (Ck.sl 5 (Value.int .u8) x40.1 x40.2 t38)), fun v R => v = .string (strOfNums t38) ∧ R = s0, fun v R => v = .slice A0 l0.length c0 ∧ R = s0, fun v R => v = .int .u64 a1 ∧ R = s0, fun v R => ∃ x43 : (Option Addr × Nat), v = .slice x43.1 t41.length x43.2 ∧ R = sput s0 0 (some (Ck.sl 5 (Value.int .u8) x43.1 x43.2 t41)), fun v R => v = .string (strOfNums t41) ∧ R = s0, fun v R => v = .bool true ∧ R = s0, fun v R => v = .bool true ∧ R = s0, fun v R => v = .int .u64 t32.1 ∧ R = s0, fun v R => v = .int .u64 t35.1 ∧ R = s0, fun v R => v = .bool true ∧ R = s0, fun v R => v = .bool true ∧ R = s0, fun v R => v = .bool true ∧ R = s0, fun v R => v = .int .i64 t32.2.1 ∧ R = s0, fun v R => v = .int .i64 t35.2.1 ∧ R = s0, fun v R => v = .bool false ∧ R = s0, fun v R => v = .bool false ∧ R = s0, fun v R => v = .bool false ∧ R = s0, fun v R => v = undef ∧ R = s0, fun v R => v = undef ∧ R = s0]) (onl [true, true, true, true, true, true, true, true, true, true, true, true, true, true, true, true, true, true, true, true, false, false]) (by kernel_rfl) (by kernel_rfl) (by kernel_rfl) (by kernel_rfl) (rs := [_, _, _, _, _, _, _, _, _, _]) rfl (by kernel_rfl) (by kernel_rfl) ?_ ?_
          · refine all_snoc (all_snoc (all_snoc (all_snoc (all_snoc (all_snoc (all_snoc (all_snoc (all_snoc (all_snoc (all_snoc (all_snoc (all_snoc (all_snoc (all_snoc (all_snoc (all_snoc (all_snoc (all_snoc (all_snoc (all_snoc (all_snoc (all_nil) ?_) ?_) ?_) ?_) ?_) ?_) ?_) ?_) ?_) ?_) ?_) ?_) ?_) ?_) ?_) ?_) ?_) ?_) ?_) ?_) ?_) ?_
            · refine ⟨fun o ho vs Rs f' S' w hp hf hx hS hR hs => ?_⟩
              obtain rfl := Option.some.inj ho
              refine And.intro (want_none rfl) (And.intro (fun _ => ?_) (fun h => by cases h))
              have hF := fr_next (rfl) ((hx 0 (by kernel_rfl)).trans (by kernel_rfl : (_ : Value) = .slice A0 l0.length c0))
              refine ls_fr hF ?_
              refine ls_val (v := .slice A0 l0.length c0) rfl rfl (by kernel_rfl) (fun w => by kernel_rfl) ?_
              exact ls_fin s0 (.slice A0 l0.length c0) (congrArg (fun z => upd z 28 _) hF.symm) ⟨rfl, rfl⟩ (sub_nil _)
            · refine ⟨fun o ho vs Rs f' S' w hp hf hx hS hR hs => ?_⟩
              obtain rfl := Option.some.inj ho
              refine And.intro (want_none rfl) (And.intro (fun _ => ?_) (fun h => by cases h))
              have hF := fr_next (rfl) ((hx 1 (by kernel_rfl)).trans (by kernel_rfl : (_ : Value) = .int .u64 a1))
              refine ls_fr hF ?_
              refine ls_val (v := .int .u64 a1) rfl rfl (by kernel_rfl) (fun w => by kernel_rfl) ?_
              exact ls_fin s0 (.int .u64 a1) (congrArg (fun z => upd z 29 _) hF.symm) ⟨rfl, rfl⟩ (sub_nil _)
            · refine ⟨fun o ho vs Rs f' S' w hp hf hx hS hR hs => ?_⟩
              obtain rfl := Option.some.inj ho
              obtain ⟨hv0, hR0⟩ := hp 0 (by kernel_rfl)
              obtain ⟨hv1, hR1⟩ := hp 1 (by kernel_rfl)
              refine And.intro (want_none rfl) (And.intro (fun _ => ?_) (fun h => by cases h))
              have hF := fr_next (fr_next (rfl) ((hf 0 28 (by kernel_rfl) rfl).trans hv0)) ((hf 1 29 (by kernel_rfl) rfl).trans hv1)
              refine ls_fr hF ?_
              refine ls_call (fid := 17) (vals := #[.slice A0 l0.length c0, .int .u64 a1]) (X := (Option Addr × Nat)) (fun x => .slice x.1 t38.length x.2) (fun x => sput s0 0 (some (Ck.sl 5 (Value.int .u8) x.1 x.2 t38))) 0 rfl rfl (by kernel_rfl) (fun w => by kernel_rfl) (fun w1 hs1 => codec_Short.calls k A0 c0 l0 a1 t38 w1 (hs1.old (hs.old R0)) C0 hc39) ?_
              intro x40
              exact ls_fin (sput s0 0 (some (Ck.sl 5 (Value.int .u8) x40.1 x40.2 t38))) (.slice x40.1 t38.length x40.2) (congrArg (fun z => upd z 30 _) hF.symm) ⟨x40, rfl, rfl⟩ (sub_put (by exact rfl) (sub_nil _))
            · refine ⟨fun o ho vs Rs f' S' w hp hf hx hS hR hs => ?_⟩
              obtain rfl := Option.some.inj ho
              obtain ⟨x40, hv2, hR2⟩ := hp 2 (by kernel_rfl)
              have hT2_0 := (hR 2 0 (by kernel_rfl) (by decide)).trans (congrFun hR2 0)
              refine And.intro (want_none rfl) (And.intro (fun _ => ?_) (fun h => by cases h))
              have hF := fr_next (rfl) ((hf 2 30 (by kernel_rfl) rfl).trans hv2)
              refine ls_fr hF ?_
              refine ls_str (A := x40.1) (c := x40.2) (e := 5) (l := t38) rfl rfl (by kernel_rfl) rfl (by kernel_rfl) (by kernel_rfl) (by kernel_rfl) (by kernel_rfl) (fun w1 hs1 => (hs1.old (hs.rd (k := 16) hT2_0))) ?_
              exact ls_fin s0 (.string (strOfNums t38)) (congrArg (fun z => upd z 31 _) hF.symm) ⟨rfl, rfl⟩ (sub_nil _)
            · refine ⟨fun o ho vs Rs f' S' w hp hf hx hS hR hs => ?_⟩
              obtain rfl := Option.some.inj ho
              refine And.intro (want_none rfl) (And.intro (fun _ => ?_) (fun h => by cases h))
              have hF := fr_next (rfl) ((hx 0 (by kernel_rfl)).trans (by kernel_rfl : (_ : Value) = .slice A0 l0.length c0))
              refine ls_fr hF ?_
              refine ls_val (v := .slice A0 l0.length c0) rfl rfl (by kernel_rfl) (fun w => by kernel_rfl) ?_
              exact ls_fin s0 (.slice A0 l0.length c0) (congrArg (fun z => upd z 32 _) hF.symm) ⟨rfl, rfl⟩ (sub_nil _)
            · refine ⟨fun o ho vs Rs f' S' w hp hf hx hS hR hs => ?_⟩
              obtain rfl := Option.some.inj ho
              refine And.intro (want_none rfl) (And.intro (fun _ => ?_) (fun h => by cases h))
              have hF := fr_next (rfl) ((hx 1 (by kernel_rfl)).trans (by kernel_rfl : (_ : Value) = .int .u64 a1))
              refine ls_fr hF ?_
              refine ls_val (v := .int .u64 a1) rfl rfl (by kernel_rfl) (fun w => by kernel_rfl) ?_
              exact ls_fin s0 (.int .u64 a1) (congrArg (fun z => upd z 33 _) hF.symm) ⟨rfl, rfl⟩ (sub_nil _)
            · refine ⟨fun o ho vs Rs f' S' w hp hf hx hS hR hs => ?_⟩
              obtain rfl := Option.some.inj ho
              obtain ⟨hv4, hR4⟩ := hp 4 (by kernel_rfl)
              obtain ⟨hv5, hR5⟩ := hp 5 (by kernel_rfl)
              refine And.intro (want_none rfl) (And.intro (fun _ => ?_) (fun h => by cases h))
              have hF := fr_next (fr_next (rfl) ((hf 4 32 (by kernel_rfl) rfl).trans hv4)) ((hf 5 33 (by kernel_rfl) rfl).trans hv5)
              refine ls_fr hF ?_
              refine ls_call (fid := 18) (vals := #[.slice A0 l0.length c0, .int .u64 a1]) (X := (Option Addr × Nat)) (fun x => .slice x.1 t41.length x.2) (fun x => sput s0 0 (some (Ck.sl 5 (Value.int .u8) x.1 x.2 t41))) 0 rfl rfl (by kernel_rfl) (fun w => by kernel_rfl) (fun w1 hs1 => shadowboxref01_Short.calls k A0 c0 l0 a1 t41 w1 (hs1.old (hs.old R0)) C0 hc42) ?_
              intro x43
              exact ls_fin (sput s0 0 (some (Ck.sl 5 (Value.int .u8) x43.1 x43.2 t41))) (.slice x43.1 t41.length x43.2) (congrArg (fun z => upd z 34 _) hF.symm) ⟨x43, rfl, rfl⟩ (sub_put (by exact rfl) (sub_nil _))
            · refine ⟨fun o ho vs Rs f' S' w hp hf hx hS hR hs => ?_⟩
              obtain rfl := Option.some.inj ho
              obtain ⟨x43, hv6, hR6⟩ := hp 6 (by kernel_rfl)
              have hT6_0 := (hR 6 0 (by kernel_rfl) (by decide)).trans (congrFun hR6 0)
              refine And.intro (want_none rfl) (And.intro (fun _ => ?_) (fun h => by cases h))
              have hF := fr_next (rfl) ((hf 6 34 (by kernel_rfl) rfl).trans hv6)
              refine ls_fr hF ?_
              refine ls_str (A := x43.1) (c := x43.2) (e := 5) (l := t41) rfl rfl (by kernel_rfl) rfl (by kernel_rfl) (by kernel_rfl) (by kernel_rfl) (by kernel_rfl) (fun w1 hs1 => (hs1.old (hs.rd (k := 48) hT6_0))) ?_
              exact ls_fin s0 (.string (strOfNums t41)) (congrArg (fun z => upd z 35 _) hF.symm) ⟨rfl, rfl⟩ (sub_nil _)
            · refine ⟨fun o ho vs Rs f' S' w hp hf hx hS hR hs => ?_⟩
              obtain rfl := Option.some.inj ho
              obtain ⟨hv3, hR3⟩ := hp 3 (by kernel_rfl)
              obtain ⟨hv7, hR7⟩ := hp 7 (by kernel_rfl)
              refine And.intro (want_none rfl) (And.intro (fun _ => ?_) (fun h => by cases h))
              have hF := fr_next (fr_next (rfl) ((hf 3 31 (by kernel_rfl) rfl).trans hv3)) ((hf 7 35 (by kernel_rfl) rfl).trans hv7)
              refine ls_fr hF ?_
              refine ls_val (v := .bool ((strOfNums t38).toList == (strOfNums t41).toList)) rfl rfl (by kernel_rfl) (fun w => by kernel_rfl) ?_
              refine ls_ren 36 (v := .bool ((strOfNums t38).toList == (strOfNums t41).toList)) (v' := .bool true) (by kernel_rfl) (congrArg Value.bool (show ((strOfNums t38).toList == (strOfNums t41).toList) = true from q44)) ?_
              exact ls_fin s0 (.bool true) ((upd_upd _ _ _ _).trans (congrArg (fun z => upd z 36 _) hF.symm)) ⟨rfl, rfl⟩ (sub_nil _)
            · refine ⟨fun o ho vs Rs f' S' w hp hf hx hS hR hs => ?_⟩
              obtain rfl := Option.some.inj ho
              obtain ⟨hv8, hR8⟩ := hp 8 (by kernel_rfl)
              refine And.intro (want_none rfl) (And.intro (fun _ => ?_) (fun h => by cases h))
              have hF := fr_next (rfl) ((hf 8 36 (by kernel_rfl) rfl).trans hv8)
              refine ls_fr hF ?_
              refine ls_val (v := .bool true) rfl rfl (by kernel_rfl) (fun w => by kernel_rfl) ?_
              exact ls_fin s0 (.bool true) (congrArg (fun z => upd z 37 _) hF.symm) ⟨rfl, rfl⟩ (sub_nil _)
            · refine ⟨fun o ho vs Rs f' S' w hp hf hx hS hR hs => ?_⟩
              obtain rfl := Option.some.inj ho
              obtain ⟨hv9, hR9⟩ := hp 9 (by kernel_rfl)
              refine And.intro (want_is (j := 9) (t := 37) rfl rfl (by kernel_rfl) ((hf 9 37 (by kernel_rfl) rfl).trans hv9) rfl) (And.intro (fun _ => ?_) (fun h => by cases h))
              have hF := fr_next (fr_next (rfl) ((hx 5 (by kernel_rfl)).trans (by kernel_rfl : (_ : Value) = .int .u64 t32.1))) ((hf 9 37 (by kernel_rfl) rfl).trans hv9)
              refine ls_fr hF ?_
              refine ls_val (v := .int .u64 t32.1) rfl rfl (by kernel_rfl) (fun w => by kernel_rfl) ?_
              exact ls_fin s0 (.int .u64 t32.1) (congrArg (fun z => upd z 38 _) hF.symm) ⟨rfl, rfl⟩ (sub_nil _)
            · refine ⟨fun o ho vs Rs f' S' w hp hf hx hS hR hs => ?_⟩
              obtain rfl := Option.some.inj ho
              obtain ⟨hv9, hR9⟩ := hp 9 (by kernel_rfl)
              refine And.intro (want_is (j := 9) (t := 37) rfl rfl (by kernel_rfl) ((hf 9 37 (by kernel_rfl) rfl).trans hv9) rfl) (And.intro (fun _ => ?_) (fun h => by cases h))
              have hF := fr_next (fr_next (rfl) ((hx 8 (by kernel_rfl)).trans (by kernel_rfl : (_ : Value) = .int .u64 t35.1))) ((hf 9 37 (by kernel_rfl) rfl).trans hv9)
              refine ls_fr hF ?_
              refine ls_val (v := .int .u64 t35.1) rfl rfl (by kernel_rfl) (fun w => by kernel_rfl) ?_
              exact ls_fin s0 (.int .u64 t35.1) (congrArg (fun z => upd z 39 _) hF.symm) ⟨rfl, rfl⟩ (sub_nil _)
            · refine ⟨fun o ho vs Rs f' S' w hp hf hx hS hR hs => ?_⟩
              obtain rfl := Option.some.inj ho
              obtain ⟨hv9, hR9⟩ := hp 9 (by kernel_rfl)
              obtain ⟨hv10, hR10⟩ := hp 10 (by kernel_rfl)
              obtain ⟨hv11, hR11⟩ := hp 11 (by kernel_rfl)
              refine And.intro (want_is (j := 9) (t := 37) rfl rfl (by kernel_rfl) ((hf 9 37 (by kernel_rfl) rfl).trans hv9) rfl) (And.intro (fun _ => ?_) (fun h => by cases h))
              have hF := fr_next (fr_next (fr_next (rfl) ((hf 9 37 (by kernel_rfl) rfl).trans hv9)) ((hf 10 38 (by kernel_rfl) rfl).trans hv10)) ((hf 11 39 (by kernel_rfl) rfl).trans hv11)
              refine ls_fr hF ?_
              refine ls_val (v := .bool (decide (t32.1 = t35.1))) rfl rfl (by kernel_rfl) (fun w => by kernel_rfl) ?_
              refine ls_ren 40 (v := .bool (decide (t32.1 = t35.1))) (v' := .bool true) (by kernel_rfl) (congrArg Value.bool (show (decide (t32.1 = t35.1)) = true from dec_t q45)) ?_
              exact ls_fin s0 (.bool true) ((upd_upd _ _ _ _).trans (congrArg (fun z => upd z 40 _) hF.symm)) ⟨rfl, rfl⟩ (sub_nil _)
            · refine ⟨fun o ho vs Rs f' S' w hp hf hx hS hR hs => ?_⟩
              obtain rfl := Option.some.inj ho
              obtain ⟨hv9, hR9⟩ := hp 9 (by kernel_rfl)
              obtain ⟨hv12, hR12⟩ := hp 12 (by kernel_rfl)
              refine And.intro (want_none rfl) (And.intro (fun _ => ?_) (fun h => by cases h))
              have hF := fr_next (fr_next (rfl) ((hf 9 37 (by kernel_rfl) rfl).trans hv9)) ((hf 12 40 (by kernel_rfl) rfl).trans hv12)
              refine ls_fr hF ?_
              refine ls_val (v := .bool true) rfl rfl (by kernel_rfl) (fun w => by kernel_rfl) ?_
              exact ls_fin s0 (.bool true) (congrArg (fun z => upd z 41 _) hF.symm) ⟨rfl, rfl⟩ (sub_nil _)
            · refine ⟨fun o ho vs Rs f' S' w hp hf hx hS hR hs => ?_⟩
              obtain rfl := Option.some.inj ho
              obtain ⟨hv13, hR13⟩ := hp 13 (by kernel_rfl)
              refine And.intro (want_none rfl) (And.intro (fun _ => ?_) (fun h => by cases h))
              have hF := fr_next (rfl) ((hf 13 41 (by kernel_rfl) rfl).trans hv13)
              refine ls_fr hF ?_
              refine ls_val (v := .bool true) rfl rfl (by kernel_rfl) (fun w => by kernel_rfl) ?_
              exact ls_fin s0 (.bool true) (congrArg (fun z => upd z 42 _) hF.symm) ⟨rfl, rfl⟩ (sub_nil _)
            · refine ⟨fun o ho vs Rs f' S' w hp hf hx hS hR hs => ?_⟩
              obtain rfl := Option.some.inj ho
              obtain ⟨hv14, hR14⟩ := hp 14 (by kernel_rfl)
              refine And.intro (want_is (j := 14) (t := 42) rfl rfl (by kernel_rfl) ((hf 14 42 (by kernel_rfl) rfl).trans hv14) rfl) (And.intro (fun _ => ?_) (fun h => by cases h))
              have hF := fr_next (fr_next (rfl) ((hx 6 (by kernel_rfl)).trans (by kernel_rfl : (_ : Value) = .int .i64 t32.2.1))) ((hf 14 42 (by kernel_rfl) rfl).trans hv14)
              refine ls_fr hF ?_
              refine ls_val (v := .int .i64 t32.2.1) rfl rfl (by kernel_rfl) (fun w => by kernel_rfl) ?_
              exact ls_fin s0 (.int .i64 t32.2.1) (congrArg (fun z => upd z 43 _) hF.symm) ⟨rfl, rfl⟩ (sub_nil _)
            · refine ⟨fun o ho vs Rs f' S' w hp hf hx hS hR hs => ?_⟩
              obtain rfl := Option.some.inj ho
              obtain ⟨hv14, hR14⟩ := hp 14 (by kernel_rfl)
              refine And.intro (want_is (j := 14) (t := 42) rfl rfl (by kernel_rfl) ((hf 14 42 (by kernel_rfl) rfl).trans hv14) rfl) (And.intro (fun _ => ?_) (fun h => by cases h))
              have hF := fr_next (fr_next (rfl) ((hx 9 (by kernel_rfl)).trans (by kernel_rfl : (_ : Value) = .int .i64 t35.2.1))) ((hf 14 42 (by kernel_rfl) rfl).trans hv14)
              refine ls_fr hF ?_
              refine ls_val (v := .int .i64 t35.2.1) rfl rfl (by kernel_rfl) (fun w => by kernel_rfl) ?_
              exact ls_fin s0 (.int .i64 t35.2.1) (congrArg (fun z => upd z 44 _) hF.symm) ⟨rfl, rfl⟩ (sub_nil _)
            · refine ⟨fun o ho vs Rs f' S' w hp hf hx hS hR hs => ?_⟩
              obtain rfl := Option.some.inj ho
              obtain ⟨hv14, hR14⟩ := hp 14 (by kernel_rfl)
              obtain ⟨hv15, hR15⟩ := hp 15 (by kernel_rfl)
              obtain ⟨hv16, hR16⟩ := hp 16 (by kernel_rfl)
              refine And.intro (want_is (j := 14) (t := 42) rfl rfl (by kernel_rfl) ((hf 14 42 (by kernel_rfl) rfl).trans hv14) rfl) (And.intro (fun _ => ?_) (fun h => by cases h))
              have hF := fr_next (fr_next (fr_next (rfl) ((hf 14 42 (by kernel_rfl) rfl).trans hv14)) ((hf 15 43 (by kernel_rfl) rfl).trans hv15)) ((hf 16 44 (by kernel_rfl) rfl).trans hv16)
              refine ls_fr hF ?_
              refine ls_val (v := .bool (decide (t32.2.1 = t35.2.1))) rfl rfl (by kernel_rfl) (fun w => by kernel_rfl) ?_
              refine ls_ren 45 (v := .bool (decide (t32.2.1 = t35.2.1))) (v' := .bool false) (by kernel_rfl) (congrArg Value.bool (show (decide (t32.2.1 = t35.2.1)) = false from dec_f q46)) ?_
              exact ls_fin s0 (.bool false) ((upd_upd _ _ _ _).trans (congrArg (fun z => upd z 45 _) hF.symm)) ⟨rfl, rfl⟩ (sub_nil _)
            · refine ⟨fun o ho vs Rs f' S' w hp hf hx hS hR hs => ?_⟩
              obtain rfl := Option.some.inj ho
              obtain ⟨hv14, hR14⟩ := hp 14 (by kernel_rfl)
              obtain ⟨hv17, hR17⟩ := hp 17 (by kernel_rfl)
              refine And.intro (want_none rfl) (And.intro (fun _ => ?_) (fun h => by cases h))
              have hF := fr_next (fr_next (rfl) ((hf 14 42 (by kernel_rfl) rfl).trans hv14)) ((hf 17 45 (by kernel_rfl) rfl).trans hv17)
              refine ls_fr hF ?_
              refine ls_val (v := .bool false) rfl rfl (by kernel_rfl) (fun w => by kernel_rfl) ?_
              exact ls_fin s0 (.bool false) (congrArg (fun z => upd z 46 _) hF.symm) ⟨rfl, rfl⟩ (sub_nil _)
            · refine ⟨fun o ho vs Rs f' S' w hp hf hx hS hR hs => ?_⟩
              obtain rfl := Option.some.inj ho
              obtain ⟨hv18, hR18⟩ := hp 18 (by kernel_rfl)
              refine And.intro (want_none rfl) (And.intro (fun _ => ?_) (fun h => by cases h))
              have hF := fr_next (rfl) ((hf 18 46 (by kernel_rfl) rfl).trans hv18)
              refine ls_fr hF ?_
              refine ls_val (v := .bool false) rfl rfl (by kernel_rfl) (fun w => by kernel_rfl) ?_
              exact ls_fin s0 (.bool false) (congrArg (fun z => upd z 47 _) hF.symm) ⟨rfl, rfl⟩ (sub_nil _)
            · refine ⟨fun o ho vs Rs f' S' w hp hf hx hS hR hs => ?_⟩
              obtain rfl := Option.some.inj ho
              obtain ⟨hv19, hR19⟩ := hp 19 (by kernel_rfl)
              refine And.intro ?_ (And.intro ?_ ?_)
              · exact want_is (j := 19) (t := 47) rfl rfl (by kernel_rfl) ((hf 19 47 (by kernel_rfl) rfl).trans hv19) rfl
              · intro h; cases h
              · intro _; exact ⟨rfl, rfl⟩
            · refine ⟨fun o ho vs Rs f' S' w hp hf hx hS hR hs => ?_⟩
              obtain rfl := Option.some.inj ho
              obtain ⟨hv19, hR19⟩ := hp 19 (by kernel_rfl)
              refine And.intro ?_ (And.intro ?_ ?_)
              · exact want_is (j := 19) (t := 47) rfl rfl (by kernel_rfl) ((hf 19 47 (by kernel_rfl) rfl).trans hv19) rfl
              · intro h; cases h
              · intro _; exact ⟨rfl, rfl⟩
          · intro vs Rs f' S' hp hf hx hS hR
            obtain ⟨x40, hv2, hR2⟩ := hp 2 (by kernel_rfl)
            have hT2_0 := (hR 2 0 (by kernel_rfl) (by decide)).trans (congrFun hR2 0)
            obtain ⟨x43, hv6, hR6⟩ := hp 6 (by kernel_rfl)
            have hT6_0 := (hR 6 0 (by kernel_rfl) (by decide)).trans (congrFun hR6 0)
            obtain ⟨hv19, hR19⟩ := hp 19 (by kernel_rfl)
            obtain ⟨hv20, hR20⟩ := hp 20 (by kernel_rfl)
            obtain ⟨hv21, hR21⟩ := hp 21 (by kernel_rfl)
            refine ls_fr (F := upd f' 47 (.bool false)) (fr_next (rfl) ((hf 19 47 (by kernel_rfl) rfl).trans hv19)) ?_
            refine ls_sub (s0) (sub_nil _) ?_
            refine ls_off (j := 19) (t := 47) (b := true) (c := false) rfl rfl (by kernel_rfl) (by kernel_rfl) rfl rfl (by kernel_rfl) ?_
            refine ls_val (v := .bool false) rfl rfl (by kernel_rfl) (fun w => by kernel_rfl) ?_
            refine ls_val (v := .bool false) rfl rfl (by kernel_rfl) (fun w => by kernel_rfl) ?_
            refine ls_off (j := 24) (t := 52) (b := true) (c := false) rfl rfl (by kernel_rfl) (by kernel_rfl) rfl rfl (by kernel_rfl) ?_
            refine ls_off (j := 24) (t := 52) (b := true) (c := false) rfl rfl (by kernel_rfl) (by kernel_rfl) rfl rfl (by kernel_rfl) ?_
            refine ls_off (j := 24) (t := 52) (b := true) (c := false) rfl rfl (by kernel_rfl) (by kernel_rfl) rfl rfl (by kernel_rfl) ?_
            refine ls_val (v := .bool false) rfl rfl (by kernel_rfl) (fun w => by kernel_rfl) ?_
            refine ls_val (v := .bool false) rfl rfl (by kernel_rfl) (fun w => by kernel_rfl) ?_
            refine ls_val (v := .bool false) rfl rfl (by kernel_rfl) (fun w => by kernel_rfl) ?_
            refine ls_val (v := .bool false) rfl rfl (by kernel_rfl) (fun w => by kernel_rfl) ?_
            refine ls_end ?_
            refine qn_then ?_
            refine cs_ret' ?_
            obtain rfl := Option.some.inj H
            refine qr_end1 rfl (fun w' hs => ⟨(), rfl, ?_⟩)
            exact hs.sub (sub_nil _)
      · replace H := ite_f q45 H
        refine cs_draw (l := [_, _, _, _, _, _, _, _, _, _, _, _, _, _, _, _, _, _, _, _, _, _, _, _, _, _, _, _, _, _, _, _]) [[], [], [0, 1], [0, 1, 2], [], [], [0, 1, 2, 4, 5], [0, 1, 2, 4, 5, 6], [0, 1, 2, 3, 4, 5, 6, 7], [0, 1, 2, 3, 4, 5, 6, 7, 8], [0, 1, 2, 3, 4, 5, 6, 7, 8, 9], [0, 1, 2, 3, 4, 5, 6, 7, 8, 9], [0, 1, 2, 3, 4, 5, 6, 7, 8, 9, 10, 11], [0, 1, 2, 3, 4, 5, 6, 7, 8, 9, 10, 11, 12], [0, 1, 2, 3, 4, 5, 6, 7, 8, 9, 10, 11, 12, 13], [0, 1, 2, 3, 4, 5, 6, 7, 8, 9, 10, 11, 12, 13, 14], [0, 1, 2, 3, 4, 5, 6, 7, 8, 9, 10, 11, 12, 13, 14], [0, 1, 2, 3, 4, 5, 6, 7, 8, 9, 10, 11, 12, 13, 14, 15, 16], [0, 1, 2, 3, 4, 5, 6, 7, 8, 9, 10, 11, 12, 13, 14, 15, 16, 17], [0, 1, 2, 3, 4, 5, 6, 7, 8, 9, 10, 11, 12, 13, 14, 15, 16, 17, 18], [0, 1, 2, 3, 4, 5, 6, 7, 8, 9, 10, 11, 12, 13, 14, 15, 16, 17, 18, 19], [0, 1, 2, 3, 4, 5, 6, 7, 8, 9, 10, 11, 12, 13, 14, 15, 16, 17, 18, 19], [0, 1, 2, 3, 4, 5, 6, 7, 8, 9, 10, 11, 12, 13, 14, 15, 16, 17, 18, 19, 20, 21], [0, 1, 2, 3, 4, 5, 6, 7, 8, 9, 10, 11, 12, 13, 14, 15, 16, 17, 18, 19, 20, 21, 22], [0, 1, 2, 3, 4, 5, 6, 7, 8, 9, 10, 11, 12, 13, 14, 15, 16, 17, 18, 19, 20, 21, 22, 23], [0, 1, 2, 3, 4, 5, 6, 7, 8, 9, 10, 11, 12, 13, 14, 15, 16, 17, 18, 19, 20, 21, 22, 23, 24], [0, 1, 2, 3, 4, 5, 6, 7, 8, 9, 10, 11, 12, 13, 14, 15, 16, 17, 18, 19, 20, 21, 22, 23, 24, 25], [0, 1, 2, 3, 4, 5, 6, 7, 8, 9, 10, 11, 12, 13, 14, 15, 16, 17, 18, 19, 20, 21, 22, 23, 24, 25, 26], [0, 1, 2, 3, 4, 5, 6, 7, 8, 9, 10, 11, 12, 13, 14, 15, 16, 17, 18, 19, 20, 21, 22, 23, 24, 25, 26, 27], [0, 1, 2, 3, 4, 5, 6, 7, 8, 9, 10, 11, 12, 13, 14, 15, 16, 17, 18, 19, 20, 21, 22, 23, 24, 25, 26, 27, 28], [0, 1, 2, 3, 4, 5, 6, 7, 8, 9, 10, 11, 12, 13, 14, 15, 16, 17, 18, 19, 20, 21, 22, 23, 24, 25, 26, 27, 28, 29], [0, 1, 2, 3, 4, 5, 6, 7, 8, 9, 10, 11, 12, 13, 14, 15, 16, 17, 18, 19, 20, 21, 22, 23, 24, 25, 26, 27, 28, 29, 30]] 22 0 (spl [fun v R => v = .slice A0 l0.length c0 ∧ R = s0, fun v R => v = .int .u64 a1 ∧ R = s0, fun v R => ∃ x40 : (Option Addr × Nat), v = .slice x40.1 t38.length x40.2 ∧ R = sput s0 0 (some (Ck.sl 5 (Value.int .u8) x40.1 x40.2 t38)), fun v R => v = .string (strOfNums t38) ∧ R = s0, fun v R => v = .slice A0 l0.length c0 ∧ R = s0, fun v R => v = .int .u64 a1 ∧ R = s0, fun v R => ∃ x43 : (Option Addr × Nat), v = .slice x43.1 t41.length x43.2 ∧ R = sput s0 0 (some (Ck.sl 5 (Value.int .u8) x43.1 x43.2 t41)), fun v R => v = .string (strOfNums t41) ∧ R = s0, fun v R => v = .bool true ∧ R = s0, fun v R => v = .bool true ∧ R = s0, fun v R => v = .int .u64 t32.1 ∧ R = s0, fun v R => v = .int .u64 t35.1 ∧ R = s0, fun v R => v = .bool false ∧ R = s0, fun v R => v = .bool false ∧ R = s0, fun v R => v = .bool false ∧ R = s0, fun v R => v = undef ∧ R = s0, fun v R => v = undef ∧ R = s0, fun v R => v = undef ∧ R = s0, fun v R => v = .bool false ∧ R = s0, fun v R => v = .bool false ∧ R = s0, fun v R => v = undef ∧ R = s0, fun v R => v = undef ∧ R = s0]) (onl [true, true, true, true, true, true, true, true, true, true, true, true, true, true, true, false, false, false, true, true, false, false]) (by kernel_rfl) (by kernel_rfl) (by kernel_rfl) (by kernel_rfl) (rs := [_, _, _, _, _, _, _, _, _, _]) rfl (by kernel_rfl) (by kernel_rfl) ?_ ?_
        · refine all_snoc (all_snoc (all_snoc (all_snoc (all_snoc (all_snoc (all_snoc (all_snoc (all_snoc (all_snoc (all_snoc (all_snoc (all_snoc (all_snoc (all_snoc (all_snoc (all_snoc (all_snoc (all_snoc (all_snoc (all_snoc (all_snoc (all_nil) ?_) ?_) ?_) ?_) ?_) ?_) ?_) ?_) ?_) ?_) ?_) ?_) ?_) ?_) ?_) ?_) ?_) ?_) ?_) ?_) ?_) ?_
          · refine ⟨fun o ho vs Rs f' S' w hp hf hx hS hR hs => ?_⟩
            obtain rfl := Option.some.inj ho
            refine And.intro (want_none rfl) (And.intro (fun _ => ?_) (fun h => by cases h))
            have hF := fr_next (rfl) ((hx 0 (by kernel_rfl)).trans (by kernel_rfl : (_ : Value) = .slice A0 l0.length c0))
            refine ls_fr hF ?_
            refine ls_val (v := .slice A0 l0.length c0) rfl rfl (by kernel_rfl) (fun w => by kernel_rfl) ?_
            exact ls_fin s0 (.slice A0 l0.length c0) (congrArg (fun z => upd z 28 _) hF.symm) ⟨rfl, rfl⟩ (sub_nil _)
          · refine ⟨fun o ho vs Rs f' S' w hp hf hx hS hR hs => ?_⟩
            obtain rfl := Option.some.inj ho
            refine And.intro (want_none rfl) (And.intro (fun _ => ?_) (fun h => by cases h))
            have hF := fr_next (rfl) ((hx 1 (by kernel_rfl)).trans (by kernel_rfl : (_ : Value) = .int .u64 a1))
            refine ls_fr hF ?_
            refine ls_val (v := .int .u64 a1) rfl rfl (by kernel_rfl) (fun w => by kernel_rfl) ?_
            exact ls_fin s0 (.int .u64 a1) (congrArg (fun z => upd z 29 _) hF.symm) ⟨rfl, rfl⟩ (sub_nil _)
          · refine ⟨fun o ho vs Rs f' S' w hp hf hx hS hR hs => ?_⟩
            obtain rfl := Option.some.inj ho
            obtain ⟨hv0, hR0⟩ := hp 0 (by kernel_rfl)
            obtain ⟨hv1, hR1⟩ := hp 1 (by kernel_rfl)
            refine And.intro (want_none rfl) (And.intro (fun _ => ?_) (fun h => by cases h))
            have hF := fr_next (fr_next (rfl) ((hf 0 28 (by kernel_rfl) rfl).trans hv0)) ((hf 1 29 (by kernel_rfl) rfl).trans hv1)
            refine ls_fr hF ?_
            refine ls_call (fid := 17) (vals := #[.slice A0 l0.length c0, .int .u64 a1]) (X := (Option Addr × Nat)) (fun x => .slice x.1 t38.length x.2) (fun x => sput s0 0 (some (Ck.sl 5 (Value.int .u8) x.1 x.2 t38))) 0 rfl rfl (by kernel_rfl) (fun w => by kernel_rfl) (fun w1 hs1 => codec_Short.calls k A0 c0 l0 a1 t38 w1 (hs1.old (hs.old R0)) C0 hc39) ?_
            intro x40
            exact ls_fin (sput s0 0 (some (Ck.sl 5 (Value.int .u8) x40.1 x40.2 t38))) (.slice x40.1 t38.length x40.2) (congrArg (fun z => upd z 30 _) hF.symm) ⟨x40, rfl, rfl⟩ (sub_put (by exact rfl) (sub_nil _))
          · refine ⟨fun o ho vs Rs f' S' w hp hf hx hS hR hs => ?_⟩
            obtain rfl := Option.some.inj ho
            obtain ⟨x40, hv2, hR2⟩ := hp 2 (by kernel_rfl)
            have hT2_0 := (hR 2 0 (by kernel_rfl) (by decide)).trans (congrFun hR2 0)
            refine And.intro (want_none rfl) (And.intro (fun _ => ?_) (fun h => by cases h))
            have hF := fr_next (rfl) ((hf 2 30 (by kernel_rfl) rfl).trans hv2)
            refine ls_fr hF ?_
            refine ls_str (A := x40.1) (c := x40.2) (e := 5) (l := t38) rfl rfl (by kernel_rfl) rfl (by kernel_rfl) (by kernel_rfl) (by kernel_rfl) (by kernel_rfl) (fun w1 hs1 => (hs1.old (hs.rd (k := 16) hT2_0))) ?_
            exact ls_fin s0 (.string (strOfNums t38)) (congrArg (fun z => upd z 31 _) hF.symm) ⟨rfl, rfl⟩ (sub_nil _)
          · refine ⟨fun o ho vs Rs f' S' w hp hf hx hS hR hs => ?_⟩
            obtain rfl := Option.some.inj ho
            refine And.intro (want_none rfl) (And.intro (fun _ => ?_) (fun h => by cases h))
            have hF := fr_next (rfl) ((hx 0 (by kernel_rfl)).trans (by kernel_rfl : (_ : Value) = .slice A0 l0.length c0))
            refine ls_fr hF ?_
            refine ls_val (v := .slice A0 l0.length c0) rfl rfl (by kernel_rfl) (fun w => by kernel_rfl) ?_
            exact ls_fin s0 (.slice A0 l0.length c0) (congrArg (fun z => upd z 32 _) hF.symm) ⟨rfl, rfl⟩ (sub_nil _)
          · refine ⟨fun o ho vs Rs f' S' w hp hf hx hS hR hs => ?_⟩
            obtain rfl := Option.some.inj ho
            refine And.intro (want_none rfl) (And.intro (fun _ => ?_) (fun h => by cases h))
            have hF := fr_next (rfl) ((hx 1 (by kernel_rfl)).trans (by kernel_rfl : (_ : Value) = .int .u64 a1))
            refine ls_fr hF ?_
            refine ls_val (v := .int .u64 a1) rfl rfl (by kernel_rfl) (fun w => by kernel_rfl) ?_
            exact ls_fin s0 (.int .u64 a1) (congrArg (fun z => upd z 33 _) hF.symm) ⟨rfl, rfl⟩ (sub_nil _)
          · refine ⟨fun o ho vs Rs f' S' w hp hf hx hS hR hs => ?_⟩
            obtain rfl := Option.some.inj ho
            obtain ⟨hv4, hR4⟩ := hp 4 (by kernel_rfl)
            obtain ⟨hv5, hR5⟩ := hp 5 (by kernel_rfl)
            refine And.intro (want_none rfl) (And.intro (fun _ => ?_) (fun h => by cases h))
            have hF := fr_next (fr_next (rfl) ((hf 4 32 (by kernel_rfl) rfl).trans hv4)) ((hf 5 33 (by kernel_rfl) rfl).trans hv5)
            refine ls_fr hF ?_
            refine ls_call (fid := 18) (vals := #[.slice A0 l0.length c0, .int .u64 a1]) (X := (Option Addr × Nat)) (fun x => .slice x.1 t41.length x.2) (fun x => sput s0 0 (some (Ck.sl 5 (Value.int .u8) x.1 x.2 t41))) 0 rfl rfl (by kernel_rfl) (fun w => by kernel_rfl) (fun w1 hs1 => shadowboxref01_Short.calls k A0 c0 l0 a1 t41 w1 (hs1.old (hs.old R0)) C0 hc42) ?_
            intro x43
            exact ls_fin (sput s0 0 (some (Ck.sl 5 (Value.int .u8) x43.1 x43.2 t41))) (.slice x43.1 t41.length x43.2) (congrArg (fun z => upd z 34 _) hF.symm) ⟨x43, rfl, rfl⟩ (sub_put (by exact rfl) (sub_nil _))
          · refine ⟨fun o ho vs Rs f' S' w hp hf hx hS hR hs => ?_⟩
            obtain rfl := Option.some.inj ho
            obtain ⟨x43, hv6, hR6⟩ := hp 6 (by kernel_rfl)
            have hT6_0 := (hR 6 0 (by kernel_rfl) (by decide)).trans (congrFun hR6 0)
            refine And.intro (want_none rfl) (And.intro (fun _ => ?_) (fun h => by cases h))
            have hF := fr_next (rfl) ((hf 6 34 (by kernel_rfl) rfl).trans hv6)
            refine ls_fr hF ?_
            refine ls_str (A := x43.1) (c := x43.2) (e := 5) (l := t41) rfl rfl (by kernel_rfl) rfl (by kernel_rfl) (by kernel_rfl) (by kernel_rfl) (by kernel_rfl) (fun w1 hs1 => (hs1.old (hs.rd (k := 48) hT6_0))) ?_
            exact ls_fin s0 (.string (strOfNums t41)) (congrArg (fun z => upd z 35 _) hF.symm) ⟨rfl, rfl⟩ (sub_nil _)
          · refine ⟨fun o ho vs Rs f' S' w hp hf hx hS hR hs => ?_⟩
            obtain rfl := Option.some.inj ho
            obtain ⟨hv3, hR3⟩ := hp 3 (by kernel_rfl)
            obtain ⟨hv7, hR7⟩ := hp 7 (by kernel_rfl)
            refine And.intro (want_none rfl) (And.intro (fun _ => ?_) (fun h => by cases h))
            have hF := fr_next (fr_next (rfl) ((hf 3 31 (by kernel_rfl) rfl).trans hv3)) ((hf 7 35 (by kernel_rfl) rfl).trans hv7)
            refine ls_fr hF ?_
            refine ls_val (v := .bool ((strOfNums t38).toList == (strOfNums t41).toList)) rfl rfl (by kernel_rfl) (fun w => by kernel_rfl) ?_
            refine ls_ren 36 (v := .bool ((strOfNums t38).toList == (strOfNums t41).toList)) (v' := .bool true) (by kernel_rfl) (congrArg Value.bool (show ((strOfNums t38).toList == (strOfNums t41).toList) = true from q44)) ?_
            exact ls_fin s0 (.bool true) ((upd_upd _ _ _ _).trans (congrArg (fun z => upd z 36 _) hF.symm)) ⟨rfl, rfl⟩ (sub_nil _)
          · refine ⟨fun o ho vs Rs f' S' w hp hf hx hS hR hs => ?_⟩
            obtain rfl := Option.some.inj ho
            obtain ⟨hv8, hR8⟩ := hp 8 (by kernel_rfl)
            refine And.intro (want_none rfl) (And.intro (fun _ => ?_) (fun h => by cases h))
            have hF := fr_next (rfl) ((hf 8 36 (by kernel_rfl) rfl).trans hv8)
            refine ls_fr hF ?_
            refine ls_val (v := .bool true) rfl rfl (by kernel_rfl) (fun w => by kernel_rfl) ?_
            exact ls_fin s0 (.bool true) (congrArg (fun z => upd z 37 _) hF.symm) ⟨rfl, rfl⟩ (sub_nil _)
          · refine ⟨fun o ho vs Rs f' S' w hp hf hx hS hR hs => ?_⟩
            obtain rfl := Option.some.inj ho
            obtain ⟨hv9, hR9⟩ := hp 9 (by kernel_rfl)
            refine And.intro (want_is (j := 9) (t := 37) rfl rfl (by kernel_rfl) ((hf 9 37 (by kernel_rfl) rfl).trans hv9) rfl) (And.intro (fun _ => ?_) (fun h => by cases h))
            have hF := fr_next (fr_next (rfl) ((hx 5 (by kernel_rfl)).trans (by kernel_rfl : (_ : Value) = .int .u64 t32.1))) ((hf 9 37 (by kernel_rfl) rfl).trans hv9)
            refine ls_fr hF ?_
            refine ls_val (v := .int .u64 t32.1) rfl rfl (by kernel_rfl) (fun w => by kernel_rfl) ?_
            exact ls_fin s0 (.int .u64 t32.1) (congrArg (fun z => upd z 38 _) hF.symm) ⟨rfl, rfl⟩ (sub_nil _)
          · refine ⟨fun o ho vs Rs f' S' w hp hf hx hS hR hs => ?_⟩
            obtain rfl := Option.some.inj ho
            obtain ⟨hv9, hR9⟩ := hp 9 (by kernel_rfl)
            refine And.intro (want_is (j := 9) (t := 37) rfl rfl (by kernel_rfl) ((hf 9 37 (by kernel_rfl) rfl).trans hv9) rfl) (And.intro (fun _ => ?_) (fun h => by cases h))
            have hF := fr_next (fr_next (rfl) ((hx 8 (by kernel_rfl)).trans (by kernel_rfl : (_ : Value) = .int .u64 t35.1))) ((hf 9 37 (by kernel_rfl) rfl).trans hv9)
            refine ls_fr hF ?_
            refine ls_val (v := .int .u64 t35.1) rfl rfl (by kernel_rfl) (fun w => by kernel_rfl) ?_
            exact ls_fin s0 (.int .u64 t35.1) (congrArg (fun z => upd z 39 _) hF.symm) ⟨rfl, rfl⟩ (sub_nil _)
          · refine ⟨fun o ho vs Rs f' S' w hp hf hx hS hR hs => ?_⟩
            obtain rfl := Option.some.inj ho
            obtain ⟨hv9, hR9⟩ := hp 9 (by kernel_rfl)
            obtain ⟨hv10, hR10⟩ := hp 10 (by kernel_rfl)
            obtain ⟨hv11, hR11⟩ := hp 11 (by kernel_rfl)
            refine And.intro (want_is (j := 9) (t := 37) rfl rfl (by kernel_rfl) ((hf 9 37 (by kernel_rfl) rfl).trans hv9) rfl) (And.intro (fun _ => ?_) (fun h => by cases h))
            have hF := fr_next (fr_next (fr_next (rfl) ((hf 9 37 (by kernel_rfl) rfl).trans hv9)) ((hf 10 38 (by kernel_rfl) rfl).trans hv10)) ((hf 11 39 (by kernel_rfl) rfl).trans hv11)
            refine ls_fr hF ?_
            refine ls_val (v := .bool (decide (t32.1 = t35.1))) rfl rfl (by kernel_rfl) (fun w => by kernel_rfl) ?_
            refine ls_ren 40 (v := .bool (decide (t32.1 = t35.1))) (v' := .bool false) (by kernel_rfl) (congrArg Value.bool (show (decide (t32.1 = t35.1)) = false from dec_f q45)) ?_
            exact ls_fin s0 (.bool false) ((upd_upd _ _ _ _).trans (congrArg (fun z => upd z 40 _) hF.symm)) ⟨rfl, rfl⟩ (sub_nil _)
          · refine ⟨fun o ho vs Rs f' S' w hp hf hx hS hR hs => ?_⟩
            obtain rfl := Option.some.inj ho
            obtain ⟨hv9, hR9⟩ := hp 9 (by kernel_rfl)
            obtain ⟨hv12, hR12⟩ := hp 12 (by kernel_rfl)
            refine And.intro (want_none rfl) (And.intro (fun _ => ?_) (fun h => by cases h))
            have hF := fr_next (fr_next (rfl) ((hf 9 37 (by kernel_rfl) rfl).trans hv9)) ((hf 12 40 (by kernel_rfl) rfl).trans hv12)
            refine ls_fr hF ?_
            refine ls_val (v := .bool false) rfl rfl (by kernel_rfl) (fun w => by kernel_rfl) ?_
            exact ls_fin s0 (.bool false) (congrArg (fun z => upd z 41 _) hF.symm) ⟨rfl, rfl⟩ (sub_nil _)
          · refine ⟨fun o ho vs Rs f' S' w hp hf hx hS hR hs => ?_⟩
            obtain rfl := Option.some.inj ho
            obtain ⟨hv13, hR13⟩ := hp 13 (by kernel_rfl)
            refine And.intro (want_none rfl) (And.intro (fun _ => ?_) (fun h => by cases h))
            have hF := fr_next (rfl) ((hf 13 41 (by kernel_rfl) rfl).trans hv13)
            refine ls_fr hF ?_
            refine ls_val (v := .bool false) rfl rfl (by kernel_rfl) (fun w => by kernel_rfl) ?_
            exact ls_fin s0 (.bool false) (congrArg (fun z => upd z 42 _) hF.symm) ⟨rfl, rfl⟩ (sub_nil _)
          · refine ⟨fun o ho vs Rs f' S' w hp hf hx hS hR hs => ?_⟩
            obtain rfl := Option.some.inj ho
            obtain ⟨hv14, hR14⟩ := hp 14 (by kernel_rfl)
            refine And.intro ?_ (And.intro ?_ ?_)
            · exact want_is (j := 14) (t := 42) rfl rfl (by kernel_rfl) ((hf 14 42 (by kernel_rfl) rfl).trans hv14) rfl
            · intro h; cases h
            · intro _; exact ⟨rfl, rfl⟩
          · refine ⟨fun o ho vs Rs f' S' w hp hf hx hS hR hs => ?_⟩
            obtain rfl := Option.some.inj ho
            obtain ⟨hv14, hR14⟩ := hp 14 (by kernel_rfl)
            refine And.intro ?_ (And.intro ?_ ?_)
            · exact want_is (j := 14) (t := 42) rfl rfl (by kernel_rfl) ((hf 14 42 (by kernel_rfl) rfl).trans hv14) rfl
            · intro h; cases h
            · intro _; exact ⟨rfl, rfl⟩
          · refine ⟨fun o ho vs Rs f' S' w hp hf hx hS hR hs => ?_⟩
            obtain rfl := Option.some.inj ho
            obtain ⟨hv14, hR14⟩ := hp 14 (by kernel_rfl)
            obtain ⟨hv15, hR15⟩ := hp 15 (by kernel_rfl)
            obtain ⟨hv16, hR16⟩ := hp 16 (by kernel_rfl)
            refine And.intro ?_ (And.intro ?_ ?_)
            · exact want_is (j := 14) (t := 42) rfl rfl (by kernel_rfl) ((hf 14 42 (by kernel_rfl) rfl).trans hv14) rfl
            · intro h; cases h
            · intro _; exact ⟨rfl, rfl⟩
          · refine ⟨fun o ho vs Rs f' S' w hp hf hx hS hR hs => ?_⟩
            obtain rfl := Option.some.inj ho
            obtain ⟨hv14, hR14⟩ := hp 14 (by kernel_rfl)
            obtain ⟨hv17, hR17⟩ := hp 17 (by kernel_rfl)
            refine And.intro (want_none rfl) (And.intro (fun _ => ?_) (fun h => by cases h))
            have hF := fr_next (fr_next (rfl) ((hf 14 42 (by kernel_rfl) rfl).trans hv14)) ((hf 17 45 (by kernel_rfl) rfl).trans hv17)
            refine ls_fr hF ?_
            refine ls_val (v := .bool false) rfl rfl (by kernel_rfl) (fun w => by kernel_rfl) ?_
            exact ls_fin s0 (.bool false) (congrArg (fun z => upd z 46 _) hF.symm) ⟨rfl, rfl⟩ (sub_nil _)
          · refine ⟨fun o ho vs Rs f' S' w hp hf hx hS hR hs => ?_⟩
            obtain rfl := Option.some.inj ho
            obtain ⟨hv18, hR18⟩ := hp 18 (by kernel_rfl)
            refine And.intro (want_none rfl) (And.intro (fun _ => ?_) (fun h => by cases h))
            have hF := fr_next (rfl) ((hf 18 46 (by kernel_rfl) rfl).trans hv18)
            refine ls_fr hF ?_
            refine ls_val (v := .bool false) rfl rfl (by kernel_rfl) (fun w => by kernel_rfl) ?_
            exact ls_fin s0 (.bool false) (congrArg (fun z => upd z 47 _) hF.symm) ⟨rfl, rfl⟩ (sub_nil _)
          · refine ⟨fun o ho vs Rs f' S' w hp hf hx hS hR hs => ?_⟩
            obtain rfl := Option.some.inj ho
            obtain ⟨hv19, hR19⟩ := hp 19 (by kernel_rfl)
            refine And.intro ?_ (And.intro ?_ ?_)
            · exact want_is (j := 19) (t := 47) rfl rfl (by kernel_rfl) ((hf 19 47 (by kernel_rfl) rfl).trans hv19) rfl
            · intro h; cases h
            · intro _; exact ⟨rfl, rfl⟩
          · refine ⟨fun o ho vs Rs f' S' w hp hf hx hS hR hs => ?_⟩
            obtain rfl := Option.some.inj ho
            obtain ⟨hv19, hR19⟩ := hp 19 (by kernel_rfl)
            refine And.intro ?_ (And.intro ?_ ?_)
            · exact want_is (j := 19) (t := 47) rfl rfl (by kernel_rfl) ((hf 19 47 (by kernel_rfl) rfl).trans hv19) rfl
            · intro h; cases h
            · intro _; exact ⟨rfl, rfl⟩
        · intro vs Rs f' S' hp hf hx hS hR
          obtain ⟨x40, hv2, hR2⟩ := hp 2 (by kernel_rfl)
          have hT2_0 := (hR 2 0 (by kernel_rfl) (by decide)).trans (congrFun hR2 0)
          obtain ⟨x43, hv6, hR6⟩ := hp 6 (by kernel_rfl)
          have hT6_0 := (hR 6 0 (by kernel_rfl) (by decide)).trans (congrFun hR6 0)
          obtain ⟨hv19, hR19⟩ := hp 19 (by kernel_rfl)
          obtain ⟨hv20, hR20⟩ := hp 20 (by kernel_rfl)
          obtain ⟨hv21, hR21⟩ := hp 21 (by kernel_rfl)
          refine ls_fr (F := upd f' 47 (.bool false)) (fr_next (rfl) ((hf 19 47 (by kernel_rfl) rfl).trans hv19)) ?_
          refine ls_sub (s0) (sub_nil _) ?_
          refine ls_off (j := 19) (t := 47) (b := true) (c := false) rfl rfl (by kernel_rfl) (by kernel_rfl) rfl rfl (by kernel_rfl) ?_
          refine ls_val (v := .bool false) rfl rfl (by kernel_rfl) (fun w => by kernel_rfl) ?_
          refine ls_val (v := .bool false) rfl rfl (by kernel_rfl) (fun w => by kernel_rfl) ?_
          refine ls_off (j := 24) (t := 52) (b := true) (c := false) rfl rfl (by kernel_rfl) (by kernel_rfl) rfl rfl (by kernel_rfl) ?_
          refine ls_off (j := 24) (t := 52) (b := true) (c := false) rfl rfl (by kernel_rfl) (by kernel_rfl) rfl rfl (by kernel_rfl) ?_
          refine ls_off (j := 24) (t := 52) (b := true) (c := false) rfl rfl (by kernel_rfl) (by kernel_rfl) rfl rfl (by kernel_rfl) ?_
          refine ls_val (v := .bool false) rfl rfl (by kernel_rfl) (fun w => by kernel_rfl) ?_
          refine ls_val (v := .bool false) rfl rfl (by kernel_rfl) (fun w => by kernel_rfl) ?_
          refine ls_val (v := .bool false) rfl rfl (by kernel_rfl) (fun w => by kernel_rfl) ?_
          refine ls_val (v := .bool false) rfl rfl (by kernel_rfl) (fun w => by kernel_rfl) ?_
          refine ls_end ?_
          refine qn_then ?_
          refine cs_ret' ?_
          obtain rfl := Option.some.inj H
          refine qr_end1 rfl (fun w' hs => ⟨(), rfl, ?_⟩)
          exact hs.sub (sub_nil _)
    · replace H := ite_f q44 H
      refine cs_draw (l := [_, _, _, _, _, _, _, _, _, _, _, _, _, _, _, _, _, _, _, _, _, _, _, _, _, _, _, _, _, _, _, _]) [[], [], [0, 1], [0, 1, 2], [], [], [0, 1, 2, 4, 5], [0, 1, 2, 4, 5, 6], [0, 1, 2, 3, 4, 5, 6, 7], [0, 1, 2, 3, 4, 5, 6, 7, 8], [0, 1, 2, 3, 4, 5, 6, 7, 8, 9], [0, 1, 2, 3, 4, 5, 6, 7, 8, 9], [0, 1, 2, 3, 4, 5, 6, 7, 8, 9, 10, 11], [0, 1, 2, 3, 4, 5, 6, 7, 8, 9, 10, 11, 12], [0, 1, 2, 3, 4, 5, 6, 7, 8, 9, 10, 11, 12, 13], [0, 1, 2, 3, 4, 5, 6, 7, 8, 9, 10, 11, 12, 13, 14], [0, 1, 2, 3, 4, 5, 6, 7, 8, 9, 10, 11, 12, 13, 14], [0, 1, 2, 3, 4, 5, 6, 7, 8, 9, 10, 11, 12, 13, 14, 15, 16], [0, 1, 2, 3, 4, 5, 6, 7, 8, 9, 10, 11, 12, 13, 14, 15, 16, 17], [0, 1, 2, 3, 4, 5, 6, 7, 8, 9, 10, 11, 12, 13, 14, 15, 16, 17, 18], [0, 1, 2, 3, 4, 5, 6, 7, 8, 9, 10, 11, 12, 13, 14, 15, 16, 17, 18, 19], [0, 1, 2, 3, 4, 5, 6, 7, 8, 9, 10, 11, 12, 13, 14, 15, 16, 17, 18, 19], [0, 1, 2, 3, 4, 5, 6, 7, 8, 9, 10, 11, 12, 13, 14, 15, 16, 17, 18, 19, 20, 21], [0, 1, 2, 3, 4, 5, 6, 7, 8, 9, 10, 11, 12, 13, 14, 15, 16, 17, 18, 19, 20, 21, 22], [0, 1, 2, 3, 4, 5, 6, 7, 8, 9, 10, 11, 12, 13, 14, 15, 16, 17, 18, 19, 20, 21, 22, 23], [0, 1, 2, 3, 4, 5, 6, 7, 8, 9, 10, 11, 12, 13, 14, 15, 16, 17, 18, 19, 20, 21, 22, 23, 24], [0, 1, 2, 3, 4, 5, 6, 7, 8, 9, 10, 11, 12, 13, 14, 15, 16, 17, 18, 19, 20, 21, 22, 23, 24, 25], [0, 1, 2, 3, 4, 5, 6, 7, 8, 9, 10, 11, 12, 13, 14, 15, 16, 17, 18, 19, 20, 21, 22, 23, 24, 25, 26], [0, 1, 2, 3, 4, 5, 6, 7, 8, 9, 10, 11, 12, 13, 14, 15, 16, 17, 18, 19, 20, 21, 22, 23, 24, 25, 26, 27], [0, 1, 2, 3, 4, 5, 6, 7, 8, 9, 10, 11, 12, 13, 14, 15, 16, 17, 18, 19, 20, 21, 22, 23, 24, 25, 26, 27, 28], [0, 1, 2, 3, 4, 5, 6, 7, 8, 9, 10, 11, 12, 13, 14, 15, 16, 17, 18, 19, 20, 21, 22, 23, 24, 25, 26, 27, 28, 29], [0, 1, 2, 3, 4, 5, 6, 7, 8, 9, 10, 11, 12, 13, 14, 15, 16, 17, 18, 19, 20, 21, 22, 23, 24, 25, 26, 27, 28, 29, 30]] 22 0 (spl [fun v R => v = .slice A0 l0.length c0 ∧ R = s0, fun v R => v = .int .u64 a1 ∧ R = s0, fun v R => ∃ x40 : (Option Addr × Nat), v = .slice x40.1 t38.length x40.2 ∧ R = sput s0 0 (some (Ck.sl 5 (Value.int .u8) x40.1 x40.2 t38)), fun v R => v = .string (strOfNums t38) ∧ R = s0, fun v R => v = .slice A0 l0.length c0 ∧ R = s0, fun v R => v = .int .u64 a1 ∧ R = s0, fun v R => ∃ x43 : (Option Addr × Nat), v = .slice x43.1 t41.length x43.2 ∧ R = sput s0 0 (some (Ck.sl 5 (Value.int .u8) x43.1 x43.2 t41)), fun v R => v = .string (strOfNums t41) ∧ R = s0, fun v R => v = .bool false ∧ R = s0, fun v R => v = .bool false ∧ R = s0, fun v R => v = undef ∧ R = s0, fun v R => v = undef ∧ R = s0, fun v R => v = undef ∧ R = s0, fun v R => v = .bool false ∧ R = s0, fun v R => v = .bool false ∧ R = s0, fun v R => v = undef ∧ R = s0, fun v R => v = undef ∧ R = s0, fun v R => v = undef ∧ R = s0, fun v R => v = .bool false ∧ R = s0, fun v R => v = .bool false ∧ R = s0, fun v R => v = undef ∧ R = s0, fun v R => v = undef ∧ R = s0]) (onl [true, true, true, true, true, true, true, true, true, true, false, false, false, true, true, false, false, false, true, true, false, false]) (by kernel_rfl) (by kernel_rfl) (by kernel_rfl) (by kernel_rfl) (rs := [_, _, _, _, _, _, _, _, _, _]) rfl (by kernel_rfl) (by kernel_rfl) ?_ ?_
      · refine all_snoc (all_snoc (all_snoc (all_snoc (all_snoc (all_snoc (all_snoc (all_snoc (all_snoc (all_snoc (all_snoc (all_snoc (all_snoc (all_snoc (all_snoc (all_snoc (all_snoc (all_snoc (all_snoc (all_snoc (all_snoc (all_snoc (all_nil) ?_) ?_) ?_) ?_) ?_) ?_) ?_) ?_) ?_) ?_) ?_) ?_) ?_) ?_) ?_) ?_) ?_) ?_) ?_) ?_) ?_) ?_
        · refine ⟨fun o ho vs Rs f' S' w hp hf hx hS hR hs => ?_⟩
          obtain rfl := Option.some.inj ho
          refine And.intro (want_none rfl) (And.intro (fun _ => ?_) (fun h => by cases h))
          have hF := fr_next (rfl) ((hx 0 (by kernel_rfl)).trans (by kernel_rfl : (_ : Value) = .slice A0 l0.length c0))
          refine ls_fr hF ?_
          refine ls_val (v := .slice A0 l0.length c0) rfl rfl (by kernel_rfl) (fun w => by kernel_rfl) ?_
          exact ls_fin s0 (.slice A0 l0.length c0) (congrArg (fun z => upd z 28 _) hF.symm) ⟨rfl, rfl⟩ (sub_nil _)
        · refine ⟨fun o ho vs Rs f' S' w hp hf hx hS hR hs => ?_⟩
          obtain rfl := Option.some.inj ho
          refine And.intro (want_none rfl) (And.intro (fun _ => ?_) (fun h => by cases h))
          have hF := fr_next (rfl) ((hx 1 (by kernel_rfl)).trans (by kernel_rfl : (_ : Value) = .int .u64 a1))
          refine ls_fr hF ?_
          refine ls_val (v := .int .u64 a1) rfl rfl (by kernel_rfl) (fun w => by kernel_rfl) ?_
          exact ls_fin s0 (.int .u64 a1) (congrArg (fun z => upd z 29 _) hF.symm) ⟨rfl, rfl⟩ (sub_nil _)
        · refine ⟨fun o ho vs Rs f' S' w hp hf hx hS hR hs => ?_⟩
          obtain rfl := Option.some.inj ho
          obtain ⟨hv0, hR0⟩ := hp 0 (by kernel_rfl)
          obtain ⟨hv1, hR1⟩ := hp 1 (by kernel_rfl)
          refine And.intro (want_none rfl) (And.intro (fun _ => ?_) (fun h => by cases h))
          have hF := fr_next (fr_next (rfl) ((hf 0 28 (by kernel_rfl) rfl).trans hv0)) ((hf 1 29 (by kernel_rfl) rfl).trans hv1)
          refine ls_fr hF ?_
          refine ls_call (fid := 17) (vals := #[.slice A0 l0.length c0, .int .u64 a1]) (X := (Option Addr × Nat)) (fun x => .slice x.1 t38.length x.2) (fun x => sput s0 0 (some (Ck.sl 5 (Value.int .u8) x.1 x.2 t38))) 0 rfl rfl (by kernel_rfl) (fun w => by kernel_rfl) (fun w1 hs1 => codec_Short.calls k A0 c0 l0 a1 t38 w1 (hs1.old (hs.old R0)) C0 hc39) ?_
          intro x40
          exact ls_fin (sput s0 0 (some (Ck.sl 5 (Value.int .u8) x40.1 x40.2 t38))) (.slice x40.1 t38.length x40.2) (congrArg (fun z => upd z 30 _) hF.symm) ⟨x40, rfl, rfl⟩ (sub_put (by exact rfl) (sub_nil _))
        · refine ⟨fun o ho vs Rs f' S' w hp hf hx hS hR hs => ?_⟩
          obtain rfl := Option.some.inj ho
          obtain ⟨x40, hv2, hR2⟩ := hp 2 (by kernel_rfl)
          have hT2_0 := (hR 2 0 (by kernel_rfl) (by decide)).trans (congrFun hR2 0)
          refine And.intro (want_none rfl) (And.intro (fun _ => ?_) (fun h => by cases h))
          have hF := fr_next (rfl) ((hf 2 30 (by kernel_rfl) rfl).trans hv2)
          refine ls_fr hF ?_
          refine ls_str (A := x40.1) (c := x40.2) (e := 5) (l := t38) rfl rfl (by kernel_rfl) rfl (by kernel_rfl) (by kernel_rfl) (by kernel_rfl) (by kernel_rfl) (fun w1 hs1 => (hs1.old (hs.rd (k := 16) hT2_0))) ?_
          exact ls_fin s0 (.string (strOfNums t38)) (congrArg (fun z => upd z 31 _) hF.symm) ⟨rfl, rfl⟩ (sub_nil _)
        · refine ⟨fun o ho vs Rs f' S' w hp hf hx hS hR hs => ?_⟩
          obtain rfl := Option.some.inj ho
          refine And.intro (want_none rfl) (And.intro (fun _ => ?_) (fun h => by cases h))
          have hF := fr_next (rfl) ((hx 0 (by kernel_rfl)).trans (by kernel_rfl : (_ : Value) = .slice A0 l0.length c0))
          refine ls_fr hF ?_
          refine ls_val (v := .slice A0 l0.length c0) rfl rfl (by kernel_rfl) (fun w => by kernel_rfl) ?_
          exact ls_fin s0 (.slice A0 l0.length c0) (congrArg (fun z => upd z 32 _) hF.symm) ⟨rfl, rfl⟩ (sub_nil _)
        · refine ⟨fun o ho vs Rs f' S' w hp hf hx hS hR hs => ?_⟩
          obtain rfl := Option.some.inj ho
          refine And.intro (want_none rfl) (And.intro (fun _ => ?_) (fun h => by cases h))
          have hF := fr_next (rfl) ((hx 1 (by kernel_rfl)).trans (by kernel_rfl : (_ : Value) = .int .u64 a1))
          refine ls_fr hF ?_
          refine ls_val (v := .int .u64 a1) rfl rfl (by kernel_rfl) (fun w => by kernel_rfl) ?_
          exact ls_fin s0 (.int .u64 a1) (congrArg (fun z => upd z 33 _) hF.symm) ⟨rfl, rfl⟩ (sub_nil _)
        · refine ⟨fun o ho vs Rs f' S' w hp hf hx hS hR hs => ?_⟩
          obtain rfl := Option.some.inj ho
          obtain ⟨hv4, hR4⟩ := hp 4 (by kernel_rfl)
          obtain ⟨hv5, hR5⟩ := hp 5 (by kernel_rfl)
          refine And.intro (want_none rfl) (And.intro (fun _ => ?_) (fun h => by cases h))
          have hF := fr_next (fr_next (rfl) ((hf 4 32 (by kernel_rfl) rfl).trans hv4)) ((hf 5 33 (by kernel_rfl) rfl).trans hv5)
          refine ls_fr hF ?_
          refine ls_call (fid := 18) (vals := #[.slice A0 l0.length c0, .int .u64 a1]) (X := (Option Addr × Nat)) (fun x => .slice x.1 t41.length x.2) (fun x => sput s0 0 (some (Ck.sl 5 (Value.int .u8) x.1 x.2 t41))) 0 rfl rfl (by kernel_rfl) (fun w => by kernel_rfl) (fun w1 hs1 => shadowboxref01_Short.calls k A0 c0 l0 a1 t41 w1 (hs1.old (hs.old R0)) C0 hc42) ?_
          intro x43
          exact ls_fin (sput s0 0 (some (Ck.sl 5 (Value.int .u8) x43.1 x43.2 t41))) (.slice x43.1 t41.length x43.2) (congrArg (fun z => upd z 34 _) hF.symm) ⟨x43, rfl, rfl⟩ (sub_put (by exact rfl) (sub_nil _))
        · refine ⟨fun o ho vs Rs f' S' w hp hf hx hS hR hs => ?_⟩
          obtain rfl := Option.some.inj ho
          obtain ⟨x43, hv6, hR6⟩ := hp 6 (by kernel_rfl)
          have hT6_0 := (hR 6 0 (by kernel_rfl) (by decide)).trans (congrFun hR6 0)
          refine And.intro (want_none rfl) (And.intro (fun _ => ?_) (fun h => by cases h))
          have hF := fr_next (rfl) ((hf 6 34 (by kernel_rfl) rfl).trans hv6)
          refine ls_fr hF ?_
          refine ls_str (A := x43.1) (c := x43.2) (e := 5) (l := t41) rfl rfl (by kernel_rfl) rfl (by kernel_rfl) (by kernel_rfl) (by kernel_rfl) (by kernel_rfl) (fun w1 hs1 => (hs1.old (hs.rd (k := 48) hT6_0))) ?_
          exact ls_fin s0 (.string (strOfNums t41)) (congrArg (fun z => upd z 35 _) hF.symm) ⟨rfl, rfl⟩ (sub_nil _)
        · refine ⟨fun o ho vs Rs f' S' w hp hf hx hS hR hs => ?_⟩
          obtain rfl := Option.some.inj ho
          obtain ⟨hv3, hR3⟩ := hp 3 (by kernel_rfl)
          obtain ⟨hv7, hR7⟩ := hp 7 (by kernel_rfl)
          refine And.intro (want_none rfl) (And.intro (fun _ => ?_) (fun h => by cases h))
          have hF := fr_next (fr_next (rfl) ((hf 3 31 (by kernel_rfl) rfl).trans hv3)) ((hf 7 35 (by kernel_rfl) rfl).trans hv7)
          refine ls_fr hF ?_
          refine ls_val (v := .bool ((strOfNums t38).toList == (strOfNums t41).toList)) rfl rfl (by kernel_rfl) (fun w => by kernel_rfl) ?_
          refine ls_ren 36 (v := .bool ((strOfNums t38).toList == (strOfNums t41).toList)) (v' := .bool false) (by kernel_rfl) (congrArg Value.bool (show ((strOfNums t38).toList == (strOfNums t41).toList) = false from Bool.eq_false_iff.mpr q44)) ?_
          exact ls_fin s0 (.bool false) ((upd_upd _ _ _ _).trans (congrArg (fun z => upd z 36 _) hF.symm)) ⟨rfl, rfl⟩ (sub_nil _)
        · refine ⟨fun o ho vs Rs f' S' w hp hf hx hS hR hs => ?_⟩
          obtain rfl := Option.some.inj ho
          obtain ⟨hv8, hR8⟩ := hp 8 (by kernel_rfl)
          refine And.intro (want_none rfl) (And.intro (fun _ => ?_) (fun h => by cases h))
          have hF := fr_next (rfl) ((hf 8 36 (by kernel_rfl) rfl).trans hv8)
          refine ls_fr hF ?_
          refine ls_val (v := .bool false) rfl rfl (by kernel_rfl) (fun w => by kernel_rfl) ?_
          exact ls_fin s0 (.bool false) (congrArg (fun z => upd z 37 _) hF.symm) ⟨rfl, rfl⟩ (sub_nil _)
        · refine ⟨fun o ho vs Rs f' S' w hp hf hx hS hR hs => ?_⟩
          obtain rfl := Option.some.inj ho
          obtain ⟨hv9, hR9⟩ := hp 9 (by kernel_rfl)
          refine And.intro ?_ (And.intro ?_ ?_)
          · exact want_is (j := 9) (t := 37) rfl rfl (by kernel_rfl) ((hf 9 37 (by kernel_rfl) rfl).trans hv9) rfl
          · intro h; cases h
          · intro _; exact ⟨rfl, rfl⟩
        · refine ⟨fun o ho vs Rs f' S' w hp hf hx hS hR hs => ?_⟩
          obtain rfl := Option.some.inj ho
          obtain ⟨hv9, hR9⟩ := hp 9 (by kernel_rfl)
          refine And.intro ?_ (And.intro ?_ ?_)
          · exact want_is (j := 9) (t := 37) rfl rfl (by kernel_rfl) ((hf 9 37 (by kernel_rfl) rfl).trans hv9) rfl
          · intro h; cases h
          · intro _; exact ⟨rfl, rfl⟩
        · refine ⟨fun o ho vs Rs f' S' w hp hf hx hS hR hs => ?_⟩
          obtain rfl := Option.some.inj ho
          obtain ⟨hv9, hR9⟩ := hp 9 (by kernel_rfl)
          obtain ⟨hv10, hR10⟩ := hp 10 (by kernel_rfl)
          obtain ⟨hv11, hR11⟩ := hp 11 (by kernel_rfl)
          refine And.intro ?_ (And.intro ?_ ?_)
          · exact want_is (j := 9) (t := 37) rfl rfl (by kernel_rfl) ((hf 9 37 (by kernel_rfl) rfl).trans hv9) rfl
          · intro h; cases h
          · intro _; exact ⟨rfl, rfl⟩
        · refine ⟨fun o ho vs Rs f' S' w hp hf hx hS hR hs => ?_⟩
          obtain rfl := Option.some.inj ho
          obtain ⟨hv9, hR9⟩ := hp 9 (by kernel_rfl)
          obtain ⟨hv12, hR12⟩ := hp 12 (by kernel_rfl)
          refine And.intro (want_none rfl) (And.intro (fun _ => ?_) (fun h => by cases h))
          have hF := fr_next (fr_next (rfl) ((hf 9 37 (by kernel_rfl) rfl).trans hv9)) ((hf 12 40 (by kernel_rfl) rfl).trans hv12)
          refine ls_fr hF ?_
          refine ls_val (v := .bool false) rfl rfl (by kernel_rfl) (fun w => by kernel_rfl) ?_
          exact ls_fin s0 (.bool false) (congrArg (fun z => upd z 41 _) hF.symm) ⟨rfl, rfl⟩ (sub_nil _)
        · refine ⟨fun o ho vs Rs f' S' w hp hf hx hS hR hs => ?_⟩
          obtain rfl := Option.some.inj ho
          obtain ⟨hv13, hR13⟩ := hp 13 (by kernel_rfl)
          refine And.intro (want_none rfl) (And.intro (fun _ => ?_) (fun h => by cases h))
          have hF := fr_next (rfl) ((hf 13 41 (by kernel_rfl) rfl).trans hv13)
          refine ls_fr hF ?_
          refine ls_val (v := .bool false) rfl rfl (by kernel_rfl) (fun w => by kernel_rfl) ?_
          exact ls_fin s0 (.bool false) (congrArg (fun z => upd z 42 _) hF.symm) ⟨rfl, rfl⟩ (sub_nil _)
        · refine ⟨fun o ho vs Rs f' S' w hp hf hx hS hR hs => ?_⟩
          obtain rfl := Option.some.inj ho
          obtain ⟨hv14, hR14⟩ := hp 14 (by kernel_rfl)
          refine And.intro ?_ (And.intro ?_ ?_)
          · exact want_is (j := 14) (t := 42) rfl rfl (by kernel_rfl) ((hf 14 42 (by kernel_rfl) rfl).trans hv14) rfl
          · intro h; cases h
          · intro _; exact ⟨rfl, rfl⟩
        · refine ⟨fun o ho vs Rs f' S' w hp hf hx hS hR hs => ?_⟩
          obtain rfl := Option.some.inj ho
          obtain ⟨hv14, hR14⟩ := hp 14 (by kernel_rfl)
          refine And.intro ?_ (And.intro ?_ ?_)
          · exact want_is (j := 14) (t := 42) rfl rfl (by kernel_rfl) ((hf 14 42 (by kernel_rfl) rfl).trans hv14) rfl
          · intro h; cases h
          · intro _; exact ⟨rfl, rfl⟩
        · refine ⟨fun o ho vs Rs f' S' w hp hf hx hS hR hs => ?_⟩
          obtain rfl := Option.some.inj ho
          obtain ⟨hv14, hR14⟩ := hp 14 (by kernel_rfl)
          obtain ⟨hv15, hR15⟩ := hp 15 (by kernel_rfl)
          obtain ⟨hv16, hR16⟩ := hp 16 (by kernel_rfl)
          refine And.intro ?_ (And.intro ?_ ?_)
          · exact want_is (j := 14) (t := 42) rfl rfl (by kernel_rfl) ((hf 14 42 (by kernel_rfl) rfl).trans hv14) rfl
          · intro h; cases h
          · intro _; exact ⟨rfl, rfl⟩
        · refine ⟨fun o ho vs Rs f' S' w hp hf hx hS hR hs => ?_⟩
          obtain rfl := Option.some.inj ho
          obtain ⟨hv14, hR14⟩ := hp 14 (by kernel_rfl)
          obtain ⟨hv17, hR17⟩ := hp 17 (by kernel_rfl)
          refine And.intro (want_none rfl) (And.intro (fun _ => ?_) (fun h => by cases h))
          have hF := fr_next (fr_next (rfl) ((hf 14 42 (by kernel_rfl) rfl).trans hv14)) ((hf 17 45 (by kernel_rfl) rfl).trans hv17)
          refine ls_fr hF ?_
          refine ls_val (v := .bool false) rfl rfl (by kernel_rfl) (fun w => by kernel_rfl) ?_
          exact ls_fin s0 (.bool false) (congrArg (fun z => upd z 46 _) hF.symm) ⟨rfl, rfl⟩ (sub_nil _)
        · refine ⟨fun o ho vs Rs f' S' w hp hf hx hS hR hs => ?_⟩
          obtain rfl := Option.some.inj ho
          obtain ⟨hv18, hR18⟩ := hp 18 (by kernel_rfl)
          refine And.intro (want_none rfl) (And.intro (fun _ => ?_) (fun h => by cases h))
          have hF := fr_next (rfl) ((hf 18 46 (by kernel_rfl) rfl).trans hv18)
          refine ls_fr hF ?_
          refine ls_val (v := .bool false) rfl rfl (by kernel_rfl) (fun w => by kernel_rfl) ?_
          exact ls_fin s0 (.bool false) (congrArg (fun z => upd z 47 _) hF.symm) ⟨rfl, rfl⟩ (sub_nil _)
        · refine ⟨fun o ho vs Rs f' S' w hp hf hx hS hR hs => ?_⟩
          obtain rfl := Option.some.inj ho
          obtain ⟨hv19, hR19⟩ := hp 19 (by kernel_rfl)
          refine And.intro ?_ (And.intro ?_ ?_)
          · exact want_is (j := 19) (t := 47) rfl rfl (by kernel_rfl) ((hf 19 47 (by kernel_rfl) rfl).trans hv19) rfl
          · intro h; cases h
          · intro _; exact ⟨rfl, rfl⟩
        · refine ⟨fun o ho vs Rs f' S' w hp hf hx hS hR hs => ?_⟩
          obtain rfl := Option.some.inj ho
          obtain ⟨hv19, hR19⟩ := hp 19 (by kernel_rfl)
          refine And.intro ?_ (And.intro ?_ ?_)
          · exact want_is (j := 19) (t := 47) rfl rfl (by kernel_rfl) ((hf 19 47 (by kernel_rfl) rfl).trans hv19) rfl
          · intro h; cases h
          · intro _; exact ⟨rfl, rfl⟩
      · intro vs Rs f' S' hp hf hx hS hR
        obtain ⟨x40, hv2, hR2⟩ := hp 2 (by kernel_rfl)
        have hT2_0 := (hR 2 0 (by kernel_rfl) (by decide)).trans (congrFun hR2 0)
        obtain ⟨x43, hv6, hR6⟩ := hp 6 (by kernel_rfl)
        have hT6_0 := (hR 6 0 (by kernel_rfl) (by decide)).trans (congrFun hR6 0)
        obtain ⟨hv19, hR19⟩ := hp 19 (by kernel_rfl)
        obtain ⟨hv20, hR20⟩ := hp 20 (by kernel_rfl)
        obtain ⟨hv21, hR21⟩ := hp 21 (by kernel_rfl)
        refine ls_fr (F := upd f' 47 (.bool false)) (fr_next (rfl) ((hf 19 47 (by kernel_rfl) rfl).trans hv19)) ?_
        refine ls_sub (s0) (sub_nil _) ?_
        refine ls_off (j := 19) (t := 47) (b := true) (c := false) rfl rfl (by kernel_rfl) (by kernel_rfl) rfl rfl (by kernel_rfl) ?_
        refine ls_val (v := .bool false) rfl rfl (by kernel_rfl) (fun w => by kernel_rfl) ?_
        refine ls_val (v := .bool false) rfl rfl (by kernel_rfl) (fun w => by kernel_rfl) ?_
        refine ls_off (j := 24) (t := 52) (b := true) (c := false) rfl rfl (by kernel_rfl) (by kernel_rfl) rfl rfl (by kernel_rfl) ?_
        refine ls_off (j := 24) (t := 52) (b := true) (c := false) rfl rfl (by kernel_rfl) (by kernel_rfl) rfl rfl (by kernel_rfl) ?_
        refine ls_off (j := 24) (t := 52) (b := true) (c := false) rfl rfl (by kernel_rfl) (by kernel_rfl) rfl rfl (by kernel_rfl) ?_
        refine ls_val (v := .bool false) rfl rfl (by kernel_rfl) (fun w => by kernel_rfl) ?_
        refine ls_val (v := .bool false) rfl rfl (by kernel_rfl) (fun w => by kernel_rfl) ?_
        refine ls_val (v := .bool false) rfl rfl (by kernel_rfl) (fun w => by kernel_rfl) ?_
        refine ls_val (v := .bool false) rfl rfl (by kernel_rfl) (fun w => by kernel_rfl) ?_
        refine ls_end ?_
        refine qn_then ?_
        refine cs_ret' ?_
        obtain rfl := Option.some.inj H
        refine qr_end1 rfl (fun w' hs => ⟨(), rfl, ?_⟩)
        exact hs.sub (sub_nil _)

end Go.Proofs.Ytknjphpfofbdiaa.G
