/- Printed by a program of this session (sx.py): plain functions, and walks that show that the code comes to them; no condition. -/
import Derived.Test.YtknjphpfofbdiaaProg
import Derived.Test.YtknjphpfofbdiaaSx
import Derived.Test.YtknjphpfofbdiaaGa
set_option linter.unusedVariables false
namespace Go.Proofs.Ytknjphpfofbdiaa.G
open Go Go.RowKit Go.Proofs.Ytknjphpfofbdiaa.Sx

/-! ### shadowbox/shadowboxlaw01.CodecFixed: function 4 -/
def shadowboxlaw01_CodecFixed.f (k : Nat) (l0 : List Int) (a1 : Int) (a2 : Int) : Option (Bool) :=
  (if (l0.length : Int) > (2000 : Int) then (if (2000 : Int) ≤ (l0.length : Int) then lt (l0.take ((2000 : Int)).toNat) fun xl7 => (codec_Take.f k xl7 a1).bind fun t12 => (shadowboxref01_Take.f k xl7 a1).bind fun t15 => (codec_Fixed.f k xl7 a1 ([a2])).bind fun t19 => (shadowboxref01_Fixed.f k xl7 a1 a2).bind fun t22 => (if ((strOfNums t19).toList == (strOfNums t22).toList) = true then (if t12.1 = t15.1 then (if ((strOfNums t12.2.1).toList == (strOfNums t15.2.1).toList) = true then (if (t12.2.2 == t15.2.2) = true then (codec_Fixed.f k ([] : List Int) (2 : Int) ([(258 : Int), (1 : Int)])).bind fun t30 => some ((strOfNums t30).toList == (⟨#[2, 1, 1, 0]⟩ : ByteArray).toList) else some false) else some false) else some false) else some false) else none) else (codec_Take.f k l0 a1).bind fun t33 => (shadowboxref01_Take.f k l0 a1).bind fun t36 => (codec_Fixed.f k l0 a1 ([a2])).bind fun t40 => (shadowboxref01_Fixed.f k l0 a1 a2).bind fun t43 => (if ((strOfNums t40).toList == (strOfNums t43).toList) = true then (if t33.1 = t36.1 then (if ((strOfNums t33.2.1).toList == (strOfNums t36.2.1).toList) = true then (if (t33.2.2 == t36.2.2) = true then (codec_Fixed.f k ([] : List Int) (2 : Int) ([(258 : Int), (1 : Int)])).bind fun t51 => some ((strOfNums t51).toList == (⟨#[2, 1, 1, 0]⟩ : ByteArray).toList) else some false) else some false) else some false) else some false))
set_option maxRecDepth 100000 in
set_option maxHeartbeats 4000000 in
theorem shadowboxlaw01_CodecFixed.calls (k : Nat) (A0 : Option Addr) (c0 : Nat) (l0 : List Int) (a1 : Int) (a2 : Int) (r : Bool) (w : World) (R0 : Rd w A0 (en (Value.int .u8) l0)) (C0 : l0.length ≤ c0) (H : shadowboxlaw01_CodecFixed.f k l0 a1 a2 = some r) :
    Calls Try.prog 4 #[.slice A0 l0.length c0, .int .i64 a1, .int .u64 a2] w fun e w' => ∃ x : Unit, e = .returned (.bool r) ∧ St w s0 w' := by
  unfold shadowboxlaw01_CodecFixed.f at H
  refine enter (n := 67) Try.func4 rfl (by kernel_rfl) (by kernel_rfl) ?_
  refine cs_seq ?_
  refine cs_region (l := [_]) ?_
  refine ls_val (v := .bool false) rfl rfl (by kernel_rfl) (fun w => by kernel_rfl) ?_
  refine ls_end ?_
  refine qn_then ?_
  refine cs_seq ?_
  refine cs_seq ?_
  refine cs_region (l := [_, _, _]) ?_
  refine ls_val (v := .slice A0 l0.length c0) rfl rfl (by kernel_rfl) (fun w => by kernel_rfl) ?_
  refine ls_val (v := .int .i64 (l0.length : Int)) rfl rfl (by kernel_rfl) (fun w => by kernel_rfl) ?_
  refine ls_val (v := .bool (decide ((l0.length : Int) > (2000 : Int)))) rfl rfl (by kernel_rfl) (fun w => by kernel_rfl) ?_
  refine ls_end ?_
  refine qn_then ?_
  by_cases q1 : (l0.length : Int) > (2000 : Int)
  · replace H := ite_t q1 H
    refine cs_know (c := true) (dec_t q1) 15 (by kernel_rfl) ?_
    refine cs_true (by kernel_rfl) ?_
    refine cs_region (l := [_, _, _]) ?_
    refine ls_val (v := .slice A0 l0.length c0) rfl rfl (by kernel_rfl) (fun w => by kernel_rfl) ?_
    obtain ⟨q2, H⟩ := ite_need H
    obtain ⟨xl7, hy8, H⟩ := lt_some H
    have hz10 : 0 ≤ ((2000 : Int)).toNat := by omega
    have hz11 : ((2000 : Int)).toNat ≤ l0.length := by omega
    obtain ⟨xA3, xc4, he9, xC6, xR5⟩ := cut_at (A := A0) (c := c0) (l := l0) (E := (Value.int .u8)) 0 (((2000 : Int)).toNat) hz10 hz11 C0 R0 (m := xl7) (by rw [← hy8] <;> simp)
    refine ls_cutv (A := A0) (c := c0) (l := l0) (e := 5) (a := 0) (b := ((2000 : Int)).toNat) rfl rfl (by kernel_rfl) rfl (by kernel_rfl) (by kernel_rfl) (by kernel_rfl) (.inl ⟨rfl, rfl⟩) (.inr ⟨.i64, by rw [Int.toNat_of_nonneg (by first | assumption | omega)]; kernel_rfl⟩) hz10 hz11 C0 he9 ?_
    refine ls_val (v := .slice xA3 xl7.length xc4) rfl rfl (by kernel_rfl) (fun w => by kernel_rfl) ?_
    refine ls_end ?_
    refine qn_then ?_
    refine cs_seq ?_
    refine cs_region (l := [_, _, _, _, _, _, _, _, _, _]) ?_
    refine ls_val (v := .slice xA3 xl7.length xc4) rfl rfl (by kernel_rfl) (fun w => by kernel_rfl) ?_
    refine ls_val (v := .int .i64 a1) rfl rfl (by kernel_rfl) (fun w => by kernel_rfl) ?_
    obtain ⟨t12, hc13, H⟩ := bind_some H
    refine ls_call (fid := 11) (vals := #[.slice xA3 xl7.length xc4, .int .i64 a1]) (X := (Option Addr × Nat)) (fun x => .tuple #[.int .u64 t12.1, .slice x.1 t12.2.1.length x.2, .bool t12.2.2]) (fun x => sput s0 0 (some (Ck.sl 5 (Value.int .u8) x.1 x.2 t12.2.1))) 0 rfl rfl (by kernel_rfl) (fun w => by kernel_rfl) (fun w hs => codec_Take.calls k xA3 xc4 xl7 a1 t12 w (hs.old xR5) xC6 hc13) ?_
    intro x14
    refine ls_val (v := .tuple #[.int .u64 t12.1, .slice x14.1 t12.2.1.length x14.2, .bool t12.2.2]) rfl rfl (by kernel_rfl) (fun w => by kernel_rfl) ?_
    refine ls_val (v := .int .u64 t12.1) rfl rfl (by kernel_rfl) (fun w => by kernel_rfl) ?_
    refine ls_val (v := .slice x14.1 t12.2.1.length x14.2) rfl rfl (by kernel_rfl) (fun w => by kernel_rfl) ?_
    refine ls_val (v := .bool t12.2.2) rfl rfl (by kernel_rfl) (fun w => by kernel_rfl) ?_
    refine ls_val (v := .int .u64 t12.1) rfl rfl (by kernel_rfl) (fun w => by kernel_rfl) ?_
    refine ls_val (v := .slice x14.1 t12.2.1.length x14.2) rfl rfl (by kernel_rfl) (fun w => by kernel_rfl) ?_
    refine ls_val (v := .bool t12.2.2) rfl rfl (by kernel_rfl) (fun w => by kernel_rfl) ?_
    refine ls_end ?_
    refine qn_then ?_
    refine cs_seq ?_
    refine cs_region (l := [_, _, _, _, _, _, _, _, _, _]) ?_
    refine ls_val (v := .slice xA3 xl7.length xc4) rfl rfl (by kernel_rfl) (fun w => by kernel_rfl) ?_
    refine ls_val (v := .int .i64 a1) rfl rfl (by kernel_rfl) (fun w => by kernel_rfl) ?_
    obtain ⟨t15, hc16, H⟩ := bind_some H
    refine ls_call (fid := 12) (vals := #[.slice xA3 xl7.length xc4, .int .i64 a1]) (X := (Option Addr × Nat)) (fun x => .tuple #[.int .u64 t15.1, .slice x.1 t15.2.1.length x.2, .bool t15.2.2]) (fun x => sput s0 0 (some (Ck.sl 5 (Value.int .u8) x.1 x.2 t15.2.1))) 1 rfl rfl (by kernel_rfl) (fun w => by kernel_rfl) (fun w hs => shadowboxref01_Take.calls k xA3 xc4 xl7 a1 t15 w (hs.old xR5) xC6 hc16) ?_
    intro x17
    refine ls_val (v := .tuple #[.int .u64 t15.1, .slice x17.1 t15.2.1.length x17.2, .bool t15.2.2]) rfl rfl (by kernel_rfl) (fun w => by kernel_rfl) ?_
    refine ls_val (v := .int .u64 t15.1) rfl rfl (by kernel_rfl) (fun w => by kernel_rfl) ?_
    refine ls_val (v := .slice x17.1 t15.2.1.length x17.2) rfl rfl (by kernel_rfl) (fun w => by kernel_rfl) ?_
    refine ls_val (v := .bool t15.2.2) rfl rfl (by kernel_rfl) (fun w => by kernel_rfl) ?_
    refine ls_val (v := .int .u64 t15.1) rfl rfl (by kernel_rfl) (fun w => by kernel_rfl) ?_
    refine ls_val (v := .slice x17.1 t15.2.1.length x17.2) rfl rfl (by kernel_rfl) (fun w => by kernel_rfl) ?_
    refine ls_val (v := .bool t15.2.2) rfl rfl (by kernel_rfl) (fun w => by kernel_rfl) ?_
    refine ls_end ?_
    refine qn_then ?_
    refine cs_seq ?_
    obtain ⟨t19, hc20, H⟩ := bind_some H
    obtain ⟨t22, hc23, H⟩ := bind_some H
    by_cases q25 : ((strOfNums t19).toList == (strOfNums t22).toList) = true
    · replace H := ite_t q25 H
      by_cases q26 : t12.1 = t15.1
      · replace H := ite_t q26 H
        by_cases q27 : ((strOfNums t12.2.1).toList == (strOfNums t15.2.1).toList) = true
        · replace H := ite_t q27 H
          refine cs_draw (l := [_, _, _, _, _, _, _, _, _, _, _, _, _, _, _, _, _, _, _, _, _, _, _, _, _, _, _, _, _, _, _, _, _, _, _, _]) [[], [], [], [2], [0, 1, 2, 3], [0, 1, 2, 3, 4], [], [], [], [0, 1, 2, 3, 4, 6, 7, 8], [0, 1, 2, 3, 4, 6, 7, 8, 9], [0, 1, 2, 3, 4, 5, 6, 7, 8, 9, 10], [0, 1, 2, 3, 4, 5, 6, 7, 8, 9, 10, 11], [0, 1, 2, 3, 4, 5, 6, 7, 8, 9, 10, 11, 12], [0, 1, 2, 3, 4, 5, 6, 7, 8, 9, 10, 11, 12], [0, 1, 2, 3, 4, 5, 6, 7, 8, 9, 10, 11, 12, 13, 14], [0, 1, 2, 3, 4, 5, 6, 7, 8, 9, 10, 11, 12, 13, 14, 15], [0, 1, 2, 3, 4, 5, 6, 7, 8, 9, 10, 11, 12, 13, 14, 15, 16], [0, 1, 2, 3, 4, 5, 6, 7, 8, 9, 10, 11, 12, 13, 14, 15, 16, 17], [0, 1, 2, 3, 4, 5, 6, 7, 8, 9, 10, 11, 12, 13, 14, 15, 16, 17, 18], [0, 1, 2, 3, 4, 5, 6, 7, 8, 9, 10, 11, 12, 13, 14, 15, 16, 17], [0, 1, 2, 3, 4, 5, 6, 7, 8, 9, 10, 11, 12, 13, 14, 15, 16, 17, 20], [0, 1, 2, 3, 4, 5, 6, 7, 8, 9, 10, 11, 12, 13, 14, 15, 16, 17, 18, 19, 20, 21], [0, 1, 2, 3, 4, 5, 6, 7, 8, 9, 10, 11, 12, 13, 14, 15, 16, 17, 18, 19, 20, 21, 22], [0, 1, 2, 3, 4, 5, 6, 7, 8, 9, 10, 11, 12, 13, 14, 15, 16, 17, 18, 19, 20, 21, 22, 23], [0, 1, 2, 3, 4, 5, 6, 7, 8, 9, 10, 11, 12, 13, 14, 15, 16, 17, 18, 19, 20, 21, 22, 23, 24], [0, 1, 2, 3, 4, 5, 6, 7, 8, 9, 10, 11, 12, 13, 14, 15, 16, 17, 18, 19, 20, 21, 22, 23, 24], [0, 1, 2, 3, 4, 5, 6, 7, 8, 9, 10, 11, 12, 13, 14, 15, 16, 17, 18, 19, 20, 21, 22, 23, 24, 25, 26], [0, 1, 2, 3, 4, 5, 6, 7, 8, 9, 10, 11, 12, 13, 14, 15, 16, 17, 18, 19, 20, 21, 22, 23, 24, 25, 26, 27], [0, 1, 2, 3, 4, 5, 6, 7, 8, 9, 10, 11, 12, 13, 14, 15, 16, 17, 18, 19, 20, 21, 22, 23, 24, 25, 26, 27, 28], [0, 1, 2, 3, 4, 5, 6, 7, 8, 9, 10, 11, 12, 13, 14, 15, 16, 17, 18, 19, 20, 21, 22, 23, 24, 25, 26, 27, 28, 29], [0, 1, 2, 3, 4, 5, 6, 7, 8, 9, 10, 11, 12, 13, 14, 15, 16, 17, 18, 19, 20, 21, 22, 23, 24, 25, 26, 27, 28, 29, 30], [0, 1, 2, 3, 4, 5, 6, 7, 8, 9, 10, 11, 12, 13, 14, 15, 16, 17, 18, 19, 20, 21, 22, 23, 24, 25, 26, 27, 28, 29, 30, 31], [0, 1, 2, 3, 4, 5, 6, 7, 8, 9, 10, 11, 12, 13, 14, 15, 16, 17, 18, 19, 20, 21, 22, 23, 24, 25, 26, 27, 28, 29, 30, 31, 32], [0, 1, 2, 3, 4, 5, 6, 7, 8, 9, 10, 11, 12, 13, 14, 15, 16, 17, 18, 19, 20, 21, 22, 23, 24, 25, 26, 27, 28, 29, 30, 31, 32, 33], [0, 1, 2, 3, 4, 5, 6, 7, 8, 9, 10, 11, 12, 13, 14, 15, 16, 17, 18, 19, 20, 21, 22, 23, 24, 25, 26, 27, 28, 29, 30, 31, 32, 33, 34]] 27 2 (spl [fun v R => v = .slice xA3 xl7.length xc4 ∧ R = s0, fun v R => v = .int .i64 a1 ∧ R = s0, fun v R => v = .int .u64 a2 ∧ R = s0, fun v R => ∃ g18 : Nat, v = .slice (some ⟨g18, 0, none⟩) [a2].length [a2].length ∧ R = sput s0 0 (some (Ck.sl 22 (Value.int .u64) (some ⟨g18, 0, none⟩) ([a2]).length ([a2]))), fun v R => ∃ x21 : (Option Addr × Nat), v = .slice x21.1 t19.length x21.2 ∧ R = sput s0 0 (some (Ck.sl 5 (Value.int .u8) x21.1 x21.2 t19)), fun v R => v = .string (strOfNums t19) ∧ R = s0, fun v R => v = .slice xA3 xl7.length xc4 ∧ R = s0, fun v R => v = .int .i64 a1 ∧ R = s0, fun v R => v = .int .u64 a2 ∧ R = s0, fun v R => ∃ x24 : (Option Addr × Nat), v = .slice x24.1 t22.length x24.2 ∧ R = sput s0 0 (some (Ck.sl 5 (Value.int .u8) x24.1 x24.2 t22)), fun v R => v = .string (strOfNums t22) ∧ R = s0, fun v R => v = .bool true ∧ R = s0, fun v R => v = .bool true ∧ R = s0, fun v R => v = .int .u64 t12.1 ∧ R = s0, fun v R => v = .int .u64 t15.1 ∧ R = s0, fun v R => v = .bool true ∧ R = s0, fun v R => v = .bool true ∧ R = s0, fun v R => v = .bool true ∧ R = s0, fun v R => v = .slice x14.1 t12.2.1.length x14.2 ∧ R = s0, fun v R => v = .string (strOfNums t12.2.1) ∧ R = s0, fun v R => v = .slice x17.1 t15.2.1.length x17.2 ∧ R = s0, fun v R => v = .string (strOfNums t15.2.1) ∧ R = s0, fun v R => v = .bool true ∧ R = s0, fun v R => v = .bool true ∧ R = s0, fun v R => v = .bool true ∧ R = s0, fun v R => v = .bool t12.2.2 ∧ R = s0, fun v R => v = .bool t15.2.2 ∧ R = s0]) (onl [true, true, true, true, true, true, true, true, true, true, true, true, true, true, true, true, true, true, true, true, true, true, true, true, true, true, true]) (by kernel_rfl) (by kernel_rfl) (by kernel_rfl) (by kernel_rfl) (rs := [_, _, _, _, _, _, _, _, _]) rfl (by kernel_rfl) (by kernel_rfl) ?_ ?_
          · refine all_snoc (all_snoc (all_snoc (all_snoc (all_snoc (all_snoc (all_snoc (all_snoc (all_snoc (all_snoc (all_snoc (all_snoc (all_snoc (all_snoc (all_snoc (all_snoc (all_snoc (all_snoc (all_snoc (all_snoc (all_snoc (all_snoc (all_snoc (all_snoc (all_snoc (all_snoc (all_snoc (all_nil) ?_) ?_) ?_) ?_) ?_) ?_) ?_) ?_) ?_) ?_) ?_) ?_) ?_) ?_) ?_) ?_) ?_) ?_) ?_) ?_) ?_) ?_) ?_) ?_) ?_) ?_) ?_
            · refine ⟨fun o ho vs Rs f' S' w hp hf hx hS hR hs => ?_⟩
              obtain rfl := Option.some.inj ho
              refine And.intro (want_none rfl) (And.intro (fun _ => ?_) (fun h => by cases h))
              have hF := fr_next (rfl) ((hx 0 (by kernel_rfl)).trans (by kernel_rfl : (_ : Value) = .slice xA3 xl7.length xc4))
              refine ls_fr hF ?_
              refine ls_val (v := .slice xA3 xl7.length xc4) rfl rfl (by kernel_rfl) (fun w => by kernel_rfl) ?_
              exact ls_fin s0 (.slice xA3 xl7.length xc4) (congrArg (fun z => upd z 32 _) hF.symm) ⟨rfl, rfl⟩ (sub_nil _)
            · refine ⟨fun o ho vs Rs f' S' w hp hf hx hS hR hs => ?_⟩
              obtain rfl := Option.some.inj ho
              refine And.intro (want_none rfl) (And.intro (fun _ => ?_) (fun h => by cases h))
              have hF := fr_next (rfl) ((hx 1 (by kernel_rfl)).trans (by kernel_rfl : (_ : Value) = .int .i64 a1))
              refine ls_fr hF ?_
              refine ls_val (v := .int .i64 a1) rfl rfl (by kernel_rfl) (fun w => by kernel_rfl) ?_
              exact ls_fin s0 (.int .i64 a1) (congrArg (fun z => upd z 33 _) hF.symm) ⟨rfl, rfl⟩ (sub_nil _)
            · refine ⟨fun o ho vs Rs f' S' w hp hf hx hS hR hs => ?_⟩
              obtain rfl := Option.some.inj ho
              refine And.intro (want_none rfl) (And.intro (fun _ => ?_) (fun h => by cases h))
              have hF := fr_next (rfl) ((hx 2 (by kernel_rfl)).trans (by kernel_rfl : (_ : Value) = .int .u64 a2))
              refine ls_fr hF ?_
              refine ls_val (v := .int .u64 a2) rfl rfl (by kernel_rfl) (fun w => by kernel_rfl) ?_
              exact ls_fin s0 (.int .u64 a2) (congrArg (fun z => upd z 34 _) hF.symm) ⟨rfl, rfl⟩ (sub_nil _)
            · refine ⟨fun o ho vs Rs f' S' w hp hf hx hS hR hs => ?_⟩
              obtain rfl := Option.some.inj ho
              obtain ⟨hv2, hR2⟩ := hp 2 (by kernel_rfl)
              refine And.intro (want_none rfl) (And.intro (fun _ => ?_) (fun h => by cases h))
              have hF := fr_next (rfl) ((hf 2 34 (by kernel_rfl) rfl).trans hv2)
              refine ls_fr hF ?_
              refine ls_lit (E := (Value.int .u64)) (e := 22) 0 rfl rfl (by kernel_rfl) ([a2]) (by exact of_decide_eq_true (by kernel_rfl)) (fun w => by kernel_rfl) ?_
              intro g18
              exact ls_fin (sput s0 0 (some (Ck.sl 22 (Value.int .u64) (some ⟨g18, 0, none⟩) ([a2]).length ([a2])))) (.slice (some ⟨g18, 0, none⟩) [a2].length [a2].length) (congrArg (fun z => upd z 35 _) hF.symm) ⟨g18, rfl, rfl⟩ (sub_put (by exact rfl) (sub_nil _))
            · refine ⟨fun o ho vs Rs f' S' w hp hf hx hS hR hs => ?_⟩
              obtain rfl := Option.some.inj ho
              obtain ⟨hv0, hR0⟩ := hp 0 (by kernel_rfl)
              obtain ⟨hv1, hR1⟩ := hp 1 (by kernel_rfl)
              obtain ⟨g18, hv3, hR3⟩ := hp 3 (by kernel_rfl)
              have hT3_0 := (hR 3 0 (by kernel_rfl) (by decide)).trans (congrFun hR3 0)
              refine And.intro (want_none rfl) (And.intro (fun _ => ?_) (fun h => by cases h))
              have hF := fr_next (fr_next (fr_next (rfl) ((hf 0 32 (by kernel_rfl) rfl).trans hv0)) ((hf 1 33 (by kernel_rfl) rfl).trans hv1)) ((hf 3 35 (by kernel_rfl) rfl).trans hv3)
              refine ls_fr hF ?_
              refine ls_call (fid := 13) (vals := #[.slice xA3 xl7.length xc4, .int .i64 a1, .slice (some ⟨g18, 0, none⟩) ([a2]).length [a2].length]) (X := (Option Addr × Nat)) (fun x => .slice x.1 t19.length x.2) (fun x => sput s0 0 (some (Ck.sl 5 (Value.int .u8) x.1 x.2 t19))) 0 rfl rfl (by kernel_rfl) (fun w => by kernel_rfl) (fun w1 hs1 => codec_Fixed.calls k xA3 xc4 xl7 a1 (some ⟨g18, 0, none⟩) [a2].length ([a2]) t19 w1 (hs1.old (hs.old xR5)) xC6 (hs1.old (hs.rd (k := 26) hT3_0)) (hs.cap (k := 26) hT3_0) hc20) ?_
              intro x21
              exact ls_fin (sput s0 0 (some (Ck.sl 5 (Value.int .u8) x21.1 x21.2 t19))) (.slice x21.1 t19.length x21.2) (congrArg (fun z => upd z 36 _) hF.symm) ⟨x21, rfl, rfl⟩ (sub_put (by exact rfl) (sub_nil _))
            · refine ⟨fun o ho vs Rs f' S' w hp hf hx hS hR hs => ?_⟩
              obtain rfl := Option.some.inj ho
              obtain ⟨x21, hv4, hR4⟩ := hp 4 (by kernel_rfl)
              have hT4_0 := (hR 4 0 (by kernel_rfl) (by decide)).trans (congrFun hR4 0)
              refine And.intro (want_none rfl) (And.intro (fun _ => ?_) (fun h => by cases h))
              have hF := fr_next (rfl) ((hf 4 36 (by kernel_rfl) rfl).trans hv4)
              refine ls_fr hF ?_
              refine ls_str (A := x21.1) (c := x21.2) (e := 5) (l := t19) rfl rfl (by kernel_rfl) rfl (by kernel_rfl) (by kernel_rfl) (by kernel_rfl) (by kernel_rfl) (fun w1 hs1 => (hs1.old (hs.rd (k := 34) hT4_0))) ?_
              exact ls_fin s0 (.string (strOfNums t19)) (congrArg (fun z => upd z 37 _) hF.symm) ⟨rfl, rfl⟩ (sub_nil _)
            · refine ⟨fun o ho vs Rs f' S' w hp hf hx hS hR hs => ?_⟩
              obtain rfl := Option.some.inj ho
              refine And.intro (want_none rfl) (And.intro (fun _ => ?_) (fun h => by cases h))
              have hF := fr_next (rfl) ((hx 0 (by kernel_rfl)).trans (by kernel_rfl : (_ : Value) = .slice xA3 xl7.length xc4))
              refine ls_fr hF ?_
              refine ls_val (v := .slice xA3 xl7.length xc4) rfl rfl (by kernel_rfl) (fun w => by kernel_rfl) ?_
              exact ls_fin s0 (.slice xA3 xl7.length xc4) (congrArg (fun z => upd z 38 _) hF.symm) ⟨rfl, rfl⟩ (sub_nil _)
            · refine ⟨fun o ho vs Rs f' S' w hp hf hx hS hR hs => ?_⟩
              obtain rfl := Option.some.inj ho
              refine And.intro (want_none rfl) (And.intro (fun _ => ?_) (fun h => by cases h))
              have hF := fr_next (rfl) ((hx 1 (by kernel_rfl)).trans (by kernel_rfl : (_ : Value) = .int .i64 a1))
              refine ls_fr hF ?_
              refine ls_val (v := .int .i64 a1) rfl rfl (by kernel_rfl) (fun w => by kernel_rfl) ?_
              exact ls_fin s0 (.int .i64 a1) (congrArg (fun z => upd z 39 _) hF.symm) ⟨rfl, rfl⟩ (sub_nil _)
            · refine ⟨fun o ho vs Rs f' S' w hp hf hx hS hR hs => ?_⟩
              obtain rfl := Option.some.inj ho
              refine And.intro (want_none rfl) (And.intro (fun _ => ?_) (fun h => by cases h))
              have hF := fr_next (rfl) ((hx 2 (by kernel_rfl)).trans (by kernel_rfl : (_ : Value) = .int .u64 a2))
              refine ls_fr hF ?_
              refine ls_val (v := .int .u64 a2) rfl rfl (by kernel_rfl) (fun w => by kernel_rfl) ?_
              exact ls_fin s0 (.int .u64 a2) (congrArg (fun z => upd z 40 _) hF.symm) ⟨rfl, rfl⟩ (sub_nil _)
            · refine ⟨fun o ho vs Rs f' S' w hp hf hx hS hR hs => ?_⟩
              obtain rfl := Option.some.inj ho
              obtain ⟨hv6, hR6⟩ := hp 6 (by kernel_rfl)
              obtain ⟨hv7, hR7⟩ := hp 7 (by kernel_rfl)
              obtain ⟨hv8, hR8⟩ := hp 8 (by kernel_rfl)
              refine And.intro (want_none rfl) (And.intro (fun _ => ?_) (fun h => by cases h))
              have hF := fr_next (fr_next (fr_next (rfl) ((hf 6 38 (by kernel_rfl) rfl).trans hv6)) ((hf 7 39 (by kernel_rfl) rfl).trans hv7)) ((hf 8 40 (by kernel_rfl) rfl).trans hv8)
              refine ls_fr hF ?_
              refine ls_call (fid := 14) (vals := #[.slice xA3 xl7.length xc4, .int .i64 a1, .int .u64 a2]) (X := (Option Addr × Nat)) (fun x => .slice x.1 t22.length x.2) (fun x => sput s0 0 (some (Ck.sl 5 (Value.int .u8) x.1 x.2 t22))) 0 rfl rfl (by kernel_rfl) (fun w => by kernel_rfl) (fun w1 hs1 => shadowboxref01_Fixed.calls k xA3 xc4 xl7 a1 a2 t22 w1 (hs1.old (hs.old xR5)) xC6 hc23) ?_
              intro x24
              exact ls_fin (sput s0 0 (some (Ck.sl 5 (Value.int .u8) x24.1 x24.2 t22))) (.slice x24.1 t22.length x24.2) (congrArg (fun z => upd z 41 _) hF.symm) ⟨x24, rfl, rfl⟩ (sub_put (by exact rfl) (sub_nil _))
            · refine ⟨fun o ho vs Rs f' S' w hp hf hx hS hR hs => ?_⟩
              obtain rfl := Option.some.inj ho
              obtain ⟨x24, hv9, hR9⟩ := hp 9 (by kernel_rfl)
              have hT9_0 := (hR 9 0 (by kernel_rfl) (by decide)).trans (congrFun hR9 0)
              refine And.intro (want_none rfl) (And.intro (fun _ => ?_) (fun h => by cases h))
              have hF := fr_next (rfl) ((hf 9 41 (by kernel_rfl) rfl).trans hv9)
              refine ls_fr hF ?_
              refine ls_str (A := x24.1) (c := x24.2) (e := 5) (l := t22) rfl rfl (by kernel_rfl) rfl (by kernel_rfl) (by kernel_rfl) (by kernel_rfl) (by kernel_rfl) (fun w1 hs1 => (hs1.old (hs.rd (k := 74) hT9_0))) ?_
              exact ls_fin s0 (.string (strOfNums t22)) (congrArg (fun z => upd z 42 _) hF.symm) ⟨rfl, rfl⟩ (sub_nil _)
            · refine ⟨fun o ho vs Rs f' S' w hp hf hx hS hR hs => ?_⟩
              obtain rfl := Option.some.inj ho
              obtain ⟨hv5, hR5⟩ := hp 5 (by kernel_rfl)
              obtain ⟨hv10, hR10⟩ := hp 10 (by kernel_rfl)
              refine And.intro (want_none rfl) (And.intro (fun _ => ?_) (fun h => by cases h))
              have hF := fr_next (fr_next (rfl) ((hf 5 37 (by kernel_rfl) rfl).trans hv5)) ((hf 10 42 (by kernel_rfl) rfl).trans hv10)
              refine ls_fr hF ?_
              refine ls_val (v := .bool ((strOfNums t19).toList == (strOfNums t22).toList)) rfl rfl (by kernel_rfl) (fun w => by kernel_rfl) ?_
              refine ls_ren 43 (v := .bool ((strOfNums t19).toList == (strOfNums t22).toList)) (v' := .bool true) (by kernel_rfl) (congrArg Value.bool (show ((strOfNums t19).toList == (strOfNums t22).toList) = true from q25)) ?_
              exact ls_fin s0 (.bool true) ((upd_upd _ _ _ _).trans (congrArg (fun z => upd z 43 _) hF.symm)) ⟨rfl, rfl⟩ (sub_nil _)
            · refine ⟨fun o ho vs Rs f' S' w hp hf hx hS hR hs => ?_⟩
              obtain rfl := Option.some.inj ho
              obtain ⟨hv11, hR11⟩ := hp 11 (by kernel_rfl)
              refine And.intro (want_none rfl) (And.intro (fun _ => ?_) (fun h => by cases h))
              have hF := fr_next (rfl) ((hf 11 43 (by kernel_rfl) rfl).trans hv11)
              refine ls_fr hF ?_
              refine ls_val (v := .bool true) rfl rfl (by kernel_rfl) (fun w => by kernel_rfl) ?_
              exact ls_fin s0 (.bool true) (congrArg (fun z => upd z 44 _) hF.symm) ⟨rfl, rfl⟩ (sub_nil _)
            · refine ⟨fun o ho vs Rs f' S' w hp hf hx hS hR hs => ?_⟩
              obtain rfl := Option.some.inj ho
              obtain ⟨hv12, hR12⟩ := hp 12 (by kernel_rfl)
              refine And.intro (want_is (j := 12) (t := 44) rfl rfl (by kernel_rfl) ((hf 12 44 (by kernel_rfl) rfl).trans hv12) rfl) (And.intro (fun _ => ?_) (fun h => by cases h))
              have hF := fr_next (fr_next (rfl) ((hx 7 (by kernel_rfl)).trans (by kernel_rfl : (_ : Value) = .int .u64 t12.1))) ((hf 12 44 (by kernel_rfl) rfl).trans hv12)
              refine ls_fr hF ?_
              refine ls_val (v := .int .u64 t12.1) rfl rfl (by kernel_rfl) (fun w => by kernel_rfl) ?_
              exact ls_fin s0 (.int .u64 t12.1) (congrArg (fun z => upd z 45 _) hF.symm) ⟨rfl, rfl⟩ (sub_nil _)
            · refine ⟨fun o ho vs Rs f' S' w hp hf hx hS hR hs => ?_⟩
              obtain rfl := Option.some.inj ho
              obtain ⟨hv12, hR12⟩ := hp 12 (by kernel_rfl)
              refine And.intro (want_is (j := 12) (t := 44) rfl rfl (by kernel_rfl) ((hf 12 44 (by kernel_rfl) rfl).trans hv12) rfl) (And.intro (fun _ => ?_) (fun h => by cases h))
              have hF := fr_next (fr_next (rfl) ((hx 10 (by kernel_rfl)).trans (by kernel_rfl : (_ : Value) = .int .u64 t15.1))) ((hf 12 44 (by kernel_rfl) rfl).trans hv12)
              refine ls_fr hF ?_
              refine ls_val (v := .int .u64 t15.1) rfl rfl (by kernel_rfl) (fun w => by kernel_rfl) ?_
              exact ls_fin s0 (.int .u64 t15.1) (congrArg (fun z => upd z 46 _) hF.symm) ⟨rfl, rfl⟩ (sub_nil _)
            · refine ⟨fun o ho vs Rs f' S' w hp hf hx hS hR hs => ?_⟩
              obtain rfl := Option.some.inj ho
              obtain ⟨hv12, hR12⟩ := hp 12 (by kernel_rfl)
              obtain ⟨hv13, hR13⟩ := hp 13 (by kernel_rfl)
              obtain ⟨hv14, hR14⟩ := hp 14 (by kernel_rfl)
              refine And.intro (want_is (j := 12) (t := 44) rfl rfl (by kernel_rfl) ((hf 12 44 (by kernel_rfl) rfl).trans hv12) rfl) (And.intro (fun _ => ?_) (fun h => by cases h))
              have hF := fr_next (fr_next (fr_next (rfl) ((hf 12 44 (by kernel_rfl) rfl).trans hv12)) ((hf 13 45 (by kernel_rfl) rfl).trans hv13)) ((hf 14 46 (by kernel_rfl) rfl).trans hv14)
              refine ls_fr hF ?_
              refine ls_val (v := .bool (decide (t12.1 = t15.1))) rfl rfl (by kernel_rfl) (fun w => by kernel_rfl) ?_
              refine ls_ren 47 (v := .bool (decide (t12.1 = t15.1))) (v' := .bool true) (by kernel_rfl) (congrArg Value.bool (show (decide (t12.1 = t15.1)) = true from dec_t q26)) ?_
              exact ls_fin s0 (.bool true) ((upd_upd _ _ _ _).trans (congrArg (fun z => upd z 47 _) hF.symm)) ⟨rfl, rfl⟩ (sub_nil _)
            · refine ⟨fun o ho vs Rs f' S' w hp hf hx hS hR hs => ?_⟩
              obtain rfl := Option.some.inj ho
              obtain ⟨hv12, hR12⟩ := hp 12 (by kernel_rfl)
              obtain ⟨hv15, hR15⟩ := hp 15 (by kernel_rfl)
              refine And.intro (want_none rfl) (And.intro (fun _ => ?_) (fun h => by cases h))
              have hF := fr_next (fr_next (rfl) ((hf 12 44 (by kernel_rfl) rfl).trans hv12)) ((hf 15 47 (by kernel_rfl) rfl).trans hv15)
              refine ls_fr hF ?_
              refine ls_val (v := .bool true) rfl rfl (by kernel_rfl) (fun w => by kernel_rfl) ?_
              exact ls_fin s0 (.bool true) (congrArg (fun z => upd z 48 _) hF.symm) ⟨rfl, rfl⟩ (sub_nil _)
            · refine ⟨fun o ho vs Rs f' S' w hp hf hx hS hR hs => ?_⟩
              obtain rfl := Option.some.inj ho
              obtain ⟨hv16, hR16⟩ := hp 16 (by kernel_rfl)
              refine And.intro (want_none rfl) (And.intro (fun _ => ?_) (fun h => by cases h))
              have hF := fr_next (rfl) ((hf 16 48 (by kernel_rfl) rfl).trans hv16)
              refine ls_fr hF ?_
              refine ls_val (v := .bool true) rfl rfl (by kernel_rfl) (fun w => by kernel_rfl) ?_
              exact ls_fin s0 (.bool true) (congrArg (fun z => upd z 49 _) hF.symm) ⟨rfl, rfl⟩ (sub_nil _)
            · refine ⟨fun o ho vs Rs f' S' w hp hf hx hS hR hs => ?_⟩
              obtain rfl := Option.some.inj ho
              obtain ⟨hv17, hR17⟩ := hp 17 (by kernel_rfl)
              refine And.intro (want_is (j := 17) (t := 49) rfl rfl (by kernel_rfl) ((hf 17 49 (by kernel_rfl) rfl).trans hv17) rfl) (And.intro (fun _ => ?_) (fun h => by cases h))
              have hF := fr_next (fr_next (rfl) ((hx 8 (by kernel_rfl)).trans (by kernel_rfl : (_ : Value) = .slice x14.1 t12.2.1.length x14.2))) ((hf 17 49 (by kernel_rfl) rfl).trans hv17)
              refine ls_fr hF ?_
              refine ls_val (v := .slice x14.1 t12.2.1.length x14.2) rfl rfl (by kernel_rfl) (fun w => by kernel_rfl) ?_
              exact ls_fin s0 (.slice x14.1 t12.2.1.length x14.2) (congrArg (fun z => upd z 50 _) hF.symm) ⟨rfl, rfl⟩ (sub_nil _)
            · refine ⟨fun o ho vs Rs f' S' w hp hf hx hS hR hs => ?_⟩
              obtain rfl := Option.some.inj ho
              obtain ⟨hv17, hR17⟩ := hp 17 (by kernel_rfl)
              obtain ⟨hv18, hR18⟩ := hp 18 (by kernel_rfl)
              refine And.intro (want_is (j := 17) (t := 49) rfl rfl (by kernel_rfl) ((hf 17 49 (by kernel_rfl) rfl).trans hv17) rfl) (And.intro (fun _ => ?_) (fun h => by cases h))
              have hF := fr_next (fr_next (rfl) ((hf 17 49 (by kernel_rfl) rfl).trans hv17)) ((hf 18 50 (by kernel_rfl) rfl).trans hv18)
              refine ls_fr hF ?_
              refine ls_str (A := x14.1) (c := x14.2) (e := 5) (l := t12.2.1) rfl rfl (by kernel_rfl) rfl (by kernel_rfl) (by kernel_rfl) (by kernel_rfl) (by kernel_rfl) (fun w1 hs1 => (hs1.old (hs.rd (k := 0) ((hS 0 (by kernel_rfl)).trans (by exact rfl))))) ?_
              exact ls_fin s0 (.string (strOfNums t12.2.1)) (congrArg (fun z => upd z 51 _) hF.symm) ⟨rfl, rfl⟩ (sub_nil _)
            · refine ⟨fun o ho vs Rs f' S' w hp hf hx hS hR hs => ?_⟩
              obtain rfl := Option.some.inj ho
              obtain ⟨hv17, hR17⟩ := hp 17 (by kernel_rfl)
              refine And.intro (want_is (j := 17) (t := 49) rfl rfl (by kernel_rfl) ((hf 17 49 (by kernel_rfl) rfl).trans hv17) rfl) (And.intro (fun _ => ?_) (fun h => by cases h))
              have hF := fr_next (fr_next (rfl) ((hx 11 (by kernel_rfl)).trans (by kernel_rfl : (_ : Value) = .slice x17.1 t15.2.1.length x17.2))) ((hf 17 49 (by kernel_rfl) rfl).trans hv17)
              refine ls_fr hF ?_
              refine ls_val (v := .slice x17.1 t15.2.1.length x17.2) rfl rfl (by kernel_rfl) (fun w => by kernel_rfl) ?_
              exact ls_fin s0 (.slice x17.1 t15.2.1.length x17.2) (congrArg (fun z => upd z 52 _) hF.symm) ⟨rfl, rfl⟩ (sub_nil _)
            · refine ⟨fun o ho vs Rs f' S' w hp hf hx hS hR hs => ?_⟩
              obtain rfl := Option.some.inj ho
              obtain ⟨hv17, hR17⟩ := hp 17 (by kernel_rfl)
              obtain ⟨hv20, hR20⟩ := hp 20 (by kernel_rfl)
              refine And.intro (want_is (j := 17) (t := 49) rfl rfl (by kernel_rfl) ((hf 17 49 (by kernel_rfl) rfl).trans hv17) rfl) (And.intro (fun _ => ?_) (fun h => by cases h))
              have hF := fr_next (fr_next (rfl) ((hf 17 49 (by kernel_rfl) rfl).trans hv17)) ((hf 20 52 (by kernel_rfl) rfl).trans hv20)
              refine ls_fr hF ?_
              refine ls_str (A := x17.1) (c := x17.2) (e := 5) (l := t15.2.1) rfl rfl (by kernel_rfl) rfl (by kernel_rfl) (by kernel_rfl) (by kernel_rfl) (by kernel_rfl) (fun w1 hs1 => (hs1.old (hs.rd (k := 1) ((hS 1 (by kernel_rfl)).trans (by exact rfl))))) ?_
              exact ls_fin s0 (.string (strOfNums t15.2.1)) (congrArg (fun z => upd z 53 _) hF.symm) ⟨rfl, rfl⟩ (sub_nil _)
            · refine ⟨fun o ho vs Rs f' S' w hp hf hx hS hR hs => ?_⟩
              obtain rfl := Option.some.inj ho
              obtain ⟨hv17, hR17⟩ := hp 17 (by kernel_rfl)
              obtain ⟨hv19, hR19⟩ := hp 19 (by kernel_rfl)
              obtain ⟨hv21, hR21⟩ := hp 21 (by kernel_rfl)
              refine And.intro (want_is (j := 17) (t := 49) rfl rfl (by kernel_rfl) ((hf 17 49 (by kernel_rfl) rfl).trans hv17) rfl) (And.intro (fun _ => ?_) (fun h => by cases h))
              have hF := fr_next (fr_next (fr_next (rfl) ((hf 17 49 (by kernel_rfl) rfl).trans hv17)) ((hf 19 51 (by kernel_rfl) rfl).trans hv19)) ((hf 21 53 (by kernel_rfl) rfl).trans hv21)
              refine ls_fr hF ?_
              refine ls_val (v := .bool ((strOfNums t12.2.1).toList == (strOfNums t15.2.1).toList)) rfl rfl (by kernel_rfl) (fun w => by kernel_rfl) ?_
              refine ls_ren 54 (v := .bool ((strOfNums t12.2.1).toList == (strOfNums t15.2.1).toList)) (v' := .bool true) (by kernel_rfl) (congrArg Value.bool (show ((strOfNums t12.2.1).toList == (strOfNums t15.2.1).toList) = true from q27)) ?_
              exact ls_fin s0 (.bool true) ((upd_upd _ _ _ _).trans (congrArg (fun z => upd z 54 _) hF.symm)) ⟨rfl, rfl⟩ (sub_nil _)
            · refine ⟨fun o ho vs Rs f' S' w hp hf hx hS hR hs => ?_⟩
              obtain rfl := Option.some.inj ho
              obtain ⟨hv17, hR17⟩ := hp 17 (by kernel_rfl)
              obtain ⟨hv22, hR22⟩ := hp 22 (by kernel_rfl)
              refine And.intro (want_none rfl) (And.intro (fun _ => ?_) (fun h => by cases h))
              have hF := fr_next (fr_next (rfl) ((hf 17 49 (by kernel_rfl) rfl).trans hv17)) ((hf 22 54 (by kernel_rfl) rfl).trans hv22)
              refine ls_fr hF ?_
              refine ls_val (v := .bool true) rfl rfl (by kernel_rfl) (fun w => by kernel_rfl) ?_
              exact ls_fin s0 (.bool true) (congrArg (fun z => upd z 55 _) hF.symm) ⟨rfl, rfl⟩ (sub_nil _)
            · refine ⟨fun o ho vs Rs f' S' w hp hf hx hS hR hs => ?_⟩
              obtain rfl := Option.some.inj ho
              obtain ⟨hv23, hR23⟩ := hp 23 (by kernel_rfl)
              refine And.intro (want_none rfl) (And.intro (fun _ => ?_) (fun h => by cases h))
              have hF := fr_next (rfl) ((hf 23 55 (by kernel_rfl) rfl).trans hv23)
              refine ls_fr hF ?_
              refine ls_val (v := .bool true) rfl rfl (by kernel_rfl) (fun w => by kernel_rfl) ?_
              exact ls_fin s0 (.bool true) (congrArg (fun z => upd z 56 _) hF.symm) ⟨rfl, rfl⟩ (sub_nil _)
            · refine ⟨fun o ho vs Rs f' S' w hp hf hx hS hR hs => ?_⟩
              obtain rfl := Option.some.inj ho
              obtain ⟨hv24, hR24⟩ := hp 24 (by kernel_rfl)
              refine And.intro (want_is (j := 24) (t := 56) rfl rfl (by kernel_rfl) ((hf 24 56 (by kernel_rfl) rfl).trans hv24) rfl) (And.intro (fun _ => ?_) (fun h => by cases h))
              have hF := fr_next (fr_next (rfl) ((hx 9 (by kernel_rfl)).trans (by kernel_rfl : (_ : Value) = .bool t12.2.2))) ((hf 24 56 (by kernel_rfl) rfl).trans hv24)
              refine ls_fr hF ?_
              refine ls_val (v := .bool t12.2.2) rfl rfl (by kernel_rfl) (fun w => by kernel_rfl) ?_
              exact ls_fin s0 (.bool t12.2.2) (congrArg (fun z => upd z 57 _) hF.symm) ⟨rfl, rfl⟩ (sub_nil _)
            · refine ⟨fun o ho vs Rs f' S' w hp hf hx hS hR hs => ?_⟩
              obtain rfl := Option.some.inj ho
              obtain ⟨hv24, hR24⟩ := hp 24 (by kernel_rfl)
              refine And.intro (want_is (j := 24) (t := 56) rfl rfl (by kernel_rfl) ((hf 24 56 (by kernel_rfl) rfl).trans hv24) rfl) (And.intro (fun _ => ?_) (fun h => by cases h))
              have hF := fr_next (fr_next (rfl) ((hx 12 (by kernel_rfl)).trans (by kernel_rfl : (_ : Value) = .bool t15.2.2))) ((hf 24 56 (by kernel_rfl) rfl).trans hv24)
              refine ls_fr hF ?_
              refine ls_val (v := .bool t15.2.2) rfl rfl (by kernel_rfl) (fun w => by kernel_rfl) ?_
              exact ls_fin s0 (.bool t15.2.2) (congrArg (fun z => upd z 58 _) hF.symm) ⟨rfl, rfl⟩ (sub_nil _)
          · intro vs Rs f' S' hp hf hx hS hR
            obtain ⟨g18, hv3, hR3⟩ := hp 3 (by kernel_rfl)
            have hT3_0 := (hR 3 0 (by kernel_rfl) (by decide)).trans (congrFun hR3 0)
            obtain ⟨x21, hv4, hR4⟩ := hp 4 (by kernel_rfl)
            have hT4_0 := (hR 4 0 (by kernel_rfl) (by decide)).trans (congrFun hR4 0)
            obtain ⟨x24, hv9, hR9⟩ := hp 9 (by kernel_rfl)
            have hT9_0 := (hR 9 0 (by kernel_rfl) (by decide)).trans (congrFun hR9 0)
            obtain ⟨hv24, hR24⟩ := hp 24 (by kernel_rfl)
            obtain ⟨hv25, hR25⟩ := hp 25 (by kernel_rfl)
            obtain ⟨hv26, hR26⟩ := hp 26 (by kernel_rfl)
            refine ls_fr (F := upd (upd (upd f' 56 (.bool true)) 57 (.bool t12.2.2)) 58 (.bool t15.2.2)) (fr_next (fr_next (fr_next (rfl) ((hf 24 56 (by kernel_rfl) rfl).trans hv24)) ((hf 25 57 (by kernel_rfl) rfl).trans hv25)) ((hf 26 58 (by kernel_rfl) rfl).trans hv26)) ?_
            refine ls_sub (s0) (sub_nil _) ?_
            refine ls_on (j := 24) (t := 56) (b := true) rfl rfl (by kernel_rfl) (by kernel_rfl) ?_
            refine ls_val (v := .bool (t12.2.2 == t15.2.2)) rfl rfl (by kernel_rfl) (fun w => by kernel_rfl) ?_
            refine ls_val (v := .bool (t12.2.2 == t15.2.2)) rfl rfl (by kernel_rfl) (fun w => by kernel_rfl) ?_
            refine ls_val (v := .bool (t12.2.2 == t15.2.2)) rfl rfl (by kernel_rfl) (fun w => by kernel_rfl) ?_
            by_cases q28 : (t12.2.2 == t15.2.2) = true
            · replace H := ite_t q28 H
              refine ls_know (c := true) (q28) 61 (by kernel_rfl) ?_
              refine ls_on (j := 29) (t := 61) (b := true) rfl rfl (by kernel_rfl) (by kernel_rfl) ?_
              refine ls_lit (E := (Value.int .u64)) (e := 22) 218 rfl rfl (by kernel_rfl) ([(258 : Int), (1 : Int)]) (by exact of_decide_eq_true (by kernel_rfl)) (fun w => by kernel_rfl) ?_
              intro g29
              refine ls_on (j := 29) (t := 61) (b := true) rfl rfl (by kernel_rfl) (by kernel_rfl) ?_
              obtain ⟨t30, hc31, H⟩ := bind_some H
              refine ls_call (fid := 13) (vals := #[.slice none ([] : List Int).length 0, .int .i64 (2 : Int), .slice (some ⟨g29, 0, none⟩) ([(258 : Int), (1 : Int)]).length [(258 : Int), (1 : Int)].length]) (X := (Option Addr × Nat)) (fun x => .slice x.1 t30.length x.2) (fun x => sput s0 0 (some (Ck.sl 5 (Value.int .u8) x.1 x.2 t30))) 219 rfl rfl (by kernel_rfl) (fun w => by kernel_rfl) (fun w hs => codec_Fixed.calls k none 0 ([] : List Int) (2 : Int) (some ⟨g29, 0, none⟩) [(258 : Int), (1 : Int)].length ([(258 : Int), (1 : Int)]) t30 w (Rd.nil _ _) (Nat.le_refl 0) (hs.rd (k := 218) (by exact rfl)) (hs.cap (k := 218) (by exact rfl)) hc31) ?_
              intro x32
              refine ls_on (j := 29) (t := 61) (b := true) rfl rfl (by kernel_rfl) (by kernel_rfl) ?_
              refine ls_str (A := x32.1) (c := x32.2) (e := 5) (l := t30) rfl rfl (by kernel_rfl) rfl (by kernel_rfl) (by kernel_rfl) (by kernel_rfl) (by kernel_rfl) (fun w hs => (hs.rd (k := 219) (by exact rfl))) ?_
              refine ls_on (j := 29) (t := 61) (b := true) rfl rfl (by kernel_rfl) (by kernel_rfl) ?_
              refine ls_val (v := .bool ((strOfNums t30).toList == (⟨#[2, 1, 1, 0]⟩ : ByteArray).toList)) rfl rfl (by kernel_rfl) (fun w => by kernel_rfl) ?_
              refine ls_val (v := .bool ((strOfNums t30).toList == (⟨#[2, 1, 1, 0]⟩ : ByteArray).toList)) rfl rfl (by kernel_rfl) (fun w => by kernel_rfl) ?_
              refine ls_val (v := .bool ((strOfNums t30).toList == (⟨#[2, 1, 1, 0]⟩ : ByteArray).toList)) rfl rfl (by kernel_rfl) (fun w => by kernel_rfl) ?_
              refine ls_end ?_
              refine qn_then ?_
              refine cs_ret' ?_
              obtain rfl := Option.some.inj H
              refine qr_end1 rfl (fun w' hs => ⟨(), rfl, ?_⟩)
              exact hs.sub (sub_nil _)
            · replace H := ite_f q28 H
              refine ls_know (c := false) (Bool.eq_false_iff.mpr q28) 61 (by kernel_rfl) ?_
              refine ls_off (j := 29) (t := 61) (b := true) (c := false) rfl rfl (by kernel_rfl) (by kernel_rfl) rfl rfl (by kernel_rfl) ?_
              refine ls_off (j := 29) (t := 61) (b := true) (c := false) rfl rfl (by kernel_rfl) (by kernel_rfl) rfl rfl (by kernel_rfl) ?_
              refine ls_off (j := 29) (t := 61) (b := true) (c := false) rfl rfl (by kernel_rfl) (by kernel_rfl) rfl rfl (by kernel_rfl) ?_
              refine ls_off (j := 29) (t := 61) (b := true) (c := false) rfl rfl (by kernel_rfl) (by kernel_rfl) rfl rfl (by kernel_rfl) ?_
              refine ls_val (v := .bool false) rfl rfl (by kernel_rfl) (fun w => by kernel_rfl) ?_
              refine ls_val (v := .bool false) rfl rfl (by kernel_rfl) (fun w => by kernel_rfl) ?_
              refine ls_end ?_
              refine qn_then ?_
              refine cs_ret' ?_
              obtain rfl := Option.some.inj H
              refine qr_end1 rfl (fun w' hs => ⟨(), rfl, ?_⟩)
              exact hs.sub (sub_nil _)
        · replace H := ite_f q27 H
          refine cs_draw (l := [_, _, _, _, _, _, _, _, _, _, _, _, _, _, _, _, _, _, _, _, _, _, _, _, _, _, _, _, _, _, _, _, _, _, _, _]) [[], [], [], [2], [0, 1, 2, 3], [0, 1, 2, 3, 4], [], [], [], [0, 1, 2, 3, 4, 6, 7, 8], [0, 1, 2, 3, 4, 6, 7, 8, 9], [0, 1, 2, 3, 4, 5, 6, 7, 8, 9, 10], [0, 1, 2, 3, 4, 5, 6, 7, 8, 9, 10, 11], [0, 1, 2, 3, 4, 5, 6, 7, 8, 9, 10, 11, 12], [0, 1, 2, 3, 4, 5, 6, 7, 8, 9, 10, 11, 12], [0, 1, 2, 3, 4, 5, 6, 7, 8, 9, 10, 11, 12, 13, 14], [0, 1, 2, 3, 4, 5, 6, 7, 8, 9, 10, 11, 12, 13, 14, 15], [0, 1, 2, 3, 4, 5, 6, 7, 8, 9, 10, 11, 12, 13, 14, 15, 16], [0, 1, 2, 3, 4, 5, 6, 7, 8, 9, 10, 11, 12, 13, 14, 15, 16, 17], [0, 1, 2, 3, 4, 5, 6, 7, 8, 9, 10, 11, 12, 13, 14, 15, 16, 17, 18], [0, 1, 2, 3, 4, 5, 6, 7, 8, 9, 10, 11, 12, 13, 14, 15, 16, 17], [0, 1, 2, 3, 4, 5, 6, 7, 8, 9, 10, 11, 12, 13, 14, 15, 16, 17, 20], [0, 1, 2, 3, 4, 5, 6, 7, 8, 9, 10, 11, 12, 13, 14, 15, 16, 17, 18, 19, 20, 21], [0, 1, 2, 3, 4, 5, 6, 7, 8, 9, 10, 11, 12, 13, 14, 15, 16, 17, 18, 19, 20, 21, 22], [0, 1, 2, 3, 4, 5, 6, 7, 8, 9, 10, 11, 12, 13, 14, 15, 16, 17, 18, 19, 20, 21, 22, 23], [0, 1, 2, 3, 4, 5, 6, 7, 8, 9, 10, 11, 12, 13, 14, 15, 16, 17, 18, 19, 20, 21, 22, 23, 24], [0, 1, 2, 3, 4, 5, 6, 7, 8, 9, 10, 11, 12, 13, 14, 15, 16, 17, 18, 19, 20, 21, 22, 23, 24], [0, 1, 2, 3, 4, 5, 6, 7, 8, 9, 10, 11, 12, 13, 14, 15, 16, 17, 18, 19, 20, 21, 22, 23, 24, 25, 26], [0, 1, 2, 3, 4, 5, 6, 7, 8, 9, 10, 11, 12, 13, 14, 15, 16, 17, 18, 19, 20, 21, 22, 23, 24, 25, 26, 27], [0, 1, 2, 3, 4, 5, 6, 7, 8, 9, 10, 11, 12, 13, 14, 15, 16, 17, 18, 19, 20, 21, 22, 23, 24, 25, 26, 27, 28], [0, 1, 2, 3, 4, 5, 6, 7, 8, 9, 10, 11, 12, 13, 14, 15, 16, 17, 18, 19, 20, 21, 22, 23, 24, 25, 26, 27, 28, 29], [0, 1, 2, 3, 4, 5, 6, 7, 8, 9, 10, 11, 12, 13, 14, 15, 16, 17, 18, 19, 20, 21, 22, 23, 24, 25, 26, 27, 28, 29, 30], [0, 1, 2, 3, 4, 5, 6, 7, 8, 9, 10, 11, 12, 13, 14, 15, 16, 17, 18, 19, 20, 21, 22, 23, 24, 25, 26, 27, 28, 29, 30, 31], [0, 1, 2, 3, 4, 5, 6, 7, 8, 9, 10, 11, 12, 13, 14, 15, 16, 17, 18, 19, 20, 21, 22, 23, 24, 25, 26, 27, 28, 29, 30, 31, 32], [0, 1, 2, 3, 4, 5, 6, 7, 8, 9, 10, 11, 12, 13, 14, 15, 16, 17, 18, 19, 20, 21, 22, 23, 24, 25, 26, 27, 28, 29, 30, 31, 32, 33], [0, 1, 2, 3, 4, 5, 6, 7, 8, 9, 10, 11, 12, 13, 14, 15, 16, 17, 18, 19, 20, 21, 22, 23, 24, 25, 26, 27, 28, 29, 30, 31, 32, 33, 34]] 27 2 (spl [fun v R => v = .slice xA3 xl7.length xc4 ∧ R = s0, fun v R => v = .int .i64 a1 ∧ R = s0, fun v R => v = .int .u64 a2 ∧ R = s0, fun v R => ∃ g18 : Nat, v = .slice (some ⟨g18, 0, none⟩) [a2].length [a2].length ∧ R = sput s0 0 (some (Ck.sl 22 (Value.int .u64) (some ⟨g18, 0, none⟩) ([a2]).length ([a2]))), fun v R => ∃ x21 : (Option Addr × Nat), v = .slice x21.1 t19.length x21.2 ∧ R = sput s0 0 (some (Ck.sl 5 (Value.int .u8) x21.1 x21.2 t19)), fun v R => v = .string (strOfNums t19) ∧ R = s0, fun v R => v = .slice xA3 xl7.length xc4 ∧ R = s0, fun v R => v = .int .i64 a1 ∧ R = s0, fun v R => v = .int .u64 a2 ∧ R = s0, fun v R => ∃ x24 : (Option Addr × Nat), v = .slice x24.1 t22.length x24.2 ∧ R = sput s0 0 (some (Ck.sl 5 (Value.int .u8) x24.1 x24.2 t22)), fun v R => v = .string (strOfNums t22) ∧ R = s0, fun v R => v = .bool true ∧ R = s0, fun v R => v = .bool true ∧ R = s0, fun v R => v = .int .u64 t12.1 ∧ R = s0, fun v R => v = .int .u64 t15.1 ∧ R = s0, fun v R => v = .bool true ∧ R = s0, fun v R => v = .bool true ∧ R = s0, fun v R => v = .bool true ∧ R = s0, fun v R => v = .slice x14.1 t12.2.1.length x14.2 ∧ R = s0, fun v R => v = .string (strOfNums t12.2.1) ∧ R = s0, fun v R => v = .slice x17.1 t15.2.1.length x17.2 ∧ R = s0, fun v R => v = .string (strOfNums t15.2.1) ∧ R = s0, fun v R => v = .bool false ∧ R = s0, fun v R => v = .bool false ∧ R = s0, fun v R => v = .bool false ∧ R = s0, fun v R => v = undef ∧ R = s0, fun v R => v = undef ∧ R = s0]) (onl [true, true, true, true, true, true, true, true, true, true, true, true, true, true, true, true, true, true, true, true, true, true, true, true, true, false, false]) (by kernel_rfl) (by kernel_rfl) (by kernel_rfl) (by kernel_rfl) (rs := [_, _, _, _, _, _, _, _, _]) rfl (by kernel_rfl) (by kernel_rfl) ?_ ?_
          · refine all_snoc (all_snoc (all_snoc (all_snoc (all_snoc (all_snoc (all_snoc (all_snoc (all_snoc (all_snoc (all_snoc (all_snoc (all_snoc (all_snoc (all_snoc (all_snoc (all_snoc (all_snoc (all_snoc (all_snoc (all_snoc (all_snoc (all_snoc (all_snoc (all_snoc (all_snoc (all_snoc (all_nil) ?_) ?_) ?_) ?_) ?_) ?_) ?_) ?_) ?_) ?_) ?_) ?_) ?_) ?_) ?_) ?_) ?_) ?_) ?_) ?_) ?_) ?_) ?_) ?_) ?_) ?_) ?_
            · refine ⟨fun o ho vs Rs f' S' w hp hf hx hS hR hs => ?_⟩
              obtain rfl := Option.some.inj ho
              refine And.intro (want_none rfl) (And.intro (fun _ => ?_) (fun h => by cases h))
              have hF := fr_next (rfl) ((hx 0 (by kernel_rfl)).trans (by kernel_rfl : (_ : Value) = .slice xA3 xl7.length xc4))
              refine ls_fr hF ?_
              refine ls_val (v := .slice xA3 xl7.length xc4) rfl rfl (by kernel_rfl) (fun w => by kernel_rfl) ?_
              exact ls_fin s0 (.slice xA3 xl7.length xc4) (congrArg (fun z => upd z 32 _) hF.symm) ⟨rfl, rfl⟩ (sub_nil _)
            · refine ⟨fun o ho vs Rs f' S' w hp hf hx hS hR hs => ?_⟩
              obtain rfl := Option.some.inj ho
              refine And.intro (want_none rfl) (And.intro (fun _ => ?_) (fun h => by cases h))
              have hF := fr_next (rfl) ((hx 1 (by kernel_rfl)).trans (by kernel_rfl : (_ : Value) = .int .i64 a1))
              refine ls_fr hF ?_
              refine ls_val (v := .int .i64 a1) rfl rfl (by kernel_rfl) (fun w => by kernel_rfl) ?_
              exact ls_fin s0 (.int .i64 a1) (congrArg (fun z => upd z 33 _) hF.symm) ⟨rfl, rfl⟩ (sub_nil _)
            · refine ⟨fun o ho vs Rs f' S' w hp hf hx hS hR hs => ?_⟩
              obtain rfl := Option.some.inj ho
              refine And.intro (want_none rfl) (And.intro (fun _ => ?_) (fun h => by cases h))
              have hF := fr_next (rfl) ((hx 2 (by kernel_rfl)).trans (by kernel_rfl : (_ : Value) = .int .u64 a2))
              refine ls_fr hF ?_
              refine ls_val (v := .int .u64 a2) rfl rfl (by kernel_rfl) (fun w => by kernel_rfl) ?_
              exact ls_fin s0 (.int .u64 a2) (congrArg (fun z => upd z 34 _) hF.symm) ⟨rfl, rfl⟩ (sub_nil _)
            · refine ⟨fun o ho vs Rs f' S' w hp hf hx hS hR hs => ?_⟩
              obtain rfl := Option.some.inj ho
              obtain ⟨hv2, hR2⟩ := hp 2 (by kernel_rfl)
              refine And.intro (want_none rfl) (And.intro (fun _ => ?_) (fun h => by cases h))
              have hF := fr_next (rfl) ((hf 2 34 (by kernel_rfl) rfl).trans hv2)
              refine ls_fr hF ?_
              refine ls_lit (E := (Value.int .u64)) (e := 22) 0 rfl rfl (by kernel_rfl) ([a2]) (by exact of_decide_eq_true (by kernel_rfl)) (fun w => by kernel_rfl) ?_
              intro g18
              exact ls_fin (sput s0 0 (some (Ck.sl 22 (Value.int .u64) (some ⟨g18, 0, none⟩) ([a2]).length ([a2])))) (.slice (some ⟨g18, 0, none⟩) [a2].length [a2].length) (congrArg (fun z => upd z 35 _) hF.symm) ⟨g18, rfl, rfl⟩ (sub_put (by exact rfl) (sub_nil _))
            · refine ⟨fun o ho vs Rs f' S' w hp hf hx hS hR hs => ?_⟩
              obtain rfl := Option.some.inj ho
              obtain ⟨hv0, hR0⟩ := hp 0 (by kernel_rfl)
              obtain ⟨hv1, hR1⟩ := hp 1 (by kernel_rfl)
              obtain ⟨g18, hv3, hR3⟩ := hp 3 (by kernel_rfl)
              have hT3_0 := (hR 3 0 (by kernel_rfl) (by decide)).trans (congrFun hR3 0)
              refine And.intro (want_none rfl) (And.intro (fun _ => ?_) (fun h => by cases h))
              have hF := fr_next (fr_next (fr_next (rfl) ((hf 0 32 (by kernel_rfl) rfl).trans hv0)) ((hf 1 33 (by kernel_rfl) rfl).trans hv1)) ((hf 3 35 (by kernel_rfl) rfl).trans hv3)
              refine ls_fr hF ?_
              refine ls_call (fid := 13) (vals := #[.slice xA3 xl7.length xc4, .int .i64 a1, .slice (some ⟨g18, 0, none⟩) ([a2]).length [a2].length]) (X := (Option Addr × Nat)) (fun x => .slice x.1 t19.length x.2) (fun x => sput s0 0 (some (Ck.sl 5 (Value.int .u8) x.1 x.2 t19))) 0 rfl rfl (by kernel_rfl) (fun w => by kernel_rfl) (fun w1 hs1 => codec_Fixed.calls k xA3 xc4 xl7 a1 (some ⟨g18, 0, none⟩) [a2].length ([a2]) t19 w1 (hs1.old (hs.old xR5)) xC6 (hs1.old (hs.rd (k := 26) hT3_0)) (hs.cap (k := 26) hT3_0) hc20) ?_
              intro x21
              exact ls_fin (sput s0 0 (some (Ck.sl 5 (Value.int .u8) x21.1 x21.2 t19))) (.slice x21.1 t19.length x21.2) (congrArg (fun z => upd z 36 _) hF.symm) ⟨x21, rfl, rfl⟩ (sub_put (by exact rfl) (sub_nil _))
            · refine ⟨fun o ho vs Rs f' S' w hp hf hx hS hR hs => ?_⟩
              obtain rfl := Option.some.inj ho
              obtain ⟨x21, hv4, hR4⟩ := hp 4 (by kernel_rfl)
              have hT4_0 := (hR 4 0 (by kernel_rfl) (by decide)).trans (congrFun hR4 0)
              refine And.intro (want_none rfl) (And.intro (fun _ => ?_) (fun h => by cases h))
              have hF := fr_next (rfl) ((hf 4 36 (by kernel_rfl) rfl).trans hv4)
              refine ls_fr hF ?_
              refine ls_str (A := x21.1) (c := x21.2) (e := 5) (l := t19) rfl rfl (by kernel_rfl) rfl (by kernel_rfl) (by kernel_rfl) (by kernel_rfl) (by kernel_rfl) (fun w1 hs1 => (hs1.old (hs.rd (k := 34) hT4_0))) ?_
              exact ls_fin s0 (.string (strOfNums t19)) (congrArg (fun z => upd z 37 _) hF.symm) ⟨rfl, rfl⟩ (sub_nil _)
            · refine ⟨fun o ho vs Rs f' S' w hp hf hx hS hR hs => ?_⟩
              obtain rfl := Option.some.inj ho
              refine And.intro (want_none rfl) (And.intro (fun _ => ?_) (fun h => by cases h))
              have hF := fr_next (rfl) ((hx 0 (by kernel_rfl)).trans (by kernel_rfl : (_ : Value) = .slice xA3 xl7.length xc4))
              refine ls_fr hF ?_
              refine ls_val (v := .slice xA3 xl7.length xc4) rfl rfl (by kernel_rfl) (fun w => by kernel_rfl) ?_
              exact ls_fin s0 (.slice xA3 xl7.length xc4) (congrArg (fun z => upd z 38 _) hF.symm) ⟨rfl, rfl⟩ (sub_nil _)
            · refine ⟨fun o ho vs Rs f' S' w hp hf hx hS hR hs => ?_⟩
              obtain rfl := Option.some.inj ho
              refine And.intro (want_none rfl) (And.intro (fun _ => ?_) (fun h => by cases h))
              have hF := fr_next (rfl) ((hx 1 (by kernel_rfl)).trans (by kernel_rfl : (_ : Value) = .int .i64 a1))
              refine ls_fr hF ?_
              refine ls_val (v := .int .i64 a1) rfl rfl (by kernel_rfl) (fun w => by kernel_rfl) ?_
              exact ls_fin s0 (.int .i64 a1) (congrArg (fun z => upd z 39 _) hF.symm) ⟨rfl, rfl⟩ (sub_nil _)
            · refine ⟨fun o ho vs Rs f' S' w hp hf hx hS hR hs => ?_⟩
              obtain rfl := Option.some.inj ho
              refine And.intro (want_none rfl) (And.intro (fun _ => ?_) (fun h => by cases h))
              have hF := fr_next (rfl) ((hx 2 (by kernel_rfl)).trans (by kernel_rfl : (_ : Value) = .int .u64 a2))
              refine ls_fr hF ?_
              refine ls_val (v := .int .u64 a2) rfl rfl (by kernel_rfl) (fun w => by kernel_rfl) ?_
              exact ls_fin s0 (.int .u64 a2) (congrArg (fun z => upd z 40 _) hF.symm) ⟨rfl, rfl⟩ (sub_nil _)
            · refine ⟨fun o ho vs Rs f' S' w hp hf hx hS hR hs => ?_⟩
              obtain rfl := Option.some.inj ho
              obtain ⟨hv6, hR6⟩ := hp 6 (by kernel_rfl)
              obtain ⟨hv7, hR7⟩ := hp 7 (by kernel_rfl)
              obtain ⟨hv8, hR8⟩ := hp 8 (by kernel_rfl)
              refine And.intro (want_none rfl) (And.intro (fun _ => ?_) (fun h => by cases h))
              have hF := fr_next (fr_next (fr_next (rfl) ((hf 6 38 (by kernel_rfl) rfl).trans hv6)) ((hf 7 39 (by kernel_rfl) rfl).trans hv7)) ((hf 8 40 (by kernel_rfl) rfl).trans hv8)
              refine ls_fr hF ?_
              refine ls_call (fid := 14) (vals := #[.slice xA3 xl7.length xc4, .int .i64 a1, .int .u64 a2]) (X := (Option Addr × Nat)) (fun x => .slice x.1 t22.length x.2) (fun x => sput s0 0 (some (Ck.sl 5 (Value.int .u8) x.1 x.2 t22))) 0 rfl rfl (by kernel_rfl) (fun w => by kernel_rfl) (fun w1 hs1 => shadowboxref01_Fixed.calls k xA3 xc4 xl7 a1 a2 t22 w1 (hs1.old (hs.old xR5)) xC6 hc23) ?_
              intro x24
              exact ls_fin (sput s0 0 (some (Ck.sl 5 (Value.int .u8) x24.1 x24.2 t22))) (.slice x24.1 t22.length x24.2) (congrArg (fun z => upd z 41 _) hF.symm) ⟨x24, rfl, rfl⟩ (sub_put (by exact rfl) (sub_nil _))
            · refine ⟨fun o ho vs Rs f' S' w hp hf hx hS hR hs => ?_⟩
              obtain rfl := Option.some.inj ho
              obtain ⟨x24, hv9, hR9⟩ := hp 9 (by kernel_rfl)
              have hT9_0 := (hR 9 0 (by kernel_rfl) (by decide)).trans (congrFun hR9 0)
              refine And.intro (want_none rfl) (And.intro (fun _ => ?_) (fun h => by cases h))
              have hF := fr_next (rfl) ((hf 9 41 (by kernel_rfl) rfl).trans hv9)
              refine ls_fr hF ?_
              refine ls_str (A := x24.1) (c := x24.2) (e := 5) (l := t22) rfl rfl (by kernel_rfl) rfl (by kernel_rfl) (by kernel_rfl) (by kernel_rfl) (by kernel_rfl) (fun w1 hs1 => (hs1.old (hs.rd (k := 74) hT9_0))) ?_
              exact ls_fin s0 (.string (strOfNums t22)) (congrArg (fun z => upd z 42 _) hF.symm) ⟨rfl, rfl⟩ (sub_nil _)
            · refine ⟨fun o ho vs Rs f' S' w hp hf hx hS hR hs => ?_⟩
              obtain rfl := Option.some.inj ho
              obtain ⟨hv5, hR5⟩ := hp 5 (by kernel_rfl)
              obtain ⟨hv10, hR10⟩ := hp 10 (by kernel_rfl)
              refine And.intro (want_none rfl) (And.intro (fun _ => ?_) (fun h => by cases h))
              have hF := fr_next (fr_next (rfl) ((hf 5 37 (by kernel_rfl) rfl).trans hv5)) ((hf 10 42 (by kernel_rfl) rfl).trans hv10)
              refine ls_fr hF ?_
              refine ls_val (v := .bool ((strOfNums t19).toList == (strOfNums t22).toList)) rfl rfl (by kernel_rfl) (fun w => by kernel_rfl) ?_
              refine ls_ren 43 (v := .bool ((strOfNums t19).toList == (strOfNums t22).toList)) (v' := .bool true) (by kernel_rfl) (congrArg Value.bool (show ((strOfNums t19).toList == (strOfNums t22).toList) = true from q25)) ?_
              exact ls_fin s0 (.bool true) ((upd_upd _ _ _ _).trans (congrArg (fun z => upd z 43 _) hF.symm)) ⟨rfl, rfl⟩ (sub_nil _)
            · refine ⟨fun o ho vs Rs f' S' w hp hf hx hS hR hs => ?_⟩
              obtain rfl := Option.some.inj ho
              obtain ⟨hv11, hR11⟩ := hp 11 (by kernel_rfl)
              refine And.intro (want_none rfl) (And.intro (fun _ => ?_) (fun h => by cases h))
              have hF := fr_next (rfl) ((hf 11 43 (by kernel_rfl) rfl).trans hv11)
              refine ls_fr hF ?_
              refine ls_val (v := .bool true) rfl rfl (by kernel_rfl) (fun w => by kernel_rfl) ?_
              exact ls_fin s0 (.bool true) (congrArg (fun z => upd z 44 _) hF.symm) ⟨rfl, rfl⟩ (sub_nil _)
            · refine ⟨fun o ho vs Rs f' S' w hp hf hx hS hR hs => ?_⟩
              obtain rfl := Option.some.inj ho
              obtain ⟨hv12, hR12⟩ := hp 12 (by kernel_rfl)
              refine And.intro (want_is (j := 12) (t := 44) rfl rfl (by kernel_rfl) ((hf 12 44 (by kernel_rfl) rfl).trans hv12) rfl) (And.intro (fun _ => ?_) (fun h => by cases h))
              have hF := fr_next (fr_next (rfl) ((hx 7 (by kernel_rfl)).trans (by kernel_rfl : (_ : Value) = .int .u64 t12.1))) ((hf 12 44 (by kernel_rfl) rfl).trans hv12)
              refine ls_fr hF ?_
              refine ls_val (v := .int .u64 t12.1) rfl rfl (by kernel_rfl) (fun w => by kernel_rfl) ?_
              exact ls_fin s0 (.int .u64 t12.1) (congrArg (fun z => upd z 45 _) hF.symm) ⟨rfl, rfl⟩ (sub_nil _)
            · refine ⟨fun o ho vs Rs f' S' w hp hf hx hS hR hs => ?_⟩
              obtain rfl := Option.some.inj ho
              obtain ⟨hv12, hR12⟩ := hp 12 (by kernel_rfl)
              refine And.intro (want_is (j := 12) (t := 44) rfl rfl (by kernel_rfl) ((hf 12 44 (by kernel_rfl) rfl).trans hv12) rfl) (And.intro (fun _ => ?_) (fun h => by cases h))
              have hF := fr_next (fr_next (rfl) ((hx 10 (by kernel_rfl)).trans (by kernel_rfl : (_ : Value) = .int .u64 t15.1))) ((hf 12 44 (by kernel_rfl) rfl).trans hv12)
              refine ls_fr hF ?_
              refine ls_val (v := .int .u64 t15.1) rfl rfl (by kernel_rfl) (fun w => by kernel_rfl) ?_
              exact ls_fin s0 (.int .u64 t15.1) (congrArg (fun z => upd z 46 _) hF.symm) ⟨rfl, rfl⟩ (sub_nil _)
            · refine ⟨fun o ho vs Rs f' S' w hp hf hx hS hR hs => ?_⟩
              obtain rfl := Option.some.inj ho
              obtain ⟨hv12, hR12⟩ := hp 12 (by kernel_rfl)
              obtain ⟨hv13, hR13⟩ := hp 13 (by kernel_rfl)
              obtain ⟨hv14, hR14⟩ := hp 14 (by kernel_rfl)
              refine And.intro (want_is (j := 12) (t := 44) rfl rfl (by kernel_rfl) ((hf 12 44 (by kernel_rfl) rfl).trans hv12) rfl) (And.intro (fun _ => ?_) (fun h => by cases h))
              have hF := fr_next (fr_next (fr_next (rfl) ((hf 12 44 (by kernel_rfl) rfl).trans hv12)) ((hf 13 45 (by kernel_rfl) rfl).trans hv13)) ((hf 14 46 (by kernel_rfl) rfl).trans hv14)
              refine ls_fr hF ?_
              refine ls_val (v := .bool (decide (t12.1 = t15.1))) rfl rfl (by kernel_rfl) (fun w => by kernel_rfl) ?_
              refine ls_ren 47 (v := .bool (decide (t12.1 = t15.1))) (v' := .bool true) (by kernel_rfl) (congrArg Value.bool (show (decide (t12.1 = t15.1)) = true from dec_t q26)) ?_
              exact ls_fin s0 (.bool true) ((upd_upd _ _ _ _).trans (congrArg (fun z => upd z 47 _) hF.symm)) ⟨rfl, rfl⟩ (sub_nil _)
            · refine ⟨fun o ho vs Rs f' S' w hp hf hx hS hR hs => ?_⟩
              obtain rfl := Option.some.inj ho
              obtain ⟨hv12, hR12⟩ := hp 12 (by kernel_rfl)
              obtain ⟨hv15, hR15⟩ := hp 15 (by kernel_rfl)
              refine And.intro (want_none rfl) (And.intro (fun _ => ?_) (fun h => by cases h))
              have hF := fr_next (fr_next (rfl) ((hf 12 44 (by kernel_rfl) rfl).trans hv12)) ((hf 15 47 (by kernel_rfl) rfl).trans hv15)
              refine ls_fr hF ?_
              refine ls_val (v := .bool true) rfl rfl (by kernel_rfl) (fun w => by kernel_rfl) ?_
              exact ls_fin s0 (.bool true) (congrArg (fun z => upd z 48 _) hF.symm) ⟨rfl, rfl⟩ (sub_nil _)
            · refine ⟨fun o ho vs Rs f' S' w hp hf hx hS hR hs => ?_⟩
              obtain rfl := Option.some.inj ho
              obtain ⟨hv16, hR16⟩ := hp 16 (by kernel_rfl)
              refine And.intro (want_none rfl) (And.intro (fun _ => ?_) (fun h => by cases h))
              have hF := fr_next (rfl) ((hf 16 48 (by kernel_rfl) rfl).trans hv16)
              refine ls_fr hF ?_
              refine ls_val (v := .bool true) rfl rfl (by kernel_rfl) (fun w => by kernel_rfl) ?_
              exact ls_fin s0 (.bool true) (congrArg (fun z => upd z 49 _) hF.symm) ⟨rfl, rfl⟩ (sub_nil _)
            · refine ⟨fun o ho vs Rs f' S' w hp hf hx hS hR hs => ?_⟩
              obtain rfl := Option.some.inj ho
              obtain ⟨hv17, hR17⟩ := hp 17 (by kernel_rfl)
              refine And.intro (want_is (j := 17) (t := 49) rfl rfl (by kernel_rfl) ((hf 17 49 (by kernel_rfl) rfl).trans hv17) rfl) (And.intro (fun _ => ?_) (fun h => by cases h))
              have hF := fr_next (fr_next (rfl) ((hx 8 (by kernel_rfl)).trans (by kernel_rfl : (_ : Value) = .slice x14.1 t12.2.1.length x14.2))) ((hf 17 49 (by kernel_rfl) rfl).trans hv17)
              refine ls_fr hF ?_
              refine ls_val (v := .slice x14.1 t12.2.1.length x14.2) rfl rfl (by kernel_rfl) (fun w => by kernel_rfl) ?_
              exact ls_fin s0 (.slice x14.1 t12.2.1.length x14.2) (congrArg (fun z => upd z 50 _) hF.symm) ⟨rfl, rfl⟩ (sub_nil _)
            · refine ⟨fun o ho vs Rs f' S' w hp hf hx hS hR hs => ?_⟩
              obtain rfl := Option.some.inj ho
              obtain ⟨hv17, hR17⟩ := hp 17 (by kernel_rfl)
              obtain ⟨hv18, hR18⟩ := hp 18 (by kernel_rfl)
              refine And.intro (want_is (j := 17) (t := 49) rfl rfl (by kernel_rfl) ((hf 17 49 (by kernel_rfl) rfl).trans hv17) rfl) (And.intro (fun _ => ?_) (fun h => by cases h))
              have hF := fr_next (fr_next (rfl) ((hf 17 49 (by kernel_rfl) rfl).trans hv17)) ((hf 18 50 (by kernel_rfl) rfl).trans hv18)
              refine ls_fr hF ?_
              refine ls_str (A := x14.1) (c := x14.2) (e := 5) (l := t12.2.1) rfl rfl (by kernel_rfl) rfl (by kernel_rfl) (by kernel_rfl) (by kernel_rfl) (by kernel_rfl) (fun w1 hs1 => (hs1.old (hs.rd (k := 0) ((hS 0 (by kernel_rfl)).trans (by exact rfl))))) ?_
              exact ls_fin s0 (.string (strOfNums t12.2.1)) (congrArg (fun z => upd z 51 _) hF.symm) ⟨rfl, rfl⟩ (sub_nil _)
            · refine ⟨fun o ho vs Rs f' S' w hp hf hx hS hR hs => ?_⟩
              obtain rfl := Option.some.inj ho
              obtain ⟨hv17, hR17⟩ := hp 17 (by kernel_rfl)
              refine And.intro (want_is (j := 17) (t := 49) rfl rfl (by kernel_rfl) ((hf 17 49 (by kernel_rfl) rfl).trans hv17) rfl) (And.intro (fun _ => ?_) (fun h => by cases h))
              have hF := fr_next (fr_next (rfl) ((hx 11 (by kernel_rfl)).trans (by kernel_rfl : (_ : Value) = .slice x17.1 t15.2.1.length x17.2))) ((hf 17 49 (by kernel_rfl) rfl).trans hv17)
              refine ls_fr hF ?_
              refine ls_val (v := .slice x17.1 t15.2.1.length x17.2) rfl rfl (by kernel_rfl) (fun w => by kernel_rfl) ?_
              exact ls_fin s0 (.slice x17.1 t15.2.1.length x17.2) (congrArg (fun z => upd z 52 _) hF.symm) ⟨rfl, rfl⟩ (sub_nil _)
            · refine ⟨fun o ho vs Rs f' S' w hp hf hx hS hR hs => ?_⟩
              obtain rfl := Option.some.inj ho
              obtain ⟨hv17, hR17⟩ := hp 17 (by kernel_rfl)
              obtain ⟨hv20, hR20⟩ := hp 20 (by kernel_rfl)
              refine And.intro (want_is (j := 17) (t := 49) rfl rfl (by kernel_rfl) ((hf 17 49 (by kernel_rfl) rfl).trans hv17) rfl) (And.intro (fun _ => ?_) (fun h => by cases h))
              have hF := fr_next (fr_next (rfl) ((hf 17 49 (by kernel_rfl) rfl).trans hv17)) ((hf 20 52 (by kernel_rfl) rfl).trans hv20)
              refine ls_fr hF ?_
              refine ls_str (A := x17.1) (c := x17.2) (e := 5) (l := t15.2.1) rfl rfl (by kernel_rfl) rfl (by kernel_rfl) (by kernel_rfl) (by kernel_rfl) (by kernel_rfl) (fun w1 hs1 => (hs1.old (hs.rd (k := 1) ((hS 1 (by kernel_rfl)).trans (by exact rfl))))) ?_
              exact ls_fin s0 (.string (strOfNums t15.2.1)) (congrArg (fun z => upd z 53 _) hF.symm) ⟨rfl, rfl⟩ (sub_nil _)
            · refine ⟨fun o ho vs Rs f' S' w hp hf hx hS hR hs => ?_⟩
              obtain rfl := Option.some.inj ho
              obtain ⟨hv17, hR17⟩ := hp 17 (by kernel_rfl)
              obtain ⟨hv19, hR19⟩ := hp 19 (by kernel_rfl)
              obtain ⟨hv21, hR21⟩ := hp 21 (by kernel_rfl)
              refine And.intro (want_is (j := 17) (t := 49) rfl rfl (by kernel_rfl) ((hf 17 49 (by kernel_rfl) rfl).trans hv17) rfl) (And.intro (fun _ => ?_) (fun h => by cases h))
              have hF := fr_next (fr_next (fr_next (rfl) ((hf 17 49 (by kernel_rfl) rfl).trans hv17)) ((hf 19 51 (by kernel_rfl) rfl).trans hv19)) ((hf 21 53 (by kernel_rfl) rfl).trans hv21)
              refine ls_fr hF ?_
              refine ls_val (v := .bool ((strOfNums t12.2.1).toList == (strOfNums t15.2.1).toList)) rfl rfl (by kernel_rfl) (fun w => by kernel_rfl) ?_
              refine ls_ren 54 (v := .bool ((strOfNums t12.2.1).toList == (strOfNums t15.2.1).toList)) (v' := .bool false) (by kernel_rfl) (congrArg Value.bool (show ((strOfNums t12.2.1).toList == (strOfNums t15.2.1).toList) = false from Bool.eq_false_iff.mpr q27)) ?_
              exact ls_fin s0 (.bool false) ((upd_upd _ _ _ _).trans (congrArg (fun z => upd z 54 _) hF.symm)) ⟨rfl, rfl⟩ (sub_nil _)
            · refine ⟨fun o ho vs Rs f' S' w hp hf hx hS hR hs => ?_⟩
              obtain rfl := Option.some.inj ho
              obtain ⟨hv17, hR17⟩ := hp 17 (by kernel_rfl)
              obtain ⟨hv22, hR22⟩ := hp 22 (by kernel_rfl)
              refine And.intro (want_none rfl) (And.intro (fun _ => ?_) (fun h => by cases h))
              have hF := fr_next (fr_next (rfl) ((hf 17 49 (by kernel_rfl) rfl).trans hv17)) ((hf 22 54 (by kernel_rfl) rfl).trans hv22)
              refine ls_fr hF ?_
              refine ls_val (v := .bool false) rfl rfl (by kernel_rfl) (fun w => by kernel_rfl) ?_
              exact ls_fin s0 (.bool false) (congrArg (fun z => upd z 55 _) hF.symm) ⟨rfl, rfl⟩ (sub_nil _)
            · refine ⟨fun o ho vs Rs f' S' w hp hf hx hS hR hs => ?_⟩
              obtain rfl := Option.some.inj ho
              obtain ⟨hv23, hR23⟩ := hp 23 (by kernel_rfl)
              refine And.intro (want_none rfl) (And.intro (fun _ => ?_) (fun h => by cases h))
              have hF := fr_next (rfl) ((hf 23 55 (by kernel_rfl) rfl).trans hv23)
              refine ls_fr hF ?_
              refine ls_val (v := .bool false) rfl rfl (by kernel_rfl) (fun w => by kernel_rfl) ?_
              exact ls_fin s0 (.bool false) (congrArg (fun z => upd z 56 _) hF.symm) ⟨rfl, rfl⟩ (sub_nil _)
            · refine ⟨fun o ho vs Rs f' S' w hp hf hx hS hR hs => ?_⟩
              obtain rfl := Option.some.inj ho
              obtain ⟨hv24, hR24⟩ := hp 24 (by kernel_rfl)
              refine And.intro ?_ (And.intro ?_ ?_)
              · exact want_is (j := 24) (t := 56) rfl rfl (by kernel_rfl) ((hf 24 56 (by kernel_rfl) rfl).trans hv24) rfl
              · intro h; cases h
              · intro _; exact ⟨rfl, rfl⟩
            · refine ⟨fun o ho vs Rs f' S' w hp hf hx hS hR hs => ?_⟩
              obtain rfl := Option.some.inj ho
              obtain ⟨hv24, hR24⟩ := hp 24 (by kernel_rfl)
              refine And.intro ?_ (And.intro ?_ ?_)
              · exact want_is (j := 24) (t := 56) rfl rfl (by kernel_rfl) ((hf 24 56 (by kernel_rfl) rfl).trans hv24) rfl
              · intro h; cases h
              · intro _; exact ⟨rfl, rfl⟩
          · intro vs Rs f' S' hp hf hx hS hR
            obtain ⟨g18, hv3, hR3⟩ := hp 3 (by kernel_rfl)
            have hT3_0 := (hR 3 0 (by kernel_rfl) (by decide)).trans (congrFun hR3 0)
            obtain ⟨x21, hv4, hR4⟩ := hp 4 (by kernel_rfl)
            have hT4_0 := (hR 4 0 (by kernel_rfl) (by decide)).trans (congrFun hR4 0)
            obtain ⟨x24, hv9, hR9⟩ := hp 9 (by kernel_rfl)
            have hT9_0 := (hR 9 0 (by kernel_rfl) (by decide)).trans (congrFun hR9 0)
            obtain ⟨hv24, hR24⟩ := hp 24 (by kernel_rfl)
            obtain ⟨hv25, hR25⟩ := hp 25 (by kernel_rfl)
            obtain ⟨hv26, hR26⟩ := hp 26 (by kernel_rfl)
            refine ls_fr (F := upd f' 56 (.bool false)) (fr_next (rfl) ((hf 24 56 (by kernel_rfl) rfl).trans hv24)) ?_
            refine ls_sub (s0) (sub_nil _) ?_
            refine ls_off (j := 24) (t := 56) (b := true) (c := false) rfl rfl (by kernel_rfl) (by kernel_rfl) rfl rfl (by kernel_rfl) ?_
            refine ls_val (v := .bool false) rfl rfl (by kernel_rfl) (fun w => by kernel_rfl) ?_
            refine ls_val (v := .bool false) rfl rfl (by kernel_rfl) (fun w => by kernel_rfl) ?_
            refine ls_off (j := 29) (t := 61) (b := true) (c := false) rfl rfl (by kernel_rfl) (by kernel_rfl) rfl rfl (by kernel_rfl) ?_
            refine ls_off (j := 29) (t := 61) (b := true) (c := false) rfl rfl (by kernel_rfl) (by kernel_rfl) rfl rfl (by kernel_rfl) ?_
            refine ls_off (j := 29) (t := 61) (b := true) (c := false) rfl rfl (by kernel_rfl) (by kernel_rfl) rfl rfl (by kernel_rfl) ?_
            refine ls_off (j := 29) (t := 61) (b := true) (c := false) rfl rfl (by kernel_rfl) (by kernel_rfl) rfl rfl (by kernel_rfl) ?_
            refine ls_val (v := .bool false) rfl rfl (by kernel_rfl) (fun w => by kernel_rfl) ?_
            refine ls_val (v := .bool false) rfl rfl (by kernel_rfl) (fun w => by kernel_rfl) ?_
            refine ls_end ?_
            refine qn_then ?_
            refine cs_ret' ?_
            obtain rfl := Option.some.inj H
            refine qr_end1 rfl (fun w' hs => ⟨(), rfl, ?_⟩)
            exact hs.sub (sub_nil _)
      · replace H := ite_f q26 H
        refine cs_draw (l := [_, _, _, _, _, _, _, _, _, _, _, _, _, _, _, _, _, _, _, _, _, _, _, _, _, _, _, _, _, _, _, _, _, _, _, _]) [[], [], [], [2], [0, 1, 2, 3], [0, 1, 2, 3, 4], [], [], [], [0, 1, 2, 3, 4, 6, 7, 8], [0, 1, 2, 3, 4, 6, 7, 8, 9], [0, 1, 2, 3, 4, 5, 6, 7, 8, 9, 10], [0, 1, 2, 3, 4, 5, 6, 7, 8, 9, 10, 11], [0, 1, 2, 3, 4, 5, 6, 7, 8, 9, 10, 11, 12], [0, 1, 2, 3, 4, 5, 6, 7, 8, 9, 10, 11, 12], [0, 1, 2, 3, 4, 5, 6, 7, 8, 9, 10, 11, 12, 13, 14], [0, 1, 2, 3, 4, 5, 6, 7, 8, 9, 10, 11, 12, 13, 14, 15], [0, 1, 2, 3, 4, 5, 6, 7, 8, 9, 10, 11, 12, 13, 14, 15, 16], [0, 1, 2, 3, 4, 5, 6, 7, 8, 9, 10, 11, 12, 13, 14, 15, 16, 17], [0, 1, 2, 3, 4, 5, 6, 7, 8, 9, 10, 11, 12, 13, 14, 15, 16, 17, 18], [0, 1, 2, 3, 4, 5, 6, 7, 8, 9, 10, 11, 12, 13, 14, 15, 16, 17], [0, 1, 2, 3, 4, 5, 6, 7, 8, 9, 10, 11, 12, 13, 14, 15, 16, 17, 20], [0, 1, 2, 3, 4, 5, 6, 7, 8, 9, 10, 11, 12, 13, 14, 15, 16, 17, 18, 19, 20, 21], [0, 1, 2, 3, 4, 5, 6, 7, 8, 9, 10, 11, 12, 13, 14, 15, 16, 17, 18, 19, 20, 21, 22], [0, 1, 2, 3, 4, 5, 6, 7, 8, 9, 10, 11, 12, 13, 14, 15, 16, 17, 18, 19, 20, 21, 22, 23], [0, 1, 2, 3, 4, 5, 6, 7, 8, 9, 10, 11, 12, 13, 14, 15, 16, 17, 18, 19, 20, 21, 22, 23, 24], [0, 1, 2, 3, 4, 5, 6, 7, 8, 9, 10, 11, 12, 13, 14, 15, 16, 17, 18, 19, 20, 21, 22, 23, 24], [0, 1, 2, 3, 4, 5, 6, 7, 8, 9, 10, 11, 12, 13, 14, 15, 16, 17, 18, 19, 20, 21, 22, 23, 24, 25, 26], [0, 1, 2, 3, 4, 5, 6, 7, 8, 9, 10, 11, 12, 13, 14, 15, 16, 17, 18, 19, 20, 21, 22, 23, 24, 25, 26, 27], [0, 1, 2, 3, 4, 5, 6, 7, 8, 9, 10, 11, 12, 13, 14, 15, 16, 17, 18, 19, 20, 21, 22, 23, 24, 25, 26, 27, 28], [0, 1, 2, 3, 4, 5, 6, 7, 8, 9, 10, 11, 12, 13, 14, 15, 16, 17, 18, 19, 20, 21, 22, 23, 24, 25, 26, 27, 28, 29], [0, 1, 2, 3, 4, 5, 6, 7, 8, 9, 10, 11, 12, 13, 14, 15, 16, 17, 18, 19, 20, 21, 22, 23, 24, 25, 26, 27, 28, 29, 30], [0, 1, 2, 3, 4, 5, 6, 7, 8, 9, 10, 11, 12, 13, 14, 15, 16, 17, 18, 19, 20, 21, 22, 23, 24, 25, 26, 27, 28, 29, 30, 31], [0, 1, 2, 3, 4, 5, 6, 7, 8, 9, 10, 11, 12, 13, 14, 15, 16, 17, 18, 19, 20, 21, 22, 23, 24, 25, 26, 27, 28, 29, 30, 31, 32], [0, 1, 2, 3, 4, 5, 6, 7, 8, 9, 10, 11, 12, 13, 14, 15, 16, 17, 18, 19, 20, 21, 22, 23, 24, 25, 26, 27, 28, 29, 30, 31, 32, 33], [0, 1, 2, 3, 4, 5, 6, 7, 8, 9, 10, 11, 12, 13, 14, 15, 16, 17, 18, 19, 20, 21, 22, 23, 24, 25, 26, 27, 28, 29, 30, 31, 32, 33, 34]] 27 2 (spl [fun v R => v = .slice xA3 xl7.length xc4 ∧ R = s0, fun v R => v = .int .i64 a1 ∧ R = s0, fun v R => v = .int .u64 a2 ∧ R = s0, fun v R => ∃ g18 : Nat, v = .slice (some ⟨g18, 0, none⟩) [a2].length [a2].length ∧ R = sput s0 0 (some (Ck.sl 22 (Value.int .u64) (some ⟨g18, 0, none⟩) ([a2]).length ([a2]))), fun v R => ∃ x21 : (Option Addr × Nat), v = .slice x21.1 t19.length x21.2 ∧ R = sput s0 0 (some (Ck.sl 5 (Value.int .u8) x21.1 x21.2 t19)), fun v R => v = .string (strOfNums t19) ∧ R = s0, fun v R => v = .slice xA3 xl7.length xc4 ∧ R = s0, fun v R => v = .int .i64 a1 ∧ R = s0, fun v R => v = .int .u64 a2 ∧ R = s0, fun v R => ∃ x24 : (Option Addr × Nat), v = .slice x24.1 t22.length x24.2 ∧ R = sput s0 0 (some (Ck.sl 5 (Value.int .u8) x24.1 x24.2 t22)), fun v R => v = .string (strOfNums t22) ∧ R = s0, fun v R => v = .bool true ∧ R = s0, fun v R => v = .bool true ∧ R = s0, fun v R => v = .int .u64 t12.1 ∧ R = s0, fun v R => v = .int .u64 t15.1 ∧ R = s0, fun v R => v = .bool false ∧ R = s0, fun v R => v = .bool false ∧ R = s0, fun v R => v = .bool false ∧ R = s0, fun v R => v = undef ∧ R = s0, fun v R => v = undef ∧ R = s0, fun v R => v = undef ∧ R = s0, fun v R => v = undef ∧ R = s0, fun v R => v = undef ∧ R = s0, fun v R => v = .bool false ∧ R = s0, fun v R => v = .bool false ∧ R = s0, fun v R => v = undef ∧ R = s0, fun v R => v = undef ∧ R = s0]) (onl [true, true, true, true, true, true, true, true, true, true, true, true, true, true, true, true, true, true, false, false, false, false, false, true, true, false, false]) (by kernel_rfl) (by kernel_rfl) (by kernel_rfl) (by kernel_rfl) (rs := [_, _, _, _, _, _, _, _, _]) rfl (by kernel_rfl) (by kernel_rfl) ?_ ?_
        · refine all_snoc (all_snoc (all_snoc (all_snoc (all_snoc (all_snoc (all_snoc (all_snoc (all_snoc (all_snoc (all_snoc (all_snoc (all_snoc (all_snoc (all_snoc (all_snoc (all_snoc (all_snoc (all_snoc (all_snoc (all_snoc (all_snoc (all_snoc (all_snoc (all_snoc (all_snoc (all_snoc (all_nil) ?_) ?_) ?_) ?_) ?_) ?_) ?_) ?_) ?_) ?_) ?_) ?_) ?_) ?_) ?_) ?_) ?_) ?_) ?_) ?_) ?_) ?_) ?_) ?_) ?_) ?_) ?_
          · refine ⟨fun o ho vs Rs f' S' w hp hf hx hS hR hs => ?_⟩
            obtain rfl := Option.some.inj ho
            refine And.intro (want_none rfl) (And.intro (fun _ => ?_) (fun h => by cases h))
            have hF := fr_next (rfl) ((hx 0 (by kernel_rfl)).trans (by kernel_rfl : (_ : Value) = .slice xA3 xl7.length xc4))
            refine ls_fr hF ?_
            refine ls_val (v := .slice xA3 xl7.length xc4) rfl rfl (by kernel_rfl) (fun w => by kernel_rfl) ?_
            exact ls_fin s0 (.slice xA3 xl7.length xc4) (congrArg (fun z => upd z 32 _) hF.symm) ⟨rfl, rfl⟩ (sub_nil _)
          · refine ⟨fun o ho vs Rs f' S' w hp hf hx hS hR hs => ?_⟩
            obtain rfl := Option.some.inj ho
            refine And.intro (want_none rfl) (And.intro (fun _ => ?_) (fun h => by cases h))
            have hF := fr_next (rfl) ((hx 1 (by kernel_rfl)).trans (by kernel_rfl : (_ : Value) = .int .i64 a1))
            refine ls_fr hF ?_
            refine ls_val (v := .int .i64 a1) rfl rfl (by kernel_rfl) (fun w => by kernel_rfl) ?_
            exact ls_fin s0 (.int .i64 a1) (congrArg (fun z => upd z 33 _) hF.symm) ⟨rfl, rfl⟩ (sub_nil _)
          · refine ⟨fun o ho vs Rs f' S' w hp hf hx hS hR hs => ?_⟩
            obtain rfl := Option.some.inj ho
            refine And.intro (want_none rfl) (And.intro (fun _ => ?_) (fun h => by cases h))
            have hF := fr_next (rfl) ((hx 2 (by kernel_rfl)).trans (by kernel_rfl : (_ : Value) = .int .u64 a2))
            refine ls_fr hF ?_
            refine ls_val (v := .int .u64 a2) rfl rfl (by kernel_rfl) (fun w => by kernel_rfl) ?_
            exact ls_fin s0 (.int .u64 a2) (congrArg (fun z => upd z 34 _) hF.symm) ⟨rfl, rfl⟩ (sub_nil _)
          · refine ⟨fun o ho vs Rs f' S' w hp hf hx hS hR hs => ?_⟩
            obtain rfl := Option.some.inj ho
            obtain ⟨hv2, hR2⟩ := hp 2 (by kernel_rfl)
            refine And.intro (want_none rfl) (And.intro (fun _ => ?_) (fun h => by cases h))
            have hF := fr_next (rfl) ((hf 2 34 (by kernel_rfl) rfl).trans hv2)
            refine ls_fr hF ?_
            refine ls_lit (E := (Value.int .u64)) (e := 22) 0 rfl rfl (by kernel_rfl) ([a2]) (by exact of_decide_eq_true (by kernel_rfl)) (fun w => by kernel_rfl) ?_
            intro g18
            exact ls_fin (sput s0 0 (some (Ck.sl 22 (Value.int .u64) (some ⟨g18, 0, none⟩) ([a2]).length ([a2])))) (.slice (some ⟨g18, 0, none⟩) [a2].length [a2].length) (congrArg (fun z => upd z 35 _) hF.symm) ⟨g18, rfl, rfl⟩ (sub_put (by exact rfl) (sub_nil _))
          · refine ⟨fun o ho vs Rs f' S' w hp hf hx hS hR hs => ?_⟩
            obtain rfl := Option.some.inj ho
            obtain ⟨hv0, hR0⟩ := hp 0 (by kernel_rfl)
            obtain ⟨hv1, hR1⟩ := hp 1 (by kernel_rfl)
            obtain ⟨g18, hv3, hR3⟩ := hp 3 (by kernel_rfl)
            have hT3_0 := (hR 3 0 (by kernel_rfl) (by decide)).trans (congrFun hR3 0)
            refine And.intro (want_none rfl) (And.intro (fun _ => ?_) (fun h => by cases h))
            have hF := fr_next (fr_next (fr_next (rfl) ((hf 0 32 (by kernel_rfl) rfl).trans hv0)) ((hf 1 33 (by kernel_rfl) rfl).trans hv1)) ((hf 3 35 (by kernel_rfl) rfl).trans hv3)
            refine ls_fr hF ?_
            refine ls_call (fid := 13) (vals := #[.slice xA3 xl7.length xc4, .int .i64 a1, .slice (some ⟨g18, 0, none⟩) ([a2]).length [a2].length]) (X := (Option Addr × Nat)) (fun x => .slice x.1 t19.length x.2) (fun x => sput s0 0 (some (Ck.sl 5 (Value.int .u8) x.1 x.2 t19))) 0 rfl rfl (by kernel_rfl) (fun w => by kernel_rfl) (fun w1 hs1 => codec_Fixed.calls k xA3 xc4 xl7 a1 (some ⟨g18, 0, none⟩) [a2].length ([a2]) t19 w1 (hs1.old (hs.old xR5)) xC6 (hs1.old (hs.rd (k := 26) hT3_0)) (hs.cap (k := 26) hT3_0) hc20) ?_
            intro x21
            exact ls_fin (sput s0 0 (some (Ck.sl 5 (Value.int .u8) x21.1 x21.2 t19))) (.slice x21.1 t19.length x21.2) (congrArg (fun z => upd z 36 _) hF.symm) ⟨x21, rfl, rfl⟩ (sub_put (by exact rfl) (sub_nil _))
          · refine ⟨fun o ho vs Rs f' S' w hp hf hx hS hR hs => ?_⟩
            obtain rfl := Option.some.inj ho
            obtain ⟨x21, hv4, hR4⟩ := hp 4 (by kernel_rfl)
            have hT4_0 := (hR 4 0 (by kernel_rfl) (by decide)).trans (congrFun hR4 0)
            refine And.intro (want_none rfl) (And.intro (fun _ => ?_) (fun h => by cases h))
            have hF := fr_next (rfl) ((hf 4 36 (by kernel_rfl) rfl).trans hv4)
            refine ls_fr hF ?_
            refine ls_str (A := x21.1) (c := x21.2) (e := 5) (l := t19) rfl rfl (by kernel_rfl) rfl (by kernel_rfl) (by kernel_rfl) (by kernel_rfl) (by kernel_rfl) (fun w1 hs1 => (hs1.old (hs.rd (k := 34) hT4_0))) ?_
            exact ls_fin s0 (.string (strOfNums t19)) (congrArg (fun z => upd z 37 _) hF.symm) ⟨rfl, rfl⟩ (sub_nil _)
          · refine ⟨fun o ho vs Rs f' S' w hp hf hx hS hR hs => ?_⟩
            obtain rfl := Option.some.inj ho
            refine And.intro (want_none rfl) (And.intro (fun _ => ?_) (fun h => by cases h))
            have hF := fr_next (rfl) ((hx 0 (by kernel_rfl)).trans (by kernel_rfl : (_ : Value) = .slice xA3 xl7.length xc4))
            refine ls_fr hF ?_
            refine ls_val (v := .slice xA3 xl7.length xc4) rfl rfl (by kernel_rfl) (fun w => by kernel_rfl) ?_
            exact ls_fin s0 (.slice xA3 xl7.length xc4) (congrArg (fun z => upd z 38 _) hF.symm) ⟨rfl, rfl⟩ (sub_nil _)
          · refine ⟨fun o ho vs Rs f' S' w hp hf hx hS hR hs => ?_⟩
            obtain rfl := Option.some.inj ho
            refine And.intro (want_none rfl) (And.intro (fun _ => ?_) (fun h => by cases h))
            have hF := fr_next (rfl) ((hx 1 (by kernel_rfl)).trans (by kernel_rfl : (_ : Value) = .int .i64 a1))
            refine ls_fr hF ?_
            refine ls_val (v := .int .i64 a1) rfl rfl (by kernel_rfl) (fun w => by kernel_rfl) ?_
            exact ls_fin s0 (.int .i64 a1) (congrArg (fun z => upd z 39 _) hF.symm) ⟨rfl, rfl⟩ (sub_nil _)
          · refine ⟨fun o ho vs Rs f' S' w hp hf hx hS hR hs => ?_⟩
            obtain rfl := Option.some.inj ho
            refine And.intro (want_none rfl) (And.intro (fun _ => ?_) (fun h => by cases h))
            have hF := fr_next (rfl) ((hx 2 (by kernel_rfl)).trans (by kernel_rfl : (_ : Value) = .int .u64 a2))
            refine ls_fr hF ?_
            refine ls_val (v := .int .u64 a2) rfl rfl (by kernel_rfl) (fun w => by kernel_rfl) ?_
            exact ls_fin s0 (.int .u64 a2) (congrArg (fun z => upd z 40 _) hF.symm) ⟨rfl, rfl⟩ (sub_nil _)
          · refine ⟨fun o ho vs Rs f' S' w hp hf hx hS hR hs => ?_⟩
            obtain rfl := Option.some.inj ho
            obtain ⟨hv6, hR6⟩ := hp 6 (by kernel_rfl)
            obtain ⟨hv7, hR7⟩ := hp 7 (by kernel_rfl)
            obtain ⟨hv8, hR8⟩ := hp 8 (by kernel_rfl)
            refine And.intro (want_none rfl) (And.intro (fun _ => ?_) (fun h => by cases h))
            have hF := fr_next (fr_next (fr_next (rfl) ((hf 6 38 (by kernel_rfl) rfl).trans hv6)) ((hf 7 39 (by kernel_rfl) rfl).trans hv7)) ((hf 8 40 (by kernel_rfl) rfl).trans hv8)
            refine ls_fr hF ?_
            refine ls_call (fid := 14) (vals := #[.slice xA3 xl7.length xc4, .int .i64 a1, .int .u64 a2]) (X := (Option Addr × Nat)) (fun x => .slice x.1 t22.length x.2) (fun x => sput s0 0 (some (Ck.sl 5 (Value.int .u8) x.1 x.2 t22))) 0 rfl rfl (by kernel_rfl) (fun w => by kernel_rfl) (fun w1 hs1 => shadowboxref01_Fixed.calls k xA3 xc4 xl7 a1 a2 t22 w1 (hs1.old (hs.old xR5)) xC6 hc23) ?_
            intro x24
            exact ls_fin (sput s0 0 (some (Ck.sl 5 (Value.int .u8) x24.1 x24.2 t22))) (.slice x24.1 t22.length x24.2) (congrArg (fun z => upd z 41 _) hF.symm) ⟨x24, rfl, rfl⟩ (sub_put (by exact rfl) (sub_nil _))
          · refine ⟨fun o ho vs Rs f' S' w hp hf hx hS hR hs => ?_⟩
            obtain rfl := Option.some.inj ho
            obtain ⟨x24, hv9, hR9⟩ := hp 9 (by kernel_rfl)
            have hT9_0 := (hR 9 0 (by kernel_rfl) (by decide)).trans (congrFun hR9 0)
            refine And.intro (want_none rfl) (And.intro (fun _ => ?_) (fun h => by cases h))
            have hF := fr_next (rfl) ((hf 9 41 (by kernel_rfl) rfl).trans hv9)
            refine ls_fr hF ?_
            refine ls_str (A := x24.1) (c := x24.2) (e := 5) (l := t22) rfl rfl (by kernel_rfl) rfl (by kernel_rfl) (by kernel_rfl) (by kernel_rfl) (by kernel_rfl) (fun w1 hs1 => (hs1.old (hs.rd (k := 74) hT9_0))) ?_
            exact ls_fin s0 (.string (strOfNums t22)) (congrArg (fun z => upd z 42 _) hF.symm) ⟨rfl, rfl⟩ (sub_nil _)
          · refine ⟨fun o ho vs Rs f' S' w hp hf hx hS hR hs => ?_⟩
            obtain rfl := Option.some.inj ho
            obtain ⟨hv5, hR5⟩ := hp 5 (by kernel_rfl)
            obtain ⟨hv10, hR10⟩ := hp 10 (by kernel_rfl)
            refine And.intro (want_none rfl) (And.intro (fun _ => ?_) (fun h => by cases h))
            have hF := fr_next (fr_next (rfl) ((hf 5 37 (by kernel_rfl) rfl).trans hv5)) ((hf 10 42 (by kernel_rfl) rfl).trans hv10)
            refine ls_fr hF ?_
            refine ls_val (v := .bool ((strOfNums t19).toList == (strOfNums t22).toList)) rfl rfl (by kernel_rfl) (fun w => by kernel_rfl) ?_
            refine ls_ren 43 (v := .bool ((strOfNums t19).toList == (strOfNums t22).toList)) (v' := .bool true) (by kernel_rfl) (congrArg Value.bool (show ((strOfNums t19).toList == (strOfNums t22).toList) = true from q25)) ?_
            exact ls_fin s0 (.bool true) ((upd_upd _ _ _ _).trans (congrArg (fun z => upd z 43 _) hF.symm)) ⟨rfl, rfl⟩ (sub_nil _)
          · refine ⟨fun o ho vs Rs f' S' w hp hf hx hS hR hs => ?_⟩
            obtain rfl := Option.some.inj ho
            obtain ⟨hv11, hR11⟩ := hp 11 (by kernel_rfl)
            refine And.intro (want_none rfl) (And.intro (fun _ => ?_) (fun h => by cases h))
            have hF := fr_next (rfl) ((hf 11 43 (by kernel_rfl) rfl).trans hv11)
            refine ls_fr hF ?_
            refine ls_val (v := .bool true) rfl rfl (by kernel_rfl) (fun w => by kernel_rfl) ?_
            exact ls_fin s0 (.bool true) (congrArg (fun z => upd z 44 _) hF.symm) ⟨rfl, rfl⟩ (sub_nil _)
          · refine ⟨fun o ho vs Rs f' S' w hp hf hx hS hR hs => ?_⟩
            obtain rfl := Option.some.inj ho
            obtain ⟨hv12, hR12⟩ := hp 12 (by kernel_rfl)
            refine And.intro (want_is (j := 12) (t := 44) rfl rfl (by kernel_rfl) ((hf 12 44 (by kernel_rfl) rfl).trans hv12) rfl) (And.intro (fun _ => ?_) (fun h => by cases h))
            have hF := fr_next (fr_next (rfl) ((hx 7 (by kernel_rfl)).trans (by kernel_rfl : (_ : Value) = .int .u64 t12.1))) ((hf 12 44 (by kernel_rfl) rfl).trans hv12)
            refine ls_fr hF ?_
            refine ls_val (v := .int .u64 t12.1) rfl rfl (by kernel_rfl) (fun w => by kernel_rfl) ?_
            exact ls_fin s0 (.int .u64 t12.1) (congrArg (fun z => upd z 45 _) hF.symm) ⟨rfl, rfl⟩ (sub_nil _)
          · refine ⟨fun o ho vs Rs f' S' w hp hf hx hS hR hs => ?_⟩
            obtain rfl := Option.some.inj ho
            obtain ⟨hv12, hR12⟩ := hp 12 (by kernel_rfl)
            refine And.intro (want_is (j := 12) (t := 44) rfl rfl (by kernel_rfl) ((hf 12 44 (by kernel_rfl) rfl).trans hv12) rfl) (And.intro (fun _ => ?_) (fun h => by cases h))
            have hF := fr_next (fr_next (rfl) ((hx 10 (by kernel_rfl)).trans (by kernel_rfl : (_ : Value) = .int .u64 t15.1))) ((hf 12 44 (by kernel_rfl) rfl).trans hv12)
            refine ls_fr hF ?_
            refine ls_val (v := .int .u64 t15.1) rfl rfl (by kernel_rfl) (fun w => by kernel_rfl) ?_
            exact ls_fin s0 (.int .u64 t15.1) (congrArg (fun z => upd z 46 _) hF.symm) ⟨rfl, rfl⟩ (sub_nil _)
          · refine ⟨fun o ho vs Rs f' S' w hp hf hx hS hR hs => ?_⟩
            obtain rfl := Option.some.inj ho
            obtain ⟨hv12, hR12⟩ := hp 12 (by kernel_rfl)
            obtain ⟨hv13, hR13⟩ := hp 13 (by kernel_rfl)
            obtain ⟨hv14, hR14⟩ := hp 14 (by kernel_rfl)
            refine And.intro (want_is (j := 12) (t := 44) rfl rfl (by kernel_rfl) ((hf 12 44 (by kernel_rfl) rfl).trans hv12) rfl) (And.intro (fun _ => ?_) (fun h => by cases h))
            have hF := fr_next (fr_next (fr_next (rfl) ((hf 12 44 (by kernel_rfl) rfl).trans hv12)) ((hf 13 45 (by kernel_rfl) rfl).trans hv13)) ((hf 14 46 (by kernel_rfl) rfl).trans hv14)
            refine ls_fr hF ?_
            refine ls_val (v := .bool (decide (t12.1 = t15.1))) rfl rfl (by kernel_rfl) (fun w => by kernel_rfl) ?_
            refine ls_ren 47 (v := .bool (decide (t12.1 = t15.1))) (v' := .bool false) (by kernel_rfl) (congrArg Value.bool (show (decide (t12.1 = t15.1)) = false from dec_f q26)) ?_
            exact ls_fin s0 (.bool false) ((upd_upd _ _ _ _).trans (congrArg (fun z => upd z 47 _) hF.symm)) ⟨rfl, rfl⟩ (sub_nil _)
          · refine ⟨fun o ho vs Rs f' S' w hp hf hx hS hR hs => ?_⟩
            obtain rfl := Option.some.inj ho
            obtain ⟨hv12, hR12⟩ := hp 12 (by kernel_rfl)
            obtain ⟨hv15, hR15⟩ := hp 15 (by kernel_rfl)
            refine And.intro (want_none rfl) (And.intro (fun _ => ?_) (fun h => by cases h))
            have hF := fr_next (fr_next (rfl) ((hf 12 44 (by kernel_rfl) rfl).trans hv12)) ((hf 15 47 (by kernel_rfl) rfl).trans hv15)
            refine ls_fr hF ?_
            refine ls_val (v := .bool false) rfl rfl (by kernel_rfl) (fun w => by kernel_rfl) ?_
            exact ls_fin s0 (.bool false) (congrArg (fun z => upd z 48 _) hF.symm) ⟨rfl, rfl⟩ (sub_nil _)
          · refine ⟨fun o ho vs Rs f' S' w hp hf hx hS hR hs => ?_⟩
            obtain rfl := Option.some.inj ho
            obtain ⟨hv16, hR16⟩ := hp 16 (by kernel_rfl)
            refine And.intro (want_none rfl) (And.intro (fun _ => ?_) (fun h => by cases h))
            have hF := fr_next (rfl) ((hf 16 48 (by kernel_rfl) rfl).trans hv16)
            refine ls_fr hF ?_
            refine ls_val (v := .bool false) rfl rfl (by kernel_rfl) (fun w => by kernel_rfl) ?_
            exact ls_fin s0 (.bool false) (congrArg (fun z => upd z 49 _) hF.symm) ⟨rfl, rfl⟩ (sub_nil _)
          · refine ⟨fun o ho vs Rs f' S' w hp hf hx hS hR hs => ?_⟩
            obtain rfl := Option.some.inj ho
            obtain ⟨hv17, hR17⟩ := hp 17 (by kernel_rfl)
            refine And.intro ?_ (And.intro ?_ ?_)
            · exact want_is (j := 17) (t := 49) rfl rfl (by kernel_rfl) ((hf 17 49 (by kernel_rfl) rfl).trans hv17) rfl
            · intro h; cases h
            · intro _; exact ⟨rfl, rfl⟩
          · refine ⟨fun o ho vs Rs f' S' w hp hf hx hS hR hs => ?_⟩
            obtain rfl := Option.some.inj ho
            obtain ⟨hv17, hR17⟩ := hp 17 (by kernel_rfl)
            obtain ⟨hv18, hR18⟩ := hp 18 (by kernel_rfl)
            refine And.intro ?_ (And.intro ?_ ?_)
            · exact want_is (j := 17) (t := 49) rfl rfl (by kernel_rfl) ((hf 17 49 (by kernel_rfl) rfl).trans hv17) rfl
            · intro h; cases h
            · intro _; exact ⟨rfl, rfl⟩
          · refine ⟨fun o ho vs Rs f' S' w hp hf hx hS hR hs => ?_⟩
            obtain rfl := Option.some.inj ho
            obtain ⟨hv17, hR17⟩ := hp 17 (by kernel_rfl)
            refine And.intro ?_ (And.intro ?_ ?_)
            · exact want_is (j := 17) (t := 49) rfl rfl (by kernel_rfl) ((hf 17 49 (by kernel_rfl) rfl).trans hv17) rfl
            · intro h; cases h
            · intro _; exact ⟨rfl, rfl⟩
          · refine ⟨fun o ho vs Rs f' S' w hp hf hx hS hR hs => ?_⟩
            obtain rfl := Option.some.inj ho
            obtain ⟨hv17, hR17⟩ := hp 17 (by kernel_rfl)
            obtain ⟨hv20, hR20⟩ := hp 20 (by kernel_rfl)
            refine And.intro ?_ (And.intro ?_ ?_)
            · exact want_is (j := 17) (t := 49) rfl rfl (by kernel_rfl) ((hf 17 49 (by kernel_rfl) rfl).trans hv17) rfl
            · intro h; cases h
            · intro _; exact ⟨rfl, rfl⟩
          · refine ⟨fun o ho vs Rs f' S' w hp hf hx hS hR hs => ?_⟩
            obtain rfl := Option.some.inj ho
            obtain ⟨hv17, hR17⟩ := hp 17 (by kernel_rfl)
            obtain ⟨hv19, hR19⟩ := hp 19 (by kernel_rfl)
            obtain ⟨hv21, hR21⟩ := hp 21 (by kernel_rfl)
            refine And.intro ?_ (And.intro ?_ ?_)
            · exact want_is (j := 17) (t := 49) rfl rfl (by kernel_rfl) ((hf 17 49 (by kernel_rfl) rfl).trans hv17) rfl
            · intro h; cases h
            · intro _; exact ⟨rfl, rfl⟩
          · refine ⟨fun o ho vs Rs f' S' w hp hf hx hS hR hs => ?_⟩
            obtain rfl := Option.some.inj ho
            obtain ⟨hv17, hR17⟩ := hp 17 (by kernel_rfl)
            obtain ⟨hv22, hR22⟩ := hp 22 (by kernel_rfl)
            refine And.intro (want_none rfl) (And.intro (fun _ => ?_) (fun h => by cases h))
            have hF := fr_next (fr_next (rfl) ((hf 17 49 (by kernel_rfl) rfl).trans hv17)) ((hf 22 54 (by kernel_rfl) rfl).trans hv22)
            refine ls_fr hF ?_
            refine ls_val (v := .bool false) rfl rfl (by kernel_rfl) (fun w => by kernel_rfl) ?_
            exact ls_fin s0 (.bool false) (congrArg (fun z => upd z 55 _) hF.symm) ⟨rfl, rfl⟩ (sub_nil _)
          · refine ⟨fun o ho vs Rs f' S' w hp hf hx hS hR hs => ?_⟩
            obtain rfl := Option.some.inj ho
            obtain ⟨hv23, hR23⟩ := hp 23 (by kernel_rfl)
            refine And.intro (want_none rfl) (And.intro (fun _ => ?_) (fun h => by cases h))
            have hF := fr_next (rfl) ((hf 23 55 (by kernel_rfl) rfl).trans hv23)
            refine ls_fr hF ?_
            refine ls_val (v := .bool false) rfl rfl (by kernel_rfl) (fun w => by kernel_rfl) ?_
            exact ls_fin s0 (.bool false) (congrArg (fun z => upd z 56 _) hF.symm) ⟨rfl, rfl⟩ (sub_nil _)
          · refine ⟨fun o ho vs Rs f' S' w hp hf hx hS hR hs => ?_⟩
            obtain rfl := Option.some.inj ho
            obtain ⟨hv24, hR24⟩ := hp 24 (by kernel_rfl)
            refine And.intro ?_ (And.intro ?_ ?_)
            · exact want_is (j := 24) (t := 56) rfl rfl (by kernel_rfl) ((hf 24 56 (by kernel_rfl) rfl).trans hv24) rfl
            · intro h; cases h
            · intro _; exact ⟨rfl, rfl⟩
          · refine ⟨fun o ho vs Rs f' S' w hp hf hx hS hR hs => ?_⟩
            obtain rfl := Option.some.inj ho
            obtain ⟨hv24, hR24⟩ := hp 24 (by kernel_rfl)
            refine And.intro ?_ (And.intro ?_ ?_)
            · exact want_is (j := 24) (t := 56) rfl rfl (by kernel_rfl) ((hf 24 56 (by kernel_rfl) rfl).trans hv24) rfl
            · intro h; cases h
            · intro _; exact ⟨rfl, rfl⟩
        · intro vs Rs f' S' hp hf hx hS hR
          obtain ⟨g18, hv3, hR3⟩ := hp 3 (by kernel_rfl)
          have hT3_0 := (hR 3 0 (by kernel_rfl) (by decide)).trans (congrFun hR3 0)
          obtain ⟨x21, hv4, hR4⟩ := hp 4 (by kernel_rfl)
          have hT4_0 := (hR 4 0 (by kernel_rfl) (by decide)).trans (congrFun hR4 0)
          obtain ⟨x24, hv9, hR9⟩ := hp 9 (by kernel_rfl)
          have hT9_0 := (hR 9 0 (by kernel_rfl) (by decide)).trans (congrFun hR9 0)
          obtain ⟨hv24, hR24⟩ := hp 24 (by kernel_rfl)
          obtain ⟨hv25, hR25⟩ := hp 25 (by kernel_rfl)
          obtain ⟨hv26, hR26⟩ := hp 26 (by kernel_rfl)
          refine ls_fr (F := upd f' 56 (.bool false)) (fr_next (rfl) ((hf 24 56 (by kernel_rfl) rfl).trans hv24)) ?_
          refine ls_sub (s0) (sub_nil _) ?_
          refine ls_off (j := 24) (t := 56) (b := true) (c := false) rfl rfl (by kernel_rfl) (by kernel_rfl) rfl rfl (by kernel_rfl) ?_
          refine ls_val (v := .bool false) rfl rfl (by kernel_rfl) (fun w => by kernel_rfl) ?_
          refine ls_val (v := .bool false) rfl rfl (by kernel_rfl) (fun w => by kernel_rfl) ?_
          refine ls_off (j := 29) (t := 61) (b := true) (c := false) rfl rfl (by kernel_rfl) (by kernel_rfl) rfl rfl (by kernel_rfl) ?_
          refine ls_off (j := 29) (t := 61) (b := true) (c := false) rfl rfl (by kernel_rfl) (by kernel_rfl) rfl rfl (by kernel_rfl) ?_
          refine ls_off (j := 29) (t := 61) (b := true) (c := false) rfl rfl (by kernel_rfl) (by kernel_rfl) rfl rfl (by kernel_rfl) ?_
          refine ls_off (j := 29) (t := 61) (b := true) (c := false) rfl rfl (by kernel_rfl) (by kernel_rfl) rfl rfl (by kernel_rfl) ?_
          refine ls_val (v := .bool false) rfl rfl (by kernel_rfl) (fun w => by kernel_rfl) ?_
          refine ls_val (v := .bool false) rfl rfl (by kernel_rfl) (fun w => by kernel_rfl) ?_
          refine ls_end ?_
          refine qn_then ?_
          refine cs_ret' ?_
          obtain rfl := Option.some.inj H
          refine qr_end1 rfl (fun w' hs => ⟨(), rfl, ?_⟩)
          exact hs.sub (sub_nil _)
    · replace H := ite_f q25 H
      refine cs_draw (l := [_, _, _, _, _, _, _, _, _, _, _, _, _, _, _, _, _, _, _, _, _, _, _, _, _, _, _, _, _, _, _, _, _, _, _, _]) [[], [], [], [2], [0, 1, 2, 3], [0, 1, 2, 3, 4], [], [], [], [0, 1, 2, 3, 4, 6, 7, 8], [0, 1, 2, 3, 4, 6, 7, 8, 9], [0, 1, 2, 3, 4, 5, 6, 7, 8, 9, 10], [0, 1, 2, 3, 4, 5, 6, 7, 8, 9, 10, 11], [0, 1, 2, 3, 4, 5, 6, 7, 8, 9, 10, 11, 12], [0, 1, 2, 3, 4, 5, 6, 7, 8, 9, 10, 11, 12], [0, 1, 2, 3, 4, 5, 6, 7, 8, 9, 10, 11, 12, 13, 14], [0, 1, 2, 3, 4, 5, 6, 7, 8, 9, 10, 11, 12, 13, 14, 15], [0, 1, 2, 3, 4, 5, 6, 7, 8, 9, 10, 11, 12, 13, 14, 15, 16], [0, 1, 2, 3, 4, 5, 6, 7, 8, 9, 10, 11, 12, 13, 14, 15, 16, 17], [0, 1, 2, 3, 4, 5, 6, 7, 8, 9, 10, 11, 12, 13, 14, 15, 16, 17, 18], [0, 1, 2, 3, 4, 5, 6, 7, 8, 9, 10, 11, 12, 13, 14, 15, 16, 17], [0, 1, 2, 3, 4, 5, 6, 7, 8, 9, 10, 11, 12, 13, 14, 15, 16, 17, 20], [0, 1, 2, 3, 4, 5, 6, 7, 8, 9, 10, 11, 12, 13, 14, 15, 16, 17, 18, 19, 20, 21], [0, 1, 2, 3, 4, 5, 6, 7, 8, 9, 10, 11, 12, 13, 14, 15, 16, 17, 18, 19, 20, 21, 22], [0, 1, 2, 3, 4, 5, 6, 7, 8, 9, 10, 11, 12, 13, 14, 15, 16, 17, 18, 19, 20, 21, 22, 23], [0, 1, 2, 3, 4, 5, 6, 7, 8, 9, 10, 11, 12, 13, 14, 15, 16, 17, 18, 19, 20, 21, 22, 23, 24], [0, 1, 2, 3, 4, 5, 6, 7, 8, 9, 10, 11, 12, 13, 14, 15, 16, 17, 18, 19, 20, 21, 22, 23, 24], [0, 1, 2, 3, 4, 5, 6, 7, 8, 9, 10, 11, 12, 13, 14, 15, 16, 17, 18, 19, 20, 21, 22, 23, 24, 25, 26], [0, 1, 2, 3, 4, 5, 6, 7, 8, 9, 10, 11, 12, 13, 14, 15, 16, 17, 18, 19, 20, 21, 22, 23, 24, 25, 26, 27], [0, 1, 2, 3, 4, 5, 6, 7, 8, 9, 10, 11, 12, 13, 14, 15, 16, 17, 18, 19, 20, 21, 22, 23, 24, 25, 26, 27, 28], [0, 1, 2, 3, 4, 5, 6, 7, 8, 9, 10, 11, 12, 13, 14, 15, 16, 17, 18, 19, 20, 21, 22, 23, 24, 25, 26, 27, 28, 29], [0, 1, 2, 3, 4, 5, 6, 7, 8, 9, 10, 11, 12, 13, 14, 15, 16, 17, 18, 19, 20, 21, 22, 23, 24, 25, 26, 27, 28, 29, 30], [0, 1, 2, 3, 4, 5, 6, 7, 8, 9, 10, 11, 12, 13, 14, 15, 16, 17, 18, 19, 20, 21, 22, 23, 24, 25, 26, 27, 28, 29, 30, 31], [0, 1, 2, 3, 4, 5, 6, 7, 8, 9, 10, 11, 12, 13, 14, 15, 16, 17, 18, 19, 20, 21, 22, 23, 24, 25, 26, 27, 28, 29, 30, 31, 32], [0, 1, 2, 3, 4, 5, 6, 7, 8, 9, 10, 11, 12, 13, 14, 15, 16, 17, 18, 19, 20, 21, 22, 23, 24, 25, 26, 27, 28, 29, 30, 31, 32, 33], [0, 1, 2, 3, 4, 5, 6, 7, 8, 9, 10, 11, 12, 13, 14, 15, 16, 17, 18, 19, 20, 21, 22, 23, 24, 25, 26, 27, 28, 29, 30, 31, 32, 33, 34]] 27 2 (spl [fun v R => v = .slice xA3 xl7.length xc4 ∧ R = s0, fun v R => v = .int .i64 a1 ∧ R = s0, fun v R => v = .int .u64 a2 ∧ R = s0, fun v R => ∃ g18 : Nat, v = .slice (some ⟨g18, 0, none⟩) [a2].length [a2].length ∧ R = sput s0 0 (some (Ck.sl 22 (Value.int .u64) (some ⟨g18, 0, none⟩) ([a2]).length ([a2]))), fun v R => ∃ x21 : (Option Addr × Nat), v = .slice x21.1 t19.length x21.2 ∧ R = sput s0 0 (some (Ck.sl 5 (Value.int .u8) x21.1 x21.2 t19)), fun v R => v = .string (strOfNums t19) ∧ R = s0, fun v R => v = .slice xA3 xl7.length xc4 ∧ R = s0, fun v R => v = .int .i64 a1 ∧ R = s0, fun v R => v = .int .u64 a2 ∧ R = s0, fun v R => ∃ x24 : (Option Addr × Nat), v = .slice x24.1 t22.length x24.2 ∧ R = sput s0 0 (some (Ck.sl 5 (Value.int .u8) x24.1 x24.2 t22)), fun v R => v = .string (strOfNums t22) ∧ R = s0, fun v R => v = .bool false ∧ R = s0, fun v R => v = .bool false ∧ R = s0, fun v R => v = undef ∧ R = s0, fun v R => v = undef ∧ R = s0, fun v R => v = undef ∧ R = s0, fun v R => v = .bool false ∧ R = s0, fun v R => v = .bool false ∧ R = s0, fun v R => v = undef ∧ R = s0, fun v R => v = undef ∧ R = s0, fun v R => v = undef ∧ R = s0, fun v R => v = undef ∧ R = s0, fun v R => v = undef ∧ R = s0, fun v R => v = .bool false ∧ R = s0, fun v R => v = .bool false ∧ R = s0, fun v R => v = undef ∧ R = s0, fun v R => v = undef ∧ R = s0]) (onl [true, true, true, true, true, true, true, true, true, true, true, true, true, false, false, false, true, true, false, false, false, false, false, true, true, false, false]) (by kernel_rfl) (by kernel_rfl) (by kernel_rfl) (by kernel_rfl) (rs := [_, _, _, _, _, _, _, _, _]) rfl (by kernel_rfl) (by kernel_rfl) ?_ ?_
      · refine all_snoc (all_snoc (all_snoc (all_snoc (all_snoc (all_snoc (all_snoc (all_snoc (all_snoc (all_snoc (all_snoc (all_snoc (all_snoc (all_snoc (all_snoc (all_snoc (all_snoc (all_snoc (all_snoc (all_snoc (all_snoc (all_snoc (all_snoc (all_snoc (all_snoc (all_snoc (all_snoc (all_nil) ?_) ?_) ?_) ?_) ?_) ?_) ?_) ?_) ?_) ?_) ?_) ?_) ?_) ?_) ?_) ?_) ?_) ?_) ?_) ?_) ?_) ?_) ?_) ?_) ?_) ?_) ?_
        · refine ⟨fun o ho vs Rs f' S' w hp hf hx hS hR hs => ?_⟩
          obtain rfl := Option.some.inj ho
          refine And.intro (want_none rfl) (And.intro (fun _ => ?_) (fun h => by cases h))
          have hF := fr_next (rfl) ((hx 0 (by kernel_rfl)).trans (by kernel_rfl : (_ : Value) = .slice xA3 xl7.length xc4))
          refine ls_fr hF ?_
          refine ls_val (v := .slice xA3 xl7.length xc4) rfl rfl (by kernel_rfl) (fun w => by kernel_rfl) ?_
          exact ls_fin s0 (.slice xA3 xl7.length xc4) (congrArg (fun z => upd z 32 _) hF.symm) ⟨rfl, rfl⟩ (sub_nil _)
        · refine ⟨fun o ho vs Rs f' S' w hp hf hx hS hR hs => ?_⟩
          obtain rfl := Option.some.inj ho
          refine And.intro (want_none rfl) (And.intro (fun _ => ?_) (fun h => by cases h))
          have hF := fr_next (rfl) ((hx 1 (by kernel_rfl)).trans (by kernel_rfl : (_ : Value) = .int .i64 a1))
          refine ls_fr hF ?_
          refine ls_val (v := .int .i64 a1) rfl rfl (by kernel_rfl) (fun w => by kernel_rfl) ?_
          exact ls_fin s0 (.int .i64 a1) (congrArg (fun z => upd z 33 _) hF.symm) ⟨rfl, rfl⟩ (sub_nil _)
        · refine ⟨fun o ho vs Rs f' S' w hp hf hx hS hR hs => ?_⟩
          obtain rfl := Option.some.inj ho
          refine And.intro (want_none rfl) (And.intro (fun _ => ?_) (fun h => by cases h))
          have hF := fr_next (rfl) ((hx 2 (by kernel_rfl)).trans (by kernel_rfl : (_ : Value) = .int .u64 a2))
          refine ls_fr hF ?_
          refine ls_val (v := .int .u64 a2) rfl rfl (by kernel_rfl) (fun w => by kernel_rfl) ?_
          exact ls_fin s0 (.int .u64 a2) (congrArg (fun z => upd z 34 _) hF.symm) ⟨rfl, rfl⟩ (sub_nil _)
        · refine ⟨fun o ho vs Rs f' S' w hp hf hx hS hR hs => ?_⟩
          obtain rfl := Option.some.inj ho
          obtain ⟨hv2, hR2⟩ := hp 2 (by kernel_rfl)
          refine And.intro (want_none rfl) (And.intro (fun _ => ?_) (fun h => by cases h))
          have hF := fr_next (rfl) ((hf 2 34 (by kernel_rfl) rfl).trans hv2)
          refine ls_fr hF ?_
          refine ls_lit (E := (Value.int .u64)) (e := 22) 0 rfl rfl (by kernel_rfl) ([a2]) (by exact of_decide_eq_true (by kernel_rfl)) (fun w => by kernel_rfl) ?_
          intro g18
          exact ls_fin (sput s0 0 (some (Ck.sl 22 (Value.int .u64) (some ⟨g18, 0, none⟩) ([a2]).length ([a2])))) (.slice (some ⟨g18, 0, none⟩) [a2].length [a2].length) (congrArg (fun z => upd z 35 _) hF.symm) ⟨g18, rfl, rfl⟩ (sub_put (by exact rfl) (sub_nil _))
        · refine ⟨fun o ho vs Rs f' S' w hp hf hx hS hR hs => ?_⟩
          obtain rfl := Option.some.inj ho
          obtain ⟨hv0, hR0⟩ := hp 0 (by kernel_rfl)
          obtain ⟨hv1, hR1⟩ := hp 1 (by kernel_rfl)
          obtain ⟨g18, hv3, hR3⟩ := hp 3 (by kernel_rfl)
          have hT3_0 := (hR 3 0 (by kernel_rfl) (by decide)).trans (congrFun hR3 0)
          refine And.intro (want_none rfl) (And.intro (fun _ => ?_) (fun h => by cases h))
          have hF := fr_next (fr_next (fr_next (rfl) ((hf 0 32 (by kernel_rfl) rfl).trans hv0)) ((hf 1 33 (by kernel_rfl) rfl).trans hv1)) ((hf 3 35 (by kernel_rfl) rfl).trans hv3)
          refine ls_fr hF ?_
          refine ls_call (fid := 13) (vals := #[.slice xA3 xl7.length xc4, .int .i64 a1, .slice (some ⟨g18, 0, none⟩) ([a2]).length [a2].length]) (X := (Option Addr × Nat)) (fun x => .slice x.1 t19.length x.2) (fun x => sput s0 0 (some (Ck.sl 5 (Value.int .u8) x.1 x.2 t19))) 0 rfl rfl (by kernel_rfl) (fun w => by kernel_rfl) (fun w1 hs1 => codec_Fixed.calls k xA3 xc4 xl7 a1 (some ⟨g18, 0, none⟩) [a2].length ([a2]) t19 w1 (hs1.old (hs.old xR5)) xC6 (hs1.old (hs.rd (k := 26) hT3_0)) (hs.cap (k := 26) hT3_0) hc20) ?_
          intro x21
          exact ls_fin (sput s0 0 (some (Ck.sl 5 (Value.int .u8) x21.1 x21.2 t19))) (.slice x21.1 t19.length x21.2) (congrArg (fun z => upd z 36 _) hF.symm) ⟨x21, rfl, rfl⟩ (sub_put (by exact rfl) (sub_nil _))
        · refine ⟨fun o ho vs Rs f' S' w hp hf hx hS hR hs => ?_⟩
          obtain rfl := Option.some.inj ho
          obtain ⟨x21, hv4, hR4⟩ := hp 4 (by kernel_rfl)
          have hT4_0 := (hR 4 0 (by kernel_rfl) (by decide)).trans (congrFun hR4 0)
          refine And.intro (want_none rfl) (And.intro (fun _ => ?_) (fun h => by cases h))
          have hF := fr_next (rfl) ((hf 4 36 (by kernel_rfl) rfl).trans hv4)
          refine ls_fr hF ?_
          refine ls_str (A := x21.1) (c := x21.2) (e := 5) (l := t19) rfl rfl (by kernel_rfl) rfl (by kernel_rfl) (by kernel_rfl) (by kernel_rfl) (by kernel_rfl) (fun w1 hs1 => (hs1.old (hs.rd (k := 34) hT4_0))) ?_
          exact ls_fin s0 (.string (strOfNums t19)) (congrArg (fun z => upd z 37 _) hF.symm) ⟨rfl, rfl⟩ (sub_nil _)
        · refine ⟨fun o ho vs Rs f' S' w hp hf hx hS hR hs => ?_⟩
          obtain rfl := Option.some.inj ho
          refine And.intro (want_none rfl) (And.intro (fun _ => ?_) (fun h => by cases h))
          have hF := fr_next (rfl) ((hx 0 (by kernel_rfl)).trans (by kernel_rfl : (_ : Value) = .slice xA3 xl7.length xc4))
          refine ls_fr hF ?_
          refine ls_val (v := .slice xA3 xl7.length xc4) rfl rfl (by kernel_rfl) (fun w => by kernel_rfl) ?_
          exact ls_fin s0 (.slice xA3 xl7.length xc4) (congrArg (fun z => upd z 38 _) hF.symm) ⟨rfl, rfl⟩ (sub_nil _)
        · refine ⟨fun o ho vs Rs f' S' w hp hf hx hS hR hs => ?_⟩
          obtain rfl := Option.some.inj ho
          refine And.intro (want_none rfl) (And.intro (fun _ => ?_) (fun h => by cases h))
          have hF := fr_next (rfl) ((hx 1 (by kernel_rfl)).trans (by kernel_rfl : (_ : Value) = .int .i64 a1))
          refine ls_fr hF ?_
          refine ls_val (v := .int .i64 a1) rfl rfl (by kernel_rfl) (fun w => by kernel_rfl) ?_
          exact ls_fin s0 (.int .i64 a1) (congrArg (fun z => upd z 39 _) hF.symm) ⟨rfl, rfl⟩ (sub_nil _)
        · refine ⟨fun o ho vs Rs f' S' w hp hf hx hS hR hs => ?_⟩
          obtain rfl := Option.some.inj ho
          refine And.intro (want_none rfl) (And.intro (fun _ => ?_) (fun h => by cases h))
          have hF := fr_next (rfl) ((hx 2 (by kernel_rfl)).trans (by kernel_rfl : (_ : Value) = .int .u64 a2))
          refine ls_fr hF ?_
          refine ls_val (v := .int .u64 a2) rfl rfl (by kernel_rfl) (fun w => by kernel_rfl) ?_
          exact ls_fin s0 (.int .u64 a2) (congrArg (fun z => upd z 40 _) hF.symm) ⟨rfl, rfl⟩ (sub_nil _)
        · refine ⟨fun o ho vs Rs f' S' w hp hf hx hS hR hs => ?_⟩
          obtain rfl := Option.some.inj ho
          obtain ⟨hv6, hR6⟩ := hp 6 (by kernel_rfl)
          obtain ⟨hv7, hR7⟩ := hp 7 (by kernel_rfl)
          obtain ⟨hv8, hR8⟩ := hp 8 (by kernel_rfl)
          refine And.intro (want_none rfl) (And.intro (fun _ => ?_) (fun h => by cases h))
          have hF := fr_next (fr_next (fr_next (rfl) ((hf 6 38 (by kernel_rfl) rfl).trans hv6)) ((hf 7 39 (by kernel_rfl) rfl).trans hv7)) ((hf 8 40 (by kernel_rfl) rfl).trans hv8)
          refine ls_fr hF ?_
          refine ls_call (fid := 14) (vals := #[.slice xA3 xl7.length xc4, .int .i64 a1, .int .u64 a2]) (X := (Option Addr × Nat)) (fun x => .slice x.1 t22.length x.2) (fun x => sput s0 0 (some (Ck.sl 5 (Value.int .u8) x.1 x.2 t22))) 0 rfl rfl (by kernel_rfl) (fun w => by kernel_rfl) (fun w1 hs1 => shadowboxref01_Fixed.calls k xA3 xc4 xl7 a1 a2 t22 w1 (hs1.old (hs.old xR5)) xC6 hc23) ?_
          intro x24
          exact ls_fin (sput s0 0 (some (Ck.sl 5 (Value.int .u8) x24.1 x24.2 t22))) (.slice x24.1 t22.length x24.2) (congrArg (fun z => upd z 41 _) hF.symm) ⟨x24, rfl, rfl⟩ (sub_put (by exact rfl) (sub_nil _))
        · refine ⟨fun o ho vs Rs f' S' w hp hf hx hS hR hs => ?_⟩
          obtain rfl := Option.some.inj ho
          obtain ⟨x24, hv9, hR9⟩ := hp 9 (by kernel_rfl)
          have hT9_0 := (hR 9 0 (by kernel_rfl) (by decide)).trans (congrFun hR9 0)
          refine And.intro (want_none rfl) (And.intro (fun _ => ?_) (fun h => by cases h))
          have hF := fr_next (rfl) ((hf 9 41 (by kernel_rfl) rfl).trans hv9)
          refine ls_fr hF ?_
          refine ls_str (A := x24.1) (c := x24.2) (e := 5) (l := t22) rfl rfl (by kernel_rfl) rfl (by kernel_rfl) (by kernel_rfl) (by kernel_rfl) (by kernel_rfl) (fun w1 hs1 => (hs1.old (hs.rd (k := 74) hT9_0))) ?_
          exact ls_fin s0 (.string (strOfNums t22)) (congrArg (fun z => upd z 42 _) hF.symm) ⟨rfl, rfl⟩ (sub_nil _)
        · refine ⟨fun o ho vs Rs f' S' w hp hf hx hS hR hs => ?_⟩
          obtain rfl := Option.some.inj ho
          obtain ⟨hv5, hR5⟩ := hp 5 (by kernel_rfl)
          obtain ⟨hv10, hR10⟩ := hp 10 (by kernel_rfl)
          refine And.intro (want_none rfl) (And.intro (fun _ => ?_) (fun h => by cases h))
          have hF := fr_next (fr_next (rfl) ((hf 5 37 (by kernel_rfl) rfl).trans hv5)) ((hf 10 42 (by kernel_rfl) rfl).trans hv10)
          refine ls_fr hF ?_
          refine ls_val (v := .bool ((strOfNums t19).toList == (strOfNums t22).toList)) rfl rfl (by kernel_rfl) (fun w => by kernel_rfl) ?_
          refine ls_ren 43 (v := .bool ((strOfNums t19).toList == (strOfNums t22).toList)) (v' := .bool false) (by kernel_rfl) (congrArg Value.bool (show ((strOfNums t19).toList == (strOfNums t22).toList) = false from Bool.eq_false_iff.mpr q25)) ?_
          exact ls_fin s0 (.bool false) ((upd_upd _ _ _ _).trans (congrArg (fun z => upd z 43 _) hF.symm)) ⟨rfl, rfl⟩ (sub_nil _)
        · refine ⟨fun o ho vs Rs f' S' w hp hf hx hS hR hs => ?_⟩
          obtain rfl := Option.some.inj ho
          obtain ⟨hv11, hR11⟩ := hp 11 (by kernel_rfl)
          refine And.intro (want_none rfl) (And.intro (fun _ => ?_) (fun h => by cases h))
          have hF := fr_next (rfl) ((hf 11 43 (by kernel_rfl) rfl).trans hv11)
          refine ls_fr hF ?_
          refine ls_val (v := .bool false) rfl rfl (by kernel_rfl) (fun w => by kernel_rfl) ?_
          exact ls_fin s0 (.bool false) (congrArg (fun z => upd z 44 _) hF.symm) ⟨rfl, rfl⟩ (sub_nil _)
        · refine ⟨fun o ho vs Rs f' S' w hp hf hx hS hR hs => ?_⟩
          obtain rfl := Option.some.inj ho
          obtain ⟨hv12, hR12⟩ := hp 12 (by kernel_rfl)
          refine And.intro ?_ (And.intro ?_ ?_)
          · exact want_is (j := 12) (t := 44) rfl rfl (by kernel_rfl) ((hf 12 44 (by kernel_rfl) rfl).trans hv12) rfl
          · intro h; cases h
          · intro _; exact ⟨rfl, rfl⟩
        · refine ⟨fun o ho vs Rs f' S' w hp hf hx hS hR hs => ?_⟩
          obtain rfl := Option.some.inj ho
          obtain ⟨hv12, hR12⟩ := hp 12 (by kernel_rfl)
          refine And.intro ?_ (And.intro ?_ ?_)
          · exact want_is (j := 12) (t := 44) rfl rfl (by kernel_rfl) ((hf 12 44 (by kernel_rfl) rfl).trans hv12) rfl
          · intro h; cases h
          · intro _; exact ⟨rfl, rfl⟩
        · refine ⟨fun o ho vs Rs f' S' w hp hf hx hS hR hs => ?_⟩
          obtain rfl := Option.some.inj ho
          obtain ⟨hv12, hR12⟩ := hp 12 (by kernel_rfl)
          obtain ⟨hv13, hR13⟩ := hp 13 (by kernel_rfl)
          obtain ⟨hv14, hR14⟩ := hp 14 (by kernel_rfl)
          refine And.intro ?_ (And.intro ?_ ?_)
          · exact want_is (j := 12) (t := 44) rfl rfl (by kernel_rfl) ((hf 12 44 (by kernel_rfl) rfl).trans hv12) rfl
          · intro h; cases h
          · intro _; exact ⟨rfl, rfl⟩
        · refine ⟨fun o ho vs Rs f' S' w hp hf hx hS hR hs => ?_⟩
          obtain rfl := Option.some.inj ho
          obtain ⟨hv12, hR12⟩ := hp 12 (by kernel_rfl)
          obtain ⟨hv15, hR15⟩ := hp 15 (by kernel_rfl)
          refine And.intro (want_none rfl) (And.intro (fun _ => ?_) (fun h => by cases h))
          have hF := fr_next (fr_next (rfl) ((hf 12 44 (by kernel_rfl) rfl).trans hv12)) ((hf 15 47 (by kernel_rfl) rfl).trans hv15)
          refine ls_fr hF ?_
          refine ls_val (v := .bool false) rfl rfl (by kernel_rfl) (fun w => by kernel_rfl) ?_
          exact ls_fin s0 (.bool false) (congrArg (fun z => upd z 48 _) hF.symm) ⟨rfl, rfl⟩ (sub_nil _)
        · refine ⟨fun o ho vs Rs f' S' w hp hf hx hS hR hs => ?_⟩
          obtain rfl := Option.some.inj ho
          obtain ⟨hv16, hR16⟩ := hp 16 (by kernel_rfl)
          refine And.intro (want_none rfl) (And.intro (fun _ => ?_) (fun h => by cases h))
          have hF := fr_next (rfl) ((hf 16 48 (by kernel_rfl) rfl).trans hv16)
          refine ls_fr hF ?_
          refine ls_val (v := .bool false) rfl rfl (by kernel_rfl) (fun w => by kernel_rfl) ?_
          exact ls_fin s0 (.bool false) (congrArg (fun z => upd z 49 _) hF.symm) ⟨rfl, rfl⟩ (sub_nil _)
        · refine ⟨fun o ho vs Rs f' S' w hp hf hx hS hR hs => ?_⟩
          obtain rfl := Option.some.inj ho
          obtain ⟨hv17, hR17⟩ := hp 17 (by kernel_rfl)
          refine And.intro ?_ (And.intro ?_ ?_)
          · exact want_is (j := 17) (t := 49) rfl rfl (by kernel_rfl) ((hf 17 49 (by kernel_rfl) rfl).trans hv17) rfl
          · intro h; cases h
          · intro _; exact ⟨rfl, rfl⟩
        · refine ⟨fun o ho vs Rs f' S' w hp hf hx hS hR hs => ?_⟩
          obtain rfl := Option.some.inj ho
          obtain ⟨hv17, hR17⟩ := hp 17 (by kernel_rfl)
          obtain ⟨hv18, hR18⟩ := hp 18 (by kernel_rfl)
          refine And.intro ?_ (And.intro ?_ ?_)
          · exact want_is (j := 17) (t := 49) rfl rfl (by kernel_rfl) ((hf 17 49 (by kernel_rfl) rfl).trans hv17) rfl
          · intro h; cases h
          · intro _; exact ⟨rfl, rfl⟩
        · refine ⟨fun o ho vs Rs f' S' w hp hf hx hS hR hs => ?_⟩
          obtain rfl := Option.some.inj ho
          obtain ⟨hv17, hR17⟩ := hp 17 (by kernel_rfl)
          refine And.intro ?_ (And.intro ?_ ?_)
          · exact want_is (j := 17) (t := 49) rfl rfl (by kernel_rfl) ((hf 17 49 (by kernel_rfl) rfl).trans hv17) rfl
          · intro h; cases h
          · intro _; exact ⟨rfl, rfl⟩
        · refine ⟨fun o ho vs Rs f' S' w hp hf hx hS hR hs => ?_⟩
          obtain rfl := Option.some.inj ho
          obtain ⟨hv17, hR17⟩ := hp 17 (by kernel_rfl)
          obtain ⟨hv20, hR20⟩ := hp 20 (by kernel_rfl)
          refine And.intro ?_ (And.intro ?_ ?_)
          · exact want_is (j := 17) (t := 49) rfl rfl (by kernel_rfl) ((hf 17 49 (by kernel_rfl) rfl).trans hv17) rfl
          · intro h; cases h
          · intro _; exact ⟨rfl, rfl⟩
        · refine ⟨fun o ho vs Rs f' S' w hp hf hx hS hR hs => ?_⟩
          obtain rfl := Option.some.inj ho
          obtain ⟨hv17, hR17⟩ := hp 17 (by kernel_rfl)
          obtain ⟨hv19, hR19⟩ := hp 19 (by kernel_rfl)
          obtain ⟨hv21, hR21⟩ := hp 21 (by kernel_rfl)
          refine And.intro ?_ (And.intro ?_ ?_)
          · exact want_is (j := 17) (t := 49) rfl rfl (by kernel_rfl) ((hf 17 49 (by kernel_rfl) rfl).trans hv17) rfl
          · intro h; cases h
          · intro _; exact ⟨rfl, rfl⟩
        · refine ⟨fun o ho vs Rs f' S' w hp hf hx hS hR hs => ?_⟩
          obtain rfl := Option.some.inj ho
          obtain ⟨hv17, hR17⟩ := hp 17 (by kernel_rfl)
          obtain ⟨hv22, hR22⟩ := hp 22 (by kernel_rfl)
          refine And.intro (want_none rfl) (And.intro (fun _ => ?_) (fun h => by cases h))
          have hF := fr_next (fr_next (rfl) ((hf 17 49 (by kernel_rfl) rfl).trans hv17)) ((hf 22 54 (by kernel_rfl) rfl).trans hv22)
          refine ls_fr hF ?_
          refine ls_val (v := .bool false) rfl rfl (by kernel_rfl) (fun w => by kernel_rfl) ?_
          exact ls_fin s0 (.bool false) (congrArg (fun z => upd z 55 _) hF.symm) ⟨rfl, rfl⟩ (sub_nil _)
        · refine ⟨fun o ho vs Rs f' S' w hp hf hx hS hR hs => ?_⟩
          obtain rfl := Option.some.inj ho
          obtain ⟨hv23, hR23⟩ := hp 23 (by kernel_rfl)
          refine And.intro (want_none rfl) (And.intro (fun _ => ?_) (fun h => by cases h))
          have hF := fr_next (rfl) ((hf 23 55 (by kernel_rfl) rfl).trans hv23)
          refine ls_fr hF ?_
          refine ls_val (v := .bool false) rfl rfl (by kernel_rfl) (fun w => by kernel_rfl) ?_
          exact ls_fin s0 (.bool false) (congrArg (fun z => upd z 56 _) hF.symm) ⟨rfl, rfl⟩ (sub_nil _)
        · refine ⟨fun o ho vs Rs f' S' w hp hf hx hS hR hs => ?_⟩
          obtain rfl := Option.some.inj ho
          obtain ⟨hv24, hR24⟩ := hp 24 (by kernel_rfl)
          refine And.intro ?_ (And.intro ?_ ?_)
          · exact want_is (j := 24) (t := 56) rfl rfl (by kernel_rfl) ((hf 24 56 (by kernel_rfl) rfl).trans hv24) rfl
          · intro h; cases h
          · intro _; exact ⟨rfl, rfl⟩
        · refine ⟨fun o ho vs Rs f' S' w hp hf hx hS hR hs => ?_⟩
          obtain rfl := Option.some.inj ho
          obtain ⟨hv24, hR24⟩ := hp 24 (by kernel_rfl)
          refine And.intro ?_ (And.intro ?_ ?_)
          · exact want_is (j := 24) (t := 56) rfl rfl (by kernel_rfl) ((hf 24 56 (by kernel_rfl) rfl).trans hv24) rfl
          · intro h; cases h
          · intro _; exact ⟨rfl, rfl⟩
      · intro vs Rs f' S' hp hf hx hS hR
        obtain ⟨g18, hv3, hR3⟩ := hp 3 (by kernel_rfl)
        have hT3_0 := (hR 3 0 (by kernel_rfl) (by decide)).trans (congrFun hR3 0)
        obtain ⟨x21, hv4, hR4⟩ := hp 4 (by kernel_rfl)
        have hT4_0 := (hR 4 0 (by kernel_rfl) (by decide)).trans (congrFun hR4 0)
        obtain ⟨x24, hv9, hR9⟩ := hp 9 (by kernel_rfl)
        have hT9_0 := (hR 9 0 (by kernel_rfl) (by decide)).trans (congrFun hR9 0)
        obtain ⟨hv24, hR24⟩ := hp 24 (by kernel_rfl)
        obtain ⟨hv25, hR25⟩ := hp 25 (by kernel_rfl)
        obtain ⟨hv26, hR26⟩ := hp 26 (by kernel_rfl)
        refine ls_fr (F := upd f' 56 (.bool false)) (fr_next (rfl) ((hf 24 56 (by kernel_rfl) rfl).trans hv24)) ?_
        refine ls_sub (s0) (sub_nil _) ?_
        refine ls_off (j := 24) (t := 56) (b := true) (c := false) rfl rfl (by kernel_rfl) (by kernel_rfl) rfl rfl (by kernel_rfl) ?_
        refine ls_val (v := .bool false) rfl rfl (by kernel_rfl) (fun w => by kernel_rfl) ?_
        refine ls_val (v := .bool false) rfl rfl (by kernel_rfl) (fun w => by kernel_rfl) ?_
        refine ls_off (j := 29) (t := 61) (b := true) (c := false) rfl rfl (by kernel_rfl) (by kernel_rfl) rfl rfl (by kernel_rfl) ?_
        refine ls_off (j := 29) (t := 61) (b := true) (c := false) rfl rfl (by kernel_rfl) (by kernel_rfl) rfl rfl (by kernel_rfl) ?_
        refine ls_off (j := 29) (t := 61) (b := true) (c := false) rfl rfl (by kernel_rfl) (by kernel_rfl) rfl rfl (by kernel_rfl) ?_
        refine ls_off (j := 29) (t := 61) (b := true) (c := false) rfl rfl (by kernel_rfl) (by kernel_rfl) rfl rfl (by kernel_rfl) ?_
        refine ls_val (v := .bool false) rfl rfl (by kernel_rfl) (fun w => by kernel_rfl) ?_
        refine ls_val (v := .bool false) rfl rfl (by kernel_rfl) (fun w => by kernel_rfl) ?_
        refine ls_end ?_
        refine qn_then ?_
        refine cs_ret' ?_
        obtain rfl := Option.some.inj H
        refine qr_end1 rfl (fun w' hs => ⟨(), rfl, ?_⟩)
        exact hs.sub (sub_nil _)
  · replace H := ite_f q1 H
    refine cs_know (c := false) (dec_f q1) 15 (by kernel_rfl) ?_
    refine cs_false (by kernel_rfl) ?_
    refine cs_skip' ?_
    refine qn_then ?_
    refine cs_seq ?_
    refine cs_region (l := [_, _, _, _, _, _, _, _, _, _]) ?_
    refine ls_val (v := .slice A0 l0.length c0) rfl rfl (by kernel_rfl) (fun w => by kernel_rfl) ?_
    refine ls_val (v := .int .i64 a1) rfl rfl (by kernel_rfl) (fun w => by kernel_rfl) ?_
    obtain ⟨t33, hc34, H⟩ := bind_some H
    refine ls_call (fid := 11) (vals := #[.slice A0 l0.length c0, .int .i64 a1]) (X := (Option Addr × Nat)) (fun x => .tuple #[.int .u64 t33.1, .slice x.1 t33.2.1.length x.2, .bool t33.2.2]) (fun x => sput s0 0 (some (Ck.sl 5 (Value.int .u8) x.1 x.2 t33.2.1))) 0 rfl rfl (by kernel_rfl) (fun w => by kernel_rfl) (fun w hs => codec_Take.calls k A0 c0 l0 a1 t33 w (hs.old R0) C0 hc34) ?_
    intro x35
    refine ls_val (v := .tuple #[.int .u64 t33.1, .slice x35.1 t33.2.1.length x35.2, .bool t33.2.2]) rfl rfl (by kernel_rfl) (fun w => by kernel_rfl) ?_
    refine ls_val (v := .int .u64 t33.1) rfl rfl (by kernel_rfl) (fun w => by kernel_rfl) ?_
    refine ls_val (v := .slice x35.1 t33.2.1.length x35.2) rfl rfl (by kernel_rfl) (fun w => by kernel_rfl) ?_
    refine ls_val (v := .bool t33.2.2) rfl rfl (by kernel_rfl) (fun w => by kernel_rfl) ?_
    refine ls_val (v := .int .u64 t33.1) rfl rfl (by kernel_rfl) (fun w => by kernel_rfl) ?_
    refine ls_val (v := .slice x35.1 t33.2.1.length x35.2) rfl rfl (by kernel_rfl) (fun w => by kernel_rfl) ?_
    refine ls_val (v := .bool t33.2.2) rfl rfl (by kernel_rfl) (fun w => by kernel_rfl) ?_
    refine ls_end ?_
    refine qn_then ?_
    refine cs_seq ?_
    refine cs_region (l := [_, _, _, _, _, _, _, _, _, _]) ?_
    refine ls_val (v := .slice A0 l0.length c0) rfl rfl (by kernel_rfl) (fun w => by kernel_rfl) ?_
    refine ls_val (v := .int .i64 a1) rfl rfl (by kernel_rfl) (fun w => by kernel_rfl) ?_
    obtain ⟨t36, hc37, H⟩ := bind_some H
    refine ls_call (fid := 12) (vals := #[.slice A0 l0.length c0, .int .i64 a1]) (X := (Option Addr × Nat)) (fun x => .tuple #[.int .u64 t36.1, .slice x.1 t36.2.1.length x.2, .bool t36.2.2]) (fun x => sput s0 0 (some (Ck.sl 5 (Value.int .u8) x.1 x.2 t36.2.1))) 1 rfl rfl (by kernel_rfl) (fun w => by kernel_rfl) (fun w hs => shadowboxref01_Take.calls k A0 c0 l0 a1 t36 w (hs.old R0) C0 hc37) ?_
    intro x38
    refine ls_val (v := .tuple #[.int .u64 t36.1, .slice x38.1 t36.2.1.length x38.2, .bool t36.2.2]) rfl rfl (by kernel_rfl) (fun w => by kernel_rfl) ?_
    refine ls_val (v := .int .u64 t36.1) rfl rfl (by kernel_rfl) (fun w => by kernel_rfl) ?_
    refine ls_val (v := .slice x38.1 t36.2.1.length x38.2) rfl rfl (by kernel_rfl) (fun w => by kernel_rfl) ?_
    refine ls_val (v := .bool t36.2.2) rfl rfl (by kernel_rfl) (fun w => by kernel_rfl) ?_
    refine ls_val (v := .int .u64 t36.1) rfl rfl (by kernel_rfl) (fun w => by kernel_rfl) ?_
    refine ls_val (v := .slice x38.1 t36.2.1.length x38.2) rfl rfl (by kernel_rfl) (fun w => by kernel_rfl) ?_
    refine ls_val (v := .bool t36.2.2) rfl rfl (by kernel_rfl) (fun w => by kernel_rfl) ?_
    refine ls_end ?_
    refine qn_then ?_
    refine cs_seq ?_
    obtain ⟨t40, hc41, H⟩ := bind_some H
    obtain ⟨t43, hc44, H⟩ := bind_some H
    by_cases q46 : ((strOfNums t40).toList == (strOfNums t43).toList) = true
    · replace H := ite_t q46 H
      by_cases q47 : t33.1 = t36.1
      · replace H := ite_t q47 H
        by_cases q48 : ((strOfNums t33.2.1).toList == (strOfNums t36.2.1).toList) = true
        · replace H := ite_t q48 H
          refine cs_draw (l := [_, _, _, _, _, _, _, _, _, _, _, _, _, _, _, _, _, _, _, _, _, _, _, _, _, _, _, _, _, _, _, _, _, _, _, _]) [[], [], [], [2], [0, 1, 2, 3], [0, 1, 2, 3, 4], [], [], [], [0, 1, 2, 3, 4, 6, 7, 8], [0, 1, 2, 3, 4, 6, 7, 8, 9], [0, 1, 2, 3, 4, 5, 6, 7, 8, 9, 10], [0, 1, 2, 3, 4, 5, 6, 7, 8, 9, 10, 11], [0, 1, 2, 3, 4, 5, 6, 7, 8, 9, 10, 11, 12], [0, 1, 2, 3, 4, 5, 6, 7, 8, 9, 10, 11, 12], [0, 1, 2, 3, 4, 5, 6, 7, 8, 9, 10, 11, 12, 13, 14], [0, 1, 2, 3, 4, 5, 6, 7, 8, 9, 10, 11, 12, 13, 14, 15], [0, 1, 2, 3, 4, 5, 6, 7, 8, 9, 10, 11, 12, 13, 14, 15, 16], [0, 1, 2, 3, 4, 5, 6, 7, 8, 9, 10, 11, 12, 13, 14, 15, 16, 17], [0, 1, 2, 3, 4, 5, 6, 7, 8, 9, 10, 11, 12, 13, 14, 15, 16, 17, 18], [0, 1, 2, 3, 4, 5, 6, 7, 8, 9, 10, 11, 12, 13, 14, 15, 16, 17], [0, 1, 2, 3, 4, 5, 6, 7, 8, 9, 10, 11, 12, 13, 14, 15, 16, 17, 20], [0, 1, 2, 3, 4, 5, 6, 7, 8, 9, 10, 11, 12, 13, 14, 15, 16, 17, 18, 19, 20, 21], [0, 1, 2, 3, 4, 5, 6, 7, 8, 9, 10, 11, 12, 13, 14, 15, 16, 17, 18, 19, 20, 21, 22], [0, 1, 2, 3, 4, 5, 6, 7, 8, 9, 10, 11, 12, 13, 14, 15, 16, 17, 18, 19, 20, 21, 22, 23], [0, 1, 2, 3, 4, 5, 6, 7, 8, 9, 10, 11, 12, 13, 14, 15, 16, 17, 18, 19, 20, 21, 22, 23, 24], [0, 1, 2, 3, 4, 5, 6, 7, 8, 9, 10, 11, 12, 13, 14, 15, 16, 17, 18, 19, 20, 21, 22, 23, 24], [0, 1, 2, 3, 4, 5, 6, 7, 8, 9, 10, 11, 12, 13, 14, 15, 16, 17, 18, 19, 20, 21, 22, 23, 24, 25, 26], [0, 1, 2, 3, 4, 5, 6, 7, 8, 9, 10, 11, 12, 13, 14, 15, 16, 17, 18, 19, 20, 21, 22, 23, 24, 25, 26, 27], [0, 1, 2, 3, 4, 5, 6, 7, 8, 9, 10, 11, 12, 13, 14, 15, 16, 17, 18, 19, 20, 21, 22, 23, 24, 25, 26, 27, 28], [0, 1, 2, 3, 4, 5, 6, 7, 8, 9, 10, 11, 12, 13, 14, 15, 16, 17, 18, 19, 20, 21, 22, 23, 24, 25, 26, 27, 28, 29], [0, 1, 2, 3, 4, 5, 6, 7, 8, 9, 10, 11, 12, 13, 14, 15, 16, 17, 18, 19, 20, 21, 22, 23, 24, 25, 26, 27, 28, 29, 30], [0, 1, 2, 3, 4, 5, 6, 7, 8, 9, 10, 11, 12, 13, 14, 15, 16, 17, 18, 19, 20, 21, 22, 23, 24, 25, 26, 27, 28, 29, 30, 31], [0, 1, 2, 3, 4, 5, 6, 7, 8, 9, 10, 11, 12, 13, 14, 15, 16, 17, 18, 19, 20, 21, 22, 23, 24, 25, 26, 27, 28, 29, 30, 31, 32], [0, 1, 2, 3, 4, 5, 6, 7, 8, 9, 10, 11, 12, 13, 14, 15, 16, 17, 18, 19, 20, 21, 22, 23, 24, 25, 26, 27, 28, 29, 30, 31, 32, 33], [0, 1, 2, 3, 4, 5, 6, 7, 8, 9, 10, 11, 12, 13, 14, 15, 16, 17, 18, 19, 20, 21, 22, 23, 24, 25, 26, 27, 28, 29, 30, 31, 32, 33, 34]] 27 2 (spl [fun v R => v = .slice A0 l0.length c0 ∧ R = s0, fun v R => v = .int .i64 a1 ∧ R = s0, fun v R => v = .int .u64 a2 ∧ R = s0, fun v R => ∃ g39 : Nat, v = .slice (some ⟨g39, 0, none⟩) [a2].length [a2].length ∧ R = sput s0 0 (some (Ck.sl 22 (Value.int .u64) (some ⟨g39, 0, none⟩) ([a2]).length ([a2]))), fun v R => ∃ x42 : (Option Addr × Nat), v = .slice x42.1 t40.length x42.2 ∧ R = sput s0 0 (some (Ck.sl 5 (Value.int .u8) x42.1 x42.2 t40)), fun v R => v = .string (strOfNums t40) ∧ R = s0, fun v R => v = .slice A0 l0.length c0 ∧ R = s0, fun v R => v = .int .i64 a1 ∧ R = s0, fun v R => v = .int .u64 a2 ∧ R = s0, fun v R => ∃ x45 : (Option Addr × Nat), v = .slice x45.1 t43.length x45.2 ∧ R = sput s0 0 (some (Ck.sl 5 (Value.int .u8) x45.1 x45.2 t43)), fun v R => v = .string (strOfNums t43) ∧ R = s0, fun v R => v = .bool true ∧ R = s0, fun v R => v = .bool true ∧ R = s0, fun v R => v = .int .u64 t33.1 ∧ R = s0, fun v R => v = .int .u64 t36.1 ∧ R = s0, fun v R => v = .bool true ∧ R = s0, fun v R => v = .bool true ∧ R = s0, fun v R => v = .bool true ∧ R = s0, fun v R => v = .slice x35.1 t33.2.1.length x35.2 ∧ R = s0, fun v R => v = .string (strOfNums t33.2.1) ∧ R = s0, fun v R => v = .slice x38.1 t36.2.1.length x38.2 ∧ R = s0, fun v R => v = .string (strOfNums t36.2.1) ∧ R = s0, fun v R => v = .bool true ∧ R = s0, fun v R => v = .bool true ∧ R = s0, fun v R => v = .bool true ∧ R = s0, fun v R => v = .bool t33.2.2 ∧ R = s0, fun v R => v = .bool t36.2.2 ∧ R = s0]) (onl [true, true, true, true, true, true, true, true, true, true, true, true, true, true, true, true, true, true, true, true, true, true, true, true, true, true, true]) (by kernel_rfl) (by kernel_rfl) (by kernel_rfl) (by kernel_rfl) (rs := [_, _, _, _, _, _, _, _, _]) rfl (by kernel_rfl) (by kernel_rfl) ?_ ?_
          · refine all_snoc (all_snoc (all_snoc (all_snoc (all_snoc (all_snoc (all_snoc (all_snoc (all_snoc (all_snoc (all_snoc (all_snoc (all_snoc (all_snoc (all_snoc (all_snoc (all_snoc (all_snoc (all_snoc (all_snoc (all_snoc (all_snoc (all_snoc (all_snoc (all_snoc (all_snoc (all_snoc (all_nil) ?_) ?_) ?_) ?_) ?_) ?_) ?_) ?_) ?_) ?_) ?_) ?_) ?_) ?_) ?_) ?_) ?_) ?_) ?_) ?_) ?_) ?_) ?_) ?_) ?_) ?_) ?_
            · refine ⟨fun o ho vs Rs f' S' w hp hf hx hS hR hs => ?_⟩
              obtain rfl := Option.some.inj ho
              refine And.intro (want_none rfl) (And.intro (fun _ => ?_) (fun h => by cases h))
              have hF := fr_next (rfl) ((hx 0 (by kernel_rfl)).trans (by kernel_rfl : (_ : Value) = .slice A0 l0.length c0))
              refine ls_fr hF ?_
              refine ls_val (v := .slice A0 l0.length c0) rfl rfl (by kernel_rfl) (fun w => by kernel_rfl) ?_
              exact ls_fin s0 (.slice A0 l0.length c0) (congrArg (fun z => upd z 32 _) hF.symm) ⟨rfl, rfl⟩ (sub_nil _)
            · refine ⟨fun o ho vs Rs f' S' w hp hf hx hS hR hs => ?_⟩
              obtain rfl := Option.some.inj ho
              refine And.intro (want_none rfl) (And.intro (fun _ => ?_) (fun h => by cases h))
              have hF := fr_next (rfl) ((hx 1 (by kernel_rfl)).trans (by kernel_rfl : (_ : Value) = .int .i64 a1))
              refine ls_fr hF ?_
              refine ls_val (v := .int .i64 a1) rfl rfl (by kernel_rfl) (fun w => by kernel_rfl) ?_
              exact ls_fin s0 (.int .i64 a1) (congrArg (fun z => upd z 33 _) hF.symm) ⟨rfl, rfl⟩ (sub_nil _)
            · refine ⟨fun o ho vs Rs f' S' w hp hf hx hS hR hs => ?_⟩
              obtain rfl := Option.some.inj ho
              refine And.intro (want_none rfl) (And.intro (fun _ => ?_) (fun h => by cases h))
              have hF := fr_next (rfl) ((hx 2 (by kernel_rfl)).trans (by kernel_rfl : (_ : Value) = .int .u64 a2))
              refine ls_fr hF ?_
              refine ls_val (v := .int .u64 a2) rfl rfl (by kernel_rfl) (fun w => by kernel_rfl) ?_
              exact ls_fin s0 (.int .u64 a2) (congrArg (fun z => upd z 34 _) hF.symm) ⟨rfl, rfl⟩ (sub_nil _)
            · refine ⟨fun o ho vs Rs f' S' w hp hf hx hS hR hs => ?_⟩
              obtain rfl := Option.some.inj ho
              obtain ⟨hv2, hR2⟩ := hp 2 (by kernel_rfl)
              refine And.intro (want_none rfl) (And.intro (fun _ => ?_) (fun h => by cases h))
              have hF := fr_next (rfl) ((hf 2 34 (by kernel_rfl) rfl).trans hv2)
              refine ls_fr hF ?_
              refine ls_lit (E := (Value.int .u64)) (e := 22) 0 rfl rfl (by kernel_rfl) ([a2]) (by exact of_decide_eq_true (by kernel_rfl)) (fun w => by kernel_rfl) ?_
              intro g39
              exact ls_fin (sput s0 0 (some (Ck.sl 22 (Value.int .u64) (some ⟨g39, 0, none⟩) ([a2]).length ([a2])))) (.slice (some ⟨g39, 0, none⟩) [a2].length [a2].length) (congrArg (fun z => upd z 35 _) hF.symm) ⟨g39, rfl, rfl⟩ (sub_put (by exact rfl) (sub_nil _))
            · refine ⟨fun o ho vs Rs f' S' w hp hf hx hS hR hs => ?_⟩
              obtain rfl := Option.some.inj ho
              obtain ⟨hv0, hR0⟩ := hp 0 (by kernel_rfl)
              obtain ⟨hv1, hR1⟩ := hp 1 (by kernel_rfl)
              obtain ⟨g39, hv3, hR3⟩ := hp 3 (by kernel_rfl)
              have hT3_0 := (hR 3 0 (by kernel_rfl) (by decide)).trans (congrFun hR3 0)
              refine And.intro (want_none rfl) (And.intro (fun _ => ?_) (fun h => by cases h))
              have hF := fr_next (fr_next (fr_next (rfl) ((hf 0 32 (by kernel_rfl) rfl).trans hv0)) ((hf 1 33 (by kernel_rfl) rfl).trans hv1)) ((hf 3 35 (by kernel_rfl) rfl).trans hv3)
              refine ls_fr hF ?_
              refine ls_call (fid := 13) (vals := #[.slice A0 l0.length c0, .int .i64 a1, .slice (some ⟨g39, 0, none⟩) ([a2]).length [a2].length]) (X := (Option Addr × Nat)) (fun x => .slice x.1 t40.length x.2) (fun x => sput s0 0 (some (Ck.sl 5 (Value.int .u8) x.1 x.2 t40))) 0 rfl rfl (by kernel_rfl) (fun w => by kernel_rfl) (fun w1 hs1 => codec_Fixed.calls k A0 c0 l0 a1 (some ⟨g39, 0, none⟩) [a2].length ([a2]) t40 w1 (hs1.old (hs.old R0)) C0 (hs1.old (hs.rd (k := 26) hT3_0)) (hs.cap (k := 26) hT3_0) hc41) ?_
              intro x42
              exact ls_fin (sput s0 0 (some (Ck.sl 5 (Value.int .u8) x42.1 x42.2 t40))) (.slice x42.1 t40.length x42.2) (congrArg (fun z => upd z 36 _) hF.symm) ⟨x42, rfl, rfl⟩ (sub_put (by exact rfl) (sub_nil _))
            · refine ⟨fun o ho vs Rs f' S' w hp hf hx hS hR hs => ?_⟩
              obtain rfl := Option.some.inj ho
              obtain ⟨x42, hv4, hR4⟩ := hp 4 (by kernel_rfl)
              have hT4_0 := (hR 4 0 (by kernel_rfl) (by decide)).trans (congrFun hR4 0)
              refine And.intro (want_none rfl) (And.intro (fun _ => ?_) (fun h => by cases h))
              have hF := fr_next (rfl) ((hf 4 36 (by kernel_rfl) rfl).trans hv4)
              refine ls_fr hF ?_
              refine ls_str (A := x42.1) (c := x42.2) (e := 5) (l := t40) rfl rfl (by kernel_rfl) rfl (by kernel_rfl) (by kernel_rfl) (by kernel_rfl) (by kernel_rfl) (fun w1 hs1 => (hs1.old (hs.rd (k := 34) hT4_0))) ?_
              exact ls_fin s0 (.string (strOfNums t40)) (congrArg (fun z => upd z 37 _) hF.symm) ⟨rfl, rfl⟩ (sub_nil _)
            · refine ⟨fun o ho vs Rs f' S' w hp hf hx hS hR hs => ?_⟩
              obtain rfl := Option.some.inj ho
              refine And.intro (want_none rfl) (And.intro (fun _ => ?_) (fun h => by cases h))
              have hF := fr_next (rfl) ((hx 0 (by kernel_rfl)).trans (by kernel_rfl : (_ : Value) = .slice A0 l0.length c0))
              refine ls_fr hF ?_
              refine ls_val (v := .slice A0 l0.length c0) rfl rfl (by kernel_rfl) (fun w => by kernel_rfl) ?_
              exact ls_fin s0 (.slice A0 l0.length c0) (congrArg (fun z => upd z 38 _) hF.symm) ⟨rfl, rfl⟩ (sub_nil _)
            · refine ⟨fun o ho vs Rs f' S' w hp hf hx hS hR hs => ?_⟩
              obtain rfl := Option.some.inj ho
              refine And.intro (want_none rfl) (And.intro (fun _ => ?_) (fun h => by cases h))
              have hF := fr_next (rfl) ((hx 1 (by kernel_rfl)).trans (by kernel_rfl : (_ : Value) = .int .i64 a1))
              refine ls_fr hF ?_
              refine ls_val (v := .int .i64 a1) rfl rfl (by kernel_rfl) (fun w => by kernel_rfl) ?_
              exact ls_fin s0 (.int .i64 a1) (congrArg (fun z => upd z 39 _) hF.symm) ⟨rfl, rfl⟩ (sub_nil _)
            · refine ⟨fun o ho vs Rs f' S' w hp hf hx hS hR hs => ?_⟩
              obtain rfl := Option.some.inj ho
              refine And.intro (want_none rfl) (And.intro (fun _ => ?_) (fun h => by cases h))
              have hF := fr_next (rfl) ((hx 2 (by kernel_rfl)).trans (by kernel_rfl : (_ : Value) = .int .u64 a2))
              refine ls_fr hF ?_
              refine ls_val (v := .int .u64 a2) rfl rfl (by kernel_rfl) (fun w => by kernel_rfl) ?_
              exact ls_fin s0 (.int .u64 a2) (congrArg (fun z => upd z 40 _) hF.symm) ⟨rfl, rfl⟩ (sub_nil _)
            · refine ⟨fun o ho vs Rs f' S' w hp hf hx hS hR hs => ?_⟩
              obtain rfl := Option.some.inj ho
              obtain ⟨hv6, hR6⟩ := hp 6 (by kernel_rfl)
              obtain ⟨hv7, hR7⟩ := hp 7 (by kernel_rfl)
              obtain ⟨hv8, hR8⟩ := hp 8 (by kernel_rfl)
              refine And.intro (want_none rfl) (And.intro (fun _ => ?_) (fun h => by cases h))
              have hF := fr_next (fr_next (fr_next (rfl) ((hf 6 38 (by kernel_rfl) rfl).trans hv6)) ((hf 7 39 (by kernel_rfl) rfl).trans hv7)) ((hf 8 40 (by kernel_rfl) rfl).trans hv8)
              refine ls_fr hF ?_
              refine ls_call (fid := 14) (vals := #[.slice A0 l0.length c0, .int .i64 a1, .int .u64 a2]) (X := (Option Addr × Nat)) (fun x => .slice x.1 t43.length x.2) (fun x => sput s0 0 (some (Ck.sl 5 (Value.int .u8) x.1 x.2 t43))) 0 rfl rfl (by kernel_rfl) (fun w => by kernel_rfl) (fun w1 hs1 => shadowboxref01_Fixed.calls k A0 c0 l0 a1 a2 t43 w1 (hs1.old (hs.old R0)) C0 hc44) ?_
              intro x45
              exact ls_fin (sput s0 0 (some (Ck.sl 5 (Value.int .u8) x45.1 x45.2 t43))) (.slice x45.1 t43.length x45.2) (congrArg (fun z => upd z 41 _) hF.symm) ⟨x45, rfl, rfl⟩ (sub_put (by exact rfl) (sub_nil _))
            · refine ⟨fun o ho vs Rs f' S' w hp hf hx hS hR hs => ?_⟩
              obtain rfl := Option.some.inj ho
              obtain ⟨x45, hv9, hR9⟩ := hp 9 (by kernel_rfl)
              have hT9_0 := (hR 9 0 (by kernel_rfl) (by decide)).trans (congrFun hR9 0)
              refine And.intro (want_none rfl) (And.intro (fun _ => ?_) (fun h => by cases h))
              have hF := fr_next (rfl) ((hf 9 41 (by kernel_rfl) rfl).trans hv9)
              refine ls_fr hF ?_
              refine ls_str (A := x45.1) (c := x45.2) (e := 5) (l := t43) rfl rfl (by kernel_rfl) rfl (by kernel_rfl) (by kernel_rfl) (by kernel_rfl) (by kernel_rfl) (fun w1 hs1 => (hs1.old (hs.rd (k := 74) hT9_0))) ?_
              exact ls_fin s0 (.string (strOfNums t43)) (congrArg (fun z => upd z 42 _) hF.symm) ⟨rfl, rfl⟩ (sub_nil _)
            · refine ⟨fun o ho vs Rs f' S' w hp hf hx hS hR hs => ?_⟩
              obtain rfl := Option.some.inj ho
              obtain ⟨hv5, hR5⟩ := hp 5 (by kernel_rfl)
              obtain ⟨hv10, hR10⟩ := hp 10 (by kernel_rfl)
              refine And.intro (want_none rfl) (And.intro (fun _ => ?_) (fun h => by cases h))
              have hF := fr_next (fr_next (rfl) ((hf 5 37 (by kernel_rfl) rfl).trans hv5)) ((hf 10 42 (by kernel_rfl) rfl).trans hv10)
              refine ls_fr hF ?_
              refine ls_val (v := .bool ((strOfNums t40).toList == (strOfNums t43).toList)) rfl rfl (by kernel_rfl) (fun w => by kernel_rfl) ?_
              refine ls_ren 43 (v := .bool ((strOfNums t40).toList == (strOfNums t43).toList)) (v' := .bool true) (by kernel_rfl) (congrArg Value.bool (show ((strOfNums t40).toList == (strOfNums t43).toList) = true from q46)) ?_
              exact ls_fin s0 (.bool true) ((upd_upd _ _ _ _).trans (congrArg (fun z => upd z 43 _) hF.symm)) ⟨rfl, rfl⟩ (sub_nil _)
            · refine ⟨fun o ho vs Rs f' S' w hp hf hx hS hR hs => ?_⟩
              obtain rfl := Option.some.inj ho
              obtain ⟨hv11, hR11⟩ := hp 11 (by kernel_rfl)
              refine And.intro (want_none rfl) (And.intro (fun _ => ?_) (fun h => by cases h))
              have hF := fr_next (rfl) ((hf 11 43 (by kernel_rfl) rfl).trans hv11)
              refine ls_fr hF ?_
              refine ls_val (v := .bool true) rfl rfl (by kernel_rfl) (fun w => by kernel_rfl) ?_
              exact ls_fin s0 (.bool true) (congrArg (fun z => upd z 44 _) hF.symm) ⟨rfl, rfl⟩ (sub_nil _)
            · refine ⟨fun o ho vs Rs f' S' w hp hf hx hS hR hs => ?_⟩
              obtain rfl := Option.some.inj ho
              obtain ⟨hv12, hR12⟩ := hp 12 (by kernel_rfl)
              refine And.intro (want_is (j := 12) (t := 44) rfl rfl (by kernel_rfl) ((hf 12 44 (by kernel_rfl) rfl).trans hv12) rfl) (And.intro (fun _ => ?_) (fun h => by cases h))
              have hF := fr_next (fr_next (rfl) ((hx 7 (by kernel_rfl)).trans (by kernel_rfl : (_ : Value) = .int .u64 t33.1))) ((hf 12 44 (by kernel_rfl) rfl).trans hv12)
              refine ls_fr hF ?_
              refine ls_val (v := .int .u64 t33.1) rfl rfl (by kernel_rfl) (fun w => by kernel_rfl) ?_
              exact ls_fin s0 (.int .u64 t33.1) (congrArg (fun z => upd z 45 _) hF.symm) ⟨rfl, rfl⟩ (sub_nil _)
            · refine ⟨fun o ho vs Rs f' S' w hp hf hx hS hR hs => ?_⟩
              obtain rfl := Option.some.inj ho
              obtain ⟨hv12, hR12⟩ := hp 12 (by kernel_rfl)
              refine And.intro (want_is (j := 12) (t := 44) rfl rfl (by kernel_rfl) ((hf 12 44 (by kernel_rfl) rfl).trans hv12) rfl) (And.intro (fun _ => ?_) (fun h => by cases h))
              have hF := fr_next (fr_next (rfl) ((hx 10 (by kernel_rfl)).trans (by kernel_rfl : (_ : Value) = .int .u64 t36.1))) ((hf 12 44 (by kernel_rfl) rfl).trans hv12)
              refine ls_fr hF ?_
              refine ls_val (v := .int .u64 t36.1) rfl rfl (by kernel_rfl) (fun w => by kernel_rfl) ?_
              exact ls_fin s0 (.int .u64 t36.1) (congrArg (fun z => upd z 46 _) hF.symm) ⟨rfl, rfl⟩ (sub_nil _)
            · refine ⟨fun o ho vs Rs f' S' w hp hf hx hS hR hs => ?_⟩
              obtain rfl := Option.some.inj ho
              obtain ⟨hv12, hR12⟩ := hp 12 (by kernel_rfl)
              obtain ⟨hv13, hR13⟩ := hp 13 (by kernel_rfl)
              obtain ⟨hv14, hR14⟩ := hp 14 (by kernel_rfl)
              refine And.intro (want_is (j := 12) (t := 44) rfl rfl (by kernel_rfl) ((hf 12 44 (by kernel_rfl) rfl).trans hv12) rfl) (And.intro (fun _ => ?_) (fun h => by cases h))
              have hF := fr_next (fr_next (fr_next (rfl) ((hf 12 44 (by kernel_rfl) rfl).trans hv12)) ((hf 13 45 (by kernel_rfl) rfl).trans hv13)) ((hf 14 46 (by kernel_rfl) rfl).trans hv14)
              refine ls_fr hF ?_
              refine ls_val (v := .bool (decide (t33.1 = t36.1))) rfl rfl (by kernel_rfl) (fun w => by kernel_rfl) ?_
              refine ls_ren 47 (v := .bool (decide (t33.1 = t36.1))) (v' := .bool true) (by kernel_rfl) (congrArg Value.bool (show (decide (t33.1 = t36.1)) = true from dec_t q47)) ?_
              exact ls_fin s0 (.bool true) ((upd_upd _ _ _ _).trans (congrArg (fun z => upd z 47 _) hF.symm)) ⟨rfl, rfl⟩ (sub_nil _)
            · refine ⟨fun o ho vs Rs f' S' w hp hf hx hS hR hs => ?_⟩
              obtain rfl := Option.some.inj ho
              obtain ⟨hv12, hR12⟩ := hp 12 (by kernel_rfl)
              obtain ⟨hv15, hR15⟩ := hp 15 (by kernel_rfl)
              refine And.intro (want_none rfl) (And.intro (fun _ => ?_) (fun h => by cases h))
              have hF := fr_next (fr_next (rfl) ((hf 12 44 (by kernel_rfl) rfl).trans hv12)) ((hf 15 47 (by kernel_rfl) rfl).trans hv15)
              refine ls_fr hF ?_
              refine ls_val (v := .bool true) rfl rfl (by kernel_rfl) (fun w => by kernel_rfl) ?_
              exact ls_fin s0 (.bool true) (congrArg (fun z => upd z 48 _) hF.symm) ⟨rfl, rfl⟩ (sub_nil _)
            · refine ⟨fun o ho vs Rs f' S' w hp hf hx hS hR hs => ?_⟩
              obtain rfl := Option.some.inj ho
              obtain ⟨hv16, hR16⟩ := hp 16 (by kernel_rfl)
              refine And.intro (want_none rfl) (And.intro (fun _ => ?_) (fun h => by cases h))
              have hF := fr_next (rfl) ((hf 16 48 (by kernel_rfl) rfl).trans hv16)
              refine ls_fr hF ?_
              refine ls_val (v := .bool true) rfl rfl (by kernel_rfl) (fun w => by kernel_rfl) ?_
              exact ls_fin s0 (.bool true) (congrArg (fun z => upd z 49 _) hF.symm) ⟨rfl, rfl⟩ (sub_nil _)
            · refine ⟨fun o ho vs Rs f' S' w hp hf hx hS hR hs => ?_⟩
              obtain rfl := Option.some.inj ho
              obtain ⟨hv17, hR17⟩ := hp 17 (by kernel_rfl)
              refine And.intro (want_is (j := 17) (t := 49) rfl rfl (by kernel_rfl) ((hf 17 49 (by kernel_rfl) rfl).trans hv17) rfl) (And.intro (fun _ => ?_) (fun h => by cases h))
              have hF := fr_next (fr_next (rfl) ((hx 8 (by kernel_rfl)).trans (by kernel_rfl : (_ : Value) = .slice x35.1 t33.2.1.length x35.2))) ((hf 17 49 (by kernel_rfl) rfl).trans hv17)
              refine ls_fr hF ?_
              refine ls_val (v := .slice x35.1 t33.2.1.length x35.2) rfl rfl (by kernel_rfl) (fun w => by kernel_rfl) ?_
              exact ls_fin s0 (.slice x35.1 t33.2.1.length x35.2) (congrArg (fun z => upd z 50 _) hF.symm) ⟨rfl, rfl⟩ (sub_nil _)
            · refine ⟨fun o ho vs Rs f' S' w hp hf hx hS hR hs => ?_⟩
              obtain rfl := Option.some.inj ho
              obtain ⟨hv17, hR17⟩ := hp 17 (by kernel_rfl)
              obtain ⟨hv18, hR18⟩ := hp 18 (by kernel_rfl)
              refine And.intro (want_is (j := 17) (t := 49) rfl rfl (by kernel_rfl) ((hf 17 49 (by kernel_rfl) rfl).trans hv17) rfl) (And.intro (fun _ => ?_) (fun h => by cases h))
              have hF := fr_next (fr_next (rfl) ((hf 17 49 (by kernel_rfl) rfl).trans hv17)) ((hf 18 50 (by kernel_rfl) rfl).trans hv18)
              refine ls_fr hF ?_
              refine ls_str (A := x35.1) (c := x35.2) (e := 5) (l := t33.2.1) rfl rfl (by kernel_rfl) rfl (by kernel_rfl) (by kernel_rfl) (by kernel_rfl) (by kernel_rfl) (fun w1 hs1 => (hs1.old (hs.rd (k := 0) ((hS 0 (by kernel_rfl)).trans (by exact rfl))))) ?_
              exact ls_fin s0 (.string (strOfNums t33.2.1)) (congrArg (fun z => upd z 51 _) hF.symm) ⟨rfl, rfl⟩ (sub_nil _)
            · refine ⟨fun o ho vs Rs f' S' w hp hf hx hS hR hs => ?_⟩
              obtain rfl := Option.some.inj ho
              obtain ⟨hv17, hR17⟩ := hp 17 (by kernel_rfl)
              refine And.intro (want_is (j := 17) (t := 49) rfl rfl (by kernel_rfl) ((hf 17 49 (by kernel_rfl) rfl).trans hv17) rfl) (And.intro (fun _ => ?_) (fun h => by cases h))
              have hF := fr_next (fr_next (rfl) ((hx 11 (by kernel_rfl)).trans (by kernel_rfl : (_ : Value) = .slice x38.1 t36.2.1.length x38.2))) ((hf 17 49 (by kernel_rfl) rfl).trans hv17)
              refine ls_fr hF ?_
              refine ls_val (v := .slice x38.1 t36.2.1.length x38.2) rfl rfl (by kernel_rfl) (fun w => by kernel_rfl) ?_
              exact ls_fin s0 (.slice x38.1 t36.2.1.length x38.2) (congrArg (fun z => upd z 52 _) hF.symm) ⟨rfl, rfl⟩ (sub_nil _)
            · refine ⟨fun o ho vs Rs f' S' w hp hf hx hS hR hs => ?_⟩
              obtain rfl := Option.some.inj ho
              obtain ⟨hv17, hR17⟩ := hp 17 (by kernel_rfl)
              obtain ⟨hv20, hR20⟩ := hp 20 (by kernel_rfl)
              refine And.intro (want_is (j := 17) (t := 49) rfl rfl (by kernel_rfl) ((hf 17 49 (by kernel_rfl) rfl).trans hv17) rfl) (And.intro (fun _ => ?_) (fun h => by cases h))
              have hF := fr_next (fr_next (rfl) ((hf 17 49 (by kernel_rfl) rfl).trans hv17)) ((hf 20 52 (by kernel_rfl) rfl).trans hv20)
              refine ls_fr hF ?_
              refine ls_str (A := x38.1) (c := x38.2) (e := 5) (l := t36.2.1) rfl rfl (by kernel_rfl) rfl (by kernel_rfl) (by kernel_rfl) (by kernel_rfl) (by kernel_rfl) (fun w1 hs1 => (hs1.old (hs.rd (k := 1) ((hS 1 (by kernel_rfl)).trans (by exact rfl))))) ?_
              exact ls_fin s0 (.string (strOfNums t36.2.1)) (congrArg (fun z => upd z 53 _) hF.symm) ⟨rfl, rfl⟩ (sub_nil _)
            · refine ⟨fun o ho vs Rs f' S' w hp hf hx hS hR hs => ?_⟩
              obtain rfl := Option.some.inj ho
              obtain ⟨hv17, hR17⟩ := hp 17 (by kernel_rfl)
              obtain ⟨hv19, hR19⟩ := hp 19 (by kernel_rfl)
              obtain ⟨hv21, hR21⟩ := hp 21 (by kernel_rfl)
              refine And.intro (want_is (j := 17) (t := 49) rfl rfl (by kernel_rfl) ((hf 17 49 (by kernel_rfl) rfl).trans hv17) rfl) (And.intro (fun _ => ?_) (fun h => by cases h))
              have hF := fr_next (fr_next (fr_next (rfl) ((hf 17 49 (by kernel_rfl) rfl).trans hv17)) ((hf 19 51 (by kernel_rfl) rfl).trans hv19)) ((hf 21 53 (by kernel_rfl) rfl).trans hv21)
              refine ls_fr hF ?_
              refine ls_val (v := .bool ((strOfNums t33.2.1).toList == (strOfNums t36.2.1).toList)) rfl rfl (by kernel_rfl) (fun w => by kernel_rfl) ?_
              refine ls_ren 54 (v := .bool ((strOfNums t33.2.1).toList == (strOfNums t36.2.1).toList)) (v' := .bool true) (by kernel_rfl) (congrArg Value.bool (show ((strOfNums t33.2.1).toList == (strOfNums t36.2.1).toList) = true from q48)) ?_
              exact ls_fin s0 (.bool true) ((upd_upd _ _ _ _).trans (congrArg (fun z => upd z 54 _) hF.symm)) ⟨rfl, rfl⟩ (sub_nil _)
            · refine ⟨fun o ho vs Rs f' S' w hp hf hx hS hR hs => ?_⟩
              obtain rfl := Option.some.inj ho
              obtain ⟨hv17, hR17⟩ := hp 17 (by kernel_rfl)
              obtain ⟨hv22, hR22⟩ := hp 22 (by kernel_rfl)
              refine And.intro (want_none rfl) (And.intro (fun _ => ?_) (fun h => by cases h))
              have hF := fr_next (fr_next (rfl) ((hf 17 49 (by kernel_rfl) rfl).trans hv17)) ((hf 22 54 (by kernel_rfl) rfl).trans hv22)
              refine ls_fr hF ?_
              refine ls_val (v := .bool true) rfl rfl (by kernel_rfl) (fun w => by kernel_rfl) ?_
              exact ls_fin s0 (.bool true) (congrArg (fun z => upd z 55 _) hF.symm) ⟨rfl, rfl⟩ (sub_nil _)
            · refine ⟨fun o ho vs Rs f' S' w hp hf hx hS hR hs => ?_⟩
              obtain rfl := Option.some.inj ho
              obtain ⟨hv23, hR23⟩ := hp 23 (by kernel_rfl)
              refine And.intro (want_none rfl) (And.intro (fun _ => ?_) (fun h => by cases h))
              have hF := fr_next (rfl) ((hf 23 55 (by kernel_rfl) rfl).trans hv23)
              refine ls_fr hF ?_
              refine ls_val (v := .bool true) rfl rfl (by kernel_rfl) (fun w => by kernel_rfl) ?_
              exact ls_fin s0 (.bool true) (congrArg (fun z => upd z 56 _) hF.symm) ⟨rfl, rfl⟩ (sub_nil _)
            · refine ⟨fun o ho vs Rs f' S' w hp hf hx hS hR hs => ?_⟩
              obtain rfl := Option.some.inj ho
              obtain ⟨hv24, hR24⟩ := hp 24 (by kernel_rfl)
              refine And.intro (want_is (j := 24) (t := 56) rfl rfl (by kernel_rfl) ((hf 24 56 (by kernel_rfl) rfl).trans hv24) rfl) (And.intro (fun _ => ?_) (fun h => by cases h))
              have hF := fr_next (fr_next (rfl) ((hx 9 (by kernel_rfl)).trans (by kernel_rfl : (_ : Value) = .bool t33.2.2))) ((hf 24 56 (by kernel_rfl) rfl).trans hv24)
              refine ls_fr hF ?_
              refine ls_val (v := .bool t33.2.2) rfl rfl (by kernel_rfl) (fun w => by kernel_rfl) ?_
              exact ls_fin s0 (.bool t33.2.2) (congrArg (fun z => upd z 57 _) hF.symm) ⟨rfl, rfl⟩ (sub_nil _)
            · refine ⟨fun o ho vs Rs f' S' w hp hf hx hS hR hs => ?_⟩
              obtain rfl := Option.some.inj ho
              obtain ⟨hv24, hR24⟩ := hp 24 (by kernel_rfl)
              refine And.intro (want_is (j := 24) (t := 56) rfl rfl (by kernel_rfl) ((hf 24 56 (by kernel_rfl) rfl).trans hv24) rfl) (And.intro (fun _ => ?_) (fun h => by cases h))
              have hF := fr_next (fr_next (rfl) ((hx 12 (by kernel_rfl)).trans (by kernel_rfl : (_ : Value) = .bool t36.2.2))) ((hf 24 56 (by kernel_rfl) rfl).trans hv24)
              refine ls_fr hF ?_
              refine ls_val (v := .bool t36.2.2) rfl rfl (by kernel_rfl) (fun w => by kernel_rfl) ?_
              exact ls_fin s0 (.bool t36.2.2) (congrArg (fun z => upd z 58 _) hF.symm) ⟨rfl, rfl⟩ (sub_nil _)
          · intro vs Rs f' S' hp hf hx hS hR
            obtain ⟨g39, hv3, hR3⟩ := hp 3 (by kernel_rfl)
            have hT3_0 := (hR 3 0 (by kernel_rfl) (by decide)).trans (congrFun hR3 0)
            obtain ⟨x42, hv4, hR4⟩ := hp 4 (by kernel_rfl)
            have hT4_0 := (hR 4 0 (by kernel_rfl) (by decide)).trans (congrFun hR4 0)
            obtain ⟨x45, hv9, hR9⟩ := hp 9 (by kernel_rfl)
            have hT9_0 := (hR 9 0 (by kernel_rfl) (by decide)).trans (congrFun hR9 0)
            obtain ⟨hv24, hR24⟩ := hp 24 (by kernel_rfl)
            obtain ⟨hv25, hR25⟩ := hp 25 (by kernel_rfl)
            obtain ⟨hv26, hR26⟩ := hp 26 (by kernel_rfl)
            refine ls_fr (F := upd (upd (upd f' 56 (.bool true)) 57 (.bool t33.2.2)) 58 (.bool t36.2.2)) (fr_next (fr_next (fr_next (rfl) ((hf 24 56 (by kernel_rfl) rfl).trans hv24)) ((hf 25 57 (by kernel_rfl) rfl).trans hv25)) ((hf 26 58 (by kernel_rfl) rfl).trans hv26)) ?_
            refine ls_sub (s0) (sub_nil _) ?_
            refine ls_on (j := 24) (t := 56) (b := true) rfl rfl (by kernel_rfl) (by kernel_rfl) ?_
            refine ls_val (v := .bool (t33.2.2 == t36.2.2)) rfl rfl (by kernel_rfl) (fun w => by kernel_rfl) ?_
            refine ls_val (v := .bool (t33.2.2 == t36.2.2)) rfl rfl (by kernel_rfl) (fun w => by kernel_rfl) ?_
            refine ls_val (v := .bool (t33.2.2 == t36.2.2)) rfl rfl (by kernel_rfl) (fun w => by kernel_rfl) ?_
            by_cases q49 : (t33.2.2 == t36.2.2) = true
            · replace H := ite_t q49 H
              refine ls_know (c := true) (q49) 61 (by kernel_rfl) ?_
              refine ls_on (j := 29) (t := 61) (b := true) rfl rfl (by kernel_rfl) (by kernel_rfl) ?_
              refine ls_lit (E := (Value.int .u64)) (e := 22) 218 rfl rfl (by kernel_rfl) ([(258 : Int), (1 : Int)]) (by exact of_decide_eq_true (by kernel_rfl)) (fun w => by kernel_rfl) ?_
              intro g50
              refine ls_on (j := 29) (t := 61) (b := true) rfl rfl (by kernel_rfl) (by kernel_rfl) ?_
              obtain ⟨t51, hc52, H⟩ := bind_some H
              refine ls_call (fid := 13) (vals := #[.slice none ([] : List Int).length 0, .int .i64 (2 : Int), .slice (some ⟨g50, 0, none⟩) ([(258 : Int), (1 : Int)]).length [(258 : Int), (1 : Int)].length]) (X := (Option Addr × Nat)) (fun x => .slice x.1 t51.length x.2) (fun x => sput s0 0 (some (Ck.sl 5 (Value.int .u8) x.1 x.2 t51))) 219 rfl rfl (by kernel_rfl) (fun w => by kernel_rfl) (fun w hs => codec_Fixed.calls k none 0 ([] : List Int) (2 : Int) (some ⟨g50, 0, none⟩) [(258 : Int), (1 : Int)].length ([(258 : Int), (1 : Int)]) t51 w (Rd.nil _ _) (Nat.le_refl 0) (hs.rd (k := 218) (by exact rfl)) (hs.cap (k := 218) (by exact rfl)) hc52) ?_
              intro x53
              refine ls_on (j := 29) (t := 61) (b := true) rfl rfl (by kernel_rfl) (by kernel_rfl) ?_
              refine ls_str (A := x53.1) (c := x53.2) (e := 5) (l := t51) rfl rfl (by kernel_rfl) rfl (by kernel_rfl) (by kernel_rfl) (by kernel_rfl) (by kernel_rfl) (fun w hs => (hs.rd (k := 219) (by exact rfl))) ?_
              refine ls_on (j := 29) (t := 61) (b := true) rfl rfl (by kernel_rfl) (by kernel_rfl) ?_
              refine ls_val (v := .bool ((strOfNums t51).toList == (⟨#[2, 1, 1, 0]⟩ : ByteArray).toList)) rfl rfl (by kernel_rfl) (fun w => by kernel_rfl) ?_
              refine ls_val (v := .bool ((strOfNums t51).toList == (⟨#[2, 1, 1, 0]⟩ : ByteArray).toList)) rfl rfl (by kernel_rfl) (fun w => by kernel_rfl) ?_
              refine ls_val (v := .bool ((strOfNums t51).toList == (⟨#[2, 1, 1, 0]⟩ : ByteArray).toList)) rfl rfl (by kernel_rfl) (fun w => by kernel_rfl) ?_
              refine ls_end ?_
              refine qn_then ?_
              refine cs_ret' ?_
              obtain rfl := Option.some.inj H
              refine qr_end1 rfl (fun w' hs => ⟨(), rfl, ?_⟩)
              exact hs.sub (sub_nil _)
            · replace H := ite_f q49 H
              refine ls_know (c := false) (Bool.eq_false_iff.mpr q49) 61 (by kernel_rfl) ?_
              refine ls_off (j := 29) (t := 61) (b := true) (c := false) rfl rfl (by kernel_rfl) (by kernel_rfl) rfl rfl (by kernel_rfl) ?_
              refine ls_off (j := 29) (t := 61) (b := true) (c := false) rfl rfl (by kernel_rfl) (by kernel_rfl) rfl rfl (by kernel_rfl) ?_
              refine ls_off (j := 29) (t := 61) (b := true) (c := false) rfl rfl (by kernel_rfl) (by kernel_rfl) rfl rfl (by kernel_rfl) ?_
              refine ls_off (j := 29) (t := 61) (b := true) (c := false) rfl rfl (by kernel_rfl) (by kernel_rfl) rfl rfl (by kernel_rfl) ?_
              refine ls_val (v := .bool false) rfl rfl (by kernel_rfl) (fun w => by kernel_rfl) ?_
              refine ls_val (v := .bool false) rfl rfl (by kernel_rfl) (fun w => by kernel_rfl) ?_
              refine ls_end ?_
              refine qn_then ?_
              refine cs_ret' ?_
              obtain rfl := Option.some.inj H
              refine qr_end1 rfl (fun w' hs => ⟨(), rfl, ?_⟩)
              exact hs.sub (sub_nil _)
        · replace H := ite_f q48 H
          refine cs_draw (l := [_, _, _, _, _, _, _, _, _, _, _, _, _, _, _, _, _, _, _, _, _, _, _, _, _, _, _, _, _, _, _, _, _, _, _, _]) [[], [], [], [2], [0, 1, 2, 3], [0, 1, 2, 3, 4], [], [], [], [0, 1, 2, 3, 4, 6, 7, 8], [0, 1, 2, 3, 4, 6, 7, 8, 9], [0, 1, 2, 3, 4, 5, 6, 7, 8, 9, 10], [0, 1, 2, 3, 4, 5, 6, 7, 8, 9, 10, 11], [0, 1, 2, 3, 4, 5, 6, 7, 8, 9, 10, 11, 12], [0, 1, 2, 3, 4, 5, 6, 7, 8, 9, 10, 11, 12], [0, 1, 2, 3, 4, 5, 6, 7, 8, 9, 10, 11, 12, 13, 14], [0, 1, 2, 3, 4, 5, 6, 7, 8, 9, 10, 11, 12, 13, 14, 15], [0, 1, 2, 3, 4, 5, 6, 7, 8, 9, 10, 11, 12, 13, 14, 15, 16], [0, 1, 2, 3, 4, 5, 6, 7, 8, 9, 10, 11, 12, 13, 14, 15, 16, 17], [0, 1, 2, 3, 4, 5, 6, 7, 8, 9, 10, 11, 12, 13, 14, 15, 16, 17, 18], [0, 1, 2, 3, 4, 5, 6, 7, 8, 9, 10, 11, 12, 13, 14, 15, 16, 17], [0, 1, 2, 3, 4, 5, 6, 7, 8, 9, 10, 11, 12, 13, 14, 15, 16, 17, 20], [0, 1, 2, 3, 4, 5, 6, 7, 8, 9, 10, 11, 12, 13, 14, 15, 16, 17, 18, 19, 20, 21], [0, 1, 2, 3, 4, 5, 6, 7, 8, 9, 10, 11, 12, 13, 14, 15, 16, 17, 18, 19, 20, 21, 22], [0, 1, 2, 3, 4, 5, 6, 7, 8, 9, 10, 11, 12, 13, 14, 15, 16, 17, 18, 19, 20, 21, 22, 23], [0, 1, 2, 3, 4, 5, 6, 7, 8, 9, 10, 11, 12, 13, 14, 15, 16, 17, 18, 19, 20, 21, 22, 23, 24], [0, 1, 2, 3, 4, 5, 6, 7, 8, 9, 10, 11, 12, 13, 14, 15, 16, 17, 18, 19, 20, 21, 22, 23, 24], [0, 1, 2, 3, 4, 5, 6, 7, 8, 9, 10, 11, 12, 13, 14, 15, 16, 17, 18, 19, 20, 21, 22, 23, 24, 25, 26], [0, 1, 2, 3, 4, 5, 6, 7, 8, 9, 10, 11, 12, 13, 14, 15, 16, 17, 18, 19, 20, 21, 22, 23, 24, 25, 26, 27], [0, 1, 2, 3, 4, 5, 6, 7, 8, 9, 10, 11, 12, 13, 14, 15, 16, 17, 18, 19, 20, 21, 22, 23, 24, 25, 26, 27, 28], [0, 1, 2, 3, 4, 5, 6, 7, 8, 9, 10, 11, 12, 13, 14, 15, 16, 17, 18, 19, 20, 21, 22, 23, 24, 25, 26, 27, 28, 29], [0, 1, 2, 3, 4, 5, 6, 7, 8, 9, 10, 11, 12, 13, 14, 15, 16, 17, 18, 19, 20, 21, 22, 23, 24, 25, 26, 27, 28, 29, 30], [0, 1, 2, 3, 4, 5, 6, 7, 8, 9, 10, 11, 12, 13, 14, 15, 16, 17, 18, 19, 20, 21, 22, 23, 24, 25, 26, 27, 28, 29, 30, 31], [0, 1, 2, 3, 4, 5, 6, 7, 8, 9, 10, 11, 12, 13, 14, 15, 16, 17, 18, 19, 20, 21, 22, 23, 24, 25, 26, 27, 28, 29, 30, 31, 32], [0, 1, 2, 3, 4, 5, 6, 7, 8, 9, 10, 11, 12, 13, 14, 15, 16, 17, 18, 19, 20, 21, 22, 23, 24, 25, 26, 27, 28, 29, 30, 31, 32, 33], [0, 1, 2, 3, 4, 5, 6, 7, 8, 9, 10, 11, 12, 13, 14, 15, 16, 17, 18, 19, 20, 21, 22, 23, 24, 25, 26, 27, 28, 29, 30, 31, 32, 33, 34]] 27 2 (spl [fun v R => v = .slice A0 l0.length c0 ∧ R = s0, fun v R => v = .int .i64 a1 ∧ R = s0, fun v R => v = .int .u64 a2 ∧ R = s0, fun v R => ∃ g39 : Nat, v = .slice (some ⟨g39, 0, none⟩) [a2].length [a2].length ∧ R = sput s0 0 (some (Ck.sl 22 (Value.int .u64) (some ⟨g39, 0, none⟩) ([a2]).length ([a2]))), fun v R => ∃ x42 : (Option Addr × Nat), v = .slice x42.1 t40.length x42.2 ∧ R = sput s0 0 (some (Ck.sl 5 (Value.int .u8) x42.1 x42.2 t40)), fun v R => v = .string (strOfNums t40) ∧ R = s0, fun v R => v = .slice A0 l0.length c0 ∧ R = s0, fun v R => v = .int .i64 a1 ∧ R = s0, fun v R => v = .int .u64 a2 ∧ R = s0, fun v R => ∃ x45 : (Option Addr × Nat), v = .slice x45.1 t43.length x45.2 ∧ R = sput s0 0 (some (Ck.sl 5 (Value.int .u8) x45.1 x45.2 t43)), fun v R => v = .string (strOfNums t43) ∧ R = s0, fun v R => v = .bool true ∧ R = s0, fun v R => v = .bool true ∧ R = s0, fun v R => v = .int .u64 t33.1 ∧ R = s0, fun v R => v = .int .u64 t36.1 ∧ R = s0, fun v R => v = .bool true ∧ R = s0, fun v R => v = .bool true ∧ R = s0, fun v R => v = .bool true ∧ R = s0, fun v R => v = .slice x35.1 t33.2.1.length x35.2 ∧ R = s0, fun v R => v = .string (strOfNums t33.2.1) ∧ R = s0, fun v R => v = .slice x38.1 t36.2.1.length x38.2 ∧ R = s0, fun v R => v = .string (strOfNums t36.2.1) ∧ R = s0, fun v R => v = .bool false ∧ R = s0, fun v R => v = .bool false ∧ R = s0, fun v R => v = .bool false ∧ R = s0, fun v R => v = undef ∧ R = s0, fun v R => v = undef ∧ R = s0]) (onl [true, true, true, true, true, true, true, true, true, true, true, true, true, true, true, true, true, true, true, true, true, true, true, true, true, false, false]) (by kernel_rfl) (by kernel_rfl) (by kernel_rfl) (by kernel_rfl) (rs := [_, _, _, _, _, _, _, _, _]) rfl (by kernel_rfl) (by kernel_rfl) ?_ ?_
          · refine all_snoc (all_snoc (all_snoc (all_snoc (all_snoc (all_snoc (all_snoc (all_snoc (all_snoc (all_snoc (all_snoc (all_snoc (all_snoc (all_snoc (all_snoc (all_snoc (all_snoc (all_snoc (all_snoc (all_snoc (all_snoc (all_snoc (all_snoc (all_snoc (all_snoc (all_snoc (all_snoc (all_nil) ?_) ?_) ?_) ?_) ?_) ?_) ?_) ?_) ?_) ?_) ?_) ?_) ?_) ?_) ?_) ?_) ?_) ?_) ?_) ?_) ?_) ?_) ?_) ?_) ?_) ?_) ?_
            · refine ⟨fun o ho vs Rs f' S' w hp hf hx hS hR hs => ?_⟩
              obtain rfl := Option.some.inj ho
              refine And.intro (want_none rfl) (And.intro (fun _ => ?_) (fun h => by cases h))
              have hF := fr_next (rfl) ((hx 0 (by kernel_rfl)).trans (by kernel_rfl : (_ : Value) = .slice A0 l0.length c0))
              refine ls_fr hF ?_
              refine ls_val (v := .slice A0 l0.length c0) rfl rfl (by kernel_rfl) (fun w => by kernel_rfl) ?_
              exact ls_fin s0 (.slice A0 l0.length c0) (congrArg (fun z => upd z 32 _) hF.symm) ⟨rfl, rfl⟩ (sub_nil _)
            · refine ⟨fun o ho vs Rs f' S' w hp hf hx hS hR hs => ?_⟩
              obtain rfl := Option.some.inj ho
              refine And.intro (want_none rfl) (And.intro (fun _ => ?_) (fun h => by cases h))
              have hF := fr_next (rfl) ((hx 1 (by kernel_rfl)).trans (by kernel_rfl : (_ : Value) = .int .i64 a1))
              refine ls_fr hF ?_
              refine ls_val (v := .int .i64 a1) rfl rfl (by kernel_rfl) (fun w => by kernel_rfl) ?_
              exact ls_fin s0 (.int .i64 a1) (congrArg (fun z => upd z 33 _) hF.symm) ⟨rfl, rfl⟩ (sub_nil _)
            · refine ⟨fun o ho vs Rs f' S' w hp hf hx hS hR hs => ?_⟩
              obtain rfl := Option.some.inj ho
              refine And.intro (want_none rfl) (And.intro (fun _ => ?_) (fun h => by cases h))
              have hF := fr_next (rfl) ((hx 2 (by kernel_rfl)).trans (by kernel_rfl : (_ : Value) = .int .u64 a2))
              refine ls_fr hF ?_
              refine ls_val (v := .int .u64 a2) rfl rfl (by kernel_rfl) (fun w => by kernel_rfl) ?_
              exact ls_fin s0 (.int .u64 a2) (congrArg (fun z => upd z 34 _) hF.symm) ⟨rfl, rfl⟩ (sub_nil _)
            · refine ⟨fun o ho vs Rs f' S' w hp hf hx hS hR hs => ?_⟩
              obtain rfl := Option.some.inj ho
              obtain ⟨hv2, hR2⟩ := hp 2 (by kernel_rfl)
              refine And.intro (want_none rfl) (And.intro (fun _ => ?_) (fun h => by cases h))
              have hF := fr_next (rfl) ((hf 2 34 (by kernel_rfl) rfl).trans hv2)
              refine ls_fr hF ?_
              refine ls_lit (E := (Value.int .u64)) (e := 22) 0 rfl rfl (by kernel_rfl) ([a2]) (by exact of_decide_eq_true (by kernel_rfl)) (fun w => by kernel_rfl) ?_
              intro g39
              exact ls_fin (sput s0 0 (some (Ck.sl 22 (Value.int .u64) (some ⟨g39, 0, none⟩) ([a2]).length ([a2])))) (.slice (some ⟨g39, 0, none⟩) [a2].length [a2].length) (congrArg (fun z => upd z 35 _) hF.symm) ⟨g39, rfl, rfl⟩ (sub_put (by exact rfl) (sub_nil _))
            · refine ⟨fun o ho vs Rs f' S' w hp hf hx hS hR hs => ?_⟩
              obtain rfl := Option.some.inj ho
              obtain ⟨hv0, hR0⟩ := hp 0 (by kernel_rfl)
              obtain ⟨hv1, hR1⟩ := hp 1 (by kernel_rfl)
              obtain ⟨g39, hv3, hR3⟩ := hp 3 (by kernel_rfl)
              have hT3_0 := (hR 3 0 (by kernel_rfl) (by decide)).trans (congrFun hR3 0)
              refine And.intro (want_none rfl) (And.intro (fun _ => ?_) (fun h => by cases h))
              have hF := fr_next (fr_next (fr_next (rfl) ((hf 0 32 (by kernel_rfl) rfl).trans hv0)) ((hf 1 33 (by kernel_rfl) rfl).trans hv1)) ((hf 3 35 (by kernel_rfl) rfl).trans hv3)
              refine ls_fr hF ?_
              refine ls_call (fid := 13) (vals := #[.slice A0 l0.length c0, .int .i64 a1, .slice (some ⟨g39, 0, none⟩) ([a2]).length [a2].length]) (X := (Option Addr × Nat)) (fun x => .slice x.1 t40.length x.2) (fun x => sput s0 0 (some (Ck.sl 5 (Value.int .u8) x.1 x.2 t40))) 0 rfl rfl (by kernel_rfl) (fun w => by kernel_rfl) (fun w1 hs1 => codec_Fixed.calls k A0 c0 l0 a1 (some ⟨g39, 0, none⟩) [a2].length ([a2]) t40 w1 (hs1.old (hs.old R0)) C0 (hs1.old (hs.rd (k := 26) hT3_0)) (hs.cap (k := 26) hT3_0) hc41) ?_
              intro x42
              exact ls_fin (sput s0 0 (some (Ck.sl 5 (Value.int .u8) x42.1 x42.2 t40))) (.slice x42.1 t40.length x42.2) (congrArg (fun z => upd z 36 _) hF.symm) ⟨x42, rfl, rfl⟩ (sub_put (by exact rfl) (sub_nil _))
            · refine ⟨fun o ho vs Rs f' S' w hp hf hx hS hR hs => ?_⟩
              obtain rfl := Option.some.inj ho
              obtain ⟨x42, hv4, hR4⟩ := hp 4 (by kernel_rfl)
              have hT4_0 := (hR 4 0 (by kernel_rfl) (by decide)).trans (congrFun hR4 0)
              refine And.intro (want_none rfl) (And.intro (fun _ => ?_) (fun h => by cases h))
              have hF := fr_next (rfl) ((hf 4 36 (by kernel_rfl) rfl).trans hv4)
              refine ls_fr hF ?_
              refine ls_str (A := x42.1) (c := x42.2) (e := 5) (l := t40) rfl rfl (by kernel_rfl) rfl (by kernel_rfl) (by kernel_rfl) (by kernel_rfl) (by kernel_rfl) (fun w1 hs1 => (hs1.old (hs.rd (k := 34) hT4_0))) ?_
              exact ls_fin s0 (.string (strOfNums t40)) (congrArg (fun z => upd z 37 _) hF.symm) ⟨rfl, rfl⟩ (sub_nil _)
            · refine ⟨fun o ho vs Rs f' S' w hp hf hx hS hR hs => ?_⟩
              obtain rfl := Option.some.inj ho
              refine And.intro (want_none rfl) (And.intro (fun _ => ?_) (fun h => by cases h))
              have hF := fr_next (rfl) ((hx 0 (by kernel_rfl)).trans (by kernel_rfl : (_ : Value) = .slice A0 l0.length c0))
              refine ls_fr hF ?_
              refine ls_val (v := .slice A0 l0.length c0) rfl rfl (by kernel_rfl) (fun w => by kernel_rfl) ?_
              exact ls_fin s0 (.slice A0 l0.length c0) (congrArg (fun z => upd z 38 _) hF.symm) ⟨rfl, rfl⟩ (sub_nil _)
            · refine ⟨fun o ho vs Rs f' S' w hp hf hx hS hR hs => ?_⟩
              obtain rfl := Option.some.inj ho
              refine And.intro (want_none rfl) (And.intro (fun _ => ?_) (fun h => by cases h))
              have hF := fr_next (rfl) ((hx 1 (by kernel_rfl)).trans (by kernel_rfl : (_ : Value) = .int .i64 a1))
              refine ls_fr hF ?_
              refine ls_val (v := .int .i64 a1) rfl rfl (by kernel_rfl) (fun w => by kernel_rfl) ?_
              exact ls_fin s0 (.int .i64 a1) (congrArg (fun z => upd z 39 _) hF.symm) ⟨rfl, rfl⟩ (sub_nil _)
            · refine ⟨fun o ho vs Rs f' S' w hp hf hx hS hR hs => ?_⟩
              obtain rfl := Option.some.inj ho
              refine And.intro (want_none rfl) (And.intro (fun _ => ?_) (fun h => by cases h))
              have hF := fr_next (rfl) ((hx 2 (by kernel_rfl)).trans (by kernel_rfl : (_ : Value) = .int .u64 a2))
              refine ls_fr hF ?_
              refine ls_val (v := .int .u64 a2) rfl rfl (by kernel_rfl) (fun w => by kernel_rfl) ?_
              exact ls_fin s0 (.int .u64 a2) (congrArg (fun z => upd z 40 _) hF.symm) ⟨rfl, rfl⟩ (sub_nil _)
            · refine ⟨fun o ho vs Rs f' S' w hp hf hx hS hR hs => ?_⟩
              obtain rfl := Option.some.inj ho
              obtain ⟨hv6, hR6⟩ := hp 6 (by kernel_rfl)
              obtain ⟨hv7, hR7⟩ := hp 7 (by kernel_rfl)
              obtain ⟨hv8, hR8⟩ := hp 8 (by kernel_rfl)
              refine And.intro (want_none rfl) (And.intro (fun _ => ?_) (fun h => by cases h))
              have hF := fr_next (fr_next (fr_next (rfl) ((hf 6 38 (by kernel_rfl) rfl).trans hv6)) ((hf 7 39 (by kernel_rfl) rfl).trans hv7)) ((hf 8 40 (by kernel_rfl) rfl).trans hv8)
              refine ls_fr hF ?_
              refine ls_call (fid := 14) (vals := #[.slice A0 l0.length c0, .int .i64 a1, .int .u64 a2]) (X := (Option Addr × Nat)) (fun x => .slice x.1 t43.length x.2) (fun x => sput s0 0 (some (Ck.sl 5 (Value.int .u8) x.1 x.2 t43))) 0 rfl rfl (by kernel_rfl) (fun w => by kernel_rfl) (fun w1 hs1 => shadowboxref01_Fixed.calls k A0 c0 l0 a1 a2 t43 w1 (hs1.old (hs.old R0)) C0 hc44) ?_
              intro x45
              exact ls_fin (sput s0 0 (some (Ck.sl 5 (Value.int .u8) x45.1 x45.2 t43))) (.slice x45.1 t43.length x45.2) (congrArg (fun z => upd z 41 _) hF.symm) ⟨x45, rfl, rfl⟩ (sub_put (by exact rfl) (sub_nil _))
            · refine ⟨fun o ho vs Rs f' S' w hp hf hx hS hR hs => ?_⟩
              obtain rfl := Option.some.inj ho
              obtain ⟨x45, hv9, hR9⟩ := hp 9 (by kernel_rfl)
              have hT9_0 := (hR 9 0 (by kernel_rfl) (by decide)).trans (congrFun hR9 0)
              refine And.intro (want_none rfl) (And.intro (fun _ => ?_) (fun h => by cases h))
              have hF := fr_next (rfl) ((hf 9 41 (by kernel_rfl) rfl).trans hv9)
              refine ls_fr hF ?_
              refine ls_str (A := x45.1) (c := x45.2) (e := 5) (l := t43) rfl rfl (by kernel_rfl) rfl (by kernel_rfl) (by kernel_rfl) (by kernel_rfl) (by kernel_rfl) (fun w1 hs1 => (hs1.old (hs.rd (k := 74) hT9_0))) ?_
              exact ls_fin s0 (.string (strOfNums t43)) (congrArg (fun z => upd z 42 _) hF.symm) ⟨rfl, rfl⟩ (sub_nil _)
            · refine ⟨fun o ho vs Rs f' S' w hp hf hx hS hR hs => ?_⟩
              obtain rfl := Option.some.inj ho
              obtain ⟨hv5, hR5⟩ := hp 5 (by kernel_rfl)
              obtain ⟨hv10, hR10⟩ := hp 10 (by kernel_rfl)
              refine And.intro (want_none rfl) (And.intro (fun _ => ?_) (fun h => by cases h))
              have hF := fr_next (fr_next (rfl) ((hf 5 37 (by kernel_rfl) rfl).trans hv5)) ((hf 10 42 (by kernel_rfl) rfl).trans hv10)
              refine ls_fr hF ?_
              refine ls_val (v := .bool ((strOfNums t40).toList == (strOfNums t43).toList)) rfl rfl (by kernel_rfl) (fun w => by kernel_rfl) ?_
              refine ls_ren 43 (v := .bool ((strOfNums t40).toList == (strOfNums t43).toList)) (v' := .bool true) (by kernel_rfl) (congrArg Value.bool (show ((strOfNums t40).toList == (strOfNums t43).toList) = true from q46)) ?_
              exact ls_fin s0 (.bool true) ((upd_upd _ _ _ _).trans (congrArg (fun z => upd z 43 _) hF.symm)) ⟨rfl, rfl⟩ (sub_nil _)
            · refine ⟨fun o ho vs Rs f' S' w hp hf hx hS hR hs => ?_⟩
              obtain rfl := Option.some.inj ho
              obtain ⟨hv11, hR11⟩ := hp 11 (by kernel_rfl)
              refine And.intro (want_none rfl) (And.intro (fun _ => ?_) (fun h => by cases h))
              have hF := fr_next (rfl) ((hf 11 43 (by kernel_rfl) rfl).trans hv11)
              refine ls_fr hF ?_
              refine ls_val (v := .bool true) rfl rfl (by kernel_rfl) (fun w => by kernel_rfl) ?_
              exact ls_fin s0 (.bool true) (congrArg (fun z => upd z 44 _) hF.symm) ⟨rfl, rfl⟩ (sub_nil _)
            · refine ⟨fun o ho vs Rs f' S' w hp hf hx hS hR hs => ?_⟩
              obtain rfl := Option.some.inj ho
              obtain ⟨hv12, hR12⟩ := hp 12 (by kernel_rfl)
              refine And.intro (want_is (j := 12) (t := 44) rfl rfl (by kernel_rfl) ((hf 12 44 (by kernel_rfl) rfl).trans hv12) rfl) (And.intro (fun _ => ?_) (fun h => by cases h))
              have hF := fr_next (fr_next (rfl) ((hx 7 (by kernel_rfl)).trans (by kernel_rfl : (_ : Value) = .int .u64 t33.1))) ((hf 12 44 (by kernel_rfl) rfl).trans hv12)
              refine ls_fr hF ?_
              refine ls_val (v := .int .u64 t33.1) rfl rfl (by kernel_rfl) (fun w => by kernel_rfl) ?_
              exact ls_fin s0 (.int .u64 t33.1) (congrArg (fun z => upd z 45 _) hF.symm) ⟨rfl, rfl⟩ (sub_nil _)
            · refine ⟨fun o ho vs Rs f' S' w hp hf hx hS hR hs => ?_⟩
              obtain rfl := Option.some.inj ho
              obtain ⟨hv12, hR12⟩ := hp 12 (by kernel_rfl)
              refine And.intro (want_is (j := 12) (t := 44) rfl rfl (by kernel_rfl) ((hf 12 44 (by kernel_rfl) rfl).trans hv12) rfl) (And.intro (fun _ => ?_) (fun h => by cases h))
              have hF := fr_next (fr_next (rfl) ((hx 10 (by kernel_rfl)).trans (by kernel_rfl : (_ : Value) = .int .u64 t36.1))) ((hf 12 44 (by kernel_rfl) rfl).trans hv12)
              refine ls_fr hF ?_
              refine ls_val (v := .int .u64 t36.1) rfl rfl (by kernel_rfl) (fun w => by kernel_rfl) ?_
              exact ls_fin s0 (.int .u64 t36.1) (congrArg (fun z => upd z 46 _) hF.symm) ⟨rfl, rfl⟩ (sub_nil _)
            · refine ⟨fun o ho vs Rs f' S' w hp hf hx hS hR hs => ?_⟩
              obtain rfl := Option.some.inj ho
              obtain ⟨hv12, hR12⟩ := hp 12 (by kernel_rfl)
              obtain ⟨hv13, hR13⟩ := hp 13 (by kernel_rfl)
              obtain ⟨hv14, hR14⟩ := hp 14 (by kernel_rfl)
              refine And.intro (want_is (j := 12) (t := 44) rfl rfl (by kernel_rfl) ((hf 12 44 (by kernel_rfl) rfl).trans hv12) rfl) (And.intro (fun _ => ?_) (fun h => by cases h))
              have hF := fr_next (fr_next (fr_next (rfl) ((hf 12 44 (by kernel_rfl) rfl).trans hv12)) ((hf 13 45 (by kernel_rfl) rfl).trans hv13)) ((hf 14 46 (by kernel_rfl) rfl).trans hv14)
              refine ls_fr hF ?_
              refine ls_val (v := .bool (decide (t33.1 = t36.1))) rfl rfl (by kernel_rfl) (fun w => by kernel_rfl) ?_
              refine ls_ren 47 (v := .bool (decide (t33.1 = t36.1))) (v' := .bool true) (by kernel_rfl) (congrArg Value.bool (show (decide (t33.1 = t36.1)) = true from dec_t q47)) ?_
              exact ls_fin s0 (.bool true) ((upd_upd _ _ _ _).trans (congrArg (fun z => upd z 47 _) hF.symm)) ⟨rfl, rfl⟩ (sub_nil _)
            · refine ⟨fun o ho vs Rs f' S' w hp hf hx hS hR hs => ?_⟩
              obtain rfl := Option.some.inj ho
              obtain ⟨hv12, hR12⟩ := hp 12 (by kernel_rfl)
              obtain ⟨hv15, hR15⟩ := hp 15 (by kernel_rfl)
              refine And.intro (want_none rfl) (And.intro (fun _ => ?_) (fun h => by cases h))
              have hF := fr_next (fr_next (rfl) ((hf 12 44 (by kernel_rfl) rfl).trans hv12)) ((hf 15 47 (by kernel_rfl) rfl).trans hv15)
              refine ls_fr hF ?_
              refine ls_val (v := .bool true) rfl rfl (by kernel_rfl) (fun w => by kernel_rfl) ?_
              exact ls_fin s0 (.bool true) (congrArg (fun z => upd z 48 _) hF.symm) ⟨rfl, rfl⟩ (sub_nil _)
            · refine ⟨fun o ho vs Rs f' S' w hp hf hx hS hR hs => ?_⟩
              obtain rfl := Option.some.inj ho
              obtain ⟨hv16, hR16⟩ := hp 16 (by kernel_rfl)
              refine And.intro (want_none rfl) (And.intro (fun _ => ?_) (fun h => by cases h))
              have hF := fr_next (rfl) ((hf 16 48 (by kernel_rfl) rfl).trans hv16)
              refine ls_fr hF ?_
              refine ls_val (v := .bool true) rfl rfl (by kernel_rfl) (fun w => by kernel_rfl) ?_
              exact ls_fin s0 (.bool true) (congrArg (fun z => upd z 49 _) hF.symm) ⟨rfl, rfl⟩ (sub_nil _)
            · refine ⟨fun o ho vs Rs f' S' w hp hf hx hS hR hs => ?_⟩
              obtain rfl := Option.some.inj ho
              obtain ⟨hv17, hR17⟩ := hp 17 (by kernel_rfl)
              refine And.intro (want_is (j := 17) (t := 49) rfl rfl (by kernel_rfl) ((hf 17 49 (by kernel_rfl) rfl).trans hv17) rfl) (And.intro (fun _ => ?_) (fun h => by cases h))
              have hF := fr_next (fr_next (rfl) ((hx 8 (by kernel_rfl)).trans (by kernel_rfl : (_ : Value) = .slice x35.1 t33.2.1.length x35.2))) ((hf 17 49 (by kernel_rfl) rfl).trans hv17)
              refine ls_fr hF ?_
              refine ls_val (v := .slice x35.1 t33.2.1.length x35.2) rfl rfl (by kernel_rfl) (fun w => by kernel_rfl) ?_
              exact ls_fin s0 (.slice x35.1 t33.2.1.length x35.2) (congrArg (fun z => upd z 50 _) hF.symm) ⟨rfl, rfl⟩ (sub_nil _)
            · refine ⟨fun o ho vs Rs f' S' w hp hf hx hS hR hs => ?_⟩
              obtain rfl := Option.some.inj ho
              obtain ⟨hv17, hR17⟩ := hp 17 (by kernel_rfl)
              obtain ⟨hv18, hR18⟩ := hp 18 (by kernel_rfl)
              refine And.intro (want_is (j := 17) (t := 49) rfl rfl (by kernel_rfl) ((hf 17 49 (by kernel_rfl) rfl).trans hv17) rfl) (And.intro (fun _ => ?_) (fun h => by cases h))
              have hF := fr_next (fr_next (rfl) ((hf 17 49 (by kernel_rfl) rfl).trans hv17)) ((hf 18 50 (by kernel_rfl) rfl).trans hv18)
              refine ls_fr hF ?_
              refine ls_str (A := x35.1) (c := x35.2) (e := 5) (l := t33.2.1) rfl rfl (by kernel_rfl) rfl (by kernel_rfl) (by kernel_rfl) (by kernel_rfl) (by kernel_rfl) (fun w1 hs1 => (hs1.old (hs.rd (k := 0) ((hS 0 (by kernel_rfl)).trans (by exact rfl))))) ?_
              exact ls_fin s0 (.string (strOfNums t33.2.1)) (congrArg (fun z => upd z 51 _) hF.symm) ⟨rfl, rfl⟩ (sub_nil _)
            · refine ⟨fun o ho vs Rs f' S' w hp hf hx hS hR hs => ?_⟩
              obtain rfl := Option.some.inj ho
              obtain ⟨hv17, hR17⟩ := hp 17 (by kernel_rfl)
              refine And.intro (want_is (j := 17) (t := 49) rfl rfl (by kernel_rfl) ((hf 17 49 (by kernel_rfl) rfl).trans hv17) rfl) (And.intro (fun _ => ?_) (fun h => by cases h))
              have hF := fr_next (fr_next (rfl) ((hx 11 (by kernel_rfl)).trans (by kernel_rfl : (_ : Value) = .slice x38.1 t36.2.1.length x38.2))) ((hf 17 49 (by kernel_rfl) rfl).trans hv17)
              refine ls_fr hF ?_
              refine ls_val (v := .slice x38.1 t36.2.1.length x38.2) rfl rfl (by kernel_rfl) (fun w => by kernel_rfl) ?_
              exact ls_fin s0 (.slice x38.1 t36.2.1.length x38.2) (congrArg (fun z => upd z 52 _) hF.symm) ⟨rfl, rfl⟩ (sub_nil _)
            · refine ⟨fun o ho vs Rs f' S' w hp hf hx hS hR hs => ?_⟩
              obtain rfl := Option.some.inj ho
              obtain ⟨hv17, hR17⟩ := hp 17 (by kernel_rfl)
              obtain ⟨hv20, hR20⟩ := hp 20 (by kernel_rfl)
              refine And.intro (want_is (j := 17) (t := 49) rfl rfl (by kernel_rfl) ((hf 17 49 (by kernel_rfl) rfl).trans hv17) rfl) (And.intro (fun _ => ?_) (fun h => by cases h))
              have hF := fr_next (fr_next (rfl) ((hf 17 49 (by kernel_rfl) rfl).trans hv17)) ((hf 20 52 (by kernel_rfl) rfl).trans hv20)
              refine ls_fr hF ?_
              refine ls_str (A := x38.1) (c := x38.2) (e := 5) (l := t36.2.1) rfl rfl (by kernel_rfl) rfl (by kernel_rfl) (by kernel_rfl) (by kernel_rfl) (by kernel_rfl) (fun w1 hs1 => (hs1.old (hs.rd (k := 1) ((hS 1 (by kernel_rfl)).trans (by exact rfl))))) ?_
              exact ls_fin s0 (.string (strOfNums t36.2.1)) (congrArg (fun z => upd z 53 _) hF.symm) ⟨rfl, rfl⟩ (sub_nil _)
            · refine ⟨fun o ho vs Rs f' S' w hp hf hx hS hR hs => ?_⟩
              obtain rfl := Option.some.inj ho
              obtain ⟨hv17, hR17⟩ := hp 17 (by kernel_rfl)
              obtain ⟨hv19, hR19⟩ := hp 19 (by kernel_rfl)
              obtain ⟨hv21, hR21⟩ := hp 21 (by kernel_rfl)
              refine And.intro (want_is (j := 17) (t := 49) rfl rfl (by kernel_rfl) ((hf 17 49 (by kernel_rfl) rfl).trans hv17) rfl) (And.intro (fun _ => ?_) (fun h => by cases h))
              have hF := fr_next (fr_next (fr_next (rfl) ((hf 17 49 (by kernel_rfl) rfl).trans hv17)) ((hf 19 51 (by kernel_rfl) rfl).trans hv19)) ((hf 21 53 (by kernel_rfl) rfl).trans hv21)
              refine ls_fr hF ?_
              refine ls_val (v := .bool ((strOfNums t33.2.1).toList == (strOfNums t36.2.1).toList)) rfl rfl (by kernel_rfl) (fun w => by kernel_rfl) ?_
              refine ls_ren 54 (v := .bool ((strOfNums t33.2.1).toList == (strOfNums t36.2.1).toList)) (v' := .bool false) (by kernel_rfl) (congrArg Value.bool (show ((strOfNums t33.2.1).toList == (strOfNums t36.2.1).toList) = false from Bool.eq_false_iff.mpr q48)) ?_
              exact ls_fin s0 (.bool false) ((upd_upd _ _ _ _).trans (congrArg (fun z => upd z 54 _) hF.symm)) ⟨rfl, rfl⟩ (sub_nil _)
            · refine ⟨fun o ho vs Rs f' S' w hp hf hx hS hR hs => ?_⟩
              obtain rfl := Option.some.inj ho
              obtain ⟨hv17, hR17⟩ := hp 17 (by kernel_rfl)
              obtain ⟨hv22, hR22⟩ := hp 22 (by kernel_rfl)
              refine And.intro (want_none rfl) (And.intro (fun _ => ?_) (fun h => by cases h))
              have hF := fr_next (fr_next (rfl) ((hf 17 49 (by kernel_rfl) rfl).trans hv17)) ((hf 22 54 (by kernel_rfl) rfl).trans hv22)
              refine ls_fr hF ?_
              refine ls_val (v := .bool false) rfl rfl (by kernel_rfl) (fun w => by kernel_rfl) ?_
              exact ls_fin s0 (.bool false) (congrArg (fun z => upd z 55 _) hF.symm) ⟨rfl, rfl⟩ (sub_nil _)
            · refine ⟨fun o ho vs Rs f' S' w hp hf hx hS hR hs => ?_⟩
              obtain rfl := Option.some.inj ho
              obtain ⟨hv23, hR23⟩ := hp 23 (by kernel_rfl)
              refine And.intro (want_none rfl) (And.intro (fun _ => ?_) (fun h => by cases h))
              have hF := fr_next (rfl) ((hf 23 55 (by kernel_rfl) rfl).trans hv23)
              refine ls_fr hF ?_
              refine ls_val (v := .bool false) rfl rfl (by kernel_rfl) (fun w => by kernel_rfl) ?_
              exact ls_fin s0 (.bool false) (congrArg (fun z => upd z 56 _) hF.symm) ⟨rfl, rfl⟩ (sub_nil _)
            · refine ⟨fun o ho vs Rs f' S' w hp hf hx hS hR hs => ?_⟩
              obtain rfl := Option.some.inj ho
              obtain ⟨hv24, hR24⟩ := hp 24 (by kernel_rfl)
              refine And.intro ?_ (And.intro ?_ ?_)
              · exact want_is (j := 24) (t := 56) rfl rfl (by kernel_rfl) ((hf 24 56 (by kernel_rfl) rfl).trans hv24) rfl
              · intro h; cases h
              · intro _; exact ⟨rfl, rfl⟩
            · refine ⟨fun o ho vs Rs f' S' w hp hf hx hS hR hs => ?_⟩
              obtain rfl := Option.some.inj ho
              obtain ⟨hv24, hR24⟩ := hp 24 (by kernel_rfl)
              refine And.intro ?_ (And.intro ?_ ?_)
              · exact want_is (j := 24) (t := 56) rfl rfl (by kernel_rfl) ((hf 24 56 (by kernel_rfl) rfl).trans hv24) rfl
              · intro h; cases h
              · intro _; exact ⟨rfl, rfl⟩
          · intro vs Rs f' S' hp hf hx hS hR
            obtain ⟨g39, hv3, hR3⟩ := hp 3 (by kernel_rfl)
            have hT3_0 := (hR 3 0 (by kernel_rfl) (by decide)).trans (congrFun hR3 0)
            obtain ⟨x42, hv4, hR4⟩ := hp 4 (by kernel_rfl)
            have hT4_0 := (hR 4 0 (by kernel_rfl) (by decide)).trans (congrFun hR4 0)
            obtain ⟨x45, hv9, hR9⟩ := hp 9 (by kernel_rfl)
            have hT9_0 := (hR 9 0 (by kernel_rfl) (by decide)).trans (congrFun hR9 0)
            obtain ⟨hv24, hR24⟩ := hp 24 (by kernel_rfl)
            obtain ⟨hv25, hR25⟩ := hp 25 (by kernel_rfl)
            obtain ⟨hv26, hR26⟩ := hp 26 (by kernel_rfl)
            refine ls_fr (F := upd f' 56 (.bool false)) (fr_next (rfl) ((hf 24 56 (by kernel_rfl) rfl).trans hv24)) ?_
            refine ls_sub (s0) (sub_nil _) ?_
            refine ls_off (j := 24) (t := 56) (b := true) (c := false) rfl rfl (by kernel_rfl) (by kernel_rfl) rfl rfl (by kernel_rfl) ?_
            refine ls_val (v := .bool false) rfl rfl (by kernel_rfl) (fun w => by kernel_rfl) ?_
            refine ls_val (v := .bool false) rfl rfl (by kernel_rfl) (fun w => by kernel_rfl) ?_
            refine ls_off (j := 29) (t := 61) (b := true) (c := false) rfl rfl (by kernel_rfl) (by kernel_rfl) rfl rfl (by kernel_rfl) ?_
            refine ls_off (j := 29) (t := 61) (b := true) (c := false) rfl rfl (by kernel_rfl) (by kernel_rfl) rfl rfl (by kernel_rfl) ?_
            refine ls_off (j := 29) (t := 61) (b := true) (c := false) rfl rfl (by kernel_rfl) (by kernel_rfl) rfl rfl (by kernel_rfl) ?_
            refine ls_off (j := 29) (t := 61) (b := true) (c := false) rfl rfl (by kernel_rfl) (by kernel_rfl) rfl rfl (by kernel_rfl) ?_
            refine ls_val (v := .bool false) rfl rfl (by kernel_rfl) (fun w => by kernel_rfl) ?_
            refine ls_val (v := .bool false) rfl rfl (by kernel_rfl) (fun w => by kernel_rfl) ?_
            refine ls_end ?_
            refine qn_then ?_
            refine cs_ret' ?_
            obtain rfl := Option.some.inj H
            refine qr_end1 rfl (fun w' hs => ⟨(), rfl, ?_⟩)
            exact hs.sub (sub_nil _)
      · replace H := ite_f q47 H
        refine cs_draw (l := [_, _, _, _, _, _, _, _, _, _, _, _, _, _, _, _, _, _, _, _, _, _, _, _, _, _, _, _, _, _, _, _, _, _, _, _]) [[], [], [], [2], [0, 1, 2, 3], [0, 1, 2, 3, 4], [], [], [], [0, 1, 2, 3, 4, 6, 7, 8], [0, 1, 2, 3, 4, 6, 7, 8, 9], [0, 1, 2, 3, 4, 5, 6, 7, 8, 9, 10], [0, 1, 2, 3, 4, 5, 6, 7, 8, 9, 10, 11], [0, 1, 2, 3, 4, 5, 6, 7, 8, 9, 10, 11, 12], [0, 1, 2, 3, 4, 5, 6, 7, 8, 9, 10, 11, 12], [0, 1, 2, 3, 4, 5, 6, 7, 8, 9, 10, 11, 12, 13, 14], [0, 1, 2, 3, 4, 5, 6, 7, 8, 9, 10, 11, 12, 13, 14, 15], [0, 1, 2, 3, 4, 5, 6, 7, 8, 9, 10, 11, 12, 13, 14, 15, 16], [0, 1, 2, 3, 4, 5, 6, 7, 8, 9, 10, 11, 12, 13, 14, 15, 16, 17], [0, 1, 2, 3, 4, 5, 6, 7, 8, 9, 10, 11, 12, 13, 14, 15, 16, 17, 18], [0, 1, 2, 3, 4, 5, 6, 7, 8, 9, 10, 11, 12, 13, 14, 15, 16, 17], [0, 1, 2, 3, 4, 5, 6, 7, 8, 9, 10, 11, 12, 13, 14, 15, 16, 17, 20], [0, 1, 2, 3, 4, 5, 6, 7, 8, 9, 10, 11, 12, 13, 14, 15, 16, 17, 18, 19, 20, 21], [0, 1, 2, 3, 4, 5, 6, 7, 8, 9, 10, 11, 12, 13, 14, 15, 16, 17, 18, 19, 20, 21, 22], [0, 1, 2, 3, 4, 5, 6, 7, 8, 9, 10, 11, 12, 13, 14, 15, 16, 17, 18, 19, 20, 21, 22, 23], [0, 1, 2, 3, 4, 5, 6, 7, 8, 9, 10, 11, 12, 13, 14, 15, 16, 17, 18, 19, 20, 21, 22, 23, 24], [0, 1, 2, 3, 4, 5, 6, 7, 8, 9, 10, 11, 12, 13, 14, 15, 16, 17, 18, 19, 20, 21, 22, 23, 24], [0, 1, 2, 3, 4, 5, 6, 7, 8, 9, 10, 11, 12, 13, 14, 15, 16, 17, 18, 19, 20, 21, 22, 23, 24, 25, 26], [0, 1, 2, 3, 4, 5, 6, 7, 8, 9, 10, 11, 12, 13, 14, 15, 16, 17, 18, 19, 20, 21, 22, 23, 24, 25, 26, 27], [0, 1, 2, 3, 4, 5, 6, 7, 8, 9, 10, 11, 12, 13, 14, 15, 16, 17, 18, 19, 20, 21, 22, 23, 24, 25, 26, 27, 28], [0, 1, 2, 3, 4, 5, 6, 7, 8, 9, 10, 11, 12, 13, 14, 15, 16, 17, 18, 19, 20, 21, 22, 23, 24, 25, 26, 27, 28, 29], [0, 1, 2, 3, 4, 5, 6, 7, 8, 9, 10, 11, 12, 13, 14, 15, 16, 17, 18, 19, 20, 21, 22, 23, 24, 25, 26, 27, 28, 29, 30], [0, 1, 2, 3, 4, 5, 6, 7, 8, 9, 10, 11, 12, 13, 14, 15, 16, 17, 18, 19, 20, 21, 22, 23, 24, 25, 26, 27, 28, 29, 30, 31], [0, 1, 2, 3, 4, 5, 6, 7, 8, 9, 10, 11, 12, 13, 14, 15, 16, 17, 18, 19, 20, 21, 22, 23, 24, 25, 26, 27, 28, 29, 30, 31, 32], [0, 1, 2, 3, 4, 5, 6, 7, 8, 9, 10, 11, 12, 13, 14, 15, 16, 17, 18, 19, 20, 21, 22, 23, 24, 25, 26, 27, 28, 29, 30, 31, 32, 33], [0, 1, 2, 3, 4, 5, 6, 7, 8, 9, 10, 11, 12, 13, 14, 15, 16, 17, 18, 19, 20, 21, 22, 23, 24, 25, 26, 27, 28, 29, 30, 31, 32, 33, 34]] 27 2 (spl [fun v R => v = .slice A0 l0.length c0 ∧ R = s0, fun v R => v = .int .i64 a1 ∧ R = s0, fun v R => v = .int .u64 a2 ∧ R = s0, fun v R => ∃ g39 : Nat, v = .slice (some ⟨g39, 0, none⟩) [a2].length [a2].length ∧ R = sput s0 0 (some (Ck.sl 22 (Value.int .u64) (some ⟨g39, 0, none⟩) ([a2]).length ([a2]))), fun v R => ∃ x42 : (Option Addr × Nat), v = .slice x42.1 t40.length x42.2 ∧ R = sput s0 0 (some (Ck.sl 5 (Value.int .u8) x42.1 x42.2 t40)), fun v R => v = .string (strOfNums t40) ∧ R = s0, fun v R => v = .slice A0 l0.length c0 ∧ R = s0, fun v R => v = .int .i64 a1 ∧ R = s0, fun v R => v = .int .u64 a2 ∧ R = s0, fun v R => ∃ x45 : (Option Addr × Nat), v = .slice x45.1 t43.length x45.2 ∧ R = sput s0 0 (some (Ck.sl 5 (Value.int .u8) x45.1 x45.2 t43)), fun v R => v = .string (strOfNums t43) ∧ R = s0, fun v R => v = .bool true ∧ R = s0, fun v R => v = .bool true ∧ R = s0, fun v R => v = .int .u64 t33.1 ∧ R = s0, fun v R => v = .int .u64 t36.1 ∧ R = s0, fun v R => v = .bool false ∧ R = s0, fun v R => v = .bool false ∧ R = s0, fun v R => v = .bool false ∧ R = s0, fun v R => v = undef ∧ R = s0, fun v R => v = undef ∧ R = s0, fun v R => v = undef ∧ R = s0, fun v R => v = undef ∧ R = s0, fun v R => v = undef ∧ R = s0, fun v R => v = .bool false ∧ R = s0, fun v R => v = .bool false ∧ R = s0, fun v R => v = undef ∧ R = s0, fun v R => v = undef ∧ R = s0]) (onl [true, true, true, true, true, true, true, true, true, true, true, true, true, true, true, true, true, true, false, false, false, false, false, true, true, false, false]) (by kernel_rfl) (by kernel_rfl) (by kernel_rfl) (by kernel_rfl) (rs := [_, _, _, _, _, _, _, _, _]) rfl (by kernel_rfl) (by kernel_rfl) ?_ ?_
        · refine all_snoc (all_snoc (all_snoc (all_snoc (all_snoc (all_snoc (all_snoc (all_snoc (all_snoc (all_snoc (all_snoc (all_snoc (all_snoc (all_snoc (all_snoc (all_snoc (all_snoc (all_snoc (all_snoc (all_snoc (all_snoc (all_snoc (all_snoc (all_snoc (all_snoc (all_snoc (all_snoc (all_nil) ?_) ?_) ?_) ?_) ?_) ?_) ?_) ?_) ?_) ?_) ?_) ?_) ?_) ?_) ?_) ?_) ?_) ?_) ?_) ?_) ?_) ?_) ?_) ?_) ?_) ?_) ?_
          · refine ⟨fun o ho vs Rs f' S' w hp hf hx hS hR hs => ?_⟩
            obtain rfl := Option.some.inj ho
            refine And.intro (want_none rfl) (And.intro (fun _ => ?_) (fun h => by cases h))
            have hF := fr_next (rfl) ((hx 0 (by kernel_rfl)).trans (by kernel_rfl : (_ : Value) = .slice A0 l0.length c0))
            refine ls_fr hF ?_
            refine ls_val (v := .slice A0 l0.length c0) rfl rfl (by kernel_rfl) (fun w => by kernel_rfl) ?_
            exact ls_fin s0 (.slice A0 l0.length c0) (congrArg (fun z => upd z 32 _) hF.symm) ⟨rfl, rfl⟩ (sub_nil _)
          · refine ⟨fun o ho vs Rs f' S' w hp hf hx hS hR hs => ?_⟩
            obtain rfl := Option.some.inj ho
            refine And.intro (want_none rfl) (And.intro (fun _ => ?_) (fun h => by cases h))
            have hF := fr_next (rfl) ((hx 1 (by kernel_rfl)).trans (by kernel_rfl : (_ : Value) = .int .i64 a1))
            refine ls_fr hF ?_
            refine ls_val (v := .int .i64 a1) rfl rfl (by kernel_rfl) (fun w => by kernel_rfl) ?_
            exact ls_fin s0 (.int .i64 a1) (congrArg (fun z => upd z 33 _) hF.symm) ⟨rfl, rfl⟩ (sub_nil _)
          · refine ⟨fun o ho vs Rs f' S' w hp hf hx hS hR hs => ?_⟩
            obtain rfl := Option.some.inj ho
            refine And.intro (want_none rfl) (And.intro (fun _ => ?_) (fun h => by cases h))
            have hF := fr_next (rfl) ((hx 2 (by kernel_rfl)).trans (by kernel_rfl : (_ : Value) = .int .u64 a2))
            refine ls_fr hF ?_
            refine ls_val (v := .int .u64 a2) rfl rfl (by kernel_rfl) (fun w => by kernel_rfl) ?_
            exact ls_fin s0 (.int .u64 a2) (congrArg (fun z => upd z 34 _) hF.symm) ⟨rfl, rfl⟩ (sub_nil _)
          · refine ⟨fun o ho vs Rs f' S' w hp hf hx hS hR hs => ?_⟩
            obtain rfl := Option.some.inj ho
            obtain ⟨hv2, hR2⟩ := hp 2 (by kernel_rfl)
            refine And.intro (want_none rfl) (And.intro (fun _ => ?_) (fun h => by cases h))
            have hF := fr_next (rfl) ((hf 2 34 (by kernel_rfl) rfl).trans hv2)
            refine ls_fr hF ?_
            refine ls_lit (E := (Value.int .u64)) (e := 22) 0 rfl rfl (by kernel_rfl) ([a2]) (by exact of_decide_eq_true (by kernel_rfl)) (fun w => by kernel_rfl) ?_
            intro g39
            exact ls_fin (sput s0 0 (some (Ck.sl 22 (Value.int .u64) (some ⟨g39, 0, none⟩) ([a2]).length ([a2])))) (.slice (some ⟨g39, 0, none⟩) [a2].length [a2].length) (congrArg (fun z => upd z 35 _) hF.symm) ⟨g39, rfl, rfl⟩ (sub_put (by exact rfl) (sub_nil _))
          · refine ⟨fun o ho vs Rs f' S' w hp hf hx hS hR hs => ?_⟩
            obtain rfl := Option.some.inj ho
            obtain ⟨hv0, hR0⟩ := hp 0 (by kernel_rfl)
            obtain ⟨hv1, hR1⟩ := hp 1 (by kernel_rfl)
            obtain ⟨g39, hv3, hR3⟩ := hp 3 (by kernel_rfl)
            have hT3_0 := (hR 3 0 (by kernel_rfl) (by decide)).trans (congrFun hR3 0)
            refine And.intro (want_none rfl) (And.intro (fun _ => ?_) (fun h => by cases h))
            have hF := fr_next (fr_next (fr_next (rfl) ((hf 0 32 (by kernel_rfl) rfl).trans hv0)) ((hf 1 33 (by kernel_rfl) rfl).trans hv1)) ((hf 3 35 (by kernel_rfl) rfl).trans hv3)
            refine ls_fr hF ?_
            refine ls_call (fid := 13) (vals := #[.slice A0 l0.length c0, .int .i64 a1, .slice (some ⟨g39, 0, none⟩) ([a2]).length [a2].length]) (X := (Option Addr × Nat)) (fun x => .slice x.1 t40.length x.2) (fun x => sput s0 0 (some (Ck.sl 5 (Value.int .u8) x.1 x.2 t40))) 0 rfl rfl (by kernel_rfl) (fun w => by kernel_rfl) (fun w1 hs1 => codec_Fixed.calls k A0 c0 l0 a1 (some ⟨g39, 0, none⟩) [a2].length ([a2]) t40 w1 (hs1.old (hs.old R0)) C0 (hs1.old (hs.rd (k := 26) hT3_0)) (hs.cap (k := 26) hT3_0) hc41) ?_
            intro x42
            exact ls_fin (sput s0 0 (some (Ck.sl 5 (Value.int .u8) x42.1 x42.2 t40))) (.slice x42.1 t40.length x42.2) (congrArg (fun z => upd z 36 _) hF.symm) ⟨x42, rfl, rfl⟩ (sub_put (by exact rfl) (sub_nil _))
          · refine ⟨fun o ho vs Rs f' S' w hp hf hx hS hR hs => ?_⟩
            obtain rfl := Option.some.inj ho
            obtain ⟨x42, hv4, hR4⟩ := hp 4 (by kernel_rfl)
            have hT4_0 := (hR 4 0 (by kernel_rfl) (by decide)).trans (congrFun hR4 0)
            refine And.intro (want_none rfl) (And.intro (fun _ => ?_) (fun h => by cases h))
            have hF := fr_next (rfl) ((hf 4 36 (by kernel_rfl) rfl).trans hv4)
            refine ls_fr hF ?_
            refine ls_str (A := x42.1) (c := x42.2) (e := 5) (l := t40) rfl rfl (by kernel_rfl) rfl (by kernel_rfl) (by kernel_rfl) (by kernel_rfl) (by kernel_rfl) (fun w1 hs1 => (hs1.old (hs.rd (k := 34) hT4_0))) ?_
            exact ls_fin s0 (.string (strOfNums t40)) (congrArg (fun z => upd z 37 _) hF.symm) ⟨rfl, rfl⟩ (sub_nil _)
          · refine ⟨fun o ho vs Rs f' S' w hp hf hx hS hR hs => ?_⟩
            obtain rfl := Option.some.inj ho
            refine And.intro (want_none rfl) (And.intro (fun _ => ?_) (fun h => by cases h))
            have hF := fr_next (rfl) ((hx 0 (by kernel_rfl)).trans (by kernel_rfl : (_ : Value) = .slice A0 l0.length c0))
            refine ls_fr hF ?_
            refine ls_val (v := .slice A0 l0.length c0) rfl rfl (by kernel_rfl) (fun w => by kernel_rfl) ?_
            exact ls_fin s0 (.slice A0 l0.length c0) (congrArg (fun z => upd z 38 _) hF.symm) ⟨rfl, rfl⟩ (sub_nil _)
          · refine ⟨fun o ho vs Rs f' S' w hp hf hx hS hR hs => ?_⟩
            obtain rfl := Option.some.inj ho
            refine And.intro (want_none rfl) (And.intro (fun _ => ?_) (fun h => by cases h))
            have hF := fr_next (rfl) ((hx 1 (by kernel_rfl)).trans (by kernel_rfl : (_ : Value) = .int .i64 a1))
            refine ls_fr hF ?_
            refine ls_val (v := .int .i64 a1) rfl rfl (by kernel_rfl) (fun w => by kernel_rfl) ?_
            exact ls_fin s0 (.int .i64 a1) (congrArg (fun z => upd z 39 _) hF.symm) ⟨rfl, rfl⟩ (sub_nil _)
          · refine ⟨fun o ho vs Rs f' S' w hp hf hx hS hR hs => ?_⟩
            obtain rfl := Option.some.inj ho
            refine And.intro (want_none rfl) (And.intro (fun _ => ?_) (fun h => by cases h))
            have hF := fr_next (rfl) ((hx 2 (by kernel_rfl)).trans (by kernel_rfl : (_ : Value) = .int .u64 a2))
            refine ls_fr hF ?_
            refine ls_val (v := .int .u64 a2) rfl rfl (by kernel_rfl) (fun w => by kernel_rfl) ?_
            exact ls_fin s0 (.int .u64 a2) (congrArg (fun z => upd z 40 _) hF.symm) ⟨rfl, rfl⟩ (sub_nil _)
          · refine ⟨fun o ho vs Rs f' S' w hp hf hx hS hR hs => ?_⟩
            obtain rfl := Option.some.inj ho
            obtain ⟨hv6, hR6⟩ := hp 6 (by kernel_rfl)
            obtain ⟨hv7, hR7⟩ := hp 7 (by kernel_rfl)
            obtain ⟨hv8, hR8⟩ := hp 8 (by kernel_rfl)
            refine And.intro (want_none rfl) (And.intro (fun _ => ?_) (fun h => by cases h))
            have hF := fr_next (fr_next (fr_next (rfl) ((hf 6 38 (by kernel_rfl) rfl).trans hv6)) ((hf 7 39 (by kernel_rfl) rfl).trans hv7)) ((hf 8 40 (by kernel_rfl) rfl).trans hv8)
            refine ls_fr hF ?_
            refine ls_call (fid := 14) (vals := #[.slice A0 l0.length c0, .int .i64 a1, .int .u64 a2]) (X := (Option Addr × Nat)) (fun x => .slice x.1 t43.length x.2) (fun x => sput s0 0 (some (Ck.sl 5 (Value.int .u8) x.1 x.2 t43))) 0 rfl rfl (by kernel_rfl) (fun w => by kernel_rfl) (fun w1 hs1 => shadowboxref01_Fixed.calls k A0 c0 l0 a1 a2 t43 w1 (hs1.old (hs.old R0)) C0 hc44) ?_
            intro x45
            exact ls_fin (sput s0 0 (some (Ck.sl 5 (Value.int .u8) x45.1 x45.2 t43))) (.slice x45.1 t43.length x45.2) (congrArg (fun z => upd z 41 _) hF.symm) ⟨x45, rfl, rfl⟩ (sub_put (by exact rfl) (sub_nil _))
          · refine ⟨fun o ho vs Rs f' S' w hp hf hx hS hR hs => ?_⟩
            obtain rfl := Option.some.inj ho
            obtain ⟨x45, hv9, hR9⟩ := hp 9 (by kernel_rfl)
            have hT9_0 := (hR 9 0 (by kernel_rfl) (by decide)).trans (congrFun hR9 0)
            refine And.intro (want_none rfl) (And.intro (fun _ => ?_) (fun h => by cases h))
            have hF := fr_next (rfl) ((hf 9 41 (by kernel_rfl) rfl).trans hv9)
            refine ls_fr hF ?_
            refine ls_str (A := x45.1) (c := x45.2) (e := 5) (l := t43) rfl rfl (by kernel_rfl) rfl (by kernel_rfl) (by kernel_rfl) (by kernel_rfl) (by kernel_rfl) (fun w1 hs1 => (hs1.old (hs.rd (k := 74) hT9_0))) ?_
            exact ls_fin s0 (.string (strOfNums t43)) (congrArg (fun z => upd z 42 _) hF.symm) ⟨rfl, rfl⟩ (sub_nil _)
          · refine ⟨fun o ho vs Rs f' S' w hp hf hx hS hR hs => ?_⟩
            obtain rfl := Option.some.inj ho
            obtain ⟨hv5, hR5⟩ := hp 5 (by kernel_rfl)
            obtain ⟨hv10, hR10⟩ := hp 10 (by kernel_rfl)
            refine And.intro (want_none rfl) (And.intro (fun _ => ?_) (fun h => by cases h))
            have hF := fr_next (fr_next (rfl) ((hf 5 37 (by kernel_rfl) rfl).trans hv5)) ((hf 10 42 (by kernel_rfl) rfl).trans hv10)
            refine ls_fr hF ?_
            refine ls_val (v := .bool ((strOfNums t40).toList == (strOfNums t43).toList)) rfl rfl (by kernel_rfl) (fun w => by kernel_rfl) ?_
            refine ls_ren 43 (v := .bool ((strOfNums t40).toList == (strOfNums t43).toList)) (v' := .bool true) (by kernel_rfl) (congrArg Value.bool (show ((strOfNums t40).toList == (strOfNums t43).toList) = true from q46)) ?_
            exact ls_fin s0 (.bool true) ((upd_upd _ _ _ _).trans (congrArg (fun z => upd z 43 _) hF.symm)) ⟨rfl, rfl⟩ (sub_nil _)
          · refine ⟨fun o ho vs Rs f' S' w hp hf hx hS hR hs => ?_⟩
            obtain rfl := Option.some.inj ho
            obtain ⟨hv11, hR11⟩ := hp 11 (by kernel_rfl)
            refine And.intro (want_none rfl) (And.intro (fun _ => ?_) (fun h => by cases h))
            have hF := fr_next (rfl) ((hf 11 43 (by kernel_rfl) rfl).trans hv11)
            refine ls_fr hF ?_
            refine ls_val (v := .bool true) rfl rfl (by kernel_rfl) (fun w => by kernel_rfl) ?_
            exact ls_fin s0 (.bool true) (congrArg (fun z => upd z 44 _) hF.symm) ⟨rfl, rfl⟩ (sub_nil _)
          · refine ⟨fun o ho vs Rs f' S' w hp hf hx hS hR hs => ?_⟩
            obtain rfl := Option.some.inj ho
            obtain ⟨hv12, hR12⟩ := hp 12 (by kernel_rfl)
            refine And.intro (want_is (j := 12) (t := 44) rfl rfl (by kernel_rfl) ((hf 12 44 (by kernel_rfl) rfl).trans hv12) rfl) (And.intro (fun _ => ?_) (fun h => by cases h))
            have hF := fr_next (fr_next (rfl) ((hx 7 (by kernel_rfl)).trans (by kernel_rfl : (_ : Value) = .int .u64 t33.1))) ((hf 12 44 (by kernel_rfl) rfl).trans hv12)
            refine ls_fr hF ?_
            refine ls_val (v := .int .u64 t33.1) rfl rfl (by kernel_rfl) (fun w => by kernel_rfl) ?_
            exact ls_fin s0 (.int .u64 t33.1) (congrArg (fun z => upd z 45 _) hF.symm) ⟨rfl, rfl⟩ (sub_nil _)
          · refine ⟨fun o ho vs Rs f' S' w hp hf hx hS hR hs => ?_⟩
            obtain rfl := Option.some.inj ho
            obtain ⟨hv12, hR12⟩ := hp 12 (by kernel_rfl)
            refine And.intro (want_is (j := 12) (t := 44) rfl rfl (by kernel_rfl) ((hf 12 44 (by kernel_rfl) rfl).trans hv12) rfl) (And.intro (fun _ => ?_) (fun h => by cases h))
            have hF := fr_next (fr_next (rfl) ((hx 10 (by kernel_rfl)).trans (by kernel_rfl : (_ : Value) = .int .u64 t36.1))) ((hf 12 44 (by kernel_rfl) rfl).trans hv12)
            refine ls_fr hF ?_
            refine ls_val (v := .int .u64 t36.1) rfl rfl (by kernel_rfl) (fun w => by kernel_rfl) ?_
            exact ls_fin s0 (.int .u64 t36.1) (congrArg (fun z => upd z 46 _) hF.symm) ⟨rfl, rfl⟩ (sub_nil _)
          · refine ⟨fun o ho vs Rs f' S' w hp hf hx hS hR hs => ?_⟩
            obtain rfl := Option.some.inj ho
            obtain ⟨hv12, hR12⟩ := hp 12 (by kernel_rfl)
            obtain ⟨hv13, hR13⟩ := hp 13 (by kernel_rfl)
            obtain ⟨hv14, hR14⟩ := hp 14 (by kernel_rfl)
            refine And.intro (want_is (j := 12) (t := 44) rfl rfl (by kernel_rfl) ((hf 12 44 (by kernel_rfl) rfl).trans hv12) rfl) (And.intro (fun _ => ?_) (fun h => by cases h))
            have hF := fr_next (fr_next (fr_next (rfl) ((hf 12 44 (by kernel_rfl) rfl).trans hv12)) ((hf 13 45 (by kernel_rfl) rfl).trans hv13)) ((hf 14 46 (by kernel_rfl) rfl).trans hv14)
            refine ls_fr hF ?_
            refine ls_val (v := .bool (decide (t33.1 = t36.1))) rfl rfl (by kernel_rfl) (fun w => by kernel_rfl) ?_
            refine ls_ren 47 (v := .bool (decide (t33.1 = t36.1))) (v' := .bool false) (by kernel_rfl) (congrArg Value.bool (show (decide (t33.1 = t36.1)) = false from dec_f q47)) ?_
            exact ls_fin s0 (.bool false) ((upd_upd _ _ _ _).trans (congrArg (fun z => upd z 47 _) hF.symm)) ⟨rfl, rfl⟩ (sub_nil _)
          · refine ⟨fun o ho vs Rs f' S' w hp hf hx hS hR hs => ?_⟩
            obtain rfl := Option.some.inj ho
            obtain ⟨hv12, hR12⟩ := hp 12 (by kernel_rfl)
            obtain ⟨hv15, hR15⟩ := hp 15 (by kernel_rfl)
            refine And.intro (want_none rfl) (And.intro (fun _ => ?_) (fun h => by cases h))
            have hF := fr_next (fr_next (rfl) ((hf 12 44 (by kernel_rfl) rfl).trans hv12)) ((hf 15 47 (by kernel_rfl) rfl).trans hv15)
            refine ls_fr hF ?_
            refine ls_val (v := .bool false) rfl rfl (by kernel_rfl) (fun w => by kernel_rfl) ?_
            exact ls_fin s0 (.bool false) (congrArg (fun z => upd z 48 _) hF.symm) ⟨rfl, rfl⟩ (sub_nil _)
          · refine ⟨fun o ho vs Rs f' S' w hp hf hx hS hR hs => ?_⟩
            obtain rfl := Option.some.inj ho
            obtain ⟨hv16, hR16⟩ := hp 16 (by kernel_rfl)
            refine And.intro (want_none rfl) (And.intro (fun _ => ?_) (fun h => by cases h))
            have hF := fr_next (rfl) ((hf 16 48 (by kernel_rfl) rfl).trans hv16)
            refine ls_fr hF ?_
            refine ls_val (v := .bool false) rfl rfl (by kernel_rfl) (fun w => by kernel_rfl) ?_
            exact ls_fin s0 (.bool false) (congrArg (fun z => upd z 49 _) hF.symm) ⟨rfl, rfl⟩ (sub_nil _)
          · refine ⟨fun o ho vs Rs f' S' w hp hf hx hS hR hs => ?_⟩
            obtain rfl := Option.some.inj ho
            obtain ⟨hv17, hR17⟩ := hp 17 (by kernel_rfl)
            refine And.intro ?_ (And.intro ?_ ?_)
            · exact want_is (j := 17) (t := 49) rfl rfl (by kernel_rfl) ((hf 17 49 (by kernel_rfl) rfl).trans hv17) rfl
            · intro h; cases h
            · intro _; exact ⟨rfl, rfl⟩
          · refine ⟨fun o ho vs Rs f' S' w hp hf hx hS hR hs => ?_⟩
            obtain rfl := Option.some.inj ho
            obtain ⟨hv17, hR17⟩ := hp 17 (by kernel_rfl)
            obtain ⟨hv18, hR18⟩ := hp 18 (by kernel_rfl)
            refine And.intro ?_ (And.intro ?_ ?_)
            · exact want_is (j := 17) (t := 49) rfl rfl (by kernel_rfl) ((hf 17 49 (by kernel_rfl) rfl).trans hv17) rfl
            · intro h; cases h
            · intro _; exact ⟨rfl, rfl⟩
          · refine ⟨fun o ho vs Rs f' S' w hp hf hx hS hR hs => ?_⟩
            obtain rfl := Option.some.inj ho
            obtain ⟨hv17, hR17⟩ := hp 17 (by kernel_rfl)
            refine And.intro ?_ (And.intro ?_ ?_)
            · exact want_is (j := 17) (t := 49) rfl rfl (by kernel_rfl) ((hf 17 49 (by kernel_rfl) rfl).trans hv17) rfl
            · intro h; cases h
            · intro _; exact ⟨rfl, rfl⟩
          · refine ⟨fun o ho vs Rs f' S' w hp hf hx hS hR hs => ?_⟩
            obtain rfl := Option.some.inj ho
            obtain ⟨hv17, hR17⟩ := hp 17 (by kernel_rfl)
            obtain ⟨hv20, hR20⟩ := hp 20 (by kernel_rfl)
            refine And.intro ?_ (And.intro ?_ ?_)
            · exact want_is (j := 17) (t := 49) rfl rfl (by kernel_rfl) ((hf 17 49 (by kernel_rfl) rfl).trans hv17) rfl
            · intro h; cases h
            · intro _; exact ⟨rfl, rfl⟩
          · refine ⟨fun o ho vs Rs f' S' w hp hf hx hS hR hs => ?_⟩
            obtain rfl := Option.some.inj ho
            obtain ⟨hv17, hR17⟩ := hp 17 (by kernel_rfl)
            obtain ⟨hv19, hR19⟩ := hp 19 (by kernel_rfl)
            obtain ⟨hv21, hR21⟩ := hp 21 (by kernel_rfl)
            refine And.intro ?_ (And.intro ?_ ?_)
            · exact want_is (j := 17) (t := 49) rfl rfl (by kernel_rfl) ((hf 17 49 (by kernel_rfl) rfl).trans hv17) rfl
            · intro h; cases h
            · intro _; exact ⟨rfl, rfl⟩
          · refine ⟨fun o ho vs Rs f' S' w hp hf hx hS hR hs => ?_⟩
            obtain rfl := Option.some.inj ho
            obtain ⟨hv17, hR17⟩ := hp 17 (by kernel_rfl)
            obtain ⟨hv22, hR22⟩ := hp 22 (by kernel_rfl)
            refine And.intro (want_none rfl) (And.intro (fun _ => ?_) (fun h => by cases h))
            have hF := fr_next (fr_next (rfl) ((hf 17 49 (by kernel_rfl) rfl).trans hv17)) ((hf 22 54 (by kernel_rfl) rfl).trans hv22)
            refine ls_fr hF ?_
            refine ls_val (v := .bool false) rfl rfl (by kernel_rfl) (fun w => by kernel_rfl) ?_
            exact ls_fin s0 (.bool false) (congrArg (fun z => upd z 55 _) hF.symm) ⟨rfl, rfl⟩ (sub_nil _)
          · refine ⟨fun o ho vs Rs f' S' w hp hf hx hS hR hs => ?_⟩
            obtain rfl := Option.some.inj ho
            obtain ⟨hv23, hR23⟩ := hp 23 (by kernel_rfl)
            refine And.intro (want_none rfl) (And.intro (fun _ => ?_) (fun h => by cases h))
            have hF := fr_next (rfl) ((hf 23 55 (by kernel_rfl) rfl).trans hv23)
            refine ls_fr hF ?_
            refine ls_val (v := .bool false) rfl rfl (by kernel_rfl) (fun w => by kernel_rfl) ?_
            exact ls_fin s0 (.bool false) (congrArg (fun z => upd z 56 _) hF.symm) ⟨rfl, rfl⟩ (sub_nil _)
          · refine ⟨fun o ho vs Rs f' S' w hp hf hx hS hR hs => ?_⟩
            obtain rfl := Option.some.inj ho
            obtain ⟨hv24, hR24⟩ := hp 24 (by kernel_rfl)
            refine And.intro ?_ (And.intro ?_ ?_)
            · exact want_is (j := 24) (t := 56) rfl rfl (by kernel_rfl) ((hf 24 56 (by kernel_rfl) rfl).trans hv24) rfl
            · intro h; cases h
            · intro _; exact ⟨rfl, rfl⟩
          · refine ⟨fun o ho vs Rs f' S' w hp hf hx hS hR hs => ?_⟩
            obtain rfl := Option.some.inj ho
            obtain ⟨hv24, hR24⟩ := hp 24 (by kernel_rfl)
            refine And.intro ?_ (And.intro ?_ ?_)
            · exact want_is (j := 24) (t := 56) rfl rfl (by kernel_rfl) ((hf 24 56 (by kernel_rfl) rfl).trans hv24) rfl
            · intro h; cases h
            · intro _; exact ⟨rfl, rfl⟩
        · intro vs Rs f' S' hp hf hx hS hR
          obtain ⟨g39, hv3, hR3⟩ := hp 3 (by kernel_rfl)
          have hT3_0 := (hR 3 0 (by kernel_rfl) (by decide)).trans (congrFun hR3 0)
          obtain ⟨x42, hv4, hR4⟩ := hp 4 (by kernel_rfl)
          have hT4_0 := (hR 4 0 (by kernel_rfl) (by decide)).trans (congrFun hR4 0)
          obtain ⟨x45, hv9, hR9⟩ := hp 9 (by kernel_rfl)
          have hT9_0 := (hR 9 0 (by kernel_rfl) (by decide)).trans (congrFun hR9 0)
          obtain ⟨hv24, hR24⟩ := hp 24 (by kernel_rfl)
          obtain ⟨hv25, hR25⟩ := hp 25 (by kernel_rfl)
          obtain ⟨hv26, hR26⟩ := hp 26 (by kernel_rfl)
          refine ls_fr (F := upd f' 56 (.bool false)) (fr_next (rfl) ((hf 24 56 (by kernel_rfl) rfl).trans hv24)) ?_
          refine ls_sub (s0) (sub_nil _) ?_
          refine ls_off (j := 24) (t := 56) (b := true) (c := false) rfl rfl (by kernel_rfl) (by kernel_rfl) rfl rfl (by kernel_rfl) ?_
          refine ls_val (v := .bool false) rfl rfl (by kernel_rfl) (fun w => by kernel_rfl) ?_
          refine ls_val (v := .bool false) rfl rfl (by kernel_rfl) (fun w => by kernel_rfl) ?_
          refine ls_off (j := 29) (t := 61) (b := true) (c := false) rfl rfl (by kernel_rfl) (by kernel_rfl) rfl rfl (by kernel_rfl) ?_
          refine ls_off (j := 29) (t := 61) (b := true) (c := false) rfl rfl (by kernel_rfl) (by kernel_rfl) rfl rfl (by kernel_rfl) ?_
          refine ls_off (j := 29) (t := 61) (b := true) (c := false) rfl rfl (by kernel_rfl) (by kernel_rfl) rfl rfl (by kernel_rfl) ?_
          refine ls_off (j := 29) (t := 61) (b := true) (c := false) rfl rfl (by kernel_rfl) (by kernel_rfl) rfl rfl (by kernel_rfl) ?_
          refine ls_val (v := .bool false) rfl rfl (by kernel_rfl) (fun w => by kernel_rfl) ?_
          refine ls_val (v := .bool false) rfl rfl (by kernel_rfl) (fun w => by kernel_rfl) ?_
          refine ls_end ?_
          refine qn_then ?_
          refine cs_ret' ?_
          obtain rfl := Option.some.inj H
          refine qr_end1 rfl (fun w' hs => ⟨(), rfl, ?_⟩)
          exact hs.sub (sub_nil _)
    · replace H := ite_f q46 H
      refine cs_draw (l := [_, _, _, _, _, _, _, _, _, _, _, _, _, _, _, _, _, _, _, _, _, _, _, _, _, _, _, _, _, _, _, _, _, _, _, _]) [[], [], [], [2], [0, 1, 2, 3], [0, 1, 2, 3, 4], [], [], [], [0, 1, 2, 3, 4, 6, 7, 8], [0, 1, 2, 3, 4, 6, 7, 8, 9], [0, 1, 2, 3, 4, 5, 6, 7, 8, 9, 10], [0, 1, 2, 3, 4, 5, 6, 7, 8, 9, 10, 11], [0, 1, 2, 3, 4, 5, 6, 7, 8, 9, 10, 11, 12], [0, 1, 2, 3, 4, 5, 6, 7, 8, 9, 10, 11, 12], [0, 1, 2, 3, 4, 5, 6, 7, 8, 9, 10, 11, 12, 13, 14], [0, 1, 2, 3, 4, 5, 6, 7, 8, 9, 10, 11, 12, 13, 14, 15], [0, 1, 2, 3, 4, 5, 6, 7, 8, 9, 10, 11, 12, 13, 14, 15, 16], [0, 1, 2, 3, 4, 5, 6, 7, 8, 9, 10, 11, 12, 13, 14, 15, 16, 17], [0, 1, 2, 3, 4, 5, 6, 7, 8, 9, 10, 11, 12, 13, 14, 15, 16, 17, 18], [0, 1, 2, 3, 4, 5, 6, 7, 8, 9, 10, 11, 12, 13, 14, 15, 16, 17], [0, 1, 2, 3, 4, 5, 6, 7, 8, 9, 10, 11, 12, 13, 14, 15, 16, 17, 20], [0, 1, 2, 3, 4, 5, 6, 7, 8, 9, 10, 11, 12, 13, 14, 15, 16, 17, 18, 19, 20, 21], [0, 1, 2, 3, 4, 5, 6, 7, 8, 9, 10, 11, 12, 13, 14, 15, 16, 17, 18, 19, 20, 21, 22], [0, 1, 2, 3, 4, 5, 6, 7, 8, 9, 10, 11, 12, 13, 14, 15, 16, 17, 18, 19, 20, 21, 22, 23], [0, 1, 2, 3, 4, 5, 6, 7, 8, 9, 10, 11, 12, 13, 14, 15, 16, 17, 18, 19, 20, 21, 22, 23, 24], [0, 1, 2, 3, 4, 5, 6, 7, 8, 9, 10, 11, 12, 13, 14, 15, 16, 17, 18, 19, 20, 21, 22, 23, 24], [0, 1, 2, 3, 4, 5, 6, 7, 8, 9, 10, 11, 12, 13, 14, 15, 16, 17, 18, 19, 20, 21, 22, 23, 24, 25, 26], [0, 1, 2, 3, 4, 5, 6, 7, 8, 9, 10, 11, 12, 13, 14, 15, 16, 17, 18, 19, 20, 21, 22, 23, 24, 25, 26, 27], [0, 1, 2, 3, 4, 5, 6, 7, 8, 9, 10, 11, 12, 13, 14, 15, 16, 17, 18, 19, 20, 21, 22, 23, 24, 25, 26, 27, 28], [0, 1, 2, 3, 4, 5, 6, 7, 8, 9, 10, 11, 12, 13, 14, 15, 16, 17, 18, 19, 20, 21, 22, 23, 24, 25, 26, 27, 28, 29], [0, 1, 2, 3, 4, 5, 6, 7, 8, 9, 10, 11, 12, 13, 14, 15, 16, 17, 18, 19, 20, 21, 22, 23, 24, 25, 26, 27, 28, 29, 30], [0, 1, 2, 3, 4, 5, 6, 7, 8, 9, 10, 11, 12, 13, 14, 15, 16, 17, 18, 19, 20, 21, 22, 23, 24, 25, 26, 27, 28, 29, 30, 31], [0, 1, 2, 3, 4, 5, 6, 7, 8, 9, 10, 11, 12, 13, 14, 15, 16, 17, 18, 19, 20, 21, 22, 23, 24, 25, 26, 27, 28, 29, 30, 31, 32], [0, 1, 2, 3, 4, 5, 6, 7, 8, 9, 10, 11, 12, 13, 14, 15, 16, 17, 18, 19, 20, 21, 22, 23, 24, 25, 26, 27, 28, 29, 30, 31, 32, 33], [0, 1, 2, 3, 4, 5, 6, 7, 8, 9, 10, 11, 12, 13, 14, 15, 16, 17, 18, 19, 20, 21, 22, 23, 24, 25, 26, 27, 28, 29, 30, 31, 32, 33, 34]] 27 2 (spl [fun v R => v = .slice A0 l0.length c0 ∧ R = s0, fun v R => v = .int .i64 a1 ∧ R = s0, fun v R => v = .int .u64 a2 ∧ R = s0, fun v R => ∃ g39 : Nat, v = .slice (some ⟨g39, 0, none⟩) [a2].length [a2].length ∧ R = sput s0 0 (some (Ck.sl 22 (Value.int .u64) (some ⟨g39, 0, none⟩) ([a2]).length ([a2]))), fun v R => ∃ x42 : (Option Addr × Nat), v = .slice x42.1 t40.length x42.2 ∧ R = sput s0 0 (some (Ck.sl 5 (Value.int .u8) x42.1 x42.2 t40)), fun v R => v = .string (strOfNums t40) ∧ R = s0, fun v R => v = .slice A0 l0.length c0 ∧ R = s0, fun v R => v = .int .i64 a1 ∧ R = s0, fun v R => v = .int .u64 a2 ∧ R = s0, fun v R => ∃ x45 : (Option Addr × Nat), v = .slice x45.1 t43.length x45.2 ∧ R = sput s0 0 (some (Ck.sl 5 (Value.int .u8) x45.1 x45.2 t43)), fun v R => v = .string (strOfNums t43) ∧ R = s0, fun v R => v = .bool false ∧ R = s0, fun v R => v = .bool false ∧ R = s0, fun v R => v = undef ∧ R = s0, fun v R => v = undef ∧ R = s0, fun v R => v = undef ∧ R = s0, fun v R => v = .bool false ∧ R = s0, fun v R => v = .bool false ∧ R = s0, fun v R => v = undef ∧ R = s0, fun v R => v = undef ∧ R = s0, fun v R => v = undef ∧ R = s0, fun v R => v = undef ∧ R = s0, fun v R => v = undef ∧ R = s0, fun v R => v = .bool false ∧ R = s0, fun v R => v = .bool false ∧ R = s0, fun v R => v = undef ∧ R = s0, fun v R => v = undef ∧ R = s0]) (onl [true, true, true, true, true, true, true, true, true, true, true, true, true, false, false, false, true, true, false, false, false, false, false, true, true, false, false]) (by kernel_rfl) (by kernel_rfl) (by kernel_rfl) (by kernel_rfl) (rs := [_, _, _, _, _, _, _, _, _]) rfl (by kernel_rfl) (by kernel_rfl) ?_ ?_
      · refine all_snoc (all_snoc (all_snoc (all_snoc (all_snoc (all_snoc (all_snoc (all_snoc (all_snoc (all_snoc (all_snoc (all_snoc (all_snoc (all_snoc (all_snoc (all_snoc (all_snoc (all_snoc (all_snoc (all_snoc (all_snoc (all_snoc (all_snoc (all_snoc (all_snoc (all_snoc (all_snoc (all_nil) ?_) ?_) ?_) ?_) ?_) ?_) ?_) ?_) ?_) ?_) ?_) ?_) ?_) ?_) ?_) ?_) ?_) ?_) ?_) ?_) ?_) ?_) ?_) ?_) ?_) ?_) ?_
        · refine ⟨fun o ho vs Rs f' S' w hp hf hx hS hR hs => ?_⟩
          obtain rfl := Option.some.inj ho
          refine And.intro (want_none rfl) (And.intro (fun _ => ?_) (fun h => by cases h))
          have hF := fr_next (rfl) ((hx 0 (by kernel_rfl)).trans (by kernel_rfl : (_ : Value) = .slice A0 l0.length c0))
          refine ls_fr hF ?_
          refine ls_val (v := .slice A0 l0.length c0) rfl rfl (by kernel_rfl) (fun w => by kernel_rfl) ?_
          exact ls_fin s0 (.slice A0 l0.length c0) (congrArg (fun z => upd z 32 _) hF.symm) ⟨rfl, rfl⟩ (sub_nil _)
        · refine ⟨fun o ho vs Rs f' S' w hp hf hx hS hR hs => ?_⟩
          obtain rfl := Option.some.inj ho
          refine And.intro (want_none rfl) (And.intro (fun _ => ?_) (fun h => by cases h))
          have hF := fr_next (rfl) ((hx 1 (by kernel_rfl)).trans (by kernel_rfl : (_ : Value) = .int .i64 a1))
          refine ls_fr hF ?_
          refine ls_val (v := .int .i64 a1) rfl rfl (by kernel_rfl) (fun w => by kernel_rfl) ?_
          exact ls_fin s0 (.int .i64 a1) (congrArg (fun z => upd z 33 _) hF.symm) ⟨rfl, rfl⟩ (sub_nil _)
        · refine ⟨fun o ho vs Rs f' S' w hp hf hx hS hR hs => ?_⟩
          obtain rfl := Option.some.inj ho
          refine And.intro (want_none rfl) (And.intro (fun _ => ?_) (fun h => by cases h))
          have hF := fr_next (rfl) ((hx 2 (by kernel_rfl)).trans (by kernel_rfl : (_ : Value) = .int .u64 a2))
          refine ls_fr hF ?_
          refine ls_val (v := .int .u64 a2) rfl rfl (by kernel_rfl) (fun w => by kernel_rfl) ?_
          exact ls_fin s0 (.int .u64 a2) (congrArg (fun z => upd z 34 _) hF.symm) ⟨rfl, rfl⟩ (sub_nil _)
        · refine ⟨fun o ho vs Rs f' S' w hp hf hx hS hR hs => ?_⟩
          obtain rfl := Option.some.inj ho
          obtain ⟨hv2, hR2⟩ := hp 2 (by kernel_rfl)
          refine And.intro (want_none rfl) (And.intro (fun _ => ?_) (fun h => by cases h))
          have hF := fr_next (rfl) ((hf 2 34 (by kernel_rfl) rfl).trans hv2)
          refine ls_fr hF ?_
          refine ls_lit (E := (Value.int .u64)) (e := 22) 0 rfl rfl (by kernel_rfl) ([a2]) (by exact of_decide_eq_true (by kernel_rfl)) (fun w => by kernel_rfl) ?_
          intro g39
          exact ls_fin (sput s0 0 (some (Ck.sl 22 (Value.int .u64) (some ⟨g39, 0, none⟩) ([a2]).length ([a2])))) (.slice (some ⟨g39, 0, none⟩) [a2].length [a2].length) (congrArg (fun z => upd z 35 _) hF.symm) ⟨g39, rfl, rfl⟩ (sub_put (by exact rfl) (sub_nil _))
        · refine ⟨fun o ho vs Rs f' S' w hp hf hx hS hR hs => ?_⟩
          obtain rfl := Option.some.inj ho
          obtain ⟨hv0, hR0⟩ := hp 0 (by kernel_rfl)
          obtain ⟨hv1, hR1⟩ := hp 1 (by kernel_rfl)
          obtain ⟨g39, hv3, hR3⟩ := hp 3 (by kernel_rfl)
          have hT3_0 := (hR 3 0 (by kernel_rfl) (by decide)).trans (congrFun hR3 0)
          refine And.intro (want_none rfl) (And.intro (fun _ => ?_) (fun h => by cases h))
          have hF := fr_next (fr_next (fr_next (rfl) ((hf 0 32 (by kernel_rfl) rfl).trans hv0)) ((hf 1 33 (by kernel_rfl) rfl).trans hv1)) ((hf 3 35 (by kernel_rfl) rfl).trans hv3)
          refine ls_fr hF ?_
          refine ls_call (fid := 13) (vals := #[.slice A0 l0.length c0, .int .i64 a1, .slice (some ⟨g39, 0, none⟩) ([a2]).length [a2].length]) (X := (Option Addr × Nat)) (fun x => .slice x.1 t40.length x.2) (fun x => sput s0 0 (some (Ck.sl 5 (Value.int .u8) x.1 x.2 t40))) 0 rfl rfl (by kernel_rfl) (fun w => by kernel_rfl) (fun w1 hs1 => codec_Fixed.calls k A0 c0 l0 a1 (some ⟨g39, 0, none⟩) [a2].length ([a2]) t40 w1 (hs1.old (hs.old R0)) C0 (hs1.old (hs.rd (k := 26) hT3_0)) (hs.cap (k := 26) hT3_0) hc41) ?_
          intro x42
          exact ls_fin (sput s0 0 (some (Ck.sl 5 (Value.int .u8) x42.1 x42.2 t40))) (.slice x42.1 t40.length x42.2) (congrArg (fun z => upd z 36 _) hF.symm) ⟨x42, rfl, rfl⟩ (sub_put (by exact rfl) (sub_nil _))
        · refine ⟨fun o ho vs Rs f' S' w hp hf hx hS hR hs => ?_⟩
          obtain rfl := Option.some.inj ho
          obtain ⟨x42, hv4, hR4⟩ := hp 4 (by kernel_rfl)
          have hT4_0 := (hR 4 0 (by kernel_rfl) (by decide)).trans (congrFun hR4 0)
          refine And.intro (want_none rfl) (And.intro (fun _ => ?_) (fun h => by cases h))
          have hF := fr_next (rfl) ((hf 4 36 (by kernel_rfl) rfl).trans hv4)
          refine ls_fr hF ?_
          refine ls_str (A := x42.1) (c := x42.2) (e := 5) (l := t40) rfl rfl (by kernel_rfl) rfl (by kernel_rfl) (by kernel_rfl) (by kernel_rfl) (by kernel_rfl) (fun w1 hs1 => (hs1.old (hs.rd (k := 34) hT4_0))) ?_
          exact ls_fin s0 (.string (strOfNums t40)) (congrArg (fun z => upd z 37 _) hF.symm) ⟨rfl, rfl⟩ (sub_nil _)
        · refine ⟨fun o ho vs Rs f' S' w hp hf hx hS hR hs => ?_⟩
          obtain rfl := Option.some.inj ho
          refine And.intro (want_none rfl) (And.intro (fun _ => ?_) (fun h => by cases h))
          have hF := fr_next (rfl) ((hx 0 (by kernel_rfl)).trans (by kernel_rfl : (_ : Value) = .slice A0 l0.length c0))
          refine ls_fr hF ?_
          refine ls_val (v := .slice A0 l0.length c0) rfl rfl (by kernel_rfl) (fun w => by kernel_rfl) ?_
          exact ls_fin s0 (.slice A0 l0.length c0) (congrArg (fun z => upd z 38 _) hF.symm) ⟨rfl, rfl⟩ (sub_nil _)
        · refine ⟨fun o ho vs Rs f' S' w hp hf hx hS hR hs => ?_⟩
          obtain rfl := Option.some.inj ho
          refine And.intro (want_none rfl) (And.intro (fun _ => ?_) (fun h => by cases h))
          have hF := fr_next (rfl) ((hx 1 (by kernel_rfl)).trans (by kernel_rfl : (_ : Value) = .int .i64 a1))
          refine ls_fr hF ?_
          refine ls_val (v := .int .i64 a1) rfl rfl (by kernel_rfl) (fun w => by kernel_rfl) ?_
          exact ls_fin s0 (.int .i64 a1) (congrArg (fun z => upd z 39 _) hF.symm) ⟨rfl, rfl⟩ (sub_nil _)
        · refine ⟨fun o ho vs Rs f' S' w hp hf hx hS hR hs => ?_⟩
          obtain rfl := Option.some.inj ho
          refine And.intro (want_none rfl) (And.intro (fun _ => ?_) (fun h => by cases h))
          have hF := fr_next (rfl) ((hx 2 (by kernel_rfl)).trans (by kernel_rfl : (_ : Value) = .int .u64 a2))
          refine ls_fr hF ?_
          refine ls_val (v := .int .u64 a2) rfl rfl (by kernel_rfl) (fun w => by kernel_rfl) ?_
          exact ls_fin s0 (.int .u64 a2) (congrArg (fun z => upd z 40 _) hF.symm) ⟨rfl, rfl⟩ (sub_nil _)
        · refine ⟨fun o ho vs Rs f' S' w hp hf hx hS hR hs => ?_⟩
          obtain rfl := Option.some.inj ho
          obtain ⟨hv6, hR6⟩ := hp 6 (by kernel_rfl)
          obtain ⟨hv7, hR7⟩ := hp 7 (by kernel_rfl)
          obtain ⟨hv8, hR8⟩ := hp 8 (by kernel_rfl)
          refine And.intro (want_none rfl) (And.intro (fun _ => ?_) (fun h => by cases h))
          have hF := fr_next (fr_next (fr_next (rfl) ((hf 6 38 (by kernel_rfl) rfl).trans hv6)) ((hf 7 39 (by kernel_rfl) rfl).trans hv7)) ((hf 8 40 (by kernel_rfl) rfl).trans hv8)
          refine ls_fr hF ?_
          refine ls_call (fid := 14) (vals := #[.slice A0 l0.length c0, .int .i64 a1, .int .u64 a2]) (X := (Option Addr × Nat)) (fun x => .slice x.1 t43.length x.2) (fun x => sput s0 0 (some (Ck.sl 5 (Value.int .u8) x.1 x.2 t43))) 0 rfl rfl (by kernel_rfl) (fun w => by kernel_rfl) (fun w1 hs1 => shadowboxref01_Fixed.calls k A0 c0 l0 a1 a2 t43 w1 (hs1.old (hs.old R0)) C0 hc44) ?_
          intro x45
          exact ls_fin (sput s0 0 (some (Ck.sl 5 (Value.int .u8) x45.1 x45.2 t43))) (.slice x45.1 t43.length x45.2) (congrArg (fun z => upd z 41 _) hF.symm) ⟨x45, rfl, rfl⟩ (sub_put (by exact rfl) (sub_nil _))
        · refine ⟨fun o ho vs Rs f' S' w hp hf hx hS hR hs => ?_⟩
          obtain rfl := Option.some.inj ho
          obtain ⟨x45, hv9, hR9⟩ := hp 9 (by kernel_rfl)
          have hT9_0 := (hR 9 0 (by kernel_rfl) (by decide)).trans (congrFun hR9 0)
          refine And.intro (want_none rfl) (And.intro (fun _ => ?_) (fun h => by cases h))
          have hF := fr_next (rfl) ((hf 9 41 (by kernel_rfl) rfl).trans hv9)
          refine ls_fr hF ?_
          refine ls_str (A := x45.1) (c := x45.2) (e := 5) (l := t43) rfl rfl (by kernel_rfl) rfl (by kernel_rfl) (by kernel_rfl) (by kernel_rfl) (by kernel_rfl) (fun w1 hs1 => (hs1.old (hs.rd (k := 74) hT9_0))) ?_
          exact ls_fin s0 (.string (strOfNums t43)) (congrArg (fun z => upd z 42 _) hF.symm) ⟨rfl, rfl⟩ (sub_nil _)
        · refine ⟨fun o ho vs Rs f' S' w hp hf hx hS hR hs => ?_⟩
          obtain rfl := Option.some.inj ho
          obtain ⟨hv5, hR5⟩ := hp 5 (by kernel_rfl)
          obtain ⟨hv10, hR10⟩ := hp 10 (by kernel_rfl)
          refine And.intro (want_none rfl) (And.intro (fun _ => ?_) (fun h => by cases h))
          have hF := fr_next (fr_next (rfl) ((hf 5 37 (by kernel_rfl) rfl).trans hv5)) ((hf 10 42 (by kernel_rfl) rfl).trans hv10)
          refine ls_fr hF ?_
          refine ls_val (v := .bool ((strOfNums t40).toList == (strOfNums t43).toList)) rfl rfl (by kernel_rfl) (fun w => by kernel_rfl) ?_
          refine ls_ren 43 (v := .bool ((strOfNums t40).toList == (strOfNums t43).toList)) (v' := .bool false) (by kernel_rfl) (congrArg Value.bool (show ((strOfNums t40).toList == (strOfNums t43).toList) = false from Bool.eq_false_iff.mpr q46)) ?_
          exact ls_fin s0 (.bool false) ((upd_upd _ _ _ _).trans (congrArg (fun z => upd z 43 _) hF.symm)) ⟨rfl, rfl⟩ (sub_nil _)
        · refine ⟨fun o ho vs Rs f' S' w hp hf hx hS hR hs => ?_⟩
          obtain rfl := Option.some.inj ho
          obtain ⟨hv11, hR11⟩ := hp 11 (by kernel_rfl)
          refine And.intro (want_none rfl) (And.intro (fun _ => ?_) (fun h => by cases h))
          have hF := fr_next (rfl) ((hf 11 43 (by kernel_rfl) rfl).trans hv11)
          refine ls_fr hF ?_
          refine ls_val (v := .bool false) rfl rfl (by kernel_rfl) (fun w => by kernel_rfl) ?_
          exact ls_fin s0 (.bool false) (congrArg (fun z => upd z 44 _) hF.symm) ⟨rfl, rfl⟩ (sub_nil _)
        · refine ⟨fun o ho vs Rs f' S' w hp hf hx hS hR hs => ?_⟩
          obtain rfl := Option.some.inj ho
          obtain ⟨hv12, hR12⟩ := hp 12 (by kernel_rfl)
          refine And.intro ?_ (And.intro ?_ ?_)
          · exact want_is (j := 12) (t := 44) rfl rfl (by kernel_rfl) ((hf 12 44 (by kernel_rfl) rfl).trans hv12) rfl
          · intro h; cases h
          · intro _; exact ⟨rfl, rfl⟩
        · refine ⟨fun o ho vs Rs f' S' w hp hf hx hS hR hs => ?_⟩
          obtain rfl := Option.some.inj ho
          obtain ⟨hv12, hR12⟩ := hp 12 (by kernel_rfl)
          refine And.intro ?_ (And.intro ?_ ?_)
          · exact want_is (j := 12) (t := 44) rfl rfl (by kernel_rfl) ((hf 12 44 (by kernel_rfl) rfl).trans hv12) rfl
          · intro h; cases h
          · intro _; exact ⟨rfl, rfl⟩
        · refine ⟨fun o ho vs Rs f' S' w hp hf hx hS hR hs => ?_⟩
          obtain rfl := Option.some.inj ho
          obtain ⟨hv12, hR12⟩ := hp 12 (by kernel_rfl)
          obtain ⟨hv13, hR13⟩ := hp 13 (by kernel_rfl)
          obtain ⟨hv14, hR14⟩ := hp 14 (by kernel_rfl)
          refine And.intro ?_ (And.intro ?_ ?_)
          · exact want_is (j := 12) (t := 44) rfl rfl (by kernel_rfl) ((hf 12 44 (by kernel_rfl) rfl).trans hv12) rfl
          · intro h; cases h
          · intro _; exact ⟨rfl, rfl⟩
        · refine ⟨fun o ho vs Rs f' S' w hp hf hx hS hR hs => ?_⟩
          obtain rfl := Option.some.inj ho
          obtain ⟨hv12, hR12⟩ := hp 12 (by kernel_rfl)
          obtain ⟨hv15, hR15⟩ := hp 15 (by kernel_rfl)
          refine And.intro (want_none rfl) (And.intro (fun _ => ?_) (fun h => by cases h))
          have hF := fr_next (fr_next (rfl) ((hf 12 44 (by kernel_rfl) rfl).trans hv12)) ((hf 15 47 (by kernel_rfl) rfl).trans hv15)
          refine ls_fr hF ?_
          refine ls_val (v := .bool false) rfl rfl (by kernel_rfl) (fun w => by kernel_rfl) ?_
          exact ls_fin s0 (.bool false) (congrArg (fun z => upd z 48 _) hF.symm) ⟨rfl, rfl⟩ (sub_nil _)
        · refine ⟨fun o ho vs Rs f' S' w hp hf hx hS hR hs => ?_⟩
          obtain rfl := Option.some.inj ho
          obtain ⟨hv16, hR16⟩ := hp 16 (by kernel_rfl)
          refine And.intro (want_none rfl) (And.intro (fun _ => ?_) (fun h => by cases h))
          have hF := fr_next (rfl) ((hf 16 48 (by kernel_rfl) rfl).trans hv16)
          refine ls_fr hF ?_
          refine ls_val (v := .bool false) rfl rfl (by kernel_rfl) (fun w => by kernel_rfl) ?_
          exact ls_fin s0 (.bool false) (congrArg (fun z => upd z 49 _) hF.symm) ⟨rfl, rfl⟩ (sub_nil _)
        · refine ⟨fun o ho vs Rs f' S' w hp hf hx hS hR hs => ?_⟩
          obtain rfl := Option.some.inj ho
          obtain ⟨hv17, hR17⟩ := hp 17 (by kernel_rfl)
          refine And.intro ?_ (And.intro ?_ ?_)
          · exact want_is (j := 17) (t := 49) rfl rfl (by kernel_rfl) ((hf 17 49 (by kernel_rfl) rfl).trans hv17) rfl
          · intro h; cases h
          · intro _; exact ⟨rfl, rfl⟩
        · refine ⟨fun o ho vs Rs f' S' w hp hf hx hS hR hs => ?_⟩
          obtain rfl := Option.some.inj ho
          obtain ⟨hv17, hR17⟩ := hp 17 (by kernel_rfl)
          obtain ⟨hv18, hR18⟩ := hp 18 (by kernel_rfl)
          refine And.intro ?_ (And.intro ?_ ?_)
          · exact want_is (j := 17) (t := 49) rfl rfl (by kernel_rfl) ((hf 17 49 (by kernel_rfl) rfl).trans hv17) rfl
          · intro h; cases h
          · intro _; exact ⟨rfl, rfl⟩
        · refine ⟨fun o ho vs Rs f' S' w hp hf hx hS hR hs => ?_⟩
          obtain rfl := Option.some.inj ho
          obtain ⟨hv17, hR17⟩ := hp 17 (by kernel_rfl)
          refine And.intro ?_ (And.intro ?_ ?_)
          · exact want_is (j := 17) (t := 49) rfl rfl (by kernel_rfl) ((hf 17 49 (by kernel_rfl) rfl).trans hv17) rfl
          · intro h; cases h
          · intro _; exact ⟨rfl, rfl⟩
        · refine ⟨fun o ho vs Rs f' S' w hp hf hx hS hR hs => ?_⟩
          obtain rfl := Option.some.inj ho
          obtain ⟨hv17, hR17⟩ := hp 17 (by kernel_rfl)
          obtain ⟨hv20, hR20⟩ := hp 20 (by kernel_rfl)
          refine And.intro ?_ (And.intro ?_ ?_)
          · exact want_is (j := 17) (t := 49) rfl rfl (by kernel_rfl) ((hf 17 49 (by kernel_rfl) rfl).trans hv17) rfl
          · intro h; cases h
          · intro _; exact ⟨rfl, rfl⟩
        · refine ⟨fun o ho vs Rs f' S' w hp hf hx hS hR hs => ?_⟩
          obtain rfl := Option.some.inj ho
          obtain ⟨hv17, hR17⟩ := hp 17 (by kernel_rfl)
          obtain ⟨hv19, hR19⟩ := hp 19 (by kernel_rfl)
          obtain ⟨hv21, hR21⟩ := hp 21 (by kernel_rfl)
          refine And.intro ?_ (And.intro ?_ ?_)
          · exact want_is (j := 17) (t := 49) rfl rfl (by kernel_rfl) ((hf 17 49 (by kernel_rfl) rfl).trans hv17) rfl
          · intro h; cases h
          · intro _; exact ⟨rfl, rfl⟩
        · refine ⟨fun o ho vs Rs f' S' w hp hf hx hS hR hs => ?_⟩
          obtain rfl := Option.some.inj ho
          obtain ⟨hv17, hR17⟩ := hp 17 (by kernel_rfl)
          obtain ⟨hv22, hR22⟩ := hp 22 (by kernel_rfl)
          refine And.intro (want_none rfl) (And.intro (fun _ => ?_) (fun h => by cases h))
          have hF := fr_next (fr_next (rfl) ((hf 17 49 (by kernel_rfl) rfl).trans hv17)) ((hf 22 54 (by kernel_rfl) rfl).trans hv22)
          refine ls_fr hF ?_
          refine ls_val (v := .bool false) rfl rfl (by kernel_rfl) (fun w => by kernel_rfl) ?_
          exact ls_fin s0 (.bool false) (congrArg (fun z => upd z 55 _) hF.symm) ⟨rfl, rfl⟩ (sub_nil _)
        · refine ⟨fun o ho vs Rs f' S' w hp hf hx hS hR hs => ?_⟩
          obtain rfl := Option.some.inj ho
          obtain ⟨hv23, hR23⟩ := hp 23 (by kernel_rfl)
          refine And.intro (want_none rfl) (And.intro (fun _ => ?_) (fun h => by cases h))
          have hF := fr_next (rfl) ((hf 23 55 (by kernel_rfl) rfl).trans hv23)
          refine ls_fr hF ?_
          refine ls_val (v := .bool false) rfl rfl (by kernel_rfl) (fun w => by kernel_rfl) ?_
          exact ls_fin s0 (.bool false) (congrArg (fun z => upd z 56 _) hF.symm) ⟨rfl, rfl⟩ (sub_nil _)
        · refine ⟨fun o ho vs Rs f' S' w hp hf hx hS hR hs => ?_⟩
          obtain rfl := Option.some.inj ho
          obtain ⟨hv24, hR24⟩ := hp 24 (by kernel_rfl)
          refine And.intro ?_ (And.intro ?_ ?_)
          · exact want_is (j := 24) (t := 56) rfl rfl (by kernel_rfl) ((hf 24 56 (by kernel_rfl) rfl).trans hv24) rfl
          · intro h; cases h
          · intro _; exact ⟨rfl, rfl⟩
        · refine ⟨fun o ho vs Rs f' S' w hp hf hx hS hR hs => ?_⟩
          obtain rfl := Option.some.inj ho
          obtain ⟨hv24, hR24⟩ := hp 24 (by kernel_rfl)
          refine And.intro ?_ (And.intro ?_ ?_)
          · exact want_is (j := 24) (t := 56) rfl rfl (by kernel_rfl) ((hf 24 56 (by kernel_rfl) rfl).trans hv24) rfl
          · intro h; cases h
          · intro _; exact ⟨rfl, rfl⟩
      · intro vs Rs f' S' hp hf hx hS hR
        obtain ⟨g39, hv3, hR3⟩ := hp 3 (by kernel_rfl)
        have hT3_0 := (hR 3 0 (by kernel_rfl) (by decide)).trans (congrFun hR3 0)
        obtain ⟨x42, hv4, hR4⟩ := hp 4 (by kernel_rfl)
        have hT4_0 := (hR 4 0 (by kernel_rfl) (by decide)).trans (congrFun hR4 0)
        obtain ⟨x45, hv9, hR9⟩ := hp 9 (by kernel_rfl)
        have hT9_0 := (hR 9 0 (by kernel_rfl) (by decide)).trans (congrFun hR9 0)
        obtain ⟨hv24, hR24⟩ := hp 24 (by kernel_rfl)
        obtain ⟨hv25, hR25⟩ := hp 25 (by kernel_rfl)
        obtain ⟨hv26, hR26⟩ := hp 26 (by kernel_rfl)
        refine ls_fr (F := upd f' 56 (.bool false)) (fr_next (rfl) ((hf 24 56 (by kernel_rfl) rfl).trans hv24)) ?_
        refine ls_sub (s0) (sub_nil _) ?_
        refine ls_off (j := 24) (t := 56) (b := true) (c := false) rfl rfl (by kernel_rfl) (by kernel_rfl) rfl rfl (by kernel_rfl) ?_
        refine ls_val (v := .bool false) rfl rfl (by kernel_rfl) (fun w => by kernel_rfl) ?_
        refine ls_val (v := .bool false) rfl rfl (by kernel_rfl) (fun w => by kernel_rfl) ?_
        refine ls_off (j := 29) (t := 61) (b := true) (c := false) rfl rfl (by kernel_rfl) (by kernel_rfl) rfl rfl (by kernel_rfl) ?_
        refine ls_off (j := 29) (t := 61) (b := true) (c := false) rfl rfl (by kernel_rfl) (by kernel_rfl) rfl rfl (by kernel_rfl) ?_
        refine ls_off (j := 29) (t := 61) (b := true) (c := false) rfl rfl (by kernel_rfl) (by kernel_rfl) rfl rfl (by kernel_rfl) ?_
        refine ls_off (j := 29) (t := 61) (b := true) (c := false) rfl rfl (by kernel_rfl) (by kernel_rfl) rfl rfl (by kernel_rfl) ?_
        refine ls_val (v := .bool false) rfl rfl (by kernel_rfl) (fun w => by kernel_rfl) ?_
        refine ls_val (v := .bool false) rfl rfl (by kernel_rfl) (fun w => by kernel_rfl) ?_
        refine ls_end ?_
        refine qn_then ?_
        refine cs_ret' ?_
        obtain rfl := Option.some.inj H
        refine qr_end1 rfl (fun w' hs => ⟨(), rfl, ?_⟩)
        exact hs.sub (sub_nil _)

end Go.Proofs.Ytknjphpfofbdiaa.G
