/- Printed by a program of this session (sz.py): plain functions, and walks that show that the code comes to them; no condition. -/
import Derived.Test.YthhhkphbhlafbaaProg
import Derived.Test.YthhhkphbhlafbaaTy
import Derived.Test.YthhhkphbhlafbaaG0
set_option linter.unusedVariables false
set_option linter.unusedSimpArgs false
namespace Go.Proofs.Ythhhkphbhlafbaa.G
open Go Go.RowKit Go.Proofs.Ythhhkphbhlafbaa.Sx

/-! ### (shadowbox/record.Version).bare: function 50 -/
def record_Version_bare.f (k : Nat) (a0 : (Int × Int × Int × Int × ByteArray × ByteArray × (List (ByteArray × ByteArray)))) : Option (Bool) :=
  (if a0.2.2.1 = (0 : Int) then (if (a0.2.2.2.2.1.toList == (⟨#[]⟩ : ByteArray).toList) = true then (if (a0.2.2.2.2.2.1.toList == (⟨#[]⟩ : ByteArray).toList) = true then some (decide ((a0.2.2.2.2.2.2.length : Int) = (0 : Int))) else some false) else some false) else some false)
set_option maxRecDepth 100000 in
set_option maxHeartbeats 4000000 in
theorem record_Version_bare.calls (k : Nat) (A0_6 : Option Addr) (c0_6 : Nat) (a0 : (Int × Int × Int × Int × ByteArray × ByteArray × (List (ByteArray × ByteArray)))) (r : Bool) (b : Bs) (hs0 : St b (stl []) b.w) (R0_6 : Ro b A0_6 (em T67 a0.2.2.2.2.2.2)) (C0_6 : a0.2.2.2.2.2.2.length ≤ c0_6) (H : record_Version_bare.f k a0 = some r) :
    Calls Try.prog 50 #[.agg ⟨([Value.int .i64 a0.1] ++ ([Value.int .i64 a0.2.1] ++ ([Value.int .i64 a0.2.2.1] ++ ([Value.int .i64 a0.2.2.2.1] ++ ([Value.string a0.2.2.2.2.1] ++ ([Value.string a0.2.2.2.2.2.1] ++ [Value.slice A0_6 a0.2.2.2.2.2.2.length c0_6]))))))⟩] b.w fun e w' => ∃ x : Unit, e = .returned (.bool r) ∧ St b (stl []) w' := by
  unfold record_Version_bare.f at H
  refine enterb (n := 22) Try.func50 rfl (by kernel_rfl) (by kernel_rfl) hs0 ?_
  refine cs_sub (s0) (sub_nil _) ?_
  refine cs_seq ?_
  refine cs_region (l := [_, _]) ?_
  refine ls_new rfl rfl (by kernel_rfl) 0 (fun g => .pointer (some ⟨g, 0, none⟩)) (.cells ⟨([Value.int .i64 a0.1] ++ ([Value.int .i64 a0.2.1] ++ ([Value.int .i64 a0.2.2.1] ++ ([Value.int .i64 a0.2.2.2.1] ++ ([Value.string a0.2.2.2.2.1] ++ ([Value.string a0.2.2.2.2.2.1] ++ [Value.slice A0_6 a0.2.2.2.2.2.2.length c0_6]))))))⟩ 51) (fun w => by kernel_rfl) ?_
  intro g1
  refine lv (.bool false) ?_
  refine ls_end ?_
  refine qn_then ?_
  refine cs_seq ?_
  refine cs_region (l := [_, _, _, _, _, _, _, _, _, _, _, _, _, _, _, _, _, _, _, _]) ?_
  refine lv (.pointer (some ⟨g1, (0 + 2), none⟩)) ?_
  refine ls_load (a0 := ⟨g1, (0 + 2), none⟩) (v := .int .i64 a0.2.2.1) (de := (TypeDesc.int .i64)) rfl rfl (by kernel_rfl) rfl (by kernel_rfl) (by kernel_rfl) (by kernel_rfl) (fun w hs => (hs.var (k := 0) (by exact rfl) (Sub4.trans (Sub4.all _) (Sub4.skip (n := 1) (len1 _) (Sub4.skip (n := 1) (len1 _) (Sub4.head _ _)))))) ?_
  refine lv (.bool (decide (a0.2.2.1 = (0 : Int)))) ?_
  refine lv (.bool (decide (a0.2.2.1 = (0 : Int)))) ?_
  by_cases q2 : a0.2.2.1 = (0 : Int)
  · replace H := ite_t q2 H
    refine ls_know (c := true) (dec_t q2) 6 (by kernel_rfl) ?_
    refine ls_on (j := 3) (t := 6) (b := true) rfl rfl (by kernel_rfl) (by kernel_rfl) ?_
    refine lv (.pointer (some ⟨g1, (0 + 4), none⟩)) ?_
    refine ls_on (j := 3) (t := 6) (b := true) rfl rfl (by kernel_rfl) (by kernel_rfl) ?_
    refine ls_load (a0 := ⟨g1, (0 + 4), none⟩) (v := .string a0.2.2.2.2.1) (de := TypeDesc.string) rfl rfl (by kernel_rfl) rfl (by kernel_rfl) (by kernel_rfl) (by kernel_rfl) (fun w hs => (hs.var (k := 0) (by exact rfl) (Sub4.trans (Sub4.all _) (Sub4.skip (n := 1) (len1 _) (Sub4.skip (n := 1) (len1 _) (Sub4.skip (n := 1) (len1 _) (Sub4.skip (n := 1) (len1 _) (Sub4.head _ _)))))))) ?_
    refine ls_on (j := 3) (t := 6) (b := true) rfl rfl (by kernel_rfl) (by kernel_rfl) ?_
    refine lv (.bool (a0.2.2.2.2.1.toList == (⟨#[]⟩ : ByteArray).toList)) ?_
    refine lv (.bool (a0.2.2.2.2.1.toList == (⟨#[]⟩ : ByteArray).toList)) ?_
    refine lv (.bool (a0.2.2.2.2.1.toList == (⟨#[]⟩ : ByteArray).toList)) ?_
    by_cases q3 : (a0.2.2.2.2.1.toList == (⟨#[]⟩ : ByteArray).toList) = true
    · replace H := ite_t q3 H
      refine ls_know (c := true) (q3) 11 (by kernel_rfl) ?_
      refine ls_on (j := 8) (t := 11) (b := true) rfl rfl (by kernel_rfl) (by kernel_rfl) ?_
      refine lv (.pointer (some ⟨g1, (0 + 5), none⟩)) ?_
      refine ls_on (j := 8) (t := 11) (b := true) rfl rfl (by kernel_rfl) (by kernel_rfl) ?_
      refine ls_load (a0 := ⟨g1, (0 + 5), none⟩) (v := .string a0.2.2.2.2.2.1) (de := TypeDesc.string) rfl rfl (by kernel_rfl) rfl (by kernel_rfl) (by kernel_rfl) (by kernel_rfl) (fun w hs => (hs.var (k := 0) (by exact rfl) (Sub4.trans (Sub4.all _) (Sub4.skip (n := 1) (len1 _) (Sub4.skip (n := 1) (len1 _) (Sub4.skip (n := 1) (len1 _) (Sub4.skip (n := 1) (len1 _) (Sub4.skip (n := 1) (len1 _) (Sub4.head _ _))))))))) ?_
      refine ls_on (j := 8) (t := 11) (b := true) rfl rfl (by kernel_rfl) (by kernel_rfl) ?_
      refine lv (.bool (a0.2.2.2.2.2.1.toList == (⟨#[]⟩ : ByteArray).toList)) ?_
      refine lv (.bool (a0.2.2.2.2.2.1.toList == (⟨#[]⟩ : ByteArray).toList)) ?_
      refine lv (.bool (a0.2.2.2.2.2.1.toList == (⟨#[]⟩ : ByteArray).toList)) ?_
      by_cases q4 : (a0.2.2.2.2.2.1.toList == (⟨#[]⟩ : ByteArray).toList) = true
      · replace H := ite_t q4 H
        refine ls_know (c := true) (q4) 16 (by kernel_rfl) ?_
        refine ls_on (j := 13) (t := 16) (b := true) rfl rfl (by kernel_rfl) (by kernel_rfl) ?_
        refine lv (.pointer (some ⟨g1, (0 + 6), none⟩)) ?_
        refine ls_on (j := 13) (t := 16) (b := true) rfl rfl (by kernel_rfl) (by kernel_rfl) ?_
        refine ls_load (a0 := ⟨g1, (0 + 6), none⟩) (v := .slice A0_6 a0.2.2.2.2.2.2.length c0_6) (de := (TypeDesc.slice 67)) rfl rfl (by kernel_rfl) rfl (by kernel_rfl) (by kernel_rfl) (by kernel_rfl) (fun w hs => (hs.var (k := 0) (by exact rfl) (Sub4.trans (Sub4.all _) (Sub4.skip (n := 1) (len1 _) (Sub4.skip (n := 1) (len1 _) (Sub4.skip (n := 1) (len1 _) (Sub4.skip (n := 1) (len1 _) (Sub4.skip (n := 1) (len1 _) (Sub4.skip (n := 1) (len1 _) (Sub4.all _)))))))))) ?_
        refine ls_on (j := 13) (t := 16) (b := true) rfl rfl (by kernel_rfl) (by kernel_rfl) ?_
        refine lv (.int .i64 (a0.2.2.2.2.2.2.length : Int)) ?_
        refine ls_on (j := 13) (t := 16) (b := true) rfl rfl (by kernel_rfl) (by kernel_rfl) ?_
        refine lv (.bool (decide ((a0.2.2.2.2.2.2.length : Int) = (0 : Int)))) ?_
        refine lv (.bool (decide ((a0.2.2.2.2.2.2.length : Int) = (0 : Int)))) ?_
        refine lv (.bool (decide ((a0.2.2.2.2.2.2.length : Int) = (0 : Int)))) ?_
        refine ls_end ?_
        refine qn_then ?_
        refine cs_ret' ?_
        obtain rfl := Option.some.inj H
        refine qr_res (rs := [_]) rfl (fun w' hs => ⟨[.bool (decide ((a0.2.2.2.2.2.2.length : Int) = (0 : Int)))], (res_tmp (by kernel_rfl) (.nil)), (), rfl, hs.pick (ts := []) (cs := []) trivial (by decide)⟩)
      replace H := ite_f q4 H
      refine ls_know (c := false) (Bool.eq_false_iff.mpr q4) 16 (by kernel_rfl) ?_
      refine lofx 13 16 true false ?_
      refine lofx 13 16 true false ?_
      refine lofx 13 16 true false ?_
      refine lofx 13 16 true false ?_
      refine lv (.bool false) ?_
      refine lv (.bool false) ?_
      refine ls_end ?_
      refine qn_then ?_
      refine cs_ret' ?_
      obtain rfl := Option.some.inj H
      refine qr_res (rs := [_]) rfl (fun w' hs => ⟨[.bool false], (res_tmp (by kernel_rfl) (.nil)), (), rfl, hs.pick (ts := []) (cs := []) trivial (by decide)⟩)
    replace H := ite_f q3 H
    refine ls_know (c := false) (Bool.eq_false_iff.mpr q3) 11 (by kernel_rfl) ?_
    refine lofx 8 11 true false ?_
    refine lofx 8 11 true false ?_
    refine lofx 8 11 true false ?_
    refine lv (.bool false) ?_
    refine lv (.bool false) ?_
    refine lofx 13 16 true false ?_
    refine lofx 13 16 true false ?_
    refine lofx 13 16 true false ?_
    refine lofx 13 16 true false ?_
    refine lv (.bool false) ?_
    refine lv (.bool false) ?_
    refine ls_end ?_
    refine qn_then ?_
    refine cs_ret' ?_
    obtain rfl := Option.some.inj H
    refine qr_res (rs := [_]) rfl (fun w' hs => ⟨[.bool false], (res_tmp (by kernel_rfl) (.nil)), (), rfl, hs.pick (ts := []) (cs := []) trivial (by decide)⟩)
  replace H := ite_f q2 H
  refine ls_know (c := false) (dec_f q2) 6 (by kernel_rfl) ?_
  refine lofx 3 6 true false ?_
  refine lofx 3 6 true false ?_
  refine lofx 3 6 true false ?_
  refine lv (.bool false) ?_
  refine lv (.bool false) ?_
  refine lofx 8 11 true false ?_
  refine lofx 8 11 true false ?_
  refine lofx 8 11 true false ?_
  refine lv (.bool false) ?_
  refine lv (.bool false) ?_
  refine lofx 13 16 true false ?_
  refine lofx 13 16 true false ?_
  refine lofx 13 16 true false ?_
  refine lofx 13 16 true false ?_
  refine lv (.bool false) ?_
  refine lv (.bool false) ?_
  refine ls_end ?_
  refine qn_then ?_
  refine cs_ret' ?_
  obtain rfl := Option.some.inj H
  refine qr_res (rs := [_]) rfl (fun w' hs => ⟨[.bool false], (res_tmp (by kernel_rfl) (.nil)), (), rfl, hs.pick (ts := []) (cs := []) trivial (by decide)⟩)

/-! ### shadowbox/record.Right: function 25 -/
def record_Right.f (k : Nat) (a0 : (Int × Int × Int × Int × ByteArray × ByteArray × (List (ByteArray × ByteArray)))) : Option (Bool) :=
  (record_within.f k a0.1 (1 : Int) (1152921504606846976 : Int)).bind fun t2 => (if t2 = true then (record_within.f k a0.2.1 (1 : Int) (4 : Int)).bind fun t6 => (if t6 = true then (record_within.f k a0.2.2.1 (0 : Int) (65536 : Int)).bind fun t10 => (if t10 = true then (record_within.f k a0.2.2.2.1 (0 : Int) (1099511627776 : Int)).bind fun t14 => (if t14 = true then (record_text.f k a0.2.2.2.2.1 (60 : Int)).bind fun t18 => (if t18 = true then (record_text.f k a0.2.2.2.2.2.1 (60 : Int)).bind fun t22 => (if t22 = true then (record_words.f k a0.2.2.2.2.2.2).bind fun t26 => (if t26 = true then (if a0.2.1 = (1 : Int) then (record_Version_bytes.f k (a0.1, a0.2.1, a0.2.2.1, a0.2.2.2.1, a0.2.2.2.2.1, a0.2.2.2.2.2.1, a0.2.2.2.2.2.2)).bind fun t31 => some (decide ((t31.length : Int) ≤ (400 : Int))) else (if a0.2.1 = (3 : Int) then (record_Version_bytes.f k (a0.1, a0.2.1, a0.2.2.1, a0.2.2.2.1, a0.2.2.2.2.1, a0.2.2.2.2.2.1, a0.2.2.2.2.2.2)).bind fun t35 => some (decide ((t35.length : Int) ≤ (400 : Int))) else (record_Version_bare.f k (a0.1, a0.2.1, a0.2.2.1, a0.2.2.2.1, a0.2.2.2.2.1, a0.2.2.2.2.2.1, a0.2.2.2.2.2.2)).bind fun t38 => (if t38 = true then (record_Version_bytes.f k (a0.1, a0.2.1, a0.2.2.1, a0.2.2.2.1, a0.2.2.2.2.1, a0.2.2.2.2.2.1, a0.2.2.2.2.2.2)).bind fun t42 => some (decide ((t42.length : Int) ≤ (400 : Int))) else some false))) else some false) else some false) else some false) else some false) else some false) else some false) else some false)
set_option maxRecDepth 100000 in
set_option maxHeartbeats 4000000 in
theorem record_Right.calls (k : Nat) (A0_6 : Option Addr) (c0_6 : Nat) (a0 : (Int × Int × Int × Int × ByteArray × ByteArray × (List (ByteArray × ByteArray)))) (r : Bool) (b : Bs) (hs0 : St b (stl []) b.w) (R0_6 : Ro b A0_6 (em T67 a0.2.2.2.2.2.2)) (C0_6 : a0.2.2.2.2.2.2.length ≤ c0_6) (H : record_Right.f k a0 = some r) :
    Calls Try.prog 25 #[.agg ⟨([Value.int .i64 a0.1] ++ ([Value.int .i64 a0.2.1] ++ ([Value.int .i64 a0.2.2.1] ++ ([Value.int .i64 a0.2.2.2.1] ++ ([Value.string a0.2.2.2.2.1] ++ ([Value.string a0.2.2.2.2.2.1] ++ [Value.slice A0_6 a0.2.2.2.2.2.2.length c0_6]))))))⟩] b.w fun e w' => ∃ x : Unit, e = .returned (.bool r) ∧ St b (stl []) w' := by
  unfold record_Right.f at H
  refine enterb (n := 56) Try.func25 rfl (by kernel_rfl) (by kernel_rfl) hs0 ?_
  refine cs_sub (s0) (sub_nil _) ?_
  refine cs_seq ?_
  refine cs_region (l := [_, _]) ?_
  refine ls_new rfl rfl (by kernel_rfl) 0 (fun g => .pointer (some ⟨g, 0, none⟩)) (.cells ⟨([Value.int .i64 a0.1] ++ ([Value.int .i64 a0.2.1] ++ ([Value.int .i64 a0.2.2.1] ++ ([Value.int .i64 a0.2.2.2.1] ++ ([Value.string a0.2.2.2.2.1] ++ ([Value.string a0.2.2.2.2.2.1] ++ [Value.slice A0_6 a0.2.2.2.2.2.2.length c0_6]))))))⟩ 51) (fun w => by kernel_rfl) ?_
  intro g1
  refine lv (.bool false) ?_
  refine ls_end ?_
  refine qn_then ?_
  refine cs_seq ?_
  refine cs_region (l := [_, _, _, _, _, _, _, _, _, _, _, _, _, _, _, _, _, _, _, _, _, _, _, _, _, _, _, _, _, _, _, _, _, _, _, _, _, _, _, _, _, _, _, _, _, _, _, _, _, _, _, _, _, _]) ?_
  refine lv (.pointer (some ⟨g1, (0 + 0), none⟩)) ?_
  refine ls_load (a0 := ⟨g1, (0 + 0), none⟩) (v := .int .i64 a0.1) (de := (TypeDesc.int .i64)) rfl rfl (by kernel_rfl) rfl (by kernel_rfl) (by kernel_rfl) (by kernel_rfl) (fun w hs => (hs.var (k := 0) (by exact rfl) (Sub4.trans (Sub4.all _) (Sub4.head _ _)))) ?_
  obtain ⟨t2, hc3, H⟩ := bind_some H
  refine ls_callb (fid := 47) (vals := #[.int .i64 a0.1, .int .i64 (1 : Int), .int .i64 (1152921504606846976 : Int)]) (X := Unit) (fun x => .bool t2) (fun x => stl []) [] [] [] [] 1 rfl rfl (by kernel_rfl) (fun w => by kernel_rfl) trivial trivial (by decide) (fun w hs hb => record_within.calls k a0.1 (1 : Int) (1152921504606846976 : Int) t2 (lent b w [] []) hb  hc3) ?_
  intro x4
  refine lv (.bool t2) ?_
  by_cases q5 : t2 = true
  · replace H := ite_t q5 H
    refine ls_know (c := true) (q5) 6 (by kernel_rfl) ?_
    refine ls_on (j := 3) (t := 6) (b := true) rfl rfl (by kernel_rfl) (by kernel_rfl) ?_
    refine lv (.pointer (some ⟨g1, (0 + 1), none⟩)) ?_
    refine ls_on (j := 3) (t := 6) (b := true) rfl rfl (by kernel_rfl) (by kernel_rfl) ?_
    refine ls_load (a0 := ⟨g1, (0 + 1), none⟩) (v := .int .i64 a0.2.1) (de := (TypeDesc.int .i64)) rfl rfl (by kernel_rfl) rfl (by kernel_rfl) (by kernel_rfl) (by kernel_rfl) (fun w hs => (hs.var (k := 0) (by exact rfl) (Sub4.trans (Sub4.all _) (Sub4.skip (n := 1) (len1 _) (Sub4.head _ _))))) ?_
    refine ls_on (j := 3) (t := 6) (b := true) rfl rfl (by kernel_rfl) (by kernel_rfl) ?_
    obtain ⟨t6, hc7, H⟩ := bind_some H
    refine ls_callb (fid := 47) (vals := #[.int .i64 a0.2.1, .int .i64 (1 : Int), .int .i64 (4 : Int)]) (X := Unit) (fun x => .bool t6) (fun x => stl []) [] [] [] [] 1 rfl rfl (by kernel_rfl) (fun w => by kernel_rfl) trivial trivial (by decide) (fun w hs hb => record_within.calls k a0.2.1 (1 : Int) (4 : Int) t6 (lent b w [] []) hb  hc7) ?_
    intro x8
    refine lv (.bool t6) ?_
    refine lv (.bool t6) ?_
    by_cases q9 : t6 = true
    · replace H := ite_t q9 H
      refine ls_know (c := true) (q9) 11 (by kernel_rfl) ?_
      refine ls_on (j := 8) (t := 11) (b := true) rfl rfl (by kernel_rfl) (by kernel_rfl) ?_
      refine lv (.pointer (some ⟨g1, (0 + 2), none⟩)) ?_
      refine ls_on (j := 8) (t := 11) (b := true) rfl rfl (by kernel_rfl) (by kernel_rfl) ?_
      refine ls_load (a0 := ⟨g1, (0 + 2), none⟩) (v := .int .i64 a0.2.2.1) (de := (TypeDesc.int .i64)) rfl rfl (by kernel_rfl) rfl (by kernel_rfl) (by kernel_rfl) (by kernel_rfl) (fun w hs => (hs.var (k := 0) (by exact rfl) (Sub4.trans (Sub4.all _) (Sub4.skip (n := 1) (len1 _) (Sub4.skip (n := 1) (len1 _) (Sub4.head _ _)))))) ?_
      refine ls_on (j := 8) (t := 11) (b := true) rfl rfl (by kernel_rfl) (by kernel_rfl) ?_
      obtain ⟨t10, hc11, H⟩ := bind_some H
      refine ls_callb (fid := 47) (vals := #[.int .i64 a0.2.2.1, .int .i64 (0 : Int), .int .i64 (65536 : Int)]) (X := Unit) (fun x => .bool t10) (fun x => stl []) [] [] [] [] 1 rfl rfl (by kernel_rfl) (fun w => by kernel_rfl) trivial trivial (by decide) (fun w hs hb => record_within.calls k a0.2.2.1 (0 : Int) (65536 : Int) t10 (lent b w [] []) hb  hc11) ?_
      intro x12
      refine lv (.bool t10) ?_
      refine lv (.bool t10) ?_
      by_cases q13 : t10 = true
      · replace H := ite_t q13 H
        refine ls_know (c := true) (q13) 16 (by kernel_rfl) ?_
        refine ls_on (j := 13) (t := 16) (b := true) rfl rfl (by kernel_rfl) (by kernel_rfl) ?_
        refine lv (.pointer (some ⟨g1, (0 + 3), none⟩)) ?_
        refine ls_on (j := 13) (t := 16) (b := true) rfl rfl (by kernel_rfl) (by kernel_rfl) ?_
        refine ls_load (a0 := ⟨g1, (0 + 3), none⟩) (v := .int .i64 a0.2.2.2.1) (de := (TypeDesc.int .i64)) rfl rfl (by kernel_rfl) rfl (by kernel_rfl) (by kernel_rfl) (by kernel_rfl) (fun w hs => (hs.var (k := 0) (by exact rfl) (Sub4.trans (Sub4.all _) (Sub4.skip (n := 1) (len1 _) (Sub4.skip (n := 1) (len1 _) (Sub4.skip (n := 1) (len1 _) (Sub4.head _ _))))))) ?_
        refine ls_on (j := 13) (t := 16) (b := true) rfl rfl (by kernel_rfl) (by kernel_rfl) ?_
        obtain ⟨t14, hc15, H⟩ := bind_some H
        refine ls_callb (fid := 47) (vals := #[.int .i64 a0.2.2.2.1, .int .i64 (0 : Int), .int .i64 (1099511627776 : Int)]) (X := Unit) (fun x => .bool t14) (fun x => stl []) [] [] [] [] 1 rfl rfl (by kernel_rfl) (fun w => by kernel_rfl) trivial trivial (by decide) (fun w hs hb => record_within.calls k a0.2.2.2.1 (0 : Int) (1099511627776 : Int) t14 (lent b w [] []) hb  hc15) ?_
        intro x16
        refine lv (.bool t14) ?_
        refine lv (.bool t14) ?_
        by_cases q17 : t14 = true
        · replace H := ite_t q17 H
          refine ls_know (c := true) (q17) 21 (by kernel_rfl) ?_
          refine ls_on (j := 18) (t := 21) (b := true) rfl rfl (by kernel_rfl) (by kernel_rfl) ?_
          refine lv (.pointer (some ⟨g1, (0 + 4), none⟩)) ?_
          refine ls_on (j := 18) (t := 21) (b := true) rfl rfl (by kernel_rfl) (by kernel_rfl) ?_
          refine ls_load (a0 := ⟨g1, (0 + 4), none⟩) (v := .string a0.2.2.2.2.1) (de := TypeDesc.string) rfl rfl (by kernel_rfl) rfl (by kernel_rfl) (by kernel_rfl) (by kernel_rfl) (fun w hs => (hs.var (k := 0) (by exact rfl) (Sub4.trans (Sub4.all _) (Sub4.skip (n := 1) (len1 _) (Sub4.skip (n := 1) (len1 _) (Sub4.skip (n := 1) (len1 _) (Sub4.skip (n := 1) (len1 _) (Sub4.head _ _)))))))) ?_
          refine ls_on (j := 18) (t := 21) (b := true) rfl rfl (by kernel_rfl) (by kernel_rfl) ?_
          obtain ⟨t18, hc19, H⟩ := bind_some H
          refine ls_callb (fid := 48) (vals := #[.string a0.2.2.2.2.1, .int .i64 (60 : Int)]) (X := Unit) (fun x => .bool t18) (fun x => stl []) [] [] [] [] 1 rfl rfl (by kernel_rfl) (fun w => by kernel_rfl) trivial trivial (by decide) (fun w hs hb => record_text.calls k a0.2.2.2.2.1 (60 : Int) t18 (lent b w [] []) hb  hc19) ?_
          intro x20
          refine lv (.bool t18) ?_
          refine lv (.bool t18) ?_
          by_cases q21 : t18 = true
          · replace H := ite_t q21 H
            refine ls_know (c := true) (q21) 26 (by kernel_rfl) ?_
            refine ls_on (j := 23) (t := 26) (b := true) rfl rfl (by kernel_rfl) (by kernel_rfl) ?_
            refine lv (.pointer (some ⟨g1, (0 + 5), none⟩)) ?_
            refine ls_on (j := 23) (t := 26) (b := true) rfl rfl (by kernel_rfl) (by kernel_rfl) ?_
            refine ls_load (a0 := ⟨g1, (0 + 5), none⟩) (v := .string a0.2.2.2.2.2.1) (de := TypeDesc.string) rfl rfl (by kernel_rfl) rfl (by kernel_rfl) (by kernel_rfl) (by kernel_rfl) (fun w hs => (hs.var (k := 0) (by exact rfl) (Sub4.trans (Sub4.all _) (Sub4.skip (n := 1) (len1 _) (Sub4.skip (n := 1) (len1 _) (Sub4.skip (n := 1) (len1 _) (Sub4.skip (n := 1) (len1 _) (Sub4.skip (n := 1) (len1 _) (Sub4.head _ _))))))))) ?_
            refine ls_on (j := 23) (t := 26) (b := true) rfl rfl (by kernel_rfl) (by kernel_rfl) ?_
            obtain ⟨t22, hc23, H⟩ := bind_some H
            refine ls_callb (fid := 48) (vals := #[.string a0.2.2.2.2.2.1, .int .i64 (60 : Int)]) (X := Unit) (fun x => .bool t22) (fun x => stl []) [] [] [] [] 1 rfl rfl (by kernel_rfl) (fun w => by kernel_rfl) trivial trivial (by decide) (fun w hs hb => record_text.calls k a0.2.2.2.2.2.1 (60 : Int) t22 (lent b w [] []) hb  hc23) ?_
            intro x24
            refine lv (.bool t22) ?_
            refine lv (.bool t22) ?_
            by_cases q25 : t22 = true
            · replace H := ite_t q25 H
              refine ls_know (c := true) (q25) 31 (by kernel_rfl) ?_
              refine ls_on (j := 28) (t := 31) (b := true) rfl rfl (by kernel_rfl) (by kernel_rfl) ?_
              refine lv (.pointer (some ⟨g1, (0 + 6), none⟩)) ?_
              refine ls_on (j := 28) (t := 31) (b := true) rfl rfl (by kernel_rfl) (by kernel_rfl) ?_
              refine ls_load (a0 := ⟨g1, (0 + 6), none⟩) (v := .slice A0_6 a0.2.2.2.2.2.2.length c0_6) (de := (TypeDesc.slice 67)) rfl rfl (by kernel_rfl) rfl (by kernel_rfl) (by kernel_rfl) (by kernel_rfl) (fun w hs => (hs.var (k := 0) (by exact rfl) (Sub4.trans (Sub4.all _) (Sub4.skip (n := 1) (len1 _) (Sub4.skip (n := 1) (len1 _) (Sub4.skip (n := 1) (len1 _) (Sub4.skip (n := 1) (len1 _) (Sub4.skip (n := 1) (len1 _) (Sub4.skip (n := 1) (len1 _) (Sub4.all _)))))))))) ?_
              refine ls_on (j := 28) (t := 31) (b := true) rfl rfl (by kernel_rfl) (by kernel_rfl) ?_
              obtain ⟨t26, hc27, H⟩ := bind_some H
              refine ls_callb (fid := 49) (vals := #[.slice A0_6 a0.2.2.2.2.2.2.length c0_6]) (X := Unit) (fun x => .bool t26) (fun x => stl []) [] [] [] [] 1 rfl rfl (by kernel_rfl) (fun w => by kernel_rfl) trivial trivial (by decide) (fun w hs hb => record_words.calls k A0_6 c0_6 a0.2.2.2.2.2.2 t26 (lent b w [] []) hb (hs.ro R0_6 _ _) C0_6 hc27) ?_
              intro x28
              refine lv (.bool t26) ?_
              refine lv (.bool t26) ?_
              by_cases q29 : t26 = true
              · replace H := ite_t q29 H
                refine ls_know (c := true) (q29) 36 (by kernel_rfl) ?_
                refine ls_on (j := 33) (t := 36) (b := true) rfl rfl (by kernel_rfl) (by kernel_rfl) ?_
                refine lv (.pointer (some ⟨g1, (0 + 1), none⟩)) ?_
                refine ls_on (j := 33) (t := 36) (b := true) rfl rfl (by kernel_rfl) (by kernel_rfl) ?_
                refine ls_load (a0 := ⟨g1, (0 + 1), none⟩) (v := .int .i64 a0.2.1) (de := (TypeDesc.int .i64)) rfl rfl (by kernel_rfl) rfl (by kernel_rfl) (by kernel_rfl) (by kernel_rfl) (fun w hs => (hs.var (k := 0) (by exact rfl) (Sub4.trans (Sub4.all _) (Sub4.skip (n := 1) (len1 _) (Sub4.head _ _))))) ?_
                refine ls_on (j := 33) (t := 36) (b := true) rfl rfl (by kernel_rfl) (by kernel_rfl) ?_
                refine lv (.bool (decide (a0.2.1 = (1 : Int)))) ?_
                refine ls_on (j := 33) (t := 36) (b := true) rfl rfl (by kernel_rfl) (by kernel_rfl) ?_
                refine lv (.bool (decide (a0.2.1 = (1 : Int)))) ?_
                by_cases q30 : a0.2.1 = (1 : Int)
                · replace H := ite_t q30 H
                  refine ls_know (c := true) (dec_t q30) 40 (by kernel_rfl) ?_
                  refine lofx 37 40 false true ?_
                  refine lofx 37 40 false true ?_
                  refine lofx 37 40 false true ?_
                  refine ls_on (j := 33) (t := 36) (b := true) rfl rfl (by kernel_rfl) (by kernel_rfl) ?_
                  refine lv (.bool true) ?_
                  refine ls_on (j := 33) (t := 36) (b := true) rfl rfl (by kernel_rfl) (by kernel_rfl) ?_
                  refine lv (.bool true) ?_
                  refine lofx 42 45 false true ?_
                  refine lofx 42 45 false true ?_
                  refine ls_on (j := 33) (t := 36) (b := true) rfl rfl (by kernel_rfl) (by kernel_rfl) ?_
                  refine lv (.bool true) ?_
                  refine lv (.bool true) ?_
                  refine lv (.bool true) ?_
                  refine ls_on (j := 47) (t := 50) (b := true) rfl rfl (by kernel_rfl) (by kernel_rfl) ?_
                  refine ls_loadagg (a := ⟨g1, 0, none⟩) (sub := ([Value.int .i64 a0.1] ++ ([Value.int .i64 a0.2.1] ++ ([Value.int .i64 a0.2.2.1] ++ ([Value.int .i64 a0.2.2.2.1] ++ ([Value.string a0.2.2.2.2.1] ++ ([Value.string a0.2.2.2.2.2.1] ++ [Value.slice A0_6 a0.2.2.2.2.2.2.length c0_6]))))))) rfl rfl (by kernel_rfl) rfl (by kernel_rfl) (by kernel_rfl) (by kernel_rfl) (len_app (len1 _) (len_app (len1 _) (len_app (len1 _) (len_app (len1 _) (len_app (len1 _) (len_app (len1 _) (len1 _))))))) (fun w hs => (hs.vars (k := 0) (by exact rfl) (Sub4.all _))) ?_
                  refine ls_on (j := 47) (t := 50) (b := true) rfl rfl (by kernel_rfl) (by kernel_rfl) ?_
                  obtain ⟨t31, hc32, H⟩ := bind_some H
                  refine ls_callb (fid := 41) (vals := #[.agg ⟨([Value.int .i64 a0.1] ++ ([Value.int .i64 a0.2.1] ++ ([Value.int .i64 a0.2.2.1] ++ ([Value.int .i64 a0.2.2.2.1] ++ ([Value.string a0.2.2.2.2.1] ++ ([Value.string a0.2.2.2.2.2.1] ++ [Value.slice A0_6 a0.2.2.2.2.2.2.length c0_6]))))))⟩]) (X := (Option Addr × Nat)) (fun x => .slice x.1 t31.length x.2) (fun x => stl [Ck.ro (Ec.int 5 .u8) x.1 x.2 t31]) [] [] [] [] 1 rfl rfl (by kernel_rfl) (fun w => by kernel_rfl) trivial trivial (by decide) (fun w hs hb => record_Version_bytes.calls k A0_6 c0_6 (a0.1, a0.2.1, a0.2.2.1, a0.2.2.2.1, a0.2.2.2.2.1, a0.2.2.2.2.2.1, a0.2.2.2.2.2.2) t31 (lent b w [] []) hb (hs.ro R0_6 _ _) C0_6 hc32) ?_
                  intro x33
                  refine ls_on (j := 47) (t := 50) (b := true) rfl rfl (by kernel_rfl) (by kernel_rfl) ?_
                  refine lv (.int .i64 (t31.length : Int)) ?_
                  refine ls_on (j := 47) (t := 50) (b := true) rfl rfl (by kernel_rfl) (by kernel_rfl) ?_
                  refine lv (.bool (decide ((t31.length : Int) ≤ (400 : Int)))) ?_
                  refine lv (.bool (decide ((t31.length : Int) ≤ (400 : Int)))) ?_
                  refine lv (.bool (decide ((t31.length : Int) ≤ (400 : Int)))) ?_
                  refine ls_end ?_
                  refine qn_then ?_
                  refine cs_ret' ?_
                  obtain rfl := Option.some.inj H
                  refine qr_res (rs := [_]) rfl (fun w' hs => ⟨[.bool (decide ((t31.length : Int) ≤ (400 : Int)))], (res_tmp (by kernel_rfl) (.nil)), (), rfl, hs.pick (ts := []) (cs := []) trivial (by decide)⟩)
                replace H := ite_f q30 H
                refine ls_know (c := false) (dec_f q30) 40 (by kernel_rfl) ?_
                refine ls_on (j := 37) (t := 40) (b := false) rfl rfl (by kernel_rfl) (by kernel_rfl) ?_
                refine lv (.pointer (some ⟨g1, (0 + 1), none⟩)) ?_
                refine ls_on (j := 37) (t := 40) (b := false) rfl rfl (by kernel_rfl) (by kernel_rfl) ?_
                refine ls_load (a0 := ⟨g1, (0 + 1), none⟩) (v := .int .i64 a0.2.1) (de := (TypeDesc.int .i64)) rfl rfl (by kernel_rfl) rfl (by kernel_rfl) (by kernel_rfl) (by kernel_rfl) (fun w hs => (hs.var (k := 0) (by exact rfl) (Sub4.trans (Sub4.all _) (Sub4.skip (n := 1) (len1 _) (Sub4.head _ _))))) ?_
                refine ls_on (j := 37) (t := 40) (b := false) rfl rfl (by kernel_rfl) (by kernel_rfl) ?_
                refine lv (.bool (decide (a0.2.1 = (3 : Int)))) ?_
                refine ls_on (j := 33) (t := 36) (b := true) rfl rfl (by kernel_rfl) (by kernel_rfl) ?_
                refine lv (.bool (decide (a0.2.1 = (3 : Int)))) ?_
                refine ls_on (j := 33) (t := 36) (b := true) rfl rfl (by kernel_rfl) (by kernel_rfl) ?_
                refine lv (.bool (decide (a0.2.1 = (3 : Int)))) ?_
                by_cases q34 : a0.2.1 = (3 : Int)
                · replace H := ite_t q34 H
                  refine ls_know (c := true) (dec_t q34) 45 (by kernel_rfl) ?_
                  refine lofx 42 45 false true ?_
                  refine lofx 42 45 false true ?_
                  refine ls_on (j := 33) (t := 36) (b := true) rfl rfl (by kernel_rfl) (by kernel_rfl) ?_
                  refine lv (.bool true) ?_
                  refine lv (.bool true) ?_
                  refine lv (.bool true) ?_
                  refine ls_on (j := 47) (t := 50) (b := true) rfl rfl (by kernel_rfl) (by kernel_rfl) ?_
                  refine ls_loadagg (a := ⟨g1, 0, none⟩) (sub := ([Value.int .i64 a0.1] ++ ([Value.int .i64 a0.2.1] ++ ([Value.int .i64 a0.2.2.1] ++ ([Value.int .i64 a0.2.2.2.1] ++ ([Value.string a0.2.2.2.2.1] ++ ([Value.string a0.2.2.2.2.2.1] ++ [Value.slice A0_6 a0.2.2.2.2.2.2.length c0_6]))))))) rfl rfl (by kernel_rfl) rfl (by kernel_rfl) (by kernel_rfl) (by kernel_rfl) (len_app (len1 _) (len_app (len1 _) (len_app (len1 _) (len_app (len1 _) (len_app (len1 _) (len_app (len1 _) (len1 _))))))) (fun w hs => (hs.vars (k := 0) (by exact rfl) (Sub4.all _))) ?_
                  refine ls_on (j := 47) (t := 50) (b := true) rfl rfl (by kernel_rfl) (by kernel_rfl) ?_
                  obtain ⟨t35, hc36, H⟩ := bind_some H
                  refine ls_callb (fid := 41) (vals := #[.agg ⟨([Value.int .i64 a0.1] ++ ([Value.int .i64 a0.2.1] ++ ([Value.int .i64 a0.2.2.1] ++ ([Value.int .i64 a0.2.2.2.1] ++ ([Value.string a0.2.2.2.2.1] ++ ([Value.string a0.2.2.2.2.2.1] ++ [Value.slice A0_6 a0.2.2.2.2.2.2.length c0_6]))))))⟩]) (X := (Option Addr × Nat)) (fun x => .slice x.1 t35.length x.2) (fun x => stl [Ck.ro (Ec.int 5 .u8) x.1 x.2 t35]) [] [] [] [] 1 rfl rfl (by kernel_rfl) (fun w => by kernel_rfl) trivial trivial (by decide) (fun w hs hb => record_Version_bytes.calls k A0_6 c0_6 (a0.1, a0.2.1, a0.2.2.1, a0.2.2.2.1, a0.2.2.2.2.1, a0.2.2.2.2.2.1, a0.2.2.2.2.2.2) t35 (lent b w [] []) hb (hs.ro R0_6 _ _) C0_6 hc36) ?_
                  intro x37
                  refine ls_on (j := 47) (t := 50) (b := true) rfl rfl (by kernel_rfl) (by kernel_rfl) ?_
                  refine lv (.int .i64 (t35.length : Int)) ?_
                  refine ls_on (j := 47) (t := 50) (b := true) rfl rfl (by kernel_rfl) (by kernel_rfl) ?_
                  refine lv (.bool (decide ((t35.length : Int) ≤ (400 : Int)))) ?_
                  refine lv (.bool (decide ((t35.length : Int) ≤ (400 : Int)))) ?_
                  refine lv (.bool (decide ((t35.length : Int) ≤ (400 : Int)))) ?_
                  refine ls_end ?_
                  refine qn_then ?_
                  refine cs_ret' ?_
                  obtain rfl := Option.some.inj H
                  refine qr_res (rs := [_]) rfl (fun w' hs => ⟨[.bool (decide ((t35.length : Int) ≤ (400 : Int)))], (res_tmp (by kernel_rfl) (.nil)), (), rfl, hs.pick (ts := []) (cs := []) trivial (by decide)⟩)
                replace H := ite_f q34 H
                refine ls_know (c := false) (dec_f q34) 45 (by kernel_rfl) ?_
                refine ls_on (j := 42) (t := 45) (b := false) rfl rfl (by kernel_rfl) (by kernel_rfl) ?_
                refine ls_loadagg (a := ⟨g1, 0, none⟩) (sub := ([Value.int .i64 a0.1] ++ ([Value.int .i64 a0.2.1] ++ ([Value.int .i64 a0.2.2.1] ++ ([Value.int .i64 a0.2.2.2.1] ++ ([Value.string a0.2.2.2.2.1] ++ ([Value.string a0.2.2.2.2.2.1] ++ [Value.slice A0_6 a0.2.2.2.2.2.2.length c0_6]))))))) rfl rfl (by kernel_rfl) rfl (by kernel_rfl) (by kernel_rfl) (by kernel_rfl) (len_app (len1 _) (len_app (len1 _) (len_app (len1 _) (len_app (len1 _) (len_app (len1 _) (len_app (len1 _) (len1 _))))))) (fun w hs => (hs.vars (k := 0) (by exact rfl) (Sub4.all _))) ?_
                refine ls_on (j := 42) (t := 45) (b := false) rfl rfl (by kernel_rfl) (by kernel_rfl) ?_
                obtain ⟨t38, hc39, H⟩ := bind_some H
                refine ls_callb (fid := 50) (vals := #[.agg ⟨([Value.int .i64 a0.1] ++ ([Value.int .i64 a0.2.1] ++ ([Value.int .i64 a0.2.2.1] ++ ([Value.int .i64 a0.2.2.2.1] ++ ([Value.string a0.2.2.2.2.1] ++ ([Value.string a0.2.2.2.2.2.1] ++ [Value.slice A0_6 a0.2.2.2.2.2.2.length c0_6]))))))⟩]) (X := Unit) (fun x => .bool t38) (fun x => stl []) [] [] [] [] 1 rfl rfl (by kernel_rfl) (fun w => by kernel_rfl) trivial trivial (by decide) (fun w hs hb => record_Version_bare.calls k A0_6 c0_6 (a0.1, a0.2.1, a0.2.2.1, a0.2.2.2.1, a0.2.2.2.2.1, a0.2.2.2.2.2.1, a0.2.2.2.2.2.2) t38 (lent b w [] []) hb (hs.ro R0_6 _ _) C0_6 hc39) ?_
                intro x40
                refine ls_on (j := 33) (t := 36) (b := true) rfl rfl (by kernel_rfl) (by kernel_rfl) ?_
                refine lv (.bool t38) ?_
                refine lv (.bool t38) ?_
                refine lv (.bool t38) ?_
                by_cases q41 : t38 = true
                · replace H := ite_t q41 H
                  refine ls_know (c := true) (q41) 50 (by kernel_rfl) ?_
                  refine ls_on (j := 47) (t := 50) (b := true) rfl rfl (by kernel_rfl) (by kernel_rfl) ?_
                  refine ls_loadagg (a := ⟨g1, 0, none⟩) (sub := ([Value.int .i64 a0.1] ++ ([Value.int .i64 a0.2.1] ++ ([Value.int .i64 a0.2.2.1] ++ ([Value.int .i64 a0.2.2.2.1] ++ ([Value.string a0.2.2.2.2.1] ++ ([Value.string a0.2.2.2.2.2.1] ++ [Value.slice A0_6 a0.2.2.2.2.2.2.length c0_6]))))))) rfl rfl (by kernel_rfl) rfl (by kernel_rfl) (by kernel_rfl) (by kernel_rfl) (len_app (len1 _) (len_app (len1 _) (len_app (len1 _) (len_app (len1 _) (len_app (len1 _) (len_app (len1 _) (len1 _))))))) (fun w hs => (hs.vars (k := 0) (by exact rfl) (Sub4.all _))) ?_
                  refine ls_on (j := 47) (t := 50) (b := true) rfl rfl (by kernel_rfl) (by kernel_rfl) ?_
                  obtain ⟨t42, hc43, H⟩ := bind_some H
                  refine ls_callb (fid := 41) (vals := #[.agg ⟨([Value.int .i64 a0.1] ++ ([Value.int .i64 a0.2.1] ++ ([Value.int .i64 a0.2.2.1] ++ ([Value.int .i64 a0.2.2.2.1] ++ ([Value.string a0.2.2.2.2.1] ++ ([Value.string a0.2.2.2.2.2.1] ++ [Value.slice A0_6 a0.2.2.2.2.2.2.length c0_6]))))))⟩]) (X := (Option Addr × Nat)) (fun x => .slice x.1 t42.length x.2) (fun x => stl [Ck.ro (Ec.int 5 .u8) x.1 x.2 t42]) [] [] [] [] 1 rfl rfl (by kernel_rfl) (fun w => by kernel_rfl) trivial trivial (by decide) (fun w hs hb => record_Version_bytes.calls k A0_6 c0_6 (a0.1, a0.2.1, a0.2.2.1, a0.2.2.2.1, a0.2.2.2.2.1, a0.2.2.2.2.2.1, a0.2.2.2.2.2.2) t42 (lent b w [] []) hb (hs.ro R0_6 _ _) C0_6 hc43) ?_
                  intro x44
                  refine ls_on (j := 47) (t := 50) (b := true) rfl rfl (by kernel_rfl) (by kernel_rfl) ?_
                  refine lv (.int .i64 (t42.length : Int)) ?_
                  refine ls_on (j := 47) (t := 50) (b := true) rfl rfl (by kernel_rfl) (by kernel_rfl) ?_
                  refine lv (.bool (decide ((t42.length : Int) ≤ (400 : Int)))) ?_
                  refine lv (.bool (decide ((t42.length : Int) ≤ (400 : Int)))) ?_
                  refine lv (.bool (decide ((t42.length : Int) ≤ (400 : Int)))) ?_
                  refine ls_end ?_
                  refine qn_then ?_
                  refine cs_ret' ?_
                  obtain rfl := Option.some.inj H
                  refine qr_res (rs := [_]) rfl (fun w' hs => ⟨[.bool (decide ((t42.length : Int) ≤ (400 : Int)))], (res_tmp (by kernel_rfl) (.nil)), (), rfl, hs.pick (ts := []) (cs := []) trivial (by decide)⟩)
                replace H := ite_f q41 H
                refine ls_know (c := false) (Bool.eq_false_iff.mpr q41) 50 (by kernel_rfl) ?_
                refine lofx 47 50 true false ?_
                refine lofx 47 50 true false ?_
                refine lofx 47 50 true false ?_
                refine lofx 47 50 true false ?_
                refine lv (.bool false) ?_
                refine lv (.bool false) ?_
                refine ls_end ?_
                refine qn_then ?_
                refine cs_ret' ?_
                obtain rfl := Option.some.inj H
                refine qr_res (rs := [_]) rfl (fun w' hs => ⟨[.bool false], (res_tmp (by kernel_rfl) (.nil)), (), rfl, hs.pick (ts := []) (cs := []) trivial (by decide)⟩)
              replace H := ite_f q29 H
              refine ls_know (c := false) (Bool.eq_false_iff.mpr q29) 36 (by kernel_rfl) ?_
              refine lofx 33 36 true false ?_
              refine lofx 33 36 true false ?_
              refine lofx 33 36 true false ?_
              refine lofx 33 36 true false ?_
              refine ls_offu (j := 37) (t := 40) (b := false) rfl rfl (by kernel_rfl) (by kernel_rfl) rfl (by kernel_rfl) ?_
              refine ls_offu (j := 37) (t := 40) (b := false) rfl rfl (by kernel_rfl) (by kernel_rfl) rfl (by kernel_rfl) ?_
              refine ls_offu (j := 37) (t := 40) (b := false) rfl rfl (by kernel_rfl) (by kernel_rfl) rfl (by kernel_rfl) ?_
              refine lofx 33 36 true false ?_
              refine lofx 33 36 true false ?_
              refine ls_offu (j := 42) (t := 45) (b := false) rfl rfl (by kernel_rfl) (by kernel_rfl) rfl (by kernel_rfl) ?_
              refine ls_offu (j := 42) (t := 45) (b := false) rfl rfl (by kernel_rfl) (by kernel_rfl) rfl (by kernel_rfl) ?_
              refine lofx 33 36 true false ?_
              refine lv (.bool false) ?_
              refine lv (.bool false) ?_
              refine lofx 47 50 true false ?_
              refine lofx 47 50 true false ?_
              refine lofx 47 50 true false ?_
              refine lofx 47 50 true false ?_
              refine lv (.bool false) ?_
              refine lv (.bool false) ?_
              refine ls_end ?_
              refine qn_then ?_
              refine cs_ret' ?_
              obtain rfl := Option.some.inj H
              refine qr_res (rs := [_]) rfl (fun w' hs => ⟨[.bool false], (res_tmp (by kernel_rfl) (.nil)), (), rfl, hs.pick (ts := []) (cs := []) trivial (by decide)⟩)
            replace H := ite_f q25 H
            refine ls_know (c := false) (Bool.eq_false_iff.mpr q25) 31 (by kernel_rfl) ?_
            refine lofx 28 31 true false ?_
            refine lofx 28 31 true false ?_
            refine lofx 28 31 true false ?_
            refine lv (.bool false) ?_
            refine lv (.bool false) ?_
            refine lofx 33 36 true false ?_
            refine lofx 33 36 true false ?_
            refine lofx 33 36 true false ?_
            refine lofx 33 36 true false ?_
            refine ls_offu (j := 37) (t := 40) (b := false) rfl rfl (by kernel_rfl) (by kernel_rfl) rfl (by kernel_rfl) ?_
            refine ls_offu (j := 37) (t := 40) (b := false) rfl rfl (by kernel_rfl) (by kernel_rfl) rfl (by kernel_rfl) ?_
            refine ls_offu (j := 37) (t := 40) (b := false) rfl rfl (by kernel_rfl) (by kernel_rfl) rfl (by kernel_rfl) ?_
            refine lofx 33 36 true false ?_
            refine lofx 33 36 true false ?_
            refine ls_offu (j := 42) (t := 45) (b := false) rfl rfl (by kernel_rfl) (by kernel_rfl) rfl (by kernel_rfl) ?_
            refine ls_offu (j := 42) (t := 45) (b := false) rfl rfl (by kernel_rfl) (by kernel_rfl) rfl (by kernel_rfl) ?_
            refine lofx 33 36 true false ?_
            refine lv (.bool false) ?_
            refine lv (.bool false) ?_
            refine lofx 47 50 true false ?_
            refine lofx 47 50 true false ?_
            refine lofx 47 50 true false ?_
            refine lofx 47 50 true false ?_
            refine lv (.bool false) ?_
            refine lv (.bool false) ?_
            refine ls_end ?_
            refine qn_then ?_
            refine cs_ret' ?_
            obtain rfl := Option.some.inj H
            refine qr_res (rs := [_]) rfl (fun w' hs => ⟨[.bool false], (res_tmp (by kernel_rfl) (.nil)), (), rfl, hs.pick (ts := []) (cs := []) trivial (by decide)⟩)
          replace H := ite_f q21 H
          refine ls_know (c := false) (Bool.eq_false_iff.mpr q21) 26 (by kernel_rfl) ?_
          refine lofx 23 26 true false ?_
          refine lofx 23 26 true false ?_
          refine lofx 23 26 true false ?_
          refine lv (.bool false) ?_
          refine lv (.bool false) ?_
          refine lofx 28 31 true false ?_
          refine lofx 28 31 true false ?_
          refine lofx 28 31 true false ?_
          refine lv (.bool false) ?_
          refine lv (.bool false) ?_
          refine lofx 33 36 true false ?_
          refine lofx 33 36 true false ?_
          refine lofx 33 36 true false ?_
          refine lofx 33 36 true false ?_
          refine ls_offu (j := 37) (t := 40) (b := false) rfl rfl (by kernel_rfl) (by kernel_rfl) rfl (by kernel_rfl) ?_
          refine ls_offu (j := 37) (t := 40) (b := false) rfl rfl (by kernel_rfl) (by kernel_rfl) rfl (by kernel_rfl) ?_
          refine ls_offu (j := 37) (t := 40) (b := false) rfl rfl (by kernel_rfl) (by kernel_rfl) rfl (by kernel_rfl) ?_
          refine lofx 33 36 true false ?_
          refine lofx 33 36 true false ?_
          refine ls_offu (j := 42) (t := 45) (b := false) rfl rfl (by kernel_rfl) (by kernel_rfl) rfl (by kernel_rfl) ?_
          refine ls_offu (j := 42) (t := 45) (b := false) rfl rfl (by kernel_rfl) (by kernel_rfl) rfl (by kernel_rfl) ?_
          refine lofx 33 36 true false ?_
          refine lv (.bool false) ?_
          refine lv (.bool false) ?_
          refine lofx 47 50 true false ?_
          refine lofx 47 50 true false ?_
          refine lofx 47 50 true false ?_
          refine lofx 47 50 true false ?_
          refine lv (.bool false) ?_
          refine lv (.bool false) ?_
          refine ls_end ?_
          refine qn_then ?_
          refine cs_ret' ?_
          obtain rfl := Option.some.inj H
          refine qr_res (rs := [_]) rfl (fun w' hs => ⟨[.bool false], (res_tmp (by kernel_rfl) (.nil)), (), rfl, hs.pick (ts := []) (cs := []) trivial (by decide)⟩)
        replace H := ite_f q17 H
        refine ls_know (c := false) (Bool.eq_false_iff.mpr q17) 21 (by kernel_rfl) ?_
        refine lofx 18 21 true false ?_
        refine lofx 18 21 true false ?_
        refine lofx 18 21 true false ?_
        refine lv (.bool false) ?_
        refine lv (.bool false) ?_
        refine lofx 23 26 true false ?_
        refine lofx 23 26 true false ?_
        refine lofx 23 26 true false ?_
        refine lv (.bool false) ?_
        refine lv (.bool false) ?_
        refine lofx 28 31 true false ?_
        refine lofx 28 31 true false ?_
        refine lofx 28 31 true false ?_
        refine lv (.bool false) ?_
        refine lv (.bool false) ?_
        refine lofx 33 36 true false ?_
        refine lofx 33 36 true false ?_
        refine lofx 33 36 true false ?_
        refine lofx 33 36 true false ?_
        refine ls_offu (j := 37) (t := 40) (b := false) rfl rfl (by kernel_rfl) (by kernel_rfl) rfl (by kernel_rfl) ?_
        refine ls_offu (j := 37) (t := 40) (b := false) rfl rfl (by kernel_rfl) (by kernel_rfl) rfl (by kernel_rfl) ?_
        refine ls_offu (j := 37) (t := 40) (b := false) rfl rfl (by kernel_rfl) (by kernel_rfl) rfl (by kernel_rfl) ?_
        refine lofx 33 36 true false ?_
        refine lofx 33 36 true false ?_
        refine ls_offu (j := 42) (t := 45) (b := false) rfl rfl (by kernel_rfl) (by kernel_rfl) rfl (by kernel_rfl) ?_
        refine ls_offu (j := 42) (t := 45) (b := false) rfl rfl (by kernel_rfl) (by kernel_rfl) rfl (by kernel_rfl) ?_
        refine lofx 33 36 true false ?_
        refine lv (.bool false) ?_
        refine lv (.bool false) ?_
        refine lofx 47 50 true false ?_
        refine lofx 47 50 true false ?_
        refine lofx 47 50 true false ?_
        refine lofx 47 50 true false ?_
        refine lv (.bool false) ?_
        refine lv (.bool false) ?_
        refine ls_end ?_
        refine qn_then ?_
        refine cs_ret' ?_
        obtain rfl := Option.some.inj H
        refine qr_res (rs := [_]) rfl (fun w' hs => ⟨[.bool false], (res_tmp (by kernel_rfl) (.nil)), (), rfl, hs.pick (ts := []) (cs := []) trivial (by decide)⟩)
      replace H := ite_f q13 H
      refine ls_know (c := false) (Bool.eq_false_iff.mpr q13) 16 (by kernel_rfl) ?_
      refine lofx 13 16 true false ?_
      refine lofx 13 16 true false ?_
      refine lofx 13 16 true false ?_
      refine lv (.bool false) ?_
      refine lv (.bool false) ?_
      refine lofx 18 21 true false ?_
      refine lofx 18 21 true false ?_
      refine lofx 18 21 true false ?_
      refine lv (.bool false) ?_
      refine lv (.bool false) ?_
      refine lofx 23 26 true false ?_
      refine lofx 23 26 true false ?_
      refine lofx 23 26 true false ?_
      refine lv (.bool false) ?_
      refine lv (.bool false) ?_
      refine lofx 28 31 true false ?_
      refine lofx 28 31 true false ?_
      refine lofx 28 31 true false ?_
      refine lv (.bool false) ?_
      refine lv (.bool false) ?_
      refine lofx 33 36 true false ?_
      refine lofx 33 36 true false ?_
      refine lofx 33 36 true false ?_
      refine lofx 33 36 true false ?_
      refine ls_offu (j := 37) (t := 40) (b := false) rfl rfl (by kernel_rfl) (by kernel_rfl) rfl (by kernel_rfl) ?_
      refine ls_offu (j := 37) (t := 40) (b := false) rfl rfl (by kernel_rfl) (by kernel_rfl) rfl (by kernel_rfl) ?_
      refine ls_offu (j := 37) (t := 40) (b := false) rfl rfl (by kernel_rfl) (by kernel_rfl) rfl (by kernel_rfl) ?_
      refine lofx 33 36 true false ?_
      refine lofx 33 36 true false ?_
      refine ls_offu (j := 42) (t := 45) (b := false) rfl rfl (by kernel_rfl) (by kernel_rfl) rfl (by kernel_rfl) ?_
      refine ls_offu (j := 42) (t := 45) (b := false) rfl rfl (by kernel_rfl) (by kernel_rfl) rfl (by kernel_rfl) ?_
      refine lofx 33 36 true false ?_
      refine lv (.bool false) ?_
      refine lv (.bool false) ?_
      refine lofx 47 50 true false ?_
      refine lofx 47 50 true false ?_
      refine lofx 47 50 true false ?_
      refine lofx 47 50 true false ?_
      refine lv (.bool false) ?_
      refine lv (.bool false) ?_
      refine ls_end ?_
      refine qn_then ?_
      refine cs_ret' ?_
      obtain rfl := Option.some.inj H
      refine qr_res (rs := [_]) rfl (fun w' hs => ⟨[.bool false], (res_tmp (by kernel_rfl) (.nil)), (), rfl, hs.pick (ts := []) (cs := []) trivial (by decide)⟩)
    replace H := ite_f q9 H
    refine ls_know (c := false) (Bool.eq_false_iff.mpr q9) 11 (by kernel_rfl) ?_
    refine lofx 8 11 true false ?_
    refine lofx 8 11 true false ?_
    refine lofx 8 11 true false ?_
    refine lv (.bool false) ?_
    refine lv (.bool false) ?_
    refine lofx 13 16 true false ?_
    refine lofx 13 16 true false ?_
    refine lofx 13 16 true false ?_
    refine lv (.bool false) ?_
    refine lv (.bool false) ?_
    refine lofx 18 21 true false ?_
    refine lofx 18 21 true false ?_
    refine lofx 18 21 true false ?_
    refine lv (.bool false) ?_
    refine lv (.bool false) ?_
    refine lofx 23 26 true false ?_
    refine lofx 23 26 true false ?_
    refine lofx 23 26 true false ?_
    refine lv (.bool false) ?_
    refine lv (.bool false) ?_
    refine lofx 28 31 true false ?_
    refine lofx 28 31 true false ?_
    refine lofx 28 31 true false ?_
    refine lv (.bool false) ?_
    refine lv (.bool false) ?_
    refine lofx 33 36 true false ?_
    refine lofx 33 36 true false ?_
    refine lofx 33 36 true false ?_
    refine lofx 33 36 true false ?_
    refine ls_offu (j := 37) (t := 40) (b := false) rfl rfl (by kernel_rfl) (by kernel_rfl) rfl (by kernel_rfl) ?_
    refine ls_offu (j := 37) (t := 40) (b := false) rfl rfl (by kernel_rfl) (by kernel_rfl) rfl (by kernel_rfl) ?_
    refine ls_offu (j := 37) (t := 40) (b := false) rfl rfl (by kernel_rfl) (by kernel_rfl) rfl (by kernel_rfl) ?_
    refine lofx 33 36 true false ?_
    refine lofx 33 36 true false ?_
    refine ls_offu (j := 42) (t := 45) (b := false) rfl rfl (by kernel_rfl) (by kernel_rfl) rfl (by kernel_rfl) ?_
    refine ls_offu (j := 42) (t := 45) (b := false) rfl rfl (by kernel_rfl) (by kernel_rfl) rfl (by kernel_rfl) ?_
    refine lofx 33 36 true false ?_
    refine lv (.bool false) ?_
    refine lv (.bool false) ?_
    refine lofx 47 50 true false ?_
    refine lofx 47 50 true false ?_
    refine lofx 47 50 true false ?_
    refine lofx 47 50 true false ?_
    refine lv (.bool false) ?_
    refine lv (.bool false) ?_
    refine ls_end ?_
    refine qn_then ?_
    refine cs_ret' ?_
    obtain rfl := Option.some.inj H
    refine qr_res (rs := [_]) rfl (fun w' hs => ⟨[.bool false], (res_tmp (by kernel_rfl) (.nil)), (), rfl, hs.pick (ts := []) (cs := []) trivial (by decide)⟩)
  replace H := ite_f q5 H
  refine ls_know (c := false) (Bool.eq_false_iff.mpr q5) 6 (by kernel_rfl) ?_
  refine lofx 3 6 true false ?_
  refine lofx 3 6 true false ?_
  refine lofx 3 6 true false ?_
  refine lv (.bool false) ?_
  refine lv (.bool false) ?_
  refine lofx 8 11 true false ?_
  refine lofx 8 11 true false ?_
  refine lofx 8 11 true false ?_
  refine lv (.bool false) ?_
  refine lv (.bool false) ?_
  refine lofx 13 16 true false ?_
  refine lofx 13 16 true false ?_
  refine lofx 13 16 true false ?_
  refine lv (.bool false) ?_
  refine lv (.bool false) ?_
  refine lofx 18 21 true false ?_
  refine lofx 18 21 true false ?_
  refine lofx 18 21 true false ?_
  refine lv (.bool false) ?_
  refine lv (.bool false) ?_
  refine lofx 23 26 true false ?_
  refine lofx 23 26 true false ?_
  refine lofx 23 26 true false ?_
  refine lv (.bool false) ?_
  refine lv (.bool false) ?_
  refine lofx 28 31 true false ?_
  refine lofx 28 31 true false ?_
  refine lofx 28 31 true false ?_
  refine lv (.bool false) ?_
  refine lv (.bool false) ?_
  refine lofx 33 36 true false ?_
  refine lofx 33 36 true false ?_
  refine lofx 33 36 true false ?_
  refine lofx 33 36 true false ?_
  refine ls_offu (j := 37) (t := 40) (b := false) rfl rfl (by kernel_rfl) (by kernel_rfl) rfl (by kernel_rfl) ?_
  refine ls_offu (j := 37) (t := 40) (b := false) rfl rfl (by kernel_rfl) (by kernel_rfl) rfl (by kernel_rfl) ?_
  refine ls_offu (j := 37) (t := 40) (b := false) rfl rfl (by kernel_rfl) (by kernel_rfl) rfl (by kernel_rfl) ?_
  refine lofx 33 36 true false ?_
  refine lofx 33 36 true false ?_
  refine ls_offu (j := 42) (t := 45) (b := false) rfl rfl (by kernel_rfl) (by kernel_rfl) rfl (by kernel_rfl) ?_
  refine ls_offu (j := 42) (t := 45) (b := false) rfl rfl (by kernel_rfl) (by kernel_rfl) rfl (by kernel_rfl) ?_
  refine lofx 33 36 true false ?_
  refine lv (.bool false) ?_
  refine lv (.bool false) ?_
  refine lofx 47 50 true false ?_
  refine lofx 47 50 true false ?_
  refine lofx 47 50 true false ?_
  refine lofx 47 50 true false ?_
  refine lv (.bool false) ?_
  refine lv (.bool false) ?_
  refine ls_end ?_
  refine qn_then ?_
  refine cs_ret' ?_
  obtain rfl := Option.some.inj H
  refine qr_res (rs := [_]) rfl (fun w' hs => ⟨[.bool false], (res_tmp (by kernel_rfl) (.nil)), (), rfl, hs.pick (ts := []) (cs := []) trivial (by decide)⟩)

/-! ### shadowbox/record.Put: function 21 -/
def record_Put.f (k : Nat) (a0 : (Int × Int × Int × Int × ByteArray × ByteArray × (List (ByteArray × ByteArray)))) : Option ((List Int) × Int) :=
  (record_Right.f k (a0.1, a0.2.1, a0.2.2.1, a0.2.2.2.1, a0.2.2.2.2.1, a0.2.2.2.2.2.1, a0.2.2.2.2.2.2)).bind fun t2 => (if t2 = true then (record_Version_bytes.f k (a0.1, a0.2.1, a0.2.2.1, a0.2.2.2.1, a0.2.2.2.2.1, a0.2.2.2.2.2.1, a0.2.2.2.2.2.2)).bind fun t6 => some (t6, (0 : Int)) else some (([] : List Int), (2 : Int)))
set_option maxRecDepth 100000 in
set_option maxHeartbeats 4000000 in
theorem record_Put.calls (k : Nat) (A0_6 : Option Addr) (c0_6 : Nat) (a0 : (Int × Int × Int × Int × ByteArray × ByteArray × (List (ByteArray × ByteArray)))) (r : (List Int) × Int) (b : Bs) (hs0 : St b (stl []) b.w) (R0_6 : Ro b A0_6 (em T67 a0.2.2.2.2.2.2)) (C0_6 : a0.2.2.2.2.2.2.length ≤ c0_6) (H : record_Put.f k a0 = some r) :
    Calls Try.prog 21 #[.agg ⟨([Value.int .i64 a0.1] ++ ([Value.int .i64 a0.2.1] ++ ([Value.int .i64 a0.2.2.1] ++ ([Value.int .i64 a0.2.2.2.1] ++ ([Value.string a0.2.2.2.2.1] ++ ([Value.string a0.2.2.2.2.2.1] ++ [Value.slice A0_6 a0.2.2.2.2.2.2.length c0_6]))))))⟩] b.w fun e w' => ∃ x : (Option Addr × Nat), e = .returned (.tuple #[.slice x.1 r.1.length x.2, .int .i64 r.2]) ∧ St b (stl [Ck.ro (Ec.int 5 .u8) x.1 x.2 r.1]) w' := by
  unfold record_Put.f at H
  refine enterb (n := 9) Try.func21 rfl (by kernel_rfl) (by kernel_rfl) hs0 ?_
  refine cs_sub (s0) (sub_nil _) ?_
  refine cs_seq ?_
  refine cs_region (l := [_, _, _]) ?_
  refine ls_new rfl rfl (by kernel_rfl) 0 (fun g => .pointer (some ⟨g, 0, none⟩)) (.cells ⟨([Value.int .i64 a0.1] ++ ([Value.int .i64 a0.2.1] ++ ([Value.int .i64 a0.2.2.1] ++ ([Value.int .i64 a0.2.2.2.1] ++ ([Value.string a0.2.2.2.2.1] ++ ([Value.string a0.2.2.2.2.2.1] ++ [Value.slice A0_6 a0.2.2.2.2.2.2.length c0_6]))))))⟩ 51) (fun w => by kernel_rfl) ?_
  intro g1
  refine lv (.slice none 0 0) ?_
  refine lv (.int .i64 (0 : Int)) ?_
  refine ls_end ?_
  refine qn_then ?_
  refine cs_seq ?_
  refine cs_seq ?_
  refine cs_region (l := [_, _, _]) ?_
  refine ls_loadagg (a := ⟨g1, 0, none⟩) (sub := ([Value.int .i64 a0.1] ++ ([Value.int .i64 a0.2.1] ++ ([Value.int .i64 a0.2.2.1] ++ ([Value.int .i64 a0.2.2.2.1] ++ ([Value.string a0.2.2.2.2.1] ++ ([Value.string a0.2.2.2.2.2.1] ++ [Value.slice A0_6 a0.2.2.2.2.2.2.length c0_6]))))))) rfl rfl (by kernel_rfl) rfl (by kernel_rfl) (by kernel_rfl) (by kernel_rfl) (len_app (len1 _) (len_app (len1 _) (len_app (len1 _) (len_app (len1 _) (len_app (len1 _) (len_app (len1 _) (len1 _))))))) (fun w hs => (hs.vars (k := 0) (by exact rfl) (Sub4.all _))) ?_
  obtain ⟨t2, hc3, H⟩ := bind_some H
  refine ls_callb (fid := 25) (vals := #[.agg ⟨([Value.int .i64 a0.1] ++ ([Value.int .i64 a0.2.1] ++ ([Value.int .i64 a0.2.2.1] ++ ([Value.int .i64 a0.2.2.2.1] ++ ([Value.string a0.2.2.2.2.1] ++ ([Value.string a0.2.2.2.2.2.1] ++ [Value.slice A0_6 a0.2.2.2.2.2.2.length c0_6]))))))⟩]) (X := Unit) (fun x => .bool t2) (fun x => stl []) [] [] [] [] 1 rfl rfl (by kernel_rfl) (fun w => by kernel_rfl) trivial trivial (by decide) (fun w hs hb => record_Right.calls k A0_6 c0_6 (a0.1, a0.2.1, a0.2.2.1, a0.2.2.2.1, a0.2.2.2.2.1, a0.2.2.2.2.2.1, a0.2.2.2.2.2.2) t2 (lent b w [] []) hb (hs.ro R0_6 _ _) C0_6 hc3) ?_
  intro x4
  refine lv (.bool (!t2)) ?_
  refine ls_end ?_
  refine qn_then ?_
  by_cases q5 : t2 = true
  · replace H := ite_t q5 H
    refine cs_know (c := false) (congrArg Bool.not (q5)) 6 (by kernel_rfl) ?_
    refine cs_false (by kernel_rfl) ?_
    refine cs_skip' ?_
    refine qn_then ?_
    refine cs_seq ?_
    refine cs_region (l := [_, _, _, _]) ?_
    refine ls_loadagg (a := ⟨g1, 0, none⟩) (sub := ([Value.int .i64 a0.1] ++ ([Value.int .i64 a0.2.1] ++ ([Value.int .i64 a0.2.2.1] ++ ([Value.int .i64 a0.2.2.2.1] ++ ([Value.string a0.2.2.2.2.1] ++ ([Value.string a0.2.2.2.2.2.1] ++ [Value.slice A0_6 a0.2.2.2.2.2.2.length c0_6]))))))) rfl rfl (by kernel_rfl) rfl (by kernel_rfl) (by kernel_rfl) (by kernel_rfl) (len_app (len1 _) (len_app (len1 _) (len_app (len1 _) (len_app (len1 _) (len_app (len1 _) (len_app (len1 _) (len1 _))))))) (fun w hs => (hs.vars (k := 0) (by exact rfl) (Sub4.all _))) ?_
    obtain ⟨t6, hc7, H⟩ := bind_some H
    refine ls_callb (fid := 41) (vals := #[.agg ⟨([Value.int .i64 a0.1] ++ ([Value.int .i64 a0.2.1] ++ ([Value.int .i64 a0.2.2.1] ++ ([Value.int .i64 a0.2.2.2.1] ++ ([Value.string a0.2.2.2.2.1] ++ ([Value.string a0.2.2.2.2.2.1] ++ [Value.slice A0_6 a0.2.2.2.2.2.2.length c0_6]))))))⟩]) (X := (Option Addr × Nat)) (fun x => .slice x.1 t6.length x.2) (fun x => stl [Ck.ro (Ec.int 5 .u8) x.1 x.2 t6]) [] [] [] [] 1 rfl rfl (by kernel_rfl) (fun w => by kernel_rfl) trivial trivial (by decide) (fun w hs hb => record_Version_bytes.calls k A0_6 c0_6 (a0.1, a0.2.1, a0.2.2.1, a0.2.2.2.1, a0.2.2.2.2.1, a0.2.2.2.2.2.1, a0.2.2.2.2.2.2) t6 (lent b w [] []) hb (hs.ro R0_6 _ _) C0_6 hc7) ?_
    intro x8
    refine lv (.slice x8.1 t6.length x8.2) ?_
    refine lv (.int .i64 (0 : Int)) ?_
    refine ls_end ?_
    refine qn_then ?_
    refine cs_ret' ?_
    obtain rfl := Option.some.inj H
    refine qr_res (rs := [_, _]) rfl (fun w' hs => ⟨[.slice x8.1 t6.length x8.2, .int .i64 (0 : Int)], (res_tmp (by kernel_rfl) (res_tmp (by kernel_rfl) (.nil))), (x8.1, x8.2), rfl, hs.pick (ts := [1]) (cs := [Ck.ro (Ec.int 5 .u8) x8.1 x8.2 t6]) ⟨by exact rfl, trivial⟩ (by decide)⟩)
  replace H := ite_f q5 H
  refine cs_know (c := true) (congrArg Bool.not (Bool.eq_false_iff.mpr q5)) 6 (by kernel_rfl) ?_
  refine cs_true (by kernel_rfl) ?_
  refine cs_seq ?_
  refine cs_region (l := [_, _]) ?_
  refine lv (.slice none 0 0) ?_
  refine lv (.int .i64 (2 : Int)) ?_
  refine ls_end ?_
  refine qn_then ?_
  refine cs_ret' ?_
  refine qr_then ?_
  refine qr_nilro 1 (Ec.int 5 .u8) ?_
  obtain rfl := Option.some.inj H
  refine qr_res (rs := [_, _]) rfl (fun w' hs => ⟨[.slice none 0 0, .int .i64 (2 : Int)], (res_tmp (by kernel_rfl) (res_tmp (by kernel_rfl) (.nil))), (none, 0), rfl, hs.pick (ts := [1]) (cs := [Ck.ro (Ec.int 5 .u8) none 0 ([] : List Int)]) ⟨by exact rfl, trivial⟩ (by decide)⟩)

/-! ### bytes.Equal: function 35 -/
def bytes_Equal.f (k : Nat) (l0 : List Int) (l1 : List Int) : Option (Bool) :=
  some ((strOfNums l0).toList == (strOfNums l1).toList)
set_option maxRecDepth 100000 in
set_option maxHeartbeats 4000000 in
theorem bytes_Equal.calls (k : Nat) (A0 : Option Addr) (c0 : Nat) (l0 : List Int) (A1 : Option Addr) (c1 : Nat) (l1 : List Int) (r : Bool) (b : Bs) (hs0 : St b (stl []) b.w) (R0 : Ro b A0 (em (Ec.int 5 .u8) l0)) (C0 : l0.length ≤ c0) (R1 : Ro b A1 (em (Ec.int 5 .u8) l1)) (C1 : l1.length ≤ c1) (H : bytes_Equal.f k l0 l1 = some r) :
    Calls Try.prog 35 #[.slice A0 l0.length c0, .slice A1 l1.length c1] b.w fun e w' => ∃ x : Unit, e = .returned (.bool r) ∧ St b (stl []) w' := by
  unfold bytes_Equal.f at H
  refine enterb (n := 10) Try.func35 rfl (by kernel_rfl) (by kernel_rfl) hs0 ?_
  refine cs_sub (s0) (sub_nil _) ?_
  refine cs_seq ?_
  refine cs_region (l := [_]) ?_
  refine lv (.bool false) ?_
  refine ls_end ?_
  refine qn_then ?_
  refine cs_seq ?_
  refine cs_region (l := [_, _, _, _, _, _]) ?_
  refine lv (.slice A0 l0.length c0) ?_
  refine ls_str (A := A0) (c := c0) (e := 5) (l := l0) rfl rfl (by kernel_rfl) rfl (by kernel_rfl) (by kernel_rfl) (by kernel_rfl) (by kernel_rfl) (fun w hs => (hs.old R0)) ?_
  refine lv (.slice A1 l1.length c1) ?_
  refine ls_str (A := A1) (c := c1) (e := 5) (l := l1) rfl rfl (by kernel_rfl) rfl (by kernel_rfl) (by kernel_rfl) (by kernel_rfl) (by kernel_rfl) (fun w hs => (hs.old R1)) ?_
  refine lv (.bool ((strOfNums l0).toList == (strOfNums l1).toList)) ?_
  refine lv (.bool ((strOfNums l0).toList == (strOfNums l1).toList)) ?_
  refine ls_end ?_
  refine qn_then ?_
  refine cs_ret' ?_
  obtain rfl := Option.some.inj H
  refine qr_res (rs := [_]) rfl (fun w' hs => ⟨[.bool ((strOfNums l0).toList == (strOfNums l1).toList)], (res_tmp (by kernel_rfl) (.nil)), (), rfl, hs.pick (ts := []) (cs := []) trivial (by decide)⟩)

/-! ### shadowbox/codec.ReadShort$1: function 86 -/
def codec_ReadShort_1.f (k : Nat) (a0 : Int) : Option (Int × Int × Int) :=
  some ((0 : Int), (0 : Int), a0)
set_option maxRecDepth 100000 in
set_option maxHeartbeats 4000000 in
theorem codec_ReadShort_1.calls (k : Nat) (a0 : Int) (r : Int × Int × Int) (b : Bs) (hs0 : St b (stl []) b.w) (H : codec_ReadShort_1.f k a0 = some r) :
    Calls Try.prog 86 #[.int .i64 a0] b.w fun e w' => ∃ x : Unit, e = .returned (.tuple #[.int .u64 r.1, .int .i64 r.2.1, .int .i64 r.2.2]) ∧ St b (stl []) w' := by
  unfold codec_ReadShort_1.f at H
  refine enterb (n := 6) Try.func86 rfl (by kernel_rfl) (by kernel_rfl) hs0 ?_
  refine cs_sub (s0) (sub_nil _) ?_
  refine cs_seq ?_
  refine cs_region (l := [_, _, _]) ?_
  refine lv (.int .u64 (0 : Int)) ?_
  refine lv (.int .i64 (0 : Int)) ?_
  refine lv (.int .i64 (0 : Int)) ?_
  refine ls_end ?_
  refine qn_then ?_
  refine cs_seq ?_
  refine cs_region (l := [_, _, _, _]) ?_
  refine lv (.int .i64 a0) ?_
  refine lv (.int .u64 (0 : Int)) ?_
  refine lv (.int .i64 (0 : Int)) ?_
  refine lv (.int .i64 a0) ?_
  refine ls_end ?_
  refine qn_then ?_
  refine cs_ret' ?_
  obtain rfl := Option.some.inj H
  refine qr_res (rs := [_, _, _]) rfl (fun w' hs => ⟨[.int .u64 (0 : Int), .int .i64 (0 : Int), .int .i64 a0], (res_tmp (by kernel_rfl) (res_tmp (by kernel_rfl) (res_tmp (by kernel_rfl) (.nil)))), (), rfl, hs.pick (ts := []) (cs := []) trivial (by decide)⟩)

/-! ### shadowbox/codec.ReadShort: function 57 -/
def codec_ReadShort.jo3 (xl9 : List Int) (x15_1 : Int) (k1 : Nat) (y18 : Int) (lo1 : Int → Int → Option (Int × Int × Int)) (x2_3 : Int) : Option (Int × Int × Int) := (if 0 ≤ IntKind.wrap .i64 ((7 : Int) * x15_1) then lt (shlv .u64 (IntKind.wrap .u64 y18) (IntKind.wrap .i64 ((7 : Int) * x15_1))) fun y21 => (if ((xl9).getD (x15_1).toNat (0 : Int)) < (128 : Int) then (codec_groups.f k1 (bits .or .u64 x2_3 y21)).bind fun t24 => (if t24 = (IntKind.wrap .i64 (x15_1 + (1 : Int))) then some (bits .or .u64 x2_3 y21, IntKind.wrap .i64 (x15_1 + (1 : Int)), (0 : Int)) else (codec_ReadShort_1.f k1 (11 : Int)).bind fun t28 => some (t28.1, t28.2.1, t28.2.2)) else lo1 (bits .or .u64 x2_3 y21) (IntKind.wrap .i64 (x15_1 + (1 : Int)))) else none)
def codec_ReadShort.jo2 (xl9 : List Int) (x2_1 : Int) (x15_1 : Int) (k1 : Nat) (lo1 : Int → Int → Option (Int × Int × Int)) : Option (Int × Int × Int) := (if 0 ≤ x15_1 then (if x15_1 < (xl9.length : Int) then lt (bits .andNot .u8 ((xl9).getD (x15_1).toNat (0 : Int)) (128 : Int)) fun y18 => (bits_Len64.f k1 (IntKind.wrap .u64 y18)).bind fun t31 => lt (IntKind.wrap .i64 (t31 + (IntKind.wrap .i64 ((7 : Int) * x15_1)))) fun y34 => (if y34 > (64 : Int) then (codec_ReadShort_1.f k1 (11 : Int)).bind fun t37 => some (t37.1, t37.2.1, t37.2.2) else (codec_ReadShort.jo3 xl9 x15_1 k1 y18 lo1) x2_1) else none) else none)
def codec_ReadShort.lo1 (l0 : List Int) (xl9 : List Int) : Nat → Int → Int → Option (Int × Int × Int)
  | 0, _, _ => none
  | k1 + 1, x2_1, x15_1 => (if x15_1 < (xl9.length : Int) then (codec_ReadShort.jo2 xl9 x2_1 x15_1 k1 (codec_ReadShort.lo1 l0 xl9 k1)) else (if (l0.length : Int) ≥ (10 : Int) then (codec_ReadShort_1.f k1 (11 : Int)).bind fun t42 => some (t42.1, t42.2.1, t42.2.2) else (codec_ReadShort_1.f k1 (10 : Int)).bind fun t45 => some (t45.1, t45.2.1, t45.2.2)))
def codec_ReadShort.f (k : Nat) (l0 : List Int) : Option (Int × Int × Int) :=
  lt ((if (10 : Int) < (l0.length : Int) then (10 : Int) else (l0.length : Int))) fun y1 => (if 0 ≤ y1 then (if y1 ≤ (l0.length : Int) then lt (l0.take (y1).toNat) fun xl9 => codec_ReadShort.lo1 l0 xl9 k (0 : Int) (0 : Int) else none) else none)
set_option maxRecDepth 100000 in
set_option maxHeartbeats 4000000 in
theorem codec_ReadShort.calls (k : Nat) (A0 : Option Addr) (c0 : Nat) (l0 : List Int) (r : Int × Int × Int) (b : Bs) (hs0 : St b (stl []) b.w) (R0 : Ro b A0 (em (Ec.int 5 .u8) l0)) (C0 : l0.length ≤ c0) (H : codec_ReadShort.f k l0 = some r) :
    Calls Try.prog 57 #[.slice A0 l0.length c0] b.w fun e w' => ∃ x : Unit, e = .returned (.tuple #[.int .u64 r.1, .int .i64 r.2.1, .int .i64 r.2.2]) ∧ St b (stl []) w' := by
  unfold codec_ReadShort.f at H
  refine enterb (n := 69) Try.func57 rfl (by kernel_rfl) (by kernel_rfl) hs0 ?_
  refine cs_sub (s0) (sub_nil _) ?_
  refine cs_seq ?_
  refine cs_region (l := [_, _, _]) ?_
  refine lv (.int .u64 (0 : Int)) ?_
  refine lv (.int .i64 (0 : Int)) ?_
  refine lv (.int .i64 (0 : Int)) ?_
  refine ls_end ?_
  refine qn_then ?_
  refine cs_seq ?_
  refine cs_region (l := [_]) ?_
  refine lv (.func (.func 86) #[] #[]) ?_
  refine ls_end ?_
  refine qn_then ?_
  refine cs_seq ?_
  refine cs_seq ?_
  refine cs_region (l := [_, _, _, _, _, _, _]) ?_
  refine lv (.slice A0 l0.length c0) ?_
  refine lv (.slice A0 l0.length c0) ?_
  refine lv (.int .i64 (l0.length : Int)) ?_
  obtain ⟨y1, hy2, H⟩ := lt_some H
  refine lv (.int .i64 (if (10 : Int) < (l0.length : Int) then (10 : Int) else (l0.length : Int))) ?_
  refine ls_ren 12 (v := .int .i64 (if (10 : Int) < (l0.length : Int) then (10 : Int) else (l0.length : Int))) (v' := .int .i64 y1) (by kernel_rfl) (by rw [hy2]) ?_
  obtain ⟨q3, H⟩ := ite_need H
  obtain ⟨q4, H⟩ := ite_need H
  obtain ⟨xl9, hy10, H⟩ := lt_some H
  have hz12 : 0 ≤ (y1).toNat := by omega
  have hz13 : (y1).toNat ≤ l0.length := by omega
  obtain ⟨xA5, xc6, he11, xC8, xR7⟩ := cut_at (A := A0) (c := c0) (l := l0) (Ec.int 5 .u8) 0 ((y1).toNat) hz12 hz13 C0 R0 (m := xl9) (by rw [← hy10] <;> simp) (z := 1) rfl
  refine ls_cutv (A := A0) (c := c0) (m := l0.length) (z := 1) (e := 5) (a := 0) (b := (y1).toNat) rfl rfl (by kernel_rfl) rfl (by kernel_rfl) (by kernel_rfl) (by kernel_rfl) (.inl ⟨rfl, rfl⟩) (.inr ⟨.i64, by rw [Int.toNat_of_nonneg (by first | assumption | omega)]; kernel_rfl⟩) hz12 hz13 C0 he11 ?_
  refine lv (.int .i64 (xl9.length : Int)) ?_
  refine lv (.int .i64 (0 : Int)) ?_
  refine ls_end ?_
  refine qn_then ?_
  refine cs_block ?_
  refine cs_sub (s0) (sub_nil _) ?_
  refine cs_loop (fun kk f S => ∃ (fR : Fr) (x2_1 : Int) (x15_1 : Int), f = upd (upd (upd (upd (upd (upd fR 0 (.slice A0 l0.length c0)) 2 (.int .u64 x2_1)) 5 (.func (.func 86) #[] #[])) 13 (.slice xA5 xl9.length xc6)) 14 (.int .i64 (xl9.length : Int))) 15 (.int .i64 x15_1) ∧ S = s0 ∧ codec_ReadShort.lo1 l0 xl9 kk x2_1 x15_1 = some r) k ?_ ?_ ?_
  · exact ⟨_, (0 : Int), (0 : Int), fr_next (fr_next (fr_next (fr_next (fr_next (fr_next (rfl) (by kernel_rfl)) (by kernel_rfl)) (by kernel_rfl)) (by kernel_rfl)) (by kernel_rfl)) (by kernel_rfl), rfl, H⟩
  · rintro f S ⟨fr1, x2_1, x15_1, rfl, rfl, H⟩; cases H
  rintro k1 f S ⟨fr1, x2_1, x15_1, rfl, rfl, H⟩
  replace H : ((if x15_1 < (xl9.length : Int) then (codec_ReadShort.jo2 xl9 x2_1 x15_1 k1 (codec_ReadShort.lo1 l0 xl9 k1)) else (if (l0.length : Int) ≥ (10 : Int) then (codec_ReadShort_1.f k1 (11 : Int)).bind fun t42 => some (t42.1, t42.2.1, t42.2.2) else (codec_ReadShort_1.f k1 (10 : Int)).bind fun t45 => some (t45.1, t45.2.1, t45.2.2)))) = some r := H
  refine cs_seq ?_
  refine cs_region (l := [_]) ?_
  refine lv (.bool (decide (x15_1 < (xl9.length : Int)))) ?_
  refine ls_end ?_
  refine qn_then ?_
  refine cs_cut (fun f S => ∃ (fR : Fr), f = upd (upd (upd (upd (upd (upd fR 0 (.slice A0 l0.length c0)) 2 (.int .u64 x2_1)) 5 (.func (.func 86) #[] #[])) 13 (.slice xA5 xl9.length xc6)) 14 (.int .i64 (xl9.length : Int))) 15 (.int .i64 x15_1) ∧ S = s0 ∧ codec_ReadShort.jo2 xl9 x2_1 x15_1 k1 (codec_ReadShort.lo1 l0 xl9 k1) = some r) ?_ ?_
  · skip
    by_cases q40 : x15_1 < (xl9.length : Int)
    · replace H := ite_t q40 H
      refine cs_know (c := true) (dec_t q40) 16 (by kernel_rfl) ?_
      refine cs_true (by kernel_rfl) ?_
      refine cs_skip' ?_
      refine qn_meet (s0) ⟨_, fr_next (fr_next (fr_next (fr_next (fr_next (fr_next (rfl) (by kernel_rfl)) (by kernel_rfl)) (by kernel_rfl)) (by kernel_rfl)) (by kernel_rfl)) (by kernel_rfl), rfl, H⟩ (sub_nil _)
    replace H := ite_f q40 H
    refine cs_know (c := false) (dec_f q40) 16 (by kernel_rfl) ?_
    refine cs_false (by kernel_rfl) ?_
    refine cs_exit' ?_
    refine qx_then ?_
    refine qx_then ?_
    refine qx_same ?_
    refine qn_then ?_
    refine cs_seq ?_
    refine cs_seq ?_
    refine cs_region (l := [_, _, _]) ?_
    refine lv (.slice A0 l0.length c0) ?_
    refine lv (.int .i64 (l0.length : Int)) ?_
    refine lv (.bool (decide ((l0.length : Int) ≥ (10 : Int)))) ?_
    refine ls_end ?_
    refine qn_then ?_
    by_cases q41 : (l0.length : Int) ≥ (10 : Int)
    · replace H := ite_t q41 H
      refine cs_know (c := true) (dec_t q41) 58 (by kernel_rfl) ?_
      refine cs_true (by kernel_rfl) ?_
      refine cs_seq ?_
      refine cs_region (l := [_, _, _, _, _, _, _, _]) ?_
      refine lv (.func (.func 86) #[] #[]) ?_
      obtain ⟨t42, hc43, H⟩ := bind_some H
      refine ls_callb (fid := 86) (vals := #[.int .i64 (11 : Int)]) (X := Unit) (fun x => .tuple #[.int .u64 t42.1, .int .i64 t42.2.1, .int .i64 t42.2.2]) (fun x => stl []) [] [] [] [] 0 rfl rfl (by kernel_rfl) (fun w => by kernel_rfl) trivial trivial (by decide) (fun w hs hb => codec_ReadShort_1.calls k1 (11 : Int) t42 (lent b w [] []) hb  hc43) ?_
      intro x44
      refine lv (.int .u64 t42.1) ?_
      refine lv (.int .i64 t42.2.1) ?_
      refine lv (.int .i64 t42.2.2) ?_
      refine lv (.int .u64 t42.1) ?_
      refine lv (.int .i64 t42.2.1) ?_
      refine lv (.int .i64 t42.2.2) ?_
      refine ls_end ?_
      refine qn_then ?_
      refine cs_ret' ?_
      refine qr_then ?_
      obtain rfl := Option.some.inj H
      refine qr_res (rs := [_, _, _]) rfl (fun w' hs => ⟨[.int .u64 t42.1, .int .i64 t42.2.1, .int .i64 t42.2.2], (res_tmp (by kernel_rfl) (res_tmp (by kernel_rfl) (res_tmp (by kernel_rfl) (.nil)))), (), rfl, hs.pick (ts := []) (cs := []) trivial (by decide)⟩)
    replace H := ite_f q41 H
    refine cs_know (c := false) (dec_f q41) 58 (by kernel_rfl) ?_
    refine cs_false (by kernel_rfl) ?_
    refine cs_skip' ?_
    refine qn_then ?_
    refine cs_seq ?_
    refine cs_region (l := [_, _, _, _, _, _, _, _]) ?_
    refine lv (.func (.func 86) #[] #[]) ?_
    obtain ⟨t45, hc46, H⟩ := bind_some H
    refine ls_callb (fid := 86) (vals := #[.int .i64 (10 : Int)]) (X := Unit) (fun x => .tuple #[.int .u64 t45.1, .int .i64 t45.2.1, .int .i64 t45.2.2]) (fun x => stl []) [] [] [] [] 0 rfl rfl (by kernel_rfl) (fun w => by kernel_rfl) trivial trivial (by decide) (fun w hs hb => codec_ReadShort_1.calls k1 (10 : Int) t45 (lent b w [] []) hb  hc46) ?_
    intro x47
    refine lv (.int .u64 t45.1) ?_
    refine lv (.int .i64 t45.2.1) ?_
    refine lv (.int .i64 t45.2.2) ?_
    refine lv (.int .u64 t45.1) ?_
    refine lv (.int .i64 t45.2.1) ?_
    refine lv (.int .i64 t45.2.2) ?_
    refine ls_end ?_
    refine qn_then ?_
    refine cs_ret' ?_
    obtain rfl := Option.some.inj H
    refine qr_res (rs := [_, _, _]) rfl (fun w' hs => ⟨[.int .u64 t45.1, .int .i64 t45.2.1, .int .i64 t45.2.2], (res_tmp (by kernel_rfl) (res_tmp (by kernel_rfl) (res_tmp (by kernel_rfl) (.nil)))), (), rfl, hs.pick (ts := []) (cs := []) trivial (by decide)⟩)
  rintro f S ⟨fr2, rfl, rfl, H⟩
  replace H : ((if 0 ≤ x15_1 then (if x15_1 < (xl9.length : Int) then lt (bits .andNot .u8 ((xl9).getD (x15_1).toNat (0 : Int)) (128 : Int)) fun y18 => (bits_Len64.f k1 (IntKind.wrap .u64 y18)).bind fun t31 => lt (IntKind.wrap .i64 (t31 + (IntKind.wrap .i64 ((7 : Int) * x15_1)))) fun y34 => (if y34 > (64 : Int) then (codec_ReadShort_1.f k1 (11 : Int)).bind fun t37 => some (t37.1, t37.2.1, t37.2.2) else (codec_ReadShort.jo3 xl9 x15_1 k1 y18 (codec_ReadShort.lo1 l0 xl9 k1)) x2_1) else none) else none)) = some r := H
  refine cs_seq ?_
  refine cs_block ?_
  refine cs_seq ?_
  refine cs_region (l := [_, _, _, _, _]) ?_
  refine lv (.int .i64 x15_1) ?_
  obtain ⟨q14, H⟩ := ite_need H
  obtain ⟨q15, H⟩ := ite_need H
  obtain ⟨ad16, hA17⟩ := ido_at (T := (Ec.int 5 .u8)) (l := xl9) (i := x15_1) xR7 q14 q15
  refine ls_idxv (Ec.int 5 .u8) (A := xA5) (c := xc6) (l := xl9) (k := .i64) (i := x15_1) (z := 1) (ad := ad16) rfl rfl (by kernel_rfl) hA17 rfl (by kernel_rfl) (by kernel_rfl) (by kernel_rfl) (by kernel_rfl) q14 q15 ?_
  refine ls_load (a0 := (ad16.add ((x15_1).toNat * 1))) (v := .int .u8 ((xl9).getD (x15_1).toNat (0 : Int))) (de := (TypeDesc.int .u8)) rfl rfl (by kernel_rfl) rfl (by kernel_rfl) (by kernel_rfl) (by kernel_rfl) (fun w hs => (hs.old xR7).at hA17 (em_sub (Ec.int 5 .u8) xl9 (i := (x15_1).toNat) (by have h0 : (0 : Int) ≤ x15_1 := q14; have h1 : x15_1 < (xl9.length : Int) := q15; omega))) ?_
  refine lv (.int .i64 x15_1) ?_
  refine lv (.int .u8 ((xl9).getD (x15_1).toNat (0 : Int))) ?_
  refine ls_end ?_
  refine qn_then ?_
  refine cs_seq ?_
  refine cs_region (l := [_, _, _, _]) ?_
  refine lv (.int .u8 ((xl9).getD (x15_1).toNat (0 : Int))) ?_
  obtain ⟨y18, hy19, H⟩ := lt_some H
  refine lv (.int .u8 (bits .andNot .u8 ((xl9).getD (x15_1).toNat (0 : Int)) (128 : Int))) ?_
  refine ls_ren 21 (v := .int .u8 (bits .andNot .u8 ((xl9).getD (x15_1).toNat (0 : Int)) (128 : Int))) (v' := .int .u8 y18) (by kernel_rfl) (by rw [hy19]) ?_
  refine lv (.int .u64 (IntKind.wrap .u64 y18)) ?_
  refine lv (.int .u64 (IntKind.wrap .u64 y18)) ?_
  refine ls_end ?_
  refine qn_then ?_
  refine cs_cut (fun f S => ∃ (fR : Fr) (x2_3 : Int), f = upd (upd (upd (upd (upd (upd (upd (upd (upd fR 0 (.slice A0 l0.length c0)) 2 (.int .u64 x2_3)) 5 (.func (.func 86) #[] #[])) 6 (.int .i64 x15_1)) 7 (.int .u8 ((xl9).getD (x15_1).toNat (0 : Int)))) 8 (.int .u64 (IntKind.wrap .u64 y18))) 13 (.slice xA5 xl9.length xc6)) 14 (.int .i64 (xl9.length : Int))) 15 (.int .i64 x15_1) ∧ S = s0 ∧ codec_ReadShort.jo3 xl9 x15_1 k1 y18 (codec_ReadShort.lo1 l0 xl9 k1) x2_3 = some r) ?_ ?_
  · skip
    refine cs_seq ?_
    refine cs_region (l := [_, _, _, _, _, _]) ?_
    refine lv (.int .u64 (IntKind.wrap .u64 y18)) ?_
    obtain ⟨t31, hc32, H⟩ := bind_some H
    refine ls_callb (fid := 87) (vals := #[.int .u64 (IntKind.wrap .u64 y18)]) (X := Unit) (fun x => .int .i64 t31) (fun x => stl []) [] [] [] [] 0 rfl rfl (by kernel_rfl) (fun w => by kernel_rfl) trivial trivial (by decide) (fun w hs hb => bits_Len64.calls k1 (IntKind.wrap .u64 y18) t31 (lent b w [] []) hb  hc32) ?_
    intro x33
    refine lv (.int .i64 x15_1) ?_
    refine lv (.int .i64 (IntKind.wrap .i64 ((7 : Int) * x15_1))) ?_
    obtain ⟨y34, hy35, H⟩ := lt_some H
    refine lv (.int .i64 (IntKind.wrap .i64 (t31 + (IntKind.wrap .i64 ((7 : Int) * x15_1))))) ?_
    refine ls_ren 27 (v := .int .i64 (IntKind.wrap .i64 (t31 + (IntKind.wrap .i64 ((7 : Int) * x15_1))))) (v' := .int .i64 y34) (by kernel_rfl) (by rw [hy35]) ?_
    refine lv (.bool (decide (y34 > (64 : Int)))) ?_
    refine ls_end ?_
    refine qn_then ?_
    by_cases q36 : y34 > (64 : Int)
    · replace H := ite_t q36 H
      refine cs_know (c := true) (dec_t q36) 28 (by kernel_rfl) ?_
      refine cs_true (by kernel_rfl) ?_
      refine cs_seq ?_
      refine cs_region (l := [_, _, _, _, _, _, _, _]) ?_
      refine lv (.func (.func 86) #[] #[]) ?_
      obtain ⟨t37, hc38, H⟩ := bind_some H
      refine ls_callb (fid := 86) (vals := #[.int .i64 (11 : Int)]) (X := Unit) (fun x => .tuple #[.int .u64 t37.1, .int .i64 t37.2.1, .int .i64 t37.2.2]) (fun x => stl []) [] [] [] [] 0 rfl rfl (by kernel_rfl) (fun w => by kernel_rfl) trivial trivial (by decide) (fun w hs hb => codec_ReadShort_1.calls k1 (11 : Int) t37 (lent b w [] []) hb  hc38) ?_
      intro x39
      refine lv (.int .u64 t37.1) ?_
      refine lv (.int .i64 t37.2.1) ?_
      refine lv (.int .i64 t37.2.2) ?_
      refine lv (.int .u64 t37.1) ?_
      refine lv (.int .i64 t37.2.1) ?_
      refine lv (.int .i64 t37.2.2) ?_
      refine ls_end ?_
      refine qn_then ?_
      refine cs_ret' ?_
      refine qr_then ?_
      refine qr_block ?_
      refine qr_then ?_
      refine qr_then ?_
      refine qr_block ?_
      refine qr_then ?_
      obtain rfl := Option.some.inj H
      refine qr_res (rs := [_, _, _]) rfl (fun w' hs => ⟨[.int .u64 t37.1, .int .i64 t37.2.1, .int .i64 t37.2.2], (res_tmp (by kernel_rfl) (res_tmp (by kernel_rfl) (res_tmp (by kernel_rfl) (.nil)))), (), rfl, hs.pick (ts := []) (cs := []) trivial (by decide)⟩)
    replace H := ite_f q36 H
    refine cs_know (c := false) (dec_f q36) 28 (by kernel_rfl) ?_
    refine cs_false (by kernel_rfl) ?_
    refine cs_skip' ?_
    refine qn_meet (s0) ⟨_, x2_1, fr_next (fr_next (fr_next (fr_next (fr_next (fr_next (fr_next (fr_next (fr_next (rfl) (by kernel_rfl)) (by kernel_rfl)) (by kernel_rfl)) (by kernel_rfl)) (by kernel_rfl)) (by kernel_rfl)) (by kernel_rfl)) (by kernel_rfl)) (by kernel_rfl), rfl, H⟩ (sub_nil _)
  rintro f S ⟨fr3, x2_3, rfl, rfl, H⟩
  replace H : ((if 0 ≤ IntKind.wrap .i64 ((7 : Int) * x15_1) then lt (shlv .u64 (IntKind.wrap .u64 y18) (IntKind.wrap .i64 ((7 : Int) * x15_1))) fun y21 => (if ((xl9).getD (x15_1).toNat (0 : Int)) < (128 : Int) then (codec_groups.f k1 (bits .or .u64 x2_3 y21)).bind fun t24 => (if t24 = (IntKind.wrap .i64 (x15_1 + (1 : Int))) then some (bits .or .u64 x2_3 y21, IntKind.wrap .i64 (x15_1 + (1 : Int)), (0 : Int)) else (codec_ReadShort_1.f k1 (11 : Int)).bind fun t28 => some (t28.1, t28.2.1, t28.2.2)) else (codec_ReadShort.lo1 l0 xl9 k1) (bits .or .u64 x2_3 y21) (IntKind.wrap .i64 (x15_1 + (1 : Int)))) else none)) = some r := H
  refine cs_seq ?_
  refine cs_region (l := [_, _, _, _, _, _, _]) ?_
  refine lv (.int .u64 x2_3) ?_
  refine lv (.int .u64 (IntKind.wrap .u64 y18)) ?_
  refine lv (.int .i64 x15_1) ?_
  refine lv (.int .i64 (IntKind.wrap .i64 ((7 : Int) * x15_1))) ?_
  obtain ⟨q20, H⟩ := ite_need H
  obtain ⟨y21, hy22, H⟩ := lt_some H
  refine ls_shiftl (k := .u64) (yk := .i64) (x := (IntKind.wrap .u64 y18)) (y := (IntKind.wrap .i64 ((7 : Int) * x15_1))) rfl rfl (by kernel_rfl) (fun w => by kernel_rfl) q20 ?_
  refine ls_ren 38 (v := .int .u64 (shlv .u64 (IntKind.wrap .u64 y18) (IntKind.wrap .i64 ((7 : Int) * x15_1)))) (v' := .int .u64 y21) (by kernel_rfl) (by rw [hy22]) ?_
  refine lv (.int .u64 (bits .or .u64 x2_3 y21)) ?_
  refine lv (.int .u64 (bits .or .u64 x2_3 y21)) ?_
  refine ls_end ?_
  refine qn_then ?_
  refine cs_seq ?_
  refine cs_region (l := [_, _]) ?_
  refine lv (.int .u8 ((xl9).getD (x15_1).toNat (0 : Int))) ?_
  refine lv (.bool (decide (((xl9).getD (x15_1).toNat (0 : Int)) < (128 : Int)))) ?_
  refine ls_end ?_
  refine qn_then ?_
  by_cases q23 : ((xl9).getD (x15_1).toNat (0 : Int)) < (128 : Int)
  · replace H := ite_t q23 H
    refine cs_know (c := true) (dec_t q23) 41 (by kernel_rfl) ?_
    refine cs_true (by kernel_rfl) ?_
    refine cs_seq ?_
    refine cs_seq ?_
    refine cs_region (l := [_, _, _, _, _]) ?_
    refine lv (.int .u64 (bits .or .u64 x2_3 y21)) ?_
    obtain ⟨t24, hc25, H⟩ := bind_some H
    refine ls_callb (fid := 88) (vals := #[.int .u64 (bits .or .u64 x2_3 y21)]) (X := Unit) (fun x => .int .i64 t24) (fun x => stl []) [] [] [] [] 0 rfl rfl (by kernel_rfl) (fun w => by kernel_rfl) trivial trivial (by decide) (fun w hs hb => codec_groups.calls k1 (bits .or .u64 x2_3 y21) t24 (lent b w [] []) hb  hc25) ?_
    intro x26
    refine lv (.int .i64 x15_1) ?_
    refine lv (.int .i64 (IntKind.wrap .i64 (x15_1 + (1 : Int)))) ?_
    refine lv (.bool (!decide (t24 = (IntKind.wrap .i64 (x15_1 + (1 : Int)))))) ?_
    refine ls_end ?_
    refine qn_then ?_
    by_cases q27 : t24 = (IntKind.wrap .i64 (x15_1 + (1 : Int)))
    · replace H := ite_t q27 H
      refine cs_know (c := false) (congrArg Bool.not (dec_t q27)) 46 (by kernel_rfl) ?_
      refine cs_false (by kernel_rfl) ?_
      refine cs_skip' ?_
      refine qn_then ?_
      refine cs_seq ?_
      refine cs_region (l := [_, _, _, _, _, _]) ?_
      refine lv (.int .u64 (bits .or .u64 x2_3 y21)) ?_
      refine lv (.int .i64 x15_1) ?_
      refine lv (.int .i64 (IntKind.wrap .i64 (x15_1 + (1 : Int)))) ?_
      refine lv (.int .u64 (bits .or .u64 x2_3 y21)) ?_
      refine lv (.int .i64 (IntKind.wrap .i64 (x15_1 + (1 : Int)))) ?_
      refine lv (.int .i64 (0 : Int)) ?_
      refine ls_end ?_
      refine qn_then ?_
      refine cs_ret' ?_
      refine qr_block ?_
      refine qr_then ?_
      refine qr_then ?_
      refine qr_block ?_
      refine qr_then ?_
      obtain rfl := Option.some.inj H
      refine qr_res (rs := [_, _, _]) rfl (fun w' hs => ⟨[.int .u64 (bits .or .u64 x2_3 y21), .int .i64 (IntKind.wrap .i64 (x15_1 + (1 : Int))), .int .i64 (0 : Int)], (res_tmp (by kernel_rfl) (res_tmp (by kernel_rfl) (res_tmp (by kernel_rfl) (.nil)))), (), rfl, hs.pick (ts := []) (cs := []) trivial (by decide)⟩)
    replace H := ite_f q27 H
    refine cs_know (c := true) (congrArg Bool.not (dec_f q27)) 46 (by kernel_rfl) ?_
    refine cs_true (by kernel_rfl) ?_
    refine cs_seq ?_
    refine cs_region (l := [_, _, _, _, _, _, _, _]) ?_
    refine lv (.func (.func 86) #[] #[]) ?_
    obtain ⟨t28, hc29, H⟩ := bind_some H
    refine ls_callb (fid := 86) (vals := #[.int .i64 (11 : Int)]) (X := Unit) (fun x => .tuple #[.int .u64 t28.1, .int .i64 t28.2.1, .int .i64 t28.2.2]) (fun x => stl []) [] [] [] [] 0 rfl rfl (by kernel_rfl) (fun w => by kernel_rfl) trivial trivial (by decide) (fun w hs hb => codec_ReadShort_1.calls k1 (11 : Int) t28 (lent b w [] []) hb  hc29) ?_
    intro x30
    refine lv (.int .u64 t28.1) ?_
    refine lv (.int .i64 t28.2.1) ?_
    refine lv (.int .i64 t28.2.2) ?_
    refine lv (.int .u64 t28.1) ?_
    refine lv (.int .i64 t28.2.1) ?_
    refine lv (.int .i64 t28.2.2) ?_
    refine ls_end ?_
    refine qn_then ?_
    refine cs_ret' ?_
    refine qr_then ?_
    refine qr_block ?_
    refine qr_then ?_
    refine qr_then ?_
    refine qr_block ?_
    refine qr_then ?_
    obtain rfl := Option.some.inj H
    refine qr_res (rs := [_, _, _]) rfl (fun w' hs => ⟨[.int .u64 t28.1, .int .i64 t28.2.1, .int .i64 t28.2.2], (res_tmp (by kernel_rfl) (res_tmp (by kernel_rfl) (res_tmp (by kernel_rfl) (.nil)))), (), rfl, hs.pick (ts := []) (cs := []) trivial (by decide)⟩)
  replace H := ite_f q23 H
  refine cs_know (c := false) (dec_f q23) 41 (by kernel_rfl) ?_
  refine cs_false (by kernel_rfl) ?_
  refine cs_skip' ?_
  refine qn_block ?_
  refine qn_then ?_
  refine cs_region (l := [_, _]) ?_
  refine lv (.int .i64 (IntKind.wrap .i64 (x15_1 + (1 : Int)))) ?_
  refine lv (.int .i64 (IntKind.wrap .i64 (x15_1 + (1 : Int)))) ?_
  refine ls_end ?_
  refine qn_again k1 (s0) (Nat.le_refl _) ⟨_, (bits .or .u64 x2_3 y21), (IntKind.wrap .i64 (x15_1 + (1 : Int))), fr_next (fr_next (fr_next (fr_next (fr_next (fr_next (rfl) (by kernel_rfl)) (by kernel_rfl)) (by kernel_rfl)) (by kernel_rfl)) (by kernel_rfl)) (by kernel_rfl), rfl, H⟩ (sub_nil _)

/-! ### shadowbox/codec.ReadText: function 58 -/
def codec_ReadText.f (k : Nat) (l0 : List Int) (a1 : Int) : Option (ByteArray × Int × Int) :=
  (codec_ReadShort.f k l0).bind fun t1 => (if t1.2.2 = (0 : Int) then (if a1 < (0 : Int) then some ((⟨#[]⟩ : ByteArray), (0 : Int), (3 : Int)) else (if t1.1 > (IntKind.wrap .u64 a1) then some ((⟨#[]⟩ : ByteArray), (0 : Int), (3 : Int)) else lt (IntKind.wrap .i64 ((l0.length : Int) - t1.2.1)) fun y7 => (if t1.1 > (IntKind.wrap .u64 y7) then some ((⟨#[]⟩ : ByteArray), (0 : Int), (10 : Int)) else lt (IntKind.wrap .i64 (t1.2.1 + (IntKind.wrap .i64 t1.1))) fun y10 => (if 0 ≤ y10 then (if y10 ≤ (l0.length : Int) then (if 0 ≤ t1.2.1 then (if t1.2.1 ≤ y10 then lt ((l0.take (y10).toNat).drop (t1.2.1).toNat) fun xl20 => some (strOfNums xl20, y10, (0 : Int)) else none) else none) else none) else none)))) else some ((⟨#[]⟩ : ByteArray), (0 : Int), t1.2.2))
set_option maxRecDepth 100000 in
set_option maxHeartbeats 4000000 in
theorem codec_ReadText.calls (k : Nat) (A0 : Option Addr) (c0 : Nat) (l0 : List Int) (a1 : Int) (r : ByteArray × Int × Int) (b : Bs) (hs0 : St b (stl []) b.w) (R0 : Ro b A0 (em (Ec.int 5 .u8) l0)) (C0 : l0.length ≤ c0) (H : codec_ReadText.f k l0 a1 = some r) :
    Calls Try.prog 58 #[.slice A0 l0.length c0, .int .i64 a1] b.w fun e w' => ∃ x : Unit, e = .returned (.tuple #[.string r.1, .int .i64 r.2.1, .int .i64 r.2.2]) ∧ St b (stl []) w' := by
  unfold codec_ReadText.f at H
  refine enterb (n := 46) Try.func58 rfl (by kernel_rfl) (by kernel_rfl) hs0 ?_
  refine cs_sub (s0) (sub_nil _) ?_
  refine cs_seq ?_
  refine cs_region (l := [_, _, _]) ?_
  refine lv (.string (⟨#[]⟩ : ByteArray)) ?_
  refine lv (.int .i64 (0 : Int)) ?_
  refine lv (.int .i64 (0 : Int)) ?_
  refine ls_end ?_
  refine qn_then ?_
  refine cs_seq ?_
  refine cs_region (l := [_, _, _, _, _, _, _, _, _]) ?_
  refine lv (.slice A0 l0.length c0) ?_
  obtain ⟨t1, hc2, H⟩ := bind_some H
  refine ls_callb (fid := 57) (vals := #[.slice A0 l0.length c0]) (X := Unit) (fun x => .tuple #[.int .u64 t1.1, .int .i64 t1.2.1, .int .i64 t1.2.2]) (fun x => stl []) [] [] [] [] 0 rfl rfl (by kernel_rfl) (fun w => by kernel_rfl) trivial trivial (by decide) (fun w hs hb => codec_ReadShort.calls k A0 c0 l0 t1 (lent b w [] []) hb (hs.ro R0 _ _) C0 hc2) ?_
  intro x3
  refine lv (.tuple #[.int .u64 t1.1, .int .i64 t1.2.1, .int .i64 t1.2.2]) ?_
  refine lv (.int .u64 t1.1) ?_
  refine lv (.int .i64 t1.2.1) ?_
  refine lv (.int .i64 t1.2.2) ?_
  refine lv (.int .u64 t1.1) ?_
  refine lv (.int .i64 t1.2.1) ?_
  refine lv (.int .i64 t1.2.2) ?_
  refine ls_end ?_
  refine qn_then ?_
  refine cs_seq ?_
  refine cs_block ?_
  refine cs_seq ?_
  refine cs_region (l := [_, _, _]) ?_
  refine lv (.int .i64 t1.2.2) ?_
  refine lv (.bool (!decide (t1.2.2 = (0 : Int)))) ?_
  refine lv (.bool (!decide (t1.2.2 = (0 : Int)))) ?_
  refine ls_end ?_
  refine qn_then ?_
  by_cases q4 : t1.2.2 = (0 : Int)
  · replace H := ite_t q4 H
    refine cs_know (c := false) (congrArg Bool.not (dec_t q4)) 15 (by kernel_rfl) ?_
    refine cs_false (by kernel_rfl) ?_
    refine cs_seq ?_
    refine cs_region (l := [_, _, _, _, _, _, _, _, _]) ?_
    refine lv (.int .i64 a1) ?_
    refine lv (.bool (decide (a1 < (0 : Int)))) ?_
    refine lv (.bool (decide (a1 < (0 : Int)))) ?_
    by_cases q5 : a1 < (0 : Int)
    · replace H := ite_t q5 H
      refine ls_know (c := true) (dec_t q5) 22 (by kernel_rfl) ?_
      refine lofx 2 22 false true ?_
      refine lofx 2 22 false true ?_
      refine lofx 2 22 false true ?_
      refine lofx 2 22 false true ?_
      refine lv (.bool true) ?_
      refine lv (.bool true) ?_
      refine ls_end ?_
      refine qn_then ?_
      refine cs_true (by kernel_rfl) ?_
      refine cs_seq ?_
      refine cs_region (l := [_, _, _]) ?_
      refine lv (.string (⟨#[]⟩ : ByteArray)) ?_
      refine lv (.int .i64 (0 : Int)) ?_
      refine lv (.int .i64 (3 : Int)) ?_
      refine ls_end ?_
      refine qn_then ?_
      refine cs_ret' ?_
      refine qr_block ?_
      refine qr_then ?_
      obtain rfl := Option.some.inj H
      refine qr_res (rs := [_, _, _]) rfl (fun w' hs => ⟨[.string (⟨#[]⟩ : ByteArray), .int .i64 (0 : Int), .int .i64 (3 : Int)], (res_tmp (by kernel_rfl) (res_tmp (by kernel_rfl) (res_tmp (by kernel_rfl) (.nil)))), (), rfl, hs.pick (ts := []) (cs := []) trivial (by decide)⟩)
    replace H := ite_f q5 H
    refine ls_know (c := false) (dec_f q5) 22 (by kernel_rfl) ?_
    refine ls_on (j := 2) (t := 22) (b := false) rfl rfl (by kernel_rfl) (by kernel_rfl) ?_
    refine lv (.int .u64 t1.1) ?_
    refine ls_on (j := 2) (t := 22) (b := false) rfl rfl (by kernel_rfl) (by kernel_rfl) ?_
    refine lv (.int .i64 a1) ?_
    refine ls_on (j := 2) (t := 22) (b := false) rfl rfl (by kernel_rfl) (by kernel_rfl) ?_
    refine lv (.int .u64 (IntKind.wrap .u64 a1)) ?_
    refine ls_on (j := 2) (t := 22) (b := false) rfl rfl (by kernel_rfl) (by kernel_rfl) ?_
    refine lv (.bool (decide (t1.1 > (IntKind.wrap .u64 a1)))) ?_
    refine lv (.bool (decide (t1.1 > (IntKind.wrap .u64 a1)))) ?_
    refine lv (.bool (decide (t1.1 > (IntKind.wrap .u64 a1)))) ?_
    refine ls_end ?_
    refine qn_then ?_
    by_cases q6 : t1.1 > (IntKind.wrap .u64 a1)
    · replace H := ite_t q6 H
      refine cs_know (c := true) (dec_t q6) 19 (by kernel_rfl) ?_
      refine cs_true (by kernel_rfl) ?_
      refine cs_seq ?_
      refine cs_region (l := [_, _, _]) ?_
      refine lv (.string (⟨#[]⟩ : ByteArray)) ?_
      refine lv (.int .i64 (0 : Int)) ?_
      refine lv (.int .i64 (3 : Int)) ?_
      refine ls_end ?_
      refine qn_then ?_
      refine cs_ret' ?_
      refine qr_block ?_
      refine qr_then ?_
      obtain rfl := Option.some.inj H
      refine qr_res (rs := [_, _, _]) rfl (fun w' hs => ⟨[.string (⟨#[]⟩ : ByteArray), .int .i64 (0 : Int), .int .i64 (3 : Int)], (res_tmp (by kernel_rfl) (res_tmp (by kernel_rfl) (res_tmp (by kernel_rfl) (.nil)))), (), rfl, hs.pick (ts := []) (cs := []) trivial (by decide)⟩)
    replace H := ite_f q6 H
    refine cs_know (c := false) (dec_f q6) 19 (by kernel_rfl) ?_
    refine cs_false (by kernel_rfl) ?_
    refine cs_seq ?_
    refine cs_region (l := [_, _, _, _, _, _, _, _]) ?_
    refine lv (.int .u64 t1.1) ?_
    refine lv (.slice A0 l0.length c0) ?_
    refine lv (.int .i64 (l0.length : Int)) ?_
    refine lv (.int .i64 t1.2.1) ?_
    obtain ⟨y7, hy8, H⟩ := lt_some H
    refine lv (.int .i64 (IntKind.wrap .i64 ((l0.length : Int) - t1.2.1))) ?_
    refine ls_ren 33 (v := .int .i64 (IntKind.wrap .i64 ((l0.length : Int) - t1.2.1))) (v' := .int .i64 y7) (by kernel_rfl) (by rw [hy8]) ?_
    refine lv (.int .u64 (IntKind.wrap .u64 y7)) ?_
    refine lv (.bool (decide (t1.1 > (IntKind.wrap .u64 y7)))) ?_
    refine lv (.bool (decide (t1.1 > (IntKind.wrap .u64 y7)))) ?_
    refine ls_end ?_
    refine qn_then ?_
    by_cases q9 : t1.1 > (IntKind.wrap .u64 y7)
    · replace H := ite_t q9 H
      refine cs_know (c := true) (dec_t q9) 28 (by kernel_rfl) ?_
      refine cs_true (by kernel_rfl) ?_
      refine cs_seq ?_
      refine cs_region (l := [_, _, _]) ?_
      refine lv (.string (⟨#[]⟩ : ByteArray)) ?_
      refine lv (.int .i64 (0 : Int)) ?_
      refine lv (.int .i64 (10 : Int)) ?_
      refine ls_end ?_
      refine qn_then ?_
      refine cs_ret' ?_
      refine qr_block ?_
      refine qr_then ?_
      obtain rfl := Option.some.inj H
      refine qr_res (rs := [_, _, _]) rfl (fun w' hs => ⟨[.string (⟨#[]⟩ : ByteArray), .int .i64 (0 : Int), .int .i64 (10 : Int)], (res_tmp (by kernel_rfl) (res_tmp (by kernel_rfl) (res_tmp (by kernel_rfl) (.nil)))), (), rfl, hs.pick (ts := []) (cs := []) trivial (by decide)⟩)
    replace H := ite_f q9 H
    refine cs_know (c := false) (dec_f q9) 28 (by kernel_rfl) ?_
    refine cs_false (by kernel_rfl) ?_
    refine cs_skip' ?_
    refine qn_block ?_
    refine qn_then ?_
    refine cs_seq ?_
    refine cs_region (l := [_, _, _, _, _]) ?_
    refine lv (.int .i64 t1.2.1) ?_
    refine lv (.int .u64 t1.1) ?_
    refine lv (.int .i64 (IntKind.wrap .i64 t1.1)) ?_
    obtain ⟨y10, hy11, H⟩ := lt_some H
    refine lv (.int .i64 (IntKind.wrap .i64 (t1.2.1 + (IntKind.wrap .i64 t1.1)))) ?_
    refine ls_ren 39 (v := .int .i64 (IntKind.wrap .i64 (t1.2.1 + (IntKind.wrap .i64 t1.1)))) (v' := .int .i64 y10) (by kernel_rfl) (by rw [hy11]) ?_
    refine lv (.int .i64 y10) ?_
    refine ls_end ?_
    refine qn_then ?_
    refine cs_seq ?_
    refine cs_region (l := [_, _, _, _, _, _, _, _, _]) ?_
    refine lv (.slice A0 l0.length c0) ?_
    refine lv (.int .i64 t1.2.1) ?_
    refine lv (.int .i64 y10) ?_
    obtain ⟨q12, H⟩ := ite_need H
    obtain ⟨q13, H⟩ := ite_need H
    obtain ⟨q14, H⟩ := ite_need H
    obtain ⟨q15, H⟩ := ite_need H
    obtain ⟨xl20, hy21, H⟩ := lt_some H
    have hz23 : (t1.2.1).toNat ≤ (y10).toNat := by omega
    have hz24 : (y10).toNat ≤ l0.length := by omega
    obtain ⟨xA16, xc17, he22, xC19, xR18⟩ := cut_at (A := A0) (c := c0) (l := l0) (Ec.int 5 .u8) ((t1.2.1).toNat) ((y10).toNat) hz23 hz24 C0 R0 (m := xl20) (by rw [← hy21] <;> simp) (z := 1) rfl
    refine ls_cutv (A := A0) (c := c0) (m := l0.length) (z := 1) (e := 5) (a := (t1.2.1).toNat) (b := (y10).toNat) rfl rfl (by kernel_rfl) rfl (by kernel_rfl) (by kernel_rfl) (by kernel_rfl) (.inr ⟨.i64, by rw [Int.toNat_of_nonneg (by first | assumption | omega)]; kernel_rfl⟩) (.inr ⟨.i64, by rw [Int.toNat_of_nonneg (by first | assumption | omega)]; kernel_rfl⟩) hz23 hz24 C0 he22 ?_
    refine ls_str (A := xA16) (c := xc17) (e := 5) (l := xl20) rfl rfl (by kernel_rfl) rfl (by kernel_rfl) (by kernel_rfl) (by kernel_rfl) (by kernel_rfl) (fun w hs => (hs.old xR18)) ?_
    refine lv (.int .i64 y10) ?_
    refine lv (.string (strOfNums xl20)) ?_
    refine lv (.int .i64 y10) ?_
    refine lv (.int .i64 (0 : Int)) ?_
    refine ls_end ?_
    refine qn_then ?_
    refine cs_ret' ?_
    obtain rfl := Option.some.inj H
    refine qr_res (rs := [_, _, _]) rfl (fun w' hs => ⟨[.string (strOfNums xl20), .int .i64 y10, .int .i64 (0 : Int)], (res_tmp (by kernel_rfl) (res_tmp (by kernel_rfl) (res_tmp (by kernel_rfl) (.nil)))), (), rfl, hs.pick (ts := []) (cs := []) trivial (by decide)⟩)
  replace H := ite_f q4 H
  refine cs_know (c := true) (congrArg Bool.not (dec_f q4)) 15 (by kernel_rfl) ?_
  refine cs_true (by kernel_rfl) ?_
  refine cs_seq ?_
  refine cs_region (l := [_, _, _, _]) ?_
  refine lv (.int .i64 t1.2.2) ?_
  refine lv (.string (⟨#[]⟩ : ByteArray)) ?_
  refine lv (.int .i64 (0 : Int)) ?_
  refine lv (.int .i64 t1.2.2) ?_
  refine ls_end ?_
  refine qn_then ?_
  refine cs_ret' ?_
  refine qr_block ?_
  refine qr_then ?_
  obtain rfl := Option.some.inj H
  refine qr_res (rs := [_, _, _]) rfl (fun w' hs => ⟨[.string (⟨#[]⟩ : ByteArray), .int .i64 (0 : Int), .int .i64 t1.2.2], (res_tmp (by kernel_rfl) (res_tmp (by kernel_rfl) (res_tmp (by kernel_rfl) (.nil)))), (), rfl, hs.pick (ts := []) (cs := []) trivial (by decide)⟩)

end Go.Proofs.Ythhhkphbhlafbaa.G
