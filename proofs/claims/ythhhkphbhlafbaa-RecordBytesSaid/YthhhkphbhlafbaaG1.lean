/- Printed by a program of this session (sz.py): plain functions, and walks that show that the code comes to them; no condition. -/
import Derived.Test.YthhhkphbhlafbaaProg
import Derived.Test.YthhhkphbhlafbaaTy
import Derived.Test.YthhhkphbhlafbaaG0
set_option linter.unusedVariables false
set_option linter.unusedSimpArgs false
namespace Go.Proofs.Ythhhkphbhlafbaa.G
open Go Go.RowKit Go.Proofs.Ythhhkphbhlafbaa.Sx

/-! ### shadowbox/record.Right: function 25 -/
def record_Right.f (k : Nat) (a0 : (Int × Int × Int × Int × ByteArray × ByteArray × (List (ByteArray × ByteArray)))) : Option (Bool) :=
  (record_within.f k a0.1 (1 : Int) (1152921504606846976 : Int)).bind fun t2 => (if t2 = true then (record_within.f k a0.2.1 (1 : Int) (4 : Int)).bind fun t6 => (if t6 = true then (record_within.f k a0.2.2.1 (0 : Int) (65536 : Int)).bind fun t10 => (if t10 = true then (record_within.f k a0.2.2.2.1 (0 : Int) (1099511627776 : Int)).bind fun t14 => (if t14 = true then (record_text.f k a0.2.2.2.2.1 (60 : Int)).bind fun t18 => (if t18 = true then (record_text.f k a0.2.2.2.2.2.1 (60 : Int)).bind fun t22 => (if t22 = true then (record_words.f k a0.2.2.2.2.2.2).bind fun t26 => (if t26 = true then (if a0.2.1 = (1 : Int) then (record_Version_bytes.f k (a0.1, a0.2.1, a0.2.2.1, a0.2.2.2.1, a0.2.2.2.2.1, a0.2.2.2.2.2.1, a0.2.2.2.2.2.2)).bind fun t31 => some (decide ((t31.length : Int) ≤ (400 : Int))) else (if a0.2.1 = (3 : Int) then (record_Version_bytes.f k (a0.1, a0.2.1, a0.2.2.1, a0.2.2.2.1, a0.2.2.2.2.1, a0.2.2.2.2.2.1, a0.2.2.2.2.2.2)).bind fun t35 => some (decide ((t35.length : Int) ≤ (400 : Int))) else (record_Version_bare.f k (a0.1, a0.2.1, a0.2.2.1, a0.2.2.2.1, a0.2.2.2.2.1, a0.2.2.2.2.2.1, a0.2.2.2.2.2.2)).bind fun t38 => (if t38 = true then (record_Version_bytes.f k (a0.1, a0.2.1, a0.2.2.1, a0.2.2.2.1, a0.2.2.2.2.1, a0.2.2.2.2.2.1, a0.2.2.2.2.2.2)).bind fun t42 => some (decide ((t42.length : Int) ≤ (400 : Int))) else some false))) else some false) else some false) else some false) else some false) else some false) else some false) else some false)
set_option maxRecDepth 100000 in
set_option maxHeartbeats 4000000 in
theorem record_Right.calls (k : Nat) (A0_6 : Option Addr) (c0_6 : Nat) (a0 : (Int × Int × Int × Int × ByteArray × ByteArray × (List (ByteArray × ByteArray)))) (r : Bool) (b : Bs) (hs0 : St b (stl []) b.w) (R0_6 : Ro b A0_6 (em T67 a0.2.2.2.2.2.2)) (C0_6 : a0.2.2.2.2.2.2.length ≤ c0_6) (H : record_Right.f k a0 = some r) :
    Calls Try.prog 25 #[.agg ⟨([Value.int .i64 a0.1] ++ ([Value.int .i64 a0.2.1] ++ ([Value.int .i64 a0.2.2.1] ++ ([Value.int .i64 a0.2.2.2.1] ++ ([Value.string a0.2.2.2.2.1] ++ ([Value.string a0.2.2.2.2.2.1] ++ [Value.slice A0_6 a0.2.2.2.2.2.2.length c0_6]))))))⟩] b.w fun e w' => ∃ x : Unit, e = .returned (.bool r) ∧ St b (stl []) w' := by
  unfold record_Right.f at H
  refine enterb (n := 56) Try.func25 rfl (by kernel_rfl) (by kernel_rfl) hs0 ?_
  refine cs_sub (s0) (sub_nil _) ?_
  refine cs_seq ?_
  refine cs_region (l := [_, _]) ?_
  refine ls_new rfl rfl (by kernel_rfl) 0 (fun g => .pointer (some ⟨g, 0, none⟩)) (.cells ⟨([Value.int .i64 a0.1] ++ ([Value.int .i64 a0.2.1] ++ ([Value.int .i64 a0.2.2.1] ++ ([Value.int .i64 a0.2.2.2.1] ++ ([Value.string a0.2.2.2.2.1] ++ ([Value.string a0.2.2.2.2.2.1] ++ [Value.slice A0_6 a0.2.2.2.2.2.2.length c0_6]))))))⟩ 51) (fun w => by kernel_rfl) ?_
  intro g1
  refine lv (.bool false) ?_
  refine ls_end ?_
  refine qn_then ?_
  refine cs_seq ?_
  refine cs_region (l := [_, _, _, _, _, _, _, _, _, _, _, _, _, _, _, _, _, _, _, _, _, _, _, _, _, _, _, _, _, _, _, _, _, _, _, _, _, _, _, _, _, _, _, _, _, _, _, _, _, _, _, _, _, _]) ?_
  refine lv (.pointer (some ⟨g1, (0 + 0), none⟩)) ?_
  refine ls_load (a0 := ⟨g1, (0 + 0), none⟩) (v := .int .i64 a0.1) (de := (TypeDesc.int .i64)) rfl rfl (by kernel_rfl) rfl (by kernel_rfl) (by kernel_rfl) (by kernel_rfl) (fun w hs => (hs.var (k := 0) (by exact rfl) (Sub4.trans (Sub4.all _) (Sub4.head _ _)))) ?_
  obtain ⟨t2, hc3, H⟩ := bind_some H
  refine ls_callb (fid := 47) (vals := #[.int .i64 a0.1, .int .i64 (1 : Int), .int .i64 (1152921504606846976 : Int)]) (X := Unit) (fun x => .bool t2) (fun x => stl []) [] [] [] [] 1 rfl rfl (by kernel_rfl) (fun w => by kernel_rfl) trivial trivial (by decide) (fun w hs hb => record_within.calls k a0.1 (1 : Int) (1152921504606846976 : Int) t2 (lent b w [] []) hb  hc3) ?_
  intro x4
  refine lv (.bool t2) ?_
  by_cases q5 : t2 = true
  · replace H := ite_t q5 H
    refine ls_know (c := true) (q5) 6 (by kernel_rfl) ?_
    refine ls_on (j := 3) (t := 6) (b := true) rfl rfl (by kernel_rfl) (by kernel_rfl) ?_
    refine lv (.pointer (some ⟨g1, (0 + 1), none⟩)) ?_
    refine ls_on (j := 3) (t := 6) (b := true) rfl rfl (by kernel_rfl) (by kernel_rfl) ?_
    refine ls_load (a0 := ⟨g1, (0 + 1), none⟩) (v := .int .i64 a0.2.1) (de := (TypeDesc.int .i64)) rfl rfl (by kernel_rfl) rfl (by kernel_rfl) (by kernel_rfl) (by kernel_rfl) (fun w hs => (hs.var (k := 0) (by exact rfl) (Sub4.trans (Sub4.all _) (Sub4.skip (n := 1) (len1 _) (Sub4.head _ _))))) ?_
    refine ls_on (j := 3) (t := 6) (b := true) rfl rfl (by kernel_rfl) (by kernel_rfl) ?_
    obtain ⟨t6, hc7, H⟩ := bind_some H
    refine ls_callb (fid := 47) (vals := #[.int .i64 a0.2.1, .int .i64 (1 : Int), .int .i64 (4 : Int)]) (X := Unit) (fun x => .bool t6) (fun x => stl []) [] [] [] [] 1 rfl rfl (by kernel_rfl) (fun w => by kernel_rfl) trivial trivial (by decide) (fun w hs hb => record_within.calls k a0.2.1 (1 : Int) (4 : Int) t6 (lent b w [] []) hb  hc7) ?_
    intro x8
    refine lv (.bool t6) ?_
    refine lv (.bool t6) ?_
    by_cases q9 : t6 = true
    · replace H := ite_t q9 H
      refine ls_know (c := true) (q9) 11 (by kernel_rfl) ?_
      refine ls_on (j := 8) (t := 11) (b := true) rfl rfl (by kernel_rfl) (by kernel_rfl) ?_
      refine lv (.pointer (some ⟨g1, (0 + 2), none⟩)) ?_
      refine ls_on (j := 8) (t := 11) (b := true) rfl rfl (by kernel_rfl) (by kernel_rfl) ?_
      refine ls_load (a0 := ⟨g1, (0 + 2), none⟩) (v := .int .i64 a0.2.2.1) (de := (TypeDesc.int .i64)) rfl rfl (by kernel_rfl) rfl (by kernel_rfl) (by kernel_rfl) (by kernel_rfl) (fun w hs => (hs.var (k := 0) (by exact rfl) (Sub4.trans (Sub4.all _) (Sub4.skip (n := 1) (len1 _) (Sub4.skip (n := 1) (len1 _) (Sub4.head _ _)))))) ?_
      refine ls_on (j := 8) (t := 11) (b := true) rfl rfl (by kernel_rfl) (by kernel_rfl) ?_
      obtain ⟨t10, hc11, H⟩ := bind_some H
      refine ls_callb (fid := 47) (vals := #[.int .i64 a0.2.2.1, .int .i64 (0 : Int), .int .i64 (65536 : Int)]) (X := Unit) (fun x => .bool t10) (fun x => stl []) [] [] [] [] 1 rfl rfl (by kernel_rfl) (fun w => by kernel_rfl) trivial trivial (by decide) (fun w hs hb => record_within.calls k a0.2.2.1 (0 : Int) (65536 : Int) t10 (lent b w [] []) hb  hc11) ?_
      intro x12
      refine lv (.bool t10) ?_
      refine lv (.bool t10) ?_
      by_cases q13 : t10 = true
      · replace H := ite_t q13 H
        refine ls_know (c := true) (q13) 16 (by kernel_rfl) ?_
        refine ls_on (j := 13) (t := 16) (b := true) rfl rfl (by kernel_rfl) (by kernel_rfl) ?_
        refine lv (.pointer (some ⟨g1, (0 + 3), none⟩)) ?_
        refine ls_on (j := 13) (t := 16) (b := true) rfl rfl (by kernel_rfl) (by kernel_rfl) ?_
        refine ls_load (a0 := ⟨g1, (0 + 3), none⟩) (v := .int .i64 a0.2.2.2.1) (de := (TypeDesc.int .i64)) rfl rfl (by kernel_rfl) rfl (by kernel_rfl) (by kernel_rfl) (by kernel_rfl) (fun w hs => (hs.var (k := 0) (by exact rfl) (Sub4.trans (Sub4.all _) (Sub4.skip (n := 1) (len1 _) (Sub4.skip (n := 1) (len1 _) (Sub4.skip (n := 1) (len1 _) (Sub4.head _ _))))))) ?_
        refine ls_on (j := 13) (t := 16) (b := true) rfl rfl (by kernel_rfl) (by kernel_rfl) ?_
        obtain ⟨t14, hc15, H⟩ := bind_some H
        refine ls_callb (fid := 47) (vals := #[.int .i64 a0.2.2.2.1, .int .i64 (0 : Int), .int .i64 (1099511627776 : Int)]) (X := Unit) (fun x => .bool t14) (fun x => stl []) [] [] [] [] 1 rfl rfl (by kernel_rfl) (fun w => by kernel_rfl) trivial trivial (by decide) (fun w hs hb => record_within.calls k a0.2.2.2.1 (0 : Int) (1099511627776 : Int) t14 (lent b w [] []) hb  hc15) ?_
        intro x16
        refine lv (.bool t14) ?_
        refine lv (.bool t14) ?_
        by_cases q17 : t14 = true
        · replace H := ite_t q17 H
          refine ls_know (c := true) (q17) 21 (by kernel_rfl) ?_
          refine ls_on (j := 18) (t := 21) (b := true) rfl rfl (by kernel_rfl) (by kernel_rfl) ?_
          refine lv (.pointer (some ⟨g1, (0 + 4), none⟩)) ?_
          refine ls_on (j := 18) (t := 21) (b := true) rfl rfl (by kernel_rfl) (by kernel_rfl) ?_
          refine ls_load (a0 := ⟨g1, (0 + 4), none⟩) (v := .string a0.2.2.2.2.1) (de := TypeDesc.string) rfl rfl (by kernel_rfl) rfl (by kernel_rfl) (by kernel_rfl) (by kernel_rfl) (fun w hs => (hs.var (k := 0) (by exact rfl) (Sub4.trans (Sub4.all _) (Sub4.skip (n := 1) (len1 _) (Sub4.skip (n := 1) (len1 _) (Sub4.skip (n := 1) (len1 _) (Sub4.skip (n := 1) (len1 _) (Sub4.head _ _)))))))) ?_
          refine ls_on (j := 18) (t := 21) (b := true) rfl rfl (by kernel_rfl) (by kernel_rfl) ?_
          obtain ⟨t18, hc19, H⟩ := bind_some H
          refine ls_callb (fid := 48) (vals := #[.string a0.2.2.2.2.1, .int .i64 (60 : Int)]) (X := Unit) (fun x => .bool t18) (fun x => stl []) [] [] [] [] 1 rfl rfl (by kernel_rfl) (fun w => by kernel_rfl) trivial trivial (by decide) (fun w hs hb => record_text.calls k a0.2.2.2.2.1 (60 : Int) t18 (lent b w [] []) hb  hc19) ?_
          intro x20
          refine lv (.bool t18) ?_
          refine lv (.bool t18) ?_
          by_cases q21 : t18 = true
          · replace H := ite_t q21 H
            refine ls_know (c := true) (q21) 26 (by kernel_rfl) ?_
            refine ls_on (j := 23) (t := 26) (b := true) rfl rfl (by kernel_rfl) (by kernel_rfl) ?_
            refine lv (.pointer (some ⟨g1, (0 + 5), none⟩)) ?_
            refine ls_on (j := 23) (t := 26) (b := true) rfl rfl (by kernel_rfl) (by kernel_rfl) ?_
            refine ls_load (a0 := ⟨g1, (0 + 5), none⟩) (v := .string a0.2.2.2.2.2.1) (de := TypeDesc.string) rfl rfl (by kernel_rfl) rfl (by kernel_rfl) (by kernel_rfl) (by kernel_rfl) (fun w hs => (hs.var (k := 0) (by exact rfl) (Sub4.trans (Sub4.all _) (Sub4.skip (n := 1) (len1 _) (Sub4.skip (n := 1) (len1 _) (Sub4.skip (n := 1) (len1 _) (Sub4.skip (n := 1) (len1 _) (Sub4.skip (n := 1) (len1 _) (Sub4.head _ _))))))))) ?_
            refine ls_on (j := 23) (t := 26) (b := true) rfl rfl (by kernel_rfl) (by kernel_rfl) ?_
            obtain ⟨t22, hc23, H⟩ := bind_some H
            refine ls_callb (fid := 48) (vals := #[.string a0.2.2.2.2.2.1, .int .i64 (60 : Int)]) (X := Unit) (fun x => .bool t22) (fun x => stl []) [] [] [] [] 1 rfl rfl (by kernel_rfl) (fun w => by kernel_rfl) trivial trivial (by decide) (fun w hs hb => record_text.calls k a0.2.2.2.2.2.1 (60 : Int) t22 (lent b w [] []) hb  hc23) ?_
            intro x24
            refine lv (.bool t22) ?_
            refine lv (.bool t22) ?_
            by_cases q25 : t22 = true
            · replace H := ite_t q25 H
              refine ls_know (c := true) (q25) 31 (by kernel_rfl) ?_
              refine ls_on (j := 28) (t := 31) (b := true) rfl rfl (by kernel_rfl) (by kernel_rfl) ?_
              refine lv (.pointer (some ⟨g1, (0 + 6), none⟩)) ?_
              refine ls_on (j := 28) (t := 31) (b := true) rfl rfl (by kernel_rfl) (by kernel_rfl) ?_
              refine ls_load (a0 := ⟨g1, (0 + 6), none⟩) (v := .slice A0_6 a0.2.2.2.2.2.2.length c0_6) (de := (TypeDesc.slice 67)) rfl rfl (by kernel_rfl) rfl (by kernel_rfl) (by kernel_rfl) (by kernel_rfl) (fun w hs => (hs.var (k := 0) (by exact rfl) (Sub4.trans (Sub4.all _) (Sub4.skip (n := 1) (len1 _) (Sub4.skip (n := 1) (len1 _) (Sub4.skip (n := 1) (len1 _) (Sub4.skip (n := 1) (len1 _) (Sub4.skip (n := 1) (len1 _) (Sub4.skip (n := 1) (len1 _) (Sub4.all _)))))))))) ?_
              refine ls_on (j := 28) (t := 31) (b := true) rfl rfl (by kernel_rfl) (by kernel_rfl) ?_
              obtain ⟨t26, hc27, H⟩ := bind_some H
              refine ls_callb (fid := 49) (vals := #[.slice A0_6 a0.2.2.2.2.2.2.length c0_6]) (X := Unit) (fun x => .bool t26) (fun x => stl []) [] [] [] [] 1 rfl rfl (by kernel_rfl) (fun w => by kernel_rfl) trivial trivial (by decide) (fun w hs hb => record_words.calls k A0_6 c0_6 a0.2.2.2.2.2.2 t26 (lent b w [] []) hb (hs.ro R0_6 _ _) C0_6 hc27) ?_
              intro x28
              refine lv (.bool t26) ?_
              refine lv (.bool t26) ?_
              by_cases q29 : t26 = true
              · replace H := ite_t q29 H
                refine ls_know (c := true) (q29) 36 (by kernel_rfl) ?_
                refine ls_on (j := 33) (t := 36) (b := true) rfl rfl (by kernel_rfl) (by kernel_rfl) ?_
                refine lv (.pointer (some ⟨g1, (0 + 1), none⟩)) ?_
                refine ls_on (j := 33) (t := 36) (b := true) rfl rfl (by kernel_rfl) (by kernel_rfl) ?_
                refine ls_load (a0 := ⟨g1, (0 + 1), none⟩) (v := .int .i64 a0.2.1) (de := (TypeDesc.int .i64)) rfl rfl (by kernel_rfl) rfl (by kernel_rfl) (by kernel_rfl) (by kernel_rfl) (fun w hs => (hs.var (k := 0) (by exact rfl) (Sub4.trans (Sub4.all _) (Sub4.skip (n := 1) (len1 _) (Sub4.head _ _))))) ?_
                refine ls_on (j := 33) (t := 36) (b := true) rfl rfl (by kernel_rfl) (by kernel_rfl) ?_
                refine lv (.bool (decide (a0.2.1 = (1 : Int)))) ?_
                refine ls_on (j := 33) (t := 36) (b := true) rfl rfl (by kernel_rfl) (by kernel_rfl) ?_
                refine lv (.bool (decide (a0.2.1 = (1 : Int)))) ?_
                by_cases q30 : a0.2.1 = (1 : Int)
                · replace H := ite_t q30 H
                  refine ls_know (c := true) (dec_t q30) 40 (by kernel_rfl) ?_
                  refine lofx 37 40 false true ?_
                  refine lofx 37 40 false true ?_
                  refine lofx 37 40 false true ?_
                  refine ls_on (j := 33) (t := 36) (b := true) rfl rfl (by kernel_rfl) (by kernel_rfl) ?_
                  refine lv (.bool true) ?_
                  refine ls_on (j := 33) (t := 36) (b := true) rfl rfl (by kernel_rfl) (by kernel_rfl) ?_
                  refine lv (.bool true) ?_
                  refine lofx 42 45 false true ?_
                  refine lofx 42 45 false true ?_
                  refine ls_on (j := 33) (t := 36) (b := true) rfl rfl (by kernel_rfl) (by kernel_rfl) ?_
                  refine lv (.bool true) ?_
                  refine lv (.bool true) ?_
                  refine lv (.bool true) ?_
                  refine ls_on (j := 47) (t := 50) (b := true) rfl rfl (by kernel_rfl) (by kernel_rfl) ?_
                  refine ls_loadagg (a := ⟨g1, 0, none⟩) (sub := ([Value.int .i64 a0.1] ++ ([Value.int .i64 a0.2.1] ++ ([Value.int .i64 a0.2.2.1] ++ ([Value.int .i64 a0.2.2.2.1] ++ ([Value.string a0.2.2.2.2.1] ++ ([Value.string a0.2.2.2.2.2.1] ++ [Value.slice A0_6 a0.2.2.2.2.2.2.length c0_6]))))))) rfl rfl (by kernel_rfl) rfl (by kernel_rfl) (by kernel_rfl) (by kernel_rfl) (len_app (len1 _) (len_app (len1 _) (len_app (len1 _) (len_app (len1 _) (len_app (len1 _) (len_app (len1 _) (len1 _))))))) (fun w hs => (hs.vars (k := 0) (by exact rfl) (Sub4.all _))) ?_
                  refine ls_on (j := 47) (t := 50) (b := true) rfl rfl (by kernel_rfl) (by kernel_rfl) ?_
                  obtain ⟨t31, hc32, H⟩ := bind_some H
                  refine ls_callb (fid := 41) (vals := #[.agg ⟨([Value.int .i64 a0.1] ++ ([Value.int .i64 a0.2.1] ++ ([Value.int .i64 a0.2.2.1] ++ ([Value.int .i64 a0.2.2.2.1] ++ ([Value.string a0.2.2.2.2.1] ++ ([Value.string a0.2.2.2.2.2.1] ++ [Value.slice A0_6 a0.2.2.2.2.2.2.length c0_6]))))))⟩]) (X := (Option Addr × Nat)) (fun x => .slice x.1 t31.length x.2) (fun x => stl [Ck.ro (Ec.int 5 .u8) x.1 x.2 t31]) [] [] [] [] 1 rfl rfl (by kernel_rfl) (fun w => by kernel_rfl) trivial trivial (by decide) (fun w hs hb => record_Version_bytes.calls k A0_6 c0_6 (a0.1, a0.2.1, a0.2.2.1, a0.2.2.2.1, a0.2.2.2.2.1, a0.2.2.2.2.2.1, a0.2.2.2.2.2.2) t31 (lent b w [] []) hb (hs.ro R0_6 _ _) C0_6 hc32) ?_
                  intro x33
                  refine ls_on (j := 47) (t := 50) (b := true) rfl rfl (by kernel_rfl) (by kernel_rfl) ?_
                  refine lv (.int .i64 (t31.length : Int)) ?_
                  refine ls_on (j := 47) (t := 50) (b := true) rfl rfl (by kernel_rfl) (by kernel_rfl) ?_
                  refine lv (.bool (decide ((t31.length : Int) ≤ (400 : Int)))) ?_
                  refine lv (.bool (decide ((t31.length : Int) ≤ (400 : Int)))) ?_
                  refine lv (.bool (decide ((t31.length : Int) ≤ (400 : Int)))) ?_
                  refine ls_end ?_
                  refine qn_then ?_
                  refine cs_ret' ?_
                  obtain rfl := Option.some.inj H
                  refine qr_res (rs := [_]) rfl (fun w' hs => ⟨[.bool (decide ((t31.length : Int) ≤ (400 : Int)))], (res_tmp (by kernel_rfl) (.nil)), (), rfl, hs.pick (ts := []) (cs := []) trivial (by decide)⟩)
                replace H := ite_f q30 H
                refine ls_know (c := false) (dec_f q30) 40 (by kernel_rfl) ?_
                refine ls_on (j := 37) (t := 40) (b := false) rfl rfl (by kernel_rfl) (by kernel_rfl) ?_
                refine lv (.pointer (some ⟨g1, (0 + 1), none⟩)) ?_
                refine ls_on (j := 37) (t := 40) (b := false) rfl rfl (by kernel_rfl) (by kernel_rfl) ?_
                refine ls_load (a0 := ⟨g1, (0 + 1), none⟩) (v := .int .i64 a0.2.1) (de := (TypeDesc.int .i64)) rfl rfl (by kernel_rfl) rfl (by kernel_rfl) (by kernel_rfl) (by kernel_rfl) (fun w hs => (hs.var (k := 0) (by exact rfl) (Sub4.trans (Sub4.all _) (Sub4.skip (n := 1) (len1 _) (Sub4.head _ _))))) ?_
                refine ls_on (j := 37) (t := 40) (b := false) rfl rfl (by kernel_rfl) (by kernel_rfl) ?_
                refine lv (.bool (decide (a0.2.1 = (3 : Int)))) ?_
                refine ls_on (j := 33) (t := 36) (b := true) rfl rfl (by kernel_rfl) (by kernel_rfl) ?_
                refine lv (.bool (decide (a0.2.1 = (3 : Int)))) ?_
                refine ls_on (j := 33) (t := 36) (b := true) rfl rfl (by kernel_rfl) (by kernel_rfl) ?_
                refine lv (.bool (decide (a0.2.1 = (3 : Int)))) ?_
                by_cases q34 : a0.2.1 = (3 : Int)
                · replace H := ite_t q34 H
                  refine ls_know (c := true) (dec_t q34) 45 (by kernel_rfl) ?_
                  refine lofx 42 45 false true ?_
                  refine lofx 42 45 false true ?_
                  refine ls_on (j := 33) (t := 36) (b := true) rfl rfl (by kernel_rfl) (by kernel_rfl) ?_
                  refine lv (.bool true) ?_
                  refine lv (.bool true) ?_
                  refine lv (.bool true) ?_
                  refine ls_on (j := 47) (t := 50) (b := true) rfl rfl (by kernel_rfl) (by kernel_rfl) ?_
                  refine ls_loadagg (a := ⟨g1, 0, none⟩) (sub := ([Value.int .i64 a0.1] ++ ([Value.int .i64 a0.2.1] ++ ([Value.int .i64 a0.2.2.1] ++ ([Value.int .i64 a0.2.2.2.1] ++ ([Value.string a0.2.2.2.2.1] ++ ([Value.string a0.2.2.2.2.2.1] ++ [Value.slice A0_6 a0.2.2.2.2.2.2.length c0_6]))))))) rfl rfl (by kernel_rfl) rfl (by kernel_rfl) (by kernel_rfl) (by kernel_rfl) (len_app (len1 _) (len_app (len1 _) (len_app (len1 _) (len_app (len1 _) (len_app (len1 _) (len_app (len1 _) (len1 _))))))) (fun w hs => (hs.vars (k := 0) (by exact rfl) (Sub4.all _))) ?_
                  refine ls_on (j := 47) (t := 50) (b := true) rfl rfl (by kernel_rfl) (by kernel_rfl) ?_
                  obtain ⟨t35, hc36, H⟩ := bind_some H
                  refine ls_callb (fid := 41) (vals := #[.agg ⟨([Value.int .i64 a0.1] ++ ([Value.int .i64 a0.2.1] ++ ([Value.int .i64 a0.2.2.1] ++ ([Value.int .i64 a0.2.2.2.1] ++ ([Value.string a0.2.2.2.2.1] ++ ([Value.string a0.2.2.2.2.2.1] ++ [Value.slice A0_6 a0.2.2.2.2.2.2.length c0_6]))))))⟩]) (X := (Option Addr × Nat)) (fun x => .slice x.1 t35.length x.2) (fun x => stl [Ck.ro (Ec.int 5 .u8) x.1 x.2 t35]) [] [] [] [] 1 rfl rfl (by kernel_rfl) (fun w => by kernel_rfl) trivial trivial (by decide) (fun w hs hb => record_Version_bytes.calls k A0_6 c0_6 (a0.1, a0.2.1, a0.2.2.1, a0.2.2.2.1, a0.2.2.2.2.1, a0.2.2.2.2.2.1, a0.2.2.2.2.2.2) t35 (lent b w [] []) hb (hs.ro R0_6 _ _) C0_6 hc36) ?_
                  intro x37
                  refine ls_on (j := 47) (t := 50) (b := true) rfl rfl (by kernel_rfl) (by kernel_rfl) ?_
                  refine lv (.int .i64 (t35.length : Int)) ?_
                  refine ls_on (j := 47) (t := 50) (b := true) rfl rfl (by kernel_rfl) (by kernel_rfl) ?_
                  refine lv (.bool (decide ((t35.length : Int) ≤ (400 : Int)))) ?_
                  refine lv (.bool (decide ((t35.length : Int) ≤ (400 : Int)))) ?_
                  refine lv (.bool (decide ((t35.length : Int) ≤ (400 : Int)))) ?_
                  refine ls_end ?_
                  refine qn_then ?_
                  refine cs_ret' ?_
                  obtain rfl := Option.some.inj H
                  refine qr_res (rs := [_]) rfl (fun w' hs => ⟨[.bool (decide ((t35.length : Int) ≤ (400 : Int)))], (res_tmp (by kernel_rfl) (.nil)), (), rfl, hs.pick (ts := []) (cs := []) trivial (by decide)⟩)
                replace H := ite_f q34 H
                refine ls_know (c := false) (dec_f q34) 45 (by kernel_rfl) ?_
                refine ls_on (j := 42) (t := 45) (b := false) rfl rfl (by kernel_rfl) (by kernel_rfl) ?_
                refine ls_loadagg (a := ⟨g1, 0, none⟩) (sub := ([Value.int .i64 a0.1] ++ ([Value.int .i64 a0.2.1] ++ ([Value.int .i64 a0.2.2.1] ++ ([Value.int .i64 a0.2.2.2.1] ++ ([Value.string a0.2.2.2.2.1] ++ ([Value.string a0.2.2.2.2.2.1] ++ [Value.slice A0_6 a0.2.2.2.2.2.2.length c0_6]))))))) rfl rfl (by kernel_rfl) rfl (by kernel_rfl) (by kernel_rfl) (by kernel_rfl) (len_app (len1 _) (len_app (len1 _) (len_app (len1 _) (len_app (len1 _) (len_app (len1 _) (len_app (len1 _) (len1 _))))))) (fun w hs => (hs.vars (k := 0) (by exact rfl) (Sub4.all _))) ?_
                refine ls_on (j := 42) (t := 45) (b := false) rfl rfl (by kernel_rfl) (by kernel_rfl) ?_
                obtain ⟨t38, hc39, H⟩ := bind_some H
                refine ls_callb (fid := 50) (vals := #[.agg ⟨([Value.int .i64 a0.1] ++ ([Value.int .i64 a0.2.1] ++ ([Value.int .i64 a0.2.2.1] ++ ([Value.int .i64 a0.2.2.2.1] ++ ([Value.string a0.2.2.2.2.1] ++ ([Value.string a0.2.2.2.2.2.1] ++ [Value.slice A0_6 a0.2.2.2.2.2.2.length c0_6]))))))⟩]) (X := Unit) (fun x => .bool t38) (fun x => stl []) [] [] [] [] 1 rfl rfl (by kernel_rfl) (fun w => by kernel_rfl) trivial trivial (by decide) (fun w hs hb => record_Version_bare.calls k A0_6 c0_6 (a0.1, a0.2.1, a0.2.2.1, a0.2.2.2.1, a0.2.2.2.2.1, a0.2.2.2.2.2.1, a0.2.2.2.2.2.2) t38 (lent b w [] []) hb (hs.ro R0_6 _ _) C0_6 hc39) ?_
                intro x40
                refine ls_on (j := 33) (t := 36) (b := true) rfl rfl (by kernel_rfl) (by kernel_rfl) ?_
                refine lv (.bool t38) ?_
                refine lv (.bool t38) ?_
                refine lv (.bool t38) ?_
                by_cases q41 : t38 = true
                · replace H := ite_t q41 H
                  refine ls_know (c := true) (q41) 50 (by kernel_rfl) ?_
                  refine ls_on (j := 47) (t := 50) (b := true) rfl rfl (by kernel_rfl) (by kernel_rfl) ?_
                  refine ls_loadagg (a := ⟨g1, 0, none⟩) (sub := ([Value.int .i64 a0.1] ++ ([Value.int .i64 a0.2.1] ++ ([Value.int .i64 a0.2.2.1] ++ ([Value.int .i64 a0.2.2.2.1] ++ ([Value.string a0.2.2.2.2.1] ++ ([Value.string a0.2.2.2.2.2.1] ++ [Value.slice A0_6 a0.2.2.2.2.2.2.length c0_6]))))))) rfl rfl (by kernel_rfl) rfl (by kernel_rfl) (by kernel_rfl) (by kernel_rfl) (len_app (len1 _) (len_app (len1 _) (len_app (len1 _) (len_app (len1 _) (len_app (len1 _) (len_app (len1 _) (len1 _))))))) (fun w hs => (hs.vars (k := 0) (by exact rfl) (Sub4.all _))) ?_
                  refine ls_on (j := 47) (t := 50) (b := true) rfl rfl (by kernel_rfl) (by kernel_rfl) ?_
                  obtain ⟨t42, hc43, H⟩ := bind_some H
                  refine ls_callb (fid := 41) (vals := #[.agg ⟨([Value.int .i64 a0.1] ++ ([Value.int .i64 a0.2.1] ++ ([Value.int .i64 a0.2.2.1] ++ ([Value.int .i64 a0.2.2.2.1] ++ ([Value.string a0.2.2.2.2.1] ++ ([Value.string a0.2.2.2.2.2.1] ++ [Value.slice A0_6 a0.2.2.2.2.2.2.length c0_6]))))))⟩]) (X := (Option Addr × Nat)) (fun x => .slice x.1 t42.length x.2) (fun x => stl [Ck.ro (Ec.int 5 .u8) x.1 x.2 t42]) [] [] [] [] 1 rfl rfl (by kernel_rfl) (fun w => by kernel_rfl) trivial trivial (by decide) (fun w hs hb => record_Version_bytes.calls k A0_6 c0_6 (a0.1, a0.2.1, a0.2.2.1, a0.2.2.2.1, a0.2.2.2.2.1, a0.2.2.2.2.2.1, a0.2.2.2.2.2.2) t42 (lent b w [] []) hb (hs.ro R0_6 _ _) C0_6 hc43) ?_
                  intro x44
                  refine ls_on (j := 47) (t := 50) (b := true) rfl rfl (by kernel_rfl) (by kernel_rfl) ?_
                  refine lv (.int .i64 (t42.length : Int)) ?_
                  refine ls_on (j := 47) (t := 50) (b := true) rfl rfl (by kernel_rfl) (by kernel_rfl) ?_
                  refine lv (.bool (decide ((t42.length : Int) ≤ (400 : Int)))) ?_
                  refine lv (.bool (decide ((t42.length : Int) ≤ (400 : Int)))) ?_
                  refine lv (.bool (decide ((t42.length : Int) ≤ (400 : Int)))) ?_
                  refine ls_end ?_
                  refine qn_then ?_
                  refine cs_ret' ?_
                  obtain rfl := Option.some.inj H
                  refine qr_res (rs := [_]) rfl (fun w' hs => ⟨[.bool (decide ((t42.length : Int) ≤ (400 : Int)))], (res_tmp (by kernel_rfl) (.nil)), (), rfl, hs.pick (ts := []) (cs := []) trivial (by decide)⟩)
                replace H := ite_f q41 H
                refine ls_know (c := false) (Bool.eq_false_iff.mpr q41) 50 (by kernel_rfl) ?_
                refine lofx 47 50 true false ?_
                refine lofx 47 50 true false ?_
                refine lofx 47 50 true false ?_
                refine lofx 47 50 true false ?_
                refine lv (.bool false) ?_
                refine lv (.bool false) ?_
                refine ls_end ?_
                refine qn_then ?_
                refine cs_ret' ?_
                obtain rfl := Option.some.inj H
                refine qr_res (rs := [_]) rfl (fun w' hs => ⟨[.bool false], (res_tmp (by kernel_rfl) (.nil)), (), rfl, hs.pick (ts := []) (cs := []) trivial (by decide)⟩)
              replace H := ite_f q29 H
              refine ls_know (c := false) (Bool.eq_false_iff.mpr q29) 36 (by kernel_rfl) ?_
              refine lofx 33 36 true false ?_
              refine lofx 33 36 true false ?_
              refine lofx 33 36 true false ?_
              refine lofx 33 36 true false ?_
              refine ls_offu (j := 37) (t := 40) (b := false) rfl rfl (by kernel_rfl) (by kernel_rfl) rfl (by kernel_rfl) ?_
              refine ls_offu (j := 37) (t := 40) (b := false) rfl rfl (by kernel_rfl) (by kernel_rfl) rfl (by kernel_rfl) ?_
              refine ls_offu (j := 37) (t := 40) (b := false) rfl rfl (by kernel_rfl) (by kernel_rfl) rfl (by kernel_rfl) ?_
              refine lofx 33 36 true false ?_
              refine lofx 33 36 true false ?_
              refine ls_offu (j := 42) (t := 45) (b := false) rfl rfl (by kernel_rfl) (by kernel_rfl) rfl (by kernel_rfl) ?_
              refine ls_offu (j := 42) (t := 45) (b := false) rfl rfl (by kernel_rfl) (by kernel_rfl) rfl (by kernel_rfl) ?_
              refine lofx 33 36 true false ?_
              refine lv (.bool false) ?_
              refine lv (.bool false) ?_
              refine lofx 47 50 true false ?_
              refine lofx 47 50 true false ?_
              refine lofx 47 50 true false ?_
              refine lofx 47 50 true false ?_
              refine lv (.bool false) ?_
              refine lv (.bool false) ?_
              refine ls_end ?_
              refine qn_then ?_
              refine cs_ret' ?_
              obtain rfl := Option.some.inj H
              refine qr_res (rs := [_]) rfl (fun w' hs => ⟨[.bool false], (res_tmp (by kernel_rfl) (.nil)), (), rfl, hs.pick (ts := []) (cs := []) trivial (by decide)⟩)
            replace H := ite_f q25 H
            refine ls_know (c := false) (Bool.eq_false_iff.mpr q25) 31 (by kernel_rfl) ?_
            refine lofx 28 31 true false ?_
            refine lofx 28 31 true false ?_
            refine lofx 28 31 true false ?_
            refine lv (.bool false) ?_
            refine lv (.bool false) ?_
            refine lofx 33 36 true false ?_
            refine lofx 33 36 true false ?_
            refine lofx 33 36 true false ?_
            refine lofx 33 36 true false ?_
            refine ls_offu (j := 37) (t := 40) (b := false) rfl rfl (by kernel_rfl) (by kernel_rfl) rfl (by kernel_rfl) ?_
            refine ls_offu (j := 37) (t := 40) (b := false) rfl rfl (by kernel_rfl) (by kernel_rfl) rfl (by kernel_rfl) ?_
            refine ls_offu (j := 37) (t := 40) (b := false) rfl rfl (by kernel_rfl) (by kernel_rfl) rfl (by kernel_rfl) ?_
            refine lofx 33 36 true false ?_
            refine lofx 33 36 true false ?_
            refine ls_offu (j := 42) (t := 45) (b := false) rfl rfl (by kernel_rfl) (by kernel_rfl) rfl (by kernel_rfl) ?_
            refine ls_offu (j := 42) (t := 45) (b := false) rfl rfl (by kernel_rfl) (by kernel_rfl) rfl (by kernel_rfl) ?_
            refine lofx 33 36 true false ?_
            refine lv (.bool false) ?_
            refine lv (.bool false) ?_
            refine lofx 47 50 true false ?_
            refine lofx 47 50 true false ?_
            refine lofx 47 50 true false ?_
            refine lofx 47 50 true false ?_
            refine lv (.bool false) ?_
            refine lv (.bool false) ?_
            refine ls_end ?_
            refine qn_then ?_
            refine cs_ret' ?_
            obtain rfl := Option.some.inj H
            refine qr_res (rs := [_]) rfl (fun w' hs => ⟨[.bool false], (res_tmp (by kernel_rfl) (.nil)), (), rfl, hs.pick (ts := []) (cs := []) trivial (by decide)⟩)
          replace H := ite_f q21 H
          refine ls_know (c := false) (Bool.eq_false_iff.mpr q21) 26 (by kernel_rfl) ?_
          refine lofx 23 26 true false ?_
          refine lofx 23 26 true false ?_
          refine lofx 23 26 true false ?_
          refine lv (.bool false) ?_
          refine lv (.bool false) ?_
          refine lofx 28 31 true false ?_
          refine lofx 28 31 true false ?_
          refine lofx 28 31 true false ?_
          refine lv (.bool false) ?_
          refine lv (.bool false) ?_
          refine lofx 33 36 true false ?_
          refine lofx 33 36 true false ?_
          refine lofx 33 36 true false ?_
          refine lofx 33 36 true false ?_
          refine ls_offu (j := 37) (t := 40) (b := false) rfl rfl (by kernel_rfl) (by kernel_rfl) rfl (by kernel_rfl) ?_
          refine ls_offu (j := 37) (t := 40) (b := false) rfl rfl (by kernel_rfl) (by kernel_rfl) rfl (by kernel_rfl) ?_
          refine ls_offu (j := 37) (t := 40) (b := false) rfl rfl (by kernel_rfl) (by kernel_rfl) rfl (by kernel_rfl) ?_
          refine lofx 33 36 true false ?_
          refine lofx 33 36 true false ?_
          refine ls_offu (j := 42) (t := 45) (b := false) rfl rfl (by kernel_rfl) (by kernel_rfl) rfl (by kernel_rfl) ?_
          refine ls_offu (j := 42) (t := 45) (b := false) rfl rfl (by kernel_rfl) (by kernel_rfl) rfl (by kernel_rfl) ?_
          refine lofx 33 36 true false ?_
          refine lv (.bool false) ?_
          refine lv (.bool false) ?_
          refine lofx 47 50 true false ?_
          refine lofx 47 50 true false ?_
          refine lofx 47 50 true false ?_
          refine lofx 47 50 true false ?_
          refine lv (.bool false) ?_
          refine lv (.bool false) ?_
          refine ls_end ?_
          refine qn_then ?_
          refine cs_ret' ?_
          obtain rfl := Option.some.inj H
          refine qr_res (rs := [_]) rfl (fun w' hs => ⟨[.bool false], (res_tmp (by kernel_rfl) (.nil)), (), rfl, hs.pick (ts := []) (cs := []) trivial (by decide)⟩)
        replace H := ite_f q17 H
        refine ls_know (c := false) (Bool.eq_false_iff.mpr q17) 21 (by kernel_rfl) ?_
        refine lofx 18 21 true false ?_
        refine lofx 18 21 true false ?_
        refine lofx 18 21 true false ?_
        refine lv (.bool false) ?_
        refine lv (.bool false) ?_
        refine lofx 23 26 true false ?_
        refine lofx 23 26 true false ?_
        refine lofx 23 26 true false ?_
        refine lv (.bool false) ?_
        refine lv (.bool false) ?_
        refine lofx 28 31 true false ?_
        refine lofx 28 31 true false ?_
        refine lofx 28 31 true false ?_
        refine lv (.bool false) ?_
        refine lv (.bool false) ?_
        refine lofx 33 36 true false ?_
        refine lofx 33 36 true false ?_
        refine lofx 33 36 true false ?_
        refine lofx 33 36 true false ?_
        refine ls_offu (j := 37) (t := 40) (b := false) rfl rfl (by kernel_rfl) (by kernel_rfl) rfl (by kernel_rfl) ?_
        refine ls_offu (j := 37) (t := 40) (b := false) rfl rfl (by kernel_rfl) (by kernel_rfl) rfl (by kernel_rfl) ?_
        refine ls_offu (j := 37) (t := 40) (b := false) rfl rfl (by kernel_rfl) (by kernel_rfl) rfl (by kernel_rfl) ?_
        refine lofx 33 36 true false ?_
        refine lofx 33 36 true false ?_
        refine ls_offu (j := 42) (t := 45) (b := false) rfl rfl (by kernel_rfl) (by kernel_rfl) rfl (by kernel_rfl) ?_
        refine ls_offu (j := 42) (t := 45) (b := false) rfl rfl (by kernel_rfl) (by kernel_rfl) rfl (by kernel_rfl) ?_
        refine lofx 33 36 true false ?_
        refine lv (.bool false) ?_
        refine lv (.bool false) ?_
        refine lofx 47 50 true false ?_
        refine lofx 47 50 true false ?_
        refine lofx 47 50 true false ?_
        refine lofx 47 50 true false ?_
        refine lv (.bool false) ?_
        refine lv (.bool false) ?_
        refine ls_end ?_
        refine qn_then ?_
        refine cs_ret' ?_
        obtain rfl := Option.some.inj H
        refine qr_res (rs := [_]) rfl (fun w' hs => ⟨[.bool false], (res_tmp (by kernel_rfl) (.nil)), (), rfl, hs.pick (ts := []) (cs := []) trivial (by decide)⟩)
      replace H := ite_f q13 H
      refine ls_know (c := false) (Bool.eq_false_iff.mpr q13) 16 (by kernel_rfl) ?_
      refine lofx 13 16 true false ?_
      refine lofx 13 16 true false ?_
      refine lofx 13 16 true false ?_
      refine lv (.bool false) ?_
      refine lv (.bool false) ?_
      refine lofx 18 21 true false ?_
      refine lofx 18 21 true false ?_
      refine lofx 18 21 true false ?_
      refine lv (.bool false) ?_
      refine lv (.bool false) ?_
      refine lofx 23 26 true false ?_
      refine lofx 23 26 true false ?_
      refine lofx 23 26 true false ?_
      refine lv (.bool false) ?_
      refine lv (.bool false) ?_
      refine lofx 28 31 true false ?_
      refine lofx 28 31 true false ?_
      refine lofx 28 31 true false ?_
      refine lv (.bool false) ?_
      refine lv (.bool false) ?_
      refine lofx 33 36 true false ?_
      refine lofx 33 36 true false ?_
      refine lofx 33 36 true false ?_
      refine lofx 33 36 true false ?_
      refine ls_offu (j := 37) (t := 40) (b := false) rfl rfl (by kernel_rfl) (by kernel_rfl) rfl (by kernel_rfl) ?_
      refine ls_offu (j := 37) (t := 40) (b := false) rfl rfl (by kernel_rfl) (by kernel_rfl) rfl (by kernel_rfl) ?_
      refine ls_offu (j := 37) (t := 40) (b := false) rfl rfl (by kernel_rfl) (by kernel_rfl) rfl (by kernel_rfl) ?_
      refine lofx 33 36 true false ?_
      refine lofx 33 36 true false ?_
      refine ls_offu (j := 42) (t := 45) (b := false) rfl rfl (by kernel_rfl) (by kernel_rfl) rfl (by kernel_rfl) ?_
      refine ls_offu (j := 42) (t := 45) (b := false) rfl rfl (by kernel_rfl) (by kernel_rfl) rfl (by kernel_rfl) ?_
      refine lofx 33 36 true false ?_
      refine lv (.bool false) ?_
      refine lv (.bool false) ?_
      refine lofx 47 50 true false ?_
      refine lofx 47 50 true false ?_
      refine lofx 47 50 true false ?_
      refine lofx 47 50 true false ?_
      refine lv (.bool false) ?_
      refine lv (.bool false) ?_
      refine ls_end ?_
      refine qn_then ?_
      refine cs_ret' ?_
      obtain rfl := Option.some.inj H
      refine qr_res (rs := [_]) rfl (fun w' hs => ⟨[.bool false], (res_tmp (by kernel_rfl) (.nil)), (), rfl, hs.pick (ts := []) (cs := []) trivial (by decide)⟩)
    replace H := ite_f q9 H
    refine ls_know (c := false) (Bool.eq_false_iff.mpr q9) 11 (by kernel_rfl) ?_
    refine lofx 8 11 true false ?_
    refine lofx 8 11 true false ?_
    refine lofx 8 11 true false ?_
    refine lv (.bool false) ?_
    refine lv (.bool false) ?_
    refine lofx 13 16 true false ?_
    refine lofx 13 16 true false ?_
    refine lofx 13 16 true false ?_
    refine lv (.bool false) ?_
    refine lv (.bool false) ?_
    refine lofx 18 21 true false ?_
    refine lofx 18 21 true false ?_
    refine lofx 18 21 true false ?_
    refine lv (.bool false) ?_
    refine lv (.bool false) ?_
    refine lofx 23 26 true false ?_
    refine lofx 23 26 true false ?_
    refine lofx 23 26 true false ?_
    refine lv (.bool false) ?_
    refine lv (.bool false) ?_
    refine lofx 28 31 true false ?_
    refine lofx 28 31 true false ?_
    refine lofx 28 31 true false ?_
    refine lv (.bool false) ?_
    refine lv (.bool false) ?_
    refine lofx 33 36 true false ?_
    refine lofx 33 36 true false ?_
    refine lofx 33 36 true false ?_
    refine lofx 33 36 true false ?_
    refine ls_offu (j := 37) (t := 40) (b := false) rfl rfl (by kernel_rfl) (by kernel_rfl) rfl (by kernel_rfl) ?_
    refine ls_offu (j := 37) (t := 40) (b := false) rfl rfl (by kernel_rfl) (by kernel_rfl) rfl (by kernel_rfl) ?_
    refine ls_offu (j := 37) (t := 40) (b := false) rfl rfl (by kernel_rfl) (by kernel_rfl) rfl (by kernel_rfl) ?_
    refine lofx 33 36 true false ?_
    refine lofx 33 36 true false ?_
    refine ls_offu (j := 42) (t := 45) (b := false) rfl rfl (by kernel_rfl) (by kernel_rfl) rfl (by kernel_rfl) ?_
    refine ls_offu (j := 42) (t := 45) (b := false) rfl rfl (by kernel_rfl) (by kernel_rfl) rfl (by kernel_rfl) ?_
    refine lofx 33 36 true false ?_
    refine lv (.bool false) ?_
    refine lv (.bool false) ?_
    refine lofx 47 50 true false ?_
    refine lofx 47 50 true false ?_
    refine lofx 47 50 true false ?_
    refine lofx 47 50 true false ?_
    refine lv (.bool false) ?_
    refine lv (.bool false) ?_
    refine ls_end ?_
    refine qn_then ?_
    refine cs_ret' ?_
    obtain rfl := Option.some.inj H
    refine qr_res (rs := [_]) rfl (fun w' hs => ⟨[.bool false], (res_tmp (by kernel_rfl) (.nil)), (), rfl, hs.pick (ts := []) (cs := []) trivial (by decide)⟩)
  replace H := ite_f q5 H
  refine ls_know (c := false) (Bool.eq_false_iff.mpr q5) 6 (by kernel_rfl) ?_
  refine lofx 3 6 true false ?_
  refine lofx 3 6 true false ?_
  refine lofx 3 6 true false ?_
  refine lv (.bool false) ?_
  refine lv (.bool false) ?_
  refine lofx 8 11 true false ?_
  refine lofx 8 11 true false ?_
  refine lofx 8 11 true false ?_
  refine lv (.bool false) ?_
  refine lv (.bool false) ?_
  refine lofx 13 16 true false ?_
  refine lofx 13 16 true false ?_
  refine lofx 13 16 true false ?_
  refine lv (.bool false) ?_
  refine lv (.bool false) ?_
  refine lofx 18 21 true false ?_
  refine lofx 18 21 true false ?_
  refine lofx 18 21 true false ?_
  refine lv (.bool false) ?_
  refine lv (.bool false) ?_
  refine lofx 23 26 true false ?_
  refine lofx 23 26 true false ?_
  refine lofx 23 26 true false ?_
  refine lv (.bool false) ?_
  refine lv (.bool false) ?_
  refine lofx 28 31 true false ?_
  refine lofx 28 31 true false ?_
  refine lofx 28 31 true false ?_
  refine lv (.bool false) ?_
  refine lv (.bool false) ?_
  refine lofx 33 36 true false ?_
  refine lofx 33 36 true false ?_
  refine lofx 33 36 true false ?_
  refine lofx 33 36 true false ?_
  refine ls_offu (j := 37) (t := 40) (b := false) rfl rfl (by kernel_rfl) (by kernel_rfl) rfl (by kernel_rfl) ?_
  refine ls_offu (j := 37) (t := 40) (b := false) rfl rfl (by kernel_rfl) (by kernel_rfl) rfl (by kernel_rfl) ?_
  refine ls_offu (j := 37) (t := 40) (b := false) rfl rfl (by kernel_rfl) (by kernel_rfl) rfl (by kernel_rfl) ?_
  refine lofx 33 36 true false ?_
  refine lofx 33 36 true false ?_
  refine ls_offu (j := 42) (t := 45) (b := false) rfl rfl (by kernel_rfl) (by kernel_rfl) rfl (by kernel_rfl) ?_
  refine ls_offu (j := 42) (t := 45) (b := false) rfl rfl (by kernel_rfl) (by kernel_rfl) rfl (by kernel_rfl) ?_
  refine lofx 33 36 true false ?_
  refine lv (.bool false) ?_
  refine lv (.bool false) ?_
  refine lofx 47 50 true false ?_
  refine lofx 47 50 true false ?_
  refine lofx 47 50 true false ?_
  refine lofx 47 50 true false ?_
  refine lv (.bool false) ?_
  refine lv (.bool false) ?_
  refine ls_end ?_
  refine qn_then ?_
  refine cs_ret' ?_
  obtain rfl := Option.some.inj H
  refine qr_res (rs := [_]) rfl (fun w' hs => ⟨[.bool false], (res_tmp (by kernel_rfl) (.nil)), (), rfl, hs.pick (ts := []) (cs := []) trivial (by decide)⟩)

/-! ### shadowbox/record.Put: function 21 -/
def record_Put.f (k : Nat) (a0 : (Int × Int × Int × Int × ByteArray × ByteArray × (List (ByteArray × ByteArray)))) : Option ((List Int) × Int) :=
  (record_Right.f k (a0.1, a0.2.1, a0.2.2.1, a0.2.2.2.1, a0.2.2.2.2.1, a0.2.2.2.2.2.1, a0.2.2.2.2.2.2)).bind fun t2 => (if t2 = true then (record_Version_bytes.f k (a0.1, a0.2.1, a0.2.2.1, a0.2.2.2.1, a0.2.2.2.2.1, a0.2.2.2.2.2.1, a0.2.2.2.2.2.2)).bind fun t6 => some (t6, (0 : Int)) else some (([] : List Int), (2 : Int)))
set_option maxRecDepth 100000 in
set_option maxHeartbeats 4000000 in
theorem record_Put.calls (k : Nat) (A0_6 : Option Addr) (c0_6 : Nat) (a0 : (Int × Int × Int × Int × ByteArray × ByteArray × (List (ByteArray × ByteArray)))) (r : (List Int) × Int) (b : Bs) (hs0 : St b (stl []) b.w) (R0_6 : Ro b A0_6 (em T67 a0.2.2.2.2.2.2)) (C0_6 : a0.2.2.2.2.2.2.length ≤ c0_6) (H : record_Put.f k a0 = some r) :
    Calls Try.prog 21 #[.agg ⟨([Value.int .i64 a0.1] ++ ([Value.int .i64 a0.2.1] ++ ([Value.int .i64 a0.2.2.1] ++ ([Value.int .i64 a0.2.2.2.1] ++ ([Value.string a0.2.2.2.2.1] ++ ([Value.string a0.2.2.2.2.2.1] ++ [Value.slice A0_6 a0.2.2.2.2.2.2.length c0_6]))))))⟩] b.w fun e w' => ∃ x : (Option Addr × Nat), e = .returned (.tuple #[.slice x.1 r.1.length x.2, .int .i64 r.2]) ∧ St b (stl [Ck.ro (Ec.int 5 .u8) x.1 x.2 r.1]) w' := by
  unfold record_Put.f at H
  refine enterb (n := 9) Try.func21 rfl (by kernel_rfl) (by kernel_rfl) hs0 ?_
  refine cs_sub (s0) (sub_nil _) ?_
  refine cs_seq ?_
  refine cs_region (l := [_, _, _]) ?_
  refine ls_new rfl rfl (by kernel_rfl) 0 (fun g => .pointer (some ⟨g, 0, none⟩)) (.cells ⟨([Value.int .i64 a0.1] ++ ([Value.int .i64 a0.2.1] ++ ([Value.int .i64 a0.2.2.1] ++ ([Value.int .i64 a0.2.2.2.1] ++ ([Value.string a0.2.2.2.2.1] ++ ([Value.string a0.2.2.2.2.2.1] ++ [Value.slice A0_6 a0.2.2.2.2.2.2.length c0_6]))))))⟩ 51) (fun w => by kernel_rfl) ?_
  intro g1
  refine lv (.slice none 0 0) ?_
  refine lv (.int .i64 (0 : Int)) ?_
  refine ls_end ?_
  refine qn_then ?_
  refine cs_seq ?_
  refine cs_seq ?_
  refine cs_region (l := [_, _, _]) ?_
  refine ls_loadagg (a := ⟨g1, 0, none⟩) (sub := ([Value.int .i64 a0.1] ++ ([Value.int .i64 a0.2.1] ++ ([Value.int .i64 a0.2.2.1] ++ ([Value.int .i64 a0.2.2.2.1] ++ ([Value.string a0.2.2.2.2.1] ++ ([Value.string a0.2.2.2.2.2.1] ++ [Value.slice A0_6 a0.2.2.2.2.2.2.length c0_6]))))))) rfl rfl (by kernel_rfl) rfl (by kernel_rfl) (by kernel_rfl) (by kernel_rfl) (len_app (len1 _) (len_app (len1 _) (len_app (len1 _) (len_app (len1 _) (len_app (len1 _) (len_app (len1 _) (len1 _))))))) (fun w hs => (hs.vars (k := 0) (by exact rfl) (Sub4.all _))) ?_
  obtain ⟨t2, hc3, H⟩ := bind_some H
  refine ls_callb (fid := 25) (vals := #[.agg ⟨([Value.int .i64 a0.1] ++ ([Value.int .i64 a0.2.1] ++ ([Value.int .i64 a0.2.2.1] ++ ([Value.int .i64 a0.2.2.2.1] ++ ([Value.string a0.2.2.2.2.1] ++ ([Value.string a0.2.2.2.2.2.1] ++ [Value.slice A0_6 a0.2.2.2.2.2.2.length c0_6]))))))⟩]) (X := Unit) (fun x => .bool t2) (fun x => stl []) [] [] [] [] 1 rfl rfl (by kernel_rfl) (fun w => by kernel_rfl) trivial trivial (by decide) (fun w hs hb => record_Right.calls k A0_6 c0_6 (a0.1, a0.2.1, a0.2.2.1, a0.2.2.2.1, a0.2.2.2.2.1, a0.2.2.2.2.2.1, a0.2.2.2.2.2.2) t2 (lent b w [] []) hb (hs.ro R0_6 _ _) C0_6 hc3) ?_
  intro x4
  refine lv (.bool (!t2)) ?_
  refine ls_end ?_
  refine qn_then ?_
  by_cases q5 : t2 = true
  · replace H := ite_t q5 H
    refine cs_know (c := false) (congrArg Bool.not (q5)) 6 (by kernel_rfl) ?_
    refine cs_false (by kernel_rfl) ?_
    refine cs_skip' ?_
    refine qn_then ?_
    refine cs_seq ?_
    refine cs_region (l := [_, _, _, _]) ?_
    refine ls_loadagg (a := ⟨g1, 0, none⟩) (sub := ([Value.int .i64 a0.1] ++ ([Value.int .i64 a0.2.1] ++ ([Value.int .i64 a0.2.2.1] ++ ([Value.int .i64 a0.2.2.2.1] ++ ([Value.string a0.2.2.2.2.1] ++ ([Value.string a0.2.2.2.2.2.1] ++ [Value.slice A0_6 a0.2.2.2.2.2.2.length c0_6]))))))) rfl rfl (by kernel_rfl) rfl (by kernel_rfl) (by kernel_rfl) (by kernel_rfl) (len_app (len1 _) (len_app (len1 _) (len_app (len1 _) (len_app (len1 _) (len_app (len1 _) (len_app (len1 _) (len1 _))))))) (fun w hs => (hs.vars (k := 0) (by exact rfl) (Sub4.all _))) ?_
    obtain ⟨t6, hc7, H⟩ := bind_some H
    refine ls_callb (fid := 41) (vals := #[.agg ⟨([Value.int .i64 a0.1] ++ ([Value.int .i64 a0.2.1] ++ ([Value.int .i64 a0.2.2.1] ++ ([Value.int .i64 a0.2.2.2.1] ++ ([Value.string a0.2.2.2.2.1] ++ ([Value.string a0.2.2.2.2.2.1] ++ [Value.slice A0_6 a0.2.2.2.2.2.2.length c0_6]))))))⟩]) (X := (Option Addr × Nat)) (fun x => .slice x.1 t6.length x.2) (fun x => stl [Ck.ro (Ec.int 5 .u8) x.1 x.2 t6]) [] [] [] [] 1 rfl rfl (by kernel_rfl) (fun w => by kernel_rfl) trivial trivial (by decide) (fun w hs hb => record_Version_bytes.calls k A0_6 c0_6 (a0.1, a0.2.1, a0.2.2.1, a0.2.2.2.1, a0.2.2.2.2.1, a0.2.2.2.2.2.1, a0.2.2.2.2.2.2) t6 (lent b w [] []) hb (hs.ro R0_6 _ _) C0_6 hc7) ?_
    intro x8
    refine lv (.slice x8.1 t6.length x8.2) ?_
    refine lv (.int .i64 (0 : Int)) ?_
    refine ls_end ?_
    refine qn_then ?_
    refine cs_ret' ?_
    obtain rfl := Option.some.inj H
    refine qr_res (rs := [_, _]) rfl (fun w' hs => ⟨[.slice x8.1 t6.length x8.2, .int .i64 (0 : Int)], (res_tmp (by kernel_rfl) (res_tmp (by kernel_rfl) (.nil))), (x8.1, x8.2), rfl, hs.pick (ts := [1]) (cs := [Ck.ro (Ec.int 5 .u8) x8.1 x8.2 t6]) ⟨by exact rfl, trivial⟩ (by decide)⟩)
  replace H := ite_f q5 H
  refine cs_know (c := true) (congrArg Bool.not (Bool.eq_false_iff.mpr q5)) 6 (by kernel_rfl) ?_
  refine cs_true (by kernel_rfl) ?_
  refine cs_seq ?_
  refine cs_region (l := [_, _]) ?_
  refine lv (.slice none 0 0) ?_
  refine lv (.int .i64 (2 : Int)) ?_
  refine ls_end ?_
  refine qn_then ?_
  refine cs_ret' ?_
  refine qr_then ?_
  refine qr_nilro 1 (Ec.int 5 .u8) ?_
  obtain rfl := Option.some.inj H
  refine qr_res (rs := [_, _]) rfl (fun w' hs => ⟨[.slice none 0 0, .int .i64 (2 : Int)], (res_tmp (by kernel_rfl) (res_tmp (by kernel_rfl) (.nil))), (none, 0), rfl, hs.pick (ts := [1]) (cs := [Ck.ro (Ec.int 5 .u8) none 0 ([] : List Int)]) ⟨by exact rfl, trivial⟩ (by decide)⟩)

/-! ### shadowbox/shadowboxref01.Short: function 75 -/
def shadowboxref01_Short.lo1 : Nat → Int → (List Int) → Option ((List Int))
  | 0, _, _ => none
  | k1 + 1, x1_1, l5_1 => (if x1_1 ≥ (128 : Int) then lt (IntKind.wrap .u64 ((Int.tmod x1_1 (128 : Int)) + (128 : Int))) fun y6 => (if (l5_1.length + ([IntKind.wrap .u8 y6]).length) * 1 ≤ 140737488355328 then lt (IntKind.wrap .u64 (Int.tdiv x1_1 (128 : Int))) fun y12 => (shadowboxref01_Short.lo1 k1) y12 (l5_1 ++ [IntKind.wrap .u8 y6]) else none) else (if (l5_1.length + ([IntKind.wrap .u8 x1_1]).length) * 1 ≤ 140737488355328 then some (l5_1 ++ [IntKind.wrap .u8 x1_1]) else none))
def shadowboxref01_Short.f (k : Nat) (l0 : List Int) (a1 : Int) : Option ((List Int)) :=
  (if (([] : List Int).length + l0.length) * 1 ≤ 140737488355328 then shadowboxref01_Short.lo1 k a1 (([] : List Int) ++ l0) else none)
set_option maxRecDepth 100000 in
set_option maxHeartbeats 4000000 in
theorem shadowboxref01_Short.calls (k : Nat) (A0 : Option Addr) (c0 : Nat) (l0 : List Int) (a1 : Int) (r : (List Int)) (b : Bs) (hs0 : St b (stl []) b.w) (R0 : Ro b A0 (em (Ec.int 5 .u8) l0)) (C0 : l0.length ≤ c0) (H : shadowboxref01_Short.f k l0 a1 = some r) :
    Calls Try.prog 75 #[.slice A0 l0.length c0, .int .u64 a1] b.w fun e w' => ∃ x : (Option Addr × Nat), e = .returned (.slice x.1 r.length x.2) ∧ St b (stl [Ck.sl (Ec.int 5 .u8) x.1 x.2 r]) w' := by
  unfold shadowboxref01_Short.f at H
  refine enterb (n := 25) Try.func75 rfl (by kernel_rfl) (by kernel_rfl) hs0 ?_
  refine cs_sub (s0) (sub_nil _) ?_
  refine cs_seq ?_
  refine cs_region (l := [_]) ?_
  refine lv (.slice none 0 0) ?_
  refine ls_end ?_
  refine qn_then ?_
  refine cs_seq ?_
  refine cs_region (l := [_, _, _, _]) ?_
  refine ls_lit (Ec.int 5 .u8) 0 rfl rfl (by kernel_rfl) ([] : List Int) (by exact of_decide_eq_true (by kernel_rfl)) (fun w => by kernel_rfl) ?_
  intro g1
  refine lv (.slice A0 l0.length c0) ?_
  obtain ⟨q2, H⟩ := ite_need H
  refine ls_app (Ec.int 5 .u8) (A := (some ⟨g1, 0, none⟩)) (c := ([] : List Int).length) (B := A0) (cb := c0) (z := (Value.int .u8 0)) (l := ([] : List Int)) (m := l0) (bytes := 1) 0 rfl rfl (by kernel_rfl) rfl (by kernel_rfl) (by exact rfl) (by kernel_rfl) (fun w hs => (hs.old R0)) (by kernel_rfl) (by kernel_rfl) rfl (by decide) q2 ?_
  intro xA3 xc4
  refine lv (.slice xA3 (([] : List Int) ++ l0).length xc4) ?_
  refine ls_end ?_
  refine qn_then ?_
  refine cs_seq ?_
  refine cs_block ?_
  refine cs_sub (sput s0 0 (some (Ck.sl (Ec.int 5 .u8) xA3 xc4 (([] : List Int) ++ l0)))) (sub_put (by exact rfl) (sub_nil _)) ?_
  refine cs_loop (fun kk f S => ∃ (fR : Fr) (x1_1 : Int) (A5_1 : Option Addr) (c5_1 : Nat) (l5_1 : List Int), f = upd (upd fR 1 (.int .u64 x1_1)) 5 (.slice A5_1 l5_1.length c5_1) ∧ S = sput s0 0 (some (Ck.sl (Ec.int 5 .u8) A5_1 c5_1 l5_1)) ∧ shadowboxref01_Short.lo1 kk x1_1 l5_1 = some r) k ?_ ?_ ?_
  · exact ⟨_, a1, xA3, xc4, (([] : List Int) ++ l0), fr_next (fr_next (rfl) (by kernel_rfl)) (by kernel_rfl), rfl, H⟩
  · rintro f S ⟨fr1, x1_1, A5_1, c5_1, l5_1, rfl, rfl, H⟩; cases H
  rintro k1 f S ⟨fr1, x1_1, A5_1, c5_1, l5_1, rfl, rfl, H⟩
  replace H : ((if x1_1 ≥ (128 : Int) then lt (IntKind.wrap .u64 ((Int.tmod x1_1 (128 : Int)) + (128 : Int))) fun y6 => (if (l5_1.length + ([IntKind.wrap .u8 y6]).length) * 1 ≤ 140737488355328 then lt (IntKind.wrap .u64 (Int.tdiv x1_1 (128 : Int))) fun y12 => (shadowboxref01_Short.lo1 k1) y12 (l5_1 ++ [IntKind.wrap .u8 y6]) else none) else (if (l5_1.length + ([IntKind.wrap .u8 x1_1]).length) * 1 ≤ 140737488355328 then some (l5_1 ++ [IntKind.wrap .u8 x1_1]) else none))) = some r := H
  refine cs_seq ?_
  refine cs_seq ?_
  refine cs_region (l := [_, _]) ?_
  refine lv (.int .u64 x1_1) ?_
  refine lv (.bool (decide (x1_1 ≥ (128 : Int)))) ?_
  refine ls_end ?_
  refine qn_then ?_
  by_cases q5 : x1_1 ≥ (128 : Int)
  · replace H := ite_t q5 H
    refine cs_know (c := true) (dec_t q5) 10 (by kernel_rfl) ?_
    refine cs_true (by kernel_rfl) ?_
    refine cs_skip' ?_
    refine qn_then ?_
    refine cs_block ?_
    refine cs_seq ?_
    refine cs_region (l := [_, _, _, _, _, _, _, _]) ?_
    refine lv (.slice A5_1 l5_1.length c5_1) ?_
    refine lv (.int .u64 x1_1) ?_
    refine lv (.int .u64 (Int.tmod x1_1 (128 : Int))) ?_
    obtain ⟨y6, hy7, H⟩ := lt_some H
    refine lv (.int .u64 (IntKind.wrap .u64 ((Int.tmod x1_1 (128 : Int)) + (128 : Int)))) ?_
    refine ls_ren 14 (v := .int .u64 (IntKind.wrap .u64 ((Int.tmod x1_1 (128 : Int)) + (128 : Int)))) (v' := .int .u64 y6) (by kernel_rfl) (by rw [hy7]) ?_
    refine lv (.int .u8 (IntKind.wrap .u8 y6)) ?_
    refine ls_lit (Ec.int 5 .u8) 1 rfl rfl (by kernel_rfl) ([IntKind.wrap .u8 y6]) (by exact of_decide_eq_true (by kernel_rfl)) (fun w => by kernel_rfl) ?_
    intro g8
    obtain ⟨q9, H⟩ := ite_need H
    refine ls_app (Ec.int 5 .u8) (A := A5_1) (c := c5_1) (B := (some ⟨g8, 0, none⟩)) (cb := [IntKind.wrap .u8 y6].length) (z := (Value.int .u8 0)) (l := l5_1) (m := [IntKind.wrap .u8 y6]) (bytes := 1) 0 rfl rfl (by kernel_rfl) rfl (by kernel_rfl) (by exact rfl) (by kernel_rfl) (fun w hs => (hs.rd (k := 1) (by exact rfl))) (by kernel_rfl) (by kernel_rfl) rfl (by decide) q9 ?_
    intro xA10 xc11
    refine lv (.slice xA10 (l5_1 ++ [IntKind.wrap .u8 y6]).length xc11) ?_
    refine ls_end ?_
    refine qn_then ?_
    refine cs_region (l := [_, _, _]) ?_
    refine lv (.int .u64 x1_1) ?_
    obtain ⟨y12, hy13, H⟩ := lt_some H
    refine lv (.int .u64 (IntKind.wrap .u64 (Int.tdiv x1_1 (128 : Int)))) ?_
    refine ls_ren 19 (v := .int .u64 (IntKind.wrap .u64 (Int.tdiv x1_1 (128 : Int)))) (v' := .int .u64 y12) (by kernel_rfl) (by rw [hy13]) ?_
    refine lv (.int .u64 y12) ?_
    refine ls_end ?_
    refine qn_block ?_
    refine qn_again k1 (sput s0 0 (some (Ck.sl (Ec.int 5 .u8) xA10 xc11 (l5_1 ++ [IntKind.wrap .u8 y6])))) (Nat.le_refl _) ⟨_, y12, xA10, xc11, (l5_1 ++ [IntKind.wrap .u8 y6]), fr_next (fr_next (rfl) (by kernel_rfl)) (by kernel_rfl), rfl, H⟩ (sub_put (by exact rfl) (sub_nil _))
  replace H := ite_f q5 H
  refine cs_know (c := false) (dec_f q5) 10 (by kernel_rfl) ?_
  refine cs_false (by kernel_rfl) ?_
  refine cs_exit' ?_
  refine qx_then ?_
  refine qx_then ?_
  refine qx_same ?_
  refine qn_then ?_
  refine cs_seq ?_
  refine cs_region (l := [_, _, _, _, _, _]) ?_
  refine lv (.slice A5_1 l5_1.length c5_1) ?_
  refine lv (.int .u64 x1_1) ?_
  refine lv (.int .u8 (IntKind.wrap .u8 x1_1)) ?_
  refine ls_lit (Ec.int 5 .u8) 1 rfl rfl (by kernel_rfl) ([IntKind.wrap .u8 x1_1]) (by exact of_decide_eq_true (by kernel_rfl)) (fun w => by kernel_rfl) ?_
  intro g14
  obtain ⟨q15, H⟩ := ite_need H
  refine ls_app (Ec.int 5 .u8) (A := A5_1) (c := c5_1) (B := (some ⟨g14, 0, none⟩)) (cb := [IntKind.wrap .u8 x1_1].length) (z := (Value.int .u8 0)) (l := l5_1) (m := [IntKind.wrap .u8 x1_1]) (bytes := 1) 0 rfl rfl (by kernel_rfl) rfl (by kernel_rfl) (by exact rfl) (by kernel_rfl) (fun w hs => (hs.rd (k := 1) (by exact rfl))) (by kernel_rfl) (by kernel_rfl) rfl (by decide) q15 ?_
  intro xA16 xc17
  refine lv (.slice xA16 (l5_1 ++ [IntKind.wrap .u8 x1_1]).length xc17) ?_
  refine ls_end ?_
  refine qn_then ?_
  refine cs_ret' ?_
  obtain rfl := Option.some.inj H
  refine qr_res (rs := [_]) rfl (fun w' hs => ⟨[.slice xA16 (l5_1 ++ [IntKind.wrap .u8 x1_1]).length xc17], (res_tmp (by kernel_rfl) (.nil)), (xA16, xc17), rfl, hs.pick (ts := [0]) (cs := [Ck.sl (Ec.int 5 .u8) xA16 xc17 (l5_1 ++ [IntKind.wrap .u8 x1_1])]) ⟨by exact rfl, trivial⟩ (by decide)⟩)

/-! ### shadowbox/shadowboxref01.Text: function 76 -/
def shadowboxref01_Text.f (k : Nat) (l0 : List Int) (a1 : ByteArray) : Option ((List Int)) :=
  (shadowboxref01_Short.f k l0 (IntKind.wrap .u64 (a1.size : Int))).bind fun t1 => (if t1.length + a1.size ≤ 140737488355328 then some (t1 ++ bl a1) else none)
set_option maxRecDepth 100000 in
set_option maxHeartbeats 4000000 in
theorem shadowboxref01_Text.calls (k : Nat) (A0 : Option Addr) (c0 : Nat) (l0 : List Int) (a1 : ByteArray) (r : (List Int)) (b : Bs) (hs0 : St b (stl []) b.w) (R0 : Ro b A0 (em (Ec.int 5 .u8) l0)) (C0 : l0.length ≤ c0) (H : shadowboxref01_Text.f k l0 a1 = some r) :
    Calls Try.prog 76 #[.slice A0 l0.length c0, .string a1] b.w fun e w' => ∃ x : (Option Addr × Nat), e = .returned (.slice x.1 r.length x.2) ∧ St b (stl [Ck.sl (Ec.int 5 .u8) x.1 x.2 r]) w' := by
  unfold shadowboxref01_Text.f at H
  refine enterb (n := 12) Try.func76 rfl (by kernel_rfl) (by kernel_rfl) hs0 ?_
  refine cs_sub (s0) (sub_nil _) ?_
  refine cs_seq ?_
  refine cs_region (l := [_]) ?_
  refine lv (.slice none 0 0) ?_
  refine ls_end ?_
  refine qn_then ?_
  refine cs_seq ?_
  refine cs_region (l := [_, _, _, _, _, _, _, _]) ?_
  refine lv (.slice A0 l0.length c0) ?_
  refine lv (.string a1) ?_
  refine lv (.int .i64 (a1.size : Int)) ?_
  refine lv (.int .u64 (IntKind.wrap .u64 (a1.size : Int))) ?_
  obtain ⟨t1, hc2, H⟩ := bind_some H
  refine ls_callb (fid := 75) (vals := #[.slice A0 l0.length c0, .int .u64 (IntKind.wrap .u64 (a1.size : Int))]) (X := (Option Addr × Nat)) (fun x => .slice x.1 t1.length x.2) (fun x => stl [Ck.sl (Ec.int 5 .u8) x.1 x.2 t1]) [] [] [] [] 0 rfl rfl (by kernel_rfl) (fun w => by kernel_rfl) trivial trivial (by decide) (fun w hs hb => shadowboxref01_Short.calls k A0 c0 l0 (IntKind.wrap .u64 (a1.size : Int)) t1 (lent b w [] []) hb (hs.ro R0 _ _) C0 hc2) ?_
  intro x3
  refine lv (.string a1) ?_
  obtain ⟨q4, H⟩ := ite_need H
  refine ls_apps (A := x3.1) (c := x3.2) (e := 5) (l := t1) (y := a1) 0 rfl rfl (by kernel_rfl) rfl (by kernel_rfl) (by exact rfl) (by kernel_rfl) (by kernel_rfl) (by kernel_rfl) (by kernel_rfl) q4 ?_
  intro xA5 xc6
  refine lv (.slice xA5 (t1 ++ bl a1).length xc6) ?_
  refine ls_end ?_
  refine qn_then ?_
  refine cs_ret' ?_
  obtain rfl := Option.some.inj H
  refine qr_res (rs := [_]) rfl (fun w' hs => ⟨[.slice xA5 (t1 ++ bl a1).length xc6], (res_tmp (by kernel_rfl) (.nil)), (xA5, xc6), rfl, hs.pick (ts := [0]) (cs := [Ck.sl (Ec.int 5 .u8) xA5 xc6 (t1 ++ bl a1)]) ⟨by exact rfl, trivial⟩ (by decide)⟩)

/-! ### shadowbox/shadowboxref36.bytes: function 42 -/
def shadowboxref36_bytes.lo1 (a0 : (Int × Int × Int × Int × ByteArray × ByteArray × (List (ByteArray × ByteArray)))) : Nat → (List Int) → Int → Option ((List Int))
  | 0, _, _ => none
  | k1 + 1, l3_1, x4_1 => (if x4_1 < (a0.2.2.2.2.2.2.length : Int) then (if 0 ≤ x4_1 then lt (((a0.2.2.2.2.2.2).getD (x4_1).toNat (ByteArray.empty, ByteArray.empty)).1) fun y29 => (shadowboxref01_Text.f k1 l3_1 y29).bind fun t31 => lt (((a0.2.2.2.2.2.2).getD (x4_1).toNat (ByteArray.empty, ByteArray.empty)).2) fun y36 => (shadowboxref01_Text.f k1 t31 y36).bind fun t38 => (shadowboxref36_bytes.lo1 a0 k1) t38 (IntKind.wrap .i64 (x4_1 + (1 : Int))) else none) else some l3_1)
def shadowboxref36_bytes.f (k : Nat) (a0 : (Int × Int × Int × Int × ByteArray × ByteArray × (List (ByteArray × ByteArray)))) : Option ((List Int)) :=
  (shadowboxref01_Short.f k ([] : List Int) (IntKind.wrap .u64 a0.1)).bind fun t2 => (shadowboxref01_Short.f k t2 (IntKind.wrap .u64 a0.2.1)).bind fun t5 => (shadowboxref01_Short.f k t5 (IntKind.wrap .u64 a0.2.2.1)).bind fun t8 => (shadowboxref01_Short.f k t8 (IntKind.wrap .u64 a0.2.2.2.1)).bind fun t11 => (shadowboxref01_Text.f k t11 a0.2.2.2.2.1).bind fun t14 => (shadowboxref01_Text.f k t14 a0.2.2.2.2.2.1).bind fun t17 => lt (IntKind.wrap .u64 (a0.2.2.2.2.2.2.length : Int)) fun y20 => (shadowboxref01_Short.f k t17 y20).bind fun t22 => shadowboxref36_bytes.lo1 a0 k t22 (0 : Int)
set_option maxRecDepth 100000 in
set_option maxHeartbeats 4000000 in
theorem shadowboxref36_bytes.calls (k : Nat) (A0_6 : Option Addr) (c0_6 : Nat) (a0 : (Int × Int × Int × Int × ByteArray × ByteArray × (List (ByteArray × ByteArray)))) (r : (List Int)) (b : Bs) (hs0 : St b (stl []) b.w) (R0_6 : Ro b A0_6 (em T67 a0.2.2.2.2.2.2)) (C0_6 : a0.2.2.2.2.2.2.length ≤ c0_6) (H : shadowboxref36_bytes.f k a0 = some r) :
    Calls Try.prog 42 #[.agg ⟨([Value.int .i64 a0.1] ++ ([Value.int .i64 a0.2.1] ++ ([Value.int .i64 a0.2.2.1] ++ ([Value.int .i64 a0.2.2.2.1] ++ ([Value.string a0.2.2.2.2.1] ++ ([Value.string a0.2.2.2.2.2.1] ++ [Value.slice A0_6 a0.2.2.2.2.2.2.length c0_6]))))))⟩] b.w fun e w' => ∃ x : (Option Addr × Nat), e = .returned (.slice x.1 r.length x.2) ∧ St b (stl [Ck.ro (Ec.int 5 .u8) x.1 x.2 r]) w' := by
  unfold shadowboxref36_bytes.f at H
  refine enterb (n := 62) Try.func42 rfl (by kernel_rfl) (by kernel_rfl) hs0 ?_
  refine cs_sub (s0) (sub_nil _) ?_
  refine cs_seq ?_
  refine cs_region (l := [_, _]) ?_
  refine ls_new rfl rfl (by kernel_rfl) 0 (fun g => .pointer (some ⟨g, 0, none⟩)) (.cells ⟨([Value.int .i64 a0.1] ++ ([Value.int .i64 a0.2.1] ++ ([Value.int .i64 a0.2.2.1] ++ ([Value.int .i64 a0.2.2.2.1] ++ ([Value.string a0.2.2.2.2.1] ++ ([Value.string a0.2.2.2.2.2.1] ++ [Value.slice A0_6 a0.2.2.2.2.2.2.length c0_6]))))))⟩ 56) (fun w => by kernel_rfl) ?_
  intro g1
  refine lv (.slice none 0 0) ?_
  refine ls_end ?_
  refine qn_then ?_
  refine cs_seq ?_
  refine cs_region (l := [_, _, _, _, _]) ?_
  refine lv (.pointer (some ⟨g1, (0 + 0), none⟩)) ?_
  refine ls_load (a0 := ⟨g1, (0 + 0), none⟩) (v := .int .i64 a0.1) (de := (TypeDesc.int .i64)) rfl rfl (by kernel_rfl) rfl (by kernel_rfl) (by kernel_rfl) (by kernel_rfl) (fun w hs => (hs.var (k := 0) (by exact rfl) (Sub4.trans (Sub4.all _) (Sub4.head _ _)))) ?_
  refine lv (.int .u64 (IntKind.wrap .u64 a0.1)) ?_
  obtain ⟨t2, hc3, H⟩ := bind_some H
  refine ls_callb (fid := 75) (vals := #[.slice none ([] : List Int).length 0, .int .u64 (IntKind.wrap .u64 a0.1)]) (X := (Option Addr × Nat)) (fun x => .slice x.1 t2.length x.2) (fun x => stl [Ck.sl (Ec.int 5 .u8) x.1 x.2 t2]) [] [] [] [] 1 rfl rfl (by kernel_rfl) (fun w => by kernel_rfl) trivial trivial (by decide) (fun w hs hb => shadowboxref01_Short.calls k none 0 ([] : List Int) (IntKind.wrap .u64 a0.1) t2 (lent b w [] []) hb (Ro.nil _ _) (Nat.le_refl 0) hc3) ?_
  intro x4
  refine lv (.slice x4.1 t2.length x4.2) ?_
  refine ls_end ?_
  refine qn_then ?_
  refine cs_seq ?_
  refine cs_region (l := [_, _, _, _, _, _]) ?_
  refine lv (.slice x4.1 t2.length x4.2) ?_
  refine lv (.pointer (some ⟨g1, (0 + 1), none⟩)) ?_
  refine ls_load (a0 := ⟨g1, (0 + 1), none⟩) (v := .int .i64 a0.2.1) (de := (TypeDesc.int .i64)) rfl rfl (by kernel_rfl) rfl (by kernel_rfl) (by kernel_rfl) (by kernel_rfl) (fun w hs => (hs.var (k := 0) (by exact rfl) (Sub4.trans (Sub4.all _) (Sub4.skip (n := 1) (len1 _) (Sub4.head _ _))))) ?_
  refine lv (.int .u64 (IntKind.wrap .u64 a0.2.1)) ?_
  obtain ⟨t5, hc6, H⟩ := bind_some H
  refine ls_callb (fid := 75) (vals := #[.slice x4.1 t2.length x4.2, .int .u64 (IntKind.wrap .u64 a0.2.1)]) (X := (Option Addr × Nat)) (fun x => .slice x.1 t5.length x.2) (fun x => stl [Ck.sl (Ec.int 5 .u8) x.1 x.2 t5]) [] [1] [] [Ck.sl (Ec.int 5 .u8) x4.1 x4.2 t2] 2 rfl rfl (by kernel_rfl) (fun w => by kernel_rfl) trivial ⟨by exact rfl, trivial⟩ (by decide) (fun w hs hb => shadowboxref01_Short.calls k x4.1 x4.2 t2 (IntKind.wrap .u64 a0.2.1) t5 (lent b w [] [Ck.sl (Ec.int 5 .u8) x4.1 x4.2 t2]) hb (hs.ror (k := 1) (by exact rfl) (.head _)) (hs.cap (k := 1) (by exact rfl)) hc6) ?_
  intro x7
  refine lv (.slice x7.1 t5.length x7.2) ?_
  refine ls_end ?_
  refine qn_then ?_
  refine cs_seq ?_
  refine cs_region (l := [_, _, _, _, _, _]) ?_
  refine lv (.slice x7.1 t5.length x7.2) ?_
  refine lv (.pointer (some ⟨g1, (0 + 2), none⟩)) ?_
  refine ls_load (a0 := ⟨g1, (0 + 2), none⟩) (v := .int .i64 a0.2.2.1) (de := (TypeDesc.int .i64)) rfl rfl (by kernel_rfl) rfl (by kernel_rfl) (by kernel_rfl) (by kernel_rfl) (fun w hs => (hs.var (k := 0) (by exact rfl) (Sub4.trans (Sub4.all _) (Sub4.skip (n := 1) (len1 _) (Sub4.skip (n := 1) (len1 _) (Sub4.head _ _)))))) ?_
  refine lv (.int .u64 (IntKind.wrap .u64 a0.2.2.1)) ?_
  obtain ⟨t8, hc9, H⟩ := bind_some H
  refine ls_callb (fid := 75) (vals := #[.slice x7.1 t5.length x7.2, .int .u64 (IntKind.wrap .u64 a0.2.2.1)]) (X := (Option Addr × Nat)) (fun x => .slice x.1 t8.length x.2) (fun x => stl [Ck.sl (Ec.int 5 .u8) x.1 x.2 t8]) [] [2] [] [Ck.sl (Ec.int 5 .u8) x7.1 x7.2 t5] 3 rfl rfl (by kernel_rfl) (fun w => by kernel_rfl) trivial ⟨by exact rfl, trivial⟩ (by decide) (fun w hs hb => shadowboxref01_Short.calls k x7.1 x7.2 t5 (IntKind.wrap .u64 a0.2.2.1) t8 (lent b w [] [Ck.sl (Ec.int 5 .u8) x7.1 x7.2 t5]) hb (hs.ror (k := 2) (by exact rfl) (.head _)) (hs.cap (k := 2) (by exact rfl)) hc9) ?_
  intro x10
  refine lv (.slice x10.1 t8.length x10.2) ?_
  refine ls_end ?_
  refine qn_then ?_
  refine cs_seq ?_
  refine cs_region (l := [_, _, _, _, _, _]) ?_
  refine lv (.slice x10.1 t8.length x10.2) ?_
  refine lv (.pointer (some ⟨g1, (0 + 3), none⟩)) ?_
  refine ls_load (a0 := ⟨g1, (0 + 3), none⟩) (v := .int .i64 a0.2.2.2.1) (de := (TypeDesc.int .i64)) rfl rfl (by kernel_rfl) rfl (by kernel_rfl) (by kernel_rfl) (by kernel_rfl) (fun w hs => (hs.var (k := 0) (by exact rfl) (Sub4.trans (Sub4.all _) (Sub4.skip (n := 1) (len1 _) (Sub4.skip (n := 1) (len1 _) (Sub4.skip (n := 1) (len1 _) (Sub4.head _ _))))))) ?_
  refine lv (.int .u64 (IntKind.wrap .u64 a0.2.2.2.1)) ?_
  obtain ⟨t11, hc12, H⟩ := bind_some H
  refine ls_callb (fid := 75) (vals := #[.slice x10.1 t8.length x10.2, .int .u64 (IntKind.wrap .u64 a0.2.2.2.1)]) (X := (Option Addr × Nat)) (fun x => .slice x.1 t11.length x.2) (fun x => stl [Ck.sl (Ec.int 5 .u8) x.1 x.2 t11]) [] [3] [] [Ck.sl (Ec.int 5 .u8) x10.1 x10.2 t8] 4 rfl rfl (by kernel_rfl) (fun w => by kernel_rfl) trivial ⟨by exact rfl, trivial⟩ (by decide) (fun w hs hb => shadowboxref01_Short.calls k x10.1 x10.2 t8 (IntKind.wrap .u64 a0.2.2.2.1) t11 (lent b w [] [Ck.sl (Ec.int 5 .u8) x10.1 x10.2 t8]) hb (hs.ror (k := 3) (by exact rfl) (.head _)) (hs.cap (k := 3) (by exact rfl)) hc12) ?_
  intro x13
  refine lv (.slice x13.1 t11.length x13.2) ?_
  refine ls_end ?_
  refine qn_then ?_
  refine cs_seq ?_
  refine cs_region (l := [_, _, _, _, _]) ?_
  refine lv (.slice x13.1 t11.length x13.2) ?_
  refine lv (.pointer (some ⟨g1, (0 + 4), none⟩)) ?_
  refine ls_load (a0 := ⟨g1, (0 + 4), none⟩) (v := .string a0.2.2.2.2.1) (de := TypeDesc.string) rfl rfl (by kernel_rfl) rfl (by kernel_rfl) (by kernel_rfl) (by kernel_rfl) (fun w hs => (hs.var (k := 0) (by exact rfl) (Sub4.trans (Sub4.all _) (Sub4.skip (n := 1) (len1 _) (Sub4.skip (n := 1) (len1 _) (Sub4.skip (n := 1) (len1 _) (Sub4.skip (n := 1) (len1 _) (Sub4.head _ _)))))))) ?_
  obtain ⟨t14, hc15, H⟩ := bind_some H
  refine ls_callb (fid := 76) (vals := #[.slice x13.1 t11.length x13.2, .string a0.2.2.2.2.1]) (X := (Option Addr × Nat)) (fun x => .slice x.1 t14.length x.2) (fun x => stl [Ck.sl (Ec.int 5 .u8) x.1 x.2 t14]) [] [4] [] [Ck.sl (Ec.int 5 .u8) x13.1 x13.2 t11] 5 rfl rfl (by kernel_rfl) (fun w => by kernel_rfl) trivial ⟨by exact rfl, trivial⟩ (by decide) (fun w hs hb => shadowboxref01_Text.calls k x13.1 x13.2 t11 a0.2.2.2.2.1 t14 (lent b w [] [Ck.sl (Ec.int 5 .u8) x13.1 x13.2 t11]) hb (hs.ror (k := 4) (by exact rfl) (.head _)) (hs.cap (k := 4) (by exact rfl)) hc15) ?_
  intro x16
  refine lv (.slice x16.1 t14.length x16.2) ?_
  refine ls_end ?_
  refine qn_then ?_
  refine cs_seq ?_
  refine cs_region (l := [_, _, _, _, _]) ?_
  refine lv (.slice x16.1 t14.length x16.2) ?_
  refine lv (.pointer (some ⟨g1, (0 + 5), none⟩)) ?_
  refine ls_load (a0 := ⟨g1, (0 + 5), none⟩) (v := .string a0.2.2.2.2.2.1) (de := TypeDesc.string) rfl rfl (by kernel_rfl) rfl (by kernel_rfl) (by kernel_rfl) (by kernel_rfl) (fun w hs => (hs.var (k := 0) (by exact rfl) (Sub4.trans (Sub4.all _) (Sub4.skip (n := 1) (len1 _) (Sub4.skip (n := 1) (len1 _) (Sub4.skip (n := 1) (len1 _) (Sub4.skip (n := 1) (len1 _) (Sub4.skip (n := 1) (len1 _) (Sub4.head _ _))))))))) ?_
  obtain ⟨t17, hc18, H⟩ := bind_some H
  refine ls_callb (fid := 76) (vals := #[.slice x16.1 t14.length x16.2, .string a0.2.2.2.2.2.1]) (X := (Option Addr × Nat)) (fun x => .slice x.1 t17.length x.2) (fun x => stl [Ck.sl (Ec.int 5 .u8) x.1 x.2 t17]) [] [5] [] [Ck.sl (Ec.int 5 .u8) x16.1 x16.2 t14] 6 rfl rfl (by kernel_rfl) (fun w => by kernel_rfl) trivial ⟨by exact rfl, trivial⟩ (by decide) (fun w hs hb => shadowboxref01_Text.calls k x16.1 x16.2 t14 a0.2.2.2.2.2.1 t17 (lent b w [] [Ck.sl (Ec.int 5 .u8) x16.1 x16.2 t14]) hb (hs.ror (k := 5) (by exact rfl) (.head _)) (hs.cap (k := 5) (by exact rfl)) hc18) ?_
  intro x19
  refine lv (.slice x19.1 t17.length x19.2) ?_
  refine ls_end ?_
  refine qn_then ?_
  refine cs_seq ?_
  refine cs_region (l := [_, _, _, _, _, _, _]) ?_
  refine lv (.slice x19.1 t17.length x19.2) ?_
  refine lv (.pointer (some ⟨g1, (0 + 6), none⟩)) ?_
  refine ls_load (a0 := ⟨g1, (0 + 6), none⟩) (v := .slice A0_6 a0.2.2.2.2.2.2.length c0_6) (de := (TypeDesc.slice 67)) rfl rfl (by kernel_rfl) rfl (by kernel_rfl) (by kernel_rfl) (by kernel_rfl) (fun w hs => (hs.var (k := 0) (by exact rfl) (Sub4.trans (Sub4.all _) (Sub4.skip (n := 1) (len1 _) (Sub4.skip (n := 1) (len1 _) (Sub4.skip (n := 1) (len1 _) (Sub4.skip (n := 1) (len1 _) (Sub4.skip (n := 1) (len1 _) (Sub4.skip (n := 1) (len1 _) (Sub4.all _)))))))))) ?_
  refine lv (.int .i64 (a0.2.2.2.2.2.2.length : Int)) ?_
  obtain ⟨y20, hy21, H⟩ := lt_some H
  refine lv (.int .u64 (IntKind.wrap .u64 (a0.2.2.2.2.2.2.length : Int))) ?_
  refine ls_ren 36 (v := .int .u64 (IntKind.wrap .u64 (a0.2.2.2.2.2.2.length : Int))) (v' := .int .u64 y20) (by kernel_rfl) (by rw [hy21]) ?_
  obtain ⟨t22, hc23, H⟩ := bind_some H
  refine ls_callb (fid := 75) (vals := #[.slice x19.1 t17.length x19.2, .int .u64 y20]) (X := (Option Addr × Nat)) (fun x => .slice x.1 t22.length x.2) (fun x => stl [Ck.sl (Ec.int 5 .u8) x.1 x.2 t22]) [] [6] [] [Ck.sl (Ec.int 5 .u8) x19.1 x19.2 t17] 7 rfl rfl (by kernel_rfl) (fun w => by kernel_rfl) trivial ⟨by exact rfl, trivial⟩ (by decide) (fun w hs hb => shadowboxref01_Short.calls k x19.1 x19.2 t17 y20 t22 (lent b w [] [Ck.sl (Ec.int 5 .u8) x19.1 x19.2 t17]) hb (hs.ror (k := 6) (by exact rfl) (.head _)) (hs.cap (k := 6) (by exact rfl)) hc23) ?_
  intro x24
  refine lv (.slice x24.1 t22.length x24.2) ?_
  refine ls_end ?_
  refine qn_then ?_
  refine cs_seq ?_
  refine cs_seq ?_
  refine cs_region (l := [_]) ?_
  refine lv (.int .i64 (0 : Int)) ?_
  refine ls_end ?_
  refine qn_then ?_
  refine cs_block ?_
  refine cs_toro (T := (Ec.int 5 .u8)) (A := x24.1) (c := x24.2) (l := t22) 7 8 (by exact rfl) ?_
  refine cs_sub (sput (sput s0 0 (some (Ck.var 56 g1 (([Value.int .i64 a0.1] ++ ([Value.int .i64 a0.2.1] ++ ([Value.int .i64 a0.2.2.1] ++ ([Value.int .i64 a0.2.2.2.1] ++ ([Value.string a0.2.2.2.2.1] ++ ([Value.string a0.2.2.2.2.2.1] ++ [Value.slice A0_6 a0.2.2.2.2.2.2.length c0_6])))))))))) 8 (some (Ck.ro (Ec.int 5 .u8) x24.1 x24.2 t22))) (sub_put (by exact rfl) (sub_put (by exact rfl) (sub_nil _))) ?_
  refine cs_loop (fun kk f S => ∃ (fR : Fr) (A3_1 : Option Addr) (c3_1 : Nat) (l3_1 : List Int) (x4_1 : Int), f = upd (upd (upd fR 1 (.pointer (some ⟨g1, 0, none⟩))) 3 (.slice A3_1 l3_1.length c3_1)) 4 (.int .i64 x4_1) ∧ S = sput (sput s0 0 (some (Ck.var 56 g1 (([Value.int .i64 a0.1] ++ ([Value.int .i64 a0.2.1] ++ ([Value.int .i64 a0.2.2.1] ++ ([Value.int .i64 a0.2.2.2.1] ++ ([Value.string a0.2.2.2.2.1] ++ ([Value.string a0.2.2.2.2.2.1] ++ [Value.slice A0_6 a0.2.2.2.2.2.2.length c0_6])))))))))) 8 (some (Ck.ro (Ec.int 5 .u8) A3_1 c3_1 l3_1)) ∧ shadowboxref36_bytes.lo1 a0 kk l3_1 x4_1 = some r) k ?_ ?_ ?_
  · exact ⟨_, x24.1, x24.2, t22, (0 : Int), fr_next (fr_next (fr_next (rfl) (by kernel_rfl)) (by kernel_rfl)) (by kernel_rfl), rfl, H⟩
  · rintro f S ⟨fr1, A3_1, c3_1, l3_1, x4_1, rfl, rfl, H⟩; cases H
  rintro k1 f S ⟨fr1, A3_1, c3_1, l3_1, x4_1, rfl, rfl, H⟩
  replace H : ((if x4_1 < (a0.2.2.2.2.2.2.length : Int) then (if 0 ≤ x4_1 then lt (((a0.2.2.2.2.2.2).getD (x4_1).toNat (ByteArray.empty, ByteArray.empty)).1) fun y29 => (shadowboxref01_Text.f k1 l3_1 y29).bind fun t31 => lt (((a0.2.2.2.2.2.2).getD (x4_1).toNat (ByteArray.empty, ByteArray.empty)).2) fun y36 => (shadowboxref01_Text.f k1 t31 y36).bind fun t38 => (shadowboxref36_bytes.lo1 a0 k1) t38 (IntKind.wrap .i64 (x4_1 + (1 : Int))) else none) else some l3_1)) = some r := H
  refine cs_seq ?_
  refine cs_seq ?_
  refine cs_region (l := [_, _, _, _, _]) ?_
  refine lv (.int .i64 x4_1) ?_
  refine lv (.pointer (some ⟨g1, (0 + 6), none⟩)) ?_
  refine ls_load (a0 := ⟨g1, (0 + 6), none⟩) (v := .slice A0_6 a0.2.2.2.2.2.2.length c0_6) (de := (TypeDesc.slice 67)) rfl rfl (by kernel_rfl) rfl (by kernel_rfl) (by kernel_rfl) (by kernel_rfl) (fun w hs => (hs.var (k := 0) (by exact rfl) (Sub4.trans (Sub4.all _) (Sub4.skip (n := 1) (len1 _) (Sub4.skip (n := 1) (len1 _) (Sub4.skip (n := 1) (len1 _) (Sub4.skip (n := 1) (len1 _) (Sub4.skip (n := 1) (len1 _) (Sub4.skip (n := 1) (len1 _) (Sub4.all _)))))))))) ?_
  refine lv (.int .i64 (a0.2.2.2.2.2.2.length : Int)) ?_
  refine lv (.bool (decide (x4_1 < (a0.2.2.2.2.2.2.length : Int)))) ?_
  refine ls_end ?_
  refine qn_then ?_
  by_cases q25 : x4_1 < (a0.2.2.2.2.2.2.length : Int)
  · replace H := ite_t q25 H
    refine cs_know (c := true) (dec_t q25) 42 (by kernel_rfl) ?_
    refine cs_true (by kernel_rfl) ?_
    refine cs_skip' ?_
    refine qn_then ?_
    refine cs_seq ?_
    refine cs_block ?_
    refine cs_seq ?_
    refine cs_region (l := [_, _, _, _, _, _, _, _, _]) ?_
    refine lv (.slice A3_1 l3_1.length c3_1) ?_
    refine lv (.pointer (some ⟨g1, (0 + 6), none⟩)) ?_
    refine ls_load (a0 := ⟨g1, (0 + 6), none⟩) (v := .slice A0_6 a0.2.2.2.2.2.2.length c0_6) (de := (TypeDesc.slice 67)) rfl rfl (by kernel_rfl) rfl (by kernel_rfl) (by kernel_rfl) (by kernel_rfl) (fun w hs => (hs.var (k := 0) (by exact rfl) (Sub4.trans (Sub4.all _) (Sub4.skip (n := 1) (len1 _) (Sub4.skip (n := 1) (len1 _) (Sub4.skip (n := 1) (len1 _) (Sub4.skip (n := 1) (len1 _) (Sub4.skip (n := 1) (len1 _) (Sub4.skip (n := 1) (len1 _) (Sub4.all _)))))))))) ?_
    refine lv (.int .i64 x4_1) ?_
    obtain ⟨q26, H⟩ := ite_need H
    obtain ⟨ad27, hA28⟩ := ido_at (T := T67) (l := a0.2.2.2.2.2.2) (i := x4_1) R0_6 q26 q25
    refine ls_idxv T67 (A := A0_6) (c := c0_6) (l := a0.2.2.2.2.2.2) (k := .i64) (i := x4_1) (z := 2) (ad := ad27) rfl rfl (by kernel_rfl) hA28 rfl (by kernel_rfl) (by kernel_rfl) (by kernel_rfl) (by kernel_rfl) q26 q25 ?_
    refine ls_fieldm (ad := ad27) (off := ((x4_1).toNat * 2)) rfl rfl (by kernel_rfl) 0 (fun w => by kernel_rfl) ?_
    obtain ⟨y29, hy30, H⟩ := lt_some H
    refine ls_load (a0 := (ad27.add (((x4_1).toNat * 2) + 0))) (v := .string (((a0.2.2.2.2.2.2).getD (x4_1).toNat (ByteArray.empty, ByteArray.empty)).1)) (de := TypeDesc.string) rfl rfl (by kernel_rfl) rfl (by kernel_rfl) (by kernel_rfl) (by kernel_rfl) (fun w hs => (hs.old R0_6).at hA28 (Sub4.trans (em_sub T67 a0.2.2.2.2.2.2 (i := (x4_1).toNat) (by have h0 : (0 : Int) ≤ x4_1 := q26; have h1 : x4_1 < (a0.2.2.2.2.2.2.length : Int) := q25; omega)) (Sub4.head _ _))) ?_
    refine ls_ren 51 (v := .string (((a0.2.2.2.2.2.2).getD (x4_1).toNat (ByteArray.empty, ByteArray.empty)).1)) (v' := .string y29) (by kernel_rfl) (by rw [hy30]) ?_
    obtain ⟨t31, hc32, H⟩ := bind_some H
    refine ls_callb (fid := 76) (vals := #[.slice A3_1 l3_1.length c3_1, .string y29]) (X := (Option Addr × Nat)) (fun x => .slice x.1 t31.length x.2) (fun x => stl [Ck.sl (Ec.int 5 .u8) x.1 x.2 t31]) [] [8] [] [Ck.ro (Ec.int 5 .u8) A3_1 c3_1 l3_1] 9 rfl rfl (by kernel_rfl) (fun w => by kernel_rfl) trivial ⟨by exact rfl, trivial⟩ (by decide) (fun w hs hb => shadowboxref01_Text.calls k1 A3_1 c3_1 l3_1 y29 t31 (lent b w [] [Ck.ro (Ec.int 5 .u8) A3_1 c3_1 l3_1]) hb (hs.roror (k := 8) (by exact rfl) (.head _)) (hs.rocap (k := 8) (by exact rfl)) hc32) ?_
    intro x33
    refine lv (.slice x33.1 t31.length x33.2) ?_
    refine ls_end ?_
    refine qn_then ?_
    refine cs_region (l := [_, _, _, _, _, _, _, _, _]) ?_
    refine lv (.slice x33.1 t31.length x33.2) ?_
    refine lv (.pointer (some ⟨g1, (0 + 6), none⟩)) ?_
    refine ls_load (a0 := ⟨g1, (0 + 6), none⟩) (v := .slice A0_6 a0.2.2.2.2.2.2.length c0_6) (de := (TypeDesc.slice 67)) rfl rfl (by kernel_rfl) rfl (by kernel_rfl) (by kernel_rfl) (by kernel_rfl) (fun w hs => (hs.var (k := 0) (by exact rfl) (Sub4.trans (Sub4.all _) (Sub4.skip (n := 1) (len1 _) (Sub4.skip (n := 1) (len1 _) (Sub4.skip (n := 1) (len1 _) (Sub4.skip (n := 1) (len1 _) (Sub4.skip (n := 1) (len1 _) (Sub4.skip (n := 1) (len1 _) (Sub4.all _)))))))))) ?_
    refine lv (.int .i64 x4_1) ?_
    obtain ⟨ad34, hA35⟩ := ido_at (T := T67) (l := a0.2.2.2.2.2.2) (i := x4_1) R0_6 q26 q25
    refine ls_idxv T67 (A := A0_6) (c := c0_6) (l := a0.2.2.2.2.2.2) (k := .i64) (i := x4_1) (z := 2) (ad := ad34) rfl rfl (by kernel_rfl) hA35 rfl (by kernel_rfl) (by kernel_rfl) (by kernel_rfl) (by kernel_rfl) q26 q25 ?_
    refine ls_fieldm (ad := ad34) (off := ((x4_1).toNat * 2)) rfl rfl (by kernel_rfl) 1 (fun w => by kernel_rfl) ?_
    obtain ⟨y36, hy37, H⟩ := lt_some H
    refine ls_load (a0 := (ad34.add (((x4_1).toNat * 2) + 1))) (v := .string (((a0.2.2.2.2.2.2).getD (x4_1).toNat (ByteArray.empty, ByteArray.empty)).2)) (de := TypeDesc.string) rfl rfl (by kernel_rfl) rfl (by kernel_rfl) (by kernel_rfl) (by kernel_rfl) (fun w hs => (hs.old R0_6).at hA35 (Sub4.trans (em_sub T67 a0.2.2.2.2.2.2 (i := (x4_1).toNat) (by have h0 : (0 : Int) ≤ x4_1 := q26; have h1 : x4_1 < (a0.2.2.2.2.2.2.length : Int) := q25; omega)) (Sub4.skip (n := 1) (len1 _) (Sub4.all _)))) ?_
    refine ls_ren 59 (v := .string (((a0.2.2.2.2.2.2).getD (x4_1).toNat (ByteArray.empty, ByteArray.empty)).2)) (v' := .string y36) (by kernel_rfl) (by rw [hy37]) ?_
    obtain ⟨t38, hc39, H⟩ := bind_some H
    refine ls_callb (fid := 76) (vals := #[.slice x33.1 t31.length x33.2, .string y36]) (X := (Option Addr × Nat)) (fun x => .slice x.1 t38.length x.2) (fun x => stl [Ck.sl (Ec.int 5 .u8) x.1 x.2 t38]) [] [9] [] [Ck.sl (Ec.int 5 .u8) x33.1 x33.2 t31] 10 rfl rfl (by kernel_rfl) (fun w => by kernel_rfl) trivial ⟨by exact rfl, trivial⟩ (by decide) (fun w hs hb => shadowboxref01_Text.calls k1 x33.1 x33.2 t31 y36 t38 (lent b w [] [Ck.sl (Ec.int 5 .u8) x33.1 x33.2 t31]) hb (hs.ror (k := 9) (by exact rfl) (.head _)) (hs.cap (k := 9) (by exact rfl)) hc39) ?_
    intro x40
    refine lv (.slice x40.1 t38.length x40.2) ?_
    refine ls_end ?_
    refine qn_block ?_
    refine qn_then ?_
    refine cs_region (l := [_, _, _]) ?_
    refine lv (.int .i64 x4_1) ?_
    refine lv (.int .i64 (IntKind.wrap .i64 (x4_1 + (1 : Int)))) ?_
    refine lv (.int .i64 (IntKind.wrap .i64 (x4_1 + (1 : Int)))) ?_
    refine ls_end ?_
    refine qn_toro (T := (Ec.int 5 .u8)) (A := x40.1) (c := x40.2) (l := t38) 10 8 (by exact rfl) ?_
    refine qn_again k1 (sput (sput s0 0 (some (Ck.var 56 g1 (([Value.int .i64 a0.1] ++ ([Value.int .i64 a0.2.1] ++ ([Value.int .i64 a0.2.2.1] ++ ([Value.int .i64 a0.2.2.2.1] ++ ([Value.string a0.2.2.2.2.1] ++ ([Value.string a0.2.2.2.2.2.1] ++ [Value.slice A0_6 a0.2.2.2.2.2.2.length c0_6])))))))))) 8 (some (Ck.ro (Ec.int 5 .u8) x40.1 x40.2 t38))) (Nat.le_refl _) ⟨_, x40.1, x40.2, t38, (IntKind.wrap .i64 (x4_1 + (1 : Int))), fr_next (fr_next (fr_next (rfl) (by kernel_rfl)) (by kernel_rfl)) (by kernel_rfl), rfl, H⟩ (sub_put (by exact rfl) (sub_put (by exact rfl) (sub_nil _)))
  replace H := ite_f q25 H
  refine cs_know (c := false) (dec_f q25) 42 (by kernel_rfl) ?_
  refine cs_false (by kernel_rfl) ?_
  refine cs_exit' ?_
  refine qx_then ?_
  refine qx_then ?_
  refine qx_same ?_
  refine qn_then ?_
  refine cs_seq ?_
  refine cs_region (l := [_, _]) ?_
  refine lv (.slice A3_1 l3_1.length c3_1) ?_
  refine lv (.slice A3_1 l3_1.length c3_1) ?_
  refine ls_end ?_
  refine qn_then ?_
  refine cs_ret' ?_
  obtain rfl := Option.some.inj H
  refine qr_res (rs := [_]) rfl (fun w' hs => ⟨[.slice A3_1 l3_1.length c3_1], (res_tmp (by kernel_rfl) (.nil)), (A3_1, c3_1), rfl, hs.pick (ts := [8]) (cs := [Ck.ro (Ec.int 5 .u8) A3_1 c3_1 l3_1]) ⟨by exact rfl, trivial⟩ (by decide)⟩)

/-! ### shadowbox/shadowboxref30.Value: function 82 -/
def shadowboxref30_Value.lo1 (a0 : ByteArray) : Nat → Int → Option (Bool)
  | 0, _ => none
  | k1 + 1, x3_1 => (if x3_1 < (a0.size : Int) then (if 0 ≤ x3_1 then (if (bt a0 x3_1) = (9 : Int) then (shadowboxref30_Value.lo1 a0 k1) (IntKind.wrap .i64 (x3_1 + (1 : Int))) else (if (bt a0 x3_1) < (32 : Int) then some false else (if (bt a0 x3_1) = (127 : Int) then some false else (shadowboxref30_Value.lo1 a0 k1) (IntKind.wrap .i64 (x3_1 + (1 : Int)))))) else none) else some true)
def shadowboxref30_Value.f (k : Nat) (a0 : ByteArray) : Option (Bool) :=
  shadowboxref30_Value.lo1 a0 k (0 : Int)
set_option maxRecDepth 100000 in
set_option maxHeartbeats 4000000 in
theorem shadowboxref30_Value.calls (k : Nat) (a0 : ByteArray) (r : Bool) (b : Bs) (hs0 : St b (stl []) b.w) (H : shadowboxref30_Value.f k a0 = some r) :
    Calls Try.prog 82 #[.string a0] b.w fun e w' => ∃ x : Unit, e = .returned (.bool r) ∧ St b (stl []) w' := by
  unfold shadowboxref30_Value.f at H
  refine enterb (n := 26) Try.func82 rfl (by kernel_rfl) (by kernel_rfl) hs0 ?_
  refine cs_sub (s0) (sub_nil _) ?_
  refine cs_seq ?_
  refine cs_region (l := [_]) ?_
  refine lv (.bool false) ?_
  refine ls_end ?_
  refine qn_then ?_
  refine cs_seq ?_
  refine cs_seq ?_
  refine cs_region (l := [_]) ?_
  refine lv (.int .i64 (0 : Int)) ?_
  refine ls_end ?_
  refine qn_then ?_
  refine cs_block ?_
  refine cs_sub (s0) (sub_nil _) ?_
  refine cs_loop (fun kk f S => ∃ (fR : Fr) (x3_1 : Int), f = upd (upd fR 0 (.string a0)) 3 (.int .i64 x3_1) ∧ S = s0 ∧ shadowboxref30_Value.lo1 a0 kk x3_1 = some r) k ?_ ?_ ?_
  · exact ⟨_, (0 : Int), fr_next (fr_next (rfl) (by kernel_rfl)) (by kernel_rfl), rfl, H⟩
  · rintro f S ⟨fr1, x3_1, rfl, rfl, H⟩; cases H
  rintro k1 f S ⟨fr1, x3_1, rfl, rfl, H⟩
  replace H : ((if x3_1 < (a0.size : Int) then (if 0 ≤ x3_1 then (if (bt a0 x3_1) = (9 : Int) then (shadowboxref30_Value.lo1 a0 k1) (IntKind.wrap .i64 (x3_1 + (1 : Int))) else (if (bt a0 x3_1) < (32 : Int) then some false else (if (bt a0 x3_1) = (127 : Int) then some false else (shadowboxref30_Value.lo1 a0 k1) (IntKind.wrap .i64 (x3_1 + (1 : Int)))))) else none) else some true)) = some r := H
  refine cs_seq ?_
  refine cs_seq ?_
  refine cs_region (l := [_, _, _, _]) ?_
  refine lv (.int .i64 x3_1) ?_
  refine lv (.string a0) ?_
  refine lv (.int .i64 (a0.size : Int)) ?_
  refine lv (.bool (decide (x3_1 < (a0.size : Int)))) ?_
  refine ls_end ?_
  refine qn_then ?_
  by_cases q1 : x3_1 < (a0.size : Int)
  · replace H := ite_t q1 H
    refine cs_know (c := true) (dec_t q1) 7 (by kernel_rfl) ?_
    refine cs_true (by kernel_rfl) ?_
    refine cs_skip' ?_
    refine qn_then ?_
    refine cs_seq ?_
    refine cs_block ?_
    refine cs_seq ?_
    refine cs_region (l := [_, _, _, _, _, _, _, _, _, _, _, _, _, _, _, _]) ?_
    refine lv (.string a0) ?_
    refine lv (.int .i64 x3_1) ?_
    obtain ⟨q2, H⟩ := ite_need H
    refine ls_sidx (s := a0) (k := .i64) (i := x3_1) rfl rfl (by kernel_rfl) rfl (by kernel_rfl) (by kernel_rfl) (by kernel_rfl) q2 q1 ?_
    refine lv (.bool (!decide ((bt a0 x3_1) = (9 : Int)))) ?_
    refine lv (.bool (!decide ((bt a0 x3_1) = (9 : Int)))) ?_
    by_cases q3 : (bt a0 x3_1) = (9 : Int)
    · replace H := ite_t q3 H
      refine ls_know (c := false) (congrArg Bool.not (dec_t q3)) 14 (by kernel_rfl) ?_
      refine lofx 4 14 true false ?_
      refine lofx 4 14 true false ?_
      refine lofx 4 14 true false ?_
      refine lofx 4 14 true false ?_
      refine lofx 4 14 true false ?_
      refine ls_offu (j := 9) (t := 19) (b := false) rfl rfl (by kernel_rfl) (by kernel_rfl) rfl (by kernel_rfl) ?_
      refine ls_offu (j := 9) (t := 19) (b := false) rfl rfl (by kernel_rfl) (by kernel_rfl) rfl (by kernel_rfl) ?_
      refine ls_offu (j := 9) (t := 19) (b := false) rfl rfl (by kernel_rfl) (by kernel_rfl) rfl (by kernel_rfl) ?_
      refine ls_offu (j := 9) (t := 19) (b := false) rfl rfl (by kernel_rfl) (by kernel_rfl) rfl (by kernel_rfl) ?_
      refine lofx 4 14 true false ?_
      refine lv (.bool false) ?_
      refine ls_end ?_
      refine qn_then ?_
      refine cs_false (by kernel_rfl) ?_
      refine cs_skip' ?_
      refine qn_block ?_
      refine qn_then ?_
      refine cs_region (l := [_, _, _]) ?_
      refine lv (.int .i64 x3_1) ?_
      refine lv (.int .i64 (IntKind.wrap .i64 (x3_1 + (1 : Int)))) ?_
      refine lv (.int .i64 (IntKind.wrap .i64 (x3_1 + (1 : Int)))) ?_
      refine ls_end ?_
      refine qn_again k1 (s0) (Nat.le_refl _) ⟨_, (IntKind.wrap .i64 (x3_1 + (1 : Int))), fr_next (fr_next (rfl) (by kernel_rfl)) (by kernel_rfl), rfl, H⟩ (sub_nil _)
    replace H := ite_f q3 H
    refine ls_know (c := true) (congrArg Bool.not (dec_f q3)) 14 (by kernel_rfl) ?_
    refine ls_on (j := 4) (t := 14) (b := true) rfl rfl (by kernel_rfl) (by kernel_rfl) ?_
    refine lv (.string a0) ?_
    refine ls_on (j := 4) (t := 14) (b := true) rfl rfl (by kernel_rfl) (by kernel_rfl) ?_
    refine lv (.int .i64 x3_1) ?_
    refine ls_on (j := 4) (t := 14) (b := true) rfl rfl (by kernel_rfl) (by kernel_rfl) ?_
    refine ls_sidx (s := a0) (k := .i64) (i := x3_1) rfl rfl (by kernel_rfl) rfl (by kernel_rfl) (by kernel_rfl) (by kernel_rfl) q2 q1 ?_
    refine ls_on (j := 4) (t := 14) (b := true) rfl rfl (by kernel_rfl) (by kernel_rfl) ?_
    refine lv (.bool (decide ((bt a0 x3_1) < (32 : Int)))) ?_
    refine ls_on (j := 4) (t := 14) (b := true) rfl rfl (by kernel_rfl) (by kernel_rfl) ?_
    refine lv (.bool (decide ((bt a0 x3_1) < (32 : Int)))) ?_
    by_cases q4 : (bt a0 x3_1) < (32 : Int)
    · replace H := ite_t q4 H
      refine ls_know (c := true) (dec_t q4) 19 (by kernel_rfl) ?_
      refine lofx 9 19 false true ?_
      refine lofx 9 19 false true ?_
      refine lofx 9 19 false true ?_
      refine lofx 9 19 false true ?_
      refine ls_on (j := 4) (t := 14) (b := true) rfl rfl (by kernel_rfl) (by kernel_rfl) ?_
      refine lv (.bool true) ?_
      refine lv (.bool true) ?_
      refine ls_end ?_
      refine qn_then ?_
      refine cs_true (by kernel_rfl) ?_
      refine cs_seq ?_
      refine cs_region (l := [_]) ?_
      refine lv (.bool false) ?_
      refine ls_end ?_
      refine qn_then ?_
      refine cs_ret' ?_
      refine qr_block ?_
      refine qr_then ?_
      refine qr_then ?_
      refine qr_block ?_
      refine qr_then ?_
      obtain rfl := Option.some.inj H
      refine qr_res (rs := [_]) rfl (fun w' hs => ⟨[.bool false], (res_tmp (by kernel_rfl) (.nil)), (), rfl, hs.pick (ts := []) (cs := []) trivial (by decide)⟩)
    replace H := ite_f q4 H
    refine ls_know (c := false) (dec_f q4) 19 (by kernel_rfl) ?_
    refine ls_on (j := 9) (t := 19) (b := false) rfl rfl (by kernel_rfl) (by kernel_rfl) ?_
    refine lv (.string a0) ?_
    refine ls_on (j := 9) (t := 19) (b := false) rfl rfl (by kernel_rfl) (by kernel_rfl) ?_
    refine lv (.int .i64 x3_1) ?_
    refine ls_on (j := 9) (t := 19) (b := false) rfl rfl (by kernel_rfl) (by kernel_rfl) ?_
    refine ls_sidx (s := a0) (k := .i64) (i := x3_1) rfl rfl (by kernel_rfl) rfl (by kernel_rfl) (by kernel_rfl) (by kernel_rfl) q2 q1 ?_
    refine ls_on (j := 9) (t := 19) (b := false) rfl rfl (by kernel_rfl) (by kernel_rfl) ?_
    refine lv (.bool (decide ((bt a0 x3_1) = (127 : Int)))) ?_
    refine ls_on (j := 4) (t := 14) (b := true) rfl rfl (by kernel_rfl) (by kernel_rfl) ?_
    refine lv (.bool (decide ((bt a0 x3_1) = (127 : Int)))) ?_
    refine lv (.bool (decide ((bt a0 x3_1) = (127 : Int)))) ?_
    refine ls_end ?_
    refine qn_then ?_
    by_cases q5 : (bt a0 x3_1) = (127 : Int)
    · replace H := ite_t q5 H
      refine cs_know (c := true) (dec_t q5) 25 (by kernel_rfl) ?_
      refine cs_true (by kernel_rfl) ?_
      refine cs_seq ?_
      refine cs_region (l := [_]) ?_
      refine lv (.bool false) ?_
      refine ls_end ?_
      refine qn_then ?_
      refine cs_ret' ?_
      refine qr_block ?_
      refine qr_then ?_
      refine qr_then ?_
      refine qr_block ?_
      refine qr_then ?_
      obtain rfl := Option.some.inj H
      refine qr_res (rs := [_]) rfl (fun w' hs => ⟨[.bool false], (res_tmp (by kernel_rfl) (.nil)), (), rfl, hs.pick (ts := []) (cs := []) trivial (by decide)⟩)
    replace H := ite_f q5 H
    refine cs_know (c := false) (dec_f q5) 25 (by kernel_rfl) ?_
    refine cs_false (by kernel_rfl) ?_
    refine cs_skip' ?_
    refine qn_block ?_
    refine qn_then ?_
    refine cs_region (l := [_, _, _]) ?_
    refine lv (.int .i64 x3_1) ?_
    refine lv (.int .i64 (IntKind.wrap .i64 (x3_1 + (1 : Int)))) ?_
    refine lv (.int .i64 (IntKind.wrap .i64 (x3_1 + (1 : Int)))) ?_
    refine ls_end ?_
    refine qn_again k1 (s0) (Nat.le_refl _) ⟨_, (IntKind.wrap .i64 (x3_1 + (1 : Int))), fr_next (fr_next (rfl) (by kernel_rfl)) (by kernel_rfl), rfl, H⟩ (sub_nil _)
  replace H := ite_f q1 H
  refine cs_know (c := false) (dec_f q1) 7 (by kernel_rfl) ?_
  refine cs_false (by kernel_rfl) ?_
  refine cs_exit' ?_
  refine qx_then ?_
  refine qx_then ?_
  refine qx_same ?_
  refine qn_then ?_
  refine cs_seq ?_
  refine cs_region (l := [_]) ?_
  refine lv (.bool true) ?_
  refine ls_end ?_
  refine qn_then ?_
  refine cs_ret' ?_
  obtain rfl := Option.some.inj H
  refine qr_res (rs := [_]) rfl (fun w' hs => ⟨[.bool true], (res_tmp (by kernel_rfl) (.nil)), (), rfl, hs.pick (ts := []) (cs := []) trivial (by decide)⟩)

/-! ### shadowbox/shadowboxref36.short: function 51 -/
def shadowboxref36_short.f (k : Nat) (a0 : ByteArray) (a1 : Int) : Option (Bool) :=
  (if (a0.size : Int) ≤ a1 then (shadowboxref30_Value.f k a0).bind fun t2 => some t2 else some false)
set_option maxRecDepth 100000 in
set_option maxHeartbeats 4000000 in
theorem shadowboxref36_short.calls (k : Nat) (a0 : ByteArray) (a1 : Int) (r : Bool) (b : Bs) (hs0 : St b (stl []) b.w) (H : shadowboxref36_short.f k a0 a1 = some r) :
    Calls Try.prog 51 #[.string a0, .int .i64 a1] b.w fun e w' => ∃ x : Unit, e = .returned (.bool r) ∧ St b (stl []) w' := by
  unfold shadowboxref36_short.f at H
  refine enterb (n := 13) Try.func51 rfl (by kernel_rfl) (by kernel_rfl) hs0 ?_
  refine cs_sub (s0) (sub_nil _) ?_
  refine cs_seq ?_
  refine cs_region (l := [_]) ?_
  refine lv (.bool false) ?_
  refine ls_end ?_
  refine qn_then ?_
  refine cs_seq ?_
  refine cs_region (l := [_, _, _, _, _, _, _, _, _]) ?_
  refine lv (.string a0) ?_
  refine lv (.int .i64 (a0.size : Int)) ?_
  refine lv (.int .i64 a1) ?_
  refine lv (.bool (decide ((a0.size : Int) ≤ a1))) ?_
  refine lv (.bool (decide ((a0.size : Int) ≤ a1))) ?_
  by_cases q1 : (a0.size : Int) ≤ a1
  · replace H := ite_t q1 H
    refine ls_know (c := true) (dec_t q1) 9 (by kernel_rfl) ?_
    refine ls_on (j := 4) (t := 9) (b := true) rfl rfl (by kernel_rfl) (by kernel_rfl) ?_
    refine lv (.string a0) ?_
    refine ls_on (j := 4) (t := 9) (b := true) rfl rfl (by kernel_rfl) (by kernel_rfl) ?_
    obtain ⟨t2, hc3, H⟩ := bind_some H
    refine ls_callb (fid := 82) (vals := #[.string a0]) (X := Unit) (fun x => .bool t2) (fun x => stl []) [] [] [] [] 0 rfl rfl (by kernel_rfl) (fun w => by kernel_rfl) trivial trivial (by decide) (fun w hs hb => shadowboxref30_Value.calls k a0 t2 (lent b w [] []) hb  hc3) ?_
    intro x4
    refine lv (.bool t2) ?_
    refine lv (.bool t2) ?_
    refine ls_end ?_
    refine qn_then ?_
    refine cs_ret' ?_
    obtain rfl := Option.some.inj H
    refine qr_res (rs := [_]) rfl (fun w' hs => ⟨[.bool t2], (res_tmp (by kernel_rfl) (.nil)), (), rfl, hs.pick (ts := []) (cs := []) trivial (by decide)⟩)
  replace H := ite_f q1 H
  refine ls_know (c := false) (dec_f q1) 9 (by kernel_rfl) ?_
  refine lofx 4 9 true false ?_
  refine lofx 4 9 true false ?_
  refine lv (.bool false) ?_
  refine lv (.bool false) ?_
  refine ls_end ?_
  refine qn_then ?_
  refine cs_ret' ?_
  obtain rfl := Option.some.inj H
  refine qr_res (rs := [_]) rfl (fun w' hs => ⟨[.bool false], (res_tmp (by kernel_rfl) (.nil)), (), rfl, hs.pick (ts := []) (cs := []) trivial (by decide)⟩)

/-! ### shadowbox/shadowboxref04.Kind: function 84 -/
def shadowboxref04_Kind.f (k : Nat) (a0 : Int) : Option (Int) :=
  (if a0 ≥ (48 : Int) then (if a0 ≤ (57 : Int) then some (1 : Int) else (if a0 ≥ (97 : Int) then (if a0 ≤ (102 : Int) then some (2 : Int) else (if a0 ≥ (103 : Int) then (if a0 ≤ (122 : Int) then some (3 : Int) else (if a0 ≥ (65 : Int) then (if a0 ≤ (90 : Int) then some (4 : Int) else some (0 : Int)) else some (0 : Int))) else (if a0 ≥ (65 : Int) then (if a0 ≤ (90 : Int) then some (4 : Int) else some (0 : Int)) else some (0 : Int)))) else (if a0 ≥ (103 : Int) then (if a0 ≤ (122 : Int) then some (3 : Int) else (if a0 ≥ (65 : Int) then (if a0 ≤ (90 : Int) then some (4 : Int) else some (0 : Int)) else some (0 : Int))) else (if a0 ≥ (65 : Int) then (if a0 ≤ (90 : Int) then some (4 : Int) else some (0 : Int)) else some (0 : Int))))) else (if a0 ≥ (97 : Int) then (if a0 ≤ (102 : Int) then some (2 : Int) else (if a0 ≥ (103 : Int) then (if a0 ≤ (122 : Int) then some (3 : Int) else (if a0 ≥ (65 : Int) then (if a0 ≤ (90 : Int) then some (4 : Int) else some (0 : Int)) else some (0 : Int))) else (if a0 ≥ (65 : Int) then (if a0 ≤ (90 : Int) then some (4 : Int) else some (0 : Int)) else some (0 : Int)))) else (if a0 ≥ (103 : Int) then (if a0 ≤ (122 : Int) then some (3 : Int) else (if a0 ≥ (65 : Int) then (if a0 ≤ (90 : Int) then some (4 : Int) else some (0 : Int)) else some (0 : Int))) else (if a0 ≥ (65 : Int) then (if a0 ≤ (90 : Int) then some (4 : Int) else some (0 : Int)) else some (0 : Int)))))
set_option maxRecDepth 100000 in
set_option maxHeartbeats 4000000 in
theorem shadowboxref04_Kind.calls (k : Nat) (a0 : Int) (r : Int) (b : Bs) (hs0 : St b (stl []) b.w) (H : shadowboxref04_Kind.f k a0 = some r) :
    Calls Try.prog 84 #[.int .u8 a0] b.w fun e w' => ∃ x : Unit, e = .returned (.int .i64 r) ∧ St b (stl []) w' := by
  unfold shadowboxref04_Kind.f at H
  refine enterb (n := 27) Try.func84 rfl (by kernel_rfl) (by kernel_rfl) hs0 ?_
  refine cs_sub (s0) (sub_nil _) ?_
  refine cs_seq ?_
  refine cs_region (l := [_]) ?_
  refine lv (.int .i64 (0 : Int)) ?_
  refine ls_end ?_
  refine qn_then ?_
  refine cs_seq ?_
  refine cs_seq ?_
  refine cs_region (l := [_, _, _, _, _, _]) ?_
  refine lv (.int .u8 a0) ?_
  refine lv (.bool (decide (a0 ≥ (48 : Int)))) ?_
  refine lv (.bool (decide (a0 ≥ (48 : Int)))) ?_
  by_cases q1 : a0 ≥ (48 : Int)
  · replace H := ite_t q1 H
    refine ls_know (c := true) (dec_t q1) 5 (by kernel_rfl) ?_
    refine ls_on (j := 2) (t := 5) (b := true) rfl rfl (by kernel_rfl) (by kernel_rfl) ?_
    refine lv (.int .u8 a0) ?_
    refine ls_on (j := 2) (t := 5) (b := true) rfl rfl (by kernel_rfl) (by kernel_rfl) ?_
    refine lv (.bool (decide (a0 ≤ (57 : Int)))) ?_
    refine lv (.bool (decide (a0 ≤ (57 : Int)))) ?_
    refine ls_end ?_
    refine qn_then ?_
    by_cases q2 : a0 ≤ (57 : Int)
    · replace H := ite_t q2 H
      refine cs_know (c := true) (dec_t q2) 8 (by kernel_rfl) ?_
      refine cs_true (by kernel_rfl) ?_
      refine cs_seq ?_
      refine cs_region (l := [_]) ?_
      refine lv (.int .i64 (1 : Int)) ?_
      refine ls_end ?_
      refine qn_then ?_
      refine cs_ret' ?_
      refine qr_then ?_
      obtain rfl := Option.some.inj H
      refine qr_res (rs := [_]) rfl (fun w' hs => ⟨[.int .i64 (1 : Int)], (res_tmp (by kernel_rfl) (.nil)), (), rfl, hs.pick (ts := []) (cs := []) trivial (by decide)⟩)
    replace H := ite_f q2 H
    refine cs_know (c := false) (dec_f q2) 8 (by kernel_rfl) ?_
    refine cs_false (by kernel_rfl) ?_
    refine cs_skip' ?_
    refine qn_then ?_
    refine cs_seq ?_
    refine cs_seq ?_
    refine cs_region (l := [_, _, _, _, _, _]) ?_
    refine lv (.int .u8 a0) ?_
    refine lv (.bool (decide (a0 ≥ (97 : Int)))) ?_
    refine lv (.bool (decide (a0 ≥ (97 : Int)))) ?_
    by_cases q3 : a0 ≥ (97 : Int)
    · replace H := ite_t q3 H
      refine ls_know (c := true) (dec_t q3) 11 (by kernel_rfl) ?_
      refine ls_on (j := 2) (t := 11) (b := true) rfl rfl (by kernel_rfl) (by kernel_rfl) ?_
      refine lv (.int .u8 a0) ?_
      refine ls_on (j := 2) (t := 11) (b := true) rfl rfl (by kernel_rfl) (by kernel_rfl) ?_
      refine lv (.bool (decide (a0 ≤ (102 : Int)))) ?_
      refine lv (.bool (decide (a0 ≤ (102 : Int)))) ?_
      refine ls_end ?_
      refine qn_then ?_
      by_cases q4 : a0 ≤ (102 : Int)
      · replace H := ite_t q4 H
        refine cs_know (c := true) (dec_t q4) 14 (by kernel_rfl) ?_
        refine cs_true (by kernel_rfl) ?_
        refine cs_seq ?_
        refine cs_region (l := [_]) ?_
        refine lv (.int .i64 (2 : Int)) ?_
        refine ls_end ?_
        refine qn_then ?_
        refine cs_ret' ?_
        refine qr_then ?_
        obtain rfl := Option.some.inj H
        refine qr_res (rs := [_]) rfl (fun w' hs => ⟨[.int .i64 (2 : Int)], (res_tmp (by kernel_rfl) (.nil)), (), rfl, hs.pick (ts := []) (cs := []) trivial (by decide)⟩)
      replace H := ite_f q4 H
      refine cs_know (c := false) (dec_f q4) 14 (by kernel_rfl) ?_
      refine cs_false (by kernel_rfl) ?_
      refine cs_skip' ?_
      refine qn_then ?_
      refine cs_seq ?_
      refine cs_seq ?_
      refine cs_region (l := [_, _, _, _, _, _]) ?_
      refine lv (.int .u8 a0) ?_
      refine lv (.bool (decide (a0 ≥ (103 : Int)))) ?_
      refine lv (.bool (decide (a0 ≥ (103 : Int)))) ?_
      by_cases q5 : a0 ≥ (103 : Int)
      · replace H := ite_t q5 H
        refine ls_know (c := true) (dec_t q5) 17 (by kernel_rfl) ?_
        refine ls_on (j := 2) (t := 17) (b := true) rfl rfl (by kernel_rfl) (by kernel_rfl) ?_
        refine lv (.int .u8 a0) ?_
        refine ls_on (j := 2) (t := 17) (b := true) rfl rfl (by kernel_rfl) (by kernel_rfl) ?_
        refine lv (.bool (decide (a0 ≤ (122 : Int)))) ?_
        refine lv (.bool (decide (a0 ≤ (122 : Int)))) ?_
        refine ls_end ?_
        refine qn_then ?_
        by_cases q6 : a0 ≤ (122 : Int)
        · replace H := ite_t q6 H
          refine cs_know (c := true) (dec_t q6) 20 (by kernel_rfl) ?_
          refine cs_true (by kernel_rfl) ?_
          refine cs_seq ?_
          refine cs_region (l := [_]) ?_
          refine lv (.int .i64 (3 : Int)) ?_
          refine ls_end ?_
          refine qn_then ?_
          refine cs_ret' ?_
          refine qr_then ?_
          obtain rfl := Option.some.inj H
          refine qr_res (rs := [_]) rfl (fun w' hs => ⟨[.int .i64 (3 : Int)], (res_tmp (by kernel_rfl) (.nil)), (), rfl, hs.pick (ts := []) (cs := []) trivial (by decide)⟩)
        replace H := ite_f q6 H
        refine cs_know (c := false) (dec_f q6) 20 (by kernel_rfl) ?_
        refine cs_false (by kernel_rfl) ?_
        refine cs_skip' ?_
        refine qn_then ?_
        refine cs_seq ?_
        refine cs_seq ?_
        refine cs_region (l := [_, _, _, _, _, _]) ?_
        refine lv (.int .u8 a0) ?_
        refine lv (.bool (decide (a0 ≥ (65 : Int)))) ?_
        refine lv (.bool (decide (a0 ≥ (65 : Int)))) ?_
        by_cases q7 : a0 ≥ (65 : Int)
        · replace H := ite_t q7 H
          refine ls_know (c := true) (dec_t q7) 23 (by kernel_rfl) ?_
          refine ls_on (j := 2) (t := 23) (b := true) rfl rfl (by kernel_rfl) (by kernel_rfl) ?_
          refine lv (.int .u8 a0) ?_
          refine ls_on (j := 2) (t := 23) (b := true) rfl rfl (by kernel_rfl) (by kernel_rfl) ?_
          refine lv (.bool (decide (a0 ≤ (90 : Int)))) ?_
          refine lv (.bool (decide (a0 ≤ (90 : Int)))) ?_
          refine ls_end ?_
          refine qn_then ?_
          by_cases q8 : a0 ≤ (90 : Int)
          · replace H := ite_t q8 H
            refine cs_know (c := true) (dec_t q8) 26 (by kernel_rfl) ?_
            refine cs_true (by kernel_rfl) ?_
            refine cs_seq ?_
            refine cs_region (l := [_]) ?_
            refine lv (.int .i64 (4 : Int)) ?_
            refine ls_end ?_
            refine qn_then ?_
            refine cs_ret' ?_
            refine qr_then ?_
            obtain rfl := Option.some.inj H
            refine qr_res (rs := [_]) rfl (fun w' hs => ⟨[.int .i64 (4 : Int)], (res_tmp (by kernel_rfl) (.nil)), (), rfl, hs.pick (ts := []) (cs := []) trivial (by decide)⟩)
          replace H := ite_f q8 H
          refine cs_know (c := false) (dec_f q8) 26 (by kernel_rfl) ?_
          refine cs_false (by kernel_rfl) ?_
          refine cs_skip' ?_
          refine qn_then ?_
          refine cs_seq ?_
          refine cs_region (l := [_]) ?_
          refine lv (.int .i64 (0 : Int)) ?_
          refine ls_end ?_
          refine qn_then ?_
          refine cs_ret' ?_
          obtain rfl := Option.some.inj H
          refine qr_res (rs := [_]) rfl (fun w' hs => ⟨[.int .i64 (0 : Int)], (res_tmp (by kernel_rfl) (.nil)), (), rfl, hs.pick (ts := []) (cs := []) trivial (by decide)⟩)
        replace H := ite_f q7 H
        refine ls_know (c := false) (dec_f q7) 23 (by kernel_rfl) ?_
        refine lofx 2 23 true false ?_
        refine lofx 2 23 true false ?_
        refine lv (.bool false) ?_
        refine ls_end ?_
        refine qn_then ?_
        refine cs_false (by kernel_rfl) ?_
        refine cs_skip' ?_
        refine qn_then ?_
        refine cs_seq ?_
        refine cs_region (l := [_]) ?_
        refine lv (.int .i64 (0 : Int)) ?_
        refine ls_end ?_
        refine qn_then ?_
        refine cs_ret' ?_
        obtain rfl := Option.some.inj H
        refine qr_res (rs := [_]) rfl (fun w' hs => ⟨[.int .i64 (0 : Int)], (res_tmp (by kernel_rfl) (.nil)), (), rfl, hs.pick (ts := []) (cs := []) trivial (by decide)⟩)
      replace H := ite_f q5 H
      refine ls_know (c := false) (dec_f q5) 17 (by kernel_rfl) ?_
      refine lofx 2 17 true false ?_
      refine lofx 2 17 true false ?_
      refine lv (.bool false) ?_
      refine ls_end ?_
      refine qn_then ?_
      refine cs_false (by kernel_rfl) ?_
      refine cs_skip' ?_
      refine qn_then ?_
      refine cs_seq ?_
      refine cs_seq ?_
      refine cs_region (l := [_, _, _, _, _, _]) ?_
      refine lv (.int .u8 a0) ?_
      refine lv (.bool (decide (a0 ≥ (65 : Int)))) ?_
      refine lv (.bool (decide (a0 ≥ (65 : Int)))) ?_
      by_cases q9 : a0 ≥ (65 : Int)
      · replace H := ite_t q9 H
        refine ls_know (c := true) (dec_t q9) 23 (by kernel_rfl) ?_
        refine ls_on (j := 2) (t := 23) (b := true) rfl rfl (by kernel_rfl) (by kernel_rfl) ?_
        refine lv (.int .u8 a0) ?_
        refine ls_on (j := 2) (t := 23) (b := true) rfl rfl (by kernel_rfl) (by kernel_rfl) ?_
        refine lv (.bool (decide (a0 ≤ (90 : Int)))) ?_
        refine lv (.bool (decide (a0 ≤ (90 : Int)))) ?_
        refine ls_end ?_
        refine qn_then ?_
        by_cases q10 : a0 ≤ (90 : Int)
        · replace H := ite_t q10 H
          refine cs_know (c := true) (dec_t q10) 26 (by kernel_rfl) ?_
          refine cs_true (by kernel_rfl) ?_
          refine cs_seq ?_
          refine cs_region (l := [_]) ?_
          refine lv (.int .i64 (4 : Int)) ?_
          refine ls_end ?_
          refine qn_then ?_
          refine cs_ret' ?_
          refine qr_then ?_
          obtain rfl := Option.some.inj H
          refine qr_res (rs := [_]) rfl (fun w' hs => ⟨[.int .i64 (4 : Int)], (res_tmp (by kernel_rfl) (.nil)), (), rfl, hs.pick (ts := []) (cs := []) trivial (by decide)⟩)
        replace H := ite_f q10 H
        refine cs_know (c := false) (dec_f q10) 26 (by kernel_rfl) ?_
        refine cs_false (by kernel_rfl) ?_
        refine cs_skip' ?_
        refine qn_then ?_
        refine cs_seq ?_
        refine cs_region (l := [_]) ?_
        refine lv (.int .i64 (0 : Int)) ?_
        refine ls_end ?_
        refine qn_then ?_
        refine cs_ret' ?_
        obtain rfl := Option.some.inj H
        refine qr_res (rs := [_]) rfl (fun w' hs => ⟨[.int .i64 (0 : Int)], (res_tmp (by kernel_rfl) (.nil)), (), rfl, hs.pick (ts := []) (cs := []) trivial (by decide)⟩)
      replace H := ite_f q9 H
      refine ls_know (c := false) (dec_f q9) 23 (by kernel_rfl) ?_
      refine lofx 2 23 true false ?_
      refine lofx 2 23 true false ?_
      refine lv (.bool false) ?_
      refine ls_end ?_
      refine qn_then ?_
      refine cs_false (by kernel_rfl) ?_
      refine cs_skip' ?_
      refine qn_then ?_
      refine cs_seq ?_
      refine cs_region (l := [_]) ?_
      refine lv (.int .i64 (0 : Int)) ?_
      refine ls_end ?_
      refine qn_then ?_
      refine cs_ret' ?_
      obtain rfl := Option.some.inj H
      refine qr_res (rs := [_]) rfl (fun w' hs => ⟨[.int .i64 (0 : Int)], (res_tmp (by kernel_rfl) (.nil)), (), rfl, hs.pick (ts := []) (cs := []) trivial (by decide)⟩)
    replace H := ite_f q3 H
    refine ls_know (c := false) (dec_f q3) 11 (by kernel_rfl) ?_
    refine lofx 2 11 true false ?_
    refine lofx 2 11 true false ?_
    refine lv (.bool false) ?_
    refine ls_end ?_
    refine qn_then ?_
    refine cs_false (by kernel_rfl) ?_
    refine cs_skip' ?_
    refine qn_then ?_
    refine cs_seq ?_
    refine cs_seq ?_
    refine cs_region (l := [_, _, _, _, _, _]) ?_
    refine lv (.int .u8 a0) ?_
    refine lv (.bool (decide (a0 ≥ (103 : Int)))) ?_
    refine lv (.bool (decide (a0 ≥ (103 : Int)))) ?_
    by_cases q11 : a0 ≥ (103 : Int)
    · replace H := ite_t q11 H
      refine ls_know (c := true) (dec_t q11) 17 (by kernel_rfl) ?_
      refine ls_on (j := 2) (t := 17) (b := true) rfl rfl (by kernel_rfl) (by kernel_rfl) ?_
      refine lv (.int .u8 a0) ?_
      refine ls_on (j := 2) (t := 17) (b := true) rfl rfl (by kernel_rfl) (by kernel_rfl) ?_
      refine lv (.bool (decide (a0 ≤ (122 : Int)))) ?_
      refine lv (.bool (decide (a0 ≤ (122 : Int)))) ?_
      refine ls_end ?_
      refine qn_then ?_
      by_cases q12 : a0 ≤ (122 : Int)
      · replace H := ite_t q12 H
        refine cs_know (c := true) (dec_t q12) 20 (by kernel_rfl) ?_
        refine cs_true (by kernel_rfl) ?_
        refine cs_seq ?_
        refine cs_region (l := [_]) ?_
        refine lv (.int .i64 (3 : Int)) ?_
        refine ls_end ?_
        refine qn_then ?_
        refine cs_ret' ?_
        refine qr_then ?_
        obtain rfl := Option.some.inj H
        refine qr_res (rs := [_]) rfl (fun w' hs => ⟨[.int .i64 (3 : Int)], (res_tmp (by kernel_rfl) (.nil)), (), rfl, hs.pick (ts := []) (cs := []) trivial (by decide)⟩)
      replace H := ite_f q12 H
      refine cs_know (c := false) (dec_f q12) 20 (by kernel_rfl) ?_
      refine cs_false (by kernel_rfl) ?_
      refine cs_skip' ?_
      refine qn_then ?_
      refine cs_seq ?_
      refine cs_seq ?_
      refine cs_region (l := [_, _, _, _, _, _]) ?_
      refine lv (.int .u8 a0) ?_
      refine lv (.bool (decide (a0 ≥ (65 : Int)))) ?_
      refine lv (.bool (decide (a0 ≥ (65 : Int)))) ?_
      by_cases q13 : a0 ≥ (65 : Int)
      · replace H := ite_t q13 H
        refine ls_know (c := true) (dec_t q13) 23 (by kernel_rfl) ?_
        refine ls_on (j := 2) (t := 23) (b := true) rfl rfl (by kernel_rfl) (by kernel_rfl) ?_
        refine lv (.int .u8 a0) ?_
        refine ls_on (j := 2) (t := 23) (b := true) rfl rfl (by kernel_rfl) (by kernel_rfl) ?_
        refine lv (.bool (decide (a0 ≤ (90 : Int)))) ?_
        refine lv (.bool (decide (a0 ≤ (90 : Int)))) ?_
        refine ls_end ?_
        refine qn_then ?_
        by_cases q14 : a0 ≤ (90 : Int)
        · replace H := ite_t q14 H
          refine cs_know (c := true) (dec_t q14) 26 (by kernel_rfl) ?_
          refine cs_true (by kernel_rfl) ?_
          refine cs_seq ?_
          refine cs_region (l := [_]) ?_
          refine lv (.int .i64 (4 : Int)) ?_
          refine ls_end ?_
          refine qn_then ?_
          refine cs_ret' ?_
          refine qr_then ?_
          obtain rfl := Option.some.inj H
          refine qr_res (rs := [_]) rfl (fun w' hs => ⟨[.int .i64 (4 : Int)], (res_tmp (by kernel_rfl) (.nil)), (), rfl, hs.pick (ts := []) (cs := []) trivial (by decide)⟩)
        replace H := ite_f q14 H
        refine cs_know (c := false) (dec_f q14) 26 (by kernel_rfl) ?_
        refine cs_false (by kernel_rfl) ?_
        refine cs_skip' ?_
        refine qn_then ?_
        refine cs_seq ?_
        refine cs_region (l := [_]) ?_
        refine lv (.int .i64 (0 : Int)) ?_
        refine ls_end ?_
        refine qn_then ?_
        refine cs_ret' ?_
        obtain rfl := Option.some.inj H
        refine qr_res (rs := [_]) rfl (fun w' hs => ⟨[.int .i64 (0 : Int)], (res_tmp (by kernel_rfl) (.nil)), (), rfl, hs.pick (ts := []) (cs := []) trivial (by decide)⟩)
      replace H := ite_f q13 H
      refine ls_know (c := false) (dec_f q13) 23 (by kernel_rfl) ?_
      refine lofx 2 23 true false ?_
      refine lofx 2 23 true false ?_
      refine lv (.bool false) ?_
      refine ls_end ?_
      refine qn_then ?_
      refine cs_false (by kernel_rfl) ?_
      refine cs_skip' ?_
      refine qn_then ?_
      refine cs_seq ?_
      refine cs_region (l := [_]) ?_
      refine lv (.int .i64 (0 : Int)) ?_
      refine ls_end ?_
      refine qn_then ?_
      refine cs_ret' ?_
      obtain rfl := Option.some.inj H
      refine qr_res (rs := [_]) rfl (fun w' hs => ⟨[.int .i64 (0 : Int)], (res_tmp (by kernel_rfl) (.nil)), (), rfl, hs.pick (ts := []) (cs := []) trivial (by decide)⟩)
    replace H := ite_f q11 H
    refine ls_know (c := false) (dec_f q11) 17 (by kernel_rfl) ?_
    refine lofx 2 17 true false ?_
    refine lofx 2 17 true false ?_
    refine lv (.bool false) ?_
    refine ls_end ?_
    refine qn_then ?_
    refine cs_false (by kernel_rfl) ?_
    refine cs_skip' ?_
    refine qn_then ?_
    refine cs_seq ?_
    refine cs_seq ?_
    refine cs_region (l := [_, _, _, _, _, _]) ?_
    refine lv (.int .u8 a0) ?_
    refine lv (.bool (decide (a0 ≥ (65 : Int)))) ?_
    refine lv (.bool (decide (a0 ≥ (65 : Int)))) ?_
    by_cases q15 : a0 ≥ (65 : Int)
    · replace H := ite_t q15 H
      refine ls_know (c := true) (dec_t q15) 23 (by kernel_rfl) ?_
      refine ls_on (j := 2) (t := 23) (b := true) rfl rfl (by kernel_rfl) (by kernel_rfl) ?_
      refine lv (.int .u8 a0) ?_
      refine ls_on (j := 2) (t := 23) (b := true) rfl rfl (by kernel_rfl) (by kernel_rfl) ?_
      refine lv (.bool (decide (a0 ≤ (90 : Int)))) ?_
      refine lv (.bool (decide (a0 ≤ (90 : Int)))) ?_
      refine ls_end ?_
      refine qn_then ?_
      by_cases q16 : a0 ≤ (90 : Int)
      · replace H := ite_t q16 H
        refine cs_know (c := true) (dec_t q16) 26 (by kernel_rfl) ?_
        refine cs_true (by kernel_rfl) ?_
        refine cs_seq ?_
        refine cs_region (l := [_]) ?_
        refine lv (.int .i64 (4 : Int)) ?_
        refine ls_end ?_
        refine qn_then ?_
        refine cs_ret' ?_
        refine qr_then ?_
        obtain rfl := Option.some.inj H
        refine qr_res (rs := [_]) rfl (fun w' hs => ⟨[.int .i64 (4 : Int)], (res_tmp (by kernel_rfl) (.nil)), (), rfl, hs.pick (ts := []) (cs := []) trivial (by decide)⟩)
      replace H := ite_f q16 H
      refine cs_know (c := false) (dec_f q16) 26 (by kernel_rfl) ?_
      refine cs_false (by kernel_rfl) ?_
      refine cs_skip' ?_
      refine qn_then ?_
      refine cs_seq ?_
      refine cs_region (l := [_]) ?_
      refine lv (.int .i64 (0 : Int)) ?_
      refine ls_end ?_
      refine qn_then ?_
      refine cs_ret' ?_
      obtain rfl := Option.some.inj H
      refine qr_res (rs := [_]) rfl (fun w' hs => ⟨[.int .i64 (0 : Int)], (res_tmp (by kernel_rfl) (.nil)), (), rfl, hs.pick (ts := []) (cs := []) trivial (by decide)⟩)
    replace H := ite_f q15 H
    refine ls_know (c := false) (dec_f q15) 23 (by kernel_rfl) ?_
    refine lofx 2 23 true false ?_
    refine lofx 2 23 true false ?_
    refine lv (.bool false) ?_
    refine ls_end ?_
    refine qn_then ?_
    refine cs_false (by kernel_rfl) ?_
    refine cs_skip' ?_
    refine qn_then ?_
    refine cs_seq ?_
    refine cs_region (l := [_]) ?_
    refine lv (.int .i64 (0 : Int)) ?_
    refine ls_end ?_
    refine qn_then ?_
    refine cs_ret' ?_
    obtain rfl := Option.some.inj H
    refine qr_res (rs := [_]) rfl (fun w' hs => ⟨[.int .i64 (0 : Int)], (res_tmp (by kernel_rfl) (.nil)), (), rfl, hs.pick (ts := []) (cs := []) trivial (by decide)⟩)
  replace H := ite_f q1 H
  refine ls_know (c := false) (dec_f q1) 5 (by kernel_rfl) ?_
  refine lofx 2 5 true false ?_
  refine lofx 2 5 true false ?_
  refine lv (.bool false) ?_
  refine ls_end ?_
  refine qn_then ?_
  refine cs_false (by kernel_rfl) ?_
  refine cs_skip' ?_
  refine qn_then ?_
  refine cs_seq ?_
  refine cs_seq ?_
  refine cs_region (l := [_, _, _, _, _, _]) ?_
  refine lv (.int .u8 a0) ?_
  refine lv (.bool (decide (a0 ≥ (97 : Int)))) ?_
  refine lv (.bool (decide (a0 ≥ (97 : Int)))) ?_
  by_cases q17 : a0 ≥ (97 : Int)
  · replace H := ite_t q17 H
    refine ls_know (c := true) (dec_t q17) 11 (by kernel_rfl) ?_
    refine ls_on (j := 2) (t := 11) (b := true) rfl rfl (by kernel_rfl) (by kernel_rfl) ?_
    refine lv (.int .u8 a0) ?_
    refine ls_on (j := 2) (t := 11) (b := true) rfl rfl (by kernel_rfl) (by kernel_rfl) ?_
    refine lv (.bool (decide (a0 ≤ (102 : Int)))) ?_
    refine lv (.bool (decide (a0 ≤ (102 : Int)))) ?_
    refine ls_end ?_
    refine qn_then ?_
    by_cases q18 : a0 ≤ (102 : Int)
    · replace H := ite_t q18 H
      refine cs_know (c := true) (dec_t q18) 14 (by kernel_rfl) ?_
      refine cs_true (by kernel_rfl) ?_
      refine cs_seq ?_
      refine cs_region (l := [_]) ?_
      refine lv (.int .i64 (2 : Int)) ?_
      refine ls_end ?_
      refine qn_then ?_
      refine cs_ret' ?_
      refine qr_then ?_
      obtain rfl := Option.some.inj H
      refine qr_res (rs := [_]) rfl (fun w' hs => ⟨[.int .i64 (2 : Int)], (res_tmp (by kernel_rfl) (.nil)), (), rfl, hs.pick (ts := []) (cs := []) trivial (by decide)⟩)
    replace H := ite_f q18 H
    refine cs_know (c := false) (dec_f q18) 14 (by kernel_rfl) ?_
    refine cs_false (by kernel_rfl) ?_
    refine cs_skip' ?_
    refine qn_then ?_
    refine cs_seq ?_
    refine cs_seq ?_
    refine cs_region (l := [_, _, _, _, _, _]) ?_
    refine lv (.int .u8 a0) ?_
    refine lv (.bool (decide (a0 ≥ (103 : Int)))) ?_
    refine lv (.bool (decide (a0 ≥ (103 : Int)))) ?_
    by_cases q19 : a0 ≥ (103 : Int)
    · replace H := ite_t q19 H
      refine ls_know (c := true) (dec_t q19) 17 (by kernel_rfl) ?_
      refine ls_on (j := 2) (t := 17) (b := true) rfl rfl (by kernel_rfl) (by kernel_rfl) ?_
      refine lv (.int .u8 a0) ?_
      refine ls_on (j := 2) (t := 17) (b := true) rfl rfl (by kernel_rfl) (by kernel_rfl) ?_
      refine lv (.bool (decide (a0 ≤ (122 : Int)))) ?_
      refine lv (.bool (decide (a0 ≤ (122 : Int)))) ?_
      refine ls_end ?_
      refine qn_then ?_
      by_cases q20 : a0 ≤ (122 : Int)
      · replace H := ite_t q20 H
        refine cs_know (c := true) (dec_t q20) 20 (by kernel_rfl) ?_
        refine cs_true (by kernel_rfl) ?_
        refine cs_seq ?_
        refine cs_region (l := [_]) ?_
        refine lv (.int .i64 (3 : Int)) ?_
        refine ls_end ?_
        refine qn_then ?_
        refine cs_ret' ?_
        refine qr_then ?_
        obtain rfl := Option.some.inj H
        refine qr_res (rs := [_]) rfl (fun w' hs => ⟨[.int .i64 (3 : Int)], (res_tmp (by kernel_rfl) (.nil)), (), rfl, hs.pick (ts := []) (cs := []) trivial (by decide)⟩)
      replace H := ite_f q20 H
      refine cs_know (c := false) (dec_f q20) 20 (by kernel_rfl) ?_
      refine cs_false (by kernel_rfl) ?_
      refine cs_skip' ?_
      refine qn_then ?_
      refine cs_seq ?_
      refine cs_seq ?_
      refine cs_region (l := [_, _, _, _, _, _]) ?_
      refine lv (.int .u8 a0) ?_
      refine lv (.bool (decide (a0 ≥ (65 : Int)))) ?_
      refine lv (.bool (decide (a0 ≥ (65 : Int)))) ?_
      by_cases q21 : a0 ≥ (65 : Int)
      · replace H := ite_t q21 H
        refine ls_know (c := true) (dec_t q21) 23 (by kernel_rfl) ?_
        refine ls_on (j := 2) (t := 23) (b := true) rfl rfl (by kernel_rfl) (by kernel_rfl) ?_
        refine lv (.int .u8 a0) ?_
        refine ls_on (j := 2) (t := 23) (b := true) rfl rfl (by kernel_rfl) (by kernel_rfl) ?_
        refine lv (.bool (decide (a0 ≤ (90 : Int)))) ?_
        refine lv (.bool (decide (a0 ≤ (90 : Int)))) ?_
        refine ls_end ?_
        refine qn_then ?_
        by_cases q22 : a0 ≤ (90 : Int)
        · replace H := ite_t q22 H
          refine cs_know (c := true) (dec_t q22) 26 (by kernel_rfl) ?_
          refine cs_true (by kernel_rfl) ?_
          refine cs_seq ?_
          refine cs_region (l := [_]) ?_
          refine lv (.int .i64 (4 : Int)) ?_
          refine ls_end ?_
          refine qn_then ?_
          refine cs_ret' ?_
          refine qr_then ?_
          obtain rfl := Option.some.inj H
          refine qr_res (rs := [_]) rfl (fun w' hs => ⟨[.int .i64 (4 : Int)], (res_tmp (by kernel_rfl) (.nil)), (), rfl, hs.pick (ts := []) (cs := []) trivial (by decide)⟩)
        replace H := ite_f q22 H
        refine cs_know (c := false) (dec_f q22) 26 (by kernel_rfl) ?_
        refine cs_false (by kernel_rfl) ?_
        refine cs_skip' ?_
        refine qn_then ?_
        refine cs_seq ?_
        refine cs_region (l := [_]) ?_
        refine lv (.int .i64 (0 : Int)) ?_
        refine ls_end ?_
        refine qn_then ?_
        refine cs_ret' ?_
        obtain rfl := Option.some.inj H
        refine qr_res (rs := [_]) rfl (fun w' hs => ⟨[.int .i64 (0 : Int)], (res_tmp (by kernel_rfl) (.nil)), (), rfl, hs.pick (ts := []) (cs := []) trivial (by decide)⟩)
      replace H := ite_f q21 H
      refine ls_know (c := false) (dec_f q21) 23 (by kernel_rfl) ?_
      refine lofx 2 23 true false ?_
      refine lofx 2 23 true false ?_
      refine lv (.bool false) ?_
      refine ls_end ?_
      refine qn_then ?_
      refine cs_false (by kernel_rfl) ?_
      refine cs_skip' ?_
      refine qn_then ?_
      refine cs_seq ?_
      refine cs_region (l := [_]) ?_
      refine lv (.int .i64 (0 : Int)) ?_
      refine ls_end ?_
      refine qn_then ?_
      refine cs_ret' ?_
      obtain rfl := Option.some.inj H
      refine qr_res (rs := [_]) rfl (fun w' hs => ⟨[.int .i64 (0 : Int)], (res_tmp (by kernel_rfl) (.nil)), (), rfl, hs.pick (ts := []) (cs := []) trivial (by decide)⟩)
    replace H := ite_f q19 H
    refine ls_know (c := false) (dec_f q19) 17 (by kernel_rfl) ?_
    refine lofx 2 17 true false ?_
    refine lofx 2 17 true false ?_
    refine lv (.bool false) ?_
    refine ls_end ?_
    refine qn_then ?_
    refine cs_false (by kernel_rfl) ?_
    refine cs_skip' ?_
    refine qn_then ?_
    refine cs_seq ?_
    refine cs_seq ?_
    refine cs_region (l := [_, _, _, _, _, _]) ?_
    refine lv (.int .u8 a0) ?_
    refine lv (.bool (decide (a0 ≥ (65 : Int)))) ?_
    refine lv (.bool (decide (a0 ≥ (65 : Int)))) ?_
    by_cases q23 : a0 ≥ (65 : Int)
    · replace H := ite_t q23 H
      refine ls_know (c := true) (dec_t q23) 23 (by kernel_rfl) ?_
      refine ls_on (j := 2) (t := 23) (b := true) rfl rfl (by kernel_rfl) (by kernel_rfl) ?_
      refine lv (.int .u8 a0) ?_
      refine ls_on (j := 2) (t := 23) (b := true) rfl rfl (by kernel_rfl) (by kernel_rfl) ?_
      refine lv (.bool (decide (a0 ≤ (90 : Int)))) ?_
      refine lv (.bool (decide (a0 ≤ (90 : Int)))) ?_
      refine ls_end ?_
      refine qn_then ?_
      by_cases q24 : a0 ≤ (90 : Int)
      · replace H := ite_t q24 H
        refine cs_know (c := true) (dec_t q24) 26 (by kernel_rfl) ?_
        refine cs_true (by kernel_rfl) ?_
        refine cs_seq ?_
        refine cs_region (l := [_]) ?_
        refine lv (.int .i64 (4 : Int)) ?_
        refine ls_end ?_
        refine qn_then ?_
        refine cs_ret' ?_
        refine qr_then ?_
        obtain rfl := Option.some.inj H
        refine qr_res (rs := [_]) rfl (fun w' hs => ⟨[.int .i64 (4 : Int)], (res_tmp (by kernel_rfl) (.nil)), (), rfl, hs.pick (ts := []) (cs := []) trivial (by decide)⟩)
      replace H := ite_f q24 H
      refine cs_know (c := false) (dec_f q24) 26 (by kernel_rfl) ?_
      refine cs_false (by kernel_rfl) ?_
      refine cs_skip' ?_
      refine qn_then ?_
      refine cs_seq ?_
      refine cs_region (l := [_]) ?_
      refine lv (.int .i64 (0 : Int)) ?_
      refine ls_end ?_
      refine qn_then ?_
      refine cs_ret' ?_
      obtain rfl := Option.some.inj H
      refine qr_res (rs := [_]) rfl (fun w' hs => ⟨[.int .i64 (0 : Int)], (res_tmp (by kernel_rfl) (.nil)), (), rfl, hs.pick (ts := []) (cs := []) trivial (by decide)⟩)
    replace H := ite_f q23 H
    refine ls_know (c := false) (dec_f q23) 23 (by kernel_rfl) ?_
    refine lofx 2 23 true false ?_
    refine lofx 2 23 true false ?_
    refine lv (.bool false) ?_
    refine ls_end ?_
    refine qn_then ?_
    refine cs_false (by kernel_rfl) ?_
    refine cs_skip' ?_
    refine qn_then ?_
    refine cs_seq ?_
    refine cs_region (l := [_]) ?_
    refine lv (.int .i64 (0 : Int)) ?_
    refine ls_end ?_
    refine qn_then ?_
    refine cs_ret' ?_
    obtain rfl := Option.some.inj H
    refine qr_res (rs := [_]) rfl (fun w' hs => ⟨[.int .i64 (0 : Int)], (res_tmp (by kernel_rfl) (.nil)), (), rfl, hs.pick (ts := []) (cs := []) trivial (by decide)⟩)
  replace H := ite_f q17 H
  refine ls_know (c := false) (dec_f q17) 11 (by kernel_rfl) ?_
  refine lofx 2 11 true false ?_
  refine lofx 2 11 true false ?_
  refine lv (.bool false) ?_
  refine ls_end ?_
  refine qn_then ?_
  refine cs_false (by kernel_rfl) ?_
  refine cs_skip' ?_
  refine qn_then ?_
  refine cs_seq ?_
  refine cs_seq ?_
  refine cs_region (l := [_, _, _, _, _, _]) ?_
  refine lv (.int .u8 a0) ?_
  refine lv (.bool (decide (a0 ≥ (103 : Int)))) ?_
  refine lv (.bool (decide (a0 ≥ (103 : Int)))) ?_
  by_cases q25 : a0 ≥ (103 : Int)
  · replace H := ite_t q25 H
    refine ls_know (c := true) (dec_t q25) 17 (by kernel_rfl) ?_
    refine ls_on (j := 2) (t := 17) (b := true) rfl rfl (by kernel_rfl) (by kernel_rfl) ?_
    refine lv (.int .u8 a0) ?_
    refine ls_on (j := 2) (t := 17) (b := true) rfl rfl (by kernel_rfl) (by kernel_rfl) ?_
    refine lv (.bool (decide (a0 ≤ (122 : Int)))) ?_
    refine lv (.bool (decide (a0 ≤ (122 : Int)))) ?_
    refine ls_end ?_
    refine qn_then ?_
    by_cases q26 : a0 ≤ (122 : Int)
    · replace H := ite_t q26 H
      refine cs_know (c := true) (dec_t q26) 20 (by kernel_rfl) ?_
      refine cs_true (by kernel_rfl) ?_
      refine cs_seq ?_
      refine cs_region (l := [_]) ?_
      refine lv (.int .i64 (3 : Int)) ?_
      refine ls_end ?_
      refine qn_then ?_
      refine cs_ret' ?_
      refine qr_then ?_
      obtain rfl := Option.some.inj H
      refine qr_res (rs := [_]) rfl (fun w' hs => ⟨[.int .i64 (3 : Int)], (res_tmp (by kernel_rfl) (.nil)), (), rfl, hs.pick (ts := []) (cs := []) trivial (by decide)⟩)
    replace H := ite_f q26 H
    refine cs_know (c := false) (dec_f q26) 20 (by kernel_rfl) ?_
    refine cs_false (by kernel_rfl) ?_
    refine cs_skip' ?_
    refine qn_then ?_
    refine cs_seq ?_
    refine cs_seq ?_
    refine cs_region (l := [_, _, _, _, _, _]) ?_
    refine lv (.int .u8 a0) ?_
    refine lv (.bool (decide (a0 ≥ (65 : Int)))) ?_
    refine lv (.bool (decide (a0 ≥ (65 : Int)))) ?_
    by_cases q27 : a0 ≥ (65 : Int)
    · replace H := ite_t q27 H
      refine ls_know (c := true) (dec_t q27) 23 (by kernel_rfl) ?_
      refine ls_on (j := 2) (t := 23) (b := true) rfl rfl (by kernel_rfl) (by kernel_rfl) ?_
      refine lv (.int .u8 a0) ?_
      refine ls_on (j := 2) (t := 23) (b := true) rfl rfl (by kernel_rfl) (by kernel_rfl) ?_
      refine lv (.bool (decide (a0 ≤ (90 : Int)))) ?_
      refine lv (.bool (decide (a0 ≤ (90 : Int)))) ?_
      refine ls_end ?_
      refine qn_then ?_
      by_cases q28 : a0 ≤ (90 : Int)
      · replace H := ite_t q28 H
        refine cs_know (c := true) (dec_t q28) 26 (by kernel_rfl) ?_
        refine cs_true (by kernel_rfl) ?_
        refine cs_seq ?_
        refine cs_region (l := [_]) ?_
        refine lv (.int .i64 (4 : Int)) ?_
        refine ls_end ?_
        refine qn_then ?_
        refine cs_ret' ?_
        refine qr_then ?_
        obtain rfl := Option.some.inj H
        refine qr_res (rs := [_]) rfl (fun w' hs => ⟨[.int .i64 (4 : Int)], (res_tmp (by kernel_rfl) (.nil)), (), rfl, hs.pick (ts := []) (cs := []) trivial (by decide)⟩)
      replace H := ite_f q28 H
      refine cs_know (c := false) (dec_f q28) 26 (by kernel_rfl) ?_
      refine cs_false (by kernel_rfl) ?_
      refine cs_skip' ?_
      refine qn_then ?_
      refine cs_seq ?_
      refine cs_region (l := [_]) ?_
      refine lv (.int .i64 (0 : Int)) ?_
      refine ls_end ?_
      refine qn_then ?_
      refine cs_ret' ?_
      obtain rfl := Option.some.inj H
      refine qr_res (rs := [_]) rfl (fun w' hs => ⟨[.int .i64 (0 : Int)], (res_tmp (by kernel_rfl) (.nil)), (), rfl, hs.pick (ts := []) (cs := []) trivial (by decide)⟩)
    replace H := ite_f q27 H
    refine ls_know (c := false) (dec_f q27) 23 (by kernel_rfl) ?_
    refine lofx 2 23 true false ?_
    refine lofx 2 23 true false ?_
    refine lv (.bool false) ?_
    refine ls_end ?_
    refine qn_then ?_
    refine cs_false (by kernel_rfl) ?_
    refine cs_skip' ?_
    refine qn_then ?_
    refine cs_seq ?_
    refine cs_region (l := [_]) ?_
    refine lv (.int .i64 (0 : Int)) ?_
    refine ls_end ?_
    refine qn_then ?_
    refine cs_ret' ?_
    obtain rfl := Option.some.inj H
    refine qr_res (rs := [_]) rfl (fun w' hs => ⟨[.int .i64 (0 : Int)], (res_tmp (by kernel_rfl) (.nil)), (), rfl, hs.pick (ts := []) (cs := []) trivial (by decide)⟩)
  replace H := ite_f q25 H
  refine ls_know (c := false) (dec_f q25) 17 (by kernel_rfl) ?_
  refine lofx 2 17 true false ?_
  refine lofx 2 17 true false ?_
  refine lv (.bool false) ?_
  refine ls_end ?_
  refine qn_then ?_
  refine cs_false (by kernel_rfl) ?_
  refine cs_skip' ?_
  refine qn_then ?_
  refine cs_seq ?_
  refine cs_seq ?_
  refine cs_region (l := [_, _, _, _, _, _]) ?_
  refine lv (.int .u8 a0) ?_
  refine lv (.bool (decide (a0 ≥ (65 : Int)))) ?_
  refine lv (.bool (decide (a0 ≥ (65 : Int)))) ?_
  by_cases q29 : a0 ≥ (65 : Int)
  · replace H := ite_t q29 H
    refine ls_know (c := true) (dec_t q29) 23 (by kernel_rfl) ?_
    refine ls_on (j := 2) (t := 23) (b := true) rfl rfl (by kernel_rfl) (by kernel_rfl) ?_
    refine lv (.int .u8 a0) ?_
    refine ls_on (j := 2) (t := 23) (b := true) rfl rfl (by kernel_rfl) (by kernel_rfl) ?_
    refine lv (.bool (decide (a0 ≤ (90 : Int)))) ?_
    refine lv (.bool (decide (a0 ≤ (90 : Int)))) ?_
    refine ls_end ?_
    refine qn_then ?_
    by_cases q30 : a0 ≤ (90 : Int)
    · replace H := ite_t q30 H
      refine cs_know (c := true) (dec_t q30) 26 (by kernel_rfl) ?_
      refine cs_true (by kernel_rfl) ?_
      refine cs_seq ?_
      refine cs_region (l := [_]) ?_
      refine lv (.int .i64 (4 : Int)) ?_
      refine ls_end ?_
      refine qn_then ?_
      refine cs_ret' ?_
      refine qr_then ?_
      obtain rfl := Option.some.inj H
      refine qr_res (rs := [_]) rfl (fun w' hs => ⟨[.int .i64 (4 : Int)], (res_tmp (by kernel_rfl) (.nil)), (), rfl, hs.pick (ts := []) (cs := []) trivial (by decide)⟩)
    replace H := ite_f q30 H
    refine cs_know (c := false) (dec_f q30) 26 (by kernel_rfl) ?_
    refine cs_false (by kernel_rfl) ?_
    refine cs_skip' ?_
    refine qn_then ?_
    refine cs_seq ?_
    refine cs_region (l := [_]) ?_
    refine lv (.int .i64 (0 : Int)) ?_
    refine ls_end ?_
    refine qn_then ?_
    refine cs_ret' ?_
    obtain rfl := Option.some.inj H
    refine qr_res (rs := [_]) rfl (fun w' hs => ⟨[.int .i64 (0 : Int)], (res_tmp (by kernel_rfl) (.nil)), (), rfl, hs.pick (ts := []) (cs := []) trivial (by decide)⟩)
  replace H := ite_f q29 H
  refine ls_know (c := false) (dec_f q29) 23 (by kernel_rfl) ?_
  refine lofx 2 23 true false ?_
  refine lofx 2 23 true false ?_
  refine lv (.bool false) ?_
  refine ls_end ?_
  refine qn_then ?_
  refine cs_false (by kernel_rfl) ?_
  refine cs_skip' ?_
  refine qn_then ?_
  refine cs_seq ?_
  refine cs_region (l := [_]) ?_
  refine lv (.int .i64 (0 : Int)) ?_
  refine ls_end ?_
  refine qn_then ?_
  refine cs_ret' ?_
  obtain rfl := Option.some.inj H
  refine qr_res (rs := [_]) rfl (fun w' hs => ⟨[.int .i64 (0 : Int)], (res_tmp (by kernel_rfl) (.nil)), (), rfl, hs.pick (ts := []) (cs := []) trivial (by decide)⟩)

/-! ### shadowbox/shadowboxref30.sign: function 83 -/
def shadowboxref30_sign.cst0 : ByteArray := (⟨#[33, 35, 36, 37, 38, 39, 42, 43, 45, 46, 94, 95, 124, 126]⟩ : ByteArray)
def shadowboxref30_sign.lo2 (a0 : Int) : Nat → Int → Option (Bool)
  | 0, _ => none
  | k2 + 1, x4_2 => (if x4_2 < (shadowboxref30_sign.cst0.size : Int) then (if 0 ≤ x4_2 then (if (bt shadowboxref30_sign.cst0 x4_2) = a0 then some true else (shadowboxref30_sign.lo2 a0 k2) (IntKind.wrap .i64 (x4_2 + (1 : Int)))) else none) else some (decide (a0 = (96 : Int))))
def shadowboxref30_sign.jo1 (k : Nat) (a0 : Int) : Option (Bool) := shadowboxref30_sign.lo2 a0 k (0 : Int)
def shadowboxref30_sign.f (k : Nat) (a0 : Int) : Option (Bool) :=
  (shadowboxref04_Kind.f k a0).bind fun t4 => (if t4 = (0 : Int) then (shadowboxref30_sign.jo1 k a0) else some true)
set_option maxRecDepth 100000 in
set_option maxHeartbeats 4000000 in
theorem shadowboxref30_sign.calls (k : Nat) (a0 : Int) (r : Bool) (b : Bs) (hs0 : St b (stl []) b.w) (H : shadowboxref30_sign.f k a0 = some r) :
    Calls Try.prog 83 #[.int .u8 a0] b.w fun e w' => ∃ x : Unit, e = .returned (.bool r) ∧ St b (stl []) w' := by
  unfold shadowboxref30_sign.f at H
  refine enterb (n := 21) Try.func83 rfl (by kernel_rfl) (by kernel_rfl) hs0 ?_
  refine cs_sub (s0) (sub_nil _) ?_
  refine cs_seq ?_
  refine cs_region (l := [_]) ?_
  refine lv (.bool false) ?_
  refine ls_end ?_
  refine qn_then ?_
  refine cs_cut (fun f S => ∃ (fR : Fr), f = upd fR 0 (.int .u8 a0) ∧ S = s0 ∧ shadowboxref30_sign.jo1 k a0 = some r) ?_ ?_
  · skip
    refine cs_seq ?_
    refine cs_region (l := [_, _, _]) ?_
    refine lv (.int .u8 a0) ?_
    obtain ⟨t4, hc5, H⟩ := bind_some H
    refine ls_callb (fid := 84) (vals := #[.int .u8 a0]) (X := Unit) (fun x => .int .i64 t4) (fun x => stl []) [] [] [] [] 0 rfl rfl (by kernel_rfl) (fun w => by kernel_rfl) trivial trivial (by decide) (fun w hs hb => shadowboxref04_Kind.calls k a0 t4 (lent b w [] []) hb  hc5) ?_
    intro x6
    refine lv (.bool (!decide (t4 = (0 : Int)))) ?_
    refine ls_end ?_
    refine qn_then ?_
    by_cases q7 : t4 = (0 : Int)
    · replace H := ite_t q7 H
      refine cs_know (c := false) (congrArg Bool.not (dec_t q7)) 7 (by kernel_rfl) ?_
      refine cs_false (by kernel_rfl) ?_
      refine cs_skip' ?_
      refine qn_meet (s0) ⟨_, fr_next (rfl) (by kernel_rfl), rfl, H⟩ (sub_nil _)
    replace H := ite_f q7 H
    refine cs_know (c := true) (congrArg Bool.not (dec_f q7)) 7 (by kernel_rfl) ?_
    refine cs_true (by kernel_rfl) ?_
    refine cs_seq ?_
    refine cs_region (l := [_]) ?_
    refine lv (.bool true) ?_
    refine ls_end ?_
    refine qn_then ?_
    refine cs_ret' ?_
    refine qr_then ?_
    obtain rfl := Option.some.inj H
    refine qr_res (rs := [_]) rfl (fun w' hs => ⟨[.bool true], (res_tmp (by kernel_rfl) (.nil)), (), rfl, hs.pick (ts := []) (cs := []) trivial (by decide)⟩)
  rintro f S ⟨fr1, rfl, rfl, H⟩
  replace H : (shadowboxref30_sign.lo2 a0 k (0 : Int)) = some r := H
  refine cs_seq ?_
  refine cs_region (l := [_]) ?_
  refine lv (.string shadowboxref30_sign.cst0) ?_
  refine ls_end ?_
  refine qn_then ?_
  refine cs_seq ?_
  refine cs_seq ?_
  refine cs_region (l := [_]) ?_
  refine lv (.int .i64 (0 : Int)) ?_
  refine ls_end ?_
  refine qn_then ?_
  refine cs_block ?_
  refine cs_sub (s0) (sub_nil _) ?_
  refine cs_loop (fun kk f S => ∃ (fR : Fr) (x4_2 : Int), f = upd (upd (upd fR 0 (.int .u8 a0)) 3 (.string shadowboxref30_sign.cst0)) 4 (.int .i64 x4_2) ∧ S = s0 ∧ shadowboxref30_sign.lo2 a0 kk x4_2 = some r) k ?_ ?_ ?_
  · exact ⟨_, (0 : Int), fr_next (fr_next (fr_next (rfl) (by kernel_rfl)) (by kernel_rfl)) (by kernel_rfl), rfl, H⟩
  · rintro f S ⟨fr2, x4_2, rfl, rfl, H⟩; cases H
  rintro k2 f S ⟨fr2, x4_2, rfl, rfl, H⟩
  replace H : ((if x4_2 < (shadowboxref30_sign.cst0.size : Int) then (if 0 ≤ x4_2 then (if (bt shadowboxref30_sign.cst0 x4_2) = a0 then some true else (shadowboxref30_sign.lo2 a0 k2) (IntKind.wrap .i64 (x4_2 + (1 : Int)))) else none) else some (decide (a0 = (96 : Int))))) = some r := H
  refine cs_seq ?_
  refine cs_seq ?_
  refine cs_region (l := [_, _, _, _]) ?_
  refine lv (.int .i64 x4_2) ?_
  refine lv (.string shadowboxref30_sign.cst0) ?_
  refine lv (.int .i64 (shadowboxref30_sign.cst0.size : Int)) ?_
  refine lv (.bool (decide (x4_2 < (shadowboxref30_sign.cst0.size : Int)))) ?_
  refine ls_end ?_
  refine qn_then ?_
  by_cases q1 : x4_2 < (shadowboxref30_sign.cst0.size : Int)
  · replace H := ite_t q1 H
    refine cs_know (c := true) (dec_t q1) 11 (by kernel_rfl) ?_
    refine cs_true (by kernel_rfl) ?_
    refine cs_skip' ?_
    refine qn_then ?_
    refine cs_seq ?_
    refine cs_block ?_
    refine cs_seq ?_
    refine cs_region (l := [_, _, _, _, _]) ?_
    refine lv (.string shadowboxref30_sign.cst0) ?_
    refine lv (.int .i64 x4_2) ?_
    obtain ⟨q2, H⟩ := ite_need H
    refine ls_sidx (s := shadowboxref30_sign.cst0) (k := .i64) (i := x4_2) rfl rfl (by kernel_rfl) rfl (by kernel_rfl) (by kernel_rfl) (by kernel_rfl) q2 q1 ?_
    refine lv (.int .u8 a0) ?_
    refine lv (.bool (decide ((bt shadowboxref30_sign.cst0 x4_2) = a0))) ?_
    refine ls_end ?_
    refine qn_then ?_
    by_cases q3 : (bt shadowboxref30_sign.cst0 x4_2) = a0
    · replace H := ite_t q3 H
      refine cs_know (c := true) (dec_t q3) 18 (by kernel_rfl) ?_
      refine cs_true (by kernel_rfl) ?_
      refine cs_seq ?_
      refine cs_region (l := [_]) ?_
      refine lv (.bool true) ?_
      refine ls_end ?_
      refine qn_then ?_
      refine cs_ret' ?_
      refine qr_block ?_
      refine qr_then ?_
      refine qr_then ?_
      refine qr_block ?_
      refine qr_then ?_
      obtain rfl := Option.some.inj H
      refine qr_res (rs := [_]) rfl (fun w' hs => ⟨[.bool true], (res_tmp (by kernel_rfl) (.nil)), (), rfl, hs.pick (ts := []) (cs := []) trivial (by decide)⟩)
    replace H := ite_f q3 H
    refine cs_know (c := false) (dec_f q3) 18 (by kernel_rfl) ?_
    refine cs_false (by kernel_rfl) ?_
    refine cs_skip' ?_
    refine qn_block ?_
    refine qn_then ?_
    refine cs_region (l := [_, _, _]) ?_
    refine lv (.int .i64 x4_2) ?_
    refine lv (.int .i64 (IntKind.wrap .i64 (x4_2 + (1 : Int)))) ?_
    refine lv (.int .i64 (IntKind.wrap .i64 (x4_2 + (1 : Int)))) ?_
    refine ls_end ?_
    refine qn_again k2 (s0) (Nat.le_refl _) ⟨_, (IntKind.wrap .i64 (x4_2 + (1 : Int))), fr_next (fr_next (fr_next (rfl) (by kernel_rfl)) (by kernel_rfl)) (by kernel_rfl), rfl, H⟩ (sub_nil _)
  replace H := ite_f q1 H
  refine cs_know (c := false) (dec_f q1) 11 (by kernel_rfl) ?_
  refine cs_false (by kernel_rfl) ?_
  refine cs_exit' ?_
  refine qx_then ?_
  refine qx_then ?_
  refine qx_same ?_
  refine qn_then ?_
  refine cs_seq ?_
  refine cs_region (l := [_, _, _]) ?_
  refine lv (.int .u8 a0) ?_
  refine lv (.bool (decide (a0 = (96 : Int)))) ?_
  refine lv (.bool (decide (a0 = (96 : Int)))) ?_
  refine ls_end ?_
  refine qn_then ?_
  refine cs_ret' ?_
  obtain rfl := Option.some.inj H
  refine qr_res (rs := [_]) rfl (fun w' hs => ⟨[.bool (decide (a0 = (96 : Int)))], (res_tmp (by kernel_rfl) (.nil)), (), rfl, hs.pick (ts := []) (cs := []) trivial (by decide)⟩)

/-! ### shadowbox/shadowboxref30.Token: function 52 -/
def shadowboxref30_Token.lo1 (a0 : ByteArray) : Nat → Int → Option (Bool)
  | 0, _ => none
  | k1 + 1, x3_1 => (if x3_1 < (a0.size : Int) then (if 0 ≤ x3_1 then (shadowboxref30_sign.f k1 (bt a0 x3_1)).bind fun t3 => (if t3 = true then (shadowboxref30_Token.lo1 a0 k1) (IntKind.wrap .i64 (x3_1 + (1 : Int))) else some false) else none) else some (decide ((a0.size : Int) > (0 : Int))))
def shadowboxref30_Token.f (k : Nat) (a0 : ByteArray) : Option (Bool) :=
  shadowboxref30_Token.lo1 a0 k (0 : Int)
set_option maxRecDepth 100000 in
set_option maxHeartbeats 4000000 in
theorem shadowboxref30_Token.calls (k : Nat) (a0 : ByteArray) (r : Bool) (b : Bs) (hs0 : St b (stl []) b.w) (H : shadowboxref30_Token.f k a0 = some r) :
    Calls Try.prog 52 #[.string a0] b.w fun e w' => ∃ x : Unit, e = .returned (.bool r) ∧ St b (stl []) w' := by
  unfold shadowboxref30_Token.f at H
  refine enterb (n := 18) Try.func52 rfl (by kernel_rfl) (by kernel_rfl) hs0 ?_
  refine cs_sub (s0) (sub_nil _) ?_
  refine cs_seq ?_
  refine cs_region (l := [_]) ?_
  refine lv (.bool false) ?_
  refine ls_end ?_
  refine qn_then ?_
  refine cs_seq ?_
  refine cs_seq ?_
  refine cs_region (l := [_]) ?_
  refine lv (.int .i64 (0 : Int)) ?_
  refine ls_end ?_
  refine qn_then ?_
  refine cs_block ?_
  refine cs_sub (s0) (sub_nil _) ?_
  refine cs_loop (fun kk f S => ∃ (fR : Fr) (x3_1 : Int), f = upd (upd fR 0 (.string a0)) 3 (.int .i64 x3_1) ∧ S = s0 ∧ shadowboxref30_Token.lo1 a0 kk x3_1 = some r) k ?_ ?_ ?_
  · exact ⟨_, (0 : Int), fr_next (fr_next (rfl) (by kernel_rfl)) (by kernel_rfl), rfl, H⟩
  · rintro f S ⟨fr1, x3_1, rfl, rfl, H⟩; cases H
  rintro k1 f S ⟨fr1, x3_1, rfl, rfl, H⟩
  replace H : ((if x3_1 < (a0.size : Int) then (if 0 ≤ x3_1 then (shadowboxref30_sign.f k1 (bt a0 x3_1)).bind fun t3 => (if t3 = true then (shadowboxref30_Token.lo1 a0 k1) (IntKind.wrap .i64 (x3_1 + (1 : Int))) else some false) else none) else some (decide ((a0.size : Int) > (0 : Int))))) = some r := H
  refine cs_seq ?_
  refine cs_seq ?_
  refine cs_region (l := [_, _, _, _]) ?_
  refine lv (.int .i64 x3_1) ?_
  refine lv (.string a0) ?_
  refine lv (.int .i64 (a0.size : Int)) ?_
  refine lv (.bool (decide (x3_1 < (a0.size : Int)))) ?_
  refine ls_end ?_
  refine qn_then ?_
  by_cases q1 : x3_1 < (a0.size : Int)
  · replace H := ite_t q1 H
    refine cs_know (c := true) (dec_t q1) 7 (by kernel_rfl) ?_
    refine cs_true (by kernel_rfl) ?_
    refine cs_skip' ?_
    refine qn_then ?_
    refine cs_seq ?_
    refine cs_block ?_
    refine cs_seq ?_
    refine cs_region (l := [_, _, _, _, _]) ?_
    refine lv (.string a0) ?_
    refine lv (.int .i64 x3_1) ?_
    obtain ⟨q2, H⟩ := ite_need H
    refine ls_sidx (s := a0) (k := .i64) (i := x3_1) rfl rfl (by kernel_rfl) rfl (by kernel_rfl) (by kernel_rfl) (by kernel_rfl) q2 q1 ?_
    obtain ⟨t3, hc4, H⟩ := bind_some H
    refine ls_callb (fid := 83) (vals := #[.int .u8 (bt a0 x3_1)]) (X := Unit) (fun x => .bool t3) (fun x => stl []) [] [] [] [] 0 rfl rfl (by kernel_rfl) (fun w => by kernel_rfl) trivial trivial (by decide) (fun w hs hb => shadowboxref30_sign.calls k1 (bt a0 x3_1) t3 (lent b w [] []) hb  hc4) ?_
    intro x5
    refine lv (.bool (!t3)) ?_
    refine ls_end ?_
    refine qn_then ?_
    by_cases q6 : t3 = true
    · replace H := ite_t q6 H
      refine cs_know (c := false) (congrArg Bool.not (q6)) 14 (by kernel_rfl) ?_
      refine cs_false (by kernel_rfl) ?_
      refine cs_skip' ?_
      refine qn_block ?_
      refine qn_then ?_
      refine cs_region (l := [_, _, _]) ?_
      refine lv (.int .i64 x3_1) ?_
      refine lv (.int .i64 (IntKind.wrap .i64 (x3_1 + (1 : Int)))) ?_
      refine lv (.int .i64 (IntKind.wrap .i64 (x3_1 + (1 : Int)))) ?_
      refine ls_end ?_
      refine qn_again k1 (s0) (Nat.le_refl _) ⟨_, (IntKind.wrap .i64 (x3_1 + (1 : Int))), fr_next (fr_next (rfl) (by kernel_rfl)) (by kernel_rfl), rfl, H⟩ (sub_nil _)
    replace H := ite_f q6 H
    refine cs_know (c := true) (congrArg Bool.not (Bool.eq_false_iff.mpr q6)) 14 (by kernel_rfl) ?_
    refine cs_true (by kernel_rfl) ?_
    refine cs_seq ?_
    refine cs_region (l := [_]) ?_
    refine lv (.bool false) ?_
    refine ls_end ?_
    refine qn_then ?_
    refine cs_ret' ?_
    refine qr_block ?_
    refine qr_then ?_
    refine qr_then ?_
    refine qr_block ?_
    refine qr_then ?_
    obtain rfl := Option.some.inj H
    refine qr_res (rs := [_]) rfl (fun w' hs => ⟨[.bool false], (res_tmp (by kernel_rfl) (.nil)), (), rfl, hs.pick (ts := []) (cs := []) trivial (by decide)⟩)
  replace H := ite_f q1 H
  refine cs_know (c := false) (dec_f q1) 7 (by kernel_rfl) ?_
  refine cs_false (by kernel_rfl) ?_
  refine cs_exit' ?_
  refine qx_then ?_
  refine qx_then ?_
  refine qx_same ?_
  refine qn_then ?_
  refine cs_seq ?_
  refine cs_region (l := [_, _, _, _]) ?_
  refine lv (.string a0) ?_
  refine lv (.int .i64 (a0.size : Int)) ?_
  refine lv (.bool (decide ((a0.size : Int) > (0 : Int)))) ?_
  refine lv (.bool (decide ((a0.size : Int) > (0 : Int)))) ?_
  refine ls_end ?_
  refine qn_then ?_
  refine cs_ret' ?_
  obtain rfl := Option.some.inj H
  refine qr_res (rs := [_]) rfl (fun w' hs => ⟨[.bool (decide ((a0.size : Int) > (0 : Int)))], (res_tmp (by kernel_rfl) (.nil)), (), rfl, hs.pick (ts := []) (cs := []) trivial (by decide)⟩)

/-! ### shadowbox/shadowboxref04.Lower: function 53 -/
def shadowboxref04_Lower.lo1 (a0 : ByteArray) : Nat → (List Int) → Int → Option (ByteArray)
  | 0, _, _ => none
  | k1 + 1, l3_1, x4_1 => (if x4_1 < (a0.size : Int) then (if 0 ≤ x4_1 then (shadowboxref04_Kind.f k1 (bt a0 x4_1)).bind fun t3 => (if t3 = (4 : Int) then lt (IntKind.wrap .u8 ((bt a0 x4_1) + (32 : Int))) fun y7 => (if (l3_1.length + ([y7]).length) * 1 ≤ 140737488355328 then (shadowboxref04_Lower.lo1 a0 k1) (l3_1 ++ [y7]) (IntKind.wrap .i64 (x4_1 + (1 : Int))) else none) else (if (l3_1.length + ([bt a0 x4_1]).length) * 1 ≤ 140737488355328 then (shadowboxref04_Lower.lo1 a0 k1) (l3_1 ++ [bt a0 x4_1]) (IntKind.wrap .i64 (x4_1 + (1 : Int))) else none)) else none) else some (strOfNums l3_1))
def shadowboxref04_Lower.f (k : Nat) (a0 : ByteArray) : Option (ByteArray) :=
  shadowboxref04_Lower.lo1 a0 k ([] : List Int) (0 : Int)
set_option maxRecDepth 100000 in
set_option maxHeartbeats 4000000 in
theorem shadowboxref04_Lower.calls (k : Nat) (a0 : ByteArray) (r : ByteArray) (b : Bs) (hs0 : St b (stl []) b.w) (H : shadowboxref04_Lower.f k a0 = some r) :
    Calls Try.prog 53 #[.string a0] b.w fun e w' => ∃ x : Unit, e = .returned (.string r) ∧ St b (stl []) w' := by
  unfold shadowboxref04_Lower.f at H
  refine enterb (n := 26) Try.func53 rfl (by kernel_rfl) (by kernel_rfl) hs0 ?_
  refine cs_sub (s0) (sub_nil _) ?_
  refine cs_seq ?_
  refine cs_region (l := [_]) ?_
  refine lv (.string (⟨#[]⟩ : ByteArray)) ?_
  refine ls_end ?_
  refine qn_then ?_
  refine cs_seq ?_
  refine cs_region (l := [_]) ?_
  refine lv (.slice none 0 0) ?_
  refine ls_end ?_
  refine qn_then ?_
  refine cs_seq ?_
  refine cs_seq ?_
  refine cs_region (l := [_]) ?_
  refine lv (.int .i64 (0 : Int)) ?_
  refine ls_end ?_
  refine qn_then ?_
  refine cs_block ?_
  refine cs_nilrow 0 (Ec.int 5 .u8) ?_
  refine cs_sub (sput s0 0 (some (Ck.sl (Ec.int 5 .u8) none 0 ([] : List Int)))) (sub_put (by exact rfl) (sub_nil _)) ?_
  refine cs_loop (fun kk f S => ∃ (fR : Fr) (A3_1 : Option Addr) (c3_1 : Nat) (l3_1 : List Int) (x4_1 : Int), f = upd (upd (upd fR 0 (.string a0)) 3 (.slice A3_1 l3_1.length c3_1)) 4 (.int .i64 x4_1) ∧ S = sput s0 0 (some (Ck.sl (Ec.int 5 .u8) A3_1 c3_1 l3_1)) ∧ shadowboxref04_Lower.lo1 a0 kk l3_1 x4_1 = some r) k ?_ ?_ ?_
  · exact ⟨_, none, 0, ([] : List Int), (0 : Int), fr_next (fr_next (fr_next (rfl) (by kernel_rfl)) (by kernel_rfl)) (by kernel_rfl), rfl, H⟩
  · rintro f S ⟨fr1, A3_1, c3_1, l3_1, x4_1, rfl, rfl, H⟩; cases H
  rintro k1 f S ⟨fr1, A3_1, c3_1, l3_1, x4_1, rfl, rfl, H⟩
  replace H : ((if x4_1 < (a0.size : Int) then (if 0 ≤ x4_1 then (shadowboxref04_Kind.f k1 (bt a0 x4_1)).bind fun t3 => (if t3 = (4 : Int) then lt (IntKind.wrap .u8 ((bt a0 x4_1) + (32 : Int))) fun y7 => (if (l3_1.length + ([y7]).length) * 1 ≤ 140737488355328 then (shadowboxref04_Lower.lo1 a0 k1) (l3_1 ++ [y7]) (IntKind.wrap .i64 (x4_1 + (1 : Int))) else none) else (if (l3_1.length + ([bt a0 x4_1]).length) * 1 ≤ 140737488355328 then (shadowboxref04_Lower.lo1 a0 k1) (l3_1 ++ [bt a0 x4_1]) (IntKind.wrap .i64 (x4_1 + (1 : Int))) else none)) else none) else some (strOfNums l3_1))) = some r := H
  refine cs_seq ?_
  refine cs_seq ?_
  refine cs_region (l := [_, _, _, _]) ?_
  refine lv (.int .i64 x4_1) ?_
  refine lv (.string a0) ?_
  refine lv (.int .i64 (a0.size : Int)) ?_
  refine lv (.bool (decide (x4_1 < (a0.size : Int)))) ?_
  refine ls_end ?_
  refine qn_then ?_
  by_cases q1 : x4_1 < (a0.size : Int)
  · replace H := ite_t q1 H
    refine cs_know (c := true) (dec_t q1) 9 (by kernel_rfl) ?_
    refine cs_true (by kernel_rfl) ?_
    refine cs_skip' ?_
    refine qn_then ?_
    refine cs_seq ?_
    refine cs_block ?_
    refine cs_seq ?_
    refine cs_region (l := [_, _, _, _]) ?_
    refine lv (.string a0) ?_
    refine lv (.int .i64 x4_1) ?_
    obtain ⟨q2, H⟩ := ite_need H
    refine ls_sidx (s := a0) (k := .i64) (i := x4_1) rfl rfl (by kernel_rfl) rfl (by kernel_rfl) (by kernel_rfl) (by kernel_rfl) q2 q1 ?_
    refine lv (.int .u8 (bt a0 x4_1)) ?_
    refine ls_end ?_
    refine qn_then ?_
    refine cs_seq ?_
    refine cs_seq ?_
    refine cs_region (l := [_, _, _]) ?_
    refine lv (.int .u8 (bt a0 x4_1)) ?_
    obtain ⟨t3, hc4, H⟩ := bind_some H
    refine ls_callb (fid := 84) (vals := #[.int .u8 (bt a0 x4_1)]) (X := Unit) (fun x => .int .i64 t3) (fun x => stl []) [] [] [] [] 1 rfl rfl (by kernel_rfl) (fun w => by kernel_rfl) trivial trivial (by decide) (fun w hs hb => shadowboxref04_Kind.calls k1 (bt a0 x4_1) t3 (lent b w [] []) hb  hc4) ?_
    intro x5
    refine lv (.bool (decide (t3 = (4 : Int)))) ?_
    refine ls_end ?_
    refine qn_then ?_
    by_cases q6 : t3 = (4 : Int)
    · replace H := ite_t q6 H
      refine cs_know (c := true) (dec_t q6) 17 (by kernel_rfl) ?_
      refine cs_true (by kernel_rfl) ?_
      refine cs_region (l := [_, _, _]) ?_
      refine lv (.int .u8 (bt a0 x4_1)) ?_
      obtain ⟨y7, hy8, H⟩ := lt_some H
      refine lv (.int .u8 (IntKind.wrap .u8 ((bt a0 x4_1) + (32 : Int)))) ?_
      refine ls_ren 19 (v := .int .u8 (IntKind.wrap .u8 ((bt a0 x4_1) + (32 : Int)))) (v' := .int .u8 y7) (by kernel_rfl) (by rw [hy8]) ?_
      refine lv (.int .u8 y7) ?_
      refine ls_end ?_
      refine qn_then ?_
      refine cs_region (l := [_, _, _, _, _]) ?_
      refine lv (.slice A3_1 l3_1.length c3_1) ?_
      refine lv (.int .u8 y7) ?_
      refine ls_lit (Ec.int 5 .u8) 1 rfl rfl (by kernel_rfl) ([y7]) (by exact of_decide_eq_true (by kernel_rfl)) (fun w => by kernel_rfl) ?_
      intro g9
      obtain ⟨q10, H⟩ := ite_need H
      refine ls_app (Ec.int 5 .u8) (A := A3_1) (c := c3_1) (B := (some ⟨g9, 0, none⟩)) (cb := [y7].length) (z := (Value.int .u8 0)) (l := l3_1) (m := [y7]) (bytes := 1) 0 rfl rfl (by kernel_rfl) rfl (by kernel_rfl) (by exact rfl) (by kernel_rfl) (fun w hs => (hs.rd (k := 1) (by exact rfl))) (by kernel_rfl) (by kernel_rfl) rfl (by decide) q10 ?_
      intro xA11 xc12
      refine lv (.slice xA11 (l3_1 ++ [y7]).length xc12) ?_
      refine ls_end ?_
      refine qn_block ?_
      refine qn_then ?_
      refine cs_region (l := [_, _, _]) ?_
      refine lv (.int .i64 x4_1) ?_
      refine lv (.int .i64 (IntKind.wrap .i64 (x4_1 + (1 : Int)))) ?_
      refine lv (.int .i64 (IntKind.wrap .i64 (x4_1 + (1 : Int)))) ?_
      refine ls_end ?_
      refine qn_again k1 (sput s0 0 (some (Ck.sl (Ec.int 5 .u8) xA11 xc12 (l3_1 ++ [y7])))) (Nat.le_refl _) ⟨_, xA11, xc12, (l3_1 ++ [y7]), (IntKind.wrap .i64 (x4_1 + (1 : Int))), fr_next (fr_next (fr_next (rfl) (by kernel_rfl)) (by kernel_rfl)) (by kernel_rfl), rfl, H⟩ (sub_put (by exact rfl) (sub_nil _))
    replace H := ite_f q6 H
    refine cs_know (c := false) (dec_f q6) 17 (by kernel_rfl) ?_
    refine cs_false (by kernel_rfl) ?_
    refine cs_skip' ?_
    refine qn_then ?_
    refine cs_region (l := [_, _, _, _, _]) ?_
    refine lv (.slice A3_1 l3_1.length c3_1) ?_
    refine lv (.int .u8 (bt a0 x4_1)) ?_
    refine ls_lit (Ec.int 5 .u8) 1 rfl rfl (by kernel_rfl) ([bt a0 x4_1]) (by exact of_decide_eq_true (by kernel_rfl)) (fun w => by kernel_rfl) ?_
    intro g13
    obtain ⟨q14, H⟩ := ite_need H
    refine ls_app (Ec.int 5 .u8) (A := A3_1) (c := c3_1) (B := (some ⟨g13, 0, none⟩)) (cb := [bt a0 x4_1].length) (z := (Value.int .u8 0)) (l := l3_1) (m := [bt a0 x4_1]) (bytes := 1) 0 rfl rfl (by kernel_rfl) rfl (by kernel_rfl) (by exact rfl) (by kernel_rfl) (fun w hs => (hs.rd (k := 1) (by exact rfl))) (by kernel_rfl) (by kernel_rfl) rfl (by decide) q14 ?_
    intro xA15 xc16
    refine lv (.slice xA15 (l3_1 ++ [bt a0 x4_1]).length xc16) ?_
    refine ls_end ?_
    refine qn_block ?_
    refine qn_then ?_
    refine cs_region (l := [_, _, _]) ?_
    refine lv (.int .i64 x4_1) ?_
    refine lv (.int .i64 (IntKind.wrap .i64 (x4_1 + (1 : Int)))) ?_
    refine lv (.int .i64 (IntKind.wrap .i64 (x4_1 + (1 : Int)))) ?_
    refine ls_end ?_
    refine qn_again k1 (sput s0 0 (some (Ck.sl (Ec.int 5 .u8) xA15 xc16 (l3_1 ++ [bt a0 x4_1])))) (Nat.le_refl _) ⟨_, xA15, xc16, (l3_1 ++ [bt a0 x4_1]), (IntKind.wrap .i64 (x4_1 + (1 : Int))), fr_next (fr_next (fr_next (rfl) (by kernel_rfl)) (by kernel_rfl)) (by kernel_rfl), rfl, H⟩ (sub_put (by exact rfl) (sub_nil _))
  replace H := ite_f q1 H
  refine cs_know (c := false) (dec_f q1) 9 (by kernel_rfl) ?_
  refine cs_false (by kernel_rfl) ?_
  refine cs_exit' ?_
  refine qx_then ?_
  refine qx_then ?_
  refine qx_same ?_
  refine qn_then ?_
  refine cs_seq ?_
  refine cs_region (l := [_, _, _]) ?_
  refine lv (.slice A3_1 l3_1.length c3_1) ?_
  refine ls_str (A := A3_1) (c := c3_1) (e := 5) (l := l3_1) rfl rfl (by kernel_rfl) rfl (by kernel_rfl) (by kernel_rfl) (by kernel_rfl) (by kernel_rfl) (fun w hs => (hs.rd (k := 0) (by exact rfl))) ?_
  refine lv (.string (strOfNums l3_1)) ?_
  refine ls_end ?_
  refine qn_then ?_
  refine cs_ret' ?_
  obtain rfl := Option.some.inj H
  refine qr_res (rs := [_]) rfl (fun w' hs => ⟨[.string (strOfNums l3_1)], (res_tmp (by kernel_rfl) (.nil)), (), rfl, hs.pick (ts := []) (cs := []) trivial (by decide)⟩)

/-! ### shadowbox/shadowboxref36.Right: function 26 -/
def shadowboxref36_Right.jo3 (k : Nat) (a0 : (Int × Int × Int × Int × ByteArray × ByteArray × (List (ByteArray × ByteArray)))) : Option (Bool) := (if (Int.tmod a0.2.1 (2 : Int)) = (0 : Int) then (if a0.2.2.1 = (0 : Int) then (if (a0.2.2.2.2.1.toList == (⟨#[]⟩ : ByteArray).toList) = true then (if (a0.2.2.2.2.2.1.toList == (⟨#[]⟩ : ByteArray).toList) = true then (if (a0.2.2.2.2.2.2.length : Int) > (0 : Int) then some false else (shadowboxref36_bytes.f k (a0.1, a0.2.1, a0.2.2.1, a0.2.2.2.1, a0.2.2.2.2.1, a0.2.2.2.2.2.1, a0.2.2.2.2.2.2)).bind fun t7 => some (decide ((t7.length : Int) ≤ (400 : Int)))) else some false) else some false) else some false) else (shadowboxref36_bytes.f k (a0.1, a0.2.1, a0.2.2.1, a0.2.2.2.1, a0.2.2.2.2.1, a0.2.2.2.2.2.1, a0.2.2.2.2.2.2)).bind fun t10 => some (decide ((t10.length : Int) ≤ (400 : Int))))
def shadowboxref36_Right.jo5 (a0 : (Int × Int × Int × Int × ByteArray × ByteArray × (List (ByteArray × ByteArray)))) (x3_4 : Int) (k4 : Nat) (lo4 : Int → Option (Bool)) : Option (Bool) := (if 0 ≤ x3_4 then (if x3_4 < (a0.2.2.2.2.2.2.length : Int) then lt (((a0.2.2.2.2.2.2).getD (x3_4).toNat (ByteArray.empty, ByteArray.empty)).1) fun y17 => (if (y17.size : Int) > (30 : Int) then some false else (shadowboxref30_Token.f k4 y17).bind fun t20 => (if t20 = true then (shadowboxref04_Lower.f k4 y17).bind fun t24 => (if (t24.toList == y17.toList) = true then lt (((a0.2.2.2.2.2.2).getD (x3_4).toNat (ByteArray.empty, ByteArray.empty)).2) fun y30 => (shadowboxref36_short.f k4 y30 (60 : Int)).bind fun t32 => (if t32 = true then (if x3_4 > (0 : Int) then (if 0 ≤ IntKind.wrap .i64 (x3_4 - (1 : Int)) then (if IntKind.wrap .i64 (x3_4 - (1 : Int)) < (a0.2.2.2.2.2.2.length : Int) then lt (((a0.2.2.2.2.2.2).getD (IntKind.wrap .i64 (x3_4 - (1 : Int))).toNat (ByteArray.empty, ByteArray.empty)).1) fun y41 => (if (Op.bytesLess y41.toList y17.toList) = true then lo4 (IntKind.wrap .i64 (x3_4 + (1 : Int))) else some false) else none) else none) else lo4 (IntKind.wrap .i64 (x3_4 + (1 : Int)))) else some false) else some false) else some false)) else none) else none)
def shadowboxref36_Right.lo4 (a0 : (Int × Int × Int × Int × ByteArray × ByteArray × (List (ByteArray × ByteArray)))) (jo3 : Option (Bool)) : Nat → Int → Option (Bool)
  | 0, _ => none
  | k4 + 1, x3_4 => (if x3_4 < (a0.2.2.2.2.2.2.length : Int) then (shadowboxref36_Right.jo5 a0 x3_4 k4 (shadowboxref36_Right.lo4 a0 jo3 k4)) else jo3)
def shadowboxref36_Right.jo2 (k : Nat) (a0 : (Int × Int × Int × Int × ByteArray × ByteArray × (List (ByteArray × ByteArray)))) : Option (Bool) := shadowboxref36_Right.lo4 a0 (shadowboxref36_Right.jo3 k a0) k (0 : Int)
def shadowboxref36_Right.jo1 (k : Nat) (a0 : (Int × Int × Int × Int × ByteArray × ByteArray × (List (ByteArray × ByteArray)))) : Option (Bool) := (shadowboxref36_short.f k a0.2.2.2.2.1 (60 : Int)).bind fun t45 => (if t45 = true then (shadowboxref36_short.f k a0.2.2.2.2.2.1 (60 : Int)).bind fun t49 => (if t49 = true then (if (a0.2.2.2.2.2.2.length : Int) > (8 : Int) then some false else (shadowboxref36_Right.jo2 k a0)) else some false) else some false)
def shadowboxref36_Right.f (k : Nat) (a0 : (Int × Int × Int × Int × ByteArray × ByteArray × (List (ByteArray × ByteArray)))) : Option (Bool) :=
  (if a0.1 < (1 : Int) then some false else (if a0.1 > (1152921504606846976 : Int) then some false else (if a0.2.1 < (1 : Int) then some false else (if a0.2.1 > (4 : Int) then some false else (if a0.2.2.1 < (0 : Int) then some false else (if a0.2.2.1 > (65536 : Int) then some false else (if a0.2.2.2.1 < (0 : Int) then some false else (if a0.2.2.2.1 > (1099511627776 : Int) then some false else (shadowboxref36_Right.jo1 k a0)))))))))
set_option maxRecDepth 100000 in
set_option maxHeartbeats 4000000 in
theorem shadowboxref36_Right.calls (k : Nat) (A0_6 : Option Addr) (c0_6 : Nat) (a0 : (Int × Int × Int × Int × ByteArray × ByteArray × (List (ByteArray × ByteArray)))) (r : Bool) (b : Bs) (hs0 : St b (stl []) b.w) (R0_6 : Ro b A0_6 (em T67 a0.2.2.2.2.2.2)) (C0_6 : a0.2.2.2.2.2.2.length ≤ c0_6) (H : shadowboxref36_Right.f k a0 = some r) :
    Calls Try.prog 26 #[.agg ⟨([Value.int .i64 a0.1] ++ ([Value.int .i64 a0.2.1] ++ ([Value.int .i64 a0.2.2.1] ++ ([Value.int .i64 a0.2.2.2.1] ++ ([Value.string a0.2.2.2.2.1] ++ ([Value.string a0.2.2.2.2.2.1] ++ [Value.slice A0_6 a0.2.2.2.2.2.2.length c0_6]))))))⟩] b.w fun e w' => ∃ x : Unit, e = .returned (.bool r) ∧ St b (stl []) w' := by
  unfold shadowboxref36_Right.f at H
  refine enterb (n := 140) Try.func26 rfl (by kernel_rfl) (by kernel_rfl) hs0 ?_
  refine cs_sub (s0) (sub_nil _) ?_
  refine cs_seq ?_
  refine cs_region (l := [_, _]) ?_
  refine ls_new rfl rfl (by kernel_rfl) 0 (fun g => .pointer (some ⟨g, 0, none⟩)) (.cells ⟨([Value.int .i64 a0.1] ++ ([Value.int .i64 a0.2.1] ++ ([Value.int .i64 a0.2.2.1] ++ ([Value.int .i64 a0.2.2.2.1] ++ ([Value.string a0.2.2.2.2.1] ++ ([Value.string a0.2.2.2.2.2.1] ++ [Value.slice A0_6 a0.2.2.2.2.2.2.length c0_6]))))))⟩ 56) (fun w => by kernel_rfl) ?_
  intro g1
  refine lv (.bool false) ?_
  refine ls_end ?_
  refine qn_then ?_
  refine cs_cut (fun f S => ∃ (fR : Fr), f = upd fR 1 (.pointer (some ⟨g1, 0, none⟩)) ∧ S = sput s0 0 (some (Ck.var 56 g1 (([Value.int .i64 a0.1] ++ ([Value.int .i64 a0.2.1] ++ ([Value.int .i64 a0.2.2.1] ++ ([Value.int .i64 a0.2.2.2.1] ++ ([Value.string a0.2.2.2.2.1] ++ ([Value.string a0.2.2.2.2.2.1] ++ [Value.slice A0_6 a0.2.2.2.2.2.2.length c0_6]))))))))) ∧ shadowboxref36_Right.jo1 k a0 = some r) ?_ ?_
  · skip
    refine cs_seq ?_
    refine cs_region (l := [_, _, _, _, _, _, _, _, _, _, _, _, _, _, _, _, _, _, _, _, _, _, _, _, _, _, _, _, _, _, _, _, _, _, _, _, _, _]) ?_
    refine lv (.pointer (some ⟨g1, (0 + 0), none⟩)) ?_
    refine ls_load (a0 := ⟨g1, (0 + 0), none⟩) (v := .int .i64 a0.1) (de := (TypeDesc.int .i64)) rfl rfl (by kernel_rfl) rfl (by kernel_rfl) (by kernel_rfl) (by kernel_rfl) (fun w hs => (hs.var (k := 0) (by exact rfl) (Sub4.trans (Sub4.all _) (Sub4.head _ _)))) ?_
    refine lv (.bool (decide (a0.1 < (1 : Int)))) ?_
    refine lv (.bool (decide (a0.1 < (1 : Int)))) ?_
    by_cases q54 : a0.1 < (1 : Int)
    · replace H := ite_t q54 H
      refine ls_know (c := true) (dec_t q54) 8 (by kernel_rfl) ?_
      refine lofx 3 8 false true ?_
      refine lofx 3 8 false true ?_
      refine lofx 3 8 false true ?_
      refine lv (.bool true) ?_
      refine lv (.bool true) ?_
      refine lofx 8 13 false true ?_
      refine lofx 8 13 false true ?_
      refine lofx 8 13 false true ?_
      refine lv (.bool true) ?_
      refine lv (.bool true) ?_
      refine lofx 13 18 false true ?_
      refine lofx 13 18 false true ?_
      refine lofx 13 18 false true ?_
      refine lv (.bool true) ?_
      refine lv (.bool true) ?_
      refine lofx 18 23 false true ?_
      refine lofx 18 23 false true ?_
      refine lofx 18 23 false true ?_
      refine lv (.bool true) ?_
      refine lv (.bool true) ?_
      refine lofx 23 28 false true ?_
      refine lofx 23 28 false true ?_
      refine lofx 23 28 false true ?_
      refine lv (.bool true) ?_
      refine lv (.bool true) ?_
      refine lofx 28 33 false true ?_
      refine lofx 28 33 false true ?_
      refine lofx 28 33 false true ?_
      refine lv (.bool true) ?_
      refine lv (.bool true) ?_
      refine lofx 33 38 false true ?_
      refine lofx 33 38 false true ?_
      refine lofx 33 38 false true ?_
      refine lv (.bool true) ?_
      refine ls_end ?_
      refine qn_then ?_
      refine cs_true (by kernel_rfl) ?_
      refine cs_seq ?_
      refine cs_region (l := [_]) ?_
      refine lv (.bool false) ?_
      refine ls_end ?_
      refine qn_then ?_
      refine cs_ret' ?_
      refine qr_then ?_
      obtain rfl := Option.some.inj H
      refine qr_res (rs := [_]) rfl (fun w' hs => ⟨[.bool false], (res_tmp (by kernel_rfl) (.nil)), (), rfl, hs.pick (ts := []) (cs := []) trivial (by decide)⟩)
    replace H := ite_f q54 H
    refine ls_know (c := false) (dec_f q54) 8 (by kernel_rfl) ?_
    refine ls_on (j := 3) (t := 8) (b := false) rfl rfl (by kernel_rfl) (by kernel_rfl) ?_
    refine lv (.pointer (some ⟨g1, (0 + 0), none⟩)) ?_
    refine ls_on (j := 3) (t := 8) (b := false) rfl rfl (by kernel_rfl) (by kernel_rfl) ?_
    refine ls_load (a0 := ⟨g1, (0 + 0), none⟩) (v := .int .i64 a0.1) (de := (TypeDesc.int .i64)) rfl rfl (by kernel_rfl) rfl (by kernel_rfl) (by kernel_rfl) (by kernel_rfl) (fun w hs => (hs.var (k := 0) (by exact rfl) (Sub4.trans (Sub4.all _) (Sub4.head _ _)))) ?_
    refine ls_on (j := 3) (t := 8) (b := false) rfl rfl (by kernel_rfl) (by kernel_rfl) ?_
    refine lv (.bool (decide (a0.1 > (1152921504606846976 : Int)))) ?_
    refine lv (.bool (decide (a0.1 > (1152921504606846976 : Int)))) ?_
    refine lv (.bool (decide (a0.1 > (1152921504606846976 : Int)))) ?_
    by_cases q55 : a0.1 > (1152921504606846976 : Int)
    · replace H := ite_t q55 H
      refine ls_know (c := true) (dec_t q55) 13 (by kernel_rfl) ?_
      refine lofx 8 13 false true ?_
      refine lofx 8 13 false true ?_
      refine lofx 8 13 false true ?_
      refine lv (.bool true) ?_
      refine lv (.bool true) ?_
      refine lofx 13 18 false true ?_
      refine lofx 13 18 false true ?_
      refine lofx 13 18 false true ?_
      refine lv (.bool true) ?_
      refine lv (.bool true) ?_
      refine lofx 18 23 false true ?_
      refine lofx 18 23 false true ?_
      refine lofx 18 23 false true ?_
      refine lv (.bool true) ?_
      refine lv (.bool true) ?_
      refine lofx 23 28 false true ?_
      refine lofx 23 28 false true ?_
      refine lofx 23 28 false true ?_
      refine lv (.bool true) ?_
      refine lv (.bool true) ?_
      refine lofx 28 33 false true ?_
      refine lofx 28 33 false true ?_
      refine lofx 28 33 false true ?_
      refine lv (.bool true) ?_
      refine lv (.bool true) ?_
      refine lofx 33 38 false true ?_
      refine lofx 33 38 false true ?_
      refine lofx 33 38 false true ?_
      refine lv (.bool true) ?_
      refine ls_end ?_
      refine qn_then ?_
      refine cs_true (by kernel_rfl) ?_
      refine cs_seq ?_
      refine cs_region (l := [_]) ?_
      refine lv (.bool false) ?_
      refine ls_end ?_
      refine qn_then ?_
      refine cs_ret' ?_
      refine qr_then ?_
      obtain rfl := Option.some.inj H
      refine qr_res (rs := [_]) rfl (fun w' hs => ⟨[.bool false], (res_tmp (by kernel_rfl) (.nil)), (), rfl, hs.pick (ts := []) (cs := []) trivial (by decide)⟩)
    replace H := ite_f q55 H
    refine ls_know (c := false) (dec_f q55) 13 (by kernel_rfl) ?_
    refine ls_on (j := 8) (t := 13) (b := false) rfl rfl (by kernel_rfl) (by kernel_rfl) ?_
    refine lv (.pointer (some ⟨g1, (0 + 1), none⟩)) ?_
    refine ls_on (j := 8) (t := 13) (b := false) rfl rfl (by kernel_rfl) (by kernel_rfl) ?_
    refine ls_load (a0 := ⟨g1, (0 + 1), none⟩) (v := .int .i64 a0.2.1) (de := (TypeDesc.int .i64)) rfl rfl (by kernel_rfl) rfl (by kernel_rfl) (by kernel_rfl) (by kernel_rfl) (fun w hs => (hs.var (k := 0) (by exact rfl) (Sub4.trans (Sub4.all _) (Sub4.skip (n := 1) (len1 _) (Sub4.head _ _))))) ?_
    refine ls_on (j := 8) (t := 13) (b := false) rfl rfl (by kernel_rfl) (by kernel_rfl) ?_
    refine lv (.bool (decide (a0.2.1 < (1 : Int)))) ?_
    refine lv (.bool (decide (a0.2.1 < (1 : Int)))) ?_
    refine lv (.bool (decide (a0.2.1 < (1 : Int)))) ?_
    by_cases q56 : a0.2.1 < (1 : Int)
    · replace H := ite_t q56 H
      refine ls_know (c := true) (dec_t q56) 18 (by kernel_rfl) ?_
      refine lofx 13 18 false true ?_
      refine lofx 13 18 false true ?_
      refine lofx 13 18 false true ?_
      refine lv (.bool true) ?_
      refine lv (.bool true) ?_
      refine lofx 18 23 false true ?_
      refine lofx 18 23 false true ?_
      refine lofx 18 23 false true ?_
      refine lv (.bool true) ?_
      refine lv (.bool true) ?_
      refine lofx 23 28 false true ?_
      refine lofx 23 28 false true ?_
      refine lofx 23 28 false true ?_
      refine lv (.bool true) ?_
      refine lv (.bool true) ?_
      refine lofx 28 33 false true ?_
      refine lofx 28 33 false true ?_
      refine lofx 28 33 false true ?_
      refine lv (.bool true) ?_
      refine lv (.bool true) ?_
      refine lofx 33 38 false true ?_
      refine lofx 33 38 false true ?_
      refine lofx 33 38 false true ?_
      refine lv (.bool true) ?_
      refine ls_end ?_
      refine qn_then ?_
      refine cs_true (by kernel_rfl) ?_
      refine cs_seq ?_
      refine cs_region (l := [_]) ?_
      refine lv (.bool false) ?_
      refine ls_end ?_
      refine qn_then ?_
      refine cs_ret' ?_
      refine qr_then ?_
      obtain rfl := Option.some.inj H
      refine qr_res (rs := [_]) rfl (fun w' hs => ⟨[.bool false], (res_tmp (by kernel_rfl) (.nil)), (), rfl, hs.pick (ts := []) (cs := []) trivial (by decide)⟩)
    replace H := ite_f q56 H
    refine ls_know (c := false) (dec_f q56) 18 (by kernel_rfl) ?_
    refine ls_on (j := 13) (t := 18) (b := false) rfl rfl (by kernel_rfl) (by kernel_rfl) ?_
    refine lv (.pointer (some ⟨g1, (0 + 1), none⟩)) ?_
    refine ls_on (j := 13) (t := 18) (b := false) rfl rfl (by kernel_rfl) (by kernel_rfl) ?_
    refine ls_load (a0 := ⟨g1, (0 + 1), none⟩) (v := .int .i64 a0.2.1) (de := (TypeDesc.int .i64)) rfl rfl (by kernel_rfl) rfl (by kernel_rfl) (by kernel_rfl) (by kernel_rfl) (fun w hs => (hs.var (k := 0) (by exact rfl) (Sub4.trans (Sub4.all _) (Sub4.skip (n := 1) (len1 _) (Sub4.head _ _))))) ?_
    refine ls_on (j := 13) (t := 18) (b := false) rfl rfl (by kernel_rfl) (by kernel_rfl) ?_
    refine lv (.bool (decide (a0.2.1 > (4 : Int)))) ?_
    refine lv (.bool (decide (a0.2.1 > (4 : Int)))) ?_
    refine lv (.bool (decide (a0.2.1 > (4 : Int)))) ?_
    by_cases q57 : a0.2.1 > (4 : Int)
    · replace H := ite_t q57 H
      refine ls_know (c := true) (dec_t q57) 23 (by kernel_rfl) ?_
      refine lofx 18 23 false true ?_
      refine lofx 18 23 false true ?_
      refine lofx 18 23 false true ?_
      refine lv (.bool true) ?_
      refine lv (.bool true) ?_
      refine lofx 23 28 false true ?_
      refine lofx 23 28 false true ?_
      refine lofx 23 28 false true ?_
      refine lv (.bool true) ?_
      refine lv (.bool true) ?_
      refine lofx 28 33 false true ?_
      refine lofx 28 33 false true ?_
      refine lofx 28 33 false true ?_
      refine lv (.bool true) ?_
      refine lv (.bool true) ?_
      refine lofx 33 38 false true ?_
      refine lofx 33 38 false true ?_
      refine lofx 33 38 false true ?_
      refine lv (.bool true) ?_
      refine ls_end ?_
      refine qn_then ?_
      refine cs_true (by kernel_rfl) ?_
      refine cs_seq ?_
      refine cs_region (l := [_]) ?_
      refine lv (.bool false) ?_
      refine ls_end ?_
      refine qn_then ?_
      refine cs_ret' ?_
      refine qr_then ?_
      obtain rfl := Option.some.inj H
      refine qr_res (rs := [_]) rfl (fun w' hs => ⟨[.bool false], (res_tmp (by kernel_rfl) (.nil)), (), rfl, hs.pick (ts := []) (cs := []) trivial (by decide)⟩)
    replace H := ite_f q57 H
    refine ls_know (c := false) (dec_f q57) 23 (by kernel_rfl) ?_
    refine ls_on (j := 18) (t := 23) (b := false) rfl rfl (by kernel_rfl) (by kernel_rfl) ?_
    refine lv (.pointer (some ⟨g1, (0 + 2), none⟩)) ?_
    refine ls_on (j := 18) (t := 23) (b := false) rfl rfl (by kernel_rfl) (by kernel_rfl) ?_
    refine ls_load (a0 := ⟨g1, (0 + 2), none⟩) (v := .int .i64 a0.2.2.1) (de := (TypeDesc.int .i64)) rfl rfl (by kernel_rfl) rfl (by kernel_rfl) (by kernel_rfl) (by kernel_rfl) (fun w hs => (hs.var (k := 0) (by exact rfl) (Sub4.trans (Sub4.all _) (Sub4.skip (n := 1) (len1 _) (Sub4.skip (n := 1) (len1 _) (Sub4.head _ _)))))) ?_
    refine ls_on (j := 18) (t := 23) (b := false) rfl rfl (by kernel_rfl) (by kernel_rfl) ?_
    refine lv (.bool (decide (a0.2.2.1 < (0 : Int)))) ?_
    refine lv (.bool (decide (a0.2.2.1 < (0 : Int)))) ?_
    refine lv (.bool (decide (a0.2.2.1 < (0 : Int)))) ?_
    by_cases q58 : a0.2.2.1 < (0 : Int)
    · replace H := ite_t q58 H
      refine ls_know (c := true) (dec_t q58) 28 (by kernel_rfl) ?_
      refine lofx 23 28 false true ?_
      refine lofx 23 28 false true ?_
      refine lofx 23 28 false true ?_
      refine lv (.bool true) ?_
      refine lv (.bool true) ?_
      refine lofx 28 33 false true ?_
      refine lofx 28 33 false true ?_
      refine lofx 28 33 false true ?_
      refine lv (.bool true) ?_
      refine lv (.bool true) ?_
      refine lofx 33 38 false true ?_
      refine lofx 33 38 false true ?_
      refine lofx 33 38 false true ?_
      refine lv (.bool true) ?_
      refine ls_end ?_
      refine qn_then ?_
      refine cs_true (by kernel_rfl) ?_
      refine cs_seq ?_
      refine cs_region (l := [_]) ?_
      refine lv (.bool false) ?_
      refine ls_end ?_
      refine qn_then ?_
      refine cs_ret' ?_
      refine qr_then ?_
      obtain rfl := Option.some.inj H
      refine qr_res (rs := [_]) rfl (fun w' hs => ⟨[.bool false], (res_tmp (by kernel_rfl) (.nil)), (), rfl, hs.pick (ts := []) (cs := []) trivial (by decide)⟩)
    replace H := ite_f q58 H
    refine ls_know (c := false) (dec_f q58) 28 (by kernel_rfl) ?_
    refine ls_on (j := 23) (t := 28) (b := false) rfl rfl (by kernel_rfl) (by kernel_rfl) ?_
    refine lv (.pointer (some ⟨g1, (0 + 2), none⟩)) ?_
    refine ls_on (j := 23) (t := 28) (b := false) rfl rfl (by kernel_rfl) (by kernel_rfl) ?_
    refine ls_load (a0 := ⟨g1, (0 + 2), none⟩) (v := .int .i64 a0.2.2.1) (de := (TypeDesc.int .i64)) rfl rfl (by kernel_rfl) rfl (by kernel_rfl) (by kernel_rfl) (by kernel_rfl) (fun w hs => (hs.var (k := 0) (by exact rfl) (Sub4.trans (Sub4.all _) (Sub4.skip (n := 1) (len1 _) (Sub4.skip (n := 1) (len1 _) (Sub4.head _ _)))))) ?_
    refine ls_on (j := 23) (t := 28) (b := false) rfl rfl (by kernel_rfl) (by kernel_rfl) ?_
    refine lv (.bool (decide (a0.2.2.1 > (65536 : Int)))) ?_
    refine lv (.bool (decide (a0.2.2.1 > (65536 : Int)))) ?_
    refine lv (.bool (decide (a0.2.2.1 > (65536 : Int)))) ?_
    by_cases q59 : a0.2.2.1 > (65536 : Int)
    · replace H := ite_t q59 H
      refine ls_know (c := true) (dec_t q59) 33 (by kernel_rfl) ?_
      refine lofx 28 33 false true ?_
      refine lofx 28 33 false true ?_
      refine lofx 28 33 false true ?_
      refine lv (.bool true) ?_
      refine lv (.bool true) ?_
      refine lofx 33 38 false true ?_
      refine lofx 33 38 false true ?_
      refine lofx 33 38 false true ?_
      refine lv (.bool true) ?_
      refine ls_end ?_
      refine qn_then ?_
      refine cs_true (by kernel_rfl) ?_
      refine cs_seq ?_
      refine cs_region (l := [_]) ?_
      refine lv (.bool false) ?_
      refine ls_end ?_
      refine qn_then ?_
      refine cs_ret' ?_
      refine qr_then ?_
      obtain rfl := Option.some.inj H
      refine qr_res (rs := [_]) rfl (fun w' hs => ⟨[.bool false], (res_tmp (by kernel_rfl) (.nil)), (), rfl, hs.pick (ts := []) (cs := []) trivial (by decide)⟩)
    replace H := ite_f q59 H
    refine ls_know (c := false) (dec_f q59) 33 (by kernel_rfl) ?_
    refine ls_on (j := 28) (t := 33) (b := false) rfl rfl (by kernel_rfl) (by kernel_rfl) ?_
    refine lv (.pointer (some ⟨g1, (0 + 3), none⟩)) ?_
    refine ls_on (j := 28) (t := 33) (b := false) rfl rfl (by kernel_rfl) (by kernel_rfl) ?_
    refine ls_load (a0 := ⟨g1, (0 + 3), none⟩) (v := .int .i64 a0.2.2.2.1) (de := (TypeDesc.int .i64)) rfl rfl (by kernel_rfl) rfl (by kernel_rfl) (by kernel_rfl) (by kernel_rfl) (fun w hs => (hs.var (k := 0) (by exact rfl) (Sub4.trans (Sub4.all _) (Sub4.skip (n := 1) (len1 _) (Sub4.skip (n := 1) (len1 _) (Sub4.skip (n := 1) (len1 _) (Sub4.head _ _))))))) ?_
    refine ls_on (j := 28) (t := 33) (b := false) rfl rfl (by kernel_rfl) (by kernel_rfl) ?_
    refine lv (.bool (decide (a0.2.2.2.1 < (0 : Int)))) ?_
    refine lv (.bool (decide (a0.2.2.2.1 < (0 : Int)))) ?_
    refine lv (.bool (decide (a0.2.2.2.1 < (0 : Int)))) ?_
    by_cases q60 : a0.2.2.2.1 < (0 : Int)
    · replace H := ite_t q60 H
      refine ls_know (c := true) (dec_t q60) 38 (by kernel_rfl) ?_
      refine lofx 33 38 false true ?_
      refine lofx 33 38 false true ?_
      refine lofx 33 38 false true ?_
      refine lv (.bool true) ?_
      refine ls_end ?_
      refine qn_then ?_
      refine cs_true (by kernel_rfl) ?_
      refine cs_seq ?_
      refine cs_region (l := [_]) ?_
      refine lv (.bool false) ?_
      refine ls_end ?_
      refine qn_then ?_
      refine cs_ret' ?_
      refine qr_then ?_
      obtain rfl := Option.some.inj H
      refine qr_res (rs := [_]) rfl (fun w' hs => ⟨[.bool false], (res_tmp (by kernel_rfl) (.nil)), (), rfl, hs.pick (ts := []) (cs := []) trivial (by decide)⟩)
    replace H := ite_f q60 H
    refine ls_know (c := false) (dec_f q60) 38 (by kernel_rfl) ?_
    refine ls_on (j := 33) (t := 38) (b := false) rfl rfl (by kernel_rfl) (by kernel_rfl) ?_
    refine lv (.pointer (some ⟨g1, (0 + 3), none⟩)) ?_
    refine ls_on (j := 33) (t := 38) (b := false) rfl rfl (by kernel_rfl) (by kernel_rfl) ?_
    refine ls_load (a0 := ⟨g1, (0 + 3), none⟩) (v := .int .i64 a0.2.2.2.1) (de := (TypeDesc.int .i64)) rfl rfl (by kernel_rfl) rfl (by kernel_rfl) (by kernel_rfl) (by kernel_rfl) (fun w hs => (hs.var (k := 0) (by exact rfl) (Sub4.trans (Sub4.all _) (Sub4.skip (n := 1) (len1 _) (Sub4.skip (n := 1) (len1 _) (Sub4.skip (n := 1) (len1 _) (Sub4.head _ _))))))) ?_
    refine ls_on (j := 33) (t := 38) (b := false) rfl rfl (by kernel_rfl) (by kernel_rfl) ?_
    refine lv (.bool (decide (a0.2.2.2.1 > (1099511627776 : Int)))) ?_
    refine lv (.bool (decide (a0.2.2.2.1 > (1099511627776 : Int)))) ?_
    refine ls_end ?_
    refine qn_then ?_
    by_cases q61 : a0.2.2.2.1 > (1099511627776 : Int)
    · replace H := ite_t q61 H
      refine cs_know (c := true) (dec_t q61) 42 (by kernel_rfl) ?_
      refine cs_true (by kernel_rfl) ?_
      refine cs_seq ?_
      refine cs_region (l := [_]) ?_
      refine lv (.bool false) ?_
      refine ls_end ?_
      refine qn_then ?_
      refine cs_ret' ?_
      refine qr_then ?_
      obtain rfl := Option.some.inj H
      refine qr_res (rs := [_]) rfl (fun w' hs => ⟨[.bool false], (res_tmp (by kernel_rfl) (.nil)), (), rfl, hs.pick (ts := []) (cs := []) trivial (by decide)⟩)
    replace H := ite_f q61 H
    refine cs_know (c := false) (dec_f q61) 42 (by kernel_rfl) ?_
    refine cs_false (by kernel_rfl) ?_
    refine cs_skip' ?_
    refine qn_meet (sput s0 0 (some (Ck.var 56 g1 (([Value.int .i64 a0.1] ++ ([Value.int .i64 a0.2.1] ++ ([Value.int .i64 a0.2.2.1] ++ ([Value.int .i64 a0.2.2.2.1] ++ ([Value.string a0.2.2.2.2.1] ++ ([Value.string a0.2.2.2.2.2.1] ++ [Value.slice A0_6 a0.2.2.2.2.2.2.length c0_6])))))))))) ⟨_, fr_next (rfl) (by kernel_rfl), rfl, H⟩ (sub_put (by exact rfl) (sub_nil _))
  rintro f S ⟨fr1, rfl, rfl, H⟩
  replace H : ((shadowboxref36_short.f k a0.2.2.2.2.1 (60 : Int)).bind fun t45 => (if t45 = true then (shadowboxref36_short.f k a0.2.2.2.2.2.1 (60 : Int)).bind fun t49 => (if t49 = true then (if (a0.2.2.2.2.2.2.length : Int) > (8 : Int) then some false else (shadowboxref36_Right.jo2 k a0)) else some false) else some false)) = some r := H
  refine cs_cut (fun f S => ∃ (fR : Fr), f = upd fR 1 (.pointer (some ⟨g1, 0, none⟩)) ∧ S = sput s0 0 (some (Ck.var 56 g1 (([Value.int .i64 a0.1] ++ ([Value.int .i64 a0.2.1] ++ ([Value.int .i64 a0.2.2.1] ++ ([Value.int .i64 a0.2.2.2.1] ++ ([Value.string a0.2.2.2.2.1] ++ ([Value.string a0.2.2.2.2.2.1] ++ [Value.slice A0_6 a0.2.2.2.2.2.2.length c0_6]))))))))) ∧ shadowboxref36_Right.jo2 k a0 = some r) ?_ ?_
  · skip
    refine cs_seq ?_
    refine cs_region (l := [_, _, _, _, _, _, _, _, _, _, _, _, _, _, _, _]) ?_
    refine lv (.pointer (some ⟨g1, (0 + 4), none⟩)) ?_
    refine ls_load (a0 := ⟨g1, (0 + 4), none⟩) (v := .string a0.2.2.2.2.1) (de := TypeDesc.string) rfl rfl (by kernel_rfl) rfl (by kernel_rfl) (by kernel_rfl) (by kernel_rfl) (fun w hs => (hs.var (k := 0) (by exact rfl) (Sub4.trans (Sub4.all _) (Sub4.skip (n := 1) (len1 _) (Sub4.skip (n := 1) (len1 _) (Sub4.skip (n := 1) (len1 _) (Sub4.skip (n := 1) (len1 _) (Sub4.head _ _)))))))) ?_
    obtain ⟨t45, hc46, H⟩ := bind_some H
    refine ls_callb (fid := 51) (vals := #[.string a0.2.2.2.2.1, .int .i64 (60 : Int)]) (X := Unit) (fun x => .bool t45) (fun x => stl []) [] [] [] [] 1 rfl rfl (by kernel_rfl) (fun w => by kernel_rfl) trivial trivial (by decide) (fun w hs hb => shadowboxref36_short.calls k a0.2.2.2.2.1 (60 : Int) t45 (lent b w [] []) hb  hc46) ?_
    intro x47
    refine lv (.bool (!t45)) ?_
    refine lv (.bool (!t45)) ?_
    by_cases q48 : t45 = true
    · replace H := ite_t q48 H
      refine ls_know (c := false) (congrArg Bool.not (q48)) 47 (by kernel_rfl) ?_
      refine ls_on (j := 4) (t := 47) (b := false) rfl rfl (by kernel_rfl) (by kernel_rfl) ?_
      refine lv (.pointer (some ⟨g1, (0 + 5), none⟩)) ?_
      refine ls_on (j := 4) (t := 47) (b := false) rfl rfl (by kernel_rfl) (by kernel_rfl) ?_
      refine ls_load (a0 := ⟨g1, (0 + 5), none⟩) (v := .string a0.2.2.2.2.2.1) (de := TypeDesc.string) rfl rfl (by kernel_rfl) rfl (by kernel_rfl) (by kernel_rfl) (by kernel_rfl) (fun w hs => (hs.var (k := 0) (by exact rfl) (Sub4.trans (Sub4.all _) (Sub4.skip (n := 1) (len1 _) (Sub4.skip (n := 1) (len1 _) (Sub4.skip (n := 1) (len1 _) (Sub4.skip (n := 1) (len1 _) (Sub4.skip (n := 1) (len1 _) (Sub4.head _ _))))))))) ?_
      refine ls_on (j := 4) (t := 47) (b := false) rfl rfl (by kernel_rfl) (by kernel_rfl) ?_
      obtain ⟨t49, hc50, H⟩ := bind_some H
      refine ls_callb (fid := 51) (vals := #[.string a0.2.2.2.2.2.1, .int .i64 (60 : Int)]) (X := Unit) (fun x => .bool t49) (fun x => stl []) [] [] [] [] 1 rfl rfl (by kernel_rfl) (fun w => by kernel_rfl) trivial trivial (by decide) (fun w hs hb => shadowboxref36_short.calls k a0.2.2.2.2.2.1 (60 : Int) t49 (lent b w [] []) hb  hc50) ?_
      intro x51
      refine ls_on (j := 4) (t := 47) (b := false) rfl rfl (by kernel_rfl) (by kernel_rfl) ?_
      refine lv (.bool (!t49)) ?_
      refine lv (.bool (!t49)) ?_
      refine lv (.bool (!t49)) ?_
      by_cases q52 : t49 = true
      · replace H := ite_t q52 H
        refine ls_know (c := false) (congrArg Bool.not (q52)) 53 (by kernel_rfl) ?_
        refine ls_on (j := 10) (t := 53) (b := false) rfl rfl (by kernel_rfl) (by kernel_rfl) ?_
        refine lv (.pointer (some ⟨g1, (0 + 6), none⟩)) ?_
        refine ls_on (j := 10) (t := 53) (b := false) rfl rfl (by kernel_rfl) (by kernel_rfl) ?_
        refine ls_load (a0 := ⟨g1, (0 + 6), none⟩) (v := .slice A0_6 a0.2.2.2.2.2.2.length c0_6) (de := (TypeDesc.slice 67)) rfl rfl (by kernel_rfl) rfl (by kernel_rfl) (by kernel_rfl) (by kernel_rfl) (fun w hs => (hs.var (k := 0) (by exact rfl) (Sub4.trans (Sub4.all _) (Sub4.skip (n := 1) (len1 _) (Sub4.skip (n := 1) (len1 _) (Sub4.skip (n := 1) (len1 _) (Sub4.skip (n := 1) (len1 _) (Sub4.skip (n := 1) (len1 _) (Sub4.skip (n := 1) (len1 _) (Sub4.all _)))))))))) ?_
        refine ls_on (j := 10) (t := 53) (b := false) rfl rfl (by kernel_rfl) (by kernel_rfl) ?_
        refine lv (.int .i64 (a0.2.2.2.2.2.2.length : Int)) ?_
        refine ls_on (j := 10) (t := 53) (b := false) rfl rfl (by kernel_rfl) (by kernel_rfl) ?_
        refine lv (.bool (decide ((a0.2.2.2.2.2.2.length : Int) > (8 : Int)))) ?_
        refine lv (.bool (decide ((a0.2.2.2.2.2.2.length : Int) > (8 : Int)))) ?_
        refine ls_end ?_
        refine qn_then ?_
        by_cases q53 : (a0.2.2.2.2.2.2.length : Int) > (8 : Int)
        · replace H := ite_t q53 H
          refine cs_know (c := true) (dec_t q53) 58 (by kernel_rfl) ?_
          refine cs_true (by kernel_rfl) ?_
          refine cs_seq ?_
          refine cs_region (l := [_]) ?_
          refine lv (.bool false) ?_
          refine ls_end ?_
          refine qn_then ?_
          refine cs_ret' ?_
          refine qr_then ?_
          obtain rfl := Option.some.inj H
          refine qr_res (rs := [_]) rfl (fun w' hs => ⟨[.bool false], (res_tmp (by kernel_rfl) (.nil)), (), rfl, hs.pick (ts := []) (cs := []) trivial (by decide)⟩)
        replace H := ite_f q53 H
        refine cs_know (c := false) (dec_f q53) 58 (by kernel_rfl) ?_
        refine cs_false (by kernel_rfl) ?_
        refine cs_skip' ?_
        refine qn_meet (sput s0 0 (some (Ck.var 56 g1 (([Value.int .i64 a0.1] ++ ([Value.int .i64 a0.2.1] ++ ([Value.int .i64 a0.2.2.1] ++ ([Value.int .i64 a0.2.2.2.1] ++ ([Value.string a0.2.2.2.2.1] ++ ([Value.string a0.2.2.2.2.2.1] ++ [Value.slice A0_6 a0.2.2.2.2.2.2.length c0_6])))))))))) ⟨_, fr_next (rfl) (by kernel_rfl), rfl, H⟩ (sub_put (by exact rfl) (sub_nil _))
      replace H := ite_f q52 H
      refine ls_know (c := true) (congrArg Bool.not (Bool.eq_false_iff.mpr q52)) 53 (by kernel_rfl) ?_
      refine lofx 10 53 false true ?_
      refine lofx 10 53 false true ?_
      refine lofx 10 53 false true ?_
      refine lofx 10 53 false true ?_
      refine lv (.bool true) ?_
      refine ls_end ?_
      refine qn_then ?_
      refine cs_true (by kernel_rfl) ?_
      refine cs_seq ?_
      refine cs_region (l := [_]) ?_
      refine lv (.bool false) ?_
      refine ls_end ?_
      refine qn_then ?_
      refine cs_ret' ?_
      refine qr_then ?_
      obtain rfl := Option.some.inj H
      refine qr_res (rs := [_]) rfl (fun w' hs => ⟨[.bool false], (res_tmp (by kernel_rfl) (.nil)), (), rfl, hs.pick (ts := []) (cs := []) trivial (by decide)⟩)
    replace H := ite_f q48 H
    refine ls_know (c := true) (congrArg Bool.not (Bool.eq_false_iff.mpr q48)) 47 (by kernel_rfl) ?_
    refine lofx 4 47 false true ?_
    refine lofx 4 47 false true ?_
    refine lofx 4 47 false true ?_
    refine lofx 4 47 false true ?_
    refine lv (.bool true) ?_
    refine lv (.bool true) ?_
    refine lofx 10 53 false true ?_
    refine lofx 10 53 false true ?_
    refine lofx 10 53 false true ?_
    refine lofx 10 53 false true ?_
    refine lv (.bool true) ?_
    refine ls_end ?_
    refine qn_then ?_
    refine cs_true (by kernel_rfl) ?_
    refine cs_seq ?_
    refine cs_region (l := [_]) ?_
    refine lv (.bool false) ?_
    refine ls_end ?_
    refine qn_then ?_
    refine cs_ret' ?_
    refine qr_then ?_
    obtain rfl := Option.some.inj H
    refine qr_res (rs := [_]) rfl (fun w' hs => ⟨[.bool false], (res_tmp (by kernel_rfl) (.nil)), (), rfl, hs.pick (ts := []) (cs := []) trivial (by decide)⟩)
  rintro f S ⟨fr2, rfl, rfl, H⟩
  replace H : (shadowboxref36_Right.lo4 a0 (shadowboxref36_Right.jo3 k a0) k (0 : Int)) = some r := H
  refine cs_cut (fun f S => ∃ (fR : Fr), f = upd fR 1 (.pointer (some ⟨g1, 0, none⟩)) ∧ S = sput s0 0 (some (Ck.var 56 g1 (([Value.int .i64 a0.1] ++ ([Value.int .i64 a0.2.1] ++ ([Value.int .i64 a0.2.2.1] ++ ([Value.int .i64 a0.2.2.2.1] ++ ([Value.string a0.2.2.2.2.1] ++ ([Value.string a0.2.2.2.2.2.1] ++ [Value.slice A0_6 a0.2.2.2.2.2.2.length c0_6]))))))))) ∧ shadowboxref36_Right.jo3 k a0 = some r) ?_ ?_
  · skip
    refine cs_seq ?_
    refine cs_region (l := [_]) ?_
    refine lv (.int .i64 (0 : Int)) ?_
    refine ls_end ?_
    refine qn_then ?_
    refine cs_block ?_
    refine cs_sub (sput s0 0 (some (Ck.var 56 g1 (([Value.int .i64 a0.1] ++ ([Value.int .i64 a0.2.1] ++ ([Value.int .i64 a0.2.2.1] ++ ([Value.int .i64 a0.2.2.2.1] ++ ([Value.string a0.2.2.2.2.1] ++ ([Value.string a0.2.2.2.2.2.1] ++ [Value.slice A0_6 a0.2.2.2.2.2.2.length c0_6])))))))))) (sub_put (by exact rfl) (sub_nil _)) ?_
    refine cs_loop (fun kk f S => ∃ (fR : Fr) (x3_4 : Int), f = upd (upd fR 1 (.pointer (some ⟨g1, 0, none⟩))) 3 (.int .i64 x3_4) ∧ S = sput s0 0 (some (Ck.var 56 g1 (([Value.int .i64 a0.1] ++ ([Value.int .i64 a0.2.1] ++ ([Value.int .i64 a0.2.2.1] ++ ([Value.int .i64 a0.2.2.2.1] ++ ([Value.string a0.2.2.2.2.1] ++ ([Value.string a0.2.2.2.2.2.1] ++ [Value.slice A0_6 a0.2.2.2.2.2.2.length c0_6]))))))))) ∧ shadowboxref36_Right.lo4 a0 (shadowboxref36_Right.jo3 k a0) kk x3_4 = some r) k ?_ ?_ ?_
    · exact ⟨_, (0 : Int), fr_next (fr_next (rfl) (by kernel_rfl)) (by kernel_rfl), rfl, H⟩
    · rintro f S ⟨fr4, x3_4, rfl, rfl, H⟩; cases H
    rintro k4 f S ⟨fr4, x3_4, rfl, rfl, H⟩
    replace H : ((if x3_4 < (a0.2.2.2.2.2.2.length : Int) then (shadowboxref36_Right.jo5 a0 x3_4 k4 (shadowboxref36_Right.lo4 a0 (shadowboxref36_Right.jo3 k a0) k4)) else (shadowboxref36_Right.jo3 k a0))) = some r := H
    refine cs_cut (fun f S => ∃ (fR : Fr), f = upd (upd fR 1 (.pointer (some ⟨g1, 0, none⟩))) 3 (.int .i64 x3_4) ∧ S = sput s0 0 (some (Ck.var 56 g1 (([Value.int .i64 a0.1] ++ ([Value.int .i64 a0.2.1] ++ ([Value.int .i64 a0.2.2.1] ++ ([Value.int .i64 a0.2.2.2.1] ++ ([Value.string a0.2.2.2.2.1] ++ ([Value.string a0.2.2.2.2.2.1] ++ [Value.slice A0_6 a0.2.2.2.2.2.2.length c0_6]))))))))) ∧ shadowboxref36_Right.jo5 a0 x3_4 k4 (shadowboxref36_Right.lo4 a0 (shadowboxref36_Right.jo3 k a0) k4) = some r) ?_ ?_
    · skip
      refine cs_seq ?_
      refine cs_region (l := [_, _, _, _, _]) ?_
      refine lv (.int .i64 x3_4) ?_
      refine lv (.pointer (some ⟨g1, (0 + 6), none⟩)) ?_
      refine ls_load (a0 := ⟨g1, (0 + 6), none⟩) (v := .slice A0_6 a0.2.2.2.2.2.2.length c0_6) (de := (TypeDesc.slice 67)) rfl rfl (by kernel_rfl) rfl (by kernel_rfl) (by kernel_rfl) (by kernel_rfl) (fun w hs => (hs.var (k := 0) (by exact rfl) (Sub4.trans (Sub4.all _) (Sub4.skip (n := 1) (len1 _) (Sub4.skip (n := 1) (len1 _) (Sub4.skip (n := 1) (len1 _) (Sub4.skip (n := 1) (len1 _) (Sub4.skip (n := 1) (len1 _) (Sub4.skip (n := 1) (len1 _) (Sub4.all _)))))))))) ?_
      refine lv (.int .i64 (a0.2.2.2.2.2.2.length : Int)) ?_
      refine lv (.bool (decide (x3_4 < (a0.2.2.2.2.2.2.length : Int)))) ?_
      refine ls_end ?_
      refine qn_then ?_
      by_cases q44 : x3_4 < (a0.2.2.2.2.2.2.length : Int)
      · replace H := ite_t q44 H
        refine cs_know (c := true) (dec_t q44) 63 (by kernel_rfl) ?_
        refine cs_true (by kernel_rfl) ?_
        refine cs_skip' ?_
        refine qn_meet (sput s0 0 (some (Ck.var 56 g1 (([Value.int .i64 a0.1] ++ ([Value.int .i64 a0.2.1] ++ ([Value.int .i64 a0.2.2.1] ++ ([Value.int .i64 a0.2.2.2.1] ++ ([Value.string a0.2.2.2.2.1] ++ ([Value.string a0.2.2.2.2.2.1] ++ [Value.slice A0_6 a0.2.2.2.2.2.2.length c0_6])))))))))) ⟨_, fr_next (fr_next (rfl) (by kernel_rfl)) (by kernel_rfl), rfl, H⟩ (sub_put (by exact rfl) (sub_nil _))
      replace H := ite_f q44 H
      refine cs_know (c := false) (dec_f q44) 63 (by kernel_rfl) ?_
      refine cs_false (by kernel_rfl) ?_
      refine cs_exit' ?_
      refine qx_then ?_
      refine qx_then ?_
      refine qx_same ?_
      refine qn_meet (sput s0 0 (some (Ck.var 56 g1 (([Value.int .i64 a0.1] ++ ([Value.int .i64 a0.2.1] ++ ([Value.int .i64 a0.2.2.1] ++ ([Value.int .i64 a0.2.2.2.1] ++ ([Value.string a0.2.2.2.2.1] ++ ([Value.string a0.2.2.2.2.2.1] ++ [Value.slice A0_6 a0.2.2.2.2.2.2.length c0_6])))))))))) ⟨_, fr_next (rfl) (by kernel_rfl), rfl, H⟩ (sub_put (by exact rfl) (sub_nil _))
    rintro f S ⟨fr5, rfl, rfl, H⟩
    replace H : ((if 0 ≤ x3_4 then (if x3_4 < (a0.2.2.2.2.2.2.length : Int) then lt (((a0.2.2.2.2.2.2).getD (x3_4).toNat (ByteArray.empty, ByteArray.empty)).1) fun y17 => (if (y17.size : Int) > (30 : Int) then some false else (shadowboxref30_Token.f k4 y17).bind fun t20 => (if t20 = true then (shadowboxref04_Lower.f k4 y17).bind fun t24 => (if (t24.toList == y17.toList) = true then lt (((a0.2.2.2.2.2.2).getD (x3_4).toNat (ByteArray.empty, ByteArray.empty)).2) fun y30 => (shadowboxref36_short.f k4 y30 (60 : Int)).bind fun t32 => (if t32 = true then (if x3_4 > (0 : Int) then (if 0 ≤ IntKind.wrap .i64 (x3_4 - (1 : Int)) then (if IntKind.wrap .i64 (x3_4 - (1 : Int)) < (a0.2.2.2.2.2.2.length : Int) then lt (((a0.2.2.2.2.2.2).getD (IntKind.wrap .i64 (x3_4 - (1 : Int))).toNat (ByteArray.empty, ByteArray.empty)).1) fun y41 => (if (Op.bytesLess y41.toList y17.toList) = true then (shadowboxref36_Right.lo4 a0 (shadowboxref36_Right.jo3 k a0) k4) (IntKind.wrap .i64 (x3_4 + (1 : Int))) else some false) else none) else none) else (shadowboxref36_Right.lo4 a0 (shadowboxref36_Right.jo3 k a0) k4) (IntKind.wrap .i64 (x3_4 + (1 : Int)))) else some false) else some false) else some false)) else none) else none)) = some r := H
    refine cs_seq ?_
    refine cs_block ?_
    refine cs_seq ?_
    refine cs_region (l := [_, _, _, _, _, _, _]) ?_
    refine lv (.pointer (some ⟨g1, (0 + 6), none⟩)) ?_
    refine ls_load (a0 := ⟨g1, (0 + 6), none⟩) (v := .slice A0_6 a0.2.2.2.2.2.2.length c0_6) (de := (TypeDesc.slice 67)) rfl rfl (by kernel_rfl) rfl (by kernel_rfl) (by kernel_rfl) (by kernel_rfl) (fun w hs => (hs.var (k := 0) (by exact rfl) (Sub4.trans (Sub4.all _) (Sub4.skip (n := 1) (len1 _) (Sub4.skip (n := 1) (len1 _) (Sub4.skip (n := 1) (len1 _) (Sub4.skip (n := 1) (len1 _) (Sub4.skip (n := 1) (len1 _) (Sub4.skip (n := 1) (len1 _) (Sub4.all _)))))))))) ?_
    refine lv (.int .i64 x3_4) ?_
    obtain ⟨q13, H⟩ := ite_need H
    obtain ⟨q14, H⟩ := ite_need H
    obtain ⟨ad15, hA16⟩ := ido_at (T := T67) (l := a0.2.2.2.2.2.2) (i := x3_4) R0_6 q13 q14
    refine ls_idxv T67 (A := A0_6) (c := c0_6) (l := a0.2.2.2.2.2.2) (k := .i64) (i := x3_4) (z := 2) (ad := ad15) rfl rfl (by kernel_rfl) hA16 rfl (by kernel_rfl) (by kernel_rfl) (by kernel_rfl) (by kernel_rfl) q13 q14 ?_
    refine ls_fieldm (ad := ad15) (off := ((x3_4).toNat * 2)) rfl rfl (by kernel_rfl) 0 (fun w => by kernel_rfl) ?_
    obtain ⟨y17, hy18, H⟩ := lt_some H
    refine ls_load (a0 := (ad15.add (((x3_4).toNat * 2) + 0))) (v := .string (((a0.2.2.2.2.2.2).getD (x3_4).toNat (ByteArray.empty, ByteArray.empty)).1)) (de := TypeDesc.string) rfl rfl (by kernel_rfl) rfl (by kernel_rfl) (by kernel_rfl) (by kernel_rfl) (fun w hs => (hs.old R0_6).at hA16 (Sub4.trans (em_sub T67 a0.2.2.2.2.2.2 (i := (x3_4).toNat) (by have h0 : (0 : Int) ≤ x3_4 := q13; have h1 : x3_4 < (a0.2.2.2.2.2.2.length : Int) := q14; omega)) (Sub4.head _ _))) ?_
    refine ls_ren 71 (v := .string (((a0.2.2.2.2.2.2).getD (x3_4).toNat (ByteArray.empty, ByteArray.empty)).1)) (v' := .string y17) (by kernel_rfl) (by rw [hy18]) ?_
    refine lv (.string y17) ?_
    refine ls_end ?_
    refine qn_then ?_
    refine cs_seq ?_
    refine cs_region (l := [_, _, _, _, _, _, _, _, _, _, _, _, _, _, _, _, _, _, _, _, _, _, _, _, _, _, _, _, _, _, _, _, _, _, _, _, _, _, _]) ?_
    refine lv (.string y17) ?_
    refine lv (.int .i64 (y17.size : Int)) ?_
    refine lv (.bool (decide ((y17.size : Int) > (30 : Int)))) ?_
    refine lv (.bool (decide ((y17.size : Int) > (30 : Int)))) ?_
    by_cases q19 : (y17.size : Int) > (30 : Int)
    · replace H := ite_t q19 H
      refine ls_know (c := true) (dec_t q19) 75 (by kernel_rfl) ?_
      refine lofx 3 75 false true ?_
      refine lofx 3 75 false true ?_
      refine lofx 3 75 false true ?_
      refine lv (.bool true) ?_
      refine lv (.bool true) ?_
      refine lofx 8 80 false true ?_
      refine lofx 8 80 false true ?_
      refine lofx 8 80 false true ?_
      refine lofx 8 80 false true ?_
      refine lv (.bool true) ?_
      refine lv (.bool true) ?_
      refine lofx 14 86 false true ?_
      refine lofx 14 86 false true ?_
      refine lofx 14 86 false true ?_
      refine lofx 14 86 false true ?_
      refine lofx 14 86 false true ?_
      refine lofx 14 86 false true ?_
      refine lofx 14 86 false true ?_
      refine lofx 14 86 false true ?_
      refine lv (.bool true) ?_
      refine lv (.bool true) ?_
      refine lofx 24 96 false true ?_
      refine lofx 24 96 false true ?_
      refine lofx 24 96 false true ?_
      refine ls_offu (j := 27) (t := 99) (b := true) rfl rfl (by kernel_rfl) (by kernel_rfl) rfl (by kernel_rfl) ?_
      refine ls_offu (j := 27) (t := 99) (b := true) rfl rfl (by kernel_rfl) (by kernel_rfl) rfl (by kernel_rfl) ?_
      refine ls_offu (j := 27) (t := 99) (b := true) rfl rfl (by kernel_rfl) (by kernel_rfl) rfl (by kernel_rfl) ?_
      refine ls_offu (j := 27) (t := 99) (b := true) rfl rfl (by kernel_rfl) (by kernel_rfl) rfl (by kernel_rfl) ?_
      refine ls_offu (j := 27) (t := 99) (b := true) rfl rfl (by kernel_rfl) (by kernel_rfl) rfl (by kernel_rfl) ?_
      refine ls_offu (j := 27) (t := 99) (b := true) rfl rfl (by kernel_rfl) (by kernel_rfl) rfl (by kernel_rfl) ?_
      refine ls_offu (j := 27) (t := 99) (b := true) rfl rfl (by kernel_rfl) (by kernel_rfl) rfl (by kernel_rfl) ?_
      refine ls_offu (j := 27) (t := 99) (b := true) rfl rfl (by kernel_rfl) (by kernel_rfl) rfl (by kernel_rfl) ?_
      refine ls_offu (j := 27) (t := 99) (b := true) rfl rfl (by kernel_rfl) (by kernel_rfl) rfl (by kernel_rfl) ?_
      refine lofx 24 96 false true ?_
      refine lv (.bool true) ?_
      refine ls_end ?_
      refine qn_then ?_
      refine cs_true (by kernel_rfl) ?_
      refine cs_seq ?_
      refine cs_region (l := [_]) ?_
      refine lv (.bool false) ?_
      refine ls_end ?_
      refine qn_then ?_
      refine cs_ret' ?_
      refine qr_block ?_
      refine qr_then ?_
      refine qr_then ?_
      refine qr_block ?_
      refine qr_then ?_
      obtain rfl := Option.some.inj H
      refine qr_res (rs := [_]) rfl (fun w' hs => ⟨[.bool false], (res_tmp (by kernel_rfl) (.nil)), (), rfl, hs.pick (ts := []) (cs := []) trivial (by decide)⟩)
    replace H := ite_f q19 H
    refine ls_know (c := false) (dec_f q19) 75 (by kernel_rfl) ?_
    refine ls_on (j := 3) (t := 75) (b := false) rfl rfl (by kernel_rfl) (by kernel_rfl) ?_
    refine lv (.string y17) ?_
    refine ls_on (j := 3) (t := 75) (b := false) rfl rfl (by kernel_rfl) (by kernel_rfl) ?_
    obtain ⟨t20, hc21, H⟩ := bind_some H
    refine ls_callb (fid := 52) (vals := #[.string y17]) (X := Unit) (fun x => .bool t20) (fun x => stl []) [] [] [] [] 1 rfl rfl (by kernel_rfl) (fun w => by kernel_rfl) trivial trivial (by decide) (fun w hs hb => shadowboxref30_Token.calls k4 y17 t20 (lent b w [] []) hb  hc21) ?_
    intro x22
    refine ls_on (j := 3) (t := 75) (b := false) rfl rfl (by kernel_rfl) (by kernel_rfl) ?_
    refine lv (.bool (!t20)) ?_
    refine lv (.bool (!t20)) ?_
    refine lv (.bool (!t20)) ?_
    by_cases q23 : t20 = true
    · replace H := ite_t q23 H
      refine ls_know (c := false) (congrArg Bool.not (q23)) 80 (by kernel_rfl) ?_
      refine ls_on (j := 8) (t := 80) (b := false) rfl rfl (by kernel_rfl) (by kernel_rfl) ?_
      refine lv (.string y17) ?_
      refine ls_on (j := 8) (t := 80) (b := false) rfl rfl (by kernel_rfl) (by kernel_rfl) ?_
      obtain ⟨t24, hc25, H⟩ := bind_some H
      refine ls_callb (fid := 53) (vals := #[.string y17]) (X := Unit) (fun x => .string t24) (fun x => stl []) [] [] [] [] 1 rfl rfl (by kernel_rfl) (fun w => by kernel_rfl) trivial trivial (by decide) (fun w hs hb => shadowboxref04_Lower.calls k4 y17 t24 (lent b w [] []) hb  hc25) ?_
      intro x26
      refine ls_on (j := 8) (t := 80) (b := false) rfl rfl (by kernel_rfl) (by kernel_rfl) ?_
      refine lv (.string y17) ?_
      refine ls_on (j := 8) (t := 80) (b := false) rfl rfl (by kernel_rfl) (by kernel_rfl) ?_
      refine lv (.bool (!(t24.toList == y17.toList))) ?_
      refine lv (.bool (!(t24.toList == y17.toList))) ?_
      refine lv (.bool (!(t24.toList == y17.toList))) ?_
      by_cases q27 : (t24.toList == y17.toList) = true
      · replace H := ite_t q27 H
        refine ls_know (c := false) (congrArg Bool.not (q27)) 86 (by kernel_rfl) ?_
        refine ls_on (j := 14) (t := 86) (b := false) rfl rfl (by kernel_rfl) (by kernel_rfl) ?_
        refine lv (.pointer (some ⟨g1, (0 + 6), none⟩)) ?_
        refine ls_on (j := 14) (t := 86) (b := false) rfl rfl (by kernel_rfl) (by kernel_rfl) ?_
        refine ls_load (a0 := ⟨g1, (0 + 6), none⟩) (v := .slice A0_6 a0.2.2.2.2.2.2.length c0_6) (de := (TypeDesc.slice 67)) rfl rfl (by kernel_rfl) rfl (by kernel_rfl) (by kernel_rfl) (by kernel_rfl) (fun w hs => (hs.var (k := 0) (by exact rfl) (Sub4.trans (Sub4.all _) (Sub4.skip (n := 1) (len1 _) (Sub4.skip (n := 1) (len1 _) (Sub4.skip (n := 1) (len1 _) (Sub4.skip (n := 1) (len1 _) (Sub4.skip (n := 1) (len1 _) (Sub4.skip (n := 1) (len1 _) (Sub4.all _)))))))))) ?_
        refine ls_on (j := 14) (t := 86) (b := false) rfl rfl (by kernel_rfl) (by kernel_rfl) ?_
        refine lv (.int .i64 x3_4) ?_
        refine ls_on (j := 14) (t := 86) (b := false) rfl rfl (by kernel_rfl) (by kernel_rfl) ?_
        obtain ⟨ad28, hA29⟩ := ido_at (T := T67) (l := a0.2.2.2.2.2.2) (i := x3_4) R0_6 q13 q14
        refine ls_idxv T67 (A := A0_6) (c := c0_6) (l := a0.2.2.2.2.2.2) (k := .i64) (i := x3_4) (z := 2) (ad := ad28) rfl rfl (by kernel_rfl) hA29 rfl (by kernel_rfl) (by kernel_rfl) (by kernel_rfl) (by kernel_rfl) q13 q14 ?_
        refine ls_on (j := 14) (t := 86) (b := false) rfl rfl (by kernel_rfl) (by kernel_rfl) ?_
        refine ls_fieldm (ad := ad28) (off := ((x3_4).toNat * 2)) rfl rfl (by kernel_rfl) 1 (fun w => by kernel_rfl) ?_
        refine ls_on (j := 14) (t := 86) (b := false) rfl rfl (by kernel_rfl) (by kernel_rfl) ?_
        obtain ⟨y30, hy31, H⟩ := lt_some H
        refine ls_load (a0 := (ad28.add (((x3_4).toNat * 2) + 1))) (v := .string (((a0.2.2.2.2.2.2).getD (x3_4).toNat (ByteArray.empty, ByteArray.empty)).2)) (de := TypeDesc.string) rfl rfl (by kernel_rfl) rfl (by kernel_rfl) (by kernel_rfl) (by kernel_rfl) (fun w hs => (hs.old R0_6).at hA29 (Sub4.trans (em_sub T67 a0.2.2.2.2.2.2 (i := (x3_4).toNat) (by have h0 : (0 : Int) ≤ x3_4 := q13; have h1 : x3_4 < (a0.2.2.2.2.2.2.length : Int) := q14; omega)) (Sub4.skip (n := 1) (len1 _) (Sub4.all _)))) ?_
        refine ls_ren 92 (v := .string (((a0.2.2.2.2.2.2).getD (x3_4).toNat (ByteArray.empty, ByteArray.empty)).2)) (v' := .string y30) (by kernel_rfl) (by rw [hy31]) ?_
        refine ls_on (j := 14) (t := 86) (b := false) rfl rfl (by kernel_rfl) (by kernel_rfl) ?_
        obtain ⟨t32, hc33, H⟩ := bind_some H
        refine ls_callb (fid := 51) (vals := #[.string y30, .int .i64 (60 : Int)]) (X := Unit) (fun x => .bool t32) (fun x => stl []) [] [] [] [] 1 rfl rfl (by kernel_rfl) (fun w => by kernel_rfl) trivial trivial (by decide) (fun w hs hb => shadowboxref36_short.calls k4 y30 (60 : Int) t32 (lent b w [] []) hb  hc33) ?_
        intro x34
        refine ls_on (j := 14) (t := 86) (b := false) rfl rfl (by kernel_rfl) (by kernel_rfl) ?_
        refine lv (.bool (!t32)) ?_
        refine lv (.bool (!t32)) ?_
        refine lv (.bool (!t32)) ?_
        by_cases q35 : t32 = true
        · replace H := ite_t q35 H
          refine ls_know (c := false) (congrArg Bool.not (q35)) 96 (by kernel_rfl) ?_
          refine ls_on (j := 24) (t := 96) (b := false) rfl rfl (by kernel_rfl) (by kernel_rfl) ?_
          refine lv (.int .i64 x3_4) ?_
          refine ls_on (j := 24) (t := 96) (b := false) rfl rfl (by kernel_rfl) (by kernel_rfl) ?_
          refine lv (.bool (decide (x3_4 > (0 : Int)))) ?_
          refine ls_on (j := 24) (t := 96) (b := false) rfl rfl (by kernel_rfl) (by kernel_rfl) ?_
          refine lv (.bool (decide (x3_4 > (0 : Int)))) ?_
          by_cases q36 : x3_4 > (0 : Int)
          · replace H := ite_t q36 H
            refine ls_know (c := true) (dec_t q36) 99 (by kernel_rfl) ?_
            refine ls_on (j := 27) (t := 99) (b := true) rfl rfl (by kernel_rfl) (by kernel_rfl) ?_
            refine lv (.pointer (some ⟨g1, (0 + 6), none⟩)) ?_
            refine ls_on (j := 27) (t := 99) (b := true) rfl rfl (by kernel_rfl) (by kernel_rfl) ?_
            refine ls_load (a0 := ⟨g1, (0 + 6), none⟩) (v := .slice A0_6 a0.2.2.2.2.2.2.length c0_6) (de := (TypeDesc.slice 67)) rfl rfl (by kernel_rfl) rfl (by kernel_rfl) (by kernel_rfl) (by kernel_rfl) (fun w hs => (hs.var (k := 0) (by exact rfl) (Sub4.trans (Sub4.all _) (Sub4.skip (n := 1) (len1 _) (Sub4.skip (n := 1) (len1 _) (Sub4.skip (n := 1) (len1 _) (Sub4.skip (n := 1) (len1 _) (Sub4.skip (n := 1) (len1 _) (Sub4.skip (n := 1) (len1 _) (Sub4.all _)))))))))) ?_
            refine ls_on (j := 27) (t := 99) (b := true) rfl rfl (by kernel_rfl) (by kernel_rfl) ?_
            refine lv (.int .i64 x3_4) ?_
            refine ls_on (j := 27) (t := 99) (b := true) rfl rfl (by kernel_rfl) (by kernel_rfl) ?_
            refine lv (.int .i64 (IntKind.wrap .i64 (x3_4 - (1 : Int)))) ?_
            refine ls_on (j := 27) (t := 99) (b := true) rfl rfl (by kernel_rfl) (by kernel_rfl) ?_
            obtain ⟨q37, H⟩ := ite_need H
            obtain ⟨q38, H⟩ := ite_need H
            obtain ⟨ad39, hA40⟩ := ido_at (T := T67) (l := a0.2.2.2.2.2.2) (i := IntKind.wrap .i64 (x3_4 - (1 : Int))) R0_6 q37 q38
            refine ls_idxv T67 (A := A0_6) (c := c0_6) (l := a0.2.2.2.2.2.2) (k := .i64) (i := IntKind.wrap .i64 (x3_4 - (1 : Int))) (z := 2) (ad := ad39) rfl rfl (by kernel_rfl) hA40 rfl (by kernel_rfl) (by kernel_rfl) (by kernel_rfl) (by kernel_rfl) q37 q38 ?_
            refine ls_on (j := 27) (t := 99) (b := true) rfl rfl (by kernel_rfl) (by kernel_rfl) ?_
            refine ls_fieldm (ad := ad39) (off := ((IntKind.wrap .i64 (x3_4 - (1 : Int))).toNat * 2)) rfl rfl (by kernel_rfl) 0 (fun w => by kernel_rfl) ?_
            refine ls_on (j := 27) (t := 99) (b := true) rfl rfl (by kernel_rfl) (by kernel_rfl) ?_
            obtain ⟨y41, hy42, H⟩ := lt_some H
            refine ls_load (a0 := (ad39.add (((IntKind.wrap .i64 (x3_4 - (1 : Int))).toNat * 2) + 0))) (v := .string (((a0.2.2.2.2.2.2).getD (IntKind.wrap .i64 (x3_4 - (1 : Int))).toNat (ByteArray.empty, ByteArray.empty)).1)) (de := TypeDesc.string) rfl rfl (by kernel_rfl) rfl (by kernel_rfl) (by kernel_rfl) (by kernel_rfl) (fun w hs => (hs.old R0_6).at hA40 (Sub4.trans (em_sub T67 a0.2.2.2.2.2.2 (i := (IntKind.wrap .i64 (x3_4 - (1 : Int))).toNat) (by have h0 : (0 : Int) ≤ IntKind.wrap .i64 (x3_4 - (1 : Int)) := q37; have h1 : IntKind.wrap .i64 (x3_4 - (1 : Int)) < (a0.2.2.2.2.2.2.length : Int) := q38; omega)) (Sub4.head _ _))) ?_
            refine ls_ren 106 (v := .string (((a0.2.2.2.2.2.2).getD (IntKind.wrap .i64 (x3_4 - (1 : Int))).toNat (ByteArray.empty, ByteArray.empty)).1)) (v' := .string y41) (by kernel_rfl) (by rw [hy42]) ?_
            refine ls_on (j := 27) (t := 99) (b := true) rfl rfl (by kernel_rfl) (by kernel_rfl) ?_
            refine lv (.string y17) ?_
            refine ls_on (j := 27) (t := 99) (b := true) rfl rfl (by kernel_rfl) (by kernel_rfl) ?_
            refine lv (.bool (!(Op.bytesLess y41.toList y17.toList))) ?_
            refine ls_on (j := 24) (t := 96) (b := false) rfl rfl (by kernel_rfl) (by kernel_rfl) ?_
            refine lv (.bool (!(Op.bytesLess y41.toList y17.toList))) ?_
            refine lv (.bool (!(Op.bytesLess y41.toList y17.toList))) ?_
            refine ls_end ?_
            refine qn_then ?_
            by_cases q43 : (Op.bytesLess y41.toList y17.toList) = true
            · replace H := ite_t q43 H
              refine cs_know (c := false) (congrArg Bool.not (q43)) 110 (by kernel_rfl) ?_
              refine cs_false (by kernel_rfl) ?_
              refine cs_skip' ?_
              refine qn_block ?_
              refine qn_then ?_
              refine cs_region (l := [_, _, _]) ?_
              refine lv (.int .i64 x3_4) ?_
              refine lv (.int .i64 (IntKind.wrap .i64 (x3_4 + (1 : Int)))) ?_
              refine lv (.int .i64 (IntKind.wrap .i64 (x3_4 + (1 : Int)))) ?_
              refine ls_end ?_
              refine qn_again k4 (sput s0 0 (some (Ck.var 56 g1 (([Value.int .i64 a0.1] ++ ([Value.int .i64 a0.2.1] ++ ([Value.int .i64 a0.2.2.1] ++ ([Value.int .i64 a0.2.2.2.1] ++ ([Value.string a0.2.2.2.2.1] ++ ([Value.string a0.2.2.2.2.2.1] ++ [Value.slice A0_6 a0.2.2.2.2.2.2.length c0_6])))))))))) (Nat.le_refl _) ⟨_, (IntKind.wrap .i64 (x3_4 + (1 : Int))), fr_next (fr_next (rfl) (by kernel_rfl)) (by kernel_rfl), rfl, H⟩ (sub_put (by exact rfl) (sub_nil _))
            replace H := ite_f q43 H
            refine cs_know (c := true) (congrArg Bool.not (Bool.eq_false_iff.mpr q43)) 110 (by kernel_rfl) ?_
            refine cs_true (by kernel_rfl) ?_
            refine cs_seq ?_
            refine cs_region (l := [_]) ?_
            refine lv (.bool false) ?_
            refine ls_end ?_
            refine qn_then ?_
            refine cs_ret' ?_
            refine qr_block ?_
            refine qr_then ?_
            refine qr_then ?_
            refine qr_block ?_
            refine qr_then ?_
            obtain rfl := Option.some.inj H
            refine qr_res (rs := [_]) rfl (fun w' hs => ⟨[.bool false], (res_tmp (by kernel_rfl) (.nil)), (), rfl, hs.pick (ts := []) (cs := []) trivial (by decide)⟩)
          replace H := ite_f q36 H
          refine ls_know (c := false) (dec_f q36) 99 (by kernel_rfl) ?_
          refine lofx 27 99 true false ?_
          refine lofx 27 99 true false ?_
          refine lofx 27 99 true false ?_
          refine lofx 27 99 true false ?_
          refine lofx 27 99 true false ?_
          refine lofx 27 99 true false ?_
          refine lofx 27 99 true false ?_
          refine lofx 27 99 true false ?_
          refine lofx 27 99 true false ?_
          refine ls_on (j := 24) (t := 96) (b := false) rfl rfl (by kernel_rfl) (by kernel_rfl) ?_
          refine lv (.bool false) ?_
          refine lv (.bool false) ?_
          refine ls_end ?_
          refine qn_then ?_
          refine cs_false (by kernel_rfl) ?_
          refine cs_skip' ?_
          refine qn_block ?_
          refine qn_then ?_
          refine cs_region (l := [_, _, _]) ?_
          refine lv (.int .i64 x3_4) ?_
          refine lv (.int .i64 (IntKind.wrap .i64 (x3_4 + (1 : Int)))) ?_
          refine lv (.int .i64 (IntKind.wrap .i64 (x3_4 + (1 : Int)))) ?_
          refine ls_end ?_
          refine qn_again k4 (sput s0 0 (some (Ck.var 56 g1 (([Value.int .i64 a0.1] ++ ([Value.int .i64 a0.2.1] ++ ([Value.int .i64 a0.2.2.1] ++ ([Value.int .i64 a0.2.2.2.1] ++ ([Value.string a0.2.2.2.2.1] ++ ([Value.string a0.2.2.2.2.2.1] ++ [Value.slice A0_6 a0.2.2.2.2.2.2.length c0_6])))))))))) (Nat.le_refl _) ⟨_, (IntKind.wrap .i64 (x3_4 + (1 : Int))), fr_next (fr_next (rfl) (by kernel_rfl)) (by kernel_rfl), rfl, H⟩ (sub_put (by exact rfl) (sub_nil _))
        replace H := ite_f q35 H
        refine ls_know (c := true) (congrArg Bool.not (Bool.eq_false_iff.mpr q35)) 96 (by kernel_rfl) ?_
        refine lofx 24 96 false true ?_
        refine lofx 24 96 false true ?_
        refine lofx 24 96 false true ?_
        refine ls_offu (j := 27) (t := 99) (b := true) rfl rfl (by kernel_rfl) (by kernel_rfl) rfl (by kernel_rfl) ?_
        refine ls_offu (j := 27) (t := 99) (b := true) rfl rfl (by kernel_rfl) (by kernel_rfl) rfl (by kernel_rfl) ?_
        refine ls_offu (j := 27) (t := 99) (b := true) rfl rfl (by kernel_rfl) (by kernel_rfl) rfl (by kernel_rfl) ?_
        refine ls_offu (j := 27) (t := 99) (b := true) rfl rfl (by kernel_rfl) (by kernel_rfl) rfl (by kernel_rfl) ?_
        refine ls_offu (j := 27) (t := 99) (b := true) rfl rfl (by kernel_rfl) (by kernel_rfl) rfl (by kernel_rfl) ?_
        refine ls_offu (j := 27) (t := 99) (b := true) rfl rfl (by kernel_rfl) (by kernel_rfl) rfl (by kernel_rfl) ?_
        refine ls_offu (j := 27) (t := 99) (b := true) rfl rfl (by kernel_rfl) (by kernel_rfl) rfl (by kernel_rfl) ?_
        refine ls_offu (j := 27) (t := 99) (b := true) rfl rfl (by kernel_rfl) (by kernel_rfl) rfl (by kernel_rfl) ?_
        refine ls_offu (j := 27) (t := 99) (b := true) rfl rfl (by kernel_rfl) (by kernel_rfl) rfl (by kernel_rfl) ?_
        refine lofx 24 96 false true ?_
        refine lv (.bool true) ?_
        refine ls_end ?_
        refine qn_then ?_
        refine cs_true (by kernel_rfl) ?_
        refine cs_seq ?_
        refine cs_region (l := [_]) ?_
        refine lv (.bool false) ?_
        refine ls_end ?_
        refine qn_then ?_
        refine cs_ret' ?_
        refine qr_block ?_
        refine qr_then ?_
        refine qr_then ?_
        refine qr_block ?_
        refine qr_then ?_
        obtain rfl := Option.some.inj H
        refine qr_res (rs := [_]) rfl (fun w' hs => ⟨[.bool false], (res_tmp (by kernel_rfl) (.nil)), (), rfl, hs.pick (ts := []) (cs := []) trivial (by decide)⟩)
      replace H := ite_f q27 H
      refine ls_know (c := true) (congrArg Bool.not (Bool.eq_false_iff.mpr q27)) 86 (by kernel_rfl) ?_
      refine lofx 14 86 false true ?_
      refine lofx 14 86 false true ?_
      refine lofx 14 86 false true ?_
      refine lofx 14 86 false true ?_
      refine lofx 14 86 false true ?_
      refine lofx 14 86 false true ?_
      refine lofx 14 86 false true ?_
      refine lofx 14 86 false true ?_
      refine lv (.bool true) ?_
      refine lv (.bool true) ?_
      refine lofx 24 96 false true ?_
      refine lofx 24 96 false true ?_
      refine lofx 24 96 false true ?_
      refine ls_offu (j := 27) (t := 99) (b := true) rfl rfl (by kernel_rfl) (by kernel_rfl) rfl (by kernel_rfl) ?_
      refine ls_offu (j := 27) (t := 99) (b := true) rfl rfl (by kernel_rfl) (by kernel_rfl) rfl (by kernel_rfl) ?_
      refine ls_offu (j := 27) (t := 99) (b := true) rfl rfl (by kernel_rfl) (by kernel_rfl) rfl (by kernel_rfl) ?_
      refine ls_offu (j := 27) (t := 99) (b := true) rfl rfl (by kernel_rfl) (by kernel_rfl) rfl (by kernel_rfl) ?_
      refine ls_offu (j := 27) (t := 99) (b := true) rfl rfl (by kernel_rfl) (by kernel_rfl) rfl (by kernel_rfl) ?_
      refine ls_offu (j := 27) (t := 99) (b := true) rfl rfl (by kernel_rfl) (by kernel_rfl) rfl (by kernel_rfl) ?_
      refine ls_offu (j := 27) (t := 99) (b := true) rfl rfl (by kernel_rfl) (by kernel_rfl) rfl (by kernel_rfl) ?_
      refine ls_offu (j := 27) (t := 99) (b := true) rfl rfl (by kernel_rfl) (by kernel_rfl) rfl (by kernel_rfl) ?_
      refine ls_offu (j := 27) (t := 99) (b := true) rfl rfl (by kernel_rfl) (by kernel_rfl) rfl (by kernel_rfl) ?_
      refine lofx 24 96 false true ?_
      refine lv (.bool true) ?_
      refine ls_end ?_
      refine qn_then ?_
      refine cs_true (by kernel_rfl) ?_
      refine cs_seq ?_
      refine cs_region (l := [_]) ?_
      refine lv (.bool false) ?_
      refine ls_end ?_
      refine qn_then ?_
      refine cs_ret' ?_
      refine qr_block ?_
      refine qr_then ?_
      refine qr_then ?_
      refine qr_block ?_
      refine qr_then ?_
      obtain rfl := Option.some.inj H
      refine qr_res (rs := [_]) rfl (fun w' hs => ⟨[.bool false], (res_tmp (by kernel_rfl) (.nil)), (), rfl, hs.pick (ts := []) (cs := []) trivial (by decide)⟩)
    replace H := ite_f q23 H
    refine ls_know (c := true) (congrArg Bool.not (Bool.eq_false_iff.mpr q23)) 80 (by kernel_rfl) ?_
    refine lofx 8 80 false true ?_
    refine lofx 8 80 false true ?_
    refine lofx 8 80 false true ?_
    refine lofx 8 80 false true ?_
    refine lv (.bool true) ?_
    refine lv (.bool true) ?_
    refine lofx 14 86 false true ?_
    refine lofx 14 86 false true ?_
    refine lofx 14 86 false true ?_
    refine lofx 14 86 false true ?_
    refine lofx 14 86 false true ?_
    refine lofx 14 86 false true ?_
    refine lofx 14 86 false true ?_
    refine lofx 14 86 false true ?_
    refine lv (.bool true) ?_
    refine lv (.bool true) ?_
    refine lofx 24 96 false true ?_
    refine lofx 24 96 false true ?_
    refine lofx 24 96 false true ?_
    refine ls_offu (j := 27) (t := 99) (b := true) rfl rfl (by kernel_rfl) (by kernel_rfl) rfl (by kernel_rfl) ?_
    refine ls_offu (j := 27) (t := 99) (b := true) rfl rfl (by kernel_rfl) (by kernel_rfl) rfl (by kernel_rfl) ?_
    refine ls_offu (j := 27) (t := 99) (b := true) rfl rfl (by kernel_rfl) (by kernel_rfl) rfl (by kernel_rfl) ?_
    refine ls_offu (j := 27) (t := 99) (b := true) rfl rfl (by kernel_rfl) (by kernel_rfl) rfl (by kernel_rfl) ?_
    refine ls_offu (j := 27) (t := 99) (b := true) rfl rfl (by kernel_rfl) (by kernel_rfl) rfl (by kernel_rfl) ?_
    refine ls_offu (j := 27) (t := 99) (b := true) rfl rfl (by kernel_rfl) (by kernel_rfl) rfl (by kernel_rfl) ?_
    refine ls_offu (j := 27) (t := 99) (b := true) rfl rfl (by kernel_rfl) (by kernel_rfl) rfl (by kernel_rfl) ?_
    refine ls_offu (j := 27) (t := 99) (b := true) rfl rfl (by kernel_rfl) (by kernel_rfl) rfl (by kernel_rfl) ?_
    refine ls_offu (j := 27) (t := 99) (b := true) rfl rfl (by kernel_rfl) (by kernel_rfl) rfl (by kernel_rfl) ?_
    refine lofx 24 96 false true ?_
    refine lv (.bool true) ?_
    refine ls_end ?_
    refine qn_then ?_
    refine cs_true (by kernel_rfl) ?_
    refine cs_seq ?_
    refine cs_region (l := [_]) ?_
    refine lv (.bool false) ?_
    refine ls_end ?_
    refine qn_then ?_
    refine cs_ret' ?_
    refine qr_block ?_
    refine qr_then ?_
    refine qr_then ?_
    refine qr_block ?_
    refine qr_then ?_
    obtain rfl := Option.some.inj H
    refine qr_res (rs := [_]) rfl (fun w' hs => ⟨[.bool false], (res_tmp (by kernel_rfl) (.nil)), (), rfl, hs.pick (ts := []) (cs := []) trivial (by decide)⟩)
  rintro f S ⟨fr3, rfl, rfl, H⟩
  replace H : ((if (Int.tmod a0.2.1 (2 : Int)) = (0 : Int) then (if a0.2.2.1 = (0 : Int) then (if (a0.2.2.2.2.1.toList == (⟨#[]⟩ : ByteArray).toList) = true then (if (a0.2.2.2.2.2.1.toList == (⟨#[]⟩ : ByteArray).toList) = true then (if (a0.2.2.2.2.2.2.length : Int) > (0 : Int) then some false else (shadowboxref36_bytes.f k (a0.1, a0.2.1, a0.2.2.1, a0.2.2.2.1, a0.2.2.2.2.1, a0.2.2.2.2.2.1, a0.2.2.2.2.2.2)).bind fun t7 => some (decide ((t7.length : Int) ≤ (400 : Int)))) else some false) else some false) else some false) else (shadowboxref36_bytes.f k (a0.1, a0.2.1, a0.2.2.1, a0.2.2.2.1, a0.2.2.2.2.1, a0.2.2.2.2.2.1, a0.2.2.2.2.2.2)).bind fun t10 => some (decide ((t10.length : Int) ≤ (400 : Int))))) = some r := H
  refine cs_seq ?_
  refine cs_seq ?_
  refine cs_region (l := [_, _, _, _, _, _, _, _, _, _, _, _, _, _, _, _, _, _, _, _, _, _, _, _, _]) ?_
  refine lv (.pointer (some ⟨g1, (0 + 1), none⟩)) ?_
  refine ls_load (a0 := ⟨g1, (0 + 1), none⟩) (v := .int .i64 a0.2.1) (de := (TypeDesc.int .i64)) rfl rfl (by kernel_rfl) rfl (by kernel_rfl) (by kernel_rfl) (by kernel_rfl) (fun w hs => (hs.var (k := 0) (by exact rfl) (Sub4.trans (Sub4.all _) (Sub4.skip (n := 1) (len1 _) (Sub4.head _ _))))) ?_
  refine lv (.int .i64 (Int.tmod a0.2.1 (2 : Int))) ?_
  refine lv (.bool (decide ((Int.tmod a0.2.1 (2 : Int)) = (0 : Int)))) ?_
  refine lv (.bool (decide ((Int.tmod a0.2.1 (2 : Int)) = (0 : Int)))) ?_
  by_cases q2 : (Int.tmod a0.2.1 (2 : Int)) = (0 : Int)
  · replace H := ite_t q2 H
    refine ls_know (c := true) (dec_t q2) 115 (by kernel_rfl) ?_
    refine ls_on (j := 4) (t := 115) (b := true) rfl rfl (by kernel_rfl) (by kernel_rfl) ?_
    refine lv (.pointer (some ⟨g1, (0 + 2), none⟩)) ?_
    refine ls_on (j := 4) (t := 115) (b := true) rfl rfl (by kernel_rfl) (by kernel_rfl) ?_
    refine ls_load (a0 := ⟨g1, (0 + 2), none⟩) (v := .int .i64 a0.2.2.1) (de := (TypeDesc.int .i64)) rfl rfl (by kernel_rfl) rfl (by kernel_rfl) (by kernel_rfl) (by kernel_rfl) (fun w hs => (hs.var (k := 0) (by exact rfl) (Sub4.trans (Sub4.all _) (Sub4.skip (n := 1) (len1 _) (Sub4.skip (n := 1) (len1 _) (Sub4.head _ _)))))) ?_
    refine ls_on (j := 4) (t := 115) (b := true) rfl rfl (by kernel_rfl) (by kernel_rfl) ?_
    refine lv (.bool (!decide (a0.2.2.1 = (0 : Int)))) ?_
    refine ls_on (j := 4) (t := 115) (b := true) rfl rfl (by kernel_rfl) (by kernel_rfl) ?_
    refine lv (.bool (!decide (a0.2.2.1 = (0 : Int)))) ?_
    by_cases q3 : a0.2.2.1 = (0 : Int)
    · replace H := ite_t q3 H
      refine ls_know (c := false) (congrArg Bool.not (dec_t q3)) 119 (by kernel_rfl) ?_
      refine ls_on (j := 8) (t := 119) (b := false) rfl rfl (by kernel_rfl) (by kernel_rfl) ?_
      refine lv (.pointer (some ⟨g1, (0 + 4), none⟩)) ?_
      refine ls_on (j := 8) (t := 119) (b := false) rfl rfl (by kernel_rfl) (by kernel_rfl) ?_
      refine ls_load (a0 := ⟨g1, (0 + 4), none⟩) (v := .string a0.2.2.2.2.1) (de := TypeDesc.string) rfl rfl (by kernel_rfl) rfl (by kernel_rfl) (by kernel_rfl) (by kernel_rfl) (fun w hs => (hs.var (k := 0) (by exact rfl) (Sub4.trans (Sub4.all _) (Sub4.skip (n := 1) (len1 _) (Sub4.skip (n := 1) (len1 _) (Sub4.skip (n := 1) (len1 _) (Sub4.skip (n := 1) (len1 _) (Sub4.head _ _)))))))) ?_
      refine ls_on (j := 8) (t := 119) (b := false) rfl rfl (by kernel_rfl) (by kernel_rfl) ?_
      refine lv (.bool (!(a0.2.2.2.2.1.toList == (⟨#[]⟩ : ByteArray).toList))) ?_
      refine ls_on (j := 4) (t := 115) (b := true) rfl rfl (by kernel_rfl) (by kernel_rfl) ?_
      refine lv (.bool (!(a0.2.2.2.2.1.toList == (⟨#[]⟩ : ByteArray).toList))) ?_
      refine ls_on (j := 4) (t := 115) (b := true) rfl rfl (by kernel_rfl) (by kernel_rfl) ?_
      refine lv (.bool (!(a0.2.2.2.2.1.toList == (⟨#[]⟩ : ByteArray).toList))) ?_
      by_cases q4 : (a0.2.2.2.2.1.toList == (⟨#[]⟩ : ByteArray).toList) = true
      · replace H := ite_t q4 H
        refine ls_know (c := false) (congrArg Bool.not (q4)) 124 (by kernel_rfl) ?_
        refine ls_on (j := 13) (t := 124) (b := false) rfl rfl (by kernel_rfl) (by kernel_rfl) ?_
        refine lv (.pointer (some ⟨g1, (0 + 5), none⟩)) ?_
        refine ls_on (j := 13) (t := 124) (b := false) rfl rfl (by kernel_rfl) (by kernel_rfl) ?_
        refine ls_load (a0 := ⟨g1, (0 + 5), none⟩) (v := .string a0.2.2.2.2.2.1) (de := TypeDesc.string) rfl rfl (by kernel_rfl) rfl (by kernel_rfl) (by kernel_rfl) (by kernel_rfl) (fun w hs => (hs.var (k := 0) (by exact rfl) (Sub4.trans (Sub4.all _) (Sub4.skip (n := 1) (len1 _) (Sub4.skip (n := 1) (len1 _) (Sub4.skip (n := 1) (len1 _) (Sub4.skip (n := 1) (len1 _) (Sub4.skip (n := 1) (len1 _) (Sub4.head _ _))))))))) ?_
        refine ls_on (j := 13) (t := 124) (b := false) rfl rfl (by kernel_rfl) (by kernel_rfl) ?_
        refine lv (.bool (!(a0.2.2.2.2.2.1.toList == (⟨#[]⟩ : ByteArray).toList))) ?_
        refine ls_on (j := 4) (t := 115) (b := true) rfl rfl (by kernel_rfl) (by kernel_rfl) ?_
        refine lv (.bool (!(a0.2.2.2.2.2.1.toList == (⟨#[]⟩ : ByteArray).toList))) ?_
        refine ls_on (j := 4) (t := 115) (b := true) rfl rfl (by kernel_rfl) (by kernel_rfl) ?_
        refine lv (.bool (!(a0.2.2.2.2.2.1.toList == (⟨#[]⟩ : ByteArray).toList))) ?_
        by_cases q5 : (a0.2.2.2.2.2.1.toList == (⟨#[]⟩ : ByteArray).toList) = true
        · replace H := ite_t q5 H
          refine ls_know (c := false) (congrArg Bool.not (q5)) 129 (by kernel_rfl) ?_
          refine ls_on (j := 18) (t := 129) (b := false) rfl rfl (by kernel_rfl) (by kernel_rfl) ?_
          refine lv (.pointer (some ⟨g1, (0 + 6), none⟩)) ?_
          refine ls_on (j := 18) (t := 129) (b := false) rfl rfl (by kernel_rfl) (by kernel_rfl) ?_
          refine ls_load (a0 := ⟨g1, (0 + 6), none⟩) (v := .slice A0_6 a0.2.2.2.2.2.2.length c0_6) (de := (TypeDesc.slice 67)) rfl rfl (by kernel_rfl) rfl (by kernel_rfl) (by kernel_rfl) (by kernel_rfl) (fun w hs => (hs.var (k := 0) (by exact rfl) (Sub4.trans (Sub4.all _) (Sub4.skip (n := 1) (len1 _) (Sub4.skip (n := 1) (len1 _) (Sub4.skip (n := 1) (len1 _) (Sub4.skip (n := 1) (len1 _) (Sub4.skip (n := 1) (len1 _) (Sub4.skip (n := 1) (len1 _) (Sub4.all _)))))))))) ?_
          refine ls_on (j := 18) (t := 129) (b := false) rfl rfl (by kernel_rfl) (by kernel_rfl) ?_
          refine lv (.int .i64 (a0.2.2.2.2.2.2.length : Int)) ?_
          refine ls_on (j := 18) (t := 129) (b := false) rfl rfl (by kernel_rfl) (by kernel_rfl) ?_
          refine lv (.bool (decide ((a0.2.2.2.2.2.2.length : Int) > (0 : Int)))) ?_
          refine ls_on (j := 4) (t := 115) (b := true) rfl rfl (by kernel_rfl) (by kernel_rfl) ?_
          refine lv (.bool (decide ((a0.2.2.2.2.2.2.length : Int) > (0 : Int)))) ?_
          refine lv (.bool (decide ((a0.2.2.2.2.2.2.length : Int) > (0 : Int)))) ?_
          refine ls_end ?_
          refine qn_then ?_
          by_cases q6 : (a0.2.2.2.2.2.2.length : Int) > (0 : Int)
          · replace H := ite_t q6 H
            refine cs_know (c := true) (dec_t q6) 135 (by kernel_rfl) ?_
            refine cs_true (by kernel_rfl) ?_
            refine cs_seq ?_
            refine cs_region (l := [_]) ?_
            refine lv (.bool false) ?_
            refine ls_end ?_
            refine qn_then ?_
            refine cs_ret' ?_
            refine qr_then ?_
            obtain rfl := Option.some.inj H
            refine qr_res (rs := [_]) rfl (fun w' hs => ⟨[.bool false], (res_tmp (by kernel_rfl) (.nil)), (), rfl, hs.pick (ts := []) (cs := []) trivial (by decide)⟩)
          replace H := ite_f q6 H
          refine cs_know (c := false) (dec_f q6) 135 (by kernel_rfl) ?_
          refine cs_false (by kernel_rfl) ?_
          refine cs_skip' ?_
          refine qn_then ?_
          refine cs_seq ?_
          refine cs_region (l := [_, _, _, _, _]) ?_
          refine ls_loadagg (a := ⟨g1, 0, none⟩) (sub := ([Value.int .i64 a0.1] ++ ([Value.int .i64 a0.2.1] ++ ([Value.int .i64 a0.2.2.1] ++ ([Value.int .i64 a0.2.2.2.1] ++ ([Value.string a0.2.2.2.2.1] ++ ([Value.string a0.2.2.2.2.2.1] ++ [Value.slice A0_6 a0.2.2.2.2.2.2.length c0_6]))))))) rfl rfl (by kernel_rfl) rfl (by kernel_rfl) (by kernel_rfl) (by kernel_rfl) (len_app (len1 _) (len_app (len1 _) (len_app (len1 _) (len_app (len1 _) (len_app (len1 _) (len_app (len1 _) (len1 _))))))) (fun w hs => (hs.vars (k := 0) (by exact rfl) (Sub4.all _))) ?_
          obtain ⟨t7, hc8, H⟩ := bind_some H
          refine ls_callb (fid := 42) (vals := #[.agg ⟨([Value.int .i64 a0.1] ++ ([Value.int .i64 a0.2.1] ++ ([Value.int .i64 a0.2.2.1] ++ ([Value.int .i64 a0.2.2.2.1] ++ ([Value.string a0.2.2.2.2.1] ++ ([Value.string a0.2.2.2.2.2.1] ++ [Value.slice A0_6 a0.2.2.2.2.2.2.length c0_6]))))))⟩]) (X := (Option Addr × Nat)) (fun x => .slice x.1 t7.length x.2) (fun x => stl [Ck.ro (Ec.int 5 .u8) x.1 x.2 t7]) [] [] [] [] 1 rfl rfl (by kernel_rfl) (fun w => by kernel_rfl) trivial trivial (by decide) (fun w hs hb => shadowboxref36_bytes.calls k A0_6 c0_6 (a0.1, a0.2.1, a0.2.2.1, a0.2.2.2.1, a0.2.2.2.2.1, a0.2.2.2.2.2.1, a0.2.2.2.2.2.2) t7 (lent b w [] []) hb (hs.ro R0_6 _ _) C0_6 hc8) ?_
          intro x9
          refine lv (.int .i64 (t7.length : Int)) ?_
          refine lv (.bool (decide ((t7.length : Int) ≤ (400 : Int)))) ?_
          refine lv (.bool (decide ((t7.length : Int) ≤ (400 : Int)))) ?_
          refine ls_end ?_
          refine qn_then ?_
          refine cs_ret' ?_
          obtain rfl := Option.some.inj H
          refine qr_res (rs := [_]) rfl (fun w' hs => ⟨[.bool (decide ((t7.length : Int) ≤ (400 : Int)))], (res_tmp (by kernel_rfl) (.nil)), (), rfl, hs.pick (ts := []) (cs := []) trivial (by decide)⟩)
        replace H := ite_f q5 H
        refine ls_know (c := true) (congrArg Bool.not (Bool.eq_false_iff.mpr q5)) 129 (by kernel_rfl) ?_
        refine lofx 18 129 false true ?_
        refine lofx 18 129 false true ?_
        refine lofx 18 129 false true ?_
        refine lofx 18 129 false true ?_
        refine ls_on (j := 4) (t := 115) (b := true) rfl rfl (by kernel_rfl) (by kernel_rfl) ?_
        refine lv (.bool true) ?_
        refine lv (.bool true) ?_
        refine ls_end ?_
        refine qn_then ?_
        refine cs_true (by kernel_rfl) ?_
        refine cs_seq ?_
        refine cs_region (l := [_]) ?_
        refine lv (.bool false) ?_
        refine ls_end ?_
        refine qn_then ?_
        refine cs_ret' ?_
        refine qr_then ?_
        obtain rfl := Option.some.inj H
        refine qr_res (rs := [_]) rfl (fun w' hs => ⟨[.bool false], (res_tmp (by kernel_rfl) (.nil)), (), rfl, hs.pick (ts := []) (cs := []) trivial (by decide)⟩)
      replace H := ite_f q4 H
      refine ls_know (c := true) (congrArg Bool.not (Bool.eq_false_iff.mpr q4)) 124 (by kernel_rfl) ?_
      refine lofx 13 124 false true ?_
      refine lofx 13 124 false true ?_
      refine lofx 13 124 false true ?_
      refine ls_on (j := 4) (t := 115) (b := true) rfl rfl (by kernel_rfl) (by kernel_rfl) ?_
      refine lv (.bool true) ?_
      refine ls_on (j := 4) (t := 115) (b := true) rfl rfl (by kernel_rfl) (by kernel_rfl) ?_
      refine lv (.bool true) ?_
      refine lofx 18 129 false true ?_
      refine lofx 18 129 false true ?_
      refine lofx 18 129 false true ?_
      refine lofx 18 129 false true ?_
      refine ls_on (j := 4) (t := 115) (b := true) rfl rfl (by kernel_rfl) (by kernel_rfl) ?_
      refine lv (.bool true) ?_
      refine lv (.bool true) ?_
      refine ls_end ?_
      refine qn_then ?_
      refine cs_true (by kernel_rfl) ?_
      refine cs_seq ?_
      refine cs_region (l := [_]) ?_
      refine lv (.bool false) ?_
      refine ls_end ?_
      refine qn_then ?_
      refine cs_ret' ?_
      refine qr_then ?_
      obtain rfl := Option.some.inj H
      refine qr_res (rs := [_]) rfl (fun w' hs => ⟨[.bool false], (res_tmp (by kernel_rfl) (.nil)), (), rfl, hs.pick (ts := []) (cs := []) trivial (by decide)⟩)
    replace H := ite_f q3 H
    refine ls_know (c := true) (congrArg Bool.not (dec_f q3)) 119 (by kernel_rfl) ?_
    refine lofx 8 119 false true ?_
    refine lofx 8 119 false true ?_
    refine lofx 8 119 false true ?_
    refine ls_on (j := 4) (t := 115) (b := true) rfl rfl (by kernel_rfl) (by kernel_rfl) ?_
    refine lv (.bool true) ?_
    refine ls_on (j := 4) (t := 115) (b := true) rfl rfl (by kernel_rfl) (by kernel_rfl) ?_
    refine lv (.bool true) ?_
    refine lofx 13 124 false true ?_
    refine lofx 13 124 false true ?_
    refine lofx 13 124 false true ?_
    refine ls_on (j := 4) (t := 115) (b := true) rfl rfl (by kernel_rfl) (by kernel_rfl) ?_
    refine lv (.bool true) ?_
    refine ls_on (j := 4) (t := 115) (b := true) rfl rfl (by kernel_rfl) (by kernel_rfl) ?_
    refine lv (.bool true) ?_
    refine lofx 18 129 false true ?_
    refine lofx 18 129 false true ?_
    refine lofx 18 129 false true ?_
    refine lofx 18 129 false true ?_
    refine ls_on (j := 4) (t := 115) (b := true) rfl rfl (by kernel_rfl) (by kernel_rfl) ?_
    refine lv (.bool true) ?_
    refine lv (.bool true) ?_
    refine ls_end ?_
    refine qn_then ?_
    refine cs_true (by kernel_rfl) ?_
    refine cs_seq ?_
    refine cs_region (l := [_]) ?_
    refine lv (.bool false) ?_
    refine ls_end ?_
    refine qn_then ?_
    refine cs_ret' ?_
    refine qr_then ?_
    obtain rfl := Option.some.inj H
    refine qr_res (rs := [_]) rfl (fun w' hs => ⟨[.bool false], (res_tmp (by kernel_rfl) (.nil)), (), rfl, hs.pick (ts := []) (cs := []) trivial (by decide)⟩)
  replace H := ite_f q2 H
  refine ls_know (c := false) (dec_f q2) 115 (by kernel_rfl) ?_
  refine lofx 4 115 true false ?_
  refine lofx 4 115 true false ?_
  refine lofx 4 115 true false ?_
  refine lofx 4 115 true false ?_
  refine ls_offu (j := 8) (t := 119) (b := false) rfl rfl (by kernel_rfl) (by kernel_rfl) rfl (by kernel_rfl) ?_
  refine ls_offu (j := 8) (t := 119) (b := false) rfl rfl (by kernel_rfl) (by kernel_rfl) rfl (by kernel_rfl) ?_
  refine ls_offu (j := 8) (t := 119) (b := false) rfl rfl (by kernel_rfl) (by kernel_rfl) rfl (by kernel_rfl) ?_
  refine lofx 4 115 true false ?_
  refine lofx 4 115 true false ?_
  refine ls_offu (j := 13) (t := 124) (b := false) rfl rfl (by kernel_rfl) (by kernel_rfl) rfl (by kernel_rfl) ?_
  refine ls_offu (j := 13) (t := 124) (b := false) rfl rfl (by kernel_rfl) (by kernel_rfl) rfl (by kernel_rfl) ?_
  refine ls_offu (j := 13) (t := 124) (b := false) rfl rfl (by kernel_rfl) (by kernel_rfl) rfl (by kernel_rfl) ?_
  refine lofx 4 115 true false ?_
  refine lofx 4 115 true false ?_
  refine ls_offu (j := 18) (t := 129) (b := false) rfl rfl (by kernel_rfl) (by kernel_rfl) rfl (by kernel_rfl) ?_
  refine ls_offu (j := 18) (t := 129) (b := false) rfl rfl (by kernel_rfl) (by kernel_rfl) rfl (by kernel_rfl) ?_
  refine ls_offu (j := 18) (t := 129) (b := false) rfl rfl (by kernel_rfl) (by kernel_rfl) rfl (by kernel_rfl) ?_
  refine ls_offu (j := 18) (t := 129) (b := false) rfl rfl (by kernel_rfl) (by kernel_rfl) rfl (by kernel_rfl) ?_
  refine lofx 4 115 true false ?_
  refine lv (.bool false) ?_
  refine ls_end ?_
  refine qn_then ?_
  refine cs_false (by kernel_rfl) ?_
  refine cs_skip' ?_
  refine qn_then ?_
  refine cs_seq ?_
  refine cs_region (l := [_, _, _, _, _]) ?_
  refine ls_loadagg (a := ⟨g1, 0, none⟩) (sub := ([Value.int .i64 a0.1] ++ ([Value.int .i64 a0.2.1] ++ ([Value.int .i64 a0.2.2.1] ++ ([Value.int .i64 a0.2.2.2.1] ++ ([Value.string a0.2.2.2.2.1] ++ ([Value.string a0.2.2.2.2.2.1] ++ [Value.slice A0_6 a0.2.2.2.2.2.2.length c0_6]))))))) rfl rfl (by kernel_rfl) rfl (by kernel_rfl) (by kernel_rfl) (by kernel_rfl) (len_app (len1 _) (len_app (len1 _) (len_app (len1 _) (len_app (len1 _) (len_app (len1 _) (len_app (len1 _) (len1 _))))))) (fun w hs => (hs.vars (k := 0) (by exact rfl) (Sub4.all _))) ?_
  obtain ⟨t10, hc11, H⟩ := bind_some H
  refine ls_callb (fid := 42) (vals := #[.agg ⟨([Value.int .i64 a0.1] ++ ([Value.int .i64 a0.2.1] ++ ([Value.int .i64 a0.2.2.1] ++ ([Value.int .i64 a0.2.2.2.1] ++ ([Value.string a0.2.2.2.2.1] ++ ([Value.string a0.2.2.2.2.2.1] ++ [Value.slice A0_6 a0.2.2.2.2.2.2.length c0_6]))))))⟩]) (X := (Option Addr × Nat)) (fun x => .slice x.1 t10.length x.2) (fun x => stl [Ck.ro (Ec.int 5 .u8) x.1 x.2 t10]) [] [] [] [] 1 rfl rfl (by kernel_rfl) (fun w => by kernel_rfl) trivial trivial (by decide) (fun w hs hb => shadowboxref36_bytes.calls k A0_6 c0_6 (a0.1, a0.2.1, a0.2.2.1, a0.2.2.2.1, a0.2.2.2.2.1, a0.2.2.2.2.2.1, a0.2.2.2.2.2.2) t10 (lent b w [] []) hb (hs.ro R0_6 _ _) C0_6 hc11) ?_
  intro x12
  refine lv (.int .i64 (t10.length : Int)) ?_
  refine lv (.bool (decide ((t10.length : Int) ≤ (400 : Int)))) ?_
  refine lv (.bool (decide ((t10.length : Int) ≤ (400 : Int)))) ?_
  refine ls_end ?_
  refine qn_then ?_
  refine cs_ret' ?_
  obtain rfl := Option.some.inj H
  refine qr_res (rs := [_]) rfl (fun w' hs => ⟨[.bool (decide ((t10.length : Int) ≤ (400 : Int)))], (res_tmp (by kernel_rfl) (.nil)), (), rfl, hs.pick (ts := []) (cs := []) trivial (by decide)⟩)

/-! ### shadowbox/shadowboxref36.Put: function 22 -/
def shadowboxref36_Put.f (k : Nat) (a0 : (Int × Int × Int × Int × ByteArray × ByteArray × (List (ByteArray × ByteArray)))) : Option ((List Int) × Int) :=
  (shadowboxref36_Right.f k (a0.1, a0.2.1, a0.2.2.1, a0.2.2.2.1, a0.2.2.2.2.1, a0.2.2.2.2.2.1, a0.2.2.2.2.2.2)).bind fun t2 => (if t2 = true then (shadowboxref36_bytes.f k (a0.1, a0.2.1, a0.2.2.1, a0.2.2.2.1, a0.2.2.2.2.1, a0.2.2.2.2.2.1, a0.2.2.2.2.2.2)).bind fun t6 => some (t6, (0 : Int)) else some (([] : List Int), (2 : Int)))
set_option maxRecDepth 100000 in
set_option maxHeartbeats 4000000 in
theorem shadowboxref36_Put.calls (k : Nat) (A0_6 : Option Addr) (c0_6 : Nat) (a0 : (Int × Int × Int × Int × ByteArray × ByteArray × (List (ByteArray × ByteArray)))) (r : (List Int) × Int) (b : Bs) (hs0 : St b (stl []) b.w) (R0_6 : Ro b A0_6 (em T67 a0.2.2.2.2.2.2)) (C0_6 : a0.2.2.2.2.2.2.length ≤ c0_6) (H : shadowboxref36_Put.f k a0 = some r) :
    Calls Try.prog 22 #[.agg ⟨([Value.int .i64 a0.1] ++ ([Value.int .i64 a0.2.1] ++ ([Value.int .i64 a0.2.2.1] ++ ([Value.int .i64 a0.2.2.2.1] ++ ([Value.string a0.2.2.2.2.1] ++ ([Value.string a0.2.2.2.2.2.1] ++ [Value.slice A0_6 a0.2.2.2.2.2.2.length c0_6]))))))⟩] b.w fun e w' => ∃ x : (Option Addr × Nat), e = .returned (.tuple #[.slice x.1 r.1.length x.2, .int .i64 r.2]) ∧ St b (stl [Ck.ro (Ec.int 5 .u8) x.1 x.2 r.1]) w' := by
  unfold shadowboxref36_Put.f at H
  refine enterb (n := 9) Try.func22 rfl (by kernel_rfl) (by kernel_rfl) hs0 ?_
  refine cs_sub (s0) (sub_nil _) ?_
  refine cs_seq ?_
  refine cs_region (l := [_, _, _]) ?_
  refine ls_new rfl rfl (by kernel_rfl) 0 (fun g => .pointer (some ⟨g, 0, none⟩)) (.cells ⟨([Value.int .i64 a0.1] ++ ([Value.int .i64 a0.2.1] ++ ([Value.int .i64 a0.2.2.1] ++ ([Value.int .i64 a0.2.2.2.1] ++ ([Value.string a0.2.2.2.2.1] ++ ([Value.string a0.2.2.2.2.2.1] ++ [Value.slice A0_6 a0.2.2.2.2.2.2.length c0_6]))))))⟩ 56) (fun w => by kernel_rfl) ?_
  intro g1
  refine lv (.slice none 0 0) ?_
  refine lv (.int .i64 (0 : Int)) ?_
  refine ls_end ?_
  refine qn_then ?_
  refine cs_seq ?_
  refine cs_seq ?_
  refine cs_region (l := [_, _, _]) ?_
  refine ls_loadagg (a := ⟨g1, 0, none⟩) (sub := ([Value.int .i64 a0.1] ++ ([Value.int .i64 a0.2.1] ++ ([Value.int .i64 a0.2.2.1] ++ ([Value.int .i64 a0.2.2.2.1] ++ ([Value.string a0.2.2.2.2.1] ++ ([Value.string a0.2.2.2.2.2.1] ++ [Value.slice A0_6 a0.2.2.2.2.2.2.length c0_6]))))))) rfl rfl (by kernel_rfl) rfl (by kernel_rfl) (by kernel_rfl) (by kernel_rfl) (len_app (len1 _) (len_app (len1 _) (len_app (len1 _) (len_app (len1 _) (len_app (len1 _) (len_app (len1 _) (len1 _))))))) (fun w hs => (hs.vars (k := 0) (by exact rfl) (Sub4.all _))) ?_
  obtain ⟨t2, hc3, H⟩ := bind_some H
  refine ls_callb (fid := 26) (vals := #[.agg ⟨([Value.int .i64 a0.1] ++ ([Value.int .i64 a0.2.1] ++ ([Value.int .i64 a0.2.2.1] ++ ([Value.int .i64 a0.2.2.2.1] ++ ([Value.string a0.2.2.2.2.1] ++ ([Value.string a0.2.2.2.2.2.1] ++ [Value.slice A0_6 a0.2.2.2.2.2.2.length c0_6]))))))⟩]) (X := Unit) (fun x => .bool t2) (fun x => stl []) [] [] [] [] 1 rfl rfl (by kernel_rfl) (fun w => by kernel_rfl) trivial trivial (by decide) (fun w hs hb => shadowboxref36_Right.calls k A0_6 c0_6 (a0.1, a0.2.1, a0.2.2.1, a0.2.2.2.1, a0.2.2.2.2.1, a0.2.2.2.2.2.1, a0.2.2.2.2.2.2) t2 (lent b w [] []) hb (hs.ro R0_6 _ _) C0_6 hc3) ?_
  intro x4
  refine lv (.bool (!t2)) ?_
  refine ls_end ?_
  refine qn_then ?_
  by_cases q5 : t2 = true
  · replace H := ite_t q5 H
    refine cs_know (c := false) (congrArg Bool.not (q5)) 6 (by kernel_rfl) ?_
    refine cs_false (by kernel_rfl) ?_
    refine cs_skip' ?_
    refine qn_then ?_
    refine cs_seq ?_
    refine cs_region (l := [_, _, _, _]) ?_
    refine ls_loadagg (a := ⟨g1, 0, none⟩) (sub := ([Value.int .i64 a0.1] ++ ([Value.int .i64 a0.2.1] ++ ([Value.int .i64 a0.2.2.1] ++ ([Value.int .i64 a0.2.2.2.1] ++ ([Value.string a0.2.2.2.2.1] ++ ([Value.string a0.2.2.2.2.2.1] ++ [Value.slice A0_6 a0.2.2.2.2.2.2.length c0_6]))))))) rfl rfl (by kernel_rfl) rfl (by kernel_rfl) (by kernel_rfl) (by kernel_rfl) (len_app (len1 _) (len_app (len1 _) (len_app (len1 _) (len_app (len1 _) (len_app (len1 _) (len_app (len1 _) (len1 _))))))) (fun w hs => (hs.vars (k := 0) (by exact rfl) (Sub4.all _))) ?_
    obtain ⟨t6, hc7, H⟩ := bind_some H
    refine ls_callb (fid := 42) (vals := #[.agg ⟨([Value.int .i64 a0.1] ++ ([Value.int .i64 a0.2.1] ++ ([Value.int .i64 a0.2.2.1] ++ ([Value.int .i64 a0.2.2.2.1] ++ ([Value.string a0.2.2.2.2.1] ++ ([Value.string a0.2.2.2.2.2.1] ++ [Value.slice A0_6 a0.2.2.2.2.2.2.length c0_6]))))))⟩]) (X := (Option Addr × Nat)) (fun x => .slice x.1 t6.length x.2) (fun x => stl [Ck.ro (Ec.int 5 .u8) x.1 x.2 t6]) [] [] [] [] 1 rfl rfl (by kernel_rfl) (fun w => by kernel_rfl) trivial trivial (by decide) (fun w hs hb => shadowboxref36_bytes.calls k A0_6 c0_6 (a0.1, a0.2.1, a0.2.2.1, a0.2.2.2.1, a0.2.2.2.2.1, a0.2.2.2.2.2.1, a0.2.2.2.2.2.2) t6 (lent b w [] []) hb (hs.ro R0_6 _ _) C0_6 hc7) ?_
    intro x8
    refine lv (.slice x8.1 t6.length x8.2) ?_
    refine lv (.int .i64 (0 : Int)) ?_
    refine ls_end ?_
    refine qn_then ?_
    refine cs_ret' ?_
    obtain rfl := Option.some.inj H
    refine qr_res (rs := [_, _]) rfl (fun w' hs => ⟨[.slice x8.1 t6.length x8.2, .int .i64 (0 : Int)], (res_tmp (by kernel_rfl) (res_tmp (by kernel_rfl) (.nil))), (x8.1, x8.2), rfl, hs.pick (ts := [1]) (cs := [Ck.ro (Ec.int 5 .u8) x8.1 x8.2 t6]) ⟨by exact rfl, trivial⟩ (by decide)⟩)
  replace H := ite_f q5 H
  refine cs_know (c := true) (congrArg Bool.not (Bool.eq_false_iff.mpr q5)) 6 (by kernel_rfl) ?_
  refine cs_true (by kernel_rfl) ?_
  refine cs_seq ?_
  refine cs_region (l := [_, _]) ?_
  refine lv (.slice none 0 0) ?_
  refine lv (.int .i64 (2 : Int)) ?_
  refine ls_end ?_
  refine qn_then ?_
  refine cs_ret' ?_
  refine qr_then ?_
  refine qr_nilro 1 (Ec.int 5 .u8) ?_
  obtain rfl := Option.some.inj H
  refine qr_res (rs := [_, _]) rfl (fun w' hs => ⟨[.slice none 0 0, .int .i64 (2 : Int)], (res_tmp (by kernel_rfl) (res_tmp (by kernel_rfl) (.nil))), (none, 0), rfl, hs.pick (ts := [1]) (cs := [Ck.ro (Ec.int 5 .u8) none 0 ([] : List Int)]) ⟨by exact rfl, trivial⟩ (by decide)⟩)

/-! ### bytes.Equal: function 35 -/
def bytes_Equal.f (k : Nat) (l0 : List Int) (l1 : List Int) : Option (Bool) :=
  some ((strOfNums l0).toList == (strOfNums l1).toList)
set_option maxRecDepth 100000 in
set_option maxHeartbeats 4000000 in
theorem bytes_Equal.calls (k : Nat) (A0 : Option Addr) (c0 : Nat) (l0 : List Int) (A1 : Option Addr) (c1 : Nat) (l1 : List Int) (r : Bool) (b : Bs) (hs0 : St b (stl []) b.w) (R0 : Ro b A0 (em (Ec.int 5 .u8) l0)) (C0 : l0.length ≤ c0) (R1 : Ro b A1 (em (Ec.int 5 .u8) l1)) (C1 : l1.length ≤ c1) (H : bytes_Equal.f k l0 l1 = some r) :
    Calls Try.prog 35 #[.slice A0 l0.length c0, .slice A1 l1.length c1] b.w fun e w' => ∃ x : Unit, e = .returned (.bool r) ∧ St b (stl []) w' := by
  unfold bytes_Equal.f at H
  refine enterb (n := 10) Try.func35 rfl (by kernel_rfl) (by kernel_rfl) hs0 ?_
  refine cs_sub (s0) (sub_nil _) ?_
  refine cs_seq ?_
  refine cs_region (l := [_]) ?_
  refine lv (.bool false) ?_
  refine ls_end ?_
  refine qn_then ?_
  refine cs_seq ?_
  refine cs_region (l := [_, _, _, _, _, _]) ?_
  refine lv (.slice A0 l0.length c0) ?_
  refine ls_str (A := A0) (c := c0) (e := 5) (l := l0) rfl rfl (by kernel_rfl) rfl (by kernel_rfl) (by kernel_rfl) (by kernel_rfl) (by kernel_rfl) (fun w hs => (hs.old R0)) ?_
  refine lv (.slice A1 l1.length c1) ?_
  refine ls_str (A := A1) (c := c1) (e := 5) (l := l1) rfl rfl (by kernel_rfl) rfl (by kernel_rfl) (by kernel_rfl) (by kernel_rfl) (by kernel_rfl) (fun w hs => (hs.old R1)) ?_
  refine lv (.bool ((strOfNums l0).toList == (strOfNums l1).toList)) ?_
  refine lv (.bool ((strOfNums l0).toList == (strOfNums l1).toList)) ?_
  refine ls_end ?_
  refine qn_then ?_
  refine cs_ret' ?_
  obtain rfl := Option.some.inj H
  refine qr_res (rs := [_]) rfl (fun w' hs => ⟨[.bool ((strOfNums l0).toList == (strOfNums l1).toList)], (res_tmp (by kernel_rfl) (.nil)), (), rfl, hs.pick (ts := []) (cs := []) trivial (by decide)⟩)

/-! ### shadowbox/codec.ReadShort$1: function 86 -/
def codec_ReadShort_1.f (k : Nat) (a0 : Int) : Option (Int × Int × Int) :=
  some ((0 : Int), (0 : Int), a0)
set_option maxRecDepth 100000 in
set_option maxHeartbeats 4000000 in
theorem codec_ReadShort_1.calls (k : Nat) (a0 : Int) (r : Int × Int × Int) (b : Bs) (hs0 : St b (stl []) b.w) (H : codec_ReadShort_1.f k a0 = some r) :
    Calls Try.prog 86 #[.int .i64 a0] b.w fun e w' => ∃ x : Unit, e = .returned (.tuple #[.int .u64 r.1, .int .i64 r.2.1, .int .i64 r.2.2]) ∧ St b (stl []) w' := by
  unfold codec_ReadShort_1.f at H
  refine enterb (n := 6) Try.func86 rfl (by kernel_rfl) (by kernel_rfl) hs0 ?_
  refine cs_sub (s0) (sub_nil _) ?_
  refine cs_seq ?_
  refine cs_region (l := [_, _, _]) ?_
  refine lv (.int .u64 (0 : Int)) ?_
  refine lv (.int .i64 (0 : Int)) ?_
  refine lv (.int .i64 (0 : Int)) ?_
  refine ls_end ?_
  refine qn_then ?_
  refine cs_seq ?_
  refine cs_region (l := [_, _, _, _]) ?_
  refine lv (.int .i64 a0) ?_
  refine lv (.int .u64 (0 : Int)) ?_
  refine lv (.int .i64 (0 : Int)) ?_
  refine lv (.int .i64 a0) ?_
  refine ls_end ?_
  refine qn_then ?_
  refine cs_ret' ?_
  obtain rfl := Option.some.inj H
  refine qr_res (rs := [_, _, _]) rfl (fun w' hs => ⟨[.int .u64 (0 : Int), .int .i64 (0 : Int), .int .i64 a0], (res_tmp (by kernel_rfl) (res_tmp (by kernel_rfl) (res_tmp (by kernel_rfl) (.nil)))), (), rfl, hs.pick (ts := []) (cs := []) trivial (by decide)⟩)

/-! ### shadowbox/codec.ReadShort: function 57 -/
def codec_ReadShort.jo3 (xl9 : List Int) (x15_1 : Int) (k1 : Nat) (y18 : Int) (lo1 : Int → Int → Option (Int × Int × Int)) (x2_3 : Int) : Option (Int × Int × Int) := (if 0 ≤ IntKind.wrap .i64 ((7 : Int) * x15_1) then lt (shlv .u64 (IntKind.wrap .u64 y18) (IntKind.wrap .i64 ((7 : Int) * x15_1))) fun y21 => (if ((xl9).getD (x15_1).toNat (0 : Int)) < (128 : Int) then (codec_groups.f k1 (bits .or .u64 x2_3 y21)).bind fun t24 => (if t24 = (IntKind.wrap .i64 (x15_1 + (1 : Int))) then some (bits .or .u64 x2_3 y21, IntKind.wrap .i64 (x15_1 + (1 : Int)), (0 : Int)) else (codec_ReadShort_1.f k1 (11 : Int)).bind fun t28 => some (t28.1, t28.2.1, t28.2.2)) else lo1 (bits .or .u64 x2_3 y21) (IntKind.wrap .i64 (x15_1 + (1 : Int)))) else none)
def codec_ReadShort.jo2 (xl9 : List Int) (x2_1 : Int) (x15_1 : Int) (k1 : Nat) (lo1 : Int → Int → Option (Int × Int × Int)) : Option (Int × Int × Int) := (if 0 ≤ x15_1 then (if x15_1 < (xl9.length : Int) then lt (bits .andNot .u8 ((xl9).getD (x15_1).toNat (0 : Int)) (128 : Int)) fun y18 => (bits_Len64.f k1 (IntKind.wrap .u64 y18)).bind fun t31 => lt (IntKind.wrap .i64 (t31 + (IntKind.wrap .i64 ((7 : Int) * x15_1)))) fun y34 => (if y34 > (64 : Int) then (codec_ReadShort_1.f k1 (11 : Int)).bind fun t37 => some (t37.1, t37.2.1, t37.2.2) else (codec_ReadShort.jo3 xl9 x15_1 k1 y18 lo1) x2_1) else none) else none)
def codec_ReadShort.lo1 (l0 : List Int) (xl9 : List Int) : Nat → Int → Int → Option (Int × Int × Int)
  | 0, _, _ => none
  | k1 + 1, x2_1, x15_1 => (if x15_1 < (xl9.length : Int) then (codec_ReadShort.jo2 xl9 x2_1 x15_1 k1 (codec_ReadShort.lo1 l0 xl9 k1)) else (if (l0.length : Int) ≥ (10 : Int) then (codec_ReadShort_1.f k1 (11 : Int)).bind fun t42 => some (t42.1, t42.2.1, t42.2.2) else (codec_ReadShort_1.f k1 (10 : Int)).bind fun t45 => some (t45.1, t45.2.1, t45.2.2)))
def codec_ReadShort.f (k : Nat) (l0 : List Int) : Option (Int × Int × Int) :=
  lt ((if (10 : Int) < (l0.length : Int) then (10 : Int) else (l0.length : Int))) fun y1 => (if 0 ≤ y1 then (if y1 ≤ (l0.length : Int) then lt (l0.take (y1).toNat) fun xl9 => codec_ReadShort.lo1 l0 xl9 k (0 : Int) (0 : Int) else none) else none)
set_option maxRecDepth 100000 in
set_option maxHeartbeats 4000000 in
theorem codec_ReadShort.calls (k : Nat) (A0 : Option Addr) (c0 : Nat) (l0 : List Int) (r : Int × Int × Int) (b : Bs) (hs0 : St b (stl []) b.w) (R0 : Ro b A0 (em (Ec.int 5 .u8) l0)) (C0 : l0.length ≤ c0) (H : codec_ReadShort.f k l0 = some r) :
    Calls Try.prog 57 #[.slice A0 l0.length c0] b.w fun e w' => ∃ x : Unit, e = .returned (.tuple #[.int .u64 r.1, .int .i64 r.2.1, .int .i64 r.2.2]) ∧ St b (stl []) w' := by
  unfold codec_ReadShort.f at H
  refine enterb (n := 69) Try.func57 rfl (by kernel_rfl) (by kernel_rfl) hs0 ?_
  refine cs_sub (s0) (sub_nil _) ?_
  refine cs_seq ?_
  refine cs_region (l := [_, _, _]) ?_
  refine lv (.int .u64 (0 : Int)) ?_
  refine lv (.int .i64 (0 : Int)) ?_
  refine lv (.int .i64 (0 : Int)) ?_
  refine ls_end ?_
  refine qn_then ?_
  refine cs_seq ?_
  refine cs_region (l := [_]) ?_
  refine lv (.func (.func 86) #[] #[]) ?_
  refine ls_end ?_
  refine qn_then ?_
  refine cs_seq ?_
  refine cs_seq ?_
  refine cs_region (l := [_, _, _, _, _, _, _]) ?_
  refine lv (.slice A0 l0.length c0) ?_
  refine lv (.slice A0 l0.length c0) ?_
  refine lv (.int .i64 (l0.length : Int)) ?_
  obtain ⟨y1, hy2, H⟩ := lt_some H
  refine lv (.int .i64 (if (10 : Int) < (l0.length : Int) then (10 : Int) else (l0.length : Int))) ?_
  refine ls_ren 12 (v := .int .i64 (if (10 : Int) < (l0.length : Int) then (10 : Int) else (l0.length : Int))) (v' := .int .i64 y1) (by kernel_rfl) (by rw [hy2]) ?_
  obtain ⟨q3, H⟩ := ite_need H
  obtain ⟨q4, H⟩ := ite_need H
  obtain ⟨xl9, hy10, H⟩ := lt_some H
  have hz12 : 0 ≤ (y1).toNat := by omega
  have hz13 : (y1).toNat ≤ l0.length := by omega
  obtain ⟨xA5, xc6, he11, xC8, xR7⟩ := cut_at (A := A0) (c := c0) (l := l0) (Ec.int 5 .u8) 0 ((y1).toNat) hz12 hz13 C0 R0 (m := xl9) (by rw [← hy10] <;> simp) (z := 1) rfl
  refine ls_cutv (A := A0) (c := c0) (m := l0.length) (z := 1) (e := 5) (a := 0) (b := (y1).toNat) rfl rfl (by kernel_rfl) rfl (by kernel_rfl) (by kernel_rfl) (by kernel_rfl) (.inl ⟨rfl, rfl⟩) (.inr ⟨.i64, by rw [Int.toNat_of_nonneg (by first | assumption | omega)]; kernel_rfl⟩) hz12 hz13 C0 he11 ?_
  refine lv (.int .i64 (xl9.length : Int)) ?_
  refine lv (.int .i64 (0 : Int)) ?_
  refine ls_end ?_
  refine qn_then ?_
  refine cs_block ?_
  refine cs_sub (s0) (sub_nil _) ?_
  refine cs_loop (fun kk f S => ∃ (fR : Fr) (x2_1 : Int) (x15_1 : Int), f = upd (upd (upd (upd (upd (upd fR 0 (.slice A0 l0.length c0)) 2 (.int .u64 x2_1)) 5 (.func (.func 86) #[] #[])) 13 (.slice xA5 xl9.length xc6)) 14 (.int .i64 (xl9.length : Int))) 15 (.int .i64 x15_1) ∧ S = s0 ∧ codec_ReadShort.lo1 l0 xl9 kk x2_1 x15_1 = some r) k ?_ ?_ ?_
  · exact ⟨_, (0 : Int), (0 : Int), fr_next (fr_next (fr_next (fr_next (fr_next (fr_next (rfl) (by kernel_rfl)) (by kernel_rfl)) (by kernel_rfl)) (by kernel_rfl)) (by kernel_rfl)) (by kernel_rfl), rfl, H⟩
  · rintro f S ⟨fr1, x2_1, x15_1, rfl, rfl, H⟩; cases H
  rintro k1 f S ⟨fr1, x2_1, x15_1, rfl, rfl, H⟩
  replace H : ((if x15_1 < (xl9.length : Int) then (codec_ReadShort.jo2 xl9 x2_1 x15_1 k1 (codec_ReadShort.lo1 l0 xl9 k1)) else (if (l0.length : Int) ≥ (10 : Int) then (codec_ReadShort_1.f k1 (11 : Int)).bind fun t42 => some (t42.1, t42.2.1, t42.2.2) else (codec_ReadShort_1.f k1 (10 : Int)).bind fun t45 => some (t45.1, t45.2.1, t45.2.2)))) = some r := H
  refine cs_seq ?_
  refine cs_region (l := [_]) ?_
  refine lv (.bool (decide (x15_1 < (xl9.length : Int)))) ?_
  refine ls_end ?_
  refine qn_then ?_
  refine cs_cut (fun f S => ∃ (fR : Fr), f = upd (upd (upd (upd (upd (upd fR 0 (.slice A0 l0.length c0)) 2 (.int .u64 x2_1)) 5 (.func (.func 86) #[] #[])) 13 (.slice xA5 xl9.length xc6)) 14 (.int .i64 (xl9.length : Int))) 15 (.int .i64 x15_1) ∧ S = s0 ∧ codec_ReadShort.jo2 xl9 x2_1 x15_1 k1 (codec_ReadShort.lo1 l0 xl9 k1) = some r) ?_ ?_
  · skip
    by_cases q40 : x15_1 < (xl9.length : Int)
    · replace H := ite_t q40 H
      refine cs_know (c := true) (dec_t q40) 16 (by kernel_rfl) ?_
      refine cs_true (by kernel_rfl) ?_
      refine cs_skip' ?_
      refine qn_meet (s0) ⟨_, fr_next (fr_next (fr_next (fr_next (fr_next (fr_next (rfl) (by kernel_rfl)) (by kernel_rfl)) (by kernel_rfl)) (by kernel_rfl)) (by kernel_rfl)) (by kernel_rfl), rfl, H⟩ (sub_nil _)
    replace H := ite_f q40 H
    refine cs_know (c := false) (dec_f q40) 16 (by kernel_rfl) ?_
    refine cs_false (by kernel_rfl) ?_
    refine cs_exit' ?_
    refine qx_then ?_
    refine qx_then ?_
    refine qx_same ?_
    refine qn_then ?_
    refine cs_seq ?_
    refine cs_seq ?_
    refine cs_region (l := [_, _, _]) ?_
    refine lv (.slice A0 l0.length c0) ?_
    refine lv (.int .i64 (l0.length : Int)) ?_
    refine lv (.bool (decide ((l0.length : Int) ≥ (10 : Int)))) ?_
    refine ls_end ?_
    refine qn_then ?_
    by_cases q41 : (l0.length : Int) ≥ (10 : Int)
    · replace H := ite_t q41 H
      refine cs_know (c := true) (dec_t q41) 58 (by kernel_rfl) ?_
      refine cs_true (by kernel_rfl) ?_
      refine cs_seq ?_
      refine cs_region (l := [_, _, _, _, _, _, _, _]) ?_
      refine lv (.func (.func 86) #[] #[]) ?_
      obtain ⟨t42, hc43, H⟩ := bind_some H
      refine ls_callb (fid := 86) (vals := #[.int .i64 (11 : Int)]) (X := Unit) (fun x => .tuple #[.int .u64 t42.1, .int .i64 t42.2.1, .int .i64 t42.2.2]) (fun x => stl []) [] [] [] [] 0 rfl rfl (by kernel_rfl) (fun w => by kernel_rfl) trivial trivial (by decide) (fun w hs hb => codec_ReadShort_1.calls k1 (11 : Int) t42 (lent b w [] []) hb  hc43) ?_
      intro x44
      refine lv (.int .u64 t42.1) ?_
      refine lv (.int .i64 t42.2.1) ?_
      refine lv (.int .i64 t42.2.2) ?_
      refine lv (.int .u64 t42.1) ?_
      refine lv (.int .i64 t42.2.1) ?_
      refine lv (.int .i64 t42.2.2) ?_
      refine ls_end ?_
      refine qn_then ?_
      refine cs_ret' ?_
      refine qr_then ?_
      obtain rfl := Option.some.inj H
      refine qr_res (rs := [_, _, _]) rfl (fun w' hs => ⟨[.int .u64 t42.1, .int .i64 t42.2.1, .int .i64 t42.2.2], (res_tmp (by kernel_rfl) (res_tmp (by kernel_rfl) (res_tmp (by kernel_rfl) (.nil)))), (), rfl, hs.pick (ts := []) (cs := []) trivial (by decide)⟩)
    replace H := ite_f q41 H
    refine cs_know (c := false) (dec_f q41) 58 (by kernel_rfl) ?_
    refine cs_false (by kernel_rfl) ?_
    refine cs_skip' ?_
    refine qn_then ?_
    refine cs_seq ?_
    refine cs_region (l := [_, _, _, _, _, _, _, _]) ?_
    refine lv (.func (.func 86) #[] #[]) ?_
    obtain ⟨t45, hc46, H⟩ := bind_some H
    refine ls_callb (fid := 86) (vals := #[.int .i64 (10 : Int)]) (X := Unit) (fun x => .tuple #[.int .u64 t45.1, .int .i64 t45.2.1, .int .i64 t45.2.2]) (fun x => stl []) [] [] [] [] 0 rfl rfl (by kernel_rfl) (fun w => by kernel_rfl) trivial trivial (by decide) (fun w hs hb => codec_ReadShort_1.calls k1 (10 : Int) t45 (lent b w [] []) hb  hc46) ?_
    intro x47
    refine lv (.int .u64 t45.1) ?_
    refine lv (.int .i64 t45.2.1) ?_
    refine lv (.int .i64 t45.2.2) ?_
    refine lv (.int .u64 t45.1) ?_
    refine lv (.int .i64 t45.2.1) ?_
    refine lv (.int .i64 t45.2.2) ?_
    refine ls_end ?_
    refine qn_then ?_
    refine cs_ret' ?_
    obtain rfl := Option.some.inj H
    refine qr_res (rs := [_, _, _]) rfl (fun w' hs => ⟨[.int .u64 t45.1, .int .i64 t45.2.1, .int .i64 t45.2.2], (res_tmp (by kernel_rfl) (res_tmp (by kernel_rfl) (res_tmp (by kernel_rfl) (.nil)))), (), rfl, hs.pick (ts := []) (cs := []) trivial (by decide)⟩)
  rintro f S ⟨fr2, rfl, rfl, H⟩
  replace H : ((if 0 ≤ x15_1 then (if x15_1 < (xl9.length : Int) then lt (bits .andNot .u8 ((xl9).getD (x15_1).toNat (0 : Int)) (128 : Int)) fun y18 => (bits_Len64.f k1 (IntKind.wrap .u64 y18)).bind fun t31 => lt (IntKind.wrap .i64 (t31 + (IntKind.wrap .i64 ((7 : Int) * x15_1)))) fun y34 => (if y34 > (64 : Int) then (codec_ReadShort_1.f k1 (11 : Int)).bind fun t37 => some (t37.1, t37.2.1, t37.2.2) else (codec_ReadShort.jo3 xl9 x15_1 k1 y18 (codec_ReadShort.lo1 l0 xl9 k1)) x2_1) else none) else none)) = some r := H
  refine cs_seq ?_
  refine cs_block ?_
  refine cs_seq ?_
  refine cs_region (l := [_, _, _, _, _]) ?_
  refine lv (.int .i64 x15_1) ?_
  obtain ⟨q14, H⟩ := ite_need H
  obtain ⟨q15, H⟩ := ite_need H
  obtain ⟨ad16, hA17⟩ := ido_at (T := (Ec.int 5 .u8)) (l := xl9) (i := x15_1) xR7 q14 q15
  refine ls_idxv (Ec.int 5 .u8) (A := xA5) (c := xc6) (l := xl9) (k := .i64) (i := x15_1) (z := 1) (ad := ad16) rfl rfl (by kernel_rfl) hA17 rfl (by kernel_rfl) (by kernel_rfl) (by kernel_rfl) (by kernel_rfl) q14 q15 ?_
  refine ls_load (a0 := (ad16.add ((x15_1).toNat * 1))) (v := .int .u8 ((xl9).getD (x15_1).toNat (0 : Int))) (de := (TypeDesc.int .u8)) rfl rfl (by kernel_rfl) rfl (by kernel_rfl) (by kernel_rfl) (by kernel_rfl) (fun w hs => (hs.old xR7).at hA17 (em_sub (Ec.int 5 .u8) xl9 (i := (x15_1).toNat) (by have h0 : (0 : Int) ≤ x15_1 := q14; have h1 : x15_1 < (xl9.length : Int) := q15; omega))) ?_
  refine lv (.int .i64 x15_1) ?_
  refine lv (.int .u8 ((xl9).getD (x15_1).toNat (0 : Int))) ?_
  refine ls_end ?_
  refine qn_then ?_
  refine cs_seq ?_
  refine cs_region (l := [_, _, _, _]) ?_
  refine lv (.int .u8 ((xl9).getD (x15_1).toNat (0 : Int))) ?_
  obtain ⟨y18, hy19, H⟩ := lt_some H
  refine lv (.int .u8 (bits .andNot .u8 ((xl9).getD (x15_1).toNat (0 : Int)) (128 : Int))) ?_
  refine ls_ren 21 (v := .int .u8 (bits .andNot .u8 ((xl9).getD (x15_1).toNat (0 : Int)) (128 : Int))) (v' := .int .u8 y18) (by kernel_rfl) (by rw [hy19]) ?_
  refine lv (.int .u64 (IntKind.wrap .u64 y18)) ?_
  refine lv (.int .u64 (IntKind.wrap .u64 y18)) ?_
  refine ls_end ?_
  refine qn_then ?_
  refine cs_cut (fun f S => ∃ (fR : Fr) (x2_3 : Int), f = upd (upd (upd (upd (upd (upd (upd (upd (upd fR 0 (.slice A0 l0.length c0)) 2 (.int .u64 x2_3)) 5 (.func (.func 86) #[] #[])) 6 (.int .i64 x15_1)) 7 (.int .u8 ((xl9).getD (x15_1).toNat (0 : Int)))) 8 (.int .u64 (IntKind.wrap .u64 y18))) 13 (.slice xA5 xl9.length xc6)) 14 (.int .i64 (xl9.length : Int))) 15 (.int .i64 x15_1) ∧ S = s0 ∧ codec_ReadShort.jo3 xl9 x15_1 k1 y18 (codec_ReadShort.lo1 l0 xl9 k1) x2_3 = some r) ?_ ?_
  · skip
    refine cs_seq ?_
    refine cs_region (l := [_, _, _, _, _, _]) ?_
    refine lv (.int .u64 (IntKind.wrap .u64 y18)) ?_
    obtain ⟨t31, hc32, H⟩ := bind_some H
    refine ls_callb (fid := 87) (vals := #[.int .u64 (IntKind.wrap .u64 y18)]) (X := Unit) (fun x => .int .i64 t31) (fun x => stl []) [] [] [] [] 0 rfl rfl (by kernel_rfl) (fun w => by kernel_rfl) trivial trivial (by decide) (fun w hs hb => bits_Len64.calls k1 (IntKind.wrap .u64 y18) t31 (lent b w [] []) hb  hc32) ?_
    intro x33
    refine lv (.int .i64 x15_1) ?_
    refine lv (.int .i64 (IntKind.wrap .i64 ((7 : Int) * x15_1))) ?_
    obtain ⟨y34, hy35, H⟩ := lt_some H
    refine lv (.int .i64 (IntKind.wrap .i64 (t31 + (IntKind.wrap .i64 ((7 : Int) * x15_1))))) ?_
    refine ls_ren 27 (v := .int .i64 (IntKind.wrap .i64 (t31 + (IntKind.wrap .i64 ((7 : Int) * x15_1))))) (v' := .int .i64 y34) (by kernel_rfl) (by rw [hy35]) ?_
    refine lv (.bool (decide (y34 > (64 : Int)))) ?_
    refine ls_end ?_
    refine qn_then ?_
    by_cases q36 : y34 > (64 : Int)
    · replace H := ite_t q36 H
      refine cs_know (c := true) (dec_t q36) 28 (by kernel_rfl) ?_
      refine cs_true (by kernel_rfl) ?_
      refine cs_seq ?_
      refine cs_region (l := [_, _, _, _, _, _, _, _]) ?_
      refine lv (.func (.func 86) #[] #[]) ?_
      obtain ⟨t37, hc38, H⟩ := bind_some H
      refine ls_callb (fid := 86) (vals := #[.int .i64 (11 : Int)]) (X := Unit) (fun x => .tuple #[.int .u64 t37.1, .int .i64 t37.2.1, .int .i64 t37.2.2]) (fun x => stl []) [] [] [] [] 0 rfl rfl (by kernel_rfl) (fun w => by kernel_rfl) trivial trivial (by decide) (fun w hs hb => codec_ReadShort_1.calls k1 (11 : Int) t37 (lent b w [] []) hb  hc38) ?_
      intro x39
      refine lv (.int .u64 t37.1) ?_
      refine lv (.int .i64 t37.2.1) ?_
      refine lv (.int .i64 t37.2.2) ?_
      refine lv (.int .u64 t37.1) ?_
      refine lv (.int .i64 t37.2.1) ?_
      refine lv (.int .i64 t37.2.2) ?_
      refine ls_end ?_
      refine qn_then ?_
      refine cs_ret' ?_
      refine qr_then ?_
      refine qr_block ?_
      refine qr_then ?_
      refine qr_then ?_
      refine qr_block ?_
      refine qr_then ?_
      obtain rfl := Option.some.inj H
      refine qr_res (rs := [_, _, _]) rfl (fun w' hs => ⟨[.int .u64 t37.1, .int .i64 t37.2.1, .int .i64 t37.2.2], (res_tmp (by kernel_rfl) (res_tmp (by kernel_rfl) (res_tmp (by kernel_rfl) (.nil)))), (), rfl, hs.pick (ts := []) (cs := []) trivial (by decide)⟩)
    replace H := ite_f q36 H
    refine cs_know (c := false) (dec_f q36) 28 (by kernel_rfl) ?_
    refine cs_false (by kernel_rfl) ?_
    refine cs_skip' ?_
    refine qn_meet (s0) ⟨_, x2_1, fr_next (fr_next (fr_next (fr_next (fr_next (fr_next (fr_next (fr_next (fr_next (rfl) (by kernel_rfl)) (by kernel_rfl)) (by kernel_rfl)) (by kernel_rfl)) (by kernel_rfl)) (by kernel_rfl)) (by kernel_rfl)) (by kernel_rfl)) (by kernel_rfl), rfl, H⟩ (sub_nil _)
  rintro f S ⟨fr3, x2_3, rfl, rfl, H⟩
  replace H : ((if 0 ≤ IntKind.wrap .i64 ((7 : Int) * x15_1) then lt (shlv .u64 (IntKind.wrap .u64 y18) (IntKind.wrap .i64 ((7 : Int) * x15_1))) fun y21 => (if ((xl9).getD (x15_1).toNat (0 : Int)) < (128 : Int) then (codec_groups.f k1 (bits .or .u64 x2_3 y21)).bind fun t24 => (if t24 = (IntKind.wrap .i64 (x15_1 + (1 : Int))) then some (bits .or .u64 x2_3 y21, IntKind.wrap .i64 (x15_1 + (1 : Int)), (0 : Int)) else (codec_ReadShort_1.f k1 (11 : Int)).bind fun t28 => some (t28.1, t28.2.1, t28.2.2)) else (codec_ReadShort.lo1 l0 xl9 k1) (bits .or .u64 x2_3 y21) (IntKind.wrap .i64 (x15_1 + (1 : Int)))) else none)) = some r := H
  refine cs_seq ?_
  refine cs_region (l := [_, _, _, _, _, _, _]) ?_
  refine lv (.int .u64 x2_3) ?_
  refine lv (.int .u64 (IntKind.wrap .u64 y18)) ?_
  refine lv (.int .i64 x15_1) ?_
  refine lv (.int .i64 (IntKind.wrap .i64 ((7 : Int) * x15_1))) ?_
  obtain ⟨q20, H⟩ := ite_need H
  obtain ⟨y21, hy22, H⟩ := lt_some H
  refine ls_shiftl (k := .u64) (yk := .i64) (x := (IntKind.wrap .u64 y18)) (y := (IntKind.wrap .i64 ((7 : Int) * x15_1))) rfl rfl (by kernel_rfl) (fun w => by kernel_rfl) q20 ?_
  refine ls_ren 38 (v := .int .u64 (shlv .u64 (IntKind.wrap .u64 y18) (IntKind.wrap .i64 ((7 : Int) * x15_1)))) (v' := .int .u64 y21) (by kernel_rfl) (by rw [hy22]) ?_
  refine lv (.int .u64 (bits .or .u64 x2_3 y21)) ?_
  refine lv (.int .u64 (bits .or .u64 x2_3 y21)) ?_
  refine ls_end ?_
  refine qn_then ?_
  refine cs_seq ?_
  refine cs_region (l := [_, _]) ?_
  refine lv (.int .u8 ((xl9).getD (x15_1).toNat (0 : Int))) ?_
  refine lv (.bool (decide (((xl9).getD (x15_1).toNat (0 : Int)) < (128 : Int)))) ?_
  refine ls_end ?_
  refine qn_then ?_
  by_cases q23 : ((xl9).getD (x15_1).toNat (0 : Int)) < (128 : Int)
  · replace H := ite_t q23 H
    refine cs_know (c := true) (dec_t q23) 41 (by kernel_rfl) ?_
    refine cs_true (by kernel_rfl) ?_
    refine cs_seq ?_
    refine cs_seq ?_
    refine cs_region (l := [_, _, _, _, _]) ?_
    refine lv (.int .u64 (bits .or .u64 x2_3 y21)) ?_
    obtain ⟨t24, hc25, H⟩ := bind_some H
    refine ls_callb (fid := 88) (vals := #[.int .u64 (bits .or .u64 x2_3 y21)]) (X := Unit) (fun x => .int .i64 t24) (fun x => stl []) [] [] [] [] 0 rfl rfl (by kernel_rfl) (fun w => by kernel_rfl) trivial trivial (by decide) (fun w hs hb => codec_groups.calls k1 (bits .or .u64 x2_3 y21) t24 (lent b w [] []) hb  hc25) ?_
    intro x26
    refine lv (.int .i64 x15_1) ?_
    refine lv (.int .i64 (IntKind.wrap .i64 (x15_1 + (1 : Int)))) ?_
    refine lv (.bool (!decide (t24 = (IntKind.wrap .i64 (x15_1 + (1 : Int)))))) ?_
    refine ls_end ?_
    refine qn_then ?_
    by_cases q27 : t24 = (IntKind.wrap .i64 (x15_1 + (1 : Int)))
    · replace H := ite_t q27 H
      refine cs_know (c := false) (congrArg Bool.not (dec_t q27)) 46 (by kernel_rfl) ?_
      refine cs_false (by kernel_rfl) ?_
      refine cs_skip' ?_
      refine qn_then ?_
      refine cs_seq ?_
      refine cs_region (l := [_, _, _, _, _, _]) ?_
      refine lv (.int .u64 (bits .or .u64 x2_3 y21)) ?_
      refine lv (.int .i64 x15_1) ?_
      refine lv (.int .i64 (IntKind.wrap .i64 (x15_1 + (1 : Int)))) ?_
      refine lv (.int .u64 (bits .or .u64 x2_3 y21)) ?_
      refine lv (.int .i64 (IntKind.wrap .i64 (x15_1 + (1 : Int)))) ?_
      refine lv (.int .i64 (0 : Int)) ?_
      refine ls_end ?_
      refine qn_then ?_
      refine cs_ret' ?_
      refine qr_block ?_
      refine qr_then ?_
      refine qr_then ?_
      refine qr_block ?_
      refine qr_then ?_
      obtain rfl := Option.some.inj H
      refine qr_res (rs := [_, _, _]) rfl (fun w' hs => ⟨[.int .u64 (bits .or .u64 x2_3 y21), .int .i64 (IntKind.wrap .i64 (x15_1 + (1 : Int))), .int .i64 (0 : Int)], (res_tmp (by kernel_rfl) (res_tmp (by kernel_rfl) (res_tmp (by kernel_rfl) (.nil)))), (), rfl, hs.pick (ts := []) (cs := []) trivial (by decide)⟩)
    replace H := ite_f q27 H
    refine cs_know (c := true) (congrArg Bool.not (dec_f q27)) 46 (by kernel_rfl) ?_
    refine cs_true (by kernel_rfl) ?_
    refine cs_seq ?_
    refine cs_region (l := [_, _, _, _, _, _, _, _]) ?_
    refine lv (.func (.func 86) #[] #[]) ?_
    obtain ⟨t28, hc29, H⟩ := bind_some H
    refine ls_callb (fid := 86) (vals := #[.int .i64 (11 : Int)]) (X := Unit) (fun x => .tuple #[.int .u64 t28.1, .int .i64 t28.2.1, .int .i64 t28.2.2]) (fun x => stl []) [] [] [] [] 0 rfl rfl (by kernel_rfl) (fun w => by kernel_rfl) trivial trivial (by decide) (fun w hs hb => codec_ReadShort_1.calls k1 (11 : Int) t28 (lent b w [] []) hb  hc29) ?_
    intro x30
    refine lv (.int .u64 t28.1) ?_
    refine lv (.int .i64 t28.2.1) ?_
    refine lv (.int .i64 t28.2.2) ?_
    refine lv (.int .u64 t28.1) ?_
    refine lv (.int .i64 t28.2.1) ?_
    refine lv (.int .i64 t28.2.2) ?_
    refine ls_end ?_
    refine qn_then ?_
    refine cs_ret' ?_
    refine qr_then ?_
    refine qr_block ?_
    refine qr_then ?_
    refine qr_then ?_
    refine qr_block ?_
    refine qr_then ?_
    obtain rfl := Option.some.inj H
    refine qr_res (rs := [_, _, _]) rfl (fun w' hs => ⟨[.int .u64 t28.1, .int .i64 t28.2.1, .int .i64 t28.2.2], (res_tmp (by kernel_rfl) (res_tmp (by kernel_rfl) (res_tmp (by kernel_rfl) (.nil)))), (), rfl, hs.pick (ts := []) (cs := []) trivial (by decide)⟩)
  replace H := ite_f q23 H
  refine cs_know (c := false) (dec_f q23) 41 (by kernel_rfl) ?_
  refine cs_false (by kernel_rfl) ?_
  refine cs_skip' ?_
  refine qn_block ?_
  refine qn_then ?_
  refine cs_region (l := [_, _]) ?_
  refine lv (.int .i64 (IntKind.wrap .i64 (x15_1 + (1 : Int)))) ?_
  refine lv (.int .i64 (IntKind.wrap .i64 (x15_1 + (1 : Int)))) ?_
  refine ls_end ?_
  refine qn_again k1 (s0) (Nat.le_refl _) ⟨_, (bits .or .u64 x2_3 y21), (IntKind.wrap .i64 (x15_1 + (1 : Int))), fr_next (fr_next (fr_next (fr_next (fr_next (fr_next (rfl) (by kernel_rfl)) (by kernel_rfl)) (by kernel_rfl)) (by kernel_rfl)) (by kernel_rfl)) (by kernel_rfl), rfl, H⟩ (sub_nil _)

/-! ### shadowbox/codec.ReadText: function 58 -/
def codec_ReadText.f (k : Nat) (l0 : List Int) (a1 : Int) : Option (ByteArray × Int × Int) :=
  (codec_ReadShort.f k l0).bind fun t1 => (if t1.2.2 = (0 : Int) then (if a1 < (0 : Int) then some ((⟨#[]⟩ : ByteArray), (0 : Int), (3 : Int)) else (if t1.1 > (IntKind.wrap .u64 a1) then some ((⟨#[]⟩ : ByteArray), (0 : Int), (3 : Int)) else lt (IntKind.wrap .i64 ((l0.length : Int) - t1.2.1)) fun y7 => (if t1.1 > (IntKind.wrap .u64 y7) then some ((⟨#[]⟩ : ByteArray), (0 : Int), (10 : Int)) else lt (IntKind.wrap .i64 (t1.2.1 + (IntKind.wrap .i64 t1.1))) fun y10 => (if 0 ≤ y10 then (if y10 ≤ (l0.length : Int) then (if 0 ≤ t1.2.1 then (if t1.2.1 ≤ y10 then lt ((l0.take (y10).toNat).drop (t1.2.1).toNat) fun xl20 => some (strOfNums xl20, y10, (0 : Int)) else none) else none) else none) else none)))) else some ((⟨#[]⟩ : ByteArray), (0 : Int), t1.2.2))
set_option maxRecDepth 100000 in
set_option maxHeartbeats 4000000 in
theorem codec_ReadText.calls (k : Nat) (A0 : Option Addr) (c0 : Nat) (l0 : List Int) (a1 : Int) (r : ByteArray × Int × Int) (b : Bs) (hs0 : St b (stl []) b.w) (R0 : Ro b A0 (em (Ec.int 5 .u8) l0)) (C0 : l0.length ≤ c0) (H : codec_ReadText.f k l0 a1 = some r) :
    Calls Try.prog 58 #[.slice A0 l0.length c0, .int .i64 a1] b.w fun e w' => ∃ x : Unit, e = .returned (.tuple #[.string r.1, .int .i64 r.2.1, .int .i64 r.2.2]) ∧ St b (stl []) w' := by
  unfold codec_ReadText.f at H
  refine enterb (n := 46) Try.func58 rfl (by kernel_rfl) (by kernel_rfl) hs0 ?_
  refine cs_sub (s0) (sub_nil _) ?_
  refine cs_seq ?_
  refine cs_region (l := [_, _, _]) ?_
  refine lv (.string (⟨#[]⟩ : ByteArray)) ?_
  refine lv (.int .i64 (0 : Int)) ?_
  refine lv (.int .i64 (0 : Int)) ?_
  refine ls_end ?_
  refine qn_then ?_
  refine cs_seq ?_
  refine cs_region (l := [_, _, _, _, _, _, _, _, _]) ?_
  refine lv (.slice A0 l0.length c0) ?_
  obtain ⟨t1, hc2, H⟩ := bind_some H
  refine ls_callb (fid := 57) (vals := #[.slice A0 l0.length c0]) (X := Unit) (fun x => .tuple #[.int .u64 t1.1, .int .i64 t1.2.1, .int .i64 t1.2.2]) (fun x => stl []) [] [] [] [] 0 rfl rfl (by kernel_rfl) (fun w => by kernel_rfl) trivial trivial (by decide) (fun w hs hb => codec_ReadShort.calls k A0 c0 l0 t1 (lent b w [] []) hb (hs.ro R0 _ _) C0 hc2) ?_
  intro x3
  refine lv (.tuple #[.int .u64 t1.1, .int .i64 t1.2.1, .int .i64 t1.2.2]) ?_
  refine lv (.int .u64 t1.1) ?_
  refine lv (.int .i64 t1.2.1) ?_
  refine lv (.int .i64 t1.2.2) ?_
  refine lv (.int .u64 t1.1) ?_
  refine lv (.int .i64 t1.2.1) ?_
  refine lv (.int .i64 t1.2.2) ?_
  refine ls_end ?_
  refine qn_then ?_
  refine cs_seq ?_
  refine cs_block ?_
  refine cs_seq ?_
  refine cs_region (l := [_, _, _]) ?_
  refine lv (.int .i64 t1.2.2) ?_
  refine lv (.bool (!decide (t1.2.2 = (0 : Int)))) ?_
  refine lv (.bool (!decide (t1.2.2 = (0 : Int)))) ?_
  refine ls_end ?_
  refine qn_then ?_
  by_cases q4 : t1.2.2 = (0 : Int)
  · replace H := ite_t q4 H
    refine cs_know (c := false) (congrArg Bool.not (dec_t q4)) 15 (by kernel_rfl) ?_
    refine cs_false (by kernel_rfl) ?_
    refine cs_seq ?_
    refine cs_region (l := [_, _, _, _, _, _, _, _, _]) ?_
    refine lv (.int .i64 a1) ?_
    refine lv (.bool (decide (a1 < (0 : Int)))) ?_
    refine lv (.bool (decide (a1 < (0 : Int)))) ?_
    by_cases q5 : a1 < (0 : Int)
    · replace H := ite_t q5 H
      refine ls_know (c := true) (dec_t q5) 22 (by kernel_rfl) ?_
      refine lofx 2 22 false true ?_
      refine lofx 2 22 false true ?_
      refine lofx 2 22 false true ?_
      refine lofx 2 22 false true ?_
      refine lv (.bool true) ?_
      refine lv (.bool true) ?_
      refine ls_end ?_
      refine qn_then ?_
      refine cs_true (by kernel_rfl) ?_
      refine cs_seq ?_
      refine cs_region (l := [_, _, _]) ?_
      refine lv (.string (⟨#[]⟩ : ByteArray)) ?_
      refine lv (.int .i64 (0 : Int)) ?_
      refine lv (.int .i64 (3 : Int)) ?_
      refine ls_end ?_
      refine qn_then ?_
      refine cs_ret' ?_
      refine qr_block ?_
      refine qr_then ?_
      obtain rfl := Option.some.inj H
      refine qr_res (rs := [_, _, _]) rfl (fun w' hs => ⟨[.string (⟨#[]⟩ : ByteArray), .int .i64 (0 : Int), .int .i64 (3 : Int)], (res_tmp (by kernel_rfl) (res_tmp (by kernel_rfl) (res_tmp (by kernel_rfl) (.nil)))), (), rfl, hs.pick (ts := []) (cs := []) trivial (by decide)⟩)
    replace H := ite_f q5 H
    refine ls_know (c := false) (dec_f q5) 22 (by kernel_rfl) ?_
    refine ls_on (j := 2) (t := 22) (b := false) rfl rfl (by kernel_rfl) (by kernel_rfl) ?_
    refine lv (.int .u64 t1.1) ?_
    refine ls_on (j := 2) (t := 22) (b := false) rfl rfl (by kernel_rfl) (by kernel_rfl) ?_
    refine lv (.int .i64 a1) ?_
    refine ls_on (j := 2) (t := 22) (b := false) rfl rfl (by kernel_rfl) (by kernel_rfl) ?_
    refine lv (.int .u64 (IntKind.wrap .u64 a1)) ?_
    refine ls_on (j := 2) (t := 22) (b := false) rfl rfl (by kernel_rfl) (by kernel_rfl) ?_
    refine lv (.bool (decide (t1.1 > (IntKind.wrap .u64 a1)))) ?_
    refine lv (.bool (decide (t1.1 > (IntKind.wrap .u64 a1)))) ?_
    refine lv (.bool (decide (t1.1 > (IntKind.wrap .u64 a1)))) ?_
    refine ls_end ?_
    refine qn_then ?_
    by_cases q6 : t1.1 > (IntKind.wrap .u64 a1)
    · replace H := ite_t q6 H
      refine cs_know (c := true) (dec_t q6) 19 (by kernel_rfl) ?_
      refine cs_true (by kernel_rfl) ?_
      refine cs_seq ?_
      refine cs_region (l := [_, _, _]) ?_
      refine lv (.string (⟨#[]⟩ : ByteArray)) ?_
      refine lv (.int .i64 (0 : Int)) ?_
      refine lv (.int .i64 (3 : Int)) ?_
      refine ls_end ?_
      refine qn_then ?_
      refine cs_ret' ?_
      refine qr_block ?_
      refine qr_then ?_
      obtain rfl := Option.some.inj H
      refine qr_res (rs := [_, _, _]) rfl (fun w' hs => ⟨[.string (⟨#[]⟩ : ByteArray), .int .i64 (0 : Int), .int .i64 (3 : Int)], (res_tmp (by kernel_rfl) (res_tmp (by kernel_rfl) (res_tmp (by kernel_rfl) (.nil)))), (), rfl, hs.pick (ts := []) (cs := []) trivial (by decide)⟩)
    replace H := ite_f q6 H
    refine cs_know (c := false) (dec_f q6) 19 (by kernel_rfl) ?_
    refine cs_false (by kernel_rfl) ?_
    refine cs_seq ?_
    refine cs_region (l := [_, _, _, _, _, _, _, _]) ?_
    refine lv (.int .u64 t1.1) ?_
    refine lv (.slice A0 l0.length c0) ?_
    refine lv (.int .i64 (l0.length : Int)) ?_
    refine lv (.int .i64 t1.2.1) ?_
    obtain ⟨y7, hy8, H⟩ := lt_some H
    refine lv (.int .i64 (IntKind.wrap .i64 ((l0.length : Int) - t1.2.1))) ?_
    refine ls_ren 33 (v := .int .i64 (IntKind.wrap .i64 ((l0.length : Int) - t1.2.1))) (v' := .int .i64 y7) (by kernel_rfl) (by rw [hy8]) ?_
    refine lv (.int .u64 (IntKind.wrap .u64 y7)) ?_
    refine lv (.bool (decide (t1.1 > (IntKind.wrap .u64 y7)))) ?_
    refine lv (.bool (decide (t1.1 > (IntKind.wrap .u64 y7)))) ?_
    refine ls_end ?_
    refine qn_then ?_
    by_cases q9 : t1.1 > (IntKind.wrap .u64 y7)
    · replace H := ite_t q9 H
      refine cs_know (c := true) (dec_t q9) 28 (by kernel_rfl) ?_
      refine cs_true (by kernel_rfl) ?_
      refine cs_seq ?_
      refine cs_region (l := [_, _, _]) ?_
      refine lv (.string (⟨#[]⟩ : ByteArray)) ?_
      refine lv (.int .i64 (0 : Int)) ?_
      refine lv (.int .i64 (10 : Int)) ?_
      refine ls_end ?_
      refine qn_then ?_
      refine cs_ret' ?_
      refine qr_block ?_
      refine qr_then ?_
      obtain rfl := Option.some.inj H
      refine qr_res (rs := [_, _, _]) rfl (fun w' hs => ⟨[.string (⟨#[]⟩ : ByteArray), .int .i64 (0 : Int), .int .i64 (10 : Int)], (res_tmp (by kernel_rfl) (res_tmp (by kernel_rfl) (res_tmp (by kernel_rfl) (.nil)))), (), rfl, hs.pick (ts := []) (cs := []) trivial (by decide)⟩)
    replace H := ite_f q9 H
    refine cs_know (c := false) (dec_f q9) 28 (by kernel_rfl) ?_
    refine cs_false (by kernel_rfl) ?_
    refine cs_skip' ?_
    refine qn_block ?_
    refine qn_then ?_
    refine cs_seq ?_
    refine cs_region (l := [_, _, _, _, _]) ?_
    refine lv (.int .i64 t1.2.1) ?_
    refine lv (.int .u64 t1.1) ?_
    refine lv (.int .i64 (IntKind.wrap .i64 t1.1)) ?_
    obtain ⟨y10, hy11, H⟩ := lt_some H
    refine lv (.int .i64 (IntKind.wrap .i64 (t1.2.1 + (IntKind.wrap .i64 t1.1)))) ?_
    refine ls_ren 39 (v := .int .i64 (IntKind.wrap .i64 (t1.2.1 + (IntKind.wrap .i64 t1.1)))) (v' := .int .i64 y10) (by kernel_rfl) (by rw [hy11]) ?_
    refine lv (.int .i64 y10) ?_
    refine ls_end ?_
    refine qn_then ?_
    refine cs_seq ?_
    refine cs_region (l := [_, _, _, _, _, _, _, _, _]) ?_
    refine lv (.slice A0 l0.length c0) ?_
    refine lv (.int .i64 t1.2.1) ?_
    refine lv (.int .i64 y10) ?_
    obtain ⟨q12, H⟩ := ite_need H
    obtain ⟨q13, H⟩ := ite_need H
    obtain ⟨q14, H⟩ := ite_need H
    obtain ⟨q15, H⟩ := ite_need H
    obtain ⟨xl20, hy21, H⟩ := lt_some H
    have hz23 : (t1.2.1).toNat ≤ (y10).toNat := by omega
    have hz24 : (y10).toNat ≤ l0.length := by omega
    obtain ⟨xA16, xc17, he22, xC19, xR18⟩ := cut_at (A := A0) (c := c0) (l := l0) (Ec.int 5 .u8) ((t1.2.1).toNat) ((y10).toNat) hz23 hz24 C0 R0 (m := xl20) (by rw [← hy21] <;> simp) (z := 1) rfl
    refine ls_cutv (A := A0) (c := c0) (m := l0.length) (z := 1) (e := 5) (a := (t1.2.1).toNat) (b := (y10).toNat) rfl rfl (by kernel_rfl) rfl (by kernel_rfl) (by kernel_rfl) (by kernel_rfl) (.inr ⟨.i64, by rw [Int.toNat_of_nonneg (by first | assumption | omega)]; kernel_rfl⟩) (.inr ⟨.i64, by rw [Int.toNat_of_nonneg (by first | assumption | omega)]; kernel_rfl⟩) hz23 hz24 C0 he22 ?_
    refine ls_str (A := xA16) (c := xc17) (e := 5) (l := xl20) rfl rfl (by kernel_rfl) rfl (by kernel_rfl) (by kernel_rfl) (by kernel_rfl) (by kernel_rfl) (fun w hs => (hs.old xR18)) ?_
    refine lv (.int .i64 y10) ?_
    refine lv (.string (strOfNums xl20)) ?_
    refine lv (.int .i64 y10) ?_
    refine lv (.int .i64 (0 : Int)) ?_
    refine ls_end ?_
    refine qn_then ?_
    refine cs_ret' ?_
    obtain rfl := Option.some.inj H
    refine qr_res (rs := [_, _, _]) rfl (fun w' hs => ⟨[.string (strOfNums xl20), .int .i64 y10, .int .i64 (0 : Int)], (res_tmp (by kernel_rfl) (res_tmp (by kernel_rfl) (res_tmp (by kernel_rfl) (.nil)))), (), rfl, hs.pick (ts := []) (cs := []) trivial (by decide)⟩)
  replace H := ite_f q4 H
  refine cs_know (c := true) (congrArg Bool.not (dec_f q4)) 15 (by kernel_rfl) ?_
  refine cs_true (by kernel_rfl) ?_
  refine cs_seq ?_
  refine cs_region (l := [_, _, _, _]) ?_
  refine lv (.int .i64 t1.2.2) ?_
  refine lv (.string (⟨#[]⟩ : ByteArray)) ?_
  refine lv (.int .i64 (0 : Int)) ?_
  refine lv (.int .i64 t1.2.2) ?_
  refine ls_end ?_
  refine qn_then ?_
  refine cs_ret' ?_
  refine qr_block ?_
  refine qr_then ?_
  obtain rfl := Option.some.inj H
  refine qr_res (rs := [_, _, _]) rfl (fun w' hs => ⟨[.string (⟨#[]⟩ : ByteArray), .int .i64 (0 : Int), .int .i64 t1.2.2], (res_tmp (by kernel_rfl) (res_tmp (by kernel_rfl) (res_tmp (by kernel_rfl) (.nil)))), (), rfl, hs.pick (ts := []) (cs := []) trivial (by decide)⟩)

end Go.Proofs.Ythhhkphbhlafbaa.G
