/- Printed by a program of this session (sz.py): plain functions, and walks that show that the code comes to them; no condition. -/
import Derived.Test.YtelgglnabikkcaaProg
import Derived.Test.YtelgglnabikkcaaTy
import Derived.Test.YtelgglnabikkcaaG0
import Derived.Test.YtelgglnabikkcaaG1
import Derived.Test.YtelgglnabikkcaaG2
import Derived.Test.YtelgglnabikkcaaG3
set_option linter.unusedVariables false
namespace Go.Proofs.Ytelgglnabikkcaa.G
open Go Go.RowKit Go.Proofs.Ytelgglnabikkcaa.Sx

/-! ### shadowbox/shadowboxlaw03.ShaTells: function 6 -/
def shadowboxlaw03_ShaTells.cst0 : ByteArray := (⟨#[98, 97, 55, 56, 49, 54, 98, 102, 56, 102, 48, 49, 99, 102, 101, 97, 52, 49, 52, 49, 52, 48, 100, 101, 53, 100, 97, 101, 50, 50, 50, 51, 98, 48, 48, 51, 54, 49, 97, 51, 57, 54, 49, 55, 55, 97, 57, 99, 98, 52, 49, 48, 102, 102, 54, 49, 102, 50, 48, 48, 49, 53, 97, 100]⟩ : ByteArray)
def shadowboxlaw03_ShaTells.f (k : Nat) (l0 : List Int) : Option (Bool) :=
  (if (l0.length : Int) > (1000 : Int) then (if (1000 : Int) ≤ (l0.length : Int) then lt (l0.take ((1000 : Int)).toNat) fun xl7 => (sha_Sum.f k xl7).bind fun t12 => (shadowboxref03_Sum.f k xl7).bind fun t15 => (if (t12.1 == t15.1) = true then (sha_Text.f k xl7).bind fun t19 => (shadowboxref03_Text.f k xl7).bind fun t22 => (if (t19.toList == t22.toList) = true then (sha_Text.f k ([(97 : Int), (98 : Int), (99 : Int)])).bind fun t27 => some (t27.toList == shadowboxlaw03_ShaTells.cst0.toList) else some false) else some false) else none) else (sha_Sum.f k l0).bind fun t30 => (shadowboxref03_Sum.f k l0).bind fun t33 => (if (t30.1 == t33.1) = true then (sha_Text.f k l0).bind fun t37 => (shadowboxref03_Text.f k l0).bind fun t40 => (if (t37.toList == t40.toList) = true then (sha_Text.f k ([(97 : Int), (98 : Int), (99 : Int)])).bind fun t45 => some (t45.toList == shadowboxlaw03_ShaTells.cst0.toList) else some false) else some false))
set_option maxRecDepth 100000 in
set_option maxHeartbeats 4000000 in
theorem shadowboxlaw03_ShaTells.calls (k : Nat) (A0 : Option Addr) (c0 : Nat) (l0 : List Int) (r : Bool) (b : Bs) (hs0 : St b (stl []) b.w) (R0 : Ro b A0 (em (Ec.int 5 .u8) l0)) (C0 : l0.length ≤ c0) (H : shadowboxlaw03_ShaTells.f k l0 = some r) :
    Calls Try.prog 6 #[.slice A0 l0.length c0] b.w fun e w' => ∃ x : Unit, e = .returned (.bool r) ∧ St b (stl []) w' := by
  unfold shadowboxlaw03_ShaTells.f at H
  refine enterb (n := 26) Try.func6 rfl (by kernel_rfl) (by kernel_rfl) hs0 ?_
  refine cs_sub (s0) (sub_nil _) ?_
  refine cs_seq ?_
  refine cs_region (l := [_]) ?_
  refine ls_val (v := .bool false) rfl rfl (by kernel_rfl) (fun w => by kernel_rfl) ?_
  refine ls_end ?_
  refine qn_then ?_
  refine cs_seq ?_
  refine cs_seq ?_
  refine cs_region (l := [_, _, _]) ?_
  refine ls_val (v := .slice A0 l0.length c0) rfl rfl (by kernel_rfl) (fun w => by kernel_rfl) ?_
  refine ls_val (v := .int .i64 (l0.length : Int)) rfl rfl (by kernel_rfl) (fun w => by kernel_rfl) ?_
  refine ls_val (v := .bool (decide ((l0.length : Int) > (1000 : Int)))) rfl rfl (by kernel_rfl) (fun w => by kernel_rfl) ?_
  refine ls_end ?_
  refine qn_then ?_
  by_cases q1 : (l0.length : Int) > (1000 : Int)
  · replace H := ite_t q1 H
    refine cs_know (c := true) (dec_t q1) 5 (by kernel_rfl) ?_
    refine cs_true (by kernel_rfl) ?_
    refine cs_region (l := [_, _, _]) ?_
    refine ls_val (v := .slice A0 l0.length c0) rfl rfl (by kernel_rfl) (fun w => by kernel_rfl) ?_
    obtain ⟨q2, H⟩ := ite_need H
    obtain ⟨xl7, hy8, H⟩ := lt_some H
    have hz10 : 0 ≤ ((1000 : Int)).toNat := by omega
    have hz11 : ((1000 : Int)).toNat ≤ l0.length := by omega
    obtain ⟨xA3, xc4, he9, xC6, xR5⟩ := cut_at (A := A0) (c := c0) (l := l0) (Ec.int 5 .u8) 0 (((1000 : Int)).toNat) hz10 hz11 C0 R0 (m := xl7) (by rw [← hy8] <;> simp) (z := 1) rfl
    refine ls_cutv (A := A0) (c := c0) (m := l0.length) (z := 1) (e := 5) (a := 0) (b := ((1000 : Int)).toNat) rfl rfl (by kernel_rfl) rfl (by kernel_rfl) (by kernel_rfl) (by kernel_rfl) (.inl ⟨rfl, rfl⟩) (.inr ⟨.i64, by rw [Int.toNat_of_nonneg (by first | assumption | omega)]; kernel_rfl⟩) hz10 hz11 C0 he9 ?_
    refine ls_val (v := .slice xA3 xl7.length xc4) rfl rfl (by kernel_rfl) (fun w => by kernel_rfl) ?_
    refine ls_end ?_
    refine qn_then ?_
    refine cs_seq ?_
    refine cs_region (l := [_, _, _, _, _, _, _, _, _, _, _, _, _, _, _, _, _, _, _]) ?_
    refine ls_val (v := .slice xA3 xl7.length xc4) rfl rfl (by kernel_rfl) (fun w => by kernel_rfl) ?_
    obtain ⟨t12, hc13, H⟩ := bind_some H
    refine ls_callb (fid := 18) (vals := #[.slice xA3 xl7.length xc4]) (X := Unit) (fun x => .agg ⟨en (Value.int .u8) t12.1⟩) (fun x => stl []) [] [] [] [] 0 rfl rfl (by kernel_rfl) (fun w => by kernel_rfl) trivial trivial (by decide) (fun w hs hb => sha_Sum.calls k xA3 xc4 xl7 t12 (lent b w [] []) hb (hs.ro xR5 _ _) xC6 hc13) ?_
    intro x14
    refine ls_val (v := .slice xA3 xl7.length xc4) rfl rfl (by kernel_rfl) (fun w => by kernel_rfl) ?_
    obtain ⟨t15, hc16, H⟩ := bind_some H
    refine ls_callb (fid := 19) (vals := #[.slice xA3 xl7.length xc4]) (X := Unit) (fun x => .agg ⟨en (Value.int .u8) t15.1⟩) (fun x => stl []) [] [] [] [] 0 rfl rfl (by kernel_rfl) (fun w => by kernel_rfl) trivial trivial (by decide) (fun w hs hb => shadowboxref03_Sum.calls k xA3 xc4 xl7 t15 (lent b w [] []) hb (hs.ro xR5 _ _) xC6 hc16) ?_
    intro x17
    refine ls_eql (xs := en (Value.int .u8) t12.1) (ys := en (Value.int .u8) t15.1) (r := (t12.1 == t15.1)) rfl rfl (by kernel_rfl) rfl (by kernel_rfl) (by kernel_rfl) (by kernel_rfl) (eq_ints (e := 5) (ln := 32) (by kernel_rfl) (by kernel_rfl) (by kernel_rfl) t12.2 t15.2 _) ?_
    refine ls_val (v := .bool (t12.1 == t15.1)) rfl rfl (by kernel_rfl) (fun w => by kernel_rfl) ?_
    by_cases q18 : (t12.1 == t15.1) = true
    · replace H := ite_t q18 H
      refine ls_know (c := true) (q18) 13 (by kernel_rfl) ?_
      refine ls_on (j := 5) (t := 13) (b := true) rfl rfl (by kernel_rfl) (by kernel_rfl) ?_
      refine ls_val (v := .slice xA3 xl7.length xc4) rfl rfl (by kernel_rfl) (fun w => by kernel_rfl) ?_
      refine ls_on (j := 5) (t := 13) (b := true) rfl rfl (by kernel_rfl) (by kernel_rfl) ?_
      obtain ⟨t19, hc20, H⟩ := bind_some H
      refine ls_callb (fid := 20) (vals := #[.slice xA3 xl7.length xc4]) (X := Unit) (fun x => .string t19) (fun x => stl []) [] [] [] [] 0 rfl rfl (by kernel_rfl) (fun w => by kernel_rfl) trivial trivial (by decide) (fun w hs hb => sha_Text.calls k xA3 xc4 xl7 t19 (lent b w [] []) hb (hs.ro xR5 _ _) xC6 hc20) ?_
      intro x21
      refine ls_on (j := 5) (t := 13) (b := true) rfl rfl (by kernel_rfl) (by kernel_rfl) ?_
      refine ls_val (v := .slice xA3 xl7.length xc4) rfl rfl (by kernel_rfl) (fun w => by kernel_rfl) ?_
      refine ls_on (j := 5) (t := 13) (b := true) rfl rfl (by kernel_rfl) (by kernel_rfl) ?_
      obtain ⟨t22, hc23, H⟩ := bind_some H
      refine ls_callb (fid := 21) (vals := #[.slice xA3 xl7.length xc4]) (X := Unit) (fun x => .string t22) (fun x => stl []) [] [] [] [] 0 rfl rfl (by kernel_rfl) (fun w => by kernel_rfl) trivial trivial (by decide) (fun w hs hb => shadowboxref03_Text.calls k xA3 xc4 xl7 t22 (lent b w [] []) hb (hs.ro xR5 _ _) xC6 hc23) ?_
      intro x24
      refine ls_on (j := 5) (t := 13) (b := true) rfl rfl (by kernel_rfl) (by kernel_rfl) ?_
      refine ls_val (v := .bool (t19.toList == t22.toList)) rfl rfl (by kernel_rfl) (fun w => by kernel_rfl) ?_
      refine ls_val (v := .bool (t19.toList == t22.toList)) rfl rfl (by kernel_rfl) (fun w => by kernel_rfl) ?_
      refine ls_val (v := .bool (t19.toList == t22.toList)) rfl rfl (by kernel_rfl) (fun w => by kernel_rfl) ?_
      by_cases q25 : (t19.toList == t22.toList) = true
      · replace H := ite_t q25 H
        refine ls_know (c := true) (q25) 20 (by kernel_rfl) ?_
        refine ls_on (j := 12) (t := 20) (b := true) rfl rfl (by kernel_rfl) (by kernel_rfl) ?_
        refine ls_lit (Ec.int 5 .u8) 0 rfl rfl (by kernel_rfl) ([(97 : Int), (98 : Int), (99 : Int)]) (by exact of_decide_eq_true (by kernel_rfl)) (fun w => by kernel_rfl) ?_
        intro g26
        refine ls_on (j := 12) (t := 20) (b := true) rfl rfl (by kernel_rfl) (by kernel_rfl) ?_
        refine ls_conv (g := g26) (l := ([(97 : Int), (98 : Int), (99 : Int)])) (e := 5) 0 rfl rfl (by kernel_rfl) rfl (by kernel_rfl) (by kernel_rfl) (by kernel_rfl) (by exact rfl) ?_
        refine ls_on (j := 12) (t := 20) (b := true) rfl rfl (by kernel_rfl) (by kernel_rfl) ?_
        obtain ⟨t27, hc28, H⟩ := bind_some H
        refine ls_callb (fid := 20) (vals := #[.slice (some ⟨g26, 0, none⟩) ([(97 : Int), (98 : Int), (99 : Int)]).length [(97 : Int), (98 : Int), (99 : Int)].length]) (X := Unit) (fun x => .string t27) (fun x => stl []) [] [0] [] [Ck.rs g26 (em (Ec.int 5 .u8) ([(97 : Int), (98 : Int), (99 : Int)]))] 1 rfl rfl (by kernel_rfl) (fun w => by kernel_rfl) trivial ⟨by exact rfl, trivial⟩ (by decide) (fun w hs hb => sha_Text.calls k (some ⟨g26, 0, none⟩) ([(97 : Int), (98 : Int), (99 : Int)].length) ([(97 : Int), (98 : Int), (99 : Int)]) t27 (lent b w [] [Ck.rs g26 (em (Ec.int 5 .u8) ([(97 : Int), (98 : Int), (99 : Int)]))]) hb (Rd.ror (hs.rs (k := 0) (by exact rfl)) (.head _) Ck.rs_key) (Nat.le_refl _) hc28) ?_
        intro x29
        refine ls_on (j := 12) (t := 20) (b := true) rfl rfl (by kernel_rfl) (by kernel_rfl) ?_
        refine ls_val (v := .bool (t27.toList == shadowboxlaw03_ShaTells.cst0.toList)) rfl rfl (by kernel_rfl) (fun w => by kernel_rfl) ?_
        refine ls_val (v := .bool (t27.toList == shadowboxlaw03_ShaTells.cst0.toList)) rfl rfl (by kernel_rfl) (fun w => by kernel_rfl) ?_
        refine ls_val (v := .bool (t27.toList == shadowboxlaw03_ShaTells.cst0.toList)) rfl rfl (by kernel_rfl) (fun w => by kernel_rfl) ?_
        refine ls_end ?_
        refine qn_then ?_
        refine cs_ret' ?_
        obtain rfl := Option.some.inj H
        refine qr_res (rs := [_]) rfl (fun w' hs => ⟨[.bool (t27.toList == shadowboxlaw03_ShaTells.cst0.toList)], (res_tmp (by kernel_rfl) (.nil)), (), rfl, hs.pick (ts := []) (cs := []) trivial (by decide)⟩)
      · replace H := ite_f q25 H
        refine ls_know (c := false) (Bool.eq_false_iff.mpr q25) 20 (by kernel_rfl) ?_
        refine ls_off (j := 12) (t := 20) (b := true) (c := false) rfl rfl (by kernel_rfl) (by kernel_rfl) rfl rfl (by kernel_rfl) ?_
        refine ls_off (j := 12) (t := 20) (b := true) (c := false) rfl rfl (by kernel_rfl) (by kernel_rfl) rfl rfl (by kernel_rfl) ?_
        refine ls_off (j := 12) (t := 20) (b := true) (c := false) rfl rfl (by kernel_rfl) (by kernel_rfl) rfl rfl (by kernel_rfl) ?_
        refine ls_off (j := 12) (t := 20) (b := true) (c := false) rfl rfl (by kernel_rfl) (by kernel_rfl) rfl rfl (by kernel_rfl) ?_
        refine ls_val (v := .bool false) rfl rfl (by kernel_rfl) (fun w => by kernel_rfl) ?_
        refine ls_val (v := .bool false) rfl rfl (by kernel_rfl) (fun w => by kernel_rfl) ?_
        refine ls_end ?_
        refine qn_then ?_
        refine cs_ret' ?_
        obtain rfl := Option.some.inj H
        refine qr_res (rs := [_]) rfl (fun w' hs => ⟨[.bool false], (res_tmp (by kernel_rfl) (.nil)), (), rfl, hs.pick (ts := []) (cs := []) trivial (by decide)⟩)
    · replace H := ite_f q18 H
      refine ls_know (c := false) (Bool.eq_false_iff.mpr q18) 13 (by kernel_rfl) ?_
      refine ls_off (j := 5) (t := 13) (b := true) (c := false) rfl rfl (by kernel_rfl) (by kernel_rfl) rfl rfl (by kernel_rfl) ?_
      refine ls_off (j := 5) (t := 13) (b := true) (c := false) rfl rfl (by kernel_rfl) (by kernel_rfl) rfl rfl (by kernel_rfl) ?_
      refine ls_off (j := 5) (t := 13) (b := true) (c := false) rfl rfl (by kernel_rfl) (by kernel_rfl) rfl rfl (by kernel_rfl) ?_
      refine ls_off (j := 5) (t := 13) (b := true) (c := false) rfl rfl (by kernel_rfl) (by kernel_rfl) rfl rfl (by kernel_rfl) ?_
      refine ls_off (j := 5) (t := 13) (b := true) (c := false) rfl rfl (by kernel_rfl) (by kernel_rfl) rfl rfl (by kernel_rfl) ?_
      refine ls_val (v := .bool false) rfl rfl (by kernel_rfl) (fun w => by kernel_rfl) ?_
      refine ls_val (v := .bool false) rfl rfl (by kernel_rfl) (fun w => by kernel_rfl) ?_
      refine ls_off (j := 12) (t := 20) (b := true) (c := false) rfl rfl (by kernel_rfl) (by kernel_rfl) rfl rfl (by kernel_rfl) ?_
      refine ls_off (j := 12) (t := 20) (b := true) (c := false) rfl rfl (by kernel_rfl) (by kernel_rfl) rfl rfl (by kernel_rfl) ?_
      refine ls_off (j := 12) (t := 20) (b := true) (c := false) rfl rfl (by kernel_rfl) (by kernel_rfl) rfl rfl (by kernel_rfl) ?_
      refine ls_off (j := 12) (t := 20) (b := true) (c := false) rfl rfl (by kernel_rfl) (by kernel_rfl) rfl rfl (by kernel_rfl) ?_
      refine ls_val (v := .bool false) rfl rfl (by kernel_rfl) (fun w => by kernel_rfl) ?_
      refine ls_val (v := .bool false) rfl rfl (by kernel_rfl) (fun w => by kernel_rfl) ?_
      refine ls_end ?_
      refine qn_then ?_
      refine cs_ret' ?_
      obtain rfl := Option.some.inj H
      refine qr_res (rs := [_]) rfl (fun w' hs => ⟨[.bool false], (res_tmp (by kernel_rfl) (.nil)), (), rfl, hs.pick (ts := []) (cs := []) trivial (by decide)⟩)
  · replace H := ite_f q1 H
    refine cs_know (c := false) (dec_f q1) 5 (by kernel_rfl) ?_
    refine cs_false (by kernel_rfl) ?_
    refine cs_skip' ?_
    refine qn_then ?_
    refine cs_seq ?_
    refine cs_region (l := [_, _, _, _, _, _, _, _, _, _, _, _, _, _, _, _, _, _, _]) ?_
    refine ls_val (v := .slice A0 l0.length c0) rfl rfl (by kernel_rfl) (fun w => by kernel_rfl) ?_
    obtain ⟨t30, hc31, H⟩ := bind_some H
    refine ls_callb (fid := 18) (vals := #[.slice A0 l0.length c0]) (X := Unit) (fun x => .agg ⟨en (Value.int .u8) t30.1⟩) (fun x => stl []) [] [] [] [] 0 rfl rfl (by kernel_rfl) (fun w => by kernel_rfl) trivial trivial (by decide) (fun w hs hb => sha_Sum.calls k A0 c0 l0 t30 (lent b w [] []) hb (hs.ro R0 _ _) C0 hc31) ?_
    intro x32
    refine ls_val (v := .slice A0 l0.length c0) rfl rfl (by kernel_rfl) (fun w => by kernel_rfl) ?_
    obtain ⟨t33, hc34, H⟩ := bind_some H
    refine ls_callb (fid := 19) (vals := #[.slice A0 l0.length c0]) (X := Unit) (fun x => .agg ⟨en (Value.int .u8) t33.1⟩) (fun x => stl []) [] [] [] [] 0 rfl rfl (by kernel_rfl) (fun w => by kernel_rfl) trivial trivial (by decide) (fun w hs hb => shadowboxref03_Sum.calls k A0 c0 l0 t33 (lent b w [] []) hb (hs.ro R0 _ _) C0 hc34) ?_
    intro x35
    refine ls_eql (xs := en (Value.int .u8) t30.1) (ys := en (Value.int .u8) t33.1) (r := (t30.1 == t33.1)) rfl rfl (by kernel_rfl) rfl (by kernel_rfl) (by kernel_rfl) (by kernel_rfl) (eq_ints (e := 5) (ln := 32) (by kernel_rfl) (by kernel_rfl) (by kernel_rfl) t30.2 t33.2 _) ?_
    refine ls_val (v := .bool (t30.1 == t33.1)) rfl rfl (by kernel_rfl) (fun w => by kernel_rfl) ?_
    by_cases q36 : (t30.1 == t33.1) = true
    · replace H := ite_t q36 H
      refine ls_know (c := true) (q36) 13 (by kernel_rfl) ?_
      refine ls_on (j := 5) (t := 13) (b := true) rfl rfl (by kernel_rfl) (by kernel_rfl) ?_
      refine ls_val (v := .slice A0 l0.length c0) rfl rfl (by kernel_rfl) (fun w => by kernel_rfl) ?_
      refine ls_on (j := 5) (t := 13) (b := true) rfl rfl (by kernel_rfl) (by kernel_rfl) ?_
      obtain ⟨t37, hc38, H⟩ := bind_some H
      refine ls_callb (fid := 20) (vals := #[.slice A0 l0.length c0]) (X := Unit) (fun x => .string t37) (fun x => stl []) [] [] [] [] 0 rfl rfl (by kernel_rfl) (fun w => by kernel_rfl) trivial trivial (by decide) (fun w hs hb => sha_Text.calls k A0 c0 l0 t37 (lent b w [] []) hb (hs.ro R0 _ _) C0 hc38) ?_
      intro x39
      refine ls_on (j := 5) (t := 13) (b := true) rfl rfl (by kernel_rfl) (by kernel_rfl) ?_
      refine ls_val (v := .slice A0 l0.length c0) rfl rfl (by kernel_rfl) (fun w => by kernel_rfl) ?_
      refine ls_on (j := 5) (t := 13) (b := true) rfl rfl (by kernel_rfl) (by kernel_rfl) ?_
      obtain ⟨t40, hc41, H⟩ := bind_some H
      refine ls_callb (fid := 21) (vals := #[.slice A0 l0.length c0]) (X := Unit) (fun x => .string t40) (fun x => stl []) [] [] [] [] 0 rfl rfl (by kernel_rfl) (fun w => by kernel_rfl) trivial trivial (by decide) (fun w hs hb => shadowboxref03_Text.calls k A0 c0 l0 t40 (lent b w [] []) hb (hs.ro R0 _ _) C0 hc41) ?_
      intro x42
      refine ls_on (j := 5) (t := 13) (b := true) rfl rfl (by kernel_rfl) (by kernel_rfl) ?_
      refine ls_val (v := .bool (t37.toList == t40.toList)) rfl rfl (by kernel_rfl) (fun w => by kernel_rfl) ?_
      refine ls_val (v := .bool (t37.toList == t40.toList)) rfl rfl (by kernel_rfl) (fun w => by kernel_rfl) ?_
      refine ls_val (v := .bool (t37.toList == t40.toList)) rfl rfl (by kernel_rfl) (fun w => by kernel_rfl) ?_
      by_cases q43 : (t37.toList == t40.toList) = true
      · replace H := ite_t q43 H
        refine ls_know (c := true) (q43) 20 (by kernel_rfl) ?_
        refine ls_on (j := 12) (t := 20) (b := true) rfl rfl (by kernel_rfl) (by kernel_rfl) ?_
        refine ls_lit (Ec.int 5 .u8) 0 rfl rfl (by kernel_rfl) ([(97 : Int), (98 : Int), (99 : Int)]) (by exact of_decide_eq_true (by kernel_rfl)) (fun w => by kernel_rfl) ?_
        intro g44
        refine ls_on (j := 12) (t := 20) (b := true) rfl rfl (by kernel_rfl) (by kernel_rfl) ?_
        refine ls_conv (g := g44) (l := ([(97 : Int), (98 : Int), (99 : Int)])) (e := 5) 0 rfl rfl (by kernel_rfl) rfl (by kernel_rfl) (by kernel_rfl) (by kernel_rfl) (by exact rfl) ?_
        refine ls_on (j := 12) (t := 20) (b := true) rfl rfl (by kernel_rfl) (by kernel_rfl) ?_
        obtain ⟨t45, hc46, H⟩ := bind_some H
        refine ls_callb (fid := 20) (vals := #[.slice (some ⟨g44, 0, none⟩) ([(97 : Int), (98 : Int), (99 : Int)]).length [(97 : Int), (98 : Int), (99 : Int)].length]) (X := Unit) (fun x => .string t45) (fun x => stl []) [] [0] [] [Ck.rs g44 (em (Ec.int 5 .u8) ([(97 : Int), (98 : Int), (99 : Int)]))] 1 rfl rfl (by kernel_rfl) (fun w => by kernel_rfl) trivial ⟨by exact rfl, trivial⟩ (by decide) (fun w hs hb => sha_Text.calls k (some ⟨g44, 0, none⟩) ([(97 : Int), (98 : Int), (99 : Int)].length) ([(97 : Int), (98 : Int), (99 : Int)]) t45 (lent b w [] [Ck.rs g44 (em (Ec.int 5 .u8) ([(97 : Int), (98 : Int), (99 : Int)]))]) hb (Rd.ror (hs.rs (k := 0) (by exact rfl)) (.head _) Ck.rs_key) (Nat.le_refl _) hc46) ?_
        intro x47
        refine ls_on (j := 12) (t := 20) (b := true) rfl rfl (by kernel_rfl) (by kernel_rfl) ?_
        refine ls_val (v := .bool (t45.toList == shadowboxlaw03_ShaTells.cst0.toList)) rfl rfl (by kernel_rfl) (fun w => by kernel_rfl) ?_
        refine ls_val (v := .bool (t45.toList == shadowboxlaw03_ShaTells.cst0.toList)) rfl rfl (by kernel_rfl) (fun w => by kernel_rfl) ?_
        refine ls_val (v := .bool (t45.toList == shadowboxlaw03_ShaTells.cst0.toList)) rfl rfl (by kernel_rfl) (fun w => by kernel_rfl) ?_
        refine ls_end ?_
        refine qn_then ?_
        refine cs_ret' ?_
        obtain rfl := Option.some.inj H
        refine qr_res (rs := [_]) rfl (fun w' hs => ⟨[.bool (t45.toList == shadowboxlaw03_ShaTells.cst0.toList)], (res_tmp (by kernel_rfl) (.nil)), (), rfl, hs.pick (ts := []) (cs := []) trivial (by decide)⟩)
      · replace H := ite_f q43 H
        refine ls_know (c := false) (Bool.eq_false_iff.mpr q43) 20 (by kernel_rfl) ?_
        refine ls_off (j := 12) (t := 20) (b := true) (c := false) rfl rfl (by kernel_rfl) (by kernel_rfl) rfl rfl (by kernel_rfl) ?_
        refine ls_off (j := 12) (t := 20) (b := true) (c := false) rfl rfl (by kernel_rfl) (by kernel_rfl) rfl rfl (by kernel_rfl) ?_
        refine ls_off (j := 12) (t := 20) (b := true) (c := false) rfl rfl (by kernel_rfl) (by kernel_rfl) rfl rfl (by kernel_rfl) ?_
        refine ls_off (j := 12) (t := 20) (b := true) (c := false) rfl rfl (by kernel_rfl) (by kernel_rfl) rfl rfl (by kernel_rfl) ?_
        refine ls_val (v := .bool false) rfl rfl (by kernel_rfl) (fun w => by kernel_rfl) ?_
        refine ls_val (v := .bool false) rfl rfl (by kernel_rfl) (fun w => by kernel_rfl) ?_
        refine ls_end ?_
        refine qn_then ?_
        refine cs_ret' ?_
        obtain rfl := Option.some.inj H
        refine qr_res (rs := [_]) rfl (fun w' hs => ⟨[.bool false], (res_tmp (by kernel_rfl) (.nil)), (), rfl, hs.pick (ts := []) (cs := []) trivial (by decide)⟩)
    · replace H := ite_f q36 H
      refine ls_know (c := false) (Bool.eq_false_iff.mpr q36) 13 (by kernel_rfl) ?_
      refine ls_off (j := 5) (t := 13) (b := true) (c := false) rfl rfl (by kernel_rfl) (by kernel_rfl) rfl rfl (by kernel_rfl) ?_
      refine ls_off (j := 5) (t := 13) (b := true) (c := false) rfl rfl (by kernel_rfl) (by kernel_rfl) rfl rfl (by kernel_rfl) ?_
      refine ls_off (j := 5) (t := 13) (b := true) (c := false) rfl rfl (by kernel_rfl) (by kernel_rfl) rfl rfl (by kernel_rfl) ?_
      refine ls_off (j := 5) (t := 13) (b := true) (c := false) rfl rfl (by kernel_rfl) (by kernel_rfl) rfl rfl (by kernel_rfl) ?_
      refine ls_off (j := 5) (t := 13) (b := true) (c := false) rfl rfl (by kernel_rfl) (by kernel_rfl) rfl rfl (by kernel_rfl) ?_
      refine ls_val (v := .bool false) rfl rfl (by kernel_rfl) (fun w => by kernel_rfl) ?_
      refine ls_val (v := .bool false) rfl rfl (by kernel_rfl) (fun w => by kernel_rfl) ?_
      refine ls_off (j := 12) (t := 20) (b := true) (c := false) rfl rfl (by kernel_rfl) (by kernel_rfl) rfl rfl (by kernel_rfl) ?_
      refine ls_off (j := 12) (t := 20) (b := true) (c := false) rfl rfl (by kernel_rfl) (by kernel_rfl) rfl rfl (by kernel_rfl) ?_
      refine ls_off (j := 12) (t := 20) (b := true) (c := false) rfl rfl (by kernel_rfl) (by kernel_rfl) rfl rfl (by kernel_rfl) ?_
      refine ls_off (j := 12) (t := 20) (b := true) (c := false) rfl rfl (by kernel_rfl) (by kernel_rfl) rfl rfl (by kernel_rfl) ?_
      refine ls_val (v := .bool false) rfl rfl (by kernel_rfl) (fun w => by kernel_rfl) ?_
      refine ls_val (v := .bool false) rfl rfl (by kernel_rfl) (fun w => by kernel_rfl) ?_
      refine ls_end ?_
      refine qn_then ?_
      refine cs_ret' ?_
      obtain rfl := Option.some.inj H
      refine qr_res (rs := [_]) rfl (fun w' hs => ⟨[.bool false], (res_tmp (by kernel_rfl) (.nil)), (), rfl, hs.pick (ts := []) (cs := []) trivial (by decide)⟩)

end Go.Proofs.Ytelgglnabikkcaa.G
