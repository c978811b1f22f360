/- Printed by a program of this session (sz.py): plain functions, and walks that show that the code comes to them; no condition. -/
import Derived.Test.YtnkcadofhhcfaaaProg
import Derived.Test.YtnkcadofhhcfaaaTy
import Derived.Test.YtnkcadofhhcfaaaG0
import Derived.Test.YtnkcadofhhcfaaaG1
import Derived.Test.YtnkcadofhhcfaaaG2
import Derived.Test.YtnkcadofhhcfaaaG3
set_option linter.unusedVariables false
set_option linter.unusedSimpArgs false
namespace Go.Proofs.Ytnkcadofhhcfaaa.G
open Go Go.RowKit Go.Proofs.Ytnkcadofhhcfaaa.Sx

/-! ### shadowbox/shadowboxlaw12.HmacTells: function 3 -/
def shadowboxlaw12_HmacTells.cst0 : ByteArray := (⟨#[102, 55, 98, 99, 56, 51, 102, 52, 51, 48, 53, 51, 56, 52, 50, 52, 98, 49, 51, 50, 57, 56, 101, 54, 97, 97, 54, 102, 98, 49, 52, 51, 101, 102, 52, 100, 53, 57, 97, 49, 52, 57, 52, 54, 49, 55, 53, 57, 57, 55, 52, 55, 57, 100, 98, 99, 50, 100, 49, 97, 51, 99, 100, 56]⟩ : ByteArray)
def shadowboxlaw12_HmacTells.jo1 (k : Nat) (l1 : List Int) (l0_1 : List Int) : Option (Bool) := (if (l1.length : Int) > (500 : Int) then (if (500 : Int) ≤ (l1.length : Int) then lt (l1.take ((500 : Int)).toNat) fun xl7 => (hmac_Mac.f k l0_1 xl7).bind fun t12 => (shadowboxref12_Mac.f k l0_1 xl7).bind fun t15 => (if (t12.1 == t15.1) = true then (hmac_Text.f k l0_1 xl7).bind fun t19 => (shadowboxref12_Text.f k l0_1 xl7).bind fun t22 => (if (t19.toList == t22.toList) = true then (hmac_Text.f k ([(107 : Int), (101 : Int), (121 : Int)]) ([(84 : Int), (104 : Int), (101 : Int), (32 : Int), (113 : Int), (117 : Int), (105 : Int), (99 : Int), (107 : Int), (32 : Int), (98 : Int), (114 : Int), (111 : Int), (119 : Int), (110 : Int), (32 : Int), (102 : Int), (111 : Int), (120 : Int), (32 : Int), (106 : Int), (117 : Int), (109 : Int), (112 : Int), (115 : Int), (32 : Int), (111 : Int), (118 : Int), (101 : Int), (114 : Int), (32 : Int), (116 : Int), (104 : Int), (101 : Int), (32 : Int), (108 : Int), (97 : Int), (122 : Int), (121 : Int), (32 : Int), (100 : Int), (111 : Int), (103 : Int)])).bind fun t28 => some (t28.toList == shadowboxlaw12_HmacTells.cst0.toList) else some false) else some false) else none) else (hmac_Mac.f k l0_1 l1).bind fun t31 => (shadowboxref12_Mac.f k l0_1 l1).bind fun t34 => (if (t31.1 == t34.1) = true then (hmac_Text.f k l0_1 l1).bind fun t38 => (shadowboxref12_Text.f k l0_1 l1).bind fun t41 => (if (t38.toList == t41.toList) = true then (hmac_Text.f k ([(107 : Int), (101 : Int), (121 : Int)]) ([(84 : Int), (104 : Int), (101 : Int), (32 : Int), (113 : Int), (117 : Int), (105 : Int), (99 : Int), (107 : Int), (32 : Int), (98 : Int), (114 : Int), (111 : Int), (119 : Int), (110 : Int), (32 : Int), (102 : Int), (111 : Int), (120 : Int), (32 : Int), (106 : Int), (117 : Int), (109 : Int), (112 : Int), (115 : Int), (32 : Int), (111 : Int), (118 : Int), (101 : Int), (114 : Int), (32 : Int), (116 : Int), (104 : Int), (101 : Int), (32 : Int), (108 : Int), (97 : Int), (122 : Int), (121 : Int), (32 : Int), (100 : Int), (111 : Int), (103 : Int)])).bind fun t47 => some (t47.toList == shadowboxlaw12_HmacTells.cst0.toList) else some false) else some false))
def shadowboxlaw12_HmacTells.f (k : Nat) (l0 : List Int) (l1 : List Int) : Option (Bool) :=
  (if (l0.length : Int) > (200 : Int) then (if (200 : Int) ≤ (l0.length : Int) then lt (l0.take ((200 : Int)).toNat) fun xl56 => (shadowboxlaw12_HmacTells.jo1 k l1) xl56 else none) else (shadowboxlaw12_HmacTells.jo1 k l1) l0)
set_option maxRecDepth 100000 in
set_option maxHeartbeats 4000000 in
theorem shadowboxlaw12_HmacTells.calls (k : Nat) (A0 : Option Addr) (c0 : Nat) (l0 : List Int) (A1 : Option Addr) (c1 : Nat) (l1 : List Int) (r : Bool) (b : Bs) (hs0 : St b (stl []) b.w) (R0 : Ro b A0 (em (Ec.int 5 .u8) l0)) (C0 : l0.length ≤ c0) (R1 : Ro b A1 (em (Ec.int 5 .u8) l1)) (C1 : l1.length ≤ c1) (H : shadowboxlaw12_HmacTells.f k l0 l1 = some r) :
    Calls Try.prog 3 #[.slice A0 l0.length c0, .slice A1 l1.length c1] b.w fun e w' => ∃ x : Unit, e = .returned (.bool r) ∧ St b (stl []) w' := by
  unfold shadowboxlaw12_HmacTells.f at H
  refine enterb (n := 39) Try.func3 rfl (by kernel_rfl) (by kernel_rfl) hs0 ?_
  refine cs_sub (s0) (sub_nil _) ?_
  refine cs_seq ?_
  refine cs_region (l := [_]) ?_
  refine ls_val (v := .bool false) rfl rfl (by kernel_rfl) (fun w => by kernel_rfl) ?_
  refine ls_end ?_
  refine qn_then ?_
  refine cs_cut (fun f S => ∃ (fR : Fr) (A0_1 : Option Addr) (c0_1 : Nat) (l0_1 : List Int), f = upd (upd fR 0 (.slice A0_1 l0_1.length c0_1)) 1 (.slice A1 l1.length c1) ∧ S = s0 ∧ Ro b A0_1 (em (Ec.int 5 .u8) l0_1) ∧ l0_1.length ≤ c0_1 ∧ shadowboxlaw12_HmacTells.jo1 k l1 l0_1 = some r) ?_ ?_
  · skip
    refine cs_seq ?_
    refine cs_region (l := [_, _, _]) ?_
    refine ls_val (v := .slice A0 l0.length c0) rfl rfl (by kernel_rfl) (fun w => by kernel_rfl) ?_
    refine ls_val (v := .int .i64 (l0.length : Int)) rfl rfl (by kernel_rfl) (fun w => by kernel_rfl) ?_
    refine ls_val (v := .bool (decide ((l0.length : Int) > (200 : Int)))) rfl rfl (by kernel_rfl) (fun w => by kernel_rfl) ?_
    refine ls_end ?_
    refine qn_then ?_
    by_cases q50 : (l0.length : Int) > (200 : Int)
    · replace H := ite_t q50 H
      refine cs_know (c := true) (dec_t q50) 7 (by kernel_rfl) ?_
      refine cs_true (by kernel_rfl) ?_
      refine cs_region (l := [_, _, _]) ?_
      refine ls_val (v := .slice A0 l0.length c0) rfl rfl (by kernel_rfl) (fun w => by kernel_rfl) ?_
      obtain ⟨q51, H⟩ := ite_need H
      obtain ⟨xl56, hy57, H⟩ := lt_some H
      have hz59 : 0 ≤ ((200 : Int)).toNat := by omega
      have hz60 : ((200 : Int)).toNat ≤ l0.length := by omega
      obtain ⟨xA52, xc53, he58, xC55, xR54⟩ := cut_at (A := A0) (c := c0) (l := l0) (Ec.int 5 .u8) 0 (((200 : Int)).toNat) hz59 hz60 C0 R0 (m := xl56) (by rw [← hy57] <;> simp) (z := 1) rfl
      refine ls_cutv (A := A0) (c := c0) (m := l0.length) (z := 1) (e := 5) (a := 0) (b := ((200 : Int)).toNat) rfl rfl (by kernel_rfl) rfl (by kernel_rfl) (by kernel_rfl) (by kernel_rfl) (.inl ⟨rfl, rfl⟩) (.inr ⟨.i64, by rw [Int.toNat_of_nonneg (by first | assumption | omega)]; kernel_rfl⟩) hz59 hz60 C0 he58 ?_
      refine ls_val (v := .slice xA52 xl56.length xc53) rfl rfl (by kernel_rfl) (fun w => by kernel_rfl) ?_
      refine ls_end ?_
      refine qn_meet (s0) ⟨_, xA52, xc53, xl56, fr_next (fr_next (rfl) (by kernel_rfl)) (by kernel_rfl), rfl, xR54, xC55, H⟩ (sub_nil _)
    · replace H := ite_f q50 H
      refine cs_know (c := false) (dec_f q50) 7 (by kernel_rfl) ?_
      refine cs_false (by kernel_rfl) ?_
      refine cs_skip' ?_
      refine qn_meet (s0) ⟨_, A0, c0, l0, fr_next (fr_next (rfl) (by kernel_rfl)) (by kernel_rfl), rfl, R0, C0, H⟩ (sub_nil _)
  · rintro f S ⟨fr1, A0_1, c0_1, l0_1, rfl, rfl, R0_1, C0_1, H⟩
    replace H : ((if (l1.length : Int) > (500 : Int) then (if (500 : Int) ≤ (l1.length : Int) then lt (l1.take ((500 : Int)).toNat) fun xl7 => (hmac_Mac.f k l0_1 xl7).bind fun t12 => (shadowboxref12_Mac.f k l0_1 xl7).bind fun t15 => (if (t12.1 == t15.1) = true then (hmac_Text.f k l0_1 xl7).bind fun t19 => (shadowboxref12_Text.f k l0_1 xl7).bind fun t22 => (if (t19.toList == t22.toList) = true then (hmac_Text.f k ([(107 : Int), (101 : Int), (121 : Int)]) ([(84 : Int), (104 : Int), (101 : Int), (32 : Int), (113 : Int), (117 : Int), (105 : Int), (99 : Int), (107 : Int), (32 : Int), (98 : Int), (114 : Int), (111 : Int), (119 : Int), (110 : Int), (32 : Int), (102 : Int), (111 : Int), (120 : Int), (32 : Int), (106 : Int), (117 : Int), (109 : Int), (112 : Int), (115 : Int), (32 : Int), (111 : Int), (118 : Int), (101 : Int), (114 : Int), (32 : Int), (116 : Int), (104 : Int), (101 : Int), (32 : Int), (108 : Int), (97 : Int), (122 : Int), (121 : Int), (32 : Int), (100 : Int), (111 : Int), (103 : Int)])).bind fun t28 => some (t28.toList == shadowboxlaw12_HmacTells.cst0.toList) else some false) else some false) else none) else (hmac_Mac.f k l0_1 l1).bind fun t31 => (shadowboxref12_Mac.f k l0_1 l1).bind fun t34 => (if (t31.1 == t34.1) = true then (hmac_Text.f k l0_1 l1).bind fun t38 => (shadowboxref12_Text.f k l0_1 l1).bind fun t41 => (if (t38.toList == t41.toList) = true then (hmac_Text.f k ([(107 : Int), (101 : Int), (121 : Int)]) ([(84 : Int), (104 : Int), (101 : Int), (32 : Int), (113 : Int), (117 : Int), (105 : Int), (99 : Int), (107 : Int), (32 : Int), (98 : Int), (114 : Int), (111 : Int), (119 : Int), (110 : Int), (32 : Int), (102 : Int), (111 : Int), (120 : Int), (32 : Int), (106 : Int), (117 : Int), (109 : Int), (112 : Int), (115 : Int), (32 : Int), (111 : Int), (118 : Int), (101 : Int), (114 : Int), (32 : Int), (116 : Int), (104 : Int), (101 : Int), (32 : Int), (108 : Int), (97 : Int), (122 : Int), (121 : Int), (32 : Int), (100 : Int), (111 : Int), (103 : Int)])).bind fun t47 => some (t47.toList == shadowboxlaw12_HmacTells.cst0.toList) else some false) else some false))) = some r := H
    refine cs_seq ?_
    refine cs_seq ?_
    refine cs_region (l := [_, _, _]) ?_
    refine ls_val (v := .slice A1 l1.length c1) rfl rfl (by kernel_rfl) (fun w => by kernel_rfl) ?_
    refine ls_val (v := .int .i64 (l1.length : Int)) rfl rfl (by kernel_rfl) (fun w => by kernel_rfl) ?_
    refine ls_val (v := .bool (decide ((l1.length : Int) > (500 : Int)))) rfl rfl (by kernel_rfl) (fun w => by kernel_rfl) ?_
    refine ls_end ?_
    refine qn_then ?_
    by_cases q1 : (l1.length : Int) > (500 : Int)
    · replace H := ite_t q1 H
      refine cs_know (c := true) (dec_t q1) 12 (by kernel_rfl) ?_
      refine cs_true (by kernel_rfl) ?_
      refine cs_region (l := [_, _, _]) ?_
      refine ls_val (v := .slice A1 l1.length c1) rfl rfl (by kernel_rfl) (fun w => by kernel_rfl) ?_
      obtain ⟨q2, H⟩ := ite_need H
      obtain ⟨xl7, hy8, H⟩ := lt_some H
      have hz10 : 0 ≤ ((500 : Int)).toNat := by omega
      have hz11 : ((500 : Int)).toNat ≤ l1.length := by omega
      obtain ⟨xA3, xc4, he9, xC6, xR5⟩ := cut_at (A := A1) (c := c1) (l := l1) (Ec.int 5 .u8) 0 (((500 : Int)).toNat) hz10 hz11 C1 R1 (m := xl7) (by rw [← hy8] <;> simp) (z := 1) rfl
      refine ls_cutv (A := A1) (c := c1) (m := l1.length) (z := 1) (e := 5) (a := 0) (b := ((500 : Int)).toNat) rfl rfl (by kernel_rfl) rfl (by kernel_rfl) (by kernel_rfl) (by kernel_rfl) (.inl ⟨rfl, rfl⟩) (.inr ⟨.i64, by rw [Int.toNat_of_nonneg (by first | assumption | omega)]; kernel_rfl⟩) hz10 hz11 C1 he9 ?_
      refine ls_val (v := .slice xA3 xl7.length xc4) rfl rfl (by kernel_rfl) (fun w => by kernel_rfl) ?_
      refine ls_end ?_
      refine qn_then ?_
      refine cs_seq ?_
      refine cs_region (l := [_, _, _, _, _, _, _, _, _, _, _, _, _, _, _, _, _, _, _, _, _, _, _, _, _]) ?_
      refine ls_val (v := .slice A0_1 l0_1.length c0_1) rfl rfl (by kernel_rfl) (fun w => by kernel_rfl) ?_
      refine ls_val (v := .slice xA3 xl7.length xc4) rfl rfl (by kernel_rfl) (fun w => by kernel_rfl) ?_
      obtain ⟨t12, hc13, H⟩ := bind_some H
      refine ls_callb (fid := 9) (vals := #[.slice A0_1 l0_1.length c0_1, .slice xA3 xl7.length xc4]) (X := Unit) (fun x => .agg ⟨en (Value.int .u8) t12.1⟩) (fun x => stl []) [] [] [] [] 0 rfl rfl (by kernel_rfl) (fun w => by kernel_rfl) trivial trivial (by decide) (fun w hs hb => hmac_Mac.calls k A0_1 c0_1 l0_1 xA3 xc4 xl7 t12 (lent b w [] []) hb (hs.ro R0_1 _ _) C0_1 (hs.ro xR5 _ _) xC6 hc13) ?_
      intro x14
      refine ls_val (v := .slice A0_1 l0_1.length c0_1) rfl rfl (by kernel_rfl) (fun w => by kernel_rfl) ?_
      refine ls_val (v := .slice xA3 xl7.length xc4) rfl rfl (by kernel_rfl) (fun w => by kernel_rfl) ?_
      obtain ⟨t15, hc16, H⟩ := bind_some H
      refine ls_callb (fid := 10) (vals := #[.slice A0_1 l0_1.length c0_1, .slice xA3 xl7.length xc4]) (X := Unit) (fun x => .agg ⟨en (Value.int .u8) t15.1⟩) (fun x => stl []) [] [] [] [] 0 rfl rfl (by kernel_rfl) (fun w => by kernel_rfl) trivial trivial (by decide) (fun w hs hb => shadowboxref12_Mac.calls k A0_1 c0_1 l0_1 xA3 xc4 xl7 t15 (lent b w [] []) hb (hs.ro R0_1 _ _) C0_1 (hs.ro xR5 _ _) xC6 hc16) ?_
      intro x17
      refine ls_eql (xs := en (Value.int .u8) t12.1) (ys := en (Value.int .u8) t15.1) (r := (t12.1 == t15.1)) rfl rfl (by kernel_rfl) rfl (by kernel_rfl) (by kernel_rfl) (by kernel_rfl) (eq_ints (e := 5) (ln := 32) (by kernel_rfl) (by kernel_rfl) (by kernel_rfl) t12.2 t15.2 _) ?_
      refine ls_val (v := .bool (t12.1 == t15.1)) rfl rfl (by kernel_rfl) (fun w => by kernel_rfl) ?_
      by_cases q18 : (t12.1 == t15.1) = true
      · replace H := ite_t q18 H
        refine ls_know (c := true) (q18) 22 (by kernel_rfl) ?_
        refine ls_on (j := 7) (t := 22) (b := true) rfl rfl (by kernel_rfl) (by kernel_rfl) ?_
        refine ls_val (v := .slice A0_1 l0_1.length c0_1) rfl rfl (by kernel_rfl) (fun w => by kernel_rfl) ?_
        refine ls_on (j := 7) (t := 22) (b := true) rfl rfl (by kernel_rfl) (by kernel_rfl) ?_
        refine ls_val (v := .slice xA3 xl7.length xc4) rfl rfl (by kernel_rfl) (fun w => by kernel_rfl) ?_
        refine ls_on (j := 7) (t := 22) (b := true) rfl rfl (by kernel_rfl) (by kernel_rfl) ?_
        obtain ⟨t19, hc20, H⟩ := bind_some H
        refine ls_callb (fid := 11) (vals := #[.slice A0_1 l0_1.length c0_1, .slice xA3 xl7.length xc4]) (X := Unit) (fun x => .string t19) (fun x => stl []) [] [] [] [] 0 rfl rfl (by kernel_rfl) (fun w => by kernel_rfl) trivial trivial (by decide) (fun w hs hb => hmac_Text.calls k A0_1 c0_1 l0_1 xA3 xc4 xl7 t19 (lent b w [] []) hb (hs.ro R0_1 _ _) C0_1 (hs.ro xR5 _ _) xC6 hc20) ?_
        intro x21
        refine ls_on (j := 7) (t := 22) (b := true) rfl rfl (by kernel_rfl) (by kernel_rfl) ?_
        refine ls_val (v := .slice A0_1 l0_1.length c0_1) rfl rfl (by kernel_rfl) (fun w => by kernel_rfl) ?_
        refine ls_on (j := 7) (t := 22) (b := true) rfl rfl (by kernel_rfl) (by kernel_rfl) ?_
        refine ls_val (v := .slice xA3 xl7.length xc4) rfl rfl (by kernel_rfl) (fun w => by kernel_rfl) ?_
        refine ls_on (j := 7) (t := 22) (b := true) rfl rfl (by kernel_rfl) (by kernel_rfl) ?_
        obtain ⟨t22, hc23, H⟩ := bind_some H
        refine ls_callb (fid := 12) (vals := #[.slice A0_1 l0_1.length c0_1, .slice xA3 xl7.length xc4]) (X := Unit) (fun x => .string t22) (fun x => stl []) [] [] [] [] 0 rfl rfl (by kernel_rfl) (fun w => by kernel_rfl) trivial trivial (by decide) (fun w hs hb => shadowboxref12_Text.calls k A0_1 c0_1 l0_1 xA3 xc4 xl7 t22 (lent b w [] []) hb (hs.ro R0_1 _ _) C0_1 (hs.ro xR5 _ _) xC6 hc23) ?_
        intro x24
        refine ls_on (j := 7) (t := 22) (b := true) rfl rfl (by kernel_rfl) (by kernel_rfl) ?_
        refine ls_val (v := .bool (t19.toList == t22.toList)) rfl rfl (by kernel_rfl) (fun w => by kernel_rfl) ?_
        refine ls_val (v := .bool (t19.toList == t22.toList)) rfl rfl (by kernel_rfl) (fun w => by kernel_rfl) ?_
        refine ls_val (v := .bool (t19.toList == t22.toList)) rfl rfl (by kernel_rfl) (fun w => by kernel_rfl) ?_
        by_cases q25 : (t19.toList == t22.toList) = true
        · replace H := ite_t q25 H
          refine ls_know (c := true) (q25) 31 (by kernel_rfl) ?_
          refine ls_on (j := 16) (t := 31) (b := true) rfl rfl (by kernel_rfl) (by kernel_rfl) ?_
          refine ls_lit (Ec.int 5 .u8) 0 rfl rfl (by kernel_rfl) ([(107 : Int), (101 : Int), (121 : Int)]) (by exact of_decide_eq_true (by kernel_rfl)) (fun w => by kernel_rfl) ?_
          intro g26
          refine ls_on (j := 16) (t := 31) (b := true) rfl rfl (by kernel_rfl) (by kernel_rfl) ?_
          refine ls_conv (g := g26) (l := ([(107 : Int), (101 : Int), (121 : Int)])) (e := 5) 0 rfl rfl (by kernel_rfl) rfl (by kernel_rfl) (by kernel_rfl) (by kernel_rfl) (by exact rfl) ?_
          refine ls_on (j := 16) (t := 31) (b := true) rfl rfl (by kernel_rfl) (by kernel_rfl) ?_
          refine ls_lit (Ec.int 5 .u8) 1 rfl rfl (by kernel_rfl) ([(84 : Int), (104 : Int), (101 : Int), (32 : Int), (113 : Int), (117 : Int), (105 : Int), (99 : Int), (107 : Int), (32 : Int), (98 : Int), (114 : Int), (111 : Int), (119 : Int), (110 : Int), (32 : Int), (102 : Int), (111 : Int), (120 : Int), (32 : Int), (106 : Int), (117 : Int), (109 : Int), (112 : Int), (115 : Int), (32 : Int), (111 : Int), (118 : Int), (101 : Int), (114 : Int), (32 : Int), (116 : Int), (104 : Int), (101 : Int), (32 : Int), (108 : Int), (97 : Int), (122 : Int), (121 : Int), (32 : Int), (100 : Int), (111 : Int), (103 : Int)]) (by exact of_decide_eq_true (by kernel_rfl)) (fun w => by kernel_rfl) ?_
          intro g27
          refine ls_on (j := 16) (t := 31) (b := true) rfl rfl (by kernel_rfl) (by kernel_rfl) ?_
          refine ls_conv (g := g27) (l := ([(84 : Int), (104 : Int), (101 : Int), (32 : Int), (113 : Int), (117 : Int), (105 : Int), (99 : Int), (107 : Int), (32 : Int), (98 : Int), (114 : Int), (111 : Int), (119 : Int), (110 : Int), (32 : Int), (102 : Int), (111 : Int), (120 : Int), (32 : Int), (106 : Int), (117 : Int), (109 : Int), (112 : Int), (115 : Int), (32 : Int), (111 : Int), (118 : Int), (101 : Int), (114 : Int), (32 : Int), (116 : Int), (104 : Int), (101 : Int), (32 : Int), (108 : Int), (97 : Int), (122 : Int), (121 : Int), (32 : Int), (100 : Int), (111 : Int), (103 : Int)])) (e := 5) 1 rfl rfl (by kernel_rfl) rfl (by kernel_rfl) (by kernel_rfl) (by kernel_rfl) (by exact rfl) ?_
          refine ls_on (j := 16) (t := 31) (b := true) rfl rfl (by kernel_rfl) (by kernel_rfl) ?_
          obtain ⟨t28, hc29, H⟩ := bind_some H
          refine ls_callb (fid := 11) (vals := #[.slice (some ⟨g26, 0, none⟩) ([(107 : Int), (101 : Int), (121 : Int)]).length [(107 : Int), (101 : Int), (121 : Int)].length, .slice (some ⟨g27, 0, none⟩) ([(84 : Int), (104 : Int), (101 : Int), (32 : Int), (113 : Int), (117 : Int), (105 : Int), (99 : Int), (107 : Int), (32 : Int), (98 : Int), (114 : Int), (111 : Int), (119 : Int), (110 : Int), (32 : Int), (102 : Int), (111 : Int), (120 : Int), (32 : Int), (106 : Int), (117 : Int), (109 : Int), (112 : Int), (115 : Int), (32 : Int), (111 : Int), (118 : Int), (101 : Int), (114 : Int), (32 : Int), (116 : Int), (104 : Int), (101 : Int), (32 : Int), (108 : Int), (97 : Int), (122 : Int), (121 : Int), (32 : Int), (100 : Int), (111 : Int), (103 : Int)]).length [(84 : Int), (104 : Int), (101 : Int), (32 : Int), (113 : Int), (117 : Int), (105 : Int), (99 : Int), (107 : Int), (32 : Int), (98 : Int), (114 : Int), (111 : Int), (119 : Int), (110 : Int), (32 : Int), (102 : Int), (111 : Int), (120 : Int), (32 : Int), (106 : Int), (117 : Int), (109 : Int), (112 : Int), (115 : Int), (32 : Int), (111 : Int), (118 : Int), (101 : Int), (114 : Int), (32 : Int), (116 : Int), (104 : Int), (101 : Int), (32 : Int), (108 : Int), (97 : Int), (122 : Int), (121 : Int), (32 : Int), (100 : Int), (111 : Int), (103 : Int)].length]) (X := Unit) (fun x => .string t28) (fun x => stl []) [] [0, 1] [] [Ck.rs g26 (em (Ec.int 5 .u8) ([(107 : Int), (101 : Int), (121 : Int)])), Ck.rs g27 (em (Ec.int 5 .u8) ([(84 : Int), (104 : Int), (101 : Int), (32 : Int), (113 : Int), (117 : Int), (105 : Int), (99 : Int), (107 : Int), (32 : Int), (98 : Int), (114 : Int), (111 : Int), (119 : Int), (110 : Int), (32 : Int), (102 : Int), (111 : Int), (120 : Int), (32 : Int), (106 : Int), (117 : Int), (109 : Int), (112 : Int), (115 : Int), (32 : Int), (111 : Int), (118 : Int), (101 : Int), (114 : Int), (32 : Int), (116 : Int), (104 : Int), (101 : Int), (32 : Int), (108 : Int), (97 : Int), (122 : Int), (121 : Int), (32 : Int), (100 : Int), (111 : Int), (103 : Int)]))] 2 rfl rfl (by kernel_rfl) (fun w => by kernel_rfl) trivial ⟨by exact rfl, by exact rfl, trivial⟩ (by decide) (fun w hs hb => hmac_Text.calls k (some ⟨g26, 0, none⟩) ([(107 : Int), (101 : Int), (121 : Int)].length) ([(107 : Int), (101 : Int), (121 : Int)]) (some ⟨g27, 0, none⟩) ([(84 : Int), (104 : Int), (101 : Int), (32 : Int), (113 : Int), (117 : Int), (105 : Int), (99 : Int), (107 : Int), (32 : Int), (98 : Int), (114 : Int), (111 : Int), (119 : Int), (110 : Int), (32 : Int), (102 : Int), (111 : Int), (120 : Int), (32 : Int), (106 : Int), (117 : Int), (109 : Int), (112 : Int), (115 : Int), (32 : Int), (111 : Int), (118 : Int), (101 : Int), (114 : Int), (32 : Int), (116 : Int), (104 : Int), (101 : Int), (32 : Int), (108 : Int), (97 : Int), (122 : Int), (121 : Int), (32 : Int), (100 : Int), (111 : Int), (103 : Int)].length) ([(84 : Int), (104 : Int), (101 : Int), (32 : Int), (113 : Int), (117 : Int), (105 : Int), (99 : Int), (107 : Int), (32 : Int), (98 : Int), (114 : Int), (111 : Int), (119 : Int), (110 : Int), (32 : Int), (102 : Int), (111 : Int), (120 : Int), (32 : Int), (106 : Int), (117 : Int), (109 : Int), (112 : Int), (115 : Int), (32 : Int), (111 : Int), (118 : Int), (101 : Int), (114 : Int), (32 : Int), (116 : Int), (104 : Int), (101 : Int), (32 : Int), (108 : Int), (97 : Int), (122 : Int), (121 : Int), (32 : Int), (100 : Int), (111 : Int), (103 : Int)]) t28 (lent b w [] [Ck.rs g26 (em (Ec.int 5 .u8) ([(107 : Int), (101 : Int), (121 : Int)])), Ck.rs g27 (em (Ec.int 5 .u8) ([(84 : Int), (104 : Int), (101 : Int), (32 : Int), (113 : Int), (117 : Int), (105 : Int), (99 : Int), (107 : Int), (32 : Int), (98 : Int), (114 : Int), (111 : Int), (119 : Int), (110 : Int), (32 : Int), (102 : Int), (111 : Int), (120 : Int), (32 : Int), (106 : Int), (117 : Int), (109 : Int), (112 : Int), (115 : Int), (32 : Int), (111 : Int), (118 : Int), (101 : Int), (114 : Int), (32 : Int), (116 : Int), (104 : Int), (101 : Int), (32 : Int), (108 : Int), (97 : Int), (122 : Int), (121 : Int), (32 : Int), (100 : Int), (111 : Int), (103 : Int)]))]) hb (Rd.ror (hs.rs (k := 0) (by exact rfl)) (.head _) Ck.rs_key) (Nat.le_refl _) (Rd.ror (hs.rs (k := 1) (by exact rfl)) (.tail _ (.head _)) Ck.rs_key) (Nat.le_refl _) hc29) ?_
          intro x30
          refine ls_on (j := 16) (t := 31) (b := true) rfl rfl (by kernel_rfl) (by kernel_rfl) ?_
          refine ls_val (v := .bool (t28.toList == shadowboxlaw12_HmacTells.cst0.toList)) rfl rfl (by kernel_rfl) (fun w => by kernel_rfl) ?_
          refine ls_val (v := .bool (t28.toList == shadowboxlaw12_HmacTells.cst0.toList)) rfl rfl (by kernel_rfl) (fun w => by kernel_rfl) ?_
          refine ls_val (v := .bool (t28.toList == shadowboxlaw12_HmacTells.cst0.toList)) rfl rfl (by kernel_rfl) (fun w => by kernel_rfl) ?_
          refine ls_end ?_
          refine qn_then ?_
          refine cs_ret' ?_
          obtain rfl := Option.some.inj H
          refine qr_res (rs := [_]) rfl (fun w' hs => ⟨[.bool (t28.toList == shadowboxlaw12_HmacTells.cst0.toList)], (res_tmp (by kernel_rfl) (.nil)), (), rfl, hs.pick (ts := []) (cs := []) trivial (by decide)⟩)
        · replace H := ite_f q25 H
          refine ls_know (c := false) (Bool.eq_false_iff.mpr q25) 31 (by kernel_rfl) ?_
          refine ls_off (j := 16) (t := 31) (b := true) (c := false) rfl rfl (by kernel_rfl) (by kernel_rfl) rfl rfl (by kernel_rfl) ?_
          refine ls_off (j := 16) (t := 31) (b := true) (c := false) rfl rfl (by kernel_rfl) (by kernel_rfl) rfl rfl (by kernel_rfl) ?_
          refine ls_off (j := 16) (t := 31) (b := true) (c := false) rfl rfl (by kernel_rfl) (by kernel_rfl) rfl rfl (by kernel_rfl) ?_
          refine ls_off (j := 16) (t := 31) (b := true) (c := false) rfl rfl (by kernel_rfl) (by kernel_rfl) rfl rfl (by kernel_rfl) ?_
          refine ls_off (j := 16) (t := 31) (b := true) (c := false) rfl rfl (by kernel_rfl) (by kernel_rfl) rfl rfl (by kernel_rfl) ?_
          refine ls_off (j := 16) (t := 31) (b := true) (c := false) rfl rfl (by kernel_rfl) (by kernel_rfl) rfl rfl (by kernel_rfl) ?_
          refine ls_val (v := .bool false) rfl rfl (by kernel_rfl) (fun w => by kernel_rfl) ?_
          refine ls_val (v := .bool false) rfl rfl (by kernel_rfl) (fun w => by kernel_rfl) ?_
          refine ls_end ?_
          refine qn_then ?_
          refine cs_ret' ?_
          obtain rfl := Option.some.inj H
          refine qr_res (rs := [_]) rfl (fun w' hs => ⟨[.bool false], (res_tmp (by kernel_rfl) (.nil)), (), rfl, hs.pick (ts := []) (cs := []) trivial (by decide)⟩)
      · replace H := ite_f q18 H
        refine ls_know (c := false) (Bool.eq_false_iff.mpr q18) 22 (by kernel_rfl) ?_
        refine ls_off (j := 7) (t := 22) (b := true) (c := false) rfl rfl (by kernel_rfl) (by kernel_rfl) rfl rfl (by kernel_rfl) ?_
        refine ls_off (j := 7) (t := 22) (b := true) (c := false) rfl rfl (by kernel_rfl) (by kernel_rfl) rfl rfl (by kernel_rfl) ?_
        refine ls_off (j := 7) (t := 22) (b := true) (c := false) rfl rfl (by kernel_rfl) (by kernel_rfl) rfl rfl (by kernel_rfl) ?_
        refine ls_off (j := 7) (t := 22) (b := true) (c := false) rfl rfl (by kernel_rfl) (by kernel_rfl) rfl rfl (by kernel_rfl) ?_
        refine ls_off (j := 7) (t := 22) (b := true) (c := false) rfl rfl (by kernel_rfl) (by kernel_rfl) rfl rfl (by kernel_rfl) ?_
        refine ls_off (j := 7) (t := 22) (b := true) (c := false) rfl rfl (by kernel_rfl) (by kernel_rfl) rfl rfl (by kernel_rfl) ?_
        refine ls_off (j := 7) (t := 22) (b := true) (c := false) rfl rfl (by kernel_rfl) (by kernel_rfl) rfl rfl (by kernel_rfl) ?_
        refine ls_val (v := .bool false) rfl rfl (by kernel_rfl) (fun w => by kernel_rfl) ?_
        refine ls_val (v := .bool false) rfl rfl (by kernel_rfl) (fun w => by kernel_rfl) ?_
        refine ls_off (j := 16) (t := 31) (b := true) (c := false) rfl rfl (by kernel_rfl) (by kernel_rfl) rfl rfl (by kernel_rfl) ?_
        refine ls_off (j := 16) (t := 31) (b := true) (c := false) rfl rfl (by kernel_rfl) (by kernel_rfl) rfl rfl (by kernel_rfl) ?_
        refine ls_off (j := 16) (t := 31) (b := true) (c := false) rfl rfl (by kernel_rfl) (by kernel_rfl) rfl rfl (by kernel_rfl) ?_
        refine ls_off (j := 16) (t := 31) (b := true) (c := false) rfl rfl (by kernel_rfl) (by kernel_rfl) rfl rfl (by kernel_rfl) ?_
        refine ls_off (j := 16) (t := 31) (b := true) (c := false) rfl rfl (by kernel_rfl) (by kernel_rfl) rfl rfl (by kernel_rfl) ?_
        refine ls_off (j := 16) (t := 31) (b := true) (c := false) rfl rfl (by kernel_rfl) (by kernel_rfl) rfl rfl (by kernel_rfl) ?_
        refine ls_val (v := .bool false) rfl rfl (by kernel_rfl) (fun w => by kernel_rfl) ?_
        refine ls_val (v := .bool false) rfl rfl (by kernel_rfl) (fun w => by kernel_rfl) ?_
        refine ls_end ?_
        refine qn_then ?_
        refine cs_ret' ?_
        obtain rfl := Option.some.inj H
        refine qr_res (rs := [_]) rfl (fun w' hs => ⟨[.bool false], (res_tmp (by kernel_rfl) (.nil)), (), rfl, hs.pick (ts := []) (cs := []) trivial (by decide)⟩)
    · replace H := ite_f q1 H
      refine cs_know (c := false) (dec_f q1) 12 (by kernel_rfl) ?_
      refine cs_false (by kernel_rfl) ?_
      refine cs_skip' ?_
      refine qn_then ?_
      refine cs_seq ?_
      refine cs_region (l := [_, _, _, _, _, _, _, _, _, _, _, _, _, _, _, _, _, _, _, _, _, _, _, _, _]) ?_
      refine ls_val (v := .slice A0_1 l0_1.length c0_1) rfl rfl (by kernel_rfl) (fun w => by kernel_rfl) ?_
      refine ls_val (v := .slice A1 l1.length c1) rfl rfl (by kernel_rfl) (fun w => by kernel_rfl) ?_
      obtain ⟨t31, hc32, H⟩ := bind_some H
      refine ls_callb (fid := 9) (vals := #[.slice A0_1 l0_1.length c0_1, .slice A1 l1.length c1]) (X := Unit) (fun x => .agg ⟨en (Value.int .u8) t31.1⟩) (fun x => stl []) [] [] [] [] 0 rfl rfl (by kernel_rfl) (fun w => by kernel_rfl) trivial trivial (by decide) (fun w hs hb => hmac_Mac.calls k A0_1 c0_1 l0_1 A1 c1 l1 t31 (lent b w [] []) hb (hs.ro R0_1 _ _) C0_1 (hs.ro R1 _ _) C1 hc32) ?_
      intro x33
      refine ls_val (v := .slice A0_1 l0_1.length c0_1) rfl rfl (by kernel_rfl) (fun w => by kernel_rfl) ?_
      refine ls_val (v := .slice A1 l1.length c1) rfl rfl (by kernel_rfl) (fun w => by kernel_rfl) ?_
      obtain ⟨t34, hc35, H⟩ := bind_some H
      refine ls_callb (fid := 10) (vals := #[.slice A0_1 l0_1.length c0_1, .slice A1 l1.length c1]) (X := Unit) (fun x => .agg ⟨en (Value.int .u8) t34.1⟩) (fun x => stl []) [] [] [] [] 0 rfl rfl (by kernel_rfl) (fun w => by kernel_rfl) trivial trivial (by decide) (fun w hs hb => shadowboxref12_Mac.calls k A0_1 c0_1 l0_1 A1 c1 l1 t34 (lent b w [] []) hb (hs.ro R0_1 _ _) C0_1 (hs.ro R1 _ _) C1 hc35) ?_
      intro x36
      refine ls_eql (xs := en (Value.int .u8) t31.1) (ys := en (Value.int .u8) t34.1) (r := (t31.1 == t34.1)) rfl rfl (by kernel_rfl) rfl (by kernel_rfl) (by kernel_rfl) (by kernel_rfl) (eq_ints (e := 5) (ln := 32) (by kernel_rfl) (by kernel_rfl) (by kernel_rfl) t31.2 t34.2 _) ?_
      refine ls_val (v := .bool (t31.1 == t34.1)) rfl rfl (by kernel_rfl) (fun w => by kernel_rfl) ?_
      by_cases q37 : (t31.1 == t34.1) = true
      · replace H := ite_t q37 H
        refine ls_know (c := true) (q37) 22 (by kernel_rfl) ?_
        refine ls_on (j := 7) (t := 22) (b := true) rfl rfl (by kernel_rfl) (by kernel_rfl) ?_
        refine ls_val (v := .slice A0_1 l0_1.length c0_1) rfl rfl (by kernel_rfl) (fun w => by kernel_rfl) ?_
        refine ls_on (j := 7) (t := 22) (b := true) rfl rfl (by kernel_rfl) (by kernel_rfl) ?_
        refine ls_val (v := .slice A1 l1.length c1) rfl rfl (by kernel_rfl) (fun w => by kernel_rfl) ?_
        refine ls_on (j := 7) (t := 22) (b := true) rfl rfl (by kernel_rfl) (by kernel_rfl) ?_
        obtain ⟨t38, hc39, H⟩ := bind_some H
        refine ls_callb (fid := 11) (vals := #[.slice A0_1 l0_1.length c0_1, .slice A1 l1.length c1]) (X := Unit) (fun x => .string t38) (fun x => stl []) [] [] [] [] 0 rfl rfl (by kernel_rfl) (fun w => by kernel_rfl) trivial trivial (by decide) (fun w hs hb => hmac_Text.calls k A0_1 c0_1 l0_1 A1 c1 l1 t38 (lent b w [] []) hb (hs.ro R0_1 _ _) C0_1 (hs.ro R1 _ _) C1 hc39) ?_
        intro x40
        refine ls_on (j := 7) (t := 22) (b := true) rfl rfl (by kernel_rfl) (by kernel_rfl) ?_
        refine ls_val (v := .slice A0_1 l0_1.length c0_1) rfl rfl (by kernel_rfl) (fun w => by kernel_rfl) ?_
        refine ls_on (j := 7) (t := 22) (b := true) rfl rfl (by kernel_rfl) (by kernel_rfl) ?_
        refine ls_val (v := .slice A1 l1.length c1) rfl rfl (by kernel_rfl) (fun w => by kernel_rfl) ?_
        refine ls_on (j := 7) (t := 22) (b := true) rfl rfl (by kernel_rfl) (by kernel_rfl) ?_
        obtain ⟨t41, hc42, H⟩ := bind_some H
        refine ls_callb (fid := 12) (vals := #[.slice A0_1 l0_1.length c0_1, .slice A1 l1.length c1]) (X := Unit) (fun x => .string t41) (fun x => stl []) [] [] [] [] 0 rfl rfl (by kernel_rfl) (fun w => by kernel_rfl) trivial trivial (by decide) (fun w hs hb => shadowboxref12_Text.calls k A0_1 c0_1 l0_1 A1 c1 l1 t41 (lent b w [] []) hb (hs.ro R0_1 _ _) C0_1 (hs.ro R1 _ _) C1 hc42) ?_
        intro x43
        refine ls_on (j := 7) (t := 22) (b := true) rfl rfl (by kernel_rfl) (by kernel_rfl) ?_
        refine ls_val (v := .bool (t38.toList == t41.toList)) rfl rfl (by kernel_rfl) (fun w => by kernel_rfl) ?_
        refine ls_val (v := .bool (t38.toList == t41.toList)) rfl rfl (by kernel_rfl) (fun w => by kernel_rfl) ?_
        refine ls_val (v := .bool (t38.toList == t41.toList)) rfl rfl (by kernel_rfl) (fun w => by kernel_rfl) ?_
        by_cases q44 : (t38.toList == t41.toList) = true
        · replace H := ite_t q44 H
          refine ls_know (c := true) (q44) 31 (by kernel_rfl) ?_
          refine ls_on (j := 16) (t := 31) (b := true) rfl rfl (by kernel_rfl) (by kernel_rfl) ?_
          refine ls_lit (Ec.int 5 .u8) 0 rfl rfl (by kernel_rfl) ([(107 : Int), (101 : Int), (121 : Int)]) (by exact of_decide_eq_true (by kernel_rfl)) (fun w => by kernel_rfl) ?_
          intro g45
          refine ls_on (j := 16) (t := 31) (b := true) rfl rfl (by kernel_rfl) (by kernel_rfl) ?_
          refine ls_conv (g := g45) (l := ([(107 : Int), (101 : Int), (121 : Int)])) (e := 5) 0 rfl rfl (by kernel_rfl) rfl (by kernel_rfl) (by kernel_rfl) (by kernel_rfl) (by exact rfl) ?_
          refine ls_on (j := 16) (t := 31) (b := true) rfl rfl (by kernel_rfl) (by kernel_rfl) ?_
          refine ls_lit (Ec.int 5 .u8) 1 rfl rfl (by kernel_rfl) ([(84 : Int), (104 : Int), (101 : Int), (32 : Int), (113 : Int), (117 : Int), (105 : Int), (99 : Int), (107 : Int), (32 : Int), (98 : Int), (114 : Int), (111 : Int), (119 : Int), (110 : Int), (32 : Int), (102 : Int), (111 : Int), (120 : Int), (32 : Int), (106 : Int), (117 : Int), (109 : Int), (112 : Int), (115 : Int), (32 : Int), (111 : Int), (118 : Int), (101 : Int), (114 : Int), (32 : Int), (116 : Int), (104 : Int), (101 : Int), (32 : Int), (108 : Int), (97 : Int), (122 : Int), (121 : Int), (32 : Int), (100 : Int), (111 : Int), (103 : Int)]) (by exact of_decide_eq_true (by kernel_rfl)) (fun w => by kernel_rfl) ?_
          intro g46
          refine ls_on (j := 16) (t := 31) (b := true) rfl rfl (by kernel_rfl) (by kernel_rfl) ?_
          refine ls_conv (g := g46) (l := ([(84 : Int), (104 : Int), (101 : Int), (32 : Int), (113 : Int), (117 : Int), (105 : Int), (99 : Int), (107 : Int), (32 : Int), (98 : Int), (114 : Int), (111 : Int), (119 : Int), (110 : Int), (32 : Int), (102 : Int), (111 : Int), (120 : Int), (32 : Int), (106 : Int), (117 : Int), (109 : Int), (112 : Int), (115 : Int), (32 : Int), (111 : Int), (118 : Int), (101 : Int), (114 : Int), (32 : Int), (116 : Int), (104 : Int), (101 : Int), (32 : Int), (108 : Int), (97 : Int), (122 : Int), (121 : Int), (32 : Int), (100 : Int), (111 : Int), (103 : Int)])) (e := 5) 1 rfl rfl (by kernel_rfl) rfl (by kernel_rfl) (by kernel_rfl) (by kernel_rfl) (by exact rfl) ?_
          refine ls_on (j := 16) (t := 31) (b := true) rfl rfl (by kernel_rfl) (by kernel_rfl) ?_
          obtain ⟨t47, hc48, H⟩ := bind_some H
          refine ls_callb (fid := 11) (vals := #[.slice (some ⟨g45, 0, none⟩) ([(107 : Int), (101 : Int), (121 : Int)]).length [(107 : Int), (101 : Int), (121 : Int)].length, .slice (some ⟨g46, 0, none⟩) ([(84 : Int), (104 : Int), (101 : Int), (32 : Int), (113 : Int), (117 : Int), (105 : Int), (99 : Int), (107 : Int), (32 : Int), (98 : Int), (114 : Int), (111 : Int), (119 : Int), (110 : Int), (32 : Int), (102 : Int), (111 : Int), (120 : Int), (32 : Int), (106 : Int), (117 : Int), (109 : Int), (112 : Int), (115 : Int), (32 : Int), (111 : Int), (118 : Int), (101 : Int), (114 : Int), (32 : Int), (116 : Int), (104 : Int), (101 : Int), (32 : Int), (108 : Int), (97 : Int), (122 : Int), (121 : Int), (32 : Int), (100 : Int), (111 : Int), (103 : Int)]).length [(84 : Int), (104 : Int), (101 : Int), (32 : Int), (113 : Int), (117 : Int), (105 : Int), (99 : Int), (107 : Int), (32 : Int), (98 : Int), (114 : Int), (111 : Int), (119 : Int), (110 : Int), (32 : Int), (102 : Int), (111 : Int), (120 : Int), (32 : Int), (106 : Int), (117 : Int), (109 : Int), (112 : Int), (115 : Int), (32 : Int), (111 : Int), (118 : Int), (101 : Int), (114 : Int), (32 : Int), (116 : Int), (104 : Int), (101 : Int), (32 : Int), (108 : Int), (97 : Int), (122 : Int), (121 : Int), (32 : Int), (100 : Int), (111 : Int), (103 : Int)].length]) (X := Unit) (fun x => .string t47) (fun x => stl []) [] [0, 1] [] [Ck.rs g45 (em (Ec.int 5 .u8) ([(107 : Int), (101 : Int), (121 : Int)])), Ck.rs g46 (em (Ec.int 5 .u8) ([(84 : Int), (104 : Int), (101 : Int), (32 : Int), (113 : Int), (117 : Int), (105 : Int), (99 : Int), (107 : Int), (32 : Int), (98 : Int), (114 : Int), (111 : Int), (119 : Int), (110 : Int), (32 : Int), (102 : Int), (111 : Int), (120 : Int), (32 : Int), (106 : Int), (117 : Int), (109 : Int), (112 : Int), (115 : Int), (32 : Int), (111 : Int), (118 : Int), (101 : Int), (114 : Int), (32 : Int), (116 : Int), (104 : Int), (101 : Int), (32 : Int), (108 : Int), (97 : Int), (122 : Int), (121 : Int), (32 : Int), (100 : Int), (111 : Int), (103 : Int)]))] 2 rfl rfl (by kernel_rfl) (fun w => by kernel_rfl) trivial ⟨by exact rfl, by exact rfl, trivial⟩ (by decide) (fun w hs hb => hmac_Text.calls k (some ⟨g45, 0, none⟩) ([(107 : Int), (101 : Int), (121 : Int)].length) ([(107 : Int), (101 : Int), (121 : Int)]) (some ⟨g46, 0, none⟩) ([(84 : Int), (104 : Int), (101 : Int), (32 : Int), (113 : Int), (117 : Int), (105 : Int), (99 : Int), (107 : Int), (32 : Int), (98 : Int), (114 : Int), (111 : Int), (119 : Int), (110 : Int), (32 : Int), (102 : Int), (111 : Int), (120 : Int), (32 : Int), (106 : Int), (117 : Int), (109 : Int), (112 : Int), (115 : Int), (32 : Int), (111 : Int), (118 : Int), (101 : Int), (114 : Int), (32 : Int), (116 : Int), (104 : Int), (101 : Int), (32 : Int), (108 : Int), (97 : Int), (122 : Int), (121 : Int), (32 : Int), (100 : Int), (111 : Int), (103 : Int)].length) ([(84 : Int), (104 : Int), (101 : Int), (32 : Int), (113 : Int), (117 : Int), (105 : Int), (99 : Int), (107 : Int), (32 : Int), (98 : Int), (114 : Int), (111 : Int), (119 : Int), (110 : Int), (32 : Int), (102 : Int), (111 : Int), (120 : Int), (32 : Int), (106 : Int), (117 : Int), (109 : Int), (112 : Int), (115 : Int), (32 : Int), (111 : Int), (118 : Int), (101 : Int), (114 : Int), (32 : Int), (116 : Int), (104 : Int), (101 : Int), (32 : Int), (108 : Int), (97 : Int), (122 : Int), (121 : Int), (32 : Int), (100 : Int), (111 : Int), (103 : Int)]) t47 (lent b w [] [Ck.rs g45 (em (Ec.int 5 .u8) ([(107 : Int), (101 : Int), (121 : Int)])), Ck.rs g46 (em (Ec.int 5 .u8) ([(84 : Int), (104 : Int), (101 : Int), (32 : Int), (113 : Int), (117 : Int), (105 : Int), (99 : Int), (107 : Int), (32 : Int), (98 : Int), (114 : Int), (111 : Int), (119 : Int), (110 : Int), (32 : Int), (102 : Int), (111 : Int), (120 : Int), (32 : Int), (106 : Int), (117 : Int), (109 : Int), (112 : Int), (115 : Int), (32 : Int), (111 : Int), (118 : Int), (101 : Int), (114 : Int), (32 : Int), (116 : Int), (104 : Int), (101 : Int), (32 : Int), (108 : Int), (97 : Int), (122 : Int), (121 : Int), (32 : Int), (100 : Int), (111 : Int), (103 : Int)]))]) hb (Rd.ror (hs.rs (k := 0) (by exact rfl)) (.head _) Ck.rs_key) (Nat.le_refl _) (Rd.ror (hs.rs (k := 1) (by exact rfl)) (.tail _ (.head _)) Ck.rs_key) (Nat.le_refl _) hc48) ?_
          intro x49
          refine ls_on (j := 16) (t := 31) (b := true) rfl rfl (by kernel_rfl) (by kernel_rfl) ?_
          refine ls_val (v := .bool (t47.toList == shadowboxlaw12_HmacTells.cst0.toList)) rfl rfl (by kernel_rfl) (fun w => by kernel_rfl) ?_
          refine ls_val (v := .bool (t47.toList == shadowboxlaw12_HmacTells.cst0.toList)) rfl rfl (by kernel_rfl) (fun w => by kernel_rfl) ?_
          refine ls_val (v := .bool (t47.toList == shadowboxlaw12_HmacTells.cst0.toList)) rfl rfl (by kernel_rfl) (fun w => by kernel_rfl) ?_
          refine ls_end ?_
          refine qn_then ?_
          refine cs_ret' ?_
          obtain rfl := Option.some.inj H
          refine qr_res (rs := [_]) rfl (fun w' hs => ⟨[.bool (t47.toList == shadowboxlaw12_HmacTells.cst0.toList)], (res_tmp (by kernel_rfl) (.nil)), (), rfl, hs.pick (ts := []) (cs := []) trivial (by decide)⟩)
        · replace H := ite_f q44 H
          refine ls_know (c := false) (Bool.eq_false_iff.mpr q44) 31 (by kernel_rfl) ?_
          refine ls_off (j := 16) (t := 31) (b := true) (c := false) rfl rfl (by kernel_rfl) (by kernel_rfl) rfl rfl (by kernel_rfl) ?_
          refine ls_off (j := 16) (t := 31) (b := true) (c := false) rfl rfl (by kernel_rfl) (by kernel_rfl) rfl rfl (by kernel_rfl) ?_
          refine ls_off (j := 16) (t := 31) (b := true) (c := false) rfl rfl (by kernel_rfl) (by kernel_rfl) rfl rfl (by kernel_rfl) ?_
          refine ls_off (j := 16) (t := 31) (b := true) (c := false) rfl rfl (by kernel_rfl) (by kernel_rfl) rfl rfl (by kernel_rfl) ?_
          refine ls_off (j := 16) (t := 31) (b := true) (c := false) rfl rfl (by kernel_rfl) (by kernel_rfl) rfl rfl (by kernel_rfl) ?_
          refine ls_off (j := 16) (t := 31) (b := true) (c := false) rfl rfl (by kernel_rfl) (by kernel_rfl) rfl rfl (by kernel_rfl) ?_
          refine ls_val (v := .bool false) rfl rfl (by kernel_rfl) (fun w => by kernel_rfl) ?_
          refine ls_val (v := .bool false) rfl rfl (by kernel_rfl) (fun w => by kernel_rfl) ?_
          refine ls_end ?_
          refine qn_then ?_
          refine cs_ret' ?_
          obtain rfl := Option.some.inj H
          refine qr_res (rs := [_]) rfl (fun w' hs => ⟨[.bool false], (res_tmp (by kernel_rfl) (.nil)), (), rfl, hs.pick (ts := []) (cs := []) trivial (by decide)⟩)
      · replace H := ite_f q37 H
        refine ls_know (c := false) (Bool.eq_false_iff.mpr q37) 22 (by kernel_rfl) ?_
        refine ls_off (j := 7) (t := 22) (b := true) (c := false) rfl rfl (by kernel_rfl) (by kernel_rfl) rfl rfl (by kernel_rfl) ?_
        refine ls_off (j := 7) (t := 22) (b := true) (c := false) rfl rfl (by kernel_rfl) (by kernel_rfl) rfl rfl (by kernel_rfl) ?_
        refine ls_off (j := 7) (t := 22) (b := true) (c := false) rfl rfl (by kernel_rfl) (by kernel_rfl) rfl rfl (by kernel_rfl) ?_
        refine ls_off (j := 7) (t := 22) (b := true) (c := false) rfl rfl (by kernel_rfl) (by kernel_rfl) rfl rfl (by kernel_rfl) ?_
        refine ls_off (j := 7) (t := 22) (b := true) (c := false) rfl rfl (by kernel_rfl) (by kernel_rfl) rfl rfl (by kernel_rfl) ?_
        refine ls_off (j := 7) (t := 22) (b := true) (c := false) rfl rfl (by kernel_rfl) (by kernel_rfl) rfl rfl (by kernel_rfl) ?_
        refine ls_off (j := 7) (t := 22) (b := true) (c := false) rfl rfl (by kernel_rfl) (by kernel_rfl) rfl rfl (by kernel_rfl) ?_
        refine ls_val (v := .bool false) rfl rfl (by kernel_rfl) (fun w => by kernel_rfl) ?_
        refine ls_val (v := .bool false) rfl rfl (by kernel_rfl) (fun w => by kernel_rfl) ?_
        refine ls_off (j := 16) (t := 31) (b := true) (c := false) rfl rfl (by kernel_rfl) (by kernel_rfl) rfl rfl (by kernel_rfl) ?_
        refine ls_off (j := 16) (t := 31) (b := true) (c := false) rfl rfl (by kernel_rfl) (by kernel_rfl) rfl rfl (by kernel_rfl) ?_
        refine ls_off (j := 16) (t := 31) (b := true) (c := false) rfl rfl (by kernel_rfl) (by kernel_rfl) rfl rfl (by kernel_rfl) ?_
        refine ls_off (j := 16) (t := 31) (b := true) (c := false) rfl rfl (by kernel_rfl) (by kernel_rfl) rfl rfl (by kernel_rfl) ?_
        refine ls_off (j := 16) (t := 31) (b := true) (c := false) rfl rfl (by kernel_rfl) (by kernel_rfl) rfl rfl (by kernel_rfl) ?_
        refine ls_off (j := 16) (t := 31) (b := true) (c := false) rfl rfl (by kernel_rfl) (by kernel_rfl) rfl rfl (by kernel_rfl) ?_
        refine ls_val (v := .bool false) rfl rfl (by kernel_rfl) (fun w => by kernel_rfl) ?_
        refine ls_val (v := .bool false) rfl rfl (by kernel_rfl) (fun w => by kernel_rfl) ?_
        refine ls_end ?_
        refine qn_then ?_
        refine cs_ret' ?_
        obtain rfl := Option.some.inj H
        refine qr_res (rs := [_]) rfl (fun w' hs => ⟨[.bool false], (res_tmp (by kernel_rfl) (.nil)), (), rfl, hs.pick (ts := []) (cs := []) trivial (by decide)⟩)

end Go.Proofs.Ytnkcadofhhcfaaa.G
