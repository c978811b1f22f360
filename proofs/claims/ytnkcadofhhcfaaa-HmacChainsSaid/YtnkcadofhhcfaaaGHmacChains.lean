/- Printed by a program of this session (sz.py): plain functions, and walks that show that the code comes to them; no condition. -/
import Derived.Test.YtnkcadofhhcfaaaProg
import Derived.Test.YtnkcadofhhcfaaaTy
import Derived.Test.YtnkcadofhhcfaaaG0
import Derived.Test.YtnkcadofhhcfaaaG1
import Derived.Test.YtnkcadofhhcfaaaG2
import Derived.Test.YtnkcadofhhcfaaaG3
set_option linter.unusedVariables false
set_option linter.unusedSimpArgs false
namespace Go.Proofs.Ytnkcadofhhcfaaa.G
open Go Go.RowKit Go.Proofs.Ytnkcadofhhcfaaa.Sx

/-! ### shadowbox/shadowboxlaw12.HmacChains: function 4 -/
def shadowboxlaw12_HmacChains.jo2 (k : Nat) (l0 : List Int) (l1 : List ByteArray) (l2 : List Int) : Option (Bool) := (hmac_Chain.f k l0 l1).bind fun t1 => (shadowboxref12_Chain.f k l0 l1).bind fun t7 => (if ((strOfNums t1).toList == (strOfNums t7).toList) = true then (hmac_Same.f k t1 l2).bind fun t17 => (if (t17 == ((strOfNums t1).toList == (strOfNums l2).toList)) = true then (if (([] : List Int).length + t1.length) * 1 ≤ 140737488355328 then (hmac_Same.f k t1 (([] : List Int) ++ t1)).bind fun t25 => (if t25 = true then (hmac_Chain.f k ([(107 : Int)]) ([] : List ByteArray)).bind fun t30 => some (decide ((t30.length : Int) = (1 : Int))) else some false) else none) else some false) else some false)
def shadowboxlaw12_HmacChains.lo3 (l1 : List ByteArray) (jo2 : Option (Bool)) : Nat → Int → Option (Bool)
  | 0, _ => none
  | k3 + 1, x7_3 => (if x7_3 < (l1.length : Int) then (if 0 ≤ x7_3 then lt ((((l1).getD (x7_3).toNat ByteArray.empty).size : Int)) fun y37 => (if y37 > (100 : Int) then some true else (shadowboxlaw12_HmacChains.lo3 l1 jo2 k3) (IntKind.wrap .i64 (x7_3 + (1 : Int)))) else none) else jo2)
def shadowboxlaw12_HmacChains.jo1 (k : Nat) (l0 : List Int) (l1 : List ByteArray) (l2 : List Int) : Option (Bool) := shadowboxlaw12_HmacChains.lo3 l1 (shadowboxlaw12_HmacChains.jo2 k l0 l1 l2) k (0 : Int)
def shadowboxlaw12_HmacChains.f (k : Nat) (l0 : List Int) (l1 : List ByteArray) (l2 : List Int) : Option (Bool) :=
  (if (l0.length : Int) > (200 : Int) then (hmac_Chain.f k ([(107 : Int)]) ([] : List ByteArray)).bind fun t42 => some (decide ((t42.length : Int) = (1 : Int))) else (if (l1.length : Int) > (5 : Int) then (hmac_Chain.f k ([(107 : Int)]) ([] : List ByteArray)).bind fun t47 => some (decide ((t47.length : Int) = (1 : Int))) else (if (l2.length : Int) > (200 : Int) then (hmac_Chain.f k ([(107 : Int)]) ([] : List ByteArray)).bind fun t52 => some (decide ((t52.length : Int) = (1 : Int))) else (shadowboxlaw12_HmacChains.jo1 k l0 l1 l2))))
set_option maxRecDepth 100000 in
set_option maxHeartbeats 4000000 in
theorem shadowboxlaw12_HmacChains.calls (k : Nat) (A0 : Option Addr) (c0 : Nat) (l0 : List Int) (A1 : Option Addr) (c1 : Nat) (l1 : List ByteArray) (A2 : Option Addr) (c2 : Nat) (l2 : List Int) (r : Bool) (b : Bs) (hs0 : St b (stl []) b.w) (R0 : Ro b A0 (em (Ec.int 5 .u8) l0)) (C0 : l0.length ≤ c0) (R1 : Ro b A1 (em (Ec.str 9) l1)) (C1 : l1.length ≤ c1) (R2 : Ro b A2 (em (Ec.int 5 .u8) l2)) (C2 : l2.length ≤ c2) (H : shadowboxlaw12_HmacChains.f k l0 l1 l2 = some r) :
    Calls Try.prog 4 #[.slice A0 l0.length c0, .slice A1 l1.length c1, .slice A2 l2.length c2] b.w fun e w' => ∃ x : Unit, e = .returned (.bool r) ∧ St b (stl []) w' := by
  unfold shadowboxlaw12_HmacChains.f at H
  refine enterb (n := 74) Try.func4 rfl (by kernel_rfl) (by kernel_rfl) hs0 ?_
  refine cs_sub (s0) (sub_nil _) ?_
  refine cs_seq ?_
  refine cs_region (l := [_]) ?_
  refine ls_val (v := .bool false) rfl rfl (by kernel_rfl) (fun w => by kernel_rfl) ?_
  refine ls_end ?_
  refine qn_then ?_
  refine cs_cut (fun f S => ∃ (fR : Fr), f = upd (upd (upd fR 0 (.slice A0 l0.length c0)) 1 (.slice A1 l1.length c1)) 2 (.slice A2 l2.length c2) ∧ S = s0 ∧ shadowboxlaw12_HmacChains.jo1 k l0 l1 l2 = some r) ?_ ?_
  · skip
    refine cs_seq ?_
    refine cs_region (l := [_, _, _, _, _, _, _, _, _, _, _, _, _]) ?_
    refine ls_val (v := .slice A0 l0.length c0) rfl rfl (by kernel_rfl) (fun w => by kernel_rfl) ?_
    refine ls_val (v := .int .i64 (l0.length : Int)) rfl rfl (by kernel_rfl) (fun w => by kernel_rfl) ?_
    refine ls_val (v := .bool (decide ((l0.length : Int) > (200 : Int)))) rfl rfl (by kernel_rfl) (fun w => by kernel_rfl) ?_
    refine ls_val (v := .bool (decide ((l0.length : Int) > (200 : Int)))) rfl rfl (by kernel_rfl) (fun w => by kernel_rfl) ?_
    by_cases q40 : (l0.length : Int) > (200 : Int)
    · replace H := ite_t q40 H
      refine ls_know (c := true) (dec_t q40) 12 (by kernel_rfl) ?_
      refine ls_off (j := 3) (t := 12) (b := false) (c := true) rfl rfl (by kernel_rfl) (by kernel_rfl) rfl rfl (by kernel_rfl) ?_
      refine ls_off (j := 3) (t := 12) (b := false) (c := true) rfl rfl (by kernel_rfl) (by kernel_rfl) rfl rfl (by kernel_rfl) ?_
      refine ls_off (j := 3) (t := 12) (b := false) (c := true) rfl rfl (by kernel_rfl) (by kernel_rfl) rfl rfl (by kernel_rfl) ?_
      refine ls_val (v := .bool true) rfl rfl (by kernel_rfl) (fun w => by kernel_rfl) ?_
      refine ls_val (v := .bool true) rfl rfl (by kernel_rfl) (fun w => by kernel_rfl) ?_
      refine ls_off (j := 8) (t := 17) (b := false) (c := true) rfl rfl (by kernel_rfl) (by kernel_rfl) rfl rfl (by kernel_rfl) ?_
      refine ls_off (j := 8) (t := 17) (b := false) (c := true) rfl rfl (by kernel_rfl) (by kernel_rfl) rfl rfl (by kernel_rfl) ?_
      refine ls_off (j := 8) (t := 17) (b := false) (c := true) rfl rfl (by kernel_rfl) (by kernel_rfl) rfl rfl (by kernel_rfl) ?_
      refine ls_val (v := .bool true) rfl rfl (by kernel_rfl) (fun w => by kernel_rfl) ?_
      refine ls_end ?_
      refine qn_then ?_
      refine cs_true (by kernel_rfl) ?_
      refine cs_seq ?_
      refine cs_region (l := [_, _, _, _, _, _]) ?_
      refine ls_lit (Ec.int 5 .u8) 0 rfl rfl (by kernel_rfl) ([(107 : Int)]) (by exact of_decide_eq_true (by kernel_rfl)) (fun w => by kernel_rfl) ?_
      intro g41
      refine ls_conv (g := g41) (l := ([(107 : Int)])) (e := 5) 0 rfl rfl (by kernel_rfl) rfl (by kernel_rfl) (by kernel_rfl) (by kernel_rfl) (by exact rfl) ?_
      obtain ⟨t42, hc43, H⟩ := bind_some H
      refine ls_callb (fid := 13) (vals := #[.slice (some ⟨g41, 0, none⟩) ([(107 : Int)]).length [(107 : Int)].length, .slice none ([] : List ByteArray).length 0]) (X := (Option Addr × Nat)) (fun x => .slice x.1 t42.length x.2) (fun x => stl [Ck.ro (Ec.int 5 .u8) x.1 x.2 t42]) [] [0] [] [Ck.rs g41 (em (Ec.int 5 .u8) ([(107 : Int)]))] 1 rfl rfl (by kernel_rfl) (fun w => by kernel_rfl) trivial ⟨by exact rfl, trivial⟩ (by decide) (fun w hs hb => hmac_Chain.calls k (some ⟨g41, 0, none⟩) ([(107 : Int)].length) ([(107 : Int)]) none 0 ([] : List ByteArray) t42 (lent b w [] [Ck.rs g41 (em (Ec.int 5 .u8) ([(107 : Int)]))]) hb (Rd.ror (hs.rs (k := 0) (by exact rfl)) (.head _) Ck.rs_key) (Nat.le_refl _) (Ro.nil _ _) (Nat.le_refl 0) hc43) ?_
      intro x44
      refine ls_val (v := .int .i64 (t42.length : Int)) rfl rfl (by kernel_rfl) (fun w => by kernel_rfl) ?_
      refine ls_val (v := .bool (decide ((t42.length : Int) = (1 : Int)))) rfl rfl (by kernel_rfl) (fun w => by kernel_rfl) ?_
      refine ls_val (v := .bool (decide ((t42.length : Int) = (1 : Int)))) rfl rfl (by kernel_rfl) (fun w => by kernel_rfl) ?_
      refine ls_end ?_
      refine qn_then ?_
      refine cs_ret' ?_
      refine qr_then ?_
      obtain rfl := Option.some.inj H
      refine qr_res (rs := [_]) rfl (fun w' hs => ⟨[.bool (decide ((t42.length : Int) = (1 : Int)))], (res_tmp (by kernel_rfl) (.nil)), (), rfl, hs.pick (ts := []) (cs := []) trivial (by decide)⟩)
    · replace H := ite_f q40 H
      refine ls_know (c := false) (dec_f q40) 12 (by kernel_rfl) ?_
      refine ls_on (j := 3) (t := 12) (b := false) rfl rfl (by kernel_rfl) (by kernel_rfl) ?_
      refine ls_val (v := .slice A1 l1.length c1) rfl rfl (by kernel_rfl) (fun w => by kernel_rfl) ?_
      refine ls_on (j := 3) (t := 12) (b := false) rfl rfl (by kernel_rfl) (by kernel_rfl) ?_
      refine ls_val (v := .int .i64 (l1.length : Int)) rfl rfl (by kernel_rfl) (fun w => by kernel_rfl) ?_
      refine ls_on (j := 3) (t := 12) (b := false) rfl rfl (by kernel_rfl) (by kernel_rfl) ?_
      refine ls_val (v := .bool (decide ((l1.length : Int) > (5 : Int)))) rfl rfl (by kernel_rfl) (fun w => by kernel_rfl) ?_
      refine ls_val (v := .bool (decide ((l1.length : Int) > (5 : Int)))) rfl rfl (by kernel_rfl) (fun w => by kernel_rfl) ?_
      refine ls_val (v := .bool (decide ((l1.length : Int) > (5 : Int)))) rfl rfl (by kernel_rfl) (fun w => by kernel_rfl) ?_
      by_cases q45 : (l1.length : Int) > (5 : Int)
      · replace H := ite_t q45 H
        refine ls_know (c := true) (dec_t q45) 17 (by kernel_rfl) ?_
        refine ls_off (j := 8) (t := 17) (b := false) (c := true) rfl rfl (by kernel_rfl) (by kernel_rfl) rfl rfl (by kernel_rfl) ?_
        refine ls_off (j := 8) (t := 17) (b := false) (c := true) rfl rfl (by kernel_rfl) (by kernel_rfl) rfl rfl (by kernel_rfl) ?_
        refine ls_off (j := 8) (t := 17) (b := false) (c := true) rfl rfl (by kernel_rfl) (by kernel_rfl) rfl rfl (by kernel_rfl) ?_
        refine ls_val (v := .bool true) rfl rfl (by kernel_rfl) (fun w => by kernel_rfl) ?_
        refine ls_end ?_
        refine qn_then ?_
        refine cs_true (by kernel_rfl) ?_
        refine cs_seq ?_
        refine cs_region (l := [_, _, _, _, _, _]) ?_
        refine ls_lit (Ec.int 5 .u8) 0 rfl rfl (by kernel_rfl) ([(107 : Int)]) (by exact of_decide_eq_true (by kernel_rfl)) (fun w => by kernel_rfl) ?_
        intro g46
        refine ls_conv (g := g46) (l := ([(107 : Int)])) (e := 5) 0 rfl rfl (by kernel_rfl) rfl (by kernel_rfl) (by kernel_rfl) (by kernel_rfl) (by exact rfl) ?_
        obtain ⟨t47, hc48, H⟩ := bind_some H
        refine ls_callb (fid := 13) (vals := #[.slice (some ⟨g46, 0, none⟩) ([(107 : Int)]).length [(107 : Int)].length, .slice none ([] : List ByteArray).length 0]) (X := (Option Addr × Nat)) (fun x => .slice x.1 t47.length x.2) (fun x => stl [Ck.ro (Ec.int 5 .u8) x.1 x.2 t47]) [] [0] [] [Ck.rs g46 (em (Ec.int 5 .u8) ([(107 : Int)]))] 1 rfl rfl (by kernel_rfl) (fun w => by kernel_rfl) trivial ⟨by exact rfl, trivial⟩ (by decide) (fun w hs hb => hmac_Chain.calls k (some ⟨g46, 0, none⟩) ([(107 : Int)].length) ([(107 : Int)]) none 0 ([] : List ByteArray) t47 (lent b w [] [Ck.rs g46 (em (Ec.int 5 .u8) ([(107 : Int)]))]) hb (Rd.ror (hs.rs (k := 0) (by exact rfl)) (.head _) Ck.rs_key) (Nat.le_refl _) (Ro.nil _ _) (Nat.le_refl 0) hc48) ?_
        intro x49
        refine ls_val (v := .int .i64 (t47.length : Int)) rfl rfl (by kernel_rfl) (fun w => by kernel_rfl) ?_
        refine ls_val (v := .bool (decide ((t47.length : Int) = (1 : Int)))) rfl rfl (by kernel_rfl) (fun w => by kernel_rfl) ?_
        refine ls_val (v := .bool (decide ((t47.length : Int) = (1 : Int)))) rfl rfl (by kernel_rfl) (fun w => by kernel_rfl) ?_
        refine ls_end ?_
        refine qn_then ?_
        refine cs_ret' ?_
        refine qr_then ?_
        obtain rfl := Option.some.inj H
        refine qr_res (rs := [_]) rfl (fun w' hs => ⟨[.bool (decide ((t47.length : Int) = (1 : Int)))], (res_tmp (by kernel_rfl) (.nil)), (), rfl, hs.pick (ts := []) (cs := []) trivial (by decide)⟩)
      · replace H := ite_f q45 H
        refine ls_know (c := false) (dec_f q45) 17 (by kernel_rfl) ?_
        refine ls_on (j := 8) (t := 17) (b := false) rfl rfl (by kernel_rfl) (by kernel_rfl) ?_
        refine ls_val (v := .slice A2 l2.length c2) rfl rfl (by kernel_rfl) (fun w => by kernel_rfl) ?_
        refine ls_on (j := 8) (t := 17) (b := false) rfl rfl (by kernel_rfl) (by kernel_rfl) ?_
        refine ls_val (v := .int .i64 (l2.length : Int)) rfl rfl (by kernel_rfl) (fun w => by kernel_rfl) ?_
        refine ls_on (j := 8) (t := 17) (b := false) rfl rfl (by kernel_rfl) (by kernel_rfl) ?_
        refine ls_val (v := .bool (decide ((l2.length : Int) > (200 : Int)))) rfl rfl (by kernel_rfl) (fun w => by kernel_rfl) ?_
        refine ls_val (v := .bool (decide ((l2.length : Int) > (200 : Int)))) rfl rfl (by kernel_rfl) (fun w => by kernel_rfl) ?_
        refine ls_end ?_
        refine qn_then ?_
        by_cases q50 : (l2.length : Int) > (200 : Int)
        · replace H := ite_t q50 H
          refine cs_know (c := true) (dec_t q50) 21 (by kernel_rfl) ?_
          refine cs_true (by kernel_rfl) ?_
          refine cs_seq ?_
          refine cs_region (l := [_, _, _, _, _, _]) ?_
          refine ls_lit (Ec.int 5 .u8) 0 rfl rfl (by kernel_rfl) ([(107 : Int)]) (by exact of_decide_eq_true (by kernel_rfl)) (fun w => by kernel_rfl) ?_
          intro g51
          refine ls_conv (g := g51) (l := ([(107 : Int)])) (e := 5) 0 rfl rfl (by kernel_rfl) rfl (by kernel_rfl) (by kernel_rfl) (by kernel_rfl) (by exact rfl) ?_
          obtain ⟨t52, hc53, H⟩ := bind_some H
          refine ls_callb (fid := 13) (vals := #[.slice (some ⟨g51, 0, none⟩) ([(107 : Int)]).length [(107 : Int)].length, .slice none ([] : List ByteArray).length 0]) (X := (Option Addr × Nat)) (fun x => .slice x.1 t52.length x.2) (fun x => stl [Ck.ro (Ec.int 5 .u8) x.1 x.2 t52]) [] [0] [] [Ck.rs g51 (em (Ec.int 5 .u8) ([(107 : Int)]))] 1 rfl rfl (by kernel_rfl) (fun w => by kernel_rfl) trivial ⟨by exact rfl, trivial⟩ (by decide) (fun w hs hb => hmac_Chain.calls k (some ⟨g51, 0, none⟩) ([(107 : Int)].length) ([(107 : Int)]) none 0 ([] : List ByteArray) t52 (lent b w [] [Ck.rs g51 (em (Ec.int 5 .u8) ([(107 : Int)]))]) hb (Rd.ror (hs.rs (k := 0) (by exact rfl)) (.head _) Ck.rs_key) (Nat.le_refl _) (Ro.nil _ _) (Nat.le_refl 0) hc53) ?_
          intro x54
          refine ls_val (v := .int .i64 (t52.length : Int)) rfl rfl (by kernel_rfl) (fun w => by kernel_rfl) ?_
          refine ls_val (v := .bool (decide ((t52.length : Int) = (1 : Int)))) rfl rfl (by kernel_rfl) (fun w => by kernel_rfl) ?_
          refine ls_val (v := .bool (decide ((t52.length : Int) = (1 : Int)))) rfl rfl (by kernel_rfl) (fun w => by kernel_rfl) ?_
          refine ls_end ?_
          refine qn_then ?_
          refine cs_ret' ?_
          refine qr_then ?_
          obtain rfl := Option.some.inj H
          refine qr_res (rs := [_]) rfl (fun w' hs => ⟨[.bool (decide ((t52.length : Int) = (1 : Int)))], (res_tmp (by kernel_rfl) (.nil)), (), rfl, hs.pick (ts := []) (cs := []) trivial (by decide)⟩)
        · replace H := ite_f q50 H
          refine cs_know (c := false) (dec_f q50) 21 (by kernel_rfl) ?_
          refine cs_false (by kernel_rfl) ?_
          refine cs_skip' ?_
          refine qn_meet (s0) ⟨_, fr_next (fr_next (fr_next (rfl) (by kernel_rfl)) (by kernel_rfl)) (by kernel_rfl), rfl, H⟩ (sub_nil _)
  · rintro f S ⟨fr1, rfl, rfl, H⟩
    replace H : (shadowboxlaw12_HmacChains.lo3 l1 (shadowboxlaw12_HmacChains.jo2 k l0 l1 l2) k (0 : Int)) = some r := H
    refine cs_cut (fun f S => ∃ (fR : Fr), f = upd (upd (upd fR 0 (.slice A0 l0.length c0)) 1 (.slice A1 l1.length c1)) 2 (.slice A2 l2.length c2) ∧ S = s0 ∧ shadowboxlaw12_HmacChains.jo2 k l0 l1 l2 = some r) ?_ ?_
    · skip
      refine cs_seq ?_
      refine cs_region (l := [_]) ?_
      refine ls_val (v := .int .i64 (0 : Int)) rfl rfl (by kernel_rfl) (fun w => by kernel_rfl) ?_
      refine ls_end ?_
      refine qn_then ?_
      refine cs_block ?_
      refine cs_sub (s0) (sub_nil _) ?_
      refine cs_loop (fun kk f S => ∃ (fR : Fr) (x7_3 : Int), f = upd (upd (upd (upd fR 0 (.slice A0 l0.length c0)) 1 (.slice A1 l1.length c1)) 2 (.slice A2 l2.length c2)) 7 (.int .i64 x7_3) ∧ S = s0 ∧ shadowboxlaw12_HmacChains.lo3 l1 (shadowboxlaw12_HmacChains.jo2 k l0 l1 l2) kk x7_3 = some r) k ?_ ?_ ?_
      · exact ⟨_, (0 : Int), fr_next (fr_next (fr_next (fr_next (rfl) (by kernel_rfl)) (by kernel_rfl)) (by kernel_rfl)) (by kernel_rfl), rfl, H⟩
      · rintro f S ⟨fr3, x7_3, rfl, rfl, H⟩; cases H
      · rintro k3 f S ⟨fr3, x7_3, rfl, rfl, H⟩
        replace H : ((if x7_3 < (l1.length : Int) then (if 0 ≤ x7_3 then lt ((((l1).getD (x7_3).toNat ByteArray.empty).size : Int)) fun y37 => (if y37 > (100 : Int) then some true else (shadowboxlaw12_HmacChains.lo3 l1 (shadowboxlaw12_HmacChains.jo2 k l0 l1 l2) k3) (IntKind.wrap .i64 (x7_3 + (1 : Int)))) else none) else (shadowboxlaw12_HmacChains.jo2 k l0 l1 l2))) = some r := H
        refine cs_seq ?_
        refine cs_seq ?_
        refine cs_region (l := [_, _, _, _]) ?_
        refine ls_val (v := .int .i64 x7_3) rfl rfl (by kernel_rfl) (fun w => by kernel_rfl) ?_
        refine ls_val (v := .slice A1 l1.length c1) rfl rfl (by kernel_rfl) (fun w => by kernel_rfl) ?_
        refine ls_val (v := .int .i64 (l1.length : Int)) rfl rfl (by kernel_rfl) (fun w => by kernel_rfl) ?_
        refine ls_val (v := .bool (decide (x7_3 < (l1.length : Int)))) rfl rfl (by kernel_rfl) (fun w => by kernel_rfl) ?_
        refine ls_end ?_
        refine qn_then ?_
        by_cases q33 : x7_3 < (l1.length : Int)
        · replace H := ite_t q33 H
          refine cs_know (c := true) (dec_t q33) 30 (by kernel_rfl) ?_
          refine cs_true (by kernel_rfl) ?_
          refine cs_skip' ?_
          refine qn_then ?_
          refine cs_seq ?_
          refine cs_block ?_
          refine cs_seq ?_
          refine cs_region (l := [_, _, _, _, _, _]) ?_
          refine ls_val (v := .slice A1 l1.length c1) rfl rfl (by kernel_rfl) (fun w => by kernel_rfl) ?_
          refine ls_val (v := .int .i64 x7_3) rfl rfl (by kernel_rfl) (fun w => by kernel_rfl) ?_
          obtain ⟨q34, H⟩ := ite_need H
          obtain ⟨ad35, hA36⟩ := ido_at (T := (Ec.str 9)) (l := l1) (i := x7_3) R1 q34 q33
          refine ls_idxv (Ec.str 9) (A := A1) (c := c1) (l := l1) (k := .i64) (i := x7_3) (z := 1) (ad := ad35) rfl rfl (by kernel_rfl) hA36 rfl (by kernel_rfl) (by kernel_rfl) (by kernel_rfl) (by kernel_rfl) q34 q33 ?_
          refine ls_load (a0 := (ad35.add ((x7_3).toNat * 1))) (v := .string ((l1).getD (x7_3).toNat ByteArray.empty)) (de := TypeDesc.string) rfl rfl (by kernel_rfl) rfl (by kernel_rfl) (by kernel_rfl) (by kernel_rfl) (fun w hs => (hs.old R1).at hA36 (em_sub (Ec.str 9) l1 (i := (x7_3).toNat) (by have h0 : (0 : Int) ≤ x7_3 := q34; have h1 : x7_3 < (l1.length : Int) := q33; omega))) ?_
          obtain ⟨y37, hy38, H⟩ := lt_some H
          refine ls_val (v := .int .i64 (((l1).getD (x7_3).toNat ByteArray.empty).size : Int)) rfl rfl (by kernel_rfl) (fun w => by kernel_rfl) ?_
          refine ls_ren 37 (v := .int .i64 (((l1).getD (x7_3).toNat ByteArray.empty).size : Int)) (v' := .int .i64 y37) (by kernel_rfl) (by rw [hy38]) ?_
          refine ls_val (v := .bool (decide (y37 > (100 : Int)))) rfl rfl (by kernel_rfl) (fun w => by kernel_rfl) ?_
          refine ls_end ?_
          refine qn_then ?_
          by_cases q39 : y37 > (100 : Int)
          · replace H := ite_t q39 H
            refine cs_know (c := true) (dec_t q39) 38 (by kernel_rfl) ?_
            refine cs_true (by kernel_rfl) ?_
            refine cs_seq ?_
            refine cs_region (l := [_]) ?_
            refine ls_val (v := .bool true) rfl rfl (by kernel_rfl) (fun w => by kernel_rfl) ?_
            refine ls_end ?_
            refine qn_then ?_
            refine cs_ret' ?_
            refine qr_block ?_
            refine qr_then ?_
            refine qr_then ?_
            refine qr_block ?_
            refine qr_then ?_
            obtain rfl := Option.some.inj H
            refine qr_res (rs := [_]) rfl (fun w' hs => ⟨[.bool true], (res_tmp (by kernel_rfl) (.nil)), (), rfl, hs.pick (ts := []) (cs := []) trivial (by decide)⟩)
          · replace H := ite_f q39 H
            refine cs_know (c := false) (dec_f q39) 38 (by kernel_rfl) ?_
            refine cs_false (by kernel_rfl) ?_
            refine cs_skip' ?_
            refine qn_block ?_
            refine qn_then ?_
            refine cs_region (l := [_, _, _]) ?_
            refine ls_val (v := .int .i64 x7_3) rfl rfl (by kernel_rfl) (fun w => by kernel_rfl) ?_
            refine ls_val (v := .int .i64 (IntKind.wrap .i64 (x7_3 + (1 : Int)))) rfl rfl (by kernel_rfl) (fun w => by kernel_rfl) ?_
            refine ls_val (v := .int .i64 (IntKind.wrap .i64 (x7_3 + (1 : Int)))) rfl rfl (by kernel_rfl) (fun w => by kernel_rfl) ?_
            refine ls_end ?_
            refine qn_again k3 (s0) (Nat.le_refl _) ⟨_, (IntKind.wrap .i64 (x7_3 + (1 : Int))), fr_next (fr_next (fr_next (fr_next (rfl) (by kernel_rfl)) (by kernel_rfl)) (by kernel_rfl)) (by kernel_rfl), rfl, H⟩ (sub_nil _)
        · replace H := ite_f q33 H
          refine cs_know (c := false) (dec_f q33) 30 (by kernel_rfl) ?_
          refine cs_false (by kernel_rfl) ?_
          refine cs_exit' ?_
          refine qx_then ?_
          refine qx_then ?_
          refine qx_same ?_
          refine qn_meet (s0) ⟨_, fr_next (fr_next (fr_next (rfl) (by kernel_rfl)) (by kernel_rfl)) (by kernel_rfl), rfl, H⟩ (sub_nil _)
    · rintro f S ⟨fr2, rfl, rfl, H⟩
      replace H : ((hmac_Chain.f k l0 l1).bind fun t1 => (shadowboxref12_Chain.f k l0 l1).bind fun t7 => (if ((strOfNums t1).toList == (strOfNums t7).toList) = true then (hmac_Same.f k t1 l2).bind fun t17 => (if (t17 == ((strOfNums t1).toList == (strOfNums l2).toList)) = true then (if (([] : List Int).length + t1.length) * 1 ≤ 140737488355328 then (hmac_Same.f k t1 (([] : List Int) ++ t1)).bind fun t25 => (if t25 = true then (hmac_Chain.f k ([(107 : Int)]) ([] : List ByteArray)).bind fun t30 => some (decide ((t30.length : Int) = (1 : Int))) else some false) else none) else some false) else some false)) = some r := H
      refine cs_seq ?_
      refine cs_region (l := [_, _, _, _]) ?_
      refine ls_val (v := .slice A0 l0.length c0) rfl rfl (by kernel_rfl) (fun w => by kernel_rfl) ?_
      refine ls_val (v := .slice A1 l1.length c1) rfl rfl (by kernel_rfl) (fun w => by kernel_rfl) ?_
      obtain ⟨t1, hc2, H⟩ := bind_some H
      refine ls_callb (fid := 13) (vals := #[.slice A0 l0.length c0, .slice A1 l1.length c1]) (X := (Option Addr × Nat)) (fun x => .slice x.1 t1.length x.2) (fun x => stl [Ck.ro (Ec.int 5 .u8) x.1 x.2 t1]) [] [] [] [] 0 rfl rfl (by kernel_rfl) (fun w => by kernel_rfl) trivial trivial (by decide) (fun w hs hb => hmac_Chain.calls k A0 c0 l0 A1 c1 l1 t1 (lent b w [] []) hb (hs.ro R0 _ _) C0 (hs.ro R1 _ _) C1 hc2) ?_
      intro x3
      refine ls_val (v := .slice x3.1 t1.length x3.2) rfl rfl (by kernel_rfl) (fun w => by kernel_rfl) ?_
      refine ls_end ?_
      refine qn_then ?_
      refine cs_seq ?_
      obtain ⟨t7, hc8, H⟩ := bind_some H
      by_cases q16 : ((strOfNums t1).toList == (strOfNums t7).toList) = true
      · replace H := ite_t q16 H
        obtain ⟨t17, hc18, H⟩ := bind_some H
        by_cases q20 : (t17 == ((strOfNums t1).toList == (strOfNums l2).toList)) = true
        · replace H := ite_t q20 H
          obtain ⟨q22, H⟩ := ite_need H
          refine cs_sub (sput s0 0 (some (Ck.ro (Ec.int 5 .u8) x3.1 x3.2 t1))) (sub_put (by exact rfl) (sub_nil _)) ?_
          refine cs_okk ?_
          intro hkq6
          refine cs_chainb (l := [_, _, _, _, _, _, _, _, _, _, _, _, _, _, _, _, _, _, _, _, _, _, _, _, _, _, _, _, _, _, _, _, _]) [[], [0], [], [], [2, 3], [2, 3, 4], [0, 1, 2, 3, 4, 5], [0, 1, 2, 3, 4, 5, 6], [0, 1, 2, 3, 4, 5, 6, 7], [0, 1, 2, 3, 4, 5, 6, 7], [0, 1, 2, 3, 4, 5, 6, 7, 8, 9], [0, 1, 2, 3, 4, 5, 6, 7], [0, 1, 2, 3, 4, 5, 6, 7, 11], [0, 1, 2, 3, 4, 5, 6, 7], [0, 1, 2, 3, 4, 5, 6, 7, 13], [0, 1, 2, 3, 4, 5, 6, 7, 11, 12, 13, 14], [0, 1, 2, 3, 4, 5, 6, 7, 8, 9, 10, 11, 12, 13, 14, 15], [0, 1, 2, 3, 4, 5, 6, 7, 8, 9, 10, 11, 12, 13, 14, 15, 16], [0, 1, 2, 3, 4, 5, 6, 7, 8, 9, 10, 11, 12, 13, 14, 15, 16, 17], [0, 1, 2, 3, 4, 5, 6, 7, 8, 9, 10, 11, 12, 13, 14, 15, 16, 17, 18], [0, 1, 2, 3, 4, 5, 6, 7, 8, 9, 10, 11, 12, 13, 14, 15, 16, 17, 18], [0, 1, 2, 3, 4, 5, 6, 7, 8, 9, 10, 11, 12, 13, 14, 15, 16, 17, 18], [0, 1, 2, 3, 4, 5, 6, 7, 8, 9, 10, 11, 12, 13, 14, 15, 16, 17, 18, 20, 21], [0, 1, 2, 3, 4, 5, 6, 7, 8, 9, 10, 11, 12, 13, 14, 15, 16, 17, 18, 19, 20, 21, 22], [0, 1, 2, 3, 4, 5, 6, 7, 8, 9, 10, 11, 12, 13, 14, 15, 16, 17, 18, 19, 20, 21, 22, 23], [0, 1, 2, 3, 4, 5, 6, 7, 8, 9, 10, 11, 12, 13, 14, 15, 16, 17, 18, 19, 20, 21, 22, 23, 24], [0, 1, 2, 3, 4, 5, 6, 7, 8, 9, 10, 11, 12, 13, 14, 15, 16, 17, 18, 19, 20, 21, 22, 23, 24, 25], [0, 1, 2, 3, 4, 5, 6, 7, 8, 9, 10, 11, 12, 13, 14, 15, 16, 17, 18, 19, 20, 21, 22, 23, 24, 25, 26], [0, 1, 2, 3, 4, 5, 6, 7, 8, 9, 10, 11, 12, 13, 14, 15, 16, 17, 18, 19, 20, 21, 22, 23, 24, 25, 26, 27], [0, 1, 2, 3, 4, 5, 6, 7, 8, 9, 10, 11, 12, 13, 14, 15, 16, 17, 18, 19, 20, 21, 22, 23, 24, 25, 26, 27, 28], [0, 1, 2, 3, 4, 5, 6, 7, 8, 9, 10, 11, 12, 13, 14, 15, 16, 17, 18, 19, 20, 21, 22, 23, 24, 25, 26, 27, 28, 29], [0, 1, 2, 3, 4, 5, 6, 7, 8, 9, 10, 11, 12, 13, 14, 15, 16, 17, 18, 19, 20, 21, 22, 23, 24, 25, 26, 27, 28, 29, 30], [0, 1, 2, 3, 4, 5, 6, 7, 8, 9, 10, 11, 12, 13, 14, 15, 16, 17, 18, 19, 20, 21, 22, 23, 24, 25, 26, 27, 28, 29, 30, 31]] 23 (fun u => [0].contains u) (efl [false, false, false, false, true, true, false, false, false, false, true, false, false, false, false, false, false, false, false, false, true, false, true]) (pvl [.val (.slice x3.1 t1.length x3.2), .val (.string (strOfNums t1)), .val (.slice A0 l0.length c0), .val (.slice A1 l1.length c1), .eff 4, .val (.string (strOfNums t7)), .val (.bool true), .val (.bool true), .val (.slice x3.1 t1.length x3.2), .val (.slice A2 l2.length c2), .val (.bool t17), .val (.slice x3.1 t1.length x3.2), .val (.string (strOfNums t1)), .val (.slice A2 l2.length c2), .val (.string (strOfNums l2)), .val (.bool ((strOfNums t1).toList == (strOfNums l2).toList)), .val (.bool true), .val (.bool true), .val (.bool true), .val (.slice x3.1 t1.length x3.2), .eff 20, .val (.slice x3.1 t1.length x3.2), .eff 22]) (Eslb [fun (B : Bs) (es : Nat → Value) (S' : Sto) => S' = sput s0 0 (some (Ck.ro (Ec.int 5 .u8) x3.1 x3.2 t1)), fun (B : Bs) (es : Nat → Value) (S' : Sto) => ∃ (x9 : (Option Addr × Nat)), es 4 = .slice x9.1 t7.length x9.2 ∧ Ro B x9.1 (em (Ec.int 5 .u8) t7) ∧ t7.length ≤ x9.2 ∧ S' = sput s0 0 (some (Ck.ro (Ec.int 5 .u8) x3.1 x3.2 t1)), fun (B : Bs) (es : Nat → Value) (S' : Sto) => ∃ (x9 : (Option Addr × Nat)), es 4 = .slice x9.1 t7.length x9.2 ∧ es 5 = .string (strOfNums t7) ∧ Ro B x9.1 (em (Ec.int 5 .u8) t7) ∧ t7.length ≤ x9.2 ∧ S' = sput s0 0 (some (Ck.ro (Ec.int 5 .u8) x3.1 x3.2 t1)), fun (B : Bs) (es : Nat → Value) (S' : Sto) => ∃ (x9 : (Option Addr × Nat)) (x19 : Unit), es 4 = .slice x9.1 t7.length x9.2 ∧ es 5 = .string (strOfNums t7) ∧ es 10 = .bool t17 ∧ Ro B x9.1 (em (Ec.int 5 .u8) t7) ∧ t7.length ≤ x9.2 ∧ S' = sput s0 0 (some (Ck.ro (Ec.int 5 .u8) x3.1 x3.2 t1)), fun (B : Bs) (es : Nat → Value) (S' : Sto) => ∃ (x9 : (Option Addr × Nat)) (x19 : Unit) (g21 : Nat), es 4 = .slice x9.1 t7.length x9.2 ∧ es 5 = .string (strOfNums t7) ∧ es 10 = .bool t17 ∧ es 20 = .slice (some ⟨g21, 0, none⟩) ([] : List Int).length ([] : List Int).length ∧ Ro B x9.1 (em (Ec.int 5 .u8) t7) ∧ t7.length ≤ x9.2 ∧ S' = sput (sput s0 0 (some (Ck.ro (Ec.int 5 .u8) x3.1 x3.2 t1))) 1 (some (Ck.sl (Ec.int 5 .u8) (some ⟨g21, 0, none⟩) (([] : List Int).length) ([] : List Int))), fun (B : Bs) (es : Nat → Value) (S' : Sto) => ∃ (x9 : (Option Addr × Nat)) (x19 : Unit) (g21 : Nat) (xA23 : Option Addr) (xc24 : Nat), es 4 = .slice x9.1 t7.length x9.2 ∧ es 5 = .string (strOfNums t7) ∧ es 10 = .bool t17 ∧ es 20 = .slice (some ⟨g21, 0, none⟩) ([] : List Int).length ([] : List Int).length ∧ es 22 = .slice xA23 (([] : List Int) ++ t1).length xc24 ∧ Ro B x9.1 (em (Ec.int 5 .u8) t7) ∧ t7.length ≤ x9.2 ∧ S' = sput (sput s0 0 (some (Ck.ro (Ec.int 5 .u8) x3.1 x3.2 t1))) 1 (some (Ck.sl (Ec.int 5 .u8) xA23 xc24 (([] : List Int) ++ t1)))] [0, 0, 0, 0, 0, 1, 0, 0, 0, 0, 2, 0, 0, 0, 0, 0, 0, 0, 0, 0, 3, 0, 4, 5]) (nxl [0, 0, 0, 0, 5, 10, 0, 0, 0, 0, 20, 0, 0, 0, 0, 0, 0, 0, 0, 0, 22, 0, 23]) (onl [true, true, true, true, true, true, true, true, true, true, true, true, true, true, true, true, true, true, true, true, true, true, true]) 4 (by kernel_rfl) (by kernel_rfl) (by kernel_rfl) (by kernel_rfl) (by kernel_rfl) (rs := [_, _, _, _, _, _, _, _, _, _]) rfl (by kernel_rfl) (by kernel_rfl) (fun es => ?_) ?_ ?_
          · exact (rfl : sput s0 0 (some (Ck.ro (Ec.int 5 .u8) x3.1 x3.2 t1)) = sput s0 0 (some (Ck.ro (Ec.int 5 .u8) x3.1 x3.2 t1)))
          · refine all_snoc (all_snoc (all_snoc (all_snoc (all_snoc (all_snoc (all_snoc (all_snoc (all_snoc (all_snoc (all_snoc (all_snoc (all_snoc (all_snoc (all_snoc (all_snoc (all_snoc (all_snoc (all_snoc (all_snoc (all_snoc (all_snoc (all_snoc (all_nil) ?_) ?_) ?_) ?_) ?_) ?_) ?_) ?_) ?_) ?_) ?_) ?_) ?_) ?_) ?_) ?_) ?_) ?_) ?_) ?_) ?_) ?_) ?_
            · refine ⟨fun o ho Bq4 es vs f' S' hlq5 hve hvp hf hx hK hE => ?_⟩
              obtain rfl := Option.some.inj ho
              refine ⟨want_none rfl, fun _ _ => ?_, (fun _ h => by cases h), (fun h _ => by cases h), (fun h _ => by cases h)⟩
              have hF := fr_next (rfl) ((hx 8 (by kernel_rfl)).trans (by kernel_rfl : (_ : Value) = .slice x3.1 t1.length x3.2))
              refine ls_fr hF ?_
              refine ls_val (v := .slice x3.1 t1.length x3.2) rfl rfl (by kernel_rfl) (fun w => by kernel_rfl) ?_
              exact ls_finp (.slice x3.1 t1.length x3.2) (congrArg (fun z => upd z 42 _) hF.symm) rfl
            · refine ⟨fun o ho Bq4 es vs f' S' hlq5 hve hvp hf hx hK hE => ?_⟩
              obtain rfl := Option.some.inj ho
              refine ⟨want_none rfl, fun _ _ => ?_, (fun _ h => by cases h), (fun h _ => by cases h), (fun h _ => by cases h)⟩
              have hF := fr_next (rfl) ((hf 0 42 (by kernel_rfl) rfl).trans (show vs 0 = .slice x3.1 t1.length x3.2 from hvp 0 (by kernel_rfl)))
              refine ls_fr hF ?_
              refine ls_str (A := x3.1) (c := x3.2) (e := 5) (l := t1) rfl rfl (by kernel_rfl) rfl (by kernel_rfl) (by kernel_rfl) (by kernel_rfl) (by kernel_rfl) (fun w hs => (hs.rod (k := 0) ((hK 0 (by rfl)).trans (by exact rfl)))) ?_
              exact ls_finp (.string (strOfNums t1)) (congrArg (fun z => upd z 43 _) hF.symm) rfl
            · refine ⟨fun o ho Bq4 es vs f' S' hlq5 hve hvp hf hx hK hE => ?_⟩
              obtain rfl := Option.some.inj ho
              refine ⟨want_none rfl, fun _ _ => ?_, (fun _ h => by cases h), (fun h _ => by cases h), (fun h _ => by cases h)⟩
              have hF := fr_next (rfl) ((hx 0 (by kernel_rfl)).trans (by kernel_rfl : (_ : Value) = .slice A0 l0.length c0))
              refine ls_fr hF ?_
              refine ls_val (v := .slice A0 l0.length c0) rfl rfl (by kernel_rfl) (fun w => by kernel_rfl) ?_
              exact ls_finp (.slice A0 l0.length c0) (congrArg (fun z => upd z 44 _) hF.symm) rfl
            · refine ⟨fun o ho Bq4 es vs f' S' hlq5 hve hvp hf hx hK hE => ?_⟩
              obtain rfl := Option.some.inj ho
              refine ⟨want_none rfl, fun _ _ => ?_, (fun _ h => by cases h), (fun h _ => by cases h), (fun h _ => by cases h)⟩
              have hF := fr_next (rfl) ((hx 1 (by kernel_rfl)).trans (by kernel_rfl : (_ : Value) = .slice A1 l1.length c1))
              refine ls_fr hF ?_
              refine ls_val (v := .slice A1 l1.length c1) rfl rfl (by kernel_rfl) (fun w => by kernel_rfl) ?_
              exact ls_finp (.slice A1 l1.length c1) (congrArg (fun z => upd z 45 _) hF.symm) rfl
            · refine ⟨fun o ho Bq4 es vs f' S' hlq5 hve hvp hf hx hK hE => ?_⟩
              obtain rfl := Option.some.inj ho
              obtain rfl := hE rfl
              refine ⟨want_none rfl, (fun h _ => by cases h), (fun h _ => by cases h), fun _ _ => ?_, (fun _ h => by cases h)⟩
              have hF := fr_next (fr_next (rfl) ((hf 2 44 (by kernel_rfl) rfl).trans (show vs 2 = .slice A0 l0.length c0 from hvp 2 (by kernel_rfl)))) ((hf 3 45 (by kernel_rfl) rfl).trans (show vs 3 = .slice A1 l1.length c1 from hvp 3 (by kernel_rfl)))
              refine ls_fr hF ?_
              refine ls_callf (fid := 14) (vals := #[.slice A0 l0.length c0, .slice A1 l1.length c1]) (X := (Option Addr × Nat)) (fun x => .slice x.1 t7.length x.2) (fun x => stl []) (fun x B => (Ro B x.1 (em (Ec.int 5 .u8) t7) ∧ t7.length ≤ x.2)) [] [] 1 rfl rfl (by kernel_rfl) (fun w => by kernel_rfl) trivial (by decide) (fun x b b' h hf => ⟨h _ _ hf.1, hf.2⟩) (fun w hs hb => shadowboxref12_Chain.calls k A0 c0 l0 A1 c1 l1 t7 (lent Bq4 w [] []) hb (hs.ro (Ro.mono hkq6 hlq5 R0) _ _) C0 (hs.ro (Ro.mono hkq6 hlq5 R1) _ _) C1 hc8) ?_
              intro x9 bs12 hle13 hok14 hf15
              obtain ⟨fR10, fC11⟩ := hf15
              exact ls_fineb (sput s0 0 (some (Ck.ro (Ec.int 5 .u8) x3.1 x3.2 t1))) (.slice x9.1 t7.length x9.2) hle13 (congrArg (fun z => upd z 46 _) hF.symm) (show (fun (B : Bs) (es : Nat → Value) (S' : Sto) => ∃ (x9 : (Option Addr × Nat)), es 4 = .slice x9.1 t7.length x9.2 ∧ Ro B x9.1 (em (Ec.int 5 .u8) t7) ∧ t7.length ≤ x9.2 ∧ S' = sput s0 0 (some (Ck.ro (Ec.int 5 .u8) x3.1 x3.2 t1))) bs12 (upv es 4 (.slice x9.1 t7.length x9.2)) (sput s0 0 (some (Ck.ro (Ec.int 5 .u8) x3.1 x3.2 t1))) from ⟨x9, rfl, fR10, fC11, rfl⟩) rfl (keep_cons (by exact rfl) (keep_nil)) (sub_put (by exact rfl) (sub_nil _))
            · refine ⟨fun o ho Bq4 es vs f' S' hlq5 hve hvp hf hx hK hE => ?_⟩
              obtain rfl := Option.some.inj ho
              obtain ⟨x9, hv4, fR10, fC11, rfl⟩ := hE rfl
              refine ⟨want_none rfl, (fun h _ => by cases h), (fun h _ => by cases h), fun _ _ => ?_, (fun _ h => by cases h)⟩
              have hF := fr_next (rfl) (((hf 4 46 (by kernel_rfl) rfl).trans (show vs 4 = es 4 from hvp 4 (by kernel_rfl))).trans hv4)
              refine ls_fr hF ?_
              refine ls_str (A := x9.1) (c := x9.2) (e := 5) (l := t7) rfl rfl (by kernel_rfl) rfl (by kernel_rfl) (by kernel_rfl) (by kernel_rfl) (by kernel_rfl) (fun w hs => (hs.old fR10)) ?_
              exact ls_fineb (sput s0 0 (some (Ck.ro (Ec.int 5 .u8) x3.1 x3.2 t1))) (.string (strOfNums t7)) (Bs.le.refl _) (congrArg (fun z => upd z 47 _) hF.symm) (show (fun (B : Bs) (es : Nat → Value) (S' : Sto) => ∃ (x9 : (Option Addr × Nat)), es 4 = .slice x9.1 t7.length x9.2 ∧ es 5 = .string (strOfNums t7) ∧ Ro B x9.1 (em (Ec.int 5 .u8) t7) ∧ t7.length ≤ x9.2 ∧ S' = sput s0 0 (some (Ck.ro (Ec.int 5 .u8) x3.1 x3.2 t1))) Bq4 (upv es 5 (.string (strOfNums t7))) (sput s0 0 (some (Ck.ro (Ec.int 5 .u8) x3.1 x3.2 t1))) from ⟨x9, hv4, rfl, fR10, fC11, rfl⟩) rfl (keep_cons (by exact rfl) (keep_nil)) (sub_put (by exact rfl) (sub_nil _))
            · refine ⟨fun o ho Bq4 es vs f' S' hlq5 hve hvp hf hx hK hE => ?_⟩
              obtain rfl := Option.some.inj ho
              refine ⟨want_none rfl, fun _ _ => ?_, (fun _ h => by cases h), (fun h _ => by cases h), (fun h _ => by cases h)⟩
              have hF := fr_next (fr_next (rfl) ((hf 1 43 (by kernel_rfl) rfl).trans (show vs 1 = .string (strOfNums t1) from hvp 1 (by kernel_rfl)))) ((hf 5 47 (by kernel_rfl) rfl).trans (show vs 5 = .string (strOfNums t7) from hvp 5 (by kernel_rfl)))
              refine ls_fr hF ?_
              refine ls_val (v := .bool ((strOfNums t1).toList == (strOfNums t7).toList)) rfl rfl (by kernel_rfl) (fun w => by kernel_rfl) ?_
              refine ls_ren 48 (v := .bool ((strOfNums t1).toList == (strOfNums t7).toList)) (v' := .bool true) (by kernel_rfl) (congrArg Value.bool (show ((strOfNums t1).toList == (strOfNums t7).toList) = true from q16)) ?_
              exact ls_finp (.bool true) ((upd_upd _ _ _ _).trans (congrArg (fun z => upd z 48 _) hF.symm)) rfl
            · refine ⟨fun o ho Bq4 es vs f' S' hlq5 hve hvp hf hx hK hE => ?_⟩
              obtain rfl := Option.some.inj ho
              refine ⟨want_none rfl, fun _ _ => ?_, (fun _ h => by cases h), (fun h _ => by cases h), (fun h _ => by cases h)⟩
              have hF := fr_next (rfl) ((hf 6 48 (by kernel_rfl) rfl).trans (show vs 6 = .bool true from hvp 6 (by kernel_rfl)))
              refine ls_fr hF ?_
              refine ls_val (v := .bool true) rfl rfl (by kernel_rfl) (fun w => by kernel_rfl) ?_
              exact ls_finp (.bool true) (congrArg (fun z => upd z 49 _) hF.symm) rfl
            · refine ⟨fun o ho Bq4 es vs f' S' hlq5 hve hvp hf hx hK hE => ?_⟩
              obtain rfl := Option.some.inj ho
              refine ⟨want_is (j := 7) (t := 49) rfl rfl (by kernel_rfl) ((hf 7 49 (by kernel_rfl) rfl).trans (show vs 7 = .bool true from hvp 7 (by kernel_rfl))) rfl, fun _ _ => ?_, (fun _ h => by cases h), (fun h _ => by cases h), (fun h _ => by cases h)⟩
              have hF := fr_next (fr_next (rfl) ((hx 8 (by kernel_rfl)).trans (by kernel_rfl : (_ : Value) = .slice x3.1 t1.length x3.2))) ((hf 7 49 (by kernel_rfl) rfl).trans (show vs 7 = .bool true from hvp 7 (by kernel_rfl)))
              refine ls_fr hF ?_
              refine ls_val (v := .slice x3.1 t1.length x3.2) rfl rfl (by kernel_rfl) (fun w => by kernel_rfl) ?_
              exact ls_finp (.slice x3.1 t1.length x3.2) (congrArg (fun z => upd z 50 _) hF.symm) rfl
            · refine ⟨fun o ho Bq4 es vs f' S' hlq5 hve hvp hf hx hK hE => ?_⟩
              obtain rfl := Option.some.inj ho
              refine ⟨want_is (j := 7) (t := 49) rfl rfl (by kernel_rfl) ((hf 7 49 (by kernel_rfl) rfl).trans (show vs 7 = .bool true from hvp 7 (by kernel_rfl))) rfl, fun _ _ => ?_, (fun _ h => by cases h), (fun h _ => by cases h), (fun h _ => by cases h)⟩
              have hF := fr_next (fr_next (rfl) ((hx 2 (by kernel_rfl)).trans (by kernel_rfl : (_ : Value) = .slice A2 l2.length c2))) ((hf 7 49 (by kernel_rfl) rfl).trans (show vs 7 = .bool true from hvp 7 (by kernel_rfl)))
              refine ls_fr hF ?_
              refine ls_val (v := .slice A2 l2.length c2) rfl rfl (by kernel_rfl) (fun w => by kernel_rfl) ?_
              exact ls_finp (.slice A2 l2.length c2) (congrArg (fun z => upd z 51 _) hF.symm) rfl
            · refine ⟨fun o ho Bq4 es vs f' S' hlq5 hve hvp hf hx hK hE => ?_⟩
              obtain rfl := Option.some.inj ho
              obtain ⟨x9, hv4, hv5, fR10, fC11, rfl⟩ := hE rfl
              refine ⟨want_is (j := 7) (t := 49) rfl rfl (by kernel_rfl) ((hf 7 49 (by kernel_rfl) rfl).trans (show vs 7 = .bool true from hvp 7 (by kernel_rfl))) rfl, (fun h _ => by cases h), (fun h _ => by cases h), fun _ _ => ?_, (fun _ h => by cases h)⟩
              have hF := fr_next (fr_next (fr_next (rfl) ((hf 7 49 (by kernel_rfl) rfl).trans (show vs 7 = .bool true from hvp 7 (by kernel_rfl)))) ((hf 8 50 (by kernel_rfl) rfl).trans (show vs 8 = .slice x3.1 t1.length x3.2 from hvp 8 (by kernel_rfl)))) ((hf 9 51 (by kernel_rfl) rfl).trans (show vs 9 = .slice A2 l2.length c2 from hvp 9 (by kernel_rfl)))
              refine ls_fr hF ?_
              refine ls_callb (fid := 15) (vals := #[.slice x3.1 t1.length x3.2, .slice A2 l2.length c2]) (X := Unit) (fun x => .bool t17) (fun x => stl []) [] [0] [] [Ck.ro (Ec.int 5 .u8) x3.1 x3.2 t1] 1 rfl rfl (by kernel_rfl) (fun w => by kernel_rfl) trivial ⟨by exact rfl, trivial⟩ (by decide) (fun w hs hb => hmac_Same.calls k x3.1 x3.2 t1 A2 c2 l2 t17 (lent Bq4 w [] [Ck.ro (Ec.int 5 .u8) x3.1 x3.2 t1]) hb (hs.roror (k := 0) (by exact rfl) (.head _)) (hs.rocap (k := 0) (by exact rfl)) (hs.ro (Ro.mono hkq6 hlq5 R2) _ _) C2 hc18) ?_
              intro x19
              exact ls_fineb (sput s0 0 (some (Ck.ro (Ec.int 5 .u8) x3.1 x3.2 t1))) (.bool t17) (Bs.le.refl _) (congrArg (fun z => upd z 52 _) hF.symm) (show (fun (B : Bs) (es : Nat → Value) (S' : Sto) => ∃ (x9 : (Option Addr × Nat)) (x19 : Unit), es 4 = .slice x9.1 t7.length x9.2 ∧ es 5 = .string (strOfNums t7) ∧ es 10 = .bool t17 ∧ Ro B x9.1 (em (Ec.int 5 .u8) t7) ∧ t7.length ≤ x9.2 ∧ S' = sput s0 0 (some (Ck.ro (Ec.int 5 .u8) x3.1 x3.2 t1))) Bq4 (upv es 10 (.bool t17)) (sput s0 0 (some (Ck.ro (Ec.int 5 .u8) x3.1 x3.2 t1))) from ⟨x9, x19, hv4, hv5, rfl, fR10, fC11, rfl⟩) rfl (keep_cons (by exact rfl) (keep_nil)) (sub_put (by exact rfl) (sub_nil _))
            · refine ⟨fun o ho Bq4 es vs f' S' hlq5 hve hvp hf hx hK hE => ?_⟩
              obtain rfl := Option.some.inj ho
              refine ⟨want_is (j := 7) (t := 49) rfl rfl (by kernel_rfl) ((hf 7 49 (by kernel_rfl) rfl).trans (show vs 7 = .bool true from hvp 7 (by kernel_rfl))) rfl, fun _ _ => ?_, (fun _ h => by cases h), (fun h _ => by cases h), (fun h _ => by cases h)⟩
              have hF := fr_next (fr_next (rfl) ((hx 8 (by kernel_rfl)).trans (by kernel_rfl : (_ : Value) = .slice x3.1 t1.length x3.2))) ((hf 7 49 (by kernel_rfl) rfl).trans (show vs 7 = .bool true from hvp 7 (by kernel_rfl)))
              refine ls_fr hF ?_
              refine ls_val (v := .slice x3.1 t1.length x3.2) rfl rfl (by kernel_rfl) (fun w => by kernel_rfl) ?_
              exact ls_finp (.slice x3.1 t1.length x3.2) (congrArg (fun z => upd z 53 _) hF.symm) rfl
            · refine ⟨fun o ho Bq4 es vs f' S' hlq5 hve hvp hf hx hK hE => ?_⟩
              obtain rfl := Option.some.inj ho
              refine ⟨want_is (j := 7) (t := 49) rfl rfl (by kernel_rfl) ((hf 7 49 (by kernel_rfl) rfl).trans (show vs 7 = .bool true from hvp 7 (by kernel_rfl))) rfl, fun _ _ => ?_, (fun _ h => by cases h), (fun h _ => by cases h), (fun h _ => by cases h)⟩
              have hF := fr_next (fr_next (rfl) ((hf 7 49 (by kernel_rfl) rfl).trans (show vs 7 = .bool true from hvp 7 (by kernel_rfl)))) ((hf 11 53 (by kernel_rfl) rfl).trans (show vs 11 = .slice x3.1 t1.length x3.2 from hvp 11 (by kernel_rfl)))
              refine ls_fr hF ?_
              refine ls_str (A := x3.1) (c := x3.2) (e := 5) (l := t1) rfl rfl (by kernel_rfl) rfl (by kernel_rfl) (by kernel_rfl) (by kernel_rfl) (by kernel_rfl) (fun w hs => (hs.rod (k := 0) ((hK 0 (by rfl)).trans (by exact rfl)))) ?_
              exact ls_finp (.string (strOfNums t1)) (congrArg (fun z => upd z 54 _) hF.symm) rfl
            · refine ⟨fun o ho Bq4 es vs f' S' hlq5 hve hvp hf hx hK hE => ?_⟩
              obtain rfl := Option.some.inj ho
              refine ⟨want_is (j := 7) (t := 49) rfl rfl (by kernel_rfl) ((hf 7 49 (by kernel_rfl) rfl).trans (show vs 7 = .bool true from hvp 7 (by kernel_rfl))) rfl, fun _ _ => ?_, (fun _ h => by cases h), (fun h _ => by cases h), (fun h _ => by cases h)⟩
              have hF := fr_next (fr_next (rfl) ((hx 2 (by kernel_rfl)).trans (by kernel_rfl : (_ : Value) = .slice A2 l2.length c2))) ((hf 7 49 (by kernel_rfl) rfl).trans (show vs 7 = .bool true from hvp 7 (by kernel_rfl)))
              refine ls_fr hF ?_
              refine ls_val (v := .slice A2 l2.length c2) rfl rfl (by kernel_rfl) (fun w => by kernel_rfl) ?_
              exact ls_finp (.slice A2 l2.length c2) (congrArg (fun z => upd z 55 _) hF.symm) rfl
            · refine ⟨fun o ho Bq4 es vs f' S' hlq5 hve hvp hf hx hK hE => ?_⟩
              obtain rfl := Option.some.inj ho
              refine ⟨want_is (j := 7) (t := 49) rfl rfl (by kernel_rfl) ((hf 7 49 (by kernel_rfl) rfl).trans (show vs 7 = .bool true from hvp 7 (by kernel_rfl))) rfl, fun _ _ => ?_, (fun _ h => by cases h), (fun h _ => by cases h), (fun h _ => by cases h)⟩
              have hF := fr_next (fr_next (rfl) ((hf 7 49 (by kernel_rfl) rfl).trans (show vs 7 = .bool true from hvp 7 (by kernel_rfl)))) ((hf 13 55 (by kernel_rfl) rfl).trans (show vs 13 = .slice A2 l2.length c2 from hvp 13 (by kernel_rfl)))
              refine ls_fr hF ?_
              refine ls_str (A := A2) (c := c2) (e := 5) (l := l2) rfl rfl (by kernel_rfl) rfl (by kernel_rfl) (by kernel_rfl) (by kernel_rfl) (by kernel_rfl) (fun w hs => (hs.old (Ro.mono hkq6 hlq5 R2))) ?_
              exact ls_finp (.string (strOfNums l2)) (congrArg (fun z => upd z 56 _) hF.symm) rfl
            · refine ⟨fun o ho Bq4 es vs f' S' hlq5 hve hvp hf hx hK hE => ?_⟩
              obtain rfl := Option.some.inj ho
              refine ⟨want_is (j := 7) (t := 49) rfl rfl (by kernel_rfl) ((hf 7 49 (by kernel_rfl) rfl).trans (show vs 7 = .bool true from hvp 7 (by kernel_rfl))) rfl, fun _ _ => ?_, (fun _ h => by cases h), (fun h _ => by cases h), (fun h _ => by cases h)⟩
              have hF := fr_next (fr_next (fr_next (rfl) ((hf 7 49 (by kernel_rfl) rfl).trans (show vs 7 = .bool true from hvp 7 (by kernel_rfl)))) ((hf 12 54 (by kernel_rfl) rfl).trans (show vs 12 = .string (strOfNums t1) from hvp 12 (by kernel_rfl)))) ((hf 14 56 (by kernel_rfl) rfl).trans (show vs 14 = .string (strOfNums l2) from hvp 14 (by kernel_rfl)))
              refine ls_fr hF ?_
              refine ls_val (v := .bool ((strOfNums t1).toList == (strOfNums l2).toList)) rfl rfl (by kernel_rfl) (fun w => by kernel_rfl) ?_
              exact ls_finp (.bool ((strOfNums t1).toList == (strOfNums l2).toList)) (congrArg (fun z => upd z 57 _) hF.symm) rfl
            · refine ⟨fun o ho Bq4 es vs f' S' hlq5 hve hvp hf hx hK hE => ?_⟩
              obtain rfl := Option.some.inj ho
              refine ⟨want_is (j := 7) (t := 49) rfl rfl (by kernel_rfl) ((hf 7 49 (by kernel_rfl) rfl).trans (show vs 7 = .bool true from hvp 7 (by kernel_rfl))) rfl, fun _ _ => ?_, (fun _ h => by cases h), (fun h _ => by cases h), (fun h _ => by cases h)⟩
              have hF := fr_next (fr_next (fr_next (rfl) ((hf 7 49 (by kernel_rfl) rfl).trans (show vs 7 = .bool true from hvp 7 (by kernel_rfl)))) ((hf 10 52 (by kernel_rfl) rfl).trans (show vs 10 = .bool t17 from hvp 10 (by kernel_rfl)))) ((hf 15 57 (by kernel_rfl) rfl).trans (show vs 15 = .bool ((strOfNums t1).toList == (strOfNums l2).toList) from hvp 15 (by kernel_rfl)))
              refine ls_fr hF ?_
              refine ls_val (v := .bool (t17 == ((strOfNums t1).toList == (strOfNums l2).toList))) rfl rfl (by kernel_rfl) (fun w => by kernel_rfl) ?_
              refine ls_ren 58 (v := .bool (t17 == ((strOfNums t1).toList == (strOfNums l2).toList))) (v' := .bool true) (by kernel_rfl) (congrArg Value.bool (show (t17 == ((strOfNums t1).toList == (strOfNums l2).toList)) = true from q20)) ?_
              exact ls_finp (.bool true) ((upd_upd _ _ _ _).trans (congrArg (fun z => upd z 58 _) hF.symm)) rfl
            · refine ⟨fun o ho Bq4 es vs f' S' hlq5 hve hvp hf hx hK hE => ?_⟩
              obtain rfl := Option.some.inj ho
              refine ⟨want_none rfl, fun _ _ => ?_, (fun _ h => by cases h), (fun h _ => by cases h), (fun h _ => by cases h)⟩
              have hF := fr_next (fr_next (rfl) ((hf 7 49 (by kernel_rfl) rfl).trans (show vs 7 = .bool true from hvp 7 (by kernel_rfl)))) ((hf 16 58 (by kernel_rfl) rfl).trans (show vs 16 = .bool true from hvp 16 (by kernel_rfl)))
              refine ls_fr hF ?_
              refine ls_val (v := .bool true) rfl rfl (by kernel_rfl) (fun w => by kernel_rfl) ?_
              exact ls_finp (.bool true) (congrArg (fun z => upd z 59 _) hF.symm) rfl
            · refine ⟨fun o ho Bq4 es vs f' S' hlq5 hve hvp hf hx hK hE => ?_⟩
              obtain rfl := Option.some.inj ho
              refine ⟨want_none rfl, fun _ _ => ?_, (fun _ h => by cases h), (fun h _ => by cases h), (fun h _ => by cases h)⟩
              have hF := fr_next (rfl) ((hf 17 59 (by kernel_rfl) rfl).trans (show vs 17 = .bool true from hvp 17 (by kernel_rfl)))
              refine ls_fr hF ?_
              refine ls_val (v := .bool true) rfl rfl (by kernel_rfl) (fun w => by kernel_rfl) ?_
              exact ls_finp (.bool true) (congrArg (fun z => upd z 60 _) hF.symm) rfl
            · refine ⟨fun o ho Bq4 es vs f' S' hlq5 hve hvp hf hx hK hE => ?_⟩
              obtain rfl := Option.some.inj ho
              refine ⟨want_is (j := 18) (t := 60) rfl rfl (by kernel_rfl) ((hf 18 60 (by kernel_rfl) rfl).trans (show vs 18 = .bool true from hvp 18 (by kernel_rfl))) rfl, fun _ _ => ?_, (fun _ h => by cases h), (fun h _ => by cases h), (fun h _ => by cases h)⟩
              have hF := fr_next (fr_next (rfl) ((hx 8 (by kernel_rfl)).trans (by kernel_rfl : (_ : Value) = .slice x3.1 t1.length x3.2))) ((hf 18 60 (by kernel_rfl) rfl).trans (show vs 18 = .bool true from hvp 18 (by kernel_rfl)))
              refine ls_fr hF ?_
              refine ls_val (v := .slice x3.1 t1.length x3.2) rfl rfl (by kernel_rfl) (fun w => by kernel_rfl) ?_
              exact ls_finp (.slice x3.1 t1.length x3.2) (congrArg (fun z => upd z 61 _) hF.symm) rfl
            · refine ⟨fun o ho Bq4 es vs f' S' hlq5 hve hvp hf hx hK hE => ?_⟩
              obtain rfl := Option.some.inj ho
              obtain ⟨x9, x19, hv4, hv5, hv10, fR10, fC11, rfl⟩ := hE rfl
              refine ⟨want_is (j := 18) (t := 60) rfl rfl (by kernel_rfl) ((hf 18 60 (by kernel_rfl) rfl).trans (show vs 18 = .bool true from hvp 18 (by kernel_rfl))) rfl, (fun h _ => by cases h), (fun h _ => by cases h), fun _ _ => ?_, (fun _ h => by cases h)⟩
              have hF := fr_next (rfl) ((hf 18 60 (by kernel_rfl) rfl).trans (show vs 18 = .bool true from hvp 18 (by kernel_rfl)))
              refine ls_fr hF ?_
              refine ls_lit (Ec.int 5 .u8) 1 rfl rfl (by kernel_rfl) ([] : List Int) (by exact of_decide_eq_true (by kernel_rfl)) (fun w => by kernel_rfl) ?_
              intro g21
              exact ls_fineb (sput (sput s0 0 (some (Ck.ro (Ec.int 5 .u8) x3.1 x3.2 t1))) 1 (some (Ck.sl (Ec.int 5 .u8) (some ⟨g21, 0, none⟩) (([] : List Int).length) ([] : List Int)))) (.slice (some ⟨g21, 0, none⟩) ([] : List Int).length ([] : List Int).length) (Bs.le.refl _) (congrArg (fun z => upd z 62 _) hF.symm) (show (fun (B : Bs) (es : Nat → Value) (S' : Sto) => ∃ (x9 : (Option Addr × Nat)) (x19 : Unit) (g21 : Nat), es 4 = .slice x9.1 t7.length x9.2 ∧ es 5 = .string (strOfNums t7) ∧ es 10 = .bool t17 ∧ es 20 = .slice (some ⟨g21, 0, none⟩) ([] : List Int).length ([] : List Int).length ∧ Ro B x9.1 (em (Ec.int 5 .u8) t7) ∧ t7.length ≤ x9.2 ∧ S' = sput (sput s0 0 (some (Ck.ro (Ec.int 5 .u8) x3.1 x3.2 t1))) 1 (some (Ck.sl (Ec.int 5 .u8) (some ⟨g21, 0, none⟩) (([] : List Int).length) ([] : List Int)))) Bq4 (upv es 20 (.slice (some ⟨g21, 0, none⟩) ([] : List Int).length ([] : List Int).length)) (sput (sput s0 0 (some (Ck.ro (Ec.int 5 .u8) x3.1 x3.2 t1))) 1 (some (Ck.sl (Ec.int 5 .u8) (some ⟨g21, 0, none⟩) (([] : List Int).length) ([] : List Int)))) from ⟨x9, x19, g21, hv4, hv5, hv10, rfl, fR10, fC11, rfl⟩) rfl (keep_cons (by exact rfl) (keep_nil)) (sub_put (by exact rfl) (sub_put (by exact rfl) (sub_nil _)))
            · refine ⟨fun o ho Bq4 es vs f' S' hlq5 hve hvp hf hx hK hE => ?_⟩
              obtain rfl := Option.some.inj ho
              refine ⟨want_is (j := 18) (t := 60) rfl rfl (by kernel_rfl) ((hf 18 60 (by kernel_rfl) rfl).trans (show vs 18 = .bool true from hvp 18 (by kernel_rfl))) rfl, fun _ _ => ?_, (fun _ h => by cases h), (fun h _ => by cases h), (fun h _ => by cases h)⟩
              have hF := fr_next (fr_next (rfl) ((hx 8 (by kernel_rfl)).trans (by kernel_rfl : (_ : Value) = .slice x3.1 t1.length x3.2))) ((hf 18 60 (by kernel_rfl) rfl).trans (show vs 18 = .bool true from hvp 18 (by kernel_rfl)))
              refine ls_fr hF ?_
              refine ls_val (v := .slice x3.1 t1.length x3.2) rfl rfl (by kernel_rfl) (fun w => by kernel_rfl) ?_
              exact ls_finp (.slice x3.1 t1.length x3.2) (congrArg (fun z => upd z 63 _) hF.symm) rfl
            · refine ⟨fun o ho Bq4 es vs f' S' hlq5 hve hvp hf hx hK hE => ?_⟩
              obtain rfl := Option.some.inj ho
              obtain ⟨x9, x19, g21, hv4, hv5, hv10, hv20, fR10, fC11, rfl⟩ := hE rfl
              refine ⟨want_is (j := 18) (t := 60) rfl rfl (by kernel_rfl) ((hf 18 60 (by kernel_rfl) rfl).trans (show vs 18 = .bool true from hvp 18 (by kernel_rfl))) rfl, (fun h _ => by cases h), (fun h _ => by cases h), fun _ _ => ?_, (fun _ h => by cases h)⟩
              have hF := fr_next (fr_next (fr_next (rfl) ((hf 18 60 (by kernel_rfl) rfl).trans (show vs 18 = .bool true from hvp 18 (by kernel_rfl)))) (((hf 20 62 (by kernel_rfl) rfl).trans (show vs 20 = es 20 from hvp 20 (by kernel_rfl))).trans hv20)) ((hf 21 63 (by kernel_rfl) rfl).trans (show vs 21 = .slice x3.1 t1.length x3.2 from hvp 21 (by kernel_rfl)))
              refine ls_fr hF ?_
              refine ls_app (Ec.int 5 .u8) (A := (some ⟨g21, 0, none⟩)) (c := ([] : List Int).length) (B := x3.1) (cb := x3.2) (z := (Value.int .u8 0)) (l := ([] : List Int)) (m := t1) (bytes := 1) 1 rfl rfl (by kernel_rfl) rfl (by kernel_rfl) (by exact rfl) (by kernel_rfl) (fun w hs => (hs.rod (k := 0) (by exact rfl))) (by kernel_rfl) (by kernel_rfl) rfl (by decide) q22 ?_
              intro xA23 xc24
              exact ls_fineb (sput (sput s0 0 (some (Ck.ro (Ec.int 5 .u8) x3.1 x3.2 t1))) 1 (some (Ck.sl (Ec.int 5 .u8) xA23 xc24 (([] : List Int) ++ t1)))) (.slice xA23 (([] : List Int) ++ t1).length xc24) (Bs.le.refl _) (congrArg (fun z => upd z 64 _) hF.symm) (show (fun (B : Bs) (es : Nat → Value) (S' : Sto) => ∃ (x9 : (Option Addr × Nat)) (x19 : Unit) (g21 : Nat) (xA23 : Option Addr) (xc24 : Nat), es 4 = .slice x9.1 t7.length x9.2 ∧ es 5 = .string (strOfNums t7) ∧ es 10 = .bool t17 ∧ es 20 = .slice (some ⟨g21, 0, none⟩) ([] : List Int).length ([] : List Int).length ∧ es 22 = .slice xA23 (([] : List Int) ++ t1).length xc24 ∧ Ro B x9.1 (em (Ec.int 5 .u8) t7) ∧ t7.length ≤ x9.2 ∧ S' = sput (sput s0 0 (some (Ck.ro (Ec.int 5 .u8) x3.1 x3.2 t1))) 1 (some (Ck.sl (Ec.int 5 .u8) xA23 xc24 (([] : List Int) ++ t1)))) Bq4 (upv es 22 (.slice xA23 (([] : List Int) ++ t1).length xc24)) (sput (sput s0 0 (some (Ck.ro (Ec.int 5 .u8) x3.1 x3.2 t1))) 1 (some (Ck.sl (Ec.int 5 .u8) xA23 xc24 (([] : List Int) ++ t1)))) from ⟨x9, x19, g21, xA23, xc24, hv4, hv5, hv10, hv20, rfl, fR10, fC11, rfl⟩) rfl (keep_cons (by exact rfl) (keep_nil)) (sub_put (by exact rfl) (sub_put (by exact rfl) (sub_nil _)))
          · intro Bq4 es vs f' S' hlq5 hve hvp hf hx hK hE
            obtain ⟨x9, x19, g21, xA23, xc24, hv4, hv5, hv10, hv20, hv22, fR10, fC11, rfl⟩ := hE
            refine ls_fr (F := upd (upd (upd f' 60 (.bool true)) 61 (.slice x3.1 t1.length x3.2)) 64 (.slice xA23 (([] : List Int) ++ t1).length xc24)) (fr_next (fr_next (fr_next (rfl) ((hf 18 60 (by kernel_rfl) rfl).trans (show vs 18 = .bool true from hvp 18 (by kernel_rfl)))) ((hf 19 61 (by kernel_rfl) rfl).trans (show vs 19 = .slice x3.1 t1.length x3.2 from hvp 19 (by kernel_rfl)))) (((hf 22 64 (by kernel_rfl) rfl).trans (show vs 22 = es 22 from hvp 22 (by kernel_rfl))).trans hv22)) ?_
            refine ls_sub (sput (sput s0 0 (some (Ck.ro (Ec.int 5 .u8) x3.1 x3.2 t1))) 1 (some (Ck.sl (Ec.int 5 .u8) xA23 xc24 (([] : List Int) ++ t1)))) (sub_put (by exact rfl) (sub_put (by exact rfl) (sub_nil _))) ?_
            refine ls_on (j := 18) (t := 60) (b := true) rfl rfl (by kernel_rfl) (by kernel_rfl) ?_
            obtain ⟨t25, hc26, H⟩ := bind_some H
            refine ls_callb (fid := 15) (vals := #[.slice x3.1 t1.length x3.2, .slice xA23 (([] : List Int) ++ t1).length xc24]) (X := Unit) (fun x => .bool t25) (fun x => stl []) [] [0, 1] [] [Ck.ro (Ec.int 5 .u8) x3.1 x3.2 t1, Ck.sl (Ec.int 5 .u8) xA23 xc24 (([] : List Int) ++ t1)] 2 rfl rfl (by kernel_rfl) (fun w => by kernel_rfl) trivial ⟨by exact rfl, by exact rfl, trivial⟩ (by decide) (fun w hs hb => hmac_Same.calls k x3.1 x3.2 t1 xA23 xc24 (([] : List Int) ++ t1) t25 (lent Bq4 w [] [Ck.ro (Ec.int 5 .u8) x3.1 x3.2 t1, Ck.sl (Ec.int 5 .u8) xA23 xc24 (([] : List Int) ++ t1)]) hb (hs.roror (k := 0) (by exact rfl) (.head _)) (hs.rocap (k := 0) (by exact rfl)) (hs.ror (k := 1) (by exact rfl) (.tail _ (.head _))) (hs.cap (k := 1) (by exact rfl)) hc26) ?_
            intro x27
            refine ls_val (v := .bool t25) rfl rfl (by kernel_rfl) (fun w => by kernel_rfl) ?_
            refine ls_val (v := .bool t25) rfl rfl (by kernel_rfl) (fun w => by kernel_rfl) ?_
            by_cases q28 : t25 = true
            · replace H := ite_t q28 H
              refine ls_know (c := true) (q28) 67 (by kernel_rfl) ?_
              refine ls_on (j := 25) (t := 67) (b := true) rfl rfl (by kernel_rfl) (by kernel_rfl) ?_
              refine ls_lit (Ec.int 5 .u8) 2 rfl rfl (by kernel_rfl) ([(107 : Int)]) (by exact of_decide_eq_true (by kernel_rfl)) (fun w => by kernel_rfl) ?_
              intro g29
              refine ls_on (j := 25) (t := 67) (b := true) rfl rfl (by kernel_rfl) (by kernel_rfl) ?_
              refine ls_conv (g := g29) (l := ([(107 : Int)])) (e := 5) 2 rfl rfl (by kernel_rfl) rfl (by kernel_rfl) (by kernel_rfl) (by kernel_rfl) (by exact rfl) ?_
              refine ls_on (j := 25) (t := 67) (b := true) rfl rfl (by kernel_rfl) (by kernel_rfl) ?_
              obtain ⟨t30, hc31, H⟩ := bind_some H
              refine ls_callb (fid := 13) (vals := #[.slice (some ⟨g29, 0, none⟩) ([(107 : Int)]).length [(107 : Int)].length, .slice none ([] : List ByteArray).length 0]) (X := (Option Addr × Nat)) (fun x => .slice x.1 t30.length x.2) (fun x => stl [Ck.ro (Ec.int 5 .u8) x.1 x.2 t30]) [] [2] [] [Ck.rs g29 (em (Ec.int 5 .u8) ([(107 : Int)]))] 3 rfl rfl (by kernel_rfl) (fun w => by kernel_rfl) trivial ⟨by exact rfl, trivial⟩ (by decide) (fun w hs hb => hmac_Chain.calls k (some ⟨g29, 0, none⟩) ([(107 : Int)].length) ([(107 : Int)]) none 0 ([] : List ByteArray) t30 (lent Bq4 w [] [Ck.rs g29 (em (Ec.int 5 .u8) ([(107 : Int)]))]) hb (Rd.ror (hs.rs (k := 2) (by exact rfl)) (.head _) Ck.rs_key) (Nat.le_refl _) (Ro.nil _ _) (Nat.le_refl 0) hc31) ?_
              intro x32
              refine ls_on (j := 25) (t := 67) (b := true) rfl rfl (by kernel_rfl) (by kernel_rfl) ?_
              refine ls_val (v := .int .i64 (t30.length : Int)) rfl rfl (by kernel_rfl) (fun w => by kernel_rfl) ?_
              refine ls_on (j := 25) (t := 67) (b := true) rfl rfl (by kernel_rfl) (by kernel_rfl) ?_
              refine ls_val (v := .bool (decide ((t30.length : Int) = (1 : Int)))) rfl rfl (by kernel_rfl) (fun w => by kernel_rfl) ?_
              refine ls_val (v := .bool (decide ((t30.length : Int) = (1 : Int)))) rfl rfl (by kernel_rfl) (fun w => by kernel_rfl) ?_
              refine ls_val (v := .bool (decide ((t30.length : Int) = (1 : Int)))) rfl rfl (by kernel_rfl) (fun w => by kernel_rfl) ?_
              refine ls_end ?_
              refine qn_then ?_
              refine cs_ret' ?_
              obtain rfl := Option.some.inj H
              refine qr_res (rs := [_]) rfl (fun w' hs => ⟨[.bool (decide ((t30.length : Int) = (1 : Int)))], (res_tmp (by kernel_rfl) (.nil)), (), rfl, St.later hs0.ok hlq5 (hs.pick (ts := []) (cs := []) trivial (by decide))⟩)
            · replace H := ite_f q28 H
              refine ls_know (c := false) (Bool.eq_false_iff.mpr q28) 67 (by kernel_rfl) ?_
              refine ls_off (j := 25) (t := 67) (b := true) (c := false) rfl rfl (by kernel_rfl) (by kernel_rfl) rfl rfl (by kernel_rfl) ?_
              refine ls_off (j := 25) (t := 67) (b := true) (c := false) rfl rfl (by kernel_rfl) (by kernel_rfl) rfl rfl (by kernel_rfl) ?_
              refine ls_off (j := 25) (t := 67) (b := true) (c := false) rfl rfl (by kernel_rfl) (by kernel_rfl) rfl rfl (by kernel_rfl) ?_
              refine ls_off (j := 25) (t := 67) (b := true) (c := false) rfl rfl (by kernel_rfl) (by kernel_rfl) rfl rfl (by kernel_rfl) ?_
              refine ls_off (j := 25) (t := 67) (b := true) (c := false) rfl rfl (by kernel_rfl) (by kernel_rfl) rfl rfl (by kernel_rfl) ?_
              refine ls_val (v := .bool false) rfl rfl (by kernel_rfl) (fun w => by kernel_rfl) ?_
              refine ls_val (v := .bool false) rfl rfl (by kernel_rfl) (fun w => by kernel_rfl) ?_
              refine ls_end ?_
              refine qn_then ?_
              refine cs_ret' ?_
              obtain rfl := Option.some.inj H
              refine qr_res (rs := [_]) rfl (fun w' hs => ⟨[.bool false], (res_tmp (by kernel_rfl) (.nil)), (), rfl, St.later hs0.ok hlq5 (hs.pick (ts := []) (cs := []) trivial (by decide))⟩)
        · replace H := ite_f q20 H
          refine cs_sub (sput s0 0 (some (Ck.ro (Ec.int 5 .u8) x3.1 x3.2 t1))) (sub_put (by exact rfl) (sub_nil _)) ?_
          refine cs_okk ?_
          intro hkq6
          refine cs_chainb (l := [_, _, _, _, _, _, _, _, _, _, _, _, _, _, _, _, _, _, _, _, _, _, _, _, _, _, _, _, _, _, _, _, _]) [[], [0], [], [], [2, 3], [2, 3, 4], [0, 1, 2, 3, 4, 5], [0, 1, 2, 3, 4, 5, 6], [0, 1, 2, 3, 4, 5, 6, 7], [0, 1, 2, 3, 4, 5, 6, 7], [0, 1, 2, 3, 4, 5, 6, 7, 8, 9], [0, 1, 2, 3, 4, 5, 6, 7], [0, 1, 2, 3, 4, 5, 6, 7, 11], [0, 1, 2, 3, 4, 5, 6, 7], [0, 1, 2, 3, 4, 5, 6, 7, 13], [0, 1, 2, 3, 4, 5, 6, 7, 11, 12, 13, 14], [0, 1, 2, 3, 4, 5, 6, 7, 8, 9, 10, 11, 12, 13, 14, 15], [0, 1, 2, 3, 4, 5, 6, 7, 8, 9, 10, 11, 12, 13, 14, 15, 16], [0, 1, 2, 3, 4, 5, 6, 7, 8, 9, 10, 11, 12, 13, 14, 15, 16, 17], [0, 1, 2, 3, 4, 5, 6, 7, 8, 9, 10, 11, 12, 13, 14, 15, 16, 17, 18], [0, 1, 2, 3, 4, 5, 6, 7, 8, 9, 10, 11, 12, 13, 14, 15, 16, 17, 18], [0, 1, 2, 3, 4, 5, 6, 7, 8, 9, 10, 11, 12, 13, 14, 15, 16, 17, 18], [0, 1, 2, 3, 4, 5, 6, 7, 8, 9, 10, 11, 12, 13, 14, 15, 16, 17, 18, 20, 21], [0, 1, 2, 3, 4, 5, 6, 7, 8, 9, 10, 11, 12, 13, 14, 15, 16, 17, 18, 19, 20, 21, 22], [0, 1, 2, 3, 4, 5, 6, 7, 8, 9, 10, 11, 12, 13, 14, 15, 16, 17, 18, 19, 20, 21, 22, 23], [0, 1, 2, 3, 4, 5, 6, 7, 8, 9, 10, 11, 12, 13, 14, 15, 16, 17, 18, 19, 20, 21, 22, 23, 24], [0, 1, 2, 3, 4, 5, 6, 7, 8, 9, 10, 11, 12, 13, 14, 15, 16, 17, 18, 19, 20, 21, 22, 23, 24, 25], [0, 1, 2, 3, 4, 5, 6, 7, 8, 9, 10, 11, 12, 13, 14, 15, 16, 17, 18, 19, 20, 21, 22, 23, 24, 25, 26], [0, 1, 2, 3, 4, 5, 6, 7, 8, 9, 10, 11, 12, 13, 14, 15, 16, 17, 18, 19, 20, 21, 22, 23, 24, 25, 26, 27], [0, 1, 2, 3, 4, 5, 6, 7, 8, 9, 10, 11, 12, 13, 14, 15, 16, 17, 18, 19, 20, 21, 22, 23, 24, 25, 26, 27, 28], [0, 1, 2, 3, 4, 5, 6, 7, 8, 9, 10, 11, 12, 13, 14, 15, 16, 17, 18, 19, 20, 21, 22, 23, 24, 25, 26, 27, 28, 29], [0, 1, 2, 3, 4, 5, 6, 7, 8, 9, 10, 11, 12, 13, 14, 15, 16, 17, 18, 19, 20, 21, 22, 23, 24, 25, 26, 27, 28, 29, 30], [0, 1, 2, 3, 4, 5, 6, 7, 8, 9, 10, 11, 12, 13, 14, 15, 16, 17, 18, 19, 20, 21, 22, 23, 24, 25, 26, 27, 28, 29, 30, 31]] 23 (fun u => [0].contains u) (efl [false, false, false, false, true, true, false, false, false, false, true, false, false, false, false, false, false, false, false, false, false, false, false]) (pvl [.val (.slice x3.1 t1.length x3.2), .val (.string (strOfNums t1)), .val (.slice A0 l0.length c0), .val (.slice A1 l1.length c1), .eff 4, .val (.string (strOfNums t7)), .val (.bool true), .val (.bool true), .val (.slice x3.1 t1.length x3.2), .val (.slice A2 l2.length c2), .val (.bool t17), .val (.slice x3.1 t1.length x3.2), .val (.string (strOfNums t1)), .val (.slice A2 l2.length c2), .val (.string (strOfNums l2)), .val (.bool ((strOfNums t1).toList == (strOfNums l2).toList)), .val (.bool false), .val (.bool false), .val (.bool false), .val (undef), .val (undef), .val (undef), .val (undef)]) (Eslb [fun (B : Bs) (es : Nat → Value) (S' : Sto) => S' = sput s0 0 (some (Ck.ro (Ec.int 5 .u8) x3.1 x3.2 t1)), fun (B : Bs) (es : Nat → Value) (S' : Sto) => ∃ (x9 : (Option Addr × Nat)), es 4 = .slice x9.1 t7.length x9.2 ∧ Ro B x9.1 (em (Ec.int 5 .u8) t7) ∧ t7.length ≤ x9.2 ∧ S' = sput s0 0 (some (Ck.ro (Ec.int 5 .u8) x3.1 x3.2 t1)), fun (B : Bs) (es : Nat → Value) (S' : Sto) => ∃ (x9 : (Option Addr × Nat)), es 4 = .slice x9.1 t7.length x9.2 ∧ es 5 = .string (strOfNums t7) ∧ Ro B x9.1 (em (Ec.int 5 .u8) t7) ∧ t7.length ≤ x9.2 ∧ S' = sput s0 0 (some (Ck.ro (Ec.int 5 .u8) x3.1 x3.2 t1)), fun (B : Bs) (es : Nat → Value) (S' : Sto) => ∃ (x9 : (Option Addr × Nat)) (x19 : Unit), es 4 = .slice x9.1 t7.length x9.2 ∧ es 5 = .string (strOfNums t7) ∧ es 10 = .bool t17 ∧ Ro B x9.1 (em (Ec.int 5 .u8) t7) ∧ t7.length ≤ x9.2 ∧ S' = sput s0 0 (some (Ck.ro (Ec.int 5 .u8) x3.1 x3.2 t1))] [0, 0, 0, 0, 0, 1, 0, 0, 0, 0, 2, 0, 0, 0, 0, 0, 0, 0, 0, 0, 0, 0, 0, 3]) (nxl [0, 0, 0, 0, 5, 10, 0, 0, 0, 0, 23, 0, 0, 0, 0, 0, 0, 0, 0, 0, 0, 0, 0]) (onl [true, true, true, true, true, true, true, true, true, true, true, true, true, true, true, true, true, true, true, false, false, false, false]) 4 (by kernel_rfl) (by kernel_rfl) (by kernel_rfl) (by kernel_rfl) (by kernel_rfl) (rs := [_, _, _, _, _, _, _, _, _, _]) rfl (by kernel_rfl) (by kernel_rfl) (fun es => ?_) ?_ ?_
          · exact (rfl : sput s0 0 (some (Ck.ro (Ec.int 5 .u8) x3.1 x3.2 t1)) = sput s0 0 (some (Ck.ro (Ec.int 5 .u8) x3.1 x3.2 t1)))
          · refine all_snoc (all_snoc (all_snoc (all_snoc (all_snoc (all_snoc (all_snoc (all_snoc (all_snoc (all_snoc (all_snoc (all_snoc (all_snoc (all_snoc (all_snoc (all_snoc (all_snoc (all_snoc (all_snoc (all_snoc (all_snoc (all_snoc (all_snoc (all_nil) ?_) ?_) ?_) ?_) ?_) ?_) ?_) ?_) ?_) ?_) ?_) ?_) ?_) ?_) ?_) ?_) ?_) ?_) ?_) ?_) ?_) ?_) ?_
            · refine ⟨fun o ho Bq4 es vs f' S' hlq5 hve hvp hf hx hK hE => ?_⟩
              obtain rfl := Option.some.inj ho
              refine ⟨want_none rfl, fun _ _ => ?_, (fun _ h => by cases h), (fun h _ => by cases h), (fun h _ => by cases h)⟩
              have hF := fr_next (rfl) ((hx 8 (by kernel_rfl)).trans (by kernel_rfl : (_ : Value) = .slice x3.1 t1.length x3.2))
              refine ls_fr hF ?_
              refine ls_val (v := .slice x3.1 t1.length x3.2) rfl rfl (by kernel_rfl) (fun w => by kernel_rfl) ?_
              exact ls_finp (.slice x3.1 t1.length x3.2) (congrArg (fun z => upd z 42 _) hF.symm) rfl
            · refine ⟨fun o ho Bq4 es vs f' S' hlq5 hve hvp hf hx hK hE => ?_⟩
              obtain rfl := Option.some.inj ho
              refine ⟨want_none rfl, fun _ _ => ?_, (fun _ h => by cases h), (fun h _ => by cases h), (fun h _ => by cases h)⟩
              have hF := fr_next (rfl) ((hf 0 42 (by kernel_rfl) rfl).trans (show vs 0 = .slice x3.1 t1.length x3.2 from hvp 0 (by kernel_rfl)))
              refine ls_fr hF ?_
              refine ls_str (A := x3.1) (c := x3.2) (e := 5) (l := t1) rfl rfl (by kernel_rfl) rfl (by kernel_rfl) (by kernel_rfl) (by kernel_rfl) (by kernel_rfl) (fun w hs => (hs.rod (k := 0) ((hK 0 (by rfl)).trans (by exact rfl)))) ?_
              exact ls_finp (.string (strOfNums t1)) (congrArg (fun z => upd z 43 _) hF.symm) rfl
            · refine ⟨fun o ho Bq4 es vs f' S' hlq5 hve hvp hf hx hK hE => ?_⟩
              obtain rfl := Option.some.inj ho
              refine ⟨want_none rfl, fun _ _ => ?_, (fun _ h => by cases h), (fun h _ => by cases h), (fun h _ => by cases h)⟩
              have hF := fr_next (rfl) ((hx 0 (by kernel_rfl)).trans (by kernel_rfl : (_ : Value) = .slice A0 l0.length c0))
              refine ls_fr hF ?_
              refine ls_val (v := .slice A0 l0.length c0) rfl rfl (by kernel_rfl) (fun w => by kernel_rfl) ?_
              exact ls_finp (.slice A0 l0.length c0) (congrArg (fun z => upd z 44 _) hF.symm) rfl
            · refine ⟨fun o ho Bq4 es vs f' S' hlq5 hve hvp hf hx hK hE => ?_⟩
              obtain rfl := Option.some.inj ho
              refine ⟨want_none rfl, fun _ _ => ?_, (fun _ h => by cases h), (fun h _ => by cases h), (fun h _ => by cases h)⟩
              have hF := fr_next (rfl) ((hx 1 (by kernel_rfl)).trans (by kernel_rfl : (_ : Value) = .slice A1 l1.length c1))
              refine ls_fr hF ?_
              refine ls_val (v := .slice A1 l1.length c1) rfl rfl (by kernel_rfl) (fun w => by kernel_rfl) ?_
              exact ls_finp (.slice A1 l1.length c1) (congrArg (fun z => upd z 45 _) hF.symm) rfl
            · refine ⟨fun o ho Bq4 es vs f' S' hlq5 hve hvp hf hx hK hE => ?_⟩
              obtain rfl := Option.some.inj ho
              obtain rfl := hE rfl
              refine ⟨want_none rfl, (fun h _ => by cases h), (fun h _ => by cases h), fun _ _ => ?_, (fun _ h => by cases h)⟩
              have hF := fr_next (fr_next (rfl) ((hf 2 44 (by kernel_rfl) rfl).trans (show vs 2 = .slice A0 l0.length c0 from hvp 2 (by kernel_rfl)))) ((hf 3 45 (by kernel_rfl) rfl).trans (show vs 3 = .slice A1 l1.length c1 from hvp 3 (by kernel_rfl)))
              refine ls_fr hF ?_
              refine ls_callf (fid := 14) (vals := #[.slice A0 l0.length c0, .slice A1 l1.length c1]) (X := (Option Addr × Nat)) (fun x => .slice x.1 t7.length x.2) (fun x => stl []) (fun x B => (Ro B x.1 (em (Ec.int 5 .u8) t7) ∧ t7.length ≤ x.2)) [] [] 1 rfl rfl (by kernel_rfl) (fun w => by kernel_rfl) trivial (by decide) (fun x b b' h hf => ⟨h _ _ hf.1, hf.2⟩) (fun w hs hb => shadowboxref12_Chain.calls k A0 c0 l0 A1 c1 l1 t7 (lent Bq4 w [] []) hb (hs.ro (Ro.mono hkq6 hlq5 R0) _ _) C0 (hs.ro (Ro.mono hkq6 hlq5 R1) _ _) C1 hc8) ?_
              intro x9 bs12 hle13 hok14 hf15
              obtain ⟨fR10, fC11⟩ := hf15
              exact ls_fineb (sput s0 0 (some (Ck.ro (Ec.int 5 .u8) x3.1 x3.2 t1))) (.slice x9.1 t7.length x9.2) hle13 (congrArg (fun z => upd z 46 _) hF.symm) (show (fun (B : Bs) (es : Nat → Value) (S' : Sto) => ∃ (x9 : (Option Addr × Nat)), es 4 = .slice x9.1 t7.length x9.2 ∧ Ro B x9.1 (em (Ec.int 5 .u8) t7) ∧ t7.length ≤ x9.2 ∧ S' = sput s0 0 (some (Ck.ro (Ec.int 5 .u8) x3.1 x3.2 t1))) bs12 (upv es 4 (.slice x9.1 t7.length x9.2)) (sput s0 0 (some (Ck.ro (Ec.int 5 .u8) x3.1 x3.2 t1))) from ⟨x9, rfl, fR10, fC11, rfl⟩) rfl (keep_cons (by exact rfl) (keep_nil)) (sub_put (by exact rfl) (sub_nil _))
            · refine ⟨fun o ho Bq4 es vs f' S' hlq5 hve hvp hf hx hK hE => ?_⟩
              obtain rfl := Option.some.inj ho
              obtain ⟨x9, hv4, fR10, fC11, rfl⟩ := hE rfl
              refine ⟨want_none rfl, (fun h _ => by cases h), (fun h _ => by cases h), fun _ _ => ?_, (fun _ h => by cases h)⟩
              have hF := fr_next (rfl) (((hf 4 46 (by kernel_rfl) rfl).trans (show vs 4 = es 4 from hvp 4 (by kernel_rfl))).trans hv4)
              refine ls_fr hF ?_
              refine ls_str (A := x9.1) (c := x9.2) (e := 5) (l := t7) rfl rfl (by kernel_rfl) rfl (by kernel_rfl) (by kernel_rfl) (by kernel_rfl) (by kernel_rfl) (fun w hs => (hs.old fR10)) ?_
              exact ls_fineb (sput s0 0 (some (Ck.ro (Ec.int 5 .u8) x3.1 x3.2 t1))) (.string (strOfNums t7)) (Bs.le.refl _) (congrArg (fun z => upd z 47 _) hF.symm) (show (fun (B : Bs) (es : Nat → Value) (S' : Sto) => ∃ (x9 : (Option Addr × Nat)), es 4 = .slice x9.1 t7.length x9.2 ∧ es 5 = .string (strOfNums t7) ∧ Ro B x9.1 (em (Ec.int 5 .u8) t7) ∧ t7.length ≤ x9.2 ∧ S' = sput s0 0 (some (Ck.ro (Ec.int 5 .u8) x3.1 x3.2 t1))) Bq4 (upv es 5 (.string (strOfNums t7))) (sput s0 0 (some (Ck.ro (Ec.int 5 .u8) x3.1 x3.2 t1))) from ⟨x9, hv4, rfl, fR10, fC11, rfl⟩) rfl (keep_cons (by exact rfl) (keep_nil)) (sub_put (by exact rfl) (sub_nil _))
            · refine ⟨fun o ho Bq4 es vs f' S' hlq5 hve hvp hf hx hK hE => ?_⟩
              obtain rfl := Option.some.inj ho
              refine ⟨want_none rfl, fun _ _ => ?_, (fun _ h => by cases h), (fun h _ => by cases h), (fun h _ => by cases h)⟩
              have hF := fr_next (fr_next (rfl) ((hf 1 43 (by kernel_rfl) rfl).trans (show vs 1 = .string (strOfNums t1) from hvp 1 (by kernel_rfl)))) ((hf 5 47 (by kernel_rfl) rfl).trans (show vs 5 = .string (strOfNums t7) from hvp 5 (by kernel_rfl)))
              refine ls_fr hF ?_
              refine ls_val (v := .bool ((strOfNums t1).toList == (strOfNums t7).toList)) rfl rfl (by kernel_rfl) (fun w => by kernel_rfl) ?_
              refine ls_ren 48 (v := .bool ((strOfNums t1).toList == (strOfNums t7).toList)) (v' := .bool true) (by kernel_rfl) (congrArg Value.bool (show ((strOfNums t1).toList == (strOfNums t7).toList) = true from q16)) ?_
              exact ls_finp (.bool true) ((upd_upd _ _ _ _).trans (congrArg (fun z => upd z 48 _) hF.symm)) rfl
            · refine ⟨fun o ho Bq4 es vs f' S' hlq5 hve hvp hf hx hK hE => ?_⟩
              obtain rfl := Option.some.inj ho
              refine ⟨want_none rfl, fun _ _ => ?_, (fun _ h => by cases h), (fun h _ => by cases h), (fun h _ => by cases h)⟩
              have hF := fr_next (rfl) ((hf 6 48 (by kernel_rfl) rfl).trans (show vs 6 = .bool true from hvp 6 (by kernel_rfl)))
              refine ls_fr hF ?_
              refine ls_val (v := .bool true) rfl rfl (by kernel_rfl) (fun w => by kernel_rfl) ?_
              exact ls_finp (.bool true) (congrArg (fun z => upd z 49 _) hF.symm) rfl
            · refine ⟨fun o ho Bq4 es vs f' S' hlq5 hve hvp hf hx hK hE => ?_⟩
              obtain rfl := Option.some.inj ho
              refine ⟨want_is (j := 7) (t := 49) rfl rfl (by kernel_rfl) ((hf 7 49 (by kernel_rfl) rfl).trans (show vs 7 = .bool true from hvp 7 (by kernel_rfl))) rfl, fun _ _ => ?_, (fun _ h => by cases h), (fun h _ => by cases h), (fun h _ => by cases h)⟩
              have hF := fr_next (fr_next (rfl) ((hx 8 (by kernel_rfl)).trans (by kernel_rfl : (_ : Value) = .slice x3.1 t1.length x3.2))) ((hf 7 49 (by kernel_rfl) rfl).trans (show vs 7 = .bool true from hvp 7 (by kernel_rfl)))
              refine ls_fr hF ?_
              refine ls_val (v := .slice x3.1 t1.length x3.2) rfl rfl (by kernel_rfl) (fun w => by kernel_rfl) ?_
              exact ls_finp (.slice x3.1 t1.length x3.2) (congrArg (fun z => upd z 50 _) hF.symm) rfl
            · refine ⟨fun o ho Bq4 es vs f' S' hlq5 hve hvp hf hx hK hE => ?_⟩
              obtain rfl := Option.some.inj ho
              refine ⟨want_is (j := 7) (t := 49) rfl rfl (by kernel_rfl) ((hf 7 49 (by kernel_rfl) rfl).trans (show vs 7 = .bool true from hvp 7 (by kernel_rfl))) rfl, fun _ _ => ?_, (fun _ h => by cases h), (fun h _ => by cases h), (fun h _ => by cases h)⟩
              have hF := fr_next (fr_next (rfl) ((hx 2 (by kernel_rfl)).trans (by kernel_rfl : (_ : Value) = .slice A2 l2.length c2))) ((hf 7 49 (by kernel_rfl) rfl).trans (show vs 7 = .bool true from hvp 7 (by kernel_rfl)))
              refine ls_fr hF ?_
              refine ls_val (v := .slice A2 l2.length c2) rfl rfl (by kernel_rfl) (fun w => by kernel_rfl) ?_
              exact ls_finp (.slice A2 l2.length c2) (congrArg (fun z => upd z 51 _) hF.symm) rfl
            · refine ⟨fun o ho Bq4 es vs f' S' hlq5 hve hvp hf hx hK hE => ?_⟩
              obtain rfl := Option.some.inj ho
              obtain ⟨x9, hv4, hv5, fR10, fC11, rfl⟩ := hE rfl
              refine ⟨want_is (j := 7) (t := 49) rfl rfl (by kernel_rfl) ((hf 7 49 (by kernel_rfl) rfl).trans (show vs 7 = .bool true from hvp 7 (by kernel_rfl))) rfl, (fun h _ => by cases h), (fun h _ => by cases h), fun _ _ => ?_, (fun _ h => by cases h)⟩
              have hF := fr_next (fr_next (fr_next (rfl) ((hf 7 49 (by kernel_rfl) rfl).trans (show vs 7 = .bool true from hvp 7 (by kernel_rfl)))) ((hf 8 50 (by kernel_rfl) rfl).trans (show vs 8 = .slice x3.1 t1.length x3.2 from hvp 8 (by kernel_rfl)))) ((hf 9 51 (by kernel_rfl) rfl).trans (show vs 9 = .slice A2 l2.length c2 from hvp 9 (by kernel_rfl)))
              refine ls_fr hF ?_
              refine ls_callb (fid := 15) (vals := #[.slice x3.1 t1.length x3.2, .slice A2 l2.length c2]) (X := Unit) (fun x => .bool t17) (fun x => stl []) [] [0] [] [Ck.ro (Ec.int 5 .u8) x3.1 x3.2 t1] 1 rfl rfl (by kernel_rfl) (fun w => by kernel_rfl) trivial ⟨by exact rfl, trivial⟩ (by decide) (fun w hs hb => hmac_Same.calls k x3.1 x3.2 t1 A2 c2 l2 t17 (lent Bq4 w [] [Ck.ro (Ec.int 5 .u8) x3.1 x3.2 t1]) hb (hs.roror (k := 0) (by exact rfl) (.head _)) (hs.rocap (k := 0) (by exact rfl)) (hs.ro (Ro.mono hkq6 hlq5 R2) _ _) C2 hc18) ?_
              intro x19
              exact ls_fineb (sput s0 0 (some (Ck.ro (Ec.int 5 .u8) x3.1 x3.2 t1))) (.bool t17) (Bs.le.refl _) (congrArg (fun z => upd z 52 _) hF.symm) (show (fun (B : Bs) (es : Nat → Value) (S' : Sto) => ∃ (x9 : (Option Addr × Nat)) (x19 : Unit), es 4 = .slice x9.1 t7.length x9.2 ∧ es 5 = .string (strOfNums t7) ∧ es 10 = .bool t17 ∧ Ro B x9.1 (em (Ec.int 5 .u8) t7) ∧ t7.length ≤ x9.2 ∧ S' = sput s0 0 (some (Ck.ro (Ec.int 5 .u8) x3.1 x3.2 t1))) Bq4 (upv es 10 (.bool t17)) (sput s0 0 (some (Ck.ro (Ec.int 5 .u8) x3.1 x3.2 t1))) from ⟨x9, x19, hv4, hv5, rfl, fR10, fC11, rfl⟩) rfl (keep_cons (by exact rfl) (keep_nil)) (sub_put (by exact rfl) (sub_nil _))
            · refine ⟨fun o ho Bq4 es vs f' S' hlq5 hve hvp hf hx hK hE => ?_⟩
              obtain rfl := Option.some.inj ho
              refine ⟨want_is (j := 7) (t := 49) rfl rfl (by kernel_rfl) ((hf 7 49 (by kernel_rfl) rfl).trans (show vs 7 = .bool true from hvp 7 (by kernel_rfl))) rfl, fun _ _ => ?_, (fun _ h => by cases h), (fun h _ => by cases h), (fun h _ => by cases h)⟩
              have hF := fr_next (fr_next (rfl) ((hx 8 (by kernel_rfl)).trans (by kernel_rfl : (_ : Value) = .slice x3.1 t1.length x3.2))) ((hf 7 49 (by kernel_rfl) rfl).trans (show vs 7 = .bool true from hvp 7 (by kernel_rfl)))
              refine ls_fr hF ?_
              refine ls_val (v := .slice x3.1 t1.length x3.2) rfl rfl (by kernel_rfl) (fun w => by kernel_rfl) ?_
              exact ls_finp (.slice x3.1 t1.length x3.2) (congrArg (fun z => upd z 53 _) hF.symm) rfl
            · refine ⟨fun o ho Bq4 es vs f' S' hlq5 hve hvp hf hx hK hE => ?_⟩
              obtain rfl := Option.some.inj ho
              refine ⟨want_is (j := 7) (t := 49) rfl rfl (by kernel_rfl) ((hf 7 49 (by kernel_rfl) rfl).trans (show vs 7 = .bool true from hvp 7 (by kernel_rfl))) rfl, fun _ _ => ?_, (fun _ h => by cases h), (fun h _ => by cases h), (fun h _ => by cases h)⟩
              have hF := fr_next (fr_next (rfl) ((hf 7 49 (by kernel_rfl) rfl).trans (show vs 7 = .bool true from hvp 7 (by kernel_rfl)))) ((hf 11 53 (by kernel_rfl) rfl).trans (show vs 11 = .slice x3.1 t1.length x3.2 from hvp 11 (by kernel_rfl)))
              refine ls_fr hF ?_
              refine ls_str (A := x3.1) (c := x3.2) (e := 5) (l := t1) rfl rfl (by kernel_rfl) rfl (by kernel_rfl) (by kernel_rfl) (by kernel_rfl) (by kernel_rfl) (fun w hs => (hs.rod (k := 0) ((hK 0 (by rfl)).trans (by exact rfl)))) ?_
              exact ls_finp (.string (strOfNums t1)) (congrArg (fun z => upd z 54 _) hF.symm) rfl
            · refine ⟨fun o ho Bq4 es vs f' S' hlq5 hve hvp hf hx hK hE => ?_⟩
              obtain rfl := Option.some.inj ho
              refine ⟨want_is (j := 7) (t := 49) rfl rfl (by kernel_rfl) ((hf 7 49 (by kernel_rfl) rfl).trans (show vs 7 = .bool true from hvp 7 (by kernel_rfl))) rfl, fun _ _ => ?_, (fun _ h => by cases h), (fun h _ => by cases h), (fun h _ => by cases h)⟩
              have hF := fr_next (fr_next (rfl) ((hx 2 (by kernel_rfl)).trans (by kernel_rfl : (_ : Value) = .slice A2 l2.length c2))) ((hf 7 49 (by kernel_rfl) rfl).trans (show vs 7 = .bool true from hvp 7 (by kernel_rfl)))
              refine ls_fr hF ?_
              refine ls_val (v := .slice A2 l2.length c2) rfl rfl (by kernel_rfl) (fun w => by kernel_rfl) ?_
              exact ls_finp (.slice A2 l2.length c2) (congrArg (fun z => upd z 55 _) hF.symm) rfl
            · refine ⟨fun o ho Bq4 es vs f' S' hlq5 hve hvp hf hx hK hE => ?_⟩
              obtain rfl := Option.some.inj ho
              refine ⟨want_is (j := 7) (t := 49) rfl rfl (by kernel_rfl) ((hf 7 49 (by kernel_rfl) rfl).trans (show vs 7 = .bool true from hvp 7 (by kernel_rfl))) rfl, fun _ _ => ?_, (fun _ h => by cases h), (fun h _ => by cases h), (fun h _ => by cases h)⟩
              have hF := fr_next (fr_next (rfl) ((hf 7 49 (by kernel_rfl) rfl).trans (show vs 7 = .bool true from hvp 7 (by kernel_rfl)))) ((hf 13 55 (by kernel_rfl) rfl).trans (show vs 13 = .slice A2 l2.length c2 from hvp 13 (by kernel_rfl)))
              refine ls_fr hF ?_
              refine ls_str (A := A2) (c := c2) (e := 5) (l := l2) rfl rfl (by kernel_rfl) rfl (by kernel_rfl) (by kernel_rfl) (by kernel_rfl) (by kernel_rfl) (fun w hs => (hs.old (Ro.mono hkq6 hlq5 R2))) ?_
              exact ls_finp (.string (strOfNums l2)) (congrArg (fun z => upd z 56 _) hF.symm) rfl
            · refine ⟨fun o ho Bq4 es vs f' S' hlq5 hve hvp hf hx hK hE => ?_⟩
              obtain rfl := Option.some.inj ho
              refine ⟨want_is (j := 7) (t := 49) rfl rfl (by kernel_rfl) ((hf 7 49 (by kernel_rfl) rfl).trans (show vs 7 = .bool true from hvp 7 (by kernel_rfl))) rfl, fun _ _ => ?_, (fun _ h => by cases h), (fun h _ => by cases h), (fun h _ => by cases h)⟩
              have hF := fr_next (fr_next (fr_next (rfl) ((hf 7 49 (by kernel_rfl) rfl).trans (show vs 7 = .bool true from hvp 7 (by kernel_rfl)))) ((hf 12 54 (by kernel_rfl) rfl).trans (show vs 12 = .string (strOfNums t1) from hvp 12 (by kernel_rfl)))) ((hf 14 56 (by kernel_rfl) rfl).trans (show vs 14 = .string (strOfNums l2) from hvp 14 (by kernel_rfl)))
              refine ls_fr hF ?_
              refine ls_val (v := .bool ((strOfNums t1).toList == (strOfNums l2).toList)) rfl rfl (by kernel_rfl) (fun w => by kernel_rfl) ?_
              exact ls_finp (.bool ((strOfNums t1).toList == (strOfNums l2).toList)) (congrArg (fun z => upd z 57 _) hF.symm) rfl
            · refine ⟨fun o ho Bq4 es vs f' S' hlq5 hve hvp hf hx hK hE => ?_⟩
              obtain rfl := Option.some.inj ho
              refine ⟨want_is (j := 7) (t := 49) rfl rfl (by kernel_rfl) ((hf 7 49 (by kernel_rfl) rfl).trans (show vs 7 = .bool true from hvp 7 (by kernel_rfl))) rfl, fun _ _ => ?_, (fun _ h => by cases h), (fun h _ => by cases h), (fun h _ => by cases h)⟩
              have hF := fr_next (fr_next (fr_next (rfl) ((hf 7 49 (by kernel_rfl) rfl).trans (show vs 7 = .bool true from hvp 7 (by kernel_rfl)))) ((hf 10 52 (by kernel_rfl) rfl).trans (show vs 10 = .bool t17 from hvp 10 (by kernel_rfl)))) ((hf 15 57 (by kernel_rfl) rfl).trans (show vs 15 = .bool ((strOfNums t1).toList == (strOfNums l2).toList) from hvp 15 (by kernel_rfl)))
              refine ls_fr hF ?_
              refine ls_val (v := .bool (t17 == ((strOfNums t1).toList == (strOfNums l2).toList))) rfl rfl (by kernel_rfl) (fun w => by kernel_rfl) ?_
              refine ls_ren 58 (v := .bool (t17 == ((strOfNums t1).toList == (strOfNums l2).toList))) (v' := .bool false) (by kernel_rfl) (congrArg Value.bool (show (t17 == ((strOfNums t1).toList == (strOfNums l2).toList)) = false from Bool.eq_false_iff.mpr q20)) ?_
              exact ls_finp (.bool false) ((upd_upd _ _ _ _).trans (congrArg (fun z => upd z 58 _) hF.symm)) rfl
            · refine ⟨fun o ho Bq4 es vs f' S' hlq5 hve hvp hf hx hK hE => ?_⟩
              obtain rfl := Option.some.inj ho
              refine ⟨want_none rfl, fun _ _ => ?_, (fun _ h => by cases h), (fun h _ => by cases h), (fun h _ => by cases h)⟩
              have hF := fr_next (fr_next (rfl) ((hf 7 49 (by kernel_rfl) rfl).trans (show vs 7 = .bool true from hvp 7 (by kernel_rfl)))) ((hf 16 58 (by kernel_rfl) rfl).trans (show vs 16 = .bool false from hvp 16 (by kernel_rfl)))
              refine ls_fr hF ?_
              refine ls_val (v := .bool false) rfl rfl (by kernel_rfl) (fun w => by kernel_rfl) ?_
              exact ls_finp (.bool false) (congrArg (fun z => upd z 59 _) hF.symm) rfl
            · refine ⟨fun o ho Bq4 es vs f' S' hlq5 hve hvp hf hx hK hE => ?_⟩
              obtain rfl := Option.some.inj ho
              refine ⟨want_none rfl, fun _ _ => ?_, (fun _ h => by cases h), (fun h _ => by cases h), (fun h _ => by cases h)⟩
              have hF := fr_next (rfl) ((hf 17 59 (by kernel_rfl) rfl).trans (show vs 17 = .bool false from hvp 17 (by kernel_rfl)))
              refine ls_fr hF ?_
              refine ls_val (v := .bool false) rfl rfl (by kernel_rfl) (fun w => by kernel_rfl) ?_
              exact ls_finp (.bool false) (congrArg (fun z => upd z 60 _) hF.symm) rfl
            · refine ⟨fun o ho Bq4 es vs f' S' hlq5 hve hvp hf hx hK hE => ?_⟩
              obtain rfl := Option.some.inj ho
              exact ⟨want_is (j := 18) (t := 60) rfl rfl (by kernel_rfl) ((hf 18 60 (by kernel_rfl) rfl).trans (show vs 18 = .bool false from hvp 18 (by kernel_rfl))) rfl, (fun _ h => by cases h), fun _ _ => rfl, (fun h _ => by cases h), (fun h _ => by cases h)⟩
            · refine ⟨fun o ho Bq4 es vs f' S' hlq5 hve hvp hf hx hK hE => ?_⟩
              obtain rfl := Option.some.inj ho
              exact ⟨want_is (j := 18) (t := 60) rfl rfl (by kernel_rfl) ((hf 18 60 (by kernel_rfl) rfl).trans (show vs 18 = .bool false from hvp 18 (by kernel_rfl))) rfl, (fun _ h => by cases h), fun _ _ => rfl, (fun h _ => by cases h), (fun h _ => by cases h)⟩
            · refine ⟨fun o ho Bq4 es vs f' S' hlq5 hve hvp hf hx hK hE => ?_⟩
              obtain rfl := Option.some.inj ho
              exact ⟨want_is (j := 18) (t := 60) rfl rfl (by kernel_rfl) ((hf 18 60 (by kernel_rfl) rfl).trans (show vs 18 = .bool false from hvp 18 (by kernel_rfl))) rfl, (fun _ h => by cases h), fun _ _ => rfl, (fun h _ => by cases h), (fun h _ => by cases h)⟩
            · refine ⟨fun o ho Bq4 es vs f' S' hlq5 hve hvp hf hx hK hE => ?_⟩
              obtain rfl := Option.some.inj ho
              exact ⟨want_is (j := 18) (t := 60) rfl rfl (by kernel_rfl) ((hf 18 60 (by kernel_rfl) rfl).trans (show vs 18 = .bool false from hvp 18 (by kernel_rfl))) rfl, (fun _ h => by cases h), fun _ _ => rfl, (fun h _ => by cases h), (fun h _ => by cases h)⟩
          · intro Bq4 es vs f' S' hlq5 hve hvp hf hx hK hE
            obtain ⟨x9, x19, hv4, hv5, hv10, fR10, fC11, rfl⟩ := hE
            refine ls_fr (F := upd f' 60 (.bool false)) (fr_next (rfl) ((hf 18 60 (by kernel_rfl) rfl).trans (show vs 18 = .bool false from hvp 18 (by kernel_rfl)))) ?_
            refine ls_sub (s0) (sub_nil _) ?_
            refine ls_off (j := 18) (t := 60) (b := true) (c := false) rfl rfl (by kernel_rfl) (by kernel_rfl) rfl rfl (by kernel_rfl) ?_
            refine ls_val (v := .bool false) rfl rfl (by kernel_rfl) (fun w => by kernel_rfl) ?_
            refine ls_val (v := .bool false) rfl rfl (by kernel_rfl) (fun w => by kernel_rfl) ?_
            refine ls_off (j := 25) (t := 67) (b := true) (c := false) rfl rfl (by kernel_rfl) (by kernel_rfl) rfl rfl (by kernel_rfl) ?_
            refine ls_off (j := 25) (t := 67) (b := true) (c := false) rfl rfl (by kernel_rfl) (by kernel_rfl) rfl rfl (by kernel_rfl) ?_
            refine ls_off (j := 25) (t := 67) (b := true) (c := false) rfl rfl (by kernel_rfl) (by kernel_rfl) rfl rfl (by kernel_rfl) ?_
            refine ls_off (j := 25) (t := 67) (b := true) (c := false) rfl rfl (by kernel_rfl) (by kernel_rfl) rfl rfl (by kernel_rfl) ?_
            refine ls_off (j := 25) (t := 67) (b := true) (c := false) rfl rfl (by kernel_rfl) (by kernel_rfl) rfl rfl (by kernel_rfl) ?_
            refine ls_val (v := .bool false) rfl rfl (by kernel_rfl) (fun w => by kernel_rfl) ?_
            refine ls_val (v := .bool false) rfl rfl (by kernel_rfl) (fun w => by kernel_rfl) ?_
            refine ls_end ?_
            refine qn_then ?_
            refine cs_ret' ?_
            obtain rfl := Option.some.inj H
            refine qr_res (rs := [_]) rfl (fun w' hs => ⟨[.bool false], (res_tmp (by kernel_rfl) (.nil)), (), rfl, St.later hs0.ok hlq5 (hs.pick (ts := []) (cs := []) trivial (by decide))⟩)
      · replace H := ite_f q16 H
        refine cs_sub (sput s0 0 (some (Ck.ro (Ec.int 5 .u8) x3.1 x3.2 t1))) (sub_put (by exact rfl) (sub_nil _)) ?_
        refine cs_okk ?_
        intro hkq6
        refine cs_chainb (l := [_, _, _, _, _, _, _, _, _, _, _, _, _, _, _, _, _, _, _, _, _, _, _, _, _, _, _, _, _, _, _, _, _]) [[], [0], [], [], [2, 3], [2, 3, 4], [0, 1, 2, 3, 4, 5], [0, 1, 2, 3, 4, 5, 6], [0, 1, 2, 3, 4, 5, 6, 7], [0, 1, 2, 3, 4, 5, 6, 7], [0, 1, 2, 3, 4, 5, 6, 7, 8, 9], [0, 1, 2, 3, 4, 5, 6, 7], [0, 1, 2, 3, 4, 5, 6, 7, 11], [0, 1, 2, 3, 4, 5, 6, 7], [0, 1, 2, 3, 4, 5, 6, 7, 13], [0, 1, 2, 3, 4, 5, 6, 7, 11, 12, 13, 14], [0, 1, 2, 3, 4, 5, 6, 7, 8, 9, 10, 11, 12, 13, 14, 15], [0, 1, 2, 3, 4, 5, 6, 7, 8, 9, 10, 11, 12, 13, 14, 15, 16], [0, 1, 2, 3, 4, 5, 6, 7, 8, 9, 10, 11, 12, 13, 14, 15, 16, 17], [0, 1, 2, 3, 4, 5, 6, 7, 8, 9, 10, 11, 12, 13, 14, 15, 16, 17, 18], [0, 1, 2, 3, 4, 5, 6, 7, 8, 9, 10, 11, 12, 13, 14, 15, 16, 17, 18], [0, 1, 2, 3, 4, 5, 6, 7, 8, 9, 10, 11, 12, 13, 14, 15, 16, 17, 18], [0, 1, 2, 3, 4, 5, 6, 7, 8, 9, 10, 11, 12, 13, 14, 15, 16, 17, 18, 20, 21], [0, 1, 2, 3, 4, 5, 6, 7, 8, 9, 10, 11, 12, 13, 14, 15, 16, 17, 18, 19, 20, 21, 22], [0, 1, 2, 3, 4, 5, 6, 7, 8, 9, 10, 11, 12, 13, 14, 15, 16, 17, 18, 19, 20, 21, 22, 23], [0, 1, 2, 3, 4, 5, 6, 7, 8, 9, 10, 11, 12, 13, 14, 15, 16, 17, 18, 19, 20, 21, 22, 23, 24], [0, 1, 2, 3, 4, 5, 6, 7, 8, 9, 10, 11, 12, 13, 14, 15, 16, 17, 18, 19, 20, 21, 22, 23, 24, 25], [0, 1, 2, 3, 4, 5, 6, 7, 8, 9, 10, 11, 12, 13, 14, 15, 16, 17, 18, 19, 20, 21, 22, 23, 24, 25, 26], [0, 1, 2, 3, 4, 5, 6, 7, 8, 9, 10, 11, 12, 13, 14, 15, 16, 17, 18, 19, 20, 21, 22, 23, 24, 25, 26, 27], [0, 1, 2, 3, 4, 5, 6, 7, 8, 9, 10, 11, 12, 13, 14, 15, 16, 17, 18, 19, 20, 21, 22, 23, 24, 25, 26, 27, 28], [0, 1, 2, 3, 4, 5, 6, 7, 8, 9, 10, 11, 12, 13, 14, 15, 16, 17, 18, 19, 20, 21, 22, 23, 24, 25, 26, 27, 28, 29], [0, 1, 2, 3, 4, 5, 6, 7, 8, 9, 10, 11, 12, 13, 14, 15, 16, 17, 18, 19, 20, 21, 22, 23, 24, 25, 26, 27, 28, 29, 30], [0, 1, 2, 3, 4, 5, 6, 7, 8, 9, 10, 11, 12, 13, 14, 15, 16, 17, 18, 19, 20, 21, 22, 23, 24, 25, 26, 27, 28, 29, 30, 31]] 23 (fun u => [0].contains u) (efl [false, false, false, false, true, true, false, false, false, false, false, false, false, false, false, false, false, false, false, false, false, false, false]) (pvl [.val (.slice x3.1 t1.length x3.2), .val (.string (strOfNums t1)), .val (.slice A0 l0.length c0), .val (.slice A1 l1.length c1), .eff 4, .val (.string (strOfNums t7)), .val (.bool false), .val (.bool false), .val (undef), .val (undef), .val (undef), .val (undef), .val (undef), .val (undef), .val (undef), .val (undef), .val (undef), .val (.bool false), .val (.bool false), .val (undef), .val (undef), .val (undef), .val (undef)]) (Eslb [fun (B : Bs) (es : Nat → Value) (S' : Sto) => S' = sput s0 0 (some (Ck.ro (Ec.int 5 .u8) x3.1 x3.2 t1)), fun (B : Bs) (es : Nat → Value) (S' : Sto) => ∃ (x9 : (Option Addr × Nat)), es 4 = .slice x9.1 t7.length x9.2 ∧ Ro B x9.1 (em (Ec.int 5 .u8) t7) ∧ t7.length ≤ x9.2 ∧ S' = sput s0 0 (some (Ck.ro (Ec.int 5 .u8) x3.1 x3.2 t1)), fun (B : Bs) (es : Nat → Value) (S' : Sto) => ∃ (x9 : (Option Addr × Nat)), es 4 = .slice x9.1 t7.length x9.2 ∧ es 5 = .string (strOfNums t7) ∧ Ro B x9.1 (em (Ec.int 5 .u8) t7) ∧ t7.length ≤ x9.2 ∧ S' = sput s0 0 (some (Ck.ro (Ec.int 5 .u8) x3.1 x3.2 t1))] [0, 0, 0, 0, 0, 1, 0, 0, 0, 0, 0, 0, 0, 0, 0, 0, 0, 0, 0, 0, 0, 0, 0, 2]) (nxl [0, 0, 0, 0, 5, 23, 0, 0, 0, 0, 0, 0, 0, 0, 0, 0, 0, 0, 0, 0, 0, 0, 0]) (onl [true, true, true, true, true, true, true, true, false, false, false, false, false, false, false, false, false, true, true, false, false, false, false]) 4 (by kernel_rfl) (by kernel_rfl) (by kernel_rfl) (by kernel_rfl) (by kernel_rfl) (rs := [_, _, _, _, _, _, _, _, _, _]) rfl (by kernel_rfl) (by kernel_rfl) (fun es => ?_) ?_ ?_
        · exact (rfl : sput s0 0 (some (Ck.ro (Ec.int 5 .u8) x3.1 x3.2 t1)) = sput s0 0 (some (Ck.ro (Ec.int 5 .u8) x3.1 x3.2 t1)))
        · refine all_snoc (all_snoc (all_snoc (all_snoc (all_snoc (all_snoc (all_snoc (all_snoc (all_snoc (all_snoc (all_snoc (all_snoc (all_snoc (all_snoc (all_snoc (all_snoc (all_snoc (all_snoc (all_snoc (all_snoc (all_snoc (all_snoc (all_snoc (all_nil) ?_) ?_) ?_) ?_) ?_) ?_) ?_) ?_) ?_) ?_) ?_) ?_) ?_) ?_) ?_) ?_) ?_) ?_) ?_) ?_) ?_) ?_) ?_
          · refine ⟨fun o ho Bq4 es vs f' S' hlq5 hve hvp hf hx hK hE => ?_⟩
            obtain rfl := Option.some.inj ho
            refine ⟨want_none rfl, fun _ _ => ?_, (fun _ h => by cases h), (fun h _ => by cases h), (fun h _ => by cases h)⟩
            have hF := fr_next (rfl) ((hx 8 (by kernel_rfl)).trans (by kernel_rfl : (_ : Value) = .slice x3.1 t1.length x3.2))
            refine ls_fr hF ?_
            refine ls_val (v := .slice x3.1 t1.length x3.2) rfl rfl (by kernel_rfl) (fun w => by kernel_rfl) ?_
            exact ls_finp (.slice x3.1 t1.length x3.2) (congrArg (fun z => upd z 42 _) hF.symm) rfl
          · refine ⟨fun o ho Bq4 es vs f' S' hlq5 hve hvp hf hx hK hE => ?_⟩
            obtain rfl := Option.some.inj ho
            refine ⟨want_none rfl, fun _ _ => ?_, (fun _ h => by cases h), (fun h _ => by cases h), (fun h _ => by cases h)⟩
            have hF := fr_next (rfl) ((hf 0 42 (by kernel_rfl) rfl).trans (show vs 0 = .slice x3.1 t1.length x3.2 from hvp 0 (by kernel_rfl)))
            refine ls_fr hF ?_
            refine ls_str (A := x3.1) (c := x3.2) (e := 5) (l := t1) rfl rfl (by kernel_rfl) rfl (by kernel_rfl) (by kernel_rfl) (by kernel_rfl) (by kernel_rfl) (fun w hs => (hs.rod (k := 0) ((hK 0 (by rfl)).trans (by exact rfl)))) ?_
            exact ls_finp (.string (strOfNums t1)) (congrArg (fun z => upd z 43 _) hF.symm) rfl
          · refine ⟨fun o ho Bq4 es vs f' S' hlq5 hve hvp hf hx hK hE => ?_⟩
            obtain rfl := Option.some.inj ho
            refine ⟨want_none rfl, fun _ _ => ?_, (fun _ h => by cases h), (fun h _ => by cases h), (fun h _ => by cases h)⟩
            have hF := fr_next (rfl) ((hx 0 (by kernel_rfl)).trans (by kernel_rfl : (_ : Value) = .slice A0 l0.length c0))
            refine ls_fr hF ?_
            refine ls_val (v := .slice A0 l0.length c0) rfl rfl (by kernel_rfl) (fun w => by kernel_rfl) ?_
            exact ls_finp (.slice A0 l0.length c0) (congrArg (fun z => upd z 44 _) hF.symm) rfl
          · refine ⟨fun o ho Bq4 es vs f' S' hlq5 hve hvp hf hx hK hE => ?_⟩
            obtain rfl := Option.some.inj ho
            refine ⟨want_none rfl, fun _ _ => ?_, (fun _ h => by cases h), (fun h _ => by cases h), (fun h _ => by cases h)⟩
            have hF := fr_next (rfl) ((hx 1 (by kernel_rfl)).trans (by kernel_rfl : (_ : Value) = .slice A1 l1.length c1))
            refine ls_fr hF ?_
            refine ls_val (v := .slice A1 l1.length c1) rfl rfl (by kernel_rfl) (fun w => by kernel_rfl) ?_
            exact ls_finp (.slice A1 l1.length c1) (congrArg (fun z => upd z 45 _) hF.symm) rfl
          · refine ⟨fun o ho Bq4 es vs f' S' hlq5 hve hvp hf hx hK hE => ?_⟩
            obtain rfl := Option.some.inj ho
            obtain rfl := hE rfl
            refine ⟨want_none rfl, (fun h _ => by cases h), (fun h _ => by cases h), fun _ _ => ?_, (fun _ h => by cases h)⟩
            have hF := fr_next (fr_next (rfl) ((hf 2 44 (by kernel_rfl) rfl).trans (show vs 2 = .slice A0 l0.length c0 from hvp 2 (by kernel_rfl)))) ((hf 3 45 (by kernel_rfl) rfl).trans (show vs 3 = .slice A1 l1.length c1 from hvp 3 (by kernel_rfl)))
            refine ls_fr hF ?_
            refine ls_callf (fid := 14) (vals := #[.slice A0 l0.length c0, .slice A1 l1.length c1]) (X := (Option Addr × Nat)) (fun x => .slice x.1 t7.length x.2) (fun x => stl []) (fun x B => (Ro B x.1 (em (Ec.int 5 .u8) t7) ∧ t7.length ≤ x.2)) [] [] 1 rfl rfl (by kernel_rfl) (fun w => by kernel_rfl) trivial (by decide) (fun x b b' h hf => ⟨h _ _ hf.1, hf.2⟩) (fun w hs hb => shadowboxref12_Chain.calls k A0 c0 l0 A1 c1 l1 t7 (lent Bq4 w [] []) hb (hs.ro (Ro.mono hkq6 hlq5 R0) _ _) C0 (hs.ro (Ro.mono hkq6 hlq5 R1) _ _) C1 hc8) ?_
            intro x9 bs12 hle13 hok14 hf15
            obtain ⟨fR10, fC11⟩ := hf15
            exact ls_fineb (sput s0 0 (some (Ck.ro (Ec.int 5 .u8) x3.1 x3.2 t1))) (.slice x9.1 t7.length x9.2) hle13 (congrArg (fun z => upd z 46 _) hF.symm) (show (fun (B : Bs) (es : Nat → Value) (S' : Sto) => ∃ (x9 : (Option Addr × Nat)), es 4 = .slice x9.1 t7.length x9.2 ∧ Ro B x9.1 (em (Ec.int 5 .u8) t7) ∧ t7.length ≤ x9.2 ∧ S' = sput s0 0 (some (Ck.ro (Ec.int 5 .u8) x3.1 x3.2 t1))) bs12 (upv es 4 (.slice x9.1 t7.length x9.2)) (sput s0 0 (some (Ck.ro (Ec.int 5 .u8) x3.1 x3.2 t1))) from ⟨x9, rfl, fR10, fC11, rfl⟩) rfl (keep_cons (by exact rfl) (keep_nil)) (sub_put (by exact rfl) (sub_nil _))
          · refine ⟨fun o ho Bq4 es vs f' S' hlq5 hve hvp hf hx hK hE => ?_⟩
            obtain rfl := Option.some.inj ho
            obtain ⟨x9, hv4, fR10, fC11, rfl⟩ := hE rfl
            refine ⟨want_none rfl, (fun h _ => by cases h), (fun h _ => by cases h), fun _ _ => ?_, (fun _ h => by cases h)⟩
            have hF := fr_next (rfl) (((hf 4 46 (by kernel_rfl) rfl).trans (show vs 4 = es 4 from hvp 4 (by kernel_rfl))).trans hv4)
            refine ls_fr hF ?_
            refine ls_str (A := x9.1) (c := x9.2) (e := 5) (l := t7) rfl rfl (by kernel_rfl) rfl (by kernel_rfl) (by kernel_rfl) (by kernel_rfl) (by kernel_rfl) (fun w hs => (hs.old fR10)) ?_
            exact ls_fineb (sput s0 0 (some (Ck.ro (Ec.int 5 .u8) x3.1 x3.2 t1))) (.string (strOfNums t7)) (Bs.le.refl _) (congrArg (fun z => upd z 47 _) hF.symm) (show (fun (B : Bs) (es : Nat → Value) (S' : Sto) => ∃ (x9 : (Option Addr × Nat)), es 4 = .slice x9.1 t7.length x9.2 ∧ es 5 = .string (strOfNums t7) ∧ Ro B x9.1 (em (Ec.int 5 .u8) t7) ∧ t7.length ≤ x9.2 ∧ S' = sput s0 0 (some (Ck.ro (Ec.int 5 .u8) x3.1 x3.2 t1))) Bq4 (upv es 5 (.string (strOfNums t7))) (sput s0 0 (some (Ck.ro (Ec.int 5 .u8) x3.1 x3.2 t1))) from ⟨x9, hv4, rfl, fR10, fC11, rfl⟩) rfl (keep_cons (by exact rfl) (keep_nil)) (sub_put (by exact rfl) (sub_nil _))
          · refine ⟨fun o ho Bq4 es vs f' S' hlq5 hve hvp hf hx hK hE => ?_⟩
            obtain rfl := Option.some.inj ho
            refine ⟨want_none rfl, fun _ _ => ?_, (fun _ h => by cases h), (fun h _ => by cases h), (fun h _ => by cases h)⟩
            have hF := fr_next (fr_next (rfl) ((hf 1 43 (by kernel_rfl) rfl).trans (show vs 1 = .string (strOfNums t1) from hvp 1 (by kernel_rfl)))) ((hf 5 47 (by kernel_rfl) rfl).trans (show vs 5 = .string (strOfNums t7) from hvp 5 (by kernel_rfl)))
            refine ls_fr hF ?_
            refine ls_val (v := .bool ((strOfNums t1).toList == (strOfNums t7).toList)) rfl rfl (by kernel_rfl) (fun w => by kernel_rfl) ?_
            refine ls_ren 48 (v := .bool ((strOfNums t1).toList == (strOfNums t7).toList)) (v' := .bool false) (by kernel_rfl) (congrArg Value.bool (show ((strOfNums t1).toList == (strOfNums t7).toList) = false from Bool.eq_false_iff.mpr q16)) ?_
            exact ls_finp (.bool false) ((upd_upd _ _ _ _).trans (congrArg (fun z => upd z 48 _) hF.symm)) rfl
          · refine ⟨fun o ho Bq4 es vs f' S' hlq5 hve hvp hf hx hK hE => ?_⟩
            obtain rfl := Option.some.inj ho
            refine ⟨want_none rfl, fun _ _ => ?_, (fun _ h => by cases h), (fun h _ => by cases h), (fun h _ => by cases h)⟩
            have hF := fr_next (rfl) ((hf 6 48 (by kernel_rfl) rfl).trans (show vs 6 = .bool false from hvp 6 (by kernel_rfl)))
            refine ls_fr hF ?_
            refine ls_val (v := .bool false) rfl rfl (by kernel_rfl) (fun w => by kernel_rfl) ?_
            exact ls_finp (.bool false) (congrArg (fun z => upd z 49 _) hF.symm) rfl
          · refine ⟨fun o ho Bq4 es vs f' S' hlq5 hve hvp hf hx hK hE => ?_⟩
            obtain rfl := Option.some.inj ho
            exact ⟨want_is (j := 7) (t := 49) rfl rfl (by kernel_rfl) ((hf 7 49 (by kernel_rfl) rfl).trans (show vs 7 = .bool false from hvp 7 (by kernel_rfl))) rfl, (fun _ h => by cases h), fun _ _ => rfl, (fun h _ => by cases h), (fun h _ => by cases h)⟩
          · refine ⟨fun o ho Bq4 es vs f' S' hlq5 hve hvp hf hx hK hE => ?_⟩
            obtain rfl := Option.some.inj ho
            exact ⟨want_is (j := 7) (t := 49) rfl rfl (by kernel_rfl) ((hf 7 49 (by kernel_rfl) rfl).trans (show vs 7 = .bool false from hvp 7 (by kernel_rfl))) rfl, (fun _ h => by cases h), fun _ _ => rfl, (fun h _ => by cases h), (fun h _ => by cases h)⟩
          · refine ⟨fun o ho Bq4 es vs f' S' hlq5 hve hvp hf hx hK hE => ?_⟩
            obtain rfl := Option.some.inj ho
            exact ⟨want_is (j := 7) (t := 49) rfl rfl (by kernel_rfl) ((hf 7 49 (by kernel_rfl) rfl).trans (show vs 7 = .bool false from hvp 7 (by kernel_rfl))) rfl, (fun _ h => by cases h), fun _ _ => rfl, (fun h _ => by cases h), (fun h _ => by cases h)⟩
          · refine ⟨fun o ho Bq4 es vs f' S' hlq5 hve hvp hf hx hK hE => ?_⟩
            obtain rfl := Option.some.inj ho
            exact ⟨want_is (j := 7) (t := 49) rfl rfl (by kernel_rfl) ((hf 7 49 (by kernel_rfl) rfl).trans (show vs 7 = .bool false from hvp 7 (by kernel_rfl))) rfl, (fun _ h => by cases h), fun _ _ => rfl, (fun h _ => by cases h), (fun h _ => by cases h)⟩
          · refine ⟨fun o ho Bq4 es vs f' S' hlq5 hve hvp hf hx hK hE => ?_⟩
            obtain rfl := Option.some.inj ho
            exact ⟨want_is (j := 7) (t := 49) rfl rfl (by kernel_rfl) ((hf 7 49 (by kernel_rfl) rfl).trans (show vs 7 = .bool false from hvp 7 (by kernel_rfl))) rfl, (fun _ h => by cases h), fun _ _ => rfl, (fun h _ => by cases h), (fun h _ => by cases h)⟩
          · refine ⟨fun o ho Bq4 es vs f' S' hlq5 hve hvp hf hx hK hE => ?_⟩
            obtain rfl := Option.some.inj ho
            exact ⟨want_is (j := 7) (t := 49) rfl rfl (by kernel_rfl) ((hf 7 49 (by kernel_rfl) rfl).trans (show vs 7 = .bool false from hvp 7 (by kernel_rfl))) rfl, (fun _ h => by cases h), fun _ _ => rfl, (fun h _ => by cases h), (fun h _ => by cases h)⟩
          · refine ⟨fun o ho Bq4 es vs f' S' hlq5 hve hvp hf hx hK hE => ?_⟩
            obtain rfl := Option.some.inj ho
            exact ⟨want_is (j := 7) (t := 49) rfl rfl (by kernel_rfl) ((hf 7 49 (by kernel_rfl) rfl).trans (show vs 7 = .bool false from hvp 7 (by kernel_rfl))) rfl, (fun _ h => by cases h), fun _ _ => rfl, (fun h _ => by cases h), (fun h _ => by cases h)⟩
          · refine ⟨fun o ho Bq4 es vs f' S' hlq5 hve hvp hf hx hK hE => ?_⟩
            obtain rfl := Option.some.inj ho
            exact ⟨want_is (j := 7) (t := 49) rfl rfl (by kernel_rfl) ((hf 7 49 (by kernel_rfl) rfl).trans (show vs 7 = .bool false from hvp 7 (by kernel_rfl))) rfl, (fun _ h => by cases h), fun _ _ => rfl, (fun h _ => by cases h), (fun h _ => by cases h)⟩
          · refine ⟨fun o ho Bq4 es vs f' S' hlq5 hve hvp hf hx hK hE => ?_⟩
            obtain rfl := Option.some.inj ho
            exact ⟨want_is (j := 7) (t := 49) rfl rfl (by kernel_rfl) ((hf 7 49 (by kernel_rfl) rfl).trans (show vs 7 = .bool false from hvp 7 (by kernel_rfl))) rfl, (fun _ h => by cases h), fun _ _ => rfl, (fun h _ => by cases h), (fun h _ => by cases h)⟩
          · refine ⟨fun o ho Bq4 es vs f' S' hlq5 hve hvp hf hx hK hE => ?_⟩
            obtain rfl := Option.some.inj ho
            refine ⟨want_none rfl, fun _ _ => ?_, (fun _ h => by cases h), (fun h _ => by cases h), (fun h _ => by cases h)⟩
            have hF := fr_next (fr_next (rfl) ((hf 7 49 (by kernel_rfl) rfl).trans (show vs 7 = .bool false from hvp 7 (by kernel_rfl)))) ((hf 16 58 (by kernel_rfl) rfl).trans (show vs 16 = undef from hvp 16 (by kernel_rfl)))
            refine ls_fr hF ?_
            refine ls_val (v := .bool false) rfl rfl (by kernel_rfl) (fun w => by kernel_rfl) ?_
            exact ls_finp (.bool false) (congrArg (fun z => upd z 59 _) hF.symm) rfl
          · refine ⟨fun o ho Bq4 es vs f' S' hlq5 hve hvp hf hx hK hE => ?_⟩
            obtain rfl := Option.some.inj ho
            refine ⟨want_none rfl, fun _ _ => ?_, (fun _ h => by cases h), (fun h _ => by cases h), (fun h _ => by cases h)⟩
            have hF := fr_next (rfl) ((hf 17 59 (by kernel_rfl) rfl).trans (show vs 17 = .bool false from hvp 17 (by kernel_rfl)))
            refine ls_fr hF ?_
            refine ls_val (v := .bool false) rfl rfl (by kernel_rfl) (fun w => by kernel_rfl) ?_
            exact ls_finp (.bool false) (congrArg (fun z => upd z 60 _) hF.symm) rfl
          · refine ⟨fun o ho Bq4 es vs f' S' hlq5 hve hvp hf hx hK hE => ?_⟩
            obtain rfl := Option.some.inj ho
            exact ⟨want_is (j := 18) (t := 60) rfl rfl (by kernel_rfl) ((hf 18 60 (by kernel_rfl) rfl).trans (show vs 18 = .bool false from hvp 18 (by kernel_rfl))) rfl, (fun _ h => by cases h), fun _ _ => rfl, (fun h _ => by cases h), (fun h _ => by cases h)⟩
          · refine ⟨fun o ho Bq4 es vs f' S' hlq5 hve hvp hf hx hK hE => ?_⟩
            obtain rfl := Option.some.inj ho
            exact ⟨want_is (j := 18) (t := 60) rfl rfl (by kernel_rfl) ((hf 18 60 (by kernel_rfl) rfl).trans (show vs 18 = .bool false from hvp 18 (by kernel_rfl))) rfl, (fun _ h => by cases h), fun _ _ => rfl, (fun h _ => by cases h), (fun h _ => by cases h)⟩
          · refine ⟨fun o ho Bq4 es vs f' S' hlq5 hve hvp hf hx hK hE => ?_⟩
            obtain rfl := Option.some.inj ho
            exact ⟨want_is (j := 18) (t := 60) rfl rfl (by kernel_rfl) ((hf 18 60 (by kernel_rfl) rfl).trans (show vs 18 = .bool false from hvp 18 (by kernel_rfl))) rfl, (fun _ h => by cases h), fun _ _ => rfl, (fun h _ => by cases h), (fun h _ => by cases h)⟩
          · refine ⟨fun o ho Bq4 es vs f' S' hlq5 hve hvp hf hx hK hE => ?_⟩
            obtain rfl := Option.some.inj ho
            exact ⟨want_is (j := 18) (t := 60) rfl rfl (by kernel_rfl) ((hf 18 60 (by kernel_rfl) rfl).trans (show vs 18 = .bool false from hvp 18 (by kernel_rfl))) rfl, (fun _ h => by cases h), fun _ _ => rfl, (fun h _ => by cases h), (fun h _ => by cases h)⟩
        · intro Bq4 es vs f' S' hlq5 hve hvp hf hx hK hE
          obtain ⟨x9, hv4, hv5, fR10, fC11, rfl⟩ := hE
          refine ls_fr (F := upd f' 60 (.bool false)) (fr_next (rfl) ((hf 18 60 (by kernel_rfl) rfl).trans (show vs 18 = .bool false from hvp 18 (by kernel_rfl)))) ?_
          refine ls_sub (s0) (sub_nil _) ?_
          refine ls_off (j := 18) (t := 60) (b := true) (c := false) rfl rfl (by kernel_rfl) (by kernel_rfl) rfl rfl (by kernel_rfl) ?_
          refine ls_val (v := .bool false) rfl rfl (by kernel_rfl) (fun w => by kernel_rfl) ?_
          refine ls_val (v := .bool false) rfl rfl (by kernel_rfl) (fun w => by kernel_rfl) ?_
          refine ls_off (j := 25) (t := 67) (b := true) (c := false) rfl rfl (by kernel_rfl) (by kernel_rfl) rfl rfl (by kernel_rfl) ?_
          refine ls_off (j := 25) (t := 67) (b := true) (c := false) rfl rfl (by kernel_rfl) (by kernel_rfl) rfl rfl (by kernel_rfl) ?_
          refine ls_off (j := 25) (t := 67) (b := true) (c := false) rfl rfl (by kernel_rfl) (by kernel_rfl) rfl rfl (by kernel_rfl) ?_
          refine ls_off (j := 25) (t := 67) (b := true) (c := false) rfl rfl (by kernel_rfl) (by kernel_rfl) rfl rfl (by kernel_rfl) ?_
          refine ls_off (j := 25) (t := 67) (b := true) (c := false) rfl rfl (by kernel_rfl) (by kernel_rfl) rfl rfl (by kernel_rfl) ?_
          refine ls_val (v := .bool false) rfl rfl (by kernel_rfl) (fun w => by kernel_rfl) ?_
          refine ls_val (v := .bool false) rfl rfl (by kernel_rfl) (fun w => by kernel_rfl) ?_
          refine ls_end ?_
          refine qn_then ?_
          refine cs_ret' ?_
          obtain rfl := Option.some.inj H
          refine qr_res (rs := [_]) rfl (fun w' hs => ⟨[.bool false], (res_tmp (by kernel_rfl) (.nil)), (), rfl, St.later hs0.ok hlq5 (hs.pick (ts := []) (cs := []) trivial (by decide))⟩)

end Go.Proofs.Ytnkcadofhhcfaaa.G
