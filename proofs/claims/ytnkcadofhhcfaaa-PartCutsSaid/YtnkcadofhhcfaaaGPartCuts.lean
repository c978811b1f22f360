/- Printed by a program of this session (sz.py): plain functions, and walks that show that the code comes to them; no condition. -/
import Derived.Test.YtnkcadofhhcfaaaProg
import Derived.Test.YtnkcadofhhcfaaaTy
import Derived.Test.YtnkcadofhhcfaaaG0
import Derived.Test.YtnkcadofhhcfaaaG1
set_option linter.unusedVariables false
set_option linter.unusedSimpArgs false
namespace Go.Proofs.Ytnkcadofhhcfaaa.G
open Go Go.RowKit Go.Proofs.Ytnkcadofhhcfaaa.Sx

/-! ### shadowbox/shadowboxlaw17.PartCuts: function 6 -/
def shadowboxlaw17_PartCuts.jo1 (k : Nat) (l0 : List Int) (a1 : Int) (l2 : List Int) : Option (Bool) := (if a1 > (3000 : Int) then lt (IntKind.wrap .i64 ((1 : Int) + (Int.tmod a1 (3000 : Int)))) fun y2 => (part_Cut.f k l0 y2).bind fun t4 => (shadowboxref17_Cut.f k l0 y2).bind fun t7 => (shadowboxlaw17_ints.f k t4 t7).bind fun t10 => (if t10 = true then (part_Greatest.f k l0 l2).bind fun t14 => (shadowboxref17_Greatest.f k l0 l2).bind fun t17 => (if t14 = t17 then (part_Cut.f k ([(3 : Int), (3 : Int), (3 : Int), (3 : Int)]) (8 : Int)).bind fun t22 => (shadowboxlaw17_ints.f k t22 ([(2 : Int), (4 : Int)])).bind fun t26 => some t26 else some false) else some false) else (part_Cut.f k l0 a1).bind fun t29 => (shadowboxref17_Cut.f k l0 a1).bind fun t32 => (shadowboxlaw17_ints.f k t29 t32).bind fun t35 => (if t35 = true then (part_Greatest.f k l0 l2).bind fun t39 => (shadowboxref17_Greatest.f k l0 l2).bind fun t42 => (if t39 = t42 then (part_Cut.f k ([(3 : Int), (3 : Int), (3 : Int), (3 : Int)]) (8 : Int)).bind fun t47 => (shadowboxlaw17_ints.f k t47 ([(2 : Int), (4 : Int)])).bind fun t51 => some t51 else some false) else some false))
def shadowboxlaw17_PartCuts.f (k : Nat) (l0 : List Int) (a1 : Int) (l2 : List Int) : Option (Bool) :=
  (if (l0.length : Int) > (200 : Int) then (part_Cut.f k ([(1 : Int)]) (1 : Int)).bind fun t56 => some (decide ((t56.length : Int) = (1 : Int))) else (if (l2.length : Int) > (200 : Int) then (part_Cut.f k ([(1 : Int)]) (1 : Int)).bind fun t61 => some (decide ((t61.length : Int) = (1 : Int))) else (shadowboxlaw17_PartCuts.jo1 k l0 a1 l2)))
set_option maxRecDepth 100000 in
set_option maxHeartbeats 4000000 in
theorem shadowboxlaw17_PartCuts.calls (k : Nat) (A0 : Option Addr) (c0 : Nat) (l0 : List Int) (a1 : Int) (A2 : Option Addr) (c2 : Nat) (l2 : List Int) (r : Bool) (b : Bs) (hs0 : St b (stl []) b.w) (R0 : Ro b A0 (em (Ec.int 3 .i64) l0)) (C0 : l0.length ≤ c0) (R2 : Ro b A2 (em (Ec.int 3 .i64) l2)) (C2 : l2.length ≤ c2) (H : shadowboxlaw17_PartCuts.f k l0 a1 l2 = some r) :
    Calls Try.prog 6 #[.slice A0 l0.length c0, .int .i64 a1, .slice A2 l2.length c2] b.w fun e w' => ∃ x : Unit, e = .returned (.bool r) ∧ St b (stl []) w' := by
  unfold shadowboxlaw17_PartCuts.f at H
  refine enterb (n := 46) Try.func6 rfl (by kernel_rfl) (by kernel_rfl) hs0 ?_
  refine cs_sub (s0) (sub_nil _) ?_
  refine cs_seq ?_
  refine cs_region (l := [_]) ?_
  refine ls_val (v := .bool false) rfl rfl (by kernel_rfl) (fun w => by kernel_rfl) ?_
  refine ls_end ?_
  refine qn_then ?_
  refine cs_cut (fun f S => ∃ (fR : Fr), f = upd (upd (upd fR 0 (.slice A0 l0.length c0)) 1 (.int .i64 a1)) 2 (.slice A2 l2.length c2) ∧ S = s0 ∧ shadowboxlaw17_PartCuts.jo1 k l0 a1 l2 = some r) ?_ ?_
  · skip
    refine cs_seq ?_
    refine cs_region (l := [_, _, _, _, _, _, _, _]) ?_
    refine ls_val (v := .slice A0 l0.length c0) rfl rfl (by kernel_rfl) (fun w => by kernel_rfl) ?_
    refine ls_val (v := .int .i64 (l0.length : Int)) rfl rfl (by kernel_rfl) (fun w => by kernel_rfl) ?_
    refine ls_val (v := .bool (decide ((l0.length : Int) > (200 : Int)))) rfl rfl (by kernel_rfl) (fun w => by kernel_rfl) ?_
    refine ls_val (v := .bool (decide ((l0.length : Int) > (200 : Int)))) rfl rfl (by kernel_rfl) (fun w => by kernel_rfl) ?_
    by_cases q54 : (l0.length : Int) > (200 : Int)
    · replace H := ite_t q54 H
      refine ls_know (c := true) (dec_t q54) 10 (by kernel_rfl) ?_
      refine ls_off (j := 3) (t := 10) (b := false) (c := true) rfl rfl (by kernel_rfl) (by kernel_rfl) rfl rfl (by kernel_rfl) ?_
      refine ls_off (j := 3) (t := 10) (b := false) (c := true) rfl rfl (by kernel_rfl) (by kernel_rfl) rfl rfl (by kernel_rfl) ?_
      refine ls_off (j := 3) (t := 10) (b := false) (c := true) rfl rfl (by kernel_rfl) (by kernel_rfl) rfl rfl (by kernel_rfl) ?_
      refine ls_val (v := .bool true) rfl rfl (by kernel_rfl) (fun w => by kernel_rfl) ?_
      refine ls_end ?_
      refine qn_then ?_
      refine cs_true (by kernel_rfl) ?_
      refine cs_seq ?_
      refine cs_region (l := [_, _, _, _, _]) ?_
      refine ls_lit (Ec.int 3 .i64) 0 rfl rfl (by kernel_rfl) ([(1 : Int)]) (by exact of_decide_eq_true (by kernel_rfl)) (fun w => by kernel_rfl) ?_
      intro g55
      obtain ⟨t56, hc57, H⟩ := bind_some H
      refine ls_callb (fid := 16) (vals := #[.slice (some ⟨g55, 0, none⟩) ([(1 : Int)]).length [(1 : Int)].length, .int .i64 (1 : Int)]) (X := (Option Addr × Nat)) (fun x => .slice x.1 t56.length x.2) (fun x => stl [Ck.sl (Ec.int 3 .i64) x.1 x.2 t56]) [] [0] [] [Ck.sl (Ec.int 3 .i64) (some ⟨g55, 0, none⟩) ([(1 : Int)].length) ([(1 : Int)])] 1 rfl rfl (by kernel_rfl) (fun w => by kernel_rfl) trivial ⟨by exact rfl, trivial⟩ (by decide) (fun w hs hb => part_Cut.calls k (some ⟨g55, 0, none⟩) ([(1 : Int)].length) ([(1 : Int)]) (1 : Int) t56 (lent b w [] [Ck.sl (Ec.int 3 .i64) (some ⟨g55, 0, none⟩) ([(1 : Int)].length) ([(1 : Int)])]) hb (hs.ror (k := 0) (by exact rfl) (.head _)) (hs.cap (k := 0) (by exact rfl)) hc57) ?_
      intro x58
      refine ls_val (v := .int .i64 (t56.length : Int)) rfl rfl (by kernel_rfl) (fun w => by kernel_rfl) ?_
      refine ls_val (v := .bool (decide ((t56.length : Int) = (1 : Int)))) rfl rfl (by kernel_rfl) (fun w => by kernel_rfl) ?_
      refine ls_val (v := .bool (decide ((t56.length : Int) = (1 : Int)))) rfl rfl (by kernel_rfl) (fun w => by kernel_rfl) ?_
      refine ls_end ?_
      refine qn_then ?_
      refine cs_ret' ?_
      refine qr_then ?_
      obtain rfl := Option.some.inj H
      refine qr_res (rs := [_]) rfl (fun w' hs => ⟨[.bool (decide ((t56.length : Int) = (1 : Int)))], (res_tmp (by kernel_rfl) (.nil)), (), rfl, hs.pick (ts := []) (cs := []) trivial (by decide)⟩)
    · replace H := ite_f q54 H
      refine ls_know (c := false) (dec_f q54) 10 (by kernel_rfl) ?_
      refine ls_on (j := 3) (t := 10) (b := false) rfl rfl (by kernel_rfl) (by kernel_rfl) ?_
      refine ls_val (v := .slice A2 l2.length c2) rfl rfl (by kernel_rfl) (fun w => by kernel_rfl) ?_
      refine ls_on (j := 3) (t := 10) (b := false) rfl rfl (by kernel_rfl) (by kernel_rfl) ?_
      refine ls_val (v := .int .i64 (l2.length : Int)) rfl rfl (by kernel_rfl) (fun w => by kernel_rfl) ?_
      refine ls_on (j := 3) (t := 10) (b := false) rfl rfl (by kernel_rfl) (by kernel_rfl) ?_
      refine ls_val (v := .bool (decide ((l2.length : Int) > (200 : Int)))) rfl rfl (by kernel_rfl) (fun w => by kernel_rfl) ?_
      refine ls_val (v := .bool (decide ((l2.length : Int) > (200 : Int)))) rfl rfl (by kernel_rfl) (fun w => by kernel_rfl) ?_
      refine ls_end ?_
      refine qn_then ?_
      by_cases q59 : (l2.length : Int) > (200 : Int)
      · replace H := ite_t q59 H
        refine cs_know (c := true) (dec_t q59) 14 (by kernel_rfl) ?_
        refine cs_true (by kernel_rfl) ?_
        refine cs_seq ?_
        refine cs_region (l := [_, _, _, _, _]) ?_
        refine ls_lit (Ec.int 3 .i64) 0 rfl rfl (by kernel_rfl) ([(1 : Int)]) (by exact of_decide_eq_true (by kernel_rfl)) (fun w => by kernel_rfl) ?_
        intro g60
        obtain ⟨t61, hc62, H⟩ := bind_some H
        refine ls_callb (fid := 16) (vals := #[.slice (some ⟨g60, 0, none⟩) ([(1 : Int)]).length [(1 : Int)].length, .int .i64 (1 : Int)]) (X := (Option Addr × Nat)) (fun x => .slice x.1 t61.length x.2) (fun x => stl [Ck.sl (Ec.int 3 .i64) x.1 x.2 t61]) [] [0] [] [Ck.sl (Ec.int 3 .i64) (some ⟨g60, 0, none⟩) ([(1 : Int)].length) ([(1 : Int)])] 1 rfl rfl (by kernel_rfl) (fun w => by kernel_rfl) trivial ⟨by exact rfl, trivial⟩ (by decide) (fun w hs hb => part_Cut.calls k (some ⟨g60, 0, none⟩) ([(1 : Int)].length) ([(1 : Int)]) (1 : Int) t61 (lent b w [] [Ck.sl (Ec.int 3 .i64) (some ⟨g60, 0, none⟩) ([(1 : Int)].length) ([(1 : Int)])]) hb (hs.ror (k := 0) (by exact rfl) (.head _)) (hs.cap (k := 0) (by exact rfl)) hc62) ?_
        intro x63
        refine ls_val (v := .int .i64 (t61.length : Int)) rfl rfl (by kernel_rfl) (fun w => by kernel_rfl) ?_
        refine ls_val (v := .bool (decide ((t61.length : Int) = (1 : Int)))) rfl rfl (by kernel_rfl) (fun w => by kernel_rfl) ?_
        refine ls_val (v := .bool (decide ((t61.length : Int) = (1 : Int)))) rfl rfl (by kernel_rfl) (fun w => by kernel_rfl) ?_
        refine ls_end ?_
        refine qn_then ?_
        refine cs_ret' ?_
        refine qr_then ?_
        obtain rfl := Option.some.inj H
        refine qr_res (rs := [_]) rfl (fun w' hs => ⟨[.bool (decide ((t61.length : Int) = (1 : Int)))], (res_tmp (by kernel_rfl) (.nil)), (), rfl, hs.pick (ts := []) (cs := []) trivial (by decide)⟩)
      · replace H := ite_f q59 H
        refine cs_know (c := false) (dec_f q59) 14 (by kernel_rfl) ?_
        refine cs_false (by kernel_rfl) ?_
        refine cs_skip' ?_
        refine qn_meet (s0) ⟨_, fr_next (fr_next (fr_next (rfl) (by kernel_rfl)) (by kernel_rfl)) (by kernel_rfl), rfl, H⟩ (sub_nil _)
  · rintro f S ⟨fr1, rfl, rfl, H⟩
    replace H : ((if a1 > (3000 : Int) then lt (IntKind.wrap .i64 ((1 : Int) + (Int.tmod a1 (3000 : Int)))) fun y2 => (part_Cut.f k l0 y2).bind fun t4 => (shadowboxref17_Cut.f k l0 y2).bind fun t7 => (shadowboxlaw17_ints.f k t4 t7).bind fun t10 => (if t10 = true then (part_Greatest.f k l0 l2).bind fun t14 => (shadowboxref17_Greatest.f k l0 l2).bind fun t17 => (if t14 = t17 then (part_Cut.f k ([(3 : Int), (3 : Int), (3 : Int), (3 : Int)]) (8 : Int)).bind fun t22 => (shadowboxlaw17_ints.f k t22 ([(2 : Int), (4 : Int)])).bind fun t26 => some t26 else some false) else some false) else (part_Cut.f k l0 a1).bind fun t29 => (shadowboxref17_Cut.f k l0 a1).bind fun t32 => (shadowboxlaw17_ints.f k t29 t32).bind fun t35 => (if t35 = true then (part_Greatest.f k l0 l2).bind fun t39 => (shadowboxref17_Greatest.f k l0 l2).bind fun t42 => (if t39 = t42 then (part_Cut.f k ([(3 : Int), (3 : Int), (3 : Int), (3 : Int)]) (8 : Int)).bind fun t47 => (shadowboxlaw17_ints.f k t47 ([(2 : Int), (4 : Int)])).bind fun t51 => some t51 else some false) else some false))) = some r := H
    refine cs_seq ?_
    refine cs_seq ?_
    refine cs_region (l := [_, _]) ?_
    refine ls_val (v := .int .i64 a1) rfl rfl (by kernel_rfl) (fun w => by kernel_rfl) ?_
    refine ls_val (v := .bool (decide (a1 > (3000 : Int)))) rfl rfl (by kernel_rfl) (fun w => by kernel_rfl) ?_
    refine ls_end ?_
    refine qn_then ?_
    by_cases q1 : a1 > (3000 : Int)
    · replace H := ite_t q1 H
      refine cs_know (c := true) (dec_t q1) 20 (by kernel_rfl) ?_
      refine cs_true (by kernel_rfl) ?_
      refine cs_region (l := [_, _, _, _]) ?_
      refine ls_val (v := .int .i64 a1) rfl rfl (by kernel_rfl) (fun w => by kernel_rfl) ?_
      refine ls_val (v := .int .i64 (Int.tmod a1 (3000 : Int))) rfl rfl (by kernel_rfl) (fun w => by kernel_rfl) ?_
      obtain ⟨y2, hy3, H⟩ := lt_some H
      refine ls_val (v := .int .i64 (IntKind.wrap .i64 ((1 : Int) + (Int.tmod a1 (3000 : Int))))) rfl rfl (by kernel_rfl) (fun w => by kernel_rfl) ?_
      refine ls_ren 23 (v := .int .i64 (IntKind.wrap .i64 ((1 : Int) + (Int.tmod a1 (3000 : Int))))) (v' := .int .i64 y2) (by kernel_rfl) (by rw [hy3]) ?_
      refine ls_val (v := .int .i64 y2) rfl rfl (by kernel_rfl) (fun w => by kernel_rfl) ?_
      refine ls_end ?_
      refine qn_then ?_
      refine cs_seq ?_
      refine cs_region (l := [_, _, _, _, _, _, _, _, _, _, _, _, _, _, _, _, _, _, _, _, _, _, _]) ?_
      refine ls_val (v := .slice A0 l0.length c0) rfl rfl (by kernel_rfl) (fun w => by kernel_rfl) ?_
      refine ls_val (v := .int .i64 y2) rfl rfl (by kernel_rfl) (fun w => by kernel_rfl) ?_
      obtain ⟨t4, hc5, H⟩ := bind_some H
      refine ls_callb (fid := 16) (vals := #[.slice A0 l0.length c0, .int .i64 y2]) (X := (Option Addr × Nat)) (fun x => .slice x.1 t4.length x.2) (fun x => stl [Ck.sl (Ec.int 3 .i64) x.1 x.2 t4]) [] [] [] [] 0 rfl rfl (by kernel_rfl) (fun w => by kernel_rfl) trivial trivial (by decide) (fun w hs hb => part_Cut.calls k A0 c0 l0 y2 t4 (lent b w [] []) hb (hs.ro R0 _ _) C0 hc5) ?_
      intro x6
      refine ls_val (v := .slice A0 l0.length c0) rfl rfl (by kernel_rfl) (fun w => by kernel_rfl) ?_
      refine ls_val (v := .int .i64 y2) rfl rfl (by kernel_rfl) (fun w => by kernel_rfl) ?_
      obtain ⟨t7, hc8, H⟩ := bind_some H
      refine ls_callb (fid := 18) (vals := #[.slice A0 l0.length c0, .int .i64 y2]) (X := (Option Addr × Nat)) (fun x => .slice x.1 t7.length x.2) (fun x => stl [Ck.sl (Ec.int 3 .i64) x.1 x.2 t7]) [] [] [] [] 1 rfl rfl (by kernel_rfl) (fun w => by kernel_rfl) trivial trivial (by decide) (fun w hs hb => shadowboxref17_Cut.calls k A0 c0 l0 y2 t7 (lent b w [] []) hb (hs.ro R0 _ _) C0 hc8) ?_
      intro x9
      obtain ⟨t10, hc11, H⟩ := bind_some H
      refine ls_callb (fid := 17) (vals := #[.slice x6.1 t4.length x6.2, .slice x9.1 t7.length x9.2]) (X := Unit) (fun x => .bool t10) (fun x => stl []) [] [0, 1] [] [Ck.sl (Ec.int 3 .i64) x6.1 x6.2 t4, Ck.sl (Ec.int 3 .i64) x9.1 x9.2 t7] 2 rfl rfl (by kernel_rfl) (fun w => by kernel_rfl) trivial ⟨by exact rfl, by exact rfl, trivial⟩ (by decide) (fun w hs hb => shadowboxlaw17_ints.calls k x6.1 x6.2 t4 x9.1 x9.2 t7 t10 (lent b w [] [Ck.sl (Ec.int 3 .i64) x6.1 x6.2 t4, Ck.sl (Ec.int 3 .i64) x9.1 x9.2 t7]) hb (hs.ror (k := 0) (by exact rfl) (.head _)) (hs.cap (k := 0) (by exact rfl)) (hs.ror (k := 1) (by exact rfl) (.tail _ (.head _))) (hs.cap (k := 1) (by exact rfl)) hc11) ?_
      intro x12
      refine ls_val (v := .bool t10) rfl rfl (by kernel_rfl) (fun w => by kernel_rfl) ?_
      by_cases q13 : t10 = true
      · replace H := ite_t q13 H
        refine ls_know (c := true) (q13) 31 (by kernel_rfl) ?_
        refine ls_on (j := 7) (t := 31) (b := true) rfl rfl (by kernel_rfl) (by kernel_rfl) ?_
        refine ls_val (v := .slice A0 l0.length c0) rfl rfl (by kernel_rfl) (fun w => by kernel_rfl) ?_
        refine ls_on (j := 7) (t := 31) (b := true) rfl rfl (by kernel_rfl) (by kernel_rfl) ?_
        refine ls_val (v := .slice A2 l2.length c2) rfl rfl (by kernel_rfl) (fun w => by kernel_rfl) ?_
        refine ls_on (j := 7) (t := 31) (b := true) rfl rfl (by kernel_rfl) (by kernel_rfl) ?_
        obtain ⟨t14, hc15, H⟩ := bind_some H
        refine ls_callb (fid := 19) (vals := #[.slice A0 l0.length c0, .slice A2 l2.length c2]) (X := Unit) (fun x => .int .i64 t14) (fun x => stl []) [] [] [] [] 2 rfl rfl (by kernel_rfl) (fun w => by kernel_rfl) trivial trivial (by decide) (fun w hs hb => part_Greatest.calls k A0 c0 l0 A2 c2 l2 t14 (lent b w [] []) hb (hs.ro R0 _ _) C0 (hs.ro R2 _ _) C2 hc15) ?_
        intro x16
        refine ls_on (j := 7) (t := 31) (b := true) rfl rfl (by kernel_rfl) (by kernel_rfl) ?_
        refine ls_val (v := .slice A0 l0.length c0) rfl rfl (by kernel_rfl) (fun w => by kernel_rfl) ?_
        refine ls_on (j := 7) (t := 31) (b := true) rfl rfl (by kernel_rfl) (by kernel_rfl) ?_
        refine ls_val (v := .slice A2 l2.length c2) rfl rfl (by kernel_rfl) (fun w => by kernel_rfl) ?_
        refine ls_on (j := 7) (t := 31) (b := true) rfl rfl (by kernel_rfl) (by kernel_rfl) ?_
        obtain ⟨t17, hc18, H⟩ := bind_some H
        refine ls_callb (fid := 20) (vals := #[.slice A0 l0.length c0, .slice A2 l2.length c2]) (X := Unit) (fun x => .int .i64 t17) (fun x => stl []) [] [] [] [] 2 rfl rfl (by kernel_rfl) (fun w => by kernel_rfl) trivial trivial (by decide) (fun w hs hb => shadowboxref17_Greatest.calls k A0 c0 l0 A2 c2 l2 t17 (lent b w [] []) hb (hs.ro R0 _ _) C0 (hs.ro R2 _ _) C2 hc18) ?_
        intro x19
        refine ls_on (j := 7) (t := 31) (b := true) rfl rfl (by kernel_rfl) (by kernel_rfl) ?_
        refine ls_val (v := .bool (decide (t14 = t17))) rfl rfl (by kernel_rfl) (fun w => by kernel_rfl) ?_
        refine ls_val (v := .bool (decide (t14 = t17))) rfl rfl (by kernel_rfl) (fun w => by kernel_rfl) ?_
        refine ls_val (v := .bool (decide (t14 = t17))) rfl rfl (by kernel_rfl) (fun w => by kernel_rfl) ?_
        by_cases q20 : t14 = t17
        · replace H := ite_t q20 H
          refine ls_know (c := true) (dec_t q20) 40 (by kernel_rfl) ?_
          refine ls_on (j := 16) (t := 40) (b := true) rfl rfl (by kernel_rfl) (by kernel_rfl) ?_
          refine ls_lit (Ec.int 3 .i64) 2 rfl rfl (by kernel_rfl) ([(3 : Int), (3 : Int), (3 : Int), (3 : Int)]) (by exact of_decide_eq_true (by kernel_rfl)) (fun w => by kernel_rfl) ?_
          intro g21
          refine ls_on (j := 16) (t := 40) (b := true) rfl rfl (by kernel_rfl) (by kernel_rfl) ?_
          obtain ⟨t22, hc23, H⟩ := bind_some H
          refine ls_callb (fid := 16) (vals := #[.slice (some ⟨g21, 0, none⟩) ([(3 : Int), (3 : Int), (3 : Int), (3 : Int)]).length [(3 : Int), (3 : Int), (3 : Int), (3 : Int)].length, .int .i64 (8 : Int)]) (X := (Option Addr × Nat)) (fun x => .slice x.1 t22.length x.2) (fun x => stl [Ck.sl (Ec.int 3 .i64) x.1 x.2 t22]) [] [2] [] [Ck.sl (Ec.int 3 .i64) (some ⟨g21, 0, none⟩) ([(3 : Int), (3 : Int), (3 : Int), (3 : Int)].length) ([(3 : Int), (3 : Int), (3 : Int), (3 : Int)])] 3 rfl rfl (by kernel_rfl) (fun w => by kernel_rfl) trivial ⟨by exact rfl, trivial⟩ (by decide) (fun w hs hb => part_Cut.calls k (some ⟨g21, 0, none⟩) ([(3 : Int), (3 : Int), (3 : Int), (3 : Int)].length) ([(3 : Int), (3 : Int), (3 : Int), (3 : Int)]) (8 : Int) t22 (lent b w [] [Ck.sl (Ec.int 3 .i64) (some ⟨g21, 0, none⟩) ([(3 : Int), (3 : Int), (3 : Int), (3 : Int)].length) ([(3 : Int), (3 : Int), (3 : Int), (3 : Int)])]) hb (hs.ror (k := 2) (by exact rfl) (.head _)) (hs.cap (k := 2) (by exact rfl)) hc23) ?_
          intro x24
          refine ls_on (j := 16) (t := 40) (b := true) rfl rfl (by kernel_rfl) (by kernel_rfl) ?_
          refine ls_lit (Ec.int 3 .i64) 4 rfl rfl (by kernel_rfl) ([(2 : Int), (4 : Int)]) (by exact of_decide_eq_true (by kernel_rfl)) (fun w => by kernel_rfl) ?_
          intro g25
          refine ls_on (j := 16) (t := 40) (b := true) rfl rfl (by kernel_rfl) (by kernel_rfl) ?_
          obtain ⟨t26, hc27, H⟩ := bind_some H
          refine ls_callb (fid := 17) (vals := #[.slice x24.1 t22.length x24.2, .slice (some ⟨g25, 0, none⟩) ([(2 : Int), (4 : Int)]).length [(2 : Int), (4 : Int)].length]) (X := Unit) (fun x => .bool t26) (fun x => stl []) [] [3, 4] [] [Ck.sl (Ec.int 3 .i64) x24.1 x24.2 t22, Ck.sl (Ec.int 3 .i64) (some ⟨g25, 0, none⟩) ([(2 : Int), (4 : Int)].length) ([(2 : Int), (4 : Int)])] 5 rfl rfl (by kernel_rfl) (fun w => by kernel_rfl) trivial ⟨by exact rfl, by exact rfl, trivial⟩ (by decide) (fun w hs hb => shadowboxlaw17_ints.calls k x24.1 x24.2 t22 (some ⟨g25, 0, none⟩) ([(2 : Int), (4 : Int)].length) ([(2 : Int), (4 : Int)]) t26 (lent b w [] [Ck.sl (Ec.int 3 .i64) x24.1 x24.2 t22, Ck.sl (Ec.int 3 .i64) (some ⟨g25, 0, none⟩) ([(2 : Int), (4 : Int)].length) ([(2 : Int), (4 : Int)])]) hb (hs.ror (k := 3) (by exact rfl) (.head _)) (hs.cap (k := 3) (by exact rfl)) (hs.ror (k := 4) (by exact rfl) (.tail _ (.head _))) (hs.cap (k := 4) (by exact rfl)) hc27) ?_
          intro x28
          refine ls_val (v := .bool t26) rfl rfl (by kernel_rfl) (fun w => by kernel_rfl) ?_
          refine ls_val (v := .bool t26) rfl rfl (by kernel_rfl) (fun w => by kernel_rfl) ?_
          refine ls_end ?_
          refine qn_then ?_
          refine cs_ret' ?_
          obtain rfl := Option.some.inj H
          refine qr_res (rs := [_]) rfl (fun w' hs => ⟨[.bool t26], (res_tmp (by kernel_rfl) (.nil)), (), rfl, hs.pick (ts := []) (cs := []) trivial (by decide)⟩)
        · replace H := ite_f q20 H
          refine ls_know (c := false) (dec_f q20) 40 (by kernel_rfl) ?_
          refine ls_off (j := 16) (t := 40) (b := true) (c := false) rfl rfl (by kernel_rfl) (by kernel_rfl) rfl rfl (by kernel_rfl) ?_
          refine ls_off (j := 16) (t := 40) (b := true) (c := false) rfl rfl (by kernel_rfl) (by kernel_rfl) rfl rfl (by kernel_rfl) ?_
          refine ls_off (j := 16) (t := 40) (b := true) (c := false) rfl rfl (by kernel_rfl) (by kernel_rfl) rfl rfl (by kernel_rfl) ?_
          refine ls_off (j := 16) (t := 40) (b := true) (c := false) rfl rfl (by kernel_rfl) (by kernel_rfl) rfl rfl (by kernel_rfl) ?_
          refine ls_val (v := .bool false) rfl rfl (by kernel_rfl) (fun w => by kernel_rfl) ?_
          refine ls_val (v := .bool false) rfl rfl (by kernel_rfl) (fun w => by kernel_rfl) ?_
          refine ls_end ?_
          refine qn_then ?_
          refine cs_ret' ?_
          obtain rfl := Option.some.inj H
          refine qr_res (rs := [_]) rfl (fun w' hs => ⟨[.bool false], (res_tmp (by kernel_rfl) (.nil)), (), rfl, hs.pick (ts := []) (cs := []) trivial (by decide)⟩)
      · replace H := ite_f q13 H
        refine ls_know (c := false) (Bool.eq_false_iff.mpr q13) 31 (by kernel_rfl) ?_
        refine ls_off (j := 7) (t := 31) (b := true) (c := false) rfl rfl (by kernel_rfl) (by kernel_rfl) rfl rfl (by kernel_rfl) ?_
        refine ls_off (j := 7) (t := 31) (b := true) (c := false) rfl rfl (by kernel_rfl) (by kernel_rfl) rfl rfl (by kernel_rfl) ?_
        refine ls_off (j := 7) (t := 31) (b := true) (c := false) rfl rfl (by kernel_rfl) (by kernel_rfl) rfl rfl (by kernel_rfl) ?_
        refine ls_off (j := 7) (t := 31) (b := true) (c := false) rfl rfl (by kernel_rfl) (by kernel_rfl) rfl rfl (by kernel_rfl) ?_
        refine ls_off (j := 7) (t := 31) (b := true) (c := false) rfl rfl (by kernel_rfl) (by kernel_rfl) rfl rfl (by kernel_rfl) ?_
        refine ls_off (j := 7) (t := 31) (b := true) (c := false) rfl rfl (by kernel_rfl) (by kernel_rfl) rfl rfl (by kernel_rfl) ?_
        refine ls_off (j := 7) (t := 31) (b := true) (c := false) rfl rfl (by kernel_rfl) (by kernel_rfl) rfl rfl (by kernel_rfl) ?_
        refine ls_val (v := .bool false) rfl rfl (by kernel_rfl) (fun w => by kernel_rfl) ?_
        refine ls_val (v := .bool false) rfl rfl (by kernel_rfl) (fun w => by kernel_rfl) ?_
        refine ls_off (j := 16) (t := 40) (b := true) (c := false) rfl rfl (by kernel_rfl) (by kernel_rfl) rfl rfl (by kernel_rfl) ?_
        refine ls_off (j := 16) (t := 40) (b := true) (c := false) rfl rfl (by kernel_rfl) (by kernel_rfl) rfl rfl (by kernel_rfl) ?_
        refine ls_off (j := 16) (t := 40) (b := true) (c := false) rfl rfl (by kernel_rfl) (by kernel_rfl) rfl rfl (by kernel_rfl) ?_
        refine ls_off (j := 16) (t := 40) (b := true) (c := false) rfl rfl (by kernel_rfl) (by kernel_rfl) rfl rfl (by kernel_rfl) ?_
        refine ls_val (v := .bool false) rfl rfl (by kernel_rfl) (fun w => by kernel_rfl) ?_
        refine ls_val (v := .bool false) rfl rfl (by kernel_rfl) (fun w => by kernel_rfl) ?_
        refine ls_end ?_
        refine qn_then ?_
        refine cs_ret' ?_
        obtain rfl := Option.some.inj H
        refine qr_res (rs := [_]) rfl (fun w' hs => ⟨[.bool false], (res_tmp (by kernel_rfl) (.nil)), (), rfl, hs.pick (ts := []) (cs := []) trivial (by decide)⟩)
    · replace H := ite_f q1 H
      refine cs_know (c := false) (dec_f q1) 20 (by kernel_rfl) ?_
      refine cs_false (by kernel_rfl) ?_
      refine cs_skip' ?_
      refine qn_then ?_
      refine cs_seq ?_
      refine cs_region (l := [_, _, _, _, _, _, _, _, _, _, _, _, _, _, _, _, _, _, _, _, _, _, _]) ?_
      refine ls_val (v := .slice A0 l0.length c0) rfl rfl (by kernel_rfl) (fun w => by kernel_rfl) ?_
      refine ls_val (v := .int .i64 a1) rfl rfl (by kernel_rfl) (fun w => by kernel_rfl) ?_
      obtain ⟨t29, hc30, H⟩ := bind_some H
      refine ls_callb (fid := 16) (vals := #[.slice A0 l0.length c0, .int .i64 a1]) (X := (Option Addr × Nat)) (fun x => .slice x.1 t29.length x.2) (fun x => stl [Ck.sl (Ec.int 3 .i64) x.1 x.2 t29]) [] [] [] [] 0 rfl rfl (by kernel_rfl) (fun w => by kernel_rfl) trivial trivial (by decide) (fun w hs hb => part_Cut.calls k A0 c0 l0 a1 t29 (lent b w [] []) hb (hs.ro R0 _ _) C0 hc30) ?_
      intro x31
      refine ls_val (v := .slice A0 l0.length c0) rfl rfl (by kernel_rfl) (fun w => by kernel_rfl) ?_
      refine ls_val (v := .int .i64 a1) rfl rfl (by kernel_rfl) (fun w => by kernel_rfl) ?_
      obtain ⟨t32, hc33, H⟩ := bind_some H
      refine ls_callb (fid := 18) (vals := #[.slice A0 l0.length c0, .int .i64 a1]) (X := (Option Addr × Nat)) (fun x => .slice x.1 t32.length x.2) (fun x => stl [Ck.sl (Ec.int 3 .i64) x.1 x.2 t32]) [] [] [] [] 1 rfl rfl (by kernel_rfl) (fun w => by kernel_rfl) trivial trivial (by decide) (fun w hs hb => shadowboxref17_Cut.calls k A0 c0 l0 a1 t32 (lent b w [] []) hb (hs.ro R0 _ _) C0 hc33) ?_
      intro x34
      obtain ⟨t35, hc36, H⟩ := bind_some H
      refine ls_callb (fid := 17) (vals := #[.slice x31.1 t29.length x31.2, .slice x34.1 t32.length x34.2]) (X := Unit) (fun x => .bool t35) (fun x => stl []) [] [0, 1] [] [Ck.sl (Ec.int 3 .i64) x31.1 x31.2 t29, Ck.sl (Ec.int 3 .i64) x34.1 x34.2 t32] 2 rfl rfl (by kernel_rfl) (fun w => by kernel_rfl) trivial ⟨by exact rfl, by exact rfl, trivial⟩ (by decide) (fun w hs hb => shadowboxlaw17_ints.calls k x31.1 x31.2 t29 x34.1 x34.2 t32 t35 (lent b w [] [Ck.sl (Ec.int 3 .i64) x31.1 x31.2 t29, Ck.sl (Ec.int 3 .i64) x34.1 x34.2 t32]) hb (hs.ror (k := 0) (by exact rfl) (.head _)) (hs.cap (k := 0) (by exact rfl)) (hs.ror (k := 1) (by exact rfl) (.tail _ (.head _))) (hs.cap (k := 1) (by exact rfl)) hc36) ?_
      intro x37
      refine ls_val (v := .bool t35) rfl rfl (by kernel_rfl) (fun w => by kernel_rfl) ?_
      by_cases q38 : t35 = true
      · replace H := ite_t q38 H
        refine ls_know (c := true) (q38) 31 (by kernel_rfl) ?_
        refine ls_on (j := 7) (t := 31) (b := true) rfl rfl (by kernel_rfl) (by kernel_rfl) ?_
        refine ls_val (v := .slice A0 l0.length c0) rfl rfl (by kernel_rfl) (fun w => by kernel_rfl) ?_
        refine ls_on (j := 7) (t := 31) (b := true) rfl rfl (by kernel_rfl) (by kernel_rfl) ?_
        refine ls_val (v := .slice A2 l2.length c2) rfl rfl (by kernel_rfl) (fun w => by kernel_rfl) ?_
        refine ls_on (j := 7) (t := 31) (b := true) rfl rfl (by kernel_rfl) (by kernel_rfl) ?_
        obtain ⟨t39, hc40, H⟩ := bind_some H
        refine ls_callb (fid := 19) (vals := #[.slice A0 l0.length c0, .slice A2 l2.length c2]) (X := Unit) (fun x => .int .i64 t39) (fun x => stl []) [] [] [] [] 2 rfl rfl (by kernel_rfl) (fun w => by kernel_rfl) trivial trivial (by decide) (fun w hs hb => part_Greatest.calls k A0 c0 l0 A2 c2 l2 t39 (lent b w [] []) hb (hs.ro R0 _ _) C0 (hs.ro R2 _ _) C2 hc40) ?_
        intro x41
        refine ls_on (j := 7) (t := 31) (b := true) rfl rfl (by kernel_rfl) (by kernel_rfl) ?_
        refine ls_val (v := .slice A0 l0.length c0) rfl rfl (by kernel_rfl) (fun w => by kernel_rfl) ?_
        refine ls_on (j := 7) (t := 31) (b := true) rfl rfl (by kernel_rfl) (by kernel_rfl) ?_
        refine ls_val (v := .slice A2 l2.length c2) rfl rfl (by kernel_rfl) (fun w => by kernel_rfl) ?_
        refine ls_on (j := 7) (t := 31) (b := true) rfl rfl (by kernel_rfl) (by kernel_rfl) ?_
        obtain ⟨t42, hc43, H⟩ := bind_some H
        refine ls_callb (fid := 20) (vals := #[.slice A0 l0.length c0, .slice A2 l2.length c2]) (X := Unit) (fun x => .int .i64 t42) (fun x => stl []) [] [] [] [] 2 rfl rfl (by kernel_rfl) (fun w => by kernel_rfl) trivial trivial (by decide) (fun w hs hb => shadowboxref17_Greatest.calls k A0 c0 l0 A2 c2 l2 t42 (lent b w [] []) hb (hs.ro R0 _ _) C0 (hs.ro R2 _ _) C2 hc43) ?_
        intro x44
        refine ls_on (j := 7) (t := 31) (b := true) rfl rfl (by kernel_rfl) (by kernel_rfl) ?_
        refine ls_val (v := .bool (decide (t39 = t42))) rfl rfl (by kernel_rfl) (fun w => by kernel_rfl) ?_
        refine ls_val (v := .bool (decide (t39 = t42))) rfl rfl (by kernel_rfl) (fun w => by kernel_rfl) ?_
        refine ls_val (v := .bool (decide (t39 = t42))) rfl rfl (by kernel_rfl) (fun w => by kernel_rfl) ?_
        by_cases q45 : t39 = t42
        · replace H := ite_t q45 H
          refine ls_know (c := true) (dec_t q45) 40 (by kernel_rfl) ?_
          refine ls_on (j := 16) (t := 40) (b := true) rfl rfl (by kernel_rfl) (by kernel_rfl) ?_
          refine ls_lit (Ec.int 3 .i64) 2 rfl rfl (by kernel_rfl) ([(3 : Int), (3 : Int), (3 : Int), (3 : Int)]) (by exact of_decide_eq_true (by kernel_rfl)) (fun w => by kernel_rfl) ?_
          intro g46
          refine ls_on (j := 16) (t := 40) (b := true) rfl rfl (by kernel_rfl) (by kernel_rfl) ?_
          obtain ⟨t47, hc48, H⟩ := bind_some H
          refine ls_callb (fid := 16) (vals := #[.slice (some ⟨g46, 0, none⟩) ([(3 : Int), (3 : Int), (3 : Int), (3 : Int)]).length [(3 : Int), (3 : Int), (3 : Int), (3 : Int)].length, .int .i64 (8 : Int)]) (X := (Option Addr × Nat)) (fun x => .slice x.1 t47.length x.2) (fun x => stl [Ck.sl (Ec.int 3 .i64) x.1 x.2 t47]) [] [2] [] [Ck.sl (Ec.int 3 .i64) (some ⟨g46, 0, none⟩) ([(3 : Int), (3 : Int), (3 : Int), (3 : Int)].length) ([(3 : Int), (3 : Int), (3 : Int), (3 : Int)])] 3 rfl rfl (by kernel_rfl) (fun w => by kernel_rfl) trivial ⟨by exact rfl, trivial⟩ (by decide) (fun w hs hb => part_Cut.calls k (some ⟨g46, 0, none⟩) ([(3 : Int), (3 : Int), (3 : Int), (3 : Int)].length) ([(3 : Int), (3 : Int), (3 : Int), (3 : Int)]) (8 : Int) t47 (lent b w [] [Ck.sl (Ec.int 3 .i64) (some ⟨g46, 0, none⟩) ([(3 : Int), (3 : Int), (3 : Int), (3 : Int)].length) ([(3 : Int), (3 : Int), (3 : Int), (3 : Int)])]) hb (hs.ror (k := 2) (by exact rfl) (.head _)) (hs.cap (k := 2) (by exact rfl)) hc48) ?_
          intro x49
          refine ls_on (j := 16) (t := 40) (b := true) rfl rfl (by kernel_rfl) (by kernel_rfl) ?_
          refine ls_lit (Ec.int 3 .i64) 4 rfl rfl (by kernel_rfl) ([(2 : Int), (4 : Int)]) (by exact of_decide_eq_true (by kernel_rfl)) (fun w => by kernel_rfl) ?_
          intro g50
          refine ls_on (j := 16) (t := 40) (b := true) rfl rfl (by kernel_rfl) (by kernel_rfl) ?_
          obtain ⟨t51, hc52, H⟩ := bind_some H
          refine ls_callb (fid := 17) (vals := #[.slice x49.1 t47.length x49.2, .slice (some ⟨g50, 0, none⟩) ([(2 : Int), (4 : Int)]).length [(2 : Int), (4 : Int)].length]) (X := Unit) (fun x => .bool t51) (fun x => stl []) [] [3, 4] [] [Ck.sl (Ec.int 3 .i64) x49.1 x49.2 t47, Ck.sl (Ec.int 3 .i64) (some ⟨g50, 0, none⟩) ([(2 : Int), (4 : Int)].length) ([(2 : Int), (4 : Int)])] 5 rfl rfl (by kernel_rfl) (fun w => by kernel_rfl) trivial ⟨by exact rfl, by exact rfl, trivial⟩ (by decide) (fun w hs hb => shadowboxlaw17_ints.calls k x49.1 x49.2 t47 (some ⟨g50, 0, none⟩) ([(2 : Int), (4 : Int)].length) ([(2 : Int), (4 : Int)]) t51 (lent b w [] [Ck.sl (Ec.int 3 .i64) x49.1 x49.2 t47, Ck.sl (Ec.int 3 .i64) (some ⟨g50, 0, none⟩) ([(2 : Int), (4 : Int)].length) ([(2 : Int), (4 : Int)])]) hb (hs.ror (k := 3) (by exact rfl) (.head _)) (hs.cap (k := 3) (by exact rfl)) (hs.ror (k := 4) (by exact rfl) (.tail _ (.head _))) (hs.cap (k := 4) (by exact rfl)) hc52) ?_
          intro x53
          refine ls_val (v := .bool t51) rfl rfl (by kernel_rfl) (fun w => by kernel_rfl) ?_
          refine ls_val (v := .bool t51) rfl rfl (by kernel_rfl) (fun w => by kernel_rfl) ?_
          refine ls_end ?_
          refine qn_then ?_
          refine cs_ret' ?_
          obtain rfl := Option.some.inj H
          refine qr_res (rs := [_]) rfl (fun w' hs => ⟨[.bool t51], (res_tmp (by kernel_rfl) (.nil)), (), rfl, hs.pick (ts := []) (cs := []) trivial (by decide)⟩)
        · replace H := ite_f q45 H
          refine ls_know (c := false) (dec_f q45) 40 (by kernel_rfl) ?_
          refine ls_off (j := 16) (t := 40) (b := true) (c := false) rfl rfl (by kernel_rfl) (by kernel_rfl) rfl rfl (by kernel_rfl) ?_
          refine ls_off (j := 16) (t := 40) (b := true) (c := false) rfl rfl (by kernel_rfl) (by kernel_rfl) rfl rfl (by kernel_rfl) ?_
          refine ls_off (j := 16) (t := 40) (b := true) (c := false) rfl rfl (by kernel_rfl) (by kernel_rfl) rfl rfl (by kernel_rfl) ?_
          refine ls_off (j := 16) (t := 40) (b := true) (c := false) rfl rfl (by kernel_rfl) (by kernel_rfl) rfl rfl (by kernel_rfl) ?_
          refine ls_val (v := .bool false) rfl rfl (by kernel_rfl) (fun w => by kernel_rfl) ?_
          refine ls_val (v := .bool false) rfl rfl (by kernel_rfl) (fun w => by kernel_rfl) ?_
          refine ls_end ?_
          refine qn_then ?_
          refine cs_ret' ?_
          obtain rfl := Option.some.inj H
          refine qr_res (rs := [_]) rfl (fun w' hs => ⟨[.bool false], (res_tmp (by kernel_rfl) (.nil)), (), rfl, hs.pick (ts := []) (cs := []) trivial (by decide)⟩)
      · replace H := ite_f q38 H
        refine ls_know (c := false) (Bool.eq_false_iff.mpr q38) 31 (by kernel_rfl) ?_
        refine ls_off (j := 7) (t := 31) (b := true) (c := false) rfl rfl (by kernel_rfl) (by kernel_rfl) rfl rfl (by kernel_rfl) ?_
        refine ls_off (j := 7) (t := 31) (b := true) (c := false) rfl rfl (by kernel_rfl) (by kernel_rfl) rfl rfl (by kernel_rfl) ?_
        refine ls_off (j := 7) (t := 31) (b := true) (c := false) rfl rfl (by kernel_rfl) (by kernel_rfl) rfl rfl (by kernel_rfl) ?_
        refine ls_off (j := 7) (t := 31) (b := true) (c := false) rfl rfl (by kernel_rfl) (by kernel_rfl) rfl rfl (by kernel_rfl) ?_
        refine ls_off (j := 7) (t := 31) (b := true) (c := false) rfl rfl (by kernel_rfl) (by kernel_rfl) rfl rfl (by kernel_rfl) ?_
        refine ls_off (j := 7) (t := 31) (b := true) (c := false) rfl rfl (by kernel_rfl) (by kernel_rfl) rfl rfl (by kernel_rfl) ?_
        refine ls_off (j := 7) (t := 31) (b := true) (c := false) rfl rfl (by kernel_rfl) (by kernel_rfl) rfl rfl (by kernel_rfl) ?_
        refine ls_val (v := .bool false) rfl rfl (by kernel_rfl) (fun w => by kernel_rfl) ?_
        refine ls_val (v := .bool false) rfl rfl (by kernel_rfl) (fun w => by kernel_rfl) ?_
        refine ls_off (j := 16) (t := 40) (b := true) (c := false) rfl rfl (by kernel_rfl) (by kernel_rfl) rfl rfl (by kernel_rfl) ?_
        refine ls_off (j := 16) (t := 40) (b := true) (c := false) rfl rfl (by kernel_rfl) (by kernel_rfl) rfl rfl (by kernel_rfl) ?_
        refine ls_off (j := 16) (t := 40) (b := true) (c := false) rfl rfl (by kernel_rfl) (by kernel_rfl) rfl rfl (by kernel_rfl) ?_
        refine ls_off (j := 16) (t := 40) (b := true) (c := false) rfl rfl (by kernel_rfl) (by kernel_rfl) rfl rfl (by kernel_rfl) ?_
        refine ls_val (v := .bool false) rfl rfl (by kernel_rfl) (fun w => by kernel_rfl) ?_
        refine ls_val (v := .bool false) rfl rfl (by kernel_rfl) (fun w => by kernel_rfl) ?_
        refine ls_end ?_
        refine qn_then ?_
        refine cs_ret' ?_
        obtain rfl := Option.some.inj H
        refine qr_res (rs := [_]) rfl (fun w' hs => ⟨[.bool false], (res_tmp (by kernel_rfl) (.nil)), (), rfl, hs.pick (ts := []) (cs := []) trivial (by decide)⟩)

end Go.Proofs.Ytnkcadofhhcfaaa.G
