/- Printed by a program of this session (sz.py): plain functions, and walks that show that the code comes to them; no condition. -/
import Derived.Test.YtnjijflgafghmaaProg
import Derived.Test.YtnjijflgafghmaaTy
import Derived.Test.YtnjijflgafghmaaG0
set_option linter.unusedVariables false
set_option linter.unusedSimpArgs false
namespace Go.Proofs.Ytnjijflgafghmaa.G
open Go Go.RowKit Go.Proofs.Ytnjijflgafghmaa.Sx

/-! ### shadowbox/shadowboxref06.Read: function 11 -/
def shadowboxref06_Read.lo2 (l0 : List Int) : Nat → Int → ((Int × Int × Int × Int × (Vc Int 32))) → Option ((Int × Int × Int × Int × (Vc Int 32)) × Int)
  | 0, _, _ => none
  | k2 + 1, x17_2, m5_2 => (if x17_2 < (32 : Int) then (if 0 ≤ IntKind.wrap .i64 ((20 : Int) + x17_2) then (if IntKind.wrap .i64 ((20 : Int) + x17_2) < (l0.length : Int) then lt (((l0).getD (IntKind.wrap .i64 ((20 : Int) + x17_2)).toNat (0 : Int))) fun y63 => (if 0 ≤ x17_2 then lt (vset m5_2.2.2.2.2 (x17_2).toNat y63) fun y66 => (shadowboxref06_Read.lo2 l0 k2) (IntKind.wrap .i64 (x17_2 + (1 : Int))) (m5_2.1, m5_2.2.1, m5_2.2.2.1, m5_2.2.2.2.1, y66) else none) else none) else none) else (shadowboxref06_None.f k2 m5_2).bind fun t68 => (if t68 = true then some (m5_2, (0 : Int)) else (shadowboxref06_Right.f k2 m5_2).bind fun t72 => (if t72 = true then some (m5_2, (0 : Int)) else some (((0 : Int), (0 : Int), (0 : Int), (0 : Int), (vrep 32 (0 : Int))), (11 : Int)))))
def shadowboxref06_Read.jo1 (k : Nat) (l0 : List Int) : Option ((Int × Int × Int × Int × (Vc Int 32)) × Int) := (if (4 : Int) ≤ (l0.length : Int) then lt (l0.take ((4 : Int)).toNat) fun xl7 => (shadowboxref01_Take.f k xl7 (4 : Int)).bind fun t12 => (if (8 : Int) ≤ (l0.length : Int) then (if (4 : Int) ≤ (8 : Int) then lt ((l0.take ((8 : Int)).toNat).drop ((4 : Int)).toNat) fun xl21 => (shadowboxref01_Take.f k xl21 (4 : Int)).bind fun t26 => (if (16 : Int) ≤ (l0.length : Int) then (if (8 : Int) ≤ (16 : Int) then lt ((l0.take ((16 : Int)).toNat).drop ((8 : Int)).toNat) fun xl35 => (shadowboxref01_Take.f k xl35 (8 : Int)).bind fun t40 => (if (20 : Int) ≤ (l0.length : Int) then (if (16 : Int) ≤ (20 : Int) then lt ((l0.take ((20 : Int)).toNat).drop ((16 : Int)).toNat) fun xl49 => (shadowboxref01_Take.f k xl49 (4 : Int)).bind fun t54 => shadowboxref06_Read.lo2 l0 k (0 : Int) (IntKind.wrap .i64 t12.1, IntKind.wrap .i64 t40.1, IntKind.wrap .i64 t26.1, IntKind.wrap .u32 t54.1, (vrep 32 (0 : Int))) else none) else none) else none) else none) else none) else none) else none)
def shadowboxref06_Read.f (k : Nat) (l0 : List Int) : Option ((Int × Int × Int × Int × (Vc Int 32)) × Int) :=
  (if (l0.length : Int) < (52 : Int) then some (((0 : Int), (0 : Int), (0 : Int), (0 : Int), (vrep 32 (0 : Int))), (10 : Int)) else (shadowboxref06_Read.jo1 k l0))
set_option maxRecDepth 100000 in
set_option maxHeartbeats 4000000 in
theorem shadowboxref06_Read.calls (k : Nat) (A0 : Option Addr) (c0 : Nat) (l0 : List Int) (r : (Int × Int × Int × Int × (Vc Int 32)) × Int) (b : Bs) (hs0 : St b (stl []) b.w) (R0 : Ro b A0 (em (Ec.int 5 .u8) l0)) (C0 : l0.length ≤ c0) (H : shadowboxref06_Read.f k l0 = some r) :
    Calls Try.prog 11 #[.slice A0 l0.length c0] b.w fun e w' => ∃ x : Unit, e = .returned (.tuple #[.agg ⟨([Value.int .i64 r.1.1] ++ ([Value.int .i64 r.1.2.1] ++ ([Value.int .i64 r.1.2.2.1] ++ ([Value.int .u32 r.1.2.2.2.1] ++ en (Value.int .u8) r.1.2.2.2.2.1))))⟩, .int .i64 r.2]) ∧ St b (stl []) w' := by
  unfold shadowboxref06_Read.f at H
  refine enterb (n := 81) Try.func11 rfl (by kernel_rfl) (by kernel_rfl) hs0 ?_
  refine cs_sub (s0) (sub_nil _) ?_
  refine cs_seq ?_
  refine cs_region (l := [_, _]) ?_
  refine ls_new rfl rfl (by kernel_rfl) 0 (fun g => .pointer (some ⟨g, 0, none⟩)) (.cells ⟨([Value.int .i64 (0 : Int)] ++ ([Value.int .i64 (0 : Int)] ++ ([Value.int .i64 (0 : Int)] ++ ([Value.int .u32 (0 : Int)] ++ en (Value.int .u8) (vrep 32 (0 : Int)).1))))⟩ 25) (fun w => by kernel_rfl) ?_
  intro g1
  refine ls_val (v := .int .i64 (0 : Int)) rfl rfl (by kernel_rfl) (fun w => by kernel_rfl) ?_
  refine ls_end ?_
  refine qn_then ?_
  refine cs_cut (fun f S => ∃ (fR : Fr), f = upd (upd fR 0 (.slice A0 l0.length c0)) 2 (.pointer (some ⟨g1, 0, none⟩)) ∧ S = sput s0 0 (some (Ck.var 25 g1 (([Value.int .i64 (0 : Int)] ++ ([Value.int .i64 (0 : Int)] ++ ([Value.int .i64 (0 : Int)] ++ ([Value.int .u32 (0 : Int)] ++ en (Value.int .u8) (vrep 32 (0 : Int)).1))))))) ∧ shadowboxref06_Read.jo1 k l0 = some r) ?_ ?_
  · skip
    refine cs_seq ?_
    refine cs_region (l := [_, _, _]) ?_
    refine ls_val (v := .slice A0 l0.length c0) rfl rfl (by kernel_rfl) (fun w => by kernel_rfl) ?_
    refine ls_val (v := .int .i64 (l0.length : Int)) rfl rfl (by kernel_rfl) (fun w => by kernel_rfl) ?_
    refine ls_val (v := .bool (decide ((l0.length : Int) < (52 : Int)))) rfl rfl (by kernel_rfl) (fun w => by kernel_rfl) ?_
    refine ls_end ?_
    refine qn_then ?_
    by_cases q76 : (l0.length : Int) < (52 : Int)
    · replace H := ite_t q76 H
      refine cs_know (c := true) (dec_t q76) 20 (by kernel_rfl) ?_
      refine cs_true (by kernel_rfl) ?_
      refine cs_seq ?_
      refine cs_region (l := [_, _, _]) ?_
      refine ls_build (ps := []) (pl := #[(0, 1), (1, 1), (2, 1), (3, 1), (4, 32)]) (zv := .agg ⟨([Value.int .i64 (0 : Int)] ++ ([Value.int .i64 (0 : Int)] ++ ([Value.int .i64 (0 : Int)] ++ ([Value.int .u32 (0 : Int)] ++ en (Value.int .u8) (vrep 32 (0 : Int)).1))))⟩) (zc := ([Value.int .i64 (0 : Int)] ++ ([Value.int .i64 (0 : Int)] ++ ([Value.int .i64 (0 : Int)] ++ ([Value.int .u32 (0 : Int)] ++ en (Value.int .u8) (vrep 32 (0 : Int)).1))))) (r := ([Value.int .i64 (0 : Int)] ++ ([Value.int .i64 (0 : Int)] ++ ([Value.int .i64 (0 : Int)] ++ ([Value.int .u32 (0 : Int)] ++ en (Value.int .u8) (vrep 32 (0 : Int)).1))))) rfl rfl (by kernel_rfl) rfl (by kernel_rfl) (by kernel_rfl) (fun w => by kernel_rfl) (fun w => by kernel_rfl) rfl fill_nil ?_
      refine ls_storec (g := g1) (off := 0) (v := .agg ⟨([Value.int .i64 (0 : Int)] ++ ([Value.int .i64 (0 : Int)] ++ ([Value.int .i64 (0 : Int)] ++ ([Value.int .u32 (0 : Int)] ++ en (Value.int .u8) (vrep 32 (0 : Int)).1))))⟩) (vs := ([Value.int .i64 (0 : Int)] ++ ([Value.int .i64 (0 : Int)] ++ ([Value.int .i64 (0 : Int)] ++ ([Value.int .u32 (0 : Int)] ++ en (Value.int .u8) (vrep 32 (0 : Int)).1))))) (cs := ([Value.int .i64 (0 : Int)] ++ ([Value.int .i64 (0 : Int)] ++ ([Value.int .i64 (0 : Int)] ++ ([Value.int .u32 (0 : Int)] ++ en (Value.int .u8) (vrep 32 (0 : Int)).1))))) (ty := 25) 0 rfl rfl rfl (by kernel_rfl) (by kernel_rfl) (by kernel_rfl) (by exact rfl) (by kernel_rfl) (len_app (len1 _) (len_app (len1 _) (len_app (len1 _) (len_app (len1 _) (len_en _ (vrep 32 (0 : Int))))))) (one_app (one_cons rfl one_nil) (one_app (one_cons rfl one_nil) (one_app (one_cons rfl one_nil) (one_app (one_cons rfl one_nil) (one_en (fun _ => rfl) _))))) (hl_of (Sub4.all _) (len_eq (len_app (len1 _) (len_app (len1 _) (len_app (len1 _) (len_app (len1 _) (len_en _ (vrep 32 (0 : Int))))))) (len_app (len1 _) (len_app (len1 _) (len_app (len1 _) (len_app (len1 _) (len_en _ (vrep 32 (0 : Int))))))))) (cs' := ([Value.int .i64 (0 : Int)] ++ ([Value.int .i64 (0 : Int)] ++ ([Value.int .i64 (0 : Int)] ++ ([Value.int .u32 (0 : Int)] ++ en (Value.int .u8) (vrep 32 (0 : Int)).1))))) (splc_all (len_eq (len_app (len1 _) (len_app (len1 _) (len_app (len1 _) (len_app (len1 _) (len_en _ (vrep 32 (0 : Int))))))) (len_app (len1 _) (len_app (len1 _) (len_app (len1 _) (len_app (len1 _) (len_en _ (vrep 32 (0 : Int))))))))) ?_
      refine ls_val (v := .int .i64 (10 : Int)) rfl rfl (by kernel_rfl) (fun w => by kernel_rfl) ?_
      refine ls_end ?_
      refine qn_then ?_
      refine cs_ret' ?_
      refine qr_then ?_
      obtain rfl := Option.some.inj H
      refine qr_res (rs := [_, _]) rfl (fun w' hs => ⟨[.agg ⟨([Value.int .i64 (0 : Int)] ++ ([Value.int .i64 (0 : Int)] ++ ([Value.int .i64 (0 : Int)] ++ ([Value.int .u32 (0 : Int)] ++ en (Value.int .u8) (vrep 32 (0 : Int)).1))))⟩, .int .i64 (10 : Int)], (.cell (by kernel_rfl) (run_cellres (by kernel_rfl) (by kernel_rfl) (len_app (len1 _) (len_app (len1 _) (len_app (len1 _) (len_app (len1 _) (len_en _ (vrep 32 (0 : Int))))))) (hs.holds 0 _ (by exact rfl))) (res_tmp (by kernel_rfl) (.nil))), (), rfl, hs.pick (ts := []) (cs := []) trivial (by decide)⟩)
    · replace H := ite_f q76 H
      refine cs_know (c := false) (dec_f q76) 20 (by kernel_rfl) ?_
      refine cs_false (by kernel_rfl) ?_
      refine cs_skip' ?_
      refine qn_meet (sput s0 0 (some (Ck.var 25 g1 (([Value.int .i64 (0 : Int)] ++ ([Value.int .i64 (0 : Int)] ++ ([Value.int .i64 (0 : Int)] ++ ([Value.int .u32 (0 : Int)] ++ en (Value.int .u8) (vrep 32 (0 : Int)).1)))))))) ⟨_, fr_next (fr_next (rfl) (by kernel_rfl)) (by kernel_rfl), rfl, H⟩ (sub_put (by exact rfl) (sub_nil _))
  · rintro f S ⟨fr1, rfl, rfl, H⟩
    replace H : ((if (4 : Int) ≤ (l0.length : Int) then lt (l0.take ((4 : Int)).toNat) fun xl7 => (shadowboxref01_Take.f k xl7 (4 : Int)).bind fun t12 => (if (8 : Int) ≤ (l0.length : Int) then (if (4 : Int) ≤ (8 : Int) then lt ((l0.take ((8 : Int)).toNat).drop ((4 : Int)).toNat) fun xl21 => (shadowboxref01_Take.f k xl21 (4 : Int)).bind fun t26 => (if (16 : Int) ≤ (l0.length : Int) then (if (8 : Int) ≤ (16 : Int) then lt ((l0.take ((16 : Int)).toNat).drop ((8 : Int)).toNat) fun xl35 => (shadowboxref01_Take.f k xl35 (8 : Int)).bind fun t40 => (if (20 : Int) ≤ (l0.length : Int) then (if (16 : Int) ≤ (20 : Int) then lt ((l0.take ((20 : Int)).toNat).drop ((16 : Int)).toNat) fun xl49 => (shadowboxref01_Take.f k xl49 (4 : Int)).bind fun t54 => shadowboxref06_Read.lo2 l0 k (0 : Int) (IntKind.wrap .i64 t12.1, IntKind.wrap .i64 t40.1, IntKind.wrap .i64 t26.1, IntKind.wrap .u32 t54.1, (vrep 32 (0 : Int))) else none) else none) else none) else none) else none) else none) else none)) = some r := H
    refine cs_seq ?_
    refine cs_region (l := [_, _, _, _, _, _, _, _, _, _]) ?_
    refine ls_val (v := .slice A0 l0.length c0) rfl rfl (by kernel_rfl) (fun w => by kernel_rfl) ?_
    obtain ⟨q2, H⟩ := ite_need H
    obtain ⟨xl7, hy8, H⟩ := lt_some H
    have hz10 : 0 ≤ ((4 : Int)).toNat := by omega
    have hz11 : ((4 : Int)).toNat ≤ l0.length := by omega
    obtain ⟨xA3, xc4, he9, xC6, xR5⟩ := cut_at (A := A0) (c := c0) (l := l0) (Ec.int 5 .u8) 0 (((4 : Int)).toNat) hz10 hz11 C0 R0 (m := xl7) (by rw [← hy8] <;> simp) (z := 1) rfl
    refine ls_cutv (A := A0) (c := c0) (m := l0.length) (z := 1) (e := 5) (a := 0) (b := ((4 : Int)).toNat) rfl rfl (by kernel_rfl) rfl (by kernel_rfl) (by kernel_rfl) (by kernel_rfl) (.inl ⟨rfl, rfl⟩) (.inr ⟨.i64, by rw [Int.toNat_of_nonneg (by first | assumption | omega)]; kernel_rfl⟩) hz10 hz11 C0 he9 ?_
    obtain ⟨t12, hc13, H⟩ := bind_some H
    refine ls_callb (fid := 32) (vals := #[.slice xA3 xl7.length xc4, .int .i64 (4 : Int)]) (X := (Option Addr × Nat)) (fun x => .tuple #[.int .u64 t12.1, .slice x.1 t12.2.1.length x.2, .bool t12.2.2]) (fun x => stl [Ck.sl (Ec.int 5 .u8) x.1 x.2 t12.2.1]) [] [] [] [] 1 rfl rfl (by kernel_rfl) (fun w => by kernel_rfl) trivial trivial (by decide) (fun w hs hb => shadowboxref01_Take.calls k xA3 xc4 xl7 (4 : Int) t12 (lent b w [] []) hb (hs.ro xR5 _ _) xC6 hc13) ?_
    intro x14
    refine ls_val (v := .tuple #[.int .u64 t12.1, .slice x14.1 t12.2.1.length x14.2, .bool t12.2.2]) rfl rfl (by kernel_rfl) (fun w => by kernel_rfl) ?_
    refine ls_val (v := .int .u64 t12.1) rfl rfl (by kernel_rfl) (fun w => by kernel_rfl) ?_
    refine ls_val (v := .slice x14.1 t12.2.1.length x14.2) rfl rfl (by kernel_rfl) (fun w => by kernel_rfl) ?_
    refine ls_val (v := .bool t12.2.2) rfl rfl (by kernel_rfl) (fun w => by kernel_rfl) ?_
    refine ls_val (v := .int .u64 t12.1) rfl rfl (by kernel_rfl) (fun w => by kernel_rfl) ?_
    refine ls_val (v := .slice x14.1 t12.2.1.length x14.2) rfl rfl (by kernel_rfl) (fun w => by kernel_rfl) ?_
    refine ls_val (v := .bool t12.2.2) rfl rfl (by kernel_rfl) (fun w => by kernel_rfl) ?_
    refine ls_end ?_
    refine qn_then ?_
    refine cs_seq ?_
    refine cs_region (l := [_, _, _, _, _, _, _, _, _, _]) ?_
    refine ls_val (v := .slice A0 l0.length c0) rfl rfl (by kernel_rfl) (fun w => by kernel_rfl) ?_
    obtain ⟨q15, H⟩ := ite_need H
    obtain ⟨q16, H⟩ := ite_need H
    obtain ⟨xl21, hy22, H⟩ := lt_some H
    have hz24 : ((4 : Int)).toNat ≤ ((8 : Int)).toNat := by omega
    have hz25 : ((8 : Int)).toNat ≤ l0.length := by omega
    obtain ⟨xA17, xc18, he23, xC20, xR19⟩ := cut_at (A := A0) (c := c0) (l := l0) (Ec.int 5 .u8) (((4 : Int)).toNat) (((8 : Int)).toNat) hz24 hz25 C0 R0 (m := xl21) (by rw [← hy22] <;> simp) (z := 1) rfl
    refine ls_cutv (A := A0) (c := c0) (m := l0.length) (z := 1) (e := 5) (a := ((4 : Int)).toNat) (b := ((8 : Int)).toNat) rfl rfl (by kernel_rfl) rfl (by kernel_rfl) (by kernel_rfl) (by kernel_rfl) (.inr ⟨.i64, by rw [Int.toNat_of_nonneg (by first | assumption | omega)]; kernel_rfl⟩) (.inr ⟨.i64, by rw [Int.toNat_of_nonneg (by first | assumption | omega)]; kernel_rfl⟩) hz24 hz25 C0 he23 ?_
    obtain ⟨t26, hc27, H⟩ := bind_some H
    refine ls_callb (fid := 32) (vals := #[.slice xA17 xl21.length xc18, .int .i64 (4 : Int)]) (X := (Option Addr × Nat)) (fun x => .tuple #[.int .u64 t26.1, .slice x.1 t26.2.1.length x.2, .bool t26.2.2]) (fun x => stl [Ck.sl (Ec.int 5 .u8) x.1 x.2 t26.2.1]) [] [] [] [] 2 rfl rfl (by kernel_rfl) (fun w => by kernel_rfl) trivial trivial (by decide) (fun w hs hb => shadowboxref01_Take.calls k xA17 xc18 xl21 (4 : Int) t26 (lent b w [] []) hb (hs.ro xR19 _ _) xC20 hc27) ?_
    intro x28
    refine ls_val (v := .tuple #[.int .u64 t26.1, .slice x28.1 t26.2.1.length x28.2, .bool t26.2.2]) rfl rfl (by kernel_rfl) (fun w => by kernel_rfl) ?_
    refine ls_val (v := .int .u64 t26.1) rfl rfl (by kernel_rfl) (fun w => by kernel_rfl) ?_
    refine ls_val (v := .slice x28.1 t26.2.1.length x28.2) rfl rfl (by kernel_rfl) (fun w => by kernel_rfl) ?_
    refine ls_val (v := .bool t26.2.2) rfl rfl (by kernel_rfl) (fun w => by kernel_rfl) ?_
    refine ls_val (v := .int .u64 t26.1) rfl rfl (by kernel_rfl) (fun w => by kernel_rfl) ?_
    refine ls_val (v := .slice x28.1 t26.2.1.length x28.2) rfl rfl (by kernel_rfl) (fun w => by kernel_rfl) ?_
    refine ls_val (v := .bool t26.2.2) rfl rfl (by kernel_rfl) (fun w => by kernel_rfl) ?_
    refine ls_end ?_
    refine qn_then ?_
    refine cs_seq ?_
    refine cs_region (l := [_, _, _, _, _, _, _, _, _, _]) ?_
    refine ls_val (v := .slice A0 l0.length c0) rfl rfl (by kernel_rfl) (fun w => by kernel_rfl) ?_
    obtain ⟨q29, H⟩ := ite_need H
    obtain ⟨q30, H⟩ := ite_need H
    obtain ⟨xl35, hy36, H⟩ := lt_some H
    have hz38 : ((8 : Int)).toNat ≤ ((16 : Int)).toNat := by omega
    have hz39 : ((16 : Int)).toNat ≤ l0.length := by omega
    obtain ⟨xA31, xc32, he37, xC34, xR33⟩ := cut_at (A := A0) (c := c0) (l := l0) (Ec.int 5 .u8) (((8 : Int)).toNat) (((16 : Int)).toNat) hz38 hz39 C0 R0 (m := xl35) (by rw [← hy36] <;> simp) (z := 1) rfl
    refine ls_cutv (A := A0) (c := c0) (m := l0.length) (z := 1) (e := 5) (a := ((8 : Int)).toNat) (b := ((16 : Int)).toNat) rfl rfl (by kernel_rfl) rfl (by kernel_rfl) (by kernel_rfl) (by kernel_rfl) (.inr ⟨.i64, by rw [Int.toNat_of_nonneg (by first | assumption | omega)]; kernel_rfl⟩) (.inr ⟨.i64, by rw [Int.toNat_of_nonneg (by first | assumption | omega)]; kernel_rfl⟩) hz38 hz39 C0 he37 ?_
    obtain ⟨t40, hc41, H⟩ := bind_some H
    refine ls_callb (fid := 32) (vals := #[.slice xA31 xl35.length xc32, .int .i64 (8 : Int)]) (X := (Option Addr × Nat)) (fun x => .tuple #[.int .u64 t40.1, .slice x.1 t40.2.1.length x.2, .bool t40.2.2]) (fun x => stl [Ck.sl (Ec.int 5 .u8) x.1 x.2 t40.2.1]) [] [] [] [] 3 rfl rfl (by kernel_rfl) (fun w => by kernel_rfl) trivial trivial (by decide) (fun w hs hb => shadowboxref01_Take.calls k xA31 xc32 xl35 (8 : Int) t40 (lent b w [] []) hb (hs.ro xR33 _ _) xC34 hc41) ?_
    intro x42
    refine ls_val (v := .tuple #[.int .u64 t40.1, .slice x42.1 t40.2.1.length x42.2, .bool t40.2.2]) rfl rfl (by kernel_rfl) (fun w => by kernel_rfl) ?_
    refine ls_val (v := .int .u64 t40.1) rfl rfl (by kernel_rfl) (fun w => by kernel_rfl) ?_
    refine ls_val (v := .slice x42.1 t40.2.1.length x42.2) rfl rfl (by kernel_rfl) (fun w => by kernel_rfl) ?_
    refine ls_val (v := .bool t40.2.2) rfl rfl (by kernel_rfl) (fun w => by kernel_rfl) ?_
    refine ls_val (v := .int .u64 t40.1) rfl rfl (by kernel_rfl) (fun w => by kernel_rfl) ?_
    refine ls_val (v := .slice x42.1 t40.2.1.length x42.2) rfl rfl (by kernel_rfl) (fun w => by kernel_rfl) ?_
    refine ls_val (v := .bool t40.2.2) rfl rfl (by kernel_rfl) (fun w => by kernel_rfl) ?_
    refine ls_end ?_
    refine qn_then ?_
    refine cs_seq ?_
    refine cs_region (l := [_, _, _, _, _, _, _, _, _, _]) ?_
    refine ls_val (v := .slice A0 l0.length c0) rfl rfl (by kernel_rfl) (fun w => by kernel_rfl) ?_
    obtain ⟨q43, H⟩ := ite_need H
    obtain ⟨q44, H⟩ := ite_need H
    obtain ⟨xl49, hy50, H⟩ := lt_some H
    have hz52 : ((16 : Int)).toNat ≤ ((20 : Int)).toNat := by omega
    have hz53 : ((20 : Int)).toNat ≤ l0.length := by omega
    obtain ⟨xA45, xc46, he51, xC48, xR47⟩ := cut_at (A := A0) (c := c0) (l := l0) (Ec.int 5 .u8) (((16 : Int)).toNat) (((20 : Int)).toNat) hz52 hz53 C0 R0 (m := xl49) (by rw [← hy50] <;> simp) (z := 1) rfl
    refine ls_cutv (A := A0) (c := c0) (m := l0.length) (z := 1) (e := 5) (a := ((16 : Int)).toNat) (b := ((20 : Int)).toNat) rfl rfl (by kernel_rfl) rfl (by kernel_rfl) (by kernel_rfl) (by kernel_rfl) (.inr ⟨.i64, by rw [Int.toNat_of_nonneg (by first | assumption | omega)]; kernel_rfl⟩) (.inr ⟨.i64, by rw [Int.toNat_of_nonneg (by first | assumption | omega)]; kernel_rfl⟩) hz52 hz53 C0 he51 ?_
    obtain ⟨t54, hc55, H⟩ := bind_some H
    refine ls_callb (fid := 32) (vals := #[.slice xA45 xl49.length xc46, .int .i64 (4 : Int)]) (X := (Option Addr × Nat)) (fun x => .tuple #[.int .u64 t54.1, .slice x.1 t54.2.1.length x.2, .bool t54.2.2]) (fun x => stl [Ck.sl (Ec.int 5 .u8) x.1 x.2 t54.2.1]) [] [] [] [] 4 rfl rfl (by kernel_rfl) (fun w => by kernel_rfl) trivial trivial (by decide) (fun w hs hb => shadowboxref01_Take.calls k xA45 xc46 xl49 (4 : Int) t54 (lent b w [] []) hb (hs.ro xR47 _ _) xC48 hc55) ?_
    intro x56
    refine ls_val (v := .tuple #[.int .u64 t54.1, .slice x56.1 t54.2.1.length x56.2, .bool t54.2.2]) rfl rfl (by kernel_rfl) (fun w => by kernel_rfl) ?_
    refine ls_val (v := .int .u64 t54.1) rfl rfl (by kernel_rfl) (fun w => by kernel_rfl) ?_
    refine ls_val (v := .slice x56.1 t54.2.1.length x56.2) rfl rfl (by kernel_rfl) (fun w => by kernel_rfl) ?_
    refine ls_val (v := .bool t54.2.2) rfl rfl (by kernel_rfl) (fun w => by kernel_rfl) ?_
    refine ls_val (v := .int .u64 t54.1) rfl rfl (by kernel_rfl) (fun w => by kernel_rfl) ?_
    refine ls_val (v := .slice x56.1 t54.2.1.length x56.2) rfl rfl (by kernel_rfl) (fun w => by kernel_rfl) ?_
    refine ls_val (v := .bool t54.2.2) rfl rfl (by kernel_rfl) (fun w => by kernel_rfl) ?_
    refine ls_end ?_
    refine qn_then ?_
    refine cs_seq ?_
    refine cs_region (l := [_, _, _, _, _, _, _, _, _, _, _]) ?_
    refine ls_val (v := .int .u64 t12.1) rfl rfl (by kernel_rfl) (fun w => by kernel_rfl) ?_
    refine ls_val (v := .int .i64 (IntKind.wrap .i64 t12.1)) rfl rfl (by kernel_rfl) (fun w => by kernel_rfl) ?_
    refine ls_val (v := .int .u64 t26.1) rfl rfl (by kernel_rfl) (fun w => by kernel_rfl) ?_
    refine ls_val (v := .int .i64 (IntKind.wrap .i64 t26.1)) rfl rfl (by kernel_rfl) (fun w => by kernel_rfl) ?_
    refine ls_val (v := .int .u64 t40.1) rfl rfl (by kernel_rfl) (fun w => by kernel_rfl) ?_
    refine ls_val (v := .int .i64 (IntKind.wrap .i64 t40.1)) rfl rfl (by kernel_rfl) (fun w => by kernel_rfl) ?_
    refine ls_val (v := .int .u64 t54.1) rfl rfl (by kernel_rfl) (fun w => by kernel_rfl) ?_
    refine ls_val (v := .int .u32 (IntKind.wrap .u32 t54.1)) rfl rfl (by kernel_rfl) (fun w => by kernel_rfl) ?_
    refine ls_build (ps := [(0, .int .i64 (IntKind.wrap .i64 t12.1)), (2, .int .i64 (IntKind.wrap .i64 t26.1)), (1, .int .i64 (IntKind.wrap .i64 t40.1)), (3, .int .u32 (IntKind.wrap .u32 t54.1))]) (pl := #[(0, 1), (1, 1), (2, 1), (3, 1), (4, 32)]) (zv := .agg ⟨([Value.int .i64 (0 : Int)] ++ ([Value.int .i64 (0 : Int)] ++ ([Value.int .i64 (0 : Int)] ++ ([Value.int .u32 (0 : Int)] ++ en (Value.int .u8) (vrep 32 (0 : Int)).1))))⟩) (zc := ([Value.int .i64 (0 : Int)] ++ ([Value.int .i64 (0 : Int)] ++ ([Value.int .i64 (0 : Int)] ++ ([Value.int .u32 (0 : Int)] ++ en (Value.int .u8) (vrep 32 (0 : Int)).1))))) (r := ([Value.int .i64 (IntKind.wrap .i64 t12.1)] ++ ([Value.int .i64 (IntKind.wrap .i64 t40.1)] ++ ([Value.int .i64 (IntKind.wrap .i64 t26.1)] ++ ([Value.int .u32 (IntKind.wrap .u32 t54.1)] ++ en (Value.int .u8) (vrep 32 (0 : Int)).1))))) rfl rfl (by kernel_rfl) rfl (by kernel_rfl) (by kernel_rfl) (fun w => by kernel_rfl) (fun w => by kernel_rfl) rfl (fill_cons (vs := [Value.int .i64 (IntKind.wrap .i64 t12.1)]) (cs' := ([Value.int .i64 (IntKind.wrap .i64 t12.1)] ++ ([Value.int .i64 (0 : Int)] ++ ([Value.int .i64 (0 : Int)] ++ ([Value.int .u32 (0 : Int)] ++ en (Value.int .u8) (vrep 32 (0 : Int)).1))))) (off := 0) (size := 1) rfl (by kernel_rfl) (len1 _) (le_of_len (len_app (len1 _) (len_app (len1 _) (len_app (len1 _) (len_app (len1 _) (len_en _ (vrep 32 (0 : Int))))))) (by decide)) (splc_in (Sub4.all _) (splc_head (len_eq (len1 _) (len1 _))) (splc_all (len_eq (len_app (len1 _) (len_app (len1 _) (len_app (len1 _) (len_app (len1 _) (len_en _ (vrep 32 (0 : Int))))))) (len_app (len1 _) (len_app (len1 _) (len_app (len1 _) (len_app (len1 _) (len_en _ (vrep 32 (0 : Int))))))))) (hl_of (Sub4.head _ _) (len_eq (len1 _) (len1 _)))) (fill_cons (vs := [Value.int .i64 (IntKind.wrap .i64 t26.1)]) (cs' := ([Value.int .i64 (IntKind.wrap .i64 t12.1)] ++ ([Value.int .i64 (0 : Int)] ++ ([Value.int .i64 (IntKind.wrap .i64 t26.1)] ++ ([Value.int .u32 (0 : Int)] ++ en (Value.int .u8) (vrep 32 (0 : Int)).1))))) (off := 2) (size := 1) rfl (by kernel_rfl) (len1 _) (le_of_len (len_app (len1 _) (len_app (len1 _) (len_app (len1 _) (len_app (len1 _) (len_en _ (vrep 32 (0 : Int))))))) (by decide)) (splc_in (Sub4.all _) (splc_skip (n := 1) (len1 _) (splc_skip (n := 1) (len1 _) (splc_head (len_eq (len1 _) (len1 _))))) (splc_all (len_eq (len_app (len1 _) (len_app (len1 _) (len_app (len1 _) (len_app (len1 _) (len_en _ (vrep 32 (0 : Int))))))) (len_app (len1 _) (len_app (len1 _) (len_app (len1 _) (len_app (len1 _) (len_en _ (vrep 32 (0 : Int))))))))) (hl_of (Sub4.skip (n := 1) (len1 _) (Sub4.skip (n := 1) (len1 _) (Sub4.head _ _))) (len_eq (len1 _) (len1 _)))) (fill_cons (vs := [Value.int .i64 (IntKind.wrap .i64 t40.1)]) (cs' := ([Value.int .i64 (IntKind.wrap .i64 t12.1)] ++ ([Value.int .i64 (IntKind.wrap .i64 t40.1)] ++ ([Value.int .i64 (IntKind.wrap .i64 t26.1)] ++ ([Value.int .u32 (0 : Int)] ++ en (Value.int .u8) (vrep 32 (0 : Int)).1))))) (off := 1) (size := 1) rfl (by kernel_rfl) (len1 _) (le_of_len (len_app (len1 _) (len_app (len1 _) (len_app (len1 _) (len_app (len1 _) (len_en _ (vrep 32 (0 : Int))))))) (by decide)) (splc_in (Sub4.all _) (splc_skip (n := 1) (len1 _) (splc_head (len_eq (len1 _) (len1 _)))) (splc_all (len_eq (len_app (len1 _) (len_app (len1 _) (len_app (len1 _) (len_app (len1 _) (len_en _ (vrep 32 (0 : Int))))))) (len_app (len1 _) (len_app (len1 _) (len_app (len1 _) (len_app (len1 _) (len_en _ (vrep 32 (0 : Int))))))))) (hl_of (Sub4.skip (n := 1) (len1 _) (Sub4.head _ _)) (len_eq (len1 _) (len1 _)))) (fill_cons (vs := [Value.int .u32 (IntKind.wrap .u32 t54.1)]) (cs' := ([Value.int .i64 (IntKind.wrap .i64 t12.1)] ++ ([Value.int .i64 (IntKind.wrap .i64 t40.1)] ++ ([Value.int .i64 (IntKind.wrap .i64 t26.1)] ++ ([Value.int .u32 (IntKind.wrap .u32 t54.1)] ++ en (Value.int .u8) (vrep 32 (0 : Int)).1))))) (off := 3) (size := 1) rfl (by kernel_rfl) (len1 _) (le_of_len (len_app (len1 _) (len_app (len1 _) (len_app (len1 _) (len_app (len1 _) (len_en _ (vrep 32 (0 : Int))))))) (by decide)) (splc_in (Sub4.all _) (splc_skip (n := 1) (len1 _) (splc_skip (n := 1) (len1 _) (splc_skip (n := 1) (len1 _) (splc_head (len_eq (len1 _) (len1 _)))))) (splc_all (len_eq (len_app (len1 _) (len_app (len1 _) (len_app (len1 _) (len_app (len1 _) (len_en _ (vrep 32 (0 : Int))))))) (len_app (len1 _) (len_app (len1 _) (len_app (len1 _) (len_app (len1 _) (len_en _ (vrep 32 (0 : Int))))))))) (hl_of (Sub4.skip (n := 1) (len1 _) (Sub4.skip (n := 1) (len1 _) (Sub4.skip (n := 1) (len1 _) (Sub4.head _ _)))) (len_eq (len1 _) (len1 _)))) fill_nil)))) ?_
    refine ls_new rfl rfl (by kernel_rfl) 5 (fun g => .pointer (some ⟨g, 0, none⟩)) (.cells ⟨([Value.int .i64 (0 : Int)] ++ ([Value.int .i64 (0 : Int)] ++ ([Value.int .i64 (0 : Int)] ++ ([Value.int .u32 (0 : Int)] ++ en (Value.int .u8) (vrep 32 (0 : Int)).1))))⟩ 25) (fun w => by kernel_rfl) ?_
    intro g57
    refine ls_storec (g := g57) (off := 0) (v := .agg ⟨([Value.int .i64 (IntKind.wrap .i64 t12.1)] ++ ([Value.int .i64 (IntKind.wrap .i64 t40.1)] ++ ([Value.int .i64 (IntKind.wrap .i64 t26.1)] ++ ([Value.int .u32 (IntKind.wrap .u32 t54.1)] ++ en (Value.int .u8) (vrep 32 (0 : Int)).1))))⟩) (vs := ([Value.int .i64 (IntKind.wrap .i64 t12.1)] ++ ([Value.int .i64 (IntKind.wrap .i64 t40.1)] ++ ([Value.int .i64 (IntKind.wrap .i64 t26.1)] ++ ([Value.int .u32 (IntKind.wrap .u32 t54.1)] ++ en (Value.int .u8) (vrep 32 (0 : Int)).1))))) (cs := ([Value.int .i64 (0 : Int)] ++ ([Value.int .i64 (0 : Int)] ++ ([Value.int .i64 (0 : Int)] ++ ([Value.int .u32 (0 : Int)] ++ en (Value.int .u8) (vrep 32 (0 : Int)).1))))) (ty := 25) 5 rfl rfl rfl (by kernel_rfl) (by kernel_rfl) (by kernel_rfl) (by exact rfl) (by kernel_rfl) (len_app (len1 _) (len_app (len1 _) (len_app (len1 _) (len_app (len1 _) (len_en _ (vrep 32 (0 : Int))))))) (one_app (one_cons rfl one_nil) (one_app (one_cons rfl one_nil) (one_app (one_cons rfl one_nil) (one_app (one_cons rfl one_nil) (one_en (fun _ => rfl) _))))) (hl_of (Sub4.all _) (len_eq (len_app (len1 _) (len_app (len1 _) (len_app (len1 _) (len_app (len1 _) (len_en _ (vrep 32 (0 : Int))))))) (len_app (len1 _) (len_app (len1 _) (len_app (len1 _) (len_app (len1 _) (len_en _ (vrep 32 (0 : Int))))))))) (cs' := ([Value.int .i64 (IntKind.wrap .i64 t12.1)] ++ ([Value.int .i64 (IntKind.wrap .i64 t40.1)] ++ ([Value.int .i64 (IntKind.wrap .i64 t26.1)] ++ ([Value.int .u32 (IntKind.wrap .u32 t54.1)] ++ en (Value.int .u8) (vrep 32 (0 : Int)).1))))) (splc_all (len_eq (len_app (len1 _) (len_app (len1 _) (len_app (len1 _) (len_app (len1 _) (len_en _ (vrep 32 (0 : Int))))))) (len_app (len1 _) (len_app (len1 _) (len_app (len1 _) (len_app (len1 _) (len_en _ (vrep 32 (0 : Int))))))))) ?_
    refine ls_end ?_
    refine qn_then ?_
    refine cs_seq ?_
    refine cs_seq ?_
    refine cs_region (l := [_]) ?_
    refine ls_val (v := .int .i64 (0 : Int)) rfl rfl (by kernel_rfl) (fun w => by kernel_rfl) ?_
    refine ls_end ?_
    refine qn_then ?_
    refine cs_block ?_
    refine cs_sub (sput (sput s0 0 (some (Ck.var 25 g1 (([Value.int .i64 (0 : Int)] ++ ([Value.int .i64 (0 : Int)] ++ ([Value.int .i64 (0 : Int)] ++ ([Value.int .u32 (0 : Int)] ++ en (Value.int .u8) (vrep 32 (0 : Int)).1)))))))) 5 (some (Ck.var 25 g57 (([Value.int .i64 (IntKind.wrap .i64 t12.1)] ++ ([Value.int .i64 (IntKind.wrap .i64 t40.1)] ++ ([Value.int .i64 (IntKind.wrap .i64 t26.1)] ++ ([Value.int .u32 (IntKind.wrap .u32 t54.1)] ++ en (Value.int .u8) (vrep 32 (0 : Int)).1)))))))) (sub_put (by exact rfl) (sub_put (by exact rfl) (sub_nil _))) ?_
    refine cs_loop (fun kk f S => ∃ (fR : Fr) (x17_2 : Int) (m5_2 : (Int × Int × Int × Int × (Vc Int 32))), f = upd (upd (upd (upd fR 0 (.slice A0 l0.length c0)) 2 (.pointer (some ⟨g1, 0, none⟩))) 16 (.pointer (some ⟨g57, 0, none⟩))) 17 (.int .i64 x17_2) ∧ S = sput (sput s0 0 (some (Ck.var 25 g1 (([Value.int .i64 (0 : Int)] ++ ([Value.int .i64 (0 : Int)] ++ ([Value.int .i64 (0 : Int)] ++ ([Value.int .u32 (0 : Int)] ++ en (Value.int .u8) (vrep 32 (0 : Int)).1)))))))) 5 (some (Ck.var 25 g57 (([Value.int .i64 m5_2.1] ++ ([Value.int .i64 m5_2.2.1] ++ ([Value.int .i64 m5_2.2.2.1] ++ ([Value.int .u32 m5_2.2.2.2.1] ++ en (Value.int .u8) m5_2.2.2.2.2.1))))))) ∧ shadowboxref06_Read.lo2 l0 kk x17_2 m5_2 = some r) k ?_ ?_ ?_
    · exact ⟨_, (0 : Int), (IntKind.wrap .i64 t12.1, IntKind.wrap .i64 t40.1, IntKind.wrap .i64 t26.1, IntKind.wrap .u32 t54.1, (vrep 32 (0 : Int))), fr_next (fr_next (fr_next (fr_next (rfl) (by kernel_rfl)) (by kernel_rfl)) (by kernel_rfl)) (by kernel_rfl), rfl, H⟩
    · rintro f S ⟨fr2, x17_2, m5_2, rfl, rfl, H⟩; cases H
    · rintro k2 f S ⟨fr2, x17_2, m5_2, rfl, rfl, H⟩
      replace H : ((if x17_2 < (32 : Int) then (if 0 ≤ IntKind.wrap .i64 ((20 : Int) + x17_2) then (if IntKind.wrap .i64 ((20 : Int) + x17_2) < (l0.length : Int) then lt (((l0).getD (IntKind.wrap .i64 ((20 : Int) + x17_2)).toNat (0 : Int))) fun y63 => (if 0 ≤ x17_2 then lt (vset m5_2.2.2.2.2 (x17_2).toNat y63) fun y66 => (shadowboxref06_Read.lo2 l0 k2) (IntKind.wrap .i64 (x17_2 + (1 : Int))) (m5_2.1, m5_2.2.1, m5_2.2.2.1, m5_2.2.2.2.1, y66) else none) else none) else none) else (shadowboxref06_None.f k2 m5_2).bind fun t68 => (if t68 = true then some (m5_2, (0 : Int)) else (shadowboxref06_Right.f k2 m5_2).bind fun t72 => (if t72 = true then some (m5_2, (0 : Int)) else some (((0 : Int), (0 : Int), (0 : Int), (0 : Int), (vrep 32 (0 : Int))), (11 : Int)))))) = some r := H
      refine cs_seq ?_
      refine cs_seq ?_
      refine cs_region (l := [_, _]) ?_
      refine ls_val (v := .int .i64 x17_2) rfl rfl (by kernel_rfl) (fun w => by kernel_rfl) ?_
      refine ls_val (v := .bool (decide (x17_2 < (32 : Int)))) rfl rfl (by kernel_rfl) (fun w => by kernel_rfl) ?_
      refine ls_end ?_
      refine qn_then ?_
      by_cases q58 : x17_2 < (32 : Int)
      · replace H := ite_t q58 H
        refine cs_know (c := true) (dec_t q58) 60 (by kernel_rfl) ?_
        refine cs_true (by kernel_rfl) ?_
        refine cs_skip' ?_
        refine qn_then ?_
        refine cs_seq ?_
        refine cs_block ?_
        refine cs_region (l := [_, _, _, _, _, _, _, _, _]) ?_
        refine ls_val (v := .int .i64 x17_2) rfl rfl (by kernel_rfl) (fun w => by kernel_rfl) ?_
        refine ls_val (v := .slice A0 l0.length c0) rfl rfl (by kernel_rfl) (fun w => by kernel_rfl) ?_
        refine ls_val (v := .int .i64 x17_2) rfl rfl (by kernel_rfl) (fun w => by kernel_rfl) ?_
        refine ls_val (v := .int .i64 (IntKind.wrap .i64 ((20 : Int) + x17_2))) rfl rfl (by kernel_rfl) (fun w => by kernel_rfl) ?_
        obtain ⟨q59, H⟩ := ite_need H
        obtain ⟨q60, H⟩ := ite_need H
        obtain ⟨ad61, hA62⟩ := ido_at (T := (Ec.int 5 .u8)) (l := l0) (i := IntKind.wrap .i64 ((20 : Int) + x17_2)) R0 q59 q60
        refine ls_idxv (Ec.int 5 .u8) (A := A0) (c := c0) (l := l0) (k := .i64) (i := IntKind.wrap .i64 ((20 : Int) + x17_2)) (z := 1) (ad := ad61) rfl rfl (by kernel_rfl) hA62 rfl (by kernel_rfl) (by kernel_rfl) (by kernel_rfl) (by kernel_rfl) q59 q60 ?_
        obtain ⟨y63, hy64, H⟩ := lt_some H
        refine ls_load (a0 := (ad61.add ((IntKind.wrap .i64 ((20 : Int) + x17_2)).toNat * 1))) (v := .int .u8 ((l0).getD (IntKind.wrap .i64 ((20 : Int) + x17_2)).toNat (0 : Int))) (de := (TypeDesc.int .u8)) rfl rfl (by kernel_rfl) rfl (by kernel_rfl) (by kernel_rfl) (by kernel_rfl) (fun w hs => (hs.old R0).at hA62 (em_sub (Ec.int 5 .u8) l0 (i := (IntKind.wrap .i64 ((20 : Int) + x17_2)).toNat) (by have h0 : (0 : Int) ≤ IntKind.wrap .i64 ((20 : Int) + x17_2) := q59; have h1 : IntKind.wrap .i64 ((20 : Int) + x17_2) < (l0.length : Int) := q60; omega))) ?_
        refine ls_ren 68 (v := .int .u8 ((l0).getD (IntKind.wrap .i64 ((20 : Int) + x17_2)).toNat (0 : Int))) (v' := .int .u8 y63) (by kernel_rfl) (by rw [hy64]) ?_
        refine ls_val (v := .pointer (some ⟨g57, (0 + 4), none⟩)) rfl rfl (by kernel_rfl) (fun w => by kernel_rfl) ?_
        obtain ⟨q65, H⟩ := ite_need H
        refine ls_idxa1 (g := g57) (off := (0 + 4)) (i := x17_2) (kk := .i64) (ln := 32) (e := 5) rfl rfl (by kernel_rfl) rfl (by kernel_rfl) (by kernel_rfl) (by kernel_rfl) (by kernel_rfl) q65 q58 ?_
        obtain ⟨y66, hy67, H⟩ := lt_some H
        refine ls_storec (g := g57) (off := ((0 + 4) + (x17_2).toNat)) (v := .int .u8 y63) (vs := [Value.int .u8 y63]) (cs := ([Value.int .i64 m5_2.1] ++ ([Value.int .i64 m5_2.2.1] ++ ([Value.int .i64 m5_2.2.2.1] ++ ([Value.int .u32 m5_2.2.2.2.1] ++ en (Value.int .u8) m5_2.2.2.2.2.1))))) (ty := 25) 5 rfl rfl rfl (by kernel_rfl) (by kernel_rfl) (by kernel_rfl) (by exact rfl) (by kernel_rfl) (len1 _) (one_cons rfl one_nil) (hl_of (Sub4.trans (Sub4.trans (Sub4.all _) (Sub4.skip (n := 1) (len1 _) (Sub4.skip (n := 1) (len1 _) (Sub4.skip (n := 1) (len1 _) (Sub4.skip (n := 1) (len1 _) (Sub4.all _)))))) (Sub4.one (Value.int .u8) m5_2.2.2.2.2.1 0 (by have := m5_2.2.2.2.2.2; omega))) (len_eq (len1 _) (len1 _))) (cs' := ([Value.int .i64 m5_2.1] ++ ([Value.int .i64 m5_2.2.1] ++ ([Value.int .i64 m5_2.2.2.1] ++ ([Value.int .u32 m5_2.2.2.2.1] ++ en (Value.int .u8) y66.1))))) (splc_in (Sub4.trans (Sub4.all _) (Sub4.skip (n := 1) (len1 _) (Sub4.skip (n := 1) (len1 _) (Sub4.skip (n := 1) (len1 _) (Sub4.skip (n := 1) (len1 _) (Sub4.all _)))))) ((splc_one (Value.int .u8) m5_2.2.2.2.2.1 y63 (by have := m5_2.2.2.2.2.2; omega)).trans (congrArg (fun z : (Vc Int 32) => en (Value.int .u8) z.1) hy67)) (splc_in (Sub4.all _) (splc_skip (n := 1) (len1 _) (splc_skip (n := 1) (len1 _) (splc_skip (n := 1) (len1 _) (splc_skip (n := 1) (len1 _) (splc_all (len_eq (len_en _ y66) (len_en _ m5_2.2.2.2.2))))))) (splc_all (len_eq (len_app (len1 _) (len_app (len1 _) (len_app (len1 _) (len_app (len1 _) (len_en _ y66))))) (len_app (len1 _) (len_app (len1 _) (len_app (len1 _) (len_app (len1 _) (len_en _ m5_2.2.2.2.2))))))) (hl_of (Sub4.skip (n := 1) (len1 _) (Sub4.skip (n := 1) (len1 _) (Sub4.skip (n := 1) (len1 _) (Sub4.skip (n := 1) (len1 _) (Sub4.all _))))) (len_eq (len_en _ y66) (len_en _ m5_2.2.2.2.2)))) (hl_of (Sub4.one (Value.int .u8) m5_2.2.2.2.2.1 0 (by have := m5_2.2.2.2.2.2; omega)) (len_eq (len1 _) (len1 _)))) ?_
        refine ls_end ?_
        refine qn_block ?_
        refine qn_then ?_
        refine cs_region (l := [_, _, _]) ?_
        refine ls_val (v := .int .i64 x17_2) rfl rfl (by kernel_rfl) (fun w => by kernel_rfl) ?_
        refine ls_val (v := .int .i64 (IntKind.wrap .i64 (x17_2 + (1 : Int)))) rfl rfl (by kernel_rfl) (fun w => by kernel_rfl) ?_
        refine ls_val (v := .int .i64 (IntKind.wrap .i64 (x17_2 + (1 : Int)))) rfl rfl (by kernel_rfl) (fun w => by kernel_rfl) ?_
        refine ls_end ?_
        refine qn_again k2 (sput (sput s0 0 (some (Ck.var 25 g1 (([Value.int .i64 (0 : Int)] ++ ([Value.int .i64 (0 : Int)] ++ ([Value.int .i64 (0 : Int)] ++ ([Value.int .u32 (0 : Int)] ++ en (Value.int .u8) (vrep 32 (0 : Int)).1)))))))) 5 (some (Ck.var 25 g57 (([Value.int .i64 m5_2.1] ++ ([Value.int .i64 m5_2.2.1] ++ ([Value.int .i64 m5_2.2.2.1] ++ ([Value.int .u32 m5_2.2.2.2.1] ++ en (Value.int .u8) y66.1)))))))) (Nat.le_refl _) ⟨_, (IntKind.wrap .i64 (x17_2 + (1 : Int))), (m5_2.1, m5_2.2.1, m5_2.2.2.1, m5_2.2.2.2.1, y66), fr_next (fr_next (fr_next (fr_next (rfl) (by kernel_rfl)) (by kernel_rfl)) (by kernel_rfl)) (by kernel_rfl), rfl, H⟩ (sub_put (by exact rfl) (sub_put (by exact rfl) (sub_nil _)))
      · replace H := ite_f q58 H
        refine cs_know (c := false) (dec_f q58) 60 (by kernel_rfl) ?_
        refine cs_false (by kernel_rfl) ?_
        refine cs_exit' ?_
        refine qx_then ?_
        refine qx_then ?_
        refine qx_same ?_
        refine qn_then ?_
        refine cs_seq ?_
        refine cs_seq ?_
        refine cs_region (l := [_, _, _, _, _, _, _, _]) ?_
        refine ls_loadagg (a := ⟨g57, 0, none⟩) (sub := ([Value.int .i64 m5_2.1] ++ ([Value.int .i64 m5_2.2.1] ++ ([Value.int .i64 m5_2.2.2.1] ++ ([Value.int .u32 m5_2.2.2.2.1] ++ en (Value.int .u8) m5_2.2.2.2.2.1))))) rfl rfl (by kernel_rfl) rfl (by kernel_rfl) (by kernel_rfl) (by kernel_rfl) (len_app (len1 _) (len_app (len1 _) (len_app (len1 _) (len_app (len1 _) (len_en _ m5_2.2.2.2.2))))) (fun w hs => (hs.vars (k := 5) (by exact rfl) (Sub4.all _))) ?_
        obtain ⟨t68, hc69, H⟩ := bind_some H
        refine ls_callb (fid := 13) (vals := #[.agg ⟨([Value.int .i64 m5_2.1] ++ ([Value.int .i64 m5_2.2.1] ++ ([Value.int .i64 m5_2.2.2.1] ++ ([Value.int .u32 m5_2.2.2.2.1] ++ en (Value.int .u8) m5_2.2.2.2.2.1))))⟩]) (X := Unit) (fun x => .bool t68) (fun x => stl []) [] [] [] [] 6 rfl rfl (by kernel_rfl) (fun w => by kernel_rfl) trivial trivial (by decide) (fun w hs hb => shadowboxref06_None.calls k2 m5_2 t68 (lent b w [] []) hb  hc69) ?_
        intro x70
        refine ls_val (v := .bool (!t68)) rfl rfl (by kernel_rfl) (fun w => by kernel_rfl) ?_
        refine ls_val (v := .bool (!t68)) rfl rfl (by kernel_rfl) (fun w => by kernel_rfl) ?_
        by_cases q71 : t68 = true
        · replace H := ite_t q71 H
          refine ls_know (c := false) (congrArg Bool.not (q71)) 74 (by kernel_rfl) ?_
          refine ls_off (j := 3) (t := 74) (b := true) (c := false) rfl rfl (by kernel_rfl) (by kernel_rfl) rfl rfl (by kernel_rfl) ?_
          refine ls_off (j := 3) (t := 74) (b := true) (c := false) rfl rfl (by kernel_rfl) (by kernel_rfl) rfl rfl (by kernel_rfl) ?_
          refine ls_off (j := 3) (t := 74) (b := true) (c := false) rfl rfl (by kernel_rfl) (by kernel_rfl) rfl rfl (by kernel_rfl) ?_
          refine ls_val (v := .bool false) rfl rfl (by kernel_rfl) (fun w => by kernel_rfl) ?_
          refine ls_end ?_
          refine qn_then ?_
          refine cs_false (by kernel_rfl) ?_
          refine cs_skip' ?_
          refine qn_then ?_
          refine cs_seq ?_
          refine cs_region (l := [_, _, _]) ?_
          refine ls_loadagg (a := ⟨g57, 0, none⟩) (sub := ([Value.int .i64 m5_2.1] ++ ([Value.int .i64 m5_2.2.1] ++ ([Value.int .i64 m5_2.2.2.1] ++ ([Value.int .u32 m5_2.2.2.2.1] ++ en (Value.int .u8) m5_2.2.2.2.2.1))))) rfl rfl (by kernel_rfl) rfl (by kernel_rfl) (by kernel_rfl) (by kernel_rfl) (len_app (len1 _) (len_app (len1 _) (len_app (len1 _) (len_app (len1 _) (len_en _ m5_2.2.2.2.2))))) (fun w hs => (hs.vars (k := 5) (by exact rfl) (Sub4.all _))) ?_
          refine ls_storec (g := g1) (off := 0) (v := .agg ⟨([Value.int .i64 m5_2.1] ++ ([Value.int .i64 m5_2.2.1] ++ ([Value.int .i64 m5_2.2.2.1] ++ ([Value.int .u32 m5_2.2.2.2.1] ++ en (Value.int .u8) m5_2.2.2.2.2.1))))⟩) (vs := ([Value.int .i64 m5_2.1] ++ ([Value.int .i64 m5_2.2.1] ++ ([Value.int .i64 m5_2.2.2.1] ++ ([Value.int .u32 m5_2.2.2.2.1] ++ en (Value.int .u8) m5_2.2.2.2.2.1))))) (cs := ([Value.int .i64 (0 : Int)] ++ ([Value.int .i64 (0 : Int)] ++ ([Value.int .i64 (0 : Int)] ++ ([Value.int .u32 (0 : Int)] ++ en (Value.int .u8) (vrep 32 (0 : Int)).1))))) (ty := 25) 0 rfl rfl rfl (by kernel_rfl) (by kernel_rfl) (by kernel_rfl) (by exact rfl) (by kernel_rfl) (len_app (len1 _) (len_app (len1 _) (len_app (len1 _) (len_app (len1 _) (len_en _ m5_2.2.2.2.2))))) (one_app (one_cons rfl one_nil) (one_app (one_cons rfl one_nil) (one_app (one_cons rfl one_nil) (one_app (one_cons rfl one_nil) (one_en (fun _ => rfl) _))))) (hl_of (Sub4.all _) (len_eq (len_app (len1 _) (len_app (len1 _) (len_app (len1 _) (len_app (len1 _) (len_en _ m5_2.2.2.2.2))))) (len_app (len1 _) (len_app (len1 _) (len_app (len1 _) (len_app (len1 _) (len_en _ (vrep 32 (0 : Int))))))))) (cs' := ([Value.int .i64 m5_2.1] ++ ([Value.int .i64 m5_2.2.1] ++ ([Value.int .i64 m5_2.2.2.1] ++ ([Value.int .u32 m5_2.2.2.2.1] ++ en (Value.int .u8) m5_2.2.2.2.2.1))))) (splc_all (len_eq (len_app (len1 _) (len_app (len1 _) (len_app (len1 _) (len_app (len1 _) (len_en _ m5_2.2.2.2.2))))) (len_app (len1 _) (len_app (len1 _) (len_app (len1 _) (len_app (len1 _) (len_en _ (vrep 32 (0 : Int))))))))) ?_
          refine ls_val (v := .int .i64 (0 : Int)) rfl rfl (by kernel_rfl) (fun w => by kernel_rfl) ?_
          refine ls_end ?_
          refine qn_then ?_
          refine cs_ret' ?_
          obtain rfl := Option.some.inj H
          refine qr_res (rs := [_, _]) rfl (fun w' hs => ⟨[.agg ⟨([Value.int .i64 m5_2.1] ++ ([Value.int .i64 m5_2.2.1] ++ ([Value.int .i64 m5_2.2.2.1] ++ ([Value.int .u32 m5_2.2.2.2.1] ++ en (Value.int .u8) m5_2.2.2.2.2.1))))⟩, .int .i64 (0 : Int)], (.cell (by kernel_rfl) (run_cellres (by kernel_rfl) (by kernel_rfl) (len_app (len1 _) (len_app (len1 _) (len_app (len1 _) (len_app (len1 _) (len_en _ m5_2.2.2.2.2))))) (hs.holds 0 _ (by exact rfl))) (res_tmp (by kernel_rfl) (.nil))), (), rfl, hs.pick (ts := []) (cs := []) trivial (by decide)⟩)
        · replace H := ite_f q71 H
          refine ls_know (c := true) (congrArg Bool.not (Bool.eq_false_iff.mpr q71)) 74 (by kernel_rfl) ?_
          refine ls_on (j := 3) (t := 74) (b := true) rfl rfl (by kernel_rfl) (by kernel_rfl) ?_
          refine ls_loadagg (a := ⟨g57, 0, none⟩) (sub := ([Value.int .i64 m5_2.1] ++ ([Value.int .i64 m5_2.2.1] ++ ([Value.int .i64 m5_2.2.2.1] ++ ([Value.int .u32 m5_2.2.2.2.1] ++ en (Value.int .u8) m5_2.2.2.2.2.1))))) rfl rfl (by kernel_rfl) rfl (by kernel_rfl) (by kernel_rfl) (by kernel_rfl) (len_app (len1 _) (len_app (len1 _) (len_app (len1 _) (len_app (len1 _) (len_en _ m5_2.2.2.2.2))))) (fun w hs => (hs.vars (k := 5) (by exact rfl) (Sub4.all _))) ?_
          refine ls_on (j := 3) (t := 74) (b := true) rfl rfl (by kernel_rfl) (by kernel_rfl) ?_
          obtain ⟨t72, hc73, H⟩ := bind_some H
          refine ls_callb (fid := 15) (vals := #[.agg ⟨([Value.int .i64 m5_2.1] ++ ([Value.int .i64 m5_2.2.1] ++ ([Value.int .i64 m5_2.2.2.1] ++ ([Value.int .u32 m5_2.2.2.2.1] ++ en (Value.int .u8) m5_2.2.2.2.2.1))))⟩]) (X := Unit) (fun x => .bool t72) (fun x => stl []) [] [] [] [] 6 rfl rfl (by kernel_rfl) (fun w => by kernel_rfl) trivial trivial (by decide) (fun w hs hb => shadowboxref06_Right.calls k2 m5_2 t72 (lent b w [] []) hb  hc73) ?_
          intro x74
          refine ls_on (j := 3) (t := 74) (b := true) rfl rfl (by kernel_rfl) (by kernel_rfl) ?_
          refine ls_val (v := .bool (!t72)) rfl rfl (by kernel_rfl) (fun w => by kernel_rfl) ?_
          refine ls_val (v := .bool (!t72)) rfl rfl (by kernel_rfl) (fun w => by kernel_rfl) ?_
          refine ls_end ?_
          refine qn_then ?_
          by_cases q75 : t72 = true
          · replace H := ite_t q75 H
            refine cs_know (c := false) (congrArg Bool.not (q75)) 78 (by kernel_rfl) ?_
            refine cs_false (by kernel_rfl) ?_
            refine cs_skip' ?_
            refine qn_then ?_
            refine cs_seq ?_
            refine cs_region (l := [_, _, _]) ?_
            refine ls_loadagg (a := ⟨g57, 0, none⟩) (sub := ([Value.int .i64 m5_2.1] ++ ([Value.int .i64 m5_2.2.1] ++ ([Value.int .i64 m5_2.2.2.1] ++ ([Value.int .u32 m5_2.2.2.2.1] ++ en (Value.int .u8) m5_2.2.2.2.2.1))))) rfl rfl (by kernel_rfl) rfl (by kernel_rfl) (by kernel_rfl) (by kernel_rfl) (len_app (len1 _) (len_app (len1 _) (len_app (len1 _) (len_app (len1 _) (len_en _ m5_2.2.2.2.2))))) (fun w hs => (hs.vars (k := 5) (by exact rfl) (Sub4.all _))) ?_
            refine ls_storec (g := g1) (off := 0) (v := .agg ⟨([Value.int .i64 m5_2.1] ++ ([Value.int .i64 m5_2.2.1] ++ ([Value.int .i64 m5_2.2.2.1] ++ ([Value.int .u32 m5_2.2.2.2.1] ++ en (Value.int .u8) m5_2.2.2.2.2.1))))⟩) (vs := ([Value.int .i64 m5_2.1] ++ ([Value.int .i64 m5_2.2.1] ++ ([Value.int .i64 m5_2.2.2.1] ++ ([Value.int .u32 m5_2.2.2.2.1] ++ en (Value.int .u8) m5_2.2.2.2.2.1))))) (cs := ([Value.int .i64 (0 : Int)] ++ ([Value.int .i64 (0 : Int)] ++ ([Value.int .i64 (0 : Int)] ++ ([Value.int .u32 (0 : Int)] ++ en (Value.int .u8) (vrep 32 (0 : Int)).1))))) (ty := 25) 0 rfl rfl rfl (by kernel_rfl) (by kernel_rfl) (by kernel_rfl) (by exact rfl) (by kernel_rfl) (len_app (len1 _) (len_app (len1 _) (len_app (len1 _) (len_app (len1 _) (len_en _ m5_2.2.2.2.2))))) (one_app (one_cons rfl one_nil) (one_app (one_cons rfl one_nil) (one_app (one_cons rfl one_nil) (one_app (one_cons rfl one_nil) (one_en (fun _ => rfl) _))))) (hl_of (Sub4.all _) (len_eq (len_app (len1 _) (len_app (len1 _) (len_app (len1 _) (len_app (len1 _) (len_en _ m5_2.2.2.2.2))))) (len_app (len1 _) (len_app (len1 _) (len_app (len1 _) (len_app (len1 _) (len_en _ (vrep 32 (0 : Int))))))))) (cs' := ([Value.int .i64 m5_2.1] ++ ([Value.int .i64 m5_2.2.1] ++ ([Value.int .i64 m5_2.2.2.1] ++ ([Value.int .u32 m5_2.2.2.2.1] ++ en (Value.int .u8) m5_2.2.2.2.2.1))))) (splc_all (len_eq (len_app (len1 _) (len_app (len1 _) (len_app (len1 _) (len_app (len1 _) (len_en _ m5_2.2.2.2.2))))) (len_app (len1 _) (len_app (len1 _) (len_app (len1 _) (len_app (len1 _) (len_en _ (vrep 32 (0 : Int))))))))) ?_
            refine ls_val (v := .int .i64 (0 : Int)) rfl rfl (by kernel_rfl) (fun w => by kernel_rfl) ?_
            refine ls_end ?_
            refine qn_then ?_
            refine cs_ret' ?_
            obtain rfl := Option.some.inj H
            refine qr_res (rs := [_, _]) rfl (fun w' hs => ⟨[.agg ⟨([Value.int .i64 m5_2.1] ++ ([Value.int .i64 m5_2.2.1] ++ ([Value.int .i64 m5_2.2.2.1] ++ ([Value.int .u32 m5_2.2.2.2.1] ++ en (Value.int .u8) m5_2.2.2.2.2.1))))⟩, .int .i64 (0 : Int)], (.cell (by kernel_rfl) (run_cellres (by kernel_rfl) (by kernel_rfl) (len_app (len1 _) (len_app (len1 _) (len_app (len1 _) (len_app (len1 _) (len_en _ m5_2.2.2.2.2))))) (hs.holds 0 _ (by exact rfl))) (res_tmp (by kernel_rfl) (.nil))), (), rfl, hs.pick (ts := []) (cs := []) trivial (by decide)⟩)
          · replace H := ite_f q75 H
            refine cs_know (c := true) (congrArg Bool.not (Bool.eq_false_iff.mpr q75)) 78 (by kernel_rfl) ?_
            refine cs_true (by kernel_rfl) ?_
            refine cs_seq ?_
            refine cs_region (l := [_, _, _]) ?_
            refine ls_build (ps := []) (pl := #[(0, 1), (1, 1), (2, 1), (3, 1), (4, 32)]) (zv := .agg ⟨([Value.int .i64 (0 : Int)] ++ ([Value.int .i64 (0 : Int)] ++ ([Value.int .i64 (0 : Int)] ++ ([Value.int .u32 (0 : Int)] ++ en (Value.int .u8) (vrep 32 (0 : Int)).1))))⟩) (zc := ([Value.int .i64 (0 : Int)] ++ ([Value.int .i64 (0 : Int)] ++ ([Value.int .i64 (0 : Int)] ++ ([Value.int .u32 (0 : Int)] ++ en (Value.int .u8) (vrep 32 (0 : Int)).1))))) (r := ([Value.int .i64 (0 : Int)] ++ ([Value.int .i64 (0 : Int)] ++ ([Value.int .i64 (0 : Int)] ++ ([Value.int .u32 (0 : Int)] ++ en (Value.int .u8) (vrep 32 (0 : Int)).1))))) rfl rfl (by kernel_rfl) rfl (by kernel_rfl) (by kernel_rfl) (fun w => by kernel_rfl) (fun w => by kernel_rfl) rfl fill_nil ?_
            refine ls_storec (g := g1) (off := 0) (v := .agg ⟨([Value.int .i64 (0 : Int)] ++ ([Value.int .i64 (0 : Int)] ++ ([Value.int .i64 (0 : Int)] ++ ([Value.int .u32 (0 : Int)] ++ en (Value.int .u8) (vrep 32 (0 : Int)).1))))⟩) (vs := ([Value.int .i64 (0 : Int)] ++ ([Value.int .i64 (0 : Int)] ++ ([Value.int .i64 (0 : Int)] ++ ([Value.int .u32 (0 : Int)] ++ en (Value.int .u8) (vrep 32 (0 : Int)).1))))) (cs := ([Value.int .i64 (0 : Int)] ++ ([Value.int .i64 (0 : Int)] ++ ([Value.int .i64 (0 : Int)] ++ ([Value.int .u32 (0 : Int)] ++ en (Value.int .u8) (vrep 32 (0 : Int)).1))))) (ty := 25) 0 rfl rfl rfl (by kernel_rfl) (by kernel_rfl) (by kernel_rfl) (by exact rfl) (by kernel_rfl) (len_app (len1 _) (len_app (len1 _) (len_app (len1 _) (len_app (len1 _) (len_en _ (vrep 32 (0 : Int))))))) (one_app (one_cons rfl one_nil) (one_app (one_cons rfl one_nil) (one_app (one_cons rfl one_nil) (one_app (one_cons rfl one_nil) (one_en (fun _ => rfl) _))))) (hl_of (Sub4.all _) (len_eq (len_app (len1 _) (len_app (len1 _) (len_app (len1 _) (len_app (len1 _) (len_en _ (vrep 32 (0 : Int))))))) (len_app (len1 _) (len_app (len1 _) (len_app (len1 _) (len_app (len1 _) (len_en _ (vrep 32 (0 : Int))))))))) (cs' := ([Value.int .i64 (0 : Int)] ++ ([Value.int .i64 (0 : Int)] ++ ([Value.int .i64 (0 : Int)] ++ ([Value.int .u32 (0 : Int)] ++ en (Value.int .u8) (vrep 32 (0 : Int)).1))))) (splc_all (len_eq (len_app (len1 _) (len_app (len1 _) (len_app (len1 _) (len_app (len1 _) (len_en _ (vrep 32 (0 : Int))))))) (len_app (len1 _) (len_app (len1 _) (len_app (len1 _) (len_app (len1 _) (len_en _ (vrep 32 (0 : Int))))))))) ?_
            refine ls_val (v := .int .i64 (11 : Int)) rfl rfl (by kernel_rfl) (fun w => by kernel_rfl) ?_
            refine ls_end ?_
            refine qn_then ?_
            refine cs_ret' ?_
            refine qr_then ?_
            obtain rfl := Option.some.inj H
            refine qr_res (rs := [_, _]) rfl (fun w' hs => ⟨[.agg ⟨([Value.int .i64 (0 : Int)] ++ ([Value.int .i64 (0 : Int)] ++ ([Value.int .i64 (0 : Int)] ++ ([Value.int .u32 (0 : Int)] ++ en (Value.int .u8) (vrep 32 (0 : Int)).1))))⟩, .int .i64 (11 : Int)], (.cell (by kernel_rfl) (run_cellres (by kernel_rfl) (by kernel_rfl) (len_app (len1 _) (len_app (len1 _) (len_app (len1 _) (len_app (len1 _) (len_en _ (vrep 32 (0 : Int))))))) (hs.holds 0 _ (by exact rfl))) (res_tmp (by kernel_rfl) (.nil))), (), rfl, hs.pick (ts := []) (cs := []) trivial (by decide)⟩)

/-! ### shadowbox/codec.Fixed: function 34 -/
def codec_Fixed.lo4 (a1 : Int) (l2 : List Int) (x23_2 : Int) (lo2 : (List Int) → Int → Option ((List Int))) : Nat → (List Int) → Int → Option ((List Int))
  | 0, _, _ => none
  | k4 + 1, l7_4, x28_4 => (if x28_4 < a1 then (if 0 ≤ IntKind.wrap .i64 ((8 : Int) * x28_4) then lt (shrv .u64 ((l2).getD (x23_2).toNat (0 : Int)) (IntKind.wrap .i64 ((8 : Int) * x28_4))) fun y11 => (if (l7_4.length + ([IntKind.wrap .u8 y11]).length) * 1 ≤ 140737488355328 then (codec_Fixed.lo4 a1 l2 x23_2 lo2 k4) (l7_4 ++ [IntKind.wrap .u8 y11]) (IntKind.wrap .i64 (x28_4 + (1 : Int))) else none) else none) else lo2 l7_4 (IntKind.wrap .i64 (x23_2 + (1 : Int))))
def codec_Fixed.jo3 (a1 : Int) (l2 : List Int) (l7_2 : List Int) (x23_2 : Int) (k2 : Nat) (lo2 : (List Int) → Int → Option ((List Int))) : Option ((List Int)) := (if 0 ≤ x23_2 then (if x23_2 < (l2.length : Int) then codec_Fixed.lo4 a1 l2 x23_2 lo2 k2 l7_2 (0 : Int) else none) else none)
def codec_Fixed.lo2 (a1 : Int) (l2 : List Int) : Nat → (List Int) → Int → Option ((List Int))
  | 0, _, _ => none
  | k2 + 1, l7_2, x23_2 => (if x23_2 < (l2.length : Int) then (codec_Fixed.jo3 a1 l2 l7_2 x23_2 k2 (codec_Fixed.lo2 a1 l2 k2)) else some l7_2)
def codec_Fixed.jo1 (k : Nat) (l0 : List Int) (a1 : Int) (l2 : List Int) : Option ((List Int)) := codec_Fixed.lo2 a1 l2 k (([] : List Int) ++ l0) (0 : Int)
def codec_Fixed.f (k : Nat) (l0 : List Int) (a1 : Int) (l2 : List Int) : Option ((List Int)) :=
  (if (([] : List Int).length + l0.length) * 1 ≤ 140737488355328 then (if a1 < (1 : Int) then some (([] : List Int) ++ l0) else (if a1 > (8 : Int) then some (([] : List Int) ++ l0) else (codec_Fixed.jo1 k l0 a1 l2))) else none)
set_option maxRecDepth 100000 in
set_option maxHeartbeats 4000000 in
theorem codec_Fixed.calls (k : Nat) (A0 : Option Addr) (c0 : Nat) (l0 : List Int) (a1 : Int) (A2 : Option Addr) (c2 : Nat) (l2 : List Int) (r : (List Int)) (b : Bs) (hs0 : St b (stl []) b.w) (R0 : Ro b A0 (em (Ec.int 5 .u8) l0)) (C0 : l0.length ≤ c0) (R2 : Ro b A2 (em (Ec.int 62 .u64) l2)) (C2 : l2.length ≤ c2) (H : codec_Fixed.f k l0 a1 l2 = some r) :
    Calls Try.prog 34 #[.slice A0 l0.length c0, .int .i64 a1, .slice A2 l2.length c2] b.w fun e w' => ∃ x : (Option Addr × Nat), e = .returned (.slice x.1 r.length x.2) ∧ St b (stl [Ck.sl (Ec.int 5 .u8) x.1 x.2 r]) w' := by
  unfold codec_Fixed.f at H
  refine enterb (n := 42) Try.func34 rfl (by kernel_rfl) (by kernel_rfl) hs0 ?_
  refine cs_sub (s0) (sub_nil _) ?_
  refine cs_seq ?_
  refine cs_region (l := [_]) ?_
  refine ls_val (v := .slice none 0 0) rfl rfl (by kernel_rfl) (fun w => by kernel_rfl) ?_
  refine ls_end ?_
  refine qn_then ?_
  refine cs_seq ?_
  refine cs_region (l := [_, _, _, _]) ?_
  refine ls_lit (Ec.int 5 .u8) 0 rfl rfl (by kernel_rfl) ([] : List Int) (by exact of_decide_eq_true (by kernel_rfl)) (fun w => by kernel_rfl) ?_
  intro g1
  refine ls_val (v := .slice A0 l0.length c0) rfl rfl (by kernel_rfl) (fun w => by kernel_rfl) ?_
  obtain ⟨q2, H⟩ := ite_need H
  refine ls_app (Ec.int 5 .u8) (A := (some ⟨g1, 0, none⟩)) (c := ([] : List Int).length) (B := A0) (cb := c0) (z := (Value.int .u8 0)) (l := ([] : List Int)) (m := l0) (bytes := 1) 0 rfl rfl (by kernel_rfl) rfl (by kernel_rfl) (by exact rfl) (by kernel_rfl) (fun w hs => (hs.old R0)) (by kernel_rfl) (by kernel_rfl) rfl (by decide) q2 ?_
  intro xA3 xc4
  refine ls_val (v := .slice xA3 (([] : List Int) ++ l0).length xc4) rfl rfl (by kernel_rfl) (fun w => by kernel_rfl) ?_
  refine ls_end ?_
  refine qn_then ?_
  refine cs_cut (fun f S => ∃ (fR : Fr), f = upd (upd (upd fR 1 (.int .i64 a1)) 2 (.slice A2 l2.length c2)) 7 (.slice xA3 (([] : List Int) ++ l0).length xc4) ∧ S = sput s0 0 (some (Ck.sl (Ec.int 5 .u8) xA3 xc4 (([] : List Int) ++ l0))) ∧ codec_Fixed.jo1 k l0 a1 l2 = some r) ?_ ?_
  · skip
    refine cs_seq ?_
    refine cs_region (l := [_, _, _, _, _, _]) ?_
    refine ls_val (v := .int .i64 a1) rfl rfl (by kernel_rfl) (fun w => by kernel_rfl) ?_
    refine ls_val (v := .bool (decide (a1 < (1 : Int)))) rfl rfl (by kernel_rfl) (fun w => by kernel_rfl) ?_
    refine ls_val (v := .bool (decide (a1 < (1 : Int)))) rfl rfl (by kernel_rfl) (fun w => by kernel_rfl) ?_
    by_cases q18 : a1 < (1 : Int)
    · replace H := ite_t q18 H
      refine ls_know (c := true) (dec_t q18) 16 (by kernel_rfl) ?_
      refine ls_off (j := 2) (t := 16) (b := false) (c := true) rfl rfl (by kernel_rfl) (by kernel_rfl) rfl rfl (by kernel_rfl) ?_
      refine ls_off (j := 2) (t := 16) (b := false) (c := true) rfl rfl (by kernel_rfl) (by kernel_rfl) rfl rfl (by kernel_rfl) ?_
      refine ls_val (v := .bool true) rfl rfl (by kernel_rfl) (fun w => by kernel_rfl) ?_
      refine ls_end ?_
      refine qn_then ?_
      refine cs_true (by kernel_rfl) ?_
      refine cs_seq ?_
      refine cs_region (l := [_, _]) ?_
      refine ls_val (v := .slice xA3 (([] : List Int) ++ l0).length xc4) rfl rfl (by kernel_rfl) (fun w => by kernel_rfl) ?_
      refine ls_val (v := .slice xA3 (([] : List Int) ++ l0).length xc4) rfl rfl (by kernel_rfl) (fun w => by kernel_rfl) ?_
      refine ls_end ?_
      refine qn_then ?_
      refine cs_ret' ?_
      refine qr_then ?_
      obtain rfl := Option.some.inj H
      refine qr_res (rs := [_]) rfl (fun w' hs => ⟨[.slice xA3 (([] : List Int) ++ l0).length xc4], (res_tmp (by kernel_rfl) (.nil)), (xA3, xc4), rfl, hs.pick (ts := [0]) (cs := [Ck.sl (Ec.int 5 .u8) xA3 xc4 (([] : List Int) ++ l0)]) ⟨by exact rfl, trivial⟩ (by decide)⟩)
    · replace H := ite_f q18 H
      refine ls_know (c := false) (dec_f q18) 16 (by kernel_rfl) ?_
      refine ls_on (j := 2) (t := 16) (b := false) rfl rfl (by kernel_rfl) (by kernel_rfl) ?_
      refine ls_val (v := .int .i64 a1) rfl rfl (by kernel_rfl) (fun w => by kernel_rfl) ?_
      refine ls_on (j := 2) (t := 16) (b := false) rfl rfl (by kernel_rfl) (by kernel_rfl) ?_
      refine ls_val (v := .bool (decide (a1 > (8 : Int)))) rfl rfl (by kernel_rfl) (fun w => by kernel_rfl) ?_
      refine ls_val (v := .bool (decide (a1 > (8 : Int)))) rfl rfl (by kernel_rfl) (fun w => by kernel_rfl) ?_
      refine ls_end ?_
      refine qn_then ?_
      by_cases q19 : a1 > (8 : Int)
      · replace H := ite_t q19 H
        refine cs_know (c := true) (dec_t q19) 19 (by kernel_rfl) ?_
        refine cs_true (by kernel_rfl) ?_
        refine cs_seq ?_
        refine cs_region (l := [_, _]) ?_
        refine ls_val (v := .slice xA3 (([] : List Int) ++ l0).length xc4) rfl rfl (by kernel_rfl) (fun w => by kernel_rfl) ?_
        refine ls_val (v := .slice xA3 (([] : List Int) ++ l0).length xc4) rfl rfl (by kernel_rfl) (fun w => by kernel_rfl) ?_
        refine ls_end ?_
        refine qn_then ?_
        refine cs_ret' ?_
        refine qr_then ?_
        obtain rfl := Option.some.inj H
        refine qr_res (rs := [_]) rfl (fun w' hs => ⟨[.slice xA3 (([] : List Int) ++ l0).length xc4], (res_tmp (by kernel_rfl) (.nil)), (xA3, xc4), rfl, hs.pick (ts := [0]) (cs := [Ck.sl (Ec.int 5 .u8) xA3 xc4 (([] : List Int) ++ l0)]) ⟨by exact rfl, trivial⟩ (by decide)⟩)
      · replace H := ite_f q19 H
        refine cs_know (c := false) (dec_f q19) 19 (by kernel_rfl) ?_
        refine cs_false (by kernel_rfl) ?_
        refine cs_skip' ?_
        refine qn_meet (sput s0 0 (some (Ck.sl (Ec.int 5 .u8) xA3 xc4 (([] : List Int) ++ l0)))) ⟨_, fr_next (fr_next (fr_next (rfl) (by kernel_rfl)) (by kernel_rfl)) (by kernel_rfl), rfl, H⟩ (sub_put (by exact rfl) (sub_nil _))
  · rintro f S ⟨fr1, rfl, rfl, H⟩
    replace H : (codec_Fixed.lo2 a1 l2 k (([] : List Int) ++ l0) (0 : Int)) = some r := H
    refine cs_seq ?_
    refine cs_seq ?_
    refine cs_region (l := [_, _, _]) ?_
    refine ls_val (v := .slice A2 l2.length c2) rfl rfl (by kernel_rfl) (fun w => by kernel_rfl) ?_
    refine ls_val (v := .int .i64 (l2.length : Int)) rfl rfl (by kernel_rfl) (fun w => by kernel_rfl) ?_
    refine ls_val (v := .int .i64 (0 : Int)) rfl rfl (by kernel_rfl) (fun w => by kernel_rfl) ?_
    refine ls_end ?_
    refine qn_then ?_
    refine cs_block ?_
    refine cs_sub (sput s0 0 (some (Ck.sl (Ec.int 5 .u8) xA3 xc4 (([] : List Int) ++ l0)))) (sub_put (by exact rfl) (sub_nil _)) ?_
    refine cs_loop (fun kk f S => ∃ (fR : Fr) (A7_2 : Option Addr) (c7_2 : Nat) (l7_2 : List Int) (x23_2 : Int), f = upd (upd (upd (upd (upd fR 1 (.int .i64 a1)) 7 (.slice A7_2 l7_2.length c7_2)) 21 (.slice A2 l2.length c2)) 22 (.int .i64 (l2.length : Int))) 23 (.int .i64 x23_2) ∧ S = sput s0 0 (some (Ck.sl (Ec.int 5 .u8) A7_2 c7_2 l7_2)) ∧ codec_Fixed.lo2 a1 l2 kk l7_2 x23_2 = some r) k ?_ ?_ ?_
    · exact ⟨_, xA3, xc4, (([] : List Int) ++ l0), (0 : Int), fr_next (fr_next (fr_next (fr_next (fr_next (rfl) (by kernel_rfl)) (by kernel_rfl)) (by kernel_rfl)) (by kernel_rfl)) (by kernel_rfl), rfl, H⟩
    · rintro f S ⟨fr2, A7_2, c7_2, l7_2, x23_2, rfl, rfl, H⟩; cases H
    · rintro k2 f S ⟨fr2, A7_2, c7_2, l7_2, x23_2, rfl, rfl, H⟩
      replace H : ((if x23_2 < (l2.length : Int) then (codec_Fixed.jo3 a1 l2 l7_2 x23_2 k2 (codec_Fixed.lo2 a1 l2 k2)) else some l7_2)) = some r := H
      refine cs_seq ?_
      refine cs_region (l := [_]) ?_
      refine ls_val (v := .bool (decide (x23_2 < (l2.length : Int)))) rfl rfl (by kernel_rfl) (fun w => by kernel_rfl) ?_
      refine ls_end ?_
      refine qn_then ?_
      refine cs_cut (fun f S => ∃ (fR : Fr), f = upd (upd (upd (upd (upd fR 1 (.int .i64 a1)) 7 (.slice A7_2 l7_2.length c7_2)) 21 (.slice A2 l2.length c2)) 22 (.int .i64 (l2.length : Int))) 23 (.int .i64 x23_2) ∧ S = sput s0 0 (some (Ck.sl (Ec.int 5 .u8) A7_2 c7_2 l7_2)) ∧ codec_Fixed.jo3 a1 l2 l7_2 x23_2 k2 (codec_Fixed.lo2 a1 l2 k2) = some r) ?_ ?_
      · skip
        by_cases q17 : x23_2 < (l2.length : Int)
        · replace H := ite_t q17 H
          refine cs_know (c := true) (dec_t q17) 24 (by kernel_rfl) ?_
          refine cs_true (by kernel_rfl) ?_
          refine cs_skip' ?_
          refine qn_meet (sput s0 0 (some (Ck.sl (Ec.int 5 .u8) A7_2 c7_2 l7_2))) ⟨_, fr_next (fr_next (fr_next (fr_next (fr_next (rfl) (by kernel_rfl)) (by kernel_rfl)) (by kernel_rfl)) (by kernel_rfl)) (by kernel_rfl), rfl, H⟩ (sub_put (by exact rfl) (sub_nil _))
        · replace H := ite_f q17 H
          refine cs_know (c := false) (dec_f q17) 24 (by kernel_rfl) ?_
          refine cs_false (by kernel_rfl) ?_
          refine cs_exit' ?_
          refine qx_then ?_
          refine qx_then ?_
          refine qx_same ?_
          refine qn_then ?_
          refine cs_seq ?_
          refine cs_region (l := [_, _]) ?_
          refine ls_val (v := .slice A7_2 l7_2.length c7_2) rfl rfl (by kernel_rfl) (fun w => by kernel_rfl) ?_
          refine ls_val (v := .slice A7_2 l7_2.length c7_2) rfl rfl (by kernel_rfl) (fun w => by kernel_rfl) ?_
          refine ls_end ?_
          refine qn_then ?_
          refine cs_ret' ?_
          obtain rfl := Option.some.inj H
          refine qr_res (rs := [_]) rfl (fun w' hs => ⟨[.slice A7_2 l7_2.length c7_2], (res_tmp (by kernel_rfl) (.nil)), (A7_2, c7_2), rfl, hs.pick (ts := [0]) (cs := [Ck.sl (Ec.int 5 .u8) A7_2 c7_2 l7_2]) ⟨by exact rfl, trivial⟩ (by decide)⟩)
      · rintro f S ⟨fr3, rfl, rfl, H⟩
        replace H : ((if 0 ≤ x23_2 then (if x23_2 < (l2.length : Int) then codec_Fixed.lo4 a1 l2 x23_2 (codec_Fixed.lo2 a1 l2 k2) k2 l7_2 (0 : Int) else none) else none)) = some r := H
        refine cs_seq ?_
        refine cs_block ?_
        refine cs_seq ?_
        refine cs_region (l := [_, _, _]) ?_
        obtain ⟨q5, H⟩ := ite_need H
        obtain ⟨q6, H⟩ := ite_need H
        obtain ⟨ad7, hA8⟩ := ido_at (T := (Ec.int 62 .u64)) (l := l2) (i := x23_2) R2 q5 q6
        refine ls_idxv (Ec.int 62 .u64) (A := A2) (c := c2) (l := l2) (k := .i64) (i := x23_2) (z := 1) (ad := ad7) rfl rfl (by kernel_rfl) hA8 rfl (by kernel_rfl) (by kernel_rfl) (by kernel_rfl) (by kernel_rfl) q5 q6 ?_
        refine ls_load (a0 := (ad7.add ((x23_2).toNat * 1))) (v := .int .u64 ((l2).getD (x23_2).toNat (0 : Int))) (de := (TypeDesc.int .u64)) rfl rfl (by kernel_rfl) rfl (by kernel_rfl) (by kernel_rfl) (by kernel_rfl) (fun w hs => (hs.old R2).at hA8 (em_sub (Ec.int 62 .u64) l2 (i := (x23_2).toNat) (by have h0 : (0 : Int) ≤ x23_2 := q5; have h1 : x23_2 < (l2.length : Int) := q6; omega))) ?_
        refine ls_val (v := .int .u64 ((l2).getD (x23_2).toNat (0 : Int))) rfl rfl (by kernel_rfl) (fun w => by kernel_rfl) ?_
        refine ls_end ?_
        refine qn_then ?_
        refine cs_seq ?_
        refine cs_region (l := [_, _]) ?_
        refine ls_val (v := .int .i64 a1) rfl rfl (by kernel_rfl) (fun w => by kernel_rfl) ?_
        refine ls_val (v := .int .i64 (0 : Int)) rfl rfl (by kernel_rfl) (fun w => by kernel_rfl) ?_
        refine ls_end ?_
        refine qn_then ?_
        refine cs_block ?_
        refine cs_sub (sput s0 0 (some (Ck.sl (Ec.int 5 .u8) A7_2 c7_2 l7_2))) (sub_put (by exact rfl) (sub_nil _)) ?_
        refine cs_loop (fun kk f S => ∃ (fR : Fr) (A7_4 : Option Addr) (c7_4 : Nat) (l7_4 : List Int) (x28_4 : Int), f = upd (upd (upd (upd (upd (upd (upd (upd fR 1 (.int .i64 a1)) 7 (.slice A7_4 l7_4.length c7_4)) 9 (.int .u64 ((l2).getD (x23_2).toNat (0 : Int)))) 21 (.slice A2 l2.length c2)) 22 (.int .i64 (l2.length : Int))) 23 (.int .i64 x23_2)) 27 (.int .i64 a1)) 28 (.int .i64 x28_4) ∧ S = sput s0 0 (some (Ck.sl (Ec.int 5 .u8) A7_4 c7_4 l7_4)) ∧ codec_Fixed.lo4 a1 l2 x23_2 (codec_Fixed.lo2 a1 l2 k2) kk l7_4 x28_4 = some r) k2 ?_ ?_ ?_
        · exact ⟨_, A7_2, c7_2, l7_2, (0 : Int), fr_next (fr_next (fr_next (fr_next (fr_next (fr_next (fr_next (fr_next (rfl) (by kernel_rfl)) (by kernel_rfl)) (by kernel_rfl)) (by kernel_rfl)) (by kernel_rfl)) (by kernel_rfl)) (by kernel_rfl)) (by kernel_rfl), rfl, H⟩
        · rintro f S ⟨fr4, A7_4, c7_4, l7_4, x28_4, rfl, rfl, H⟩; cases H
        · rintro k4 f S ⟨fr4, A7_4, c7_4, l7_4, x28_4, rfl, rfl, H⟩
          replace H : ((if x28_4 < a1 then (if 0 ≤ IntKind.wrap .i64 ((8 : Int) * x28_4) then lt (shrv .u64 ((l2).getD (x23_2).toNat (0 : Int)) (IntKind.wrap .i64 ((8 : Int) * x28_4))) fun y11 => (if (l7_4.length + ([IntKind.wrap .u8 y11]).length) * 1 ≤ 140737488355328 then (codec_Fixed.lo4 a1 l2 x23_2 (codec_Fixed.lo2 a1 l2 k2) k4) (l7_4 ++ [IntKind.wrap .u8 y11]) (IntKind.wrap .i64 (x28_4 + (1 : Int))) else none) else none) else (codec_Fixed.lo2 a1 l2 k2) l7_4 (IntKind.wrap .i64 (x23_2 + (1 : Int))))) = some r := H
          refine cs_seq ?_
          refine cs_region (l := [_]) ?_
          refine ls_val (v := .bool (decide (x28_4 < a1))) rfl rfl (by kernel_rfl) (fun w => by kernel_rfl) ?_
          refine ls_end ?_
          refine qn_then ?_
          refine cs_seq ?_
          by_cases q9 : x28_4 < a1
          · replace H := ite_t q9 H
            refine cs_know (c := true) (dec_t q9) 29 (by kernel_rfl) ?_
            refine cs_true (by kernel_rfl) ?_
            refine cs_skip' ?_
            refine qn_then ?_
            refine cs_seq ?_
            refine cs_block ?_
            refine cs_seq ?_
            refine cs_region (l := [_, _]) ?_
            refine ls_val (v := .int .i64 x28_4) rfl rfl (by kernel_rfl) (fun w => by kernel_rfl) ?_
            refine ls_val (v := .int .i64 x28_4) rfl rfl (by kernel_rfl) (fun w => by kernel_rfl) ?_
            refine ls_end ?_
            refine qn_then ?_
            refine cs_region (l := [_, _, _, _, _, _, _, _, _]) ?_
            refine ls_val (v := .slice A7_4 l7_4.length c7_4) rfl rfl (by kernel_rfl) (fun w => by kernel_rfl) ?_
            refine ls_val (v := .int .u64 ((l2).getD (x23_2).toNat (0 : Int))) rfl rfl (by kernel_rfl) (fun w => by kernel_rfl) ?_
            refine ls_val (v := .int .i64 x28_4) rfl rfl (by kernel_rfl) (fun w => by kernel_rfl) ?_
            refine ls_val (v := .int .i64 (IntKind.wrap .i64 ((8 : Int) * x28_4))) rfl rfl (by kernel_rfl) (fun w => by kernel_rfl) ?_
            obtain ⟨q10, H⟩ := ite_need H
            obtain ⟨y11, hy12, H⟩ := lt_some H
            refine ls_shiftr (k := .u64) (yk := .i64) (x := ((l2).getD (x23_2).toNat (0 : Int))) (y := (IntKind.wrap .i64 ((8 : Int) * x28_4))) rfl rfl (by kernel_rfl) (fun w => by kernel_rfl) q10 ?_
            refine ls_ren 35 (v := .int .u64 (shrv .u64 ((l2).getD (x23_2).toNat (0 : Int)) (IntKind.wrap .i64 ((8 : Int) * x28_4)))) (v' := .int .u64 y11) (by kernel_rfl) (by rw [hy12]) ?_
            refine ls_val (v := .int .u8 (IntKind.wrap .u8 y11)) rfl rfl (by kernel_rfl) (fun w => by kernel_rfl) ?_
            refine ls_lit (Ec.int 5 .u8) 1 rfl rfl (by kernel_rfl) ([IntKind.wrap .u8 y11]) (by exact of_decide_eq_true (by kernel_rfl)) (fun w => by kernel_rfl) ?_
            intro g13
            obtain ⟨q14, H⟩ := ite_need H
            refine ls_app (Ec.int 5 .u8) (A := A7_4) (c := c7_4) (B := (some ⟨g13, 0, none⟩)) (cb := [IntKind.wrap .u8 y11].length) (z := (Value.int .u8 0)) (l := l7_4) (m := [IntKind.wrap .u8 y11]) (bytes := 1) 0 rfl rfl (by kernel_rfl) rfl (by kernel_rfl) (by exact rfl) (by kernel_rfl) (fun w hs => (hs.rd (k := 1) (by exact rfl))) (by kernel_rfl) (by kernel_rfl) rfl (by decide) q14 ?_
            intro xA15 xc16
            refine ls_val (v := .slice xA15 (l7_4 ++ [IntKind.wrap .u8 y11]).length xc16) rfl rfl (by kernel_rfl) (fun w => by kernel_rfl) ?_
            refine ls_end ?_
            refine qn_block ?_
            refine qn_then ?_
            refine cs_region (l := [_, _]) ?_
            refine ls_val (v := .int .i64 (IntKind.wrap .i64 (x28_4 + (1 : Int)))) rfl rfl (by kernel_rfl) (fun w => by kernel_rfl) ?_
            refine ls_val (v := .int .i64 (IntKind.wrap .i64 (x28_4 + (1 : Int)))) rfl rfl (by kernel_rfl) (fun w => by kernel_rfl) ?_
            refine ls_end ?_
            refine qn_again k4 (sput s0 0 (some (Ck.sl (Ec.int 5 .u8) xA15 xc16 (l7_4 ++ [IntKind.wrap .u8 y11])))) (Nat.le_refl _) ⟨_, xA15, xc16, (l7_4 ++ [IntKind.wrap .u8 y11]), (IntKind.wrap .i64 (x28_4 + (1 : Int))), fr_next (fr_next (fr_next (fr_next (fr_next (fr_next (fr_next (fr_next (rfl) (by kernel_rfl)) (by kernel_rfl)) (by kernel_rfl)) (by kernel_rfl)) (by kernel_rfl)) (by kernel_rfl)) (by kernel_rfl)) (by kernel_rfl), rfl, H⟩ (sub_put (by exact rfl) (sub_nil _))
          · replace H := ite_f q9 H
            refine cs_know (c := false) (dec_f q9) 29 (by kernel_rfl) ?_
            refine cs_false (by kernel_rfl) ?_
            refine cs_exit' ?_
            refine qx_then ?_
            refine qx_then ?_
            refine qx_same ?_
            refine qn_block ?_
            refine qn_then ?_
            refine cs_region (l := [_, _]) ?_
            refine ls_val (v := .int .i64 (IntKind.wrap .i64 (x23_2 + (1 : Int)))) rfl rfl (by kernel_rfl) (fun w => by kernel_rfl) ?_
            refine ls_val (v := .int .i64 (IntKind.wrap .i64 (x23_2 + (1 : Int)))) rfl rfl (by kernel_rfl) (fun w => by kernel_rfl) ?_
            refine ls_end ?_
            refine qn_again k2 (sput s0 0 (some (Ck.sl (Ec.int 5 .u8) A7_4 c7_4 l7_4))) (Nat.le_refl _) ⟨_, A7_4, c7_4, l7_4, (IntKind.wrap .i64 (x23_2 + (1 : Int))), fr_next (fr_next (fr_next (fr_next (fr_next (rfl) (by kernel_rfl)) (by kernel_rfl)) (by kernel_rfl)) (by kernel_rfl)) (by kernel_rfl), rfl, H⟩ (sub_put (by exact rfl) (sub_nil _))

/-! ### shadowbox/pointer.Put: function 18 -/
def pointer_Put.tab9 : List (List Nat) := [[], [], [1], [1, 2], [1, 2, 3], [0, 1, 2, 3, 4], [], [6], [0, 1, 2, 3, 4, 5, 6, 7], [0, 1, 2, 3, 4, 5, 6, 7, 8]]
def pointer_Put.f (k : Nat) (l0 : List Int) (a1 : (Int × Int × Int × Int × (Vc Int 32))) : Option ((List Int)) :=
  (codec_Fixed.f k l0 (4 : Int) ([IntKind.wrap .u64 a1.1, IntKind.wrap .u64 a1.2.2.1])).bind fun t3 => (codec_Fixed.f k t3 (8 : Int) ([IntKind.wrap .u64 a1.2.1])).bind fun t7 => (codec_Fixed.f k t7 (4 : Int) ([IntKind.wrap .u64 a1.2.2.2.1])).bind fun t13 => (if (t13.length + a1.2.2.2.2.1.length) * 1 ≤ 140737488355328 then some (t13 ++ a1.2.2.2.2.1) else none)
set_option maxRecDepth 100000 in
set_option maxHeartbeats 4000000 in
theorem pointer_Put.calls (k : Nat) (A0 : Option Addr) (c0 : Nat) (l0 : List Int) (a1 : (Int × Int × Int × Int × (Vc Int 32))) (r : (List Int)) (b : Bs) (hs0 : St b (stl []) b.w) (R0 : Ro b A0 (em (Ec.int 5 .u8) l0)) (C0 : l0.length ≤ c0) (H : pointer_Put.f k l0 a1 = some r) :
    Calls Try.prog 18 #[.slice A0 l0.length c0, .agg ⟨([Value.int .i64 a1.1] ++ ([Value.int .i64 a1.2.1] ++ ([Value.int .i64 a1.2.2.1] ++ ([Value.int .u32 a1.2.2.2.1] ++ en (Value.int .u8) a1.2.2.2.2.1))))⟩] b.w fun e w' => ∃ x : (Option Addr × Nat), e = .returned (.slice x.1 r.length x.2) ∧ St b (stl [Ck.sl (Ec.int 5 .u8) x.1 x.2 r]) w' := by
  unfold pointer_Put.f at H
  refine enterb (n := 29) Try.func18 rfl (by kernel_rfl) (by kernel_rfl) hs0 ?_
  refine cs_sub (s0) (sub_nil _) ?_
  refine cs_seq ?_
  refine cs_region (l := [_, _]) ?_
  refine ls_new rfl rfl (by kernel_rfl) 0 (fun g => .pointer (some ⟨g, 0, none⟩)) (.cells ⟨([Value.int .i64 a1.1] ++ ([Value.int .i64 a1.2.1] ++ ([Value.int .i64 a1.2.2.1] ++ ([Value.int .u32 a1.2.2.2.1] ++ en (Value.int .u8) a1.2.2.2.2.1))))⟩ 25) (fun w => by kernel_rfl) ?_
  intro g1
  refine ls_val (v := .slice none 0 0) rfl rfl (by kernel_rfl) (fun w => by kernel_rfl) ?_
  refine ls_end ?_
  refine qn_then ?_
  refine cs_seq ?_
  refine cs_region (l := [_, _, _, _, _, _, _, _, _, _]) ?_
  refine ls_val (v := .slice A0 l0.length c0) rfl rfl (by kernel_rfl) (fun w => by kernel_rfl) ?_
  refine ls_val (v := .pointer (some ⟨g1, (0 + 0), none⟩)) rfl rfl (by kernel_rfl) (fun w => by kernel_rfl) ?_
  refine ls_load (a0 := ⟨g1, (0 + 0), none⟩) (v := .int .i64 a1.1) (de := (TypeDesc.int .i64)) rfl rfl (by kernel_rfl) rfl (by kernel_rfl) (by kernel_rfl) (by kernel_rfl) (fun w hs => (hs.var (k := 0) (by exact rfl) (Sub4.trans (Sub4.all _) (Sub4.head _ _)))) ?_
  refine ls_val (v := .int .u64 (IntKind.wrap .u64 a1.1)) rfl rfl (by kernel_rfl) (fun w => by kernel_rfl) ?_
  refine ls_val (v := .pointer (some ⟨g1, (0 + 2), none⟩)) rfl rfl (by kernel_rfl) (fun w => by kernel_rfl) ?_
  refine ls_load (a0 := ⟨g1, (0 + 2), none⟩) (v := .int .i64 a1.2.2.1) (de := (TypeDesc.int .i64)) rfl rfl (by kernel_rfl) rfl (by kernel_rfl) (by kernel_rfl) (by kernel_rfl) (fun w hs => (hs.var (k := 0) (by exact rfl) (Sub4.trans (Sub4.all _) (Sub4.skip (n := 1) (len1 _) (Sub4.skip (n := 1) (len1 _) (Sub4.head _ _)))))) ?_
  refine ls_val (v := .int .u64 (IntKind.wrap .u64 a1.2.2.1)) rfl rfl (by kernel_rfl) (fun w => by kernel_rfl) ?_
  refine ls_lit (Ec.int 62 .u64) 1 rfl rfl (by kernel_rfl) ([IntKind.wrap .u64 a1.1, IntKind.wrap .u64 a1.2.2.1]) (by exact of_decide_eq_true (by kernel_rfl)) (fun w => by kernel_rfl) ?_
  intro g2
  obtain ⟨t3, hc4, H⟩ := bind_some H
  refine ls_callb (fid := 34) (vals := #[.slice A0 l0.length c0, .int .i64 (4 : Int), .slice (some ⟨g2, 0, none⟩) ([IntKind.wrap .u64 a1.1, IntKind.wrap .u64 a1.2.2.1]).length [IntKind.wrap .u64 a1.1, IntKind.wrap .u64 a1.2.2.1].length]) (X := (Option Addr × Nat)) (fun x => .slice x.1 t3.length x.2) (fun x => stl [Ck.sl (Ec.int 5 .u8) x.1 x.2 t3]) [] [1] [] [Ck.sl (Ec.int 62 .u64) (some ⟨g2, 0, none⟩) ([IntKind.wrap .u64 a1.1, IntKind.wrap .u64 a1.2.2.1].length) ([IntKind.wrap .u64 a1.1, IntKind.wrap .u64 a1.2.2.1])] 2 rfl rfl (by kernel_rfl) (fun w => by kernel_rfl) trivial ⟨by exact rfl, trivial⟩ (by decide) (fun w hs hb => codec_Fixed.calls k A0 c0 l0 (4 : Int) (some ⟨g2, 0, none⟩) ([IntKind.wrap .u64 a1.1, IntKind.wrap .u64 a1.2.2.1].length) ([IntKind.wrap .u64 a1.1, IntKind.wrap .u64 a1.2.2.1]) t3 (lent b w [] [Ck.sl (Ec.int 62 .u64) (some ⟨g2, 0, none⟩) ([IntKind.wrap .u64 a1.1, IntKind.wrap .u64 a1.2.2.1].length) ([IntKind.wrap .u64 a1.1, IntKind.wrap .u64 a1.2.2.1])]) hb (hs.ro R0 _ _) C0 (hs.ror (k := 1) (by exact rfl) (.head _)) (hs.cap (k := 1) (by exact rfl)) hc4) ?_
  intro x5
  refine ls_val (v := .slice x5.1 t3.length x5.2) rfl rfl (by kernel_rfl) (fun w => by kernel_rfl) ?_
  refine ls_end ?_
  refine qn_then ?_
  refine cs_seq ?_
  refine cs_region (l := [_, _, _, _, _, _, _]) ?_
  refine ls_val (v := .slice x5.1 t3.length x5.2) rfl rfl (by kernel_rfl) (fun w => by kernel_rfl) ?_
  refine ls_val (v := .pointer (some ⟨g1, (0 + 1), none⟩)) rfl rfl (by kernel_rfl) (fun w => by kernel_rfl) ?_
  refine ls_load (a0 := ⟨g1, (0 + 1), none⟩) (v := .int .i64 a1.2.1) (de := (TypeDesc.int .i64)) rfl rfl (by kernel_rfl) rfl (by kernel_rfl) (by kernel_rfl) (by kernel_rfl) (fun w hs => (hs.var (k := 0) (by exact rfl) (Sub4.trans (Sub4.all _) (Sub4.skip (n := 1) (len1 _) (Sub4.head _ _))))) ?_
  refine ls_val (v := .int .u64 (IntKind.wrap .u64 a1.2.1)) rfl rfl (by kernel_rfl) (fun w => by kernel_rfl) ?_
  refine ls_lit (Ec.int 62 .u64) 3 rfl rfl (by kernel_rfl) ([IntKind.wrap .u64 a1.2.1]) (by exact of_decide_eq_true (by kernel_rfl)) (fun w => by kernel_rfl) ?_
  intro g6
  obtain ⟨t7, hc8, H⟩ := bind_some H
  refine ls_callb (fid := 34) (vals := #[.slice x5.1 t3.length x5.2, .int .i64 (8 : Int), .slice (some ⟨g6, 0, none⟩) ([IntKind.wrap .u64 a1.2.1]).length [IntKind.wrap .u64 a1.2.1].length]) (X := (Option Addr × Nat)) (fun x => .slice x.1 t7.length x.2) (fun x => stl [Ck.sl (Ec.int 5 .u8) x.1 x.2 t7]) [] [2, 3] [] [Ck.sl (Ec.int 5 .u8) x5.1 x5.2 t3, Ck.sl (Ec.int 62 .u64) (some ⟨g6, 0, none⟩) ([IntKind.wrap .u64 a1.2.1].length) ([IntKind.wrap .u64 a1.2.1])] 4 rfl rfl (by kernel_rfl) (fun w => by kernel_rfl) trivial ⟨by exact rfl, by exact rfl, trivial⟩ (by decide) (fun w hs hb => codec_Fixed.calls k x5.1 x5.2 t3 (8 : Int) (some ⟨g6, 0, none⟩) ([IntKind.wrap .u64 a1.2.1].length) ([IntKind.wrap .u64 a1.2.1]) t7 (lent b w [] [Ck.sl (Ec.int 5 .u8) x5.1 x5.2 t3, Ck.sl (Ec.int 62 .u64) (some ⟨g6, 0, none⟩) ([IntKind.wrap .u64 a1.2.1].length) ([IntKind.wrap .u64 a1.2.1])]) hb (hs.ror (k := 2) (by exact rfl) (.head _)) (hs.cap (k := 2) (by exact rfl)) (hs.ror (k := 3) (by exact rfl) (.tail _ (.head _))) (hs.cap (k := 3) (by exact rfl)) hc8) ?_
  intro x9
  refine ls_val (v := .slice x9.1 t7.length x9.2) rfl rfl (by kernel_rfl) (fun w => by kernel_rfl) ?_
  refine ls_end ?_
  refine qn_then ?_
  refine cs_seq ?_
  obtain ⟨s11_0, hs11_0⟩ : ∃ z : Value → Sto → Prop, z = (fun v R => v = .slice x9.1 t7.length x9.2 ∧ R = s0) := ⟨_, rfl⟩
  refine have_op (l := [_, _, _, _, _, _, _, _, _, _]) pointer_Put.tab9 5 0 (fun sp => sp 0 = s11_0) (fun sp on hA hon => ?_) (fun ops11_0 => ?_)
  · refine ⟨fun o ho vs Rs f' S' w hp hf hx hS hR hs => ?_⟩
    obtain rfl := Option.some.inj ho
    rw [hA, hs11_0]
    refine And.intro (fun a ha => (want_none rfl a ha).trans hon.symm) (And.intro (fun _ => ?_) (fun h => by rw [hon] at h; cases h))
    have hF := fr_next (rfl) ((hx 0 (by kernel_rfl)).trans (by kernel_rfl : (_ : Value) = .slice x9.1 t7.length x9.2))
    refine ls_fr hF ?_
    refine ls_val (v := .slice x9.1 t7.length x9.2) rfl rfl (by kernel_rfl) (fun w => by kernel_rfl) ?_
    exact ls_fin s0 (.slice x9.1 t7.length x9.2) (congrArg (fun z => upd z 20 _) hF.symm) ⟨rfl, rfl⟩ (sub_nil _)
  obtain ⟨s11_1, hs11_1⟩ : ∃ z : Value → Sto → Prop, z = (fun v R => v = .pointer (some ⟨g1, (0 + 3), none⟩) ∧ R = s0) := ⟨_, rfl⟩
  refine have_op (l := [_, _, _, _, _, _, _, _, _, _]) pointer_Put.tab9 5 1 (fun sp => sp 1 = s11_1) (fun sp on hA hon => ?_) (fun ops11_1 => ?_)
  · refine ⟨fun o ho vs Rs f' S' w hp hf hx hS hR hs => ?_⟩
    obtain rfl := Option.some.inj ho
    rw [hA, hs11_1]
    refine And.intro (fun a ha => (want_none rfl a ha).trans hon.symm) (And.intro (fun _ => ?_) (fun h => by rw [hon] at h; cases h))
    have hF := fr_next (rfl) ((hx 3 (by kernel_rfl)).trans (by kernel_rfl : (_ : Value) = .pointer (some ⟨g1, 0, none⟩)))
    refine ls_fr hF ?_
    refine ls_val (v := .pointer (some ⟨g1, (0 + 3), none⟩)) rfl rfl (by kernel_rfl) (fun w => by kernel_rfl) ?_
    exact ls_fin s0 (.pointer (some ⟨g1, (0 + 3), none⟩)) (congrArg (fun z => upd z 21 _) hF.symm) ⟨rfl, rfl⟩ (sub_nil _)
  obtain ⟨s11_2, hs11_2⟩ : ∃ z : Value → Sto → Prop, z = (fun v R => v = .int .u32 a1.2.2.2.1 ∧ R = s0) := ⟨_, rfl⟩
  refine have_op (l := [_, _, _, _, _, _, _, _, _, _]) pointer_Put.tab9 5 2 (fun sp => sp 2 = s11_2 ∧ sp 1 = s11_1) (fun sp on hA hon => ?_) (fun ops11_2 => ?_)
  · refine ⟨fun o ho vs Rs f' S' w hp hf hx hS hR hs => ?_⟩
    obtain rfl := Option.some.inj ho
    obtain ⟨hv1, hR1⟩ := (spe hA.2 hs11_1 (hp 1 (by kernel_rfl)))
    rw [hA.1, hs11_2]
    refine And.intro (fun a ha => (want_none rfl a ha).trans hon.symm) (And.intro (fun _ => ?_) (fun h => by rw [hon] at h; cases h))
    have hF := fr_next (rfl) ((hf 1 21 (by kernel_rfl) rfl).trans hv1)
    refine ls_fr hF ?_
    refine ls_load (a0 := ⟨g1, (0 + 3), none⟩) (v := .int .u32 a1.2.2.2.1) (de := (TypeDesc.int .u32)) rfl rfl (by kernel_rfl) rfl (by kernel_rfl) (by kernel_rfl) (by kernel_rfl) (fun w1 hs1 => cell_step hs1.below.bw (hs.var (k := 0) ((hS 0 (by kernel_rfl)).trans (by exact rfl)) (Sub4.trans (Sub4.all _) (Sub4.skip (n := 1) (len1 _) (Sub4.skip (n := 1) (len1 _) (Sub4.skip (n := 1) (len1 _) (Sub4.head _ _))))))) ?_
    exact ls_fin s0 (.int .u32 a1.2.2.2.1) (congrArg (fun z => upd z 22 _) hF.symm) ⟨rfl, rfl⟩ (sub_nil _)
  obtain ⟨s11_3, hs11_3⟩ : ∃ z : Value → Sto → Prop, z = (fun v R => v = .int .u64 (IntKind.wrap .u64 a1.2.2.2.1) ∧ R = s0) := ⟨_, rfl⟩
  refine have_op (l := [_, _, _, _, _, _, _, _, _, _]) pointer_Put.tab9 5 3 (fun sp => sp 3 = s11_3 ∧ sp 2 = s11_2) (fun sp on hA hon => ?_) (fun ops11_3 => ?_)
  · refine ⟨fun o ho vs Rs f' S' w hp hf hx hS hR hs => ?_⟩
    obtain rfl := Option.some.inj ho
    obtain ⟨hv2, hR2⟩ := (spe hA.2 hs11_2 (hp 2 (by kernel_rfl)))
    rw [hA.1, hs11_3]
    refine And.intro (fun a ha => (want_none rfl a ha).trans hon.symm) (And.intro (fun _ => ?_) (fun h => by rw [hon] at h; cases h))
    have hF := fr_next (rfl) ((hf 2 22 (by kernel_rfl) rfl).trans hv2)
    refine ls_fr hF ?_
    refine ls_val (v := .int .u64 (IntKind.wrap .u64 a1.2.2.2.1)) rfl rfl (by kernel_rfl) (fun w => by kernel_rfl) ?_
    exact ls_fin s0 (.int .u64 (IntKind.wrap .u64 a1.2.2.2.1)) (congrArg (fun z => upd z 23 _) hF.symm) ⟨rfl, rfl⟩ (sub_nil _)
  obtain ⟨s11_4, hs11_4⟩ : ∃ z : Value → Sto → Prop, z = (fun v R => ∃ g12 : Nat, v = .slice (some ⟨g12, 0, none⟩) [IntKind.wrap .u64 a1.2.2.2.1].length [IntKind.wrap .u64 a1.2.2.2.1].length ∧ R = sput s0 0 (some (Ck.sl (Ec.int 62 .u64) (some ⟨g12, 0, none⟩) ([IntKind.wrap .u64 a1.2.2.2.1].length) ([IntKind.wrap .u64 a1.2.2.2.1])))) := ⟨_, rfl⟩
  refine have_op (l := [_, _, _, _, _, _, _, _, _, _]) pointer_Put.tab9 5 4 (fun sp => sp 4 = s11_4 ∧ sp 3 = s11_3) (fun sp on hA hon => ?_) (fun ops11_4 => ?_)
  · refine ⟨fun o ho vs Rs f' S' w hp hf hx hS hR hs => ?_⟩
    obtain rfl := Option.some.inj ho
    obtain ⟨hv3, hR3⟩ := (spe hA.2 hs11_3 (hp 3 (by kernel_rfl)))
    rw [hA.1, hs11_4]
    refine And.intro (fun a ha => (want_none rfl a ha).trans hon.symm) (And.intro (fun _ => ?_) (fun h => by rw [hon] at h; cases h))
    have hF := fr_next (rfl) ((hf 3 23 (by kernel_rfl) rfl).trans hv3)
    refine ls_fr hF ?_
    refine ls_lit (Ec.int 62 .u64) 0 rfl rfl (by kernel_rfl) ([IntKind.wrap .u64 a1.2.2.2.1]) (by exact of_decide_eq_true (by kernel_rfl)) (fun w => by kernel_rfl) ?_
    intro g12
    exact ls_fin (sput s0 0 (some (Ck.sl (Ec.int 62 .u64) (some ⟨g12, 0, none⟩) ([IntKind.wrap .u64 a1.2.2.2.1].length) ([IntKind.wrap .u64 a1.2.2.2.1])))) (.slice (some ⟨g12, 0, none⟩) [IntKind.wrap .u64 a1.2.2.2.1].length [IntKind.wrap .u64 a1.2.2.2.1].length) (congrArg (fun z => upd z 24 _) hF.symm) ⟨g12, rfl, rfl⟩ (sub_put (by exact rfl) (sub_nil _))
  obtain ⟨t13, hc14, H⟩ := bind_some H
  obtain ⟨s11_5, hs11_5⟩ : ∃ z : Value → Sto → Prop, z = (fun v R => ∃ x15 : (Option Addr × Nat), v = .slice x15.1 t13.length x15.2 ∧ R = stl [Ck.sl (Ec.int 5 .u8) x15.1 x15.2 t13]) := ⟨_, rfl⟩
  refine have_op (l := [_, _, _, _, _, _, _, _, _, _]) pointer_Put.tab9 5 5 (fun sp => sp 5 = s11_5 ∧ sp 0 = s11_0 ∧ sp 4 = s11_4) (fun sp on hA hon => ?_) (fun ops11_5 => ?_)
  · refine ⟨fun o ho vs Rs f' S' w hp hf hx hS hR hs => ?_⟩
    obtain rfl := Option.some.inj ho
    obtain ⟨hv0, hR0⟩ := (spe hA.2.1 hs11_0 (hp 0 (by kernel_rfl)))
    obtain ⟨g12, hv4, hR4⟩ := (spe hA.2.2 hs11_4 (hp 4 (by kernel_rfl)))
    have hT4_0 := (hR 4 0 (by kernel_rfl) (by decide)).trans (congrFun hR4 0)
    rw [hA.1, hs11_5]
    refine And.intro (fun a ha => (want_none rfl a ha).trans hon.symm) (And.intro (fun _ => ?_) (fun h => by rw [hon] at h; cases h))
    have hF := fr_next (fr_next (rfl) ((hf 0 20 (by kernel_rfl) rfl).trans hv0)) ((hf 4 24 (by kernel_rfl) rfl).trans hv4)
    refine ls_fr hF ?_
    refine ls_call (fid := 34) (vals := #[.slice x9.1 t7.length x9.2, .int .i64 (4 : Int), .slice (some ⟨g12, 0, none⟩) ([IntKind.wrap .u64 a1.2.2.2.1]).length [IntKind.wrap .u64 a1.2.2.2.1].length]) (X := (Option Addr × Nat)) (fun x => .slice x.1 t13.length x.2) (fun x => stl [Ck.sl (Ec.int 5 .u8) x.1 x.2 t13]) 0 rfl rfl (by kernel_rfl) (fun w => by kernel_rfl) (fun w1 hs1 => codec_Fixed.calls k x9.1 x9.2 t7 (4 : Int) (some ⟨g12, 0, none⟩) ([IntKind.wrap .u64 a1.2.2.2.1].length) ([IntKind.wrap .u64 a1.2.2.2.1]) t13 (bw w1) (St.refl w1) (Rd.ro (Rd.step (hs.rd (k := 4) ((hS 4 (by kernel_rfl)).trans (by exact rfl))) hs1.below.bw)) (hs.cap (k := 4) ((hS 4 (by kernel_rfl)).trans (by exact rfl))) (Rd.ro (Rd.step (hs.rd (k := 37) hT4_0) hs1.below.bw)) (hs.cap (k := 37) hT4_0) hc14) ?_
    intro x15
    exact ls_fin (stl [Ck.sl (Ec.int 5 .u8) x15.1 x15.2 t13]) (.slice x15.1 t13.length x15.2) (congrArg (fun z => upd z 25 _) hF.symm) ⟨x15, rfl, rfl⟩ (sub_join _)
  obtain ⟨s11_6, hs11_6⟩ : ∃ z : Value → Sto → Prop, z = (fun v R => v = .pointer (some ⟨g1, (0 + 4), none⟩) ∧ R = s0) := ⟨_, rfl⟩
  refine have_op (l := [_, _, _, _, _, _, _, _, _, _]) pointer_Put.tab9 5 6 (fun sp => sp 6 = s11_6) (fun sp on hA hon => ?_) (fun ops11_6 => ?_)
  · refine ⟨fun o ho vs Rs f' S' w hp hf hx hS hR hs => ?_⟩
    obtain rfl := Option.some.inj ho
    rw [hA, hs11_6]
    refine And.intro (fun a ha => (want_none rfl a ha).trans hon.symm) (And.intro (fun _ => ?_) (fun h => by rw [hon] at h; cases h))
    have hF := fr_next (rfl) ((hx 3 (by kernel_rfl)).trans (by kernel_rfl : (_ : Value) = .pointer (some ⟨g1, 0, none⟩)))
    refine ls_fr hF ?_
    refine ls_val (v := .pointer (some ⟨g1, (0 + 4), none⟩)) rfl rfl (by kernel_rfl) (fun w => by kernel_rfl) ?_
    exact ls_fin s0 (.pointer (some ⟨g1, (0 + 4), none⟩)) (congrArg (fun z => upd z 26 _) hF.symm) ⟨rfl, rfl⟩ (sub_nil _)
  obtain ⟨s11_7, hs11_7⟩ : ∃ z : Value → Sto → Prop, z = (fun v R => v = .slice (some ⟨g1, (0 + 4), none⟩) a1.2.2.2.2.1.length 32 ∧ R = s0) := ⟨_, rfl⟩
  refine have_op (l := [_, _, _, _, _, _, _, _, _, _]) pointer_Put.tab9 5 7 (fun sp => sp 7 = s11_7 ∧ sp 6 = s11_6) (fun sp on hA hon => ?_) (fun ops11_7 => ?_)
  · refine ⟨fun o ho vs Rs f' S' w hp hf hx hS hR hs => ?_⟩
    obtain rfl := Option.some.inj ho
    obtain ⟨hv6, hR6⟩ := (spe hA.2 hs11_6 (hp 6 (by kernel_rfl)))
    rw [hA.1, hs11_7]
    refine And.intro (fun a ha => (want_none rfl a ha).trans hon.symm) (And.intro (fun _ => ?_) (fun h => by rw [hon] at h; cases h))
    have hF := fr_next (rfl) ((hf 6 26 (by kernel_rfl) rfl).trans hv6)
    refine ls_fr hF ?_
    refine ls_val (v := .slice (some ⟨g1, (0 + 4), none⟩) a1.2.2.2.2.1.length 32) rfl rfl (by kernel_rfl) (fun w => by rw [show a1.2.2.2.2.1.length = 32 from a1.2.2.2.2.2]; kernel_rfl) ?_
    exact ls_fin s0 (.slice (some ⟨g1, (0 + 4), none⟩) a1.2.2.2.2.1.length 32) (congrArg (fun z => upd z 27 _) hF.symm) ⟨rfl, rfl⟩ (sub_nil _)
  refine cs_draw pointer_Put.tab9 8 5 (spl [s11_0, s11_1, s11_2, s11_3, s11_4, s11_5, s11_6, s11_7]) (onl [true, true, true, true, true, true, true, true]) (by kernel_rfl) (by kernel_rfl) (by kernel_rfl) (by kernel_rfl) (rs := [_, _]) rfl (by kernel_rfl) (by kernel_rfl) (all_snoc (all_snoc (all_snoc (all_snoc (all_snoc (all_snoc (all_snoc (all_snoc (all_nil) (ops11_0 _ _ rfl rfl)) (ops11_1 _ _ rfl rfl)) (ops11_2 _ _ ⟨rfl, rfl⟩ rfl)) (ops11_3 _ _ ⟨rfl, rfl⟩ rfl)) (ops11_4 _ _ ⟨rfl, rfl⟩ rfl)) (ops11_5 _ _ ⟨rfl, rfl, rfl⟩ rfl)) (ops11_6 _ _ rfl rfl)) (ops11_7 _ _ ⟨rfl, rfl⟩ rfl)) ?_
  intro vs Rs f' S' hp hf hx hS hR
  obtain ⟨g12, hv4, hR4⟩ := (spe rfl hs11_4 (hp 4 (by kernel_rfl)))
  have hT4_0 := (hR 4 0 (by kernel_rfl) (by decide)).trans (congrFun hR4 0)
  obtain ⟨x15, hv5, hR5⟩ := (spe rfl hs11_5 (hp 5 (by kernel_rfl)))
  have hT5_0 := (hR 5 0 (by kernel_rfl) (by decide)).trans (congrFun hR5 0)
  obtain ⟨hv7, hR7⟩ := (spe rfl hs11_7 (hp 7 (by kernel_rfl)))
  refine ls_fr (F := upd (upd f' 25 (.slice x15.1 t13.length x15.2)) 27 (.slice (some ⟨g1, (0 + 4), none⟩) a1.2.2.2.2.1.length 32)) (fr_next (fr_next (rfl) ((hf 5 25 (by kernel_rfl) rfl).trans hv5)) ((hf 7 27 (by kernel_rfl) rfl).trans hv7)) ?_
  refine ls_sub (sput (sput s0 0 (some (Ck.var 25 g1 (([Value.int .i64 a1.1] ++ ([Value.int .i64 a1.2.1] ++ ([Value.int .i64 a1.2.2.1] ++ ([Value.int .u32 a1.2.2.2.1] ++ en (Value.int .u8) a1.2.2.2.2.1)))))))) 45 (some (Ck.sl (Ec.int 5 .u8) x15.1 x15.2 t13))) (sub_put (by exact hT5_0) (sub_put ((hS 0 (by kernel_rfl)).trans (by exact rfl)) (sub_nil _))) ?_
  obtain ⟨q16, H⟩ := ite_need H
  refine ls_app (Ec.int 5 .u8) (A := x15.1) (c := x15.2) (B := (some ⟨g1, (0 + 4), none⟩)) (cb := 32) (z := (Value.int .u8 0)) (l := t13) (m := a1.2.2.2.2.1) (bytes := 1) 45 rfl rfl (by kernel_rfl) rfl (by kernel_rfl) (by exact rfl) (by kernel_rfl) (fun w hs => (Rd.ofen (t := 5) (hs.vars (k := 0) (by exact rfl) (Sub4.trans (Sub4.all _) (Sub4.skip (n := 1) (len1 _) (Sub4.skip (n := 1) (len1 _) (Sub4.skip (n := 1) (len1 _) (Sub4.skip (n := 1) (len1 _) (Sub4.all _))))))))) (by kernel_rfl) (by kernel_rfl) rfl (by decide) q16 ?_
  intro xA17 xc18
  refine ls_val (v := .slice xA17 (t13 ++ a1.2.2.2.2.1).length xc18) rfl rfl (by kernel_rfl) (fun w => by kernel_rfl) ?_
  refine ls_end ?_
  refine qn_then ?_
  refine cs_ret' ?_
  obtain rfl := Option.some.inj H
  refine qr_res (rs := [_]) rfl (fun w' hs => ⟨[.slice xA17 (t13 ++ a1.2.2.2.2.1).length xc18], (res_tmp (by kernel_rfl) (.nil)), (xA17, xc18), rfl, hs.pick (ts := [45]) (cs := [Ck.sl (Ec.int 5 .u8) xA17 xc18 (t13 ++ a1.2.2.2.2.1)]) ⟨by exact rfl, trivial⟩ (by decide)⟩)

/-! ### shadowbox/shadowboxref01.Fixed: function 35 -/
def shadowboxref01_Fixed.lo1 (a1 : Int) : Nat → Int → (List Int) → Int → Option ((List Int))
  | 0, _, _, _ => none
  | k1 + 1, x2_1, l7_1, x8_1 => (if x8_1 < a1 then (if a1 ≤ (8 : Int) then lt (IntKind.wrap .u8 (Int.tmod x2_1 (256 : Int))) fun y7 => (if (l7_1.length + ([y7]).length) * 1 ≤ 140737488355328 then lt (IntKind.wrap .u64 (Int.tdiv x2_1 (256 : Int))) fun y13 => (shadowboxref01_Fixed.lo1 a1 k1) y13 (l7_1 ++ [y7]) (IntKind.wrap .i64 (x8_1 + (1 : Int))) else none) else some l7_1) else some l7_1)
def shadowboxref01_Fixed.f (k : Nat) (l0 : List Int) (a1 : Int) (a2 : Int) : Option ((List Int)) :=
  (if (([] : List Int).length + l0.length) * 1 ≤ 140737488355328 then shadowboxref01_Fixed.lo1 a1 k a2 (([] : List Int) ++ l0) (0 : Int) else none)
set_option maxRecDepth 100000 in
set_option maxHeartbeats 4000000 in
theorem shadowboxref01_Fixed.calls (k : Nat) (A0 : Option Addr) (c0 : Nat) (l0 : List Int) (a1 : Int) (a2 : Int) (r : (List Int)) (b : Bs) (hs0 : St b (stl []) b.w) (R0 : Ro b A0 (em (Ec.int 5 .u8) l0)) (C0 : l0.length ≤ c0) (H : shadowboxref01_Fixed.f k l0 a1 a2 = some r) :
    Calls Try.prog 35 #[.slice A0 l0.length c0, .int .i64 a1, .int .u64 a2] b.w fun e w' => ∃ x : (Option Addr × Nat), e = .returned (.slice x.1 r.length x.2) ∧ St b (stl [Ck.sl (Ec.int 5 .u8) x.1 x.2 r]) w' := by
  unfold shadowboxref01_Fixed.f at H
  refine enterb (n := 30) Try.func35 rfl (by kernel_rfl) (by kernel_rfl) hs0 ?_
  refine cs_sub (s0) (sub_nil _) ?_
  refine cs_seq ?_
  refine cs_region (l := [_]) ?_
  refine ls_val (v := .slice none 0 0) rfl rfl (by kernel_rfl) (fun w => by kernel_rfl) ?_
  refine ls_end ?_
  refine qn_then ?_
  refine cs_seq ?_
  refine cs_region (l := [_, _, _, _]) ?_
  refine ls_lit (Ec.int 5 .u8) 0 rfl rfl (by kernel_rfl) ([] : List Int) (by exact of_decide_eq_true (by kernel_rfl)) (fun w => by kernel_rfl) ?_
  intro g1
  refine ls_val (v := .slice A0 l0.length c0) rfl rfl (by kernel_rfl) (fun w => by kernel_rfl) ?_
  obtain ⟨q2, H⟩ := ite_need H
  refine ls_app (Ec.int 5 .u8) (A := (some ⟨g1, 0, none⟩)) (c := ([] : List Int).length) (B := A0) (cb := c0) (z := (Value.int .u8 0)) (l := ([] : List Int)) (m := l0) (bytes := 1) 0 rfl rfl (by kernel_rfl) rfl (by kernel_rfl) (by exact rfl) (by kernel_rfl) (fun w hs => (hs.old R0)) (by kernel_rfl) (by kernel_rfl) rfl (by decide) q2 ?_
  intro xA3 xc4
  refine ls_val (v := .slice xA3 (([] : List Int) ++ l0).length xc4) rfl rfl (by kernel_rfl) (fun w => by kernel_rfl) ?_
  refine ls_end ?_
  refine qn_then ?_
  refine cs_seq ?_
  refine cs_seq ?_
  refine cs_region (l := [_]) ?_
  refine ls_val (v := .int .i64 (0 : Int)) rfl rfl (by kernel_rfl) (fun w => by kernel_rfl) ?_
  refine ls_end ?_
  refine qn_then ?_
  refine cs_block ?_
  refine cs_sub (sput s0 0 (some (Ck.sl (Ec.int 5 .u8) xA3 xc4 (([] : List Int) ++ l0)))) (sub_put (by exact rfl) (sub_nil _)) ?_
  refine cs_loop (fun kk f S => ∃ (fR : Fr) (x2_1 : Int) (A7_1 : Option Addr) (c7_1 : Nat) (l7_1 : List Int) (x8_1 : Int), f = upd (upd (upd (upd fR 1 (.int .i64 a1)) 2 (.int .u64 x2_1)) 7 (.slice A7_1 l7_1.length c7_1)) 8 (.int .i64 x8_1) ∧ S = sput s0 0 (some (Ck.sl (Ec.int 5 .u8) A7_1 c7_1 l7_1)) ∧ shadowboxref01_Fixed.lo1 a1 kk x2_1 l7_1 x8_1 = some r) k ?_ ?_ ?_
  · exact ⟨_, a2, xA3, xc4, (([] : List Int) ++ l0), (0 : Int), fr_next (fr_next (fr_next (fr_next (rfl) (by kernel_rfl)) (by kernel_rfl)) (by kernel_rfl)) (by kernel_rfl), rfl, H⟩
  · rintro f S ⟨fr1, x2_1, A7_1, c7_1, l7_1, x8_1, rfl, rfl, H⟩; cases H
  · rintro k1 f S ⟨fr1, x2_1, A7_1, c7_1, l7_1, x8_1, rfl, rfl, H⟩
    replace H : ((if x8_1 < a1 then (if a1 ≤ (8 : Int) then lt (IntKind.wrap .u8 (Int.tmod x2_1 (256 : Int))) fun y7 => (if (l7_1.length + ([y7]).length) * 1 ≤ 140737488355328 then lt (IntKind.wrap .u64 (Int.tdiv x2_1 (256 : Int))) fun y13 => (shadowboxref01_Fixed.lo1 a1 k1) y13 (l7_1 ++ [y7]) (IntKind.wrap .i64 (x8_1 + (1 : Int))) else none) else some l7_1) else some l7_1)) = some r := H
    refine cs_seq ?_
    refine cs_seq ?_
    refine cs_region (l := [_, _, _, _, _, _, _]) ?_
    refine ls_val (v := .int .i64 x8_1) rfl rfl (by kernel_rfl) (fun w => by kernel_rfl) ?_
    refine ls_val (v := .int .i64 a1) rfl rfl (by kernel_rfl) (fun w => by kernel_rfl) ?_
    refine ls_val (v := .bool (decide (x8_1 < a1))) rfl rfl (by kernel_rfl) (fun w => by kernel_rfl) ?_
    refine ls_val (v := .bool (decide (x8_1 < a1))) rfl rfl (by kernel_rfl) (fun w => by kernel_rfl) ?_
    by_cases q5 : x8_1 < a1
    · replace H := ite_t q5 H
      refine ls_know (c := true) (dec_t q5) 15 (by kernel_rfl) ?_
      refine ls_on (j := 3) (t := 15) (b := true) rfl rfl (by kernel_rfl) (by kernel_rfl) ?_
      refine ls_val (v := .int .i64 a1) rfl rfl (by kernel_rfl) (fun w => by kernel_rfl) ?_
      refine ls_on (j := 3) (t := 15) (b := true) rfl rfl (by kernel_rfl) (by kernel_rfl) ?_
      refine ls_val (v := .bool (decide (a1 ≤ (8 : Int)))) rfl rfl (by kernel_rfl) (fun w => by kernel_rfl) ?_
      refine ls_val (v := .bool (decide (a1 ≤ (8 : Int)))) rfl rfl (by kernel_rfl) (fun w => by kernel_rfl) ?_
      refine ls_end ?_
      refine qn_then ?_
      by_cases q6 : a1 ≤ (8 : Int)
      · replace H := ite_t q6 H
        refine cs_know (c := true) (dec_t q6) 18 (by kernel_rfl) ?_
        refine cs_true (by kernel_rfl) ?_
        refine cs_skip' ?_
        refine qn_then ?_
        refine cs_seq ?_
        refine cs_block ?_
        refine cs_seq ?_
        refine cs_region (l := [_, _, _, _, _, _, _]) ?_
        refine ls_val (v := .slice A7_1 l7_1.length c7_1) rfl rfl (by kernel_rfl) (fun w => by kernel_rfl) ?_
        refine ls_val (v := .int .u64 x2_1) rfl rfl (by kernel_rfl) (fun w => by kernel_rfl) ?_
        refine ls_val (v := .int .u64 (Int.tmod x2_1 (256 : Int))) rfl rfl (by kernel_rfl) (fun w => by kernel_rfl) ?_
        obtain ⟨y7, hy8, H⟩ := lt_some H
        refine ls_val (v := .int .u8 (IntKind.wrap .u8 (Int.tmod x2_1 (256 : Int)))) rfl rfl (by kernel_rfl) (fun w => by kernel_rfl) ?_
        refine ls_ren 24 (v := .int .u8 (IntKind.wrap .u8 (Int.tmod x2_1 (256 : Int)))) (v' := .int .u8 y7) (by kernel_rfl) (by rw [hy8]) ?_
        refine ls_lit (Ec.int 5 .u8) 1 rfl rfl (by kernel_rfl) ([y7]) (by exact of_decide_eq_true (by kernel_rfl)) (fun w => by kernel_rfl) ?_
        intro g9
        obtain ⟨q10, H⟩ := ite_need H
        refine ls_app (Ec.int 5 .u8) (A := A7_1) (c := c7_1) (B := (some ⟨g9, 0, none⟩)) (cb := [y7].length) (z := (Value.int .u8 0)) (l := l7_1) (m := [y7]) (bytes := 1) 0 rfl rfl (by kernel_rfl) rfl (by kernel_rfl) (by exact rfl) (by kernel_rfl) (fun w hs => (hs.rd (k := 1) (by exact rfl))) (by kernel_rfl) (by kernel_rfl) rfl (by decide) q10 ?_
        intro xA11 xc12
        refine ls_val (v := .slice xA11 (l7_1 ++ [y7]).length xc12) rfl rfl (by kernel_rfl) (fun w => by kernel_rfl) ?_
        refine ls_end ?_
        refine qn_then ?_
        refine cs_region (l := [_, _, _]) ?_
        refine ls_val (v := .int .u64 x2_1) rfl rfl (by kernel_rfl) (fun w => by kernel_rfl) ?_
        obtain ⟨y13, hy14, H⟩ := lt_some H
        refine ls_val (v := .int .u64 (IntKind.wrap .u64 (Int.tdiv x2_1 (256 : Int)))) rfl rfl (by kernel_rfl) (fun w => by kernel_rfl) ?_
        refine ls_ren 28 (v := .int .u64 (IntKind.wrap .u64 (Int.tdiv x2_1 (256 : Int)))) (v' := .int .u64 y13) (by kernel_rfl) (by rw [hy14]) ?_
        refine ls_val (v := .int .u64 y13) rfl rfl (by kernel_rfl) (fun w => by kernel_rfl) ?_
        refine ls_end ?_
        refine qn_block ?_
        refine qn_then ?_
        refine cs_region (l := [_, _, _]) ?_
        refine ls_val (v := .int .i64 x8_1) rfl rfl (by kernel_rfl) (fun w => by kernel_rfl) ?_
        refine ls_val (v := .int .i64 (IntKind.wrap .i64 (x8_1 + (1 : Int)))) rfl rfl (by kernel_rfl) (fun w => by kernel_rfl) ?_
        refine ls_val (v := .int .i64 (IntKind.wrap .i64 (x8_1 + (1 : Int)))) rfl rfl (by kernel_rfl) (fun w => by kernel_rfl) ?_
        refine ls_end ?_
        refine qn_again k1 (sput s0 0 (some (Ck.sl (Ec.int 5 .u8) xA11 xc12 (l7_1 ++ [y7])))) (Nat.le_refl _) ⟨_, y13, xA11, xc12, (l7_1 ++ [y7]), (IntKind.wrap .i64 (x8_1 + (1 : Int))), fr_next (fr_next (fr_next (fr_next (rfl) (by kernel_rfl)) (by kernel_rfl)) (by kernel_rfl)) (by kernel_rfl), rfl, H⟩ (sub_put (by exact rfl) (sub_nil _))
      · replace H := ite_f q6 H
        refine cs_know (c := false) (dec_f q6) 18 (by kernel_rfl) ?_
        refine cs_false (by kernel_rfl) ?_
        refine cs_exit' ?_
        refine qx_then ?_
        refine qx_then ?_
        refine qx_same ?_
        refine qn_then ?_
        refine cs_seq ?_
        refine cs_region (l := [_, _]) ?_
        refine ls_val (v := .slice A7_1 l7_1.length c7_1) rfl rfl (by kernel_rfl) (fun w => by kernel_rfl) ?_
        refine ls_val (v := .slice A7_1 l7_1.length c7_1) rfl rfl (by kernel_rfl) (fun w => by kernel_rfl) ?_
        refine ls_end ?_
        refine qn_then ?_
        refine cs_ret' ?_
        obtain rfl := Option.some.inj H
        refine qr_res (rs := [_]) rfl (fun w' hs => ⟨[.slice A7_1 l7_1.length c7_1], (res_tmp (by kernel_rfl) (.nil)), (A7_1, c7_1), rfl, hs.pick (ts := [0]) (cs := [Ck.sl (Ec.int 5 .u8) A7_1 c7_1 l7_1]) ⟨by exact rfl, trivial⟩ (by decide)⟩)
    · replace H := ite_f q5 H
      refine ls_know (c := false) (dec_f q5) 15 (by kernel_rfl) ?_
      refine ls_off (j := 3) (t := 15) (b := true) (c := false) rfl rfl (by kernel_rfl) (by kernel_rfl) rfl rfl (by kernel_rfl) ?_
      refine ls_off (j := 3) (t := 15) (b := true) (c := false) rfl rfl (by kernel_rfl) (by kernel_rfl) rfl rfl (by kernel_rfl) ?_
      refine ls_val (v := .bool false) rfl rfl (by kernel_rfl) (fun w => by kernel_rfl) ?_
      refine ls_end ?_
      refine qn_then ?_
      refine cs_false (by kernel_rfl) ?_
      refine cs_exit' ?_
      refine qx_then ?_
      refine qx_then ?_
      refine qx_same ?_
      refine qn_then ?_
      refine cs_seq ?_
      refine cs_region (l := [_, _]) ?_
      refine ls_val (v := .slice A7_1 l7_1.length c7_1) rfl rfl (by kernel_rfl) (fun w => by kernel_rfl) ?_
      refine ls_val (v := .slice A7_1 l7_1.length c7_1) rfl rfl (by kernel_rfl) (fun w => by kernel_rfl) ?_
      refine ls_end ?_
      refine qn_then ?_
      refine cs_ret' ?_
      obtain rfl := Option.some.inj H
      refine qr_res (rs := [_]) rfl (fun w' hs => ⟨[.slice A7_1 l7_1.length c7_1], (res_tmp (by kernel_rfl) (.nil)), (A7_1, c7_1), rfl, hs.pick (ts := [0]) (cs := [Ck.sl (Ec.int 5 .u8) A7_1 c7_1 l7_1]) ⟨by exact rfl, trivial⟩ (by decide)⟩)

/-! ### shadowbox/shadowboxref06.Put: function 19 -/
def shadowboxref06_Put.lo1 (a1 : (Int × Int × Int × Int × (Vc Int 32))) : Nat → (List Int) → Int → Option ((List Int))
  | 0, _, _ => none
  | k1 + 1, l0_1, x5_1 => (if x5_1 < (32 : Int) then (if 0 ≤ x5_1 then lt ((a1.2.2.2.2.1.getD (x5_1).toNat (0 : Int))) fun y16 => (if (l0_1.length + ([y16]).length) * 1 ≤ 140737488355328 then (shadowboxref06_Put.lo1 a1 k1) (l0_1 ++ [y16]) (IntKind.wrap .i64 (x5_1 + (1 : Int))) else none) else none) else some l0_1)
def shadowboxref06_Put.f (k : Nat) (l0 : List Int) (a1 : (Int × Int × Int × Int × (Vc Int 32))) : Option ((List Int)) :=
  (shadowboxref01_Fixed.f k l0 (4 : Int) (IntKind.wrap .u64 a1.1)).bind fun t2 => (shadowboxref01_Fixed.f k t2 (4 : Int) (IntKind.wrap .u64 a1.2.2.1)).bind fun t5 => (shadowboxref01_Fixed.f k t5 (8 : Int) (IntKind.wrap .u64 a1.2.1)).bind fun t8 => (shadowboxref01_Fixed.f k t8 (4 : Int) (IntKind.wrap .u64 a1.2.2.2.1)).bind fun t11 => shadowboxref06_Put.lo1 a1 k t11 (0 : Int)
set_option maxRecDepth 100000 in
set_option maxHeartbeats 4000000 in
theorem shadowboxref06_Put.calls (k : Nat) (A0 : Option Addr) (c0 : Nat) (l0 : List Int) (a1 : (Int × Int × Int × Int × (Vc Int 32))) (r : (List Int)) (b : Bs) (hs0 : St b (stl []) b.w) (R0 : Ro b A0 (em (Ec.int 5 .u8) l0)) (C0 : l0.length ≤ c0) (H : shadowboxref06_Put.f k l0 a1 = some r) :
    Calls Try.prog 19 #[.slice A0 l0.length c0, .agg ⟨([Value.int .i64 a1.1] ++ ([Value.int .i64 a1.2.1] ++ ([Value.int .i64 a1.2.2.1] ++ ([Value.int .u32 a1.2.2.2.1] ++ en (Value.int .u8) a1.2.2.2.2.1))))⟩] b.w fun e w' => ∃ x : (Option Addr × Nat), e = .returned (.slice x.1 r.length x.2) ∧ St b (stl [Ck.sl (Ec.int 5 .u8) x.1 x.2 r]) w' := by
  unfold shadowboxref06_Put.f at H
  refine enterb (n := 38) Try.func19 rfl (by kernel_rfl) (by kernel_rfl) hs0 ?_
  refine cs_sub (s0) (sub_nil _) ?_
  refine cs_seq ?_
  refine cs_region (l := [_, _]) ?_
  refine ls_new rfl rfl (by kernel_rfl) 0 (fun g => .pointer (some ⟨g, 0, none⟩)) (.cells ⟨([Value.int .i64 a1.1] ++ ([Value.int .i64 a1.2.1] ++ ([Value.int .i64 a1.2.2.1] ++ ([Value.int .u32 a1.2.2.2.1] ++ en (Value.int .u8) a1.2.2.2.2.1))))⟩ 25) (fun w => by kernel_rfl) ?_
  intro g1
  refine ls_val (v := .slice none 0 0) rfl rfl (by kernel_rfl) (fun w => by kernel_rfl) ?_
  refine ls_end ?_
  refine qn_then ?_
  refine cs_seq ?_
  refine cs_region (l := [_, _, _, _, _, _]) ?_
  refine ls_val (v := .slice A0 l0.length c0) rfl rfl (by kernel_rfl) (fun w => by kernel_rfl) ?_
  refine ls_val (v := .pointer (some ⟨g1, (0 + 0), none⟩)) rfl rfl (by kernel_rfl) (fun w => by kernel_rfl) ?_
  refine ls_load (a0 := ⟨g1, (0 + 0), none⟩) (v := .int .i64 a1.1) (de := (TypeDesc.int .i64)) rfl rfl (by kernel_rfl) rfl (by kernel_rfl) (by kernel_rfl) (by kernel_rfl) (fun w hs => (hs.var (k := 0) (by exact rfl) (Sub4.trans (Sub4.all _) (Sub4.head _ _)))) ?_
  refine ls_val (v := .int .u64 (IntKind.wrap .u64 a1.1)) rfl rfl (by kernel_rfl) (fun w => by kernel_rfl) ?_
  obtain ⟨t2, hc3, H⟩ := bind_some H
  refine ls_callb (fid := 35) (vals := #[.slice A0 l0.length c0, .int .i64 (4 : Int), .int .u64 (IntKind.wrap .u64 a1.1)]) (X := (Option Addr × Nat)) (fun x => .slice x.1 t2.length x.2) (fun x => stl [Ck.sl (Ec.int 5 .u8) x.1 x.2 t2]) [] [] [] [] 1 rfl rfl (by kernel_rfl) (fun w => by kernel_rfl) trivial trivial (by decide) (fun w hs hb => shadowboxref01_Fixed.calls k A0 c0 l0 (4 : Int) (IntKind.wrap .u64 a1.1) t2 (lent b w [] []) hb (hs.ro R0 _ _) C0 hc3) ?_
  intro x4
  refine ls_val (v := .slice x4.1 t2.length x4.2) rfl rfl (by kernel_rfl) (fun w => by kernel_rfl) ?_
  refine ls_end ?_
  refine qn_then ?_
  refine cs_seq ?_
  refine cs_region (l := [_, _, _, _, _, _]) ?_
  refine ls_val (v := .slice x4.1 t2.length x4.2) rfl rfl (by kernel_rfl) (fun w => by kernel_rfl) ?_
  refine ls_val (v := .pointer (some ⟨g1, (0 + 2), none⟩)) rfl rfl (by kernel_rfl) (fun w => by kernel_rfl) ?_
  refine ls_load (a0 := ⟨g1, (0 + 2), none⟩) (v := .int .i64 a1.2.2.1) (de := (TypeDesc.int .i64)) rfl rfl (by kernel_rfl) rfl (by kernel_rfl) (by kernel_rfl) (by kernel_rfl) (fun w hs => (hs.var (k := 0) (by exact rfl) (Sub4.trans (Sub4.all _) (Sub4.skip (n := 1) (len1 _) (Sub4.skip (n := 1) (len1 _) (Sub4.head _ _)))))) ?_
  refine ls_val (v := .int .u64 (IntKind.wrap .u64 a1.2.2.1)) rfl rfl (by kernel_rfl) (fun w => by kernel_rfl) ?_
  obtain ⟨t5, hc6, H⟩ := bind_some H
  refine ls_callb (fid := 35) (vals := #[.slice x4.1 t2.length x4.2, .int .i64 (4 : Int), .int .u64 (IntKind.wrap .u64 a1.2.2.1)]) (X := (Option Addr × Nat)) (fun x => .slice x.1 t5.length x.2) (fun x => stl [Ck.sl (Ec.int 5 .u8) x.1 x.2 t5]) [] [1] [] [Ck.sl (Ec.int 5 .u8) x4.1 x4.2 t2] 2 rfl rfl (by kernel_rfl) (fun w => by kernel_rfl) trivial ⟨by exact rfl, trivial⟩ (by decide) (fun w hs hb => shadowboxref01_Fixed.calls k x4.1 x4.2 t2 (4 : Int) (IntKind.wrap .u64 a1.2.2.1) t5 (lent b w [] [Ck.sl (Ec.int 5 .u8) x4.1 x4.2 t2]) hb (hs.ror (k := 1) (by exact rfl) (.head _)) (hs.cap (k := 1) (by exact rfl)) hc6) ?_
  intro x7
  refine ls_val (v := .slice x7.1 t5.length x7.2) rfl rfl (by kernel_rfl) (fun w => by kernel_rfl) ?_
  refine ls_end ?_
  refine qn_then ?_
  refine cs_seq ?_
  refine cs_region (l := [_, _, _, _, _, _]) ?_
  refine ls_val (v := .slice x7.1 t5.length x7.2) rfl rfl (by kernel_rfl) (fun w => by kernel_rfl) ?_
  refine ls_val (v := .pointer (some ⟨g1, (0 + 1), none⟩)) rfl rfl (by kernel_rfl) (fun w => by kernel_rfl) ?_
  refine ls_load (a0 := ⟨g1, (0 + 1), none⟩) (v := .int .i64 a1.2.1) (de := (TypeDesc.int .i64)) rfl rfl (by kernel_rfl) rfl (by kernel_rfl) (by kernel_rfl) (by kernel_rfl) (fun w hs => (hs.var (k := 0) (by exact rfl) (Sub4.trans (Sub4.all _) (Sub4.skip (n := 1) (len1 _) (Sub4.head _ _))))) ?_
  refine ls_val (v := .int .u64 (IntKind.wrap .u64 a1.2.1)) rfl rfl (by kernel_rfl) (fun w => by kernel_rfl) ?_
  obtain ⟨t8, hc9, H⟩ := bind_some H
  refine ls_callb (fid := 35) (vals := #[.slice x7.1 t5.length x7.2, .int .i64 (8 : Int), .int .u64 (IntKind.wrap .u64 a1.2.1)]) (X := (Option Addr × Nat)) (fun x => .slice x.1 t8.length x.2) (fun x => stl [Ck.sl (Ec.int 5 .u8) x.1 x.2 t8]) [] [2] [] [Ck.sl (Ec.int 5 .u8) x7.1 x7.2 t5] 3 rfl rfl (by kernel_rfl) (fun w => by kernel_rfl) trivial ⟨by exact rfl, trivial⟩ (by decide) (fun w hs hb => shadowboxref01_Fixed.calls k x7.1 x7.2 t5 (8 : Int) (IntKind.wrap .u64 a1.2.1) t8 (lent b w [] [Ck.sl (Ec.int 5 .u8) x7.1 x7.2 t5]) hb (hs.ror (k := 2) (by exact rfl) (.head _)) (hs.cap (k := 2) (by exact rfl)) hc9) ?_
  intro x10
  refine ls_val (v := .slice x10.1 t8.length x10.2) rfl rfl (by kernel_rfl) (fun w => by kernel_rfl) ?_
  refine ls_end ?_
  refine qn_then ?_
  refine cs_seq ?_
  refine cs_region (l := [_, _, _, _, _, _]) ?_
  refine ls_val (v := .slice x10.1 t8.length x10.2) rfl rfl (by kernel_rfl) (fun w => by kernel_rfl) ?_
  refine ls_val (v := .pointer (some ⟨g1, (0 + 3), none⟩)) rfl rfl (by kernel_rfl) (fun w => by kernel_rfl) ?_
  refine ls_load (a0 := ⟨g1, (0 + 3), none⟩) (v := .int .u32 a1.2.2.2.1) (de := (TypeDesc.int .u32)) rfl rfl (by kernel_rfl) rfl (by kernel_rfl) (by kernel_rfl) (by kernel_rfl) (fun w hs => (hs.var (k := 0) (by exact rfl) (Sub4.trans (Sub4.all _) (Sub4.skip (n := 1) (len1 _) (Sub4.skip (n := 1) (len1 _) (Sub4.skip (n := 1) (len1 _) (Sub4.head _ _))))))) ?_
  refine ls_val (v := .int .u64 (IntKind.wrap .u64 a1.2.2.2.1)) rfl rfl (by kernel_rfl) (fun w => by kernel_rfl) ?_
  obtain ⟨t11, hc12, H⟩ := bind_some H
  refine ls_callb (fid := 35) (vals := #[.slice x10.1 t8.length x10.2, .int .i64 (4 : Int), .int .u64 (IntKind.wrap .u64 a1.2.2.2.1)]) (X := (Option Addr × Nat)) (fun x => .slice x.1 t11.length x.2) (fun x => stl [Ck.sl (Ec.int 5 .u8) x.1 x.2 t11]) [] [3] [] [Ck.sl (Ec.int 5 .u8) x10.1 x10.2 t8] 4 rfl rfl (by kernel_rfl) (fun w => by kernel_rfl) trivial ⟨by exact rfl, trivial⟩ (by decide) (fun w hs hb => shadowboxref01_Fixed.calls k x10.1 x10.2 t8 (4 : Int) (IntKind.wrap .u64 a1.2.2.2.1) t11 (lent b w [] [Ck.sl (Ec.int 5 .u8) x10.1 x10.2 t8]) hb (hs.ror (k := 3) (by exact rfl) (.head _)) (hs.cap (k := 3) (by exact rfl)) hc12) ?_
  intro x13
  refine ls_val (v := .slice x13.1 t11.length x13.2) rfl rfl (by kernel_rfl) (fun w => by kernel_rfl) ?_
  refine ls_end ?_
  refine qn_then ?_
  refine cs_seq ?_
  refine cs_seq ?_
  refine cs_region (l := [_]) ?_
  refine ls_val (v := .int .i64 (0 : Int)) rfl rfl (by kernel_rfl) (fun w => by kernel_rfl) ?_
  refine ls_end ?_
  refine qn_then ?_
  refine cs_block ?_
  refine cs_sub (sput (sput s0 0 (some (Ck.var 25 g1 (([Value.int .i64 a1.1] ++ ([Value.int .i64 a1.2.1] ++ ([Value.int .i64 a1.2.2.1] ++ ([Value.int .u32 a1.2.2.2.1] ++ en (Value.int .u8) a1.2.2.2.2.1)))))))) 4 (some (Ck.sl (Ec.int 5 .u8) x13.1 x13.2 t11))) (sub_put (by exact rfl) (sub_put (by exact rfl) (sub_nil _))) ?_
  refine cs_loop (fun kk f S => ∃ (fR : Fr) (A0_1 : Option Addr) (c0_1 : Nat) (l0_1 : List Int) (x5_1 : Int), f = upd (upd (upd fR 0 (.slice A0_1 l0_1.length c0_1)) 3 (.pointer (some ⟨g1, 0, none⟩))) 5 (.int .i64 x5_1) ∧ S = sput (sput s0 0 (some (Ck.var 25 g1 (([Value.int .i64 a1.1] ++ ([Value.int .i64 a1.2.1] ++ ([Value.int .i64 a1.2.2.1] ++ ([Value.int .u32 a1.2.2.2.1] ++ en (Value.int .u8) a1.2.2.2.2.1)))))))) 4 (some (Ck.sl (Ec.int 5 .u8) A0_1 c0_1 l0_1)) ∧ shadowboxref06_Put.lo1 a1 kk l0_1 x5_1 = some r) k ?_ ?_ ?_
  · exact ⟨_, x13.1, x13.2, t11, (0 : Int), fr_next (fr_next (fr_next (rfl) (by kernel_rfl)) (by kernel_rfl)) (by kernel_rfl), rfl, H⟩
  · rintro f S ⟨fr1, A0_1, c0_1, l0_1, x5_1, rfl, rfl, H⟩; cases H
  · rintro k1 f S ⟨fr1, A0_1, c0_1, l0_1, x5_1, rfl, rfl, H⟩
    replace H : ((if x5_1 < (32 : Int) then (if 0 ≤ x5_1 then lt ((a1.2.2.2.2.1.getD (x5_1).toNat (0 : Int))) fun y16 => (if (l0_1.length + ([y16]).length) * 1 ≤ 140737488355328 then (shadowboxref06_Put.lo1 a1 k1) (l0_1 ++ [y16]) (IntKind.wrap .i64 (x5_1 + (1 : Int))) else none) else none) else some l0_1)) = some r := H
    refine cs_seq ?_
    refine cs_seq ?_
    refine cs_region (l := [_, _]) ?_
    refine ls_val (v := .int .i64 x5_1) rfl rfl (by kernel_rfl) (fun w => by kernel_rfl) ?_
    refine ls_val (v := .bool (decide (x5_1 < (32 : Int)))) rfl rfl (by kernel_rfl) (fun w => by kernel_rfl) ?_
    refine ls_end ?_
    refine qn_then ?_
    by_cases q14 : x5_1 < (32 : Int)
    · replace H := ite_t q14 H
      refine cs_know (c := true) (dec_t q14) 27 (by kernel_rfl) ?_
      refine cs_true (by kernel_rfl) ?_
      refine cs_skip' ?_
      refine qn_then ?_
      refine cs_seq ?_
      refine cs_block ?_
      refine cs_region (l := [_, _, _, _, _, _, _, _]) ?_
      refine ls_val (v := .slice A0_1 l0_1.length c0_1) rfl rfl (by kernel_rfl) (fun w => by kernel_rfl) ?_
      refine ls_val (v := .int .i64 x5_1) rfl rfl (by kernel_rfl) (fun w => by kernel_rfl) ?_
      refine ls_val (v := .pointer (some ⟨g1, (0 + 4), none⟩)) rfl rfl (by kernel_rfl) (fun w => by kernel_rfl) ?_
      obtain ⟨q15, H⟩ := ite_need H
      refine ls_idxa1 (g := g1) (off := (0 + 4)) (i := x5_1) (kk := .i64) (ln := 32) (e := 5) rfl rfl (by kernel_rfl) rfl (by kernel_rfl) (by kernel_rfl) (by kernel_rfl) (by kernel_rfl) q15 q14 ?_
      obtain ⟨y16, hy17, H⟩ := lt_some H
      refine ls_load (a0 := ⟨g1, ((0 + 4) + (x5_1).toNat), none⟩) (v := .int .u8 (a1.2.2.2.2.1.getD (x5_1).toNat (0 : Int))) (de := (TypeDesc.int .u8)) rfl rfl (by kernel_rfl) rfl (by kernel_rfl) (by kernel_rfl) (by kernel_rfl) (fun w hs => (hs.var (k := 0) (by exact rfl) (Sub4.trans (Sub4.trans (Sub4.all _) (Sub4.skip (n := 1) (len1 _) (Sub4.skip (n := 1) (len1 _) (Sub4.skip (n := 1) (len1 _) (Sub4.skip (n := 1) (len1 _) (Sub4.all _)))))) (Sub4.one (Value.int .u8) a1.2.2.2.2.1 0 (by have := a1.2.2.2.2.2; omega))))) ?_
      refine ls_ren 34 (v := .int .u8 (a1.2.2.2.2.1.getD (x5_1).toNat (0 : Int))) (v' := .int .u8 y16) (by kernel_rfl) (by rw [hy17]) ?_
      refine ls_lit (Ec.int 5 .u8) 5 rfl rfl (by kernel_rfl) ([y16]) (by exact of_decide_eq_true (by kernel_rfl)) (fun w => by kernel_rfl) ?_
      intro g18
      obtain ⟨q19, H⟩ := ite_need H
      refine ls_app (Ec.int 5 .u8) (A := A0_1) (c := c0_1) (B := (some ⟨g18, 0, none⟩)) (cb := [y16].length) (z := (Value.int .u8 0)) (l := l0_1) (m := [y16]) (bytes := 1) 4 rfl rfl (by kernel_rfl) rfl (by kernel_rfl) (by exact rfl) (by kernel_rfl) (fun w hs => (hs.rd (k := 5) (by exact rfl))) (by kernel_rfl) (by kernel_rfl) rfl (by decide) q19 ?_
      intro xA20 xc21
      refine ls_val (v := .slice xA20 (l0_1 ++ [y16]).length xc21) rfl rfl (by kernel_rfl) (fun w => by kernel_rfl) ?_
      refine ls_end ?_
      refine qn_block ?_
      refine qn_then ?_
      refine cs_region (l := [_, _, _]) ?_
      refine ls_val (v := .int .i64 x5_1) rfl rfl (by kernel_rfl) (fun w => by kernel_rfl) ?_
      refine ls_val (v := .int .i64 (IntKind.wrap .i64 (x5_1 + (1 : Int)))) rfl rfl (by kernel_rfl) (fun w => by kernel_rfl) ?_
      refine ls_val (v := .int .i64 (IntKind.wrap .i64 (x5_1 + (1 : Int)))) rfl rfl (by kernel_rfl) (fun w => by kernel_rfl) ?_
      refine ls_end ?_
      refine qn_again k1 (sput (sput s0 0 (some (Ck.var 25 g1 (([Value.int .i64 a1.1] ++ ([Value.int .i64 a1.2.1] ++ ([Value.int .i64 a1.2.2.1] ++ ([Value.int .u32 a1.2.2.2.1] ++ en (Value.int .u8) a1.2.2.2.2.1)))))))) 4 (some (Ck.sl (Ec.int 5 .u8) xA20 xc21 (l0_1 ++ [y16])))) (Nat.le_refl _) ⟨_, xA20, xc21, (l0_1 ++ [y16]), (IntKind.wrap .i64 (x5_1 + (1 : Int))), fr_next (fr_next (fr_next (rfl) (by kernel_rfl)) (by kernel_rfl)) (by kernel_rfl), rfl, H⟩ (sub_put (by exact rfl) (sub_put (by exact rfl) (sub_nil _)))
    · replace H := ite_f q14 H
      refine cs_know (c := false) (dec_f q14) 27 (by kernel_rfl) ?_
      refine cs_false (by kernel_rfl) ?_
      refine cs_exit' ?_
      refine qx_then ?_
      refine qx_then ?_
      refine qx_same ?_
      refine qn_then ?_
      refine cs_seq ?_
      refine cs_region (l := [_, _]) ?_
      refine ls_val (v := .slice A0_1 l0_1.length c0_1) rfl rfl (by kernel_rfl) (fun w => by kernel_rfl) ?_
      refine ls_val (v := .slice A0_1 l0_1.length c0_1) rfl rfl (by kernel_rfl) (fun w => by kernel_rfl) ?_
      refine ls_end ?_
      refine qn_then ?_
      refine cs_ret' ?_
      obtain rfl := Option.some.inj H
      refine qr_res (rs := [_]) rfl (fun w' hs => ⟨[.slice A0_1 l0_1.length c0_1], (res_tmp (by kernel_rfl) (.nil)), (A0_1, c0_1), rfl, hs.pick (ts := [4]) (cs := [Ck.sl (Ec.int 5 .u8) A0_1 c0_1 l0_1]) ⟨by exact rfl, trivial⟩ (by decide)⟩)

end Go.Proofs.Ytnjijflgafghmaa.G
