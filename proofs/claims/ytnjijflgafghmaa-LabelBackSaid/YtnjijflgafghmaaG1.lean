/- Printed by a program of this session (sz.py): plain functions, and walks that show that the code comes to them; no condition. -/
import Derived.Test.YtnjijflgafghmaaProg
import Derived.Test.YtnjijflgafghmaaTy
import Derived.Test.YtnjijflgafghmaaG0
set_option linter.unusedVariables false
set_option linter.unusedSimpArgs false
namespace Go.Proofs.Ytnjijflgafghmaa.G
open Go Go.RowKit Go.Proofs.Ytnjijflgafghmaa.Sx

/-! ### shadowbox/label.Open: function 26 -/
def label_Open.tab45 : List (List Nat) := [[], [0], [0, 1], [0, 1, 2], [0, 1, 2, 3], [0, 1, 2, 3, 4], [0, 1, 2, 3, 4, 5], [0, 1, 2, 3, 4, 5, 6], [0, 1, 2, 3, 4, 5, 6, 7], [0, 1, 2, 3, 4, 5, 6, 7, 8], [0, 1, 2, 3, 4, 5, 6, 7, 8, 9], [0, 1, 2, 3, 4, 5, 6, 7], [0, 1, 2, 3, 4, 5, 6, 7, 11], [0, 1, 2, 3, 4, 5, 6, 7, 8, 9, 10, 11, 12], [0, 1, 2, 3, 4, 5, 6, 7, 8, 9, 10, 11, 12, 13]]
def label_Open.jo2 (k : Nat) (xl7 : List Int) : Option ((Int × (Int × Int × Int × Int × (Vc Int 32)) × Int) × Int) := (label_Open_1.f k xl7).bind fun t14 => (if (4 : Int) ≤ (t14.2.length : Int) then lt (t14.2.drop ((4 : Int)).toNat) fun xl28 => (label_Open_1.f k xl28).bind fun t33 => (pointer_Read.f k t33.2).bind fun t42 => (if t42.2 = (0 : Int) then (label_Label_right.f k (t14.1, t42.1, t33.1)).bind fun t49 => (if t49 = true then (label_Label_bytes.f k (t14.1, t42.1, t33.1)).bind fun t53 => (if ((strOfNums t53).toList == (strOfNums xl7).toList) = true then some ((t14.1, t42.1, t33.1), (0 : Int)) else some (((0 : Int), ((0 : Int), (0 : Int), (0 : Int), (0 : Int), (vrep 32 (0 : Int))), (0 : Int)), (11 : Int))) else some (((0 : Int), ((0 : Int), (0 : Int), (0 : Int), (0 : Int), (vrep 32 (0 : Int))), (0 : Int)), (11 : Int))) else some (((0 : Int), ((0 : Int), (0 : Int), (0 : Int), (0 : Int), (vrep 32 (0 : Int))), (0 : Int)), (11 : Int))) else none)
def label_Open.jo1 (k : Nat) (l0 : List Int) : Option ((Int × (Int × Int × Int × Int × (Vc Int 32)) × Int) × Int) := (if (512 : Int) ≤ (l0.length : Int) then lt (l0.take ((512 : Int)).toNat) fun xl7 => (if (504 : Int) ≤ (xl7.length : Int) then (if (500 : Int) ≤ (504 : Int) then lt ((xl7.take ((504 : Int)).toNat).drop ((500 : Int)).toNat) fun xl63 => (codec_Take.f k xl63 (4 : Int)).bind fun t68 => (if (500 : Int) ≤ (xl7.length : Int) then lt (xl7.take ((500 : Int)).toNat) fun xl76 => (crc_Sum.f k xl76).bind fun t81 => (if (IntKind.wrap .u32 t68.1) = t81 then (label_Open.jo2 k xl7) else some (((0 : Int), ((0 : Int), (0 : Int), (0 : Int), (0 : Int), (vrep 32 (0 : Int))), (0 : Int)), (12 : Int))) else none) else none) else none) else none)
def label_Open.f (k : Nat) (l0 : List Int) : Option ((Int × (Int × Int × Int × Int × (Vc Int 32)) × Int) × Int) :=
  (if (l0.length : Int) < (512 : Int) then some (((0 : Int), ((0 : Int), (0 : Int), (0 : Int), (0 : Int), (vrep 32 (0 : Int))), (0 : Int)), (10 : Int)) else (label_Open.jo1 k l0))
set_option maxRecDepth 100000 in
set_option maxHeartbeats 4000000 in
theorem label_Open.calls (k : Nat) (A0 : Option Addr) (c0 : Nat) (l0 : List Int) (r : (Int × (Int × Int × Int × Int × (Vc Int 32)) × Int) × Int) (b : Bs) (hs0 : St b (stl []) b.w) (R0 : Ro b A0 (em (Ec.int 5 .u8) l0)) (C0 : l0.length ≤ c0) (H : label_Open.f k l0 = some r) :
    Calls Try.prog 26 #[.slice A0 l0.length c0] b.w fun e w' => ∃ x : Unit, e = .returned (.tuple #[.agg ⟨([Value.int .i64 r.1.1] ++ (([Value.int .i64 r.1.2.1.1] ++ ([Value.int .i64 r.1.2.1.2.1] ++ ([Value.int .i64 r.1.2.1.2.2.1] ++ ([Value.int .u32 r.1.2.1.2.2.2.1] ++ en (Value.int .u8) r.1.2.1.2.2.2.2.1)))) ++ [Value.int .i64 r.1.2.2]))⟩, .int .i64 r.2]) ∧ St b (stl []) w' := by
  unfold label_Open.f at H
  refine enterb (n := 66) Try.func26 rfl (by kernel_rfl) (by kernel_rfl) hs0 ?_
  refine cs_sub (s0) (sub_nil _) ?_
  refine cs_seq ?_
  refine cs_region (l := [_, _]) ?_
  refine ls_new rfl rfl (by kernel_rfl) 0 (fun g => .pointer (some ⟨g, 0, none⟩)) (.cells ⟨([Value.int .i64 (0 : Int)] ++ (([Value.int .i64 (0 : Int)] ++ ([Value.int .i64 (0 : Int)] ++ ([Value.int .i64 (0 : Int)] ++ ([Value.int .u32 (0 : Int)] ++ en (Value.int .u8) (vrep 32 (0 : Int)).1)))) ++ [Value.int .i64 (0 : Int)]))⟩ 42) (fun w => by kernel_rfl) ?_
  intro g1
  refine ls_val (v := .int .i64 (0 : Int)) rfl rfl (by kernel_rfl) (fun w => by kernel_rfl) ?_
  refine ls_end ?_
  refine qn_then ?_
  refine cs_cut (fun f S => ∃ (fR : Fr), f = upd (upd fR 0 (.slice A0 l0.length c0)) 2 (.pointer (some ⟨g1, 0, none⟩)) ∧ S = sput s0 0 (some (Ck.var 42 g1 (([Value.int .i64 (0 : Int)] ++ (([Value.int .i64 (0 : Int)] ++ ([Value.int .i64 (0 : Int)] ++ ([Value.int .i64 (0 : Int)] ++ ([Value.int .u32 (0 : Int)] ++ en (Value.int .u8) (vrep 32 (0 : Int)).1)))) ++ [Value.int .i64 (0 : Int)]))))) ∧ label_Open.jo1 k l0 = some r) ?_ ?_
  · skip
    refine cs_seq ?_
    refine cs_region (l := [_, _, _]) ?_
    refine ls_val (v := .slice A0 l0.length c0) rfl rfl (by kernel_rfl) (fun w => by kernel_rfl) ?_
    refine ls_val (v := .int .i64 (l0.length : Int)) rfl rfl (by kernel_rfl) (fun w => by kernel_rfl) ?_
    refine ls_val (v := .bool (decide ((l0.length : Int) < (512 : Int)))) rfl rfl (by kernel_rfl) (fun w => by kernel_rfl) ?_
    refine ls_end ?_
    refine qn_then ?_
    by_cases q85 : (l0.length : Int) < (512 : Int)
    · replace H := ite_t q85 H
      refine cs_know (c := true) (dec_t q85) 14 (by kernel_rfl) ?_
      refine cs_true (by kernel_rfl) ?_
      refine cs_seq ?_
      refine cs_region (l := [_, _, _]) ?_
      refine ls_build (ps := []) (pl := #[(0, 1), (1, 36), (37, 1)]) (zv := .agg ⟨([Value.int .i64 (0 : Int)] ++ (([Value.int .i64 (0 : Int)] ++ ([Value.int .i64 (0 : Int)] ++ ([Value.int .i64 (0 : Int)] ++ ([Value.int .u32 (0 : Int)] ++ en (Value.int .u8) (vrep 32 (0 : Int)).1)))) ++ [Value.int .i64 (0 : Int)]))⟩) (zc := ([Value.int .i64 (0 : Int)] ++ (([Value.int .i64 (0 : Int)] ++ ([Value.int .i64 (0 : Int)] ++ ([Value.int .i64 (0 : Int)] ++ ([Value.int .u32 (0 : Int)] ++ en (Value.int .u8) (vrep 32 (0 : Int)).1)))) ++ [Value.int .i64 (0 : Int)]))) (r := ([Value.int .i64 (0 : Int)] ++ (([Value.int .i64 (0 : Int)] ++ ([Value.int .i64 (0 : Int)] ++ ([Value.int .i64 (0 : Int)] ++ ([Value.int .u32 (0 : Int)] ++ en (Value.int .u8) (vrep 32 (0 : Int)).1)))) ++ [Value.int .i64 (0 : Int)]))) rfl rfl (by kernel_rfl) rfl (by kernel_rfl) (by kernel_rfl) (fun w => by kernel_rfl) (fun w => by kernel_rfl) rfl fill_nil ?_
      refine ls_storec (g := g1) (off := 0) (v := .agg ⟨([Value.int .i64 (0 : Int)] ++ (([Value.int .i64 (0 : Int)] ++ ([Value.int .i64 (0 : Int)] ++ ([Value.int .i64 (0 : Int)] ++ ([Value.int .u32 (0 : Int)] ++ en (Value.int .u8) (vrep 32 (0 : Int)).1)))) ++ [Value.int .i64 (0 : Int)]))⟩) (vs := ([Value.int .i64 (0 : Int)] ++ (([Value.int .i64 (0 : Int)] ++ ([Value.int .i64 (0 : Int)] ++ ([Value.int .i64 (0 : Int)] ++ ([Value.int .u32 (0 : Int)] ++ en (Value.int .u8) (vrep 32 (0 : Int)).1)))) ++ [Value.int .i64 (0 : Int)]))) (cs := ([Value.int .i64 (0 : Int)] ++ (([Value.int .i64 (0 : Int)] ++ ([Value.int .i64 (0 : Int)] ++ ([Value.int .i64 (0 : Int)] ++ ([Value.int .u32 (0 : Int)] ++ en (Value.int .u8) (vrep 32 (0 : Int)).1)))) ++ [Value.int .i64 (0 : Int)]))) (ty := 42) 0 rfl rfl rfl (by kernel_rfl) (by kernel_rfl) (by kernel_rfl) (by exact rfl) (by kernel_rfl) (len_app (len1 _) (len_app (len_app (len1 _) (len_app (len1 _) (len_app (len1 _) (len_app (len1 _) (len_en _ (vrep 32 (0 : Int))))))) (len1 _))) (one_app (one_cons rfl one_nil) (one_app (one_app (one_cons rfl one_nil) (one_app (one_cons rfl one_nil) (one_app (one_cons rfl one_nil) (one_app (one_cons rfl one_nil) (one_en (fun _ => rfl) _))))) (one_cons rfl one_nil))) (hl_of (Sub4.all _) (len_eq (len_app (len1 _) (len_app (len_app (len1 _) (len_app (len1 _) (len_app (len1 _) (len_app (len1 _) (len_en _ (vrep 32 (0 : Int))))))) (len1 _))) (len_app (len1 _) (len_app (len_app (len1 _) (len_app (len1 _) (len_app (len1 _) (len_app (len1 _) (len_en _ (vrep 32 (0 : Int))))))) (len1 _))))) (cs' := ([Value.int .i64 (0 : Int)] ++ (([Value.int .i64 (0 : Int)] ++ ([Value.int .i64 (0 : Int)] ++ ([Value.int .i64 (0 : Int)] ++ ([Value.int .u32 (0 : Int)] ++ en (Value.int .u8) (vrep 32 (0 : Int)).1)))) ++ [Value.int .i64 (0 : Int)]))) (splc_all (len_eq (len_app (len1 _) (len_app (len_app (len1 _) (len_app (len1 _) (len_app (len1 _) (len_app (len1 _) (len_en _ (vrep 32 (0 : Int))))))) (len1 _))) (len_app (len1 _) (len_app (len_app (len1 _) (len_app (len1 _) (len_app (len1 _) (len_app (len1 _) (len_en _ (vrep 32 (0 : Int))))))) (len1 _))))) ?_
      refine ls_val (v := .int .i64 (10 : Int)) rfl rfl (by kernel_rfl) (fun w => by kernel_rfl) ?_
      refine ls_end ?_
      refine qn_then ?_
      refine cs_ret' ?_
      refine qr_then ?_
      obtain rfl := Option.some.inj H
      refine qr_res (rs := [_, _]) rfl (fun w' hs => ⟨[.agg ⟨([Value.int .i64 (0 : Int)] ++ (([Value.int .i64 (0 : Int)] ++ ([Value.int .i64 (0 : Int)] ++ ([Value.int .i64 (0 : Int)] ++ ([Value.int .u32 (0 : Int)] ++ en (Value.int .u8) (vrep 32 (0 : Int)).1)))) ++ [Value.int .i64 (0 : Int)]))⟩, .int .i64 (10 : Int)], (.cell (by kernel_rfl) (run_cellres (by kernel_rfl) (by kernel_rfl) (len_app (len1 _) (len_app (len_app (len1 _) (len_app (len1 _) (len_app (len1 _) (len_app (len1 _) (len_en _ (vrep 32 (0 : Int))))))) (len1 _))) (hs.holds 0 _ (by exact rfl))) (res_tmp (by kernel_rfl) (.nil))), (), rfl, hs.pick (ts := []) (cs := []) trivial (by decide)⟩)
    · replace H := ite_f q85 H
      refine cs_know (c := false) (dec_f q85) 14 (by kernel_rfl) ?_
      refine cs_false (by kernel_rfl) ?_
      refine cs_skip' ?_
      refine qn_meet (sput s0 0 (some (Ck.var 42 g1 (([Value.int .i64 (0 : Int)] ++ (([Value.int .i64 (0 : Int)] ++ ([Value.int .i64 (0 : Int)] ++ ([Value.int .i64 (0 : Int)] ++ ([Value.int .u32 (0 : Int)] ++ en (Value.int .u8) (vrep 32 (0 : Int)).1)))) ++ [Value.int .i64 (0 : Int)])))))) ⟨_, fr_next (fr_next (rfl) (by kernel_rfl)) (by kernel_rfl), rfl, H⟩ (sub_put (by exact rfl) (sub_nil _))
  · rintro f S ⟨fr1, rfl, rfl, H⟩
    replace H : ((if (512 : Int) ≤ (l0.length : Int) then lt (l0.take ((512 : Int)).toNat) fun xl7 => (if (504 : Int) ≤ (xl7.length : Int) then (if (500 : Int) ≤ (504 : Int) then lt ((xl7.take ((504 : Int)).toNat).drop ((500 : Int)).toNat) fun xl63 => (codec_Take.f k xl63 (4 : Int)).bind fun t68 => (if (500 : Int) ≤ (xl7.length : Int) then lt (xl7.take ((500 : Int)).toNat) fun xl76 => (crc_Sum.f k xl76).bind fun t81 => (if (IntKind.wrap .u32 t68.1) = t81 then (label_Open.jo2 k xl7) else some (((0 : Int), ((0 : Int), (0 : Int), (0 : Int), (0 : Int), (vrep 32 (0 : Int))), (0 : Int)), (12 : Int))) else none) else none) else none) else none)) = some r := H
    refine cs_seq ?_
    refine cs_region (l := [_, _, _]) ?_
    refine ls_val (v := .slice A0 l0.length c0) rfl rfl (by kernel_rfl) (fun w => by kernel_rfl) ?_
    obtain ⟨q2, H⟩ := ite_need H
    obtain ⟨xl7, hy8, H⟩ := lt_some H
    have hz10 : 0 ≤ ((512 : Int)).toNat := by omega
    have hz11 : ((512 : Int)).toNat ≤ l0.length := by omega
    obtain ⟨xA3, xc4, he9, xC6, xR5⟩ := cut_at (A := A0) (c := c0) (l := l0) (Ec.int 5 .u8) 0 (((512 : Int)).toNat) hz10 hz11 C0 R0 (m := xl7) (by rw [← hy8] <;> simp) (z := 1) rfl
    refine ls_cutv (A := A0) (c := c0) (m := l0.length) (z := 1) (e := 5) (a := 0) (b := ((512 : Int)).toNat) rfl rfl (by kernel_rfl) rfl (by kernel_rfl) (by kernel_rfl) (by kernel_rfl) (.inl ⟨rfl, rfl⟩) (.inr ⟨.i64, by rw [Int.toNat_of_nonneg (by first | assumption | omega)]; kernel_rfl⟩) hz10 hz11 C0 he9 ?_
    refine ls_val (v := .slice xA3 xl7.length xc4) rfl rfl (by kernel_rfl) (fun w => by kernel_rfl) ?_
    refine ls_end ?_
    refine qn_then ?_
    refine cs_cut (fun f S => ∃ (fR : Fr), f = upd (upd fR 0 (.slice xA3 xl7.length xc4)) 2 (.pointer (some ⟨g1, 0, none⟩)) ∧ S = sput s0 0 (some (Ck.var 42 g1 (([Value.int .i64 (0 : Int)] ++ (([Value.int .i64 (0 : Int)] ++ ([Value.int .i64 (0 : Int)] ++ ([Value.int .i64 (0 : Int)] ++ ([Value.int .u32 (0 : Int)] ++ en (Value.int .u8) (vrep 32 (0 : Int)).1)))) ++ [Value.int .i64 (0 : Int)]))))) ∧ label_Open.jo2 k xl7 = some r) ?_ ?_
    · skip
      refine cs_seq ?_
      refine cs_region (l := [_, _, _, _, _, _, _, _, _, _]) ?_
      refine ls_val (v := .slice xA3 xl7.length xc4) rfl rfl (by kernel_rfl) (fun w => by kernel_rfl) ?_
      obtain ⟨q57, H⟩ := ite_need H
      obtain ⟨q58, H⟩ := ite_need H
      obtain ⟨xl63, hy64, H⟩ := lt_some H
      have hz66 : ((500 : Int)).toNat ≤ ((504 : Int)).toNat := by omega
      have hz67 : ((504 : Int)).toNat ≤ xl7.length := by omega
      obtain ⟨xA59, xc60, he65, xC62, xR61⟩ := cut_at (A := xA3) (c := xc4) (l := xl7) (Ec.int 5 .u8) (((500 : Int)).toNat) (((504 : Int)).toNat) hz66 hz67 xC6 xR5 (m := xl63) (by rw [← hy64] <;> simp) (z := 1) rfl
      refine ls_cutv (A := xA3) (c := xc4) (m := xl7.length) (z := 1) (e := 5) (a := ((500 : Int)).toNat) (b := ((504 : Int)).toNat) rfl rfl (by kernel_rfl) rfl (by kernel_rfl) (by kernel_rfl) (by kernel_rfl) (.inr ⟨.i64, by rw [Int.toNat_of_nonneg (by first | assumption | omega)]; kernel_rfl⟩) (.inr ⟨.i64, by rw [Int.toNat_of_nonneg (by first | assumption | omega)]; kernel_rfl⟩) hz66 hz67 xC6 he65 ?_
      obtain ⟨t68, hc69, H⟩ := bind_some H
      refine ls_callb (fid := 31) (vals := #[.slice xA59 xl63.length xc60, .int .i64 (4 : Int)]) (X := (Option Addr × Nat)) (fun x => .tuple #[.int .u64 t68.1, .slice x.1 t68.2.1.length x.2, .bool t68.2.2]) (fun x => stl [Ck.sl (Ec.int 5 .u8) x.1 x.2 t68.2.1]) [] [] [] [] 1 rfl rfl (by kernel_rfl) (fun w => by kernel_rfl) trivial trivial (by decide) (fun w hs hb => codec_Take.calls k xA59 xc60 xl63 (4 : Int) t68 (lent b w [] []) hb (hs.ro xR61 _ _) xC62 hc69) ?_
      intro x70
      refine ls_val (v := .tuple #[.int .u64 t68.1, .slice x70.1 t68.2.1.length x70.2, .bool t68.2.2]) rfl rfl (by kernel_rfl) (fun w => by kernel_rfl) ?_
      refine ls_val (v := .int .u64 t68.1) rfl rfl (by kernel_rfl) (fun w => by kernel_rfl) ?_
      refine ls_val (v := .slice x70.1 t68.2.1.length x70.2) rfl rfl (by kernel_rfl) (fun w => by kernel_rfl) ?_
      refine ls_val (v := .bool t68.2.2) rfl rfl (by kernel_rfl) (fun w => by kernel_rfl) ?_
      refine ls_val (v := .int .u64 t68.1) rfl rfl (by kernel_rfl) (fun w => by kernel_rfl) ?_
      refine ls_val (v := .slice x70.1 t68.2.1.length x70.2) rfl rfl (by kernel_rfl) (fun w => by kernel_rfl) ?_
      refine ls_val (v := .bool t68.2.2) rfl rfl (by kernel_rfl) (fun w => by kernel_rfl) ?_
      refine ls_end ?_
      refine qn_then ?_
      refine cs_seq ?_
      refine cs_region (l := [_, _, _, _, _, _]) ?_
      refine ls_val (v := .int .u64 t68.1) rfl rfl (by kernel_rfl) (fun w => by kernel_rfl) ?_
      refine ls_val (v := .int .u32 (IntKind.wrap .u32 t68.1)) rfl rfl (by kernel_rfl) (fun w => by kernel_rfl) ?_
      refine ls_val (v := .slice xA3 xl7.length xc4) rfl rfl (by kernel_rfl) (fun w => by kernel_rfl) ?_
      obtain ⟨q71, H⟩ := ite_need H
      obtain ⟨xl76, hy77, H⟩ := lt_some H
      have hz79 : 0 ≤ ((500 : Int)).toNat := by omega
      have hz80 : ((500 : Int)).toNat ≤ xl7.length := by omega
      obtain ⟨xA72, xc73, he78, xC75, xR74⟩ := cut_at (A := xA3) (c := xc4) (l := xl7) (Ec.int 5 .u8) 0 (((500 : Int)).toNat) hz79 hz80 xC6 xR5 (m := xl76) (by rw [← hy77] <;> simp) (z := 1) rfl
      refine ls_cutv (A := xA3) (c := xc4) (m := xl7.length) (z := 1) (e := 5) (a := 0) (b := ((500 : Int)).toNat) rfl rfl (by kernel_rfl) rfl (by kernel_rfl) (by kernel_rfl) (by kernel_rfl) (.inl ⟨rfl, rfl⟩) (.inr ⟨.i64, by rw [Int.toNat_of_nonneg (by first | assumption | omega)]; kernel_rfl⟩) hz79 hz80 xC6 he78 ?_
      obtain ⟨t81, hc82, H⟩ := bind_some H
      refine ls_callb (fid := 36) (vals := #[.slice xA72 xl76.length xc73]) (X := Unit) (fun x => .int .u32 t81) (fun x => stl []) [] [] [] [] 2 rfl rfl (by kernel_rfl) (fun w => by kernel_rfl) trivial trivial (by decide) (fun w hs hb => crc_Sum.calls k xA72 xc73 xl76 t81 (lent b w [] []) hb (hs.ro xR74 _ _) xC75 hc82) ?_
      intro x83
      refine ls_val (v := .bool (!decide ((IntKind.wrap .u32 t68.1) = t81))) rfl rfl (by kernel_rfl) (fun w => by kernel_rfl) ?_
      refine ls_end ?_
      refine qn_then ?_
      by_cases q84 : (IntKind.wrap .u32 t68.1) = t81
      · replace H := ite_t q84 H
        refine cs_know (c := false) (congrArg Bool.not (dec_t q84)) 30 (by kernel_rfl) ?_
        refine cs_false (by kernel_rfl) ?_
        refine cs_skip' ?_
        refine qn_meet (sput s0 0 (some (Ck.var 42 g1 (([Value.int .i64 (0 : Int)] ++ (([Value.int .i64 (0 : Int)] ++ ([Value.int .i64 (0 : Int)] ++ ([Value.int .i64 (0 : Int)] ++ ([Value.int .u32 (0 : Int)] ++ en (Value.int .u8) (vrep 32 (0 : Int)).1)))) ++ [Value.int .i64 (0 : Int)])))))) ⟨_, fr_next (fr_next (rfl) (by kernel_rfl)) (by kernel_rfl), rfl, H⟩ (sub_put (by exact rfl) (sub_nil _))
      · replace H := ite_f q84 H
        refine cs_know (c := true) (congrArg Bool.not (dec_f q84)) 30 (by kernel_rfl) ?_
        refine cs_true (by kernel_rfl) ?_
        refine cs_seq ?_
        refine cs_region (l := [_, _, _]) ?_
        refine ls_build (ps := []) (pl := #[(0, 1), (1, 36), (37, 1)]) (zv := .agg ⟨([Value.int .i64 (0 : Int)] ++ (([Value.int .i64 (0 : Int)] ++ ([Value.int .i64 (0 : Int)] ++ ([Value.int .i64 (0 : Int)] ++ ([Value.int .u32 (0 : Int)] ++ en (Value.int .u8) (vrep 32 (0 : Int)).1)))) ++ [Value.int .i64 (0 : Int)]))⟩) (zc := ([Value.int .i64 (0 : Int)] ++ (([Value.int .i64 (0 : Int)] ++ ([Value.int .i64 (0 : Int)] ++ ([Value.int .i64 (0 : Int)] ++ ([Value.int .u32 (0 : Int)] ++ en (Value.int .u8) (vrep 32 (0 : Int)).1)))) ++ [Value.int .i64 (0 : Int)]))) (r := ([Value.int .i64 (0 : Int)] ++ (([Value.int .i64 (0 : Int)] ++ ([Value.int .i64 (0 : Int)] ++ ([Value.int .i64 (0 : Int)] ++ ([Value.int .u32 (0 : Int)] ++ en (Value.int .u8) (vrep 32 (0 : Int)).1)))) ++ [Value.int .i64 (0 : Int)]))) rfl rfl (by kernel_rfl) rfl (by kernel_rfl) (by kernel_rfl) (fun w => by kernel_rfl) (fun w => by kernel_rfl) rfl fill_nil ?_
        refine ls_storec (g := g1) (off := 0) (v := .agg ⟨([Value.int .i64 (0 : Int)] ++ (([Value.int .i64 (0 : Int)] ++ ([Value.int .i64 (0 : Int)] ++ ([Value.int .i64 (0 : Int)] ++ ([Value.int .u32 (0 : Int)] ++ en (Value.int .u8) (vrep 32 (0 : Int)).1)))) ++ [Value.int .i64 (0 : Int)]))⟩) (vs := ([Value.int .i64 (0 : Int)] ++ (([Value.int .i64 (0 : Int)] ++ ([Value.int .i64 (0 : Int)] ++ ([Value.int .i64 (0 : Int)] ++ ([Value.int .u32 (0 : Int)] ++ en (Value.int .u8) (vrep 32 (0 : Int)).1)))) ++ [Value.int .i64 (0 : Int)]))) (cs := ([Value.int .i64 (0 : Int)] ++ (([Value.int .i64 (0 : Int)] ++ ([Value.int .i64 (0 : Int)] ++ ([Value.int .i64 (0 : Int)] ++ ([Value.int .u32 (0 : Int)] ++ en (Value.int .u8) (vrep 32 (0 : Int)).1)))) ++ [Value.int .i64 (0 : Int)]))) (ty := 42) 0 rfl rfl rfl (by kernel_rfl) (by kernel_rfl) (by kernel_rfl) (by exact rfl) (by kernel_rfl) (len_app (len1 _) (len_app (len_app (len1 _) (len_app (len1 _) (len_app (len1 _) (len_app (len1 _) (len_en _ (vrep 32 (0 : Int))))))) (len1 _))) (one_app (one_cons rfl one_nil) (one_app (one_app (one_cons rfl one_nil) (one_app (one_cons rfl one_nil) (one_app (one_cons rfl one_nil) (one_app (one_cons rfl one_nil) (one_en (fun _ => rfl) _))))) (one_cons rfl one_nil))) (hl_of (Sub4.all _) (len_eq (len_app (len1 _) (len_app (len_app (len1 _) (len_app (len1 _) (len_app (len1 _) (len_app (len1 _) (len_en _ (vrep 32 (0 : Int))))))) (len1 _))) (len_app (len1 _) (len_app (len_app (len1 _) (len_app (len1 _) (len_app (len1 _) (len_app (len1 _) (len_en _ (vrep 32 (0 : Int))))))) (len1 _))))) (cs' := ([Value.int .i64 (0 : Int)] ++ (([Value.int .i64 (0 : Int)] ++ ([Value.int .i64 (0 : Int)] ++ ([Value.int .i64 (0 : Int)] ++ ([Value.int .u32 (0 : Int)] ++ en (Value.int .u8) (vrep 32 (0 : Int)).1)))) ++ [Value.int .i64 (0 : Int)]))) (splc_all (len_eq (len_app (len1 _) (len_app (len_app (len1 _) (len_app (len1 _) (len_app (len1 _) (len_app (len1 _) (len_en _ (vrep 32 (0 : Int))))))) (len1 _))) (len_app (len1 _) (len_app (len_app (len1 _) (len_app (len1 _) (len_app (len1 _) (len_app (len1 _) (len_en _ (vrep 32 (0 : Int))))))) (len1 _))))) ?_
        refine ls_val (v := .int .i64 (12 : Int)) rfl rfl (by kernel_rfl) (fun w => by kernel_rfl) ?_
        refine ls_end ?_
        refine qn_then ?_
        refine cs_ret' ?_
        refine qr_then ?_
        obtain rfl := Option.some.inj H
        refine qr_res (rs := [_, _]) rfl (fun w' hs => ⟨[.agg ⟨([Value.int .i64 (0 : Int)] ++ (([Value.int .i64 (0 : Int)] ++ ([Value.int .i64 (0 : Int)] ++ ([Value.int .i64 (0 : Int)] ++ ([Value.int .u32 (0 : Int)] ++ en (Value.int .u8) (vrep 32 (0 : Int)).1)))) ++ [Value.int .i64 (0 : Int)]))⟩, .int .i64 (12 : Int)], (.cell (by kernel_rfl) (run_cellres (by kernel_rfl) (by kernel_rfl) (len_app (len1 _) (len_app (len_app (len1 _) (len_app (len1 _) (len_app (len1 _) (len_app (len1 _) (len_en _ (vrep 32 (0 : Int))))))) (len1 _))) (hs.holds 0 _ (by exact rfl))) (res_tmp (by kernel_rfl) (.nil))), (), rfl, hs.pick (ts := []) (cs := []) trivial (by decide)⟩)
    · rintro f S ⟨fr2, rfl, rfl, H⟩
      replace H : ((label_Open_1.f k xl7).bind fun t14 => (if (4 : Int) ≤ (t14.2.length : Int) then lt (t14.2.drop ((4 : Int)).toNat) fun xl28 => (label_Open_1.f k xl28).bind fun t33 => (pointer_Read.f k t33.2).bind fun t42 => (if t42.2 = (0 : Int) then (label_Label_right.f k (t14.1, t42.1, t33.1)).bind fun t49 => (if t49 = true then (label_Label_bytes.f k (t14.1, t42.1, t33.1)).bind fun t53 => (if ((strOfNums t53).toList == (strOfNums xl7).toList) = true then some ((t14.1, t42.1, t33.1), (0 : Int)) else some (((0 : Int), ((0 : Int), (0 : Int), (0 : Int), (0 : Int), (vrep 32 (0 : Int))), (0 : Int)), (11 : Int))) else some (((0 : Int), ((0 : Int), (0 : Int), (0 : Int), (0 : Int), (vrep 32 (0 : Int))), (0 : Int)), (11 : Int))) else some (((0 : Int), ((0 : Int), (0 : Int), (0 : Int), (0 : Int), (vrep 32 (0 : Int))), (0 : Int)), (11 : Int))) else none)) = some r := H
      refine cs_seq ?_
      refine cs_region (l := [_, _, _]) ?_
      refine ls_val (v := .slice xA3 xl7.length xc4) rfl rfl (by kernel_rfl) (fun w => by kernel_rfl) ?_
      refine ls_new rfl rfl (by kernel_rfl) 1 (fun g => .pointer (some ⟨g, 0, none⟩)) (.cells ⟨[Value.slice none 0 0]⟩ 26) (fun w => by kernel_rfl) ?_
      intro g12
      refine ls_storec (g := g12) (off := 0) (v := .slice xA3 xl7.length xc4) (vs := [Value.slice xA3 xl7.length xc4]) (cs := [Value.slice none 0 0]) (ty := 26) 1 rfl rfl rfl (by kernel_rfl) (by kernel_rfl) (by kernel_rfl) (by exact rfl) (by kernel_rfl) (len1 _) (one_cons rfl one_nil) (hl_of (Sub4.all _) (len_eq (len1 _) (len1 _))) (cs' := [Value.slice xA3 xl7.length xc4]) (splc_all (len_eq (len1 _) (len1 _))) ?_
      refine ls_end ?_
      refine qn_then ?_
      refine cs_seq ?_
      refine cs_region (l := [_, _]) ?_
      refine ls_val (v := .func (.func 43) #[] #[.pointer (some ⟨g12, 0, none⟩)]) rfl rfl (by kernel_rfl) (fun w => by kernel_rfl) ?_
      refine ls_val (v := .func (.func 43) #[] #[.pointer (some ⟨g12, 0, none⟩)]) rfl rfl (by kernel_rfl) (fun w => by kernel_rfl) ?_
      refine ls_end ?_
      refine qn_then ?_
      refine cs_seq ?_
      refine cs_region (l := [_]) ?_
      refine ls_new rfl rfl (by kernel_rfl) 2 (fun g => .pointer (some ⟨g, 0, none⟩)) (.cells ⟨([Value.int .i64 (0 : Int)] ++ (([Value.int .i64 (0 : Int)] ++ ([Value.int .i64 (0 : Int)] ++ ([Value.int .i64 (0 : Int)] ++ ([Value.int .u32 (0 : Int)] ++ en (Value.int .u8) (vrep 32 (0 : Int)).1)))) ++ [Value.int .i64 (0 : Int)]))⟩ 42) (fun w => by kernel_rfl) ?_
      intro g13
      refine ls_end ?_
      refine qn_then ?_
      refine cs_seq ?_
      refine cs_region (l := [_, _, _, _]) ?_
      refine ls_val (v := .func (.func 43) #[] #[.pointer (some ⟨g12, 0, none⟩)]) rfl rfl (by kernel_rfl) (fun w => by kernel_rfl) ?_
      obtain ⟨t14, hc15, H⟩ := bind_some H
      refine ls_callf (fid := 43) (vals := #[.pointer (some ⟨g12, 0, none⟩)]) (X := (Option Addr × Nat)) (fun x => .int .i64 t14.1) (fun x => stl [Ck.var 26 g12 ([Value.slice x.1 t14.2.length x.2])]) (fun x B => (Ro B x.1 (em (Ec.int 5 .u8) t14.2) ∧ t14.2.length ≤ x.2)) [1] [Ck.var 26 g12 ([Value.slice xA3 xl7.length xc4])] 3 rfl rfl (by kernel_rfl) (fun w => by kernel_rfl) ⟨by exact rfl, trivial⟩ (by decide) (fun x b b' h hf => ⟨h _ _ hf.1, hf.2⟩) (fun w hs hb => label_Open_1.calls k g12 xA3 xc4 xl7 t14 (lent b w [Ck.var 26 g12 ([Value.slice xA3 xl7.length xc4])] []) hb (hs.ro xR5 _ _) xC6 hc15) ?_
      intro x16 bs19 hle20 hok21 hf22
      obtain ⟨fR17, fC18⟩ := hf22
      refine ls_val (v := .pointer (some ⟨g13, (0 + 0), none⟩)) rfl rfl (by kernel_rfl) (fun w => by kernel_rfl) ?_
      refine ls_storec (g := g13) (off := (0 + 0)) (v := .int .i64 t14.1) (vs := [Value.int .i64 t14.1]) (cs := ([Value.int .i64 (0 : Int)] ++ (([Value.int .i64 (0 : Int)] ++ ([Value.int .i64 (0 : Int)] ++ ([Value.int .i64 (0 : Int)] ++ ([Value.int .u32 (0 : Int)] ++ en (Value.int .u8) (vrep 32 (0 : Int)).1)))) ++ [Value.int .i64 (0 : Int)]))) (ty := 42) 2 rfl rfl rfl (by kernel_rfl) (by kernel_rfl) (by kernel_rfl) (by exact rfl) (by kernel_rfl) (len1 _) (one_cons rfl one_nil) (hl_of (Sub4.trans (Sub4.all _) (Sub4.head _ _)) (len_eq (len1 _) (len1 _))) (cs' := ([Value.int .i64 t14.1] ++ (([Value.int .i64 (0 : Int)] ++ ([Value.int .i64 (0 : Int)] ++ ([Value.int .i64 (0 : Int)] ++ ([Value.int .u32 (0 : Int)] ++ en (Value.int .u8) (vrep 32 (0 : Int)).1)))) ++ [Value.int .i64 (0 : Int)]))) (splc_in (Sub4.all _) (splc_head (len_eq (len1 _) (len1 _))) (splc_all (len_eq (len_app (len1 _) (len_app (len_app (len1 _) (len_app (len1 _) (len_app (len1 _) (len_app (len1 _) (len_en _ (vrep 32 (0 : Int))))))) (len1 _))) (len_app (len1 _) (len_app (len_app (len1 _) (len_app (len1 _) (len_app (len1 _) (len_app (len1 _) (len_en _ (vrep 32 (0 : Int))))))) (len1 _))))) (hl_of (Sub4.head _ _) (len_eq (len1 _) (len1 _)))) ?_
      refine ls_end ?_
      refine qn_then ?_
      refine cs_seq ?_
      refine cs_region (l := [_, _, _]) ?_
      refine ls_load (a0 := ⟨g12, 0, none⟩) (v := .slice x16.1 t14.2.length x16.2) (de := (TypeDesc.slice 5)) rfl rfl (by kernel_rfl) rfl (by kernel_rfl) (by kernel_rfl) (by kernel_rfl) (fun w hs => (hs.var (k := 1) (by exact rfl) (Sub4.all _))) ?_
      obtain ⟨q23, H⟩ := ite_need H
      obtain ⟨xl28, hy29, H⟩ := lt_some H
      have hz31 : ((4 : Int)).toNat ≤ t14.2.length := by omega
      have hz32 : t14.2.length ≤ t14.2.length := by omega
      obtain ⟨xA24, xc25, he30, xC27, xR26⟩ := cut_at (A := x16.1) (c := x16.2) (l := t14.2) (Ec.int 5 .u8) (((4 : Int)).toNat) t14.2.length hz31 hz32 fC18 fR17 (m := xl28) (by rw [← hy29] <;> simp) (z := 1) rfl
      refine ls_cutv (A := x16.1) (c := x16.2) (m := t14.2.length) (z := 1) (e := 5) (a := ((4 : Int)).toNat) (b := t14.2.length) rfl rfl (by kernel_rfl) rfl (by kernel_rfl) (by kernel_rfl) (by kernel_rfl) (.inr ⟨.i64, by rw [Int.toNat_of_nonneg (by first | assumption | omega)]; kernel_rfl⟩) (.inl ⟨rfl, rfl⟩) hz31 hz32 fC18 he30 ?_
      refine ls_storec (g := g12) (off := 0) (v := .slice xA24 xl28.length xc25) (vs := [Value.slice xA24 xl28.length xc25]) (cs := [Value.slice x16.1 t14.2.length x16.2]) (ty := 26) 1 rfl rfl rfl (by kernel_rfl) (by kernel_rfl) (by kernel_rfl) (by exact rfl) (by kernel_rfl) (len1 _) (one_cons rfl one_nil) (hl_of (Sub4.all _) (len_eq (len1 _) (len1 _))) (cs' := [Value.slice xA24 xl28.length xc25]) (splc_all (len_eq (len1 _) (len1 _))) ?_
      refine ls_end ?_
      refine qn_then ?_
      refine cs_seq ?_
      refine cs_region (l := [_, _, _, _]) ?_
      refine ls_val (v := .func (.func 43) #[] #[.pointer (some ⟨g12, 0, none⟩)]) rfl rfl (by kernel_rfl) (fun w => by kernel_rfl) ?_
      obtain ⟨t33, hc34, H⟩ := bind_some H
      refine ls_callf (fid := 43) (vals := #[.pointer (some ⟨g12, 0, none⟩)]) (X := (Option Addr × Nat)) (fun x => .int .i64 t33.1) (fun x => stl [Ck.var 26 g12 ([Value.slice x.1 t33.2.length x.2])]) (fun x B => (Ro B x.1 (em (Ec.int 5 .u8) t33.2) ∧ t33.2.length ≤ x.2)) [1] [Ck.var 26 g12 ([Value.slice xA24 xl28.length xc25])] 3 rfl rfl (by kernel_rfl) (fun w => by kernel_rfl) ⟨by exact rfl, trivial⟩ (by decide) (fun x b b' h hf => ⟨h _ _ hf.1, hf.2⟩) (fun w hs hb => label_Open_1.calls k g12 xA24 xc25 xl28 t33 (lent bs19 w [Ck.var 26 g12 ([Value.slice xA24 xl28.length xc25])] []) hb (hs.ro xR26 _ _) xC27 hc34) ?_
      intro x35 bs38 hle39 hok40 hf41
      obtain ⟨fR36, fC37⟩ := hf41
      refine ls_val (v := .pointer (some ⟨g13, (0 + 37), none⟩)) rfl rfl (by kernel_rfl) (fun w => by kernel_rfl) ?_
      refine ls_storec (g := g13) (off := (0 + 37)) (v := .int .i64 t33.1) (vs := [Value.int .i64 t33.1]) (cs := ([Value.int .i64 t14.1] ++ (([Value.int .i64 (0 : Int)] ++ ([Value.int .i64 (0 : Int)] ++ ([Value.int .i64 (0 : Int)] ++ ([Value.int .u32 (0 : Int)] ++ en (Value.int .u8) (vrep 32 (0 : Int)).1)))) ++ [Value.int .i64 (0 : Int)]))) (ty := 42) 2 rfl rfl rfl (by kernel_rfl) (by kernel_rfl) (by kernel_rfl) (by exact rfl) (by kernel_rfl) (len1 _) (one_cons rfl one_nil) (hl_of (Sub4.trans (Sub4.all _) (Sub4.skip (n := 1) (len1 _) (Sub4.skip (n := 36) (len_app (len1 _) (len_app (len1 _) (len_app (len1 _) (len_app (len1 _) (len_en _ (vrep 32 (0 : Int))))))) (Sub4.all _)))) (len_eq (len1 _) (len1 _))) (cs' := ([Value.int .i64 t14.1] ++ (([Value.int .i64 (0 : Int)] ++ ([Value.int .i64 (0 : Int)] ++ ([Value.int .i64 (0 : Int)] ++ ([Value.int .u32 (0 : Int)] ++ en (Value.int .u8) (vrep 32 (0 : Int)).1)))) ++ [Value.int .i64 t33.1]))) (splc_in (Sub4.all _) (splc_skip (n := 1) (len1 _) (splc_skip (n := 36) (len_app (len1 _) (len_app (len1 _) (len_app (len1 _) (len_app (len1 _) (len_en _ (vrep 32 (0 : Int))))))) (splc_all (len_eq (len1 _) (len1 _))))) (splc_all (len_eq (len_app (len1 _) (len_app (len_app (len1 _) (len_app (len1 _) (len_app (len1 _) (len_app (len1 _) (len_en _ (vrep 32 (0 : Int))))))) (len1 _))) (len_app (len1 _) (len_app (len_app (len1 _) (len_app (len1 _) (len_app (len1 _) (len_app (len1 _) (len_en _ (vrep 32 (0 : Int))))))) (len1 _))))) (hl_of (Sub4.skip (n := 1) (len1 _) (Sub4.skip (n := 36) (len_app (len1 _) (len_app (len1 _) (len_app (len1 _) (len_app (len1 _) (len_en _ (vrep 32 (0 : Int))))))) (Sub4.all _))) (len_eq (len1 _) (len1 _)))) ?_
      refine ls_end ?_
      refine qn_then ?_
      refine cs_seq ?_
      refine cs_region (l := [_, _, _, _, _, _, _, _]) ?_
      refine ls_load (a0 := ⟨g12, 0, none⟩) (v := .slice x35.1 t33.2.length x35.2) (de := (TypeDesc.slice 5)) rfl rfl (by kernel_rfl) rfl (by kernel_rfl) (by kernel_rfl) (by kernel_rfl) (fun w hs => (hs.var (k := 1) (by exact rfl) (Sub4.all _))) ?_
      obtain ⟨t42, hc43, H⟩ := bind_some H
      refine ls_callb (fid := 10) (vals := #[.slice x35.1 t33.2.length x35.2]) (X := Unit) (fun x => .tuple #[.agg ⟨([Value.int .i64 t42.1.1] ++ ([Value.int .i64 t42.1.2.1] ++ ([Value.int .i64 t42.1.2.2.1] ++ ([Value.int .u32 t42.1.2.2.2.1] ++ en (Value.int .u8) t42.1.2.2.2.2.1))))⟩, .int .i64 t42.2]) (fun x => stl []) [] [] [] [] 3 rfl rfl (by kernel_rfl) (fun w => by kernel_rfl) trivial trivial (by decide) (fun w hs hb => pointer_Read.calls k x35.1 x35.2 t33.2 t42 (lent bs38 w [] []) hb (hs.ro fR36 _ _) fC37 hc43) ?_
      intro x44
      refine ls_val (v := .tuple #[.agg ⟨([Value.int .i64 t42.1.1] ++ ([Value.int .i64 t42.1.2.1] ++ ([Value.int .i64 t42.1.2.2.1] ++ ([Value.int .u32 t42.1.2.2.2.1] ++ en (Value.int .u8) t42.1.2.2.2.2.1))))⟩, .int .i64 t42.2]) rfl rfl (by kernel_rfl) (fun w => by kernel_rfl) ?_
      refine ls_val (v := .agg ⟨([Value.int .i64 t42.1.1] ++ ([Value.int .i64 t42.1.2.1] ++ ([Value.int .i64 t42.1.2.2.1] ++ ([Value.int .u32 t42.1.2.2.2.1] ++ en (Value.int .u8) t42.1.2.2.2.2.1))))⟩) rfl rfl (by kernel_rfl) (fun w => by kernel_rfl) ?_
      refine ls_val (v := .int .i64 t42.2) rfl rfl (by kernel_rfl) (fun w => by kernel_rfl) ?_
      refine ls_new rfl rfl (by kernel_rfl) 3 (fun g => .pointer (some ⟨g, 0, none⟩)) (.cells ⟨([Value.int .i64 (0 : Int)] ++ ([Value.int .i64 (0 : Int)] ++ ([Value.int .i64 (0 : Int)] ++ ([Value.int .u32 (0 : Int)] ++ en (Value.int .u8) (vrep 32 (0 : Int)).1))))⟩ 25) (fun w => by kernel_rfl) ?_
      intro g45
      refine ls_storec (g := g45) (off := 0) (v := .agg ⟨([Value.int .i64 t42.1.1] ++ ([Value.int .i64 t42.1.2.1] ++ ([Value.int .i64 t42.1.2.2.1] ++ ([Value.int .u32 t42.1.2.2.2.1] ++ en (Value.int .u8) t42.1.2.2.2.2.1))))⟩) (vs := ([Value.int .i64 t42.1.1] ++ ([Value.int .i64 t42.1.2.1] ++ ([Value.int .i64 t42.1.2.2.1] ++ ([Value.int .u32 t42.1.2.2.2.1] ++ en (Value.int .u8) t42.1.2.2.2.2.1))))) (cs := ([Value.int .i64 (0 : Int)] ++ ([Value.int .i64 (0 : Int)] ++ ([Value.int .i64 (0 : Int)] ++ ([Value.int .u32 (0 : Int)] ++ en (Value.int .u8) (vrep 32 (0 : Int)).1))))) (ty := 25) 3 rfl rfl rfl (by kernel_rfl) (by kernel_rfl) (by kernel_rfl) (by exact rfl) (by kernel_rfl) (len_app (len1 _) (len_app (len1 _) (len_app (len1 _) (len_app (len1 _) (len_en _ t42.1.2.2.2.2))))) (one_app (one_cons rfl one_nil) (one_app (one_cons rfl one_nil) (one_app (one_cons rfl one_nil) (one_app (one_cons rfl one_nil) (one_en (fun _ => rfl) _))))) (hl_of (Sub4.all _) (len_eq (len_app (len1 _) (len_app (len1 _) (len_app (len1 _) (len_app (len1 _) (len_en _ t42.1.2.2.2.2))))) (len_app (len1 _) (len_app (len1 _) (len_app (len1 _) (len_app (len1 _) (len_en _ (vrep 32 (0 : Int))))))))) (cs' := ([Value.int .i64 t42.1.1] ++ ([Value.int .i64 t42.1.2.1] ++ ([Value.int .i64 t42.1.2.2.1] ++ ([Value.int .u32 t42.1.2.2.2.1] ++ en (Value.int .u8) t42.1.2.2.2.2.1))))) (splc_all (len_eq (len_app (len1 _) (len_app (len1 _) (len_app (len1 _) (len_app (len1 _) (len_en _ t42.1.2.2.2.2))))) (len_app (len1 _) (len_app (len1 _) (len_app (len1 _) (len_app (len1 _) (len_en _ (vrep 32 (0 : Int))))))))) ?_
      refine ls_val (v := .int .i64 t42.2) rfl rfl (by kernel_rfl) (fun w => by kernel_rfl) ?_
      refine ls_end ?_
      refine qn_then ?_
      refine cs_seq ?_
      refine cs_region (l := [_, _, _]) ?_
      refine ls_loadagg (a := ⟨g45, 0, none⟩) (sub := ([Value.int .i64 t42.1.1] ++ ([Value.int .i64 t42.1.2.1] ++ ([Value.int .i64 t42.1.2.2.1] ++ ([Value.int .u32 t42.1.2.2.2.1] ++ en (Value.int .u8) t42.1.2.2.2.2.1))))) rfl rfl (by kernel_rfl) rfl (by kernel_rfl) (by kernel_rfl) (by kernel_rfl) (len_app (len1 _) (len_app (len1 _) (len_app (len1 _) (len_app (len1 _) (len_en _ t42.1.2.2.2.2))))) (fun w hs => (hs.vars (k := 3) (by exact rfl) (Sub4.all _))) ?_
      refine ls_val (v := .pointer (some ⟨g13, (0 + 1), none⟩)) rfl rfl (by kernel_rfl) (fun w => by kernel_rfl) ?_
      refine ls_storec (g := g13) (off := (0 + 1)) (v := .agg ⟨([Value.int .i64 t42.1.1] ++ ([Value.int .i64 t42.1.2.1] ++ ([Value.int .i64 t42.1.2.2.1] ++ ([Value.int .u32 t42.1.2.2.2.1] ++ en (Value.int .u8) t42.1.2.2.2.2.1))))⟩) (vs := ([Value.int .i64 t42.1.1] ++ ([Value.int .i64 t42.1.2.1] ++ ([Value.int .i64 t42.1.2.2.1] ++ ([Value.int .u32 t42.1.2.2.2.1] ++ en (Value.int .u8) t42.1.2.2.2.2.1))))) (cs := ([Value.int .i64 t14.1] ++ (([Value.int .i64 (0 : Int)] ++ ([Value.int .i64 (0 : Int)] ++ ([Value.int .i64 (0 : Int)] ++ ([Value.int .u32 (0 : Int)] ++ en (Value.int .u8) (vrep 32 (0 : Int)).1)))) ++ [Value.int .i64 t33.1]))) (ty := 42) 2 rfl rfl rfl (by kernel_rfl) (by kernel_rfl) (by kernel_rfl) (by exact rfl) (by kernel_rfl) (len_app (len1 _) (len_app (len1 _) (len_app (len1 _) (len_app (len1 _) (len_en _ t42.1.2.2.2.2))))) (one_app (one_cons rfl one_nil) (one_app (one_cons rfl one_nil) (one_app (one_cons rfl one_nil) (one_app (one_cons rfl one_nil) (one_en (fun _ => rfl) _))))) (hl_of (Sub4.trans (Sub4.all _) (Sub4.skip (n := 1) (len1 _) (Sub4.head _ _))) (len_eq (len_app (len1 _) (len_app (len1 _) (len_app (len1 _) (len_app (len1 _) (len_en _ t42.1.2.2.2.2))))) (len_app (len1 _) (len_app (len1 _) (len_app (len1 _) (len_app (len1 _) (len_en _ (vrep 32 (0 : Int))))))))) (cs' := ([Value.int .i64 t14.1] ++ (([Value.int .i64 t42.1.1] ++ ([Value.int .i64 t42.1.2.1] ++ ([Value.int .i64 t42.1.2.2.1] ++ ([Value.int .u32 t42.1.2.2.2.1] ++ en (Value.int .u8) t42.1.2.2.2.2.1)))) ++ [Value.int .i64 t33.1]))) (splc_in (Sub4.all _) (splc_skip (n := 1) (len1 _) (splc_head (len_eq (len_app (len1 _) (len_app (len1 _) (len_app (len1 _) (len_app (len1 _) (len_en _ t42.1.2.2.2.2))))) (len_app (len1 _) (len_app (len1 _) (len_app (len1 _) (len_app (len1 _) (len_en _ (vrep 32 (0 : Int)))))))))) (splc_all (len_eq (len_app (len1 _) (len_app (len_app (len1 _) (len_app (len1 _) (len_app (len1 _) (len_app (len1 _) (len_en _ t42.1.2.2.2.2))))) (len1 _))) (len_app (len1 _) (len_app (len_app (len1 _) (len_app (len1 _) (len_app (len1 _) (len_app (len1 _) (len_en _ (vrep 32 (0 : Int))))))) (len1 _))))) (hl_of (Sub4.skip (n := 1) (len1 _) (Sub4.head _ _)) (len_eq (len_app (len1 _) (len_app (len1 _) (len_app (len1 _) (len_app (len1 _) (len_en _ t42.1.2.2.2.2))))) (len_app (len1 _) (len_app (len1 _) (len_app (len1 _) (len_app (len1 _) (len_en _ (vrep 32 (0 : Int)))))))))) ?_
      refine ls_end ?_
      refine qn_then ?_
      refine cs_seq ?_
      refine cs_seq ?_
      obtain ⟨s47_0, hs47_0⟩ : ∃ z : Value → Sto → Prop, z = (fun v R => v = .int .i64 t42.2 ∧ R = s0) := ⟨_, rfl⟩
      refine have_op (l := [_, _, _, _, _, _, _, _, _, _, _, _, _, _, _]) label_Open.tab45 4 0 (fun sp => sp 0 = s47_0) (fun sp on hA hon => ?_) (fun ops47_0 => ?_)
      · refine ⟨fun o ho vs Rs f' S' w hp hf hx hS hR hs => ?_⟩
        obtain rfl := Option.some.inj ho
        rw [hA, hs47_0]
        refine And.intro (fun a ha => (want_none rfl a ha).trans hon.symm) (And.intro (fun _ => ?_) (fun h => by rw [hon] at h; cases h))
        have hF := fr_next (rfl) ((hx 11 (by kernel_rfl)).trans (by kernel_rfl : (_ : Value) = .int .i64 t42.2))
        refine ls_fr hF ?_
        refine ls_val (v := .int .i64 t42.2) rfl rfl (by kernel_rfl) (fun w => by kernel_rfl) ?_
        exact ls_fin s0 (.int .i64 t42.2) (congrArg (fun z => upd z 49 _) hF.symm) ⟨rfl, rfl⟩ (sub_nil _)
      obtain ⟨s47_1, hs47_1⟩ : ∃ z : Value → Sto → Prop, z = (fun v R => v = .bool (!decide (t42.2 = (0 : Int))) ∧ R = s0) := ⟨_, rfl⟩
      refine have_op (l := [_, _, _, _, _, _, _, _, _, _, _, _, _, _, _]) label_Open.tab45 4 1 (fun sp => sp 1 = s47_1 ∧ sp 0 = s47_0) (fun sp on hA hon => ?_) (fun ops47_1 => ?_)
      · refine ⟨fun o ho vs Rs f' S' w hp hf hx hS hR hs => ?_⟩
        obtain rfl := Option.some.inj ho
        obtain ⟨hv0, hR0⟩ := (spe hA.2 hs47_0 (hp 0 (by kernel_rfl)))
        rw [hA.1, hs47_1]
        refine And.intro (fun a ha => (want_none rfl a ha).trans hon.symm) (And.intro (fun _ => ?_) (fun h => by rw [hon] at h; cases h))
        have hF := fr_next (rfl) ((hf 0 49 (by kernel_rfl) rfl).trans hv0)
        refine ls_fr hF ?_
        refine ls_val (v := .bool (!decide (t42.2 = (0 : Int)))) rfl rfl (by kernel_rfl) (fun w => by kernel_rfl) ?_
        exact ls_fin s0 (.bool (!decide (t42.2 = (0 : Int)))) (congrArg (fun z => upd z 50 _) hF.symm) ⟨rfl, rfl⟩ (sub_nil _)
      obtain ⟨s47_2, hs47_2⟩ : ∃ z : Value → Sto → Prop, z = (fun v R => v = .bool (!decide (t42.2 = (0 : Int))) ∧ R = s0) := ⟨_, rfl⟩
      refine have_op (l := [_, _, _, _, _, _, _, _, _, _, _, _, _, _, _]) label_Open.tab45 4 2 (fun sp => sp 2 = s47_2 ∧ sp 1 = s47_1) (fun sp on hA hon => ?_) (fun ops47_2 => ?_)
      · refine ⟨fun o ho vs Rs f' S' w hp hf hx hS hR hs => ?_⟩
        obtain rfl := Option.some.inj ho
        obtain ⟨hv1, hR1⟩ := (spe hA.2 hs47_1 (hp 1 (by kernel_rfl)))
        rw [hA.1, hs47_2]
        refine And.intro (fun a ha => (want_none rfl a ha).trans hon.symm) (And.intro (fun _ => ?_) (fun h => by rw [hon] at h; cases h))
        have hF := fr_next (rfl) ((hf 1 50 (by kernel_rfl) rfl).trans hv1)
        refine ls_fr hF ?_
        refine ls_val (v := .bool (!decide (t42.2 = (0 : Int)))) rfl rfl (by kernel_rfl) (fun w => by kernel_rfl) ?_
        exact ls_fin s0 (.bool (!decide (t42.2 = (0 : Int)))) (congrArg (fun z => upd z 51 _) hF.symm) ⟨rfl, rfl⟩ (sub_nil _)
      by_cases q48 : t42.2 = (0 : Int)
      · replace H := ite_t q48 H
        obtain ⟨s47_3, hs47_3⟩ : ∃ z : Value → Sto → Prop, z = (fun v R => v = .agg ⟨([Value.int .i64 t14.1] ++ (([Value.int .i64 t42.1.1] ++ ([Value.int .i64 t42.1.2.1] ++ ([Value.int .i64 t42.1.2.2.1] ++ ([Value.int .u32 t42.1.2.2.2.1] ++ en (Value.int .u8) t42.1.2.2.2.2.1)))) ++ [Value.int .i64 t33.1]))⟩ ∧ R = s0) := ⟨_, rfl⟩
        refine have_op (l := [_, _, _, _, _, _, _, _, _, _, _, _, _, _, _]) label_Open.tab45 4 3 (fun sp => sp 3 = s47_3 ∧ sp 2 = s47_2) (fun sp on hA hon => ?_) (fun ops47_3 => ?_)
        · refine ⟨fun o ho vs Rs f' S' w hp hf hx hS hR hs => ?_⟩
          obtain rfl := Option.some.inj ho
          obtain ⟨hv2, hR2⟩ := (spe hA.2 hs47_2 (hp 2 (by kernel_rfl)))
          rw [hA.1, hs47_3]
          refine And.intro (fun a ha => (want_is (j := 2) (t := 51) (r := true) rfl rfl (by kernel_rfl) (((hf 2 51 (by kernel_rfl) rfl).trans hv2).trans (congrArg Value.bool (show (!decide (t42.2 = (0 : Int))) = false from congrArg Bool.not (dec_t q48)))) rfl a ha).trans hon.symm) (And.intro (fun _ => ?_) (fun h => by rw [hon] at h; cases h))
          have hF := fr_next (fr_next (rfl) ((hx 9 (by kernel_rfl)).trans (by kernel_rfl : (_ : Value) = .pointer (some ⟨g13, 0, none⟩)))) (((hf 2 51 (by kernel_rfl) rfl).trans hv2).trans (congrArg Value.bool (show (!decide (t42.2 = (0 : Int))) = false from congrArg Bool.not (dec_t q48))))
          refine ls_fr hF ?_
          refine ls_loadagg (a := ⟨g13, 0, none⟩) (sub := ([Value.int .i64 t14.1] ++ (([Value.int .i64 t42.1.1] ++ ([Value.int .i64 t42.1.2.1] ++ ([Value.int .i64 t42.1.2.2.1] ++ ([Value.int .u32 t42.1.2.2.2.1] ++ en (Value.int .u8) t42.1.2.2.2.2.1)))) ++ [Value.int .i64 t33.1]))) rfl rfl (by kernel_rfl) rfl (by kernel_rfl) (by kernel_rfl) (by kernel_rfl) (len_app (len1 _) (len_app (len_app (len1 _) (len_app (len1 _) (len_app (len1 _) (len_app (len1 _) (len_en _ t42.1.2.2.2.2))))) (len1 _))) (fun w1 hs1 => Rd.step (hs.vars (k := 2) ((hS 2 (by kernel_rfl)).trans (by exact rfl)) (Sub4.all _)) hs1.below.bw) ?_
          exact ls_fin s0 (.agg ⟨([Value.int .i64 t14.1] ++ (([Value.int .i64 t42.1.1] ++ ([Value.int .i64 t42.1.2.1] ++ ([Value.int .i64 t42.1.2.2.1] ++ ([Value.int .u32 t42.1.2.2.2.1] ++ en (Value.int .u8) t42.1.2.2.2.2.1)))) ++ [Value.int .i64 t33.1]))⟩) (congrArg (fun z => upd z 52 _) hF.symm) ⟨rfl, rfl⟩ (sub_nil _)
        obtain ⟨t49, hc50, H⟩ := bind_some H
        obtain ⟨s47_4, hs47_4⟩ : ∃ z : Value → Sto → Prop, z = (fun v R => ∃ x51 : Unit, v = .bool t49 ∧ R = stl []) := ⟨_, rfl⟩
        refine have_op (l := [_, _, _, _, _, _, _, _, _, _, _, _, _, _, _]) label_Open.tab45 4 4 (fun sp => sp 4 = s47_4 ∧ sp 2 = s47_2 ∧ sp 3 = s47_3) (fun sp on hA hon => ?_) (fun ops47_4 => ?_)
        · refine ⟨fun o ho vs Rs f' S' w hp hf hx hS hR hs => ?_⟩
          obtain rfl := Option.some.inj ho
          obtain ⟨hv2, hR2⟩ := (spe hA.2.1 hs47_2 (hp 2 (by kernel_rfl)))
          obtain ⟨hv3, hR3⟩ := (spe hA.2.2 hs47_3 (hp 3 (by kernel_rfl)))
          rw [hA.1, hs47_4]
          refine And.intro (fun a ha => (want_is (j := 2) (t := 51) (r := true) rfl rfl (by kernel_rfl) (((hf 2 51 (by kernel_rfl) rfl).trans hv2).trans (congrArg Value.bool (show (!decide (t42.2 = (0 : Int))) = false from congrArg Bool.not (dec_t q48)))) rfl a ha).trans hon.symm) (And.intro (fun _ => ?_) (fun h => by rw [hon] at h; cases h))
          have hF := fr_next (fr_next (rfl) (((hf 2 51 (by kernel_rfl) rfl).trans hv2).trans (congrArg Value.bool (show (!decide (t42.2 = (0 : Int))) = false from congrArg Bool.not (dec_t q48))))) ((hf 3 52 (by kernel_rfl) rfl).trans hv3)
          refine ls_fr hF ?_
          refine ls_call (fid := 40) (vals := #[.agg ⟨([Value.int .i64 t14.1] ++ (([Value.int .i64 t42.1.1] ++ ([Value.int .i64 t42.1.2.1] ++ ([Value.int .i64 t42.1.2.2.1] ++ ([Value.int .u32 t42.1.2.2.2.1] ++ en (Value.int .u8) t42.1.2.2.2.2.1)))) ++ [Value.int .i64 t33.1]))⟩]) (X := Unit) (fun x => .bool t49) (fun x => stl []) 0 rfl rfl (by kernel_rfl) (fun w => by kernel_rfl) (fun w1 hs1 => label_Label_right.calls k (t14.1, t42.1, t33.1) t49 (bw w1) (St.refl w1)  hc50) ?_
          intro x51
          exact ls_fin (stl []) (.bool t49) (congrArg (fun z => upd z 53 _) hF.symm) ⟨x51, rfl, rfl⟩ (sub_join _)
        obtain ⟨s47_5, hs47_5⟩ : ∃ z : Value → Sto → Prop, z = (fun v R => v = .bool (!t49) ∧ R = s0) := ⟨_, rfl⟩
        refine have_op (l := [_, _, _, _, _, _, _, _, _, _, _, _, _, _, _]) label_Open.tab45 4 5 (fun sp => sp 5 = s47_5 ∧ sp 2 = s47_2 ∧ sp 4 = s47_4) (fun sp on hA hon => ?_) (fun ops47_5 => ?_)
        · refine ⟨fun o ho vs Rs f' S' w hp hf hx hS hR hs => ?_⟩
          obtain rfl := Option.some.inj ho
          obtain ⟨hv2, hR2⟩ := (spe hA.2.1 hs47_2 (hp 2 (by kernel_rfl)))
          obtain ⟨x51, hv4, hR4⟩ := (spe hA.2.2 hs47_4 (hp 4 (by kernel_rfl)))
          rw [hA.1, hs47_5]
          refine And.intro (fun a ha => (want_is (j := 2) (t := 51) (r := true) rfl rfl (by kernel_rfl) (((hf 2 51 (by kernel_rfl) rfl).trans hv2).trans (congrArg Value.bool (show (!decide (t42.2 = (0 : Int))) = false from congrArg Bool.not (dec_t q48)))) rfl a ha).trans hon.symm) (And.intro (fun _ => ?_) (fun h => by rw [hon] at h; cases h))
          have hF := fr_next (fr_next (rfl) (((hf 2 51 (by kernel_rfl) rfl).trans hv2).trans (congrArg Value.bool (show (!decide (t42.2 = (0 : Int))) = false from congrArg Bool.not (dec_t q48))))) ((hf 4 53 (by kernel_rfl) rfl).trans hv4)
          refine ls_fr hF ?_
          refine ls_val (v := .bool (!t49)) rfl rfl (by kernel_rfl) (fun w => by kernel_rfl) ?_
          exact ls_fin s0 (.bool (!t49)) (congrArg (fun z => upd z 54 _) hF.symm) ⟨rfl, rfl⟩ (sub_nil _)
        obtain ⟨s47_6, hs47_6⟩ : ∃ z : Value → Sto → Prop, z = (fun v R => v = .bool (!t49) ∧ R = s0) := ⟨_, rfl⟩
        refine have_op (l := [_, _, _, _, _, _, _, _, _, _, _, _, _, _, _]) label_Open.tab45 4 6 (fun sp => sp 6 = s47_6 ∧ sp 2 = s47_2 ∧ sp 5 = s47_5) (fun sp on hA hon => ?_) (fun ops47_6 => ?_)
        · refine ⟨fun o ho vs Rs f' S' w hp hf hx hS hR hs => ?_⟩
          obtain rfl := Option.some.inj ho
          obtain ⟨hv2, hR2⟩ := (spe hA.2.1 hs47_2 (hp 2 (by kernel_rfl)))
          obtain ⟨hv5, hR5⟩ := (spe hA.2.2 hs47_5 (hp 5 (by kernel_rfl)))
          rw [hA.1, hs47_6]
          refine And.intro (fun a ha => (want_none rfl a ha).trans hon.symm) (And.intro (fun _ => ?_) (fun h => by rw [hon] at h; cases h))
          have hF := fr_next (fr_next (rfl) (((hf 2 51 (by kernel_rfl) rfl).trans hv2).trans (congrArg Value.bool (show (!decide (t42.2 = (0 : Int))) = false from congrArg Bool.not (dec_t q48))))) ((hf 5 54 (by kernel_rfl) rfl).trans hv5)
          refine ls_fr hF ?_
          refine ls_val (v := .bool (!t49)) rfl rfl (by kernel_rfl) (fun w => by kernel_rfl) ?_
          exact ls_fin s0 (.bool (!t49)) (congrArg (fun z => upd z 55 _) hF.symm) ⟨rfl, rfl⟩ (sub_nil _)
        obtain ⟨s47_7, hs47_7⟩ : ∃ z : Value → Sto → Prop, z = (fun v R => v = .bool (!t49) ∧ R = s0) := ⟨_, rfl⟩
        refine have_op (l := [_, _, _, _, _, _, _, _, _, _, _, _, _, _, _]) label_Open.tab45 4 7 (fun sp => sp 7 = s47_7 ∧ sp 6 = s47_6) (fun sp on hA hon => ?_) (fun ops47_7 => ?_)
        · refine ⟨fun o ho vs Rs f' S' w hp hf hx hS hR hs => ?_⟩
          obtain rfl := Option.some.inj ho
          obtain ⟨hv6, hR6⟩ := (spe hA.2 hs47_6 (hp 6 (by kernel_rfl)))
          rw [hA.1, hs47_7]
          refine And.intro (fun a ha => (want_none rfl a ha).trans hon.symm) (And.intro (fun _ => ?_) (fun h => by rw [hon] at h; cases h))
          have hF := fr_next (rfl) ((hf 6 55 (by kernel_rfl) rfl).trans hv6)
          refine ls_fr hF ?_
          refine ls_val (v := .bool (!t49)) rfl rfl (by kernel_rfl) (fun w => by kernel_rfl) ?_
          exact ls_fin s0 (.bool (!t49)) (congrArg (fun z => upd z 56 _) hF.symm) ⟨rfl, rfl⟩ (sub_nil _)
        by_cases q52 : t49 = true
        · replace H := ite_t q52 H
          obtain ⟨s47_8, hs47_8⟩ : ∃ z : Value → Sto → Prop, z = (fun v R => v = .agg ⟨([Value.int .i64 t14.1] ++ (([Value.int .i64 t42.1.1] ++ ([Value.int .i64 t42.1.2.1] ++ ([Value.int .i64 t42.1.2.2.1] ++ ([Value.int .u32 t42.1.2.2.2.1] ++ en (Value.int .u8) t42.1.2.2.2.2.1)))) ++ [Value.int .i64 t33.1]))⟩ ∧ R = s0) := ⟨_, rfl⟩
          refine have_op (l := [_, _, _, _, _, _, _, _, _, _, _, _, _, _, _]) label_Open.tab45 4 8 (fun sp => sp 8 = s47_8 ∧ sp 7 = s47_7) (fun sp on hA hon => ?_) (fun ops47_8 => ?_)
          · refine ⟨fun o ho vs Rs f' S' w hp hf hx hS hR hs => ?_⟩
            obtain rfl := Option.some.inj ho
            obtain ⟨hv7, hR7⟩ := (spe hA.2 hs47_7 (hp 7 (by kernel_rfl)))
            rw [hA.1, hs47_8]
            refine And.intro (fun a ha => (want_is (j := 7) (t := 56) (r := true) rfl rfl (by kernel_rfl) (((hf 7 56 (by kernel_rfl) rfl).trans hv7).trans (congrArg Value.bool (show (!t49) = false from congrArg Bool.not (q52)))) rfl a ha).trans hon.symm) (And.intro (fun _ => ?_) (fun h => by rw [hon] at h; cases h))
            have hF := fr_next (fr_next (rfl) ((hx 9 (by kernel_rfl)).trans (by kernel_rfl : (_ : Value) = .pointer (some ⟨g13, 0, none⟩)))) (((hf 7 56 (by kernel_rfl) rfl).trans hv7).trans (congrArg Value.bool (show (!t49) = false from congrArg Bool.not (q52))))
            refine ls_fr hF ?_
            refine ls_loadagg (a := ⟨g13, 0, none⟩) (sub := ([Value.int .i64 t14.1] ++ (([Value.int .i64 t42.1.1] ++ ([Value.int .i64 t42.1.2.1] ++ ([Value.int .i64 t42.1.2.2.1] ++ ([Value.int .u32 t42.1.2.2.2.1] ++ en (Value.int .u8) t42.1.2.2.2.2.1)))) ++ [Value.int .i64 t33.1]))) rfl rfl (by kernel_rfl) rfl (by kernel_rfl) (by kernel_rfl) (by kernel_rfl) (len_app (len1 _) (len_app (len_app (len1 _) (len_app (len1 _) (len_app (len1 _) (len_app (len1 _) (len_en _ t42.1.2.2.2.2))))) (len1 _))) (fun w1 hs1 => Rd.step (hs.vars (k := 2) ((hS 2 (by kernel_rfl)).trans (by exact rfl)) (Sub4.all _)) hs1.below.bw) ?_
            exact ls_fin s0 (.agg ⟨([Value.int .i64 t14.1] ++ (([Value.int .i64 t42.1.1] ++ ([Value.int .i64 t42.1.2.1] ++ ([Value.int .i64 t42.1.2.2.1] ++ ([Value.int .u32 t42.1.2.2.2.1] ++ en (Value.int .u8) t42.1.2.2.2.2.1)))) ++ [Value.int .i64 t33.1]))⟩) (congrArg (fun z => upd z 57 _) hF.symm) ⟨rfl, rfl⟩ (sub_nil _)
          obtain ⟨t53, hc54, H⟩ := bind_some H
          obtain ⟨s47_9, hs47_9⟩ : ∃ z : Value → Sto → Prop, z = (fun v R => ∃ x55 : (Option Addr × Nat), v = .slice x55.1 t53.length x55.2 ∧ R = stl [Ck.sl (Ec.int 5 .u8) x55.1 x55.2 t53]) := ⟨_, rfl⟩
          refine have_op (l := [_, _, _, _, _, _, _, _, _, _, _, _, _, _, _]) label_Open.tab45 4 9 (fun sp => sp 9 = s47_9 ∧ sp 7 = s47_7 ∧ sp 8 = s47_8) (fun sp on hA hon => ?_) (fun ops47_9 => ?_)
          · refine ⟨fun o ho vs Rs f' S' w hp hf hx hS hR hs => ?_⟩
            obtain rfl := Option.some.inj ho
            obtain ⟨hv7, hR7⟩ := (spe hA.2.1 hs47_7 (hp 7 (by kernel_rfl)))
            obtain ⟨hv8, hR8⟩ := (spe hA.2.2 hs47_8 (hp 8 (by kernel_rfl)))
            rw [hA.1, hs47_9]
            refine And.intro (fun a ha => (want_is (j := 7) (t := 56) (r := true) rfl rfl (by kernel_rfl) (((hf 7 56 (by kernel_rfl) rfl).trans hv7).trans (congrArg Value.bool (show (!t49) = false from congrArg Bool.not (q52)))) rfl a ha).trans hon.symm) (And.intro (fun _ => ?_) (fun h => by rw [hon] at h; cases h))
            have hF := fr_next (fr_next (rfl) (((hf 7 56 (by kernel_rfl) rfl).trans hv7).trans (congrArg Value.bool (show (!t49) = false from congrArg Bool.not (q52))))) ((hf 8 57 (by kernel_rfl) rfl).trans hv8)
            refine ls_fr hF ?_
            refine ls_call (fid := 41) (vals := #[.agg ⟨([Value.int .i64 t14.1] ++ (([Value.int .i64 t42.1.1] ++ ([Value.int .i64 t42.1.2.1] ++ ([Value.int .i64 t42.1.2.2.1] ++ ([Value.int .u32 t42.1.2.2.2.1] ++ en (Value.int .u8) t42.1.2.2.2.2.1)))) ++ [Value.int .i64 t33.1]))⟩]) (X := (Option Addr × Nat)) (fun x => .slice x.1 t53.length x.2) (fun x => stl [Ck.sl (Ec.int 5 .u8) x.1 x.2 t53]) 0 rfl rfl (by kernel_rfl) (fun w => by kernel_rfl) (fun w1 hs1 => label_Label_bytes.calls k (t14.1, t42.1, t33.1) t53 (bw w1) (St.refl w1)  hc54) ?_
            intro x55
            exact ls_fin (stl [Ck.sl (Ec.int 5 .u8) x55.1 x55.2 t53]) (.slice x55.1 t53.length x55.2) (congrArg (fun z => upd z 58 _) hF.symm) ⟨x55, rfl, rfl⟩ (sub_join _)
          obtain ⟨s47_10, hs47_10⟩ : ∃ z : Value → Sto → Prop, z = (fun v R => v = .string (strOfNums t53) ∧ R = s0) := ⟨_, rfl⟩
          refine have_op (l := [_, _, _, _, _, _, _, _, _, _, _, _, _, _, _]) label_Open.tab45 4 10 (fun sp => sp 10 = s47_10 ∧ sp 7 = s47_7 ∧ sp 9 = s47_9) (fun sp on hA hon => ?_) (fun ops47_10 => ?_)
          · refine ⟨fun o ho vs Rs f' S' w hp hf hx hS hR hs => ?_⟩
            obtain rfl := Option.some.inj ho
            obtain ⟨hv7, hR7⟩ := (spe hA.2.1 hs47_7 (hp 7 (by kernel_rfl)))
            obtain ⟨x55, hv9, hR9⟩ := (spe hA.2.2 hs47_9 (hp 9 (by kernel_rfl)))
            have hT9_0 := (hR 9 0 (by kernel_rfl) (by decide)).trans (congrFun hR9 0)
            rw [hA.1, hs47_10]
            refine And.intro (fun a ha => (want_is (j := 7) (t := 56) (r := true) rfl rfl (by kernel_rfl) (((hf 7 56 (by kernel_rfl) rfl).trans hv7).trans (congrArg Value.bool (show (!t49) = false from congrArg Bool.not (q52)))) rfl a ha).trans hon.symm) (And.intro (fun _ => ?_) (fun h => by rw [hon] at h; cases h))
            have hF := fr_next (fr_next (rfl) (((hf 7 56 (by kernel_rfl) rfl).trans hv7).trans (congrArg Value.bool (show (!t49) = false from congrArg Bool.not (q52))))) ((hf 9 58 (by kernel_rfl) rfl).trans hv9)
            refine ls_fr hF ?_
            refine ls_str (A := x55.1) (c := x55.2) (e := 5) (l := t53) rfl rfl (by kernel_rfl) rfl (by kernel_rfl) (by kernel_rfl) (by kernel_rfl) (by kernel_rfl) (fun w1 hs1 => (Rd.step (hs.rd (k := 76) hT9_0) hs1.below.bw)) ?_
            exact ls_fin s0 (.string (strOfNums t53)) (congrArg (fun z => upd z 59 _) hF.symm) ⟨rfl, rfl⟩ (sub_nil _)
          obtain ⟨s47_11, hs47_11⟩ : ∃ z : Value → Sto → Prop, z = (fun v R => v = .slice xA3 xl7.length xc4 ∧ R = s0) := ⟨_, rfl⟩
          refine have_op (l := [_, _, _, _, _, _, _, _, _, _, _, _, _, _, _]) label_Open.tab45 4 11 (fun sp => sp 11 = s47_11 ∧ sp 7 = s47_7) (fun sp on hA hon => ?_) (fun ops47_11 => ?_)
          · refine ⟨fun o ho vs Rs f' S' w hp hf hx hS hR hs => ?_⟩
            obtain rfl := Option.some.inj ho
            obtain ⟨hv7, hR7⟩ := (spe hA.2 hs47_7 (hp 7 (by kernel_rfl)))
            rw [hA.1, hs47_11]
            refine And.intro (fun a ha => (want_is (j := 7) (t := 56) (r := true) rfl rfl (by kernel_rfl) (((hf 7 56 (by kernel_rfl) rfl).trans hv7).trans (congrArg Value.bool (show (!t49) = false from congrArg Bool.not (q52)))) rfl a ha).trans hon.symm) (And.intro (fun _ => ?_) (fun h => by rw [hon] at h; cases h))
            have hF := fr_next (fr_next (rfl) ((hx 0 (by kernel_rfl)).trans (by kernel_rfl : (_ : Value) = .slice xA3 xl7.length xc4))) (((hf 7 56 (by kernel_rfl) rfl).trans hv7).trans (congrArg Value.bool (show (!t49) = false from congrArg Bool.not (q52))))
            refine ls_fr hF ?_
            refine ls_val (v := .slice xA3 xl7.length xc4) rfl rfl (by kernel_rfl) (fun w => by kernel_rfl) ?_
            exact ls_fin s0 (.slice xA3 xl7.length xc4) (congrArg (fun z => upd z 60 _) hF.symm) ⟨rfl, rfl⟩ (sub_nil _)
          obtain ⟨s47_12, hs47_12⟩ : ∃ z : Value → Sto → Prop, z = (fun v R => v = .string (strOfNums xl7) ∧ R = s0) := ⟨_, rfl⟩
          refine have_op (l := [_, _, _, _, _, _, _, _, _, _, _, _, _, _, _]) label_Open.tab45 4 12 (fun sp => sp 12 = s47_12 ∧ sp 7 = s47_7 ∧ sp 11 = s47_11) (fun sp on hA hon => ?_) (fun ops47_12 => ?_)
          · refine ⟨fun o ho vs Rs f' S' w hp hf hx hS hR hs => ?_⟩
            obtain rfl := Option.some.inj ho
            obtain ⟨hv7, hR7⟩ := (spe hA.2.1 hs47_7 (hp 7 (by kernel_rfl)))
            obtain ⟨hv11, hR11⟩ := (spe hA.2.2 hs47_11 (hp 11 (by kernel_rfl)))
            rw [hA.1, hs47_12]
            refine And.intro (fun a ha => (want_is (j := 7) (t := 56) (r := true) rfl rfl (by kernel_rfl) (((hf 7 56 (by kernel_rfl) rfl).trans hv7).trans (congrArg Value.bool (show (!t49) = false from congrArg Bool.not (q52)))) rfl a ha).trans hon.symm) (And.intro (fun _ => ?_) (fun h => by rw [hon] at h; cases h))
            have hF := fr_next (fr_next (rfl) (((hf 7 56 (by kernel_rfl) rfl).trans hv7).trans (congrArg Value.bool (show (!t49) = false from congrArg Bool.not (q52))))) ((hf 11 60 (by kernel_rfl) rfl).trans hv11)
            refine ls_fr hF ?_
            refine ls_str (A := xA3) (c := xc4) (e := 5) (l := xl7) rfl rfl (by kernel_rfl) rfl (by kernel_rfl) (by kernel_rfl) (by kernel_rfl) (by kernel_rfl) (fun w1 hs1 => (Rd.step (hs.old (Ro.mono hok40 hle39 (Ro.mono hok21 hle20 xR5))) hs1.below.bw)) ?_
            exact ls_fin s0 (.string (strOfNums xl7)) (congrArg (fun z => upd z 61 _) hF.symm) ⟨rfl, rfl⟩ (sub_nil _)
          refine cs_draw label_Open.tab45 13 4 (spl [s47_0, s47_1, s47_2, s47_3, s47_4, s47_5, s47_6, s47_7, s47_8, s47_9, s47_10, s47_11, s47_12]) (onl [true, true, true, true, true, true, true, true, true, true, true, true, true]) (by kernel_rfl) (by kernel_rfl) (by kernel_rfl) (by kernel_rfl) (rs := [_, _]) rfl (by kernel_rfl) (by kernel_rfl) (all_snoc (all_snoc (all_snoc (all_snoc (all_snoc (all_snoc (all_snoc (all_snoc (all_snoc (all_snoc (all_snoc (all_snoc (all_snoc (all_nil) (ops47_0 _ _ rfl rfl)) (ops47_1 _ _ ⟨rfl, rfl⟩ rfl)) (ops47_2 _ _ ⟨rfl, rfl⟩ rfl)) (ops47_3 _ _ ⟨rfl, rfl⟩ rfl)) (ops47_4 _ _ ⟨rfl, rfl, rfl⟩ rfl)) (ops47_5 _ _ ⟨rfl, rfl, rfl⟩ rfl)) (ops47_6 _ _ ⟨rfl, rfl, rfl⟩ rfl)) (ops47_7 _ _ ⟨rfl, rfl⟩ rfl)) (ops47_8 _ _ ⟨rfl, rfl⟩ rfl)) (ops47_9 _ _ ⟨rfl, rfl, rfl⟩ rfl)) (ops47_10 _ _ ⟨rfl, rfl, rfl⟩ rfl)) (ops47_11 _ _ ⟨rfl, rfl⟩ rfl)) (ops47_12 _ _ ⟨rfl, rfl, rfl⟩ rfl)) ?_
          intro vs Rs f' S' hp hf hx hS hR
          obtain ⟨x51, hv4, hR4⟩ := (spe rfl hs47_4 (hp 4 (by kernel_rfl)))
          obtain ⟨hv7, hR7⟩ := (spe rfl hs47_7 (hp 7 (by kernel_rfl)))
          obtain ⟨x55, hv9, hR9⟩ := (spe rfl hs47_9 (hp 9 (by kernel_rfl)))
          have hT9_0 := (hR 9 0 (by kernel_rfl) (by decide)).trans (congrFun hR9 0)
          obtain ⟨hv10, hR10⟩ := (spe rfl hs47_10 (hp 10 (by kernel_rfl)))
          obtain ⟨hv12, hR12⟩ := (spe rfl hs47_12 (hp 12 (by kernel_rfl)))
          refine ls_fr (F := upd (upd (upd (upd (upd f' 2 (.pointer (some ⟨g1, 0, none⟩))) 9 (.pointer (some ⟨g13, 0, none⟩))) 56 (.bool (!t49))) 59 (.string (strOfNums t53))) 61 (.string (strOfNums xl7))) (fr_next (fr_next (fr_next (fr_next (fr_next (rfl) ((hx 2 (by kernel_rfl)).trans (by kernel_rfl : (_ : Value) = .pointer (some ⟨g1, 0, none⟩)))) ((hx 9 (by kernel_rfl)).trans (by kernel_rfl : (_ : Value) = .pointer (some ⟨g13, 0, none⟩)))) ((hf 7 56 (by kernel_rfl) rfl).trans hv7)) ((hf 10 59 (by kernel_rfl) rfl).trans hv10)) ((hf 12 61 (by kernel_rfl) rfl).trans hv12)) ?_
          refine ls_sub (sput (sput s0 0 (some (Ck.var 42 g1 (([Value.int .i64 (0 : Int)] ++ (([Value.int .i64 (0 : Int)] ++ ([Value.int .i64 (0 : Int)] ++ ([Value.int .i64 (0 : Int)] ++ ([Value.int .u32 (0 : Int)] ++ en (Value.int .u8) (vrep 32 (0 : Int)).1)))) ++ [Value.int .i64 (0 : Int)])))))) 2 (some (Ck.var 42 g13 (([Value.int .i64 t14.1] ++ (([Value.int .i64 t42.1.1] ++ ([Value.int .i64 t42.1.2.1] ++ ([Value.int .i64 t42.1.2.2.1] ++ ([Value.int .u32 t42.1.2.2.2.1] ++ en (Value.int .u8) t42.1.2.2.2.2.1)))) ++ [Value.int .i64 t33.1])))))) (sub_put ((hS 2 (by kernel_rfl)).trans (by exact rfl)) (sub_put ((hS 0 (by kernel_rfl)).trans (by exact rfl)) (sub_nil _))) ?_
          refine ls_know (c := false) (congrArg Bool.not (q52)) 56 (by kernel_rfl) ?_
          refine ls_on (j := 7) (t := 56) (b := false) rfl rfl (by kernel_rfl) (by kernel_rfl) ?_
          refine ls_val (v := .bool (!((strOfNums t53).toList == (strOfNums xl7).toList))) rfl rfl (by kernel_rfl) (fun w => by kernel_rfl) ?_
          refine ls_val (v := .bool (!((strOfNums t53).toList == (strOfNums xl7).toList))) rfl rfl (by kernel_rfl) (fun w => by kernel_rfl) ?_
          refine ls_end ?_
          refine qn_then ?_
          by_cases q56 : ((strOfNums t53).toList == (strOfNums xl7).toList) = true
          · replace H := ite_t q56 H
            refine cs_know (c := false) (congrArg Bool.not (q56)) 63 (by kernel_rfl) ?_
            refine cs_false (by kernel_rfl) ?_
            refine cs_skip' ?_
            refine qn_then ?_
            refine cs_seq ?_
            refine cs_region (l := [_, _, _]) ?_
            refine ls_loadagg (a := ⟨g13, 0, none⟩) (sub := ([Value.int .i64 t14.1] ++ (([Value.int .i64 t42.1.1] ++ ([Value.int .i64 t42.1.2.1] ++ ([Value.int .i64 t42.1.2.2.1] ++ ([Value.int .u32 t42.1.2.2.2.1] ++ en (Value.int .u8) t42.1.2.2.2.2.1)))) ++ [Value.int .i64 t33.1]))) rfl rfl (by kernel_rfl) rfl (by kernel_rfl) (by kernel_rfl) (by kernel_rfl) (len_app (len1 _) (len_app (len_app (len1 _) (len_app (len1 _) (len_app (len1 _) (len_app (len1 _) (len_en _ t42.1.2.2.2.2))))) (len1 _))) (fun w hs => (hs.vars (k := 2) (by exact rfl) (Sub4.all _))) ?_
            refine ls_storec (g := g1) (off := 0) (v := .agg ⟨([Value.int .i64 t14.1] ++ (([Value.int .i64 t42.1.1] ++ ([Value.int .i64 t42.1.2.1] ++ ([Value.int .i64 t42.1.2.2.1] ++ ([Value.int .u32 t42.1.2.2.2.1] ++ en (Value.int .u8) t42.1.2.2.2.2.1)))) ++ [Value.int .i64 t33.1]))⟩) (vs := ([Value.int .i64 t14.1] ++ (([Value.int .i64 t42.1.1] ++ ([Value.int .i64 t42.1.2.1] ++ ([Value.int .i64 t42.1.2.2.1] ++ ([Value.int .u32 t42.1.2.2.2.1] ++ en (Value.int .u8) t42.1.2.2.2.2.1)))) ++ [Value.int .i64 t33.1]))) (cs := ([Value.int .i64 (0 : Int)] ++ (([Value.int .i64 (0 : Int)] ++ ([Value.int .i64 (0 : Int)] ++ ([Value.int .i64 (0 : Int)] ++ ([Value.int .u32 (0 : Int)] ++ en (Value.int .u8) (vrep 32 (0 : Int)).1)))) ++ [Value.int .i64 (0 : Int)]))) (ty := 42) 0 rfl rfl rfl (by kernel_rfl) (by kernel_rfl) (by kernel_rfl) (by exact rfl) (by kernel_rfl) (len_app (len1 _) (len_app (len_app (len1 _) (len_app (len1 _) (len_app (len1 _) (len_app (len1 _) (len_en _ t42.1.2.2.2.2))))) (len1 _))) (one_app (one_cons rfl one_nil) (one_app (one_app (one_cons rfl one_nil) (one_app (one_cons rfl one_nil) (one_app (one_cons rfl one_nil) (one_app (one_cons rfl one_nil) (one_en (fun _ => rfl) _))))) (one_cons rfl one_nil))) (hl_of (Sub4.all _) (len_eq (len_app (len1 _) (len_app (len_app (len1 _) (len_app (len1 _) (len_app (len1 _) (len_app (len1 _) (len_en _ t42.1.2.2.2.2))))) (len1 _))) (len_app (len1 _) (len_app (len_app (len1 _) (len_app (len1 _) (len_app (len1 _) (len_app (len1 _) (len_en _ (vrep 32 (0 : Int))))))) (len1 _))))) (cs' := ([Value.int .i64 t14.1] ++ (([Value.int .i64 t42.1.1] ++ ([Value.int .i64 t42.1.2.1] ++ ([Value.int .i64 t42.1.2.2.1] ++ ([Value.int .u32 t42.1.2.2.2.1] ++ en (Value.int .u8) t42.1.2.2.2.2.1)))) ++ [Value.int .i64 t33.1]))) (splc_all (len_eq (len_app (len1 _) (len_app (len_app (len1 _) (len_app (len1 _) (len_app (len1 _) (len_app (len1 _) (len_en _ t42.1.2.2.2.2))))) (len1 _))) (len_app (len1 _) (len_app (len_app (len1 _) (len_app (len1 _) (len_app (len1 _) (len_app (len1 _) (len_en _ (vrep 32 (0 : Int))))))) (len1 _))))) ?_
            refine ls_val (v := .int .i64 (0 : Int)) rfl rfl (by kernel_rfl) (fun w => by kernel_rfl) ?_
            refine ls_end ?_
            refine qn_then ?_
            refine cs_ret' ?_
            obtain rfl := Option.some.inj H
            refine qr_res (rs := [_, _]) rfl (fun w' hs => ⟨[.agg ⟨([Value.int .i64 t14.1] ++ (([Value.int .i64 t42.1.1] ++ ([Value.int .i64 t42.1.2.1] ++ ([Value.int .i64 t42.1.2.2.1] ++ ([Value.int .u32 t42.1.2.2.2.1] ++ en (Value.int .u8) t42.1.2.2.2.2.1)))) ++ [Value.int .i64 t33.1]))⟩, .int .i64 (0 : Int)], (.cell (by kernel_rfl) (run_cellres (by kernel_rfl) (by kernel_rfl) (len_app (len1 _) (len_app (len_app (len1 _) (len_app (len1 _) (len_app (len1 _) (len_app (len1 _) (len_en _ t42.1.2.2.2.2))))) (len1 _))) (hs.holds 0 _ (by exact rfl))) (res_tmp (by kernel_rfl) (.nil))), (), rfl, St.later hs0.ok (hle20.trans hle39) (hs.pick (ts := []) (cs := []) trivial (by decide))⟩)
          · replace H := ite_f q56 H
            refine cs_know (c := true) (congrArg Bool.not (Bool.eq_false_iff.mpr q56)) 63 (by kernel_rfl) ?_
            refine cs_true (by kernel_rfl) ?_
            refine cs_seq ?_
            refine cs_region (l := [_, _, _]) ?_
            refine ls_build (ps := []) (pl := #[(0, 1), (1, 36), (37, 1)]) (zv := .agg ⟨([Value.int .i64 (0 : Int)] ++ (([Value.int .i64 (0 : Int)] ++ ([Value.int .i64 (0 : Int)] ++ ([Value.int .i64 (0 : Int)] ++ ([Value.int .u32 (0 : Int)] ++ en (Value.int .u8) (vrep 32 (0 : Int)).1)))) ++ [Value.int .i64 (0 : Int)]))⟩) (zc := ([Value.int .i64 (0 : Int)] ++ (([Value.int .i64 (0 : Int)] ++ ([Value.int .i64 (0 : Int)] ++ ([Value.int .i64 (0 : Int)] ++ ([Value.int .u32 (0 : Int)] ++ en (Value.int .u8) (vrep 32 (0 : Int)).1)))) ++ [Value.int .i64 (0 : Int)]))) (r := ([Value.int .i64 (0 : Int)] ++ (([Value.int .i64 (0 : Int)] ++ ([Value.int .i64 (0 : Int)] ++ ([Value.int .i64 (0 : Int)] ++ ([Value.int .u32 (0 : Int)] ++ en (Value.int .u8) (vrep 32 (0 : Int)).1)))) ++ [Value.int .i64 (0 : Int)]))) rfl rfl (by kernel_rfl) rfl (by kernel_rfl) (by kernel_rfl) (fun w => by kernel_rfl) (fun w => by kernel_rfl) rfl fill_nil ?_
            refine ls_storec (g := g1) (off := 0) (v := .agg ⟨([Value.int .i64 (0 : Int)] ++ (([Value.int .i64 (0 : Int)] ++ ([Value.int .i64 (0 : Int)] ++ ([Value.int .i64 (0 : Int)] ++ ([Value.int .u32 (0 : Int)] ++ en (Value.int .u8) (vrep 32 (0 : Int)).1)))) ++ [Value.int .i64 (0 : Int)]))⟩) (vs := ([Value.int .i64 (0 : Int)] ++ (([Value.int .i64 (0 : Int)] ++ ([Value.int .i64 (0 : Int)] ++ ([Value.int .i64 (0 : Int)] ++ ([Value.int .u32 (0 : Int)] ++ en (Value.int .u8) (vrep 32 (0 : Int)).1)))) ++ [Value.int .i64 (0 : Int)]))) (cs := ([Value.int .i64 (0 : Int)] ++ (([Value.int .i64 (0 : Int)] ++ ([Value.int .i64 (0 : Int)] ++ ([Value.int .i64 (0 : Int)] ++ ([Value.int .u32 (0 : Int)] ++ en (Value.int .u8) (vrep 32 (0 : Int)).1)))) ++ [Value.int .i64 (0 : Int)]))) (ty := 42) 0 rfl rfl rfl (by kernel_rfl) (by kernel_rfl) (by kernel_rfl) (by exact rfl) (by kernel_rfl) (len_app (len1 _) (len_app (len_app (len1 _) (len_app (len1 _) (len_app (len1 _) (len_app (len1 _) (len_en _ (vrep 32 (0 : Int))))))) (len1 _))) (one_app (one_cons rfl one_nil) (one_app (one_app (one_cons rfl one_nil) (one_app (one_cons rfl one_nil) (one_app (one_cons rfl one_nil) (one_app (one_cons rfl one_nil) (one_en (fun _ => rfl) _))))) (one_cons rfl one_nil))) (hl_of (Sub4.all _) (len_eq (len_app (len1 _) (len_app (len_app (len1 _) (len_app (len1 _) (len_app (len1 _) (len_app (len1 _) (len_en _ (vrep 32 (0 : Int))))))) (len1 _))) (len_app (len1 _) (len_app (len_app (len1 _) (len_app (len1 _) (len_app (len1 _) (len_app (len1 _) (len_en _ (vrep 32 (0 : Int))))))) (len1 _))))) (cs' := ([Value.int .i64 (0 : Int)] ++ (([Value.int .i64 (0 : Int)] ++ ([Value.int .i64 (0 : Int)] ++ ([Value.int .i64 (0 : Int)] ++ ([Value.int .u32 (0 : Int)] ++ en (Value.int .u8) (vrep 32 (0 : Int)).1)))) ++ [Value.int .i64 (0 : Int)]))) (splc_all (len_eq (len_app (len1 _) (len_app (len_app (len1 _) (len_app (len1 _) (len_app (len1 _) (len_app (len1 _) (len_en _ (vrep 32 (0 : Int))))))) (len1 _))) (len_app (len1 _) (len_app (len_app (len1 _) (len_app (len1 _) (len_app (len1 _) (len_app (len1 _) (len_en _ (vrep 32 (0 : Int))))))) (len1 _))))) ?_
            refine ls_val (v := .int .i64 (11 : Int)) rfl rfl (by kernel_rfl) (fun w => by kernel_rfl) ?_
            refine ls_end ?_
            refine qn_then ?_
            refine cs_ret' ?_
            refine qr_then ?_
            obtain rfl := Option.some.inj H
            refine qr_res (rs := [_, _]) rfl (fun w' hs => ⟨[.agg ⟨([Value.int .i64 (0 : Int)] ++ (([Value.int .i64 (0 : Int)] ++ ([Value.int .i64 (0 : Int)] ++ ([Value.int .i64 (0 : Int)] ++ ([Value.int .u32 (0 : Int)] ++ en (Value.int .u8) (vrep 32 (0 : Int)).1)))) ++ [Value.int .i64 (0 : Int)]))⟩, .int .i64 (11 : Int)], (.cell (by kernel_rfl) (run_cellres (by kernel_rfl) (by kernel_rfl) (len_app (len1 _) (len_app (len_app (len1 _) (len_app (len1 _) (len_app (len1 _) (len_app (len1 _) (len_en _ (vrep 32 (0 : Int))))))) (len1 _))) (hs.holds 0 _ (by exact rfl))) (res_tmp (by kernel_rfl) (.nil))), (), rfl, St.later hs0.ok (hle20.trans hle39) (hs.pick (ts := []) (cs := []) trivial (by decide))⟩)
        · replace H := ite_f q52 H
          refine cs_draw label_Open.tab45 13 4 (spl [s47_0, s47_1, s47_2, s47_3, s47_4, s47_5, s47_6, s47_7, spu, spu, spu, spu, spu]) (onl [true, true, true, true, true, true, true, true, false, false, false, false, false]) (by kernel_rfl) (by kernel_rfl) (by kernel_rfl) (by kernel_rfl) (rs := [_, _]) rfl (by kernel_rfl) (by kernel_rfl) (all_snoc (all_snoc (all_snoc (all_snoc (all_snoc (all_snoc (all_snoc (all_snoc (all_snoc (all_snoc (all_snoc (all_snoc (all_snoc (all_nil) (ops47_0 _ _ rfl rfl)) (ops47_1 _ _ ⟨rfl, rfl⟩ rfl)) (ops47_2 _ _ ⟨rfl, rfl⟩ rfl)) (ops47_3 _ _ ⟨rfl, rfl⟩ rfl)) (ops47_4 _ _ ⟨rfl, rfl, rfl⟩ rfl)) (ops47_5 _ _ ⟨rfl, rfl, rfl⟩ rfl)) (ops47_6 _ _ ⟨rfl, rfl, rfl⟩ rfl)) (ops47_7 _ _ ⟨rfl, rfl⟩ rfl)) (op_offi 8 7 56 false rfl rfl (by kernel_rfl) (by kernel_rfl) rfl (fun v R h => by rw [hs47_7] at h; obtain ⟨h, _⟩ := h; exact h.trans (congrArg Value.bool (show (!t49) = true from congrArg Bool.not (Bool.eq_false_iff.mpr q52)))) rfl rfl)) (op_offi 9 7 56 false rfl rfl (by kernel_rfl) (by kernel_rfl) rfl (fun v R h => by rw [hs47_7] at h; obtain ⟨h, _⟩ := h; exact h.trans (congrArg Value.bool (show (!t49) = true from congrArg Bool.not (Bool.eq_false_iff.mpr q52)))) rfl rfl)) (op_offi 10 7 56 false rfl rfl (by kernel_rfl) (by kernel_rfl) rfl (fun v R h => by rw [hs47_7] at h; obtain ⟨h, _⟩ := h; exact h.trans (congrArg Value.bool (show (!t49) = true from congrArg Bool.not (Bool.eq_false_iff.mpr q52)))) rfl rfl)) (op_offi 11 7 56 false rfl rfl (by kernel_rfl) (by kernel_rfl) rfl (fun v R h => by rw [hs47_7] at h; obtain ⟨h, _⟩ := h; exact h.trans (congrArg Value.bool (show (!t49) = true from congrArg Bool.not (Bool.eq_false_iff.mpr q52)))) rfl rfl)) (op_offi 12 7 56 false rfl rfl (by kernel_rfl) (by kernel_rfl) rfl (fun v R h => by rw [hs47_7] at h; obtain ⟨h, _⟩ := h; exact h.trans (congrArg Value.bool (show (!t49) = true from congrArg Bool.not (Bool.eq_false_iff.mpr q52)))) rfl rfl)) ?_
          intro vs Rs f' S' hp hf hx hS hR
          obtain ⟨x51, hv4, hR4⟩ := (spe rfl hs47_4 (hp 4 (by kernel_rfl)))
          obtain ⟨hv7, hR7⟩ := (spe rfl hs47_7 (hp 7 (by kernel_rfl)))
          obtain ⟨hv10, hR10⟩ := (spe rfl rfl (hp 10 (by kernel_rfl)) : spu _ _)
          obtain ⟨hv12, hR12⟩ := (spe rfl rfl (hp 12 (by kernel_rfl)) : spu _ _)
          refine ls_fr (F := upd (upd (upd f' 2 (.pointer (some ⟨g1, 0, none⟩))) 9 (.pointer (some ⟨g13, 0, none⟩))) 56 (.bool (!t49))) (fr_next (fr_next (fr_next (rfl) ((hx 2 (by kernel_rfl)).trans (by kernel_rfl : (_ : Value) = .pointer (some ⟨g1, 0, none⟩)))) ((hx 9 (by kernel_rfl)).trans (by kernel_rfl : (_ : Value) = .pointer (some ⟨g13, 0, none⟩)))) ((hf 7 56 (by kernel_rfl) rfl).trans hv7)) ?_
          refine ls_sub (sput (sput s0 0 (some (Ck.var 42 g1 (([Value.int .i64 (0 : Int)] ++ (([Value.int .i64 (0 : Int)] ++ ([Value.int .i64 (0 : Int)] ++ ([Value.int .i64 (0 : Int)] ++ ([Value.int .u32 (0 : Int)] ++ en (Value.int .u8) (vrep 32 (0 : Int)).1)))) ++ [Value.int .i64 (0 : Int)])))))) 2 (some (Ck.var 42 g13 (([Value.int .i64 t14.1] ++ (([Value.int .i64 t42.1.1] ++ ([Value.int .i64 t42.1.2.1] ++ ([Value.int .i64 t42.1.2.2.1] ++ ([Value.int .u32 t42.1.2.2.2.1] ++ en (Value.int .u8) t42.1.2.2.2.2.1)))) ++ [Value.int .i64 t33.1])))))) (sub_put ((hS 2 (by kernel_rfl)).trans (by exact rfl)) (sub_put ((hS 0 (by kernel_rfl)).trans (by exact rfl)) (sub_nil _))) ?_
          refine ls_know (c := true) (congrArg Bool.not (Bool.eq_false_iff.mpr q52)) 56 (by kernel_rfl) ?_
          refine ls_off (j := 7) (t := 56) (b := false) (c := true) rfl rfl (by kernel_rfl) (by kernel_rfl) rfl rfl (by kernel_rfl) ?_
          refine ls_val (v := .bool true) rfl rfl (by kernel_rfl) (fun w => by kernel_rfl) ?_
          refine ls_end ?_
          refine qn_then ?_
          refine cs_true (by kernel_rfl) ?_
          refine cs_seq ?_
          refine cs_region (l := [_, _, _]) ?_
          refine ls_build (ps := []) (pl := #[(0, 1), (1, 36), (37, 1)]) (zv := .agg ⟨([Value.int .i64 (0 : Int)] ++ (([Value.int .i64 (0 : Int)] ++ ([Value.int .i64 (0 : Int)] ++ ([Value.int .i64 (0 : Int)] ++ ([Value.int .u32 (0 : Int)] ++ en (Value.int .u8) (vrep 32 (0 : Int)).1)))) ++ [Value.int .i64 (0 : Int)]))⟩) (zc := ([Value.int .i64 (0 : Int)] ++ (([Value.int .i64 (0 : Int)] ++ ([Value.int .i64 (0 : Int)] ++ ([Value.int .i64 (0 : Int)] ++ ([Value.int .u32 (0 : Int)] ++ en (Value.int .u8) (vrep 32 (0 : Int)).1)))) ++ [Value.int .i64 (0 : Int)]))) (r := ([Value.int .i64 (0 : Int)] ++ (([Value.int .i64 (0 : Int)] ++ ([Value.int .i64 (0 : Int)] ++ ([Value.int .i64 (0 : Int)] ++ ([Value.int .u32 (0 : Int)] ++ en (Value.int .u8) (vrep 32 (0 : Int)).1)))) ++ [Value.int .i64 (0 : Int)]))) rfl rfl (by kernel_rfl) rfl (by kernel_rfl) (by kernel_rfl) (fun w => by kernel_rfl) (fun w => by kernel_rfl) rfl fill_nil ?_
          refine ls_storec (g := g1) (off := 0) (v := .agg ⟨([Value.int .i64 (0 : Int)] ++ (([Value.int .i64 (0 : Int)] ++ ([Value.int .i64 (0 : Int)] ++ ([Value.int .i64 (0 : Int)] ++ ([Value.int .u32 (0 : Int)] ++ en (Value.int .u8) (vrep 32 (0 : Int)).1)))) ++ [Value.int .i64 (0 : Int)]))⟩) (vs := ([Value.int .i64 (0 : Int)] ++ (([Value.int .i64 (0 : Int)] ++ ([Value.int .i64 (0 : Int)] ++ ([Value.int .i64 (0 : Int)] ++ ([Value.int .u32 (0 : Int)] ++ en (Value.int .u8) (vrep 32 (0 : Int)).1)))) ++ [Value.int .i64 (0 : Int)]))) (cs := ([Value.int .i64 (0 : Int)] ++ (([Value.int .i64 (0 : Int)] ++ ([Value.int .i64 (0 : Int)] ++ ([Value.int .i64 (0 : Int)] ++ ([Value.int .u32 (0 : Int)] ++ en (Value.int .u8) (vrep 32 (0 : Int)).1)))) ++ [Value.int .i64 (0 : Int)]))) (ty := 42) 0 rfl rfl rfl (by kernel_rfl) (by kernel_rfl) (by kernel_rfl) (by exact rfl) (by kernel_rfl) (len_app (len1 _) (len_app (len_app (len1 _) (len_app (len1 _) (len_app (len1 _) (len_app (len1 _) (len_en _ (vrep 32 (0 : Int))))))) (len1 _))) (one_app (one_cons rfl one_nil) (one_app (one_app (one_cons rfl one_nil) (one_app (one_cons rfl one_nil) (one_app (one_cons rfl one_nil) (one_app (one_cons rfl one_nil) (one_en (fun _ => rfl) _))))) (one_cons rfl one_nil))) (hl_of (Sub4.all _) (len_eq (len_app (len1 _) (len_app (len_app (len1 _) (len_app (len1 _) (len_app (len1 _) (len_app (len1 _) (len_en _ (vrep 32 (0 : Int))))))) (len1 _))) (len_app (len1 _) (len_app (len_app (len1 _) (len_app (len1 _) (len_app (len1 _) (len_app (len1 _) (len_en _ (vrep 32 (0 : Int))))))) (len1 _))))) (cs' := ([Value.int .i64 (0 : Int)] ++ (([Value.int .i64 (0 : Int)] ++ ([Value.int .i64 (0 : Int)] ++ ([Value.int .i64 (0 : Int)] ++ ([Value.int .u32 (0 : Int)] ++ en (Value.int .u8) (vrep 32 (0 : Int)).1)))) ++ [Value.int .i64 (0 : Int)]))) (splc_all (len_eq (len_app (len1 _) (len_app (len_app (len1 _) (len_app (len1 _) (len_app (len1 _) (len_app (len1 _) (len_en _ (vrep 32 (0 : Int))))))) (len1 _))) (len_app (len1 _) (len_app (len_app (len1 _) (len_app (len1 _) (len_app (len1 _) (len_app (len1 _) (len_en _ (vrep 32 (0 : Int))))))) (len1 _))))) ?_
          refine ls_val (v := .int .i64 (11 : Int)) rfl rfl (by kernel_rfl) (fun w => by kernel_rfl) ?_
          refine ls_end ?_
          refine qn_then ?_
          refine cs_ret' ?_
          refine qr_then ?_
          obtain rfl := Option.some.inj H
          refine qr_res (rs := [_, _]) rfl (fun w' hs => ⟨[.agg ⟨([Value.int .i64 (0 : Int)] ++ (([Value.int .i64 (0 : Int)] ++ ([Value.int .i64 (0 : Int)] ++ ([Value.int .i64 (0 : Int)] ++ ([Value.int .u32 (0 : Int)] ++ en (Value.int .u8) (vrep 32 (0 : Int)).1)))) ++ [Value.int .i64 (0 : Int)]))⟩, .int .i64 (11 : Int)], (.cell (by kernel_rfl) (run_cellres (by kernel_rfl) (by kernel_rfl) (len_app (len1 _) (len_app (len_app (len1 _) (len_app (len1 _) (len_app (len1 _) (len_app (len1 _) (len_en _ (vrep 32 (0 : Int))))))) (len1 _))) (hs.holds 0 _ (by exact rfl))) (res_tmp (by kernel_rfl) (.nil))), (), rfl, St.later hs0.ok (hle20.trans hle39) (hs.pick (ts := []) (cs := []) trivial (by decide))⟩)
      · replace H := ite_f q48 H
        obtain ⟨s47_6, hs47_6⟩ : ∃ z : Value → Sto → Prop, z = (fun v R => v = .bool true ∧ R = s0) := ⟨_, rfl⟩
        refine have_op (l := [_, _, _, _, _, _, _, _, _, _, _, _, _, _, _]) label_Open.tab45 4 6 (fun sp => sp 6 = s47_6 ∧ sp 2 = s47_2 ∧ sp 5 = spu) (fun sp on hA hon => ?_) (fun ops47_6 => ?_)
        · refine ⟨fun o ho vs Rs f' S' w hp hf hx hS hR hs => ?_⟩
          obtain rfl := Option.some.inj ho
          obtain ⟨hv2, hR2⟩ := (spe hA.2.1 hs47_2 (hp 2 (by kernel_rfl)))
          obtain ⟨hv5, hR5⟩ := (spe hA.2.2 rfl (hp 5 (by kernel_rfl)) : spu _ _)
          rw [hA.1, hs47_6]
          refine And.intro (fun a ha => (want_none rfl a ha).trans hon.symm) (And.intro (fun _ => ?_) (fun h => by rw [hon] at h; cases h))
          have hF := fr_next (fr_next (rfl) (((hf 2 51 (by kernel_rfl) rfl).trans hv2).trans (congrArg Value.bool (show (!decide (t42.2 = (0 : Int))) = true from congrArg Bool.not (dec_f q48))))) ((hf 5 54 (by kernel_rfl) rfl).trans hv5)
          refine ls_fr hF ?_
          refine ls_val (v := .bool true) rfl rfl (by kernel_rfl) (fun w => by kernel_rfl) ?_
          exact ls_fin s0 (.bool true) (congrArg (fun z => upd z 55 _) hF.symm) ⟨rfl, rfl⟩ (sub_nil _)
        obtain ⟨s47_7, hs47_7⟩ : ∃ z : Value → Sto → Prop, z = (fun v R => v = .bool true ∧ R = s0) := ⟨_, rfl⟩
        refine have_op (l := [_, _, _, _, _, _, _, _, _, _, _, _, _, _, _]) label_Open.tab45 4 7 (fun sp => sp 7 = s47_7 ∧ sp 6 = s47_6) (fun sp on hA hon => ?_) (fun ops47_7 => ?_)
        · refine ⟨fun o ho vs Rs f' S' w hp hf hx hS hR hs => ?_⟩
          obtain rfl := Option.some.inj ho
          obtain ⟨hv6, hR6⟩ := (spe hA.2 hs47_6 (hp 6 (by kernel_rfl)))
          rw [hA.1, hs47_7]
          refine And.intro (fun a ha => (want_none rfl a ha).trans hon.symm) (And.intro (fun _ => ?_) (fun h => by rw [hon] at h; cases h))
          have hF := fr_next (rfl) ((hf 6 55 (by kernel_rfl) rfl).trans hv6)
          refine ls_fr hF ?_
          refine ls_val (v := .bool true) rfl rfl (by kernel_rfl) (fun w => by kernel_rfl) ?_
          exact ls_fin s0 (.bool true) (congrArg (fun z => upd z 56 _) hF.symm) ⟨rfl, rfl⟩ (sub_nil _)
        refine cs_draw label_Open.tab45 13 4 (spl [s47_0, s47_1, s47_2, spu, spu, spu, s47_6, s47_7, spu, spu, spu, spu, spu]) (onl [true, true, true, false, false, false, true, true, false, false, false, false, false]) (by kernel_rfl) (by kernel_rfl) (by kernel_rfl) (by kernel_rfl) (rs := [_, _]) rfl (by kernel_rfl) (by kernel_rfl) (all_snoc (all_snoc (all_snoc (all_snoc (all_snoc (all_snoc (all_snoc (all_snoc (all_snoc (all_snoc (all_snoc (all_snoc (all_snoc (all_nil) (ops47_0 _ _ rfl rfl)) (ops47_1 _ _ ⟨rfl, rfl⟩ rfl)) (ops47_2 _ _ ⟨rfl, rfl⟩ rfl)) (op_offi 3 2 51 false rfl rfl (by kernel_rfl) (by kernel_rfl) rfl (fun v R h => by rw [hs47_2] at h; obtain ⟨h, _⟩ := h; exact h.trans (congrArg Value.bool (show (!decide (t42.2 = (0 : Int))) = true from congrArg Bool.not (dec_f q48)))) rfl rfl)) (op_offi 4 2 51 false rfl rfl (by kernel_rfl) (by kernel_rfl) rfl (fun v R h => by rw [hs47_2] at h; obtain ⟨h, _⟩ := h; exact h.trans (congrArg Value.bool (show (!decide (t42.2 = (0 : Int))) = true from congrArg Bool.not (dec_f q48)))) rfl rfl)) (op_offi 5 2 51 false rfl rfl (by kernel_rfl) (by kernel_rfl) rfl (fun v R h => by rw [hs47_2] at h; obtain ⟨h, _⟩ := h; exact h.trans (congrArg Value.bool (show (!decide (t42.2 = (0 : Int))) = true from congrArg Bool.not (dec_f q48)))) rfl rfl)) (ops47_6 _ _ ⟨rfl, rfl, rfl⟩ rfl)) (ops47_7 _ _ ⟨rfl, rfl⟩ rfl)) (op_offi 8 7 56 false rfl rfl (by kernel_rfl) (by kernel_rfl) rfl (fun v R h => by rw [hs47_7] at h; obtain ⟨h, _⟩ := h; exact h) rfl rfl)) (op_offi 9 7 56 false rfl rfl (by kernel_rfl) (by kernel_rfl) rfl (fun v R h => by rw [hs47_7] at h; obtain ⟨h, _⟩ := h; exact h) rfl rfl)) (op_offi 10 7 56 false rfl rfl (by kernel_rfl) (by kernel_rfl) rfl (fun v R h => by rw [hs47_7] at h; obtain ⟨h, _⟩ := h; exact h) rfl rfl)) (op_offi 11 7 56 false rfl rfl (by kernel_rfl) (by kernel_rfl) rfl (fun v R h => by rw [hs47_7] at h; obtain ⟨h, _⟩ := h; exact h) rfl rfl)) (op_offi 12 7 56 false rfl rfl (by kernel_rfl) (by kernel_rfl) rfl (fun v R h => by rw [hs47_7] at h; obtain ⟨h, _⟩ := h; exact h) rfl rfl)) ?_
        intro vs Rs f' S' hp hf hx hS hR
        obtain ⟨hv7, hR7⟩ := (spe rfl hs47_7 (hp 7 (by kernel_rfl)))
        obtain ⟨hv10, hR10⟩ := (spe rfl rfl (hp 10 (by kernel_rfl)) : spu _ _)
        obtain ⟨hv12, hR12⟩ := (spe rfl rfl (hp 12 (by kernel_rfl)) : spu _ _)
        refine ls_fr (F := upd (upd (upd f' 2 (.pointer (some ⟨g1, 0, none⟩))) 9 (.pointer (some ⟨g13, 0, none⟩))) 56 (.bool true)) (fr_next (fr_next (fr_next (rfl) ((hx 2 (by kernel_rfl)).trans (by kernel_rfl : (_ : Value) = .pointer (some ⟨g1, 0, none⟩)))) ((hx 9 (by kernel_rfl)).trans (by kernel_rfl : (_ : Value) = .pointer (some ⟨g13, 0, none⟩)))) ((hf 7 56 (by kernel_rfl) rfl).trans hv7)) ?_
        refine ls_sub (sput (sput s0 0 (some (Ck.var 42 g1 (([Value.int .i64 (0 : Int)] ++ (([Value.int .i64 (0 : Int)] ++ ([Value.int .i64 (0 : Int)] ++ ([Value.int .i64 (0 : Int)] ++ ([Value.int .u32 (0 : Int)] ++ en (Value.int .u8) (vrep 32 (0 : Int)).1)))) ++ [Value.int .i64 (0 : Int)])))))) 2 (some (Ck.var 42 g13 (([Value.int .i64 t14.1] ++ (([Value.int .i64 t42.1.1] ++ ([Value.int .i64 t42.1.2.1] ++ ([Value.int .i64 t42.1.2.2.1] ++ ([Value.int .u32 t42.1.2.2.2.1] ++ en (Value.int .u8) t42.1.2.2.2.2.1)))) ++ [Value.int .i64 t33.1])))))) (sub_put ((hS 2 (by kernel_rfl)).trans (by exact rfl)) (sub_put ((hS 0 (by kernel_rfl)).trans (by exact rfl)) (sub_nil _))) ?_
        refine ls_off (j := 7) (t := 56) (b := false) (c := true) rfl rfl (by kernel_rfl) (by kernel_rfl) rfl rfl (by kernel_rfl) ?_
        refine ls_val (v := .bool true) rfl rfl (by kernel_rfl) (fun w => by kernel_rfl) ?_
        refine ls_end ?_
        refine qn_then ?_
        refine cs_true (by kernel_rfl) ?_
        refine cs_seq ?_
        refine cs_region (l := [_, _, _]) ?_
        refine ls_build (ps := []) (pl := #[(0, 1), (1, 36), (37, 1)]) (zv := .agg ⟨([Value.int .i64 (0 : Int)] ++ (([Value.int .i64 (0 : Int)] ++ ([Value.int .i64 (0 : Int)] ++ ([Value.int .i64 (0 : Int)] ++ ([Value.int .u32 (0 : Int)] ++ en (Value.int .u8) (vrep 32 (0 : Int)).1)))) ++ [Value.int .i64 (0 : Int)]))⟩) (zc := ([Value.int .i64 (0 : Int)] ++ (([Value.int .i64 (0 : Int)] ++ ([Value.int .i64 (0 : Int)] ++ ([Value.int .i64 (0 : Int)] ++ ([Value.int .u32 (0 : Int)] ++ en (Value.int .u8) (vrep 32 (0 : Int)).1)))) ++ [Value.int .i64 (0 : Int)]))) (r := ([Value.int .i64 (0 : Int)] ++ (([Value.int .i64 (0 : Int)] ++ ([Value.int .i64 (0 : Int)] ++ ([Value.int .i64 (0 : Int)] ++ ([Value.int .u32 (0 : Int)] ++ en (Value.int .u8) (vrep 32 (0 : Int)).1)))) ++ [Value.int .i64 (0 : Int)]))) rfl rfl (by kernel_rfl) rfl (by kernel_rfl) (by kernel_rfl) (fun w => by kernel_rfl) (fun w => by kernel_rfl) rfl fill_nil ?_
        refine ls_storec (g := g1) (off := 0) (v := .agg ⟨([Value.int .i64 (0 : Int)] ++ (([Value.int .i64 (0 : Int)] ++ ([Value.int .i64 (0 : Int)] ++ ([Value.int .i64 (0 : Int)] ++ ([Value.int .u32 (0 : Int)] ++ en (Value.int .u8) (vrep 32 (0 : Int)).1)))) ++ [Value.int .i64 (0 : Int)]))⟩) (vs := ([Value.int .i64 (0 : Int)] ++ (([Value.int .i64 (0 : Int)] ++ ([Value.int .i64 (0 : Int)] ++ ([Value.int .i64 (0 : Int)] ++ ([Value.int .u32 (0 : Int)] ++ en (Value.int .u8) (vrep 32 (0 : Int)).1)))) ++ [Value.int .i64 (0 : Int)]))) (cs := ([Value.int .i64 (0 : Int)] ++ (([Value.int .i64 (0 : Int)] ++ ([Value.int .i64 (0 : Int)] ++ ([Value.int .i64 (0 : Int)] ++ ([Value.int .u32 (0 : Int)] ++ en (Value.int .u8) (vrep 32 (0 : Int)).1)))) ++ [Value.int .i64 (0 : Int)]))) (ty := 42) 0 rfl rfl rfl (by kernel_rfl) (by kernel_rfl) (by kernel_rfl) (by exact rfl) (by kernel_rfl) (len_app (len1 _) (len_app (len_app (len1 _) (len_app (len1 _) (len_app (len1 _) (len_app (len1 _) (len_en _ (vrep 32 (0 : Int))))))) (len1 _))) (one_app (one_cons rfl one_nil) (one_app (one_app (one_cons rfl one_nil) (one_app (one_cons rfl one_nil) (one_app (one_cons rfl one_nil) (one_app (one_cons rfl one_nil) (one_en (fun _ => rfl) _))))) (one_cons rfl one_nil))) (hl_of (Sub4.all _) (len_eq (len_app (len1 _) (len_app (len_app (len1 _) (len_app (len1 _) (len_app (len1 _) (len_app (len1 _) (len_en _ (vrep 32 (0 : Int))))))) (len1 _))) (len_app (len1 _) (len_app (len_app (len1 _) (len_app (len1 _) (len_app (len1 _) (len_app (len1 _) (len_en _ (vrep 32 (0 : Int))))))) (len1 _))))) (cs' := ([Value.int .i64 (0 : Int)] ++ (([Value.int .i64 (0 : Int)] ++ ([Value.int .i64 (0 : Int)] ++ ([Value.int .i64 (0 : Int)] ++ ([Value.int .u32 (0 : Int)] ++ en (Value.int .u8) (vrep 32 (0 : Int)).1)))) ++ [Value.int .i64 (0 : Int)]))) (splc_all (len_eq (len_app (len1 _) (len_app (len_app (len1 _) (len_app (len1 _) (len_app (len1 _) (len_app (len1 _) (len_en _ (vrep 32 (0 : Int))))))) (len1 _))) (len_app (len1 _) (len_app (len_app (len1 _) (len_app (len1 _) (len_app (len1 _) (len_app (len1 _) (len_en _ (vrep 32 (0 : Int))))))) (len1 _))))) ?_
        refine ls_val (v := .int .i64 (11 : Int)) rfl rfl (by kernel_rfl) (fun w => by kernel_rfl) ?_
        refine ls_end ?_
        refine qn_then ?_
        refine cs_ret' ?_
        refine qr_then ?_
        obtain rfl := Option.some.inj H
        refine qr_res (rs := [_, _]) rfl (fun w' hs => ⟨[.agg ⟨([Value.int .i64 (0 : Int)] ++ (([Value.int .i64 (0 : Int)] ++ ([Value.int .i64 (0 : Int)] ++ ([Value.int .i64 (0 : Int)] ++ ([Value.int .u32 (0 : Int)] ++ en (Value.int .u8) (vrep 32 (0 : Int)).1)))) ++ [Value.int .i64 (0 : Int)]))⟩, .int .i64 (11 : Int)], (.cell (by kernel_rfl) (run_cellres (by kernel_rfl) (by kernel_rfl) (len_app (len1 _) (len_app (len_app (len1 _) (len_app (len1 _) (len_app (len1 _) (len_app (len1 _) (len_en _ (vrep 32 (0 : Int))))))) (len1 _))) (hs.holds 0 _ (by exact rfl))) (res_tmp (by kernel_rfl) (.nil))), (), rfl, St.later hs0.ok (hle20.trans hle39) (hs.pick (ts := []) (cs := []) trivial (by decide))⟩)

end Go.Proofs.Ytnjijflgafghmaa.G
