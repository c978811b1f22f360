/- The law ExtentTells: its row, out of its pure statement and the printed walk. -/
import Derived.Test.YtiikfaefeonfhaaRows
import Derived.Test.YtiikfaefeonfhaaSExtentTells
import Derived.Test.YtiikfaefeonfhaaPureExtentTells
import Derived.Test.YtiikfaefeonfhaaOpw
import Derived.WalkKit
import Derived.ProofKit
import Derived.OpenShut
import Derived.ShutString
import Derived.ChangeOld
import Derived.Below
import Derived.SizedLaws
import Derived.ChangeSlices
namespace Go.Proofs.Ytiikfaefeonfhaa.extentTells
open Go.ChangeShapes Go.WideShapes Go.ChangeAt Go.RowKit Go.Proofs.Ytiikfaefeonfhaa.Sx Go.Proofs.Ytiikfaefeonfhaa.G
open Go.ChangeMaps (open_string shut_string)
set_option linter.unusedVariables false
theorem own : ownKnob Try.prog.godebug = none := by kernel_rfl
theorem laidOut : laidOutB Try.prog = true := by kernel_rfl
theorem opn24 : Ow.Opn Try.prog 24 (fun a : (Int × Int) => ([Value.int .i64 a.1] ++ [Value.int .i64 a.2])) (fun _ a => (Lit.int .i64 a.1).wf = true ∧ (Lit.int .i64 a.2).wf = true) := (Ow.op_struct (N := 2) Try.underlying24 (by kernel_rfl) (Ow.opf_cons (z := 1) (Ow.op_int Try.underlying3) rfl (by kernel_rfl) (Ow.opf_last (z := 1) (Ow.op_int Try.underlying3) rfl (by kernel_rfl) rfl)))
set_option maxRecDepth 100000 in
theorem lifted (os : Os) (started : os.Started) (H : Type) (enc : TypeId × Value → H) :
    ReturnsInHanded {} Try.checked os 4 .any (Rows.extentTellsSpec.pre6 enc Try.prog Try.f4 Rows.extentTellsRow.domain false) (Rows.extentTellsSpec.post enc Try.prog Try.f4 false true false false) := by
  refine returnsInHanded_of_change_sized (C := Try.checked) own started (by kernel_rfl) Try.func4
    (ChangeSpec.witness6 (enc := enc) (C := Try.checked) false ⟨#[], #[.slice none 0 0, .agg #[.int .i64 0, .int .i64 0], .int .i64 0], []⟩ 8 (by kernel_rfl) (by kernel_rfl) (by kernel_rfl) (by kernel_rfl)) ?_
  intro W base args ds gs before hval0 hW hcnd hsz0 _
  have hsz : (DataW.weightsEach Try.prog (Try.f4.params.toList ++ Rows.extentTellsSpec.plain.varTypes Try.prog) (ds ++ gs)).all (· ≤ reachBytes) = true := hsz0
  have hval : ∀ (j : Nat) t v, Try.f4.params[j]? = some t → args[j]? = some v → Value.okWide Try.prog W .any base t v := hval0
  have hW' := hW
  obtain ⟨p, q, hA0, hV, rfl, hfz, hnd⟩ := hW
  have hA : DataW.TrodAll enc Try.prog W 0 (fun _ => true) true Try.f4.params.toList args.toList ds p := hA0
  rw [Try.params4] at hA hval hsz
  obtain ⟨v0, vs0, d0, ds0, p0, q0, hargs, rfl, rfl, h0, r0⟩ := trodAll_cons hA
  obtain ⟨v1, vs1, d1, ds1, p1, q1, rfl, rfl, rfl, h1, r1⟩ := trodAll_cons r0
  obtain ⟨v2, vs2, d2, ds2, p2, q2, rfl, rfl, rfl, h2, r2⟩ := trodAll_cons r1
  obtain ⟨rfl, rfl, rfl⟩ := trodAll_nil r2
  obtain rfl : args = #[v0, v1, v2] := by cases args; simp_all
  obtain ⟨rfl, rfl⟩ := trodVars_none hV
  obtain ⟨A0, n0, c0, rfl⟩ := okWide_slice Try.underlying22 (hval 0 22 v0 rfl rfl)
  have k0 := h0
  have lt0 : ∀ x ∈ p0, x.block < W.heap.size := by obtain ⟨m, hm⟩ := k0; exact DataW.trod_lt m _ _ _ hm
  obtain ⟨l0, hl0, C0, R0, wf0, y0⟩ : ∃ l : List (Int × Int), n0 = l.length ∧ l.length ≤ c0 ∧ Rd W A0 (em T24 l) ∧ (∀ x ∈ l, (Lit.int .i64 x.1).wf = true ∧ (Lit.int .i64 x.2).wf = true) ∧ l.length * 16 ≤ 140737488351232 := by
    obtain ⟨fuel, hf⟩ := h0
    rcases Ow.op_slice (T := T24) (W := fun _ a => (Lit.int .i64 a.1).wf = true ∧ (Lit.int .i64 a.2).wf = true) opn24 (by kernel_rfl) Try.underlying22 hf with ⟨hcs, _⟩ | ⟨x, cap, l, es, rs, ps, hcs, hle, hm, hxd, hes, hR, hWl⟩
    · simp [Value.cells] at hcs
      obtain ⟨rfl, rfl, rfl⟩ := hcs
      exact ⟨[], rfl, Nat.le_refl _, Rd.nil _ _, by simp, by simp⟩
    · simp [Value.cells] at hcs
      obtain ⟨rfl, rfl, rfl⟩ := hcs
      obtain ⟨hxd, _⟩ := Prod.mk.inj hxd
      subst hxd
      refine ⟨l, rfl, hle, hR, hWl, ?_⟩
      have z := sized_slice hsz (j := 0) (t := 22) rfl rfl Try.underlying22
      have hB : Try.prog.bytesOf 24 = 16 := by kernel_rfl
      rw [hB] at z
      exact Nat.le_trans (Nat.mul_le_mul_right _ (by omega)) z
  subst hl0
  have k1 := h1
  have lt1 : ∀ x ∈ p1, x.block < W.heap.size := by obtain ⟨m, hm⟩ := k1; exact DataW.trod_lt m _ _ _ hm
  obtain ⟨a1, rfl, w1⟩ := (opn24).arg (okWide_struct Try.underlying24 (hval 1 24 v1 rfl rfl)) h1
  obtain ⟨a2, rfl, rfl, rfl, w2⟩ := open_int Try.underlying3 (hval 2 3 v2 rfl rfl) h2
  clear hA0 hval0 hsz0 hsz
  obtain ⟨k, hk⟩ := Pure.ExtentTells l0 a1 a2 y0 wf0 w1 w2
  refine (shadowboxlaw09_ExtentTells.calls k A0 c0 l0 a1 a2 true (bw W) (St.refl W) (Rd.ro R0) C0 hk).mono fun e W' he => ?_
  obtain ⟨_, rfl, hst⟩ := he
  have bel := hst.below.bw
  exact ⟨_, rfl, _, _, _, [], _, [], hW', trodAll_mk1 (shut_bool Try.underlying4 _), (trodAll_cons_mk (Below.trod laidOut (by kernel_rfl) (of_decide_eq_true (by kernel_rfl)) k0 bel lt0) (trodAll_cons_mk (Below.trod laidOut (by kernel_rfl) (of_decide_eq_true (by kernel_rfl)) k1 bel lt1) (trodAll_cons_mk (shut_int Try.underlying3 w2) trodAll_mk0))), rfl, bel.frame _, fun h => by cases h⟩
theorem over : Rows.extentTellsRow.holds Try.pinned (OpenSpec.ofChange Rows.extentTellsSpec) :=
  OpenClaim.holds_of_wide 4 Try.f4 rfl rfl rfl rfl rfl rfl rfl ⟨rfl, rfl, rfl, rfl, rfl⟩ rfl rfl rfl rfl rfl (by kernel_rfl) Try.func4 (by kernel_rfl)
    (of_decide_eq_true (by kernel_rfl)) (by unfold Func.isWrapper; first | (rw [if_pos (by decide +kernel)]; kernel_rfl) | (rw [if_neg (by decide +kernel)]; exact ⟨rfl, rfl⟩))
    (fun os started H enc _ => lifted os started H enc)
theorem proved : Rows.ExtentTellsSaid := over
#print axioms proved
end Go.Proofs.Ytiikfaefeonfhaa.extentTells
namespace Go.Proofs.Ytiikfaefeonfhaa
/-- The row, under a short name, for the claim. -/
theorem extentTells_holds : Rows.ExtentTellsSaid := extentTells.proved
end Go.Proofs.Ytiikfaefeonfhaa
