/- The law ExtentSets: its row, out of its pure statement and the printed walk. -/
import Derived.Test.YtiikfaefeonfhaaRows
import Derived.Test.YtiikfaefeonfhaaSExtentSets
import Derived.Test.YtiikfaefeonfhaaPureExtentSets
import Derived.Test.YtiikfaefeonfhaaOpw
import Derived.WalkKit
import Derived.ProofKit
import Derived.OpenShut
import Derived.ShutString
import Derived.ChangeOld
import Derived.Below
import Derived.SizedLaws
import Derived.ChangeSlices
namespace Go.Proofs.Ytiikfaefeonfhaa.extentSets
open Go.ChangeShapes Go.WideShapes Go.ChangeAt Go.RowKit Go.Proofs.Ytiikfaefeonfhaa.Sx Go.Proofs.Ytiikfaefeonfhaa.G
open Go.ChangeMaps (open_string shut_string)
set_option linter.unusedVariables false
theorem own : ownKnob Try.prog.godebug = none := by kernel_rfl
theorem laidOut : laidOutB Try.prog = true := by kernel_rfl
theorem opn42 : Ow.Opn Try.prog 42 (fun a : (Vc Int 3) => en (Value.int .i64) a.1) (fun _ a => (∀ z ∈ a.1, (Lit.int .i64 z).wf = true)) := (Ow.op_ints Try.underlying42 Try.underlying3 (by kernel_rfl) (by kernel_rfl))
set_option maxRecDepth 100000 in
theorem lifted (os : Os) (started : os.Started) (H : Type) (enc : TypeId × Value → H) :
    ReturnsInHanded {} Try.checked os 5 .any (Rows.extentSetsSpec.pre6 enc Try.prog Try.f5 Rows.extentSetsRow.domain false) (Rows.extentSetsSpec.post enc Try.prog Try.f5 false true false false) := by
  refine returnsInHanded_of_change_sized (C := Try.checked) own started (by kernel_rfl) Try.func5
    (ChangeSpec.witness6 (enc := enc) (C := Try.checked) false ⟨#[], #[.slice none 0 0], []⟩ 8 (by kernel_rfl) (by kernel_rfl) (by kernel_rfl) (by kernel_rfl)) ?_
  intro W base args ds gs before hval0 hW hcnd hsz0 _
  have hsz : (DataW.weightsEach Try.prog (Try.f5.params.toList ++ Rows.extentSetsSpec.plain.varTypes Try.prog) (ds ++ gs)).all (· ≤ reachBytes) = true := hsz0
  have hval : ∀ (j : Nat) t v, Try.f5.params[j]? = some t → args[j]? = some v → Value.okWide Try.prog W .any base t v := hval0
  have hW' := hW
  obtain ⟨p, q, hA0, hV, rfl, hfz, hnd⟩ := hW
  have hA : DataW.TrodAll enc Try.prog W 0 (fun _ => true) true Try.f5.params.toList args.toList ds p := hA0
  rw [Try.params5] at hA hval hsz
  obtain ⟨v0, vs0, d0, ds0, p0, q0, hargs, rfl, rfl, h0, r0⟩ := trodAll_cons hA
  obtain ⟨rfl, rfl, rfl⟩ := trodAll_nil r0
  obtain rfl : args = #[v0] := by cases args; simp_all
  obtain ⟨rfl, rfl⟩ := trodVars_none hV
  obtain ⟨A0, n0, c0, rfl⟩ := okWide_slice Try.underlying40 (hval 0 40 v0 rfl rfl)
  have k0 := h0
  have lt0 : ∀ x ∈ p0, x.block < W.heap.size := by obtain ⟨m, hm⟩ := k0; exact DataW.trod_lt m _ _ _ hm
  obtain ⟨l0, hl0, C0, R0, wf0, y0⟩ : ∃ l : List (Vc Int 3), n0 = l.length ∧ l.length ≤ c0 ∧ Rd W A0 (em T42 l) ∧ (∀ x ∈ l, (∀ z ∈ x.1, (Lit.int .i64 z).wf = true)) ∧ l.length * 24 ≤ 140737488351232 := by
    obtain ⟨fuel, hf⟩ := h0
    rcases Ow.op_slice (T := T42) (W := fun _ a => (∀ z ∈ a.1, (Lit.int .i64 z).wf = true)) opn42 (by kernel_rfl) Try.underlying40 hf with ⟨hcs, _⟩ | ⟨x, cap, l, es, rs, ps, hcs, hle, hm, hxd, hes, hR, hWl⟩
    · simp [Value.cells] at hcs
      obtain ⟨rfl, rfl, rfl⟩ := hcs
      exact ⟨[], rfl, Nat.le_refl _, Rd.nil _ _, by simp, by simp⟩
    · simp [Value.cells] at hcs
      obtain ⟨rfl, rfl, rfl⟩ := hcs
      obtain ⟨hxd, _⟩ := Prod.mk.inj hxd
      subst hxd
      refine ⟨l, rfl, hle, hR, hWl, ?_⟩
      have z := sized_slice hsz (j := 0) (t := 40) rfl rfl Try.underlying40
      have hB : Try.prog.bytesOf 42 = 24 := by kernel_rfl
      rw [hB] at z
      exact Nat.le_trans (Nat.mul_le_mul_right _ (by omega)) z
  subst hl0
  clear hA0 hval0 hsz0 hsz
  obtain ⟨k, hk⟩ := Pure.ExtentSets l0 y0 wf0
  refine (shadowboxlaw09_ExtentSets.calls k A0 c0 l0 true (bw W) (St.refl W) (Rd.ro R0) C0 hk).mono fun e W' he => ?_
  obtain ⟨_, rfl, hst⟩ := he
  have bel := hst.below.bw
  exact ⟨_, rfl, _, _, _, [], _, [], hW', trodAll_mk1 (shut_bool Try.underlying4 _), (trodAll_cons_mk (Below.trod laidOut (by kernel_rfl) (of_decide_eq_true (by kernel_rfl)) k0 bel lt0) trodAll_mk0), rfl, bel.frame _, fun h => by cases h⟩
theorem over : Rows.extentSetsRow.holds Try.pinned (OpenSpec.ofChange Rows.extentSetsSpec) :=
  OpenClaim.holds_of_wide 5 Try.f5 rfl rfl rfl rfl rfl rfl rfl ⟨rfl, rfl, rfl, rfl, rfl⟩ rfl rfl rfl rfl rfl (by kernel_rfl) Try.func5 (by kernel_rfl)
    (of_decide_eq_true (by kernel_rfl)) (by unfold Func.isWrapper; first | (rw [if_pos (by decide +kernel)]; kernel_rfl) | (rw [if_neg (by decide +kernel)]; exact ⟨rfl, rfl⟩))
    (fun os started H enc _ => lifted os started H enc)
theorem proved : Rows.ExtentSetsSaid := over
#print axioms proved
end Go.Proofs.Ytiikfaefeonfhaa.extentSets
namespace Go.Proofs.Ytiikfaefeonfhaa
/-- The row, under a short name, for the claim. -/
theorem extentSets_holds : Rows.ExtentSetsSaid := extentSets.proved
end Go.Proofs.Ytiikfaefeonfhaa
