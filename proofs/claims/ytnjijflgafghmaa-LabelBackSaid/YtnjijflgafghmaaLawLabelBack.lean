/- The law LabelBack: its row, out of its pure statement and the printed walk. -/
import Derived.Test.YtnjijflgafghmaaRows
import Derived.Test.YtnjijflgafghmaaSLabelBack
import Derived.Test.YtnjijflgafghmaaPureLabelBack
import Derived.Test.YtnjijflgafghmaaOp
import Derived.WalkKit
import Derived.ProofKit
import Derived.OpenShut
import Derived.ShutString
import Derived.ChangeOld
import Derived.Below
import Derived.SizedLaws
import Derived.ChangeSlices
namespace Go.Proofs.Ytnjijflgafghmaa.labelBack
open Go.ChangeShapes Go.WideShapes Go.ChangeAt Go.RowKit Go.Proofs.Ytnjijflgafghmaa.Sx Go.Proofs.Ytnjijflgafghmaa.G
open Go.ChangeMaps (open_string shut_string)
set_option linter.unusedVariables false
theorem own : ownKnob Try.prog.godebug = none := by kernel_rfl
theorem laidOut : laidOutB Try.prog = true := by kernel_rfl
theorem opn42 : Op.Opn Try.prog 42 (fun a : (Int × (Int × Int × Int × Int × (Vc Int 32)) × Int) => ([Value.int .i64 a.1] ++ (([Value.int .i64 a.2.1.1] ++ ([Value.int .i64 a.2.1.2.1] ++ ([Value.int .i64 a.2.1.2.2.1] ++ ([Value.int .u32 a.2.1.2.2.2.1] ++ en (Value.int .u8) a.2.1.2.2.2.2.1)))) ++ [Value.int .i64 a.2.2]))) (fun a => (Lit.int .i64 a.1).wf = true ∧ (((Lit.int .i64 a.2.1.1).wf = true ∧ (Lit.int .i64 a.2.1.2.1).wf = true ∧ (Lit.int .i64 a.2.1.2.2.1).wf = true ∧ (Lit.int .u32 a.2.1.2.2.2.1).wf = true ∧ (∀ x ∈ a.2.1.2.2.2.2.1, (Lit.int .u8 x).wf = true))) ∧ (Lit.int .i64 a.2.2).wf = true) := (Op.op_struct (N := 38) Try.underlying42 (by kernel_rfl) (Op.opf_cons (z := 1) (Op.op_int Try.underlying3) rfl (by kernel_rfl) (Op.opf_cons (z := 36) (Op.op_struct (N := 36) Try.underlying25 (by kernel_rfl) (Op.opf_cons (z := 1) (Op.op_int Try.underlying3) rfl (by kernel_rfl) (Op.opf_cons (z := 1) (Op.op_int Try.underlying3) rfl (by kernel_rfl) (Op.opf_cons (z := 1) (Op.op_int Try.underlying3) rfl (by kernel_rfl) (Op.opf_cons (z := 1) (Op.op_int Try.underlying22) rfl (by kernel_rfl) (Op.opf_last (z := 32) (Op.op_ints Try.underlying23 Try.underlying5 (by kernel_rfl) (by kernel_rfl)) rfl (by kernel_rfl) rfl)))))) rfl (by kernel_rfl) (Op.opf_last (z := 1) (Op.op_int Try.underlying3) rfl (by kernel_rfl) rfl))))
set_option maxRecDepth 100000 in
theorem lifted (os : Os) (started : os.Started) (H : Type) (enc : TypeId × Value → H) :
    ReturnsInHanded {} Try.checked os 7 .any (Rows.labelBackSpec.pre6 enc Try.prog Try.f7 Rows.labelBackRow.domain false) (Rows.labelBackSpec.post enc Try.prog Try.f7 false true false false) := by
  refine returnsInHanded_of_change_sized (C := Try.checked) own started (by kernel_rfl) Try.func7
    (ChangeSpec.witness6 (enc := enc) (C := Try.checked) false ⟨#[], #[.agg #[.int .i64 0, .int .i64 0, .int .i64 0, .int .i64 0, .int .u32 0, .int .u8 0, .int .u8 0, .int .u8 0, .int .u8 0, .int .u8 0, .int .u8 0, .int .u8 0, .int .u8 0, .int .u8 0, .int .u8 0, .int .u8 0, .int .u8 0, .int .u8 0, .int .u8 0, .int .u8 0, .int .u8 0, .int .u8 0, .int .u8 0, .int .u8 0, .int .u8 0, .int .u8 0, .int .u8 0, .int .u8 0, .int .u8 0, .int .u8 0, .int .u8 0, .int .u8 0, .int .u8 0, .int .u8 0, .int .u8 0, .int .u8 0, .int .u8 0, .int .i64 0], .int .i64 0, .int .u32 0], []⟩ 8 (by kernel_rfl) (by kernel_rfl) (by kernel_rfl) (by kernel_rfl)) ?_
  intro W base args ds gs before hval0 hW hcnd hsz0 _
  have hsz : (DataW.weightsEach Try.prog (Try.f7.params.toList ++ Rows.labelBackSpec.plain.varTypes Try.prog) (ds ++ gs)).all (· ≤ reachBytes) = true := hsz0
  have hval : ∀ (j : Nat) t v, Try.f7.params[j]? = some t → args[j]? = some v → Value.okWide Try.prog W .any base t v := hval0
  have hW' := hW
  obtain ⟨p, q, hA0, hV, rfl, hfz, hnd⟩ := hW
  have hA : DataW.TrodAll enc Try.prog W 0 (fun _ => true) true Try.f7.params.toList args.toList ds p := hA0
  rw [Try.params7] at hA hval hsz
  obtain ⟨v0, vs0, d0, ds0, p0, q0, hargs, rfl, rfl, h0, r0⟩ := trodAll_cons hA
  obtain ⟨v1, vs1, d1, ds1, p1, q1, rfl, rfl, rfl, h1, r1⟩ := trodAll_cons r0
  obtain ⟨v2, vs2, d2, ds2, p2, q2, rfl, rfl, rfl, h2, r2⟩ := trodAll_cons r1
  obtain ⟨rfl, rfl, rfl⟩ := trodAll_nil r2
  obtain rfl : args = #[v0, v1, v2] := by cases args; simp_all
  obtain ⟨rfl, rfl⟩ := trodVars_none hV
  have k0 := h0
  have lt0 : ∀ x ∈ p0, x.block < W.heap.size := by obtain ⟨m, hm⟩ := k0; exact DataW.trod_lt m _ _ _ hm
  obtain ⟨a0, rfl, w0⟩ := (opn42).arg (okWide_struct Try.underlying42 (hval 0 42 v0 rfl rfl)) h0
  obtain ⟨a1, rfl, rfl, rfl, w1⟩ := open_int Try.underlying3 (hval 1 3 v1 rfl rfl) h1
  obtain ⟨a2, rfl, rfl, rfl, w2⟩ := open_int Try.underlying22 (hval 2 22 v2 rfl rfl) h2
  clear hA0 hval0 hsz0 hsz
  obtain ⟨k, hk⟩ := Pure.LabelBack a0 a1 a2 w0 w1 w2
  refine (shadowboxlaw08_LabelBack.calls k a0 a1 a2 true (bw W) (St.refl W)  hk).mono fun e W' he => ?_
  obtain ⟨_, rfl, hst⟩ := he
  have bel := hst.below.bw
  exact ⟨_, rfl, _, _, _, [], _, [], hW', trodAll_mk1 (shut_bool Try.underlying4 _), (trodAll_cons_mk (Below.trod laidOut (by kernel_rfl) (of_decide_eq_true (by kernel_rfl)) k0 bel lt0) (trodAll_cons_mk (shut_int Try.underlying3 w1) (trodAll_cons_mk (shut_int Try.underlying22 w2) trodAll_mk0))), rfl, bel.frame _, fun h => by cases h⟩
theorem over : Rows.labelBackRow.holds Try.pinned (OpenSpec.ofChange Rows.labelBackSpec) :=
  OpenClaim.holds_of_wide 7 Try.f7 rfl rfl rfl rfl rfl rfl rfl ⟨rfl, rfl, rfl, rfl, rfl⟩ rfl rfl rfl rfl rfl (by kernel_rfl) Try.func7 (by kernel_rfl)
    (of_decide_eq_true (by kernel_rfl)) (by unfold Func.isWrapper; first | (rw [if_pos (by decide +kernel)]; kernel_rfl) | (rw [if_neg (by decide +kernel)]; exact ⟨rfl, rfl⟩))
    (fun os started H enc _ => lifted os started H enc)
theorem proved : Rows.LabelBackSaid := over
#print axioms proved
end Go.Proofs.Ytnjijflgafghmaa.labelBack
namespace Go.Proofs.Ytnjijflgafghmaa
/-- The row, under a short name, for the claim. -/
theorem labelBack_holds : Rows.LabelBackSaid := labelBack.proved
end Go.Proofs.Ytnjijflgafghmaa
