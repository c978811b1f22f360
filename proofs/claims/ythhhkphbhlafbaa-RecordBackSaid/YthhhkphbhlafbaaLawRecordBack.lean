/- The law RecordBack: its row, out of its pure statement and the printed walk. -/
import Derived.Test.YthhhkphbhlafbaaRows
import Derived.Test.YthhhkphbhlafbaaSRecordBack
import Derived.Test.YthhhkphbhlafbaaPureRecordBack
import Derived.Test.YthhhkphbhlafbaaOpw
import Derived.WalkKit
import Derived.ProofKit
import Derived.OpenShut
import Derived.ShutString
import Derived.ChangeOld
import Derived.Below
import Derived.SizedLaws
import Derived.ChangeSlices
namespace Go.Proofs.Ythhhkphbhlafbaa.recordBack
open Go.ChangeShapes Go.WideShapes Go.ChangeAt Go.RowKit Go.Proofs.Ythhhkphbhlafbaa.Sx Go.Proofs.Ythhhkphbhlafbaa.G
open Go.ChangeMaps (open_string shut_string)
set_option linter.unusedVariables false
theorem own : ownKnob Try.prog.godebug = none := by kernel_rfl
theorem laidOut : laidOutB Try.prog = true := by kernel_rfl
set_option maxRecDepth 100000 in
theorem opn51 : Ow.Opn Try.prog 51 (fun a : (Int × Int × Int × Int × ByteArray × ByteArray × ((Option Addr × Nat) × (List (ByteArray × ByteArray)))) => ([Value.int .i64 a.1] ++ ([Value.int .i64 a.2.1] ++ ([Value.int .i64 a.2.2.1] ++ ([Value.int .i64 a.2.2.2.1] ++ ([Value.string a.2.2.2.2.1] ++ ([Value.string a.2.2.2.2.2.1] ++ [Value.slice a.2.2.2.2.2.2.1.1 a.2.2.2.2.2.2.2.length a.2.2.2.2.2.2.1.2]))))))) (fun w a => ((Lit.int .i64 a.1).wf = true ∧ ((Lit.int .i64 a.2.1).wf = true ∧ ((Lit.int .i64 a.2.2.1).wf = true ∧ ((Lit.int .i64 a.2.2.2.1).wf = true ∧ (a.2.2.2.2.1.size ≤ maxLen ∧ (a.2.2.2.2.2.1.size ≤ maxLen ∧ (((Rd w a.2.2.2.2.2.2.1.1 (em T67 a.2.2.2.2.2.2.2) ∧ a.2.2.2.2.2.2.2.length ≤ a.2.2.2.2.2.2.1.2) ∧ a.2.2.2.2.2.2.2.length ≤ maxLen ∧ ∀ y ∈ a.2.2.2.2.2.2.2, y.1.size ≤ maxLen ∧ y.2.size ≤ maxLen))))))))) := (Ow.op_struct (N := 7) Try.underlying51 (by kernel_rfl) (Ow.opf_cons (z := 1) (Ow.op_int Try.underlying3) rfl (by kernel_rfl) (Ow.opf_cons (z := 1) (Ow.op_int Try.underlying3) rfl (by kernel_rfl) (Ow.opf_cons (z := 1) (Ow.op_int Try.underlying3) rfl (by kernel_rfl) (Ow.opf_cons (z := 1) (Ow.op_int Try.underlying3) rfl (by kernel_rfl) (Ow.opf_cons (z := 1) (Ow.op_str Try.underlying9) rfl (by kernel_rfl) (Ow.opf_cons (z := 1) (Ow.op_str Try.underlying9) rfl (by kernel_rfl) (Ow.opf_last (z := 1) (Ow.op_sl (T := T67) (W := fun _ a => a.1.size ≤ maxLen ∧ a.2.size ≤ maxLen) (Ow.op_struct (N := 2) Try.underlying67 (by kernel_rfl) (Ow.opf_cons (z := 1) (Ow.op_str Try.underlying9) rfl (by kernel_rfl) (Ow.opf_last (z := 1) (Ow.op_str Try.underlying9) rfl (by kernel_rfl) rfl))) (by kernel_rfl) Try.underlying49) rfl (by kernel_rfl) rfl))))))))
set_option maxRecDepth 100000 in
theorem lifted (os : Os) (started : os.Started) (H : Type) (enc : TypeId × Value → H) :
    ReturnsInHanded {} Try.checked os 8 .any (Rows.recordBackSpec.pre6 enc Try.prog Try.f8 Rows.recordBackRow.domain false) (Rows.recordBackSpec.post enc Try.prog Try.f8 false true false false) := by
  refine returnsInHanded_of_change_sized (C := Try.checked) own started (by kernel_rfl) Try.func8
    (ChangeSpec.witness6 (enc := enc) (C := Try.checked) false ⟨#[], #[.agg #[.int .i64 0, .int .i64 0, .int .i64 0, .int .i64 0, .string ByteArray.empty, .string ByteArray.empty, .slice none 0 0], .string ByteArray.empty], []⟩ 8 (by kernel_rfl) (by kernel_rfl) (by kernel_rfl) (by kernel_rfl)) ?_
  intro W base args ds gs before hval0 hW hcnd hsz0 _
  have hsz : (DataW.weightsEach Try.prog (Try.f8.params.toList ++ Rows.recordBackSpec.plain.varTypes Try.prog) (ds ++ gs)).all (· ≤ reachBytes) = true := hsz0
  have hval : ∀ (j : Nat) t v, Try.f8.params[j]? = some t → args[j]? = some v → Value.okWide Try.prog W .any base t v := hval0
  have hW' := hW
  obtain ⟨p, q, hA0, hV, rfl, hfz, hnd⟩ := hW
  have hA : DataW.TrodAll enc Try.prog W 0 (fun _ => true) true Try.f8.params.toList args.toList ds p := hA0
  rw [Try.params8] at hA hval hsz
  obtain ⟨v0, vs0, d0, ds0, p0, q0, hargs, rfl, rfl, h0, r0⟩ := trodAll_cons hA
  obtain ⟨v1, vs1, d1, ds1, p1, q1, rfl, rfl, rfl, h1, r1⟩ := trodAll_cons r0
  obtain ⟨rfl, rfl, rfl⟩ := trodAll_nil r1
  obtain rfl : args = #[v0, v1] := by cases args; simp_all
  obtain ⟨rfl, rfl⟩ := trodVars_none hV
  have k0 := h0
  have lt0 : ∀ x ∈ p0, x.block < W.heap.size := by obtain ⟨m, hm⟩ := k0; exact DataW.trod_lt m _ _ _ hm
  obtain ⟨m0, rfl, w0⟩ := (opn51).arg (okWide_struct Try.underlying51 (hval 0 51 v0 rfl rfl)) h0
  obtain ⟨a1, rfl, rfl, rfl, y1⟩ := open_string Try.underlying9 (hval 1 9 v1 rfl rfl) h1
  have w1 : a1.size ≤ 140737488351232 := by
    have z := sized_string hsz (j := 1) (t := 9) rfl rfl
    rw [Array.length_toList] at z
    exact z
  clear hA0 hval0 hsz0 hsz
  obtain ⟨k, hk⟩ := Pure.RecordBack (m0.1, m0.2.1, m0.2.2.1, m0.2.2.2.1, m0.2.2.2.2.1, m0.2.2.2.2.2.1, m0.2.2.2.2.2.2.2) a1 ⟨w0.1, w0.2.1, w0.2.2.1, w0.2.2.2.1, w0.2.2.2.2.1, w0.2.2.2.2.2.1, w0.2.2.2.2.2.2.2⟩ w1
  refine (shadowboxlaw36_RecordBack.calls k m0.2.2.2.2.2.2.1.1 m0.2.2.2.2.2.2.1.2 (m0.1, m0.2.1, m0.2.2.1, m0.2.2.2.1, m0.2.2.2.2.1, m0.2.2.2.2.2.1, m0.2.2.2.2.2.2.2) a1 true (bw W) (St.refl W) (Rd.ro w0.2.2.2.2.2.2.1.1) w0.2.2.2.2.2.2.1.2 hk).mono fun e W' he => ?_
  obtain ⟨_, rfl, hst⟩ := he
  have bel := hst.below.bw
  exact ⟨_, rfl, _, _, _, [], _, [], hW', trodAll_mk1 (shut_bool Try.underlying4 _), (trodAll_cons_mk (Below.trod laidOut (by kernel_rfl) (of_decide_eq_true (by kernel_rfl)) k0 bel lt0) (trodAll_cons_mk (shut_string Try.underlying9 y1) trodAll_mk0)), rfl, bel.frame _, fun h => by cases h⟩
theorem over : Rows.recordBackRow.holds Try.pinned (OpenSpec.ofChange Rows.recordBackSpec) :=
  OpenClaim.holds_of_wide 8 Try.f8 rfl rfl rfl rfl rfl rfl rfl ⟨rfl, rfl, rfl, rfl, rfl⟩ rfl rfl rfl rfl rfl (by kernel_rfl) Try.func8 (by kernel_rfl)
    (of_decide_eq_true (by kernel_rfl)) (by unfold Func.isWrapper; first | (rw [if_pos (by decide +kernel)]; kernel_rfl) | (rw [if_neg (by decide +kernel)]; exact ⟨rfl, rfl⟩))
    (fun os started H enc _ => lifted os started H enc)
theorem proved : Rows.RecordBackSaid := over
#print axioms proved
end Go.Proofs.Ythhhkphbhlafbaa.recordBack
namespace Go.Proofs.Ythhhkphbhlafbaa
/-- The row, under a short name, for the claim. -/
theorem recordBack_holds : Rows.RecordBackSaid := recordBack.proved
end Go.Proofs.Ythhhkphbhlafbaa
