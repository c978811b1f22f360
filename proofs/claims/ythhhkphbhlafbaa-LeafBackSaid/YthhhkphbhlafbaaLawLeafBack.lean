/- The law LeafBack: its row, out of its pure statement and the printed walk. -/
import Derived.Test.YthhhkphbhlafbaaRows
import Derived.Test.YthhhkphbhlafbaaSLeafBack
import Derived.Test.YthhhkphbhlafbaaPureLeafBack
import Derived.Test.YthhhkphbhlafbaaOpw
import Derived.WalkKit
import Derived.ProofKit
import Derived.OpenShut
import Derived.ShutString
import Derived.ChangeOld
import Derived.Below
import Derived.SizedLaws
import Derived.ChangeSlices
namespace Go.Proofs.Ythhhkphbhlafbaa.leafBack
open Go.ChangeShapes Go.WideShapes Go.ChangeAt Go.RowKit Go.Proofs.Ythhhkphbhlafbaa.Sx Go.Proofs.Ythhhkphbhlafbaa.G
open Go.ChangeMaps (open_string shut_string)
set_option linter.unusedVariables false
theorem own : ownKnob Try.prog.godebug = none := by kernel_rfl
theorem laidOut : laidOutB Try.prog = true := by kernel_rfl
set_option maxRecDepth 100000 in
theorem opn27 : Ow.Opn Try.prog 27 (fun a : (Int × ((Option Addr × Nat) × List ((Option Addr × Nat) × List Int)) × ((Option Addr × Nat) × List ((Option Addr × Nat) × List Int)) × ((Option Addr × Nat) × List (Int × Int × Int × Int × (Vc Int 32)))) => ([Value.int .i64 a.1] ++ ([Value.slice a.2.1.1.1 a.2.1.2.length a.2.1.1.2] ++ ([Value.slice a.2.2.1.1.1 a.2.2.1.2.length a.2.2.1.1.2] ++ [Value.slice a.2.2.2.1.1 a.2.2.2.2.length a.2.2.2.1.2])))) (fun w a => ((Lit.int .i64 a.1).wf = true ∧ ((((Rd w a.2.1.1.1 (em (Ec.sls 23 Int) a.2.1.2) ∧ a.2.1.2.length ≤ a.2.1.1.2) ∧ a.2.1.2.length ≤ maxLen ∧ ∀ y ∈ a.2.1.2, ((Rd w y.1.1 (em (Ec.int 5 .u8) y.2) ∧ y.2.length ≤ y.1.2) ∧ y.2.length ≤ maxLen ∧ ∀ z ∈ y.2, (Lit.int .u8 z).wf = true))) ∧ ((((Rd w a.2.2.1.1.1 (em (Ec.sls 23 Int) a.2.2.1.2) ∧ a.2.2.1.2.length ≤ a.2.2.1.1.2) ∧ a.2.2.1.2.length ≤ maxLen ∧ ∀ y ∈ a.2.2.1.2, ((Rd w y.1.1 (em (Ec.int 5 .u8) y.2) ∧ y.2.length ≤ y.1.2) ∧ y.2.length ≤ maxLen ∧ ∀ z ∈ y.2, (Lit.int .u8 z).wf = true))) ∧ (((Rd w a.2.2.2.1.1 (em T44 a.2.2.2.2) ∧ a.2.2.2.2.length ≤ a.2.2.2.1.2) ∧ a.2.2.2.2.length ≤ maxLen ∧ ∀ y ∈ a.2.2.2.2, ((Lit.int .i64 y.1).wf = true ∧ (Lit.int .i64 y.2.1).wf = true ∧ (Lit.int .i64 y.2.2.1).wf = true ∧ (Lit.int .u32 y.2.2.2.1).wf = true ∧ (∀ z ∈ y.2.2.2.2.1, (Lit.int .u8 z).wf = true)))))))) := (Ow.op_struct (N := 4) Try.underlying27 (by kernel_rfl) (Ow.opf_cons (z := 1) (Ow.op_int Try.underlying3) rfl (by kernel_rfl) (Ow.opf_cons (z := 1) (Ow.op_sl (T := (Ec.sls 23 Int)) (W := fun w y => ((Rd w y.1.1 (em (Ec.int 5 .u8) y.2) ∧ y.2.length ≤ y.1.2) ∧ y.2.length ≤ maxLen ∧ ∀ z ∈ y.2, (Lit.int .u8 z).wf = true)) (Ow.op_sl (T := (Ec.int 5 .u8)) (W := fun w y => (Lit.int .u8 y).wf = true) (Ow.op_int Try.underlying5) (by kernel_rfl) Try.underlying23) (by kernel_rfl) Try.underlying22) rfl (by kernel_rfl) (Ow.opf_cons (z := 1) (Ow.op_sl (T := (Ec.sls 23 Int)) (W := fun w y => ((Rd w y.1.1 (em (Ec.int 5 .u8) y.2) ∧ y.2.length ≤ y.1.2) ∧ y.2.length ≤ maxLen ∧ ∀ z ∈ y.2, (Lit.int .u8 z).wf = true)) (Ow.op_sl (T := (Ec.int 5 .u8)) (W := fun w y => (Lit.int .u8 y).wf = true) (Ow.op_int Try.underlying5) (by kernel_rfl) Try.underlying23) (by kernel_rfl) Try.underlying22) rfl (by kernel_rfl) (Ow.opf_last (z := 1) (Ow.op_sl (T := T44) (W := fun w y => ((Lit.int .i64 y.1).wf = true ∧ (Lit.int .i64 y.2.1).wf = true ∧ (Lit.int .i64 y.2.2.1).wf = true ∧ (Lit.int .u32 y.2.2.2.1).wf = true ∧ (∀ z ∈ y.2.2.2.2.1, (Lit.int .u8 z).wf = true))) (Ow.op_struct (N := 36) Try.underlying44 (by kernel_rfl) (Ow.opf_cons (z := 1) (Ow.op_int Try.underlying3) rfl (by kernel_rfl) (Ow.opf_cons (z := 1) (Ow.op_int Try.underlying3) rfl (by kernel_rfl) (Ow.opf_cons (z := 1) (Ow.op_int Try.underlying3) rfl (by kernel_rfl) (Ow.opf_cons (z := 1) (Ow.op_int Try.underlying41) rfl (by kernel_rfl) (Ow.opf_last (z := 32) (Ow.op_ints Try.underlying42 Try.underlying5 (by kernel_rfl) (by kernel_rfl)) rfl (by kernel_rfl) rfl)))))) (by kernel_rfl) Try.underlying25) rfl (by kernel_rfl) rfl)))))
set_option maxRecDepth 100000 in
theorem lifted (os : Os) (started : os.Started) (H : Type) (enc : TypeId × Value → H) :
    ReturnsInHanded {} Try.checked os 5 .any (Rows.leafBackSpec.pre6 enc Try.prog Try.f5 Rows.leafBackRow.domain false) (Rows.leafBackSpec.post enc Try.prog Try.f5 false true false false) := by
  refine returnsInHanded_of_change_sized (C := Try.checked) own started (by kernel_rfl) Try.func5
    (ChangeSpec.witness6 (enc := enc) (C := Try.checked) false ⟨#[], #[.agg #[.int .i64 0, .slice none 0 0, .slice none 0 0, .slice none 0 0]], []⟩ 8 (by kernel_rfl) (by kernel_rfl) (by kernel_rfl) (by kernel_rfl)) ?_
  intro W base args ds gs before hval0 hW hcnd hsz0 _
  have hsz : (DataW.weightsEach Try.prog (Try.f5.params.toList ++ Rows.leafBackSpec.plain.varTypes Try.prog) (ds ++ gs)).all (· ≤ reachBytes) = true := hsz0
  have hval : ∀ (j : Nat) t v, Try.f5.params[j]? = some t → args[j]? = some v → Value.okWide Try.prog W .any base t v := hval0
  have hW' := hW
  obtain ⟨p, q, hA0, hV, rfl, hfz, hnd⟩ := hW
  have hA : DataW.TrodAll enc Try.prog W 0 (fun _ => true) true Try.f5.params.toList args.toList ds p := hA0
  rw [Try.params5] at hA hval hsz
  obtain ⟨v0, vs0, d0, ds0, p0, q0, hargs, rfl, rfl, h0, r0⟩ := trodAll_cons hA
  obtain ⟨rfl, rfl, rfl⟩ := trodAll_nil r0
  obtain rfl : args = #[v0] := by cases args; simp_all
  obtain ⟨rfl, rfl⟩ := trodVars_none hV
  have k0 := h0
  have lt0 : ∀ x ∈ p0, x.block < W.heap.size := by obtain ⟨m, hm⟩ := k0; exact DataW.trod_lt m _ _ _ hm
  obtain ⟨a0, A0_1, c0_1, A0_2, c0_2, A0_3, c0_3, rfl, R0_1, D0_1, R0_2, D0_2, R0_3, D0_3, w0⟩ : ∃ (a : (Int × (List (List Int)) × (List (List Int)) × (List (Int × Int × Int × Int × (Vc Int 32))))) (A0_1 : Option Addr) (c0_1 : Nat) (A0_2 : Option Addr) (c0_2 : Nat) (A0_3 : Option Addr) (c0_3 : Nat), v0 = .agg ⟨([Value.int .i64 a.1] ++ ([Value.slice A0_1 a.2.1.length c0_1] ++ ([Value.slice A0_2 a.2.2.1.length c0_2] ++ [Value.slice A0_3 a.2.2.2.length c0_3])))⟩ ∧ RoS 23 (Ec.int 5 .u8) (bw W) A0_1 a.2.1 ∧ a.2.1.length ≤ c0_1 ∧ RoS 23 (Ec.int 5 .u8) (bw W) A0_2 a.2.2.1 ∧ a.2.2.1.length ≤ c0_2 ∧ Ro (bw W) A0_3 (em T44 a.2.2.2) ∧ a.2.2.2.length ≤ c0_3 ∧ ((Lit.int .i64 a.1).wf = true ∧ (((a.2.1.length ≤ maxLen ∧ ∀ y ∈ a.2.1, (y.length ≤ maxLen ∧ ∀ z ∈ y, (Lit.int .u8 z).wf = true)))) ∧ (((a.2.2.1.length ≤ maxLen ∧ ∀ y ∈ a.2.2.1, (y.length ≤ maxLen ∧ ∀ z ∈ y, (Lit.int .u8 z).wf = true)))) ∧ ((a.2.2.2.length ≤ maxLen ∧ ∀ y ∈ a.2.2.2, (Lit.int .i64 y.1).wf = true ∧ (Lit.int .i64 y.2.1).wf = true ∧ (Lit.int .i64 y.2.2.1).wf = true ∧ (Lit.int .u32 y.2.2.2.1).wf = true ∧ (∀ z ∈ y.2.2.2.2.1, (Lit.int .u8 z).wf = true)))) := by
    obtain ⟨m, e, w⟩ := (opn27).arg (okWide_struct Try.underlying27 (hval 0 27 v0 rfl rfl)) h0
    refine ⟨(m.1, m.2.1.2.map (·.2), m.2.2.1.2.map (·.2), m.2.2.2.2), m.2.1.1.1, m.2.1.1.2, m.2.2.1.1.1, m.2.2.1.1.2, m.2.2.2.1.1, m.2.2.2.1.2, ?_, RoS.of (Rd.ro w.2.1.1.1) (fun c hc => ⟨Rd.ro (w.2.1.2.2 c hc).1.1, (w.2.1.2.2 c hc).1.2⟩), by rw [List.length_map]; exact w.2.1.1.2, RoS.of (Rd.ro w.2.2.1.1.1) (fun c hc => ⟨Rd.ro (w.2.2.1.2.2 c hc).1.1, (w.2.2.1.2.2 c hc).1.2⟩), by rw [List.length_map]; exact w.2.2.1.1.2, Rd.ro w.2.2.2.1.1, w.2.2.2.1.2, ⟨w.1, ⟨by rw [List.length_map]; exact w.2.1.2.1, fun x hx => by obtain ⟨c, hc, e⟩ := List.mem_map.1 hx; subst e; exact (w.2.1.2.2 c hc).2⟩, ⟨by rw [List.length_map]; exact w.2.2.1.2.1, fun x hx => by obtain ⟨c, hc, e⟩ := List.mem_map.1 hx; subst e; exact (w.2.2.1.2.2 c hc).2⟩, w.2.2.2.2⟩⟩
    rw [e]
    simp only [List.length_map]
  clear hA0 hval0 hsz0 hsz
  obtain ⟨k, hk⟩ := Pure.LeafBack a0 w0
  refine (shadowboxlaw16_LeafBack.calls k A0_1 c0_1 A0_2 c0_2 A0_3 c0_3 a0 true (bw W) (St.refl W) R0_1 D0_1 R0_2 D0_2 R0_3 D0_3 hk).mono fun e W' he => ?_
  obtain ⟨_, rfl, hst⟩ := he
  have bel := hst.below.bw
  exact ⟨_, rfl, _, _, _, [], _, [], hW', trodAll_mk1 (shut_bool Try.underlying4 _), (trodAll_cons_mk (Below.trod laidOut (by kernel_rfl) (of_decide_eq_true (by kernel_rfl)) k0 bel lt0) trodAll_mk0), rfl, bel.frame _, fun h => by cases h⟩
theorem over : Rows.leafBackRow.holds Try.pinned (OpenSpec.ofChange Rows.leafBackSpec) :=
  OpenClaim.holds_of_wide 5 Try.f5 rfl rfl rfl rfl rfl rfl rfl ⟨rfl, rfl, rfl, rfl, rfl⟩ rfl rfl rfl rfl rfl (by kernel_rfl) Try.func5 (by kernel_rfl)
    (of_decide_eq_true (by kernel_rfl)) (by unfold Func.isWrapper; first | (rw [if_pos (by decide +kernel)]; kernel_rfl) | (rw [if_neg (by decide +kernel)]; exact ⟨rfl, rfl⟩))
    (fun os started H enc _ => lifted os started H enc)
theorem proved : Rows.LeafBackSaid := over
#print axioms proved
end Go.Proofs.Ythhhkphbhlafbaa.leafBack
namespace Go.Proofs.Ythhhkphbhlafbaa
/-- The row, under a short name, for the claim. -/
theorem leafBack_holds : Rows.LeafBackSaid := leafBack.proved
end Go.Proofs.Ythhhkphbhlafbaa
