/- The law LeafReads: its row, out of its pure statement and the printed walk. -/
import Derived.Test.YthhhkphbhlafbaaRows
import Derived.Test.YthhhkphbhlafbaaSLeafReads
import Derived.Test.YthhhkphbhlafbaaPureLeafReads
import Derived.WalkKit
import Derived.ProofKit
import Derived.OpenShut
import Derived.ShutString
import Derived.ChangeOld
import Derived.Below
import Derived.SizedLaws
import Derived.ChangeSlices
namespace Go.Proofs.Ythhhkphbhlafbaa.leafReads
open Go.ChangeShapes Go.WideShapes Go.ChangeAt Go.RowKit Go.Proofs.Ythhhkphbhlafbaa.Sx Go.Proofs.Ythhhkphbhlafbaa.G
open Go.ChangeMaps (open_string shut_string)
set_option linter.unusedVariables false
theorem own : ownKnob Try.prog.godebug = none := by kernel_rfl
theorem laidOut : laidOutB Try.prog = true := by kernel_rfl
set_option maxRecDepth 100000 in
theorem lifted (os : Os) (started : os.Started) (H : Type) (enc : TypeId × Value → H) :
    ReturnsInHanded {} Try.checked os 4 .any (Rows.leafReadsSpec.pre6 enc Try.prog Try.f4 Rows.leafReadsRow.domain false) (Rows.leafReadsSpec.post enc Try.prog Try.f4 false true false false) := by
  refine returnsInHanded_of_change_sized (C := Try.checked) own started (by kernel_rfl) Try.func4
    (ChangeSpec.witness6 (enc := enc) (C := Try.checked) false ⟨#[], #[.slice none 0 0], []⟩ 8 (by kernel_rfl) (by kernel_rfl) (by kernel_rfl) (by kernel_rfl)) ?_
  intro W base args ds gs before hval0 hW hcnd hsz0 _
  have hsz : (DataW.weightsEach Try.prog (Try.f4.params.toList ++ Rows.leafReadsSpec.plain.varTypes Try.prog) (ds ++ gs)).all (· ≤ reachBytes) = true := hsz0
  have hval : ∀ (j : Nat) t v, Try.f4.params[j]? = some t → args[j]? = some v → Value.okWide Try.prog W .any base t v := hval0
  have hW' := hW
  obtain ⟨p, q, hA0, hV, rfl, hfz, hnd⟩ := hW
  have hA : DataW.TrodAll enc Try.prog W 0 (fun _ => true) true Try.f4.params.toList args.toList ds p := hA0
  rw [Try.params4] at hA hval hsz
  obtain ⟨v0, vs0, d0, ds0, p0, q0, hargs, rfl, rfl, h0, r0⟩ := trodAll_cons hA
  obtain ⟨rfl, rfl, rfl⟩ := trodAll_nil r0
  obtain rfl : args = #[v0] := by cases args; simp_all
  obtain ⟨rfl, rfl⟩ := trodVars_none hV
  obtain ⟨A0, n0, c0, rfl⟩ := okWide_slice Try.underlying23 (hval 0 23 v0 rfl rfl)
  have k0 := h0
  have lt0 : ∀ x ∈ p0, x.block < W.heap.size := by obtain ⟨m, hm⟩ := k0; exact DataW.trod_lt m _ _ _ hm
  obtain ⟨l0, hl0, C0, R0, wf0, y0⟩ : ∃ l : List Int, n0 = l.length ∧ l.length ≤ c0 ∧ Rd W A0 (en (Value.int .u8) l) ∧ (∀ x ∈ l, (Lit.int .u8 x).wf = true) ∧ l.length * 1 ≤ 140737488351232 := by
    obtain ⟨fuel, hf⟩ := h0
    rcases open_ints Try.underlying23 Try.underlying5 (by kernel_rfl) hf with ⟨hcs, _⟩ | ⟨x, ln, c, zs, hcs, _, hl, hm, hz, hxd, hcell, hwz⟩
    · simp [Value.cells] at hcs
      obtain ⟨rfl, rfl, rfl⟩ := hcs
      exact ⟨[], rfl, Nat.le_refl _, Rd.nil _ _, by simp, by simp⟩
    · simp [Value.cells] at hcs
      obtain ⟨rfl, rfl, rfl⟩ := hcs
      have hz' : zs.length = c0 := by simpa using hz
      refine ⟨zs.take n0, by simp; omega, by simp; omega, fun j u hj => ⟨x, rfl, ?_⟩, fun x hx => hwz x (List.mem_of_mem_take hx), ?_⟩
      · obtain ⟨hjl, hju⟩ := List.getElem?_eq_some_iff.1 hj
        have hjz : j < zs.length := by simp [en] at hjl; omega
        rw [hcell j hjz]
        rw [← hju]
        simp [en, List.getD_eq_getElem?_getD, List.getElem?_eq_getElem hjz]
      · obtain ⟨hxd, _⟩ := Prod.mk.inj hxd
        subst hxd
        have z := sized_slice hsz (j := 0) (t := 23) rfl rfl Try.underlying23
        have hB : Try.prog.bytesOf 5 = 1 := by kernel_rfl
        rw [hB] at z
        refine Nat.le_trans (Nat.mul_le_mul_right _ ?_) z
        simp [lits] <;> omega
  subst hl0
  clear hA0 hval0 hsz0 hsz
  obtain ⟨k, hk⟩ := Pure.LeafReads l0 y0 wf0
  refine (shadowboxlaw16_LeafReads.calls k A0 c0 l0 true (bw W) (St.refl W) (Rd.ro (Rd.ofen R0)) C0 hk).mono fun e W' he => ?_
  obtain ⟨_, rfl, hst⟩ := he
  have bel := hst.below.bw
  exact ⟨_, rfl, _, _, _, [], _, [], hW', trodAll_mk1 (shut_bool Try.underlying4 _), (trodAll_cons_mk (Below.trod laidOut (by kernel_rfl) (of_decide_eq_true (by kernel_rfl)) k0 bel lt0) trodAll_mk0), rfl, bel.frame _, fun h => by cases h⟩
theorem over : Rows.leafReadsRow.holds Try.pinned (OpenSpec.ofChange Rows.leafReadsSpec) :=
  OpenClaim.holds_of_wide 4 Try.f4 rfl rfl rfl rfl rfl rfl rfl ⟨rfl, rfl, rfl, rfl, rfl⟩ rfl rfl rfl rfl rfl (by kernel_rfl) Try.func4 (by kernel_rfl)
    (of_decide_eq_true (by kernel_rfl)) (by unfold Func.isWrapper; first | (rw [if_pos (by decide +kernel)]; kernel_rfl) | (rw [if_neg (by decide +kernel)]; exact ⟨rfl, rfl⟩))
    (fun os started H enc _ => lifted os started H enc)
theorem proved : Rows.LeafReadsSaid := over
#print axioms proved
end Go.Proofs.Ythhhkphbhlafbaa.leafReads
namespace Go.Proofs.Ythhhkphbhlafbaa
/-- The row, under a short name, for the claim. -/
theorem leafReads_holds : Rows.LeafReadsSaid := leafReads.proved
end Go.Proofs.Ythhhkphbhlafbaa
