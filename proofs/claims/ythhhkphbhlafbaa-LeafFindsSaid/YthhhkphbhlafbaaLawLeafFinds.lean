/- The law LeafFinds: its row, out of its pure statement and the printed walk. -/
import Derived.Test.YthhhkphbhlafbaaRows
import Derived.Test.YthhhkphbhlafbaaSLeafFinds
import Derived.Test.YthhhkphbhlafbaaPureLeafFinds
import Derived.Test.YthhhkphbhlafbaaOpw
import Derived.WalkKit
import Derived.ProofKit
import Derived.OpenShut
import Derived.ShutString
import Derived.ChangeOld
import Derived.Below
import Derived.SizedLaws
import Derived.ChangeSlices
namespace Go.Proofs.Ythhhkphbhlafbaa.leafFinds
open Go.ChangeShapes Go.WideShapes Go.ChangeAt Go.RowKit Go.Proofs.Ythhhkphbhlafbaa.Sx Go.Proofs.Ythhhkphbhlafbaa.G
open Go.ChangeMaps (open_string shut_string)
set_option linter.unusedVariables false
theorem own : ownKnob Try.prog.godebug = none := by kernel_rfl
theorem laidOut : laidOutB Try.prog = true := by kernel_rfl
set_option maxRecDepth 100000 in
theorem opn23 : Ow.Opn Try.prog 23 (fun a : ((Option Addr × Nat) × List Int) => [Value.slice a.1.1 a.2.length a.1.2]) (fun w a => ((Rd w a.1.1 (em (Ec.int 5 .u8) a.2) ∧ a.2.length ≤ a.1.2) ∧ a.2.length ≤ maxLen ∧ ∀ y ∈ a.2, (Lit.int .u8 y).wf = true)) := (Ow.op_sl (T := (Ec.int 5 .u8)) (W := fun w y => (Lit.int .u8 y).wf = true) (Ow.op_int Try.underlying5) (by kernel_rfl) Try.underlying23)
set_option maxRecDepth 100000 in
theorem lifted (os : Os) (started : os.Started) (H : Type) (enc : TypeId × Value → H) :
    ReturnsInHanded {} Try.checked os 3 .any (Rows.leafFindsSpec.pre6 enc Try.prog Try.f3 Rows.leafFindsRow.domain false) (Rows.leafFindsSpec.post enc Try.prog Try.f3 false true false false) := by
  refine returnsInHanded_of_change_sized (C := Try.checked) own started (by kernel_rfl) Try.func3
    (ChangeSpec.witness6 (enc := enc) (C := Try.checked) false ⟨#[], #[.slice none 0 0, .slice none 0 0], []⟩ 8 (by kernel_rfl) (by kernel_rfl) (by kernel_rfl) (by kernel_rfl)) ?_
  intro W base args ds gs before hval0 hW hcnd hsz0 _
  have hsz : (DataW.weightsEach Try.prog (Try.f3.params.toList ++ Rows.leafFindsSpec.plain.varTypes Try.prog) (ds ++ gs)).all (· ≤ reachBytes) = true := hsz0
  have hval : ∀ (j : Nat) t v, Try.f3.params[j]? = some t → args[j]? = some v → Value.okWide Try.prog W .any base t v := hval0
  have hW' := hW
  obtain ⟨p, q, hA0, hV, rfl, hfz, hnd⟩ := hW
  have hA : DataW.TrodAll enc Try.prog W 0 (fun _ => true) true Try.f3.params.toList args.toList ds p := hA0
  rw [Try.params3] at hA hval hsz
  obtain ⟨v0, vs0, d0, ds0, p0, q0, hargs, rfl, rfl, h0, r0⟩ := trodAll_cons hA
  obtain ⟨v1, vs1, d1, ds1, p1, q1, rfl, rfl, rfl, h1, r1⟩ := trodAll_cons r0
  obtain ⟨rfl, rfl, rfl⟩ := trodAll_nil r1
  obtain rfl : args = #[v0, v1] := by cases args; simp_all
  obtain ⟨rfl, rfl⟩ := trodVars_none hV
  obtain ⟨A0, n0, c0, rfl⟩ := okWide_slice Try.underlying22 (hval 0 22 v0 rfl rfl)
  have k0 := h0
  have lt0 : ∀ x ∈ p0, x.block < W.heap.size := by obtain ⟨m, hm⟩ := k0; exact DataW.trod_lt m _ _ _ hm
  obtain ⟨l0, hl0, C0, R0, wf0, y0⟩ : ∃ l : List (List Int), n0 = l.length ∧ l.length ≤ c0 ∧ RoS 23 (Ec.int 5 .u8) (bw W) A0 l ∧ (∀ x ∈ l, x.length ≤ maxLen ∧ ∀ y ∈ x, (Lit.int .u8 y).wf = true) ∧ l.length * 24 ≤ 140737488351232 := by
    obtain ⟨fuel, hf⟩ := h0
    rcases Ow.op_slice (T := (Ec.sls 23 Int)) (W := fun w c => ((Rd w c.1.1 (em (Ec.int 5 .u8) c.2) ∧ c.2.length ≤ c.1.2) ∧ c.2.length ≤ maxLen ∧ ∀ y ∈ c.2, (Lit.int .u8 y).wf = true)) opn23 (by kernel_rfl) Try.underlying22 hf with ⟨hcs, _⟩ | ⟨x, cap, l, es, rs, ps, hcs, hle, hm, hxd, hes, hR, hWl⟩
    · simp [Value.cells] at hcs
      obtain ⟨rfl, rfl, rfl⟩ := hcs
      exact ⟨[], rfl, Nat.le_refl _, RoS.nil _ _ _ _, by simp, by simp⟩
    · simp [Value.cells] at hcs
      obtain ⟨rfl, rfl, rfl⟩ := hcs
      obtain ⟨hxd, _⟩ := Prod.mk.inj hxd
      subst hxd
      refine ⟨l.map (·.2), by rw [List.length_map], by rw [List.length_map]; exact hle, RoS.of (Rd.ro hR) (fun c hc => ⟨Rd.ro (hWl c hc).1.1, (hWl c hc).1.2⟩), fun x hx => ?_, ?_⟩
      · obtain ⟨c, hc, e⟩ := List.mem_map.1 hx
        subst e
        exact (hWl c hc).2
      · have z := sized_slice hsz (j := 0) (t := 22) rfl rfl Try.underlying22
        have hB : Try.prog.bytesOf 23 = 24 := by kernel_rfl
        rw [hB] at z
        rw [List.length_map]
        exact Nat.le_trans (Nat.mul_le_mul_right _ (by omega)) z
  subst hl0
  obtain ⟨A1, n1, c1, rfl⟩ := okWide_slice Try.underlying23 (hval 1 23 v1 rfl rfl)
  have k1 := h1
  have lt1 : ∀ x ∈ p1, x.block < W.heap.size := by obtain ⟨m, hm⟩ := k1; exact DataW.trod_lt m _ _ _ hm
  obtain ⟨l1, hl1, C1, R1, wf1, y1⟩ : ∃ l : List Int, n1 = l.length ∧ l.length ≤ c1 ∧ Rd W A1 (en (Value.int .u8) l) ∧ (∀ x ∈ l, (Lit.int .u8 x).wf = true) ∧ l.length * 1 ≤ 140737488351232 := by
    obtain ⟨fuel, hf⟩ := h1
    rcases open_ints Try.underlying23 Try.underlying5 (by kernel_rfl) hf with ⟨hcs, _⟩ | ⟨x, ln, c, zs, hcs, _, hl, hm, hz, hxd, hcell, hwz⟩
    · simp [Value.cells] at hcs
      obtain ⟨rfl, rfl, rfl⟩ := hcs
      exact ⟨[], rfl, Nat.le_refl _, Rd.nil _ _, by simp, by simp⟩
    · simp [Value.cells] at hcs
      obtain ⟨rfl, rfl, rfl⟩ := hcs
      have hz' : zs.length = c1 := by simpa using hz
      refine ⟨zs.take n1, by simp; omega, by simp; omega, fun j u hj => ⟨x, rfl, ?_⟩, fun x hx => hwz x (List.mem_of_mem_take hx), ?_⟩
      · obtain ⟨hjl, hju⟩ := List.getElem?_eq_some_iff.1 hj
        have hjz : j < zs.length := by simp [en] at hjl; omega
        rw [hcell j hjz]
        rw [← hju]
        simp [en, List.getD_eq_getElem?_getD, List.getElem?_eq_getElem hjz]
      · obtain ⟨hxd, _⟩ := Prod.mk.inj hxd
        subst hxd
        have z := sized_slice hsz (j := 1) (t := 23) rfl rfl Try.underlying23
        have hB : Try.prog.bytesOf 5 = 1 := by kernel_rfl
        rw [hB] at z
        refine Nat.le_trans (Nat.mul_le_mul_right _ ?_) z
        simp [lits] <;> omega
  subst hl1
  clear hA0 hval0 hsz0 hsz
  obtain ⟨k, hk⟩ := Pure.LeafFinds l0 l1 y0 wf0 y1 wf1
  refine (shadowboxlaw16_LeafFinds.calls k A0 c0 l0 A1 c1 l1 true (bw W) (St.refl W) R0 C0 (Rd.ro (Rd.ofen R1)) C1 hk).mono fun e W' he => ?_
  obtain ⟨_, rfl, hst⟩ := he
  have bel := hst.below.bw
  exact ⟨_, rfl, _, _, _, [], _, [], hW', trodAll_mk1 (shut_bool Try.underlying4 _), (trodAll_cons_mk (Below.trod laidOut (by kernel_rfl) (of_decide_eq_true (by kernel_rfl)) k0 bel lt0) (trodAll_cons_mk (Below.trod laidOut (by kernel_rfl) (of_decide_eq_true (by kernel_rfl)) k1 bel lt1) trodAll_mk0)), rfl, bel.frame _, fun h => by cases h⟩
theorem over : Rows.leafFindsRow.holds Try.pinned (OpenSpec.ofChange Rows.leafFindsSpec) :=
  OpenClaim.holds_of_wide 3 Try.f3 rfl rfl rfl rfl rfl rfl rfl ⟨rfl, rfl, rfl, rfl, rfl⟩ rfl rfl rfl rfl rfl (by kernel_rfl) Try.func3 (by kernel_rfl)
    (of_decide_eq_true (by kernel_rfl)) (by unfold Func.isWrapper; first | (rw [if_pos (by decide +kernel)]; kernel_rfl) | (rw [if_neg (by decide +kernel)]; exact ⟨rfl, rfl⟩))
    (fun os started H enc _ => lifted os started H enc)
theorem proved : Rows.LeafFindsSaid := over
#print axioms proved
end Go.Proofs.Ythhhkphbhlafbaa.leafFinds
namespace Go.Proofs.Ythhhkphbhlafbaa
/-- The row, under a short name, for the claim. -/
theorem leafFinds_holds : Rows.LeafFindsSaid := leafFinds.proved
end Go.Proofs.Ythhhkphbhlafbaa
