/- The law AllocApart: its row, out of its pure statement and the printed walk. -/
import Derived.Test.YtiikfaefeonfhaaRows
import Derived.Test.YtiikfaefeonfhaaSAllocApart
import Derived.Test.YtiikfaefeonfhaaPureAllocApart
import Derived.WalkKit
import Derived.ProofKit
import Derived.OpenShut
import Derived.ShutString
import Derived.ChangeOld
import Derived.Below
import Derived.SizedLaws
import Derived.ChangeSlices
namespace Go.Proofs.Ytiikfaefeonfhaa.allocApart
open Go.ChangeShapes Go.WideShapes Go.ChangeAt Go.RowKit Go.Proofs.Ytiikfaefeonfhaa.Sx Go.Proofs.Ytiikfaefeonfhaa.G
open Go.ChangeMaps (open_string shut_string)
set_option linter.unusedVariables false
theorem own : ownKnob Try.prog.godebug = none := by kernel_rfl
theorem laidOut : laidOutB Try.prog = true := by kernel_rfl
set_option maxRecDepth 100000 in
theorem lifted (os : Os) (started : os.Started) (H : Type) (enc : TypeId × Value → H) :
    ReturnsInHanded {} Try.checked os 7 .any (Rows.allocApartSpec.pre6 enc Try.prog Try.f7 Rows.allocApartRow.domain false) (Rows.allocApartSpec.post enc Try.prog Try.f7 false true false false) := by
  refine returnsInHanded_of_change_sized (C := Try.checked) own started (by kernel_rfl) Try.func7
    (ChangeSpec.witness6 (enc := enc) (C := Try.checked) false ⟨#[], #[.int .i64 0, .slice none 0 0], []⟩ 8 (by kernel_rfl) (by kernel_rfl) (by kernel_rfl) (by kernel_rfl)) ?_
  intro W base args ds gs before hval0 hW hcnd hsz0 _
  have hsz : (DataW.weightsEach Try.prog (Try.f7.params.toList ++ Rows.allocApartSpec.plain.varTypes Try.prog) (ds ++ gs)).all (· ≤ reachBytes) = true := hsz0
  have hval : ∀ (j : Nat) t v, Try.f7.params[j]? = some t → args[j]? = some v → Value.okWide Try.prog W .any base t v := hval0
  have hW' := hW
  obtain ⟨p, q, hA0, hV, rfl, hfz, hnd⟩ := hW
  have hA : DataW.TrodAll enc Try.prog W 0 (fun _ => true) true Try.f7.params.toList args.toList ds p := hA0
  rw [Try.params7] at hA hval hsz
  obtain ⟨v0, vs0, d0, ds0, p0, q0, hargs, rfl, rfl, h0, r0⟩ := trodAll_cons hA
  obtain ⟨v1, vs1, d1, ds1, p1, q1, rfl, rfl, rfl, h1, r1⟩ := trodAll_cons r0
  obtain ⟨rfl, rfl, rfl⟩ := trodAll_nil r1
  obtain rfl : args = #[v0, v1] := by cases args; simp_all
  obtain ⟨rfl, rfl⟩ := trodVars_none hV
  obtain ⟨a0, rfl, rfl, rfl, w0⟩ := open_int Try.underlying3 (hval 0 3 v0 rfl rfl) h0
  obtain ⟨A1, n1, c1, rfl⟩ := okWide_slice Try.underlying54 (hval 1 54 v1 rfl rfl)
  have k1 := h1
  have lt1 : ∀ x ∈ p1, x.block < W.heap.size := by obtain ⟨m, hm⟩ := k1; exact DataW.trod_lt m _ _ _ hm
  obtain ⟨l1, hl1, C1, R1, wf1, y1⟩ : ∃ l : List Int, n1 = l.length ∧ l.length ≤ c1 ∧ Rd W A1 (en (Value.int .i64) l) ∧ (∀ x ∈ l, (Lit.int .i64 x).wf = true) ∧ l.length * 8 ≤ 140737488351232 := by
    obtain ⟨fuel, hf⟩ := h1
    rcases open_ints Try.underlying54 Try.underlying3 (by kernel_rfl) hf with ⟨hcs, _⟩ | ⟨x, ln, c, zs, hcs, _, hl, hm, hz, hxd, hcell, hwz⟩
    · simp [Value.cells] at hcs
      obtain ⟨rfl, rfl, rfl⟩ := hcs
      exact ⟨[], rfl, Nat.le_refl _, Rd.nil _ _, by simp, by simp⟩
    · simp [Value.cells] at hcs
      obtain ⟨rfl, rfl, rfl⟩ := hcs
      have hz' : zs.length = c1 := by simpa using hz
      refine ⟨zs.take n1, by simp; omega, by simp; omega, fun j u hj => ⟨x, rfl, ?_⟩, fun x hx => hwz x (List.mem_of_mem_take hx), ?_⟩
      · obtain ⟨hjl, hju⟩ := List.getElem?_eq_some_iff.1 hj
        have hjz : j < zs.length := by simp [en] at hjl; omega
        rw [hcell j hjz]
        rw [← hju]
        simp [en, List.getD_eq_getElem?_getD, List.getElem?_eq_getElem hjz]
      · obtain ⟨hxd, _⟩ := Prod.mk.inj hxd
        subst hxd
        have z := sized_slice hsz (j := 1) (t := 54) rfl rfl Try.underlying54
        have hB : Try.prog.bytesOf 3 = 8 := by kernel_rfl
        rw [hB] at z
        refine Nat.le_trans (Nat.mul_le_mul_right _ ?_) z
        simp [lits] <;> omega
  subst hl1
  clear hA0 hval0 hsz0 hsz
  obtain ⟨k, hk⟩ := Pure.AllocApart a0 l1 w0 y1 wf1
  refine (shadowboxlaw10_AllocApart.calls k a0 A1 c1 l1 true (bw W) (St.refl W) (Rd.ro (Rd.ofen R1)) C1 hk).mono fun e W' he => ?_
  obtain ⟨_, rfl, hst⟩ := he
  have bel := hst.below.bw
  exact ⟨_, rfl, _, _, _, [], _, [], hW', trodAll_mk1 (shut_bool Try.underlying4 _), (trodAll_cons_mk (shut_int Try.underlying3 w0) (trodAll_cons_mk (Below.trod laidOut (by kernel_rfl) (of_decide_eq_true (by kernel_rfl)) k1 bel lt1) trodAll_mk0)), rfl, bel.frame _, fun h => by cases h⟩
theorem over : Rows.allocApartRow.holds Try.pinned (OpenSpec.ofChange Rows.allocApartSpec) :=
  OpenClaim.holds_of_wide 7 Try.f7 rfl rfl rfl rfl rfl rfl rfl ⟨rfl, rfl, rfl, rfl, rfl⟩ rfl rfl rfl rfl rfl (by kernel_rfl) Try.func7 (by kernel_rfl)
    (of_decide_eq_true (by kernel_rfl)) (by unfold Func.isWrapper; first | (rw [if_pos (by decide +kernel)]; kernel_rfl) | (rw [if_neg (by decide +kernel)]; exact ⟨rfl, rfl⟩))
    (fun os started H enc _ => lifted os started H enc)
theorem proved : Rows.AllocApartSaid := over
#print axioms proved
end Go.Proofs.Ytiikfaefeonfhaa.allocApart
namespace Go.Proofs.Ytiikfaefeonfhaa
/-- The row, under a short name, for the claim. -/
theorem allocApart_holds : Rows.AllocApartSaid := allocApart.proved
end Go.Proofs.Ytiikfaefeonfhaa
