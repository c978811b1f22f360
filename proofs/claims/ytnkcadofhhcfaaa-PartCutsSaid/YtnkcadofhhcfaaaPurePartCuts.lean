/- The pure statement of PartCuts; no condition. -/
import Derived.Test.YtnkcadofhhcfaaaSPartCuts
import Derived.Test.YtnkcadofhhcfaaaPrc
set_option linter.unusedVariables false
set_option linter.unusedSimpArgs false
namespace Go.Proofs.Ytnkcadofhhcfaaa.Pure
open Go Go.RowKit Go.Proofs.Ytnkcadofhhcfaaa.Sx Go.Proofs.Ytnkcadofhhcfaaa.G Go.Proofs.Ytnkcadofhhcfaaa.Bt Go.Proofs.Ytnkcadofhhcfaaa.Prt
theorem in_dec {l : List Int} {a : Int} (h : withinB l a = true) : In a l := within_in.1 h
theorem cut_one : ∃ c, part_Cut.f 1100000000 [(1 : Int)] 1 = some c ∧ c.length = 1 := by
  obtain ⟨b, e, h1, h2, h3, h4⟩ := cut_val (l := [1]) (a := 1) (by decide) (by decide) (by decide) (in_dec (by decide)) (k := 1100000000) (by omega)
  refine ⟨_, e, ?_⟩
  have : mx 0 [1] = 1 := by decide
  have hb : b = 1 := by omega
  rw [hb]
  decide
theorem cut_3333 : part_Cut.f 1100000000 [(3 : Int), 3, 3, 3] 8 = some [2, 4] := by
  obtain ⟨b, e, h1, h2, h3, h4⟩ := cut_val (l := [3, 3, 3, 3]) (a := 8) (by decide) (by decide) (by decide) (in_dec (by decide)) (k := 1100000000) (by omega)
  have hm : mx 0 [3, 3, 3, 3] = 3 := by decide
  have h6 : P [3, 3, 3, 3] (gr 8 [3, 3, 3, 3] 0 0).length 6 := by unfold P; decide
  have hb : b = 3 ∨ b = 4 ∨ b = 5 ∨ b = 6 := by
    have : ¬ 6 < b := fun h => h4 6 (by omega) h h6
    omega
  rcases hb with rfl | rfl | rfl | rfl
  · exact absurd h3 (by unfold P; decide)
  · exact absurd h3 (by unfold P; decide)
  · exact absurd h3 (by unfold P; decide)
  · rw [e]
    congr 1
theorem cuts_one (l m : List Int) (a : Int) (hl : l.length ≤ 200) (hm : m.length ≤ 200) : ((part_Cut.f 1100000000 l a).bind fun t29 => (shadowboxref17_Cut.f 1100000000 l a).bind fun t32 => (shadowboxlaw17_ints.f 1100000000 t29 t32).bind fun t35 => (if t35 = true then (part_Greatest.f 1100000000 l m).bind fun t39 => (shadowboxref17_Greatest.f 1100000000 l m).bind fun t42 => (if t39 = t42 then (part_Cut.f 1100000000 ([(3 : Int), (3 : Int), (3 : Int), (3 : Int)]) (8 : Int)).bind fun t47 => (shadowboxlaw17_ints.f 1100000000 t47 ([(2 : Int), (4 : Int)])).bind fun t51 => some t51 else some false) else some false)) = some true := by
  obtain ⟨c, e1, e2, e3⟩ := cuts_same l a (by omega)
  rw [e1, e2]
  simp only [Option.bind_some]
  rw [ints_same c (by omega) (by omega), Greatest_val (by omega) (by omega) (by omega), rGreatest_val (by omega) (by omega) (by omega)]
  simp only [Option.bind_some]
  rw [if_pos trivial, if_pos trivial, cut_3333]
  simp only [Option.bind_some]
  rw [ints_same [2, 4] (by decide) (by decide)]
  rfl
theorem PartCuts : S.PartCuts := by
  intro l a m hl hw ha hml hmw
  refine ⟨1100000000, ?_⟩
  unfold shadowboxlaw17_PartCuts.f
  obtain ⟨c, e1, e2⟩ := cut_one
  by_cases h1 : (l.length : Int) > 200
  · rw [if_pos h1, e1]
    simp only [Option.bind_some]
    rw [decide_eq_true (by omega)]
  · rw [if_neg h1]
    by_cases h2 : (m.length : Int) > 200
    · rw [if_pos h2, e1]
      simp only [Option.bind_some]
      rw [decide_eq_true (by omega)]
    · rw [if_neg h2]
      unfold shadowboxlaw17_PartCuts.jo1
      by_cases h3 : a > 3000
      · rw [if_pos h3]
        simp only [lt]
        exact cuts_one l m _ (by omega) (by omega)
      · rw [if_neg h3]
        exact cuts_one l m _ (by omega) (by omega)
end Go.Proofs.Ytnkcadofhhcfaaa.Pure
