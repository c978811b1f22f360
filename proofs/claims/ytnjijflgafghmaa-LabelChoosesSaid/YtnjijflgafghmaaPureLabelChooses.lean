/- The pure statement of LabelChooses; no condition. -/
import Derived.Test.YtnjijflgafghmaaSLabelChooses
import Derived.Test.YtnjijflgafghmaaLab
set_option linter.unusedVariables false
set_option linter.unusedSimpArgs false
namespace Go.Proofs.Ytnjijflgafghmaa.Pure
open Go Go.RowKit Go.Proofs.Ytnjijflgafghmaa.Sx Go.Proofs.Ytnjijflgafghmaa.G Go.Proofs.Ytnjijflgafghmaa.Bt Go.Proofs.Ytnjijflgafghmaa.Cod Go.Proofs.Ytnjijflgafghmaa.Ptr Go.Proofs.Ytnjijflgafghmaa.Lab
def ofS (l : List Int) (a : Int) : Lb := if (openL l).2 = 0 then (if Int.tmod (openL l).1.1 2 = a then (openL l).1 else zl) else zl
theorem of_val {l : List Int} (hb : Bytes l) (hl : l.length ≤ 100000) (a : Int) {k : Nat} (hk : 2000 ≤ k) : label_of.f k l a = some (ofS l a) := by
  unfold label_of.f ofS
  rw [Open_val hb hl hk]
  simp only [Option.bind_some]
  split
  · split <;> rfl
  · rfl
def chooseS (l m : List Int) : Lb × Bool := if (ofS l 0).1 > (ofS m 1).1 then (ofS l 0, true) else (ofS m 1, decide (1 ≤ (ofS m 1).1))
theorem of_one (l : List Int) (a : Int) : ofS l a = zl ∨ 1 ≤ (ofS l a).1 := by
  unfold ofS
  by_cases h : (openL l).2 = 0
  · rw [if_pos h]
    split
    · exact .inr (lright_parts (open_right h)).1.1
    · exact .inl rfl
  · rw [if_neg h]; exact .inl rfl
theorem choose_val {l m : List Int} (hb : Bytes l) (hl : l.length ≤ 100000) (hm : Bytes m) (hml : m.length ≤ 100000) {k : Nat} (hk : 2000 ≤ k) : label_Choose.f k l m = some (chooseS l m) := by
  unfold label_Choose.f chooseS
  rw [of_val hb hl _ hk, of_val hm hml _ hk]
  simp only [Option.bind_some]
  split
  · rfl
  · rcases of_one m 1 with h | h
    · rw [h]
      have e : (!((zl.1 == (0 : Int)) && (((zl.2.1.1 == (0 : Int)) && ((zl.2.1.2.1 == (0 : Int)) && ((zl.2.1.2.2.1 == (0 : Int)) && ((zl.2.1.2.2.2.1 == (0 : Int)) && (zl.2.1.2.2.2.2.1 == (vrep 32 (0 : Int)).1))))) && (zl.2.2 == (0 : Int))))) = decide (1 ≤ zl.1) := by decide +kernel
      rw [e]
    · rw [show ((ofS m 1).1 == (0 : Int)) = false by rw [beq_eq_false_iff_ne]; omega, decide_eq_true h]
      rfl
theorem rchoose_val {l m : List Int} (hb : Bytes l) (hl : l.length ≤ 100000) (hm : Bytes m) (hml : m.length ≤ 100000) {k : Nat} (hk : 2000 ≤ k) : shadowboxref08_Choose.f k l m = some (chooseS l m) := by
  unfold shadowboxref08_Choose.f shadowboxref08_Choose.jo1 chooseS ofS
  rw [rOpen_val hb hl hk, rOpen_val hm hml hk]
  simp only [Option.bind_some]
  have ho := @open_right l
  have hp := @open_right m
  generalize openL l = x at *
  generalize openL m = y at *
  have hz : zl.1 = 0 := rfl
  by_cases h0 : x.2 = 0
  · have h1 := (lright_parts (ho h0)).1.1
    by_cases g0 : y.2 = 0
    · have g1 := (lright_parts (hp g0)).1.1
      by_cases h2 : Int.tmod x.1.1 2 = 0 <;> by_cases g2 : Int.tmod y.1.1 2 = 1
      · simp [h0, g0, h2, g2]
        split
        · rfl
        · simp; omega
      · simp [h0, g0, h2, g2, hz]
        omega
      · simp [h0, g0, h2, g2, hz]
        rw [if_neg (by omega)]
        simp; omega
      · simp [h0, g0, h2, g2, hz]
        rfl
    · by_cases h2 : Int.tmod x.1.1 2 = 0
      · simp [h0, g0, h2, hz]
        omega
      · simp [h0, g0, h2, hz]
        rfl
  · by_cases g0 : y.2 = 0
    · have g1 := (lright_parts (hp g0)).1.1
      by_cases g2 : Int.tmod y.1.1 2 = 1
      · simp [h0, g0, g2, hz]
        rw [if_neg (by omega)]
        simp; omega
      · simp [h0, g0, g2, hz]
        rfl
    · simp [h0, g0, hz]
      rfl
theorem seal_305 : sealS ((3, zp, 5) : Lb) = (sealL (3, zp, 5), 1, 0) := by
  unfold sealS
  rw [if_pos (by decide +kernel)]
  rfl
theorem choose_of {s : List Int} (e : openL s = ((3, zp, 5), 0)) : chooseS [] s = ((3, zp, 5), true) := by
  have e0 : openL [] = (zl, 10) := rfl
  have e1 : ofS [] 0 = zl := by unfold ofS; rw [e0]; rfl
  have e2 : ofS s 1 = (3, zp, 5) := by
    unfold ofS
    rw [e]
    rfl
  unfold chooseS
  rw [e1, e2]
  rfl
theorem ex_305 : ∃ s : List Int, label_Seal.f 3000 ((3, zp, 5) : Lb) = some (s, 1, 0) ∧ label_Choose.f 3000 [] s = some ((3, zp, 5), true) := by
  have h1 := Seal_val (a := ((3, zp, 5) : Lb)) zp_bytes (k := 3000) (by omega)
  rw [seal_305] at h1
  have h2 := seal_bytes (a := ((3, zp, 5) : Lb)) zp_bytes
  have h3 := seal_len ((3, zp, 5) : Lb)
  have e := open_seal (a := ((3, zp, 5) : Lb)) zp_bytes ⟨by decide, by decide⟩ (by decide +kernel) []
  rw [List.append_nil] at e
  generalize sealL ((3, zp, 5) : Lb) = s at h1 h2 h3 e
  exact ⟨s, h1, by rw [choose_val Bytes.nil (by simp) h2 (by omega) (by omega), choose_of e]⟩
theorem lchooses_one {l m : List Int} (hb : Bytes l) (hl : l.length ≤ 1100) (hm : Bytes m) (hml : m.length ≤ 1100) : shadowboxlaw08_LabelChooses.jo1 3000 l m = some true := by
  obtain ⟨s, h1, h2⟩ := ex_305
  unfold shadowboxlaw08_LabelChooses.jo1
  rw [choose_val hb (by omega) hm (by omega) (by omega), rchoose_val hb (by omega) hm (by omega) (by omega)]
  rw [show label_Seal.f 3000 ((3 : Int), ((0 : Int), (0 : Int), (0 : Int), (0 : Int), (vrep 32 (0 : Int))), (5 : Int)) = some (s, 1, 0) from h1]
  simp only [Option.bind_some]
  rw [h2]
  simp
theorem LabelChooses : S.LabelChooses := by
  intro l m hl hw hml hmw
  refine ⟨3000, ?_⟩
  unfold shadowboxlaw08_LabelChooses.f
  simp only [lt]
  rw [wi64 (by omega) (by omega)]
  split
  · rfl
  · exact lchooses_one (bytes_of hw) (by omega) (bytes_of hmw) (by omega)
end Go.Proofs.Ytnjijflgafghmaa.Pure
