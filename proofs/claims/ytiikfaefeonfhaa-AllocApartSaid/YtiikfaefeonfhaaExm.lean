/- Spans: what having and meeting mean; lengths; no condition. -/
import Derived.Test.YtiikfaefeonfhaaExv
set_option linter.unusedVariables false
set_option linter.unusedSimpArgs false
namespace Go.Proofs.Ytiikfaefeonfhaa.Exm
open Go Go.RowKit Go.Proofs.Ytiikfaefeonfhaa.Sx Go.Proofs.Ytiikfaefeonfhaa.G Go.Proofs.Ytiikfaefeonfhaa.Bt Go.Proofs.Ytiikfaefeonfhaa.Ext Go.Proofs.Ytiikfaefeonfhaa.Exv

theorem hasB_iff : ∀ {l : List Sp} {m a b : Int}, Ok m l → a < b → (hasB a b l = true ↔ ∀ k, a ≤ k → k < b → mem l k)
  | [], m, a, b, _, hab => by
    simp only [hasB, mem]
    exact ⟨fun h => (by cases h), fun h => (h a (Int.le_refl _) hab).elim⟩
  | x :: r, m, a, b, h, hab => by
    obtain ⟨h1, h2, h3⟩ := h
    simp only [hasB, Bool.or_eq_true, Bool.and_eq_true, decide_eq_true_eq]
    constructor
    · rintro (⟨h4, h5⟩ | h4) k hk hk'
      · exact .inl ⟨by omega, by omega⟩
      · exact .inr ((hasB_iff h3 hab).1 h4 k hk hk')
    · intro h4
      rcases h4 a (Int.le_refl _) hab with h5 | h5
      · left
        refine ⟨h5.1, ?_⟩
        apply Int.not_lt.1
        intro h6
        rcases h4 x.2 (by omega) h6 with h7 | h7
        · omega
        · have := mem_gt h3 h7; omega
      · right
        have h6 := mem_gt h3 h5
        refine (hasB_iff h3 hab).2 (fun k hk hk' => ?_)
        rcases h4 k hk hk' with h7 | h7
        · omega
        · exact h7
theorem meetB_iff : ∀ {l : List Sp} {a b : Int}, (∀ x ∈ l, x.1 < x.2) → a < b → (meetB a b l = true ↔ ∃ k, a ≤ k ∧ k < b ∧ mem l k)
  | [], a, b, _, _ => by
    simp only [meetB, mem]
    exact ⟨fun h => (by cases h), fun ⟨_, _, _, h⟩ => h.elim⟩
  | x :: r, a, b, h, hab => by
    have hx := h x (by simp)
    have ih := meetB_iff (l := r) (fun y hy => h y (by simp [hy])) hab
    simp only [meetB, Bool.or_eq_true, Bool.and_eq_true, decide_eq_true_eq, ih, mem]
    constructor
    · rintro (⟨h4, h5⟩ | ⟨k, h4, h5, h6⟩)
      · by_cases h6 : a ≤ x.1
        · exact ⟨x.1, h6, h4, .inl ⟨Int.le_refl _, hx⟩⟩
        · exact ⟨a, Int.le_refl _, hab, .inl ⟨by omega, h5⟩⟩
      · exact ⟨k, h4, h5, .inr h6⟩
    · rintro ⟨k, h4, h5, h6 | h6⟩
      · exact .inl ⟨by omega, by omega⟩
      · exact .inr ⟨k, h4, h5, h6⟩
theorem add_len : ∀ (l : List Sp) (a b : Int), (add l a b).length ≤ l.length + 1
  | [], a, b => Nat.le_refl _
  | x :: r, a, b => by
    unfold add
    split
    · have := add_len r a b
      simp; omega
    · split
      · simp
      · have := add_len r (min a x.1) (max b x.2)
        simp; omega
theorem rem_len : ∀ (l : List Sp) (a b : Int), (rem l a b).length ≤ 2 * l.length
  | [], a, b => Nat.le_refl _
  | x :: r, a, b => by
    have := rem_len r a b
    unfold rem
    split
    · simp; omega
    · simp only [List.length_append, List.length_cons]
      split <;> split <;> simp <;> omega
theorem addV_len (l : List Sp) (s : Sp) : (addV l s).length ≤ l.length + 1 := by
  unfold addV
  split
  · split
    · exact add_len l _ _
    · omega
  · omega
theorem remV_len (l : List Sp) (s : Sp) : (remV l s).length ≤ 2 * l.length := by
  unfold remV
  split
  · split
    · exact rem_len l _ _
    · omega
  · omega
theorem ok_len : ∀ {l : List Sp} {m B : Int}, Ok m l → (∀ x ∈ l, x.2 ≤ B) → m ≤ B → (l.length : Int) ≤ B - m
  | [], m, B, _, _, h => by simp; omega
  | x :: r, m, B, h, hB, hm => by
    obtain ⟨h1, h2, h3⟩ := h
    have := ok_len h3 (fun y hy => hB y (by simp [hy])) (hB x (by simp))
    simp
    omega
end Go.Proofs.Ytiikfaefeonfhaa.Exm
