/- Short versions, and versions with nothing in them; no condition. -/
import Derived.Test.YthhhkphbhlafbaaRrd
namespace Go.Proofs.Ythhhkphbhlafbaa.Rfw
open Go Go.RowKit Go.Proofs.Ythhhkphbhlafbaa.Sx Go.Proofs.Ythhhkphbhlafbaa.G Go.Proofs.Ythhhkphbhlafbaa.Bt Go.Proofs.Ythhhkphbhlafbaa.Rcd Go.Proofs.Ythhhkphbhlafbaa.Rcv Go.Proofs.Ythhhkphbhlafbaa.Rrd
set_option linter.unusedVariables false
set_option linter.unusedSimpArgs false
theorem mn (n : Nat) : ∃ y : Int, (if (900 : Int) < (n : Int) then (900 : Int) else (n : Int)) = y ∧ 0 ≤ y ∧ y ≤ 900 := by
  refine ⟨_, rfl, ?_⟩
  split <;> omega
theorem few_lo1 {a : Ver} (hl : a.2.2.2.2.2.2.length ≤ 9223372036854775807) : ∀ (j i k : Nat) (x : Int), i + j = a.2.2.2.2.2.2.length → j < k → 5 * (i : Int) ≤ x → x ≤ 10000 → ∃ b, shadowboxlaw36_few.lo1 a k x (i : Int) = some b ∧ (b = true → a.2.2.2.2.2.2.length ≤ 180) := by
  intro j
  induction j with
  | zero =>
    intro i k x hi hk hx hx2
    obtain ⟨k, rfl⟩ : ∃ m, k = m + 1 := ⟨k - 1, by omega⟩
    rw [shadowboxlaw36_few.lo1, if_neg (by omega)]
    exact ⟨_, rfl, fun h => by have := of_decide_eq_true h; omega⟩
  | succ j ih =>
    intro i k x hi hk hx hx2
    obtain ⟨k, rfl⟩ : ∃ m, k = m + 1 := ⟨k - 1, by omega⟩
    rw [shadowboxlaw36_few.lo1, if_pos (by omega)]
    by_cases h : x < 900
    · rw [if_pos h, if_pos (by omega)]
      simp only [lt]
      obtain ⟨y, ey, y0, y1⟩ := mn ((a.2.2.2.2.2.2.getD (i : Int).toNat (ByteArray.empty, ByteArray.empty)).1.size)
      obtain ⟨z, ez, z0, z1⟩ := mn ((a.2.2.2.2.2.2.getD (i : Int).toNat (ByteArray.empty, ByteArray.empty)).2.size)
      rw [ey, ez, wi64 (n := x + 5) (by omega) (by omega), wi64 (n := x + 5 + y) (by omega) (by omega), wi64 (n := x + 5 + y + z) (by omega) (by omega), wi64 (n := (i : Int) + 1) (by omega) (by omega)]
      exact ih (i + 1) k (x + 5 + y + z) (by omega) (by omega) (by omega) (by omega)
    · rw [if_neg h]
      exact ⟨_, rfl, fun h2 => absurd (of_decide_eq_true h2) h⟩
theorem few_val {a : Ver} (hl : a.2.2.2.2.2.2.length ≤ 9223372036854775807) {k : Nat} (hk : a.2.2.2.2.2.2.length < k) : ∃ b, shadowboxlaw36_few.f k a = some b ∧ (b = true → a.2.2.2.2.2.2.length ≤ 180) := by
  unfold shadowboxlaw36_few.f
  simp only [lt]
  obtain ⟨y, ey, y0, y1⟩ := mn (a.2.2.2.2.1.size)
  obtain ⟨z, ez, z0, z1⟩ := mn (a.2.2.2.2.2.1.size)
  rw [ey, ez, wi64 (by omega) (by omega)]
  exact few_lo1 hl a.2.2.2.2.2.2.length 0 k (y + z) (by omega) (by omega) (by omega) (by omega)
theorem gr_one {v : Int} (h0 : 0 ≤ v) (h1 : v < 128) : gr v = 1 := isGr_unique (gr_is h0 (by omega)).2 ⟨by omega, by simp; omega, .inl rfl⟩
theorem sx_one {v : Int} (h0 : 0 ≤ v) (h1 : v < 128) : (sx v).length = 1 := by rw [sx_len h0 (by omega), gr_one h0 h1]
theorem tx_one : (tx ByteArray.empty).length = 1 := by
  rw [tx, List.length_append, sx_one (by decide) (by decide), bl_length]
  rfl
theorem enc_one {a b : Int} (ha : 0 ≤ a ∧ a < 128) (hb : 0 ≤ b ∧ b < 128) : (enc (a, b, 0, 0, ByteArray.empty, ByteArray.empty, [])).length = 7 := by
  unfold enc hd
  simp only [List.length_append, List.flatMap_nil, List.length_nil]
  rw [show u a = a by unfold u; omega, show u b = b by unfold u; omega, show u 0 = 0 by decide, tx_one, sx_one ha.1 ha.2, sx_one hb.1 hb.2, sx_one (by decide) (by decide), sx_one (by decide) (by decide)]
theorem rok_one {b : Int} (hb : b = 1 ∨ b = 2) : rok ((1 : Int), b, (0 : Int), (0 : Int), ByteArray.empty, ByteArray.empty, ([] : List (ByteArray × ByteArray))) = true := by
  unfold rok
  have h1 : tex ByteArray.empty 60 = true := by decide +kernel
  have h2 : bare ((1 : Int), b, (0 : Int), (0 : Int), ByteArray.empty, ByteArray.empty, ([] : List (ByteArray × ByteArray))) = true := by
    show (decide ((0 : Int) = 0) && ((ByteArray.empty.toList == (⟨#[]⟩ : ByteArray).toList) && ((ByteArray.empty.toList == (⟨#[]⟩ : ByteArray).toList) && decide (((([] : List (ByteArray × ByteArray)).length : Nat) : Int) = 0)))) = true
    decide +kernel
  have h3 := enc_one (a := 1) (b := b) ⟨by decide, by decide⟩ ⟨by omega, by omega⟩
  simp only [h1, h2, h3, wr, Bool.true_and, Bool.or_true]
  rcases hb with rfl | rfl <;> decide
end Go.Proofs.Ythhhkphbhlafbaa.Rfw
