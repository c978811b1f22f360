/- What the codec's functions compute: numbers of a size, short numbers, texts; no condition. -/
import Derived.Test.YtbidihabicgedaaGz
import Derived.Test.YtbidihabicgedaaBits
namespace Go.Proofs.Ytbidihabicgedaa.Cod
open Go Go.RowKit Go.Proofs.Ytbidihabicgedaa.Sx Go.Proofs.Ytbidihabicgedaa.G Go.Proofs.Ytbidihabicgedaa.Bt
set_option linter.unusedVariables false
set_option linter.unusedSimpArgs false
def Bytes (l : List Int) : Prop := ∀ x ∈ l, 0 ≤ x ∧ x < 256
theorem bytes_of {l : List Int} (h : ∀ x ∈ l, (Lit.int .u8 x).wf = true) : Bytes l := fun x hx => by
  have := h x hx
  simp only [Lit.wf, IntKind.min, IntKind.max, IntKind.signed, IntKind.bits, Bool.and_eq_true] at this
  simp at this
  omega
theorem wf_i64 {x : Int} (h : (Lit.int .i64 x).wf = true) : -9223372036854775808 ≤ x ∧ x < 9223372036854775808 := by
  simp only [Lit.wf, IntKind.min, IntKind.max, IntKind.signed, IntKind.bits, Bool.and_eq_true] at h
  simp at h
  omega
theorem wf_u64 {x : Int} (h : (Lit.int .u64 x).wf = true) : 0 ≤ x ∧ x < 18446744073709551616 := by
  simp only [Lit.wf, IntKind.min, IntKind.max, IntKind.signed, IntKind.bits, Bool.and_eq_true] at h
  simp at h
  omega
theorem Bytes.take {l : List Int} (h : Bytes l) (n : Nat) : Bytes (l.take n) := fun x hx => h x (List.mem_of_mem_take hx)
theorem Bytes.drop {l : List Int} (h : Bytes l) (n : Nat) : Bytes (l.drop n) := fun x hx => h x (List.mem_of_mem_drop hx)
theorem Bytes.append {l m : List Int} (h : Bytes l) (h' : Bytes m) : Bytes (l ++ m) := fun x hx => (List.mem_append.1 hx).elim (h x) (h' x)
theorem Bytes.nil : Bytes [] := fun x hx => by cases hx
theorem Bytes.cons {x : Int} {l : List Int} (h0 : 0 ≤ x) (h1 : x < 256) (h : Bytes l) : Bytes (x :: l) := fun y hy => by
  rcases List.mem_cons.1 hy with rfl | hy
  · exact ⟨h0, h1⟩
  · exact h y hy
theorem Bytes.get {l : List Int} (h : Bytes l) {i : Nat} (hi : i < l.length) : 0 ≤ l.getD i 0 ∧ l.getD i 0 < 256 := by
  rw [List.getD_eq_getElem?_getD, List.getElem?_eq_getElem hi, Option.getD_some]
  exact h _ (List.getElem_mem hi)

/-! ### Numbers of a size -/
def le : Nat → Int → List Int
  | 0, _ => []
  | n + 1, v => v % 256 :: le n (v / 256)
def val : List Int → Int
  | [] => 0
  | x :: r => x + 256 * val r
theorem le_length (n : Nat) : ∀ v, (le n v).length = n := by
  induction n with
  | zero => intro v; rfl
  | succ n ih => intro v; simp [le, ih]
theorem le_bytes (n : Nat) : ∀ v, Bytes (le n v) := by
  induction n with
  | zero => intro v; exact Bytes.nil
  | succ n ih => intro v; exact Bytes.cons (Int.emod_nonneg _ (by decide)) (Int.emod_lt_of_pos _ (by decide)) (ih _)
theorem val_bound {l : List Int} (h : Bytes l) : 0 ≤ val l ∧ val l < 256 ^ l.length := by
  induction l with
  | nil => simp [val]
  | cons x r ih =>
    have h1 := h x (by simp)
    have h2 := ih (fun y hy => h y (by simp [hy]))
    simp only [val, List.length_cons]
    rw [show (256 : Int) ^ (r.length + 1) = 256 ^ r.length * 256 from Int.pow_succ _ _]
    omega
theorem val_le (n : Nat) : ∀ v, 0 ≤ v → val (le n v) = v % 256 ^ n := by
  induction n with
  | zero => intro v h; simp [le, val]
  | succ n ih =>
    intro v h
    simp only [le, val]
    rw [ih _ (by omega), show (256 : Int) ^ (n + 1) = 256 * 256 ^ n from by rw [Int.pow_succ, Int.mul_comm]]
    rw [em _ _ (by decide)]
theorem pow_le {n : Nat} (h : n ≤ 8) : (256 : Int) ^ n ≤ 18446744073709551616 := by
  have : n = 0 ∨ n = 1 ∨ n = 2 ∨ n = 3 ∨ n = 4 ∨ n = 5 ∨ n = 6 ∨ n = 7 ∨ n = 8 := by omega
  rcases this with rfl | rfl | rfl | rfl | rfl | rfl | rfl | rfl | rfl <;> decide
theorem val_u64 {l : List Int} (h : Bytes l) (hn : l.length ≤ 8) : 0 ≤ val l ∧ val l < 18446744073709551616 := ⟨(val_bound h).1, Int.lt_of_lt_of_le (val_bound h).2 (pow_le hn)⟩
theorem val_take_succ : ∀ (l : List Int) (i : Nat), i < l.length → val (l.take (i + 1)) = val (l.take i) + l.getD i 0 * 256 ^ i := by
  intro l
  induction l with
  | nil => intro i h; simp at h
  | cons x r ih =>
    intro i h
    cases i with
    | zero => simp [val]
    | succ i =>
      have h2 := ih i (by simpa using h)
      simp only [List.take_succ_cons, val, List.getD_cons_succ]
      rw [h2, Int.pow_succ]
      rw [Int.mul_add, Int.add_assoc]
      congr 2
      rw [← Int.mul_assoc, Int.mul_comm 256, Int.mul_assoc, Int.mul_comm 256]
theorem val_drop {l : List Int} {i : Nat} (h : i < l.length) : val (l.drop i) = l.getD i 0 + 256 * val (l.drop (i + 1)) := by
  rw [List.drop_eq_getElem_cons h]
  simp [val, List.getD_eq_getElem?_getD, List.getElem?_eq_getElem h]
theorem shl8 {y : Int} {i : Nat} (h0 : 0 ≤ y) (h1 : y < 256) (hi : i < 8) : shlv .u64 y (IntKind.wrap .i64 (8 * (i : Int))) = y * 256 ^ i := by
  rw [wi64 (by omega) (by omega)]
  unfold shlv
  rw [show ((8 * (i : Int)).toNat) = 8 * i by omega, show min (8 * i) (IntKind.bits .u64) = 8 * i by simp [IntKind.bits]; omega, show (2 : Int) ^ (8 * i) = 256 ^ i by rw [Int.pow_mul]; rfl, wu64]
  have : i = 0 ∨ i = 1 ∨ i = 2 ∨ i = 3 ∨ i = 4 ∨ i = 5 ∨ i = 6 ∨ i = 7 := by omega
  rcases this with rfl | rfl | rfl | rfl | rfl | rfl | rfl | rfl <;> simp <;> omega
theorem shr8 {y : Int} {i : Nat} (hi : i < 8) : shrv .u64 y (IntKind.wrap .i64 (8 * (i : Int))) = y / 256 ^ i := by
  rw [wi64 (by omega) (by omega)]
  unfold shrv
  rw [show ((8 * (i : Int)).toNat) = 8 * i by omega, show min (8 * i) (IntKind.bits .u64) = 8 * i by simp [IntKind.bits]; omega, show (2 : Int) ^ (8 * i) = 256 ^ i by rw [Int.pow_mul]; rfl]
  exact fd _ (Int.le_of_lt (Int.pow_pos (by decide)))
theorem or_pow {a y : Int} {i : Nat} (ha : 0 ≤ a) (hb : a < 256 ^ i) (h0 : 0 ≤ y) (h1 : y < 256) (hi : i < 8) : bits .or .u64 a (y * 256 ^ i) = a + y * 256 ^ i := by
  obtain ⟨m, rfl⟩ := Int.eq_ofNat_of_zero_le ha
  obtain ⟨n, rfl⟩ := Int.eq_ofNat_of_zero_le h0
  have e : ((256 : Int) ^ i) = ((2 ^ (8 * i) : Nat) : Int) := by rw [Nat.pow_mul]; simp
  rw [e] at hb ⊢
  have hb' : m < 2 ^ (8 * i) := by exact_mod_cast hb
  have hn : n < 256 := by omega
  have hle : 2 ^ (8 * i) * 256 ≤ 2 ^ 64 := by
    rw [show (256 : Nat) = 2 ^ 8 from rfl, ← Nat.pow_add]
    exact Nat.pow_le_pow_right (by decide) (by omega)
  have h2 : n * 2 ^ (8 * i) + 2 ^ (8 * i) ≤ 2 ^ (8 * i) * 256 := by
    have : (n + 1) * 2 ^ (8 * i) ≤ 256 * 2 ^ (8 * i) := Nat.mul_le_mul_right _ (by omega)
    rw [Nat.add_mul, Nat.one_mul] at this
    omega
  rw [show ((n : Int) * ((2 ^ (8 * i) : Nat) : Int)) = ((n * 2 ^ (8 * i) : Nat) : Int) by simp]
  rw [or_u .u64 rfl _ _ (by simp only [IntKind.bits]; omega) (by simp only [IntKind.bits]; omega), or_add hb']
  simp

def takeS (l : List Int) (n : Int) : Int × List Int × Bool := if n < 1 then (0, [], false) else if n > 8 then (0, [], false) else if (l.length : Int) < n then (0, [], false) else (val (l.take n.toNat), l.drop n.toNat, true)
def fixS (l : List Int) (n : Int) (vs : List Int) : List Int := if n < 1 then l else if n > 8 then l else l ++ vs.flatMap (le n.toNat)
theorem le_snoc (n : Nat) : ∀ v, le (n + 1) v = le n v ++ [v / 256 ^ n % 256] := by
  induction n with
  | zero => intro v; simp [le]
  | succ n ih =>
    intro v
    rw [le, ih]
    simp only [le, List.cons_append]
    rw [dd (by decide), show (256 : Int) * 256 ^ n = 256 ^ (n + 1) from by rw [Int.pow_succ, Int.mul_comm]]
end Go.Proofs.Ytbidihabicgedaa.Cod
