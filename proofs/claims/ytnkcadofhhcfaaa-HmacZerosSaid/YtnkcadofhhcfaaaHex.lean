/- The digits of bytes, as the program and the document lay them, as plain functions; no condition. -/
import Derived.Test.YtnkcadofhhcfaaaGz
import Derived.Test.YtnkcadofhhcfaaaBits
set_option linter.unusedVariables false
set_option linter.unusedSimpArgs false
namespace Go.Proofs.Ytnkcadofhhcfaaa.Hx
open Go Go.RowKit Go.Proofs.Ytnkcadofhhcfaaa.Sx Go.Proofs.Ytnkcadofhhcfaaa.G Go.Proofs.Ytnkcadofhhcfaaa.Bt

def By (l : List Int) : Prop := ∀ x ∈ l, 0 ≤ x ∧ x < 256
theorem By.get {l : List Int} (h : By l) (i : Nat) : 0 ≤ l.getD i 0 ∧ l.getD i 0 < 256 := by
  rw [List.getD_eq_getElem?_getD]
  cases e : l[i]? with
  | none => simp
  | some x => simpa using h x (List.mem_of_getElem? e)
def dg (x : Int) : Int := bt hex_Hex.cst0 x
def tx (v : List Int) : Nat → Int → List Int
  | 0, _ => []
  | j + 1, x => [dg (v.getD x.toNat 0 / 16), dg (v.getD x.toNat 0 % 16)] ++ tx v j (x + 1)
theorem son_app (l m : List Int) : strOfNums l ++ strOfNums m = strOfNums (l ++ m) := by
  apply ByteArray.ext
  simp [strOfNums, ByteArray.data_append]
theorem and15 {a : Int} (h0 : 0 ≤ a) (h1 : a < 256) : bits .and .u8 a 15 = a % 16 := by
  have key : ∀ n : Fin 256, bits .and .u8 (n.1 : Int) 15 = (n.1 : Int) % 16 := by decide +kernel
  have := key ⟨a.toNat, by omega⟩
  simpa [Int.toNat_of_nonneg h0] using this
theorem son_size (l : List Int) : (strOfNums l).size = l.length := by simp [strOfNums, ByteArray.size]
theorem Hex_lo1 (v : List Int) (hv : By v) (hv2 : v.length ≤ 40000) : ∀ (j k : Nat) (m : List Int) (x : Int), x + j = v.length → 0 ≤ x → j < k → m.length + 2 * j ≤ 100000 → hex_Hex.lo1 v k m x = some (strOfNums (m ++ tx v j x)) := by
  intro j
  induction j with
  | zero =>
    intro k m x h1 h2 h3 h4
    obtain ⟨k, rfl⟩ : ∃ k', k = k' + 1 := ⟨k - 1, by omega⟩
    rw [hex_Hex.lo1, if_neg (by omega)]
    simp [tx]
  | succ j ih =>
    intro k m x h1 h2 h3 h4
    obtain ⟨k, rfl⟩ : ∃ k', k = k' + 1 := ⟨k - 1, by omega⟩
    have hx := hv.get x.toNat
    have hs : (hex_Hex.cst0.size : Int) = 16 := by decide +kernel
    rw [hex_Hex.lo1, if_pos (by omega), if_pos h2]
    simp only [lt]
    rw [fd _ (by omega), and15 hx.1 hx.2, hs]
    repeat rw [if_pos (by omega)]
    rw [if_pos (by simp; omega), wi64 (by omega) (by omega), ih k _ _ (by omega) (by omega) (by omega) (by simp; omega)]
    simp [tx, dg]
def hexL (l : List Int) : ByteArray := strOfNums (tx l l.length 0)
theorem Hex_val {l : List Int} (hb : By l) (hl : l.length ≤ 40000) {k : Nat} (hk : l.length < k) : hex_Hex.f k l = some (hexL l) := by
  unfold hex_Hex.f
  simp only [lt]
  rw [wi64 (by omega) (by omega)]
  repeat rw [if_pos (by omega)]
  exact Hex_lo1 l hb hl l.length k [] 0 (by omega) (by omega) hk (by simp; omega)
end Go.Proofs.Ytnkcadofhhcfaaa.Hx
