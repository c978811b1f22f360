/- The digits of a sum, and what the laws of sums ask; no condition. -/
import Derived.Test.YtelgglnabikkcaaSha
set_option linter.unusedVariables false
set_option linter.unusedSimpArgs false
namespace Go.Proofs.Ytelgglnabikkcaa.Sha
open Go Go.RowKit Go.Proofs.Ytelgglnabikkcaa.Sx Go.Proofs.Ytelgglnabikkcaa.G Go.Proofs.Ytelgglnabikkcaa.Bt

theorem ol_by (H : Vc Int 8) : ∀ (j : Nat) (x : Int) (m : Vc Int 32), By m.1 → By (ol H j x m).1 := by
  intro j
  induction j with
  | zero => intro x m h; exact h
  | succ j ih =>
    intro x m h
    refine ih _ _ fun y hy => ?_
    rcases List.mem_or_eq_of_mem_set hy with h2 | rfl
    · exact h y h2
    · exact b8 _
theorem z32_by : By z32.1 := fun x hx => by
  have : x = 0 := List.eq_of_mem_replicate hx
  omega
theorem endS_by (s : Vc Int 8 × Int) (r : List Int) (y : Int) : By (endS s r y).1 := by
  unfold endS
  split
  · exact ol_by _ _ _ _ z32_by
  · exact ol_by _ _ _ _ z32_by
theorem sm_by : ∀ (j : Nat) (s : Vc Int 8 × Int) (l : List Int), By (sm j s l).1
  | 0, s, l => endS_by _ _ _
  | j + 1, s, l => sm_by j _ _
theorem sumL_by (l : List Int) : By (sumL l).1 := sm_by _ _ _
/-! ### The digits -/
def dg (x : Int) : Int := bt sha_Text.cst0 x
def tx (v : Vc Int 32) : Nat → Int → List Int
  | 0, _ => []
  | j + 1, x => [dg (v.1.getD x.toNat 0 / 16), dg (v.1.getD x.toNat 0 % 16)] ++ tx v j (x + 1)
theorem ext_dg : ∀ n : Fin 16, (ByteArray.extract shadowboxref03_Text.cst0 n.1 (n.1 + 1)).data = (strOfNums [dg (n.1 : Int)]).data := by decide +kernel
theorem son_app (l m : List Int) : strOfNums l ++ strOfNums m = strOfNums (l ++ m) := by
  apply ByteArray.ext
  simp [strOfNums, ByteArray.data_append]
theorem ext_dg' {y : Int} (h : 0 ≤ y) (h2 : y < 16) : ByteArray.extract shadowboxref03_Text.cst0 y.toNat (y + 1).toNat = strOfNums [dg y] := by
  obtain ⟨n, rfl⟩ : ∃ n : Nat, y = n := ⟨y.toNat, by omega⟩
  have := ByteArray.ext (ext_dg ⟨n, by omega⟩)
  rw [show ((n : Int) + 1).toNat = n + 1 by omega, Int.toNat_natCast]
  exact this
theorem and15 {a : Int} (h0 : 0 ≤ a) (h1 : a < 256) : bits .and .u8 a 15 = a % 16 := by
  have key : ∀ n : Fin 256, bits .and .u8 (n.1 : Int) 15 = (n.1 : Int) % 16 := by decide +kernel
  have := key ⟨a.toNat, by omega⟩
  simpa [Int.toNat_of_nonneg h0] using this
theorem son_size (l : List Int) : (strOfNums l).size = l.length := by simp [strOfNums, ByteArray.size]
theorem Text_lo1 (v : Vc Int 32) (hv : By v.1) : ∀ (j k : Nat) (m : List Int) (x : Int), x + j = 32 → 0 ≤ x → j < k → m.length + 2 * j ≤ 64 → sha_Text.lo1 v k m x = some (strOfNums (m ++ tx v j x)) := by
  intro j
  induction j with
  | zero =>
    intro k m x h1 h2 h3 h4
    obtain ⟨k, rfl⟩ : ∃ k', k = k' + 1 := ⟨k - 1, by omega⟩
    rw [sha_Text.lo1, if_neg (by omega)]
    simp [tx]
  | succ j ih =>
    intro k m x h1 h2 h3 h4
    obtain ⟨k, rfl⟩ : ∃ k', k = k' + 1 := ⟨k - 1, by omega⟩
    have hx := hv.get x.toNat
    have hs : (sha_Text.cst0.size : Int) = 16 := by decide +kernel
    rw [sha_Text.lo1, if_pos (by omega), if_pos h2]
    simp only [lt]
    rw [fd _ (by omega), and15 hx.1 hx.2, hs]
    repeat rw [if_pos (by omega)]
    rw [if_pos (by simp; omega), wi64 (by omega) (by omega), ih k _ _ (by omega) (by omega) (by omega) (by simp; omega)]
    simp [tx, dg]
theorem rText_lo1 (v : Vc Int 32) (hv : By v.1) : ∀ (j k : Nat) (m : List Int) (x : Int), x + j = 32 → 0 ≤ x → j < k → m.length + 2 * j ≤ 64 → shadowboxref03_Text.lo1 v k (strOfNums m) x = some (strOfNums (m ++ tx v j x)) := by
  intro j
  induction j with
  | zero =>
    intro k m x h1 h2 h3 h4
    obtain ⟨k, rfl⟩ : ∃ k', k = k' + 1 := ⟨k - 1, by omega⟩
    rw [shadowboxref03_Text.lo1, if_neg (by omega)]
    simp [tx]
  | succ j ih =>
    intro k m x h1 h2 h3 h4
    obtain ⟨k, rfl⟩ : ∃ k', k = k' + 1 := ⟨k - 1, by omega⟩
    have hx := hv.get x.toNat
    have hs : (shadowboxref03_Text.cst0.size : Int) = 16 := by decide +kernel
    rw [shadowboxref03_Text.lo1, if_pos (by omega)]
    simp only [shadowboxref03_Text.jo2, lt]
    rw [td _ hx.1, tm _ hx.1, wu8, wu8, wu8, hs]
    generalize hd : v.1.getD x.toNat 0 = d at *
    rw [show d / 16 % 256 = d / 16 by omega, show (d / 16 + 1) % 256 = d / 16 + 1 by omega, show (d % 16 + 1) % 256 = d % 16 + 1 by omega, ext_dg' (y := d / 16) (by omega) (by omega), ext_dg' (y := d % 16) (by omega) (by omega)]
    repeat rw [if_pos (by omega)]
    rw [if_pos (by rw [son_size, son_size]; simp; omega)]
    repeat rw [if_pos (by omega)]
    rw [son_app, if_pos (by rw [son_size, son_size]; simp; omega), son_app, wi64 (by omega) (by omega), ih k _ _ (by omega) (by omega) (by omega) (by simp; omega)]
    rw [tx, hd]
    simp
def textL (l : List Int) : ByteArray := strOfNums (tx (sumL l) 32 0)
theorem Text_val {l : List Int} (hb : By l) (hl : l.length ≤ 140737488355000) {k : Nat} (hk : l.length / 64 + 130 ≤ k) : sha_Text.f k l = some (textL l) := by
  unfold sha_Text.f
  rw [Sum_val hb hl hk]
  simp only [Option.bind_some]
  exact Text_lo1 _ (sumL_by l) 32 k [] 0 (by omega) (by omega) (by omega) (by simp)
theorem rText_val {l : List Int} (hb : By l) (hl : l.length ≤ 140737488355000) {k : Nat} (hk : l.length / 64 + 400 ≤ k) : shadowboxref03_Text.f k l = some (textL l) := by
  unfold shadowboxref03_Text.f
  rw [rSum_val hb hl (by omega)]
  simp only [Option.bind_some]
  have := rText_lo1 _ (sumL_by l) 32 k [] 0 (by omega) (by omega) (by omega) (by simp)
  exact this
theorem tx_len (v : Vc Int 32) : ∀ (j : Nat) (x : Int), (tx v j x).length = 2 * j
  | 0, _ => rfl
  | j + 1, x => by simp [tx, tx_len v j]; omega
theorem textL_size (l : List Int) : (textL l).size = 64 := by rw [textL, son_size, tx_len]
theorem lwf {l : List Int} (h : ∀ x ∈ l, (Lit.int .u8 x).wf = true) : By l := fun x hx => by
  have := h x hx
  simp only [Lit.wf, IntKind.min, IntKind.max, IntKind.signed, IntKind.bits, Bool.and_eq_true] at this
  obtain ⟨h1, h2⟩ := this
  have h1 := of_decide_eq_true h1
  have h2 := of_decide_eq_true h2
  simp at h1 h2
  omega
end Go.Proofs.Ytelgglnabikkcaa.Sha
