/- Codes by a key: what the program and the document compute, as plain functions; no condition. -/
import Derived.Test.YtnkcadofhhcfaaaSha
import Derived.Test.YtnkcadofhhcfaaaHex
set_option linter.unusedVariables false
set_option linter.unusedSimpArgs false
namespace Go.Proofs.Ytnkcadofhhcfaaa.Hm
open Go Go.RowKit Go.Proofs.Ytnkcadofhhcfaaa.Sx Go.Proofs.Ytnkcadofhhcfaaa.G Go.Proofs.Ytnkcadofhhcfaaa.Bt Go.Proofs.Ytnkcadofhhcfaaa.Sha

theorem ol_by (H : Vc Int 8) : ∀ (j : Nat) (x : Int) (m : Vc Int 32), By m.1 → By (ol H j x m).1 := by
  intro j
  induction j with
  | zero => intro x m h; exact h
  | succ j ih =>
    intro x m h
    refine ih _ _ fun y hy => ?_
    rcases List.mem_or_eq_of_mem_set hy with h2 | rfl
    · exact h y h2
    · exact b8 _
theorem z32_by : By z32.1 := fun x hx => by
  have : x = 0 := List.eq_of_mem_replicate hx
  omega
theorem endS_by (s : Vc Int 8 × Int) (r : List Int) (y : Int) : By (endS s r y).1 := by
  unfold endS
  split
  · exact ol_by _ _ _ _ z32_by
  · exact ol_by _ _ _ _ z32_by
theorem sm_by : ∀ (j : Nat) (s : Vc Int 8 × Int) (l : List Int), By (sm j s l).1
  | 0, s, l => endS_by _ _ _
  | j + 1, s, l => sm_by j _ _
theorem sumL_by (l : List Int) : By (sumL l).1 := sm_by _ _ _
/-- A key's bytes, with zeros behind them, each turned by a. -/
def pd (v : List Int) (a : Int) : Nat → Int → List Int
  | 0, _ => []
  | j + 1, x => bits .xor .u8 (v.getD x.toNat 0) a :: pd v a j (x + 1)
theorem pd_len (v : List Int) (a : Int) : ∀ (j : Nat) (x : Int), (pd v a j x).length = j
  | 0, _ => rfl
  | j + 1, x => by simp [pd, pd_len v a j]
theorem x8_b (a b : Int) : 0 ≤ bits .xor .u8 a b ∧ bits .xor .u8 a b < 256 := by
  simp only [bits]
  exact b8 _
theorem pd_by (v : List Int) (a : Int) : ∀ (j : Nat) (x : Int), By (pd v a j x)
  | 0, _ => fun x hx => by cases hx
  | j + 1, x => By.cons (x8_b _ _) (pd_by v a j _)
theorem Mac1_lo1 (a : Int) (l : List Int) (v : Vc Int 64) (hl : l.length ≤ 140737488354000) : ∀ (j k : Nat) (m : List Int) (x : Int), x + j = 64 → 0 ≤ x → j < k → m.length + j ≤ 64 → hmac_Mac_1.lo1 a l v k m x = some (m ++ pd v.1 a j x ++ l) := by
  intro j
  induction j with
  | zero =>
    intro k m x h1 h2 h3 h4
    obtain ⟨k, rfl⟩ : ∃ k', k = k' + 1 := ⟨k - 1, by omega⟩
    rw [hmac_Mac_1.lo1, if_neg (by omega), if_pos (by omega)]
    simp [pd]
  | succ j ih =>
    intro k m x h1 h2 h3 h4
    obtain ⟨k, rfl⟩ : ∃ k', k = k' + 1 := ⟨k - 1, by omega⟩
    rw [hmac_Mac_1.lo1, if_pos (by omega), if_pos h2]
    simp only [lt]
    rw [if_pos (by simp; omega), wi64 (by omega) (by omega), ih k _ _ (by omega) (by omega) (by omega) (by simp; omega)]
    simp [pd]
theorem Mac1_val (a : Int) (l : List Int) (v : Vc Int 64) (hl : l.length ≤ 140737488354000) {k : Nat} (hk : 65 ≤ k) : hmac_Mac_1.f k a l v = some (pd v.1 a 64 0 ++ l) := by
  unfold hmac_Mac_1.f
  simp only [lt]
  rw [wi64 (by omega) (by omega)]
  repeat rw [if_pos (by omega)]
  have := Mac1_lo1 a l v hl 64 k [] 0 (by omega) (by omega) (by omega) (by simp)
  exact this
theorem x0 {a : Int} (h : 0 ≤ a) (h2 : a < 256) : bits .xor .u8 0 a = a := by
  obtain ⟨n, rfl⟩ : ∃ n : Nat, a = n := ⟨a.toNat, by omega⟩
  have := xor_u .u8 rfl 0 n (by decide) (by simp [IntKind.bits]; omega)
  simpa using this
theorem pad_lo2 (a : Int) (ha : 0 ≤ a) (ha2 : a < 256) (v : List Int) (hv : v.length ≤ 64) : ∀ (j k : Nat) (m : List Int) (x : Int), x + j = 64 → 0 ≤ x → j < k → m.length + j ≤ 64 → shadowboxref12_pad.lo2 a v k m x = some (m ++ pd v a j x) := by
  intro j
  induction j with
  | zero =>
    intro k m x h1 h2 h3 h4
    obtain ⟨k, rfl⟩ : ∃ k', k = k' + 1 := ⟨k - 1, by omega⟩
    rw [shadowboxref12_pad.lo2, if_neg (by omega)]
    simp [pd]
  | succ j ih =>
    intro k m x h1 h2 h3 h4
    obtain ⟨k, rfl⟩ : ∃ k', k = k' + 1 := ⟨k - 1, by omega⟩
    rw [shadowboxref12_pad.lo2, if_pos (by omega)]
    by_cases hx : x < (v.length : Int)
    · rw [if_pos hx, if_pos h2]
      simp only [lt]
      rw [if_pos (by simp; omega), wi64 (by omega) (by omega), ih k _ _ (by omega) (by omega) (by omega) (by simp; omega)]
      simp [pd]
    · rw [if_neg hx, if_pos (by simp; omega), wi64 (by omega) (by omega), ih k _ _ (by omega) (by omega) (by omega) (by simp; omega)]
      have : v.getD x.toNat 0 = 0 := by rw [List.getD_eq_getElem?_getD, List.getElem?_eq_none (by omega)]; rfl
      rw [pd, this, x0 ha ha2]
      simp
def key (l : List Int) : List Int := if 64 < l.length then (sumL l).1 else l
theorem key_len (l : List Int) : (key l).length ≤ 64 := by
  unfold key
  split
  · rw [(sumL l).2]; omega
  · omega
theorem pad_val {a : Int} (ha : 0 ≤ a) (ha2 : a < 256) {l : List Int} (hb : By l) (hl : l.length ≤ 140737488355000) {k : Nat} (hk : l.length / 64 + 400 ≤ k) : shadowboxref12_pad.f k l a = some (pd (key l) a 64 0) := by
  unfold shadowboxref12_pad.f shadowboxref12_pad.jo1 key
  by_cases h : (l.length : Int) > 64
  · rw [if_pos h, rSum_val hb hl hk, if_pos (by omega)]
    simp only [Option.bind_some]
    have := pad_lo2 a ha ha2 (sumL l).1 (by rw [(sumL l).2]; omega) 64 k [] 0 (by omega) (by omega) (by omega) (by simp)
    exact this
  · rw [if_neg h, if_neg (by omega)]
    have := pad_lo2 a ha ha2 l (by omega) 64 k [] 0 (by omega) (by omega) (by omega) (by simp)
    exact this
/-- The code of bytes, by a key. -/
def macL (l m : List Int) : Vc Int 32 := sumL (pd (key l) 92 64 0 ++ (sumL (pd (key l) 54 64 0 ++ m)).1)
theorem rMac_val {l m : List Int} (hb : By l) (hl : l.length ≤ 140737488354000) (hm : By m) (hml : m.length ≤ 140737488354000) {k : Nat} (hk : l.length / 64 + 500 ≤ k) (hk2 : m.length / 64 + 500 ≤ k) : shadowboxref12_Mac.f k l m = some (macL l m) := by
  unfold shadowboxref12_Mac.f
  rw [pad_val (by omega) (by omega) hb (by omega) (by omega), pad_val (by omega) (by omega) hb (by omega) (by omega)]
  simp only [Option.bind_some]
  rw [if_pos (by rw [pd_len]; omega), rSum_val ((pd_by _ _ _ _).app hm) (by simp [pd_len]; omega) (by simp [pd_len]; omega)]
  simp only [Option.bind_some]
  rw [if_pos (by rw [pd_len, (sumL _).2]; omega), rSum_val ((pd_by _ _ _ _).app (sumL_by _)) (by simp [pd_len, (sumL _).2]) (by simp [pd_len, (sumL _).2]; omega)]
  simp only [Option.bind_some]
  rfl
theorem vcopy_getD (l : List Int) (i : Nat) (hl : l.length ≤ 64) : (vcopy (vrep 64 (0 : Int)) l).1.getD i 0 = l.getD i 0 := by
  simp only [vcopy, vrep, List.getD_eq_getElem?_getD, List.take_of_length_le hl, List.drop_replicate]
  by_cases h : i < l.length
  · rw [List.getElem?_append_left h]
  · rw [List.getElem?_append_right (by omega), List.getElem?_eq_none (l := l) (by omega), List.getElem?_replicate]
    split <;> rfl
theorem pd_congr (a : Int) {v w : List Int} (h : ∀ i, v.getD i 0 = w.getD i 0) : ∀ (j : Nat) (x : Int), pd v a j x = pd w a j x
  | 0, _ => rfl
  | j + 1, x => by rw [pd, pd, h, pd_congr a h j]
theorem Mac_half {v m : List Int} (hv : v.length ≤ 64) (hm : By m) (hml : m.length ≤ 140737488353000) {k : Nat} (hk : m.length / 64 + 500 ≤ k) : ((hmac_Mac_1.f k (54 : Int) m (vcopy (vrep 64 (0 : Int)) v)).bind fun t12 => (sha_Sum.f k t12).bind fun t15 => (hmac_Mac_1.f k (92 : Int) t15.1 (vcopy (vrep 64 (0 : Int)) v)).bind fun t19 => (sha_Sum.f k t19).bind fun t22 => some t22) = some (sumL (pd v 92 64 0 ++ (sumL (pd v 54 64 0 ++ m)).1)) := by
  rw [Mac1_val _ _ _ (by omega) (by omega), pd_congr 54 (fun i => vcopy_getD v i hv)]
  simp only [Option.bind_some]
  rw [Sum_val ((pd_by _ _ _ _).app hm) (by simp [pd_len]; omega) (by simp [pd_len]; omega)]
  simp only [Option.bind_some]
  rw [Mac1_val _ _ _ (by rw [(sumL _).2]; omega) (by omega), pd_congr 92 (fun i => vcopy_getD v i hv)]
  simp only [Option.bind_some]
  rw [Sum_val ((pd_by _ _ _ _).app (sumL_by _)) (by simp [pd_len, (sumL _).2]) (by simp [pd_len, (sumL _).2]; omega)]
  rfl
theorem Mac_val {l m : List Int} (hb : By l) (hl : l.length ≤ 140737488353000) (hm : By m) (hml : m.length ≤ 140737488353000) {k : Nat} (hk : l.length / 64 + 500 ≤ k) (hk2 : m.length / 64 + 500 ≤ k) : hmac_Mac.f k l m = some (macL l m) := by
  unfold hmac_Mac.f macL key
  by_cases h : (l.length : Int) > 64
  · rw [if_pos h, Sum_val hb (by omega) (by omega), if_pos (by omega)]
    simp only [Option.bind_some, lt]
    exact Mac_half (by rw [(sumL l).2]; omega) hm hml hk2
  · rw [if_neg h, if_neg (by omega)]
    simp only [lt]
    exact Mac_half (by omega) hm hml hk2
theorem lwf {l : List Int} (h : ∀ x ∈ l, (Lit.int .u8 x).wf = true) : By l := fun x hx => by
  have := h x hx
  simp only [Lit.wf, IntKind.min, IntKind.max, IntKind.signed, IntKind.bits, Bool.and_eq_true] at this
  obtain ⟨h1, h2⟩ := this
  have h1 := of_decide_eq_true h1
  have h2 := of_decide_eq_true h2
  simp at h1 h2
  omega
end Go.Proofs.Ytnkcadofhhcfaaa.Hm
