/- The pure statement of LabelBack; no condition. -/
import Derived.Test.YtnjijflgafghmaaSLabelBack
import Derived.Test.YtnjijflgafghmaaLab
import Derived.Test.YtnjijflgafghmaaTrn
set_option linter.unusedVariables false
set_option linter.unusedSimpArgs false
namespace Go.Proofs.Ytnjijflgafghmaa.Pure
open Go Go.RowKit Go.Proofs.Ytnjijflgafghmaa.Sx Go.Proofs.Ytnjijflgafghmaa.G Go.Proofs.Ytnjijflgafghmaa.Bt Go.Proofs.Ytnjijflgafghmaa.Cod Go.Proofs.Ytnjijflgafghmaa.Ptr Go.Proofs.Ytnjijflgafghmaa.Lab
open Go.Proofs.Ytnjijflgafghmaa.Crc (num T F)
open Go.Proofs.Ytnjijflgafghmaa.Trn (num_set num_inj num_take burst shr_bit one_bit xor_mul)
theorem tmod_b (a : Int) : -4065 < a.tmod 4065 ∧ a.tmod 4065 < 4065 := by
  rcases Int.le_total 0 a with h | h
  · rw [tm _ h]; omega
  · have := tm 4065 (x := -a) (by omega)
    rw [Int.neg_tmod] at this
    omega
theorem turn_lo4 (l0 : List Int) (b at_ : Nat) (y17 : Int) (hy : Int.tmod y17 4065 = (at_ : Int)) (jo : List Int → Option Bool) (hb : b < 2 ^ 32) (h0 : Bytes l0) (hl4 : l0.length ≤ 4000) (hat : at_ + 32 ≤ 8 * l0.length) : ∀ (j i k : Nat) (l : List Int), i + j = 32 → j < k → Bytes l → l.length = l0.length → num l = num l0 ^^^ ((b % 2 ^ i) * 2 ^ at_) →
    ∃ m : List Int, shadowboxlaw08_LabelBack.lo4 (b : Int) y17 jo k l (i : Int) = jo m ∧ Bytes m ∧ m.length = l0.length ∧ num m = num l0 ^^^ (b * 2 ^ at_) := by
  intro j
  induction j with
  | zero =>
    intro i k l hi hk hl hlen hn
    obtain ⟨k, rfl⟩ : ∃ m, k = m + 1 := ⟨k - 1, by omega⟩
    unfold shadowboxlaw08_LabelBack.lo4
    have hi32 : i = 32 := by omega
    subst hi32
    rw [Nat.mod_eq_of_lt hb] at hn
    exact ⟨l, by rw [if_neg (by omega)], hl, hlen, hn⟩
  | succ j ih =>
    intro i k l hi hk hl hlen hn
    obtain ⟨k, rfl⟩ : ∃ m, k = m + 1 := ⟨k - 1, by omega⟩
    unfold shadowboxlaw08_LabelBack.lo4
    rw [if_pos (by omega)]
    unfold shadowboxlaw08_LabelBack.jo5
    rw [if_pos (by rw [wu64]; omega), shr_bit hb (by omega), wi64 (n := (i : Int) + 1) (by omega) (by omega), show (i : Int) + 1 = ((i + 1 : Nat) : Int) by omega, hy]
    simp only [lt]
    have hmod : b % 2 ^ (i + 1) = b % 2 ^ i + b / 2 ^ i % 2 * 2 ^ i := by
      rw [Nat.pow_succ, Nat.mod_mul, Nat.mul_comm]
    by_cases hbit : b / 2 ^ i % 2 = 1
    · rw [if_pos (by omega), wi64 (n := (at_ : Int) + (i : Int)) (by omega) (by omega), td _ (by omega), tm _ (by omega)]
      rw [show ((at_ : Int) + (i : Int)) / 8 = (((at_ + i) / 8 : Nat) : Int) by omega, show ((at_ : Int) + (i : Int)) % 8 = (((at_ + i) % 8 : Nat) : Int) by omega, wi64 (by omega) (by omega)]
      rw [if_pos (by omega), if_pos (by omega), if_pos (by rw [wu64]; omega), one_bit (by omega), Int.toNat_natCast]
      rw [if_pos (by omega), if_pos (by omega)]
      have hlt : (at_ + i) / 8 < l.length := by omega
      have hg : l.getD ((at_ + i) / 8) 0 = l[(at_ + i) / 8] := by simp [List.getD_eq_getElem?_getD, List.getElem?_eq_getElem hlt]
      have hx := hl _ (List.getElem_mem hlt)
      obtain ⟨c, hc⟩ := Int.eq_ofNat_of_zero_le hx.1
      have hp : 2 ^ ((at_ + i) % 8) < 256 := Nat.lt_of_lt_of_le (Nat.pow_lt_pow_right (by decide) (Nat.mod_lt _ (by decide))) (by decide)
      have hxor : bits .xor .u8 (l.getD ((at_ + i) / 8) 0) ((2 ^ ((at_ + i) % 8) : Nat) : Int) = (((l.getD ((at_ + i) / 8) 0).toNat ^^^ 2 ^ ((at_ + i) % 8) : Nat) : Int) := by
        rw [hg, hc, Int.toNat_natCast]
        exact xor_u .u8 rfl c _ (by simp only [IntKind.bits]; omega) (by simp only [IntKind.bits]; exact hp)
      rw [hxor]
      refine ih (i + 1) k _ (by omega) (by omega) (Trn.By.set hl _ _ hlt hp) (by rw [List.length_set]; exact hlen) ?_
      rw [num_set l _ _ hl hlt hp, hn, hmod, hbit, Nat.one_mul]
      have e1 : b % 2 ^ i + 2 ^ i = (b % 2 ^ i) ^^^ (1 * 2 ^ i) := by
        rw [Crc.xor_add (Nat.mod_lt _ (Nat.pow_pos (by decide))), Nat.one_mul]
      rw [e1, Nat.one_mul, xor_mul, ← Nat.pow_add, ← Nat.pow_add, Nat.xor_assoc]
      congr 3
      omega
    · rw [if_neg (by omega)]
      refine ih (i + 1) k l (by omega) (by omega) hl hlen ?_
      rw [hn, hmod, show b / 2 ^ i % 2 = 0 by omega, Nat.zero_mul, Nat.add_zero]
theorem take_xor {l m : List Int} {x : Nat} (hm : Bytes m) (hl : Bytes l) (hn : num m = num l ^^^ x) (j : Nat) : num (m.take j) = num (l.take j) ^^^ (x % 2 ^ (8 * j)) := by
  rw [num_take _ _ hm, num_take _ _ hl, hn, Nat.xor_mod_two_pow]
theorem val_num : ∀ {l : List Int}, Bytes l → val l = ((num l : Nat) : Int) := by
  intro l
  induction l with
  | nil => intro h; rfl
  | cons x r ih =>
    intro h
    have hx := h x (by simp)
    rw [val, num, ih (fun z hz => h z (by simp [hz]))]
    omega
/-- The sum and its bytes are one word of the code. -/
theorem crcOk_F {l : List Int} (hb : Bytes l) (hl : l.length = 512) (h : crcOk l) : T 4032 (4294967295 ^^^ num (l.take 504)) = T 32 4294967295 := by
  unfold crcOk at h
  have hX : Bytes ((l.drop 500).take 4) := (hb.drop _).take _
  have hXl : ((l.drop 500).take 4).length = 4 := by simp; omega
  have hXn : num ((l.drop 500).take 4) < 2 ^ 32 := by
    have := Crc.num_lt hX
    rw [hXl] at this
    exact this
  rw [val_num hX, wu32] at h
  have h2 : num ((l.drop 500).take 4) = Crc.goS 0 (l.take 500) := by omega
  have e : l.take 504 = l.take 500 ++ (l.drop 500).take 4 := by
    rw [show (504 : Nat) = 500 + 4 from rfl, List.take_add]
  have e2 : F 4294967295 (l.take 504) = T 4032 (4294967295 ^^^ num (l.take 504)) := by
    unfold F
    rw [show 8 * (l.take 504).length = 4032 by simp; omega]
  rw [← e2, e, Crc.F_append _ _ _ (hb.take 500)]
  unfold Crc.goS at h2
  rw [Nat.zero_xor] at h2
  generalize F 4294967295 (l.take 500) = s at h2 ⊢
  unfold F
  rw [hXl, h2, ← Nat.xor_assoc, Nat.xor_self, Nat.zero_xor]
theorem back_one {a : Lb} (ha : Bytes a.2.1.2.2.2.2.1) (hc : 0 ≤ a.2.1.2.2.2.1 ∧ a.2.1.2.2.2.1 < 4294967296) (h : lrightB a = true) {b at_ : Nat} (hb : b < 2 ^ 32) (hat : at_ + 32 ≤ 4096) {m : List Int} (hm : Bytes m) (hml : m.length = 512) (hn : num m = num (sealL a) ^^^ (b * 2 ^ at_)) :
    ((openL m).2 = 0 ↔ b = 0) ∧ ((openL m).2 = 0 ∨ (openL m).2 = 12 ∨ (openL m).2 = 11) := by
  have hsb := seal_bytes ha
  have hsl := seal_len a
  constructor
  · constructor
    · intro h0
      -- m is what is sealed, too
      have hcr : crcOk m ∧ m = sealL (lbOf m) := by
        unfold openL at h0
        rw [if_neg (by omega), List.take_of_length_le (by omega)] at h0
        by_cases h2 : crcOk m
        · rw [if_pos h2] at h0
          unfold open2 at h0
          by_cases h3 : (readL (m.drop 20)).2 = 0
          · rw [if_pos h3] at h0
            by_cases h4 : lrightB (lbOf m) = true
            · rw [if_pos h4] at h0
              by_cases h5 : eqb (sealL (lbOf m)) m = true
              · exact ⟨h2, (eqb_eq (seal_bytes (readL_bytes (hm.drop _))) hm h5).symm⟩
              · rw [if_neg h5] at h0; exact absurd h0 (by decide)
            · rw [if_neg h4] at h0; exact absurd h0 (by decide)
          · rw [if_neg h3] at h0; exact absurd h0 (by decide)
        · rw [if_neg h2] at h0; exact absurd h0 (by decide)
      obtain ⟨hk, hs⟩ := hcr
      have f1 := crcOk_F hm hml hk
      have f2 := crcOk_F hsb hsl (seal_crc ha)
      have hw := take_xor hm hsb hn 504
      have e504 : m.take 504 = (sealL a).take 504 := num_inj (hm.take _) (hsb.take _) (by simp; omega) (burst hb hw (f1.trans f2.symm))
      have e500 : bodyL (lbOf m) = bodyL a := by
        have := congrArg (List.take 500) e504
        rw [List.take_take, List.take_take, show min 500 504 = 500 from rfl] at this
        rw [hs] at this
        rw [seal_eq, seal_eq, List.take_left' (body_len _), List.take_left' (body_len _)] at this
        exact this
      have e8 : le 8 (u (lbOf m).1) = le 8 (u a.1) := by
        have := congrArg (List.take 8) e500
        unfold bodyL at this
        rw [head_eq, head_eq] at this
        simp only [List.append_assoc] at this
        rwa [List.take_left' (le_length 8 _), List.take_left' (le_length 8 _)] at this
      have em : m = sealL a := by
        rw [hs, seal_eq, seal_eq, e500, e8]
      rw [em] at hn
      have hz : b * 2 ^ at_ = 0 := Trn.xor_eq_self.1 hn.symm
      rcases Nat.mul_eq_zero.1 hz with h | h
      · exact h
      · exact absurd h (Nat.pos_iff_ne_zero.1 (Nat.pow_pos (by decide)))
    · rintro rfl
      rw [Nat.zero_mul, Nat.xor_zero] at hn
      have em := num_inj hm hsb (by omega) hn
      have := open_seal ha hc h []
      rw [List.append_nil] at this
      rw [em, this]
  · unfold openL
    rw [if_neg (by omega), List.take_of_length_le (by omega)]
    by_cases h2 : crcOk m
    · rw [if_pos h2]
      unfold open2
      split
      · split
        · split
          · exact .inl rfl
          · exact .inr (.inr rfl)
        · exact .inr (.inr rfl)
      · exact .inr (.inr rfl)
    · rw [if_neg h2]; exact .inr (.inl rfl)
theorem ex_101 : ∃ s : List Int, label_Seal.f 3000 ((1, zp, 1) : Lb) = some (s, 1, 0) ∧ s.length = 512 := by
  have h1 := Seal_val (a := ((1, zp, 1) : Lb)) zp_bytes (k := 3000) (by omega)
  have h2 : sealS ((1, zp, 1) : Lb) = (sealL (1, zp, 1), 1, 0) := by
    unfold sealS
    rw [if_pos (by decide +kernel)]
    rfl
  rw [h2] at h1
  exact ⟨_, h1, seal_len _⟩
theorem LabelBack : S.LabelBack := by
  intro a p q ha hp hq
  refine ⟨3000, ?_⟩
  have hs : Bytes a.2.1.2.2.2.2.1 := bytes_of ha.2.1.2.2.2.2
  have hc : 0 ≤ a.2.1.2.2.2.1 ∧ a.2.1.2.2.2.1 < 4294967296 := by
    have := ha.2.1.2.2.2.1
    simp only [Lit.wf, IntKind.min, IntKind.max, IntKind.signed, IntKind.bits, Bool.and_eq_true] at this
    simp at this
    omega
  have hq2 : 0 ≤ q ∧ q < 4294967296 := by
    simp only [Lit.wf, IntKind.min, IntKind.max, IntKind.signed, IntKind.bits, Bool.and_eq_true] at hq
    simp at hq
    omega
  obtain ⟨b, rfl⟩ := Int.eq_ofNat_of_zero_le hq2.1
  unfold shadowboxlaw08_LabelBack.f
  rw [Seal_val hs (by omega)]
  simp only [Option.bind_some]
  by_cases h : lrightB a = true
  · have e : sealS a = (sealL a, Int.tmod a.1 2, 0) := by unfold sealS; rw [if_pos h]
    have hsl := seal_len a
    have hsb := seal_bytes hs
    have ho := open_seal hs hc h [7]
    have hbk := @back_one a hs hc h
    rw [e]
    generalize sealL a = s at *
    rw [if_pos rfl]
    unfold shadowboxlaw08_LabelBack.jo1
    rw [if_pos (by show ((s.length : Nat) : Int) = 512; omega)]
    unfold shadowboxlaw08_LabelBack.jo2
    simp only [List.nil_append, lt]
    have h7 : Bytes (s ++ [7]) := hsb.append (fun x hx => by simp at hx; omega)
    rw [if_pos (by simp; omega), if_pos (by simp; omega), Open_val h7 (by simp; omega) (by omega), ho]
    simp only [Option.bind_some]
    have ht := tmod_b p
    rw [wi64 (by omega) (by omega)]
    obtain ⟨n, hn⟩ : ∃ n : Nat, Int.tmod (Int.tmod p 4065 + 4065) 4065 = n ∧ n < 4065 := by
      rw [tm _ (by omega)]
      exact ⟨((Int.tmod p 4065 + 4065) % 4065).toNat, by omega, by omega⟩
    obtain ⟨m, em, hm, hml, hmn⟩ := turn_lo4 s b n _ hn.1 (shadowboxlaw08_LabelBack.jo3 3000 a (b : Int) (s, Int.tmod a.1 2, 0) (a, 0)) (by omega) hsb (by omega) (by omega) 32 0 3000 s (by omega) (by omega) hsb rfl (by simp [Nat.mod_one])
    rw [show ((0 : Nat) : Int) = 0 from rfl] at em
    rw [em]
    obtain ⟨k1, k2⟩ := hbk (by omega) (by omega) hm (by omega) hmn
    unfold shadowboxlaw08_LabelBack.jo3
    rw [Open_val hm (by omega) (by omega)]
    simp only [Option.bind_some]
    rw [if_pos trivial, if_pos (by simp), if_pos trivial]
    by_cases hb0 : b = 0
    · rw [if_pos (by rw [decide_eq_true (k1.2 hb0), decide_eq_true (by omega : (b : Int) = 0)]; rfl), if_pos (by omega)]
    · have h1 : ¬ (openL m).2 = 0 := fun h => hb0 (k1.1 h)
      rw [if_pos (by rw [decide_eq_false h1, decide_eq_false (by omega : ¬ (b : Int) = 0)]; rfl), if_neg (by omega)]
      rcases k2 with k2 | k2 | k2
      · exact absurd k2 h1
      · rw [if_pos k2]
      · rw [if_neg (by omega), decide_eq_true k2]
  · have e : sealS a = ([], 0, 2) := by unfold sealS; rw [if_neg h]
    obtain ⟨s, h1, h2⟩ := ex_101
    rw [e, if_neg (by show ¬ (2 : Int) = 0; omega)]
    rw [show label_Seal.f 3000 ((1 : Int), ((0 : Int), (0 : Int), (0 : Int), (0 : Int), (vrep 32 (0 : Int))), (1 : Int)) = some (s, 1, 0) from h1]
    simp only [Option.bind_some]
    simp [h2]
end Go.Proofs.Ytnjijflgafghmaa.Pure
