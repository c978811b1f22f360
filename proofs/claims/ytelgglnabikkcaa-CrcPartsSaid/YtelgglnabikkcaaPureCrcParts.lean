/- CrcParts: the sum of bytes in two parts is the whole's, going on, and joined from the parts' sums. -/
import Derived.Test.YtelgglnabikkcaaSCrcParts
import Derived.Test.YtelgglnabikkcaaCrc
namespace Go.Proofs.Ytelgglnabikkcaa.Pure
open Go Go.RowKit Go.Proofs.Ytelgglnabikkcaa.Sx Go.Proofs.Ytelgglnabikkcaa.G Go.Proofs.Ytelgglnabikkcaa.Bt Go.Proofs.Ytelgglnabikkcaa.Crc
/-- A row of 32 sums that tells a linear step. -/
structure IsM (m : Vc Int 32) (L : Nat → Nat) : Prop where
  lin : ∀ a b, L (a ^^^ b) = L a ^^^ L b
  lt : ∀ {a}, a < 2 ^ 32 → L a < 2 ^ 32
  row : ∀ k, k < 32 → m.1.getD k 0 = (L (2 ^ k) : Int)
theorem IsM.zero {m : Vc Int 32} {L : Nat → Nat} (h : IsM m L) : L 0 = 0 := by
  have := h.lin 0 0
  rw [Nat.xor_self, Nat.xor_self] at this
  exact this
theorem shr_bit {b i : Nat} (hb : b < 2 ^ 32) (hi : i < 32) : bits .and .u32 (shrv .u32 (b : Int) (i : Int)) 1 = ((b / 2 ^ i % 2 : Nat) : Int) := by
  unfold shrv
  rw [Int.toNat_natCast, show min i (IntKind.bits .u32) = i by simp [IntKind.bits]; omega, fd _ (Int.le_of_lt (Int.pow_pos (by decide))), show ((b : Int) / 2 ^ i) = ((b / 2 ^ i : Nat) : Int) by simp]
  have hlt : b / 2 ^ i < 2 ^ 32 := Nat.lt_of_le_of_lt (Nat.div_le_self _ _) hb
  have := and_u .u32 rfl (b / 2 ^ i) 1 (by simpa [IntKind.bits] using hlt) (by simp [IntKind.bits])
  rw [show ((1 : Nat) : Int) = 1 from rfl] at this
  rw [this, Nat.and_one_is_mod]
theorem mod_succ (b i : Nat) : b % 2 ^ (i + 1) = (b % 2 ^ i) ^^^ (b / 2 ^ i % 2 * 2 ^ i) := by
  rw [xor_add (Nat.mod_lt _ (Nat.pow_pos (by decide))), Nat.pow_succ, Nat.mod_mul, Nat.mul_comm]
theorem of_loop {m : Vc Int 32} {L : Nat → Nat} (h : IsM m L) {s : Nat} (hs : s < 2 ^ 32) : ∀ (j i k : Nat), i + j = 32 → j < k → crc_shift_of.l1 m (s : Int) k ((L (s % 2 ^ i) : Nat) : Int) (i : Int) = some ((L s : Nat) : Int) := by
  intro j
  induction j with
  | zero =>
    intro i k hi hk
    obtain ⟨k, rfl⟩ : ∃ q, k = q + 1 := ⟨k - 1, by omega⟩
    unfold crc_shift_of.l1
    have h32 : i = 32 := by omega
    subst h32
    rw [if_neg (by omega), Nat.mod_eq_of_lt hs]
  | succ j ih =>
    intro i k hi hk
    obtain ⟨k, rfl⟩ : ∃ q, k = q + 1 := ⟨k - 1, by omega⟩
    have hle : s % 2 ^ i < 2 ^ 32 := Nat.lt_of_le_of_lt (Nat.mod_le _ _) hs
    have hp : 2 ^ i < 2 ^ 32 := Nat.pow_lt_pow_right (by decide) (by omega)
    unfold crc_shift_of.l1
    rw [if_pos (by omega), if_pos (by omega), shr_bit hs (by omega)]
    simp only [lt]
    rw [wi64 (by omega) (by omega), show (i : Int) + 1 = ((i + 1 : Nat) : Int) by omega]
    have hm := mod_succ s i
    by_cases hb : s / 2 ^ i % 2 = 1
    · rw [if_pos (by omega), Int.toNat_natCast, h.row i (by omega), xor32 _ _ (h.lt hle) (h.lt hp), ← h.lin]
      rw [hb, Nat.one_mul] at hm
      rw [← hm]
      exact ih (i + 1) k (by omega) (by omega)
    · rw [if_neg (by omega)]
      rw [show s / 2 ^ i % 2 = 0 by omega, Nat.zero_mul, Nat.xor_zero] at hm
      rw [← hm]
      exact ih (i + 1) k (by omega) (by omega)
theorem of_val {m : Vc Int 32} {L : Nat → Nat} (h : IsM m L) {s : Nat} (hs : s < 2 ^ 32) {k : Nat} (hk : 32 < k) : crc_shift_of.f k m (s : Int) = some ((L s : Nat) : Int) := by
  have := of_loop h hs 32 0 k (by omega) hk
  rw [Nat.pow_zero, Nat.mod_one, h.zero] at this
  exact this
theorem vset_get {n : Nat} (m : Vc Int n) (i j : Nat) (x : Int) (hi : i < n) : (vset m i x).1.getD j 0 = if j = i then x else m.1.getD j 0 := by
  have := m.2
  simp only [vset, List.getD_eq_getElem?_getD, List.getElem?_set]
  by_cases h : i = j
  · subst h
    simp [show i < m.1.length by omega]
  · rw [if_neg h, if_neg (fun e => h e.symm)]
theorem twice_loop {m : Vc Int 32} {L : Nat → Nat} (h : IsM m L) : ∀ (j i k : Nat) (q : Vc Int 32), i + j = 32 → j + 33 < k → (∀ u, u < i → q.1.getD u 0 = (L (L (2 ^ u)) : Int)) → ∃ r, crc_shift_twice.l1 m k (i : Int) q = some r ∧ IsM r (fun n => L (L n)) := by
  intro j
  induction j with
  | zero =>
    intro i k q hi hk hq
    obtain ⟨k, rfl⟩ : ∃ q, k = q + 1 := ⟨k - 1, by omega⟩
    unfold crc_shift_twice.l1
    have h32 : i = 32 := by omega
    subst h32
    rw [if_neg (by omega)]
    exact ⟨q, rfl, fun a b => by rw [h.lin, h.lin], fun ha => h.lt (h.lt ha), hq⟩
  | succ j ih =>
    intro i k q hi hk hq
    obtain ⟨k, rfl⟩ : ∃ q, k = q + 1 := ⟨k - 1, by omega⟩
    have hp : 2 ^ i < 2 ^ 32 := Nat.pow_lt_pow_right (by decide) (by omega)
    unfold crc_shift_twice.l1
    rw [if_pos (by omega), if_pos (by omega), Int.toNat_natCast, h.row i (by omega), of_val h (h.lt hp) (by omega)]
    simp only [Option.bind_some, lt]
    rw [wi64 (by omega) (by omega), show (i : Int) + 1 = ((i + 1 : Nat) : Int) by omega]
    refine ih (i + 1) k _ (by omega) (by omega) (fun u hu => ?_)
    rw [vset_get _ _ _ _ (by omega)]
    by_cases e : u = i
    · subst e; rw [if_pos rfl]
    · rw [if_neg e]; exact hq u (by omega)
theorem twice_val {m : Vc Int 32} {L : Nat → Nat} (h : IsM m L) {k : Nat} (hk : 66 < k) : ∃ r, crc_shift_twice.f k m = some r ∧ IsM r (fun n => L (L n)) := twice_loop h 32 0 k _ (by omega) (by omega) (fun u hu => by omega)
theorem one_shl {i : Nat} (h : i < 32) : shlv .u32 (1 : Int) (i : Int) = ((2 ^ i : Nat) : Int) := by
  unfold shlv
  rw [Int.toNat_natCast, show min i (IntKind.bits .u32) = i by simp [IntKind.bits]; omega, wu32, Int.one_mul]
  have hp : 2 ^ i < 2 ^ 32 := Nat.pow_lt_pow_right (by decide) h
  have e : ((2 : Int) ^ i) = ((2 ^ i : Nat) : Int) := by simp
  rw [e]
  generalize 2 ^ i = q at hp ⊢
  omega
theorem half_eq {n : Nat} (h : n < 2 ^ 32) : bits .xor .u32 (Int.fdiv (n : Int) 16) (crc_halves.cst0.1.getD (bits .and .u32 (n : Int) 15).toNat 0) = ((T 4 n : Nat) : Int) := by
  rw [and15 n h, Int.toNat_natCast, tab_val (by omega), fd16, xor32 _ _ (by omega) (T_lt 4 (by omega)), ← T4]
theorem byte_loop : ∀ (j i k : Nat) (q : Vc Int 32), i + j = 32 → j < k → (∀ u, u < i → q.1.getD u 0 = (T 8 (2 ^ u) : Int)) → ∃ r, crc_byteShift.l1 crc_halves.cst0 k (i : Int) q = some r ∧ IsM r (T 8) := by
  intro j
  induction j with
  | zero =>
    intro i k q hi hk hq
    obtain ⟨k, rfl⟩ : ∃ q, k = q + 1 := ⟨k - 1, by omega⟩
    unfold crc_byteShift.l1
    have h32 : i = 32 := by omega
    subst h32
    rw [if_neg (by omega)]
    exact ⟨q, rfl, fun a b => T_xor 8 a b, fun ha => T_lt 8 ha, hq⟩
  | succ j ih =>
    intro i k q hi hk hq
    obtain ⟨k, rfl⟩ : ∃ q, k = q + 1 := ⟨k - 1, by omega⟩
    have hp : 2 ^ i < 2 ^ 32 := Nat.pow_lt_pow_right (by decide) (by omega)
    have h4 : T 4 (2 ^ i) < 2 ^ 32 := T_lt 4 hp
    unfold crc_byteShift.l1
    rw [if_pos (by omega), if_pos (by omega), one_shl (by omega)]
    simp only [lt]
    rw [half_eq hp, half_eq h4]
    have a1 := and15 (2 ^ i) hp
    have a2 := and15 (T 4 (2 ^ i)) h4
    rw [if_pos (by omega), if_pos (by omega), if_pos (by omega), if_pos (by omega), Int.toNat_natCast, wi64 (by omega) (by omega), show (i : Int) + 1 = ((i + 1 : Nat) : Int) by omega]
    refine ih (i + 1) k _ (by omega) (by omega) (fun u hu => ?_)
    rw [vset_get _ _ _ _ (by omega)]
    by_cases e : u = i
    · subst e
      rw [if_pos rfl, ← T_add]
    · rw [if_neg e]; exact hq u (by omega)
theorem byte_val {k : Nat} (hk : 32 < k) : ∃ r, crc_byteShift.f k = some r ∧ IsM r (T 8) := by
  unfold crc_byteShift.f crc_halves.f
  simp only [Option.bind_some]
  exact byte_loop 32 0 k _ (by omega) hk (fun u hu => by omega)
theorem and_i64_one (n : Nat) (h : n < 9223372036854775808) : bits .and .i64 (n : Int) 1 = ((n % 2 : Nat) : Int) := by
  have e1 : (1 : Int) = ((1 : Nat) : Int) := rfl
  rw [e1]
  simp only [bits, bvi, BitVec.toNat_and, BitVec.toNat_ofNat]
  rw [show IntKind.bits .i64 = 64 from rfl, Nat.mod_eq_of_lt (show n < 2 ^ 64 by omega), Nat.mod_eq_of_lt (show 1 < 2 ^ 64 by decide), Nat.and_one_is_mod]
  exact wi64 (by omega) (by omega)
theorem shr_i64 {n i : Nat} (hi : i < 63) : shrv .i64 (n : Int) (i : Int) = ((n / 2 ^ i : Nat) : Int) := by
  unfold shrv
  rw [Int.toNat_natCast, show min i (IntKind.bits .i64) = i by simp [IntKind.bits]; omega, fd _ (Int.le_of_lt (Int.pow_pos (by decide)))]
  simp
theorem join_loop {a b n : Nat} (ha : a < 2 ^ 32) (hb : b < 2 ^ 32) (hn : n < 9223372036854775808) : ∀ (j i k : Nat) (m : Vc Int 32), i + j = 63 → j + 70 < k → IsM m (T (8 * 2 ^ i)) →
    crc_Join.l1 (b : Int) (n : Int) k ((T (8 * (n % 2 ^ i)) a : Nat) : Int) (i : Int) m = some ((T (8 * n) a ^^^ b : Nat) : Int) := by
  intro j
  induction j with
  | zero =>
    intro i k m hi hk hm
    obtain ⟨k, rfl⟩ : ∃ q, k = q + 1 := ⟨k - 1, by omega⟩
    unfold crc_Join.l1
    have h63 : i = 63 := by omega
    subst h63
    rw [if_neg (by omega), Nat.mod_eq_of_lt (by omega), xor32 _ _ (T_lt _ ha) hb]
  | succ j ih =>
    intro i k m hi hk hm
    obtain ⟨k, rfl⟩ : ∃ q, k = q + 1 := ⟨k - 1, by omega⟩
    unfold crc_Join.l1
    rw [if_pos (by omega), if_pos (by omega), shr_i64 (by omega)]
    by_cases hz : n / 2 ^ i = 0
    · rw [if_pos (by omega)]
      have : n < 2 ^ i := by
        rcases Nat.div_eq_zero_iff.1 hz with h | h
        · have := Nat.pow_pos (n := i) (show 0 < 2 by decide); omega
        · exact h
      rw [Nat.mod_eq_of_lt this, xor32 _ _ (T_lt _ ha) hb]
    · rw [if_neg (by omega), and_i64_one _ (Nat.lt_of_le_of_lt (Nat.div_le_self _ _) hn)]
      simp only [lt]
      rw [wi64 (by omega) (by omega), show (i : Int) + 1 = ((i + 1 : Nat) : Int) by omega]
      obtain ⟨r, hr, hR⟩ := twice_val hm (k := k) (by omega)
      have hR' : IsM r (T (8 * 2 ^ (i + 1))) := by
        have e : (fun n => T (8 * 2 ^ i) (T (8 * 2 ^ i) n)) = T (8 * 2 ^ (i + 1)) := by
          funext n
          rw [← T_add]
          congr 1
          rw [Nat.pow_succ]
          omega
        rw [← e]
        exact hR
      have hmod : n % 2 ^ (i + 1) = n % 2 ^ i + n / 2 ^ i % 2 * 2 ^ i := by rw [Nat.pow_succ, Nat.mod_mul, Nat.mul_comm]
      by_cases hbit : n / 2 ^ i % 2 = 1
      · rw [if_pos (by omega), of_val hm (T_lt _ ha) (by omega), hr]
        simp only [Option.bind_some]
        rw [← T_add]
        have e : 8 * (n % 2 ^ i) + 8 * 2 ^ i = 8 * (n % 2 ^ (i + 1)) := by rw [hmod, hbit]; omega
        rw [e]
        exact ih (i + 1) k r (by omega) (by omega) hR'
      · rw [if_neg (by omega), hr]
        simp only [Option.bind_some]
        have e : n % 2 ^ i = n % 2 ^ (i + 1) := by rw [hmod, show n / 2 ^ i % 2 = 0 by omega]; omega
        rw [e]
        exact ih (i + 1) k r (by omega) (by omega) hR'
theorem Join_val {a b n : Nat} (ha : a < 2 ^ 32) (hb : b < 2 ^ 32) (h1 : 1 ≤ n) (hn : n < 9223372036854775808) {k : Nat} (hk : 140 < k) : crc_Join.f k (a : Int) (b : Int) (n : Int) = some ((T (8 * n) a ^^^ b : Nat) : Int) := by
  unfold crc_Join.f
  obtain ⟨r, hr, hR⟩ := byte_val (k := k) (by omega)
  rw [if_neg (by omega), hr]
  simp only [Option.bind_some]
  have := join_loop ha hb hn 63 0 k r (by omega) (by omega) (by simpa using hR)
  rw [Nat.pow_zero, Nat.mod_one] at this
  exact this
theorem Join_none {a b k : Nat} : crc_Join.f k (a : Int) (b : Int) ((0 : Nat) : Int) = some (a : Int) := by
  unfold crc_Join.f
  rw [if_pos (by omega)]
theorem xx (a c : Nat) : a ^^^ c ^^^ c = a := by rw [Nat.xor_assoc, Nat.xor_self, Nat.xor_zero]
theorem go_on (l m : List Int) (hl : By l) : goS (goS 0 l) m = goS 0 (l ++ m) := by
  unfold goS
  rw [xx, F_append _ _ _ hl]
theorem F_lin (a b : Nat) (l : List Int) : F (a ^^^ b) l = T (8 * l.length) a ^^^ F b l := by
  unfold F
  rw [Nat.xor_assoc, T_xor]
theorem joined (l m : List Int) (hl : By l) : T (8 * m.length) (goS 0 l) ^^^ goS 0 m = goS 0 (l ++ m) := by
  rw [← go_on l m hl]
  generalize goS 0 l = a
  unfold goS
  rw [F_lin a 4294967295 m, Nat.zero_xor, Nat.xor_assoc]
theorem sum_a : crc_Sum.f 5000 ([(97 : Int)]) = some 3251651376 := by
  rw [Sum_val (fun x hx => by simp at hx; omega) (by simp) (by simp)]
  decide +kernel
theorem By.app {l m : List Int} (h : By l) (h' : By m) : By (l ++ m) := fun x hx => (List.mem_append.1 hx).elim (h x) (h' x)
theorem CrcParts : S.CrcParts := by
  intro l0 l1 hl0 hb0 hl1 hb1
  have hb0 := by_of hb0
  have hb1 := by_of hb1
  refine ⟨5000, ?_⟩
  unfold shadowboxlaw02_CrcParts.f
  simp only [lt]
  rw [wi64 (by omega) (by omega)]
  by_cases h : (l0.length : Int) + (l1.length : Int) > 4000
  · rw [if_pos h]
  · rw [if_neg h, if_pos (by simp; omega), if_pos (by simp; omega), List.nil_append, Sum_val (By.app hb0 hb1) (by simp; omega) (by simp; omega), Sum_val hb0 (by omega) (by omega), Sum_val hb1 (by omega) (by omega)]
    simp only [Option.bind_some]
    have h0 : goS 0 l0 < 2 ^ 32 := goS_lt (by decide) hb0
    have h1 : goS 0 l1 < 2 ^ 32 := goS_lt (by decide) hb1
    rw [Go_val hb1 (by omega) h0 (by omega), go_on _ _ hb0]
    simp only [Option.bind_some, if_true]
    have hj : crc_Join.f 5000 ((goS 0 l0 : Nat) : Int) ((goS 0 l1 : Nat) : Int) (l1.length : Int) = some ((goS 0 (l0 ++ l1) : Nat) : Int) := by
      by_cases hz : l1.length = 0
      · rw [hz, Join_none, List.eq_nil_of_length_eq_zero hz, List.append_nil]
      · rw [Join_val h0 h1 (by omega) (by omega) (by decide), joined _ _ hb0]
    rw [hj, sum_a]
    simp
end Go.Proofs.Ytelgglnabikkcaa.Pure
