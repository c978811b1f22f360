/- The pure statement of RecordBack; no condition. -/
import Derived.Test.YthhhkphbhlafbaaSRecordBack
import Derived.Test.YthhhkphbhlafbaaRfw
set_option linter.unusedVariables false
set_option linter.unusedSimpArgs false
namespace Go.Proofs.Ythhhkphbhlafbaa.Pure
open Go Go.RowKit Go.Proofs.Ythhhkphbhlafbaa.Sx Go.Proofs.Ythhhkphbhlafbaa.G Go.Proofs.Ythhhkphbhlafbaa.Bt Go.Proofs.Ythhhkphbhlafbaa.Rcd Go.Proofs.Ythhhkphbhlafbaa.Rcv Go.Proofs.Ythhhkphbhlafbaa.Rrd Go.Proofs.Ythhhkphbhlafbaa.Rfw
/-! ### Keys -/
def beL : Nat → Int → List Int
  | 0, _ => []
  | j + 1, v => (v / 256 ^ j % 256) :: beL j v
theorem beL_length : ∀ (j : Nat) (v : Int), (beL j v).length = j
  | 0, _ => rfl
  | j + 1, v => by simp [beL, beL_length j v]
theorem beL_get : ∀ (j i : Nat) (v : Int), i < j → (beL j v).getD i 0 = v / 256 ^ (j - 1 - i) % 256
  | 0, i, v, h => by omega
  | j + 1, 0, v, h => by simp [beL]
  | j + 1, i + 1, v, h => by
    rw [beL, List.getD_cons_succ, beL_get j i v (by omega), show j + 1 - 1 - (i + 1) = j - 1 - i by omega]
theorem key_lo1 (v : Int) : ∀ (j k : Nat) (m : List Int), j ≤ 8 → j < k → m.length + j ≤ 100000 → record_Key.lo1 v k m ((j : Int) - 1) = some (m ++ beL j v) := by
  intro j
  induction j with
  | zero =>
    intro k m h1 h2 h3
    obtain ⟨k, rfl⟩ : ∃ k', k = k' + 1 := ⟨k - 1, by omega⟩
    rw [record_Key.lo1, if_neg (by omega)]
    simp [beL]
  | succ j ih =>
    intro k m h1 h2 h3
    obtain ⟨k, rfl⟩ : ∃ k', k = k' + 1 := ⟨k - 1, by omega⟩
    rw [record_Key.lo1, if_pos (by omega), show (((j + 1 : Nat) : Int) - 1) = (j : Int) by omega, wi64 (n := 8 * (j : Int)) (by omega) (by omega), if_pos (by omega)]
    simp only [lt]
    have hs : shrv .u64 v (8 * (j : Int)) = v / 256 ^ j := by
      unfold shrv
      rw [show min (8 * (j : Int)).toNat (IntKind.bits .u64) = 8 * j by show min _ 64 = _; omega, fd _ (Int.le_of_lt (Int.pow_pos (by decide))), Int.pow_mul]
      rfl
    rw [if_pos (by simp; omega), hs, wu8, wi64 (by omega) (by omega), ih k _ (by omega) (by omega) (by simp; omega)]
    simp [beL]
def pre (a : ByteArray) : List Int := ([(111 : Int)] ++ bl a) ++ [(0 : Int)]
theorem pre_len (a : ByteArray) : (pre a).length = a.size + 2 := by
  unfold pre
  rw [List.length_append, List.length_append, bl_length]
  show 1 + a.size + 1 = _
  omega
noncomputable def keyS (a : ByteArray) (x : Int) : List Int := pre a ++ beL 8 (4611686018427387904 - x)
theorem key_val {a : ByteArray} (ha : a.size ≤ 1000) {x : Int} (hx : 1 ≤ x ∧ x ≤ 1152921504606846976) {k : Nat} (hk : 20 ≤ k) : record_Key.f k a x = some (keyS a x) := by
  unfold record_Key.f record_Prefix.f
  rw [if_pos (by show 1 + a.size ≤ _; omega), if_pos (by rw [List.length_append, bl_length]; show (1 + a.size + 1) * 1 ≤ _; omega)]
  simp only [Option.bind_some, lt]
  rw [wu64, wu64, show (4611686018427387904 - x % 18446744073709551616) % 18446744073709551616 = 4611686018427387904 - x by omega]
  exact key_lo1 _ 8 k (pre a) (by omega) (by omega) (by rw [pre_len]; omega)
theorem or8 {q y : Int} (hq : 0 ≤ q) (hq2 : q < 72057594037927936) (h0 : 0 ≤ y) (h1 : y < 256) : bits .or .u64 (q * 256) y = q * 256 + y := by
  obtain ⟨m, rfl⟩ := Int.eq_ofNat_of_zero_le hq
  obtain ⟨n, rfl⟩ := Int.eq_ofNat_of_zero_le h0
  rw [show ((m : Int) * 256) = ((m * 256 : Nat) : Int) by simp, or_u .u64 rfl _ _ (by simp only [IntKind.bits]; omega) (by simp only [IntKind.bits]; omega), Nat.or_comm, show m * 256 = m * 2 ^ 8 from rfl, or_add (by omega)]
  omega
theorem split_lo2 {a : ByteArray} (ha : a.size ≤ 1000) {x : Int} (hx : 1 ≤ x ∧ x ≤ 1152921504606846976) : ∀ (j i k : Nat), i + j = 8 → j < k → record_split.lo2 (keyS a x) ((a.size : Int) + 2) (beL 8 (4611686018427387904 - x)) k ((4611686018427387904 - x) / 256 ^ j) (i : Int) = some (a, x) := by
  generalize hn : (4611686018427387904 : Int) - x = n
  intro j
  induction j with
  | zero =>
    intro i k hi hk
    obtain ⟨k, rfl⟩ : ∃ m, k = m + 1 := ⟨k - 1, by omega⟩
    have hlen : (keyS a x).length = a.size + 10 := by rw [keyS, List.length_append, pre_len, beL_length]
    rw [record_split.lo2, if_neg (by rw [beL_length]; omega), wi64 (n := (a.size : Int) + 2 - 1) (by omega) (by omega), if_pos (by omega), if_pos (by omega), if_pos (by omega)]
    simp only [lt]
    rw [show n / 256 ^ 0 = n by simp, wu64, show (4611686018427387904 - n) % 18446744073709551616 = x by omega, wi64 (by omega) (by omega)]
    have e : ((keyS a x).take ((a.size : Int) + 2 - 1).toNat).drop (1 : Int).toNat = bl a := by
      rw [show ((a.size : Int) + 2 - 1).toNat = a.size + 1 by omega, keyS, pre, List.append_assoc, List.take_append_of_le_length (by rw [List.length_append, bl_length]; show a.size + 1 ≤ 1 + a.size; omega), List.take_of_length_le (by rw [List.length_append, bl_length]; show 1 + a.size ≤ a.size + 1; omega)]
      rfl
    rw [e, str_bl]
  | succ j ih =>
    intro i k hi hk
    obtain ⟨k, rfl⟩ : ∃ m, k = m + 1 := ⟨k - 1, by omega⟩
    rw [record_split.lo2, if_pos (by rw [beL_length]; omega), if_pos (by omega), Int.toNat_natCast, beL_get _ _ _ (by omega)]
    simp only [lt]
    rw [show 8 - 1 - i = j by omega]
    have hp : (0 : Int) < 256 ^ j := Int.pow_pos (by decide)
    have h0 : 0 ≤ n / 256 ^ j := Int.ediv_nonneg (by omega) (Int.le_of_lt hp)
    have h1 : n / 256 ^ j ≤ n := Int.ediv_le_self _ (by omega)
    have e : n / 256 ^ (j + 1) = n / 256 ^ j / 256 := by rw [Int.pow_succ, dd (Int.le_of_lt hp)]
    rw [e]
    have := ih (i + 1) k (by omega) (by omega)
    generalize n / 256 ^ j = q at *
    rw [wu64, wu64, show q / 256 * 256 % 18446744073709551616 = q / 256 * 256 by omega, show q % 256 % 18446744073709551616 = q % 256 by omega, or8 (by omega) (by omega) (by omega) (by omega), show q / 256 * 256 + q % 256 = q by omega, wi64 (by omega) (by omega)]
    exact this
theorem split_val {a : ByteArray} (ha : a.size ≤ 1000) {x : Int} (hx : 1 ≤ x ∧ x ≤ 1152921504606846976) {k : Nat} (hk : 20 ≤ k) : record_split.f k (keyS a x) = some (a, x) := by
  have hlen : (keyS a x).length = a.size + 10 := by rw [keyS, List.length_append, pre_len, beL_length]
  unfold record_split.f record_split.jo1
  simp only [lt]
  rw [hlen, wi64 (n := ((a.size + 10 : Nat) : Int) - 8) (by omega) (by omega), wi64 (n := ((a.size + 10 : Nat) : Int) - 8 - 1) (by omega) (by omega), if_neg (by omega), wi64 (by omega) (by omega), if_pos (by omega), if_pos (by omega)]
  rw [show (((a.size + 10 : Nat) : Int) - 8 - 1 + 1).toNat = (pre a).length by rw [pre_len]; omega, show (keyS a x).drop (pre a).length = beL 8 (4611686018427387904 - x) by rw [keyS, List.drop_left]]
  have := split_lo2 ha hx 8 0 k (by omega) (by omega)
  have hp : (256 : Int) ^ 8 = 18446744073709551616 := by decide
  rw [hp, show (4611686018427387904 - x) / 18446744073709551616 = 0 by omega] at this
  rw [show ((a.size + 10 : Nat) : Int) - 8 = (a.size : Int) + 2 by omega]
  exact this
theorem bt_at (a : ByteArray) (i : Nat) (h : i < a.size) : bt a (i : Int) = ((a[i]!).toNat : Int) := by
  rw [getElem!_pos a i h]
  have hi : i < a.data.toList.length := by simp only [Array.length_toList]; exact h
  simp only [bt, bl, Int.toNat_natCast, List.getD_eq_getElem?_getD, List.getElem?_map, List.getElem?_eq_getElem hi, Option.map_some, Option.getD_some]
  rfl
theorem idx_none {a : ByteArray} (h : ∀ i : Nat, i < a.size → bt a (i : Int) ≠ 0) : byidx (bl a) 0 = -1 := by
  unfold byidx firstIdx
  rw [str_bl]
  have : (List.range a.size).find? (fun i => a[i]! == (0 : Int).toNat.toUInt8) = none := by
    rw [List.find?_eq_none]
    intro i hi
    have hi := List.mem_range.1 hi
    have h1 := h i hi
    rw [bt_at a i hi] at h1
    intro e
    have e := eq_of_beq e
    rw [e] at h1
    exact h1 rfl
  rw [this]
theorem Split_val {a : ByteArray} (ha : a.size ≤ 1000) (hz : ∀ i : Nat, i < a.size → bt a (i : Int) ≠ 0) {x : Int} (hx : 1 ≤ x ∧ x ≤ 1152921504606846976) {k : Nat} (hk : 20 ≤ k) : record_Split.f k (keyS a x) = some (a, x, true) := by
  unfold record_Split.f
  rw [split_val ha hx hk]
  simp only [Option.bind_some]
  rw [if_neg (by simp; omega), within_val, decide_eq_true hx]
  simp only [Option.bind_some]
  rw [if_pos True.intro]
  unfold bytes_IndexByte.f
  rw [idx_none hz]
  simp only [Option.bind_some]
  rw [if_neg (by decide), key_val ha hx hk]
  simp only [Option.bind_some, bytes_Equal.f]
  rw [if_pos (by simp)]
/-! ### The law -/
theorem back_lo6 (a : Ver) (hl : a.2.2.2.2.2.2.length ≤ 1000) (e : Int) (J : Option Bool) (hJ : J = some true) : ∀ (j i k : Nat), i + j = a.2.2.2.2.2.2.length → j < k → shadowboxlaw36_RecordBack.lo6 a (a, e) J k (i : Int) = some true := by
  intro j
  induction j with
  | zero =>
    intro i k hi hk
    obtain ⟨k, rfl⟩ : ∃ m, k = m + 1 := ⟨k - 1, by omega⟩
    rw [shadowboxlaw36_RecordBack.lo6, if_neg (by omega)]
    exact hJ
  | succ j ih =>
    intro i k hi hk
    obtain ⟨k, rfl⟩ : ∃ m, k = m + 1 := ⟨k - 1, by omega⟩
    rw [shadowboxlaw36_RecordBack.lo6, if_pos (by omega), if_pos (by omega), if_pos (by show (i : Int) < (a.2.2.2.2.2.2.length : Int); omega), if_pos (by simp), wi64 (by omega) (by omega)]
    exact ih (i + 1) k (by omega) (by omega)
theorem back_jo3 {a : Ver} (ha : rok a = true) {s : ByteArray} (hs : s.size ≤ 300) (hz : ∀ i : Nat, i < s.size → bt s (i : Int) ≠ 0) {k : Nat} (hk : 1000 ≤ k) : shadowboxlaw36_RecordBack.jo3 k a s (enc a, 0) = some true := by
  obtain ⟨hsm, r1, _, _, _, h8, h4⟩ := rok_small ha
  have e1 := read_back ha Bytes.nil (by simp) (k := k) (by omega)
  rw [List.append_nil, jo1_back (by omega) ha] at e1
  have b0 : Bytes [0] := Bytes.cons (by decide) (by decide) Bytes.nil
  have e2 := read_back ha b0 (by simp) (k := k) (by omega)
  obtain ⟨r, e3, _, hr⟩ := jo1_some (k := k) (by omega) ((enc_bytes hsm).append b0) [0] false (v := a) (by omega)
  rw [e3] at e2
  have hr : r = (zero, 11) := by
    rcases hr with h | h
    · cases h
    · exact h
  subst hr
  unfold shadowboxlaw36_RecordBack.jo3
  simp only
  rw [e1]
  simp only [Option.bind_some, List.nil_append]
  rw [if_pos (by simp; omega), if_pos (by simp; omega), e2]
  simp only [Option.bind_some]
  rw [key_val (by omega) r1 (by omega)]
  simp only [Option.bind_some]
  rw [Split_val (by omega) hz r1 (by omega)]
  simp only [Option.bind_some]
  rw [if_pos True.intro, if_pos True.intro, if_pos True.intro, if_pos (by simp), if_pos True.intro, if_pos True.intro]
  unfold shadowboxlaw36_RecordBack.jo4
  refine back_lo6 a (by omega) 0 _ ?_ a.2.2.2.2.2.2.length 0 k (by omega) (by omega)
  unfold shadowboxlaw36_RecordBack.jo5
  simp only
  rw [if_pos True.intro, if_pos True.intro, if_pos True.intro, if_pos True.intro, if_pos (by simp)]
  simp
theorem back_jo2 {a : Ver} (ha : a.2.2.2.2.2.2.length ≤ 1000) {s : ByteArray} (hs : s.size ≤ 300) (hz : ∀ i : Nat, i < s.size → bt s (i : Int) ≠ 0) {k : Nat} (hk : 2000 ≤ k) : shadowboxlaw36_RecordBack.jo2 k a s = some true := by
  unfold shadowboxlaw36_RecordBack.jo2
  rw [show record_Put.f k (a.1, a.2.1, a.2.2.1, a.2.2.2.1, a.2.2.2.2.1, a.2.2.2.2.2.1, a.2.2.2.2.2.2) = some (putS a) from put_val (a := a) (by omega) (by omega)]
  simp only [Option.bind_some, putS]
  by_cases h : rok a = true
  · rw [if_pos h]
    simp only
    rw [if_pos True.intro]
    exact back_jo3 h hs hz (by omega)
  · rw [if_neg h]
    simp only
    rw [if_neg (by decide), put_val (by simp) (by simp; omega)]
    simp only [Option.bind_some, putS]
    rw [if_pos (rok_one (.inl rfl))]
    simp only
    rw [if_pos (by decide), if_pos True.intro, enc_one (by decide) (by decide)]
    rfl
theorem back_lo7 (s : ByteArray) (hs : s.size ≤ 300) (J : Option Bool) (hJ : (∀ i : Nat, i < s.size → bt s (i : Int) ≠ 0) → J = some true) : ∀ (j i k : Nat), i + j = s.size → j < k → (∀ m : Nat, m < i → bt s (m : Int) ≠ 0) → shadowboxlaw36_RecordBack.lo7 s J k (i : Int) = some true := by
  intro j
  induction j with
  | zero =>
    intro i k hi hk h
    obtain ⟨k, rfl⟩ : ∃ m, k = m + 1 := ⟨k - 1, by omega⟩
    rw [shadowboxlaw36_RecordBack.lo7, if_neg (by omega)]
    exact hJ fun m hm => h m (by omega)
  | succ j ih =>
    intro i k hi hk h
    obtain ⟨k, rfl⟩ : ∃ m, k = m + 1 := ⟨k - 1, by omega⟩
    rw [shadowboxlaw36_RecordBack.lo7, if_pos (by omega), if_pos (by omega)]
    by_cases hz : bt s (i : Int) = 0
    · rw [if_pos hz]
    · rw [if_neg hz, wi64 (by omega) (by omega)]
      refine ih (i + 1) k (by omega) (by omega) fun m hm => ?_
      by_cases e : m = i
      · subst e; exact hz
      · exact h m (by omega)
theorem RecordBack : S.RecordBack := by
  intro a s ha h1
  have hl : a.2.2.2.2.2.2.length ≤ 9223372036854775807 := ha.2.2.2.2.2.2.1
  refine ⟨a.2.2.2.2.2.2.length + 5000, ?_⟩
  generalize hk : a.2.2.2.2.2.2.length + 5000 = k
  unfold shadowboxlaw36_RecordBack.f
  obtain ⟨b, e, hb⟩ := few_val hl (k := k) (by omega)
  rw [show shadowboxlaw36_few.f k (a.1, a.2.1, a.2.2.1, a.2.2.2.1, a.2.2.2.2.1, a.2.2.2.2.2.1, a.2.2.2.2.2.2) = some b from e]
  simp only [Option.bind_some]
  cases b
  case false => rfl
  rw [if_pos rfl]
  have hm := hb rfl
  by_cases h9 : (s.size : Int) > 300
  · rw [if_pos h9]
  rw [if_neg h9]
  unfold shadowboxlaw36_RecordBack.jo1
  exact back_lo7 s (by omega) _ (fun hz => back_jo2 (by omega) (by omega) hz (by omega)) s.size 0 k (by omega) (by omega) (fun m hm => by omega)
end Go.Proofs.Ythhhkphbhlafbaa.Pure
