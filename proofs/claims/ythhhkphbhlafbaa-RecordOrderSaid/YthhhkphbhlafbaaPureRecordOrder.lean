/- The pure statement of RecordOrder; no condition. -/
import Derived.Test.YthhhkphbhlafbaaSRecordOrder
import Derived.Test.YthhhkphbhlafbaaBits
set_option linter.unusedVariables false
set_option linter.unusedSimpArgs false
namespace Go.Proofs.Ythhhkphbhlafbaa.Pure
open Go Go.RowKit Go.Proofs.Ythhhkphbhlafbaa.Sx Go.Proofs.Ythhhkphbhlafbaa.G Go.Proofs.Ythhhkphbhlafbaa.Bt
theorem toList_loop (bs : ByteArray) : ∀ (n i : Nat) (r : List UInt8), bs.size - i = n → ByteArray.toList.loop bs i r = r.reverse ++ bs.data.toList.drop i := by
  intro n
  induction n with
  | zero =>
    intro i r h
    rw [ByteArray.toList.loop, if_neg (by omega), List.drop_of_length_le (by simp only [Array.length_toList]; exact Nat.le_of_sub_eq_zero h)]
    simp
  | succ n ih =>
    intro i r h
    have hi : i < bs.data.toList.length := by simp only [Array.length_toList]; exact Nat.lt_of_sub_eq_succ h
    rw [ByteArray.toList.loop, if_pos (by omega), ih (i + 1) _ (by omega), List.drop_eq_getElem_cons hi]
    have hi2 : i < bs.data.size := by simpa using hi
    have : bs.get! i = bs.data.toList[i] := by
      show bs.data[i]! = _
      rw [getElem!_pos bs.data i hi2]
      simp
    rw [this]
    simp
theorem toList_data (bs : ByteArray) : bs.toList = bs.data.toList := by
  have := toList_loop bs bs.size 0 [] (by omega)
  simpa [ByteArray.toList] using this
theorem and_i64 (a : Int) {m : Nat} (hm : m < 2 ^ 63) : 0 ≤ bits .and .i64 a (m : Int) ∧ bits .and .i64 a (m : Int) ≤ m := by
  simp only [bits, bvi]
  have h1 : (BitVec.ofInt IntKind.i64.bits a &&& BitVec.ofNat IntKind.i64.bits m).toNat ≤ m := by
    rw [BitVec.toNat_and]
    refine Nat.le_trans Nat.and_le_right ?_
    simp only [BitVec.toNat_ofNat]
    exact Nat.mod_le _ _
  rw [wi64 (by omega) (by omega)]
  omega
def u8 (l : List Int) : List UInt8 := l.map fun n => UInt8.ofNat n.toNat
theorem son_list (l : List Int) : (strOfNums l).toList = u8 l := by rw [toList_data]; rfl
theorem u8_bl (a : ByteArray) : u8 (bl a) = a.data.toList := by
  simp only [u8, bl, List.map_map]
  rw [List.map_congr_left (g := id) (fun x _ => by simp)]
  simp
theorem u8_app (l m : List Int) : u8 (l ++ m) = u8 l ++ u8 m := by simp [u8]
theorem less_same (C : List UInt8) (D E : List UInt8) : Go.Op.bytesLess (C ++ D) (C ++ E) = Go.Op.bytesLess D E := by
  induction C with
  | nil => rfl
  | cons c C ih => simp [Go.Op.bytesLess, ih]
theorem less_self (C : List UInt8) : Go.Op.bytesLess C C = false := by
  induction C with
  | nil => rfl
  | cons c C ih => simp [Go.Op.bytesLess, ih]
theorem less_nil (C : List UInt8) : Go.Op.bytesLess C [] = false := by cases C <;> rfl
theorem less_zero : ∀ (A B K K' : List UInt8), (0 : UInt8) ∉ A → (0 : UInt8) ∉ B → A ≠ B → Go.Op.bytesLess (A ++ 0 :: K) (B ++ 0 :: K') = Go.Op.bytesLess A B
  | [], [], _, _, _, _, h => absurd rfl h
  | [], b :: B, K, K', _, hB, _ => by
    have hb : b ≠ 0 := fun e => hB (by simp [e])
    have : (0 : UInt8) < b := by
      rcases Nat.eq_zero_or_pos b.toNat with h | h
      · exact absurd (UInt8.toNat_inj.1 (by simpa using h)) hb
      · exact UInt8.lt_iff_toNat_lt.2 (by simpa using h)
    simp [Go.Op.bytesLess, this]
  | a :: A, [], K, K', hA, _, _ => by
    have ha : a ≠ 0 := fun e => hA (by simp [e])
    simp [Go.Op.bytesLess, ha]
  | a :: A, b :: B, K, K', hA, hB, h => by
    by_cases e : a = b
    · subst e
      have := less_zero A B K K' (fun h => hA (by simp [h])) (fun h => hB (by simp [h])) (fun e => h (by rw [e]))
      simp [Go.Op.bytesLess, this]
    · have hb : (a == b) = false := by simpa using e
      simp [Go.Op.bytesLess, hb]
def beL : Nat → Int → List Int
  | 0, _ => []
  | j + 1, v => (v / 256 ^ j % 256) :: beL j v
theorem beL_less : ∀ (j : Nat) (u v : Int), Go.Op.bytesLess (u8 (beL j u)) (u8 (beL j v)) = decide (u % 256 ^ j < v % 256 ^ j)
  | 0, u, v => by simp [beL, u8, Go.Op.bytesLess, Int.emod_one]
  | j + 1, u, v => by
    have ih := beL_less j u v
    have hq : (0 : Int) < 256 ^ j := Int.pow_pos (by decide)
    have eu := em u (a := 256 ^ j) 256 (by omega)
    have ev := em v (a := 256 ^ j) 256 (by omega)
    have hu := Int.emod_nonneg u (show (256 : Int) ^ j ≠ 0 by omega)
    have hu2 := Int.emod_lt_of_pos u hq
    have hv := Int.emod_nonneg v (show (256 : Int) ^ j ≠ 0 by omega)
    have hv2 := Int.emod_lt_of_pos v hq
    simp only [beL, u8, List.map_cons] at ih ⊢
    rw [Int.pow_succ, eu, ev]
    show (decide (UInt8.ofNat (u / 256 ^ j % 256).toNat < UInt8.ofNat (v / 256 ^ j % 256).toNat) || ((UInt8.ofNat (u / 256 ^ j % 256).toNat == UInt8.ofNat (v / 256 ^ j % 256).toNat) && Go.Op.bytesLess _ _)) = _
    rw [ih]
    have hdu : 0 ≤ u / 256 ^ j % 256 ∧ u / 256 ^ j % 256 < 256 := by omega
    have hdv : 0 ≤ v / 256 ^ j % 256 ∧ v / 256 ^ j % 256 < 256 := by omega
    generalize u / 256 ^ j % 256 = du at *
    generalize v / 256 ^ j % 256 = dv at *
    generalize u % 256 ^ j = ru at *
    generalize v % 256 ^ j = rv at *
    generalize (256 : Int) ^ j = q at *
    have hlt : decide (UInt8.ofNat du.toNat < UInt8.ofNat dv.toNat) = decide (du < dv) := by
      apply decide_eq_decide.2
      rw [UInt8.lt_iff_toNat_lt]
      simp
      omega
    have heq : (UInt8.ofNat du.toNat == UInt8.ofNat dv.toNat) = decide (du = dv) := by
      by_cases h : du = dv
      · rw [h]; simp
      · rw [decide_eq_false h, beq_eq_false_iff_ne]
        intro e
        have := congrArg UInt8.toNat e
        simp at this
        omega
    rw [hlt, heq]
    by_cases h1 : du < dv
    · have := Int.mul_le_mul_of_nonneg_left (show du + 1 ≤ dv by omega) (show 0 ≤ q by omega)
      rw [Int.mul_add, Int.mul_one] at this
      rw [decide_eq_true h1, decide_eq_true (show ru + q * du < rv + q * dv by omega)]
      rfl
    · by_cases h2 : du = dv
      · rw [decide_eq_false h1, decide_eq_true h2, h2]
        simp
      · have := Int.mul_le_mul_of_nonneg_left (show dv + 1 ≤ du by omega) (show 0 ≤ q by omega)
        rw [Int.mul_add, Int.mul_one] at this
        rw [decide_eq_false h1, decide_eq_false h2, decide_eq_false (show ¬ ru + q * du < rv + q * dv by omega)]
        rfl
theorem key_lo1 (v : Int) : ∀ (j k : Nat) (m : List Int), j ≤ 8 → j < k → m.length + j ≤ 100000 → record_Key.lo1 v k m ((j : Int) - 1) = some (m ++ beL j v) := by
  intro j
  induction j with
  | zero =>
    intro k m h1 h2 h3
    obtain ⟨k, rfl⟩ : ∃ k', k = k' + 1 := ⟨k - 1, by omega⟩
    rw [record_Key.lo1, if_neg (by omega)]
    simp [beL]
  | succ j ih =>
    intro k m h1 h2 h3
    obtain ⟨k, rfl⟩ : ∃ k', k = k' + 1 := ⟨k - 1, by omega⟩
    rw [record_Key.lo1, if_pos (by omega), show (((j + 1 : Nat) : Int) - 1) = (j : Int) by omega, wi64 (n := 8 * (j : Int)) (by omega) (by omega), if_pos (by omega)]
    simp only [lt]
    have hs : shrv .u64 v (8 * (j : Int)) = v / 256 ^ j := by
      unfold shrv
      rw [show min (8 * (j : Int)).toNat (IntKind.bits .u64) = 8 * j by show min _ 64 = _; omega, fd _ (Int.le_of_lt (Int.pow_pos (by decide))), Int.pow_mul]
      rfl
    rw [if_pos (by simp; omega), hs, wu8, wi64 (by omega) (by omega), ih k _ (by omega) (by omega) (by simp; omega)]
    simp [beL]
def pre (a : ByteArray) : List Int := ([(111 : Int)] ++ bl a) ++ [(0 : Int)]
theorem bl_len (a : ByteArray) : (bl a).length = a.size := by
  unfold bl
  rw [List.length_map, Array.length_toList]
  rfl
theorem pre_len (a : ByteArray) : (pre a).length = a.size + 2 := by
  unfold pre
  rw [List.length_append, List.length_append, bl_len]
  show 1 + a.size + 1 = _
  omega
theorem l1 (a : ByteArray) (h : a.size ≤ 1000) : ([(111 : Int)]).length + a.size ≤ 140737488355328 := by
  show 1 + a.size ≤ _
  omega
theorem l2 (a : ByteArray) (h : a.size ≤ 1000) (z : Int) : (([(111 : Int)] ++ bl a).length + ([z]).length) * 1 ≤ 140737488355328 := by
  rw [List.length_append, bl_len]
  show (1 + a.size + 1) * 1 ≤ _
  omega
theorem key_val {a : ByteArray} (ha : a.size ≤ 1000) {x : Int} (hx : 1 ≤ x ∧ x ≤ 72057594037927936) {k : Nat} (hk : 20 ≤ k) : record_Key.f k a x = some (pre a ++ beL 8 (4611686018427387904 - x)) := by
  unfold record_Key.f record_Prefix.f
  rw [if_pos (l1 a ha), if_pos (l2 a ha 0)]
  simp only [Option.bind_some, lt]
  rw [wu64, wu64, show (4611686018427387904 - x % 18446744073709551616) % 18446744073709551616 = 4611686018427387904 - x by omega]
  exact key_lo1 _ 8 k (pre a) (by omega) (by omega) (by rw [pre_len]; omega)
theorem rec_lo5 (a : ByteArray) (ha : a.size ≤ 1000) (jo : Option Bool) (h : (0 : UInt8) ∉ a.data.toList → jo = some true) : ∀ (j k i : Nat), i + j = a.size → j < k → (0 : UInt8) ∉ a.data.toList.take i → shadowboxlaw36_RecordOrder.lo5 a jo k (i : Int) = some true ∧ shadowboxlaw36_RecordOrder.lo6 a jo k (i : Int) = some true := by
  intro j
  induction j with
  | zero =>
    intro k i h1 h2 h3
    obtain ⟨k, rfl⟩ : ∃ k', k = k' + 1 := ⟨k - 1, by omega⟩
    rw [shadowboxlaw36_RecordOrder.lo5, shadowboxlaw36_RecordOrder.lo6, if_neg (by omega), if_neg (by omega)]
    rw [List.take_of_length_le (by simp only [Array.length_toList]; show a.size ≤ i; omega)] at h3
    exact ⟨h h3, h h3⟩
  | succ j ih =>
    intro k i h1 h2 h3
    obtain ⟨k, rfl⟩ : ∃ k', k = k' + 1 := ⟨k - 1, by omega⟩
    have hw : IntKind.wrap .i64 ((i : Int) + 1) = ((i + 1 : Nat) : Int) := by rw [wi64 (by omega) (by omega)]; omega
    by_cases hz : bt a (i : Int) = 0
    · constructor
      · rw [shadowboxlaw36_RecordOrder.lo5, if_pos (by omega), if_pos (by omega), if_pos hz]
      · rw [shadowboxlaw36_RecordOrder.lo6, if_pos (by omega), if_pos (by omega), if_pos hz]
    · suffices hs : shadowboxlaw36_RecordOrder.lo5 a jo k ((i + 1 : Nat) : Int) = some true ∧ shadowboxlaw36_RecordOrder.lo6 a jo k ((i + 1 : Nat) : Int) = some true by
        constructor
        · rw [shadowboxlaw36_RecordOrder.lo5, if_pos (by omega), if_pos (by omega), if_neg hz, hw]
          exact hs.1
        · rw [shadowboxlaw36_RecordOrder.lo6, if_pos (by omega), if_pos (by omega), if_neg hz, hw]
          exact hs.2
      refine ih k (i + 1) (by omega) (by omega) ?_
      have hi : i < a.data.toList.length := by simp only [Array.length_toList]; show i < a.size; omega
      rw [List.take_add_one, List.getElem?_eq_getElem hi]
      intro hm
      rcases List.mem_append.1 hm with hm | hm
      · exact h3 hm
      · simp only [Option.toList_some, List.mem_singleton] at hm
        apply hz
        simp only [bt, bl, Int.toNat_natCast, List.getD_eq_getElem?_getD, List.getElem?_map, List.getElem?_eq_getElem hi, Option.map_some, Option.getD_some]
        rw [← hm]
        rfl
theorem rec_jo3 {a b : ByteArray} (ha : a.size ≤ 1000) (hb : b.size ≤ 1000) (hza : (0 : UInt8) ∉ a.data.toList) (hzb : (0 : UInt8) ∉ b.data.toList) (n : Vc Int 2) : shadowboxlaw36_RecordOrder.jo3 5000 a b n = some true := by
  unfold shadowboxlaw36_RecordOrder.jo3
  have h1 := and_i64 (n.1.getD ((0 : Int)).toNat 0) (m := 72057594037927935) (by decide)
  have h2 := and_i64 (n.1.getD ((1 : Int)).toNat 0) (m := 72057594037927935) (by decide)
  rw [show ((72057594037927935 : Nat) : Int) = 72057594037927935 from rfl] at h1 h2
  rw [if_pos (by omega)]
  simp only [lt]
  rw [if_pos (by omega)]
  generalize bits .and .i64 (n.1.getD ((0 : Int)).toNat 0) 72057594037927935 = y at *
  generalize bits .and .i64 (n.1.getD ((1 : Int)).toNat 0) 72057594037927935 = z at *
  rw [wi64 (n := 1 + y) (by omega) (by omega), wi64 (n := 1 + z) (by omega) (by omega), key_val ha (by omega) (by omega), key_val hb (by omega) (by omega)]
  simp only [Option.bind_some]
  unfold record_Prefix.f record_After.f
  rw [if_pos (l1 a ha), if_pos (l2 a ha 0)]
  simp only [Option.bind_some]
  rw [if_pos (l1 a ha), if_pos (l2 a ha 1)]
  simp only [Option.bind_some, son_list]
  have eP : ∀ (c : ByteArray) (K : List Int), u8 (pre c ++ K) = (111 :: c.data.toList) ++ (0 :: u8 K) := fun c K => by
    unfold pre
    rw [u8_app, u8_app, u8_app, u8_bl]
    simp [u8]
  have eA : u8 (([(111 : Int)] ++ bl a) ++ [(1 : Int)]) = (111 :: a.data.toList) ++ [1] := by
    rw [u8_app, u8_app, u8_bl]
    simp [u8]
  have e0 : u8 (([(111 : Int)] ++ bl a) ++ [(0 : Int)]) = (111 :: a.data.toList) ++ [0] := by
    rw [u8_app, u8_app, u8_bl]
    simp [u8]
  have hKX : u8 (beL 8 (4611686018427387904 - (1 + y))) ≠ [] := by simp [beL, u8]
  rw [eP, e0, eA, if_neg (by
    rw [less_same]
    simp [Go.Op.bytesLess, less_nil, hKX])]
  rw [if_pos (by rw [less_same]; simp [Go.Op.bytesLess])]
  unfold shadowboxlaw36_RecordOrder.jo4
  rw [wi64 (n := 1 + y) (by omega) (by omega), wi64 (n := 1 + z) (by omega) (by omega), son_list, son_list, eP, eP, toList_data, toList_data]
  have hless := beL_less 8 (4611686018427387904 - (1 + y)) (4611686018427387904 - (1 + z))
  have p8 : (256 : Int) ^ 8 = 18446744073709551616 := by decide
  rw [p8, Int.emod_eq_of_lt (by omega) (by omega), Int.emod_eq_of_lt (by omega) (by omega)] at hless
  have hless2 := beL_less 8 (4611686018427387904 - (1 + z)) (4611686018427387904 - (1 + y))
  rw [p8, Int.emod_eq_of_lt (by omega) (by omega), Int.emod_eq_of_lt (by omega) (by omega)] at hless2
  by_cases e : a.data.toList = b.data.toList
  · rw [e, if_pos (by simp), less_same]
    have hl : Go.Op.bytesLess (0 :: u8 (beL 8 (4611686018427387904 - (1 + y)))) (0 :: u8 (beL 8 (4611686018427387904 - (1 + z)))) = decide (1 + y > 1 + z) := by
      have := less_same [0] (u8 (beL 8 (4611686018427387904 - (1 + y)))) (u8 (beL 8 (4611686018427387904 - (1 + z))))
      refine Eq.trans this (hless.trans ?_)
      apply decide_eq_decide.2
      omega
    rw [hl, if_pos (by simp)]
    congr 1
    by_cases h : y = z
    · rw [h]; simp
    · rw [decide_eq_false (by omega : ¬ 1 + y = 1 + z)]
      have : ¬ u8 (beL 8 (4611686018427387904 - (1 + y))) = u8 (beL 8 (4611686018427387904 - (1 + z))) := by
        intro he
        rw [he, less_self] at hless hless2
        have q1 := of_decide_eq_false hless.symm
        have q2 := of_decide_eq_false hless2.symm
        omega
      simp [this]
  · rw [if_neg (by simpa using e)]
    have := less_zero a.data.toList b.data.toList (u8 (beL 8 (4611686018427387904 - (1 + y)))) (u8 (beL 8 (4611686018427387904 - (1 + z)))) hza hzb e
    have h3 : Go.Op.bytesLess ((111 :: a.data.toList) ++ (0 :: u8 (beL 8 (4611686018427387904 - (1 + y))))) ((111 :: b.data.toList) ++ (0 :: u8 (beL 8 (4611686018427387904 - (1 + z))))) = Go.Op.bytesLess a.data.toList b.data.toList := by
      rw [← this]
      exact less_same [111] _ _
    rw [h3]
    simp
theorem RecordOrder : S.RecordOrder := by
  intro a b n ha hb hn
  refine ⟨5000, ?_⟩
  unfold shadowboxlaw36_RecordOrder.f
  simp only [lt]
  rw [wi64 (by omega) (by omega)]
  split
  · rfl
  · unfold shadowboxlaw36_RecordOrder.jo1
    refine (rec_lo5 a (by omega) _ (fun hza => ?_) a.size 5000 0 (by omega) (by omega) (by simp)).2
    unfold shadowboxlaw36_RecordOrder.jo2
    exact (rec_lo5 b (by omega) _ (fun hzb => rec_jo3 (by omega) (by omega) hza hzb n) b.size 5000 0 (by omega) (by omega) (by simp)).1
end Go.Proofs.Ythhhkphbhlafbaa.Pure
