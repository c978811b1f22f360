/- Chains of codes, and codes alike; no condition. -/
import Derived.Test.YtnkcadofhhcfaaaHmac
set_option linter.unusedVariables false
set_option linter.unusedSimpArgs false
namespace Go.Proofs.Ytnkcadofhhcfaaa.Hc
open Go Go.RowKit Go.Proofs.Ytnkcadofhhcfaaa.Sx Go.Proofs.Ytnkcadofhhcfaaa.G Go.Proofs.Ytnkcadofhhcfaaa.Bt Go.Proofs.Ytnkcadofhhcfaaa.Sha Go.Proofs.Ytnkcadofhhcfaaa.Hm
/-! ### Texts of bytes, compared -/
theorem toList_loop (bs : ByteArray) : ∀ (n i : Nat) (r : List UInt8), bs.size - i = n → ByteArray.toList.loop bs i r = r.reverse ++ bs.data.toList.drop i := by
  intro n
  induction n with
  | zero =>
    intro i r h
    rw [ByteArray.toList.loop, if_neg (by omega), List.drop_of_length_le (by simp only [Array.length_toList]; exact Nat.le_of_sub_eq_zero h)]
    simp
  | succ n ih =>
    intro i r h
    have hi : i < bs.data.toList.length := by simp only [Array.length_toList]; exact Nat.lt_of_sub_eq_succ h
    rw [ByteArray.toList.loop, if_pos (by omega), ih (i + 1) _ (by omega), List.drop_eq_getElem_cons hi]
    have hi2 : i < bs.data.size := by simpa using hi
    have : bs.get! i = bs.data.toList[i] := by
      show bs.data[i]! = _
      rw [getElem!_pos bs.data i hi2]
      simp
    rw [this]
    simp
theorem toList_data (bs : ByteArray) : bs.toList = bs.data.toList := by
  have := toList_loop bs bs.size 0 [] (by omega)
  simpa [ByteArray.toList] using this
theorem u8_inj {x y : Int} (hx : 0 ≤ x ∧ x < 256) (hy : 0 ≤ y ∧ y < 256) (h : UInt8.ofNat x.toNat = UInt8.ofNat y.toNat) : x = y := by
  have := congrArg UInt8.toNat h
  simp at this
  omega
theorem son_inj : ∀ {l m : List Int}, By l → By m → (strOfNums l).toList = (strOfNums m).toList → l = m := by
  intro l m hl hm h
  rw [toList_data, toList_data] at h
  simp only [strOfNums] at h
  induction l generalizing m with
  | nil =>
    cases m with
    | nil => rfl
    | cons y r => simp at h
  | cons x r ih =>
    cases m with
    | nil => simp at h
    | cons y s =>
      simp only [List.map_cons, List.cons.injEq] at h
      rw [u8_inj (hl x (by simp)) (hm y (by simp)) h.1, ih (fun z hz => hl z (by simp [hz])) (fun z hz => hm z (by simp [hz])) h.2]
theorem eqb_dec {l m : List Int} (hl : By l) (hm : By m) : ((strOfNums l).toList == (strOfNums m).toList) = decide (l = m) := by
  by_cases h : l = m
  · subst h; simp
  · rw [decide_eq_false h, beq_eq_false_iff_ne]
    exact fun e => h (son_inj hl hm e)
theorem bl_by (s : ByteArray) : By (bl s) := fun x hx => by
  unfold bl at hx
  obtain ⟨b, _, rfl⟩ := List.mem_map.1 hx
  have := b.toNat_lt
  omega
theorem bl_son {l : List Int} (h : By l) : bl (strOfNums l) = l := by
  unfold bl strOfNums
  simp only [List.map_map]
  rw [List.map_congr_left (g := id) (fun x hx => by
    have := h x hx
    simp
    omega)]
  simp
/-! ### Alike -/
theorem or0 {a b : Int} (ha : 0 ≤ a ∧ a < 256) (hb : 0 ≤ b ∧ b < 256) : (0 ≤ bits .or .u8 a b ∧ bits .or .u8 a b < 256) ∧ (bits .or .u8 a b = 0 ↔ a = 0 ∧ b = 0) := by
  obtain ⟨m, rfl⟩ : ∃ m : Nat, a = m := ⟨a.toNat, by omega⟩
  obtain ⟨n, rfl⟩ : ∃ n : Nat, b = n := ⟨b.toNat, by omega⟩
  have hm : m < 2 ^ 8 := by omega
  have hn : n < 2 ^ 8 := by omega
  rw [or_u .u8 rfl m n hm hn]
  have h1 := Nat.or_lt_two_pow hm hn
  refine ⟨by omega, ?_⟩
  have h2 : m ||| n = 0 ↔ m = 0 ∧ n = 0 := Nat.or_eq_zero_iff
  omega
theorem xor0 {a b : Int} (ha : 0 ≤ a ∧ a < 256) (hb : 0 ≤ b ∧ b < 256) : (0 ≤ bits .xor .u8 a b ∧ bits .xor .u8 a b < 256) ∧ (bits .xor .u8 a b = 0 ↔ a = b) := by
  obtain ⟨m, rfl⟩ : ∃ m : Nat, a = m := ⟨a.toNat, by omega⟩
  obtain ⟨n, rfl⟩ : ∃ n : Nat, b = n := ⟨b.toNat, by omega⟩
  have hm : m < 2 ^ 8 := by omega
  have hn : n < 2 ^ 8 := by omega
  rw [xor_u .u8 rfl m n hm hn]
  have h1 := Nat.xor_lt_two_pow hm hn
  refine ⟨by omega, ?_⟩
  have h2 : m ^^^ n = 0 ↔ m = n := by
    constructor
    · intro h
      have h3 : (m ^^^ n) ^^^ n = m := by rw [Nat.xor_assoc, Nat.xor_self, Nat.xor_zero]
      rw [h, Nat.zero_xor] at h3
      exact h3.symm
    · intro h; rw [h, Nat.xor_self]
  omega
theorem drop_cons {l : List Int} {x : Nat} (h : x < l.length) : l.drop x = l.getD x 0 :: l.drop (x + 1) := by
  rw [List.drop_eq_getElem_cons h, List.getD_eq_getElem?_getD, List.getElem?_eq_getElem h, Option.getD_some]
theorem Same_lo2 {l m : List Int} (hl : By l) (hm : By m) (e : l.length = m.length) (hB : l.length ≤ 100000) : ∀ (j x k : Nat) (a : Int), x + j = l.length → 0 ≤ a ∧ a < 256 → j < k → hmac_Same.lo2 l m k a (x : Int) = some (decide (a = 0 ∧ l.drop x = m.drop x)) := by
  intro j
  induction j with
  | zero =>
    intro x k a hx ha hk
    obtain ⟨k, rfl⟩ : ∃ q, k = q + 1 := ⟨k - 1, by omega⟩
    rw [hmac_Same.lo2, if_neg (by omega), List.drop_of_length_le (by omega), List.drop_of_length_le (by omega)]
    simp
  | succ j ih =>
    intro x k a hx ha hk
    obtain ⟨k, rfl⟩ : ∃ q, k = q + 1 := ⟨k - 1, by omega⟩
    rw [hmac_Same.lo2, if_pos (by omega), if_pos (by omega), if_pos (by omega)]
    simp only [lt]
    rw [wi64 (by omega) (by omega), show ((x : Int) + 1) = ((x + 1 : Nat) : Int) from by omega]
    obtain ⟨h1, h2⟩ := xor0 (hl.get x) (hm.get x)
    obtain ⟨h3, h4⟩ := or0 ha h1
    rw [show ((x : Int)).toNat = x from by omega, ih (x + 1) k _ (by omega) h3 (by omega)]
    refine congrArg some (decide_eq_decide.2 ?_)
    rw [h4, h2, drop_cons (l := l) (x := x) (by omega), drop_cons (l := m) (x := x) (by omega), List.cons.injEq, and_assoc]
theorem Same_val {l m : List Int} (hl : By l) (hm : By m) (hB : l.length ≤ 100000) {k : Nat} (hk : l.length < k) : hmac_Same.f k l m = some (decide (l = m)) := by
  unfold hmac_Same.f hmac_Same.jo1
  by_cases e : l.length = m.length
  · rw [if_pos (by omega)]
    have := Same_lo2 hl hm e hB l.length 0 k 0 (by omega) (by omega) hk
    simpa using this
  · rw [if_neg (by omega), decide_eq_false (fun h => e (by rw [h]))]
/-! ### Chains -/
def chainL (l : List Int) : List ByteArray → List Int
  | [] => l
  | p :: r => chainL (macL l (bl p)).1 r
theorem macL_by (l m : List Int) : By (macL l m).1 := Hm.sumL_by _
theorem chain_len : ∀ (ps : List ByteArray) (l : List Int), l.length ≤ 1000 → (chainL l ps).length ≤ 1000
  | [], l, h => h
  | p :: r, l, h => chain_len r _ (by rw [(macL l (bl p)).2]; omega)
theorem chain_by : ∀ (ps : List ByteArray) (l : List Int), By l → By (chainL l ps)
  | [], l, h => h
  | p :: r, l, h => chain_by r _ (macL_by _ _)
theorem drop_conss {l : List ByteArray} {x : Nat} (h : x < l.length) : l.drop x = l.getD x ByteArray.empty :: l.drop (x + 1) := by
  rw [List.drop_eq_getElem_cons h, List.getD_eq_getElem?_getD, List.getElem?_eq_getElem h, Option.getD_some]
theorem getD_mem {l : List ByteArray} {x : Nat} (h : x < l.length) : l.getD x ByteArray.empty ∈ l := by
  rw [List.getD_eq_getElem?_getD, List.getElem?_eq_getElem h, Option.getD_some]
  exact List.getElem_mem h
theorem Chain_lo1 {ps : List ByteArray} (hp : ∀ p ∈ ps, p.size ≤ 1000) (hB : ps.length ≤ 100) : ∀ (j x k : Nat) (l : List Int), x + j = ps.length → By l → l.length ≤ 1000 → j + 600 ≤ k → hmac_Chain.lo1 ps k l (x : Int) = some (chainL l (ps.drop x)) := by
  intro j
  induction j with
  | zero =>
    intro x k l hx hl hll hk
    obtain ⟨k, rfl⟩ : ∃ q, k = q + 1 := ⟨k - 1, by omega⟩
    rw [hmac_Chain.lo1, if_neg (by omega), List.drop_of_length_le (by omega)]
    rfl
  | succ j ih =>
    intro x k l hx hl hll hk
    obtain ⟨k, rfl⟩ : ∃ q, k = q + 1 := ⟨k - 1, by omega⟩
    rw [hmac_Chain.lo1, if_pos (by omega), if_pos (by omega)]
    simp only [lt]
    have hxl : x < ps.length := by omega
    have hs := hp _ (getD_mem hxl)
    rw [show ((x : Int)).toNat = x from by omega, Mac_val hl (by omega) (bl_by _) (by rw [bl_length]; omega) (by omega) (by rw [bl_length]; omega)]
    simp only [Option.bind_some]
    rw [wi64 (by omega) (by omega), show ((x : Int) + 1) = ((x + 1 : Nat) : Int) from by omega, ih (x + 1) k _ (by omega) (macL_by _ _) (by rw [(macL l _).2]; omega) (by omega), drop_conss hxl]
    rfl
theorem Chain_val {ps : List ByteArray} (hp : ∀ p ∈ ps, p.size ≤ 1000) (hB : ps.length ≤ 100) {l : List Int} (hl : By l) (hll : l.length ≤ 1000) {k : Nat} (hk : 700 ≤ k) : hmac_Chain.f k l ps = some (chainL l ps) := by
  unfold hmac_Chain.f
  rw [if_pos (by simp; omega)]
  have := Chain_lo1 hp hB ps.length 0 k l (by omega) hl hll (by omega)
  simpa using this
theorem rChain_lo1 {ps : List ByteArray} (hp : ∀ p ∈ ps, p.size ≤ 1000) (hB : ps.length ≤ 100) : ∀ (j x k : Nat) (l : List Int), x + j = ps.length → By l → l.length ≤ 1000 → j + 600 ≤ k → shadowboxref12_Chain.lo1 ps k l (x : Int) = some (chainL l (ps.drop x)) := by
  intro j
  induction j with
  | zero =>
    intro x k l hx hl hll hk
    obtain ⟨k, rfl⟩ : ∃ q, k = q + 1 := ⟨k - 1, by omega⟩
    rw [shadowboxref12_Chain.lo1, if_neg (by omega), List.drop_of_length_le (by omega)]
    rfl
  | succ j ih =>
    intro x k l hx hl hll hk
    obtain ⟨k, rfl⟩ : ∃ q, k = q + 1 := ⟨k - 1, by omega⟩
    have hxl : x < ps.length := by omega
    have hs := hp _ (getD_mem hxl)
    rw [shadowboxref12_Chain.lo1, if_pos (by omega), if_pos (by omega), show ((x : Int)).toNat = x from by omega, rMac_val hl (by omega) (bl_by _) (by rw [bl_length]; omega) (by omega) (by rw [bl_length]; omega)]
    simp only [Option.bind_some]
    rw [if_pos (by rw [(macL l _).2]; simp), wi64 (by omega) (by omega), show ((x : Int) + 1) = ((x + 1 : Nat) : Int) from by omega, List.nil_append, ih (x + 1) k _ (by omega) (macL_by _ _) (by rw [(macL l _).2]; omega) (by omega), drop_conss hxl]
    rfl
theorem rChain_val {ps : List ByteArray} (hp : ∀ p ∈ ps, p.size ≤ 1000) (hB : ps.length ≤ 100) {l : List Int} (hl : By l) (hll : l.length ≤ 1000) {k : Nat} (hk : 700 ≤ k) : shadowboxref12_Chain.f k l ps = some (chainL l ps) := by
  unfold shadowboxref12_Chain.f
  have := rChain_lo1 hp hB ps.length 0 k l (by omega) hl hll (by omega)
  simpa using this
end Go.Proofs.Ytnkcadofhhcfaaa.Hc
