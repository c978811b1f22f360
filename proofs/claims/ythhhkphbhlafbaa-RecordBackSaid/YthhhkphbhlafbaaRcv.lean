/- What a version's functions compute, in the program and in the document; no condition. -/
import Derived.Test.YthhhkphbhlafbaaRcd
namespace Go.Proofs.Ythhhkphbhlafbaa.Rcv
open Go Go.RowKit Go.Proofs.Ythhhkphbhlafbaa.Sx Go.Proofs.Ythhhkphbhlafbaa.G Go.Proofs.Ythhhkphbhlafbaa.Bt Go.Proofs.Ythhhkphbhlafbaa.Rcd
set_option linter.unusedVariables false
set_option linter.unusedSimpArgs false
abbrev Mt := ByteArray × ByteArray
abbrev Ver := Int × Int × Int × Int × ByteArray × ByteArray × (List (ByteArray × ByteArray))
theorem bt_get (s : ByteArray) (i : Nat) : bt s (i : Int) = (bl s).getD i 0 := by simp [bt]
theorem bt_byte (s : ByteArray) (i : Nat) : 0 ≤ bt s (i : Int) ∧ bt s (i : Int) < 256 := by
  rw [bt_get, List.getD_eq_getElem?_getD]
  cases e : (bl s)[i]? with
  | none => simp
  | some x => exact bl_bytes s x (List.mem_of_getElem? e)
theorem drop_cons {l : List Int} {i : Nat} (h : i < l.length) : l.drop i = l.getD i 0 :: l.drop (i + 1) := by
  rw [List.drop_eq_getElem_cons h, List.getD_eq_getElem?_getD, List.getElem?_eq_getElem h]
  rfl
theorem take_snoc {l : List Int} {i : Nat} (h : i < l.length) : l.take (i + 1) = l.take i ++ [l.getD i 0] := by
  rw [List.take_succ_eq_append_getElem h, List.getD_eq_getElem?_getD, List.getElem?_eq_getElem h]
  rfl
theorem drop_all {P : Int → Bool} {l : List Int} {i : Nat} (h : i < l.length) : (l.drop i).all P = (P (l.getD i 0) && (l.drop (i + 1)).all P) := by
  rw [drop_cons h]
  rfl
/-! ### Values -/
def vp (c : Int) : Bool := decide (c = 9) || !(decide (c < 32) || decide (c = 127))
def vok (s : ByteArray) : Bool := (bl s).all vp
theorem value_lo1 (s : ByteArray) (hs : s.size ≤ 140737488355328) : ∀ (j i k : Nat), i + j = s.size → j < k → header_Value.lo1 s k (i : Int) = some (((bl s).drop i).all vp) := by
  intro j
  induction j with
  | zero =>
    intro i k hi hk
    obtain ⟨k, rfl⟩ : ∃ m, k = m + 1 := ⟨k - 1, by omega⟩
    rw [header_Value.lo1, if_neg (by omega), List.drop_of_length_le (by rw [bl_length]; omega)]
    rfl
  | succ j ih =>
    intro i k hi hk
    obtain ⟨k, rfl⟩ : ∃ m, k = m + 1 := ⟨k - 1, by omega⟩
    rw [header_Value.lo1, if_pos (by omega), if_pos (by omega), wi64 (by omega) (by omega), drop_all (by rw [bl_length]; omega), bt_get]
    have := ih (i + 1) k (by omega) (by omega)
    rw [show ((i + 1 : Nat) : Int) = (i : Int) + 1 by omega] at this
    rw [this]
    generalize (bl s).getD i 0 = c
    unfold vp
    by_cases h1 : c = 9
    · rw [if_pos h1]; simp [h1]
    · rw [if_neg h1]
      by_cases h2 : c < 32
      · rw [if_pos h2]; simp [h1, h2]
      · rw [if_neg h2]
        by_cases h3 : c = 127
        · rw [if_pos h3]; simp [h3]
        · rw [if_neg h3]; simp [h1, h2, h3]
def tex (s : ByteArray) (m : Int) : Bool := decide ((s.size : Int) ≤ m) && vok s
theorem text_val {s : ByteArray} {m : Int} (hm : m ≤ 60) {k : Nat} (hk : 61 ≤ k) : record_text.f k s m = some (tex s m) := by
  unfold record_text.f tex header_Value.f
  by_cases h : (s.size : Int) ≤ m
  · have := value_lo1 s (by omega) s.size 0 k (by omega) (by omega)
    rw [show ((0 : Nat) : Int) = 0 from rfl] at this
    rw [if_pos h, this, List.drop_zero, decide_eq_true h]
    rfl
  · rw [if_neg h, decide_eq_false h]; rfl
/-! ### Kinds, tokens, small letters -/
def kd (c : Int) : Int := if 48 ≤ c ∧ c ≤ 57 then 1 else if 97 ≤ c ∧ c ≤ 102 then 2 else if 103 ≤ c ∧ c ≤ 122 then 3 else if 65 ≤ c ∧ c ≤ 90 then 4 else 0
theorem kind1 (k : Nat) (a b c : Int) : hex_Kind_1.f k a b c = some (decide (a ≤ c ∧ c ≤ b)) := by
  unfold hex_Kind_1.f
  by_cases h : c ≥ a
  · rw [if_pos h]; simp [show a ≤ c from h]
  · rw [if_neg h]; simp [show ¬ a ≤ c from h]
theorem kind_val (k : Nat) (c : Int) : hex_Kind.f k c = some (kd c) := by
  unfold hex_Kind.f kd
  simp only [kind1, Option.bind_some, decide_eq_true_eq]
  split
  · rfl
  · split
    · rfl
    · split
      · rfl
      · split <;> rfl
def s15 : List Int := header_signs.cst0.1
def tk (c : Int) : Bool := s15.contains c || !decide (kd c = 0)
theorem drop_has {l : List Int} {i : Nat} (c : Int) (h : i < l.length) : (l.drop i).contains c = (decide (l.getD i 0 = c) || (l.drop (i + 1)).contains c) := by
  rw [drop_cons h]
  generalize l.getD i 0 = x
  by_cases e : x = c
  · simp [e]
  · simp [e, Ne.symm e]
theorem tok1_lo1 (c : Int) : ∀ (j i k : Nat), i + j = 15 → j < k → header_Token_1.lo1 c header_signs.cst0 k (i : Int) = some ((s15.drop i).contains c || !decide (kd c = 0)) := by
  intro j
  induction j with
  | zero =>
    intro i k hi hk
    obtain ⟨k, rfl⟩ : ∃ m, k = m + 1 := ⟨k - 1, by omega⟩
    have : i = 15 := by omega
    subst this
    rw [header_Token_1.lo1, if_neg (by omega), kind_val]
    rfl
  | succ j ih =>
    intro i k hi hk
    obtain ⟨k, rfl⟩ : ∃ m, k = m + 1 := ⟨k - 1, by omega⟩
    rw [header_Token_1.lo1, if_pos (by omega), if_pos (by omega), wi64 (by omega) (by omega), drop_has c (by show i < 15; omega), Int.toNat_natCast]
    have := ih (i + 1) k (by omega) (by omega)
    rw [show ((i + 1 : Nat) : Int) = (i : Int) + 1 by omega] at this
    rw [this]
    show (if s15.getD i 0 = c then _ else _) = _
    by_cases h : s15.getD i 0 = c
    · rw [if_pos h, decide_eq_true h]; rfl
    · rw [if_neg h, decide_eq_false h]; rfl
theorem tok1_val {k : Nat} (hk : 16 ≤ k) (c : Int) : header_Token_1.f k c = some (tk c) := by
  unfold header_Token_1.f header_signs.f
  have := tok1_lo1 c 15 0 k (by omega) (by omega)
  rw [show ((0 : Nat) : Int) = 0 from rfl] at this
  simp only [Option.bind_some]
  rw [this]; rfl
theorem s15_is : s15 = [33, 35, 36, 37, 38, 39, 42, 43, 45, 46, 94, 95, 96, 124, 126] := by decide +kernel
def tok (s : ByteArray) : Bool := (bl s).all tk && decide (0 < s.size)
theorem toList_loop (bs : ByteArray) : ∀ (n i : Nat) (r : List UInt8), bs.size - i = n → ByteArray.toList.loop bs i r = r.reverse ++ bs.data.toList.drop i := by
  intro n
  induction n with
  | zero =>
    intro i r h
    rw [ByteArray.toList.loop, if_neg (by omega), List.drop_of_length_le (by simp only [Array.length_toList]; exact Nat.le_of_sub_eq_zero h)]
    simp
  | succ n ih =>
    intro i r h
    have hi : i < bs.data.toList.length := by simp only [Array.length_toList]; exact Nat.lt_of_sub_eq_succ h
    rw [ByteArray.toList.loop, if_pos (by omega), ih (i + 1) _ (by omega), List.drop_eq_getElem_cons hi]
    have hi2 : i < bs.data.size := by simpa using hi
    have : bs.get! i = bs.data.toList[i] := by
      show bs.data[i]! = _
      rw [getElem!_pos bs.data i hi2]
      simp
    rw [this]
    simp
theorem toList_data (bs : ByteArray) : bs.toList = bs.data.toList := by
  have := toList_loop bs bs.size 0 [] (by omega)
  simpa [ByteArray.toList] using this
theorem bl_nil {s : ByteArray} : s.toList = (⟨#[]⟩ : ByteArray).toList ↔ s.size = 0 := by
  rw [toList_data, toList_data]
  show s.data.toList = [] ↔ s.data.size = 0
  rw [← Array.length_toList]
  exact List.length_eq_zero_iff.symm
theorem token_lo1 (s : ByteArray) (hs : s.size ≤ 140737488355328) : ∀ (j i k : Nat), i + j = s.size → j + 16 < k → header_Token.lo1 s k (i : Int) = some (((bl s).drop i).all tk && decide (0 < s.size)) := by
  intro j
  induction j with
  | zero =>
    intro i k hi hk
    obtain ⟨k, rfl⟩ : ∃ m, k = m + 1 := ⟨k - 1, by omega⟩
    rw [header_Token.lo1, if_neg (by omega), List.drop_of_length_le (by rw [bl_length]; omega)]
    by_cases h : s.size = 0
    · have := bl_nil.2 h
      simp [this, h]
    · have : ¬ s.toList = (⟨#[]⟩ : ByteArray).toList := fun e => h (bl_nil.1 e)
      rw [show (s.toList == (⟨#[]⟩ : ByteArray).toList) = false from by simpa using this, decide_eq_true (by omega)]
      rfl
  | succ j ih =>
    intro i k hi hk
    obtain ⟨k, rfl⟩ : ∃ m, k = m + 1 := ⟨k - 1, by omega⟩
    rw [header_Token.lo1, if_pos (by omega), if_pos (by omega), wi64 (by omega) (by omega), drop_all (by rw [bl_length]; omega), bt_get, tok1_val (by omega)]
    have := ih (i + 1) k (by omega) (by omega)
    rw [show ((i + 1 : Nat) : Int) = (i : Int) + 1 by omega] at this
    simp only [Option.bind_some]
    rw [this]
    cases tk ((bl s).getD i 0) <;> simp
theorem token_val {s : ByteArray} (hs : s.size ≤ 30) {k : Nat} (hk : 50 ≤ k) : header_Token.f k s = some (tok s) := by
  have := token_lo1 s (by omega) s.size 0 k (by omega) (by omega)
  rw [show ((0 : Nat) : Int) = 0 from rfl] at this
  unfold header_Token.f
  rw [this]; rfl
def lw (c : Int) : Int := if kd c = 4 then c + 32 else c
def low (s : ByteArray) : ByteArray := strOfNums ((bl s).map lw)
theorem kd4 {c : Int} (h : kd c = 4) : 65 ≤ c ∧ c ≤ 90 := by
  unfold kd at h
  split at h
  · omega
  · split at h
    · omega
    · split at h
      · omega
      · split at h <;> omega
theorem lower_lo1 (s : ByteArray) (hs : s.size ≤ 140737488355000) : ∀ (j i k : Nat), i + j = s.size → j < k → hex_Lower.lo1 s k (((bl s).take i).map lw ++ (bl s).drop i) (i : Int) = some (low s) := by
  intro j
  induction j with
  | zero =>
    intro i k hi hk
    obtain ⟨k, rfl⟩ : ∃ m, k = m + 1 := ⟨k - 1, by omega⟩
    have hl := bl_length s
    rw [hex_Lower.lo1, if_neg (by omega), List.take_of_length_le (by omega), List.drop_of_length_le (by omega), List.append_nil]
    rfl
  | succ j ih =>
    intro i k hi hk
    obtain ⟨k, rfl⟩ : ∃ m, k = m + 1 := ⟨k - 1, by omega⟩
    have hl := bl_length s
    have hi' : i < (bl s).length := by omega
    have hg : (((bl s).take i).map lw ++ (bl s).drop i).getD i 0 = (bl s).getD i 0 := by
      rw [List.getD_eq_getElem?_getD, List.getElem?_append_right (by simp; omega)]
      simp [List.getD_eq_getElem?_getD, Nat.min_eq_left (Nat.le_of_lt hi')]
    have hd := drop_cons hi'
    have ht : ((bl s).take (i + 1)).map lw = ((bl s).take i).map lw ++ [lw ((bl s).getD i 0)] := by
      rw [take_snoc hi', List.map_append]
      rfl
    have := ih (i + 1) k (by omega) (by omega)
    rw [show ((i + 1 : Nat) : Int) = (i : Int) + 1 by omega, ht] at this
    rw [hex_Lower.lo1, if_pos (by omega), if_pos (by omega), if_pos (by simp; omega), Int.toNat_natCast, hg, kind_val, wi64 (by omega) (by omega)]
    simp only [Option.bind_some, lt]
    by_cases h : kd ((bl s).getD i 0) = 4
    · have h2 := kd4 h
      rw [if_pos h, wu8, show ((bl s).getD i 0 + 32) % 256 = lw ((bl s).getD i 0) by unfold lw; rw [if_pos h]; omega, ← this]
      congr 1
      rw [hd, List.set_append_right _ _ (by simp; omega)]
      simp [Nat.min_eq_left (Nat.le_of_lt hi')]
    · rw [if_neg h, ← this]
      congr 1
      rw [hd, List.append_assoc, show lw ((bl s).getD i 0) = (bl s).getD i 0 by unfold lw; rw [if_neg h]]
      rfl
theorem lower_val {s : ByteArray} (hs : s.size ≤ 30) {k : Nat} (hk : 31 ≤ k) : hex_Lower.f k s = some (low s) := by
  have := lower_lo1 s (by omega) s.size 0 k (by omega) (by omega)
  rw [show ((0 : Nat) : Int) = 0 from rfl] at this
  exact this
/-! ### Words -/
def gm (l : List Mt) (i : Nat) : Mt := l.getD i (ByteArray.empty, ByteArray.empty)
def wk (l : List Mt) (i : Nat) : Bool := decide ((gm l i).1.size ≤ 30) && (tok (gm l i).1 && (((low (gm l i).1).toList == (gm l i).1.toList) && (tex (gm l i).2 60 && (decide (i = 0) || Op.bytesLess (gm l (i - 1)).1.toList (gm l i).1.toList))))
def wr (l : List Mt) : Nat → Nat → Bool
  | 0, _ => true
  | j + 1, i => wk l i && wr l j (i + 1)
theorem andn {b : Bool} {X : Option Bool} {x : Bool} (h : b = true → X = some x) : (if b = true then X else some false) = some (b && x) := by
  cases b
  · rfl
  · exact h rfl
theorem nandn {c : Prop} [Decidable c] {X : Option Bool} {x : Bool} (h : ¬ c → X = some x) : (if c then some false else X) = some (!decide c && x) := by
  by_cases e : c
  · rw [if_pos e, decide_eq_true e]; rfl
  · rw [if_neg e, h e, decide_eq_false e]; rfl
theorem candn {c : Prop} [Decidable c] {X : Option Bool} {x : Bool} (h : c → X = some x) : (if c then X else some false) = some (decide c && x) := by
  by_cases e : c
  · rw [if_pos e, h e, decide_eq_true e]; rfl
  · rw [if_neg e, decide_eq_false e]; rfl
theorem andx {b c : Bool} {X Y : Option Bool} (h : b = true → X = if c = true then Y else some false) : (if b = true then X else some false) = (if (b && c) = true then Y else some false) := by
  cases b
  · rfl
  · exact h rfl
theorem words_jo2 {l : List Mt} (hl : l.length ≤ 1000000) {i : Nat} (hi : i < l.length) {k : Nat} (hk : 61 ≤ k) (g : Int → Option Bool) : record_words.jo2 l (i : Int) k g = if wk l i = true then g ((i + 1 : Nat) : Int) else some false := by
  unfold record_words.jo2
  rw [if_pos (by omega), if_pos (by omega)]
  simp only [lt, Int.toNat_natCast]
  show (if ((gm l i).1.size : Int) > 30 then some false else (header_Token.f k (gm l i).1).bind _) = _
  unfold wk
  by_cases h1 : (gm l i).1.size ≤ 30
  · rw [if_neg (by omega), token_val h1 (by omega), decide_eq_true h1, Bool.true_and]
    simp only [Option.bind_some]
    refine andx fun h2 => ?_
    show (hex_Lower.f k (gm l i).1).bind _ = _
    rw [lower_val h1 (by omega)]
    simp only [Option.bind_some]
    refine andx fun h3 => ?_
    show (record_text.f k (gm l i).2 60).bind _ = _
    rw [text_val (by omega) hk]
    simp only [Option.bind_some]
    refine andx fun h4 => ?_
    by_cases h5 : i = 0
    · subst h5
      rw [if_neg (by omega)]
      rfl
    · rw [if_pos (by omega), wi64 (by omega) (by omega), if_pos (by omega), if_pos (by omega), decide_eq_false h5, Bool.false_or, show ((i : Int) - 1).toNat = i - 1 by omega, wi64 (n := (i : Int) + 1) (by omega) (by omega)]
      rfl
  · rw [if_pos (by omega), decide_eq_false h1]
    rfl
theorem words_lo1 {l : List Mt} (hl : l.length ≤ 1000000) : ∀ (j i k : Nat), i + j = l.length → j + 61 < k → record_words.lo1 l k (i : Int) = some (wr l j i && decide ((l.length : Int) ≤ 8)) := by
  intro j
  induction j with
  | zero =>
    intro i k hi hk
    obtain ⟨k, rfl⟩ : ∃ m, k = m + 1 := ⟨k - 1, by omega⟩
    rw [record_words.lo1, if_neg (by omega)]
    rfl
  | succ j ih =>
    intro i k hi hk
    obtain ⟨k, rfl⟩ : ∃ m, k = m + 1 := ⟨k - 1, by omega⟩
    rw [record_words.lo1, if_pos (by omega), words_jo2 hl (by omega) (by omega), ih (i + 1) k (by omega) (by omega), wr]
    cases wk l i <;> rfl
theorem wr_get {l : List Mt} : ∀ (j i : Nat), wr l j i = true → ∀ m, i ≤ m → m < i + j → wk l m = true := by
  intro j
  induction j with
  | zero => intro i h m h1 h2; omega
  | succ j ih =>
    intro i h m h1 h2
    rw [wr, Bool.and_eq_true] at h
    by_cases e : m = i
    · subst e; exact h.1
    · exact ih (i + 1) h.2 m (by omega) (by omega)
theorem wk_small {l : List Mt} {i : Nat} (h : wk l i = true) : (gm l i).1.size ≤ 30 ∧ (gm l i).2.size ≤ 60 := by
  unfold wk tex at h
  simp only [Bool.and_eq_true, decide_eq_true_eq] at h
  exact ⟨h.1, by have := h.2.2.2.1.1; omega⟩
theorem wr_small {l : List Mt} (h : wr l l.length 0 = true) : ∀ m ∈ l, m.1.size ≤ 100 ∧ m.2.size ≤ 100 := by
  intro m hm
  obtain ⟨i, hi, rfl⟩ := List.getElem_of_mem hm
  have := wk_small (wr_get _ _ h i (by omega) (by omega))
  rw [gm, List.getD_eq_getElem?_getD, List.getElem?_eq_getElem hi, Option.getD_some] at this
  exact ⟨by omega, by omega⟩
/-! ### The bytes -/
noncomputable def gr (v : Int) : Nat := open Classical in if h : ∃ g : Nat, g ≤ 10 ∧ IsGr v g then h.choose else 1
theorem gr_is {v : Int} (h0 : 0 ≤ v) (h1 : v < 18446744073709551616) : gr v ≤ 10 ∧ IsGr v (gr v) := by
  unfold gr
  rw [dif_pos (gr_ex h0 h1)]
  exact (gr_ex h0 h1).choose_spec
noncomputable def sx (v : Int) : List Int := sh (gr v - 1) v
noncomputable def tx (s : ByteArray) : List Int := sx (s.size : Int) ++ bl s
theorem sx_len {v : Int} (h0 : 0 ≤ v) (h1 : v < 18446744073709551616) : (sx v).length = gr v := by
  have := (gr_is h0 h1).2.1
  rw [sx, sh_length]
  omega
theorem sx_le {v : Int} (h0 : 0 ≤ v) (h1 : v < 18446744073709551616) : (sx v).length ≤ 10 := by
  rw [sx_len h0 h1]
  exact (gr_is h0 h1).1
theorem sx_bytes {v : Int} (h0 : 0 ≤ v) (h1 : v < 18446744073709551616) : Bytes (sx v) := by
  have := (gr_is h0 h1).2
  exact sh_bytes _ _ h0 (by rw [show gr v - 1 + 1 = gr v by have := this.1; omega]; exact this.2.1)
theorem tx_le {s : ByteArray} (h : s.size ≤ 1000000) : (tx s).length ≤ s.size + 10 := by
  have := sx_le (v := (s.size : Int)) (by omega) (by omega)
  rw [tx, List.length_append, bl_length]
  omega
theorem tx_bytes {s : ByteArray} (h : s.size ≤ 1000000) : Bytes (tx s) := (sx_bytes (by omega) (by omega)).append (bl_bytes s)
def u (v : Int) : Int := v % 18446744073709551616
theorem u0 (v : Int) : 0 ≤ u v := by unfold u; omega
theorem u1 (v : Int) : u v < 18446744073709551616 := by unfold u; omega
theorem short_is {l : List Int} (hl : l.length ≤ 140737488355000) {v : Int} (h0 : 0 ≤ v) (h1 : v < 18446744073709551616) {k : Nat} (hk : 11 ≤ k) : codec_Short.f k l v = some (l ++ sx v) := codec_Short_val hl h0 h1 (gr_is h0 h1).2 (gr_is h0 h1).1 hk
theorem text_is {l : List Int} {s : ByteArray} (hl : l.length + s.size ≤ 140737488355000) {k : Nat} (hk : 11 ≤ k) : codec_Text.f k l s = some (l ++ tx s) := by
  rw [codec_Text_val hl (gr_is (by omega) (by omega)).2 (gr_is (by omega) (by omega)).1 hk, List.append_assoc]
  rfl
noncomputable def ew (m : Mt) : List Int := tx m.1 ++ tx m.2
noncomputable def hd (a : Ver) : List Int := sx (u a.1) ++ (sx (u a.2.1) ++ (sx (u a.2.2.1) ++ (sx (u a.2.2.2.1) ++ (tx a.2.2.2.2.1 ++ (tx a.2.2.2.2.2.1 ++ sx (a.2.2.2.2.2.2.length : Int))))))
noncomputable def enc (a : Ver) : List Int := hd a ++ a.2.2.2.2.2.2.flatMap ew
def Small (a : Ver) : Prop := a.2.2.2.2.1.size ≤ 100 ∧ a.2.2.2.2.2.1.size ≤ 100 ∧ a.2.2.2.2.2.2.length ≤ 100 ∧ ∀ m ∈ a.2.2.2.2.2.2, m.1.size ≤ 100 ∧ m.2.size ≤ 100
theorem gm_drop {l : List Mt} {i : Nat} (hi : i < l.length) : l.drop i = gm l i :: l.drop (i + 1) := by
  rw [List.drop_eq_getElem_cons hi, gm, List.getD_eq_getElem?_getD, List.getElem?_eq_getElem hi]
  rfl
theorem gm_mem {l : List Mt} {i : Nat} (hi : i < l.length) : gm l i ∈ l := by
  rw [gm, List.getD_eq_getElem?_getD, List.getElem?_eq_getElem hi]
  exact List.getElem_mem hi
theorem bytes_lo1 {a : Ver} (ha : Small a) : ∀ (j i k : Nat) (acc : List Int), i + j = a.2.2.2.2.2.2.length → j + 11 < k → acc.length + 220 * j ≤ 1000000 → record_Version_bytes.lo1 a k acc (i : Int) = some (acc ++ (a.2.2.2.2.2.2.drop i).flatMap ew) := by
  obtain ⟨_, _, h3, h4⟩ := ha
  generalize hL : a.2.2.2.2.2.2 = l at h3 h4
  intro j
  induction j with
  | zero =>
    intro i k acc hi hk hacc
    obtain ⟨k, rfl⟩ : ∃ m, k = m + 1 := ⟨k - 1, by omega⟩
    rw [record_Version_bytes.lo1, hL, if_neg (by omega), List.drop_of_length_le (by omega)]
    simp
  | succ j ih =>
    intro i k acc hi hk hacc
    obtain ⟨k, rfl⟩ : ∃ m, k = m + 1 := ⟨k - 1, by omega⟩
    have hm := h4 _ (gm_mem (l := l) (i := i) (by omega))
    have t1 := tx_le (s := (gm l i).1) (by omega)
    have t2 := tx_le (s := (gm l i).2) (by omega)
    rw [record_Version_bytes.lo1, hL, if_pos (by omega), if_pos (by omega), wi64 (by omega) (by omega), gm_drop (by omega)]
    simp only [lt, Int.toNat_natCast]
    show (record_texts_sits2.f k acc (gm l i).1 (gm l i).2).bind _ = _
    unfold record_texts_sits2.f
    rw [text_is (by omega) (by omega)]
    simp only [Option.bind_some]
    rw [text_is (by rw [List.length_append]; omega) (by omega)]
    simp only [Option.bind_some]
    have := ih (i + 1) k ((acc ++ tx (gm l i).1) ++ tx (gm l i).2) (by omega) (by omega) (by rw [List.length_append, List.length_append]; omega)
    rw [show ((i + 1 : Nat) : Int) = (i : Int) + 1 by omega] at this
    rw [this, List.flatMap_cons, ew]
    simp only [List.append_assoc]
theorem hd_le {a : Ver} (ha : Small a) : (hd a).length ≤ 300 := by
  obtain ⟨h1, h2, h3, _⟩ := ha
  have s1 := sx_le (u0 a.1) (u1 _)
  have s2 := sx_le (u0 a.2.1) (u1 _)
  have s3 := sx_le (u0 a.2.2.1) (u1 _)
  have s4 := sx_le (u0 a.2.2.2.1) (u1 _)
  have s5 := tx_le (s := a.2.2.2.2.1) (by omega)
  have s6 := tx_le (s := a.2.2.2.2.2.1) (by omega)
  have s7 := sx_le (v := (a.2.2.2.2.2.2.length : Int)) (by omega) (by omega)
  simp only [hd, List.length_append]
  omega
theorem bytes_val {a : Ver} (ha : Small a) {k : Nat} (hk : 200 ≤ k) : record_Version_bytes.f k a = some (enc a) := by
  have h1 := ha.1
  have h2 := ha.2.1
  have h3 := ha.2.2.1
  have s1 := sx_le (u0 a.1) (u1 _)
  have s2 := sx_le (u0 a.2.1) (u1 _)
  have s3 := sx_le (u0 a.2.2.1) (u1 _)
  have s4 := sx_le (u0 a.2.2.2.1) (u1 _)
  have s5 := tx_le (s := a.2.2.2.2.1) (by omega)
  have s6 := tx_le (s := a.2.2.2.2.2.1) (by omega)
  have s7 := sx_le (v := (a.2.2.2.2.2.2.length : Int)) (by omega) (by omega)
  have e : ∀ n, IntKind.wrap .u64 n = u n := wu64
  unfold record_Version_bytes.f record_shorts_sits4.f record_texts_sits2.f record_shorts_sits1.f
  simp only [e]
  rw [short_is (by simp) (u0 _) (u1 _) (by omega)]
  simp only [Option.bind_some, List.nil_append]
  rw [short_is (by omega) (u0 _) (u1 _) (by omega)]
  simp only [Option.bind_some]
  rw [short_is (by simp only [List.length_append]; omega) (u0 _) (u1 _) (by omega)]
  simp only [Option.bind_some]
  rw [short_is (by simp only [List.length_append]; omega) (u0 _) (u1 _) (by omega)]
  simp only [Option.bind_some]
  rw [text_is (by simp only [List.length_append]; omega) (by omega)]
  simp only [Option.bind_some]
  rw [text_is (by simp only [List.length_append]; omega) (by omega)]
  simp only [Option.bind_some]
  rw [short_is (by simp only [List.length_append]; omega) (u0 _) (u1 _) (by omega)]
  simp only [Option.bind_some]
  rw [show u (a.2.2.2.2.2.2.length : Int) = (a.2.2.2.2.2.2.length : Int) by unfold u; omega]
  have := bytes_lo1 ha a.2.2.2.2.2.2.length 0 k (hd a) (by omega) (by omega) (by have := hd_le ha; omega)
  rw [show ((0 : Nat) : Int) = 0 from rfl, List.drop_zero] at this
  unfold enc
  rw [← this]
  simp only [hd, List.append_assoc]
/-! ### What may be -/
def bare (a : Ver) : Bool := decide (a.2.2.1 = 0) && ((a.2.2.2.2.1.toList == (⟨#[]⟩ : ByteArray).toList) && ((a.2.2.2.2.2.1.toList == (⟨#[]⟩ : ByteArray).toList) && decide ((a.2.2.2.2.2.2.length : Int) = 0)))
noncomputable def rok (a : Ver) : Bool := decide (1 ≤ a.1 ∧ a.1 ≤ 1152921504606846976) && (decide (1 ≤ a.2.1 ∧ a.2.1 ≤ 4) && (decide (0 ≤ a.2.2.1 ∧ a.2.2.1 ≤ 65536) && (decide (0 ≤ a.2.2.2.1 ∧ a.2.2.2.1 ≤ 1099511627776) && (tex a.2.2.2.2.1 60 && (tex a.2.2.2.2.2.1 60 && ((wr a.2.2.2.2.2.2 a.2.2.2.2.2.2.length 0 && decide ((a.2.2.2.2.2.2.length : Int) ≤ 8)) && ((decide (a.2.1 = 1 ∨ a.2.1 = 3) || bare a) && decide (((enc a).length : Int) ≤ 400))))))))
theorem tex_le {s : ByteArray} {m : Int} (h : tex s m = true) : (s.size : Int) ≤ m := by
  unfold tex at h
  simp only [Bool.and_eq_true, decide_eq_true_eq] at h
  exact h.1
theorem within_val (k : Nat) (x a b : Int) : record_within.f k x a b = some (decide (a ≤ x ∧ x ≤ b)) := by
  unfold record_within.f
  by_cases h : x ≥ a
  · rw [if_pos h]; simp [show a ≤ x from h]
  · rw [if_neg h]; simp [show ¬ a ≤ x from h]
theorem bare_val (k : Nat) (a : Ver) : record_Version_bare.f k a = some (bare a) := by
  unfold record_Version_bare.f bare
  exact candn fun _ => andn fun _ => andn fun _ => rfl
theorem small_of {a : Ver} (h1 : tex a.2.2.2.2.1 60 = true) (h2 : tex a.2.2.2.2.2.1 60 = true) (h3 : wr a.2.2.2.2.2.2 a.2.2.2.2.2.2.length 0 = true) (h4 : (a.2.2.2.2.2.2.length : Int) ≤ 8) : Small a := by
  have := tex_le h1
  have := tex_le h2
  exact ⟨by omega, by omega, by omega, wr_small h3⟩
theorem right_val {a : Ver} {k : Nat} (hl : a.2.2.2.2.2.2.length ≤ 1000000) (hk : a.2.2.2.2.2.2.length + 200 ≤ k) : record_Right.f k a = some (rok a) := by
  unfold record_Right.f rok
  simp only [within_val, Option.bind_some]
  refine andn fun h1 => andn fun h2 => andn fun h3 => andn fun h4 => ?_
  rw [text_val (by omega) (by omega)]
  simp only [Option.bind_some]
  refine andn fun h5 => ?_
  rw [text_val (by omega) (by omega)]
  simp only [Option.bind_some]
  refine andn fun h6 => ?_
  have hw := words_lo1 (l := a.2.2.2.2.2.2) hl a.2.2.2.2.2.2.length 0 k (by omega) (by omega)
  rw [show ((0 : Nat) : Int) = 0 from rfl] at hw
  unfold record_words.f
  rw [hw]
  simp only [Option.bind_some]
  refine andn fun h7 => ?_
  rw [Bool.and_eq_true, decide_eq_true_eq] at h7
  have hb : record_Version_bytes.f k (a.1, a.2.1, a.2.2.1, a.2.2.2.1, a.2.2.2.2.1, a.2.2.2.2.2.1, a.2.2.2.2.2.2) = some (enc a) := bytes_val (small_of h5 h6 h7.1 h7.2) (by omega)
  rw [hb]
  have hz : record_Version_bare.f k (a.1, a.2.1, a.2.2.1, a.2.2.2.1, a.2.2.2.2.1, a.2.2.2.2.2.1, a.2.2.2.2.2.2) = some (bare a) := bare_val k a
  rw [hz]
  simp only [Option.bind_some]
  by_cases e1 : a.2.1 = 1
  · rw [if_pos e1, decide_eq_true (p := a.2.1 = 1 ∨ a.2.1 = 3) (.inl e1)]; rfl
  · rw [if_neg e1]
    by_cases e3 : a.2.1 = 3
    · rw [if_pos e3, decide_eq_true (p := a.2.1 = 1 ∨ a.2.1 = 3) (.inr e3)]; rfl
    · rw [if_neg e3, decide_eq_false (p := a.2.1 = 1 ∨ a.2.1 = 3) (by omega), Bool.false_or]
      exact andn fun _ => rfl
theorem rok_small {a : Ver} (h : rok a = true) : Small a ∧ (1 ≤ a.1 ∧ a.1 ≤ 1152921504606846976) ∧ (1 ≤ a.2.1 ∧ a.2.1 ≤ 4) ∧ (0 ≤ a.2.2.1 ∧ a.2.2.1 ≤ 65536) ∧ (0 ≤ a.2.2.2.1 ∧ a.2.2.2.1 ≤ 1099511627776) ∧ a.2.2.2.2.2.2.length ≤ 8 ∧ (enc a).length ≤ 400 := by
  unfold rok at h
  simp only [Bool.and_eq_true, decide_eq_true_eq] at h
  obtain ⟨b1, b2, b3, b4, b5, b6, ⟨b7, b8⟩, b9, b10⟩ := h
  exact ⟨small_of b5 b6 b7 b8, b1, b2, b3, b4, by omega, by omega⟩
noncomputable def putS (a : Ver) : List Int × Int := if rok a = true then (enc a, 0) else ([], 2)
theorem put_val {a : Ver} {k : Nat} (hl : a.2.2.2.2.2.2.length ≤ 1000000) (hk : a.2.2.2.2.2.2.length + 200 ≤ k) : record_Put.f k a = some (putS a) := by
  unfold record_Put.f putS
  have h : record_Right.f k (a.1, a.2.1, a.2.2.1, a.2.2.2.1, a.2.2.2.2.1, a.2.2.2.2.2.1, a.2.2.2.2.2.2) = some (rok a) := right_val (a := a) hl hk
  rw [h]
  simp only [Option.bind_some]
  by_cases e : rok a = true
  · have hb : record_Version_bytes.f k (a.1, a.2.1, a.2.2.1, a.2.2.2.1, a.2.2.2.2.1, a.2.2.2.2.2.1, a.2.2.2.2.2.2) = some (enc a) := bytes_val (rok_small e).1 (by omega)
    rw [if_pos e, if_pos e, hb]
    rfl
  · rw [if_neg e, if_neg e]
end Go.Proofs.Ythhhkphbhlafbaa.Rcv
