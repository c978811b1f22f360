/- What reading a version computes, in the program and in the document; no condition. -/
import Derived.Test.YthhhkphbhlafbaaRcv
namespace Go.Proofs.Ythhhkphbhlafbaa.Rrd
open Go Go.RowKit Go.Proofs.Ythhhkphbhlafbaa.Sx Go.Proofs.Ythhhkphbhlafbaa.G Go.Proofs.Ythhhkphbhlafbaa.Bt Go.Proofs.Ythhhkphbhlafbaa.Rcd Go.Proofs.Ythhhkphbhlafbaa.Rcv
set_option linter.unusedVariables false
set_option linter.unusedSimpArgs false
/-! ### What is laid is read -/
theorem rs_back {v : Int} (h0 : 0 ≤ v) (h1 : v < 18446744073709551616) {m : List Int} (hm : Bytes m) {k : Nat} (hk : 11 ≤ k) : codec_ReadShort.f k (sx v ++ m) = some (v, ((sx v).length : Int), 0) := by
  have hg := gr_is h0 h1
  rw [codec_ReadShort_val ((sx_bytes h0 h1).append hm) (sh_run h0 hg.2 hg.1 m) hk, sx_len h0 h1]
  exact congrArg some (sh_rd h0 h1 hg.2 hg.1 m)
theorem refRs_back {v : Int} (h0 : 0 ≤ v) (h1 : v < 18446744073709551616) {m : List Int} (hm : Bytes m) {k : Nat} (hk : 11 ≤ k) : shadowboxref01_ReadShort.f k (sx v ++ m) = some (v, ((sx v).length : Int), 0) := by
  have hg := gr_is h0 h1
  rw [ref_ReadShort_val ((sx_bytes h0 h1).append hm) (sh_run h0 hg.2 hg.1 m) hk, sx_len h0 h1]
  exact congrArg some (sh_rd h0 h1 hg.2 hg.1 m)
theorem rtS_back {s : ByteArray} (hs : s.size ≤ 400) (m : List Int) : rtS (tx s ++ m) (gr (s.size : Int) - 1) 400 = (s, ((tx s).length : Int), 0) := by
  have hg := gr_is (v := (s.size : Int)) (by omega) (by omega)
  have e : tx s ++ m = sh (gr (s.size : Int) - 1) (s.size : Int) ++ (bl s ++ m) := by
    rw [tx, List.append_assoc]; rfl
  have hl : (sh (gr (s.size : Int) - 1) (s.size : Int)).length = gr (s.size : Int) := sx_len (by omega) (by omega)
  have ht : (tx s).length = gr (s.size : Int) + s.size := by
    rw [tx, List.length_append, bl_length, sx_len (by omega) (by omega)]
  unfold rtS
  rw [e, sh_rd (by omega) (by omega) hg.2 hg.1]
  simp only [List.length_append, bl_length, hl, ht]
  rw [if_pos True.intro, if_neg (by omega), if_neg (by omega), if_neg (by omega)]
  congr 1
  rw [show (((gr (s.size : Int) : Nat) : Int) + (s.size : Int)).toNat = gr (s.size : Int) + s.size by omega, Int.toNat_natCast, ← List.append_assoc, List.take_append_of_le_length (by rw [List.length_append, bl_length, hl]; omega), List.take_of_length_le (by rw [List.length_append, bl_length, hl]; omega), List.drop_append_of_le_length (by omega), List.drop_of_length_le (by omega), List.nil_append, str_bl]
theorem rt_back {s : ByteArray} (hs : s.size ≤ 400) {m : List Int} (hm : Bytes m) (hl : m.length ≤ 1000000) {k : Nat} (hk : 11 ≤ k) : codec_ReadText.f k (tx s ++ m) 400 = some (s, ((tx s).length : Int), 0) := by
  have hg := gr_is (v := (s.size : Int)) (by omega) (by omega)
  have := tx_le (s := s) (by omega)
  rw [← rtS_back hs m]
  refine codec_ReadText_val ((tx_bytes (by omega)).append hm) (by rw [List.length_append]; omega) ?_ (by omega) hk
  rw [tx, List.append_assoc]
  exact sh_run (by omega) hg.2 hg.1 _
theorem refRt_back {s : ByteArray} (hs : s.size ≤ 400) {m : List Int} (hm : Bytes m) (hl : m.length ≤ 1000000) {k : Nat} (hk : 11 ≤ k) : shadowboxref01_ReadText.f k (tx s ++ m) 400 = some (s, ((tx s).length : Int), 0) := by
  have hg := gr_is (v := (s.size : Int)) (by omega) (by omega)
  have := tx_le (s := s) (by omega)
  rw [← rtS_back hs m]
  refine ref_ReadText_val ((tx_bytes (by omega)).append hm) (by rw [List.length_append]; omega) ?_ (by omega) hk
  rw [tx, List.append_assoc]
  exact sh_run (by omega) hg.2 hg.1 _
/-! ### Any bytes are read -/
def Ok (l : List Int) : Prop := Bytes l ∧ l.length ≤ 1000000
theorem Ok.drop {l : List Int} (h : Ok l) (n : Nat) : Ok (l.drop n) := ⟨h.1.drop n, by have := h.2; rw [List.length_drop]; omega⟩
theorem Ok.nil : Ok [] := ⟨Bytes.nil, by simp⟩
theorem rs_some {l : List Int} (h : Ok l) : ∃ (n x e : Int), (∀ k, 11 ≤ k → codec_ReadShort.f k l = some (n, x, e) ∧ shadowboxref01_ReadShort.f k l = some (n, x, e)) ∧ 0 ≤ x ∧ x ≤ (l.length : Int) := by
  obtain ⟨K, hR⟩ := run_ex l
  refine ⟨(rdK l K).1, (rdK l K).2.1, (rdK l K).2.2, fun k hk => ⟨codec_ReadShort_val h.1 hR hk, ref_ReadShort_val h.1 hR hk⟩, ?_⟩
  rcases rd_cases h.1 hR with e | e | ⟨h1, _, _, _, _, _, e⟩ <;> rw [e]
  · exact ⟨by simp, by simp⟩
  · exact ⟨by simp, by simp⟩
  · exact ⟨by show (0 : Int) ≤ (K : Int) + 1; omega, by show (K : Int) + 1 ≤ _; omega⟩
theorem rt_some {l : List Int} (h : Ok l) : ∃ (s : ByteArray) (x e : Int), (∀ k, 11 ≤ k → codec_ReadText.f k l 400 = some (s, x, e) ∧ shadowboxref01_ReadText.f k l 400 = some (s, x, e)) ∧ 0 ≤ x ∧ x ≤ (l.length : Int) := by
  obtain ⟨K, hR⟩ := run_ex l
  have h2 := h.2
  refine ⟨(rtS l K 400).1, (rtS l K 400).2.1, (rtS l K 400).2.2, fun k hk => ⟨codec_ReadText_val h.1 (by omega) hR (by omega) hk, ref_ReadText_val h.1 (by omega) hR (by omega) hk⟩, ?_⟩
  unfold rtS
  rcases rd_cases h.1 hR with e | e | ⟨h1, _, _, _, h5, _, e⟩ <;> rw [e]
  · exact ⟨by simp, by simp⟩
  · exact ⟨by simp, by simp⟩
  · simp only
    rw [if_pos True.intro, if_neg (by omega)]
    split
    · exact ⟨by simp, by simp⟩
    · split
      · exact ⟨by simp, by simp⟩
      · exact ⟨by show (0 : Int) ≤ (K : Int) + 1 + _; omega, by show (K : Int) + 1 + _ ≤ _; omega⟩
theorem num4_some {l : List Int} (h0 : Ok l) (b : Bool) (v : Ver) {k : Nat} (hk : 11 ≤ k) : ∃ l1 b1 v1, record_reader_numbers_sits_0f0_0f1_0f2_0f3.f k (l, b) v = some ((l1, b1), v1) ∧ Ok l1 := by
  unfold record_reader_numbers_sits_0f0_0f1_0f2_0f3.f
  obtain ⟨n0, x0, e0, E0, p0, q0⟩ := rs_some h0
  rw [show codec_ReadShort.f k _ = some (n0, x0, e0) from (E0 k hk).1]
  simp only [Option.bind_some, lt]
  by_cases c0 : e0 = 0
  case neg => rw [if_neg c0]; exact ⟨_, _, _, rfl, h0⟩
  rw [if_pos c0]
  by_cases d0 : n0 > 1152921504606846976
  case pos => rw [if_pos d0]; exact ⟨_, _, _, rfl, h0⟩
  rw [if_neg d0, if_pos p0, if_pos q0]
  have h1 := h0.drop x0.toNat
  obtain ⟨n1, x1, e1, E1, p1, q1⟩ := rs_some h1
  rw [show codec_ReadShort.f k _ = some (n1, x1, e1) from (E1 k hk).1]
  simp only [Option.bind_some, lt]
  by_cases c1 : e1 = 0
  case neg => rw [if_neg c1]; exact ⟨_, _, _, rfl, h1⟩
  rw [if_pos c1]
  by_cases d1 : n1 > 1152921504606846976
  case pos => rw [if_pos d1]; exact ⟨_, _, _, rfl, h1⟩
  rw [if_neg d1, if_pos p1, if_pos q1]
  have h2 := h1.drop x1.toNat
  obtain ⟨n2, x2, e2, E2, p2, q2⟩ := rs_some h2
  rw [show codec_ReadShort.f k _ = some (n2, x2, e2) from (E2 k hk).1]
  simp only [Option.bind_some, lt]
  by_cases c2 : e2 = 0
  case neg => rw [if_neg c2]; exact ⟨_, _, _, rfl, h2⟩
  rw [if_pos c2]
  by_cases d2 : n2 > 1152921504606846976
  case pos => rw [if_pos d2]; exact ⟨_, _, _, rfl, h2⟩
  rw [if_neg d2, if_pos p2, if_pos q2]
  have h3 := h2.drop x2.toNat
  obtain ⟨n3, x3, e3, E3, p3, q3⟩ := rs_some h3
  rw [show codec_ReadShort.f k _ = some (n3, x3, e3) from (E3 k hk).1]
  simp only [Option.bind_some, lt]
  by_cases c3 : e3 = 0
  case neg => rw [if_neg c3]; exact ⟨_, _, _, rfl, h3⟩
  rw [if_pos c3]
  by_cases d3 : n3 > 1152921504606846976
  case pos => rw [if_pos d3]; exact ⟨_, _, _, rfl, h3⟩
  rw [if_neg d3, if_pos p3, if_pos q3]
  have h4 := h3.drop x3.toNat
  exact ⟨_, _, _, rfl, h4⟩
theorem num1_some {l : List Int} (h0 : Ok l) (b : Bool) (v : Int) {k : Nat} (hk : 11 ≤ k) : ∃ l1 b1 v1, record_reader_numbers_sits_0.f k (l, b) v = some ((l1, b1), v1) ∧ Ok l1 := by
  unfold record_reader_numbers_sits_0.f
  obtain ⟨n0, x0, e0, E0, p0, q0⟩ := rs_some h0
  rw [show codec_ReadShort.f k _ = some (n0, x0, e0) from (E0 k hk).1]
  simp only [Option.bind_some, lt]
  by_cases c0 : e0 = 0
  case neg => rw [if_neg c0]; exact ⟨_, _, _, rfl, h0⟩
  rw [if_pos c0]
  by_cases d0 : n0 > 1152921504606846976
  case pos => rw [if_pos d0]; exact ⟨_, _, _, rfl, h0⟩
  rw [if_neg d0, if_pos p0, if_pos q0]
  exact ⟨_, _, _, rfl, h0.drop _⟩
theorem texts2_some {l : List Int} (h0 : Ok l) (b : Bool) (v : Ver) {k : Nat} (hk : 11 ≤ k) : ∃ l1 b1 v1, record_reader_texts_sits_0f4_0f5.f k (l, b) v = some ((l1, b1), v1) ∧ Ok l1 := by
  unfold record_reader_texts_sits_0f4_0f5.f
  obtain ⟨s0, x0, e0, E0, p0, q0⟩ := rt_some h0
  rw [show codec_ReadText.f k _ 400 = some (s0, x0, e0) from (E0 k hk).1]
  simp only [Option.bind_some, lt]
  have h1 := h0.drop x0.toNat
  obtain ⟨s1, x1, e1, E1, p1, q1⟩ := rt_some h1
  simp only [if_pos p0, if_pos q0]
  rw [show codec_ReadText.f k (l.drop x0.toNat) 400 = some (s1, x1, e1) from (E1 k hk).1]
  simp only [Option.bind_some, if_pos p1, if_pos q1]
  have h2 := h1.drop x1.toNat
  cases b
  · rw [if_neg (c := (false = true)) (by decide)]
    by_cases c : (!decide (e0 = 0)) = true
    · rw [if_pos c]; exact ⟨_, _, _, rfl, h2⟩
    · rw [if_neg c]; exact ⟨_, _, _, rfl, h2⟩
  · rw [if_pos rfl]
    exact ⟨_, _, _, rfl, h2⟩
theorem texts1_some {l : List Int} (h0 : Ok l) (b : Bool) (v : Mt) {k : Nat} (hk : 11 ≤ k) : ∃ l1 b1 v1, record_reader_texts_sits_0f0_0f1.f k (l, b) v = some ((l1, b1), v1) ∧ Ok l1 := by
  unfold record_reader_texts_sits_0f0_0f1.f
  obtain ⟨s0, x0, e0, E0, p0, q0⟩ := rt_some h0
  rw [show codec_ReadText.f k _ 400 = some (s0, x0, e0) from (E0 k hk).1]
  simp only [Option.bind_some, lt]
  have h1 := h0.drop x0.toNat
  obtain ⟨s1, x1, e1, E1, p1, q1⟩ := rt_some h1
  simp only [if_pos p0, if_pos q0]
  rw [show codec_ReadText.f k (l.drop x0.toNat) 400 = some (s1, x1, e1) from (E1 k hk).1]
  simp only [Option.bind_some, if_pos p1, if_pos q1]
  have h2 := h1.drop x1.toNat
  cases b
  · rw [if_neg (c := (false = true)) (by decide)]
    by_cases c : (!decide (e0 = 0)) = true
    · rw [if_pos c]; exact ⟨_, _, _, rfl, h2⟩
    · rw [if_neg c]; exact ⟨_, _, _, rfl, h2⟩
  · rw [if_pos rfl]
    exact ⟨_, _, _, rfl, h2⟩
/-! ### The program's answer -/
theorem bl_son {l : List Int} (h : Bytes l) : bl (strOfNums l) = l := by
  rw [bl, strOfNums_data, List.map_map]
  induction l with
  | nil => rfl
  | cons x r ih =>
    have := h x (by simp)
    rw [List.map_cons, ih (fun y hy => h y (by simp [hy]))]
    congr 1
    simp only [Function.comp_apply, UInt8.toNat_ofNat']
    omega
theorem son_inj {l m : List Int} (hl : Bytes l) (hm : Bytes m) (h : ((strOfNums l).toList == (strOfNums m).toList) = true) : l = m := by
  have h : (strOfNums l).toList = (strOfNums m).toList := by simpa using h
  rw [toList_data, toList_data] at h
  rw [← bl_son hl, ← bl_son hm, bl, bl, h]
theorem em_bytes {m : Mt} (h : m.1.size ≤ 100 ∧ m.2.size ≤ 100) : Bytes (ew m) := (tx_bytes (by omega)).append (tx_bytes (by omega))
theorem flat_bytes : ∀ {l : List Mt}, (∀ m ∈ l, m.1.size ≤ 100 ∧ m.2.size ≤ 100) → Bytes (l.flatMap ew) := by
  intro l
  induction l with
  | nil => intro h; exact Bytes.nil
  | cons x r ih =>
    intro h
    rw [List.flatMap_cons]
    exact (em_bytes (h x (by simp))).append (ih fun m hm => h m (by simp [hm]))
theorem flat_le : ∀ {l : List Mt}, (∀ m ∈ l, m.1.size ≤ 100 ∧ m.2.size ≤ 100) → (l.flatMap ew).length ≤ 220 * l.length := by
  intro l
  induction l with
  | nil => intro h; simp
  | cons x r ih =>
    intro h
    have h0 := h x (by simp)
    have := ih fun m hm => h m (by simp [hm])
    have t1 := tx_le (s := x.1) (by omega)
    have t2 := tx_le (s := x.2) (by omega)
    rw [List.flatMap_cons, List.length_append, ew, List.length_append, List.length_cons]
    omega
theorem hd_bytes {a : Ver} (h : Small a) : Bytes (hd a) := by
  obtain ⟨h1, h2, h3, _⟩ := h
  exact (sx_bytes (u0 _) (u1 _)).append ((sx_bytes (u0 _) (u1 _)).append ((sx_bytes (u0 _) (u1 _)).append ((sx_bytes (u0 _) (u1 _)).append ((tx_bytes (by omega)).append ((tx_bytes (by omega)).append (sx_bytes (by omega) (by omega)))))))
theorem enc_bytes {a : Ver} (h : Small a) : Bytes (enc a) := (hd_bytes h).append (flat_bytes h.2.2.2)
def zero : Ver := (0, 0, 0, 0, ByteArray.empty, ByteArray.empty, [])
/-- What a reading may answer: nothing, or the version that has these bytes. -/
def Ans (b : List Int) (r : Ver × Int) : Prop := r = (zero, 11) ∨ ∃ w, r = (w, 0) ∧ rok w = true ∧ enc w = b
theorem jo1_some {k : Nat} (hk : 400 ≤ k) {b : List Int} (hb : Bytes b) (l : List Int) (bad : Bool) {v : Ver} (hv : v.2.2.2.2.2.2.length ≤ 100) : ∃ r, record_Read.jo1 k b (l, bad) v = some r ∧ Ans b r ∧ (l = [] ∨ r = (zero, 11)) := by
  unfold record_Read.jo1
  cases bad
  case true => rw [if_pos rfl]; exact ⟨_, rfl, .inl rfl, .inr rfl⟩
  rw [if_neg (c := (false = true)) (by decide)]
  by_cases h1 : (l.length : Int) > 0
  · rw [if_pos h1]; exact ⟨_, rfl, .inl rfl, .inr rfl⟩
  rw [if_neg h1, show record_Right.f k (v.1, v.2.1, v.2.2.1, v.2.2.2.1, v.2.2.2.2.1, v.2.2.2.2.2.1, v.2.2.2.2.2.2) = some (rok v) from right_val (a := v) (by omega) (by omega)]
  simp only [Option.bind_some]
  have hl : l = [] := List.length_eq_zero_iff.1 (by omega)
  by_cases h2 : rok v = true
  · rw [if_pos h2, show record_Version_bytes.f k (v.1, v.2.1, v.2.2.1, v.2.2.2.1, v.2.2.2.2.1, v.2.2.2.2.2.1, v.2.2.2.2.2.2) = some (enc v) from bytes_val (rok_small h2).1 (by omega)]
    simp only [Option.bind_some, bytes_Equal.f]
    by_cases h3 : ((strOfNums (enc v)).toList == (strOfNums b).toList) = true
    · rw [if_pos h3]
      exact ⟨_, rfl, .inr ⟨v, rfl, h2, son_inj (enc_bytes (rok_small h2).1) hb h3⟩, .inl hl⟩
    · rw [if_neg h3]; exact ⟨_, rfl, .inl rfl, .inl hl⟩
  · rw [if_neg h2]; exact ⟨_, rfl, .inl rfl, .inl hl⟩
theorem jo1_back {k : Nat} (hk : 400 ≤ k) {v : Ver} (hv : rok v = true) : record_Read.jo1 k (enc v) ([], false) v = some (v, 0) := by
  unfold record_Read.jo1
  have h8 := (rok_small hv).2.2.2.2.2.1
  rw [if_neg (by decide), if_neg (by simp), show record_Right.f k (v.1, v.2.1, v.2.2.1, v.2.2.2.1, v.2.2.2.2.1, v.2.2.2.2.2.1, v.2.2.2.2.2.2) = some (rok v) from right_val (a := v) (by omega) (by omega)]
  simp only [Option.bind_some]
  rw [if_pos hv, show record_Version_bytes.f k (v.1, v.2.1, v.2.2.1, v.2.2.2.1, v.2.2.2.2.1, v.2.2.2.2.2.1, v.2.2.2.2.2.2) = some (enc v) from bytes_val (rok_small hv).1 (by omega)]
  simp only [Option.bind_some, bytes_Equal.f]
  rw [if_pos (by simp)]
theorem lo2_some {K : Nat} (hK : 400 ≤ K) {b : List Int} (hb : Bytes b) (t : (List Int × Bool) × Int) : ∀ (j i k : Nat) (l : List Int) (bad : Bool) (v : Ver), i + j = 9 → j + 11 < k → Ok l → v.2.2.2.2.2.2.length ≤ i → ∃ r, record_Read.lo2 t (record_Read.jo1 K b) k (i : Int) (l, bad) v = some r ∧ Ans b r := by
  intro j
  induction j with
  | zero =>
    intro i k l bad v hi hk hl hv
    obtain ⟨k, rfl⟩ : ∃ m, k = m + 1 := ⟨k - 1, by omega⟩
    obtain ⟨r, e, hr, _⟩ := jo1_some hK hb l bad (v := v) (by omega)
    rw [record_Read.lo2]
    refine ⟨r, ?_, hr⟩
    by_cases h1 : (i : Int) < t.2
    · rw [if_pos h1]
      by_cases h2 : bad = true
      · rw [if_pos h2]; exact e
      · rw [if_neg h2, if_neg (by omega)]; exact e
    · rw [if_neg h1]; exact e
  | succ j ih =>
    intro i k l bad v hi hk hl hv
    obtain ⟨k, rfl⟩ : ∃ m, k = m + 1 := ⟨k - 1, by omega⟩
    obtain ⟨r, e, hr, _⟩ := jo1_some hK hb l bad (v := v) (by omega)
    rw [record_Read.lo2]
    by_cases h1 : (i : Int) < t.2
    · rw [if_pos h1]
      by_cases h2 : bad = true
      · rw [if_pos h2]; exact ⟨r, e, hr⟩
      · rw [if_neg h2, if_pos (by omega)]
        obtain ⟨l1, b1, v1, e1, hl1⟩ := texts1_some hl bad (ByteArray.empty, ByteArray.empty) (k := k) (by omega)
        rw [e1]
        simp only [Option.bind_some]
        rw [if_pos (by simp; omega), wi64 (by omega) (by omega)]
        exact ih (i + 1) k l1 b1 (v.1, v.2.1, v.2.2.1, v.2.2.2.1, v.2.2.2.2.1, v.2.2.2.2.2.1, v.2.2.2.2.2.2 ++ [v1]) (by omega) (by omega) hl1 (by simp; omega)
    · rw [if_neg h1]; exact ⟨r, e, hr⟩
theorem read_some {k : Nat} (hk : 400 ≤ k) {b : List Int} (hb : Ok b) : ∃ r, record_Read.f k b = some r ∧ Ans b r := by
  unfold record_Read.f
  obtain ⟨l1, b1, v1, e1, h1⟩ := num4_some hb false ((0 : Int), (0 : Int), (0 : Int), (0 : Int), ByteArray.empty, ByteArray.empty, ([] : List (ByteArray × ByteArray))) (k := k) (by omega)
  rw [e1]
  simp only [Option.bind_some]
  obtain ⟨l2, b2, v2, e2, h2⟩ := texts2_some h1 b1 (v1.1, v1.2.1, v1.2.2.1, v1.2.2.2.1, v1.2.2.2.2.1, v1.2.2.2.2.2.1, ([] : List (ByteArray × ByteArray))) (k := k) (by omega)
  rw [e2]
  simp only [Option.bind_some]
  obtain ⟨l3, b3, n, e3, h3⟩ := num1_some h2 b2 0 (k := k) (by omega)
  rw [e3]
  simp only [Option.bind_some]
  exact lo2_some hk hb.1 ((l3, b3), n) 9 0 k l3 b3 (v2.1, v2.2.1, v2.2.2.1, v2.2.2.2.1, v2.2.2.2.2.1, v2.2.2.2.2.2.1, ([] : List (ByteArray × ByteArray))) (by omega) (by omega) h3 (by simp)
theorem drop_app (l m : List Int) : (l ++ m).drop ((l.length : Int)).toNat = m := by
  rw [Int.toNat_natCast]
  simp
theorem le_app (l m : List Int) : ((l.length : Nat) : Int) ≤ ((l ++ m).length : Int) := by
  rw [List.length_append]; omega
theorem Ok.app {l m : List Int} (h : Bytes l) (h2 : l.length ≤ 1000) (hm : Ok m) : m.length ≤ 900000 → Ok (l ++ m) := fun h3 => ⟨h.append hm.1, by rw [List.length_append]; omega⟩
theorem num1_back {v : Int} (h0 : 0 ≤ v) (h1 : v ≤ 1152921504606846976) {m : List Int} (hm : Bytes m) (x : Int) {k : Nat} (hk : 11 ≤ k) : record_reader_numbers_sits_0.f k (sx v ++ m, false) x = some ((m, false), v) := by
  unfold record_reader_numbers_sits_0.f
  rw [show codec_ReadShort.f k (sx v ++ m, false).1 = some (v, ((sx v).length : Int), 0) from rs_back h0 (by omega) hm hk]
  simp only [Option.bind_some, lt]
  rw [if_pos True.intro, if_neg (by omega), if_pos (by omega), if_pos (le_app _ _), drop_app, wi64 (by omega) (by omega)]
theorem num4_back {v0 v1 v2 v3 : Int} (a0 : 0 ≤ v0 ∧ v0 ≤ 1152921504606846976) (a1 : 0 ≤ v1 ∧ v1 ≤ 1152921504606846976) (a2 : 0 ≤ v2 ∧ v2 ≤ 1152921504606846976) (a3 : 0 ≤ v3 ∧ v3 ≤ 1152921504606846976) {m : List Int} (hm : Bytes m) (v : Ver) {k : Nat} (hk : 11 ≤ k) : record_reader_numbers_sits_0f0_0f1_0f2_0f3.f k (sx v0 ++ (sx v1 ++ (sx v2 ++ (sx v3 ++ m))), false) v = some ((m, false), (v0, v1, v2, v3, v.2.2.2.2.1, v.2.2.2.2.2.1, v.2.2.2.2.2.2)) := by
  have b3 : Bytes (sx v3 ++ m) := (sx_bytes a3.1 (by omega)).append hm
  have b2 : Bytes (sx v2 ++ (sx v3 ++ m)) := (sx_bytes a2.1 (by omega)).append b3
  have b1 : Bytes (sx v1 ++ (sx v2 ++ (sx v3 ++ m))) := (sx_bytes a1.1 (by omega)).append b2
  unfold record_reader_numbers_sits_0f0_0f1_0f2_0f3.f
  simp only [lt]
  rw [rs_back a0.1 (by omega) b1 hk]
  simp only [Option.bind_some]
  rw [if_pos True.intro, if_neg (by omega), if_pos (by omega), if_pos (le_app _ _), drop_app, rs_back a1.1 (by omega) b2 hk]
  simp only [Option.bind_some]
  rw [if_pos True.intro, if_neg (by omega), if_pos (by omega), if_pos (le_app _ _), drop_app, rs_back a2.1 (by omega) b3 hk]
  simp only [Option.bind_some]
  rw [if_pos True.intro, if_neg (by omega), if_pos (by omega), if_pos (le_app _ _), drop_app, rs_back a3.1 (by omega) hm hk]
  simp only [Option.bind_some]
  rw [if_pos True.intro, if_neg (by omega), if_pos (by omega), if_pos (le_app _ _), drop_app, wi64 (n := v0) (by omega) (by omega), wi64 (n := v1) (by omega) (by omega), wi64 (n := v2) (by omega) (by omega), wi64 (n := v3) (by omega) (by omega)]
theorem texts2_back {s t : ByteArray} (hs : s.size ≤ 400) (ht : t.size ≤ 400) {m : List Int} (hm : Bytes m) (hl : m.length ≤ 900000) (v : Ver) {k : Nat} (hk : 11 ≤ k) : record_reader_texts_sits_0f4_0f5.f k (tx s ++ (tx t ++ m), false) v = some ((m, false), (v.1, v.2.1, v.2.2.1, v.2.2.2.1, s, t, v.2.2.2.2.2.2)) := by
  have := tx_le (s := t) (by omega)
  unfold record_reader_texts_sits_0f4_0f5.f
  simp only [lt]
  rw [rt_back hs ((tx_bytes (by omega)).append hm) (by rw [List.length_append]; omega) hk]
  simp only [Option.bind_some]
  rw [if_neg (by decide), if_pos (by omega), if_pos (le_app _ _), drop_app, rt_back ht hm (by omega) hk]
  simp only [Option.bind_some]
  rw [if_neg (by simp), if_pos (by omega), if_pos (le_app _ _), drop_app]
  rfl
theorem texts1_back {s t : ByteArray} (hs : s.size ≤ 400) (ht : t.size ≤ 400) {m : List Int} (hm : Bytes m) (hl : m.length ≤ 900000) (v : Mt) {k : Nat} (hk : 11 ≤ k) : record_reader_texts_sits_0f0_0f1.f k (tx s ++ (tx t ++ m), false) v = some ((m, false), (s, t)) := by
  have := tx_le (s := t) (by omega)
  unfold record_reader_texts_sits_0f0_0f1.f
  simp only [lt]
  rw [rt_back hs ((tx_bytes (by omega)).append hm) (by rw [List.length_append]; omega) hk]
  simp only [Option.bind_some]
  rw [if_neg (by decide), if_pos (by omega), if_pos (le_app _ _), drop_app, rt_back ht hm (by omega) hk]
  simp only [Option.bind_some]
  rw [if_neg (by simp), if_pos (by omega), if_pos (le_app _ _), drop_app]
  rfl
theorem lo2_back {v : Ver} (hv : rok v = true) {m : List Int} (hm : Bytes m) (hml : m.length ≤ 1000) (J : (List Int × Bool) → Ver → Option (Ver × Int)) (t : (List Int × Bool) × Int) (ht : t.2 = (v.2.2.2.2.2.2.length : Int)) : ∀ (j i k : Nat), i + j = v.2.2.2.2.2.2.length → j + 11 < k → record_Read.lo2 t J k (i : Int) ((v.2.2.2.2.2.2.drop i).flatMap ew ++ m, false) (v.1, v.2.1, v.2.2.1, v.2.2.2.1, v.2.2.2.2.1, v.2.2.2.2.2.1, v.2.2.2.2.2.2.take i) = J (m, false) v := by
  obtain ⟨⟨_, _, _, hs⟩, _, _, _, _, h8, _⟩ := rok_small hv
  intro j
  induction j with
  | zero =>
    intro i k hi hk
    obtain ⟨k, rfl⟩ : ∃ m, k = m + 1 := ⟨k - 1, by omega⟩
    rw [record_Read.lo2, if_neg (by omega), List.drop_of_length_le (by omega), List.take_of_length_le (by omega)]
    rfl
  | succ j ih =>
    intro i k hi hk
    obtain ⟨k, rfl⟩ : ∃ m, k = m + 1 := ⟨k - 1, by omega⟩
    have hi' : i < v.2.2.2.2.2.2.length := by omega
    have hg := hs _ (gm_mem hi')
    have hr : ∀ m ∈ v.2.2.2.2.2.2.drop (i + 1), m.1.size ≤ 100 ∧ m.2.size ≤ 100 := fun m hm => hs m (List.mem_of_mem_drop hm)
    have hfl := flat_le hr
    rw [List.length_drop] at hfl
    rw [record_Read.lo2, if_pos (by omega), if_neg (c := (false = true)) (by decide), if_pos (by omega), gm_drop hi', List.flatMap_cons, ew, List.append_assoc, List.append_assoc]
    rw [show ∀ (x : List Int), ((x, false) : List Int × Bool).1 = x from fun _ => rfl, texts1_back (by omega) (by omega) ((flat_bytes hr).append hm) (by rw [List.length_append]; omega) _ (by omega)]
    simp only [Option.bind_some]
    rw [if_pos (by simp; omega), wi64 (by omega) (by omega)]
    have := ih (i + 1) k (by omega) (by omega)
    rw [show ((i + 1 : Nat) : Int) = (i : Int) + 1 by omega] at this
    rw [← this]
    congr 1
    have e : v.2.2.2.2.2.2.take (i + 1) = v.2.2.2.2.2.2.take i ++ [gm v.2.2.2.2.2.2 i] := by
      rw [List.take_succ_eq_append_getElem hi', gm, List.getD_eq_getElem?_getD, List.getElem?_eq_getElem hi']
      rfl
    rw [e]
theorem u_id {v : Int} (h0 : 0 ≤ v) (h1 : v ≤ 1152921504606846976) : u v = v := by unfold u; omega
theorem read_back {v : Ver} (hv : rok v = true) {m : List Int} (hm : Bytes m) (hml : m.length ≤ 1000) {k : Nat} (hk : 400 ≤ k) : record_Read.f k (enc v ++ m) = record_Read.jo1 k (enc v ++ m) (m, false) v := by
  obtain ⟨⟨t1, t2, _, hs⟩, r1, r2, r3, r4, h8, _⟩ := rok_small hv
  have hf := (flat_bytes hs).append hm
  have hfl := flat_le hs
  have hn : Bytes (sx (v.2.2.2.2.2.2.length : Int) ++ (v.2.2.2.2.2.2.flatMap ew ++ m)) := (sx_bytes (by omega) (by omega)).append hf
  have hnl := sx_le (v := (v.2.2.2.2.2.2.length : Int)) (by omega) (by omega)
  have x1 := tx_le (s := v.2.2.2.2.1) (by omega)
  have x2 := tx_le (s := v.2.2.2.2.2.1) (by omega)
  have e : enc v ++ m = sx v.1 ++ (sx v.2.1 ++ (sx v.2.2.1 ++ (sx v.2.2.2.1 ++ (tx v.2.2.2.2.1 ++ (tx v.2.2.2.2.2.1 ++ (sx (v.2.2.2.2.2.2.length : Int) ++ (v.2.2.2.2.2.2.flatMap ew ++ m))))))) := by
    unfold enc hd
    rw [u_id (by omega) r1.2, u_id (by omega) (by omega), u_id r3.1 (by omega), u_id r4.1 (by omega)]
    simp only [List.append_assoc]
  unfold record_Read.f
  generalize hJ : record_Read.jo1 k (enc v ++ m) = J
  rw [e, num4_back (by omega) (by omega) (by omega) (by omega) ((tx_bytes (by omega)).append ((tx_bytes (by omega)).append hn)) _ (by omega)]
  simp only [Option.bind_some]
  rw [texts2_back (by omega) (by omega) hn (by rw [List.length_append, List.length_append]; omega) _ (by omega)]
  simp only [Option.bind_some]
  rw [num1_back (by omega) (by omega) hf _ (by omega)]
  simp only [Option.bind_some]
  exact lo2_back hv hm hml J _ rfl v.2.2.2.2.2.2.length 0 k (by omega) (by omega)
/-! ### The document's answer -/
theorem number_some {l : List Int} (h : Ok l) {k : Nat} (hk : 11 ≤ k) : ∃ n l1, shadowboxref36_number.f k l = some (n, l1) ∧ Ok l1 := by
  unfold shadowboxref36_number.f
  obtain ⟨n0, x0, e0, E0, p0, q0⟩ := rs_some h
  rw [(E0 k hk).2]
  simp only [Option.bind_some, lt]
  by_cases c0 : e0 = 0
  case neg => rw [if_neg c0]; exact ⟨_, _, rfl, Ok.nil⟩
  rw [if_pos c0]
  by_cases d0 : n0 > 1152921504606846976
  case pos => rw [if_pos d0]; exact ⟨_, _, rfl, Ok.nil⟩
  rw [if_neg d0, if_pos p0, if_pos q0]
  exact ⟨_, _, rfl, h.drop _⟩
theorem text_some {l : List Int} (h : Ok l) {k : Nat} (hk : 11 ≤ k) : ∃ s l1, shadowboxref36_text.f k l = some (s, l1) ∧ Ok l1 := by
  unfold shadowboxref36_text.f
  obtain ⟨n0, x0, e0, E0, p0, q0⟩ := rt_some h
  rw [(E0 k hk).2]
  simp only [Option.bind_some, lt]
  by_cases c0 : e0 = 0
  case neg => rw [if_neg c0]; exact ⟨_, _, rfl, Ok.nil⟩
  rw [if_pos c0, if_pos p0, if_pos q0]
  exact ⟨_, _, rfl, h.drop _⟩
/-- The document's last step. -/
theorem last_some {b : List Int} (hb : Bytes b) (v : Ver) {k : Nat} (hk : 300 ≤ k) : ∃ r, ((shadowboxref36_Put.f k (v.1, v.2.1, v.2.2.1, v.2.2.2.1, v.2.2.2.2.1, v.2.2.2.2.2.1, v.2.2.2.2.2.2)).bind fun t64 => (if t64.2 = (0 : Int) then (if ((strOfNums t64.1).toList == (strOfNums b).toList) = true then some ((v.1, v.2.1, v.2.2.1, v.2.2.2.1, v.2.2.2.2.1, v.2.2.2.2.2.1, v.2.2.2.2.2.2), (0 : Int)) else some (((0 : Int), (0 : Int), (0 : Int), (0 : Int), ByteArray.empty, ByteArray.empty, ([] : List (ByteArray × ByteArray))), (11 : Int))) else some (((0 : Int), (0 : Int), (0 : Int), (0 : Int), ByteArray.empty, ByteArray.empty, ([] : List (ByteArray × ByteArray))), (11 : Int)))) = some r ∧ Ans b r := by
  rw [show shadowboxref36_Put.f k (v.1, v.2.1, v.2.2.1, v.2.2.2.1, v.2.2.2.2.1, v.2.2.2.2.2.1, v.2.2.2.2.2.2) = some (putS v) from refPut_val (a := v) hk]
  simp only [Option.bind_some, putS]
  by_cases h : rok v = true
  · rw [if_pos h]
    simp only
    rw [if_pos True.intro]
    by_cases h3 : ((strOfNums (enc v)).toList == (strOfNums b).toList) = true
    · rw [if_pos h3]
      exact ⟨_, rfl, .inr ⟨v, rfl, h, son_inj (enc_bytes (rok_small h).1) hb h3⟩⟩
    · rw [if_neg h3]; exact ⟨_, rfl, .inl rfl⟩
  · rw [if_neg h]
    simp only
    rw [if_neg (by decide)]
    exact ⟨_, rfl, .inl rfl⟩
theorem last_back {v : Ver} (hv : rok v = true) {k : Nat} (hk : 300 ≤ k) : ((shadowboxref36_Put.f k (v.1, v.2.1, v.2.2.1, v.2.2.2.1, v.2.2.2.2.1, v.2.2.2.2.2.1, v.2.2.2.2.2.2)).bind fun t64 => (if t64.2 = (0 : Int) then (if ((strOfNums t64.1).toList == (strOfNums (enc v)).toList) = true then some ((v.1, v.2.1, v.2.2.1, v.2.2.2.1, v.2.2.2.2.1, v.2.2.2.2.2.1, v.2.2.2.2.2.2), (0 : Int)) else some (((0 : Int), (0 : Int), (0 : Int), (0 : Int), ByteArray.empty, ByteArray.empty, ([] : List (ByteArray × ByteArray))), (11 : Int))) else some (((0 : Int), (0 : Int), (0 : Int), (0 : Int), ByteArray.empty, ByteArray.empty, ([] : List (ByteArray × ByteArray))), (11 : Int)))) = some (v, 0) := by
  rw [show shadowboxref36_Put.f k (v.1, v.2.1, v.2.2.1, v.2.2.2.1, v.2.2.2.2.1, v.2.2.2.2.2.1, v.2.2.2.2.2.2) = some (putS v) from refPut_val (a := v) hk]
  simp only [Option.bind_some, putS]
  rw [if_pos hv]
  simp only
  rw [if_pos True.intro, if_pos (by simp)]
theorem rlo1_some {b : List Int} (hb : Bytes b) (t : Int × List Int) : ∀ (j i k : Nat) (l : List Int) (v : Ver), i + j = 9 → j + 300 < k → Ok l → v.2.2.2.2.2.2.length ≤ i → ∃ r, shadowboxref36_Read.lo1 b t k l (i : Int) v = some r ∧ Ans b r := by
  intro j
  induction j with
  | zero =>
    intro i k l v hi hk hl hv
    obtain ⟨k, rfl⟩ : ∃ m, k = m + 1 := ⟨k - 1, by omega⟩
    rw [shadowboxref36_Read.lo1]
    by_cases h1 : (i : Int) < t.1
    · rw [if_pos h1, if_neg (by omega)]; exact last_some hb v (by omega)
    · rw [if_neg h1]; exact last_some hb v (by omega)
  | succ j ih =>
    intro i k l v hi hk hl hv
    obtain ⟨k, rfl⟩ : ∃ m, k = m + 1 := ⟨k - 1, by omega⟩
    rw [shadowboxref36_Read.lo1]
    by_cases h1 : (i : Int) < t.1
    · rw [if_pos h1, if_pos (by omega)]
      unfold shadowboxref36_Read.jo2
      obtain ⟨s1, l1, e1, h1⟩ := text_some hl (k := k) (by omega)
      rw [e1]
      simp only [Option.bind_some]
      obtain ⟨s2, l2, e2, h2⟩ := text_some h1 (k := k) (by omega)
      rw [e2]
      simp only [Option.bind_some]
      rw [if_pos (by simp; omega), wi64 (by omega) (by omega)]
      exact ih (i + 1) k l2 (v.1, v.2.1, v.2.2.1, v.2.2.2.1, v.2.2.2.2.1, v.2.2.2.2.2.1, v.2.2.2.2.2.2 ++ [(s1, s2)]) (by omega) (by omega) h2 (by simp; omega)
    · rw [if_neg h1]; exact last_some hb v (by omega)
theorem refRead_some {k : Nat} (hk : 400 ≤ k) {b : List Int} (hb : Ok b) : ∃ r, shadowboxref36_Read.f k b = some r ∧ Ans b r := by
  unfold shadowboxref36_Read.f
  obtain ⟨n1, l1, e1, h1⟩ := number_some hb (k := k) (by omega)
  rw [e1]
  simp only [Option.bind_some]
  obtain ⟨n2, l2, e2, h2⟩ := number_some h1 (k := k) (by omega)
  rw [e2]
  simp only [Option.bind_some]
  obtain ⟨n3, l3, e3, h3⟩ := number_some h2 (k := k) (by omega)
  rw [e3]
  simp only [Option.bind_some]
  obtain ⟨n4, l4, e4, h4⟩ := number_some h3 (k := k) (by omega)
  rw [e4]
  simp only [Option.bind_some]
  obtain ⟨n5, l5, e5, h5⟩ := text_some h4 (k := k) (by omega)
  rw [e5]
  simp only [Option.bind_some]
  obtain ⟨n6, l6, e6, h6⟩ := text_some h5 (k := k) (by omega)
  rw [e6]
  simp only [Option.bind_some]
  obtain ⟨n7, l7, e7, h7⟩ := number_some h6 (k := k) (by omega)
  rw [e7]
  simp only [Option.bind_some]
  exact rlo1_some hb.1 (n7, l7) 9 0 k l7 (n1, n2, n3, n4, n5, n6, []) (by omega) (by omega) h7 (by simp)
theorem number_back {v : Int} (h0 : 0 ≤ v) (h1 : v ≤ 1152921504606846976) {m : List Int} (hm : Bytes m) {k : Nat} (hk : 11 ≤ k) : shadowboxref36_number.f k (sx v ++ m) = some (v, m) := by
  unfold shadowboxref36_number.f
  rw [refRs_back h0 (by omega) hm hk]
  simp only [Option.bind_some, lt]
  rw [if_pos True.intro, if_neg (by omega), if_pos (by omega), if_pos (le_app _ _), drop_app, wi64 (by omega) (by omega)]
theorem text_back {s : ByteArray} (hs : s.size ≤ 400) {m : List Int} (hm : Bytes m) (hl : m.length ≤ 1000000) {k : Nat} (hk : 11 ≤ k) : shadowboxref36_text.f k (tx s ++ m) = some (s, m) := by
  unfold shadowboxref36_text.f
  rw [refRt_back hs hm hl hk]
  simp only [Option.bind_some, lt]
  rw [if_pos True.intro, if_pos (by omega), if_pos (le_app _ _), drop_app]
theorem rlo1_back {v : Ver} (hv : rok v = true) (t : Int × List Int) (ht : t.1 = (v.2.2.2.2.2.2.length : Int)) : ∀ (j i k : Nat), i + j = v.2.2.2.2.2.2.length → j + 300 < k → shadowboxref36_Read.lo1 (enc v) t k ((v.2.2.2.2.2.2.drop i).flatMap ew) (i : Int) (v.1, v.2.1, v.2.2.1, v.2.2.2.1, v.2.2.2.2.1, v.2.2.2.2.2.1, v.2.2.2.2.2.2.take i) = some (v, 0) := by
  obtain ⟨⟨_, _, _, hs⟩, _, _, _, _, h8, _⟩ := rok_small hv
  intro j
  induction j with
  | zero =>
    intro i k hi hk
    obtain ⟨k, rfl⟩ : ∃ m, k = m + 1 := ⟨k - 1, by omega⟩
    rw [shadowboxref36_Read.lo1, if_neg (by omega), List.take_of_length_le (by omega)]
    exact last_back hv (by omega)
  | succ j ih =>
    intro i k hi hk
    obtain ⟨k, rfl⟩ : ∃ m, k = m + 1 := ⟨k - 1, by omega⟩
    have hi' : i < v.2.2.2.2.2.2.length := by omega
    have hg := hs _ (gm_mem hi')
    have hr : ∀ m ∈ v.2.2.2.2.2.2.drop (i + 1), m.1.size ≤ 100 ∧ m.2.size ≤ 100 := fun m hm => hs m (List.mem_of_mem_drop hm)
    have hfl := flat_le hr
    rw [List.length_drop] at hfl
    have x2 := tx_le (s := (gm v.2.2.2.2.2.2 i).2) (by omega)
    rw [shadowboxref36_Read.lo1, if_pos (by omega), if_pos (by omega), gm_drop hi', List.flatMap_cons, ew, List.append_assoc]
    unfold shadowboxref36_Read.jo2
    rw [text_back (by omega) ((tx_bytes (by omega)).append (flat_bytes hr)) (by rw [List.length_append]; omega) (by omega)]
    simp only [Option.bind_some]
    rw [text_back (by omega) (flat_bytes hr) (by omega) (by omega)]
    simp only [Option.bind_some]
    rw [if_pos (by simp; omega), wi64 (by omega) (by omega)]
    have := ih (i + 1) k (by omega) (by omega)
    rw [show ((i + 1 : Nat) : Int) = (i : Int) + 1 by omega] at this
    rw [← this]
    congr 1
    have e : v.2.2.2.2.2.2.take (i + 1) = v.2.2.2.2.2.2.take i ++ [gm v.2.2.2.2.2.2 i] := by
      rw [List.take_succ_eq_append_getElem hi', gm, List.getD_eq_getElem?_getD, List.getElem?_eq_getElem hi']
      rfl
    rw [e]
theorem refRead_back {v : Ver} (hv : rok v = true) {k : Nat} (hk : 400 ≤ k) : shadowboxref36_Read.f k (enc v) = some (v, 0) := by
  obtain ⟨⟨t1, t2, _, hs⟩, r1, r2, r3, r4, h8, _⟩ := rok_small hv
  have hf := flat_bytes hs
  have hfl := flat_le hs
  have hn : Bytes (sx (v.2.2.2.2.2.2.length : Int) ++ v.2.2.2.2.2.2.flatMap ew) := (sx_bytes (by omega) (by omega)).append hf
  have hnl := sx_le (v := (v.2.2.2.2.2.2.length : Int)) (by omega) (by omega)
  have x1 := tx_le (s := v.2.2.2.2.1) (by omega)
  have x2 := tx_le (s := v.2.2.2.2.2.1) (by omega)
  have e : enc v = sx v.1 ++ (sx v.2.1 ++ (sx v.2.2.1 ++ (sx v.2.2.2.1 ++ (tx v.2.2.2.2.1 ++ (tx v.2.2.2.2.2.1 ++ (sx (v.2.2.2.2.2.2.length : Int) ++ v.2.2.2.2.2.2.flatMap ew)))))) := by
    unfold enc hd
    rw [u_id (by omega) r1.2, u_id (by omega) (by omega), u_id r3.1 (by omega), u_id r4.1 (by omega)]
    simp only [List.append_assoc]
  have b2 := (tx_bytes (s := v.2.2.2.2.2.1) (by omega)).append hn
  have b1 := (tx_bytes (s := v.2.2.2.2.1) (by omega)).append b2
  have c4 := (sx_bytes (v := v.2.2.2.1) (by omega) (by omega)).append b1
  have c3 := (sx_bytes (v := v.2.2.1) (by omega) (by omega)).append c4
  have c2 := (sx_bytes (v := v.2.1) (by omega) (by omega)).append c3
  unfold shadowboxref36_Read.f
  have key := rlo1_back hv ((v.2.2.2.2.2.2.length : Int), v.2.2.2.2.2.2.flatMap ew) rfl v.2.2.2.2.2.2.length 0 k (by omega) (by omega)
  generalize hJ : shadowboxref36_Read.lo1 (enc v) = J at key
  rw [e, number_back (by omega) (by omega) c2 (by omega)]
  simp only [Option.bind_some]
  rw [number_back (by omega) (by omega) c3 (by omega)]
  simp only [Option.bind_some]
  rw [number_back (by omega) (by omega) c4 (by omega)]
  simp only [Option.bind_some]
  rw [number_back (by omega) (by omega) b1 (by omega)]
  simp only [Option.bind_some]
  rw [text_back (by omega) b2 (by rw [List.length_append, List.length_append]; omega) (by omega)]
  simp only [Option.bind_some]
  rw [text_back (by omega) hn (by rw [List.length_append]; omega) (by omega)]
  simp only [Option.bind_some]
  rw [number_back (by omega) (by omega) hf (by omega)]
  simp only [Option.bind_some]
  exact key
/-- Both read alike. -/
theorem read_both {k : Nat} (hk : 400 ≤ k) {b : List Int} (hb : Ok b) : ∃ r, record_Read.f k b = some r ∧ shadowboxref36_Read.f k b = some r ∧ r.1.2.2.2.2.2.2.length ≤ 8 := by
  obtain ⟨r, e, hr⟩ := read_some hk hb
  obtain ⟨q, f, hq⟩ := refRead_some hk hb
  rcases hr with rfl | ⟨w, rfl, hw, hwb⟩
  · rcases hq with rfl | ⟨w, rfl, hw, hwb⟩
    · exact ⟨_, e, f, by simp [zero]⟩
    · have := read_back hw Bytes.nil (by simp) hk
      rw [List.append_nil, jo1_back hk hw, hwb, e] at this
      cases this
  · have := refRead_back hw hk
    rw [hwb] at this
    exact ⟨_, e, this, (rok_small hw).2.2.2.2.2.1⟩
end Go.Proofs.Ythhhkphbhlafbaa.Rrd
