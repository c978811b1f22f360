/- What reading a version computes, in the program and in the document; no condition. -/
import Derived.Test.YthhhkphbhlafbaaRcv
namespace Go.Proofs.Ythhhkphbhlafbaa.Rrd
open Go Go.RowKit Go.Proofs.Ythhhkphbhlafbaa.Sx Go.Proofs.Ythhhkphbhlafbaa.G Go.Proofs.Ythhhkphbhlafbaa.Bt Go.Proofs.Ythhhkphbhlafbaa.Rcd Go.Proofs.Ythhhkphbhlafbaa.Rcv
set_option linter.unusedVariables false
set_option linter.unusedSimpArgs false
/-! ### What is laid is read -/
theorem rs_back {v : Int} (h0 : 0 ≤ v) (h1 : v < 18446744073709551616) {m : List Int} (hm : Bytes m) {k : Nat} (hk : 11 ≤ k) : codec_ReadShort.f k (sx v ++ m) = some (v, ((sx v).length : Int), 0) := by
  have hg := gr_is h0 h1
  rw [codec_ReadShort_val ((sx_bytes h0 h1).append hm) (sh_run h0 hg.2 hg.1 m) hk, sx_len h0 h1]
  exact congrArg some (sh_rd h0 h1 hg.2 hg.1 m)
theorem rtS_back {s : ByteArray} (hs : s.size ≤ 400) (m : List Int) : rtS (tx s ++ m) (gr (s.size : Int) - 1) 400 = (s, ((tx s).length : Int), 0) := by
  have hg := gr_is (v := (s.size : Int)) (by omega) (by omega)
  have e : tx s ++ m = sh (gr (s.size : Int) - 1) (s.size : Int) ++ (bl s ++ m) := by
    rw [tx, List.append_assoc]; rfl
  have hl : (sh (gr (s.size : Int) - 1) (s.size : Int)).length = gr (s.size : Int) := sx_len (by omega) (by omega)
  have ht : (tx s).length = gr (s.size : Int) + s.size := by
    rw [tx, List.length_append, bl_length, sx_len (by omega) (by omega)]
  unfold rtS
  rw [e, sh_rd (by omega) (by omega) hg.2 hg.1]
  simp only [List.length_append, bl_length, hl, ht]
  rw [if_pos True.intro, if_neg (by omega), if_neg (by omega), if_neg (by omega)]
  congr 1
  rw [show (((gr (s.size : Int) : Nat) : Int) + (s.size : Int)).toNat = gr (s.size : Int) + s.size by omega, Int.toNat_natCast, ← List.append_assoc, List.take_append_of_le_length (by rw [List.length_append, bl_length, hl]; omega), List.take_of_length_le (by rw [List.length_append, bl_length, hl]; omega), List.drop_append_of_le_length (by omega), List.drop_of_length_le (by omega), List.nil_append, str_bl]
theorem rt_back {s : ByteArray} (hs : s.size ≤ 400) {m : List Int} (hm : Bytes m) (hl : m.length ≤ 1000000) {k : Nat} (hk : 11 ≤ k) : codec_ReadText.f k (tx s ++ m) 400 = some (s, ((tx s).length : Int), 0) := by
  have hg := gr_is (v := (s.size : Int)) (by omega) (by omega)
  have := tx_le (s := s) (by omega)
  rw [← rtS_back hs m]
  refine codec_ReadText_val ((tx_bytes (by omega)).append hm) (by rw [List.length_append]; omega) ?_ (by omega) hk
  rw [tx, List.append_assoc]
  exact sh_run (by omega) hg.2 hg.1 _
/-! ### Any bytes are read -/
def Ok (l : List Int) : Prop := Bytes l ∧ l.length ≤ 1000000
theorem Ok.drop {l : List Int} (h : Ok l) (n : Nat) : Ok (l.drop n) := ⟨h.1.drop n, by have := h.2; rw [List.length_drop]; omega⟩
theorem Ok.nil : Ok [] := ⟨Bytes.nil, by simp⟩
/-! ### The program's answer -/
theorem bl_son {l : List Int} (h : Bytes l) : bl (strOfNums l) = l := by
  rw [bl, strOfNums_data, List.map_map]
  induction l with
  | nil => rfl
  | cons x r ih =>
    have := h x (by simp)
    rw [List.map_cons, ih (fun y hy => h y (by simp [hy]))]
    congr 1
    simp only [Function.comp_apply, UInt8.toNat_ofNat']
    omega
theorem son_inj {l m : List Int} (hl : Bytes l) (hm : Bytes m) (h : ((strOfNums l).toList == (strOfNums m).toList) = true) : l = m := by
  have h : (strOfNums l).toList = (strOfNums m).toList := by simpa using h
  rw [toList_data, toList_data] at h
  rw [← bl_son hl, ← bl_son hm, bl, bl, h]
theorem em_bytes {m : Mt} (h : m.1.size ≤ 100 ∧ m.2.size ≤ 100) : Bytes (ew m) := (tx_bytes (by omega)).append (tx_bytes (by omega))
theorem flat_bytes : ∀ {l : List Mt}, (∀ m ∈ l, m.1.size ≤ 100 ∧ m.2.size ≤ 100) → Bytes (l.flatMap ew) := by
  intro l
  induction l with
  | nil => intro h; exact Bytes.nil
  | cons x r ih =>
    intro h
    rw [List.flatMap_cons]
    exact (em_bytes (h x (by simp))).append (ih fun m hm => h m (by simp [hm]))
theorem flat_le : ∀ {l : List Mt}, (∀ m ∈ l, m.1.size ≤ 100 ∧ m.2.size ≤ 100) → (l.flatMap ew).length ≤ 220 * l.length := by
  intro l
  induction l with
  | nil => intro h; simp
  | cons x r ih =>
    intro h
    have h0 := h x (by simp)
    have := ih fun m hm => h m (by simp [hm])
    have t1 := tx_le (s := x.1) (by omega)
    have t2 := tx_le (s := x.2) (by omega)
    rw [List.flatMap_cons, List.length_append, ew, List.length_append, List.length_cons]
    omega
theorem hd_bytes {a : Ver} (h : Small a) : Bytes (hd a) := by
  obtain ⟨h1, h2, h3, _⟩ := h
  exact (sx_bytes (u0 _) (u1 _)).append ((sx_bytes (u0 _) (u1 _)).append ((sx_bytes (u0 _) (u1 _)).append ((sx_bytes (u0 _) (u1 _)).append ((tx_bytes (by omega)).append ((tx_bytes (by omega)).append (sx_bytes (by omega) (by omega)))))))
theorem enc_bytes {a : Ver} (h : Small a) : Bytes (enc a) := (hd_bytes h).append (flat_bytes h.2.2.2)
def zero : Ver := (0, 0, 0, 0, ByteArray.empty, ByteArray.empty, [])
def Ans (b : List Int) (r : Ver × Int) : Prop := r = (zero, 11) ∨ ∃ w, r = (w, 0) ∧ rok w = true ∧ enc w = b
theorem jo1_some {k : Nat} (hk : 400 ≤ k) {b : List Int} (hb : Bytes b) (l : List Int) (bad : Bool) {v : Ver} (hv : v.2.2.2.2.2.2.length ≤ 100) : ∃ r, record_Read.jo1 k b (l, bad) v = some r ∧ Ans b r ∧ (l = [] ∨ r = (zero, 11)) := by
  unfold record_Read.jo1
  cases bad
  case true => rw [if_pos rfl]; exact ⟨_, rfl, .inl rfl, .inr rfl⟩
  rw [if_neg (c := (false = true)) (by decide)]
  by_cases h1 : (l.length : Int) > 0
  · rw [if_pos h1]; exact ⟨_, rfl, .inl rfl, .inr rfl⟩
  rw [if_neg h1, show record_Right.f k (v.1, v.2.1, v.2.2.1, v.2.2.2.1, v.2.2.2.2.1, v.2.2.2.2.2.1, v.2.2.2.2.2.2) = some (rok v) from right_val (a := v) (by omega) (by omega)]
  simp only [Option.bind_some]
  have hl : l = [] := List.length_eq_zero_iff.1 (by omega)
  by_cases h2 : rok v = true
  · rw [if_pos h2, show record_Version_bytes.f k (v.1, v.2.1, v.2.2.1, v.2.2.2.1, v.2.2.2.2.1, v.2.2.2.2.2.1, v.2.2.2.2.2.2) = some (enc v) from bytes_val (rok_small h2).1 (by omega)]
    simp only [Option.bind_some, bytes_Equal.f]
    by_cases h3 : ((strOfNums (enc v)).toList == (strOfNums b).toList) = true
    · rw [if_pos h3]
      exact ⟨_, rfl, .inr ⟨v, rfl, h2, son_inj (enc_bytes (rok_small h2).1) hb h3⟩, .inl hl⟩
    · rw [if_neg h3]; exact ⟨_, rfl, .inl rfl, .inl hl⟩
  · rw [if_neg h2]; exact ⟨_, rfl, .inl rfl, .inl hl⟩
theorem jo1_back {k : Nat} (hk : 400 ≤ k) {v : Ver} (hv : rok v = true) : record_Read.jo1 k (enc v) ([], false) v = some (v, 0) := by
  unfold record_Read.jo1
  have h8 := (rok_small hv).2.2.2.2.2.1
  rw [if_neg (by decide), if_neg (by simp), show record_Right.f k (v.1, v.2.1, v.2.2.1, v.2.2.2.1, v.2.2.2.2.1, v.2.2.2.2.2.1, v.2.2.2.2.2.2) = some (rok v) from right_val (a := v) (by omega) (by omega)]
  simp only [Option.bind_some]
  rw [if_pos hv, show record_Version_bytes.f k (v.1, v.2.1, v.2.2.1, v.2.2.2.1, v.2.2.2.2.1, v.2.2.2.2.2.1, v.2.2.2.2.2.2) = some (enc v) from bytes_val (rok_small hv).1 (by omega)]
  simp only [Option.bind_some, bytes_Equal.f]
  rw [if_pos (by simp)]
theorem drop_app (l m : List Int) : (l ++ m).drop ((l.length : Int)).toNat = m := by
  rw [Int.toNat_natCast]
  simp
theorem le_app (l m : List Int) : ((l.length : Nat) : Int) ≤ ((l ++ m).length : Int) := by
  rw [List.length_append]; omega
theorem Ok.app {l m : List Int} (h : Bytes l) (h2 : l.length ≤ 1000) (hm : Ok m) : m.length ≤ 900000 → Ok (l ++ m) := fun h3 => ⟨h.append hm.1, by rw [List.length_append]; omega⟩
theorem num1_back {v : Int} (h0 : 0 ≤ v) (h1 : v ≤ 1152921504606846976) {m : List Int} (hm : Bytes m) (x : Int) {k : Nat} (hk : 11 ≤ k) : record_reader_numbers_sits_0.f k (sx v ++ m, false) x = some ((m, false), v) := by
  unfold record_reader_numbers_sits_0.f
  rw [show codec_ReadShort.f k (sx v ++ m, false).1 = some (v, ((sx v).length : Int), 0) from rs_back h0 (by omega) hm hk]
  simp only [Option.bind_some, lt]
  rw [if_pos True.intro, if_neg (by omega), if_pos (by omega), if_pos (le_app _ _), drop_app, wi64 (by omega) (by omega)]
theorem num4_back {v0 v1 v2 v3 : Int} (a0 : 0 ≤ v0 ∧ v0 ≤ 1152921504606846976) (a1 : 0 ≤ v1 ∧ v1 ≤ 1152921504606846976) (a2 : 0 ≤ v2 ∧ v2 ≤ 1152921504606846976) (a3 : 0 ≤ v3 ∧ v3 ≤ 1152921504606846976) {m : List Int} (hm : Bytes m) (v : Ver) {k : Nat} (hk : 11 ≤ k) : record_reader_numbers_sits_0f0_0f1_0f2_0f3.f k (sx v0 ++ (sx v1 ++ (sx v2 ++ (sx v3 ++ m))), false) v = some ((m, false), (v0, v1, v2, v3, v.2.2.2.2.1, v.2.2.2.2.2.1, v.2.2.2.2.2.2)) := by
  have b3 : Bytes (sx v3 ++ m) := (sx_bytes a3.1 (by omega)).append hm
  have b2 : Bytes (sx v2 ++ (sx v3 ++ m)) := (sx_bytes a2.1 (by omega)).append b3
  have b1 : Bytes (sx v1 ++ (sx v2 ++ (sx v3 ++ m))) := (sx_bytes a1.1 (by omega)).append b2
  unfold record_reader_numbers_sits_0f0_0f1_0f2_0f3.f
  simp only [lt]
  rw [rs_back a0.1 (by omega) b1 hk]
  simp only [Option.bind_some]
  rw [if_pos True.intro, if_neg (by omega), if_pos (by omega), if_pos (le_app _ _), drop_app, rs_back a1.1 (by omega) b2 hk]
  simp only [Option.bind_some]
  rw [if_pos True.intro, if_neg (by omega), if_pos (by omega), if_pos (le_app _ _), drop_app, rs_back a2.1 (by omega) b3 hk]
  simp only [Option.bind_some]
  rw [if_pos True.intro, if_neg (by omega), if_pos (by omega), if_pos (le_app _ _), drop_app, rs_back a3.1 (by omega) hm hk]
  simp only [Option.bind_some]
  rw [if_pos True.intro, if_neg (by omega), if_pos (by omega), if_pos (le_app _ _), drop_app, wi64 (n := v0) (by omega) (by omega), wi64 (n := v1) (by omega) (by omega), wi64 (n := v2) (by omega) (by omega), wi64 (n := v3) (by omega) (by omega)]
theorem texts2_back {s t : ByteArray} (hs : s.size ≤ 400) (ht : t.size ≤ 400) {m : List Int} (hm : Bytes m) (hl : m.length ≤ 900000) (v : Ver) {k : Nat} (hk : 11 ≤ k) : record_reader_texts_sits_0f4_0f5.f k (tx s ++ (tx t ++ m), false) v = some ((m, false), (v.1, v.2.1, v.2.2.1, v.2.2.2.1, s, t, v.2.2.2.2.2.2)) := by
  have := tx_le (s := t) (by omega)
  unfold record_reader_texts_sits_0f4_0f5.f
  simp only [lt]
  rw [rt_back hs ((tx_bytes (by omega)).append hm) (by rw [List.length_append]; omega) hk]
  simp only [Option.bind_some]
  rw [if_neg (by decide), if_pos (by omega), if_pos (le_app _ _), drop_app, rt_back ht hm (by omega) hk]
  simp only [Option.bind_some]
  rw [if_neg (by simp), if_pos (by omega), if_pos (le_app _ _), drop_app]
  rfl
theorem texts1_back {s t : ByteArray} (hs : s.size ≤ 400) (ht : t.size ≤ 400) {m : List Int} (hm : Bytes m) (hl : m.length ≤ 900000) (v : Mt) {k : Nat} (hk : 11 ≤ k) : record_reader_texts_sits_0f0_0f1.f k (tx s ++ (tx t ++ m), false) v = some ((m, false), (s, t)) := by
  have := tx_le (s := t) (by omega)
  unfold record_reader_texts_sits_0f0_0f1.f
  simp only [lt]
  rw [rt_back hs ((tx_bytes (by omega)).append hm) (by rw [List.length_append]; omega) hk]
  simp only [Option.bind_some]
  rw [if_neg (by decide), if_pos (by omega), if_pos (le_app _ _), drop_app, rt_back ht hm (by omega) hk]
  simp only [Option.bind_some]
  rw [if_neg (by simp), if_pos (by omega), if_pos (le_app _ _), drop_app]
  rfl
theorem lo2_back {v : Ver} (hv : rok v = true) {m : List Int} (hm : Bytes m) (hml : m.length ≤ 1000) (J : (List Int × Bool) → Ver → Option (Ver × Int)) (t : (List Int × Bool) × Int) (ht : t.2 = (v.2.2.2.2.2.2.length : Int)) : ∀ (j i k : Nat), i + j = v.2.2.2.2.2.2.length → j + 11 < k → record_Read.lo2 t J k (i : Int) ((v.2.2.2.2.2.2.drop i).flatMap ew ++ m, false) (v.1, v.2.1, v.2.2.1, v.2.2.2.1, v.2.2.2.2.1, v.2.2.2.2.2.1, v.2.2.2.2.2.2.take i) = J (m, false) v := by
  obtain ⟨⟨_, _, _, hs⟩, _, _, _, _, h8, _⟩ := rok_small hv
  intro j
  induction j with
  | zero =>
    intro i k hi hk
    obtain ⟨k, rfl⟩ : ∃ m, k = m + 1 := ⟨k - 1, by omega⟩
    rw [record_Read.lo2, if_neg (by omega), List.drop_of_length_le (by omega), List.take_of_length_le (by omega)]
    rfl
  | succ j ih =>
    intro i k hi hk
    obtain ⟨k, rfl⟩ : ∃ m, k = m + 1 := ⟨k - 1, by omega⟩
    have hi' : i < v.2.2.2.2.2.2.length := by omega
    have hg := hs _ (gm_mem hi')
    have hr : ∀ m ∈ v.2.2.2.2.2.2.drop (i + 1), m.1.size ≤ 100 ∧ m.2.size ≤ 100 := fun m hm => hs m (List.mem_of_mem_drop hm)
    have hfl := flat_le hr
    rw [List.length_drop] at hfl
    rw [record_Read.lo2, if_pos (by omega), if_neg (c := (false = true)) (by decide), if_pos (by omega), gm_drop hi', List.flatMap_cons, ew, List.append_assoc, List.append_assoc]
    rw [show ∀ (x : List Int), ((x, false) : List Int × Bool).1 = x from fun _ => rfl, texts1_back (by omega) (by omega) ((flat_bytes hr).append hm) (by rw [List.length_append]; omega) _ (by omega)]
    simp only [Option.bind_some]
    rw [if_pos (by simp; omega), wi64 (by omega) (by omega)]
    have := ih (i + 1) k (by omega) (by omega)
    rw [show ((i + 1 : Nat) : Int) = (i : Int) + 1 by omega] at this
    rw [← this]
    congr 1
    have e : v.2.2.2.2.2.2.take (i + 1) = v.2.2.2.2.2.2.take i ++ [gm v.2.2.2.2.2.2 i] := by
      rw [List.take_succ_eq_append_getElem hi', gm, List.getD_eq_getElem?_getD, List.getElem?_eq_getElem hi']
      rfl
    rw [e]
theorem u_id {v : Int} (h0 : 0 ≤ v) (h1 : v ≤ 1152921504606846976) : u v = v := by unfold u; omega
theorem read_back {v : Ver} (hv : rok v = true) {m : List Int} (hm : Bytes m) (hml : m.length ≤ 1000) {k : Nat} (hk : 400 ≤ k) : record_Read.f k (enc v ++ m) = record_Read.jo1 k (enc v ++ m) (m, false) v := by
  obtain ⟨⟨t1, t2, _, hs⟩, r1, r2, r3, r4, h8, _⟩ := rok_small hv
  have hf := (flat_bytes hs).append hm
  have hfl := flat_le hs
  have hn : Bytes (sx (v.2.2.2.2.2.2.length : Int) ++ (v.2.2.2.2.2.2.flatMap ew ++ m)) := (sx_bytes (by omega) (by omega)).append hf
  have hnl := sx_le (v := (v.2.2.2.2.2.2.length : Int)) (by omega) (by omega)
  have x1 := tx_le (s := v.2.2.2.2.1) (by omega)
  have x2 := tx_le (s := v.2.2.2.2.2.1) (by omega)
  have e : enc v ++ m = sx v.1 ++ (sx v.2.1 ++ (sx v.2.2.1 ++ (sx v.2.2.2.1 ++ (tx v.2.2.2.2.1 ++ (tx v.2.2.2.2.2.1 ++ (sx (v.2.2.2.2.2.2.length : Int) ++ (v.2.2.2.2.2.2.flatMap ew ++ m))))))) := by
    unfold enc hd
    rw [u_id (by omega) r1.2, u_id (by omega) (by omega), u_id r3.1 (by omega), u_id r4.1 (by omega)]
    simp only [List.append_assoc]
  unfold record_Read.f
  generalize hJ : record_Read.jo1 k (enc v ++ m) = J
  rw [e, num4_back (by omega) (by omega) (by omega) (by omega) ((tx_bytes (by omega)).append ((tx_bytes (by omega)).append hn)) _ (by omega)]
  simp only [Option.bind_some]
  rw [texts2_back (by omega) (by omega) hn (by rw [List.length_append, List.length_append]; omega) _ (by omega)]
  simp only [Option.bind_some]
  rw [num1_back (by omega) (by omega) hf _ (by omega)]
  simp only [Option.bind_some]
  exact lo2_back hv hm hml J _ rfl v.2.2.2.2.2.2.length 0 k (by omega) (by omega)
/-! ### The document's answer -/
end Go.Proofs.Ythhhkphbhlafbaa.Rrd
