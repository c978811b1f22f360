/- Labels: what the program and the document compute of them, as plain functions; no condition. -/
import Derived.Test.YtnjijflgafghmaaPtr
import Derived.Test.YtnjijflgafghmaaCrf
set_option linter.unusedVariables false
set_option linter.unusedSimpArgs false
namespace Go.Proofs.Ytnjijflgafghmaa.Lab
open Go Go.RowKit Go.Proofs.Ytnjijflgafghmaa.Sx Go.Proofs.Ytnjijflgafghmaa.G Go.Proofs.Ytnjijflgafghmaa.Bt Go.Proofs.Ytnjijflgafghmaa.Cod Go.Proofs.Ytnjijflgafghmaa.Ptr
abbrev Lb := Int × Pt × Int
def zl : Lb := (0, zp, 0)
/-! ### Texts of bytes, compared -/
def eqb (l m : List Int) : Bool := (strOfNums l).toList == (strOfNums m).toList
theorem eqb_refl (l : List Int) : eqb l l = true := by simp [eqb]
theorem toList_loop (bs : ByteArray) : ∀ (n i : Nat) (r : List UInt8), bs.size - i = n → ByteArray.toList.loop bs i r = r.reverse ++ bs.data.toList.drop i := by
  intro n
  induction n with
  | zero =>
    intro i r h
    rw [ByteArray.toList.loop, if_neg (by omega), List.drop_of_length_le (by simp only [Array.length_toList]; exact Nat.le_of_sub_eq_zero h)]
    simp
  | succ n ih =>
    intro i r h
    have hi : i < bs.data.toList.length := by simp only [Array.length_toList]; exact Nat.lt_of_sub_eq_succ h
    rw [ByteArray.toList.loop, if_pos (by omega), ih (i + 1) _ (by omega), List.drop_eq_getElem_cons hi]
    have hi2 : i < bs.data.size := by simpa using hi
    have : bs.get! i = bs.data.toList[i] := by
      show bs.data[i]! = _
      rw [getElem!_pos bs.data i hi2]
      simp
    rw [this]
    simp
theorem toList_data (bs : ByteArray) : bs.toList = bs.data.toList := by
  have := toList_loop bs bs.size 0 [] (by omega)
  simpa [ByteArray.toList] using this
theorem u8_inj {x y : Int} (hx : 0 ≤ x ∧ x < 256) (hy : 0 ≤ y ∧ y < 256) (h : UInt8.ofNat x.toNat = UInt8.ofNat y.toNat) : x = y := by
  have := congrArg UInt8.toNat h
  simp at this
  omega
theorem eqb_eq : ∀ {l m : List Int}, Bytes l → Bytes m → eqb l m = true → l = m := by
  intro l m hl hm h
  unfold eqb at h
  rw [beq_iff_eq, toList_data, toList_data] at h
  simp only [strOfNums] at h
  induction l generalizing m with
  | nil =>
    cases m with
    | nil => rfl
    | cons y r => simp at h
  | cons x r ih =>
    cases m with
    | nil => simp at h
    | cons y s =>
      simp only [List.map_cons, List.cons.injEq] at h
      rw [u8_inj (hl x (by simp)) (hm y (by simp)) h.1, ih (fun z hz => hl z (by simp [hz])) (fun z hz => hm z (by simp [hz])) h.2]
/-! ### Right -/
def inB (x : Int) : Bool := decide (1 ≤ x ∧ x ≤ 1152921504606846976)
theorem in_val (k : Nat) (x : Int) : label_Label_right_1.f k x = some (inB x) := by
  unfold label_Label_right_1.f inB
  by_cases h : x ≥ 1
  · rw [if_pos h]; simp; omega
  · rw [if_neg h]; simp; omega
def lrightB (a : Lb) : Bool := inB a.1 && (inB a.2.2 && (noneB a.2.1 || (rightB a.2.1 && decide (a.2.1.2.1 ≤ a.1))))
theorem lright_val (k : Nat) (a : Lb) : label_Label_right.f k a = some (lrightB a) := by
  unfold label_Label_right.f lrightB
  rw [in_val, in_val, None_val, Right_val]
  simp only [Option.bind_some]
  cases inB a.1 <;> cases inB a.2.2 <;> cases noneB a.2.1 <;> cases rightB a.2.1 <;> simp
/-! ### Sealed -/
def magic : List Int := bl (⟨#[83, 66, 88, 49]⟩ : ByteArray)
theorem magic_eq : magic = [83, 66, 88, 49] := by decide
theorem putL_len (l : List Int) (a : Pt) : (putL l a).length = l.length + 52 := by
  unfold putL
  rw [fix4, fix4, fix8, fix4]
  have := a.2.2.2.2.2
  simp [le_length, this]
theorem putL_app (l : List Int) (a : Pt) : putL l a = l ++ putL [] a := by
  unfold putL
  simp only [fix4, fix8, List.nil_append, List.append_assoc]
theorem putL_bytes {a : Pt} (ha : Bytes a.2.2.2.2.1) : Bytes (putL [] a) := by
  unfold putL
  rw [fix4, fix4, fix8, fix4]
  exact (((((Bytes.nil).append (le_bytes _ _)).append (le_bytes _ _)).append (le_bytes _ _)).append (le_bytes _ _)).append ha
def headL (a : Lb) : List Int := putL (fixS (fixS [] 8 [u a.1] ++ magic) 8 [u a.2.2]) a.2.1
def bodyL (a : Lb) : List Int := headL a ++ List.replicate 428 0
def sealL (a : Lb) : List Int := fixS (fixS (bodyL a) 4 [((Crc.goS 0 (bodyL a) : Nat) : Int)]) 8 [u a.1]
theorem head_eq (a : Lb) : headL a = le 8 (u a.1) ++ (magic ++ (le 8 (u a.2.2) ++ putL [] a.2.1)) := by
  unfold headL
  rw [fix8, fix8, putL_app]
  simp
theorem head_len (a : Lb) : (headL a).length = 72 := by
  rw [head_eq, magic_eq]
  simp [le_length, putL_len]
theorem body_len (a : Lb) : (bodyL a).length = 500 := by
  unfold bodyL
  rw [List.length_append, head_len, List.length_replicate]
theorem body_bytes {a : Lb} (ha : Bytes a.2.1.2.2.2.2.1) : Bytes (bodyL a) := by
  unfold bodyL
  rw [head_eq, magic_eq]
  refine ((le_bytes _ _).append (Bytes.append ?_ ((le_bytes _ _).append (putL_bytes ha)))).append ?_
  · intro x hx
    simp at hx
    rcases hx with rfl | rfl | rfl | rfl <;> omega
  · intro x hx
    have : x = 0 := List.eq_of_mem_replicate hx
    omega
theorem crc_lt {a : Lb} (ha : Bytes a.2.1.2.2.2.2.1) : Crc.goS 0 (bodyL a) < 2 ^ 32 := Crc.goS_lt (by decide) (body_bytes ha)
theorem seal_eq (a : Lb) : sealL a = bodyL a ++ (le 4 ((Crc.goS 0 (bodyL a) : Nat) : Int) ++ le 8 (u a.1)) := by
  unfold sealL
  rw [fix4, fix8]
  simp
theorem seal_len (a : Lb) : (sealL a).length = 512 := by
  rw [seal_eq]
  simp [body_len, le_length]
theorem seal_bytes {a : Lb} (ha : Bytes a.2.1.2.2.2.2.1) : Bytes (sealL a) := by
  rw [seal_eq]
  exact (body_bytes ha).append ((le_bytes _ _).append (le_bytes _ _))
theorem crc_u {a : Lb} (ha : Bytes a.2.1.2.2.2.2.1) : IntKind.wrap .u64 ((Crc.goS 0 (bodyL a) : Nat) : Int) = ((Crc.goS 0 (bodyL a) : Nat) : Int) := by
  have := crc_lt ha
  rw [wu64]
  omega
theorem bytes_val {a : Lb} (ha : Bytes a.2.1.2.2.2.2.1) {k : Nat} (hk : 1000 ≤ k) : label_Label_bytes.f k a = some (sealL a) := by
  unfold label_Label_bytes.f
  rw [codec_Fixed_val (by simp) _ (by simp; omega)]
  simp only [Option.bind_some, lt]
  rw [if_pos (by simp [fix8, le_length]; decide), codec_Fixed_val (by simp [fix8, le_length]; decide) _ (by simp; omega)]
  simp only [Option.bind_some]
  rw [Put_val (by simp [fix8, le_length]; decide) _ (by omega)]
  simp only [Option.bind_some]
  rw [show putL (fixS (fixS [] 8 [IntKind.wrap .u64 a.1] ++ bl (⟨#[83, 66, 88, 49]⟩ : ByteArray)) 8 [IntKind.wrap .u64 a.2.2]) a.2.1 = headL a from rfl, head_len, show IntKind.wrap .i64 (500 - ((72 : Nat) : Int)) = 428 by decide, if_pos (by omega), if_pos (by omega), show ((428 : Int)).toNat = 428 from rfl, show headL a ++ List.replicate 428 0 = bodyL a from rfl]
  rw [Crc.Sum_val (body_bytes ha) (by rw [body_len]; omega) (by rw [body_len]; omega)]
  simp only [Option.bind_some]
  rw [codec_Fixed_val (by simp [body_len]) _ (by simp; omega), crc_u ha]
  simp only [Option.bind_some]
  rw [codec_Fixed_val (by simp [body_len, fix4, le_length]) _ (by simp; omega)]
  rfl
def sealS (a : Lb) : List Int × Int × Int := if lrightB a = true then (sealL a, Int.tmod a.1 2, 0) else ([], 0, 2)
theorem Seal_val {a : Lb} (ha : Bytes a.2.1.2.2.2.2.1) {k : Nat} (hk : 1000 ≤ k) : label_Seal.f k a = some (sealS a) := by
  unfold label_Seal.f sealS
  rw [lright_val, bytes_val ha hk]
  simp only [Option.bind_some]
  split <;> rfl
/-! ### Opened -/
def lbOf (l : List Int) : Lb := (IntKind.wrap .i64 (val (l.take 8)), (readL (l.drop 20)).1, IntKind.wrap .i64 (val ((l.drop 12).take 8)))
def open2 (l : List Int) : Lb × Int := if (readL (l.drop 20)).2 = 0 then (if lrightB (lbOf l) = true then (if eqb (sealL (lbOf l)) l = true then (lbOf l, 0) else (zl, 11)) else (zl, 11)) else (zl, 11)
def crcOk (l : List Int) : Prop := IntKind.wrap .u32 (val ((l.drop 500).take 4)) = ((Crc.goS 0 (l.take 500) : Nat) : Int)
instance (l : List Int) : Decidable (crcOk l) := by unfold crcOk; infer_instance
def openL (l : List Int) : Lb × Int := if (l.length : Int) < 512 then (zl, 10) else if crcOk (l.take 512) then open2 (l.take 512) else (zl, 12)
theorem ptOf_bytes {l : List Int} (hb : Bytes l) : Bytes (ptOf l).2.2.2.2.1 := by
  intro x hx
  have : x ∈ ((l.drop 20).take 32 ++ List.replicate 32 0).take 32 := hx
  have h2 := List.mem_of_mem_take this
  rcases List.mem_append.1 h2 with h | h
  · exact (hb.drop 20).take 32 x h
  · have : x = 0 := List.eq_of_mem_replicate h
    omega
theorem zp_bytes : Bytes zp.2.2.2.2.1 := fun x hx => by
  have : x = 0 := List.eq_of_mem_replicate hx
  omega
theorem readL_bytes {l : List Int} (hb : Bytes l) : Bytes (readL l).1.2.2.2.2.1 := by
  unfold readL
  split
  · exact zp_bytes
  · split
    · exact ptOf_bytes hb
    · split
      · exact ptOf_bytes hb
      · exact zp_bytes
theorem Open1_val {v : List Int} (hb : Bytes v) (hl : v.length ≤ 100000) (h8 : 8 ≤ v.length) {k : Nat} (hk : 10 ≤ k) : label_Open_1.f k v = some (IntKind.wrap .i64 (val (v.take 8)), v.drop 8) := by
  unfold label_Open_1.f
  rw [codec_Take_val hb (by omega) _ (by omega)]
  simp only [Option.bind_some]
  unfold takeS
  rw [if_neg (by omega), if_neg (by omega), if_neg (by omega)]
  rfl
theorem open_jo2 {l : List Int} (hb : Bytes l) (hl : l.length = 512) {k : Nat} (hk : 2000 ≤ k) : label_Open.jo2 k l = some (open2 l) := by
  unfold label_Open.jo2 open2
  rw [Open1_val hb (by omega) (by omega) (by omega)]
  simp only [Option.bind_some, lt]
  rw [if_pos (by simp; omega), show ((4 : Int)).toNat = 4 from rfl, List.drop_drop, Open1_val (hb.drop _) (by simp; omega) (by simp; omega) (by omega)]
  simp only [Option.bind_some]
  rw [List.drop_drop, Read_val (hb.drop _) (by simp; omega) (by omega)]
  simp only [Option.bind_some]
  rw [lright_val]
  simp only [Option.bind_some]
  rw [bytes_val (a := (IntKind.wrap .i64 (val (l.take 8)), (readL (l.drop 20)).1, IntKind.wrap .i64 (val ((l.drop 12).take 8)))) (readL_bytes (hb.drop _)) (by omega)]
  simp only [Option.bind_some]
  rw [show (8 + 4 + 8 : Nat) = 20 from rfl, show (8 + 4 : Nat) = 12 from rfl]
  show (if (readL (l.drop 20)).2 = 0 then (if lrightB (lbOf l) = true then (if eqb (sealL (lbOf l)) l = true then some (lbOf l, (0 : Int)) else some (zl, 11)) else some (zl, 11)) else some (zl, 11)) = _
  split
  · split
    · split <;> rfl
    · rfl
  · rfl
theorem Open_val {l : List Int} (hb : Bytes l) (hl : l.length ≤ 100000) {k : Nat} (hk : 2000 ≤ k) : label_Open.f k l = some (openL l) := by
  unfold label_Open.f openL
  by_cases h : (l.length : Int) < 512
  · rw [if_pos h, if_pos h]; rfl
  · rw [if_neg h, if_neg h]
    unfold label_Open.jo1
    have h512 : (l.take 512).length = 512 := by simp; omega
    rw [if_pos (by omega)]
    simp only [lt]
    rw [show ((512 : Int)).toNat = 512 from rfl, show ((504 : Int)).toNat = 504 from rfl, show ((500 : Int)).toNat = 500 from rfl, h512, if_pos (by omega), if_pos (by omega), codec_Take_val (((hb.take _).take _).drop _) (by simp; omega) _ (by omega), take_ex (by omega) (by omega) (by simp; omega)]
    simp only [Option.bind_some]
    rw [if_pos (by omega), Crc.Sum_val ((hb.take _).take _) (by simp; omega) (by simp; omega)]
    simp only [Option.bind_some]
    rw [show ((l.take 512).take 504).drop 500 = ((l.take 512).drop 500).take 4 by rw [List.drop_take]]
    by_cases hc : IntKind.wrap .u32 (val (((l.take 512).drop 500).take 4)) = ((Crc.goS 0 ((l.take 512).take 500) : Nat) : Int)
    · rw [if_pos hc, if_pos (show crcOk (l.take 512) from hc)]
      exact open_jo2 (hb.take _) h512 hk
    · rw [if_neg hc, if_neg (show ¬ crcOk (l.take 512) from hc)]
      rfl
/-! ### What is sealed, and its parts -/
theorem seal_drop20 (a : Lb) : (sealL a).drop 20 = putL [] a.2.1 ++ (List.replicate 428 0 ++ (le 4 ((Crc.goS 0 (bodyL a) : Nat) : Int) ++ le 8 (u a.1))) := by
  rw [seal_eq]
  unfold bodyL
  rw [head_eq]
  simp only [List.append_assoc]
  rw [show (20 : Nat) = 8 + (4 + 8) from rfl, ← List.drop_drop, List.drop_left' (le_length 8 _), ← List.drop_drop, List.drop_left' (by rw [magic_eq]; rfl), List.drop_left' (le_length 8 _)]
theorem zp_pt (m : List Int) : ptOf (putL [] zp ++ m) = zp := by
  have hu : u 0 = 0 := by decide
  have e : putL [] zp ++ m = le 4 0 ++ (le 4 0 ++ (le 8 0 ++ (le 4 0 ++ ((vrep 32 (0 : Int)).1 ++ m)))) := by
    unfold putL
    rw [fix4, fix4, fix8, fix4]
    show _ = _
    simp [zp, hu]
  rw [e]
  rfl
theorem noneB_zp : noneB zp = true := by decide +kernel
theorem readL_zp (m : List Int) : readL (putL [] zp ++ m) = (zp, 0) := by
  unfold readL
  rw [if_neg (by rw [List.length_append, putL_len]; simp; omega), zp_pt, if_pos noneB_zp]
theorem readL_12 (l : List Int) (h : 52 ≤ l.length) : readL (l.take 52) = readL l := by
  have e : ptOf (l.take 52) = ptOf l := by simp [ptOf, List.drop_take, List.take_take]
  unfold readL
  rw [e, if_neg (show ¬ (((l.take 52).length : Nat) : Int) < 52 by simp; omega), if_neg (show ¬ ((l.length : Int) < 52) by omega)]
theorem readL_err {l : List Int} (h : 52 ≤ l.length) (h0 : ¬ (readL l).2 = 0) : (readL l).1 = zp := by
  unfold readL at h0 ⊢
  rw [if_neg (by omega)] at h0 ⊢
  split
  · rename_i h1; rw [if_pos h1] at h0; exact absurd rfl h0
  · rename_i h1
    rw [if_neg h1] at h0
    split
    · rename_i h2; rw [if_pos h2] at h0; exact absurd rfl h0
    · rfl
/-- What is laid is read. -/
theorem ptOf_put {a : Pt} (h1 : 0 ≤ a.1 ∧ a.1 < 4294967296) (h2 : 0 ≤ a.2.1 ∧ a.2.1 < 9223372036854775808) (h3 : 0 ≤ a.2.2.1 ∧ a.2.2.1 < 4294967296) (h4 : 0 ≤ a.2.2.2.1 ∧ a.2.2.2.1 < 4294967296) (m : List Int) : ptOf (putL [] a ++ m) = a := by
  have hu : ∀ x : Int, 0 ≤ x → x < 9223372036854775808 → u x = x := fun x h h' => by unfold u; rw [wu64]; omega
  have e : putL [] a ++ m = le 4 a.1 ++ (le 4 a.2.2.1 ++ (le 8 a.2.1 ++ (le 4 a.2.2.2.1 ++ (a.2.2.2.2.1 ++ m)))) := by
    unfold putL
    rw [fix4, fix4, fix8, fix4, hu _ h1.1 (by omega), hu _ h2.1 h2.2, hu _ h3.1 (by omega), hu _ h4.1 (by omega)]
    simp
  have e4 : (putL [] a ++ m).drop 4 = le 4 a.2.2.1 ++ (le 8 a.2.1 ++ (le 4 a.2.2.2.1 ++ (a.2.2.2.2.1 ++ m))) := by rw [e]; exact List.drop_left' (le_length 4 _)
  have e8 : (putL [] a ++ m).drop 8 = le 8 a.2.1 ++ (le 4 a.2.2.2.1 ++ (a.2.2.2.2.1 ++ m)) := by
    rw [show (8 : Nat) = 4 + 4 from rfl, ← List.drop_drop, e4]; exact List.drop_left' (le_length 4 _)
  have e16 : (putL [] a ++ m).drop 16 = le 4 a.2.2.2.1 ++ (a.2.2.2.2.1 ++ m) := by
    rw [show (16 : Nat) = 8 + 8 from rfl, ← List.drop_drop, e8]; exact List.drop_left' (le_length 8 _)
  have e20 : (putL [] a ++ m).drop 20 = a.2.2.2.2.1 ++ m := by
    rw [show (20 : Nat) = 16 + 4 from rfl, ← List.drop_drop, e16]; exact List.drop_left' (le_length 4 _)
  have p4 : (256 : Int) ^ 4 = 4294967296 := by decide
  have p8 : (256 : Int) ^ 8 = 18446744073709551616 := by decide
  unfold ptOf
  rw [e4, e8, e16, e20, e, List.take_left' (le_length 4 _), List.take_left' (le_length 4 _), List.take_left' (le_length 8 _), List.take_left' (le_length 4 _), List.take_left' a.2.2.2.2.2]
  rw [val_le _ _ h1.1, val_le _ _ h2.1, val_le _ _ h3.1, val_le _ _ h4.1, p4, p8, wi64 (by omega) (by omega), wi64 (by omega) (by omega), wi64 (by omega) (by omega), wu32]
  have ev : vpad 32 0 a.2.2.2.2.1 = a.2.2.2.2 := Subtype.ext (by rw [vpad_val (by rw [a.2.2.2.2.2]; omega), List.take_of_length_le (by rw [a.2.2.2.2.2]; omega)])
  rw [ev, Int.emod_eq_of_lt h1.1 (by omega), Int.emod_eq_of_lt h2.1 (by omega), Int.emod_eq_of_lt h3.1 (by omega), Int.emod_eq_of_lt h4.1 (by omega), Int.emod_eq_of_lt h4.1 (by omega)]
theorem noneB_eq {a : Pt} (h : noneB a = true) : a = zp := by
  unfold noneB at h
  simp only [Bool.and_eq_true, beq_iff_eq] at h
  obtain ⟨h1, h2, h3, h4, h5⟩ := h
  obtain ⟨b, c, d, e, f⟩ := a
  simp only at h1 h2 h3 h4 h5
  rw [h1, h2, h3, h4, show f = vrep 32 0 from Subtype.ext h5]
  rfl
theorem lright_parts {a : Lb} (h : lrightB a = true) : (1 ≤ a.1 ∧ a.1 ≤ 1152921504606846976) ∧ (1 ≤ a.2.2 ∧ a.2.2 ≤ 1152921504606846976) ∧ (noneB a.2.1 = true ∨ rightB a.2.1 = true) := by
  unfold lrightB at h
  simp only [Bool.and_eq_true, Bool.or_eq_true, inB, decide_eq_true_eq] at h
  exact ⟨h.1, h.2.1, h.2.2.imp id (fun x => x.1)⟩
theorem readL_put {a : Pt} (h4 : 0 ≤ a.2.2.2.1 ∧ a.2.2.2.1 < 4294967296) (h : noneB a = true ∨ rightB a = true) (m : List Int) : readL (putL [] a ++ m) = (a, 0) := by
  rcases h with h | h
  · rw [noneB_eq h, readL_zp]
  · have hr := of_decide_eq_true h
    have hs := secs_bound a.2.2.1
    have e := ptOf_put (a := a) (by omega) (by omega) (by omega) h4 m
    unfold readL
    rw [if_neg (by rw [List.length_append, putL_len]; simp; omega), e, h]
    split <;> rfl
theorem seal_lb {a : Lb} (hc : 0 ≤ a.2.1.2.2.2.1 ∧ a.2.1.2.2.2.1 < 4294967296) (h : lrightB a = true) : lbOf (sealL a) = a ∧ (readL ((sealL a).drop 20)).2 = 0 := by
  obtain ⟨h1, h2, h3⟩ := lright_parts h
  have p8 : (256 : Int) ^ 8 = 18446744073709551616 := by decide
  have hu : ∀ x : Int, 1 ≤ x → x ≤ 1152921504606846976 → u x = x := fun x h h' => by unfold u; rw [wu64]; omega
  have er : readL ((sealL a).drop 20) = (a.2.1, 0) := by rw [seal_drop20, readL_put hc h3]
  have e0 : (sealL a).take 8 = le 8 (u a.1) := by
    rw [seal_eq]
    unfold bodyL
    rw [head_eq]
    simp only [List.append_assoc]
    exact List.take_left' (le_length 8 _)
  have e12 : ((sealL a).drop 12).take 8 = le 8 (u a.2.2) := by
    rw [seal_eq]
    unfold bodyL
    rw [head_eq]
    simp only [List.append_assoc]
    rw [show (12 : Nat) = 8 + 4 from rfl, ← List.drop_drop, List.drop_left' (le_length 8 _), List.drop_left' (by rw [magic_eq]; rfl)]
    exact List.take_left' (le_length 8 _)
  refine ⟨?_, by rw [er]⟩
  unfold lbOf
  rw [er, e0, e12, val_le _ _ (u_u64 _).1, val_le _ _ (u_u64 _).1, hu _ h1.1 h1.2, hu _ h2.1 h2.2, p8, wi64 (by omega) (by omega), wi64 (by omega) (by omega), Int.emod_eq_of_lt (by omega) (by omega), Int.emod_eq_of_lt (by omega) (by omega)]
theorem seal_crc {a : Lb} (ha : Bytes a.2.1.2.2.2.2.1) : crcOk (sealL a) := by
  unfold crcOk
  have hc := crc_lt ha
  have p4 : (256 : Int) ^ 4 = 4294967296 := by decide
  rw [seal_eq, List.take_left' (body_len a), List.drop_left' (body_len a), List.take_left' (le_length 4 _), val_le _ _ (by omega), p4, wu32]
  omega
/-- What is sealed is opened. -/
theorem open_seal {a : Lb} (ha : Bytes a.2.1.2.2.2.2.1) (hc : 0 ≤ a.2.1.2.2.2.1 ∧ a.2.1.2.2.2.1 < 4294967296) (h : lrightB a = true) (m : List Int) : openL (sealL a ++ m) = (a, 0) := by
  have hl := seal_len a
  obtain ⟨h1, h2⟩ := seal_lb hc h
  unfold openL
  rw [if_neg (by rw [List.length_append, hl]; omega), List.take_left' hl, if_pos (seal_crc ha)]
  unfold open2
  rw [if_pos h2, h1, if_pos h, if_pos (eqb_refl _)]
theorem open_right {l : List Int} (h : (openL l).2 = 0) : lrightB (openL l).1 = true := by
  unfold openL at h ⊢
  by_cases h1 : (l.length : Int) < 512
  · rw [if_pos h1] at h; exact absurd h (by decide)
  · rw [if_neg h1] at h ⊢
    by_cases h2 : crcOk (l.take 512)
    · rw [if_pos h2] at h ⊢
      unfold open2 at h ⊢
      by_cases h3 : (readL ((l.take 512).drop 20)).2 = 0
      · rw [if_pos h3] at h ⊢
        by_cases h4 : lrightB (lbOf (l.take 512)) = true
        · rw [if_pos h4] at h ⊢
          by_cases h5 : eqb (sealL (lbOf (l.take 512))) (l.take 512) = true
          · rw [if_pos h5]; exact h4
          · rw [if_neg h5] at h; exact absurd h (by decide)
        · rw [if_neg h4] at h; exact absurd h (by decide)
      · rw [if_neg h3] at h; exact absurd h (by decide)
    · rw [if_neg h2] at h; exact absurd h (by decide)
end Go.Proofs.Ytnjijflgafghmaa.Lab
