/- A disk: what the program computes; no condition. -/
import Derived.Test.YtbidihabicgedaaGz
import Derived.Test.YtbidihabicgedaaBits
set_option linter.unusedVariables false
set_option linter.unusedSimpArgs false
namespace Go.Proofs.Ytbidihabicgedaa.Dkv
open Go Go.RowKit Go.Proofs.Ytbidihabicgedaa.Sx Go.Proofs.Ytbidihabicgedaa.G Go.Proofs.Ytbidihabicgedaa.Bt

abbrev Dk := Unit × Unit × Bool × Int × Bool
abbrev Mr := List (Int × Vc Int 512) × List (Vc Int 512)
def mkD (fused : Bool) (left : Int) (gone : Bool) : Dk := ((), (), fused, left, gone)
def zs : Vc Int 512 := vrep 512 0
def sp (fused : Bool) (left : Int) (gone : Bool) : Int × Dk := if gone = true then (17, mkD fused left true) else if fused = true then (if left = 0 then (17, mkD fused left true) else (0, mkD fused (left - 1) false)) else (0, mkD fused left false)
theorem spend_val {fused gone : Bool} {left : Int} (h : 0 ≤ left ∧ left ≤ 1000000) (w : Mr) (k : Nat) : disk_Disk_spend.f k (mkD fused left gone) w = some (sp fused left gone) := by
  unfold disk_Disk_spend.f mkD sp
  simp only []
  cases gone with
  | true => rfl
  | false =>
    cases fused with
    | false => rfl
    | true =>
      by_cases hl : left = 0
      · subst hl; rfl
      · rw [if_neg (by decide), if_pos rfl, if_neg (by simpa using hl), if_neg (by decide), if_pos rfl, if_neg hl]
        simp only [Sx.lt]
        rw [wi64 (by omega) (by omega)]
        have : decide (left = 0) = false := by simpa using hl
        rw [this]
        rfl
theorem sp_cases (fused : Bool) (left : Int) (gone : Bool) : (sp fused left gone).1 = 0 ∨ (sp fused left gone).1 = 17 := by
  unfold sp
  split
  · exact .inr rfl
  · split
    · split
      · exact .inr rfl
      · exact .inl rfl
    · exact .inl rfl
theorem check_val (d : Dk) (w : Mr) {at_ : Int} (h : 0 ≤ at_ ∧ at_ < w.2.length) (k : Nat) : disk_Disk_check.f k d w at_ = some 0 := by
  unfold disk_Disk_check.f
  rw [if_neg (by omega), if_neg (by omega)]
theorem check_bad (d : Dk) (w : Mr) {at_ : Int} (h : ¬ (0 ≤ at_ ∧ at_ < w.2.length)) (k : Nat) : disk_Disk_check.f k d w at_ = some 2 := by
  unfold disk_Disk_check.f
  by_cases h1 : at_ < 0
  · rw [if_pos h1]
  · rw [if_neg h1, if_pos (by omega)]
theorem Write_val {fused gone : Bool} {left : Int} (h : 0 ≤ left ∧ left ≤ 1000000) {w : Mr} {at_ : Int} (ha : 0 ≤ at_ ∧ at_ < w.2.length) {l : List Int} (hl : l.length ≤ 512) (k : Nat) :
    disk_Disk_Write.f k (mkD fused left gone) w at_ l = some ((sp fused left gone).1, (sp fused left gone).2, if (sp fused left gone).1 = 0 then (mput at_ (vcopy zs l) w.1, w.2) else w) := by
  show (disk_Disk_check.f k (mkD fused left gone) w at_).bind _ = _
  rw [check_val _ _ ha, Option.bind_some, if_pos rfl, if_neg (show ¬ (l.length : Int) > 512 by omega)]
  show (disk_Disk_spend.f k (mkD fused left gone) w).bind _ = _
  rw [spend_val h, Option.bind_some]
  split
  · simp only [Sx.lt]
    rename_i h1
    show some ((0 : Int), (sp fused left gone).2, (mput at_ (vcopy zs l) w.1, w.2)) = _
    rw [h1]
  · rfl
theorem Write_far {fused gone : Bool} {left : Int} {w : Mr} {at_ : Int} (ha : ¬ (0 ≤ at_ ∧ at_ < w.2.length)) (l : List Int) (k : Nat) : disk_Disk_Write.f k (mkD fused left gone) w at_ l = some (2, mkD fused left gone, w) := by
  show (disk_Disk_check.f k (mkD fused left gone) w at_).bind _ = _
  rw [check_bad _ _ ha, Option.bind_some, if_neg (by decide)]
theorem Write_big {fused gone : Bool} {left : Int} {w : Mr} {at_ : Int} (ha : 0 ≤ at_ ∧ at_ < w.2.length) {l : List Int} (hl : 512 < l.length) (k : Nat) : disk_Disk_Write.f k (mkD fused left gone) w at_ l = some (3, mkD fused left gone, w) := by
  show (disk_Disk_check.f k (mkD fused left gone) w at_).bind _ = _
  rw [check_val _ _ ha, Option.bind_some, if_pos rfl, if_pos (show (l.length : Int) > 512 by omega), if_neg (by decide)]
def flushed (w : Mr) : Mr := ([], w.1.foldl (fun L p => L.set p.1.toNat p.2) w.2)
theorem mrlo_val {β : Type} (cont : Mr → Option β) {k : Nat} {w : Mr} (hk : w.1.length < k) (hin : ∀ p ∈ w.1, 0 ≤ p.1 ∧ p.1 < (w.2.length : Int)) : mrlo cont k w = cont (flushed w) := by
  unfold mrlo
  rw [if_pos ⟨hk, hin⟩]
  rfl
theorem Flush_val {fused gone : Bool} {left : Int} (h : 0 ≤ left ∧ left ≤ 1000000) {w : Mr} (hin : ∀ p ∈ w.1, 0 ≤ p.1 ∧ p.1 < (w.2.length : Int)) {k : Nat} (hk : w.1.length < k) :
    disk_Disk_Flush.f k (mkD fused left gone) w = some ((sp fused left gone).1, (sp fused left gone).2, if (sp fused left gone).1 = 0 then flushed w else w) := by
  show (disk_Disk_spend.f k (mkD fused left gone) w).bind _ = _
  rw [spend_val h, Option.bind_some]
  split
  · rename_i h1
    unfold disk_Disk_Flush.jo2 disk_Disk_Flush.lo3
    rw [mrlo_val _ hk hin, h1]
  · rfl
theorem New_val {n : Int} (h : 1 ≤ n ∧ n ≤ 8192) (k : Nat) : disk_New.f k n = some ((mkD false 0 false, (([] : List (Int × Vc Int 512)), List.replicate n.toNat zs)), 0) := by
  unfold disk_New.f
  rw [if_neg (by omega), if_neg (by omega), if_pos (by omega), if_pos (Int.le_refl _), if_pos (by omega), if_pos (by omega)]
  rfl
theorem mput_len (k : Int) (v : Vc Int 512) : ∀ l : List (Int × Vc Int 512), (mput k v l).length ≤ l.length + 1
  | [] => by simp [mput]
  | p :: r => by
    unfold mput
    split
    · simp
    · have := mput_len k v r; simp; omega
theorem mput_mem {k : Int} {v : Vc Int 512} : ∀ {l : List (Int × Vc Int 512)} {p}, p ∈ mput k v l → p = (k, v) ∨ p ∈ l
  | [], p, h => by simp [mput] at h; exact .inl h
  | q :: r, p, h => by
    unfold mput at h
    split at h
    · rcases List.mem_cons.1 h with h | h
      · exact .inl h
      · exact .inr (.tail _ h)
    · rcases List.mem_cons.1 h with h | h
      · exact .inr (by rw [h]; exact .head _)
      · rcases mput_mem h with h | h
        · exact .inl h
        · exact .inr (.tail _ h)
/-- A disk of so many sectors, of which at most so many wait. -/
structure Gd (n : Nat) (w : Mr) (b : Nat) : Prop where
  len : w.2.length = n
  keys : ∀ p ∈ w.1, 0 ≤ p.1 ∧ p.1 < (w.2.length : Int)
  few : w.1.length ≤ b
theorem Gd.put {n : Nat} {w : Mr} {b : Nat} (h : Gd n w b) {at_ : Int} (ha : 0 ≤ at_ ∧ at_ < n) (v : Vc Int 512) : Gd n (mput at_ v w.1, w.2) (b + 1) :=
  ⟨h.len, fun p hp => by
    rcases mput_mem hp with rfl | hp
    · have := h.len; simp only []; omega
    · exact h.keys p hp, by have := mput_len at_ v w.1; have := h.few; simp only []; omega⟩
theorem Gd.mono {n : Nat} {w : Mr} {b c : Nat} (h : Gd n w b) (hc : b ≤ c) : Gd n w c := ⟨h.len, h.keys, Nat.le_trans h.few hc⟩
theorem Gd.flush {n : Nat} {w : Mr} {b : Nat} (h : Gd n w b) (c : Nat) : Gd n (flushed w) c :=
  ⟨by show (w.1.foldl _ w.2).length = n; rw [fold_set_len]; exact h.len, fun p hp => (by cases hp), Nat.zero_le _⟩
end Go.Proofs.Ytbidihabicgedaa.Dkv
