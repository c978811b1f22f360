/- A disk that is found behind a crash: what the program computes; no condition. -/
import Derived.Test.YtbidihabicgedaaDkv
set_option linter.unusedVariables false
set_option linter.unusedSimpArgs false
namespace Go.Proofs.Ytbidihabicgedaa.Dcr
open Go Go.RowKit Go.Proofs.Ytbidihabicgedaa.Sx Go.Proofs.Ytbidihabicgedaa.G Go.Proofs.Ytbidihabicgedaa.Bt Go.Proofs.Ytbidihabicgedaa.Dkv

theorem Crash_sorted {w : Mr} {l1 : List Int} {k : Nat} (hk : w.1.length < k) (hb : w.1.length ≤ 10000) (h0 : 0 < w.2.length) (hb2 : w.2.length ≤ 10000) (d : Dk) : disk_Disk_Crash.f k d w l1 = disk_Disk_Crash.lo3 w l1 (sortI (w.1.map (·.1))) k 0 ([], w.2) := by
  unfold disk_Disk_Crash.f disk_Disk_Crash.jo1 slices_Clone_24.f
  rw [if_pos (show (([] : List (Vc Int 512)).length + w.2.length) * 512 ≤ 140737488355328 by simp only [List.length_nil]; omega), Option.bind_some, List.nil_append, if_pos h0]
  unfold disk_Disk_Crash.lo2 mrks
  rw [if_pos ⟨hk, by simp only [List.length_nil]; omega⟩, List.nil_append]
  simp only [Sx.lt]
  rw [if_pos (show (sortI (w.1.map (·.1))).length < 4611686018427387904 by rw [sortI_len, List.length_map]; omega)]
/-- Where nothing is kept what lasts is found. -/
theorem Crash_nil {w : Mr} {k : Nat} (hk : w.1.length < k) (hb : w.1.length ≤ 10000) (h0 : 0 < w.2.length) (hb2 : w.2.length ≤ 10000) (d : Dk) : disk_Disk_Crash.f k d w [] = some ((mkD false 0 false, (([] : List (Int × Vc Int 512)), w.2)), 0) := by
  rw [Crash_sorted hk hb h0 hb2]
  cases k with
  | zero => omega
  | succ k =>
    unfold disk_Disk_Crash.lo3
    by_cases h : (0 : Int) < ((sortI (w.1.map (·.1))).length : Int)
    · rw [if_pos h]
      unfold disk_Disk_Crash.jo4
      rw [if_pos (Int.le_refl _), if_pos h, if_pos (by simp)]
      rfl
    · rw [if_neg h]
      rfl
theorem sortI_same {l : List Int} (h : l.Pairwise (· ≤ ·)) : sortI l = l := by
  unfold sortI
  exact List.mergeSort_of_pairwise (h.imp fun h => by simpa using h)
theorem dRead_val {fused gone : Bool} {left : Int} {w : Mr} {at_ : Int} (ha : 0 ≤ at_ ∧ at_ < w.2.length) (hn : mget at_ w.1 = none) (k : Nat) : disk_Disk_Read.f k (mkD fused left gone) w at_ = some ((w.2.getD at_.toNat zs).1, 0) := by
  show (disk_Disk_check.f k (mkD fused left gone) w at_).bind _ = _
  rw [check_val _ _ ha, Option.bind_some, if_pos rfl, hn, if_neg (by simp), if_pos ha.1, if_pos ha.2]
  rfl
theorem zs_get (i : Nat) : zs.1.getD i 0 = 0 := by
  show (List.replicate 512 (0 : Int)).getD i 0 = 0
  rw [List.getD_eq_getElem?_getD, List.getElem?_replicate]
  split <;> rfl
theorem vcopy_get (v : Vc Int 512) {l : List Int} (hl : l.length ≤ 512) (i : Nat) : (vcopy v l).1.getD i 0 = if i < l.length then l.getD i 0 else v.1.getD i 0 := by
  show (l.take 512 ++ v.1.drop l.length).getD i 0 = _
  rw [List.take_of_length_le hl]
  simp only [List.getD_eq_getElem?_getD, List.getElem?_append, List.getElem?_drop]
  split
  · rfl
  · congr 2
    omega
theorem getD_set {α : Type} (l : List α) (i j : Nat) (x d : α) (hi : i < l.length) : (l.set i x).getD j d = if i = j then x else l.getD j d := by
  simp only [List.getD_eq_getElem?_getD, List.getElem?_set]
  split
  · rename_i h; subst h; simp [hi]
  · rfl
theorem mget_snoc (k : Int) (q : Int × Vc Int 512) : ∀ l : List (Int × Vc Int 512), mget k l = none → mget k (l ++ [q]) = if q.1 = k then some q.2 else none
  | [], _ => rfl
  | p :: l, h => by
    unfold mget at h
    split at h
    · cases h
    · rename_i hp
      show (if p.1 = k then some p.2 else mget k (l ++ [q])) = _
      rw [if_neg hp]
      exact mget_snoc k q l h
theorem mget_snoc_some {k : Int} {v : Vc Int 512} (q : Int × Vc Int 512) : ∀ {l : List (Int × Vc Int 512)}, mget k l = some v → mget k (l ++ [q]) = some v
  | [], h => by cases h
  | p :: l, h => by
    unfold mget at h
    show (if p.1 = k then some p.2 else mget k (l ++ [q])) = _
    split
    · rename_i hp; rw [if_pos hp] at h; exact h
    · rename_i hp; rw [if_neg hp] at h; exact mget_snoc_some q h
/-- How much of a sector is kept. -/
def cl (a : Int) : Nat := (if (512 : Int) < (if a < 0 then 0 else a) then (512 : Int) else (if a < 0 then 0 else a)).toNat
end Go.Proofs.Ytbidihabicgedaa.Dcr
