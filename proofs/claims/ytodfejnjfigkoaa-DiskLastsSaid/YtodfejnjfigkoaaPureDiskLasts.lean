/- The pure statement of DiskLasts; no condition. -/
import Derived.Test.YtodfejnjfigkoaaSDiskLasts
import Derived.Test.YtodfejnjfigkoaaDcr
set_option linter.unusedVariables false
set_option linter.unusedSimpArgs false
namespace Go.Proofs.Ytodfejnjfigkoaa.Pure
open Go Go.RowKit Go.Proofs.Ytodfejnjfigkoaa.Sx Go.Proofs.Ytodfejnjfigkoaa.G Go.Proofs.Ytodfejnjfigkoaa.Bt Go.Proofs.Ytodfejnjfigkoaa.Dkv Go.Proofs.Ytodfejnjfigkoaa.Dcr

def z2 : Vc Int 2 := vrep 2 0
section
variable (l0 : List (Vc Int 2))
def e0 (j : Nat) : Int := (l0.getD j z2).1.getD 0 0
def e1 (j : Nat) : Int := (l0.getD j z2).1.getD 1 0
def sec (j : Nat) : Vc Int 512 := vcopy zs [e0 l0 j, e1 l0 j]
def Ps (a m : Nat) : List (Int × Vc Int 512) := (List.range m).map fun t => (((a + t : Nat) : Int), sec l0 (a + t))
def Z16 : List (Vc Int 512) := List.replicate 16 zs
def LF (F : Nat) : List (Vc Int 512) := (Ps l0 0 F).foldl (fun L p => L.set p.1.toNat p.2) Z16
end
variable {l0 : List (Vc Int 2)}
theorem Ps_succ (a m : Nat) : Ps l0 a (m + 1) = Ps l0 a m ++ [(((a + m : Nat) : Int), sec l0 (a + m))] := by simp [Ps, List.range_succ]
theorem Ps_len (a m : Nat) : (Ps l0 a m).length = m := by simp [Ps]
theorem Ps_keys (a m : Nat) : (Ps l0 a m).map (·.1) = (List.range m).map fun t => ((a + t : Nat) : Int) := by simp [Ps, Function.comp_def]
theorem Ps_in {a m : Nat} {p : Int × Vc Int 512} (h : p ∈ Ps l0 a m) : (a : Int) ≤ p.1 ∧ p.1 < ((a + m : Nat) : Int) := by
  obtain ⟨t, ht, rfl⟩ := List.mem_map.1 h
  have := List.mem_range.1 ht
  simp only []
  omega
theorem Ps_none {a m j : Nat} (h : a + m ≤ j) : mget (j : Int) (Ps l0 a m) = none :=
  mget_none.2 fun p hp e => by have := Ps_in hp; omega
theorem Ps_get {a : Nat} : ∀ {m t : Nat}, t < m → mget ((a + t : Nat) : Int) (Ps l0 a m) = some (sec l0 (a + t))
  | m + 1, t, h => by
    rw [Ps_succ]
    by_cases c : t < m
    · exact mget_snoc_some _ (Ps_get c)
    · obtain rfl : t = m := by omega
      rw [mget_snoc _ _ _ (Ps_none (Nat.le_refl _)), if_pos rfl]
theorem LF_len (F : Nat) : (LF l0 F).length = 16 := by
  unfold LF
  rw [fold_set_len]
  simp [Z16]
theorem LF_get : ∀ {F : Nat}, F ≤ 16 → ∀ j, j < 16 → (LF l0 F).getD j zs = if j < F then sec l0 j else zs
  | 0, _, j, hj => by
    show Z16.getD j zs = _
    rw [if_neg (by omega)]
    unfold Z16
    rw [List.getD_eq_getElem?_getD, List.getElem?_replicate, if_pos hj]
    rfl
  | F + 1, h, j, hj => by
    have e : LF l0 (F + 1) = (LF l0 F).set F (sec l0 F) := by
      unfold LF
      rw [Ps_succ, List.foldl_append]
      simp only [List.foldl_cons, List.foldl_nil, Nat.zero_add, Int.toNat_natCast]
    rw [e, getD_set _ _ _ _ _ (by rw [LF_len]; omega), LF_get (by omega) j hj]
    by_cases c : F = j
    · subst c; rw [if_pos rfl, if_pos (by omega)]
    · rw [if_neg c]
      by_cases c2 : j < F
      · rw [if_pos c2, if_pos (by omega)]
      · rw [if_neg c2, if_neg (by omega)]
/-- What is found of one sector. -/
def fd (l0 : List (Vc Int 2)) (l1 : List Int) (F q : Nat) (M : List (Vc Int 512)) (x j : Nat) : Vc Int 512 :=
  if F + x ≤ j ∧ j < F + q then vcopy (M.getD j zs) (List.take (cl (l1.getD (j - F) 0)) (sec l0 j).1) else M.getD j zs
theorem lo3_val {l1 : List Int} {F m : Nat} (hF : F + m ≤ 16) (hl1 : l1.length ≤ 17592186044416) (L : List (Vc Int 512)) : ∀ (n : Nat) {x k : Nat} {M : List (Vc Int 512)}, min m l1.length - x = n → x ≤ min m l1.length → n < k → M.length = 16 →
    ∃ M', disk_Disk_Crash.lo3 (Ps l0 F m, L) l1 ((List.range m).map fun t => ((F + t : Nat) : Int)) k (x : Int) ([], M) = some ((mkD false 0 false, (([] : List (Int × Vc Int 512)), M')), 0) ∧ M'.length = 16 ∧ ∀ j, j < 16 → M'.getD j zs = fd l0 l1 F (min m l1.length) M x j := by
  intro n
  induction n with
  | zero =>
    intro x k M h1 h2 h3 h4
    obtain ⟨k, rfl⟩ : ∃ k', k = k' + 1 := ⟨k - 1, by omega⟩
    refine ⟨M, ?_, h4, fun j hj => by unfold fd; rw [if_neg (by omega)]⟩
    unfold disk_Disk_Crash.lo3
    by_cases c : (x : Int) < (((List.range m).map fun t => ((F + t : Nat) : Int)).length : Int)
    · rw [if_pos c]
      simp only [List.length_map, List.length_range] at c
      unfold disk_Disk_Crash.jo4
      rw [if_pos (by omega), if_pos (by simpa using c), if_pos (by omega)]
      rfl
    · rw [if_neg c]
      rfl
  | succ n ih =>
    intro x k M h1 h2 h3 h4
    obtain ⟨k, rfl⟩ : ∃ k', k = k' + 1 := ⟨k - 1, by omega⟩
    have hx : x < m ∧ x < l1.length := by omega
    have hy : ((List.range m).map fun t => ((F + t : Nat) : Int)).getD x 0 = ((F + x : Nat) : Int) := by
      simp [List.getD_eq_getElem?_getD, List.getElem?_map, List.getElem?_range hx.1]
    obtain ⟨M', e1, e2, e3⟩ := ih (x := x + 1) (k := k) (M := M.set (F + x) (vcopy (M.getD (F + x) zs) (List.take (cl (l1.getD x 0)) (sec l0 (F + x)).1))) (by omega) (by omega) (by omega) (by simpa using h4)
    refine ⟨M', ?_, e2, fun j hj => ?_⟩
    · refine Eq.trans ?_ e1
      conv => lhs; unfold disk_Disk_Crash.lo3
      show (if _ then _ else _) = _
      rw [if_pos (by simp only [List.length_map, List.length_range]; omega)]
      unfold disk_Disk_Crash.jo4
      have hyl : ((List.range m).map fun t => ((F + t : Nat) : Int)).length = m := by simp
      rw [if_pos (by omega), if_pos (by rw [hyl]; omega), if_neg (by omega)]
      rw [Int.toNat_natCast, hy, if_pos (by omega), if_pos (by show ((F + x : Nat) : Int) < (M.length : Int); omega), if_pos (by omega)]
      simp only [Sx.lt]
      have hc : 0 ≤ (if (512 : Int) < (if l1.getD x 0 < 0 then 0 else l1.getD x 0) then (512 : Int) else (if l1.getD x 0 < 0 then 0 else l1.getD x 0)) ∧ (if (512 : Int) < (if l1.getD x 0 < 0 then 0 else l1.getD x 0) then (512 : Int) else (if l1.getD x 0 < 0 then 0 else l1.getD x 0)) ≤ 512 := by
        split <;> split <;> omega
      rw [if_pos hc.1, if_pos hc.2, Int.toNat_natCast, wi64 (by omega) (by omega), show mget ((F + x : Nat) : Int) (Ps l0 F m, L).1 = some (sec l0 (F + x)) from Ps_get hx.1, show (x : Int) + 1 = ((x + 1 : Nat) : Int) by omega]
      rfl
    · rw [e3 j hj]
      unfold fd
      by_cases c : F + x = j
      · subst c
        rw [if_neg (by omega), if_pos (by omega), getD_set _ _ _ _ _ (by omega), if_pos rfl, Nat.add_sub_cancel_left]
      · rw [getD_set _ _ _ _ _ (by omega), if_neg c]
        by_cases c2 : F + (x + 1) ≤ j ∧ j < F + min m l1.length
        · rw [if_pos c2, if_pos (by omega)]
        · rw [if_neg c2, if_neg (by omega)]
theorem sec_get (j i : Nat) : (sec l0 j).1.getD i 0 = if i = 0 then e0 l0 j else if i = 1 then e1 l0 j else 0 := by
  unfold sec
  rw [vcopy_get _ (by simp)]
  match i with
  | 0 => rfl
  | 1 => rfl
  | i + 2 => rw [if_neg (by simp), if_neg (by omega), if_neg (by omega), zs_get]
theorem take_get (l : List Int) (c i : Nat) : (l.take c).getD i 0 = if i < c then l.getD i 0 else 0 := by
  simp only [List.getD_eq_getElem?_getD, List.getElem?_take]
  split <;> rfl
theorem kept_get (j : Nat) (a : Int) (i : Nat) (hi : i < 3) : (vcopy zs (List.take (cl a) (sec l0 j).1)).1.getD i 0 = if (i : Int) < a then (if i = 0 then e0 l0 j else if i = 1 then e1 l0 j else 0) else 0 := by
  have hs := (sec l0 j).2
  have hc : cl a ≤ 512 ∧ ((i : Int) < a ↔ i < cl a) := by unfold cl; split <;> split <;> omega
  rw [vcopy_get _ (by rw [List.length_take]; omega), List.length_take, hs, zs_get, take_get, sec_get]
  by_cases h : (i : Int) < a
  · rw [if_pos h, if_pos (by omega), if_pos (by omega)]
  · rw [if_neg h, if_neg (by omega)]
def fin (t : List Int) (m : Vc Int 2) (nx : Option Bool) : Option Bool := (if (0 : Int) < (t.length : Int) then Sx.lt ((t).getD ((0 : Int)).toNat (0 : Int)) fun y74 => (if (0 : Int) < (2 : Int) then Sx.lt (m.1.getD ((0 : Int)).toNat (0 : Int)) fun y77 => (if y74 = y77 then (if (1 : Int) < (t.length : Int) then Sx.lt ((t).getD ((1 : Int)).toNat (0 : Int)) fun y83 => (if (1 : Int) < (2 : Int) then Sx.lt (m.1.getD ((1 : Int)).toNat (0 : Int)) fun y86 => (if y83 = y86 then (if (2 : Int) < (t.length : Int) then Sx.lt ((t).getD ((2 : Int)).toNat (0 : Int)) fun y92 => (if y92 = (0 : Int) then nx else some false) else none) else some false) else none) else none) else some false) else none) else none)
theorem fin_val {t : List Int} {m : Vc Int 2} {nx : Option Bool} (hl : t.length = 512) (h0 : t.getD 0 0 = m.1.getD 0 0) (h1 : t.getD 1 0 = m.1.getD 1 0) (h2 : t.getD 2 0 = 0) : fin t m nx = nx := by
  unfold fin
  simp only [Sx.lt]
  rw [if_pos (by omega), if_pos (by decide), if_pos (show t.getD (0 : Int).toNat 0 = m.1.getD (0 : Int).toNat 0 from h0), if_pos (by omega), if_pos (by decide), if_pos (show t.getD (1 : Int).toNat 0 = m.1.getD (1 : Int).toNat 0 from h1), if_pos (by omega), if_pos (show t.getD (2 : Int).toNat 0 = 0 from h2)]
theorem lo9_val {l1 : List Int} {F i : Nat} {t : List Int × Int} {lo5 : Int → Option Bool} {k : Nat} (hF : F ≤ i) (hi : i < l0.length) (hi2 : i < 16) (hq : i - F < l1.length) (hl : t.1.length = 512)
    (h0 : t.1.getD 0 0 = if 0 < l1.getD (i - F) 0 then e0 l0 i else 0) (h1 : t.1.getD 1 0 = if 1 < l1.getD (i - F) 0 then e1 l0 i else 0) (h2 : t.1.getD 2 0 = 0) :
    shadowboxlaw05_DiskLasts.lo9 l0 l1 (F : Int) (i : Int) t lo5 (k + 3) 0 (⟨[(0 : Int), (0 : Int)], rfl⟩ : (Vc Int 2)) = lo5 (IntKind.wrap .i64 ((i : Int) + 1)) := by
  have hw : IntKind.wrap .i64 ((i : Int) - (F : Int)) = ((i - F : Nat) : Int) := by rw [wi64 (by omega) (by omega)]; omega
  have step : ∀ (k : Nat) (x : Nat) (m : Vc Int 2), x < 2 → shadowboxlaw05_DiskLasts.lo9 l0 l1 (F : Int) (i : Int) t lo5 (k + 1) (x : Int) m = if (x : Int) < l1.getD (i - F) 0 then shadowboxlaw05_DiskLasts.lo9 l0 l1 (F : Int) (i : Int) t lo5 k ((x + 1 : Nat) : Int) (vset m x ((l0.getD i z2).1.getD x 0)) else fin t.1 m (lo5 (IntKind.wrap .i64 ((i : Int) + 1))) := by
    intro k x m hx
    conv => lhs; unfold shadowboxlaw05_DiskLasts.lo9
    show (if _ then _ else _) = _
    rw [if_pos (by omega), hw, if_pos (by omega), if_pos (by omega)]
    simp only [Sx.lt, Int.toNat_natCast]
    by_cases c : (x : Int) < l1.getD (i - F) 0
    · rw [if_pos c, if_pos c, if_pos (by omega), if_pos (by omega), if_pos (by omega), wi64 (by omega) (by omega), show (x : Int) + 1 = ((x + 1 : Nat) : Int) by omega]
      rfl
    · rw [if_neg c, if_neg c]
      rfl
  have last : ∀ (k : Nat) (m : Vc Int 2), shadowboxlaw05_DiskLasts.lo9 l0 l1 (F : Int) (i : Int) t lo5 (k + 1) 2 m = fin t.1 m (lo5 (IntKind.wrap .i64 ((i : Int) + 1))) := by
    intro k m
    conv => lhs; unfold shadowboxlaw05_DiskLasts.lo9
    show (if _ then _ else _) = _
    rw [if_neg (by decide)]
    rfl
  have s0 := step (k + 2) 0 ⟨[(0 : Int), (0 : Int)], rfl⟩ (by omega)
  refine s0.trans ?_
  by_cases c0 : 0 < l1.getD (i - F) 0
  · rw [if_pos (by simpa using c0)]
    rw [if_pos c0] at h0
    refine (step (k + 1) 1 _ (by omega)).trans ?_
    by_cases c1 : 1 < l1.getD (i - F) 0
    · rw [if_pos (by simpa using c1)]
      rw [if_pos c1] at h1
      refine (last k _).trans (fin_val hl ?_ ?_ h2)
      · rw [h0]; rfl
      · rw [h1]; rfl
    · rw [if_neg (by simpa using c1)]
      rw [if_neg c1] at h1
      refine fin_val hl ?_ ?_ h2
      · rw [h0]; rfl
      · rw [h1]; rfl
  · rw [if_neg (by simpa using c0)]
    rw [if_neg c0] at h0
    rw [if_neg (by omega)] at h1
    refine fin_val hl ?_ ?_ h2
    · rw [h0]; rfl
    · rw [h1]; rfl
/-- What is read of one sector at the end. -/
theorem jo7_val {l1 : List Int} {F n i : Nat} {t : List Int × Int} {lo5 : Int → Option Bool} {k : Nat} {M : List (Vc Int 512)} (hn : n ≤ l0.length ∧ n ≤ 16) (hF : F ≤ n) (hi : i < 16) (hk : 3 ≤ k)
    (hM : M.getD i zs = fd l0 l1 F (min (n - F) l1.length) (LF l0 F) 0 i) (ht : t.1 = (M.getD i zs).1) :
    shadowboxlaw05_DiskLasts.jo7 l0 l1 (n : Int) (F : Int) (i : Int) k t lo5 = lo5 (IntKind.wrap .i64 ((i : Int) + 1)) := by
  have hl : t.1.length = 512 := by rw [ht]; exact (M.getD i zs).2
  have hLF := LF_get (l0 := l0) (F := F) (by omega) i hi
  unfold fd at hM
  unfold shadowboxlaw05_DiskLasts.jo7
  by_cases c : i < F
  · rw [if_neg (by omega), hLF, if_pos c] at hM
    rw [hM] at ht
    rw [if_pos (by omega), if_pos (by omega), if_pos (by omega), Int.toNat_natCast]
    refine fin_val (m := l0.getD i z2) hl ?_ ?_ ?_ <;> rw [ht, sec_get] <;> rfl
  · rw [if_neg (show ¬ (i : Int) < (F : Int) by omega)]
    have hw : IntKind.wrap .i64 ((i : Int) - (F : Int)) = ((i - F : Nat) : Int) := by rw [wi64 (by omega) (by omega)]; omega
    have none_ : M.getD i zs = zs → shadowboxlaw05_DiskLasts.jo8 l0 l1 (F : Int) (i : Int) k t lo5 false = lo5 (IntKind.wrap .i64 ((i : Int) + 1)) := fun e => by
      rw [e] at ht
      unfold shadowboxlaw05_DiskLasts.jo8
      rw [if_neg (by decide)]
      refine fin_val (m := ⟨[(0 : Int), (0 : Int)], rfl⟩) hl ?_ ?_ ?_ <;> rw [ht, zs_get] <;> rfl
    rw [if_neg c] at hLF
    by_cases c2 : i < n
    · rw [if_pos (by omega), hw]
      by_cases c3 : i - F < l1.length
      · rw [decide_eq_true (by omega)]
        rw [if_pos (by omega), hLF] at hM
        rw [hM] at ht
        unfold shadowboxlaw05_DiskLasts.jo8
        rw [if_pos rfl]
        obtain ⟨k, rfl⟩ : ∃ k', k = k' + 3 := ⟨k - 3, by omega⟩
        refine lo9_val (by omega) (by omega) hi c3 hl ?_ ?_ ?_ <;> rw [ht, kept_get _ _ _ (by omega)]
        · rfl
        · rfl
        · split <;> rfl
      · rw [decide_eq_false (by omega)]
        rw [if_neg (by omega), hLF] at hM
        exact none_ hM
    · rw [if_neg (by omega)]
      rw [if_neg (by omega), hLF] at hM
      exact none_ hM
theorem lo5_val {l1 : List Int} {F n : Nat} {M : List (Vc Int 512)} (hn : n ≤ l0.length ∧ n ≤ 16) (hF : F ≤ n) (hlen : M.length = 16) (hM : ∀ i, i < 16 → M.getD i zs = fd l0 l1 F (min (n - F) l1.length) (LF l0 F) 0 i) (e : Int) : ∀ (m : Nat) {i k : Nat}, 16 - i = m → i ≤ 16 → m + 3 < k →
    shadowboxlaw05_DiskLasts.lo5 l0 l1 (n : Int) (F : Int) ((mkD false 0 false, (([] : List (Int × Vc Int 512)), M)), e) k (i : Int) = some true := by
  intro m
  induction m with
  | zero =>
    intro i k h1 h2 h3
    obtain ⟨k, rfl⟩ : ∃ k', k = k' + 1 := ⟨k - 1, by omega⟩
    unfold shadowboxlaw05_DiskLasts.lo5
    rw [if_neg (by omega)]
  | succ m ih =>
    intro i k h1 h2 h3
    obtain ⟨k, rfl⟩ : ∃ k', k = k' + 1 := ⟨k - 1, by omega⟩
    refine Eq.trans ?_ (ih (i := i + 1) (k := k) (by omega) (by omega) (by omega))
    conv => lhs; unfold shadowboxlaw05_DiskLasts.lo5
    show (if _ then _ else _) = _
    rw [if_pos (by omega)]
    unfold shadowboxlaw05_DiskLasts.jo6
    show (disk_Disk_Read.f k (mkD false 0 false) (([] : List (Int × Vc Int 512)), M) (i : Int)).bind _ = _
    rw [Read_val (by show 0 ≤ (i : Int) ∧ (i : Int) < (M.length : Int); omega) rfl, Option.bind_some, if_pos rfl, if_pos (by show (((M.getD (i : Int).toNat zs).1.length : Nat) : Int) = 512; rw [(M.getD (i : Int).toNat zs).2]; rfl)]
    rw [jo7_val hn hF (by omega) (by omega) (hM i (by omega)) (by rw [Int.toNat_natCast]), wi64 (by omega) (by omega), show (i : Int) + 1 = ((i + 1 : Nat) : Int) by omega]
/-- Behind all writes. -/
theorem jo3_val {l1 : List Int} {F n k : Nat} (hn : n ≤ l0.length ∧ n ≤ 16) (hF : F ≤ n) (hl1 : l1.length ≤ 17592186044416) (hk : 40 ≤ k) : shadowboxlaw05_DiskLasts.jo3 k l0 l1 (n : Int) (F : Int) (mkD false 0 false) (Ps l0 F (n - F), LF l0 F) = some true := by
  obtain ⟨M, e1, e2, e3⟩ := lo3_val (l0 := l0) (l1 := l1) (F := F) (m := n - F) (by omega) hl1 (LF l0 F) (min (n - F) l1.length) (x := 0) (k := k) (M := LF l0 F) (by omega) (by omega) (by omega) (LF_len F)
  have hs : sortI ((Ps l0 F (n - F)).map (·.1)) = (List.range (n - F)).map fun t => ((F + t : Nat) : Int) := by
    rw [Ps_keys]
    refine sortI_same ?_
    rw [List.pairwise_map]
    exact (List.pairwise_lt_range).imp fun h => by omega
  have hc : disk_Disk_Crash.f k (mkD false 0 false) (Ps l0 F (n - F), LF l0 F) l1 = some ((mkD false 0 false, (([] : List (Int × Vc Int 512)), M)), 0) := by
    rw [Crash_sorted (by show (Ps l0 F (n - F)).length < k; rw [Ps_len]; omega) (by show (Ps l0 F (n - F)).length ≤ _; rw [Ps_len]; omega) (by show 0 < (LF l0 F).length; rw [LF_len]; omega) (by show (LF l0 F).length ≤ _; rw [LF_len]; omega)]
    show disk_Disk_Crash.lo3 _ l1 (sortI ((Ps l0 F (n - F)).map (·.1))) k 0 ([], LF l0 F) = _
    rw [hs]
    exact e1
  unfold shadowboxlaw05_DiskLasts.jo3
  show (disk_Disk_Crash.f k (mkD false 0 false) (Ps l0 F (n - F), LF l0 F) l1).bind _ = _
  rw [hc, Option.bind_some, if_pos rfl]
  unfold disk_Disk_Waiting.f
  rw [Option.bind_some, if_pos (show (([] : List (Int × Vc Int 512)).length : Int) = 0 from rfl), Option.bind_some, if_pos (by rw [wi64 (by omega) (by omega)]; show ((Ps l0 F (n - F)).length : Int) = _; rw [Ps_len]; omega)]
  unfold shadowboxlaw05_DiskLasts.jo4
  exact lo5_val hn hF e2 e3 0 16 (i := 0) (by omega) (by omega) (by omega)
/-- The disk ahead of write i. -/
def stt (l0 : List (Vc Int 2)) (F i : Nat) : Mr := if i ≤ F then (Ps l0 0 i, Z16) else (Ps l0 F (i - F), LF l0 F)
theorem Z16_len : Z16.length = 16 := by simp [Z16]
theorem flush_at {F : Nat} (hF : F ≤ 16) {k : Nat} (hk : 40 ≤ k) : disk_Disk_Flush.f k (mkD false 0 false) (Ps l0 0 F, Z16) = some (0, mkD false 0 false, (([] : List (Int × Vc Int 512)), LF l0 F)) := by
  rw [Flush_val (by omega) (fun p hp => by have := Ps_in hp; show 0 ≤ p.1 ∧ p.1 < (Z16.length : Int); rw [Z16_len]; omega) (by show (Ps l0 0 F).length < k; rw [Ps_len]; omega)]
  rfl
theorem write_at {a m : Nat} (h : a + m < 16) {L : List (Vc Int 512)} (hL : L.length = 16) {k : Nat} : disk_Disk_Write.f k (mkD false 0 false) (Ps l0 a m, L) ((a + m : Nat) : Int) [e0 l0 (a + m), e1 l0 (a + m)] = some (0, mkD false 0 false, (Ps l0 a (m + 1), L)) := by
  rw [Write_val (by omega) (by show 0 ≤ ((a + m : Nat) : Int) ∧ ((a + m : Nat) : Int) < (L.length : Int); omega) (by simp), Ps_succ]
  show some ((0 : Int), mkD false 0 false, (mput ((a + m : Nat) : Int) (vcopy zs _) (Ps l0 a m), L)) = _
  rw [mput_new (Ps_none (Nat.le_refl _))]
  rfl
theorem lo10_val {F n : Nat} (hn : n ≤ l0.length ∧ n ≤ 16) (hF : F ≤ n) (jo2 : Dk → Mr → Option Bool) : ∀ (m : Nat) {i k : Nat}, n - i = m → i ≤ n → m + 50 < k →
    shadowboxlaw05_DiskLasts.lo10 l0 (n : Int) (F : Int) jo2 k (i : Int) (mkD false 0 false) (stt l0 F i) = jo2 (mkD false 0 false) (stt l0 F n) := by
  intro m
  induction m with
  | zero =>
    intro i k h1 h2 h3
    obtain ⟨k, rfl⟩ : ∃ k', k = k' + 1 := ⟨k - 1, by omega⟩
    obtain rfl : i = n := by omega
    unfold shadowboxlaw05_DiskLasts.lo10
    rw [if_neg (by omega)]
  | succ m ih =>
    intro i k h1 h2 h3
    obtain ⟨k, rfl⟩ : ∃ k', k = k' + 1 := ⟨k - 1, by omega⟩
    refine Eq.trans ?_ (ih (i := i + 1) (k := k) (by omega) (by omega) (by omega))
    conv => lhs; unfold shadowboxlaw05_DiskLasts.lo10
    show (if _ then _ else _) = _
    rw [if_pos (by omega)]
    unfold shadowboxlaw05_DiskLasts.jo11
    simp only [Sx.lt]
    have hw : IntKind.wrap .i64 ((i : Int) + 1) = ((i + 1 : Nat) : Int) := by rw [wi64 (by omega) (by omega)]; omega
    by_cases c : i = F
    · subst c
      rw [if_pos rfl]
      have e : stt l0 i i = (Ps l0 0 i, Z16) := by unfold stt; rw [if_pos (Nat.le_refl _)]
      rw [e]
      show (disk_Disk_Flush.f k (mkD false 0 false) (Ps l0 0 i, Z16)).bind _ = _
      rw [flush_at (by omega) (by omega), Option.bind_some, if_pos rfl, if_pos (by omega), if_pos (by omega), if_pos (by decide), if_pos (by decide), Int.toNat_natCast]
      have hwr := write_at (l0 := l0) (a := i) (m := 0) (by omega) (LF_len (l0 := l0) i) (k := k)
      show (disk_Disk_Write.f k (mkD false 0 false) (Ps l0 i 0, LF l0 i) ((i + 0 : Nat) : Int) [e0 l0 (i + 0), e1 l0 (i + 0)]).bind _ = _
      rw [hwr, Option.bind_some, if_pos rfl, hw]
      have e2 : stt l0 i (i + 1) = (Ps l0 i (0 + 1), LF l0 i) := by unfold stt; rw [if_neg (by omega), Nat.add_sub_cancel_left]
      rw [e2]
    · rw [if_neg (by omega), if_pos (by omega), if_pos (by omega), if_pos (by decide), if_pos (by decide), Int.toNat_natCast]
      by_cases c2 : i < F
      · have e : stt l0 F i = (Ps l0 0 i, Z16) := by unfold stt; rw [if_pos (by omega)]
        have e2 : stt l0 F (i + 1) = (Ps l0 0 (i + 1), Z16) := by unfold stt; rw [if_pos (by omega)]
        have hwr := write_at (l0 := l0) (a := 0) (m := i) (by omega) Z16_len (k := k)
        rw [Nat.zero_add] at hwr
        rw [e, e2]
        show (disk_Disk_Write.f k (mkD false 0 false) (Ps l0 0 i, Z16) (i : Int) [e0 l0 i, e1 l0 i]).bind _ = _
        rw [hwr, Option.bind_some, if_pos rfl, hw]
      · have e : stt l0 F i = (Ps l0 F (i - F), LF l0 F) := by unfold stt; rw [if_neg (by omega)]
        have e2 : stt l0 F (i + 1) = (Ps l0 F (i - F + 1), LF l0 F) := by unfold stt; rw [if_neg (by omega), show i + 1 - F = i - F + 1 by omega]
        have hwr := write_at (l0 := l0) (a := F) (m := i - F) (by omega) (LF_len (l0 := l0) F) (k := k)
        rw [show F + (i - F) = i by omega] at hwr
        rw [e, e2]
        show (disk_Disk_Write.f k (mkD false 0 false) (Ps l0 F (i - F), LF l0 F) (i : Int) [e0 l0 i, e1 l0 i]).bind _ = _
        rw [hwr, Option.bind_some, if_pos rfl, hw]
theorem DiskLasts : S.DiskLasts := by
  intro l0 l1 a2 hl0 _ hl1 _ ha
  refine ⟨1000, ?_⟩
  obtain ⟨n, hn⟩ : ∃ n : Nat, n = min l0.length 16 := ⟨_, rfl⟩
  unfold shadowboxlaw05_DiskLasts.f
  rw [New_val (by decide), Option.bind_some, if_pos rfl]
  unfold shadowboxlaw05_DiskLasts.jo1
  simp only [Sx.lt]
  have hy4 : (if (16 : Int) < (l0.length : Int) then (16 : Int) else (l0.length : Int)) = (n : Int) := by split <;> omega
  rw [hy4, wi64 (by omega) (by omega), if_pos (by omega)]
  have ht : -((n : Int) + 1) < Int.tmod a2 ((n : Int) + 1) ∧ Int.tmod a2 ((n : Int) + 1) < (n : Int) + 1 := by
    refine ⟨?_, Int.tmod_lt_of_pos _ (by omega)⟩
    have := Int.neg_tmod a2 ((n : Int) + 1)
    have h2 := Int.tmod_lt_of_pos (-a2) (show (0 : Int) < (n : Int) + 1 by omega)
    omega
  generalize Int.tmod a2 ((n : Int) + 1) = y7 at ht ⊢
  rw [wi64 (n := y7 + (n : Int)) (by omega) (by omega), wi64 (by omega) (by omega)]
  have hF : 0 ≤ Int.tmod (y7 + (n : Int) + 1) ((n : Int) + 1) ∧ Int.tmod (y7 + (n : Int) + 1) ((n : Int) + 1) < (n : Int) + 1 := ⟨Int.tmod_nonneg _ (by omega), Int.tmod_lt_of_pos _ (by omega)⟩
  generalize Int.tmod (y7 + (n : Int) + 1) ((n : Int) + 1) = y11 at hF ⊢
  obtain ⟨F, rfl⟩ : ∃ F : Nat, y11 = (F : Int) := ⟨y11.toNat, by omega⟩
  refine (lo10_val (l0 := l0) (F := F) (n := n) (by omega) (by omega) _ n (i := 0) (k := 1000) (by omega) (by omega) (by omega)).trans ?_
  unfold shadowboxlaw05_DiskLasts.jo2
  by_cases c : F = n
  · subst c
    rw [if_pos rfl]
    have e : stt l0 F F = (Ps l0 0 F, Z16) := by unfold stt; rw [if_pos (Nat.le_refl _)]
    rw [e]
    show (disk_Disk_Flush.f 1000 (mkD false 0 false) (Ps l0 0 F, Z16)).bind _ = _
    rw [flush_at (by omega) (by omega), Option.bind_some, if_pos rfl]
    have := jo3_val (l0 := l0) (l1 := l1) (F := F) (n := F) (k := 1000) (by omega) (by omega) (by omega) (by omega)
    rw [Nat.sub_self] at this
    exact this
  · rw [if_neg (by omega)]
    have e : stt l0 F n = (Ps l0 F (n - F), LF l0 F) := by unfold stt; rw [if_neg (by omega)]
    rw [e]
    exact jo3_val (by omega) (by omega) (by omega) (by omega)
end Go.Proofs.Ytodfejnjfigkoaa.Pure
