/- The sum of blocks: what the program's and the document's loops compute, as plain functions; no condition. -/
import Derived.Test.YtbidihabicgedaaGz
import Derived.Test.YtbidihabicgedaaBits
set_option linter.unusedVariables false
set_option linter.unusedSimpArgs false
namespace Go.Proofs.Ytbidihabicgedaa.Sha
open Go Go.RowKit Go.Proofs.Ytbidihabicgedaa.Sx Go.Proofs.Ytbidihabicgedaa.G Go.Proofs.Ytbidihabicgedaa.Bt

theorem or_comm (k : IntKind) (a b : Int) : bits .or k a b = bits .or k b a := by simp only [bits, BitVec.or_comm]
def rt (x : Int) (n : Int) : Int := bits .or .u32 (shrv .u32 x n) (shlv .u32 x (32 - n))
def U32 (x : Int) : Prop := 0 ≤ x ∧ x < 4294967296
theorem w32 (x : Int) : U32 (IntKind.wrap .u32 x) := by rw [wu32]; unfold U32; omega
section
variable (k : Nat) (x : Int)
theorem dn6 : sha_down.f k x 6 = some (rt x 6) := by rw [show sha_down.f k x 6 = some (bits .or .u32 (shlv .u32 x (32 - 6)) (shrv .u32 x 6)) from by kernel_rfl, or_comm]; rfl
theorem dn11 : sha_down.f k x 11 = some (rt x 11) := by rw [show sha_down.f k x 11 = some (bits .or .u32 (shlv .u32 x (32 - 11)) (shrv .u32 x 11)) from by kernel_rfl, or_comm]; rfl
theorem dn25 : sha_down.f k x 25 = some (rt x 25) := by rw [show sha_down.f k x 25 = some (bits .or .u32 (shlv .u32 x (32 - 25)) (shrv .u32 x 25)) from by kernel_rfl, or_comm]; rfl
theorem dn2 : sha_down.f k x 2 = some (rt x 2) := by rw [show sha_down.f k x 2 = some (bits .or .u32 (shlv .u32 x (32 - 2)) (shrv .u32 x 2)) from by kernel_rfl, or_comm]; rfl
theorem dn13 : sha_down.f k x 13 = some (rt x 13) := by rw [show sha_down.f k x 13 = some (bits .or .u32 (shlv .u32 x (32 - 13)) (shrv .u32 x 13)) from by kernel_rfl, or_comm]; rfl
theorem dn22 : sha_down.f k x 22 = some (rt x 22) := by rw [show sha_down.f k x 22 = some (bits .or .u32 (shlv .u32 x (32 - 22)) (shrv .u32 x 22)) from by kernel_rfl, or_comm]; rfl
theorem dn17 : sha_down.f k x 17 = some (rt x 17) := by rw [show sha_down.f k x 17 = some (bits .or .u32 (shlv .u32 x (32 - 17)) (shrv .u32 x 17)) from by kernel_rfl, or_comm]; rfl
theorem dn19 : sha_down.f k x 19 = some (rt x 19) := by rw [show sha_down.f k x 19 = some (bits .or .u32 (shlv .u32 x (32 - 19)) (shrv .u32 x 19)) from by kernel_rfl, or_comm]; rfl
theorem dn7 : sha_down.f k x 7 = some (rt x 7) := by rw [show sha_down.f k x 7 = some (bits .or .u32 (shlv .u32 x (32 - 7)) (shrv .u32 x 7)) from by kernel_rfl, or_comm]; rfl
theorem dn18 : sha_down.f k x 18 = some (rt x 18) := by rw [show sha_down.f k x 18 = some (bits .or .u32 (shlv .u32 x (32 - 18)) (shrv .u32 x 18)) from by kernel_rfl, or_comm]; rfl
end
/-! ### The words of all rounds -/
def wst (m : Vc Int 64) (x : Int) : Vc Int 64 :=
  vset m x.toNat (IntKind.wrap .u32 (IntKind.wrap .u32 (IntKind.wrap .u32 (bits .xor .u32 (bits .xor .u32 (rt (m.1.getD (x - 2).toNat 0) 17) (rt (m.1.getD (x - 2).toNat 0) 19)) (Int.fdiv (m.1.getD (x - 2).toNat 0) 1024) + m.1.getD (x - 7).toNat 0) + bits .xor .u32 (bits .xor .u32 (rt (m.1.getD (x - 15).toNat 0) 7) (rt (m.1.getD (x - 15).toNat 0) 18)) (Int.fdiv (m.1.getD (x - 15).toNat 0) 8)) + m.1.getD (x - 16).toNat 0))
theorem jo3_eq {x : Int} (h : 16 ≤ x) (h2 : x < 64) (m : Vc Int 64) (k : Nat) (lo : Int → Vc Int 64 → Option (Vc Int 64)) : sha_spread.jo3 x m k lo = lo (x + 1) (wst m x) := by
  simp only [sha_spread.jo3, lt]
  rw [wi64 (n := x - 2) (by omega) (by omega), wi64 (n := x - 15) (by omega) (by omega), wi64 (n := x - 7) (by omega) (by omega), wi64 (n := x - 16) (by omega) (by omega), wi64 (n := x + 1) (by omega) (by omega)]
  repeat rw [if_pos (by omega)]
  simp only [dn17, dn19, dn7, dn18, Option.bind_some]
  repeat rw [if_pos (by omega)]
  rfl
def wloop : Nat → Int → Vc Int 64 → Vc Int 64
  | 0, _, m => m
  | j + 1, x, m => wloop j (x + 1) (wst m x)
theorem spread_lo2 : ∀ (j k : Nat) (x : Int) (m : Vc Int 64), x + j = 64 → 16 ≤ x → j < k → sha_spread.lo2 k x m = some (wloop j x m) := by
  intro j
  induction j with
  | zero =>
    intro k x m h1 h2 h3
    obtain ⟨k, rfl⟩ : ∃ k', k = k' + 1 := ⟨k - 1, by omega⟩
    unfold sha_spread.lo2
    rw [if_neg (by omega)]
    rfl
  | succ j ih =>
    intro k x m h1 h2 h3
    obtain ⟨k, rfl⟩ : ∃ k', k = k' + 1 := ⟨k - 1, by omega⟩
    unfold sha_spread.lo2
    rw [if_pos (by omega), jo3_eq h2 (by omega), ih k (x + 1) _ (by omega) (by omega) (by omega)]
    rfl
/-! ### The first sixteen words -/
def By (l : List Int) : Prop := ∀ x ∈ l, 0 ≤ x ∧ x < 256
theorem By.get {l : List Int} (h : By l) (i : Nat) : 0 ≤ l.getD i 0 ∧ l.getD i 0 < 256 := by
  rw [List.getD_eq_getElem?_getD]
  cases hi : l[i]? with
  | none => simp
  | some x => exact h x (List.mem_of_getElem? hi)
def word (l : List Int) (t : Nat) : Int := ((l.getD (4 * t) 0 * 256 + l.getD (4 * t + 1) 0) * 256 + l.getD (4 * t + 2) 0) * 256 + l.getD (4 * t + 3) 0
def wl (l : List Int) : Nat → Nat → Vc Int 64 → Vc Int 64
  | 0, _, m => m
  | j + 1, t, m => wl l j (t + 1) (vset m t (word l t))
theorem or_byte {a c : Int} (h0 : 0 ≤ a) (h1 : a < 16777216) (hc0 : 0 ≤ c) (hc1 : c < 256) : bits .or .u32 (IntKind.wrap .u32 (a * 256)) (IntKind.wrap .u32 c) = a * 256 + c := by
  obtain ⟨n, rfl⟩ := Int.eq_ofNat_of_zero_le h0
  obtain ⟨d, rfl⟩ := Int.eq_ofNat_of_zero_le hc0
  rw [wu32, wu32, Int.emod_eq_of_lt (by omega) (by omega), Int.emod_eq_of_lt (by omega) (by omega)]
  have h := or_u .u32 rfl d (n * 256) (by simp [IntKind.bits]; omega) (by simp [IntKind.bits]; omega)
  have h2 := or_add (a := d) (b := n) (s := 8) (by omega)
  rw [or_comm, show ((n : Nat) : Int) * 256 = ((n * 256 : Nat) : Int) by omega, h]
  rw [show (2 : Nat) ^ 8 = 256 from rfl] at h2
  rw [h2]
  omega
theorem vset_vset {n : Nat} (m : Vc Int n) (i : Nat) (a b : Int) : vset (vset m i a) i b = vset m i b := Subtype.ext (by simp [vset])
theorem vset_get {n : Nat} (m : Vc Int n) {i : Nat} (h : i < n) (a : Int) : (vset m i a).1.getD i 0 = a := by
  have := m.2
  simp [vset, List.getD_eq_getElem?_getD, List.getElem?_set, this, h]
theorem vset_get_ne {n : Nat} (m : Vc Int n) {i j : Nat} (h : i ≠ j) (a : Int) : (vset m i a).1.getD j 0 = m.1.getD j 0 := by
  simp [vset, List.getD_eq_getElem?_getD, List.getElem?_set, h]
theorem lo4_step {a : Vc Int 64} (jo : Vc Int 64 → Option (Vc Int 64)) (k t r : Nat) (ht : t < 16) (hr : r < 4) (m : Vc Int 64) : sha_spread.lo4 a jo (k + 1) ((4 * t + r : Nat) : Int) m = sha_spread.lo4 a jo k ((4 * t + r + 1 : Nat) : Int) (vset m t (bits .or .u32 (IntKind.wrap .u32 (m.1.getD t 0 * 256)) (IntKind.wrap .u32 (a.1.getD (4 * t + r) 0)))) := by
  rw [sha_spread.lo4]
  simp only [lt]
  have e0 : IntKind.wrap .i64 (Int.tdiv ((4 * t + r : Nat) : Int) 4) = (t : Int) := by rw [td _ (by omega), wi64 (by omega) (by omega)]; omega
  have e1 : IntKind.wrap .i64 (((4 * t + r : Nat) : Int) + 1) = ((4 * t + r + 1 : Nat) : Int) := by rw [wi64 (by omega) (by omega)]; omega
  rw [e0, e1]
  rw [if_pos (by omega), if_pos (by omega), if_pos (by omega), if_pos (by omega), if_pos (by omega), if_pos (by omega)]
  simp only [Int.toNat_natCast]
theorem lo4_word {a : Vc Int 64} (hb : By a.1) (jo : Vc Int 64 → Option (Vc Int 64)) (k t : Nat) (ht : t < 16) (m : Vc Int 64) (h0 : m.1.getD t 0 = 0) : sha_spread.lo4 a jo (k + 4) ((4 * t : Nat) : Int) m = sha_spread.lo4 a jo k ((4 * (t + 1) : Nat) : Int) (vset m t (word a.1 t)) := by
  have s0 := lo4_step (a := a) jo (k + 3) t 0 ht (by omega) m
  simp only [Nat.add_zero] at s0
  have b0 := hb.get (4 * t)
  have b1 := hb.get (4 * t + 1)
  have b2 := hb.get (4 * t + 2)
  have b3 := hb.get (4 * t + 3)
  rw [s0, h0, or_byte (by omega) (by omega) b0.1 b0.2]
  rw [lo4_step jo (k + 2) t 1 ht (by omega), vset_get m (by omega), vset_vset, or_byte (by omega) (by omega) b1.1 b1.2]
  rw [lo4_step jo (k + 1) t 2 ht (by omega), vset_get m (by omega), vset_vset, or_byte (by omega) (by omega) b2.1 b2.2]
  rw [lo4_step jo k t 3 ht (by omega), vset_get m (by omega), vset_vset, or_byte (by omega) (by omega) b3.1 b3.2]
  have e : word a.1 t = (((0 * 256 + a.1.getD (4 * t) 0) * 256 + a.1.getD (4 * t + 1) 0) * 256 + a.1.getD (4 * t + 2) 0) * 256 + a.1.getD (4 * t + 3) 0 := by unfold word; omega
  rw [e, show 4 * t + 3 + 1 = 4 * (t + 1) by omega]
theorem spread_lo4 {a : Vc Int 64} (hb : By a.1) (jo : Vc Int 64 → Option (Vc Int 64)) : ∀ (j k t : Nat) (m : Vc Int 64), t + j = 16 → 4 * j < k → (∀ i, t ≤ i → m.1.getD i 0 = 0) → sha_spread.lo4 a jo k ((4 * t : Nat) : Int) m = jo (wl a.1 j t m) := by
  intro j
  induction j with
  | zero =>
    intro k t m h1 h3 h4
    obtain ⟨k, rfl⟩ : ∃ k', k = k' + 1 := ⟨k - 1, by omega⟩
    rw [sha_spread.lo4, if_neg (by omega)]
    rfl
  | succ j ih =>
    intro k t m h1 h3 h4
    obtain ⟨k, rfl⟩ : ∃ k', k = k' + 4 := ⟨k - 4, by omega⟩
    rw [lo4_word hb jo k t (by omega) m (h4 t (Nat.le_refl _)), ih k (t + 1) _ (by omega) (by omega) (fun i hi => ?_)]
    · rfl
    · rw [vset_get_ne _ (by omega)]
      exact h4 i (by omega)
def z64 : Vc Int 64 := vrep 64 0
def wds (l : List Int) : Vc Int 64 := wloop 48 16 (wl l 16 0 z64)
theorem z64_get (i : Nat) : z64.1.getD i 0 = 0 := by
  unfold z64 vrep
  rw [List.getD_eq_getElem?_getD, List.getElem?_replicate]
  split <;> rfl
theorem spread_val {a : Vc Int 64} (hb : By a.1) (k : Nat) (hk : 70 ≤ k) : sha_spread.f k a = some (wds a.1) := by
  unfold sha_spread.f
  have h := spread_lo4 hb (sha_spread.jo1 k) 16 k 0 z64 rfl (by omega) (fun i _ => z64_get i)
  rw [show ((4 * 0 : Nat) : Int) = 0 from rfl] at h
  rw [show (vrep 64 (0 : Int)) = z64 from rfl, h]
  unfold sha_spread.jo1
  exact spread_lo2 48 k 16 _ (by decide) (by decide) (by omega)
/-! ### The rounds -/
def t1 (K W : Vc Int 64) (x e f g h : Int) : Int := IntKind.wrap .u32 (IntKind.wrap .u32 (IntKind.wrap .u32 (IntKind.wrap .u32 (h + bits .xor .u32 (bits .xor .u32 (rt e 6) (rt e 11)) (rt e 25)) + bits .xor .u32 (bits .and .u32 e f) (bits .and .u32 (IntKind.wrap .u32 (4294967295 - e)) g)) + K.1.getD x.toNat 0) + W.1.getD x.toNat 0)
def t2 (a b c : Int) : Int := IntKind.wrap .u32 (bits .xor .u32 (bits .xor .u32 (rt a 2) (rt a 13)) (rt a 22) + bits .xor .u32 (bits .xor .u32 (bits .and .u32 a b) (bits .and .u32 a c)) (bits .and .u32 b c))
def rloop (K W : Vc Int 64) : Nat → Int → Int → Int → Int → Int → Int → Int → Int → Int → Vc Int 8
  | 0, _, a, b, c, d, e, f, g, h => ⟨[a, b, c, d, e, f, g, h], rfl⟩
  | j + 1, x, a, b, c, d, e, f, g, h => rloop K W j (x + 1) (IntKind.wrap .u32 (t1 K W x e f g h + t2 a b c)) a b c (IntKind.wrap .u32 (d + t1 K W x e f g h)) e f g
theorem not_e {e : Int} (he : U32 e) : bits .xor .u32 (if IntKind.signed .u32 then -1 else IntKind.max .u32) e = IntKind.wrap .u32 (4294967295 - e) := by
  obtain ⟨h0, h1⟩ := he
  obtain ⟨n, rfl⟩ := Int.eq_ofNat_of_zero_le h0
  have e1 : (if IntKind.signed .u32 then -1 else IntKind.max .u32) = ((4294967295 : Nat) : Int) := by decide
  rw [e1, xor_u .u32 rfl 4294967295 n (by simp [IntKind.bits]) (by simp [IntKind.bits]; omega)]
  have h2 := xor_ones 32 n (by omega)
  rw [show (2 : Nat) ^ 32 - 1 = 4294967295 from rfl, Nat.xor_comm] at h2
  rw [h2, wu32]
  omega
theorem jo4_eq (W K : Vc Int 64) {x : Int} (hx : 0 ≤ x) (hx2 : x < 64) (a b c d f g h : Int) {e : Int} (he : U32 e) (k : Nat) (lo : Int → Int → Int → Int → Int → Int → Int → Int → Int → Option (Vc Int 8 × Int)) :
    sha_State_Block.jo4 W K a b c d e f g h x k lo = lo (IntKind.wrap .u32 (t1 K W x e f g h + t2 a b c)) a b c (IntKind.wrap .u32 (d + t1 K W x e f g h)) e f g (x + 1) := by
  simp only [sha_State_Block.jo4, lt]
  rw [not_e he]
  simp only [dn6, dn11, dn25, dn2, dn13, dn22, Option.bind_some]
  rw [wi64 (n := x + 1) (by omega) (by omega)]
  repeat rw [if_pos (by omega)]
  rfl
theorem block_lo3 (W K : Vc Int 64) (jo : Int → Int → Int → Int → Int → Int → Int → Int → Option (Vc Int 8 × Int)) : ∀ (j k : Nat) (x a b c d e f g h : Int), x + j = 64 → 0 ≤ x → j < k → U32 e → U32 d → U32 c → U32 b → U32 a →
    sha_State_Block.lo3 W K jo k a b c d e f g h x = (fun v : Vc Int 8 => jo (v.1.getD 0 0) (v.1.getD 1 0) (v.1.getD 2 0) (v.1.getD 3 0) (v.1.getD 4 0) (v.1.getD 5 0) (v.1.getD 6 0) (v.1.getD 7 0)) (rloop K W j x a b c d e f g h) := by
  intro j
  induction j with
  | zero =>
    intro k x a b c d e f g h h1 h2 h3 _ _ _ _ _
    obtain ⟨k, rfl⟩ : ∃ k', k = k' + 1 := ⟨k - 1, by omega⟩
    rw [sha_State_Block.lo3, if_neg (by omega)]
    rfl
  | succ j ih =>
    intro k x a b c d e f g h h1 h2 h3 he hd hc hb ha
    obtain ⟨k, rfl⟩ : ∃ k', k = k' + 1 := ⟨k - 1, by omega⟩
    rw [sha_State_Block.lo3, if_pos (by omega), jo4_eq W K h2 (by omega) a b c d f g h he, ih k (x + 1) _ _ _ _ _ _ _ _ (by omega) (by omega) (by omega) (w32 _) hc hb ha (w32 _)]
    rfl
def hl (v : Vc Int 8) : Nat → Int → Vc Int 8 × Int → Vc Int 8 × Int
  | 0, _, m => (m.1, IntKind.wrap .u64 (m.2 + 64))
  | j + 1, x, m => hl v j (x + 1) (vset m.1 x.toNat (IntKind.wrap .u32 (m.1.1.getD x.toNat 0 + v.1.getD x.toNat 0)), m.2)
theorem block_lo2 (a b c d e f g h : Int) : ∀ (j k : Nat) (x : Int) (m : Vc Int 8 × Int), x + j = 8 → 0 ≤ x → j < k → sha_State_Block.lo2 a b c d e f g h k x m = some (hl ⟨[a, b, c, d, e, f, g, h], rfl⟩ j x m) := by
  intro j
  induction j with
  | zero =>
    intro k x m h1 h2 h3
    obtain ⟨k, rfl⟩ : ∃ k', k = k' + 1 := ⟨k - 1, by omega⟩
    rw [sha_State_Block.lo2, if_neg (by omega)]
    rfl
  | succ j ih =>
    intro k x m h1 h2 h3
    obtain ⟨k, rfl⟩ : ∃ k', k = k' + 1 := ⟨k - 1, by omega⟩
    rw [sha_State_Block.lo2, if_pos (by omega), if_pos h2]
    simp only [lt]
    rw [wi64 (n := x + 1) (by omega) (by omega), ih k (x + 1) _ (by omega) (by omega) (by omega)]
    rfl
theorem vc8 (v : Vc Int 8) : v = ⟨[v.1.getD 0 0, v.1.getD 1 0, v.1.getD 2 0, v.1.getD 3 0, v.1.getD 4 0, v.1.getD 5 0, v.1.getD 6 0, v.1.getD 7 0], rfl⟩ := by
  obtain ⟨l, hl⟩ := v
  match l, hl with
  | [a, b, c, d, e, f, g, h], _ => rfl
def Wf (s : Vc Int 8 × Int) : Prop := (∀ x ∈ s.1.1, U32 x) ∧ 0 ≤ s.2 ∧ s.2 < 18446744073709551616
theorem Wf.get {s : Vc Int 8 × Int} (h : Wf s) (i : Nat) : U32 (s.1.1.getD i 0) := by
  rw [List.getD_eq_getElem?_getD]
  cases hi : s.1.1[i]? with
  | none => simp [U32]
  | some x => exact h.1 x (List.mem_of_getElem? hi)
/-- What a block makes of a state. -/
def blk (s : Vc Int 8 × Int) (l : List Int) : Vc Int 8 × Int := hl (rloop sha_keys.cst0 (wds l) 64 0 (s.1.1.getD 0 0) (s.1.1.getD 1 0) (s.1.1.getD 2 0) (s.1.1.getD 3 0) (s.1.1.getD 4 0) (s.1.1.getD 5 0) (s.1.1.getD 6 0) (s.1.1.getD 7 0)) 8 0 s
theorem hl_wf (v : Vc Int 8) : ∀ (j : Nat) (x : Int) (m : Vc Int 8 × Int), Wf m → Wf (hl v j x m) := by
  intro j
  induction j with
  | zero => intro x m h; refine ⟨h.1, ?_⟩; show 0 ≤ IntKind.wrap .u64 (m.2 + 64) ∧ IntKind.wrap .u64 (m.2 + 64) < 18446744073709551616; rw [wu64]; omega
  | succ j ih =>
    intro x m h
    refine ih (x + 1) _ ⟨fun y hy => ?_, h.2⟩
    rcases List.mem_or_eq_of_mem_set hy with hy | rfl
    · exact h.1 y hy
    · exact w32 _
theorem blk_wf {s : Vc Int 8 × Int} (h : Wf s) (l : List Int) : Wf (blk s l) := hl_wf _ 8 0 s h
theorem hl_bytes (v : Vc Int 8) : ∀ (j : Nat) (x : Int) (m : Vc Int 8 × Int), (hl v j x m).2 = IntKind.wrap .u64 (m.2 + 64) := by
  intro j
  induction j with
  | zero => intro x m; rfl
  | succ j ih => intro x m; exact ih (x + 1) _
theorem blk_bytes (s : Vc Int 8 × Int) (l : List Int) : (blk s l).2 = IntKind.wrap .u64 (s.2 + 64) := hl_bytes _ 8 0 s
theorem Block_val {s : Vc Int 8 × Int} (hs : Wf s) {a : Vc Int 64} (hb : By a.1) {k : Nat} (hk : 70 ≤ k) : sha_State_Block.f k s a = some (blk s a.1) := by
  unfold sha_State_Block.f
  rw [spread_val hb k hk]
  simp only [sha_keys.f, lt, Option.bind_some]
  repeat rw [if_pos (by omega)]
  rw [show Int.toNat 0 = 0 from rfl, show Int.toNat 1 = 1 from rfl, show Int.toNat 2 = 2 from rfl, show Int.toNat 3 = 3 from rfl, show Int.toNat 4 = 4 from rfl, show Int.toNat 5 = 5 from rfl, show Int.toNat 6 = 6 from rfl, show Int.toNat 7 = 7 from rfl]
  rw [block_lo3 _ _ _ 64 k 0 _ _ _ _ _ _ _ _ (by decide) (by decide) (by omega) (hs.get 4) (hs.get 3) (hs.get 2) (hs.get 1) (hs.get 0)]
  unfold sha_State_Block.jo1
  dsimp only
  rw [block_lo2 _ _ _ _ _ _ _ _ 8 k 0 s (by decide) (by decide) (by omega), ← vc8]
  rfl
/-! ### The end -/
def lenb (y : Int) (x : Nat) : Int := IntKind.wrap .u8 (shrv .u64 (IntKind.wrap .u64 (8 * y)) (8 * (x : Int)))
def be8 (y : Int) : List Int := [lenb y 7, lenb y 6, lenb y 5, lenb y 4, lenb y 3, lenb y 2, lenb y 1, lenb y 0]
theorem b8 (x : Int) : 0 ≤ IntKind.wrap .u8 x ∧ IntKind.wrap .u8 x < 256 := by rw [wu8]; omega
theorem be8_by (y : Int) : By (be8 y) := fun x hx => by
  simp only [be8, List.mem_cons, List.not_mem_nil, or_false] at hx
  rcases hx with rfl | rfl | rfl | rfl | rfl | rfl | rfl | rfl <;> exact b8 _
theorem By.app {l m : List Int} (h : By l) (h2 : By m) : By (l ++ m) := fun x hx => (List.mem_append.1 hx).elim (h x) (h2 x)
theorem By.rep (n : Nat) : By (List.replicate n 0) := fun x hx => by
  rw [List.mem_replicate] at hx
  omega
theorem By.take {l : List Int} (h : By l) (n : Nat) : By (l.take n) := fun x hx => h x (List.mem_of_mem_take hx)
theorem By.drop {l : List Int} (h : By l) (n : Nat) : By (l.drop n) := fun x hx => h x (List.mem_of_mem_drop hx)
theorem By.cons {x : Int} {l : List Int} (h : 0 ≤ x ∧ x < 256) (h2 : By l) : By (x :: l) := fun y hy => by
  rcases List.mem_cons.1 hy with rfl | hy
  · exact h
  · exact h2 y hy
theorem By.one {x : Int} (h : 0 ≤ x ∧ x < 256) : By [x] := By.cons h (fun _ h => by cases h)
def oB (H : Vc Int 8) (x : Int) : Int := IntKind.wrap .u8 (shrv .u32 (H.1.getD (x / 4).toNat 0) (8 * (3 - x % 4)))
def ol (H : Vc Int 8) : Nat → Int → Vc Int 32 → Vc Int 32
  | 0, _, m => m
  | j + 1, x, m => ol H j (x + 1) (vset m x.toNat (oB H x))
theorem End_lo3 (s : Vc Int 8 × Int) : ∀ (j k : Nat) (x : Int) (m : Vc Int 32), x + j = 32 → 0 ≤ x → j < k → sha_State_End.lo3 s k x m = some (ol s.1 j x m) := by
  intro j
  induction j with
  | zero =>
    intro k x m h1 h2 h3
    obtain ⟨k, rfl⟩ : ∃ k', k = k' + 1 := ⟨k - 1, by omega⟩
    rw [sha_State_End.lo3, if_neg (by omega)]
    rfl
  | succ j ih =>
    intro k x m h1 h2 h3
    obtain ⟨k, rfl⟩ : ∃ k', k = k' + 1 := ⟨k - 1, by omega⟩
    rw [sha_State_End.lo3, if_pos (by omega)]
    simp only [lt]
    rw [td _ h2, tm _ h2, wi64 (n := x / 4) (by omega) (by omega), wi64 (n := 3 - x % 4) (by omega) (by omega), wi64 (n := 8 * (3 - x % 4)) (by omega) (by omega), wi64 (n := x + 1) (by omega) (by omega)]
    repeat rw [if_pos (by omega)]
    rw [ih k (x + 1) _ (by omega) (by omega) (by omega)]
    rfl
def z32 : Vc Int 32 := vrep 32 0
/-- A state's end, with what is left: y, how many bytes there were. -/
def padd (r : List Int) (y : Int) : List Int := r ++ 128 :: (List.replicate (if r.length < 56 then 55 - r.length else 119 - r.length) 0 ++ be8 y)
def endS (s : Vc Int 8 × Int) (r : List Int) (y : Int) : Vc Int 32 :=
  if r.length < 56 then ol (blk s (padd r y)).1 32 0 z32 else ol (blk (blk s ((padd r y).take 64)) ((padd r y).drop 64)).1 32 0 z32
theorem End_lo4_step (y : Int) (jo : Vc Int 64 → Option (Vc Int 32)) (k i : Nat) (hi : i < 8) (m : Vc Int 64) : sha_State_End.lo4 y jo (k + 1) (i : Int) m = sha_State_End.lo4 y jo k ((i + 1 : Nat) : Int) (vset m (63 - i) (lenb y i)) := by
  rw [sha_State_End.lo4]
  simp only [lt]
  have e1 : ((i : Int) + 1) = ((i + 1 : Nat) : Int) := by omega
  rw [wi64 (n := 8 * (i : Int)) (by omega) (by omega), wi64 (n := 63 - (i : Int)) (by omega) (by omega), wi64 (n := (i : Int) + 1) (by omega) (by omega)]
  repeat rw [if_pos (by omega)]
  rw [e1, show (63 - (i : Int)).toNat = 63 - i by omega]
  rfl
theorem set8 (A B : List Int) (hA : A.length = 56) (j : Nat) (v : Int) : (A ++ B).set (56 + j) v = A ++ B.set j v := by
  rw [List.set_append_right _ _ (by omega), hA, Nat.add_sub_cancel_left]
theorem len8 : ∀ (B : List Int), B.length = 8 → ∃ a b c d e f g h, B = [a, b, c, d, e, f, g, h]
  | [a, b, c, d, e, f, g, h], _ => ⟨a, b, c, d, e, f, g, h, rfl⟩
theorem End_lo4 (y : Int) (jo : Vc Int 64 → Option (Vc Int 32)) (k : Nat) (hk : 9 ≤ k) (m m' : Vc Int 64) (hm : m'.1 = m.1.take 56 ++ be8 y) : sha_State_End.lo4 y jo k 0 m = jo m' := by
  obtain ⟨k, rfl⟩ : ∃ k', k = k' + 9 := ⟨k - 9, by omega⟩
  have h0 := End_lo4_step y jo (k + 8) 0 (by omega) m
  rw [show ((0 : Nat) : Int) = 0 from rfl] at h0
  rw [h0, End_lo4_step y jo (k + 7) 1 (by omega), End_lo4_step y jo (k + 6) 2 (by omega), End_lo4_step y jo (k + 5) 3 (by omega), End_lo4_step y jo (k + 4) 4 (by omega), End_lo4_step y jo (k + 3) 5 (by omega), End_lo4_step y jo (k + 2) 6 (by omega), End_lo4_step y jo (k + 1) 7 (by omega)]
  rw [sha_State_End.lo4, if_neg (by omega)]
  congr 1
  apply Subtype.ext
  rw [hm]
  obtain ⟨l, hl⟩ := m
  obtain ⟨a, b, c, d, e, f, g, h, hB⟩ := len8 (l.drop 56) (by simp [hl])
  have hA : (l.take 56).length = 56 := by simp [hl]
  have hl2 : l = l.take 56 ++ [a, b, c, d, e, f, g, h] := by rw [← hB, List.take_append_drop]
  simp only [vset]
  rw [show (63 - 0 : Nat) = 56 + 7 from rfl, show (63 - 1 : Nat) = 56 + 6 from rfl, show (63 - 2 : Nat) = 56 + 5 from rfl, show (63 - 3 : Nat) = 56 + 4 from rfl, show (63 - 4 : Nat) = 56 + 3 from rfl, show (63 - 5 : Nat) = 56 + 2 from rfl, show (63 - 6 : Nat) = 56 + 1 from rfl, show (63 - 7 : Nat) = 56 + 0 from rfl]
  generalize l.take 56 = A at hA hl2 ⊢
  subst hl2
  simp only [set8 _ _ hA]
  rfl
theorem End_val {s : Vc Int 8 × Int} (hs : Wf s) {l : List Int} (hb : By l) (hl : l.length ≤ 140737488355328) {k : Nat} (hk : 80 ≤ k) : sha_State_End.f k s l = some (endS s (l.take 63) (IntKind.wrap .u64 (s.2 + IntKind.wrap .u64 ((l.take 63).length : Int)))) := by
  unfold sha_State_End.f
  simp only [lt]
  have e0 : (if (63 : Int) < (l.length : Int) then (63 : Int) else (l.length : Int)) = (((l.take 63).length : Nat) : Int) := by
    rw [List.length_take]
    split <;> omega
  have hn : (l.take 63).length ≤ 63 := by simp; omega
  have hnl : (l.take 63).length ≤ l.length := by simp; omega
  have htk : l.take (((l.take 63).length : Nat) : Int).toNat = l.take 63 := by
    rw [Int.toNat_natCast, List.length_take]
    by_cases h : 63 ≤ l.length
    · rw [Nat.min_eq_left h]
    · rw [Nat.min_eq_right (by omega), List.take_of_length_le (Nat.le_refl _), List.take_of_length_le (by omega)]
  rw [e0]
  rw [if_pos (by omega), if_pos (by omega), htk]
  have hbr := hb.take 63
  generalize hr : l.take 63 = r at hn hbr ⊢
  have hmin : min r.length 64 = r.length := by omega
  rw [hmin, if_pos (by omega), if_pos (by omega)]
  simp only [Int.toNat_natCast]
  have harr : (vset (vcopy (vrep 64 (0 : Int)) r) r.length 128).1 = r ++ 128 :: List.replicate (63 - r.length) 0 := by
    simp only [vset, vcopy, vrep]
    rw [List.take_of_length_le (by omega), List.drop_replicate, List.set_append_right _ _ (by omega), Nat.sub_self, show 64 - r.length = (63 - r.length) + 1 by omega, List.replicate_succ, List.set_cons_zero]
  generalize vset (vcopy (vrep 64 (0 : Int)) r) r.length 128 = arr at harr ⊢
  have hba : By arr.1 := by rw [harr]; exact hbr.app (By.cons (by decide) (By.rep _))
  generalize hy : IntKind.wrap .u64 (s.2 + IntKind.wrap .u64 (r.length : Int)) = y
  have fin : ∀ (s' : Vc Int 8 × Int) (m m' : Vc Int 64), Wf s' → By m'.1 → m'.1 = m.1.take 56 ++ be8 y → sha_State_End.jo1 k y s' m = some (ol (blk s' m'.1).1 32 0 z32) := fun s' m m' hs' hm' hmm => by
    unfold sha_State_End.jo1
    rw [End_lo4 y _ k (by omega) m m' hmm]
    unfold sha_State_End.jo2
    rw [Block_val hs' hm' (by omega)]
    simp only [Option.bind_some]
    exact End_lo3 _ 32 k 0 z32 (by decide) (by decide) (by omega)
  unfold endS
  by_cases h56 : r.length < 56
  · rw [if_neg (by omega), if_pos h56]
    have hpl : (padd r y).length = 64 := by
      simp only [padd, List.length_append, List.length_cons, if_pos h56, List.length_replicate, be8, List.length_nil]
      omega
    have hpb : By (padd r y) := hbr.app (By.cons (by decide) ((By.rep _).app (be8_by y)))
    exact fin s arr ⟨padd r y, hpl⟩ hs hpb (by
      show padd r y = _
      rw [harr]
      simp only [padd, if_pos h56]
      rw [List.take_append, List.take_of_length_le (by omega), show 56 - r.length = (55 - r.length) + 1 by omega, List.take_succ_cons, List.take_replicate, Nat.min_eq_left (by omega), List.append_assoc]
      rfl)
  · rw [if_pos (by omega), if_neg h56, Block_val hs hba (by omega)]
    simp only [Option.bind_some]
    have ht1 : (padd r y).take 64 = arr.1 := by
      rw [harr]
      simp only [padd, if_neg h56]
      rw [List.take_append, List.take_of_length_le (by omega), show 64 - r.length = (63 - r.length) + 1 by omega, List.take_succ_cons, List.take_append, List.take_replicate, List.length_replicate, Nat.min_eq_left (by omega), show 63 - r.length - (119 - r.length) = 0 by omega, List.take_zero, List.append_nil]
    have ht2 : (padd r y).drop 64 = List.replicate 56 0 ++ be8 y := by
      simp only [padd, if_neg h56]
      rw [List.drop_append, List.drop_of_length_le (by omega), List.nil_append, show 64 - r.length = (63 - r.length) + 1 by omega, List.drop_succ_cons, List.drop_append, List.drop_replicate, List.length_replicate, show 119 - r.length - (63 - r.length) = 56 by omega, show 63 - r.length - (119 - r.length) = 0 by omega, List.drop_zero]
    rw [ht1, ht2]
    exact fin (blk s arr.1) sha_State_End.cst0 ⟨List.replicate 56 0 ++ be8 y, by simp [be8]⟩ (blk_wf hs _) ((By.rep _).app (be8_by y)) rfl
/-! ### The sum -/
def fin (s : Vc Int 8 × Int) (l : List Int) : Vc Int 32 := endS s (l.take 63) (IntKind.wrap .u64 (s.2 + IntKind.wrap .u64 ((l.take 63).length : Int)))
def sm : Nat → Vc Int 8 × Int → List Int → Vc Int 32
  | 0, s, l => fin s l
  | j + 1, s, l => sm j (blk s (l.take 64)) (l.drop 64)
def s0 : Vc Int 8 × Int := (sha_Begin.cst0, 0)
theorem s0_wf : Wf s0 := ⟨by
  have : s0.1.1.all (fun x => decide (0 ≤ x ∧ x < 4294967296)) = true := by decide +kernel
  intro x hx
  show 0 ≤ x ∧ x < 4294967296
  exact of_decide_eq_true (List.all_eq_true.1 this x hx), by decide, by decide⟩
theorem vpad_take {l : List Int} (h : 64 ≤ l.length) : (vpad 64 (0 : Int) l).1 = l.take 64 := vpad_val h
theorem Sum_lo1 : ∀ (j k : Nat) (s : Vc Int 8 × Int) (l : List Int), Wf s → By l → l.length / 64 = j → l.length ≤ 140737488355000 → j + 130 ≤ k → sha_Sum.lo1 k l s = some (sm j s l) := by
  intro j
  induction j with
  | zero =>
    intro k s l hs hb hj hl hk
    obtain ⟨k, rfl⟩ : ∃ k', k = k' + 1 := ⟨k - 1, by omega⟩
    rw [sha_Sum.lo1, if_neg (by omega), End_val hs hb (by omega) (by omega)]
    rfl
  | succ j ih =>
    intro k s l hs hb hj hl hk
    obtain ⟨k, rfl⟩ : ∃ k', k = k' + 1 := ⟨k - 1, by omega⟩
    have h64 : 64 ≤ l.length := by omega
    rw [sha_Sum.lo1, if_pos (by omega), if_pos h64, Block_val hs (by rw [vpad_take h64]; exact hb.take 64) (by omega)]
    simp only [Option.bind_some, lt]
    rw [if_pos (by omega), vpad_take h64, show ((64 : Int)).toNat = 64 from rfl, ih k _ _ (blk_wf hs _) (hb.drop 64) (by simp; omega) (by simp; omega) (by omega)]
    rfl
/-- The sum of bytes. -/
def sumL (l : List Int) : Vc Int 32 := sm (l.length / 64) s0 l
theorem Sum_val {l : List Int} (hb : By l) (hl : l.length ≤ 140737488355000) {k : Nat} (hk : l.length / 64 + 130 ≤ k) : sha_Sum.f k l = some (sumL l) := by
  unfold sha_Sum.f sha_Begin.f
  simp only [Option.bind_some]
  exact Sum_lo1 _ k s0 l s0_wf hb rfl hl hk
theorem ol_by (H : Vc Int 8) : ∀ (j : Nat) (x : Int) (m : Vc Int 32), By m.1 → By (ol H j x m).1 := by
  intro j
  induction j with
  | zero => intro x m h; exact h
  | succ j ih =>
    intro x m h
    refine ih _ _ fun y hy => ?_
    rcases List.mem_or_eq_of_mem_set hy with h2 | rfl
    · exact h y h2
    · exact b8 _
theorem z32_by : By z32.1 := fun x hx => by
  have : x = 0 := List.eq_of_mem_replicate hx
  omega
theorem endS_by (s : Vc Int 8 × Int) (r : List Int) (y : Int) : By (endS s r y).1 := by
  unfold endS
  split
  · exact ol_by _ _ _ _ z32_by
  · exact ol_by _ _ _ _ z32_by
theorem sm_by : ∀ (j : Nat) (s : Vc Int 8 × Int) (l : List Int), By (sm j s l).1
  | 0, s, l => endS_by _ _ _
  | j + 1, s, l => sm_by j _ _
theorem sumL_by (l : List Int) : By (sumL l).1 := sm_by _ _ _
end Go.Proofs.Ytbidihabicgedaa.Sha
