/- The pure statement of AllocMarks; no condition. -/
import Derived.Test.YtiikfaefeonfhaaSAllocMarks
import Derived.Test.YtiikfaefeonfhaaAlv
set_option linter.unusedVariables false
set_option linter.unusedSimpArgs false
namespace Go.Proofs.Ytiikfaefeonfhaa.Pure
open Go Go.RowKit Go.Proofs.Ytiikfaefeonfhaa.Sx Go.Proofs.Ytiikfaefeonfhaa.G Go.Proofs.Ytiikfaefeonfhaa.Bt Go.Proofs.Ytiikfaefeonfhaa.Ext Go.Proofs.Ytiikfaefeonfhaa.Exv Go.Proofs.Ytiikfaefeonfhaa.Exm Go.Proofs.Ytiikfaefeonfhaa.Alv

theorem andm (a : Int) (m : Nat) (hm : m ≤ 1000) : 0 ≤ bits .and .i64 a (m : Int) ∧ bits .and .i64 a (m : Int) ≤ (m : Int) := by
  simp only [bits, bvi]
  have h1 : (BitVec.ofInt IntKind.i64.bits a &&& BitVec.ofNat IntKind.i64.bits m).toNat ≤ m := by
    rw [BitVec.toNat_and]
    refine Nat.le_trans Nat.and_le_right ?_
    simp only [BitVec.toNat_ofNat]
    exact Nat.mod_le _ _
  rw [wi64 (by omega) (by omega)]
  omega
/-- Spans that are right. -/
def Rl (L : List Sp) : Prop := ∀ s ∈ L, 0 ≤ s.1 ∧ s.1 < s.2 ∧ s.2 ≤ 1000
theorem Rl.le {L : List Sp} (h : Rl L) : ∀ s ∈ L, s.2 ≤ 1000 := fun s hs => (h s hs).2.2
theorem Rl.app {L : List Sp} (h : Rl L) {s : Sp} (hs : 0 ≤ s.1 ∧ s.1 < s.2 ∧ s.2 ≤ 1000) : Rl (L ++ [s]) := fun x hx => by
  rcases List.mem_append.1 hx with h1 | h1
  · exact h x h1
  · have : x = s := by simpa using h1
    subst this
    exact hs
theorem Rl.sm {F : List Sp} (h : Sm F) : Rl F := fun s hs => by
  have := ok_mem h.ok s hs
  have := h.le s hs
  omega
/-! ### What is played -/
def stp (a : Sp) (P : List Sp × List Sp) (b : Int) : List Sp × List Sp :=
  let n := 1 + bits .and .i64 b 7
  if fndV P.1 n < 0 then P else
    let s := (fndV P.1 n, fndV P.1 n + n)
    let F := remV P.1 s
    if bits .and .i64 b 8 = 0 then (if bits .and .i64 b 16 = 0 then (F, P.2) else ((if usedB a F P.2 s = 0 then addV F s else F), P.2))
    else (F, if usedB a F P.2 s = 0 then P.2 ++ [s] else P.2)
def play (a : Sp) (P : List Sp × List Sp) (l : List Int) : List Sp × List Sp := (l.take 40).foldl (stp a) P
structure In (P : List Sp × List Sp) (n : Nat) : Prop where
  sm : Sm P.1
  rl : Rl P.2
  ln : P.2.length ≤ n
theorem In.mono {P : List Sp × List Sp} {n m : Nat} (h : In P n) (hm : n ≤ m) : In P m := ⟨h.sm, h.rl, Nat.le_trans h.ln hm⟩
theorem fnd_rt {F : List Sp} (h : Sm F) {n : Int} (hf : ¬ fndV F n < 0) : 0 ≤ fndV F n ∧ fndV F n < fndV F n + n ∧ fndV F n + n ≤ 1000 := by
  have := fndV_bound h.ok h.le n
  omega
theorem In.stp {P : List Sp × List Sp} {n : Nat} (h : In P n) (a : Sp) (b : Int) : In (stp a P b) (n + 1) := by
  have hl := h.ln
  unfold Pure.stp
  simp only []
  split
  · exact h.mono (by omega)
  · rename_i hf
    have hr := fnd_rt h.sm hf
    have hF := h.sm.remV (fndV P.1 (1 + bits .and .i64 b 7), fndV P.1 (1 + bits .and .i64 b 7) + (1 + bits .and .i64 b 7))
    split
    · split
      · exact ⟨hF, h.rl, by simp only []; omega⟩
      · refine ⟨?_, h.rl, by simp only []; omega⟩
        simp only []
        split
        · exact hF.addV hr.2.2
        · exact hF
    · refine ⟨hF, ?_, ?_⟩
      · simp only []
        split
        · exact h.rl.app hr
        · exact h.rl
      · simp only []
        split
        · simp; omega
        · omega
theorem In.fold {a : Sp} : ∀ {l : List Int} {P : List Sp × List Sp} {n : Nat}, In P n → In (l.foldl (Pure.stp a) P) (n + l.length) := by
  intro l
  induction l with
  | nil => intro P n h; exact h
  | cons b r ih =>
    intro P n h
    have := ih (h.stp a b)
    exact this.mono (by simp; omega)
theorem In.play {P : List Sp × List Sp} {n : Nat} (h : In P n) (a : Sp) (l : List Int) : In (play a P l) (n + 40) := (In.fold h).mono (by simp; omega)
theorem play_jo {a : Sp} {w F L : List Sp} {l : List Int} {x : Nat} (hx : x < l.length) (hI : In (F, L) 900) {k : Nat} (hk : 2300 < k) (hxb : x ≤ 1000) (lo : Int → Al → Bool × List Sp → Option (Al × (Bool × List Sp))) :
    shadowboxlaw10_AllocMarks_1.jo2 l (x : Int) (mk a 0 F w) (wOf L) k lo = lo ((x + 1 : Nat) : Int) (mk a 0 (stp a (F, L) (l.getD x 0)).1 w) (wOf (stp a (F, L) (l.getD x 0)).2) := by
  have hsm : Sm F := hI.sm
  have hln : L.length ≤ 900 := hI.ln
  have hrl : Rl L := hI.rl
  unfold shadowboxlaw10_AllocMarks_1.jo2
  rw [if_pos (by omega), if_pos (by omega), show ((x : Int)).toNat = x from by omega]
  obtain ⟨b, hb⟩ : ∃ b, l.getD x 0 = b := ⟨_, rfl⟩
  rw [hb]
  simp only [Sx.lt]
  have hw : IntKind.wrap .i64 ((x : Int) + 1) = ((x + 1 : Nat) : Int) := by rw [wi64 (by omega) (by omega)]; omega
  have h7 := andm b 7 (by omega)
  obtain ⟨n, hn⟩ : ∃ n, 1 + bits .and .i64 b 7 = n := ⟨_, rfl⟩
  have h7a : 0 ≤ bits .and .i64 b 7 := h7.1
  have h7b : bits .and .i64 b 7 ≤ 7 := h7.2
  have hn2 : 1 ≤ n ∧ n ≤ 8 := by omega
  have e1 : IntKind.wrap .i64 (1 + bits .and .i64 b 7) = n := by rw [hn, wi64 (by omega) (by omega)]
  rw [e1, hw]
  show (alloc_Alloc_Take.f k (mk a 0 F w) (wOf L) n true).bind _ = _
  rw [Take_spare hsm hn2.1 (by omega) (by omega), Option.bind_some]
  unfold stp
  simp only [hn]
  by_cases hf : fndV F n < 0
  · have e : takeF F n = (0, 15, F) := by unfold takeF; rw [if_pos hf]
    rw [e, if_pos hf]
    rfl
  · have hr := fnd_rt hsm hf
    obtain ⟨p, hp⟩ : ∃ p, fndV F n = p := ⟨_, rfl⟩
    rw [hp] at hr hf
    obtain ⟨G, hG⟩ : ∃ G, remV F (p, p + n) = G := ⟨_, rfl⟩
    have e : takeF F n = (p, 0, G) := by unfold takeF; rw [hp, if_neg hf, hG]
    have hsG : Sm G := by rw [← hG]; exact hsm.remV _
    rw [e, hp, if_neg hf, hG]
    show (if (0 : Int) = 0 then _ else _) = _
    rw [if_pos rfl]
    have e2 : IntKind.wrap .i64 (p + n) = p + n := by rw [wi64 (by omega) (by omega)]
    simp only [e2]
    by_cases c8 : bits .and .i64 b 8 = 0
    · rw [if_pos c8, if_pos c8]
      by_cases c16 : bits .and .i64 b 16 = 0
      · rw [if_pos c16, if_pos c16]
      · rw [if_neg c16, if_neg c16]
        show (alloc_Alloc_Give.f k (mk a 0 G w) (wOf L) (p, p + n)).bind _ = _
        rw [Give_val hsG hrl.le (by omega) _ (by omega), Option.bind_some]
    · rw [if_neg c8, if_neg c8]
      show (alloc_Alloc_Later.f k (mk a 0 G w) (wOf L) (p, p + n)).bind _ = _
      rw [Later_val hsG hrl.le (by omega) _ (by omega), Option.bind_some]
theorem foldl_drop {β : Type} {f : β → Int → β} {l : List Int} {x : Nat} (h : x < l.length) (A : β) : (l.drop x).foldl f A = (l.drop (x + 1)).foldl f (f A (l.getD x 0)) := by
  rw [List.drop_eq_getElem_cons h, show l.getD x 0 = l[x] by simp [List.getD, h]]
  rfl
theorem play_lo {a : Sp} {w : List Sp} {l : List Int} : ∀ (j x k : Nat) (P : List Sp × List Sp), x + j = (l.take 40).length → j + 2400 < k → In P (900 - j) →
    shadowboxlaw10_AllocMarks_1.lo1 l k (x : Int) (mk a 0 P.1 w) (wOf P.2) = some (mk a 0 (((l.take 40).drop x).foldl (stp a) P).1 w, wOf (((l.take 40).drop x).foldl (stp a) P).2) := by
  intro j
  induction j with
  | zero =>
    intro x k P hx hk hI
    obtain ⟨k, rfl⟩ : ∃ q, k = q + 1 := ⟨k - 1, by omega⟩
    have hl : (l.take 40).length = min 40 l.length := by simp
    rw [shadowboxlaw10_AllocMarks_1.lo1, List.drop_of_length_le (by omega)]
    by_cases h : (x : Int) < (l.length : Int)
    · rw [if_pos h, if_neg (show ¬ (x : Int) < 40 by omega)]
      rfl
    · rw [if_neg h]
      rfl
  | succ j ih =>
    intro x k P hx hk hI
    obtain ⟨k, rfl⟩ : ∃ q, k = q + 1 := ⟨k - 1, by omega⟩
    have hl : (l.take 40).length = min 40 l.length := by simp
    have hxl : x < l.length := by omega
    have hg : (l.take 40).getD x 0 = l.getD x 0 := by
      simp only [List.getD, List.getElem?_take]
      rw [if_pos (show x < 40 by omega)]
    rw [shadowboxlaw10_AllocMarks_1.lo1, if_pos (show (x : Int) < (l.length : Int) by omega), if_pos (show (x : Int) < 40 by omega)]
    show shadowboxlaw10_AllocMarks_1.jo2 l (x : Int) (mk a 0 P.1 w) (wOf P.2) k (shadowboxlaw10_AllocMarks_1.lo1 l k) = _
    rw [play_jo hxl (hI.mono (by omega)) (by omega) (by omega), ih (x + 1) k _ (by omega) (by omega) ((hI.stp a _).mono (by omega)), foldl_drop (show x < (l.take 40).length by omega), hg]
theorem play_val {a : Sp} {w F L : List Sp} {l : List Int} (hI : In (F, L) 800) {k : Nat} (hk : 2500 < k) :
    shadowboxlaw10_AllocMarks_1.f k (mk a 0 F w) (wOf L) l = some (mk a 0 (play a (F, L) l).1 w, wOf (play a (F, L) l).2) := by
  have hl : (l.take 40).length ≤ 40 := by simp; omega
  exact play_lo (l.take 40).length 0 k (F, L) (by omega) (by omega) (hI.mono (by omega))
/-! ### What waits is told by its sectors -/
theorem addV_in {F : List Sp} (h : Sm F) {s : Sp} (hs : 0 ≤ s.1 ∧ s.1 < s.2 ∧ s.2 ≤ 1000) : addV F s = add F s.1 s.2 := by
  unfold addV
  rw [if_pos (vb_vd.2 h.vd), if_pos (show rt s = true from decide_eq_true ⟨hs.1, hs.2.1, by omega⟩)]
theorem mem_fold : ∀ {L F : List Sp} (k : Int), Sm F → Rl L → (mem (L.foldl addV F) k ↔ mem F k ∨ mem L k) := by
  intro L
  induction L with
  | nil => intro F k h hL; simp [mem]
  | cons s r ih =>
    intro F k h hL
    have hs := hL s (by simp)
    show mem (r.foldl addV (addV F s)) k ↔ _
    rw [ih k (h.addV hs.2.2) (fun x hx => hL x (by simp [hx])), addV_in h hs, mem_add (ok_pos h.ok) hs.2.1]
    simp only [mem]
    exact or_assoc
theorem Sm.foldr {L F : List Sp} (h : Sm F) (hL : Rl L) : Sm (L.foldl addV F) := Sm.fold h hL.le
theorem mem_W {L : List Sp} (hL : Rl L) (k : Int) : mem (W L) k ↔ mem L k := by
  unfold W
  rw [mem_fold k Sm.nil hL]
  simp [mem]
theorem W_W {L : List Sp} (hL : Rl L) : W (W L) = W L := by
  have h1 := Sm.W hL.le
  exact uniq (Sm.W (Rl.sm h1).le).ok h1.ok (fun k => mem_W (Rl.sm h1) k)
theorem fold_W {F La Lb : List Sp} (h : Sm F) (ha : Rl La) (hb : Rl Lb) (e : W La = W Lb) : La.foldl addV F = Lb.foldl addV F :=
  uniq (Sm.foldr h ha).ok (Sm.foldr h hb).ok (fun k => by rw [mem_fold k h ha, mem_fold k h hb, ← mem_W ha, ← mem_W hb, e])
theorem W_app (L : List Sp) (s : Sp) : W (L ++ [s]) = addV (W L) s := by simp [W]
theorem usedB_W {a : Sp} {F La Lb : List Sp} (e : W La = W Lb) (s : Sp) : usedB a F La s = usedB a F Lb s := by unfold usedB; rw [e]
theorem stp_W {a : Sp} {F La Lb : List Sp} (e : W La = W Lb) (b : Int) : (stp a (F, La) b).1 = (stp a (F, Lb) b).1 ∧ W (stp a (F, La) b).2 = W (stp a (F, Lb) b).2 := by
  unfold stp
  simp only []
  split
  · exact ⟨rfl, e⟩
  · rw [usedB_W (a := a) (F := remV F _) e]
    split
    · split
      · exact ⟨rfl, e⟩
      · exact ⟨rfl, e⟩
    · refine ⟨rfl, ?_⟩
      simp only []
      split
      · rw [W_app, W_app, e]
      · exact e
theorem fold_stp {a : Sp} : ∀ {l : List Int} {P Q : List Sp × List Sp}, P.1 = Q.1 → W P.2 = W Q.2 → (l.foldl (stp a) P).1 = (l.foldl (stp a) Q).1 ∧ W (l.foldl (stp a) P).2 = W (l.foldl (stp a) Q).2 := by
  intro l
  induction l with
  | nil => intro P Q h1 h2; exact ⟨h1, h2⟩
  | cons b r ih =>
    intro ⟨F, La⟩ ⟨G, Lb⟩ h1 h2
    simp only [] at h1 h2
    subst h1
    have := stp_W (a := a) (F := F) h2 b
    exact ih this.1 this.2
theorem lo4_same {l : List Sp} (hl : l.length ≤ 100000) : ∀ (j x k : Nat), x + j = l.length → j < k → shadowboxlaw10_AllocMarks.lo4 l l k (x : Int) = some true := by
  intro j
  induction j with
  | zero =>
    intro x k hx hk
    obtain ⟨k, rfl⟩ : ∃ q, k = q + 1 := ⟨k - 1, by omega⟩
    rw [shadowboxlaw10_AllocMarks.lo4, if_neg (show ¬ (x : Int) < (l.length : Int) by omega)]
  | succ j ih =>
    intro x k hx hk
    obtain ⟨k, rfl⟩ : ∃ q, k = q + 1 := ⟨k - 1, by omega⟩
    rw [shadowboxlaw10_AllocMarks.lo4, if_pos (show (x : Int) < (l.length : Int) by omega), if_pos (show (0 : Int) ≤ (x : Int) by omega), if_pos (show (x : Int) < (l.length : Int) by omega), if_pos (by simp), wi64 (by omega) (by omega), show ((x : Int) + 1) = ((x + 1 : Nat) : Int) from by omega, ih (x + 1) k (by omega) (by omega)]
theorem W_len (L : List Sp) : (W L).length ≤ L.length := by
  have : ∀ (L A : List Sp), (L.foldl addV A).length ≤ A.length + L.length := by
    intro L
    induction L with
    | nil => intro A; simp
    | cons s r ih =>
      intro A
      have := ih (addV A s)
      have := addV_len A s
      show (r.foldl addV (addV A s)).length ≤ _
      simp only [List.length_cons]
      omega
  have := this L []
  unfold W
  simpa using this
theorem AllocMarks : S.AllocMarks := by
  intro a0 l1 l2 h0 _ h1 _ h2
  refine ⟨5000, ?_⟩
  have b3 := andm a0 63 (by omega)
  have b1 : 0 ≤ bits .and .i64 a0 63 := b3.1
  have b2 : bits .and .i64 a0 63 ≤ 63 := b3.2
  obtain ⟨n, hn⟩ : ∃ n, bits .and .i64 a0 63 = n := ⟨_, rfl⟩
  rw [hn] at b1 b2
  unfold shadowboxlaw10_AllocMarks.f
  simp only [Sx.lt, hn]
  rw [wi64 (n := 8 + n) (by omega) (by omega), wi64 (n := 2 + (8 + n)) (by omega) (by omega), New_val (by decide) (by omega) (by omega) (by decide) (by omega) (by omega), Option.bind_some, Option.bind_some]
  have hF0 : Sm (addV [] ((2 : Int), 2 + (8 + n))) := Sm.nil.addV (by simp only []; omega)
  obtain ⟨F0, hF⟩ : ∃ F0, addV [] ((2 : Int), 2 + (8 + n)) = F0 := ⟨_, rfl⟩
  rw [hF] at hF0 ⊢
  show (if (0 : Int) = 0 then (if (0 : Int) = 0 then _ else _) else _) = _
  rw [if_pos rfl, if_pos rfl]
  obtain ⟨a, ha⟩ : ∃ a : Sp, a = ((2 : Int), 2 + (8 + n)) := ⟨_, rfl⟩
  rw [← ha]
  have haB : 0 ≤ a.1 ∧ a.1 ≤ a.2 ∧ a.2 ≤ 1000 := by rw [ha]; simp only []; omega
  have haD : a.2 - a.1 = 8 + n := by rw [ha]; simp only []; omega
  have hI0 : In (F0, []) 0 := ⟨hF0, fun s hs => (by cases hs), Nat.le_refl _⟩
  have hI1 := hI0.play a l1
  have p1 : shadowboxlaw10_AllocMarks_1.f 5000 (mk a 0 F0 F0) (wOf []) l1 = some (mk a 0 (play a (F0, []) l1).1 F0, wOf (play a (F0, []) l1).2) := play_val (hI0.mono (by omega)) (by omega)
  obtain ⟨⟨F1, L1⟩, hP1⟩ : ∃ P, play a (F0, []) l1 = P := ⟨_, rfl⟩
  rw [hP1] at hI1 p1
  have hI2 := hI1.play a l2
  have p2 : shadowboxlaw10_AllocMarks_1.f 5000 (mk a 0 F1 F0) (wOf L1) l2 = some (mk a 0 (play a (F1, L1) l2).1 F0, wOf (play a (F1, L1) l2).2) := play_val (hI1.mono (by omega)) (by omega)
  obtain ⟨⟨F2, L2⟩, hP2⟩ : ∃ P, play a (F1, L1) l2 = P := ⟨_, rfl⟩
  rw [hP2] at hI2 p2
  have s1 : Sm F1 := hI1.sm
  have r1 : Rl L1 := hI1.rl
  have n1 : L1.length ≤ 40 := hI1.ln
  have rW := Rl.sm (Sm.W r1.le)
  have nW : (W L1).length ≤ 40 := Nat.le_trans (W_len L1) n1
  have hIW : In (F1, W L1) 40 := ⟨s1, rW, nW⟩
  have q1 : shadowboxlaw10_AllocMarks_1.f 5000 (mk a 0 F1 F0) (wOf (W L1)) l1 = some (mk a 0 (play a (F1, W L1) l1).1 F0, wOf (play a (F1, W L1) l1).2) := play_val (hIW.mono (by omega)) (by omega)
  have q2 : shadowboxlaw10_AllocMarks_1.f 5000 (mk a 0 F1 F0) (wOf L1) l1 = some (mk a 0 (play a (F1, L1) l1).1 F0, wOf (play a (F1, L1) l1).2) := play_val (hI1.mono (by omega)) (by omega)
  have qq : (play a (F1, W L1) l1).1 = (play a (F1, L1) l1).1 ∧ W (play a (F1, W L1) l1).2 = W (play a (F1, L1) l1).2 := fold_stp rfl (W_W r1)
  have hIa := hIW.play a l1
  have hIb := hI1.play a l1
  obtain ⟨⟨Fa, La⟩, hPa⟩ : ∃ P, play a (F1, W L1) l1 = P := ⟨_, rfl⟩
  obtain ⟨⟨Fb, Lb⟩, hPb⟩ : ∃ P, play a (F1, L1) l1 = P := ⟨_, rfl⟩
  rw [hPa] at hIa q1 qq
  rw [hPb] at hIb q2 qq
  obtain ⟨e1, e2⟩ := qq
  simp only [] at e1 e2
  subst e1
  have sa : Sm Fa := hIa.sm
  have ra : Rl La := hIa.rl
  have na : La.length ≤ 80 := hIa.ln
  have rb : Rl Lb := hIb.rl
  have nb : Lb.length ≤ 80 := hIb.ln
  have hfw := fold_W sa ra rb e2
  have sG := Sm.foldr sa ra
  have nG := sG.len
  unfold shadowboxlaw10_AllocMarks.jo1
  show (shadowboxlaw10_AllocMarks_1.f 5000 (mk a 0 F0 F0) (wOf []) l1).bind _ = _
  rw [p1, Option.bind_some, Option.bind_some]
  show (alloc_Alloc_Mark.f 5000 (mk a 0 F1 F0) (wOf L1)).bind _ = _
  rw [Mark_val r1.le (by omega) (by omega), Option.bind_some]
  show (shadowboxlaw10_AllocMarks_1.f 5000 (mk a 0 F1 F0) (wOf L1) l2).bind _ = _
  rw [p2, Option.bind_some]
  show (alloc_Alloc_Undo.f 5000 (mk a 0 F2 F0) (wOf L2) (true, F1, W L1)).bind _ = _
  rw [Undo_val (by omega), Option.bind_some]
  show (alloc_Alloc_Undo.f 5000 (mk a 0 F1 F0) (wOf (W L1)) (false, [], [])).bind _ = _
  rw [Undo_none, Option.bind_some]
  show (alloc_Alloc_Free.f 5000 (mk a 0 F1 F0) (wOf (W L1))).bind _ = _
  rw [Free_val s1 (by omega), Option.bind_some]
  show (alloc_Alloc_Free.f 5000 (mk a 0 F1 F0) (wOf L1)).bind _ = _
  rw [Free_val s1 (by omega), Option.bind_some, if_pos rfl]
  show (alloc_Alloc_Waiting.f 5000 (mk a 0 F1 F0) (wOf (W L1))).bind _ = _
  rw [Waiting_val rW.le (by omega) (by omega), Option.bind_some]
  show (alloc_Alloc_Waiting.f 5000 (mk a 0 F1 F0) (wOf L1)).bind _ = _
  rw [Waiting_val r1.le (by omega) (by omega), Option.bind_some, W_W r1]
  show (if totV (W L1) = totV (W L1) then _ else _) = _
  rw [if_pos rfl]
  show (alloc_Alloc_Used.f 5000 (mk a 0 F1 F0) (wOf (W L1))).bind _ = _
  rw [Used_val haB s1 rW.le (by omega) (by omega), Option.bind_some]
  show (alloc_Alloc_Used.f 5000 (mk a 0 F1 F0) (wOf L1)).bind _ = _
  rw [Used_val haB s1 r1.le (by omega) (by omega), Option.bind_some, W_W r1]
  show (if a.2 - a.1 - totV F1 - totV (W L1) = a.2 - a.1 - totV F1 - totV (W L1) then _ else _) = _
  rw [if_pos rfl]
  show (alloc_Alloc_Free.f 5000 (mk a 0 F1 F0) (wOf (W L1))).bind _ = _
  rw [Free_val s1 (by omega), Option.bind_some]
  show (alloc_Alloc_Waiting.f 5000 (mk a 0 F1 F0) (wOf (W L1))).bind _ = _
  rw [Waiting_val rW.le (by omega) (by omega), Option.bind_some, W_W r1]
  show (alloc_Alloc_Used.f 5000 (mk a 0 F1 F0) (wOf (W L1))).bind _ = _
  rw [Used_val haB s1 rW.le (by omega) (by omega), Option.bind_some, W_W r1]
  have t1 := tot_b s1
  have t2 := tot_b (Sm.W r1.le)
  show (if IntKind.wrap .i64 (IntKind.wrap .i64 (totV F1 + totV (W L1)) + (a.2 - a.1 - totV F1 - totV (W L1))) = 8 + n then _ else _) = _
  rw [wi64 (n := totV F1 + totV (W L1)) (by omega) (by omega), wi64 (by omega) (by omega), if_pos (by omega)]
  show shadowboxlaw10_AllocMarks.jo2 5000 l1 (mk a 0 F1 F0, wOf L1) (mk a 0 F1 F0, wOf (W L1)) (wOf (W L1)) (wOf L1) = _
  unfold shadowboxlaw10_AllocMarks.jo2
  show (shadowboxlaw10_AllocMarks_1.f 5000 (mk a 0 F1 F0) (wOf (W L1)) l1).bind _ = _
  rw [q1, Option.bind_some]
  show (shadowboxlaw10_AllocMarks_1.f 5000 (mk a 0 F1 F0) (wOf L1) l1).bind _ = _
  rw [q2, Option.bind_some]
  show (alloc_Alloc_Commit.f 5000 (mk a 0 Fa F0) (wOf La)).bind _ = _
  rw [Commit_val sa ra.le (by omega) (by omega), Option.bind_some]
  show (alloc_Alloc_Commit.f 5000 (mk a 0 Fa F0) (wOf Lb)).bind _ = _
  rw [Commit_val sa rb.le (by omega) (by omega), Option.bind_some, ← hfw]
  show (alloc_Alloc_Spans.f 5000 (mk a 0 (La.foldl addV Fa) (La.foldl addV Fa)) (wOf [])).bind _ = _
  rw [Spans_val sG, Option.bind_some, Option.bind_some, if_pos rfl]
  exact lo4_same (by omega) (La.foldl addV Fa).length 0 5000 (by omega) (by omega)
end Go.Proofs.Ytiikfaefeonfhaa.Pure
