/- Printed by a program of this session (sz.py): plain functions, and walks that show that the code comes to them; no condition. -/
import Derived.Test.YtodfejnjfigkoaaProg
import Derived.Test.YtodfejnjfigkoaaTy
import Derived.Test.YtodfejnjfigkoaaG0
set_option linter.unusedVariables false
set_option linter.unusedSimpArgs false
namespace Go.Proofs.Ytodfejnjfigkoaa.G
open Go Go.RowKit Go.Proofs.Ytodfejnjfigkoaa.Sx

/-! ### shadowbox/shadowboxlaw05.DiskLasts: function 5 -/
def shadowboxlaw05_DiskLasts.tab24 : List (List Nat) := [[], [0], [0, 1], [], [3], [0, 1, 2, 3, 4], [0, 1, 2, 3, 4, 5], [0, 1, 2, 3, 4, 5, 6], [0, 1, 2, 3, 4, 5, 6, 7], [0, 1, 2, 3, 4, 5, 6, 7, 8], [0, 1, 2, 3, 4, 5, 6], [0, 1, 2, 3, 4, 5, 6, 10], [0, 1, 2, 3, 4, 5, 6, 7, 8, 9, 10, 11], [0, 1, 2, 3, 4, 5, 6, 7, 8, 9, 10, 11, 12], [0, 1, 2, 3, 4, 5, 6, 7, 8, 9, 10, 11, 12, 13], [0, 1, 2, 3, 4, 5, 6, 7, 8, 9, 10, 11, 12, 13, 14], [0, 1, 2, 3, 4, 5, 6, 7, 8, 9, 10, 11, 12, 13, 14, 15], [0, 1, 2, 3, 4, 5, 6, 7, 8, 9, 10, 11, 12, 13, 14, 15, 16], [0, 1, 2, 3, 4, 5, 6, 7, 8, 9, 10, 11, 12, 13, 14, 15, 16, 17], [0, 1, 2, 3, 4, 5, 6, 7, 8, 9, 10, 11, 12, 13, 14, 15, 16, 17, 18]]
def shadowboxlaw05_DiskLasts.tab68 : List (List Nat) := [[], [0], [0, 1], [], [3], [0, 1, 2, 3, 4], [0, 1, 2, 3, 4, 5], [0, 1, 2, 3, 4, 5, 6], [0, 1, 2, 3, 4, 5, 6, 7], [0, 1, 2, 3, 4, 5, 6, 7, 8], [0, 1, 2, 3, 4, 5, 6], [0, 1, 2, 3, 4, 5, 6, 10], [0, 1, 2, 3, 4, 5, 6, 7, 8, 9, 10, 11], [0, 1, 2, 3, 4, 5, 6, 7, 8, 9, 10, 11, 12], [0, 1, 2, 3, 4, 5, 6, 7, 8, 9, 10, 11, 12, 13], [0, 1, 2, 3, 4, 5, 6, 7, 8, 9, 10, 11, 12, 13, 14], [0, 1, 2, 3, 4, 5, 6, 7, 8, 9, 10, 11, 12, 13, 14, 15], [0, 1, 2, 3, 4, 5, 6, 7, 8, 9, 10, 11, 12, 13, 14, 15, 16], [0, 1, 2, 3, 4, 5, 6, 7, 8, 9, 10, 11, 12, 13, 14, 15, 16, 17], [0, 1, 2, 3, 4, 5, 6, 7, 8, 9, 10, 11, 12, 13, 14, 15, 16, 17, 18]]
def shadowboxlaw05_DiskLasts.tab94 : List (List Nat) := [[], [0], [0, 1], [], [3], [0, 1, 2, 3, 4], [0, 1, 2, 3, 4, 5], [0, 1, 2, 3, 4, 5, 6], [0, 1, 2, 3, 4, 5, 6, 7], [0, 1, 2, 3, 4, 5, 6, 7, 8], [0, 1, 2, 3, 4, 5, 6], [0, 1, 2, 3, 4, 5, 6, 10], [0, 1, 2, 3, 4, 5, 6, 7, 8, 9, 10, 11], [0, 1, 2, 3, 4, 5, 6, 7, 8, 9, 10, 11, 12], [0, 1, 2, 3, 4, 5, 6, 7, 8, 9, 10, 11, 12, 13], [0, 1, 2, 3, 4, 5, 6, 7, 8, 9, 10, 11, 12, 13, 14], [0, 1, 2, 3, 4, 5, 6, 7, 8, 9, 10, 11, 12, 13, 14, 15], [0, 1, 2, 3, 4, 5, 6, 7, 8, 9, 10, 11, 12, 13, 14, 15, 16], [0, 1, 2, 3, 4, 5, 6, 7, 8, 9, 10, 11, 12, 13, 14, 15, 16, 17], [0, 1, 2, 3, 4, 5, 6, 7, 8, 9, 10, 11, 12, 13, 14, 15, 16, 17, 18]]
def shadowboxlaw05_DiskLasts.lo9 (l0 : List (Vc Int 2)) (l1 : List Int) (y11 : Int) (x12_5 : Int) (t16 : (List Int) × Int) (lo5 : Int → Option (Bool)) : Nat → Int → ((Vc Int 2)) → Option (Bool)
  | 0, _, _ => none
  | k9 + 1, x16_9, m5_9 => (if x16_9 < (2 : Int) then (if 0 ≤ IntKind.wrap .i64 (x12_5 - y11) then (if IntKind.wrap .i64 (x12_5 - y11) < (l1.length : Int) then lt (((l1).getD (IntKind.wrap .i64 (x12_5 - y11)).toNat (0 : Int))) fun y57 => (if x16_9 < y57 then (if 0 ≤ x12_5 then (if x12_5 < (l0.length : Int) then (if 0 ≤ x16_9 then lt ((((l0).getD (x12_5).toNat (vrep 2 (0 : Int))).1.getD (x16_9).toNat (0 : Int))) fun y65 => lt (vset m5_9 (x16_9).toNat y65) fun y67 => (shadowboxlaw05_DiskLasts.lo9 l0 l1 y11 x12_5 t16 lo5 k9) (IntKind.wrap .i64 (x16_9 + (1 : Int))) y67 else none) else none) else none) else (if (0 : Int) < (t16.1.length : Int) then lt (((t16.1).getD ((0 : Int)).toNat (0 : Int))) fun y74 => (if (0 : Int) < (2 : Int) then lt ((m5_9.1.getD ((0 : Int)).toNat (0 : Int))) fun y77 => (if y74 = y77 then (if (1 : Int) < (t16.1.length : Int) then lt (((t16.1).getD ((1 : Int)).toNat (0 : Int))) fun y83 => (if (1 : Int) < (2 : Int) then lt ((m5_9.1.getD ((1 : Int)).toNat (0 : Int))) fun y86 => (if y83 = y86 then (if (2 : Int) < (t16.1.length : Int) then lt (((t16.1).getD ((2 : Int)).toNat (0 : Int))) fun y92 => (if y92 = (0 : Int) then lo5 (IntKind.wrap .i64 (x12_5 + (1 : Int))) else some false) else none) else some false) else none) else none) else some false) else none) else none)) else none) else none) else (if (0 : Int) < (t16.1.length : Int) then lt (((t16.1).getD ((0 : Int)).toNat (0 : Int))) fun y100 => (if (0 : Int) < (2 : Int) then lt ((m5_9.1.getD ((0 : Int)).toNat (0 : Int))) fun y103 => (if y100 = y103 then (if (1 : Int) < (t16.1.length : Int) then lt (((t16.1).getD ((1 : Int)).toNat (0 : Int))) fun y109 => (if (1 : Int) < (2 : Int) then lt ((m5_9.1.getD ((1 : Int)).toNat (0 : Int))) fun y112 => (if y109 = y112 then (if (2 : Int) < (t16.1.length : Int) then lt (((t16.1).getD ((2 : Int)).toNat (0 : Int))) fun y118 => (if y118 = (0 : Int) then lo5 (IntKind.wrap .i64 (x12_5 + (1 : Int))) else some false) else none) else some false) else none) else none) else some false) else none) else none))
def shadowboxlaw05_DiskLasts.tab120 : List (List Nat) := [[], [0], [0, 1], [], [3], [0, 1, 2, 3, 4], [0, 1, 2, 3, 4, 5], [0, 1, 2, 3, 4, 5, 6], [0, 1, 2, 3, 4, 5, 6, 7], [0, 1, 2, 3, 4, 5, 6, 7, 8], [0, 1, 2, 3, 4, 5, 6], [0, 1, 2, 3, 4, 5, 6, 10], [0, 1, 2, 3, 4, 5, 6, 7, 8, 9, 10, 11], [0, 1, 2, 3, 4, 5, 6, 7, 8, 9, 10, 11, 12], [0, 1, 2, 3, 4, 5, 6, 7, 8, 9, 10, 11, 12, 13], [0, 1, 2, 3, 4, 5, 6, 7, 8, 9, 10, 11, 12, 13, 14], [0, 1, 2, 3, 4, 5, 6, 7, 8, 9, 10, 11, 12, 13, 14, 15], [0, 1, 2, 3, 4, 5, 6, 7, 8, 9, 10, 11, 12, 13, 14, 15, 16], [0, 1, 2, 3, 4, 5, 6, 7, 8, 9, 10, 11, 12, 13, 14, 15, 16, 17], [0, 1, 2, 3, 4, 5, 6, 7, 8, 9, 10, 11, 12, 13, 14, 15, 16, 17, 18]]
def shadowboxlaw05_DiskLasts.jo8 (l0 : List (Vc Int 2)) (l1 : List Int) (y11 : Int) (x12_5 : Int) (k5 : Nat) (t16 : (List Int) × Int) (lo5 : Int → Option (Bool)) (x132_8 : Bool) : Option (Bool) := (if x132_8 = true then shadowboxlaw05_DiskLasts.lo9 l0 l1 y11 x12_5 t16 lo5 k5 (0 : Int) (⟨[(0 : Int), (0 : Int)], rfl⟩ : (Vc Int 2)) else (if (0 : Int) < (t16.1.length : Int) then lt (((t16.1).getD ((0 : Int)).toNat (0 : Int))) fun y126 => (if (0 : Int) < (2 : Int) then lt (((⟨[(0 : Int), (0 : Int)], rfl⟩ : (Vc Int 2)).1.getD ((0 : Int)).toNat (0 : Int))) fun y129 => (if y126 = y129 then (if (1 : Int) < (t16.1.length : Int) then lt (((t16.1).getD ((1 : Int)).toNat (0 : Int))) fun y135 => (if (1 : Int) < (2 : Int) then lt (((⟨[(0 : Int), (0 : Int)], rfl⟩ : (Vc Int 2)).1.getD ((1 : Int)).toNat (0 : Int))) fun y138 => (if y135 = y138 then (if (2 : Int) < (t16.1.length : Int) then lt (((t16.1).getD ((2 : Int)).toNat (0 : Int))) fun y144 => (if y144 = (0 : Int) then lo5 (IntKind.wrap .i64 (x12_5 + (1 : Int))) else some false) else none) else some false) else none) else none) else some false) else none) else none))
def shadowboxlaw05_DiskLasts.jo7 (l0 : List (Vc Int 2)) (l1 : List Int) (y4 : Int) (y11 : Int) (x12_5 : Int) (k5 : Nat) (t16 : (List Int) × Int) (lo5 : Int → Option (Bool)) : Option (Bool) := (if x12_5 < y11 then (if 0 ≤ x12_5 then (if x12_5 < (l0.length : Int) then (if (0 : Int) < (t16.1.length : Int) then lt (((t16.1).getD ((0 : Int)).toNat (0 : Int))) fun y30 => (if (0 : Int) < (2 : Int) then lt ((((l0).getD (x12_5).toNat (vrep 2 (0 : Int))).1.getD ((0 : Int)).toNat (0 : Int))) fun y33 => (if y30 = y33 then (if (1 : Int) < (t16.1.length : Int) then lt (((t16.1).getD ((1 : Int)).toNat (0 : Int))) fun y39 => (if (1 : Int) < (2 : Int) then lt ((((l0).getD (x12_5).toNat (vrep 2 (0 : Int))).1.getD ((1 : Int)).toNat (0 : Int))) fun y42 => (if y39 = y42 then (if (2 : Int) < (t16.1.length : Int) then lt (((t16.1).getD ((2 : Int)).toNat (0 : Int))) fun y48 => (if y48 = (0 : Int) then lo5 (IntKind.wrap .i64 (x12_5 + (1 : Int))) else some false) else none) else some false) else none) else none) else some false) else none) else none) else none) else none) else (if x12_5 < y4 then (shadowboxlaw05_DiskLasts.jo8 l0 l1 y11 x12_5 k5 t16 lo5) (decide ((IntKind.wrap .i64 (x12_5 - y11)) < (l1.length : Int))) else (shadowboxlaw05_DiskLasts.jo8 l0 l1 y11 x12_5 k5 t16 lo5) false))
def shadowboxlaw05_DiskLasts.jo6 (l0 : List (Vc Int 2)) (l1 : List Int) (y4 : Int) (y11 : Int) (t13 : ((Unit × Unit × Bool × Int × Bool) × (List (Int × (Vc Int 512)) × List (Vc Int 512))) × Int) (x12_5 : Int) (k5 : Nat) (lo5 : Int → Option (Bool)) : Option (Bool) := (disk_Disk_Read.f k5 ((), (), t13.1.1.2.2.1, t13.1.1.2.2.2.1, t13.1.1.2.2.2.2) t13.1.2 x12_5).bind fun t16 => (if t16.2 = (0 : Int) then (if (t16.1.length : Int) = (512 : Int) then (shadowboxlaw05_DiskLasts.jo7 l0 l1 y4 y11 x12_5 k5 t16 lo5) else some false) else some false)
def shadowboxlaw05_DiskLasts.lo5 (l0 : List (Vc Int 2)) (l1 : List Int) (y4 : Int) (y11 : Int) (t13 : ((Unit × Unit × Bool × Int × Bool) × (List (Int × (Vc Int 512)) × List (Vc Int 512))) × Int) : Nat → Int → Option (Bool)
  | 0, _ => none
  | k5 + 1, x12_5 => (if x12_5 < (16 : Int) then (shadowboxlaw05_DiskLasts.jo6 l0 l1 y4 y11 t13 x12_5 k5 (shadowboxlaw05_DiskLasts.lo5 l0 l1 y4 y11 t13 k5)) else some true)
def shadowboxlaw05_DiskLasts.jo4 (k : Nat) (l0 : List (Vc Int 2)) (l1 : List Int) (y4 : Int) (y11 : Int) (t13 : ((Unit × Unit × Bool × Int × Bool) × (List (Int × (Vc Int 512)) × List (Vc Int 512))) × Int) : Option (Bool) := shadowboxlaw05_DiskLasts.lo5 l0 l1 y4 y11 t13 k (0 : Int)
def shadowboxlaw05_DiskLasts.jo3 (k : Nat) (l0 : List (Vc Int 2)) (l1 : List Int) (y4 : Int) (y11 : Int) (m0_3 : (Unit × Unit × Bool × Int × Bool)) (m1_3 : (List (Int × (Vc Int 512)) × List (Vc Int 512))) : Option (Bool) := (disk_Disk_Crash.f k ((), (), m0_3.2.2.1, m0_3.2.2.2.1, m0_3.2.2.2.2) m1_3 l1).bind fun t13 => (if t13.2 = (0 : Int) then (disk_Disk_Waiting.f k ((), (), t13.1.1.2.2.1, t13.1.1.2.2.2.1, t13.1.1.2.2.2.2) t13.1.2).bind fun t152 => (if t152 = (0 : Int) then (disk_Disk_Waiting.f k ((), (), m0_3.2.2.1, m0_3.2.2.2.1, m0_3.2.2.2.2) m1_3).bind fun t156 => (if t156 = (IntKind.wrap .i64 (y4 - y11)) then (shadowboxlaw05_DiskLasts.jo4 k l0 l1 y4 y11 t13) else some false) else some false) else some false)
def shadowboxlaw05_DiskLasts.jo2 (k : Nat) (l0 : List (Vc Int 2)) (l1 : List Int) (y4 : Int) (y11 : Int) (m0_2 : (Unit × Unit × Bool × Int × Bool)) (m1_2 : (List (Int × (Vc Int 512)) × List (Vc Int 512))) : Option (Bool) := (if y11 = y4 then (disk_Disk_Flush.f k ((), (), m0_2.2.2.1, m0_2.2.2.2.1, m0_2.2.2.2.2) m1_2).bind fun t161 => (if t161.1 = (0 : Int) then (shadowboxlaw05_DiskLasts.jo3 k l0 l1 y4 y11) ((), (), t161.2.1.2.2.1, t161.2.1.2.2.2.1, t161.2.1.2.2.2.2) t161.2.2 else some false) else (shadowboxlaw05_DiskLasts.jo3 k l0 l1 y4 y11) ((), (), m0_2.2.2.1, m0_2.2.2.2.1, m0_2.2.2.2.2) m1_2)
def shadowboxlaw05_DiskLasts.tab169 : List (List Nat) := [[], [], [], [], [2, 3], [2, 3, 4], [2, 3, 4, 5], [], [], [7, 8], [7, 8, 9], [7, 8, 9, 10], [2, 3, 4, 5, 6, 7, 8, 9, 10, 11], [0, 1, 2, 3, 4, 5, 6, 7, 8, 9, 10, 11, 12], [0, 1, 2, 3, 4, 5, 6, 7, 8, 9, 10, 11, 12, 13]]
def shadowboxlaw05_DiskLasts.tab188 : List (List Nat) := [[], [], [], [], [2, 3], [2, 3, 4], [2, 3, 4, 5], [], [], [7, 8], [7, 8, 9], [7, 8, 9, 10], [2, 3, 4, 5, 6, 7, 8, 9, 10, 11], [0, 1, 2, 3, 4, 5, 6, 7, 8, 9, 10, 11, 12], [0, 1, 2, 3, 4, 5, 6, 7, 8, 9, 10, 11, 12, 13]]
def shadowboxlaw05_DiskLasts.jo11 (l0 : List (Vc Int 2)) (y11 : Int) (x10_10 : Int) (m0_10 : (Unit × Unit × Bool × Int × Bool)) (m1_10 : (List (Int × (Vc Int 512)) × List (Vc Int 512))) (k10 : Nat) (lo10 : Int → ((Unit × Unit × Bool × Int × Bool)) → ((List (Int × (Vc Int 512)) × List (Vc Int 512))) → Option (Bool)) : Option (Bool) := (if x10_10 = y11 then (disk_Disk_Flush.f k10 ((), (), m0_10.2.2.1, m0_10.2.2.2.1, m0_10.2.2.2.2) m1_10).bind fun t166 => (if t166.1 = (0 : Int) then (if 0 ≤ x10_10 then (if x10_10 < (l0.length : Int) then (if (0 : Int) < (2 : Int) then lt ((((l0).getD (x10_10).toNat (vrep 2 (0 : Int))).1.getD ((0 : Int)).toNat (0 : Int))) fun y177 => (if (1 : Int) < (2 : Int) then lt ((((l0).getD (x10_10).toNat (vrep 2 (0 : Int))).1.getD ((1 : Int)).toNat (0 : Int))) fun y182 => (disk_Disk_Write.f k10 ((), (), t166.2.1.2.2.1, t166.2.1.2.2.2.1, t166.2.1.2.2.2.2) t166.2.2 x10_10 ([y177, y182])).bind fun t185 => (if t185.1 = (0 : Int) then lo10 (IntKind.wrap .i64 (x10_10 + (1 : Int))) ((), (), t185.2.1.2.2.1, t185.2.1.2.2.2.1, t185.2.1.2.2.2.2) t185.2.2 else some false) else none) else none) else none) else none) else some false) else (if 0 ≤ x10_10 then (if x10_10 < (l0.length : Int) then (if (0 : Int) < (2 : Int) then lt ((((l0).getD (x10_10).toNat (vrep 2 (0 : Int))).1.getD ((0 : Int)).toNat (0 : Int))) fun y196 => (if (1 : Int) < (2 : Int) then lt ((((l0).getD (x10_10).toNat (vrep 2 (0 : Int))).1.getD ((1 : Int)).toNat (0 : Int))) fun y201 => (disk_Disk_Write.f k10 ((), (), m0_10.2.2.1, m0_10.2.2.2.1, m0_10.2.2.2.2) m1_10 x10_10 ([y196, y201])).bind fun t204 => (if t204.1 = (0 : Int) then lo10 (IntKind.wrap .i64 (x10_10 + (1 : Int))) ((), (), t204.2.1.2.2.1, t204.2.1.2.2.2.1, t204.2.1.2.2.2.2) t204.2.2 else some false) else none) else none) else none) else none))
def shadowboxlaw05_DiskLasts.lo10 (l0 : List (Vc Int 2)) (y4 : Int) (y11 : Int) (jo2 : ((Unit × Unit × Bool × Int × Bool)) → ((List (Int × (Vc Int 512)) × List (Vc Int 512))) → Option (Bool)) : Nat → Int → ((Unit × Unit × Bool × Int × Bool)) → ((List (Int × (Vc Int 512)) × List (Vc Int 512))) → Option (Bool)
  | 0, _, _, _ => none
  | k10 + 1, x10_10, m0_10, m1_10 => (if x10_10 < y4 then (shadowboxlaw05_DiskLasts.jo11 l0 y11 x10_10 m0_10 m1_10 k10 (shadowboxlaw05_DiskLasts.lo10 l0 y4 y11 jo2 k10)) else jo2 ((), (), m0_10.2.2.1, m0_10.2.2.2.1, m0_10.2.2.2.2) m1_10)
def shadowboxlaw05_DiskLasts.jo1 (k : Nat) (l0 : List (Vc Int 2)) (l1 : List Int) (a2 : Int) (t1 : ((Unit × Unit × Bool × Int × Bool) × (List (Int × (Vc Int 512)) × List (Vc Int 512))) × Int) : Option (Bool) := lt ((if (16 : Int) < (l0.length : Int) then (16 : Int) else (l0.length : Int))) fun y4 => (if IntKind.wrap .i64 (y4 + (1 : Int)) ≠ 0 then lt (Int.tmod a2 (IntKind.wrap .i64 (y4 + (1 : Int)))) fun y7 => lt (IntKind.wrap .i64 ((IntKind.wrap .i64 (y7 + y4)) + (1 : Int))) fun y9 => lt (Int.tmod y9 (IntKind.wrap .i64 (y4 + (1 : Int)))) fun y11 => shadowboxlaw05_DiskLasts.lo10 l0 y4 y11 (shadowboxlaw05_DiskLasts.jo2 k l0 l1 y4 y11) k (0 : Int) ((), (), t1.1.1.2.2.1, t1.1.1.2.2.2.1, t1.1.1.2.2.2.2) t1.1.2 else none)
def shadowboxlaw05_DiskLasts.f (k : Nat) (l0 : List (Vc Int 2)) (l1 : List Int) (a2 : Int) : Option (Bool) :=
  (disk_New.f k (16 : Int)).bind fun t1 => (if t1.2 = (0 : Int) then (shadowboxlaw05_DiskLasts.jo1 k l0 l1 a2 t1) else some false)
set_option maxRecDepth 100000 in
set_option maxHeartbeats 4000000 in
theorem shadowboxlaw05_DiskLasts.calls (k : Nat) (A0 : Option Addr) (c0 : Nat) (l0 : List (Vc Int 2)) (A1 : Option Addr) (c1 : Nat) (l1 : List Int) (a2 : Int) (r : Bool) (b : Bs) (hs0 : St b (stl []) b.w) (R0 : Ro b A0 (em T43 l0)) (C0 : l0.length ≤ c0) (R1 : Ro b A1 (em (Ec.int 3 .i64) l1)) (C1 : l1.length ≤ c1) (H : shadowboxlaw05_DiskLasts.f k l0 l1 a2 = some r) :
    Calls Try.prog 5 #[.slice A0 l0.length c0, .slice A1 l1.length c1, .int .i64 a2] b.w fun e w' => ∃ x : Unit, e = .returned (.bool r) ∧ St b (stl []) w' := by
  unfold shadowboxlaw05_DiskLasts.f at H
  refine enterb (n := 175) Try.func5 rfl (by kernel_rfl) (by kernel_rfl) hs0 ?_
  refine cs_sub (s0) (sub_nil _) ?_
  refine cs_seq ?_
  refine cs_region (l := [_]) ?_
  refine lv (.bool false) ?_
  refine ls_end ?_
  refine qn_then ?_
  refine cs_seq ?_
  refine cs_region (l := [_, _, _, _, _, _]) ?_
  obtain ⟨t1, hc2, H⟩ := bind_some H
  refine ls_callb (fid := 6) (vals := #[.int .i64 (16 : Int)]) (X := Nat × Nat × Nat × Nat × Nat) (fun x => .tuple #[.pointer (some ⟨x.1, 0, none⟩), .int .i64 t1.2]) (fun x => stl [Ck.var 34 x.1 (([Value.slice (some ⟨x.2.2.1, 0, none⟩) x.2.2.2.2 x.2.2.2.1] ++ ([Value.map (some x.2.1)] ++ ([Value.bool t1.1.1.2.2.1] ++ ([Value.int .i64 t1.1.1.2.2.2.1] ++ [Value.bool t1.1.1.2.2.2.2]))))), Ck.mr T48 x.2.1 x.2.2.1 x.2.2.2.1 x.2.2.2.2 t1.1.2]) [] [] [] [] 0 rfl rfl (by kernel_rfl) (fun w => by kernel_rfl) trivial trivial (by decide) (fun w hs hb => disk_New.calls k (16 : Int) t1 (lent b w [] []) hb  hc2) ?_
  intro x3
  refine lv (.tuple #[.pointer (some ⟨x3.1, 0, none⟩), .int .i64 t1.2]) ?_
  refine lv (.pointer (some ⟨x3.1, 0, none⟩)) ?_
  refine lv (.int .i64 t1.2) ?_
  refine lv (.pointer (some ⟨x3.1, 0, none⟩)) ?_
  refine lv (.int .i64 t1.2) ?_
  refine ls_end ?_
  refine qn_then ?_
  refine cs_cut (fun f S => ∃ (fR : Fr), f = upd (upd (upd (upd fR 0 (.slice A0 l0.length c0)) 1 (.slice A1 l1.length c1)) 2 (.int .i64 a2)) 7 (.pointer (some ⟨x3.1, 0, none⟩)) ∧ S = sput (sput s0 0 (some (Ck.var 34 x3.1 (([Value.slice (some ⟨x3.2.2.1, 0, none⟩) x3.2.2.2.2 x3.2.2.2.1] ++ ([Value.map (some x3.2.1)] ++ ([Value.bool t1.1.1.2.2.1] ++ ([Value.int .i64 t1.1.1.2.2.2.1] ++ [Value.bool t1.1.1.2.2.2.2])))))))) 1 (some (Ck.mr T48 x3.2.1 x3.2.2.1 x3.2.2.2.1 x3.2.2.2.2 t1.1.2)) ∧ shadowboxlaw05_DiskLasts.jo1 k l0 l1 a2 t1 = some r) ?_ ?_
  · skip
    refine cs_seq ?_
    refine cs_region (l := [_, _, _, _, _, _]) ?_
    refine lv (.int .i64 t1.2) ?_
    refine lv (.bool (!decide (t1.2 = (0 : Int)))) ?_
    refine lv (.bool (!decide (t1.2 = (0 : Int)))) ?_
    by_cases q209 : t1.2 = (0 : Int)
    · replace H := ite_t q209 H
      refine ls_know (c := false) (congrArg Bool.not (dec_t q209)) 23 (by kernel_rfl) ?_
      refine ls_on (j := 2) (t := 23) (b := false) rfl rfl (by kernel_rfl) (by kernel_rfl) ?_
      refine lv (.pointer (some ⟨x3.1, 0, none⟩)) ?_
      refine ls_on (j := 2) (t := 23) (b := false) rfl rfl (by kernel_rfl) (by kernel_rfl) ?_
      refine lv (.bool false) ?_
      refine lv (.bool false) ?_
      refine ls_end ?_
      refine qn_then ?_
      refine cs_false (by kernel_rfl) ?_
      refine cs_skip' ?_
      refine qn_meet (sput (sput s0 0 (some (Ck.var 34 x3.1 (([Value.slice (some ⟨x3.2.2.1, 0, none⟩) x3.2.2.2.2 x3.2.2.2.1] ++ ([Value.map (some x3.2.1)] ++ ([Value.bool t1.1.1.2.2.1] ++ ([Value.int .i64 t1.1.1.2.2.2.1] ++ [Value.bool t1.1.1.2.2.2.2])))))))) 1 (some (Ck.mr T48 x3.2.1 x3.2.2.1 x3.2.2.2.1 x3.2.2.2.2 t1.1.2))) ⟨_, fr_next (fr_next (fr_next (fr_next (rfl) (by kernel_rfl)) (by kernel_rfl)) (by kernel_rfl)) (by kernel_rfl), rfl, H⟩ (sub_put (by exact rfl) (sub_put (by exact rfl) (sub_nil _)))
    replace H := ite_f q209 H
    refine ls_know (c := true) (congrArg Bool.not (dec_f q209)) 23 (by kernel_rfl) ?_
    refine lofx 2 23 false true ?_
    refine lofx 2 23 false true ?_
    refine lv (.bool true) ?_
    refine ls_end ?_
    refine qn_then ?_
    refine cs_true (by kernel_rfl) ?_
    refine cs_seq ?_
    refine cs_region (l := [_]) ?_
    refine lv (.bool false) ?_
    refine ls_end ?_
    refine qn_then ?_
    refine cs_ret' ?_
    refine qr_then ?_
    obtain rfl := Option.some.inj H
    refine qr_res (rs := [_]) rfl (fun w' hs => ⟨[.bool false], (res_tmp (by kernel_rfl) (.nil)), (), rfl, hs.pick (ts := []) (cs := []) trivial (by decide)⟩)
  rintro f S ⟨fr1, rfl, rfl, H⟩
  replace H : (lt ((if (16 : Int) < (l0.length : Int) then (16 : Int) else (l0.length : Int))) fun y4 => (if IntKind.wrap .i64 (y4 + (1 : Int)) ≠ 0 then lt (Int.tmod a2 (IntKind.wrap .i64 (y4 + (1 : Int)))) fun y7 => lt (IntKind.wrap .i64 ((IntKind.wrap .i64 (y7 + y4)) + (1 : Int))) fun y9 => lt (Int.tmod y9 (IntKind.wrap .i64 (y4 + (1 : Int)))) fun y11 => shadowboxlaw05_DiskLasts.lo10 l0 y4 y11 (shadowboxlaw05_DiskLasts.jo2 k l0 l1 y4 y11) k (0 : Int) ((), (), t1.1.1.2.2.1, t1.1.1.2.2.2.1, t1.1.1.2.2.2.2) t1.1.2 else none)) = some r := H
  refine cs_seq ?_
  refine cs_region (l := [_, _, _, _]) ?_
  refine lv (.slice A0 l0.length c0) ?_
  refine lv (.int .i64 (l0.length : Int)) ?_
  obtain ⟨y4, hy5, H⟩ := lt_some H
  refine lv (.int .i64 (if (16 : Int) < (l0.length : Int) then (16 : Int) else (l0.length : Int))) ?_
  refine ls_ren 29 (v := .int .i64 (if (16 : Int) < (l0.length : Int) then (16 : Int) else (l0.length : Int))) (v' := .int .i64 y4) (by kernel_rfl) (by rw [hy5]) ?_
  refine lv (.int .i64 y4) ?_
  refine ls_end ?_
  refine qn_then ?_
  refine cs_seq ?_
  refine cs_region (l := [_, _, _, _, _, _, _, _, _, _, _]) ?_
  refine lv (.int .i64 a2) ?_
  refine lv (.int .i64 y4) ?_
  refine lv (.int .i64 (IntKind.wrap .i64 (y4 + (1 : Int)))) ?_
  obtain ⟨q6, H⟩ := ite_need H
  obtain ⟨y7, hy8, H⟩ := lt_some H
  refine ls_rem (k := .i64) (x := a2) (y := (IntKind.wrap .i64 (y4 + (1 : Int)))) rfl rfl (by kernel_rfl) (fun w => by kernel_rfl) q6 ?_
  refine ls_ren 33 (v := .int .i64 (Int.tmod a2 (IntKind.wrap .i64 (y4 + (1 : Int))))) (v' := .int .i64 y7) (by kernel_rfl) (by rw [hy8]) ?_
  refine lv (.int .i64 y4) ?_
  refine lv (.int .i64 (IntKind.wrap .i64 (y7 + y4))) ?_
  obtain ⟨y9, hy10, H⟩ := lt_some H
  refine lv (.int .i64 (IntKind.wrap .i64 ((IntKind.wrap .i64 (y7 + y4)) + (1 : Int)))) ?_
  refine ls_ren 36 (v := .int .i64 (IntKind.wrap .i64 ((IntKind.wrap .i64 (y7 + y4)) + (1 : Int)))) (v' := .int .i64 y9) (by kernel_rfl) (by rw [hy10]) ?_
  refine lv (.int .i64 y4) ?_
  refine lv (.int .i64 (IntKind.wrap .i64 (y4 + (1 : Int)))) ?_
  obtain ⟨y11, hy12, H⟩ := lt_some H
  refine ls_rem (k := .i64) (x := y9) (y := (IntKind.wrap .i64 (y4 + (1 : Int)))) rfl rfl (by kernel_rfl) (fun w => by kernel_rfl) q6 ?_
  refine ls_ren 39 (v := .int .i64 (Int.tmod y9 (IntKind.wrap .i64 (y4 + (1 : Int))))) (v' := .int .i64 y11) (by kernel_rfl) (by rw [hy12]) ?_
  refine lv (.int .i64 y11) ?_
  refine ls_end ?_
  refine qn_then ?_
  refine cs_cut (fun f S => ∃ (fR : Fr) (m0_2 : (Unit × Unit × Bool × Int × Bool)) (m1_2 : (List (Int × (Vc Int 512)) × List (Vc Int 512))), f = upd (upd (upd (upd (upd fR 0 (.slice A0 l0.length c0)) 1 (.slice A1 l1.length c1)) 2 (.int .i64 y11)) 7 (.pointer (some ⟨x3.1, 0, none⟩))) 9 (.int .i64 y4) ∧ S = sput (sput s0 0 (some (Ck.var 34 x3.1 (([Value.slice (some ⟨x3.2.2.1, 0, none⟩) x3.2.2.2.2 x3.2.2.2.1] ++ ([Value.map (some x3.2.1)] ++ ([Value.bool m0_2.2.2.1] ++ ([Value.int .i64 m0_2.2.2.2.1] ++ [Value.bool m0_2.2.2.2.2])))))))) 1 (some (Ck.mr T48 x3.2.1 x3.2.2.1 x3.2.2.2.1 x3.2.2.2.2 m1_2)) ∧ shadowboxlaw05_DiskLasts.jo2 k l0 l1 y4 y11 m0_2 m1_2 = some r) ?_ ?_
  · skip
    refine cs_seq ?_
    refine cs_region (l := [_]) ?_
    refine lv (.int .i64 (0 : Int)) ?_
    refine ls_end ?_
    refine qn_then ?_
    refine cs_block ?_
    refine cs_sub (sput (sput s0 0 (some (Ck.var 34 x3.1 (([Value.slice (some ⟨x3.2.2.1, 0, none⟩) x3.2.2.2.2 x3.2.2.2.1] ++ ([Value.map (some x3.2.1)] ++ ([Value.bool t1.1.1.2.2.1] ++ ([Value.int .i64 t1.1.1.2.2.2.1] ++ [Value.bool t1.1.1.2.2.2.2])))))))) 1 (some (Ck.mr T48 x3.2.1 x3.2.2.1 x3.2.2.2.1 x3.2.2.2.2 t1.1.2))) (sub_put (by exact rfl) (sub_put (by exact rfl) (sub_nil _))) ?_
    refine cs_loop (fun kk f S => ∃ (fR : Fr) (x10_10 : Int) (m0_10 : (Unit × Unit × Bool × Int × Bool)) (m1_10 : (List (Int × (Vc Int 512)) × List (Vc Int 512))), f = upd (upd (upd (upd (upd (upd fR 0 (.slice A0 l0.length c0)) 1 (.slice A1 l1.length c1)) 2 (.int .i64 y11)) 7 (.pointer (some ⟨x3.1, 0, none⟩))) 9 (.int .i64 y4)) 10 (.int .i64 x10_10) ∧ S = sput (sput s0 0 (some (Ck.var 34 x3.1 (([Value.slice (some ⟨x3.2.2.1, 0, none⟩) x3.2.2.2.2 x3.2.2.2.1] ++ ([Value.map (some x3.2.1)] ++ ([Value.bool m0_10.2.2.1] ++ ([Value.int .i64 m0_10.2.2.2.1] ++ [Value.bool m0_10.2.2.2.2])))))))) 1 (some (Ck.mr T48 x3.2.1 x3.2.2.1 x3.2.2.2.1 x3.2.2.2.2 m1_10)) ∧ shadowboxlaw05_DiskLasts.lo10 l0 y4 y11 (shadowboxlaw05_DiskLasts.jo2 k l0 l1 y4 y11) kk x10_10 m0_10 m1_10 = some r) k ?_ ?_ ?_
    · exact ⟨_, (0 : Int), ((), (), t1.1.1.2.2.1, t1.1.1.2.2.2.1, t1.1.1.2.2.2.2), t1.1.2, fr_next (fr_next (fr_next (fr_next (fr_next (fr_next (rfl) (by kernel_rfl)) (by kernel_rfl)) (by kernel_rfl)) (by kernel_rfl)) (by kernel_rfl)) (by kernel_rfl), rfl, H⟩
    · rintro f S ⟨fr10, x10_10, m0_10, m1_10, rfl, rfl, H⟩; cases H
    rintro k10 f S ⟨fr10, x10_10, m0_10, m1_10, rfl, rfl, H⟩
    replace H : ((if x10_10 < y4 then (shadowboxlaw05_DiskLasts.jo11 l0 y11 x10_10 m0_10 m1_10 k10 (shadowboxlaw05_DiskLasts.lo10 l0 y4 y11 (shadowboxlaw05_DiskLasts.jo2 k l0 l1 y4 y11) k10)) else (shadowboxlaw05_DiskLasts.jo2 k l0 l1 y4 y11) ((), (), m0_10.2.2.1, m0_10.2.2.2.1, m0_10.2.2.2.2) m1_10)) = some r := H
    refine cs_cut (fun f S => ∃ (fR : Fr), f = upd (upd (upd (upd (upd (upd fR 0 (.slice A0 l0.length c0)) 1 (.slice A1 l1.length c1)) 2 (.int .i64 y11)) 7 (.pointer (some ⟨x3.1, 0, none⟩))) 9 (.int .i64 y4)) 10 (.int .i64 x10_10) ∧ S = sput (sput s0 0 (some (Ck.var 34 x3.1 (([Value.slice (some ⟨x3.2.2.1, 0, none⟩) x3.2.2.2.2 x3.2.2.2.1] ++ ([Value.map (some x3.2.1)] ++ ([Value.bool m0_10.2.2.1] ++ ([Value.int .i64 m0_10.2.2.2.1] ++ [Value.bool m0_10.2.2.2.2])))))))) 1 (some (Ck.mr T48 x3.2.1 x3.2.2.1 x3.2.2.2.1 x3.2.2.2.2 m1_10)) ∧ shadowboxlaw05_DiskLasts.jo11 l0 y11 x10_10 m0_10 m1_10 k10 (shadowboxlaw05_DiskLasts.lo10 l0 y4 y11 (shadowboxlaw05_DiskLasts.jo2 k l0 l1 y4 y11) k10) = some r) ?_ ?_
    · skip
      refine cs_seq ?_
      refine cs_region (l := [_, _, _]) ?_
      refine lv (.int .i64 x10_10) ?_
      refine lv (.int .i64 y4) ?_
      refine lv (.bool (decide (x10_10 < y4))) ?_
      refine ls_end ?_
      refine qn_then ?_
      by_cases q208 : x10_10 < y4
      · replace H := ite_t q208 H
        refine cs_know (c := true) (dec_t q208) 42 (by kernel_rfl) ?_
        refine cs_true (by kernel_rfl) ?_
        refine cs_skip' ?_
        refine qn_meet (sput (sput s0 0 (some (Ck.var 34 x3.1 (([Value.slice (some ⟨x3.2.2.1, 0, none⟩) x3.2.2.2.2 x3.2.2.2.1] ++ ([Value.map (some x3.2.1)] ++ ([Value.bool m0_10.2.2.1] ++ ([Value.int .i64 m0_10.2.2.2.1] ++ [Value.bool m0_10.2.2.2.2])))))))) 1 (some (Ck.mr T48 x3.2.1 x3.2.2.1 x3.2.2.2.1 x3.2.2.2.2 m1_10))) ⟨_, fr_next (fr_next (fr_next (fr_next (fr_next (fr_next (rfl) (by kernel_rfl)) (by kernel_rfl)) (by kernel_rfl)) (by kernel_rfl)) (by kernel_rfl)) (by kernel_rfl), rfl, H⟩ (sub_put (by exact rfl) (sub_put (by exact rfl) (sub_nil _)))
      replace H := ite_f q208 H
      refine cs_know (c := false) (dec_f q208) 42 (by kernel_rfl) ?_
      refine cs_false (by kernel_rfl) ?_
      refine cs_exit' ?_
      refine qx_then ?_
      refine qx_then ?_
      refine qx_same ?_
      refine qn_meet (sput (sput s0 0 (some (Ck.var 34 x3.1 (([Value.slice (some ⟨x3.2.2.1, 0, none⟩) x3.2.2.2.2 x3.2.2.2.1] ++ ([Value.map (some x3.2.1)] ++ ([Value.bool m0_10.2.2.1] ++ ([Value.int .i64 m0_10.2.2.2.1] ++ [Value.bool m0_10.2.2.2.2])))))))) 1 (some (Ck.mr T48 x3.2.1 x3.2.2.1 x3.2.2.2.1 x3.2.2.2.2 m1_10))) ⟨_, ((), (), m0_10.2.2.1, m0_10.2.2.2.1, m0_10.2.2.2.2), m1_10, fr_next (fr_next (fr_next (fr_next (fr_next (rfl) (by kernel_rfl)) (by kernel_rfl)) (by kernel_rfl)) (by kernel_rfl)) (by kernel_rfl), rfl, H⟩ (sub_put (by exact rfl) (sub_put (by exact rfl) (sub_nil _)))
    rintro f S ⟨fr11, rfl, rfl, H⟩
    replace H : ((if x10_10 = y11 then (disk_Disk_Flush.f k10 ((), (), m0_10.2.2.1, m0_10.2.2.2.1, m0_10.2.2.2.2) m1_10).bind fun t166 => (if t166.1 = (0 : Int) then (if 0 ≤ x10_10 then (if x10_10 < (l0.length : Int) then (if (0 : Int) < (2 : Int) then lt ((((l0).getD (x10_10).toNat (vrep 2 (0 : Int))).1.getD ((0 : Int)).toNat (0 : Int))) fun y177 => (if (1 : Int) < (2 : Int) then lt ((((l0).getD (x10_10).toNat (vrep 2 (0 : Int))).1.getD ((1 : Int)).toNat (0 : Int))) fun y182 => (disk_Disk_Write.f k10 ((), (), t166.2.1.2.2.1, t166.2.1.2.2.2.1, t166.2.1.2.2.2.2) t166.2.2 x10_10 ([y177, y182])).bind fun t185 => (if t185.1 = (0 : Int) then (shadowboxlaw05_DiskLasts.lo10 l0 y4 y11 (shadowboxlaw05_DiskLasts.jo2 k l0 l1 y4 y11) k10) (IntKind.wrap .i64 (x10_10 + (1 : Int))) ((), (), t185.2.1.2.2.1, t185.2.1.2.2.2.1, t185.2.1.2.2.2.2) t185.2.2 else some false) else none) else none) else none) else none) else some false) else (if 0 ≤ x10_10 then (if x10_10 < (l0.length : Int) then (if (0 : Int) < (2 : Int) then lt ((((l0).getD (x10_10).toNat (vrep 2 (0 : Int))).1.getD ((0 : Int)).toNat (0 : Int))) fun y196 => (if (1 : Int) < (2 : Int) then lt ((((l0).getD (x10_10).toNat (vrep 2 (0 : Int))).1.getD ((1 : Int)).toNat (0 : Int))) fun y201 => (disk_Disk_Write.f k10 ((), (), m0_10.2.2.1, m0_10.2.2.2.1, m0_10.2.2.2.2) m1_10 x10_10 ([y196, y201])).bind fun t204 => (if t204.1 = (0 : Int) then (shadowboxlaw05_DiskLasts.lo10 l0 y4 y11 (shadowboxlaw05_DiskLasts.jo2 k l0 l1 y4 y11) k10) (IntKind.wrap .i64 (x10_10 + (1 : Int))) ((), (), t204.2.1.2.2.1, t204.2.1.2.2.2.1, t204.2.1.2.2.2.2) t204.2.2 else some false) else none) else none) else none) else none))) = some r := H
    refine cs_seq ?_
    refine cs_block ?_
    refine cs_seq ?_
    refine cs_seq ?_
    refine cs_region (l := [_, _, _, _, _, _, _, _]) ?_
    refine lv (.int .i64 x10_10) ?_
    refine lv (.int .i64 y11) ?_
    refine lv (.bool (decide (x10_10 = y11))) ?_
    refine lv (.bool (decide (x10_10 = y11))) ?_
    by_cases q165 : x10_10 = y11
    · replace H := ite_t q165 H
      refine ls_know (c := true) (dec_t q165) 48 (by kernel_rfl) ?_
      refine ls_on (j := 3) (t := 48) (b := true) rfl rfl (by kernel_rfl) (by kernel_rfl) ?_
      refine lv (.pointer (some ⟨x3.1, 0, none⟩)) ?_
      refine ls_on (j := 3) (t := 48) (b := true) rfl rfl (by kernel_rfl) (by kernel_rfl) ?_
      obtain ⟨t166, hc167, H⟩ := bind_some H
      refine ls_callb (fid := 9) (vals := #[.pointer (some ⟨x3.1, 0, none⟩)]) (X := Unit) (fun x => .int .i64 t166.1) (fun x => stl [Ck.var 34 x3.1 (([Value.slice (some ⟨x3.2.2.1, 0, none⟩) x3.2.2.2.2 x3.2.2.2.1] ++ ([Value.map (some x3.2.1)] ++ ([Value.bool t166.2.1.2.2.1] ++ ([Value.int .i64 t166.2.1.2.2.2.1] ++ [Value.bool t166.2.1.2.2.2.2]))))), Ck.mr T48 x3.2.1 x3.2.2.1 x3.2.2.2.1 x3.2.2.2.2 t166.2.2]) [0, 1] [] [Ck.var 34 x3.1 (([Value.slice (some ⟨x3.2.2.1, 0, none⟩) x3.2.2.2.2 x3.2.2.2.1] ++ ([Value.map (some x3.2.1)] ++ ([Value.bool m0_10.2.2.1] ++ ([Value.int .i64 m0_10.2.2.2.1] ++ [Value.bool m0_10.2.2.2.2]))))), Ck.mr T48 x3.2.1 x3.2.2.1 x3.2.2.2.1 x3.2.2.2.2 m1_10] [] 2 rfl rfl (by kernel_rfl) (fun w => by kernel_rfl) ⟨by exact rfl, by exact rfl, trivial⟩ trivial (by decide) (fun w hs hb => disk_Disk_Flush.calls k10 x3.1 x3.2.2.1 x3.2.2.2.2 x3.2.2.2.1 x3.2.1 ((), (), m0_10.2.2.1, m0_10.2.2.2.1, m0_10.2.2.2.2) m1_10 t166 (lent b w [Ck.var 34 x3.1 (([Value.slice (some ⟨x3.2.2.1, 0, none⟩) x3.2.2.2.2 x3.2.2.2.1] ++ ([Value.map (some x3.2.1)] ++ ([Value.bool m0_10.2.2.1] ++ ([Value.int .i64 m0_10.2.2.2.1] ++ [Value.bool m0_10.2.2.2.2]))))), Ck.mr T48 x3.2.1 x3.2.2.1 x3.2.2.2.1 x3.2.2.2.2 m1_10] []) hb  hc167) ?_
      intro x168
      refine ls_on (j := 3) (t := 48) (b := true) rfl rfl (by kernel_rfl) (by kernel_rfl) ?_
      refine lv (.bool (!decide (t166.1 = (0 : Int)))) ?_
      refine lv (.bool (!decide (t166.1 = (0 : Int)))) ?_
      refine ls_end ?_
      refine qn_then ?_
      by_cases q169 : t166.1 = (0 : Int)
      · replace H := ite_t q169 H
        refine cs_know (c := false) (congrArg Bool.not (dec_t q169)) 52 (by kernel_rfl) ?_
        refine cs_false (by kernel_rfl) ?_
        refine cs_skip' ?_
        refine qn_then ?_
        refine cs_seq ?_
        obtain ⟨s171_0, hs171_0⟩ := exv (.pointer (some ⟨x3.1, 0, none⟩))
        refine have_opa shadowboxlaw05_DiskLasts.tab169 2 0 (fun sp => sp 0 = s171_0) (fun sp on hA hon => ?_) (fun ops171_0 => ?_)
        · refine ⟨fun o ho vs Rs f' S' w hp hf hx hS hR hs => ?_⟩
          obtain rfl := Option.some.inj ho
          exact opv (.pointer (some ⟨x3.1, 0, none⟩)) hA hs171_0 hon (fr_next (rfl) ((hx 7 (by kernel_rfl)).trans (by kernel_rfl : (_ : Value) = .pointer (some ⟨x3.1, 0, none⟩))))
        obtain ⟨s171_1, hs171_1⟩ := exv (.int .i64 x10_10)
        refine have_opa shadowboxlaw05_DiskLasts.tab169 2 1 (fun sp => sp 1 = s171_1) (fun sp on hA hon => ?_) (fun ops171_1 => ?_)
        · refine ⟨fun o ho vs Rs f' S' w hp hf hx hS hR hs => ?_⟩
          obtain rfl := Option.some.inj ho
          exact opv (.int .i64 x10_10) hA hs171_1 hon (fr_next (rfl) ((hx 10 (by kernel_rfl)).trans (by kernel_rfl : (_ : Value) = .int .i64 x10_10)))
        obtain ⟨s171_2, hs171_2⟩ := exv (.slice A0 l0.length c0)
        refine have_opa shadowboxlaw05_DiskLasts.tab169 2 2 (fun sp => sp 2 = s171_2) (fun sp on hA hon => ?_) (fun ops171_2 => ?_)
        · refine ⟨fun o ho vs Rs f' S' w hp hf hx hS hR hs => ?_⟩
          obtain rfl := Option.some.inj ho
          exact opv (.slice A0 l0.length c0) hA hs171_2 hon (fr_next (rfl) ((hx 0 (by kernel_rfl)).trans (by kernel_rfl : (_ : Value) = .slice A0 l0.length c0)))
        obtain ⟨s171_3, hs171_3⟩ := exv (.int .i64 x10_10)
        refine have_opa shadowboxlaw05_DiskLasts.tab169 2 3 (fun sp => sp 3 = s171_3) (fun sp on hA hon => ?_) (fun ops171_3 => ?_)
        · refine ⟨fun o ho vs Rs f' S' w hp hf hx hS hR hs => ?_⟩
          obtain rfl := Option.some.inj ho
          exact opv (.int .i64 x10_10) hA hs171_3 hon (fr_next (rfl) ((hx 10 (by kernel_rfl)).trans (by kernel_rfl : (_ : Value) = .int .i64 x10_10)))
        obtain ⟨q172, H⟩ := ite_need H
        obtain ⟨q173, H⟩ := ite_need H
        obtain ⟨ad174, hA175⟩ := ido_at (T := T43) (l := l0) (i := x10_10) R0 q172 q173
        obtain ⟨s171_4, hs171_4⟩ := exv (.pointer (some (ad174.add ((x10_10).toNat * 2))))
        refine have_opa shadowboxlaw05_DiskLasts.tab169 2 4 (fun sp => sp 4 = s171_4 ∧ sp 2 = s171_2 ∧ sp 3 = s171_3) (fun sp on hA hon => ?_) (fun ops171_4 => ?_)
        · refine ⟨fun o ho vs Rs f' S' w hp hf hx hS hR hs => ?_⟩
          obtain rfl := Option.some.inj ho
          obtain ⟨hv2, hR2⟩ := (spe hA.2.1 hs171_2 (hp 2 (by kernel_rfl)))
          obtain ⟨hv3, hR3⟩ := (spe hA.2.2 hs171_3 (hp 3 (by kernel_rfl)))
          rw [hA.1, hs171_4]
          refine wn hon ?_
          have hF := fr_next (fr_next (rfl) ((hf 2 55 (by kernel_rfl) rfl).trans hv2)) ((hf 3 56 (by kernel_rfl) rfl).trans hv3)
          refine ls_fr hF ?_
          refine ls_idxv T43 (A := A0) (c := c0) (l := l0) (k := .i64) (i := x10_10) (z := 2) (ad := ad174) rfl rfl (by kernel_rfl) hA175 rfl (by kernel_rfl) (by kernel_rfl) (by kernel_rfl) (by kernel_rfl) q172 q173 ?_
          exact ls_fin s0 _ (congrArg (fun z => upd z 57 _) hF.symm) ⟨rfl, rfl⟩ (sub_nil _)
        obtain ⟨q176, H⟩ := ite_need H
        obtain ⟨s171_5, hs171_5⟩ := exv (.pointer (some (ad174.add (((x10_10).toNat * 2) + ((0 : Int)).toNat))))
        refine have_opa shadowboxlaw05_DiskLasts.tab169 2 5 (fun sp => sp 5 = s171_5 ∧ sp 4 = s171_4) (fun sp on hA hon => ?_) (fun ops171_5 => ?_)
        · refine ⟨fun o ho vs Rs f' S' w hp hf hx hS hR hs => ?_⟩
          obtain rfl := Option.some.inj ho
          obtain ⟨hv4, hR4⟩ := (spe hA.2 hs171_4 (hp 4 (by kernel_rfl)))
          rw [hA.1, hs171_5]
          refine wn hon ?_
          have hF := fr_next (rfl) ((hf 4 57 (by kernel_rfl) rfl).trans hv4)
          refine ls_fr hF ?_
          refine ls_idxma (ad := ad174) (off := ((x10_10).toNat * 2)) (k := .i64) (i := (0 : Int)) (ln := 2) (e := 5) rfl rfl (by kernel_rfl) rfl (by kernel_rfl) (by kernel_rfl) (by kernel_rfl) (by kernel_rfl) (by decide) q176 ?_
          exact ls_fin s0 _ (congrArg (fun z => upd z 58 _) hF.symm) ⟨rfl, rfl⟩ (sub_nil _)
        obtain ⟨y177, hy178, H⟩ := lt_some H
        obtain ⟨s171_6, hs171_6⟩ := exv (.int .u8 y177)
        refine have_opa shadowboxlaw05_DiskLasts.tab169 2 6 (fun sp => sp 6 = s171_6 ∧ sp 5 = s171_5) (fun sp on hA hon => ?_) (fun ops171_6 => ?_)
        · refine ⟨fun o ho vs Rs f' S' w hp hf hx hS hR hs => ?_⟩
          obtain rfl := Option.some.inj ho
          obtain ⟨hv5, hR5⟩ := (spe hA.2 hs171_5 (hp 5 (by kernel_rfl)))
          rw [hA.1, hs171_6]
          refine wn hon ?_
          have hF := fr_next (rfl) ((hf 5 58 (by kernel_rfl) rfl).trans hv5)
          refine ls_fr hF ?_
          refine ls_load (a0 := (ad174.add (((x10_10).toNat * 2) + ((0 : Int)).toNat))) (v := .int .u8 (((l0).getD (x10_10).toNat (vrep 2 (0 : Int))).1.getD ((0 : Int)).toNat (0 : Int))) (de := (TypeDesc.int .u8)) rfl rfl (by kernel_rfl) rfl (by kernel_rfl) (by kernel_rfl) (by kernel_rfl) (fun w1 hs1 => (Rd.step (hs.old R0) hs1.below.bw).at hA175 (Sub4.trans (em_sub T43 l0 (i := (x10_10).toNat) (by have h0 : (0 : Int) ≤ x10_10 := q172; have h1 : x10_10 < (l0.length : Int) := q173; omega)) (Sub4.one (i := ((0 : Int)).toNat) (Value.int .u8) ((l0).getD (x10_10).toNat (vrep 2 (0 : Int))).1 0 (by have := ((l0).getD (x10_10).toNat (vrep 2 (0 : Int))).2; omega)))) ?_
          refine ls_ren 59 (v := .int .u8 (((l0).getD (x10_10).toNat (vrep 2 (0 : Int))).1.getD ((0 : Int)).toNat (0 : Int))) (v' := .int .u8 y177) (by kernel_rfl) (by rw [hy178]) ?_
          exact ls_fin s0 _ ((upd_upd _ _ _ _).trans (congrArg (fun z => upd z 59 _) hF.symm)) ⟨rfl, rfl⟩ (sub_nil _)
        obtain ⟨s171_7, hs171_7⟩ := exv (.slice A0 l0.length c0)
        refine have_opa shadowboxlaw05_DiskLasts.tab169 2 7 (fun sp => sp 7 = s171_7) (fun sp on hA hon => ?_) (fun ops171_7 => ?_)
        · refine ⟨fun o ho vs Rs f' S' w hp hf hx hS hR hs => ?_⟩
          obtain rfl := Option.some.inj ho
          exact opv (.slice A0 l0.length c0) hA hs171_7 hon (fr_next (rfl) ((hx 0 (by kernel_rfl)).trans (by kernel_rfl : (_ : Value) = .slice A0 l0.length c0)))
        obtain ⟨s171_8, hs171_8⟩ := exv (.int .i64 x10_10)
        refine have_opa shadowboxlaw05_DiskLasts.tab169 2 8 (fun sp => sp 8 = s171_8) (fun sp on hA hon => ?_) (fun ops171_8 => ?_)
        · refine ⟨fun o ho vs Rs f' S' w hp hf hx hS hR hs => ?_⟩
          obtain rfl := Option.some.inj ho
          exact opv (.int .i64 x10_10) hA hs171_8 hon (fr_next (rfl) ((hx 10 (by kernel_rfl)).trans (by kernel_rfl : (_ : Value) = .int .i64 x10_10)))
        obtain ⟨ad179, hA180⟩ := ido_at (T := T43) (l := l0) (i := x10_10) R0 q172 q173
        obtain ⟨s171_9, hs171_9⟩ := exv (.pointer (some (ad179.add ((x10_10).toNat * 2))))
        refine have_opa shadowboxlaw05_DiskLasts.tab169 2 9 (fun sp => sp 9 = s171_9 ∧ sp 7 = s171_7 ∧ sp 8 = s171_8) (fun sp on hA hon => ?_) (fun ops171_9 => ?_)
        · refine ⟨fun o ho vs Rs f' S' w hp hf hx hS hR hs => ?_⟩
          obtain rfl := Option.some.inj ho
          obtain ⟨hv7, hR7⟩ := (spe hA.2.1 hs171_7 (hp 7 (by kernel_rfl)))
          obtain ⟨hv8, hR8⟩ := (spe hA.2.2 hs171_8 (hp 8 (by kernel_rfl)))
          rw [hA.1, hs171_9]
          refine wn hon ?_
          have hF := fr_next (fr_next (rfl) ((hf 7 60 (by kernel_rfl) rfl).trans hv7)) ((hf 8 61 (by kernel_rfl) rfl).trans hv8)
          refine ls_fr hF ?_
          refine ls_idxv T43 (A := A0) (c := c0) (l := l0) (k := .i64) (i := x10_10) (z := 2) (ad := ad179) rfl rfl (by kernel_rfl) hA180 rfl (by kernel_rfl) (by kernel_rfl) (by kernel_rfl) (by kernel_rfl) q172 q173 ?_
          exact ls_fin s0 _ (congrArg (fun z => upd z 62 _) hF.symm) ⟨rfl, rfl⟩ (sub_nil _)
        obtain ⟨q181, H⟩ := ite_need H
        obtain ⟨s171_10, hs171_10⟩ := exv (.pointer (some (ad179.add (((x10_10).toNat * 2) + ((1 : Int)).toNat))))
        refine have_opa shadowboxlaw05_DiskLasts.tab169 2 10 (fun sp => sp 10 = s171_10 ∧ sp 9 = s171_9) (fun sp on hA hon => ?_) (fun ops171_10 => ?_)
        · refine ⟨fun o ho vs Rs f' S' w hp hf hx hS hR hs => ?_⟩
          obtain rfl := Option.some.inj ho
          obtain ⟨hv9, hR9⟩ := (spe hA.2 hs171_9 (hp 9 (by kernel_rfl)))
          rw [hA.1, hs171_10]
          refine wn hon ?_
          have hF := fr_next (rfl) ((hf 9 62 (by kernel_rfl) rfl).trans hv9)
          refine ls_fr hF ?_
          refine ls_idxma (ad := ad179) (off := ((x10_10).toNat * 2)) (k := .i64) (i := (1 : Int)) (ln := 2) (e := 5) rfl rfl (by kernel_rfl) rfl (by kernel_rfl) (by kernel_rfl) (by kernel_rfl) (by kernel_rfl) (by decide) q181 ?_
          exact ls_fin s0 _ (congrArg (fun z => upd z 63 _) hF.symm) ⟨rfl, rfl⟩ (sub_nil _)
        obtain ⟨y182, hy183, H⟩ := lt_some H
        obtain ⟨s171_11, hs171_11⟩ := exv (.int .u8 y182)
        refine have_opa shadowboxlaw05_DiskLasts.tab169 2 11 (fun sp => sp 11 = s171_11 ∧ sp 10 = s171_10) (fun sp on hA hon => ?_) (fun ops171_11 => ?_)
        · refine ⟨fun o ho vs Rs f' S' w hp hf hx hS hR hs => ?_⟩
          obtain rfl := Option.some.inj ho
          obtain ⟨hv10, hR10⟩ := (spe hA.2 hs171_10 (hp 10 (by kernel_rfl)))
          rw [hA.1, hs171_11]
          refine wn hon ?_
          have hF := fr_next (rfl) ((hf 10 63 (by kernel_rfl) rfl).trans hv10)
          refine ls_fr hF ?_
          refine ls_load (a0 := (ad179.add (((x10_10).toNat * 2) + ((1 : Int)).toNat))) (v := .int .u8 (((l0).getD (x10_10).toNat (vrep 2 (0 : Int))).1.getD ((1 : Int)).toNat (0 : Int))) (de := (TypeDesc.int .u8)) rfl rfl (by kernel_rfl) rfl (by kernel_rfl) (by kernel_rfl) (by kernel_rfl) (fun w1 hs1 => (Rd.step (hs.old R0) hs1.below.bw).at hA180 (Sub4.trans (em_sub T43 l0 (i := (x10_10).toNat) (by have h0 : (0 : Int) ≤ x10_10 := q172; have h1 : x10_10 < (l0.length : Int) := q173; omega)) (Sub4.one (i := ((1 : Int)).toNat) (Value.int .u8) ((l0).getD (x10_10).toNat (vrep 2 (0 : Int))).1 0 (by have := ((l0).getD (x10_10).toNat (vrep 2 (0 : Int))).2; omega)))) ?_
          refine ls_ren 64 (v := .int .u8 (((l0).getD (x10_10).toNat (vrep 2 (0 : Int))).1.getD ((1 : Int)).toNat (0 : Int))) (v' := .int .u8 y182) (by kernel_rfl) (by rw [hy183]) ?_
          exact ls_fin s0 _ ((upd_upd _ _ _ _).trans (congrArg (fun z => upd z 64 _) hF.symm)) ⟨rfl, rfl⟩ (sub_nil _)
        obtain ⟨s171_12, hs171_12⟩ : ∃ z : Value → Sto → Prop, z = (fun v R => ∃ g184 : Nat, v = .slice (some ⟨g184, 0, none⟩) [y177, y182].length [y177, y182].length ∧ R = sput s0 0 (some (Ck.sl (Ec.int 5 .u8) (some ⟨g184, 0, none⟩) ([y177, y182].length) ([y177, y182])))) := ⟨_, rfl⟩
        refine have_opa shadowboxlaw05_DiskLasts.tab169 2 12 (fun sp => sp 12 = s171_12 ∧ sp 6 = s171_6 ∧ sp 11 = s171_11) (fun sp on hA hon => ?_) (fun ops171_12 => ?_)
        · refine ⟨fun o ho vs Rs f' S' w hp hf hx hS hR hs => ?_⟩
          obtain rfl := Option.some.inj ho
          obtain ⟨hv6, hR6⟩ := (spe hA.2.1 hs171_6 (hp 6 (by kernel_rfl)))
          obtain ⟨hv11, hR11⟩ := (spe hA.2.2 hs171_11 (hp 11 (by kernel_rfl)))
          rw [hA.1, hs171_12]
          refine wn hon ?_
          have hF := fr_next (fr_next (rfl) ((hf 6 59 (by kernel_rfl) rfl).trans hv6)) ((hf 11 64 (by kernel_rfl) rfl).trans hv11)
          refine ls_fr hF ?_
          refine ls_lit (Ec.int 5 .u8) 0 rfl rfl (by kernel_rfl) ([y177, y182]) (by exact of_decide_eq_true (by kernel_rfl)) (fun w => by kernel_rfl) ?_
          intro g184
          exact ls_fin (sput s0 0 (some (Ck.sl (Ec.int 5 .u8) (some ⟨g184, 0, none⟩) ([y177, y182].length) ([y177, y182])))) (.slice (some ⟨g184, 0, none⟩) [y177, y182].length [y177, y182].length) (congrArg (fun z => upd z 65 _) hF.symm) ⟨g184, rfl, rfl⟩ (sub_put (by exact rfl) (sub_nil _))
        refine cs_draw shadowboxlaw05_DiskLasts.tab169 13 2 (spl [s171_0, s171_1, s171_2, s171_3, s171_4, s171_5, s171_6, s171_7, s171_8, s171_9, s171_10, s171_11, s171_12]) (onl [true, true, true, true, true, true, true, true, true, true, true, true, true]) (by kernel_rfl) (by kernel_rfl) (by kernel_rfl) (by kernel_rfl) (rs := [_, _]) rfl (by kernel_rfl) (by kernel_rfl) (all_snoc (all_snoc (all_snoc (all_snoc (all_snoc (all_snoc (all_snoc (all_snoc (all_snoc (all_snoc (all_snoc (all_snoc (all_snoc (all_nil) (ops171_0 _ _ rfl rfl)) (ops171_1 _ _ rfl rfl)) (ops171_2 _ _ rfl rfl)) (ops171_3 _ _ rfl rfl)) (ops171_4 _ _ ⟨rfl, rfl, rfl⟩ rfl)) (ops171_5 _ _ ⟨rfl, rfl⟩ rfl)) (ops171_6 _ _ ⟨rfl, rfl⟩ rfl)) (ops171_7 _ _ rfl rfl)) (ops171_8 _ _ rfl rfl)) (ops171_9 _ _ ⟨rfl, rfl, rfl⟩ rfl)) (ops171_10 _ _ ⟨rfl, rfl⟩ rfl)) (ops171_11 _ _ ⟨rfl, rfl⟩ rfl)) (ops171_12 _ _ ⟨rfl, rfl, rfl⟩ rfl)) ?_
        intro vs Rs f' S' hp hf hx hS hR
        obtain ⟨hv0, hR0⟩ := (spe rfl hs171_0 (hp 0 (by kernel_rfl)))
        obtain ⟨hv1, hR1⟩ := (spe rfl hs171_1 (hp 1 (by kernel_rfl)))
        obtain ⟨g184, hv12, hR12⟩ := (spe rfl hs171_12 (hp 12 (by kernel_rfl)))
        have hT12_0 := (hR 12 0 (by kernel_rfl) (by decide)).trans (congrFun hR12 0)
        refine ls_fr (F := upd (upd (upd (upd (upd (upd (upd (upd (upd f' 0 (.slice A0 l0.length c0)) 1 (.slice A1 l1.length c1)) 2 (.int .i64 y11)) 7 (.pointer (some ⟨x3.1, 0, none⟩))) 9 (.int .i64 y4)) 10 (.int .i64 x10_10)) 53 (.pointer (some ⟨x3.1, 0, none⟩))) 54 (.int .i64 x10_10)) 65 (.slice (some ⟨g184, 0, none⟩) [y177, y182].length [y177, y182].length)) (fr_next (fr_next (fr_next (fr_next (fr_next (fr_next (fr_next (fr_next (fr_next (rfl) ((hx 0 (by kernel_rfl)).trans (by kernel_rfl : (_ : Value) = .slice A0 l0.length c0))) ((hx 1 (by kernel_rfl)).trans (by kernel_rfl : (_ : Value) = .slice A1 l1.length c1))) ((hx 2 (by kernel_rfl)).trans (by kernel_rfl : (_ : Value) = .int .i64 y11))) ((hx 7 (by kernel_rfl)).trans (by kernel_rfl : (_ : Value) = .pointer (some ⟨x3.1, 0, none⟩)))) ((hx 9 (by kernel_rfl)).trans (by kernel_rfl : (_ : Value) = .int .i64 y4))) ((hx 10 (by kernel_rfl)).trans (by kernel_rfl : (_ : Value) = .int .i64 x10_10))) ((hf 0 53 (by kernel_rfl) rfl).trans hv0)) ((hf 1 54 (by kernel_rfl) rfl).trans hv1)) ((hf 12 65 (by kernel_rfl) rfl).trans hv12)) ?_
        refine ls_sub (sput (sput (sput s0 0 (some (Ck.var 34 x3.1 (([Value.slice (some ⟨x3.2.2.1, 0, none⟩) x3.2.2.2.2 x3.2.2.2.1] ++ ([Value.map (some x3.2.1)] ++ ([Value.bool t166.2.1.2.2.1] ++ ([Value.int .i64 t166.2.1.2.2.2.1] ++ [Value.bool t166.2.1.2.2.2.2])))))))) 1 (some (Ck.mr T48 x3.2.1 x3.2.2.1 x3.2.2.2.1 x3.2.2.2.2 t166.2.2))) 98 (some (Ck.sl (Ec.int 5 .u8) (some ⟨g184, 0, none⟩) ([y177, y182].length) ([y177, y182])))) (sub_put (by exact hT12_0) (sub_put ((hS 1 (by kernel_rfl)).trans (by exact rfl)) (sub_put ((hS 0 (by kernel_rfl)).trans (by exact rfl)) (sub_nil _)))) ?_
        obtain ⟨t185, hc186, H⟩ := bind_some H
        refine ls_callb (fid := 8) (vals := #[.pointer (some ⟨x3.1, 0, none⟩), .int .i64 x10_10, .slice (some ⟨g184, 0, none⟩) ([y177, y182]).length [y177, y182].length]) (X := Unit) (fun x => .int .i64 t185.1) (fun x => stl [Ck.var 34 x3.1 (([Value.slice (some ⟨x3.2.2.1, 0, none⟩) x3.2.2.2.2 x3.2.2.2.1] ++ ([Value.map (some x3.2.1)] ++ ([Value.bool t185.2.1.2.2.1] ++ ([Value.int .i64 t185.2.1.2.2.2.1] ++ [Value.bool t185.2.1.2.2.2.2]))))), Ck.mr T48 x3.2.1 x3.2.2.1 x3.2.2.2.1 x3.2.2.2.2 t185.2.2]) [0, 1] [98] [Ck.var 34 x3.1 (([Value.slice (some ⟨x3.2.2.1, 0, none⟩) x3.2.2.2.2 x3.2.2.2.1] ++ ([Value.map (some x3.2.1)] ++ ([Value.bool t166.2.1.2.2.1] ++ ([Value.int .i64 t166.2.1.2.2.2.1] ++ [Value.bool t166.2.1.2.2.2.2]))))), Ck.mr T48 x3.2.1 x3.2.2.1 x3.2.2.2.1 x3.2.2.2.2 t166.2.2] [Ck.sl (Ec.int 5 .u8) (some ⟨g184, 0, none⟩) ([y177, y182].length) ([y177, y182])] 106 rfl rfl (by kernel_rfl) (fun w => by kernel_rfl) ⟨by exact rfl, by exact rfl, trivial⟩ ⟨by exact rfl, trivial⟩ (by decide) (fun w hs hb => disk_Disk_Write.calls k10 x3.1 x3.2.2.1 x3.2.2.2.2 x3.2.2.2.1 x3.2.1 ((), (), t166.2.1.2.2.1, t166.2.1.2.2.2.1, t166.2.1.2.2.2.2) t166.2.2 x10_10 (some ⟨g184, 0, none⟩) ([y177, y182].length) ([y177, y182]) t185 (lent b w [Ck.var 34 x3.1 (([Value.slice (some ⟨x3.2.2.1, 0, none⟩) x3.2.2.2.2 x3.2.2.2.1] ++ ([Value.map (some x3.2.1)] ++ ([Value.bool t166.2.1.2.2.1] ++ ([Value.int .i64 t166.2.1.2.2.2.1] ++ [Value.bool t166.2.1.2.2.2.2]))))), Ck.mr T48 x3.2.1 x3.2.2.1 x3.2.2.2.1 x3.2.2.2.2 t166.2.2] [Ck.sl (Ec.int 5 .u8) (some ⟨g184, 0, none⟩) ([y177, y182].length) ([y177, y182])]) hb (hs.ror (k := 98) (by exact rfl) (.head _)) (hs.cap (k := 98) (by exact rfl)) hc186) ?_
        intro x187
        refine lv (.bool (!decide (t185.1 = (0 : Int)))) ?_
        refine ls_end ?_
        refine qn_then ?_
        by_cases q188 : t185.1 = (0 : Int)
        · replace H := ite_t q188 H
          refine cs_know (c := false) (congrArg Bool.not (dec_t q188)) 67 (by kernel_rfl) ?_
          refine cs_false (by kernel_rfl) ?_
          refine cs_skip' ?_
          refine qn_block ?_
          refine qn_then ?_
          refine cs_region (l := [_, _, _]) ?_
          refine lv (.int .i64 x10_10) ?_
          refine lv (.int .i64 (IntKind.wrap .i64 (x10_10 + (1 : Int)))) ?_
          refine lv (.int .i64 (IntKind.wrap .i64 (x10_10 + (1 : Int)))) ?_
          refine ls_end ?_
          refine qn_again k10 (sput (sput s0 0 (some (Ck.var 34 x3.1 (([Value.slice (some ⟨x3.2.2.1, 0, none⟩) x3.2.2.2.2 x3.2.2.2.1] ++ ([Value.map (some x3.2.1)] ++ ([Value.bool t185.2.1.2.2.1] ++ ([Value.int .i64 t185.2.1.2.2.2.1] ++ [Value.bool t185.2.1.2.2.2.2])))))))) 1 (some (Ck.mr T48 x3.2.1 x3.2.2.1 x3.2.2.2.1 x3.2.2.2.2 t185.2.2))) (Nat.le_refl _) ⟨_, (IntKind.wrap .i64 (x10_10 + (1 : Int))), ((), (), t185.2.1.2.2.1, t185.2.1.2.2.2.1, t185.2.1.2.2.2.2), t185.2.2, fr_next (fr_next (fr_next (fr_next (fr_next (fr_next (rfl) (by kernel_rfl)) (by kernel_rfl)) (by kernel_rfl)) (by kernel_rfl)) (by kernel_rfl)) (by kernel_rfl), rfl, H⟩ (sub_put (by exact rfl) (sub_put (by exact rfl) (sub_nil _)))
        replace H := ite_f q188 H
        refine cs_know (c := true) (congrArg Bool.not (dec_f q188)) 67 (by kernel_rfl) ?_
        refine cs_true (by kernel_rfl) ?_
        refine cs_seq ?_
        refine cs_region (l := [_]) ?_
        refine lv (.bool false) ?_
        refine ls_end ?_
        refine qn_then ?_
        refine cs_ret' ?_
        refine qr_block ?_
        refine qr_then ?_
        refine qr_then ?_
        refine qr_block ?_
        refine qr_then ?_
        obtain rfl := Option.some.inj H
        refine qr_res (rs := [_]) rfl (fun w' hs => ⟨[.bool false], (res_tmp (by kernel_rfl) (.nil)), (), rfl, hs.pick (ts := []) (cs := []) trivial (by decide)⟩)
      replace H := ite_f q169 H
      refine cs_know (c := true) (congrArg Bool.not (dec_f q169)) 52 (by kernel_rfl) ?_
      refine cs_true (by kernel_rfl) ?_
      refine cs_seq ?_
      refine cs_region (l := [_]) ?_
      refine lv (.bool false) ?_
      refine ls_end ?_
      refine qn_then ?_
      refine cs_ret' ?_
      refine qr_then ?_
      refine qr_block ?_
      refine qr_then ?_
      refine qr_then ?_
      refine qr_block ?_
      refine qr_then ?_
      obtain rfl := Option.some.inj H
      refine qr_res (rs := [_]) rfl (fun w' hs => ⟨[.bool false], (res_tmp (by kernel_rfl) (.nil)), (), rfl, hs.pick (ts := []) (cs := []) trivial (by decide)⟩)
    replace H := ite_f q165 H
    refine ls_know (c := false) (dec_f q165) 48 (by kernel_rfl) ?_
    refine lofx 3 48 true false ?_
    refine lofx 3 48 true false ?_
    refine lofx 3 48 true false ?_
    refine lv (.bool false) ?_
    refine ls_end ?_
    refine qn_then ?_
    refine cs_false (by kernel_rfl) ?_
    refine cs_skip' ?_
    refine qn_then ?_
    refine cs_seq ?_
    obtain ⟨s190_0, hs190_0⟩ := exv (.pointer (some ⟨x3.1, 0, none⟩))
    refine have_opa shadowboxlaw05_DiskLasts.tab188 2 0 (fun sp => sp 0 = s190_0) (fun sp on hA hon => ?_) (fun ops190_0 => ?_)
    · refine ⟨fun o ho vs Rs f' S' w hp hf hx hS hR hs => ?_⟩
      obtain rfl := Option.some.inj ho
      exact opv (.pointer (some ⟨x3.1, 0, none⟩)) hA hs190_0 hon (fr_next (rfl) ((hx 7 (by kernel_rfl)).trans (by kernel_rfl : (_ : Value) = .pointer (some ⟨x3.1, 0, none⟩))))
    obtain ⟨s190_1, hs190_1⟩ := exv (.int .i64 x10_10)
    refine have_opa shadowboxlaw05_DiskLasts.tab188 2 1 (fun sp => sp 1 = s190_1) (fun sp on hA hon => ?_) (fun ops190_1 => ?_)
    · refine ⟨fun o ho vs Rs f' S' w hp hf hx hS hR hs => ?_⟩
      obtain rfl := Option.some.inj ho
      exact opv (.int .i64 x10_10) hA hs190_1 hon (fr_next (rfl) ((hx 10 (by kernel_rfl)).trans (by kernel_rfl : (_ : Value) = .int .i64 x10_10)))
    obtain ⟨s190_2, hs190_2⟩ := exv (.slice A0 l0.length c0)
    refine have_opa shadowboxlaw05_DiskLasts.tab188 2 2 (fun sp => sp 2 = s190_2) (fun sp on hA hon => ?_) (fun ops190_2 => ?_)
    · refine ⟨fun o ho vs Rs f' S' w hp hf hx hS hR hs => ?_⟩
      obtain rfl := Option.some.inj ho
      exact opv (.slice A0 l0.length c0) hA hs190_2 hon (fr_next (rfl) ((hx 0 (by kernel_rfl)).trans (by kernel_rfl : (_ : Value) = .slice A0 l0.length c0)))
    obtain ⟨s190_3, hs190_3⟩ := exv (.int .i64 x10_10)
    refine have_opa shadowboxlaw05_DiskLasts.tab188 2 3 (fun sp => sp 3 = s190_3) (fun sp on hA hon => ?_) (fun ops190_3 => ?_)
    · refine ⟨fun o ho vs Rs f' S' w hp hf hx hS hR hs => ?_⟩
      obtain rfl := Option.some.inj ho
      exact opv (.int .i64 x10_10) hA hs190_3 hon (fr_next (rfl) ((hx 10 (by kernel_rfl)).trans (by kernel_rfl : (_ : Value) = .int .i64 x10_10)))
    obtain ⟨q191, H⟩ := ite_need H
    obtain ⟨q192, H⟩ := ite_need H
    obtain ⟨ad193, hA194⟩ := ido_at (T := T43) (l := l0) (i := x10_10) R0 q191 q192
    obtain ⟨s190_4, hs190_4⟩ := exv (.pointer (some (ad193.add ((x10_10).toNat * 2))))
    refine have_opa shadowboxlaw05_DiskLasts.tab188 2 4 (fun sp => sp 4 = s190_4 ∧ sp 2 = s190_2 ∧ sp 3 = s190_3) (fun sp on hA hon => ?_) (fun ops190_4 => ?_)
    · refine ⟨fun o ho vs Rs f' S' w hp hf hx hS hR hs => ?_⟩
      obtain rfl := Option.some.inj ho
      obtain ⟨hv2, hR2⟩ := (spe hA.2.1 hs190_2 (hp 2 (by kernel_rfl)))
      obtain ⟨hv3, hR3⟩ := (spe hA.2.2 hs190_3 (hp 3 (by kernel_rfl)))
      rw [hA.1, hs190_4]
      refine wn hon ?_
      have hF := fr_next (fr_next (rfl) ((hf 2 55 (by kernel_rfl) rfl).trans hv2)) ((hf 3 56 (by kernel_rfl) rfl).trans hv3)
      refine ls_fr hF ?_
      refine ls_idxv T43 (A := A0) (c := c0) (l := l0) (k := .i64) (i := x10_10) (z := 2) (ad := ad193) rfl rfl (by kernel_rfl) hA194 rfl (by kernel_rfl) (by kernel_rfl) (by kernel_rfl) (by kernel_rfl) q191 q192 ?_
      exact ls_fin s0 _ (congrArg (fun z => upd z 57 _) hF.symm) ⟨rfl, rfl⟩ (sub_nil _)
    obtain ⟨q195, H⟩ := ite_need H
    obtain ⟨s190_5, hs190_5⟩ := exv (.pointer (some (ad193.add (((x10_10).toNat * 2) + ((0 : Int)).toNat))))
    refine have_opa shadowboxlaw05_DiskLasts.tab188 2 5 (fun sp => sp 5 = s190_5 ∧ sp 4 = s190_4) (fun sp on hA hon => ?_) (fun ops190_5 => ?_)
    · refine ⟨fun o ho vs Rs f' S' w hp hf hx hS hR hs => ?_⟩
      obtain rfl := Option.some.inj ho
      obtain ⟨hv4, hR4⟩ := (spe hA.2 hs190_4 (hp 4 (by kernel_rfl)))
      rw [hA.1, hs190_5]
      refine wn hon ?_
      have hF := fr_next (rfl) ((hf 4 57 (by kernel_rfl) rfl).trans hv4)
      refine ls_fr hF ?_
      refine ls_idxma (ad := ad193) (off := ((x10_10).toNat * 2)) (k := .i64) (i := (0 : Int)) (ln := 2) (e := 5) rfl rfl (by kernel_rfl) rfl (by kernel_rfl) (by kernel_rfl) (by kernel_rfl) (by kernel_rfl) (by decide) q195 ?_
      exact ls_fin s0 _ (congrArg (fun z => upd z 58 _) hF.symm) ⟨rfl, rfl⟩ (sub_nil _)
    obtain ⟨y196, hy197, H⟩ := lt_some H
    obtain ⟨s190_6, hs190_6⟩ := exv (.int .u8 y196)
    refine have_opa shadowboxlaw05_DiskLasts.tab188 2 6 (fun sp => sp 6 = s190_6 ∧ sp 5 = s190_5) (fun sp on hA hon => ?_) (fun ops190_6 => ?_)
    · refine ⟨fun o ho vs Rs f' S' w hp hf hx hS hR hs => ?_⟩
      obtain rfl := Option.some.inj ho
      obtain ⟨hv5, hR5⟩ := (spe hA.2 hs190_5 (hp 5 (by kernel_rfl)))
      rw [hA.1, hs190_6]
      refine wn hon ?_
      have hF := fr_next (rfl) ((hf 5 58 (by kernel_rfl) rfl).trans hv5)
      refine ls_fr hF ?_
      refine ls_load (a0 := (ad193.add (((x10_10).toNat * 2) + ((0 : Int)).toNat))) (v := .int .u8 (((l0).getD (x10_10).toNat (vrep 2 (0 : Int))).1.getD ((0 : Int)).toNat (0 : Int))) (de := (TypeDesc.int .u8)) rfl rfl (by kernel_rfl) rfl (by kernel_rfl) (by kernel_rfl) (by kernel_rfl) (fun w1 hs1 => (Rd.step (hs.old R0) hs1.below.bw).at hA194 (Sub4.trans (em_sub T43 l0 (i := (x10_10).toNat) (by have h0 : (0 : Int) ≤ x10_10 := q191; have h1 : x10_10 < (l0.length : Int) := q192; omega)) (Sub4.one (i := ((0 : Int)).toNat) (Value.int .u8) ((l0).getD (x10_10).toNat (vrep 2 (0 : Int))).1 0 (by have := ((l0).getD (x10_10).toNat (vrep 2 (0 : Int))).2; omega)))) ?_
      refine ls_ren 59 (v := .int .u8 (((l0).getD (x10_10).toNat (vrep 2 (0 : Int))).1.getD ((0 : Int)).toNat (0 : Int))) (v' := .int .u8 y196) (by kernel_rfl) (by rw [hy197]) ?_
      exact ls_fin s0 _ ((upd_upd _ _ _ _).trans (congrArg (fun z => upd z 59 _) hF.symm)) ⟨rfl, rfl⟩ (sub_nil _)
    obtain ⟨s190_7, hs190_7⟩ := exv (.slice A0 l0.length c0)
    refine have_opa shadowboxlaw05_DiskLasts.tab188 2 7 (fun sp => sp 7 = s190_7) (fun sp on hA hon => ?_) (fun ops190_7 => ?_)
    · refine ⟨fun o ho vs Rs f' S' w hp hf hx hS hR hs => ?_⟩
      obtain rfl := Option.some.inj ho
      exact opv (.slice A0 l0.length c0) hA hs190_7 hon (fr_next (rfl) ((hx 0 (by kernel_rfl)).trans (by kernel_rfl : (_ : Value) = .slice A0 l0.length c0)))
    obtain ⟨s190_8, hs190_8⟩ := exv (.int .i64 x10_10)
    refine have_opa shadowboxlaw05_DiskLasts.tab188 2 8 (fun sp => sp 8 = s190_8) (fun sp on hA hon => ?_) (fun ops190_8 => ?_)
    · refine ⟨fun o ho vs Rs f' S' w hp hf hx hS hR hs => ?_⟩
      obtain rfl := Option.some.inj ho
      exact opv (.int .i64 x10_10) hA hs190_8 hon (fr_next (rfl) ((hx 10 (by kernel_rfl)).trans (by kernel_rfl : (_ : Value) = .int .i64 x10_10)))
    obtain ⟨ad198, hA199⟩ := ido_at (T := T43) (l := l0) (i := x10_10) R0 q191 q192
    obtain ⟨s190_9, hs190_9⟩ := exv (.pointer (some (ad198.add ((x10_10).toNat * 2))))
    refine have_opa shadowboxlaw05_DiskLasts.tab188 2 9 (fun sp => sp 9 = s190_9 ∧ sp 7 = s190_7 ∧ sp 8 = s190_8) (fun sp on hA hon => ?_) (fun ops190_9 => ?_)
    · refine ⟨fun o ho vs Rs f' S' w hp hf hx hS hR hs => ?_⟩
      obtain rfl := Option.some.inj ho
      obtain ⟨hv7, hR7⟩ := (spe hA.2.1 hs190_7 (hp 7 (by kernel_rfl)))
      obtain ⟨hv8, hR8⟩ := (spe hA.2.2 hs190_8 (hp 8 (by kernel_rfl)))
      rw [hA.1, hs190_9]
      refine wn hon ?_
      have hF := fr_next (fr_next (rfl) ((hf 7 60 (by kernel_rfl) rfl).trans hv7)) ((hf 8 61 (by kernel_rfl) rfl).trans hv8)
      refine ls_fr hF ?_
      refine ls_idxv T43 (A := A0) (c := c0) (l := l0) (k := .i64) (i := x10_10) (z := 2) (ad := ad198) rfl rfl (by kernel_rfl) hA199 rfl (by kernel_rfl) (by kernel_rfl) (by kernel_rfl) (by kernel_rfl) q191 q192 ?_
      exact ls_fin s0 _ (congrArg (fun z => upd z 62 _) hF.symm) ⟨rfl, rfl⟩ (sub_nil _)
    obtain ⟨q200, H⟩ := ite_need H
    obtain ⟨s190_10, hs190_10⟩ := exv (.pointer (some (ad198.add (((x10_10).toNat * 2) + ((1 : Int)).toNat))))
    refine have_opa shadowboxlaw05_DiskLasts.tab188 2 10 (fun sp => sp 10 = s190_10 ∧ sp 9 = s190_9) (fun sp on hA hon => ?_) (fun ops190_10 => ?_)
    · refine ⟨fun o ho vs Rs f' S' w hp hf hx hS hR hs => ?_⟩
      obtain rfl := Option.some.inj ho
      obtain ⟨hv9, hR9⟩ := (spe hA.2 hs190_9 (hp 9 (by kernel_rfl)))
      rw [hA.1, hs190_10]
      refine wn hon ?_
      have hF := fr_next (rfl) ((hf 9 62 (by kernel_rfl) rfl).trans hv9)
      refine ls_fr hF ?_
      refine ls_idxma (ad := ad198) (off := ((x10_10).toNat * 2)) (k := .i64) (i := (1 : Int)) (ln := 2) (e := 5) rfl rfl (by kernel_rfl) rfl (by kernel_rfl) (by kernel_rfl) (by kernel_rfl) (by kernel_rfl) (by decide) q200 ?_
      exact ls_fin s0 _ (congrArg (fun z => upd z 63 _) hF.symm) ⟨rfl, rfl⟩ (sub_nil _)
    obtain ⟨y201, hy202, H⟩ := lt_some H
    obtain ⟨s190_11, hs190_11⟩ := exv (.int .u8 y201)
    refine have_opa shadowboxlaw05_DiskLasts.tab188 2 11 (fun sp => sp 11 = s190_11 ∧ sp 10 = s190_10) (fun sp on hA hon => ?_) (fun ops190_11 => ?_)
    · refine ⟨fun o ho vs Rs f' S' w hp hf hx hS hR hs => ?_⟩
      obtain rfl := Option.some.inj ho
      obtain ⟨hv10, hR10⟩ := (spe hA.2 hs190_10 (hp 10 (by kernel_rfl)))
      rw [hA.1, hs190_11]
      refine wn hon ?_
      have hF := fr_next (rfl) ((hf 10 63 (by kernel_rfl) rfl).trans hv10)
      refine ls_fr hF ?_
      refine ls_load (a0 := (ad198.add (((x10_10).toNat * 2) + ((1 : Int)).toNat))) (v := .int .u8 (((l0).getD (x10_10).toNat (vrep 2 (0 : Int))).1.getD ((1 : Int)).toNat (0 : Int))) (de := (TypeDesc.int .u8)) rfl rfl (by kernel_rfl) rfl (by kernel_rfl) (by kernel_rfl) (by kernel_rfl) (fun w1 hs1 => (Rd.step (hs.old R0) hs1.below.bw).at hA199 (Sub4.trans (em_sub T43 l0 (i := (x10_10).toNat) (by have h0 : (0 : Int) ≤ x10_10 := q191; have h1 : x10_10 < (l0.length : Int) := q192; omega)) (Sub4.one (i := ((1 : Int)).toNat) (Value.int .u8) ((l0).getD (x10_10).toNat (vrep 2 (0 : Int))).1 0 (by have := ((l0).getD (x10_10).toNat (vrep 2 (0 : Int))).2; omega)))) ?_
      refine ls_ren 64 (v := .int .u8 (((l0).getD (x10_10).toNat (vrep 2 (0 : Int))).1.getD ((1 : Int)).toNat (0 : Int))) (v' := .int .u8 y201) (by kernel_rfl) (by rw [hy202]) ?_
      exact ls_fin s0 _ ((upd_upd _ _ _ _).trans (congrArg (fun z => upd z 64 _) hF.symm)) ⟨rfl, rfl⟩ (sub_nil _)
    obtain ⟨s190_12, hs190_12⟩ : ∃ z : Value → Sto → Prop, z = (fun v R => ∃ g203 : Nat, v = .slice (some ⟨g203, 0, none⟩) [y196, y201].length [y196, y201].length ∧ R = sput s0 0 (some (Ck.sl (Ec.int 5 .u8) (some ⟨g203, 0, none⟩) ([y196, y201].length) ([y196, y201])))) := ⟨_, rfl⟩
    refine have_opa shadowboxlaw05_DiskLasts.tab188 2 12 (fun sp => sp 12 = s190_12 ∧ sp 6 = s190_6 ∧ sp 11 = s190_11) (fun sp on hA hon => ?_) (fun ops190_12 => ?_)
    · refine ⟨fun o ho vs Rs f' S' w hp hf hx hS hR hs => ?_⟩
      obtain rfl := Option.some.inj ho
      obtain ⟨hv6, hR6⟩ := (spe hA.2.1 hs190_6 (hp 6 (by kernel_rfl)))
      obtain ⟨hv11, hR11⟩ := (spe hA.2.2 hs190_11 (hp 11 (by kernel_rfl)))
      rw [hA.1, hs190_12]
      refine wn hon ?_
      have hF := fr_next (fr_next (rfl) ((hf 6 59 (by kernel_rfl) rfl).trans hv6)) ((hf 11 64 (by kernel_rfl) rfl).trans hv11)
      refine ls_fr hF ?_
      refine ls_lit (Ec.int 5 .u8) 0 rfl rfl (by kernel_rfl) ([y196, y201]) (by exact of_decide_eq_true (by kernel_rfl)) (fun w => by kernel_rfl) ?_
      intro g203
      exact ls_fin (sput s0 0 (some (Ck.sl (Ec.int 5 .u8) (some ⟨g203, 0, none⟩) ([y196, y201].length) ([y196, y201])))) (.slice (some ⟨g203, 0, none⟩) [y196, y201].length [y196, y201].length) (congrArg (fun z => upd z 65 _) hF.symm) ⟨g203, rfl, rfl⟩ (sub_put (by exact rfl) (sub_nil _))
    refine cs_draw shadowboxlaw05_DiskLasts.tab188 13 2 (spl [s190_0, s190_1, s190_2, s190_3, s190_4, s190_5, s190_6, s190_7, s190_8, s190_9, s190_10, s190_11, s190_12]) (onl [true, true, true, true, true, true, true, true, true, true, true, true, true]) (by kernel_rfl) (by kernel_rfl) (by kernel_rfl) (by kernel_rfl) (rs := [_, _]) rfl (by kernel_rfl) (by kernel_rfl) (all_snoc (all_snoc (all_snoc (all_snoc (all_snoc (all_snoc (all_snoc (all_snoc (all_snoc (all_snoc (all_snoc (all_snoc (all_snoc (all_nil) (ops190_0 _ _ rfl rfl)) (ops190_1 _ _ rfl rfl)) (ops190_2 _ _ rfl rfl)) (ops190_3 _ _ rfl rfl)) (ops190_4 _ _ ⟨rfl, rfl, rfl⟩ rfl)) (ops190_5 _ _ ⟨rfl, rfl⟩ rfl)) (ops190_6 _ _ ⟨rfl, rfl⟩ rfl)) (ops190_7 _ _ rfl rfl)) (ops190_8 _ _ rfl rfl)) (ops190_9 _ _ ⟨rfl, rfl, rfl⟩ rfl)) (ops190_10 _ _ ⟨rfl, rfl⟩ rfl)) (ops190_11 _ _ ⟨rfl, rfl⟩ rfl)) (ops190_12 _ _ ⟨rfl, rfl, rfl⟩ rfl)) ?_
    intro vs Rs f' S' hp hf hx hS hR
    obtain ⟨hv0, hR0⟩ := (spe rfl hs190_0 (hp 0 (by kernel_rfl)))
    obtain ⟨hv1, hR1⟩ := (spe rfl hs190_1 (hp 1 (by kernel_rfl)))
    obtain ⟨g203, hv12, hR12⟩ := (spe rfl hs190_12 (hp 12 (by kernel_rfl)))
    have hT12_0 := (hR 12 0 (by kernel_rfl) (by decide)).trans (congrFun hR12 0)
    refine ls_fr (F := upd (upd (upd (upd (upd (upd (upd (upd (upd f' 0 (.slice A0 l0.length c0)) 1 (.slice A1 l1.length c1)) 2 (.int .i64 y11)) 7 (.pointer (some ⟨x3.1, 0, none⟩))) 9 (.int .i64 y4)) 10 (.int .i64 x10_10)) 53 (.pointer (some ⟨x3.1, 0, none⟩))) 54 (.int .i64 x10_10)) 65 (.slice (some ⟨g203, 0, none⟩) [y196, y201].length [y196, y201].length)) (fr_next (fr_next (fr_next (fr_next (fr_next (fr_next (fr_next (fr_next (fr_next (rfl) ((hx 0 (by kernel_rfl)).trans (by kernel_rfl : (_ : Value) = .slice A0 l0.length c0))) ((hx 1 (by kernel_rfl)).trans (by kernel_rfl : (_ : Value) = .slice A1 l1.length c1))) ((hx 2 (by kernel_rfl)).trans (by kernel_rfl : (_ : Value) = .int .i64 y11))) ((hx 7 (by kernel_rfl)).trans (by kernel_rfl : (_ : Value) = .pointer (some ⟨x3.1, 0, none⟩)))) ((hx 9 (by kernel_rfl)).trans (by kernel_rfl : (_ : Value) = .int .i64 y4))) ((hx 10 (by kernel_rfl)).trans (by kernel_rfl : (_ : Value) = .int .i64 x10_10))) ((hf 0 53 (by kernel_rfl) rfl).trans hv0)) ((hf 1 54 (by kernel_rfl) rfl).trans hv1)) ((hf 12 65 (by kernel_rfl) rfl).trans hv12)) ?_
    refine ls_sub (sput (sput (sput s0 0 (some (Ck.var 34 x3.1 (([Value.slice (some ⟨x3.2.2.1, 0, none⟩) x3.2.2.2.2 x3.2.2.2.1] ++ ([Value.map (some x3.2.1)] ++ ([Value.bool m0_10.2.2.1] ++ ([Value.int .i64 m0_10.2.2.2.1] ++ [Value.bool m0_10.2.2.2.2])))))))) 1 (some (Ck.mr T48 x3.2.1 x3.2.2.1 x3.2.2.2.1 x3.2.2.2.2 m1_10))) 98 (some (Ck.sl (Ec.int 5 .u8) (some ⟨g203, 0, none⟩) ([y196, y201].length) ([y196, y201])))) (sub_put (by exact hT12_0) (sub_put ((hS 1 (by kernel_rfl)).trans (by exact rfl)) (sub_put ((hS 0 (by kernel_rfl)).trans (by exact rfl)) (sub_nil _)))) ?_
    obtain ⟨t204, hc205, H⟩ := bind_some H
    refine ls_callb (fid := 8) (vals := #[.pointer (some ⟨x3.1, 0, none⟩), .int .i64 x10_10, .slice (some ⟨g203, 0, none⟩) ([y196, y201]).length [y196, y201].length]) (X := Unit) (fun x => .int .i64 t204.1) (fun x => stl [Ck.var 34 x3.1 (([Value.slice (some ⟨x3.2.2.1, 0, none⟩) x3.2.2.2.2 x3.2.2.2.1] ++ ([Value.map (some x3.2.1)] ++ ([Value.bool t204.2.1.2.2.1] ++ ([Value.int .i64 t204.2.1.2.2.2.1] ++ [Value.bool t204.2.1.2.2.2.2]))))), Ck.mr T48 x3.2.1 x3.2.2.1 x3.2.2.2.1 x3.2.2.2.2 t204.2.2]) [0, 1] [98] [Ck.var 34 x3.1 (([Value.slice (some ⟨x3.2.2.1, 0, none⟩) x3.2.2.2.2 x3.2.2.2.1] ++ ([Value.map (some x3.2.1)] ++ ([Value.bool m0_10.2.2.1] ++ ([Value.int .i64 m0_10.2.2.2.1] ++ [Value.bool m0_10.2.2.2.2]))))), Ck.mr T48 x3.2.1 x3.2.2.1 x3.2.2.2.1 x3.2.2.2.2 m1_10] [Ck.sl (Ec.int 5 .u8) (some ⟨g203, 0, none⟩) ([y196, y201].length) ([y196, y201])] 106 rfl rfl (by kernel_rfl) (fun w => by kernel_rfl) ⟨by exact rfl, by exact rfl, trivial⟩ ⟨by exact rfl, trivial⟩ (by decide) (fun w hs hb => disk_Disk_Write.calls k10 x3.1 x3.2.2.1 x3.2.2.2.2 x3.2.2.2.1 x3.2.1 ((), (), m0_10.2.2.1, m0_10.2.2.2.1, m0_10.2.2.2.2) m1_10 x10_10 (some ⟨g203, 0, none⟩) ([y196, y201].length) ([y196, y201]) t204 (lent b w [Ck.var 34 x3.1 (([Value.slice (some ⟨x3.2.2.1, 0, none⟩) x3.2.2.2.2 x3.2.2.2.1] ++ ([Value.map (some x3.2.1)] ++ ([Value.bool m0_10.2.2.1] ++ ([Value.int .i64 m0_10.2.2.2.1] ++ [Value.bool m0_10.2.2.2.2]))))), Ck.mr T48 x3.2.1 x3.2.2.1 x3.2.2.2.1 x3.2.2.2.2 m1_10] [Ck.sl (Ec.int 5 .u8) (some ⟨g203, 0, none⟩) ([y196, y201].length) ([y196, y201])]) hb (hs.ror (k := 98) (by exact rfl) (.head _)) (hs.cap (k := 98) (by exact rfl)) hc205) ?_
    intro x206
    refine lv (.bool (!decide (t204.1 = (0 : Int)))) ?_
    refine ls_end ?_
    refine qn_then ?_
    by_cases q207 : t204.1 = (0 : Int)
    · replace H := ite_t q207 H
      refine cs_know (c := false) (congrArg Bool.not (dec_t q207)) 67 (by kernel_rfl) ?_
      refine cs_false (by kernel_rfl) ?_
      refine cs_skip' ?_
      refine qn_block ?_
      refine qn_then ?_
      refine cs_region (l := [_, _, _]) ?_
      refine lv (.int .i64 x10_10) ?_
      refine lv (.int .i64 (IntKind.wrap .i64 (x10_10 + (1 : Int)))) ?_
      refine lv (.int .i64 (IntKind.wrap .i64 (x10_10 + (1 : Int)))) ?_
      refine ls_end ?_
      refine qn_again k10 (sput (sput s0 0 (some (Ck.var 34 x3.1 (([Value.slice (some ⟨x3.2.2.1, 0, none⟩) x3.2.2.2.2 x3.2.2.2.1] ++ ([Value.map (some x3.2.1)] ++ ([Value.bool t204.2.1.2.2.1] ++ ([Value.int .i64 t204.2.1.2.2.2.1] ++ [Value.bool t204.2.1.2.2.2.2])))))))) 1 (some (Ck.mr T48 x3.2.1 x3.2.2.1 x3.2.2.2.1 x3.2.2.2.2 t204.2.2))) (Nat.le_refl _) ⟨_, (IntKind.wrap .i64 (x10_10 + (1 : Int))), ((), (), t204.2.1.2.2.1, t204.2.1.2.2.2.1, t204.2.1.2.2.2.2), t204.2.2, fr_next (fr_next (fr_next (fr_next (fr_next (fr_next (rfl) (by kernel_rfl)) (by kernel_rfl)) (by kernel_rfl)) (by kernel_rfl)) (by kernel_rfl)) (by kernel_rfl), rfl, H⟩ (sub_put (by exact rfl) (sub_put (by exact rfl) (sub_nil _)))
    replace H := ite_f q207 H
    refine cs_know (c := true) (congrArg Bool.not (dec_f q207)) 67 (by kernel_rfl) ?_
    refine cs_true (by kernel_rfl) ?_
    refine cs_seq ?_
    refine cs_region (l := [_]) ?_
    refine lv (.bool false) ?_
    refine ls_end ?_
    refine qn_then ?_
    refine cs_ret' ?_
    refine qr_block ?_
    refine qr_then ?_
    refine qr_then ?_
    refine qr_block ?_
    refine qr_then ?_
    obtain rfl := Option.some.inj H
    refine qr_res (rs := [_]) rfl (fun w' hs => ⟨[.bool false], (res_tmp (by kernel_rfl) (.nil)), (), rfl, hs.pick (ts := []) (cs := []) trivial (by decide)⟩)
  rintro f S ⟨fr2, m0_2, m1_2, rfl, rfl, H⟩
  replace H : ((if y11 = y4 then (disk_Disk_Flush.f k ((), (), m0_2.2.2.1, m0_2.2.2.2.1, m0_2.2.2.2.2) m1_2).bind fun t161 => (if t161.1 = (0 : Int) then (shadowboxlaw05_DiskLasts.jo3 k l0 l1 y4 y11) ((), (), t161.2.1.2.2.1, t161.2.1.2.2.2.1, t161.2.1.2.2.2.2) t161.2.2 else some false) else (shadowboxlaw05_DiskLasts.jo3 k l0 l1 y4 y11) ((), (), m0_2.2.2.1, m0_2.2.2.2.1, m0_2.2.2.2.2) m1_2)) = some r := H
  refine cs_cut (fun f S => ∃ (fR : Fr) (m0_3 : (Unit × Unit × Bool × Int × Bool)) (m1_3 : (List (Int × (Vc Int 512)) × List (Vc Int 512))), f = upd (upd (upd (upd (upd fR 0 (.slice A0 l0.length c0)) 1 (.slice A1 l1.length c1)) 2 (.int .i64 y11)) 7 (.pointer (some ⟨x3.1, 0, none⟩))) 9 (.int .i64 y4) ∧ S = sput (sput s0 0 (some (Ck.var 34 x3.1 (([Value.slice (some ⟨x3.2.2.1, 0, none⟩) x3.2.2.2.2 x3.2.2.2.1] ++ ([Value.map (some x3.2.1)] ++ ([Value.bool m0_3.2.2.1] ++ ([Value.int .i64 m0_3.2.2.2.1] ++ [Value.bool m0_3.2.2.2.2])))))))) 1 (some (Ck.mr T48 x3.2.1 x3.2.2.1 x3.2.2.2.1 x3.2.2.2.2 m1_3)) ∧ shadowboxlaw05_DiskLasts.jo3 k l0 l1 y4 y11 m0_3 m1_3 = some r) ?_ ?_
  · skip
    refine cs_seq ?_
    refine cs_region (l := [_, _, _, _, _, _, _, _]) ?_
    refine lv (.int .i64 y11) ?_
    refine lv (.int .i64 y4) ?_
    refine lv (.bool (decide (y11 = y4))) ?_
    refine lv (.bool (decide (y11 = y4))) ?_
    by_cases q160 : y11 = y4
    · replace H := ite_t q160 H
      refine ls_know (c := true) (dec_t q160) 71 (by kernel_rfl) ?_
      refine ls_on (j := 3) (t := 71) (b := true) rfl rfl (by kernel_rfl) (by kernel_rfl) ?_
      refine lv (.pointer (some ⟨x3.1, 0, none⟩)) ?_
      refine ls_on (j := 3) (t := 71) (b := true) rfl rfl (by kernel_rfl) (by kernel_rfl) ?_
      obtain ⟨t161, hc162, H⟩ := bind_some H
      refine ls_callb (fid := 9) (vals := #[.pointer (some ⟨x3.1, 0, none⟩)]) (X := Unit) (fun x => .int .i64 t161.1) (fun x => stl [Ck.var 34 x3.1 (([Value.slice (some ⟨x3.2.2.1, 0, none⟩) x3.2.2.2.2 x3.2.2.2.1] ++ ([Value.map (some x3.2.1)] ++ ([Value.bool t161.2.1.2.2.1] ++ ([Value.int .i64 t161.2.1.2.2.2.1] ++ [Value.bool t161.2.1.2.2.2.2]))))), Ck.mr T48 x3.2.1 x3.2.2.1 x3.2.2.2.1 x3.2.2.2.2 t161.2.2]) [0, 1] [] [Ck.var 34 x3.1 (([Value.slice (some ⟨x3.2.2.1, 0, none⟩) x3.2.2.2.2 x3.2.2.2.1] ++ ([Value.map (some x3.2.1)] ++ ([Value.bool m0_2.2.2.1] ++ ([Value.int .i64 m0_2.2.2.2.1] ++ [Value.bool m0_2.2.2.2.2]))))), Ck.mr T48 x3.2.1 x3.2.2.1 x3.2.2.2.1 x3.2.2.2.2 m1_2] [] 2 rfl rfl (by kernel_rfl) (fun w => by kernel_rfl) ⟨by exact rfl, by exact rfl, trivial⟩ trivial (by decide) (fun w hs hb => disk_Disk_Flush.calls k x3.1 x3.2.2.1 x3.2.2.2.2 x3.2.2.2.1 x3.2.1 ((), (), m0_2.2.2.1, m0_2.2.2.2.1, m0_2.2.2.2.2) m1_2 t161 (lent b w [Ck.var 34 x3.1 (([Value.slice (some ⟨x3.2.2.1, 0, none⟩) x3.2.2.2.2 x3.2.2.2.1] ++ ([Value.map (some x3.2.1)] ++ ([Value.bool m0_2.2.2.1] ++ ([Value.int .i64 m0_2.2.2.2.1] ++ [Value.bool m0_2.2.2.2.2]))))), Ck.mr T48 x3.2.1 x3.2.2.1 x3.2.2.2.1 x3.2.2.2.2 m1_2] []) hb  hc162) ?_
      intro x163
      refine ls_on (j := 3) (t := 71) (b := true) rfl rfl (by kernel_rfl) (by kernel_rfl) ?_
      refine lv (.bool (!decide (t161.1 = (0 : Int)))) ?_
      refine lv (.bool (!decide (t161.1 = (0 : Int)))) ?_
      refine ls_end ?_
      refine qn_then ?_
      by_cases q164 : t161.1 = (0 : Int)
      · replace H := ite_t q164 H
        refine cs_know (c := false) (congrArg Bool.not (dec_t q164)) 75 (by kernel_rfl) ?_
        refine cs_false (by kernel_rfl) ?_
        refine cs_skip' ?_
        refine qn_meet (sput (sput s0 0 (some (Ck.var 34 x3.1 (([Value.slice (some ⟨x3.2.2.1, 0, none⟩) x3.2.2.2.2 x3.2.2.2.1] ++ ([Value.map (some x3.2.1)] ++ ([Value.bool t161.2.1.2.2.1] ++ ([Value.int .i64 t161.2.1.2.2.2.1] ++ [Value.bool t161.2.1.2.2.2.2])))))))) 1 (some (Ck.mr T48 x3.2.1 x3.2.2.1 x3.2.2.2.1 x3.2.2.2.2 t161.2.2))) ⟨_, ((), (), t161.2.1.2.2.1, t161.2.1.2.2.2.1, t161.2.1.2.2.2.2), t161.2.2, fr_next (fr_next (fr_next (fr_next (fr_next (rfl) (by kernel_rfl)) (by kernel_rfl)) (by kernel_rfl)) (by kernel_rfl)) (by kernel_rfl), rfl, H⟩ (sub_put (by exact rfl) (sub_put (by exact rfl) (sub_nil _)))
      replace H := ite_f q164 H
      refine cs_know (c := true) (congrArg Bool.not (dec_f q164)) 75 (by kernel_rfl) ?_
      refine cs_true (by kernel_rfl) ?_
      refine cs_seq ?_
      refine cs_region (l := [_]) ?_
      refine lv (.bool false) ?_
      refine ls_end ?_
      refine qn_then ?_
      refine cs_ret' ?_
      refine qr_then ?_
      obtain rfl := Option.some.inj H
      refine qr_res (rs := [_]) rfl (fun w' hs => ⟨[.bool false], (res_tmp (by kernel_rfl) (.nil)), (), rfl, hs.pick (ts := []) (cs := []) trivial (by decide)⟩)
    replace H := ite_f q160 H
    refine ls_know (c := false) (dec_f q160) 71 (by kernel_rfl) ?_
    refine lofx 3 71 true false ?_
    refine lofx 3 71 true false ?_
    refine lofx 3 71 true false ?_
    refine lv (.bool false) ?_
    refine ls_end ?_
    refine qn_then ?_
    refine cs_false (by kernel_rfl) ?_
    refine cs_skip' ?_
    refine qn_meet (sput (sput s0 0 (some (Ck.var 34 x3.1 (([Value.slice (some ⟨x3.2.2.1, 0, none⟩) x3.2.2.2.2 x3.2.2.2.1] ++ ([Value.map (some x3.2.1)] ++ ([Value.bool m0_2.2.2.1] ++ ([Value.int .i64 m0_2.2.2.2.1] ++ [Value.bool m0_2.2.2.2.2])))))))) 1 (some (Ck.mr T48 x3.2.1 x3.2.2.1 x3.2.2.2.1 x3.2.2.2.2 m1_2))) ⟨_, ((), (), m0_2.2.2.1, m0_2.2.2.2.1, m0_2.2.2.2.2), m1_2, fr_next (fr_next (fr_next (fr_next (fr_next (rfl) (by kernel_rfl)) (by kernel_rfl)) (by kernel_rfl)) (by kernel_rfl)) (by kernel_rfl), rfl, H⟩ (sub_put (by exact rfl) (sub_put (by exact rfl) (sub_nil _)))
  rintro f S ⟨fr3, m0_3, m1_3, rfl, rfl, H⟩
  replace H : ((disk_Disk_Crash.f k ((), (), m0_3.2.2.1, m0_3.2.2.2.1, m0_3.2.2.2.2) m1_3 l1).bind fun t13 => (if t13.2 = (0 : Int) then (disk_Disk_Waiting.f k ((), (), t13.1.1.2.2.1, t13.1.1.2.2.2.1, t13.1.1.2.2.2.2) t13.1.2).bind fun t152 => (if t152 = (0 : Int) then (disk_Disk_Waiting.f k ((), (), m0_3.2.2.1, m0_3.2.2.2.1, m0_3.2.2.2.2) m1_3).bind fun t156 => (if t156 = (IntKind.wrap .i64 (y4 - y11)) then (shadowboxlaw05_DiskLasts.jo4 k l0 l1 y4 y11 t13) else some false) else some false) else some false)) = some r := H
  refine cs_seq ?_
  refine cs_region (l := [_, _, _, _, _, _, _, _]) ?_
  refine lv (.pointer (some ⟨x3.1, 0, none⟩)) ?_
  refine lv (.slice A1 l1.length c1) ?_
  obtain ⟨t13, hc14, H⟩ := bind_some H
  refine ls_callb (fid := 11) (vals := #[.pointer (some ⟨x3.1, 0, none⟩), .slice A1 l1.length c1]) (X := Nat × Nat × Nat × Nat × Nat) (fun x => .tuple #[.pointer (some ⟨x.1, 0, none⟩), .int .i64 t13.2]) (fun x => stl [Ck.var 34 x3.1 (([Value.slice (some ⟨x3.2.2.1, 0, none⟩) x3.2.2.2.2 x3.2.2.2.1] ++ ([Value.map (some x3.2.1)] ++ ([Value.bool m0_3.2.2.1] ++ ([Value.int .i64 m0_3.2.2.2.1] ++ [Value.bool m0_3.2.2.2.2]))))), Ck.mr T48 x3.2.1 x3.2.2.1 x3.2.2.2.1 x3.2.2.2.2 m1_3, Ck.var 34 x.1 (([Value.slice (some ⟨x.2.2.1, 0, none⟩) x.2.2.2.2 x.2.2.2.1] ++ ([Value.map (some x.2.1)] ++ ([Value.bool t13.1.1.2.2.1] ++ ([Value.int .i64 t13.1.1.2.2.2.1] ++ [Value.bool t13.1.1.2.2.2.2]))))), Ck.mr T48 x.2.1 x.2.2.1 x.2.2.2.1 x.2.2.2.2 t13.1.2]) [0, 1] [] [Ck.var 34 x3.1 (([Value.slice (some ⟨x3.2.2.1, 0, none⟩) x3.2.2.2.2 x3.2.2.2.1] ++ ([Value.map (some x3.2.1)] ++ ([Value.bool m0_3.2.2.1] ++ ([Value.int .i64 m0_3.2.2.2.1] ++ [Value.bool m0_3.2.2.2.2]))))), Ck.mr T48 x3.2.1 x3.2.2.1 x3.2.2.2.1 x3.2.2.2.2 m1_3] [] 2 rfl rfl (by kernel_rfl) (fun w => by kernel_rfl) ⟨by exact rfl, by exact rfl, trivial⟩ trivial (by decide) (fun w hs hb => disk_Disk_Crash.calls k x3.1 x3.2.2.1 x3.2.2.2.2 x3.2.2.2.1 x3.2.1 ((), (), m0_3.2.2.1, m0_3.2.2.2.1, m0_3.2.2.2.2) m1_3 A1 c1 l1 t13 (lent b w [Ck.var 34 x3.1 (([Value.slice (some ⟨x3.2.2.1, 0, none⟩) x3.2.2.2.2 x3.2.2.2.1] ++ ([Value.map (some x3.2.1)] ++ ([Value.bool m0_3.2.2.1] ++ ([Value.int .i64 m0_3.2.2.2.1] ++ [Value.bool m0_3.2.2.2.2]))))), Ck.mr T48 x3.2.1 x3.2.2.1 x3.2.2.2.1 x3.2.2.2.2 m1_3] []) hb (hs.ro R1 _ _) C1 hc14) ?_
  intro x15
  refine lv (.tuple #[.pointer (some ⟨x15.1, 0, none⟩), .int .i64 t13.2]) ?_
  refine lv (.pointer (some ⟨x15.1, 0, none⟩)) ?_
  refine lv (.int .i64 t13.2) ?_
  refine lv (.pointer (some ⟨x15.1, 0, none⟩)) ?_
  refine lv (.int .i64 t13.2) ?_
  refine ls_end ?_
  refine qn_then ?_
  refine cs_cut (fun f S => ∃ (fR : Fr), f = upd (upd (upd (upd (upd fR 0 (.slice A0 l0.length c0)) 1 (.slice A1 l1.length c1)) 2 (.int .i64 y11)) 9 (.int .i64 y4)) 11 (.pointer (some ⟨x15.1, 0, none⟩)) ∧ S = sput (sput s0 2 (some (Ck.var 34 x15.1 (([Value.slice (some ⟨x15.2.2.1, 0, none⟩) x15.2.2.2.2 x15.2.2.2.1] ++ ([Value.map (some x15.2.1)] ++ ([Value.bool t13.1.1.2.2.1] ++ ([Value.int .i64 t13.1.1.2.2.2.1] ++ [Value.bool t13.1.1.2.2.2.2])))))))) 3 (some (Ck.mr T48 x15.2.1 x15.2.2.1 x15.2.2.2.1 x15.2.2.2.2 t13.1.2)) ∧ shadowboxlaw05_DiskLasts.jo4 k l0 l1 y4 y11 t13 = some r) ?_ ?_
  · skip
    refine cs_seq ?_
    refine cs_region (l := [_, _, _, _, _, _, _, _, _, _, _, _, _, _, _]) ?_
    refine lv (.int .i64 t13.2) ?_
    refine lv (.bool (!decide (t13.2 = (0 : Int)))) ?_
    refine lv (.bool (!decide (t13.2 = (0 : Int)))) ?_
    by_cases q151 : t13.2 = (0 : Int)
    · replace H := ite_t q151 H
      refine ls_know (c := false) (congrArg Bool.not (dec_t q151)) 84 (by kernel_rfl) ?_
      refine ls_on (j := 2) (t := 84) (b := false) rfl rfl (by kernel_rfl) (by kernel_rfl) ?_
      refine lv (.pointer (some ⟨x15.1, 0, none⟩)) ?_
      refine ls_on (j := 2) (t := 84) (b := false) rfl rfl (by kernel_rfl) (by kernel_rfl) ?_
      obtain ⟨t152, hc153, H⟩ := bind_some H
      refine ls_callb (fid := 13) (vals := #[.pointer (some ⟨x15.1, 0, none⟩)]) (X := Unit) (fun x => .int .i64 t152) (fun x => stl [Ck.var 34 x15.1 (([Value.slice (some ⟨x15.2.2.1, 0, none⟩) x15.2.2.2.2 x15.2.2.2.1] ++ ([Value.map (some x15.2.1)] ++ ([Value.bool t13.1.1.2.2.1] ++ ([Value.int .i64 t13.1.1.2.2.2.1] ++ [Value.bool t13.1.1.2.2.2.2]))))), Ck.mr T48 x15.2.1 x15.2.2.1 x15.2.2.2.1 x15.2.2.2.2 t13.1.2]) [2, 3] [] [Ck.var 34 x15.1 (([Value.slice (some ⟨x15.2.2.1, 0, none⟩) x15.2.2.2.2 x15.2.2.2.1] ++ ([Value.map (some x15.2.1)] ++ ([Value.bool t13.1.1.2.2.1] ++ ([Value.int .i64 t13.1.1.2.2.2.1] ++ [Value.bool t13.1.1.2.2.2.2]))))), Ck.mr T48 x15.2.1 x15.2.2.1 x15.2.2.2.1 x15.2.2.2.2 t13.1.2] [] 4 rfl rfl (by kernel_rfl) (fun w => by kernel_rfl) ⟨by exact rfl, by exact rfl, trivial⟩ trivial (by decide) (fun w hs hb => disk_Disk_Waiting.calls k x15.1 x15.2.2.1 x15.2.2.2.2 x15.2.2.2.1 x15.2.1 ((), (), t13.1.1.2.2.1, t13.1.1.2.2.2.1, t13.1.1.2.2.2.2) t13.1.2 t152 (lent b w [Ck.var 34 x15.1 (([Value.slice (some ⟨x15.2.2.1, 0, none⟩) x15.2.2.2.2 x15.2.2.2.1] ++ ([Value.map (some x15.2.1)] ++ ([Value.bool t13.1.1.2.2.1] ++ ([Value.int .i64 t13.1.1.2.2.2.1] ++ [Value.bool t13.1.1.2.2.2.2]))))), Ck.mr T48 x15.2.1 x15.2.2.1 x15.2.2.2.1 x15.2.2.2.2 t13.1.2] []) hb  hc153) ?_
      intro x154
      refine ls_on (j := 2) (t := 84) (b := false) rfl rfl (by kernel_rfl) (by kernel_rfl) ?_
      refine lv (.bool (!decide (t152 = (0 : Int)))) ?_
      refine lv (.bool (!decide (t152 = (0 : Int)))) ?_
      refine lv (.bool (!decide (t152 = (0 : Int)))) ?_
      by_cases q155 : t152 = (0 : Int)
      · replace H := ite_t q155 H
        refine ls_know (c := false) (congrArg Bool.not (dec_t q155)) 89 (by kernel_rfl) ?_
        refine ls_on (j := 7) (t := 89) (b := false) rfl rfl (by kernel_rfl) (by kernel_rfl) ?_
        refine lv (.pointer (some ⟨x3.1, 0, none⟩)) ?_
        refine ls_on (j := 7) (t := 89) (b := false) rfl rfl (by kernel_rfl) (by kernel_rfl) ?_
        obtain ⟨t156, hc157, H⟩ := bind_some H
        refine ls_callb (fid := 13) (vals := #[.pointer (some ⟨x3.1, 0, none⟩)]) (X := Unit) (fun x => .int .i64 t156) (fun x => stl [Ck.var 34 x3.1 (([Value.slice (some ⟨x3.2.2.1, 0, none⟩) x3.2.2.2.2 x3.2.2.2.1] ++ ([Value.map (some x3.2.1)] ++ ([Value.bool m0_3.2.2.1] ++ ([Value.int .i64 m0_3.2.2.2.1] ++ [Value.bool m0_3.2.2.2.2]))))), Ck.mr T48 x3.2.1 x3.2.2.1 x3.2.2.2.1 x3.2.2.2.2 m1_3]) [0, 1] [] [Ck.var 34 x3.1 (([Value.slice (some ⟨x3.2.2.1, 0, none⟩) x3.2.2.2.2 x3.2.2.2.1] ++ ([Value.map (some x3.2.1)] ++ ([Value.bool m0_3.2.2.1] ++ ([Value.int .i64 m0_3.2.2.2.1] ++ [Value.bool m0_3.2.2.2.2]))))), Ck.mr T48 x3.2.1 x3.2.2.1 x3.2.2.2.1 x3.2.2.2.2 m1_3] [] 4 rfl rfl (by kernel_rfl) (fun w => by kernel_rfl) ⟨by exact rfl, by exact rfl, trivial⟩ trivial (by decide) (fun w hs hb => disk_Disk_Waiting.calls k x3.1 x3.2.2.1 x3.2.2.2.2 x3.2.2.2.1 x3.2.1 ((), (), m0_3.2.2.1, m0_3.2.2.2.1, m0_3.2.2.2.2) m1_3 t156 (lent b w [Ck.var 34 x3.1 (([Value.slice (some ⟨x3.2.2.1, 0, none⟩) x3.2.2.2.2 x3.2.2.2.1] ++ ([Value.map (some x3.2.1)] ++ ([Value.bool m0_3.2.2.1] ++ ([Value.int .i64 m0_3.2.2.2.1] ++ [Value.bool m0_3.2.2.2.2]))))), Ck.mr T48 x3.2.1 x3.2.2.1 x3.2.2.2.1 x3.2.2.2.2 m1_3] []) hb  hc157) ?_
        intro x158
        refine ls_on (j := 7) (t := 89) (b := false) rfl rfl (by kernel_rfl) (by kernel_rfl) ?_
        refine lv (.int .i64 y4) ?_
        refine ls_on (j := 7) (t := 89) (b := false) rfl rfl (by kernel_rfl) (by kernel_rfl) ?_
        refine lv (.int .i64 y11) ?_
        refine ls_on (j := 7) (t := 89) (b := false) rfl rfl (by kernel_rfl) (by kernel_rfl) ?_
        refine lv (.int .i64 (IntKind.wrap .i64 (y4 - y11))) ?_
        refine ls_on (j := 7) (t := 89) (b := false) rfl rfl (by kernel_rfl) (by kernel_rfl) ?_
        refine lv (.bool (!decide (t156 = (IntKind.wrap .i64 (y4 - y11))))) ?_
        refine lv (.bool (!decide (t156 = (IntKind.wrap .i64 (y4 - y11))))) ?_
        refine ls_end ?_
        refine qn_then ?_
        by_cases q159 : t156 = (IntKind.wrap .i64 (y4 - y11))
        · replace H := ite_t q159 H
          refine cs_know (c := false) (congrArg Bool.not (dec_t q159)) 96 (by kernel_rfl) ?_
          refine cs_false (by kernel_rfl) ?_
          refine cs_skip' ?_
          refine qn_meet (sput (sput s0 2 (some (Ck.var 34 x15.1 (([Value.slice (some ⟨x15.2.2.1, 0, none⟩) x15.2.2.2.2 x15.2.2.2.1] ++ ([Value.map (some x15.2.1)] ++ ([Value.bool t13.1.1.2.2.1] ++ ([Value.int .i64 t13.1.1.2.2.2.1] ++ [Value.bool t13.1.1.2.2.2.2])))))))) 3 (some (Ck.mr T48 x15.2.1 x15.2.2.1 x15.2.2.2.1 x15.2.2.2.2 t13.1.2))) ⟨_, fr_next (fr_next (fr_next (fr_next (fr_next (rfl) (by kernel_rfl)) (by kernel_rfl)) (by kernel_rfl)) (by kernel_rfl)) (by kernel_rfl), rfl, H⟩ (sub_put (by exact rfl) (sub_put (by exact rfl) (sub_nil _)))
        replace H := ite_f q159 H
        refine cs_know (c := true) (congrArg Bool.not (dec_f q159)) 96 (by kernel_rfl) ?_
        refine cs_true (by kernel_rfl) ?_
        refine cs_seq ?_
        refine cs_region (l := [_]) ?_
        refine lv (.bool false) ?_
        refine ls_end ?_
        refine qn_then ?_
        refine cs_ret' ?_
        refine qr_then ?_
        obtain rfl := Option.some.inj H
        refine qr_res (rs := [_]) rfl (fun w' hs => ⟨[.bool false], (res_tmp (by kernel_rfl) (.nil)), (), rfl, hs.pick (ts := []) (cs := []) trivial (by decide)⟩)
      replace H := ite_f q155 H
      refine ls_know (c := true) (congrArg Bool.not (dec_f q155)) 89 (by kernel_rfl) ?_
      refine lofx 7 89 false true ?_
      refine lofx 7 89 false true ?_
      refine lofx 7 89 false true ?_
      refine lofx 7 89 false true ?_
      refine lofx 7 89 false true ?_
      refine lofx 7 89 false true ?_
      refine lv (.bool true) ?_
      refine ls_end ?_
      refine qn_then ?_
      refine cs_true (by kernel_rfl) ?_
      refine cs_seq ?_
      refine cs_region (l := [_]) ?_
      refine lv (.bool false) ?_
      refine ls_end ?_
      refine qn_then ?_
      refine cs_ret' ?_
      refine qr_then ?_
      obtain rfl := Option.some.inj H
      refine qr_res (rs := [_]) rfl (fun w' hs => ⟨[.bool false], (res_tmp (by kernel_rfl) (.nil)), (), rfl, hs.pick (ts := []) (cs := []) trivial (by decide)⟩)
    replace H := ite_f q151 H
    refine ls_know (c := true) (congrArg Bool.not (dec_f q151)) 84 (by kernel_rfl) ?_
    refine lofx 2 84 false true ?_
    refine lofx 2 84 false true ?_
    refine lofx 2 84 false true ?_
    refine lv (.bool true) ?_
    refine lv (.bool true) ?_
    refine lofx 7 89 false true ?_
    refine lofx 7 89 false true ?_
    refine lofx 7 89 false true ?_
    refine lofx 7 89 false true ?_
    refine lofx 7 89 false true ?_
    refine lofx 7 89 false true ?_
    refine lv (.bool true) ?_
    refine ls_end ?_
    refine qn_then ?_
    refine cs_true (by kernel_rfl) ?_
    refine cs_seq ?_
    refine cs_region (l := [_]) ?_
    refine lv (.bool false) ?_
    refine ls_end ?_
    refine qn_then ?_
    refine cs_ret' ?_
    refine qr_then ?_
    obtain rfl := Option.some.inj H
    refine qr_res (rs := [_]) rfl (fun w' hs => ⟨[.bool false], (res_tmp (by kernel_rfl) (.nil)), (), rfl, hs.pick (ts := []) (cs := []) trivial (by decide)⟩)
  rintro f S ⟨fr4, rfl, rfl, H⟩
  replace H : (shadowboxlaw05_DiskLasts.lo5 l0 l1 y4 y11 t13 k (0 : Int)) = some r := H
  refine cs_seq ?_
  refine cs_seq ?_
  refine cs_region (l := [_]) ?_
  refine lv (.int .i64 (0 : Int)) ?_
  refine ls_end ?_
  refine qn_then ?_
  refine cs_block ?_
  refine cs_sub (sput (sput s0 2 (some (Ck.var 34 x15.1 (([Value.slice (some ⟨x15.2.2.1, 0, none⟩) x15.2.2.2.2 x15.2.2.2.1] ++ ([Value.map (some x15.2.1)] ++ ([Value.bool t13.1.1.2.2.1] ++ ([Value.int .i64 t13.1.1.2.2.2.1] ++ [Value.bool t13.1.1.2.2.2.2])))))))) 3 (some (Ck.mr T48 x15.2.1 x15.2.2.1 x15.2.2.2.1 x15.2.2.2.2 t13.1.2))) (sub_put (by exact rfl) (sub_put (by exact rfl) (sub_nil _))) ?_
  refine cs_loop (fun kk f S => ∃ (fR : Fr) (x12_5 : Int), f = upd (upd (upd (upd (upd (upd fR 0 (.slice A0 l0.length c0)) 1 (.slice A1 l1.length c1)) 2 (.int .i64 y11)) 9 (.int .i64 y4)) 11 (.pointer (some ⟨x15.1, 0, none⟩))) 12 (.int .i64 x12_5) ∧ S = sput (sput s0 2 (some (Ck.var 34 x15.1 (([Value.slice (some ⟨x15.2.2.1, 0, none⟩) x15.2.2.2.2 x15.2.2.2.1] ++ ([Value.map (some x15.2.1)] ++ ([Value.bool t13.1.1.2.2.1] ++ ([Value.int .i64 t13.1.1.2.2.2.1] ++ [Value.bool t13.1.1.2.2.2.2])))))))) 3 (some (Ck.mr T48 x15.2.1 x15.2.2.1 x15.2.2.2.1 x15.2.2.2.2 t13.1.2)) ∧ shadowboxlaw05_DiskLasts.lo5 l0 l1 y4 y11 t13 kk x12_5 = some r) k ?_ ?_ ?_
  · exact ⟨_, (0 : Int), fr_next (fr_next (fr_next (fr_next (fr_next (fr_next (rfl) (by kernel_rfl)) (by kernel_rfl)) (by kernel_rfl)) (by kernel_rfl)) (by kernel_rfl)) (by kernel_rfl), rfl, H⟩
  · rintro f S ⟨fr5, x12_5, rfl, rfl, H⟩; cases H
  rintro k5 f S ⟨fr5, x12_5, rfl, rfl, H⟩
  replace H : ((if x12_5 < (16 : Int) then (shadowboxlaw05_DiskLasts.jo6 l0 l1 y4 y11 t13 x12_5 k5 (shadowboxlaw05_DiskLasts.lo5 l0 l1 y4 y11 t13 k5)) else some true)) = some r := H
  refine cs_cut (fun f S => ∃ (fR : Fr), f = upd (upd (upd (upd (upd (upd fR 0 (.slice A0 l0.length c0)) 1 (.slice A1 l1.length c1)) 2 (.int .i64 y11)) 9 (.int .i64 y4)) 11 (.pointer (some ⟨x15.1, 0, none⟩))) 12 (.int .i64 x12_5) ∧ S = sput (sput s0 2 (some (Ck.var 34 x15.1 (([Value.slice (some ⟨x15.2.2.1, 0, none⟩) x15.2.2.2.2 x15.2.2.2.1] ++ ([Value.map (some x15.2.1)] ++ ([Value.bool t13.1.1.2.2.1] ++ ([Value.int .i64 t13.1.1.2.2.2.1] ++ [Value.bool t13.1.1.2.2.2.2])))))))) 3 (some (Ck.mr T48 x15.2.1 x15.2.2.1 x15.2.2.2.1 x15.2.2.2.2 t13.1.2)) ∧ shadowboxlaw05_DiskLasts.jo6 l0 l1 y4 y11 t13 x12_5 k5 (shadowboxlaw05_DiskLasts.lo5 l0 l1 y4 y11 t13 k5) = some r) ?_ ?_
  · skip
    refine cs_seq ?_
    refine cs_region (l := [_, _]) ?_
    refine lv (.int .i64 x12_5) ?_
    refine lv (.bool (decide (x12_5 < (16 : Int)))) ?_
    refine ls_end ?_
    refine qn_then ?_
    by_cases q150 : x12_5 < (16 : Int)
    · replace H := ite_t q150 H
      refine cs_know (c := true) (dec_t q150) 98 (by kernel_rfl) ?_
      refine cs_true (by kernel_rfl) ?_
      refine cs_skip' ?_
      refine qn_meet (sput (sput s0 2 (some (Ck.var 34 x15.1 (([Value.slice (some ⟨x15.2.2.1, 0, none⟩) x15.2.2.2.2 x15.2.2.2.1] ++ ([Value.map (some x15.2.1)] ++ ([Value.bool t13.1.1.2.2.1] ++ ([Value.int .i64 t13.1.1.2.2.2.1] ++ [Value.bool t13.1.1.2.2.2.2])))))))) 3 (some (Ck.mr T48 x15.2.1 x15.2.2.1 x15.2.2.2.1 x15.2.2.2.2 t13.1.2))) ⟨_, fr_next (fr_next (fr_next (fr_next (fr_next (fr_next (rfl) (by kernel_rfl)) (by kernel_rfl)) (by kernel_rfl)) (by kernel_rfl)) (by kernel_rfl)) (by kernel_rfl), rfl, H⟩ (sub_put (by exact rfl) (sub_put (by exact rfl) (sub_nil _)))
    replace H := ite_f q150 H
    refine cs_know (c := false) (dec_f q150) 98 (by kernel_rfl) ?_
    refine cs_false (by kernel_rfl) ?_
    refine cs_exit' ?_
    refine qx_then ?_
    refine qx_then ?_
    refine qx_same ?_
    refine qn_then ?_
    refine cs_seq ?_
    refine cs_region (l := [_]) ?_
    refine lv (.bool true) ?_
    refine ls_end ?_
    refine qn_then ?_
    refine cs_ret' ?_
    obtain rfl := Option.some.inj H
    refine qr_res (rs := [_]) rfl (fun w' hs => ⟨[.bool true], (res_tmp (by kernel_rfl) (.nil)), (), rfl, hs.pick (ts := []) (cs := []) trivial (by decide)⟩)
  rintro f S ⟨fr6, rfl, rfl, H⟩
  replace H : ((disk_Disk_Read.f k5 ((), (), t13.1.1.2.2.1, t13.1.1.2.2.2.1, t13.1.1.2.2.2.2) t13.1.2 x12_5).bind fun t16 => (if t16.2 = (0 : Int) then (if (t16.1.length : Int) = (512 : Int) then (shadowboxlaw05_DiskLasts.jo7 l0 l1 y4 y11 x12_5 k5 t16 (shadowboxlaw05_DiskLasts.lo5 l0 l1 y4 y11 t13 k5)) else some false) else some false)) = some r := H
  refine cs_seq ?_
  refine cs_block ?_
  refine cs_seq ?_
  refine cs_region (l := [_, _, _, _, _, _, _, _]) ?_
  refine lv (.pointer (some ⟨x15.1, 0, none⟩)) ?_
  refine lv (.int .i64 x12_5) ?_
  obtain ⟨t16, hc17, H⟩ := bind_some H
  refine ls_callb (fid := 10) (vals := #[.pointer (some ⟨x15.1, 0, none⟩), .int .i64 x12_5]) (X := (Option Addr × Nat)) (fun x => .tuple #[.slice x.1 t16.1.length x.2, .int .i64 t16.2]) (fun x => stl [Ck.var 34 x15.1 (([Value.slice (some ⟨x15.2.2.1, 0, none⟩) x15.2.2.2.2 x15.2.2.2.1] ++ ([Value.map (some x15.2.1)] ++ ([Value.bool t13.1.1.2.2.1] ++ ([Value.int .i64 t13.1.1.2.2.2.1] ++ [Value.bool t13.1.1.2.2.2.2]))))), Ck.mr T48 x15.2.1 x15.2.2.1 x15.2.2.2.1 x15.2.2.2.2 t13.1.2, Ck.ro (Ec.int 5 .u8) x.1 x.2 t16.1]) [2, 3] [] [Ck.var 34 x15.1 (([Value.slice (some ⟨x15.2.2.1, 0, none⟩) x15.2.2.2.2 x15.2.2.2.1] ++ ([Value.map (some x15.2.1)] ++ ([Value.bool t13.1.1.2.2.1] ++ ([Value.int .i64 t13.1.1.2.2.2.1] ++ [Value.bool t13.1.1.2.2.2.2]))))), Ck.mr T48 x15.2.1 x15.2.2.1 x15.2.2.2.1 x15.2.2.2.2 t13.1.2] [] 4 rfl rfl (by kernel_rfl) (fun w => by kernel_rfl) ⟨by exact rfl, by exact rfl, trivial⟩ trivial (by decide) (fun w hs hb => disk_Disk_Read.calls k5 x15.1 x15.2.2.1 x15.2.2.2.2 x15.2.2.2.1 x15.2.1 ((), (), t13.1.1.2.2.1, t13.1.1.2.2.2.1, t13.1.1.2.2.2.2) t13.1.2 x12_5 t16 (lent b w [Ck.var 34 x15.1 (([Value.slice (some ⟨x15.2.2.1, 0, none⟩) x15.2.2.2.2 x15.2.2.2.1] ++ ([Value.map (some x15.2.1)] ++ ([Value.bool t13.1.1.2.2.1] ++ ([Value.int .i64 t13.1.1.2.2.2.1] ++ [Value.bool t13.1.1.2.2.2.2]))))), Ck.mr T48 x15.2.1 x15.2.2.1 x15.2.2.2.1 x15.2.2.2.2 t13.1.2] []) hb  hc17) ?_
  intro x18
  refine lv (.tuple #[.slice x18.1 t16.1.length x18.2, .int .i64 t16.2]) ?_
  refine lv (.slice x18.1 t16.1.length x18.2) ?_
  refine lv (.int .i64 t16.2) ?_
  refine lv (.slice x18.1 t16.1.length x18.2) ?_
  refine lv (.int .i64 t16.2) ?_
  refine ls_end ?_
  refine qn_then ?_
  refine cs_cut (fun f S => ∃ (fR : Fr), f = upd (upd (upd (upd (upd (upd (upd fR 0 (.slice A0 l0.length c0)) 1 (.slice A1 l1.length c1)) 2 (.int .i64 y11)) 9 (.int .i64 y4)) 11 (.pointer (some ⟨x15.1, 0, none⟩))) 12 (.int .i64 x12_5)) 13 (.slice x18.1 t16.1.length x18.2) ∧ S = sput (sput (sput s0 2 (some (Ck.var 34 x15.1 (([Value.slice (some ⟨x15.2.2.1, 0, none⟩) x15.2.2.2.2 x15.2.2.2.1] ++ ([Value.map (some x15.2.1)] ++ ([Value.bool t13.1.1.2.2.1] ++ ([Value.int .i64 t13.1.1.2.2.2.1] ++ [Value.bool t13.1.1.2.2.2.2])))))))) 3 (some (Ck.mr T48 x15.2.1 x15.2.2.1 x15.2.2.2.1 x15.2.2.2.2 t13.1.2))) 4 (some (Ck.ro (Ec.int 5 .u8) x18.1 x18.2 t16.1)) ∧ shadowboxlaw05_DiskLasts.jo7 l0 l1 y4 y11 x12_5 k5 t16 (shadowboxlaw05_DiskLasts.lo5 l0 l1 y4 y11 t13 k5) = some r) ?_ ?_
  · skip
    refine cs_seq ?_
    refine cs_region (l := [_, _, _, _, _, _, _]) ?_
    refine lv (.int .i64 t16.2) ?_
    refine lv (.bool (!decide (t16.2 = (0 : Int)))) ?_
    refine lv (.bool (!decide (t16.2 = (0 : Int)))) ?_
    by_cases q148 : t16.2 = (0 : Int)
    · replace H := ite_t q148 H
      refine ls_know (c := false) (congrArg Bool.not (dec_t q148)) 109 (by kernel_rfl) ?_
      refine ls_on (j := 2) (t := 109) (b := false) rfl rfl (by kernel_rfl) (by kernel_rfl) ?_
      refine lv (.slice x18.1 t16.1.length x18.2) ?_
      refine ls_on (j := 2) (t := 109) (b := false) rfl rfl (by kernel_rfl) (by kernel_rfl) ?_
      refine lv (.int .i64 (t16.1.length : Int)) ?_
      refine ls_on (j := 2) (t := 109) (b := false) rfl rfl (by kernel_rfl) (by kernel_rfl) ?_
      refine lv (.bool (!decide ((t16.1.length : Int) = (512 : Int)))) ?_
      refine lv (.bool (!decide ((t16.1.length : Int) = (512 : Int)))) ?_
      refine ls_end ?_
      refine qn_then ?_
      by_cases q149 : (t16.1.length : Int) = (512 : Int)
      · replace H := ite_t q149 H
        refine cs_know (c := false) (congrArg Bool.not (dec_t q149)) 113 (by kernel_rfl) ?_
        refine cs_false (by kernel_rfl) ?_
        refine cs_skip' ?_
        refine qn_meet (sput (sput (sput s0 2 (some (Ck.var 34 x15.1 (([Value.slice (some ⟨x15.2.2.1, 0, none⟩) x15.2.2.2.2 x15.2.2.2.1] ++ ([Value.map (some x15.2.1)] ++ ([Value.bool t13.1.1.2.2.1] ++ ([Value.int .i64 t13.1.1.2.2.2.1] ++ [Value.bool t13.1.1.2.2.2.2])))))))) 3 (some (Ck.mr T48 x15.2.1 x15.2.2.1 x15.2.2.2.1 x15.2.2.2.2 t13.1.2))) 4 (some (Ck.ro (Ec.int 5 .u8) x18.1 x18.2 t16.1))) ⟨_, fr_next (fr_next (fr_next (fr_next (fr_next (fr_next (fr_next (rfl) (by kernel_rfl)) (by kernel_rfl)) (by kernel_rfl)) (by kernel_rfl)) (by kernel_rfl)) (by kernel_rfl)) (by kernel_rfl), rfl, H⟩ (sub_put (by exact rfl) (sub_put (by exact rfl) (sub_put (by exact rfl) (sub_nil _))))
      replace H := ite_f q149 H
      refine cs_know (c := true) (congrArg Bool.not (dec_f q149)) 113 (by kernel_rfl) ?_
      refine cs_true (by kernel_rfl) ?_
      refine cs_seq ?_
      refine cs_region (l := [_]) ?_
      refine lv (.bool false) ?_
      refine ls_end ?_
      refine qn_then ?_
      refine cs_ret' ?_
      refine qr_then ?_
      refine qr_block ?_
      refine qr_then ?_
      refine qr_then ?_
      refine qr_block ?_
      refine qr_then ?_
      obtain rfl := Option.some.inj H
      refine qr_res (rs := [_]) rfl (fun w' hs => ⟨[.bool false], (res_tmp (by kernel_rfl) (.nil)), (), rfl, hs.pick (ts := []) (cs := []) trivial (by decide)⟩)
    replace H := ite_f q148 H
    refine ls_know (c := true) (congrArg Bool.not (dec_f q148)) 109 (by kernel_rfl) ?_
    refine lofx 2 109 false true ?_
    refine lofx 2 109 false true ?_
    refine lofx 2 109 false true ?_
    refine lv (.bool true) ?_
    refine ls_end ?_
    refine qn_then ?_
    refine cs_true (by kernel_rfl) ?_
    refine cs_seq ?_
    refine cs_region (l := [_]) ?_
    refine lv (.bool false) ?_
    refine ls_end ?_
    refine qn_then ?_
    refine cs_ret' ?_
    refine qr_then ?_
    refine qr_block ?_
    refine qr_then ?_
    refine qr_then ?_
    refine qr_block ?_
    refine qr_then ?_
    obtain rfl := Option.some.inj H
    refine qr_res (rs := [_]) rfl (fun w' hs => ⟨[.bool false], (res_tmp (by kernel_rfl) (.nil)), (), rfl, hs.pick (ts := []) (cs := []) trivial (by decide)⟩)
  rintro f S ⟨fr7, rfl, rfl, H⟩
  replace H : ((if x12_5 < y11 then (if 0 ≤ x12_5 then (if x12_5 < (l0.length : Int) then (if (0 : Int) < (t16.1.length : Int) then lt (((t16.1).getD ((0 : Int)).toNat (0 : Int))) fun y30 => (if (0 : Int) < (2 : Int) then lt ((((l0).getD (x12_5).toNat (vrep 2 (0 : Int))).1.getD ((0 : Int)).toNat (0 : Int))) fun y33 => (if y30 = y33 then (if (1 : Int) < (t16.1.length : Int) then lt (((t16.1).getD ((1 : Int)).toNat (0 : Int))) fun y39 => (if (1 : Int) < (2 : Int) then lt ((((l0).getD (x12_5).toNat (vrep 2 (0 : Int))).1.getD ((1 : Int)).toNat (0 : Int))) fun y42 => (if y39 = y42 then (if (2 : Int) < (t16.1.length : Int) then lt (((t16.1).getD ((2 : Int)).toNat (0 : Int))) fun y48 => (if y48 = (0 : Int) then (shadowboxlaw05_DiskLasts.lo5 l0 l1 y4 y11 t13 k5) (IntKind.wrap .i64 (x12_5 + (1 : Int))) else some false) else none) else some false) else none) else none) else some false) else none) else none) else none) else none) else (if x12_5 < y4 then (shadowboxlaw05_DiskLasts.jo8 l0 l1 y11 x12_5 k5 t16 (shadowboxlaw05_DiskLasts.lo5 l0 l1 y4 y11 t13 k5)) (decide ((IntKind.wrap .i64 (x12_5 - y11)) < (l1.length : Int))) else (shadowboxlaw05_DiskLasts.jo8 l0 l1 y11 x12_5 k5 t16 (shadowboxlaw05_DiskLasts.lo5 l0 l1 y4 y11 t13 k5)) false))) = some r := H
  refine cs_seq ?_
  refine cs_region (l := [_, _, _]) ?_
  refine lv (.agg ⟨en (Value.int .u8) (⟨[(0 : Int), (0 : Int)], rfl⟩ : (Vc Int 2)).1⟩) ?_
  refine ls_new rfl rfl (by kernel_rfl) 5 (fun g => .pointer (some ⟨g, 0, none⟩)) (.cells ⟨en (Value.int .u8) (vrep 2 (0 : Int)).1⟩ 43) (fun w => by kernel_rfl) ?_
  intro g19
  refine ls_storec (g := g19) (off := 0) (v := .agg ⟨en (Value.int .u8) (⟨[(0 : Int), (0 : Int)], rfl⟩ : (Vc Int 2)).1⟩) (vs := en (Value.int .u8) (⟨[(0 : Int), (0 : Int)], rfl⟩ : (Vc Int 2)).1) (cs := en (Value.int .u8) (vrep 2 (0 : Int)).1) (ty := 43) 5 rfl rfl rfl (by kernel_rfl) (by kernel_rfl) (by kernel_rfl) (by exact rfl) (by kernel_rfl) (len_en _ (⟨[(0 : Int), (0 : Int)], rfl⟩ : (Vc Int 2))) (one_en (fun _ => rfl) _) (hl_of (Sub4.all _) (len_eq (len_en _ (⟨[(0 : Int), (0 : Int)], rfl⟩ : (Vc Int 2))) (len_en _ (vrep 2 (0 : Int))))) (cs' := en (Value.int .u8) (⟨[(0 : Int), (0 : Int)], rfl⟩ : (Vc Int 2)).1) (splc_all (len_eq (len_en _ (⟨[(0 : Int), (0 : Int)], rfl⟩ : (Vc Int 2))) (len_en _ (vrep 2 (0 : Int))))) ?_
  refine ls_end ?_
  refine qn_then ?_
  refine cs_seq ?_
  refine cs_seq ?_
  refine cs_region (l := [_, _, _]) ?_
  refine lv (.int .i64 x12_5) ?_
  refine lv (.int .i64 y11) ?_
  refine lv (.bool (decide (x12_5 < y11))) ?_
  refine ls_end ?_
  refine qn_then ?_
  by_cases q20 : x12_5 < y11
  · replace H := ite_t q20 H
    refine cs_know (c := true) (dec_t q20) 117 (by kernel_rfl) ?_
    refine cs_true (by kernel_rfl) ?_
    refine cs_region (l := [_, _, _, _, _]) ?_
    refine lv (.slice A0 l0.length c0) ?_
    refine lv (.int .i64 x12_5) ?_
    obtain ⟨q21, H⟩ := ite_need H
    obtain ⟨q22, H⟩ := ite_need H
    obtain ⟨ad23, hA24⟩ := ido_at (T := T43) (l := l0) (i := x12_5) R0 q21 q22
    refine ls_idxv T43 (A := A0) (c := c0) (l := l0) (k := .i64) (i := x12_5) (z := 2) (ad := ad23) rfl rfl (by kernel_rfl) hA24 rfl (by kernel_rfl) (by kernel_rfl) (by kernel_rfl) (by kernel_rfl) q21 q22 ?_
    refine ls_loadagg (a := (ad23.add ((x12_5).toNat * 2))) (sub := en (Value.int .u8) ((l0).getD (x12_5).toNat (vrep 2 (0 : Int))).1) rfl rfl (by kernel_rfl) rfl (by kernel_rfl) (by kernel_rfl) (by kernel_rfl) (len_en _ ((l0).getD (x12_5).toNat (vrep 2 (0 : Int)))) (fun w hs => (hs.old R0).part hA24 (em_sub T43 l0 (i := (x12_5).toNat) (by have h0 : (0 : Int) ≤ x12_5 := q21; have h1 : x12_5 < (l0.length : Int) := q22; omega))) ?_
    refine ls_storec (g := g19) (off := 0) (v := .agg ⟨en (Value.int .u8) ((l0).getD (x12_5).toNat (vrep 2 (0 : Int))).1⟩) (vs := en (Value.int .u8) ((l0).getD (x12_5).toNat (vrep 2 (0 : Int))).1) (cs := en (Value.int .u8) (⟨[(0 : Int), (0 : Int)], rfl⟩ : (Vc Int 2)).1) (ty := 43) 5 rfl rfl rfl (by kernel_rfl) (by kernel_rfl) (by kernel_rfl) (by exact rfl) (by kernel_rfl) (len_en _ ((l0).getD (x12_5).toNat (vrep 2 (0 : Int)))) (one_en (fun _ => rfl) _) (hl_of (Sub4.all _) (len_eq (len_en _ ((l0).getD (x12_5).toNat (vrep 2 (0 : Int)))) (len_en _ (⟨[(0 : Int), (0 : Int)], rfl⟩ : (Vc Int 2))))) (cs' := en (Value.int .u8) ((l0).getD (x12_5).toNat (vrep 2 (0 : Int))).1) (splc_all (len_eq (len_en _ ((l0).getD (x12_5).toNat (vrep 2 (0 : Int)))) (len_en _ (⟨[(0 : Int), (0 : Int)], rfl⟩ : (Vc Int 2))))) ?_
    refine ls_end ?_
    refine qn_then ?_
    refine cs_seq ?_
    obtain ⟨s26_0, hs26_0⟩ := exv (.slice x18.1 t16.1.length x18.2)
    refine have_opa shadowboxlaw05_DiskLasts.tab24 6 0 (fun sp => sp 0 = s26_0) (fun sp on hA hon => ?_) (fun ops26_0 => ?_)
    · refine ⟨fun o ho vs Rs f' S' w hp hf hx hS hR hs => ?_⟩
      obtain rfl := Option.some.inj ho
      exact opv (.slice x18.1 t16.1.length x18.2) hA hs26_0 hon (fr_next (rfl) ((hx 13 (by kernel_rfl)).trans (by kernel_rfl : (_ : Value) = .slice x18.1 t16.1.length x18.2)))
    obtain ⟨q27, H⟩ := ite_need H
    refine cs_atro (T := (Ec.int 5 .u8)) (tk := 4) (i := (0 : Int)) (by exact rfl) (by decide) q27 ?_
    intro ad28 hA29
    obtain ⟨s26_1, hs26_1⟩ := exv (.pointer (some (ad28.add (((0 : Int)).toNat * 1))))
    refine have_opa shadowboxlaw05_DiskLasts.tab24 6 1 (fun sp => sp 1 = s26_1 ∧ sp 0 = s26_0) (fun sp on hA hon => ?_) (fun ops26_1 => ?_)
    · refine ⟨fun o ho vs Rs f' S' w hp hf hx hS hR hs => ?_⟩
      obtain rfl := Option.some.inj ho
      obtain ⟨hv0, hR0⟩ := (spe hA.2 hs26_0 (hp 0 (by kernel_rfl)))
      rw [hA.1, hs26_1]
      refine wn hon ?_
      have hF := fr_next (rfl) ((hf 0 155 (by kernel_rfl) rfl).trans hv0)
      refine ls_fr hF ?_
      refine ls_idxv (Ec.int 5 .u8) (A := x18.1) (c := x18.2) (l := t16.1) (k := .i64) (i := (0 : Int)) (z := 1) (ad := ad28) rfl rfl (by kernel_rfl) hA29 rfl (by kernel_rfl) (by kernel_rfl) (by kernel_rfl) (by kernel_rfl) (by decide) q27 ?_
      exact ls_fin s0 _ (congrArg (fun z => upd z 156 _) hF.symm) ⟨rfl, rfl⟩ (sub_nil _)
    obtain ⟨y30, hy31, H⟩ := lt_some H
    obtain ⟨s26_2, hs26_2⟩ := exv (.int .u8 y30)
    refine have_opa shadowboxlaw05_DiskLasts.tab24 6 2 (fun sp => sp 2 = s26_2 ∧ sp 1 = s26_1) (fun sp on hA hon => ?_) (fun ops26_2 => ?_)
    · refine ⟨fun o ho vs Rs f' S' w hp hf hx hS hR hs => ?_⟩
      obtain rfl := Option.some.inj ho
      obtain ⟨hv1, hR1⟩ := (spe hA.2 hs26_1 (hp 1 (by kernel_rfl)))
      rw [hA.1, hs26_2]
      refine wn hon ?_
      have hF := fr_next (rfl) ((hf 1 156 (by kernel_rfl) rfl).trans hv1)
      refine ls_fr hF ?_
      refine ls_load (a0 := (ad28.add (((0 : Int)).toNat * 1))) (v := .int .u8 ((t16.1).getD ((0 : Int)).toNat (0 : Int))) (de := (TypeDesc.int .u8)) rfl rfl (by kernel_rfl) rfl (by kernel_rfl) (by kernel_rfl) (by kernel_rfl) (fun w1 hs1 => (Rd.step (hs.rod (k := 4) ((hS 4 (by kernel_rfl)).trans (by exact rfl))) hs1.below.bw).at hA29 (em_sub (Ec.int 5 .u8) t16.1 (i := ((0 : Int)).toNat) (by have h0 : (0 : Int) ≤ (0 : Int) := (by decide); have h1 : (0 : Int) < (t16.1.length : Int) := q27; omega))) ?_
      refine ls_ren 157 (v := .int .u8 ((t16.1).getD ((0 : Int)).toNat (0 : Int))) (v' := .int .u8 y30) (by kernel_rfl) (by rw [hy31]) ?_
      exact ls_fin s0 _ ((upd_upd _ _ _ _).trans (congrArg (fun z => upd z 157 _) hF.symm)) ⟨rfl, rfl⟩ (sub_nil _)
    obtain ⟨q32, H⟩ := ite_need H
    obtain ⟨s26_3, hs26_3⟩ := exv (.pointer (some ⟨g19, (0 + ((0 : Int)).toNat), none⟩))
    refine have_opa shadowboxlaw05_DiskLasts.tab24 6 3 (fun sp => sp 3 = s26_3) (fun sp on hA hon => ?_) (fun ops26_3 => ?_)
    · refine ⟨fun o ho vs Rs f' S' w hp hf hx hS hR hs => ?_⟩
      obtain rfl := Option.some.inj ho
      rw [hA, hs26_3]
      refine wn hon ?_
      have hF := fr_next (rfl) ((hx 15 (by kernel_rfl)).trans (by kernel_rfl : (_ : Value) = .pointer (some ⟨g19, 0, none⟩)))
      refine ls_fr hF ?_
      refine ls_idxa1 (g := g19) (off := 0) (i := (0 : Int)) (kk := .i64) (ln := 2) (e := 5) rfl rfl (by kernel_rfl) rfl (by kernel_rfl) (by kernel_rfl) (by kernel_rfl) (by kernel_rfl) (by decide) q32 ?_
      exact ls_fin s0 _ (congrArg (fun z => upd z 158 _) hF.symm) ⟨rfl, rfl⟩ (sub_nil _)
    obtain ⟨y33, hy34, H⟩ := lt_some H
    obtain ⟨s26_4, hs26_4⟩ := exv (.int .u8 y33)
    refine have_opa shadowboxlaw05_DiskLasts.tab24 6 4 (fun sp => sp 4 = s26_4 ∧ sp 3 = s26_3) (fun sp on hA hon => ?_) (fun ops26_4 => ?_)
    · refine ⟨fun o ho vs Rs f' S' w hp hf hx hS hR hs => ?_⟩
      obtain rfl := Option.some.inj ho
      obtain ⟨hv3, hR3⟩ := (spe hA.2 hs26_3 (hp 3 (by kernel_rfl)))
      rw [hA.1, hs26_4]
      refine wn hon ?_
      have hF := fr_next (rfl) ((hf 3 158 (by kernel_rfl) rfl).trans hv3)
      refine ls_fr hF ?_
      refine ls_load (a0 := ⟨g19, (0 + ((0 : Int)).toNat), none⟩) (v := .int .u8 (((l0).getD (x12_5).toNat (vrep 2 (0 : Int))).1.getD ((0 : Int)).toNat (0 : Int))) (de := (TypeDesc.int .u8)) rfl rfl (by kernel_rfl) rfl (by kernel_rfl) (by kernel_rfl) (by kernel_rfl) (fun w1 hs1 => cell_step hs1.below.bw (hs.var (k := 5) ((hS 5 (by kernel_rfl)).trans (by exact rfl)) (Sub4.trans (Sub4.all _) (Sub4.one (i := ((0 : Int)).toNat) (Value.int .u8) ((l0).getD (x12_5).toNat (vrep 2 (0 : Int))).1 0 (by have := ((l0).getD (x12_5).toNat (vrep 2 (0 : Int))).2; omega))))) ?_
      refine ls_ren 159 (v := .int .u8 (((l0).getD (x12_5).toNat (vrep 2 (0 : Int))).1.getD ((0 : Int)).toNat (0 : Int))) (v' := .int .u8 y33) (by kernel_rfl) (by rw [hy34]) ?_
      exact ls_fin s0 _ ((upd_upd _ _ _ _).trans (congrArg (fun z => upd z 159 _) hF.symm)) ⟨rfl, rfl⟩ (sub_nil _)
    obtain ⟨s26_5, hs26_5⟩ := exv (.bool (!decide (y30 = y33)))
    refine have_opa shadowboxlaw05_DiskLasts.tab24 6 5 (fun sp => sp 5 = s26_5 ∧ sp 2 = s26_2 ∧ sp 4 = s26_4) (fun sp on hA hon => ?_) (fun ops26_5 => ?_)
    · refine ⟨fun o ho vs Rs f' S' w hp hf hx hS hR hs => ?_⟩
      obtain rfl := Option.some.inj ho
      obtain ⟨hv2, hR2⟩ := (spe hA.2.1 hs26_2 (hp 2 (by kernel_rfl)))
      obtain ⟨hv4, hR4⟩ := (spe hA.2.2 hs26_4 (hp 4 (by kernel_rfl)))
      exact opv (.bool (!decide (y30 = y33))) hA.1 hs26_5 hon (fr_next (fr_next (rfl) ((hf 2 157 (by kernel_rfl) rfl).trans hv2)) ((hf 4 159 (by kernel_rfl) rfl).trans hv4))
    obtain ⟨s26_6, hs26_6⟩ := exv (.bool (!decide (y30 = y33)))
    refine have_opa shadowboxlaw05_DiskLasts.tab24 6 6 (fun sp => sp 6 = s26_6 ∧ sp 5 = s26_5) (fun sp on hA hon => ?_) (fun ops26_6 => ?_)
    · refine ⟨fun o ho vs Rs f' S' w hp hf hx hS hR hs => ?_⟩
      obtain rfl := Option.some.inj ho
      obtain ⟨hv5, hR5⟩ := (spe hA.2 hs26_5 (hp 5 (by kernel_rfl)))
      exact opv (.bool (!decide (y30 = y33))) hA.1 hs26_6 hon (fr_next (rfl) ((hf 5 160 (by kernel_rfl) rfl).trans hv5))
    by_cases q35 : y30 = y33
    · replace H := ite_t q35 H
      obtain ⟨s26_7, hs26_7⟩ := exv (.slice x18.1 t16.1.length x18.2)
      refine have_opa shadowboxlaw05_DiskLasts.tab24 6 7 (fun sp => sp 7 = s26_7 ∧ sp 6 = s26_6) (fun sp on hA hon => ?_) (fun ops26_7 => ?_)
      · refine ⟨fun o ho vs Rs f' S' w hp hf hx hS hR hs => ?_⟩
        obtain rfl := Option.some.inj ho
        obtain ⟨hv6, hR6⟩ := (spe hA.2 hs26_6 (hp 6 (by kernel_rfl)))
        rw [hA.1, hs26_7]
        refine And.intro (fun a ha => (want_is (j := 6) (t := 161) (r := true) rfl rfl (by kernel_rfl) (((hf 6 161 (by kernel_rfl) rfl).trans hv6).trans (congrArg Value.bool (show (!decide (y30 = y33)) = false from congrArg Bool.not (dec_t q35)))) rfl a ha).trans hon.symm) (And.intro (fun _ => ?_) (fun h => by rw [hon] at h; cases h))
        have hF := fr_next (fr_next (rfl) ((hx 13 (by kernel_rfl)).trans (by kernel_rfl : (_ : Value) = .slice x18.1 t16.1.length x18.2))) (((hf 6 161 (by kernel_rfl) rfl).trans hv6).trans (congrArg Value.bool (show (!decide (y30 = y33)) = false from congrArg Bool.not (dec_t q35))))
        refine ls_fr hF ?_
        refine lv (.slice x18.1 t16.1.length x18.2) ?_
        exact ls_fin s0 _ (congrArg (fun z => upd z 162 _) hF.symm) ⟨rfl, rfl⟩ (sub_nil _)
      obtain ⟨q36, H⟩ := ite_need H
      refine cs_atro (T := (Ec.int 5 .u8)) (tk := 4) (i := (1 : Int)) (by exact rfl) (by decide) q36 ?_
      intro ad37 hA38
      obtain ⟨s26_8, hs26_8⟩ := exv (.pointer (some (ad37.add (((1 : Int)).toNat * 1))))
      refine have_opa shadowboxlaw05_DiskLasts.tab24 6 8 (fun sp => sp 8 = s26_8 ∧ sp 6 = s26_6 ∧ sp 7 = s26_7) (fun sp on hA hon => ?_) (fun ops26_8 => ?_)
      · refine ⟨fun o ho vs Rs f' S' w hp hf hx hS hR hs => ?_⟩
        obtain rfl := Option.some.inj ho
        obtain ⟨hv6, hR6⟩ := (spe hA.2.1 hs26_6 (hp 6 (by kernel_rfl)))
        obtain ⟨hv7, hR7⟩ := (spe hA.2.2 hs26_7 (hp 7 (by kernel_rfl)))
        rw [hA.1, hs26_8]
        refine And.intro (fun a ha => (want_is (j := 6) (t := 161) (r := true) rfl rfl (by kernel_rfl) (((hf 6 161 (by kernel_rfl) rfl).trans hv6).trans (congrArg Value.bool (show (!decide (y30 = y33)) = false from congrArg Bool.not (dec_t q35)))) rfl a ha).trans hon.symm) (And.intro (fun _ => ?_) (fun h => by rw [hon] at h; cases h))
        have hF := fr_next (fr_next (rfl) (((hf 6 161 (by kernel_rfl) rfl).trans hv6).trans (congrArg Value.bool (show (!decide (y30 = y33)) = false from congrArg Bool.not (dec_t q35))))) ((hf 7 162 (by kernel_rfl) rfl).trans hv7)
        refine ls_fr hF ?_
        refine ls_idxv (Ec.int 5 .u8) (A := x18.1) (c := x18.2) (l := t16.1) (k := .i64) (i := (1 : Int)) (z := 1) (ad := ad37) rfl rfl (by kernel_rfl) hA38 rfl (by kernel_rfl) (by kernel_rfl) (by kernel_rfl) (by kernel_rfl) (by decide) q36 ?_
        exact ls_fin s0 _ (congrArg (fun z => upd z 163 _) hF.symm) ⟨rfl, rfl⟩ (sub_nil _)
      obtain ⟨y39, hy40, H⟩ := lt_some H
      obtain ⟨s26_9, hs26_9⟩ := exv (.int .u8 y39)
      refine have_opa shadowboxlaw05_DiskLasts.tab24 6 9 (fun sp => sp 9 = s26_9 ∧ sp 6 = s26_6 ∧ sp 8 = s26_8) (fun sp on hA hon => ?_) (fun ops26_9 => ?_)
      · refine ⟨fun o ho vs Rs f' S' w hp hf hx hS hR hs => ?_⟩
        obtain rfl := Option.some.inj ho
        obtain ⟨hv6, hR6⟩ := (spe hA.2.1 hs26_6 (hp 6 (by kernel_rfl)))
        obtain ⟨hv8, hR8⟩ := (spe hA.2.2 hs26_8 (hp 8 (by kernel_rfl)))
        rw [hA.1, hs26_9]
        refine And.intro (fun a ha => (want_is (j := 6) (t := 161) (r := true) rfl rfl (by kernel_rfl) (((hf 6 161 (by kernel_rfl) rfl).trans hv6).trans (congrArg Value.bool (show (!decide (y30 = y33)) = false from congrArg Bool.not (dec_t q35)))) rfl a ha).trans hon.symm) (And.intro (fun _ => ?_) (fun h => by rw [hon] at h; cases h))
        have hF := fr_next (fr_next (rfl) (((hf 6 161 (by kernel_rfl) rfl).trans hv6).trans (congrArg Value.bool (show (!decide (y30 = y33)) = false from congrArg Bool.not (dec_t q35))))) ((hf 8 163 (by kernel_rfl) rfl).trans hv8)
        refine ls_fr hF ?_
        refine ls_load (a0 := (ad37.add (((1 : Int)).toNat * 1))) (v := .int .u8 ((t16.1).getD ((1 : Int)).toNat (0 : Int))) (de := (TypeDesc.int .u8)) rfl rfl (by kernel_rfl) rfl (by kernel_rfl) (by kernel_rfl) (by kernel_rfl) (fun w1 hs1 => (Rd.step (hs.rod (k := 4) ((hS 4 (by kernel_rfl)).trans (by exact rfl))) hs1.below.bw).at hA38 (em_sub (Ec.int 5 .u8) t16.1 (i := ((1 : Int)).toNat) (by have h0 : (0 : Int) ≤ (1 : Int) := (by decide); have h1 : (1 : Int) < (t16.1.length : Int) := q36; omega))) ?_
        refine ls_ren 164 (v := .int .u8 ((t16.1).getD ((1 : Int)).toNat (0 : Int))) (v' := .int .u8 y39) (by kernel_rfl) (by rw [hy40]) ?_
        exact ls_fin s0 _ ((upd_upd _ _ _ _).trans (congrArg (fun z => upd z 164 _) hF.symm)) ⟨rfl, rfl⟩ (sub_nil _)
      obtain ⟨q41, H⟩ := ite_need H
      obtain ⟨s26_10, hs26_10⟩ := exv (.pointer (some ⟨g19, (0 + ((1 : Int)).toNat), none⟩))
      refine have_opa shadowboxlaw05_DiskLasts.tab24 6 10 (fun sp => sp 10 = s26_10 ∧ sp 6 = s26_6) (fun sp on hA hon => ?_) (fun ops26_10 => ?_)
      · refine ⟨fun o ho vs Rs f' S' w hp hf hx hS hR hs => ?_⟩
        obtain rfl := Option.some.inj ho
        obtain ⟨hv6, hR6⟩ := (spe hA.2 hs26_6 (hp 6 (by kernel_rfl)))
        rw [hA.1, hs26_10]
        refine And.intro (fun a ha => (want_is (j := 6) (t := 161) (r := true) rfl rfl (by kernel_rfl) (((hf 6 161 (by kernel_rfl) rfl).trans hv6).trans (congrArg Value.bool (show (!decide (y30 = y33)) = false from congrArg Bool.not (dec_t q35)))) rfl a ha).trans hon.symm) (And.intro (fun _ => ?_) (fun h => by rw [hon] at h; cases h))
        have hF := fr_next (fr_next (rfl) ((hx 15 (by kernel_rfl)).trans (by kernel_rfl : (_ : Value) = .pointer (some ⟨g19, 0, none⟩)))) (((hf 6 161 (by kernel_rfl) rfl).trans hv6).trans (congrArg Value.bool (show (!decide (y30 = y33)) = false from congrArg Bool.not (dec_t q35))))
        refine ls_fr hF ?_
        refine ls_idxa1 (g := g19) (off := 0) (i := (1 : Int)) (kk := .i64) (ln := 2) (e := 5) rfl rfl (by kernel_rfl) rfl (by kernel_rfl) (by kernel_rfl) (by kernel_rfl) (by kernel_rfl) (by decide) q41 ?_
        exact ls_fin s0 _ (congrArg (fun z => upd z 165 _) hF.symm) ⟨rfl, rfl⟩ (sub_nil _)
      obtain ⟨y42, hy43, H⟩ := lt_some H
      obtain ⟨s26_11, hs26_11⟩ := exv (.int .u8 y42)
      refine have_opa shadowboxlaw05_DiskLasts.tab24 6 11 (fun sp => sp 11 = s26_11 ∧ sp 6 = s26_6 ∧ sp 10 = s26_10) (fun sp on hA hon => ?_) (fun ops26_11 => ?_)
      · refine ⟨fun o ho vs Rs f' S' w hp hf hx hS hR hs => ?_⟩
        obtain rfl := Option.some.inj ho
        obtain ⟨hv6, hR6⟩ := (spe hA.2.1 hs26_6 (hp 6 (by kernel_rfl)))
        obtain ⟨hv10, hR10⟩ := (spe hA.2.2 hs26_10 (hp 10 (by kernel_rfl)))
        rw [hA.1, hs26_11]
        refine And.intro (fun a ha => (want_is (j := 6) (t := 161) (r := true) rfl rfl (by kernel_rfl) (((hf 6 161 (by kernel_rfl) rfl).trans hv6).trans (congrArg Value.bool (show (!decide (y30 = y33)) = false from congrArg Bool.not (dec_t q35)))) rfl a ha).trans hon.symm) (And.intro (fun _ => ?_) (fun h => by rw [hon] at h; cases h))
        have hF := fr_next (fr_next (rfl) (((hf 6 161 (by kernel_rfl) rfl).trans hv6).trans (congrArg Value.bool (show (!decide (y30 = y33)) = false from congrArg Bool.not (dec_t q35))))) ((hf 10 165 (by kernel_rfl) rfl).trans hv10)
        refine ls_fr hF ?_
        refine ls_load (a0 := ⟨g19, (0 + ((1 : Int)).toNat), none⟩) (v := .int .u8 (((l0).getD (x12_5).toNat (vrep 2 (0 : Int))).1.getD ((1 : Int)).toNat (0 : Int))) (de := (TypeDesc.int .u8)) rfl rfl (by kernel_rfl) rfl (by kernel_rfl) (by kernel_rfl) (by kernel_rfl) (fun w1 hs1 => cell_step hs1.below.bw (hs.var (k := 5) ((hS 5 (by kernel_rfl)).trans (by exact rfl)) (Sub4.trans (Sub4.all _) (Sub4.one (i := ((1 : Int)).toNat) (Value.int .u8) ((l0).getD (x12_5).toNat (vrep 2 (0 : Int))).1 0 (by have := ((l0).getD (x12_5).toNat (vrep 2 (0 : Int))).2; omega))))) ?_
        refine ls_ren 166 (v := .int .u8 (((l0).getD (x12_5).toNat (vrep 2 (0 : Int))).1.getD ((1 : Int)).toNat (0 : Int))) (v' := .int .u8 y42) (by kernel_rfl) (by rw [hy43]) ?_
        exact ls_fin s0 _ ((upd_upd _ _ _ _).trans (congrArg (fun z => upd z 166 _) hF.symm)) ⟨rfl, rfl⟩ (sub_nil _)
      refine cs_draw shadowboxlaw05_DiskLasts.tab24 12 6 (spl [s26_0, s26_1, s26_2, s26_3, s26_4, s26_5, s26_6, s26_7, s26_8, s26_9, s26_10, s26_11]) (onl [true, true, true, true, true, true, true, true, true, true, true, true]) (by kernel_rfl) (by kernel_rfl) (by kernel_rfl) (by kernel_rfl) (rs := [_, _, _, _, _, _, _, _]) rfl (by kernel_rfl) (by kernel_rfl) (all_snoc (all_snoc (all_snoc (all_snoc (all_snoc (all_snoc (all_snoc (all_snoc (all_snoc (all_snoc (all_snoc (all_snoc (all_nil) (ops26_0 _ _ rfl rfl)) (ops26_1 _ _ ⟨rfl, rfl⟩ rfl)) (ops26_2 _ _ ⟨rfl, rfl⟩ rfl)) (ops26_3 _ _ rfl rfl)) (ops26_4 _ _ ⟨rfl, rfl⟩ rfl)) (ops26_5 _ _ ⟨rfl, rfl, rfl⟩ rfl)) (ops26_6 _ _ ⟨rfl, rfl⟩ rfl)) (ops26_7 _ _ ⟨rfl, rfl⟩ rfl)) (ops26_8 _ _ ⟨rfl, rfl, rfl⟩ rfl)) (ops26_9 _ _ ⟨rfl, rfl, rfl⟩ rfl)) (ops26_10 _ _ ⟨rfl, rfl⟩ rfl)) (ops26_11 _ _ ⟨rfl, rfl, rfl⟩ rfl)) ?_
      intro vs Rs f' S' hp hf hx hS hR
      obtain ⟨hv6, hR6⟩ := (spe rfl hs26_6 (hp 6 (by kernel_rfl)))
      obtain ⟨hv9, hR9⟩ := (spe rfl hs26_9 (hp 9 (by kernel_rfl)))
      obtain ⟨hv11, hR11⟩ := (spe rfl hs26_11 (hp 11 (by kernel_rfl)))
      refine ls_fr (F := upd (upd (upd (upd (upd (upd (upd (upd (upd (upd f' 0 (.slice A0 l0.length c0)) 1 (.slice A1 l1.length c1)) 2 (.int .i64 y11)) 9 (.int .i64 y4)) 11 (.pointer (some ⟨x15.1, 0, none⟩))) 12 (.int .i64 x12_5)) 13 (.slice x18.1 t16.1.length x18.2)) 161 (.bool (!decide (y30 = y33)))) 164 (.int .u8 y39)) 166 (.int .u8 y42)) (fr_next (fr_next (fr_next (fr_next (fr_next (fr_next (fr_next (fr_next (fr_next (fr_next (rfl) ((hx 0 (by kernel_rfl)).trans (by kernel_rfl : (_ : Value) = .slice A0 l0.length c0))) ((hx 1 (by kernel_rfl)).trans (by kernel_rfl : (_ : Value) = .slice A1 l1.length c1))) ((hx 2 (by kernel_rfl)).trans (by kernel_rfl : (_ : Value) = .int .i64 y11))) ((hx 9 (by kernel_rfl)).trans (by kernel_rfl : (_ : Value) = .int .i64 y4))) ((hx 11 (by kernel_rfl)).trans (by kernel_rfl : (_ : Value) = .pointer (some ⟨x15.1, 0, none⟩)))) ((hx 12 (by kernel_rfl)).trans (by kernel_rfl : (_ : Value) = .int .i64 x12_5))) ((hx 13 (by kernel_rfl)).trans (by kernel_rfl : (_ : Value) = .slice x18.1 t16.1.length x18.2))) ((hf 6 161 (by kernel_rfl) rfl).trans hv6)) ((hf 9 164 (by kernel_rfl) rfl).trans hv9)) ((hf 11 166 (by kernel_rfl) rfl).trans hv11)) ?_
      refine ls_sub (sput (sput (sput s0 2 (some (Ck.var 34 x15.1 (([Value.slice (some ⟨x15.2.2.1, 0, none⟩) x15.2.2.2.2 x15.2.2.2.1] ++ ([Value.map (some x15.2.1)] ++ ([Value.bool t13.1.1.2.2.1] ++ ([Value.int .i64 t13.1.1.2.2.2.1] ++ [Value.bool t13.1.1.2.2.2.2])))))))) 3 (some (Ck.mr T48 x15.2.1 x15.2.2.1 x15.2.2.2.1 x15.2.2.2.2 t13.1.2))) 4 (some (Ck.ro (Ec.int 5 .u8) x18.1 x18.2 t16.1))) (sub_put ((hS 4 (by kernel_rfl)).trans (by exact rfl)) (sub_put ((hS 3 (by kernel_rfl)).trans (by exact rfl)) (sub_put ((hS 2 (by kernel_rfl)).trans (by exact rfl)) (sub_nil _)))) ?_
      refine ls_know (c := false) (congrArg Bool.not (dec_t q35)) 161 (by kernel_rfl) ?_
      refine ls_on (j := 6) (t := 161) (b := false) rfl rfl (by kernel_rfl) (by kernel_rfl) ?_
      refine lv (.bool (!decide (y39 = y42))) ?_
      refine lv (.bool (!decide (y39 = y42))) ?_
      refine lv (.bool (!decide (y39 = y42))) ?_
      by_cases q44 : y39 = y42
      · replace H := ite_t q44 H
        refine ls_know (c := false) (congrArg Bool.not (dec_t q44)) 169 (by kernel_rfl) ?_
        refine ls_on (j := 14) (t := 169) (b := false) rfl rfl (by kernel_rfl) (by kernel_rfl) ?_
        refine lv (.slice x18.1 t16.1.length x18.2) ?_
        refine ls_on (j := 14) (t := 169) (b := false) rfl rfl (by kernel_rfl) (by kernel_rfl) ?_
        obtain ⟨q45, H⟩ := ite_need H
        refine ls_atro (T := (Ec.int 5 .u8)) (tk := 4) (i := (2 : Int)) (by exact rfl) (by decide) q45 ?_
        intro ad46 hA47
        refine ls_idxv (Ec.int 5 .u8) (A := x18.1) (c := x18.2) (l := t16.1) (k := .i64) (i := (2 : Int)) (z := 1) (ad := ad46) rfl rfl (by kernel_rfl) hA47 rfl (by kernel_rfl) (by kernel_rfl) (by kernel_rfl) (by kernel_rfl) (by decide) q45 ?_
        refine ls_on (j := 14) (t := 169) (b := false) rfl rfl (by kernel_rfl) (by kernel_rfl) ?_
        obtain ⟨y48, hy49, H⟩ := lt_some H
        refine ls_load (a0 := (ad46.add (((2 : Int)).toNat * 1))) (v := .int .u8 ((t16.1).getD ((2 : Int)).toNat (0 : Int))) (de := (TypeDesc.int .u8)) rfl rfl (by kernel_rfl) rfl (by kernel_rfl) (by kernel_rfl) (by kernel_rfl) (fun w hs => (hs.rod (k := 4) (by exact rfl)).at hA47 (em_sub (Ec.int 5 .u8) t16.1 (i := ((2 : Int)).toNat) (by have h0 : (0 : Int) ≤ (2 : Int) := (by decide); have h1 : (2 : Int) < (t16.1.length : Int) := q45; omega))) ?_
        refine ls_ren 172 (v := .int .u8 ((t16.1).getD ((2 : Int)).toNat (0 : Int))) (v' := .int .u8 y48) (by kernel_rfl) (by rw [hy49]) ?_
        refine ls_on (j := 14) (t := 169) (b := false) rfl rfl (by kernel_rfl) (by kernel_rfl) ?_
        refine lv (.bool (!decide (y48 = (0 : Int)))) ?_
        refine lv (.bool (!decide (y48 = (0 : Int)))) ?_
        refine ls_end ?_
        refine qn_then ?_
        by_cases q50 : y48 = (0 : Int)
        · replace H := ite_t q50 H
          refine cs_know (c := false) (congrArg Bool.not (dec_t q50)) 174 (by kernel_rfl) ?_
          refine cs_false (by kernel_rfl) ?_
          refine cs_skip' ?_
          refine qn_block ?_
          refine qn_then ?_
          refine cs_region (l := [_, _, _]) ?_
          refine lv (.int .i64 x12_5) ?_
          refine lv (.int .i64 (IntKind.wrap .i64 (x12_5 + (1 : Int)))) ?_
          refine lv (.int .i64 (IntKind.wrap .i64 (x12_5 + (1 : Int)))) ?_
          refine ls_end ?_
          refine qn_again k5 (sput (sput s0 2 (some (Ck.var 34 x15.1 (([Value.slice (some ⟨x15.2.2.1, 0, none⟩) x15.2.2.2.2 x15.2.2.2.1] ++ ([Value.map (some x15.2.1)] ++ ([Value.bool t13.1.1.2.2.1] ++ ([Value.int .i64 t13.1.1.2.2.2.1] ++ [Value.bool t13.1.1.2.2.2.2])))))))) 3 (some (Ck.mr T48 x15.2.1 x15.2.2.1 x15.2.2.2.1 x15.2.2.2.2 t13.1.2))) (Nat.le_refl _) ⟨_, (IntKind.wrap .i64 (x12_5 + (1 : Int))), fr_next (fr_next (fr_next (fr_next (fr_next (fr_next (rfl) (by kernel_rfl)) (by kernel_rfl)) (by kernel_rfl)) (by kernel_rfl)) (by kernel_rfl)) (by kernel_rfl), rfl, H⟩ (sub_put (by exact rfl) (sub_put (by exact rfl) (sub_nil _)))
        replace H := ite_f q50 H
        refine cs_know (c := true) (congrArg Bool.not (dec_f q50)) 174 (by kernel_rfl) ?_
        refine cs_true (by kernel_rfl) ?_
        refine cs_seq ?_
        refine cs_region (l := [_]) ?_
        refine lv (.bool false) ?_
        refine ls_end ?_
        refine qn_then ?_
        refine cs_ret' ?_
        refine qr_block ?_
        refine qr_then ?_
        refine qr_then ?_
        refine qr_block ?_
        refine qr_then ?_
        obtain rfl := Option.some.inj H
        refine qr_res (rs := [_]) rfl (fun w' hs => ⟨[.bool false], (res_tmp (by kernel_rfl) (.nil)), (), rfl, hs.pick (ts := []) (cs := []) trivial (by decide)⟩)
      replace H := ite_f q44 H
      refine ls_know (c := true) (congrArg Bool.not (dec_f q44)) 169 (by kernel_rfl) ?_
      refine lofx 14 169 false true ?_
      refine lofx 14 169 false true ?_
      refine lofx 14 169 false true ?_
      refine lofx 14 169 false true ?_
      refine lv (.bool true) ?_
      refine ls_end ?_
      refine qn_then ?_
      refine cs_true (by kernel_rfl) ?_
      refine cs_seq ?_
      refine cs_region (l := [_]) ?_
      refine lv (.bool false) ?_
      refine ls_end ?_
      refine qn_then ?_
      refine cs_ret' ?_
      refine qr_block ?_
      refine qr_then ?_
      refine qr_then ?_
      refine qr_block ?_
      refine qr_then ?_
      obtain rfl := Option.some.inj H
      refine qr_res (rs := [_]) rfl (fun w' hs => ⟨[.bool false], (res_tmp (by kernel_rfl) (.nil)), (), rfl, hs.pick (ts := []) (cs := []) trivial (by decide)⟩)
    replace H := ite_f q35 H
    refine cs_draw shadowboxlaw05_DiskLasts.tab24 12 6 (spl [s26_0, s26_1, s26_2, s26_3, s26_4, s26_5, s26_6, spu, spu, spu, spu, spu]) (onl [true, true, true, true, true, true, true, false, false, false, false, false]) (by kernel_rfl) (by kernel_rfl) (by kernel_rfl) (by kernel_rfl) (rs := [_, _, _, _, _, _, _, _]) rfl (by kernel_rfl) (by kernel_rfl) (all_snoc (all_snoc (all_snoc (all_snoc (all_snoc (all_snoc (all_snoc (all_snoc (all_snoc (all_snoc (all_snoc (all_snoc (all_nil) (ops26_0 _ _ rfl rfl)) (ops26_1 _ _ ⟨rfl, rfl⟩ rfl)) (ops26_2 _ _ ⟨rfl, rfl⟩ rfl)) (ops26_3 _ _ rfl rfl)) (ops26_4 _ _ ⟨rfl, rfl⟩ rfl)) (ops26_5 _ _ ⟨rfl, rfl, rfl⟩ rfl)) (ops26_6 _ _ ⟨rfl, rfl⟩ rfl)) (op_offi 7 6 161 false rfl rfl (by kernel_rfl) (by kernel_rfl) rfl (fun v R h => by rw [hs26_6] at h; obtain ⟨h, _⟩ := h; exact h.trans (congrArg Value.bool (show (!decide (y30 = y33)) = true from congrArg Bool.not (dec_f q35)))) rfl rfl)) (op_offi 8 6 161 false rfl rfl (by kernel_rfl) (by kernel_rfl) rfl (fun v R h => by rw [hs26_6] at h; obtain ⟨h, _⟩ := h; exact h.trans (congrArg Value.bool (show (!decide (y30 = y33)) = true from congrArg Bool.not (dec_f q35)))) rfl rfl)) (op_offi 9 6 161 false rfl rfl (by kernel_rfl) (by kernel_rfl) rfl (fun v R h => by rw [hs26_6] at h; obtain ⟨h, _⟩ := h; exact h.trans (congrArg Value.bool (show (!decide (y30 = y33)) = true from congrArg Bool.not (dec_f q35)))) rfl rfl)) (op_offi 10 6 161 false rfl rfl (by kernel_rfl) (by kernel_rfl) rfl (fun v R h => by rw [hs26_6] at h; obtain ⟨h, _⟩ := h; exact h.trans (congrArg Value.bool (show (!decide (y30 = y33)) = true from congrArg Bool.not (dec_f q35)))) rfl rfl)) (op_offi 11 6 161 false rfl rfl (by kernel_rfl) (by kernel_rfl) rfl (fun v R h => by rw [hs26_6] at h; obtain ⟨h, _⟩ := h; exact h.trans (congrArg Value.bool (show (!decide (y30 = y33)) = true from congrArg Bool.not (dec_f q35)))) rfl rfl)) ?_
    intro vs Rs f' S' hp hf hx hS hR
    obtain ⟨hv6, hR6⟩ := (spe rfl hs26_6 (hp 6 (by kernel_rfl)))
    obtain ⟨hv9, hR9⟩ := (spe rfl rfl (hp 9 (by kernel_rfl)) : spu _ _)
    obtain ⟨hv11, hR11⟩ := (spe rfl rfl (hp 11 (by kernel_rfl)) : spu _ _)
    refine ls_fr (F := upd (upd (upd (upd (upd (upd (upd (upd f' 0 (.slice A0 l0.length c0)) 1 (.slice A1 l1.length c1)) 2 (.int .i64 y11)) 9 (.int .i64 y4)) 11 (.pointer (some ⟨x15.1, 0, none⟩))) 12 (.int .i64 x12_5)) 13 (.slice x18.1 t16.1.length x18.2)) 161 (.bool (!decide (y30 = y33)))) (fr_next (fr_next (fr_next (fr_next (fr_next (fr_next (fr_next (fr_next (rfl) ((hx 0 (by kernel_rfl)).trans (by kernel_rfl : (_ : Value) = .slice A0 l0.length c0))) ((hx 1 (by kernel_rfl)).trans (by kernel_rfl : (_ : Value) = .slice A1 l1.length c1))) ((hx 2 (by kernel_rfl)).trans (by kernel_rfl : (_ : Value) = .int .i64 y11))) ((hx 9 (by kernel_rfl)).trans (by kernel_rfl : (_ : Value) = .int .i64 y4))) ((hx 11 (by kernel_rfl)).trans (by kernel_rfl : (_ : Value) = .pointer (some ⟨x15.1, 0, none⟩)))) ((hx 12 (by kernel_rfl)).trans (by kernel_rfl : (_ : Value) = .int .i64 x12_5))) ((hx 13 (by kernel_rfl)).trans (by kernel_rfl : (_ : Value) = .slice x18.1 t16.1.length x18.2))) ((hf 6 161 (by kernel_rfl) rfl).trans hv6)) ?_
    refine ls_sub (sput (sput (sput s0 2 (some (Ck.var 34 x15.1 (([Value.slice (some ⟨x15.2.2.1, 0, none⟩) x15.2.2.2.2 x15.2.2.2.1] ++ ([Value.map (some x15.2.1)] ++ ([Value.bool t13.1.1.2.2.1] ++ ([Value.int .i64 t13.1.1.2.2.2.1] ++ [Value.bool t13.1.1.2.2.2.2])))))))) 3 (some (Ck.mr T48 x15.2.1 x15.2.2.1 x15.2.2.2.1 x15.2.2.2.2 t13.1.2))) 4 (some (Ck.ro (Ec.int 5 .u8) x18.1 x18.2 t16.1))) (sub_put ((hS 4 (by kernel_rfl)).trans (by exact rfl)) (sub_put ((hS 3 (by kernel_rfl)).trans (by exact rfl)) (sub_put ((hS 2 (by kernel_rfl)).trans (by exact rfl)) (sub_nil _)))) ?_
    refine ls_know (c := true) (congrArg Bool.not (dec_f q35)) 161 (by kernel_rfl) ?_
    refine lofx 6 161 false true ?_
    refine lv (.bool true) ?_
    refine lv (.bool true) ?_
    refine lofx 14 169 false true ?_
    refine lofx 14 169 false true ?_
    refine lofx 14 169 false true ?_
    refine lofx 14 169 false true ?_
    refine lv (.bool true) ?_
    refine ls_end ?_
    refine qn_then ?_
    refine cs_true (by kernel_rfl) ?_
    refine cs_seq ?_
    refine cs_region (l := [_]) ?_
    refine lv (.bool false) ?_
    refine ls_end ?_
    refine qn_then ?_
    refine cs_ret' ?_
    refine qr_block ?_
    refine qr_then ?_
    refine qr_then ?_
    refine qr_block ?_
    refine qr_then ?_
    obtain rfl := Option.some.inj H
    refine qr_res (rs := [_]) rfl (fun w' hs => ⟨[.bool false], (res_tmp (by kernel_rfl) (.nil)), (), rfl, hs.pick (ts := []) (cs := []) trivial (by decide)⟩)
  replace H := ite_f q20 H
  refine cs_know (c := false) (dec_f q20) 117 (by kernel_rfl) ?_
  refine cs_false (by kernel_rfl) ?_
  refine cs_cut (fun f S => ∃ (fR : Fr) (x132_8 : Bool), f = upd (upd (upd (upd (upd (upd (upd (upd (upd fR 0 (.slice A0 l0.length c0)) 1 (.slice A1 l1.length c1)) 2 (.int .i64 y11)) 9 (.int .i64 y4)) 11 (.pointer (some ⟨x15.1, 0, none⟩))) 12 (.int .i64 x12_5)) 13 (.slice x18.1 t16.1.length x18.2)) 15 (.pointer (some ⟨g19, 0, none⟩))) 132 (.bool x132_8) ∧ S = sput (sput (sput (sput s0 2 (some (Ck.var 34 x15.1 (([Value.slice (some ⟨x15.2.2.1, 0, none⟩) x15.2.2.2.2 x15.2.2.2.1] ++ ([Value.map (some x15.2.1)] ++ ([Value.bool t13.1.1.2.2.1] ++ ([Value.int .i64 t13.1.1.2.2.2.1] ++ [Value.bool t13.1.1.2.2.2.2])))))))) 3 (some (Ck.mr T48 x15.2.1 x15.2.2.1 x15.2.2.2.1 x15.2.2.2.2 t13.1.2))) 4 (some (Ck.ro (Ec.int 5 .u8) x18.1 x18.2 t16.1))) 5 (some (Ck.var 43 g19 (en (Value.int .u8) (⟨[(0 : Int), (0 : Int)], rfl⟩ : (Vc Int 2)).1))) ∧ shadowboxlaw05_DiskLasts.jo8 l0 l1 y11 x12_5 k5 t16 (shadowboxlaw05_DiskLasts.lo5 l0 l1 y4 y11 t13 k5) x132_8 = some r) ?_ ?_
  · skip
    refine cs_region (l := [_, _, _, _, _, _, _, _, _, _, _]) ?_
    refine lv (.int .i64 x12_5) ?_
    refine lv (.int .i64 y4) ?_
    refine lv (.bool (decide (x12_5 < y4))) ?_
    refine lv (.bool (decide (x12_5 < y4))) ?_
    by_cases q147 : x12_5 < y4
    · replace H := ite_t q147 H
      refine ls_know (c := true) (dec_t q147) 125 (by kernel_rfl) ?_
      refine ls_on (j := 3) (t := 125) (b := true) rfl rfl (by kernel_rfl) (by kernel_rfl) ?_
      refine lv (.int .i64 x12_5) ?_
      refine ls_on (j := 3) (t := 125) (b := true) rfl rfl (by kernel_rfl) (by kernel_rfl) ?_
      refine lv (.int .i64 y11) ?_
      refine ls_on (j := 3) (t := 125) (b := true) rfl rfl (by kernel_rfl) (by kernel_rfl) ?_
      refine lv (.int .i64 (IntKind.wrap .i64 (x12_5 - y11))) ?_
      refine ls_on (j := 3) (t := 125) (b := true) rfl rfl (by kernel_rfl) (by kernel_rfl) ?_
      refine lv (.slice A1 l1.length c1) ?_
      refine ls_on (j := 3) (t := 125) (b := true) rfl rfl (by kernel_rfl) (by kernel_rfl) ?_
      refine lv (.int .i64 (l1.length : Int)) ?_
      refine ls_on (j := 3) (t := 125) (b := true) rfl rfl (by kernel_rfl) (by kernel_rfl) ?_
      refine lv (.bool (decide ((IntKind.wrap .i64 (x12_5 - y11)) < (l1.length : Int)))) ?_
      refine lv (.bool (decide ((IntKind.wrap .i64 (x12_5 - y11)) < (l1.length : Int)))) ?_
      refine ls_end ?_
      refine qn_meet (sput (sput (sput (sput s0 2 (some (Ck.var 34 x15.1 (([Value.slice (some ⟨x15.2.2.1, 0, none⟩) x15.2.2.2.2 x15.2.2.2.1] ++ ([Value.map (some x15.2.1)] ++ ([Value.bool t13.1.1.2.2.1] ++ ([Value.int .i64 t13.1.1.2.2.2.1] ++ [Value.bool t13.1.1.2.2.2.2])))))))) 3 (some (Ck.mr T48 x15.2.1 x15.2.2.1 x15.2.2.2.1 x15.2.2.2.2 t13.1.2))) 4 (some (Ck.ro (Ec.int 5 .u8) x18.1 x18.2 t16.1))) 5 (some (Ck.var 43 g19 (en (Value.int .u8) (⟨[(0 : Int), (0 : Int)], rfl⟩ : (Vc Int 2)).1)))) ⟨_, (decide ((IntKind.wrap .i64 (x12_5 - y11)) < (l1.length : Int))), fr_next (fr_next (fr_next (fr_next (fr_next (fr_next (fr_next (fr_next (fr_next (rfl) (by kernel_rfl)) (by kernel_rfl)) (by kernel_rfl)) (by kernel_rfl)) (by kernel_rfl)) (by kernel_rfl)) (by kernel_rfl)) (by kernel_rfl)) (by kernel_rfl), rfl, H⟩ (sub_put (by exact rfl) (sub_put (by exact rfl) (sub_put (by exact rfl) (sub_put (by exact rfl) (sub_nil _)))))
    replace H := ite_f q147 H
    refine ls_know (c := false) (dec_f q147) 125 (by kernel_rfl) ?_
    refine lofx 3 125 true false ?_
    refine lofx 3 125 true false ?_
    refine lofx 3 125 true false ?_
    refine lofx 3 125 true false ?_
    refine lofx 3 125 true false ?_
    refine lofx 3 125 true false ?_
    refine lv (.bool false) ?_
    refine ls_end ?_
    refine qn_meet (sput (sput (sput (sput s0 2 (some (Ck.var 34 x15.1 (([Value.slice (some ⟨x15.2.2.1, 0, none⟩) x15.2.2.2.2 x15.2.2.2.1] ++ ([Value.map (some x15.2.1)] ++ ([Value.bool t13.1.1.2.2.1] ++ ([Value.int .i64 t13.1.1.2.2.2.1] ++ [Value.bool t13.1.1.2.2.2.2])))))))) 3 (some (Ck.mr T48 x15.2.1 x15.2.2.1 x15.2.2.2.1 x15.2.2.2.2 t13.1.2))) 4 (some (Ck.ro (Ec.int 5 .u8) x18.1 x18.2 t16.1))) 5 (some (Ck.var 43 g19 (en (Value.int .u8) (⟨[(0 : Int), (0 : Int)], rfl⟩ : (Vc Int 2)).1)))) ⟨_, false, fr_next (fr_next (fr_next (fr_next (fr_next (fr_next (fr_next (fr_next (fr_next (rfl) (by kernel_rfl)) (by kernel_rfl)) (by kernel_rfl)) (by kernel_rfl)) (by kernel_rfl)) (by kernel_rfl)) (by kernel_rfl)) (by kernel_rfl)) (by kernel_rfl), rfl, H⟩ (sub_put (by exact rfl) (sub_put (by exact rfl) (sub_put (by exact rfl) (sub_put (by exact rfl) (sub_nil _)))))
  rintro f S ⟨fr8, x132_8, rfl, rfl, H⟩
  replace H : ((if x132_8 = true then shadowboxlaw05_DiskLasts.lo9 l0 l1 y11 x12_5 t16 (shadowboxlaw05_DiskLasts.lo5 l0 l1 y4 y11 t13 k5) k5 (0 : Int) (⟨[(0 : Int), (0 : Int)], rfl⟩ : (Vc Int 2)) else (if (0 : Int) < (t16.1.length : Int) then lt (((t16.1).getD ((0 : Int)).toNat (0 : Int))) fun y126 => (if (0 : Int) < (2 : Int) then lt (((⟨[(0 : Int), (0 : Int)], rfl⟩ : (Vc Int 2)).1.getD ((0 : Int)).toNat (0 : Int))) fun y129 => (if y126 = y129 then (if (1 : Int) < (t16.1.length : Int) then lt (((t16.1).getD ((1 : Int)).toNat (0 : Int))) fun y135 => (if (1 : Int) < (2 : Int) then lt (((⟨[(0 : Int), (0 : Int)], rfl⟩ : (Vc Int 2)).1.getD ((1 : Int)).toNat (0 : Int))) fun y138 => (if y135 = y138 then (if (2 : Int) < (t16.1.length : Int) then lt (((t16.1).getD ((2 : Int)).toNat (0 : Int))) fun y144 => (if y144 = (0 : Int) then (shadowboxlaw05_DiskLasts.lo5 l0 l1 y4 y11 t13 k5) (IntKind.wrap .i64 (x12_5 + (1 : Int))) else some false) else none) else some false) else none) else none) else some false) else none) else none))) = some r := H
  by_cases q51 : x132_8 = true
  · replace H := ite_t q51 H
    refine cs_know (c := true) (q51) 132 (by kernel_rfl) ?_
    refine cs_true (by kernel_rfl) ?_
    refine cs_seq ?_
    refine cs_region (l := [_]) ?_
    refine lv (.int .i64 (0 : Int)) ?_
    refine ls_end ?_
    refine qn_then ?_
    refine cs_block ?_
    refine cs_sub (sput (sput (sput (sput s0 2 (some (Ck.var 34 x15.1 (([Value.slice (some ⟨x15.2.2.1, 0, none⟩) x15.2.2.2.2 x15.2.2.2.1] ++ ([Value.map (some x15.2.1)] ++ ([Value.bool t13.1.1.2.2.1] ++ ([Value.int .i64 t13.1.1.2.2.2.1] ++ [Value.bool t13.1.1.2.2.2.2])))))))) 3 (some (Ck.mr T48 x15.2.1 x15.2.2.1 x15.2.2.2.1 x15.2.2.2.2 t13.1.2))) 4 (some (Ck.ro (Ec.int 5 .u8) x18.1 x18.2 t16.1))) 5 (some (Ck.var 43 g19 (en (Value.int .u8) (⟨[(0 : Int), (0 : Int)], rfl⟩ : (Vc Int 2)).1)))) (sub_put (by exact rfl) (sub_put (by exact rfl) (sub_put (by exact rfl) (sub_put (by exact rfl) (sub_nil _))))) ?_
    refine cs_loop (fun kk f S => ∃ (fR : Fr) (x16_9 : Int) (m5_9 : (Vc Int 2)), f = upd (upd (upd (upd (upd (upd (upd (upd (upd fR 0 (.slice A0 l0.length c0)) 1 (.slice A1 l1.length c1)) 2 (.int .i64 y11)) 9 (.int .i64 y4)) 11 (.pointer (some ⟨x15.1, 0, none⟩))) 12 (.int .i64 x12_5)) 13 (.slice x18.1 t16.1.length x18.2)) 15 (.pointer (some ⟨g19, 0, none⟩))) 16 (.int .i64 x16_9) ∧ S = sput (sput (sput (sput s0 2 (some (Ck.var 34 x15.1 (([Value.slice (some ⟨x15.2.2.1, 0, none⟩) x15.2.2.2.2 x15.2.2.2.1] ++ ([Value.map (some x15.2.1)] ++ ([Value.bool t13.1.1.2.2.1] ++ ([Value.int .i64 t13.1.1.2.2.2.1] ++ [Value.bool t13.1.1.2.2.2.2])))))))) 3 (some (Ck.mr T48 x15.2.1 x15.2.2.1 x15.2.2.2.1 x15.2.2.2.2 t13.1.2))) 4 (some (Ck.ro (Ec.int 5 .u8) x18.1 x18.2 t16.1))) 5 (some (Ck.var 43 g19 (en (Value.int .u8) m5_9.1))) ∧ shadowboxlaw05_DiskLasts.lo9 l0 l1 y11 x12_5 t16 (shadowboxlaw05_DiskLasts.lo5 l0 l1 y4 y11 t13 k5) kk x16_9 m5_9 = some r) k5 ?_ ?_ ?_
    · exact ⟨_, (0 : Int), (⟨[(0 : Int), (0 : Int)], rfl⟩ : (Vc Int 2)), fr_next (fr_next (fr_next (fr_next (fr_next (fr_next (fr_next (fr_next (fr_next (rfl) (by kernel_rfl)) (by kernel_rfl)) (by kernel_rfl)) (by kernel_rfl)) (by kernel_rfl)) (by kernel_rfl)) (by kernel_rfl)) (by kernel_rfl)) (by kernel_rfl), rfl, H⟩
    · rintro f S ⟨fr9, x16_9, m5_9, rfl, rfl, H⟩; cases H
    rintro k9 f S ⟨fr9, x16_9, m5_9, rfl, rfl, H⟩
    replace H : ((if x16_9 < (2 : Int) then (if 0 ≤ IntKind.wrap .i64 (x12_5 - y11) then (if IntKind.wrap .i64 (x12_5 - y11) < (l1.length : Int) then lt (((l1).getD (IntKind.wrap .i64 (x12_5 - y11)).toNat (0 : Int))) fun y57 => (if x16_9 < y57 then (if 0 ≤ x12_5 then (if x12_5 < (l0.length : Int) then (if 0 ≤ x16_9 then lt ((((l0).getD (x12_5).toNat (vrep 2 (0 : Int))).1.getD (x16_9).toNat (0 : Int))) fun y65 => lt (vset m5_9 (x16_9).toNat y65) fun y67 => (shadowboxlaw05_DiskLasts.lo9 l0 l1 y11 x12_5 t16 (shadowboxlaw05_DiskLasts.lo5 l0 l1 y4 y11 t13 k5) k9) (IntKind.wrap .i64 (x16_9 + (1 : Int))) y67 else none) else none) else none) else (if (0 : Int) < (t16.1.length : Int) then lt (((t16.1).getD ((0 : Int)).toNat (0 : Int))) fun y74 => (if (0 : Int) < (2 : Int) then lt ((m5_9.1.getD ((0 : Int)).toNat (0 : Int))) fun y77 => (if y74 = y77 then (if (1 : Int) < (t16.1.length : Int) then lt (((t16.1).getD ((1 : Int)).toNat (0 : Int))) fun y83 => (if (1 : Int) < (2 : Int) then lt ((m5_9.1.getD ((1 : Int)).toNat (0 : Int))) fun y86 => (if y83 = y86 then (if (2 : Int) < (t16.1.length : Int) then lt (((t16.1).getD ((2 : Int)).toNat (0 : Int))) fun y92 => (if y92 = (0 : Int) then (shadowboxlaw05_DiskLasts.lo5 l0 l1 y4 y11 t13 k5) (IntKind.wrap .i64 (x12_5 + (1 : Int))) else some false) else none) else some false) else none) else none) else some false) else none) else none)) else none) else none) else (if (0 : Int) < (t16.1.length : Int) then lt (((t16.1).getD ((0 : Int)).toNat (0 : Int))) fun y100 => (if (0 : Int) < (2 : Int) then lt ((m5_9.1.getD ((0 : Int)).toNat (0 : Int))) fun y103 => (if y100 = y103 then (if (1 : Int) < (t16.1.length : Int) then lt (((t16.1).getD ((1 : Int)).toNat (0 : Int))) fun y109 => (if (1 : Int) < (2 : Int) then lt ((m5_9.1.getD ((1 : Int)).toNat (0 : Int))) fun y112 => (if y109 = y112 then (if (2 : Int) < (t16.1.length : Int) then lt (((t16.1).getD ((2 : Int)).toNat (0 : Int))) fun y118 => (if y118 = (0 : Int) then (shadowboxlaw05_DiskLasts.lo5 l0 l1 y4 y11 t13 k5) (IntKind.wrap .i64 (x12_5 + (1 : Int))) else some false) else none) else some false) else none) else none) else some false) else none) else none))) = some r := H
    refine cs_seq ?_
    refine cs_seq ?_
    refine cs_region (l := [_, _, _, _, _, _, _, _, _, _, _, _]) ?_
    refine lv (.int .i64 x16_9) ?_
    refine lv (.bool (decide (x16_9 < (2 : Int)))) ?_
    refine lv (.bool (decide (x16_9 < (2 : Int)))) ?_
    by_cases q52 : x16_9 < (2 : Int)
    · replace H := ite_t q52 H
      refine ls_know (c := true) (dec_t q52) 135 (by kernel_rfl) ?_
      refine ls_on (j := 2) (t := 135) (b := true) rfl rfl (by kernel_rfl) (by kernel_rfl) ?_
      refine lv (.int .i64 x16_9) ?_
      refine ls_on (j := 2) (t := 135) (b := true) rfl rfl (by kernel_rfl) (by kernel_rfl) ?_
      refine lv (.slice A1 l1.length c1) ?_
      refine ls_on (j := 2) (t := 135) (b := true) rfl rfl (by kernel_rfl) (by kernel_rfl) ?_
      refine lv (.int .i64 x12_5) ?_
      refine ls_on (j := 2) (t := 135) (b := true) rfl rfl (by kernel_rfl) (by kernel_rfl) ?_
      refine lv (.int .i64 y11) ?_
      refine ls_on (j := 2) (t := 135) (b := true) rfl rfl (by kernel_rfl) (by kernel_rfl) ?_
      refine lv (.int .i64 (IntKind.wrap .i64 (x12_5 - y11))) ?_
      refine ls_on (j := 2) (t := 135) (b := true) rfl rfl (by kernel_rfl) (by kernel_rfl) ?_
      obtain ⟨q53, H⟩ := ite_need H
      obtain ⟨q54, H⟩ := ite_need H
      obtain ⟨ad55, hA56⟩ := ido_at (T := (Ec.int 3 .i64)) (l := l1) (i := IntKind.wrap .i64 (x12_5 - y11)) R1 q53 q54
      refine ls_idxv (Ec.int 3 .i64) (A := A1) (c := c1) (l := l1) (k := .i64) (i := IntKind.wrap .i64 (x12_5 - y11)) (z := 1) (ad := ad55) rfl rfl (by kernel_rfl) hA56 rfl (by kernel_rfl) (by kernel_rfl) (by kernel_rfl) (by kernel_rfl) q53 q54 ?_
      refine ls_on (j := 2) (t := 135) (b := true) rfl rfl (by kernel_rfl) (by kernel_rfl) ?_
      obtain ⟨y57, hy58, H⟩ := lt_some H
      refine ls_load (a0 := (ad55.add ((IntKind.wrap .i64 (x12_5 - y11)).toNat * 1))) (v := .int .i64 ((l1).getD (IntKind.wrap .i64 (x12_5 - y11)).toNat (0 : Int))) (de := (TypeDesc.int .i64)) rfl rfl (by kernel_rfl) rfl (by kernel_rfl) (by kernel_rfl) (by kernel_rfl) (fun w hs => (hs.old R1).at hA56 (em_sub (Ec.int 3 .i64) l1 (i := (IntKind.wrap .i64 (x12_5 - y11)).toNat) (by have h0 : (0 : Int) ≤ IntKind.wrap .i64 (x12_5 - y11) := q53; have h1 : IntKind.wrap .i64 (x12_5 - y11) < (l1.length : Int) := q54; omega))) ?_
      refine ls_ren 142 (v := .int .i64 ((l1).getD (IntKind.wrap .i64 (x12_5 - y11)).toNat (0 : Int))) (v' := .int .i64 y57) (by kernel_rfl) (by rw [hy58]) ?_
      refine ls_on (j := 2) (t := 135) (b := true) rfl rfl (by kernel_rfl) (by kernel_rfl) ?_
      refine lv (.bool (decide (x16_9 < y57))) ?_
      refine lv (.bool (decide (x16_9 < y57))) ?_
      refine ls_end ?_
      refine qn_then ?_
      by_cases q59 : x16_9 < y57
      · replace H := ite_t q59 H
        refine cs_know (c := true) (dec_t q59) 144 (by kernel_rfl) ?_
        refine cs_true (by kernel_rfl) ?_
        refine cs_skip' ?_
        refine qn_then ?_
        refine cs_seq ?_
        refine cs_block ?_
        refine cs_region (l := [_, _, _, _, _, _, _, _, _]) ?_
        refine lv (.int .i64 x16_9) ?_
        refine lv (.slice A0 l0.length c0) ?_
        refine lv (.int .i64 x12_5) ?_
        refine lv (.int .i64 x16_9) ?_
        obtain ⟨q60, H⟩ := ite_need H
        obtain ⟨q61, H⟩ := ite_need H
        obtain ⟨ad62, hA63⟩ := ido_at (T := T43) (l := l0) (i := x12_5) R0 q60 q61
        refine ls_idxv T43 (A := A0) (c := c0) (l := l0) (k := .i64) (i := x12_5) (z := 2) (ad := ad62) rfl rfl (by kernel_rfl) hA63 rfl (by kernel_rfl) (by kernel_rfl) (by kernel_rfl) (by kernel_rfl) q60 q61 ?_
        obtain ⟨q64, H⟩ := ite_need H
        refine ls_idxma (ad := ad62) (off := ((x12_5).toNat * 2)) (k := .i64) (i := x16_9) (ln := 2) (e := 5) rfl rfl (by kernel_rfl) rfl (by kernel_rfl) (by kernel_rfl) (by kernel_rfl) (by kernel_rfl) q64 q52 ?_
        obtain ⟨y65, hy66, H⟩ := lt_some H
        refine ls_load (a0 := (ad62.add (((x12_5).toNat * 2) + (x16_9).toNat))) (v := .int .u8 (((l0).getD (x12_5).toNat (vrep 2 (0 : Int))).1.getD (x16_9).toNat (0 : Int))) (de := (TypeDesc.int .u8)) rfl rfl (by kernel_rfl) rfl (by kernel_rfl) (by kernel_rfl) (by kernel_rfl) (fun w hs => (hs.old R0).at hA63 (Sub4.trans (em_sub T43 l0 (i := (x12_5).toNat) (by have h0 : (0 : Int) ≤ x12_5 := q60; have h1 : x12_5 < (l0.length : Int) := q61; omega)) (Sub4.one (i := (x16_9).toNat) (Value.int .u8) ((l0).getD (x12_5).toNat (vrep 2 (0 : Int))).1 0 (by have := ((l0).getD (x12_5).toNat (vrep 2 (0 : Int))).2; omega)))) ?_
        refine ls_ren 153 (v := .int .u8 (((l0).getD (x12_5).toNat (vrep 2 (0 : Int))).1.getD (x16_9).toNat (0 : Int))) (v' := .int .u8 y65) (by kernel_rfl) (by rw [hy66]) ?_
        refine ls_idxa1 (g := g19) (off := 0) (i := x16_9) (kk := .i64) (ln := 2) (e := 5) rfl rfl (by kernel_rfl) rfl (by kernel_rfl) (by kernel_rfl) (by kernel_rfl) (by kernel_rfl) q64 q52 ?_
        obtain ⟨y67, hy68, H⟩ := lt_some H
        refine ls_storec (g := g19) (off := (0 + (x16_9).toNat)) (v := .int .u8 y65) (vs := [Value.int .u8 y65]) (cs := en (Value.int .u8) m5_9.1) (ty := 43) 5 rfl rfl rfl (by kernel_rfl) (by kernel_rfl) (by kernel_rfl) (by exact rfl) (by kernel_rfl) (len1 _) (one_cons rfl one_nil) (hl_of (Sub4.trans (Sub4.all _) (Sub4.one (i := (x16_9).toNat) (Value.int .u8) m5_9.1 0 (by have := m5_9.2; omega))) (len_eq (len1 _) (len1 _))) (cs' := en (Value.int .u8) y67.1) (splc_in (Sub4.all _) ((splc_one (Value.int .u8) m5_9.1 y65 (by have := m5_9.2; omega)).trans (congrArg (fun z : (Vc Int 2) => en (Value.int .u8) z.1) hy68)) (splc_all (len_eq (len_en _ y67) (len_en _ m5_9))) (hl_of (Sub4.one (i := (x16_9).toNat) (Value.int .u8) m5_9.1 0 (by have := m5_9.2; omega)) (len_eq (len1 _) (len1 _)))) ?_
        refine ls_end ?_
        refine qn_block ?_
        refine qn_then ?_
        refine cs_region (l := [_, _, _]) ?_
        refine lv (.int .i64 x16_9) ?_
        refine lv (.int .i64 (IntKind.wrap .i64 (x16_9 + (1 : Int)))) ?_
        refine lv (.int .i64 (IntKind.wrap .i64 (x16_9 + (1 : Int)))) ?_
        refine ls_end ?_
        refine qn_again k9 (sput (sput (sput (sput s0 2 (some (Ck.var 34 x15.1 (([Value.slice (some ⟨x15.2.2.1, 0, none⟩) x15.2.2.2.2 x15.2.2.2.1] ++ ([Value.map (some x15.2.1)] ++ ([Value.bool t13.1.1.2.2.1] ++ ([Value.int .i64 t13.1.1.2.2.2.1] ++ [Value.bool t13.1.1.2.2.2.2])))))))) 3 (some (Ck.mr T48 x15.2.1 x15.2.2.1 x15.2.2.2.1 x15.2.2.2.2 t13.1.2))) 4 (some (Ck.ro (Ec.int 5 .u8) x18.1 x18.2 t16.1))) 5 (some (Ck.var 43 g19 (en (Value.int .u8) y67.1)))) (Nat.le_refl _) ⟨_, (IntKind.wrap .i64 (x16_9 + (1 : Int))), y67, fr_next (fr_next (fr_next (fr_next (fr_next (fr_next (fr_next (fr_next (fr_next (rfl) (by kernel_rfl)) (by kernel_rfl)) (by kernel_rfl)) (by kernel_rfl)) (by kernel_rfl)) (by kernel_rfl)) (by kernel_rfl)) (by kernel_rfl)) (by kernel_rfl), rfl, H⟩ (sub_put (by exact rfl) (sub_put (by exact rfl) (sub_put (by exact rfl) (sub_put (by exact rfl) (sub_nil _)))))
      replace H := ite_f q59 H
      refine cs_know (c := false) (dec_f q59) 144 (by kernel_rfl) ?_
      refine cs_false (by kernel_rfl) ?_
      refine cs_exit' ?_
      refine qx_then ?_
      refine qx_then ?_
      refine qx_same ?_
      refine qn_then ?_
      refine cs_seq ?_
      obtain ⟨s70_0, hs70_0⟩ := exv (.slice x18.1 t16.1.length x18.2)
      refine have_opa shadowboxlaw05_DiskLasts.tab68 6 0 (fun sp => sp 0 = s70_0) (fun sp on hA hon => ?_) (fun ops70_0 => ?_)
      · refine ⟨fun o ho vs Rs f' S' w hp hf hx hS hR hs => ?_⟩
        obtain rfl := Option.some.inj ho
        exact opv (.slice x18.1 t16.1.length x18.2) hA hs70_0 hon (fr_next (rfl) ((hx 13 (by kernel_rfl)).trans (by kernel_rfl : (_ : Value) = .slice x18.1 t16.1.length x18.2)))
      obtain ⟨q71, H⟩ := ite_need H
      refine cs_atro (T := (Ec.int 5 .u8)) (tk := 4) (i := (0 : Int)) (by exact rfl) (by decide) q71 ?_
      intro ad72 hA73
      obtain ⟨s70_1, hs70_1⟩ := exv (.pointer (some (ad72.add (((0 : Int)).toNat * 1))))
      refine have_opa shadowboxlaw05_DiskLasts.tab68 6 1 (fun sp => sp 1 = s70_1 ∧ sp 0 = s70_0) (fun sp on hA hon => ?_) (fun ops70_1 => ?_)
      · refine ⟨fun o ho vs Rs f' S' w hp hf hx hS hR hs => ?_⟩
        obtain rfl := Option.some.inj ho
        obtain ⟨hv0, hR0⟩ := (spe hA.2 hs70_0 (hp 0 (by kernel_rfl)))
        rw [hA.1, hs70_1]
        refine wn hon ?_
        have hF := fr_next (rfl) ((hf 0 155 (by kernel_rfl) rfl).trans hv0)
        refine ls_fr hF ?_
        refine ls_idxv (Ec.int 5 .u8) (A := x18.1) (c := x18.2) (l := t16.1) (k := .i64) (i := (0 : Int)) (z := 1) (ad := ad72) rfl rfl (by kernel_rfl) hA73 rfl (by kernel_rfl) (by kernel_rfl) (by kernel_rfl) (by kernel_rfl) (by decide) q71 ?_
        exact ls_fin s0 _ (congrArg (fun z => upd z 156 _) hF.symm) ⟨rfl, rfl⟩ (sub_nil _)
      obtain ⟨y74, hy75, H⟩ := lt_some H
      obtain ⟨s70_2, hs70_2⟩ := exv (.int .u8 y74)
      refine have_opa shadowboxlaw05_DiskLasts.tab68 6 2 (fun sp => sp 2 = s70_2 ∧ sp 1 = s70_1) (fun sp on hA hon => ?_) (fun ops70_2 => ?_)
      · refine ⟨fun o ho vs Rs f' S' w hp hf hx hS hR hs => ?_⟩
        obtain rfl := Option.some.inj ho
        obtain ⟨hv1, hR1⟩ := (spe hA.2 hs70_1 (hp 1 (by kernel_rfl)))
        rw [hA.1, hs70_2]
        refine wn hon ?_
        have hF := fr_next (rfl) ((hf 1 156 (by kernel_rfl) rfl).trans hv1)
        refine ls_fr hF ?_
        refine ls_load (a0 := (ad72.add (((0 : Int)).toNat * 1))) (v := .int .u8 ((t16.1).getD ((0 : Int)).toNat (0 : Int))) (de := (TypeDesc.int .u8)) rfl rfl (by kernel_rfl) rfl (by kernel_rfl) (by kernel_rfl) (by kernel_rfl) (fun w1 hs1 => (Rd.step (hs.rod (k := 4) ((hS 4 (by kernel_rfl)).trans (by exact rfl))) hs1.below.bw).at hA73 (em_sub (Ec.int 5 .u8) t16.1 (i := ((0 : Int)).toNat) (by have h0 : (0 : Int) ≤ (0 : Int) := (by decide); have h1 : (0 : Int) < (t16.1.length : Int) := q71; omega))) ?_
        refine ls_ren 157 (v := .int .u8 ((t16.1).getD ((0 : Int)).toNat (0 : Int))) (v' := .int .u8 y74) (by kernel_rfl) (by rw [hy75]) ?_
        exact ls_fin s0 _ ((upd_upd _ _ _ _).trans (congrArg (fun z => upd z 157 _) hF.symm)) ⟨rfl, rfl⟩ (sub_nil _)
      obtain ⟨q76, H⟩ := ite_need H
      obtain ⟨s70_3, hs70_3⟩ := exv (.pointer (some ⟨g19, (0 + ((0 : Int)).toNat), none⟩))
      refine have_opa shadowboxlaw05_DiskLasts.tab68 6 3 (fun sp => sp 3 = s70_3) (fun sp on hA hon => ?_) (fun ops70_3 => ?_)
      · refine ⟨fun o ho vs Rs f' S' w hp hf hx hS hR hs => ?_⟩
        obtain rfl := Option.some.inj ho
        rw [hA, hs70_3]
        refine wn hon ?_
        have hF := fr_next (rfl) ((hx 15 (by kernel_rfl)).trans (by kernel_rfl : (_ : Value) = .pointer (some ⟨g19, 0, none⟩)))
        refine ls_fr hF ?_
        refine ls_idxa1 (g := g19) (off := 0) (i := (0 : Int)) (kk := .i64) (ln := 2) (e := 5) rfl rfl (by kernel_rfl) rfl (by kernel_rfl) (by kernel_rfl) (by kernel_rfl) (by kernel_rfl) (by decide) q76 ?_
        exact ls_fin s0 _ (congrArg (fun z => upd z 158 _) hF.symm) ⟨rfl, rfl⟩ (sub_nil _)
      obtain ⟨y77, hy78, H⟩ := lt_some H
      obtain ⟨s70_4, hs70_4⟩ := exv (.int .u8 y77)
      refine have_opa shadowboxlaw05_DiskLasts.tab68 6 4 (fun sp => sp 4 = s70_4 ∧ sp 3 = s70_3) (fun sp on hA hon => ?_) (fun ops70_4 => ?_)
      · refine ⟨fun o ho vs Rs f' S' w hp hf hx hS hR hs => ?_⟩
        obtain rfl := Option.some.inj ho
        obtain ⟨hv3, hR3⟩ := (spe hA.2 hs70_3 (hp 3 (by kernel_rfl)))
        rw [hA.1, hs70_4]
        refine wn hon ?_
        have hF := fr_next (rfl) ((hf 3 158 (by kernel_rfl) rfl).trans hv3)
        refine ls_fr hF ?_
        refine ls_load (a0 := ⟨g19, (0 + ((0 : Int)).toNat), none⟩) (v := .int .u8 (m5_9.1.getD ((0 : Int)).toNat (0 : Int))) (de := (TypeDesc.int .u8)) rfl rfl (by kernel_rfl) rfl (by kernel_rfl) (by kernel_rfl) (by kernel_rfl) (fun w1 hs1 => cell_step hs1.below.bw (hs.var (k := 5) ((hS 5 (by kernel_rfl)).trans (by exact rfl)) (Sub4.trans (Sub4.all _) (Sub4.one (i := ((0 : Int)).toNat) (Value.int .u8) m5_9.1 0 (by have := m5_9.2; omega))))) ?_
        refine ls_ren 159 (v := .int .u8 (m5_9.1.getD ((0 : Int)).toNat (0 : Int))) (v' := .int .u8 y77) (by kernel_rfl) (by rw [hy78]) ?_
        exact ls_fin s0 _ ((upd_upd _ _ _ _).trans (congrArg (fun z => upd z 159 _) hF.symm)) ⟨rfl, rfl⟩ (sub_nil _)
      obtain ⟨s70_5, hs70_5⟩ := exv (.bool (!decide (y74 = y77)))
      refine have_opa shadowboxlaw05_DiskLasts.tab68 6 5 (fun sp => sp 5 = s70_5 ∧ sp 2 = s70_2 ∧ sp 4 = s70_4) (fun sp on hA hon => ?_) (fun ops70_5 => ?_)
      · refine ⟨fun o ho vs Rs f' S' w hp hf hx hS hR hs => ?_⟩
        obtain rfl := Option.some.inj ho
        obtain ⟨hv2, hR2⟩ := (spe hA.2.1 hs70_2 (hp 2 (by kernel_rfl)))
        obtain ⟨hv4, hR4⟩ := (spe hA.2.2 hs70_4 (hp 4 (by kernel_rfl)))
        exact opv (.bool (!decide (y74 = y77))) hA.1 hs70_5 hon (fr_next (fr_next (rfl) ((hf 2 157 (by kernel_rfl) rfl).trans hv2)) ((hf 4 159 (by kernel_rfl) rfl).trans hv4))
      obtain ⟨s70_6, hs70_6⟩ := exv (.bool (!decide (y74 = y77)))
      refine have_opa shadowboxlaw05_DiskLasts.tab68 6 6 (fun sp => sp 6 = s70_6 ∧ sp 5 = s70_5) (fun sp on hA hon => ?_) (fun ops70_6 => ?_)
      · refine ⟨fun o ho vs Rs f' S' w hp hf hx hS hR hs => ?_⟩
        obtain rfl := Option.some.inj ho
        obtain ⟨hv5, hR5⟩ := (spe hA.2 hs70_5 (hp 5 (by kernel_rfl)))
        exact opv (.bool (!decide (y74 = y77))) hA.1 hs70_6 hon (fr_next (rfl) ((hf 5 160 (by kernel_rfl) rfl).trans hv5))
      by_cases q79 : y74 = y77
      · replace H := ite_t q79 H
        obtain ⟨s70_7, hs70_7⟩ := exv (.slice x18.1 t16.1.length x18.2)
        refine have_opa shadowboxlaw05_DiskLasts.tab68 6 7 (fun sp => sp 7 = s70_7 ∧ sp 6 = s70_6) (fun sp on hA hon => ?_) (fun ops70_7 => ?_)
        · refine ⟨fun o ho vs Rs f' S' w hp hf hx hS hR hs => ?_⟩
          obtain rfl := Option.some.inj ho
          obtain ⟨hv6, hR6⟩ := (spe hA.2 hs70_6 (hp 6 (by kernel_rfl)))
          rw [hA.1, hs70_7]
          refine And.intro (fun a ha => (want_is (j := 6) (t := 161) (r := true) rfl rfl (by kernel_rfl) (((hf 6 161 (by kernel_rfl) rfl).trans hv6).trans (congrArg Value.bool (show (!decide (y74 = y77)) = false from congrArg Bool.not (dec_t q79)))) rfl a ha).trans hon.symm) (And.intro (fun _ => ?_) (fun h => by rw [hon] at h; cases h))
          have hF := fr_next (fr_next (rfl) ((hx 13 (by kernel_rfl)).trans (by kernel_rfl : (_ : Value) = .slice x18.1 t16.1.length x18.2))) (((hf 6 161 (by kernel_rfl) rfl).trans hv6).trans (congrArg Value.bool (show (!decide (y74 = y77)) = false from congrArg Bool.not (dec_t q79))))
          refine ls_fr hF ?_
          refine lv (.slice x18.1 t16.1.length x18.2) ?_
          exact ls_fin s0 _ (congrArg (fun z => upd z 162 _) hF.symm) ⟨rfl, rfl⟩ (sub_nil _)
        obtain ⟨q80, H⟩ := ite_need H
        refine cs_atro (T := (Ec.int 5 .u8)) (tk := 4) (i := (1 : Int)) (by exact rfl) (by decide) q80 ?_
        intro ad81 hA82
        obtain ⟨s70_8, hs70_8⟩ := exv (.pointer (some (ad81.add (((1 : Int)).toNat * 1))))
        refine have_opa shadowboxlaw05_DiskLasts.tab68 6 8 (fun sp => sp 8 = s70_8 ∧ sp 6 = s70_6 ∧ sp 7 = s70_7) (fun sp on hA hon => ?_) (fun ops70_8 => ?_)
        · refine ⟨fun o ho vs Rs f' S' w hp hf hx hS hR hs => ?_⟩
          obtain rfl := Option.some.inj ho
          obtain ⟨hv6, hR6⟩ := (spe hA.2.1 hs70_6 (hp 6 (by kernel_rfl)))
          obtain ⟨hv7, hR7⟩ := (spe hA.2.2 hs70_7 (hp 7 (by kernel_rfl)))
          rw [hA.1, hs70_8]
          refine And.intro (fun a ha => (want_is (j := 6) (t := 161) (r := true) rfl rfl (by kernel_rfl) (((hf 6 161 (by kernel_rfl) rfl).trans hv6).trans (congrArg Value.bool (show (!decide (y74 = y77)) = false from congrArg Bool.not (dec_t q79)))) rfl a ha).trans hon.symm) (And.intro (fun _ => ?_) (fun h => by rw [hon] at h; cases h))
          have hF := fr_next (fr_next (rfl) (((hf 6 161 (by kernel_rfl) rfl).trans hv6).trans (congrArg Value.bool (show (!decide (y74 = y77)) = false from congrArg Bool.not (dec_t q79))))) ((hf 7 162 (by kernel_rfl) rfl).trans hv7)
          refine ls_fr hF ?_
          refine ls_idxv (Ec.int 5 .u8) (A := x18.1) (c := x18.2) (l := t16.1) (k := .i64) (i := (1 : Int)) (z := 1) (ad := ad81) rfl rfl (by kernel_rfl) hA82 rfl (by kernel_rfl) (by kernel_rfl) (by kernel_rfl) (by kernel_rfl) (by decide) q80 ?_
          exact ls_fin s0 _ (congrArg (fun z => upd z 163 _) hF.symm) ⟨rfl, rfl⟩ (sub_nil _)
        obtain ⟨y83, hy84, H⟩ := lt_some H
        obtain ⟨s70_9, hs70_9⟩ := exv (.int .u8 y83)
        refine have_opa shadowboxlaw05_DiskLasts.tab68 6 9 (fun sp => sp 9 = s70_9 ∧ sp 6 = s70_6 ∧ sp 8 = s70_8) (fun sp on hA hon => ?_) (fun ops70_9 => ?_)
        · refine ⟨fun o ho vs Rs f' S' w hp hf hx hS hR hs => ?_⟩
          obtain rfl := Option.some.inj ho
          obtain ⟨hv6, hR6⟩ := (spe hA.2.1 hs70_6 (hp 6 (by kernel_rfl)))
          obtain ⟨hv8, hR8⟩ := (spe hA.2.2 hs70_8 (hp 8 (by kernel_rfl)))
          rw [hA.1, hs70_9]
          refine And.intro (fun a ha => (want_is (j := 6) (t := 161) (r := true) rfl rfl (by kernel_rfl) (((hf 6 161 (by kernel_rfl) rfl).trans hv6).trans (congrArg Value.bool (show (!decide (y74 = y77)) = false from congrArg Bool.not (dec_t q79)))) rfl a ha).trans hon.symm) (And.intro (fun _ => ?_) (fun h => by rw [hon] at h; cases h))
          have hF := fr_next (fr_next (rfl) (((hf 6 161 (by kernel_rfl) rfl).trans hv6).trans (congrArg Value.bool (show (!decide (y74 = y77)) = false from congrArg Bool.not (dec_t q79))))) ((hf 8 163 (by kernel_rfl) rfl).trans hv8)
          refine ls_fr hF ?_
          refine ls_load (a0 := (ad81.add (((1 : Int)).toNat * 1))) (v := .int .u8 ((t16.1).getD ((1 : Int)).toNat (0 : Int))) (de := (TypeDesc.int .u8)) rfl rfl (by kernel_rfl) rfl (by kernel_rfl) (by kernel_rfl) (by kernel_rfl) (fun w1 hs1 => (Rd.step (hs.rod (k := 4) ((hS 4 (by kernel_rfl)).trans (by exact rfl))) hs1.below.bw).at hA82 (em_sub (Ec.int 5 .u8) t16.1 (i := ((1 : Int)).toNat) (by have h0 : (0 : Int) ≤ (1 : Int) := (by decide); have h1 : (1 : Int) < (t16.1.length : Int) := q80; omega))) ?_
          refine ls_ren 164 (v := .int .u8 ((t16.1).getD ((1 : Int)).toNat (0 : Int))) (v' := .int .u8 y83) (by kernel_rfl) (by rw [hy84]) ?_
          exact ls_fin s0 _ ((upd_upd _ _ _ _).trans (congrArg (fun z => upd z 164 _) hF.symm)) ⟨rfl, rfl⟩ (sub_nil _)
        obtain ⟨q85, H⟩ := ite_need H
        obtain ⟨s70_10, hs70_10⟩ := exv (.pointer (some ⟨g19, (0 + ((1 : Int)).toNat), none⟩))
        refine have_opa shadowboxlaw05_DiskLasts.tab68 6 10 (fun sp => sp 10 = s70_10 ∧ sp 6 = s70_6) (fun sp on hA hon => ?_) (fun ops70_10 => ?_)
        · refine ⟨fun o ho vs Rs f' S' w hp hf hx hS hR hs => ?_⟩
          obtain rfl := Option.some.inj ho
          obtain ⟨hv6, hR6⟩ := (spe hA.2 hs70_6 (hp 6 (by kernel_rfl)))
          rw [hA.1, hs70_10]
          refine And.intro (fun a ha => (want_is (j := 6) (t := 161) (r := true) rfl rfl (by kernel_rfl) (((hf 6 161 (by kernel_rfl) rfl).trans hv6).trans (congrArg Value.bool (show (!decide (y74 = y77)) = false from congrArg Bool.not (dec_t q79)))) rfl a ha).trans hon.symm) (And.intro (fun _ => ?_) (fun h => by rw [hon] at h; cases h))
          have hF := fr_next (fr_next (rfl) ((hx 15 (by kernel_rfl)).trans (by kernel_rfl : (_ : Value) = .pointer (some ⟨g19, 0, none⟩)))) (((hf 6 161 (by kernel_rfl) rfl).trans hv6).trans (congrArg Value.bool (show (!decide (y74 = y77)) = false from congrArg Bool.not (dec_t q79))))
          refine ls_fr hF ?_
          refine ls_idxa1 (g := g19) (off := 0) (i := (1 : Int)) (kk := .i64) (ln := 2) (e := 5) rfl rfl (by kernel_rfl) rfl (by kernel_rfl) (by kernel_rfl) (by kernel_rfl) (by kernel_rfl) (by decide) q85 ?_
          exact ls_fin s0 _ (congrArg (fun z => upd z 165 _) hF.symm) ⟨rfl, rfl⟩ (sub_nil _)
        obtain ⟨y86, hy87, H⟩ := lt_some H
        obtain ⟨s70_11, hs70_11⟩ := exv (.int .u8 y86)
        refine have_opa shadowboxlaw05_DiskLasts.tab68 6 11 (fun sp => sp 11 = s70_11 ∧ sp 6 = s70_6 ∧ sp 10 = s70_10) (fun sp on hA hon => ?_) (fun ops70_11 => ?_)
        · refine ⟨fun o ho vs Rs f' S' w hp hf hx hS hR hs => ?_⟩
          obtain rfl := Option.some.inj ho
          obtain ⟨hv6, hR6⟩ := (spe hA.2.1 hs70_6 (hp 6 (by kernel_rfl)))
          obtain ⟨hv10, hR10⟩ := (spe hA.2.2 hs70_10 (hp 10 (by kernel_rfl)))
          rw [hA.1, hs70_11]
          refine And.intro (fun a ha => (want_is (j := 6) (t := 161) (r := true) rfl rfl (by kernel_rfl) (((hf 6 161 (by kernel_rfl) rfl).trans hv6).trans (congrArg Value.bool (show (!decide (y74 = y77)) = false from congrArg Bool.not (dec_t q79)))) rfl a ha).trans hon.symm) (And.intro (fun _ => ?_) (fun h => by rw [hon] at h; cases h))
          have hF := fr_next (fr_next (rfl) (((hf 6 161 (by kernel_rfl) rfl).trans hv6).trans (congrArg Value.bool (show (!decide (y74 = y77)) = false from congrArg Bool.not (dec_t q79))))) ((hf 10 165 (by kernel_rfl) rfl).trans hv10)
          refine ls_fr hF ?_
          refine ls_load (a0 := ⟨g19, (0 + ((1 : Int)).toNat), none⟩) (v := .int .u8 (m5_9.1.getD ((1 : Int)).toNat (0 : Int))) (de := (TypeDesc.int .u8)) rfl rfl (by kernel_rfl) rfl (by kernel_rfl) (by kernel_rfl) (by kernel_rfl) (fun w1 hs1 => cell_step hs1.below.bw (hs.var (k := 5) ((hS 5 (by kernel_rfl)).trans (by exact rfl)) (Sub4.trans (Sub4.all _) (Sub4.one (i := ((1 : Int)).toNat) (Value.int .u8) m5_9.1 0 (by have := m5_9.2; omega))))) ?_
          refine ls_ren 166 (v := .int .u8 (m5_9.1.getD ((1 : Int)).toNat (0 : Int))) (v' := .int .u8 y86) (by kernel_rfl) (by rw [hy87]) ?_
          exact ls_fin s0 _ ((upd_upd _ _ _ _).trans (congrArg (fun z => upd z 166 _) hF.symm)) ⟨rfl, rfl⟩ (sub_nil _)
        refine cs_draw shadowboxlaw05_DiskLasts.tab68 12 6 (spl [s70_0, s70_1, s70_2, s70_3, s70_4, s70_5, s70_6, s70_7, s70_8, s70_9, s70_10, s70_11]) (onl [true, true, true, true, true, true, true, true, true, true, true, true]) (by kernel_rfl) (by kernel_rfl) (by kernel_rfl) (by kernel_rfl) (rs := [_, _, _, _, _, _, _, _]) rfl (by kernel_rfl) (by kernel_rfl) (all_snoc (all_snoc (all_snoc (all_snoc (all_snoc (all_snoc (all_snoc (all_snoc (all_snoc (all_snoc (all_snoc (all_snoc (all_nil) (ops70_0 _ _ rfl rfl)) (ops70_1 _ _ ⟨rfl, rfl⟩ rfl)) (ops70_2 _ _ ⟨rfl, rfl⟩ rfl)) (ops70_3 _ _ rfl rfl)) (ops70_4 _ _ ⟨rfl, rfl⟩ rfl)) (ops70_5 _ _ ⟨rfl, rfl, rfl⟩ rfl)) (ops70_6 _ _ ⟨rfl, rfl⟩ rfl)) (ops70_7 _ _ ⟨rfl, rfl⟩ rfl)) (ops70_8 _ _ ⟨rfl, rfl, rfl⟩ rfl)) (ops70_9 _ _ ⟨rfl, rfl, rfl⟩ rfl)) (ops70_10 _ _ ⟨rfl, rfl⟩ rfl)) (ops70_11 _ _ ⟨rfl, rfl, rfl⟩ rfl)) ?_
        intro vs Rs f' S' hp hf hx hS hR
        obtain ⟨hv6, hR6⟩ := (spe rfl hs70_6 (hp 6 (by kernel_rfl)))
        obtain ⟨hv9, hR9⟩ := (spe rfl hs70_9 (hp 9 (by kernel_rfl)))
        obtain ⟨hv11, hR11⟩ := (spe rfl hs70_11 (hp 11 (by kernel_rfl)))
        refine ls_fr (F := upd (upd (upd (upd (upd (upd (upd (upd (upd (upd f' 0 (.slice A0 l0.length c0)) 1 (.slice A1 l1.length c1)) 2 (.int .i64 y11)) 9 (.int .i64 y4)) 11 (.pointer (some ⟨x15.1, 0, none⟩))) 12 (.int .i64 x12_5)) 13 (.slice x18.1 t16.1.length x18.2)) 161 (.bool (!decide (y74 = y77)))) 164 (.int .u8 y83)) 166 (.int .u8 y86)) (fr_next (fr_next (fr_next (fr_next (fr_next (fr_next (fr_next (fr_next (fr_next (fr_next (rfl) ((hx 0 (by kernel_rfl)).trans (by kernel_rfl : (_ : Value) = .slice A0 l0.length c0))) ((hx 1 (by kernel_rfl)).trans (by kernel_rfl : (_ : Value) = .slice A1 l1.length c1))) ((hx 2 (by kernel_rfl)).trans (by kernel_rfl : (_ : Value) = .int .i64 y11))) ((hx 9 (by kernel_rfl)).trans (by kernel_rfl : (_ : Value) = .int .i64 y4))) ((hx 11 (by kernel_rfl)).trans (by kernel_rfl : (_ : Value) = .pointer (some ⟨x15.1, 0, none⟩)))) ((hx 12 (by kernel_rfl)).trans (by kernel_rfl : (_ : Value) = .int .i64 x12_5))) ((hx 13 (by kernel_rfl)).trans (by kernel_rfl : (_ : Value) = .slice x18.1 t16.1.length x18.2))) ((hf 6 161 (by kernel_rfl) rfl).trans hv6)) ((hf 9 164 (by kernel_rfl) rfl).trans hv9)) ((hf 11 166 (by kernel_rfl) rfl).trans hv11)) ?_
        refine ls_sub (sput (sput (sput s0 2 (some (Ck.var 34 x15.1 (([Value.slice (some ⟨x15.2.2.1, 0, none⟩) x15.2.2.2.2 x15.2.2.2.1] ++ ([Value.map (some x15.2.1)] ++ ([Value.bool t13.1.1.2.2.1] ++ ([Value.int .i64 t13.1.1.2.2.2.1] ++ [Value.bool t13.1.1.2.2.2.2])))))))) 3 (some (Ck.mr T48 x15.2.1 x15.2.2.1 x15.2.2.2.1 x15.2.2.2.2 t13.1.2))) 4 (some (Ck.ro (Ec.int 5 .u8) x18.1 x18.2 t16.1))) (sub_put ((hS 4 (by kernel_rfl)).trans (by exact rfl)) (sub_put ((hS 3 (by kernel_rfl)).trans (by exact rfl)) (sub_put ((hS 2 (by kernel_rfl)).trans (by exact rfl)) (sub_nil _)))) ?_
        refine ls_know (c := false) (congrArg Bool.not (dec_t q79)) 161 (by kernel_rfl) ?_
        refine ls_on (j := 6) (t := 161) (b := false) rfl rfl (by kernel_rfl) (by kernel_rfl) ?_
        refine lv (.bool (!decide (y83 = y86))) ?_
        refine lv (.bool (!decide (y83 = y86))) ?_
        refine lv (.bool (!decide (y83 = y86))) ?_
        by_cases q88 : y83 = y86
        · replace H := ite_t q88 H
          refine ls_know (c := false) (congrArg Bool.not (dec_t q88)) 169 (by kernel_rfl) ?_
          refine ls_on (j := 14) (t := 169) (b := false) rfl rfl (by kernel_rfl) (by kernel_rfl) ?_
          refine lv (.slice x18.1 t16.1.length x18.2) ?_
          refine ls_on (j := 14) (t := 169) (b := false) rfl rfl (by kernel_rfl) (by kernel_rfl) ?_
          obtain ⟨q89, H⟩ := ite_need H
          refine ls_atro (T := (Ec.int 5 .u8)) (tk := 4) (i := (2 : Int)) (by exact rfl) (by decide) q89 ?_
          intro ad90 hA91
          refine ls_idxv (Ec.int 5 .u8) (A := x18.1) (c := x18.2) (l := t16.1) (k := .i64) (i := (2 : Int)) (z := 1) (ad := ad90) rfl rfl (by kernel_rfl) hA91 rfl (by kernel_rfl) (by kernel_rfl) (by kernel_rfl) (by kernel_rfl) (by decide) q89 ?_
          refine ls_on (j := 14) (t := 169) (b := false) rfl rfl (by kernel_rfl) (by kernel_rfl) ?_
          obtain ⟨y92, hy93, H⟩ := lt_some H
          refine ls_load (a0 := (ad90.add (((2 : Int)).toNat * 1))) (v := .int .u8 ((t16.1).getD ((2 : Int)).toNat (0 : Int))) (de := (TypeDesc.int .u8)) rfl rfl (by kernel_rfl) rfl (by kernel_rfl) (by kernel_rfl) (by kernel_rfl) (fun w hs => (hs.rod (k := 4) (by exact rfl)).at hA91 (em_sub (Ec.int 5 .u8) t16.1 (i := ((2 : Int)).toNat) (by have h0 : (0 : Int) ≤ (2 : Int) := (by decide); have h1 : (2 : Int) < (t16.1.length : Int) := q89; omega))) ?_
          refine ls_ren 172 (v := .int .u8 ((t16.1).getD ((2 : Int)).toNat (0 : Int))) (v' := .int .u8 y92) (by kernel_rfl) (by rw [hy93]) ?_
          refine ls_on (j := 14) (t := 169) (b := false) rfl rfl (by kernel_rfl) (by kernel_rfl) ?_
          refine lv (.bool (!decide (y92 = (0 : Int)))) ?_
          refine lv (.bool (!decide (y92 = (0 : Int)))) ?_
          refine ls_end ?_
          refine qn_then ?_
          by_cases q94 : y92 = (0 : Int)
          · replace H := ite_t q94 H
            refine cs_know (c := false) (congrArg Bool.not (dec_t q94)) 174 (by kernel_rfl) ?_
            refine cs_false (by kernel_rfl) ?_
            refine cs_skip' ?_
            refine qn_block ?_
            refine qn_then ?_
            refine cs_region (l := [_, _, _]) ?_
            refine lv (.int .i64 x12_5) ?_
            refine lv (.int .i64 (IntKind.wrap .i64 (x12_5 + (1 : Int)))) ?_
            refine lv (.int .i64 (IntKind.wrap .i64 (x12_5 + (1 : Int)))) ?_
            refine ls_end ?_
            refine qn_again k5 (sput (sput s0 2 (some (Ck.var 34 x15.1 (([Value.slice (some ⟨x15.2.2.1, 0, none⟩) x15.2.2.2.2 x15.2.2.2.1] ++ ([Value.map (some x15.2.1)] ++ ([Value.bool t13.1.1.2.2.1] ++ ([Value.int .i64 t13.1.1.2.2.2.1] ++ [Value.bool t13.1.1.2.2.2.2])))))))) 3 (some (Ck.mr T48 x15.2.1 x15.2.2.1 x15.2.2.2.1 x15.2.2.2.2 t13.1.2))) (Nat.le_refl _) ⟨_, (IntKind.wrap .i64 (x12_5 + (1 : Int))), fr_next (fr_next (fr_next (fr_next (fr_next (fr_next (rfl) (by kernel_rfl)) (by kernel_rfl)) (by kernel_rfl)) (by kernel_rfl)) (by kernel_rfl)) (by kernel_rfl), rfl, H⟩ (sub_put (by exact rfl) (sub_put (by exact rfl) (sub_nil _)))
          replace H := ite_f q94 H
          refine cs_know (c := true) (congrArg Bool.not (dec_f q94)) 174 (by kernel_rfl) ?_
          refine cs_true (by kernel_rfl) ?_
          refine cs_seq ?_
          refine cs_region (l := [_]) ?_
          refine lv (.bool false) ?_
          refine ls_end ?_
          refine qn_then ?_
          refine cs_ret' ?_
          refine qr_block ?_
          refine qr_then ?_
          refine qr_then ?_
          refine qr_block ?_
          refine qr_then ?_
          obtain rfl := Option.some.inj H
          refine qr_res (rs := [_]) rfl (fun w' hs => ⟨[.bool false], (res_tmp (by kernel_rfl) (.nil)), (), rfl, hs.pick (ts := []) (cs := []) trivial (by decide)⟩)
        replace H := ite_f q88 H
        refine ls_know (c := true) (congrArg Bool.not (dec_f q88)) 169 (by kernel_rfl) ?_
        refine lofx 14 169 false true ?_
        refine lofx 14 169 false true ?_
        refine lofx 14 169 false true ?_
        refine lofx 14 169 false true ?_
        refine lv (.bool true) ?_
        refine ls_end ?_
        refine qn_then ?_
        refine cs_true (by kernel_rfl) ?_
        refine cs_seq ?_
        refine cs_region (l := [_]) ?_
        refine lv (.bool false) ?_
        refine ls_end ?_
        refine qn_then ?_
        refine cs_ret' ?_
        refine qr_block ?_
        refine qr_then ?_
        refine qr_then ?_
        refine qr_block ?_
        refine qr_then ?_
        obtain rfl := Option.some.inj H
        refine qr_res (rs := [_]) rfl (fun w' hs => ⟨[.bool false], (res_tmp (by kernel_rfl) (.nil)), (), rfl, hs.pick (ts := []) (cs := []) trivial (by decide)⟩)
      replace H := ite_f q79 H
      refine cs_draw shadowboxlaw05_DiskLasts.tab68 12 6 (spl [s70_0, s70_1, s70_2, s70_3, s70_4, s70_5, s70_6, spu, spu, spu, spu, spu]) (onl [true, true, true, true, true, true, true, false, false, false, false, false]) (by kernel_rfl) (by kernel_rfl) (by kernel_rfl) (by kernel_rfl) (rs := [_, _, _, _, _, _, _, _]) rfl (by kernel_rfl) (by kernel_rfl) (all_snoc (all_snoc (all_snoc (all_snoc (all_snoc (all_snoc (all_snoc (all_snoc (all_snoc (all_snoc (all_snoc (all_snoc (all_nil) (ops70_0 _ _ rfl rfl)) (ops70_1 _ _ ⟨rfl, rfl⟩ rfl)) (ops70_2 _ _ ⟨rfl, rfl⟩ rfl)) (ops70_3 _ _ rfl rfl)) (ops70_4 _ _ ⟨rfl, rfl⟩ rfl)) (ops70_5 _ _ ⟨rfl, rfl, rfl⟩ rfl)) (ops70_6 _ _ ⟨rfl, rfl⟩ rfl)) (op_offi 7 6 161 false rfl rfl (by kernel_rfl) (by kernel_rfl) rfl (fun v R h => by rw [hs70_6] at h; obtain ⟨h, _⟩ := h; exact h.trans (congrArg Value.bool (show (!decide (y74 = y77)) = true from congrArg Bool.not (dec_f q79)))) rfl rfl)) (op_offi 8 6 161 false rfl rfl (by kernel_rfl) (by kernel_rfl) rfl (fun v R h => by rw [hs70_6] at h; obtain ⟨h, _⟩ := h; exact h.trans (congrArg Value.bool (show (!decide (y74 = y77)) = true from congrArg Bool.not (dec_f q79)))) rfl rfl)) (op_offi 9 6 161 false rfl rfl (by kernel_rfl) (by kernel_rfl) rfl (fun v R h => by rw [hs70_6] at h; obtain ⟨h, _⟩ := h; exact h.trans (congrArg Value.bool (show (!decide (y74 = y77)) = true from congrArg Bool.not (dec_f q79)))) rfl rfl)) (op_offi 10 6 161 false rfl rfl (by kernel_rfl) (by kernel_rfl) rfl (fun v R h => by rw [hs70_6] at h; obtain ⟨h, _⟩ := h; exact h.trans (congrArg Value.bool (show (!decide (y74 = y77)) = true from congrArg Bool.not (dec_f q79)))) rfl rfl)) (op_offi 11 6 161 false rfl rfl (by kernel_rfl) (by kernel_rfl) rfl (fun v R h => by rw [hs70_6] at h; obtain ⟨h, _⟩ := h; exact h.trans (congrArg Value.bool (show (!decide (y74 = y77)) = true from congrArg Bool.not (dec_f q79)))) rfl rfl)) ?_
      intro vs Rs f' S' hp hf hx hS hR
      obtain ⟨hv6, hR6⟩ := (spe rfl hs70_6 (hp 6 (by kernel_rfl)))
      obtain ⟨hv9, hR9⟩ := (spe rfl rfl (hp 9 (by kernel_rfl)) : spu _ _)
      obtain ⟨hv11, hR11⟩ := (spe rfl rfl (hp 11 (by kernel_rfl)) : spu _ _)
      refine ls_fr (F := upd (upd (upd (upd (upd (upd (upd (upd f' 0 (.slice A0 l0.length c0)) 1 (.slice A1 l1.length c1)) 2 (.int .i64 y11)) 9 (.int .i64 y4)) 11 (.pointer (some ⟨x15.1, 0, none⟩))) 12 (.int .i64 x12_5)) 13 (.slice x18.1 t16.1.length x18.2)) 161 (.bool (!decide (y74 = y77)))) (fr_next (fr_next (fr_next (fr_next (fr_next (fr_next (fr_next (fr_next (rfl) ((hx 0 (by kernel_rfl)).trans (by kernel_rfl : (_ : Value) = .slice A0 l0.length c0))) ((hx 1 (by kernel_rfl)).trans (by kernel_rfl : (_ : Value) = .slice A1 l1.length c1))) ((hx 2 (by kernel_rfl)).trans (by kernel_rfl : (_ : Value) = .int .i64 y11))) ((hx 9 (by kernel_rfl)).trans (by kernel_rfl : (_ : Value) = .int .i64 y4))) ((hx 11 (by kernel_rfl)).trans (by kernel_rfl : (_ : Value) = .pointer (some ⟨x15.1, 0, none⟩)))) ((hx 12 (by kernel_rfl)).trans (by kernel_rfl : (_ : Value) = .int .i64 x12_5))) ((hx 13 (by kernel_rfl)).trans (by kernel_rfl : (_ : Value) = .slice x18.1 t16.1.length x18.2))) ((hf 6 161 (by kernel_rfl) rfl).trans hv6)) ?_
      refine ls_sub (sput (sput (sput s0 2 (some (Ck.var 34 x15.1 (([Value.slice (some ⟨x15.2.2.1, 0, none⟩) x15.2.2.2.2 x15.2.2.2.1] ++ ([Value.map (some x15.2.1)] ++ ([Value.bool t13.1.1.2.2.1] ++ ([Value.int .i64 t13.1.1.2.2.2.1] ++ [Value.bool t13.1.1.2.2.2.2])))))))) 3 (some (Ck.mr T48 x15.2.1 x15.2.2.1 x15.2.2.2.1 x15.2.2.2.2 t13.1.2))) 4 (some (Ck.ro (Ec.int 5 .u8) x18.1 x18.2 t16.1))) (sub_put ((hS 4 (by kernel_rfl)).trans (by exact rfl)) (sub_put ((hS 3 (by kernel_rfl)).trans (by exact rfl)) (sub_put ((hS 2 (by kernel_rfl)).trans (by exact rfl)) (sub_nil _)))) ?_
      refine ls_know (c := true) (congrArg Bool.not (dec_f q79)) 161 (by kernel_rfl) ?_
      refine lofx 6 161 false true ?_
      refine lv (.bool true) ?_
      refine lv (.bool true) ?_
      refine lofx 14 169 false true ?_
      refine lofx 14 169 false true ?_
      refine lofx 14 169 false true ?_
      refine lofx 14 169 false true ?_
      refine lv (.bool true) ?_
      refine ls_end ?_
      refine qn_then ?_
      refine cs_true (by kernel_rfl) ?_
      refine cs_seq ?_
      refine cs_region (l := [_]) ?_
      refine lv (.bool false) ?_
      refine ls_end ?_
      refine qn_then ?_
      refine cs_ret' ?_
      refine qr_block ?_
      refine qr_then ?_
      refine qr_then ?_
      refine qr_block ?_
      refine qr_then ?_
      obtain rfl := Option.some.inj H
      refine qr_res (rs := [_]) rfl (fun w' hs => ⟨[.bool false], (res_tmp (by kernel_rfl) (.nil)), (), rfl, hs.pick (ts := []) (cs := []) trivial (by decide)⟩)
    replace H := ite_f q52 H
    refine ls_know (c := false) (dec_f q52) 135 (by kernel_rfl) ?_
    refine lofx 2 135 true false ?_
    refine lofx 2 135 true false ?_
    refine lofx 2 135 true false ?_
    refine lofx 2 135 true false ?_
    refine lofx 2 135 true false ?_
    refine lofx 2 135 true false ?_
    refine lofx 2 135 true false ?_
    refine lofx 2 135 true false ?_
    refine lv (.bool false) ?_
    refine ls_end ?_
    refine qn_then ?_
    refine cs_false (by kernel_rfl) ?_
    refine cs_exit' ?_
    refine qx_then ?_
    refine qx_then ?_
    refine qx_same ?_
    refine qn_then ?_
    refine cs_seq ?_
    obtain ⟨s96_0, hs96_0⟩ := exv (.slice x18.1 t16.1.length x18.2)
    refine have_opa shadowboxlaw05_DiskLasts.tab94 6 0 (fun sp => sp 0 = s96_0) (fun sp on hA hon => ?_) (fun ops96_0 => ?_)
    · refine ⟨fun o ho vs Rs f' S' w hp hf hx hS hR hs => ?_⟩
      obtain rfl := Option.some.inj ho
      exact opv (.slice x18.1 t16.1.length x18.2) hA hs96_0 hon (fr_next (rfl) ((hx 13 (by kernel_rfl)).trans (by kernel_rfl : (_ : Value) = .slice x18.1 t16.1.length x18.2)))
    obtain ⟨q97, H⟩ := ite_need H
    refine cs_atro (T := (Ec.int 5 .u8)) (tk := 4) (i := (0 : Int)) (by exact rfl) (by decide) q97 ?_
    intro ad98 hA99
    obtain ⟨s96_1, hs96_1⟩ := exv (.pointer (some (ad98.add (((0 : Int)).toNat * 1))))
    refine have_opa shadowboxlaw05_DiskLasts.tab94 6 1 (fun sp => sp 1 = s96_1 ∧ sp 0 = s96_0) (fun sp on hA hon => ?_) (fun ops96_1 => ?_)
    · refine ⟨fun o ho vs Rs f' S' w hp hf hx hS hR hs => ?_⟩
      obtain rfl := Option.some.inj ho
      obtain ⟨hv0, hR0⟩ := (spe hA.2 hs96_0 (hp 0 (by kernel_rfl)))
      rw [hA.1, hs96_1]
      refine wn hon ?_
      have hF := fr_next (rfl) ((hf 0 155 (by kernel_rfl) rfl).trans hv0)
      refine ls_fr hF ?_
      refine ls_idxv (Ec.int 5 .u8) (A := x18.1) (c := x18.2) (l := t16.1) (k := .i64) (i := (0 : Int)) (z := 1) (ad := ad98) rfl rfl (by kernel_rfl) hA99 rfl (by kernel_rfl) (by kernel_rfl) (by kernel_rfl) (by kernel_rfl) (by decide) q97 ?_
      exact ls_fin s0 _ (congrArg (fun z => upd z 156 _) hF.symm) ⟨rfl, rfl⟩ (sub_nil _)
    obtain ⟨y100, hy101, H⟩ := lt_some H
    obtain ⟨s96_2, hs96_2⟩ := exv (.int .u8 y100)
    refine have_opa shadowboxlaw05_DiskLasts.tab94 6 2 (fun sp => sp 2 = s96_2 ∧ sp 1 = s96_1) (fun sp on hA hon => ?_) (fun ops96_2 => ?_)
    · refine ⟨fun o ho vs Rs f' S' w hp hf hx hS hR hs => ?_⟩
      obtain rfl := Option.some.inj ho
      obtain ⟨hv1, hR1⟩ := (spe hA.2 hs96_1 (hp 1 (by kernel_rfl)))
      rw [hA.1, hs96_2]
      refine wn hon ?_
      have hF := fr_next (rfl) ((hf 1 156 (by kernel_rfl) rfl).trans hv1)
      refine ls_fr hF ?_
      refine ls_load (a0 := (ad98.add (((0 : Int)).toNat * 1))) (v := .int .u8 ((t16.1).getD ((0 : Int)).toNat (0 : Int))) (de := (TypeDesc.int .u8)) rfl rfl (by kernel_rfl) rfl (by kernel_rfl) (by kernel_rfl) (by kernel_rfl) (fun w1 hs1 => (Rd.step (hs.rod (k := 4) ((hS 4 (by kernel_rfl)).trans (by exact rfl))) hs1.below.bw).at hA99 (em_sub (Ec.int 5 .u8) t16.1 (i := ((0 : Int)).toNat) (by have h0 : (0 : Int) ≤ (0 : Int) := (by decide); have h1 : (0 : Int) < (t16.1.length : Int) := q97; omega))) ?_
      refine ls_ren 157 (v := .int .u8 ((t16.1).getD ((0 : Int)).toNat (0 : Int))) (v' := .int .u8 y100) (by kernel_rfl) (by rw [hy101]) ?_
      exact ls_fin s0 _ ((upd_upd _ _ _ _).trans (congrArg (fun z => upd z 157 _) hF.symm)) ⟨rfl, rfl⟩ (sub_nil _)
    obtain ⟨q102, H⟩ := ite_need H
    obtain ⟨s96_3, hs96_3⟩ := exv (.pointer (some ⟨g19, (0 + ((0 : Int)).toNat), none⟩))
    refine have_opa shadowboxlaw05_DiskLasts.tab94 6 3 (fun sp => sp 3 = s96_3) (fun sp on hA hon => ?_) (fun ops96_3 => ?_)
    · refine ⟨fun o ho vs Rs f' S' w hp hf hx hS hR hs => ?_⟩
      obtain rfl := Option.some.inj ho
      rw [hA, hs96_3]
      refine wn hon ?_
      have hF := fr_next (rfl) ((hx 15 (by kernel_rfl)).trans (by kernel_rfl : (_ : Value) = .pointer (some ⟨g19, 0, none⟩)))
      refine ls_fr hF ?_
      refine ls_idxa1 (g := g19) (off := 0) (i := (0 : Int)) (kk := .i64) (ln := 2) (e := 5) rfl rfl (by kernel_rfl) rfl (by kernel_rfl) (by kernel_rfl) (by kernel_rfl) (by kernel_rfl) (by decide) q102 ?_
      exact ls_fin s0 _ (congrArg (fun z => upd z 158 _) hF.symm) ⟨rfl, rfl⟩ (sub_nil _)
    obtain ⟨y103, hy104, H⟩ := lt_some H
    obtain ⟨s96_4, hs96_4⟩ := exv (.int .u8 y103)
    refine have_opa shadowboxlaw05_DiskLasts.tab94 6 4 (fun sp => sp 4 = s96_4 ∧ sp 3 = s96_3) (fun sp on hA hon => ?_) (fun ops96_4 => ?_)
    · refine ⟨fun o ho vs Rs f' S' w hp hf hx hS hR hs => ?_⟩
      obtain rfl := Option.some.inj ho
      obtain ⟨hv3, hR3⟩ := (spe hA.2 hs96_3 (hp 3 (by kernel_rfl)))
      rw [hA.1, hs96_4]
      refine wn hon ?_
      have hF := fr_next (rfl) ((hf 3 158 (by kernel_rfl) rfl).trans hv3)
      refine ls_fr hF ?_
      refine ls_load (a0 := ⟨g19, (0 + ((0 : Int)).toNat), none⟩) (v := .int .u8 (m5_9.1.getD ((0 : Int)).toNat (0 : Int))) (de := (TypeDesc.int .u8)) rfl rfl (by kernel_rfl) rfl (by kernel_rfl) (by kernel_rfl) (by kernel_rfl) (fun w1 hs1 => cell_step hs1.below.bw (hs.var (k := 5) ((hS 5 (by kernel_rfl)).trans (by exact rfl)) (Sub4.trans (Sub4.all _) (Sub4.one (i := ((0 : Int)).toNat) (Value.int .u8) m5_9.1 0 (by have := m5_9.2; omega))))) ?_
      refine ls_ren 159 (v := .int .u8 (m5_9.1.getD ((0 : Int)).toNat (0 : Int))) (v' := .int .u8 y103) (by kernel_rfl) (by rw [hy104]) ?_
      exact ls_fin s0 _ ((upd_upd _ _ _ _).trans (congrArg (fun z => upd z 159 _) hF.symm)) ⟨rfl, rfl⟩ (sub_nil _)
    obtain ⟨s96_5, hs96_5⟩ := exv (.bool (!decide (y100 = y103)))
    refine have_opa shadowboxlaw05_DiskLasts.tab94 6 5 (fun sp => sp 5 = s96_5 ∧ sp 2 = s96_2 ∧ sp 4 = s96_4) (fun sp on hA hon => ?_) (fun ops96_5 => ?_)
    · refine ⟨fun o ho vs Rs f' S' w hp hf hx hS hR hs => ?_⟩
      obtain rfl := Option.some.inj ho
      obtain ⟨hv2, hR2⟩ := (spe hA.2.1 hs96_2 (hp 2 (by kernel_rfl)))
      obtain ⟨hv4, hR4⟩ := (spe hA.2.2 hs96_4 (hp 4 (by kernel_rfl)))
      exact opv (.bool (!decide (y100 = y103))) hA.1 hs96_5 hon (fr_next (fr_next (rfl) ((hf 2 157 (by kernel_rfl) rfl).trans hv2)) ((hf 4 159 (by kernel_rfl) rfl).trans hv4))
    obtain ⟨s96_6, hs96_6⟩ := exv (.bool (!decide (y100 = y103)))
    refine have_opa shadowboxlaw05_DiskLasts.tab94 6 6 (fun sp => sp 6 = s96_6 ∧ sp 5 = s96_5) (fun sp on hA hon => ?_) (fun ops96_6 => ?_)
    · refine ⟨fun o ho vs Rs f' S' w hp hf hx hS hR hs => ?_⟩
      obtain rfl := Option.some.inj ho
      obtain ⟨hv5, hR5⟩ := (spe hA.2 hs96_5 (hp 5 (by kernel_rfl)))
      exact opv (.bool (!decide (y100 = y103))) hA.1 hs96_6 hon (fr_next (rfl) ((hf 5 160 (by kernel_rfl) rfl).trans hv5))
    by_cases q105 : y100 = y103
    · replace H := ite_t q105 H
      obtain ⟨s96_7, hs96_7⟩ := exv (.slice x18.1 t16.1.length x18.2)
      refine have_opa shadowboxlaw05_DiskLasts.tab94 6 7 (fun sp => sp 7 = s96_7 ∧ sp 6 = s96_6) (fun sp on hA hon => ?_) (fun ops96_7 => ?_)
      · refine ⟨fun o ho vs Rs f' S' w hp hf hx hS hR hs => ?_⟩
        obtain rfl := Option.some.inj ho
        obtain ⟨hv6, hR6⟩ := (spe hA.2 hs96_6 (hp 6 (by kernel_rfl)))
        rw [hA.1, hs96_7]
        refine And.intro (fun a ha => (want_is (j := 6) (t := 161) (r := true) rfl rfl (by kernel_rfl) (((hf 6 161 (by kernel_rfl) rfl).trans hv6).trans (congrArg Value.bool (show (!decide (y100 = y103)) = false from congrArg Bool.not (dec_t q105)))) rfl a ha).trans hon.symm) (And.intro (fun _ => ?_) (fun h => by rw [hon] at h; cases h))
        have hF := fr_next (fr_next (rfl) ((hx 13 (by kernel_rfl)).trans (by kernel_rfl : (_ : Value) = .slice x18.1 t16.1.length x18.2))) (((hf 6 161 (by kernel_rfl) rfl).trans hv6).trans (congrArg Value.bool (show (!decide (y100 = y103)) = false from congrArg Bool.not (dec_t q105))))
        refine ls_fr hF ?_
        refine lv (.slice x18.1 t16.1.length x18.2) ?_
        exact ls_fin s0 _ (congrArg (fun z => upd z 162 _) hF.symm) ⟨rfl, rfl⟩ (sub_nil _)
      obtain ⟨q106, H⟩ := ite_need H
      refine cs_atro (T := (Ec.int 5 .u8)) (tk := 4) (i := (1 : Int)) (by exact rfl) (by decide) q106 ?_
      intro ad107 hA108
      obtain ⟨s96_8, hs96_8⟩ := exv (.pointer (some (ad107.add (((1 : Int)).toNat * 1))))
      refine have_opa shadowboxlaw05_DiskLasts.tab94 6 8 (fun sp => sp 8 = s96_8 ∧ sp 6 = s96_6 ∧ sp 7 = s96_7) (fun sp on hA hon => ?_) (fun ops96_8 => ?_)
      · refine ⟨fun o ho vs Rs f' S' w hp hf hx hS hR hs => ?_⟩
        obtain rfl := Option.some.inj ho
        obtain ⟨hv6, hR6⟩ := (spe hA.2.1 hs96_6 (hp 6 (by kernel_rfl)))
        obtain ⟨hv7, hR7⟩ := (spe hA.2.2 hs96_7 (hp 7 (by kernel_rfl)))
        rw [hA.1, hs96_8]
        refine And.intro (fun a ha => (want_is (j := 6) (t := 161) (r := true) rfl rfl (by kernel_rfl) (((hf 6 161 (by kernel_rfl) rfl).trans hv6).trans (congrArg Value.bool (show (!decide (y100 = y103)) = false from congrArg Bool.not (dec_t q105)))) rfl a ha).trans hon.symm) (And.intro (fun _ => ?_) (fun h => by rw [hon] at h; cases h))
        have hF := fr_next (fr_next (rfl) (((hf 6 161 (by kernel_rfl) rfl).trans hv6).trans (congrArg Value.bool (show (!decide (y100 = y103)) = false from congrArg Bool.not (dec_t q105))))) ((hf 7 162 (by kernel_rfl) rfl).trans hv7)
        refine ls_fr hF ?_
        refine ls_idxv (Ec.int 5 .u8) (A := x18.1) (c := x18.2) (l := t16.1) (k := .i64) (i := (1 : Int)) (z := 1) (ad := ad107) rfl rfl (by kernel_rfl) hA108 rfl (by kernel_rfl) (by kernel_rfl) (by kernel_rfl) (by kernel_rfl) (by decide) q106 ?_
        exact ls_fin s0 _ (congrArg (fun z => upd z 163 _) hF.symm) ⟨rfl, rfl⟩ (sub_nil _)
      obtain ⟨y109, hy110, H⟩ := lt_some H
      obtain ⟨s96_9, hs96_9⟩ := exv (.int .u8 y109)
      refine have_opa shadowboxlaw05_DiskLasts.tab94 6 9 (fun sp => sp 9 = s96_9 ∧ sp 6 = s96_6 ∧ sp 8 = s96_8) (fun sp on hA hon => ?_) (fun ops96_9 => ?_)
      · refine ⟨fun o ho vs Rs f' S' w hp hf hx hS hR hs => ?_⟩
        obtain rfl := Option.some.inj ho
        obtain ⟨hv6, hR6⟩ := (spe hA.2.1 hs96_6 (hp 6 (by kernel_rfl)))
        obtain ⟨hv8, hR8⟩ := (spe hA.2.2 hs96_8 (hp 8 (by kernel_rfl)))
        rw [hA.1, hs96_9]
        refine And.intro (fun a ha => (want_is (j := 6) (t := 161) (r := true) rfl rfl (by kernel_rfl) (((hf 6 161 (by kernel_rfl) rfl).trans hv6).trans (congrArg Value.bool (show (!decide (y100 = y103)) = false from congrArg Bool.not (dec_t q105)))) rfl a ha).trans hon.symm) (And.intro (fun _ => ?_) (fun h => by rw [hon] at h; cases h))
        have hF := fr_next (fr_next (rfl) (((hf 6 161 (by kernel_rfl) rfl).trans hv6).trans (congrArg Value.bool (show (!decide (y100 = y103)) = false from congrArg Bool.not (dec_t q105))))) ((hf 8 163 (by kernel_rfl) rfl).trans hv8)
        refine ls_fr hF ?_
        refine ls_load (a0 := (ad107.add (((1 : Int)).toNat * 1))) (v := .int .u8 ((t16.1).getD ((1 : Int)).toNat (0 : Int))) (de := (TypeDesc.int .u8)) rfl rfl (by kernel_rfl) rfl (by kernel_rfl) (by kernel_rfl) (by kernel_rfl) (fun w1 hs1 => (Rd.step (hs.rod (k := 4) ((hS 4 (by kernel_rfl)).trans (by exact rfl))) hs1.below.bw).at hA108 (em_sub (Ec.int 5 .u8) t16.1 (i := ((1 : Int)).toNat) (by have h0 : (0 : Int) ≤ (1 : Int) := (by decide); have h1 : (1 : Int) < (t16.1.length : Int) := q106; omega))) ?_
        refine ls_ren 164 (v := .int .u8 ((t16.1).getD ((1 : Int)).toNat (0 : Int))) (v' := .int .u8 y109) (by kernel_rfl) (by rw [hy110]) ?_
        exact ls_fin s0 _ ((upd_upd _ _ _ _).trans (congrArg (fun z => upd z 164 _) hF.symm)) ⟨rfl, rfl⟩ (sub_nil _)
      obtain ⟨q111, H⟩ := ite_need H
      obtain ⟨s96_10, hs96_10⟩ := exv (.pointer (some ⟨g19, (0 + ((1 : Int)).toNat), none⟩))
      refine have_opa shadowboxlaw05_DiskLasts.tab94 6 10 (fun sp => sp 10 = s96_10 ∧ sp 6 = s96_6) (fun sp on hA hon => ?_) (fun ops96_10 => ?_)
      · refine ⟨fun o ho vs Rs f' S' w hp hf hx hS hR hs => ?_⟩
        obtain rfl := Option.some.inj ho
        obtain ⟨hv6, hR6⟩ := (spe hA.2 hs96_6 (hp 6 (by kernel_rfl)))
        rw [hA.1, hs96_10]
        refine And.intro (fun a ha => (want_is (j := 6) (t := 161) (r := true) rfl rfl (by kernel_rfl) (((hf 6 161 (by kernel_rfl) rfl).trans hv6).trans (congrArg Value.bool (show (!decide (y100 = y103)) = false from congrArg Bool.not (dec_t q105)))) rfl a ha).trans hon.symm) (And.intro (fun _ => ?_) (fun h => by rw [hon] at h; cases h))
        have hF := fr_next (fr_next (rfl) ((hx 15 (by kernel_rfl)).trans (by kernel_rfl : (_ : Value) = .pointer (some ⟨g19, 0, none⟩)))) (((hf 6 161 (by kernel_rfl) rfl).trans hv6).trans (congrArg Value.bool (show (!decide (y100 = y103)) = false from congrArg Bool.not (dec_t q105))))
        refine ls_fr hF ?_
        refine ls_idxa1 (g := g19) (off := 0) (i := (1 : Int)) (kk := .i64) (ln := 2) (e := 5) rfl rfl (by kernel_rfl) rfl (by kernel_rfl) (by kernel_rfl) (by kernel_rfl) (by kernel_rfl) (by decide) q111 ?_
        exact ls_fin s0 _ (congrArg (fun z => upd z 165 _) hF.symm) ⟨rfl, rfl⟩ (sub_nil _)
      obtain ⟨y112, hy113, H⟩ := lt_some H
      obtain ⟨s96_11, hs96_11⟩ := exv (.int .u8 y112)
      refine have_opa shadowboxlaw05_DiskLasts.tab94 6 11 (fun sp => sp 11 = s96_11 ∧ sp 6 = s96_6 ∧ sp 10 = s96_10) (fun sp on hA hon => ?_) (fun ops96_11 => ?_)
      · refine ⟨fun o ho vs Rs f' S' w hp hf hx hS hR hs => ?_⟩
        obtain rfl := Option.some.inj ho
        obtain ⟨hv6, hR6⟩ := (spe hA.2.1 hs96_6 (hp 6 (by kernel_rfl)))
        obtain ⟨hv10, hR10⟩ := (spe hA.2.2 hs96_10 (hp 10 (by kernel_rfl)))
        rw [hA.1, hs96_11]
        refine And.intro (fun a ha => (want_is (j := 6) (t := 161) (r := true) rfl rfl (by kernel_rfl) (((hf 6 161 (by kernel_rfl) rfl).trans hv6).trans (congrArg Value.bool (show (!decide (y100 = y103)) = false from congrArg Bool.not (dec_t q105)))) rfl a ha).trans hon.symm) (And.intro (fun _ => ?_) (fun h => by rw [hon] at h; cases h))
        have hF := fr_next (fr_next (rfl) (((hf 6 161 (by kernel_rfl) rfl).trans hv6).trans (congrArg Value.bool (show (!decide (y100 = y103)) = false from congrArg Bool.not (dec_t q105))))) ((hf 10 165 (by kernel_rfl) rfl).trans hv10)
        refine ls_fr hF ?_
        refine ls_load (a0 := ⟨g19, (0 + ((1 : Int)).toNat), none⟩) (v := .int .u8 (m5_9.1.getD ((1 : Int)).toNat (0 : Int))) (de := (TypeDesc.int .u8)) rfl rfl (by kernel_rfl) rfl (by kernel_rfl) (by kernel_rfl) (by kernel_rfl) (fun w1 hs1 => cell_step hs1.below.bw (hs.var (k := 5) ((hS 5 (by kernel_rfl)).trans (by exact rfl)) (Sub4.trans (Sub4.all _) (Sub4.one (i := ((1 : Int)).toNat) (Value.int .u8) m5_9.1 0 (by have := m5_9.2; omega))))) ?_
        refine ls_ren 166 (v := .int .u8 (m5_9.1.getD ((1 : Int)).toNat (0 : Int))) (v' := .int .u8 y112) (by kernel_rfl) (by rw [hy113]) ?_
        exact ls_fin s0 _ ((upd_upd _ _ _ _).trans (congrArg (fun z => upd z 166 _) hF.symm)) ⟨rfl, rfl⟩ (sub_nil _)
      refine cs_draw shadowboxlaw05_DiskLasts.tab94 12 6 (spl [s96_0, s96_1, s96_2, s96_3, s96_4, s96_5, s96_6, s96_7, s96_8, s96_9, s96_10, s96_11]) (onl [true, true, true, true, true, true, true, true, true, true, true, true]) (by kernel_rfl) (by kernel_rfl) (by kernel_rfl) (by kernel_rfl) (rs := [_, _, _, _, _, _, _, _]) rfl (by kernel_rfl) (by kernel_rfl) (all_snoc (all_snoc (all_snoc (all_snoc (all_snoc (all_snoc (all_snoc (all_snoc (all_snoc (all_snoc (all_snoc (all_snoc (all_nil) (ops96_0 _ _ rfl rfl)) (ops96_1 _ _ ⟨rfl, rfl⟩ rfl)) (ops96_2 _ _ ⟨rfl, rfl⟩ rfl)) (ops96_3 _ _ rfl rfl)) (ops96_4 _ _ ⟨rfl, rfl⟩ rfl)) (ops96_5 _ _ ⟨rfl, rfl, rfl⟩ rfl)) (ops96_6 _ _ ⟨rfl, rfl⟩ rfl)) (ops96_7 _ _ ⟨rfl, rfl⟩ rfl)) (ops96_8 _ _ ⟨rfl, rfl, rfl⟩ rfl)) (ops96_9 _ _ ⟨rfl, rfl, rfl⟩ rfl)) (ops96_10 _ _ ⟨rfl, rfl⟩ rfl)) (ops96_11 _ _ ⟨rfl, rfl, rfl⟩ rfl)) ?_
      intro vs Rs f' S' hp hf hx hS hR
      obtain ⟨hv6, hR6⟩ := (spe rfl hs96_6 (hp 6 (by kernel_rfl)))
      obtain ⟨hv9, hR9⟩ := (spe rfl hs96_9 (hp 9 (by kernel_rfl)))
      obtain ⟨hv11, hR11⟩ := (spe rfl hs96_11 (hp 11 (by kernel_rfl)))
      refine ls_fr (F := upd (upd (upd (upd (upd (upd (upd (upd (upd (upd f' 0 (.slice A0 l0.length c0)) 1 (.slice A1 l1.length c1)) 2 (.int .i64 y11)) 9 (.int .i64 y4)) 11 (.pointer (some ⟨x15.1, 0, none⟩))) 12 (.int .i64 x12_5)) 13 (.slice x18.1 t16.1.length x18.2)) 161 (.bool (!decide (y100 = y103)))) 164 (.int .u8 y109)) 166 (.int .u8 y112)) (fr_next (fr_next (fr_next (fr_next (fr_next (fr_next (fr_next (fr_next (fr_next (fr_next (rfl) ((hx 0 (by kernel_rfl)).trans (by kernel_rfl : (_ : Value) = .slice A0 l0.length c0))) ((hx 1 (by kernel_rfl)).trans (by kernel_rfl : (_ : Value) = .slice A1 l1.length c1))) ((hx 2 (by kernel_rfl)).trans (by kernel_rfl : (_ : Value) = .int .i64 y11))) ((hx 9 (by kernel_rfl)).trans (by kernel_rfl : (_ : Value) = .int .i64 y4))) ((hx 11 (by kernel_rfl)).trans (by kernel_rfl : (_ : Value) = .pointer (some ⟨x15.1, 0, none⟩)))) ((hx 12 (by kernel_rfl)).trans (by kernel_rfl : (_ : Value) = .int .i64 x12_5))) ((hx 13 (by kernel_rfl)).trans (by kernel_rfl : (_ : Value) = .slice x18.1 t16.1.length x18.2))) ((hf 6 161 (by kernel_rfl) rfl).trans hv6)) ((hf 9 164 (by kernel_rfl) rfl).trans hv9)) ((hf 11 166 (by kernel_rfl) rfl).trans hv11)) ?_
      refine ls_sub (sput (sput (sput s0 2 (some (Ck.var 34 x15.1 (([Value.slice (some ⟨x15.2.2.1, 0, none⟩) x15.2.2.2.2 x15.2.2.2.1] ++ ([Value.map (some x15.2.1)] ++ ([Value.bool t13.1.1.2.2.1] ++ ([Value.int .i64 t13.1.1.2.2.2.1] ++ [Value.bool t13.1.1.2.2.2.2])))))))) 3 (some (Ck.mr T48 x15.2.1 x15.2.2.1 x15.2.2.2.1 x15.2.2.2.2 t13.1.2))) 4 (some (Ck.ro (Ec.int 5 .u8) x18.1 x18.2 t16.1))) (sub_put ((hS 4 (by kernel_rfl)).trans (by exact rfl)) (sub_put ((hS 3 (by kernel_rfl)).trans (by exact rfl)) (sub_put ((hS 2 (by kernel_rfl)).trans (by exact rfl)) (sub_nil _)))) ?_
      refine ls_know (c := false) (congrArg Bool.not (dec_t q105)) 161 (by kernel_rfl) ?_
      refine ls_on (j := 6) (t := 161) (b := false) rfl rfl (by kernel_rfl) (by kernel_rfl) ?_
      refine lv (.bool (!decide (y109 = y112))) ?_
      refine lv (.bool (!decide (y109 = y112))) ?_
      refine lv (.bool (!decide (y109 = y112))) ?_
      by_cases q114 : y109 = y112
      · replace H := ite_t q114 H
        refine ls_know (c := false) (congrArg Bool.not (dec_t q114)) 169 (by kernel_rfl) ?_
        refine ls_on (j := 14) (t := 169) (b := false) rfl rfl (by kernel_rfl) (by kernel_rfl) ?_
        refine lv (.slice x18.1 t16.1.length x18.2) ?_
        refine ls_on (j := 14) (t := 169) (b := false) rfl rfl (by kernel_rfl) (by kernel_rfl) ?_
        obtain ⟨q115, H⟩ := ite_need H
        refine ls_atro (T := (Ec.int 5 .u8)) (tk := 4) (i := (2 : Int)) (by exact rfl) (by decide) q115 ?_
        intro ad116 hA117
        refine ls_idxv (Ec.int 5 .u8) (A := x18.1) (c := x18.2) (l := t16.1) (k := .i64) (i := (2 : Int)) (z := 1) (ad := ad116) rfl rfl (by kernel_rfl) hA117 rfl (by kernel_rfl) (by kernel_rfl) (by kernel_rfl) (by kernel_rfl) (by decide) q115 ?_
        refine ls_on (j := 14) (t := 169) (b := false) rfl rfl (by kernel_rfl) (by kernel_rfl) ?_
        obtain ⟨y118, hy119, H⟩ := lt_some H
        refine ls_load (a0 := (ad116.add (((2 : Int)).toNat * 1))) (v := .int .u8 ((t16.1).getD ((2 : Int)).toNat (0 : Int))) (de := (TypeDesc.int .u8)) rfl rfl (by kernel_rfl) rfl (by kernel_rfl) (by kernel_rfl) (by kernel_rfl) (fun w hs => (hs.rod (k := 4) (by exact rfl)).at hA117 (em_sub (Ec.int 5 .u8) t16.1 (i := ((2 : Int)).toNat) (by have h0 : (0 : Int) ≤ (2 : Int) := (by decide); have h1 : (2 : Int) < (t16.1.length : Int) := q115; omega))) ?_
        refine ls_ren 172 (v := .int .u8 ((t16.1).getD ((2 : Int)).toNat (0 : Int))) (v' := .int .u8 y118) (by kernel_rfl) (by rw [hy119]) ?_
        refine ls_on (j := 14) (t := 169) (b := false) rfl rfl (by kernel_rfl) (by kernel_rfl) ?_
        refine lv (.bool (!decide (y118 = (0 : Int)))) ?_
        refine lv (.bool (!decide (y118 = (0 : Int)))) ?_
        refine ls_end ?_
        refine qn_then ?_
        by_cases q120 : y118 = (0 : Int)
        · replace H := ite_t q120 H
          refine cs_know (c := false) (congrArg Bool.not (dec_t q120)) 174 (by kernel_rfl) ?_
          refine cs_false (by kernel_rfl) ?_
          refine cs_skip' ?_
          refine qn_block ?_
          refine qn_then ?_
          refine cs_region (l := [_, _, _]) ?_
          refine lv (.int .i64 x12_5) ?_
          refine lv (.int .i64 (IntKind.wrap .i64 (x12_5 + (1 : Int)))) ?_
          refine lv (.int .i64 (IntKind.wrap .i64 (x12_5 + (1 : Int)))) ?_
          refine ls_end ?_
          refine qn_again k5 (sput (sput s0 2 (some (Ck.var 34 x15.1 (([Value.slice (some ⟨x15.2.2.1, 0, none⟩) x15.2.2.2.2 x15.2.2.2.1] ++ ([Value.map (some x15.2.1)] ++ ([Value.bool t13.1.1.2.2.1] ++ ([Value.int .i64 t13.1.1.2.2.2.1] ++ [Value.bool t13.1.1.2.2.2.2])))))))) 3 (some (Ck.mr T48 x15.2.1 x15.2.2.1 x15.2.2.2.1 x15.2.2.2.2 t13.1.2))) (Nat.le_refl _) ⟨_, (IntKind.wrap .i64 (x12_5 + (1 : Int))), fr_next (fr_next (fr_next (fr_next (fr_next (fr_next (rfl) (by kernel_rfl)) (by kernel_rfl)) (by kernel_rfl)) (by kernel_rfl)) (by kernel_rfl)) (by kernel_rfl), rfl, H⟩ (sub_put (by exact rfl) (sub_put (by exact rfl) (sub_nil _)))
        replace H := ite_f q120 H
        refine cs_know (c := true) (congrArg Bool.not (dec_f q120)) 174 (by kernel_rfl) ?_
        refine cs_true (by kernel_rfl) ?_
        refine cs_seq ?_
        refine cs_region (l := [_]) ?_
        refine lv (.bool false) ?_
        refine ls_end ?_
        refine qn_then ?_
        refine cs_ret' ?_
        refine qr_block ?_
        refine qr_then ?_
        refine qr_then ?_
        refine qr_block ?_
        refine qr_then ?_
        obtain rfl := Option.some.inj H
        refine qr_res (rs := [_]) rfl (fun w' hs => ⟨[.bool false], (res_tmp (by kernel_rfl) (.nil)), (), rfl, hs.pick (ts := []) (cs := []) trivial (by decide)⟩)
      replace H := ite_f q114 H
      refine ls_know (c := true) (congrArg Bool.not (dec_f q114)) 169 (by kernel_rfl) ?_
      refine lofx 14 169 false true ?_
      refine lofx 14 169 false true ?_
      refine lofx 14 169 false true ?_
      refine lofx 14 169 false true ?_
      refine lv (.bool true) ?_
      refine ls_end ?_
      refine qn_then ?_
      refine cs_true (by kernel_rfl) ?_
      refine cs_seq ?_
      refine cs_region (l := [_]) ?_
      refine lv (.bool false) ?_
      refine ls_end ?_
      refine qn_then ?_
      refine cs_ret' ?_
      refine qr_block ?_
      refine qr_then ?_
      refine qr_then ?_
      refine qr_block ?_
      refine qr_then ?_
      obtain rfl := Option.some.inj H
      refine qr_res (rs := [_]) rfl (fun w' hs => ⟨[.bool false], (res_tmp (by kernel_rfl) (.nil)), (), rfl, hs.pick (ts := []) (cs := []) trivial (by decide)⟩)
    replace H := ite_f q105 H
    refine cs_draw shadowboxlaw05_DiskLasts.tab94 12 6 (spl [s96_0, s96_1, s96_2, s96_3, s96_4, s96_5, s96_6, spu, spu, spu, spu, spu]) (onl [true, true, true, true, true, true, true, false, false, false, false, false]) (by kernel_rfl) (by kernel_rfl) (by kernel_rfl) (by kernel_rfl) (rs := [_, _, _, _, _, _, _, _]) rfl (by kernel_rfl) (by kernel_rfl) (all_snoc (all_snoc (all_snoc (all_snoc (all_snoc (all_snoc (all_snoc (all_snoc (all_snoc (all_snoc (all_snoc (all_snoc (all_nil) (ops96_0 _ _ rfl rfl)) (ops96_1 _ _ ⟨rfl, rfl⟩ rfl)) (ops96_2 _ _ ⟨rfl, rfl⟩ rfl)) (ops96_3 _ _ rfl rfl)) (ops96_4 _ _ ⟨rfl, rfl⟩ rfl)) (ops96_5 _ _ ⟨rfl, rfl, rfl⟩ rfl)) (ops96_6 _ _ ⟨rfl, rfl⟩ rfl)) (op_offi 7 6 161 false rfl rfl (by kernel_rfl) (by kernel_rfl) rfl (fun v R h => by rw [hs96_6] at h; obtain ⟨h, _⟩ := h; exact h.trans (congrArg Value.bool (show (!decide (y100 = y103)) = true from congrArg Bool.not (dec_f q105)))) rfl rfl)) (op_offi 8 6 161 false rfl rfl (by kernel_rfl) (by kernel_rfl) rfl (fun v R h => by rw [hs96_6] at h; obtain ⟨h, _⟩ := h; exact h.trans (congrArg Value.bool (show (!decide (y100 = y103)) = true from congrArg Bool.not (dec_f q105)))) rfl rfl)) (op_offi 9 6 161 false rfl rfl (by kernel_rfl) (by kernel_rfl) rfl (fun v R h => by rw [hs96_6] at h; obtain ⟨h, _⟩ := h; exact h.trans (congrArg Value.bool (show (!decide (y100 = y103)) = true from congrArg Bool.not (dec_f q105)))) rfl rfl)) (op_offi 10 6 161 false rfl rfl (by kernel_rfl) (by kernel_rfl) rfl (fun v R h => by rw [hs96_6] at h; obtain ⟨h, _⟩ := h; exact h.trans (congrArg Value.bool (show (!decide (y100 = y103)) = true from congrArg Bool.not (dec_f q105)))) rfl rfl)) (op_offi 11 6 161 false rfl rfl (by kernel_rfl) (by kernel_rfl) rfl (fun v R h => by rw [hs96_6] at h; obtain ⟨h, _⟩ := h; exact h.trans (congrArg Value.bool (show (!decide (y100 = y103)) = true from congrArg Bool.not (dec_f q105)))) rfl rfl)) ?_
    intro vs Rs f' S' hp hf hx hS hR
    obtain ⟨hv6, hR6⟩ := (spe rfl hs96_6 (hp 6 (by kernel_rfl)))
    obtain ⟨hv9, hR9⟩ := (spe rfl rfl (hp 9 (by kernel_rfl)) : spu _ _)
    obtain ⟨hv11, hR11⟩ := (spe rfl rfl (hp 11 (by kernel_rfl)) : spu _ _)
    refine ls_fr (F := upd (upd (upd (upd (upd (upd (upd (upd f' 0 (.slice A0 l0.length c0)) 1 (.slice A1 l1.length c1)) 2 (.int .i64 y11)) 9 (.int .i64 y4)) 11 (.pointer (some ⟨x15.1, 0, none⟩))) 12 (.int .i64 x12_5)) 13 (.slice x18.1 t16.1.length x18.2)) 161 (.bool (!decide (y100 = y103)))) (fr_next (fr_next (fr_next (fr_next (fr_next (fr_next (fr_next (fr_next (rfl) ((hx 0 (by kernel_rfl)).trans (by kernel_rfl : (_ : Value) = .slice A0 l0.length c0))) ((hx 1 (by kernel_rfl)).trans (by kernel_rfl : (_ : Value) = .slice A1 l1.length c1))) ((hx 2 (by kernel_rfl)).trans (by kernel_rfl : (_ : Value) = .int .i64 y11))) ((hx 9 (by kernel_rfl)).trans (by kernel_rfl : (_ : Value) = .int .i64 y4))) ((hx 11 (by kernel_rfl)).trans (by kernel_rfl : (_ : Value) = .pointer (some ⟨x15.1, 0, none⟩)))) ((hx 12 (by kernel_rfl)).trans (by kernel_rfl : (_ : Value) = .int .i64 x12_5))) ((hx 13 (by kernel_rfl)).trans (by kernel_rfl : (_ : Value) = .slice x18.1 t16.1.length x18.2))) ((hf 6 161 (by kernel_rfl) rfl).trans hv6)) ?_
    refine ls_sub (sput (sput (sput s0 2 (some (Ck.var 34 x15.1 (([Value.slice (some ⟨x15.2.2.1, 0, none⟩) x15.2.2.2.2 x15.2.2.2.1] ++ ([Value.map (some x15.2.1)] ++ ([Value.bool t13.1.1.2.2.1] ++ ([Value.int .i64 t13.1.1.2.2.2.1] ++ [Value.bool t13.1.1.2.2.2.2])))))))) 3 (some (Ck.mr T48 x15.2.1 x15.2.2.1 x15.2.2.2.1 x15.2.2.2.2 t13.1.2))) 4 (some (Ck.ro (Ec.int 5 .u8) x18.1 x18.2 t16.1))) (sub_put ((hS 4 (by kernel_rfl)).trans (by exact rfl)) (sub_put ((hS 3 (by kernel_rfl)).trans (by exact rfl)) (sub_put ((hS 2 (by kernel_rfl)).trans (by exact rfl)) (sub_nil _)))) ?_
    refine ls_know (c := true) (congrArg Bool.not (dec_f q105)) 161 (by kernel_rfl) ?_
    refine lofx 6 161 false true ?_
    refine lv (.bool true) ?_
    refine lv (.bool true) ?_
    refine lofx 14 169 false true ?_
    refine lofx 14 169 false true ?_
    refine lofx 14 169 false true ?_
    refine lofx 14 169 false true ?_
    refine lv (.bool true) ?_
    refine ls_end ?_
    refine qn_then ?_
    refine cs_true (by kernel_rfl) ?_
    refine cs_seq ?_
    refine cs_region (l := [_]) ?_
    refine lv (.bool false) ?_
    refine ls_end ?_
    refine qn_then ?_
    refine cs_ret' ?_
    refine qr_block ?_
    refine qr_then ?_
    refine qr_then ?_
    refine qr_block ?_
    refine qr_then ?_
    obtain rfl := Option.some.inj H
    refine qr_res (rs := [_]) rfl (fun w' hs => ⟨[.bool false], (res_tmp (by kernel_rfl) (.nil)), (), rfl, hs.pick (ts := []) (cs := []) trivial (by decide)⟩)
  replace H := ite_f q51 H
  refine cs_know (c := false) (Bool.eq_false_iff.mpr q51) 132 (by kernel_rfl) ?_
  refine cs_false (by kernel_rfl) ?_
  refine cs_skip' ?_
  refine qn_then ?_
  refine cs_seq ?_
  obtain ⟨s122_0, hs122_0⟩ := exv (.slice x18.1 t16.1.length x18.2)
  refine have_opa shadowboxlaw05_DiskLasts.tab120 6 0 (fun sp => sp 0 = s122_0) (fun sp on hA hon => ?_) (fun ops122_0 => ?_)
  · refine ⟨fun o ho vs Rs f' S' w hp hf hx hS hR hs => ?_⟩
    obtain rfl := Option.some.inj ho
    exact opv (.slice x18.1 t16.1.length x18.2) hA hs122_0 hon (fr_next (rfl) ((hx 13 (by kernel_rfl)).trans (by kernel_rfl : (_ : Value) = .slice x18.1 t16.1.length x18.2)))
  obtain ⟨q123, H⟩ := ite_need H
  refine cs_atro (T := (Ec.int 5 .u8)) (tk := 4) (i := (0 : Int)) (by exact rfl) (by decide) q123 ?_
  intro ad124 hA125
  obtain ⟨s122_1, hs122_1⟩ := exv (.pointer (some (ad124.add (((0 : Int)).toNat * 1))))
  refine have_opa shadowboxlaw05_DiskLasts.tab120 6 1 (fun sp => sp 1 = s122_1 ∧ sp 0 = s122_0) (fun sp on hA hon => ?_) (fun ops122_1 => ?_)
  · refine ⟨fun o ho vs Rs f' S' w hp hf hx hS hR hs => ?_⟩
    obtain rfl := Option.some.inj ho
    obtain ⟨hv0, hR0⟩ := (spe hA.2 hs122_0 (hp 0 (by kernel_rfl)))
    rw [hA.1, hs122_1]
    refine wn hon ?_
    have hF := fr_next (rfl) ((hf 0 155 (by kernel_rfl) rfl).trans hv0)
    refine ls_fr hF ?_
    refine ls_idxv (Ec.int 5 .u8) (A := x18.1) (c := x18.2) (l := t16.1) (k := .i64) (i := (0 : Int)) (z := 1) (ad := ad124) rfl rfl (by kernel_rfl) hA125 rfl (by kernel_rfl) (by kernel_rfl) (by kernel_rfl) (by kernel_rfl) (by decide) q123 ?_
    exact ls_fin s0 _ (congrArg (fun z => upd z 156 _) hF.symm) ⟨rfl, rfl⟩ (sub_nil _)
  obtain ⟨y126, hy127, H⟩ := lt_some H
  obtain ⟨s122_2, hs122_2⟩ := exv (.int .u8 y126)
  refine have_opa shadowboxlaw05_DiskLasts.tab120 6 2 (fun sp => sp 2 = s122_2 ∧ sp 1 = s122_1) (fun sp on hA hon => ?_) (fun ops122_2 => ?_)
  · refine ⟨fun o ho vs Rs f' S' w hp hf hx hS hR hs => ?_⟩
    obtain rfl := Option.some.inj ho
    obtain ⟨hv1, hR1⟩ := (spe hA.2 hs122_1 (hp 1 (by kernel_rfl)))
    rw [hA.1, hs122_2]
    refine wn hon ?_
    have hF := fr_next (rfl) ((hf 1 156 (by kernel_rfl) rfl).trans hv1)
    refine ls_fr hF ?_
    refine ls_load (a0 := (ad124.add (((0 : Int)).toNat * 1))) (v := .int .u8 ((t16.1).getD ((0 : Int)).toNat (0 : Int))) (de := (TypeDesc.int .u8)) rfl rfl (by kernel_rfl) rfl (by kernel_rfl) (by kernel_rfl) (by kernel_rfl) (fun w1 hs1 => (Rd.step (hs.rod (k := 4) ((hS 4 (by kernel_rfl)).trans (by exact rfl))) hs1.below.bw).at hA125 (em_sub (Ec.int 5 .u8) t16.1 (i := ((0 : Int)).toNat) (by have h0 : (0 : Int) ≤ (0 : Int) := (by decide); have h1 : (0 : Int) < (t16.1.length : Int) := q123; omega))) ?_
    refine ls_ren 157 (v := .int .u8 ((t16.1).getD ((0 : Int)).toNat (0 : Int))) (v' := .int .u8 y126) (by kernel_rfl) (by rw [hy127]) ?_
    exact ls_fin s0 _ ((upd_upd _ _ _ _).trans (congrArg (fun z => upd z 157 _) hF.symm)) ⟨rfl, rfl⟩ (sub_nil _)
  obtain ⟨q128, H⟩ := ite_need H
  obtain ⟨s122_3, hs122_3⟩ := exv (.pointer (some ⟨g19, (0 + ((0 : Int)).toNat), none⟩))
  refine have_opa shadowboxlaw05_DiskLasts.tab120 6 3 (fun sp => sp 3 = s122_3) (fun sp on hA hon => ?_) (fun ops122_3 => ?_)
  · refine ⟨fun o ho vs Rs f' S' w hp hf hx hS hR hs => ?_⟩
    obtain rfl := Option.some.inj ho
    rw [hA, hs122_3]
    refine wn hon ?_
    have hF := fr_next (rfl) ((hx 15 (by kernel_rfl)).trans (by kernel_rfl : (_ : Value) = .pointer (some ⟨g19, 0, none⟩)))
    refine ls_fr hF ?_
    refine ls_idxa1 (g := g19) (off := 0) (i := (0 : Int)) (kk := .i64) (ln := 2) (e := 5) rfl rfl (by kernel_rfl) rfl (by kernel_rfl) (by kernel_rfl) (by kernel_rfl) (by kernel_rfl) (by decide) q128 ?_
    exact ls_fin s0 _ (congrArg (fun z => upd z 158 _) hF.symm) ⟨rfl, rfl⟩ (sub_nil _)
  obtain ⟨y129, hy130, H⟩ := lt_some H
  obtain ⟨s122_4, hs122_4⟩ := exv (.int .u8 y129)
  refine have_opa shadowboxlaw05_DiskLasts.tab120 6 4 (fun sp => sp 4 = s122_4 ∧ sp 3 = s122_3) (fun sp on hA hon => ?_) (fun ops122_4 => ?_)
  · refine ⟨fun o ho vs Rs f' S' w hp hf hx hS hR hs => ?_⟩
    obtain rfl := Option.some.inj ho
    obtain ⟨hv3, hR3⟩ := (spe hA.2 hs122_3 (hp 3 (by kernel_rfl)))
    rw [hA.1, hs122_4]
    refine wn hon ?_
    have hF := fr_next (rfl) ((hf 3 158 (by kernel_rfl) rfl).trans hv3)
    refine ls_fr hF ?_
    refine ls_load (a0 := ⟨g19, (0 + ((0 : Int)).toNat), none⟩) (v := .int .u8 ((⟨[(0 : Int), (0 : Int)], rfl⟩ : (Vc Int 2)).1.getD ((0 : Int)).toNat (0 : Int))) (de := (TypeDesc.int .u8)) rfl rfl (by kernel_rfl) rfl (by kernel_rfl) (by kernel_rfl) (by kernel_rfl) (fun w1 hs1 => cell_step hs1.below.bw (hs.var (k := 5) ((hS 5 (by kernel_rfl)).trans (by exact rfl)) (Sub4.trans (Sub4.all _) (Sub4.one (i := ((0 : Int)).toNat) (Value.int .u8) (⟨[(0 : Int), (0 : Int)], rfl⟩ : (Vc Int 2)).1 0 (by have := (⟨[(0 : Int), (0 : Int)], rfl⟩ : (Vc Int 2)).2; omega))))) ?_
    refine ls_ren 159 (v := .int .u8 ((⟨[(0 : Int), (0 : Int)], rfl⟩ : (Vc Int 2)).1.getD ((0 : Int)).toNat (0 : Int))) (v' := .int .u8 y129) (by kernel_rfl) (by rw [hy130]) ?_
    exact ls_fin s0 _ ((upd_upd _ _ _ _).trans (congrArg (fun z => upd z 159 _) hF.symm)) ⟨rfl, rfl⟩ (sub_nil _)
  obtain ⟨s122_5, hs122_5⟩ := exv (.bool (!decide (y126 = y129)))
  refine have_opa shadowboxlaw05_DiskLasts.tab120 6 5 (fun sp => sp 5 = s122_5 ∧ sp 2 = s122_2 ∧ sp 4 = s122_4) (fun sp on hA hon => ?_) (fun ops122_5 => ?_)
  · refine ⟨fun o ho vs Rs f' S' w hp hf hx hS hR hs => ?_⟩
    obtain rfl := Option.some.inj ho
    obtain ⟨hv2, hR2⟩ := (spe hA.2.1 hs122_2 (hp 2 (by kernel_rfl)))
    obtain ⟨hv4, hR4⟩ := (spe hA.2.2 hs122_4 (hp 4 (by kernel_rfl)))
    exact opv (.bool (!decide (y126 = y129))) hA.1 hs122_5 hon (fr_next (fr_next (rfl) ((hf 2 157 (by kernel_rfl) rfl).trans hv2)) ((hf 4 159 (by kernel_rfl) rfl).trans hv4))
  obtain ⟨s122_6, hs122_6⟩ := exv (.bool (!decide (y126 = y129)))
  refine have_opa shadowboxlaw05_DiskLasts.tab120 6 6 (fun sp => sp 6 = s122_6 ∧ sp 5 = s122_5) (fun sp on hA hon => ?_) (fun ops122_6 => ?_)
  · refine ⟨fun o ho vs Rs f' S' w hp hf hx hS hR hs => ?_⟩
    obtain rfl := Option.some.inj ho
    obtain ⟨hv5, hR5⟩ := (spe hA.2 hs122_5 (hp 5 (by kernel_rfl)))
    exact opv (.bool (!decide (y126 = y129))) hA.1 hs122_6 hon (fr_next (rfl) ((hf 5 160 (by kernel_rfl) rfl).trans hv5))
  by_cases q131 : y126 = y129
  · replace H := ite_t q131 H
    obtain ⟨s122_7, hs122_7⟩ := exv (.slice x18.1 t16.1.length x18.2)
    refine have_opa shadowboxlaw05_DiskLasts.tab120 6 7 (fun sp => sp 7 = s122_7 ∧ sp 6 = s122_6) (fun sp on hA hon => ?_) (fun ops122_7 => ?_)
    · refine ⟨fun o ho vs Rs f' S' w hp hf hx hS hR hs => ?_⟩
      obtain rfl := Option.some.inj ho
      obtain ⟨hv6, hR6⟩ := (spe hA.2 hs122_6 (hp 6 (by kernel_rfl)))
      rw [hA.1, hs122_7]
      refine And.intro (fun a ha => (want_is (j := 6) (t := 161) (r := true) rfl rfl (by kernel_rfl) (((hf 6 161 (by kernel_rfl) rfl).trans hv6).trans (congrArg Value.bool (show (!decide (y126 = y129)) = false from congrArg Bool.not (dec_t q131)))) rfl a ha).trans hon.symm) (And.intro (fun _ => ?_) (fun h => by rw [hon] at h; cases h))
      have hF := fr_next (fr_next (rfl) ((hx 13 (by kernel_rfl)).trans (by kernel_rfl : (_ : Value) = .slice x18.1 t16.1.length x18.2))) (((hf 6 161 (by kernel_rfl) rfl).trans hv6).trans (congrArg Value.bool (show (!decide (y126 = y129)) = false from congrArg Bool.not (dec_t q131))))
      refine ls_fr hF ?_
      refine lv (.slice x18.1 t16.1.length x18.2) ?_
      exact ls_fin s0 _ (congrArg (fun z => upd z 162 _) hF.symm) ⟨rfl, rfl⟩ (sub_nil _)
    obtain ⟨q132, H⟩ := ite_need H
    refine cs_atro (T := (Ec.int 5 .u8)) (tk := 4) (i := (1 : Int)) (by exact rfl) (by decide) q132 ?_
    intro ad133 hA134
    obtain ⟨s122_8, hs122_8⟩ := exv (.pointer (some (ad133.add (((1 : Int)).toNat * 1))))
    refine have_opa shadowboxlaw05_DiskLasts.tab120 6 8 (fun sp => sp 8 = s122_8 ∧ sp 6 = s122_6 ∧ sp 7 = s122_7) (fun sp on hA hon => ?_) (fun ops122_8 => ?_)
    · refine ⟨fun o ho vs Rs f' S' w hp hf hx hS hR hs => ?_⟩
      obtain rfl := Option.some.inj ho
      obtain ⟨hv6, hR6⟩ := (spe hA.2.1 hs122_6 (hp 6 (by kernel_rfl)))
      obtain ⟨hv7, hR7⟩ := (spe hA.2.2 hs122_7 (hp 7 (by kernel_rfl)))
      rw [hA.1, hs122_8]
      refine And.intro (fun a ha => (want_is (j := 6) (t := 161) (r := true) rfl rfl (by kernel_rfl) (((hf 6 161 (by kernel_rfl) rfl).trans hv6).trans (congrArg Value.bool (show (!decide (y126 = y129)) = false from congrArg Bool.not (dec_t q131)))) rfl a ha).trans hon.symm) (And.intro (fun _ => ?_) (fun h => by rw [hon] at h; cases h))
      have hF := fr_next (fr_next (rfl) (((hf 6 161 (by kernel_rfl) rfl).trans hv6).trans (congrArg Value.bool (show (!decide (y126 = y129)) = false from congrArg Bool.not (dec_t q131))))) ((hf 7 162 (by kernel_rfl) rfl).trans hv7)
      refine ls_fr hF ?_
      refine ls_idxv (Ec.int 5 .u8) (A := x18.1) (c := x18.2) (l := t16.1) (k := .i64) (i := (1 : Int)) (z := 1) (ad := ad133) rfl rfl (by kernel_rfl) hA134 rfl (by kernel_rfl) (by kernel_rfl) (by kernel_rfl) (by kernel_rfl) (by decide) q132 ?_
      exact ls_fin s0 _ (congrArg (fun z => upd z 163 _) hF.symm) ⟨rfl, rfl⟩ (sub_nil _)
    obtain ⟨y135, hy136, H⟩ := lt_some H
    obtain ⟨s122_9, hs122_9⟩ := exv (.int .u8 y135)
    refine have_opa shadowboxlaw05_DiskLasts.tab120 6 9 (fun sp => sp 9 = s122_9 ∧ sp 6 = s122_6 ∧ sp 8 = s122_8) (fun sp on hA hon => ?_) (fun ops122_9 => ?_)
    · refine ⟨fun o ho vs Rs f' S' w hp hf hx hS hR hs => ?_⟩
      obtain rfl := Option.some.inj ho
      obtain ⟨hv6, hR6⟩ := (spe hA.2.1 hs122_6 (hp 6 (by kernel_rfl)))
      obtain ⟨hv8, hR8⟩ := (spe hA.2.2 hs122_8 (hp 8 (by kernel_rfl)))
      rw [hA.1, hs122_9]
      refine And.intro (fun a ha => (want_is (j := 6) (t := 161) (r := true) rfl rfl (by kernel_rfl) (((hf 6 161 (by kernel_rfl) rfl).trans hv6).trans (congrArg Value.bool (show (!decide (y126 = y129)) = false from congrArg Bool.not (dec_t q131)))) rfl a ha).trans hon.symm) (And.intro (fun _ => ?_) (fun h => by rw [hon] at h; cases h))
      have hF := fr_next (fr_next (rfl) (((hf 6 161 (by kernel_rfl) rfl).trans hv6).trans (congrArg Value.bool (show (!decide (y126 = y129)) = false from congrArg Bool.not (dec_t q131))))) ((hf 8 163 (by kernel_rfl) rfl).trans hv8)
      refine ls_fr hF ?_
      refine ls_load (a0 := (ad133.add (((1 : Int)).toNat * 1))) (v := .int .u8 ((t16.1).getD ((1 : Int)).toNat (0 : Int))) (de := (TypeDesc.int .u8)) rfl rfl (by kernel_rfl) rfl (by kernel_rfl) (by kernel_rfl) (by kernel_rfl) (fun w1 hs1 => (Rd.step (hs.rod (k := 4) ((hS 4 (by kernel_rfl)).trans (by exact rfl))) hs1.below.bw).at hA134 (em_sub (Ec.int 5 .u8) t16.1 (i := ((1 : Int)).toNat) (by have h0 : (0 : Int) ≤ (1 : Int) := (by decide); have h1 : (1 : Int) < (t16.1.length : Int) := q132; omega))) ?_
      refine ls_ren 164 (v := .int .u8 ((t16.1).getD ((1 : Int)).toNat (0 : Int))) (v' := .int .u8 y135) (by kernel_rfl) (by rw [hy136]) ?_
      exact ls_fin s0 _ ((upd_upd _ _ _ _).trans (congrArg (fun z => upd z 164 _) hF.symm)) ⟨rfl, rfl⟩ (sub_nil _)
    obtain ⟨q137, H⟩ := ite_need H
    obtain ⟨s122_10, hs122_10⟩ := exv (.pointer (some ⟨g19, (0 + ((1 : Int)).toNat), none⟩))
    refine have_opa shadowboxlaw05_DiskLasts.tab120 6 10 (fun sp => sp 10 = s122_10 ∧ sp 6 = s122_6) (fun sp on hA hon => ?_) (fun ops122_10 => ?_)
    · refine ⟨fun o ho vs Rs f' S' w hp hf hx hS hR hs => ?_⟩
      obtain rfl := Option.some.inj ho
      obtain ⟨hv6, hR6⟩ := (spe hA.2 hs122_6 (hp 6 (by kernel_rfl)))
      rw [hA.1, hs122_10]
      refine And.intro (fun a ha => (want_is (j := 6) (t := 161) (r := true) rfl rfl (by kernel_rfl) (((hf 6 161 (by kernel_rfl) rfl).trans hv6).trans (congrArg Value.bool (show (!decide (y126 = y129)) = false from congrArg Bool.not (dec_t q131)))) rfl a ha).trans hon.symm) (And.intro (fun _ => ?_) (fun h => by rw [hon] at h; cases h))
      have hF := fr_next (fr_next (rfl) ((hx 15 (by kernel_rfl)).trans (by kernel_rfl : (_ : Value) = .pointer (some ⟨g19, 0, none⟩)))) (((hf 6 161 (by kernel_rfl) rfl).trans hv6).trans (congrArg Value.bool (show (!decide (y126 = y129)) = false from congrArg Bool.not (dec_t q131))))
      refine ls_fr hF ?_
      refine ls_idxa1 (g := g19) (off := 0) (i := (1 : Int)) (kk := .i64) (ln := 2) (e := 5) rfl rfl (by kernel_rfl) rfl (by kernel_rfl) (by kernel_rfl) (by kernel_rfl) (by kernel_rfl) (by decide) q137 ?_
      exact ls_fin s0 _ (congrArg (fun z => upd z 165 _) hF.symm) ⟨rfl, rfl⟩ (sub_nil _)
    obtain ⟨y138, hy139, H⟩ := lt_some H
    obtain ⟨s122_11, hs122_11⟩ := exv (.int .u8 y138)
    refine have_opa shadowboxlaw05_DiskLasts.tab120 6 11 (fun sp => sp 11 = s122_11 ∧ sp 6 = s122_6 ∧ sp 10 = s122_10) (fun sp on hA hon => ?_) (fun ops122_11 => ?_)
    · refine ⟨fun o ho vs Rs f' S' w hp hf hx hS hR hs => ?_⟩
      obtain rfl := Option.some.inj ho
      obtain ⟨hv6, hR6⟩ := (spe hA.2.1 hs122_6 (hp 6 (by kernel_rfl)))
      obtain ⟨hv10, hR10⟩ := (spe hA.2.2 hs122_10 (hp 10 (by kernel_rfl)))
      rw [hA.1, hs122_11]
      refine And.intro (fun a ha => (want_is (j := 6) (t := 161) (r := true) rfl rfl (by kernel_rfl) (((hf 6 161 (by kernel_rfl) rfl).trans hv6).trans (congrArg Value.bool (show (!decide (y126 = y129)) = false from congrArg Bool.not (dec_t q131)))) rfl a ha).trans hon.symm) (And.intro (fun _ => ?_) (fun h => by rw [hon] at h; cases h))
      have hF := fr_next (fr_next (rfl) (((hf 6 161 (by kernel_rfl) rfl).trans hv6).trans (congrArg Value.bool (show (!decide (y126 = y129)) = false from congrArg Bool.not (dec_t q131))))) ((hf 10 165 (by kernel_rfl) rfl).trans hv10)
      refine ls_fr hF ?_
      refine ls_load (a0 := ⟨g19, (0 + ((1 : Int)).toNat), none⟩) (v := .int .u8 ((⟨[(0 : Int), (0 : Int)], rfl⟩ : (Vc Int 2)).1.getD ((1 : Int)).toNat (0 : Int))) (de := (TypeDesc.int .u8)) rfl rfl (by kernel_rfl) rfl (by kernel_rfl) (by kernel_rfl) (by kernel_rfl) (fun w1 hs1 => cell_step hs1.below.bw (hs.var (k := 5) ((hS 5 (by kernel_rfl)).trans (by exact rfl)) (Sub4.trans (Sub4.all _) (Sub4.one (i := ((1 : Int)).toNat) (Value.int .u8) (⟨[(0 : Int), (0 : Int)], rfl⟩ : (Vc Int 2)).1 0 (by have := (⟨[(0 : Int), (0 : Int)], rfl⟩ : (Vc Int 2)).2; omega))))) ?_
      refine ls_ren 166 (v := .int .u8 ((⟨[(0 : Int), (0 : Int)], rfl⟩ : (Vc Int 2)).1.getD ((1 : Int)).toNat (0 : Int))) (v' := .int .u8 y138) (by kernel_rfl) (by rw [hy139]) ?_
      exact ls_fin s0 _ ((upd_upd _ _ _ _).trans (congrArg (fun z => upd z 166 _) hF.symm)) ⟨rfl, rfl⟩ (sub_nil _)
    refine cs_draw shadowboxlaw05_DiskLasts.tab120 12 6 (spl [s122_0, s122_1, s122_2, s122_3, s122_4, s122_5, s122_6, s122_7, s122_8, s122_9, s122_10, s122_11]) (onl [true, true, true, true, true, true, true, true, true, true, true, true]) (by kernel_rfl) (by kernel_rfl) (by kernel_rfl) (by kernel_rfl) (rs := [_, _, _, _, _, _, _, _]) rfl (by kernel_rfl) (by kernel_rfl) (all_snoc (all_snoc (all_snoc (all_snoc (all_snoc (all_snoc (all_snoc (all_snoc (all_snoc (all_snoc (all_snoc (all_snoc (all_nil) (ops122_0 _ _ rfl rfl)) (ops122_1 _ _ ⟨rfl, rfl⟩ rfl)) (ops122_2 _ _ ⟨rfl, rfl⟩ rfl)) (ops122_3 _ _ rfl rfl)) (ops122_4 _ _ ⟨rfl, rfl⟩ rfl)) (ops122_5 _ _ ⟨rfl, rfl, rfl⟩ rfl)) (ops122_6 _ _ ⟨rfl, rfl⟩ rfl)) (ops122_7 _ _ ⟨rfl, rfl⟩ rfl)) (ops122_8 _ _ ⟨rfl, rfl, rfl⟩ rfl)) (ops122_9 _ _ ⟨rfl, rfl, rfl⟩ rfl)) (ops122_10 _ _ ⟨rfl, rfl⟩ rfl)) (ops122_11 _ _ ⟨rfl, rfl, rfl⟩ rfl)) ?_
    intro vs Rs f' S' hp hf hx hS hR
    obtain ⟨hv6, hR6⟩ := (spe rfl hs122_6 (hp 6 (by kernel_rfl)))
    obtain ⟨hv9, hR9⟩ := (spe rfl hs122_9 (hp 9 (by kernel_rfl)))
    obtain ⟨hv11, hR11⟩ := (spe rfl hs122_11 (hp 11 (by kernel_rfl)))
    refine ls_fr (F := upd (upd (upd (upd (upd (upd (upd (upd (upd (upd f' 0 (.slice A0 l0.length c0)) 1 (.slice A1 l1.length c1)) 2 (.int .i64 y11)) 9 (.int .i64 y4)) 11 (.pointer (some ⟨x15.1, 0, none⟩))) 12 (.int .i64 x12_5)) 13 (.slice x18.1 t16.1.length x18.2)) 161 (.bool (!decide (y126 = y129)))) 164 (.int .u8 y135)) 166 (.int .u8 y138)) (fr_next (fr_next (fr_next (fr_next (fr_next (fr_next (fr_next (fr_next (fr_next (fr_next (rfl) ((hx 0 (by kernel_rfl)).trans (by kernel_rfl : (_ : Value) = .slice A0 l0.length c0))) ((hx 1 (by kernel_rfl)).trans (by kernel_rfl : (_ : Value) = .slice A1 l1.length c1))) ((hx 2 (by kernel_rfl)).trans (by kernel_rfl : (_ : Value) = .int .i64 y11))) ((hx 9 (by kernel_rfl)).trans (by kernel_rfl : (_ : Value) = .int .i64 y4))) ((hx 11 (by kernel_rfl)).trans (by kernel_rfl : (_ : Value) = .pointer (some ⟨x15.1, 0, none⟩)))) ((hx 12 (by kernel_rfl)).trans (by kernel_rfl : (_ : Value) = .int .i64 x12_5))) ((hx 13 (by kernel_rfl)).trans (by kernel_rfl : (_ : Value) = .slice x18.1 t16.1.length x18.2))) ((hf 6 161 (by kernel_rfl) rfl).trans hv6)) ((hf 9 164 (by kernel_rfl) rfl).trans hv9)) ((hf 11 166 (by kernel_rfl) rfl).trans hv11)) ?_
    refine ls_sub (sput (sput (sput s0 2 (some (Ck.var 34 x15.1 (([Value.slice (some ⟨x15.2.2.1, 0, none⟩) x15.2.2.2.2 x15.2.2.2.1] ++ ([Value.map (some x15.2.1)] ++ ([Value.bool t13.1.1.2.2.1] ++ ([Value.int .i64 t13.1.1.2.2.2.1] ++ [Value.bool t13.1.1.2.2.2.2])))))))) 3 (some (Ck.mr T48 x15.2.1 x15.2.2.1 x15.2.2.2.1 x15.2.2.2.2 t13.1.2))) 4 (some (Ck.ro (Ec.int 5 .u8) x18.1 x18.2 t16.1))) (sub_put ((hS 4 (by kernel_rfl)).trans (by exact rfl)) (sub_put ((hS 3 (by kernel_rfl)).trans (by exact rfl)) (sub_put ((hS 2 (by kernel_rfl)).trans (by exact rfl)) (sub_nil _)))) ?_
    refine ls_know (c := false) (congrArg Bool.not (dec_t q131)) 161 (by kernel_rfl) ?_
    refine ls_on (j := 6) (t := 161) (b := false) rfl rfl (by kernel_rfl) (by kernel_rfl) ?_
    refine lv (.bool (!decide (y135 = y138))) ?_
    refine lv (.bool (!decide (y135 = y138))) ?_
    refine lv (.bool (!decide (y135 = y138))) ?_
    by_cases q140 : y135 = y138
    · replace H := ite_t q140 H
      refine ls_know (c := false) (congrArg Bool.not (dec_t q140)) 169 (by kernel_rfl) ?_
      refine ls_on (j := 14) (t := 169) (b := false) rfl rfl (by kernel_rfl) (by kernel_rfl) ?_
      refine lv (.slice x18.1 t16.1.length x18.2) ?_
      refine ls_on (j := 14) (t := 169) (b := false) rfl rfl (by kernel_rfl) (by kernel_rfl) ?_
      obtain ⟨q141, H⟩ := ite_need H
      refine ls_atro (T := (Ec.int 5 .u8)) (tk := 4) (i := (2 : Int)) (by exact rfl) (by decide) q141 ?_
      intro ad142 hA143
      refine ls_idxv (Ec.int 5 .u8) (A := x18.1) (c := x18.2) (l := t16.1) (k := .i64) (i := (2 : Int)) (z := 1) (ad := ad142) rfl rfl (by kernel_rfl) hA143 rfl (by kernel_rfl) (by kernel_rfl) (by kernel_rfl) (by kernel_rfl) (by decide) q141 ?_
      refine ls_on (j := 14) (t := 169) (b := false) rfl rfl (by kernel_rfl) (by kernel_rfl) ?_
      obtain ⟨y144, hy145, H⟩ := lt_some H
      refine ls_load (a0 := (ad142.add (((2 : Int)).toNat * 1))) (v := .int .u8 ((t16.1).getD ((2 : Int)).toNat (0 : Int))) (de := (TypeDesc.int .u8)) rfl rfl (by kernel_rfl) rfl (by kernel_rfl) (by kernel_rfl) (by kernel_rfl) (fun w hs => (hs.rod (k := 4) (by exact rfl)).at hA143 (em_sub (Ec.int 5 .u8) t16.1 (i := ((2 : Int)).toNat) (by have h0 : (0 : Int) ≤ (2 : Int) := (by decide); have h1 : (2 : Int) < (t16.1.length : Int) := q141; omega))) ?_
      refine ls_ren 172 (v := .int .u8 ((t16.1).getD ((2 : Int)).toNat (0 : Int))) (v' := .int .u8 y144) (by kernel_rfl) (by rw [hy145]) ?_
      refine ls_on (j := 14) (t := 169) (b := false) rfl rfl (by kernel_rfl) (by kernel_rfl) ?_
      refine lv (.bool (!decide (y144 = (0 : Int)))) ?_
      refine lv (.bool (!decide (y144 = (0 : Int)))) ?_
      refine ls_end ?_
      refine qn_then ?_
      by_cases q146 : y144 = (0 : Int)
      · replace H := ite_t q146 H
        refine cs_know (c := false) (congrArg Bool.not (dec_t q146)) 174 (by kernel_rfl) ?_
        refine cs_false (by kernel_rfl) ?_
        refine cs_skip' ?_
        refine qn_block ?_
        refine qn_then ?_
        refine cs_region (l := [_, _, _]) ?_
        refine lv (.int .i64 x12_5) ?_
        refine lv (.int .i64 (IntKind.wrap .i64 (x12_5 + (1 : Int)))) ?_
        refine lv (.int .i64 (IntKind.wrap .i64 (x12_5 + (1 : Int)))) ?_
        refine ls_end ?_
        refine qn_again k5 (sput (sput s0 2 (some (Ck.var 34 x15.1 (([Value.slice (some ⟨x15.2.2.1, 0, none⟩) x15.2.2.2.2 x15.2.2.2.1] ++ ([Value.map (some x15.2.1)] ++ ([Value.bool t13.1.1.2.2.1] ++ ([Value.int .i64 t13.1.1.2.2.2.1] ++ [Value.bool t13.1.1.2.2.2.2])))))))) 3 (some (Ck.mr T48 x15.2.1 x15.2.2.1 x15.2.2.2.1 x15.2.2.2.2 t13.1.2))) (Nat.le_refl _) ⟨_, (IntKind.wrap .i64 (x12_5 + (1 : Int))), fr_next (fr_next (fr_next (fr_next (fr_next (fr_next (rfl) (by kernel_rfl)) (by kernel_rfl)) (by kernel_rfl)) (by kernel_rfl)) (by kernel_rfl)) (by kernel_rfl), rfl, H⟩ (sub_put (by exact rfl) (sub_put (by exact rfl) (sub_nil _)))
      replace H := ite_f q146 H
      refine cs_know (c := true) (congrArg Bool.not (dec_f q146)) 174 (by kernel_rfl) ?_
      refine cs_true (by kernel_rfl) ?_
      refine cs_seq ?_
      refine cs_region (l := [_]) ?_
      refine lv (.bool false) ?_
      refine ls_end ?_
      refine qn_then ?_
      refine cs_ret' ?_
      refine qr_block ?_
      refine qr_then ?_
      refine qr_then ?_
      refine qr_block ?_
      refine qr_then ?_
      obtain rfl := Option.some.inj H
      refine qr_res (rs := [_]) rfl (fun w' hs => ⟨[.bool false], (res_tmp (by kernel_rfl) (.nil)), (), rfl, hs.pick (ts := []) (cs := []) trivial (by decide)⟩)
    replace H := ite_f q140 H
    refine ls_know (c := true) (congrArg Bool.not (dec_f q140)) 169 (by kernel_rfl) ?_
    refine lofx 14 169 false true ?_
    refine lofx 14 169 false true ?_
    refine lofx 14 169 false true ?_
    refine lofx 14 169 false true ?_
    refine lv (.bool true) ?_
    refine ls_end ?_
    refine qn_then ?_
    refine cs_true (by kernel_rfl) ?_
    refine cs_seq ?_
    refine cs_region (l := [_]) ?_
    refine lv (.bool false) ?_
    refine ls_end ?_
    refine qn_then ?_
    refine cs_ret' ?_
    refine qr_block ?_
    refine qr_then ?_
    refine qr_then ?_
    refine qr_block ?_
    refine qr_then ?_
    obtain rfl := Option.some.inj H
    refine qr_res (rs := [_]) rfl (fun w' hs => ⟨[.bool false], (res_tmp (by kernel_rfl) (.nil)), (), rfl, hs.pick (ts := []) (cs := []) trivial (by decide)⟩)
  replace H := ite_f q131 H
  refine cs_draw shadowboxlaw05_DiskLasts.tab120 12 6 (spl [s122_0, s122_1, s122_2, s122_3, s122_4, s122_5, s122_6, spu, spu, spu, spu, spu]) (onl [true, true, true, true, true, true, true, false, false, false, false, false]) (by kernel_rfl) (by kernel_rfl) (by kernel_rfl) (by kernel_rfl) (rs := [_, _, _, _, _, _, _, _]) rfl (by kernel_rfl) (by kernel_rfl) (all_snoc (all_snoc (all_snoc (all_snoc (all_snoc (all_snoc (all_snoc (all_snoc (all_snoc (all_snoc (all_snoc (all_snoc (all_nil) (ops122_0 _ _ rfl rfl)) (ops122_1 _ _ ⟨rfl, rfl⟩ rfl)) (ops122_2 _ _ ⟨rfl, rfl⟩ rfl)) (ops122_3 _ _ rfl rfl)) (ops122_4 _ _ ⟨rfl, rfl⟩ rfl)) (ops122_5 _ _ ⟨rfl, rfl, rfl⟩ rfl)) (ops122_6 _ _ ⟨rfl, rfl⟩ rfl)) (op_offi 7 6 161 false rfl rfl (by kernel_rfl) (by kernel_rfl) rfl (fun v R h => by rw [hs122_6] at h; obtain ⟨h, _⟩ := h; exact h.trans (congrArg Value.bool (show (!decide (y126 = y129)) = true from congrArg Bool.not (dec_f q131)))) rfl rfl)) (op_offi 8 6 161 false rfl rfl (by kernel_rfl) (by kernel_rfl) rfl (fun v R h => by rw [hs122_6] at h; obtain ⟨h, _⟩ := h; exact h.trans (congrArg Value.bool (show (!decide (y126 = y129)) = true from congrArg Bool.not (dec_f q131)))) rfl rfl)) (op_offi 9 6 161 false rfl rfl (by kernel_rfl) (by kernel_rfl) rfl (fun v R h => by rw [hs122_6] at h; obtain ⟨h, _⟩ := h; exact h.trans (congrArg Value.bool (show (!decide (y126 = y129)) = true from congrArg Bool.not (dec_f q131)))) rfl rfl)) (op_offi 10 6 161 false rfl rfl (by kernel_rfl) (by kernel_rfl) rfl (fun v R h => by rw [hs122_6] at h; obtain ⟨h, _⟩ := h; exact h.trans (congrArg Value.bool (show (!decide (y126 = y129)) = true from congrArg Bool.not (dec_f q131)))) rfl rfl)) (op_offi 11 6 161 false rfl rfl (by kernel_rfl) (by kernel_rfl) rfl (fun v R h => by rw [hs122_6] at h; obtain ⟨h, _⟩ := h; exact h.trans (congrArg Value.bool (show (!decide (y126 = y129)) = true from congrArg Bool.not (dec_f q131)))) rfl rfl)) ?_
  intro vs Rs f' S' hp hf hx hS hR
  obtain ⟨hv6, hR6⟩ := (spe rfl hs122_6 (hp 6 (by kernel_rfl)))
  obtain ⟨hv9, hR9⟩ := (spe rfl rfl (hp 9 (by kernel_rfl)) : spu _ _)
  obtain ⟨hv11, hR11⟩ := (spe rfl rfl (hp 11 (by kernel_rfl)) : spu _ _)
  refine ls_fr (F := upd (upd (upd (upd (upd (upd (upd (upd f' 0 (.slice A0 l0.length c0)) 1 (.slice A1 l1.length c1)) 2 (.int .i64 y11)) 9 (.int .i64 y4)) 11 (.pointer (some ⟨x15.1, 0, none⟩))) 12 (.int .i64 x12_5)) 13 (.slice x18.1 t16.1.length x18.2)) 161 (.bool (!decide (y126 = y129)))) (fr_next (fr_next (fr_next (fr_next (fr_next (fr_next (fr_next (fr_next (rfl) ((hx 0 (by kernel_rfl)).trans (by kernel_rfl : (_ : Value) = .slice A0 l0.length c0))) ((hx 1 (by kernel_rfl)).trans (by kernel_rfl : (_ : Value) = .slice A1 l1.length c1))) ((hx 2 (by kernel_rfl)).trans (by kernel_rfl : (_ : Value) = .int .i64 y11))) ((hx 9 (by kernel_rfl)).trans (by kernel_rfl : (_ : Value) = .int .i64 y4))) ((hx 11 (by kernel_rfl)).trans (by kernel_rfl : (_ : Value) = .pointer (some ⟨x15.1, 0, none⟩)))) ((hx 12 (by kernel_rfl)).trans (by kernel_rfl : (_ : Value) = .int .i64 x12_5))) ((hx 13 (by kernel_rfl)).trans (by kernel_rfl : (_ : Value) = .slice x18.1 t16.1.length x18.2))) ((hf 6 161 (by kernel_rfl) rfl).trans hv6)) ?_
  refine ls_sub (sput (sput (sput s0 2 (some (Ck.var 34 x15.1 (([Value.slice (some ⟨x15.2.2.1, 0, none⟩) x15.2.2.2.2 x15.2.2.2.1] ++ ([Value.map (some x15.2.1)] ++ ([Value.bool t13.1.1.2.2.1] ++ ([Value.int .i64 t13.1.1.2.2.2.1] ++ [Value.bool t13.1.1.2.2.2.2])))))))) 3 (some (Ck.mr T48 x15.2.1 x15.2.2.1 x15.2.2.2.1 x15.2.2.2.2 t13.1.2))) 4 (some (Ck.ro (Ec.int 5 .u8) x18.1 x18.2 t16.1))) (sub_put ((hS 4 (by kernel_rfl)).trans (by exact rfl)) (sub_put ((hS 3 (by kernel_rfl)).trans (by exact rfl)) (sub_put ((hS 2 (by kernel_rfl)).trans (by exact rfl)) (sub_nil _)))) ?_
  refine ls_know (c := true) (congrArg Bool.not (dec_f q131)) 161 (by kernel_rfl) ?_
  refine lofx 6 161 false true ?_
  refine lv (.bool true) ?_
  refine lv (.bool true) ?_
  refine lofx 14 169 false true ?_
  refine lofx 14 169 false true ?_
  refine lofx 14 169 false true ?_
  refine lofx 14 169 false true ?_
  refine lv (.bool true) ?_
  refine ls_end ?_
  refine qn_then ?_
  refine cs_true (by kernel_rfl) ?_
  refine cs_seq ?_
  refine cs_region (l := [_]) ?_
  refine lv (.bool false) ?_
  refine ls_end ?_
  refine qn_then ?_
  refine cs_ret' ?_
  refine qr_block ?_
  refine qr_then ?_
  refine qr_then ?_
  refine qr_block ?_
  refine qr_then ?_
  obtain rfl := Option.some.inj H
  refine qr_res (rs := [_]) rfl (fun w' hs => ⟨[.bool false], (res_tmp (by kernel_rfl) (.nil)), (), rfl, hs.pick (ts := []) (cs := []) trivial (by decide)⟩)

end Go.Proofs.Ytodfejnjfigkoaa.G
