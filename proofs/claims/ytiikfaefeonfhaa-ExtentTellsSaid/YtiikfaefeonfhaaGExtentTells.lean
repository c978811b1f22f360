/- Printed by a program of this session (sz.py): plain functions, and walks that show that the code comes to them; no condition. -/
import Derived.Test.YtiikfaefeonfhaaProg
import Derived.Test.YtiikfaefeonfhaaTy
import Derived.Test.YtiikfaefeonfhaaG0
import Derived.Test.YtiikfaefeonfhaaG1
import Derived.Test.YtiikfaefeonfhaaG2
set_option linter.unusedVariables false
set_option linter.unusedSimpArgs false
namespace Go.Proofs.Ytiikfaefeonfhaa.G
open Go Go.RowKit Go.Proofs.Ytiikfaefeonfhaa.Sx

/-! ### shadowbox/shadowboxlaw09.ExtentTells: function 4 -/
def shadowboxlaw09_ExtentTells.tab9 : List (List Nat) := [[], [], [0, 1], [], [], [0, 1, 2, 3, 4], [0, 1, 2, 3, 4, 5], [0, 1, 2, 3, 4, 5, 6], [0, 1, 2, 3, 4, 5, 6, 7], [0, 1, 2, 3, 4, 5, 6, 7], [0, 1, 2, 3, 4, 5, 6, 7, 8, 9], [0, 1, 2, 3, 4, 5, 6, 7], [0, 1, 2, 3, 4, 5, 6, 7], [0, 1, 2, 3, 4, 5, 6, 7, 8, 9, 10, 11, 12], [0, 1, 2, 3, 4, 5, 6, 7, 8, 9, 10, 11, 12, 13], [0, 1, 2, 3, 4, 5, 6, 7, 8, 9, 10, 11, 12, 13, 14], [0, 1, 2, 3, 4, 5, 6, 7, 8, 9, 10, 11, 12, 13, 14, 15], [0, 1, 2, 3, 4, 5, 6, 7, 8, 9, 10, 11, 12, 13, 14, 15, 16], [0, 1, 2, 3, 4, 5, 6, 7, 8, 9, 10, 11, 12, 13, 14, 15, 16], [0, 1, 2, 3, 4, 5, 6, 7, 8, 9, 10, 11, 12, 13, 14, 15, 16, 17, 18], [0, 1, 2, 3, 4, 5, 6, 7, 8, 9, 10, 11, 12, 13, 14, 15, 16], [0, 1, 2, 3, 4, 5, 6, 7, 8, 9, 10, 11, 12, 13, 14, 15, 16], [0, 1, 2, 3, 4, 5, 6, 7, 8, 9, 10, 11, 12, 13, 14, 15, 16, 17, 18, 19, 20, 21], [0, 1, 2, 3, 4, 5, 6, 7, 8, 9, 10, 11, 12, 13, 14, 15, 16, 17, 18, 19, 20, 21, 22], [0, 1, 2, 3, 4, 5, 6, 7, 8, 9, 10, 11, 12, 13, 14, 15, 16, 17, 18, 19, 20, 21, 22, 23], [0, 1, 2, 3, 4, 5, 6, 7, 8, 9, 10, 11, 12, 13, 14, 15, 16, 17, 18, 19, 20, 21, 22, 23, 24], [0, 1, 2, 3, 4, 5, 6, 7, 8, 9, 10, 11, 12, 13, 14, 15, 16, 17, 18, 19, 20, 21, 22, 23, 24, 25], [0, 1, 2, 3, 4, 5, 6, 7, 8, 9, 10, 11, 12, 13, 14, 15, 16, 17, 18, 19, 20, 21, 22, 23, 24, 25], [0, 1, 2, 3, 4, 5, 6, 7, 8, 9, 10, 11, 12, 13, 14, 15, 16, 17, 18, 19, 20, 21, 22, 23, 24, 25, 26, 27], [0, 1, 2, 3, 4, 5, 6, 7, 8, 9, 10, 11, 12, 13, 14, 15, 16, 17, 18, 19, 20, 21, 22, 23, 24, 25], [0, 1, 2, 3, 4, 5, 6, 7, 8, 9, 10, 11, 12, 13, 14, 15, 16, 17, 18, 19, 20, 21, 22, 23, 24, 25], [0, 1, 2, 3, 4, 5, 6, 7, 8, 9, 10, 11, 12, 13, 14, 15, 16, 17, 18, 19, 20, 21, 22, 23, 24, 25, 26, 27, 28, 29, 30], [0, 1, 2, 3, 4, 5, 6, 7, 8, 9, 10, 11, 12, 13, 14, 15, 16, 17, 18, 19, 20, 21, 22, 23, 24, 25, 26, 27, 28, 29, 30, 31], [0, 1, 2, 3, 4, 5, 6, 7, 8, 9, 10, 11, 12, 13, 14, 15, 16, 17, 18, 19, 20, 21, 22, 23, 24, 25, 26, 27, 28, 29, 30, 31, 32], [0, 1, 2, 3, 4, 5, 6, 7, 8, 9, 10, 11, 12, 13, 14, 15, 16, 17, 18, 19, 20, 21, 22, 23, 24, 25, 26, 27, 28, 29, 30, 31, 32, 33], [0, 1, 2, 3, 4, 5, 6, 7, 8, 9, 10, 11, 12, 13, 14, 15, 16, 17, 18, 19, 20, 21, 22, 23, 24, 25, 26, 27, 28, 29, 30, 31, 32, 33, 34], [0, 1, 2, 3, 4, 5, 6, 7, 8, 9, 10, 11, 12, 13, 14, 15, 16, 17, 18, 19, 20, 21, 22, 23, 24, 25, 26, 27, 28, 29, 30, 31, 32, 33, 34, 35], [0, 1, 2, 3, 4, 5, 6, 7, 8, 9, 10, 11, 12, 13, 14, 15, 16, 17, 18, 19, 20, 21, 22, 23, 24, 25, 26, 27, 28, 29, 30, 31, 32, 33, 34], [0, 1, 2, 3, 4, 5, 6, 7, 8, 9, 10, 11, 12, 13, 14, 15, 16, 17, 18, 19, 20, 21, 22, 23, 24, 25, 26, 27, 28, 29, 30, 31, 32, 33, 34, 35, 36, 37], [0, 1, 2, 3, 4, 5, 6, 7, 8, 9, 10, 11, 12, 13, 14, 15, 16, 17, 18, 19, 20, 21, 22, 23, 24, 25, 26, 27, 28, 29, 30, 31, 32, 33, 34, 35, 36, 37, 38], [0, 1, 2, 3, 4, 5, 6, 7, 8, 9, 10, 11, 12, 13, 14, 15, 16, 17, 18, 19, 20, 21, 22, 23, 24, 25, 26, 27, 28, 29, 30, 31, 32, 33, 34, 35, 36, 37, 38, 39], [0, 1, 2, 3, 4, 5, 6, 7, 8, 9, 10, 11, 12, 13, 14, 15, 16, 17, 18, 19, 20, 21, 22, 23, 24, 25, 26, 27, 28, 29, 30, 31, 32, 33, 34, 35, 36, 37, 38, 39, 40], [0, 1, 2, 3, 4, 5, 6, 7, 8, 9, 10, 11, 12, 13, 14, 15, 16, 17, 18, 19, 20, 21, 22, 23, 24, 25, 26, 27, 28, 29, 30, 31, 32, 33, 34, 35, 36, 37, 38, 39, 40, 41], [0, 1, 2, 3, 4, 5, 6, 7, 8, 9, 10, 11, 12, 13, 14, 15, 16, 17, 18, 19, 20, 21, 22, 23, 24, 25, 26, 27, 28, 29, 30, 31, 32, 33, 34, 35, 36, 37, 38, 39, 40, 41, 42], [0, 1, 2, 3, 4, 5, 6, 7, 8, 9, 10, 11, 12, 13, 14, 15, 16, 17, 18, 19, 20, 21, 22, 23, 24, 25, 26, 27, 28, 29, 30, 31, 32, 33, 34, 35, 36, 37, 38, 39, 40, 41], [0, 1, 2, 3, 4, 5, 6, 7, 8, 9, 10, 11, 12, 13, 14, 15, 16, 17, 18, 19, 20, 21, 22, 23, 24, 25, 26, 27, 28, 29, 30, 31, 32, 33, 34, 35, 36, 37, 38, 39, 40, 41, 42, 43, 44], [0, 1, 2, 3, 4, 5, 6, 7, 8, 9, 10, 11, 12, 13, 14, 15, 16, 17, 18, 19, 20, 21, 22, 23, 24, 25, 26, 27, 28, 29, 30, 31, 32, 33, 34, 35, 36, 37, 38, 39, 40, 41, 42, 43, 44, 45], [0, 1, 2, 3, 4, 5, 6, 7, 8, 9, 10, 11, 12, 13, 14, 15, 16, 17, 18, 19, 20, 21, 22, 23, 24, 25, 26, 27, 28, 29, 30, 31, 32, 33, 34, 35, 36, 37, 38, 39, 40, 41, 42, 43, 44, 45, 46], [0, 1, 2, 3, 4, 5, 6, 7, 8, 9, 10, 11, 12, 13, 14, 15, 16, 17, 18, 19, 20, 21, 22, 23, 24, 25, 26, 27, 28, 29, 30, 31, 32, 33, 34, 35, 36, 37, 38, 39, 40, 41, 42, 43, 44, 45, 46, 47], [0, 1, 2, 3, 4, 5, 6, 7, 8, 9, 10, 11, 12, 13, 14, 15, 16, 17, 18, 19, 20, 21, 22, 23, 24, 25, 26, 27, 28, 29, 30, 31, 32, 33, 34, 35, 36, 37, 38, 39, 40, 41, 42, 43, 44, 45, 46, 47, 48], [0, 1, 2, 3, 4, 5, 6, 7, 8, 9, 10, 11, 12, 13, 14, 15, 16, 17, 18, 19, 20, 21, 22, 23, 24, 25, 26, 27, 28, 29, 30, 31, 32, 33, 34, 35, 36, 37, 38, 39, 40, 41, 42, 43, 44, 45, 46, 47, 48], [0, 1, 2, 3, 4, 5, 6, 7, 8, 9, 10, 11, 12, 13, 14, 15, 16, 17, 18, 19, 20, 21, 22, 23, 24, 25, 26, 27, 28, 29, 30, 31, 32, 33, 34, 35, 36, 37, 38, 39, 40, 41, 42, 43, 44, 45, 46, 47, 48, 49, 50], [0, 1, 2, 3, 4, 5, 6, 7, 8, 9, 10, 11, 12, 13, 14, 15, 16, 17, 18, 19, 20, 21, 22, 23, 24, 25, 26, 27, 28, 29, 30, 31, 32, 33, 34, 35, 36, 37, 38, 39, 40, 41, 42, 43, 44, 45, 46, 47, 48], [0, 1, 2, 3, 4, 5, 6, 7, 8, 9, 10, 11, 12, 13, 14, 15, 16, 17, 18, 19, 20, 21, 22, 23, 24, 25, 26, 27, 28, 29, 30, 31, 32, 33, 34, 35, 36, 37, 38, 39, 40, 41, 42, 43, 44, 45, 46, 47, 48], [0, 1, 2, 3, 4, 5, 6, 7, 8, 9, 10, 11, 12, 13, 14, 15, 16, 17, 18, 19, 20, 21, 22, 23, 24, 25, 26, 27, 28, 29, 30, 31, 32, 33, 34, 35, 36, 37, 38, 39, 40, 41, 42, 43, 44, 45, 46, 47, 48, 49, 50, 51, 52, 53], [0, 1, 2, 3, 4, 5, 6, 7, 8, 9, 10, 11, 12, 13, 14, 15, 16, 17, 18, 19, 20, 21, 22, 23, 24, 25, 26, 27, 28, 29, 30, 31, 32, 33, 34, 35, 36, 37, 38, 39, 40, 41, 42, 43, 44, 45, 46, 47, 48, 49, 50, 51, 52, 53, 54], [0, 1, 2, 3, 4, 5, 6, 7, 8, 9, 10, 11, 12, 13, 14, 15, 16, 17, 18, 19, 20, 21, 22, 23, 24, 25, 26, 27, 28, 29, 30, 31, 32, 33, 34, 35, 36, 37, 38, 39, 40, 41, 42, 43, 44, 45, 46, 47, 48, 49, 50, 51, 52, 53, 54, 55], [0, 1, 2, 3, 4, 5, 6, 7, 8, 9, 10, 11, 12, 13, 14, 15, 16, 17, 18, 19, 20, 21, 22, 23, 24, 25, 26, 27, 28, 29, 30, 31, 32, 33, 34, 35, 36, 37, 38, 39, 40, 41, 42, 43, 44, 45, 46, 47, 48, 49, 50, 51, 52, 53, 54, 55, 56], [0, 1, 2, 3, 4, 5, 6, 7, 8, 9, 10, 11, 12, 13, 14, 15, 16, 17, 18, 19, 20, 21, 22, 23, 24, 25, 26, 27, 28, 29, 30, 31, 32, 33, 34, 35, 36, 37, 38, 39, 40, 41, 42, 43, 44, 45, 46, 47, 48, 49, 50, 51, 52, 53, 54, 55, 56, 57], [0, 1, 2, 3, 4, 5, 6, 7, 8, 9, 10, 11, 12, 13, 14, 15, 16, 17, 18, 19, 20, 21, 22, 23, 24, 25, 26, 27, 28, 29, 30, 31, 32, 33, 34, 35, 36, 37, 38, 39, 40, 41, 42, 43, 44, 45, 46, 47, 48, 49, 50, 51, 52, 53, 54, 55, 56, 57, 58], [0, 1, 2, 3, 4, 5, 6, 7, 8, 9, 10, 11, 12, 13, 14, 15, 16, 17, 18, 19, 20, 21, 22, 23, 24, 25, 26, 27, 28, 29, 30, 31, 32, 33, 34, 35, 36, 37, 38, 39, 40, 41, 42, 43, 44, 45, 46, 47, 48, 49, 50, 51, 52, 53, 54, 55, 56, 57, 58, 59], [0, 1, 2, 3, 4, 5, 6, 7, 8, 9, 10, 11, 12, 13, 14, 15, 16, 17, 18, 19, 20, 21, 22, 23, 24, 25, 26, 27, 28, 29, 30, 31, 32, 33, 34, 35, 36, 37, 38, 39, 40, 41, 42, 43, 44, 45, 46, 47, 48, 49, 50, 51, 52, 53, 54, 55, 56, 57, 58, 59, 60], [0, 1, 2, 3, 4, 5, 6, 7, 8, 9, 10, 11, 12, 13, 14, 15, 16, 17, 18, 19, 20, 21, 22, 23, 24, 25, 26, 27, 28, 29, 30, 31, 32, 33, 34, 35, 36, 37, 38, 39, 40, 41, 42, 43, 44, 45, 46, 47, 48, 49, 50, 51, 52, 53, 54, 55, 56, 57, 58, 59, 60, 61], [0, 1, 2, 3, 4, 5, 6, 7, 8, 9, 10, 11, 12, 13, 14, 15, 16, 17, 18, 19, 20, 21, 22, 23, 24, 25, 26, 27, 28, 29, 30, 31, 32, 33, 34, 35, 36, 37, 38, 39, 40, 41, 42, 43, 44, 45, 46, 47, 48, 49, 50, 51, 52, 53, 54, 55, 56, 57, 58, 59, 60, 61, 62], [0, 1, 2, 3, 4, 5, 6, 7, 8, 9, 10, 11, 12, 13, 14, 15, 16, 17, 18, 19, 20, 21, 22, 23, 24, 25, 26, 27, 28, 29, 30, 31, 32, 33, 34, 35, 36, 37, 38, 39, 40, 41, 42, 43, 44, 45, 46, 47, 48, 49, 50, 51, 52, 53, 54, 55, 56, 57, 58, 59, 60, 61, 62, 63], [0, 1, 2, 3, 4, 5, 6, 7, 8, 9, 10, 11, 12, 13, 14, 15, 16, 17, 18, 19, 20, 21, 22, 23, 24, 25, 26, 27, 28, 29, 30, 31, 32, 33, 34, 35, 36, 37, 38, 39, 40, 41, 42, 43, 44, 45, 46, 47, 48, 49, 50, 51, 52, 53, 54, 55, 56, 57, 58, 59, 60, 61, 62, 63, 64], [0, 1, 2, 3, 4, 5, 6, 7, 8, 9, 10, 11, 12, 13, 14, 15, 16, 17, 18, 19, 20, 21, 22, 23, 24, 25, 26, 27, 28, 29, 30, 31, 32, 33, 34, 35, 36, 37, 38, 39, 40, 41, 42, 43, 44, 45, 46, 47, 48, 49, 50, 51, 52, 53, 54, 55, 56, 57, 58, 59, 60, 61, 62, 63, 64, 65], [0, 1, 2, 3, 4, 5, 6, 7, 8, 9, 10, 11, 12, 13, 14, 15, 16, 17, 18, 19, 20, 21, 22, 23, 24, 25, 26, 27, 28, 29, 30, 31, 32, 33, 34, 35, 36, 37, 38, 39, 40, 41, 42, 43, 44, 45, 46, 47, 48, 49, 50, 51, 52, 53, 54, 55, 56, 57, 58, 59, 60, 61, 62, 63, 64, 65, 66], [0, 1, 2, 3, 4, 5, 6, 7, 8, 9, 10, 11, 12, 13, 14, 15, 16, 17, 18, 19, 20, 21, 22, 23, 24, 25, 26, 27, 28, 29, 30, 31, 32, 33, 34, 35, 36, 37, 38, 39, 40, 41, 42, 43, 44, 45, 46, 47, 48, 49, 50, 51, 52, 53, 54, 55, 56, 57, 58, 59, 60, 61, 62, 63, 64, 65, 66, 67], [0, 1, 2, 3, 4, 5, 6, 7, 8, 9, 10, 11, 12, 13, 14, 15, 16, 17, 18, 19, 20, 21, 22, 23, 24, 25, 26, 27, 28, 29, 30, 31, 32, 33, 34, 35, 36, 37, 38, 39, 40, 41, 42, 43, 44, 45, 46, 47, 48, 49, 50, 51, 52, 53, 54, 55, 56, 57, 58, 59, 60, 61, 62, 63, 64, 65, 66, 67, 68]]
def shadowboxlaw09_ExtentTells.jo1 (k : Nat) (a1 : (Int × Int)) (a2 : Int) (l0_1 : List (Int × Int)) : Option (Bool) := (shadowboxlaw09_own.f k l0_1).bind fun t2 => (extent_Add.f k ([((2 : Int), (5 : Int))]) ((5 : Int), (7 : Int))).bind fun t7 => (extent_Add.f k l0_1 a1).bind fun t12 => (shadowboxref09_Add.f k t2 a1).bind fun t15 => (shadowboxlaw09_same.f k t12 t15).bind fun t18 => (if t18 = true then (extent_Remove.f k l0_1 a1).bind fun t22 => (shadowboxref09_Remove.f k t2 a1).bind fun t25 => (shadowboxlaw09_same.f k t22 t25).bind fun t28 => (if t28 = true then (extent_Has.f k l0_1 a1).bind fun t32 => (shadowboxref09_Has.f k t2 a1).bind fun t35 => (if (t32 == t35) = true then (extent_Meets.f k l0_1 a1).bind fun t39 => (shadowboxref09_Meets.f k t2 a1).bind fun t42 => (if (t39 == t42) = true then (extent_Valid.f k l0_1).bind fun t46 => (shadowboxref09_Valid.f k t2).bind fun t49 => (if (t46 == t49) = true then (extent_Total.f k l0_1).bind fun t53 => (shadowboxref09_Total.f k t2).bind fun t56 => (if t53 = t56 then (extent_Find.f k l0_1 a2).bind fun t60 => (shadowboxref09_Find.f k t2 a2).bind fun t63 => (if t60 = t63 then (if (t7.length : Int) = (1 : Int) then (if (0 : Int) < (t7.length : Int) then lt (((t7).getD ((0 : Int)).toNat ((0 : Int), (0 : Int))).2) fun y71 => some (decide (y71 = (7 : Int))) else none) else some false) else some false) else some false) else some false) else some false) else some false) else some false) else some false)
def shadowboxlaw09_ExtentTells.f (k : Nat) (l0 : List (Int × Int)) (a1 : (Int × Int)) (a2 : Int) : Option (Bool) :=
  (if (l0.length : Int) > (500 : Int) then (if (500 : Int) ≤ (l0.length : Int) then lt (l0.take ((500 : Int)).toNat) fun xl79 => (shadowboxlaw09_ExtentTells.jo1 k a1 a2) xl79 else none) else (shadowboxlaw09_ExtentTells.jo1 k a1 a2) l0)
set_option maxRecDepth 100000 in
set_option maxHeartbeats 4000000 in
theorem shadowboxlaw09_ExtentTells.calls (k : Nat) (A0 : Option Addr) (c0 : Nat) (l0 : List (Int × Int)) (a1 : (Int × Int)) (a2 : Int) (r : Bool) (b : Bs) (hs0 : St b (stl []) b.w) (R0 : Ro b A0 (em T24 l0)) (C0 : l0.length ≤ c0) (H : shadowboxlaw09_ExtentTells.f k l0 a1 a2 = some r) :
    Calls Try.prog 4 #[.slice A0 l0.length c0, .agg ⟨([Value.int .i64 a1.1] ++ [Value.int .i64 a1.2])⟩, .int .i64 a2] b.w fun e w' => ∃ x : Unit, e = .returned (.bool r) ∧ St b (stl []) w' := by
  unfold shadowboxlaw09_ExtentTells.f at H
  refine enterb (n := 91) Try.func4 rfl (by kernel_rfl) (by kernel_rfl) hs0 ?_
  refine cs_sub (s0) (sub_nil _) ?_
  refine cs_seq ?_
  refine cs_region (l := [_, _]) ?_
  refine ls_new rfl rfl (by kernel_rfl) 0 (fun g => .pointer (some ⟨g, 0, none⟩)) (.cells ⟨([Value.int .i64 a1.1] ++ [Value.int .i64 a1.2])⟩ 24) (fun w => by kernel_rfl) ?_
  intro g1
  refine ls_val (v := .bool false) rfl rfl (by kernel_rfl) (fun w => by kernel_rfl) ?_
  refine ls_end ?_
  refine qn_then ?_
  refine cs_cut (fun f S => ∃ (fR : Fr) (A0_1 : Option Addr) (c0_1 : Nat) (l0_1 : List (Int × Int)), f = upd (upd (upd fR 0 (.slice A0_1 l0_1.length c0_1)) 2 (.int .i64 a2)) 4 (.pointer (some ⟨g1, 0, none⟩)) ∧ S = sput s0 0 (some (Ck.var 24 g1 (([Value.int .i64 a1.1] ++ [Value.int .i64 a1.2])))) ∧ Ro b A0_1 (em T24 l0_1) ∧ l0_1.length ≤ c0_1 ∧ shadowboxlaw09_ExtentTells.jo1 k a1 a2 l0_1 = some r) ?_ ?_
  · skip
    refine cs_seq ?_
    refine cs_region (l := [_, _, _]) ?_
    refine ls_val (v := .slice A0 l0.length c0) rfl rfl (by kernel_rfl) (fun w => by kernel_rfl) ?_
    refine ls_val (v := .int .i64 (l0.length : Int)) rfl rfl (by kernel_rfl) (fun w => by kernel_rfl) ?_
    refine ls_val (v := .bool (decide ((l0.length : Int) > (500 : Int)))) rfl rfl (by kernel_rfl) (fun w => by kernel_rfl) ?_
    refine ls_end ?_
    refine qn_then ?_
    by_cases q73 : (l0.length : Int) > (500 : Int)
    · replace H := ite_t q73 H
      refine cs_know (c := true) (dec_t q73) 12 (by kernel_rfl) ?_
      refine cs_true (by kernel_rfl) ?_
      refine cs_region (l := [_, _, _]) ?_
      refine ls_val (v := .slice A0 l0.length c0) rfl rfl (by kernel_rfl) (fun w => by kernel_rfl) ?_
      obtain ⟨q74, H⟩ := ite_need H
      obtain ⟨xl79, hy80, H⟩ := lt_some H
      have hz82 : 0 ≤ ((500 : Int)).toNat := by omega
      have hz83 : ((500 : Int)).toNat ≤ l0.length := by omega
      obtain ⟨xA75, xc76, he81, xC78, xR77⟩ := cut_at (A := A0) (c := c0) (l := l0) T24 0 (((500 : Int)).toNat) hz82 hz83 C0 R0 (m := xl79) (by rw [← hy80] <;> simp) (z := 2) rfl
      refine ls_cutv (A := A0) (c := c0) (m := l0.length) (z := 2) (e := 24) (a := 0) (b := ((500 : Int)).toNat) rfl rfl (by kernel_rfl) rfl (by kernel_rfl) (by kernel_rfl) (by kernel_rfl) (.inl ⟨rfl, rfl⟩) (.inr ⟨.i64, by rw [Int.toNat_of_nonneg (by first | assumption | omega)]; kernel_rfl⟩) hz82 hz83 C0 he81 ?_
      refine ls_val (v := .slice xA75 xl79.length xc76) rfl rfl (by kernel_rfl) (fun w => by kernel_rfl) ?_
      refine ls_end ?_
      refine qn_meet (sput s0 0 (some (Ck.var 24 g1 (([Value.int .i64 a1.1] ++ [Value.int .i64 a1.2]))))) ⟨_, xA75, xc76, xl79, fr_next (fr_next (fr_next (rfl) (by kernel_rfl)) (by kernel_rfl)) (by kernel_rfl), rfl, xR77, xC78, H⟩ (sub_put (by exact rfl) (sub_nil _))
    · replace H := ite_f q73 H
      refine cs_know (c := false) (dec_f q73) 12 (by kernel_rfl) ?_
      refine cs_false (by kernel_rfl) ?_
      refine cs_skip' ?_
      refine qn_meet (sput s0 0 (some (Ck.var 24 g1 (([Value.int .i64 a1.1] ++ [Value.int .i64 a1.2]))))) ⟨_, A0, c0, l0, fr_next (fr_next (fr_next (rfl) (by kernel_rfl)) (by kernel_rfl)) (by kernel_rfl), rfl, R0, C0, H⟩ (sub_put (by exact rfl) (sub_nil _))
  · rintro f S ⟨fr1, A0_1, c0_1, l0_1, rfl, rfl, R0_1, C0_1, H⟩
    replace H : ((shadowboxlaw09_own.f k l0_1).bind fun t2 => (extent_Add.f k ([((2 : Int), (5 : Int))]) ((5 : Int), (7 : Int))).bind fun t7 => (extent_Add.f k l0_1 a1).bind fun t12 => (shadowboxref09_Add.f k t2 a1).bind fun t15 => (shadowboxlaw09_same.f k t12 t15).bind fun t18 => (if t18 = true then (extent_Remove.f k l0_1 a1).bind fun t22 => (shadowboxref09_Remove.f k t2 a1).bind fun t25 => (shadowboxlaw09_same.f k t22 t25).bind fun t28 => (if t28 = true then (extent_Has.f k l0_1 a1).bind fun t32 => (shadowboxref09_Has.f k t2 a1).bind fun t35 => (if (t32 == t35) = true then (extent_Meets.f k l0_1 a1).bind fun t39 => (shadowboxref09_Meets.f k t2 a1).bind fun t42 => (if (t39 == t42) = true then (extent_Valid.f k l0_1).bind fun t46 => (shadowboxref09_Valid.f k t2).bind fun t49 => (if (t46 == t49) = true then (extent_Total.f k l0_1).bind fun t53 => (shadowboxref09_Total.f k t2).bind fun t56 => (if t53 = t56 then (extent_Find.f k l0_1 a2).bind fun t60 => (shadowboxref09_Find.f k t2 a2).bind fun t63 => (if t60 = t63 then (if (t7.length : Int) = (1 : Int) then (if (0 : Int) < (t7.length : Int) then lt (((t7).getD ((0 : Int)).toNat ((0 : Int), (0 : Int))).2) fun y71 => some (decide (y71 = (7 : Int))) else none) else some false) else some false) else some false) else some false) else some false) else some false) else some false) else some false)) = some r := H
    refine cs_seq ?_
    refine cs_region (l := [_, _, _]) ?_
    refine ls_val (v := .slice A0_1 l0_1.length c0_1) rfl rfl (by kernel_rfl) (fun w => by kernel_rfl) ?_
    obtain ⟨t2, hc3, H⟩ := bind_some H
    refine ls_callb (fid := 16) (vals := #[.slice A0_1 l0_1.length c0_1]) (X := (Option Addr × Nat)) (fun x => .slice x.1 t2.length x.2) (fun x => stl [Ck.sl T31 x.1 x.2 t2]) [] [] [] [] 1 rfl rfl (by kernel_rfl) (fun w => by kernel_rfl) trivial trivial (by decide) (fun w hs hb => shadowboxlaw09_own.calls k A0_1 c0_1 l0_1 t2 (lent b w [] []) hb (hs.ro R0_1 _ _) C0_1 hc3) ?_
    intro x4
    refine ls_val (v := .slice x4.1 t2.length x4.2) rfl rfl (by kernel_rfl) (fun w => by kernel_rfl) ?_
    refine ls_end ?_
    refine qn_then ?_
    refine cs_seq ?_
    refine cs_region (l := [_, _, _]) ?_
    refine ls_loadagg (a := ⟨g1, 0, none⟩) (sub := ([Value.int .i64 a1.1] ++ [Value.int .i64 a1.2])) rfl rfl (by kernel_rfl) rfl (by kernel_rfl) (by kernel_rfl) (by kernel_rfl) (len_app (len1 _) (len1 _)) (fun w hs => (hs.vars (k := 0) (by exact rfl) (Sub4.all _))) ?_
    refine ls_new rfl rfl (by kernel_rfl) 2 (fun g => .pointer (some ⟨g, 0, none⟩)) (.cells ⟨([Value.int .i64 (0 : Int)] ++ [Value.int .i64 (0 : Int)])⟩ 31) (fun w => by kernel_rfl) ?_
    intro g5
    refine ls_storec (g := g5) (off := 0) (v := .agg ⟨([Value.int .i64 a1.1] ++ [Value.int .i64 a1.2])⟩) (vs := ([Value.int .i64 a1.1] ++ [Value.int .i64 a1.2])) (cs := ([Value.int .i64 (0 : Int)] ++ [Value.int .i64 (0 : Int)])) (ty := 31) 2 rfl rfl rfl (by kernel_rfl) (by kernel_rfl) (by kernel_rfl) (by exact rfl) (by kernel_rfl) (len_app (len1 _) (len1 _)) (one_app (one_cons rfl one_nil) (one_cons rfl one_nil)) (hl_of (Sub4.all _) (len_eq (len_app (len1 _) (len1 _)) (len_app (len1 _) (len1 _)))) (cs' := ([Value.int .i64 a1.1] ++ [Value.int .i64 a1.2])) (splc_all (len_eq (len_app (len1 _) (len1 _)) (len_app (len1 _) (len1 _)))) ?_
    refine ls_end ?_
    refine qn_then ?_
    refine cs_seq ?_
    refine cs_region (l := [_, _, _, _, _]) ?_
    refine ls_val (v := .agg ⟨([Value.int .i64 (2 : Int)] ++ [Value.int .i64 (5 : Int)])⟩) rfl rfl (by kernel_rfl) (fun w => by kernel_rfl) ?_
    refine ls_lit T24 3 rfl rfl (by kernel_rfl) ([((2 : Int), (5 : Int))]) (by exact of_decide_eq_true (by kernel_rfl)) (fun w => by kernel_rfl) ?_
    intro g6
    refine ls_val (v := .agg ⟨([Value.int .i64 (5 : Int)] ++ [Value.int .i64 (7 : Int)])⟩) rfl rfl (by kernel_rfl) (fun w => by kernel_rfl) ?_
    obtain ⟨t7, hc8, H⟩ := bind_some H
    refine ls_callb (fid := 13) (vals := #[.slice (some ⟨g6, 0, none⟩) ([((2 : Int), (5 : Int))]).length [((2 : Int), (5 : Int))].length, .agg ⟨([Value.int .i64 (5 : Int)] ++ [Value.int .i64 (7 : Int)])⟩]) (X := (Option Addr × Nat)) (fun x => .slice x.1 t7.length x.2) (fun x => stl [Ck.sl T24 x.1 x.2 t7]) [] [3] [] [Ck.sl T24 (some ⟨g6, 0, none⟩) ([((2 : Int), (5 : Int))].length) ([((2 : Int), (5 : Int))])] 4 rfl rfl (by kernel_rfl) (fun w => by kernel_rfl) trivial ⟨by exact rfl, trivial⟩ (by decide) (fun w hs hb => extent_Add.calls k (some ⟨g6, 0, none⟩) ([((2 : Int), (5 : Int))].length) ([((2 : Int), (5 : Int))]) ((5 : Int), (7 : Int)) t7 (lent b w [] [Ck.sl T24 (some ⟨g6, 0, none⟩) ([((2 : Int), (5 : Int))].length) ([((2 : Int), (5 : Int))])]) hb (hs.ror (k := 3) (by exact rfl) (.head _)) (hs.cap (k := 3) (by exact rfl)) hc8) ?_
    intro x9
    refine ls_val (v := .slice x9.1 t7.length x9.2) rfl rfl (by kernel_rfl) (fun w => by kernel_rfl) ?_
    refine ls_end ?_
    refine qn_then ?_
    refine cs_seq ?_
    obtain ⟨s11_0, hs11_0⟩ : ∃ z : Value → Sto → Prop, z = (fun v R => v = .slice A0_1 l0_1.length c0_1 ∧ R = s0) := ⟨_, rfl⟩
    refine have_op (l := [_, _, _, _, _, _, _, _, _, _, _, _, _, _, _, _, _, _, _, _, _, _, _, _, _, _, _, _, _, _, _, _, _, _, _, _, _, _, _, _, _, _, _, _, _, _, _, _, _, _, _, _, _, _, _, _, _, _, _, _, _, _, _, _, _, _, _, _, _, _]) shadowboxlaw09_ExtentTells.tab9 5 0 (fun sp => sp 0 = s11_0) (fun sp on hA hon => ?_) (fun ops11_0 => ?_)
    · refine ⟨fun o ho vs Rs f' S' w hp hf hx hS hR hs => ?_⟩
      obtain rfl := Option.some.inj ho
      rw [hA, hs11_0]
      refine And.intro (fun a ha => (want_none rfl a ha).trans hon.symm) (And.intro (fun _ => ?_) (fun h => by rw [hon] at h; cases h))
      have hF := fr_next (rfl) ((hx 0 (by kernel_rfl)).trans (by kernel_rfl : (_ : Value) = .slice A0_1 l0_1.length c0_1))
      refine ls_fr hF ?_
      refine ls_val (v := .slice A0_1 l0_1.length c0_1) rfl rfl (by kernel_rfl) (fun w => by kernel_rfl) ?_
      exact ls_fin s0 (.slice A0_1 l0_1.length c0_1) (congrArg (fun z => upd z 22 _) hF.symm) ⟨rfl, rfl⟩ (sub_nil _)
    obtain ⟨s11_1, hs11_1⟩ : ∃ z : Value → Sto → Prop, z = (fun v R => v = .agg ⟨([Value.int .i64 a1.1] ++ [Value.int .i64 a1.2])⟩ ∧ R = s0) := ⟨_, rfl⟩
    refine have_op (l := [_, _, _, _, _, _, _, _, _, _, _, _, _, _, _, _, _, _, _, _, _, _, _, _, _, _, _, _, _, _, _, _, _, _, _, _, _, _, _, _, _, _, _, _, _, _, _, _, _, _, _, _, _, _, _, _, _, _, _, _, _, _, _, _, _, _, _, _, _, _]) shadowboxlaw09_ExtentTells.tab9 5 1 (fun sp => sp 1 = s11_1) (fun sp on hA hon => ?_) (fun ops11_1 => ?_)
    · refine ⟨fun o ho vs Rs f' S' w hp hf hx hS hR hs => ?_⟩
      obtain rfl := Option.some.inj ho
      rw [hA, hs11_1]
      refine And.intro (fun a ha => (want_none rfl a ha).trans hon.symm) (And.intro (fun _ => ?_) (fun h => by rw [hon] at h; cases h))
      have hF := fr_next (rfl) ((hx 4 (by kernel_rfl)).trans (by kernel_rfl : (_ : Value) = .pointer (some ⟨g1, 0, none⟩)))
      refine ls_fr hF ?_
      refine ls_loadagg (a := ⟨g1, 0, none⟩) (sub := ([Value.int .i64 a1.1] ++ [Value.int .i64 a1.2])) rfl rfl (by kernel_rfl) rfl (by kernel_rfl) (by kernel_rfl) (by kernel_rfl) (len_app (len1 _) (len1 _)) (fun w1 hs1 => Rd.step (hs.vars (k := 0) ((hS 0 (by kernel_rfl)).trans (by exact rfl)) (Sub4.all _)) hs1.below.bw) ?_
      exact ls_fin s0 (.agg ⟨([Value.int .i64 a1.1] ++ [Value.int .i64 a1.2])⟩) (congrArg (fun z => upd z 23 _) hF.symm) ⟨rfl, rfl⟩ (sub_nil _)
    obtain ⟨t12, hc13, H⟩ := bind_some H
    obtain ⟨s11_2, hs11_2⟩ : ∃ z : Value → Sto → Prop, z = (fun v R => ∃ x14 : (Option Addr × Nat), v = .slice x14.1 t12.length x14.2 ∧ R = stl [Ck.sl T24 x14.1 x14.2 t12]) := ⟨_, rfl⟩
    refine have_op (l := [_, _, _, _, _, _, _, _, _, _, _, _, _, _, _, _, _, _, _, _, _, _, _, _, _, _, _, _, _, _, _, _, _, _, _, _, _, _, _, _, _, _, _, _, _, _, _, _, _, _, _, _, _, _, _, _, _, _, _, _, _, _, _, _, _, _, _, _, _, _]) shadowboxlaw09_ExtentTells.tab9 5 2 (fun sp => sp 2 = s11_2 ∧ sp 0 = s11_0 ∧ sp 1 = s11_1) (fun sp on hA hon => ?_) (fun ops11_2 => ?_)
    · refine ⟨fun o ho vs Rs f' S' w hp hf hx hS hR hs => ?_⟩
      obtain rfl := Option.some.inj ho
      obtain ⟨hv0, hR0⟩ := (spe hA.2.1 hs11_0 (hp 0 (by kernel_rfl)))
      obtain ⟨hv1, hR1⟩ := (spe hA.2.2 hs11_1 (hp 1 (by kernel_rfl)))
      rw [hA.1, hs11_2]
      refine And.intro (fun a ha => (want_none rfl a ha).trans hon.symm) (And.intro (fun _ => ?_) (fun h => by rw [hon] at h; cases h))
      have hF := fr_next (fr_next (rfl) ((hf 0 22 (by kernel_rfl) rfl).trans hv0)) ((hf 1 23 (by kernel_rfl) rfl).trans hv1)
      refine ls_fr hF ?_
      refine ls_call (fid := 13) (vals := #[.slice A0_1 l0_1.length c0_1, .agg ⟨([Value.int .i64 a1.1] ++ [Value.int .i64 a1.2])⟩]) (X := (Option Addr × Nat)) (fun x => .slice x.1 t12.length x.2) (fun x => stl [Ck.sl T24 x.1 x.2 t12]) 0 rfl rfl (by kernel_rfl) (fun w => by kernel_rfl) (fun w1 hs1 => extent_Add.calls k A0_1 c0_1 l0_1 a1 t12 (bw w1) (St.refl w1) (Rd.ro (Rd.step (hs.old R0_1) hs1.below.bw)) C0_1 hc13) ?_
      intro x14
      exact ls_fin (stl [Ck.sl T24 x14.1 x14.2 t12]) (.slice x14.1 t12.length x14.2) (congrArg (fun z => upd z 24 _) hF.symm) ⟨x14, rfl, rfl⟩ (sub_join _)
    obtain ⟨s11_3, hs11_3⟩ : ∃ z : Value → Sto → Prop, z = (fun v R => v = .slice x4.1 t2.length x4.2 ∧ R = s0) := ⟨_, rfl⟩
    refine have_op (l := [_, _, _, _, _, _, _, _, _, _, _, _, _, _, _, _, _, _, _, _, _, _, _, _, _, _, _, _, _, _, _, _, _, _, _, _, _, _, _, _, _, _, _, _, _, _, _, _, _, _, _, _, _, _, _, _, _, _, _, _, _, _, _, _, _, _, _, _, _, _]) shadowboxlaw09_ExtentTells.tab9 5 3 (fun sp => sp 3 = s11_3) (fun sp on hA hon => ?_) (fun ops11_3 => ?_)
    · refine ⟨fun o ho vs Rs f' S' w hp hf hx hS hR hs => ?_⟩
      obtain rfl := Option.some.inj ho
      rw [hA, hs11_3]
      refine And.intro (fun a ha => (want_none rfl a ha).trans hon.symm) (And.intro (fun _ => ?_) (fun h => by rw [hon] at h; cases h))
      have hF := fr_next (rfl) ((hx 7 (by kernel_rfl)).trans (by kernel_rfl : (_ : Value) = .slice x4.1 t2.length x4.2))
      refine ls_fr hF ?_
      refine ls_val (v := .slice x4.1 t2.length x4.2) rfl rfl (by kernel_rfl) (fun w => by kernel_rfl) ?_
      exact ls_fin s0 (.slice x4.1 t2.length x4.2) (congrArg (fun z => upd z 25 _) hF.symm) ⟨rfl, rfl⟩ (sub_nil _)
    obtain ⟨s11_4, hs11_4⟩ : ∃ z : Value → Sto → Prop, z = (fun v R => v = .agg ⟨([Value.int .i64 a1.1] ++ [Value.int .i64 a1.2])⟩ ∧ R = s0) := ⟨_, rfl⟩
    refine have_op (l := [_, _, _, _, _, _, _, _, _, _, _, _, _, _, _, _, _, _, _, _, _, _, _, _, _, _, _, _, _, _, _, _, _, _, _, _, _, _, _, _, _, _, _, _, _, _, _, _, _, _, _, _, _, _, _, _, _, _, _, _, _, _, _, _, _, _, _, _, _, _]) shadowboxlaw09_ExtentTells.tab9 5 4 (fun sp => sp 4 = s11_4) (fun sp on hA hon => ?_) (fun ops11_4 => ?_)
    · refine ⟨fun o ho vs Rs f' S' w hp hf hx hS hR hs => ?_⟩
      obtain rfl := Option.some.inj ho
      rw [hA, hs11_4]
      refine And.intro (fun a ha => (want_none rfl a ha).trans hon.symm) (And.intro (fun _ => ?_) (fun h => by rw [hon] at h; cases h))
      have hF := fr_next (rfl) ((hx 8 (by kernel_rfl)).trans (by kernel_rfl : (_ : Value) = .pointer (some ⟨g5, 0, none⟩)))
      refine ls_fr hF ?_
      refine ls_loadagg (a := ⟨g5, 0, none⟩) (sub := ([Value.int .i64 a1.1] ++ [Value.int .i64 a1.2])) rfl rfl (by kernel_rfl) rfl (by kernel_rfl) (by kernel_rfl) (by kernel_rfl) (len_app (len1 _) (len1 _)) (fun w1 hs1 => Rd.step (hs.vars (k := 2) ((hS 2 (by kernel_rfl)).trans (by exact rfl)) (Sub4.all _)) hs1.below.bw) ?_
      exact ls_fin s0 (.agg ⟨([Value.int .i64 a1.1] ++ [Value.int .i64 a1.2])⟩) (congrArg (fun z => upd z 26 _) hF.symm) ⟨rfl, rfl⟩ (sub_nil _)
    obtain ⟨t15, hc16, H⟩ := bind_some H
    obtain ⟨s11_5, hs11_5⟩ : ∃ z : Value → Sto → Prop, z = (fun v R => ∃ x17 : (Option Addr × Nat), v = .slice x17.1 t15.length x17.2 ∧ R = stl [Ck.sl T31 x17.1 x17.2 t15]) := ⟨_, rfl⟩
    refine have_op (l := [_, _, _, _, _, _, _, _, _, _, _, _, _, _, _, _, _, _, _, _, _, _, _, _, _, _, _, _, _, _, _, _, _, _, _, _, _, _, _, _, _, _, _, _, _, _, _, _, _, _, _, _, _, _, _, _, _, _, _, _, _, _, _, _, _, _, _, _, _, _]) shadowboxlaw09_ExtentTells.tab9 5 5 (fun sp => sp 5 = s11_5 ∧ sp 3 = s11_3 ∧ sp 4 = s11_4) (fun sp on hA hon => ?_) (fun ops11_5 => ?_)
    · refine ⟨fun o ho vs Rs f' S' w hp hf hx hS hR hs => ?_⟩
      obtain rfl := Option.some.inj ho
      obtain ⟨hv3, hR3⟩ := (spe hA.2.1 hs11_3 (hp 3 (by kernel_rfl)))
      obtain ⟨hv4, hR4⟩ := (spe hA.2.2 hs11_4 (hp 4 (by kernel_rfl)))
      rw [hA.1, hs11_5]
      refine And.intro (fun a ha => (want_none rfl a ha).trans hon.symm) (And.intro (fun _ => ?_) (fun h => by rw [hon] at h; cases h))
      have hF := fr_next (fr_next (rfl) ((hf 3 25 (by kernel_rfl) rfl).trans hv3)) ((hf 4 26 (by kernel_rfl) rfl).trans hv4)
      refine ls_fr hF ?_
      refine ls_call (fid := 18) (vals := #[.slice x4.1 t2.length x4.2, .agg ⟨([Value.int .i64 a1.1] ++ [Value.int .i64 a1.2])⟩]) (X := (Option Addr × Nat)) (fun x => .slice x.1 t15.length x.2) (fun x => stl [Ck.sl T31 x.1 x.2 t15]) 0 rfl rfl (by kernel_rfl) (fun w => by kernel_rfl) (fun w1 hs1 => shadowboxref09_Add.calls k x4.1 x4.2 t2 a1 t15 (bw w1) (St.refl w1) (Rd.ro (Rd.step (hs.rd (k := 1) ((hS 1 (by kernel_rfl)).trans (by exact rfl))) hs1.below.bw)) (hs.cap (k := 1) ((hS 1 (by kernel_rfl)).trans (by exact rfl))) hc16) ?_
      intro x17
      exact ls_fin (stl [Ck.sl T31 x17.1 x17.2 t15]) (.slice x17.1 t15.length x17.2) (congrArg (fun z => upd z 27 _) hF.symm) ⟨x17, rfl, rfl⟩ (sub_join _)
    obtain ⟨t18, hc19, H⟩ := bind_some H
    obtain ⟨s11_6, hs11_6⟩ : ∃ z : Value → Sto → Prop, z = (fun v R => ∃ x20 : Unit, v = .bool t18 ∧ R = stl []) := ⟨_, rfl⟩
    refine have_op (l := [_, _, _, _, _, _, _, _, _, _, _, _, _, _, _, _, _, _, _, _, _, _, _, _, _, _, _, _, _, _, _, _, _, _, _, _, _, _, _, _, _, _, _, _, _, _, _, _, _, _, _, _, _, _, _, _, _, _, _, _, _, _, _, _, _, _, _, _, _, _]) shadowboxlaw09_ExtentTells.tab9 5 6 (fun sp => sp 6 = s11_6 ∧ sp 2 = s11_2 ∧ sp 5 = s11_5) (fun sp on hA hon => ?_) (fun ops11_6 => ?_)
    · refine ⟨fun o ho vs Rs f' S' w hp hf hx hS hR hs => ?_⟩
      obtain rfl := Option.some.inj ho
      obtain ⟨x14, hv2, hR2⟩ := (spe hA.2.1 hs11_2 (hp 2 (by kernel_rfl)))
      have hT2_0 := (hR 2 0 (by kernel_rfl) (by decide)).trans (congrFun hR2 0)
      obtain ⟨x17, hv5, hR5⟩ := (spe hA.2.2 hs11_5 (hp 5 (by kernel_rfl)))
      have hT5_0 := (hR 5 0 (by kernel_rfl) (by decide)).trans (congrFun hR5 0)
      rw [hA.1, hs11_6]
      refine And.intro (fun a ha => (want_none rfl a ha).trans hon.symm) (And.intro (fun _ => ?_) (fun h => by rw [hon] at h; cases h))
      have hF := fr_next (fr_next (rfl) ((hf 2 24 (by kernel_rfl) rfl).trans hv2)) ((hf 5 27 (by kernel_rfl) rfl).trans hv5)
      refine ls_fr hF ?_
      refine ls_call (fid := 17) (vals := #[.slice x14.1 t12.length x14.2, .slice x17.1 t15.length x17.2]) (X := Unit) (fun x => .bool t18) (fun x => stl []) 0 rfl rfl (by kernel_rfl) (fun w => by kernel_rfl) (fun w1 hs1 => shadowboxlaw09_same.calls k x14.1 x14.2 t12 x17.1 x17.2 t15 t18 (bw w1) (St.refl w1) (Rd.ro (Rd.step (hs.rd (k := 21) hT2_0) hs1.below.bw)) (hs.cap (k := 21) hT2_0) (Rd.ro (Rd.step (hs.rd (k := 45) hT5_0) hs1.below.bw)) (hs.cap (k := 45) hT5_0) hc19) ?_
      intro x20
      exact ls_fin (stl []) (.bool t18) (congrArg (fun z => upd z 28 _) hF.symm) ⟨x20, rfl, rfl⟩ (sub_join _)
    obtain ⟨s11_7, hs11_7⟩ : ∃ z : Value → Sto → Prop, z = (fun v R => v = .bool t18 ∧ R = s0) := ⟨_, rfl⟩
    refine have_op (l := [_, _, _, _, _, _, _, _, _, _, _, _, _, _, _, _, _, _, _, _, _, _, _, _, _, _, _, _, _, _, _, _, _, _, _, _, _, _, _, _, _, _, _, _, _, _, _, _, _, _, _, _, _, _, _, _, _, _, _, _, _, _, _, _, _, _, _, _, _, _]) shadowboxlaw09_ExtentTells.tab9 5 7 (fun sp => sp 7 = s11_7 ∧ sp 6 = s11_6) (fun sp on hA hon => ?_) (fun ops11_7 => ?_)
    · refine ⟨fun o ho vs Rs f' S' w hp hf hx hS hR hs => ?_⟩
      obtain rfl := Option.some.inj ho
      obtain ⟨x20, hv6, hR6⟩ := (spe hA.2 hs11_6 (hp 6 (by kernel_rfl)))
      rw [hA.1, hs11_7]
      refine And.intro (fun a ha => (want_none rfl a ha).trans hon.symm) (And.intro (fun _ => ?_) (fun h => by rw [hon] at h; cases h))
      have hF := fr_next (rfl) ((hf 6 28 (by kernel_rfl) rfl).trans hv6)
      refine ls_fr hF ?_
      refine ls_val (v := .bool t18) rfl rfl (by kernel_rfl) (fun w => by kernel_rfl) ?_
      exact ls_fin s0 (.bool t18) (congrArg (fun z => upd z 29 _) hF.symm) ⟨rfl, rfl⟩ (sub_nil _)
    by_cases q21 : t18 = true
    · replace H := ite_t q21 H
      obtain ⟨s11_8, hs11_8⟩ : ∃ z : Value → Sto → Prop, z = (fun v R => v = .slice A0_1 l0_1.length c0_1 ∧ R = s0) := ⟨_, rfl⟩
      refine have_op (l := [_, _, _, _, _, _, _, _, _, _, _, _, _, _, _, _, _, _, _, _, _, _, _, _, _, _, _, _, _, _, _, _, _, _, _, _, _, _, _, _, _, _, _, _, _, _, _, _, _, _, _, _, _, _, _, _, _, _, _, _, _, _, _, _, _, _, _, _, _, _]) shadowboxlaw09_ExtentTells.tab9 5 8 (fun sp => sp 8 = s11_8 ∧ sp 7 = s11_7) (fun sp on hA hon => ?_) (fun ops11_8 => ?_)
      · refine ⟨fun o ho vs Rs f' S' w hp hf hx hS hR hs => ?_⟩
        obtain rfl := Option.some.inj ho
        obtain ⟨hv7, hR7⟩ := (spe hA.2 hs11_7 (hp 7 (by kernel_rfl)))
        rw [hA.1, hs11_8]
        refine And.intro (fun a ha => (want_is (j := 7) (t := 29) (r := true) rfl rfl (by kernel_rfl) (((hf 7 29 (by kernel_rfl) rfl).trans hv7).trans (congrArg Value.bool (show t18 = true from q21))) rfl a ha).trans hon.symm) (And.intro (fun _ => ?_) (fun h => by rw [hon] at h; cases h))
        have hF := fr_next (fr_next (rfl) ((hx 0 (by kernel_rfl)).trans (by kernel_rfl : (_ : Value) = .slice A0_1 l0_1.length c0_1))) (((hf 7 29 (by kernel_rfl) rfl).trans hv7).trans (congrArg Value.bool (show t18 = true from q21)))
        refine ls_fr hF ?_
        refine ls_val (v := .slice A0_1 l0_1.length c0_1) rfl rfl (by kernel_rfl) (fun w => by kernel_rfl) ?_
        exact ls_fin s0 (.slice A0_1 l0_1.length c0_1) (congrArg (fun z => upd z 30 _) hF.symm) ⟨rfl, rfl⟩ (sub_nil _)
      obtain ⟨s11_9, hs11_9⟩ : ∃ z : Value → Sto → Prop, z = (fun v R => v = .agg ⟨([Value.int .i64 a1.1] ++ [Value.int .i64 a1.2])⟩ ∧ R = s0) := ⟨_, rfl⟩
      refine have_op (l := [_, _, _, _, _, _, _, _, _, _, _, _, _, _, _, _, _, _, _, _, _, _, _, _, _, _, _, _, _, _, _, _, _, _, _, _, _, _, _, _, _, _, _, _, _, _, _, _, _, _, _, _, _, _, _, _, _, _, _, _, _, _, _, _, _, _, _, _, _, _]) shadowboxlaw09_ExtentTells.tab9 5 9 (fun sp => sp 9 = s11_9 ∧ sp 7 = s11_7) (fun sp on hA hon => ?_) (fun ops11_9 => ?_)
      · refine ⟨fun o ho vs Rs f' S' w hp hf hx hS hR hs => ?_⟩
        obtain rfl := Option.some.inj ho
        obtain ⟨hv7, hR7⟩ := (spe hA.2 hs11_7 (hp 7 (by kernel_rfl)))
        rw [hA.1, hs11_9]
        refine And.intro (fun a ha => (want_is (j := 7) (t := 29) (r := true) rfl rfl (by kernel_rfl) (((hf 7 29 (by kernel_rfl) rfl).trans hv7).trans (congrArg Value.bool (show t18 = true from q21))) rfl a ha).trans hon.symm) (And.intro (fun _ => ?_) (fun h => by rw [hon] at h; cases h))
        have hF := fr_next (fr_next (rfl) ((hx 4 (by kernel_rfl)).trans (by kernel_rfl : (_ : Value) = .pointer (some ⟨g1, 0, none⟩)))) (((hf 7 29 (by kernel_rfl) rfl).trans hv7).trans (congrArg Value.bool (show t18 = true from q21)))
        refine ls_fr hF ?_
        refine ls_loadagg (a := ⟨g1, 0, none⟩) (sub := ([Value.int .i64 a1.1] ++ [Value.int .i64 a1.2])) rfl rfl (by kernel_rfl) rfl (by kernel_rfl) (by kernel_rfl) (by kernel_rfl) (len_app (len1 _) (len1 _)) (fun w1 hs1 => Rd.step (hs.vars (k := 0) ((hS 0 (by kernel_rfl)).trans (by exact rfl)) (Sub4.all _)) hs1.below.bw) ?_
        exact ls_fin s0 (.agg ⟨([Value.int .i64 a1.1] ++ [Value.int .i64 a1.2])⟩) (congrArg (fun z => upd z 31 _) hF.symm) ⟨rfl, rfl⟩ (sub_nil _)
      obtain ⟨t22, hc23, H⟩ := bind_some H
      obtain ⟨s11_10, hs11_10⟩ : ∃ z : Value → Sto → Prop, z = (fun v R => ∃ x24 : (Option Addr × Nat), v = .slice x24.1 t22.length x24.2 ∧ R = stl [Ck.sl T24 x24.1 x24.2 t22]) := ⟨_, rfl⟩
      refine have_op (l := [_, _, _, _, _, _, _, _, _, _, _, _, _, _, _, _, _, _, _, _, _, _, _, _, _, _, _, _, _, _, _, _, _, _, _, _, _, _, _, _, _, _, _, _, _, _, _, _, _, _, _, _, _, _, _, _, _, _, _, _, _, _, _, _, _, _, _, _, _, _]) shadowboxlaw09_ExtentTells.tab9 5 10 (fun sp => sp 10 = s11_10 ∧ sp 7 = s11_7 ∧ sp 8 = s11_8 ∧ sp 9 = s11_9) (fun sp on hA hon => ?_) (fun ops11_10 => ?_)
      · refine ⟨fun o ho vs Rs f' S' w hp hf hx hS hR hs => ?_⟩
        obtain rfl := Option.some.inj ho
        obtain ⟨hv7, hR7⟩ := (spe hA.2.1 hs11_7 (hp 7 (by kernel_rfl)))
        obtain ⟨hv8, hR8⟩ := (spe hA.2.2.1 hs11_8 (hp 8 (by kernel_rfl)))
        obtain ⟨hv9, hR9⟩ := (spe hA.2.2.2 hs11_9 (hp 9 (by kernel_rfl)))
        rw [hA.1, hs11_10]
        refine And.intro (fun a ha => (want_is (j := 7) (t := 29) (r := true) rfl rfl (by kernel_rfl) (((hf 7 29 (by kernel_rfl) rfl).trans hv7).trans (congrArg Value.bool (show t18 = true from q21))) rfl a ha).trans hon.symm) (And.intro (fun _ => ?_) (fun h => by rw [hon] at h; cases h))
        have hF := fr_next (fr_next (fr_next (rfl) (((hf 7 29 (by kernel_rfl) rfl).trans hv7).trans (congrArg Value.bool (show t18 = true from q21)))) ((hf 8 30 (by kernel_rfl) rfl).trans hv8)) ((hf 9 31 (by kernel_rfl) rfl).trans hv9)
        refine ls_fr hF ?_
        refine ls_call (fid := 15) (vals := #[.slice A0_1 l0_1.length c0_1, .agg ⟨([Value.int .i64 a1.1] ++ [Value.int .i64 a1.2])⟩]) (X := (Option Addr × Nat)) (fun x => .slice x.1 t22.length x.2) (fun x => stl [Ck.sl T24 x.1 x.2 t22]) 0 rfl rfl (by kernel_rfl) (fun w => by kernel_rfl) (fun w1 hs1 => extent_Remove.calls k A0_1 c0_1 l0_1 a1 t22 (bw w1) (St.refl w1) (Rd.ro (Rd.step (hs.old R0_1) hs1.below.bw)) C0_1 hc23) ?_
        intro x24
        exact ls_fin (stl [Ck.sl T24 x24.1 x24.2 t22]) (.slice x24.1 t22.length x24.2) (congrArg (fun z => upd z 32 _) hF.symm) ⟨x24, rfl, rfl⟩ (sub_join _)
      obtain ⟨s11_11, hs11_11⟩ : ∃ z : Value → Sto → Prop, z = (fun v R => v = .slice x4.1 t2.length x4.2 ∧ R = s0) := ⟨_, rfl⟩
      refine have_op (l := [_, _, _, _, _, _, _, _, _, _, _, _, _, _, _, _, _, _, _, _, _, _, _, _, _, _, _, _, _, _, _, _, _, _, _, _, _, _, _, _, _, _, _, _, _, _, _, _, _, _, _, _, _, _, _, _, _, _, _, _, _, _, _, _, _, _, _, _, _, _]) shadowboxlaw09_ExtentTells.tab9 5 11 (fun sp => sp 11 = s11_11 ∧ sp 7 = s11_7) (fun sp on hA hon => ?_) (fun ops11_11 => ?_)
      · refine ⟨fun o ho vs Rs f' S' w hp hf hx hS hR hs => ?_⟩
        obtain rfl := Option.some.inj ho
        obtain ⟨hv7, hR7⟩ := (spe hA.2 hs11_7 (hp 7 (by kernel_rfl)))
        rw [hA.1, hs11_11]
        refine And.intro (fun a ha => (want_is (j := 7) (t := 29) (r := true) rfl rfl (by kernel_rfl) (((hf 7 29 (by kernel_rfl) rfl).trans hv7).trans (congrArg Value.bool (show t18 = true from q21))) rfl a ha).trans hon.symm) (And.intro (fun _ => ?_) (fun h => by rw [hon] at h; cases h))
        have hF := fr_next (fr_next (rfl) ((hx 7 (by kernel_rfl)).trans (by kernel_rfl : (_ : Value) = .slice x4.1 t2.length x4.2))) (((hf 7 29 (by kernel_rfl) rfl).trans hv7).trans (congrArg Value.bool (show t18 = true from q21)))
        refine ls_fr hF ?_
        refine ls_val (v := .slice x4.1 t2.length x4.2) rfl rfl (by kernel_rfl) (fun w => by kernel_rfl) ?_
        exact ls_fin s0 (.slice x4.1 t2.length x4.2) (congrArg (fun z => upd z 33 _) hF.symm) ⟨rfl, rfl⟩ (sub_nil _)
      obtain ⟨s11_12, hs11_12⟩ : ∃ z : Value → Sto → Prop, z = (fun v R => v = .agg ⟨([Value.int .i64 a1.1] ++ [Value.int .i64 a1.2])⟩ ∧ R = s0) := ⟨_, rfl⟩
      refine have_op (l := [_, _, _, _, _, _, _, _, _, _, _, _, _, _, _, _, _, _, _, _, _, _, _, _, _, _, _, _, _, _, _, _, _, _, _, _, _, _, _, _, _, _, _, _, _, _, _, _, _, _, _, _, _, _, _, _, _, _, _, _, _, _, _, _, _, _, _, _, _, _]) shadowboxlaw09_ExtentTells.tab9 5 12 (fun sp => sp 12 = s11_12 ∧ sp 7 = s11_7) (fun sp on hA hon => ?_) (fun ops11_12 => ?_)
      · refine ⟨fun o ho vs Rs f' S' w hp hf hx hS hR hs => ?_⟩
        obtain rfl := Option.some.inj ho
        obtain ⟨hv7, hR7⟩ := (spe hA.2 hs11_7 (hp 7 (by kernel_rfl)))
        rw [hA.1, hs11_12]
        refine And.intro (fun a ha => (want_is (j := 7) (t := 29) (r := true) rfl rfl (by kernel_rfl) (((hf 7 29 (by kernel_rfl) rfl).trans hv7).trans (congrArg Value.bool (show t18 = true from q21))) rfl a ha).trans hon.symm) (And.intro (fun _ => ?_) (fun h => by rw [hon] at h; cases h))
        have hF := fr_next (fr_next (rfl) ((hx 8 (by kernel_rfl)).trans (by kernel_rfl : (_ : Value) = .pointer (some ⟨g5, 0, none⟩)))) (((hf 7 29 (by kernel_rfl) rfl).trans hv7).trans (congrArg Value.bool (show t18 = true from q21)))
        refine ls_fr hF ?_
        refine ls_loadagg (a := ⟨g5, 0, none⟩) (sub := ([Value.int .i64 a1.1] ++ [Value.int .i64 a1.2])) rfl rfl (by kernel_rfl) rfl (by kernel_rfl) (by kernel_rfl) (by kernel_rfl) (len_app (len1 _) (len1 _)) (fun w1 hs1 => Rd.step (hs.vars (k := 2) ((hS 2 (by kernel_rfl)).trans (by exact rfl)) (Sub4.all _)) hs1.below.bw) ?_
        exact ls_fin s0 (.agg ⟨([Value.int .i64 a1.1] ++ [Value.int .i64 a1.2])⟩) (congrArg (fun z => upd z 34 _) hF.symm) ⟨rfl, rfl⟩ (sub_nil _)
      obtain ⟨t25, hc26, H⟩ := bind_some H
      obtain ⟨s11_13, hs11_13⟩ : ∃ z : Value → Sto → Prop, z = (fun v R => ∃ x27 : (Option Addr × Nat), v = .slice x27.1 t25.length x27.2 ∧ R = stl [Ck.sl T31 x27.1 x27.2 t25]) := ⟨_, rfl⟩
      refine have_op (l := [_, _, _, _, _, _, _, _, _, _, _, _, _, _, _, _, _, _, _, _, _, _, _, _, _, _, _, _, _, _, _, _, _, _, _, _, _, _, _, _, _, _, _, _, _, _, _, _, _, _, _, _, _, _, _, _, _, _, _, _, _, _, _, _, _, _, _, _, _, _]) shadowboxlaw09_ExtentTells.tab9 5 13 (fun sp => sp 13 = s11_13 ∧ sp 7 = s11_7 ∧ sp 11 = s11_11 ∧ sp 12 = s11_12) (fun sp on hA hon => ?_) (fun ops11_13 => ?_)
      · refine ⟨fun o ho vs Rs f' S' w hp hf hx hS hR hs => ?_⟩
        obtain rfl := Option.some.inj ho
        obtain ⟨hv7, hR7⟩ := (spe hA.2.1 hs11_7 (hp 7 (by kernel_rfl)))
        obtain ⟨hv11, hR11⟩ := (spe hA.2.2.1 hs11_11 (hp 11 (by kernel_rfl)))
        obtain ⟨hv12, hR12⟩ := (spe hA.2.2.2 hs11_12 (hp 12 (by kernel_rfl)))
        rw [hA.1, hs11_13]
        refine And.intro (fun a ha => (want_is (j := 7) (t := 29) (r := true) rfl rfl (by kernel_rfl) (((hf 7 29 (by kernel_rfl) rfl).trans hv7).trans (congrArg Value.bool (show t18 = true from q21))) rfl a ha).trans hon.symm) (And.intro (fun _ => ?_) (fun h => by rw [hon] at h; cases h))
        have hF := fr_next (fr_next (fr_next (rfl) (((hf 7 29 (by kernel_rfl) rfl).trans hv7).trans (congrArg Value.bool (show t18 = true from q21)))) ((hf 11 33 (by kernel_rfl) rfl).trans hv11)) ((hf 12 34 (by kernel_rfl) rfl).trans hv12)
        refine ls_fr hF ?_
        refine ls_call (fid := 19) (vals := #[.slice x4.1 t2.length x4.2, .agg ⟨([Value.int .i64 a1.1] ++ [Value.int .i64 a1.2])⟩]) (X := (Option Addr × Nat)) (fun x => .slice x.1 t25.length x.2) (fun x => stl [Ck.sl T31 x.1 x.2 t25]) 0 rfl rfl (by kernel_rfl) (fun w => by kernel_rfl) (fun w1 hs1 => shadowboxref09_Remove.calls k x4.1 x4.2 t2 a1 t25 (bw w1) (St.refl w1) (Rd.ro (Rd.step (hs.rd (k := 1) ((hS 1 (by kernel_rfl)).trans (by exact rfl))) hs1.below.bw)) (hs.cap (k := 1) ((hS 1 (by kernel_rfl)).trans (by exact rfl))) hc26) ?_
        intro x27
        exact ls_fin (stl [Ck.sl T31 x27.1 x27.2 t25]) (.slice x27.1 t25.length x27.2) (congrArg (fun z => upd z 35 _) hF.symm) ⟨x27, rfl, rfl⟩ (sub_join _)
      obtain ⟨t28, hc29, H⟩ := bind_some H
      obtain ⟨s11_14, hs11_14⟩ : ∃ z : Value → Sto → Prop, z = (fun v R => ∃ x30 : Unit, v = .bool t28 ∧ R = stl []) := ⟨_, rfl⟩
      refine have_op (l := [_, _, _, _, _, _, _, _, _, _, _, _, _, _, _, _, _, _, _, _, _, _, _, _, _, _, _, _, _, _, _, _, _, _, _, _, _, _, _, _, _, _, _, _, _, _, _, _, _, _, _, _, _, _, _, _, _, _, _, _, _, _, _, _, _, _, _, _, _, _]) shadowboxlaw09_ExtentTells.tab9 5 14 (fun sp => sp 14 = s11_14 ∧ sp 7 = s11_7 ∧ sp 10 = s11_10 ∧ sp 13 = s11_13) (fun sp on hA hon => ?_) (fun ops11_14 => ?_)
      · refine ⟨fun o ho vs Rs f' S' w hp hf hx hS hR hs => ?_⟩
        obtain rfl := Option.some.inj ho
        obtain ⟨hv7, hR7⟩ := (spe hA.2.1 hs11_7 (hp 7 (by kernel_rfl)))
        obtain ⟨x24, hv10, hR10⟩ := (spe hA.2.2.1 hs11_10 (hp 10 (by kernel_rfl)))
        have hT10_0 := (hR 10 0 (by kernel_rfl) (by decide)).trans (congrFun hR10 0)
        obtain ⟨x27, hv13, hR13⟩ := (spe hA.2.2.2 hs11_13 (hp 13 (by kernel_rfl)))
        have hT13_0 := (hR 13 0 (by kernel_rfl) (by decide)).trans (congrFun hR13 0)
        rw [hA.1, hs11_14]
        refine And.intro (fun a ha => (want_is (j := 7) (t := 29) (r := true) rfl rfl (by kernel_rfl) (((hf 7 29 (by kernel_rfl) rfl).trans hv7).trans (congrArg Value.bool (show t18 = true from q21))) rfl a ha).trans hon.symm) (And.intro (fun _ => ?_) (fun h => by rw [hon] at h; cases h))
        have hF := fr_next (fr_next (fr_next (rfl) (((hf 7 29 (by kernel_rfl) rfl).trans hv7).trans (congrArg Value.bool (show t18 = true from q21)))) ((hf 10 32 (by kernel_rfl) rfl).trans hv10)) ((hf 13 35 (by kernel_rfl) rfl).trans hv13)
        refine ls_fr hF ?_
        refine ls_call (fid := 17) (vals := #[.slice x24.1 t22.length x24.2, .slice x27.1 t25.length x27.2]) (X := Unit) (fun x => .bool t28) (fun x => stl []) 0 rfl rfl (by kernel_rfl) (fun w => by kernel_rfl) (fun w1 hs1 => shadowboxlaw09_same.calls k x24.1 x24.2 t22 x27.1 x27.2 t25 t28 (bw w1) (St.refl w1) (Rd.ro (Rd.step (hs.rd (k := 85) hT10_0) hs1.below.bw)) (hs.cap (k := 85) hT10_0) (Rd.ro (Rd.step (hs.rd (k := 109) hT13_0) hs1.below.bw)) (hs.cap (k := 109) hT13_0) hc29) ?_
        intro x30
        exact ls_fin (stl []) (.bool t28) (congrArg (fun z => upd z 36 _) hF.symm) ⟨x30, rfl, rfl⟩ (sub_join _)
      obtain ⟨s11_15, hs11_15⟩ : ∃ z : Value → Sto → Prop, z = (fun v R => v = .bool t28 ∧ R = s0) := ⟨_, rfl⟩
      refine have_op (l := [_, _, _, _, _, _, _, _, _, _, _, _, _, _, _, _, _, _, _, _, _, _, _, _, _, _, _, _, _, _, _, _, _, _, _, _, _, _, _, _, _, _, _, _, _, _, _, _, _, _, _, _, _, _, _, _, _, _, _, _, _, _, _, _, _, _, _, _, _, _]) shadowboxlaw09_ExtentTells.tab9 5 15 (fun sp => sp 15 = s11_15 ∧ sp 7 = s11_7 ∧ sp 14 = s11_14) (fun sp on hA hon => ?_) (fun ops11_15 => ?_)
      · refine ⟨fun o ho vs Rs f' S' w hp hf hx hS hR hs => ?_⟩
        obtain rfl := Option.some.inj ho
        obtain ⟨hv7, hR7⟩ := (spe hA.2.1 hs11_7 (hp 7 (by kernel_rfl)))
        obtain ⟨x30, hv14, hR14⟩ := (spe hA.2.2 hs11_14 (hp 14 (by kernel_rfl)))
        rw [hA.1, hs11_15]
        refine And.intro (fun a ha => (want_none rfl a ha).trans hon.symm) (And.intro (fun _ => ?_) (fun h => by rw [hon] at h; cases h))
        have hF := fr_next (fr_next (rfl) (((hf 7 29 (by kernel_rfl) rfl).trans hv7).trans (congrArg Value.bool (show t18 = true from q21)))) ((hf 14 36 (by kernel_rfl) rfl).trans hv14)
        refine ls_fr hF ?_
        refine ls_val (v := .bool t28) rfl rfl (by kernel_rfl) (fun w => by kernel_rfl) ?_
        exact ls_fin s0 (.bool t28) (congrArg (fun z => upd z 37 _) hF.symm) ⟨rfl, rfl⟩ (sub_nil _)
      obtain ⟨s11_16, hs11_16⟩ : ∃ z : Value → Sto → Prop, z = (fun v R => v = .bool t28 ∧ R = s0) := ⟨_, rfl⟩
      refine have_op (l := [_, _, _, _, _, _, _, _, _, _, _, _, _, _, _, _, _, _, _, _, _, _, _, _, _, _, _, _, _, _, _, _, _, _, _, _, _, _, _, _, _, _, _, _, _, _, _, _, _, _, _, _, _, _, _, _, _, _, _, _, _, _, _, _, _, _, _, _, _, _]) shadowboxlaw09_ExtentTells.tab9 5 16 (fun sp => sp 16 = s11_16 ∧ sp 15 = s11_15) (fun sp on hA hon => ?_) (fun ops11_16 => ?_)
      · refine ⟨fun o ho vs Rs f' S' w hp hf hx hS hR hs => ?_⟩
        obtain rfl := Option.some.inj ho
        obtain ⟨hv15, hR15⟩ := (spe hA.2 hs11_15 (hp 15 (by kernel_rfl)))
        rw [hA.1, hs11_16]
        refine And.intro (fun a ha => (want_none rfl a ha).trans hon.symm) (And.intro (fun _ => ?_) (fun h => by rw [hon] at h; cases h))
        have hF := fr_next (rfl) ((hf 15 37 (by kernel_rfl) rfl).trans hv15)
        refine ls_fr hF ?_
        refine ls_val (v := .bool t28) rfl rfl (by kernel_rfl) (fun w => by kernel_rfl) ?_
        exact ls_fin s0 (.bool t28) (congrArg (fun z => upd z 38 _) hF.symm) ⟨rfl, rfl⟩ (sub_nil _)
      by_cases q31 : t28 = true
      · replace H := ite_t q31 H
        obtain ⟨s11_17, hs11_17⟩ : ∃ z : Value → Sto → Prop, z = (fun v R => v = .slice A0_1 l0_1.length c0_1 ∧ R = s0) := ⟨_, rfl⟩
        refine have_op (l := [_, _, _, _, _, _, _, _, _, _, _, _, _, _, _, _, _, _, _, _, _, _, _, _, _, _, _, _, _, _, _, _, _, _, _, _, _, _, _, _, _, _, _, _, _, _, _, _, _, _, _, _, _, _, _, _, _, _, _, _, _, _, _, _, _, _, _, _, _, _]) shadowboxlaw09_ExtentTells.tab9 5 17 (fun sp => sp 17 = s11_17 ∧ sp 16 = s11_16) (fun sp on hA hon => ?_) (fun ops11_17 => ?_)
        · refine ⟨fun o ho vs Rs f' S' w hp hf hx hS hR hs => ?_⟩
          obtain rfl := Option.some.inj ho
          obtain ⟨hv16, hR16⟩ := (spe hA.2 hs11_16 (hp 16 (by kernel_rfl)))
          rw [hA.1, hs11_17]
          refine And.intro (fun a ha => (want_is (j := 16) (t := 38) (r := true) rfl rfl (by kernel_rfl) (((hf 16 38 (by kernel_rfl) rfl).trans hv16).trans (congrArg Value.bool (show t28 = true from q31))) rfl a ha).trans hon.symm) (And.intro (fun _ => ?_) (fun h => by rw [hon] at h; cases h))
          have hF := fr_next (fr_next (rfl) ((hx 0 (by kernel_rfl)).trans (by kernel_rfl : (_ : Value) = .slice A0_1 l0_1.length c0_1))) (((hf 16 38 (by kernel_rfl) rfl).trans hv16).trans (congrArg Value.bool (show t28 = true from q31)))
          refine ls_fr hF ?_
          refine ls_val (v := .slice A0_1 l0_1.length c0_1) rfl rfl (by kernel_rfl) (fun w => by kernel_rfl) ?_
          exact ls_fin s0 (.slice A0_1 l0_1.length c0_1) (congrArg (fun z => upd z 39 _) hF.symm) ⟨rfl, rfl⟩ (sub_nil _)
        obtain ⟨s11_18, hs11_18⟩ : ∃ z : Value → Sto → Prop, z = (fun v R => v = .agg ⟨([Value.int .i64 a1.1] ++ [Value.int .i64 a1.2])⟩ ∧ R = s0) := ⟨_, rfl⟩
        refine have_op (l := [_, _, _, _, _, _, _, _, _, _, _, _, _, _, _, _, _, _, _, _, _, _, _, _, _, _, _, _, _, _, _, _, _, _, _, _, _, _, _, _, _, _, _, _, _, _, _, _, _, _, _, _, _, _, _, _, _, _, _, _, _, _, _, _, _, _, _, _, _, _]) shadowboxlaw09_ExtentTells.tab9 5 18 (fun sp => sp 18 = s11_18 ∧ sp 16 = s11_16) (fun sp on hA hon => ?_) (fun ops11_18 => ?_)
        · refine ⟨fun o ho vs Rs f' S' w hp hf hx hS hR hs => ?_⟩
          obtain rfl := Option.some.inj ho
          obtain ⟨hv16, hR16⟩ := (spe hA.2 hs11_16 (hp 16 (by kernel_rfl)))
          rw [hA.1, hs11_18]
          refine And.intro (fun a ha => (want_is (j := 16) (t := 38) (r := true) rfl rfl (by kernel_rfl) (((hf 16 38 (by kernel_rfl) rfl).trans hv16).trans (congrArg Value.bool (show t28 = true from q31))) rfl a ha).trans hon.symm) (And.intro (fun _ => ?_) (fun h => by rw [hon] at h; cases h))
          have hF := fr_next (fr_next (rfl) ((hx 4 (by kernel_rfl)).trans (by kernel_rfl : (_ : Value) = .pointer (some ⟨g1, 0, none⟩)))) (((hf 16 38 (by kernel_rfl) rfl).trans hv16).trans (congrArg Value.bool (show t28 = true from q31)))
          refine ls_fr hF ?_
          refine ls_loadagg (a := ⟨g1, 0, none⟩) (sub := ([Value.int .i64 a1.1] ++ [Value.int .i64 a1.2])) rfl rfl (by kernel_rfl) rfl (by kernel_rfl) (by kernel_rfl) (by kernel_rfl) (len_app (len1 _) (len1 _)) (fun w1 hs1 => Rd.step (hs.vars (k := 0) ((hS 0 (by kernel_rfl)).trans (by exact rfl)) (Sub4.all _)) hs1.below.bw) ?_
          exact ls_fin s0 (.agg ⟨([Value.int .i64 a1.1] ++ [Value.int .i64 a1.2])⟩) (congrArg (fun z => upd z 40 _) hF.symm) ⟨rfl, rfl⟩ (sub_nil _)
        obtain ⟨t32, hc33, H⟩ := bind_some H
        obtain ⟨s11_19, hs11_19⟩ : ∃ z : Value → Sto → Prop, z = (fun v R => ∃ x34 : Unit, v = .bool t32 ∧ R = stl []) := ⟨_, rfl⟩
        refine have_op (l := [_, _, _, _, _, _, _, _, _, _, _, _, _, _, _, _, _, _, _, _, _, _, _, _, _, _, _, _, _, _, _, _, _, _, _, _, _, _, _, _, _, _, _, _, _, _, _, _, _, _, _, _, _, _, _, _, _, _, _, _, _, _, _, _, _, _, _, _, _, _]) shadowboxlaw09_ExtentTells.tab9 5 19 (fun sp => sp 19 = s11_19 ∧ sp 16 = s11_16 ∧ sp 17 = s11_17 ∧ sp 18 = s11_18) (fun sp on hA hon => ?_) (fun ops11_19 => ?_)
        · refine ⟨fun o ho vs Rs f' S' w hp hf hx hS hR hs => ?_⟩
          obtain rfl := Option.some.inj ho
          obtain ⟨hv16, hR16⟩ := (spe hA.2.1 hs11_16 (hp 16 (by kernel_rfl)))
          obtain ⟨hv17, hR17⟩ := (spe hA.2.2.1 hs11_17 (hp 17 (by kernel_rfl)))
          obtain ⟨hv18, hR18⟩ := (spe hA.2.2.2 hs11_18 (hp 18 (by kernel_rfl)))
          rw [hA.1, hs11_19]
          refine And.intro (fun a ha => (want_is (j := 16) (t := 38) (r := true) rfl rfl (by kernel_rfl) (((hf 16 38 (by kernel_rfl) rfl).trans hv16).trans (congrArg Value.bool (show t28 = true from q31))) rfl a ha).trans hon.symm) (And.intro (fun _ => ?_) (fun h => by rw [hon] at h; cases h))
          have hF := fr_next (fr_next (fr_next (rfl) (((hf 16 38 (by kernel_rfl) rfl).trans hv16).trans (congrArg Value.bool (show t28 = true from q31)))) ((hf 17 39 (by kernel_rfl) rfl).trans hv17)) ((hf 18 40 (by kernel_rfl) rfl).trans hv18)
          refine ls_fr hF ?_
          refine ls_call (fid := 12) (vals := #[.slice A0_1 l0_1.length c0_1, .agg ⟨([Value.int .i64 a1.1] ++ [Value.int .i64 a1.2])⟩]) (X := Unit) (fun x => .bool t32) (fun x => stl []) 0 rfl rfl (by kernel_rfl) (fun w => by kernel_rfl) (fun w1 hs1 => extent_Has.calls k A0_1 c0_1 l0_1 a1 t32 (bw w1) (St.refl w1) (Rd.ro (Rd.step (hs.old R0_1) hs1.below.bw)) C0_1 hc33) ?_
          intro x34
          exact ls_fin (stl []) (.bool t32) (congrArg (fun z => upd z 41 _) hF.symm) ⟨x34, rfl, rfl⟩ (sub_join _)
        obtain ⟨s11_20, hs11_20⟩ : ∃ z : Value → Sto → Prop, z = (fun v R => v = .slice x4.1 t2.length x4.2 ∧ R = s0) := ⟨_, rfl⟩
        refine have_op (l := [_, _, _, _, _, _, _, _, _, _, _, _, _, _, _, _, _, _, _, _, _, _, _, _, _, _, _, _, _, _, _, _, _, _, _, _, _, _, _, _, _, _, _, _, _, _, _, _, _, _, _, _, _, _, _, _, _, _, _, _, _, _, _, _, _, _, _, _, _, _]) shadowboxlaw09_ExtentTells.tab9 5 20 (fun sp => sp 20 = s11_20 ∧ sp 16 = s11_16) (fun sp on hA hon => ?_) (fun ops11_20 => ?_)
        · refine ⟨fun o ho vs Rs f' S' w hp hf hx hS hR hs => ?_⟩
          obtain rfl := Option.some.inj ho
          obtain ⟨hv16, hR16⟩ := (spe hA.2 hs11_16 (hp 16 (by kernel_rfl)))
          rw [hA.1, hs11_20]
          refine And.intro (fun a ha => (want_is (j := 16) (t := 38) (r := true) rfl rfl (by kernel_rfl) (((hf 16 38 (by kernel_rfl) rfl).trans hv16).trans (congrArg Value.bool (show t28 = true from q31))) rfl a ha).trans hon.symm) (And.intro (fun _ => ?_) (fun h => by rw [hon] at h; cases h))
          have hF := fr_next (fr_next (rfl) ((hx 7 (by kernel_rfl)).trans (by kernel_rfl : (_ : Value) = .slice x4.1 t2.length x4.2))) (((hf 16 38 (by kernel_rfl) rfl).trans hv16).trans (congrArg Value.bool (show t28 = true from q31)))
          refine ls_fr hF ?_
          refine ls_val (v := .slice x4.1 t2.length x4.2) rfl rfl (by kernel_rfl) (fun w => by kernel_rfl) ?_
          exact ls_fin s0 (.slice x4.1 t2.length x4.2) (congrArg (fun z => upd z 42 _) hF.symm) ⟨rfl, rfl⟩ (sub_nil _)
        obtain ⟨s11_21, hs11_21⟩ : ∃ z : Value → Sto → Prop, z = (fun v R => v = .agg ⟨([Value.int .i64 a1.1] ++ [Value.int .i64 a1.2])⟩ ∧ R = s0) := ⟨_, rfl⟩
        refine have_op (l := [_, _, _, _, _, _, _, _, _, _, _, _, _, _, _, _, _, _, _, _, _, _, _, _, _, _, _, _, _, _, _, _, _, _, _, _, _, _, _, _, _, _, _, _, _, _, _, _, _, _, _, _, _, _, _, _, _, _, _, _, _, _, _, _, _, _, _, _, _, _]) shadowboxlaw09_ExtentTells.tab9 5 21 (fun sp => sp 21 = s11_21 ∧ sp 16 = s11_16) (fun sp on hA hon => ?_) (fun ops11_21 => ?_)
        · refine ⟨fun o ho vs Rs f' S' w hp hf hx hS hR hs => ?_⟩
          obtain rfl := Option.some.inj ho
          obtain ⟨hv16, hR16⟩ := (spe hA.2 hs11_16 (hp 16 (by kernel_rfl)))
          rw [hA.1, hs11_21]
          refine And.intro (fun a ha => (want_is (j := 16) (t := 38) (r := true) rfl rfl (by kernel_rfl) (((hf 16 38 (by kernel_rfl) rfl).trans hv16).trans (congrArg Value.bool (show t28 = true from q31))) rfl a ha).trans hon.symm) (And.intro (fun _ => ?_) (fun h => by rw [hon] at h; cases h))
          have hF := fr_next (fr_next (rfl) ((hx 8 (by kernel_rfl)).trans (by kernel_rfl : (_ : Value) = .pointer (some ⟨g5, 0, none⟩)))) (((hf 16 38 (by kernel_rfl) rfl).trans hv16).trans (congrArg Value.bool (show t28 = true from q31)))
          refine ls_fr hF ?_
          refine ls_loadagg (a := ⟨g5, 0, none⟩) (sub := ([Value.int .i64 a1.1] ++ [Value.int .i64 a1.2])) rfl rfl (by kernel_rfl) rfl (by kernel_rfl) (by kernel_rfl) (by kernel_rfl) (len_app (len1 _) (len1 _)) (fun w1 hs1 => Rd.step (hs.vars (k := 2) ((hS 2 (by kernel_rfl)).trans (by exact rfl)) (Sub4.all _)) hs1.below.bw) ?_
          exact ls_fin s0 (.agg ⟨([Value.int .i64 a1.1] ++ [Value.int .i64 a1.2])⟩) (congrArg (fun z => upd z 43 _) hF.symm) ⟨rfl, rfl⟩ (sub_nil _)
        obtain ⟨t35, hc36, H⟩ := bind_some H
        obtain ⟨s11_22, hs11_22⟩ : ∃ z : Value → Sto → Prop, z = (fun v R => ∃ x37 : Unit, v = .bool t35 ∧ R = stl []) := ⟨_, rfl⟩
        refine have_op (l := [_, _, _, _, _, _, _, _, _, _, _, _, _, _, _, _, _, _, _, _, _, _, _, _, _, _, _, _, _, _, _, _, _, _, _, _, _, _, _, _, _, _, _, _, _, _, _, _, _, _, _, _, _, _, _, _, _, _, _, _, _, _, _, _, _, _, _, _, _, _]) shadowboxlaw09_ExtentTells.tab9 5 22 (fun sp => sp 22 = s11_22 ∧ sp 16 = s11_16 ∧ sp 20 = s11_20 ∧ sp 21 = s11_21) (fun sp on hA hon => ?_) (fun ops11_22 => ?_)
        · refine ⟨fun o ho vs Rs f' S' w hp hf hx hS hR hs => ?_⟩
          obtain rfl := Option.some.inj ho
          obtain ⟨hv16, hR16⟩ := (spe hA.2.1 hs11_16 (hp 16 (by kernel_rfl)))
          obtain ⟨hv20, hR20⟩ := (spe hA.2.2.1 hs11_20 (hp 20 (by kernel_rfl)))
          obtain ⟨hv21, hR21⟩ := (spe hA.2.2.2 hs11_21 (hp 21 (by kernel_rfl)))
          rw [hA.1, hs11_22]
          refine And.intro (fun a ha => (want_is (j := 16) (t := 38) (r := true) rfl rfl (by kernel_rfl) (((hf 16 38 (by kernel_rfl) rfl).trans hv16).trans (congrArg Value.bool (show t28 = true from q31))) rfl a ha).trans hon.symm) (And.intro (fun _ => ?_) (fun h => by rw [hon] at h; cases h))
          have hF := fr_next (fr_next (fr_next (rfl) (((hf 16 38 (by kernel_rfl) rfl).trans hv16).trans (congrArg Value.bool (show t28 = true from q31)))) ((hf 20 42 (by kernel_rfl) rfl).trans hv20)) ((hf 21 43 (by kernel_rfl) rfl).trans hv21)
          refine ls_fr hF ?_
          refine ls_call (fid := 20) (vals := #[.slice x4.1 t2.length x4.2, .agg ⟨([Value.int .i64 a1.1] ++ [Value.int .i64 a1.2])⟩]) (X := Unit) (fun x => .bool t35) (fun x => stl []) 0 rfl rfl (by kernel_rfl) (fun w => by kernel_rfl) (fun w1 hs1 => shadowboxref09_Has.calls k x4.1 x4.2 t2 a1 t35 (bw w1) (St.refl w1) (Rd.ro (Rd.step (hs.rd (k := 1) ((hS 1 (by kernel_rfl)).trans (by exact rfl))) hs1.below.bw)) (hs.cap (k := 1) ((hS 1 (by kernel_rfl)).trans (by exact rfl))) hc36) ?_
          intro x37
          exact ls_fin (stl []) (.bool t35) (congrArg (fun z => upd z 44 _) hF.symm) ⟨x37, rfl, rfl⟩ (sub_join _)
        obtain ⟨s11_23, hs11_23⟩ : ∃ z : Value → Sto → Prop, z = (fun v R => v = .bool (t32 == t35) ∧ R = s0) := ⟨_, rfl⟩
        refine have_op (l := [_, _, _, _, _, _, _, _, _, _, _, _, _, _, _, _, _, _, _, _, _, _, _, _, _, _, _, _, _, _, _, _, _, _, _, _, _, _, _, _, _, _, _, _, _, _, _, _, _, _, _, _, _, _, _, _, _, _, _, _, _, _, _, _, _, _, _, _, _, _]) shadowboxlaw09_ExtentTells.tab9 5 23 (fun sp => sp 23 = s11_23 ∧ sp 16 = s11_16 ∧ sp 19 = s11_19 ∧ sp 22 = s11_22) (fun sp on hA hon => ?_) (fun ops11_23 => ?_)
        · refine ⟨fun o ho vs Rs f' S' w hp hf hx hS hR hs => ?_⟩
          obtain rfl := Option.some.inj ho
          obtain ⟨hv16, hR16⟩ := (spe hA.2.1 hs11_16 (hp 16 (by kernel_rfl)))
          obtain ⟨x34, hv19, hR19⟩ := (spe hA.2.2.1 hs11_19 (hp 19 (by kernel_rfl)))
          obtain ⟨x37, hv22, hR22⟩ := (spe hA.2.2.2 hs11_22 (hp 22 (by kernel_rfl)))
          rw [hA.1, hs11_23]
          refine And.intro (fun a ha => (want_is (j := 16) (t := 38) (r := true) rfl rfl (by kernel_rfl) (((hf 16 38 (by kernel_rfl) rfl).trans hv16).trans (congrArg Value.bool (show t28 = true from q31))) rfl a ha).trans hon.symm) (And.intro (fun _ => ?_) (fun h => by rw [hon] at h; cases h))
          have hF := fr_next (fr_next (fr_next (rfl) (((hf 16 38 (by kernel_rfl) rfl).trans hv16).trans (congrArg Value.bool (show t28 = true from q31)))) ((hf 19 41 (by kernel_rfl) rfl).trans hv19)) ((hf 22 44 (by kernel_rfl) rfl).trans hv22)
          refine ls_fr hF ?_
          refine ls_val (v := .bool (t32 == t35)) rfl rfl (by kernel_rfl) (fun w => by kernel_rfl) ?_
          exact ls_fin s0 (.bool (t32 == t35)) (congrArg (fun z => upd z 45 _) hF.symm) ⟨rfl, rfl⟩ (sub_nil _)
        obtain ⟨s11_24, hs11_24⟩ : ∃ z : Value → Sto → Prop, z = (fun v R => v = .bool (t32 == t35) ∧ R = s0) := ⟨_, rfl⟩
        refine have_op (l := [_, _, _, _, _, _, _, _, _, _, _, _, _, _, _, _, _, _, _, _, _, _, _, _, _, _, _, _, _, _, _, _, _, _, _, _, _, _, _, _, _, _, _, _, _, _, _, _, _, _, _, _, _, _, _, _, _, _, _, _, _, _, _, _, _, _, _, _, _, _]) shadowboxlaw09_ExtentTells.tab9 5 24 (fun sp => sp 24 = s11_24 ∧ sp 16 = s11_16 ∧ sp 23 = s11_23) (fun sp on hA hon => ?_) (fun ops11_24 => ?_)
        · refine ⟨fun o ho vs Rs f' S' w hp hf hx hS hR hs => ?_⟩
          obtain rfl := Option.some.inj ho
          obtain ⟨hv16, hR16⟩ := (spe hA.2.1 hs11_16 (hp 16 (by kernel_rfl)))
          obtain ⟨hv23, hR23⟩ := (spe hA.2.2 hs11_23 (hp 23 (by kernel_rfl)))
          rw [hA.1, hs11_24]
          refine And.intro (fun a ha => (want_none rfl a ha).trans hon.symm) (And.intro (fun _ => ?_) (fun h => by rw [hon] at h; cases h))
          have hF := fr_next (fr_next (rfl) (((hf 16 38 (by kernel_rfl) rfl).trans hv16).trans (congrArg Value.bool (show t28 = true from q31)))) ((hf 23 45 (by kernel_rfl) rfl).trans hv23)
          refine ls_fr hF ?_
          refine ls_val (v := .bool (t32 == t35)) rfl rfl (by kernel_rfl) (fun w => by kernel_rfl) ?_
          exact ls_fin s0 (.bool (t32 == t35)) (congrArg (fun z => upd z 46 _) hF.symm) ⟨rfl, rfl⟩ (sub_nil _)
        obtain ⟨s11_25, hs11_25⟩ : ∃ z : Value → Sto → Prop, z = (fun v R => v = .bool (t32 == t35) ∧ R = s0) := ⟨_, rfl⟩
        refine have_op (l := [_, _, _, _, _, _, _, _, _, _, _, _, _, _, _, _, _, _, _, _, _, _, _, _, _, _, _, _, _, _, _, _, _, _, _, _, _, _, _, _, _, _, _, _, _, _, _, _, _, _, _, _, _, _, _, _, _, _, _, _, _, _, _, _, _, _, _, _, _, _]) shadowboxlaw09_ExtentTells.tab9 5 25 (fun sp => sp 25 = s11_25 ∧ sp 24 = s11_24) (fun sp on hA hon => ?_) (fun ops11_25 => ?_)
        · refine ⟨fun o ho vs Rs f' S' w hp hf hx hS hR hs => ?_⟩
          obtain rfl := Option.some.inj ho
          obtain ⟨hv24, hR24⟩ := (spe hA.2 hs11_24 (hp 24 (by kernel_rfl)))
          rw [hA.1, hs11_25]
          refine And.intro (fun a ha => (want_none rfl a ha).trans hon.symm) (And.intro (fun _ => ?_) (fun h => by rw [hon] at h; cases h))
          have hF := fr_next (rfl) ((hf 24 46 (by kernel_rfl) rfl).trans hv24)
          refine ls_fr hF ?_
          refine ls_val (v := .bool (t32 == t35)) rfl rfl (by kernel_rfl) (fun w => by kernel_rfl) ?_
          exact ls_fin s0 (.bool (t32 == t35)) (congrArg (fun z => upd z 47 _) hF.symm) ⟨rfl, rfl⟩ (sub_nil _)
        by_cases q38 : (t32 == t35) = true
        · replace H := ite_t q38 H
          obtain ⟨s11_26, hs11_26⟩ : ∃ z : Value → Sto → Prop, z = (fun v R => v = .slice A0_1 l0_1.length c0_1 ∧ R = s0) := ⟨_, rfl⟩
          refine have_op (l := [_, _, _, _, _, _, _, _, _, _, _, _, _, _, _, _, _, _, _, _, _, _, _, _, _, _, _, _, _, _, _, _, _, _, _, _, _, _, _, _, _, _, _, _, _, _, _, _, _, _, _, _, _, _, _, _, _, _, _, _, _, _, _, _, _, _, _, _, _, _]) shadowboxlaw09_ExtentTells.tab9 5 26 (fun sp => sp 26 = s11_26 ∧ sp 25 = s11_25) (fun sp on hA hon => ?_) (fun ops11_26 => ?_)
          · refine ⟨fun o ho vs Rs f' S' w hp hf hx hS hR hs => ?_⟩
            obtain rfl := Option.some.inj ho
            obtain ⟨hv25, hR25⟩ := (spe hA.2 hs11_25 (hp 25 (by kernel_rfl)))
            rw [hA.1, hs11_26]
            refine And.intro (fun a ha => (want_is (j := 25) (t := 47) (r := true) rfl rfl (by kernel_rfl) (((hf 25 47 (by kernel_rfl) rfl).trans hv25).trans (congrArg Value.bool (show (t32 == t35) = true from q38))) rfl a ha).trans hon.symm) (And.intro (fun _ => ?_) (fun h => by rw [hon] at h; cases h))
            have hF := fr_next (fr_next (rfl) ((hx 0 (by kernel_rfl)).trans (by kernel_rfl : (_ : Value) = .slice A0_1 l0_1.length c0_1))) (((hf 25 47 (by kernel_rfl) rfl).trans hv25).trans (congrArg Value.bool (show (t32 == t35) = true from q38)))
            refine ls_fr hF ?_
            refine ls_val (v := .slice A0_1 l0_1.length c0_1) rfl rfl (by kernel_rfl) (fun w => by kernel_rfl) ?_
            exact ls_fin s0 (.slice A0_1 l0_1.length c0_1) (congrArg (fun z => upd z 48 _) hF.symm) ⟨rfl, rfl⟩ (sub_nil _)
          obtain ⟨s11_27, hs11_27⟩ : ∃ z : Value → Sto → Prop, z = (fun v R => v = .agg ⟨([Value.int .i64 a1.1] ++ [Value.int .i64 a1.2])⟩ ∧ R = s0) := ⟨_, rfl⟩
          refine have_op (l := [_, _, _, _, _, _, _, _, _, _, _, _, _, _, _, _, _, _, _, _, _, _, _, _, _, _, _, _, _, _, _, _, _, _, _, _, _, _, _, _, _, _, _, _, _, _, _, _, _, _, _, _, _, _, _, _, _, _, _, _, _, _, _, _, _, _, _, _, _, _]) shadowboxlaw09_ExtentTells.tab9 5 27 (fun sp => sp 27 = s11_27 ∧ sp 25 = s11_25) (fun sp on hA hon => ?_) (fun ops11_27 => ?_)
          · refine ⟨fun o ho vs Rs f' S' w hp hf hx hS hR hs => ?_⟩
            obtain rfl := Option.some.inj ho
            obtain ⟨hv25, hR25⟩ := (spe hA.2 hs11_25 (hp 25 (by kernel_rfl)))
            rw [hA.1, hs11_27]
            refine And.intro (fun a ha => (want_is (j := 25) (t := 47) (r := true) rfl rfl (by kernel_rfl) (((hf 25 47 (by kernel_rfl) rfl).trans hv25).trans (congrArg Value.bool (show (t32 == t35) = true from q38))) rfl a ha).trans hon.symm) (And.intro (fun _ => ?_) (fun h => by rw [hon] at h; cases h))
            have hF := fr_next (fr_next (rfl) ((hx 4 (by kernel_rfl)).trans (by kernel_rfl : (_ : Value) = .pointer (some ⟨g1, 0, none⟩)))) (((hf 25 47 (by kernel_rfl) rfl).trans hv25).trans (congrArg Value.bool (show (t32 == t35) = true from q38)))
            refine ls_fr hF ?_
            refine ls_loadagg (a := ⟨g1, 0, none⟩) (sub := ([Value.int .i64 a1.1] ++ [Value.int .i64 a1.2])) rfl rfl (by kernel_rfl) rfl (by kernel_rfl) (by kernel_rfl) (by kernel_rfl) (len_app (len1 _) (len1 _)) (fun w1 hs1 => Rd.step (hs.vars (k := 0) ((hS 0 (by kernel_rfl)).trans (by exact rfl)) (Sub4.all _)) hs1.below.bw) ?_
            exact ls_fin s0 (.agg ⟨([Value.int .i64 a1.1] ++ [Value.int .i64 a1.2])⟩) (congrArg (fun z => upd z 49 _) hF.symm) ⟨rfl, rfl⟩ (sub_nil _)
          obtain ⟨t39, hc40, H⟩ := bind_some H
          obtain ⟨s11_28, hs11_28⟩ : ∃ z : Value → Sto → Prop, z = (fun v R => ∃ x41 : Unit, v = .bool t39 ∧ R = stl []) := ⟨_, rfl⟩
          refine have_op (l := [_, _, _, _, _, _, _, _, _, _, _, _, _, _, _, _, _, _, _, _, _, _, _, _, _, _, _, _, _, _, _, _, _, _, _, _, _, _, _, _, _, _, _, _, _, _, _, _, _, _, _, _, _, _, _, _, _, _, _, _, _, _, _, _, _, _, _, _, _, _]) shadowboxlaw09_ExtentTells.tab9 5 28 (fun sp => sp 28 = s11_28 ∧ sp 25 = s11_25 ∧ sp 26 = s11_26 ∧ sp 27 = s11_27) (fun sp on hA hon => ?_) (fun ops11_28 => ?_)
          · refine ⟨fun o ho vs Rs f' S' w hp hf hx hS hR hs => ?_⟩
            obtain rfl := Option.some.inj ho
            obtain ⟨hv25, hR25⟩ := (spe hA.2.1 hs11_25 (hp 25 (by kernel_rfl)))
            obtain ⟨hv26, hR26⟩ := (spe hA.2.2.1 hs11_26 (hp 26 (by kernel_rfl)))
            obtain ⟨hv27, hR27⟩ := (spe hA.2.2.2 hs11_27 (hp 27 (by kernel_rfl)))
            rw [hA.1, hs11_28]
            refine And.intro (fun a ha => (want_is (j := 25) (t := 47) (r := true) rfl rfl (by kernel_rfl) (((hf 25 47 (by kernel_rfl) rfl).trans hv25).trans (congrArg Value.bool (show (t32 == t35) = true from q38))) rfl a ha).trans hon.symm) (And.intro (fun _ => ?_) (fun h => by rw [hon] at h; cases h))
            have hF := fr_next (fr_next (fr_next (rfl) (((hf 25 47 (by kernel_rfl) rfl).trans hv25).trans (congrArg Value.bool (show (t32 == t35) = true from q38)))) ((hf 26 48 (by kernel_rfl) rfl).trans hv26)) ((hf 27 49 (by kernel_rfl) rfl).trans hv27)
            refine ls_fr hF ?_
            refine ls_call (fid := 11) (vals := #[.slice A0_1 l0_1.length c0_1, .agg ⟨([Value.int .i64 a1.1] ++ [Value.int .i64 a1.2])⟩]) (X := Unit) (fun x => .bool t39) (fun x => stl []) 0 rfl rfl (by kernel_rfl) (fun w => by kernel_rfl) (fun w1 hs1 => extent_Meets.calls k A0_1 c0_1 l0_1 a1 t39 (bw w1) (St.refl w1) (Rd.ro (Rd.step (hs.old R0_1) hs1.below.bw)) C0_1 hc40) ?_
            intro x41
            exact ls_fin (stl []) (.bool t39) (congrArg (fun z => upd z 50 _) hF.symm) ⟨x41, rfl, rfl⟩ (sub_join _)
          obtain ⟨s11_29, hs11_29⟩ : ∃ z : Value → Sto → Prop, z = (fun v R => v = .slice x4.1 t2.length x4.2 ∧ R = s0) := ⟨_, rfl⟩
          refine have_op (l := [_, _, _, _, _, _, _, _, _, _, _, _, _, _, _, _, _, _, _, _, _, _, _, _, _, _, _, _, _, _, _, _, _, _, _, _, _, _, _, _, _, _, _, _, _, _, _, _, _, _, _, _, _, _, _, _, _, _, _, _, _, _, _, _, _, _, _, _, _, _]) shadowboxlaw09_ExtentTells.tab9 5 29 (fun sp => sp 29 = s11_29 ∧ sp 25 = s11_25) (fun sp on hA hon => ?_) (fun ops11_29 => ?_)
          · refine ⟨fun o ho vs Rs f' S' w hp hf hx hS hR hs => ?_⟩
            obtain rfl := Option.some.inj ho
            obtain ⟨hv25, hR25⟩ := (spe hA.2 hs11_25 (hp 25 (by kernel_rfl)))
            rw [hA.1, hs11_29]
            refine And.intro (fun a ha => (want_is (j := 25) (t := 47) (r := true) rfl rfl (by kernel_rfl) (((hf 25 47 (by kernel_rfl) rfl).trans hv25).trans (congrArg Value.bool (show (t32 == t35) = true from q38))) rfl a ha).trans hon.symm) (And.intro (fun _ => ?_) (fun h => by rw [hon] at h; cases h))
            have hF := fr_next (fr_next (rfl) ((hx 7 (by kernel_rfl)).trans (by kernel_rfl : (_ : Value) = .slice x4.1 t2.length x4.2))) (((hf 25 47 (by kernel_rfl) rfl).trans hv25).trans (congrArg Value.bool (show (t32 == t35) = true from q38)))
            refine ls_fr hF ?_
            refine ls_val (v := .slice x4.1 t2.length x4.2) rfl rfl (by kernel_rfl) (fun w => by kernel_rfl) ?_
            exact ls_fin s0 (.slice x4.1 t2.length x4.2) (congrArg (fun z => upd z 51 _) hF.symm) ⟨rfl, rfl⟩ (sub_nil _)
          obtain ⟨s11_30, hs11_30⟩ : ∃ z : Value → Sto → Prop, z = (fun v R => v = .agg ⟨([Value.int .i64 a1.1] ++ [Value.int .i64 a1.2])⟩ ∧ R = s0) := ⟨_, rfl⟩
          refine have_op (l := [_, _, _, _, _, _, _, _, _, _, _, _, _, _, _, _, _, _, _, _, _, _, _, _, _, _, _, _, _, _, _, _, _, _, _, _, _, _, _, _, _, _, _, _, _, _, _, _, _, _, _, _, _, _, _, _, _, _, _, _, _, _, _, _, _, _, _, _, _, _]) shadowboxlaw09_ExtentTells.tab9 5 30 (fun sp => sp 30 = s11_30 ∧ sp 25 = s11_25) (fun sp on hA hon => ?_) (fun ops11_30 => ?_)
          · refine ⟨fun o ho vs Rs f' S' w hp hf hx hS hR hs => ?_⟩
            obtain rfl := Option.some.inj ho
            obtain ⟨hv25, hR25⟩ := (spe hA.2 hs11_25 (hp 25 (by kernel_rfl)))
            rw [hA.1, hs11_30]
            refine And.intro (fun a ha => (want_is (j := 25) (t := 47) (r := true) rfl rfl (by kernel_rfl) (((hf 25 47 (by kernel_rfl) rfl).trans hv25).trans (congrArg Value.bool (show (t32 == t35) = true from q38))) rfl a ha).trans hon.symm) (And.intro (fun _ => ?_) (fun h => by rw [hon] at h; cases h))
            have hF := fr_next (fr_next (rfl) ((hx 8 (by kernel_rfl)).trans (by kernel_rfl : (_ : Value) = .pointer (some ⟨g5, 0, none⟩)))) (((hf 25 47 (by kernel_rfl) rfl).trans hv25).trans (congrArg Value.bool (show (t32 == t35) = true from q38)))
            refine ls_fr hF ?_
            refine ls_loadagg (a := ⟨g5, 0, none⟩) (sub := ([Value.int .i64 a1.1] ++ [Value.int .i64 a1.2])) rfl rfl (by kernel_rfl) rfl (by kernel_rfl) (by kernel_rfl) (by kernel_rfl) (len_app (len1 _) (len1 _)) (fun w1 hs1 => Rd.step (hs.vars (k := 2) ((hS 2 (by kernel_rfl)).trans (by exact rfl)) (Sub4.all _)) hs1.below.bw) ?_
            exact ls_fin s0 (.agg ⟨([Value.int .i64 a1.1] ++ [Value.int .i64 a1.2])⟩) (congrArg (fun z => upd z 52 _) hF.symm) ⟨rfl, rfl⟩ (sub_nil _)
          obtain ⟨t42, hc43, H⟩ := bind_some H
          obtain ⟨s11_31, hs11_31⟩ : ∃ z : Value → Sto → Prop, z = (fun v R => ∃ x44 : Unit, v = .bool t42 ∧ R = stl []) := ⟨_, rfl⟩
          refine have_op (l := [_, _, _, _, _, _, _, _, _, _, _, _, _, _, _, _, _, _, _, _, _, _, _, _, _, _, _, _, _, _, _, _, _, _, _, _, _, _, _, _, _, _, _, _, _, _, _, _, _, _, _, _, _, _, _, _, _, _, _, _, _, _, _, _, _, _, _, _, _, _]) shadowboxlaw09_ExtentTells.tab9 5 31 (fun sp => sp 31 = s11_31 ∧ sp 25 = s11_25 ∧ sp 29 = s11_29 ∧ sp 30 = s11_30) (fun sp on hA hon => ?_) (fun ops11_31 => ?_)
          · refine ⟨fun o ho vs Rs f' S' w hp hf hx hS hR hs => ?_⟩
            obtain rfl := Option.some.inj ho
            obtain ⟨hv25, hR25⟩ := (spe hA.2.1 hs11_25 (hp 25 (by kernel_rfl)))
            obtain ⟨hv29, hR29⟩ := (spe hA.2.2.1 hs11_29 (hp 29 (by kernel_rfl)))
            obtain ⟨hv30, hR30⟩ := (spe hA.2.2.2 hs11_30 (hp 30 (by kernel_rfl)))
            rw [hA.1, hs11_31]
            refine And.intro (fun a ha => (want_is (j := 25) (t := 47) (r := true) rfl rfl (by kernel_rfl) (((hf 25 47 (by kernel_rfl) rfl).trans hv25).trans (congrArg Value.bool (show (t32 == t35) = true from q38))) rfl a ha).trans hon.symm) (And.intro (fun _ => ?_) (fun h => by rw [hon] at h; cases h))
            have hF := fr_next (fr_next (fr_next (rfl) (((hf 25 47 (by kernel_rfl) rfl).trans hv25).trans (congrArg Value.bool (show (t32 == t35) = true from q38)))) ((hf 29 51 (by kernel_rfl) rfl).trans hv29)) ((hf 30 52 (by kernel_rfl) rfl).trans hv30)
            refine ls_fr hF ?_
            refine ls_call (fid := 21) (vals := #[.slice x4.1 t2.length x4.2, .agg ⟨([Value.int .i64 a1.1] ++ [Value.int .i64 a1.2])⟩]) (X := Unit) (fun x => .bool t42) (fun x => stl []) 0 rfl rfl (by kernel_rfl) (fun w => by kernel_rfl) (fun w1 hs1 => shadowboxref09_Meets.calls k x4.1 x4.2 t2 a1 t42 (bw w1) (St.refl w1) (Rd.ro (Rd.step (hs.rd (k := 1) ((hS 1 (by kernel_rfl)).trans (by exact rfl))) hs1.below.bw)) (hs.cap (k := 1) ((hS 1 (by kernel_rfl)).trans (by exact rfl))) hc43) ?_
            intro x44
            exact ls_fin (stl []) (.bool t42) (congrArg (fun z => upd z 53 _) hF.symm) ⟨x44, rfl, rfl⟩ (sub_join _)
          obtain ⟨s11_32, hs11_32⟩ : ∃ z : Value → Sto → Prop, z = (fun v R => v = .bool (t39 == t42) ∧ R = s0) := ⟨_, rfl⟩
          refine have_op (l := [_, _, _, _, _, _, _, _, _, _, _, _, _, _, _, _, _, _, _, _, _, _, _, _, _, _, _, _, _, _, _, _, _, _, _, _, _, _, _, _, _, _, _, _, _, _, _, _, _, _, _, _, _, _, _, _, _, _, _, _, _, _, _, _, _, _, _, _, _, _]) shadowboxlaw09_ExtentTells.tab9 5 32 (fun sp => sp 32 = s11_32 ∧ sp 25 = s11_25 ∧ sp 28 = s11_28 ∧ sp 31 = s11_31) (fun sp on hA hon => ?_) (fun ops11_32 => ?_)
          · refine ⟨fun o ho vs Rs f' S' w hp hf hx hS hR hs => ?_⟩
            obtain rfl := Option.some.inj ho
            obtain ⟨hv25, hR25⟩ := (spe hA.2.1 hs11_25 (hp 25 (by kernel_rfl)))
            obtain ⟨x41, hv28, hR28⟩ := (spe hA.2.2.1 hs11_28 (hp 28 (by kernel_rfl)))
            obtain ⟨x44, hv31, hR31⟩ := (spe hA.2.2.2 hs11_31 (hp 31 (by kernel_rfl)))
            rw [hA.1, hs11_32]
            refine And.intro (fun a ha => (want_is (j := 25) (t := 47) (r := true) rfl rfl (by kernel_rfl) (((hf 25 47 (by kernel_rfl) rfl).trans hv25).trans (congrArg Value.bool (show (t32 == t35) = true from q38))) rfl a ha).trans hon.symm) (And.intro (fun _ => ?_) (fun h => by rw [hon] at h; cases h))
            have hF := fr_next (fr_next (fr_next (rfl) (((hf 25 47 (by kernel_rfl) rfl).trans hv25).trans (congrArg Value.bool (show (t32 == t35) = true from q38)))) ((hf 28 50 (by kernel_rfl) rfl).trans hv28)) ((hf 31 53 (by kernel_rfl) rfl).trans hv31)
            refine ls_fr hF ?_
            refine ls_val (v := .bool (t39 == t42)) rfl rfl (by kernel_rfl) (fun w => by kernel_rfl) ?_
            exact ls_fin s0 (.bool (t39 == t42)) (congrArg (fun z => upd z 54 _) hF.symm) ⟨rfl, rfl⟩ (sub_nil _)
          obtain ⟨s11_33, hs11_33⟩ : ∃ z : Value → Sto → Prop, z = (fun v R => v = .bool (t39 == t42) ∧ R = s0) := ⟨_, rfl⟩
          refine have_op (l := [_, _, _, _, _, _, _, _, _, _, _, _, _, _, _, _, _, _, _, _, _, _, _, _, _, _, _, _, _, _, _, _, _, _, _, _, _, _, _, _, _, _, _, _, _, _, _, _, _, _, _, _, _, _, _, _, _, _, _, _, _, _, _, _, _, _, _, _, _, _]) shadowboxlaw09_ExtentTells.tab9 5 33 (fun sp => sp 33 = s11_33 ∧ sp 25 = s11_25 ∧ sp 32 = s11_32) (fun sp on hA hon => ?_) (fun ops11_33 => ?_)
          · refine ⟨fun o ho vs Rs f' S' w hp hf hx hS hR hs => ?_⟩
            obtain rfl := Option.some.inj ho
            obtain ⟨hv25, hR25⟩ := (spe hA.2.1 hs11_25 (hp 25 (by kernel_rfl)))
            obtain ⟨hv32, hR32⟩ := (spe hA.2.2 hs11_32 (hp 32 (by kernel_rfl)))
            rw [hA.1, hs11_33]
            refine And.intro (fun a ha => (want_none rfl a ha).trans hon.symm) (And.intro (fun _ => ?_) (fun h => by rw [hon] at h; cases h))
            have hF := fr_next (fr_next (rfl) (((hf 25 47 (by kernel_rfl) rfl).trans hv25).trans (congrArg Value.bool (show (t32 == t35) = true from q38)))) ((hf 32 54 (by kernel_rfl) rfl).trans hv32)
            refine ls_fr hF ?_
            refine ls_val (v := .bool (t39 == t42)) rfl rfl (by kernel_rfl) (fun w => by kernel_rfl) ?_
            exact ls_fin s0 (.bool (t39 == t42)) (congrArg (fun z => upd z 55 _) hF.symm) ⟨rfl, rfl⟩ (sub_nil _)
          obtain ⟨s11_34, hs11_34⟩ : ∃ z : Value → Sto → Prop, z = (fun v R => v = .bool (t39 == t42) ∧ R = s0) := ⟨_, rfl⟩
          refine have_op (l := [_, _, _, _, _, _, _, _, _, _, _, _, _, _, _, _, _, _, _, _, _, _, _, _, _, _, _, _, _, _, _, _, _, _, _, _, _, _, _, _, _, _, _, _, _, _, _, _, _, _, _, _, _, _, _, _, _, _, _, _, _, _, _, _, _, _, _, _, _, _]) shadowboxlaw09_ExtentTells.tab9 5 34 (fun sp => sp 34 = s11_34 ∧ sp 33 = s11_33) (fun sp on hA hon => ?_) (fun ops11_34 => ?_)
          · refine ⟨fun o ho vs Rs f' S' w hp hf hx hS hR hs => ?_⟩
            obtain rfl := Option.some.inj ho
            obtain ⟨hv33, hR33⟩ := (spe hA.2 hs11_33 (hp 33 (by kernel_rfl)))
            rw [hA.1, hs11_34]
            refine And.intro (fun a ha => (want_none rfl a ha).trans hon.symm) (And.intro (fun _ => ?_) (fun h => by rw [hon] at h; cases h))
            have hF := fr_next (rfl) ((hf 33 55 (by kernel_rfl) rfl).trans hv33)
            refine ls_fr hF ?_
            refine ls_val (v := .bool (t39 == t42)) rfl rfl (by kernel_rfl) (fun w => by kernel_rfl) ?_
            exact ls_fin s0 (.bool (t39 == t42)) (congrArg (fun z => upd z 56 _) hF.symm) ⟨rfl, rfl⟩ (sub_nil _)
          by_cases q45 : (t39 == t42) = true
          · replace H := ite_t q45 H
            obtain ⟨s11_35, hs11_35⟩ : ∃ z : Value → Sto → Prop, z = (fun v R => v = .slice A0_1 l0_1.length c0_1 ∧ R = s0) := ⟨_, rfl⟩
            refine have_op (l := [_, _, _, _, _, _, _, _, _, _, _, _, _, _, _, _, _, _, _, _, _, _, _, _, _, _, _, _, _, _, _, _, _, _, _, _, _, _, _, _, _, _, _, _, _, _, _, _, _, _, _, _, _, _, _, _, _, _, _, _, _, _, _, _, _, _, _, _, _, _]) shadowboxlaw09_ExtentTells.tab9 5 35 (fun sp => sp 35 = s11_35 ∧ sp 34 = s11_34) (fun sp on hA hon => ?_) (fun ops11_35 => ?_)
            · refine ⟨fun o ho vs Rs f' S' w hp hf hx hS hR hs => ?_⟩
              obtain rfl := Option.some.inj ho
              obtain ⟨hv34, hR34⟩ := (spe hA.2 hs11_34 (hp 34 (by kernel_rfl)))
              rw [hA.1, hs11_35]
              refine And.intro (fun a ha => (want_is (j := 34) (t := 56) (r := true) rfl rfl (by kernel_rfl) (((hf 34 56 (by kernel_rfl) rfl).trans hv34).trans (congrArg Value.bool (show (t39 == t42) = true from q45))) rfl a ha).trans hon.symm) (And.intro (fun _ => ?_) (fun h => by rw [hon] at h; cases h))
              have hF := fr_next (fr_next (rfl) ((hx 0 (by kernel_rfl)).trans (by kernel_rfl : (_ : Value) = .slice A0_1 l0_1.length c0_1))) (((hf 34 56 (by kernel_rfl) rfl).trans hv34).trans (congrArg Value.bool (show (t39 == t42) = true from q45)))
              refine ls_fr hF ?_
              refine ls_val (v := .slice A0_1 l0_1.length c0_1) rfl rfl (by kernel_rfl) (fun w => by kernel_rfl) ?_
              exact ls_fin s0 (.slice A0_1 l0_1.length c0_1) (congrArg (fun z => upd z 57 _) hF.symm) ⟨rfl, rfl⟩ (sub_nil _)
            obtain ⟨t46, hc47, H⟩ := bind_some H
            obtain ⟨s11_36, hs11_36⟩ : ∃ z : Value → Sto → Prop, z = (fun v R => ∃ x48 : Unit, v = .bool t46 ∧ R = stl []) := ⟨_, rfl⟩
            refine have_op (l := [_, _, _, _, _, _, _, _, _, _, _, _, _, _, _, _, _, _, _, _, _, _, _, _, _, _, _, _, _, _, _, _, _, _, _, _, _, _, _, _, _, _, _, _, _, _, _, _, _, _, _, _, _, _, _, _, _, _, _, _, _, _, _, _, _, _, _, _, _, _]) shadowboxlaw09_ExtentTells.tab9 5 36 (fun sp => sp 36 = s11_36 ∧ sp 34 = s11_34 ∧ sp 35 = s11_35) (fun sp on hA hon => ?_) (fun ops11_36 => ?_)
            · refine ⟨fun o ho vs Rs f' S' w hp hf hx hS hR hs => ?_⟩
              obtain rfl := Option.some.inj ho
              obtain ⟨hv34, hR34⟩ := (spe hA.2.1 hs11_34 (hp 34 (by kernel_rfl)))
              obtain ⟨hv35, hR35⟩ := (spe hA.2.2 hs11_35 (hp 35 (by kernel_rfl)))
              rw [hA.1, hs11_36]
              refine And.intro (fun a ha => (want_is (j := 34) (t := 56) (r := true) rfl rfl (by kernel_rfl) (((hf 34 56 (by kernel_rfl) rfl).trans hv34).trans (congrArg Value.bool (show (t39 == t42) = true from q45))) rfl a ha).trans hon.symm) (And.intro (fun _ => ?_) (fun h => by rw [hon] at h; cases h))
              have hF := fr_next (fr_next (rfl) (((hf 34 56 (by kernel_rfl) rfl).trans hv34).trans (congrArg Value.bool (show (t39 == t42) = true from q45)))) ((hf 35 57 (by kernel_rfl) rfl).trans hv35)
              refine ls_fr hF ?_
              refine ls_call (fid := 10) (vals := #[.slice A0_1 l0_1.length c0_1]) (X := Unit) (fun x => .bool t46) (fun x => stl []) 0 rfl rfl (by kernel_rfl) (fun w => by kernel_rfl) (fun w1 hs1 => extent_Valid.calls k A0_1 c0_1 l0_1 t46 (bw w1) (St.refl w1) (Rd.ro (Rd.step (hs.old R0_1) hs1.below.bw)) C0_1 hc47) ?_
              intro x48
              exact ls_fin (stl []) (.bool t46) (congrArg (fun z => upd z 58 _) hF.symm) ⟨x48, rfl, rfl⟩ (sub_join _)
            obtain ⟨s11_37, hs11_37⟩ : ∃ z : Value → Sto → Prop, z = (fun v R => v = .slice x4.1 t2.length x4.2 ∧ R = s0) := ⟨_, rfl⟩
            refine have_op (l := [_, _, _, _, _, _, _, _, _, _, _, _, _, _, _, _, _, _, _, _, _, _, _, _, _, _, _, _, _, _, _, _, _, _, _, _, _, _, _, _, _, _, _, _, _, _, _, _, _, _, _, _, _, _, _, _, _, _, _, _, _, _, _, _, _, _, _, _, _, _]) shadowboxlaw09_ExtentTells.tab9 5 37 (fun sp => sp 37 = s11_37 ∧ sp 34 = s11_34) (fun sp on hA hon => ?_) (fun ops11_37 => ?_)
            · refine ⟨fun o ho vs Rs f' S' w hp hf hx hS hR hs => ?_⟩
              obtain rfl := Option.some.inj ho
              obtain ⟨hv34, hR34⟩ := (spe hA.2 hs11_34 (hp 34 (by kernel_rfl)))
              rw [hA.1, hs11_37]
              refine And.intro (fun a ha => (want_is (j := 34) (t := 56) (r := true) rfl rfl (by kernel_rfl) (((hf 34 56 (by kernel_rfl) rfl).trans hv34).trans (congrArg Value.bool (show (t39 == t42) = true from q45))) rfl a ha).trans hon.symm) (And.intro (fun _ => ?_) (fun h => by rw [hon] at h; cases h))
              have hF := fr_next (fr_next (rfl) ((hx 7 (by kernel_rfl)).trans (by kernel_rfl : (_ : Value) = .slice x4.1 t2.length x4.2))) (((hf 34 56 (by kernel_rfl) rfl).trans hv34).trans (congrArg Value.bool (show (t39 == t42) = true from q45)))
              refine ls_fr hF ?_
              refine ls_val (v := .slice x4.1 t2.length x4.2) rfl rfl (by kernel_rfl) (fun w => by kernel_rfl) ?_
              exact ls_fin s0 (.slice x4.1 t2.length x4.2) (congrArg (fun z => upd z 59 _) hF.symm) ⟨rfl, rfl⟩ (sub_nil _)
            obtain ⟨t49, hc50, H⟩ := bind_some H
            obtain ⟨s11_38, hs11_38⟩ : ∃ z : Value → Sto → Prop, z = (fun v R => ∃ x51 : Unit, v = .bool t49 ∧ R = stl []) := ⟨_, rfl⟩
            refine have_op (l := [_, _, _, _, _, _, _, _, _, _, _, _, _, _, _, _, _, _, _, _, _, _, _, _, _, _, _, _, _, _, _, _, _, _, _, _, _, _, _, _, _, _, _, _, _, _, _, _, _, _, _, _, _, _, _, _, _, _, _, _, _, _, _, _, _, _, _, _, _, _]) shadowboxlaw09_ExtentTells.tab9 5 38 (fun sp => sp 38 = s11_38 ∧ sp 34 = s11_34 ∧ sp 37 = s11_37) (fun sp on hA hon => ?_) (fun ops11_38 => ?_)
            · refine ⟨fun o ho vs Rs f' S' w hp hf hx hS hR hs => ?_⟩
              obtain rfl := Option.some.inj ho
              obtain ⟨hv34, hR34⟩ := (spe hA.2.1 hs11_34 (hp 34 (by kernel_rfl)))
              obtain ⟨hv37, hR37⟩ := (spe hA.2.2 hs11_37 (hp 37 (by kernel_rfl)))
              rw [hA.1, hs11_38]
              refine And.intro (fun a ha => (want_is (j := 34) (t := 56) (r := true) rfl rfl (by kernel_rfl) (((hf 34 56 (by kernel_rfl) rfl).trans hv34).trans (congrArg Value.bool (show (t39 == t42) = true from q45))) rfl a ha).trans hon.symm) (And.intro (fun _ => ?_) (fun h => by rw [hon] at h; cases h))
              have hF := fr_next (fr_next (rfl) (((hf 34 56 (by kernel_rfl) rfl).trans hv34).trans (congrArg Value.bool (show (t39 == t42) = true from q45)))) ((hf 37 59 (by kernel_rfl) rfl).trans hv37)
              refine ls_fr hF ?_
              refine ls_call (fid := 22) (vals := #[.slice x4.1 t2.length x4.2]) (X := Unit) (fun x => .bool t49) (fun x => stl []) 0 rfl rfl (by kernel_rfl) (fun w => by kernel_rfl) (fun w1 hs1 => shadowboxref09_Valid.calls k x4.1 x4.2 t2 t49 (bw w1) (St.refl w1) (Rd.ro (Rd.step (hs.rd (k := 1) ((hS 1 (by kernel_rfl)).trans (by exact rfl))) hs1.below.bw)) (hs.cap (k := 1) ((hS 1 (by kernel_rfl)).trans (by exact rfl))) hc50) ?_
              intro x51
              exact ls_fin (stl []) (.bool t49) (congrArg (fun z => upd z 60 _) hF.symm) ⟨x51, rfl, rfl⟩ (sub_join _)
            obtain ⟨s11_39, hs11_39⟩ : ∃ z : Value → Sto → Prop, z = (fun v R => v = .bool (t46 == t49) ∧ R = s0) := ⟨_, rfl⟩
            refine have_op (l := [_, _, _, _, _, _, _, _, _, _, _, _, _, _, _, _, _, _, _, _, _, _, _, _, _, _, _, _, _, _, _, _, _, _, _, _, _, _, _, _, _, _, _, _, _, _, _, _, _, _, _, _, _, _, _, _, _, _, _, _, _, _, _, _, _, _, _, _, _, _]) shadowboxlaw09_ExtentTells.tab9 5 39 (fun sp => sp 39 = s11_39 ∧ sp 34 = s11_34 ∧ sp 36 = s11_36 ∧ sp 38 = s11_38) (fun sp on hA hon => ?_) (fun ops11_39 => ?_)
            · refine ⟨fun o ho vs Rs f' S' w hp hf hx hS hR hs => ?_⟩
              obtain rfl := Option.some.inj ho
              obtain ⟨hv34, hR34⟩ := (spe hA.2.1 hs11_34 (hp 34 (by kernel_rfl)))
              obtain ⟨x48, hv36, hR36⟩ := (spe hA.2.2.1 hs11_36 (hp 36 (by kernel_rfl)))
              obtain ⟨x51, hv38, hR38⟩ := (spe hA.2.2.2 hs11_38 (hp 38 (by kernel_rfl)))
              rw [hA.1, hs11_39]
              refine And.intro (fun a ha => (want_is (j := 34) (t := 56) (r := true) rfl rfl (by kernel_rfl) (((hf 34 56 (by kernel_rfl) rfl).trans hv34).trans (congrArg Value.bool (show (t39 == t42) = true from q45))) rfl a ha).trans hon.symm) (And.intro (fun _ => ?_) (fun h => by rw [hon] at h; cases h))
              have hF := fr_next (fr_next (fr_next (rfl) (((hf 34 56 (by kernel_rfl) rfl).trans hv34).trans (congrArg Value.bool (show (t39 == t42) = true from q45)))) ((hf 36 58 (by kernel_rfl) rfl).trans hv36)) ((hf 38 60 (by kernel_rfl) rfl).trans hv38)
              refine ls_fr hF ?_
              refine ls_val (v := .bool (t46 == t49)) rfl rfl (by kernel_rfl) (fun w => by kernel_rfl) ?_
              exact ls_fin s0 (.bool (t46 == t49)) (congrArg (fun z => upd z 61 _) hF.symm) ⟨rfl, rfl⟩ (sub_nil _)
            obtain ⟨s11_40, hs11_40⟩ : ∃ z : Value → Sto → Prop, z = (fun v R => v = .bool (t46 == t49) ∧ R = s0) := ⟨_, rfl⟩
            refine have_op (l := [_, _, _, _, _, _, _, _, _, _, _, _, _, _, _, _, _, _, _, _, _, _, _, _, _, _, _, _, _, _, _, _, _, _, _, _, _, _, _, _, _, _, _, _, _, _, _, _, _, _, _, _, _, _, _, _, _, _, _, _, _, _, _, _, _, _, _, _, _, _]) shadowboxlaw09_ExtentTells.tab9 5 40 (fun sp => sp 40 = s11_40 ∧ sp 34 = s11_34 ∧ sp 39 = s11_39) (fun sp on hA hon => ?_) (fun ops11_40 => ?_)
            · refine ⟨fun o ho vs Rs f' S' w hp hf hx hS hR hs => ?_⟩
              obtain rfl := Option.some.inj ho
              obtain ⟨hv34, hR34⟩ := (spe hA.2.1 hs11_34 (hp 34 (by kernel_rfl)))
              obtain ⟨hv39, hR39⟩ := (spe hA.2.2 hs11_39 (hp 39 (by kernel_rfl)))
              rw [hA.1, hs11_40]
              refine And.intro (fun a ha => (want_none rfl a ha).trans hon.symm) (And.intro (fun _ => ?_) (fun h => by rw [hon] at h; cases h))
              have hF := fr_next (fr_next (rfl) (((hf 34 56 (by kernel_rfl) rfl).trans hv34).trans (congrArg Value.bool (show (t39 == t42) = true from q45)))) ((hf 39 61 (by kernel_rfl) rfl).trans hv39)
              refine ls_fr hF ?_
              refine ls_val (v := .bool (t46 == t49)) rfl rfl (by kernel_rfl) (fun w => by kernel_rfl) ?_
              exact ls_fin s0 (.bool (t46 == t49)) (congrArg (fun z => upd z 62 _) hF.symm) ⟨rfl, rfl⟩ (sub_nil _)
            obtain ⟨s11_41, hs11_41⟩ : ∃ z : Value → Sto → Prop, z = (fun v R => v = .bool (t46 == t49) ∧ R = s0) := ⟨_, rfl⟩
            refine have_op (l := [_, _, _, _, _, _, _, _, _, _, _, _, _, _, _, _, _, _, _, _, _, _, _, _, _, _, _, _, _, _, _, _, _, _, _, _, _, _, _, _, _, _, _, _, _, _, _, _, _, _, _, _, _, _, _, _, _, _, _, _, _, _, _, _, _, _, _, _, _, _]) shadowboxlaw09_ExtentTells.tab9 5 41 (fun sp => sp 41 = s11_41 ∧ sp 40 = s11_40) (fun sp on hA hon => ?_) (fun ops11_41 => ?_)
            · refine ⟨fun o ho vs Rs f' S' w hp hf hx hS hR hs => ?_⟩
              obtain rfl := Option.some.inj ho
              obtain ⟨hv40, hR40⟩ := (spe hA.2 hs11_40 (hp 40 (by kernel_rfl)))
              rw [hA.1, hs11_41]
              refine And.intro (fun a ha => (want_none rfl a ha).trans hon.symm) (And.intro (fun _ => ?_) (fun h => by rw [hon] at h; cases h))
              have hF := fr_next (rfl) ((hf 40 62 (by kernel_rfl) rfl).trans hv40)
              refine ls_fr hF ?_
              refine ls_val (v := .bool (t46 == t49)) rfl rfl (by kernel_rfl) (fun w => by kernel_rfl) ?_
              exact ls_fin s0 (.bool (t46 == t49)) (congrArg (fun z => upd z 63 _) hF.symm) ⟨rfl, rfl⟩ (sub_nil _)
            by_cases q52 : (t46 == t49) = true
            · replace H := ite_t q52 H
              obtain ⟨s11_42, hs11_42⟩ : ∃ z : Value → Sto → Prop, z = (fun v R => v = .slice A0_1 l0_1.length c0_1 ∧ R = s0) := ⟨_, rfl⟩
              refine have_op (l := [_, _, _, _, _, _, _, _, _, _, _, _, _, _, _, _, _, _, _, _, _, _, _, _, _, _, _, _, _, _, _, _, _, _, _, _, _, _, _, _, _, _, _, _, _, _, _, _, _, _, _, _, _, _, _, _, _, _, _, _, _, _, _, _, _, _, _, _, _, _]) shadowboxlaw09_ExtentTells.tab9 5 42 (fun sp => sp 42 = s11_42 ∧ sp 41 = s11_41) (fun sp on hA hon => ?_) (fun ops11_42 => ?_)
              · refine ⟨fun o ho vs Rs f' S' w hp hf hx hS hR hs => ?_⟩
                obtain rfl := Option.some.inj ho
                obtain ⟨hv41, hR41⟩ := (spe hA.2 hs11_41 (hp 41 (by kernel_rfl)))
                rw [hA.1, hs11_42]
                refine And.intro (fun a ha => (want_is (j := 41) (t := 63) (r := true) rfl rfl (by kernel_rfl) (((hf 41 63 (by kernel_rfl) rfl).trans hv41).trans (congrArg Value.bool (show (t46 == t49) = true from q52))) rfl a ha).trans hon.symm) (And.intro (fun _ => ?_) (fun h => by rw [hon] at h; cases h))
                have hF := fr_next (fr_next (rfl) ((hx 0 (by kernel_rfl)).trans (by kernel_rfl : (_ : Value) = .slice A0_1 l0_1.length c0_1))) (((hf 41 63 (by kernel_rfl) rfl).trans hv41).trans (congrArg Value.bool (show (t46 == t49) = true from q52)))
                refine ls_fr hF ?_
                refine ls_val (v := .slice A0_1 l0_1.length c0_1) rfl rfl (by kernel_rfl) (fun w => by kernel_rfl) ?_
                exact ls_fin s0 (.slice A0_1 l0_1.length c0_1) (congrArg (fun z => upd z 64 _) hF.symm) ⟨rfl, rfl⟩ (sub_nil _)
              obtain ⟨t53, hc54, H⟩ := bind_some H
              obtain ⟨s11_43, hs11_43⟩ : ∃ z : Value → Sto → Prop, z = (fun v R => ∃ x55 : Unit, v = .int .i64 t53 ∧ R = stl []) := ⟨_, rfl⟩
              refine have_op (l := [_, _, _, _, _, _, _, _, _, _, _, _, _, _, _, _, _, _, _, _, _, _, _, _, _, _, _, _, _, _, _, _, _, _, _, _, _, _, _, _, _, _, _, _, _, _, _, _, _, _, _, _, _, _, _, _, _, _, _, _, _, _, _, _, _, _, _, _, _, _]) shadowboxlaw09_ExtentTells.tab9 5 43 (fun sp => sp 43 = s11_43 ∧ sp 41 = s11_41 ∧ sp 42 = s11_42) (fun sp on hA hon => ?_) (fun ops11_43 => ?_)
              · refine ⟨fun o ho vs Rs f' S' w hp hf hx hS hR hs => ?_⟩
                obtain rfl := Option.some.inj ho
                obtain ⟨hv41, hR41⟩ := (spe hA.2.1 hs11_41 (hp 41 (by kernel_rfl)))
                obtain ⟨hv42, hR42⟩ := (spe hA.2.2 hs11_42 (hp 42 (by kernel_rfl)))
                rw [hA.1, hs11_43]
                refine And.intro (fun a ha => (want_is (j := 41) (t := 63) (r := true) rfl rfl (by kernel_rfl) (((hf 41 63 (by kernel_rfl) rfl).trans hv41).trans (congrArg Value.bool (show (t46 == t49) = true from q52))) rfl a ha).trans hon.symm) (And.intro (fun _ => ?_) (fun h => by rw [hon] at h; cases h))
                have hF := fr_next (fr_next (rfl) (((hf 41 63 (by kernel_rfl) rfl).trans hv41).trans (congrArg Value.bool (show (t46 == t49) = true from q52)))) ((hf 42 64 (by kernel_rfl) rfl).trans hv42)
                refine ls_fr hF ?_
                refine ls_call (fid := 14) (vals := #[.slice A0_1 l0_1.length c0_1]) (X := Unit) (fun x => .int .i64 t53) (fun x => stl []) 0 rfl rfl (by kernel_rfl) (fun w => by kernel_rfl) (fun w1 hs1 => extent_Total.calls k A0_1 c0_1 l0_1 t53 (bw w1) (St.refl w1) (Rd.ro (Rd.step (hs.old R0_1) hs1.below.bw)) C0_1 hc54) ?_
                intro x55
                exact ls_fin (stl []) (.int .i64 t53) (congrArg (fun z => upd z 65 _) hF.symm) ⟨x55, rfl, rfl⟩ (sub_join _)
              obtain ⟨s11_44, hs11_44⟩ : ∃ z : Value → Sto → Prop, z = (fun v R => v = .slice x4.1 t2.length x4.2 ∧ R = s0) := ⟨_, rfl⟩
              refine have_op (l := [_, _, _, _, _, _, _, _, _, _, _, _, _, _, _, _, _, _, _, _, _, _, _, _, _, _, _, _, _, _, _, _, _, _, _, _, _, _, _, _, _, _, _, _, _, _, _, _, _, _, _, _, _, _, _, _, _, _, _, _, _, _, _, _, _, _, _, _, _, _]) shadowboxlaw09_ExtentTells.tab9 5 44 (fun sp => sp 44 = s11_44 ∧ sp 41 = s11_41) (fun sp on hA hon => ?_) (fun ops11_44 => ?_)
              · refine ⟨fun o ho vs Rs f' S' w hp hf hx hS hR hs => ?_⟩
                obtain rfl := Option.some.inj ho
                obtain ⟨hv41, hR41⟩ := (spe hA.2 hs11_41 (hp 41 (by kernel_rfl)))
                rw [hA.1, hs11_44]
                refine And.intro (fun a ha => (want_is (j := 41) (t := 63) (r := true) rfl rfl (by kernel_rfl) (((hf 41 63 (by kernel_rfl) rfl).trans hv41).trans (congrArg Value.bool (show (t46 == t49) = true from q52))) rfl a ha).trans hon.symm) (And.intro (fun _ => ?_) (fun h => by rw [hon] at h; cases h))
                have hF := fr_next (fr_next (rfl) ((hx 7 (by kernel_rfl)).trans (by kernel_rfl : (_ : Value) = .slice x4.1 t2.length x4.2))) (((hf 41 63 (by kernel_rfl) rfl).trans hv41).trans (congrArg Value.bool (show (t46 == t49) = true from q52)))
                refine ls_fr hF ?_
                refine ls_val (v := .slice x4.1 t2.length x4.2) rfl rfl (by kernel_rfl) (fun w => by kernel_rfl) ?_
                exact ls_fin s0 (.slice x4.1 t2.length x4.2) (congrArg (fun z => upd z 66 _) hF.symm) ⟨rfl, rfl⟩ (sub_nil _)
              obtain ⟨t56, hc57, H⟩ := bind_some H
              obtain ⟨s11_45, hs11_45⟩ : ∃ z : Value → Sto → Prop, z = (fun v R => ∃ x58 : Unit, v = .int .i64 t56 ∧ R = stl []) := ⟨_, rfl⟩
              refine have_op (l := [_, _, _, _, _, _, _, _, _, _, _, _, _, _, _, _, _, _, _, _, _, _, _, _, _, _, _, _, _, _, _, _, _, _, _, _, _, _, _, _, _, _, _, _, _, _, _, _, _, _, _, _, _, _, _, _, _, _, _, _, _, _, _, _, _, _, _, _, _, _]) shadowboxlaw09_ExtentTells.tab9 5 45 (fun sp => sp 45 = s11_45 ∧ sp 41 = s11_41 ∧ sp 44 = s11_44) (fun sp on hA hon => ?_) (fun ops11_45 => ?_)
              · refine ⟨fun o ho vs Rs f' S' w hp hf hx hS hR hs => ?_⟩
                obtain rfl := Option.some.inj ho
                obtain ⟨hv41, hR41⟩ := (spe hA.2.1 hs11_41 (hp 41 (by kernel_rfl)))
                obtain ⟨hv44, hR44⟩ := (spe hA.2.2 hs11_44 (hp 44 (by kernel_rfl)))
                rw [hA.1, hs11_45]
                refine And.intro (fun a ha => (want_is (j := 41) (t := 63) (r := true) rfl rfl (by kernel_rfl) (((hf 41 63 (by kernel_rfl) rfl).trans hv41).trans (congrArg Value.bool (show (t46 == t49) = true from q52))) rfl a ha).trans hon.symm) (And.intro (fun _ => ?_) (fun h => by rw [hon] at h; cases h))
                have hF := fr_next (fr_next (rfl) (((hf 41 63 (by kernel_rfl) rfl).trans hv41).trans (congrArg Value.bool (show (t46 == t49) = true from q52)))) ((hf 44 66 (by kernel_rfl) rfl).trans hv44)
                refine ls_fr hF ?_
                refine ls_call (fid := 23) (vals := #[.slice x4.1 t2.length x4.2]) (X := Unit) (fun x => .int .i64 t56) (fun x => stl []) 0 rfl rfl (by kernel_rfl) (fun w => by kernel_rfl) (fun w1 hs1 => shadowboxref09_Total.calls k x4.1 x4.2 t2 t56 (bw w1) (St.refl w1) (Rd.ro (Rd.step (hs.rd (k := 1) ((hS 1 (by kernel_rfl)).trans (by exact rfl))) hs1.below.bw)) (hs.cap (k := 1) ((hS 1 (by kernel_rfl)).trans (by exact rfl))) hc57) ?_
                intro x58
                exact ls_fin (stl []) (.int .i64 t56) (congrArg (fun z => upd z 67 _) hF.symm) ⟨x58, rfl, rfl⟩ (sub_join _)
              obtain ⟨s11_46, hs11_46⟩ : ∃ z : Value → Sto → Prop, z = (fun v R => v = .bool (decide (t53 = t56)) ∧ R = s0) := ⟨_, rfl⟩
              refine have_op (l := [_, _, _, _, _, _, _, _, _, _, _, _, _, _, _, _, _, _, _, _, _, _, _, _, _, _, _, _, _, _, _, _, _, _, _, _, _, _, _, _, _, _, _, _, _, _, _, _, _, _, _, _, _, _, _, _, _, _, _, _, _, _, _, _, _, _, _, _, _, _]) shadowboxlaw09_ExtentTells.tab9 5 46 (fun sp => sp 46 = s11_46 ∧ sp 41 = s11_41 ∧ sp 43 = s11_43 ∧ sp 45 = s11_45) (fun sp on hA hon => ?_) (fun ops11_46 => ?_)
              · refine ⟨fun o ho vs Rs f' S' w hp hf hx hS hR hs => ?_⟩
                obtain rfl := Option.some.inj ho
                obtain ⟨hv41, hR41⟩ := (spe hA.2.1 hs11_41 (hp 41 (by kernel_rfl)))
                obtain ⟨x55, hv43, hR43⟩ := (spe hA.2.2.1 hs11_43 (hp 43 (by kernel_rfl)))
                obtain ⟨x58, hv45, hR45⟩ := (spe hA.2.2.2 hs11_45 (hp 45 (by kernel_rfl)))
                rw [hA.1, hs11_46]
                refine And.intro (fun a ha => (want_is (j := 41) (t := 63) (r := true) rfl rfl (by kernel_rfl) (((hf 41 63 (by kernel_rfl) rfl).trans hv41).trans (congrArg Value.bool (show (t46 == t49) = true from q52))) rfl a ha).trans hon.symm) (And.intro (fun _ => ?_) (fun h => by rw [hon] at h; cases h))
                have hF := fr_next (fr_next (fr_next (rfl) (((hf 41 63 (by kernel_rfl) rfl).trans hv41).trans (congrArg Value.bool (show (t46 == t49) = true from q52)))) ((hf 43 65 (by kernel_rfl) rfl).trans hv43)) ((hf 45 67 (by kernel_rfl) rfl).trans hv45)
                refine ls_fr hF ?_
                refine ls_val (v := .bool (decide (t53 = t56))) rfl rfl (by kernel_rfl) (fun w => by kernel_rfl) ?_
                exact ls_fin s0 (.bool (decide (t53 = t56))) (congrArg (fun z => upd z 68 _) hF.symm) ⟨rfl, rfl⟩ (sub_nil _)
              obtain ⟨s11_47, hs11_47⟩ : ∃ z : Value → Sto → Prop, z = (fun v R => v = .bool (decide (t53 = t56)) ∧ R = s0) := ⟨_, rfl⟩
              refine have_op (l := [_, _, _, _, _, _, _, _, _, _, _, _, _, _, _, _, _, _, _, _, _, _, _, _, _, _, _, _, _, _, _, _, _, _, _, _, _, _, _, _, _, _, _, _, _, _, _, _, _, _, _, _, _, _, _, _, _, _, _, _, _, _, _, _, _, _, _, _, _, _]) shadowboxlaw09_ExtentTells.tab9 5 47 (fun sp => sp 47 = s11_47 ∧ sp 41 = s11_41 ∧ sp 46 = s11_46) (fun sp on hA hon => ?_) (fun ops11_47 => ?_)
              · refine ⟨fun o ho vs Rs f' S' w hp hf hx hS hR hs => ?_⟩
                obtain rfl := Option.some.inj ho
                obtain ⟨hv41, hR41⟩ := (spe hA.2.1 hs11_41 (hp 41 (by kernel_rfl)))
                obtain ⟨hv46, hR46⟩ := (spe hA.2.2 hs11_46 (hp 46 (by kernel_rfl)))
                rw [hA.1, hs11_47]
                refine And.intro (fun a ha => (want_none rfl a ha).trans hon.symm) (And.intro (fun _ => ?_) (fun h => by rw [hon] at h; cases h))
                have hF := fr_next (fr_next (rfl) (((hf 41 63 (by kernel_rfl) rfl).trans hv41).trans (congrArg Value.bool (show (t46 == t49) = true from q52)))) ((hf 46 68 (by kernel_rfl) rfl).trans hv46)
                refine ls_fr hF ?_
                refine ls_val (v := .bool (decide (t53 = t56))) rfl rfl (by kernel_rfl) (fun w => by kernel_rfl) ?_
                exact ls_fin s0 (.bool (decide (t53 = t56))) (congrArg (fun z => upd z 69 _) hF.symm) ⟨rfl, rfl⟩ (sub_nil _)
              obtain ⟨s11_48, hs11_48⟩ : ∃ z : Value → Sto → Prop, z = (fun v R => v = .bool (decide (t53 = t56)) ∧ R = s0) := ⟨_, rfl⟩
              refine have_op (l := [_, _, _, _, _, _, _, _, _, _, _, _, _, _, _, _, _, _, _, _, _, _, _, _, _, _, _, _, _, _, _, _, _, _, _, _, _, _, _, _, _, _, _, _, _, _, _, _, _, _, _, _, _, _, _, _, _, _, _, _, _, _, _, _, _, _, _, _, _, _]) shadowboxlaw09_ExtentTells.tab9 5 48 (fun sp => sp 48 = s11_48 ∧ sp 47 = s11_47) (fun sp on hA hon => ?_) (fun ops11_48 => ?_)
              · refine ⟨fun o ho vs Rs f' S' w hp hf hx hS hR hs => ?_⟩
                obtain rfl := Option.some.inj ho
                obtain ⟨hv47, hR47⟩ := (spe hA.2 hs11_47 (hp 47 (by kernel_rfl)))
                rw [hA.1, hs11_48]
                refine And.intro (fun a ha => (want_none rfl a ha).trans hon.symm) (And.intro (fun _ => ?_) (fun h => by rw [hon] at h; cases h))
                have hF := fr_next (rfl) ((hf 47 69 (by kernel_rfl) rfl).trans hv47)
                refine ls_fr hF ?_
                refine ls_val (v := .bool (decide (t53 = t56))) rfl rfl (by kernel_rfl) (fun w => by kernel_rfl) ?_
                exact ls_fin s0 (.bool (decide (t53 = t56))) (congrArg (fun z => upd z 70 _) hF.symm) ⟨rfl, rfl⟩ (sub_nil _)
              by_cases q59 : t53 = t56
              · replace H := ite_t q59 H
                obtain ⟨s11_49, hs11_49⟩ : ∃ z : Value → Sto → Prop, z = (fun v R => v = .slice A0_1 l0_1.length c0_1 ∧ R = s0) := ⟨_, rfl⟩
                refine have_op (l := [_, _, _, _, _, _, _, _, _, _, _, _, _, _, _, _, _, _, _, _, _, _, _, _, _, _, _, _, _, _, _, _, _, _, _, _, _, _, _, _, _, _, _, _, _, _, _, _, _, _, _, _, _, _, _, _, _, _, _, _, _, _, _, _, _, _, _, _, _, _]) shadowboxlaw09_ExtentTells.tab9 5 49 (fun sp => sp 49 = s11_49 ∧ sp 48 = s11_48) (fun sp on hA hon => ?_) (fun ops11_49 => ?_)
                · refine ⟨fun o ho vs Rs f' S' w hp hf hx hS hR hs => ?_⟩
                  obtain rfl := Option.some.inj ho
                  obtain ⟨hv48, hR48⟩ := (spe hA.2 hs11_48 (hp 48 (by kernel_rfl)))
                  rw [hA.1, hs11_49]
                  refine And.intro (fun a ha => (want_is (j := 48) (t := 70) (r := true) rfl rfl (by kernel_rfl) (((hf 48 70 (by kernel_rfl) rfl).trans hv48).trans (congrArg Value.bool (show (decide (t53 = t56)) = true from dec_t q59))) rfl a ha).trans hon.symm) (And.intro (fun _ => ?_) (fun h => by rw [hon] at h; cases h))
                  have hF := fr_next (fr_next (rfl) ((hx 0 (by kernel_rfl)).trans (by kernel_rfl : (_ : Value) = .slice A0_1 l0_1.length c0_1))) (((hf 48 70 (by kernel_rfl) rfl).trans hv48).trans (congrArg Value.bool (show (decide (t53 = t56)) = true from dec_t q59)))
                  refine ls_fr hF ?_
                  refine ls_val (v := .slice A0_1 l0_1.length c0_1) rfl rfl (by kernel_rfl) (fun w => by kernel_rfl) ?_
                  exact ls_fin s0 (.slice A0_1 l0_1.length c0_1) (congrArg (fun z => upd z 71 _) hF.symm) ⟨rfl, rfl⟩ (sub_nil _)
                obtain ⟨s11_50, hs11_50⟩ : ∃ z : Value → Sto → Prop, z = (fun v R => v = .int .i64 a2 ∧ R = s0) := ⟨_, rfl⟩
                refine have_op (l := [_, _, _, _, _, _, _, _, _, _, _, _, _, _, _, _, _, _, _, _, _, _, _, _, _, _, _, _, _, _, _, _, _, _, _, _, _, _, _, _, _, _, _, _, _, _, _, _, _, _, _, _, _, _, _, _, _, _, _, _, _, _, _, _, _, _, _, _, _, _]) shadowboxlaw09_ExtentTells.tab9 5 50 (fun sp => sp 50 = s11_50 ∧ sp 48 = s11_48) (fun sp on hA hon => ?_) (fun ops11_50 => ?_)
                · refine ⟨fun o ho vs Rs f' S' w hp hf hx hS hR hs => ?_⟩
                  obtain rfl := Option.some.inj ho
                  obtain ⟨hv48, hR48⟩ := (spe hA.2 hs11_48 (hp 48 (by kernel_rfl)))
                  rw [hA.1, hs11_50]
                  refine And.intro (fun a ha => (want_is (j := 48) (t := 70) (r := true) rfl rfl (by kernel_rfl) (((hf 48 70 (by kernel_rfl) rfl).trans hv48).trans (congrArg Value.bool (show (decide (t53 = t56)) = true from dec_t q59))) rfl a ha).trans hon.symm) (And.intro (fun _ => ?_) (fun h => by rw [hon] at h; cases h))
                  have hF := fr_next (fr_next (rfl) ((hx 2 (by kernel_rfl)).trans (by kernel_rfl : (_ : Value) = .int .i64 a2))) (((hf 48 70 (by kernel_rfl) rfl).trans hv48).trans (congrArg Value.bool (show (decide (t53 = t56)) = true from dec_t q59)))
                  refine ls_fr hF ?_
                  refine ls_val (v := .int .i64 a2) rfl rfl (by kernel_rfl) (fun w => by kernel_rfl) ?_
                  exact ls_fin s0 (.int .i64 a2) (congrArg (fun z => upd z 72 _) hF.symm) ⟨rfl, rfl⟩ (sub_nil _)
                obtain ⟨t60, hc61, H⟩ := bind_some H
                obtain ⟨s11_51, hs11_51⟩ : ∃ z : Value → Sto → Prop, z = (fun v R => ∃ x62 : Unit, v = .int .i64 t60 ∧ R = stl []) := ⟨_, rfl⟩
                refine have_op (l := [_, _, _, _, _, _, _, _, _, _, _, _, _, _, _, _, _, _, _, _, _, _, _, _, _, _, _, _, _, _, _, _, _, _, _, _, _, _, _, _, _, _, _, _, _, _, _, _, _, _, _, _, _, _, _, _, _, _, _, _, _, _, _, _, _, _, _, _, _, _]) shadowboxlaw09_ExtentTells.tab9 5 51 (fun sp => sp 51 = s11_51 ∧ sp 48 = s11_48 ∧ sp 49 = s11_49 ∧ sp 50 = s11_50) (fun sp on hA hon => ?_) (fun ops11_51 => ?_)
                · refine ⟨fun o ho vs Rs f' S' w hp hf hx hS hR hs => ?_⟩
                  obtain rfl := Option.some.inj ho
                  obtain ⟨hv48, hR48⟩ := (spe hA.2.1 hs11_48 (hp 48 (by kernel_rfl)))
                  obtain ⟨hv49, hR49⟩ := (spe hA.2.2.1 hs11_49 (hp 49 (by kernel_rfl)))
                  obtain ⟨hv50, hR50⟩ := (spe hA.2.2.2 hs11_50 (hp 50 (by kernel_rfl)))
                  rw [hA.1, hs11_51]
                  refine And.intro (fun a ha => (want_is (j := 48) (t := 70) (r := true) rfl rfl (by kernel_rfl) (((hf 48 70 (by kernel_rfl) rfl).trans hv48).trans (congrArg Value.bool (show (decide (t53 = t56)) = true from dec_t q59))) rfl a ha).trans hon.symm) (And.intro (fun _ => ?_) (fun h => by rw [hon] at h; cases h))
                  have hF := fr_next (fr_next (fr_next (rfl) (((hf 48 70 (by kernel_rfl) rfl).trans hv48).trans (congrArg Value.bool (show (decide (t53 = t56)) = true from dec_t q59)))) ((hf 49 71 (by kernel_rfl) rfl).trans hv49)) ((hf 50 72 (by kernel_rfl) rfl).trans hv50)
                  refine ls_fr hF ?_
                  refine ls_call (fid := 24) (vals := #[.slice A0_1 l0_1.length c0_1, .int .i64 a2]) (X := Unit) (fun x => .int .i64 t60) (fun x => stl []) 0 rfl rfl (by kernel_rfl) (fun w => by kernel_rfl) (fun w1 hs1 => extent_Find.calls k A0_1 c0_1 l0_1 a2 t60 (bw w1) (St.refl w1) (Rd.ro (Rd.step (hs.old R0_1) hs1.below.bw)) C0_1 hc61) ?_
                  intro x62
                  exact ls_fin (stl []) (.int .i64 t60) (congrArg (fun z => upd z 73 _) hF.symm) ⟨x62, rfl, rfl⟩ (sub_join _)
                obtain ⟨s11_52, hs11_52⟩ : ∃ z : Value → Sto → Prop, z = (fun v R => v = .slice x4.1 t2.length x4.2 ∧ R = s0) := ⟨_, rfl⟩
                refine have_op (l := [_, _, _, _, _, _, _, _, _, _, _, _, _, _, _, _, _, _, _, _, _, _, _, _, _, _, _, _, _, _, _, _, _, _, _, _, _, _, _, _, _, _, _, _, _, _, _, _, _, _, _, _, _, _, _, _, _, _, _, _, _, _, _, _, _, _, _, _, _, _]) shadowboxlaw09_ExtentTells.tab9 5 52 (fun sp => sp 52 = s11_52 ∧ sp 48 = s11_48) (fun sp on hA hon => ?_) (fun ops11_52 => ?_)
                · refine ⟨fun o ho vs Rs f' S' w hp hf hx hS hR hs => ?_⟩
                  obtain rfl := Option.some.inj ho
                  obtain ⟨hv48, hR48⟩ := (spe hA.2 hs11_48 (hp 48 (by kernel_rfl)))
                  rw [hA.1, hs11_52]
                  refine And.intro (fun a ha => (want_is (j := 48) (t := 70) (r := true) rfl rfl (by kernel_rfl) (((hf 48 70 (by kernel_rfl) rfl).trans hv48).trans (congrArg Value.bool (show (decide (t53 = t56)) = true from dec_t q59))) rfl a ha).trans hon.symm) (And.intro (fun _ => ?_) (fun h => by rw [hon] at h; cases h))
                  have hF := fr_next (fr_next (rfl) ((hx 7 (by kernel_rfl)).trans (by kernel_rfl : (_ : Value) = .slice x4.1 t2.length x4.2))) (((hf 48 70 (by kernel_rfl) rfl).trans hv48).trans (congrArg Value.bool (show (decide (t53 = t56)) = true from dec_t q59)))
                  refine ls_fr hF ?_
                  refine ls_val (v := .slice x4.1 t2.length x4.2) rfl rfl (by kernel_rfl) (fun w => by kernel_rfl) ?_
                  exact ls_fin s0 (.slice x4.1 t2.length x4.2) (congrArg (fun z => upd z 74 _) hF.symm) ⟨rfl, rfl⟩ (sub_nil _)
                obtain ⟨s11_53, hs11_53⟩ : ∃ z : Value → Sto → Prop, z = (fun v R => v = .int .i64 a2 ∧ R = s0) := ⟨_, rfl⟩
                refine have_op (l := [_, _, _, _, _, _, _, _, _, _, _, _, _, _, _, _, _, _, _, _, _, _, _, _, _, _, _, _, _, _, _, _, _, _, _, _, _, _, _, _, _, _, _, _, _, _, _, _, _, _, _, _, _, _, _, _, _, _, _, _, _, _, _, _, _, _, _, _, _, _]) shadowboxlaw09_ExtentTells.tab9 5 53 (fun sp => sp 53 = s11_53 ∧ sp 48 = s11_48) (fun sp on hA hon => ?_) (fun ops11_53 => ?_)
                · refine ⟨fun o ho vs Rs f' S' w hp hf hx hS hR hs => ?_⟩
                  obtain rfl := Option.some.inj ho
                  obtain ⟨hv48, hR48⟩ := (spe hA.2 hs11_48 (hp 48 (by kernel_rfl)))
                  rw [hA.1, hs11_53]
                  refine And.intro (fun a ha => (want_is (j := 48) (t := 70) (r := true) rfl rfl (by kernel_rfl) (((hf 48 70 (by kernel_rfl) rfl).trans hv48).trans (congrArg Value.bool (show (decide (t53 = t56)) = true from dec_t q59))) rfl a ha).trans hon.symm) (And.intro (fun _ => ?_) (fun h => by rw [hon] at h; cases h))
                  have hF := fr_next (fr_next (rfl) ((hx 2 (by kernel_rfl)).trans (by kernel_rfl : (_ : Value) = .int .i64 a2))) (((hf 48 70 (by kernel_rfl) rfl).trans hv48).trans (congrArg Value.bool (show (decide (t53 = t56)) = true from dec_t q59)))
                  refine ls_fr hF ?_
                  refine ls_val (v := .int .i64 a2) rfl rfl (by kernel_rfl) (fun w => by kernel_rfl) ?_
                  exact ls_fin s0 (.int .i64 a2) (congrArg (fun z => upd z 75 _) hF.symm) ⟨rfl, rfl⟩ (sub_nil _)
                refine cs_draw shadowboxlaw09_ExtentTells.tab9 54 5 (spl [s11_0, s11_1, s11_2, s11_3, s11_4, s11_5, s11_6, s11_7, s11_8, s11_9, s11_10, s11_11, s11_12, s11_13, s11_14, s11_15, s11_16, s11_17, s11_18, s11_19, s11_20, s11_21, s11_22, s11_23, s11_24, s11_25, s11_26, s11_27, s11_28, s11_29, s11_30, s11_31, s11_32, s11_33, s11_34, s11_35, s11_36, s11_37, s11_38, s11_39, s11_40, s11_41, s11_42, s11_43, s11_44, s11_45, s11_46, s11_47, s11_48, s11_49, s11_50, s11_51, s11_52, s11_53]) (onl [true, true, true, true, true, true, true, true, true, true, true, true, true, true, true, true, true, true, true, true, true, true, true, true, true, true, true, true, true, true, true, true, true, true, true, true, true, true, true, true, true, true, true, true, true, true, true, true, true, true, true, true, true, true]) (by kernel_rfl) (by kernel_rfl) (by kernel_rfl) (by kernel_rfl) (rs := [_, _, _, _, _, _, _, _, _, _, _, _, _, _, _, _]) rfl (by kernel_rfl) (by kernel_rfl) (all_snoc (all_snoc (all_snoc (all_snoc (all_snoc (all_snoc (all_snoc (all_snoc (all_snoc (all_snoc (all_snoc (all_snoc (all_snoc (all_snoc (all_snoc (all_snoc (all_snoc (all_snoc (all_snoc (all_snoc (all_snoc (all_snoc (all_snoc (all_snoc (all_snoc (all_snoc (all_snoc (all_snoc (all_snoc (all_snoc (all_snoc (all_snoc (all_snoc (all_snoc (all_snoc (all_snoc (all_snoc (all_snoc (all_snoc (all_snoc (all_snoc (all_snoc (all_snoc (all_snoc (all_snoc (all_snoc (all_snoc (all_snoc (all_snoc (all_snoc (all_snoc (all_snoc (all_snoc (all_snoc (all_nil) (ops11_0 _ _ rfl rfl)) (ops11_1 _ _ rfl rfl)) (ops11_2 _ _ ⟨rfl, rfl, rfl⟩ rfl)) (ops11_3 _ _ rfl rfl)) (ops11_4 _ _ rfl rfl)) (ops11_5 _ _ ⟨rfl, rfl, rfl⟩ rfl)) (ops11_6 _ _ ⟨rfl, rfl, rfl⟩ rfl)) (ops11_7 _ _ ⟨rfl, rfl⟩ rfl)) (ops11_8 _ _ ⟨rfl, rfl⟩ rfl)) (ops11_9 _ _ ⟨rfl, rfl⟩ rfl)) (ops11_10 _ _ ⟨rfl, rfl, rfl, rfl⟩ rfl)) (ops11_11 _ _ ⟨rfl, rfl⟩ rfl)) (ops11_12 _ _ ⟨rfl, rfl⟩ rfl)) (ops11_13 _ _ ⟨rfl, rfl, rfl, rfl⟩ rfl)) (ops11_14 _ _ ⟨rfl, rfl, rfl, rfl⟩ rfl)) (ops11_15 _ _ ⟨rfl, rfl, rfl⟩ rfl)) (ops11_16 _ _ ⟨rfl, rfl⟩ rfl)) (ops11_17 _ _ ⟨rfl, rfl⟩ rfl)) (ops11_18 _ _ ⟨rfl, rfl⟩ rfl)) (ops11_19 _ _ ⟨rfl, rfl, rfl, rfl⟩ rfl)) (ops11_20 _ _ ⟨rfl, rfl⟩ rfl)) (ops11_21 _ _ ⟨rfl, rfl⟩ rfl)) (ops11_22 _ _ ⟨rfl, rfl, rfl, rfl⟩ rfl)) (ops11_23 _ _ ⟨rfl, rfl, rfl, rfl⟩ rfl)) (ops11_24 _ _ ⟨rfl, rfl, rfl⟩ rfl)) (ops11_25 _ _ ⟨rfl, rfl⟩ rfl)) (ops11_26 _ _ ⟨rfl, rfl⟩ rfl)) (ops11_27 _ _ ⟨rfl, rfl⟩ rfl)) (ops11_28 _ _ ⟨rfl, rfl, rfl, rfl⟩ rfl)) (ops11_29 _ _ ⟨rfl, rfl⟩ rfl)) (ops11_30 _ _ ⟨rfl, rfl⟩ rfl)) (ops11_31 _ _ ⟨rfl, rfl, rfl, rfl⟩ rfl)) (ops11_32 _ _ ⟨rfl, rfl, rfl, rfl⟩ rfl)) (ops11_33 _ _ ⟨rfl, rfl, rfl⟩ rfl)) (ops11_34 _ _ ⟨rfl, rfl⟩ rfl)) (ops11_35 _ _ ⟨rfl, rfl⟩ rfl)) (ops11_36 _ _ ⟨rfl, rfl, rfl⟩ rfl)) (ops11_37 _ _ ⟨rfl, rfl⟩ rfl)) (ops11_38 _ _ ⟨rfl, rfl, rfl⟩ rfl)) (ops11_39 _ _ ⟨rfl, rfl, rfl, rfl⟩ rfl)) (ops11_40 _ _ ⟨rfl, rfl, rfl⟩ rfl)) (ops11_41 _ _ ⟨rfl, rfl⟩ rfl)) (ops11_42 _ _ ⟨rfl, rfl⟩ rfl)) (ops11_43 _ _ ⟨rfl, rfl, rfl⟩ rfl)) (ops11_44 _ _ ⟨rfl, rfl⟩ rfl)) (ops11_45 _ _ ⟨rfl, rfl, rfl⟩ rfl)) (ops11_46 _ _ ⟨rfl, rfl, rfl, rfl⟩ rfl)) (ops11_47 _ _ ⟨rfl, rfl, rfl⟩ rfl)) (ops11_48 _ _ ⟨rfl, rfl⟩ rfl)) (ops11_49 _ _ ⟨rfl, rfl⟩ rfl)) (ops11_50 _ _ ⟨rfl, rfl⟩ rfl)) (ops11_51 _ _ ⟨rfl, rfl, rfl, rfl⟩ rfl)) (ops11_52 _ _ ⟨rfl, rfl⟩ rfl)) (ops11_53 _ _ ⟨rfl, rfl⟩ rfl)) ?_
                intro vs Rs f' S' hp hf hx hS hR
                obtain ⟨x14, hv2, hR2⟩ := (spe rfl hs11_2 (hp 2 (by kernel_rfl)))
                have hT2_0 := (hR 2 0 (by kernel_rfl) (by decide)).trans (congrFun hR2 0)
                obtain ⟨x17, hv5, hR5⟩ := (spe rfl hs11_5 (hp 5 (by kernel_rfl)))
                have hT5_0 := (hR 5 0 (by kernel_rfl) (by decide)).trans (congrFun hR5 0)
                obtain ⟨x20, hv6, hR6⟩ := (spe rfl hs11_6 (hp 6 (by kernel_rfl)))
                obtain ⟨x24, hv10, hR10⟩ := (spe rfl hs11_10 (hp 10 (by kernel_rfl)))
                have hT10_0 := (hR 10 0 (by kernel_rfl) (by decide)).trans (congrFun hR10 0)
                obtain ⟨x27, hv13, hR13⟩ := (spe rfl hs11_13 (hp 13 (by kernel_rfl)))
                have hT13_0 := (hR 13 0 (by kernel_rfl) (by decide)).trans (congrFun hR13 0)
                obtain ⟨x30, hv14, hR14⟩ := (spe rfl hs11_14 (hp 14 (by kernel_rfl)))
                obtain ⟨x34, hv19, hR19⟩ := (spe rfl hs11_19 (hp 19 (by kernel_rfl)))
                obtain ⟨x37, hv22, hR22⟩ := (spe rfl hs11_22 (hp 22 (by kernel_rfl)))
                obtain ⟨x41, hv28, hR28⟩ := (spe rfl hs11_28 (hp 28 (by kernel_rfl)))
                obtain ⟨x44, hv31, hR31⟩ := (spe rfl hs11_31 (hp 31 (by kernel_rfl)))
                obtain ⟨x48, hv36, hR36⟩ := (spe rfl hs11_36 (hp 36 (by kernel_rfl)))
                obtain ⟨x51, hv38, hR38⟩ := (spe rfl hs11_38 (hp 38 (by kernel_rfl)))
                obtain ⟨x55, hv43, hR43⟩ := (spe rfl hs11_43 (hp 43 (by kernel_rfl)))
                obtain ⟨x58, hv45, hR45⟩ := (spe rfl hs11_45 (hp 45 (by kernel_rfl)))
                obtain ⟨hv48, hR48⟩ := (spe rfl hs11_48 (hp 48 (by kernel_rfl)))
                obtain ⟨x62, hv51, hR51⟩ := (spe rfl hs11_51 (hp 51 (by kernel_rfl)))
                obtain ⟨hv52, hR52⟩ := (spe rfl hs11_52 (hp 52 (by kernel_rfl)))
                obtain ⟨hv53, hR53⟩ := (spe rfl hs11_53 (hp 53 (by kernel_rfl)))
                refine ls_fr (F := upd (upd (upd (upd (upd f' 9 (.slice x9.1 t7.length x9.2)) 70 (.bool (decide (t53 = t56)))) 73 (.int .i64 t60)) 74 (.slice x4.1 t2.length x4.2)) 75 (.int .i64 a2)) (fr_next (fr_next (fr_next (fr_next (fr_next (rfl) ((hx 9 (by kernel_rfl)).trans (by kernel_rfl : (_ : Value) = .slice x9.1 t7.length x9.2))) ((hf 48 70 (by kernel_rfl) rfl).trans hv48)) ((hf 51 73 (by kernel_rfl) rfl).trans hv51)) ((hf 52 74 (by kernel_rfl) rfl).trans hv52)) ((hf 53 75 (by kernel_rfl) rfl).trans hv53)) ?_
                refine ls_sub (sput (sput s0 1 (some (Ck.sl T31 x4.1 x4.2 t2))) 4 (some (Ck.sl T24 x9.1 x9.2 t7))) (sub_put ((hS 4 (by kernel_rfl)).trans (by exact rfl)) (sub_put ((hS 1 (by kernel_rfl)).trans (by exact rfl)) (sub_nil _))) ?_
                refine ls_know (c := true) (dec_t q59) 70 (by kernel_rfl) ?_
                refine ls_on (j := 48) (t := 70) (b := true) rfl rfl (by kernel_rfl) (by kernel_rfl) ?_
                obtain ⟨t63, hc64, H⟩ := bind_some H
                refine ls_callb (fid := 25) (vals := #[.slice x4.1 t2.length x4.2, .int .i64 a2]) (X := Unit) (fun x => .int .i64 t63) (fun x => stl []) [] [1] [] [Ck.sl T31 x4.1 x4.2 t2] 437 rfl rfl (by kernel_rfl) (fun w => by kernel_rfl) trivial ⟨by exact rfl, trivial⟩ (by decide) (fun w hs hb => shadowboxref09_Find.calls k x4.1 x4.2 t2 a2 t63 (lent b w [] [Ck.sl T31 x4.1 x4.2 t2]) hb (hs.ror (k := 1) (by exact rfl) (.head _)) (hs.cap (k := 1) (by exact rfl)) hc64) ?_
                intro x65
                refine ls_on (j := 48) (t := 70) (b := true) rfl rfl (by kernel_rfl) (by kernel_rfl) ?_
                refine ls_val (v := .bool (decide (t60 = t63))) rfl rfl (by kernel_rfl) (fun w => by kernel_rfl) ?_
                refine ls_val (v := .bool (decide (t60 = t63))) rfl rfl (by kernel_rfl) (fun w => by kernel_rfl) ?_
                refine ls_val (v := .bool (decide (t60 = t63))) rfl rfl (by kernel_rfl) (fun w => by kernel_rfl) ?_
                by_cases q66 : t60 = t63
                · replace H := ite_t q66 H
                  refine ls_know (c := true) (dec_t q66) 79 (by kernel_rfl) ?_
                  refine ls_on (j := 57) (t := 79) (b := true) rfl rfl (by kernel_rfl) (by kernel_rfl) ?_
                  refine ls_val (v := .slice x9.1 t7.length x9.2) rfl rfl (by kernel_rfl) (fun w => by kernel_rfl) ?_
                  refine ls_on (j := 57) (t := 79) (b := true) rfl rfl (by kernel_rfl) (by kernel_rfl) ?_
                  refine ls_val (v := .int .i64 (t7.length : Int)) rfl rfl (by kernel_rfl) (fun w => by kernel_rfl) ?_
                  refine ls_on (j := 57) (t := 79) (b := true) rfl rfl (by kernel_rfl) (by kernel_rfl) ?_
                  refine ls_val (v := .bool (decide ((t7.length : Int) = (1 : Int)))) rfl rfl (by kernel_rfl) (fun w => by kernel_rfl) ?_
                  refine ls_val (v := .bool (decide ((t7.length : Int) = (1 : Int)))) rfl rfl (by kernel_rfl) (fun w => by kernel_rfl) ?_
                  refine ls_val (v := .bool (decide ((t7.length : Int) = (1 : Int)))) rfl rfl (by kernel_rfl) (fun w => by kernel_rfl) ?_
                  by_cases q67 : (t7.length : Int) = (1 : Int)
                  · replace H := ite_t q67 H
                    refine ls_know (c := true) (dec_t q67) 84 (by kernel_rfl) ?_
                    refine ls_on (j := 62) (t := 84) (b := true) rfl rfl (by kernel_rfl) (by kernel_rfl) ?_
                    refine ls_val (v := .slice x9.1 t7.length x9.2) rfl rfl (by kernel_rfl) (fun w => by kernel_rfl) ?_
                    refine ls_on (j := 62) (t := 84) (b := true) rfl rfl (by kernel_rfl) (by kernel_rfl) ?_
                    obtain ⟨q68, H⟩ := ite_need H
                    refine ls_at (T := T24) (tk := 4) (i := (0 : Int)) (by exact rfl) (by decide) q68 ?_
                    intro ad69 hA70
                    refine ls_idxv T24 (A := x9.1) (c := x9.2) (l := t7) (k := .i64) (i := (0 : Int)) (z := 2) (ad := ad69) rfl rfl (by kernel_rfl) hA70 rfl (by kernel_rfl) (by kernel_rfl) (by kernel_rfl) (by kernel_rfl) (by decide) q68 ?_
                    refine ls_on (j := 62) (t := 84) (b := true) rfl rfl (by kernel_rfl) (by kernel_rfl) ?_
                    refine ls_fieldm (ad := ad69) (off := (((0 : Int)).toNat * 2)) rfl rfl (by kernel_rfl) 1 (fun w => by kernel_rfl) ?_
                    refine ls_on (j := 62) (t := 84) (b := true) rfl rfl (by kernel_rfl) (by kernel_rfl) ?_
                    obtain ⟨y71, hy72, H⟩ := lt_some H
                    refine ls_load (a0 := (ad69.add ((((0 : Int)).toNat * 2) + 1))) (v := .int .i64 (((t7).getD ((0 : Int)).toNat ((0 : Int), (0 : Int))).2)) (de := (TypeDesc.int .i64)) rfl rfl (by kernel_rfl) rfl (by kernel_rfl) (by kernel_rfl) (by kernel_rfl) (fun w hs => (hs.rd (k := 4) (by exact rfl)).at hA70 (Sub4.trans (em_sub T24 t7 (i := ((0 : Int)).toNat) (by have h0 : (0 : Int) ≤ (0 : Int) := (by decide); have h1 : (0 : Int) < (t7.length : Int) := q68; omega)) (Sub4.skip (n := 1) (len1 _) (Sub4.all _)))) ?_
                    refine ls_ren 88 (v := .int .i64 (((t7).getD ((0 : Int)).toNat ((0 : Int), (0 : Int))).2)) (v' := .int .i64 y71) (by kernel_rfl) (by rw [hy72]) ?_
                    refine ls_on (j := 62) (t := 84) (b := true) rfl rfl (by kernel_rfl) (by kernel_rfl) ?_
                    refine ls_val (v := .bool (decide (y71 = (7 : Int)))) rfl rfl (by kernel_rfl) (fun w => by kernel_rfl) ?_
                    refine ls_val (v := .bool (decide (y71 = (7 : Int)))) rfl rfl (by kernel_rfl) (fun w => by kernel_rfl) ?_
                    refine ls_val (v := .bool (decide (y71 = (7 : Int)))) rfl rfl (by kernel_rfl) (fun w => by kernel_rfl) ?_
                    refine ls_end ?_
                    refine qn_then ?_
                    refine cs_ret' ?_
                    obtain rfl := Option.some.inj H
                    refine qr_res (rs := [_]) rfl (fun w' hs => ⟨[.bool (decide (y71 = (7 : Int)))], (res_tmp (by kernel_rfl) (.nil)), (), rfl, hs.pick (ts := []) (cs := []) trivial (by decide)⟩)
                  · replace H := ite_f q67 H
                    refine ls_know (c := false) (dec_f q67) 84 (by kernel_rfl) ?_
                    refine ls_off (j := 62) (t := 84) (b := true) (c := false) rfl rfl (by kernel_rfl) (by kernel_rfl) rfl rfl (by kernel_rfl) ?_
                    refine ls_off (j := 62) (t := 84) (b := true) (c := false) rfl rfl (by kernel_rfl) (by kernel_rfl) rfl rfl (by kernel_rfl) ?_
                    refine ls_off (j := 62) (t := 84) (b := true) (c := false) rfl rfl (by kernel_rfl) (by kernel_rfl) rfl rfl (by kernel_rfl) ?_
                    refine ls_off (j := 62) (t := 84) (b := true) (c := false) rfl rfl (by kernel_rfl) (by kernel_rfl) rfl rfl (by kernel_rfl) ?_
                    refine ls_off (j := 62) (t := 84) (b := true) (c := false) rfl rfl (by kernel_rfl) (by kernel_rfl) rfl rfl (by kernel_rfl) ?_
                    refine ls_val (v := .bool false) rfl rfl (by kernel_rfl) (fun w => by kernel_rfl) ?_
                    refine ls_val (v := .bool false) rfl rfl (by kernel_rfl) (fun w => by kernel_rfl) ?_
                    refine ls_end ?_
                    refine qn_then ?_
                    refine cs_ret' ?_
                    obtain rfl := Option.some.inj H
                    refine qr_res (rs := [_]) rfl (fun w' hs => ⟨[.bool false], (res_tmp (by kernel_rfl) (.nil)), (), rfl, hs.pick (ts := []) (cs := []) trivial (by decide)⟩)
                · replace H := ite_f q66 H
                  refine ls_know (c := false) (dec_f q66) 79 (by kernel_rfl) ?_
                  refine ls_off (j := 57) (t := 79) (b := true) (c := false) rfl rfl (by kernel_rfl) (by kernel_rfl) rfl rfl (by kernel_rfl) ?_
                  refine ls_off (j := 57) (t := 79) (b := true) (c := false) rfl rfl (by kernel_rfl) (by kernel_rfl) rfl rfl (by kernel_rfl) ?_
                  refine ls_off (j := 57) (t := 79) (b := true) (c := false) rfl rfl (by kernel_rfl) (by kernel_rfl) rfl rfl (by kernel_rfl) ?_
                  refine ls_val (v := .bool false) rfl rfl (by kernel_rfl) (fun w => by kernel_rfl) ?_
                  refine ls_val (v := .bool false) rfl rfl (by kernel_rfl) (fun w => by kernel_rfl) ?_
                  refine ls_off (j := 62) (t := 84) (b := true) (c := false) rfl rfl (by kernel_rfl) (by kernel_rfl) rfl rfl (by kernel_rfl) ?_
                  refine ls_off (j := 62) (t := 84) (b := true) (c := false) rfl rfl (by kernel_rfl) (by kernel_rfl) rfl rfl (by kernel_rfl) ?_
                  refine ls_off (j := 62) (t := 84) (b := true) (c := false) rfl rfl (by kernel_rfl) (by kernel_rfl) rfl rfl (by kernel_rfl) ?_
                  refine ls_off (j := 62) (t := 84) (b := true) (c := false) rfl rfl (by kernel_rfl) (by kernel_rfl) rfl rfl (by kernel_rfl) ?_
                  refine ls_off (j := 62) (t := 84) (b := true) (c := false) rfl rfl (by kernel_rfl) (by kernel_rfl) rfl rfl (by kernel_rfl) ?_
                  refine ls_val (v := .bool false) rfl rfl (by kernel_rfl) (fun w => by kernel_rfl) ?_
                  refine ls_val (v := .bool false) rfl rfl (by kernel_rfl) (fun w => by kernel_rfl) ?_
                  refine ls_end ?_
                  refine qn_then ?_
                  refine cs_ret' ?_
                  obtain rfl := Option.some.inj H
                  refine qr_res (rs := [_]) rfl (fun w' hs => ⟨[.bool false], (res_tmp (by kernel_rfl) (.nil)), (), rfl, hs.pick (ts := []) (cs := []) trivial (by decide)⟩)
              · replace H := ite_f q59 H
                refine cs_draw shadowboxlaw09_ExtentTells.tab9 54 5 (spl [s11_0, s11_1, s11_2, s11_3, s11_4, s11_5, s11_6, s11_7, s11_8, s11_9, s11_10, s11_11, s11_12, s11_13, s11_14, s11_15, s11_16, s11_17, s11_18, s11_19, s11_20, s11_21, s11_22, s11_23, s11_24, s11_25, s11_26, s11_27, s11_28, s11_29, s11_30, s11_31, s11_32, s11_33, s11_34, s11_35, s11_36, s11_37, s11_38, s11_39, s11_40, s11_41, s11_42, s11_43, s11_44, s11_45, s11_46, s11_47, s11_48, spu, spu, spu, spu, spu]) (onl [true, true, true, true, true, true, true, true, true, true, true, true, true, true, true, true, true, true, true, true, true, true, true, true, true, true, true, true, true, true, true, true, true, true, true, true, true, true, true, true, true, true, true, true, true, true, true, true, true, false, false, false, false, false]) (by kernel_rfl) (by kernel_rfl) (by kernel_rfl) (by kernel_rfl) (rs := [_, _, _, _, _, _, _, _, _, _, _, _, _, _, _, _]) rfl (by kernel_rfl) (by kernel_rfl) (all_snoc (all_snoc (all_snoc (all_snoc (all_snoc (all_snoc (all_snoc (all_snoc (all_snoc (all_snoc (all_snoc (all_snoc (all_snoc (all_snoc (all_snoc (all_snoc (all_snoc (all_snoc (all_snoc (all_snoc (all_snoc (all_snoc (all_snoc (all_snoc (all_snoc (all_snoc (all_snoc (all_snoc (all_snoc (all_snoc (all_snoc (all_snoc (all_snoc (all_snoc (all_snoc (all_snoc (all_snoc (all_snoc (all_snoc (all_snoc (all_snoc (all_snoc (all_snoc (all_snoc (all_snoc (all_snoc (all_snoc (all_snoc (all_snoc (all_snoc (all_snoc (all_snoc (all_snoc (all_snoc (all_nil) (ops11_0 _ _ rfl rfl)) (ops11_1 _ _ rfl rfl)) (ops11_2 _ _ ⟨rfl, rfl, rfl⟩ rfl)) (ops11_3 _ _ rfl rfl)) (ops11_4 _ _ rfl rfl)) (ops11_5 _ _ ⟨rfl, rfl, rfl⟩ rfl)) (ops11_6 _ _ ⟨rfl, rfl, rfl⟩ rfl)) (ops11_7 _ _ ⟨rfl, rfl⟩ rfl)) (ops11_8 _ _ ⟨rfl, rfl⟩ rfl)) (ops11_9 _ _ ⟨rfl, rfl⟩ rfl)) (ops11_10 _ _ ⟨rfl, rfl, rfl, rfl⟩ rfl)) (ops11_11 _ _ ⟨rfl, rfl⟩ rfl)) (ops11_12 _ _ ⟨rfl, rfl⟩ rfl)) (ops11_13 _ _ ⟨rfl, rfl, rfl, rfl⟩ rfl)) (ops11_14 _ _ ⟨rfl, rfl, rfl, rfl⟩ rfl)) (ops11_15 _ _ ⟨rfl, rfl, rfl⟩ rfl)) (ops11_16 _ _ ⟨rfl, rfl⟩ rfl)) (ops11_17 _ _ ⟨rfl, rfl⟩ rfl)) (ops11_18 _ _ ⟨rfl, rfl⟩ rfl)) (ops11_19 _ _ ⟨rfl, rfl, rfl, rfl⟩ rfl)) (ops11_20 _ _ ⟨rfl, rfl⟩ rfl)) (ops11_21 _ _ ⟨rfl, rfl⟩ rfl)) (ops11_22 _ _ ⟨rfl, rfl, rfl, rfl⟩ rfl)) (ops11_23 _ _ ⟨rfl, rfl, rfl, rfl⟩ rfl)) (ops11_24 _ _ ⟨rfl, rfl, rfl⟩ rfl)) (ops11_25 _ _ ⟨rfl, rfl⟩ rfl)) (ops11_26 _ _ ⟨rfl, rfl⟩ rfl)) (ops11_27 _ _ ⟨rfl, rfl⟩ rfl)) (ops11_28 _ _ ⟨rfl, rfl, rfl, rfl⟩ rfl)) (ops11_29 _ _ ⟨rfl, rfl⟩ rfl)) (ops11_30 _ _ ⟨rfl, rfl⟩ rfl)) (ops11_31 _ _ ⟨rfl, rfl, rfl, rfl⟩ rfl)) (ops11_32 _ _ ⟨rfl, rfl, rfl, rfl⟩ rfl)) (ops11_33 _ _ ⟨rfl, rfl, rfl⟩ rfl)) (ops11_34 _ _ ⟨rfl, rfl⟩ rfl)) (ops11_35 _ _ ⟨rfl, rfl⟩ rfl)) (ops11_36 _ _ ⟨rfl, rfl, rfl⟩ rfl)) (ops11_37 _ _ ⟨rfl, rfl⟩ rfl)) (ops11_38 _ _ ⟨rfl, rfl, rfl⟩ rfl)) (ops11_39 _ _ ⟨rfl, rfl, rfl, rfl⟩ rfl)) (ops11_40 _ _ ⟨rfl, rfl, rfl⟩ rfl)) (ops11_41 _ _ ⟨rfl, rfl⟩ rfl)) (ops11_42 _ _ ⟨rfl, rfl⟩ rfl)) (ops11_43 _ _ ⟨rfl, rfl, rfl⟩ rfl)) (ops11_44 _ _ ⟨rfl, rfl⟩ rfl)) (ops11_45 _ _ ⟨rfl, rfl, rfl⟩ rfl)) (ops11_46 _ _ ⟨rfl, rfl, rfl, rfl⟩ rfl)) (ops11_47 _ _ ⟨rfl, rfl, rfl⟩ rfl)) (ops11_48 _ _ ⟨rfl, rfl⟩ rfl)) (op_offi 49 48 70 true rfl rfl (by kernel_rfl) (by kernel_rfl) rfl (fun v R h => by rw [hs11_48] at h; obtain ⟨h, _⟩ := h; exact h.trans (congrArg Value.bool (show (decide (t53 = t56)) = false from dec_f q59))) rfl rfl)) (op_offi 50 48 70 true rfl rfl (by kernel_rfl) (by kernel_rfl) rfl (fun v R h => by rw [hs11_48] at h; obtain ⟨h, _⟩ := h; exact h.trans (congrArg Value.bool (show (decide (t53 = t56)) = false from dec_f q59))) rfl rfl)) (op_offi 51 48 70 true rfl rfl (by kernel_rfl) (by kernel_rfl) rfl (fun v R h => by rw [hs11_48] at h; obtain ⟨h, _⟩ := h; exact h.trans (congrArg Value.bool (show (decide (t53 = t56)) = false from dec_f q59))) rfl rfl)) (op_offi 52 48 70 true rfl rfl (by kernel_rfl) (by kernel_rfl) rfl (fun v R h => by rw [hs11_48] at h; obtain ⟨h, _⟩ := h; exact h.trans (congrArg Value.bool (show (decide (t53 = t56)) = false from dec_f q59))) rfl rfl)) (op_offi 53 48 70 true rfl rfl (by kernel_rfl) (by kernel_rfl) rfl (fun v R h => by rw [hs11_48] at h; obtain ⟨h, _⟩ := h; exact h.trans (congrArg Value.bool (show (decide (t53 = t56)) = false from dec_f q59))) rfl rfl)) ?_
                intro vs Rs f' S' hp hf hx hS hR
                obtain ⟨x14, hv2, hR2⟩ := (spe rfl hs11_2 (hp 2 (by kernel_rfl)))
                have hT2_0 := (hR 2 0 (by kernel_rfl) (by decide)).trans (congrFun hR2 0)
                obtain ⟨x17, hv5, hR5⟩ := (spe rfl hs11_5 (hp 5 (by kernel_rfl)))
                have hT5_0 := (hR 5 0 (by kernel_rfl) (by decide)).trans (congrFun hR5 0)
                obtain ⟨x20, hv6, hR6⟩ := (spe rfl hs11_6 (hp 6 (by kernel_rfl)))
                obtain ⟨x24, hv10, hR10⟩ := (spe rfl hs11_10 (hp 10 (by kernel_rfl)))
                have hT10_0 := (hR 10 0 (by kernel_rfl) (by decide)).trans (congrFun hR10 0)
                obtain ⟨x27, hv13, hR13⟩ := (spe rfl hs11_13 (hp 13 (by kernel_rfl)))
                have hT13_0 := (hR 13 0 (by kernel_rfl) (by decide)).trans (congrFun hR13 0)
                obtain ⟨x30, hv14, hR14⟩ := (spe rfl hs11_14 (hp 14 (by kernel_rfl)))
                obtain ⟨x34, hv19, hR19⟩ := (spe rfl hs11_19 (hp 19 (by kernel_rfl)))
                obtain ⟨x37, hv22, hR22⟩ := (spe rfl hs11_22 (hp 22 (by kernel_rfl)))
                obtain ⟨x41, hv28, hR28⟩ := (spe rfl hs11_28 (hp 28 (by kernel_rfl)))
                obtain ⟨x44, hv31, hR31⟩ := (spe rfl hs11_31 (hp 31 (by kernel_rfl)))
                obtain ⟨x48, hv36, hR36⟩ := (spe rfl hs11_36 (hp 36 (by kernel_rfl)))
                obtain ⟨x51, hv38, hR38⟩ := (spe rfl hs11_38 (hp 38 (by kernel_rfl)))
                obtain ⟨x55, hv43, hR43⟩ := (spe rfl hs11_43 (hp 43 (by kernel_rfl)))
                obtain ⟨x58, hv45, hR45⟩ := (spe rfl hs11_45 (hp 45 (by kernel_rfl)))
                obtain ⟨hv48, hR48⟩ := (spe rfl hs11_48 (hp 48 (by kernel_rfl)))
                obtain ⟨hv51, hR51⟩ := (spe rfl rfl (hp 51 (by kernel_rfl)) : spu _ _)
                obtain ⟨hv52, hR52⟩ := (spe rfl rfl (hp 52 (by kernel_rfl)) : spu _ _)
                obtain ⟨hv53, hR53⟩ := (spe rfl rfl (hp 53 (by kernel_rfl)) : spu _ _)
                refine ls_fr (F := upd (upd f' 9 (.slice x9.1 t7.length x9.2)) 70 (.bool (decide (t53 = t56)))) (fr_next (fr_next (rfl) ((hx 9 (by kernel_rfl)).trans (by kernel_rfl : (_ : Value) = .slice x9.1 t7.length x9.2))) ((hf 48 70 (by kernel_rfl) rfl).trans hv48)) ?_
                refine ls_sub (sput s0 4 (some (Ck.sl T24 x9.1 x9.2 t7))) (sub_put ((hS 4 (by kernel_rfl)).trans (by exact rfl)) (sub_nil _)) ?_
                refine ls_know (c := false) (dec_f q59) 70 (by kernel_rfl) ?_
                refine ls_off (j := 48) (t := 70) (b := true) (c := false) rfl rfl (by kernel_rfl) (by kernel_rfl) rfl rfl (by kernel_rfl) ?_
                refine ls_off (j := 48) (t := 70) (b := true) (c := false) rfl rfl (by kernel_rfl) (by kernel_rfl) rfl rfl (by kernel_rfl) ?_
                refine ls_val (v := .bool false) rfl rfl (by kernel_rfl) (fun w => by kernel_rfl) ?_
                refine ls_val (v := .bool false) rfl rfl (by kernel_rfl) (fun w => by kernel_rfl) ?_
                refine ls_off (j := 57) (t := 79) (b := true) (c := false) rfl rfl (by kernel_rfl) (by kernel_rfl) rfl rfl (by kernel_rfl) ?_
                refine ls_off (j := 57) (t := 79) (b := true) (c := false) rfl rfl (by kernel_rfl) (by kernel_rfl) rfl rfl (by kernel_rfl) ?_
                refine ls_off (j := 57) (t := 79) (b := true) (c := false) rfl rfl (by kernel_rfl) (by kernel_rfl) rfl rfl (by kernel_rfl) ?_
                refine ls_val (v := .bool false) rfl rfl (by kernel_rfl) (fun w => by kernel_rfl) ?_
                refine ls_val (v := .bool false) rfl rfl (by kernel_rfl) (fun w => by kernel_rfl) ?_
                refine ls_off (j := 62) (t := 84) (b := true) (c := false) rfl rfl (by kernel_rfl) (by kernel_rfl) rfl rfl (by kernel_rfl) ?_
                refine ls_off (j := 62) (t := 84) (b := true) (c := false) rfl rfl (by kernel_rfl) (by kernel_rfl) rfl rfl (by kernel_rfl) ?_
                refine ls_off (j := 62) (t := 84) (b := true) (c := false) rfl rfl (by kernel_rfl) (by kernel_rfl) rfl rfl (by kernel_rfl) ?_
                refine ls_off (j := 62) (t := 84) (b := true) (c := false) rfl rfl (by kernel_rfl) (by kernel_rfl) rfl rfl (by kernel_rfl) ?_
                refine ls_off (j := 62) (t := 84) (b := true) (c := false) rfl rfl (by kernel_rfl) (by kernel_rfl) rfl rfl (by kernel_rfl) ?_
                refine ls_val (v := .bool false) rfl rfl (by kernel_rfl) (fun w => by kernel_rfl) ?_
                refine ls_val (v := .bool false) rfl rfl (by kernel_rfl) (fun w => by kernel_rfl) ?_
                refine ls_end ?_
                refine qn_then ?_
                refine cs_ret' ?_
                obtain rfl := Option.some.inj H
                refine qr_res (rs := [_]) rfl (fun w' hs => ⟨[.bool false], (res_tmp (by kernel_rfl) (.nil)), (), rfl, hs.pick (ts := []) (cs := []) trivial (by decide)⟩)
            · replace H := ite_f q52 H
              obtain ⟨s11_47, hs11_47⟩ : ∃ z : Value → Sto → Prop, z = (fun v R => v = .bool false ∧ R = s0) := ⟨_, rfl⟩
              refine have_op (l := [_, _, _, _, _, _, _, _, _, _, _, _, _, _, _, _, _, _, _, _, _, _, _, _, _, _, _, _, _, _, _, _, _, _, _, _, _, _, _, _, _, _, _, _, _, _, _, _, _, _, _, _, _, _, _, _, _, _, _, _, _, _, _, _, _, _, _, _, _, _]) shadowboxlaw09_ExtentTells.tab9 5 47 (fun sp => sp 47 = s11_47 ∧ sp 41 = s11_41 ∧ sp 46 = spu) (fun sp on hA hon => ?_) (fun ops11_47 => ?_)
              · refine ⟨fun o ho vs Rs f' S' w hp hf hx hS hR hs => ?_⟩
                obtain rfl := Option.some.inj ho
                obtain ⟨hv41, hR41⟩ := (spe hA.2.1 hs11_41 (hp 41 (by kernel_rfl)))
                obtain ⟨hv46, hR46⟩ := (spe hA.2.2 rfl (hp 46 (by kernel_rfl)) : spu _ _)
                rw [hA.1, hs11_47]
                refine And.intro (fun a ha => (want_none rfl a ha).trans hon.symm) (And.intro (fun _ => ?_) (fun h => by rw [hon] at h; cases h))
                have hF := fr_next (fr_next (rfl) (((hf 41 63 (by kernel_rfl) rfl).trans hv41).trans (congrArg Value.bool (show (t46 == t49) = false from Bool.eq_false_iff.mpr q52)))) ((hf 46 68 (by kernel_rfl) rfl).trans hv46)
                refine ls_fr hF ?_
                refine ls_val (v := .bool false) rfl rfl (by kernel_rfl) (fun w => by kernel_rfl) ?_
                exact ls_fin s0 (.bool false) (congrArg (fun z => upd z 69 _) hF.symm) ⟨rfl, rfl⟩ (sub_nil _)
              obtain ⟨s11_48, hs11_48⟩ : ∃ z : Value → Sto → Prop, z = (fun v R => v = .bool false ∧ R = s0) := ⟨_, rfl⟩
              refine have_op (l := [_, _, _, _, _, _, _, _, _, _, _, _, _, _, _, _, _, _, _, _, _, _, _, _, _, _, _, _, _, _, _, _, _, _, _, _, _, _, _, _, _, _, _, _, _, _, _, _, _, _, _, _, _, _, _, _, _, _, _, _, _, _, _, _, _, _, _, _, _, _]) shadowboxlaw09_ExtentTells.tab9 5 48 (fun sp => sp 48 = s11_48 ∧ sp 47 = s11_47) (fun sp on hA hon => ?_) (fun ops11_48 => ?_)
              · refine ⟨fun o ho vs Rs f' S' w hp hf hx hS hR hs => ?_⟩
                obtain rfl := Option.some.inj ho
                obtain ⟨hv47, hR47⟩ := (spe hA.2 hs11_47 (hp 47 (by kernel_rfl)))
                rw [hA.1, hs11_48]
                refine And.intro (fun a ha => (want_none rfl a ha).trans hon.symm) (And.intro (fun _ => ?_) (fun h => by rw [hon] at h; cases h))
                have hF := fr_next (rfl) ((hf 47 69 (by kernel_rfl) rfl).trans hv47)
                refine ls_fr hF ?_
                refine ls_val (v := .bool false) rfl rfl (by kernel_rfl) (fun w => by kernel_rfl) ?_
                exact ls_fin s0 (.bool false) (congrArg (fun z => upd z 70 _) hF.symm) ⟨rfl, rfl⟩ (sub_nil _)
              refine cs_draw shadowboxlaw09_ExtentTells.tab9 54 5 (spl [s11_0, s11_1, s11_2, s11_3, s11_4, s11_5, s11_6, s11_7, s11_8, s11_9, s11_10, s11_11, s11_12, s11_13, s11_14, s11_15, s11_16, s11_17, s11_18, s11_19, s11_20, s11_21, s11_22, s11_23, s11_24, s11_25, s11_26, s11_27, s11_28, s11_29, s11_30, s11_31, s11_32, s11_33, s11_34, s11_35, s11_36, s11_37, s11_38, s11_39, s11_40, s11_41, spu, spu, spu, spu, spu, s11_47, s11_48, spu, spu, spu, spu, spu]) (onl [true, true, true, true, true, true, true, true, true, true, true, true, true, true, true, true, true, true, true, true, true, true, true, true, true, true, true, true, true, true, true, true, true, true, true, true, true, true, true, true, true, true, false, false, false, false, false, true, true, false, false, false, false, false]) (by kernel_rfl) (by kernel_rfl) (by kernel_rfl) (by kernel_rfl) (rs := [_, _, _, _, _, _, _, _, _, _, _, _, _, _, _, _]) rfl (by kernel_rfl) (by kernel_rfl) (all_snoc (all_snoc (all_snoc (all_snoc (all_snoc (all_snoc (all_snoc (all_snoc (all_snoc (all_snoc (all_snoc (all_snoc (all_snoc (all_snoc (all_snoc (all_snoc (all_snoc (all_snoc (all_snoc (all_snoc (all_snoc (all_snoc (all_snoc (all_snoc (all_snoc (all_snoc (all_snoc (all_snoc (all_snoc (all_snoc (all_snoc (all_snoc (all_snoc (all_snoc (all_snoc (all_snoc (all_snoc (all_snoc (all_snoc (all_snoc (all_snoc (all_snoc (all_snoc (all_snoc (all_snoc (all_snoc (all_snoc (all_snoc (all_snoc (all_snoc (all_snoc (all_snoc (all_snoc (all_snoc (all_nil) (ops11_0 _ _ rfl rfl)) (ops11_1 _ _ rfl rfl)) (ops11_2 _ _ ⟨rfl, rfl, rfl⟩ rfl)) (ops11_3 _ _ rfl rfl)) (ops11_4 _ _ rfl rfl)) (ops11_5 _ _ ⟨rfl, rfl, rfl⟩ rfl)) (ops11_6 _ _ ⟨rfl, rfl, rfl⟩ rfl)) (ops11_7 _ _ ⟨rfl, rfl⟩ rfl)) (ops11_8 _ _ ⟨rfl, rfl⟩ rfl)) (ops11_9 _ _ ⟨rfl, rfl⟩ rfl)) (ops11_10 _ _ ⟨rfl, rfl, rfl, rfl⟩ rfl)) (ops11_11 _ _ ⟨rfl, rfl⟩ rfl)) (ops11_12 _ _ ⟨rfl, rfl⟩ rfl)) (ops11_13 _ _ ⟨rfl, rfl, rfl, rfl⟩ rfl)) (ops11_14 _ _ ⟨rfl, rfl, rfl, rfl⟩ rfl)) (ops11_15 _ _ ⟨rfl, rfl, rfl⟩ rfl)) (ops11_16 _ _ ⟨rfl, rfl⟩ rfl)) (ops11_17 _ _ ⟨rfl, rfl⟩ rfl)) (ops11_18 _ _ ⟨rfl, rfl⟩ rfl)) (ops11_19 _ _ ⟨rfl, rfl, rfl, rfl⟩ rfl)) (ops11_20 _ _ ⟨rfl, rfl⟩ rfl)) (ops11_21 _ _ ⟨rfl, rfl⟩ rfl)) (ops11_22 _ _ ⟨rfl, rfl, rfl, rfl⟩ rfl)) (ops11_23 _ _ ⟨rfl, rfl, rfl, rfl⟩ rfl)) (ops11_24 _ _ ⟨rfl, rfl, rfl⟩ rfl)) (ops11_25 _ _ ⟨rfl, rfl⟩ rfl)) (ops11_26 _ _ ⟨rfl, rfl⟩ rfl)) (ops11_27 _ _ ⟨rfl, rfl⟩ rfl)) (ops11_28 _ _ ⟨rfl, rfl, rfl, rfl⟩ rfl)) (ops11_29 _ _ ⟨rfl, rfl⟩ rfl)) (ops11_30 _ _ ⟨rfl, rfl⟩ rfl)) (ops11_31 _ _ ⟨rfl, rfl, rfl, rfl⟩ rfl)) (ops11_32 _ _ ⟨rfl, rfl, rfl, rfl⟩ rfl)) (ops11_33 _ _ ⟨rfl, rfl, rfl⟩ rfl)) (ops11_34 _ _ ⟨rfl, rfl⟩ rfl)) (ops11_35 _ _ ⟨rfl, rfl⟩ rfl)) (ops11_36 _ _ ⟨rfl, rfl, rfl⟩ rfl)) (ops11_37 _ _ ⟨rfl, rfl⟩ rfl)) (ops11_38 _ _ ⟨rfl, rfl, rfl⟩ rfl)) (ops11_39 _ _ ⟨rfl, rfl, rfl, rfl⟩ rfl)) (ops11_40 _ _ ⟨rfl, rfl, rfl⟩ rfl)) (ops11_41 _ _ ⟨rfl, rfl⟩ rfl)) (op_offi 42 41 63 true rfl rfl (by kernel_rfl) (by kernel_rfl) rfl (fun v R h => by rw [hs11_41] at h; obtain ⟨h, _⟩ := h; exact h.trans (congrArg Value.bool (show (t46 == t49) = false from Bool.eq_false_iff.mpr q52))) rfl rfl)) (op_offi 43 41 63 true rfl rfl (by kernel_rfl) (by kernel_rfl) rfl (fun v R h => by rw [hs11_41] at h; obtain ⟨h, _⟩ := h; exact h.trans (congrArg Value.bool (show (t46 == t49) = false from Bool.eq_false_iff.mpr q52))) rfl rfl)) (op_offi 44 41 63 true rfl rfl (by kernel_rfl) (by kernel_rfl) rfl (fun v R h => by rw [hs11_41] at h; obtain ⟨h, _⟩ := h; exact h.trans (congrArg Value.bool (show (t46 == t49) = false from Bool.eq_false_iff.mpr q52))) rfl rfl)) (op_offi 45 41 63 true rfl rfl (by kernel_rfl) (by kernel_rfl) rfl (fun v R h => by rw [hs11_41] at h; obtain ⟨h, _⟩ := h; exact h.trans (congrArg Value.bool (show (t46 == t49) = false from Bool.eq_false_iff.mpr q52))) rfl rfl)) (op_offi 46 41 63 true rfl rfl (by kernel_rfl) (by kernel_rfl) rfl (fun v R h => by rw [hs11_41] at h; obtain ⟨h, _⟩ := h; exact h.trans (congrArg Value.bool (show (t46 == t49) = false from Bool.eq_false_iff.mpr q52))) rfl rfl)) (ops11_47 _ _ ⟨rfl, rfl, rfl⟩ rfl)) (ops11_48 _ _ ⟨rfl, rfl⟩ rfl)) (op_offi 49 48 70 true rfl rfl (by kernel_rfl) (by kernel_rfl) rfl (fun v R h => by rw [hs11_48] at h; obtain ⟨h, _⟩ := h; exact h) rfl rfl)) (op_offi 50 48 70 true rfl rfl (by kernel_rfl) (by kernel_rfl) rfl (fun v R h => by rw [hs11_48] at h; obtain ⟨h, _⟩ := h; exact h) rfl rfl)) (op_offi 51 48 70 true rfl rfl (by kernel_rfl) (by kernel_rfl) rfl (fun v R h => by rw [hs11_48] at h; obtain ⟨h, _⟩ := h; exact h) rfl rfl)) (op_offi 52 48 70 true rfl rfl (by kernel_rfl) (by kernel_rfl) rfl (fun v R h => by rw [hs11_48] at h; obtain ⟨h, _⟩ := h; exact h) rfl rfl)) (op_offi 53 48 70 true rfl rfl (by kernel_rfl) (by kernel_rfl) rfl (fun v R h => by rw [hs11_48] at h; obtain ⟨h, _⟩ := h; exact h) rfl rfl)) ?_
              intro vs Rs f' S' hp hf hx hS hR
              obtain ⟨x14, hv2, hR2⟩ := (spe rfl hs11_2 (hp 2 (by kernel_rfl)))
              have hT2_0 := (hR 2 0 (by kernel_rfl) (by decide)).trans (congrFun hR2 0)
              obtain ⟨x17, hv5, hR5⟩ := (spe rfl hs11_5 (hp 5 (by kernel_rfl)))
              have hT5_0 := (hR 5 0 (by kernel_rfl) (by decide)).trans (congrFun hR5 0)
              obtain ⟨x20, hv6, hR6⟩ := (spe rfl hs11_6 (hp 6 (by kernel_rfl)))
              obtain ⟨x24, hv10, hR10⟩ := (spe rfl hs11_10 (hp 10 (by kernel_rfl)))
              have hT10_0 := (hR 10 0 (by kernel_rfl) (by decide)).trans (congrFun hR10 0)
              obtain ⟨x27, hv13, hR13⟩ := (spe rfl hs11_13 (hp 13 (by kernel_rfl)))
              have hT13_0 := (hR 13 0 (by kernel_rfl) (by decide)).trans (congrFun hR13 0)
              obtain ⟨x30, hv14, hR14⟩ := (spe rfl hs11_14 (hp 14 (by kernel_rfl)))
              obtain ⟨x34, hv19, hR19⟩ := (spe rfl hs11_19 (hp 19 (by kernel_rfl)))
              obtain ⟨x37, hv22, hR22⟩ := (spe rfl hs11_22 (hp 22 (by kernel_rfl)))
              obtain ⟨x41, hv28, hR28⟩ := (spe rfl hs11_28 (hp 28 (by kernel_rfl)))
              obtain ⟨x44, hv31, hR31⟩ := (spe rfl hs11_31 (hp 31 (by kernel_rfl)))
              obtain ⟨x48, hv36, hR36⟩ := (spe rfl hs11_36 (hp 36 (by kernel_rfl)))
              obtain ⟨x51, hv38, hR38⟩ := (spe rfl hs11_38 (hp 38 (by kernel_rfl)))
              obtain ⟨hv48, hR48⟩ := (spe rfl hs11_48 (hp 48 (by kernel_rfl)))
              obtain ⟨hv51, hR51⟩ := (spe rfl rfl (hp 51 (by kernel_rfl)) : spu _ _)
              obtain ⟨hv52, hR52⟩ := (spe rfl rfl (hp 52 (by kernel_rfl)) : spu _ _)
              obtain ⟨hv53, hR53⟩ := (spe rfl rfl (hp 53 (by kernel_rfl)) : spu _ _)
              refine ls_fr (F := upd (upd f' 9 (.slice x9.1 t7.length x9.2)) 70 (.bool false)) (fr_next (fr_next (rfl) ((hx 9 (by kernel_rfl)).trans (by kernel_rfl : (_ : Value) = .slice x9.1 t7.length x9.2))) ((hf 48 70 (by kernel_rfl) rfl).trans hv48)) ?_
              refine ls_sub (sput s0 4 (some (Ck.sl T24 x9.1 x9.2 t7))) (sub_put ((hS 4 (by kernel_rfl)).trans (by exact rfl)) (sub_nil _)) ?_
              refine ls_off (j := 48) (t := 70) (b := true) (c := false) rfl rfl (by kernel_rfl) (by kernel_rfl) rfl rfl (by kernel_rfl) ?_
              refine ls_off (j := 48) (t := 70) (b := true) (c := false) rfl rfl (by kernel_rfl) (by kernel_rfl) rfl rfl (by kernel_rfl) ?_
              refine ls_val (v := .bool false) rfl rfl (by kernel_rfl) (fun w => by kernel_rfl) ?_
              refine ls_val (v := .bool false) rfl rfl (by kernel_rfl) (fun w => by kernel_rfl) ?_
              refine ls_off (j := 57) (t := 79) (b := true) (c := false) rfl rfl (by kernel_rfl) (by kernel_rfl) rfl rfl (by kernel_rfl) ?_
              refine ls_off (j := 57) (t := 79) (b := true) (c := false) rfl rfl (by kernel_rfl) (by kernel_rfl) rfl rfl (by kernel_rfl) ?_
              refine ls_off (j := 57) (t := 79) (b := true) (c := false) rfl rfl (by kernel_rfl) (by kernel_rfl) rfl rfl (by kernel_rfl) ?_
              refine ls_val (v := .bool false) rfl rfl (by kernel_rfl) (fun w => by kernel_rfl) ?_
              refine ls_val (v := .bool false) rfl rfl (by kernel_rfl) (fun w => by kernel_rfl) ?_
              refine ls_off (j := 62) (t := 84) (b := true) (c := false) rfl rfl (by kernel_rfl) (by kernel_rfl) rfl rfl (by kernel_rfl) ?_
              refine ls_off (j := 62) (t := 84) (b := true) (c := false) rfl rfl (by kernel_rfl) (by kernel_rfl) rfl rfl (by kernel_rfl) ?_
              refine ls_off (j := 62) (t := 84) (b := true) (c := false) rfl rfl (by kernel_rfl) (by kernel_rfl) rfl rfl (by kernel_rfl) ?_
              refine ls_off (j := 62) (t := 84) (b := true) (c := false) rfl rfl (by kernel_rfl) (by kernel_rfl) rfl rfl (by kernel_rfl) ?_
              refine ls_off (j := 62) (t := 84) (b := true) (c := false) rfl rfl (by kernel_rfl) (by kernel_rfl) rfl rfl (by kernel_rfl) ?_
              refine ls_val (v := .bool false) rfl rfl (by kernel_rfl) (fun w => by kernel_rfl) ?_
              refine ls_val (v := .bool false) rfl rfl (by kernel_rfl) (fun w => by kernel_rfl) ?_
              refine ls_end ?_
              refine qn_then ?_
              refine cs_ret' ?_
              obtain rfl := Option.some.inj H
              refine qr_res (rs := [_]) rfl (fun w' hs => ⟨[.bool false], (res_tmp (by kernel_rfl) (.nil)), (), rfl, hs.pick (ts := []) (cs := []) trivial (by decide)⟩)
          · replace H := ite_f q45 H
            obtain ⟨s11_40, hs11_40⟩ : ∃ z : Value → Sto → Prop, z = (fun v R => v = .bool false ∧ R = s0) := ⟨_, rfl⟩
            refine have_op (l := [_, _, _, _, _, _, _, _, _, _, _, _, _, _, _, _, _, _, _, _, _, _, _, _, _, _, _, _, _, _, _, _, _, _, _, _, _, _, _, _, _, _, _, _, _, _, _, _, _, _, _, _, _, _, _, _, _, _, _, _, _, _, _, _, _, _, _, _, _, _]) shadowboxlaw09_ExtentTells.tab9 5 40 (fun sp => sp 40 = s11_40 ∧ sp 34 = s11_34 ∧ sp 39 = spu) (fun sp on hA hon => ?_) (fun ops11_40 => ?_)
            · refine ⟨fun o ho vs Rs f' S' w hp hf hx hS hR hs => ?_⟩
              obtain rfl := Option.some.inj ho
              obtain ⟨hv34, hR34⟩ := (spe hA.2.1 hs11_34 (hp 34 (by kernel_rfl)))
              obtain ⟨hv39, hR39⟩ := (spe hA.2.2 rfl (hp 39 (by kernel_rfl)) : spu _ _)
              rw [hA.1, hs11_40]
              refine And.intro (fun a ha => (want_none rfl a ha).trans hon.symm) (And.intro (fun _ => ?_) (fun h => by rw [hon] at h; cases h))
              have hF := fr_next (fr_next (rfl) (((hf 34 56 (by kernel_rfl) rfl).trans hv34).trans (congrArg Value.bool (show (t39 == t42) = false from Bool.eq_false_iff.mpr q45)))) ((hf 39 61 (by kernel_rfl) rfl).trans hv39)
              refine ls_fr hF ?_
              refine ls_val (v := .bool false) rfl rfl (by kernel_rfl) (fun w => by kernel_rfl) ?_
              exact ls_fin s0 (.bool false) (congrArg (fun z => upd z 62 _) hF.symm) ⟨rfl, rfl⟩ (sub_nil _)
            obtain ⟨s11_41, hs11_41⟩ : ∃ z : Value → Sto → Prop, z = (fun v R => v = .bool false ∧ R = s0) := ⟨_, rfl⟩
            refine have_op (l := [_, _, _, _, _, _, _, _, _, _, _, _, _, _, _, _, _, _, _, _, _, _, _, _, _, _, _, _, _, _, _, _, _, _, _, _, _, _, _, _, _, _, _, _, _, _, _, _, _, _, _, _, _, _, _, _, _, _, _, _, _, _, _, _, _, _, _, _, _, _]) shadowboxlaw09_ExtentTells.tab9 5 41 (fun sp => sp 41 = s11_41 ∧ sp 40 = s11_40) (fun sp on hA hon => ?_) (fun ops11_41 => ?_)
            · refine ⟨fun o ho vs Rs f' S' w hp hf hx hS hR hs => ?_⟩
              obtain rfl := Option.some.inj ho
              obtain ⟨hv40, hR40⟩ := (spe hA.2 hs11_40 (hp 40 (by kernel_rfl)))
              rw [hA.1, hs11_41]
              refine And.intro (fun a ha => (want_none rfl a ha).trans hon.symm) (And.intro (fun _ => ?_) (fun h => by rw [hon] at h; cases h))
              have hF := fr_next (rfl) ((hf 40 62 (by kernel_rfl) rfl).trans hv40)
              refine ls_fr hF ?_
              refine ls_val (v := .bool false) rfl rfl (by kernel_rfl) (fun w => by kernel_rfl) ?_
              exact ls_fin s0 (.bool false) (congrArg (fun z => upd z 63 _) hF.symm) ⟨rfl, rfl⟩ (sub_nil _)
            obtain ⟨s11_47, hs11_47⟩ : ∃ z : Value → Sto → Prop, z = (fun v R => v = .bool false ∧ R = s0) := ⟨_, rfl⟩
            refine have_op (l := [_, _, _, _, _, _, _, _, _, _, _, _, _, _, _, _, _, _, _, _, _, _, _, _, _, _, _, _, _, _, _, _, _, _, _, _, _, _, _, _, _, _, _, _, _, _, _, _, _, _, _, _, _, _, _, _, _, _, _, _, _, _, _, _, _, _, _, _, _, _]) shadowboxlaw09_ExtentTells.tab9 5 47 (fun sp => sp 47 = s11_47 ∧ sp 41 = s11_41 ∧ sp 46 = spu) (fun sp on hA hon => ?_) (fun ops11_47 => ?_)
            · refine ⟨fun o ho vs Rs f' S' w hp hf hx hS hR hs => ?_⟩
              obtain rfl := Option.some.inj ho
              obtain ⟨hv41, hR41⟩ := (spe hA.2.1 hs11_41 (hp 41 (by kernel_rfl)))
              obtain ⟨hv46, hR46⟩ := (spe hA.2.2 rfl (hp 46 (by kernel_rfl)) : spu _ _)
              rw [hA.1, hs11_47]
              refine And.intro (fun a ha => (want_none rfl a ha).trans hon.symm) (And.intro (fun _ => ?_) (fun h => by rw [hon] at h; cases h))
              have hF := fr_next (fr_next (rfl) ((hf 41 63 (by kernel_rfl) rfl).trans hv41)) ((hf 46 68 (by kernel_rfl) rfl).trans hv46)
              refine ls_fr hF ?_
              refine ls_val (v := .bool false) rfl rfl (by kernel_rfl) (fun w => by kernel_rfl) ?_
              exact ls_fin s0 (.bool false) (congrArg (fun z => upd z 69 _) hF.symm) ⟨rfl, rfl⟩ (sub_nil _)
            obtain ⟨s11_48, hs11_48⟩ : ∃ z : Value → Sto → Prop, z = (fun v R => v = .bool false ∧ R = s0) := ⟨_, rfl⟩
            refine have_op (l := [_, _, _, _, _, _, _, _, _, _, _, _, _, _, _, _, _, _, _, _, _, _, _, _, _, _, _, _, _, _, _, _, _, _, _, _, _, _, _, _, _, _, _, _, _, _, _, _, _, _, _, _, _, _, _, _, _, _, _, _, _, _, _, _, _, _, _, _, _, _]) shadowboxlaw09_ExtentTells.tab9 5 48 (fun sp => sp 48 = s11_48 ∧ sp 47 = s11_47) (fun sp on hA hon => ?_) (fun ops11_48 => ?_)
            · refine ⟨fun o ho vs Rs f' S' w hp hf hx hS hR hs => ?_⟩
              obtain rfl := Option.some.inj ho
              obtain ⟨hv47, hR47⟩ := (spe hA.2 hs11_47 (hp 47 (by kernel_rfl)))
              rw [hA.1, hs11_48]
              refine And.intro (fun a ha => (want_none rfl a ha).trans hon.symm) (And.intro (fun _ => ?_) (fun h => by rw [hon] at h; cases h))
              have hF := fr_next (rfl) ((hf 47 69 (by kernel_rfl) rfl).trans hv47)
              refine ls_fr hF ?_
              refine ls_val (v := .bool false) rfl rfl (by kernel_rfl) (fun w => by kernel_rfl) ?_
              exact ls_fin s0 (.bool false) (congrArg (fun z => upd z 70 _) hF.symm) ⟨rfl, rfl⟩ (sub_nil _)
            refine cs_draw shadowboxlaw09_ExtentTells.tab9 54 5 (spl [s11_0, s11_1, s11_2, s11_3, s11_4, s11_5, s11_6, s11_7, s11_8, s11_9, s11_10, s11_11, s11_12, s11_13, s11_14, s11_15, s11_16, s11_17, s11_18, s11_19, s11_20, s11_21, s11_22, s11_23, s11_24, s11_25, s11_26, s11_27, s11_28, s11_29, s11_30, s11_31, s11_32, s11_33, s11_34, spu, spu, spu, spu, spu, s11_40, s11_41, spu, spu, spu, spu, spu, s11_47, s11_48, spu, spu, spu, spu, spu]) (onl [true, true, true, true, true, true, true, true, true, true, true, true, true, true, true, true, true, true, true, true, true, true, true, true, true, true, true, true, true, true, true, true, true, true, true, false, false, false, false, false, true, true, false, false, false, false, false, true, true, false, false, false, false, false]) (by kernel_rfl) (by kernel_rfl) (by kernel_rfl) (by kernel_rfl) (rs := [_, _, _, _, _, _, _, _, _, _, _, _, _, _, _, _]) rfl (by kernel_rfl) (by kernel_rfl) (all_snoc (all_snoc (all_snoc (all_snoc (all_snoc (all_snoc (all_snoc (all_snoc (all_snoc (all_snoc (all_snoc (all_snoc (all_snoc (all_snoc (all_snoc (all_snoc (all_snoc (all_snoc (all_snoc (all_snoc (all_snoc (all_snoc (all_snoc (all_snoc (all_snoc (all_snoc (all_snoc (all_snoc (all_snoc (all_snoc (all_snoc (all_snoc (all_snoc (all_snoc (all_snoc (all_snoc (all_snoc (all_snoc (all_snoc (all_snoc (all_snoc (all_snoc (all_snoc (all_snoc (all_snoc (all_snoc (all_snoc (all_snoc (all_snoc (all_snoc (all_snoc (all_snoc (all_snoc (all_snoc (all_nil) (ops11_0 _ _ rfl rfl)) (ops11_1 _ _ rfl rfl)) (ops11_2 _ _ ⟨rfl, rfl, rfl⟩ rfl)) (ops11_3 _ _ rfl rfl)) (ops11_4 _ _ rfl rfl)) (ops11_5 _ _ ⟨rfl, rfl, rfl⟩ rfl)) (ops11_6 _ _ ⟨rfl, rfl, rfl⟩ rfl)) (ops11_7 _ _ ⟨rfl, rfl⟩ rfl)) (ops11_8 _ _ ⟨rfl, rfl⟩ rfl)) (ops11_9 _ _ ⟨rfl, rfl⟩ rfl)) (ops11_10 _ _ ⟨rfl, rfl, rfl, rfl⟩ rfl)) (ops11_11 _ _ ⟨rfl, rfl⟩ rfl)) (ops11_12 _ _ ⟨rfl, rfl⟩ rfl)) (ops11_13 _ _ ⟨rfl, rfl, rfl, rfl⟩ rfl)) (ops11_14 _ _ ⟨rfl, rfl, rfl, rfl⟩ rfl)) (ops11_15 _ _ ⟨rfl, rfl, rfl⟩ rfl)) (ops11_16 _ _ ⟨rfl, rfl⟩ rfl)) (ops11_17 _ _ ⟨rfl, rfl⟩ rfl)) (ops11_18 _ _ ⟨rfl, rfl⟩ rfl)) (ops11_19 _ _ ⟨rfl, rfl, rfl, rfl⟩ rfl)) (ops11_20 _ _ ⟨rfl, rfl⟩ rfl)) (ops11_21 _ _ ⟨rfl, rfl⟩ rfl)) (ops11_22 _ _ ⟨rfl, rfl, rfl, rfl⟩ rfl)) (ops11_23 _ _ ⟨rfl, rfl, rfl, rfl⟩ rfl)) (ops11_24 _ _ ⟨rfl, rfl, rfl⟩ rfl)) (ops11_25 _ _ ⟨rfl, rfl⟩ rfl)) (ops11_26 _ _ ⟨rfl, rfl⟩ rfl)) (ops11_27 _ _ ⟨rfl, rfl⟩ rfl)) (ops11_28 _ _ ⟨rfl, rfl, rfl, rfl⟩ rfl)) (ops11_29 _ _ ⟨rfl, rfl⟩ rfl)) (ops11_30 _ _ ⟨rfl, rfl⟩ rfl)) (ops11_31 _ _ ⟨rfl, rfl, rfl, rfl⟩ rfl)) (ops11_32 _ _ ⟨rfl, rfl, rfl, rfl⟩ rfl)) (ops11_33 _ _ ⟨rfl, rfl, rfl⟩ rfl)) (ops11_34 _ _ ⟨rfl, rfl⟩ rfl)) (op_offi 35 34 56 true rfl rfl (by kernel_rfl) (by kernel_rfl) rfl (fun v R h => by rw [hs11_34] at h; obtain ⟨h, _⟩ := h; exact h.trans (congrArg Value.bool (show (t39 == t42) = false from Bool.eq_false_iff.mpr q45))) rfl rfl)) (op_offi 36 34 56 true rfl rfl (by kernel_rfl) (by kernel_rfl) rfl (fun v R h => by rw [hs11_34] at h; obtain ⟨h, _⟩ := h; exact h.trans (congrArg Value.bool (show (t39 == t42) = false from Bool.eq_false_iff.mpr q45))) rfl rfl)) (op_offi 37 34 56 true rfl rfl (by kernel_rfl) (by kernel_rfl) rfl (fun v R h => by rw [hs11_34] at h; obtain ⟨h, _⟩ := h; exact h.trans (congrArg Value.bool (show (t39 == t42) = false from Bool.eq_false_iff.mpr q45))) rfl rfl)) (op_offi 38 34 56 true rfl rfl (by kernel_rfl) (by kernel_rfl) rfl (fun v R h => by rw [hs11_34] at h; obtain ⟨h, _⟩ := h; exact h.trans (congrArg Value.bool (show (t39 == t42) = false from Bool.eq_false_iff.mpr q45))) rfl rfl)) (op_offi 39 34 56 true rfl rfl (by kernel_rfl) (by kernel_rfl) rfl (fun v R h => by rw [hs11_34] at h; obtain ⟨h, _⟩ := h; exact h.trans (congrArg Value.bool (show (t39 == t42) = false from Bool.eq_false_iff.mpr q45))) rfl rfl)) (ops11_40 _ _ ⟨rfl, rfl, rfl⟩ rfl)) (ops11_41 _ _ ⟨rfl, rfl⟩ rfl)) (op_offi 42 41 63 true rfl rfl (by kernel_rfl) (by kernel_rfl) rfl (fun v R h => by rw [hs11_41] at h; obtain ⟨h, _⟩ := h; exact h) rfl rfl)) (op_offi 43 41 63 true rfl rfl (by kernel_rfl) (by kernel_rfl) rfl (fun v R h => by rw [hs11_41] at h; obtain ⟨h, _⟩ := h; exact h) rfl rfl)) (op_offi 44 41 63 true rfl rfl (by kernel_rfl) (by kernel_rfl) rfl (fun v R h => by rw [hs11_41] at h; obtain ⟨h, _⟩ := h; exact h) rfl rfl)) (op_offi 45 41 63 true rfl rfl (by kernel_rfl) (by kernel_rfl) rfl (fun v R h => by rw [hs11_41] at h; obtain ⟨h, _⟩ := h; exact h) rfl rfl)) (op_offi 46 41 63 true rfl rfl (by kernel_rfl) (by kernel_rfl) rfl (fun v R h => by rw [hs11_41] at h; obtain ⟨h, _⟩ := h; exact h) rfl rfl)) (ops11_47 _ _ ⟨rfl, rfl, rfl⟩ rfl)) (ops11_48 _ _ ⟨rfl, rfl⟩ rfl)) (op_offi 49 48 70 true rfl rfl (by kernel_rfl) (by kernel_rfl) rfl (fun v R h => by rw [hs11_48] at h; obtain ⟨h, _⟩ := h; exact h) rfl rfl)) (op_offi 50 48 70 true rfl rfl (by kernel_rfl) (by kernel_rfl) rfl (fun v R h => by rw [hs11_48] at h; obtain ⟨h, _⟩ := h; exact h) rfl rfl)) (op_offi 51 48 70 true rfl rfl (by kernel_rfl) (by kernel_rfl) rfl (fun v R h => by rw [hs11_48] at h; obtain ⟨h, _⟩ := h; exact h) rfl rfl)) (op_offi 52 48 70 true rfl rfl (by kernel_rfl) (by kernel_rfl) rfl (fun v R h => by rw [hs11_48] at h; obtain ⟨h, _⟩ := h; exact h) rfl rfl)) (op_offi 53 48 70 true rfl rfl (by kernel_rfl) (by kernel_rfl) rfl (fun v R h => by rw [hs11_48] at h; obtain ⟨h, _⟩ := h; exact h) rfl rfl)) ?_
            intro vs Rs f' S' hp hf hx hS hR
            obtain ⟨x14, hv2, hR2⟩ := (spe rfl hs11_2 (hp 2 (by kernel_rfl)))
            have hT2_0 := (hR 2 0 (by kernel_rfl) (by decide)).trans (congrFun hR2 0)
            obtain ⟨x17, hv5, hR5⟩ := (spe rfl hs11_5 (hp 5 (by kernel_rfl)))
            have hT5_0 := (hR 5 0 (by kernel_rfl) (by decide)).trans (congrFun hR5 0)
            obtain ⟨x20, hv6, hR6⟩ := (spe rfl hs11_6 (hp 6 (by kernel_rfl)))
            obtain ⟨x24, hv10, hR10⟩ := (spe rfl hs11_10 (hp 10 (by kernel_rfl)))
            have hT10_0 := (hR 10 0 (by kernel_rfl) (by decide)).trans (congrFun hR10 0)
            obtain ⟨x27, hv13, hR13⟩ := (spe rfl hs11_13 (hp 13 (by kernel_rfl)))
            have hT13_0 := (hR 13 0 (by kernel_rfl) (by decide)).trans (congrFun hR13 0)
            obtain ⟨x30, hv14, hR14⟩ := (spe rfl hs11_14 (hp 14 (by kernel_rfl)))
            obtain ⟨x34, hv19, hR19⟩ := (spe rfl hs11_19 (hp 19 (by kernel_rfl)))
            obtain ⟨x37, hv22, hR22⟩ := (spe rfl hs11_22 (hp 22 (by kernel_rfl)))
            obtain ⟨x41, hv28, hR28⟩ := (spe rfl hs11_28 (hp 28 (by kernel_rfl)))
            obtain ⟨x44, hv31, hR31⟩ := (spe rfl hs11_31 (hp 31 (by kernel_rfl)))
            obtain ⟨hv48, hR48⟩ := (spe rfl hs11_48 (hp 48 (by kernel_rfl)))
            obtain ⟨hv51, hR51⟩ := (spe rfl rfl (hp 51 (by kernel_rfl)) : spu _ _)
            obtain ⟨hv52, hR52⟩ := (spe rfl rfl (hp 52 (by kernel_rfl)) : spu _ _)
            obtain ⟨hv53, hR53⟩ := (spe rfl rfl (hp 53 (by kernel_rfl)) : spu _ _)
            refine ls_fr (F := upd (upd f' 9 (.slice x9.1 t7.length x9.2)) 70 (.bool false)) (fr_next (fr_next (rfl) ((hx 9 (by kernel_rfl)).trans (by kernel_rfl : (_ : Value) = .slice x9.1 t7.length x9.2))) ((hf 48 70 (by kernel_rfl) rfl).trans hv48)) ?_
            refine ls_sub (sput s0 4 (some (Ck.sl T24 x9.1 x9.2 t7))) (sub_put ((hS 4 (by kernel_rfl)).trans (by exact rfl)) (sub_nil _)) ?_
            refine ls_off (j := 48) (t := 70) (b := true) (c := false) rfl rfl (by kernel_rfl) (by kernel_rfl) rfl rfl (by kernel_rfl) ?_
            refine ls_off (j := 48) (t := 70) (b := true) (c := false) rfl rfl (by kernel_rfl) (by kernel_rfl) rfl rfl (by kernel_rfl) ?_
            refine ls_val (v := .bool false) rfl rfl (by kernel_rfl) (fun w => by kernel_rfl) ?_
            refine ls_val (v := .bool false) rfl rfl (by kernel_rfl) (fun w => by kernel_rfl) ?_
            refine ls_off (j := 57) (t := 79) (b := true) (c := false) rfl rfl (by kernel_rfl) (by kernel_rfl) rfl rfl (by kernel_rfl) ?_
            refine ls_off (j := 57) (t := 79) (b := true) (c := false) rfl rfl (by kernel_rfl) (by kernel_rfl) rfl rfl (by kernel_rfl) ?_
            refine ls_off (j := 57) (t := 79) (b := true) (c := false) rfl rfl (by kernel_rfl) (by kernel_rfl) rfl rfl (by kernel_rfl) ?_
            refine ls_val (v := .bool false) rfl rfl (by kernel_rfl) (fun w => by kernel_rfl) ?_
            refine ls_val (v := .bool false) rfl rfl (by kernel_rfl) (fun w => by kernel_rfl) ?_
            refine ls_off (j := 62) (t := 84) (b := true) (c := false) rfl rfl (by kernel_rfl) (by kernel_rfl) rfl rfl (by kernel_rfl) ?_
            refine ls_off (j := 62) (t := 84) (b := true) (c := false) rfl rfl (by kernel_rfl) (by kernel_rfl) rfl rfl (by kernel_rfl) ?_
            refine ls_off (j := 62) (t := 84) (b := true) (c := false) rfl rfl (by kernel_rfl) (by kernel_rfl) rfl rfl (by kernel_rfl) ?_
            refine ls_off (j := 62) (t := 84) (b := true) (c := false) rfl rfl (by kernel_rfl) (by kernel_rfl) rfl rfl (by kernel_rfl) ?_
            refine ls_off (j := 62) (t := 84) (b := true) (c := false) rfl rfl (by kernel_rfl) (by kernel_rfl) rfl rfl (by kernel_rfl) ?_
            refine ls_val (v := .bool false) rfl rfl (by kernel_rfl) (fun w => by kernel_rfl) ?_
            refine ls_val (v := .bool false) rfl rfl (by kernel_rfl) (fun w => by kernel_rfl) ?_
            refine ls_end ?_
            refine qn_then ?_
            refine cs_ret' ?_
            obtain rfl := Option.some.inj H
            refine qr_res (rs := [_]) rfl (fun w' hs => ⟨[.bool false], (res_tmp (by kernel_rfl) (.nil)), (), rfl, hs.pick (ts := []) (cs := []) trivial (by decide)⟩)
        · replace H := ite_f q38 H
          obtain ⟨s11_33, hs11_33⟩ : ∃ z : Value → Sto → Prop, z = (fun v R => v = .bool false ∧ R = s0) := ⟨_, rfl⟩
          refine have_op (l := [_, _, _, _, _, _, _, _, _, _, _, _, _, _, _, _, _, _, _, _, _, _, _, _, _, _, _, _, _, _, _, _, _, _, _, _, _, _, _, _, _, _, _, _, _, _, _, _, _, _, _, _, _, _, _, _, _, _, _, _, _, _, _, _, _, _, _, _, _, _]) shadowboxlaw09_ExtentTells.tab9 5 33 (fun sp => sp 33 = s11_33 ∧ sp 25 = s11_25 ∧ sp 32 = spu) (fun sp on hA hon => ?_) (fun ops11_33 => ?_)
          · refine ⟨fun o ho vs Rs f' S' w hp hf hx hS hR hs => ?_⟩
            obtain rfl := Option.some.inj ho
            obtain ⟨hv25, hR25⟩ := (spe hA.2.1 hs11_25 (hp 25 (by kernel_rfl)))
            obtain ⟨hv32, hR32⟩ := (spe hA.2.2 rfl (hp 32 (by kernel_rfl)) : spu _ _)
            rw [hA.1, hs11_33]
            refine And.intro (fun a ha => (want_none rfl a ha).trans hon.symm) (And.intro (fun _ => ?_) (fun h => by rw [hon] at h; cases h))
            have hF := fr_next (fr_next (rfl) (((hf 25 47 (by kernel_rfl) rfl).trans hv25).trans (congrArg Value.bool (show (t32 == t35) = false from Bool.eq_false_iff.mpr q38)))) ((hf 32 54 (by kernel_rfl) rfl).trans hv32)
            refine ls_fr hF ?_
            refine ls_val (v := .bool false) rfl rfl (by kernel_rfl) (fun w => by kernel_rfl) ?_
            exact ls_fin s0 (.bool false) (congrArg (fun z => upd z 55 _) hF.symm) ⟨rfl, rfl⟩ (sub_nil _)
          obtain ⟨s11_34, hs11_34⟩ : ∃ z : Value → Sto → Prop, z = (fun v R => v = .bool false ∧ R = s0) := ⟨_, rfl⟩
          refine have_op (l := [_, _, _, _, _, _, _, _, _, _, _, _, _, _, _, _, _, _, _, _, _, _, _, _, _, _, _, _, _, _, _, _, _, _, _, _, _, _, _, _, _, _, _, _, _, _, _, _, _, _, _, _, _, _, _, _, _, _, _, _, _, _, _, _, _, _, _, _, _, _]) shadowboxlaw09_ExtentTells.tab9 5 34 (fun sp => sp 34 = s11_34 ∧ sp 33 = s11_33) (fun sp on hA hon => ?_) (fun ops11_34 => ?_)
          · refine ⟨fun o ho vs Rs f' S' w hp hf hx hS hR hs => ?_⟩
            obtain rfl := Option.some.inj ho
            obtain ⟨hv33, hR33⟩ := (spe hA.2 hs11_33 (hp 33 (by kernel_rfl)))
            rw [hA.1, hs11_34]
            refine And.intro (fun a ha => (want_none rfl a ha).trans hon.symm) (And.intro (fun _ => ?_) (fun h => by rw [hon] at h; cases h))
            have hF := fr_next (rfl) ((hf 33 55 (by kernel_rfl) rfl).trans hv33)
            refine ls_fr hF ?_
            refine ls_val (v := .bool false) rfl rfl (by kernel_rfl) (fun w => by kernel_rfl) ?_
            exact ls_fin s0 (.bool false) (congrArg (fun z => upd z 56 _) hF.symm) ⟨rfl, rfl⟩ (sub_nil _)
          obtain ⟨s11_40, hs11_40⟩ : ∃ z : Value → Sto → Prop, z = (fun v R => v = .bool false ∧ R = s0) := ⟨_, rfl⟩
          refine have_op (l := [_, _, _, _, _, _, _, _, _, _, _, _, _, _, _, _, _, _, _, _, _, _, _, _, _, _, _, _, _, _, _, _, _, _, _, _, _, _, _, _, _, _, _, _, _, _, _, _, _, _, _, _, _, _, _, _, _, _, _, _, _, _, _, _, _, _, _, _, _, _]) shadowboxlaw09_ExtentTells.tab9 5 40 (fun sp => sp 40 = s11_40 ∧ sp 34 = s11_34 ∧ sp 39 = spu) (fun sp on hA hon => ?_) (fun ops11_40 => ?_)
          · refine ⟨fun o ho vs Rs f' S' w hp hf hx hS hR hs => ?_⟩
            obtain rfl := Option.some.inj ho
            obtain ⟨hv34, hR34⟩ := (spe hA.2.1 hs11_34 (hp 34 (by kernel_rfl)))
            obtain ⟨hv39, hR39⟩ := (spe hA.2.2 rfl (hp 39 (by kernel_rfl)) : spu _ _)
            rw [hA.1, hs11_40]
            refine And.intro (fun a ha => (want_none rfl a ha).trans hon.symm) (And.intro (fun _ => ?_) (fun h => by rw [hon] at h; cases h))
            have hF := fr_next (fr_next (rfl) ((hf 34 56 (by kernel_rfl) rfl).trans hv34)) ((hf 39 61 (by kernel_rfl) rfl).trans hv39)
            refine ls_fr hF ?_
            refine ls_val (v := .bool false) rfl rfl (by kernel_rfl) (fun w => by kernel_rfl) ?_
            exact ls_fin s0 (.bool false) (congrArg (fun z => upd z 62 _) hF.symm) ⟨rfl, rfl⟩ (sub_nil _)
          obtain ⟨s11_41, hs11_41⟩ : ∃ z : Value → Sto → Prop, z = (fun v R => v = .bool false ∧ R = s0) := ⟨_, rfl⟩
          refine have_op (l := [_, _, _, _, _, _, _, _, _, _, _, _, _, _, _, _, _, _, _, _, _, _, _, _, _, _, _, _, _, _, _, _, _, _, _, _, _, _, _, _, _, _, _, _, _, _, _, _, _, _, _, _, _, _, _, _, _, _, _, _, _, _, _, _, _, _, _, _, _, _]) shadowboxlaw09_ExtentTells.tab9 5 41 (fun sp => sp 41 = s11_41 ∧ sp 40 = s11_40) (fun sp on hA hon => ?_) (fun ops11_41 => ?_)
          · refine ⟨fun o ho vs Rs f' S' w hp hf hx hS hR hs => ?_⟩
            obtain rfl := Option.some.inj ho
            obtain ⟨hv40, hR40⟩ := (spe hA.2 hs11_40 (hp 40 (by kernel_rfl)))
            rw [hA.1, hs11_41]
            refine And.intro (fun a ha => (want_none rfl a ha).trans hon.symm) (And.intro (fun _ => ?_) (fun h => by rw [hon] at h; cases h))
            have hF := fr_next (rfl) ((hf 40 62 (by kernel_rfl) rfl).trans hv40)
            refine ls_fr hF ?_
            refine ls_val (v := .bool false) rfl rfl (by kernel_rfl) (fun w => by kernel_rfl) ?_
            exact ls_fin s0 (.bool false) (congrArg (fun z => upd z 63 _) hF.symm) ⟨rfl, rfl⟩ (sub_nil _)
          obtain ⟨s11_47, hs11_47⟩ : ∃ z : Value → Sto → Prop, z = (fun v R => v = .bool false ∧ R = s0) := ⟨_, rfl⟩
          refine have_op (l := [_, _, _, _, _, _, _, _, _, _, _, _, _, _, _, _, _, _, _, _, _, _, _, _, _, _, _, _, _, _, _, _, _, _, _, _, _, _, _, _, _, _, _, _, _, _, _, _, _, _, _, _, _, _, _, _, _, _, _, _, _, _, _, _, _, _, _, _, _, _]) shadowboxlaw09_ExtentTells.tab9 5 47 (fun sp => sp 47 = s11_47 ∧ sp 41 = s11_41 ∧ sp 46 = spu) (fun sp on hA hon => ?_) (fun ops11_47 => ?_)
          · refine ⟨fun o ho vs Rs f' S' w hp hf hx hS hR hs => ?_⟩
            obtain rfl := Option.some.inj ho
            obtain ⟨hv41, hR41⟩ := (spe hA.2.1 hs11_41 (hp 41 (by kernel_rfl)))
            obtain ⟨hv46, hR46⟩ := (spe hA.2.2 rfl (hp 46 (by kernel_rfl)) : spu _ _)
            rw [hA.1, hs11_47]
            refine And.intro (fun a ha => (want_none rfl a ha).trans hon.symm) (And.intro (fun _ => ?_) (fun h => by rw [hon] at h; cases h))
            have hF := fr_next (fr_next (rfl) ((hf 41 63 (by kernel_rfl) rfl).trans hv41)) ((hf 46 68 (by kernel_rfl) rfl).trans hv46)
            refine ls_fr hF ?_
            refine ls_val (v := .bool false) rfl rfl (by kernel_rfl) (fun w => by kernel_rfl) ?_
            exact ls_fin s0 (.bool false) (congrArg (fun z => upd z 69 _) hF.symm) ⟨rfl, rfl⟩ (sub_nil _)
          obtain ⟨s11_48, hs11_48⟩ : ∃ z : Value → Sto → Prop, z = (fun v R => v = .bool false ∧ R = s0) := ⟨_, rfl⟩
          refine have_op (l := [_, _, _, _, _, _, _, _, _, _, _, _, _, _, _, _, _, _, _, _, _, _, _, _, _, _, _, _, _, _, _, _, _, _, _, _, _, _, _, _, _, _, _, _, _, _, _, _, _, _, _, _, _, _, _, _, _, _, _, _, _, _, _, _, _, _, _, _, _, _]) shadowboxlaw09_ExtentTells.tab9 5 48 (fun sp => sp 48 = s11_48 ∧ sp 47 = s11_47) (fun sp on hA hon => ?_) (fun ops11_48 => ?_)
          · refine ⟨fun o ho vs Rs f' S' w hp hf hx hS hR hs => ?_⟩
            obtain rfl := Option.some.inj ho
            obtain ⟨hv47, hR47⟩ := (spe hA.2 hs11_47 (hp 47 (by kernel_rfl)))
            rw [hA.1, hs11_48]
            refine And.intro (fun a ha => (want_none rfl a ha).trans hon.symm) (And.intro (fun _ => ?_) (fun h => by rw [hon] at h; cases h))
            have hF := fr_next (rfl) ((hf 47 69 (by kernel_rfl) rfl).trans hv47)
            refine ls_fr hF ?_
            refine ls_val (v := .bool false) rfl rfl (by kernel_rfl) (fun w => by kernel_rfl) ?_
            exact ls_fin s0 (.bool false) (congrArg (fun z => upd z 70 _) hF.symm) ⟨rfl, rfl⟩ (sub_nil _)
          refine cs_draw shadowboxlaw09_ExtentTells.tab9 54 5 (spl [s11_0, s11_1, s11_2, s11_3, s11_4, s11_5, s11_6, s11_7, s11_8, s11_9, s11_10, s11_11, s11_12, s11_13, s11_14, s11_15, s11_16, s11_17, s11_18, s11_19, s11_20, s11_21, s11_22, s11_23, s11_24, s11_25, spu, spu, spu, spu, spu, spu, spu, s11_33, s11_34, spu, spu, spu, spu, spu, s11_40, s11_41, spu, spu, spu, spu, spu, s11_47, s11_48, spu, spu, spu, spu, spu]) (onl [true, true, true, true, true, true, true, true, true, true, true, true, true, true, true, true, true, true, true, true, true, true, true, true, true, true, false, false, false, false, false, false, false, true, true, false, false, false, false, false, true, true, false, false, false, false, false, true, true, false, false, false, false, false]) (by kernel_rfl) (by kernel_rfl) (by kernel_rfl) (by kernel_rfl) (rs := [_, _, _, _, _, _, _, _, _, _, _, _, _, _, _, _]) rfl (by kernel_rfl) (by kernel_rfl) (all_snoc (all_snoc (all_snoc (all_snoc (all_snoc (all_snoc (all_snoc (all_snoc (all_snoc (all_snoc (all_snoc (all_snoc (all_snoc (all_snoc (all_snoc (all_snoc (all_snoc (all_snoc (all_snoc (all_snoc (all_snoc (all_snoc (all_snoc (all_snoc (all_snoc (all_snoc (all_snoc (all_snoc (all_snoc (all_snoc (all_snoc (all_snoc (all_snoc (all_snoc (all_snoc (all_snoc (all_snoc (all_snoc (all_snoc (all_snoc (all_snoc (all_snoc (all_snoc (all_snoc (all_snoc (all_snoc (all_snoc (all_snoc (all_snoc (all_snoc (all_snoc (all_snoc (all_snoc (all_snoc (all_nil) (ops11_0 _ _ rfl rfl)) (ops11_1 _ _ rfl rfl)) (ops11_2 _ _ ⟨rfl, rfl, rfl⟩ rfl)) (ops11_3 _ _ rfl rfl)) (ops11_4 _ _ rfl rfl)) (ops11_5 _ _ ⟨rfl, rfl, rfl⟩ rfl)) (ops11_6 _ _ ⟨rfl, rfl, rfl⟩ rfl)) (ops11_7 _ _ ⟨rfl, rfl⟩ rfl)) (ops11_8 _ _ ⟨rfl, rfl⟩ rfl)) (ops11_9 _ _ ⟨rfl, rfl⟩ rfl)) (ops11_10 _ _ ⟨rfl, rfl, rfl, rfl⟩ rfl)) (ops11_11 _ _ ⟨rfl, rfl⟩ rfl)) (ops11_12 _ _ ⟨rfl, rfl⟩ rfl)) (ops11_13 _ _ ⟨rfl, rfl, rfl, rfl⟩ rfl)) (ops11_14 _ _ ⟨rfl, rfl, rfl, rfl⟩ rfl)) (ops11_15 _ _ ⟨rfl, rfl, rfl⟩ rfl)) (ops11_16 _ _ ⟨rfl, rfl⟩ rfl)) (ops11_17 _ _ ⟨rfl, rfl⟩ rfl)) (ops11_18 _ _ ⟨rfl, rfl⟩ rfl)) (ops11_19 _ _ ⟨rfl, rfl, rfl, rfl⟩ rfl)) (ops11_20 _ _ ⟨rfl, rfl⟩ rfl)) (ops11_21 _ _ ⟨rfl, rfl⟩ rfl)) (ops11_22 _ _ ⟨rfl, rfl, rfl, rfl⟩ rfl)) (ops11_23 _ _ ⟨rfl, rfl, rfl, rfl⟩ rfl)) (ops11_24 _ _ ⟨rfl, rfl, rfl⟩ rfl)) (ops11_25 _ _ ⟨rfl, rfl⟩ rfl)) (op_offi 26 25 47 true rfl rfl (by kernel_rfl) (by kernel_rfl) rfl (fun v R h => by rw [hs11_25] at h; obtain ⟨h, _⟩ := h; exact h.trans (congrArg Value.bool (show (t32 == t35) = false from Bool.eq_false_iff.mpr q38))) rfl rfl)) (op_offi 27 25 47 true rfl rfl (by kernel_rfl) (by kernel_rfl) rfl (fun v R h => by rw [hs11_25] at h; obtain ⟨h, _⟩ := h; exact h.trans (congrArg Value.bool (show (t32 == t35) = false from Bool.eq_false_iff.mpr q38))) rfl rfl)) (op_offi 28 25 47 true rfl rfl (by kernel_rfl) (by kernel_rfl) rfl (fun v R h => by rw [hs11_25] at h; obtain ⟨h, _⟩ := h; exact h.trans (congrArg Value.bool (show (t32 == t35) = false from Bool.eq_false_iff.mpr q38))) rfl rfl)) (op_offi 29 25 47 true rfl rfl (by kernel_rfl) (by kernel_rfl) rfl (fun v R h => by rw [hs11_25] at h; obtain ⟨h, _⟩ := h; exact h.trans (congrArg Value.bool (show (t32 == t35) = false from Bool.eq_false_iff.mpr q38))) rfl rfl)) (op_offi 30 25 47 true rfl rfl (by kernel_rfl) (by kernel_rfl) rfl (fun v R h => by rw [hs11_25] at h; obtain ⟨h, _⟩ := h; exact h.trans (congrArg Value.bool (show (t32 == t35) = false from Bool.eq_false_iff.mpr q38))) rfl rfl)) (op_offi 31 25 47 true rfl rfl (by kernel_rfl) (by kernel_rfl) rfl (fun v R h => by rw [hs11_25] at h; obtain ⟨h, _⟩ := h; exact h.trans (congrArg Value.bool (show (t32 == t35) = false from Bool.eq_false_iff.mpr q38))) rfl rfl)) (op_offi 32 25 47 true rfl rfl (by kernel_rfl) (by kernel_rfl) rfl (fun v R h => by rw [hs11_25] at h; obtain ⟨h, _⟩ := h; exact h.trans (congrArg Value.bool (show (t32 == t35) = false from Bool.eq_false_iff.mpr q38))) rfl rfl)) (ops11_33 _ _ ⟨rfl, rfl, rfl⟩ rfl)) (ops11_34 _ _ ⟨rfl, rfl⟩ rfl)) (op_offi 35 34 56 true rfl rfl (by kernel_rfl) (by kernel_rfl) rfl (fun v R h => by rw [hs11_34] at h; obtain ⟨h, _⟩ := h; exact h) rfl rfl)) (op_offi 36 34 56 true rfl rfl (by kernel_rfl) (by kernel_rfl) rfl (fun v R h => by rw [hs11_34] at h; obtain ⟨h, _⟩ := h; exact h) rfl rfl)) (op_offi 37 34 56 true rfl rfl (by kernel_rfl) (by kernel_rfl) rfl (fun v R h => by rw [hs11_34] at h; obtain ⟨h, _⟩ := h; exact h) rfl rfl)) (op_offi 38 34 56 true rfl rfl (by kernel_rfl) (by kernel_rfl) rfl (fun v R h => by rw [hs11_34] at h; obtain ⟨h, _⟩ := h; exact h) rfl rfl)) (op_offi 39 34 56 true rfl rfl (by kernel_rfl) (by kernel_rfl) rfl (fun v R h => by rw [hs11_34] at h; obtain ⟨h, _⟩ := h; exact h) rfl rfl)) (ops11_40 _ _ ⟨rfl, rfl, rfl⟩ rfl)) (ops11_41 _ _ ⟨rfl, rfl⟩ rfl)) (op_offi 42 41 63 true rfl rfl (by kernel_rfl) (by kernel_rfl) rfl (fun v R h => by rw [hs11_41] at h; obtain ⟨h, _⟩ := h; exact h) rfl rfl)) (op_offi 43 41 63 true rfl rfl (by kernel_rfl) (by kernel_rfl) rfl (fun v R h => by rw [hs11_41] at h; obtain ⟨h, _⟩ := h; exact h) rfl rfl)) (op_offi 44 41 63 true rfl rfl (by kernel_rfl) (by kernel_rfl) rfl (fun v R h => by rw [hs11_41] at h; obtain ⟨h, _⟩ := h; exact h) rfl rfl)) (op_offi 45 41 63 true rfl rfl (by kernel_rfl) (by kernel_rfl) rfl (fun v R h => by rw [hs11_41] at h; obtain ⟨h, _⟩ := h; exact h) rfl rfl)) (op_offi 46 41 63 true rfl rfl (by kernel_rfl) (by kernel_rfl) rfl (fun v R h => by rw [hs11_41] at h; obtain ⟨h, _⟩ := h; exact h) rfl rfl)) (ops11_47 _ _ ⟨rfl, rfl, rfl⟩ rfl)) (ops11_48 _ _ ⟨rfl, rfl⟩ rfl)) (op_offi 49 48 70 true rfl rfl (by kernel_rfl) (by kernel_rfl) rfl (fun v R h => by rw [hs11_48] at h; obtain ⟨h, _⟩ := h; exact h) rfl rfl)) (op_offi 50 48 70 true rfl rfl (by kernel_rfl) (by kernel_rfl) rfl (fun v R h => by rw [hs11_48] at h; obtain ⟨h, _⟩ := h; exact h) rfl rfl)) (op_offi 51 48 70 true rfl rfl (by kernel_rfl) (by kernel_rfl) rfl (fun v R h => by rw [hs11_48] at h; obtain ⟨h, _⟩ := h; exact h) rfl rfl)) (op_offi 52 48 70 true rfl rfl (by kernel_rfl) (by kernel_rfl) rfl (fun v R h => by rw [hs11_48] at h; obtain ⟨h, _⟩ := h; exact h) rfl rfl)) (op_offi 53 48 70 true rfl rfl (by kernel_rfl) (by kernel_rfl) rfl (fun v R h => by rw [hs11_48] at h; obtain ⟨h, _⟩ := h; exact h) rfl rfl)) ?_
          intro vs Rs f' S' hp hf hx hS hR
          obtain ⟨x14, hv2, hR2⟩ := (spe rfl hs11_2 (hp 2 (by kernel_rfl)))
          have hT2_0 := (hR 2 0 (by kernel_rfl) (by decide)).trans (congrFun hR2 0)
          obtain ⟨x17, hv5, hR5⟩ := (spe rfl hs11_5 (hp 5 (by kernel_rfl)))
          have hT5_0 := (hR 5 0 (by kernel_rfl) (by decide)).trans (congrFun hR5 0)
          obtain ⟨x20, hv6, hR6⟩ := (spe rfl hs11_6 (hp 6 (by kernel_rfl)))
          obtain ⟨x24, hv10, hR10⟩ := (spe rfl hs11_10 (hp 10 (by kernel_rfl)))
          have hT10_0 := (hR 10 0 (by kernel_rfl) (by decide)).trans (congrFun hR10 0)
          obtain ⟨x27, hv13, hR13⟩ := (spe rfl hs11_13 (hp 13 (by kernel_rfl)))
          have hT13_0 := (hR 13 0 (by kernel_rfl) (by decide)).trans (congrFun hR13 0)
          obtain ⟨x30, hv14, hR14⟩ := (spe rfl hs11_14 (hp 14 (by kernel_rfl)))
          obtain ⟨x34, hv19, hR19⟩ := (spe rfl hs11_19 (hp 19 (by kernel_rfl)))
          obtain ⟨x37, hv22, hR22⟩ := (spe rfl hs11_22 (hp 22 (by kernel_rfl)))
          obtain ⟨hv48, hR48⟩ := (spe rfl hs11_48 (hp 48 (by kernel_rfl)))
          obtain ⟨hv51, hR51⟩ := (spe rfl rfl (hp 51 (by kernel_rfl)) : spu _ _)
          obtain ⟨hv52, hR52⟩ := (spe rfl rfl (hp 52 (by kernel_rfl)) : spu _ _)
          obtain ⟨hv53, hR53⟩ := (spe rfl rfl (hp 53 (by kernel_rfl)) : spu _ _)
          refine ls_fr (F := upd (upd f' 9 (.slice x9.1 t7.length x9.2)) 70 (.bool false)) (fr_next (fr_next (rfl) ((hx 9 (by kernel_rfl)).trans (by kernel_rfl : (_ : Value) = .slice x9.1 t7.length x9.2))) ((hf 48 70 (by kernel_rfl) rfl).trans hv48)) ?_
          refine ls_sub (sput s0 4 (some (Ck.sl T24 x9.1 x9.2 t7))) (sub_put ((hS 4 (by kernel_rfl)).trans (by exact rfl)) (sub_nil _)) ?_
          refine ls_off (j := 48) (t := 70) (b := true) (c := false) rfl rfl (by kernel_rfl) (by kernel_rfl) rfl rfl (by kernel_rfl) ?_
          refine ls_off (j := 48) (t := 70) (b := true) (c := false) rfl rfl (by kernel_rfl) (by kernel_rfl) rfl rfl (by kernel_rfl) ?_
          refine ls_val (v := .bool false) rfl rfl (by kernel_rfl) (fun w => by kernel_rfl) ?_
          refine ls_val (v := .bool false) rfl rfl (by kernel_rfl) (fun w => by kernel_rfl) ?_
          refine ls_off (j := 57) (t := 79) (b := true) (c := false) rfl rfl (by kernel_rfl) (by kernel_rfl) rfl rfl (by kernel_rfl) ?_
          refine ls_off (j := 57) (t := 79) (b := true) (c := false) rfl rfl (by kernel_rfl) (by kernel_rfl) rfl rfl (by kernel_rfl) ?_
          refine ls_off (j := 57) (t := 79) (b := true) (c := false) rfl rfl (by kernel_rfl) (by kernel_rfl) rfl rfl (by kernel_rfl) ?_
          refine ls_val (v := .bool false) rfl rfl (by kernel_rfl) (fun w => by kernel_rfl) ?_
          refine ls_val (v := .bool false) rfl rfl (by kernel_rfl) (fun w => by kernel_rfl) ?_
          refine ls_off (j := 62) (t := 84) (b := true) (c := false) rfl rfl (by kernel_rfl) (by kernel_rfl) rfl rfl (by kernel_rfl) ?_
          refine ls_off (j := 62) (t := 84) (b := true) (c := false) rfl rfl (by kernel_rfl) (by kernel_rfl) rfl rfl (by kernel_rfl) ?_
          refine ls_off (j := 62) (t := 84) (b := true) (c := false) rfl rfl (by kernel_rfl) (by kernel_rfl) rfl rfl (by kernel_rfl) ?_
          refine ls_off (j := 62) (t := 84) (b := true) (c := false) rfl rfl (by kernel_rfl) (by kernel_rfl) rfl rfl (by kernel_rfl) ?_
          refine ls_off (j := 62) (t := 84) (b := true) (c := false) rfl rfl (by kernel_rfl) (by kernel_rfl) rfl rfl (by kernel_rfl) ?_
          refine ls_val (v := .bool false) rfl rfl (by kernel_rfl) (fun w => by kernel_rfl) ?_
          refine ls_val (v := .bool false) rfl rfl (by kernel_rfl) (fun w => by kernel_rfl) ?_
          refine ls_end ?_
          refine qn_then ?_
          refine cs_ret' ?_
          obtain rfl := Option.some.inj H
          refine qr_res (rs := [_]) rfl (fun w' hs => ⟨[.bool false], (res_tmp (by kernel_rfl) (.nil)), (), rfl, hs.pick (ts := []) (cs := []) trivial (by decide)⟩)
      · replace H := ite_f q31 H
        obtain ⟨s11_24, hs11_24⟩ : ∃ z : Value → Sto → Prop, z = (fun v R => v = .bool false ∧ R = s0) := ⟨_, rfl⟩
        refine have_op (l := [_, _, _, _, _, _, _, _, _, _, _, _, _, _, _, _, _, _, _, _, _, _, _, _, _, _, _, _, _, _, _, _, _, _, _, _, _, _, _, _, _, _, _, _, _, _, _, _, _, _, _, _, _, _, _, _, _, _, _, _, _, _, _, _, _, _, _, _, _, _]) shadowboxlaw09_ExtentTells.tab9 5 24 (fun sp => sp 24 = s11_24 ∧ sp 16 = s11_16 ∧ sp 23 = spu) (fun sp on hA hon => ?_) (fun ops11_24 => ?_)
        · refine ⟨fun o ho vs Rs f' S' w hp hf hx hS hR hs => ?_⟩
          obtain rfl := Option.some.inj ho
          obtain ⟨hv16, hR16⟩ := (spe hA.2.1 hs11_16 (hp 16 (by kernel_rfl)))
          obtain ⟨hv23, hR23⟩ := (spe hA.2.2 rfl (hp 23 (by kernel_rfl)) : spu _ _)
          rw [hA.1, hs11_24]
          refine And.intro (fun a ha => (want_none rfl a ha).trans hon.symm) (And.intro (fun _ => ?_) (fun h => by rw [hon] at h; cases h))
          have hF := fr_next (fr_next (rfl) (((hf 16 38 (by kernel_rfl) rfl).trans hv16).trans (congrArg Value.bool (show t28 = false from Bool.eq_false_iff.mpr q31)))) ((hf 23 45 (by kernel_rfl) rfl).trans hv23)
          refine ls_fr hF ?_
          refine ls_val (v := .bool false) rfl rfl (by kernel_rfl) (fun w => by kernel_rfl) ?_
          exact ls_fin s0 (.bool false) (congrArg (fun z => upd z 46 _) hF.symm) ⟨rfl, rfl⟩ (sub_nil _)
        obtain ⟨s11_25, hs11_25⟩ : ∃ z : Value → Sto → Prop, z = (fun v R => v = .bool false ∧ R = s0) := ⟨_, rfl⟩
        refine have_op (l := [_, _, _, _, _, _, _, _, _, _, _, _, _, _, _, _, _, _, _, _, _, _, _, _, _, _, _, _, _, _, _, _, _, _, _, _, _, _, _, _, _, _, _, _, _, _, _, _, _, _, _, _, _, _, _, _, _, _, _, _, _, _, _, _, _, _, _, _, _, _]) shadowboxlaw09_ExtentTells.tab9 5 25 (fun sp => sp 25 = s11_25 ∧ sp 24 = s11_24) (fun sp on hA hon => ?_) (fun ops11_25 => ?_)
        · refine ⟨fun o ho vs Rs f' S' w hp hf hx hS hR hs => ?_⟩
          obtain rfl := Option.some.inj ho
          obtain ⟨hv24, hR24⟩ := (spe hA.2 hs11_24 (hp 24 (by kernel_rfl)))
          rw [hA.1, hs11_25]
          refine And.intro (fun a ha => (want_none rfl a ha).trans hon.symm) (And.intro (fun _ => ?_) (fun h => by rw [hon] at h; cases h))
          have hF := fr_next (rfl) ((hf 24 46 (by kernel_rfl) rfl).trans hv24)
          refine ls_fr hF ?_
          refine ls_val (v := .bool false) rfl rfl (by kernel_rfl) (fun w => by kernel_rfl) ?_
          exact ls_fin s0 (.bool false) (congrArg (fun z => upd z 47 _) hF.symm) ⟨rfl, rfl⟩ (sub_nil _)
        obtain ⟨s11_33, hs11_33⟩ : ∃ z : Value → Sto → Prop, z = (fun v R => v = .bool false ∧ R = s0) := ⟨_, rfl⟩
        refine have_op (l := [_, _, _, _, _, _, _, _, _, _, _, _, _, _, _, _, _, _, _, _, _, _, _, _, _, _, _, _, _, _, _, _, _, _, _, _, _, _, _, _, _, _, _, _, _, _, _, _, _, _, _, _, _, _, _, _, _, _, _, _, _, _, _, _, _, _, _, _, _, _]) shadowboxlaw09_ExtentTells.tab9 5 33 (fun sp => sp 33 = s11_33 ∧ sp 25 = s11_25 ∧ sp 32 = spu) (fun sp on hA hon => ?_) (fun ops11_33 => ?_)
        · refine ⟨fun o ho vs Rs f' S' w hp hf hx hS hR hs => ?_⟩
          obtain rfl := Option.some.inj ho
          obtain ⟨hv25, hR25⟩ := (spe hA.2.1 hs11_25 (hp 25 (by kernel_rfl)))
          obtain ⟨hv32, hR32⟩ := (spe hA.2.2 rfl (hp 32 (by kernel_rfl)) : spu _ _)
          rw [hA.1, hs11_33]
          refine And.intro (fun a ha => (want_none rfl a ha).trans hon.symm) (And.intro (fun _ => ?_) (fun h => by rw [hon] at h; cases h))
          have hF := fr_next (fr_next (rfl) ((hf 25 47 (by kernel_rfl) rfl).trans hv25)) ((hf 32 54 (by kernel_rfl) rfl).trans hv32)
          refine ls_fr hF ?_
          refine ls_val (v := .bool false) rfl rfl (by kernel_rfl) (fun w => by kernel_rfl) ?_
          exact ls_fin s0 (.bool false) (congrArg (fun z => upd z 55 _) hF.symm) ⟨rfl, rfl⟩ (sub_nil _)
        obtain ⟨s11_34, hs11_34⟩ : ∃ z : Value → Sto → Prop, z = (fun v R => v = .bool false ∧ R = s0) := ⟨_, rfl⟩
        refine have_op (l := [_, _, _, _, _, _, _, _, _, _, _, _, _, _, _, _, _, _, _, _, _, _, _, _, _, _, _, _, _, _, _, _, _, _, _, _, _, _, _, _, _, _, _, _, _, _, _, _, _, _, _, _, _, _, _, _, _, _, _, _, _, _, _, _, _, _, _, _, _, _]) shadowboxlaw09_ExtentTells.tab9 5 34 (fun sp => sp 34 = s11_34 ∧ sp 33 = s11_33) (fun sp on hA hon => ?_) (fun ops11_34 => ?_)
        · refine ⟨fun o ho vs Rs f' S' w hp hf hx hS hR hs => ?_⟩
          obtain rfl := Option.some.inj ho
          obtain ⟨hv33, hR33⟩ := (spe hA.2 hs11_33 (hp 33 (by kernel_rfl)))
          rw [hA.1, hs11_34]
          refine And.intro (fun a ha => (want_none rfl a ha).trans hon.symm) (And.intro (fun _ => ?_) (fun h => by rw [hon] at h; cases h))
          have hF := fr_next (rfl) ((hf 33 55 (by kernel_rfl) rfl).trans hv33)
          refine ls_fr hF ?_
          refine ls_val (v := .bool false) rfl rfl (by kernel_rfl) (fun w => by kernel_rfl) ?_
          exact ls_fin s0 (.bool false) (congrArg (fun z => upd z 56 _) hF.symm) ⟨rfl, rfl⟩ (sub_nil _)
        obtain ⟨s11_40, hs11_40⟩ : ∃ z : Value → Sto → Prop, z = (fun v R => v = .bool false ∧ R = s0) := ⟨_, rfl⟩
        refine have_op (l := [_, _, _, _, _, _, _, _, _, _, _, _, _, _, _, _, _, _, _, _, _, _, _, _, _, _, _, _, _, _, _, _, _, _, _, _, _, _, _, _, _, _, _, _, _, _, _, _, _, _, _, _, _, _, _, _, _, _, _, _, _, _, _, _, _, _, _, _, _, _]) shadowboxlaw09_ExtentTells.tab9 5 40 (fun sp => sp 40 = s11_40 ∧ sp 34 = s11_34 ∧ sp 39 = spu) (fun sp on hA hon => ?_) (fun ops11_40 => ?_)
        · refine ⟨fun o ho vs Rs f' S' w hp hf hx hS hR hs => ?_⟩
          obtain rfl := Option.some.inj ho
          obtain ⟨hv34, hR34⟩ := (spe hA.2.1 hs11_34 (hp 34 (by kernel_rfl)))
          obtain ⟨hv39, hR39⟩ := (spe hA.2.2 rfl (hp 39 (by kernel_rfl)) : spu _ _)
          rw [hA.1, hs11_40]
          refine And.intro (fun a ha => (want_none rfl a ha).trans hon.symm) (And.intro (fun _ => ?_) (fun h => by rw [hon] at h; cases h))
          have hF := fr_next (fr_next (rfl) ((hf 34 56 (by kernel_rfl) rfl).trans hv34)) ((hf 39 61 (by kernel_rfl) rfl).trans hv39)
          refine ls_fr hF ?_
          refine ls_val (v := .bool false) rfl rfl (by kernel_rfl) (fun w => by kernel_rfl) ?_
          exact ls_fin s0 (.bool false) (congrArg (fun z => upd z 62 _) hF.symm) ⟨rfl, rfl⟩ (sub_nil _)
        obtain ⟨s11_41, hs11_41⟩ : ∃ z : Value → Sto → Prop, z = (fun v R => v = .bool false ∧ R = s0) := ⟨_, rfl⟩
        refine have_op (l := [_, _, _, _, _, _, _, _, _, _, _, _, _, _, _, _, _, _, _, _, _, _, _, _, _, _, _, _, _, _, _, _, _, _, _, _, _, _, _, _, _, _, _, _, _, _, _, _, _, _, _, _, _, _, _, _, _, _, _, _, _, _, _, _, _, _, _, _, _, _]) shadowboxlaw09_ExtentTells.tab9 5 41 (fun sp => sp 41 = s11_41 ∧ sp 40 = s11_40) (fun sp on hA hon => ?_) (fun ops11_41 => ?_)
        · refine ⟨fun o ho vs Rs f' S' w hp hf hx hS hR hs => ?_⟩
          obtain rfl := Option.some.inj ho
          obtain ⟨hv40, hR40⟩ := (spe hA.2 hs11_40 (hp 40 (by kernel_rfl)))
          rw [hA.1, hs11_41]
          refine And.intro (fun a ha => (want_none rfl a ha).trans hon.symm) (And.intro (fun _ => ?_) (fun h => by rw [hon] at h; cases h))
          have hF := fr_next (rfl) ((hf 40 62 (by kernel_rfl) rfl).trans hv40)
          refine ls_fr hF ?_
          refine ls_val (v := .bool false) rfl rfl (by kernel_rfl) (fun w => by kernel_rfl) ?_
          exact ls_fin s0 (.bool false) (congrArg (fun z => upd z 63 _) hF.symm) ⟨rfl, rfl⟩ (sub_nil _)
        obtain ⟨s11_47, hs11_47⟩ : ∃ z : Value → Sto → Prop, z = (fun v R => v = .bool false ∧ R = s0) := ⟨_, rfl⟩
        refine have_op (l := [_, _, _, _, _, _, _, _, _, _, _, _, _, _, _, _, _, _, _, _, _, _, _, _, _, _, _, _, _, _, _, _, _, _, _, _, _, _, _, _, _, _, _, _, _, _, _, _, _, _, _, _, _, _, _, _, _, _, _, _, _, _, _, _, _, _, _, _, _, _]) shadowboxlaw09_ExtentTells.tab9 5 47 (fun sp => sp 47 = s11_47 ∧ sp 41 = s11_41 ∧ sp 46 = spu) (fun sp on hA hon => ?_) (fun ops11_47 => ?_)
        · refine ⟨fun o ho vs Rs f' S' w hp hf hx hS hR hs => ?_⟩
          obtain rfl := Option.some.inj ho
          obtain ⟨hv41, hR41⟩ := (spe hA.2.1 hs11_41 (hp 41 (by kernel_rfl)))
          obtain ⟨hv46, hR46⟩ := (spe hA.2.2 rfl (hp 46 (by kernel_rfl)) : spu _ _)
          rw [hA.1, hs11_47]
          refine And.intro (fun a ha => (want_none rfl a ha).trans hon.symm) (And.intro (fun _ => ?_) (fun h => by rw [hon] at h; cases h))
          have hF := fr_next (fr_next (rfl) ((hf 41 63 (by kernel_rfl) rfl).trans hv41)) ((hf 46 68 (by kernel_rfl) rfl).trans hv46)
          refine ls_fr hF ?_
          refine ls_val (v := .bool false) rfl rfl (by kernel_rfl) (fun w => by kernel_rfl) ?_
          exact ls_fin s0 (.bool false) (congrArg (fun z => upd z 69 _) hF.symm) ⟨rfl, rfl⟩ (sub_nil _)
        obtain ⟨s11_48, hs11_48⟩ : ∃ z : Value → Sto → Prop, z = (fun v R => v = .bool false ∧ R = s0) := ⟨_, rfl⟩
        refine have_op (l := [_, _, _, _, _, _, _, _, _, _, _, _, _, _, _, _, _, _, _, _, _, _, _, _, _, _, _, _, _, _, _, _, _, _, _, _, _, _, _, _, _, _, _, _, _, _, _, _, _, _, _, _, _, _, _, _, _, _, _, _, _, _, _, _, _, _, _, _, _, _]) shadowboxlaw09_ExtentTells.tab9 5 48 (fun sp => sp 48 = s11_48 ∧ sp 47 = s11_47) (fun sp on hA hon => ?_) (fun ops11_48 => ?_)
        · refine ⟨fun o ho vs Rs f' S' w hp hf hx hS hR hs => ?_⟩
          obtain rfl := Option.some.inj ho
          obtain ⟨hv47, hR47⟩ := (spe hA.2 hs11_47 (hp 47 (by kernel_rfl)))
          rw [hA.1, hs11_48]
          refine And.intro (fun a ha => (want_none rfl a ha).trans hon.symm) (And.intro (fun _ => ?_) (fun h => by rw [hon] at h; cases h))
          have hF := fr_next (rfl) ((hf 47 69 (by kernel_rfl) rfl).trans hv47)
          refine ls_fr hF ?_
          refine ls_val (v := .bool false) rfl rfl (by kernel_rfl) (fun w => by kernel_rfl) ?_
          exact ls_fin s0 (.bool false) (congrArg (fun z => upd z 70 _) hF.symm) ⟨rfl, rfl⟩ (sub_nil _)
        refine cs_draw shadowboxlaw09_ExtentTells.tab9 54 5 (spl [s11_0, s11_1, s11_2, s11_3, s11_4, s11_5, s11_6, s11_7, s11_8, s11_9, s11_10, s11_11, s11_12, s11_13, s11_14, s11_15, s11_16, spu, spu, spu, spu, spu, spu, spu, s11_24, s11_25, spu, spu, spu, spu, spu, spu, spu, s11_33, s11_34, spu, spu, spu, spu, spu, s11_40, s11_41, spu, spu, spu, spu, spu, s11_47, s11_48, spu, spu, spu, spu, spu]) (onl [true, true, true, true, true, true, true, true, true, true, true, true, true, true, true, true, true, false, false, false, false, false, false, false, true, true, false, false, false, false, false, false, false, true, true, false, false, false, false, false, true, true, false, false, false, false, false, true, true, false, false, false, false, false]) (by kernel_rfl) (by kernel_rfl) (by kernel_rfl) (by kernel_rfl) (rs := [_, _, _, _, _, _, _, _, _, _, _, _, _, _, _, _]) rfl (by kernel_rfl) (by kernel_rfl) (all_snoc (all_snoc (all_snoc (all_snoc (all_snoc (all_snoc (all_snoc (all_snoc (all_snoc (all_snoc (all_snoc (all_snoc (all_snoc (all_snoc (all_snoc (all_snoc (all_snoc (all_snoc (all_snoc (all_snoc (all_snoc (all_snoc (all_snoc (all_snoc (all_snoc (all_snoc (all_snoc (all_snoc (all_snoc (all_snoc (all_snoc (all_snoc (all_snoc (all_snoc (all_snoc (all_snoc (all_snoc (all_snoc (all_snoc (all_snoc (all_snoc (all_snoc (all_snoc (all_snoc (all_snoc (all_snoc (all_snoc (all_snoc (all_snoc (all_snoc (all_snoc (all_snoc (all_snoc (all_snoc (all_nil) (ops11_0 _ _ rfl rfl)) (ops11_1 _ _ rfl rfl)) (ops11_2 _ _ ⟨rfl, rfl, rfl⟩ rfl)) (ops11_3 _ _ rfl rfl)) (ops11_4 _ _ rfl rfl)) (ops11_5 _ _ ⟨rfl, rfl, rfl⟩ rfl)) (ops11_6 _ _ ⟨rfl, rfl, rfl⟩ rfl)) (ops11_7 _ _ ⟨rfl, rfl⟩ rfl)) (ops11_8 _ _ ⟨rfl, rfl⟩ rfl)) (ops11_9 _ _ ⟨rfl, rfl⟩ rfl)) (ops11_10 _ _ ⟨rfl, rfl, rfl, rfl⟩ rfl)) (ops11_11 _ _ ⟨rfl, rfl⟩ rfl)) (ops11_12 _ _ ⟨rfl, rfl⟩ rfl)) (ops11_13 _ _ ⟨rfl, rfl, rfl, rfl⟩ rfl)) (ops11_14 _ _ ⟨rfl, rfl, rfl, rfl⟩ rfl)) (ops11_15 _ _ ⟨rfl, rfl, rfl⟩ rfl)) (ops11_16 _ _ ⟨rfl, rfl⟩ rfl)) (op_offi 17 16 38 true rfl rfl (by kernel_rfl) (by kernel_rfl) rfl (fun v R h => by rw [hs11_16] at h; obtain ⟨h, _⟩ := h; exact h.trans (congrArg Value.bool (show t28 = false from Bool.eq_false_iff.mpr q31))) rfl rfl)) (op_offi 18 16 38 true rfl rfl (by kernel_rfl) (by kernel_rfl) rfl (fun v R h => by rw [hs11_16] at h; obtain ⟨h, _⟩ := h; exact h.trans (congrArg Value.bool (show t28 = false from Bool.eq_false_iff.mpr q31))) rfl rfl)) (op_offi 19 16 38 true rfl rfl (by kernel_rfl) (by kernel_rfl) rfl (fun v R h => by rw [hs11_16] at h; obtain ⟨h, _⟩ := h; exact h.trans (congrArg Value.bool (show t28 = false from Bool.eq_false_iff.mpr q31))) rfl rfl)) (op_offi 20 16 38 true rfl rfl (by kernel_rfl) (by kernel_rfl) rfl (fun v R h => by rw [hs11_16] at h; obtain ⟨h, _⟩ := h; exact h.trans (congrArg Value.bool (show t28 = false from Bool.eq_false_iff.mpr q31))) rfl rfl)) (op_offi 21 16 38 true rfl rfl (by kernel_rfl) (by kernel_rfl) rfl (fun v R h => by rw [hs11_16] at h; obtain ⟨h, _⟩ := h; exact h.trans (congrArg Value.bool (show t28 = false from Bool.eq_false_iff.mpr q31))) rfl rfl)) (op_offi 22 16 38 true rfl rfl (by kernel_rfl) (by kernel_rfl) rfl (fun v R h => by rw [hs11_16] at h; obtain ⟨h, _⟩ := h; exact h.trans (congrArg Value.bool (show t28 = false from Bool.eq_false_iff.mpr q31))) rfl rfl)) (op_offi 23 16 38 true rfl rfl (by kernel_rfl) (by kernel_rfl) rfl (fun v R h => by rw [hs11_16] at h; obtain ⟨h, _⟩ := h; exact h.trans (congrArg Value.bool (show t28 = false from Bool.eq_false_iff.mpr q31))) rfl rfl)) (ops11_24 _ _ ⟨rfl, rfl, rfl⟩ rfl)) (ops11_25 _ _ ⟨rfl, rfl⟩ rfl)) (op_offi 26 25 47 true rfl rfl (by kernel_rfl) (by kernel_rfl) rfl (fun v R h => by rw [hs11_25] at h; obtain ⟨h, _⟩ := h; exact h) rfl rfl)) (op_offi 27 25 47 true rfl rfl (by kernel_rfl) (by kernel_rfl) rfl (fun v R h => by rw [hs11_25] at h; obtain ⟨h, _⟩ := h; exact h) rfl rfl)) (op_offi 28 25 47 true rfl rfl (by kernel_rfl) (by kernel_rfl) rfl (fun v R h => by rw [hs11_25] at h; obtain ⟨h, _⟩ := h; exact h) rfl rfl)) (op_offi 29 25 47 true rfl rfl (by kernel_rfl) (by kernel_rfl) rfl (fun v R h => by rw [hs11_25] at h; obtain ⟨h, _⟩ := h; exact h) rfl rfl)) (op_offi 30 25 47 true rfl rfl (by kernel_rfl) (by kernel_rfl) rfl (fun v R h => by rw [hs11_25] at h; obtain ⟨h, _⟩ := h; exact h) rfl rfl)) (op_offi 31 25 47 true rfl rfl (by kernel_rfl) (by kernel_rfl) rfl (fun v R h => by rw [hs11_25] at h; obtain ⟨h, _⟩ := h; exact h) rfl rfl)) (op_offi 32 25 47 true rfl rfl (by kernel_rfl) (by kernel_rfl) rfl (fun v R h => by rw [hs11_25] at h; obtain ⟨h, _⟩ := h; exact h) rfl rfl)) (ops11_33 _ _ ⟨rfl, rfl, rfl⟩ rfl)) (ops11_34 _ _ ⟨rfl, rfl⟩ rfl)) (op_offi 35 34 56 true rfl rfl (by kernel_rfl) (by kernel_rfl) rfl (fun v R h => by rw [hs11_34] at h; obtain ⟨h, _⟩ := h; exact h) rfl rfl)) (op_offi 36 34 56 true rfl rfl (by kernel_rfl) (by kernel_rfl) rfl (fun v R h => by rw [hs11_34] at h; obtain ⟨h, _⟩ := h; exact h) rfl rfl)) (op_offi 37 34 56 true rfl rfl (by kernel_rfl) (by kernel_rfl) rfl (fun v R h => by rw [hs11_34] at h; obtain ⟨h, _⟩ := h; exact h) rfl rfl)) (op_offi 38 34 56 true rfl rfl (by kernel_rfl) (by kernel_rfl) rfl (fun v R h => by rw [hs11_34] at h; obtain ⟨h, _⟩ := h; exact h) rfl rfl)) (op_offi 39 34 56 true rfl rfl (by kernel_rfl) (by kernel_rfl) rfl (fun v R h => by rw [hs11_34] at h; obtain ⟨h, _⟩ := h; exact h) rfl rfl)) (ops11_40 _ _ ⟨rfl, rfl, rfl⟩ rfl)) (ops11_41 _ _ ⟨rfl, rfl⟩ rfl)) (op_offi 42 41 63 true rfl rfl (by kernel_rfl) (by kernel_rfl) rfl (fun v R h => by rw [hs11_41] at h; obtain ⟨h, _⟩ := h; exact h) rfl rfl)) (op_offi 43 41 63 true rfl rfl (by kernel_rfl) (by kernel_rfl) rfl (fun v R h => by rw [hs11_41] at h; obtain ⟨h, _⟩ := h; exact h) rfl rfl)) (op_offi 44 41 63 true rfl rfl (by kernel_rfl) (by kernel_rfl) rfl (fun v R h => by rw [hs11_41] at h; obtain ⟨h, _⟩ := h; exact h) rfl rfl)) (op_offi 45 41 63 true rfl rfl (by kernel_rfl) (by kernel_rfl) rfl (fun v R h => by rw [hs11_41] at h; obtain ⟨h, _⟩ := h; exact h) rfl rfl)) (op_offi 46 41 63 true rfl rfl (by kernel_rfl) (by kernel_rfl) rfl (fun v R h => by rw [hs11_41] at h; obtain ⟨h, _⟩ := h; exact h) rfl rfl)) (ops11_47 _ _ ⟨rfl, rfl, rfl⟩ rfl)) (ops11_48 _ _ ⟨rfl, rfl⟩ rfl)) (op_offi 49 48 70 true rfl rfl (by kernel_rfl) (by kernel_rfl) rfl (fun v R h => by rw [hs11_48] at h; obtain ⟨h, _⟩ := h; exact h) rfl rfl)) (op_offi 50 48 70 true rfl rfl (by kernel_rfl) (by kernel_rfl) rfl (fun v R h => by rw [hs11_48] at h; obtain ⟨h, _⟩ := h; exact h) rfl rfl)) (op_offi 51 48 70 true rfl rfl (by kernel_rfl) (by kernel_rfl) rfl (fun v R h => by rw [hs11_48] at h; obtain ⟨h, _⟩ := h; exact h) rfl rfl)) (op_offi 52 48 70 true rfl rfl (by kernel_rfl) (by kernel_rfl) rfl (fun v R h => by rw [hs11_48] at h; obtain ⟨h, _⟩ := h; exact h) rfl rfl)) (op_offi 53 48 70 true rfl rfl (by kernel_rfl) (by kernel_rfl) rfl (fun v R h => by rw [hs11_48] at h; obtain ⟨h, _⟩ := h; exact h) rfl rfl)) ?_
        intro vs Rs f' S' hp hf hx hS hR
        obtain ⟨x14, hv2, hR2⟩ := (spe rfl hs11_2 (hp 2 (by kernel_rfl)))
        have hT2_0 := (hR 2 0 (by kernel_rfl) (by decide)).trans (congrFun hR2 0)
        obtain ⟨x17, hv5, hR5⟩ := (spe rfl hs11_5 (hp 5 (by kernel_rfl)))
        have hT5_0 := (hR 5 0 (by kernel_rfl) (by decide)).trans (congrFun hR5 0)
        obtain ⟨x20, hv6, hR6⟩ := (spe rfl hs11_6 (hp 6 (by kernel_rfl)))
        obtain ⟨x24, hv10, hR10⟩ := (spe rfl hs11_10 (hp 10 (by kernel_rfl)))
        have hT10_0 := (hR 10 0 (by kernel_rfl) (by decide)).trans (congrFun hR10 0)
        obtain ⟨x27, hv13, hR13⟩ := (spe rfl hs11_13 (hp 13 (by kernel_rfl)))
        have hT13_0 := (hR 13 0 (by kernel_rfl) (by decide)).trans (congrFun hR13 0)
        obtain ⟨x30, hv14, hR14⟩ := (spe rfl hs11_14 (hp 14 (by kernel_rfl)))
        obtain ⟨hv48, hR48⟩ := (spe rfl hs11_48 (hp 48 (by kernel_rfl)))
        obtain ⟨hv51, hR51⟩ := (spe rfl rfl (hp 51 (by kernel_rfl)) : spu _ _)
        obtain ⟨hv52, hR52⟩ := (spe rfl rfl (hp 52 (by kernel_rfl)) : spu _ _)
        obtain ⟨hv53, hR53⟩ := (spe rfl rfl (hp 53 (by kernel_rfl)) : spu _ _)
        refine ls_fr (F := upd (upd f' 9 (.slice x9.1 t7.length x9.2)) 70 (.bool false)) (fr_next (fr_next (rfl) ((hx 9 (by kernel_rfl)).trans (by kernel_rfl : (_ : Value) = .slice x9.1 t7.length x9.2))) ((hf 48 70 (by kernel_rfl) rfl).trans hv48)) ?_
        refine ls_sub (sput s0 4 (some (Ck.sl T24 x9.1 x9.2 t7))) (sub_put ((hS 4 (by kernel_rfl)).trans (by exact rfl)) (sub_nil _)) ?_
        refine ls_off (j := 48) (t := 70) (b := true) (c := false) rfl rfl (by kernel_rfl) (by kernel_rfl) rfl rfl (by kernel_rfl) ?_
        refine ls_off (j := 48) (t := 70) (b := true) (c := false) rfl rfl (by kernel_rfl) (by kernel_rfl) rfl rfl (by kernel_rfl) ?_
        refine ls_val (v := .bool false) rfl rfl (by kernel_rfl) (fun w => by kernel_rfl) ?_
        refine ls_val (v := .bool false) rfl rfl (by kernel_rfl) (fun w => by kernel_rfl) ?_
        refine ls_off (j := 57) (t := 79) (b := true) (c := false) rfl rfl (by kernel_rfl) (by kernel_rfl) rfl rfl (by kernel_rfl) ?_
        refine ls_off (j := 57) (t := 79) (b := true) (c := false) rfl rfl (by kernel_rfl) (by kernel_rfl) rfl rfl (by kernel_rfl) ?_
        refine ls_off (j := 57) (t := 79) (b := true) (c := false) rfl rfl (by kernel_rfl) (by kernel_rfl) rfl rfl (by kernel_rfl) ?_
        refine ls_val (v := .bool false) rfl rfl (by kernel_rfl) (fun w => by kernel_rfl) ?_
        refine ls_val (v := .bool false) rfl rfl (by kernel_rfl) (fun w => by kernel_rfl) ?_
        refine ls_off (j := 62) (t := 84) (b := true) (c := false) rfl rfl (by kernel_rfl) (by kernel_rfl) rfl rfl (by kernel_rfl) ?_
        refine ls_off (j := 62) (t := 84) (b := true) (c := false) rfl rfl (by kernel_rfl) (by kernel_rfl) rfl rfl (by kernel_rfl) ?_
        refine ls_off (j := 62) (t := 84) (b := true) (c := false) rfl rfl (by kernel_rfl) (by kernel_rfl) rfl rfl (by kernel_rfl) ?_
        refine ls_off (j := 62) (t := 84) (b := true) (c := false) rfl rfl (by kernel_rfl) (by kernel_rfl) rfl rfl (by kernel_rfl) ?_
        refine ls_off (j := 62) (t := 84) (b := true) (c := false) rfl rfl (by kernel_rfl) (by kernel_rfl) rfl rfl (by kernel_rfl) ?_
        refine ls_val (v := .bool false) rfl rfl (by kernel_rfl) (fun w => by kernel_rfl) ?_
        refine ls_val (v := .bool false) rfl rfl (by kernel_rfl) (fun w => by kernel_rfl) ?_
        refine ls_end ?_
        refine qn_then ?_
        refine cs_ret' ?_
        obtain rfl := Option.some.inj H
        refine qr_res (rs := [_]) rfl (fun w' hs => ⟨[.bool false], (res_tmp (by kernel_rfl) (.nil)), (), rfl, hs.pick (ts := []) (cs := []) trivial (by decide)⟩)
    · replace H := ite_f q21 H
      obtain ⟨s11_15, hs11_15⟩ : ∃ z : Value → Sto → Prop, z = (fun v R => v = .bool false ∧ R = s0) := ⟨_, rfl⟩
      refine have_op (l := [_, _, _, _, _, _, _, _, _, _, _, _, _, _, _, _, _, _, _, _, _, _, _, _, _, _, _, _, _, _, _, _, _, _, _, _, _, _, _, _, _, _, _, _, _, _, _, _, _, _, _, _, _, _, _, _, _, _, _, _, _, _, _, _, _, _, _, _, _, _]) shadowboxlaw09_ExtentTells.tab9 5 15 (fun sp => sp 15 = s11_15 ∧ sp 7 = s11_7 ∧ sp 14 = spu) (fun sp on hA hon => ?_) (fun ops11_15 => ?_)
      · refine ⟨fun o ho vs Rs f' S' w hp hf hx hS hR hs => ?_⟩
        obtain rfl := Option.some.inj ho
        obtain ⟨hv7, hR7⟩ := (spe hA.2.1 hs11_7 (hp 7 (by kernel_rfl)))
        obtain ⟨hv14, hR14⟩ := (spe hA.2.2 rfl (hp 14 (by kernel_rfl)) : spu _ _)
        rw [hA.1, hs11_15]
        refine And.intro (fun a ha => (want_none rfl a ha).trans hon.symm) (And.intro (fun _ => ?_) (fun h => by rw [hon] at h; cases h))
        have hF := fr_next (fr_next (rfl) (((hf 7 29 (by kernel_rfl) rfl).trans hv7).trans (congrArg Value.bool (show t18 = false from Bool.eq_false_iff.mpr q21)))) ((hf 14 36 (by kernel_rfl) rfl).trans hv14)
        refine ls_fr hF ?_
        refine ls_val (v := .bool false) rfl rfl (by kernel_rfl) (fun w => by kernel_rfl) ?_
        exact ls_fin s0 (.bool false) (congrArg (fun z => upd z 37 _) hF.symm) ⟨rfl, rfl⟩ (sub_nil _)
      obtain ⟨s11_16, hs11_16⟩ : ∃ z : Value → Sto → Prop, z = (fun v R => v = .bool false ∧ R = s0) := ⟨_, rfl⟩
      refine have_op (l := [_, _, _, _, _, _, _, _, _, _, _, _, _, _, _, _, _, _, _, _, _, _, _, _, _, _, _, _, _, _, _, _, _, _, _, _, _, _, _, _, _, _, _, _, _, _, _, _, _, _, _, _, _, _, _, _, _, _, _, _, _, _, _, _, _, _, _, _, _, _]) shadowboxlaw09_ExtentTells.tab9 5 16 (fun sp => sp 16 = s11_16 ∧ sp 15 = s11_15) (fun sp on hA hon => ?_) (fun ops11_16 => ?_)
      · refine ⟨fun o ho vs Rs f' S' w hp hf hx hS hR hs => ?_⟩
        obtain rfl := Option.some.inj ho
        obtain ⟨hv15, hR15⟩ := (spe hA.2 hs11_15 (hp 15 (by kernel_rfl)))
        rw [hA.1, hs11_16]
        refine And.intro (fun a ha => (want_none rfl a ha).trans hon.symm) (And.intro (fun _ => ?_) (fun h => by rw [hon] at h; cases h))
        have hF := fr_next (rfl) ((hf 15 37 (by kernel_rfl) rfl).trans hv15)
        refine ls_fr hF ?_
        refine ls_val (v := .bool false) rfl rfl (by kernel_rfl) (fun w => by kernel_rfl) ?_
        exact ls_fin s0 (.bool false) (congrArg (fun z => upd z 38 _) hF.symm) ⟨rfl, rfl⟩ (sub_nil _)
      obtain ⟨s11_24, hs11_24⟩ : ∃ z : Value → Sto → Prop, z = (fun v R => v = .bool false ∧ R = s0) := ⟨_, rfl⟩
      refine have_op (l := [_, _, _, _, _, _, _, _, _, _, _, _, _, _, _, _, _, _, _, _, _, _, _, _, _, _, _, _, _, _, _, _, _, _, _, _, _, _, _, _, _, _, _, _, _, _, _, _, _, _, _, _, _, _, _, _, _, _, _, _, _, _, _, _, _, _, _, _, _, _]) shadowboxlaw09_ExtentTells.tab9 5 24 (fun sp => sp 24 = s11_24 ∧ sp 16 = s11_16 ∧ sp 23 = spu) (fun sp on hA hon => ?_) (fun ops11_24 => ?_)
      · refine ⟨fun o ho vs Rs f' S' w hp hf hx hS hR hs => ?_⟩
        obtain rfl := Option.some.inj ho
        obtain ⟨hv16, hR16⟩ := (spe hA.2.1 hs11_16 (hp 16 (by kernel_rfl)))
        obtain ⟨hv23, hR23⟩ := (spe hA.2.2 rfl (hp 23 (by kernel_rfl)) : spu _ _)
        rw [hA.1, hs11_24]
        refine And.intro (fun a ha => (want_none rfl a ha).trans hon.symm) (And.intro (fun _ => ?_) (fun h => by rw [hon] at h; cases h))
        have hF := fr_next (fr_next (rfl) ((hf 16 38 (by kernel_rfl) rfl).trans hv16)) ((hf 23 45 (by kernel_rfl) rfl).trans hv23)
        refine ls_fr hF ?_
        refine ls_val (v := .bool false) rfl rfl (by kernel_rfl) (fun w => by kernel_rfl) ?_
        exact ls_fin s0 (.bool false) (congrArg (fun z => upd z 46 _) hF.symm) ⟨rfl, rfl⟩ (sub_nil _)
      obtain ⟨s11_25, hs11_25⟩ : ∃ z : Value → Sto → Prop, z = (fun v R => v = .bool false ∧ R = s0) := ⟨_, rfl⟩
      refine have_op (l := [_, _, _, _, _, _, _, _, _, _, _, _, _, _, _, _, _, _, _, _, _, _, _, _, _, _, _, _, _, _, _, _, _, _, _, _, _, _, _, _, _, _, _, _, _, _, _, _, _, _, _, _, _, _, _, _, _, _, _, _, _, _, _, _, _, _, _, _, _, _]) shadowboxlaw09_ExtentTells.tab9 5 25 (fun sp => sp 25 = s11_25 ∧ sp 24 = s11_24) (fun sp on hA hon => ?_) (fun ops11_25 => ?_)
      · refine ⟨fun o ho vs Rs f' S' w hp hf hx hS hR hs => ?_⟩
        obtain rfl := Option.some.inj ho
        obtain ⟨hv24, hR24⟩ := (spe hA.2 hs11_24 (hp 24 (by kernel_rfl)))
        rw [hA.1, hs11_25]
        refine And.intro (fun a ha => (want_none rfl a ha).trans hon.symm) (And.intro (fun _ => ?_) (fun h => by rw [hon] at h; cases h))
        have hF := fr_next (rfl) ((hf 24 46 (by kernel_rfl) rfl).trans hv24)
        refine ls_fr hF ?_
        refine ls_val (v := .bool false) rfl rfl (by kernel_rfl) (fun w => by kernel_rfl) ?_
        exact ls_fin s0 (.bool false) (congrArg (fun z => upd z 47 _) hF.symm) ⟨rfl, rfl⟩ (sub_nil _)
      obtain ⟨s11_33, hs11_33⟩ : ∃ z : Value → Sto → Prop, z = (fun v R => v = .bool false ∧ R = s0) := ⟨_, rfl⟩
      refine have_op (l := [_, _, _, _, _, _, _, _, _, _, _, _, _, _, _, _, _, _, _, _, _, _, _, _, _, _, _, _, _, _, _, _, _, _, _, _, _, _, _, _, _, _, _, _, _, _, _, _, _, _, _, _, _, _, _, _, _, _, _, _, _, _, _, _, _, _, _, _, _, _]) shadowboxlaw09_ExtentTells.tab9 5 33 (fun sp => sp 33 = s11_33 ∧ sp 25 = s11_25 ∧ sp 32 = spu) (fun sp on hA hon => ?_) (fun ops11_33 => ?_)
      · refine ⟨fun o ho vs Rs f' S' w hp hf hx hS hR hs => ?_⟩
        obtain rfl := Option.some.inj ho
        obtain ⟨hv25, hR25⟩ := (spe hA.2.1 hs11_25 (hp 25 (by kernel_rfl)))
        obtain ⟨hv32, hR32⟩ := (spe hA.2.2 rfl (hp 32 (by kernel_rfl)) : spu _ _)
        rw [hA.1, hs11_33]
        refine And.intro (fun a ha => (want_none rfl a ha).trans hon.symm) (And.intro (fun _ => ?_) (fun h => by rw [hon] at h; cases h))
        have hF := fr_next (fr_next (rfl) ((hf 25 47 (by kernel_rfl) rfl).trans hv25)) ((hf 32 54 (by kernel_rfl) rfl).trans hv32)
        refine ls_fr hF ?_
        refine ls_val (v := .bool false) rfl rfl (by kernel_rfl) (fun w => by kernel_rfl) ?_
        exact ls_fin s0 (.bool false) (congrArg (fun z => upd z 55 _) hF.symm) ⟨rfl, rfl⟩ (sub_nil _)
      obtain ⟨s11_34, hs11_34⟩ : ∃ z : Value → Sto → Prop, z = (fun v R => v = .bool false ∧ R = s0) := ⟨_, rfl⟩
      refine have_op (l := [_, _, _, _, _, _, _, _, _, _, _, _, _, _, _, _, _, _, _, _, _, _, _, _, _, _, _, _, _, _, _, _, _, _, _, _, _, _, _, _, _, _, _, _, _, _, _, _, _, _, _, _, _, _, _, _, _, _, _, _, _, _, _, _, _, _, _, _, _, _]) shadowboxlaw09_ExtentTells.tab9 5 34 (fun sp => sp 34 = s11_34 ∧ sp 33 = s11_33) (fun sp on hA hon => ?_) (fun ops11_34 => ?_)
      · refine ⟨fun o ho vs Rs f' S' w hp hf hx hS hR hs => ?_⟩
        obtain rfl := Option.some.inj ho
        obtain ⟨hv33, hR33⟩ := (spe hA.2 hs11_33 (hp 33 (by kernel_rfl)))
        rw [hA.1, hs11_34]
        refine And.intro (fun a ha => (want_none rfl a ha).trans hon.symm) (And.intro (fun _ => ?_) (fun h => by rw [hon] at h; cases h))
        have hF := fr_next (rfl) ((hf 33 55 (by kernel_rfl) rfl).trans hv33)
        refine ls_fr hF ?_
        refine ls_val (v := .bool false) rfl rfl (by kernel_rfl) (fun w => by kernel_rfl) ?_
        exact ls_fin s0 (.bool false) (congrArg (fun z => upd z 56 _) hF.symm) ⟨rfl, rfl⟩ (sub_nil _)
      obtain ⟨s11_40, hs11_40⟩ : ∃ z : Value → Sto → Prop, z = (fun v R => v = .bool false ∧ R = s0) := ⟨_, rfl⟩
      refine have_op (l := [_, _, _, _, _, _, _, _, _, _, _, _, _, _, _, _, _, _, _, _, _, _, _, _, _, _, _, _, _, _, _, _, _, _, _, _, _, _, _, _, _, _, _, _, _, _, _, _, _, _, _, _, _, _, _, _, _, _, _, _, _, _, _, _, _, _, _, _, _, _]) shadowboxlaw09_ExtentTells.tab9 5 40 (fun sp => sp 40 = s11_40 ∧ sp 34 = s11_34 ∧ sp 39 = spu) (fun sp on hA hon => ?_) (fun ops11_40 => ?_)
      · refine ⟨fun o ho vs Rs f' S' w hp hf hx hS hR hs => ?_⟩
        obtain rfl := Option.some.inj ho
        obtain ⟨hv34, hR34⟩ := (spe hA.2.1 hs11_34 (hp 34 (by kernel_rfl)))
        obtain ⟨hv39, hR39⟩ := (spe hA.2.2 rfl (hp 39 (by kernel_rfl)) : spu _ _)
        rw [hA.1, hs11_40]
        refine And.intro (fun a ha => (want_none rfl a ha).trans hon.symm) (And.intro (fun _ => ?_) (fun h => by rw [hon] at h; cases h))
        have hF := fr_next (fr_next (rfl) ((hf 34 56 (by kernel_rfl) rfl).trans hv34)) ((hf 39 61 (by kernel_rfl) rfl).trans hv39)
        refine ls_fr hF ?_
        refine ls_val (v := .bool false) rfl rfl (by kernel_rfl) (fun w => by kernel_rfl) ?_
        exact ls_fin s0 (.bool false) (congrArg (fun z => upd z 62 _) hF.symm) ⟨rfl, rfl⟩ (sub_nil _)
      obtain ⟨s11_41, hs11_41⟩ : ∃ z : Value → Sto → Prop, z = (fun v R => v = .bool false ∧ R = s0) := ⟨_, rfl⟩
      refine have_op (l := [_, _, _, _, _, _, _, _, _, _, _, _, _, _, _, _, _, _, _, _, _, _, _, _, _, _, _, _, _, _, _, _, _, _, _, _, _, _, _, _, _, _, _, _, _, _, _, _, _, _, _, _, _, _, _, _, _, _, _, _, _, _, _, _, _, _, _, _, _, _]) shadowboxlaw09_ExtentTells.tab9 5 41 (fun sp => sp 41 = s11_41 ∧ sp 40 = s11_40) (fun sp on hA hon => ?_) (fun ops11_41 => ?_)
      · refine ⟨fun o ho vs Rs f' S' w hp hf hx hS hR hs => ?_⟩
        obtain rfl := Option.some.inj ho
        obtain ⟨hv40, hR40⟩ := (spe hA.2 hs11_40 (hp 40 (by kernel_rfl)))
        rw [hA.1, hs11_41]
        refine And.intro (fun a ha => (want_none rfl a ha).trans hon.symm) (And.intro (fun _ => ?_) (fun h => by rw [hon] at h; cases h))
        have hF := fr_next (rfl) ((hf 40 62 (by kernel_rfl) rfl).trans hv40)
        refine ls_fr hF ?_
        refine ls_val (v := .bool false) rfl rfl (by kernel_rfl) (fun w => by kernel_rfl) ?_
        exact ls_fin s0 (.bool false) (congrArg (fun z => upd z 63 _) hF.symm) ⟨rfl, rfl⟩ (sub_nil _)
      obtain ⟨s11_47, hs11_47⟩ : ∃ z : Value → Sto → Prop, z = (fun v R => v = .bool false ∧ R = s0) := ⟨_, rfl⟩
      refine have_op (l := [_, _, _, _, _, _, _, _, _, _, _, _, _, _, _, _, _, _, _, _, _, _, _, _, _, _, _, _, _, _, _, _, _, _, _, _, _, _, _, _, _, _, _, _, _, _, _, _, _, _, _, _, _, _, _, _, _, _, _, _, _, _, _, _, _, _, _, _, _, _]) shadowboxlaw09_ExtentTells.tab9 5 47 (fun sp => sp 47 = s11_47 ∧ sp 41 = s11_41 ∧ sp 46 = spu) (fun sp on hA hon => ?_) (fun ops11_47 => ?_)
      · refine ⟨fun o ho vs Rs f' S' w hp hf hx hS hR hs => ?_⟩
        obtain rfl := Option.some.inj ho
        obtain ⟨hv41, hR41⟩ := (spe hA.2.1 hs11_41 (hp 41 (by kernel_rfl)))
        obtain ⟨hv46, hR46⟩ := (spe hA.2.2 rfl (hp 46 (by kernel_rfl)) : spu _ _)
        rw [hA.1, hs11_47]
        refine And.intro (fun a ha => (want_none rfl a ha).trans hon.symm) (And.intro (fun _ => ?_) (fun h => by rw [hon] at h; cases h))
        have hF := fr_next (fr_next (rfl) ((hf 41 63 (by kernel_rfl) rfl).trans hv41)) ((hf 46 68 (by kernel_rfl) rfl).trans hv46)
        refine ls_fr hF ?_
        refine ls_val (v := .bool false) rfl rfl (by kernel_rfl) (fun w => by kernel_rfl) ?_
        exact ls_fin s0 (.bool false) (congrArg (fun z => upd z 69 _) hF.symm) ⟨rfl, rfl⟩ (sub_nil _)
      obtain ⟨s11_48, hs11_48⟩ : ∃ z : Value → Sto → Prop, z = (fun v R => v = .bool false ∧ R = s0) := ⟨_, rfl⟩
      refine have_op (l := [_, _, _, _, _, _, _, _, _, _, _, _, _, _, _, _, _, _, _, _, _, _, _, _, _, _, _, _, _, _, _, _, _, _, _, _, _, _, _, _, _, _, _, _, _, _, _, _, _, _, _, _, _, _, _, _, _, _, _, _, _, _, _, _, _, _, _, _, _, _]) shadowboxlaw09_ExtentTells.tab9 5 48 (fun sp => sp 48 = s11_48 ∧ sp 47 = s11_47) (fun sp on hA hon => ?_) (fun ops11_48 => ?_)
      · refine ⟨fun o ho vs Rs f' S' w hp hf hx hS hR hs => ?_⟩
        obtain rfl := Option.some.inj ho
        obtain ⟨hv47, hR47⟩ := (spe hA.2 hs11_47 (hp 47 (by kernel_rfl)))
        rw [hA.1, hs11_48]
        refine And.intro (fun a ha => (want_none rfl a ha).trans hon.symm) (And.intro (fun _ => ?_) (fun h => by rw [hon] at h; cases h))
        have hF := fr_next (rfl) ((hf 47 69 (by kernel_rfl) rfl).trans hv47)
        refine ls_fr hF ?_
        refine ls_val (v := .bool false) rfl rfl (by kernel_rfl) (fun w => by kernel_rfl) ?_
        exact ls_fin s0 (.bool false) (congrArg (fun z => upd z 70 _) hF.symm) ⟨rfl, rfl⟩ (sub_nil _)
      refine cs_draw shadowboxlaw09_ExtentTells.tab9 54 5 (spl [s11_0, s11_1, s11_2, s11_3, s11_4, s11_5, s11_6, s11_7, spu, spu, spu, spu, spu, spu, spu, s11_15, s11_16, spu, spu, spu, spu, spu, spu, spu, s11_24, s11_25, spu, spu, spu, spu, spu, spu, spu, s11_33, s11_34, spu, spu, spu, spu, spu, s11_40, s11_41, spu, spu, spu, spu, spu, s11_47, s11_48, spu, spu, spu, spu, spu]) (onl [true, true, true, true, true, true, true, true, false, false, false, false, false, false, false, true, true, false, false, false, false, false, false, false, true, true, false, false, false, false, false, false, false, true, true, false, false, false, false, false, true, true, false, false, false, false, false, true, true, false, false, false, false, false]) (by kernel_rfl) (by kernel_rfl) (by kernel_rfl) (by kernel_rfl) (rs := [_, _, _, _, _, _, _, _, _, _, _, _, _, _, _, _]) rfl (by kernel_rfl) (by kernel_rfl) (all_snoc (all_snoc (all_snoc (all_snoc (all_snoc (all_snoc (all_snoc (all_snoc (all_snoc (all_snoc (all_snoc (all_snoc (all_snoc (all_snoc (all_snoc (all_snoc (all_snoc (all_snoc (all_snoc (all_snoc (all_snoc (all_snoc (all_snoc (all_snoc (all_snoc (all_snoc (all_snoc (all_snoc (all_snoc (all_snoc (all_snoc (all_snoc (all_snoc (all_snoc (all_snoc (all_snoc (all_snoc (all_snoc (all_snoc (all_snoc (all_snoc (all_snoc (all_snoc (all_snoc (all_snoc (all_snoc (all_snoc (all_snoc (all_snoc (all_snoc (all_snoc (all_snoc (all_snoc (all_snoc (all_nil) (ops11_0 _ _ rfl rfl)) (ops11_1 _ _ rfl rfl)) (ops11_2 _ _ ⟨rfl, rfl, rfl⟩ rfl)) (ops11_3 _ _ rfl rfl)) (ops11_4 _ _ rfl rfl)) (ops11_5 _ _ ⟨rfl, rfl, rfl⟩ rfl)) (ops11_6 _ _ ⟨rfl, rfl, rfl⟩ rfl)) (ops11_7 _ _ ⟨rfl, rfl⟩ rfl)) (op_offi 8 7 29 true rfl rfl (by kernel_rfl) (by kernel_rfl) rfl (fun v R h => by rw [hs11_7] at h; obtain ⟨h, _⟩ := h; exact h.trans (congrArg Value.bool (show t18 = false from Bool.eq_false_iff.mpr q21))) rfl rfl)) (op_offi 9 7 29 true rfl rfl (by kernel_rfl) (by kernel_rfl) rfl (fun v R h => by rw [hs11_7] at h; obtain ⟨h, _⟩ := h; exact h.trans (congrArg Value.bool (show t18 = false from Bool.eq_false_iff.mpr q21))) rfl rfl)) (op_offi 10 7 29 true rfl rfl (by kernel_rfl) (by kernel_rfl) rfl (fun v R h => by rw [hs11_7] at h; obtain ⟨h, _⟩ := h; exact h.trans (congrArg Value.bool (show t18 = false from Bool.eq_false_iff.mpr q21))) rfl rfl)) (op_offi 11 7 29 true rfl rfl (by kernel_rfl) (by kernel_rfl) rfl (fun v R h => by rw [hs11_7] at h; obtain ⟨h, _⟩ := h; exact h.trans (congrArg Value.bool (show t18 = false from Bool.eq_false_iff.mpr q21))) rfl rfl)) (op_offi 12 7 29 true rfl rfl (by kernel_rfl) (by kernel_rfl) rfl (fun v R h => by rw [hs11_7] at h; obtain ⟨h, _⟩ := h; exact h.trans (congrArg Value.bool (show t18 = false from Bool.eq_false_iff.mpr q21))) rfl rfl)) (op_offi 13 7 29 true rfl rfl (by kernel_rfl) (by kernel_rfl) rfl (fun v R h => by rw [hs11_7] at h; obtain ⟨h, _⟩ := h; exact h.trans (congrArg Value.bool (show t18 = false from Bool.eq_false_iff.mpr q21))) rfl rfl)) (op_offi 14 7 29 true rfl rfl (by kernel_rfl) (by kernel_rfl) rfl (fun v R h => by rw [hs11_7] at h; obtain ⟨h, _⟩ := h; exact h.trans (congrArg Value.bool (show t18 = false from Bool.eq_false_iff.mpr q21))) rfl rfl)) (ops11_15 _ _ ⟨rfl, rfl, rfl⟩ rfl)) (ops11_16 _ _ ⟨rfl, rfl⟩ rfl)) (op_offi 17 16 38 true rfl rfl (by kernel_rfl) (by kernel_rfl) rfl (fun v R h => by rw [hs11_16] at h; obtain ⟨h, _⟩ := h; exact h) rfl rfl)) (op_offi 18 16 38 true rfl rfl (by kernel_rfl) (by kernel_rfl) rfl (fun v R h => by rw [hs11_16] at h; obtain ⟨h, _⟩ := h; exact h) rfl rfl)) (op_offi 19 16 38 true rfl rfl (by kernel_rfl) (by kernel_rfl) rfl (fun v R h => by rw [hs11_16] at h; obtain ⟨h, _⟩ := h; exact h) rfl rfl)) (op_offi 20 16 38 true rfl rfl (by kernel_rfl) (by kernel_rfl) rfl (fun v R h => by rw [hs11_16] at h; obtain ⟨h, _⟩ := h; exact h) rfl rfl)) (op_offi 21 16 38 true rfl rfl (by kernel_rfl) (by kernel_rfl) rfl (fun v R h => by rw [hs11_16] at h; obtain ⟨h, _⟩ := h; exact h) rfl rfl)) (op_offi 22 16 38 true rfl rfl (by kernel_rfl) (by kernel_rfl) rfl (fun v R h => by rw [hs11_16] at h; obtain ⟨h, _⟩ := h; exact h) rfl rfl)) (op_offi 23 16 38 true rfl rfl (by kernel_rfl) (by kernel_rfl) rfl (fun v R h => by rw [hs11_16] at h; obtain ⟨h, _⟩ := h; exact h) rfl rfl)) (ops11_24 _ _ ⟨rfl, rfl, rfl⟩ rfl)) (ops11_25 _ _ ⟨rfl, rfl⟩ rfl)) (op_offi 26 25 47 true rfl rfl (by kernel_rfl) (by kernel_rfl) rfl (fun v R h => by rw [hs11_25] at h; obtain ⟨h, _⟩ := h; exact h) rfl rfl)) (op_offi 27 25 47 true rfl rfl (by kernel_rfl) (by kernel_rfl) rfl (fun v R h => by rw [hs11_25] at h; obtain ⟨h, _⟩ := h; exact h) rfl rfl)) (op_offi 28 25 47 true rfl rfl (by kernel_rfl) (by kernel_rfl) rfl (fun v R h => by rw [hs11_25] at h; obtain ⟨h, _⟩ := h; exact h) rfl rfl)) (op_offi 29 25 47 true rfl rfl (by kernel_rfl) (by kernel_rfl) rfl (fun v R h => by rw [hs11_25] at h; obtain ⟨h, _⟩ := h; exact h) rfl rfl)) (op_offi 30 25 47 true rfl rfl (by kernel_rfl) (by kernel_rfl) rfl (fun v R h => by rw [hs11_25] at h; obtain ⟨h, _⟩ := h; exact h) rfl rfl)) (op_offi 31 25 47 true rfl rfl (by kernel_rfl) (by kernel_rfl) rfl (fun v R h => by rw [hs11_25] at h; obtain ⟨h, _⟩ := h; exact h) rfl rfl)) (op_offi 32 25 47 true rfl rfl (by kernel_rfl) (by kernel_rfl) rfl (fun v R h => by rw [hs11_25] at h; obtain ⟨h, _⟩ := h; exact h) rfl rfl)) (ops11_33 _ _ ⟨rfl, rfl, rfl⟩ rfl)) (ops11_34 _ _ ⟨rfl, rfl⟩ rfl)) (op_offi 35 34 56 true rfl rfl (by kernel_rfl) (by kernel_rfl) rfl (fun v R h => by rw [hs11_34] at h; obtain ⟨h, _⟩ := h; exact h) rfl rfl)) (op_offi 36 34 56 true rfl rfl (by kernel_rfl) (by kernel_rfl) rfl (fun v R h => by rw [hs11_34] at h; obtain ⟨h, _⟩ := h; exact h) rfl rfl)) (op_offi 37 34 56 true rfl rfl (by kernel_rfl) (by kernel_rfl) rfl (fun v R h => by rw [hs11_34] at h; obtain ⟨h, _⟩ := h; exact h) rfl rfl)) (op_offi 38 34 56 true rfl rfl (by kernel_rfl) (by kernel_rfl) rfl (fun v R h => by rw [hs11_34] at h; obtain ⟨h, _⟩ := h; exact h) rfl rfl)) (op_offi 39 34 56 true rfl rfl (by kernel_rfl) (by kernel_rfl) rfl (fun v R h => by rw [hs11_34] at h; obtain ⟨h, _⟩ := h; exact h) rfl rfl)) (ops11_40 _ _ ⟨rfl, rfl, rfl⟩ rfl)) (ops11_41 _ _ ⟨rfl, rfl⟩ rfl)) (op_offi 42 41 63 true rfl rfl (by kernel_rfl) (by kernel_rfl) rfl (fun v R h => by rw [hs11_41] at h; obtain ⟨h, _⟩ := h; exact h) rfl rfl)) (op_offi 43 41 63 true rfl rfl (by kernel_rfl) (by kernel_rfl) rfl (fun v R h => by rw [hs11_41] at h; obtain ⟨h, _⟩ := h; exact h) rfl rfl)) (op_offi 44 41 63 true rfl rfl (by kernel_rfl) (by kernel_rfl) rfl (fun v R h => by rw [hs11_41] at h; obtain ⟨h, _⟩ := h; exact h) rfl rfl)) (op_offi 45 41 63 true rfl rfl (by kernel_rfl) (by kernel_rfl) rfl (fun v R h => by rw [hs11_41] at h; obtain ⟨h, _⟩ := h; exact h) rfl rfl)) (op_offi 46 41 63 true rfl rfl (by kernel_rfl) (by kernel_rfl) rfl (fun v R h => by rw [hs11_41] at h; obtain ⟨h, _⟩ := h; exact h) rfl rfl)) (ops11_47 _ _ ⟨rfl, rfl, rfl⟩ rfl)) (ops11_48 _ _ ⟨rfl, rfl⟩ rfl)) (op_offi 49 48 70 true rfl rfl (by kernel_rfl) (by kernel_rfl) rfl (fun v R h => by rw [hs11_48] at h; obtain ⟨h, _⟩ := h; exact h) rfl rfl)) (op_offi 50 48 70 true rfl rfl (by kernel_rfl) (by kernel_rfl) rfl (fun v R h => by rw [hs11_48] at h; obtain ⟨h, _⟩ := h; exact h) rfl rfl)) (op_offi 51 48 70 true rfl rfl (by kernel_rfl) (by kernel_rfl) rfl (fun v R h => by rw [hs11_48] at h; obtain ⟨h, _⟩ := h; exact h) rfl rfl)) (op_offi 52 48 70 true rfl rfl (by kernel_rfl) (by kernel_rfl) rfl (fun v R h => by rw [hs11_48] at h; obtain ⟨h, _⟩ := h; exact h) rfl rfl)) (op_offi 53 48 70 true rfl rfl (by kernel_rfl) (by kernel_rfl) rfl (fun v R h => by rw [hs11_48] at h; obtain ⟨h, _⟩ := h; exact h) rfl rfl)) ?_
      intro vs Rs f' S' hp hf hx hS hR
      obtain ⟨x14, hv2, hR2⟩ := (spe rfl hs11_2 (hp 2 (by kernel_rfl)))
      have hT2_0 := (hR 2 0 (by kernel_rfl) (by decide)).trans (congrFun hR2 0)
      obtain ⟨x17, hv5, hR5⟩ := (spe rfl hs11_5 (hp 5 (by kernel_rfl)))
      have hT5_0 := (hR 5 0 (by kernel_rfl) (by decide)).trans (congrFun hR5 0)
      obtain ⟨x20, hv6, hR6⟩ := (spe rfl hs11_6 (hp 6 (by kernel_rfl)))
      obtain ⟨hv48, hR48⟩ := (spe rfl hs11_48 (hp 48 (by kernel_rfl)))
      obtain ⟨hv51, hR51⟩ := (spe rfl rfl (hp 51 (by kernel_rfl)) : spu _ _)
      obtain ⟨hv52, hR52⟩ := (spe rfl rfl (hp 52 (by kernel_rfl)) : spu _ _)
      obtain ⟨hv53, hR53⟩ := (spe rfl rfl (hp 53 (by kernel_rfl)) : spu _ _)
      refine ls_fr (F := upd (upd f' 9 (.slice x9.1 t7.length x9.2)) 70 (.bool false)) (fr_next (fr_next (rfl) ((hx 9 (by kernel_rfl)).trans (by kernel_rfl : (_ : Value) = .slice x9.1 t7.length x9.2))) ((hf 48 70 (by kernel_rfl) rfl).trans hv48)) ?_
      refine ls_sub (sput s0 4 (some (Ck.sl T24 x9.1 x9.2 t7))) (sub_put ((hS 4 (by kernel_rfl)).trans (by exact rfl)) (sub_nil _)) ?_
      refine ls_off (j := 48) (t := 70) (b := true) (c := false) rfl rfl (by kernel_rfl) (by kernel_rfl) rfl rfl (by kernel_rfl) ?_
      refine ls_off (j := 48) (t := 70) (b := true) (c := false) rfl rfl (by kernel_rfl) (by kernel_rfl) rfl rfl (by kernel_rfl) ?_
      refine ls_val (v := .bool false) rfl rfl (by kernel_rfl) (fun w => by kernel_rfl) ?_
      refine ls_val (v := .bool false) rfl rfl (by kernel_rfl) (fun w => by kernel_rfl) ?_
      refine ls_off (j := 57) (t := 79) (b := true) (c := false) rfl rfl (by kernel_rfl) (by kernel_rfl) rfl rfl (by kernel_rfl) ?_
      refine ls_off (j := 57) (t := 79) (b := true) (c := false) rfl rfl (by kernel_rfl) (by kernel_rfl) rfl rfl (by kernel_rfl) ?_
      refine ls_off (j := 57) (t := 79) (b := true) (c := false) rfl rfl (by kernel_rfl) (by kernel_rfl) rfl rfl (by kernel_rfl) ?_
      refine ls_val (v := .bool false) rfl rfl (by kernel_rfl) (fun w => by kernel_rfl) ?_
      refine ls_val (v := .bool false) rfl rfl (by kernel_rfl) (fun w => by kernel_rfl) ?_
      refine ls_off (j := 62) (t := 84) (b := true) (c := false) rfl rfl (by kernel_rfl) (by kernel_rfl) rfl rfl (by kernel_rfl) ?_
      refine ls_off (j := 62) (t := 84) (b := true) (c := false) rfl rfl (by kernel_rfl) (by kernel_rfl) rfl rfl (by kernel_rfl) ?_
      refine ls_off (j := 62) (t := 84) (b := true) (c := false) rfl rfl (by kernel_rfl) (by kernel_rfl) rfl rfl (by kernel_rfl) ?_
      refine ls_off (j := 62) (t := 84) (b := true) (c := false) rfl rfl (by kernel_rfl) (by kernel_rfl) rfl rfl (by kernel_rfl) ?_
      refine ls_off (j := 62) (t := 84) (b := true) (c := false) rfl rfl (by kernel_rfl) (by kernel_rfl) rfl rfl (by kernel_rfl) ?_
      refine ls_val (v := .bool false) rfl rfl (by kernel_rfl) (fun w => by kernel_rfl) ?_
      refine ls_val (v := .bool false) rfl rfl (by kernel_rfl) (fun w => by kernel_rfl) ?_
      refine ls_end ?_
      refine qn_then ?_
      refine cs_ret' ?_
      obtain rfl := Option.some.inj H
      refine qr_res (rs := [_]) rfl (fun w' hs => ⟨[.bool false], (res_tmp (by kernel_rfl) (.nil)), (), rfl, hs.pick (ts := []) (cs := []) trivial (by decide)⟩)

end Go.Proofs.Ytiikfaefeonfhaa.G
