/- What is known of the maps that stand for any of their kind (none), and the laid table. -/
import GoSem.Step
namespace Go.R
set_option linter.unusedVariables false
set_option linter.unusedSimpArgs false
open Go
def Stands (tag : Nat) (es : List (Value × Value)) : Prop := False
/-- The laid tables: the variable's number, and its bytes: math/bits.deBruijn64tab. -/
def tabs : List (Nat × List Nat) := [(1, [0, 1, 56, 2, 57, 49, 28, 3, 61, 58, 42, 50, 38, 29, 17, 4, 62, 47, 59, 36, 45, 43, 51, 22, 53, 39, 33, 30, 24, 18, 12, 5,
  63, 55, 48, 27, 60, 41, 37, 16, 46, 35, 44, 21, 52, 32, 23, 11, 54, 26, 40, 15, 34, 20, 31, 10, 25, 14, 19, 9, 13, 8, 7, 6])]
end Go.R
