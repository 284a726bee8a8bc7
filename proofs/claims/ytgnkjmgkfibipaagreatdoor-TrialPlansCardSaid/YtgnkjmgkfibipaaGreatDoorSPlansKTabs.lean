/- What outside, reach, fewest, Trials and Choices answer at all numbers in their ranges: by the kernel. -/
import Derived.Test.YtgnkjmgkfibipaaGreatDoorSPlansKG0
import Derived.Test.YtgnkjmgkfibipaaGreatDoorSPlansRG5
namespace Go.Proofs.YtgnkjmgkfibipaaGreatDoor
set_option linter.unusedVariables false
set_option linter.unusedSimpArgs false
open Go Go.R
set_option maxRecDepth 1000000
noncomputable section

def chooseN (n k : Nat) : Nat := (List.range k).foldl (fun a i => a * (n - i) / (i + 1)) 1
def sumN : List Nat → Nat
  | [] => 0
  | a :: l => a + sumN l
def reachN (b t : Nat) : Nat := sumN ((List.range (min b t)).map fun i => chooseN t (i + 1))
def firstN (p : Nat → Bool) : Nat → Nat → Nat
  | 0, n => n
  | f + 1, n => if p n then n else firstN p f (n + 1)
def fewestN (l b : Nat) : Nat := firstN (fun n => Nat.blt 12 n || Nat.ble l (reachN b n)) 14 0
def vOut (n lo hi : Nat) : Option Value := some (.bool (Nat.blt n lo || Nat.blt hi n))
theorem out_tab : ∀ a, a < 14 → row3 (callA Tryz.prog works 1000) 51 2 14 vOut a = true := all_lt (by kernel_rfl)
def hOut : Hook := orH works (numH 51 (grid3 14 2 14 vOut))
theorem hOut_ok : HookOk Tryz.prog hOut := or_ok works_ok (grid3_ok (call_ok mixed noNum works_ok 1000) out_tab)

def vReach (b t : Nat) : Option Value := some (i64 (reachN b t))
theorem reach_tab : ∀ a, a < 7 → row2 (callA Tryz.prog hOut 1000) 62 13 vReach a = true := all_lt (by kernel_rfl)
def hReach : Hook := orH hOut (numH 62 (grid2 7 13 vReach))
theorem hReach_ok : HookOk Tryz.prog hReach := or_ok hOut_ok (grid2_ok (call_ok mixed noNum hOut_ok 1000) reach_tab)

def vFewest (l b : Nat) : Option Value := some (i64 (fewestN l b))
theorem fewest_tab : ∀ a, a < 13 → row2 (callA Tryz.prog hReach 1000) 55 7 vFewest a = true := all_lt (by kernel_rfl)
end
end Go.Proofs.YtgnkjmgkfibipaaGreatDoor
