/- What outside, reach, fewest, Trials and Choices answer at all numbers in their ranges: by the kernel. -/
import Derived.Test.YtgnkjmgkfibipaaDoorSWordedKG0
import Derived.Test.YtgnkjmgkfibipaaDoorSWordedRG5
namespace Go.Proofs.YtgnkjmgkfibipaaDoor
set_option linter.unusedVariables false
set_option linter.unusedSimpArgs false
open Go Go.R
set_option maxRecDepth 1000000
noncomputable section

def chooseN (n k : Nat) : Nat := (List.range k).foldl (fun a i => a * (n - i) / (i + 1)) 1
def sumN : List Nat → Nat
  | [] => 0
  | a :: l => a + sumN l
def reachN (b t : Nat) : Nat := sumN ((List.range (min b t)).map fun i => chooseN t (i + 1))
def vOut (n lo hi : Nat) : Option Value := some (.bool (Nat.blt n lo || Nat.blt hi n))
theorem out_tab : ∀ a, a < 14 → row3 (callA Tryd.prog works 1000) 74 2 14 vOut a = true := all_lt (by kernel_rfl)
def hOut : Hook := orH works (numH 74 (grid3 14 2 14 vOut))
theorem hOut_ok : HookOk Tryd.prog hOut := or_ok works_ok (grid3_ok (call_ok mixed noNum works_ok 1000) out_tab)

def vReach (b t : Nat) : Option Value := some (i64 (reachN b t))
theorem reach_tab : ∀ a, a < 7 → row2 (callA Tryd.prog hOut 1000) 80 13 vReach a = true := all_lt (by kernel_rfl)
def hReach : Hook := orH hOut (numH 80 (grid2 7 13 vReach))
theorem hReach_ok : HookOk Tryd.prog hReach := or_ok hOut_ok (grid2_ok (call_ok mixed noNum hOut_ok 1000) reach_tab)

end
end Go.Proofs.YtgnkjmgkfibipaaDoor
