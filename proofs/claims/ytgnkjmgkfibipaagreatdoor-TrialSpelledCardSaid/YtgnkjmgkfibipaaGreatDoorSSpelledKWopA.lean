/- TrialWorded: plans as trees, and the words of their hardnesses (in Lean alone). -/
import Derived.Test.YtgnkjmgkfibipaaGreatDoorSSpelledKSumD
import Derived.Test.YtgnkjmgkfibipaaGreatDoorSSpelledKW3
namespace Go.Proofs.YtgnkjmgkfibipaaGreatDoor
set_option linter.unusedVariables false
set_option linter.unusedSimpArgs false
open Go Go.R
noncomputable section

/-- A plan: nothing, or what comes behind a blunt and behind a sharp result of the first trial. -/
inductive Tr where
  | leaf
  | node (a c : Tr)
def Tr.size : Tr → Nat
  | .leaf => 0
  | .node a c => a.size + c.size + 1
/-! ### What is followed -/
/-! ### Words -/
end
end Go.Proofs.YtgnkjmgkfibipaaGreatDoor
