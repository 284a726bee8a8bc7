/- Words: the reference's checked as a contract. -/
import Derived.Test.YtgnkjmgkfibipaaGreatDoorSPlansKWrdA
import Derived.Test.YtgnkjmgkfibipaaGreatDoorSPlansRMapL
import Derived.Test.YtgnkjmgkfibipaaGreatDoorSPlansRVia2
import Derived.Test.YtgnkjmgkfibipaaGreatDoorSPlansKSumD
namespace Go.Proofs.YtgnkjmgkfibipaaGreatDoor
set_option linter.unusedVariables false
set_option linter.unusedSimpArgs false
open Go Go.R
set_option maxRecDepth 1000000
noncomputable section
section
variable {n cap : Nat} {g : Nat → ByteArray}
theorem z72 : ∀ p ∈ ([(0, slV n cap)] : List (Nat × Value)), Clo 1 p.2 := clo_all (by kernel_rfl)
end
end
end Go.Proofs.YtgnkjmgkfibipaaGreatDoor

/- TrialWorded: plans as trees, and the words of their hardnesses (in Lean alone). -/
namespace Go.Proofs.YtgnkjmgkfibipaaGreatDoor
set_option linter.unusedVariables false
set_option linter.unusedSimpArgs false
open Go Go.R
noncomputable section

/-- A plan: nothing, or what comes behind a blunt and behind a sharp result of the first trial. -/
inductive Tr where
  | leaf
  | node (a c : Tr)
def Tr.size : Tr → Nat
  | .leaf => 0
  | .node a c => a.size + c.size + 1
/-! ### What is followed -/
/-! ### Words -/
end
end Go.Proofs.YtgnkjmgkfibipaaGreatDoor
