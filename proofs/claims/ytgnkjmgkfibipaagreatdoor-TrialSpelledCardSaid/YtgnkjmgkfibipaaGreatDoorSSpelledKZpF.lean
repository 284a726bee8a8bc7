/- TrialPlans: the reference's run. -/
import Derived.Test.YtgnkjmgkfibipaaGreatDoorSSpelledKZ5
import Derived.Test.YtgnkjmgkfibipaaGreatDoorSSpelledRTwin3
namespace Go.Proofs.YtgnkjmgkfibipaaGreatDoor
set_option linter.unusedVariables false
set_option linter.unusedSimpArgs false
open Go Go.R
set_option maxRecDepth 1000000
noncomputable section

section
variable {n cap : Nat} {f : Nat → Int} {x : Int} {B A : List Int}
end
end
end Go.Proofs.YtgnkjmgkfibipaaGreatDoor
