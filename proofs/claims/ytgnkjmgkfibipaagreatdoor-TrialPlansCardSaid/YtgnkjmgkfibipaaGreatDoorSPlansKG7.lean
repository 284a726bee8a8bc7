/- TrialTried: what its function does with each plan. -/
import Derived.Test.YtgnkjmgkfibipaaGreatDoorSPlansKG6
import Derived.Test.YtgnkjmgkfibipaaGreatDoorSPlansRG7
namespace Go.Proofs.YtgnkjmgkfibipaaGreatDoor
set_option linter.unusedVariables false
set_option linter.unusedSimpArgs false
open Go Go.R
set_option maxRecDepth 1000000
noncomputable section

/-! ### slices.Contains over a list that may be nil -/
end
end Go.Proofs.YtgnkjmgkfibipaaGreatDoor
