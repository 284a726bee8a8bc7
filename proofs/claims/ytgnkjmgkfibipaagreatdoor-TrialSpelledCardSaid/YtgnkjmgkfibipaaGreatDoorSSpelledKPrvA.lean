/- strings.Count, Worst and Proves over plans that pass the check. -/
import Derived.Test.YtgnkjmgkfibipaaGreatDoorSSpelledKChkK
import Derived.Test.YtgnkjmgkfibipaaGreatDoorSSpelledKZ1
import Derived.Test.YtgnkjmgkfibipaaGreatDoorSSpelledKTabs
namespace Go.Proofs.YtgnkjmgkfibipaaGreatDoor
set_option linter.unusedVariables false
set_option linter.unusedSimpArgs false
open Go Go.R
set_option maxRecDepth 1000000
noncomputable section

/-! ### Letters -/
/-! ### The worst case -/
end
end Go.Proofs.YtgnkjmgkfibipaaGreatDoor
