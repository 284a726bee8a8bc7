/- Proves over plans that pass the check. -/
import Derived.Test.YtgnkjmgkfibipaaGreatDoorSSpelledKPrvA
namespace Go.Proofs.YtgnkjmgkfibipaaGreatDoor
set_option linter.unusedVariables false
set_option linter.unusedSimpArgs false
open Go Go.R
set_option maxRecDepth 1000000
noncomputable section

end
end Go.Proofs.YtgnkjmgkfibipaaGreatDoor
