/- What outside, reach, fewest, Trials and Choices answer at all numbers in their ranges: by the kernel. -/
import Derived.Test.YtgnkjmgkfibipaaGreatDoorSSpelledKG0
import Derived.Test.YtgnkjmgkfibipaaGreatDoorSSpelledRG5
namespace Go.Proofs.YtgnkjmgkfibipaaGreatDoor
set_option linter.unusedVariables false
set_option linter.unusedSimpArgs false
open Go Go.R
set_option maxRecDepth 1000000
noncomputable section

end
end Go.Proofs.YtgnkjmgkfibipaaGreatDoor
