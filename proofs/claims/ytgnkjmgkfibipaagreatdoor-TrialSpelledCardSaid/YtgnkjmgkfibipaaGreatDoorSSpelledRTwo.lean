/- A call that looks at two slices, known at two views, told at any two slices in any heap. -/
import Derived.Test.YtgnkjmgkfibipaaGreatDoorSSpelledRG6
namespace Go.R
set_option linter.unusedVariables false
set_option linter.unusedSimpArgs false
open Go Go.RowKit
noncomputable section
variable {P : Program}

end
end Go.R
