/- A row that has grown behind a held cell, under its old number again. -/
import Derived.Test.YtgnkjmgkfibipaaGreatDoorSPlansRG7
namespace Go.R
set_option linter.unusedVariables false
set_option linter.unusedSimpArgs false
open Go Go.RowKit
noncomputable section
variable {P : Program}

end
end Go.R
