/- A call that leaves several new objects: known up to their numbers, told with numbers of its own. -/
import Derived.Test.YtbcjmmbmeebfgaaGreatDoorSFloodedRRenH
import Derived.Test.YtbcjmmbmeebfgaaGreatDoorSFloodedRG6
namespace Go.R
set_option linter.unusedVariables false
set_option linter.unusedSimpArgs false
open Go Go.RowKit
noncomputable section
variable {P : Program}

end
end Go.R
