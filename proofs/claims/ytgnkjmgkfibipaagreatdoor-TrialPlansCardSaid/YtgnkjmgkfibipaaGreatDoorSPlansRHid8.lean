/- The call from where the hidden state is the heap, some of its first objects being left as they are. -/
import Derived.Test.YtgnkjmgkfibipaaGreatDoorSPlansRHid7
namespace Go.R
set_option linter.unusedVariables false
set_option linter.unusedSimpArgs false
open Go Go.RowKit
noncomputable section
variable {P : Program} {σ : Type}

end
end Go.R
