/- TrialSums: the law behind all plans. -/
import Derived.Test.YtgnkjmgkfibipaaGreatDoorSPlansKG5
import Derived.Test.YtgnkjmgkfibipaaGreatDoorSPlansKG0
import Derived.Test.YtgnkjmgkfibipaaGreatDoorSPlansKZ3
import Derived.Test.YtgnkjmgkfibipaaGreatDoorSPlansKZ1
import Derived.Test.YtgnkjmgkfibipaaGreatDoorSPlansKTabs
import Derived.Test.YtgnkjmgkfibipaaGreatDoorSPlansRHid7
import Derived.Test.YtgnkjmgkfibipaaGreatDoorSPlansRHid8
import Derived.Test.YtgnkjmgkfibipaaGreatDoorSPlansRG5
import Derived.Test.YtgnkjmgkfibipaaGreatDoorSPlansRVia2
namespace Go.Proofs.YtgnkjmgkfibipaaGreatDoor
set_option linter.unusedVariables false
set_option linter.unusedSimpArgs false
open Go Go.R
set_option maxRecDepth 1000000
noncomputable section

section
variable {y : Nat → Nat} {n b : Nat} {E : SmS} {G : List Nat}

end

/-! ### Proves, told -/
end
end Go.Proofs.YtgnkjmgkfibipaaGreatDoor
