/- TrialWorded: the functions of plans, told at a plan's row in any heap. -/
import Derived.Test.YtgnkjmgkfibipaaGreatDoorSSpelledKPrvB
import Derived.Test.YtgnkjmgkfibipaaGreatDoorSSpelledKWopA
import Derived.Test.YtgnkjmgkfibipaaGreatDoorSSpelledKW5
import Derived.Test.YtgnkjmgkfibipaaGreatDoorSSpelledRTwo
import Derived.Shelf.Strings.OnBuilder
namespace Go.Proofs.YtgnkjmgkfibipaaGreatDoor
set_option linter.unusedVariables false
set_option linter.unusedSimpArgs false
open Go Go.R
set_option maxRecDepth 1000000
noncomputable section
section
variable {n q : Nat} {l : List Nat} {h : AH} {lv : Bool} {par : List Nat} {ty : Option TypeId} {fid : FuncId} {post : List Value}
end
end
end Go.Proofs.YtgnkjmgkfibipaaGreatDoor

/- strings.Join, and Sum over plans that pass the check. -/
namespace Go.Proofs
open Go.Shelf
end Go.Proofs
namespace Go.Proofs.YtgnkjmgkfibipaaGreatDoor
set_option linter.unusedVariables false
set_option linter.unusedSimpArgs false
open Go Go.R
set_option maxRecDepth 1000000
noncomputable section

end
end Go.Proofs.YtgnkjmgkfibipaaGreatDoor

/- TrialWorded: Sum over plans that pass the check. -/
namespace Go.Proofs.YtgnkjmgkfibipaaGreatDoor
set_option linter.unusedVariables false
set_option linter.unusedSimpArgs false
open Go Go.R
set_option maxRecDepth 1000000
noncomputable section

/-! ### same, at any two rows -/
end
end Go.Proofs.YtgnkjmgkfibipaaGreatDoor
