/- TrialSums: the law behind all plans. -/
import Derived.Test.YtgnkjmgkfibipaaGreatDoorSSpelledKChkK
import Derived.Test.YtgnkjmgkfibipaaGreatDoorSSpelledKG0
import Derived.Test.YtgnkjmgkfibipaaGreatDoorSSpelledKPrvB
import Derived.Test.YtgnkjmgkfibipaaGreatDoorSSpelledKZ1
import Derived.Test.YtgnkjmgkfibipaaGreatDoorSSpelledKTabs
import Derived.Test.YtgnkjmgkfibipaaGreatDoorSSpelledRG9
import Derived.Test.YtgnkjmgkfibipaaGreatDoorSSpelledRG5
namespace Go.Proofs.YtgnkjmgkfibipaaGreatDoor
set_option linter.unusedVariables false
set_option linter.unusedSimpArgs false
open Go Go.R
set_option maxRecDepth 1000000
noncomputable section

section
variable {y : Nat → Nat} {n b : Nat} {E : SmS} {G : List Nat}

end

/-! ### Proves, told -/
end
end Go.Proofs.YtgnkjmgkfibipaaGreatDoor
