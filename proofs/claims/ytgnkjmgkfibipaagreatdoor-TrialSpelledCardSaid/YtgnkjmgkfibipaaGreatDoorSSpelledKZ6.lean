/- TrialPlans: the reference's Check and asked. -/
import Derived.Test.YtgnkjmgkfibipaaGreatDoorSSpelledKZpF
import Derived.Test.YtgnkjmgkfibipaaGreatDoorSSpelledKPrvA
import Derived.Test.YtgnkjmgkfibipaaGreatDoorSSpelledKZ1
namespace Go.Proofs.YtgnkjmgkfibipaaGreatDoor
set_option linter.unusedVariables false
set_option linter.unusedSimpArgs false
open Go Go.R
set_option maxRecDepth 1000000
noncomputable section

/-! ### in -/
/-! ### Check -/
section
variable {n cap : Nat} {f : Nat → Int}
/-! ### asked -/
end
end
end Go.Proofs.YtgnkjmgkfibipaaGreatDoor

/- TrialPlans: the reference's Run, Word and Words. -/
namespace Go.Proofs.YtgnkjmgkfibipaaGreatDoor
set_option linter.unusedVariables false
set_option linter.unusedSimpArgs false
open Go Go.R
set_option maxRecDepth 1000000
noncomputable section
section
variable {n cap : Nat} {f : Nat → Int}
/-! ### Run -/
/-! ### word -/
/-! ### Word -/
/-! ### words -/
/-! ### Words -/
end
end
end Go.Proofs.YtgnkjmgkfibipaaGreatDoor
