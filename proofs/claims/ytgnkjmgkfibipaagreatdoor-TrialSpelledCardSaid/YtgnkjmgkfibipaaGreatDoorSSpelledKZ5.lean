/- TrialPlans: the reference's planned. -/
import Derived.Test.YtgnkjmgkfibipaaGreatDoorSSpelledKZ4
import Derived.Test.YtgnkjmgkfibipaaGreatDoorSSpelledRG9
namespace Go.Proofs.YtgnkjmgkfibipaaGreatDoor
set_option linter.unusedVariables false
set_option linter.unusedSimpArgs false
open Go Go.R
set_option maxRecDepth 1000000
noncomputable section

section
variable {n cap : Nat} {f : Nat → Int} {B A : List Int}
end
end
end Go.Proofs.YtgnkjmgkfibipaaGreatDoor

/- TrialPlans: the reference's planned, as a contract. -/
namespace Go.Proofs.YtgnkjmgkfibipaaGreatDoor
set_option linter.unusedVariables false
set_option linter.unusedSimpArgs false
open Go Go.R
set_option maxRecDepth 1000000
noncomputable section

/-! ### Told at a list in a row of its own, or nil -/
section
variable {q : Nat} {T : List Int} {h : AH} {fid : FuncId} {post : List Value}
end

end
end Go.Proofs.YtgnkjmgkfibipaaGreatDoor
