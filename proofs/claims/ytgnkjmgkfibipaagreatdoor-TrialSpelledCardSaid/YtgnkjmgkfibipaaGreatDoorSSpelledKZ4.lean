/- TrialPlans: the reference's plans (in Lean alone): a list is a plan just if no three numbers stand in the wrong order; what is followed. -/
import Derived.Test.YtgnkjmgkfibipaaGreatDoorSSpelledKZ9
import Derived.Test.YtgnkjmgkfibipaaGreatDoorSSpelledRLast
namespace Go.Proofs.YtgnkjmgkfibipaaGreatDoor
set_option linter.unusedVariables false
set_option linter.unusedSimpArgs false
open Go Go.R
noncomputable section

/-! ### The list of a function's values -/
/-! ### What is followed -/
end
end Go.Proofs.YtgnkjmgkfibipaaGreatDoor

/- TrialPlans: the reference's parted. -/
namespace Go.Proofs.YtgnkjmgkfibipaaGreatDoor
set_option linter.unusedVariables false
set_option linter.unusedSimpArgs false
open Go Go.R
set_option maxRecDepth 1000000
noncomputable section

theorem obs3 {ρ : Nat → Nat} {m : Nat} {h : AH} {a b c : AObj} (p : RenO ρ m (h.get (ρ 0)) a) (q : RenO ρ m (h.get (ρ 1)) b) (r : RenO ρ m (h.get (ρ 2)) c) : ObsOk ρ m h 0 [a, b, c] := ⟨p, q, r, trivial⟩
section
variable {n cap : Nat} {f : Nat → Int} {x : Int} {B A : List Int}
end
end
end Go.Proofs.YtgnkjmgkfibipaaGreatDoor

/- TrialPlans: the reference's parted, told. -/
namespace Go.Proofs.YtgnkjmgkfibipaaGreatDoor
set_option linter.unusedVariables false
set_option linter.unusedSimpArgs false
open Go Go.R
set_option maxRecDepth 1000000
noncomputable section

section
variable {n cap : Nat} {f : Nat → Int} {x : Int}
end
end
end Go.Proofs.YtgnkjmgkfibipaaGreatDoor
