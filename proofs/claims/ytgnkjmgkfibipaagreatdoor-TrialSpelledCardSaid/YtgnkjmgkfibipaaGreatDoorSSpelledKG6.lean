/- slices.Concat of three lists of numbers, where all plans are made: its rounds. -/
import Derived.Test.YtgnkjmgkfibipaaGreatDoorSSpelledKG5
import Derived.Test.YtgnkjmgkfibipaaGreatDoorSSpelledKG3
import Derived.Test.YtgnkjmgkfibipaaGreatDoorSSpelledRG7
import Derived.Shelf.Spec.SlicesGrow
namespace Go.Proofs.YtgnkjmgkfibipaaGreatDoor
set_option linter.unusedVariables false
set_option linter.unusedSimpArgs false
open Go Go.R
set_option maxRecDepth 1000000
noncomputable section

theorem wrap_addN {s n : Nat} (h : s + n < 4611686018427387904) : wrapF .i64 (Int.add (.ofNat s) (.ofNat n)) = .ofNat (s + n) := by
  show cond (Nat.blt (s + n) 9223372036854775808) (Int.ofNat (s + n)) _ = _
  have : Nat.blt (s + n) 9223372036854775808 = true := by rw [Nat.blt_eq]; omega
  rw [this]; rfl

section
variable (H L T D : Nat) (E : Value) (a c : List Nat)

end
end
end Go.Proofs.YtgnkjmgkfibipaaGreatDoor

/- Where all plans are made: the innermost function, which puts a plan together and hands it on. -/
namespace Go.Proofs.YtgnkjmgkfibipaaGreatDoor
set_option linter.unusedVariables false
set_option linter.unusedSimpArgs false
open Go Go.R
set_option maxRecDepth 1000000
noncomputable section

end
end Go.Proofs.YtgnkjmgkfibipaaGreatDoor
