/- The harness's sum, and what the program looks at: once for all laws. -/
import Derived.Test.YtgnkjmgkfibipaaGreatDoorSSpelledKG0
import Derived.SevenTiedAt
namespace Go.Proofs.YtgnkjmgkfibipaaGreatDoor
set_option linter.unusedVariables false
set_option linter.unusedSimpArgs false
open Go
theorem p_main : Tryz.prog.mainIs = some (true, "2fac328ded0a24f02bf277e2e61838022269ca33ac82b0059d4dfe2c6283145a".toList) := by kernel_rfl
theorem p_looks : false = Tryz.prog.looks [] := by kernel_rfl
end Go.Proofs.YtgnkjmgkfibipaaGreatDoor
