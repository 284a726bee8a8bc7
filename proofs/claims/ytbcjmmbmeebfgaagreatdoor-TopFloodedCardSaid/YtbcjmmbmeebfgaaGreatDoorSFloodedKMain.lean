/- The harness's sum, and what the program looks at: once for all laws. -/
import Derived.Test.YtbcjmmbmeebfgaaGreatDoorSFloodedUG0
import Derived.SevenTiedAt
namespace Go.Proofs.YtbcjmmbmeebfgaaGreatDoor
set_option linter.unusedVariables false
set_option linter.unusedSimpArgs false
open Go
theorem p_main : Tryz.prog.mainIs = some (true, "e2f1466eeb4800ca71e6029e407fccf16044b05989352f7a54bf037b38230f96".toList) := by kernel_rfl
theorem p_looks : true = Tryz.prog.looks [] := by kernel_rfl
end Go.Proofs.YtbcjmmbmeebfgaaGreatDoor
