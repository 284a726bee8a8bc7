/- The harness's sum, and what the program looks at: once for all laws. -/
import Derived.Test.YtbcjmmbmeebfgaaDoorKFacts
import Derived.SevenTiedAt
namespace Go.Proofs.YtbcjmmbmeebfgaaDoor
set_option linter.unusedVariables false
set_option linter.unusedSimpArgs false
open Go
theorem p_main : Tryd.prog.mainIs = some (true, "ffe717b3ef1e5565e56f3ca69e2baf7c05d833db7ff48f5e04adef6781424ba1".toList) := by kernel_rfl
theorem p_looks : true = Tryd.prog.looks [] := by kernel_rfl
end Go.Proofs.YtbcjmmbmeebfgaaDoor
