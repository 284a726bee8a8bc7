/- TopHalved, number by number: by the kernel. -/
import Derived.Test.YtbcjmmbmeebfgaaDoorKHalA
namespace Go.Proofs.YtbcjmmbmeebfgaaDoor
set_option linter.unusedVariables false
set_option linter.unusedSimpArgs false
open Go Go.R
set_option maxRecDepth 1000000
theorem h6_0 : chkH 6 0 = true := by kernel_rfl
theorem h6_1 : chkH 6 1 = true := by kernel_rfl
theorem h6_2 : chkH 6 2 = true := by kernel_rfl
theorem h6_3 : chkH 6 3 = true := by kernel_rfl
end Go.Proofs.YtbcjmmbmeebfgaaDoor
