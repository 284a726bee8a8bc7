/- TopHalved, number by number: by the kernel. -/
import Derived.Test.YtbcjmmbmeebfgaaDoorKHalA
namespace Go.Proofs.YtbcjmmbmeebfgaaDoor
set_option linter.unusedVariables false
set_option linter.unusedSimpArgs false
open Go Go.R
set_option maxRecDepth 1000000
theorem h4_0 : chkH 4 0 = true := by kernel_rfl
theorem h4_1 : chkH 4 1 = true := by kernel_rfl
theorem h4_2 : chkH 4 2 = true := by kernel_rfl
theorem h4_3 : chkH 4 3 = true := by kernel_rfl
theorem h4_4 : chkH 4 4 = true := by kernel_rfl
end Go.Proofs.YtbcjmmbmeebfgaaDoor
