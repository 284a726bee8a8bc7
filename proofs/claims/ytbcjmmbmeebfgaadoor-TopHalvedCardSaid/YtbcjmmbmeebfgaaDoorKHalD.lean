/- TopHalved, number by number: by the kernel. -/
import Derived.Test.YtbcjmmbmeebfgaaDoorKHalA
namespace Go.Proofs.YtbcjmmbmeebfgaaDoor
set_option linter.unusedVariables false
set_option linter.unusedSimpArgs false
open Go Go.R
set_option maxRecDepth 1000000
theorem h5_0 : chkH 5 0 = true := by kernel_rfl
theorem h5_1 : chkH 5 1 = true := by kernel_rfl
theorem h5_2 : chkH 5 2 = true := by kernel_rfl
theorem h5_3 : chkH 5 3 = true := by kernel_rfl
theorem h5_4 : chkH 5 4 = true := by kernel_rfl
theorem h5_5 : chkH 5 5 = true := by kernel_rfl
end Go.Proofs.YtbcjmmbmeebfgaaDoor
