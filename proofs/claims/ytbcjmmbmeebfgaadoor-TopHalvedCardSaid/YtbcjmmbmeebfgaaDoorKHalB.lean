/- TopHalved, number by number: by the kernel. -/
import Derived.Test.YtbcjmmbmeebfgaaDoorKHalA
namespace Go.Proofs.YtbcjmmbmeebfgaaDoor
set_option linter.unusedVariables false
set_option linter.unusedSimpArgs false
open Go Go.R
set_option maxRecDepth 1000000
theorem h1_0 : chkH 1 0 = true := by kernel_rfl
theorem h1_1 : chkH 1 1 = true := by kernel_rfl
theorem h2_0 : chkH 2 0 = true := by kernel_rfl
theorem h2_1 : chkH 2 1 = true := by kernel_rfl
theorem h2_2 : chkH 2 2 = true := by kernel_rfl
theorem h3_0 : chkH 3 0 = true := by kernel_rfl
theorem h3_1 : chkH 3 1 = true := by kernel_rfl
theorem h3_2 : chkH 3 2 = true := by kernel_rfl
theorem h3_3 : chkH 3 3 = true := by kernel_rfl
end Go.Proofs.YtbcjmmbmeebfgaaDoor
