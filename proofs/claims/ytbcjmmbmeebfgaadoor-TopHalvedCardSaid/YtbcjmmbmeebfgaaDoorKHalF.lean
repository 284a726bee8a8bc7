/- TopHalved, number by number: by the kernel. -/
import Derived.Test.YtbcjmmbmeebfgaaDoorKHalA
namespace Go.Proofs.YtbcjmmbmeebfgaaDoor
set_option linter.unusedVariables false
set_option linter.unusedSimpArgs false
open Go Go.R
set_option maxRecDepth 1000000
theorem h6_4 : chkH 6 4 = true := by kernel_rfl
theorem h6_5 : chkH 6 5 = true := by kernel_rfl
theorem h6_6 : chkH 6 6 = true := by kernel_rfl
end Go.Proofs.YtbcjmmbmeebfgaaDoor
