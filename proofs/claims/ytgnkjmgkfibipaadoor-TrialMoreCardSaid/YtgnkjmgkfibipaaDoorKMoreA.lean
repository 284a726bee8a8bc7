/- TrialMore: what the kernel sees. -/
import Derived.Test.YtgnkjmgkfibipaaDoorKMoreDefs
namespace Go.Proofs.YtgnkjmgkfibipaaDoor
set_option linter.unusedVariables false
set_option linter.unusedSimpArgs false
open Go Go.R
set_option maxRecDepth 1000000
theorem m0 : chkM 0 = true := by kernel_rfl
theorem m1 : chkM 1 = true := by kernel_rfl
theorem m2 : chkM 2 = true := by kernel_rfl
theorem m3 : chkM 3 = true := by kernel_rfl
end Go.Proofs.YtgnkjmgkfibipaaDoor
