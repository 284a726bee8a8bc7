/- TrialMore: what the kernel sees. -/
import Derived.Test.YtgnkjmgkfibipaaDoorKMoreDefs
namespace Go.Proofs.YtgnkjmgkfibipaaDoor
set_option linter.unusedVariables false
set_option linter.unusedSimpArgs false
open Go Go.R
set_option maxRecDepth 1000000
theorem m8 : chkM 8 = true := by kernel_rfl
theorem m9 : chkM 9 = true := by kernel_rfl
theorem m10 : chkM 10 = true := by kernel_rfl
theorem m11 : chkM 11 = true := by kernel_rfl
end Go.Proofs.YtgnkjmgkfibipaaDoor
