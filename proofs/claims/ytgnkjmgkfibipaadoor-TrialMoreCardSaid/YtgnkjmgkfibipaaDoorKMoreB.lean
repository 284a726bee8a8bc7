/- TrialMore: what the kernel sees. -/
import Derived.Test.YtgnkjmgkfibipaaDoorKMoreDefs
namespace Go.Proofs.YtgnkjmgkfibipaaDoor
set_option linter.unusedVariables false
set_option linter.unusedSimpArgs false
open Go Go.R
set_option maxRecDepth 1000000
theorem m4 : chkM 4 = true := by kernel_rfl
theorem m5 : chkM 5 = true := by kernel_rfl
theorem m6 : chkM 6 = true := by kernel_rfl
theorem m7 : chkM 7 = true := by kernel_rfl
end Go.Proofs.YtgnkjmgkfibipaaDoor
