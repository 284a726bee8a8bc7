/- TrialBest: what the kernel sees. -/
import Derived.Test.YtgnkjmgkfibipaaDoorKBestC
namespace Go.Proofs.YtgnkjmgkfibipaaDoor
set_option linter.unusedVariables false
set_option linter.unusedSimpArgs false
open Go Go.R
set_option maxRecDepth 1000000
theorem b2_0 : chkB2 0 = true := by kernel_rfl
theorem b2_1 : chkB2 1 = true := by kernel_rfl
theorem b2_2 : chkB2 2 = true := by kernel_rfl
theorem b2_3 : chkB2 3 = true := by kernel_rfl
theorem b2_4 : chkB2 4 = true := by kernel_rfl
theorem b2_5 : chkB2 5 = true := by kernel_rfl
theorem b2_6 : chkB2 6 = true := by kernel_rfl
theorem b2_7 : chkB2 7 = true := by kernel_rfl
theorem b2_8 : chkB2 8 = true := by kernel_rfl
theorem b2_9 : chkB2 9 = true := by kernel_rfl
theorem b2_10 : chkB2 10 = true := by kernel_rfl
theorem b2_11 : chkB2 11 = true := by kernel_rfl
theorem b2_12 : chkB2 12 = true := by kernel_rfl
end Go.Proofs.YtgnkjmgkfibipaaDoor
