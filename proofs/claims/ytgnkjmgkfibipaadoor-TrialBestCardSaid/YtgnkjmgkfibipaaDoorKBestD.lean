/- TrialBest: what the kernel sees. -/
import Derived.Test.YtgnkjmgkfibipaaDoorKBestC
namespace Go.Proofs.YtgnkjmgkfibipaaDoor
set_option linter.unusedVariables false
set_option linter.unusedSimpArgs false
open Go Go.R
set_option maxRecDepth 1000000
theorem b1_0 : chkB1 0 = true := by kernel_rfl
theorem b1_1 : chkB1 1 = true := by kernel_rfl
theorem b1_2 : chkB1 2 = true := by kernel_rfl
theorem b1_3 : chkB1 3 = true := by kernel_rfl
theorem b1_4 : chkB1 4 = true := by kernel_rfl
theorem b1_5 : chkB1 5 = true := by kernel_rfl
theorem b1_6 : chkB1 6 = true := by kernel_rfl
theorem b1_7 : chkB1 7 = true := by kernel_rfl
theorem b1_8 : chkB1 8 = true := by kernel_rfl
theorem b1_9 : chkB1 9 = true := by kernel_rfl
theorem b1_10 : chkB1 10 = true := by kernel_rfl
theorem b1_11 : chkB1 11 = true := by kernel_rfl
theorem b1_12 : chkB1 12 = true := by kernel_rfl
end Go.Proofs.YtgnkjmgkfibipaaDoor
