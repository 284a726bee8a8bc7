/- TopFlooded: the counts of the graphs of four places, part 0: by the kernel. -/
import Derived.Test.YtbcjmmbmeebfgaaGreatDoorSFloodedUF5
namespace Go.Proofs.YtbcjmmbmeebfgaaGreatDoor
set_option linter.unusedVariables false
set_option linter.unusedSimpArgs false
open Go Go.R
set_option maxRecDepth 1000000
noncomputable section
theorem cnt_4_0 (cap : Nat) : cntB 4 cap 0 = true := by kernel_rfl
theorem cnt_4_4122 (cap : Nat) : cntB 4 cap 4122 = true := by kernel_rfl
theorem cnt_4_9156 (cap : Nat) : cntB 4 cap 9156 = true := by kernel_rfl
theorem cnt_4_22536 (cap : Nat) : cntB 4 cap 22536 = true := by kernel_rfl
end
end Go.Proofs.YtbcjmmbmeebfgaaGreatDoor
