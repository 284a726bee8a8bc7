/- TopFlooded: the counts of the graphs of four places, part 1: by the kernel. -/
import Derived.Test.YtbcjmmbmeebfgaaGreatDoorSFloodedUF5
namespace Go.Proofs.YtbcjmmbmeebfgaaGreatDoor
set_option linter.unusedVariables false
set_option linter.unusedSimpArgs false
open Go Go.R
set_option maxRecDepth 1000000
noncomputable section
theorem cnt_4_18 (cap : Nat) : cntB 4 cap 18 = true := by kernel_rfl
theorem cnt_4_4680 (cap : Nat) : cntB 4 cap 4680 = true := by kernel_rfl
theorem cnt_4_18432 (cap : Nat) : cntB 4 cap 18432 = true := by kernel_rfl
theorem cnt_4_22554 (cap : Nat) : cntB 4 cap 22554 = true := by kernel_rfl
end
end Go.Proofs.YtbcjmmbmeebfgaaGreatDoor
