/- TopFlooded: the counts of the graphs of four places, part 2: by the kernel. -/
import Derived.Test.YtbcjmmbmeebfgaaGreatDoorSFloodedUF5
namespace Go.Proofs.YtbcjmmbmeebfgaaGreatDoor
set_option linter.unusedVariables false
set_option linter.unusedSimpArgs false
open Go Go.R
set_option maxRecDepth 1000000
noncomputable section
theorem cnt_4_260 (cap : Nat) : cntB 4 cap 260 = true := by kernel_rfl
theorem cnt_4_4698 (cap : Nat) : cntB 4 cap 4698 = true := by kernel_rfl
theorem cnt_4_18450 (cap : Nat) : cntB 4 cap 18450 = true := by kernel_rfl
theorem cnt_4_23112 (cap : Nat) : cntB 4 cap 23112 = true := by kernel_rfl
end
end Go.Proofs.YtbcjmmbmeebfgaaGreatDoor
