/- TopFlooded: the counts of the graphs of four places, part 5: by the kernel. -/
import Derived.Test.YtbcjmmbmeebfgaaGreatDoorSFloodedUF5
namespace Go.Proofs.YtbcjmmbmeebfgaaGreatDoor
set_option linter.unusedVariables false
set_option linter.unusedSimpArgs false
open Go Go.R
set_option maxRecDepth 1000000
noncomputable section
theorem cnt_4_594 (cap : Nat) : cntB 4 cap 594 = true := by kernel_rfl
theorem cnt_4_8580 (cap : Nat) : cntB 4 cap 8580 = true := by kernel_rfl
theorem cnt_4_19008 (cap : Nat) : cntB 4 cap 19008 = true := by kernel_rfl
theorem cnt_4_27030 (cap : Nat) : cntB 4 cap 27030 = true := by kernel_rfl
end
end Go.Proofs.YtbcjmmbmeebfgaaGreatDoor
