/- TopFlooded: the counts of the graphs of four places, part 6: by the kernel. -/
import Derived.Test.YtbcjmmbmeebfgaaGreatDoorSFloodedUF5
namespace Go.Proofs.YtbcjmmbmeebfgaaGreatDoor
set_option linter.unusedVariables false
set_option linter.unusedSimpArgs false
open Go Go.R
set_option maxRecDepth 1000000
noncomputable section
theorem cnt_4_836 (cap : Nat) : cntB 4 cap 836 = true := by kernel_rfl
theorem cnt_4_8896 (cap : Nat) : cntB 4 cap 8896 = true := by kernel_rfl
theorem cnt_4_19026 (cap : Nat) : cntB 4 cap 19026 = true := by kernel_rfl
end
end Go.Proofs.YtbcjmmbmeebfgaaGreatDoor
