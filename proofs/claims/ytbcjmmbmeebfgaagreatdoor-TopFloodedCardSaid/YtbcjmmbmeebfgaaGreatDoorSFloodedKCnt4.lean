/- TopFlooded: the counts of the graphs of four places, part 4: by the kernel. -/
import Derived.Test.YtbcjmmbmeebfgaaGreatDoorSFloodedUF5
namespace Go.Proofs.YtbcjmmbmeebfgaaGreatDoor
set_option linter.unusedVariables false
set_option linter.unusedSimpArgs false
open Go Go.R
set_option maxRecDepth 1000000
noncomputable section
theorem cnt_4_576 (cap : Nat) : cntB 4 cap 576 = true := by kernel_rfl
theorem cnt_4_8338 (cap : Nat) : cntB 4 cap 8338 = true := by kernel_rfl
theorem cnt_4_18710 (cap : Nat) : cntB 4 cap 18710 = true := by kernel_rfl
theorem cnt_4_26770 (cap : Nat) : cntB 4 cap 26770 = true := by kernel_rfl
end
end Go.Proofs.YtbcjmmbmeebfgaaGreatDoor
