/- TopFlooded: the counts of the graphs of four places, part 3: by the kernel. -/
import Derived.Test.YtbcjmmbmeebfgaaGreatDoorSFloodedUF5
namespace Go.Proofs.YtbcjmmbmeebfgaaGreatDoor
set_option linter.unusedVariables false
set_option linter.unusedSimpArgs false
open Go Go.R
set_option maxRecDepth 1000000
noncomputable section
theorem cnt_4_278 (cap : Nat) : cntB 4 cap 278 = true := by kernel_rfl
theorem cnt_4_8320 (cap : Nat) : cntB 4 cap 8320 = true := by kernel_rfl
theorem cnt_4_18692 (cap : Nat) : cntB 4 cap 18692 = true := by kernel_rfl
theorem cnt_4_26752 (cap : Nat) : cntB 4 cap 26752 = true := by kernel_rfl
end
end Go.Proofs.YtbcjmmbmeebfgaaGreatDoor
