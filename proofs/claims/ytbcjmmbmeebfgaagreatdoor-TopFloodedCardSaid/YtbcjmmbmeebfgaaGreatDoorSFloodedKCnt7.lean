/- TopFlooded: the counts of the graphs of four places, part 7: by the kernel. -/
import Derived.Test.YtbcjmmbmeebfgaaGreatDoorSFloodedUF5
namespace Go.Proofs.YtbcjmmbmeebfgaaGreatDoor
set_option linter.unusedVariables false
set_option linter.unusedSimpArgs false
open Go Go.R
set_option maxRecDepth 1000000
noncomputable section
theorem cnt_4_4104 (cap : Nat) : cntB 4 cap 4104 = true := by kernel_rfl
theorem cnt_4_8914 (cap : Nat) : cntB 4 cap 8914 = true := by kernel_rfl
theorem cnt_4_19268 (cap : Nat) : cntB 4 cap 19268 = true := by kernel_rfl
theorem cnt_3_0 (cap : Nat) : cntB 3 cap 0 = true := by kernel_rfl
theorem cnt_3_10 (cap : Nat) : cntB 3 cap 10 = true := by kernel_rfl
theorem cnt_3_68 (cap : Nat) : cntB 3 cap 68 = true := by kernel_rfl
theorem cnt_3_78 (cap : Nat) : cntB 3 cap 78 = true := by kernel_rfl
theorem cnt_3_160 (cap : Nat) : cntB 3 cap 160 = true := by kernel_rfl
theorem cnt_3_170 (cap : Nat) : cntB 3 cap 170 = true := by kernel_rfl
theorem cnt_3_228 (cap : Nat) : cntB 3 cap 228 = true := by kernel_rfl
end
end Go.Proofs.YtbcjmmbmeebfgaaGreatDoor
