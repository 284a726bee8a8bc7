/- The examples that the law ends in: the machine's answers, by the kernel; and their contracts. -/
import Derived.Test.YtbcjmmbmeebfgaaDoorKFacts
namespace Go.Proofs.YtbcjmmbmeebfgaaDoor
set_option linter.unusedVariables false
set_option linter.unusedSimpArgs false
open Go Go.R
set_option maxRecDepth 1000000
noncomputable section
theorem seams_runs : says (callA Tryd.prog hk0 (99999 + 1) 34 [] AH.empty) (.bool true) = true := by kernel_rfl
def hk1 : Hook := orH hk0 (closedH 34 [] (.bool true))
theorem hk1_ok : HookOk Tryd.prog hk1 := or_ok hooks (closed_ok mixed noNum hooks Tryd.func34 (by kernel_rfl) (by kernel_rfl) (by kernel_rfl) seams_runs)
theorem drains_runs : says (callA Tryd.prog hk1 (99999 + 1) 26 [] AH.empty) (.bool true) = true := by kernel_rfl
def hk2 : Hook := orH hk1 (closedH 26 [] (.bool true))
theorem hk2_ok : HookOk Tryd.prog hk2 := or_ok hk1_ok (closed_ok mixed noNum hk1_ok Tryd.func26 (by kernel_rfl) (by kernel_rfl) (by kernel_rfl) drains_runs)
theorem trials_runs : says (callA Tryd.prog hk2 (99999 + 1) 10 [] AH.empty) (.bool true) = true := by kernel_rfl
def hk3 : Hook := orH hk2 (closedH 10 [] (.bool true))
theorem hk3_ok : HookOk Tryd.prog hk3 := or_ok hk2_ok (closed_ok mixed noNum hk2_ok Tryd.func10 (by kernel_rfl) (by kernel_rfl) (by kernel_rfl) trials_runs)
end
end Go.Proofs.YtbcjmmbmeebfgaaDoor
