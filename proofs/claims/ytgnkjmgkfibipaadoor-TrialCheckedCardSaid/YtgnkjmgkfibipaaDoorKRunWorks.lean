/- The examples that every law ends in: the machine's answer, by the kernel; and the contract. -/
import Derived.Test.YtgnkjmgkfibipaaDoorKFacts
import Derived.Test.YtgnkjmgkfibipaaDoorRHook
namespace Go.Proofs.YtgnkjmgkfibipaaDoor
set_option linter.unusedVariables false
set_option linter.unusedSimpArgs false
open Go Go.R
set_option maxRecDepth 1000000
theorem works_runs : says (callA Tryd.prog (extA ids) (99999 + 1) 18 [] AH.empty) (.bool true) = true := by kernel_rfl
noncomputable def works : Hook := orH (extA ids) (closedH 18 [] (.bool true))
theorem works_ok : HookOk Tryd.prog works := or_ok hooks (closed_ok mixed noNum hooks Tryd.func18 (by kernel_rfl) (by kernel_rfl) (by kernel_rfl) works_runs)
end Go.Proofs.YtgnkjmgkfibipaaDoor
