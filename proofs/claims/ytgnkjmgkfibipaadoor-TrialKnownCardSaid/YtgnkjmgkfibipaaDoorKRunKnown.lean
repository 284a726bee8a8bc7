/- TrialKnown: the machine's own answer, by the kernel. -/
import Derived.Test.YtgnkjmgkfibipaaDoorKRunWorks
namespace Go.Proofs.YtgnkjmgkfibipaaDoor
set_option linter.unusedVariables false
set_option linter.unusedSimpArgs false
open Go Go.R
set_option maxRecDepth 1000000
theorem known_runs : saysTrue (callA Tryd.prog works (99999 + 1) 17 [] AH.empty) = true := by kernel_rfl
end Go.Proofs.YtgnkjmgkfibipaaDoor
