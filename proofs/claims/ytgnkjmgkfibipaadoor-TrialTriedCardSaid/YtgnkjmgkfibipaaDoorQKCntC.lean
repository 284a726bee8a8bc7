/- What the kernel sees of Count's inner function at numbers of levels. -/
import Derived.Test.YtgnkjmgkfibipaaDoorQKCount
namespace Go.Proofs.YtgnkjmgkfibipaaDoor
set_option linter.unusedVariables false
set_option linter.unusedSimpArgs false
open Go Go.R
set_option maxRecDepth 1000000
theorem chk_8 : chk 8 = true := by kernel_rfl
theorem chk_9 : chk 9 = true := by kernel_rfl
theorem chk_10 : chk 10 = true := by kernel_rfl
end Go.Proofs.YtgnkjmgkfibipaaDoor


namespace Go.Proofs.YtgnkjmgkfibipaaDoor
set_option linter.unusedVariables false
set_option linter.unusedSimpArgs false
open Go Go.R
set_option maxRecDepth 1000000
theorem chk_11 : chk 11 = true := by kernel_rfl
theorem chk_12 : chk 12 = true := by kernel_rfl
end Go.Proofs.YtgnkjmgkfibipaaDoor
