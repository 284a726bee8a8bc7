/- What the kernel sees of Count's inner function at numbers of levels. -/
import Derived.Test.YtgnkjmgkfibipaaDoorQKCount
namespace Go.Proofs.YtgnkjmgkfibipaaDoor
set_option linter.unusedVariables false
set_option linter.unusedSimpArgs false
open Go Go.R
set_option maxRecDepth 1000000
theorem chk_0 : chk 0 = true := by kernel_rfl
theorem chk_1 : chk 1 = true := by kernel_rfl
theorem chk_2 : chk 2 = true := by kernel_rfl
theorem chk_3 : chk 3 = true := by kernel_rfl
theorem chk_4 : chk 4 = true := by kernel_rfl
end Go.Proofs.YtgnkjmgkfibipaaDoor


namespace Go.Proofs.YtgnkjmgkfibipaaDoor
set_option linter.unusedVariables false
set_option linter.unusedSimpArgs false
open Go Go.R
set_option maxRecDepth 1000000
theorem chk_5 : chk 5 = true := by kernel_rfl
theorem chk_6 : chk 6 = true := by kernel_rfl
theorem chk_7 : chk 7 = true := by kernel_rfl
end Go.Proofs.YtgnkjmgkfibipaaDoor
