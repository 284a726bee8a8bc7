/- strings.Count, Worst and Proves over plans that pass the check. -/
import Derived.Test.YtgnkjmgkfibipaaDoorSWordsKG8
import Derived.Test.YtgnkjmgkfibipaaDoorSWordsKTabs
namespace Go.Proofs.YtgnkjmgkfibipaaDoor
set_option linter.unusedVariables false
set_option linter.unusedSimpArgs false
open Go Go.R
set_option maxRecDepth 1000000
noncomputable section

/-! ### Letters -/
/-! ### The worst case -/
end
end Go.Proofs.YtgnkjmgkfibipaaDoor

/- Proves over plans that pass the check. -/
namespace Go.Proofs.YtgnkjmgkfibipaaDoor
set_option linter.unusedVariables false
set_option linter.unusedSimpArgs false
open Go Go.R
set_option maxRecDepth 1000000
noncomputable section

end
end Go.Proofs.YtgnkjmgkfibipaaDoor
