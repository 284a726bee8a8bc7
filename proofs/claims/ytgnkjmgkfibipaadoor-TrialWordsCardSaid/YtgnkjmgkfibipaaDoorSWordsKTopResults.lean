/- TrialResults: lifted. -/
import Derived.Test.YtgnkjmgkfibipaaDoorSWordsKLawResults
import Derived.Test.YtgnkjmgkfibipaaDoorSWordsKRest
namespace Go.Proofs.YtgnkjmgkfibipaaDoor
set_option linter.unusedVariables false
set_option linter.unusedSimpArgs false
open Go.ChangeShapes Go.WideShapes Go.ChangeAt Go.RowKit
open Go Go.R
set_option maxRecDepth 1000000

theorem res_laid : laidOutB Tryd.prog = true := by kernel_rfl

end Go.Proofs.YtgnkjmgkfibipaaDoor
