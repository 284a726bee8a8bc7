/- Rests of bytes, as the laws take them. -/
import Derived.Test.YtgnkjmgkfibipaaDoorSWordsKG0
namespace Go.Proofs.YtgnkjmgkfibipaaDoor
set_option linter.unusedVariables false
set_option linter.unusedSimpArgs false
open Go Go.R
set_option maxRecDepth 1000000
noncomputable section

theorem knob : ownKnob Tryd.prog.godebug = none := by kernel_rfl
end
end Go.Proofs.YtgnkjmgkfibipaaDoor
