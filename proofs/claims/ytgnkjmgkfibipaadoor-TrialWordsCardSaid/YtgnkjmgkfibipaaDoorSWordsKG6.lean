/- slices.Grow at the nil slice, as a contract: a new row without elements, whose room is not told. -/
import Derived.Test.YtgnkjmgkfibipaaDoorSWordsKG5
import Derived.Shelf.Spec.SlicesGrow
import Derived.Test.YtgnkjmgkfibipaaDoorSWordsKG3
import Derived.Test.YtgnkjmgkfibipaaDoorSWordsRG7
namespace Go.Proofs
open Go.Shelf
end Go.Proofs
namespace Go.Proofs.YtgnkjmgkfibipaaDoor
set_option linter.unusedVariables false
set_option linter.unusedSimpArgs false
open Go Go.R
set_option maxRecDepth 1000000
noncomputable section

end
end Go.Proofs.YtgnkjmgkfibipaaDoor

/- slices.Concat of three lists of numbers, where all plans are made: its rounds. -/
namespace Go.Proofs.YtgnkjmgkfibipaaDoor
set_option linter.unusedVariables false
set_option linter.unusedSimpArgs false
open Go Go.R
set_option maxRecDepth 1000000
noncomputable section

section
variable (H L T D : Nat) (E : Value) (a c : List Nat)

/-- What stands in the row of lists. -/
noncomputable def rowAt (j : Nat) : Value := match j with
  | 0 => .slice (some ⟨24, 0, none⟩) 1 1
  | 1 => planV 19 a
  | _ => planV 23 c
end
end
end Go.Proofs.YtgnkjmgkfibipaaDoor

/- slices.Concat of three lists of numbers, where all plans are made: a new row. -/
namespace Go.Proofs.YtgnkjmgkfibipaaDoor
set_option linter.unusedVariables false
set_option linter.unusedSimpArgs false
open Go Go.R
set_option maxRecDepth 1000000
noncomputable section

end
end Go.Proofs.YtgnkjmgkfibipaaDoor

/- Where all plans are made: the innermost function, which puts a plan together and hands it on. -/
namespace Go.Proofs.YtgnkjmgkfibipaaDoor
set_option linter.unusedVariables false
set_option linter.unusedSimpArgs false
open Go Go.R
set_option maxRecDepth 1000000
noncomputable section

end
end Go.Proofs.YtgnkjmgkfibipaaDoor

/- All plans, as a list (in Lean alone). -/
namespace Go.Proofs.YtgnkjmgkfibipaaDoor
set_option linter.unusedVariables false
set_option linter.unusedSimpArgs false

end Go.Proofs.YtgnkjmgkfibipaaDoor

/- All plans: the middle function, and the whole. -/
namespace Go.Proofs.YtgnkjmgkfibipaaDoor
set_option linter.unusedVariables false
set_option linter.unusedSimpArgs false
open Go Go.R
set_option maxRecDepth 1000000
noncomputable section

end
end Go.Proofs.YtgnkjmgkfibipaaDoor

/- All plans: each is handed on, in the list's order. -/
namespace Go.Proofs.YtgnkjmgkfibipaaDoor
set_option linter.unusedVariables false
set_option linter.unusedSimpArgs false
open Go Go.R
set_option maxRecDepth 1000000
noncomputable section

end
end Go.Proofs.YtgnkjmgkfibipaaDoor
