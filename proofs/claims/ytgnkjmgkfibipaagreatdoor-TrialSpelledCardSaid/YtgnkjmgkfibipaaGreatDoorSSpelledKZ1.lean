/- outcome: a round of its inner loop. -/
import Derived.Test.YtgnkjmgkfibipaaGreatDoorSSpelledKG5
import Derived.Test.YtgnkjmgkfibipaaGreatDoorSSpelledKG7
namespace Go.Proofs.YtgnkjmgkfibipaaGreatDoor
set_option linter.unusedVariables false
set_option linter.unusedSimpArgs false
open Go Go.R
set_option maxRecDepth 1000000
noncomputable section

theorem str_add {w : ByteArray} (c : UInt8) (hw : w.size < 1000000) : strBin .add w ⟨#[c]⟩ = some (.string (w ++ ⟨#[c]⟩)) := by
  have e : (IntKind.i64.max : Int) = 9223372036854775807 := by decide
  unfold strBin
  show (if ((w.size + 1 : Nat) : Int) > IntKind.i64.max then none else some (Value.string (w ++ ⟨#[c]⟩))) = _
  rw [e, if_neg (by omega)]
end
end Go.Proofs.YtgnkjmgkfibipaaGreatDoor

/- outcome, as a contract. -/
namespace Go.Proofs.YtgnkjmgkfibipaaGreatDoor
set_option linter.unusedVariables false
set_option linter.unusedSimpArgs false
open Go Go.R
set_option maxRecDepth 1000000
noncomputable section

end
end Go.Proofs.YtgnkjmgkfibipaaGreatDoor

/- TrialSums: outcome over a list, and what its function does with each plan. -/
namespace Go.Proofs.YtgnkjmgkfibipaaGreatDoor
set_option linter.unusedVariables false
set_option linter.unusedSimpArgs false
open Go Go.R
set_option maxRecDepth 1000000
noncomputable section

/-! ### The function -/
structure SmS where
  least : Int
  few : Int

end
end Go.Proofs.YtgnkjmgkfibipaaGreatDoor
