/- The search for a shortest set of galleries that leaves no place. -/
import Derived.Test.YtbcjmmbmeebfgaaGreatDoorSFloodedUG5
namespace Go.Proofs.YtbcjmmbmeebfgaaGreatDoor
set_option linter.unusedVariables false
set_option linter.unusedSimpArgs false
open Go Go.R
set_option maxRecDepth 1000000
noncomputable section

noncomputable def Lst (k m : Nat) (A B C : Nat → Int) : Option Nat → List AObj
  | none => Ln k m A B C
  | some t => Lf k m A B C (bitsN t)
end
end Go.Proofs.YtbcjmmbmeebfgaaGreatDoor

/- sets, shortest, Contradict: as contracts. -/
namespace Go.Proofs.YtbcjmmbmeebfgaaGreatDoor
set_option linter.unusedVariables false
set_option linter.unusedSimpArgs false
open Go Go.R
set_option maxRecDepth 1000000
noncomputable section

/-! ### shortest -/
end
end Go.Proofs.YtbcjmmbmeebfgaaGreatDoor

/- Contradict, as a contract. -/
namespace Go.Proofs.YtbcjmmbmeebfgaaGreatDoor
set_option linter.unusedVariables false
set_option linter.unusedSimpArgs false
open Go Go.R
set_option maxRecDepth 1000000
noncomputable section
end
end Go.Proofs.YtbcjmmbmeebfgaaGreatDoor
