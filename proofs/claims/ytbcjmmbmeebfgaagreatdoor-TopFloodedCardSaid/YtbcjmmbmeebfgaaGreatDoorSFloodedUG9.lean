/- TopNarrowed, the plain law: what the results leave, and what the galleries leave. -/
import Derived.Test.YtbcjmmbmeebfgaaGreatDoorSFloodedUG8
namespace Go.Proofs.YtbcjmmbmeebfgaaGreatDoor
set_option linter.unusedVariables false
set_option linter.unusedSimpArgs false
open Go Go.R
set_option maxRecDepth 1000000
noncomputable section

theorem blt_iff {a b : Nat} : Nat.blt a b = true ↔ a < b := by rw [Nat.blt_eq]
/-! ### Two results that contradict each other -/
/-! ### The search -/
end
end Go.Proofs.YtbcjmmbmeebfgaaGreatDoor
