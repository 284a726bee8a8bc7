/- bitsOf, and slices.Compare of numbers, as contracts. -/
import Derived.Test.YtbcjmmbmeebfgaaGreatDoorSFloodedUG3
namespace Go.Proofs.YtbcjmmbmeebfgaaGreatDoor
set_option linter.unusedVariables false
set_option linter.unusedSimpArgs false
open Go Go.R
set_option maxRecDepth 1000000
noncomputable section

/-! ### bitsOf -/
noncomputable def viewN (l : List Nat) : AObj := viewC (natsC l)
/-! ### slices.Compare -/
end
end Go.Proofs.YtbcjmmbmeebfgaaGreatDoor

/- slices.Compare of two rows of numbers, as a contract. -/
namespace Go.Proofs.YtbcjmmbmeebfgaaGreatDoor
set_option linter.unusedVariables false
set_option linter.unusedSimpArgs false
open Go Go.R
set_option maxRecDepth 1000000
noncomputable section

theorem idC_ok (m : Nat) : ArgC m (fun ss => ss) := fun μ ss l _ h => ⟨l, h, fun _ _ h1 => h1⟩
theorem fits2 {v w : View} {caps : List Nat} (h : FitsC [v, w] caps) : ∃ a b, caps = [a, b] ∧ v.n ≤ a ∧ w.n ≤ b := by
  match caps, h with
  | [a, b], h => exact ⟨a, b, rfl, h.1, h.2.1⟩
end
end Go.Proofs.YtbcjmmbmeebfgaaGreatDoor
