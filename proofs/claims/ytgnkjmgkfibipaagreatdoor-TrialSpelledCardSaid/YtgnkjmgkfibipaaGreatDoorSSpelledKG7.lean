/- TrialTried: what its function does with each plan. -/
import Derived.Test.YtgnkjmgkfibipaaGreatDoorSSpelledKG6
import Derived.Test.YtgnkjmgkfibipaaGreatDoorSSpelledRG7
namespace Go.Proofs.YtgnkjmgkfibipaaGreatDoor
set_option linter.unusedVariables false
set_option linter.unusedSimpArgs false
open Go Go.R
set_option maxRecDepth 1000000
noncomputable section

/-! ### slices.Contains over a list that may be nil -/
theorem local_one {h h1 : AH} {k fid : Nat} {args : List Value} {v : Value} (S : Says Tryz.prog h fid args v h1) (hk : k ≤ h.next) : Local Tryz.prog k fid args h fun v' _ => v' = v := fun F w0 μ w args' H hl =>
  (S F w0 μ w args' H hl).mono fun v' w' ⟨μ', a, b, c⟩ => ⟨v, h1, rfl, μ', a, b, Held.of_ext c hk⟩

end
end Go.Proofs.YtgnkjmgkfibipaaGreatDoor
