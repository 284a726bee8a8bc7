/- The reference's told, whatever the results are. -/
import Derived.Test.YtgnkjmgkfibipaaGreatDoorSSpelledKG1
import Derived.Test.YtgnkjmgkfibipaaGreatDoorSSpelledRG6
namespace Go.Proofs.YtgnkjmgkfibipaaGreatDoor
set_option linter.unusedVariables false
set_option linter.unusedSimpArgs false
open Go Go.R
set_option maxRecDepth 1000000
noncomputable section

theorem hk38 : CallOk Tryz.prog k38 := call_ok mixed noNum works_ok 1000

theorem keepOf {os : List AObj} {h : AH} (e : h = hp os) : ∀ (j : Nat) x, os[j]? = some x → h.get j = x := fun j x hx => by rw [e]; exact hp_get os j x hx

theorem lt_self (i : Nat) : ltF (.ofNat i) (.ofNat i) = false := by
  show Nat.blt i i = false
  cases h : Nat.blt i i with
  | false => rfl
  | true => exact absurd (blt_lt h) (Nat.lt_irrefl i)
theorem lt_of {i n : Nat} (h : i < n) : ltF (.ofNat i) (.ofNat n) = true := by
  show Nat.blt i n = true
  rw [Nat.blt_eq]; exact h

end
end Go.Proofs.YtgnkjmgkfibipaaGreatDoor

/- Why, whatever the results are. -/
namespace Go.Proofs.YtgnkjmgkfibipaaGreatDoor
set_option linter.unusedVariables false
set_option linter.unusedSimpArgs false
open Go Go.R
set_option maxRecDepth 1000000
noncomputable section

theorem wrap_ofNat {k : Nat} (h : k < 9223372036854775808) : wrapF .i64 (.ofNat k) = .ofNat k := by
  show cond (Nat.blt k 9223372036854775808) (Int.ofNat k) _ = _
  have : Nat.blt k 9223372036854775808 = true := by rw [Nat.blt_eq]; exact h
  rw [this]; rfl

end
end Go.Proofs.YtgnkjmgkfibipaaGreatDoor

/- TrialResults: the law's run, whatever the results are. -/
namespace Go.Proofs.YtgnkjmgkfibipaaGreatDoor
set_option linter.unusedVariables false
set_option linter.unusedSimpArgs false
open Go Go.R
set_option maxRecDepth 1000000
noncomputable section

theorem eq_self (x : Int) : eqF x x = true := by rw [eqF_eq]; exact beq_self_eq_true x

/-! ### No results -/
end
end Go.Proofs.YtgnkjmgkfibipaaGreatDoor
