/- slices.Concat of three lists of numbers, where all plans are made: its rounds. -/
import Derived.Test.YtgnkjmgkfibipaaGreatDoorSPlansKG5
import Derived.Test.YtgnkjmgkfibipaaGreatDoorSPlansKG3
import Derived.Test.YtgnkjmgkfibipaaGreatDoorSPlansRG7
import Derived.Shelf.Spec.SlicesGrow
namespace Go.Proofs.YtgnkjmgkfibipaaGreatDoor
set_option linter.unusedVariables false
set_option linter.unusedSimpArgs false
open Go Go.R
set_option maxRecDepth 1000000
noncomputable section

theorem planV_clo {k q : Nat} (h : q < k) (l : List Nat) : Clo k (planV q l) := by
  cases l with
  | nil => exact clo_plain rfl
  | cons x l => exact clo_of 10 k _ (by show (false || Nat.blt q k) = true; rw [Bool.false_or, Nat.blt_eq]; exact h)
theorem wrap_addN {s n : Nat} (h : s + n < 4611686018427387904) : wrapF .i64 (Int.add (.ofNat s) (.ofNat n)) = .ofNat (s + n) := by
  show cond (Nat.blt (s + n) 9223372036854775808) (Int.ofNat (s + n)) _ = _
  have : Nat.blt (s + n) 9223372036854775808 = true := by rw [Nat.blt_eq]; omega
  rw [this]; rfl

section
variable (H L T D : Nat) (E : Value) (a c : List Nat)

end
end
end Go.Proofs.YtgnkjmgkfibipaaGreatDoor

/- Where all plans are made: the innermost function, which puts a plan together and hands it on. -/
namespace Go.Proofs.YtgnkjmgkfibipaaGreatDoor
set_option linter.unusedVariables false
set_option linter.unusedSimpArgs false
open Go Go.R
set_option maxRecDepth 1000000
noncomputable section

theorem maxV_nat (x y : Nat) : maxV (.ofNat x) (.ofNat y) = .ofNat (max x y) := by
  unfold maxV
  by_cases h : y > x
  · rw [if_pos (show Int.ofNat y > Int.ofNat x from Int.ofNat_lt.2 h), Nat.max_eq_right (by omega)]
  · rw [if_neg (show ¬ Int.ofNat y > Int.ofNat x from fun q => h (Int.ofNat_lt.1 q)), Nat.max_eq_left (by omega)]

end
end Go.Proofs.YtgnkjmgkfibipaaGreatDoor
