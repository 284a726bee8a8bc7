/- TrialChecked: the plain law: a stack finds the pattern of three. -/
import Derived.Test.YtgnkjmgkfibipaaGreatDoorSSpelledKG3
import Derived.Test.YtgnkjmgkfibipaaGreatDoorSSpelledRG6
namespace Go.Proofs.YtgnkjmgkfibipaaGreatDoor
set_option linter.unusedVariables false
set_option linter.unusedSimpArgs false
open Go Go.R
noncomputable section

noncomputable def atL (T : List Int) (j : Nat) : Int := T.getD j 0
theorem ltF_iff {a b : Int} : ltF a b = true ↔ a < b := by rw [ltF_eq, decide_eq_true_eq]
theorem ltF_not {a b : Int} : ltF a b = false ↔ b ≤ a := by rw [ltF_eq, decide_eq_false_iff_not]; omega

structure StkInv (f : Nat → Int) (n i : Nat) (c : Int) (T : List Int) : Prop where
  w1 : (∃ x y, x < y ∧ y < i ∧ f x = c ∧ f x < f y) ∨ ∀ k, k < n → c < f k
  w2 : ∀ x y, x < y → y < i → f x < f y → f x ≤ c
  w3 : ∀ x, x < i → (∃ j, j < T.length ∧ atL T j = f x) ∨ f x ≤ c
  w4 : ∀ x y, x < y → y < T.length → atL T y < atL T x
  w5 : ∀ j, j < T.length → c < atL T j
  w6 : ∀ j, j < T.length → ∃ x, x < i ∧ atL T j = f x

/-! ### The law's three loops -/
end
end Go.Proofs.YtgnkjmgkfibipaaGreatDoor

/- TrialChecked: outside, and whether a number stands in a list, whatever these are. -/
namespace Go.Proofs.YtgnkjmgkfibipaaGreatDoor
set_option linter.unusedVariables false
set_option linter.unusedSimpArgs false
open Go Go.R
set_option maxRecDepth 1000000
noncomputable section

/-! ### outside -/
/-! ### Rows of any numbers, only looked at -/
noncomputable def intsZ (n : Nat) (f : Nat → Int) : List Value := (List.range n).map fun i => .int .i64 (f i)
noncomputable def viewZ (n : Nat) (f : Nat → Int) : AObj := .cells (intsZ n f) false [] none
noncomputable def slV (n cap : Nat) : Value := .slice (some ⟨0, 0, none⟩) n cap
/-! ### Index, Contains -/
end
end Go.Proofs.YtgnkjmgkfibipaaGreatDoor

/- Check, whatever the list is. -/
namespace Go.Proofs.YtgnkjmgkfibipaaGreatDoor
set_option linter.unusedVariables false
set_option linter.unusedSimpArgs false
open Go Go.R
set_option maxRecDepth 1000000
noncomputable section

/-! ### The scan -/
/-! ### The stack -/
noncomputable def litZ (T : List Int) : List Value := T.map fun x => .int .i64 x
noncomputable def rowT (T : List Int) : AObj := .cells (litZ T) true [] (some 3)
end
end Go.Proofs.YtgnkjmgkfibipaaGreatDoor

/- Check, as a contract. -/
namespace Go.Proofs.YtgnkjmgkfibipaaGreatDoor
set_option linter.unusedVariables false
set_option linter.unusedSimpArgs false
open Go Go.R
set_option maxRecDepth 1000000
noncomputable section

abbrev StkPost (n cap : Nat) (f : Nat → Int) (b : Bool) (e : AExit) (af : AF) : Prop :=
  (e = .exit 3 ∧ b = true ∧ Less 1 (sth [(0, slV n cap)] 69 [viewZ n f]) af) ∨ (e = .ret ∧ b = false ∧ EndsAs Tryz.prog Tryz.f19 (Holds [viewZ n f] (.int .i64 7)) .ret af)

end
end Go.Proofs.YtgnkjmgkfibipaaGreatDoor
