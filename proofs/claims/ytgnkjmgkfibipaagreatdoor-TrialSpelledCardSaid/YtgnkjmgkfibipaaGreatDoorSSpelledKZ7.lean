/- TrialPlans: the reference's blunt, Worst and Sum. -/
import Derived.Test.YtgnkjmgkfibipaaGreatDoorSSpelledKZ6
import Derived.Test.YtgnkjmgkfibipaaGreatDoorSSpelledKW1
import Derived.Test.YtgnkjmgkfibipaaGreatDoorSSpelledKZ9
import Derived.Test.YtgnkjmgkfibipaaGreatDoorSSpelledKPrvB
import Derived.Test.YtgnkjmgkfibipaaGreatDoorSSpelledRG5
namespace Go.Proofs.YtgnkjmgkfibipaaGreatDoor
set_option linter.unusedVariables false
set_option linter.unusedSimpArgs false
open Go Go.R
set_option maxRecDepth 1000000
noncomputable section

/-! ### blunt -/
/-! ### Worst -/
section
variable {n cap : Nat} {f : Nat → Int}
/-! ### Sum -/
end
end
end Go.Proofs.YtgnkjmgkfibipaaGreatDoor

/- TrialPlans: Proves in both texts, lists that are no plans, equal lists of words. -/
namespace Go.Proofs.YtgnkjmgkfibipaaGreatDoor
set_option linter.unusedVariables false
set_option linter.unusedSimpArgs false
open Go Go.R
set_option maxRecDepth 1000000
noncomputable section

section
variable {n cap : Nat} {f : Nat → Int}
/-! ### The program, where the list is no plan -/
/-! ### The reference's Proves -/
end

/-! ### equal, at any two rows of words -/
theorem strV_at {h : AH} {g i k : Nat} {f : Nat → ByteArray} {lv : Bool} {par : List Nat} {ty : Option TypeId} (hg : h.get g = .cells (strsV k f) lv par ty) (hi : i < k) : rowAt? h g (0 + i * 1) 1 = some [.string (f i)] := by
  rw [row_at hg (by rw [strsV_len]; omega), Nat.zero_add, Nat.mul_one]
  have : (strsV k f)[i]? = some (.string (f i)) := by simp [strsV, hi]
  rw [List.take_one, List.head?_drop, this]
  rfl
end
end Go.Proofs.YtgnkjmgkfibipaaGreatDoor
