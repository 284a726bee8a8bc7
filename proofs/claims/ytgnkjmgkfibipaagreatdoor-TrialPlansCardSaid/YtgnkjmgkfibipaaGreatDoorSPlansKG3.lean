/- TrialPrices: the program's prices. -/
import Derived.Test.YtgnkjmgkfibipaaGreatDoorSPlansKG2
import Derived.Test.YtgnkjmgkfibipaaGreatDoorSPlansRG6
import Derived.Test.YtgnkjmgkfibipaaGreatDoorSPlansRG5
namespace Go.Proofs.YtgnkjmgkfibipaaGreatDoor
set_option linter.unusedVariables false
set_option linter.unusedSimpArgs false
open Go Go.R
set_option maxRecDepth 1000000
noncomputable section

theorem f_sub {a b : Nat} (h : b ≤ a) (ha : a < 9223372036854775808) : wrapF .i64 (Int.sub (.ofNat a) (.ofNat b)) = .ofNat (a - b) := by
  have e : Int.sub (.ofNat a) (.ofNat b) = .ofNat (a - b) := by show (a : Int) - (b : Int) = ((a - b : Nat) : Int); omega
  rw [e]; exact wrap_ofNat (by omega)
end
end Go.Proofs.YtgnkjmgkfibipaaGreatDoor

/- TrialPrices: the program's prices, as a contract. -/
namespace Go.Proofs.YtgnkjmgkfibipaaGreatDoor
set_option linter.unusedVariables false
set_option linter.unusedSimpArgs false
open Go Go.R
set_option maxRecDepth 1000000
noncomputable section

theorem int_info : ∃ info, Tryz.prog.info? 3 = some info ∧ info.size = 1 ∧ (decide (info.bytes > 1000000) || !zfit info) = false := ⟨(Tryz.prog.info? 3).get!, by kernel_rfl, by kernel_rfl, by kernel_rfl⟩

end
end Go.Proofs.YtgnkjmgkfibipaaGreatDoor

/- TrialPrices: both lists of prices, as contracts. -/
namespace Go.Proofs.YtgnkjmgkfibipaaGreatDoor
set_option linter.unusedVariables false
set_option linter.unusedSimpArgs false
open Go Go.R
set_option maxRecDepth 1000000
noncomputable section

theorem three_plain {a b c : Int} : ∀ x ∈ [Value.int .i64 a, .int .i64 b, .int .i64 c], plainV x = true := fun x hx => by
  simp only [List.mem_cons, List.mem_nil_iff, or_false] at hx
  rcases hx with rfl | rfl | rfl <;> rfl

/-! ### The reference's -/
end
end Go.Proofs.YtgnkjmgkfibipaaGreatDoor

/- TrialPrices: rows of lists; same, raised, appends. -/
namespace Go.Proofs.YtgnkjmgkfibipaaGreatDoor
set_option linter.unusedVariables false
set_option linter.unusedSimpArgs false
open Go Go.R
set_option maxRecDepth 1000000
noncomputable section

/-! ### Appends of whole lists -/
section
variable {h : AH} {i0 j : Nat} {A B : List Nat} {par : List Nat} {lv2 : Bool} {par2 : List Nat} {sp2 : Option Nat}

end

/-! ### same -/
def c21 : Code := bodyOf Tryz.f13
def lp21 : Code := within (tl (hd (behind 2 c21)))
end
end Go.Proofs.YtgnkjmgkfibipaaGreatDoor
