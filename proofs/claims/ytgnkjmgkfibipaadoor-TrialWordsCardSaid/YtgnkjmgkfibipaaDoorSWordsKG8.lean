/- outcome: a round of its inner loop. -/
import Derived.Test.YtgnkjmgkfibipaaDoorSWordsKG5
import Derived.Test.YtgnkjmgkfibipaaDoorSWordsKG7
import Derived.Test.YtgnkjmgkfibipaaDoorSWordsKG9
namespace Go.Proofs.YtgnkjmgkfibipaaDoor
set_option linter.unusedVariables false
set_option linter.unusedSimpArgs false
open Go Go.R
set_option maxRecDepth 1000000
noncomputable section

theorem str_add {w : ByteArray} (c : UInt8) (hw : w.size < 1000000) : strBin .add w ⟨#[c]⟩ = some (.string (w ++ ⟨#[c]⟩)) := by
  have e : (IntKind.i64.max : Int) = 9223372036854775807 := by decide
  unfold strBin
  show (if ((w.size + 1 : Nat) : Int) > IntKind.i64.max then none else some (Value.string (w ++ ⟨#[c]⟩))) = _
  rw [e, if_neg (by omega)]
end
end Go.Proofs.YtgnkjmgkfibipaaDoor

/- outcome, as a contract. -/
namespace Go.Proofs.YtgnkjmgkfibipaaDoor
set_option linter.unusedVariables false
set_option linter.unusedSimpArgs false
open Go Go.R
set_option maxRecDepth 1000000
noncomputable section

end
end Go.Proofs.YtgnkjmgkfibipaaDoor

/- TrialSums: outcome over a list, and what its function does with each plan. -/
namespace Go.Proofs.YtgnkjmgkfibipaaDoor
set_option linter.unusedVariables false
set_option linter.unusedSimpArgs false
open Go Go.R
set_option maxRecDepth 1000000
noncomputable section

/-! ### The function -/
structure SmS where
  least : Int
  few : Int

end
end Go.Proofs.YtgnkjmgkfibipaaDoor

/- Plans as lists (in Lean alone): what holds of each of all plans. -/
namespace Go.Proofs.YtgnkjmgkfibipaaDoor
set_option linter.unusedVariables false
set_option linter.unusedSimpArgs false
open Go Go.R
noncomputable section

/-! ### What a plan is made of -/
/-- Three numbers of which the middle one comes first, then the greatest, then the smallest: none. -/
def NoT : List Nat → Prop
  | [] => True
  | x :: l => l.Pairwise (fun y w => ¬ (w < x ∧ x < y)) ∧ NoT l
structure Good (low n : Nat) (l : List Nat) : Prop where
  len : l.length = n
  lo : ∀ x ∈ l, low < x
  hi : ∀ x ∈ l, x ≤ low + n
  all : ∀ x, low < x → x ≤ low + n → x ∈ l
  nd : l.Nodup
  nt : NoT l

/-! ### outcome and what is followed -/
end
end Go.Proofs.YtgnkjmgkfibipaaDoor
