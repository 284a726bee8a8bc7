/- outcome: a round of its inner loop. -/
import Derived.Test.YtgnkjmgkfibipaaGreatDoorSPlansKG5
import Derived.Test.YtgnkjmgkfibipaaGreatDoorSPlansKG7
namespace Go.Proofs.YtgnkjmgkfibipaaGreatDoor
set_option linter.unusedVariables false
set_option linter.unusedSimpArgs false
open Go Go.R
set_option maxRecDepth 1000000
noncomputable section

theorem str_add {w : ByteArray} (c : UInt8) (hw : w.size < 1000000) : strBin .add w ⟨#[c]⟩ = some (.string (w ++ ⟨#[c]⟩)) := by
  have e : (IntKind.i64.max : Int) = 9223372036854775807 := by decide
  unfold strBin
  show (if ((w.size + 1 : Nat) : Int) > IntKind.i64.max then none else some (Value.string (w ++ ⟨#[c]⟩))) = _
  rw [e, if_neg (by omega)]
end
end Go.Proofs.YtgnkjmgkfibipaaGreatDoor

/- outcome, as a contract. -/
namespace Go.Proofs.YtgnkjmgkfibipaaGreatDoor
set_option linter.unusedVariables false
set_option linter.unusedSimpArgs false
open Go Go.R
set_option maxRecDepth 1000000
noncomputable section

def wordOf (hd : Int) (l : List Int) : List Int := l.map fun x => byteW (ltF hd x)

theorem strB_snoc (bs : List Int) (c : Int) (u : UInt8) (h : c.toNat.toUInt8 = u) : strB (bs ++ [c]) = strB bs ++ ⟨#[u]⟩ := by
  unfold strB
  rw [List.map_append, ← h]
  apply ByteArray.ext
  simp
theorem strB_size (bs : List Int) : (strB bs).size = bs.length := by
  unfold strB
  show ((bs.map fun x => x.toNat.toUInt8).toArray).size = _
  simp

end
end Go.Proofs.YtgnkjmgkfibipaaGreatDoor

/- TrialSums: outcome over a list, and what its function does with each plan. -/
namespace Go.Proofs.YtgnkjmgkfibipaaGreatDoor
set_option linter.unusedVariables false
set_option linter.unusedSimpArgs false
open Go Go.R
set_option maxRecDepth 1000000
noncomputable section

/-! ### The function -/
structure SmS where
  least : Int
  few : Int

end
end Go.Proofs.YtgnkjmgkfibipaaGreatDoor
