/- TrialTried: what its function does with each plan. -/
import Derived.Test.YtgnkjmgkfibipaaDoorSWordedKG6
import Derived.Test.YtgnkjmgkfibipaaDoorSWordedRG7
namespace Go.Proofs.YtgnkjmgkfibipaaDoor
set_option linter.unusedVariables false
set_option linter.unusedSimpArgs false
open Go Go.R
set_option maxRecDepth 1000000
noncomputable section

/-! ### slices.Contains over a list that may be nil -/
theorem litI_ints (l : List Nat) : litI l = intsZ l.length (fun i => .ofNat (l.getD i 0)) := by
  refine List.ext_getElem? fun i => ?_
  unfold litI intsZ
  rw [List.getElem?_map, List.getElem?_map]
  by_cases h : i < l.length
  · rw [List.getElem?_eq_getElem h, List.getElem?_range h]
    simp [h]
  · rw [List.getElem?_eq_none (by omega), List.getElem?_eq_none (by simp; omega)]
    rfl

theorem local_one {h h1 : AH} {k fid : Nat} {args : List Value} {v : Value} (S : Says Tryd.prog h fid args v h1) (hk : k ≤ h.next) : Local Tryd.prog k fid args h fun v' _ => v' = v := fun F w0 μ w args' H hl =>
  (S F w0 μ w args' H hl).mono fun v' w' ⟨μ', a, b, c⟩ => ⟨v, h1, rfl, μ', a, b, Held.of_ext c hk⟩

end
end Go.Proofs.YtgnkjmgkfibipaaDoor

/- TrialTried: what its function does with each plan: the walk. -/
namespace Go.Proofs.YtgnkjmgkfibipaaDoor
set_option linter.unusedVariables false
set_option linter.unusedSimpArgs false
open Go Go.R
set_option maxRecDepth 1000000
noncomputable section

structure TrS where
  many : Int
  all : Int
  least : Int
  first : List Nat
  choices : List Nat

end
end Go.Proofs.YtgnkjmgkfibipaaDoor

/- TrialTried: what its function does with each plan: the last part. -/
namespace Go.Proofs.YtgnkjmgkfibipaaDoor
set_option linter.unusedVariables false
set_option linter.unusedSimpArgs false
open Go Go.R
set_option maxRecDepth 1000000
noncomputable section

/-- Where the rows lie behind the first parts. -/
structure Lie (s : TrS) (q8 : Nat) (o8 o9 : AObj) (l : List Nat) : Prop where
  r8 : (q8 = 8 ∧ o8 = planO (some 3) s.first) ∨ (q8 = 10 ∧ s.first = l)
  r9 : o9 = planO (some 3) s.choices ∨ s.choices = []
  c8 : CloO 11 o8
  c9 : CloO 11 o9
  len : s.choices.length < 1000000

end
end Go.Proofs.YtgnkjmgkfibipaaDoor

/- TrialTried: what its function does with each plan, as a contract. -/
namespace Go.Proofs.YtgnkjmgkfibipaaDoor
set_option linter.unusedVariables false
set_option linter.unusedSimpArgs false
open Go Go.R
set_option maxRecDepth 1000000
noncomputable section

section
variable {n b t u d : Nat} {s : TrS} {l : List Nat}

end
end
end Go.Proofs.YtgnkjmgkfibipaaDoor
