/- TrialTried: what its function does with each plan. -/
import Derived.Test.YtgnkjmgkfibipaaDoorSPricedKG6
import Derived.Test.YtgnkjmgkfibipaaDoorSPricedRG7
namespace Go.Proofs.YtgnkjmgkfibipaaDoor
set_option linter.unusedVariables false
set_option linter.unusedSimpArgs false
open Go Go.R
set_option maxRecDepth 1000000
noncomputable section

/-! ### slices.Contains over a list that may be nil -/
theorem litI_ints (l : List Nat) : litI l = intsZ l.length (fun i => .ofNat (l.getD i 0)) := by
  refine List.ext_getElem? fun i => ?_
  unfold litI intsZ
  rw [List.getElem?_map, List.getElem?_map]
  by_cases h : i < l.length
  · rw [List.getElem?_eq_getElem h, List.getElem?_range h]
    simp [h]
  · rw [List.getElem?_eq_none (by omega), List.getElem?_eq_none (by simp; omega)]
    rfl

end
end Go.Proofs.YtgnkjmgkfibipaaDoor

/- TrialTried: what its function does with each plan: the walk. -/
namespace Go.Proofs.YtgnkjmgkfibipaaDoor
set_option linter.unusedVariables false
set_option linter.unusedSimpArgs false
open Go Go.R
set_option maxRecDepth 1000000
noncomputable section

structure TrS where
  many : Int
  all : Int
  least : Int
  first : List Nat
  choices : List Nat

noncomputable def boxZ (x : Int) : AObj := .cells [.int .i64 x] true [] (some 3)
theorem ren_planV {ρ : Nat → Nat} {m j q : Nat} (hj : j < m) (e : ρ j = q) (l : List Nat) : Ren ρ m (planV q l) (planV j l) := by
  cases l with
  | nil =>
    intro μ x hx
    obtain ⟨_, _, rfl⟩ := (show VR μ (.slice none 0 0) x from hx).sliceN_inv
    exact .plain rfl
  | cons y l => exact Ren.sliceU (n := (y :: l).length) (c := (y :: l).length) (s := 0) hj e

theorem renO_one {ρ : Nat → Nat} {m : Nat} {u v : Value} {ty : Option TypeId} (h : Ren ρ m u v) : RenO ρ m (.cells [u] true [] ty) (.cells [v] true [] ty) :=
  ⟨rfl, fun k a b ha hb => (by
    cases k with
    | zero => cases ha; cases hb; exact h
    | succ k => cases ha), fun _ => rfl, rfl, .inr rfl⟩
theorem ren_int {ρ : Nat → Nat} {m : Nat} (x : Int) : Ren ρ m (.int .i64 x) (.int .i64 x) := fun μ y hy => by rw [hy.int_inv]; exact .plain rfl

end
end Go.Proofs.YtgnkjmgkfibipaaDoor

/- TrialTried: what its function does with each plan: the last part. -/
namespace Go.Proofs.YtgnkjmgkfibipaaDoor
set_option linter.unusedVariables false
set_option linter.unusedSimpArgs false
open Go Go.R
set_option maxRecDepth 1000000
noncomputable section

/-- Where the rows lie behind the first parts. -/
structure Lie (s : TrS) (q8 : Nat) (o8 o9 : AObj) (l : List Nat) : Prop where
  r8 : (q8 = 8 ∧ o8 = planO (some 3) s.first) ∨ (q8 = 10 ∧ s.first = l)
  r9 : o9 = planO (some 3) s.choices ∨ s.choices = []
  c8 : CloO 11 o8
  c9 : CloO 11 o9
  len : s.choices.length < 1000000

end
end Go.Proofs.YtgnkjmgkfibipaaDoor

/- TrialTried: what its function does with each plan, as a contract. -/
namespace Go.Proofs.YtgnkjmgkfibipaaDoor
set_option linter.unusedVariables false
set_option linter.unusedSimpArgs false
open Go Go.R
set_option maxRecDepth 1000000
noncomputable section

section
variable {n b t u d : Nat} {s : TrS} {l : List Nat}

end
end
end Go.Proofs.YtgnkjmgkfibipaaDoor
