/- slices.Grow at the nil slice, as a contract: a new row without elements, whose room is not told. -/
import Derived.Test.YtgnkjmgkfibipaaDoorSWordedKG5
import Derived.Shelf.Spec.SlicesGrow
import Derived.Test.YtgnkjmgkfibipaaDoorSWordedKG3
import Derived.Test.YtgnkjmgkfibipaaDoorSWordedRG7
namespace Go.Proofs
open Go.Shelf
end Go.Proofs
namespace Go.Proofs.YtgnkjmgkfibipaaDoor
set_option linter.unusedVariables false
set_option linter.unusedSimpArgs false
open Go Go.R
set_option maxRecDepth 1000000
noncomputable section

end
end Go.Proofs.YtgnkjmgkfibipaaDoor

/- slices.Concat of three lists of numbers, where all plans are made: its rounds. -/
namespace Go.Proofs.YtgnkjmgkfibipaaDoor
set_option linter.unusedVariables false
set_option linter.unusedSimpArgs false
open Go Go.R
set_option maxRecDepth 1000000
noncomputable section

theorem planO_plain (l : List Nat) : ∀ k, CloO k (planO (some 3) l) := fun k => by
  cases l with
  | nil => trivial
  | cons x l => exact cloO_plain (litI_plain (x :: l)) _ _
theorem planV_clo {k q : Nat} (h : q < k) (l : List Nat) : Clo k (planV q l) := by
  cases l with
  | nil => exact clo_plain rfl
  | cons x l => exact clo_of 10 k _ (by show (false || Nat.blt q k) = true; rw [Bool.false_or, Nat.blt_eq]; exact h)
theorem cloO_one {k : Nat} {v : Value} (h : Clo k v) (ty : Option TypeId) : CloO k (.cells [v] true [] ty) := ⟨fun x hx => by rw [List.mem_singleton.1 hx]; exact h, fun j hj => by cases hj⟩

theorem wrap_addN {s n : Nat} (h : s + n < 4611686018427387904) : wrapF .i64 (Int.add (.ofNat s) (.ofNat n)) = .ofNat (s + n) := by
  show cond (Nat.blt (s + n) 9223372036854775808) (Int.ofNat (s + n)) _ = _
  have : Nat.blt (s + n) 9223372036854775808 = true := by rw [Nat.blt_eq]; omega
  rw [this]; rfl

section
variable (H L T D : Nat) (E : Value) (a c : List Nat)

/-- What stands in the row of lists. -/
noncomputable def rowAt (j : Nat) : Value := match j with
  | 0 => .slice (some ⟨24, 0, none⟩) 1 1
  | 1 => planV 19 a
  | _ => planV 23 c
end
end
end Go.Proofs.YtgnkjmgkfibipaaDoor

/- slices.Concat of three lists of numbers, where all plans are made: a new row. -/
namespace Go.Proofs.YtgnkjmgkfibipaaDoor
set_option linter.unusedVariables false
set_option linter.unusedSimpArgs false
open Go Go.R
set_option maxRecDepth 1000000
noncomputable section

end
end Go.Proofs.YtgnkjmgkfibipaaDoor

/- Where all plans are made: the innermost function, which puts a plan together and hands it on. -/
namespace Go.Proofs.YtgnkjmgkfibipaaDoor
set_option linter.unusedVariables false
set_option linter.unusedSimpArgs false
open Go Go.R
set_option maxRecDepth 1000000
noncomputable section

theorem maxV_nat (x y : Nat) : maxV (.ofNat x) (.ofNat y) = .ofNat (max x y) := by
  unfold maxV
  by_cases h : y > x
  · rw [if_pos (show Int.ofNat y > Int.ofNat x from Int.ofNat_lt.2 h), Nat.max_eq_right (by omega)]
  · rw [if_neg (show ¬ Int.ofNat y > Int.ofNat x from fun q => h (Int.ofNat_lt.1 q)), Nat.max_eq_left (by omega)]

end
end Go.Proofs.YtgnkjmgkfibipaaDoor

/- All plans, as a list (in Lean alone). -/
namespace Go.Proofs.YtgnkjmgkfibipaaDoor
set_option linter.unusedVariables false
set_option linter.unusedSimpArgs false

/-- Plans for the n levels above low, each with its worst case; the first number is fuel. -/
def plansF : Nat → Nat → Nat → List (List Nat × Nat × Nat)
  | 0, _, _ => []
  | _ + 1, _, 0 => [([], 0, 0)]
  | f + 1, low, n + 1 => (List.range (n + 1)).flatMap fun i => (plansF f low i).flatMap fun p => (plansF f (low + 1 + i) (n - i)).map fun q =>
      ((low + 1 + i) :: (p.1 ++ q.1), 1 + max p.2.1 q.2.1, max (p.2.2 + 1) q.2.2)

theorem plansF_mem {f low i n : Nat} {a c : List Nat} {T D u d : Nat} (ha : (a, T, D) ∈ plansF f low i) (hc : (c, u, d) ∈ plansF f (low + 1 + i) n) :
    ((low + 1 + i) :: (a ++ c), 1 + max T u, max (D + 1) d) ∈ plansF (f + 1) low (i + n + 1) := by
  rw [plansF]
  refine List.mem_flatMap.2 ⟨i, List.mem_range.2 (by omega), List.mem_flatMap.2 ⟨_, ha, List.mem_map.2 ⟨(c, u, d), ?_, rfl⟩⟩⟩
  rw [show i + n - i = n by omega]
  exact hc

end Go.Proofs.YtgnkjmgkfibipaaDoor

/- All plans: the middle function, and the whole. -/
namespace Go.Proofs.YtgnkjmgkfibipaaDoor
set_option linter.unusedVariables false
set_option linter.unusedSimpArgs false
open Go Go.R
set_option maxRecDepth 1000000
noncomputable section

end
end Go.Proofs.YtgnkjmgkfibipaaDoor

/- All plans: each is handed on, in the list's order. -/
namespace Go.Proofs.YtgnkjmgkfibipaaDoor
set_option linter.unusedVariables false
set_option linter.unusedSimpArgs false
open Go Go.R
set_option maxRecDepth 1000000
noncomputable section

end
end Go.Proofs.YtgnkjmgkfibipaaDoor
