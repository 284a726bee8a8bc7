/- TrialSums: all plans. -/
import Derived.Test.YtgnkjmgkfibipaaDoorSWordedKG11
import Derived.Test.YtgnkjmgkfibipaaDoorSWordedKG10
import Derived.Test.YtgnkjmgkfibipaaDoorSWordedRG9
import Derived.Test.YtgnkjmgkfibipaaDoorSWordedKLeastTop
import Derived.Test.YtgnkjmgkfibipaaDoorSWordedKRest
namespace Go.Proofs.YtgnkjmgkfibipaaDoor
set_option linter.unusedVariables false
set_option linter.unusedSimpArgs false
open Go Go.R
set_option maxRecDepth 1000000
noncomputable section

end
end Go.Proofs.YtgnkjmgkfibipaaDoor

/- TrialSums: the law behind all plans. -/
namespace Go.Proofs.YtgnkjmgkfibipaaDoor
set_option linter.unusedVariables false
set_option linter.unusedSimpArgs false
open Go Go.R
set_option maxRecDepth 1000000
noncomputable section

theorem grL_fuel (y : Nat → Nat) : ∀ (d low n k : Nat), n ≤ d → grL y (d + 1) low n k = grL y d low n k
  | 0, low, n, k, h => by
    have : n = 0 := by omega
    subst this; rfl
  | d + 1, low, 0, k, h => rfl
  | d + 1, low, n + 1, k, h => by
    have hi := Nat.mod_lt (y k) (show 0 < n + 1 by omega)
    rw [grL, grL, grL_fuel y d _ _ _ (by omega), grL_fuel y d _ _ _ (by omega)]
/-- The plan by numbers. -/
def grownN (y : Nat → Nat) (n : Nat) : List Nat := grL y n 0 n 0
theorem grownN_good (y : Nat → Nat) (n : Nat) : Good 0 n (grownN y n) := by
  obtain ⟨t, e, h⟩ := grL_mem y (n + 1) 0 n 0 (Nat.lt_succ_self n)
  have := good_of h
  simp only [grL_fuel y n 0 n 0 (Nat.le_refl n)] at this
  exact this
theorem planO_ne {l : List Nat} (h : l ≠ []) : planO (some 3) l = .cells (litI l) true [] (some 3) := by
  cases l with
  | nil => exact absurd rfl h
  | cons x l => rfl

/-- The plan's worst case as the law takes it. -/
def gO (G : List Nat) (m : Nat) : List Int := outN G m
section
variable {y : Nat → Nat} {n b : Nat} {E : SmS} {G : List Nat}

theorem word_size (hd : Nat) (l : List Int) : (strB (wordOf (.ofNat hd) l)).size = l.length := by
  rw [strB_size]
  exact List.length_map _

end

/-! ### Proves, told -/
theorem longTo_congr {g k : Nat → List Int} (h : ∀ m, g m = k m) : ∀ m, longTo g m = longTo k m
  | 0 => rfl
  | m + 1 => by rw [longTo, longTo, longTo_congr h m, h m]
theorem mostTo_congr {g k : Nat → List Int} (h : ∀ m, g m = k m) : ∀ m, mostTo g m = mostTo k m
  | 0 => rfl
  | m + 1 => by rw [mostTo, mostTo, mostTo_congr h m, h m]

end
end Go.Proofs.YtgnkjmgkfibipaaDoor
