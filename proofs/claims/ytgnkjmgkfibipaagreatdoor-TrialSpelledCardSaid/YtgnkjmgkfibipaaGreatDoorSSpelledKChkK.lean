/- TrialChecked: a list out of numbers: the law's first loop. -/
import Derived.Test.YtgnkjmgkfibipaaGreatDoorSSpelledKG5
namespace Go.Proofs.YtgnkjmgkfibipaaGreatDoor
set_option linter.unusedVariables false
set_option linter.unusedSimpArgs false
open Go Go.R
set_option maxRecDepth 1000000
noncomputable section

/-! ### Rows that are written -/
noncomputable def upd (f : Nat → Int) (i : Nat) (v : Int) (j : Nat) : Int := if j = i then v else f j
/-! ### The numbers -/
/-! ### A permutation -/
structure PermF (f : Nat → Int) (i : Nat) : Prop where
  lo : ∀ a, a < i → 1 ≤ f a
  hi : ∀ a, a < i → f a ≤ (i : Int)
  inj : ∀ a b, a < i → b < i → f a = f b → a = b
noncomputable def ckNext (f : Nat → Int) (i k : Nat) : Nat → Int := upd (upd (upd f i (.ofNat (i + 1))) i (upd f i (.ofNat (i + 1)) k)) k (upd f i (.ofNat (i + 1)) i)
theorem ckNext_at (f : Nat → Int) {i k : Nat} (hk : k ≤ i) (j : Nat) : ckNext f i k j = if j = k then ((i + 1 : Nat) : Int) else if j = i then f k else f j := by
  unfold ckNext upd
  by_cases e1 : j = k
  · rw [if_pos e1, if_pos e1, if_pos rfl]; rfl
  · rw [if_neg e1, if_neg e1]
    by_cases e2 : j = i
    · rw [if_pos e2, if_pos e2]
      by_cases e3 : k = i
      · exact absurd (e2.trans e3.symm) e1
      · rw [if_neg e3]
    · rw [if_neg e2, if_neg e2, if_neg e2]
theorem PermF.next {f : Nat → Int} {i k : Nat} (P : PermF f i) (hk : k ≤ i) : PermF (ckNext f i k) (i + 1) := by
  refine ⟨fun a ha => ?_, fun a ha => ?_, fun a b ha hb e => ?_⟩
  · rw [ckNext_at f hk]
    by_cases e1 : a = k
    · rw [if_pos e1]; omega
    · rw [if_neg e1]
      by_cases e2 : a = i
      · rw [if_pos e2]; exact P.lo k (by omega)
      · rw [if_neg e2]; exact P.lo a (by omega)
  · rw [ckNext_at f hk]
    by_cases e1 : a = k
    · rw [if_pos e1]; omega
    · rw [if_neg e1]
      by_cases e2 : a = i
      · rw [if_pos e2]; have := P.hi k (by omega); omega
      · rw [if_neg e2]; have := P.hi a (by omega); omega
  · rw [ckNext_at f hk, ckNext_at f hk] at e
    by_cases a1 : a = k
    · rw [if_pos a1] at e
      by_cases b1 : b = k
      · omega
      · rw [if_neg b1] at e
        by_cases b2 : b = i
        · rw [if_pos b2] at e; have := P.hi k (by omega); omega
        · rw [if_neg b2] at e; have := P.hi b (by omega); omega
    · rw [if_neg a1] at e
      by_cases b1 : b = k
      · rw [if_pos b1] at e
        by_cases a2 : a = i
        · rw [if_pos a2] at e; have := P.hi k (by omega); omega
        · rw [if_neg a2] at e; have := P.hi a (by omega); omega
      · rw [if_neg b1] at e
        by_cases a2 : a = i
        · rw [if_pos a2] at e
          by_cases b2 : b = i
          · omega
          · rw [if_neg b2] at e
            have := P.inj k b (by omega) (by omega) e
            omega
        · rw [if_neg a2] at e
          by_cases b2 : b = i
          · rw [if_pos b2] at e
            have := P.inj a k (by omega) (by omega) e
            omega
          · rw [if_neg b2] at e
            exact P.inj a b (by omega) (by omega) e

/-! ### The loop -/
end
end Go.Proofs.YtgnkjmgkfibipaaGreatDoor
