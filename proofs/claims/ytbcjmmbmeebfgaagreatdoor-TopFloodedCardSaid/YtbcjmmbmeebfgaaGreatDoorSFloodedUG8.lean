/- Results of trials: IndexFunc, ContainsFunc over them, and whether they are fit, as contracts. -/
import Derived.Test.YtbcjmmbmeebfgaaGreatDoorSFloodedUG7
namespace Go.Proofs.YtbcjmmbmeebfgaaGreatDoor
set_option linter.unusedVariables false
set_option linter.unusedSimpArgs false
open Go Go.R
set_option maxRecDepth 1000000
noncomputable section

noncomputable def firstP (p : Nat → Bool) (m : Nat) : Nat → Nat → Nat
  | 0, i => m
  | d + 1, i => if p i then i else firstP p m d (i + 1)
theorem firstP_spec (p : Nat → Bool) (m : Nat) : ∀ d i, i + d = m → (firstP p m d i = m ∧ ∀ j, i ≤ j → j < m → p j = false) ∨
    (firstP p m d i < m ∧ i ≤ firstP p m d i ∧ p (firstP p m d i) = true ∧ ∀ j, i ≤ j → j < firstP p m d i → p j = false)
  | 0, i, h => .inl ⟨rfl, fun j h1 h2 => by omega⟩
  | d + 1, i, h => by
    unfold firstP
    cases hp : p i with
    | true => exact .inr ⟨by simp; omega, by simp, by simpa using hp, fun j h1 h2 => by simp at h2; omega⟩
    | false =>
      simp only [Bool.false_eq_true, if_false]
      rcases firstP_spec p m d (i + 1) (by omega) with ⟨h1, h2⟩ | ⟨h1, h2, h3, h4⟩
      · refine .inl ⟨h1, fun j a b => ?_⟩
        rcases Nat.lt_or_ge i j with q | q
        · exact h2 j q b
        · rw [show j = i by omega]; exact hp
      · refine .inr ⟨h1, by omega, h3, fun j a b => ?_⟩
        rcases Nat.lt_or_ge i j with q | q
        · exact h4 j q b
        · rw [show j = i by omega]; exact hp
/-! ### The results -/
/-! ### IndexFunc -/
noncomputable def idxV (p : Nat → Bool) (d : Nat) : Value := if firstP p d d 0 < d then i64 (firstP p d d 0) else iZ (.negSucc 0)
/-! ### ContainsFunc, where there is none -/
/-! ### checked -/
theorem boxN_clo {k m : Nat} : CloO k (boxN m) := cloO_one (clo_plain rfl)
end
end Go.Proofs.YtbcjmmbmeebfgaaGreatDoor

/- Known and Why, as contracts. -/
namespace Go.Proofs.YtbcjmmbmeebfgaaGreatDoor
set_option linter.unusedVariables false
set_option linter.unusedSimpArgs false
open Go Go.R
set_option maxRecDepth 1000000
noncomputable section

theorem minA (a b : Nat) : minMaxA false [i64 a, i64 b] = some (i64 (min a b)) := by
  show some (Value.int .i64 (if ((b : Int)) < (a : Int) then (b : Int) else (a : Int))) = some (.int .i64 ((min a b : Nat) : Int))
  by_cases h : b < a
  · rw [if_pos (by omega), Nat.min_eq_right (by omega)]
  · rw [if_neg (by omega), Nat.min_eq_left (by omega)]
theorem wrap_pred {x : Nat} (h : 1 ≤ x) (h2 : x < 1000) : wrapF .i64 (Int.sub (.ofNat x) (.ofNat 1)) = .ofNat (x - 1) := by
  rw [show Int.sub (.ofNat x) (.ofNat 1) = .ofNat (x - 1) by show (x : Int) - 1 = ((x - 1 : Nat) : Int); omega]
  exact wrap_ofNat (by omega)

/-! ### Why -/
end
end Go.Proofs.YtbcjmmbmeebfgaaGreatDoor
