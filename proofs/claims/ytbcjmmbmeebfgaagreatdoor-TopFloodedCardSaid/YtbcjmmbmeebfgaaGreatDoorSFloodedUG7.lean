/- Proves at two numbers, and slices.Equal of two rows of places, as contracts. -/
import Derived.Test.YtbcjmmbmeebfgaaGreatDoorSFloodedUG6
namespace Go.Proofs.YtbcjmmbmeebfgaaGreatDoor
set_option linter.unusedVariables false
set_option linter.unusedSimpArgs false
open Go Go.R
set_option maxRecDepth 1000000
noncomputable section
theorem leN_false {a b : Nat} (h : b < a) : leF (.ofNat a) (.ofNat b) = false := by
  rw [leF_eq]
  apply decide_eq_false
  show ¬ ((a : Int) ≤ (b : Int))
  omega
theorem ltN_zero (a : Nat) : ltF (.ofNat a) (.ofNat 0) = false := by
  show Nat.blt a 0 = false
  cases h : Nat.blt a 0 with
  | false => rfl
  | true => exact absurd (blt_lt h) (Nat.not_lt_zero a)
end
end Go.Proofs.YtbcjmmbmeebfgaaGreatDoor

/- slices.Equal of two rows of places that are alike, as a contract. -/
namespace Go.Proofs.YtbcjmmbmeebfgaaGreatDoor
set_option linter.unusedVariables false
set_option linter.unusedSimpArgs false
open Go Go.R
set_option maxRecDepth 1000000
noncomputable section
theorem placesC_drop (l : List Nat) : ∀ (i x : Nat), l[i]? = some x → ((placesC l).drop (i * 2)).take 2 = [i64 (x / 7), i64 (x % 7)] := by
  induction l with
  | nil => intro i x h; cases h
  | cons y l ih =>
    intro i x h
    cases i with
    | zero => cases h; rfl
    | succ i =>
      have := ih i x (by simpa using h)
      rw [show (i + 1) * 2 = i * 2 + 2 by omega]
      exact this
theorem placesC_at {h : AH} {q i x : Nat} {l : List Nat} {lv : Bool} {par : List Nat} {ty : Option TypeId} (hg : h.get q = .cells (placesC l) lv par ty) (hx : l[i]? = some x) : rowAt? h q (0 + i * 2) 2 = some [i64 (x / 7), i64 (x % 7)] := by
  have hlt : i < l.length := (List.getElem?_eq_some_iff.1 hx).1
  rw [row_at hg (by rw [placesC_len]; omega), Nat.zero_add, placesC_drop l i x hx]
noncomputable def c22 : Code := bodyOf Tryz.f22
noncomputable def viewP (l : List Nat) : AObj := viewC (placesC l)
noncomputable def plV (x : Nat) : Value := .agg #[i64 (x / 7), i64 (x % 7)]
end
end Go.Proofs.YtbcjmmbmeebfgaaGreatDoor
