/- TrialChecked: a list out of numbers: the law's first loop. -/
import Derived.Test.YtgnkjmgkfibipaaDoorSWordedKG5
namespace Go.Proofs.YtgnkjmgkfibipaaDoor
set_option linter.unusedVariables false
set_option linter.unusedSimpArgs false
open Go Go.R
set_option maxRecDepth 1000000
noncomputable section

/-! ### Rows that are written -/
noncomputable def upd (f : Nat → Int) (i : Nat) (v : Int) (j : Nat) : Int := if j = i then v else f j
/-! ### The numbers -/
/-! ### A permutation -/
structure PermF (f : Nat → Int) (i : Nat) : Prop where
  lo : ∀ a, a < i → 1 ≤ f a
  hi : ∀ a, a < i → f a ≤ (i : Int)
  inj : ∀ a b, a < i → b < i → f a = f b → a = b
noncomputable def ckNext (f : Nat → Int) (i k : Nat) : Nat → Int := upd (upd (upd f i (.ofNat (i + 1))) i (upd f i (.ofNat (i + 1)) k)) k (upd f i (.ofNat (i + 1)) i)
theorem ckNext_at (f : Nat → Int) {i k : Nat} (hk : k ≤ i) (j : Nat) : ckNext f i k j = if j = k then ((i + 1 : Nat) : Int) else if j = i then f k else f j := by
  unfold ckNext upd
  by_cases e1 : j = k
  · rw [if_pos e1, if_pos e1, if_pos rfl]; rfl
  · rw [if_neg e1, if_neg e1]
    by_cases e2 : j = i
    · rw [if_pos e2, if_pos e2]
      by_cases e3 : k = i
      · exact absurd (e2.trans e3.symm) e1
      · rw [if_neg e3]
    · rw [if_neg e2, if_neg e2, if_neg e2]
theorem PermF.next {f : Nat → Int} {i k : Nat} (P : PermF f i) (hk : k ≤ i) : PermF (ckNext f i k) (i + 1) := by
  refine ⟨fun a ha => ?_, fun a ha => ?_, fun a b ha hb e => ?_⟩
  · rw [ckNext_at f hk]
    by_cases e1 : a = k
    · rw [if_pos e1]; omega
    · rw [if_neg e1]
      by_cases e2 : a = i
      · rw [if_pos e2]; exact P.lo k (by omega)
      · rw [if_neg e2]; exact P.lo a (by omega)
  · rw [ckNext_at f hk]
    by_cases e1 : a = k
    · rw [if_pos e1]; omega
    · rw [if_neg e1]
      by_cases e2 : a = i
      · rw [if_pos e2]; have := P.hi k (by omega); omega
      · rw [if_neg e2]; have := P.hi a (by omega); omega
  · rw [ckNext_at f hk, ckNext_at f hk] at e
    by_cases a1 : a = k
    · rw [if_pos a1] at e
      by_cases b1 : b = k
      · omega
      · rw [if_neg b1] at e
        by_cases b2 : b = i
        · rw [if_pos b2] at e; have := P.hi k (by omega); omega
        · rw [if_neg b2] at e; have := P.hi b (by omega); omega
    · rw [if_neg a1] at e
      by_cases b1 : b = k
      · rw [if_pos b1] at e
        by_cases a2 : a = i
        · rw [if_pos a2] at e; have := P.hi k (by omega); omega
        · rw [if_neg a2] at e; have := P.hi a (by omega); omega
      · rw [if_neg b1] at e
        by_cases a2 : a = i
        · rw [if_pos a2] at e
          by_cases b2 : b = i
          · omega
          · rw [if_neg b2] at e
            have := P.inj k b (by omega) (by omega) e
            omega
        · rw [if_neg a2] at e
          by_cases b2 : b = i
          · rw [if_pos b2] at e
            have := P.inj a k (by omega) (by omega) e
            omega
          · rw [if_neg b2] at e
            exact P.inj a b (by omega) (by omega) e

/-! ### The loop -/
end
end Go.Proofs.YtgnkjmgkfibipaaDoor

/- TrialChecked: the law's three loops. -/
namespace Go.Proofs.YtgnkjmgkfibipaaDoor
set_option linter.unusedVariables false
set_option linter.unusedSimpArgs false
open Go Go.R
set_option maxRecDepth 1000000
noncomputable section

noncomputable def wV (w : Bool) : Int := if w then 7 else 0
end
end Go.Proofs.YtgnkjmgkfibipaaDoor

/- TrialChecked: the law's walk. -/
namespace Go.Proofs.YtgnkjmgkfibipaaDoor
set_option linter.unusedVariables false
set_option linter.unusedSimpArgs false
open Go Go.R
set_option maxRecDepth 1000000
noncomputable section

/-! ### What Check says -/
theorem scan_pass (f : Nat → Int) (n : Nat) : ∀ d e i, (∀ j, i ≤ j → j < i + d → outZ (f j) 1 (.ofNat n) = false ∧ memZ f (f j) j = false) → scanF f n (d + e) i = scanF f n e (i + d)
  | 0, e, i, _ => by rw [Nat.zero_add, Nat.add_zero]
  | d + 1, e, i, h => by
    have h0 := h i (Nat.le_refl i) (by omega)
    rw [show d + 1 + e = (d + e) + 1 by omega, scanF, h0.1, h0.2]
    simp only [Bool.false_eq_true, if_false]
    rw [scan_pass f n d e (i + 1) fun j a b => h j (by omega) (by omega), show i + 1 + d = i + (d + 1) by omega]
theorem out_no {x : Int} {n : Nat} (h1 : 1 ≤ x) (h2 : x ≤ n) : outZ x 1 (.ofNat n) = false := by
  unfold outZ
  rw [ltF_not.2 h1, ltF_not.2 (show x ≤ Int.ofNat n from h2)]; rfl
theorem mem_no {f : Nat → Int} {x : Int} {m : Nat} (h : ∀ j, j < m → f j ≠ x) : memZ f x m = false := by
  cases hm : memZ f x m with
  | false => rfl
  | true => obtain ⟨j, a, b⟩ := (mem_iff f x m).1 hm; exact absurd b (h j a)

theorem chk_perm {f : Nat → Int} {n : Nat} (P : PermF f n) (hn : n ≤ 12) : chkN f n = wV (triI f n n 0 false) := by
  have hs : scanF f n n 0 = 0 := by
    have := scan_pass f n n 0 0 fun j _ b => ⟨out_no (P.lo j (by omega)) (P.hi j (by omega)), mem_no fun k hk e => by have := P.inj k j (by omega) (by omega) e; omega⟩
    rw [Nat.add_zero] at this
    exact this
  unfold chkN wV
  rw [if_neg (by omega), if_pos hs, stack_tri f n P.inj fun k hk => by have := P.lo k hk; omega]
  cases triI f n n 0 false <;> rfl
/-! ### The calls, told at the law's list -/
/-! ### The end -/
abbrev Ends10 : AExit → AF → Prop := EndsAs Tryd.prog Tryd.f10 fun v' _ => v' = .bool true
/-! ### What goes wrong on purpose -/
/-! ### All of it -/
end
end Go.Proofs.YtgnkjmgkfibipaaDoor
