/- TrialTried: what all plans come to, and the rest, for all its numbers, by the kernel. -/
import Derived.Test.YtgnkjmgkfibipaaDoorQKTriE
namespace Go.Proofs.YtgnkjmgkfibipaaDoor
set_option linter.unusedVariables false
set_option linter.unusedSimpArgs false
open Go Go.R
set_option maxRecDepth 1000000
noncomputable section
def eqL : List Nat → List Nat → Bool
  | [], [] => true
  | a :: l, b :: k => Nat.beq a b && eqL l k
  | _, _ => false
theorem eqL_sound : ∀ {a b : List Nat}, eqL a b = true → a = b
  | [], [], _ => rfl
  | x :: a, y :: b, h => by
    rw [eqL, Bool.and_eq_true] at h
    rw [Nat.eq_of_beq_eq_true h.1, eqL_sound h.2]
  | [], _ :: _, h => by cases h
  | _ :: _, [], h => by cases h
theorem eqF_sound {a b : Int} (h : eqF a b = true) : a = b := by rw [eqF_eq] at h; exact eq_of_beq h
def eqT (a b : TrS) : Bool := eqF a.many b.many && (eqF a.all b.all && (eqF a.least b.least && (eqL a.first b.first && eqL a.choices b.choices)))
theorem eqT_sound {a b : TrS} (h : eqT a b = true) : a = b := by
  obtain ⟨a1, a2, a3, a4, a5⟩ := a
  obtain ⟨b1, b2, b3, b4, b5⟩ := b
  simp only [eqT, Bool.and_eq_true] at h
  rw [eqF_sound h.1, eqF_sound h.2.1, eqF_sound h.2.2.1, eqL_sound h.2.2.2.1, eqL_sound h.2.2.2.2]
def tabE (n b t : Nat) : TrS := ⟨.ofNat (countN n b t), .ofNat ([1, 1, 2, 5, 14, 42, 132, 429].getD n 0), .ofNat (fewestN n b), firstL n b, if n = 0 then [] else choicesN n b⟩
def chkE (n : Nat) : Bool := (List.range 6).all fun b => (List.range 13).all fun t => eqT (trE n (b + 1) t) (tabE n (b + 1) t)
theorem trE_0 : chkE 0 = true := by kernel_rfl
theorem trE_1 : chkE 1 = true := by kernel_rfl
theorem trE_2 : chkE 2 = true := by kernel_rfl
theorem trE_3 : chkE 3 = true := by kernel_rfl
theorem trE_4 : chkE 4 = true := by kernel_rfl
theorem trE_5 : chkE 5 = true := by kernel_rfl
theorem trE_6 : chkE 6 = true := by kernel_rfl
theorem trE_7 : chkE 7 = true := by kernel_rfl
theorem trE_all : ∀ n, n < 8 → chkE n = true
  | 0, _ => trE_0 | 1, _ => trE_1 | 2, _ => trE_2 | 3, _ => trE_3 | 4, _ => trE_4 | 5, _ => trE_5 | 6, _ => trE_6 | 7, _ => trE_7
  | n + 8, h => by omega
def chkTri (n b t : Nat) : Bool := okRun Tryd.prog Tryd.f12 (execA Tryd.prog kT 1000 (behind 5 bodyT) (sth LT 132 (trS n b t (tabE n b t)))) (.bool true)
def chkTriN (n : Nat) : Bool := (List.range 6).all fun b => (List.range 13).all fun t => chkTri n (b + 1) t
theorem tri_0 : chkTriN 0 = true := by kernel_rfl
theorem tri_1 : chkTriN 1 = true := by kernel_rfl
theorem tri_2 : chkTriN 2 = true := by kernel_rfl
theorem tri_3 : chkTriN 3 = true := by kernel_rfl
theorem tri_4 : chkTriN 4 = true := by kernel_rfl
theorem tri_5 : chkTriN 5 = true := by kernel_rfl
theorem tri_6 : chkTriN 6 = true := by kernel_rfl
theorem tri_7 : chkTriN 7 = true := by kernel_rfl
theorem tri_all : ∀ n, n < 8 → chkTriN n = true
  | 0, _ => tri_0 | 1, _ => tri_1 | 2, _ => tri_2 | 3, _ => tri_3 | 4, _ => tri_4 | 5, _ => tri_5 | 6, _ => tri_6 | 7, _ => tri_7
  | n + 8, h => by omega
end
end Go.Proofs.YtgnkjmgkfibipaaDoor
