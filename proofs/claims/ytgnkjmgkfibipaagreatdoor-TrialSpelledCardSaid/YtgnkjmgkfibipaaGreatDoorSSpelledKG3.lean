/- TrialPrices: the program's prices. -/
import Derived.Test.YtgnkjmgkfibipaaGreatDoorSSpelledKG2
import Derived.Test.YtgnkjmgkfibipaaGreatDoorSSpelledRG6
import Derived.Test.YtgnkjmgkfibipaaGreatDoorSSpelledRG5
namespace Go.Proofs.YtgnkjmgkfibipaaGreatDoor
set_option linter.unusedVariables false
set_option linter.unusedSimpArgs false
open Go Go.R
set_option maxRecDepth 1000000
noncomputable section

theorem f_sub {a b : Nat} (h : b ≤ a) (ha : a < 9223372036854775808) : wrapF .i64 (Int.sub (.ofNat a) (.ofNat b)) = .ofNat (a - b) := by
  have e : Int.sub (.ofNat a) (.ofNat b) = .ofNat (a - b) := by show (a : Int) - (b : Int) = ((a - b : Nat) : Int); omega
  rw [e]; exact wrap_ofNat (by omega)
end
end Go.Proofs.YtgnkjmgkfibipaaGreatDoor

/- TrialPrices: the program's prices, as a contract. -/
namespace Go.Proofs.YtgnkjmgkfibipaaGreatDoor
set_option linter.unusedVariables false
set_option linter.unusedSimpArgs false
open Go Go.R
set_option maxRecDepth 1000000
noncomputable section

theorem int_info : ∃ info, Tryz.prog.info? 3 = some info ∧ info.size = 1 ∧ (decide (info.bytes > 1000000) || !zfit info) = false := ⟨(Tryz.prog.info? 3).get!, by kernel_rfl, by kernel_rfl, by kernel_rfl⟩

end
end Go.Proofs.YtgnkjmgkfibipaaGreatDoor

/- TrialPrices: both lists of prices, as contracts. -/
namespace Go.Proofs.YtgnkjmgkfibipaaGreatDoor
set_option linter.unusedVariables false
set_option linter.unusedSimpArgs false
open Go Go.R
set_option maxRecDepth 1000000
noncomputable section

/-! ### The reference's -/
end
end Go.Proofs.YtgnkjmgkfibipaaGreatDoor

/- TrialPrices: rows of lists; same, raised, appends. -/
namespace Go.Proofs.YtgnkjmgkfibipaaGreatDoor
set_option linter.unusedVariables false
set_option linter.unusedSimpArgs false
open Go Go.R
set_option maxRecDepth 1000000
noncomputable section

def litI (l : List Nat) : List Value := l.map fun x => .int .i64 (.ofNat x)
def rowL (l : List Nat) : AObj := .cells (litI l) true [] (some 3)
theorem litI_len (l : List Nat) : (litI l).length = l.length := by simp [litI]
theorem litI_plain (l : List Nat) : ∀ x ∈ litI l, plainV x = true := fun x hx => by
  obtain ⟨i, _, rfl⟩ := List.mem_map.1 hx; rfl
theorem litI_cell (l : List Nat) : (litI l).all cellV = true := List.all_eq_true.2 fun x hx => by
  obtain ⟨i, _, rfl⟩ := List.mem_map.1 hx; rfl
theorem litI_app (a b : List Nat) : litI a ++ litI b = litI (a ++ b) := by simp [litI]
theorem whole_at {h : AH} {g : Nat} {l : List Nat} {lv : Bool} {par : List Nat} {ty : Option TypeId} (hg : h.get g = .cells (litI l) lv par ty) : rowAt? h g 0 (l.length * 1) = some (litI l) := by
  rw [row_at hg (by rw [litI_len]; omega), List.drop_zero, List.take_of_length_le (by rw [litI_len]; omega)]

/-! ### Appends of whole lists -/
section
variable {h : AH} {i0 j : Nat} {A B : List Nat} {par : List Nat} {lv2 : Bool} {par2 : List Nat} {sp2 : Option Nat}

theorem app_pre (hB : B ≠ []) (h2 : h.get j = .cells (litI B) lv2 par2 (some 3)) : srcA 1 (.slice (some ⟨j, 0, sp2⟩) B.length B.length) h = some (litI B, B.length) := by
  have hpos : ¬ B.length = 0 := fun e => hB (List.eq_nil_of_length_eq_zero e)
  unfold srcA
  simp only [if_neg hpos]
  rw [whole_at h2]
  rfl

/-- Onto a slice whose capacity is not known. -/
theorem app_u (hB : B ≠ []) (hlen : A.length < 1000000 ∧ B.length < 1000000) (h1 : h.get i0 = .cells (litI A) true par (some 3)) (h2 : h.get j = .cells (litI B) lv2 par2 (some 3)) :
    appendA Tryz.prog #[22, 22] (.slice (some ⟨i0, 0, some 1⟩) A.length A.length) (.slice (some ⟨j, 0, sp2⟩) B.length B.length) h =
      some (.slice (some ⟨h.next, 0, some 1⟩) (A.length + B.length) (A.length + B.length), ((h.put i0 (.cells (litI A) false par (some 3))).new (.cells (litI A ++ litI B) true (i0 :: par) (some 3))).2) := by
  have e1 : Tryz.prog.underlying 22 = some (.slice 3) := by kernel_rfl
  obtain ⟨info, e2, e3, e4⟩ := int_info
  rw [Bool.or_eq_false_iff] at e4
  have hpos : ¬ B.length = 0 := fun e => hB (List.eq_nil_of_length_eq_zero e)
  have e6 : (decide (A.length > 1000000)) = false := by simp; omega
  have e6' : (decide (B.length > 1000000)) = false := by simp; omega
  have e7 : appendU 3 1 i0 0 A.length B.length (litI B) h = some (.slice (some ⟨h.next, 0, some 1⟩) (A.length + B.length) (A.length + B.length), ((h.put i0 (.cells (litI A) false par (some 3))).new (.cells (litI A ++ litI B) true (i0 :: par) (some 3))).2) := by
    unfold appendU
    rw [h1]
    show (if 0 + A.length * 1 = (litI A).length then _ else _) = _
    rw [if_pos (by rw [litI_len]; omega)]
    rfl
  unfold appendA
  simp only [List.getElem?_toArray, List.getElem?_cons_zero, List.getElem?_cons_succ, e1, e2, srcKind, Bool.not_true, Bool.false_eq_true, if_false, e3, app_pre hB h2]
  simp only [litI_cell, e4.1, e4.2, e6, e6', Bool.not_true, Bool.or_false, Bool.false_or, Bool.or_self, decide_false, show (1 = 0) = False by simp, if_neg hpos, if_false, decide_true, ne_eq, not_true_eq_false, Bool.false_eq_true, show (0 + 1 = 1) by rfl, e7]

end

/-! ### same -/
def rowA (i n : Nat) : Value := .slice (some ⟨i, 0, some 1⟩) n n
end
end Go.Proofs.YtgnkjmgkfibipaaGreatDoor
