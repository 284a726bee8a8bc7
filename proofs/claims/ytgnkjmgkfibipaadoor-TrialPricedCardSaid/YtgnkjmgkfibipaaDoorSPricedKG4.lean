/- TrialChecked: the plain law: a stack finds the pattern of three. -/
import Derived.Test.YtgnkjmgkfibipaaDoorSPricedKG3
import Derived.Test.YtgnkjmgkfibipaaDoorSPricedRG6
namespace Go.Proofs.YtgnkjmgkfibipaaDoor
set_option linter.unusedVariables false
set_option linter.unusedSimpArgs false
open Go Go.R
noncomputable section

noncomputable def atL (T : List Int) (j : Nat) : Int := T.getD j 0
theorem ltF_iff {a b : Int} : ltF a b = true ↔ a < b := by rw [ltF_eq, decide_eq_true_eq]
theorem ltF_not {a b : Int} : ltF a b = false ↔ b ≤ a := by rw [ltF_eq, decide_eq_false_iff_not]; omega

structure StkInv (f : Nat → Int) (n i : Nat) (c : Int) (T : List Int) : Prop where
  w1 : (∃ x y, x < y ∧ y < i ∧ f x = c ∧ f x < f y) ∨ ∀ k, k < n → c < f k
  w2 : ∀ x y, x < y → y < i → f x < f y → f x ≤ c
  w3 : ∀ x, x < i → (∃ j, j < T.length ∧ atL T j = f x) ∨ f x ≤ c
  w4 : ∀ x y, x < y → y < T.length → atL T y < atL T x
  w5 : ∀ j, j < T.length → c < atL T j
  w6 : ∀ j, j < T.length → ∃ x, x < i ∧ atL T j = f x

/-! ### The law's three loops -/
end
end Go.Proofs.YtgnkjmgkfibipaaDoor

/- TrialChecked: outside, and whether a number stands in a list, whatever these are. -/
namespace Go.Proofs.YtgnkjmgkfibipaaDoor
set_option linter.unusedVariables false
set_option linter.unusedSimpArgs false
open Go Go.R
set_option maxRecDepth 1000000
noncomputable section

/-! ### outside -/
/-! ### Rows of any numbers, only looked at -/
noncomputable def intsZ (n : Nat) (f : Nat → Int) : List Value := (List.range n).map fun i => .int .i64 (f i)
noncomputable def viewZ (n : Nat) (f : Nat → Int) : AObj := .cells (intsZ n f) false [] none
noncomputable def slV (n cap : Nat) : Value := .slice (some ⟨0, 0, none⟩) n cap
theorem intsZ_len (n : Nat) (f : Nat → Int) : (intsZ n f).length = n := by simp [intsZ]
theorem intsZ_plain (n : Nat) (f : Nat → Int) : ∀ x ∈ intsZ n f, plainV x = true := fun x hx => by
  obtain ⟨i, _, rfl⟩ := List.mem_map.1 hx; rfl
theorem intZ_at {h : AH} {g n i : Nat} {f : Nat → Int} {lv : Bool} {par : List Nat} {ty : Option TypeId} (hg : h.get g = .cells (intsZ n f) lv par ty) (hlt : i < n) : rowAt? h g (0 + i * 1) 1 = some [.int .i64 (f i)] := by
  rw [row_at hg (by rw [intsZ_len]; omega), Nat.zero_add, Nat.mul_one]
  have : (intsZ n f)[i]? = some (.int .i64 (f i)) := by simp [intsZ, hlt]
  rw [List.take_one, List.head?_drop, this]
  rfl
theorem viewZ_clo {n : Nat} {f : Nat → Int} : ∀ x ∈ [viewZ n f], CloO 1 x := fun x hx => by rw [List.mem_singleton.1 hx]; exact cloO_plain (intsZ_plain n f) _ _

/-! ### Index, Contains -/
end
end Go.Proofs.YtgnkjmgkfibipaaDoor

/- Check, whatever the list is. -/
namespace Go.Proofs.YtgnkjmgkfibipaaDoor
set_option linter.unusedVariables false
set_option linter.unusedSimpArgs false
open Go Go.R
set_option maxRecDepth 1000000
noncomputable section

/-! ### The scan -/
/-! ### The stack -/
noncomputable def litZ (T : List Int) : List Value := T.map fun x => .int .i64 x
noncomputable def rowT (T : List Int) : AObj := .cells (litZ T) true [] (some 3)
theorem litZ_len (T : List Int) : (litZ T).length = T.length := List.length_map _
theorem litZ_plain (T : List Int) : ∀ x ∈ litZ T, plainV x = true := fun x hx => by
  obtain ⟨i, _, rfl⟩ := List.mem_map.1 hx; rfl
theorem ck2_clo {n : Nat} {f : Nat → Int} {T : List Int} : ∀ x ∈ [viewZ n f, rowT T], CloO 2 x := fun x hx => by
  simp only [List.mem_cons, List.mem_nil_iff, or_false] at hx
  rcases hx with rfl | rfl
  · exact cloO_plain (intsZ_plain n f) _ _
  · exact cloO_plain (litZ_plain T) _ _

end
end Go.Proofs.YtgnkjmgkfibipaaDoor

/- Check, as a contract. -/
namespace Go.Proofs.YtgnkjmgkfibipaaDoor
set_option linter.unusedVariables false
set_option linter.unusedSimpArgs false
open Go Go.R
set_option maxRecDepth 1000000
noncomputable section

theorem litZ_app (A B : List Int) : litZ A ++ litZ B = litZ (A ++ B) := by simp [litZ]

theorem obs_view {ρ : Nat → Nat} {m n : Nat} {f : Nat → Int} {x : AObj} (e : x = viewZ n f) : RenO ρ m x (viewZ n f) := RenO.row (c := intsZ n f) (lv := false) (p := []) (ty := none) e (intsZ_plain n f) (fun h => h) (.inl rfl)
theorem obs_rowT {ρ : Nat → Nat} {m : Nat} {T : List Int} {p : List Nat} {x : AObj} (e : x = .cells (litZ T) true p (some 3)) : RenO ρ m x (rowT T) := RenO.row (c := litZ T) (lv := true) (p := p) (ty := some 3) e (litZ_plain T) (fun h => h) (.inr rfl)

abbrev StkPost (n cap : Nat) (f : Nat → Int) (b : Bool) (e : AExit) (af : AF) : Prop :=
  (e = .exit 3 ∧ b = true ∧ Less 1 (sth [(0, slV n cap)] 69 [viewZ n f]) af) ∨ (e = .ret ∧ b = false ∧ EndsAs Tryd.prog Tryd.f45 (Holds [viewZ n f] (.int .i64 7)) .ret af)

end
end Go.Proofs.YtgnkjmgkfibipaaDoor
