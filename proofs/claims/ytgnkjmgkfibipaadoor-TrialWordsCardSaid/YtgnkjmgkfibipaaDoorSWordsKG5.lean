/- A byte behind a builder's bytes. -/
import Derived.Test.YtgnkjmgkfibipaaDoorSWordsKG4
import Derived.Test.YtgnkjmgkfibipaaDoorSWordsRG6
namespace Go.Proofs.YtgnkjmgkfibipaaDoor
set_option linter.unusedVariables false
set_option linter.unusedSimpArgs false
open Go Go.R
set_option maxRecDepth 1000000
noncomputable section

noncomputable def ptrC (i : Nat) : Value := .pointer (some ⟨i, 0, none⟩)
noncomputable def litB (bs : List Int) : List Value := bs.map fun x => .int .u8 x
noncomputable def rowB (bs : List Int) : AObj := .cells (litB bs) true [] (some 5)
noncomputable def bldV (i m : Nat) : Value := .slice (some ⟨i, 0, some 1⟩) m m
noncomputable def OsN (n : Nat) (f : Nat → Int) : List AObj := [viewZ n f, .cells [.pointer none, .slice none 0 0] true [] (some 122)]
noncomputable def OsB (n : Nat) (f : Nat → Int) (bs : List Int) : List AObj := [viewZ n f, .cells [ptrC 1, bldV 2 bs.length] true [] (some 122), rowB bs]

/-! ### WriteByte -/
/-! ### Told -/
/-! ### word$1 -/
end
end Go.Proofs.YtgnkjmgkfibipaaDoor

/- follow, with word's function. -/
namespace Go.Proofs.YtgnkjmgkfibipaaDoor
set_option linter.unusedVariables false
set_option linter.unusedSimpArgs false
open Go Go.R
set_option maxRecDepth 1000000
noncomputable section

abbrev EndW (n : Nat) (f : Nat → Int) (l : List Int) (e : AExit) (af : AF) : Prop := e = .exit 0 ∧ ((l = [] ∧ Less 2 (sth [] 39 (OsN n f)) af) ∨ (l ≠ [] ∧ Less 2 (sth [] 39 (OsB n f (l))) af))

end
end Go.Proofs.YtgnkjmgkfibipaaDoor

/- word, as a contract. -/
namespace Go.Proofs.YtgnkjmgkfibipaaDoor
set_option linter.unusedVariables false
set_option linter.unusedSimpArgs false
open Go Go.R
set_option maxRecDepth 1000000
noncomputable section

/-! ### follow, told -/
/-! ### String -/
/-! ### word -/
end
end Go.Proofs.YtgnkjmgkfibipaaDoor

/- Run's function: a level more. -/
namespace Go.Proofs.YtgnkjmgkfibipaaDoor
set_option linter.unusedVariables false
set_option linter.unusedSimpArgs false
open Go Go.R
set_option maxRecDepth 1000000
noncomputable section

noncomputable def OrN (n : Nat) (f : Nat → Int) : List AObj := [viewZ n f, .cells [.slice none 0 0] true [] (some 24)]
noncomputable def OrB (n : Nat) (f : Nat → Int) (bs : List Int) : List AObj := [viewZ n f, .cells [bldV 2 bs.length] true [] (some 24), rowT bs]
end
end Go.Proofs.YtgnkjmgkfibipaaDoor

/- follow, with Run's function. -/
namespace Go.Proofs.YtgnkjmgkfibipaaDoor
set_option linter.unusedVariables false
set_option linter.unusedSimpArgs false
open Go Go.R
set_option maxRecDepth 1000000
noncomputable section


abbrev EndR (n : Nat) (f : Nat → Int) (l : List Int) (e : AExit) (af : AF) : Prop := e = .exit 0 ∧ ((l = [] ∧ Less 2 (sth [] 39 (OrN n f)) af) ∨ (l ≠ [] ∧ Less 2 (sth [] 39 (OrB n f (l))) af))

end
end Go.Proofs.YtgnkjmgkfibipaaDoor

/- words, Words, Run, as contracts. -/
namespace Go.Proofs.YtgnkjmgkfibipaaDoor
set_option linter.unusedVariables false
set_option linter.unusedSimpArgs false
open Go Go.R
set_option maxRecDepth 1000000
noncomputable section

/-! ### words -/
noncomputable def strsV (m : Nat) (g : Nat → ByteArray) : List Value := (List.range m).map fun i => .string (g i)
theorem strsV_len (m : Nat) (g : Nat → ByteArray) : (strsV m g).length = m := by simp [strsV]
theorem strsV_plain (m : Nat) (g : Nat → ByteArray) : ∀ x ∈ strsV m g, plainV x = true := fun x hx => by
  obtain ⟨i, _, rfl⟩ := List.mem_map.1 hx; rfl
/-! ### Words -/
theorem view_at {n cap : Nat} (hc : n ≤ cap) : SliceAt 0 0 n (slV n cap) := .inr ⟨cap, hc, rfl⟩
end
end Go.Proofs.YtgnkjmgkfibipaaDoor

/- Run, as a contract. -/
namespace Go.Proofs.YtgnkjmgkfibipaaDoor
set_option linter.unusedVariables false
set_option linter.unusedSimpArgs false
open Go Go.R
set_option maxRecDepth 1000000
noncomputable section

/-! ### asked -/
/-! ### follow, told -/
/-! ### Run -/
end
end Go.Proofs.YtgnkjmgkfibipaaDoor
