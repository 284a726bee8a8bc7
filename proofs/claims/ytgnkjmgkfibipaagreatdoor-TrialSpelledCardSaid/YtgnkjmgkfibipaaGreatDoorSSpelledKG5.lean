/- A byte behind a builder's bytes. -/
import Derived.Test.YtgnkjmgkfibipaaGreatDoorSSpelledKG4
import Derived.Test.YtgnkjmgkfibipaaGreatDoorSSpelledRG6
namespace Go.Proofs.YtgnkjmgkfibipaaGreatDoor
set_option linter.unusedVariables false
set_option linter.unusedSimpArgs false
open Go Go.R
set_option maxRecDepth 1000000
noncomputable section

noncomputable def ptrC (i : Nat) : Value := .pointer (some ⟨i, 0, none⟩)
noncomputable def litB (bs : List Int) : List Value := bs.map fun x => .int .u8 x
noncomputable def rowB (bs : List Int) : AObj := .cells (litB bs) true [] (some 5)
noncomputable def bldV (i m : Nat) : Value := .slice (some ⟨i, 0, some 1⟩) m m
noncomputable def OsN (n : Nat) (f : Nat → Int) : List AObj := [viewZ n f, .cells [.pointer none, .slice none 0 0] true [] (some 90)]
noncomputable def OsB (n : Nat) (f : Nat → Int) (bs : List Int) : List AObj := [viewZ n f, .cells [ptrC 1, bldV 2 bs.length] true [] (some 90), rowB bs]

theorem byte_info : ∃ info, Tryz.prog.info? 5 = some info ∧ info.size = 1 ∧ (decide (info.bytes > 1000000) || !zfit info) = false := ⟨(Tryz.prog.info? 5).get!, by kernel_rfl, by kernel_rfl, by kernel_rfl⟩

/-! ### WriteByte -/
/-! ### Told -/
/-! ### word$1 -/
end
end Go.Proofs.YtgnkjmgkfibipaaGreatDoor

/- follow, with word's function. -/
namespace Go.Proofs.YtgnkjmgkfibipaaGreatDoor
set_option linter.unusedVariables false
set_option linter.unusedSimpArgs false
open Go Go.R
set_option maxRecDepth 1000000
noncomputable section

abbrev EndW (n : Nat) (f : Nat → Int) (l : List Int) (e : AExit) (af : AF) : Prop := e = .exit 0 ∧ ((l = [] ∧ Less 2 (sth [] 39 (OsN n f)) af) ∨ (l ≠ [] ∧ Less 2 (sth [] 39 (OsB n f (l))) af))

end
end Go.Proofs.YtgnkjmgkfibipaaGreatDoor

/- word, as a contract. -/
namespace Go.Proofs.YtgnkjmgkfibipaaGreatDoor
set_option linter.unusedVariables false
set_option linter.unusedSimpArgs false
open Go Go.R
set_option maxRecDepth 1000000
noncomputable section

/-! ### follow, told -/
/-! ### String -/
/-! ### word -/
end
end Go.Proofs.YtgnkjmgkfibipaaGreatDoor

/- Run's function: a level more. -/
namespace Go.Proofs.YtgnkjmgkfibipaaGreatDoor
set_option linter.unusedVariables false
set_option linter.unusedSimpArgs false
open Go Go.R
set_option maxRecDepth 1000000
noncomputable section

/-- One element behind a full row of elements of one cell. -/
theorem push_gen {st e : TypeId} (e1 : Tryz.prog.underlying st = some (.slice e)) (hi : ∃ info, Tryz.prog.info? e = some info ∧ info.size = 1 ∧ (decide (info.bytes > 1000000) || !zfit info) = false)
    {h : AH} {i j m : Nat} {c : List Value} {x : Value} {par : List Nat} (hx : cellV x = true) (hm : c.length = m) (hlen : m < 1000000) (h1 : h.get i = .cells c true par (some e)) (h2 : h.get j = .cells [x] true [] (some e)) :
    appendA Tryz.prog #[st, st] (.slice (some ⟨i, 0, some 1⟩) m m) (.slice (some ⟨j, 0, none⟩) 1 1) h = some (.slice (some ⟨h.next, 0, some 1⟩) (m + 1) (m + 1), ((h.put i (.cells c false par (some e))).new (.cells (c ++ [x]) true (i :: par) (some e))).2) := by
  subst hm
  obtain ⟨info, e2, e3, e4⟩ := hi
  rw [Bool.or_eq_false_iff] at e4
  have e5 : srcA 1 (.slice (some ⟨j, 0, none⟩) 1 1) h = some ([x], 1) := by
    unfold srcA
    simp only [show ¬ (1 = 0) by decide, if_false]
    show (rowAt? h j 0 1).map (·, 1) = _
    unfold rowAt?
    rw [h2]; rfl
  have e6 : (decide (c.length > 1000000)) = false := by simp; omega
  have e7 : appendU e 1 i 0 c.length 1 [x] h = some (.slice (some ⟨h.next, 0, some 1⟩) (c.length + 1) (c.length + 1), ((h.put i (.cells c false par (some e))).new (.cells (c ++ [x]) true (i :: par) (some e))).2) := by
    unfold appendU
    rw [h1]
    show (if 0 + c.length * 1 = c.length then _ else _) = _
    rw [if_pos (by omega)]
    have : (if (some e = some e ∧ (0 : Nat) = 0) then some e else none) = some e := if_pos ⟨rfl, rfl⟩
    rw [this, List.drop_zero]
  unfold appendA
  simp only [List.getElem?_toArray, List.getElem?_cons_zero, List.getElem?_cons_succ, e1, e2, srcKind, Bool.not_true, Bool.false_eq_true, if_false, e3, e5]
  have e8 : ([x].all cellV) = true := by simp [hx]
  simp only [e8, e4.1, e4.2, e6, Bool.not_true, Bool.or_false, Bool.false_or, Bool.or_self, decide_false, show (1 = 0) = False by simp, show (1 : Nat) > 1000000 ↔ False by simp, if_false, decide_true, ne_eq, not_true_eq_false, Bool.false_eq_true, show (0 + 1 = 1) by rfl, e7]

noncomputable def OrN (n : Nat) (f : Nat → Int) : List AObj := [viewZ n f, .cells [.slice none 0 0] true [] (some 22)]
noncomputable def OrB (n : Nat) (f : Nat → Int) (bs : List Int) : List AObj := [viewZ n f, .cells [bldV 2 bs.length] true [] (some 22), rowT bs]
end
end Go.Proofs.YtgnkjmgkfibipaaGreatDoor

/- follow, with Run's function. -/
namespace Go.Proofs.YtgnkjmgkfibipaaGreatDoor
set_option linter.unusedVariables false
set_option linter.unusedSimpArgs false
open Go Go.R
set_option maxRecDepth 1000000
noncomputable section


abbrev EndR (n : Nat) (f : Nat → Int) (l : List Int) (e : AExit) (af : AF) : Prop := e = .exit 0 ∧ ((l = [] ∧ Less 2 (sth [] 39 (OrN n f)) af) ∨ (l ≠ [] ∧ Less 2 (sth [] 39 (OrB n f (l))) af))

end
end Go.Proofs.YtgnkjmgkfibipaaGreatDoor

/- words, Words, Run, as contracts. -/
namespace Go.Proofs.YtgnkjmgkfibipaaGreatDoor
set_option linter.unusedVariables false
set_option linter.unusedSimpArgs false
open Go Go.R
set_option maxRecDepth 1000000
noncomputable section

/-! ### words -/
noncomputable def strsV (m : Nat) (g : Nat → ByteArray) : List Value := (List.range m).map fun i => .string (g i)
noncomputable def rowS (m : Nat) (g : Nat → ByteArray) : AObj := .cells (strsV m g) true [] (some 9)
theorem strsV_len (m : Nat) (g : Nat → ByteArray) : (strsV m g).length = m := by simp [strsV]
theorem strsV_plain (m : Nat) (g : Nat → ByteArray) : ∀ x ∈ strsV m g, plainV x = true := fun x hx => by
  obtain ⟨i, _, rfl⟩ := List.mem_map.1 hx; rfl
theorem strsV_succ (m : Nat) (g : Nat → ByteArray) : strsV m g ++ [.string (g m)] = strsV (m + 1) g := by
  unfold strsV; rw [List.range_succ, List.map_append]; rfl
theorem str_info : ∃ info, Tryz.prog.info? 9 = some info ∧ info.size = 1 ∧ (decide (info.bytes > 1000000) || !zfit info) = false := ⟨(Tryz.prog.info? 9).get!, by kernel_rfl, by kernel_rfl, by kernel_rfl⟩
theorem obs_rowS {ρ : Nat → Nat} {m : Nat} {k : Nat} {g : Nat → ByteArray} {p : List Nat} {x : AObj} {c : List Value} (e : x = .cells c true p (some 9)) (ec : c = strsV k g) : RenO ρ m x (rowS k g) := RenO.row (c := strsV k g) (lv := true) (p := p) (ty := some 9) (ec ▸ e) (strsV_plain k g) (fun h => h) (.inr rfl)

/-! ### Words -/
theorem view_at {n cap : Nat} (hc : n ≤ cap) : SliceAt 0 0 n (slV n cap) := .inr ⟨cap, hc, rfl⟩
end
end Go.Proofs.YtgnkjmgkfibipaaGreatDoor

/- Run, as a contract. -/
namespace Go.Proofs.YtgnkjmgkfibipaaGreatDoor
set_option linter.unusedVariables false
set_option linter.unusedSimpArgs false
open Go Go.R
set_option maxRecDepth 1000000
noncomputable section

/-! ### asked -/
/-! ### follow, told -/
/-! ### Run -/
end
end Go.Proofs.YtgnkjmgkfibipaaGreatDoor
