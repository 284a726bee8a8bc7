/- A byte behind a builder's bytes. -/
import Derived.Test.YtgnkjmgkfibipaaDoorSPricedKG4
import Derived.Test.YtgnkjmgkfibipaaDoorSPricedRG6
namespace Go.Proofs.YtgnkjmgkfibipaaDoor
set_option linter.unusedVariables false
set_option linter.unusedSimpArgs false
open Go Go.R
set_option maxRecDepth 1000000
noncomputable section

noncomputable def ptrC (i : Nat) : Value := .pointer (some ⟨i, 0, none⟩)
noncomputable def litB (bs : List Int) : List Value := bs.map fun x => .int .u8 x
noncomputable def rowB (bs : List Int) : AObj := .cells (litB bs) true [] (some 5)
noncomputable def bldV (i m : Nat) : Value := .slice (some ⟨i, 0, some 1⟩) m m
noncomputable def OsN (n : Nat) (f : Nat → Int) : List AObj := [viewZ n f, .cells [.pointer none, .slice none 0 0] true [] (some 122)]
noncomputable def OsB (n : Nat) (f : Nat → Int) (bs : List Int) : List AObj := [viewZ n f, .cells [ptrC 1, bldV 2 bs.length] true [] (some 122), rowB bs]

/-! ### WriteByte -/
/-! ### Told -/
/-! ### word$1 -/
noncomputable def byteW (b : Bool) : Int := if b then 98 else 115
end
end Go.Proofs.YtgnkjmgkfibipaaDoor

/- follow, with word's function. -/
namespace Go.Proofs.YtgnkjmgkfibipaaDoor
set_option linter.unusedVariables false
set_option linter.unusedSimpArgs false
open Go Go.R
set_option maxRecDepth 1000000
noncomputable section

noncomputable def folF (f : Nat → Int) (hd : Int) : Nat → Nat → Int → Int → List Int
  | 0, _, _, _ => []
  | d + 1, i, lo, hi => if leF (f i) lo || ltF hi (f i) then folF f hd d (i + 1) lo hi else f i :: (if ltF hd (f i) then folF f hd d (i + 1) lo (f i - 1) else folF f hd d (i + 1) (f i) hi)
theorem folF_skip {f : Nat → Int} {hd lo hi : Int} {d i : Nat} (h : (leF (f i) lo || ltF hi (f i)) = true) : folF f hd (d + 1) i lo hi = folF f hd d (i + 1) lo hi := by rw [folF, if_pos h]
theorem folF_blunt {f : Nat → Int} {hd lo hi : Int} {d i : Nat} (h : (leF (f i) lo || ltF hi (f i)) = false) (hb : ltF hd (f i) = true) : folF f hd (d + 1) i lo hi = f i :: folF f hd d (i + 1) lo (f i - 1) := by rw [folF, if_neg (by rw [h]; decide), if_pos hb]
theorem folF_sharp {f : Nat → Int} {hd lo hi : Int} {d i : Nat} (h : (leF (f i) lo || ltF hi (f i)) = false) (hb : ltF hd (f i) = false) : folF f hd (d + 1) i lo hi = f i :: folF f hd d (i + 1) (f i) hi := by rw [folF, if_neg (by rw [h]; decide), if_neg (by rw [hb]; decide)]
theorem fol_sub {x : Int} {n : Nat} (h1 : 0 ≤ x) (h2 : x ≤ n) (hn : n < 1000000) : wrapF .i64 (Int.sub x 1) = x - 1 := by
  obtain ⟨k, rfl⟩ : ∃ k : Nat, x = .ofNat k := ⟨x.toNat, (Int.toNat_of_nonneg h1).symm⟩
  have hk : k ≤ n := Int.ofNat_le.1 h2
  cases k with
  | zero => rfl
  | succ k =>
    have := f_sub (a := k + 1) (b := 1) (by omega) (by omega)
    rw [show Int.sub (Int.ofNat (k + 1)) 1 = Int.sub (.ofNat (k + 1)) (.ofNat 1) from rfl, this]
    show ((k + 1 - 1 : Nat) : Int) = ((k + 1 : Nat) : Int) - 1
    omega

abbrev EndW (n : Nat) (f : Nat → Int) (l : List Int) (e : AExit) (af : AF) : Prop := e = .exit 0 ∧ ((l = [] ∧ Less 2 (sth [] 39 (OsN n f)) af) ∨ (l ≠ [] ∧ Less 2 (sth [] 39 (OsB n f (l))) af))

end
end Go.Proofs.YtgnkjmgkfibipaaDoor

/- word, as a contract. -/
namespace Go.Proofs.YtgnkjmgkfibipaaDoor
set_option linter.unusedVariables false
set_option linter.unusedSimpArgs false
open Go Go.R
set_option maxRecDepth 1000000
noncomputable section

/-! ### follow, told -/
/-! ### String -/
noncomputable def strB (bs : List Int) : ByteArray := ⟨(bs.map fun x => x.toNat.toUInt8).toArray⟩
noncomputable def HS (n : Nat) (f : Nat → Int) (bs : List Int) : AH := (hp (OsB n f bs)).put 2 (.cells (litB bs) false [] (some 5))
/-! ### word -/
end
end Go.Proofs.YtgnkjmgkfibipaaDoor

/- Run's function: a level more. -/
namespace Go.Proofs.YtgnkjmgkfibipaaDoor
set_option linter.unusedVariables false
set_option linter.unusedSimpArgs false
open Go Go.R
set_option maxRecDepth 1000000
noncomputable section

/-- One element behind a full row of elements of one cell. -/
theorem push_gen {st e : TypeId} (e1 : Tryd.prog.underlying st = some (.slice e)) (hi : ∃ info, Tryd.prog.info? e = some info ∧ info.size = 1 ∧ (decide (info.bytes > 1000000) || !zfit info) = false)
    {h : AH} {i j m : Nat} {c : List Value} {x : Value} {par : List Nat} (hx : cellV x = true) (hm : c.length = m) (hlen : m < 1000000) (h1 : h.get i = .cells c true par (some e)) (h2 : h.get j = .cells [x] true [] (some e)) :
    appendA Tryd.prog #[st, st] (.slice (some ⟨i, 0, some 1⟩) m m) (.slice (some ⟨j, 0, none⟩) 1 1) h = some (.slice (some ⟨h.next, 0, some 1⟩) (m + 1) (m + 1), ((h.put i (.cells c false par (some e))).new (.cells (c ++ [x]) true (i :: par) (some e))).2) := by
  subst hm
  obtain ⟨info, e2, e3, e4⟩ := hi
  rw [Bool.or_eq_false_iff] at e4
  have e5 : srcA 1 (.slice (some ⟨j, 0, none⟩) 1 1) h = some ([x], 1) := by
    unfold srcA
    simp only [show ¬ (1 = 0) by decide, if_false]
    show (rowAt? h j 0 1).map (·, 1) = _
    unfold rowAt?
    rw [h2]; rfl
  have e6 : (decide (c.length > 1000000)) = false := by simp; omega
  have e7 : appendU e 1 i 0 c.length 1 [x] h = some (.slice (some ⟨h.next, 0, some 1⟩) (c.length + 1) (c.length + 1), ((h.put i (.cells c false par (some e))).new (.cells (c ++ [x]) true (i :: par) (some e))).2) := by
    unfold appendU
    rw [h1]
    show (if 0 + c.length * 1 = c.length then _ else _) = _
    rw [if_pos (by omega)]
    have : (if (some e = some e ∧ (0 : Nat) = 0) then some e else none) = some e := if_pos ⟨rfl, rfl⟩
    rw [this, List.drop_zero]
  unfold appendA
  simp only [List.getElem?_toArray, List.getElem?_cons_zero, List.getElem?_cons_succ, e1, e2, srcKind, Bool.not_true, Bool.false_eq_true, if_false, e3, e5]
  have e8 : ([x].all cellV) = true := by simp [hx]
  simp only [e8, e4.1, e4.2, e6, Bool.not_true, Bool.or_false, Bool.false_or, Bool.or_self, decide_false, show (1 = 0) = False by simp, show (1 : Nat) > 1000000 ↔ False by simp, if_false, decide_true, ne_eq, not_true_eq_false, Bool.false_eq_true, show (0 + 1 = 1) by rfl, e7]

noncomputable def OrN (n : Nat) (f : Nat → Int) : List AObj := [viewZ n f, .cells [.slice none 0 0] true [] (some 24)]
noncomputable def OrB (n : Nat) (f : Nat → Int) (bs : List Int) : List AObj := [viewZ n f, .cells [bldV 2 bs.length] true [] (some 24), rowT bs]
end
end Go.Proofs.YtgnkjmgkfibipaaDoor

/- follow, with Run's function. -/
namespace Go.Proofs.YtgnkjmgkfibipaaDoor
set_option linter.unusedVariables false
set_option linter.unusedSimpArgs false
open Go Go.R
set_option maxRecDepth 1000000
noncomputable section


abbrev EndR (n : Nat) (f : Nat → Int) (l : List Int) (e : AExit) (af : AF) : Prop := e = .exit 0 ∧ ((l = [] ∧ Less 2 (sth [] 39 (OrN n f)) af) ∨ (l ≠ [] ∧ Less 2 (sth [] 39 (OrB n f (l))) af))

end
end Go.Proofs.YtgnkjmgkfibipaaDoor

/- words, Words, Run, as contracts. -/
namespace Go.Proofs.YtgnkjmgkfibipaaDoor
set_option linter.unusedVariables false
set_option linter.unusedSimpArgs false
open Go Go.R
set_option maxRecDepth 1000000
noncomputable section

/-! ### words -/
/-! ### Words -/
end
end Go.Proofs.YtgnkjmgkfibipaaDoor

/- Run, as a contract. -/
namespace Go.Proofs.YtgnkjmgkfibipaaDoor
set_option linter.unusedVariables false
set_option linter.unusedSimpArgs false
open Go Go.R
set_option maxRecDepth 1000000
noncomputable section

/-! ### asked -/
/-! ### follow, told -/
noncomputable def runF (f : Nat → Int) (n : Nat) (hd : Int) : List Int := folF f hd n 0 0 (.ofNat n)
/-! ### Run -/
end
end Go.Proofs.YtgnkjmgkfibipaaDoor
