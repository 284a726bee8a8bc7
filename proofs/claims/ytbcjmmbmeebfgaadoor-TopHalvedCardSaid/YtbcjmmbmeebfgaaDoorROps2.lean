/- Each operation of the abstract machine is one of the model's: what computes without memory. -/
import Derived.Test.YtbcjmmbmeebfgaaDoorROps
import Derived.DeepKeys
namespace Go.R
set_option linter.unusedVariables false
set_option linter.unusedSimpArgs false
open Go Go.RowKit

section
variable {P : Program} {μ : Mp} {w : World}

theorem eqGuard_run (op : BinOp) (t : TypeId) (x y : Operand) (a b : Value) (h1 : a ≠ .nilIface) (h2 : ∀ c, a ≠ .agg c) : (eqGuard op t x y a b).run P w = .ok () w := by
  unfold eqGuard
  cases op <;> simp <;> (cases a <;> simp_all)

theorem int_ok {op : BinOp} {k : IntKind} {a b : Int} {v : Value} (t : TypeId) (hv : intBin op k a b = some v) (h1 : op ≠ .shl) (h2 : op ≠ .shr) :
    (binOp op t (.int k a) (.int k b)).run P w = .ok v w ∧ plainV v = true := by
  cases op <;> simp [intBin, wrapF_eq, eqF_eq, ltF_eq, leF_eq] at hv h1 h2 <;> first
    | (subst hv; simp [binOp, Op.intArith, Op.intBits, Op.intCmp, bne, plainV]; done)
    | (obtain ⟨hb, rfl⟩ := hv; simp [binOp, Op.intDiv, hb, plainV])

theorem shift_ok {op : BinOp} {k k' : IntKind} {a b : Int} {v : Value} (t : TypeId) (hv : shiftA op k a b = some v) (h1 : op = .shl ∨ op = .shr) :
    (binOp op t (.int k a) (.int k' b)).run P w = .ok v w ∧ plainV v = true := by
  unfold shiftA at hv
  rcases h1 with rfl | rfl <;> simp at hv <;> obtain ⟨hb, rfl⟩ := hv <;> simp [binOp, Op.shift, plainV, Int.not_lt.2 hb]

theorem str_ok {op : BinOp} {a b : ByteArray} {v : Value} (t : TypeId) (hv : strBin op a b = some v) : (binOp op t (.string a) (.string b)).run P w = .ok v w ∧ plainV v = true := by
  cases op <;> simp only [strBin, Option.some.injEq, reduceCtorEq] at hv <;> first
    | (subst hv; simp [binOp, Op.stringOp, bytesLt, plainV]; done)
    | (split at hv
       · cases hv
       · rename_i hn
         cases hv
         simp only [binOp, Op.stringOp, plainV, if_neg hn]
         exact ⟨rfl, trivial⟩)

theorem equal_unfold (t : TypeId) (x y : Value) : Op.equal t x y = Op.equalIn (9999 + 1) t x y := rfl

theorem equal_at {t : TypeId} {d : TypeDesc} (hd : P.underlying t = some d) (x y : Value) (r : Bool)
    (h : (match d, x, y with
      | .bool, .bool a, .bool b => r = (a == b)
      | .slice _, .slice none _ _, .slice b _ _ => r = b.isNone
      | .slice _, .slice (some _) _ _, .slice none _ _ => r = false
      | .map _ _, .map none, .map b => r = b.isNone
      | .map _ _, .map (some _), .map none => r = false
      | .pointer _, .pointer none, .pointer b => r = b.isNone
      | .pointer _, .pointer (some _), .pointer none => r = false
      | .func _ _ _, .nilFunc, .nilFunc => r = true
      | .func _ _ _, .nilFunc, .func _ _ _ => r = false
      | .func _ _ _, .func _ _ _, .nilFunc => r = false
      | _, _, _ => False)) : (Op.equal t x y).run P w = .ok r w := by
  rw [equal_unfold, Op.equalIn]
  simp only [Sem.run_bind, run_under hd, Result.andThen_ok]
  split at h <;> first | (subst h; rfl) | exact h.elim

theorem equal_ptr {t e : TypeId} {inf : TypeInfo} (hd : P.underlying t = some (.pointer e)) (hi : P.info? e = some inf) (hs : inf.size ≠ 0) (b o q : Nat) :
    (Op.equal t (.pointer (some ⟨b, o, none⟩)) (.pointer (some ⟨b, q, none⟩))).run P w = .ok (o == q) w := by
  rw [equal_unfold, Op.equalIn]
  simp only [Sem.run_bind, run_under hd, Result.andThen_ok, run_sizeOf hi, sameAddr, BEq.rfl, if_true, Sem.run_ite]
  rw [if_pos hs]
  simp only [Sem.run_pure]
  congr 1
  by_cases e : o = q
  · subst e; simp
  · have : (⟨b, o, none⟩ : Addr) ≠ ⟨b, q, none⟩ := by intro hh; injection hh; contradiction
    rw [beq_eq_false_iff_ne.2 this, beq_eq_false_iff_ne.2 e]

/-- What a value is none of: the tests that Go's == makes ahead. -/
def Bare (x : Value) : Prop := match x with
  | .nilIface | .agg _ | .int _ _ | .string _ | .float _ _ | .complex _ _ _ | .tuple _ => False
  | _ => True

theorem eq_ok {t : TypeId} {x y x' y' : Value} {r : Bool} (hv : eqA P (P.underlying t) x y = some r) (hx : VR μ x x') (hy : VR μ y y') :
    (Op.equal t x' y').run P w = .ok r w ∧ Bare x' ∧ Bare y' := by
  cases hd : P.underlying t with
  | none => simp [hd, eqA] at hv
  | some d =>
    rw [hd] at hv
    unfold eqA at hv
    split at hv
    · rename_i el i o j q hq
      cases hq
      simp only [Bool.and_eq_true, decide_eq_true_eq, Option.ite_none_right_eq_some, Option.some.injEq] at hv
      obtain ⟨⟨⟨rfl, hinf⟩, hcell⟩, rfl⟩ := hv
      obtain ⟨b, z, e', hi, rfl⟩ := hx.ptr_inv
      obtain ⟨b', z', e'', hi', rfl⟩ := hy.ptr_inv
      rw [hi] at hi'; cases hi'
      obtain ⟨inf, hinf'⟩ := Option.isSome_iff_exists.1 hinf
      rw [cellsOf_info hinf'] at hcell
      refine ⟨?_, trivial, trivial⟩
      rw [equal_ptr hd hinf' hcell]
      congr 1
      by_cases e : o = q
      · subst e; simp
      · have : ¬ z + o = z + q := by omega
        rw [beq_eq_false_iff_ne.2 this, beq_eq_false_iff_ne.2 e]
    · rename_i a b hq
      cases hq; cases hv
      cases hx.bool_inv; cases hy.bool_inv
      exact ⟨equal_at hd _ _ _ rfl, trivial, trivial⟩
    · rename_i hq
      cases hq; cases hv
      obtain ⟨_, _, rfl⟩ := hx.sliceN_inv
      cases hy <;> exact ⟨equal_at hd _ _ _ rfl, trivial, trivial⟩
    · rename_i hq
      cases hq; cases hv
      obtain ⟨_, _, rfl⟩ := hy.sliceN_inv
      cases hx <;> first | exact ⟨equal_at hd _ _ _ rfl, trivial, trivial⟩ | (rename_i hp; simp [plainV] at hp)
    · rename_i hq
      cases hq; cases hv
      cases hx.mapN_inv
      cases hy <;> exact ⟨equal_at hd _ _ _ rfl, trivial, trivial⟩
    · rename_i hq
      cases hq; cases hv
      obtain ⟨b, e, _, rfl⟩ := hx.map_inv
      cases hy.mapN_inv
      exact ⟨equal_at hd _ _ _ rfl, trivial, trivial⟩
    · rename_i hq
      cases hq; cases hv
      cases hx.ptrN_inv
      cases hy <;> exact ⟨equal_at hd _ _ _ rfl, trivial, trivial⟩
    · rename_i hq
      cases hq; cases hv
      cases hy.ptrN_inv
      cases hx <;> first | exact ⟨equal_at hd _ _ _ rfl, trivial, trivial⟩ | (rename_i hp; simp [plainV] at hp)
    · rename_i hq
      cases hq; cases hv
      cases hx.nilFunc_inv; cases hy.nilFunc_inv
      exact ⟨equal_at hd _ _ _ rfl, trivial, trivial⟩
    · rename_i hq
      cases hq; cases hv
      cases hx.nilFunc_inv
      obtain ⟨f', c', rfl, _⟩ := hy.func_inv
      exact ⟨equal_at hd _ _ _ rfl, trivial, trivial⟩
    · rename_i hq
      cases hq; cases hv
      cases hy.nilFunc_inv
      obtain ⟨f', c', rfl, _⟩ := hx.func_inv
      exact ⟨equal_at hd _ _ _ rfl, trivial, trivial⟩
    · cases hv

theorem eqGuard_bare (op : BinOp) (t : TypeId) (x y : Operand) (a b : Value) (h1 : Bare a) : (eqGuard op t x y a b).run P w = .ok () w := by
  apply eqGuard_run
  · rintro rfl; exact h1
  · rintro c rfl; exact h1

theorem binOp_eq {t : TypeId} {x y : Value} (hx : Bare x) (hy : Bare y) : binOp .eql t x y = (do pure (.bool (← Op.equal t x y))) ∧ binOp .neq t x y = (do pure (.bool (!(← Op.equal t x y)))) := by
  cases x <;> first | exact hx.elim | (cases y <;> first | exact hy.elim | exact ⟨rfl, rfl⟩)

theorem plain_eq {v v' : Value} (hp : plainV v = true) (h : VR μ v v') : v' = v := by
  cases v <;> try (simp [plainV] at hp; done)
  case bool => exact h.bool_inv
  case int => exact h.int_inv
  case string => exact h.string_inv
  case pointer a => cases a with
    | none => exact h.ptrN_inv
    | some _ => simp [plainV] at hp
  case slice a n c => cases a with
    | none => simp [plainV] at hp; obtain ⟨_, _, h⟩ := h.sliceN_inv; rw [h, hp.1, hp.2]
    | some _ => simp [plainV] at hp
  case map r => cases r with
    | none => exact h.mapN_inv
    | some _ => simp [plainV] at hp
  case nilFunc => exact h.nilFunc_inv
  case nilIface => cases h; rfl

theorem LR.plain_eq {l l' : List Value} (hp : ∀ v ∈ l, plainV v = true) (h : LR μ l l') : l' = l := by
  apply List.ext_getElem?
  intro k
  rcases hk : l[k]? with _ | v
  · rw [List.getElem?_eq_none_iff] at hk ⊢; have := h.1; omega
  · obtain ⟨v', h1, h2⟩ := h.at_ hk
    rw [h1, R.plain_eq (hp v (List.mem_of_getElem? hk)) h2]

theorem agg_ok {t : TypeId} {xs ys : Array Value} {x' y' : Value} {r : Bool} (hv : aggEq P t xs ys = some r) (hx : VR μ (.agg xs) x') (hy : VR μ (.agg ys) y') :
    x' = .agg xs ∧ y' = .agg ys ∧ P.eqGuardType P.depth t = false ∧ (Op.equal t x' y').run P w = .ok r w := by
  unfold aggEq at hv
  rw [Option.ite_none_right_eq_some] at hv
  obtain ⟨hc, hv⟩ := hv
  simp only [Bool.and_eq_true, Bool.not_eq_true', List.all_eq_true] at hc
  obtain ⟨⟨⟨⟨⟨p1, p2⟩, hg⟩, hk⟩, f1⟩, f2⟩ := hc
  obtain ⟨a', rfl, hl⟩ := hx.agg_inv
  obtain ⟨b', rfl, hl2⟩ := hy.agg_inv
  have e1 : a' = xs := Array.ext' (LR.plain_eq p1 hl)
  have e2 : b' = ys := Array.ext' (LR.plain_eq p2 hl2)
  subst e1 e2
  refine ⟨rfl, rfl, hg, ?_⟩
  split at hv
  · rename_i a b ha hb
    obtain ⟨r', hr, hiff⟩ := run_equalIn_deep (P := P) 9988 12 t hk w 12 12 _ _ a b f1 f2 ha hb
    rw [equal_unfold, show (9999 + 1) = 9988 + 12 from rfl, hr]
    congr 1
    rw [Bool.eq_iff_iff, hiff, litsQ_iff hv]
  · cases hv

theorem eqGuard_agg (op : BinOp) (t : TypeId) (x y : Operand) (a b : Array Value) (h : P.eqGuardType P.depth t = false) : (eqGuard op t x y (.agg a) (.agg b)).run P w = .ok () w := by
  unfold eqGuard
  cases op <;> simp [run_program, h]

theorem bin_ok {op : BinOp} {t : TypeId} {x y x' y' v : Value} (xo yo : Operand) (hv : binA P op t x y = some v) (hx : VR μ x x') (hy : VR μ y y') :
    ((do eqGuard op t xo yo x' y'; binOp op t x' y') : Sem Value).run P w = .ok v w ∧ plainV v = true := by
  unfold binA at hv
  split at hv
  · rename_i k a k' b
    cases hx.int_inv; cases hy.int_inv
    have hg : (eqGuard op t xo yo (.int k a) (.int k' b)).run P w = .ok () w := eqGuard_run _ _ _ _ _ _ (by simp) (by simp)
    simp only [Sem.run_bind, hg, Result.andThen_ok]
    split at hv
    · exact shift_ok t hv (.inl rfl)
    · exact shift_ok t hv (.inr rfl)
    · rename_i h1 h2
      split at hv
      · rename_i hk; subst hk; exact int_ok t hv h1 h2
      · cases hv
  · rename_i a b
    cases hx.string_inv; cases hy.string_inv
    have hg : (eqGuard op t xo yo (.string a) (.string b)).run P w = .ok () w := eqGuard_run _ _ _ _ _ _ (by simp) (by simp)
    simp only [Sem.run_bind, hg, Result.andThen_ok]
    exact str_ok t hv
  · rename_i xs ys
    split at hv
    · rw [Option.map_eq_some_iff] at hv
      obtain ⟨r, hr, rfl⟩ := hv
      obtain ⟨rfl, rfl, hg, e1⟩ := agg_ok (w := w) hr hx hy
      simp [eqGuard_agg _ _ _ _ _ _ hg, binOp, e1, plainV]
    · rw [Option.map_eq_some_iff] at hv
      obtain ⟨r, hr, rfl⟩ := hv
      obtain ⟨rfl, rfl, hg, e1⟩ := agg_ok (w := w) hr hx hy
      simp [eqGuard_agg _ _ _ _ _ _ hg, binOp, e1, plainV]
    · cases hv
  · split at hv
    · rw [Option.map_eq_some_iff] at hv
      obtain ⟨r, hr, rfl⟩ := hv
      obtain ⟨e1, e2, e3⟩ := eq_ok (w := w) hr hx hy
      rw [(binOp_eq e2 e3).1]
      simp [eqGuard_bare _ _ _ _ _ _ e2, e1, plainV]
    · rw [Option.map_eq_some_iff] at hv
      obtain ⟨r, hr, rfl⟩ := hv
      obtain ⟨e1, e2, e3⟩ := eq_ok (w := w) hr hx hy
      rw [(binOp_eq e2 e3).2]
      simp [eqGuard_bare _ _ _ _ _ _ e2, e1, plainV]
    · cases hv

theorem un_ok {op : UnOp} {x x' v : Value} (hv : unA op x = some v) (hx : VR μ x x') : (Op.unary op x').run P w = .ok v w ∧ plainV v = true := by
  unfold unA at hv
  split at hv
  · cases hx.int_inv; cases hv; simp [Op.unary, Op.intArith, plainV]
  · cases hx.int_inv
    rename_i k n
    simp only [intBin, wrapF_eq, Option.some.injEq] at hv
    subst hv
    simp [Op.unary, Op.intBits, plainV]
  · cases hx.bool_inv; cases hv; simp [Op.unary, plainV]
  · cases hv

/-! ### Addresses, parts -/
theorem asIntOf_run (k : IntKind) (n : Int) : (asIntOf (.int k n)).run P w = .ok (k, n) w := rfl

theorem bound_ok {v v' : Option Value} {d cap r : Nat} (c : BoundsCode) (hv : boundA v d cap = some r) (hr : ∀ x, v = some x → ∃ x', v' = some x' ∧ VR μ x x') (hn : v = none → v' = none) :
    (match v' with | some x => Instr.sliceBound x cap c | none => (pure d : Sem Nat)).run P w = .ok r w := by
  unfold boundA at hv
  split at hv
  · rw [hn rfl]; cases hv; rfl
  · rename_i k i
    obtain ⟨x', rfl, hx⟩ := hr _ rfl
    cases hx.int_inv
    split at hv
    · rename_i hb
      cases hv
      simp [Instr.sliceBound, asIntOf_run, hb]
    · cases hv
  · cases hv

end
end Go.R
