/- Each operation of the abstract machine is one of the model's: reads, writes, numbers, strings, addresses. -/
import Derived.Test.YtbcjmmbmeebfgaaGreatDoorSFloodedRG1
import Derived.DeepKeys
import Derived.Laws.OwnMore
import Derived.Room.Entries
import Derived.ChangeKeysEq
namespace Go.R
set_option linter.unusedVariables false
set_option linter.unusedSimpArgs false
open Go Go.RowKit

section
variable {P : Program} {F : Nat → Prop} {w0 : World} {μ : Mp} {h : AH} {w : World}

/-! ### The tables -/
theorem run_info {t : TypeId} {i : TypeInfo} (hi : P.info? t = some i) : (typeInfo t).run P w = .ok i w := by simp [typeInfo, hi]
theorem run_under {t : TypeId} {d : TypeDesc} (hd : P.underlying t = some d) : (underlying t).run P w = .ok d w := by simp [underlying, hd]
theorem run_sizeOf {t : TypeId} {i : TypeInfo} (hi : P.info? t = some i) : (sizeOf t).run P w = .ok i.size w := by simp [sizeOf, run_info hi]
theorem run_zeroV {t : TypeId} {i : TypeInfo} {z : Value} (hi : P.info? t = some i) (hz : i.zero = some z) : (zeroValue t).run P w = .ok z w := by simp [zeroValue, run_info hi, hz]
theorem run_isAgg {t : TypeId} {d : TypeDesc} (hd : P.underlying t = some d) : (isAgg t).run P w = .ok (isAggD d) w := by
  simp only [isAgg, Sem.run_bind, run_under hd, Result.andThen_ok]
  cases d <;> rfl
theorem run_newRow {e : TypeId} {c : Array Value} : (newRow e c).run P w = .ok ⟨w.heap.size, 0, none⟩ (w.alloc (.cells c e)) := rfl
theorem cellsOf_info {t : TypeId} {i : TypeInfo} (hi : P.info? t = some i) : P.cellsOf t = i.size := by simp [Program.cellsOf, hi]

@[simp] theorem add_at (b o n : Nat) : (⟨b, o, none⟩ : Addr).add n = ⟨b, o + n, none⟩ := by
  unfold Addr.add; split <;> simp_all

/-! ### Reading -/
theorem row_read (H : HR F w0 μ h w) {i b z e o n : Nat} {l : List Value} (hi : μ i = some (b, z, e)) (hr : rowAt? h i o n = some l) :
    ∃ l', LR μ l l' ∧ l.length = n ∧ ∀ j v, l'[j]? = some v → w.cell? ⟨b, z + o + j, none⟩ = some v := by
  have ho := H.obj i b z e hi
  unfold rowAt? at hr
  rcases hg : h.get i with ⟨c, live, par, ty⟩ | es | ⟨s, pos⟩ | tag | _ <;> rw [hg] at hr <;> simp at hr
  obtain ⟨hle, rfl⟩ := hr
  rw [hg] at ho
  obtain ⟨cs, el, fr, h1, h2, h3, h4, _⟩ := ho
  have hlen : ((c.drop o).take n).length = n := by simp; omega
  have hlen' : ((cs.toList.drop (z + o)).take n).length = n := by simp; omega
  refine ⟨(cs.toList.drop (z + o)).take n, ⟨hlen.trans hlen'.symm, fun k v v' x y => ?_⟩, hlen, fun j v x => ?_⟩
  · have hk : k < n := by
      rcases Nat.lt_or_ge k n with a | a
      · exact a
      · rw [List.getElem?_eq_none (by omega)] at x; cases x
    rw [List.getElem?_take_of_lt hk, List.getElem?_drop] at x y
    obtain ⟨u, hu, hv⟩ := h4 (o + k) v x
    rw [Array.getElem?_toList, Nat.add_assoc] at y
    rw [hu] at y; cases y; exact hv
  · have hk : j < n := by
      rcases Nat.lt_or_ge j n with a | a
      · exact a
      · rw [List.getElem?_eq_none (by omega)] at x; cases x
    rw [List.getElem?_take_of_lt hk, List.getElem?_drop, Array.getElem?_toList] at x
    simp [World.cell?, h1, x]

theorem load_cells (H : HR F w0 μ h w) {i b z e o n : Nat} {l : List Value} (hi : μ i = some (b, z, e)) (hr : rowAt? h i o n = some l) :
    ∃ l', LR μ l l' ∧ (loadCells ⟨b, z + o, none⟩ n).run P w = .ok l'.toArray w := by
  obtain ⟨l', hl, hn, hc⟩ := row_read H hi hr
  refine ⟨l', hl, ?_⟩
  have := run_loadCells_list (P := P) w ⟨b, z + o, none⟩ l' (fun j v hj => by rw [add_at]; exact hc j v hj)
  rwa [← hl.1, hn] at this

theorem load_ok (H : HR F w0 μ h w) {t : TypeId} {i o : Nat} {v x : Value} (hl : loadA P t i o h = some v) (hx : VR μ (.pointer (some ⟨i, o, none⟩)) x) :
    ∃ v', (Instr.loadAt t x).run P w = .ok v' w ∧ VR μ v v' := by
  obtain ⟨b, z, e, hi, rfl⟩ := hx.ptr_inv
  unfold loadA at hl
  cases hf : P.info? t with
  | none => simp [hf] at hl
  | some info =>
    cases hd : P.underlying t with
    | none => simp [hf, hd] at hl
    | some d =>
      simp only [hf, hd] at hl
      cases hb : isAggD d with
      | true =>
        simp only [hb, if_true, Option.map_eq_some_iff] at hl
        obtain ⟨l, hr, rfl⟩ := hl
        obtain ⟨l', hL, hrun⟩ := load_cells (P := P) H hi hr
        refine ⟨.agg l'.toArray, ?_, VR.agg_of (by simpa using hL)⟩
        simp [Instr.loadAt, Instr.sureAddr, loadVar, run_isAgg hd, hb, run_sizeOf hf, hrun]
      | false =>
        simp only [hb, Bool.false_eq_true, if_false] at hl
        split at hl
        · rename_i u hr
          cases hl
          obtain ⟨l', hL, hn, hc⟩ := row_read H hi hr
          obtain ⟨v', hv', hvr⟩ := hL.at_ (k := 0) rfl
          refine ⟨v', ?_, hvr⟩
          have hcell := hc 0 v' hv'
          simp only [Nat.add_zero] at hcell
          simp [Instr.loadAt, Instr.sureAddr, loadVar, run_isAgg hd, hb, hcell]
        · cases hl

/-! ### Writing -/
def writeA (cs : Array Value) (p : Nat) : List Value → Array Value
  | [] => cs
  | v :: l => writeA (cs.setIfInBounds p v) (p + 1) l

theorem writeA_size (l : List Value) : ∀ (cs : Array Value) (p : Nat), (writeA cs p l).size = cs.size := by
  induction l with
  | nil => intro cs p; rfl
  | cons v l ih => intro cs p; simp [writeA, ih]

theorem writeA_get (l : List Value) : ∀ (cs : Array Value) (p k : Nat), p + l.length ≤ cs.size →
    (writeA cs p l)[k]? = if p ≤ k ∧ k < p + l.length then l[k - p]? else cs[k]? := by
  induction l with
  | nil => intro cs p k _; simp only [writeA, List.length_nil]; rw [if_neg (by omega)]
  | cons v l ih =>
    intro cs p k hp
    simp only [List.length_cons] at hp ⊢
    rw [writeA, ih _ _ _ (by simp; omega), Array.getElem?_setIfInBounds]
    by_cases h1 : k = p
    · subst h1
      rw [if_neg (by omega), if_pos rfl, if_pos (by omega), if_pos (by omega)]
      simp
    · by_cases h2 : p ≤ k ∧ k < p + (l.length + 1)
      · rw [if_pos (by omega), if_pos h2]
        obtain ⟨m, rfl⟩ : ∃ m, k = p + 1 + m := ⟨k - (p + 1), by omega⟩
        rw [show p + 1 + m - (p + 1) = m by omega, show p + 1 + m - p = m + 1 by omega]
        simp
      · rw [if_neg (by omega), if_neg (by omega), if_neg h2]

theorem wrote_setCell (w : World) (b o : Nat) (v : Value) (cs : Array Value) (el : TypeId) (fr : Nat × Nat) (hb : w.heap[b]? = some (.cells cs el fr)) :
    Wrote w (w.setCell ⟨b, o, none⟩ v) b (.cells (cs.setIfInBounds o v) el fr) where
  os := rfl
  tape := rfl
  output := rfl
  size := by simp
  at_ := by simp [World.setCell, Array.getElem?_modify, hb]
  other := fun k hk => Below.heap_setCell _ _ _ _ hk

theorem Wrote.refl (w : World) (b : Nat) (o : Obj) (hb : w.heap[b]? = some o) : Wrote w w b o := ⟨rfl, rfl, rfl, rfl, hb, fun _ _ => rfl⟩
theorem Wrote.trans {w w1 w2 : World} {b : Nat} {o o' : Obj} (h : Wrote w w1 b o) (k : Wrote w1 w2 b o') : Wrote w w2 b o' :=
  ⟨k.os.trans h.os, k.tape.trans h.tape, k.output.trans h.output, k.size.trans h.size, k.at_, fun j hj => (k.other j hj).trans (h.other j hj)⟩

theorem run_storeCells (l : List Value) : ∀ (w : World) (b o i : Nat) (cs : Array Value) (el : TypeId) (fr : Nat × Nat), w.heap[b]? = some (.cells cs el fr) → o + i + l.length ≤ cs.size →
    (∀ k, o + i ≤ k → k < o + i + l.length → ¬ (fr.1 ≤ k ∧ k < fr.2)) → (∀ v ∈ l, cellV v = true) →
    ∃ w', (storeCells ⟨b, o, none⟩ l i).run P w = .ok () w' ∧ Wrote w w' b (.cells (writeA cs (o + i) l) el fr) := by
  induction l with
  | nil => intro w b o i cs el fr hb _ _ _; exact ⟨w, by simp [storeCells], Wrote.refl w b _ hb⟩
  | cons v l ih =>
    intro w b o i cs el fr hb hle hfr hcv
    simp only [List.length_cons] at hle hfr
    have hv : cellV v = true := hcv v (by simp)
    have hW := wrote_setCell w b (o + i) v cs el fr hb
    obtain ⟨w', hrun, hW'⟩ := ih (w.setCell ⟨b, o + i, none⟩ v) b o (i + 1) (cs.setIfInBounds (o + i) v) el fr hW.at_ (by simp; omega)
      (fun k h1 h2 => hfr k (by omega) (by omega)) (fun u hu => hcv u (by simp [hu]))
    refine ⟨w', ?_, hW.trans hW'⟩
    have hcell : ∃ u, w.cell? ⟨b, o + i, none⟩ = some u := by
      refine ⟨cs[o + i]'(by omega), ?_⟩
      simp [World.cell?, hb, Array.getElem?_eq_getElem (show o + i < cs.size by omega)]
    obtain ⟨u, hu⟩ := hcell
    have hfz : w.frozen? ⟨b, o + i, none⟩ = false := by
      have := hfr (o + i) (by omega) (by omega)
      simp only [World.frozen?, hb]
      by_cases h1 : fr.1 ≤ o + i
      · by_cases h2 : o + i < fr.2
        · exact absurd ⟨h1, h2⟩ this
        · simp [h2]
      · simp [h1]
    simp only [storeCells, Sem.run_bind, add_at]
    rw [run_store P w _ v .plain (by rw [cellV_one]; exact hv)]
    simp [hu, hfz, hrun]

/-- A row of cells, written in an object that is live. -/
theorem row_write (H : HR F w0 μ h w) {i b z e o : Nat} {vs vs' : List Value} {h' : AH} (hi : μ i = some (b, z, e)) (hp : putRow? h i o vs = some h')
    (hvs : LR μ vs vs') (hcv : ∀ v ∈ vs, cellV v = true) :
    ∃ w', (storeCells ⟨b, z + o, none⟩ vs').run P w = .ok () w' ∧ HR F w0 μ h' w' ∧ Ext μ μ h h' := by
  have ho := H.obj i b z e hi
  unfold putRow? at hp
  rcases hg : h.get i with ⟨c, live, par, ty⟩ | es | ⟨s, pos⟩ | tag | _ <;> rw [hg] at hp <;> try (simp at hp; done)
  cases live with
  | false => simp at hp
  | true =>
    simp only [Option.ite_none_right_eq_some, Option.some.injEq] at hp
    obtain ⟨hle, rfl⟩ := hp
    rw [hg] at ho
    obtain ⟨cs, el, fr, h1, h2, h3, h4, h5, h6⟩ := ho
    have hlen := hvs.1
    have hcv' : ∀ v ∈ vs', cellV v = true := by
      intro v hv
      obtain ⟨k, hk⟩ := List.getElem?_of_mem hv
      obtain ⟨u, hu, hr⟩ := hvs.back hk
      rw [hr.cellV]; exact hcv u (List.mem_of_getElem? hu)
    obtain ⟨w', hrun, hW⟩ := run_storeCells (P := P) vs' w b (z + o) 0 cs el fr h1 (by omega) (fun k a1 a2 => h5 rfl k (by omega) (by omega)) hcv'
    refine ⟨w', hrun, ?_, ?_⟩
    · refine H.wrote hi hW (by rw [hg]; rfl) par (fun c' l' p' t' e' => by rw [hg] at e'; cases e'; rfl) _ (fun c' l' p' t' e' j hj => by cases e'; cases hj) ?_
      refine ⟨_, el, fr, hW.at_, by simp [splice]; omega, by rw [writeA_size]; exact h3, fun k v hk => ?_, fun _ => h5 rfl, h6⟩
      rw [Nat.add_zero, writeA_get _ _ _ _ (by omega)]
      have hsl : (splice c o vs)[k]? = if o ≤ k ∧ k < o + vs.length then vs[k - o]? else c[k]? := by
        unfold splice
        by_cases a1 : k < o
        · rw [List.getElem?_append_left (by simp; omega), List.getElem?_append_left (by simp; omega), List.getElem?_take_of_lt a1, if_neg (by omega)]
        · by_cases a2 : k < o + vs.length
          · rw [List.getElem?_append_left (by simp; omega), List.getElem?_append_right (by simp; omega), if_pos (by omega)]
            simp [Nat.min_eq_left (show o ≤ c.length by omega)]
          · rw [List.getElem?_append_right (by simp; omega), if_neg (by omega), List.getElem?_drop]
            congr 1
            simp [Nat.min_eq_left (show o ≤ c.length by omega)]
            omega
      rw [hsl] at hk
      by_cases hc : o ≤ k ∧ k < o + vs.length
      · rw [if_pos hc] at hk
        rw [if_pos (by omega)]
        obtain ⟨v', x, y⟩ := hvs.at_ hk
        exact ⟨v', by rw [show z + k - (z + o) = k - o by omega]; exact x, y⟩
      · rw [if_neg hc] at hk
        rw [if_neg (by omega)]
        exact h4 k v hk
    · exact Ext.wrote H hi par _ (fun j hj => H.par i c true par ty (by rw [hi]; simp) hg j hj)

theorem store_ok (H : HR F w0 μ h w) {t : TypeId} {i o : Nat} {v v' x : Value} {h' : AH} (hs : storeA P t i o v h = some h') (hx : VR μ (.pointer (some ⟨i, o, none⟩)) x) (hv : VR μ v v') :
    ∃ w', (Instr.storeAt t x v').run P w = .ok () w' ∧ HR F w0 μ h' w' ∧ Ext μ μ h h' := by
  obtain ⟨b, z, e, hi, rfl⟩ := hx.ptr_inv
  unfold storeA at hs
  cases hf : P.info? t with
  | none => simp [hf] at hs
  | some info =>
    simp only [hf, Bool.and_eq_true, decide_eq_true_eq, List.all_eq_true, Option.ite_none_right_eq_some] at hs
    obtain ⟨⟨hsz, hcv⟩, hp⟩ := hs
    obtain ⟨w', hrun, hH, hE⟩ := row_write (P := P) H hi hp hv.cells hcv
    refine ⟨w', ?_, hH, hE⟩
    have hsz' : v'.cells.size = info.size := by have := hv.cells.1; simp at this; omega
    simp [Instr.storeAt, Instr.sureAddr, storeVar, run_sizeOf hf, hsz', hrun]

/-! ### New rows -/
theorem new_row_par (H : HR F w0 μ h w) (el : TypeId) {c c' : List Value} (hc : LR μ c c') (cs : Array Value) (hcs : cs.toList.take c.length = c') (ty : Option TypeId) (hty : ∀ t, ty = some t → el = t)
    (par : List Nat) (hpar : ∀ j, j ∈ par → μ j ≠ none) :
    HR F w0 (μ.add h.next (w.heap.size, 0, cs.size)) (h.new (.cells c true par ty)).2 (w.alloc (.cells cs el)) ∧
    Ext μ (μ.add h.next (w.heap.size, 0, cs.size)) h (h.new (.cells c true par ty)).2 := by
  have hl : c.length ≤ cs.size := by
    have := congrArg List.length hcs
    rw [← hc.1] at this; simp at this; omega
  refine H.new _ _ _ (fun c0 l0 p0 t0 e0 j hj => by cases e0; exact hpar j hj) ⟨cs, el, (0, 0), by show (w.heap.push _)[w.heap.size]? = _; rw [Array.getElem?_push, if_pos rfl], by omega, Nat.le_refl _, fun k v hk => ?_, fun _ k _ _ h0 => absurd h0.2 (Nat.not_lt_zero k), fun t ht => ⟨hty t ht, rfl⟩⟩
  have hs := Mp.add_sub (p := (w.heap.size, 0, cs.size)) (H.none_next (Nat.le_refl h.next))
  obtain ⟨v', x, y⟩ := hc.at_ hk
  refine ⟨v', ?_, y.mono hs⟩
  rw [← hcs] at x
  have hk' : k < c.length := by
    rcases Nat.lt_or_ge k c.length with a | a
    · exact a
    · simp [List.getElem?_eq_none a] at hk
  rw [List.getElem?_take_of_lt hk', Array.getElem?_toList] at x
  simpa using x

theorem new_row (H : HR F w0 μ h w) (el : TypeId) {c c' : List Value} (hc : LR μ c c') (cs : Array Value) (hcs : cs.toList.take c.length = c') (ty : Option TypeId) (hty : ∀ t, ty = some t → el = t) :
    HR F w0 (μ.add h.next (w.heap.size, 0, cs.size)) (h.new (.cells c true [] ty)).2 (w.alloc (.cells cs el)) ∧
    Ext μ (μ.add h.next (w.heap.size, 0, cs.size)) h (h.new (.cells c true [] ty)).2 :=
  new_row_par H el hc cs hcs ty hty [] (fun _ h => by cases h)

theorem VR.new_ptr {i b e : Nat} : VR (μ.add i (b, 0, e)) (.pointer (some ⟨i, 0, none⟩)) (.pointer (some ⟨b, 0, none⟩)) := by
  have : VR (μ.add i (b, 0, e)) (.pointer (some ⟨i, 0, none⟩)) (.pointer (some ⟨b, 0 + 0, none⟩)) := .ptr (e := e) (by simp [Mp.add])
  exact this

theorem newVar_ok (H : HR F w0 μ h w) (t : TypeId) {v v' r : Value} {h' : AH} (hv : VR μ v v') (hn : newRowA t v.cells.toList h = some (r, h')) :
    ∃ μ' w' a, (newVar t v').run P w = .ok a w' ∧ VR μ' r (.pointer (some a)) ∧ HR F w0 μ' h' w' ∧ Ext μ μ' h h' := by
  unfold newRowA at hn
  cases hn
  have := new_row H t hv.cells v'.cells (by rw [hv.cells.1]; exact List.take_of_length_le (Nat.le_refl _)) (some t) (fun _ e => by cases e; rfl)
  exact ⟨_, _, _, by simp only [newVar, newRow, Sem.run_bind, run_newObj, Result.andThen_ok, Sem.run_pure]; rfl, VR.new_ptr, this.1, this.2⟩

end
end Go.R

/- Each operation of the abstract machine is one of the model's: what computes without memory. -/
namespace Go.R
set_option linter.unusedVariables false
set_option linter.unusedSimpArgs false
open Go Go.RowKit

section
variable {P : Program} {μ : Mp} {w : World}

theorem eqGuard_run (op : BinOp) (t : TypeId) (x y : Operand) (a b : Value) (h1 : a ≠ .nilIface) (h2 : ∀ c, a ≠ .agg c) : (eqGuard op t x y a b).run P w = .ok () w := by
  unfold eqGuard
  cases op <;> simp <;> (cases a <;> simp_all)

theorem int_ok {op : BinOp} {k : IntKind} {a b : Int} {v : Value} (t : TypeId) (hv : intBin op k a b = some v) (h1 : op ≠ .shl) (h2 : op ≠ .shr) :
    (binOp op t (.int k a) (.int k b)).run P w = .ok v w ∧ plainV v = true := by
  cases op <;> simp [intBin, wrapF_eq, eqF_eq, ltF_eq, leF_eq] at hv h1 h2 <;> first
    | (subst hv; simp [binOp, Op.intArith, Op.intBits, Op.intCmp, bne, plainV]; done)
    | (obtain ⟨hb, rfl⟩ := hv; simp [binOp, Op.intDiv, hb, plainV])

theorem shift_ok {op : BinOp} {k k' : IntKind} {a b : Int} {v : Value} (t : TypeId) (hv : shiftA op k a b = some v) (h1 : op = .shl ∨ op = .shr) :
    (binOp op t (.int k a) (.int k' b)).run P w = .ok v w ∧ plainV v = true := by
  unfold shiftA at hv
  rcases h1 with rfl | rfl <;> simp at hv <;> obtain ⟨hb, rfl⟩ := hv <;> simp [binOp, Op.shift, plainV, Int.not_lt.2 hb]

theorem str_ok {op : BinOp} {a b : ByteArray} {v : Value} (t : TypeId) (hv : strBin op a b = some v) : (binOp op t (.string a) (.string b)).run P w = .ok v w ∧ plainV v = true := by
  cases op <;> simp only [strBin, Option.some.injEq, reduceCtorEq] at hv <;> first
    | (subst hv; simp [binOp, Op.stringOp, bytesLt, plainV]; done)
    | (split at hv
       · cases hv
       · rename_i hn
         cases hv
         simp only [binOp, Op.stringOp, plainV, if_neg hn]
         exact ⟨rfl, trivial⟩)

theorem equal_unfold (t : TypeId) (x y : Value) : Op.equal t x y = Op.equalIn (9999 + 1) t x y := rfl

theorem equal_at {t : TypeId} {d : TypeDesc} (hd : P.underlying t = some d) (x y : Value) (r : Bool)
    (h : (match d, x, y with
      | .bool, .bool a, .bool b => r = (a == b)
      | .slice _, .slice none _ _, .slice b _ _ => r = b.isNone
      | .slice _, .slice (some _) _ _, .slice none _ _ => r = false
      | .map _ _, .map none, .map b => r = b.isNone
      | .map _ _, .map (some _), .map none => r = false
      | .pointer _, .pointer none, .pointer b => r = b.isNone
      | .pointer _, .pointer (some _), .pointer none => r = false
      | .func _ _ _, .nilFunc, .nilFunc => r = true
      | .func _ _ _, .nilFunc, .func _ _ _ => r = false
      | .func _ _ _, .func _ _ _, .nilFunc => r = false
      | _, _, _ => False)) : (Op.equal t x y).run P w = .ok r w := by
  rw [equal_unfold, Op.equalIn]
  simp only [Sem.run_bind, run_under hd, Result.andThen_ok]
  split at h <;> first | (subst h; rfl) | exact h.elim

theorem equal_ptr {t e : TypeId} {inf : TypeInfo} (hd : P.underlying t = some (.pointer e)) (hi : P.info? e = some inf) (hs : inf.size ≠ 0) (b o q : Nat) :
    (Op.equal t (.pointer (some ⟨b, o, none⟩)) (.pointer (some ⟨b, q, none⟩))).run P w = .ok (o == q) w := by
  rw [equal_unfold, Op.equalIn]
  simp only [Sem.run_bind, run_under hd, Result.andThen_ok, run_sizeOf hi, sameAddr, BEq.rfl, if_true, Sem.run_ite]
  rw [if_pos hs]
  simp only [Sem.run_pure]
  congr 1
  by_cases e : o = q
  · subst e; simp
  · have : (⟨b, o, none⟩ : Addr) ≠ ⟨b, q, none⟩ := by intro hh; injection hh; contradiction
    rw [beq_eq_false_iff_ne.2 this, beq_eq_false_iff_ne.2 e]

/-- What a value is none of: the tests that Go's == makes ahead. -/
def Bare (x : Value) : Prop := match x with
  | .nilIface | .agg _ | .int _ _ | .string _ | .float _ _ | .complex _ _ _ | .tuple _ => False
  | _ => True

theorem eq_ok {t : TypeId} {x y x' y' : Value} {r : Bool} (hv : eqA P (P.underlying t) x y = some r) (hx : VR μ x x') (hy : VR μ y y') :
    (Op.equal t x' y').run P w = .ok r w ∧ Bare x' ∧ Bare y' := by
  cases hd : P.underlying t with
  | none => simp [hd, eqA] at hv
  | some d =>
    rw [hd] at hv
    unfold eqA at hv
    split at hv
    · rename_i el i o j q hq
      cases hq
      simp only [Bool.and_eq_true, decide_eq_true_eq, Option.ite_none_right_eq_some, Option.some.injEq] at hv
      obtain ⟨⟨⟨rfl, hinf⟩, hcell⟩, rfl⟩ := hv
      obtain ⟨b, z, e', hi, rfl⟩ := hx.ptr_inv
      obtain ⟨b', z', e'', hi', rfl⟩ := hy.ptr_inv
      rw [hi] at hi'; cases hi'
      obtain ⟨inf, hinf'⟩ := Option.isSome_iff_exists.1 hinf
      rw [cellsOf_info hinf'] at hcell
      refine ⟨?_, trivial, trivial⟩
      rw [equal_ptr hd hinf' hcell]
      congr 1
      by_cases e : o = q
      · subst e; simp
      · have : ¬ z + o = z + q := by omega
        rw [beq_eq_false_iff_ne.2 this, beq_eq_false_iff_ne.2 e]
    · rename_i a b hq
      cases hq; cases hv
      cases hx.bool_inv; cases hy.bool_inv
      exact ⟨equal_at hd _ _ _ rfl, trivial, trivial⟩
    · rename_i hq
      cases hq; cases hv
      obtain ⟨_, _, rfl⟩ := hx.sliceN_inv
      cases hy <;> exact ⟨equal_at hd _ _ _ rfl, trivial, trivial⟩
    · rename_i hq
      cases hq; cases hv
      obtain ⟨_, _, rfl⟩ := hy.sliceN_inv
      cases hx <;> first | exact ⟨equal_at hd _ _ _ rfl, trivial, trivial⟩ | (rename_i hp; simp [plainV] at hp)
    · rename_i hq
      cases hq; cases hv
      cases hx.mapN_inv
      cases hy <;> exact ⟨equal_at hd _ _ _ rfl, trivial, trivial⟩
    · rename_i hq
      cases hq; cases hv
      obtain ⟨b, e, _, rfl⟩ := hx.map_inv
      cases hy.mapN_inv
      exact ⟨equal_at hd _ _ _ rfl, trivial, trivial⟩
    · rename_i hq
      cases hq; cases hv
      cases hx.ptrN_inv
      cases hy <;> exact ⟨equal_at hd _ _ _ rfl, trivial, trivial⟩
    · rename_i hq
      cases hq; cases hv
      cases hy.ptrN_inv
      cases hx <;> first | exact ⟨equal_at hd _ _ _ rfl, trivial, trivial⟩ | (rename_i hp; simp [plainV] at hp)
    · rename_i hq
      cases hq; cases hv
      cases hx.nilFunc_inv; cases hy.nilFunc_inv
      exact ⟨equal_at hd _ _ _ rfl, trivial, trivial⟩
    · rename_i hq
      cases hq; cases hv
      cases hx.nilFunc_inv
      obtain ⟨f', c', rfl, _⟩ := hy.func_inv
      exact ⟨equal_at hd _ _ _ rfl, trivial, trivial⟩
    · rename_i hq
      cases hq; cases hv
      cases hy.nilFunc_inv
      obtain ⟨f', c', rfl, _⟩ := hx.func_inv
      exact ⟨equal_at hd _ _ _ rfl, trivial, trivial⟩
    · cases hv

theorem eqGuard_bare (op : BinOp) (t : TypeId) (x y : Operand) (a b : Value) (h1 : Bare a) : (eqGuard op t x y a b).run P w = .ok () w := by
  apply eqGuard_run
  · rintro rfl; exact h1
  · rintro c rfl; exact h1

theorem binOp_eq {t : TypeId} {x y : Value} (hx : Bare x) (hy : Bare y) : binOp .eql t x y = (do pure (.bool (← Op.equal t x y))) ∧ binOp .neq t x y = (do pure (.bool (!(← Op.equal t x y)))) := by
  cases x <;> first | exact hx.elim | (cases y <;> first | exact hy.elim | exact ⟨rfl, rfl⟩)

theorem plain_eq {v v' : Value} (hp : plainV v = true) (h : VR μ v v') : v' = v := by
  cases v <;> try (simp [plainV] at hp; done)
  case bool => exact h.bool_inv
  case int => exact h.int_inv
  case string => exact h.string_inv
  case pointer a => cases a with
    | none => exact h.ptrN_inv
    | some _ => simp [plainV] at hp
  case slice a n c => cases a with
    | none => simp [plainV] at hp; obtain ⟨_, _, h⟩ := h.sliceN_inv; rw [h, hp.1, hp.2]
    | some _ => simp [plainV] at hp
  case map r => cases r with
    | none => exact h.mapN_inv
    | some _ => simp [plainV] at hp
  case nilFunc => exact h.nilFunc_inv
  case nilIface => cases h; rfl

theorem LR.plain_eq {l l' : List Value} (hp : ∀ v ∈ l, plainV v = true) (h : LR μ l l') : l' = l := by
  apply List.ext_getElem?
  intro k
  rcases hk : l[k]? with _ | v
  · rw [List.getElem?_eq_none_iff] at hk ⊢; have := h.1; omega
  · obtain ⟨v', h1, h2⟩ := h.at_ hk
    rw [h1, R.plain_eq (hp v (List.mem_of_getElem? hk)) h2]

theorem agg_ok {t : TypeId} {xs ys : Array Value} {x' y' : Value} {r : Bool} (hv : aggEq P t xs ys = some r) (hx : VR μ (.agg xs) x') (hy : VR μ (.agg ys) y') :
    x' = .agg xs ∧ y' = .agg ys ∧ P.eqGuardType P.depth t = false ∧ (Op.equal t x' y').run P w = .ok r w := by
  unfold aggEq at hv
  rw [Option.ite_none_right_eq_some] at hv
  obtain ⟨hc, hv⟩ := hv
  simp only [Bool.and_eq_true, Bool.not_eq_true', List.all_eq_true] at hc
  obtain ⟨⟨⟨⟨⟨p1, p2⟩, hg⟩, hk⟩, f1⟩, f2⟩ := hc
  obtain ⟨a', rfl, hl⟩ := hx.agg_inv
  obtain ⟨b', rfl, hl2⟩ := hy.agg_inv
  have e1 : a' = xs := Array.ext' (LR.plain_eq p1 hl)
  have e2 : b' = ys := Array.ext' (LR.plain_eq p2 hl2)
  subst e1 e2
  refine ⟨rfl, rfl, hg, ?_⟩
  split at hv
  · rename_i a b ha hb
    obtain ⟨r', hr, hiff⟩ := run_equalIn_deep (P := P) 9988 12 t hk w 12 12 _ _ a b f1 f2 ha hb
    rw [equal_unfold, show (9999 + 1) = 9988 + 12 from rfl, hr]
    congr 1
    rw [Bool.eq_iff_iff, hiff, litsQ_iff hv]
  · cases hv

theorem eqGuard_agg (op : BinOp) (t : TypeId) (x y : Operand) (a b : Array Value) (h : P.eqGuardType P.depth t = false) : (eqGuard op t x y (.agg a) (.agg b)).run P w = .ok () w := by
  unfold eqGuard
  cases op <;> simp [run_program, h]

theorem bin_ok {op : BinOp} {t : TypeId} {x y x' y' v : Value} (xo yo : Operand) (hv : binA P op t x y = some v) (hx : VR μ x x') (hy : VR μ y y') :
    ((do eqGuard op t xo yo x' y'; binOp op t x' y') : Sem Value).run P w = .ok v w ∧ plainV v = true := by
  unfold binA at hv
  split at hv
  · rename_i k a k' b
    cases hx.int_inv; cases hy.int_inv
    have hg : (eqGuard op t xo yo (.int k a) (.int k' b)).run P w = .ok () w := eqGuard_run _ _ _ _ _ _ (by simp) (by simp)
    simp only [Sem.run_bind, hg, Result.andThen_ok]
    split at hv
    · exact shift_ok t hv (.inl rfl)
    · exact shift_ok t hv (.inr rfl)
    · rename_i h1 h2
      split at hv
      · rename_i hk; subst hk; exact int_ok t hv h1 h2
      · cases hv
  · rename_i a b
    cases hx.string_inv; cases hy.string_inv
    have hg : (eqGuard op t xo yo (.string a) (.string b)).run P w = .ok () w := eqGuard_run _ _ _ _ _ _ (by simp) (by simp)
    simp only [Sem.run_bind, hg, Result.andThen_ok]
    exact str_ok t hv
  · rename_i xs ys
    split at hv
    · rw [Option.map_eq_some_iff] at hv
      obtain ⟨r, hr, rfl⟩ := hv
      obtain ⟨rfl, rfl, hg, e1⟩ := agg_ok (w := w) hr hx hy
      simp [eqGuard_agg _ _ _ _ _ _ hg, binOp, e1, plainV]
    · rw [Option.map_eq_some_iff] at hv
      obtain ⟨r, hr, rfl⟩ := hv
      obtain ⟨rfl, rfl, hg, e1⟩ := agg_ok (w := w) hr hx hy
      simp [eqGuard_agg _ _ _ _ _ _ hg, binOp, e1, plainV]
    · cases hv
  · split at hv
    · rw [Option.map_eq_some_iff] at hv
      obtain ⟨r, hr, rfl⟩ := hv
      obtain ⟨e1, e2, e3⟩ := eq_ok (w := w) hr hx hy
      rw [(binOp_eq e2 e3).1]
      simp [eqGuard_bare _ _ _ _ _ _ e2, e1, plainV]
    · rw [Option.map_eq_some_iff] at hv
      obtain ⟨r, hr, rfl⟩ := hv
      obtain ⟨e1, e2, e3⟩ := eq_ok (w := w) hr hx hy
      rw [(binOp_eq e2 e3).2]
      simp [eqGuard_bare _ _ _ _ _ _ e2, e1, plainV]
    · cases hv

theorem un_ok {op : UnOp} {x x' v : Value} (hv : unA op x = some v) (hx : VR μ x x') : (Op.unary op x').run P w = .ok v w ∧ plainV v = true := by
  unfold unA at hv
  split at hv
  · cases hx.int_inv; cases hv; simp [Op.unary, Op.intArith, plainV]
  · cases hx.int_inv
    rename_i k n
    simp only [intBin, wrapF_eq, Option.some.injEq] at hv
    subst hv
    simp [Op.unary, Op.intBits, plainV]
  · cases hx.bool_inv; cases hv; simp [Op.unary, plainV]
  · cases hv

/-! ### Addresses, parts -/
theorem asIntOf_run (k : IntKind) (n : Int) : (asIntOf (.int k n)).run P w = .ok (k, n) w := rfl

end
end Go.R

/- Each operation of the abstract machine is one of the model's: addresses, parts of values, slices of slices. -/
namespace Go.R
set_option linter.unusedVariables false
set_option linter.unusedSimpArgs false
open Go Go.RowKit

/-- Two operands that may be missing. -/
def OVR (μ : Mp) (a b : Option Value) : Prop := match a, b with
  | none, none => True
  | some x, some y => VR μ x y
  | _, _ => False

section
variable {P : Program} {F : Nat → Prop} {w0 : World} {μ : Mp} {h : AH} {w : World}

theorem bound_run {x x' : Value} {d cap cap' r : Nat} (c : BoundsCode) (hv : boundA (some x) d cap = some r) (hx : VR μ x x') (hc : cap ≤ cap') : (Instr.sliceBound x' cap' c).run P w = .ok r w ∧ r ≤ cap := by
  unfold boundA at hv
  split at hv
  · rename_i h0; cases h0
  · rename_i k i hq
    cases hq
    cases hx.int_inv
    split at hv
    · rename_i hb
      cases hv
      have hb' : 0 ≤ i ∧ i ≤ (cap' : Int) := ⟨hb.1, by omega⟩
      simp [Instr.sliceBound, asIntOf_run, hb']
      omega
    · cases hv
  · cases hv

theorem boundA_none {d cap r : Nat} (hv : boundA none d cap = some r) : r = d := by simp [boundA] at hv; exact hv.symm

/-- The bounds of a slice expression. Where the capacity is known but for its least, it is the model's that comes out. -/
theorem bounds_ok {len cap cap' l hh m : Nat} {lo hi mx lo' hi' mx' : Option Value} (s : Bool) (hv : boundsA len cap lo hi mx = some (l, hh, m)) (hlo : OVR μ lo lo') (hhi : OVR μ hi hi') (hmx : OVR μ mx mx')
    (hc : cap ≤ cap') : (Instr.sliceBounds s len cap' lo' hi' mx').run P w = .ok (l, hh, if mx.isSome then m else cap') w ∧ l ≤ hh ∧ hh ≤ m ∧ m ≤ cap ∧ (mx = none → m = cap) := by
  unfold boundsA at hv
  split at hv
  · cases hv
  · rename_i hne
    split at hv
    · cases hv
    · rename_i m0 hm
      split at hv
      · cases hv
      · rename_i h0 hh0
        split at hv
        · cases hv
        · rename_i l0 hl0
          rw [Option.ite_none_right_eq_some] at hv
          obtain ⟨hhm, hv⟩ := hv
          simp only [Option.some.injEq, Prod.mk.injEq] at hv
          obtain ⟨rfl, rfl, rfl⟩ := hv
          unfold Instr.sliceBounds
          cases mx with
          | none =>
            cases mx' with
            | some y => exact hmx.elim
            | none =>
              have e1 := boundA_none hm
              subst e1
              have key : ∀ hcur : Nat, hcur = h0 → h0 ≤ m0 → ∀ q : BoundsCode, ((match lo' with | some v => Instr.sliceBound v hcur q | none => (pure 0 : Sem Nat)).run P w = .ok l0 w ∧ l0 ≤ h0) := by
                rintro hcur rfl hle q
                cases lo with
                | none => cases lo' with
                  | none => have := boundA_none hl0; subst this; exact ⟨rfl, by omega⟩
                  | some y => exact hlo.elim
                | some x => cases lo' with
                  | none => exact hlo.elim
                  | some y => exact bound_run q hl0 hlo (Nat.le_refl _)
              cases hi with
              | none => cases hi' with
                | some y => exact hhi.elim
                | none =>
                  have e2 := boundA_none hh0
                  subst e2
                  obtain ⟨k1, k2⟩ := key _ rfl hhm .sliceB
                  exact ⟨by cases lo' <;> simp at k1 <;> simp [k1], k2, hhm, Nat.le_refl _, fun _ => rfl⟩
              | some x => cases hi' with
                | none => exact hhi.elim
                | some y =>
                  obtain ⟨r1, r2⟩ := bound_run (P := P) (w := w) (if s then .sliceAcap else .sliceAlen) hh0 hhi hc
                  obtain ⟨k1, k2⟩ := key _ rfl r2 .sliceB
                  exact ⟨by cases lo' <;> simp at k1 <;> simp [r1, k1], k2, hhm, Nat.le_refl _, fun _ => rfl⟩
          | some mv =>
            cases mx' with
            | none => exact hmx.elim
            | some my =>
              obtain ⟨q1, q2⟩ := bound_run (P := P) (w := w) (if s then .slice3Acap else .slice3Alen) hm hmx hc
              cases hi with
              | none => exact (hne mv rfl rfl).elim
              | some x => cases hi' with
                | none => exact hhi.elim
                | some y =>
                  obtain ⟨r1, r2⟩ := bound_run (P := P) (w := w) .slice3B hh0 hhi (Nat.le_refl _)
                  cases lo with
                  | none => cases lo' with
                    | none =>
                      have := boundA_none hl0; subst this
                      exact ⟨by simp [q1, r1], Nat.zero_le _, hhm, q2, fun e => by cases e⟩
                    | some y => exact hlo.elim
                  | some x2 => cases lo' with
                    | none => exact hlo.elim
                    | some y2 =>
                      obtain ⟨t1, t2⟩ := bound_run (P := P) (w := w) .slice3C hl0 hlo (Nat.le_refl _)
                      exact ⟨by simp [q1, r1, t1], t2, hhm, q2, fun e => by cases e⟩

theorem OVR.none_r {mx' : Option Value} (h : OVR μ none mx') : mx' = none := by cases mx' <;> first | rfl | exact h.elim

theorem cut_ok {i o b z e size l hh m : Nat} (hi : μ i = some (b, z, e)) :
    VR μ (cutAt ⟨i, o, none⟩ size l hh m) (.slice (some (if m = l then ⟨b, z + o, none⟩ else (⟨b, z + o, none⟩ : Addr).add (l * size))) (hh - l) (m - l)) := by
  unfold cutAt
  rw [add_at]
  by_cases hm : m = l
  · rw [if_pos hm, if_pos hm]; exact .slice hi
  · rw [if_neg hm, if_neg hm, Nat.add_assoc]; exact .slice hi

theorem slice_ok {t : TypeId} {x x' v : Value} {lo hi mx lo' hi' mx' : Option Value} (hv : sliceA P t x lo hi mx = some v) (hx : VR μ x x') (hlo : OVR μ lo lo') (hhi : OVR μ hi hi') (hmx : OVR μ mx mx') :
    ∃ v', (Instr.sliceAt t x' lo' hi' mx').run P w = .ok v' w ∧ VR μ v v' := by
  unfold sliceA at hv
  cases hd : P.underlying t with
  | none => simp [hd] at hv
  | some d =>
    rw [hd] at hv
    unfold Instr.sliceAt
    simp only [Sem.run_bind, run_under hd, Result.andThen_ok]
    split at hv
    · rename_i s hq
      cases hq
      cases hx.string_inv
      cases mx with
      | some y => cases hv
      | none =>
        cases hmx.none_r
        simp only at hv
        split at hv
        · rename_i l hh m hb
          cases hv
          obtain ⟨b1, _⟩ := bounds_ok (P := P) (w := w) false hb hlo hhi (mx := none) (mx' := none) trivial (Nat.le_refl _)
          exact ⟨_, by simp [Instr.slice, run_under hd, b1], .plain rfl⟩
        · cases hv
    · rename_i el n c hq
      cases hq
      obtain ⟨rfl, rfl, rfl⟩ := hx.sliceN_inv
      split at hv
      · rename_i hs
        obtain ⟨inf, hinf⟩ := Option.isSome_iff_exists.1 hs
        split at hv
        · rename_i l hh m hb
          cases hv
          obtain ⟨b1, b2, b3, b4, b5⟩ := bounds_ok (P := P) (w := w) true hb hlo hhi hmx (Nat.le_refl _)
          have e1 : m = 0 := by omega
          have e2 : hh = 0 := by omega
          have e3 : l = 0 := by omega
          subst e1; subst e2; subst e3
          exact ⟨.slice none 0 0, by simp [Instr.slice, run_under hd, b1, run_sizeOf hinf], .plain rfl⟩
        · cases hv
      · cases hv
    · rename_i el a n c hq
      cases hq
      obtain ⟨i, o, sp⟩ := a
      cases hinf : P.info? el with
      | none => simp [hinf] at hv
      | some inf =>
        simp only [hinf] at hv
        have hslice : ∀ (A : Addr) (n' c' l hh m : Nat), (Instr.sliceBounds true n' c' lo' hi' mx').run P w = .ok (l, hh, m) w →
            (Instr.slice t (.slice (some A) n' c') lo' hi' mx').run P w = .ok (.slice (some (if m = l then A else A.add (l * inf.size))) (hh - l) (m - l)) w := by
          intro A n' c' l hh m hr
          simp only [Instr.slice, Sem.run_bind, run_under hd, Result.andThen_ok, hr, run_sizeOf hinf, Sem.run_pure]
          split <;> rfl
        split at hv
        · obtain ⟨b, z, e, hi, rfl⟩ := hx.slice_inv
          split at hv
          · rename_i l hh m hb
            cases hv
            obtain ⟨b1, b2, b3, b4, b5⟩ := bounds_ok (P := P) (w := w) true hb hlo hhi hmx (Nat.le_refl _)
            have e1 : (if mx.isSome then m else c) = m := by
              cases mx with
              | none => simp [b5 rfl]
              | some y => rfl
            rw [e1] at b1
            exact ⟨_, hslice _ _ _ _ _ _ b1, cut_ok hi⟩
          · cases hv
        · obtain ⟨rfl, rfl, A, c', rfl⟩ := hx.slice0_inv
          split at hv
          · cases hv
          · split at hv
            · rename_i q hb
              obtain ⟨l, hh, m⟩ := q
              cases hv
              cases hmx.none_r
              obtain ⟨b1, b2, b3, b4, b5⟩ := bounds_ok (P := P) (w := w) (cap' := c') true hb hlo hhi (mx := none) (mx' := none) trivial (Nat.zero_le _)
              have e2 : hh = 0 := by omega
              have e3 : l = 0 := by omega
              subst e2; subst e3
              refine ⟨_, hslice _ _ _ _ _ _ b1, ?_⟩
              exact .slice0
            · cases hv
        · rename_i _ s
          obtain ⟨b, z, e, c', hi, h1, h2, h3, rfl⟩ := hx.sliceU_inv
          split at hv
          · cases hv
          · rename_i hsz
            simp only [ne_eq, Decidable.not_not] at hsz
            split at hv
            · cases hv
            · rename_i l hh m hb
              obtain ⟨b1, b2, b3, b4, b5⟩ := bounds_ok (P := P) (w := w) (cap' := c') true hb hlo hhi hmx h2
              split at hv
              · cases hv
                simp only [Option.isSome_some, if_true] at b1
                exact ⟨_, hslice _ _ _ _ _ _ b1, cut_ok hi⟩
              · have e1 := b5 rfl
                subst e1
                simp only [Option.isSome_none, Bool.false_eq_true, if_false] at b1
                refine ⟨_, hslice _ _ _ _ _ _ b1, ?_⟩
                split at hv
                · rename_i hlt
                  cases hv
                  rw [if_neg (by omega), add_at, Nat.add_assoc]
                  refine .sliceU hi (by omega) (by omega) ?_
                  rw [← hsz, ← Nat.add_assoc]
                  have q1 : l * (s + 1) + (c' - l) * (s + 1) = c' * (s + 1) := by rw [← Nat.add_mul]; congr 1; omega
                  omega
                · rename_i hlt
                  cases hv
                  have e4 : hh - l = 0 := by omega
                  rw [e4]
                  exact .slice0
    · rename_i n el i o hq
      cases hq
      obtain ⟨b, z, e, hi, rfl⟩ := hx.ptr_inv
      cases hinf : P.info? el with
      | none => simp [hinf] at hv
      | some inf =>
        simp only [hinf] at hv
        split at hv
        · rename_i l hh m hb
          cases hv
          obtain ⟨b1, b2, b3, b4, b5⟩ := bounds_ok (P := P) (w := w) false hb hlo hhi hmx (Nat.le_refl _)
          have e1 : (if mx.isSome then m else n) = m := by
            cases mx with
            | none => simp [b5 rfl]
            | some y => rfl
          rw [e1] at b1
          refine ⟨_, ?_, cut_ok hi⟩
          simp only [Instr.sureAddr, Sem.run_bind, Sem.run_pure, Result.andThen_ok, b1, run_sizeOf hinf]
        · cases hv
    · cases hv

end
end Go.R

/- Each operation of the abstract machine is one of the model's: parts, aggregates, new rows, lengths. -/
namespace Go.R
set_option linter.unusedVariables false
set_option linter.unusedSimpArgs false
open Go Go.RowKit

section
variable {P : Program} {F : Nat → Prop} {w0 : World} {μ : Mp} {h : AH} {w : World}

theorem indexAddr_ok {t : TypeId} {x ix x' ix' v : Value} (hv : indexAddrA P t x ix = some v) (hx : VR μ x x') (hi : VR μ ix ix') : ∃ v', (Instr.indexAt t x' ix').run P w = .ok v' w ∧ VR μ v v' := by
  unfold indexAddrA at hv
  split at hv
  · rename_i k i
    cases hi.int_inv
    cases hd : P.underlying t with
    | none => simp [hd] at hv
    | some d =>
      rw [hd] at hv
      split at hv
      · rename_i n el j o hq
        cases hq
        obtain ⟨b, z, e, hm, rfl⟩ := hx.ptr_inv
        cases hinf : P.info? el with
        | none => simp [hinf] at hv
        | some inf =>
          simp only [hinf, Option.ite_none_right_eq_some] at hv
          obtain ⟨hb, hv⟩ := hv
          cases hv
          refine ⟨.pointer (some ⟨b, z + (o + i.toNat * inf.size), none⟩), ?_, .ptr hm⟩
          simp [Instr.indexAt, asIntOf_run, run_under hd, Instr.sureAddr, hb, run_sizeOf hinf, Nat.add_assoc]
      · rename_i el a n c hq
        cases hq
        obtain ⟨j, o, sp⟩ := a
        cases hinf : P.info? el with
        | none => simp [hinf] at hv
        | some inf =>
          simp only [hinf, Option.ite_none_right_eq_some] at hv
          obtain ⟨hb, hv⟩ := hv
          cases hv
          have key : ∀ (b z e c' : Nat), μ j = some (b, z, e) → ∃ v', (Instr.indexAt t (.slice (some ⟨b, z + o, none⟩) n c') (.int k i)).run P w = .ok v' w ∧ VR μ (.pointer (some ⟨j, o + i.toNat * inf.size, none⟩)) v' := by
            intro b z e c' hm
            refine ⟨.pointer (some ⟨b, z + (o + i.toNat * inf.size), none⟩), ?_, .ptr hm⟩
            simp [Instr.indexAt, asIntOf_run, run_under hd, hb, run_sizeOf hinf, Nat.add_assoc]
          cases sp with
          | none => obtain ⟨b, z, e, hm, rfl⟩ := hx.slice_inv; exact key b z e _ hm
          | some s =>
            cases s with
            | zero => obtain ⟨rfl, _⟩ := hx.slice0_inv; exfalso; have := hb.1; have := hb.2; simp at this; omega
            | succ s => obtain ⟨b, z, e, c', hm, _, _, _, rfl⟩ := hx.sliceU_inv; exact key b z e _ hm
      · cases hv
  · cases hv

theorem LR.extract {a a' : Array Value} (h : LR μ a.toList a'.toList) (i j : Nat) : LR μ (a.extract i j).toList (a'.extract i j).toList := by
  rw [Array.toList_extract, Array.toList_extract, List.extract_eq_take_drop, List.extract_eq_take_drop]
  exact (h.drop i).take (j - i)

theorem part_ok {t : TypeId} {cs cs' : Array Value} {off : Nat} {v : Value} (hv : partA P t cs off = some v) (hc : LR μ cs.toList cs'.toList) : ∃ v', (part t cs' off).run P w = .ok v' w ∧ VR μ v v' := by
  unfold partA at hv
  cases hf : P.info? t with
  | none => simp [hf] at hv
  | some info =>
    cases hd : P.underlying t with
    | none => simp [hf, hd] at hv
    | some d =>
      simp only [hf, hd] at hv
      cases hb : isAggD d with
      | true =>
        rw [hb, if_pos rfl] at hv
        cases hv
        exact ⟨.agg (cs'.extract off (off + info.size)), by simp [part, run_isAgg hd, hb, run_sizeOf hf], VR.agg_of (hc.extract _ _)⟩
      | false =>
        rw [hb, if_neg (by simp)] at hv
        obtain ⟨v', h1, h2⟩ := hc.at_ (k := off) (by simpa using hv)
        rw [Array.getElem?_toList] at h1
        exact ⟨v', by simp [part, run_isAgg hd, hb, h1], h2⟩

theorem index_ok {t : TypeId} {x ix x' ix' v : Value} (hv : indexA P t x ix = some v) (hx : VR μ x x') (hi : VR μ ix ix') : ∃ v', (Instr.index t x' ix').run P w = .ok v' w ∧ VR μ v v' := by
  unfold indexA at hv
  split at hv
  · rename_i k i
    cases hi.int_inv
    cases hd : P.underlying t with
    | none => simp [hd] at hv
    | some d =>
      rw [hd] at hv
      split at hv
      · rename_i n el cs hq
        cases hq
        obtain ⟨cs', rfl, hl⟩ := hx.agg_inv
        cases hinf : P.info? el with
        | none => simp [hinf] at hv
        | some inf =>
          simp only [hinf, Option.ite_none_right_eq_some] at hv
          obtain ⟨hb, hv⟩ := hv
          obtain ⟨v', h1, h2⟩ := part_ok (w := w) hv hl
          exact ⟨v', by simp [Instr.index, asIntOf_run, run_under hd, hb, run_sizeOf hinf, h1], h2⟩
      · rename_i s hq
        cases hq
        cases hx.string_inv
        rw [Option.ite_none_right_eq_some] at hv
        obtain ⟨h0, hv⟩ := hv
        split at hv
        · rename_i b hb
          cases hv
          exact ⟨_, by simp [Instr.index, asIntOf_run, run_under hd, h0, hb], .plain rfl⟩
        · cases hv
      · cases hv
  · cases hv

theorem fieldAddr_ok {t : TypeId} {x x' v : Value} {f : Nat} (hv : fieldAddrA P t x f = some v) (hx : VR μ x x') : ∃ v', (Instr.fieldAt t x' f).run P w = .ok v' w ∧ VR μ v v' := by
  unfold fieldAddrA at hv
  cases hd : P.underlying t with
  | none => simp [hd] at hv
  | some d =>
    rw [hd] at hv
    split at hv
    · rename_i fs j o hq
      cases hq
      obtain ⟨b, z, e, hm, rfl⟩ := hx.ptr_inv
      split at hv
      · cases hv
      · rename_i fd hfd
        split at hv
        · cases hv
        · rename_i inf hinf
          rw [Option.ite_none_left_eq_some] at hv
          obtain ⟨hs, hv⟩ := hv
          cases hv
          refine ⟨.pointer (some ⟨b, z + (o + fd.offset), none⟩), ?_, .ptr hm⟩
          simp [Instr.fieldAt, run_under hd, hfd, Instr.sureAddr, fieldPlace, run_sizeOf hinf, hs, Nat.add_assoc]
    · cases hv

theorem field_ok {t : TypeId} {x x' v : Value} {f : Nat} (hv : fieldA P t x f = some v) (hx : VR μ x x') : ∃ v', (Instr.field t x' f).run P w = .ok v' w ∧ VR μ v v' := by
  unfold fieldA at hv
  cases hd : P.underlying t with
  | none => simp [hd] at hv
  | some d =>
    rw [hd] at hv
    split at hv
    · rename_i fs cs hq
      cases hq
      obtain ⟨cs', rfl, hl⟩ := hx.agg_inv
      split at hv
      · cases hv
      · rename_i fd hfd
        obtain ⟨v', h1, h2⟩ := part_ok (w := w) hv hl
        exact ⟨v', by simp [Instr.field, run_under hd, hfd, asAgg, h1], h2⟩
    · cases hv

/-! ### Zero values, filled rows -/
theorem okZero_VR {z : Value} (hz : okZero z = true) : VR μ z z := by
  unfold okZero at hz
  split at hz
  · rename_i c
    exact VR.agg_of (LR.of_plain (fun v hv => List.all_eq_true.1 hz v hv))
  · exact .plain hz
theorem okZero_cells {z : Value} (hz : okZero z = true) : ∀ v ∈ z.cells.toList, plainV v = true := by
  unfold okZero at hz
  split at hz
  · exact fun v hv => List.all_eq_true.1 hz v hv
  · rename_i hne
    cases z <;> simp_all [Value.cells, plainV]
theorem zeroOf_some {info : TypeInfo} {z : Value} (hz : zeroOf info = some z) : info.zero = some z ∧ okZero z = true := by
  unfold zeroOf at hz
  split at hz
  · rename_i y hy
    rw [Option.ite_none_right_eq_some] at hz
    obtain ⟨h1, h2⟩ := hz
    cases h2
    exact ⟨hy, h1⟩
  · cases hz
theorem zeroA_ok {t : TypeId} {z : Value} (hz : zeroA P t = some z) : (zeroValue t).run P w = .ok z w ∧ VR μ z z ∧ ∃ i, P.info? t = some i ∧ i.zero = some z ∧ okZero z = true := by
  unfold zeroA at hz
  cases hi : P.info? t with
  | none => simp [hi] at hz
  | some i =>
    simp only [hi] at hz
    obtain ⟨h1, h2⟩ := zeroOf_some hz
    exact ⟨run_zeroV hi h1, okZero_VR h2, i, rfl, h1, h2⟩

theorem fold_LR (v v' : List Value) (hv : LR μ v v') : ∀ (k off : Nat) (c c' : Array Value), LR μ c.toList c'.toList →
    LR μ ((v.zipIdx k).foldl (fun cs x => cs.setIfInBounds (off + x.2) x.1) c).toList ((v'.zipIdx k).foldl (fun cs x => cs.setIfInBounds (off + x.2) x.1) c').toList := by
  induction v generalizing v' with
  | nil =>
    intro k off c c' hc
    cases v' with
    | nil => exact hc
    | cons _ _ => have := hv.1; simp at this
  | cons a v ih =>
    intro k off c c' hc
    cases v' with
    | nil => have := hv.1; simp at this
    | cons a' v' =>
      simp only [List.zipIdx_cons, List.foldl_cons]
      refine ih v' hv.tail (k + 1) off _ _ ⟨by have := hc.1; simpa using this, fun j u u' x y => ?_⟩
      rw [Array.getElem?_toList, Array.getElem?_setIfInBounds] at x y
      have hs : c.size = c'.size := by simpa using hc.1
      by_cases e : off + k = j
      · rw [if_pos e] at x y
        rw [← hs] at y
        split at x
        · rename_i hlt
          rw [if_pos hlt] at y
          cases x; cases y; exact hv.head
        · cases x
      · rw [if_neg e] at x y
        exact hc.2 j u u' (by simpa using x) (by simpa using y)

/-- Parts, place by place. -/
def PR (μ : Mp) (a b : List (Nat × Value)) : Prop := a.length = b.length ∧ ∀ (k : Nat) (x y : Nat × Value), a[k]? = some x → b[k]? = some y → x.1 = y.1 ∧ VR μ x.2 y.2
theorem PR.tail {x y : Nat × Value} {a b : List (Nat × Value)} (h : PR μ (x :: a) (y :: b)) : PR μ a b :=
  ⟨by have := h.1; simpa using this, fun k u v p q => h.2 (k + 1) u v (by simpa using p) (by simpa using q)⟩
theorem PR.cons {x y : Nat × Value} {a b : List (Nat × Value)} (h1 : x.1 = y.1) (h2 : VR μ x.2 y.2) (h : PR μ a b) : PR μ (x :: a) (y :: b) := by
  refine ⟨by simp [h.1], fun k u v p q => ?_⟩
  cases k with
  | zero => simp at p q; subst p; subst q; exact ⟨h1, h2⟩
  | succ k => exact h.2 k u v (by simpa using p) (by simpa using q)

theorem fill_ok (place : Nat → Option (Nat × Nat)) : ∀ (ps ps' : List (Nat × Value)) (c c' r : Array Value), PR μ ps ps' → LR μ c.toList c'.toList → Instr.fill place c ps = some r →
    ∃ r', Instr.fill place c' ps' = some r' ∧ LR μ r.toList r'.toList
  | [], [], c, c', r, _, hc, hf => by simp [Instr.fill] at hf; subst hf; exact ⟨c', rfl, hc⟩
  | [], y :: ps', c, c', r, hp, _, _ => by have := hp.1; simp at this
  | x :: ps, [], c, c', r, hp, _, _ => by have := hp.1; simp at this
  | (i, v) :: ps, (i', v') :: ps', c, c', r, hp, hc, hf => by
    obtain ⟨rfl, hv⟩ := hp.2 0 _ _ rfl rfl
    simp only [Instr.fill] at hf ⊢
    cases hpl : place i with
    | none => simp [hpl] at hf
    | some q =>
      obtain ⟨off, size⟩ := q
      simp only [hpl] at hf ⊢
      have hs : v'.cells.size = v.cells.size := by have := hv.cells.1; simp at this; exact this.symm
      have hcs : c'.size = c.size := by have := hc.1; simp at this; exact this.symm
      rw [hs, hcs]
      split at hf
      · cases hf
      · rename_i hn
        rw [if_neg hn]
        refine fill_ok place ps ps' _ _ r hp.tail ?_ hf
        rw [← Array.foldl_toList, ← Array.foldl_toList, Array.toList_zipIdx, Array.toList_zipIdx]
        exact fold_LR _ _ hv.cells 0 off _ _ hc

theorem build_ok {t : TypeId} {ps : List (Nat × Value)} {ps' : Array (Nat × Value)} {v : Value} (hv : buildA P t ps = some v) (hp : PR μ ps ps'.toList) : ∃ v', (Instr.build t ps').run P w = .ok v' w ∧ VR μ v v' := by
  unfold buildA at hv
  split at hv
  · cases hv
  · rename_i z hz
    rw [Option.map_eq_some_iff] at hv
    obtain ⟨cells, hb, rfl⟩ := hv
    obtain ⟨_, _, i, hi, hzz, hok⟩ := zeroA_ok (w := w) (μ := μ) hz
    have hzc : LR μ z.cells.toList z.cells.toList := LR.of_plain (okZero_cells hok)
    have : ∃ cells', P.built t ps'.toList = some cells' ∧ LR μ cells.toList cells'.toList := by
      unfold Program.built at hb ⊢
      rw [hi] at hb ⊢
      cases hd : P.underlying t with
      | none => simp [hd] at hb
      | some d =>
        rw [hd] at hb
        cases d <;> try (simp at hb; done)
        case array n e =>
          simp only [hzz] at hb ⊢
          cases he : P.info? e with
          | none => simp [he] at hb
          | some ie =>
            simp only [he] at hb ⊢
            exact fill_ok _ _ _ _ _ _ hp hzc hb
        case struct fs =>
          simp only [hzz] at hb ⊢
          cases he : fs.toList.mapM (fun f => (P.info? f.type).map fun i => (f.offset, i.size)) with
          | none => simp [he] at hb
          | some pl =>
            simp only [he] at hb ⊢
            exact fill_ok _ _ _ _ _ _ hp hzc hb
    obtain ⟨cells', h1, h2⟩ := this
    exact ⟨.agg cells', run_build w t ps' cells' h1, VR.agg_of h2⟩

theorem repeatL_length (z : List Value) : ∀ n, (repeatL z n).length = n * z.length
  | 0 => by simp [repeatL]
  | n + 1 => by simp [repeatL, repeatL_length z n, Nat.add_mul]; omega
theorem repeatL_get (z : List Value) : ∀ (n k : Nat), k < n * z.length → (repeatL z n)[k]? = z[k % z.length]?
  | 0, k, h => by simp at h
  | n + 1, k, h => by
    simp only [repeatL]
    by_cases hk : k < z.length
    · rw [List.getElem?_append_left hk, Nat.mod_eq_of_lt hk]
    · rw [Nat.add_mul, Nat.one_mul] at h
      rw [List.getElem?_append_right (by omega), repeatL_get z n _ (by omega), ← Nat.mod_eq_sub_mod (show k ≥ z.length by omega)]
theorem repeatL_plain {z : List Value} (hz : ∀ v ∈ z, plainV v = true) : ∀ n, ∀ v ∈ repeatL z n, plainV v = true
  | 0, v, h => by simp [repeatL] at h
  | n + 1, v, h => by
    simp only [repeatL, List.mem_append] at h
    exact h.elim (hz v) (repeatL_plain hz n v)
/-- The model's row of zeros. -/
theorem range_zero (z : Array Value) (n : Nat) (hz : 0 < z.size) : ((Array.range (n * z.size)).map (z[· % z.size]!)).toList = repeatL z.toList n := by
  apply List.ext_getElem?
  intro k
  rw [Array.toList_map, Array.toList_range]
  by_cases hk : k < n * z.size
  · rw [repeatL_get _ _ _ (by simpa using hk), List.getElem?_map, List.getElem?_range hk]
    have hm : k % z.size < z.size := Nat.mod_lt _ hz
    simp [hm]
  · rw [List.getElem?_eq_none (by simpa using hk), List.getElem?_eq_none (by rw [repeatL_length]; simpa using hk)]

theorem buildSlice_ok (H : HR F w0 μ h w) {t : TypeId} {n : Nat} {ps : List (Nat × Value)} {ps' : Array (Nat × Value)} {v : Value} {h' : AH} (hv : buildSliceA P t n ps h = some (v, h')) (hp : PR μ ps ps'.toList) :
    ∃ μ' w' v', (Instr.buildSlice t n ps').run P w = .ok v' w' ∧ VR μ' v v' ∧ HR F w0 μ' h' w' ∧ Ext μ μ' h h' := by
  unfold buildSliceA at hv
  cases hd : P.underlying t with
  | none => simp [hd] at hv
  | some d =>
    rw [hd] at hv
    cases d <;> try (simp at hv; done)
    case slice e =>
      simp only at hv
      cases hf : P.info? e with
      | none => simp [hf] at hv
      | some info =>
        simp only [hf] at hv
        split at hv
        · cases hv
        · rename_i z hz
          obtain ⟨hzz, hok⟩ := zeroOf_some hz
          rw [Option.ite_none_left_eq_some] at hv
          obtain ⟨hc, hv⟩ := hv
          simp only [Bool.or_eq_true, decide_eq_true_eq, not_or, ne_eq, Decidable.not_not, gt_iff_lt, Nat.not_lt] at hc
          obtain ⟨⟨hs, h0⟩, hb⟩ := hc
          split at hv
          · cases hv
          · rename_i cells hfl
            simp only [AH.fst_new, Option.some.injEq, Prod.mk.injEq] at hv
            obtain ⟨rfl, rfl⟩ := hv
            have hzp : 0 < z.cells.size := by omega
            have hr := range_zero z.cells n hzp
            rw [← hs] at hr
            have hLR : LR μ (repeatL z.cells.toList n).toArray.toList ((Array.range (n * info.size)).map (z.cells[· % z.cells.size]!)).toList := by
              rw [hs, range_zero z.cells n hzp]
              exact LR.of_plain (repeatL_plain (okZero_cells hok) n)
            obtain ⟨cells', h1, h2⟩ := fill_ok _ _ _ _ _ _ hp hLR hfl
            have := new_row H e h2 cells' (by rw [h2.1]; exact List.take_of_length_le (Nat.le_refl _)) (some e) (fun _ q => by cases q; rfl)
            refine ⟨_, _, .slice (some ⟨w.heap.size, 0, none⟩) n n, ?_, ?_, this.1, this.2⟩
            · have hb' : ¬ 16777216 < n * info.size := by simpa using hb
              by_cases hn : n * info.size = 0
              · have : n = 0 := by
                  rcases Nat.mul_eq_zero.1 hn with q | q
                  · exact q
                  · exact absurd q h0
                subst this
                have e0 : ∀ f : Nat → Value, Array.map f (Array.range 0) = #[] := fun f => by apply Array.ext'; rw [Array.toList_map, Array.toList_range]; rfl
                simp only [Nat.zero_mul, e0] at h1
                simp [Instr.buildSlice, run_under hd, run_sizeOf hf, e0, h1, run_newRow]
              · simp [Instr.buildSlice, run_under hd, run_sizeOf hf, hb', hn, run_zeroV hf hzz, h1, run_newRow]
            · have : VR (μ.add h.next (w.heap.size, 0, cells'.size)) (.slice (some ⟨h.next, 0, none⟩) n n) (.slice (some ⟨w.heap.size, 0 + 0, none⟩) n n) := .slice (e := cells'.size) (by simp [Mp.add])
              exact this

end
end Go.R

/- Each operation of the abstract machine is one of the model's: append. -/
namespace Go.R
set_option linter.unusedVariables false
set_option linter.unusedSimpArgs false
open Go Go.RowKit

section
variable {P : Program} {F : Nat → Prop} {w0 : World} {μ : Mp} {h : AH} {w : World}

theorem zfit_some {info : TypeInfo} (hz : zfit info = true) : ∃ z, info.zero = some z ∧ okZero z = true ∧ z.cells.size = info.size := by
  unfold zfit at hz
  split at hz
  · rename_i z h1
    obtain ⟨h2, h3⟩ := zeroOf_some h1
    exact ⟨z, h2, h3, by simpa using hz⟩
  · cases hz

theorem drew_HR (H : HR F w0 μ h w) : HR F w0 μ h w.drew := H.congr rfl rfl rfl rfl

theorem LR.cellV {l l' : List Value} (hl : LR μ l l') (hc : ∀ v ∈ l, cellV v = true) : ∀ v ∈ l', Value.oneCell' v = true := by
  intro v hv
  obtain ⟨k, hk⟩ := List.getElem?_of_mem hv
  obtain ⟨u, hu, hr⟩ := hl.back hk
  rw [cellV_one, hr.cellV]; exact hc u (List.mem_of_getElem? hu)

/-- What is appended. -/
theorem src_ok (H : HR F w0 μ h w) {tx : TypeId} {size n : Nat} {x x' : Value} {new : List Value} (hk : (∃ e', P.underlying tx = some (.slice e')) ∨ P.underlying tx = some .string) (hs : srcA size x h = some (new, n)) (hx : VR μ x x')
    (hc : ∀ v ∈ new, cellV v = true) : ∃ new', LR μ new new' ∧ Src P size tx x' n new' w ∧ new.length = n * size := by
  unfold srcA at hs
  split at hs
  · cases hs
    obtain ⟨_, _, rfl⟩ := hx.sliceN_inv
    exact ⟨[], LR.nil, ⟨hk, fun _ => rfl, run_firstCells_none w size 0 0 0, run_firstCells_none w.drew size 0 0 0, by simp, fun _ h => by cases h⟩, by simp⟩
  · rename_i a n' c
    split at hs
    · rename_i hn
      cases hs
      have : ∃ A c', x' = .slice (some A) 0 c' := by
        subst hn
        obtain ⟨i, o, sp⟩ := a
        cases sp with
        | none => obtain ⟨b, z, e, _, rfl⟩ := hx.slice_inv; exact ⟨_, _, rfl⟩
        | some s => cases s with
          | zero => obtain ⟨_, _, A, c', rfl⟩ := hx.slice0_inv; exact ⟨_, _, rfl⟩
          | succ s => obtain ⟨b, z, e, c', _, _, _, _, rfl⟩ := hx.sliceU_inv; exact ⟨_, _, rfl⟩
      obtain ⟨A, c', rfl⟩ := this
      exact ⟨[], LR.nil, ⟨hk, fun _ => rfl, run_firstCells_some w size 0 A 0 c' [] (by simp) (by simp), run_firstCells_some w.drew size 0 A 0 c' [] (by simp) (by simp), by simp, fun _ h => by cases h⟩, by simp⟩
    · rename_i hn
      rw [Option.map_eq_some_iff] at hs
      obtain ⟨l, hr, hs⟩ := hs
      cases hs
      obtain ⟨i, o, sp⟩ := a
      have key : ∀ (b z e c' : Nat), μ i = some (b, z, e) → ∃ new', LR μ new new' ∧ Src P size tx (.slice (some ⟨b, z + o, none⟩) n c') n new' w ∧ new.length = n * size := by
        intro b z e c' hm
        obtain ⟨l', hl, hlen, hcell⟩ := row_read H hm hr
        have hl' : l'.length = n * size := by rw [← hl.1]; exact hlen
        exact ⟨l', hl, ⟨hk, fun _ => rfl, run_firstCells_some w size n _ n c' l' hl' (fun j v hj => by rw [add_at]; exact hcell j v hj),
          run_firstCells_some w.drew size n _ n c' l' hl' (fun j v hj => by rw [add_at]; exact hcell j v hj), hl', hl.cellV hc⟩, hlen⟩
      cases sp with
      | none => obtain ⟨b, z, e, hm, rfl⟩ := hx.slice_inv; exact key b z e _ hm
      | some s => cases s with
        | zero => obtain ⟨h1, _⟩ := hx.slice0_inv; exact absurd h1 hn
        | succ s => obtain ⟨b, z, e, c', hm, _, _, _, rfl⟩ := hx.sliceU_inv; exact key b z e _ hm
  · rename_i s
    rw [Option.ite_none_right_eq_some] at hs
    obtain ⟨rfl, hs⟩ := hs
    cases hs
    cases hx.string_inv
    have hlen : (s.data.toList.map fun b => Value.int .u8 b.toNat).length = s.size := by rw [List.length_map, Array.length_toList]; rfl
    refine ⟨byteCells s, LR.of_plain (fun v hv => ?_), ⟨hk, fun _ => rfl, firstCells_string s w, firstCells_string s w.drew, by rw [byteCells_length, Nat.mul_one], fun u hu => ?_⟩, by rw [hlen, Nat.mul_one]⟩
    · obtain ⟨_, _, rfl⟩ := List.mem_map.1 hv; rfl
    · obtain ⟨_, _, rfl⟩ := List.mem_map.1 hu; rfl
  · cases hs

theorem append_room {t tx ty e : TypeId} {i : TypeInfo} (ht : P.underlying t = some (.slice e)) (hi : P.info? e = some i) {b off sLen sCap : Nat} {x : Value} {n : Nat} {news : List Value} (hs : Src P i.size tx x n news w)
    (hroom : sLen + n ≤ sCap) {w' : World} (hst : (storeCells ⟨b, off + sLen * i.size, none⟩ news).run P w = .ok () w') :
    (Builtin.append_ #[t, tx] ty #[.slice (some ⟨b, off, none⟩) sLen sCap, x]).run P w = .ok (.slice (some ⟨b, off, none⟩) (sLen + n) sCap) w' := by
  rcases hs.kind with ⟨e', hk⟩ | hk <;> simp [Builtin.append_, run_under ht, run_under hk, sizeOf, typeInfo, hi, hs.len, hroom, hs.cells, hst]

/-- Nothing is appended. -/
theorem append_none {t tx ty e : TypeId} {i : TypeInfo} (ht : P.underlying t = some (.slice e)) (hi : P.info? e = some i) {base : Option Addr} {sLen sCap : Nat} {x : Value} {news : List Value} (hs : Src P i.size tx x 0 news w)
    (hroom : sLen ≤ sCap) : (Builtin.append_ #[t, tx] ty #[.slice base sLen sCap, x]).run P w = .ok (.slice base sLen sCap) w := by
  have hn : news = [] := by have := hs.newsLen; simp at this; exact this
  subst hn
  rcases hs.kind with ⟨e', hk⟩ | hk <;> (cases base <;> simp [Builtin.append_, run_under ht, run_under hk, sizeOf, typeInfo, hi, hs.len, hroom, hs.cells, storeCells])

theorem fit_bytes {need old bytes : Nat} (h1 : old < need) (h2 : need ≤ 2000000) (h3 : bytes ≤ 1000000) : Builtin.nextslicecap need old * bytes ≤ 281474976710656 := by
  have := Room.nextslicecap_le' h1
  calc Builtin.nextslicecap need old * bytes ≤ 4000000 * 1000000 := Nat.mul_le_mul (by omega) h3
    _ ≤ _ := by decide

/-- The row that a growing append makes. -/
theorem appendNew_ok (H : HR F w0 μ h w) {e : TypeId} {info : TypeInfo} {z : Value} (hz : z.cells.size = info.size) (hs0 : info.size ≠ 0) {cells cells' : List Value} (hc : LR μ cells cells') {n cap : Nat} (hn : cells.length = n * info.size) (hcap : n ≤ cap) {v : Value} {h' : AH}
    (hv : appendNew e info.size cells n h = some (v, h')) :
    ∃ μ', VR μ' v (.slice (some ⟨w.heap.size, 0, none⟩) n cap) ∧ HR F w0 μ' h' (w.drew.alloc (.cells (cells'.toArray ++ Builtin.zeroCells z.cells (cap - n)) e)) ∧ Ext μ μ' h h' := by
  unfold appendNew at hv
  simp only [Option.some.injEq, Prod.mk.injEq] at hv
  obtain ⟨rfl, rfl⟩ := hv
  have hsz : (cells'.toArray ++ Builtin.zeroCells z.cells (cap - n)).size = cap * info.size := by
    rw [Array.size_append, size_zeroCells, hz]
    have : cells'.toArray.size = n * info.size := by simp [← hc.1, hn]
    rw [this, ← Nat.add_mul]
    congr 1; omega
  have := new_row (drew_HR H) e hc (cells'.toArray ++ Builtin.zeroCells z.cells (cap - n)) (by rw [Array.toList_append, hc.1]; simp) (some e) (fun _ q => by cases q; rfl)
  refine ⟨_, ?_, this.1, this.2⟩
  obtain ⟨s, hs⟩ : ∃ s, info.size = s + 1 := ⟨info.size - 1, by omega⟩
  rw [hs]
  have hq : VR (μ.add h.next (w.heap.size, 0, (cells'.toArray ++ Builtin.zeroCells z.cells (cap - n)).size)) (.slice (some ⟨h.next, 0, some (s + 1)⟩) n n) (.slice (some ⟨w.heap.size, 0 + 0, none⟩) n cap) :=
    .sliceU (e := (cells'.toArray ++ Builtin.zeroCells z.cells (cap - n)).size) (by simp [Mp.add]) (Nat.le_refl _) hcap (by rw [hsz, hs]; omega)
  exact hq

/-! ### An append onto a slice whose capacity is not known -/
theorem share_live {c : List Value} {par : List Nat} {ty : Option TypeId} {y : AObj} {i z zj j : Nat} (hs : okShare (.cells c true par ty) i z y j zj) :
    y = .dead ∨ ∃ c' p' t', y = .cells c' false p' t' ∧ j ∈ par ∧ zj + c'.length ≤ z + c.length := by
  rcases hs with hs | hs | hs
  · rcases y with ⟨c', live', p', t'⟩ | es | ⟨s, pos⟩ | tag | _
    · cases live'
      · simp only [share] at hs; exact .inr ⟨c', p', t', rfl, hs.1, hs.2⟩
      · simp [share] at hs
    · simp [share] at hs
    · simp [share] at hs
    · simp [share] at hs
    · exact .inl rfl
  · rcases y with ⟨c', live', p', t'⟩ | es | ⟨s, pos⟩ | tag | _
    · cases live' <;> simp [share] at hs
    · simp [share] at hs
    · simp [share] at hs
    · simp [share] at hs
    · exact .inl rfl
  · simp [AObj.wr] at hs

/-- A live row grows old: it is cut, and, where it is cut short, those it grew out of are gone. -/
theorem HR.stale (H : HR F w0 μ h w) {i b z e stop : Nat} (hi : μ i = some (b, z, e)) {cs : List Value} {par : List Nat} {ty : Option TypeId} (hg : h.get i = .cells cs true par ty)
    (kl par1 : List Nat) (hk : (kl = par ∧ par1 = []) ∨ (kl = [] ∧ par1 = par)) : HR F w0 μ ((h.kill kl).put i (.cells (cs.take stop) false par1 ty)) w := by
  have gt : ∀ j, ((h.kill kl).put i (.cells (cs.take stop) false par1 ty)).get j = if j = i then .cells (cs.take stop) false par1 ty else if j ∈ kl then .dead else h.get j := fun j => kill_get_cases _ _ _ _ _
  refine ⟨fun j p hj => by simpa using H.dom j p hj, fun j b' z' e' hj => ?_, fun j b' z' e' hj hw => ?_, fun j k b' zj ej zk ek hne hj hk' => ?_, fun j c l p t hj hgj k hkm => ?_, H.os, H.tape, H.output, H.size, H.fr, H.tab⟩
  · rw [gt]
    split
    · rename_i e1; subst e1
      have := H.obj j b' z' e' hj
      rw [hg] at this
      obtain ⟨ws, el, fr, h1, h2, h3, h4, h5, h6⟩ := this
      refine ⟨ws, el, fr, h1, by simp; omega, h3, fun k v hk => ?_, (fun hf => by cases hf), h6⟩
      have hk2 : k < stop := by
        rcases Nat.lt_or_ge k stop with a | a
        · exact a
        · rw [List.getElem?_take_eq_none a] at hk; cases hk
      rw [List.getElem?_take_of_lt hk2] at hk
      exact h4 k v hk
    · split
      · trivial
      · exact H.obj j b' z' e' hj
  · rw [gt] at hw
    split at hw
    · simp [AObj.wr] at hw
    · split at hw
      · simp [AObj.wr] at hw
      · exact H.own j b' z' e' hj hw
  · rw [gt, gt]
    by_cases e1 : j = i
    · subst e1
      rw [if_pos rfl, if_neg (Ne.symm hne)]
      have hs := H.sep j k b' zj ej zk ek hne hj hk'
      rw [hg] at hs
      split
      · exact .inr (.inl trivial)
      · rcases share_live hs with hd | ⟨c', p', t', hy, _⟩
        · rw [hd]; exact .inr (.inl trivial)
        · rw [hy]; exact .inr (.inr ⟨rfl, rfl⟩)
    · by_cases e2 : k = i
      · subst e2
        rw [if_neg e1, if_pos rfl]
        have hs := H.sep k j b' zk ek zj ej (Ne.symm hne) hk' hj
        rw [hg] at hs
        split
        · exact .inl trivial
        · rcases share_live hs with hd | ⟨c', p', t', hy, _⟩
          · rw [hd]; exact .inl trivial
          · rw [hy]; exact .inr (.inr ⟨rfl, rfl⟩)
      · rw [if_neg e1, if_neg e2]
        split
        · exact .inl trivial
        · split
          · exact .inr (.inl trivial)
          · exact H.sep j k b' zj ej zk ek hne hj hk'
  · rw [gt] at hgj
    split at hgj
    · rename_i e1; subst e1
      cases hgj
      rcases hk with ⟨_, rfl⟩ | ⟨_, rfl⟩
      · cases hkm
      · exact H.par j _ _ _ _ (by rw [hi]; simp) hg k hkm
    · split at hgj
      · cases hgj
      · exact H.par j c l p t hj hgj k hkm

/-- A write in a block beyond all that is known of it. -/
theorem HR.beyond (H : HR F w0 μ h w) {w' : World} {b p : Nat} {ws : Array Value} {el : TypeId} {fr : Nat × Nat} {l : List Value} (hb : w.heap[b]? = some (.cells ws el fr)) (hp : p + l.length ≤ ws.size)
    (W : Wrote w w' b (.cells (writeA ws p l) el fr)) (hF : ¬ F b) (hk : ∀ j zj ej, μ j = some (b, zj, ej) → h.get j = .dead ∨ ∃ c par ty, h.get j = .cells c false par ty ∧ zj + c.length ≤ p) : HR F w0 μ h w' := by
  refine ⟨H.dom, fun j b' z' e' hj => ?_, H.own, H.sep, H.par, W.os.trans H.os, W.tape.trans H.tape, W.output.trans H.output, by rw [W.size]; exact H.size, fun c hc => ⟨(H.fr c hc).1, by rw [W.other c (fun e => hF (e ▸ hc))]; exact (H.fr c hc).2⟩, H.tab⟩
  by_cases e1 : b' = b
  · subst e1
    rcases hk j z' e' hj with hd | ⟨c, par, ty, hg, hle⟩
    · rw [hd]; trivial
    · have := H.obj j b' z' e' hj
      rw [hg] at this ⊢
      obtain ⟨ws', el', fr', h1, h2, h3, h4, h5, h6⟩ := this
      rw [hb] at h1; cases h1
      refine ⟨_, _, _, W.at_, h2, by rw [writeA_size]; exact h3, fun k v hkv => ?_, h5, h6⟩
      have hlt : k < c.length := by
        rcases Nat.lt_or_ge k c.length with a | a
        · exact a
        · simp [List.getElem?_eq_none a] at hkv
      rw [writeA_get _ _ _ _ hp, if_neg (by omega)]
      exact h4 k v hkv
  · exact (H.obj j b' z' e' hj).world (W.other b' e1)

/-- An object that is laid into a block that is there. -/
theorem HR.bornAt (H : HR F w0 μ h w) (i b z e : Nat) (hi : i < h.next) (hn : μ i = none) (hF : ¬ F b)
    (hpar : ∀ c l p ty, h.get i = .cells c l p ty → ∀ j, j ∈ p → μ j ≠ none) (ho : OR (μ.add i (b, z, e)) (h.get i) b z e w)
    (hs : ∀ j zj ej, μ j = some (b, zj, ej) → okShare (h.get i) i z (h.get j) j zj) : HR F w0 (μ.add i (b, z, e)) h w := by
  have hsub := Mp.add_sub (p := (b, z, e)) hn
  refine ⟨fun j p hj => ?_, fun j b' z' e' hj => ?_, fun j b' z' e' hj hw => ?_, fun j k b' zj ej zk ek hne hj hk => ?_, fun j c l p ty hj hg k hk => ?_, H.os, H.tape, H.output, H.size, H.fr, H.tab⟩
  · unfold Mp.add at hj; split at hj
    · rename_i e1; subst e1; exact hi
    · exact H.dom j p hj
  · unfold Mp.add at hj; split at hj
    · rename_i e1; subst e1; cases hj; exact ho
    · exact (H.obj j b' z' e' hj).mono hsub
  · unfold Mp.add at hj; split at hj
    · cases hj; exact hF
    · exact H.own j b' z' e' hj hw
  · unfold Mp.add at hj hk
    split at hj
    · rename_i e1; subst e1; cases hj
      split at hk
      · rename_i e2; exact absurd e2.symm hne
      · exact hs k zk ek hk
    · split at hk
      · rename_i e2; subst e2; cases hk
        rcases hs j zj ej hj with q | q | q
        · exact .inr (.inl q)
        · exact .inl q
        · exact .inr (.inr ⟨q.2, q.1⟩)
      · exact H.sep j k b' zj ej zk ek hne hj hk
  · have hne : ∀ k, μ k ≠ none → (μ.add i (b, z, e)) k ≠ none := by
      intro k hk; cases hm : μ k with
      | none => exact absurd hm hk
      | some q => rw [hsub k q hm]; simp
    by_cases e1 : j = i
    · subst e1; exact hne k (hpar c l p ty hg k hk)
    · unfold Mp.add at hj; rw [if_neg e1] at hj
      exact hne k (H.par j c l p ty hj hg k hk)

theorem getL_append {a b : List Value} {k : Nat} {v : Value} (h : (a ++ b)[k]? = some v) : (k < a.length ∧ a[k]? = some v) ∨ (a.length ≤ k ∧ b[k - a.length]? = some v) := by
  by_cases hk : k < a.length
  · rw [List.getElem?_append_left hk] at h; exact .inl ⟨hk, h⟩
  · rw [List.getElem?_append_right (by omega)] at h; exact .inr ⟨by omega, h⟩

theorem appendU_ok (H : HR F w0 μ h w) {t tx ty e : TypeId} {info : TypeInfo} {z0 : Value} (ht : P.underlying t = some (.slice e)) (hinf : P.info? e = some info) (hz0 : info.zero = some z0) (hzs : z0.cells.size = info.size) (hs0 : info.size ≠ 0)
    (hby : info.bytes ≤ 1000000) {i o l c c' n b z en : Nat} (hm : μ i = some (b, z, en)) (hlc : l ≤ c) (hcc : c ≤ c') (hen : z + o + c' * info.size ≤ en) (hl6 : l ≤ 1000000) (hn6 : n ≤ 1000000) (hn0 : n ≠ 0)
    {x' : Value} {new new' : List Value} (hnew : LR μ new new') (hsrc : Src P info.size tx x' n new' w) (hnl : new.length = n * info.size) {v : Value} {h' : AH} (hv : appendU e info.size i o l n new h = some (v, h')) :
    ∃ μ' w' v', (Builtin.append_ #[t, tx] ty #[.slice (some ⟨b, z + o, none⟩) l c', x']).run P w = .ok v' w' ∧ VR μ' v v' ∧ HR F w0 μ' h' w' ∧ Ext μ μ' h h' := by
  unfold appendU at hv
  split at hv
  · rename_i cs par tyo hg
    -- one form for both cuts
    have form : ∃ kl par1 jpar, ((kl = par ∧ par1 = [] ∧ jpar = [i]) ∨ (kl = [] ∧ par1 = par ∧ jpar = i :: par ∧ o + l * info.size = cs.length)) ∧ o + l * info.size ≤ cs.length ∧
        v = .slice (some ⟨h.next, 0, some info.size⟩) (l + n) (l + n) ∧
        h' = (((h.kill kl).put i (.cells (cs.take (o + l * info.size)) false par1 tyo)).new (.cells (((cs.drop o).take (l * info.size)) ++ new) true jpar (if tyo = some e ∧ o = 0 then tyo else none))).2 := by
      split at hv
      · rename_i he
        cases hv
        refine ⟨[], par, i :: par, .inr ⟨rfl, rfl, rfl, he⟩, by omega, rfl, ?_⟩
        rw [he, List.take_of_length_le (Nat.le_refl _), List.take_of_length_le (by simp; omega)]
        rfl
      · split at hv
        · rename_i he
          cases hv
          exact ⟨par, [], [i], .inl ⟨rfl, rfl, rfl⟩, by omega, rfl, rfl⟩
        · cases hv
    obtain ⟨kl, par1, jpar, hcase, hle, rfl, rfl⟩ := form
    clear hv
    obtain ⟨tq, htq⟩ : ∃ tq, tq = (if tyo = some e ∧ o = 0 then tyo else none) := ⟨_, rfl⟩
    rw [← htq]
    have htq1 : ∀ t1, tq = some t1 → tyo = some t1 ∧ t1 = e ∧ o = 0 := by
      intro t1 h1
      rw [h1] at htq
      split at htq
      · rename_i h2; rw [h2.1] at htq ⊢; cases htq; exact ⟨rfl, rfl, h2.2⟩
      · cases htq
    clear htq
    have hst := H.stale (stop := o + l * info.size) hm hg kl par1 (hcase.elim (fun q => .inl ⟨q.1, q.2.1⟩) (fun q => .inr ⟨q.1, q.2.1⟩))
    have gt : ∀ j, ((h.kill kl).put i (.cells (cs.take (o + l * info.size)) false par1 tyo)).get j = if j = i then .cells (cs.take (o + l * info.size)) false par1 tyo else if j ∈ kl then .dead else h.get j := fun j => kill_get_cases _ _ _ _ _
    have hparm : ∀ j, j ∈ par → μ j ≠ none := H.par i _ _ _ _ (by rw [hm]; simp) hg
    have hjm : ∀ j, j ∈ jpar → μ j ≠ none := by
      intro j hj
      rcases hcase with ⟨_, _, rfl⟩ | ⟨_, _, rfl, _⟩
      · simp at hj; subst hj; rw [hm]; simp
      · rcases List.mem_cons.1 hj with rfl | hj
        · rw [hm]; simp
        · exact hparm j hj
    have hE1 : Ext μ μ h ((h.kill kl).put i (.cells (cs.take (o + l * info.size)) false par1 tyo)) :=
      Ext.wrote H hm kl _ (fun j hj => hcase.elim (fun q => hparm j (q.1 ▸ hj)) (fun q => by rw [q.1] at hj; cases hj))
    have hobj := H.obj i b z en hm
    rw [hg] at hobj
    obtain ⟨ws, el, fr, o1, o2, o3, o4, o5, o6⟩ := hobj
    have hF : ¬ F b := H.own i b z en hm (by rw [hg]; rfl)
    -- the old elements
    have hold : ∃ old', LR μ ((cs.drop o).take (l * info.size)) old' ∧ ∀ j v, old'[j]? = some v → w.cell? ⟨b, z + o + j, none⟩ = some v := by
      have hr : rowAt? h i o (l * info.size) = some ((cs.drop o).take (l * info.size)) := by unfold rowAt?; rw [hg]; simp [hle]
      obtain ⟨old', q1, _, q3⟩ := row_read H hm hr
      exact ⟨old', q1, q3⟩
    obtain ⟨old', hold1, hold2⟩ := hold
    have holdl : ((cs.drop o).take (l * info.size)).length = l * info.size := by simp; omega
    by_cases hroom : l + n ≤ c'
    · -- there is room: the same block
      have hnl' : new'.length = n * info.size := hsrc.newsLen
      have hmul : (l + n) * info.size ≤ c' * info.size := Nat.mul_le_mul_right _ hroom
      rw [Nat.add_mul] at hmul
      obtain ⟨w', hrun, hW⟩ := run_storeCells (P := P) new' w b (z + o + l * info.size) 0 ws el fr o1 (by omega) (fun k a1 a2 => o5 rfl k (by omega) (by omega)) (fun v hv => by rw [← cellV_one]; exact hsrc.one v hv)
      rw [Nat.add_zero] at hW
      refine ⟨μ.add h.next (b, z + o, en), w', _, append_room ht hinf hsrc hroom hrun, ?_, ?_, ?_⟩
      · obtain ⟨s, hs⟩ : ∃ s, info.size = s + 1 := ⟨info.size - 1, by omega⟩
        rw [hs]
        have : VR (μ.add h.next (b, z + o, en)) (.slice (some ⟨h.next, 0, some (s + 1)⟩) (l + n) (l + n)) (.slice (some ⟨b, z + o + 0, none⟩) (l + n) c') :=
          .sliceU (e := en) (by simp [Mp.add]) (Nat.le_refl _) hroom (by rw [← hs]; omega)
        exact this
      · have hb1 : HR F w0 μ ((h.kill kl).put i (.cells (cs.take (o + l * info.size)) false par1 tyo)) w' := by
          refine hst.beyond o1 (by omega) hW hF (fun j zj ej hj => ?_)
          rw [gt]
          by_cases e1 : j = i
          · subst e1
            rw [hm] at hj; cases hj
            rw [if_pos rfl]
            exact .inr ⟨_, _, _, rfl, by simp; omega⟩
          · rw [if_neg e1]
            by_cases e2 : j ∈ kl
            · rw [if_pos e2]; exact .inl rfl
            · rw [if_neg e2]
              have hs := H.sep i j b z en zj ej (Ne.symm e1) hm hj
              rw [hg] at hs
              rcases share_live hs with hd | ⟨c1, p1, t1, hy, hmem, hext⟩
              · exact .inl hd
              · rcases hcase with q | q
                · exact absurd (q.1 ▸ hmem) e2
                · exact .inr ⟨c1, p1, t1, hy, by omega⟩
        have hnone := H.none_next (Nat.le_refl h.next)
        have hlaid := hb1.laid (.cells (((cs.drop o).take (l * info.size)) ++ new) true jpar tq)
        refine hlaid.bornAt h.next b (z + o) en (by simp) hnone hF ?_ ?_ ?_
        · intro c1 l1 p1 t1 hg1 j hj
          rw [AH.get_new, if_pos (by simp)] at hg1
          cases hg1
          exact hjm j hj
        · rw [AH.get_new, if_pos (by simp)]
          refine ⟨_, _, _, hW.at_, ?_, by rw [writeA_size]; exact o3, fun k v hk => ?_, fun _ k a1 a2 => o5 rfl k (by omega) a2, fun t1 ht1 => ?_⟩
          · rw [List.length_append, holdl, hnl]; omega
          · have hsub := Mp.add_sub (p := (b, z + o, en)) hnone
            rw [writeA_get _ _ _ _ (by omega)]
            rcases getL_append hk with ⟨q1, q2⟩ | ⟨q1, q2⟩
            · rw [holdl] at q1
              rw [if_neg (by omega)]
              rw [List.getElem?_take_of_lt q1, List.getElem?_drop] at q2
              obtain ⟨v', r1, r2⟩ := o4 _ v q2
              exact ⟨v', by rw [Nat.add_assoc]; exact r1, r2.mono hsub⟩
            · rw [holdl] at q1 q2
              have hlt : k - l * info.size < new.length := by
                rcases Nat.lt_or_ge (k - l * info.size) new.length with a | a
                · exact a
                · simp [List.getElem?_eq_none a] at q2
              rw [if_pos (by omega)]
              obtain ⟨v', r1, r2⟩ := hnew.at_ q2
              exact ⟨v', by rw [show z + o + k - (z + o + l * info.size) = k - l * info.size by omega]; exact r1, r2.mono hsub⟩
          · obtain ⟨y1, y2, y3⟩ := htq1 t1 ht1
            have := o6 t1 y1
            exact ⟨this.1, by omega⟩
        · intro j zj ej hj
          have hjn : j ≠ h.next := fun e1 => by rw [e1, hnone] at hj; cases hj
          rw [AH.get_new, if_pos (by simp), AH.get_new, if_neg (by simpa using hjn), gt]
          by_cases e1 : j = i
          · subst e1
            rw [hm] at hj; cases hj
            rw [if_pos rfl]
            refine .inl ⟨?_, ?_⟩
            · rcases hcase with ⟨_, _, rfl⟩ | ⟨_, _, rfl, _⟩ <;> simp
            · rw [List.length_append, holdl]; simp; omega
          · rw [if_neg e1]
            by_cases e2 : j ∈ kl
            · rw [if_pos e2]; exact .inr (.inl trivial)
            · rw [if_neg e2]
              have hs := H.sep i j b z en zj ej (Ne.symm e1) hm hj
              rw [hg] at hs
              rcases share_live hs with hd | ⟨c1, p1, t1, hy, hmem, hext⟩
              · rw [hd]; exact .inr (.inl trivial)
              · rcases hcase with q | ⟨q1, q2, rfl, q4⟩
                · exact absurd (q.1 ▸ hmem) e2
                · rw [hy]
                  exact .inl ⟨List.mem_cons_of_mem _ hmem, by rw [List.length_append, holdl]; omega⟩
      · have hnone := H.none_next (Nat.le_refl h.next)
        have := (Ext.laid μ ((h.kill kl).put i (.cells (cs.take (o + l * info.size)) false par1 tyo)) (.cells (((cs.drop o).take (l * info.size)) ++ new) true jpar tq))
        exact (hE1.trans this).born (Nat.le_refl _) hnone
    · -- there is none: a new block
      have hold3 : old'.length = l * info.size := by rw [← hold1.1]; exact holdl
      have hfc : (Builtin.firstCells info.size l (.slice (some ⟨b, z + o, none⟩) l c')).run P w.drew = .ok old'.toArray w.drew :=
        run_firstCells_some w.drew info.size l ⟨b, z + o, none⟩ l c' old' hold3 (fun j v hj => by rw [add_at]; exact hold2 j v hj)
      have hrun := run_append_grow_src w t tx ty e info z0 ht hinf hz0 (some ⟨b, z + o, none⟩) l c' old' hfc x' n new' hsrc (by omega) (by omega) (fit_bytes (by omega) (by omega) hby)
      have hcells := hold1.append hnew
      have hgl : (((cs.drop o).take (l * info.size)) ++ new).length = (l + n) * info.size := by rw [List.length_append, holdl, hnl, Nat.add_mul]
      have hsz : ((old' ++ new').toArray ++ Builtin.zeroCells z0.cells (grownCap w (l + n) c' e - (l + n))).size = grownCap w (l + n) c' e * info.size := by
        have hge := grownCap_ge w (l + n) c' e
        rw [Array.size_append, size_zeroCells, hzs]
        have : (old' ++ new').toArray.size = (l + n) * info.size := by rw [List.size_toArray, ← hcells.1]; exact hgl
        rw [this, ← Nat.add_mul]
        congr 1; omega
      have := new_row_par (drew_HR hst) e hcells ((old' ++ new').toArray ++ Builtin.zeroCells z0.cells (grownCap w (l + n) c' e - (l + n))) (by rw [hcells.1, Array.toList_append]; exact List.take_left' (by simp)) tq
        (fun t1 q => (htq1 t1 q).2.1.symm) jpar hjm
      have hnx : ((h.kill kl).put i (.cells (cs.take (o + l * info.size)) false par1 tyo)).next = h.next := by simp
      rw [hnx] at this
      refine ⟨_, _, _, hrun, ?_, this.1, hE1.trans this.2⟩
      obtain ⟨s, hs⟩ : ∃ s, info.size = s + 1 := ⟨info.size - 1, by omega⟩
      have hge := grownCap_ge w (l + n) c' e
      have hq : VR (μ.add h.next (w.heap.size, 0, ((old' ++ new').toArray ++ Builtin.zeroCells z0.cells (grownCap w (l + n) c' e - (l + n))).size)) (.slice (some ⟨h.next, 0, some (s + 1)⟩) (l + n) (l + n)) (.slice (some ⟨w.heap.size, 0 + 0, none⟩) (l + n) (grownCap w (l + n) c' e)) :=
        .sliceU (e := ((old' ++ new').toArray ++ Builtin.zeroCells z0.cells (grownCap w (l + n) c' e - (l + n))).size) (by simp [Mp.add]) (Nat.le_refl _) hge (by rw [hsz, hs]; omega)
      rw [hs]
      exact hq
  · cases hv

end
end Go.R

/- Each operation of the abstract machine is one of the model's: append at last, lengths, copies, conversions, text. -/
namespace Go.R
set_option linter.unusedVariables false
set_option linter.unusedSimpArgs false
open Go Go.RowKit

section
variable {P : Program} {F : Nat → Prop} {w0 : World} {μ : Mp} {h : AH} {w : World}

theorem append_ok (H : HR F w0 μ h w) {t tx ty : TypeId} {s x s' x' v : Value} {h' : AH} (hv : appendA P #[t, tx] s x h = some (v, h')) (hs : VR μ s s') (hx : VR μ x x') :
    ∃ μ' w' v', (Builtin.append_ #[t, tx] ty #[s', x']).run P w = .ok v' w' ∧ VR μ' v v' ∧ HR F w0 μ' h' w' ∧ Ext μ μ' h h' := by
  unfold appendA at hv
  simp only [List.getElem?_toArray, List.getElem?_cons_zero, List.getElem?_cons_succ] at hv
  cases ht : P.underlying t with
  | none => simp [ht] at hv
  | some d =>
    cases htx : P.underlying tx with
    | none => cases d <;> simp [ht, htx] at hv
    | some dx =>
      cases d <;> try (simp [ht, htx] at hv; done)
      case slice e =>
        simp only [ht, htx] at hv
        cases hinf : P.info? e with
        | none => simp [hinf] at hv
        | some info =>
          simp only [hinf] at hv
          split at hv
          · cases hv
          · rename_i hkind
            have hk : (∃ e', P.underlying tx = some (.slice e')) ∨ P.underlying tx = some .string := by
              cases dx <;> first | exact .inl ⟨_, htx⟩ | exact .inr htx | (simp [srcKind] at hkind)
            split at hv
            · cases hv
            · rename_i new n hsrc
              rw [Option.ite_none_left_eq_some] at hv
              obtain ⟨hc, hv⟩ := hv
              simp only [Bool.or_eq_true, decide_eq_true_eq, not_or, gt_iff_lt, Nat.not_lt, Bool.not_eq_true', Bool.not_eq_false, List.all_eq_true] at hc
              obtain ⟨⟨⟨⟨hs0, hby⟩, hn6⟩, hz⟩, hcv⟩ := hc
              obtain ⟨z, hz1, hz2, hz3⟩ := zfit_some hz
              obtain ⟨new', hnew, hS, hnl⟩ := src_ok H hk hsrc hx hcv
              split at hv
              · -- nil
                rename_i l c
                rw [Option.ite_none_left_eq_some] at hv
                obtain ⟨hlc, hv⟩ := hv
                obtain ⟨rfl, rfl, rfl⟩ := hs.sliceN_inv
                split at hv
                · rename_i hn; subst hn
                  cases hv
                  exact ⟨μ, w, _, append_none ht hinf hS (Nat.le_refl _), .plain rfl, H, Ext.refl μ h⟩
                · rename_i hn
                  have hge := grownCap_ge w (0 + n) 0 e
                  obtain ⟨μ', q1, q2, q3⟩ := appendNew_ok (cap := grownCap w (0 + n) 0 e) H hz3 hs0 hnew hnl (by omega) hv
                  have hrun := run_append_grow_src w t tx ty e info z ht hinf hz1 none 0 0 [] (run_firstCells_none w.drew info.size 0 0 0) x' n new' hS (by omega) (by omega) (fit_bytes (by omega) (by omega) hby)
                  rw [List.nil_append, Nat.zero_add] at hrun
                  rw [Nat.zero_add] at q1 q2
                  exact ⟨μ', _, _, hrun, q1, q2, q3⟩
              · -- the capacity is known
                rename_i i o l c
                rw [Option.ite_none_left_eq_some] at hv
                obtain ⟨hlc, hv⟩ := hv
                simp only [Bool.or_eq_true, decide_eq_true_eq, not_or, gt_iff_lt, Nat.not_lt] at hlc
                obtain ⟨b, zz, en, hm, rfl⟩ := hs.slice_inv
                split at hv
                · rename_i hn; subst hn
                  cases hv
                  exact ⟨μ, w, _, append_none ht hinf hS hlc.2, .slice hm, H, Ext.refl μ h⟩
                · split at hv
                  · rename_i hroom
                    rw [Option.map_eq_some_iff] at hv
                    obtain ⟨h1, hp, hv⟩ := hv
                    cases hv
                    obtain ⟨w', r1, r2, r3⟩ := row_write (P := P) H hm hp hnew hcv
                    rw [← Nat.add_assoc] at r1
                    exact ⟨μ, w', _, append_room ht hinf hS hroom r1, .slice hm, r2, r3⟩
                  · rename_i hn hroom
                    split at hv
                    · cases hv
                    · rename_i old hold
                      obtain ⟨old', o1, o2, o3⟩ := row_read H hm hold
                      have hol : old'.length = l * info.size := by rw [← o1.1]; exact o2
                      have hge := grownCap_ge w (l + n) c e
                      obtain ⟨μ', q1, q2, q3⟩ := appendNew_ok (cap := grownCap w (l + n) c e) H hz3 hs0 (o1.append hnew) (by rw [List.length_append, o2, hnl, Nat.add_mul]) hge hv
                      have hfc : (Builtin.firstCells info.size l (.slice (some ⟨b, zz + o, none⟩) l c)).run P w.drew = .ok old'.toArray w.drew :=
                        run_firstCells_some w.drew info.size l ⟨b, zz + o, none⟩ l c old' hol (fun j v hj => by rw [add_at]; exact o3 j v hj)
                      have hrun := run_append_grow_src w t tx ty e info z ht hinf hz1 (some ⟨b, zz + o, none⟩) l c old' hfc x' n new' hS (by omega) (by omega) (fit_bytes (by omega) (by omega) hby)
                      exact ⟨μ', _, _, hrun, q1, q2, q3⟩
              · -- no elements, of whatever capacity
                rw [Option.ite_none_right_eq_some] at hv
                obtain ⟨hn, hv⟩ := hv
                subst hn
                cases hv
                obtain ⟨rfl, rfl, A, c', rfl⟩ := hs.slice0_inv
                exact ⟨μ, w, _, append_none ht hinf hS (Nat.zero_le _), .slice0, H, Ext.refl μ h⟩
              · -- the capacity is not known
                rename_i i o zz l c
                rw [Option.ite_none_left_eq_some] at hv
                obtain ⟨hlc, hv⟩ := hv
                simp only [Bool.or_eq_true, decide_eq_true_eq, not_or, gt_iff_lt, Nat.not_lt, ne_eq, Decidable.not_not] at hlc
                obtain ⟨b, z', en, c', hm, h1, h2, h3, rfl⟩ := hs.sliceU_inv
                split at hv
                · rename_i hn; subst hn
                  cases hv
                  exact ⟨μ, w, _, append_none ht hinf hS (by omega), .sliceU hm h1 h2 h3, H, Ext.refl μ h⟩
                · rename_i hn
                  rw [hlc.1] at h3
                  exact appendU_ok H ht hinf hz1 hz3 hs0 hby hm h1 h2 h3 hlc.2 hn6 hn hnew hS hnl hv
              · cases hv

/-! ### Lengths -/
theorem len_ok (H : HR F w0 μ h w) {t ty : TypeId} {x x' v : Value} (hv : lenA P t x h = some v) (hx : VR μ x x') : (Builtin.len_ #[t] ty #[x']).run P w = .ok v w ∧ plainV v = true := by
  unfold lenA at hv
  cases hd : P.underlying t with
  | none => simp [hd] at hv
  | some d =>
    rw [hd] at hv
    split at hv
    · rename_i s hq; cases hq; cases hv; cases hx.string_inv
      simp [Builtin.len_, run_under hd, goInt, plainV]
    · rename_i n e hq; cases hq; cases hv
      cases x' <;> simp [Builtin.len_, run_under hd, goInt, plainV]
    · rename_i a hq; cases hq
      split at hv
      · rename_i n e hda
        cases hv
        cases x' <;> simp [Builtin.len_, run_under hd, run_under hda, goInt, plainV]
      · cases hv
    · rename_i e a n c hq; cases hq; cases hv
      have : ∃ a' c', x' = .slice a' n c' := by
        cases hx with
        | plain hp => exact ⟨_, _, rfl⟩
        | slice _ => exact ⟨_, _, rfl⟩
        | sliceU _ _ _ _ => exact ⟨_, _, rfl⟩
        | slice0 => exact ⟨_, _, rfl⟩
      obtain ⟨a', c', rfl⟩ := this
      simp [Builtin.len_, run_under hd, goInt, plainV]
    · rename_i k e hq; cases hq; cases hv; cases hx.mapN_inv
      simp [Builtin.len_, run_under hd, goInt, plainV]
    · rename_i k e r hq; cases hq
      obtain ⟨b, en, hm, rfl⟩ := hx.map_inv
      split at hv
      · rename_i es hg
        cases hv
        have := H.obj r b 0 en hm
        rw [hg] at this
        obtain ⟨_, ms, cl, h1, h2, _⟩ := this
        have hsz : ms.size = es.length := by have := h2.1; simp at this; exact this.symm
        simp [Builtin.len_, run_under hd, getObj, Sem.run, h1, goInt, plainV, hsz]
      · cases hv
    · cases hv

theorem cap_ok {t ty : TypeId} {x x' v : Value} (hv : capA P t x = some v) (hx : VR μ x x') : (Builtin.cap_ #[t] ty #[x']).run P w = .ok v w ∧ plainV v = true := by
  unfold capA at hv
  cases hd : P.underlying t with
  | none => simp [hd] at hv
  | some d =>
    rw [hd] at hv
    split at hv
    · rename_i e n c hq; cases hq; cases hv
      obtain ⟨rfl, rfl, rfl⟩ := hx.sliceN_inv
      simp [Builtin.cap_, run_under hd, goInt, plainV]
    · rename_i e a n c hq; cases hq
      split at hv
      · rename_i hsp
        obtain ⟨i, o, sp⟩ := a
        simp only at hsp; subst hsp
        cases hv
        obtain ⟨b, z, en, _, rfl⟩ := hx.slice_inv
        simp [Builtin.cap_, run_under hd, goInt, plainV]
      · cases hv
    · cases hv

theorem max_ok : ∀ (l l' : List Value) (k : IntKind) (n : Int) (v : Value), foldMinMax true (.int k n) l = some v → LR μ l l' → (l'.foldlM Builtin.max2 (.int k n)).run P w = .ok v w ∧ plainV v = true
  | [], [], k, n, v, hv, _ => by simp [foldMinMax] at hv; subst hv; simp [plainV]
  | [], y :: l', k, n, v, hv, hl => by have := hl.1; simp at this
  | x :: l, [], k, n, v, hv, hl => by have := hl.1; simp at this
  | x :: l, y :: l', k, n, v, hv, hl => by
    have hxy := hl.head
    cases x <;> try (simp [foldMinMax] at hv; done)
    case int k' m =>
      cases hxy.int_inv
      simp only [foldMinMax, if_true] at hv
      have := max_ok l l' k _ v hv hl.tail
      simp only [List.foldlM_cons, Sem.run_bind, Builtin.max2, Sem.run_pure, Result.andThen_ok]
      exact this
theorem min_ok : ∀ (l l' : List Value) (k : IntKind) (n : Int) (v : Value), foldMinMax false (.int k n) l = some v → LR μ l l' → (l'.foldlM Builtin.min2 (.int k n)).run P w = .ok v w ∧ plainV v = true
  | [], [], k, n, v, hv, _ => by simp [foldMinMax] at hv; subst hv; simp [plainV]
  | [], y :: l', k, n, v, hv, hl => by have := hl.1; simp at this
  | x :: l, [], k, n, v, hv, hl => by have := hl.1; simp at this
  | x :: l, y :: l', k, n, v, hv, hl => by
    have hxy := hl.head
    cases x <;> try (simp [foldMinMax] at hv; done)
    case int k' m =>
      cases hxy.int_inv
      simp only [foldMinMax, Bool.false_eq_true, if_false] at hv
      have := min_ok l l' k _ v hv hl.tail
      simp only [List.foldlM_cons, Sem.run_bind, Builtin.min2, Sem.run_pure, Result.andThen_ok]
      exact this

end
end Go.R

/- Each operation of the abstract machine is one of the model's: new slices, copies, conversions, text. -/
namespace Go.R
set_option linter.unusedVariables false
set_option linter.unusedSimpArgs false
open Go Go.RowKit

section
variable {P : Program} {F : Nat → Prop} {w0 : World} {μ : Mp} {h : AH} {w : World}

theorem wrap_id {n : Int} (h0 : -1000000000 ≤ n) (h1 : n ≤ 1000000000) : IntKind.i64.wrap n = n := by
  unfold IntKind.wrap
  have hb : ((2 : Int) ^ IntKind.i64.bits) = 18446744073709551616 := rfl
  have hb2 : ((2 : Int) ^ (IntKind.i64.bits - 1)) = 9223372036854775808 := rfl
  have hs : IntKind.i64.signed = true := rfl
  simp only [hb, hb2, hs, Bool.true_and, ge_iff_le, decide_eq_true_eq]
  split <;> omega

theorem makeSlice_ok (H : HR F w0 μ h w) {t : TypeId} {l c l' c' v : Value} {h' : AH} (hv : makeSliceA P t l c h = some (v, h')) (hl : VR μ l l') (hc : VR μ c c') :
    ∃ μ' w' v', (Instr.makeSlice t l' c').run P w = .ok v' w' ∧ VR μ' v v' ∧ HR F w0 μ' h' w' ∧ Ext μ μ' h h' := by
  unfold makeSliceA at hv
  cases hd : P.underlying t with
  | none => simp [hd] at hv
  | some d =>
    rw [hd] at hv
    split at hv
    · rename_i e k l k2 c hq
      cases hq
      cases hl.int_inv; cases hc.int_inv
      cases hf : P.info? e with
      | none => simp [hf] at hv
      | some info =>
        simp only [hf] at hv
        split at hv
        · cases hv
        · rename_i z hz
          obtain ⟨hzz, hok⟩ := zeroOf_some hz
          rw [Option.ite_none_left_eq_some] at hv
          obtain ⟨hs, hv⟩ := hv
          simp only [Bool.or_eq_true, decide_eq_true_eq, not_or, ne_eq, Decidable.not_not] at hs
          obtain ⟨hs1, hs0⟩ := hs
          rw [Option.ite_none_right_eq_some] at hv
          obtain ⟨⟨h1, h2, h3, h4⟩, hv⟩ := hv
          simp only [AH.fst_new, Option.some.injEq, Prod.mk.injEq] at hv
          obtain ⟨rfl, rfl⟩ := hv
          have hzp : 0 < z.cells.size := by omega
          have wl := wrap_id (n := l) (by omega) (by omega)
          have wc := wrap_id (n := c) (by omega) (by omega)
          have hrz := range_zero z.cells c.toNat hzp
          rw [← hs1] at hrz
          have hLR : LR μ (repeatL z.cells.toList c.toNat) ((Array.range (c.toNat * info.size)).map (z.cells[· % z.cells.size]!)).toList := by
            rw [hs1, range_zero z.cells c.toNat hzp]
            exact LR.of_plain (repeatL_plain (okZero_cells hok) _)
          have := new_row H e hLR ((Array.range (c.toNat * info.size)).map (z.cells[· % z.cells.size]!)) (by rw [hLR.1]; exact List.take_of_length_le (Nat.le_refl _)) (some e) (fun _ q => by cases q; rfl)
          refine ⟨_, _, .slice (some ⟨w.heap.size, 0, none⟩) l.toNat c.toNat, ?_, ?_, this.1, this.2⟩
          · have hbig : ¬ ((281474976710656 : Int) < (info.bytes : Int) * c) := by
              have : (info.bytes : Int) * c ≤ 1000000 * 1000000 := Int.mul_le_mul (by omega) h3 (by omega) (by omega)
              omega
            have hmk : (Instr.makeSlice t (.int k l) (.int k2 c)).run P w = .ok (.slice (some ⟨w.heap.size, 0, none⟩) l.toNat c.toNat) (w.alloc (.cells ((Array.range (c.toNat * info.size)).map (z.cells[· % z.cells.size]!)) e)) := by
              have g1 : ¬ c < 0 := by omega
              have g2 : ¬ l < 0 := by omega
              have g3 : ¬ c < l := by omega
              by_cases hn : c.toNat * info.size = 0
              · have e0 : ∀ f : Nat → Value, Array.map f (Array.range 0) = #[] := fun f => by apply Array.ext'; rw [Array.toList_map, Array.toList_range]; rfl
                simp [Instr.makeSlice, run_under hd, asInt, asIntOf_run, run_info hf, wl, wc, hbig, g1, g2, g3, run_sizeOf hf, hn, e0, run_newRow]
              · simp [Instr.makeSlice, run_under hd, asInt, asIntOf_run, run_info hf, wl, wc, hbig, g1, g2, g3, run_sizeOf hf, hn, run_zeroV hf hzz, run_newRow]
            exact hmk
          · have : VR (μ.add h.next (w.heap.size, 0, ((Array.range (c.toNat * info.size)).map (z.cells[· % z.cells.size]!)).size)) (.slice (some ⟨h.next, 0, none⟩) l.toNat c.toNat) (.slice (some ⟨w.heap.size, 0 + 0, none⟩) l.toNat c.toNat) :=
              .slice (e := ((Array.range (c.toNat * info.size)).map (z.cells[· % z.cells.size]!)).size) (by simp [Mp.add])
            exact this
    · cases hv

theorem makeMap_ok (H : HR F w0 μ h w) (t : TypeId) :
    ∃ μ' w' v', (Instr.makeMap t none).run P w = .ok v' w' ∧ VR μ' (.map (some h.next)) v' ∧ HR F w0 μ' (h.new (.map [])).2 w' ∧ Ext μ μ' h (h.new (.map [])).2 := by
  have := H.new (.map []) (.map #[] 0) 0 (fun c l p ty e => by cases e) ⟨rfl, #[], 0, by show (w.heap.push _)[w.heap.size]? = _; rw [Array.getElem?_push, if_pos rfl], ⟨rfl, fun k x m hx => by simp at hx⟩, fun m hm => by simp at hm, by simp⟩
  exact ⟨_, _, .map (some w.heap.size), by simp only [Instr.makeMap, Sem.run_bind, run_newObj, Result.andThen_ok, Sem.run_pure]; rfl, .map (e := 0) (by simp [Mp.add]), this.1, this.2⟩

theorem lenOf_slice (a : Option Addr) (n c : Nat) : (Builtin.lenOf (.slice a n c)).run P w = .ok n w := rfl

theorem copy_ok (H : HR F w0 μ h w) {t tx ty : TypeId} {d x d' x' v : Value} {h' : AH} (hv : copyA P t d x h = some (v, h')) (hd' : VR μ d d') (hx : VR μ x x') :
    ∃ w', (Builtin.copy_ #[t, tx] ty #[d', x']).run P w = .ok v w' ∧ plainV v = true ∧ HR F w0 μ h' w' ∧ Ext μ μ h h' := by
  unfold copyA at hv
  cases hd : P.underlying t with
  | none => simp [hd] at hv
  | some dd =>
    rw [hd] at hv
    split at hv
    · rename_i e base dl dc hq
      cases hq
      have sl : ∀ {A : Option Addr} {n c : Nat} {y : Value}, VR μ (.slice A n c) y → ∃ A' c', y = .slice A' n c' ∧ (A = none → n = 0) ∧ (A = none → A' = none) := by
        intro A n c y hy
        cases hy with
        | plain hp => cases A <;> simp [plainV] at hp; exact ⟨_, _, rfl, fun _ => hp.1, fun h => h⟩
        | slice _ => exact ⟨_, _, rfl, (fun h => by cases h), (fun h => by cases h)⟩
        | sliceU _ _ _ _ => exact ⟨_, _, rfl, (fun h => by cases h), (fun h => by cases h)⟩
        | slice0 => exact ⟨_, _, rfl, (fun h => by cases h), (fun h => by cases h)⟩
      cases hf : P.info? e with
      | none => simp [hf] at hv
      | some info =>
        simp only [hf] at hv
        have none_case : ∀ (A' B' : Option Addr) (n c1 c2 : Nat), d' = .slice A' dl c1 → x' = .slice B' n c2 → Nat.min n dl = 0 → (Builtin.copy_ #[t, tx] ty #[d', x']).run P w = .ok (.int .i64 0) w := by
          rintro A' B' n c1 c2 rfl rfl hm
          cases B' <;> cases A' <;> simp [Builtin.copy_, run_under hd, lenOf_slice, run_sizeOf hf, hm, Builtin.firstCells, loadCells, loadCellsFrom, storeCells, goInt]
        split at hv
        · cases hv
          obtain ⟨A', c1, rfl, _, _⟩ := sl hd'
          obtain ⟨rfl, _, rfl⟩ := hx.sliceN_inv
          exact ⟨w, none_case _ _ _ _ _ rfl rfl (by simp), rfl, H, Ext.refl μ h⟩
        · rename_i i o sp n c
          split at hv
          · rw [Option.ite_none_right_eq_some] at hv
            obtain ⟨hdl, hv⟩ := hv
            cases hv
            obtain ⟨A', c1, rfl, _, _⟩ := sl hd'
            obtain ⟨B', c2, rfl, _, _⟩ := sl hx
            exact ⟨w, none_case _ _ _ _ _ rfl rfl (by rw [hdl]; exact Nat.min_zero n), rfl, H, Ext.refl μ h⟩
          · rename_i j q sq
            split at hv
            · rename_i hm
              cases hv
              obtain ⟨A', c1, rfl, _, _⟩ := sl hd'
              obtain ⟨B', c2, rfl, _, _⟩ := sl hx
              exact ⟨w, none_case _ _ _ _ _ rfl rfl hm, rfl, H, Ext.refl μ h⟩
            · rename_i hm
              split at hv
              · rename_i l hr
                rw [Option.ite_none_right_eq_some] at hv
                obtain ⟨hcv, hv⟩ := hv
                rw [Option.map_eq_some_iff] at hv
                obtain ⟨h1, hp, hv⟩ := hv
                cases hv
                have at_ : ∀ {i o n c : Nat} {s : Option Nat} {y : Value}, n ≠ 0 → VR μ (.slice (some ⟨i, o, s⟩) n c) y → ∃ b z e c', μ i = some (b, z, e) ∧ y = .slice (some ⟨b, z + o, none⟩) n c' := by
                  intro i o n c s y hn hy
                  cases s with
                  | none => obtain ⟨b, z, e, hm, rfl⟩ := hy.slice_inv; exact ⟨b, z, e, _, hm, rfl⟩
                  | some s => cases s with
                    | zero => obtain ⟨h1, _⟩ := hy.slice0_inv; exact absurd h1 hn
                    | succ s => obtain ⟨b, z, e, c', hm, _, _, _, rfl⟩ := hy.sliceU_inv; exact ⟨b, z, e, c', hm, rfl⟩
                obtain ⟨b, z, en, c', hmi, rfl⟩ := at_ (by omega) hx
                obtain ⟨b2, z2, en2, c2, hmj, rfl⟩ := at_ (by omega) hd'
                obtain ⟨l', hl, hld⟩ := load_cells (P := P) H hmi hr
                obtain ⟨w', r1, r2, r3⟩ := row_write (P := P) H hmj hp hl (fun v hv => List.all_eq_true.1 hcv v hv)
                refine ⟨w', ?_, rfl, r2, r3⟩
                have hmin : Nat.min n dl = min n dl := rfl
                simp [Builtin.copy_, run_under hd, lenOf_slice, run_sizeOf hf, hmin, Builtin.firstCells, hld, r1, goInt]
                omega
              · cases hv
        · cases hv
    · cases hv

theorem slice_addr {i o n c : Nat} {s : Option Nat} {y : Value} (hn : n ≠ 0) (hy : VR μ (.slice (some ⟨i, o, s⟩) n c) y) : ∃ b z e c', μ i = some (b, z, e) ∧ y = .slice (some ⟨b, z + o, none⟩) n c' := by
  cases s with
  | none => obtain ⟨b, z, e, hm, rfl⟩ := hy.slice_inv; exact ⟨b, z, e, _, hm, rfl⟩
  | some s => cases s with
    | zero => obtain ⟨h1, _⟩ := hy.slice0_inv; exact absurd h1 hn
    | succ s => obtain ⟨b, z, e, c', hm, _, _, _, rfl⟩ := hy.sliceU_inv; exact ⟨b, z, e, c', hm, rfl⟩

theorem clear_ok (H : HR F w0 μ h w) {t ty : TypeId} {x x' : Value} {h' : AH} (hv : clearA P t x h = some h') (hx : VR μ x x') :
    ∃ w', (Builtin.clear_ #[t] ty #[x']).run P w = .ok (.tuple #[]) w' ∧ HR F w0 μ h' w' ∧ Ext μ μ h h' := by
  unfold clearA at hv
  split at hv
  · rename_i e _ _ hd
    cases hv
    obtain ⟨_, _, rfl⟩ := hx.sliceN_inv
    exact ⟨w, by simp [Builtin.clear_, run_under hd], H, Ext.refl μ _⟩
  · rename_i e a n c hd
    cases hf : P.info? e with
    | none => simp [hf] at hv
    | some info =>
      simp only [hf] at hv
      split at hv
      · cases hv
      · rename_i z hz
        obtain ⟨hzz, hok⟩ := zeroOf_some hz
        split at hv
        · rename_i hn
          cases hv
          subst hn
          cases hx with
          | plain hp => simp [plainV] at hp
          | slice hm => exact ⟨w, by simp [Builtin.clear_, run_under hd], H, Ext.refl μ _⟩
          | sliceU _ _ _ _ => exact ⟨w, by simp [Builtin.clear_, run_under hd], H, Ext.refl μ _⟩
          | slice0 => exact ⟨w, by simp [Builtin.clear_, run_under hd], H, Ext.refl μ _⟩
        · rename_i hn
          split at hv
          · cases hv
          · rename_i hs
            obtain ⟨i, o, sp⟩ := a
            obtain ⟨b, zz, en, c', hm, rfl⟩ := slice_addr hn hx
            have hl : LR μ (repeatL z.cells.toList n) (Builtin.zeroCells z.cells n).toList := by
              unfold Builtin.zeroCells
              rw [range_zero z.cells n (by omega)]
              exact LR.of_plain (repeatL_plain (okZero_cells hok) _)
            obtain ⟨w', r1, r2, r3⟩ := row_write (P := P) H hm hv hl (fun v hv => by
              have := repeatL_plain (okZero_cells hok) _ v hv
              cases v <;> first | rfl | (simp [plainV] at this; done))
            refine ⟨w', ?_, r2, r3⟩
            obtain ⟨n, rfl⟩ : ∃ m, n = m + 1 := ⟨n - 1, by omega⟩
            simp [Builtin.clear_, run_under hd, run_zeroV hf hzz, r1]
  · cases hv

theorem arrayAt_ok {t : TypeId} {x x' v : Value} (hv : arrayAtA P t x = some v) (hx : VR μ x x') : ∃ v', (Instr.arrayAt t x').run P w = .ok v' w ∧ VR μ v v' := by
  unfold arrayAtA at hv
  split at hv
  · rename_i n e i o len c hd
    rw [Option.ite_none_left_eq_some] at hv
    obtain ⟨hc, hv⟩ := hv
    cases hv
    simp only [Bool.or_eq_true, decide_eq_true_eq, not_or, Nat.blt_eq] at hc
    obtain ⟨b, z, en, hm, rfl⟩ := hx.slice_inv
    refine ⟨_, ?_, .ptr hm⟩
    simp [Instr.arrayAt, run_under hd, if_neg hc.2]
  · rename_i n e i o s len c hd
    rw [Option.ite_none_left_eq_some] at hv
    obtain ⟨hc, hv⟩ := hv
    cases hv
    simp only [Bool.or_eq_true, decide_eq_true_eq, not_or, Nat.blt_eq] at hc
    obtain ⟨b, z, en, c', hm, rfl⟩ := slice_addr (s := some (s + 1)) (by omega) hx
    refine ⟨_, ?_, .ptr hm⟩
    simp [Instr.arrayAt, run_under hd, if_neg hc.2]
  · cases hv

/-! ### Text out of bytes -/
theorem bytes_load : ∀ (l l' : List Value) (bs : List UInt8) (acc : ByteArray) (b o : Nat), bytesOf l = some bs → LR μ l l' → (∀ j v, l'[j]? = some v → w.cell? ⟨b, o + j, none⟩ = some v) →
    (loadBytes ⟨b, o, none⟩ acc l.length).run P w = .ok ⟨acc.data ++ bs.toArray⟩ w
  | [], l', bs, acc, b, o, hb, hl, hc => by simp [bytesOf] at hb; subst hb; simp [loadBytes]
  | x :: l, [], bs, acc, b, o, hb, hl, hc => by have := hl.1; simp at this
  | x :: l, y :: l', bs, acc, b, o, hb, hl, hc => by
    have hxy := hl.head
    cases x <;> try (simp [bytesOf] at hb; done)
    case int k n =>
      cases k <;> try (simp [bytesOf] at hb; done)
      cases hxy.int_inv
      simp only [bytesOf, Option.map_eq_some_iff] at hb
      obtain ⟨bs', hb', rfl⟩ := hb
      have h0 := hc 0 _ rfl
      rw [Nat.add_zero] at h0
      have ih := bytes_load l l' bs' (acc.push n.toNat.toUInt8) b (o + 1) hb' hl.tail (fun j v hj => by rw [show o + 1 + j = o + (j + 1) by omega]; exact hc (j + 1) v (by simpa using hj))
      simp only [List.length_cons, loadBytes, Sem.run_bind, run_load, h0, Result.andThen_ok, add_at, ih]
      congr 2
      apply Array.ext'
      simp [ByteArray.push]

theorem lies_one {e : TypeId} {info : TypeInfo} (hi : P.info? e = some info) (hs : info.size = 1) (count off n : Nat) (hle : off + n ≤ count) : liesAt P P.depth e count off e n = true := by
  have hdep : ∃ D, P.depth = D + 1 := ⟨2 * (P.types.size + Made.depth) + 1, rfl⟩
  obtain ⟨D, hD⟩ := hdep
  have hc : P.cellsOf e = 1 := by rw [cellsOf_info hi, hs]
  rw [hD, liesAt, hD, rowAt, hc]
  simp [hle, sameLayout, Nat.mod_one]

theorem lies_first {e : TypeId} {info : TypeInfo} (hi : P.info? e = some info) (hs : info.size ≠ 0) (count : Nat) (hle : 1 ≤ count) : liesAt P P.depth e count 0 e 1 = true := by
  have hdep : ∃ D, P.depth = D + 1 := ⟨2 * (P.types.size + Made.depth) + 1, rfl⟩
  obtain ⟨D, hD⟩ := hdep
  have hc : P.cellsOf e = info.size := cellsOf_info hi
  rw [hD, liesAt, hD, rowAt, hc]
  simp [hle, hs, sameLayout]

theorem frozen_wrote (w : World) (b o n : Nat) (hn : n ≠ 0) {cs : Array Value} {el : TypeId} {fr : Nat × Nat} (hb : w.heap[b]? = some (.cells cs el fr)) :
    ∃ fr', Wrote w (w.freeze ⟨b, o, none⟩ n) b (.cells cs el fr') := by
  refine ⟨if fr.1 == fr.2 then (o, o + n) else (min fr.1 o, max fr.2 (o + n)), ?_⟩
  unfold World.freeze
  rw [if_neg hn]
  exact ⟨rfl, rfl, rfl, by simp, by simp [Array.getElem?_modify, hb], fun k hk => by simp only [Array.getElem?_modify]; rw [if_neg (by omega)]⟩

theorem unsafeString_some (pt it ty : TypeId) (a : Addr) (k : IntKind) (n : Int) : Builtin.unsafeString_ #[pt, it] ty #[.pointer (some a), .int k n] =
    (do
      let n ← asInt (.int k n)
      if n < 0 then runtimePanic (.error "unsafe.String: len out of range")
      if n > IntKind.i64.max then unsupported (.unsafePointer "String: a length above the largest int")
      if n = 0 then pure (.string .empty)
      else if ← variablesAt a (← elemOf pt) n.toNat then do
        let s ← loadBytes a .empty n.toNat
        freeze a n.toNat
        pure (.string s)
      else unsupported (.unsafePointer "String: not so many bytes at ptr")) := rfl
theorem unsafeString_none (pt it ty : TypeId) (k : IntKind) (n : Int) : Builtin.unsafeString_ #[pt, it] ty #[.pointer none, .int k n] =
    (do
      let n ← asInt (.int k n)
      if n < 0 then runtimePanic (.error "unsafe.String: len out of range")
      if n > IntKind.i64.max then unsupported (.unsafePointer "String: a length above the largest int")
      if n = 0 then pure (.string .empty)
      else runtimePanic (.error "unsafe.String: ptr is nil and len is not zero")) := rfl

theorem unsafeString_ok (H : HR F w0 μ h w) {pt tl ty : TypeId} {p n p' n' v : Value} {h' : AH} (hv : unsafeStringA P pt p n h = some (v, h')) (hp : VR μ p p') (hn : VR μ n n') :
    ∃ w', (Builtin.unsafeString_ #[pt, tl] ty #[p', n']).run P w = .ok v w' ∧ plainV v = true ∧ HR F w0 μ h' w' ∧ Ext μ μ h h' := by
  unfold unsafeStringA at hv
  have hmax : IntKind.i64.max = 9223372036854775807 := rfl
  split at hv
  · rename_i k n
    rw [Option.ite_none_right_eq_some] at hv
    obtain ⟨rfl, hv⟩ := hv
    cases hv
    cases hp.ptrN_inv; cases hn.int_inv
    exact ⟨w, by rw [unsafeString_none]; simp [asInt, asIntOf_run, hmax], rfl, H, Ext.refl μ h⟩
  · rename_i i o k n
    cases hn.int_inv
    obtain ⟨b, z, en, hm, rfl⟩ := hp.ptr_inv
    split at hv
    · rename_i h0
      subst h0
      cases hv
      exact ⟨w, by rw [unsafeString_some]; simp [asInt, asIntOf_run, hmax], rfl, H, Ext.refl μ h⟩
    · rename_i h0
      rw [Option.ite_none_left_eq_some] at hv
      obtain ⟨hneg, hv⟩ := hv
      split at hv
      · rename_i c par e u hg hd
        rw [Option.ite_none_right_eq_some] at hv
        obtain ⟨hc, hv⟩ := hv
        simp only [Bool.and_eq_true, decide_eq_true_eq] at hc
        obtain ⟨⟨⟨hle, rfl⟩, hinf⟩, hcell⟩ := hc
        obtain ⟨info, hinf⟩ := Option.isSome_iff_exists.1 hinf
        rw [cellsOf_info hinf] at hcell
        split at hv
        · rename_i bs hbs
          cases hv
          have hobj := H.obj i b z en hm
          rw [hg] at hobj
          obtain ⟨ws, el, fr, o1, o2, o3, o4, o5, o6⟩ := hobj
          obtain ⟨rfl, hz0⟩ := o6 u rfl
          have hr : rowAt? h i o n.toNat = some ((c.drop o).take n.toNat) := by unfold rowAt?; rw [hg]; simp [hle]
          obtain ⟨l', hl, hlen, hcl⟩ := row_read H hm hr
          have hld := bytes_load (P := P) _ l' bs .empty b (z + o) hbs hl hcl
          rw [hlen] at hld
          have hlies : liesAt P P.depth el (ws.size / P.cellsOf el) (z + o) el n.toNat = true := lies_one hinf hcell _ _ _ (by rw [cellsOf_info hinf, hcell, Nat.div_one]; omega)
          obtain ⟨fr', hW⟩ := frozen_wrote w b (z + o) n.toNat (by omega) o1
          refine ⟨_, ?_, rfl, H.wrote hm hW (by rw [hg]; rfl) par (fun c' l' p' t' e' => by rw [hg] at e'; cases e'; rfl) (.cells c false [] (some el)) (fun c' l' p' t' e' j hj => by cases e'; cases hj) ⟨ws, el, fr', hW.at_, o2, o3, o4, (fun hf => by cases hf), o6⟩,
            Ext.wrote H hm par _ (H.par i c true par (some el) (by rw [hm]; simp) hg)⟩
          have e1 : ByteArray.mk (ByteArray.empty.data ++ bs.toArray) = ⟨bs.toArray⟩ := by congr 1; apply Array.ext'; rw [Array.toList_append]; rfl
          rw [e1] at hld
          have hsh : w.shape? b = some (el, ws.size) := by simp [World.shape?, o1]
          have hn1 : ¬ n < 0 := by omega
          have hn2 : ¬ (9223372036854775807 < n) := by omega
          rw [unsafeString_some]
          simp [asInt, asIntOf_run, hmax, h0, hn1, hn2, elemOf, run_under hd, variablesAt, hsh, hlies, hld]
        · cases hv
      · cases hv
  · cases hv

end
end Go.R

/- Each operation of the abstract machine is one of the model's: maps. -/
namespace Go.R
set_option linter.unusedVariables false
set_option linter.unusedSimpArgs false
open Go Go.RowKit

section
variable {P : Program} {F : Nat → Prop} {w0 : World} {μ : Mp} {h : AH} {w : World}

theorem scal_plain {d : Option TypeDesc} {v : Value} (hs : scalOf d v = true) : plainV v = true := by
  unfold scalOf at hs; split at hs <;> first | rfl | cases hs

theorem key_eq {t : TypeId} {k k' : Value} (hk : keyOk P t k = true) (h : VR μ k k') : k' = k := by
  unfold keyOk at hk
  rw [Bool.or_eq_true] at hk
  rcases hk with hk | hk
  · exact plain_eq (scal_plain hk) h
  · unfold arrKey at hk
    split at hk
    · rename_i cs hq
      simp only [Bool.and_eq_true, List.all_eq_true] at hk
      obtain ⟨a', rfl, hl⟩ := h.agg_inv
      have := LR.plain_eq (fun v hv => scal_plain (hk.2 v hv)) hl
      rw [show a' = cs from Array.ext' this]
    · cases hk

/-! ### Equality of keys -/
theorem equal_scal {t : TypeId} {x y : Value} {b : Bool} (hs : scalOf (P.underlying t) x = true) (he : flatEq x y = some b) (D : Nat) : (Op.equalIn (D + 1) t x y).run P w = .ok b w := by
  unfold scalOf at hs
  rw [Op.equalIn]
  split at hs
  · rename_i k k' n hd
    simp only [decide_eq_true_eq] at hs; subst hs
    cases y <;> try (simp [flatEq] at he; done)
    simp only [flatEq] at he
    split at he
    · rename_i hk; subst hk; cases he
      simp [run_under hd]
    · cases he
  · rename_i s hd
    cases y <;> try (simp [flatEq] at he; done)
    simp [flatEq] at he; subst he
    simp [run_under hd]
  · rename_i s hd
    cases y <;> try (simp [flatEq] at he; done)
    simp [flatEq] at he; subst he
    simp [run_under hd]
  · cases hs

theorem listEq_at : ∀ (l m : List Value) (b : Bool), listEq l m = some b → l.length = m.length ∧ (∀ (k : Nat) (x y : Value), l[k]? = some x → m[k]? = some y → ∃ c, flatEq x y = some c ∧ (b = true → c = true)) ∧
    (b = false → ∃ (k : Nat) (x y : Value), l[k]? = some x ∧ m[k]? = some y ∧ flatEq x y = some false)
  | [], [], b, h => by simp [listEq] at h; subst h; simp
  | [], _ :: _, b, h => by simp [listEq] at h
  | _ :: _, [], b, h => by simp [listEq] at h
  | x :: l, y :: m, b, h => by
    simp only [listEq] at h
    cases h1 : flatEq x y with
    | none => simp [h1] at h
    | some c =>
      cases h2 : listEq l m with
      | none => simp [h1, h2] at h
      | some d =>
        simp only [h1, h2, Option.some.injEq] at h
        obtain ⟨i1, i2, i3⟩ := listEq_at l m d h2
        refine ⟨by simp [i1], fun k u v hu hv => ?_, fun hb => ?_⟩
        · cases k with
          | zero => simp at hu hv; subst hu; subst hv; exact ⟨c, h1, fun e => by rw [e] at h; simp at h; exact h.1⟩
          | succ k =>
            obtain ⟨c', a1, a2⟩ := i2 k u v (by simpa using hu) (by simpa using hv)
            exact ⟨c', a1, fun e => a2 (by rw [e] at h; simp at h; exact h.2)⟩
        · cases c with
          | false => exact ⟨0, x, y, rfl, rfl, h1⟩
          | true =>
            have hd : d = false := by rw [← h] at hb; simpa using hb
            obtain ⟨k, u, v, a1, a2, a3⟩ := i3 hd
            exact ⟨k + 1, u, v, by simpa using a1, by simpa using a2, a3⟩

theorem part_scal {e : TypeId} {x : Value} (hs : scalOf (P.underlying e) x = true) {cs : Array Value} {k : Nat} (hk : cs[k]? = some x) : (part e cs k).run P w = .ok x w := by
  have : ∃ d, P.underlying e = some d ∧ isAggD d = false := by
    unfold scalOf at hs
    split at hs
    · rename_i hd; exact ⟨_, hd, rfl⟩
    · rename_i hd; exact ⟨_, hd, rfl⟩
    · rename_i hd; exact ⟨_, hd, rfl⟩
    · cases hs
  obtain ⟨d, hd, ha⟩ := this
  simp [part, run_isAgg hd, ha, hk]

theorem flat_scal {d : Option TypeDesc} {x y : Value} {c : Bool} (hs : scalOf d x = true) (he : flatEq x y = some c) : scalOf d y = true := by
  cases x <;> cases y <;> simp [flatEq] at he
  · unfold scalOf at hs ⊢; split at hs <;> simp_all
  · unfold scalOf at hs ⊢; split at hs <;> simp_all
  · unfold scalOf at hs ⊢; split at hs <;> simp_all

theorem eqItems_scal {e : TypeId} {xs ys : Array Value} (D : Nat) : ∀ (is : List Nat), (∀ k ∈ is, ∃ x y c, xs[k]? = some x ∧ ys[k]? = some y ∧ scalOf (P.underlying e) x = true ∧ flatEq x y = some c) →
    ∃ b, (Op.eqItems (D + 1) e 1 xs ys is).run P w = .ok b w ∧ (b = false ↔ ∃ k x y, k ∈ is ∧ xs[k]? = some x ∧ ys[k]? = some y ∧ flatEq x y = some false)
  | [], _ => ⟨true, by simp [Op.eqItems], by simp⟩
  | s :: is, hk => by
    obtain ⟨x, y, c, h1, h2, h3, h4⟩ := hk s (by simp)
    have e1 : (part e xs s).run P w = .ok x w := part_scal h3 h1
    have e2 : (part e ys s).run P w = .ok y w := part_scal (flat_scal h3 h4) h2
    have e3 := equal_scal (w := w) h3 h4 D
    obtain ⟨b, hb1, hb2⟩ := eqItems_scal D is (fun k hkm => hk k (by simp [hkm]))
    cases c with
    | false => exact ⟨false, by simp [Op.eqItems, e1, e2, e3], ⟨fun _ => ⟨s, x, y, by simp, h1, h2, h4⟩, fun _ => rfl⟩⟩
    | true =>
      refine ⟨b, by simp [Op.eqItems, e1, e2, e3, hb1], hb2.trans ⟨fun ⟨k, u, v, a1, a2⟩ => ⟨k, u, v, by simp [a1], a2⟩, fun ⟨k, u, v, a1, a2, a3, a4⟩ => ?_⟩⟩
      rcases List.mem_cons.1 a1 with rfl | a1
      · rw [h1] at a2; rw [h2] at a3; cases a2; cases a3; rw [h4] at a4; cases a4
      · exact ⟨k, u, v, a1, a2, a3, a4⟩

/-- Equality of two keys of one map. -/
theorem equal_key {t : TypeId} {x y : Value} {b : Bool} (hk : keyOk P t x = true) (he : keyEq x y = some b) : (Op.equal t x y).run P w = .ok b w := by
  rw [equal_unfold]
  unfold keyOk at hk
  rw [Bool.or_eq_true] at hk
  rcases hk with hk | hk
  · have hf : flatEq x y = some b := by
      cases x <;> first | exact he | (simp [scalOf] at hk)
    exact equal_scal hk hf 9999
  unfold arrKey at hk
  split at hk
  · rename_i n e cs hd
    simp only [Bool.and_eq_true, decide_eq_true_eq, List.all_eq_true] at hk
    obtain ⟨⟨hn, hinf⟩, hall⟩ := hk
    split at hinf
    · rename_i info hi
      simp only [decide_eq_true_eq] at hinf
      cases y <;> try (simp [keyEq, flatEq] at he; done)
      case agg ys =>
        simp only [keyEq] at he
        rw [Option.ite_none_right_eq_some] at he
        obtain ⟨hsz, he⟩ := he
        rw [run_equalIn_array w 9999 cs ys hd hi, cellsOf_info hi, hinf]
        obtain ⟨i1, i2, i3⟩ := listEq_at _ _ _ he
        obtain ⟨b', q1, q2⟩ := eqItems_scal (P := P) (w := w) (e := e) (xs := cs) (ys := ys) 9998 (List.range n) (fun k hkm => by
          have hkn : k < n := List.mem_range.1 hkm
          have a1 : cs[k]? = some (cs[k]'(by omega)) := Array.getElem?_eq_getElem (by omega)
          have a2 : ys[k]? = some (ys[k]'(by omega)) := Array.getElem?_eq_getElem (by omega)
          obtain ⟨c, hc, _⟩ := i2 k _ _ (by rw [Array.getElem?_toList]; exact a1) (by rw [Array.getElem?_toList]; exact a2)
          exact ⟨_, _, c, a1, a2, hall _ (by simp), hc⟩)
        rw [q1]
        congr 1
        cases b with
        | true =>
          cases b' with
          | true => rfl
          | false =>
            obtain ⟨k, x, y, _, a1, a2, a3⟩ := q2.1 rfl
            obtain ⟨c, c1, c2⟩ := i2 k x y (by rw [Array.getElem?_toList]; exact a1) (by rw [Array.getElem?_toList]; exact a2)
            rw [a3] at c1; cases c1
            exact absurd (c2 rfl) (by simp)
        | false =>
          obtain ⟨k, x, y, a1, a2, a3⟩ := i3 rfl
          rw [Array.getElem?_toList] at a1 a2
          have hkn : k < n := by rw [← hn]; exact (Array.getElem?_eq_some_iff.1 a1).1
          rw [q2.2 ⟨k, x, y, List.mem_range.2 hkn, a1, a2, a3⟩]
    · cases hinf
  · cases hk

theorem checkKey_ok {t : TypeId} {k : Value} (em : Bool) (hk : keyOk P t k = true) (n : Nat) : (Instr.checkKey em (n + 2) t k).run P w = .ok () w := by
  have scal : ∀ (n : Nat) {t : TypeId} {k : Value}, scalOf (P.underlying t) k = true → (Instr.checkKey em (n + 1) t k).run P w = .ok () w := by
    intro n t k hs
    unfold scalOf at hs
    rw [Instr.checkKey]
    split at hs <;> first | (rename_i hd; simp [run_under hd]; done) | cases hs
  unfold keyOk at hk
  rw [Bool.or_eq_true] at hk
  rcases hk with hk | hk
  · exact scal (n + 1) hk
  unfold arrKey at hk
  split at hk
  · rename_i n' e cs hd
    simp only [Bool.and_eq_true, decide_eq_true_eq, List.all_eq_true] at hk
    obtain ⟨⟨hn, hinf⟩, hall⟩ := hk
    split at hinf
    · rename_i info hi
      simp only [decide_eq_true_eq] at hinf
      rw [Instr.checkKey]
      simp only [Sem.run_bind, run_under hd, Result.andThen_ok, run_sizeOf hi, hinf]
      simp only [Std.Legacy.Range.forIn_eq_forIn_range', Std.Legacy.Range.size, Nat.sub_zero, Nat.add_one_sub_one, Nat.div_one]
      have hmem : ∀ j ∈ List.range' 0 n', j < cs.size := fun j hj => by have := List.mem_range'_1.1 hj; omega
      generalize List.range' 0 n' = is at hmem
      induction is with
      | nil => simp
      | cons j is ih =>
        have hj := hmem j (by simp)
        have hp : (part e cs (j * 1)).run P w = .ok cs[j] w := by
          rw [Nat.mul_one]
          exact part_scal (hall _ (by simp)) (Array.getElem?_eq_getElem hj)
        have hc := scal n (hall cs[j] (by simp))
        have := ih (fun k hk => hmem k (by simp [hk]))
        simp only [List.forIn_cons, Sem.run_bind, run_sizeOf hi, hinf, hp, hc, Result.andThen_ok, Sem.run_pure] at this ⊢
        exact this
    · cases hinf
  · cases hk

/-! ### Entries -/
/-- The search that the model makes, with the keys' own equality. -/
def lookM (k : Value) : List MapEntry → Nat → Option (Option (Nat × Value))
  | [], _ => some none
  | e :: es, i => match keyEq k e.key with
    | some true => some (some (i, e.val))
    | some false => lookM k es (i + 1)
    | none => none

theorem findNow_scal {d : TypeDesc} {k : Value} (hs : scalOf (some d) k = true) : ∀ (es : List MapEntry) (i : Nat) (r : Option (Nat × Value)), lookM k es i = some r → Instr.findNow d k es i = some r
  | [], i, r, h => by simp [lookM] at h; subst h; simp [Instr.findNow]
  | e :: es, i, r, h => by
    have hke : keyEq k e.key = flatEq k e.key := by cases k <;> first | rfl | (simp [scalOf] at hs)
    have hsn : ∀ b, flatEq k e.key = some b → Instr.sameNow d k e.key = some b := by
      intro b hb
      unfold scalOf at hs
      split at hs
      · rename_i k1 k2 n hq
        cases hq
        simp only [decide_eq_true_eq] at hs; subst hs
        cases hy : e.key <;> rw [hy] at hb <;> try (simp [flatEq] at hb; done)
        simp only [flatEq] at hb
        exact hb
      · rename_i hq; cases hq
        cases hy : e.key <;> rw [hy] at hb <;> try (simp [flatEq] at hb; done)
        exact hb
      · rename_i hq; cases hq
        cases hy : e.key <;> rw [hy] at hb <;> try (simp [flatEq] at hb; done)
        exact hb
      · cases hs
    simp only [lookM, hke] at h
    rw [Instr.findNow]
    cases hf : flatEq k e.key with
    | none => simp [hf] at h
    | some b =>
      rw [hsn b hf]
      cases b with
      | true => simpa [hf] using h
      | false =>
        simp only [hf] at h
        exact findNow_scal hs es (i + 1) r h

theorem findAsking_key {t : TypeId} {k : Value} (hk : keyOk P t k = true) : ∀ (es : List MapEntry) (i : Nat) (r : Option (Nat × Value)), lookM k es i = some r → (Instr.findAsking t k es i).run P w = .ok r w
  | [], i, r, h => by simp [lookM] at h; subst h; simp [Instr.findAsking]
  | e :: es, i, r, h => by
    simp only [lookM] at h
    cases hf : keyEq k e.key with
    | none => simp [hf] at h
    | some b =>
      have := equal_key (w := w) hk hf
      cases b with
      | true => simp only [hf, Option.some.injEq] at h; subst h; simp [Instr.findAsking, this]
      | false =>
        simp only [hf] at h
        simp [Instr.findAsking, this, findAsking_key hk es (i + 1) r h]

theorem findKey_ok {t : TypeId} {k : Value} (hk : keyOk P t k = true) (es : List MapEntry) (r : Option (Nat × Value)) (h : lookM k es 0 = some r) : (Instr.findKey t k es).run P w = .ok r w := by
  have hk' := hk
  unfold keyOk at hk'
  rw [Bool.or_eq_true] at hk'
  rcases hk' with hs | hs
  · cases hd : P.underlying t with
    | none => rw [hd] at hs; cases k <;> simp [scalOf] at hs
    | some d =>
      rw [hd] at hs
      simp [Instr.findKey, run_under hd, findNow_scal hs es 0 r h]
  · unfold arrKey at hs
    split at hs
    · rename_i n e cs hd
      cases es with
      | nil => simp [lookM] at h; subst h; simp [Instr.findKey, run_under hd, Instr.findNow]
      | cons x es =>
        simp [Instr.findKey, run_under hd, Instr.findNow, Instr.sameNow]
        exact findAsking_key hk _ 0 r h
    · cases hs

theorem look_rel {k : Value} : ∀ (es : List (Value × Value)) (ms : List MapEntry) (i : Nat) (r : Option Value), lookA k es = some r → ER μ es ms →
    ∃ r', lookM k ms i = some r' ∧ (r = none → r' = none) ∧ (∀ v, r = some v → ∃ j v', r' = some (i + j, v') ∧ VR μ v v' ∧ ∃ m, ms[j]? = some m ∧ keyEq k m.key = some true)
  | [], [], i, r, h, _ => by simp [lookA] at h; subst h; exact ⟨none, rfl, fun _ => rfl, fun v h => by cases h⟩
  | [], m :: ms, i, r, h, he => by have := he.1; simp at this
  | e :: es, [], i, r, h, he => by have := he.1; simp at this
  | e :: es, m :: ms, i, r, h, he => by
    obtain ⟨h1, h2⟩ := he.2 0 e m rfl rfl
    have ht : ER μ es ms := ⟨by have := he.1; simpa using this, fun k x y a b => he.2 (k + 1) x y (by simpa using a) (by simpa using b)⟩
    simp only [lookA] at h
    simp only [lookM, h1]
    cases hf : keyEq k e.1 with
    | none => simp [hf] at h
    | some b =>
      cases b with
      | true =>
        simp only [hf, Option.some.injEq] at h
        subst h
        exact ⟨_, rfl, (fun h => by cases h), fun v hv => by cases hv; exact ⟨0, m.val, rfl, h2, m, rfl, by rw [h1]; exact hf⟩⟩
      | false =>
        simp only [hf] at h
        obtain ⟨r', a1, a2, a3⟩ := look_rel es ms (i + 1) r h ht
        refine ⟨r', a1, a2, fun v hv => ?_⟩
        obtain ⟨j, v', b1, b2, m', b3, b4⟩ := a3 v hv
        exact ⟨j + 1, v', by rw [b1]; congr 2; omega, b2, m', by simpa using b3, b4⟩

theorem run_getObj {r : Nat} {ms : Array MapEntry} {cl : Nat} (hb : w.heap[r]? = some (.map ms cl)) : (getObj r).run P w = .ok (.map ms cl) w := by
  simp [getObj, Sem.run, hb]

theorem map_at (H : HR F w0 μ h w) {i b e : Nat} {es : List (Value × Value)} (hm : μ i = some (b, 0, e)) (hg : h.get i = .map es) :
    ∃ (ms : Array MapEntry) (cl : Nat), w.heap[b]? = some (.map ms cl) ∧ ER μ es ms.toList ∧ Stamps ms.toList cl := by
  have := H.obj i b 0 e hm
  rw [hg] at this
  exact this.2

theorem entries_ok (H : HR F w0 μ h w) {m m' : Value} {es : List (Value × Value)} (he : entriesA h m = some es) (hm : VR μ m m') :
    ∃ ms : Array MapEntry, ER μ es ms.toList ∧ ((m' = .map none ∧ ms = #[]) ∨ ∃ b cl, m' = .map (some b) ∧ w.heap[b]? = some (.map ms cl)) := by
  unfold entriesA at he
  split at he
  · cases he; cases hm.mapN_inv
    exact ⟨#[], ⟨rfl, fun k x m h => by simp at h⟩, .inl ⟨rfl, rfl⟩⟩
  · rename_i r
    obtain ⟨b, e, hmi, rfl⟩ := hm.map_inv
    split at he
    · rename_i es' hg
      cases he
      obtain ⟨ms, cl, hb, her, _⟩ := map_at H hmi hg
      exact ⟨ms, her, .inr ⟨b, cl, rfl, hb⟩⟩
    · cases he
  · cases he

theorem lookup_ok (H : HR F w0 μ h w) {t : TypeId} {m k m' k' v : Value} {ok : Bool} (hv : lookupA P t m k ok h = some v) (hm : VR μ m m') (hk : VR μ k k') :
    ∃ v', (Instr.lookup t m' k' ok).run P w = .ok v' w ∧ VR μ v v' := by
  unfold lookupA at hv
  split at hv
  · rename_i kt et hd
    rw [Option.ite_none_left_eq_some] at hv
    obtain ⟨hko, hv⟩ := hv
    simp only [Bool.not_eq_true', Bool.not_eq_false] at hko
    have := key_eq hko hk
    subst this
    split at hv
    · rename_i z es hz hes
      obtain ⟨hz1, hz2, _⟩ := zeroA_ok (w := w) (μ := μ) hz
      obtain ⟨ms, her, hget⟩ := entries_ok H hes hm
      have hck : ∀ em, (Instr.checkKey em 10000 kt k').run P w = .ok () w := fun em => checkKey_ok em hko 9998
      split at hv
      · cases hv
      · rename_i hl
        cases hv
        obtain ⟨r', a1, a2, a3⟩ := look_rel es ms.toList 0 none hl her
        have := a2 rfl; subst this
        have hf := findKey_ok (w := w) hko ms.toList none a1
        refine ⟨(if ok then .tuple #[z, .bool false] else z), by
          rcases hget with ⟨rfl, rfl⟩ | ⟨b, cl, rfl, hb⟩
          · have hf' : (Instr.findKey kt k' []).run P w = .ok none w := hf
            simp [Instr.lookup, run_under hd, hck, hf', hz1]
          · simp [Instr.lookup, run_under hd, run_getObj hb, hck, hf, hz1], ?_⟩
        cases ok
        · exact hz2
        · exact VR.tuple_of (LR.cons hz2 (LR.cons (.plain rfl) LR.nil))
      · rename_i u hl
        cases hv
        obtain ⟨r', a1, a2, a3⟩ := look_rel es ms.toList 0 (some u) hl her
        obtain ⟨j, u', rfl, hu, _⟩ := a3 u rfl
        have hf := findKey_ok (w := w) hko ms.toList _ a1
        refine ⟨(if ok then .tuple #[u', .bool true] else u'), by
          rcases hget with ⟨rfl, rfl⟩ | ⟨b, cl, rfl, hb⟩
          · have hf' : (Instr.findKey kt k' []).run P w = _ := hf
            simp [Instr.lookup, run_under hd, hck, hf']
          · simp [Instr.lookup, run_under hd, run_getObj hb, hck, hf], ?_⟩
        cases ok
        · exact hu
        · exact VR.tuple_of (LR.cons hu (LR.cons (.plain rfl) LR.nil))
    · cases hv
  · cases hv

/-! ### Storing into a map, deleting -/
theorem bytes_beq (a b : ByteArray) : (a == b) = true ↔ a = b := by
  cases a; cases b
  show (ByteArray.beq _ _ = true ↔ _)
  simp [ByteArray.beq]

theorem sameBits_scal {x y : Value} (hs : flatEq x y = some true) (n : Nat) : Instr.sameBits n x y = true := by
  cases x <;> cases y <;> simp [flatEq] at hs
  · simp [Instr.sameBits, hs]
  · obtain ⟨rfl, h⟩ := hs; simp [Instr.sameBits, h]
  · rw [bytes_beq] at hs; subst hs; simp [Instr.sameBits, bytes_beq]

theorem sameBits_key {x y : Value} (hs : keyEq x y = some true) : Instr.sameBits 10000 y x = true := by
  have symm : ∀ {a b : Value}, flatEq a b = some true → flatEq b a = some true := by
    intro a b h
    cases a <;> cases b <;> simp [flatEq] at h ⊢
    · exact h.symm
    · obtain ⟨rfl, h⟩ := h; exact ⟨rfl, h.symm⟩
    · rw [bytes_beq] at h ⊢; exact h.symm
  cases x with
  | agg xs =>
    cases y <;> try (simp [keyEq, flatEq] at hs; done)
    case agg ys =>
      simp only [keyEq] at hs
      rw [Option.ite_none_right_eq_some] at hs
      obtain ⟨hsz, hl⟩ := hs
      obtain ⟨i1, i2, _⟩ := listEq_at _ _ _ hl
      show Instr.sameBits (9999 + 1) (.agg ys) (.agg xs) = true
      simp only [Instr.sameBits, Bool.and_eq_true, beq_iff_eq, List.all_eq_true]
      refine ⟨hsz.symm, ?_⟩
      rintro ⟨u, v⟩ hm
      obtain ⟨k, hk⟩ := List.getElem?_of_mem hm
      rw [List.getElem?_zip_eq_some] at hk
      obtain ⟨c, c1, c2⟩ := i2 k v u hk.2 hk.1
      rw [c2 rfl] at c1
      exact sameBits_scal (symm c1) 9999
  | _ => exact sameBits_scal (symm (by simpa [keyEq] using hs)) 10000

theorem keyStays {x y : Value} (hs : keyEq x y = some true) : (Instr.keyThatStays y x).run P w = .ok x w := by
  simp [Instr.keyThatStays, sameBits_key hs]

/-- What a store does to the entries. -/
theorem upd_rel {k v v' : Value} (hv : VR μ v v') (cl : Nat) : ∀ (es : List (Value × Value)) (ms : List MapEntry) (i : Nat) (es' : List (Value × Value)), updA k v es = some es' → ER μ es ms →
    (lookM k ms i = some none ∧ ER μ es' (ms ++ [{ key := k, val := v', born := cl }])) ∨
    (∃ j u m, lookM k ms i = some (some (i + j, u)) ∧ ms[j]? = some m ∧ keyEq k m.key = some true ∧ ER μ es' (ms.set j { m with key := k, val := v' }))
  | [], [], i, es', h, _ => by
    simp [updA] at h; subst h
    refine .inl ⟨rfl, rfl, fun j x m a b => ?_⟩
    cases j with
    | zero => simp at a b; subst a; subst b; exact ⟨rfl, hv⟩
    | succ j => simp at a
  | [], m :: ms, i, es', h, he => by have := he.1; simp at this
  | e :: es, [], i, es', h, he => by have := he.1; simp at this
  | e :: es, m :: ms, i, es', h, he => by
    obtain ⟨h1, h2⟩ := he.2 0 e m rfl rfl
    have ht : ER μ es ms := ⟨by have := he.1; simpa using this, fun k x y a b => he.2 (k + 1) x y (by simpa using a) (by simpa using b)⟩
    have cons : ∀ {x : Value × Value} {y : MapEntry} {a : List (Value × Value)} {b : List MapEntry}, y.key = x.1 → VR μ x.2 y.val → ER μ a b → ER μ (x :: a) (y :: b) := by
      intro x y a b q1 q2 q3
      refine ⟨by simp [q3.1], fun j u w p1 p2 => ?_⟩
      cases j with
      | zero => simp at p1 p2; subst p1; subst p2; exact ⟨q1, q2⟩
      | succ j => exact q3.2 j u w (by simpa using p1) (by simpa using p2)
    simp only [updA] at h
    simp only [lookM, h1]
    cases hf : keyEq k e.1 with
    | none => simp [hf] at h
    | some b =>
      cases b with
      | true =>
        simp only [hf, Option.some.injEq] at h
        subst h
        exact .inr ⟨0, m.val, m, rfl, rfl, by rw [h1]; exact hf, by simpa using cons rfl hv ht⟩
      | false =>
        simp only [hf, Option.map_eq_some_iff] at h
        obtain ⟨es2, hes, rfl⟩ := h
        rcases upd_rel hv cl es ms (i + 1) es2 hes ht with ⟨a1, a2⟩ | ⟨j, u, m', a1, a2, a3, a4⟩
        · exact .inl ⟨a1, cons h1 h2 a2⟩
        · exact .inr ⟨j + 1, u, m', by rw [a1, show i + 1 + j = i + (j + 1) by omega], by simpa using a2, a3, by simpa using cons h1 h2 a4⟩

theorem del_rel {k : Value} : ∀ (es : List (Value × Value)) (ms : List MapEntry) (i : Nat) (es' : List (Value × Value)), delA k es = some es' → ER μ es ms →
    (lookM k ms i = some none ∧ ER μ es' ms) ∨ (∃ j u, lookM k ms i = some (some (i + j, u)) ∧ j < ms.length ∧ ER μ es' (ms.eraseIdx j))
  | [], [], i, es', h, he => by simp [delA] at h; subst h; exact .inl ⟨rfl, he⟩
  | [], m :: ms, i, es', h, he => by have := he.1; simp at this
  | e :: es, [], i, es', h, he => by have := he.1; simp at this
  | e :: es, m :: ms, i, es', h, he => by
    obtain ⟨h1, h2⟩ := he.2 0 e m rfl rfl
    have ht : ER μ es ms := ⟨by have := he.1; simpa using this, fun k x y a b => he.2 (k + 1) x y (by simpa using a) (by simpa using b)⟩
    have cons : ∀ {a : List (Value × Value)} {b : List MapEntry}, ER μ a b → ER μ (e :: a) (m :: b) := by
      intro a b q3
      refine ⟨by simp [q3.1], fun j u w p1 p2 => ?_⟩
      cases j with
      | zero => simp at p1 p2; subst p1; subst p2; exact ⟨h1, h2⟩
      | succ j => exact q3.2 j u w (by simpa using p1) (by simpa using p2)
    simp only [delA] at h
    simp only [lookM, h1]
    cases hf : keyEq k e.1 with
    | none => simp [hf] at h
    | some b =>
      cases b with
      | true =>
        simp only [hf, Option.some.injEq] at h
        subst h
        exact .inr ⟨0, m.val, rfl, by simp, by simpa using ht⟩
      | false =>
        simp only [hf, Option.map_eq_some_iff] at h
        obtain ⟨es2, hes, rfl⟩ := h
        rcases del_rel es ms (i + 1) es2 hes ht with ⟨a1, a2⟩ | ⟨j, u, a1, a2, a3⟩
        · exact .inl ⟨a1, cons a2⟩
        · exact .inr ⟨j + 1, u, by rw [a1, show i + 1 + j = i + (j + 1) by omega], by simpa using a2, by simpa using cons a3⟩

theorem wrote_obj (w : World) (b : Nat) (o o' : Obj) (hb : w.heap[b]? = some o) : Wrote w { w with heap := w.heap.setIfInBounds b o' } b o' := by
  have hlt := (Array.getElem?_eq_some_iff.1 hb).1
  exact ⟨rfl, rfl, rfl, by simp, by simp [hlt], fun k hk => by simp only [Array.getElem?_setIfInBounds]; rw [if_neg (by omega)]⟩

theorem run_setObj {r : Nat} {ms : Array MapEntry} {cl : Nat} (hb : w.heap[r]? = some (.map ms cl)) (o : Obj) : (setObj r o).run P w = .ok () { w with heap := w.heap.setIfInBounds r o } := by
  simp [setObj, Sem.run, hb]

theorem put_map (H : HR F w0 μ h w) {r b e : Nat} {es es' : List (Value × Value)} (hm : μ r = some (b, 0, e)) (hg : h.get r = .map es) {ms : Array MapEntry} {cl : Nat} (hb : w.heap[b]? = some (.map ms cl)) {ms' : Array MapEntry} {cl' : Nat} (he : ER μ es' ms'.toList) (hst : Stamps ms'.toList cl') :
    HR F w0 μ (h.put r (.map es')) { w with heap := w.heap.setIfInBounds b (.map ms' cl') } ∧ Ext μ μ h (h.put r (.map es')) := by
  have hW := wrote_obj w b _ (.map ms' cl') hb
  exact ⟨H.wrote hm hW (by rw [hg]; rfl) [] (fun c l p t q => by rw [hg] at q; cases q) (.map es') (fun c l p t q => by cases q) ⟨rfl, ms', cl', hW.at_, he, hst⟩,
    Ext.wrote H hm [] _ (fun j hj => by cases hj)⟩

theorem mapUpdate_ok (H : HR F w0 μ h w) {t : TypeId} {m k x m' k' x' : Value} {h' : AH} (hv : mapUpdateA P t m k x h = some h') (hm : VR μ m m') (hk : VR μ k k') (hx : VR μ x x') :
    ∃ w', (Instr.mapUpdate t m' k' x').run P w = .ok () w' ∧ HR F w0 μ h' w' ∧ Ext μ μ h h' := by
  unfold mapUpdateA at hv
  split at hv
  · rename_i kt et r hd
    rw [Option.ite_none_left_eq_some] at hv
    obtain ⟨hko, hv⟩ := hv
    simp only [Bool.not_eq_true', Bool.not_eq_false] at hko
    have := key_eq hko hk
    subst this
    obtain ⟨b, e, hmi, rfl⟩ := hm.map_inv
    split at hv
    · rename_i es hg
      rw [Option.map_eq_some_iff] at hv
      obtain ⟨es', hes, rfl⟩ := hv
      obtain ⟨ms, cl, hb, her, hst⟩ := map_at H hmi hg
      have hck : ∀ em, (Instr.checkKey em 10000 kt k').run P w = .ok () w := fun em => checkKey_ok em hko 9998
      rcases upd_rel hx cl es ms.toList 0 es' hes her with ⟨a1, a2⟩ | ⟨j, u, y, a1, a2, a3, a4⟩
      · have hf := findKey_ok (w := w) hko ms.toList _ a1
        obtain ⟨q1, q2⟩ := put_map H hmi hg hb (ms' := ms.push { key := k', val := x', born := cl }) (cl' := cl + 1) (by simpa using a2) (by simpa using hst.push k' x')
        refine ⟨_, ?_, q1, q2⟩
        simp [Instr.mapUpdate, run_under hd, run_getObj hb, hck, hf, run_setObj hb]
      · have hf := findKey_ok (w := w) hko ms.toList _ a1
        have hj : j < ms.size := by
          rw [Array.getElem?_toList] at a2; exact (Array.getElem?_eq_some_iff.1 a2).1
        have hmj : ms[j]? = some y := by rw [Array.getElem?_toList] at a2; exact a2
        have hmod : (ms.modify j fun e => { e with key := k', val := x' }).toList = ms.toList.set j { y with key := k', val := x' } := by
          apply List.ext_getElem?
          intro i
          rw [Array.getElem?_toList, Array.getElem?_modify, List.getElem?_set]
          by_cases e1 : j = i
          · subst e1
            rw [if_pos rfl, if_pos rfl, if_pos (by simpa using hj), hmj]; rfl
          · simp [e1]
        obtain ⟨q1, q2⟩ := put_map H hmi hg hb (ms' := ms.modify j fun e => { e with key := k', val := x' }) (cl' := cl) (by rw [hmod]; exact a4) (by
          rw [hmod]
          refine hst.of_map ?_
          have : (ms.toList.set j { y with key := k', val := x' }).map (·.born) = ms.toList.map (·.born) := by
            apply List.ext_getElem?
            intro i
            rw [List.getElem?_map, List.getElem?_map, List.getElem?_set]
            by_cases e1 : j = i
            · subst e1
              rw [if_pos rfl, if_pos (by simpa using hj), a2]; rfl
            · simp [e1]
          rw [this]
          exact List.Sublist.refl _)
        refine ⟨_, ?_, q1, q2⟩
        rw [Nat.zero_add] at hf
        simp [Instr.mapUpdate, run_under hd, run_getObj hb, hck, hf, hmj, keyStays a3, run_setObj hb]
    · cases hv
  · cases hv

theorem delete_ok (H : HR F w0 μ h w) {t tk ty : TypeId} {m k m' k' : Value} {h' : AH} (hv : deleteA P t m k h = some h') (hm : VR μ m m') (hk : VR μ k k') :
    ∃ w', (Builtin.delete_ #[t, tk] ty #[m', k']).run P w = .ok (.tuple #[]) w' ∧ HR F w0 μ h' w' ∧ Ext μ μ h h' := by
  unfold deleteA at hv
  split at hv
  · rename_i kt et r hd
    rw [Option.ite_none_left_eq_some] at hv
    obtain ⟨hko, hv⟩ := hv
    simp only [Bool.not_eq_true', Bool.not_eq_false] at hko
    have := key_eq hko hk
    subst this
    obtain ⟨b, e, hmi, rfl⟩ := hm.map_inv
    split at hv
    · rename_i es hg
      rw [Option.map_eq_some_iff] at hv
      obtain ⟨es', hes, rfl⟩ := hv
      obtain ⟨ms, cl, hb, her, hst⟩ := map_at H hmi hg
      have hck : ∀ em, (Instr.checkKey em 10000 kt k').run P w = .ok () w := fun em => checkKey_ok em hko 9998
      rcases del_rel es ms.toList 0 es' hes her with ⟨a1, a2⟩ | ⟨j, u, a1, a2, a3⟩
      · have hf := findKey_ok (w := w) hko ms.toList _ a1
        obtain ⟨q1, q2⟩ := put_map H hmi hg hb (ms' := ms) (cl' := cl) a2 hst
        refine ⟨_, ?_, q1, q2⟩
        simp [Builtin.delete_, run_under hd, run_getObj hb, hck, hf, run_setObj hb]
      · have hf := findKey_ok (w := w) hko ms.toList _ a1
        have hj : j < ms.size := by simpa using a2
        obtain ⟨q1, q2⟩ := put_map H hmi hg hb (ms' := ms.eraseIdxIfInBounds j) (cl' := cl) (by
          have : (ms.eraseIdxIfInBounds j).toList = ms.toList.eraseIdx j := by simp [Array.eraseIdxIfInBounds, hj]
          rw [this]; exact a3) (by
          have : (ms.eraseIdxIfInBounds j).toList = ms.toList.eraseIdx j := by simp [Array.eraseIdxIfInBounds, hj]
          rw [this]; exact hst.of_map ((List.eraseIdx_sublist _ _).map _))
        refine ⟨_, ?_, q1, q2⟩
        rw [Nat.zero_add] at hf
        simp [Builtin.delete_, run_under hd, run_getObj hb, hck, hf, run_setObj hb]
    · cases hv
  · cases hv

end
end Go.R
