/- Each operation of the abstract machine is one of the model's: reads, writes, numbers, strings, addresses. -/
import Derived.Test.YtbcjmmbmeebfgaaDoorRBase
namespace Go.R
set_option linter.unusedVariables false
set_option linter.unusedSimpArgs false
open Go Go.RowKit

section
variable {P : Program} {F : Nat → Prop} {w0 : World} {μ : Mp} {h : AH} {w : World}

/-! ### The tables -/
theorem run_info {t : TypeId} {i : TypeInfo} (hi : P.info? t = some i) : (typeInfo t).run P w = .ok i w := by simp [typeInfo, hi]
theorem run_under {t : TypeId} {d : TypeDesc} (hd : P.underlying t = some d) : (underlying t).run P w = .ok d w := by simp [underlying, hd]
theorem run_sizeOf {t : TypeId} {i : TypeInfo} (hi : P.info? t = some i) : (sizeOf t).run P w = .ok i.size w := by simp [sizeOf, run_info hi]
theorem run_zeroV {t : TypeId} {i : TypeInfo} {z : Value} (hi : P.info? t = some i) (hz : i.zero = some z) : (zeroValue t).run P w = .ok z w := by simp [zeroValue, run_info hi, hz]
theorem run_isAgg {t : TypeId} {d : TypeDesc} (hd : P.underlying t = some d) : (isAgg t).run P w = .ok (isAggD d) w := by
  simp only [isAgg, Sem.run_bind, run_under hd, Result.andThen_ok]
  cases d <;> rfl
theorem run_newRow {e : TypeId} {c : Array Value} : (newRow e c).run P w = .ok ⟨w.heap.size, 0, none⟩ (w.alloc (.cells c e)) := rfl
theorem cellsOf_info {t : TypeId} {i : TypeInfo} (hi : P.info? t = some i) : P.cellsOf t = i.size := by simp [Program.cellsOf, hi]

@[simp] theorem add_at (b o n : Nat) : (⟨b, o, none⟩ : Addr).add n = ⟨b, o + n, none⟩ := by
  unfold Addr.add; split <;> simp_all

/-! ### Reading -/
theorem row_read (H : HR F w0 μ h w) {i b z e o n : Nat} {l : List Value} (hi : μ i = some (b, z, e)) (hr : rowAt? h i o n = some l) :
    ∃ l', LR μ l l' ∧ l.length = n ∧ ∀ j v, l'[j]? = some v → w.cell? ⟨b, z + o + j, none⟩ = some v := by
  have ho := H.obj i b z e hi
  unfold rowAt? at hr
  rcases hg : h.get i with ⟨c, live, par, ty⟩ | es | ⟨s, pos⟩ | tag | _ <;> rw [hg] at hr <;> simp at hr
  obtain ⟨hle, rfl⟩ := hr
  rw [hg] at ho
  obtain ⟨cs, el, fr, h1, h2, h3, h4, _⟩ := ho
  have hlen : ((c.drop o).take n).length = n := by simp; omega
  have hlen' : ((cs.toList.drop (z + o)).take n).length = n := by simp; omega
  refine ⟨(cs.toList.drop (z + o)).take n, ⟨hlen.trans hlen'.symm, fun k v v' x y => ?_⟩, hlen, fun j v x => ?_⟩
  · have hk : k < n := by
      rcases Nat.lt_or_ge k n with a | a
      · exact a
      · rw [List.getElem?_eq_none (by omega)] at x; cases x
    rw [List.getElem?_take_of_lt hk, List.getElem?_drop] at x y
    obtain ⟨u, hu, hv⟩ := h4 (o + k) v x
    rw [Array.getElem?_toList, Nat.add_assoc] at y
    rw [hu] at y; cases y; exact hv
  · have hk : j < n := by
      rcases Nat.lt_or_ge j n with a | a
      · exact a
      · rw [List.getElem?_eq_none (by omega)] at x; cases x
    rw [List.getElem?_take_of_lt hk, List.getElem?_drop, Array.getElem?_toList] at x
    simp [World.cell?, h1, x]

theorem load_cells (H : HR F w0 μ h w) {i b z e o n : Nat} {l : List Value} (hi : μ i = some (b, z, e)) (hr : rowAt? h i o n = some l) :
    ∃ l', LR μ l l' ∧ (loadCells ⟨b, z + o, none⟩ n).run P w = .ok l'.toArray w := by
  obtain ⟨l', hl, hn, hc⟩ := row_read H hi hr
  refine ⟨l', hl, ?_⟩
  have := run_loadCells_list (P := P) w ⟨b, z + o, none⟩ l' (fun j v hj => by rw [add_at]; exact hc j v hj)
  rwa [← hl.1, hn] at this

theorem load_ok (H : HR F w0 μ h w) {t : TypeId} {i o : Nat} {v x : Value} (hl : loadA P t i o h = some v) (hx : VR μ (.pointer (some ⟨i, o, none⟩)) x) :
    ∃ v', (Instr.loadAt t x).run P w = .ok v' w ∧ VR μ v v' := by
  obtain ⟨b, z, e, hi, rfl⟩ := hx.ptr_inv
  unfold loadA at hl
  cases hf : P.info? t with
  | none => simp [hf] at hl
  | some info =>
    cases hd : P.underlying t with
    | none => simp [hf, hd] at hl
    | some d =>
      simp only [hf, hd] at hl
      cases hb : isAggD d with
      | true =>
        simp only [hb, if_true, Option.map_eq_some_iff] at hl
        obtain ⟨l, hr, rfl⟩ := hl
        obtain ⟨l', hL, hrun⟩ := load_cells (P := P) H hi hr
        refine ⟨.agg l'.toArray, ?_, VR.agg_of (by simpa using hL)⟩
        simp [Instr.loadAt, Instr.sureAddr, loadVar, run_isAgg hd, hb, run_sizeOf hf, hrun]
      | false =>
        simp only [hb, Bool.false_eq_true, if_false] at hl
        split at hl
        · rename_i u hr
          cases hl
          obtain ⟨l', hL, hn, hc⟩ := row_read H hi hr
          obtain ⟨v', hv', hvr⟩ := hL.at_ (k := 0) rfl
          refine ⟨v', ?_, hvr⟩
          have hcell := hc 0 v' hv'
          simp only [Nat.add_zero] at hcell
          simp [Instr.loadAt, Instr.sureAddr, loadVar, run_isAgg hd, hb, hcell]
        · cases hl

/-! ### Writing -/
def writeA (cs : Array Value) (p : Nat) : List Value → Array Value
  | [] => cs
  | v :: l => writeA (cs.setIfInBounds p v) (p + 1) l

theorem writeA_size (l : List Value) : ∀ (cs : Array Value) (p : Nat), (writeA cs p l).size = cs.size := by
  induction l with
  | nil => intro cs p; rfl
  | cons v l ih => intro cs p; simp [writeA, ih]

theorem writeA_get (l : List Value) : ∀ (cs : Array Value) (p k : Nat), p + l.length ≤ cs.size →
    (writeA cs p l)[k]? = if p ≤ k ∧ k < p + l.length then l[k - p]? else cs[k]? := by
  induction l with
  | nil => intro cs p k _; simp only [writeA, List.length_nil]; rw [if_neg (by omega)]
  | cons v l ih =>
    intro cs p k hp
    simp only [List.length_cons] at hp ⊢
    rw [writeA, ih _ _ _ (by simp; omega), Array.getElem?_setIfInBounds]
    by_cases h1 : k = p
    · subst h1
      rw [if_neg (by omega), if_pos rfl, if_pos (by omega), if_pos (by omega)]
      simp
    · by_cases h2 : p ≤ k ∧ k < p + (l.length + 1)
      · rw [if_pos (by omega), if_pos h2]
        obtain ⟨m, rfl⟩ : ∃ m, k = p + 1 + m := ⟨k - (p + 1), by omega⟩
        rw [show p + 1 + m - (p + 1) = m by omega, show p + 1 + m - p = m + 1 by omega]
        simp
      · rw [if_neg (by omega), if_neg (by omega), if_neg h2]

theorem wrote_setCell (w : World) (b o : Nat) (v : Value) (cs : Array Value) (el : TypeId) (fr : Nat × Nat) (hb : w.heap[b]? = some (.cells cs el fr)) :
    Wrote w (w.setCell ⟨b, o, none⟩ v) b (.cells (cs.setIfInBounds o v) el fr) where
  os := rfl
  tape := rfl
  output := rfl
  size := by simp
  at_ := by simp [World.setCell, Array.getElem?_modify, hb]
  other := fun k hk => Below.heap_setCell _ _ _ _ hk

theorem Wrote.refl (w : World) (b : Nat) (o : Obj) (hb : w.heap[b]? = some o) : Wrote w w b o := ⟨rfl, rfl, rfl, rfl, hb, fun _ _ => rfl⟩
theorem Wrote.trans {w w1 w2 : World} {b : Nat} {o o' : Obj} (h : Wrote w w1 b o) (k : Wrote w1 w2 b o') : Wrote w w2 b o' :=
  ⟨k.os.trans h.os, k.tape.trans h.tape, k.output.trans h.output, k.size.trans h.size, k.at_, fun j hj => (k.other j hj).trans (h.other j hj)⟩

theorem run_storeCells (l : List Value) : ∀ (w : World) (b o i : Nat) (cs : Array Value) (el : TypeId) (fr : Nat × Nat), w.heap[b]? = some (.cells cs el fr) → o + i + l.length ≤ cs.size →
    (∀ k, o + i ≤ k → k < o + i + l.length → ¬ (fr.1 ≤ k ∧ k < fr.2)) → (∀ v ∈ l, cellV v = true) →
    ∃ w', (storeCells ⟨b, o, none⟩ l i).run P w = .ok () w' ∧ Wrote w w' b (.cells (writeA cs (o + i) l) el fr) := by
  induction l with
  | nil => intro w b o i cs el fr hb _ _ _; exact ⟨w, by simp [storeCells], Wrote.refl w b _ hb⟩
  | cons v l ih =>
    intro w b o i cs el fr hb hle hfr hcv
    simp only [List.length_cons] at hle hfr
    have hv : cellV v = true := hcv v (by simp)
    have hW := wrote_setCell w b (o + i) v cs el fr hb
    obtain ⟨w', hrun, hW'⟩ := ih (w.setCell ⟨b, o + i, none⟩ v) b o (i + 1) (cs.setIfInBounds (o + i) v) el fr hW.at_ (by simp; omega)
      (fun k h1 h2 => hfr k (by omega) (by omega)) (fun u hu => hcv u (by simp [hu]))
    refine ⟨w', ?_, hW.trans hW'⟩
    have hcell : ∃ u, w.cell? ⟨b, o + i, none⟩ = some u := by
      refine ⟨cs[o + i]'(by omega), ?_⟩
      simp [World.cell?, hb, Array.getElem?_eq_getElem (show o + i < cs.size by omega)]
    obtain ⟨u, hu⟩ := hcell
    have hfz : w.frozen? ⟨b, o + i, none⟩ = false := by
      have := hfr (o + i) (by omega) (by omega)
      simp only [World.frozen?, hb]
      by_cases h1 : fr.1 ≤ o + i
      · by_cases h2 : o + i < fr.2
        · exact absurd ⟨h1, h2⟩ this
        · simp [h2]
      · simp [h1]
    simp only [storeCells, Sem.run_bind, add_at]
    rw [run_store P w _ v .plain (by rw [cellV_one]; exact hv)]
    simp [hu, hfz, hrun]

/-- A row of cells, written in an object that is live. -/
theorem row_write (H : HR F w0 μ h w) {i b z e o : Nat} {vs vs' : List Value} {h' : AH} (hi : μ i = some (b, z, e)) (hp : putRow? h i o vs = some h')
    (hvs : LR μ vs vs') (hcv : ∀ v ∈ vs, cellV v = true) :
    ∃ w', (storeCells ⟨b, z + o, none⟩ vs').run P w = .ok () w' ∧ HR F w0 μ h' w' ∧ Ext μ μ h h' := by
  have ho := H.obj i b z e hi
  unfold putRow? at hp
  rcases hg : h.get i with ⟨c, live, par, ty⟩ | es | ⟨s, pos⟩ | tag | _ <;> rw [hg] at hp <;> try (simp at hp; done)
  cases live with
  | false => simp at hp
  | true =>
    simp only [Option.ite_none_right_eq_some, Option.some.injEq] at hp
    obtain ⟨hle, rfl⟩ := hp
    rw [hg] at ho
    obtain ⟨cs, el, fr, h1, h2, h3, h4, h5, h6⟩ := ho
    have hlen := hvs.1
    have hcv' : ∀ v ∈ vs', cellV v = true := by
      intro v hv
      obtain ⟨k, hk⟩ := List.getElem?_of_mem hv
      obtain ⟨u, hu, hr⟩ := hvs.back hk
      rw [hr.cellV]; exact hcv u (List.mem_of_getElem? hu)
    obtain ⟨w', hrun, hW⟩ := run_storeCells (P := P) vs' w b (z + o) 0 cs el fr h1 (by omega) (fun k a1 a2 => h5 rfl k (by omega) (by omega)) hcv'
    refine ⟨w', hrun, ?_, ?_⟩
    · refine H.wrote hi hW (by rw [hg]; rfl) par (fun c' l' p' t' e' => by rw [hg] at e'; cases e'; rfl) _ (fun c' l' p' t' e' j hj => by cases e'; cases hj) ?_
      refine ⟨_, el, fr, hW.at_, by simp [splice]; omega, by rw [writeA_size]; exact h3, fun k v hk => ?_, fun _ => h5 rfl, h6⟩
      rw [Nat.add_zero, writeA_get _ _ _ _ (by omega)]
      have hsl : (splice c o vs)[k]? = if o ≤ k ∧ k < o + vs.length then vs[k - o]? else c[k]? := by
        unfold splice
        by_cases a1 : k < o
        · rw [List.getElem?_append_left (by simp; omega), List.getElem?_append_left (by simp; omega), List.getElem?_take_of_lt a1, if_neg (by omega)]
        · by_cases a2 : k < o + vs.length
          · rw [List.getElem?_append_left (by simp; omega), List.getElem?_append_right (by simp; omega), if_pos (by omega)]
            simp [Nat.min_eq_left (show o ≤ c.length by omega)]
          · rw [List.getElem?_append_right (by simp; omega), if_neg (by omega), List.getElem?_drop]
            congr 1
            simp [Nat.min_eq_left (show o ≤ c.length by omega)]
            omega
      rw [hsl] at hk
      by_cases hc : o ≤ k ∧ k < o + vs.length
      · rw [if_pos hc] at hk
        rw [if_pos (by omega)]
        obtain ⟨v', x, y⟩ := hvs.at_ hk
        exact ⟨v', by rw [show z + k - (z + o) = k - o by omega]; exact x, y⟩
      · rw [if_neg hc] at hk
        rw [if_neg (by omega)]
        exact h4 k v hk
    · exact Ext.wrote H hi par _ (fun j hj => H.par i c true par ty (by rw [hi]; simp) hg j hj)

theorem store_ok (H : HR F w0 μ h w) {t : TypeId} {i o : Nat} {v v' x : Value} {h' : AH} (hs : storeA P t i o v h = some h') (hx : VR μ (.pointer (some ⟨i, o, none⟩)) x) (hv : VR μ v v') :
    ∃ w', (Instr.storeAt t x v').run P w = .ok () w' ∧ HR F w0 μ h' w' ∧ Ext μ μ h h' := by
  obtain ⟨b, z, e, hi, rfl⟩ := hx.ptr_inv
  unfold storeA at hs
  cases hf : P.info? t with
  | none => simp [hf] at hs
  | some info =>
    simp only [hf, Bool.and_eq_true, decide_eq_true_eq, List.all_eq_true, Option.ite_none_right_eq_some] at hs
    obtain ⟨⟨hsz, hcv⟩, hp⟩ := hs
    obtain ⟨w', hrun, hH, hE⟩ := row_write (P := P) H hi hp hv.cells hcv
    refine ⟨w', ?_, hH, hE⟩
    have hsz' : v'.cells.size = info.size := by have := hv.cells.1; simp at this; omega
    simp [Instr.storeAt, Instr.sureAddr, storeVar, run_sizeOf hf, hsz', hrun]

/-! ### New rows -/
theorem new_row_par (H : HR F w0 μ h w) (el : TypeId) {c c' : List Value} (hc : LR μ c c') (cs : Array Value) (hcs : cs.toList.take c.length = c') (ty : Option TypeId) (hty : ∀ t, ty = some t → el = t)
    (par : List Nat) (hpar : ∀ j, j ∈ par → μ j ≠ none) :
    HR F w0 (μ.add h.next (w.heap.size, 0, cs.size)) (h.new (.cells c true par ty)).2 (w.alloc (.cells cs el)) ∧
    Ext μ (μ.add h.next (w.heap.size, 0, cs.size)) h (h.new (.cells c true par ty)).2 := by
  have hl : c.length ≤ cs.size := by
    have := congrArg List.length hcs
    rw [← hc.1] at this; simp at this; omega
  refine H.new _ _ _ (fun c0 l0 p0 t0 e0 j hj => by cases e0; exact hpar j hj) ⟨cs, el, (0, 0), by show (w.heap.push _)[w.heap.size]? = _; rw [Array.getElem?_push, if_pos rfl], by omega, Nat.le_refl _, fun k v hk => ?_, fun _ k _ _ h0 => absurd h0.2 (Nat.not_lt_zero k), fun t ht => ⟨hty t ht, rfl⟩⟩
  have hs := Mp.add_sub (p := (w.heap.size, 0, cs.size)) (H.none_next (Nat.le_refl h.next))
  obtain ⟨v', x, y⟩ := hc.at_ hk
  refine ⟨v', ?_, y.mono hs⟩
  rw [← hcs] at x
  have hk' : k < c.length := by
    rcases Nat.lt_or_ge k c.length with a | a
    · exact a
    · simp [List.getElem?_eq_none a] at hk
  rw [List.getElem?_take_of_lt hk', Array.getElem?_toList] at x
  simpa using x

theorem new_row (H : HR F w0 μ h w) (el : TypeId) {c c' : List Value} (hc : LR μ c c') (cs : Array Value) (hcs : cs.toList.take c.length = c') (ty : Option TypeId) (hty : ∀ t, ty = some t → el = t) :
    HR F w0 (μ.add h.next (w.heap.size, 0, cs.size)) (h.new (.cells c true [] ty)).2 (w.alloc (.cells cs el)) ∧
    Ext μ (μ.add h.next (w.heap.size, 0, cs.size)) h (h.new (.cells c true [] ty)).2 :=
  new_row_par H el hc cs hcs ty hty [] (fun _ h => by cases h)

theorem VR.new_ptr {i b e : Nat} : VR (μ.add i (b, 0, e)) (.pointer (some ⟨i, 0, none⟩)) (.pointer (some ⟨b, 0, none⟩)) := by
  have : VR (μ.add i (b, 0, e)) (.pointer (some ⟨i, 0, none⟩)) (.pointer (some ⟨b, 0 + 0, none⟩)) := .ptr (e := e) (by simp [Mp.add])
  exact this

theorem newVar_ok (H : HR F w0 μ h w) (t : TypeId) {v v' r : Value} {h' : AH} (hv : VR μ v v') (hn : newRowA t v.cells.toList h = some (r, h')) :
    ∃ μ' w' a, (newVar t v').run P w = .ok a w' ∧ VR μ' r (.pointer (some a)) ∧ HR F w0 μ' h' w' ∧ Ext μ μ' h h' := by
  unfold newRowA at hn
  cases hn
  have := new_row H t hv.cells v'.cells (by rw [hv.cells.1]; exact List.take_of_length_le (Nat.le_refl _)) (some t) (fun _ e => by cases e; rfl)
  exact ⟨_, _, _, by simp only [newVar, newRow, Sem.run_bind, run_newObj, Result.andThen_ok, Sem.run_pure]; rfl, VR.new_ptr, this.1, this.2⟩

end
end Go.R
