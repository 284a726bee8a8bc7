/- Each operation of the abstract machine is one of the model's: parts, aggregates, new rows, lengths. -/
import Derived.Laws.OwnMore
import Derived.Test.YtbcjmmbmeebfgaaDoorROps3
namespace Go.R
set_option linter.unusedVariables false
set_option linter.unusedSimpArgs false
open Go Go.RowKit

section
variable {P : Program} {F : Nat → Prop} {w0 : World} {μ : Mp} {h : AH} {w : World}

theorem indexAddr_ok {t : TypeId} {x ix x' ix' v : Value} (hv : indexAddrA P t x ix = some v) (hx : VR μ x x') (hi : VR μ ix ix') : ∃ v', (Instr.indexAt t x' ix').run P w = .ok v' w ∧ VR μ v v' := by
  unfold indexAddrA at hv
  split at hv
  · rename_i k i
    cases hi.int_inv
    cases hd : P.underlying t with
    | none => simp [hd] at hv
    | some d =>
      rw [hd] at hv
      split at hv
      · rename_i n el j o hq
        cases hq
        obtain ⟨b, z, e, hm, rfl⟩ := hx.ptr_inv
        cases hinf : P.info? el with
        | none => simp [hinf] at hv
        | some inf =>
          simp only [hinf, Option.ite_none_right_eq_some] at hv
          obtain ⟨hb, hv⟩ := hv
          cases hv
          refine ⟨.pointer (some ⟨b, z + (o + i.toNat * inf.size), none⟩), ?_, .ptr hm⟩
          simp [Instr.indexAt, asIntOf_run, run_under hd, Instr.sureAddr, hb, run_sizeOf hinf, Nat.add_assoc]
      · rename_i el a n c hq
        cases hq
        obtain ⟨j, o, sp⟩ := a
        cases hinf : P.info? el with
        | none => simp [hinf] at hv
        | some inf =>
          simp only [hinf, Option.ite_none_right_eq_some] at hv
          obtain ⟨hb, hv⟩ := hv
          cases hv
          have key : ∀ (b z e c' : Nat), μ j = some (b, z, e) → ∃ v', (Instr.indexAt t (.slice (some ⟨b, z + o, none⟩) n c') (.int k i)).run P w = .ok v' w ∧ VR μ (.pointer (some ⟨j, o + i.toNat * inf.size, none⟩)) v' := by
            intro b z e c' hm
            refine ⟨.pointer (some ⟨b, z + (o + i.toNat * inf.size), none⟩), ?_, .ptr hm⟩
            simp [Instr.indexAt, asIntOf_run, run_under hd, hb, run_sizeOf hinf, Nat.add_assoc]
          cases sp with
          | none => obtain ⟨b, z, e, hm, rfl⟩ := hx.slice_inv; exact key b z e _ hm
          | some s =>
            cases s with
            | zero => obtain ⟨rfl, _⟩ := hx.slice0_inv; exfalso; have := hb.1; have := hb.2; simp at this; omega
            | succ s => obtain ⟨b, z, e, c', hm, _, _, _, rfl⟩ := hx.sliceU_inv; exact key b z e _ hm
      · cases hv
  · cases hv

theorem LR.extract {a a' : Array Value} (h : LR μ a.toList a'.toList) (i j : Nat) : LR μ (a.extract i j).toList (a'.extract i j).toList := by
  rw [Array.toList_extract, Array.toList_extract, List.extract_eq_take_drop, List.extract_eq_take_drop]
  exact (h.drop i).take (j - i)

theorem part_ok {t : TypeId} {cs cs' : Array Value} {off : Nat} {v : Value} (hv : partA P t cs off = some v) (hc : LR μ cs.toList cs'.toList) : ∃ v', (part t cs' off).run P w = .ok v' w ∧ VR μ v v' := by
  unfold partA at hv
  cases hf : P.info? t with
  | none => simp [hf] at hv
  | some info =>
    cases hd : P.underlying t with
    | none => simp [hf, hd] at hv
    | some d =>
      simp only [hf, hd] at hv
      cases hb : isAggD d with
      | true =>
        rw [hb, if_pos rfl] at hv
        cases hv
        exact ⟨.agg (cs'.extract off (off + info.size)), by simp [part, run_isAgg hd, hb, run_sizeOf hf], VR.agg_of (hc.extract _ _)⟩
      | false =>
        rw [hb, if_neg (by simp)] at hv
        obtain ⟨v', h1, h2⟩ := hc.at_ (k := off) (by simpa using hv)
        rw [Array.getElem?_toList] at h1
        exact ⟨v', by simp [part, run_isAgg hd, hb, h1], h2⟩

theorem index_ok {t : TypeId} {x ix x' ix' v : Value} (hv : indexA P t x ix = some v) (hx : VR μ x x') (hi : VR μ ix ix') : ∃ v', (Instr.index t x' ix').run P w = .ok v' w ∧ VR μ v v' := by
  unfold indexA at hv
  split at hv
  · rename_i k i
    cases hi.int_inv
    cases hd : P.underlying t with
    | none => simp [hd] at hv
    | some d =>
      rw [hd] at hv
      split at hv
      · rename_i n el cs hq
        cases hq
        obtain ⟨cs', rfl, hl⟩ := hx.agg_inv
        cases hinf : P.info? el with
        | none => simp [hinf] at hv
        | some inf =>
          simp only [hinf, Option.ite_none_right_eq_some] at hv
          obtain ⟨hb, hv⟩ := hv
          obtain ⟨v', h1, h2⟩ := part_ok (w := w) hv hl
          exact ⟨v', by simp [Instr.index, asIntOf_run, run_under hd, hb, run_sizeOf hinf, h1], h2⟩
      · rename_i s hq
        cases hq
        cases hx.string_inv
        rw [Option.ite_none_right_eq_some] at hv
        obtain ⟨h0, hv⟩ := hv
        split at hv
        · rename_i b hb
          cases hv
          exact ⟨_, by simp [Instr.index, asIntOf_run, run_under hd, h0, hb], .plain rfl⟩
        · cases hv
      · cases hv
  · cases hv

theorem fieldAddr_ok {t : TypeId} {x x' v : Value} {f : Nat} (hv : fieldAddrA P t x f = some v) (hx : VR μ x x') : ∃ v', (Instr.fieldAt t x' f).run P w = .ok v' w ∧ VR μ v v' := by
  unfold fieldAddrA at hv
  cases hd : P.underlying t with
  | none => simp [hd] at hv
  | some d =>
    rw [hd] at hv
    split at hv
    · rename_i fs j o hq
      cases hq
      obtain ⟨b, z, e, hm, rfl⟩ := hx.ptr_inv
      split at hv
      · cases hv
      · rename_i fd hfd
        split at hv
        · cases hv
        · rename_i inf hinf
          rw [Option.ite_none_left_eq_some] at hv
          obtain ⟨hs, hv⟩ := hv
          cases hv
          refine ⟨.pointer (some ⟨b, z + (o + fd.offset), none⟩), ?_, .ptr hm⟩
          simp [Instr.fieldAt, run_under hd, hfd, Instr.sureAddr, fieldPlace, run_sizeOf hinf, hs, Nat.add_assoc]
    · cases hv

theorem field_ok {t : TypeId} {x x' v : Value} {f : Nat} (hv : fieldA P t x f = some v) (hx : VR μ x x') : ∃ v', (Instr.field t x' f).run P w = .ok v' w ∧ VR μ v v' := by
  unfold fieldA at hv
  cases hd : P.underlying t with
  | none => simp [hd] at hv
  | some d =>
    rw [hd] at hv
    split at hv
    · rename_i fs cs hq
      cases hq
      obtain ⟨cs', rfl, hl⟩ := hx.agg_inv
      split at hv
      · cases hv
      · rename_i fd hfd
        obtain ⟨v', h1, h2⟩ := part_ok (w := w) hv hl
        exact ⟨v', by simp [Instr.field, run_under hd, hfd, asAgg, h1], h2⟩
    · cases hv

/-! ### Zero values, filled rows -/
theorem okZero_VR {z : Value} (hz : okZero z = true) : VR μ z z := by
  unfold okZero at hz
  split at hz
  · rename_i c
    exact VR.agg_of (LR.of_plain (fun v hv => List.all_eq_true.1 hz v hv))
  · exact .plain hz
theorem okZero_cells {z : Value} (hz : okZero z = true) : ∀ v ∈ z.cells.toList, plainV v = true := by
  unfold okZero at hz
  split at hz
  · exact fun v hv => List.all_eq_true.1 hz v hv
  · rename_i hne
    cases z <;> simp_all [Value.cells, plainV]
theorem zeroOf_some {info : TypeInfo} {z : Value} (hz : zeroOf info = some z) : info.zero = some z ∧ okZero z = true := by
  unfold zeroOf at hz
  split at hz
  · rename_i y hy
    rw [Option.ite_none_right_eq_some] at hz
    obtain ⟨h1, h2⟩ := hz
    cases h2
    exact ⟨hy, h1⟩
  · cases hz
theorem zeroA_ok {t : TypeId} {z : Value} (hz : zeroA P t = some z) : (zeroValue t).run P w = .ok z w ∧ VR μ z z ∧ ∃ i, P.info? t = some i ∧ i.zero = some z ∧ okZero z = true := by
  unfold zeroA at hz
  cases hi : P.info? t with
  | none => simp [hi] at hz
  | some i =>
    simp only [hi] at hz
    obtain ⟨h1, h2⟩ := zeroOf_some hz
    exact ⟨run_zeroV hi h1, okZero_VR h2, i, rfl, h1, h2⟩

theorem fold_LR (v v' : List Value) (hv : LR μ v v') : ∀ (k off : Nat) (c c' : Array Value), LR μ c.toList c'.toList →
    LR μ ((v.zipIdx k).foldl (fun cs x => cs.setIfInBounds (off + x.2) x.1) c).toList ((v'.zipIdx k).foldl (fun cs x => cs.setIfInBounds (off + x.2) x.1) c').toList := by
  induction v generalizing v' with
  | nil =>
    intro k off c c' hc
    cases v' with
    | nil => exact hc
    | cons _ _ => have := hv.1; simp at this
  | cons a v ih =>
    intro k off c c' hc
    cases v' with
    | nil => have := hv.1; simp at this
    | cons a' v' =>
      simp only [List.zipIdx_cons, List.foldl_cons]
      refine ih v' hv.tail (k + 1) off _ _ ⟨by have := hc.1; simpa using this, fun j u u' x y => ?_⟩
      rw [Array.getElem?_toList, Array.getElem?_setIfInBounds] at x y
      have hs : c.size = c'.size := by simpa using hc.1
      by_cases e : off + k = j
      · rw [if_pos e] at x y
        rw [← hs] at y
        split at x
        · rename_i hlt
          rw [if_pos hlt] at y
          cases x; cases y; exact hv.head
        · cases x
      · rw [if_neg e] at x y
        exact hc.2 j u u' (by simpa using x) (by simpa using y)

/-- Parts, place by place. -/
def PR (μ : Mp) (a b : List (Nat × Value)) : Prop := a.length = b.length ∧ ∀ (k : Nat) (x y : Nat × Value), a[k]? = some x → b[k]? = some y → x.1 = y.1 ∧ VR μ x.2 y.2
theorem PR.tail {x y : Nat × Value} {a b : List (Nat × Value)} (h : PR μ (x :: a) (y :: b)) : PR μ a b :=
  ⟨by have := h.1; simpa using this, fun k u v p q => h.2 (k + 1) u v (by simpa using p) (by simpa using q)⟩
theorem PR.cons {x y : Nat × Value} {a b : List (Nat × Value)} (h1 : x.1 = y.1) (h2 : VR μ x.2 y.2) (h : PR μ a b) : PR μ (x :: a) (y :: b) := by
  refine ⟨by simp [h.1], fun k u v p q => ?_⟩
  cases k with
  | zero => simp at p q; subst p; subst q; exact ⟨h1, h2⟩
  | succ k => exact h.2 k u v (by simpa using p) (by simpa using q)

theorem fill_ok (place : Nat → Option (Nat × Nat)) : ∀ (ps ps' : List (Nat × Value)) (c c' r : Array Value), PR μ ps ps' → LR μ c.toList c'.toList → Instr.fill place c ps = some r →
    ∃ r', Instr.fill place c' ps' = some r' ∧ LR μ r.toList r'.toList
  | [], [], c, c', r, _, hc, hf => by simp [Instr.fill] at hf; subst hf; exact ⟨c', rfl, hc⟩
  | [], y :: ps', c, c', r, hp, _, _ => by have := hp.1; simp at this
  | x :: ps, [], c, c', r, hp, _, _ => by have := hp.1; simp at this
  | (i, v) :: ps, (i', v') :: ps', c, c', r, hp, hc, hf => by
    obtain ⟨rfl, hv⟩ := hp.2 0 _ _ rfl rfl
    simp only [Instr.fill] at hf ⊢
    cases hpl : place i with
    | none => simp [hpl] at hf
    | some q =>
      obtain ⟨off, size⟩ := q
      simp only [hpl] at hf ⊢
      have hs : v'.cells.size = v.cells.size := by have := hv.cells.1; simp at this; exact this.symm
      have hcs : c'.size = c.size := by have := hc.1; simp at this; exact this.symm
      rw [hs, hcs]
      split at hf
      · cases hf
      · rename_i hn
        rw [if_neg hn]
        refine fill_ok place ps ps' _ _ r hp.tail ?_ hf
        rw [← Array.foldl_toList, ← Array.foldl_toList, Array.toList_zipIdx, Array.toList_zipIdx]
        exact fold_LR _ _ hv.cells 0 off _ _ hc

theorem build_ok {t : TypeId} {ps : List (Nat × Value)} {ps' : Array (Nat × Value)} {v : Value} (hv : buildA P t ps = some v) (hp : PR μ ps ps'.toList) : ∃ v', (Instr.build t ps').run P w = .ok v' w ∧ VR μ v v' := by
  unfold buildA at hv
  split at hv
  · cases hv
  · rename_i z hz
    rw [Option.map_eq_some_iff] at hv
    obtain ⟨cells, hb, rfl⟩ := hv
    obtain ⟨_, _, i, hi, hzz, hok⟩ := zeroA_ok (w := w) (μ := μ) hz
    have hzc : LR μ z.cells.toList z.cells.toList := LR.of_plain (okZero_cells hok)
    have : ∃ cells', P.built t ps'.toList = some cells' ∧ LR μ cells.toList cells'.toList := by
      unfold Program.built at hb ⊢
      rw [hi] at hb ⊢
      cases hd : P.underlying t with
      | none => simp [hd] at hb
      | some d =>
        rw [hd] at hb
        cases d <;> try (simp at hb; done)
        case array n e =>
          simp only [hzz] at hb ⊢
          cases he : P.info? e with
          | none => simp [he] at hb
          | some ie =>
            simp only [he] at hb ⊢
            exact fill_ok _ _ _ _ _ _ hp hzc hb
        case struct fs =>
          simp only [hzz] at hb ⊢
          cases he : fs.toList.mapM (fun f => (P.info? f.type).map fun i => (f.offset, i.size)) with
          | none => simp [he] at hb
          | some pl =>
            simp only [he] at hb ⊢
            exact fill_ok _ _ _ _ _ _ hp hzc hb
    obtain ⟨cells', h1, h2⟩ := this
    exact ⟨.agg cells', run_build w t ps' cells' h1, VR.agg_of h2⟩

theorem repeatL_length (z : List Value) : ∀ n, (repeatL z n).length = n * z.length
  | 0 => by simp [repeatL]
  | n + 1 => by simp [repeatL, repeatL_length z n, Nat.add_mul]; omega
theorem repeatL_get (z : List Value) : ∀ (n k : Nat), k < n * z.length → (repeatL z n)[k]? = z[k % z.length]?
  | 0, k, h => by simp at h
  | n + 1, k, h => by
    simp only [repeatL]
    by_cases hk : k < z.length
    · rw [List.getElem?_append_left hk, Nat.mod_eq_of_lt hk]
    · rw [Nat.add_mul, Nat.one_mul] at h
      rw [List.getElem?_append_right (by omega), repeatL_get z n _ (by omega), ← Nat.mod_eq_sub_mod (show k ≥ z.length by omega)]
theorem repeatL_plain {z : List Value} (hz : ∀ v ∈ z, plainV v = true) : ∀ n, ∀ v ∈ repeatL z n, plainV v = true
  | 0, v, h => by simp [repeatL] at h
  | n + 1, v, h => by
    simp only [repeatL, List.mem_append] at h
    exact h.elim (hz v) (repeatL_plain hz n v)
/-- The model's row of zeros. -/
theorem range_zero (z : Array Value) (n : Nat) (hz : 0 < z.size) : ((Array.range (n * z.size)).map (z[· % z.size]!)).toList = repeatL z.toList n := by
  apply List.ext_getElem?
  intro k
  rw [Array.toList_map, Array.toList_range]
  by_cases hk : k < n * z.size
  · rw [repeatL_get _ _ _ (by simpa using hk), List.getElem?_map, List.getElem?_range hk]
    have hm : k % z.size < z.size := Nat.mod_lt _ hz
    simp [hm]
  · rw [List.getElem?_eq_none (by simpa using hk), List.getElem?_eq_none (by rw [repeatL_length]; simpa using hk)]

theorem buildSlice_ok (H : HR F w0 μ h w) {t : TypeId} {n : Nat} {ps : List (Nat × Value)} {ps' : Array (Nat × Value)} {v : Value} {h' : AH} (hv : buildSliceA P t n ps h = some (v, h')) (hp : PR μ ps ps'.toList) :
    ∃ μ' w' v', (Instr.buildSlice t n ps').run P w = .ok v' w' ∧ VR μ' v v' ∧ HR F w0 μ' h' w' ∧ Ext μ μ' h h' := by
  unfold buildSliceA at hv
  cases hd : P.underlying t with
  | none => simp [hd] at hv
  | some d =>
    rw [hd] at hv
    cases d <;> try (simp at hv; done)
    case slice e =>
      simp only at hv
      cases hf : P.info? e with
      | none => simp [hf] at hv
      | some info =>
        simp only [hf] at hv
        split at hv
        · cases hv
        · rename_i z hz
          obtain ⟨hzz, hok⟩ := zeroOf_some hz
          rw [Option.ite_none_left_eq_some] at hv
          obtain ⟨hc, hv⟩ := hv
          simp only [Bool.or_eq_true, decide_eq_true_eq, not_or, ne_eq, Decidable.not_not, gt_iff_lt, Nat.not_lt] at hc
          obtain ⟨⟨hs, h0⟩, hb⟩ := hc
          split at hv
          · cases hv
          · rename_i cells hfl
            simp only [AH.fst_new, Option.some.injEq, Prod.mk.injEq] at hv
            obtain ⟨rfl, rfl⟩ := hv
            have hzp : 0 < z.cells.size := by omega
            have hr := range_zero z.cells n hzp
            rw [← hs] at hr
            have hLR : LR μ (repeatL z.cells.toList n).toArray.toList ((Array.range (n * info.size)).map (z.cells[· % z.cells.size]!)).toList := by
              rw [hs, range_zero z.cells n hzp]
              exact LR.of_plain (repeatL_plain (okZero_cells hok) n)
            obtain ⟨cells', h1, h2⟩ := fill_ok _ _ _ _ _ _ hp hLR hfl
            have := new_row H e h2 cells' (by rw [h2.1]; exact List.take_of_length_le (Nat.le_refl _)) (some e) (fun _ q => by cases q; rfl)
            refine ⟨_, _, .slice (some ⟨w.heap.size, 0, none⟩) n n, ?_, ?_, this.1, this.2⟩
            · have hb' : ¬ 16777216 < n * info.size := by simpa using hb
              by_cases hn : n * info.size = 0
              · have : n = 0 := by
                  rcases Nat.mul_eq_zero.1 hn with q | q
                  · exact q
                  · exact absurd q h0
                subst this
                have e0 : ∀ f : Nat → Value, Array.map f (Array.range 0) = #[] := fun f => by apply Array.ext'; rw [Array.toList_map, Array.toList_range]; rfl
                simp only [Nat.zero_mul, e0] at h1
                simp [Instr.buildSlice, run_under hd, run_sizeOf hf, e0, h1, run_newRow]
              · simp [Instr.buildSlice, run_under hd, run_sizeOf hf, hb', hn, run_zeroV hf hzz, h1, run_newRow]
            · have : VR (μ.add h.next (w.heap.size, 0, cells'.size)) (.slice (some ⟨h.next, 0, none⟩) n n) (.slice (some ⟨w.heap.size, 0 + 0, none⟩) n n) := .slice (e := cells'.size) (by simp [Mp.add])
              exact this

end
end Go.R
