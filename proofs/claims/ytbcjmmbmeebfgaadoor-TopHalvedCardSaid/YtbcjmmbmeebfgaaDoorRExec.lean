/- Each operation of the abstract machine is one of the model's: all of them. -/
import Derived.Test.YtbcjmmbmeebfgaaDoorROps8
namespace Go.R
set_option linter.unusedVariables false
set_option linter.unusedSimpArgs false
open Go Go.RowKit

section
variable {P : Program} {F : Nat → Prop} {w0 : World} {μ : Mp} {h : AH} {w : World}

theorem convert_ok (H : HR F w0 μ h w) {src dst : TypeId} {x x' v : Value} (hv : convertA P src dst x h = some v) (hx : VR μ x x') : ∃ v', (convert src dst x').run P w = .ok v' w ∧ VR μ v v' := by
  unfold convertA at hv
  split at hv
  · rename_i t i o hs hd
    obtain ⟨b, z, e, hm, rfl⟩ := hx.ptr_inv
    split at hv
    · rename_i c l p ty hg
      rw [Option.ite_none_right_eq_some] at hv
      obtain ⟨hc, hv⟩ := hv
      cases hv
      simp only [Bool.and_eq_true, decide_eq_true_eq] at hc
      obtain ⟨⟨hlt, hcell⟩, hinf⟩ := hc
      obtain ⟨info, hinf⟩ := Option.isSome_iff_exists.1 hinf
      rw [cellsOf_info hinf] at hcell
      have hobj := H.obj i b z e hm
      rw [hg] at hobj
      obtain ⟨ws, el, fr, o1, o2, o3, _⟩ := hobj
      have hsh : w.shape? b = some (el, ws.size) := by simp [World.shape?, o1]
      refine ⟨.pointer (some ⟨b, z + o, none⟩), ?_, .ptr hm⟩
      have hno : ¬ ws.size ≤ z + o := by omega
      simp [convert, run_under hs, run_under hd, Conv.unsafePointer, Conv.seenAt, viewAt, hsh, cellsIn, run_sizeOf hinf, hcell, hno]
    · cases hv
  · rename_i u i o hs hd
    obtain ⟨b, z, e, hm, rfl⟩ := hx.ptr_inv
    split at hv
    · rename_i c l p el hg
      rw [Option.ite_none_right_eq_some] at hv
      obtain ⟨hc, hv⟩ := hv
      cases hv
      simp only [Bool.and_eq_true, decide_eq_true_eq] at hc
      obtain ⟨⟨⟨⟨rfl, rfl⟩, hcell⟩, hle⟩, hinf⟩ := hc
      obtain ⟨info, hinf⟩ := Option.isSome_iff_exists.1 hinf
      rw [cellsOf_info hinf] at hcell hle
      have hobj := H.obj i b z e hm
      rw [hg] at hobj
      obtain ⟨ws, el', fr, o1, o2, o3, o4, o5, o6⟩ := hobj
      obtain ⟨rfl, rfl⟩ := o6 u rfl
      have hsh : w.shape? b = some (el', ws.size) := by simp [World.shape?, o1]
      refine ⟨.pointer (some ⟨b, 0 + 0, none⟩), ?_, .ptr hm⟩
      have hlies : liesAt P P.depth el' (ws.size / P.cellsOf el') 0 el' 1 = true := by
        refine lies_first hinf hcell _ ?_
        rw [cellsOf_info hinf]
        exact (Nat.one_le_div_iff (by omega)).2 (by omega)
      simp [convert, run_under hs, run_under hd, Conv.unsafePointer, Conv.seenAt, viewAt, hsh, run_sizeOf hinf, hcell, variablesAt, hlies]
    · cases hv
  · rename_i d k n hs hd
    cases hx.int_inv
    cases hv
    refine ⟨_, ?_, .plain rfl⟩
    simp [convert, run_under hs, run_under hd, Conv.intToInt]
  · rename_i d s hs hd
    cases hx.string_inv
    cases hv
    refine ⟨_, ?_, .plain rfl⟩
    cases d <;> simp [convert, run_under hs, run_under hd]
  · cases hv

theorem makeIface_ok {t : TypeId} {x x' v : Value} (hv : makeIfaceA P t x = some v) (hx : VR μ x x') : ∃ v', (Instr.makeInterface t x').run P w = .ok v' w ∧ VR μ v v' := by
  unfold makeIfaceA at hv
  split at hv
  · cases hv
  · rename_i d hn hd
    cases hv
    refine ⟨.iface t x', ?_, .iface hx⟩
    cases d <;> first | exact (hn _ rfl).elim | simp [Instr.makeInterface, run_under hd]
  · cases hv

theorem assert_ok {xt asserted : TypeId} {ok : Bool} {x x' v : Value} (hv : assertA P asserted ok x = some v) (hx : VR μ x x') : ∃ v', (Instr.typeAssert x' xt asserted ok).run P w = .ok v' w ∧ VR μ v v' := by
  unfold assertA at hv
  split at hv
  · cases hv
  · rename_i d hn hd
    split at hv
    · rename_i t u
      obtain ⟨u', rfl, hu⟩ := hx.iface_inv
      split at hv
      · rename_i he
        have e := Nat.eq_of_beq_eq_true he
        subst e
        cases hv
        cases ok
        · refine ⟨u', ?_, hu⟩
          cases d <;> first | exact (hn _ rfl).elim | simp [Instr.typeAssert, run_under hd]
        · refine ⟨.tuple #[u', .bool true], ?_, VR.tuple_of (LR.cons hu (LR.cons (.plain rfl) LR.nil))⟩
          cases d <;> first | exact (hn _ rfl).elim | simp [Instr.typeAssert, run_under hd]
      · rename_i he
        have hne : t ≠ asserted := fun e => by subst e; rw [Nat.beq_refl] at he; cases he
        split at hv
        · split at hv
          · rename_i z hz
            cases hv
            obtain ⟨z1, z2, _⟩ := zeroA_ok (w := w) (μ := μ) hz
            refine ⟨.tuple #[z, .bool false], ?_, VR.tuple_of (LR.cons z2 (LR.cons (.plain rfl) LR.nil))⟩
            cases d <;> first | exact (hn _ rfl).elim | simp [Instr.typeAssert, run_under hd, hne, z1]
          · cases hv
        · cases hv
    · have : x' = .nilIface := by cases hx; rfl
      subst this
      split at hv
      · split at hv
        · rename_i z hz
          cases hv
          obtain ⟨z1, z2, _⟩ := zeroA_ok (w := w) (μ := μ) hz
          refine ⟨.tuple #[z, .bool false], ?_, VR.tuple_of (LR.cons z2 (LR.cons (.plain rfl) LR.nil))⟩
          cases d <;> first | exact (hn _ rfl).elim | simp [Instr.typeAssert, run_under hd, z1]
        · cases hv
      · cases hv
    · cases hv
  · cases hv

theorem range_ok (H : HR F w0 μ h w) {t : TypeId} {x x' v : Value} {h' : AH} (hv : rangeA P t x h = some (v, h')) (hx : VR μ x x') :
    ∃ μ' w' v', (Instr.range t x').run P w = .ok v' w' ∧ VR μ' v v' ∧ HR F w0 μ' h' w' ∧ Ext μ μ' h h' := by
  unfold rangeA at hv
  split at hv
  · rename_i s hd
    cases hx.string_inv
    simp only [AH.fst_new, Option.some.injEq, Prod.mk.injEq] at hv
    obtain ⟨rfl, rfl⟩ := hv
    have := H.new (.str s 0) (.stringIter s 0) 0 (fun c l p ty e => by cases e) ⟨rfl, by show (w.heap.push _)[w.heap.size]? = _; rw [Array.getElem?_push, if_pos rfl]⟩
    exact ⟨_, _, .pointer (some ⟨w.heap.size, 0, none⟩), by simp only [Instr.range, Sem.run_bind, run_under hd, Sem.run_pure, Result.andThen_ok, run_newObj]; rfl, VR.new_ptr, this.1, this.2⟩
  · cases hv

theorem next_ok (H : HR F w0 μ h w) {it it' v : Value} {s : Bool} {ty : TypeId} {h' : AH} (hv : nextA it s h = some (v, h')) (hx : VR μ it it') :
    ∃ w', (Instr.next it' s ty).run P w = .ok v w' ∧ VR μ v v ∧ HR F w0 μ h' w' ∧ Ext μ μ h h' := by
  unfold nextA at hv
  split at hv
  · rename_i r
    obtain ⟨b, z, e, hm, rfl⟩ := hx.ptr_inv
    split at hv
    · rename_i s pos hg
      have hobj := H.obj r b z e hm
      rw [hg] at hobj
      obtain ⟨rfl, hb⟩ := hobj
      have hget : (getObj b).run P w = .ok (.stringIter s pos) w := by simp [getObj, Sem.run, hb]
      split at hv
      · rename_i hlt
        cases hv
        have hW := wrote_obj w b _ (.stringIter s (pos + (Utf8.decode s pos).2)) hb
        have hset : (setObj b (.stringIter s (pos + (Utf8.decode s pos).2))).run P w = .ok () { w with heap := w.heap.setIfInBounds b (.stringIter s (pos + (Utf8.decode s pos).2)) } := by simp [setObj, Sem.run, hb]
        refine ⟨_, ?_, VR.tuple_of (LR.cons (.plain rfl) (LR.cons (.plain rfl) (LR.cons (.plain rfl) LR.nil))), H.wrote hm hW (by rw [hg]; rfl) [] (fun c l p t q => by rw [hg] at q; cases q) _ (fun c l p t q => by cases q) ⟨rfl, hW.at_⟩, Ext.wrote H hm [] _ (fun j hj => by cases hj)⟩
        simp [Instr.next, hget, hlt, hset, goInt]
      · rename_i hlt
        cases hv
        refine ⟨w, ?_, VR.tuple_of (LR.cons (.plain rfl) LR.nil), H, Ext.refl μ h⟩
        simp [Instr.next, hget, hlt]
    · cases hv
  · cases hv

theorem sliceData_ok {x x' v : Value} {ts : Array TypeId} {ty : TypeId} (hv : sliceDataA x = some v) (hx : VR μ x x') : ∃ v', (Builtin.unsafeSliceData_ ts ty #[x']).run P w = .ok v' w ∧ VR μ v v' := by
  have key : ∀ (a : Addr) (n c : Nat), c ≠ 0 → (Builtin.unsafeSliceData_ ts ty #[.slice (some a) n c]).run P w = .ok (.pointer (some a)) w := by
    intro a n c hc
    have : Builtin.unsafeSliceData_ ts ty #[.slice (some a) n c] = (if c ≠ 0 then pure (.pointer (some a))
      else do
        if (← viewAt a.block).isSome then pure (.pointer (some a))
        else pure (.pointer (some ⟨← newObj (.view a (← elemOf ty)), 0, none⟩))) := rfl
    rw [this, if_pos hc]; rfl
  unfold sliceDataA at hv
  split at hv
  · cases hv
    obtain ⟨_, _, rfl⟩ := hx.sliceN_inv
    exact ⟨_, rfl, .plain rfl⟩
  · rw [Option.ite_none_right_eq_some] at hv
    obtain ⟨hc, hv⟩ := hv
    cases hv
    obtain ⟨b, z, e, hm, rfl⟩ := hx.slice_inv
    exact ⟨_, key _ _ _ hc, .ptr hm⟩
  · rw [Option.ite_none_right_eq_some] at hv
    obtain ⟨hc, hv⟩ := hv
    cases hv
    obtain ⟨b, z, e, c', hm, h1, h2, _, rfl⟩ := hx.sliceU_inv
    exact ⟨_, key _ _ _ (by omega), .ptr hm⟩
  · cases hv

/-! ### Operands -/
theorem mapM_rel {ρ : Operand → Option Value} {ρ' : Operand → Value} (hρ : ∀ x v, ρ x = some v → VR μ v (ρ' x)) : ∀ (l : List Operand) (vs : List Value), l.mapM ρ = some vs → LR μ vs (l.map ρ')
  | [], vs, h => by simp at h; subst h; exact LR.nil
  | x :: l, vs, h => by
    rw [List.mapM_cons] at h
    simp only [bind, Option.bind_eq_some_iff, pure, Option.some.injEq] at h
    obtain ⟨v, hv, r, hr, rfl⟩ := h
    exact LR.cons (hρ x v hv) (mapM_rel hρ l r hr)

theorem parts_rel {ρ : Operand → Option Value} {ρ' : Operand → Value} (hρ : ∀ x v, ρ x = some v → VR μ v (ρ' x)) : ∀ (l : List (Nat × Operand)) (ps : List (Nat × Value)),
    l.mapM (fun p => (ρ p.2).map fun x => (p.1, x)) = some ps → PR μ ps (l.map fun p => (p.1, ρ' p.2))
  | [], ps, h => by simp at h; subst h; exact ⟨rfl, fun k x y a => by simp at a⟩
  | p :: l, ps, h => by
    rw [List.mapM_cons] at h
    simp only [bind, Option.bind_eq_some_iff, pure, Option.some.injEq] at h
    obtain ⟨v, hv, r, hr, rfl⟩ := h
    rw [Option.map_eq_some_iff] at hv
    obtain ⟨u, hu, rfl⟩ := hv
    exact PR.cons rfl (hρ _ _ hu) (parts_rel hρ l r hr)

theorem opt_rel {ρ : Operand → Option Value} {ρ' : Operand → Value} (hρ : ∀ x v, ρ x = some v → VR μ v (ρ' x)) {o : Option Operand} {v : Option Value} (h : optA ρ o = some v) : OVR μ v (o.map ρ') := by
  unfold optA at h
  split at h
  · cases h; trivial
  · split at h
    · rename_i x u hu; cases h; exact hρ _ _ hu
    · cases h

/-- What is known behind an operation. -/
def Done (P : Program) (F : Nat → Prop) (w0 : World) (μ : Mp) (h : AH) (w : World) (s : Sem Next) (v : Value) (h' : AH) : Prop :=
  ∃ μ' w' r v', s.run P w = .ok r w' ∧ (r = .value v' ∨ (r = .skip ∧ v' = undef)) ∧ VR μ' v v' ∧ HR F w0 μ' h' w' ∧ Ext μ μ' h h'

theorem Done.quiet (H : HR F w0 μ h w) {s : Sem Value} {v v' : Value} (hs : s.run P w = .ok v' w) (hv : VR μ v v') : Done P F w0 μ h w (do pure (.value (← s))) v h :=
  ⟨μ, w, .value v', v', by simp [hs], .inl rfl, hv, H, Ext.refl μ h⟩
theorem Done.of {s : Sem Value} {v : Value} {h' : AH} (hs : ∃ μ' w' v', s.run P w = .ok v' w' ∧ VR μ' v v' ∧ HR F w0 μ' h' w' ∧ Ext μ μ' h h') : Done P F w0 μ h w (do pure (.value (← s))) v h' := by
  obtain ⟨μ', w', v', h1, h2, h3, h4⟩ := hs
  exact ⟨μ', w', .value v', v', by simp [h1], .inl rfl, h2, h3, h4⟩
theorem Done.same {s : Sem Value} {v : Value} {h' : AH} (hs : ∃ w', s.run P w = .ok v w' ∧ plainV v = true ∧ HR F w0 μ h' w' ∧ Ext μ μ h h') : Done P F w0 μ h w (do pure (.value (← s))) v h' := by
  obtain ⟨w', h1, h2, h3, h4⟩ := hs
  exact ⟨μ, w', .value v, v, by simp [h1], .inl rfl, .plain h2, h3, h4⟩
theorem Done.unit {s : Sem Unit} {h' : AH} (hs : ∃ w', s.run P w = .ok () w' ∧ HR F w0 μ h' w' ∧ Ext μ μ h h') : Done P F w0 μ h w (do s; pure .skip) undef h' := by
  obtain ⟨w', h1, h3, h4⟩ := hs
  exact ⟨μ, w', .skip, undef, by simp [h1], .inr ⟨rfl, rfl⟩, VR.undef, h3, h4⟩

theorem LR.one {a b : List Value} {x : Value} (h : LR μ a b) (e : a = [x]) : ∃ y, b = [y] ∧ VR μ x y := by
  subst e
  match b, h with
  | [y], h => exact ⟨y, rfl, h.head⟩
  | [], h => have := h.1; simp at this
  | _ :: _ :: _, h => have := h.1; simp at this
theorem LR.two {a b : List Value} {x y : Value} (h : LR μ a b) (e : a = [x, y]) : ∃ x' y', b = [x', y'] ∧ VR μ x x' ∧ VR μ y y' := by
  subst e
  match b, h with
  | [u, v], h => exact ⟨u, v, rfl, h.head, h.tail.head⟩
  | [], h => have := h.1; simp at this
  | [_], h => have := h.1; simp at this
  | _ :: _ :: _ :: _, h => have := h.1; simp at this

theorem builtin_ok (H : HR F w0 μ h w) {b : Builtin} {ts : Array TypeId} {ty : TypeId} {cs : Array Bool} {l : List Value} {args : Array Value} {v : Value} {h' : AH} (hv : builtinA P b ts.toList l h = some (v, h')) (hl : LR μ l args.toList) :
    Done P F w0 μ h w (builtin b ts ty cs args) v h' := by
  have arr : ∀ {α : Type} {a : Array α} {l : List α}, a.toList = l → a = l.toArray := fun h => by rw [← h]
  unfold builtinA at hv
  split at hv
  · rename_i t tx s x hts
    obtain ⟨s', x', e, h1, h2⟩ := hl.two rfl
    rw [arr hts, arr e]
    exact Done.of (append_ok H hv h1 h2)
  · rename_i t x hts
    obtain ⟨x', e, h1⟩ := hl.one rfl
    rw [Option.map_eq_some_iff] at hv
    obtain ⟨v1, hv, q⟩ := hv
    cases q
    rw [arr hts, arr e]
    obtain ⟨q1, q2⟩ := len_ok (ty := ty) H hv h1
    exact Done.quiet H q1 (.plain q2)
  · rename_i t x hts
    obtain ⟨x', e, h1⟩ := hl.one rfl
    rw [Option.map_eq_some_iff] at hv
    obtain ⟨v1, hv, q⟩ := hv
    cases q
    rw [arr hts, arr e]
    obtain ⟨q1, q2⟩ := cap_ok (w := w) (ty := ty) hv h1
    exact Done.quiet H q1 (.plain q2)
  · rename_i t tx d x hts
    obtain ⟨d', x', e, h1, h2⟩ := hl.two rfl
    rw [arr hts, arr e]
    exact Done.same (copy_ok H hv h1 h2)
  · rw [Option.map_eq_some_iff] at hv
    obtain ⟨v1, hv, q⟩ := hv
    cases q
    unfold minMaxA at hv
    split at hv
    · rename_i k n l'
      cases hargs : args.toList with
      | nil => rw [hargs] at hl; have := hl.1; simp at this
      | cons y l2 =>
        rw [hargs] at hl
        cases hl.head.int_inv
        obtain ⟨q1, q2⟩ := max_ok (P := P) (w := w) l' l2 k n v hv hl.tail
        refine Done.quiet H (s := Builtin.max_ ts ty args) (v' := v) ?_ (.plain q2)
        simp [Builtin.max_, hargs, q1]
    · cases hv
  · rw [Option.map_eq_some_iff] at hv
    obtain ⟨v1, hv, q⟩ := hv
    cases q
    unfold minMaxA at hv
    split at hv
    · rename_i k n l'
      cases hargs : args.toList with
      | nil => rw [hargs] at hl; have := hl.1; simp at this
      | cons y l2 =>
        rw [hargs] at hl
        cases hl.head.int_inv
        obtain ⟨q1, q2⟩ := min_ok (P := P) (w := w) l' l2 k n v hv hl.tail
        refine Done.quiet H (s := Builtin.min_ ts ty args) (v' := v) ?_ (.plain q2)
        simp [Builtin.min_, hargs, q1]
    · cases hv
  · rename_i t tk m k hts
    obtain ⟨m', k', e, h1, h2⟩ := hl.two rfl
    rw [Option.map_eq_some_iff] at hv
    obtain ⟨h1', hv, q⟩ := hv
    cases q
    rw [arr hts, arr e]
    obtain ⟨w', q1, q2, q3⟩ := delete_ok (tk := tk) (ty := ty) H hv h1 h2
    exact Done.of ⟨μ, w', _, q1, VR.undef, q2, q3⟩
  · rename_i t x hts
    obtain ⟨x', e, h1⟩ := hl.one rfl
    rw [Option.map_eq_some_iff] at hv
    obtain ⟨h1', hv, q⟩ := hv
    cases q
    rw [arr hts, arr e]
    obtain ⟨w', q1, q2, q3⟩ := clear_ok (ty := ty) H hv h1
    exact Done.of ⟨μ, w', _, q1, VR.undef, q2, q3⟩
  · rename_i x
    obtain ⟨x', e, h1⟩ := hl.one rfl
    rw [Option.map_eq_some_iff] at hv
    obtain ⟨v1, hv, q⟩ := hv
    cases q
    rw [arr e]
    obtain ⟨v', q1, q2⟩ := sliceData_ok (P := P) (w := w) (ts := ts) (ty := ty) hv h1
    exact Done.quiet H q1 q2
  · rename_i t tl p n hts
    obtain ⟨p', n', e, h1, h2⟩ := hl.two rfl
    rw [arr hts, arr e]
    exact Done.same (unsafeString_ok H hv h1 h2)
  · cases hv

set_option maxHeartbeats 2000000 in
/-- EVERY OPERATION THAT IS NO CALL OF A FUNCTION. -/
theorem opA_ok (H : HR F w0 μ h w) {ρ : Operand → Option Value} {ρ' : Operand → Value} (hρ : ∀ x v, ρ x = some v → VR μ v (ρ' x)) {o : Oper} {v : Value} {h' : AH} (hv : opA P ρ o.op h = some (v, h')) :
    Done P F w0 μ h w (execOp ρ' o) v h' := by
  have vq : ∀ {r : Option Value}, r.map (·, h) = some (v, h') → r = some v ∧ h' = h := by
    intro r hr; rw [Option.map_eq_some_iff] at hr; obtain ⟨u, h1, h2⟩ := hr; cases h2; exact ⟨h1, rfl⟩
  have uq : ∀ {r : Option AH}, r.map (undef, ·) = some (v, h') → r = some h' ∧ v = undef := by
    intro r hr; rw [Option.map_eq_some_iff] at hr; obtain ⟨u, h1, h2⟩ := hr; cases h2; exact ⟨h1, rfl⟩
  unfold execOp
  unfold opA at hv
  split at hv <;> rename_i ho <;> simp only [ho]
  · obtain ⟨h1, rfl⟩ := vq hv
    exact ⟨μ, w, _, _, rfl, .inl rfl, hρ _ _ h1, H, Ext.refl μ _⟩
  · obtain ⟨h1, rfl⟩ := vq hv
    exact ⟨μ, w, _, _, rfl, .inl rfl, hρ _ _ h1, H, Ext.refl μ _⟩
  · split at hv
    · rename_i c a b h1 h2 h3
      cases hv
      have hc := (hρ _ _ h1).bool_inv
      refine ⟨μ, w, .value _, _, by simp [hc, asBool]; rfl, .inl rfl, ?_, H, Ext.refl μ _⟩
      cases c
      · exact hρ _ _ h3
      · exact hρ _ _ h2
    · cases hv
  · -- alloc
    split at hv
    · rename_i e z hz
      obtain ⟨z1, z2, _⟩ := zeroA_ok (w := w) (μ := μ) hz
      obtain ⟨μ', w', a, q1, q2, q3, q4⟩ := newVar_ok (P := P) H _ z2 hv
      exact Done.of ⟨μ', w', _, by simp [Instr.alloc, z1, q1], q2, q3, q4⟩
    · cases hv
  · -- box
    split at hv
    · rename_i x hx
      obtain ⟨μ', w', a, q1, q2, q3, q4⟩ := newVar_ok (P := P) H _ (hρ _ _ hx) hv
      exact Done.of ⟨μ', w', _, by simp [Instr.box, q1], q2, q3, q4⟩
    · cases hv
  · -- build
    split at hv
    · rename_i t parts _ ps hps
      obtain ⟨h1, rfl⟩ := vq hv
      obtain ⟨v', q1, q2⟩ := build_ok (w := w) (ps' := parts.map fun (i, x) => (i, ρ' x)) h1 (by rw [Array.toList_map]; exact parts_rel hρ _ _ hps)
      exact Done.quiet H q1 q2
    · cases hv
  · -- buildSlice
    split at hv
    · rename_i t n parts _ ps hps
      have q := buildSlice_ok (P := P) (ps' := parts.map fun (i, x) => (i, ρ' x)) H hv (by rw [Array.toList_map]; exact parts_rel hρ _ _ hps)
      exact Done.of (s := Instr.buildSlice t n (parts.map fun (i, x) => (i, ρ' x))) q
    · cases hv
  · -- load
    split at hv
    · rename_i i o ha
      obtain ⟨h1, rfl⟩ := vq hv
      obtain ⟨v', q1, q2⟩ := load_ok (P := P) H h1 (hρ _ _ ha)
      exact Done.quiet H q1 q2
    · cases hv
  · -- store
    split at hv
    · rename_i i o x ha hx
      obtain ⟨h1, rfl⟩ := uq hv
      exact Done.unit (let ⟨w', a, b, c⟩ := store_ok (P := P) H h1 (hρ _ _ ha) (hρ _ _ hx); ⟨w', a, b, c⟩)
    · cases hv
  · -- nilCheck
    split at hv
    · rename_i t _ a ha
      obtain ⟨h1, rfl⟩ := vq hv
      cases h1
      have hr := hρ _ _ ha
      obtain ⟨i, o, sp⟩ := a
      generalize ρ' t = y at hr ⊢
      cases hr with
      | plain hp => simp [plainV] at hp
      | ptr hm => exact ⟨μ, w, _, _, rfl, .inl rfl, .ptr hm, H, Ext.refl μ _⟩
    · rename_i f a b ha
      obtain ⟨h1, rfl⟩ := vq hv
      cases h1
      have hr := hρ _ _ ha
      obtain ⟨f', c', e, q1, q2⟩ := hr.func_inv
      refine ⟨μ, w, .value _, _, by simp [e], .inl rfl, VR.func_of q1 q2, H, Ext.refl μ _⟩
    · cases hv
  · -- binOp
    split at hv
    · rename_i x y hx hy
      obtain ⟨h1, rfl⟩ := vq hv
      obtain ⟨q1, q2⟩ := bin_ok (w := w) _ _ h1 (hρ _ _ hx) (hρ _ _ hy)
      exact Done.quiet H q1 (.plain q2)
    · cases hv
  · -- unOp
    split at hv
    · rename_i x hx
      obtain ⟨h1, rfl⟩ := vq hv
      obtain ⟨q1, q2⟩ := un_ok (P := P) (w := w) h1 (hρ _ _ hx)
      exact Done.quiet H q1 (.plain q2)
    · cases hv
  · -- convert
    split at hv
    · rename_i x hx
      obtain ⟨h1, rfl⟩ := vq hv
      obtain ⟨v', q1, q2⟩ := convert_ok H h1 (hρ _ _ hx)
      exact Done.quiet H q1 q2
    · cases hv
  · -- sliceToArrayPointer
    split at hv
    · rename_i x hx
      obtain ⟨h1, rfl⟩ := vq hv
      obtain ⟨v', q1, q2⟩ := arrayAt_ok (P := P) (w := w) h1 (hρ _ _ hx)
      exact Done.quiet H q1 q2
    · cases hv
  · -- makeFunc
    split at hv
    · rename_i fn first captured _ _ a b ha hb
      obtain ⟨h1, rfl⟩ := vq hv
      cases h1
      refine Done.quiet H (s := Instr.makeFunc fn (first.map ρ') (captured.map ρ')) (v' := .func fn (first.map ρ') (captured.map ρ')) rfl (VR.func_of ?_ ?_)
      · rw [Array.toList_map]; exact mapM_rel hρ _ _ ha
      · rw [Array.toList_map]; exact mapM_rel hρ _ _ hb
    · cases hv
  · -- makeMap
    simp only [AH.fst_new, Option.some.injEq, Prod.mk.injEq] at hv
    obtain ⟨rfl, rfl⟩ := hv
    exact Done.of (makeMap_ok H _)
  · -- makeSlice
    split at hv
    · rename_i l c hl hc
      exact Done.of (makeSlice_ok H hv (hρ _ _ hl) (hρ _ _ hc))
    · cases hv
  · -- slice
    split at hv
    · rename_i x lo hi mx hx hlo hhi hmx
      obtain ⟨h1, rfl⟩ := vq hv
      obtain ⟨v', q1, q2⟩ := slice_ok (P := P) (w := w) h1 (hρ _ _ hx) (opt_rel hρ hlo) (opt_rel hρ hhi) (opt_rel hρ hmx)
      exact Done.quiet H q1 q2
    · cases hv
  · -- fieldAddr
    split at hv
    · rename_i x hx
      obtain ⟨h1, rfl⟩ := vq hv
      obtain ⟨v', q1, q2⟩ := fieldAddr_ok (w := w) h1 (hρ _ _ hx)
      exact Done.quiet H q1 q2
    · cases hv
  · -- field
    split at hv
    · rename_i x hx
      obtain ⟨h1, rfl⟩ := vq hv
      obtain ⟨v', q1, q2⟩ := field_ok (w := w) h1 (hρ _ _ hx)
      exact Done.quiet H q1 q2
    · cases hv
  · -- indexAddr
    split at hv
    · rename_i x i hx hi
      obtain ⟨h1, rfl⟩ := vq hv
      obtain ⟨v', q1, q2⟩ := indexAddr_ok (w := w) h1 (hρ _ _ hx) (hρ _ _ hi)
      exact Done.quiet H q1 q2
    · cases hv
  · -- index
    split at hv
    · rename_i x i hx hi
      obtain ⟨h1, rfl⟩ := vq hv
      obtain ⟨v', q1, q2⟩ := index_ok (w := w) h1 (hρ _ _ hx) (hρ _ _ hi)
      exact Done.quiet H q1 q2
    · cases hv
  · -- lookup
    split at hv
    · rename_i m k hm hk
      obtain ⟨h1, rfl⟩ := vq hv
      obtain ⟨v', q1, q2⟩ := lookup_ok H h1 (hρ _ _ hm) (hρ _ _ hk)
      exact Done.quiet H q1 q2
    · cases hv
  · -- mapUpdate
    split at hv
    · rename_i m k x hm hk hx
      obtain ⟨h1, rfl⟩ := uq hv
      exact Done.unit (mapUpdate_ok H h1 (hρ _ _ hm) (hρ _ _ hk) (hρ _ _ hx))
    · cases hv
  · -- insert
    split at hv
    · rename_i m k x hm hk hx
      obtain ⟨h1, rfl⟩ := uq hv
      exact Done.unit (mapUpdate_ok H h1 (hρ _ _ hm) (hρ _ _ hk) (hρ _ _ hx))
    · cases hv
  · -- range
    split at hv
    · rename_i x hx
      exact Done.of (range_ok H hv (hρ _ _ hx))
    · cases hv
  · -- next
    split at hv
    · rename_i it hit
      exact Done.of (let ⟨w', a, b, c, d⟩ := next_ok (P := P) (ty := o.type) H hv (hρ _ _ hit); ⟨μ, w', v, a, b, c, d⟩)
    · cases hv
  · -- extract
    split at hv
    · rename_i t i _ vs hx
      obtain ⟨h1, rfl⟩ := vq hv
      obtain ⟨vs', e, hl⟩ := (hρ _ _ hx).tuple_inv
      obtain ⟨v', q1, q2⟩ := hl.at_ (k := i) (by simpa using h1)
      rw [Array.getElem?_toList] at q1
      exact Done.quiet H (by simp [Instr.extract, e, q1]) q2
    · cases hv
  · -- makeInterface
    split at hv
    · rename_i x hx
      obtain ⟨h1, rfl⟩ := vq hv
      obtain ⟨v', q1, q2⟩ := makeIface_ok (w := w) h1 (hρ _ _ hx)
      exact Done.quiet H q1 q2
    · cases hv
  · -- typeAssert
    split at hv
    · rename_i x xt _ _ _ x' hx
      obtain ⟨h1, rfl⟩ := vq hv
      obtain ⟨v', q1, q2⟩ := assert_ok (w := w) (xt := xt) h1 (hρ _ _ hx)
      exact Done.quiet H q1 q2
    · cases hv
  · -- a builtin's call
    split at hv
    · rename_i b args ts _ l hl
      have := fun cs => builtin_ok (ty := o.type) (cs := cs) (args := args.map ρ') H hv (by rw [Array.toList_map]; exact mapM_rel hρ _ _ hl)
      simp only [resolve, invoke, pure_bind]
      exact this _
    · cases hv
  · cases hv

end
end Go.R
