/- Each operation of the abstract machine is one of the model's: all of them. -/
import Derived.Test.YtbcjmmbmeebfgaaGreatDoorSFloodedRG2
import Derived.Orders
import Derived.Test.YtbcjmmbmeebfgaaGreatDoorSFloodedRG1
namespace Go.R
set_option linter.unusedVariables false
set_option linter.unusedSimpArgs false
open Go Go.RowKit

section
variable {P : Program} {F : Nat → Prop} {w0 : World} {μ : Mp} {h : AH} {w : World}

theorem convert_ok (H : HR F w0 μ h w) {src dst : TypeId} {x x' v : Value} (hv : convertA P src dst x h = some v) (hx : VR μ x x') : ∃ v', (convert src dst x').run P w = .ok v' w ∧ VR μ v v' := by
  unfold convertA at hv
  split at hv
  · rename_i t i o hs hd
    obtain ⟨b, z, e, hm, rfl⟩ := hx.ptr_inv
    split at hv
    · rename_i c l p ty hg
      rw [Option.ite_none_right_eq_some] at hv
      obtain ⟨hc, hv⟩ := hv
      cases hv
      simp only [Bool.and_eq_true, decide_eq_true_eq] at hc
      obtain ⟨⟨hlt, hcell⟩, hinf⟩ := hc
      obtain ⟨info, hinf⟩ := Option.isSome_iff_exists.1 hinf
      rw [cellsOf_info hinf] at hcell
      have hobj := H.obj i b z e hm
      rw [hg] at hobj
      obtain ⟨ws, el, fr, o1, o2, o3, _⟩ := hobj
      have hsh : w.shape? b = some (el, ws.size) := by simp [World.shape?, o1]
      refine ⟨.pointer (some ⟨b, z + o, none⟩), ?_, .ptr hm⟩
      have hno : ¬ ws.size ≤ z + o := by omega
      simp [convert, run_under hs, run_under hd, Conv.unsafePointer, Conv.seenAt, viewAt, hsh, cellsIn, run_sizeOf hinf, hcell, hno]
    · cases hv
  · rename_i u i o hs hd
    obtain ⟨b, z, e, hm, rfl⟩ := hx.ptr_inv
    split at hv
    · rename_i c l p el hg
      rw [Option.ite_none_right_eq_some] at hv
      obtain ⟨hc, hv⟩ := hv
      cases hv
      simp only [Bool.and_eq_true, decide_eq_true_eq] at hc
      obtain ⟨⟨⟨⟨rfl, rfl⟩, hcell⟩, hle⟩, hinf⟩ := hc
      obtain ⟨info, hinf⟩ := Option.isSome_iff_exists.1 hinf
      rw [cellsOf_info hinf] at hcell hle
      have hobj := H.obj i b z e hm
      rw [hg] at hobj
      obtain ⟨ws, el', fr, o1, o2, o3, o4, o5, o6⟩ := hobj
      obtain ⟨rfl, rfl⟩ := o6 u rfl
      have hsh : w.shape? b = some (el', ws.size) := by simp [World.shape?, o1]
      refine ⟨.pointer (some ⟨b, 0 + 0, none⟩), ?_, .ptr hm⟩
      have hlies : liesAt P P.depth el' (ws.size / P.cellsOf el') 0 el' 1 = true := by
        refine lies_first hinf hcell _ ?_
        rw [cellsOf_info hinf]
        exact (Nat.one_le_div_iff (by omega)).2 (by omega)
      simp [convert, run_under hs, run_under hd, Conv.unsafePointer, Conv.seenAt, viewAt, hsh, run_sizeOf hinf, hcell, variablesAt, hlies]
    · cases hv
  · rename_i d k n hs hd
    cases hx.int_inv
    cases hv
    refine ⟨_, ?_, .plain rfl⟩
    simp [convert, run_under hs, run_under hd, Conv.intToInt]
  · rename_i d s hs hd
    cases hx.string_inv
    cases hv
    refine ⟨_, ?_, .plain rfl⟩
    cases d <;> simp [convert, run_under hs, run_under hd]
  · cases hv

theorem makeIface_ok {t : TypeId} {x x' v : Value} (hv : makeIfaceA P t x = some v) (hx : VR μ x x') : ∃ v', (Instr.makeInterface t x').run P w = .ok v' w ∧ VR μ v v' := by
  unfold makeIfaceA at hv
  split at hv
  · cases hv
  · rename_i d hn hd
    cases hv
    refine ⟨.iface t x', ?_, .iface hx⟩
    cases d <;> first | exact (hn _ rfl).elim | simp [Instr.makeInterface, run_under hd]
  · cases hv

theorem assert_ok {xt asserted : TypeId} {ok : Bool} {x x' v : Value} (hv : assertA P asserted ok x = some v) (hx : VR μ x x') : ∃ v', (Instr.typeAssert x' xt asserted ok).run P w = .ok v' w ∧ VR μ v v' := by
  unfold assertA at hv
  split at hv
  · cases hv
  · rename_i d hn hd
    split at hv
    · rename_i t u
      obtain ⟨u', rfl, hu⟩ := hx.iface_inv
      split at hv
      · rename_i he
        have e := Nat.eq_of_beq_eq_true he
        subst e
        cases hv
        cases ok
        · refine ⟨u', ?_, hu⟩
          cases d <;> first | exact (hn _ rfl).elim | simp [Instr.typeAssert, run_under hd]
        · refine ⟨.tuple #[u', .bool true], ?_, VR.tuple_of (LR.cons hu (LR.cons (.plain rfl) LR.nil))⟩
          cases d <;> first | exact (hn _ rfl).elim | simp [Instr.typeAssert, run_under hd]
      · rename_i he
        have hne : t ≠ asserted := fun e => by subst e; rw [Nat.beq_refl] at he; cases he
        split at hv
        · split at hv
          · rename_i z hz
            cases hv
            obtain ⟨z1, z2, _⟩ := zeroA_ok (w := w) (μ := μ) hz
            refine ⟨.tuple #[z, .bool false], ?_, VR.tuple_of (LR.cons z2 (LR.cons (.plain rfl) LR.nil))⟩
            cases d <;> first | exact (hn _ rfl).elim | simp [Instr.typeAssert, run_under hd, hne, z1]
          · cases hv
        · cases hv
    · have : x' = .nilIface := by cases hx; rfl
      subst this
      split at hv
      · split at hv
        · rename_i z hz
          cases hv
          obtain ⟨z1, z2, _⟩ := zeroA_ok (w := w) (μ := μ) hz
          refine ⟨.tuple #[z, .bool false], ?_, VR.tuple_of (LR.cons z2 (LR.cons (.plain rfl) LR.nil))⟩
          cases d <;> first | exact (hn _ rfl).elim | simp [Instr.typeAssert, run_under hd, z1]
        · cases hv
      · cases hv
    · cases hv
  · cases hv

theorem range_ok (H : HR F w0 μ h w) {t : TypeId} {x x' v : Value} {h' : AH} (hv : rangeA P t x h = some (v, h')) (hx : VR μ x x') :
    ∃ μ' w' v', (Instr.range t x').run P w = .ok v' w' ∧ VR μ' v v' ∧ HR F w0 μ' h' w' ∧ Ext μ μ' h h' := by
  unfold rangeA at hv
  split at hv
  · rename_i s hd
    cases hx.string_inv
    simp only [AH.fst_new, Option.some.injEq, Prod.mk.injEq] at hv
    obtain ⟨rfl, rfl⟩ := hv
    have := H.new (.str s 0) (.stringIter s 0) 0 (fun c l p ty e => by cases e) ⟨rfl, by show (w.heap.push _)[w.heap.size]? = _; rw [Array.getElem?_push, if_pos rfl]⟩
    exact ⟨_, _, .pointer (some ⟨w.heap.size, 0, none⟩), by simp only [Instr.range, Sem.run_bind, run_under hd, Sem.run_pure, Result.andThen_ok, run_newObj]; rfl, VR.new_ptr, this.1, this.2⟩
  · cases hv

theorem next_ok (H : HR F w0 μ h w) {it it' v : Value} {s : Bool} {ty : TypeId} {h' : AH} (hv : nextA it s h = some (v, h')) (hx : VR μ it it') :
    ∃ w', (Instr.next it' s ty).run P w = .ok v w' ∧ VR μ v v ∧ HR F w0 μ h' w' ∧ Ext μ μ h h' := by
  unfold nextA at hv
  split at hv
  · rename_i r
    obtain ⟨b, z, e, hm, rfl⟩ := hx.ptr_inv
    split at hv
    · rename_i s pos hg
      have hobj := H.obj r b z e hm
      rw [hg] at hobj
      obtain ⟨rfl, hb⟩ := hobj
      have hget : (getObj b).run P w = .ok (.stringIter s pos) w := by simp [getObj, Sem.run, hb]
      split at hv
      · rename_i hlt
        cases hv
        have hW := wrote_obj w b _ (.stringIter s (pos + (Utf8.decode s pos).2)) hb
        have hset : (setObj b (.stringIter s (pos + (Utf8.decode s pos).2))).run P w = .ok () { w with heap := w.heap.setIfInBounds b (.stringIter s (pos + (Utf8.decode s pos).2)) } := by simp [setObj, Sem.run, hb]
        refine ⟨_, ?_, VR.tuple_of (LR.cons (.plain rfl) (LR.cons (.plain rfl) (LR.cons (.plain rfl) LR.nil))), H.wrote hm hW (by rw [hg]; rfl) [] (fun c l p t q => by rw [hg] at q; cases q) _ (fun c l p t q => by cases q) ⟨rfl, hW.at_⟩, Ext.wrote H hm [] _ (fun j hj => by cases hj)⟩
        simp [Instr.next, hget, hlt, hset, goInt]
      · rename_i hlt
        cases hv
        refine ⟨w, ?_, VR.tuple_of (LR.cons (.plain rfl) LR.nil), H, Ext.refl μ h⟩
        simp [Instr.next, hget, hlt]
    · cases hv
  · cases hv

theorem sliceData_ok {x x' v : Value} {ts : Array TypeId} {ty : TypeId} (hv : sliceDataA x = some v) (hx : VR μ x x') : ∃ v', (Builtin.unsafeSliceData_ ts ty #[x']).run P w = .ok v' w ∧ VR μ v v' := by
  have key : ∀ (a : Addr) (n c : Nat), c ≠ 0 → (Builtin.unsafeSliceData_ ts ty #[.slice (some a) n c]).run P w = .ok (.pointer (some a)) w := by
    intro a n c hc
    have : Builtin.unsafeSliceData_ ts ty #[.slice (some a) n c] = (if c ≠ 0 then pure (.pointer (some a))
      else do
        if (← viewAt a.block).isSome then pure (.pointer (some a))
        else pure (.pointer (some ⟨← newObj (.view a (← elemOf ty)), 0, none⟩))) := rfl
    rw [this, if_pos hc]; rfl
  unfold sliceDataA at hv
  split at hv
  · cases hv
    obtain ⟨_, _, rfl⟩ := hx.sliceN_inv
    exact ⟨_, rfl, .plain rfl⟩
  · rw [Option.ite_none_right_eq_some] at hv
    obtain ⟨hc, hv⟩ := hv
    cases hv
    obtain ⟨b, z, e, hm, rfl⟩ := hx.slice_inv
    exact ⟨_, key _ _ _ hc, .ptr hm⟩
  · rw [Option.ite_none_right_eq_some] at hv
    obtain ⟨hc, hv⟩ := hv
    cases hv
    obtain ⟨b, z, e, c', hm, h1, h2, _, rfl⟩ := hx.sliceU_inv
    exact ⟨_, key _ _ _ (by omega), .ptr hm⟩
  · cases hv

/-! ### Operands -/
theorem mapM_rel {ρ : Operand → Option Value} {ρ' : Operand → Value} (hρ : ∀ x v, ρ x = some v → VR μ v (ρ' x)) : ∀ (l : List Operand) (vs : List Value), l.mapM ρ = some vs → LR μ vs (l.map ρ')
  | [], vs, h => by simp at h; subst h; exact LR.nil
  | x :: l, vs, h => by
    rw [List.mapM_cons] at h
    simp only [bind, Option.bind_eq_some_iff, pure, Option.some.injEq] at h
    obtain ⟨v, hv, r, hr, rfl⟩ := h
    exact LR.cons (hρ x v hv) (mapM_rel hρ l r hr)

theorem parts_rel {ρ : Operand → Option Value} {ρ' : Operand → Value} (hρ : ∀ x v, ρ x = some v → VR μ v (ρ' x)) : ∀ (l : List (Nat × Operand)) (ps : List (Nat × Value)),
    l.mapM (fun p => (ρ p.2).map fun x => (p.1, x)) = some ps → PR μ ps (l.map fun p => (p.1, ρ' p.2))
  | [], ps, h => by simp at h; subst h; exact ⟨rfl, fun k x y a => by simp at a⟩
  | p :: l, ps, h => by
    rw [List.mapM_cons] at h
    simp only [bind, Option.bind_eq_some_iff, pure, Option.some.injEq] at h
    obtain ⟨v, hv, r, hr, rfl⟩ := h
    rw [Option.map_eq_some_iff] at hv
    obtain ⟨u, hu, rfl⟩ := hv
    exact PR.cons rfl (hρ _ _ hu) (parts_rel hρ l r hr)

theorem opt_rel {ρ : Operand → Option Value} {ρ' : Operand → Value} (hρ : ∀ x v, ρ x = some v → VR μ v (ρ' x)) {o : Option Operand} {v : Option Value} (h : optA ρ o = some v) : OVR μ v (o.map ρ') := by
  unfold optA at h
  split at h
  · cases h; trivial
  · split at h
    · rename_i x u hu; cases h; exact hρ _ _ hu
    · cases h

/-- What is known behind an operation. -/
def Done (P : Program) (F : Nat → Prop) (w0 : World) (μ : Mp) (h : AH) (w : World) (s : Sem Next) (v : Value) (h' : AH) : Prop :=
  ∃ μ' w' r v', s.run P w = .ok r w' ∧ (r = .value v' ∨ (r = .skip ∧ v' = undef)) ∧ VR μ' v v' ∧ HR F w0 μ' h' w' ∧ Ext μ μ' h h'

theorem Done.quiet (H : HR F w0 μ h w) {s : Sem Value} {v v' : Value} (hs : s.run P w = .ok v' w) (hv : VR μ v v') : Done P F w0 μ h w (do pure (.value (← s))) v h :=
  ⟨μ, w, .value v', v', by simp [hs], .inl rfl, hv, H, Ext.refl μ h⟩
theorem Done.of {s : Sem Value} {v : Value} {h' : AH} (hs : ∃ μ' w' v', s.run P w = .ok v' w' ∧ VR μ' v v' ∧ HR F w0 μ' h' w' ∧ Ext μ μ' h h') : Done P F w0 μ h w (do pure (.value (← s))) v h' := by
  obtain ⟨μ', w', v', h1, h2, h3, h4⟩ := hs
  exact ⟨μ', w', .value v', v', by simp [h1], .inl rfl, h2, h3, h4⟩
theorem Done.same {s : Sem Value} {v : Value} {h' : AH} (hs : ∃ w', s.run P w = .ok v w' ∧ plainV v = true ∧ HR F w0 μ h' w' ∧ Ext μ μ h h') : Done P F w0 μ h w (do pure (.value (← s))) v h' := by
  obtain ⟨w', h1, h2, h3, h4⟩ := hs
  exact ⟨μ, w', .value v, v, by simp [h1], .inl rfl, .plain h2, h3, h4⟩
theorem Done.unit {s : Sem Unit} {h' : AH} (hs : ∃ w', s.run P w = .ok () w' ∧ HR F w0 μ h' w' ∧ Ext μ μ h h') : Done P F w0 μ h w (do s; pure .skip) undef h' := by
  obtain ⟨w', h1, h3, h4⟩ := hs
  exact ⟨μ, w', .skip, undef, by simp [h1], .inr ⟨rfl, rfl⟩, VR.undef, h3, h4⟩

theorem LR.one {a b : List Value} {x : Value} (h : LR μ a b) (e : a = [x]) : ∃ y, b = [y] ∧ VR μ x y := by
  subst e
  match b, h with
  | [y], h => exact ⟨y, rfl, h.head⟩
  | [], h => have := h.1; simp at this
  | _ :: _ :: _, h => have := h.1; simp at this
theorem LR.two {a b : List Value} {x y : Value} (h : LR μ a b) (e : a = [x, y]) : ∃ x' y', b = [x', y'] ∧ VR μ x x' ∧ VR μ y y' := by
  subst e
  match b, h with
  | [u, v], h => exact ⟨u, v, rfl, h.head, h.tail.head⟩
  | [], h => have := h.1; simp at this
  | [_], h => have := h.1; simp at this
  | _ :: _ :: _ :: _, h => have := h.1; simp at this

theorem builtin_ok (H : HR F w0 μ h w) {b : Builtin} {ts : Array TypeId} {ty : TypeId} {cs : Array Bool} {l : List Value} {args : Array Value} {v : Value} {h' : AH} (hv : builtinA P b ts.toList l h = some (v, h')) (hl : LR μ l args.toList) :
    Done P F w0 μ h w (builtin b ts ty cs args) v h' := by
  have arr : ∀ {α : Type} {a : Array α} {l : List α}, a.toList = l → a = l.toArray := fun h => by rw [← h]
  unfold builtinA at hv
  split at hv
  · rename_i t tx s x hts
    obtain ⟨s', x', e, h1, h2⟩ := hl.two rfl
    rw [arr hts, arr e]
    exact Done.of (append_ok H hv h1 h2)
  · rename_i t x hts
    obtain ⟨x', e, h1⟩ := hl.one rfl
    rw [Option.map_eq_some_iff] at hv
    obtain ⟨v1, hv, q⟩ := hv
    cases q
    rw [arr hts, arr e]
    obtain ⟨q1, q2⟩ := len_ok (ty := ty) H hv h1
    exact Done.quiet H q1 (.plain q2)
  · rename_i t x hts
    obtain ⟨x', e, h1⟩ := hl.one rfl
    rw [Option.map_eq_some_iff] at hv
    obtain ⟨v1, hv, q⟩ := hv
    cases q
    rw [arr hts, arr e]
    obtain ⟨q1, q2⟩ := cap_ok (w := w) (ty := ty) hv h1
    exact Done.quiet H q1 (.plain q2)
  · rename_i t tx d x hts
    obtain ⟨d', x', e, h1, h2⟩ := hl.two rfl
    rw [arr hts, arr e]
    exact Done.same (copy_ok H hv h1 h2)
  · rw [Option.map_eq_some_iff] at hv
    obtain ⟨v1, hv, q⟩ := hv
    cases q
    unfold minMaxA at hv
    split at hv
    · rename_i k n l'
      cases hargs : args.toList with
      | nil => rw [hargs] at hl; have := hl.1; simp at this
      | cons y l2 =>
        rw [hargs] at hl
        cases hl.head.int_inv
        obtain ⟨q1, q2⟩ := max_ok (P := P) (w := w) l' l2 k n v hv hl.tail
        refine Done.quiet H (s := Builtin.max_ ts ty args) (v' := v) ?_ (.plain q2)
        simp [Builtin.max_, hargs, q1]
    · cases hv
  · rw [Option.map_eq_some_iff] at hv
    obtain ⟨v1, hv, q⟩ := hv
    cases q
    unfold minMaxA at hv
    split at hv
    · rename_i k n l'
      cases hargs : args.toList with
      | nil => rw [hargs] at hl; have := hl.1; simp at this
      | cons y l2 =>
        rw [hargs] at hl
        cases hl.head.int_inv
        obtain ⟨q1, q2⟩ := min_ok (P := P) (w := w) l' l2 k n v hv hl.tail
        refine Done.quiet H (s := Builtin.min_ ts ty args) (v' := v) ?_ (.plain q2)
        simp [Builtin.min_, hargs, q1]
    · cases hv
  · rename_i t tk m k hts
    obtain ⟨m', k', e, h1, h2⟩ := hl.two rfl
    rw [Option.map_eq_some_iff] at hv
    obtain ⟨h1', hv, q⟩ := hv
    cases q
    rw [arr hts, arr e]
    obtain ⟨w', q1, q2, q3⟩ := delete_ok (tk := tk) (ty := ty) H hv h1 h2
    exact Done.of ⟨μ, w', _, q1, VR.undef, q2, q3⟩
  · rename_i t x hts
    obtain ⟨x', e, h1⟩ := hl.one rfl
    rw [Option.map_eq_some_iff] at hv
    obtain ⟨h1', hv, q⟩ := hv
    cases q
    rw [arr hts, arr e]
    obtain ⟨w', q1, q2, q3⟩ := clear_ok (ty := ty) H hv h1
    exact Done.of ⟨μ, w', _, q1, VR.undef, q2, q3⟩
  · rename_i x
    obtain ⟨x', e, h1⟩ := hl.one rfl
    rw [Option.map_eq_some_iff] at hv
    obtain ⟨v1, hv, q⟩ := hv
    cases q
    rw [arr e]
    obtain ⟨v', q1, q2⟩ := sliceData_ok (P := P) (w := w) (ts := ts) (ty := ty) hv h1
    exact Done.quiet H q1 q2
  · rename_i t tl p n hts
    obtain ⟨p', n', e, h1, h2⟩ := hl.two rfl
    rw [arr hts, arr e]
    exact Done.same (unsafeString_ok H hv h1 h2)
  · cases hv

set_option maxHeartbeats 2000000 in
/-- EVERY OPERATION THAT IS NO CALL OF A FUNCTION. -/
theorem opA_ok (H : HR F w0 μ h w) {ρ : Operand → Option Value} {ρ' : Operand → Value} (hρ : ∀ x v, ρ x = some v → VR μ v (ρ' x)) {o : Oper} {v : Value} {h' : AH} (hv : opA P ρ o.op h = some (v, h')) :
    Done P F w0 μ h w (execOp ρ' o) v h' := by
  have vq : ∀ {r : Option Value}, r.map (·, h) = some (v, h') → r = some v ∧ h' = h := by
    intro r hr; rw [Option.map_eq_some_iff] at hr; obtain ⟨u, h1, h2⟩ := hr; cases h2; exact ⟨h1, rfl⟩
  have uq : ∀ {r : Option AH}, r.map (undef, ·) = some (v, h') → r = some h' ∧ v = undef := by
    intro r hr; rw [Option.map_eq_some_iff] at hr; obtain ⟨u, h1, h2⟩ := hr; cases h2; exact ⟨h1, rfl⟩
  unfold execOp
  unfold opA at hv
  split at hv <;> rename_i ho <;> simp only [ho]
  · obtain ⟨h1, rfl⟩ := vq hv
    exact ⟨μ, w, _, _, rfl, .inl rfl, hρ _ _ h1, H, Ext.refl μ _⟩
  · obtain ⟨h1, rfl⟩ := vq hv
    exact ⟨μ, w, _, _, rfl, .inl rfl, hρ _ _ h1, H, Ext.refl μ _⟩
  · split at hv
    · rename_i c a b h1 h2 h3
      cases hv
      have hc := (hρ _ _ h1).bool_inv
      refine ⟨μ, w, .value _, _, by simp [hc, asBool]; rfl, .inl rfl, ?_, H, Ext.refl μ _⟩
      cases c
      · exact hρ _ _ h3
      · exact hρ _ _ h2
    · cases hv
  · -- alloc
    split at hv
    · rename_i e z hz
      obtain ⟨z1, z2, _⟩ := zeroA_ok (w := w) (μ := μ) hz
      obtain ⟨μ', w', a, q1, q2, q3, q4⟩ := newVar_ok (P := P) H _ z2 hv
      exact Done.of ⟨μ', w', _, by simp [Instr.alloc, z1, q1], q2, q3, q4⟩
    · cases hv
  · -- box
    split at hv
    · rename_i x hx
      obtain ⟨μ', w', a, q1, q2, q3, q4⟩ := newVar_ok (P := P) H _ (hρ _ _ hx) hv
      exact Done.of ⟨μ', w', _, by simp [Instr.box, q1], q2, q3, q4⟩
    · cases hv
  · -- build
    split at hv
    · rename_i t parts _ ps hps
      obtain ⟨h1, rfl⟩ := vq hv
      obtain ⟨v', q1, q2⟩ := build_ok (w := w) (ps' := parts.map fun (i, x) => (i, ρ' x)) h1 (by rw [Array.toList_map]; exact parts_rel hρ _ _ hps)
      exact Done.quiet H q1 q2
    · cases hv
  · -- buildSlice
    split at hv
    · rename_i t n parts _ ps hps
      have q := buildSlice_ok (P := P) (ps' := parts.map fun (i, x) => (i, ρ' x)) H hv (by rw [Array.toList_map]; exact parts_rel hρ _ _ hps)
      exact Done.of (s := Instr.buildSlice t n (parts.map fun (i, x) => (i, ρ' x))) q
    · cases hv
  · -- load
    split at hv
    · rename_i i o ha
      obtain ⟨h1, rfl⟩ := vq hv
      obtain ⟨v', q1, q2⟩ := load_ok (P := P) H h1 (hρ _ _ ha)
      exact Done.quiet H q1 q2
    · cases hv
  · -- store
    split at hv
    · rename_i i o x ha hx
      obtain ⟨h1, rfl⟩ := uq hv
      exact Done.unit (let ⟨w', a, b, c⟩ := store_ok (P := P) H h1 (hρ _ _ ha) (hρ _ _ hx); ⟨w', a, b, c⟩)
    · cases hv
  · -- nilCheck
    split at hv
    · rename_i t _ a ha
      obtain ⟨h1, rfl⟩ := vq hv
      cases h1
      have hr := hρ _ _ ha
      obtain ⟨i, o, sp⟩ := a
      generalize ρ' t = y at hr ⊢
      cases hr with
      | plain hp => simp [plainV] at hp
      | ptr hm => exact ⟨μ, w, _, _, rfl, .inl rfl, .ptr hm, H, Ext.refl μ _⟩
    · rename_i f a b ha
      obtain ⟨h1, rfl⟩ := vq hv
      cases h1
      have hr := hρ _ _ ha
      obtain ⟨f', c', e, q1, q2⟩ := hr.func_inv
      refine ⟨μ, w, .value _, _, by simp [e], .inl rfl, VR.func_of q1 q2, H, Ext.refl μ _⟩
    · cases hv
  · -- binOp
    split at hv
    · rename_i x y hx hy
      obtain ⟨h1, rfl⟩ := vq hv
      obtain ⟨q1, q2⟩ := bin_ok (w := w) _ _ h1 (hρ _ _ hx) (hρ _ _ hy)
      exact Done.quiet H q1 (.plain q2)
    · cases hv
  · -- unOp
    split at hv
    · rename_i x hx
      obtain ⟨h1, rfl⟩ := vq hv
      obtain ⟨q1, q2⟩ := un_ok (P := P) (w := w) h1 (hρ _ _ hx)
      exact Done.quiet H q1 (.plain q2)
    · cases hv
  · -- convert
    split at hv
    · rename_i x hx
      obtain ⟨h1, rfl⟩ := vq hv
      obtain ⟨v', q1, q2⟩ := convert_ok H h1 (hρ _ _ hx)
      exact Done.quiet H q1 q2
    · cases hv
  · -- sliceToArrayPointer
    split at hv
    · rename_i x hx
      obtain ⟨h1, rfl⟩ := vq hv
      obtain ⟨v', q1, q2⟩ := arrayAt_ok (P := P) (w := w) h1 (hρ _ _ hx)
      exact Done.quiet H q1 q2
    · cases hv
  · -- makeFunc
    split at hv
    · rename_i fn first captured _ _ a b ha hb
      obtain ⟨h1, rfl⟩ := vq hv
      cases h1
      refine Done.quiet H (s := Instr.makeFunc fn (first.map ρ') (captured.map ρ')) (v' := .func fn (first.map ρ') (captured.map ρ')) rfl (VR.func_of ?_ ?_)
      · rw [Array.toList_map]; exact mapM_rel hρ _ _ ha
      · rw [Array.toList_map]; exact mapM_rel hρ _ _ hb
    · cases hv
  · -- makeMap
    simp only [AH.fst_new, Option.some.injEq, Prod.mk.injEq] at hv
    obtain ⟨rfl, rfl⟩ := hv
    exact Done.of (makeMap_ok H _)
  · -- makeSlice
    split at hv
    · rename_i l c hl hc
      exact Done.of (makeSlice_ok H hv (hρ _ _ hl) (hρ _ _ hc))
    · cases hv
  · -- slice
    split at hv
    · rename_i x lo hi mx hx hlo hhi hmx
      obtain ⟨h1, rfl⟩ := vq hv
      obtain ⟨v', q1, q2⟩ := slice_ok (P := P) (w := w) h1 (hρ _ _ hx) (opt_rel hρ hlo) (opt_rel hρ hhi) (opt_rel hρ hmx)
      exact Done.quiet H q1 q2
    · cases hv
  · -- fieldAddr
    split at hv
    · rename_i x hx
      obtain ⟨h1, rfl⟩ := vq hv
      obtain ⟨v', q1, q2⟩ := fieldAddr_ok (w := w) h1 (hρ _ _ hx)
      exact Done.quiet H q1 q2
    · cases hv
  · -- field
    split at hv
    · rename_i x hx
      obtain ⟨h1, rfl⟩ := vq hv
      obtain ⟨v', q1, q2⟩ := field_ok (w := w) h1 (hρ _ _ hx)
      exact Done.quiet H q1 q2
    · cases hv
  · -- indexAddr
    split at hv
    · rename_i x i hx hi
      obtain ⟨h1, rfl⟩ := vq hv
      obtain ⟨v', q1, q2⟩ := indexAddr_ok (w := w) h1 (hρ _ _ hx) (hρ _ _ hi)
      exact Done.quiet H q1 q2
    · cases hv
  · -- index
    split at hv
    · rename_i x i hx hi
      obtain ⟨h1, rfl⟩ := vq hv
      obtain ⟨v', q1, q2⟩ := index_ok (w := w) h1 (hρ _ _ hx) (hρ _ _ hi)
      exact Done.quiet H q1 q2
    · cases hv
  · -- lookup
    split at hv
    · rename_i m k hm hk
      obtain ⟨h1, rfl⟩ := vq hv
      obtain ⟨v', q1, q2⟩ := lookup_ok H h1 (hρ _ _ hm) (hρ _ _ hk)
      exact Done.quiet H q1 q2
    · cases hv
  · -- mapUpdate
    split at hv
    · rename_i m k x hm hk hx
      obtain ⟨h1, rfl⟩ := uq hv
      exact Done.unit (mapUpdate_ok H h1 (hρ _ _ hm) (hρ _ _ hk) (hρ _ _ hx))
    · cases hv
  · -- insert
    split at hv
    · rename_i m k x hm hk hx
      obtain ⟨h1, rfl⟩ := uq hv
      exact Done.unit (mapUpdate_ok H h1 (hρ _ _ hm) (hρ _ _ hk) (hρ _ _ hx))
    · cases hv
  · -- range
    split at hv
    · rename_i x hx
      exact Done.of (range_ok H hv (hρ _ _ hx))
    · cases hv
  · -- next
    split at hv
    · rename_i it hit
      exact Done.of (let ⟨w', a, b, c, d⟩ := next_ok (P := P) (ty := o.type) H hv (hρ _ _ hit); ⟨μ, w', v, a, b, c, d⟩)
    · cases hv
  · -- extract
    split at hv
    · rename_i t i _ vs hx
      obtain ⟨h1, rfl⟩ := vq hv
      obtain ⟨vs', e, hl⟩ := (hρ _ _ hx).tuple_inv
      obtain ⟨v', q1, q2⟩ := hl.at_ (k := i) (by simpa using h1)
      rw [Array.getElem?_toList] at q1
      exact Done.quiet H (by simp [Instr.extract, e, q1]) q2
    · cases hv
  · -- makeInterface
    split at hv
    · rename_i x hx
      obtain ⟨h1, rfl⟩ := vq hv
      obtain ⟨v', q1, q2⟩ := makeIface_ok (w := w) h1 (hρ _ _ hx)
      exact Done.quiet H q1 q2
    · cases hv
  · -- typeAssert
    split at hv
    · rename_i x xt _ _ _ x' hx
      obtain ⟨h1, rfl⟩ := vq hv
      obtain ⟨v', q1, q2⟩ := assert_ok (w := w) (xt := xt) h1 (hρ _ _ hx)
      exact Done.quiet H q1 q2
    · cases hv
  · -- a builtin's call
    split at hv
    · rename_i b args ts _ l hl
      have := fun cs => builtin_ok (ty := o.type) (cs := cs) (args := args.map ρ') H hv (by rw [Array.toList_map]; exact mapM_rel hρ _ _ hl)
      simp only [resolve, invoke, pure_bind]
      exact this _
    · cases hv
  · cases hv

end
end Go.R

/- The abstract machine's walk: operations, regions in any order, code and calls. -/
namespace Go.R
set_option linter.unusedVariables false
set_option linter.unusedSimpArgs false
open Go
noncomputable section

inductive AExit where
  | normal
  | exit (id : Nat)
  | ret

structure AF where
  tm : T Value
  sz : Nat
  h : AH

def AF.put (a : AF) (dst : Option Tmp) (v : Value) (h : AH) : AF :=
  match dst with
  | some d => Nat.rec (motive := fun _ => AF) { tm := a.tm, sz := 0, h := h }
      (fun s _ => { tm := Bool.rec (motive := fun _ => T Value) a.tm (a.tm.set d v) (Nat.blt d (Nat.succ s)), sz := Nat.succ s, h := h }) a.sz
  | none => { tm := a.tm, sz := a.sz, h := h }

theorem AF.put_def (a : AF) (dst : Option Tmp) (v : Value) (h : AH) : a.put dst v h = match dst with
    | some d => { tm := if Nat.blt d a.sz then a.tm.set d v else a.tm, sz := a.sz, h := h }
    | none => { tm := a.tm, sz := a.sz, h := h } := by
  cases dst with
  | none => rfl
  | some d =>
    obtain ⟨tm, sz, h0⟩ := a
    cases sz with
    | zero => rfl
    | succ s =>
      show AF.mk (Bool.rec (motive := fun _ => T Value) tm (tm.set d v) (Nat.blt d (Nat.succ s))) (Nat.succ s) h = AF.mk (if Nat.blt d (s + 1) = true then tm.set d v else tm) (s + 1) h
      cases Nat.blt d (s + 1) <;> rfl

/-- What a guard's operation has yielded, as far as it is known. -/
def yieldA (ops : Array Oper) (tm : T Value) (j : Nat) : Option (Option Bool) :=
  match (ops[j]?).bind (·.dst) with
  | some t => match tm.get t with
    | some (.bool b) => some (some b)
    | some _ => some none
    | none => none
  | none => some none

def wantedA (ops : Array Oper) (tm : T Value) (o : Oper) : Option Bool :=
  match o.guard with
  | none => some true
  | some (j, want) => (yieldA ops tm j).map (· == some want)

def resultsA (P : Program) (tm : T Value) (h : AH) : List ResultVar → Option (List Value)
  | [] => some []
  | .tmp t :: l => match tm.get t, resultsA P tm h l with
    | some v, some vs => some (v :: vs)
    | _, _ => none
  | .cell t ty :: l => match tm.get t, resultsA P tm h l with
    | some (.pointer (some ⟨i, o, none⟩)), some vs => (loadA P ty i o h).map (· :: vs)
    | _, _ => none

def initTm : List Value → Nat → T Value → T Value
  | [], _, t => t
  | v :: l, i, t => initTm l (i + 1) (t.set i v)

abbrev CallF := FuncId → List Value → AH → Out
abbrev Hook := FuncId → List Value → AH → Option Out

/-- The function that a method of a dynamic type is, where the receiver is the value itself. -/
def dispatchA (P : Program) (t : TypeId) (m : String) : Option FuncId :=
  match P.info? t, P.underlying t with
  | some _, some (.pointer _) => none
  | some info, some _ => match info.methods.find? (·.name == m) with
    | some row => match row.path.toList, row.func with
      | [], some (f, false) => some f
      | _, _ => none
    | none => none
  | _, _ => none

def callee? (P : Program) (ρ : Operand → Option Value) (c : Call) : Option (FuncId × List Value) :=
  match c.callee with
  | .value f => match ρ f, c.args.toList.mapM ρ with
    | some (.func (.func f) first captured), some args => some (f, first.toList ++ args ++ captured.toList)
    | _, _ => none
  | .invoke r m => match ρ r, c.args.toList.mapM ρ with
    | some (.iface t v), some args => match dispatchA P t m with
      | some f => some (f, v :: args)
      | none => none
    | _, _ => none
  | _ => none

def callOp? : Op → Option Call
  | .call c => match c.callee with
    | .builtin _ => none
    | _ => some c
  | _ => none

/-- One operation. -/
def stepA (P : Program) (call : CallF) (ρ : Operand → Option Value) (o : Op) (h : AH) : Out :=
  match callOp? o with
  | some c => match callee? P ρ c with
    | some (f, args) => call f args h
    | none => none
  | none => opA P ρ o h

/-- The operations of a region in their listed order; with what stood ahead of each, and the last. -/
def opsL (P : Program) (call : CallF) (ops : Array Oper) : List Oper → AF → Option (AF × List AF)
  | [], a => some (a, [a])
  | o :: l, a =>
    match wantedA ops a.tm o with
    | some true =>
      match stepA P call (evalA a.tm) o.op a.h with
      | some (v, h) => match opsL P call ops l (a.put o.dst v h) with
        | some (a', hs) => some (a', a :: hs)
        | none => none
      | none => none
    | some false => match opsL P call ops l (a.put o.dst undef a.h) with
      | some (a', hs) => some (a', a :: hs)
      | none => none
    | none => none

/-! ### A region whose order is drawn -/
def veqL (f : Value → Value → Bool) : List Value → List Value → Bool
  | [], [] => true
  | a :: l, b :: k => f a b && veqL f l k
  | _, _ => false

def aeq (a b : Addr) : Bool := a.block == b.block && (a.off == b.off && decide (a.spot = b.spot))

def veq : Nat → Value → Value → Bool
  | 0, _, _ => false
  | n + 1, a, b =>
    match a, b with
    | .bool a, .bool b => a == b
    | .int k a, .int k' b => decide (k = k') && decide (a = b)
    | .string a, .string b => decide (a = b)
    | .pointer none, .pointer none => true
    | .pointer (some a), .pointer (some b) => aeq a b
    | .slice none n c, .slice none n' c' => n == n' && c == c'
    | .slice (some a) n c, .slice (some b) n' c' => aeq a b && (n == n' && c == c')
    | .map a, .map b => decide (a = b)
    | .nilFunc, .nilFunc => true
    | .nilIface, .nilIface => true
    | .iface t v, .iface t' v' => t == t' && veq n v v'
    | .func (.func f) a b, .func (.func f') a' b' => f == f' && (veqL (veq n) a.toList a'.toList && veqL (veq n) b.toList b'.toList)
    | .agg a, .agg b => veqL (veq n) a.toList b.toList
    | .tuple a, .tuple b => veqL (veq n) a.toList b.toList
    | _, _ => false

def light (o : Op) : Bool :=
  match o with
  | .move _ | .assign _ | .pick .. | .build .. | .load .. | .nilCheck _ | .binOp .. | .unOp .. | .convert .. | .sliceToArrayPointer .. | .makeFunc .. | .slice .. | .fieldAddr .. | .field .. | .indexAddr .. | .index .. | .lookup .. | .extract .. => true
  | .call c => match c.callee with
    | .builtin .len | .builtin .cap | .builtin .max | .builtin .min => true
    | _ => false
  | _ => false

/-- What looks at no heap. -/
def pureOp (P : Program) (o : Op) : Bool :=
  match o with
  | .move _ | .assign _ | .pick .. | .build .. | .nilCheck _ | .binOp .. | .unOp .. | .sliceToArrayPointer .. | .makeFunc .. | .slice .. | .fieldAddr .. | .field .. | .indexAddr .. | .index .. | .extract .. => true
  | .convert src _ _ => match P.underlying src with
    | some (.int _) => true
    | some .string => true
    | _ => false
  | .call c => match c.callee with
    | .builtin .max | .builtin .min => true
    | _ => false
  | _ => false

def maskOf (ms : List Nat) : List Edge → Nat
  | [] => 0
  | e :: l => if Region.binds .any e then (1 <<< e.on) ||| (ms.getD e.on 0 ||| maskOf ms l) else maskOf ms l

def masks : List Oper → List Nat → List Nat
  | [], ms => ms
  | o :: l, ms => masks l (ms ++ [maskOf ms o.after.toList])

def has (ms : List Nat) (i j : Nat) : Bool := (ms.getD i 0).testBit j

/-- What the region's text must hold: edges lead back; each place is written once, and read behind its writing; what acts stands in one line. -/
def statOp (ops : Array Oper) (ms : List Nat) (i : Nat) (o : Oper) : Bool :=
  o.after.toList.all (fun e => !Region.binds .any e || Nat.blt e.on i) &&
  (let lk := o.looksAt ops
   (List.range ops.size).all fun j => match ops[j]? with
    | none => true
    | some p =>
      (match p.dst with
       | some d => !lk.contains d || (j == i || (has ms i j || has ms j i))
       | none => true) &&
      (j == i || (match p.dst with | some d => o.dst != some d | none => true)) &&
      (light o.op || light p.op || !Nat.blt j i || has ms i j))

def statOk (ops : Array Oper) (ms : List Nat) : Bool :=
  (List.range ops.size).all fun i => match ops[i]? with
    | none => true
    | some o => statOp ops ms i o

def stages (ops : Array Oper) : List Nat :=
  (List.range ops.size).filter (fun i => match ops[i]? with | some o => !light o.op | none => false)

/-- Nothing that acts may come between an operation and its place at a stage. -/
def statPair (ops : Array Oper) (ms : List Nat) (i p : Nat) : Bool :=
  (Nat.ble i p && (stages ops).all (fun q => Nat.blt q i || Nat.ble p q)) || (has ms i p || (stages ops).any (fun q => Nat.blt q p && has ms q i))

/-- The operations that look at the heap, with the stages at which they may come to stand. -/
def dynPairs (P : Program) (ops : Array Oper) (ms : List Nat) : List (Nat × Nat) :=
  (List.range ops.size).flatMap fun i => match ops[i]? with
    | some o => if light o.op && !pureOp P o.op then ((stages ops ++ [ops.size]).filter fun p => !statPair ops ms i p).map fun p => (i, p) else []
    | none => []

def dynOk (P : Program) (ops : Array Oper) (ms : List Nat) (hs : List AF) : Bool :=
  (dynPairs P ops ms).all fun q => match ops[q.1]?, hs[q.2]?, hs[q.1]?, hs[q.1 + 1]? with
    | some o, some ap, some ai, some an => wantedA ops ai.tm o == some false || (match opA P (evalA ai.tm) o.op ap.h with
      | some (v, _) => match o.dst with
        | some d => match an.tm.get d with
          | some v' => veq 20 v v'
          | none => false
        | none => true
      | none => false)
    | _, _, _, _ => false

def drawA (P : Program) (call : CallF) (ops : Array Oper) (a : AF) : Option AF :=
  match opsL P call ops ops.toList a with
  | some (a', hs) =>
    if statOk ops (masks ops.toList []) then
      if dynOk P ops (masks ops.toList []) hs then some a' else none
    else none
  | none => none

/-! One new variable that no edge binds: it may be born at any time. -/
def flL (d : Tmp) : Nat → List Oper → List Oper
  | _, [] => []
  | 0, o :: l => { o with op := .move (.tmp d) } :: l
  | k + 1, o :: l => o :: flL d k l

def flFind : List Oper → Nat → Option (Nat × Tmp × TypeId)
  | [], _ => none
  | o :: l, k => match o.op, o.guard, o.dst with
    | .alloc e, none, some d => if o.after.toList.all (fun x => !Region.binds .any x) then some (k, d, e) else flFind l (k + 1)
    | _, _, _ => flFind l (k + 1)

def floatA (P : Program) (call : CallF) (ops : Array Oper) (a : AF) : Option AF :=
  match flFind ops.toList 0 with
  | some (k, d, e) => match zeroA P e with
    | some z => match Nat.blt d a.sz with
      | true => drawA P call (flL d k ops.toList).toArray { tm := a.tm.set d (.pointer (some ⟨a.h.next, 0, none⟩)), sz := a.sz, h := (a.h.new (.cells z.cells.toList true [] (some e))).2 }
      | false => none
    | none => none
  | none => none

def regionA (P : Program) (call : CallF) (ops : Array Oper) (draw : Bool) (a : AF) : Option AF :=
  match draw with
  | true => match drawA P call ops a with
    | some a' => some a'
    | none => floatA P call ops a
  | false => match opsL P call ops ops.toList a with
    | some (a', _) => some a'
    | none => none

/-! ### A loop over a map whose rounds only look -/
def T.del {α : Type} : T α → Nat → T α
  | .nil, _ => .nil
  | .node l v r, k => match k with
    | 0 => .node l none r
    | k + 1 => if k % 2 = 0 then .node (l.del (k / 2)) v r else .node l v (r.del (k / 2))

def delL (tm : T Value) : List Tmp → T Value
  | [] => tm
  | t :: l => (delL tm l).del t

def dstsL (ops : List Oper) : List Tmp := ops.filterMap (·.dst)

def dstsC : Code → List Tmp
  | .region _ ops _ => dstsL ops.toList
  | .seq a b => dstsC a ++ dstsC b
  | .cond _ a b => dstsC a ++ dstsC b
  | .block _ a => dstsC a
  | .scope a => dstsC a
  | _ => []

def litL (W : List Tmp) (ops : List Oper) : Bool :=
  ops.all fun o => light o.op && (match o.dst with | some d => W.contains d | none => true)

def litC (W : List Tmp) : Code → Bool
  | .skip | .label _ | .exit _ | .ret => true
  | .region _ ops draw => !draw && litL W ops.toList
  | .seq a b => litC W a && litC W b
  | .cond _ a b => litC W a && litC W b
  | .block _ a => litC W a
  | .scope a => litC W a
  | _ => false

structure Head where
  b1 : Nat
  x : Tmp
  t : Tmp
  it : Tmp
  ops2 : Array Oper
  rest : Code

def headForm : Code → Option Head
  | .block b1 (.loop (.seq (.region _ ops2 false) (.seq (.cond (.tmp t) .skip (.exit b2)) rest))) =>
    match ops2.toList with
    | [o1, o2] =>
      match o1.dst, o1.op, o1.guard, o2.dst, o2.op, o2.guard with
      | some x, .next (.tmp it) false, none, some t2, .extract (.tmp x2) 0, none =>
        if decide (t2 = t) && (decide (x2 = x) && (decide (b2 = b1) && decide (x ≠ t))) then some ⟨b1, x, t, it, ops2, rest⟩ else none
      | _, _, _, _, _, _ => none
    | _ => none
  | _ => none

structure Ent where
  b2 : Nat
  e : Tmp
  ops3 : Array Oper
  l : List Oper
  more : Code

def entryForm (it : Tmp) : Code → Option Ent
  | .block b2 (.seq (.region _ ops3 false) more) =>
    match ops3.toList with
    | o :: l =>
      match o.dst, o.op, o.guard with
      | some e, .entry (.tmp it2), none => if it2 = it then some ⟨b2, e, ops3, l, more⟩ else none
      | _, _, _ => none
    | [] => none
  | _ => none

def catchA (b : Nat) : AExit → AExit
  | .exit id => if id = b then .normal else .exit id
  | x => x

def restA (P : Program) (call : CallF) (ex : Code → AF → Option (AExit × AF)) (it : Tmp) (k v : Value) (rest : Code) (af : AF) : Option (AExit × AF) :=
  match entryForm it rest with
  | some E =>
    match opsL P call E.ops3 E.l (af.put (some E.e) (.tuple #[k, v]) af.h) with
    | some (a1, _) => match ex E.more a1 with
      | some (x, a') => some (catchA E.b2 x, a')
      | none => none
    | none => none
  | none => ex rest af

def litR (W : List Tmp) (it : Tmp) (rest : Code) : Bool :=
  match entryForm it rest with
  | some E => W.contains E.e && (litL W E.l && litC W E.more)
  | none => litC W rest

def aexEq : AExit → AExit → Bool
  | .normal, .normal => true
  | .exit i, .exit j => i == j
  | .ret, .ret => true
  | _, _ => false

def isOut : AExit × AF → Bool
  | (.normal, _) => false
  | _ => true

def agree (f0 : AF) (outs : List (AExit × AF)) (tm : T Value) : List Tmp → T Value
  | [] => tm
  | t :: l => match f0.tm.get t with
    | some v => if outs.all (fun p => match p.2.tm.get t with | some u => veq 20 u v | none => false) then (agree f0 outs tm l).set t v else agree f0 outs tm l
    | none => agree f0 outs tm l

def joinA (b1 : Nat) (tm : T Value) (sz : Nat) (h : AH) (W : List Tmp) (outs : List (AExit × AF)) : Option (AExit × AF) :=
  match outs.filter isOut with
  | [] => some (.normal, { tm := tm, sz := sz, h := h })
  | (x0, f0) :: l =>
    if l.all (fun p => aexEq p.1 x0) then some (catchA b1 x0, { tm := agree f0 ((x0, f0) :: l) tm W, sz := sz, h := h })
    else none

def roundA (P : Program) (call : CallF) (ex : Code → AF → Option (AExit × AF)) (H : Head) (tm : T Value) (sz : Nat) (hd : AH) (p : Value × Value) : Option (AExit × AF) :=
  restA P call ex H.it p.1 p.2 H.rest (((AF.mk tm sz hd).put (some H.x) (.tuple #[.bool true, p.1, p.2]) hd).put (some H.t) (.bool true) hd)

def mapLoopA (P : Program) (call : CallF) (ex : Code → AF → Option (AExit × AF)) (H : Head) (ops : Array Oper) (af : AF) : Option (AExit × AF) :=
  match ops.toList.getLast? with
  | some o =>
    match o.dst, o.op, o.guard with
    | some it2, .range ty x, none =>
      match P.underlying ty, opsL P call ops ops.toList.dropLast af with
      | some (.map _ _), some (a1, _) =>
        match evalA a1.tm x with
        | some (.map (some m)) =>
          match a1.h.get m with
          | .map es =>
            let W := H.x :: H.t :: dstsC H.rest
            if decide (it2 = H.it) && es.all (fun p => plainV p.1) && (!W.contains H.it && (Nat.blt H.it a1.sz && (Nat.blt H.x a1.sz && (Nat.blt H.t a1.sz && litR W H.it H.rest)))) then
              let r := a1.h.new .dead
              let tm := delL (a1.tm.set H.it (.pointer (some ⟨r.1, 0, none⟩))) W
              match es.mapM (roundA P call ex H tm a1.sz (r.2.put m .dead)) with
              | some outs => joinA H.b1 tm a1.sz r.2 W outs
              | none => none
            else none
          | _ => none
        | _ => none
      | _, _ => none
    | _, _, _ => none
  | none => none

def eachForm : Code → Code → Option (Array Oper × Head)
  | .region _ ops false, y => match headForm y with
    | some H => some (ops, H)
    | none => none
  | _, _ => none

def execA (P : Program) (call : CallF) : Nat → Code → AF → Option (AExit × AF)
  | 0, _, _ => none
  | n + 1, c, a =>
    match c with
    | .skip => some (.normal, a)
    | .label _ => some (.normal, a)
    | .region _ ops draw => match regionA P call ops draw a with
      | some a' => some (.normal, a')
      | none => none
    | .seq x y => match eachForm x y with
      | some (ops, H) => mapLoopA P call (execA P call n) H ops a
      | none => match execA P call n x a with
        | some (.normal, a') => execA P call n y a'
        | r => r
    | .cond x t e => match evalA a.tm x with
      | some (.bool true) => execA P call n t a
      | some (.bool false) => execA P call n e a
      | _ => none
    | .block id body => match execA P call n body a with
      | some (.exit id', a') => if id' = id then some (.normal, a') else some (.exit id', a')
      | r => r
    | .loop body => match execA P call n body a with
      | some (.normal, a') => execA P call n (.loop body) a'
      | r => r
    | .exit id => some (.exit id, a)
    | .scope body => execA P call n body a
    | .ret => some (.ret, a)
    | _ => none

/-- A function's body, entered with the values of its first places. -/
def bodyA (P : Program) (call : CallF) (n : Nat) (fn : Func) (c : Code) (args : List Value) (h : AH) : Out :=
  match execA P call n c { tm := initTm args 0 .nil, sz := args.length + (fn.ntmps - args.length), h := h } with
  | some (.normal, a) | some (.ret, a) =>
    match resultsA P a.tm a.h fn.results.toList with
    | some [v] => some (v, a.h)
    | some vs => some (.tuple vs.toArray, a.h)
    | none => none
  | _ => none

def callA (P : Program) (hk : Hook) : Nat → CallF
  | 0, _, _, _ => none
  | n + 1, f, args, h =>
    match hk f args h with
    | some r => r
    | none =>
      match P.funcs[f]? with
      | none => none
      | some fn => match fn.body with
        | none => none
        | some c => bodyA P (callA P hk n) n fn c args h

end
end Go.R

/- What an operation reads, and what it leaves. -/
namespace Go.R
set_option linter.unusedVariables false
set_option linter.unusedSimpArgs false
open Go
noncomputable section

theorem mapM_congr {ρ ρ' : Operand → Option Value} : ∀ {l : List Operand}, (∀ x ∈ l, ρ x = ρ' x) → l.mapM ρ = l.mapM ρ'
  | [], _ => rfl
  | x :: l, h => by
    rw [List.mapM_cons, List.mapM_cons, h x (by simp), mapM_congr (l := l) fun y hy => h y (by simp [hy])]

theorem mapP_congr {ρ ρ' : Operand → Option Value} : ∀ {l : List (Nat × Operand)}, (∀ x ∈ l.map (·.2), ρ x = ρ' x) →
    l.mapM (fun p => (ρ p.2).map fun x => (p.1, x)) = l.mapM (fun p => (ρ' p.2).map fun x => (p.1, x))
  | [], _ => rfl
  | x :: l, h => by
    rw [List.mapM_cons, List.mapM_cons, h x.2 (by simp), mapP_congr (l := l) fun y hy => h y (by simp at hy ⊢; exact .inr hy)]

theorem optA_congr {ρ ρ' : Operand → Option Value} {x : Option Operand} (h : ∀ y, x = some y → ρ y = ρ' y) : optA ρ x = optA ρ' x := by
  cases x with
  | none => rfl
  | some y => simp only [optA, h y rfl]

theorem call_args_congr {ρ ρ' : Operand → Option Value} {c : Call} (h : ∀ x ∈ c.operands, ρ x = ρ' x) : c.args.toList.mapM ρ = c.args.toList.mapM ρ' :=
  mapM_congr fun x hx => h x (by simp at hx; simp [Call.operands, hx])

theorem opA_congr {P : Program} {ρ ρ' : Operand → Option Value} {o : Op} {hp : AH} (h : ∀ x ∈ o.operands, ρ x = ρ' x) : opA P ρ o hp = opA P ρ' o hp := by
  cases o <;> simp only [Op.operands] at h <;> simp only [opA]
  case build t ps => rw [mapP_congr (l := ps.toList) fun x hx => h x (by simpa using hx)]
  case buildSlice t n ps => rw [mapP_congr (l := ps.toList) fun x hx => h x (by simpa using hx)]
  case makeFunc fn first captured =>
    rw [mapM_congr (l := first.toList) fun x hx => h x (by simp at hx; simp [hx]), mapM_congr (l := captured.toList) fun x hx => h x (by simp at hx; simp [hx])]
  case makeMap t r => cases r <;> rfl
  case slice t x lo hi mx =>
    rw [h x (by simp), optA_congr (x := lo) fun y hy => h y (by simp [hy]), optA_congr (x := hi) fun y hy => h y (by simp [hy]), optA_congr (x := mx) fun y hy => h y (by simp [hy])]
  case call c =>
    obtain ⟨cal, args, tys⟩ := c
    cases cal with
    | builtin b => simp only [call_args_congr h]
    | value f => rfl
    | invoke r m => rfl
  all_goals (first | rfl | (simp_all; done))

theorem callee_congr {P : Program} {ρ ρ' : Operand → Option Value} {c : Call} (h : ∀ x ∈ c.operands, ρ x = ρ' x) : callee? P ρ c = callee? P ρ' c := by
  unfold callee?
  cases hc : c.callee with
  | value f => simp only [h f (by simp [Call.operands, hc]), call_args_congr h]
  | invoke r m => simp only [h r (by simp [Call.operands, hc]), call_args_congr h]
  | builtin b => rfl

theorem stepA_congr {P : Program} {call : CallF} {ρ ρ' : Operand → Option Value} {o : Op} {hp : AH} (h : ∀ x ∈ o.operands, ρ x = ρ' x) :
    stepA P call ρ o hp = stepA P call ρ' o hp := by
  unfold stepA
  cases hc : callOp? o with
  | none => exact opA_congr h
  | some c =>
    have : o = .call c := by
      cases o <;> simp [callOp?] at hc
      rename_i c'
      split at hc <;> simp_all
    subst this
    simp only [callee_congr (c := c) h]

theorem veqL_sound {f : Value → Value → Bool} (hf : ∀ a b, f a b = true → a = b) : ∀ (l k : List Value), veqL f l k = true → l = k
  | [], [], _ => rfl
  | a :: l, b :: k, h => by
    simp only [veqL, Bool.and_eq_true] at h
    rw [hf a b h.1, veqL_sound hf l k h.2]
  | [], _ :: _, h => by simp [veqL] at h
  | _ :: _, [], h => by simp [veqL] at h

theorem aeq_sound {a b : Addr} (h : aeq a b = true) : a = b := by
  obtain ⟨a1, a2, a3⟩ := a
  obtain ⟨b1, b2, b3⟩ := b
  simp [aeq] at h
  simp [h]

theorem arr_eq {a b : Array Value} (h : a.toList = b.toList) : a = b := by
  cases a; cases b; simp at h; simp [h]

theorem veq_sound : ∀ (n : Nat) (a b : Value), veq n a b = true → a = b
  | 0, _, _, h => by simp [veq] at h
  | n + 1, a, b, h => by
    have ih := veq_sound n
    unfold veq at h
    split at h <;> (try simp only [Bool.and_eq_true, beq_iff_eq, decide_eq_true_eq] at h)
    · rw [h]
    · rw [h.1, h.2]
    · rw [h]
    · rfl
    · rw [aeq_sound h]
    · rw [h.1, h.2]
    · rw [aeq_sound h.1, h.2.1, h.2.2]
    · rw [h]
    · rfl
    · rfl
    · rw [h.1, ih _ _ h.2]
    · rw [h.1, arr_eq (veqL_sound ih _ _ h.2.1), arr_eq (veqL_sound ih _ _ h.2.2)]
    · rw [arr_eq (veqL_sound ih _ _ h)]
    · rw [arr_eq (veqL_sound ih _ _ h)]
    · cases h

theorem light_call {o : Op} (h : light o = true) : callOp? o = none := by
  cases o <;> simp [light, callOp?] at h ⊢
  split at h <;> simp_all

theorem light_stay {P : Program} {ρ : Operand → Option Value} {o : Op} {h h' : AH} {v : Value} (hl : light o = true) (hv : opA P ρ o h = some (v, h')) : h' = h := by
  have vq : ∀ {r : Option Value}, r.map (·, h) = some (v, h') → h' = h := by
    intro r hr; rw [Option.map_eq_some_iff] at hr; obtain ⟨u, h1, h2⟩ := hr; cases h2; rfl
  cases o <;> simp only [light, Bool.false_eq_true] at hl <;> simp only [opA] at hv
  case call c =>
    obtain ⟨cal, args, tys⟩ := c
    cases cal with
    | builtin b =>
      simp only at hv hl
      split at hv
      · unfold builtinA at hv
        split at hv <;> first | (simp at hl; done) | exact vq hv | (cases hv; done)
      · cases hv
    | value f => simp at hl
    | invoke r m => simp at hl
  all_goals (repeat' split at hv)
  all_goals first | exact vq hv | (cases hv; done) | (cases hv; rfl)

theorem pure_op {P : Program} {ρ : Operand → Option Value} {o : Op} {h h' : AH} {v : Value} (hl : pureOp P o = true) (hv : opA P ρ o h = some (v, h')) (h2 : AH) : opA P ρ o h2 = some (v, h2) := by
  have vq : ∀ {r : Option Value}, r.map (·, h) = some (v, h') → r.map (·, h2) = some (v, h2) := by
    intro r hr; rw [Option.map_eq_some_iff] at hr ⊢; obtain ⟨u, h1, h2⟩ := hr; cases h2; exact ⟨v, h1, rfl⟩
  cases o <;> simp only [pureOp, Bool.false_eq_true] at hl <;> simp only [opA] at hv ⊢
  case call c =>
    obtain ⟨cal, args, tys⟩ := c
    cases cal with
    | builtin b =>
      try simp only at hv
      try simp only at hl
      try simp only
      split at hv
      · rename_i l hl2
        try simp only [hl2]
        unfold builtinA at hv ⊢
        split at hl
        · rename_i e; cases e; exact vq hv
        · rename_i e; cases e; exact vq hv
        · cases hl
      · cases hv
    | value f => simp at hl
    | invoke r m => simp at hl
  case convert src dst x =>
    split at hv
    · rename_i y hy
      try simp only [hy]
      split at hl
      · rename_i k hk
        unfold convertA at hv ⊢
        simp only [hk] at hv ⊢
        split at hv <;> simp_all
      · rename_i hk
        unfold convertA at hv ⊢
        simp only [hk] at hv ⊢
        split at hv <;> simp_all
      · cases hl
    · cases hv
  all_goals (repeat' split at hv)
  all_goals first | exact vq hv | (cases hv; done) | (simp_all; done)

end
end Go.R

/- One operation, proved against the model. -/
namespace Go.R
set_option linter.unusedVariables false
set_option linter.unusedSimpArgs false
open Go Go.RowKit

def Goes (P : Program) (f : FuncId) (args : Array Value) (w : World) (R : Value → World → Prop) : Prop :=
  ((callFunc f args).run P w = .ok (.enter f args) w ∧ Calls P f args w fun e w' => ∃ v, e = .returned v ∧ R v w') ∨
  (∃ v w', (callFunc f args).run P w = .ok (.value v) w' ∧ R v w')

theorem Goes.mono {P : Program} {f : FuncId} {args : Array Value} {w : World} {R R' : Value → World → Prop} (h : Goes P f args w R) (hr : ∀ v w', R v w' → R' v w') : Goes P f args w R' := by
  rcases h with ⟨h1, h2⟩ | ⟨v, w', h1, h2⟩
  · exact .inl ⟨h1, Calls.mono h2 fun e w' ⟨v, hv, r⟩ => ⟨v, hv, hr _ _ r⟩⟩
  · exact .inr ⟨v, w', h1, hr _ _ h2⟩

def CallOk (P : Program) (call : CallF) : Prop :=
  ∀ (f : FuncId) (args : List Value) (h : AH) (v : Value) (h' : AH), call f args h = some (v, h') →
    ∀ (F : Nat → Prop) (w0 : World) (μ : Mp) (w : World) (args' : Array Value), HR F w0 μ h w → LR μ args args'.toList →
      Goes P f args' w fun v' w' => ∃ μ', VR μ' v v' ∧ HR F w0 μ' h' w' ∧ Ext μ μ' h h'

section
variable {P : Program} {F : Nat → Prop} {w0 : World} {μ : Mp} {h : AH} {w : World}

theorem callOp_spec {o : Op} {c : Call} (h : callOp? o = some c) : o = .call c := by
  cases o <;> simp [callOp?] at h
  rename_i c'
  split at h <;> simp_all

theorem dispatch_run {t : TypeId} {m : String} {f : FuncId} (h : dispatchA P t m = some f) (n : Nat) (v : Value) : (method (n + 1) t v m).run P w = .ok (f, v) w := by
  unfold dispatchA at h
  split at h
  · cases h
  · rename_i info d hno hi hd
    split at h
    · rename_i row hrow
      split at h
      · rename_i f0 hp hf
        cases h
        unfold method
        simp only [Sem.run_bind, run_info hi, Result.andThen_ok, hrow, hp, Go.follow, Sem.run_pure, hf]
        have hr : ∀ wr, (receiverAt t (.val v) false wr).run P w = .ok v w := by
          intro wr
          unfold receiverAt
          cases d <;> first | exact (hno _ rfl).elim | simp [run_under hd, Place.get]
        simp [hr]
      · cases h
    · cases h
  · cases h

/-- A call of a function, as the model runs it. -/
theorem callee_run {o : Oper} {c : Call} {a : Act} {ρ : Operand → Option Value} {f : FuncId} {args : List Value} (ho : o.op = .call c) (hq : callee? P ρ c = some (f, args))
    (hr : ∀ x v, ρ x = some v → VR μ v (a.eval x)) : ∃ args' : Array Value, LR μ args args'.toList ∧ (execOp a.eval o).run P w = (callFunc f args').run P w := by
  unfold callee? at hq
  split at hq
  · rename_i fv hfv
    split at hq
    · rename_i f0 first captured args0 hf0 ha0
      cases hq
      obtain ⟨f', c', e1, l1, l2⟩ := (hr _ _ hf0).func_inv
      have l3 : LR μ args0 (c.args.map a.eval).toList := by rw [Array.toList_map]; exact mapM_rel hr _ _ ha0
      refine ⟨(f' ++ c.args.map a.eval) ++ c', by simp only [Array.toList_append]; exact (l1.append l3).append l2, ?_⟩
      simp only [execOp, ho, resolve, hfv, e1, Deferred.ofValue, pure_bind, invoke]
    · cases hq
  · rename_i r m hrm
    split at hq
    · rename_i t v args0 hv0 ha0
      split at hq
      · rename_i f0 hd
        cases hq
        obtain ⟨v', e1, l1⟩ := (hr _ _ hv0).iface_inv
        have l3 : LR μ args0 (c.args.map a.eval).toList := by rw [Array.toList_map]; exact mapM_rel hr _ _ ha0
        refine ⟨#[v'] ++ c.args.map a.eval, by simp only [Array.toList_append]; exact LR.cons l1 l3, ?_⟩
        have ex : (#[Value.iface t v'] ++ c.args.map a.eval).extract 1 (#[Value.iface t v'] ++ c.args.map a.eval).size = c.args.map a.eval := by
          apply Array.ext'
          simp only [Array.toList_extract, List.extract_eq_take_drop, Array.toList_append]
          simp
          rw [List.take_of_length_le (by simp)]
        have e0 : (#[Value.iface t v'] ++ c.args.map a.eval)[0]? = some (Value.iface t v') := by
          rw [Array.getElem?_append_left (by simp)]; rfl
        have hd' : ∀ n : Nat, n ≠ 0 → (method n t v' m).run P w = .ok (f, v') w := fun n hn => by
          obtain ⟨k, rfl⟩ := Nat.exists_eq_succ_of_ne_zero hn
          exact dispatch_run hd k v'
        simp only [execOp, ho, resolve, hrm, e1, pure_bind, invoke, e0, ex, callMethod]
        have hp : (program).run P w = .ok P w := rfl
        simp only [Sem.run_bind, hp, Result.andThen_ok, hd' _ (by simp [Made.depth] : P.types.size + Made.depth ≠ 0)]
      · cases hq
    · cases hq
  · cases hq

theorem step_ok {call : CallF} (hc : CallOk P call) (H : HR F w0 μ h w) {o : Oper} {a : Act} {ρ : Operand → Option Value}
    (hρ : ∀ x ∈ o.op.operands, ∀ v, ρ x = some v → VR μ v (a.eval x)) {v : Value} {h' : AH} (hv : stepA P call ρ o.op h = some (v, h'))
    {next : Act → World → Prop} {Q : Exit → Act → World → Prop}
    (K : ∀ μ' v' w', VR μ' v v' → HR F w0 μ' h' w' → Ext μ μ' h h' → next (a.put o.dst v') w') : o.wp P a w next Q := by
  classical
  obtain ⟨ρ1, hρ1⟩ : ∃ ρ1 : Operand → Option Value, ρ1 = fun x => if x ∈ o.op.operands then ρ x else none := ⟨_, rfl⟩
  have e : stepA P call ρ1 o.op h = some (v, h') := by
    rw [← hv]; exact stepA_congr fun x hx => by simp [hρ1, hx]
  have hr : ∀ x v, ρ1 x = some v → VR μ v (a.eval x) := by
    intro x v hx
    subst hρ1
    by_cases hm : x ∈ o.op.operands
    · simp only [hm, if_true] at hx; exact hρ x hm v hx
    · simp [hm] at hx
  unfold stepA at e
  cases hcall : callOp? o.op with
  | none =>
    rw [hcall] at e
    obtain ⟨μ', w', r, v', h1, h2, h3, h4, h5⟩ := opA_ok H hr e
    unfold Oper.wp
    rw [h1]
    rcases h2 with rfl | ⟨rfl, rfl⟩
    · exact K _ _ _ h3 h4 h5
    · exact K _ _ _ h3 h4 h5
  | some c =>
    rw [hcall] at e
    have ho := callOp_spec hcall
    simp only at e
    cases hq : callee? P ρ1 c with
    | none => rw [hq] at e; cases e
    | some fa =>
      obtain ⟨f, args⟩ := fa
      rw [hq] at e
      simp only at e
      obtain ⟨as', l, ex⟩ := callee_run (w := w) (a := a) ho hq hr
      have G := hc _ _ _ _ _ e F w0 μ w as' H l
      unfold Oper.wp
      rw [ex]
      rcases G with ⟨g1, g2⟩ | ⟨v', w', g1, μ', q1, q2, q3⟩
      · rw [g1, Oper.upon_enter]
        refine Calls.mono g2 fun e' w' hh => ?_
        obtain ⟨v', rfl, μ', q1, q2, q3⟩ := hh
        exact K _ _ _ q1 q2 q3
      · rw [g1]
        exact K _ _ _ q1 q2 q3

/-! ### Places -/
def TR (μ : Mp) (tm : T Value) (tmps : Array Value) (d : Nat → Prop) : Prop := ∀ t, d t → ∀ v, tm.get t = some v → VR μ v (tmps.getD t undef)

theorem evalA_ok {tm : T Value} {a : Act} {d : Nat → Prop} (h : TR μ tm a.tmps d) {x : Operand} (hx : ∀ t, x = .tmp t → d t) {v : Value} (hv : evalA tm x = some v) : VR μ v (a.eval x) := by
  cases x with
  | tmp t => exact h t (hx t rfl) v hv
  | const c =>
    simp only [evalA] at hv
    split at hv
    · cases hv; exact .plain ‹_›
    · cases hv
  | global g => cases hv
  | func f => cases hv; exact VR.func_of LR.nil LR.nil

theorem vr_bool {v : Value} {b : Bool} (h : VR μ v (.bool b)) : v = .bool b := by cases h; rfl

theorem yield_ok {tm : T Value} {tmps : Array Value} {d : Nat → Prop} (h : TR μ tm tmps d) {ops : Array Oper} {j : Nat} (hd : ∀ t, (ops[j]?).bind (·.dst) = some t → d t)
    {r : Option Bool} (hy : yieldA ops tm j = some r) : yielded ops tmps j = r := by
  unfold yieldA at hy
  unfold yielded
  cases ho : (ops[j]?).bind (·.dst) with
  | none => rw [ho] at hy; cases hy; rfl
  | some t =>
    rw [ho] at hy
    simp only [Option.bind_some] at hy ⊢
    cases hg : tm.get t with
    | none => rw [hg] at hy; cases hy
    | some v =>
      have this := h t (hd t ho) v hg
      rw [hg] at hy
      cases ht : tmps[t]? with
      | none =>
        have e : tmps.getD t undef = undef := by simp [Array.getD_eq_getD_getElem?, ht]
        rw [e] at this
        cases v <;> first | (cases hy; rfl) | cases this
      | some x =>
        have e : tmps.getD t undef = x := by simp [Array.getD_eq_getD_getElem?, ht]
        rw [e] at this
        cases v with
        | bool b => rw [this.bool_inv]; cases hy; rfl
        | _ =>
          cases hy
          cases x with
          | bool b => have := vr_bool this; cases this
          | _ => rfl

theorem wanted_ok {tm : T Value} {tmps : Array Value} {d : Nat → Prop} (h : TR μ tm tmps d) {ops : Array Oper} {o : Oper} (hd : ∀ t ∈ o.looksAt ops, d t)
    {b : Bool} (hw : wantedA ops tm o = some b) : Region.wanted o (yielded ops tmps) = b := by
  unfold wantedA at hw
  unfold Region.wanted
  cases hg : o.guard with
  | none => rw [hg] at hw; cases hw; rfl
  | some g =>
    obtain ⟨j, q⟩ := g
    rw [hg] at hw
    simp only [Option.map_eq_some_iff] at hw ⊢
    obtain ⟨r, h1, h2⟩ := hw
    rw [yield_ok h (fun t ht => hd t (List.mem_append_right _ (by simp [hg, ht]))) h1, h2]

theorem T.get_put (tm : T Value) (d : Nat) (v : Value) (t : Nat) : (tm.set d v).get t = if t = d then some v else tm.get t := T.get_set' tm d v t

theorem TR.put {tm : T Value} {a : Act} {d : Nat → Prop} {dst : Option Tmp} {h0 : AH} (h : TR μ tm a.tmps d) {v v' : Value} (hv : VR μ v v') {d' : Nat → Prop} (hb : ∀ t, a.tmps.size ≤ t → d t) (hd : ∀ t, d' t → d t ∨ dst = some t) :
    TR μ (AF.put ⟨tm, a.tmps.size, h0⟩ dst v h0).tm (a.put dst v').tmps d' := by
  intro t ht u hu
  cases dst with
  | none =>
    rcases hd t ht with h1 | h1
    · exact h t h1 u hu
    · cases h1
  | some k =>
    simp only [AF.put_def, Act.put, Nat.blt_eq] at hu ⊢
    by_cases hk : k < a.tmps.size
    · simp only [hk, if_true, T.get_put] at hu
      by_cases e : t = k
      · subst e
        simp only [if_true, Option.some.injEq] at hu
        subst hu
        simp [Array.getD_eq_getD_getElem?, hk, hv]
      · rcases hd t ht with h1 | h1
        · have := h t h1 u (by simpa [e] using hu)
          simp only [Array.getD_eq_getD_getElem?] at this ⊢
          rw [Array.getElem?_setIfInBounds_ne (Ne.symm e)]
          exact this
        · exact absurd (Option.some.inj h1).symm e
    · simp only [hk, if_false] at hu
      have h1 : d t := by
        rcases hd t ht with h1 | h1
        · exact h1
        · exact hb t ((Option.some.inj h1) ▸ Nat.le_of_not_lt hk)
      have := h t h1 u hu
      rw [Array.setIfInBounds_eq_of_size_le (Nat.le_of_not_lt hk)]
      exact this

end
end Go.R

/- Regions: in their listed order, and in any order. -/
namespace Go.R
set_option linter.unusedVariables false
set_option linter.unusedSimpArgs false
open Go Go.RowKit

section
variable {P : Program} {F : Nat → Prop} {w0 : World}

structure AR (F : Nat → Prop) (w0 : World) (μ : Mp) (af : AF) (a : Act) (w : World) : Prop where
  heap : HR F w0 μ af.h w
  tm : TR μ af.tm a.tmps (fun _ => True)
  sz : af.sz = a.tmps.size

def Onward (F : Nat → Prop) (w0 : World) (μ : Mp) (h : AH) (D : List Deferred) (af : AF) (a : Act) (w : World) : Prop :=
  ∃ μ', AR F w0 μ' af a w ∧ Ext μ μ' h af.h ∧ a.defers = D

theorem TR.mono {μ μ' : Mp} (s : Sub μ μ') {tm : T Value} {tmps : Array Value} {d : Nat → Prop} (h : TR μ tm tmps d) : TR μ' tm tmps d := fun t ht v hv => (h t ht v hv).mono s

theorem AF.put_tm (a : AF) (dst : Option Tmp) (v : Value) (h h2 : AH) : (a.put dst v h).tm = (AF.put ⟨a.tm, a.sz, h2⟩ dst v h2).tm := by simp only [AF.put_def]; cases dst <;> rfl
theorem AF.put_sz (a : AF) (dst : Option Tmp) (v : Value) (h : AH) : (a.put dst v h).sz = a.sz := by simp only [AF.put_def]; cases dst <;> rfl
theorem AF.put_h (a : AF) (dst : Option Tmp) (v : Value) (h : AH) : (a.put dst v h).h = h := by simp only [AF.put_def]; cases dst <;> rfl
theorem Act.put_size (a : Act) (dst : Option Tmp) (v : Value) : (a.put dst v).tmps.size = a.tmps.size := by cases dst <;> simp [Act.put]
theorem Act.put_def (a : Act) (dst : Option Tmp) (v : Value) : (a.put dst v).defers = a.defers := by cases dst <;> rfl

theorem AR.put {μ μ' : Mp} {af : AF} {a : Act} {w w' : World} (R : AR F w0 μ af a w) {h' : AH} (E : Ext μ μ' af.h h') {v v' : Value} (hv : VR μ' v v') (H : HR F w0 μ' h' w') (dst : Option Tmp) :
    AR F w0 μ' (af.put dst v h') (a.put dst v') w' where
  heap := by rw [AF.put_h]; exact H
  tm := by
    rw [AF.put_tm af dst v h' h', R.sz]
    exact (R.tm.mono E.sub).put hv (fun _ _ => trivial) (fun _ _ => .inl trivial)
  sz := by rw [AF.put_sz, Act.put_size, R.sz]

theorem ops_ok {call : CallF} (hc : CallOk P call) {ops : Array Oper} {Q : Exit → Act → World → Prop} :
    ∀ (l : List Oper) (k : Nat) (af af' : AF) (hs : List AF) (μ : Mp) (a : Act) (w : World), (∀ i : Nat, l[i]? = ops[k + i]?) → opsL P call ops l af = some (af', hs) → AR F w0 μ af a w →
      (∀ a' w', Onward F w0 μ af.h a.defers af' a' w' → Q .normal a' w') → wpOps P ops Q (List.range' k l.length) a w
  | [], k, af, af', hs, μ, a, w, _, he, R, K => by
    simp only [opsL, Option.some.injEq, Prod.mk.injEq] at he
    obtain ⟨rfl, _⟩ := he
    exact K a w ⟨μ, R, Ext.refl μ _, rfl⟩
  | o :: l, k, af, af', hs, μ, a, w, hl, he, R, K => by
    have ho : ops[k]? = some o := by have := hl 0; simpa using this.symm
    have hl' : ∀ i : Nat, l[i]? = ops[k + 1 + i]? := fun i => by
      have := hl (i + 1)
      rw [List.getElem?_cons_succ] at this
      rw [this]; congr 1; omega
    simp only [List.length_cons, List.range'_succ, wpOps, ho]
    simp only [opsL] at he
    split at he
    · rename_i hwant
      have hw := wanted_ok (o := o) (ops := ops) R.tm (fun _ _ => trivial) hwant
      simp only [hw, if_true]
      split at he
      · rename_i v h' hs'
        split at he
        · rename_i a2 hs2 hrec
          cases he
          refine .inl (step_ok hc R.heap (fun x _ v hv => evalA_ok R.tm (fun _ _ => trivial) hv) hs' fun μ' v' w' q1 q2 q3 => ?_)
          refine ops_ok hc l (k + 1) _ _ _ μ' _ w' hl' hrec (R.put q3 q1 q2 o.dst) fun a' w'' ⟨μ2, r1, r2, r3⟩ => K a' w'' ⟨μ2, r1, ?_, ?_⟩
          · rw [AF.put_h] at r2; exact q3.trans r2
          · rw [r3, Act.put_def]
        · cases he
      · cases he
    · rename_i hwant
      have hw := wanted_ok (o := o) (ops := ops) R.tm (fun _ _ => trivial) hwant
      simp only [hw]
      split at he
      · rename_i a2 hs2 hrec
        cases he
        refine ops_ok hc l (k + 1) _ _ _ μ _ w hl' hrec (R.put (Ext.refl μ _) VR.undef R.heap o.dst) fun a' w'' ⟨μ2, r1, r2, r3⟩ => K a' w'' ⟨μ2, r1, ?_, ?_⟩
        · rw [AF.put_h] at r2; exact r2
        · rw [r3, Act.put_def]
      · cases he
    · cases he

/-- What an operation did, as far as it was wanted. -/
def Did (P : Program) (call : CallF) (ops : Array Oper) (tm : T Value) (o : Oper) (h : AH) (v : Value) (h' : AH) : Prop :=
  (wantedA ops tm o = some true ∧ stepA P call (evalA tm) o.op h = some (v, h')) ∨ (wantedA ops tm o = some false ∧ v = undef ∧ h' = h)

/-! ### What the listed order tells -/
structure Traced (P : Program) (call : CallF) (ops : Array Oper) (l : List Oper) (a a' : AF) (hs : List AF) : Prop where
  sz : a'.sz = a.sz
  first : hs[0]? = some a
  last : hs[l.length]? = some a'
  keep : ∀ t, (∀ (j : Nat) p, l[j]? = some p → p.dst ≠ some t) ∨ a.sz ≤ t → a'.tm.get t = a.tm.get t
  at_ : ∀ (i : Nat) o, l[i]? = some o → ∃ ai : AF, hs[i]? = some ai ∧ (∀ t, (∀ (j : Nat) p, i ≤ j → l[j]? = some p → p.dst ≠ some t) → a'.tm.get t = ai.tm.get t) ∧
    (∀ t, (∀ (j : Nat) p, j < i → l[j]? = some p → p.dst ≠ some t) → ai.tm.get t = a.tm.get t) ∧
    ∃ v an, hs[i + 1]? = some an ∧ Did P call ops ai.tm o ai.h v an.h ∧
      (∀ d, o.dst = some d → d < a.sz → an.tm.get d = some v) ∧
      (∀ d, o.dst = some d → d < a.sz → (∀ (j : Nat) p, i < j → l[j]? = some p → p.dst ≠ some d) → a'.tm.get d = some v)

theorem Traced.cons {call : CallF} {ops : Array Oper} {o : Oper} {l : List Oper} {a a' : AF} {hs : List AF} {v : Value} {h' : AH}
    (hx : Did P call ops a.tm o a.h v h')
    (T : Traced P call ops l (a.put o.dst v h') a' hs) : Traced P call ops (o :: l) a a' (a :: hs) where
  sz := by rw [T.sz, AF.put_sz]
  first := rfl
  last := by rw [List.length_cons, List.getElem?_cons_succ]; exact T.last
  keep := fun t ht => by
    rw [T.keep t (by rw [AF.put_sz]; exact ht.imp (fun h j p hp => h (j + 1) p (by simpa using hp)) id)]
    rw [AF.put_tm _ _ _ _ a.h]
    cases hd : o.dst with
    | none => rfl
    | some d =>
      simp only [AF.put_def, Nat.blt_eq]
      split
      · rename_i hlt
        rw [_root_.Go.R.T.get_set', if_neg]
        rcases ht with h | h
        · exact fun e => h 0 o rfl (by rw [hd, e])
        · intro e; subst e; exact absurd hlt (Nat.not_lt.2 h)
      · rfl
  at_ := by
    intro i o' hi
    have hput : ∀ t, o.dst ≠ some t → (a.put o.dst v h').tm.get t = a.tm.get t := by
      intro t ht
      rw [AF.put_tm _ _ _ _ a.h]
      cases hd : o.dst with
      | none => rfl
      | some d =>
        simp only [AF.put_def, Nat.blt_eq]
        split
        · rw [_root_.Go.R.T.get_set', if_neg]
          exact fun e => ht (by rw [hd, e])
        · rfl
    cases i with
    | zero =>
      simp only [List.getElem?_cons_zero, Option.some.injEq] at hi
      subst hi
      have hset : ∀ d, o.dst = some d → d < a.sz → (a.put o.dst v h').tm.get d = some v := by
        intro d hd hlt
        rw [hd]
        simp only [AF.put_def, Nat.blt_eq, hlt, if_true, _root_.Go.R.T.get_set']
      refine ⟨a, rfl, fun t ht => ?_, fun t _ => rfl, v, a.put o.dst v h', ?_, by rw [AF.put_h]; exact hx, hset, ?_⟩
      · rw [T.keep t (.inl fun j p hp => ht (j + 1) p (Nat.zero_le _) (by simpa using hp)), hput t (ht 0 o (Nat.le_refl _) rfl)]
      · rw [List.getElem?_cons_succ]
        exact T.first
      · intro d hd hlt hno
        rw [T.keep d (.inl fun j p hp => hno (j + 1) p (Nat.succ_pos _) (by simpa using hp))]
        exact hset d hd hlt
    | succ i =>
      rw [List.getElem?_cons_succ] at hi
      obtain ⟨ai, q1, q2, q2', v2, an, q3, q4, q5', q5⟩ := T.at_ i o' hi
      refine ⟨ai, by rw [List.getElem?_cons_succ]; exact q1, fun t ht => q2 t fun j p hj hp => ht (j + 1) p (by omega) (by simpa using hp), fun t ht => ?_, v2, an, by rw [List.getElem?_cons_succ]; exact q3, q4, ?_, ?_⟩
      · rw [q2' t fun j p hj hp => ht (j + 1) p (by omega) (by simpa using hp), hput t (ht 0 o (Nat.succ_pos _) rfl)]
      · intro d hd hlt
        exact q5' d hd (by rw [AF.put_sz]; exact hlt)
      · intro d hd hlt hno
        exact q5 d hd (by rw [AF.put_sz]; exact hlt) fun j p hj hp => hno (j + 1) p (by omega) (by simpa using hp)

theorem traced {call : CallF} {ops : Array Oper} : ∀ (l : List Oper) (a a' : AF) (hs : List AF), opsL P call ops l a = some (a', hs) → Traced P call ops l a a' hs
  | [], a, a', hs, he => by
    simp only [opsL, Option.some.injEq, Prod.mk.injEq] at he
    obtain ⟨rfl, rfl⟩ := he
    exact ⟨rfl, rfl, rfl, fun _ _ => rfl, fun i o hi => by simp at hi⟩
  | o :: l, a, a', hs, he => by
    simp only [opsL] at he
    split at he
    · rename_i hw
      split at he
      · rename_i v h' hst
        split at he
        · rename_i a2 hs2 hrec
          cases he
          exact Traced.cons (v := v) (h' := h') (.inl ⟨hw, hst⟩) (traced l _ _ _ hrec)
        · cases he
      · cases he
    · rename_i hw
      split at he
      · rename_i a2 hs2 hrec
        cases he
        exact Traced.cons (v := undef) (h' := a.h) (.inr ⟨hw, rfl, rfl⟩) (traced l _ _ _ hrec)
      · cases he
    · cases he

end
end Go.R

/- A region in any order its edges allow. -/
namespace Go.R
set_option linter.unusedVariables false
set_option linter.unusedSimpArgs false
open Go Go.RowKit

theorem maskOf_bits (L : Nat → Prop) {ms : List Nat} : ∀ {l : List Edge}, (∀ e ∈ l, Region.binds .any e = true → L e.on) →
    (∀ e ∈ l, Region.binds .any e = true → ∀ j, (ms.getD e.on 0).testBit j = true → L j) → ∀ j, (maskOf ms l).testBit j = true → L j
  | [], _, _, j, h => by simp [maskOf] at h
  | e :: l, h1, h2, j, h => by
    simp only [maskOf] at h
    split at h
    · rename_i hb
      simp only [Nat.testBit_or, Bool.or_eq_true] at h
      rcases h with h | h | h
      · rw [Nat.testBit_shiftLeft] at h
        have e1 : j = e.on := by
          simp only [Bool.and_eq_true, decide_eq_true_eq] at h
          obtain ⟨a, b⟩ := h
          have := Nat.testBit_one_eq_true_iff_self_eq_zero.1 b
          omega
        subst e1; exact h1 e (by simp) hb
      · exact h2 e (by simp) hb j h
      · exact maskOf_bits L (fun e he => h1 e (by simp [he])) (fun e he => h2 e (by simp [he])) j h
    · exact maskOf_bits L (fun e he => h1 e (by simp [he])) (fun e he => h2 e (by simp [he])) j h

theorem masks_pre : ∀ (l : List Oper) (ms : List Nat), (masks l ms).length = ms.length + l.length ∧ (∀ i, i < ms.length → (masks l ms)[i]? = ms[i]?) ∧
    ∀ i o, l[i]? = some o → ∃ pre : List Nat, (masks l ms)[ms.length + i]? = some (maskOf pre o.after.toList) ∧ pre.length = ms.length + i ∧ ∀ j, j < pre.length → pre[j]? = (masks l ms)[j]?
  | [], ms => ⟨by simp [masks], fun _ _ => rfl, fun i o h => by simp at h⟩
  | o :: l, ms => by
    obtain ⟨h1, h2, h3⟩ := masks_pre l (ms ++ [maskOf ms o.after.toList])
    simp only [masks]
    simp only [List.length_append, List.length_cons, List.length_nil] at h1 h2 h3
    refine ⟨by rw [h1]; simp; omega, fun i hi => ?_, fun i o' hi => ?_⟩
    · rw [h2 i (by omega), List.getElem?_append_left hi]
    · cases i with
      | zero =>
        simp only [List.getElem?_cons_zero, Option.some.injEq] at hi
        subst hi
        refine ⟨ms, ?_, by simp, fun j hj => ?_⟩
        · rw [h2 _ (by omega)]; simp
        · rw [h2 j (by omega), List.getElem?_append_left hj]
      | succ i =>
        rw [List.getElem?_cons_succ] at hi
        obtain ⟨pre, q1, q2, q3⟩ := h3 i o' hi
        exact ⟨pre, by rw [← q1]; congr 1; omega, by rw [q2]; omega, q3⟩

/-- What must be listed ahead of an operation whose own edges are met. -/
theorem has_listed {ops : Array Oper} {L : Nat → Prop} (hback : ∀ (i : Nat) o, ops[i]? = some o → ∀ e ∈ o.after, Region.binds .any e = true → e.on < i)
    (hdown : ∀ (i : Nat) o, L i → ops[i]? = some o → ∀ e ∈ o.after, Region.binds .any e = true → L e.on) :
    ∀ (n i : Nat) o, i < n → ops[i]? = some o → (∀ e ∈ o.after, Region.binds .any e = true → L e.on) → ∀ j, has (masks ops.toList []) i j = true → L j := by
  intro n
  induction n with
  | zero => intro i o hi; omega
  | succ n ih =>
    intro i o hi ho hr j hj
    obtain ⟨h1, _, h3⟩ := masks_pre ops.toList []
    obtain ⟨pre, q1, q2, q3⟩ := h3 i o (by simpa using ho)
    simp only [List.length_nil, Nat.zero_add] at q1 q2 h1
    unfold has at hj
    rw [List.getD_eq_getElem?_getD, q1] at hj
    refine maskOf_bits L (ms := pre) (l := o.after.toList) (fun e he hb => hr e (by simpa using he) hb) (fun e he hb k hk => ?_) j hj
    have hlt := hback i o ho e (by simpa using he) hb
    have hL := hr e (by simpa using he) hb
    have hsz : i < ops.size := (Array.getElem?_eq_some_iff.1 ho).1
    obtain ⟨o', ho'⟩ : ∃ o', ops[e.on]? = some o' := ⟨ops[e.on]'(by omega), Array.getElem?_eq_getElem (by omega)⟩
    refine ih e.on o' (by omega) ho' (hdown e.on o' hL ho') k ?_
    unfold has
    rw [List.getD_eq_getElem?_getD] at hk ⊢
    rwa [← q3 e.on (by omega)]

theorem statOk_spec {ops : Array Oper} {ms : List Nat} (h : statOk ops ms = true) {i : Nat} {o : Oper} (ho : ops[i]? = some o) :
    (∀ e ∈ o.after, Region.binds .any e = true → e.on < i) ∧
    ∀ (j : Nat) p, ops[j]? = some p → (∀ d, p.dst = some d → d ∈ o.looksAt ops → j = i ∨ has ms i j = true ∨ has ms j i = true) ∧ (j ≠ i → ∀ d, p.dst = some d → o.dst ≠ some d) ∧
      (light o.op = false → light p.op = false → j < i → has ms i j = true) := by
  simp only [statOk, List.all_eq_true, List.mem_range] at h
  have h1 := h i (Array.getElem?_eq_some_iff.1 ho).1
  simp only [ho, statOp, Bool.and_eq_true, List.all_eq_true, List.mem_range] at h1
  obtain ⟨ha, hb⟩ := h1
  refine ⟨fun e he hbd => ?_, fun j p hp => ?_⟩
  · have := ha e (by simpa using he)
    simp only [Bool.or_eq_true, Bool.not_eq_true', Nat.blt_eq] at this
    rcases this with h | h
    · rw [hbd] at h; cases h
    · exact h
  · have := hb j (Array.getElem?_eq_some_iff.1 hp).1
    simp only [hp, Bool.and_eq_true] at this
    obtain ⟨⟨c1, c2⟩, c3⟩ := this
    refine ⟨fun d hd hm => ?_, fun hne d hd => ?_, fun ho' hp' hlt => ?_⟩
    · simp only [hd, Bool.or_eq_true, Bool.not_eq_true', beq_iff_eq] at c1
      rcases c1 with c | c
      · exact absurd (List.contains_iff_mem.2 hm) (by rw [c]; simp)
      · exact c
    · simp only [hd, Bool.or_eq_true, beq_iff_eq, bne_iff_ne] at c2
      exact c2.resolve_left hne
    · simp only [ho', hp', Bool.false_or, Bool.or_eq_true, Bool.not_eq_true'] at c3
      rcases c3 with c | c
      · have : Nat.blt j i = true := by rw [Nat.blt_eq]; exact hlt
        rw [c] at this; cases this
      · exact c
end Go.R

/- The region's invariant, whatever has been done so far. -/
namespace Go.R
set_option linter.unusedVariables false
set_option linter.unusedSimpArgs false
open Go Go.RowKit

section
variable {P : Program} {F : Nat → Prop} {w0 : World}

theorem looks_tmp {ops : Array Oper} {o : Oper} {t : Tmp} (h : .tmp t ∈ o.op.operands) : t ∈ o.looksAt ops :=
  List.mem_append_left _ (List.mem_filterMap.2 ⟨.tmp t, by simpa using h, rfl⟩)

/-- An operation that looks at the heap answers the same at a stage at which it may come to stand. -/
def DynGood (P : Program) (ops : Array Oper) (hs : List AF) (q : Nat × Nat) : Prop :=
  ∃ o ap ai an, ops[q.1]? = some o ∧ hs[q.2]? = some ap ∧ hs[q.1]? = some ai ∧ hs[q.1 + 1]? = some an ∧
    (wantedA ops ai.tm o = some false ∨ ∃ v h2, opA P (evalA ai.tm) o.op ap.h = some (v, h2) ∧ ∀ d, o.dst = some d → an.tm.get d = some v)

theorem dynOk_good {ops : Array Oper} {ms : List Nat} {hs : List AF} (h : dynOk P ops ms hs = true) : ∀ q ∈ dynPairs P ops ms, DynGood P ops hs q := by
  intro q hq
  simp only [dynOk, List.all_eq_true] at h
  have h1 := h q hq
  split at h1
  · rename_i o ap ai an e1 e2 e3 e4
    refine ⟨o, ap, ai, an, e1, e2, e3, e4, ?_⟩
    rw [Bool.or_eq_true] at h1
    rcases h1 with h1 | h1
    · exact .inl (by simpa using h1)
    · split at h1
      · rename_i v h2 hop
        refine .inr ⟨v, h2, hop, fun d hd => ?_⟩
        rw [hd] at h1
        simp only at h1
        split at h1
        · rename_i v' hg
          rw [hg, veq_sound _ _ _ h1]
        · cases h1
      · cases h1
  · cases h1

/-- What such an operation answers there, and what it has answered. -/
noncomputable def reval (P : Program) (ops : Array Oper) (hs : List AF) (q : Nat × Nat) : Option (Option Value × Option Value) :=
  match ops[q.1]?, hs[q.2]?, hs[q.1]?, hs[q.1 + 1]? with
  | some o, some ap, some ai, some an => match opA P (evalA ai.tm) o.op ap.h with
    | some (v, _) => some (some v, match o.dst with
      | some d => an.tm.get d
      | none => some v)
    | none => none
  | _, _, _, _ => none

theorem reval_good {ops : Array Oper} {ms : List Nat} {hs : List AF} {vs : List Value} (h : (dynPairs P ops ms).map (reval P ops hs) = vs.map fun v => some (some v, some v)) : ∀ q ∈ dynPairs P ops ms, DynGood P ops hs q := by
  intro q hq
  have hm : reval P ops hs q ∈ vs.map fun v => some (some v, some v) := by rw [← h]; exact List.mem_map.2 ⟨q, hq, rfl⟩
  obtain ⟨v, _, hv⟩ := List.mem_map.1 hm
  unfold reval at hv
  split at hv
  · rename_i o ap ai an e1 e2 e3 e4
    split at hv
    · rename_i v1 h2 hop
      refine ⟨o, ap, ai, an, e1, e2, e3, e4, .inr ⟨v1, h2, hop, fun d hd => ?_⟩⟩
      rw [hd] at hv
      simp only [Option.some.injEq, Prod.mk.injEq] at hv
      rw [← hv.1, ← hv.2]
    · cases hv
  · cases hv

/-- What the checks and the listed order give. -/
structure Plan (P : Program) (call : CallF) (ops : Array Oper) (af af' : AF) (hs : List AF) : Prop where
  tr : Traced P call ops ops.toList af af' hs
  st : statOk ops (masks ops.toList []) = true
  dy : ∀ q ∈ dynPairs P ops (masks ops.toList []), DynGood P ops hs q

section
variable {call : CallF} {ops : Array Oper} {af af' : AF} {hs : List AF}

theorem Plan.back (p : Plan P call ops af af' hs) : ∀ (i : Nat) o, ops[i]? = some o → ∀ e ∈ o.after, Region.binds .any e = true → e.on < i :=
  fun _ _ ho => (statOk_spec p.st ho).1

theorem Plan.lt (p : Plan P call ops af af' hs) {i j : Nat} (h : has (masks ops.toList []) i j = true) {o : Oper} (ho : ops[i]? = some o) : j < i :=
  has_listed (L := (· < i)) p.back (fun k o' hk ho' e he hb => Nat.lt_trans (p.back k o' ho' e he hb) hk) (i + 1) i o (Nat.lt_succ_self _) ho (fun e he hb => p.back i o ho e he hb) j h

theorem Plan.before (p : Plan P call ops af af' hs) {i j : Nat} {o : Oper} (ho : ops[i]? = some o) {q : Oper} (hq : ops[j]? = some q) {t : Tmp} (ht : t ∈ o.looksAt ops) (hd : q.dst = some t) :
    j = i ∨ (j < i ∧ has (masks ops.toList []) i j = true) ∨ (i < j ∧ has (masks ops.toList []) j i = true) := by
  rcases ((statOk_spec p.st ho).2 j q hq).1 t hd ht with h | h | h
  · exact .inl h
  · exact .inr (.inl ⟨p.lt h ho, h⟩)
  · exact .inr (.inr ⟨p.lt h hq, h⟩)

theorem Plan.uniq (p : Plan P call ops af af' hs) {i j : Nat} {o q : Oper} (ho : ops[i]? = some o) (hq : ops[j]? = some q) {t : Tmp} (h1 : o.dst = some t) (h2 : q.dst = some t) : j = i := by
  rcases Nat.decEq j i with h | h
  · exact absurd h1 (((statOk_spec p.st ho).2 j q hq).2.1 h t h2)
  · exact h

/-- In the listed order: what operation i did. -/
theorem Plan.at_ (p : Plan P call ops af af' hs) {i : Nat} {o : Oper} (ho : ops[i]? = some o) :
    ∃ ai v an, hs[i]? = some ai ∧ hs[i + 1]? = some an ∧ Did P call ops ai.tm o ai.h v an.h ∧
      (∀ d, o.dst = some d → d < af.sz → an.tm.get d = some v) ∧
      (∀ d, o.dst = some d → d < af.sz → af'.tm.get d = some v) ∧
      (∀ t, (∀ (j : Nat) p, i ≤ j → ops[j]? = some p → p.dst ≠ some t) → af'.tm.get t = ai.tm.get t) ∧
      (∀ t, (∀ (j : Nat) p, j < i → ops[j]? = some p → p.dst ≠ some t) → ai.tm.get t = af.tm.get t) := by
  obtain ⟨ai, q1, q2, q2', v, an, q3, q4, q5', q5⟩ := p.tr.at_ i o (by simpa using ho)
  refine ⟨ai, v, an, q1, q3, q4, q5', fun d hd hlt => q5 d hd hlt fun j q hj hq hd2 => ?_, fun t ht => q2 t fun j q hj hq => ht j q hj (by simpa using hq), fun t ht => q2' t fun j q hj hq => ht j q hj (by simpa using hq)⟩
  have := p.uniq ho (by simpa using hq) hd hd2
  omega

theorem Plan.light_same (p : Plan P call ops af af' hs) {i : Nat} {o : Oper} (ho : ops[i]? = some o) (hl : light o.op = true) : (hs[i + 1]?).map AF.h = (hs[i]?).map AF.h := by
  obtain ⟨ai, v, an, q1, q2, q3, _⟩ := p.at_ ho
  rw [q1, q2]
  simp only [Option.map_some]
  rcases q3 with ⟨_, q3⟩ | ⟨_, _, q3⟩
  · unfold stepA at q3
    rw [light_call hl] at q3
    rw [light_stay hl q3]
  · rw [q3]

theorem Plan.lights (p : Plan P call ops af af' hs) (i : Nat) : ∀ d, i + d ≤ ops.size → (∀ (q : Nat) o, i ≤ q → q < i + d → ops[q]? = some o → light o.op = true) → (hs[i + d]?).map AF.h = (hs[i]?).map AF.h
  | 0, _, _ => rfl
  | d + 1, hd, h => by
    have ho : ops[i + d]? = some (ops[i + d]'(by omega)) := Array.getElem?_eq_getElem (by omega)
    rw [← Nat.add_assoc, p.light_same ho (h _ _ (by omega) (by omega) ho)]
    exact p.lights i d (by omega) fun q o h1 h2 h3 => h q o h1 (by omega) h3

def Stage (ops : Array Oper) (L : Nat → Prop) (p : Nat) : Prop :=
  p ≤ ops.size ∧ (p < ops.size → ∃ o, ops[p]? = some o ∧ light o.op = false) ∧ (∀ (q : Nat) o, ops[q]? = some o → light o.op = false → (q < p ↔ L q))

theorem next_stage (ops : Array Oper) : ∀ d k, k + d = ops.size → ∃ p', k ≤ p' ∧ p' ≤ ops.size ∧ (p' < ops.size → ∃ o, ops[p']? = some o ∧ light o.op = false) ∧
    (∀ (q : Nat) o, k ≤ q → q < p' → ops[q]? = some o → light o.op = true)
  | 0, k, h => ⟨k, Nat.le_refl _, by omega, fun hlt => by omega, fun q o h1 h2 => by omega⟩
  | d + 1, k, h => by
    have ho : ops[k]? = some (ops[k]'(by omega)) := Array.getElem?_eq_getElem (by omega)
    cases hl : light (ops[k]'(by omega)).op with
    | false => exact ⟨k, Nat.le_refl _, by omega, fun _ => ⟨_, ho, hl⟩, fun q o h1 h2 => by omega⟩
    | true =>
      obtain ⟨p', q1, q2, q3, q4⟩ := next_stage ops d (k + 1) (by omega)
      refine ⟨p', by omega, q2, q3, fun q o h1 h2 h3 => ?_⟩
      by_cases e : q = k
      · subst e; rw [ho] at h3; cases h3; exact hl
      · exact q4 q o (by omega) h2 h3

theorem mem_stages {q : Nat} : q ∈ stages ops ↔ ∃ o, ops[q]? = some o ∧ light o.op = false := by
  unfold stages
  rw [List.mem_filter, List.mem_range]
  constructor
  · rintro ⟨h1, h2⟩
    have ho : ops[q]? = some ops[q] := Array.getElem?_eq_getElem h1
    rw [ho] at h2
    exact ⟨_, ho, by simpa using h2⟩
  · rintro ⟨o, h1, h2⟩
    exact ⟨(Array.getElem?_eq_some_iff.1 h1).1, by simp [h1, h2]⟩

/-- What a ready operation does at the stage it meets. -/
theorem Plan.meets (p : Plan P call ops af af' hs) {L : Nat → Prop} {s : Nat} (S : Stage ops L s) (hn : ¬ L ops.size)
    (hdown : ∀ (i : Nat) o, L i → ops[i]? = some o → ∀ e ∈ o.after, Region.binds .any e = true → L e.on)
    {i : Nat} {o : Oper} (ho : ops[i]? = some o) (hun : ¬ L i) (hr : ∀ e ∈ o.after, Region.binds .any e = true → L e.on) {h : AH} (hh : (hs[s]?).map AF.h = some h) :
    ∃ ai s' h' v, hs[i]? = some ai ∧ Stage ops (fun j => j = i ∨ L j) s' ∧ (hs[s']?).map AF.h = some h' ∧ Did P call ops ai.tm o h v h' ∧
      (∀ d, o.dst = some d → d < af.sz → af'.tm.get d = some v) := by
  have hpre : ∀ j, has (masks ops.toList []) i j = true → L j := has_listed p.back hdown (i + 1) i o (Nat.lt_succ_self _) ho hr
  have hsn : ¬ L s := by
    intro hs'
    rcases Nat.lt_or_ge s ops.size with h1 | h1
    · obtain ⟨o', q1, q2⟩ := S.2.1 h1
      exact absurd ((S.2.2 s o' q1 q2).2 hs') (Nat.lt_irrefl _)
    · have : s = ops.size := Nat.le_antisymm S.1 h1
      subst this; exact hn hs'
  obtain ⟨ai, v, an, q1, q2, q3, q4', q4, _⟩ := p.at_ ho
  cases hl : light o.op with
  | true =>
    have S' : Stage ops (fun j => j = i ∨ L j) s := ⟨S.1, S.2.1, fun q o' h1 h2 => by
      rw [S.2.2 q o' h1 h2]
      constructor
      · exact .inr
      · rintro (rfl | h)
        · rw [ho] at h1; cases h1; rw [hl] at h2; cases h2
        · exact h⟩
    have hsm := p.light_same ho hl
    rw [q1, q2] at hsm
    simp only [Option.map_some, Option.some.injEq] at hsm
    rw [hsm] at q3
    rcases q3 with ⟨hw, q3⟩ | ⟨hw, q3⟩
    · have hwn : (wantedA ops ai.tm o == some false) = false := by rw [hw]; rfl
      by_cases hp : pureOp P o.op = true
      · refine ⟨ai, s, h, v, q1, S', hh, .inl ⟨hw, ?_⟩, q4⟩
        unfold stepA at q3 ⊢
        rw [light_call hl] at q3 ⊢
        exact pure_op hp q3 h
      have hilt := (Array.getElem?_eq_some_iff.1 ho).1
      have hmem : s ∈ stages ops ++ [ops.size] := by
        rw [List.mem_append, List.mem_singleton]
        rcases Nat.lt_or_ge s ops.size with h1 | h1
        · exact .inl (mem_stages.2 (S.2.1 h1))
        · exact .inr (Nat.le_antisymm S.1 h1)
      have h2 : statPair ops (masks ops.toList []) i s = true ∨ DynGood P ops hs (i, s) := by
        by_cases hst : statPair ops (masks ops.toList []) i s = true
        · exact .inl hst
        · refine .inr (p.dy (i, s) ?_)
          unfold dynPairs
          rw [List.mem_flatMap]
          refine ⟨i, List.mem_range.2 hilt, ?_⟩
          simp only [ho]
          rw [if_pos (by simp [hl, hp])]
          exact List.mem_map.2 ⟨s, List.mem_filter.2 ⟨hmem, by simpa using hst⟩, rfl⟩
      simp only [statPair, Bool.or_eq_true, Bool.and_eq_true, List.any_eq_true, List.all_eq_true, Nat.ble_eq, Nat.blt_eq] at h2
      rcases h2 with (⟨h2, h3⟩ | (h2 | ⟨q, h2, h3, h4⟩)) | h2
      · have hsame : (hs[s]?).map AF.h = (hs[i]?).map AF.h := by
          have := p.lights i (s - i) (by have := S.1; omega) fun q o' a b c => by
            cases e : light o'.op with
            | true => rfl
            | false => rcases h3 q (mem_stages.2 ⟨o', c, e⟩) with h | h <;> omega
          rwa [Nat.add_sub_cancel' h2] at this
        rw [hsame, q1] at hh
        cases hh
        exact ⟨ai, s, _, v, q1, S', by rw [hsame, q1]; rfl, .inl ⟨hw, q3⟩, q4⟩
      · exact absurd (hpre _ h2) hsn
      · obtain ⟨oq, e1, e2⟩ := mem_stages.1 h2
        have hLq := (S.2.2 q oq e1 e2).1 h3
        exact absurd (has_listed p.back hdown (q + 1) q oq (Nat.lt_succ_self _) e1 (hdown q oq hLq e1) i h4) hun
      · obtain ⟨o2, ap, ai2, an2, d1, d2, d3, d4, dd⟩ := h2
        simp only at d1 d2 d3 d4
        rw [ho] at d1; cases d1
        rw [q1] at d3; cases d3
        rw [q2] at d4; cases d4
        rw [d2] at hh
        simp only [Option.map_some, Option.some.injEq] at hh
        subst hh
        rcases dd with dd | ⟨v2, h3, hop, hdst⟩
        · rw [hw] at dd; cases dd
        · have e := light_stay hl hop
          subst e
          refine ⟨ai, s, _, v2, q1, S', by rw [d2]; rfl, .inl ⟨hw, by unfold stepA; rw [light_call hl]; exact hop⟩, fun d hd hlt => ?_⟩
          have h4 := hdst d hd
          rw [q4' d hd hlt] at h4
          cases h4
          exact q4 d hd hlt
    · exact ⟨ai, s, h, v, q1, S', hh, .inr ⟨hw, q3.1, rfl⟩, q4⟩
  | false =>
    have his : i = s := by
      rcases Nat.lt_trichotomy i s with h1 | h1 | h1
      · exact absurd ((S.2.2 i o ho hl).1 h1) hun
      · exact h1
      · have hlt : s < ops.size := Nat.lt_trans h1 (Array.getElem?_eq_some_iff.1 ho).1
        obtain ⟨os, e1, e2⟩ := S.2.1 hlt
        exact absurd (hpre s (((statOk_spec p.st ho).2 s os e1).2.2 hl e2 h1)) hsn
    subst his
    rw [q1] at hh
    cases hh
    have hlt := (Array.getElem?_eq_some_iff.1 ho).1
    obtain ⟨p', r1, r2, r3, r4⟩ := next_stage ops (ops.size - (i + 1)) (i + 1) (by omega)
    refine ⟨ai, p', an.h, v, q1, ⟨r2, r3, fun q o' h1 h2 => ?_⟩, ?_, q3, q4⟩
    · show q < p' ↔ (q = i ∨ L q)
      rw [← S.2.2 q o' h1 h2]
      constructor
      · intro hq
        rcases Nat.lt_trichotomy q i with h | h | h
        · exact .inr h
        · exact .inl h
        · have := r4 q o' h hq h1; rw [h2] at this; cases this
      · rintro (rfl | h) <;> omega
    · have := p.lights (i + 1) (p' - (i + 1)) (by omega) fun q o' a b c => r4 q o' a (by omega) c
      rw [Nat.add_sub_cancel' r1] at this
      rw [this, q2]; rfl

end
end
end Go.R

/- A region whose order is drawn answers as its listed order does. -/
namespace Go.R
set_option linter.unusedVariables false
set_option linter.unusedSimpArgs false
open Go Go.RowKit

section
variable {P : Program} {F : Nat → Prop} {w0 : World} {call : CallF} {ops : Array Oper} {af af' : AF} {hs : List AF}

def Lst (listed : Array Bool) (i : Nat) : Prop := listed.getD i false = true

theorem Lst.set {listed : Array Bool} {i j : Nat} (hi : i < listed.size) : Lst (listed.setIfInBounds i true) j ↔ (j = i ∨ Lst listed j) := by
  unfold Lst
  by_cases h : j = i
  · subst h; simp [hi]
  · rw [getD_set_ne false (Ne.symm h)]; simp [h]

theorem getD_lst {listed : Array Bool} {j : Nat} (hj : j < listed.size) : listed.getD j true = listed.getD j false := by
  simp [Array.getD_eq_getD_getElem?, hj]

structure Inv (F : Nat → Prop) (w0 : World) (μ0 : Mp) (ops : Array Oper) (af af' : AF) (hs : List AF) (D : List Deferred) (listed : Array Bool) (a : Act) (w : World) : Prop where
  size : listed.size = ops.size
  down : ∀ (i : Nat) o, Lst listed i → ops[i]? = some o → ∀ e ∈ o.after, Region.binds .any e = true → Lst listed e.on
  rest : ∃ s μ h, Stage ops (Lst listed) s ∧ (hs[s]?).map AF.h = some h ∧ HR F w0 μ h w ∧ Ext μ0 μ af.h h ∧
    TR μ af'.tm a.tmps (fun t => a.tmps.size ≤ t ∨ ∀ (i : Nat) o, ops[i]? = some o → o.dst = some t → Lst listed i) ∧
    TR μ af.tm a.tmps (fun t => ∀ (i : Nat) o, ops[i]? = some o → o.dst = some t → ¬ Lst listed i)
  sz : af.sz = a.tmps.size
  dfr : a.defers = D

def unl (listed : Array Bool) : Nat := listed.toList.countP (fun b => !b)

theorem countP_set_lt : ∀ (l : List Bool) (i : Nat), l[i]? = some false → (l.set i true).countP (fun b => !b) < l.countP (fun b => !b)
  | [], i, h => by simp at h
  | b :: l, 0, h => by
    simp only [List.getElem?_cons_zero, Option.some.injEq] at h
    subst h
    simp
  | b :: l, i + 1, h => by
    rw [List.getElem?_cons_succ] at h
    have := countP_set_lt l i h
    simp only [List.set_cons_succ, List.countP_cons]
    omega

theorem unl_set {listed : Array Bool} {i : Nat} (h : listed[i]? = some false) : unl (listed.setIfInBounds i true) < unl listed := by
  unfold unl
  rw [Array.toList_setIfInBounds]
  exact countP_set_lt _ _ (by simpa using h)

theorem unl_zero {listed : Array Bool} (h : unl listed = 0) {i : Nat} (hi : i < listed.size) : Lst listed i := by
  unfold unl at h
  rw [List.countP_eq_zero] at h
  have h1 : listed[i]? = some listed[i] := Array.getElem?_eq_getElem hi
  have := h listed[i] (by simp)
  unfold Lst
  rw [Array.getD_eq_getD_getElem?, h1]
  simpa using this

theorem any_step (hc : CallOk P call) (p : Plan P call ops af af' hs) {μ0 : Mp} {D : List Deferred} {Q : Exit → Act → World → Prop} {listed : Array Bool} {a : Act} {w : World}
    (I : Inv F w0 μ0 ops af af' hs D listed a w) {i : Nat} (hi : i ∈ Region.ready .any ops listed) {K : Act → World → Prop}
    (hK : ∀ a' w', Inv F w0 μ0 ops af af' hs D (listed.setIfInBounds i true) a' w' → K a' w') : wpOp P ops Q i K a w := by
  obtain ⟨h0, o, ho, hall⟩ := mem_ready.1 hi
  have hlt : i < ops.size := (Array.getElem?_eq_some_iff.1 ho).1
  have hun : ¬ Lst listed i := by
    unfold Lst; rw [← getD_lst (by rw [I.size]; exact hlt), h0]; simp
  obtain ⟨s, μ, h, S, hh, H, E, R, R0⟩ := I.rest
  have hn : ¬ Lst listed ops.size := by
    unfold Lst; rw [Array.getD_eq_getD_getElem?, Array.getElem?_eq_none (by rw [I.size]; exact Nat.le_refl _)]; simp
  obtain ⟨ai, s', h', v, hai, S', hh', hrun, hput⟩ := p.meets S hn I.down ho hun hall hh
  have hpre : ∀ j, has (masks ops.toList []) i j = true → Lst listed j := has_listed p.back I.down (i + 1) i o (Nat.lt_succ_self _) ho hall
  have hlook : TR μ ai.tm a.tmps (fun t => t ∈ o.looksAt ops) := by
    intro t ht u hu
    obtain ⟨ai', v', an, q1, _, _, _, _, q5, q6⟩ := p.at_ ho
    rw [hai] at q1
    cases q1
    by_cases hx : ∃ (j : Nat) (q : Oper), ops[j]? = some q ∧ q.dst = some t
    · obtain ⟨j, q, hq, hd⟩ := hx
      rcases p.before ho hq ht hd with rfl | ⟨hlt', hb⟩ | ⟨hlt', hb⟩
      · rw [q6 t fun k r hk hr hd2 => by have := p.uniq hq hr hd hd2; omega] at hu
        refine R0 t (fun k r hr hd2 => by have := p.uniq hq hr hd hd2; rw [this]; exact hun) u hu
      · rw [← q5 t fun k r hk hr hd2 => by have := p.uniq hq hr hd hd2; omega] at hu
        exact R t (.inr fun k r hr hd2 => by have := p.uniq hq hr hd hd2; rw [this]; exact hpre j hb) u hu
      · rw [q6 t fun k r hk hr hd2 => by have := p.uniq hq hr hd hd2; omega] at hu
        refine R0 t (fun k r hr hd2 hL => ?_) u hu
        have := p.uniq hq hr hd hd2
        rw [this] at hL
        exact hun (has_listed p.back I.down (j + 1) j q (Nat.lt_succ_self _) hq (I.down j q hL hq) i hb)
    · rw [← q5 t fun k r hk hr hd2 => hx ⟨k, r, hr, hd2⟩] at hu
      exact R t (.inr fun k r hr hd2 => absurd ⟨k, r, hr, hd2⟩ hx) u hu
  have hset : ∀ j, Lst (listed.setIfInBounds i true) j ↔ (j = i ∨ Lst listed j) := fun j => Lst.set (by rw [I.size]; exact hlt)
  have hLst : (fun j => j = i ∨ Lst listed j) = Lst (listed.setIfInBounds i true) := funext fun j => propext (hset j).symm
  rw [hLst] at S'
  have old : ∀ (v' : Value) (t : Tmp), (a.tmps.size ≤ t ∨ o.dst ≠ some t) → (a.put o.dst v').tmps.getD t undef = a.tmps.getD t undef := by
    intro v' t hne
    cases hd : o.dst with
    | none => rfl
    | some d =>
      simp only [Act.put, Array.getD_eq_getD_getElem?]
      by_cases e : d = t
      · subst e
        rcases hne with hne | hne
        · rw [Array.setIfInBounds_eq_of_size_le hne]
        · exact absurd hd hne
      · rw [Array.getElem?_setIfInBounds_ne e]
  have next : ∀ μ' v' w', VR μ' v v' → HR F w0 μ' h' w' → Ext μ μ' h h' → Inv F w0 μ0 ops af af' hs D (listed.setIfInBounds i true) (a.put o.dst v') w' := by
    intro μ' v' w' q1 q2 q3
    refine ⟨by simp [I.size], ?_, ⟨s', μ', h', S', hh', q2, E.trans q3, ?_, ?_⟩, by rw [Act.put_size]; exact I.sz, by rw [Act.put_def]; exact I.dfr⟩
    · intro j q hj hq e he hb
      rw [hset] at hj ⊢
      rcases hj with rfl | hj
      · rw [ho] at hq; cases hq; exact .inr (hall e he hb)
      · exact .inr (I.down j q hj hq e he hb)
    · intro t ht u hu
      rw [Act.put_size] at ht
      by_cases hc1 : o.dst = some t ∧ t < a.tmps.size
      · obtain ⟨hd, hlt'⟩ := hc1
        rw [hput t hd (by rw [I.sz]; exact hlt')] at hu
        cases hu
        rw [hd]
        simp only [Act.put, Array.getD_eq_getD_getElem?]
        rw [Array.getElem?_setIfInBounds_self_of_lt hlt']
        exact q1
      · have hne : a.tmps.size ≤ t ∨ o.dst ≠ some t := by
          by_cases e : o.dst = some t
          · exact .inl (Nat.le_of_not_lt fun h => hc1 ⟨e, h⟩)
          · exact .inr e
        rw [old _ t hne]
        refine (R t ?_ u hu).mono q3.sub
        rcases ht with h | h
        · exact .inl h
        · rcases hne with hne | hne
          · exact .inl hne
          · refine .inr fun j q hj hd => ?_
            rcases (hset j).1 (h j q hj hd) with rfl | h'
            · rw [ho] at hj; cases hj; exact absurd hd hne
            · exact h'
    · intro t ht u hu
      rw [old _ t (.inr fun hd => ht i o ho hd ((hset i).2 (.inl rfl)))]
      exact (R0 t (fun k r hr hd hL => ht k r hr hd ((hset k).2 (.inr hL))) u hu).mono q3.sub
  have RL : TR μ ai.tm a.tmps (fun t => t ∈ o.looksAt ops) := hlook
  unfold wpOp
  simp only [ho]
  rcases hrun with ⟨hw, hrun⟩ | ⟨hw, rfl, rfl⟩
  · have hwant := wanted_ok (o := o) (ops := ops) RL (fun _ h => h) hw
    rw [if_pos hwant]
    refine .inl (step_ok hc H (fun x hx u hu => evalA_ok RL (fun t ht => (looks_tmp (by rw [← ht]; exact hx))) hu) hrun fun μ' v' w' q1 q2 q3 => hK _ _ (next μ' v' w' q1 q2 q3))
  · have hwant := wanted_ok (o := o) (ops := ops) RL (fun _ h => h) hw
    rw [if_neg (by rw [hwant]; exact Bool.false_ne_true)]
    exact hK _ _ (next μ undef w VR.undef H (Ext.refl μ _))

theorem any_end (p : Plan P call ops af af' hs) {μ0 : Mp} {D : List Deferred} {listed : Array Bool} {a : Act} {w : World}
    (I : Inv F w0 μ0 ops af af' hs D listed a w) (hr : ∀ i, i < ops.size → Lst listed i) : Onward F w0 μ0 af.h D af' a w := by
  obtain ⟨s, μ, h, S, hh, H, E, R, R0⟩ := I.rest
  have e : s = ops.size := by
    rcases Nat.lt_or_ge s ops.size with h1 | h1
    · obtain ⟨o, q1, q2⟩ := S.2.1 h1
      exact absurd ((S.2.2 s o q1 q2).2 (hr s h1)) (Nat.lt_irrefl _)
    · exact Nat.le_antisymm S.1 h1
  have hl := p.tr.last
  rw [Array.length_toList, ← e] at hl
  rw [hl] at hh
  cases hh
  exact ⟨μ, ⟨H, fun t _ u hu => R t (.inr fun i o hi _ => hr i (Array.getElem?_eq_some_iff.1 hi).1) u hu, by rw [p.tr.sz, I.sz]⟩, E, I.dfr⟩

theorem ready_nil (p : Plan P call ops af af' hs) {μ0 : Mp} {D : List Deferred} {listed : Array Bool} {a : Act} {w : World}
    (I : Inv F w0 μ0 ops af af' hs D listed a w) (hr : Region.ready .any ops listed = []) : ∀ n i, i < n → i < ops.size → Lst listed i := by
  intro n
  induction n with
  | zero => intro i h; omega
  | succ n ih =>
    intro i hin hi
    cases hl : listed.getD i true with
    | true => unfold Lst; rw [← getD_lst (by rw [I.size]; exact hi)]; exact hl
    | false =>
      have ho : ops[i]? = some ops[i] := Array.getElem?_eq_getElem hi
      have : i ∈ Region.ready .any ops listed := mem_ready.2 ⟨hl, _, ho, fun e he hb => by
        have := p.back i _ ho e he hb
        exact ih e.on (by omega) (by omega)⟩
      rw [hr] at this
      cases this

theorem any_ok (hc : CallOk P call) (p : Plan P call ops af af' hs) {μ0 : Mp} {D : List Deferred} {Q : Exit → Act → World → Prop}
    (hQ : ∀ a w, Onward F w0 μ0 af.h D af' a w → Q .normal a w) :
    ∀ (fuel : Nat) (listed : Array Bool) (a : Act) (w : World), unl listed ≤ fuel → Inv F w0 μ0 ops af af' hs D listed a w → wpAny P .any ops Q fuel listed a w
  | 0, listed, a, w, hu, I => by
    have all : ∀ i, i < ops.size → Lst listed i := fun i hi => unl_zero (by omega) (by rw [I.size]; exact hi)
    refine ⟨?_, hQ a w (any_end p I all)⟩
    apply List.eq_nil_iff_forall_not_mem.2
    intro i hi
    obtain ⟨h0, o, ho, _⟩ := mem_ready.1 hi
    have hlt := (Array.getElem?_eq_some_iff.1 ho).1
    have := all i hlt
    unfold Lst at this
    rw [← getD_lst (by rw [I.size]; exact hlt), h0] at this
    cases this
  | fuel + 1, listed, a, w, hu, I => by
    refine ⟨fun hr => hQ a w (any_end p I fun i hi => ready_nil p I hr (i + 1) i (Nat.lt_succ_self _) hi), fun i hi => ?_⟩
    refine any_step hc p I hi fun a' w' I' => any_ok hc p hQ fuel _ a' w' ?_ I'
    obtain ⟨h0, o, ho, _⟩ := mem_ready.1 hi
    have hlt := (Array.getElem?_eq_some_iff.1 ho).1
    have hs' : i < listed.size := by rw [I.size]; exact hlt
    have : listed[i]? = some false := by
      rw [Array.getD_eq_getD_getElem?, Array.getElem?_eq_getElem hs'] at h0
      rw [Array.getElem?_eq_getElem hs']
      simpa using h0
    have := unl_set this
    omega

theorem HR.drawn {μ : Mp} {h : AH} {w : World} (H : HR F w0 μ h w) (d : Nat) : HR F w0 μ h { w with drawn := d } := H.congr rfl rfl rfl rfl

theorem plan_ok (hm : P.follows .mixedOrders = true) (hc : CallOk P call) {μ : Mp} {a : Act} {w : World} {id : Nat} {Q : Exit → Act → World → Prop}
    (p : Plan P call ops af af' hs) (R : AR F w0 μ af a w) (K : ∀ a' w', Onward F w0 μ af.h a.defers af' a' w' → Q .normal a' w') :
    (Code.region id ops true).wp P Q a w := by
  refine wp_region_any hm (any_ok hc p K ops.size _ _ _ ?_ ?_)
  · unfold unl
    refine Nat.le_trans (List.countP_le_length) (by simp)
  · have no : ∀ i, ¬ Lst (Array.replicate ops.size false) i := fun i => by
      unfold Lst
      simp only [Array.getD_eq_getD_getElem?, Array.getElem?_replicate]
      split <;> simp
    obtain ⟨s, q1, q2, q3, q4⟩ := next_stage ops ops.size 0 (by omega)
    refine ⟨by simp, fun i o hi => absurd hi (no i), ⟨s, μ, af.h, ⟨q2, q3, fun q o h1 h2 => ?_⟩, ?_, R.heap.drawn _, Ext.refl μ _, fun t ht u hu => ?_, fun t _ u hu => R.tm t trivial u hu⟩, R.sz, rfl⟩
    · constructor
      · intro h; have := q4 q o (Nat.zero_le _) h h1; rw [h2] at this; cases this
      · intro h; exact absurd h (no q)
    · have := p.lights 0 s (by omega) fun q o a b c => q4 q o a (by omega) c
      rw [Nat.zero_add] at this
      rw [this, p.tr.first]; rfl
    · rcases ht with ht | ht
      · rw [p.tr.keep t (.inr (by rw [R.sz]; exact ht))] at hu; exact R.tm t trivial u hu
      · rw [p.tr.keep t (.inl fun j q hq hd => no j (ht j q (by simpa using hq) hd))] at hu; exact R.tm t trivial u hu

theorem draw_ok (hm : P.follows .mixedOrders = true) (hc : CallOk P call) {μ : Mp} {a : Act} {w : World} {id : Nat} {Q : Exit → Act → World → Prop}
    (he : drawA P call ops af = some af') (R : AR F w0 μ af a w) (K : ∀ a' w', Onward F w0 μ af.h a.defers af' a' w' → Q .normal a' w') :
    (Code.region id ops true).wp P Q a w := by
  unfold drawA at he
  split at he
  · rename_i a2 hs hl
    split at he
    · rename_i hst
      split at he
      · rename_i hdy
        cases he
        exact plan_ok hm hc (hs := hs) ⟨traced _ _ _ _ hl, hst, dynOk_good hdy⟩ R K
      · cases he
    · cases he
  · cases he

end
end Go.R
