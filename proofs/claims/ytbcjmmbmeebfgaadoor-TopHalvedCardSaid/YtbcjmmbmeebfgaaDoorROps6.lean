/- Each operation of the abstract machine is one of the model's: append at last, lengths, copies, conversions, text. -/
import Derived.Test.YtbcjmmbmeebfgaaDoorROps5
namespace Go.R
set_option linter.unusedVariables false
set_option linter.unusedSimpArgs false
open Go Go.RowKit

section
variable {P : Program} {F : Nat → Prop} {w0 : World} {μ : Mp} {h : AH} {w : World}

theorem append_ok (H : HR F w0 μ h w) {t tx ty : TypeId} {s x s' x' v : Value} {h' : AH} (hv : appendA P #[t, tx] s x h = some (v, h')) (hs : VR μ s s') (hx : VR μ x x') :
    ∃ μ' w' v', (Builtin.append_ #[t, tx] ty #[s', x']).run P w = .ok v' w' ∧ VR μ' v v' ∧ HR F w0 μ' h' w' ∧ Ext μ μ' h h' := by
  unfold appendA at hv
  simp only [List.getElem?_toArray, List.getElem?_cons_zero, List.getElem?_cons_succ] at hv
  cases ht : P.underlying t with
  | none => simp [ht] at hv
  | some d =>
    cases htx : P.underlying tx with
    | none => cases d <;> simp [ht, htx] at hv
    | some dx =>
      cases d <;> try (simp [ht, htx] at hv; done)
      case slice e =>
        simp only [ht, htx] at hv
        cases hinf : P.info? e with
        | none => simp [hinf] at hv
        | some info =>
          simp only [hinf] at hv
          split at hv
          · cases hv
          · rename_i hkind
            have hk : (∃ e', P.underlying tx = some (.slice e')) ∨ P.underlying tx = some .string := by
              cases dx <;> first | exact .inl ⟨_, htx⟩ | exact .inr htx | (simp [srcKind] at hkind)
            split at hv
            · cases hv
            · rename_i new n hsrc
              rw [Option.ite_none_left_eq_some] at hv
              obtain ⟨hc, hv⟩ := hv
              simp only [Bool.or_eq_true, decide_eq_true_eq, not_or, gt_iff_lt, Nat.not_lt, Bool.not_eq_true', Bool.not_eq_false, List.all_eq_true] at hc
              obtain ⟨⟨⟨⟨hs0, hby⟩, hn6⟩, hz⟩, hcv⟩ := hc
              obtain ⟨z, hz1, hz2, hz3⟩ := zfit_some hz
              obtain ⟨new', hnew, hS, hnl⟩ := src_ok H hk hsrc hx hcv
              split at hv
              · -- nil
                rename_i l c
                rw [Option.ite_none_left_eq_some] at hv
                obtain ⟨hlc, hv⟩ := hv
                obtain ⟨rfl, rfl, rfl⟩ := hs.sliceN_inv
                split at hv
                · rename_i hn; subst hn
                  cases hv
                  exact ⟨μ, w, _, append_none ht hinf hS (Nat.le_refl _), .plain rfl, H, Ext.refl μ h⟩
                · rename_i hn
                  have hge := grownCap_ge w (0 + n) 0 e
                  obtain ⟨μ', q1, q2, q3⟩ := appendNew_ok (cap := grownCap w (0 + n) 0 e) H hz3 hs0 hnew hnl (by omega) hv
                  have hrun := run_append_grow_src w t tx ty e info z ht hinf hz1 none 0 0 [] (run_firstCells_none w.drew info.size 0 0 0) x' n new' hS (by omega) (by omega) (fit_bytes (by omega) (by omega) hby)
                  rw [List.nil_append, Nat.zero_add] at hrun
                  rw [Nat.zero_add] at q1 q2
                  exact ⟨μ', _, _, hrun, q1, q2, q3⟩
              · -- the capacity is known
                rename_i i o l c
                rw [Option.ite_none_left_eq_some] at hv
                obtain ⟨hlc, hv⟩ := hv
                simp only [Bool.or_eq_true, decide_eq_true_eq, not_or, gt_iff_lt, Nat.not_lt] at hlc
                obtain ⟨b, zz, en, hm, rfl⟩ := hs.slice_inv
                split at hv
                · rename_i hn; subst hn
                  cases hv
                  exact ⟨μ, w, _, append_none ht hinf hS hlc.2, .slice hm, H, Ext.refl μ h⟩
                · split at hv
                  · rename_i hroom
                    rw [Option.map_eq_some_iff] at hv
                    obtain ⟨h1, hp, hv⟩ := hv
                    cases hv
                    obtain ⟨w', r1, r2, r3⟩ := row_write (P := P) H hm hp hnew hcv
                    rw [← Nat.add_assoc] at r1
                    exact ⟨μ, w', _, append_room ht hinf hS hroom r1, .slice hm, r2, r3⟩
                  · rename_i hn hroom
                    split at hv
                    · cases hv
                    · rename_i old hold
                      obtain ⟨old', o1, o2, o3⟩ := row_read H hm hold
                      have hol : old'.length = l * info.size := by rw [← o1.1]; exact o2
                      have hge := grownCap_ge w (l + n) c e
                      obtain ⟨μ', q1, q2, q3⟩ := appendNew_ok (cap := grownCap w (l + n) c e) H hz3 hs0 (o1.append hnew) (by rw [List.length_append, o2, hnl, Nat.add_mul]) hge hv
                      have hfc : (Builtin.firstCells info.size l (.slice (some ⟨b, zz + o, none⟩) l c)).run P w.drew = .ok old'.toArray w.drew :=
                        run_firstCells_some w.drew info.size l ⟨b, zz + o, none⟩ l c old' hol (fun j v hj => by rw [add_at]; exact o3 j v hj)
                      have hrun := run_append_grow_src w t tx ty e info z ht hinf hz1 (some ⟨b, zz + o, none⟩) l c old' hfc x' n new' hS (by omega) (by omega) (fit_bytes (by omega) (by omega) hby)
                      exact ⟨μ', _, _, hrun, q1, q2, q3⟩
              · -- no elements, of whatever capacity
                rw [Option.ite_none_right_eq_some] at hv
                obtain ⟨hn, hv⟩ := hv
                subst hn
                cases hv
                obtain ⟨rfl, rfl, A, c', rfl⟩ := hs.slice0_inv
                exact ⟨μ, w, _, append_none ht hinf hS (Nat.zero_le _), .slice0, H, Ext.refl μ h⟩
              · -- the capacity is not known
                rename_i i o zz l c
                rw [Option.ite_none_left_eq_some] at hv
                obtain ⟨hlc, hv⟩ := hv
                simp only [Bool.or_eq_true, decide_eq_true_eq, not_or, gt_iff_lt, Nat.not_lt, ne_eq, Decidable.not_not] at hlc
                obtain ⟨b, z', en, c', hm, h1, h2, h3, rfl⟩ := hs.sliceU_inv
                split at hv
                · rename_i hn; subst hn
                  cases hv
                  exact ⟨μ, w, _, append_none ht hinf hS (by omega), .sliceU hm h1 h2 h3, H, Ext.refl μ h⟩
                · rename_i hn
                  rw [hlc.1] at h3
                  exact appendU_ok H ht hinf hz1 hz3 hs0 hby hm h1 h2 h3 hlc.2 hn6 hn hnew hS hnl hv
              · cases hv

/-! ### Lengths -/
theorem len_ok (H : HR F w0 μ h w) {t ty : TypeId} {x x' v : Value} (hv : lenA P t x h = some v) (hx : VR μ x x') : (Builtin.len_ #[t] ty #[x']).run P w = .ok v w ∧ plainV v = true := by
  unfold lenA at hv
  cases hd : P.underlying t with
  | none => simp [hd] at hv
  | some d =>
    rw [hd] at hv
    split at hv
    · rename_i s hq; cases hq; cases hv; cases hx.string_inv
      simp [Builtin.len_, run_under hd, goInt, plainV]
    · rename_i n e hq; cases hq; cases hv
      cases x' <;> simp [Builtin.len_, run_under hd, goInt, plainV]
    · rename_i a hq; cases hq
      split at hv
      · rename_i n e hda
        cases hv
        cases x' <;> simp [Builtin.len_, run_under hd, run_under hda, goInt, plainV]
      · cases hv
    · rename_i e a n c hq; cases hq; cases hv
      have : ∃ a' c', x' = .slice a' n c' := by
        cases hx with
        | plain hp => exact ⟨_, _, rfl⟩
        | slice _ => exact ⟨_, _, rfl⟩
        | sliceU _ _ _ _ => exact ⟨_, _, rfl⟩
        | slice0 => exact ⟨_, _, rfl⟩
      obtain ⟨a', c', rfl⟩ := this
      simp [Builtin.len_, run_under hd, goInt, plainV]
    · rename_i k e hq; cases hq; cases hv; cases hx.mapN_inv
      simp [Builtin.len_, run_under hd, goInt, plainV]
    · rename_i k e r hq; cases hq
      obtain ⟨b, en, hm, rfl⟩ := hx.map_inv
      split at hv
      · rename_i es hg
        cases hv
        have := H.obj r b 0 en hm
        rw [hg] at this
        obtain ⟨_, ms, cl, h1, h2, _⟩ := this
        have hsz : ms.size = es.length := by have := h2.1; simp at this; exact this.symm
        simp [Builtin.len_, run_under hd, getObj, Sem.run, h1, goInt, plainV, hsz]
      · cases hv
    · cases hv

theorem cap_ok {t ty : TypeId} {x x' v : Value} (hv : capA P t x = some v) (hx : VR μ x x') : (Builtin.cap_ #[t] ty #[x']).run P w = .ok v w ∧ plainV v = true := by
  unfold capA at hv
  cases hd : P.underlying t with
  | none => simp [hd] at hv
  | some d =>
    rw [hd] at hv
    split at hv
    · rename_i e n c hq; cases hq; cases hv
      obtain ⟨rfl, rfl, rfl⟩ := hx.sliceN_inv
      simp [Builtin.cap_, run_under hd, goInt, plainV]
    · rename_i e a n c hq; cases hq
      split at hv
      · rename_i hsp
        obtain ⟨i, o, sp⟩ := a
        simp only at hsp; subst hsp
        cases hv
        obtain ⟨b, z, en, _, rfl⟩ := hx.slice_inv
        simp [Builtin.cap_, run_under hd, goInt, plainV]
      · cases hv
    · cases hv

theorem max_ok : ∀ (l l' : List Value) (k : IntKind) (n : Int) (v : Value), foldMinMax true (.int k n) l = some v → LR μ l l' → (l'.foldlM Builtin.max2 (.int k n)).run P w = .ok v w ∧ plainV v = true
  | [], [], k, n, v, hv, _ => by simp [foldMinMax] at hv; subst hv; simp [plainV]
  | [], y :: l', k, n, v, hv, hl => by have := hl.1; simp at this
  | x :: l, [], k, n, v, hv, hl => by have := hl.1; simp at this
  | x :: l, y :: l', k, n, v, hv, hl => by
    have hxy := hl.head
    cases x <;> try (simp [foldMinMax] at hv; done)
    case int k' m =>
      cases hxy.int_inv
      simp only [foldMinMax, if_true] at hv
      have := max_ok l l' k _ v hv hl.tail
      simp only [List.foldlM_cons, Sem.run_bind, Builtin.max2, Sem.run_pure, Result.andThen_ok]
      exact this
theorem min_ok : ∀ (l l' : List Value) (k : IntKind) (n : Int) (v : Value), foldMinMax false (.int k n) l = some v → LR μ l l' → (l'.foldlM Builtin.min2 (.int k n)).run P w = .ok v w ∧ plainV v = true
  | [], [], k, n, v, hv, _ => by simp [foldMinMax] at hv; subst hv; simp [plainV]
  | [], y :: l', k, n, v, hv, hl => by have := hl.1; simp at this
  | x :: l, [], k, n, v, hv, hl => by have := hl.1; simp at this
  | x :: l, y :: l', k, n, v, hv, hl => by
    have hxy := hl.head
    cases x <;> try (simp [foldMinMax] at hv; done)
    case int k' m =>
      cases hxy.int_inv
      simp only [foldMinMax, Bool.false_eq_true, if_false] at hv
      have := min_ok l l' k _ v hv hl.tail
      simp only [List.foldlM_cons, Sem.run_bind, Builtin.min2, Sem.run_pure, Result.andThen_ok]
      exact this

end
end Go.R
