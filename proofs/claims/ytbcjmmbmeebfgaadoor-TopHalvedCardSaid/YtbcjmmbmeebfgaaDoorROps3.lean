/- Each operation of the abstract machine is one of the model's: addresses, parts of values, slices of slices. -/
import Derived.Test.YtbcjmmbmeebfgaaDoorROps2
namespace Go.R
set_option linter.unusedVariables false
set_option linter.unusedSimpArgs false
open Go Go.RowKit

/-- Two operands that may be missing. -/
def OVR (μ : Mp) (a b : Option Value) : Prop := match a, b with
  | none, none => True
  | some x, some y => VR μ x y
  | _, _ => False

section
variable {P : Program} {F : Nat → Prop} {w0 : World} {μ : Mp} {h : AH} {w : World}

theorem bound_run {x x' : Value} {d cap cap' r : Nat} (c : BoundsCode) (hv : boundA (some x) d cap = some r) (hx : VR μ x x') (hc : cap ≤ cap') : (Instr.sliceBound x' cap' c).run P w = .ok r w ∧ r ≤ cap := by
  unfold boundA at hv
  split at hv
  · rename_i h0; cases h0
  · rename_i k i hq
    cases hq
    cases hx.int_inv
    split at hv
    · rename_i hb
      cases hv
      have hb' : 0 ≤ i ∧ i ≤ (cap' : Int) := ⟨hb.1, by omega⟩
      simp [Instr.sliceBound, asIntOf_run, hb']
      omega
    · cases hv
  · cases hv

theorem boundA_none {d cap r : Nat} (hv : boundA none d cap = some r) : r = d := by simp [boundA] at hv; exact hv.symm

/-- The bounds of a slice expression. Where the capacity is known but for its least, it is the model's that comes out. -/
theorem bounds_ok {len cap cap' l hh m : Nat} {lo hi mx lo' hi' mx' : Option Value} (s : Bool) (hv : boundsA len cap lo hi mx = some (l, hh, m)) (hlo : OVR μ lo lo') (hhi : OVR μ hi hi') (hmx : OVR μ mx mx')
    (hc : cap ≤ cap') : (Instr.sliceBounds s len cap' lo' hi' mx').run P w = .ok (l, hh, if mx.isSome then m else cap') w ∧ l ≤ hh ∧ hh ≤ m ∧ m ≤ cap ∧ (mx = none → m = cap) := by
  unfold boundsA at hv
  split at hv
  · cases hv
  · rename_i hne
    split at hv
    · cases hv
    · rename_i m0 hm
      split at hv
      · cases hv
      · rename_i h0 hh0
        split at hv
        · cases hv
        · rename_i l0 hl0
          rw [Option.ite_none_right_eq_some] at hv
          obtain ⟨hhm, hv⟩ := hv
          simp only [Option.some.injEq, Prod.mk.injEq] at hv
          obtain ⟨rfl, rfl, rfl⟩ := hv
          unfold Instr.sliceBounds
          cases mx with
          | none =>
            cases mx' with
            | some y => exact hmx.elim
            | none =>
              have e1 := boundA_none hm
              subst e1
              have key : ∀ hcur : Nat, hcur = h0 → h0 ≤ m0 → ∀ q : BoundsCode, ((match lo' with | some v => Instr.sliceBound v hcur q | none => (pure 0 : Sem Nat)).run P w = .ok l0 w ∧ l0 ≤ h0) := by
                rintro hcur rfl hle q
                cases lo with
                | none => cases lo' with
                  | none => have := boundA_none hl0; subst this; exact ⟨rfl, by omega⟩
                  | some y => exact hlo.elim
                | some x => cases lo' with
                  | none => exact hlo.elim
                  | some y => exact bound_run q hl0 hlo (Nat.le_refl _)
              cases hi with
              | none => cases hi' with
                | some y => exact hhi.elim
                | none =>
                  have e2 := boundA_none hh0
                  subst e2
                  obtain ⟨k1, k2⟩ := key _ rfl hhm .sliceB
                  exact ⟨by cases lo' <;> simp at k1 <;> simp [k1], k2, hhm, Nat.le_refl _, fun _ => rfl⟩
              | some x => cases hi' with
                | none => exact hhi.elim
                | some y =>
                  obtain ⟨r1, r2⟩ := bound_run (P := P) (w := w) (if s then .sliceAcap else .sliceAlen) hh0 hhi hc
                  obtain ⟨k1, k2⟩ := key _ rfl r2 .sliceB
                  exact ⟨by cases lo' <;> simp at k1 <;> simp [r1, k1], k2, hhm, Nat.le_refl _, fun _ => rfl⟩
          | some mv =>
            cases mx' with
            | none => exact hmx.elim
            | some my =>
              obtain ⟨q1, q2⟩ := bound_run (P := P) (w := w) (if s then .slice3Acap else .slice3Alen) hm hmx hc
              cases hi with
              | none => exact (hne mv rfl rfl).elim
              | some x => cases hi' with
                | none => exact hhi.elim
                | some y =>
                  obtain ⟨r1, r2⟩ := bound_run (P := P) (w := w) .slice3B hh0 hhi (Nat.le_refl _)
                  cases lo with
                  | none => cases lo' with
                    | none =>
                      have := boundA_none hl0; subst this
                      exact ⟨by simp [q1, r1], Nat.zero_le _, hhm, q2, fun e => by cases e⟩
                    | some y => exact hlo.elim
                  | some x2 => cases lo' with
                    | none => exact hlo.elim
                    | some y2 =>
                      obtain ⟨t1, t2⟩ := bound_run (P := P) (w := w) .slice3C hl0 hlo (Nat.le_refl _)
                      exact ⟨by simp [q1, r1, t1], t2, hhm, q2, fun e => by cases e⟩

theorem OVR.none_r {mx' : Option Value} (h : OVR μ none mx') : mx' = none := by cases mx' <;> first | rfl | exact h.elim

theorem cut_ok {i o b z e size l hh m : Nat} (hi : μ i = some (b, z, e)) :
    VR μ (cutAt ⟨i, o, none⟩ size l hh m) (.slice (some (if m = l then ⟨b, z + o, none⟩ else (⟨b, z + o, none⟩ : Addr).add (l * size))) (hh - l) (m - l)) := by
  unfold cutAt
  rw [add_at]
  by_cases hm : m = l
  · rw [if_pos hm, if_pos hm]; exact .slice hi
  · rw [if_neg hm, if_neg hm, Nat.add_assoc]; exact .slice hi

theorem slice_ok {t : TypeId} {x x' v : Value} {lo hi mx lo' hi' mx' : Option Value} (hv : sliceA P t x lo hi mx = some v) (hx : VR μ x x') (hlo : OVR μ lo lo') (hhi : OVR μ hi hi') (hmx : OVR μ mx mx') :
    ∃ v', (Instr.sliceAt t x' lo' hi' mx').run P w = .ok v' w ∧ VR μ v v' := by
  unfold sliceA at hv
  cases hd : P.underlying t with
  | none => simp [hd] at hv
  | some d =>
    rw [hd] at hv
    unfold Instr.sliceAt
    simp only [Sem.run_bind, run_under hd, Result.andThen_ok]
    split at hv
    · rename_i s hq
      cases hq
      cases hx.string_inv
      cases mx with
      | some y => cases hv
      | none =>
        cases hmx.none_r
        simp only at hv
        split at hv
        · rename_i l hh m hb
          cases hv
          obtain ⟨b1, _⟩ := bounds_ok (P := P) (w := w) false hb hlo hhi (mx := none) (mx' := none) trivial (Nat.le_refl _)
          exact ⟨_, by simp [Instr.slice, run_under hd, b1], .plain rfl⟩
        · cases hv
    · rename_i el n c hq
      cases hq
      obtain ⟨rfl, rfl, rfl⟩ := hx.sliceN_inv
      split at hv
      · rename_i hs
        obtain ⟨inf, hinf⟩ := Option.isSome_iff_exists.1 hs
        split at hv
        · rename_i l hh m hb
          cases hv
          obtain ⟨b1, b2, b3, b4, b5⟩ := bounds_ok (P := P) (w := w) true hb hlo hhi hmx (Nat.le_refl _)
          have e1 : m = 0 := by omega
          have e2 : hh = 0 := by omega
          have e3 : l = 0 := by omega
          subst e1; subst e2; subst e3
          exact ⟨.slice none 0 0, by simp [Instr.slice, run_under hd, b1, run_sizeOf hinf], .plain rfl⟩
        · cases hv
      · cases hv
    · rename_i el a n c hq
      cases hq
      obtain ⟨i, o, sp⟩ := a
      cases hinf : P.info? el with
      | none => simp [hinf] at hv
      | some inf =>
        simp only [hinf] at hv
        have hslice : ∀ (A : Addr) (n' c' l hh m : Nat), (Instr.sliceBounds true n' c' lo' hi' mx').run P w = .ok (l, hh, m) w →
            (Instr.slice t (.slice (some A) n' c') lo' hi' mx').run P w = .ok (.slice (some (if m = l then A else A.add (l * inf.size))) (hh - l) (m - l)) w := by
          intro A n' c' l hh m hr
          simp only [Instr.slice, Sem.run_bind, run_under hd, Result.andThen_ok, hr, run_sizeOf hinf, Sem.run_pure]
          split <;> rfl
        split at hv
        · obtain ⟨b, z, e, hi, rfl⟩ := hx.slice_inv
          split at hv
          · rename_i l hh m hb
            cases hv
            obtain ⟨b1, b2, b3, b4, b5⟩ := bounds_ok (P := P) (w := w) true hb hlo hhi hmx (Nat.le_refl _)
            have e1 : (if mx.isSome then m else c) = m := by
              cases mx with
              | none => simp [b5 rfl]
              | some y => rfl
            rw [e1] at b1
            exact ⟨_, hslice _ _ _ _ _ _ b1, cut_ok hi⟩
          · cases hv
        · obtain ⟨rfl, rfl, A, c', rfl⟩ := hx.slice0_inv
          split at hv
          · cases hv
          · split at hv
            · rename_i q hb
              obtain ⟨l, hh, m⟩ := q
              cases hv
              cases hmx.none_r
              obtain ⟨b1, b2, b3, b4, b5⟩ := bounds_ok (P := P) (w := w) (cap' := c') true hb hlo hhi (mx := none) (mx' := none) trivial (Nat.zero_le _)
              have e2 : hh = 0 := by omega
              have e3 : l = 0 := by omega
              subst e2; subst e3
              refine ⟨_, hslice _ _ _ _ _ _ b1, ?_⟩
              exact .slice0
            · cases hv
        · rename_i _ s
          obtain ⟨b, z, e, c', hi, h1, h2, h3, rfl⟩ := hx.sliceU_inv
          split at hv
          · cases hv
          · rename_i hsz
            simp only [ne_eq, Decidable.not_not] at hsz
            split at hv
            · cases hv
            · rename_i l hh m hb
              obtain ⟨b1, b2, b3, b4, b5⟩ := bounds_ok (P := P) (w := w) (cap' := c') true hb hlo hhi hmx h2
              split at hv
              · cases hv
                simp only [Option.isSome_some, if_true] at b1
                exact ⟨_, hslice _ _ _ _ _ _ b1, cut_ok hi⟩
              · have e1 := b5 rfl
                subst e1
                simp only [Option.isSome_none, Bool.false_eq_true, if_false] at b1
                refine ⟨_, hslice _ _ _ _ _ _ b1, ?_⟩
                split at hv
                · rename_i hlt
                  cases hv
                  rw [if_neg (by omega), add_at, Nat.add_assoc]
                  refine .sliceU hi (by omega) (by omega) ?_
                  rw [← hsz, ← Nat.add_assoc]
                  have q1 : l * (s + 1) + (c' - l) * (s + 1) = c' * (s + 1) := by rw [← Nat.add_mul]; congr 1; omega
                  omega
                · rename_i hlt
                  cases hv
                  have e4 : hh - l = 0 := by omega
                  rw [e4]
                  exact .slice0
    · rename_i n el i o hq
      cases hq
      obtain ⟨b, z, e, hi, rfl⟩ := hx.ptr_inv
      cases hinf : P.info? el with
      | none => simp [hinf] at hv
      | some inf =>
        simp only [hinf] at hv
        split at hv
        · rename_i l hh m hb
          cases hv
          obtain ⟨b1, b2, b3, b4, b5⟩ := bounds_ok (P := P) (w := w) false hb hlo hhi hmx (Nat.le_refl _)
          have e1 : (if mx.isSome then m else n) = m := by
            cases mx with
            | none => simp [b5 rfl]
            | some y => rfl
          rw [e1] at b1
          refine ⟨_, ?_, cut_ok hi⟩
          simp only [Instr.sureAddr, Sem.run_bind, Sem.run_pure, Result.andThen_ok, b1, run_sizeOf hinf]
        · cases hv
    · cases hv

end
end Go.R
