/- Regions with two operations that act and that no edge parts, one of them a call: either of them may come first. -/
import Derived.Test.YtgnkjmgkfibipaaGreatDoorSSpelledRG8
namespace Go.R
set_option linter.unusedVariables false
set_option linter.unusedSimpArgs false
open Go Go.RowKit
noncomputable section
variable {P : Program}

/-- The operations of one region under the numbers of another, whose operation u waits for z besides. -/
structure EmbG (ops ops' : Array Oper) (σ : Nat → Nat) (u z : Nat) : Prop where
  size : ops'.size = ops.size
  inv : ∀ i, σ (σ i) = i
  lt : ∀ i, i < ops.size → σ i < ops.size
  get : ∀ (i : Nat) o, ops[i]? = some o → o.guard = none ∧ ∃ s, ops'[σ i]? = some { o with after := s } ∧
    (∀ e ∈ s, Region.binds .any e = true → (∃ e0 ∈ o.after, Region.binds .any e0 = true ∧ e.on = σ e0.on) ∨ (i = u ∧ e.on = σ z)) ∧ (∀ e0 ∈ o.after, Region.binds .any e0 = true → ∃ e ∈ s, Region.binds .any e = true ∧ e.on = σ e0.on) ∧
    (i = u → ∃ e ∈ s, Region.binds .any e = true ∧ e.on = σ z)

section
variable {ops ops' : Array Oper} {σ : Nat → Nat} {u z : Nat} {L L' : Array Bool}

theorem EmbG.up (E : EmbG ops ops' σ u z) (R : Rel σ L L') {i : Nat} (h : i ∈ Region.ready .any ops L) (hu : i = u → Lst L z) : σ i ∈ Region.ready .any ops' L' := by
  obtain ⟨h0, o, ho, hall⟩ := mem_ready.1 h
  obtain ⟨_, s, ho', e1, _, _⟩ := E.get i o ho
  refine mem_ready.2 ⟨by rw [R i true]; exact h0, _, ho', fun e he hb => ?_⟩
  rcases e1 e he hb with ⟨e0, q1, q2, q3⟩ | ⟨q1, q2⟩
  · rw [q3]
    have := hall e0 q1 q2
    rw [← R] at this
    exact this
  · rw [q2]
    have := hu q1
    unfold Lst at this
    rw [← R] at this
    exact this

theorem EmbG.down (E : EmbG ops ops' σ u z) (R : Rel σ L L') {i : Nat} (h : i ∈ Region.ready .any ops' L') : σ i ∈ Region.ready .any ops L ∧ (σ i = u → Lst L z) := by
  obtain ⟨h0, o', ho', hall⟩ := mem_ready.1 h
  have hlt : i < ops'.size := (Array.getElem?_eq_some_iff.1 ho').1
  have hlt2 : σ i < ops.size := E.lt i (by rw [← E.size]; exact hlt)
  have ho : ops[σ i]? = some ops[σ i] := Array.getElem?_eq_getElem hlt2
  obtain ⟨_, s, q, _, e2, e3⟩ := E.get (σ i) _ ho
  rw [E.inv, ho'] at q
  cases q
  have back : ∀ j d, L'.getD j d = L.getD (σ j) d := fun j d => by rw [← R (σ j) d, E.inv]
  refine ⟨mem_ready.2 ⟨by rw [← back]; exact h0, _, ho, fun e he hb => ?_⟩, fun hu => ?_⟩
  · obtain ⟨e', r1, r2, r3⟩ := e2 e he hb
    have := hall e' r1 r2
    rw [r3, R] at this
    exact this
  · obtain ⟨e', r1, r2, r3⟩ := e3 hu
    have := hall e' r1 r2
    rw [r3, R] at this
    exact this

theorem RelG.set (E : EmbG ops ops' σ u z) (R : Rel σ L L') (hs : L.size = ops.size) (hs' : L'.size = ops.size) {i : Nat} (hi : i < ops.size) : Rel σ (L.setIfInBounds i true) (L'.setIfInBounds (σ i) true) := by
  intro j d
  have h2 := E.lt i hi
  by_cases e : j = i
  · subst e
    simp [Array.getD_eq_getD_getElem?, Array.getElem?_setIfInBounds, hs, hs', hi, h2]
  · have e' : σ j ≠ σ i := fun h => e (by rw [← E.inv j, h, E.inv])
    have := R j d
    simp only [Array.getD_eq_getD_getElem?] at this ⊢
    rw [Array.getElem?_setIfInBounds_ne (Ne.symm e'), Array.getElem?_setIfInBounds_ne (Ne.symm e)]
    exact this

theorem EmbG.run (E : EmbG ops ops' σ u z) {Q : Exit → Act → World → Prop} : ∀ (m : Nat) (L L' : Array Bool) (a : Act) (w : World), Rel σ L L' → L.size = ops.size → L'.size = ops.size → Lst L z →
    wpAny P .any ops' Q m L' a w → wpAny P .any ops Q m L a w
  | 0, L, L', a, w, R, hs, hs', hz, h => by
    refine ⟨?_, h.2⟩
    apply List.eq_nil_iff_forall_not_mem.2
    intro i hi
    have := E.up R hi (fun _ => hz)
    rw [h.1] at this
    cases this
  | m + 1, L, L', a, w, R, hs, hs', hz, h => by
    refine ⟨fun hr => h.1 ?_, fun i hi => ?_⟩
    · apply List.eq_nil_iff_forall_not_mem.2
      intro i hi
      have := (E.down R hi).1
      rw [hr] at this
      cases this
    · obtain ⟨_, o, ho, _⟩ := mem_ready.1 hi
      have hlt : i < ops.size := (Array.getElem?_eq_some_iff.1 ho).1
      obtain ⟨hg, s, ho', _⟩ := E.get i o ho
      refine wpOp_same ho hg ho' (wpOp_mono (fun a' w' hk => ?_) (h.2 (σ i) (E.up R hi (fun _ => hz))))
      exact EmbG.run E m _ _ a' w' (RelG.set E R hs hs' hlt) (by simp [hs]) (by simp [hs']) ((Lst.set (by rw [hs]; exact hlt)).2 (.inr hz)) hk
end

end
end Go.R
