/- Regions with two operations that act and that no edge parts: either of them may come first. -/
import Derived.Test.YtgnkjmgkfibipaaGreatDoorSSpelledRG6
namespace Go.R
set_option linter.unusedVariables false
set_option linter.unusedSimpArgs false
open Go Go.RowKit
noncomputable section
variable {P : Program}

def simpleOp : Op → Bool
  | .move _ | .assign _ | .alloc _ | .load _ _ | .store _ _ _ | .indexAddr _ _ _ | .fieldAddr _ _ _ => true
  | _ => false

theorem wpOp_same {ops ops' : Array Oper} {Q : Exit → Act → World → Prop} {i i' : Nat} {o : Oper} {s : Array Edge} {K : Act → World → Prop} {a : Act} {w : World} (ho : ops[i]? = some o) (hg : o.guard = none)
    (ho' : ops'[i']? = some { o with after := s }) (h : wpOp P ops' Q i' K a w) : wpOp P ops Q i K a w := by
  unfold wpOp at *
  simp only [ho, ho'] at h ⊢
  have w1 : Region.wanted o (yielded ops a.tmps) = true := by simp [Region.wanted, hg]
  have w2 : Region.wanted { o with after := s } (yielded ops' a.tmps) = true := by simp [Region.wanted, hg]
  rw [if_pos w1]
  rw [if_pos w2] at h
  exact h

/-- The operations of one region under the numbers of another, whose operation u waits for z besides. -/
structure Emb (ops ops' : Array Oper) (σ : Nat → Nat) (u z : Nat) : Prop where
  size : ops'.size = ops.size
  inv : ∀ i, σ (σ i) = i
  lt : ∀ i, i < ops.size → σ i < ops.size
  get : ∀ (i : Nat) o, ops[i]? = some o → o.guard = none ∧ simpleOp o.op = true ∧ ∃ s, ops'[σ i]? = some { o with after := s } ∧
    (∀ e ∈ s, Region.binds .any e = true → (∃ e0 ∈ o.after, Region.binds .any e0 = true ∧ e.on = σ e0.on) ∨ (i = u ∧ e.on = σ z)) ∧ (∀ e0 ∈ o.after, Region.binds .any e0 = true → ∃ e ∈ s, Region.binds .any e = true ∧ e.on = σ e0.on) ∧
    (i = u → ∃ e ∈ s, Region.binds .any e = true ∧ e.on = σ z)

def Rel (σ : Nat → Nat) (L L' : Array Bool) : Prop := ∀ j d, L'.getD (σ j) d = L.getD j d

section
variable {ops ops' : Array Oper} {σ : Nat → Nat} {u z : Nat} {L L' : Array Bool}

theorem Emb.up (E : Emb ops ops' σ u z) (R : Rel σ L L') {i : Nat} (h : i ∈ Region.ready .any ops L) (hu : i = u → Lst L z) : σ i ∈ Region.ready .any ops' L' := by
  obtain ⟨h0, o, ho, hall⟩ := mem_ready.1 h
  obtain ⟨_, _, s, ho', e1, _, _⟩ := E.get i o ho
  refine mem_ready.2 ⟨by rw [R i true]; exact h0, _, ho', fun e he hb => ?_⟩
  rcases e1 e he hb with ⟨e0, q1, q2, q3⟩ | ⟨q1, q2⟩
  · rw [q3]
    have := hall e0 q1 q2
    rw [← R] at this
    exact this
  · rw [q2]
    have := hu q1
    unfold Lst at this
    rw [← R] at this
    exact this

theorem Emb.down (E : Emb ops ops' σ u z) (R : Rel σ L L') {i : Nat} (h : i ∈ Region.ready .any ops' L') : σ i ∈ Region.ready .any ops L ∧ (σ i = u → Lst L z) := by
  obtain ⟨h0, o', ho', hall⟩ := mem_ready.1 h
  have hlt : i < ops'.size := (Array.getElem?_eq_some_iff.1 ho').1
  have hlt2 : σ i < ops.size := E.lt i (by rw [← E.size]; exact hlt)
  have ho : ops[σ i]? = some ops[σ i] := Array.getElem?_eq_getElem hlt2
  obtain ⟨_, _, s, q, _, e2, e3⟩ := E.get (σ i) _ ho
  rw [E.inv, ho'] at q
  cases q
  have back : ∀ j d, L'.getD j d = L.getD (σ j) d := fun j d => by rw [← R (σ j) d, E.inv]
  refine ⟨mem_ready.2 ⟨by rw [← back]; exact h0, _, ho, fun e he hb => ?_⟩, fun hu => ?_⟩
  · obtain ⟨e', r1, r2, r3⟩ := e2 e he hb
    have := hall e' r1 r2
    rw [r3, R] at this
    exact this
  · obtain ⟨e', r1, r2, r3⟩ := e3 hu
    have := hall e' r1 r2
    rw [r3, R] at this
    exact this

theorem Rel.set (E : Emb ops ops' σ u z) (R : Rel σ L L') (hs : L.size = ops.size) (hs' : L'.size = ops.size) {i : Nat} (hi : i < ops.size) : Rel σ (L.setIfInBounds i true) (L'.setIfInBounds (σ i) true) := by
  intro j d
  have h2 := E.lt i hi
  by_cases e : j = i
  · subst e
    simp [Array.getD_eq_getD_getElem?, Array.getElem?_setIfInBounds, hs, hs', hi, h2]
  · have e' : σ j ≠ σ i := fun h => e (by rw [← E.inv j, h, E.inv])
    have := R j d
    simp only [Array.getD_eq_getD_getElem?] at this ⊢
    rw [Array.getElem?_setIfInBounds_ne (Ne.symm e'), Array.getElem?_setIfInBounds_ne (Ne.symm e)]
    exact this

theorem Emb.run (E : Emb ops ops' σ u z) {Q : Exit → Act → World → Prop} : ∀ (m : Nat) (L L' : Array Bool) (a : Act) (w : World), Rel σ L L' → L.size = ops.size → L'.size = ops.size → Lst L z →
    wpAny P .any ops' Q m L' a w → wpAny P .any ops Q m L a w
  | 0, L, L', a, w, R, hs, hs', hz, h => by
    refine ⟨?_, h.2⟩
    apply List.eq_nil_iff_forall_not_mem.2
    intro i hi
    have := E.up R hi (fun _ => hz)
    rw [h.1] at this
    cases this
  | m + 1, L, L', a, w, R, hs, hs', hz, h => by
    refine ⟨fun hr => h.1 ?_, fun i hi => ?_⟩
    · apply List.eq_nil_iff_forall_not_mem.2
      intro i hi
      have := (E.down R hi).1
      rw [hr] at this
      cases this
    · obtain ⟨_, o, ho, _⟩ := mem_ready.1 hi
      have hlt : i < ops.size := (Array.getElem?_eq_some_iff.1 ho).1
      obtain ⟨hg, _, s, ho', _⟩ := E.get i o ho
      refine wpOp_same ho hg ho' (wpOp_mono (fun a' w' hk => ?_) (h.2 (σ i) (E.up R hi (fun _ => hz))))
      exact Emb.run E m _ _ a' w' (Rel.set E R hs hs' hlt) (by simp [hs]) (by simp [hs']) ((Lst.set (by rw [hs]; exact hlt)).2 (.inr hz)) hk
end

end
end Go.R

/- Regions with two operations that no edge parts: the rule. -/
namespace Go.R
set_option linter.unusedVariables false
set_option linter.unusedSimpArgs false
open Go Go.RowKit
noncomputable section
variable {P : Program}

/-- All orders of a region's operations. -/
def RunsAny (P : Program) (k : Nat) (ops : Array Oper) (af : AF) (Q : AExit → AF → Prop) : Prop :=
  ∀ (F : Nat → Prop) (w0 : World) (μ : Mp) (a : Act) (w : World), AR F w0 μ af a w → wpAny P .any ops (RunPost F w0 k μ af.h a.defers Q) ops.size (Array.replicate ops.size false) a { w with drawn := w.drawn + 1 }

section
variable {F : Nat → Prop} {w0 : World} {call : CallF} {ops : Array Oper} {af af' : AF} {hs : List AF}
theorem plan_any (hc : CallOk P call) {μ : Mp} {a : Act} {w : World} {Q : Exit → Act → World → Prop}
    (p : Plan P call ops af af' hs) (R : AR F w0 μ af a w) (K : ∀ a' w', Onward F w0 μ af.h a.defers af' a' w' → Q .normal a' w') :
    wpAny P .any ops Q ops.size (Array.replicate ops.size false) a { w with drawn := w.drawn + 1 } := by
  refine any_ok hc p K ops.size _ _ _ ?_ ?_
  · unfold unl
    refine Nat.le_trans (List.countP_le_length) (by simp)
  · have no : ∀ i, ¬ Lst (Array.replicate ops.size false) i := fun i => by
      unfold Lst
      simp only [Array.getD_eq_getD_getElem?, Array.getElem?_replicate]
      split <;> simp
    obtain ⟨s, q1, q2, q3, q4⟩ := next_stage ops ops.size 0 (by omega)
    refine ⟨by simp, fun i o hi => absurd hi (no i), ⟨s, μ, af.h, ⟨q2, q3, fun q o h1 h2 => ?_⟩, ?_, R.heap.drawn _, Ext.refl μ _, fun t ht u hu => ?_, fun t _ u hu => R.tm t trivial u hu⟩, R.sz, rfl⟩
    · constructor
      · intro h; have := q4 q o (Nat.zero_le _) h h1; rw [h2] at this; cases this
      · intro h; exact absurd h (no q)
    · have := p.lights 0 s (by omega) fun q o a b c => q4 q o a (by omega) c
      rw [Nat.zero_add] at this
      rw [this, p.tr.first]; rfl
    · rcases ht with ht | ht
      · rw [p.tr.keep t (.inr (by rw [R.sz]; exact ht))] at hu; exact R.tm t trivial u hu
      · rw [p.tr.keep t (.inl fun j q hq hd => no j (ht j q (by simpa using hq) hd))] at hu; exact R.tm t trivial u hu
end

theorem RunsAny.rg {call : CallF} (hc : CallOk P call) {k : Nat} {ops : Array Oper} {af : AF} {Q : AExit → AF → Prop} (ov : List Via) (pairs : List (Nat × Nat)) (hk : Nat.ble k af.h.next = true)
    (hg : (statOk ops (masks ops.toList []) && (pairsIn ops.toList.length pairs && apart (foes ov))) = true) (hp : dynPairs P ops (masks ops.toList []) = pairs)
    (hs : (endV P call (.region 0 ops true) ov af).isSome = true) (ob : OblV P call (.region 0 ops true) af ov ov) (dy : DynL P call (.region 0 ops true) ov af pairs) (q : Q .normal (aftV P call (.region 0 ops true) ov af)) : RunsAny P k ops af Q := by
  simp only [Bool.and_eq_true] at hg
  obtain ⟨g2, g3, g4⟩ := hg
  have hle := Nat.le_of_ble_eq_true hk
  have hend : endV P call (.region 0 ops true) ov af = some (aftV P call (.region 0 ops true) ov af) := by
    unfold aftV
    cases h : endV P call (.region 0 ops true) ov af with
    | none => rw [h] at hs; cases hs
    | some b => rfl
  have hL : (opsL P (anyOf (told P call (.region 0 ops true) af ov ov) call) ops ops.toList af).map (·.1) = some (aftV P call (.region 0 ops true) ov af) := by
    have := opsV_opsL g4 ob ops.toList.length (aftV P call (.region 0 ops true) ov af)
    have e : (regOps (.region 0 ops true)).toList.take ops.toList.length = ops.toList := List.take_length
    rw [e] at this
    exact this hend
  have hcall := anyOf_ok hc (told_says ob)
  have pre : ∀ i, opsV P call ops ov (foes ov) 0 (ops.toList.take i) af = some (preV P call (.region 0 ops true) ov af i) := by
    intro i
    have h1 : opsV P call ops ov (foes ov) 0 ops.toList af = some (aftV P call (.region 0 ops true) ov af) := hend
    rw [← List.take_append_drop i ops.toList, opsV_app] at h1
    show _ = some ((opsV P call ops ov (foes ov) 0 (ops.toList.take i) af).getD af)
    cases h2 : opsV P call ops ov (foes ov) 0 (ops.toList.take i) af with
    | none => rw [h2] at h1; cases h1
    | some b => rfl
  intro F w0 μ a w R
  cases ho : opsL P (anyOf (told P call (.region 0 ops true) af ov ov) call) ops ops.toList af with
  | none => rw [ho] at hL; cases hL
  | some r =>
    obtain ⟨b, hs'⟩ := r
    have hb : b = aftV P call (.region 0 ops true) ov af := by
      rw [ho] at hL
      exact Option.some.inj hL
    subst hb
    have st : ∀ i, i ≤ ops.toList.length → hs'[i]? = some (preV P call (.region 0 ops true) ov af i) := by
      intro i hi
      obtain ⟨ai, q1, q2⟩ := opsL_states ops.toList af _ hs' ho i hi
      have q4 : (opsL P (anyOf (told P call (.region 0 ops true) af ov ov) call) ops (ops.toList.take i) af).map (·.1) = some (preV P call (.region 0 ops true) ov af i) := opsV_opsL g4 ob i _ (pre i)
      rw [q2] at q4
      rw [q1]
      exact q4
    have dg : ∀ x ∈ dynPairs P ops (masks ops.toList []), DynGood P ops hs' x := by
      intro x hx
      have hx' : x ∈ pairs := by rw [← hp]; exact hx
      obtain ⟨l1, l2⟩ := pairsIn_at g3 x hx'
      obtain ⟨v, h2, e1, e2⟩ := dynL_at dy x hx'
      have hop : ops[x.1]? = some (opAt (.region 0 ops true) x.1) := by
        show ops[x.1]? = some (ops.getD x.1 default)
        rw [Array.getD_eq_getD_getElem?]
        have : x.1 < ops.size := by simpa using l1
        rw [Array.getElem?_eq_getElem this]
        rfl
      exact ⟨_, _, _, _, hop, st x.2 l2, st x.1 (by omega), st (x.1 + 1) (by omega), .inr ⟨v, h2, e1, e2⟩⟩
    refine plan_any hcall (hs := hs') ⟨traced _ _ _ _ ho, g2, dg⟩ R fun a' w' ⟨μ', r1, r2, r3⟩ => ?_
    exact ⟨.normal, _, q, trivial, r3, μ', r1, .of_ext r2 hle⟩

end
end Go.R
