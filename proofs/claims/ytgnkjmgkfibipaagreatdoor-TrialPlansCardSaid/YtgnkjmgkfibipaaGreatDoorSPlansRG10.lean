/- A call that looks at two slices, known at two views, told at any two slices in any heap. -/
import Derived.Test.YtgnkjmgkfibipaaGreatDoorSPlansRG6
import Derived.Test.YtgnkjmgkfibipaaGreatDoorSPlansRG7
import Derived.Test.YtgnkjmgkfibipaaGreatDoorSPlansRG8
namespace Go.R
set_option linter.unusedVariables false
set_option linter.unusedSimpArgs false
open Go Go.RowKit
noncomputable section
variable {P : Program}

theorem slice_place {μ : Mp} {i o n : Nat} {s s' : Value} (hs : SliceAt i o n s) (r : VR μ s s') : ∃ b z e cap, μ i = some (b, z, e) ∧ n ≤ cap ∧ s' = .slice (some ⟨b, z + o, none⟩) n cap := by
  rcases hs with ⟨q, rfl⟩ | ⟨cap, hc, rfl⟩
  · obtain ⟨b, z, e, c', hm, q1, q2, q3, rfl⟩ := r.sliceU_inv
    exact ⟨b, z, e, c', hm, q2, rfl⟩
  · obtain ⟨b, z, e, hm, rfl⟩ := r.slice_inv
    exact ⟨b, z, e, cap, hm, hc, rfl⟩

def viewC (cells : List Value) : AObj := .cells cells false [] none

theorem view_or {μ μ1 : Mp} {h : AH} {F : Nat → Prop} {w0 w : World} {i o b z e : Nat} {c cells : List Value} {lv : Bool} {par : List Nat} {ty : Option TypeId} (H : HR F w0 μ h w) (hm : μ i = some (b, z, e)) (hg : h.get i = .cells c lv par ty)
    (hsub : ∀ (k : Nat) u, cells[k]? = some u → c[o + k]? = some u) (room : o + cells.length ≤ c.length) (hpl : ∀ u ∈ cells, plainV u = true) : OR μ1 (viewC cells) b (z + o) (z + o + cells.length) w := by
  have hob := H.obj i b z e hm
  rw [hg] at hob
  obtain ⟨cs, el, fr, h1, h2, h3, h4, h5⟩ := hob
  refine ⟨cs, el, fr, h1, Nat.le_refl _, by omega, fun k u hk => ?_, fun h => (by cases h), fun t h => (by cases h)⟩
  obtain ⟨u', t1, t2⟩ := h4 (o + k) u (hsub k u hk)
  have hp := hpl u (List.mem_of_getElem? hk)
  rw [plain_same t2 hp, ← Nat.add_assoc] at t1
  exact ⟨u, t1, .plain hp⟩

theorem tell_two {fid : FuncId} {i1 o1 n1 i2 o2 n2 : Nat} {c1 c2 cells1 cells2 : List Value} {lv1 lv2 : Bool} {par1 par2 : List Nat} {ty1 ty2 : Option TypeId} {h : AH} {s1 s2 v : Value} {R : Value → AH → Prop}
    (L : ∀ cap1 cap2, n1 ≤ cap1 → n2 ≤ cap2 → Local P 2 fid [.slice (some ⟨0, 0, none⟩) n1 cap1, .slice (some ⟨1, 0, none⟩) n2 cap2] (hp [viewC cells1, viewC cells2]) R) (hR : ∀ v' h', R v' h' → v' = v) (fv : flatV v = true)
    (hg1 : h.get i1 = .cells c1 lv1 par1 ty1) (hsub1 : ∀ (k : Nat) u, cells1[k]? = some u → c1[o1 + k]? = some u) (room1 : o1 + cells1.length ≤ c1.length) (hpl1 : ∀ u ∈ cells1, plainV u = true) (hs1 : SliceAt i1 o1 n1 s1)
    (hg2 : h.get i2 = .cells c2 lv2 par2 ty2) (hsub2 : ∀ (k : Nat) u, cells2[k]? = some u → c2[o2 + k]? = some u) (room2 : o2 + cells2.length ≤ c2.length) (hpl2 : ∀ u ∈ cells2, plainV u = true) (hs2 : SliceAt i2 o2 n2 s2) : Says P h fid [s1, s2] v h := by
  intro F w0 μ w args' H hl
  obtain ⟨a1, a2, ea, r1, r2⟩ : ∃ a1 a2, args'.toList = [a1, a2] ∧ VR μ s1 a1 ∧ VR μ s2 a2 := by
    match hq : args'.toList, hl with
    | [], hl => exact absurd hl.1 (by simp)
    | [x], hl => exact absurd hl.1 (by simp)
    | [x, y], hl => exact ⟨x, y, rfl, hl.head, hl.tail.head⟩
    | x :: y :: z :: l, hl => exact absurd hl.1 (by simp)
  obtain ⟨b1, z1, e1, cap1, m1, hc1, rfl⟩ := slice_place hs1 r1
  obtain ⟨b2, z2, e2, cap2, m2, hc2, rfl⟩ := slice_place hs2 r2
  let μ1 : Mp := fun j => if j = 0 then some (b1, z1 + o1, z1 + o1 + cells1.length) else if j = 1 then some (b2, z2 + o2, z2 + o2 + cells2.length) else none
  have q0 : μ1 0 = some (b1, z1 + o1, z1 + o1 + cells1.length) := rfl
  have q1 : μ1 1 = some (b2, z2 + o2, z2 + o2 + cells2.length) := rfl
  have mi : ∀ {j p}, μ1 j = some p → (j = 0 ∧ p = (b1, z1 + o1, z1 + o1 + cells1.length)) ∨ (j = 1 ∧ p = (b2, z2 + o2, z2 + o2 + cells2.length)) := by
    intro j p hj
    by_cases h0 : j = 0
    · subst h0; exact .inl ⟨rfl, (Option.some.inj hj).symm⟩
    · by_cases h1 : j = 1
      · subst h1; exact .inr ⟨rfl, (Option.some.inj hj).symm⟩
      · have : μ1 j = none := by show (if j = 0 then _ else if j = 1 then _ else none) = none; rw [if_neg h0, if_neg h1]
        rw [this] at hj; cases hj
  have g0 : (hp [viewC cells1, viewC cells2]).get 0 = viewC cells1 := hp_get _ 0 _ rfl
  have g1 : (hp [viewC cells1, viewC cells2]).get 1 = viewC cells2 := hp_get _ 1 _ rfl
  have wr : ∀ {j p}, μ1 j = some p → ((hp [viewC cells1, viewC cells2]).get j).wr = false := by
    intro j p hj
    rcases mi hj with ⟨rfl, _⟩ | ⟨rfl, _⟩
    · rw [g0]; rfl
    · rw [g1]; rfl
  have H1 : HR (fun b => b < w.heap.size) w μ1 (hp [viewC cells1, viewC cells2]) w := by
    refine ⟨fun j p hj => ?_, fun j b' z' e' hj => ?_, fun j b' z' e' hj hw => ?_, fun j k b' zi ei zj ej hne hj hk => ?_, fun j cc l p ty' hj hg' k hk => ?_, rfl, rfl, rfl, Nat.le_refl _, fun b hb => ⟨hb, rfl⟩⟩
    · rw [hp_next]
      rcases mi hj with ⟨rfl, _⟩ | ⟨rfl, _⟩
      · exact Nat.zero_lt_succ _
      · exact Nat.lt_succ_self 1
    · rcases mi hj with ⟨rfl, e⟩ | ⟨rfl, e⟩
      · cases e; rw [g0]; exact view_or H m1 hg1 hsub1 room1 hpl1
      · cases e; rw [g1]; exact view_or H m2 hg2 hsub2 room2 hpl2
    · rw [wr hj] at hw; cases hw
    · exact .inr (.inr ⟨wr hj, wr hk⟩)
    · cases hmj : μ1 j with
      | none => exact absurd hmj hj
      | some p' =>
        rcases mi hmj with ⟨rfl, _⟩ | ⟨rfl, _⟩
        · rw [g0] at hg'; cases hg'; cases hk
        · rw [g1] at hg'; cases hg'; cases hk
  have hl1 : LR μ1 [.slice (some ⟨0, 0, none⟩) n1 cap1, .slice (some ⟨1, 0, none⟩) n2 cap2] args'.toList := by
    rw [ea]
    exact LR.cons (VR.slice (μ := μ1) (i := 0) (o := 0) q0) (LR.cons (VR.slice (μ := μ1) (i := 1) (o := 0) q1) LR.nil)
  refine (L cap1 cap2 hc1 hc2 _ w μ1 w args' H1 hl1).mono fun v' w' ⟨u, h', r, μ', hv, H', K⟩ => ?_
  have eu := hR u h' r
  subst eu
  have keepB : ∀ b, b < w.heap.size → w'.heap[b]? = w.heap[b]? := fun b hb => (H'.fr b hb).2
  refine ⟨μ, flat_any hv fv, ⟨H.dom, fun j b' z' e' hj => ?_, H.own, H.sep, H.par, H'.os.trans H.os, H'.tape.trans H.tape, H'.output.trans H.output, Nat.le_trans H.size H'.size, fun b' hb => ?_⟩, ⟨Sub.refl μ, Nat.le_refl _, fun j hj hm' => ⟨hm', rfl⟩⟩⟩
  · by_cases hd : h.get j = .dead
    · rw [hd]; trivial
    · exact (H.obj j b' z' e' hj).world (keepB b' (H.inb hj hd))
  · have q := H.fr b' hb
    exact ⟨q.1, (keepB b' (Nat.lt_of_lt_of_le q.1 H.size)).trans q.2⟩
end
end Go.R

/- A call that leaves several new objects: known up to their numbers, told with numbers of its own. -/
namespace Go.R
set_option linter.unusedVariables false
set_option linter.unusedSimpArgs false
open Go Go.RowKit
noncomputable section
variable {P : Program}

def renW (σ : Nat → Nat) : Value → Value
  | .tuple vs => .tuple (vs.toList.map (renV σ 3)).toArray
  | v => renV σ 3 v
def okW (σ ρ : Nat → Nat) (m : Nat) : Value → Bool
  | .tuple vs => vs.toList.all (okV σ ρ m 3)
  | v => okV σ ρ m 3 v
theorem renW_ok {σ ρ : Nat → Nat} {m : Nat} {v : Value} (h : okW σ ρ m v = true) : Ren ρ m v (renW σ v) := by
  by_cases ht : ∃ vs, v = .tuple vs
  · obtain ⟨vs, rfl⟩ := ht
    intro μ x hx
    obtain ⟨a', rfl, ha⟩ := hx.tuple_inv
    have h : vs.toList.all (okV σ ρ m 3) = true := h
    refine VR.tuple ?_ fun k u u' hu hu' => ?_
    · have := ha.1
      simp at this ⊢
      exact this
    · have hk : (vs.toList.map (renV σ 3))[k]? = some u := by simpa using hu
      rw [List.getElem?_map] at hk
      cases hv : vs.toList[k]? with
      | none => rw [hv] at hk; cases hk
      | some w0 =>
        rw [hv] at hk
        cases hk
        exact renV_ok 3 w0 (List.all_eq_true.1 h w0 (List.mem_of_getElem? hv)) μ u' (ha.2 k w0 u' hv (by simpa using hu'))
  · have e1 : renW σ v = renV σ 3 v := by cases v <;> first | rfl | exact absurd ⟨_, rfl⟩ ht
    have e2 : okW σ ρ m v = okV σ ρ m 3 v := by cases v <;> first | rfl | exact absurd ⟨_, rfl⟩ ht
    rw [e1]
    rw [e2] at h
    exact renV_ok 3 v h

/-- Value and heap behind a call are these, under whatever numbers behind the first ones. -/
def NewSt (k : Nat) (os : List AObj) (v : Value) (v' : Value) (h' : AH) : Prop :=
  ∃ ρ σ : Nat → Nat, fixB ρ k = true ∧ injB ρ os.length = true ∧ npB h' ρ os.length = true ∧ renW σ v' = v ∧ okW σ ρ os.length v' = true ∧ ObsOk ρ os.length h' 0 os

theorem says_ren {f : FuncId} {args : List Value} {v : Value} {os0 os : List AObj} (hpre : ∀ (j : Nat) o, os0[j]? = some o → os[j]? = some o) (L : Local P os0.length f args (hp os0) (NewSt os0.length os v)) : Says P (hp os0) f args v (hp os) := by
  intro F w0 μ w args' H hl
  refine (L F w0 μ w args' H hl).mono fun v' w' ⟨u, h', ⟨ρ, σ, hf, hi, hn, e1, e2, ob⟩, μ1, hv, H', K⟩ => ?_
  have hle : os0.length ≤ os.length := by
    by_cases h0 : os0.length = 0
    · omega
    · have := hpre (os0.length - 1) _ (List.getElem?_eq_getElem (by omega))
      have := (List.getElem?_eq_some_iff.1 this).1
      omega
  have fix : ∀ j, j < os0.length → ρ j = j := fun j hj => Nat.eq_of_beq_eq_true (List.all_eq_true.1 hf j (List.mem_range.2 hj))
  have inj : ∀ i j, i < os.length → j < os.length → ρ i = ρ j → i = j := fun i j h1 h2 e => by
    have := List.all_eq_true.1 (List.all_eq_true.1 hi i (List.mem_range.2 h1)) j (List.mem_range.2 h2)
    rw [Bool.or_eq_true] at this
    rcases this with q | q
    · exact Nat.eq_of_beq_eq_true q
    · rw [e, Nat.beq_refl] at q; cases q
  have H2 := H'.renum (os := os) ρ inj (fun j o ho => by have := obs_at ob j o ho; rwa [Nat.zero_add] at this) (fun a c ha hc hne cs lv p ty hg hm => by
    have := List.all_eq_true.1 (List.all_eq_true.1 hn a (List.mem_range.2 ha)) c (List.mem_range.2 hc)
    rw [Bool.or_eq_true] at this
    rcases this with q | q
    · exact hne (Nat.eq_of_beq_eq_true q)
    · rw [hg] at q
      have : ((parsOf (.cells cs lv p ty)).any fun q => Nat.beq q (ρ c)) = true := List.any_eq_true.2 ⟨_, hm, Nat.beq_refl _⟩
      rw [this] at q; cases q)
  have hR : VR (μ1.by ρ os.length) v v' := e1 ▸ renW_ok (σ := σ) e2 μ1 v' hv
  have eqμ : ∀ i, i < os0.length → μ1.by ρ os.length i = μ i := fun i hi => by rw [by_lt (by omega), fix i hi]; exact (K i hi).1
  refine ⟨_, hR, H2, ⟨fun i p hp => ?_, by rw [hp_next, hp_next]; exact hle, fun i hi hm => ?_⟩⟩
  · have : i < os0.length := by have := H.dom i p hp; rwa [hp_next] at this
    rw [eqμ i this]; exact hp
  · rw [hp_next] at hi
    refine ⟨by rw [eqμ i hi]; exact hm, ?_⟩
    rw [hp_get os0 i _ (List.getElem?_eq_getElem hi), hp_get os i _ (hpre i _ (List.getElem?_eq_getElem hi))]
end
end Go.R

/- Regions with two operations that act and that no edge parts, one of them a call: either of them may come first. -/
namespace Go.R
set_option linter.unusedVariables false
set_option linter.unusedSimpArgs false
open Go Go.RowKit
noncomputable section
variable {P : Program}

/-- The operations of one region under the numbers of another, whose operation u waits for z besides. -/
structure EmbG (ops ops' : Array Oper) (σ : Nat → Nat) (u z : Nat) : Prop where
  size : ops'.size = ops.size
  inv : ∀ i, σ (σ i) = i
  lt : ∀ i, i < ops.size → σ i < ops.size
  get : ∀ (i : Nat) o, ops[i]? = some o → o.guard = none ∧ ∃ s, ops'[σ i]? = some { o with after := s } ∧
    (∀ e ∈ s, Region.binds .any e = true → (∃ e0 ∈ o.after, Region.binds .any e0 = true ∧ e.on = σ e0.on) ∨ (i = u ∧ e.on = σ z)) ∧ (∀ e0 ∈ o.after, Region.binds .any e0 = true → ∃ e ∈ s, Region.binds .any e = true ∧ e.on = σ e0.on) ∧
    (i = u → ∃ e ∈ s, Region.binds .any e = true ∧ e.on = σ z)

section
variable {ops ops' : Array Oper} {σ : Nat → Nat} {u z : Nat} {L L' : Array Bool}

theorem EmbG.up (E : EmbG ops ops' σ u z) (R : Rel σ L L') {i : Nat} (h : i ∈ Region.ready .any ops L) (hu : i = u → Lst L z) : σ i ∈ Region.ready .any ops' L' := by
  obtain ⟨h0, o, ho, hall⟩ := mem_ready.1 h
  obtain ⟨_, s, ho', e1, _, _⟩ := E.get i o ho
  refine mem_ready.2 ⟨by rw [R i true]; exact h0, _, ho', fun e he hb => ?_⟩
  rcases e1 e he hb with ⟨e0, q1, q2, q3⟩ | ⟨q1, q2⟩
  · rw [q3]
    have := hall e0 q1 q2
    rw [← R] at this
    exact this
  · rw [q2]
    have := hu q1
    unfold Lst at this
    rw [← R] at this
    exact this

theorem EmbG.down (E : EmbG ops ops' σ u z) (R : Rel σ L L') {i : Nat} (h : i ∈ Region.ready .any ops' L') : σ i ∈ Region.ready .any ops L ∧ (σ i = u → Lst L z) := by
  obtain ⟨h0, o', ho', hall⟩ := mem_ready.1 h
  have hlt : i < ops'.size := (Array.getElem?_eq_some_iff.1 ho').1
  have hlt2 : σ i < ops.size := E.lt i (by rw [← E.size]; exact hlt)
  have ho : ops[σ i]? = some ops[σ i] := Array.getElem?_eq_getElem hlt2
  obtain ⟨_, s, q, _, e2, e3⟩ := E.get (σ i) _ ho
  rw [E.inv, ho'] at q
  cases q
  have back : ∀ j d, L'.getD j d = L.getD (σ j) d := fun j d => by rw [← R (σ j) d, E.inv]
  refine ⟨mem_ready.2 ⟨by rw [← back]; exact h0, _, ho, fun e he hb => ?_⟩, fun hu => ?_⟩
  · obtain ⟨e', r1, r2, r3⟩ := e2 e he hb
    have := hall e' r1 r2
    rw [r3, R] at this
    exact this
  · obtain ⟨e', r1, r2, r3⟩ := e3 hu
    have := hall e' r1 r2
    rw [r3, R] at this
    exact this

theorem RelG.set (E : EmbG ops ops' σ u z) (R : Rel σ L L') (hs : L.size = ops.size) (hs' : L'.size = ops.size) {i : Nat} (hi : i < ops.size) : Rel σ (L.setIfInBounds i true) (L'.setIfInBounds (σ i) true) := by
  intro j d
  have h2 := E.lt i hi
  by_cases e : j = i
  · subst e
    simp [Array.getD_eq_getD_getElem?, Array.getElem?_setIfInBounds, hs, hs', hi, h2]
  · have e' : σ j ≠ σ i := fun h => e (by rw [← E.inv j, h, E.inv])
    have := R j d
    simp only [Array.getD_eq_getD_getElem?] at this ⊢
    rw [Array.getElem?_setIfInBounds_ne (Ne.symm e'), Array.getElem?_setIfInBounds_ne (Ne.symm e)]
    exact this

theorem EmbG.run (E : EmbG ops ops' σ u z) {Q : Exit → Act → World → Prop} : ∀ (m : Nat) (L L' : Array Bool) (a : Act) (w : World), Rel σ L L' → L.size = ops.size → L'.size = ops.size → Lst L z →
    wpAny P .any ops' Q m L' a w → wpAny P .any ops Q m L a w
  | 0, L, L', a, w, R, hs, hs', hz, h => by
    refine ⟨?_, h.2⟩
    apply List.eq_nil_iff_forall_not_mem.2
    intro i hi
    have := E.up R hi (fun _ => hz)
    rw [h.1] at this
    cases this
  | m + 1, L, L', a, w, R, hs, hs', hz, h => by
    refine ⟨fun hr => h.1 ?_, fun i hi => ?_⟩
    · apply List.eq_nil_iff_forall_not_mem.2
      intro i hi
      have := (E.down R hi).1
      rw [hr] at this
      cases this
    · obtain ⟨_, o, ho, _⟩ := mem_ready.1 hi
      have hlt : i < ops.size := (Array.getElem?_eq_some_iff.1 ho).1
      obtain ⟨hg, s, ho', _⟩ := E.get i o ho
      refine wpOp_same ho hg ho' (wpOp_mono (fun a' w' hk => ?_) (h.2 (σ i) (E.up R hi (fun _ => hz))))
      exact EmbG.run E m _ _ a' w' (RelG.set E R hs hs' hlt) (by simp [hs]) (by simp [hs']) ((Lst.set (by rw [hs]; exact hlt)).2 (.inr hz)) hk
end

/-- Two of them part no edge: in one text y waits for x, in the other x waits for y. -/
theorem twinG {ops opsA opsB : Array Oper} {σA σB : Nat → Nat} {x y : Nat} (hx : x < ops.size) (hy : y < ops.size) (hxy : x ≠ y) (A : EmbG ops opsA σA y x) (B : EmbG ops opsB σB x y) (hsm : ∀ (i : Nat) o, ops[i]? = some o → i ≠ x → i ≠ y → simpleOp o.op = true ∨ ∃ e ∈ o.after, Region.binds .any e = true ∧ (e.on = x ∨ e.on = y)) {Q : Exit → Act → World → Prop} :
    ∀ (m : Nat) (L LA LB : Array Bool) (a : Act) (w : World), Rel σA L LA → Rel σB L LB → L.size = ops.size → LA.size = ops.size → LB.size = ops.size → ¬ Lst L x → ¬ Lst L y →
    wpAny P .any opsA Q m LA a w → wpAny P .any opsB Q m LB a w → wpAny P .any ops Q m L a w
  | 0, L, LA, LB, a, w, RA, RB, hs, hA, hB, nx, ny, wA, wB => by
    refine ⟨?_, wA.2⟩
    apply List.eq_nil_iff_forall_not_mem.2
    intro i hi
    by_cases e : i = y
    · have := B.up RB hi (fun h => absurd (h.symm.trans e) hxy)
      rw [wB.1] at this
      cases this
    · have := A.up RA hi (fun h => absurd h e)
      rw [wA.1] at this
      cases this
  | m + 1, L, LA, LB, a, w, RA, RB, hs, hA, hB, nx, ny, wA, wB => by
    refine ⟨fun hr => wA.1 ?_, fun i hi => ?_⟩
    · apply List.eq_nil_iff_forall_not_mem.2
      intro i hi
      have := (A.down RA hi).1
      rw [hr] at this
      cases this
    · obtain ⟨_, o, ho, hall⟩ := mem_ready.1 hi
      have hlt : i < ops.size := (Array.getElem?_eq_some_iff.1 ho).1
      obtain ⟨hg, sA, oA, _⟩ := A.get i o ho
      obtain ⟨_, sB, oB, _⟩ := B.get i o ho
      have goA : i ≠ y → wpOp P ops Q i (wpAny P .any opsA Q m (LA.setIfInBounds (σA i) true)) a w := fun e => wpOp_same ho hg oA (wA.2 (σA i) (A.up RA hi (fun h => absurd h e)))
      have goB : i ≠ x → wpOp P ops Q i (wpAny P .any opsB Q m (LB.setIfInBounds (σB i) true)) a w := fun e => wpOp_same ho hg oB (wB.2 (σB i) (B.up RB hi (fun h => absurd h e)))
      by_cases ex : i = x
      · refine wpOp_mono (fun a' w' hk => ?_) (goA (fun h => hxy (ex.symm.trans h)))
        exact A.run m _ _ a' w' (RelG.set A RA hs hA hlt) (by simp [hs]) (by simp [hA]) ((Lst.set (by rw [hs]; exact hlt)).2 (.inl ex.symm)) hk
      · by_cases ey : i = y
        · refine wpOp_mono (fun a' w' hk => ?_) (goB ex)
          exact B.run m _ _ a' w' (RelG.set B RB hs hB hlt) (by simp [hs]) (by simp [hB]) ((Lst.set (by rw [hs]; exact hlt)).2 (.inl ey.symm)) hk
        · have hsim : simpleOp o.op = true := by
            rcases hsm i o ho ex ey with h | ⟨e, h1, h2, h3⟩
            · exact h
            · exfalso
              have h4 := hall e h1 h2
              have key : ∀ j, j < ops.size → L.getD j true = true → Lst L j := fun j hj h => by
                unfold Lst
                rw [Array.getD_eq_getD_getElem?, Array.getElem?_eq_getElem (by rw [hs]; exact hj)] at h ⊢
                exact h
              first
                | (rcases h3 with h3 | h3
                   · rw [h3] at h4; exact nx (key x hx h4)
                   · rw [h3] at h4; exact ny (key y hy h4))
                | (rcases h3 with h3 | h3
                   · rw [h3] at h4; exact nx h4
                   · rw [h3] at h4; exact ny h4)
          refine wpOp_mono (fun a' w' hk => ?_) (wpOp_and ho hsim (goA ey) (goB ex))
          refine twinG hx hy hxy A B hsm m _ _ _ a' w' (RelG.set A RA hs hA hlt) (RelG.set B RB hs hB hlt) (by simp [hs]) (by simp [hA]) (by simp [hB]) (fun h => ?_) (fun h => ?_) hk.1 hk.2
          · rcases (Lst.set (by rw [hs]; exact hlt)).1 h with h | h
            · exact ex h.symm
            · exact nx h
          · rcases (Lst.set (by rw [hs]; exact hlt)).1 h with h | h
            · exact ey h.symm
            · exact ny h

def noGuard (ops : Array Oper) : Bool := ops.toList.all fun o => o.guard.isNone
theorem ordOf_embG {ops : Array Oper} {σ : Nat → Nat} {u z : Nat} (hs : noGuard ops = true) (inv : ∀ i, σ (σ i) = i) (lt : ∀ i, i < ops.size → σ i < ops.size) : EmbG ops (ordOf ops σ u z) σ u z where
  size := by simp [ordOf]
  inv := inv
  lt := lt
  get := fun i o ho => by
    have hlt : i < ops.size := (Array.getElem?_eq_some_iff.1 ho).1
    have hsim := List.all_eq_true.1 hs o (by rw [Array.mem_toList_iff]; exact Array.mem_of_getElem? ho)
    have hget : ops.getD (σ (σ i)) default = o := by rw [inv, Array.getD_eq_getD_getElem?, ho]; rfl
    have hb : ∀ j, Region.binds .any (⟨j, .data⟩ : Edge) = true := fun j => rfl
    refine ⟨by simpa using hsim, (((edgesOn o).map σ ++ if Nat.beq i u then [σ z] else []).map fun j => (⟨j, .data⟩ : Edge)).toArray, ?_, ?_, ?_, ?_⟩
    · unfold ordOf
      rw [List.getElem?_toArray, List.getElem?_map, List.getElem?_range (lt i hlt)]
      have hget2 : ops.getD i default = o := by rw [← inv i]; exact hget
      simp only [Option.map_some, inv, hget2]
      rfl
    · intro e he _
      simp only [List.mem_toArray, List.mem_map, List.mem_append] at he
      obtain ⟨j, hj, rfl⟩ := he
      rcases hj with ⟨k, hk, rfl⟩ | hj
      · unfold edgesOn at hk
        obtain ⟨e0, h0, rfl⟩ := List.mem_map.1 hk
        rw [List.mem_filter] at h0
        exact .inl ⟨e0, by simpa using h0.1, h0.2, rfl⟩
      · by_cases hu : Nat.beq i u = true
        · rw [if_pos hu] at hj
          exact .inr ⟨Nat.eq_of_beq_eq_true hu, List.mem_singleton.1 hj⟩
        · rw [if_neg hu] at hj; cases hj
    · intro e0 h0 hbe
      refine ⟨⟨σ e0.on, .data⟩, ?_, rfl, rfl⟩
      simp only [List.mem_toArray, List.mem_map, List.mem_append]
      refine ⟨σ e0.on, .inl ⟨e0.on, ?_, rfl⟩, rfl⟩
      unfold edgesOn
      exact List.mem_map.2 ⟨e0, List.mem_filter.2 ⟨by simpa using h0, hbe⟩, rfl⟩
    · intro hu
      refine ⟨⟨σ z, .data⟩, ?_, rfl, rfl⟩
      simp only [List.mem_toArray, List.mem_map, List.mem_append]
      refine ⟨σ z, .inr ?_, rfl⟩
      rw [if_pos (by rw [hu]; exact Nat.beq_refl u)]
      exact List.mem_singleton.2 rfl


/-- What may come ahead of both is simple. -/
def aheadSimple (ops : Array Oper) (x y : Nat) : Bool := (List.range ops.size).all fun i => Nat.beq i x || (Nat.beq i y || (simpleOp (ops.getD i default).op || (edgesOn (ops.getD i default)).any fun j => Nat.beq j x || Nat.beq j y))
def sigL (L : List Nat) (i : Nat) : Nat := L.getD i i
def sigOk (L : List Nat) : Bool := (List.range L.length).all fun i => Nat.blt (sigL L i) L.length && Nat.beq (sigL L (sigL L i)) i

theorem sigL_inv {L : List Nat} (h : sigOk L = true) (i : Nat) : sigL L (sigL L i) = i := by
  by_cases hi : i < L.length
  · have := List.all_eq_true.1 h i (List.mem_range.2 hi)
    rw [Bool.and_eq_true] at this
    exact Nat.eq_of_beq_eq_true this.2
  · have e : sigL L i = i := by unfold sigL; rw [List.getD_eq_getElem?_getD, List.getElem?_eq_none (by omega)]; rfl
    rw [e, e]
theorem sigL_lt {L : List Nat} (h : sigOk L = true) {n : Nat} (hn : L.length ≤ n) {i : Nat} (hi : i < n) : sigL L i < n := by
  by_cases hl : i < L.length
  · have := List.all_eq_true.1 h i (List.mem_range.2 hl)
    rw [Bool.and_eq_true] at this
    have := blt_lt this.1
    omega
  · have e : sigL L i = i := by unfold sigL; rw [List.getD_eq_getElem?_getD, List.getElem?_eq_none (by omega)]; rfl
    rw [e]; exact hi

theorem Runs.tw3 (hm : P.follows .mixedOrders = true) {k : Nat} {c : Code} {af : AF} {Q : AExit → AF → Prop} (x y : Nat) (L : List Nat) (hd : isDrawn c = true)
    (hs : (noGuard (regOps c) && (aheadSimple (regOps c) x y && (sigOk L && (Nat.ble L.length (regOps c).size && (Nat.blt x (regOps c).size && (Nat.blt y (regOps c).size && !Nat.beq x y)))))) = true)
    (hA : RunsAny P k (ordOf (regOps c) (fun i => i) y x) af Q) (hB : RunsAny P k (ordOf (regOps c) (sigL L) x y) af Q) : Runs P k c af Q := by
  cases c with
  | region id ops dr =>
    cases dr with
    | false => cases hd
    | true =>
      simp only [regOps, Bool.and_eq_true, Bool.not_eq_true'] at hs
      obtain ⟨h1, h2, h3, h4, h5, h6, h7⟩ := hs
      have hx := blt_lt h5
      have hy := blt_lt h6
      have hxy : x ≠ y := fun e => by rw [e, Nat.beq_refl] at h7; cases h7
      have hl := Nat.le_of_ble_eq_true h4
      have A : EmbG ops (ordOf ops (fun i => i) y x) (fun i => i) y x := ordOf_embG h1 (fun _ => rfl) (fun _ h => h)
      have B : EmbG ops (ordOf ops (sigL L) x y) (sigL L) x y := ordOf_embG h1 (sigL_inv h3) (fun i hi => sigL_lt h3 hl hi)
      have no : ∀ i, ¬ Lst (Array.replicate ops.size false) i := fun i => by
        unfold Lst
        simp only [Array.getD_eq_getD_getElem?, Array.getElem?_replicate]
        split <;> simp
      have sm : ∀ (i : Nat) o, ops[i]? = some o → i ≠ x → i ≠ y → simpleOp o.op = true ∨ ∃ e ∈ o.after, Region.binds .any e = true ∧ (e.on = x ∨ e.on = y) := fun i o ho e1 e2 => by
        have hlt : i < ops.size := (Array.getElem?_eq_some_iff.1 ho).1
        have hget : ops.getD i default = o := by rw [Array.getD_eq_getD_getElem?, ho]; rfl
        have := List.all_eq_true.1 h2 i (List.mem_range.2 hlt)
        rw [hget, Bool.or_eq_true, Bool.or_eq_true, Bool.or_eq_true] at this
        rcases this with q | q | q | q
        · exact absurd (Nat.eq_of_beq_eq_true q) e1
        · exact absurd (Nat.eq_of_beq_eq_true q) e2
        · exact .inl q
        · obtain ⟨j, hj, q⟩ := List.any_eq_true.1 q
          unfold edgesOn at hj
          obtain ⟨e, he, rfl⟩ := List.mem_map.1 hj
          rw [List.mem_filter] at he
          rw [Bool.or_eq_true] at q
          exact .inr ⟨e, by simpa using he.1, he.2, q.elim (fun q => .inl (Nat.eq_of_beq_eq_true q)) (fun q => .inr (Nat.eq_of_beq_eq_true q))⟩
      intro F w0 μ a w R
      have rA := hA F w0 μ a w R
      have rB := hB F w0 μ a w R
      simp only [regOps] at rA rB
      rw [A.size] at rA
      rw [B.size] at rB
      exact wp_region_any hm (twinG hx hy hxy A B sm ops.size _ _ _ a _ (rel_replicate (fun _ => rfl) (fun _ h => h)) (rel_replicate (sigL_inv h3) (fun i hi => sigL_lt h3 hl hi)) (by simp) (by simp) (by simp) (no x) (no y) rA rB)
  | _ => cases hd
/-- A load of one cell that may come to stand elsewhere. -/
theorem dyn_cell {call : CallF} {c : Code} {ov : List Via} {af : AF} {i p g off d : Nat} {v : Value} (h : loadIn P (preV P call c ov af i) (opAt c i) = some (g, off, 1, false)) (hr : rowAt? (preV P call c ov af p).h g off 1 = some [v])
    (hd : (opAt c i).dst = some d) (hv : (preV P call c ov af (i + 1)).tm.get d = some v) : DynAt P call c ov af (i, p) := by
  refine ⟨v, (preV P call c ov af p).h, ?_, fun d' hd' => ?_⟩
  · unfold loadIn at h
    split at h
    · rename_i t x hop
      split at h
      · rename_i g' off' info dd hx hi ht
        simp only [Option.some.injEq, Prod.mk.injEq] at h
        obtain ⟨rfl, rfl, hsz, hd2⟩ := h
        show opA P (evalA (preV P call c ov af i).tm) (opAt c i).op (preV P call c ov af p).h = _
        rw [hop]
        simp only [opA, hx, loadA, hi, ht, hd2, Bool.false_eq_true, if_false, hr, Option.map_some]
      · cases h
    · cases h
  · rw [hd] at hd'
    cases hd'
    exact hv
end
end Go.R
