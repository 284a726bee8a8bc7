/- A region whose order is drawn, with one new variable that no edge binds. -/
import Derived.Test.YtbcjmmbmeebfgaaGreatDoorSFloodedRG3
namespace Go.R
set_option linter.unusedVariables false
set_option linter.unusedSimpArgs false
open Go Go.RowKit

section
variable {P : Program} {F : Nat → Prop} {w0 : World} {call : CallF}

theorem flL_length (d : Tmp) : ∀ (k : Nat) (l : List Oper), (flL d k l).length = l.length
  | _, [] => by cases ‹Nat› <;> rfl
  | 0, o :: l => rfl
  | k + 1, o :: l => by simp [flL, flL_length d k l]

theorem flL_get (d : Tmp) : ∀ (k : Nat) (l : List Oper) (i : Nat), (flL d k l)[i]? = if i = k then (l[i]?).map (fun o => { o with op := .move (.tmp d) }) else l[i]?
  | 0, [], i => by simp [flL]
  | k + 1, [], i => by simp [flL]
  | 0, o :: l, 0 => rfl
  | 0, o :: l, i + 1 => by simp [flL]
  | k + 1, o :: l, 0 => by simp [flL]
  | k + 1, o :: l, i + 1 => by simp only [flL, List.getElem?_cons_succ, flL_get d k l i, Nat.add_right_cancel_iff]

theorem flFind_spec : ∀ (l : List Oper) (k0 k : Nat) (d : Tmp) (e : TypeId), flFind l k0 = some (k, d, e) →
    k0 ≤ k ∧ ∃ o, l[k - k0]? = some o ∧ o.op = .alloc e ∧ o.guard = none ∧ o.dst = some d ∧ ∀ x ∈ o.after, Region.binds .any x = false
  | [], k0, k, d, e, h => by simp [flFind] at h
  | o :: l, k0, k, d, e, h => by
    have go : flFind l (k0 + 1) = some (k, d, e) → k0 ≤ k ∧ ∃ o', (o :: l)[k - k0]? = some o' ∧ o'.op = .alloc e ∧ o'.guard = none ∧ o'.dst = some d ∧ ∀ x ∈ o'.after, Region.binds .any x = false := by
      intro h
      obtain ⟨h1, o', h2, h3⟩ := flFind_spec l (k0 + 1) k d e h
      refine ⟨by omega, o', ?_, h3⟩
      rw [show k - k0 = (k - (k0 + 1)) + 1 by omega, List.getElem?_cons_succ]
      exact h2
    unfold flFind at h
    split at h
    · rename_i e' d' h1 h2 h3
      split at h
      · rename_i h4
        cases h
        refine ⟨Nat.le_refl _, o, by simp, h1, h2, h3, fun x hx => ?_⟩
        rw [List.all_eq_true] at h4
        have := h4 x (by simpa using hx)
        simpa using this
      · exact go h
    · exact go h

/-- The real region, the told one, and what is known of the floating variable. -/
structure Fl (ops ops' : Array Oper) (k : Nat) (d : Tmp) (e : TypeId) (o0 : Oper) : Prop where
  size : ops'.size = ops.size
  other : ∀ i, i ≠ k → ops'[i]? = ops[i]?
  at_ : ops[k]? = some o0
  at' : ops'[k]? = some { o0 with op := .move (.tmp d) }
  op : o0.op = .alloc e
  guard : o0.guard = none
  dst : o0.dst = some d
  free : ∀ x ∈ o0.after, Region.binds .any x = false

section
variable {ops ops' : Array Oper} {k : Nat} {d : Tmp} {e : TypeId} {o0 : Oper}

theorem Fl.of (h : flFind ops.toList 0 = some (k, d, e)) : ∃ o0, Fl ops (flL d k ops.toList).toArray k d e o0 := by
  obtain ⟨_, o0, h1, h2, h3, h4, h5⟩ := flFind_spec _ _ _ _ _ h
  rw [Nat.sub_zero, Array.getElem?_toList] at h1
  refine ⟨o0, by simp [flL_length], fun i hi => ?_, h1, ?_, h2, h3, h4, h5⟩
  · simp [flL_get, hi]
  · simp [flL_get, h1]

theorem Fl.dsts (f : Fl ops ops' k d e o0) (j : Nat) : (ops'[j]?).bind (·.dst) = (ops[j]?).bind (·.dst) := by
  by_cases h : j = k
  · subst h; rw [f.at', f.at_]; rfl
  · rw [f.other j h]

theorem Fl.yielded (f : Fl ops ops' k d e o0) (tmps : Array Value) : Go.yielded ops' tmps = Go.yielded ops tmps := by
  funext j
  unfold Go.yielded
  rw [f.dsts j]

theorem Fl.ready (f : Fl ops ops' k d e o0) (listed : Array Bool) (i : Nat) : i ∈ Region.ready .any ops listed ↔ i ∈ Region.ready .any ops' listed := by
  rw [mem_ready, mem_ready]
  by_cases h : i = k
  · subst h
    rw [f.at', f.at_]
    constructor
    · rintro ⟨h0, o, ho, hh⟩; cases ho; exact ⟨h0, _, rfl, hh⟩
    · rintro ⟨h0, o, ho, hh⟩; cases ho; exact ⟨h0, _, rfl, hh⟩
  · rw [f.other i h]

structure InvF (F : Nat → Prop) (w0 : World) (μ0 : Mp) (ops' : Array Oper) (k n0 : Nat) (d : Tmp) (zc : AObj) (h0 : AH) (af1 af' : AF) (hs : List AF) (D : List Deferred) (listed : Array Bool) (a : Act) (w : World) : Prop where
  size : listed.size = ops'.size
  down : ∀ (i : Nat) o, Lst listed i → ops'[i]? = some o → ∀ e ∈ o.after, Region.binds .any e = true → Lst listed e.on
  rest : ∃ s μ h, Stage ops' (Lst listed) s ∧ (hs[s]?).map AF.h = some h ∧ HR F w0 μ h w ∧ Ext μ0 μ h0 h ∧
    TR μ af'.tm a.tmps (fun t => a.tmps.size ≤ t ∨ ∀ (i : Nat) o, ops'[i]? = some o → o.dst = some t → Lst listed i) ∧
    TR μ af1.tm a.tmps (fun t => t ≠ d ∧ ∀ (i : Nat) o, ops'[i]? = some o → o.dst = some t → ¬ Lst listed i) ∧
    (¬ Lst listed k → μ n0 = none ∧ n0 < h.next ∧ h.get n0 = zc)
  sz : af1.sz = a.tmps.size
  dfr : a.defers = D

variable {af1 af' : AF} {hs : List AF}

theorem float_step (hc : CallOk P call) (f : Fl ops ops' k d e o0) (p : Plan P call ops' af1 af' hs) {z : Value} (hz : zeroA P e = some z) {n0 : Nat} {h0 : AH} (hn0 : h0.next ≤ n0) (hd1 : af1.tm.get d = some (.pointer (some ⟨n0, 0, none⟩))) (hdl : d < af1.sz)
    {μ0 : Mp} {D : List Deferred} {Q : Exit → Act → World → Prop} {listed : Array Bool} {a : Act} {w : World}
    (I : InvF F w0 μ0 ops' k n0 d (.cells z.cells.toList true [] (some e)) h0 af1 af' hs D listed a w) {i : Nat} (hi : i ∈ Region.ready .any ops' listed) {K : Act → World → Prop}
    (hK : ∀ a' w', InvF F w0 μ0 ops' k n0 d (.cells z.cells.toList true [] (some e)) h0 af1 af' hs D (listed.setIfInBounds i true) a' w' → K a' w') : wpOp P ops Q i K a w := by
  obtain ⟨hl0, o, ho, hall⟩ := mem_ready.1 hi
  have hlt : i < ops'.size := (Array.getElem?_eq_some_iff.1 ho).1
  have hun : ¬ Lst listed i := by
    unfold Lst; rw [← getD_lst (by rw [I.size]; exact hlt), hl0]; simp
  obtain ⟨s, μ, h, S, hh, H, E, R, R0, B⟩ := I.rest
  have hn : ¬ Lst listed ops'.size := by
    unfold Lst; rw [Array.getD_eq_getD_getElem?, Array.getElem?_eq_none (by rw [I.size]; exact Nat.le_refl _)]; simp
  obtain ⟨ai, s', h', v, hai, S', hh', hrun, hput⟩ := p.meets S hn I.down ho hun hall hh
  have hpre : ∀ j, has (masks ops'.toList []) i j = true → Lst listed j := has_listed p.back I.down (i + 1) i o (Nat.lt_succ_self _) ho hall
  have kfree : ∀ j, has (masks ops'.toList []) k j = false := fun j => by
    cases hq : has (masks ops'.toList []) k j with
    | false => rfl
    | true => exact (has_listed (L := fun _ => False) p.back (fun _ _ h => h.elim) (k + 1) k _ (Nat.lt_succ_self _) f.at' (fun x hx hb => by rw [f.free x hx] at hb; cases hb) j hq).elim
  have wk : ∀ (j : Nat) (q : Oper), ops'[j]? = some q → q.dst = some d → j = k := fun j q hq hd => p.uniq f.at' hq f.dst hd
  have hset : ∀ j, Lst (listed.setIfInBounds i true) j ↔ (j = i ∨ Lst listed j) := fun j => Lst.set (by rw [I.size]; exact hlt)
  have hLst : (fun j => j = i ∨ Lst listed j) = Lst (listed.setIfInBounds i true) := funext fun j => propext (hset j).symm
  rw [hLst] at S'
  have old : ∀ (v' : Value) (t : Tmp), (a.tmps.size ≤ t ∨ o.dst ≠ some t) → (a.put o.dst v').tmps.getD t undef = a.tmps.getD t undef := by
    intro v' t hne
    cases hd : o.dst with
    | none => rfl
    | some d =>
      simp only [Act.put, Array.getD_eq_getD_getElem?]
      by_cases e : d = t
      · subst e
        rcases hne with hne | hne
        · rw [Array.setIfInBounds_eq_of_size_le hne]
        · exact absurd hd hne
      · rw [Array.getElem?_setIfInBounds_ne e]
  have next : ∀ μ' v' w', VR μ' v v' → HR F w0 μ' h' w' → Sub μ μ' → Ext μ0 μ' h0 h' → ((¬ Lst listed k ∧ k ≠ i) → μ' n0 = none ∧ n0 < h'.next ∧ h'.get n0 = .cells z.cells.toList true [] (some e)) →
      InvF F w0 μ0 ops' k n0 d (.cells z.cells.toList true [] (some e)) h0 af1 af' hs D (listed.setIfInBounds i true) (a.put o.dst v') w' := by
    intro μ' v' w' q1 q2 q3 q4 q5
    refine ⟨by simp [I.size], ?_, ⟨s', μ', h', S', hh', q2, q4, ?_, ?_, ?_⟩, by rw [Act.put_size]; exact I.sz, by rw [Act.put_def]; exact I.dfr⟩
    · intro j q hj hq e he hb
      rw [hset] at hj ⊢
      rcases hj with rfl | hj
      · rw [ho] at hq; cases hq; exact .inr (hall e he hb)
      · exact .inr (I.down j q hj hq e he hb)
    · intro t ht u hu
      rw [Act.put_size] at ht
      by_cases hc1 : o.dst = some t ∧ t < a.tmps.size
      · obtain ⟨hd, hlt'⟩ := hc1
        rw [hput t hd (by rw [I.sz]; exact hlt')] at hu
        cases hu
        rw [hd]
        simp only [Act.put, Array.getD_eq_getD_getElem?]
        rw [Array.getElem?_setIfInBounds_self_of_lt hlt']
        exact q1
      · have hne : a.tmps.size ≤ t ∨ o.dst ≠ some t := by
          by_cases e : o.dst = some t
          · exact .inl (Nat.le_of_not_lt fun h => hc1 ⟨e, h⟩)
          · exact .inr e
        rw [old _ t hne]
        refine (R t ?_ u hu).mono q3
        rcases ht with h | h
        · exact .inl h
        · rcases hne with hne | hne
          · exact .inl hne
          · refine .inr fun j q hj hd => ?_
            rcases (hset j).1 (h j q hj hd) with rfl | h'
            · rw [ho] at hj; cases hj; exact absurd hd hne
            · exact h'
    · intro t ht u hu
      rw [old _ t (.inr fun hd => ht.2 i o ho hd ((hset i).2 (.inl rfl)))]
      exact (R0 t ⟨ht.1, fun k r hr hd hL => ht.2 k r hr hd ((hset k).2 (.inr hL))⟩ u hu).mono q3
    · intro hk
      rw [hset] at hk
      exact q5 ⟨fun h => hk (.inr h), fun h => hk (.inl h)⟩
  by_cases hik : i = k
  · subst hik
    rw [f.at'] at ho
    cases ho
    obtain ⟨b1, b2, b3⟩ := B hun
    have hdid : v = .pointer (some ⟨n0, 0, none⟩) ∧ h' = h := by
      obtain ⟨ai', v', an, q1, _, _, _, _, _, q6⟩ := p.at_ f.at'
      rw [hai] at q1
      cases q1
      have hget : ai.tm.get d = some (.pointer (some ⟨n0, 0, none⟩)) := by
        rw [q6 d fun j r hj hr hd2 => by have := wk j r hr hd2; omega]
        exact hd1
      rcases hrun with ⟨_, hr⟩ | ⟨hw, _⟩
      · have : stepA P call (evalA ai.tm) (.move (.tmp d)) h = some (v, h') := hr
        simp only [stepA, callOp?, opA, evalA, hget, Option.map_some, Option.some.injEq, Prod.mk.injEq] at this
        exact ⟨this.1.symm, this.2.symm⟩
      · have : wantedA ops' ai.tm { o0 with op := .move (.tmp d) } = some true := by unfold wantedA; rw [f.guard]
        rw [this] at hw; cases hw
    obtain ⟨rfl, rfl⟩ := hdid
    obtain ⟨z1, z2, i0, hi0, hiz, hok⟩ := zeroA_ok (w := w) (μ := μ) hz
    have hzc : ∀ u ∈ z.cells.toList, plainV u = true := okZero_cells hok
    have HB := H.born n0 b2 b1 (.cells z.cells e) z.cells.size (fun c l pp ty hg j hj => by rw [b3] at hg; cases hg; cases hj) (by
      rw [b3]
      refine ⟨z.cells, e, (0, 0), by show (w.heap.push _)[w.heap.size]? = _; rw [Array.getElem?_push, if_pos rfl], by simp, Nat.le_refl _, fun j u hj => ?_, fun _ j _ _ hh => absurd hh.2 (Nat.not_lt_zero j), fun t ht => ⟨by cases ht; rfl, rfl⟩⟩
      refine ⟨u, ?_, .plain (hzc u (List.mem_of_getElem? hj))⟩
      rw [Nat.zero_add, ← Array.getElem?_toList]; exact hj)
    unfold wpOp
    rw [f.at_]
    simp only
    have hwant : Region.wanted o0 (yielded ops a.tmps) = true := by unfold Region.wanted; rw [f.guard]
    rw [if_pos hwant]
    refine .inl ?_
    unfold Oper.wp
    have hx : (execOp a.eval o0).run P w = .ok (.value (.pointer (some ⟨w.heap.size, 0, none⟩))) (w.alloc (.cells z.cells e)) := by
      simp [execOp, f.op, Instr.alloc, z1, newVar, newRow, run_newObj]
    rw [hx, Oper.upon_value]
    have hN := next _ _ _ (VR.new_ptr (μ := μ) (i := n0) (b := w.heap.size) (e := z.cells.size)) HB (Mp.add_sub b1) ⟨E.sub.trans (Mp.add_sub b1), E.next, fun j hj hm => ⟨by unfold Mp.add; rw [if_neg (by omega)]; exact (E.unborn j hj hm).1, (E.unborn j hj hm).2⟩⟩ (fun hh => absurd rfl hh.2)
    exact hK _ _ hN
  · have hro : ops[i]? = some o := by rw [← f.other i hik]; exact ho
    have hlook : TR μ ai.tm a.tmps (fun t => t ∈ o.looksAt ops') := by
      intro t ht u hu
      obtain ⟨ai', v', an, q1, _, _, _, _, q5, q6⟩ := p.at_ ho
      rw [hai] at q1
      cases q1
      by_cases hx : ∃ (j : Nat) (q : Oper), ops'[j]? = some q ∧ q.dst = some t
      · obtain ⟨j, q, hq, hd⟩ := hx
        have tne : (j = i ∨ has (masks ops'.toList []) j i = true) → t ≠ d := by
          rintro hji rfl
          have := wk j q hq hd
          subst this
          rcases hji with h | h
          · exact hik h.symm
          · rw [kfree i] at h; cases h
        rcases p.before ho hq ht hd with rfl | ⟨hlt', hb⟩ | ⟨hlt', hb⟩
        · rw [q6 t fun k r hk hr hd2 => by have := p.uniq hq hr hd hd2; omega] at hu
          refine R0 t ⟨tne (.inl rfl), fun k r hr hd2 => by have := p.uniq hq hr hd hd2; rw [this]; exact hun⟩ u hu
        · rw [← q5 t fun k r hk hr hd2 => by have := p.uniq hq hr hd hd2; omega] at hu
          exact R t (.inr fun k r hr hd2 => by have := p.uniq hq hr hd hd2; rw [this]; exact hpre j hb) u hu
        · rw [q6 t fun k r hk hr hd2 => by have := p.uniq hq hr hd hd2; omega] at hu
          refine R0 t ⟨tne (.inr hb), fun k r hr hd2 hL => ?_⟩ u hu
          have := p.uniq hq hr hd hd2
          rw [this] at hL
          exact hun (has_listed p.back I.down (j + 1) j q (Nat.lt_succ_self _) hq (I.down j q hL hq) i hb)
      · rw [← q5 t fun k r hk hr hd2 => hx ⟨k, r, hr, hd2⟩] at hu
        exact R t (.inr fun k r hr hd2 => absurd ⟨k, r, hr, hd2⟩ hx) u hu
    unfold wpOp
    rw [hro]
    simp only
    rw [← f.yielded]
    rcases hrun with ⟨hw, hrun⟩ | ⟨hw, rfl, rfl⟩
    · have hwant := wanted_ok (o := o) (ops := ops') hlook (fun _ h => h) hw
      rw [if_pos hwant]
      refine .inl (step_ok hc H (fun x hx u hu => evalA_ok hlook (fun t ht => (looks_tmp (by rw [← ht]; exact hx))) hu) hrun fun μ' v' w' q1 q2 q3 => hK _ _ (next μ' v' w' q1 q2 q3.sub (E.trans q3) fun hh => ?_))
      obtain ⟨b1, b2, b3⟩ := B hh.1
      obtain ⟨c1, c2⟩ := q3.unborn n0 b2 b1
      exact ⟨c1, Nat.lt_of_lt_of_le b2 q3.next, c2.trans b3⟩
    · have hwant := wanted_ok (o := o) (ops := ops') hlook (fun _ h => h) hw
      rw [if_neg (by rw [hwant]; exact Bool.false_ne_true)]
      exact hK _ _ (next μ undef w VR.undef H (Sub.refl μ) E fun hh => B hh.1)

theorem float_end (p : Plan P call ops' af1 af' hs) {n0 : Nat} {zc : AObj} {h0 : AH} {μ0 : Mp} {D : List Deferred} {listed : Array Bool} {a : Act} {w : World}
    (I : InvF F w0 μ0 ops' k n0 d zc h0 af1 af' hs D listed a w) (hr : ∀ i, i < ops'.size → Lst listed i) : Onward F w0 μ0 h0 D af' a w := by
  obtain ⟨s, μ, h, S, hh, H, E, R, R0, _⟩ := I.rest
  have e : s = ops'.size := by
    rcases Nat.lt_or_ge s ops'.size with h1 | h1
    · obtain ⟨o, q1, q2⟩ := S.2.1 h1
      exact absurd ((S.2.2 s o q1 q2).2 (hr s h1)) (Nat.lt_irrefl _)
    · exact Nat.le_antisymm S.1 h1
  have hl := p.tr.last
  rw [Array.length_toList, ← e] at hl
  rw [hl] at hh
  cases hh
  exact ⟨μ, ⟨H, fun t _ u hu => R t (.inr fun i o hi _ => hr i (Array.getElem?_eq_some_iff.1 hi).1) u hu, by rw [p.tr.sz, I.sz]⟩, E, I.dfr⟩

theorem float_nil (p : Plan P call ops' af1 af' hs) {n0 : Nat} {zc : AObj} {h0 : AH} {μ0 : Mp} {D : List Deferred} {listed : Array Bool} {a : Act} {w : World}
    (I : InvF F w0 μ0 ops' k n0 d zc h0 af1 af' hs D listed a w) (hr : Region.ready .any ops' listed = []) : ∀ n i, i < n → i < ops'.size → Lst listed i := by
  intro n
  induction n with
  | zero => intro i h; omega
  | succ n ih =>
    intro i hin hi
    cases hl : listed.getD i true with
    | true => unfold Lst; rw [← getD_lst (by rw [I.size]; exact hi)]; exact hl
    | false =>
      have ho : ops'[i]? = some ops'[i] := Array.getElem?_eq_getElem hi
      have : i ∈ Region.ready .any ops' listed := mem_ready.2 ⟨hl, _, ho, fun e he hb => by
        have := p.back i _ ho e he hb
        exact ih e.on (by omega) (by omega)⟩
      rw [hr] at this
      cases this

theorem float_any (hc : CallOk P call) (f : Fl ops ops' k d e o0) (p : Plan P call ops' af1 af' hs) {z : Value} (hz : zeroA P e = some z) {n0 : Nat} {h0 : AH} (hn0 : h0.next ≤ n0) (hd1 : af1.tm.get d = some (.pointer (some ⟨n0, 0, none⟩))) (hdl : d < af1.sz)
    {μ0 : Mp} {D : List Deferred} {Q : Exit → Act → World → Prop} (hQ : ∀ a w, Onward F w0 μ0 h0 D af' a w → Q .normal a w) :
    ∀ (fuel : Nat) (listed : Array Bool) (a : Act) (w : World), unl listed ≤ fuel → InvF F w0 μ0 ops' k n0 d (.cells z.cells.toList true [] (some e)) h0 af1 af' hs D listed a w → wpAny P .any ops Q fuel listed a w
  | 0, listed, a, w, hu, I => by
    have all : ∀ i, i < ops'.size → Lst listed i := fun i hi => unl_zero (by omega) (by rw [I.size]; exact hi)
    refine ⟨?_, hQ a w (float_end p I all)⟩
    apply List.eq_nil_iff_forall_not_mem.2
    intro i hi
    obtain ⟨h0, o, ho, _⟩ := mem_ready.1 ((f.ready _ _).1 hi)
    have hlt := (Array.getElem?_eq_some_iff.1 ho).1
    have := all i hlt
    unfold Lst at this
    rw [← getD_lst (by rw [I.size]; exact hlt), h0] at this
    cases this
  | fuel + 1, listed, a, w, hu, I => by
    have same : Region.ready .any ops listed = [] → Region.ready .any ops' listed = [] := fun h => by
      apply List.eq_nil_iff_forall_not_mem.2
      intro i hi
      have := (f.ready listed i).2 hi
      rw [h] at this; cases this
    refine ⟨fun hr => hQ a w (float_end p I fun i hi => float_nil p I (same hr) (i + 1) i (Nat.lt_succ_self _) hi), fun i hi => ?_⟩
    have hi' := (f.ready listed i).1 hi
    refine float_step hc f p hz hn0 hd1 hdl I hi' fun a' w' I' => float_any hc f p hz hn0 hd1 hdl hQ fuel _ a' w' ?_ I'
    obtain ⟨h0, o, ho, _⟩ := mem_ready.1 hi'
    have hlt := (Array.getElem?_eq_some_iff.1 ho).1
    have hs' : i < listed.size := by rw [I.size]; exact hlt
    have : listed[i]? = some false := by
      rw [Array.getD_eq_getD_getElem?, Array.getElem?_eq_getElem hs'] at h0
      rw [Array.getElem?_eq_getElem hs']
      simpa using h0
    have := unl_set this
    omega
end

theorem float_ok (hm : P.follows .mixedOrders = true) (hc : CallOk P call) {ops : Array Oper} {af af' : AF} {μ : Mp} {a : Act} {w : World} {id : Nat} {Q : Exit → Act → World → Prop}
    (he : floatA P call ops af = some af') (R : AR F w0 μ af a w) (K : ∀ a' w', Onward F w0 μ af.h a.defers af' a' w' → Q .normal a' w') :
    (Code.region id ops true).wp P Q a w := by
  unfold floatA at he
  split at he
  · rename_i k d e hf
    split at he
    · rename_i z hz
      split at he
      · rename_i hdl
        have hdl : d < af.sz := by simpa [Nat.blt_eq] using hdl
        obtain ⟨o0, f⟩ := Fl.of hf
        generalize hops : (flL d k ops.toList).toArray = ops' at he f
        generalize haf : (AF.mk (af.tm.set d (.pointer (some ⟨af.h.next, 0, none⟩))) af.sz (af.h.new (.cells z.cells.toList true [] (some e))).2) = af1 at he
        unfold drawA at he
        split at he
        · rename_i a2 hs hl
          split at he
          · rename_i hst
            split at he
            · rename_i hdy
              cases he
              have p : Plan P call ops' af1 af' hs := ⟨traced _ _ _ _ hl, hst, dynOk_good hdy⟩
              have hd1 : af1.tm.get d = some (.pointer (some ⟨af.h.next, 0, none⟩)) := by rw [← haf]; show (af.tm.set d _).get d = _; rw [T.get_set', if_pos rfl]
              have hget1 : ∀ t, t ≠ d → af1.tm.get t = af.tm.get t := fun t ht => by rw [← haf]; show (af.tm.set d _).get t = _; rw [T.get_set', if_neg ht]
              have hsz1 : af1.sz = a.tmps.size := by rw [← haf]; exact R.sz
              have hh1 : af1.h = (af.h.new (.cells z.cells.toList true [] (some e))).2 := by rw [← haf]
              refine wp_region_any hm (float_any hc f p hz (Nat.le_refl af.h.next) hd1 (by rw [← haf]; exact hdl) (D := a.defers) (μ0 := μ) K ops.size _ _ _ ?_ ?_)
              · unfold unl
                refine Nat.le_trans (List.countP_le_length) (by simp)
              · have no : ∀ i, ¬ Lst (Array.replicate ops.size false) i := fun i => by
                  unfold Lst
                  simp only [Array.getD_eq_getD_getElem?, Array.getElem?_replicate]
                  split <;> simp
                obtain ⟨s, q1, q2, q3, q4⟩ := next_stage ops' ops'.size 0 (by omega)
                refine ⟨by simp [f.size], fun i o hi => absurd hi (no i), ⟨s, μ, af1.h, ⟨q2, q3, fun q o h1 h2 => ?_⟩, ?_, ?_, ?_, fun t ht u hu => ?_, fun t ht u hu => ?_, fun _ => ?_⟩, hsz1, rfl⟩
                · constructor
                  · intro h; have := q4 q o (Nat.zero_le _) h h1; rw [h2] at this; cases this
                  · intro h; exact absurd h (no q)
                · have := p.lights 0 s (by omega) fun q o a b c => q4 q o a (by omega) c
                  rw [Nat.zero_add] at this
                  rw [this, p.tr.first]; rfl
                · rw [hh1]; exact (R.heap.laid _).drawn _
                · rw [hh1]; exact Ext.laid μ af.h _
                · have td : t ≠ d := by
                    rintro rfl
                    rcases ht with ht | ht
                    · rw [← R.sz] at ht; exact absurd hdl (Nat.not_lt.2 ht)
                    · exact no k (ht k _ f.at' f.dst)
                  rcases ht with ht | ht
                  · rw [p.tr.keep t (.inr (by rw [hsz1]; exact ht)), hget1 t td] at hu; exact R.tm t trivial u hu
                  · rw [p.tr.keep t (.inl fun j q hq hd => no j (ht j q (by simpa using hq) hd)), hget1 t td] at hu; exact R.tm t trivial u hu
                · rw [hget1 t ht.1] at hu
                  exact R.tm t trivial u hu
                · exact ⟨R.heap.none_next (Nat.le_refl _), by rw [hh1]; simp, by rw [hh1, AH.get_new, if_pos rfl]⟩
            · cases he
          · cases he
        · cases he
      · cases he
    · cases he
  · cases he

variable {ops : Array Oper} {af af' : AF}

theorem region_ok (hm : P.follows .mixedOrders = true) (hc : CallOk P call) {μ : Mp} {a : Act} {w : World} {id : Nat} {draw : Bool} {Q : Exit → Act → World → Prop}
    (he : regionA P call ops draw af = some af') (R : AR F w0 μ af a w) (K : ∀ a' w', Onward F w0 μ af.h a.defers af' a' w' → Q .normal a' w') :
    (Code.region id ops draw).wp P Q a w := by
  cases draw with
  | true =>
    simp only [regionA] at he
    split at he
    · rename_i a2 hr
      cases he
      exact draw_ok hm hc hr R K
    · exact float_ok hm hc he R K
  | false =>
    simp only [regionA] at he
    split at he
    · rename_i a2 hs hl
      cases he
      refine wp_region ?_
      have := ops_ok hc (ops := ops) (Q := Q) ops.toList 0 af af' hs μ a w (fun i => by simp) hl R K
      rw [Array.length_toList, ← List.range_eq_range'] at this
      exact this
    · cases he

end
end Go.R
