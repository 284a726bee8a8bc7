/- A region whose order is drawn answers as its listed order does. -/
import Derived.Test.YtbcjmmbmeebfgaaDoorRDraw3
namespace Go.R
set_option linter.unusedVariables false
set_option linter.unusedSimpArgs false
open Go Go.RowKit

section
variable {P : Program} {F : Nat → Prop} {w0 : World} {call : CallF} {ops : Array Oper} {af af' : AF} {hs : List AF}

def Lst (listed : Array Bool) (i : Nat) : Prop := listed.getD i false = true

theorem Lst.set {listed : Array Bool} {i j : Nat} (hi : i < listed.size) : Lst (listed.setIfInBounds i true) j ↔ (j = i ∨ Lst listed j) := by
  unfold Lst
  by_cases h : j = i
  · subst h; simp [hi]
  · rw [getD_set_ne false (Ne.symm h)]; simp [h]

theorem getD_lst {listed : Array Bool} {j : Nat} (hj : j < listed.size) : listed.getD j true = listed.getD j false := by
  simp [Array.getD_eq_getD_getElem?, hj]

structure Inv (F : Nat → Prop) (w0 : World) (μ0 : Mp) (ops : Array Oper) (af af' : AF) (hs : List AF) (D : List Deferred) (listed : Array Bool) (a : Act) (w : World) : Prop where
  size : listed.size = ops.size
  down : ∀ (i : Nat) o, Lst listed i → ops[i]? = some o → ∀ e ∈ o.after, Region.binds .any e = true → Lst listed e.on
  rest : ∃ s μ h, Stage ops (Lst listed) s ∧ (hs[s]?).map AF.h = some h ∧ HR F w0 μ h w ∧ Ext μ0 μ af.h h ∧
    TR μ af'.tm a.tmps (fun t => a.tmps.size ≤ t ∨ ∀ (i : Nat) o, ops[i]? = some o → o.dst = some t → Lst listed i) ∧
    TR μ af.tm a.tmps (fun t => ∀ (i : Nat) o, ops[i]? = some o → o.dst = some t → ¬ Lst listed i)
  sz : af.sz = a.tmps.size
  dfr : a.defers = D

def unl (listed : Array Bool) : Nat := listed.toList.countP (fun b => !b)

theorem countP_set_lt : ∀ (l : List Bool) (i : Nat), l[i]? = some false → (l.set i true).countP (fun b => !b) < l.countP (fun b => !b)
  | [], i, h => by simp at h
  | b :: l, 0, h => by
    simp only [List.getElem?_cons_zero, Option.some.injEq] at h
    subst h
    simp
  | b :: l, i + 1, h => by
    rw [List.getElem?_cons_succ] at h
    have := countP_set_lt l i h
    simp only [List.set_cons_succ, List.countP_cons]
    omega

theorem unl_set {listed : Array Bool} {i : Nat} (h : listed[i]? = some false) : unl (listed.setIfInBounds i true) < unl listed := by
  unfold unl
  rw [Array.toList_setIfInBounds]
  exact countP_set_lt _ _ (by simpa using h)

theorem unl_zero {listed : Array Bool} (h : unl listed = 0) {i : Nat} (hi : i < listed.size) : Lst listed i := by
  unfold unl at h
  rw [List.countP_eq_zero] at h
  have h1 : listed[i]? = some listed[i] := Array.getElem?_eq_getElem hi
  have := h listed[i] (by simp)
  unfold Lst
  rw [Array.getD_eq_getD_getElem?, h1]
  simpa using this

theorem any_step (hc : CallOk P call) (p : Plan P call ops af af' hs) {μ0 : Mp} {D : List Deferred} {Q : Exit → Act → World → Prop} {listed : Array Bool} {a : Act} {w : World}
    (I : Inv F w0 μ0 ops af af' hs D listed a w) {i : Nat} (hi : i ∈ Region.ready .any ops listed) {K : Act → World → Prop}
    (hK : ∀ a' w', Inv F w0 μ0 ops af af' hs D (listed.setIfInBounds i true) a' w' → K a' w') : wpOp P ops Q i K a w := by
  obtain ⟨h0, o, ho, hall⟩ := mem_ready.1 hi
  have hlt : i < ops.size := (Array.getElem?_eq_some_iff.1 ho).1
  have hun : ¬ Lst listed i := by
    unfold Lst; rw [← getD_lst (by rw [I.size]; exact hlt), h0]; simp
  obtain ⟨s, μ, h, S, hh, H, E, R, R0⟩ := I.rest
  have hn : ¬ Lst listed ops.size := by
    unfold Lst; rw [Array.getD_eq_getD_getElem?, Array.getElem?_eq_none (by rw [I.size]; exact Nat.le_refl _)]; simp
  obtain ⟨ai, s', h', v, hai, S', hh', hrun, hput⟩ := p.meets S hn I.down ho hun hall hh
  have hpre : ∀ j, has (masks ops.toList []) i j = true → Lst listed j := has_listed p.back I.down (i + 1) i o (Nat.lt_succ_self _) ho hall
  have hlook : TR μ ai.tm a.tmps (fun t => t ∈ o.looksAt ops) := by
    intro t ht u hu
    obtain ⟨ai', v', an, q1, _, _, _, _, q5, q6⟩ := p.at_ ho
    rw [hai] at q1
    cases q1
    by_cases hx : ∃ (j : Nat) (q : Oper), ops[j]? = some q ∧ q.dst = some t
    · obtain ⟨j, q, hq, hd⟩ := hx
      rcases p.before ho hq ht hd with rfl | ⟨hlt', hb⟩ | ⟨hlt', hb⟩
      · rw [q6 t fun k r hk hr hd2 => by have := p.uniq hq hr hd hd2; omega] at hu
        refine R0 t (fun k r hr hd2 => by have := p.uniq hq hr hd hd2; rw [this]; exact hun) u hu
      · rw [← q5 t fun k r hk hr hd2 => by have := p.uniq hq hr hd hd2; omega] at hu
        exact R t (.inr fun k r hr hd2 => by have := p.uniq hq hr hd hd2; rw [this]; exact hpre j hb) u hu
      · rw [q6 t fun k r hk hr hd2 => by have := p.uniq hq hr hd hd2; omega] at hu
        refine R0 t (fun k r hr hd2 hL => ?_) u hu
        have := p.uniq hq hr hd hd2
        rw [this] at hL
        exact hun (has_listed p.back I.down (j + 1) j q (Nat.lt_succ_self _) hq (I.down j q hL hq) i hb)
    · rw [← q5 t fun k r hk hr hd2 => hx ⟨k, r, hr, hd2⟩] at hu
      exact R t (.inr fun k r hr hd2 => absurd ⟨k, r, hr, hd2⟩ hx) u hu
  have hset : ∀ j, Lst (listed.setIfInBounds i true) j ↔ (j = i ∨ Lst listed j) := fun j => Lst.set (by rw [I.size]; exact hlt)
  have hLst : (fun j => j = i ∨ Lst listed j) = Lst (listed.setIfInBounds i true) := funext fun j => propext (hset j).symm
  rw [hLst] at S'
  have old : ∀ (v' : Value) (t : Tmp), (a.tmps.size ≤ t ∨ o.dst ≠ some t) → (a.put o.dst v').tmps.getD t undef = a.tmps.getD t undef := by
    intro v' t hne
    cases hd : o.dst with
    | none => rfl
    | some d =>
      simp only [Act.put, Array.getD_eq_getD_getElem?]
      by_cases e : d = t
      · subst e
        rcases hne with hne | hne
        · rw [Array.setIfInBounds_eq_of_size_le hne]
        · exact absurd hd hne
      · rw [Array.getElem?_setIfInBounds_ne e]
  have next : ∀ μ' v' w', VR μ' v v' → HR F w0 μ' h' w' → Ext μ μ' h h' → Inv F w0 μ0 ops af af' hs D (listed.setIfInBounds i true) (a.put o.dst v') w' := by
    intro μ' v' w' q1 q2 q3
    refine ⟨by simp [I.size], ?_, ⟨s', μ', h', S', hh', q2, E.trans q3, ?_, ?_⟩, by rw [Act.put_size]; exact I.sz, by rw [Act.put_def]; exact I.dfr⟩
    · intro j q hj hq e he hb
      rw [hset] at hj ⊢
      rcases hj with rfl | hj
      · rw [ho] at hq; cases hq; exact .inr (hall e he hb)
      · exact .inr (I.down j q hj hq e he hb)
    · intro t ht u hu
      rw [Act.put_size] at ht
      by_cases hc1 : o.dst = some t ∧ t < a.tmps.size
      · obtain ⟨hd, hlt'⟩ := hc1
        rw [hput t hd (by rw [I.sz]; exact hlt')] at hu
        cases hu
        rw [hd]
        simp only [Act.put, Array.getD_eq_getD_getElem?]
        rw [Array.getElem?_setIfInBounds_self_of_lt hlt']
        exact q1
      · have hne : a.tmps.size ≤ t ∨ o.dst ≠ some t := by
          by_cases e : o.dst = some t
          · exact .inl (Nat.le_of_not_lt fun h => hc1 ⟨e, h⟩)
          · exact .inr e
        rw [old _ t hne]
        refine (R t ?_ u hu).mono q3.sub
        rcases ht with h | h
        · exact .inl h
        · rcases hne with hne | hne
          · exact .inl hne
          · refine .inr fun j q hj hd => ?_
            rcases (hset j).1 (h j q hj hd) with rfl | h'
            · rw [ho] at hj; cases hj; exact absurd hd hne
            · exact h'
    · intro t ht u hu
      rw [old _ t (.inr fun hd => ht i o ho hd ((hset i).2 (.inl rfl)))]
      exact (R0 t (fun k r hr hd hL => ht k r hr hd ((hset k).2 (.inr hL))) u hu).mono q3.sub
  have RL : TR μ ai.tm a.tmps (fun t => t ∈ o.looksAt ops) := hlook
  unfold wpOp
  simp only [ho]
  rcases hrun with ⟨hw, hrun⟩ | ⟨hw, rfl, rfl⟩
  · have hwant := wanted_ok (o := o) (ops := ops) RL (fun _ h => h) hw
    rw [if_pos hwant]
    refine .inl (step_ok hc H (fun x hx u hu => evalA_ok RL (fun t ht => (looks_tmp (by rw [← ht]; exact hx))) hu) hrun fun μ' v' w' q1 q2 q3 => hK _ _ (next μ' v' w' q1 q2 q3))
  · have hwant := wanted_ok (o := o) (ops := ops) RL (fun _ h => h) hw
    rw [if_neg (by rw [hwant]; exact Bool.false_ne_true)]
    exact hK _ _ (next μ undef w VR.undef H (Ext.refl μ _))

theorem any_end (p : Plan P call ops af af' hs) {μ0 : Mp} {D : List Deferred} {listed : Array Bool} {a : Act} {w : World}
    (I : Inv F w0 μ0 ops af af' hs D listed a w) (hr : ∀ i, i < ops.size → Lst listed i) : Onward F w0 μ0 af.h D af' a w := by
  obtain ⟨s, μ, h, S, hh, H, E, R, R0⟩ := I.rest
  have e : s = ops.size := by
    rcases Nat.lt_or_ge s ops.size with h1 | h1
    · obtain ⟨o, q1, q2⟩ := S.2.1 h1
      exact absurd ((S.2.2 s o q1 q2).2 (hr s h1)) (Nat.lt_irrefl _)
    · exact Nat.le_antisymm S.1 h1
  have hl := p.tr.last
  rw [Array.length_toList, ← e] at hl
  rw [hl] at hh
  cases hh
  exact ⟨μ, ⟨H, fun t _ u hu => R t (.inr fun i o hi _ => hr i (Array.getElem?_eq_some_iff.1 hi).1) u hu, by rw [p.tr.sz, I.sz]⟩, E, I.dfr⟩

theorem ready_nil (p : Plan P call ops af af' hs) {μ0 : Mp} {D : List Deferred} {listed : Array Bool} {a : Act} {w : World}
    (I : Inv F w0 μ0 ops af af' hs D listed a w) (hr : Region.ready .any ops listed = []) : ∀ n i, i < n → i < ops.size → Lst listed i := by
  intro n
  induction n with
  | zero => intro i h; omega
  | succ n ih =>
    intro i hin hi
    cases hl : listed.getD i true with
    | true => unfold Lst; rw [← getD_lst (by rw [I.size]; exact hi)]; exact hl
    | false =>
      have ho : ops[i]? = some ops[i] := Array.getElem?_eq_getElem hi
      have : i ∈ Region.ready .any ops listed := mem_ready.2 ⟨hl, _, ho, fun e he hb => by
        have := p.back i _ ho e he hb
        exact ih e.on (by omega) (by omega)⟩
      rw [hr] at this
      cases this

theorem any_ok (hc : CallOk P call) (p : Plan P call ops af af' hs) {μ0 : Mp} {D : List Deferred} {Q : Exit → Act → World → Prop}
    (hQ : ∀ a w, Onward F w0 μ0 af.h D af' a w → Q .normal a w) :
    ∀ (fuel : Nat) (listed : Array Bool) (a : Act) (w : World), unl listed ≤ fuel → Inv F w0 μ0 ops af af' hs D listed a w → wpAny P .any ops Q fuel listed a w
  | 0, listed, a, w, hu, I => by
    have all : ∀ i, i < ops.size → Lst listed i := fun i hi => unl_zero (by omega) (by rw [I.size]; exact hi)
    refine ⟨?_, hQ a w (any_end p I all)⟩
    apply List.eq_nil_iff_forall_not_mem.2
    intro i hi
    obtain ⟨h0, o, ho, _⟩ := mem_ready.1 hi
    have hlt := (Array.getElem?_eq_some_iff.1 ho).1
    have := all i hlt
    unfold Lst at this
    rw [← getD_lst (by rw [I.size]; exact hlt), h0] at this
    cases this
  | fuel + 1, listed, a, w, hu, I => by
    refine ⟨fun hr => hQ a w (any_end p I fun i hi => ready_nil p I hr (i + 1) i (Nat.lt_succ_self _) hi), fun i hi => ?_⟩
    refine any_step hc p I hi fun a' w' I' => any_ok hc p hQ fuel _ a' w' ?_ I'
    obtain ⟨h0, o, ho, _⟩ := mem_ready.1 hi
    have hlt := (Array.getElem?_eq_some_iff.1 ho).1
    have hs' : i < listed.size := by rw [I.size]; exact hlt
    have : listed[i]? = some false := by
      rw [Array.getD_eq_getD_getElem?, Array.getElem?_eq_getElem hs'] at h0
      rw [Array.getElem?_eq_getElem hs']
      simpa using h0
    have := unl_set this
    omega

theorem HR.drawn {μ : Mp} {h : AH} {w : World} (H : HR F w0 μ h w) (d : Nat) : HR F w0 μ h { w with drawn := d } := H.congr rfl rfl rfl rfl

theorem plan_ok (hm : P.follows .mixedOrders = true) (hc : CallOk P call) {μ : Mp} {a : Act} {w : World} {id : Nat} {Q : Exit → Act → World → Prop}
    (p : Plan P call ops af af' hs) (R : AR F w0 μ af a w) (K : ∀ a' w', Onward F w0 μ af.h a.defers af' a' w' → Q .normal a' w') :
    (Code.region id ops true).wp P Q a w := by
  refine wp_region_any hm (any_ok hc p K ops.size _ _ _ ?_ ?_)
  · unfold unl
    refine Nat.le_trans (List.countP_le_length) (by simp)
  · have no : ∀ i, ¬ Lst (Array.replicate ops.size false) i := fun i => by
      unfold Lst
      simp only [Array.getD_eq_getD_getElem?, Array.getElem?_replicate]
      split <;> simp
    obtain ⟨s, q1, q2, q3, q4⟩ := next_stage ops ops.size 0 (by omega)
    refine ⟨by simp, fun i o hi => absurd hi (no i), ⟨s, μ, af.h, ⟨q2, q3, fun q o h1 h2 => ?_⟩, ?_, R.heap.drawn _, Ext.refl μ _, fun t ht u hu => ?_, fun t _ u hu => R.tm t trivial u hu⟩, R.sz, rfl⟩
    · constructor
      · intro h; have := q4 q o (Nat.zero_le _) h h1; rw [h2] at this; cases this
      · intro h; exact absurd h (no q)
    · have := p.lights 0 s (by omega) fun q o a b c => q4 q o a (by omega) c
      rw [Nat.zero_add] at this
      rw [this, p.tr.first]; rfl
    · rcases ht with ht | ht
      · rw [p.tr.keep t (.inr (by rw [R.sz]; exact ht))] at hu; exact R.tm t trivial u hu
      · rw [p.tr.keep t (.inl fun j q hq hd => no j (ht j q (by simpa using hq) hd))] at hu; exact R.tm t trivial u hu

theorem draw_ok (hm : P.follows .mixedOrders = true) (hc : CallOk P call) {μ : Mp} {a : Act} {w : World} {id : Nat} {Q : Exit → Act → World → Prop}
    (he : drawA P call ops af = some af') (R : AR F w0 μ af a w) (K : ∀ a' w', Onward F w0 μ af.h a.defers af' a' w' → Q .normal a' w') :
    (Code.region id ops true).wp P Q a w := by
  unfold drawA at he
  split at he
  · rename_i a2 hs hl
    split at he
    · rename_i hst
      split at he
      · rename_i hdy
        cases he
        exact plan_ok hm hc (hs := hs) ⟨traced _ _ _ _ hl, hst, dynOk_good hdy⟩ R K
      · cases he
    · cases he
  · cases he

end
end Go.R
