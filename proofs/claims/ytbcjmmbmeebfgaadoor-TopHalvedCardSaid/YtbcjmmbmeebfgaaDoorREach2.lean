/- A loop over a map whose rounds only look: whatever order the entries come in. -/
import Derived.Test.YtbcjmmbmeebfgaaDoorREach
import Derived.Test.YtbcjmmbmeebfgaaDoorRPost
namespace Go.R
set_option linter.unusedVariables false
set_option linter.unusedSimpArgs false
open Go Go.RowKit
noncomputable section
open Go.ChangeMaps (setBlock)

section
variable {P : Program} {F : Nat → Prop} {w0 : World} {call : CallF}

/-- The first operations of a region, and what follows them. -/
theorem ops_on (hc : CallOk P call) {ops : Array Oper} {Q : Exit → Act → World → Prop} (m : Nat) :
    ∀ (l : List Oper) (k : Nat) (af af' : AF) (hs : List AF) (μ : Mp) (a : Act) (w : World), (∀ i : Nat, i < l.length → l[i]? = ops[k + i]?) → opsL P call ops l af = some (af', hs) → AR F w0 μ af a w →
      (∀ a' w', Onward F w0 μ af.h a.defers af' a' w' → wpOps P ops Q (List.range' (k + l.length) m) a' w') → wpOps P ops Q (List.range' k (l.length + m)) a w
  | [], k, af, af', hs, μ, a, w, _, he, R, K => by
    simp only [opsL, Option.some.injEq, Prod.mk.injEq] at he
    obtain ⟨rfl, _⟩ := he
    have := K a w ⟨μ, R, Ext.refl μ _, rfl⟩
    simpa using this
  | o :: l, k, af, af', hs, μ, a, w, hl, he, R, K => by
    have ho : ops[k]? = some o := by have := hl 0 (by simp); simpa using this.symm
    have hl' : ∀ i : Nat, i < l.length → l[i]? = ops[k + 1 + i]? := fun i hi => by
      have := hl (i + 1) (by simpa using hi)
      rw [List.getElem?_cons_succ] at this
      rw [this]; congr 1; omega
    have hlen : (o :: l).length + m = (l.length + m) + 1 := by simp only [List.length_cons]; omega
    have K' : ∀ a' w', Onward F w0 μ af.h a.defers af' a' w' → wpOps P ops Q (List.range' (k + 1 + l.length) m) a' w' := fun a' w' h => by
      have := K a' w' h
      rw [List.length_cons] at this
      have e : k + (l.length + 1) = k + 1 + l.length := by omega
      rwa [e] at this
    rw [hlen, List.range'_succ]
    simp only [wpOps, ho]
    simp only [opsL] at he
    split at he
    · rename_i hwant
      have hw := wanted_ok (o := o) (ops := ops) R.tm (fun _ _ => trivial) hwant
      simp only [hw, if_true]
      split at he
      · rename_i v h' hs'
        split at he
        · rename_i a2 hs2 hrec
          cases he
          refine .inl (step_ok hc R.heap (fun x _ v hv => evalA_ok R.tm (fun _ _ => trivial) hv) hs' fun μ' v' w' q1 q2 q3 => ?_)
          refine ops_on hc m l (k + 1) _ _ _ μ' _ w' hl' hrec (R.put q3 q1 q2 o.dst) fun a' w'' ⟨μ2, r1, r2, r3⟩ => K' a' w'' ⟨μ2, r1, ?_, ?_⟩
          · rw [AF.put_h] at r2; exact q3.trans r2
          · rw [r3, Act.put_def]
        · cases he
      · cases he
    · rename_i hwant
      have hw := wanted_ok (o := o) (ops := ops) R.tm (fun _ _ => trivial) hwant
      simp only [hw]
      split at he
      · rename_i a2 hs2 hrec
        cases he
        refine ops_on hc m l (k + 1) _ _ _ μ _ w hl' hrec (R.put (Ext.refl μ _) VR.undef R.heap o.dst) fun a' w'' ⟨μ2, r1, r2, r3⟩ => K' a' w'' ⟨μ2, r1, ?_, ?_⟩
        · rw [AF.put_h] at r2; exact r2
        · rw [r3, Act.put_def]
      · cases he
    · cases he

theorem entryForm_spec {it : Tmp} {c : Code} {E : Ent} (h : entryForm it c = some E) :
    ∃ id o, c = .block E.b2 (.seq (.region id E.ops3 false) E.more) ∧ E.ops3.toList = o :: E.l ∧ o.dst = some E.e ∧ o.op = .entry (.tmp it) ∧ o.guard = none := by
  unfold entryForm at h
  split at h
  · rename_i b2 id ops3 more
    split at h
    · rename_i o l ho
      split at h
      · rename_i e it2 h1 h2 h3
        split at h
        · rename_i hit
          cases h
          subst hit
          exact ⟨id, o, rfl, ho, h1, h2, h3⟩
        · cases h
      · cases h
    · cases h
  · cases h

theorem headForm_spec {c : Code} {H : Head} (h : headForm c = some H) :
    ∃ id o1 o2, c = .block H.b1 (.loop (.seq (.region id H.ops2 false) (.seq (.cond (.tmp H.t) .skip (.exit H.b1)) H.rest))) ∧ H.ops2 = #[o1, o2] ∧
      o1.dst = some H.x ∧ o1.op = .next (.tmp H.it) false ∧ o1.guard = none ∧ o2.dst = some H.t ∧ o2.op = .extract (.tmp H.x) 0 ∧ o2.guard = none ∧ H.x ≠ H.t := by
  unfold headForm at h
  split at h
  · rename_i b1 id ops2 t b2 rest
    split at h
    · rename_i o1 o2 hops
      have hq : ops2 = #[o1, o2] := by cases ops2; simp at hops; simp [hops]
      split at h
      · rename_i x it t2 x2 h1 h2 h3 h4 h5 h6
        split at h
        · rename_i hd
          simp only [Bool.and_eq_true, decide_eq_true_eq] at hd
          obtain ⟨e1, e2, e3, e4⟩ := hd
          cases h
          subst e1; subst e2; subst e3
          exact ⟨id, o1, o2, rfl, hq, h1, h2, h3, h4, h5, h6, e4⟩
        · cases h
      · cases h
    · cases h
  · cases h

/-- A round behind its head. -/
theorem rest_ok (hc : CallOk P call) {ex : Code → AF → Option (AExit × AF)}
    (hex : ∀ (c : Code) (af af' : AF) (x : AExit) (F : Nat → Prop) (w0 : World) (μ : Mp) (a : Act) (w : World), ex c af = some (x, af') → AR F w0 μ af a w → c.wp P (Post F w0 μ af.h a.defers x af') a w)
    {it : Tmp} {k v k' v' : Value} {rest : Code} {af af' : AF} {x : AExit} (he : restA P call ex it k v rest af = some (x, af')) {μ : Mp} {a : Act} {w : World} (R : AR F w0 μ af a w)
    (hk : VR μ k k') (hv : VR μ v v') (hent : (Instr.entry (a.eval (.tmp it))).run P w = .ok (.tuple #[k', v']) w) : rest.wp P (Post F w0 μ af.h a.defers x af') a w := by
  unfold restA at he
  split at he
  · rename_i E hE
    obtain ⟨id, o, rfl, hops, hd, hop, hg⟩ := entryForm_spec hE
    split at he
    · rename_i a1 hs hl
      split at he
      · rename_i x' a' hx
        cases he
        refine wp_block (wp_seq (wp_region ?_))
        have hsz : E.ops3.size = E.l.length + 1 := by rw [← Array.length_toList, hops]; rfl
        have h0 : E.ops3[0]? = some o := by rw [← Array.getElem?_toList, hops]; rfl
        rw [List.range_eq_range', hsz, List.range'_succ]
        have hwant : Region.wanted o (yielded E.ops3 a.tmps) = true := by simp [Region.wanted, hg]
        simp only [wpOps, h0, hwant, if_true]
        left
        unfold Oper.wp
        simp only [execOp, hop, Sem.run_bind, hent, Result.andThen_ok, Sem.run_pure, Oper.upon_value, hd]
        have hvr : VR μ (.tuple #[k, v]) (.tuple #[k', v']) := VR.tuple_of (LR.cons hk (LR.cons hv LR.nil))
        have R1 := R.put (Ext.refl μ _) hvr R.heap (some E.e)
        have := ops_on (Q := Exit.then (E.more.wp P (Exit.inBlock E.b2 (Post F w0 μ af.h a.defers (catchA E.b2 x') af'))) (Exit.inBlock E.b2 (Post F w0 μ af.h a.defers (catchA E.b2 x') af'))) hc 0 E.l 1 _ _ hs μ _ w (fun i hi => by rw [← Array.getElem?_toList, hops, Nat.add_comm, List.getElem?_cons_succ]) hl R1
          (fun a2 w2 ⟨μ2, r1, r2, r3⟩ => by
            show E.more.wp P _ a2 w2
            refine wp_mono (hex _ _ _ _ F w0 μ2 a2 w2 hx r1) fun e a3 w3 hp => ?_
            rw [AF.put_h] at r2
            replace hp : Post F w0 μ af.h a.defers x' af' e a3 w3 := hp.trans r2 (r3.trans (Act.put_def _ _ _))
            cases e <;> simp only [Post] at hp
            · obtain ⟨rfl, o⟩ := hp
              exact ⟨rfl, o⟩
            · rename_i id'
              obtain ⟨rfl, o⟩ := hp
              simp only [Exit.inBlock, catchA]
              by_cases hid : id' = E.b2
              · rw [if_pos hid, if_pos hid]; exact ⟨rfl, o⟩
              · rw [if_neg hid, if_neg hid]; exact ⟨rfl, o⟩
            · obtain ⟨rfl, o⟩ := hp
              exact ⟨rfl, o⟩)
        simpa using this
      · cases he
    · cases he
  · exact hex _ _ _ _ _ _ _ _ _ he R

theorem rest_kept {ex : Code → AF → Option (AExit × AF)} {W : List Tmp} (hlit : ∀ (c : Code) (af af' : AF) (x : AExit), litC W c = true → ex c af = some (x, af') → Kept W af af')
    {it : Tmp} {k v : Value} {rest : Code} {af af' : AF} {x : AExit} (he : restA P call ex it k v rest af = some (x, af')) (hl : litR W it rest = true) : Kept W af af' := by
  unfold restA at he
  unfold litR at hl
  split at he
  · rename_i E hE
    rw [hE] at hl
    simp only [Bool.and_eq_true] at hl
    split at he
    · rename_i a1 hs hops
      split at he
      · rename_i x' a' hx
        cases he
        exact ((Kept.put (fun d hd => by cases hd; exact hl.1) _).trans (lit_ops _ _ _ _ hl.2.1 hops)).trans (hlit _ _ _ _ hl.2.2 hx)
      · cases he
    · cases he
  · rename_i hE
    rw [hE] at hl
    exact hlit _ _ _ _ hl he

/-! ### What the rounds' results come to -/
theorem aexEq_eq {x y : AExit} (h : aexEq x y = true) : x = y := by
  cases x <;> cases y <;> simp [aexEq] at h ⊢
  exact h

theorem agree_get (f0 : AF) (outs : List (AExit × AF)) (tm : T Value) : ∀ (W : List Tmp) (t : Tmp) (v : Value), (agree f0 outs tm W).get t = some v → tm.get t = some v ∨ ∀ p ∈ outs, p.2.tm.get t = some v
  | [], t, v, h => .inl h
  | k :: W, t, v, h => by
    simp only [agree] at h
    split at h
    · rename_i u hu
      split at h
      · rename_i hall
        rw [T.get_set'] at h
        split at h
        · rename_i e
          subst e
          cases h
          refine .inr fun p hp => ?_
          have := List.all_eq_true.1 hall p hp
          split at this
          · rename_i u' hu'
            rw [hu', veq_sound _ _ _ this]
          · cases this
        · exact agree_get f0 outs tm W t v h
      · exact agree_get f0 outs tm W t v h
    · exact agree_get f0 outs tm W t v h

theorem join_out {b1 sz : Nat} {tm : T Value} {h : AH} {W : List Tmp} {outs : List (AExit × AF)} {x : AExit} {af' : AF} (hj : joinA b1 tm sz h W outs = some (x, af'))
    {xi : AExit} {fi : AF} (hm : (xi, fi) ∈ outs) (ho : isOut (xi, fi) = true) : x = catchA b1 xi ∧ af'.sz = sz ∧ af'.h = h ∧ ∀ t v, af'.tm.get t = some v → tm.get t = some v ∨ fi.tm.get t = some v := by
  have hmem : (xi, fi) ∈ outs.filter isOut := List.mem_filter.2 ⟨hm, ho⟩
  unfold joinA at hj
  split at hj
  · rename_i e; rw [e] at hmem; cases hmem
  · rename_i x0 f0 l e
    rw [e] at hmem
    split at hj
    · rename_i hall
      cases hj
      have hx : xi = x0 := by
        rcases List.mem_cons.1 hmem with h1 | h1
        · cases h1; rfl
        · exact aexEq_eq (List.all_eq_true.1 hall _ h1)
      refine ⟨by rw [hx], rfl, rfl, fun t v ht => ?_⟩
      rcases agree_get _ _ _ _ _ _ ht with h1 | h1
      · exact .inl h1
      · exact .inr (h1 _ hmem)
    · cases hj

theorem join_none {b1 sz : Nat} {tm : T Value} {h : AH} {W : List Tmp} {outs : List (AExit × AF)} {x : AExit} {af' : AF} (hj : joinA b1 tm sz h W outs = some (x, af'))
    (hn : ∀ o ∈ outs, isOut o = false) : x = .normal ∧ af' = { tm := tm, sz := sz, h := h } := by
  have : outs.filter isOut = [] := List.filter_eq_nil_iff.2 fun o ho => by rw [hn o ho]; simp
  unfold joinA at hj
  rw [this] at hj
  cases hj
  exact ⟨rfl, rfl⟩

theorem mapM_at {f : Value × Value → Option (AExit × AF)} : ∀ {es : List (Value × Value)} {outs : List (AExit × AF)}, es.mapM f = some outs → outs.length = es.length ∧ ∀ (i : Nat) (p : Value × Value), es[i]? = some p → ∃ o, outs[i]? = some o ∧ f p = some o
  | [], outs, h => by simp at h; subst h; exact ⟨rfl, fun i p hp => by simp at hp⟩
  | e :: es, outs, h => by
    rw [List.mapM_cons] at h
    cases h1 : f e with
    | none => rw [h1] at h; cases h
    | some o =>
      rw [h1] at h
      cases h2 : es.mapM f with
      | none => rw [h2] at h; cases h
      | some os =>
        rw [h2] at h
        cases h
        obtain ⟨q1, q2⟩ := mapM_at h2
        refine ⟨by simp [q1], fun i p hp => ?_⟩
        cases i with
        | zero => simp at hp; subst hp; exact ⟨o, rfl, h1⟩
        | succ i => rw [List.getElem?_cons_succ] at hp ⊢; exact q2 i p hp

end
end
end Go.R
