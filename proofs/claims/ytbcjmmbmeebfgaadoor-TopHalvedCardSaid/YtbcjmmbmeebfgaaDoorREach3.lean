/- A loop over a map whose rounds only look: the loop itself. -/
import Derived.Test.YtbcjmmbmeebfgaaDoorREach2
namespace Go.R
set_option linter.unusedVariables false
set_option linter.unusedSimpArgs false
open Go Go.RowKit
noncomputable section
open Go.ChangeMaps (setBlock)

section
variable {P : Program} {F : Nat → Prop} {w0 : World} {call : CallF}

theorem AR.putW {μ : Mp} {tm : T Value} {sz : Nat} {h : AH} {a : Act} {w : World} (R : AR F w0 μ ⟨tm, sz, h⟩ a w) {d : Tmp} (hd : tm.get d = none) (v : Value) : AR F w0 μ ⟨tm, sz, h⟩ (a.put (some d) v) w where
  heap := R.heap
  tm := fun t _ u hu => by
    have hne : d ≠ t := by intro e; subst e; rw [hd] at hu; cases hu
    have := R.tm t trivial u hu
    simp only [Act.put, Array.getD_eq_getD_getElem?] at this ⊢
    rw [Array.getElem?_setIfInBounds_ne hne]
    exact this
  sz := by rw [Act.put_size]; exact R.sz

theorem eval_put_self (a : Act) {d : Tmp} (hd : d < a.tmps.size) (v : Value) : (a.put (some d) v).eval (.tmp d) = v := by
  simp [Act.eval, Act.put, Array.getD_eq_getD_getElem?, hd]

theorem AF.put_get_ne (a : AF) {d t : Tmp} (h : d ≠ t) (v : Value) (h' : AH) : (a.put (some d) v h').tm.get t = a.tm.get t := by
  simp only [AF.put_def]
  split
  · rw [T.get_set', if_neg (Ne.symm h)]
  · rfl

/-- The loop, round by round. -/
theorem loop_each (hc : CallOk P call) {ex : Code → AF → Option (AExit × AF)}
    (hex : ∀ (c : Code) (af af' : AF) (x : AExit) (F : Nat → Prop) (w0 : World) (μ : Mp) (a : Act) (w : World), ex c af = some (x, af') → AR F w0 μ af a w → c.wp P (Post F w0 μ af.h a.defers x af') a w)
    (hlit : ∀ (W : List Tmp) (c : Code) (af af' : AF) (x : AExit), litC W c = true → ex c af = some (x, af') → Kept W af af')
    {H : Head} {id : Nat} {o1 o2 : Oper} (hops2 : H.ops2 = #[o1, o2]) (d1 : o1.dst = some H.x) (p1 : o1.op = .next (.tmp H.it) false) (g1 : o1.guard = none)
    (d2 : o2.dst = some H.t) (p2 : o2.op = .extract (.tmp H.x) 0) (g2 : o2.guard = none) (hxt : H.x ≠ H.t)
    {tm : T Value} {sz : Nat} {h1 : AH} {m bm e0 r ih cl : Nat} {es : List (Value × Value)} {ms : Array MapEntry} {μ : Mp} {W : List Tmp} {outs : List (AExit × AF)} {x : AExit} {af' : AF} {D : List Deferred}
    (hWx : W.contains H.x = true) (hWt : W.contains H.t = true) (hxs : H.x < sz) (hts : H.t < sz) (hlr : litR W H.it H.rest = true) (htm : ∀ t, W.contains t = true → tm.get t = none)
    (hit : tm.get H.it = some (.pointer (some ⟨ih, 0, none⟩)))
    (hm : μ m = some (bm, 0, e0)) (hg : h1.get m = .map es) (hr : ∀ i z e, μ i = some (r, z, e) → h1.get i = .dead) (hih : μ ih = some (r, 0, 0)) (hFr : ¬ F r) (hne : r ≠ bm) (her : ER μ es ms.toList) (hst : Stamps ms.toList cl)
    (hpl : ∀ p ∈ es, plainV p.1 = true)
    (houts : es.mapM (roundA P call ex H tm sz (h1.put m .dead)) = some outs) (hj : joinA H.b1 tm sz h1 W outs = some (x, af')) :
    ∀ (n : Nat) (seen : Array Nat) (c0 : Nat) (a : Act) (w : World), (leftOf ms seen).size = n → AR F w0 μ ⟨tm, sz, h1⟩ a w → a.defers = D → w.heap[r]? = some (.mapIter (some bm) cl seen c0) → cl ≤ c0 → w.heap[bm]? = some (.map ms cl) →
      (∀ (i : Nat) y, ms[i]? = some y → seen.contains y.born = true → ∃ o, outs[i]? = some o ∧ isOut o = false) →
      LoopWp P (.seq (.region id H.ops2 false) (.seq (.cond (.tmp H.t) .skip (.exit H.b1)) H.rest)) (Exit.inBlock H.b1 (Post F w0 μ h1 D x af')) a w := by
  obtain ⟨hlen, hat⟩ := mapM_at houts
  intro n
  induction n using Nat.strongRecOn with
  | _ n IH =>
    intro seen c0 a w hn R hD hheap hc0 hb hseen
    have hsz : a.tmps.size = sz := R.sz.symm
    have hita : a.eval (.tmp H.it) = .pointer (some ⟨r, 0, none⟩) := by
      have := R.tm H.it trivial _ hit
      obtain ⟨b, z, e, q1, q2⟩ := this.ptr_inv
      rw [hih] at q1
      cases q1
      exact q2
    have hrlt : r < w.heap.size := (Array.getElem?_eq_some_iff.1 hheap).1
    have hblt : bm < w.heap.size := (Array.getElem?_eq_some_iff.1 hb).1
    have hix : H.it ≠ H.x := by intro e; rw [e, htm _ hWx] at hit; cases hit
    have hitt : H.it ≠ H.t := by intro e; rw [e, htm _ hWt] at hit; cases hit
    have hrange : List.range H.ops2.size = [0, 1] := by rw [hops2]; rfl
    have ho1 : H.ops2[0]? = some o1 := by rw [hops2]; rfl
    have ho2 : H.ops2[1]? = some o2 := by rw [hops2]; rfl
    have hw1 : ∀ y, Region.wanted o1 y = true := fun y => by simp [Region.wanted, g1]
    have hw2 : ∀ y, Region.wanted o2 y = true := fun y => by simp [Region.wanted, g2]
    -- the two operations of the head
    have head : ∀ (vs : Array Value) (t : Bool) (w2 : World) (Q : Exit → Act → World → Prop), vs[0]? = some (.bool t) →
        (Instr.next (.pointer (some ⟨r, 0, none⟩)) false o1.type).run P w = .ok (.tuple vs) w2 → Q .normal ((a.put (some H.x) (.tuple vs)).put (some H.t) (.bool t)) w2 → wpOps P H.ops2 Q (List.range H.ops2.size) a w := by
      intro vs t w2 Q hvs hrun hQ
      rw [hrange]
      simp only [wpOps, ho1, ho2, hw1, hw2, if_true]
      left
      unfold Oper.wp
      simp only [execOp, p1, hita, Sem.run_bind, hrun, Result.andThen_ok, Sem.run_pure, Oper.upon_value, d1]
      left
      have ev : (a.put (some H.x) (.tuple vs)).eval (.tmp H.x) = .tuple vs := eval_put_self a (by rw [hsz]; exact hxs) _
      simp only [p2, ev, Instr.extract, hvs, Sem.run_bind, Result.andThen_ok, Sem.run_pure, Oper.upon_value, d2]
      exact hQ
    refine LoopWp.round (wp_seq (wp_region ?_))
    rcases run_next_at (P := P) w o1.type r bm cl c0 seen ms cl hheap hb hst.1 hc0 with ⟨hl0, hrun⟩ | ⟨e, he, w1, hal, hrun⟩
    · refine head _ false w _ rfl hrun ?_
      show Code.wp P (.seq (.cond (.tmp H.t) .skip (.exit H.b1)) H.rest) _ _ w
      refine wp_seq (wp_cond_false (eval_put_self _ (by rw [Act.put_size, hsz]; exact hts) _) (wp_exit ?_))
      show Exit.inBlock H.b1 (Post F w0 μ h1 D x af') (.exit H.b1) _ w
      simp only [Exit.inBlock, if_true]
      obtain ⟨rfl, rfl⟩ := join_none hj fun o ho => by
        obtain ⟨i, hi⟩ := List.mem_iff_getElem?.1 ho
        have hil : i < ms.size := by
          have h1 := (List.getElem?_eq_some_iff.1 hi).1
          have h2 := her.1
          simp at h2
          omega
        have hy : ms[i]? = some ms[i] := Array.getElem?_eq_getElem hil
        obtain ⟨o', q1, q2⟩ := hseen i _ hy (all_seen ms seen hl0 _ (by simp))
        rw [hi] at q1
        cases q1
        exact q2
      exact ⟨rfl, μ, (R.putW (htm _ hWx) _).putW (htm _ hWt) _, Ext.refl μ _, by rw [Act.put_def, Act.put_def]; exact hD⟩
    · refine head _ true _ _ rfl hrun ?_
      show Code.wp P (.seq (.cond (.tmp H.t) .skip (.exit H.b1)) H.rest) _ _ _
      refine wp_seq (wp_cond_true (eval_put_self _ (by rw [Act.put_size, hsz]; exact hts) _) (wp_skip ?_))
      obtain ⟨hem, hes⟩ := mem_left he
      obtain ⟨i, hi⟩ := List.mem_iff_getElem?.1 hem
      obtain ⟨p, hp⟩ : ∃ p, es[i]? = some p := ⟨es[i]'(by have := (List.getElem?_eq_some_iff.1 hi).1; have := her.1; omega), List.getElem?_eq_getElem _⟩
      obtain ⟨hkey, hval⟩ := her.2 i p e hp hi
      obtain ⟨⟨xi, fi⟩, ho, hround⟩ := hat i p hp
      have hw1h : w1.heap = w.heap := by rcases hal with rfl | rfl <;> rfl
      obtain ⟨w2, hw2e⟩ : ∃ w2, w2 = setBlock w1 r (.mapIter (some bm) cl (seen.push e.born) cl) := ⟨_, rfl⟩
      rw [← hw2e]
      have hh2 : w2.heap = w.heap.setIfInBounds r (.mapIter (some bm) cl (seen.push e.born) cl) := by rw [hw2e]; show w1.heap.setIfInBounds _ _ = _; rw [hw1h]
      have hr2 : w2.heap[r]? = some (.mapIter (some bm) cl (seen.push e.born) cl) := by rw [hh2, Array.getElem?_setIfInBounds_self_of_lt hrlt]
      have hb2 : w2.heap[bm]? = some (.map ms cl) := by rw [hh2, Array.getElem?_setIfInBounds_ne hne, hb]
      have hs2 : w2.heap.size = w.heap.size := by rw [hh2]; simp
      have H2 : HR F w0 μ h1 w2 := by
        refine R.heap.off hr hFr (fun b hb' => by rw [hh2, Array.getElem?_setIfInBounds_ne (Ne.symm hb')]) (by rw [hs2]; exact Nat.le_refl _) ?_ ?_ ?_ <;>
          (rw [hw2e]; rcases hal with rfl | rfl <;> rfl)
      obtain ⟨G, hGe⟩ : ∃ G : Nat → Prop, G = fun b => b = r ∨ b = bm := ⟨_, rfl⟩
      have HG : HR (fun b => F b ∨ G b) w2 μ (h1.put m .dead) w2 := by
        refine (H2.put_dead hm hg).guard (fun b hb' => ?_) (fun j b z e hj hb' => ?_)
        · subst hGe
          rcases hb' with rfl | rfl
          · rw [hs2]; exact hrlt
          · rw [hs2]; exact hblt
        · subst hGe
          rw [AH.get_put]
          split
          · rfl
          · rename_i hjm
            rcases hb' with rfl | rfl
            · rw [hr j z e hj]; rfl
            · rcases H2.map_alone hm hg hj with h | h
              · exact absurd h hjm
              · rw [h]; rfl
      have R3 : AR (fun b => F b ∨ G b) w2 μ ⟨tm, sz, h1.put m .dead⟩ a w2 := ⟨HG, R.tm, R.sz⟩
      have hvk : VR μ p.1 e.key := by rw [hkey]; exact .plain (hpl p (List.mem_of_getElem? hp))
      have R4 := (R3.put (Ext.refl μ _) (VR.tuple_of (a := #[.bool true, p.1, p.2]) (a' := #[.bool true, e.key, e.val]) (LR.cons (.plain rfl) (LR.cons hvk (LR.cons hval LR.nil)))) HG (some H.x)).put
        (Ext.refl μ _) (v := .bool true) (v' := .bool true) (.plain rfl) (by rw [AF.put_h]; exact HG) (some H.t)
      rw [AF.put_h] at R4
      have hev : ((a.put (some H.x) (.tuple #[.bool true, e.key, e.val])).put (some H.t) (.bool true)).eval (.tmp H.it) = .pointer (some ⟨r, 0, none⟩) := by
        rw [Act.eval_put (fun d hd => by cases hd; simp; exact hitt), Act.eval_put (fun d hd => by cases hd; simp; exact hix), hita]
      have hrest := rest_ok hc hex hround R4 hvk hval (by rw [hev]; exact run_entry_at w2 r bm cl seen ms cl e hr2 hb2 hem hst.2)
      have hkept := rest_kept (hlit W) hround hlr
      refine wp_mono hrest fun e' a5 w5 hpost => ?_
      rw [AF.put_h] at hpost
      have hdef : ((a.put (some H.x) (.tuple #[.bool true, e.key, e.val])).put (some H.t) (.bool true)).defers = D := by rw [Act.put_def, Act.put_def]; exact hD
      rw [hdef] at hpost
      -- what holds behind the round
      have after : Onward (fun b => F b ∨ G b) w2 μ (h1.put m .dead) D fi a5 w5 → HR F w0 μ h1 w5 ∧ TR μ fi.tm a5.tmps (fun _ => True) ∧ (∀ t u, tm.get t = some u → fi.tm.get t = some u) ∧ sz = a5.tmps.size ∧ a5.defers = D ∧
          w5.heap[r]? = w2.heap[r]? ∧ w5.heap[bm]? = w2.heap[bm]? := by
        rintro ⟨μ5, r1, r2, r3⟩
        have e1 : fi.h = h1.put m .dead := hkept.1.trans (AF.put_h _ _ _ _)
        have r1h := r1.heap
        rw [e1] at r2 r1h
        have : μ5 = μ := r2.same HG r1h
        subst this
        refine ⟨H2.unguard hm hg (by rw [hGe]; exact .inr rfl) r1h, r1.tm, fun t u hu => ?_, ?_, r3, (r1h.fr r (.inr (by rw [hGe]; exact .inl rfl))).2, (r1h.fr bm (.inr (by rw [hGe]; exact .inr rfl))).2⟩
        · have hnW : W.contains t = false := by
            cases hc : W.contains t with
            | false => rfl
            | true => rw [htm t hc] at hu; cases hu
          rw [hkept.2.2 t hnW, AF.put_get_ne _ (by intro e; rw [e, hnW] at hWt; cases hWt), AF.put_get_ne _ (by intro e; rw [e, hnW] at hWx; cases hWx)]
          exact hu
        · rw [← r1.sz, hkept.2.1, AF.put_sz, AF.put_sz]
      cases e' <;> simp only [Post] at hpost
      · obtain ⟨rfl, ho'⟩ := hpost
        obtain ⟨q1, q2, q3, q4, q5, q6, q7⟩ := after ho'
        refine IH _ (by rw [← hn]; exact left_shrinks ms seen e he) (seen.push e.born) cl a5 w5 rfl ⟨q1, fun t _ u hu => q2 t trivial u (q3 t u hu), q4⟩ q5 (q6.trans hr2) (Nat.le_refl _) (q7.trans hb2) fun j y hy hs => ?_
        by_cases hji : j = i
        · subst hji
          exact ⟨_, ho, rfl⟩
        · refine hseen j y hy ?_
          rw [Array.contains_push] at hs
          simp only [Bool.or_eq_true, beq_iff_eq] at hs
          rcases hs with hs | hs
          · exact hs
          · exfalso
            have hy' : ms.toList[j]? = some y := by simpa using hy
            have hj1 : (ms.toList.map (·.born))[j]? = some y.born := by rw [List.getElem?_map, hy']; rfl
            have hi1 : (ms.toList.map (·.born))[i]? = some e.born := by rw [List.getElem?_map, hi]; rfl
            exact hji ((List.getElem?_inj (List.getElem?_eq_some_iff.1 hj1).1 hst.2).1 (by rw [hj1, hi1, hs]))
      · rename_i id'
        obtain ⟨rfl, ho'⟩ := hpost
        obtain ⟨q1, q2, q3, q4, q5, q6, q7⟩ := after ho'
        obtain ⟨rfl, j2, j3, j4⟩ := join_out hj (List.mem_of_getElem? ho) rfl
        have fin : Onward F w0 μ h1 D af' a5 w5 := ⟨μ, ⟨by rw [j3]; exact q1, fun t _ u hu => by
          rcases j4 t u hu with h | h
          · exact q2 t trivial u (q3 t u h)
          · exact q2 t trivial u h, by rw [j2]; exact q4⟩, by rw [j3]; exact Ext.refl μ _, q5⟩
        show Exit.inBlock H.b1 (Post F w0 μ h1 D (catchA H.b1 (.exit id')) af') (.exit id') a5 w5
        simp only [Exit.inBlock, catchA]
        by_cases hid : id' = H.b1
        · rw [if_pos hid, if_pos hid]; exact ⟨rfl, fin⟩
        · rw [if_neg hid, if_neg hid]; exact ⟨rfl, fin⟩
      · obtain ⟨rfl, ho'⟩ := hpost
        obtain ⟨q1, q2, q3, q4, q5, q6, q7⟩ := after ho'
        obtain ⟨rfl, j2, j3, j4⟩ := join_out hj (List.mem_of_getElem? ho) rfl
        have fin : Onward F w0 μ h1 D af' a5 w5 := ⟨μ, ⟨by rw [j3]; exact q1, fun t _ u hu => by
          rcases j4 t u hu with h | h
          · exact q2 t trivial u (q3 t u h)
          · exact q2 t trivial u h, by rw [j2]; exact q4⟩, by rw [j3]; exact Ext.refl μ _, q5⟩
        exact ⟨rfl, fin⟩

/-- The range and its loop. -/
theorem each_ok (hc : CallOk P call) {ex : Code → AF → Option (AExit × AF)}
    (hex : ∀ (c : Code) (af af' : AF) (x : AExit) (F : Nat → Prop) (w0 : World) (μ : Mp) (a : Act) (w : World), ex c af = some (x, af') → AR F w0 μ af a w → c.wp P (Post F w0 μ af.h a.defers x af') a w)
    (hlit : ∀ (W : List Tmp) (c : Code) (af af' : AF) (x : AExit), litC W c = true → ex c af = some (x, af') → Kept W af af')
    {X Y : Code} {ops : Array Oper} {H : Head} (hf : eachForm X Y = some (ops, H)) {af af' : AF} {x : AExit} (he : mapLoopA P call ex H ops af = some (x, af'))
    {μ : Mp} {a : Act} {w : World} (R : AR F w0 μ af a w) : (Code.seq X Y).wp P (Post F w0 μ af.h a.defers x af') a w := by
  unfold eachForm at hf
  split at hf
  · rename_i rid ops' y
    split at hf
    · rename_i H' hh
      cases hf
      obtain ⟨id, o1, o2, rfl, hops2, d1, p1, g1, d2, p2, g2, hxt⟩ := headForm_spec hh
      unfold mapLoopA at he
      split at he
      · rename_i o hlast
        split at he
        · rename_i it2 ty x1 hd hop hg
          split at he
          · rename_i kt et a1 hs hun hl
            split at he
            · rename_i m hx1
              split at he
              · rename_i es hgm
                dsimp only at he
                split at he
                · rename_i hcond
                  simp only [Bool.and_eq_true, decide_eq_true_eq, Bool.not_eq_true', Nat.blt_eq, List.all_eq_true] at hcond
                  obtain ⟨⟨rfl, hpl⟩, hnW, hits, hxs, hts, hlr⟩ := hcond
                  split at he
                  · rename_i outs houts
                    have hne : ops.toList ≠ [] := by intro e; rw [e] at hlast; cases hlast
                    have hsplit : ops.toList = ops.toList.dropLast ++ [o] := by
                      have := List.dropLast_concat_getLast hne
                      rw [List.getLast?_eq_some_getLast hne] at hlast
                      cases hlast
                      exact this.symm
                    have hlen : ops.toList.length = ops.toList.dropLast.length + 1 := by
                      have := congrArg List.length hsplit
                      simpa using this
                    refine wp_seq (wp_region ?_)
                    have hsz : ops.size = ops.toList.dropLast.length + 1 := by rw [← hlen]; simp
                    rw [List.range_eq_range', hsz]
                    refine ops_on hc 1 ops.toList.dropLast 0 af a1 hs μ a w (fun i hi => ?_) hl R fun a2 w2 hon => ?_
                    · rw [Nat.zero_add, ← Array.getElem?_toList]
                      have h3 : (ops.toList.dropLast ++ [o])[i]? = ops.toList.dropLast[i]? := List.getElem?_append_left hi
                      rw [← hsplit] at h3
                      exact h3.symm
                    · obtain ⟨μ2, R2, E2, D2⟩ := hon
                      have ho : ops[0 + ops.toList.dropLast.length]? = some o := by
                        rw [Nat.zero_add, ← Array.getElem?_toList]
                        have h3 : (ops.toList.dropLast ++ [o])[ops.toList.dropLast.length]? = some o := by simp
                        rw [← hsplit] at h3
                        exact h3
                      have hw : Region.wanted o (yielded ops a2.tmps) = true := by simp [Region.wanted, hg]
                      have hr1 : List.range' (0 + ops.toList.dropLast.length) 1 = [0 + ops.toList.dropLast.length] := rfl
                      rw [hr1]
                      simp only [wpOps, ho, hw, if_true]
                      left
                      have hvx := evalA_ok R2.tm (fun _ _ => trivial) hx1
                      obtain ⟨bm, e0, hm, hxe⟩ := hvx.map_inv
                      obtain ⟨ms, cl, hb, her, hst⟩ := map_at R2.heap hm hgm
                      have hbl : bm < w2.heap.size := (Array.getElem?_eq_some_iff.1 hb).1
                      unfold Oper.wp
                      simp only [execOp, hop, hxe, Sem.run_bind, run_range_map w2 ty kt et bm ms cl hun hb, Result.andThen_ok, Sem.run_pure, Oper.upon_value, hd]
                      obtain ⟨N1, N2⟩ := R2.heap.new .dead (.mapIter (some bm) cl #[] cl) 0 (fun c l p ty e => by cases e) trivial
                      have hmn : m ≠ a1.h.next := by have := R2.heap.dom m _ hm; omega
                      have hget : (a1.h.new .dead).2.get m = .map es := by rw [AH.get_new, if_neg hmn]; exact hgm
                      have hvp : VR (μ2.add a1.h.next (w2.heap.size, 0, 0)) (.pointer (some ⟨a1.h.next, 0, none⟩)) (.pointer (some ⟨w2.heap.size, 0, none⟩)) := VR.new_ptr
                      have R3 := R2.put N2 hvp N1 (some H.it)
                      have hput : (a1.put (some H.it) (.pointer (some ⟨a1.h.next, 0, none⟩)) (a1.h.new .dead).2) = ⟨a1.tm.set H.it (.pointer (some ⟨a1.h.next, 0, none⟩)), a1.sz, (a1.h.new .dead).2⟩ := by
                        simp only [AF.put_def, Nat.blt_eq, hits, if_true]
                      rw [hput] at R3
                      have hfst : (a1.h.new .dead).1 = a1.h.next := rfl
                      rw [hfst] at houts he
                      have R4 : AR F w0 (μ2.add a1.h.next (w2.heap.size, 0, 0)) ⟨delL (a1.tm.set H.it (.pointer (some ⟨a1.h.next, 0, none⟩))) (H.x :: H.t :: dstsC H.rest), a1.sz, (a1.h.new .dead).2⟩
                          (a2.put (some H.it) (.pointer (some ⟨w2.heap.size, 0, none⟩))) (w2.alloc (.mapIter (some bm) cl #[] cl)) :=
                        ⟨R3.heap, fun t _ u hu => by
                          rw [delL_get] at hu
                          split at hu
                          · cases hu
                          · exact R3.tm t trivial u hu, R3.sz⟩
                      have hbne : w2.heap.size ≠ bm := by omega
                      show Code.wp P (.block H.b1 _) _ _ _
                      refine wp_block (LoopWp.wp ?_)
                      have hrold : ∀ i z e, μ2 i = some (w2.heap.size, z, e) → (a1.h.new .dead).2.get i = .dead := fun i z e hi => by
                        rw [AH.get_new]
                        split
                        · rfl
                        · cases hd' : a1.h.get i with
                          | dead => rfl
                          | _ => exact absurd (R2.heap.inb hi (by rw [hd']; intro e; cases e)) (Nat.lt_irrefl _)
                      have h := loop_each (id := id) hc hex hlit hops2 d1 p1 g1 d2 p2 g2 hxt (by simp) (by simp) hxs hts hlr (fun t ht => by rw [delL_get, ht]; rfl) (ih := a1.h.next) (by
                          rw [delL_get, hnW, T.get_set', if_pos rfl]; rfl) (m := m) (bm := bm) (e0 := e0) (r := w2.heap.size) (cl := cl) (ms := ms) (by
                          simp only [Mp.add]; rw [if_neg hmn]; exact hm) hget (fun i z e hi => by
                          simp only [Mp.add] at hi
                          split at hi
                          · rename_i e1; subst e1; rw [AH.get_new, if_pos rfl]
                          · exact hrold i z e hi) (by simp [Mp.add]) (fun hF => by
                          have := R2.heap.fr _ hF
                          have := R2.heap.size
                          omega) hbne (her.mono (N2.sub)) hst hpl houts he (leftOf ms #[]).size #[] cl _ _ rfl R4 (D := a.defers) (by rw [Act.put_def]; exact D2) (heap_alloc_new _ _) (Nat.le_refl _) (by rw [heap_alloc_old _ _ hbl]; exact hb) (fun i y _ hs => by simp at hs)
                      intro b k cs
                      obtain ⟨e, a', w', q1, q2⟩ := h b k cs
                      refine ⟨e, a', w', ?_, q2⟩
                      have tr : ∀ {e a' w'}, Post F w0 (μ2.add a1.h.next (w2.heap.size, 0, 0)) (a1.h.new .dead).2 a.defers x af' e a' w' → Post F w0 μ af.h a.defers x af' e a' w' := fun hp => hp.trans (E2.trans N2) rfl
                      cases e with
                      | exit id' =>
                        simp only [Exit.inBlock] at q1 ⊢
                        by_cases hid : id' = H.b1
                        · rw [if_pos hid] at q1 ⊢; exact tr q1
                        · rw [if_neg hid] at q1 ⊢; exact tr q1
                      | normal => exact tr (e := .normal) q1
                      | goto l => exact (show False from q1).elim
                      | ret => exact tr (e := .ret) q1
                      | panic ch => exact (show False from q1).elim
                      | outgrown => exact (show False from q1).elim
                  · cases he
                · cases he
              · cases he
            · cases he
          · cases he
        · cases he
      · cases he
    · cases hf
  · cases hf

end
end
end Go.R
