/- The region's invariant, whatever has been done so far. -/
import Derived.Test.YtbcjmmbmeebfgaaDoorRDraw2
namespace Go.R
set_option linter.unusedVariables false
set_option linter.unusedSimpArgs false
open Go Go.RowKit

section
variable {P : Program} {F : Nat → Prop} {w0 : World}

theorem looks_tmp {ops : Array Oper} {o : Oper} {t : Tmp} (h : .tmp t ∈ o.op.operands) : t ∈ o.looksAt ops :=
  List.mem_append_left _ (List.mem_filterMap.2 ⟨.tmp t, by simpa using h, rfl⟩)

theorem wantedA_congr {ops : Array Oper} {o : Oper} {tm tm' : T Value} (h : ∀ t ∈ o.looksAt ops, tm.get t = tm'.get t) : wantedA ops tm o = wantedA ops tm' o := by
  unfold wantedA
  cases hg : o.guard with
  | none => rfl
  | some g =>
    obtain ⟨j, b⟩ := g
    simp only [yieldA]
    cases ho : (ops[j]?).bind (·.dst) with
    | none => rfl
    | some t => simp only [h t (List.mem_append_right _ (by simp [hg, ho]))]

theorem evalA_congr {tm tm' : T Value} {x : Operand} (h : ∀ t, x = .tmp t → tm.get t = tm'.get t) : evalA tm x = evalA tm' x := by
  cases x with
  | tmp t => simp only [evalA, h t rfl]
  | _ => rfl

/-- An operation that looks at the heap answers the same at a stage at which it may come to stand. -/
def DynGood (P : Program) (ops : Array Oper) (hs : List AF) (q : Nat × Nat) : Prop :=
  ∃ o ap ai an, ops[q.1]? = some o ∧ hs[q.2]? = some ap ∧ hs[q.1]? = some ai ∧ hs[q.1 + 1]? = some an ∧
    (wantedA ops ai.tm o = some false ∨ ∃ v h2, opA P (evalA ai.tm) o.op ap.h = some (v, h2) ∧ ∀ d, o.dst = some d → an.tm.get d = some v)

theorem dynOk_good {ops : Array Oper} {ms : List Nat} {hs : List AF} (h : dynOk P ops ms hs = true) : ∀ q ∈ dynPairs P ops ms, DynGood P ops hs q := by
  intro q hq
  simp only [dynOk, List.all_eq_true] at h
  have h1 := h q hq
  split at h1
  · rename_i o ap ai an e1 e2 e3 e4
    refine ⟨o, ap, ai, an, e1, e2, e3, e4, ?_⟩
    rw [Bool.or_eq_true] at h1
    rcases h1 with h1 | h1
    · exact .inl (by simpa using h1)
    · split at h1
      · rename_i v h2 hop
        refine .inr ⟨v, h2, hop, fun d hd => ?_⟩
        rw [hd] at h1
        simp only at h1
        split at h1
        · rename_i v' hg
          rw [hg, veq_sound _ _ _ h1]
        · cases h1
      · cases h1
  · cases h1

/-- What such an operation answers there, and what it has answered. -/
noncomputable def reval (P : Program) (ops : Array Oper) (hs : List AF) (q : Nat × Nat) : Option (Option Value × Option Value) :=
  match ops[q.1]?, hs[q.2]?, hs[q.1]?, hs[q.1 + 1]? with
  | some o, some ap, some ai, some an => match opA P (evalA ai.tm) o.op ap.h with
    | some (v, _) => some (some v, match o.dst with
      | some d => an.tm.get d
      | none => some v)
    | none => none
  | _, _, _, _ => none

theorem reval_good {ops : Array Oper} {ms : List Nat} {hs : List AF} {vs : List Value} (h : (dynPairs P ops ms).map (reval P ops hs) = vs.map fun v => some (some v, some v)) : ∀ q ∈ dynPairs P ops ms, DynGood P ops hs q := by
  intro q hq
  have hm : reval P ops hs q ∈ vs.map fun v => some (some v, some v) := by rw [← h]; exact List.mem_map.2 ⟨q, hq, rfl⟩
  obtain ⟨v, _, hv⟩ := List.mem_map.1 hm
  unfold reval at hv
  split at hv
  · rename_i o ap ai an e1 e2 e3 e4
    split at hv
    · rename_i v1 h2 hop
      refine ⟨o, ap, ai, an, e1, e2, e3, e4, .inr ⟨v1, h2, hop, fun d hd => ?_⟩⟩
      rw [hd] at hv
      simp only [Option.some.injEq, Prod.mk.injEq] at hv
      rw [← hv.1, ← hv.2]
    · cases hv
  · cases hv

/-- What the checks and the listed order give. -/
structure Plan (P : Program) (call : CallF) (ops : Array Oper) (af af' : AF) (hs : List AF) : Prop where
  tr : Traced P call ops ops.toList af af' hs
  st : statOk ops (masks ops.toList []) = true
  dy : ∀ q ∈ dynPairs P ops (masks ops.toList []), DynGood P ops hs q

section
variable {call : CallF} {ops : Array Oper} {af af' : AF} {hs : List AF}

theorem Plan.back (p : Plan P call ops af af' hs) : ∀ (i : Nat) o, ops[i]? = some o → ∀ e ∈ o.after, Region.binds .any e = true → e.on < i :=
  fun _ _ ho => (statOk_spec p.st ho).1

theorem Plan.lt (p : Plan P call ops af af' hs) {i j : Nat} (h : has (masks ops.toList []) i j = true) {o : Oper} (ho : ops[i]? = some o) : j < i :=
  has_listed (L := (· < i)) p.back (fun k o' hk ho' e he hb => Nat.lt_trans (p.back k o' ho' e he hb) hk) (i + 1) i o (Nat.lt_succ_self _) ho (fun e he hb => p.back i o ho e he hb) j h

theorem Plan.before (p : Plan P call ops af af' hs) {i j : Nat} {o : Oper} (ho : ops[i]? = some o) {q : Oper} (hq : ops[j]? = some q) {t : Tmp} (ht : t ∈ o.looksAt ops) (hd : q.dst = some t) :
    j = i ∨ (j < i ∧ has (masks ops.toList []) i j = true) ∨ (i < j ∧ has (masks ops.toList []) j i = true) := by
  rcases ((statOk_spec p.st ho).2 j q hq).1 t hd ht with h | h | h
  · exact .inl h
  · exact .inr (.inl ⟨p.lt h ho, h⟩)
  · exact .inr (.inr ⟨p.lt h hq, h⟩)

theorem Plan.uniq (p : Plan P call ops af af' hs) {i j : Nat} {o q : Oper} (ho : ops[i]? = some o) (hq : ops[j]? = some q) {t : Tmp} (h1 : o.dst = some t) (h2 : q.dst = some t) : j = i := by
  rcases Nat.decEq j i with h | h
  · exact absurd h1 (((statOk_spec p.st ho).2 j q hq).2.1 h t h2)
  · exact h

/-- In the listed order: what operation i did. -/
theorem Plan.at_ (p : Plan P call ops af af' hs) {i : Nat} {o : Oper} (ho : ops[i]? = some o) :
    ∃ ai v an, hs[i]? = some ai ∧ hs[i + 1]? = some an ∧ Did P call ops ai.tm o ai.h v an.h ∧
      (∀ d, o.dst = some d → d < af.sz → an.tm.get d = some v) ∧
      (∀ d, o.dst = some d → d < af.sz → af'.tm.get d = some v) ∧
      (∀ t, (∀ (j : Nat) p, i ≤ j → ops[j]? = some p → p.dst ≠ some t) → af'.tm.get t = ai.tm.get t) ∧
      (∀ t, (∀ (j : Nat) p, j < i → ops[j]? = some p → p.dst ≠ some t) → ai.tm.get t = af.tm.get t) := by
  obtain ⟨ai, q1, q2, q2', v, an, q3, q4, q5', q5⟩ := p.tr.at_ i o (by simpa using ho)
  refine ⟨ai, v, an, q1, q3, q4, q5', fun d hd hlt => q5 d hd hlt fun j q hj hq hd2 => ?_, fun t ht => q2 t fun j q hj hq => ht j q hj (by simpa using hq), fun t ht => q2' t fun j q hj hq => ht j q hj (by simpa using hq)⟩
  have := p.uniq ho (by simpa using hq) hd hd2
  omega

theorem Plan.light_same (p : Plan P call ops af af' hs) {i : Nat} {o : Oper} (ho : ops[i]? = some o) (hl : light o.op = true) : (hs[i + 1]?).map AF.h = (hs[i]?).map AF.h := by
  obtain ⟨ai, v, an, q1, q2, q3, _⟩ := p.at_ ho
  rw [q1, q2]
  simp only [Option.map_some]
  rcases q3 with ⟨_, q3⟩ | ⟨_, _, q3⟩
  · unfold stepA at q3
    rw [light_call hl] at q3
    rw [light_stay hl q3]
  · rw [q3]

theorem Plan.lights (p : Plan P call ops af af' hs) (i : Nat) : ∀ d, i + d ≤ ops.size → (∀ (q : Nat) o, i ≤ q → q < i + d → ops[q]? = some o → light o.op = true) → (hs[i + d]?).map AF.h = (hs[i]?).map AF.h
  | 0, _, _ => rfl
  | d + 1, hd, h => by
    have ho : ops[i + d]? = some (ops[i + d]'(by omega)) := Array.getElem?_eq_getElem (by omega)
    rw [← Nat.add_assoc, p.light_same ho (h _ _ (by omega) (by omega) ho)]
    exact p.lights i d (by omega) fun q o h1 h2 h3 => h q o h1 (by omega) h3

def Stage (ops : Array Oper) (L : Nat → Prop) (p : Nat) : Prop :=
  p ≤ ops.size ∧ (p < ops.size → ∃ o, ops[p]? = some o ∧ light o.op = false) ∧ (∀ (q : Nat) o, ops[q]? = some o → light o.op = false → (q < p ↔ L q))

theorem next_stage (ops : Array Oper) : ∀ d k, k + d = ops.size → ∃ p', k ≤ p' ∧ p' ≤ ops.size ∧ (p' < ops.size → ∃ o, ops[p']? = some o ∧ light o.op = false) ∧
    (∀ (q : Nat) o, k ≤ q → q < p' → ops[q]? = some o → light o.op = true)
  | 0, k, h => ⟨k, Nat.le_refl _, by omega, fun hlt => by omega, fun q o h1 h2 => by omega⟩
  | d + 1, k, h => by
    have ho : ops[k]? = some (ops[k]'(by omega)) := Array.getElem?_eq_getElem (by omega)
    cases hl : light (ops[k]'(by omega)).op with
    | false => exact ⟨k, Nat.le_refl _, by omega, fun _ => ⟨_, ho, hl⟩, fun q o h1 h2 => by omega⟩
    | true =>
      obtain ⟨p', q1, q2, q3, q4⟩ := next_stage ops d (k + 1) (by omega)
      refine ⟨p', by omega, q2, q3, fun q o h1 h2 h3 => ?_⟩
      by_cases e : q = k
      · subst e; rw [ho] at h3; cases h3; exact hl
      · exact q4 q o (by omega) h2 h3

theorem mem_stages {q : Nat} : q ∈ stages ops ↔ ∃ o, ops[q]? = some o ∧ light o.op = false := by
  unfold stages
  rw [List.mem_filter, List.mem_range]
  constructor
  · rintro ⟨h1, h2⟩
    have ho : ops[q]? = some ops[q] := Array.getElem?_eq_getElem h1
    rw [ho] at h2
    exact ⟨_, ho, by simpa using h2⟩
  · rintro ⟨o, h1, h2⟩
    exact ⟨(Array.getElem?_eq_some_iff.1 h1).1, by simp [h1, h2]⟩

/-- What a ready operation does at the stage it meets. -/
theorem Plan.meets (p : Plan P call ops af af' hs) {L : Nat → Prop} {s : Nat} (S : Stage ops L s) (hn : ¬ L ops.size)
    (hdown : ∀ (i : Nat) o, L i → ops[i]? = some o → ∀ e ∈ o.after, Region.binds .any e = true → L e.on)
    {i : Nat} {o : Oper} (ho : ops[i]? = some o) (hun : ¬ L i) (hr : ∀ e ∈ o.after, Region.binds .any e = true → L e.on) {h : AH} (hh : (hs[s]?).map AF.h = some h) :
    ∃ ai s' h' v, hs[i]? = some ai ∧ Stage ops (fun j => j = i ∨ L j) s' ∧ (hs[s']?).map AF.h = some h' ∧ Did P call ops ai.tm o h v h' ∧
      (∀ d, o.dst = some d → d < af.sz → af'.tm.get d = some v) := by
  have hpre : ∀ j, has (masks ops.toList []) i j = true → L j := has_listed p.back hdown (i + 1) i o (Nat.lt_succ_self _) ho hr
  have hsn : ¬ L s := by
    intro hs'
    rcases Nat.lt_or_ge s ops.size with h1 | h1
    · obtain ⟨o', q1, q2⟩ := S.2.1 h1
      exact absurd ((S.2.2 s o' q1 q2).2 hs') (Nat.lt_irrefl _)
    · have : s = ops.size := Nat.le_antisymm S.1 h1
      subst this; exact hn hs'
  obtain ⟨ai, v, an, q1, q2, q3, q4', q4, _⟩ := p.at_ ho
  cases hl : light o.op with
  | true =>
    have S' : Stage ops (fun j => j = i ∨ L j) s := ⟨S.1, S.2.1, fun q o' h1 h2 => by
      rw [S.2.2 q o' h1 h2]
      constructor
      · exact .inr
      · rintro (rfl | h)
        · rw [ho] at h1; cases h1; rw [hl] at h2; cases h2
        · exact h⟩
    have hsm := p.light_same ho hl
    rw [q1, q2] at hsm
    simp only [Option.map_some, Option.some.injEq] at hsm
    rw [hsm] at q3
    rcases q3 with ⟨hw, q3⟩ | ⟨hw, q3⟩
    · have hwn : (wantedA ops ai.tm o == some false) = false := by rw [hw]; rfl
      by_cases hp : pureOp P o.op = true
      · refine ⟨ai, s, h, v, q1, S', hh, .inl ⟨hw, ?_⟩, q4⟩
        unfold stepA at q3 ⊢
        rw [light_call hl] at q3 ⊢
        exact pure_op hp q3 h
      have hilt := (Array.getElem?_eq_some_iff.1 ho).1
      have hmem : s ∈ stages ops ++ [ops.size] := by
        rw [List.mem_append, List.mem_singleton]
        rcases Nat.lt_or_ge s ops.size with h1 | h1
        · exact .inl (mem_stages.2 (S.2.1 h1))
        · exact .inr (Nat.le_antisymm S.1 h1)
      have h2 : statPair ops (masks ops.toList []) i s = true ∨ DynGood P ops hs (i, s) := by
        by_cases hst : statPair ops (masks ops.toList []) i s = true
        · exact .inl hst
        · refine .inr (p.dy (i, s) ?_)
          unfold dynPairs
          rw [List.mem_flatMap]
          refine ⟨i, List.mem_range.2 hilt, ?_⟩
          simp only [ho]
          rw [if_pos (by simp [hl, hp])]
          exact List.mem_map.2 ⟨s, List.mem_filter.2 ⟨hmem, by simpa using hst⟩, rfl⟩
      simp only [statPair, Bool.or_eq_true, Bool.and_eq_true, List.any_eq_true, List.all_eq_true, Nat.ble_eq, Nat.blt_eq] at h2
      rcases h2 with (⟨h2, h3⟩ | (h2 | ⟨q, h2, h3, h4⟩)) | h2
      · have hsame : (hs[s]?).map AF.h = (hs[i]?).map AF.h := by
          have := p.lights i (s - i) (by have := S.1; omega) fun q o' a b c => by
            cases e : light o'.op with
            | true => rfl
            | false => rcases h3 q (mem_stages.2 ⟨o', c, e⟩) with h | h <;> omega
          rwa [Nat.add_sub_cancel' h2] at this
        rw [hsame, q1] at hh
        cases hh
        exact ⟨ai, s, _, v, q1, S', by rw [hsame, q1]; rfl, .inl ⟨hw, q3⟩, q4⟩
      · exact absurd (hpre _ h2) hsn
      · obtain ⟨oq, e1, e2⟩ := mem_stages.1 h2
        have hLq := (S.2.2 q oq e1 e2).1 h3
        exact absurd (has_listed p.back hdown (q + 1) q oq (Nat.lt_succ_self _) e1 (hdown q oq hLq e1) i h4) hun
      · obtain ⟨o2, ap, ai2, an2, d1, d2, d3, d4, dd⟩ := h2
        simp only at d1 d2 d3 d4
        rw [ho] at d1; cases d1
        rw [q1] at d3; cases d3
        rw [q2] at d4; cases d4
        rw [d2] at hh
        simp only [Option.map_some, Option.some.injEq] at hh
        subst hh
        rcases dd with dd | ⟨v2, h3, hop, hdst⟩
        · rw [hw] at dd; cases dd
        · have e := light_stay hl hop
          subst e
          refine ⟨ai, s, _, v2, q1, S', by rw [d2]; rfl, .inl ⟨hw, by unfold stepA; rw [light_call hl]; exact hop⟩, fun d hd hlt => ?_⟩
          have h4 := hdst d hd
          rw [q4' d hd hlt] at h4
          cases h4
          exact q4 d hd hlt
    · exact ⟨ai, s, h, v, q1, S', hh, .inr ⟨hw, q3.1, rfl⟩, q4⟩
  | false =>
    have his : i = s := by
      rcases Nat.lt_trichotomy i s with h1 | h1 | h1
      · exact absurd ((S.2.2 i o ho hl).1 h1) hun
      · exact h1
      · have hlt : s < ops.size := Nat.lt_trans h1 (Array.getElem?_eq_some_iff.1 ho).1
        obtain ⟨os, e1, e2⟩ := S.2.1 hlt
        exact absurd (hpre s (((statOk_spec p.st ho).2 s os e1).2.2 hl e2 h1)) hsn
    subst his
    rw [q1] at hh
    cases hh
    have hlt := (Array.getElem?_eq_some_iff.1 ho).1
    obtain ⟨p', r1, r2, r3, r4⟩ := next_stage ops (ops.size - (i + 1)) (i + 1) (by omega)
    refine ⟨ai, p', an.h, v, q1, ⟨r2, r3, fun q o' h1 h2 => ?_⟩, ?_, q3, q4⟩
    · show q < p' ↔ (q = i ∨ L q)
      rw [← S.2.2 q o' h1 h2]
      constructor
      · intro hq
        rcases Nat.lt_trichotomy q i with h | h | h
        · exact .inr h
        · exact .inl h
        · have := r4 q o' h hq h1; rw [h2] at this; cases this
      · rintro (rfl | h) <;> omega
    · have := p.lights (i + 1) (p' - (i + 1)) (by omega) fun q o' a b c => r4 q o' a (by omega) c
      rw [Nat.add_sub_cancel' r1] at this
      rw [this, q2]; rfl

end
end
end Go.R
