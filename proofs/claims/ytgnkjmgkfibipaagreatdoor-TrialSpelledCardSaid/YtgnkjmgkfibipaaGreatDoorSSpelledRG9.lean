/- A row that has grown behind a held cell, under its old number again. -/
import Derived.Test.YtgnkjmgkfibipaaGreatDoorSSpelledRG7
namespace Go.R
set_option linter.unusedVariables false
set_option linter.unusedSimpArgs false
open Go Go.RowKit
noncomputable section
variable {P : Program}

end
end Go.R

/- The call from where the hidden state is the heap, some of its first objects being left as they are. -/
namespace Go.R
set_option linter.unusedVariables false
set_option linter.unusedSimpArgs false
open Go Go.RowKit
noncomputable section
variable {P : Program} {σ : Type}

end
end Go.R

/- Regions with told calls, some of one and the same function with other arguments. -/
namespace Go.R
set_option linter.unusedVariables false
set_option linter.unusedSimpArgs false
open Go Go.RowKit
noncomputable section
variable {P : Program}

end
end Go.R

/- A range over a map whose entries are not known: each round looks only. -/
namespace Go.R
set_option linter.unusedVariables false
set_option linter.unusedSimpArgs false
open Go Go.RowKit
noncomputable section
variable {P : Program}

/-- What the range runs over: its place, what stands behind the operations ahead of it, and the map. -/
def eachAt (P : Program) (call : CallF) (ops : Array Oper) (af : AF) : Option (Tmp × AF × Nat) :=
  match ops.toList.getLast? with
  | some o =>
    match o.dst, o.op, o.guard with
    | some it2, .range ty x, none =>
      match P.underlying ty, opsL P call ops ops.toList.dropLast af with
      | some (.map _ _), some (a1, _) =>
        match evalA a1.tm x with
        | some (.map (some m)) => some (it2, a1, m)
        | _ => none
      | _, _ => none
    | _, _, _ => none
  | none => none
def tmE (H : Head) (a1 : AF) : T Value := delL (a1.tm.set H.it (.pointer (some ⟨(a1.h.new .dead).1, 0, none⟩))) (H.x :: H.t :: dstsC H.rest)
def roundE (P : Program) (call : CallF) (n : Nat) (H : Head) (a1 : AF) (m : Nat) (p : Value × Value) : Option (AExit × AF) := roundA P call (execA P call n) H (tmE H a1) a1.sz ((a1.h.new .dead).2.put m .dead) p
def outsE (P : Program) (call : CallF) (n : Nat) (H : Head) (a1 : AF) (m : Nat) (es : List (Value × Value)) : List (AExit × AF) := es.map fun p => (roundE P call n H a1 m p).getD (.normal, a1)
def joinE (P : Program) (call : CallF) (n : Nat) (H : Head) (a1 : AF) (m : Nat) (es : List (Value × Value)) : Option (AExit × AF) := joinA H.b1 (tmE H a1) a1.sz (a1.h.new .dead).2 (H.x :: H.t :: dstsC H.rest) (outsE P call n H a1 m es)
def goodE (H : Head) (it2 : Tmp) (a1 : AF) : Bool := decide (it2 = H.it) && (!(H.x :: H.t :: dstsC H.rest).contains H.it && (Nat.blt H.it a1.sz && (Nat.blt H.x a1.sz && (Nat.blt H.t a1.sz && litR (H.x :: H.t :: dstsC H.rest) H.it H.rest))))

theorem mapM_all {f : Value × Value → Option (AExit × AF)} {d : AExit × AF} : ∀ {es : List (Value × Value)}, (∀ p ∈ es, (f p).isSome = true) → es.mapM f = some (es.map fun p => (f p).getD d)
  | [], _ => rfl
  | p :: es, h => by
    rw [List.mapM_cons, mapM_all (d := d) fun q hq => h q (List.mem_cons_of_mem _ hq)]
    have := h p List.mem_cons_self
    cases hf : f p with
    | none => rw [hf] at this; cases this
    | some o => simp [hf]

theorem mapLoop_run {call : CallF} {n : Nat} {H : Head} {ops : Array Oper} {af a1 : AF} {it2 : Tmp} {m : Nat} {es : List (Value × Value)} (h0 : eachAt P call ops af = some (it2, a1, m)) (hg : a1.h.get m = .map es)
    (hp : (es.all fun p => plainV p.1) = true) (hok : goodE H it2 a1 = true) (hM : ∀ p ∈ es, (roundE P call n H a1 m p).isSome = true) : mapLoopA P call (execA P call n) H ops af = joinE P call n H a1 m es := by
  unfold eachAt at h0
  unfold mapLoopA
  split at h0
  · rename_i o ho
    simp only [ho]
    split at h0
    · rename_i it3 ty x e1 e2 e3
      simp only [e1, e2, e3]
      split at h0
      · rename_i kt et a2 hs e4 e5
        simp only [e4, e5]
        split at h0
        · rename_i m2 e6
          simp only [Option.some.injEq, Prod.mk.injEq] at h0
          obtain ⟨rfl, rfl, rfl⟩ := h0
          simp only [e6, hg]
          have hcond : (decide (it3 = H.it) && (es.all fun p => plainV p.1) && (!(H.x :: H.t :: dstsC H.rest).contains H.it && (Nat.blt H.it a2.sz && (Nat.blt H.x a2.sz && (Nat.blt H.t a2.sz && litR (H.x :: H.t :: dstsC H.rest) H.it H.rest))))) = true := by
            unfold goodE at hok
            simp only [Bool.and_eq_true] at hok ⊢
            exact ⟨⟨hok.1, hp⟩, hok.2⟩
          rw [if_pos hcond]
          have := mapM_all (d := (.normal, a2)) hM
          have e7 : es.mapM (roundA P call (execA P call n) H (delL (a2.tm.set H.it (.pointer (some ⟨(a2.h.new .dead).1, 0, none⟩))) (H.x :: H.t :: dstsC H.rest)) a2.sz ((a2.h.new .dead).2.put m2 .dead)) = some (outsE P call n H a2 m2 es) := this
          rw [e7]
          rfl
        · cases h0
      · cases h0
    · cases h0
  · cases h0

theorem Runs.each (hm : P.follows .mixedOrders = true) {call : CallF} (hc : CallOk P call) {n k : Nat} {c X Y : Code} {ops : Array Oper} {H : Head} {af a1 : AF} {it2 : Tmp} {m : Nat} {es : List (Value × Value)} {x : AExit} {af' : AF} {Q : AExit → AF → Prop}
    (hk : Nat.ble k af.h.next = true) (hs : c = .seq X Y) (hf : eachForm X Y = some (ops, H)) (h0 : eachAt P call ops af = some (it2, a1, m)) (hg : a1.h.get m = .map es)
    (hp : (es.all fun p => plainV p.1) = true) (hok : goodE H it2 a1 = true) (hM : ∀ p ∈ es, (roundE P call n H a1 m p).isSome = true) (hj : joinE P call n H a1 m es = some (x, af')) (q : Q x af') : Runs P k c af Q := by
  subst hs
  refine Runs.eval hm hc (n := n + 1) (Nat.le_of_ble_eq_true hk) (x := x) (af' := af') ?_ q
  simp only [execA, hf]
  rw [mapLoop_run h0 hg hp hok hM, hj]

/-- No round leaves. -/
theorem join_stay {b1 sz : Nat} {tm : T Value} {h : AH} {W : List Tmp} {outs : List (AExit × AF)} (hn : ∀ o ∈ outs, isOut o = false) : joinA b1 tm sz h W outs = some (.normal, { tm := tm, sz := sz, h := h }) := by
  have : outs.filter isOut = [] := List.filter_eq_nil_iff.2 fun o ho => by rw [hn o ho]; simp
  unfold joinA
  rw [this]

theorem agree_set {f0 : AF} {outs : List (AExit × AF)} {tm : T Value} {t : Tmp} {v : Value} (hv : veq 20 v v = true) (h0 : f0.tm.get t = some v) (ho : ∀ p ∈ outs, p.2.tm.get t = some v) : ∀ (W : List Tmp), t ∈ W → (agree f0 outs tm W).get t = some v
  | k :: W, hm => by
    have ih : t ∈ W → (agree f0 outs tm W).get t = some v := agree_set hv h0 ho W
    simp only [agree]
    by_cases hk : k = t
    · subst hk
      rw [h0]
      simp only
      rw [if_pos, T.get_set', if_pos rfl]
      exact List.all_eq_true.2 fun p hp => by rw [ho p hp]; exact hv
    · have hW : t ∈ W := (List.mem_cons.1 hm).resolve_left fun e => hk e.symm
      split
      · split
        · rw [T.get_set', if_neg fun e => hk e.symm]
          exact ih hW
        · exact ih hW
      · exact ih hW

/-- Those that leave, leave alike. -/
theorem join_ret {b1 sz : Nat} {tm : T Value} {h : AH} {W : List Tmp} {outs : List (AExit × AF)} {t : Tmp} {v : Value} (hv : veq 20 v v = true) (ht : t ∈ W) (he : ∃ o ∈ outs, isOut o = true) (ha : ∀ o ∈ outs, isOut o = true → o.1 = .ret ∧ o.2.tm.get t = some v) :
    ∃ tm', joinA b1 tm sz h W outs = some (.ret, { tm := tm', sz := sz, h := h }) ∧ tm'.get t = some v := by
  obtain ⟨o, ho, hio⟩ := he
  have hmem : o ∈ outs.filter isOut := List.mem_filter.2 ⟨ho, hio⟩
  have hall : ∀ p ∈ outs.filter isOut, p.1 = .ret ∧ p.2.tm.get t = some v := fun p hp => ha p (List.mem_filter.1 hp).1 (List.mem_filter.1 hp).2
  unfold joinA
  cases hf : outs.filter isOut with
  | nil => rw [hf] at hmem; cases hmem
  | cons p l =>
    obtain ⟨x0, f0⟩ := p
    rw [hf] at hall
    have h0 := hall (x0, f0) List.mem_cons_self
    have hx0 : x0 = .ret := h0.1
    subst hx0
    simp only
    rw [if_pos]
    · exact ⟨_, rfl, agree_set hv h0.2 (fun p hp => (hall p hp).2) W ht⟩
    · exact List.all_eq_true.2 fun p hp => by rw [(hall p (List.mem_cons_of_mem _ hp)).1]; rfl
end
end Go.R
