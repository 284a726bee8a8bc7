/- Stretches with unknown values: what is seen behind them, by equations. -/
import Derived.Test.YtgnkjmgkfibipaaDoorRStage
namespace Go.R
set_option linter.unusedVariables false
set_option linter.unusedSimpArgs false
open Go Go.RowKit
noncomputable section
variable {P : Program}

/-- A region whose order is drawn, its values unknown. -/
theorem Runs.regionD (hm : P.follows .mixedOrders = true) {call : CallF} (hc : CallOk P call) {k id : Nat} {ops : Array Oper} {af af' : AF} {Q : AExit → AF → Prop} {vs : List Value} (hk : k ≤ af.h.next)
    (h : (opsL P call ops ops.toList af).map (fun p => (p.1, (dynPairs P ops (masks ops.toList [])).map (reval P ops p.2))) = some (af', vs.map fun v => some (some v, some v)))
    (st : statOk ops (masks ops.toList []) = true) (q : Q .normal af') : Runs P k (.region id ops true) af Q := by
  cases ho : opsL P call ops ops.toList af with
  | none => rw [ho] at h; cases h
  | some r =>
    obtain ⟨b, hs⟩ := r
    rw [ho] at h
    simp only [Option.map_some, Option.some.injEq, Prod.mk.injEq] at h
    obtain ⟨rfl, h2⟩ := h
    intro F w0 μ a w R
    refine plan_ok hm hc (hs := hs) ⟨traced _ _ _ _ ho, st, reval_good h2⟩ R fun a' w' ⟨μ', r1, r2, r3⟩ => ?_
    exact ⟨.normal, b, q, trivial, r3, μ', r1, .of_ext r2 hk⟩

/-- What is seen of an end: how, the listed places, the first objects. -/
def seen (ts : List Nat) (m : Nat) (r : Option (AExit × AF)) : Option (AExit × List (Option Value) × Nat × Bool × List AObj) :=
  match r with
  | some (x, af) => some (x, ts.map af.tm.get, af.sz, Nat.ble m af.h.next, (List.range m).map af.h.get)
  | none => none

theorem seen_less (G : Tame) {l : List (Nat × Value)} {sz : Nat} {os : List AObj} {x : AExit} {r : Option (AExit × AF)} {k : Nat} (ht : tight l os = true) (hk : k ≤ os.length)
    (h : seen (l.map (·.1)) os.length r = some (x, l.map (fun p => some p.2), sz, true, os)) : ∃ af', r = some (x, af') ∧ Less k (sth l sz os) af' := by
  unfold seen at h
  split at h
  · rename_i x' af'
    simp only [Option.some.injEq, Prod.mk.injEq] at h
    obtain ⟨rfl, h1, h2, h3, h4⟩ := h
    exact ⟨af', rfl, less_seen G ht hk h1 h2 h3 h4⟩
  · cases h

/-- A part, and the state behind it. -/
theorem Runs.seqSeen (G : Tame) (hm : P.follows .mixedOrders = true) {call : CallF} (hc : CallOk P call) {n k : Nat} {c1 c2 : Code} {af : AF} {Q : AExit → AF → Prop} (l : List (Nat × Value)) {sz : Nat} (os : List AObj)
    (hk : k ≤ af.h.next) (hk' : k ≤ os.length) (ht : tight l os = true) (he : seen (l.map (·.1)) os.length (execA P call n c1 af) = some (.normal, l.map (fun p => some p.2), sz, true, os))
    (h : Runs P k c2 (sth l sz os) Q) : Runs P k (.seq c1 c2) af Q := by
  obtain ⟨af', h1, h2⟩ := seen_less G ht hk' he
  exact Runs.seq (Runs.eval hm hc hk h1 (h.less h2))

/-- A stretch to its end, whatever it is, with a state behind it that one may choose. -/
theorem Runs.evalSeen (G : Tame) (hm : P.follows .mixedOrders = true) {call : CallF} (hc : CallOk P call) {n k : Nat} {c : Code} {af : AF} {Q : AExit → AF → Prop} (x : AExit) (l : List (Nat × Value)) {sz : Nat} (os : List AObj)
    (hk : k ≤ af.h.next) (hk' : k ≤ os.length) (ht : tight l os = true) (he : seen (l.map (·.1)) os.length (execA P call n c af) = some (x, l.map (fun p => some p.2), sz, true, os))
    (q : ∀ af', Less k (sth l sz os) af' → Q x af') : Runs P k c af Q := by
  obtain ⟨af', h1, h2⟩ := seen_less G ht hk' he
  exact Runs.eval hm hc hk h1 (q af' h2)

/-- An end whose results are equations. -/
theorem Runs.lastEq (hm : P.follows .mixedOrders = true) {call : CallF} (hc : CallOk P call) {n k : Nat} {fn : Func} {c : Code} {af : AF} {x : AExit} {vs : List Value} {R : Value → AH → Prop} (hk : k ≤ af.h.next) (hx : x = .normal ∨ x = .ret)
    (he : (execA P call n c af).map (fun p => (p.1, resultsA P p.2.tm p.2.h fn.results.toList)) = some (x, some vs)) (hR : ∀ h', R (pack vs) h') : Runs P k c af (EndsAs P fn R) := by
  cases h : execA P call n c af with
  | none => rw [h] at he; cases he
  | some r =>
    obtain ⟨y, af'⟩ := r
    rw [h] at he
    simp only [Option.map_some, Option.some.injEq, Prod.mk.injEq] at he
    obtain ⟨rfl, h2⟩ := he
    exact Runs.eval hm hc hk h ⟨hx, vs, h2, hR af'.h⟩

/-! ### One call by its contract -/
open Classical in
/-- What one call answers from one heap; all others as before. -/
def callAt (f0 : FuncId) (args0 : List Value) (h0 : AH) (v0 : Value) (h1 : AH) (base : CallF) : CallF := fun f args h =>
  if f = f0 ∧ args = args0 ∧ h = h0 then some (v0, h1) else base f args h

theorem callAt_ok {f0 : FuncId} {args0 : List Value} {h0 h1 : AH} {v0 : Value} {base : CallF} (hb : CallOk P base)
    (C : ∀ (F : Nat → Prop) (w0 : World) (μ : Mp) (w : World) (args' : Array Value), HR F w0 μ h0 w → LR μ args0 args'.toList →
      Goes P f0 args' w fun v' w' => ∃ μ', VR μ' v0 v' ∧ HR F w0 μ' h1 w' ∧ Ext μ μ' h0 h1) : CallOk P (callAt f0 args0 h0 v0 h1 base) := by
  intro f args h v h' he
  unfold callAt at he
  split at he
  · rename_i hc
    obtain ⟨rfl, rfl, rfl⟩ := hc
    simp only [Option.some.injEq, Prod.mk.injEq] at he
    obtain ⟨rfl, rfl⟩ := he
    exact C
  · exact hb f args h v h' he

theorem call_step {f0 : FuncId} {args0 : List Value} {h0 h1 : AH} {v0 : Value} {base : CallF} {ρ : Operand → Option Value} {c : Call} (hc : callOp? (.call c) = some c) (h : callee? ρ c = some (f0, args0)) :
    stepA P (callAt f0 args0 h0 v0 h1 base) ρ (.call c) h0 = some (v0, h1) := by
  simp only [stepA, hc, h, callAt, and_self, if_true]

/-- A region in its listed order with one call in it: what is ahead, the call, what is behind. -/
theorem Runs.regionC (hm : P.follows .mixedOrders = true) {call : CallF} (hc : CallOk P call) {k id : Nat} {ops : Array Oper} {pre post : List Oper} {o : Oper} {af a1 af' : AF} {v : Value} {h1 : AH} {Q : AExit → AF → Prop} (hk : k ≤ af.h.next)
    (e : ops.toList = pre ++ ([o] ++ post)) (hg : o.guard = none) (hp : (opsL P call ops pre af).map (·.1) = some a1) (hs : stepA P call (evalA a1.tm) o.op a1.h = some (v, h1))
    (hq : (opsL P call ops post (a1.put o.dst v h1)).map (·.1) = some af') (q : Q .normal af') : Runs P k (.region id ops false) af Q := by
  refine Runs.regionL hm hc hk ?_ q
  rw [e]
  exact opsL_app _ _ af a1 af' hp (opsL_app _ _ a1 _ af' (opsL_one hg hs) hq)


/-! ### States with unknown rows -/
theorem less_seenP {l : List (Nat × Value)} {sz : Nat} {os : List AObj} {af : AF} {k : Nat} (hl : ∀ p ∈ l, Clo os.length p.2) (ho : ∀ o ∈ os, CloO os.length o) (hk : k ≤ os.length) (h1 : (l.map (·.1)).map af.tm.get = l.map fun p => some p.2) (h2 : af.sz = sz)
    (h3 : Nat.ble os.length af.h.next = true) (h4 : (List.range os.length).map af.h.get = os) : Less k (sth l sz os) af := by
  rw [List.map_map, List.map_inj_left] at h1
  refine ⟨h2.symm, by rw [show (sth l sz os).h = hp os from rfl, hp_next]; exact hk, by rw [show (sth l sz os).h = hp os from rfl, hp_next]; exact Nat.le_of_ble_eq_true h3, fun t v hv => ?_, fun i hi => .inr ?_⟩
  · rw [show (sth l sz os).h = hp os from rfl, hp_next]
    rcases mkT_get l .nil t v hv with h | h
    · exact ⟨h1 (t, v) h, hl (t, v) h⟩
    · simp [T.gN] at h
  · rw [show (sth l sz os).h = hp os from rfl, hp_next] at hi ⊢
    have ho' : os[i]? = some os[i] := List.getElem?_eq_getElem hi
    have e : af.h.get i = os[i] := by
      have := congrArg (fun l : List AObj => l[i]?) h4
      simp only [List.getElem?_map, List.getElem?_range hi, Option.map_some, ho', Option.some.injEq] at this
      exact this
    rw [e, hp_get os i _ ho']
    exact ⟨rfl, ho _ (List.getElem_mem hi)⟩

theorem clo_all {k : Nat} {l : List (Nat × Value)} (h : (l.all fun p => cloB 10 k p.2) = true) : ∀ p ∈ l, Clo k p.2 := fun p hp => clo_of 10 k _ (List.all_eq_true.1 h p hp)

/-- A row that is only looked at, of plain values. -/
theorem cloO_plain {k : Nat} {c : List Value} (h : ∀ v ∈ c, plainV v = true) (l : Bool) (ty : Option TypeId) : CloO k (.cells c l [] ty) := ⟨fun v hv => clo_plain (h v hv), fun j hj => by cases hj⟩

/-- Rows of two plain values each. -/
def rows2 (a b : Nat → Value) (n : Nat) : List Value := (List.range n).flatMap fun i => [a i, b i]

theorem rows2_succ (a b : Nat → Value) (n : Nat) : rows2 a b (n + 1) = rows2 a b n ++ [a n, b n] := by
  unfold rows2
  rw [List.range_succ, List.flatMap_append]
  simp

theorem rows2_len (a b : Nat → Value) : ∀ n, (rows2 a b n).length = n * 2
  | 0 => rfl
  | n + 1 => by rw [rows2_succ, List.length_append, rows2_len a b n]; simp; omega

theorem rows2_at (a b : Nat → Value) : ∀ n i, i < n → ((rows2 a b n).drop (i * 2)).take 2 = [a i, b i]
  | 0, i, h => by omega
  | n + 1, i, h => by
    rw [rows2_succ]
    have hl := rows2_len a b n
    by_cases e : i < n
    · rw [List.drop_append_of_le_length (by omega), List.take_append_of_le_length (by rw [List.length_drop]; omega)]
      exact rows2_at a b n i e
    · have : i = n := by omega
      subst this
      rw [List.drop_append_of_le_length (by omega), List.drop_eq_nil_of_le (by omega)]
      rfl

theorem rows2_plain {a b : Nat → Value} (ha : ∀ i, plainV (a i) = true) (hb : ∀ i, plainV (b i) = true) (n : Nat) : ∀ v ∈ rows2 a b n, plainV v = true := by
  intro v hv
  unfold rows2 at hv
  obtain ⟨i, _, h⟩ := List.mem_flatMap.1 hv
  simp only [List.mem_cons, List.mem_nil_iff, or_false] at h
  rcases h with rfl | rfl
  · exact ha i
  · exact hb i

theorem idx_step {call : CallF} {ρ : Operand → Option Value} {h : AH} {t e : TypeId} {x y : Operand} {g o n c i : Nat} {sp : Option Nat} {kd : IntKind} {info : TypeInfo}
    (hx : ρ x = some (.slice (some ⟨g, o, sp⟩) n c)) (hy : ρ y = some (.int kd (.ofNat i))) (hlt : i < n) (ht : P.underlying t = some (.slice e)) (hi : P.info? e = some info) :
    stepA P call ρ (.indexAddr t x y) h = some (.pointer (some ⟨g, o + i * info.size, none⟩), h) := by
  simp only [stepA, callOp?, opA, hx, hy, indexAddrA, ht, hi]
  rw [if_pos ⟨Int.natCast_nonneg i, by exact Int.ofNat_lt.2 hlt⟩]
  rfl

theorem load_step {call : CallF} {ρ : Operand → Option Value} {h : AH} {t : TypeId} {x : Operand} {g o : Nat} {info : TypeInfo} {d : TypeDesc} {l : List Value}
    (hx : ρ x = some (.pointer (some ⟨g, o, none⟩))) (hi : P.info? t = some info) (ht : P.underlying t = some d) (hd : isAggD d = true) (hl : rowAt? h g o info.size = some l) :
    stepA P call ρ (.load t x) h = some (.agg l.toArray, h) := by
  simp only [stepA, callOp?, opA, hx, loadA, hi, ht, hd, if_true, hl, Option.map_some]

theorem row_at {h : AH} {g o n : Nat} {c : List Value} {lv : Bool} {p : List Nat} {ty : Option TypeId} (hg : h.get g = .cells c lv p ty) (hle : o + n ≤ c.length) : rowAt? h g o n = some ((c.drop o).take n) := by
  unfold rowAt?; rw [hg]; simp only; rw [if_pos hle]

end
end Go.R
