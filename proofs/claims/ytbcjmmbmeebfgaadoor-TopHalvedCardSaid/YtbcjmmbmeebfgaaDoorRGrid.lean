/- Contracts of numbers in ranges, from the machine's answers; and states of places alone. -/
import Derived.Test.YtbcjmmbmeebfgaaDoorRFrame
namespace Go.R
set_option linter.unusedVariables false
set_option linter.unusedSimpArgs false
open Go Go.RowKit
noncomputable section

def hd : Code → Code
  | .seq a _ => a
  | c => c
def tl : Code → Code
  | .seq _ b => b
  | c => c
def bodyOf (fn : Func) : Code := match fn.body with
  | some c => c
  | none => .skip

section
variable {P : Program}

/-! ### States of places alone -/
def mkT : List (Nat × Value) → T Value → T Value
  | [], t => t
  | p :: l, t => mkT l (t.set p.1 p.2)

theorem mkT_get : ∀ (l : List (Nat × Value)) (t : T Value) (k : Nat) (v : Value), (mkT l t).get k = some v → (k, v) ∈ l ∨ t.get k = some v
  | [], t, k, v, h => .inr h
  | p :: l, t, k, v, h => by
    rcases mkT_get l _ k v h with h1 | h1
    · exact .inl (List.mem_cons_of_mem _ h1)
    · rw [T.get_set'] at h1
      split at h1
      · rename_i e
        subst e
        cases h1
        exact .inl (by simp)
      · exact .inr h1

def st (l : List (Nat × Value)) (sz : Nat) : AF := ⟨mkT l .nil, sz, AH.empty⟩

def obs (ts : List Nat) (r : Option (AExit × AF)) : Option (AExit × List (Option Value) × Nat) :=
  match r with
  | some (x, af) => some (x, ts.map af.tm.get, af.sz)
  | none => none

theorem obs_less {l : List (Nat × Value)} {sz : Nat} {x : AExit} {r : Option (AExit × AF)} (he : obs (l.map (·.1)) r = some (x, l.map (fun p => some p.2), sz)) (hp : (l.all fun p => plainV p.2) = true) :
    ∃ af', r = some (x, af') ∧ Less 0 (st l sz) af' := by
  unfold obs at he
  split at he
  · rename_i x' af'
    simp only [Option.some.injEq, Prod.mk.injEq, List.map_map, List.map_inj_left, Function.comp] at he
    obtain ⟨rfl, h1, h2⟩ := he
    refine ⟨af', rfl, h2.symm, Nat.zero_le _, Nat.zero_le _, fun t v hv => ?_, fun i hi => absurd hi (Nat.not_lt_zero i)⟩
    rcases mkT_get l .nil t v hv with h | h
    · exact ⟨h1 (t, v) h, fun μ v' hr => by
        have hpv := List.all_eq_true.1 hp (t, v) h
        rw [plain_same hr hpv]; exact .plain hpv⟩
    · simp [T.gN, T.gZ, T.gS] at h
  · cases he

theorem Runs.seqObs {call : CallF} (hm : P.follows .mixedOrders = true) (hc : CallOk P call) {n : Nat} {c1 c2 : Code} {af : AF} {Q : AExit → AF → Prop} (l : List (Nat × Value)) {sz : Nat}
    (he : obs (l.map (·.1)) (execA P call n c1 af) = some (.normal, l.map (fun p => some p.2), sz)) (hp : (l.all fun p => plainV p.2) = true) (h : Runs P 0 c2 (st l sz) Q) : Runs P 0 (.seq c1 c2) af Q := by
  obtain ⟨af', h1, h2⟩ := obs_less he hp
  exact Runs.seq (Runs.eval hm hc (Nat.zero_le _) h1 (h.less h2))

def okRun (P : Program) (fn : Func) (r : Option (AExit × AF)) (v : Value) : Bool :=
  match r with
  | some (.normal, af) | some (.ret, af) => match resultsA P af.tm af.h fn.results.toList with
    | some vs => veq 10 (pack vs) v
    | none => false
  | _ => false

def EndsAs (P : Program) (fn : Func) (R : Value → AH → Prop) (x : AExit) (af' : AF) : Prop :=
  (x = .normal ∨ x = .ret) ∧ ∃ vs, resultsA P af'.tm af'.h fn.results.toList = some vs ∧ R (pack vs) af'.h

theorem Runs.last {call : CallF} (hm : P.follows .mixedOrders = true) (hc : CallOk P call) {n k : Nat} {fn : Func} {c : Code} {af : AF} {v : Value} (hk : k ≤ af.h.next)
    (he : okRun P fn (execA P call n c af) v = true) : Runs P k c af (EndsAs P fn fun v' _ => v' = v) := by
  unfold okRun at he
  split at he
  · rename_i af' h1
    split at he
    · rename_i vs h2
      exact Runs.eval hm hc hk h1 ⟨.inl rfl, vs, h2, veq_sound _ _ _ he⟩
    · cases he
  · rename_i af' h1
    split at he
    · rename_i vs h2
      exact Runs.eval hm hc hk h1 ⟨.inr rfl, vs, h2, veq_sound _ _ _ he⟩
    · cases he
  · cases he

/-! ### Contracts by number -/
def numH (f : FuncId) (g : List Value → Option Value) : Hook := fun f' args h =>
  if Nat.beq f' f then (match g args with
    | some v => some (some (v, h))
    | none => none) else none

theorem num_ok {f : FuncId} {g : List Value → Option Value} (L : ∀ args v, g args = some v → (∀ a ∈ args, plainV a = true) ∧ flatV v = true ∧ Local P 0 f args AH.empty fun v' _ => v' = v) : HookOk P (numH f g) := by
  intro f' args h v h' he F w0 μ w args' H hl
  unfold numH at he
  by_cases h1 : Nat.beq f' f = true
  · simp only [h1, if_true] at he
    cases hg : g args with
    | none => rw [hg] at he; cases he
    | some u =>
      rw [hg] at he
      simp only [Option.some.injEq, Prod.mk.injEq] at he
      obtain ⟨rfl, rfl⟩ := he
      have := Nat.eq_of_beq_eq_true h1
      subst this
      obtain ⟨q1, q2, q3⟩ := L args u hg
      exact q3.closed q1 q2 h H hl
  · simp [h1] at he

theorem local_call {call : CallF} (hc : CallOk P call) {k : Nat} {f : FuncId} {args : List Value} {h h' : AH} {v : Value} (hk : k ≤ h.next) (he : call f args h = some (v, h')) :
    Local P k f args h fun v' h'' => v' = v ∧ h'' = h' := fun F w0 μ w args' H hl =>
  (hc f args h v h' he F w0 μ w args' H hl).mono fun v' w' ⟨μ', q1, q2, q3⟩ => ⟨v, h', ⟨rfl, rfl⟩, μ', q1, q2, .of_ext q3 hk⟩

theorem local_says {call : CallF} (hc : CallOk P call) {f : FuncId} {args : List Value} {v : Value} (he : says (call f args AH.empty) v = true) : Local P 0 f args AH.empty fun v' _ => v' = v := by
  unfold says at he
  split at he
  · rename_i u h' h1
    have := veq_sound _ _ _ he
    subst this
    exact fun F w0 μ w args' H hl => (local_call hc (Nat.zero_le _) h1 F w0 μ w args' H hl).mono fun v' w' ⟨v, h'', ⟨e, _⟩, r⟩ => ⟨v, h'', e, r⟩
  · cases he

def grid2 (A B : Nat) (val : Nat → Nat → Option Value) : List Value → Option Value := fun args =>
  match args with
  | [.int .i64 (.ofNat a), .int .i64 (.ofNat b)] => if Nat.blt a A then (if Nat.blt b B then val a b else none) else none
  | _ => none

def row2 (call : CallF) (f : FuncId) (B : Nat) (val : Nat → Nat → Option Value) (a : Nat) : Bool :=
  (List.range B).all fun b => match val a b with
    | some v => flatV v && says (call f [.int .i64 (.ofNat a), .int .i64 (.ofNat b)] AH.empty) v
    | none => true

theorem grid2_ok {call : CallF} (hc : CallOk P call) {f : FuncId} {A B : Nat} {val : Nat → Nat → Option Value} (h : ∀ a, a < A → row2 call f B val a = true) : HookOk P (numH f (grid2 A B val)) := by
  refine num_ok fun args v hg => ?_
  unfold grid2 at hg
  split at hg
  · rename_i a b
    by_cases ha : Nat.blt a A = true
    · by_cases hb : Nat.blt b B = true
      · simp only [ha, hb, if_true] at hg
        have h1 := h a (blt_lt ha)
        simp only [row2, List.all_eq_true, List.mem_range] at h1
        have h2 := h1 b (blt_lt hb)
        simp only [hg, Bool.and_eq_true] at h2
        exact ⟨by simp [plainV], h2.1, local_says hc h2.2⟩
      · simp [ha, hb] at hg
    · simp [ha] at hg
  · cases hg

def grid3 (A B C : Nat) (val : Nat → Nat → Nat → Option Value) : List Value → Option Value := fun args =>
  match args with
  | [.int .i64 (.ofNat a), .int .i64 (.ofNat b), .int .i64 (.ofNat c)] => if Nat.blt a A then (if Nat.blt b B then (if Nat.blt c C then val a b c else none) else none) else none
  | _ => none

def row3 (call : CallF) (f : FuncId) (B C : Nat) (val : Nat → Nat → Nat → Option Value) (a : Nat) : Bool :=
  (List.range B).all fun b => (List.range C).all fun c => match val a b c with
    | some v => flatV v && says (call f [.int .i64 (.ofNat a), .int .i64 (.ofNat b), .int .i64 (.ofNat c)] AH.empty) v
    | none => true

theorem grid3_ok {call : CallF} (hc : CallOk P call) {f : FuncId} {A B C : Nat} {val : Nat → Nat → Nat → Option Value} (h : ∀ a, a < A → row3 call f B C val a = true) : HookOk P (numH f (grid3 A B C val)) := by
  refine num_ok fun args v hg => ?_
  unfold grid3 at hg
  split at hg
  · rename_i a b c
    by_cases ha : Nat.blt a A = true
    · by_cases hb : Nat.blt b B = true
      · by_cases hcc : Nat.blt c C = true
        · simp only [ha, hb, hcc, if_true] at hg
          have h1 := h a (blt_lt ha)
          simp only [row3, List.all_eq_true, List.mem_range] at h1
          have h2 := h1 b (blt_lt hb) c (blt_lt hcc)
          simp only [hg, Bool.and_eq_true] at h2
          exact ⟨by simp [plainV], h2.1, local_says hc h2.2⟩
        · simp [ha, hb, hcc] at hg
      · simp [ha, hb] at hg
    · simp [ha] at hg
  · cases hg

/-- All numbers below one, each by itself. -/
theorem all_lt {p : Nat → Bool} {n : Nat} (h : (List.range n).all p = true) : ∀ a, a < n → p a = true := fun a ha => List.all_eq_true.1 h a (List.mem_range.2 ha)

end
end
end Go.R
