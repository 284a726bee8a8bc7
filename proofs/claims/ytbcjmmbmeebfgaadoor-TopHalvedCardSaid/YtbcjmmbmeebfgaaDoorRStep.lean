/- One operation, proved against the model. -/
import Derived.Test.YtbcjmmbmeebfgaaDoorRExec
import Derived.Test.YtbcjmmbmeebfgaaDoorRCongr
namespace Go.R
set_option linter.unusedVariables false
set_option linter.unusedSimpArgs false
open Go Go.RowKit

def Goes (P : Program) (f : FuncId) (args : Array Value) (w : World) (R : Value → World → Prop) : Prop :=
  ((callFunc f args).run P w = .ok (.enter f args) w ∧ Calls P f args w fun e w' => ∃ v, e = .returned v ∧ R v w') ∨
  (∃ v w', (callFunc f args).run P w = .ok (.value v) w' ∧ R v w')

theorem Goes.mono {P : Program} {f : FuncId} {args : Array Value} {w : World} {R R' : Value → World → Prop} (h : Goes P f args w R) (hr : ∀ v w', R v w' → R' v w') : Goes P f args w R' := by
  rcases h with ⟨h1, h2⟩ | ⟨v, w', h1, h2⟩
  · exact .inl ⟨h1, Calls.mono h2 fun e w' ⟨v, hv, r⟩ => ⟨v, hv, hr _ _ r⟩⟩
  · exact .inr ⟨v, w', h1, hr _ _ h2⟩

def CallOk (P : Program) (call : CallF) : Prop :=
  ∀ (f : FuncId) (args : List Value) (h : AH) (v : Value) (h' : AH), call f args h = some (v, h') →
    ∀ (F : Nat → Prop) (w0 : World) (μ : Mp) (w : World) (args' : Array Value), HR F w0 μ h w → LR μ args args'.toList →
      Goes P f args' w fun v' w' => ∃ μ', VR μ' v v' ∧ HR F w0 μ' h' w' ∧ Ext μ μ' h h'

section
variable {P : Program} {F : Nat → Prop} {w0 : World} {μ : Mp} {h : AH} {w : World}

theorem callOp_spec {o : Op} {c : Call} (h : callOp? o = some c) : o = .call c := by
  cases o <;> simp [callOp?] at h
  rename_i c'
  split at h <;> simp_all

theorem dispatch_run {t : TypeId} {m : String} {f : FuncId} (h : dispatchA P t m = some f) (n : Nat) (v : Value) : (method (n + 1) t v m).run P w = .ok (f, v) w := by
  unfold dispatchA at h
  split at h
  · cases h
  · rename_i info d hno hi hd
    split at h
    · rename_i row hrow
      split at h
      · rename_i f0 hp hf
        cases h
        unfold method
        simp only [Sem.run_bind, run_info hi, Result.andThen_ok, hrow, hp, Go.follow, Sem.run_pure, hf]
        have hr : ∀ wr, (receiverAt t (.val v) false wr).run P w = .ok v w := by
          intro wr
          unfold receiverAt
          cases d <;> first | exact (hno _ rfl).elim | simp [run_under hd, Place.get]
        simp [hr]
      · cases h
    · cases h
  · cases h

/-- A call of a function, as the model runs it. -/
theorem callee_run {o : Oper} {c : Call} {a : Act} {ρ : Operand → Option Value} {f : FuncId} {args : List Value} (ho : o.op = .call c) (hq : callee? P ρ c = some (f, args))
    (hr : ∀ x v, ρ x = some v → VR μ v (a.eval x)) : ∃ args' : Array Value, LR μ args args'.toList ∧ (execOp a.eval o).run P w = (callFunc f args').run P w := by
  unfold callee? at hq
  split at hq
  · rename_i fv hfv
    split at hq
    · rename_i f0 first captured args0 hf0 ha0
      cases hq
      obtain ⟨f', c', e1, l1, l2⟩ := (hr _ _ hf0).func_inv
      have l3 : LR μ args0 (c.args.map a.eval).toList := by rw [Array.toList_map]; exact mapM_rel hr _ _ ha0
      refine ⟨(f' ++ c.args.map a.eval) ++ c', by simp only [Array.toList_append]; exact (l1.append l3).append l2, ?_⟩
      simp only [execOp, ho, resolve, hfv, e1, Deferred.ofValue, pure_bind, invoke]
    · cases hq
  · rename_i r m hrm
    split at hq
    · rename_i t v args0 hv0 ha0
      split at hq
      · rename_i f0 hd
        cases hq
        obtain ⟨v', e1, l1⟩ := (hr _ _ hv0).iface_inv
        have l3 : LR μ args0 (c.args.map a.eval).toList := by rw [Array.toList_map]; exact mapM_rel hr _ _ ha0
        refine ⟨#[v'] ++ c.args.map a.eval, by simp only [Array.toList_append]; exact LR.cons l1 l3, ?_⟩
        have ex : (#[Value.iface t v'] ++ c.args.map a.eval).extract 1 (#[Value.iface t v'] ++ c.args.map a.eval).size = c.args.map a.eval := by
          apply Array.ext'
          simp only [Array.toList_extract, List.extract_eq_take_drop, Array.toList_append]
          simp
          rw [List.take_of_length_le (by simp)]
        have e0 : (#[Value.iface t v'] ++ c.args.map a.eval)[0]? = some (Value.iface t v') := by
          rw [Array.getElem?_append_left (by simp)]; rfl
        have hd' : ∀ n : Nat, n ≠ 0 → (method n t v' m).run P w = .ok (f, v') w := fun n hn => by
          obtain ⟨k, rfl⟩ := Nat.exists_eq_succ_of_ne_zero hn
          exact dispatch_run hd k v'
        simp only [execOp, ho, resolve, hrm, e1, pure_bind, invoke, e0, ex, callMethod]
        have hp : (program).run P w = .ok P w := rfl
        simp only [Sem.run_bind, hp, Result.andThen_ok, hd' _ (by simp [Made.depth] : P.types.size + Made.depth ≠ 0)]
      · cases hq
    · cases hq
  · cases hq

theorem step_ok {call : CallF} (hc : CallOk P call) (H : HR F w0 μ h w) {o : Oper} {a : Act} {ρ : Operand → Option Value}
    (hρ : ∀ x ∈ o.op.operands, ∀ v, ρ x = some v → VR μ v (a.eval x)) {v : Value} {h' : AH} (hv : stepA P call ρ o.op h = some (v, h'))
    {next : Act → World → Prop} {Q : Exit → Act → World → Prop}
    (K : ∀ μ' v' w', VR μ' v v' → HR F w0 μ' h' w' → Ext μ μ' h h' → next (a.put o.dst v') w') : o.wp P a w next Q := by
  classical
  obtain ⟨ρ1, hρ1⟩ : ∃ ρ1 : Operand → Option Value, ρ1 = fun x => if x ∈ o.op.operands then ρ x else none := ⟨_, rfl⟩
  have e : stepA P call ρ1 o.op h = some (v, h') := by
    rw [← hv]; exact stepA_congr fun x hx => by simp [hρ1, hx]
  have hr : ∀ x v, ρ1 x = some v → VR μ v (a.eval x) := by
    intro x v hx
    subst hρ1
    by_cases hm : x ∈ o.op.operands
    · simp only [hm, if_true] at hx; exact hρ x hm v hx
    · simp [hm] at hx
  unfold stepA at e
  cases hcall : callOp? o.op with
  | none =>
    rw [hcall] at e
    obtain ⟨μ', w', r, v', h1, h2, h3, h4, h5⟩ := opA_ok H hr e
    unfold Oper.wp
    rw [h1]
    rcases h2 with rfl | ⟨rfl, rfl⟩
    · exact K _ _ _ h3 h4 h5
    · exact K _ _ _ h3 h4 h5
  | some c =>
    rw [hcall] at e
    have ho := callOp_spec hcall
    simp only at e
    cases hq : callee? P ρ1 c with
    | none => rw [hq] at e; cases e
    | some fa =>
      obtain ⟨f, args⟩ := fa
      rw [hq] at e
      simp only at e
      obtain ⟨as', l, ex⟩ := callee_run (w := w) (a := a) ho hq hr
      have G := hc _ _ _ _ _ e F w0 μ w as' H l
      unfold Oper.wp
      rw [ex]
      rcases G with ⟨g1, g2⟩ | ⟨v', w', g1, μ', q1, q2, q3⟩
      · rw [g1, Oper.upon_enter]
        refine Calls.mono g2 fun e' w' hh => ?_
        obtain ⟨v', rfl, μ', q1, q2, q3⟩ := hh
        exact K _ _ _ q1 q2 q3
      · rw [g1]
        exact K _ _ _ q1 q2 q3

/-! ### Places -/
def TR (μ : Mp) (tm : T Value) (tmps : Array Value) (d : Nat → Prop) : Prop := ∀ t, d t → ∀ v, tm.get t = some v → VR μ v (tmps.getD t undef)

theorem evalA_ok {tm : T Value} {a : Act} {d : Nat → Prop} (h : TR μ tm a.tmps d) {x : Operand} (hx : ∀ t, x = .tmp t → d t) {v : Value} (hv : evalA tm x = some v) : VR μ v (a.eval x) := by
  cases x with
  | tmp t => exact h t (hx t rfl) v hv
  | const c =>
    simp only [evalA] at hv
    split at hv
    · cases hv; exact .plain ‹_›
    · cases hv
  | global g => cases hv
  | func f => cases hv; exact VR.func_of LR.nil LR.nil

theorem vr_bool {v : Value} {b : Bool} (h : VR μ v (.bool b)) : v = .bool b := by cases h; rfl

theorem yield_ok {tm : T Value} {tmps : Array Value} {d : Nat → Prop} (h : TR μ tm tmps d) {ops : Array Oper} {j : Nat} (hd : ∀ t, (ops[j]?).bind (·.dst) = some t → d t)
    {r : Option Bool} (hy : yieldA ops tm j = some r) : yielded ops tmps j = r := by
  unfold yieldA at hy
  unfold yielded
  cases ho : (ops[j]?).bind (·.dst) with
  | none => rw [ho] at hy; cases hy; rfl
  | some t =>
    rw [ho] at hy
    simp only [Option.bind_some] at hy ⊢
    cases hg : tm.get t with
    | none => rw [hg] at hy; cases hy
    | some v =>
      have this := h t (hd t ho) v hg
      rw [hg] at hy
      cases ht : tmps[t]? with
      | none =>
        have e : tmps.getD t undef = undef := by simp [Array.getD_eq_getD_getElem?, ht]
        rw [e] at this
        cases v <;> first | (cases hy; rfl) | cases this
      | some x =>
        have e : tmps.getD t undef = x := by simp [Array.getD_eq_getD_getElem?, ht]
        rw [e] at this
        cases v with
        | bool b => rw [this.bool_inv]; cases hy; rfl
        | _ =>
          cases hy
          cases x with
          | bool b => have := vr_bool this; cases this
          | _ => rfl

theorem wanted_ok {tm : T Value} {tmps : Array Value} {d : Nat → Prop} (h : TR μ tm tmps d) {ops : Array Oper} {o : Oper} (hd : ∀ t ∈ o.looksAt ops, d t)
    {b : Bool} (hw : wantedA ops tm o = some b) : Region.wanted o (yielded ops tmps) = b := by
  unfold wantedA at hw
  unfold Region.wanted
  cases hg : o.guard with
  | none => rw [hg] at hw; cases hw; rfl
  | some g =>
    obtain ⟨j, q⟩ := g
    rw [hg] at hw
    simp only [Option.map_eq_some_iff] at hw ⊢
    obtain ⟨r, h1, h2⟩ := hw
    rw [yield_ok h (fun t ht => hd t (List.mem_append_right _ (by simp [hg, ht]))) h1, h2]

theorem T.get_put (tm : T Value) (d : Nat) (v : Value) (t : Nat) : (tm.set d v).get t = if t = d then some v else tm.get t := T.get_set' tm d v t

theorem TR.put {tm : T Value} {a : Act} {d : Nat → Prop} {dst : Option Tmp} {h0 : AH} (h : TR μ tm a.tmps d) {v v' : Value} (hv : VR μ v v') {d' : Nat → Prop} (hb : ∀ t, a.tmps.size ≤ t → d t) (hd : ∀ t, d' t → d t ∨ dst = some t) :
    TR μ (AF.put ⟨tm, a.tmps.size, h0⟩ dst v h0).tm (a.put dst v').tmps d' := by
  intro t ht u hu
  cases dst with
  | none =>
    rcases hd t ht with h1 | h1
    · exact h t h1 u hu
    · cases h1
  | some k =>
    simp only [AF.put_def, Act.put, Nat.blt_eq] at hu ⊢
    by_cases hk : k < a.tmps.size
    · simp only [hk, if_true, T.get_put] at hu
      by_cases e : t = k
      · subst e
        simp only [if_true, Option.some.injEq] at hu
        subst hu
        simp [Array.getD_eq_getD_getElem?, hk, hv]
      · rcases hd t ht with h1 | h1
        · have := h t h1 u (by simpa [e] using hu)
          simp only [Array.getD_eq_getD_getElem?] at this ⊢
          rw [Array.getElem?_setIfInBounds_ne (Ne.symm e)]
          exact this
        · exact absurd (Option.some.inj h1).symm e
    · simp only [hk, if_false] at hu
      have h1 : d t := by
        rcases hd t ht with h1 | h1
        · exact h1
        · exact hb t ((Option.some.inj h1) ▸ Nat.le_of_not_lt hk)
      have := h t h1 u hu
      rw [Array.setIfInBounds_eq_of_size_le (Nat.le_of_not_lt hk)]
      exact this

end
end Go.R
