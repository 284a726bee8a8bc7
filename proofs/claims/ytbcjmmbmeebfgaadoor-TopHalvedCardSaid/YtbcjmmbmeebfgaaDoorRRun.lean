/- Code and calls: what the machine answers, the model answers. -/
import Derived.Test.YtbcjmmbmeebfgaaDoorREach3
namespace Go.R
set_option linter.unusedVariables false
set_option linter.unusedSimpArgs false
open Go Go.RowKit
noncomputable section

section
variable {P : Program} {F : Nat → Prop} {w0 : World} {call : CallF}

theorem exec_ok (hm : P.follows .mixedOrders = true) (hc : CallOk P call) {F : Nat → Prop} {w0 : World} : ∀ (n : Nat) (c : Code) (af af' : AF) (x : AExit) (μ : Mp) (a : Act) (w : World),
    execA P call n c af = some (x, af') → AR F w0 μ af a w → Wp P c (Post F w0 μ af.h a.defers x af') a w
  | 0, c, af, af', x, μ, a, w, he, R => by simp [execA] at he
  | n + 1, c, af, af', x, μ, a, w, he, R => by
    have ih := exec_ok (F := F) (w0 := w0) hm hc n
    have here : Onward F w0 μ af.h a.defers af a w := ⟨μ, R, Ext.refl μ _, rfl⟩
    cases c with
    | skip => simp only [execA, Option.some.injEq, Prod.mk.injEq] at he; obtain ⟨rfl, rfl⟩ := he; exact wp_skip ⟨rfl, here⟩
    | label l => simp only [execA, Option.some.injEq, Prod.mk.injEq] at he; obtain ⟨rfl, rfl⟩ := he; exact wp_label ⟨rfl, here⟩
    | exit id => simp only [execA, Option.some.injEq, Prod.mk.injEq] at he; obtain ⟨rfl, rfl⟩ := he; exact wp_exit ⟨rfl, here⟩
    | ret => simp only [execA, Option.some.injEq, Prod.mk.injEq] at he; obtain ⟨rfl, rfl⟩ := he; exact wp_ret ⟨rfl, here⟩
    | region id ops draw =>
      simp only [execA] at he
      split at he
      · rename_i a2 hr
        cases he
        exact region_ok hm hc hr R fun a' w' h => ⟨rfl, h⟩
      · cases he
    | seq c1 c2 =>
      simp only [execA] at he
      split at he
      · rename_i ops H hf
        exact each_ok hc (fun c af af' x F w0 μ a w hx hR => (exec_ok (F := F) (w0 := w0) hm hc n c af af' x μ a w hx hR).wp) (fun W c af af' x hl hx => lit_exec n c af af' x hl hx) hf he R
      refine wp_seq ?_
      split at he
      · rename_i a1 h1
        refine wp_mono (ih c1 af a1 .normal μ a w h1 R).wp fun e a' w' hp => ?_
        cases e <;> simp only [Post] at hp
        · obtain ⟨_, μ1, r1, r2, r3⟩ := hp
          exact wp_mono (ih c2 a1 af' x μ1 a' w' he r1).wp fun e a'' w'' q => q.trans r2 r3
        · cases hp.1
        · cases hp.1
      · rename_i h1
        refine wp_mono (ih c1 af af' x μ a w he R).wp fun e a' w' hp => ?_
        cases e <;> simp only [Post] at hp
        · obtain ⟨rfl, _⟩ := hp
          exact absurd he (h1 _)
        · exact hp
        · exact hp
    | cond v t e =>
      simp only [execA] at he
      split at he
      · rename_i hv
        exact wp_cond_true ((evalA_ok R.tm (fun _ _ => trivial) hv).bool_inv) (ih t af af' x μ a w he R).wp
      · rename_i hv
        exact wp_cond_false ((evalA_ok R.tm (fun _ _ => trivial) hv).bool_inv) (ih e af af' x μ a w he R).wp
      · cases he
    | block id body =>
      simp only [execA] at he
      refine wp_block ?_
      split at he
      · rename_i id' a1 h1
        refine wp_mono (ih body af a1 (.exit id') μ a w h1 R).wp fun e a' w' hp => ?_
        cases e <;> simp only [Post] at hp
        · cases hp.1
        · rename_i id''
          obtain ⟨e1, o⟩ := hp
          cases e1
          simp only [Exit.inBlock]
          split at he
          · rename_i hid
            cases he
            rw [if_pos hid]; exact ⟨rfl, o⟩
          · rename_i hid
            cases he
            rw [if_neg hid]; exact ⟨rfl, o⟩
        · cases hp.1
      · rename_i h1
        refine wp_mono (ih body af af' x μ a w he R).wp fun e a' w' hp => ?_
        cases e <;> simp only [Post] at hp
        · exact hp
        · obtain ⟨rfl, _⟩ := hp
          exact absurd he (h1 _ _)
        · exact hp
    | loop body =>
      simp only [execA] at he
      refine LoopWp.round ?_
      split at he
      · rename_i a1 h1
        refine wp_mono (ih body af a1 .normal μ a w h1 R).wp fun e a' w' hp => ?_
        cases e <;> simp only [Post] at hp
        · obtain ⟨_, μ1, r1, r2, r3⟩ := hp
          have := ih (.loop body) a1 af' x μ1 a' w' he r1
          intro b k cs
          obtain ⟨e, a2, w2, q1, q2⟩ := this b k cs
          exact ⟨e, a2, w2, q1.trans r2 r3, q2⟩
        · cases hp.1
        · cases hp.1
      · rename_i h1
        refine wp_mono (ih body af af' x μ a w he R).wp fun e a' w' hp => ?_
        cases e <;> simp only [Post] at hp
        · obtain ⟨rfl, _⟩ := hp
          exact absurd he (h1 _)
        · exact hp
        · exact hp
    | scope body =>
      simp only [execA] at he
      refine wp_scope_straight (wp_mono (ih body af af' x μ a w he R).wp fun e a' w' hp => ?_)
      cases e <;> simp only [Post] at hp <;> exact hp
    | goto l => cases he
    | rangeFunc f ps a b => cases he
    | refuse why => cases he

theorem initTm_get : ∀ (l : List Value) (i : Nat) (t : T Value) (k : Nat), (initTm l i t).get k = if i ≤ k ∧ k < i + l.length then l[k - i]? else t.get k
  | [], i, t, k => by simp only [initTm, List.length_nil]; rw [if_neg (by omega)]
  | v :: l, i, t, k => by
    simp only [initTm, initTm_get l (i + 1), List.length_cons, T.get_set']
    by_cases h1 : k = i
    · subst h1
      rw [if_neg (by omega), if_pos rfl, if_pos (by omega)]; simp
    · by_cases h2 : i + 1 ≤ k ∧ k < i + 1 + l.length
      · rw [if_pos h2, if_pos (by omega)]
        have : k - i = (k - (i + 1)) + 1 := by omega
        rw [this, List.getElem?_cons_succ]
      · rw [if_neg h2, if_neg h1, if_neg (by omega)]

def resVar (tmps : Array Value) : ResultVar → Sem Value
  | .tmp t => pure (tmps.getD t undef)
  | .cell a t => do loadVar t (← asAddr (tmps.getD a undef))

theorem results_eq (fn : Func) (tmps : Array Value) : results fn tmps = (do
    let vs ← fn.results.mapM (resVar tmps)
    pure (if h : vs.size = 1 then vs[0] else .tuple vs)) := by
  unfold results
  congr 1

theorem results_ok {μ : Mp} {h : AH} {w : World} (H : HR F w0 μ h w) {tm : T Value} {tmps : Array Value} (R : TR μ tm tmps (fun _ => True)) :
    ∀ (l : List ResultVar) (vs : List Value), resultsA P tm h l = some vs →
    ∃ vs', (l.mapM (resVar tmps)).run P w = .ok vs' w ∧ LR μ vs vs'
  | [], vs, he => by
    simp only [resultsA, Option.some.injEq] at he; subst he
    exact ⟨[], by simp, LR.nil⟩
  | .tmp t :: l, vs, he => by
    simp only [resultsA] at he
    split at he
    · rename_i v vs1 ht h1
      cases he
      obtain ⟨vs', q1, q2⟩ := results_ok H R l vs1 h1
      exact ⟨_ :: vs', by rw [List.mapM_cons]; simp only [resVar, pure_bind, Sem.run_bind, q1, Result.andThen_ok, Sem.run_pure], LR.cons (R t trivial v ht) q2⟩
    · cases he
  | .cell t ty :: l, vs, he => by
    simp only [resultsA] at he
    split at he
    · rename_i i o vs1 ht h1
      rw [Option.map_eq_some_iff] at he
      obtain ⟨v, hv, rfl⟩ := he
      obtain ⟨vs', q1, q2⟩ := results_ok H R l vs1 h1
      have hr := R t trivial _ ht
      obtain ⟨v', r1, r2⟩ := load_ok (P := P) H hv hr
      obtain ⟨b, z, e, hi, hx⟩ := hr.ptr_inv
      refine ⟨v' :: vs', ?_, LR.cons r2 q2⟩
      rw [hx] at r1
      simp only [Instr.loadAt, Instr.sureAddr, pure_bind] at r1
      rw [List.mapM_cons]
      have e1 : resVar tmps (.cell t ty) = loadVar ty ⟨b, z + o, none⟩ := by simp only [resVar, hx, asAddr, pure_bind]
      simp only [e1, Sem.run_bind, r1, Result.andThen_ok, q1, Sem.run_pure]
    · cases he

theorem body_ok (hm : P.follows .mixedOrders = true) (hc : CallOk P call) {n : Nat} {f : FuncId} {fn : Func} {c : Code} (hf : P.funcs[f]? = some fn) (hb : fn.body = some c)
    {args : List Value} {h h' : AH} {v : Value} (he : bodyA P call n fn c args h = some (v, h')) {μ : Mp} {w : World} {args' : Array Value} (H : HR F w0 μ h w) (hl : LR μ args args'.toList) :
    Calls P f args' w fun e w' => ∃ v', e = .returned v' ∧ ∃ μ', VR μ' v v' ∧ HR F w0 μ' h' w' ∧ Ext μ μ' h h' := by
  have hlen : args.length = args'.size := by have := hl.1; simpa using this
  have R : AR F w0 μ { tm := initTm args 0 .nil, sz := args.length + (fn.ntmps - args.length), h := h } { tmps := args' ++ Array.replicate (fn.ntmps - args'.size) undef, defers := [] } w := by
    refine ⟨H, fun t _ u hu => ?_, by simp [hlen]⟩
    simp only [initTm_get, Nat.zero_le, Nat.zero_add, true_and, Nat.sub_zero] at hu
    simp only [Array.getD_eq_getD_getElem?]
    by_cases ht : t < args.length
    · rw [if_pos ht] at hu
      rw [Array.getElem?_append_left (by omega)]
      obtain ⟨v', q1, q2⟩ := hl.at_ hu
      rw [← Array.getElem?_toList, q1]
      exact q2
    · rw [if_neg ht] at hu
      cases hu
  have fin : ∀ (x : AExit) (af' : AF), (match (resultsA P af'.tm af'.h fn.results.toList : Option (List Value)) with
      | some [v] => some (v, af'.h)
      | some vs => some (.tuple vs.toArray, af'.h)
      | none => none) = some (v, h') → ∀ a' w', Onward F w0 μ h [] af' a' w' →
      a'.defers = [] ∧ ∃ v', (results fn a'.tmps).run P w' = .ok v' w' ∧ ∃ v'', Ending.returned v' = .returned v'' ∧ ∃ μ', VR μ' v v'' ∧ HR F w0 μ' h' w' ∧ Ext μ μ' h h' := by
    intro x af' hr a' w' ⟨μ', r1, r2, r3⟩
    refine ⟨r3, ?_⟩
    cases hres : resultsA P af'.tm af'.h fn.results.toList with
    | none => rw [hres] at hr; cases hr
    | some vs =>
      obtain ⟨vs', q1, q2⟩ := results_ok (P := P) r1.heap r1.tm _ _ hres
      have hrun : (results fn a'.tmps).run P w' = .ok (if h : vs'.toArray.size = 1 then vs'.toArray[0] else .tuple vs'.toArray) w' := by
        rw [results_eq, Array.mapM_eq_mapM_toList]
        simp only [bind_pure_comp, Sem.run_bind, Sem.run_map, q1, Result.andThen_ok, Sem.run_pure]
      refine ⟨_, hrun, _, rfl, μ', ?_⟩
      rw [hres] at hr
      match vs, hr, q2 with
      | [x], hr, q2 =>
        cases hr
        obtain ⟨y, e, hy⟩ := q2.one rfl
        subst e
        exact ⟨by simpa using hy, r1.heap, r2⟩
      | [], hr, q2 =>
        cases hr
        have : vs' = [] := List.eq_nil_of_length_eq_zero q2.1.symm
        subst this
        exact ⟨VR.tuple_of q2, r1.heap, r2⟩
      | x :: y :: l, hr, q2 =>
        cases hr
        have : vs'.toArray.size ≠ 1 := by have := q2.1; simp at this ⊢; omega
        rw [dif_neg this]
        exact ⟨VR.tuple_of (by simpa using q2), r1.heap, r2⟩
  refine calls_of_wp hf hb ?_
  unfold bodyA at he
  split at he
  · rename_i af' h1
    refine wp_mono (exec_ok hm hc n c _ af' .normal μ _ w h1 R).wp fun e a' w' hp => ?_
    cases e <;> simp only [Post] at hp
    · exact fin .normal af' he a' w' hp.2
    · cases hp.1
    · cases hp.1
  · rename_i af' h1
    refine wp_mono (exec_ok hm hc n c _ af' .ret μ _ w h1 R).wp fun e a' w' hp => ?_
    cases e <;> simp only [Post] at hp
    · cases hp.1
    · cases hp.1
    · exact fin .ret af' he a' w' hp.2
  · cases he

def HookOk (P : Program) (hk : Hook) : Prop := CallOk P fun f args h => match hk f args h with | some r => r | none => none

def NoNum (P : Program) : Prop := ∀ (f : FuncId) fn, P.funcs[f]? = some fn → (fn.name == "runtime.NumGoroutine") = false

theorem enters (hn : NoNum P) {f : FuncId} {fn : Func} {c : Code} (hf : P.funcs[f]? = some fn) (hb : fn.body = some c) (args : Array Value) (w : World) :
    (callFunc f args).run P w = .ok (.enter f args) w := by
  unfold callFunc
  have := hn f fn hf
  simp only [beq_eq_false_iff_ne, ne_eq] at this
  simp [hf, hb, this]

theorem call_ok (hm : P.follows .mixedOrders = true) (hn : NoNum P) {hk : Hook} (hh : HookOk P hk) : ∀ n, CallOk P (callA P hk n)
  | 0 => fun f args h v h' he => by simp [callA] at he
  | n + 1 => fun f args h v h' he F w0 μ w args' H hl => by
    unfold callA at he
    split at he
    · rename_i r hr
      exact hh f args h v h' (by simp only [hr]; exact he) F w0 μ w args' H hl
    · split at he
      · cases he
      · rename_i fn hf
        split at he
        · cases he
        · rename_i c hb
          exact .inl ⟨enters hn hf hb args' w, body_ok hm (call_ok hm hn hh n) hf hb he H hl⟩

end
end
end Go.R
