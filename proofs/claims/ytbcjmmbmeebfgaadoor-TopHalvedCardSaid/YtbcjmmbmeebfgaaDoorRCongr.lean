/- What an operation reads, and what it leaves. -/
import Derived.Test.YtbcjmmbmeebfgaaDoorRMach
namespace Go.R
set_option linter.unusedVariables false
set_option linter.unusedSimpArgs false
open Go
noncomputable section

theorem mapM_congr {ρ ρ' : Operand → Option Value} : ∀ {l : List Operand}, (∀ x ∈ l, ρ x = ρ' x) → l.mapM ρ = l.mapM ρ'
  | [], _ => rfl
  | x :: l, h => by
    rw [List.mapM_cons, List.mapM_cons, h x (by simp), mapM_congr (l := l) fun y hy => h y (by simp [hy])]

theorem mapP_congr {ρ ρ' : Operand → Option Value} : ∀ {l : List (Nat × Operand)}, (∀ x ∈ l.map (·.2), ρ x = ρ' x) →
    l.mapM (fun p => (ρ p.2).map fun x => (p.1, x)) = l.mapM (fun p => (ρ' p.2).map fun x => (p.1, x))
  | [], _ => rfl
  | x :: l, h => by
    rw [List.mapM_cons, List.mapM_cons, h x.2 (by simp), mapP_congr (l := l) fun y hy => h y (by simp at hy ⊢; exact .inr hy)]

theorem optA_congr {ρ ρ' : Operand → Option Value} {x : Option Operand} (h : ∀ y, x = some y → ρ y = ρ' y) : optA ρ x = optA ρ' x := by
  cases x with
  | none => rfl
  | some y => simp only [optA, h y rfl]

theorem call_args_congr {ρ ρ' : Operand → Option Value} {c : Call} (h : ∀ x ∈ c.operands, ρ x = ρ' x) : c.args.toList.mapM ρ = c.args.toList.mapM ρ' :=
  mapM_congr fun x hx => h x (by simp at hx; simp [Call.operands, hx])

theorem opA_congr {P : Program} {ρ ρ' : Operand → Option Value} {o : Op} {hp : AH} (h : ∀ x ∈ o.operands, ρ x = ρ' x) : opA P ρ o hp = opA P ρ' o hp := by
  cases o <;> simp only [Op.operands] at h <;> simp only [opA]
  case build t ps => rw [mapP_congr (l := ps.toList) fun x hx => h x (by simpa using hx)]
  case buildSlice t n ps => rw [mapP_congr (l := ps.toList) fun x hx => h x (by simpa using hx)]
  case makeFunc fn first captured =>
    rw [mapM_congr (l := first.toList) fun x hx => h x (by simp at hx; simp [hx]), mapM_congr (l := captured.toList) fun x hx => h x (by simp at hx; simp [hx])]
  case makeMap t r => cases r <;> rfl
  case slice t x lo hi mx =>
    rw [h x (by simp), optA_congr (x := lo) fun y hy => h y (by simp [hy]), optA_congr (x := hi) fun y hy => h y (by simp [hy]), optA_congr (x := mx) fun y hy => h y (by simp [hy])]
  case call c =>
    obtain ⟨cal, args, tys⟩ := c
    cases cal with
    | builtin b => simp only [call_args_congr h]
    | value f => rfl
    | invoke r m => rfl
  all_goals (first | rfl | (simp_all; done))

theorem callee_congr {P : Program} {ρ ρ' : Operand → Option Value} {c : Call} (h : ∀ x ∈ c.operands, ρ x = ρ' x) : callee? P ρ c = callee? P ρ' c := by
  unfold callee?
  cases hc : c.callee with
  | value f => simp only [h f (by simp [Call.operands, hc]), call_args_congr h]
  | invoke r m => simp only [h r (by simp [Call.operands, hc]), call_args_congr h]
  | builtin b => rfl

theorem stepA_congr {P : Program} {call : CallF} {ρ ρ' : Operand → Option Value} {o : Op} {hp : AH} (h : ∀ x ∈ o.operands, ρ x = ρ' x) :
    stepA P call ρ o hp = stepA P call ρ' o hp := by
  unfold stepA
  cases hc : callOp? o with
  | none => exact opA_congr h
  | some c =>
    have : o = .call c := by
      cases o <;> simp [callOp?] at hc
      rename_i c'
      split at hc <;> simp_all
    subst this
    simp only [callee_congr (c := c) h]

theorem veqL_sound {f : Value → Value → Bool} (hf : ∀ a b, f a b = true → a = b) : ∀ (l k : List Value), veqL f l k = true → l = k
  | [], [], _ => rfl
  | a :: l, b :: k, h => by
    simp only [veqL, Bool.and_eq_true] at h
    rw [hf a b h.1, veqL_sound hf l k h.2]
  | [], _ :: _, h => by simp [veqL] at h
  | _ :: _, [], h => by simp [veqL] at h

theorem aeq_sound {a b : Addr} (h : aeq a b = true) : a = b := by
  obtain ⟨a1, a2, a3⟩ := a
  obtain ⟨b1, b2, b3⟩ := b
  simp [aeq] at h
  simp [h]

theorem arr_eq {a b : Array Value} (h : a.toList = b.toList) : a = b := by
  cases a; cases b; simp at h; simp [h]

theorem veq_sound : ∀ (n : Nat) (a b : Value), veq n a b = true → a = b
  | 0, _, _, h => by simp [veq] at h
  | n + 1, a, b, h => by
    have ih := veq_sound n
    unfold veq at h
    split at h <;> (try simp only [Bool.and_eq_true, beq_iff_eq, decide_eq_true_eq] at h)
    · rw [h]
    · rw [h.1, h.2]
    · rw [h]
    · rfl
    · rw [aeq_sound h]
    · rw [h.1, h.2]
    · rw [aeq_sound h.1, h.2.1, h.2.2]
    · rw [h]
    · rfl
    · rfl
    · rw [h.1, ih _ _ h.2]
    · rw [h.1, arr_eq (veqL_sound ih _ _ h.2.1), arr_eq (veqL_sound ih _ _ h.2.2)]
    · rw [arr_eq (veqL_sound ih _ _ h)]
    · rw [arr_eq (veqL_sound ih _ _ h)]
    · cases h

theorem light_call {o : Op} (h : light o = true) : callOp? o = none := by
  cases o <;> simp [light, callOp?] at h ⊢
  split at h <;> simp_all

theorem light_stay {P : Program} {ρ : Operand → Option Value} {o : Op} {h h' : AH} {v : Value} (hl : light o = true) (hv : opA P ρ o h = some (v, h')) : h' = h := by
  have vq : ∀ {r : Option Value}, r.map (·, h) = some (v, h') → h' = h := by
    intro r hr; rw [Option.map_eq_some_iff] at hr; obtain ⟨u, h1, h2⟩ := hr; cases h2; rfl
  cases o <;> simp only [light, Bool.false_eq_true] at hl <;> simp only [opA] at hv
  case call c =>
    obtain ⟨cal, args, tys⟩ := c
    cases cal with
    | builtin b =>
      simp only at hv hl
      split at hv
      · unfold builtinA at hv
        split at hv <;> first | (simp at hl; done) | exact vq hv | (cases hv; done)
      · cases hv
    | value f => simp at hl
    | invoke r m => simp at hl
  all_goals (repeat' split at hv)
  all_goals first | exact vq hv | (cases hv; done) | (cases hv; rfl)

theorem pure_op {P : Program} {ρ : Operand → Option Value} {o : Op} {h h' : AH} {v : Value} (hl : pureOp P o = true) (hv : opA P ρ o h = some (v, h')) (h2 : AH) : opA P ρ o h2 = some (v, h2) := by
  have vq : ∀ {r : Option Value}, r.map (·, h) = some (v, h') → r.map (·, h2) = some (v, h2) := by
    intro r hr; rw [Option.map_eq_some_iff] at hr ⊢; obtain ⟨u, h1, h2⟩ := hr; cases h2; exact ⟨v, h1, rfl⟩
  cases o <;> simp only [pureOp, Bool.false_eq_true] at hl <;> simp only [opA] at hv ⊢
  case call c =>
    obtain ⟨cal, args, tys⟩ := c
    cases cal with
    | builtin b =>
      try simp only at hv
      try simp only at hl
      try simp only
      split at hv
      · rename_i l hl2
        try simp only [hl2]
        unfold builtinA at hv ⊢
        split at hl
        · rename_i e; cases e; exact vq hv
        · rename_i e; cases e; exact vq hv
        · cases hl
      · cases hv
    | value f => simp at hl
    | invoke r m => simp at hl
  case convert src dst x =>
    split at hv
    · rename_i y hy
      try simp only [hy]
      split at hl
      · rename_i k hk
        unfold convertA at hv ⊢
        simp only [hk] at hv ⊢
        split at hv <;> simp_all
      · rename_i hk
        unfold convertA at hv ⊢
        simp only [hk] at hv ⊢
        split at hv <;> simp_all
      · cases hl
    · cases hv
  all_goals (repeat' split at hv)
  all_goals first | exact vq hv | (cases hv; done) | (simp_all; done)

end
end Go.R
