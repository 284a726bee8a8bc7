/- Regions: in their listed order, and in any order. -/
import Derived.Test.YtbcjmmbmeebfgaaDoorRStep
namespace Go.R
set_option linter.unusedVariables false
set_option linter.unusedSimpArgs false
open Go Go.RowKit

section
variable {P : Program} {F : Nat → Prop} {w0 : World}

structure AR (F : Nat → Prop) (w0 : World) (μ : Mp) (af : AF) (a : Act) (w : World) : Prop where
  heap : HR F w0 μ af.h w
  tm : TR μ af.tm a.tmps (fun _ => True)
  sz : af.sz = a.tmps.size

def Onward (F : Nat → Prop) (w0 : World) (μ : Mp) (h : AH) (D : List Deferred) (af : AF) (a : Act) (w : World) : Prop :=
  ∃ μ', AR F w0 μ' af a w ∧ Ext μ μ' h af.h ∧ a.defers = D

theorem TR.mono {μ μ' : Mp} (s : Sub μ μ') {tm : T Value} {tmps : Array Value} {d : Nat → Prop} (h : TR μ tm tmps d) : TR μ' tm tmps d := fun t ht v hv => (h t ht v hv).mono s

theorem AF.put_tm (a : AF) (dst : Option Tmp) (v : Value) (h h2 : AH) : (a.put dst v h).tm = (AF.put ⟨a.tm, a.sz, h2⟩ dst v h2).tm := by simp only [AF.put_def]; cases dst <;> rfl
theorem AF.put_sz (a : AF) (dst : Option Tmp) (v : Value) (h : AH) : (a.put dst v h).sz = a.sz := by simp only [AF.put_def]; cases dst <;> rfl
theorem AF.put_h (a : AF) (dst : Option Tmp) (v : Value) (h : AH) : (a.put dst v h).h = h := by simp only [AF.put_def]; cases dst <;> rfl
theorem Act.put_size (a : Act) (dst : Option Tmp) (v : Value) : (a.put dst v).tmps.size = a.tmps.size := by cases dst <;> simp [Act.put]
theorem Act.put_def (a : Act) (dst : Option Tmp) (v : Value) : (a.put dst v).defers = a.defers := by cases dst <;> rfl

theorem AR.put {μ μ' : Mp} {af : AF} {a : Act} {w w' : World} (R : AR F w0 μ af a w) {h' : AH} (E : Ext μ μ' af.h h') {v v' : Value} (hv : VR μ' v v') (H : HR F w0 μ' h' w') (dst : Option Tmp) :
    AR F w0 μ' (af.put dst v h') (a.put dst v') w' where
  heap := by rw [AF.put_h]; exact H
  tm := by
    rw [AF.put_tm af dst v h' h', R.sz]
    exact (R.tm.mono E.sub).put hv (fun _ _ => trivial) (fun _ _ => .inl trivial)
  sz := by rw [AF.put_sz, Act.put_size, R.sz]

theorem ops_ok {call : CallF} (hc : CallOk P call) {ops : Array Oper} {Q : Exit → Act → World → Prop} :
    ∀ (l : List Oper) (k : Nat) (af af' : AF) (hs : List AF) (μ : Mp) (a : Act) (w : World), (∀ i : Nat, l[i]? = ops[k + i]?) → opsL P call ops l af = some (af', hs) → AR F w0 μ af a w →
      (∀ a' w', Onward F w0 μ af.h a.defers af' a' w' → Q .normal a' w') → wpOps P ops Q (List.range' k l.length) a w
  | [], k, af, af', hs, μ, a, w, _, he, R, K => by
    simp only [opsL, Option.some.injEq, Prod.mk.injEq] at he
    obtain ⟨rfl, _⟩ := he
    exact K a w ⟨μ, R, Ext.refl μ _, rfl⟩
  | o :: l, k, af, af', hs, μ, a, w, hl, he, R, K => by
    have ho : ops[k]? = some o := by have := hl 0; simpa using this.symm
    have hl' : ∀ i : Nat, l[i]? = ops[k + 1 + i]? := fun i => by
      have := hl (i + 1)
      rw [List.getElem?_cons_succ] at this
      rw [this]; congr 1; omega
    simp only [List.length_cons, List.range'_succ, wpOps, ho]
    simp only [opsL] at he
    split at he
    · rename_i hwant
      have hw := wanted_ok (o := o) (ops := ops) R.tm (fun _ _ => trivial) hwant
      simp only [hw, if_true]
      split at he
      · rename_i v h' hs'
        split at he
        · rename_i a2 hs2 hrec
          cases he
          refine .inl (step_ok hc R.heap (fun x _ v hv => evalA_ok R.tm (fun _ _ => trivial) hv) hs' fun μ' v' w' q1 q2 q3 => ?_)
          refine ops_ok hc l (k + 1) _ _ _ μ' _ w' hl' hrec (R.put q3 q1 q2 o.dst) fun a' w'' ⟨μ2, r1, r2, r3⟩ => K a' w'' ⟨μ2, r1, ?_, ?_⟩
          · rw [AF.put_h] at r2; exact q3.trans r2
          · rw [r3, Act.put_def]
        · cases he
      · cases he
    · rename_i hwant
      have hw := wanted_ok (o := o) (ops := ops) R.tm (fun _ _ => trivial) hwant
      simp only [hw]
      split at he
      · rename_i a2 hs2 hrec
        cases he
        refine ops_ok hc l (k + 1) _ _ _ μ _ w hl' hrec (R.put (Ext.refl μ _) VR.undef R.heap o.dst) fun a' w'' ⟨μ2, r1, r2, r3⟩ => K a' w'' ⟨μ2, r1, ?_, ?_⟩
        · rw [AF.put_h] at r2; exact r2
        · rw [r3, Act.put_def]
      · cases he
    · cases he

/-- What an operation did, as far as it was wanted. -/
def Did (P : Program) (call : CallF) (ops : Array Oper) (tm : T Value) (o : Oper) (h : AH) (v : Value) (h' : AH) : Prop :=
  (wantedA ops tm o = some true ∧ stepA P call (evalA tm) o.op h = some (v, h')) ∨ (wantedA ops tm o = some false ∧ v = undef ∧ h' = h)

/-! ### What the listed order tells -/
structure Traced (P : Program) (call : CallF) (ops : Array Oper) (l : List Oper) (a a' : AF) (hs : List AF) : Prop where
  sz : a'.sz = a.sz
  first : hs[0]? = some a
  last : hs[l.length]? = some a'
  keep : ∀ t, (∀ (j : Nat) p, l[j]? = some p → p.dst ≠ some t) ∨ a.sz ≤ t → a'.tm.get t = a.tm.get t
  at_ : ∀ (i : Nat) o, l[i]? = some o → ∃ ai : AF, hs[i]? = some ai ∧ (∀ t, (∀ (j : Nat) p, i ≤ j → l[j]? = some p → p.dst ≠ some t) → a'.tm.get t = ai.tm.get t) ∧
    (∀ t, (∀ (j : Nat) p, j < i → l[j]? = some p → p.dst ≠ some t) → ai.tm.get t = a.tm.get t) ∧
    ∃ v an, hs[i + 1]? = some an ∧ Did P call ops ai.tm o ai.h v an.h ∧
      (∀ d, o.dst = some d → d < a.sz → an.tm.get d = some v) ∧
      (∀ d, o.dst = some d → d < a.sz → (∀ (j : Nat) p, i < j → l[j]? = some p → p.dst ≠ some d) → a'.tm.get d = some v)

theorem Traced.cons {call : CallF} {ops : Array Oper} {o : Oper} {l : List Oper} {a a' : AF} {hs : List AF} {v : Value} {h' : AH}
    (hx : Did P call ops a.tm o a.h v h')
    (T : Traced P call ops l (a.put o.dst v h') a' hs) : Traced P call ops (o :: l) a a' (a :: hs) where
  sz := by rw [T.sz, AF.put_sz]
  first := rfl
  last := by rw [List.length_cons, List.getElem?_cons_succ]; exact T.last
  keep := fun t ht => by
    rw [T.keep t (by rw [AF.put_sz]; exact ht.imp (fun h j p hp => h (j + 1) p (by simpa using hp)) id)]
    rw [AF.put_tm _ _ _ _ a.h]
    cases hd : o.dst with
    | none => rfl
    | some d =>
      simp only [AF.put_def, Nat.blt_eq]
      split
      · rename_i hlt
        rw [_root_.Go.R.T.get_set', if_neg]
        rcases ht with h | h
        · exact fun e => h 0 o rfl (by rw [hd, e])
        · intro e; subst e; exact absurd hlt (Nat.not_lt.2 h)
      · rfl
  at_ := by
    intro i o' hi
    have hput : ∀ t, o.dst ≠ some t → (a.put o.dst v h').tm.get t = a.tm.get t := by
      intro t ht
      rw [AF.put_tm _ _ _ _ a.h]
      cases hd : o.dst with
      | none => rfl
      | some d =>
        simp only [AF.put_def, Nat.blt_eq]
        split
        · rw [_root_.Go.R.T.get_set', if_neg]
          exact fun e => ht (by rw [hd, e])
        · rfl
    cases i with
    | zero =>
      simp only [List.getElem?_cons_zero, Option.some.injEq] at hi
      subst hi
      have hset : ∀ d, o.dst = some d → d < a.sz → (a.put o.dst v h').tm.get d = some v := by
        intro d hd hlt
        rw [hd]
        simp only [AF.put_def, Nat.blt_eq, hlt, if_true, _root_.Go.R.T.get_set']
      refine ⟨a, rfl, fun t ht => ?_, fun t _ => rfl, v, a.put o.dst v h', ?_, by rw [AF.put_h]; exact hx, hset, ?_⟩
      · rw [T.keep t (.inl fun j p hp => ht (j + 1) p (Nat.zero_le _) (by simpa using hp)), hput t (ht 0 o (Nat.le_refl _) rfl)]
      · rw [List.getElem?_cons_succ]
        exact T.first
      · intro d hd hlt hno
        rw [T.keep d (.inl fun j p hp => hno (j + 1) p (Nat.succ_pos _) (by simpa using hp))]
        exact hset d hd hlt
    | succ i =>
      rw [List.getElem?_cons_succ] at hi
      obtain ⟨ai, q1, q2, q2', v2, an, q3, q4, q5', q5⟩ := T.at_ i o' hi
      refine ⟨ai, by rw [List.getElem?_cons_succ]; exact q1, fun t ht => q2 t fun j p hj hp => ht (j + 1) p (by omega) (by simpa using hp), fun t ht => ?_, v2, an, by rw [List.getElem?_cons_succ]; exact q3, q4, ?_, ?_⟩
      · rw [q2' t fun j p hj hp => ht (j + 1) p (by omega) (by simpa using hp), hput t (ht 0 o (Nat.succ_pos _) rfl)]
      · intro d hd hlt
        exact q5' d hd (by rw [AF.put_sz]; exact hlt)
      · intro d hd hlt hno
        exact q5 d hd (by rw [AF.put_sz]; exact hlt) fun j p hj hp => hno (j + 1) p (by omega) (by simpa using hp)

theorem traced {call : CallF} {ops : Array Oper} : ∀ (l : List Oper) (a a' : AF) (hs : List AF), opsL P call ops l a = some (a', hs) → Traced P call ops l a a' hs
  | [], a, a', hs, he => by
    simp only [opsL, Option.some.injEq, Prod.mk.injEq] at he
    obtain ⟨rfl, rfl⟩ := he
    exact ⟨rfl, rfl, rfl, fun _ _ => rfl, fun i o hi => by simp at hi⟩
  | o :: l, a, a', hs, he => by
    simp only [opsL] at he
    split at he
    · rename_i hw
      split at he
      · rename_i v h' hst
        split at he
        · rename_i a2 hs2 hrec
          cases he
          exact Traced.cons (v := v) (h' := h') (.inl ⟨hw, hst⟩) (traced l _ _ _ hrec)
        · cases he
      · cases he
    · rename_i hw
      split at he
      · rename_i a2 hs2 hrec
        cases he
        exact Traced.cons (v := undef) (h' := a.h) (.inr ⟨hw, rfl, rfl⟩) (traced l _ _ _ hrec)
      · cases he
    · cases he

end
end Go.R
