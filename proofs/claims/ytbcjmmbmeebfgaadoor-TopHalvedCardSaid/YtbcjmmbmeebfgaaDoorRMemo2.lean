/- Maps that stand for any of their kind: opened, looked at, written, closed; and the contract of what remembers. -/
import Derived.Test.YtbcjmmbmeebfgaaDoorRMemo
namespace Go.R
set_option linter.unusedVariables false
set_option linter.unusedSimpArgs false
open Go Go.RowKit
noncomputable section

section
variable {P : Program} {F : Nat → Prop} {w0 : World}

def mapLike : AObj → Bool
  | .map _ => true
  | .ghost _ => true
  | _ => false

theorem share_mapLike {x y : AObj} (hx : mapLike x = true) (hy : mapLike y = true) (z : AObj) (a b j : Nat) : (share x a z b j ↔ share y a z b j) ∧ (share z a x b j ↔ share z a y b j) := by
  cases x <;> cases hx <;> cases y <;> cases hy <;> cases z
  all_goals try simp [share]
  all_goals (rename_i l _ _; cases l <;> simp [share])

theorem HR.swap {μ : Mp} {h : AH} {w : World} (H : HR F w0 μ h w) {g b z e : Nat} (hg : μ g = some (b, z, e)) {x y : AObj} (hx : h.get g = x) (mx : mapLike x = true) (my : mapLike y = true) (ho : OR μ y b z e w) :
    HR F w0 μ (h.put g y) w := by
  have wrx : x.wr = true := by cases x <;> first | rfl | cases mx
  have wry : y.wr = true := by cases y <;> first | rfl | cases my
  refine ⟨fun i p hi => H.dom i p hi, fun i b' z' e' hi => ?_, fun i b' z' e' hi hw => ?_, fun i j b' zi ei zj ej hne hi hj => ?_, fun i c l p ty hi hgi j hj => ?_, H.os, H.tape, H.output, H.size, H.fr, H.tab⟩
  · rw [AH.get_put]
    split
    · rename_i e1; subst e1; rw [hg] at hi; cases hi; exact ho
    · exact H.obj i b' z' e' hi
  · rw [AH.get_put] at hw
    split at hw
    · rename_i e1; subst e1; exact H.own i b' z' e' hi (by rw [hx]; exact wrx)
    · exact H.own i b' z' e' hi hw
  · have hs := H.sep i j b' zi ei zj ej hne hi hj
    rw [AH.get_put, AH.get_put]
    by_cases h1 : i = g
    · subst h1
      rw [if_pos rfl, if_neg (Ne.symm hne)]
      rw [hx] at hs
      rcases hs with s | s | s
      · exact .inl ((share_mapLike mx my _ _ _ _).1.1 s)
      · exact .inr (.inl ((share_mapLike mx my _ _ _ _).2.1 s))
      · rw [wrx] at s; cases s.1
    · rw [if_neg h1]
      by_cases h2 : j = g
      · subst h2
        rw [if_pos rfl]
        rw [hx] at hs
        rcases hs with s | s | s
        · exact .inl ((share_mapLike mx my _ _ _ _).2.1 s)
        · exact .inr (.inl ((share_mapLike mx my _ _ _ _).1.1 s))
        · rw [wrx] at s; cases s.2
      · rw [if_neg h2]; exact hs
  · rw [AH.get_put] at hgi
    split at hgi
    · subst hgi; cases my
    · exact H.par i c l p ty hi hgi j hj

/-- A place that holds a map is reached from some temporary. -/
def reaches (af : AF) (t i g : Nat) : Prop := af.tm.get t = some (.pointer (some ⟨i, 0, none⟩)) ∧ ∃ l p ty, af.h.get i = .cells [.map (some g)] l p ty

theorem born_of {μ : Mp} {af : AF} {a : Act} {w : World} (R : AR F w0 μ af a w) {t i g : Nat} (h : reaches af t i g) : ∃ b e, μ g = some (b, 0, e) := by
  obtain ⟨h1, l, p, ty, h2⟩ := h
  obtain ⟨b, z, e, hm, _⟩ := (R.tm t trivial _ h1).ptr_inv
  have ho := R.heap.obj i b z e hm
  rw [h2] at ho
  obtain ⟨cs, el, fr, _, _, _, h4, _⟩ := ho
  obtain ⟨v', _, hv⟩ := h4 0 _ rfl
  obtain ⟨b, e, q, _⟩ := hv.map_inv
  exact ⟨b, e, q⟩

theorem Runs.swapped {k : Nat} {c : Code} {af : AF} {Q : AExit → AF → Prop} {t i g : Nat} (hr : reaches af t i g)
    (h : ∀ (F : Nat → Prop) (w0 : World) (μ : Mp) (a : Act) (w : World), AR F w0 μ af a w → ∀ b e, μ g = some (b, 0, e) →
      ∃ y, HR F w0 μ (af.h.put g y) w ∧ Runs P k c ⟨af.tm, af.sz, af.h.put g y⟩ Q) : Runs P k c af Q := by
  intro F w0 μ a w R
  obtain ⟨b, e, hb⟩ := born_of R hr
  obtain ⟨y, H, q⟩ := h F w0 μ a w R b e hb
  refine Wp.mono (q F w0 μ a w ⟨H, R.tm, R.sz⟩) fun x a' w' ⟨x', af', q1, q2, q3, μ', q4, q5⟩ => ⟨x', af', q1, q2, q3, μ', q4, fun j hj => ⟨(q5 j hj).1, fun hn => ?_⟩⟩
  rw [(q5 j hj).2 hn, AH.get_put]
  split
  · rename_i e1; subst e1; rw [hb] at hn; cases hn
  · rfl

theorem Runs.opened {k : Nat} {c : Code} {af : AF} {Q : AExit → AF → Prop} {t i g tag : Nat} (hr : reaches af t i g) (hg : af.h.get g = .ghost tag)
    (h : ∀ es, Stands tag es → Runs P k c ⟨af.tm, af.sz, af.h.put g (.map es)⟩ Q) : Runs P k c af Q := by
  refine Runs.swapped hr fun F w0 μ a w R b e hb => ?_
  have ho := R.heap.obj g b 0 e hb
  rw [hg] at ho
  obtain ⟨es, hs, h0, ms, cl, h1⟩ := ho
  exact ⟨.map es, R.heap.swap hb hg rfl rfl ⟨h0, ms, cl, h1⟩, h es hs⟩

theorem Runs.shut {k : Nat} {c : Code} {af : AF} {Q : AExit → AF → Prop} {t i g tag : Nat} {es : List (Value × Value)} (hr : reaches af t i g) (hg : af.h.get g = .map es) (hs : Stands tag es)
    (h : Runs P k c ⟨af.tm, af.sz, af.h.put g (.ghost tag)⟩ Q) : Runs P k c af Q := by
  refine Runs.swapped hr fun F w0 μ a w R b e hb => ?_
  have ho := R.heap.obj g b 0 e hb
  rw [hg] at ho
  obtain ⟨h0, ms, cl, h1⟩ := ho
  exact ⟨.ghost tag, R.heap.swap hb hg rfl rfl ⟨es, hs, h0, ms, cl, h1⟩, h⟩

/-! ### Operations one by one -/
theorem opsL_app {call : CallF} {ops : Array Oper} : ∀ (l1 l2 : List Oper) (a b c : AF), (opsL P call ops l1 a).map (·.1) = some b → (opsL P call ops l2 b).map (·.1) = some c → (opsL P call ops (l1 ++ l2) a).map (·.1) = some c
  | [], l2, a, b, c, h1, h2 => by
    simp only [opsL, Option.map_some, Option.some.injEq] at h1
    subst h1; exact h2
  | o :: l, l2, a, b, c, h1, h2 => by
    simp only [opsL, List.cons_append] at h1 ⊢
    split at h1
    · split at h1
      · rename_i v h hs
        cases hq : opsL P call ops l (a.put o.dst v h) with
        | none => rw [hq] at h1; cases h1
        | some r =>
          rw [hq] at h1
          have := opsL_app l l2 (a.put o.dst v h) b c (by rw [hq]; exact h1) h2
          cases hq2 : opsL P call ops (l ++ l2) (a.put o.dst v h) with
          | none => rw [hq2] at this; cases this
          | some r2 => rw [hq2] at this; simpa using this
      · cases h1
    · cases hq : opsL P call ops l (a.put o.dst undef a.h) with
      | none => rw [hq] at h1; cases h1
      | some r =>
        rw [hq] at h1
        have := opsL_app l l2 (a.put o.dst undef a.h) b c (by rw [hq]; exact h1) h2
        cases hq2 : opsL P call ops (l ++ l2) (a.put o.dst undef a.h) with
        | none => rw [hq2] at this; cases this
        | some r2 => rw [hq2] at this; simpa using this
    · cases h1

theorem opsL_one {call : CallF} {ops : Array Oper} {o : Oper} {a : AF} {v : Value} {h : AH} (hg : o.guard = none) (hs : stepA P call (evalA a.tm) o.op a.h = some (v, h)) :
    (opsL P call ops [o] a).map (·.1) = some (a.put o.dst v h) := by
  simp only [opsL, wantedA, hg, hs, Option.map_some]

theorem Runs.regionL (hm : P.follows .mixedOrders = true) {call : CallF} (hc : CallOk P call) {k id : Nat} {ops : Array Oper} {af af' : AF} {Q : AExit → AF → Prop} (hk : k ≤ af.h.next)
    (h : (opsL P call ops ops.toList af).map (·.1) = some af') (q : Q .normal af') : Runs P k (.region id ops false) af Q := by
  cases ho : opsL P call ops ops.toList af with
  | none => rw [ho] at h; cases h
  | some r =>
    rw [ho] at h
    obtain ⟨b, hs⟩ := r
    cases h
    exact Runs.eval (n := 1) hm hc hk (by simp only [execA, regionA, ho]) q

theorem look_step {call : CallF} {ρ : Operand → Option Value} {h : AH} {t kt et : TypeId} {m k : Operand} {g : Nat} {key z : Value} {es : List (Value × Value)} {r : Option Value}
    (hm : ρ m = some (.map (some g))) (hk : ρ k = some key) (hg : h.get g = .map es) (ht : P.underlying t = some (.map kt et)) (hz : zeroA P et = some z) (hkey : keyOk P kt key = true) (hl : lookA key es = some r) :
    stepA P call ρ (.lookup t m k true) h = some (.tuple #[r.getD z, .bool r.isSome], h) := by
  simp only [stepA, callOp?, opA, hm, hk, lookupA, ht, hkey, Bool.not_true, Bool.false_eq_true, if_false, hz, entriesA, hg, hl]
  cases r <;> rfl

theorem upd_step {call : CallF} {ρ : Operand → Option Value} {h : AH} {t kt et : TypeId} {m k x : Operand} {g : Nat} {key v : Value} {es es' : List (Value × Value)}
    (hm : ρ m = some (.map (some g))) (hk : ρ k = some key) (hx : ρ x = some v) (hg : h.get g = .map es) (ht : P.underlying t = some (.map kt et)) (hkey : keyOk P kt key = true) (hl : updA key v es = some es') :
    stepA P call ρ (.mapUpdate t m k x) h = some (undef, h.put g (.map es')) := by
  simp only [stepA, callOp?, opA, hm, hk, hx, mapUpdateA, ht, hkey, Bool.not_true, Bool.false_eq_true, if_false, hg, hl, Option.map_some]

/-! ### What remembers -/
def ptrV (i : Nat) : Value := .pointer (some ⟨i, 0, none⟩)

/-- The contract of a function that remembers: numbers, and two places. -/
def memoH (f : FuncId) (roots : List AObj) (p q : Value) (val : List Value → Option Value) : Hook := fun f' args h =>
  if Nat.beq f' f then
    match args.reverse with
    | q' :: p' :: ns => if veq 5 p' p && (veq 5 q' q && (Nat.ble roots.length h.next && objsEq h 0 roots)) then (match val ns.reverse with
      | some v => some (some (v, h))
      | none => none) else none
    | _ => none
  else none

theorem memo_ok (G : Tame) {f : FuncId} {roots : List AObj} {p q : Value} {val : List Value → Option Value} (hr : roots.all (cloOB roots.length) = true) (hpq : (cloB 10 roots.length p && cloB 10 roots.length q) = true)
    (L : ∀ ns v, val ns = some v → (∀ a ∈ ns, plainV a = true) ∧ plainV v = true ∧
      Local P roots.length f (ns ++ [p, q]) (hp roots) fun v' h' => v' = v ∧ ∀ i o, roots[i]? = some o → h'.get i = o) : HookOk P (memoH f roots p q val) := by
  intro f' args h v h' he F w0 μ w args' H hl
  unfold memoH at he
  by_cases h1 : Nat.beq f' f = true
  · simp only [h1, if_true] at he
    split at he
    · rename_i r hq
      split at hq
      · rename_i q' p' ns hrev
        split at hq
        · rename_i hcond
          simp only [Bool.and_eq_true] at hcond
          obtain ⟨e1, e2, e3, e4⟩ := hcond
          split at hq
          · rename_i u hu
            cases hq
            simp only [Option.some.injEq, Prod.mk.injEq] at he
            obtain ⟨rfl, rfl⟩ := he
            have ea : args = ns.reverse ++ [p, q] := by
              have := congrArg List.reverse hrev
              rw [List.reverse_reverse] at this
              rw [this, veq_sound _ _ _ e1, veq_sound _ _ _ e2]
              simp
            subst ea
            have := Nat.eq_of_beq_eq_true h1
            subst this
            obtain ⟨a1, a2, a3⟩ := L ns.reverse u hu
            have same : ∀ i o, roots[i]? = some o → h.get i = o := fun i o ho => by
              have := objsEq_sound roots 0 e4 i o ho
              rwa [Nat.zero_add] at this
            have atl : ∀ i, i < roots.length → ∃ o, roots[i]? = some o ∧ h.get i = o ∧ (hp roots).get i = o := fun i hi =>
              ⟨roots[i], List.getElem?_eq_getElem hi, same i _ (List.getElem?_eq_getElem hi), hp_get roots i _ (List.getElem?_eq_getElem hi)⟩
            have clo : ∀ i, i < roots.length → CloO roots.length (h.get i) := fun i hi => by
              rw [same i _ (List.getElem?_eq_getElem hi)]
              exact cloO_of G (List.all_eq_true.1 hr _ (List.getElem_mem hi))
            simp only [Bool.and_eq_true] at hpq
            refine a3.framed (h2 := h) (v := u) (fun v' h' r => ⟨r.1, fun i hi => ?_⟩) (hp_next roots) (Nat.le_of_ble_eq_true e3) (fun i hi => ?_) (fun x hx => ?_) clo clo (clo_plain a2) (fun i hi => .inl rfl) rfl (fun _ _ => rfl) H hl
            · rw [r.2 i _ (List.getElem?_eq_getElem hi), same i _ (List.getElem?_eq_getElem hi)]
            · obtain ⟨o, o1, o2, o3⟩ := atl i hi
              rw [o2, o3]
            · rcases List.mem_append.1 hx with hx | hx
              · exact clo_plain (a1 x hx)
              · simp only [List.mem_cons, List.mem_nil_iff, or_false] at hx
                rcases hx with rfl | rfl
                · exact clo_of 10 _ _ hpq.1
                · exact clo_of 10 _ _ hpq.2
          · cases hq
        · cases hq
      · cases hq
    · cases he
  · simp [h1] at he

end
end
end Go.R
namespace Go.R
open Go Go.RowKit
noncomputable section
section
variable {P : Program}

theorem less_seen (G : Tame) {l : List (Nat × Value)} {sz : Nat} {os : List AObj} {af : AF} {k : Nat} (ht : tight l os = true) (hk : k ≤ os.length) (h1 : (l.map (·.1)).map af.tm.get = l.map fun p => some p.2) (h2 : af.sz = sz)
    (h3 : Nat.ble os.length af.h.next = true) (h4 : (List.range os.length).map af.h.get = os) : Less k (sth l sz os) af := by
  rw [List.map_map, List.map_inj_left] at h1
  refine less_of G ht hk h1 h2.symm (Nat.le_of_ble_eq_true h3) fun i o ho => ?_
  have hi : i < os.length := by
    rcases Nat.lt_or_ge i os.length with a | a
    · exact a
    · rw [List.getElem?_eq_none a] at ho; cases ho
  rw [← h4] at ho
  simp only [List.getElem?_map, Option.map_eq_some_iff] at ho
  obtain ⟨j, hj, e⟩ := ho
  rw [List.getElem?_range hi] at hj
  cases hj
  exact e

/-- An end with a value, the roots being as they were. -/
def okRunH (P : Program) (fn : Func) (roots : List AObj) (r : Option (AExit × AF)) (v : Value) : Bool :=
  match r with
  | some (.normal, af) | some (.ret, af) => match resultsA P af.tm af.h fn.results.toList with
    | some vs => veq 10 (pack vs) v && objsEq af.h 0 roots
    | none => false
  | _ => false

def Keeps (roots : List AObj) (v : Value) (v' : Value) (h' : AH) : Prop := v' = v ∧ ∀ i o, roots[i]? = some o → h'.get i = o

theorem Runs.lastH {call : CallF} (hm : P.follows .mixedOrders = true) (hc : CallOk P call) {n k : Nat} {fn : Func} {c : Code} {af : AF} {v : Value} {roots : List AObj} (hk : k ≤ af.h.next)
    (he : okRunH P fn roots (execA P call n c af) v = true) : Runs P k c af (EndsAs P fn (Keeps roots v)) := by
  have go : ∀ (x : AExit) (af' : AF), (x = .normal ∨ x = .ret) → execA P call n c af = some (x, af') →
      (match resultsA P af'.tm af'.h fn.results.toList with
        | some vs => veq 10 (pack vs) v && objsEq af'.h 0 roots
        | none => false) = true → Runs P k c af (EndsAs P fn (Keeps roots v)) := by
    intro x af' hx h1 h2
    split at h2
    · rename_i vs hvs
      simp only [Bool.and_eq_true] at h2
      refine Runs.eval hm hc hk h1 ⟨hx, vs, hvs, veq_sound _ _ _ h2.1, fun i o ho => ?_⟩
      have := objsEq_sound roots 0 h2.2 i o ho
      rwa [Nat.zero_add] at this
    · cases h2
  unfold okRunH at he
  split at he
  · rename_i af' h1; exact go _ _ (.inl rfl) h1 he
  · rename_i af' h1; exact go _ _ (.inr rfl) h1 he
  · cases he

def regOps : Code → Array Oper
  | .region _ ops _ => ops
  | _ => #[]
def opAt (c : Code) (i : Nat) : Oper := (regOps c).getD i default
def thenOf : Code → Code
  | .cond _ a _ => a
  | c => c

/-- A normal end behind the first parts, with what is seen there. -/
def ends (r : Option (AExit × AF)) (p : AF → Bool) : Bool :=
  match r with
  | some (.normal, af) => p af
  | _ => false

theorem ends_spec {r : Option (AExit × AF)} {p : AF → Bool} (h : ends r p = true) : ∃ af, r = some (.normal, af) ∧ p af = true := by
  unfold ends at h
  split at h
  · rename_i af; exact ⟨af, rfl, h⟩
  · cases h
end
end
end Go.R
