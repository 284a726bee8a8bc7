/- Closed calls as contracts, where structs and arrays of plain values are handed in. -/
import Derived.Test.YtbcjmmbmeebfgaaDoorRHook
namespace Go.R
set_option linter.unusedVariables false
set_option linter.unusedSimpArgs false
open Go Go.RowKit
noncomputable section

def plainG : Value → Bool
  | .agg vs => vs.toList.all plainV
  | v => plainV v

theorem plainG_same {μ : Mp} {v x : Value} (h : VR μ v x) (hp : plainG v = true) : x = v := by
  cases v with
  | agg vs =>
    obtain ⟨vs', rfl, hl⟩ := h.agg_inv
    have := plains_same hl (fun y hy => List.all_eq_true.1 hp y hy)
    rw [arr_eq this]
  | _ => exact plain_same h hp

theorem plainsG_same {μ : Mp} : ∀ {l k : List Value}, LR μ l k → (∀ v ∈ l, plainG v = true) → k = l
  | [], [], _, _ => rfl
  | a :: l, b :: k, h, hp => by
    rw [plainG_same h.head (hp a (by simp)), plainsG_same h.tail fun v hv => hp v (by simp [hv])]
  | [], _ :: _, h, _ => absurd h.1 (by simp)
  | _ :: _, [], h, _ => absurd h.1 (by simp)

theorem plainG_vr {μ : Mp} {v : Value} (hp : plainG v = true) : VR μ v v := by
  cases v with
  | agg vs => exact VR.agg_of (LR.of_plain fun y hy => List.all_eq_true.1 hp y hy)
  | _ => exact .plain hp

theorem plainsG_lr {μ : Mp} : ∀ {l : List Value}, (∀ v ∈ l, plainG v = true) → LR μ l l
  | [], _ => LR.nil
  | a :: l, h => LR.cons (plainG_vr (h a (by simp))) (plainsG_lr fun v hv => h v (by simp [hv]))

/-- Closed calls of one function, told everywhere: by a list of arguments and answers. -/
def closedG (f : FuncId) (g : List Value → Option Value) : Hook := fun f' as h =>
  match Nat.beq f' f with
  | true => match g as with
    | some v => some (some (v, h))
    | none => none
  | false => none

theorem closedG_ok {P : Program} {hk : Hook} (hm : P.follows .mixedOrders = true) (hn : NoNum P) (hh : HookOk P hk) {n : Nat} {f : FuncId} {fn : Func} (hf : P.funcs[f]? = some fn) (hb : fn.body.isSome = true)
    {g : List Value → Option Value} (hg : ∀ args v, g args = some v → (args.all plainG && flatV v && (hk f args AH.empty).isNone && says (callA P hk (n + 1) f args AH.empty) v) = true) : HookOk P (closedG f g) := by
  obtain ⟨c, hb⟩ := Option.isSome_iff_exists.1 hb
  intro f' as h u h' hr F w0 μ w args' H hl
  unfold closedG at hr
  cases h1 : Nat.beq f' f with
  | false => simp only [h1] at hr; cases hr
  | true =>
    simp only [h1] at hr
    have := Nat.eq_of_beq_eq_true h1
    subst this
    cases h2 : g as with
    | none => rw [h2] at hr; cases hr
    | some v =>
      rw [h2] at hr
      simp only [Option.some.injEq, Prod.mk.injEq] at hr
      obtain ⟨rfl, rfl⟩ := hr
      have hall := hg as v h2
      simp only [Bool.and_eq_true, List.all_eq_true] at hall
      obtain ⟨⟨⟨p1, p2⟩, p3⟩, he⟩ := hall
      have ha := plainsG_same hl p1
      cases hc : callA P hk (n + 1) f' as AH.empty with
      | none => rw [hc] at he; cases he
      | some r =>
        obtain ⟨y, h1⟩ := r
        rw [hc] at he
        have := veq_sound _ _ _ he
        subst this
        refine .inl ⟨enters hn hf hb args' w, Calls.mono (walk_of hm hn hh hf hb (Option.isNone_iff_eq_none.1 p3) hc (HR.start w H.laidNow) (by rw [ha]; exact plainsG_lr p1)) fun e w' hq => ?_⟩
        obtain ⟨v', rfl, μ', q1, q2, _⟩ := hq
        exact ⟨v', rfl, μ, flat_any q1 p2, H.keep q2.below, Ext.refl μ _⟩

/-- Closed calls of one function, by a table. -/
def lookG : List (List Value × Value) → List Value → Option Value
  | [], _ => none
  | p :: l, as => match veqL (veq 6) as p.1 with
    | true => some p.2
    | false => lookG l as

theorem lookG_mem : ∀ {l : List (List Value × Value)} {as : List Value} {v : Value}, lookG l as = some v → (as, v) ∈ l
  | [], as, v, h => by cases h
  | p :: l, as, v, h => by
    unfold lookG at h
    cases hq : veqL (veq 6) as p.1 with
    | true =>
      rw [hq] at h
      have := veqL_sound (fun a b => veq_sound 6 a b) _ _ hq
      simp only [Option.some.injEq] at h
      rw [this, ← h]
      exact List.mem_cons_self
    | false => rw [hq] at h; exact List.mem_cons_of_mem _ (lookG_mem h)

def tableOk (P : Program) (hk : Hook) (n : Nat) (f : FuncId) (tab : List (List Value × Value)) : Bool :=
  tab.all fun p => p.1.all plainG && flatV p.2 && (hk f p.1 AH.empty).isNone && says (callA P hk (n + 1) f p.1 AH.empty) p.2

theorem tableG_ok {P : Program} {hk : Hook} (hm : P.follows .mixedOrders = true) (hn : NoNum P) (hh : HookOk P hk) {n : Nat} {f : FuncId} {fn : Func} (hf : P.funcs[f]? = some fn) (hb : fn.body.isSome = true)
    {tab : List (List Value × Value)} (h : tableOk P hk n f tab = true) : HookOk P (closedG f (lookG tab)) :=
  closedG_ok hm hn hh (n := n) hf hb fun args v hg => by
    have := List.all_eq_true.1 h (args, v) (lookG_mem hg)
    exact this
end
end Go.R
