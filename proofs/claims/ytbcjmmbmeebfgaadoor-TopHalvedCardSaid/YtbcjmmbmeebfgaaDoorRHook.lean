/- Closed calls as contracts: what the machine says once at the empty heap, it may say everywhere. -/
import Derived.Test.YtbcjmmbmeebfgaaDoorRStart
namespace Go.R
set_option linter.unusedVariables false
set_option linter.unusedSimpArgs false
open Go Go.RowKit
noncomputable section

theorem HR.keep {F : Nat → Prop} {w0 : World} {μ : Mp} {h : AH} {w w' : World} (H : HR F w0 μ h w) (B : Below w.heap.size w w') : HR F w0 μ h w' where
  dom := H.dom
  obj := fun i b z e hi => by
    cases hd : h.get i with
    | dead => trivial
    | _ =>
      rw [← hd]
      exact (H.obj i b z e hi).world (B.block b (H.inb hi (by rw [hd]; intro e; cases e)))
  own := H.own
  sep := H.sep
  par := H.par
  os := B.os.trans H.os
  tape := B.tape.trans H.tape
  output := B.output.trans H.output
  size := Nat.le_trans H.size B.size
  fr := fun b hb => ⟨(H.fr b hb).1, (B.block b (Nat.lt_of_lt_of_le (H.fr b hb).1 H.size)).trans (H.fr b hb).2⟩
  tab := H.tab

theorem plain_same {μ : Mp} {v x : Value} (h : VR μ v x) (hp : plainV v = true) : x = v := by
  cases h with
  | plain _ => rfl
  | _ => simp [plainV] at hp

theorem plains_same {μ : Mp} : ∀ {l k : List Value}, LR μ l k → (∀ v ∈ l, plainV v = true) → k = l
  | [], [], _, _ => rfl
  | a :: l, b :: k, h, hp => by
    rw [plain_same h.head (hp a (by simp)), plains_same h.tail fun v hv => hp v (by simp [hv])]
  | [], _ :: _, h, _ => absurd h.1 (by simp)
  | _ :: _, [], h, _ => absurd h.1 (by simp)

/-- Values that hold no place. -/
def flatV : Value → Bool
  | .tuple vs => vs.toList.all plainV
  | v => plainV v

theorem flat_any {μ μ' : Mp} {v x : Value} (h : VR μ v x) (hp : flatV v = true) : VR μ' v x := by
  cases v with
  | tuple vs =>
    obtain ⟨vs', rfl, hl⟩ := h.tuple_inv
    have hq : ∀ y ∈ vs.toList, plainV y = true := by
      intro y hy
      simp only [flatV] at hp
      exact List.all_eq_true.1 hp y hy
    have := plains_same hl hq
    refine VR.tuple_of ?_
    rw [this]
    exact LR.of_plain hq
  | _ =>
    rw [plain_same h hp]
    exact .plain hp

/-- What a call answers. -/
def says (r : Out) (v : Value) : Bool :=
  match r with
  | some (u, _) => veq 10 u v
  | none => false

/-- One closed call, told everywhere. -/
def closedH (f : FuncId) (args : List Value) (v : Value) : Hook := fun g as h =>
  if Nat.beq g f then (if veqL (veq 10) as args then some (some (v, h)) else none) else none

theorem closed_ok {P : Program} {hk : Hook} (hm : P.follows .mixedOrders = true) (hn : NoNum P) (hh : HookOk P hk) {n : Nat} {f : FuncId} {fn : Func} (hf : P.funcs[f]? = some fn) (hb : fn.body.isSome = true)
    {args : List Value} {v : Value} (hp : (args.all plainV && flatV v) = true) (hno : (hk f args AH.empty).isNone = true)
    (he : says (callA P hk (n + 1) f args AH.empty) v = true) : HookOk P (closedH f args v) := by
  obtain ⟨c, hb⟩ := Option.isSome_iff_exists.1 hb
  simp only [Bool.and_eq_true, List.all_eq_true] at hp
  intro g as h u h' hr F w0 μ w args' H hl
  unfold closedH at hr
  by_cases h1 : Nat.beq g f = true
  · by_cases h2 : veqL (veq 10) as args = true
    · simp only [h1, h2, if_true, Option.some.injEq, Prod.mk.injEq] at hr
      obtain ⟨rfl, rfl⟩ := hr
      have := Nat.eq_of_beq_eq_true h1
      subst this
      have := veqL_sound (fun a b => veq_sound 10 a b) _ _ h2
      subst this
      have ha := plains_same hl hp.1
      cases hc : callA P hk (n + 1) g as AH.empty with
      | none => rw [hc] at he; cases he
      | some r =>
        obtain ⟨y, h1⟩ := r
        rw [hc] at he
        have := veq_sound _ _ _ he
        subst this
        refine .inl ⟨enters hn hf hb args' w, Calls.mono (walk_of hm hn hh hf hb (Option.isNone_iff_eq_none.1 hno) hc (HR.start w H.laidNow) (by rw [ha]; exact LR.of_plain hp.1)) fun e w' hq => ?_⟩
        obtain ⟨v', rfl, μ', q1, q2, _⟩ := hq
        exact ⟨v', rfl, μ, flat_any q1 hp.2, H.keep q2.below, Ext.refl μ _⟩
    · simp [h1, h2] at hr
  · simp [h1] at hr

/-- One contract, or else the other. -/
def orH (a b : Hook) : Hook := fun f args h =>
  match a f args h with
  | some r => some r
  | none => b f args h

theorem or_ok {P : Program} {a b : Hook} (ha : HookOk P a) (hb : HookOk P b) : HookOk P (orH a b) := by
  intro f args h v h' he
  simp only [orH] at he
  cases hq : a f args h with
  | some r => exact ha f args h v h' (by simp only [hq] at he ⊢; exact he)
  | none => exact hb f args h v h' (by simp only [hq] at he; exact he)

end
end Go.R
