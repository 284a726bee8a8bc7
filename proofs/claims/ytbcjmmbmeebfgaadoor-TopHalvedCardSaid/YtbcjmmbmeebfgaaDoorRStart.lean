/- From the machine's answer at an empty heap to the model's call. -/
import Derived.Test.YtbcjmmbmeebfgaaDoorRExt
namespace Go.R
set_option linter.unusedVariables false
set_option linter.unusedSimpArgs false
open Go Go.RowKit
noncomputable section

def AH.empty : AH := ⟨.nil, 0⟩

theorem HR.start (w : World) (hl : Laid (fun b => b < w.heap.size) w) : HR (fun b => b < w.heap.size) w (fun _ => none) AH.empty w where
  dom := fun i p h => by cases h
  obj := fun i b z e h => by cases h
  own := fun i b z e h => by cases h
  sep := fun i j b zi ei zj ej _ h => by cases h
  par := fun i c l p ty h => absurd rfl h
  os := rfl
  tape := rfl
  output := rfl
  size := Nat.le_refl _
  fr := fun b h => ⟨h, rfl⟩
  tab := hl

theorem HR.below {w w' : World} {μ : Mp} {h : AH} (H : HR (fun b => b < w.heap.size) w μ h w') : Below w.heap.size w w' :=
  ⟨H.os, H.tape, H.output, H.size, fun k hk => (H.fr k hk).2⟩

theorem noNum_of {P : Program} (h : (P.funcs.all fun fn => !(fn.name == "runtime.NumGoroutine")) = true) : NoNum P := by
  intro f fn hf
  have := Array.all_eq_true_iff_forall_mem.1 h fn (Array.mem_of_getElem? hf)
  simpa using this

theorem walk_of {P : Program} {hk : Hook} (hm : P.follows .mixedOrders = true) (hn : NoNum P) (hh : HookOk P hk) {n : Nat} {f : FuncId} {fn : Func} {c : Code} (hf : P.funcs[f]? = some fn) (hb : fn.body = some c)
    {args : List Value} {h h' : AH} {v : Value} (hno : hk f args h = none) (he : callA P hk (n + 1) f args h = some (v, h'))
    {F : Nat → Prop} {w0 : World} {μ : Mp} {w : World} {args' : Array Value} (H : HR F w0 μ h w) (hl : LR μ args args'.toList) :
    Calls P f args' w fun e w' => ∃ v', e = .returned v' ∧ ∃ μ', VR μ' v v' ∧ HR F w0 μ' h' w' ∧ Ext μ μ' h h' := by
  simp only [callA, hno, hf, hb] at he
  exact body_ok hm (call_ok hm hn hh n) hf hb he H hl

def saysTrue (r : Out) : Bool :=
  match r with
  | some (.bool b, _) => b
  | _ => false

/-- A closed call: what the machine says at the empty heap. -/
theorem closed_walk {P : Program} {hk : Hook} (hm : P.follows .mixedOrders = true) (hn : NoNum P) (hh : HookOk P hk) {n : Nat} {f : FuncId} {fn : Func} (hf : P.funcs[f]? = some fn) (hb : fn.body.isSome = true)
    (hno : (hk f [] AH.empty).isNone = true) (he : saysTrue (callA P hk (n + 1) f [] AH.empty) = true) (w : World) (hl : Laid (fun b => b < w.heap.size) w) :
    Calls P f #[] w fun e w' => e = .returned (.bool true) ∧ Below w.heap.size w w' := by
  obtain ⟨c, hb⟩ := Option.isSome_iff_exists.1 hb
  replace hno := Option.isNone_iff_eq_none.1 hno
  cases hc : callA P hk (n + 1) f [] AH.empty with
  | none => rw [hc] at he; cases he
  | some r =>
    obtain ⟨v, h'⟩ := r
    rw [hc] at he
    cases v with
    | bool b =>
      simp only [saysTrue] at he
      subst he
      refine Calls.mono (walk_of hm hn hh hf hb hno hc (HR.start w hl) (LR.nil)) fun e w' hh => ?_
      obtain ⟨v', rfl, μ', q1, q2, _⟩ := hh
      rw [q1.bool_inv]
      exact ⟨rfl, q2.below⟩
    | _ => cases he

end
end Go.R
