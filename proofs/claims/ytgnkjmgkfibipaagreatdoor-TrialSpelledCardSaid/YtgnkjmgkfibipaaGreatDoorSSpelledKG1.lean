/- Known: its loop over results, whatever they are. -/
import Derived.Test.YtgnkjmgkfibipaaGreatDoorSSpelledKG0
import Derived.Test.YtgnkjmgkfibipaaGreatDoorSSpelledRG5
namespace Go.Proofs.YtgnkjmgkfibipaaGreatDoor
set_option linter.unusedVariables false
set_option linter.unusedSimpArgs false
open Go Go.R
set_option maxRecDepth 1000000
noncomputable section

theorem wrap_succ {i : Nat} (h : i < 4611686018427387904) : wrapF .i64 (Int.add (.ofNat i) (.ofNat 1)) = .ofNat (i + 1) := by
  show cond (Nat.blt (i + 1) 9223372036854775808) (Int.ofNat (i + 1)) _ = _
  have : Nat.blt (i + 1) 9223372036854775808 = true := by rw [Nat.blt_eq]; omega
  rw [this]; rfl

def k38 : CallF := callA Tryz.prog works 1000

end
end Go.Proofs.YtgnkjmgkfibipaaGreatDoor

/- IndexFunc over unknown results: the first of which a function says yes. -/
namespace Go.Proofs.YtgnkjmgkfibipaaGreatDoor
set_option linter.unusedVariables false
set_option linter.unusedSimpArgs false
open Go Go.R
set_option maxRecDepth 1000000
noncomputable section

/-- One call of a function value, from a heap that it leaves as it was. -/
def Says1 (h : AH) (fid : FuncId) (args : List Value) (v : Value) : Prop :=
  ∀ (F : Nat → Prop) (w0 : World) (μ : Mp) (w : World) (args' : Array Value), HR F w0 μ h w → LR μ args args'.toList →
    Goes Tryz.prog fid args' w fun v' w' => ∃ μ', VR μ' v v' ∧ HR F w0 μ' h w' ∧ Ext μ μ' h h

end
end Go.Proofs.YtgnkjmgkfibipaaGreatDoor

/- IndexFunc, ContainsFunc over unknown results, as contracts. -/
namespace Go.Proofs.YtgnkjmgkfibipaaGreatDoor
set_option linter.unusedVariables false
set_option linter.unusedSimpArgs false
open Go Go.R
set_option maxRecDepth 1000000
noncomputable section

/-- The answer with the roots as they were. -/
def Holds (os : List AObj) (v : Value) (v' : Value) (h' : AH) : Prop := v' = v ∧ ∀ (j : Nat) x, os[j]? = some x → h'.get j = x

theorem says_of {os : List AObj} {fid : FuncId} {args : List Value} {v : Value} (L : Local Tryz.prog os.length fid args (hp os) (Holds os v)) (ca : ∀ x ∈ args, Clo os.length x) (co : ∀ x ∈ os, CloO os.length x) (cv : Clo os.length v) :
    Says1 (hp os) fid args v := by
  intro F w0 μ w args' H hl
  have at_ : ∀ i, i < os.length → (hp os).get i = os[i]?.getD .dead ∧ CloO os.length ((hp os).get i) := fun i hi => by
    have ho : os[i]? = some os[i] := List.getElem?_eq_getElem hi
    rw [hp_get os i _ ho, ho]
    exact ⟨rfl, co _ (List.getElem_mem hi)⟩
  refine L.framed (h2 := hp os) (v := v) (fun v' h' r => ⟨r.1, fun i hi => ?_⟩) (hp_next os) (by rw [hp_next]; exact Nat.le_refl _) (fun _ _ => rfl) ca (fun i hi => (at_ i hi).2) (fun i hi => (at_ i hi).2) cv (fun _ _ => .inl rfl) rfl (fun _ _ => rfl) H hl
  have ho : os[i]? = some os[i] := List.getElem?_eq_getElem hi
  rw [r.2 i _ ho, hp_get os i _ ho]

end
end Go.Proofs.YtgnkjmgkfibipaaGreatDoor
