/- How code may end. -/
import Derived.Test.YtbcjmmbmeebfgaaDoorRFloat
import Derived.Scope
namespace Go.R
set_option linter.unusedVariables false
set_option linter.unusedSimpArgs false
open Go Go.RowKit

section
variable {P : Program} {F : Nat → Prop} {w0 : World} {call : CallF}

def Post (F : Nat → Prop) (w0 : World) (μ : Mp) (h : AH) (D : List Deferred) (x : AExit) (af' : AF) : Exit → Act → World → Prop
  | .normal, a, w => x = .normal ∧ Onward F w0 μ h D af' a w
  | .exit id, a, w => x = .exit id ∧ Onward F w0 μ h D af' a w
  | .ret, a, w => x = .ret ∧ Onward F w0 μ h D af' a w
  | _, _, _ => False

theorem Post.trans {μ μ1 : Mp} {h h1 : AH} {D D1 : List Deferred} {x : AExit} {af' : AF} (E : Ext μ μ1 h h1) (hD : D1 = D) {e : Exit} {a : Act} {w : World}
    (p : Post F w0 μ1 h1 D1 x af' e a w) : Post F w0 μ h D x af' e a w := by
  subst hD
  have go : Onward F w0 μ1 h1 D1 af' a w → Onward F w0 μ h D1 af' a w := fun ⟨μ2, r1, r2, r3⟩ => ⟨μ2, r1, E.trans r2, r3⟩
  cases e <;> simp only [Post] at p ⊢
  · exact ⟨p.1, go p.2⟩
  · exact ⟨p.1, go p.2⟩
  · exact ⟨p.1, go p.2⟩

def LoopWp (P : Program) (c : Code) (Q : Exit → Act → World → Prop) (a : Act) (w : World) : Prop :=
  ∀ (b : Frame) (k : List Item) (cs : List Frame),
    ∃ e a' w', Q e a' w' ∧ Arrives P (lone (b.at a (.code c :: .inLoop c :: k)) cs w) b k cs e a' w'

theorem LoopWp.wp {c : Code} {Q : Exit → Act → World → Prop} {a : Act} {w : World} (h : LoopWp P c Q a w) : (Code.loop c).wp P Q a w :=
  fun b k cs => let ⟨e, a', w', q, r⟩ := h b k cs; ⟨e, a', w', q, .of_steps (.one step_loop) r⟩

theorem LoopWp.round {c : Code} {Q : Exit → Act → World → Prop} {a : Act} {w : World} (h : c.wp P (Exit.then (LoopWp P c Q) Q) a w) : LoopWp P c Q a w := by
  intro b k cs
  obtain ⟨e, a₁, w₁, hq, harr⟩ := h b (.inLoop c :: k) cs
  cases e with
  | normal =>
    obtain ⟨e₂, a₂, w₂, hq₂, harr₂⟩ := hq b k cs
    exact ⟨e₂, a₂, w₂, hq₂, .of_steps (Steps.trans harr (.one step_inLoop)) harr₂⟩
  | exit id => exact ⟨_, a₁, w₁, hq, .pass (x := .inLoop c) rfl (fun _ _ => .inl (by simp)) harr⟩
  | goto l => exact ⟨_, a₁, w₁, hq, .pass (x := .inLoop c) rfl (fun _ _ => .inl (by simp)) harr⟩
  | ret => exact ⟨_, a₁, w₁, hq, .pass (x := .inLoop c) rfl (fun _ _ => .inl (by simp)) harr⟩
  | panic ch => exact ⟨_, a₁, w₁, hq, .pass (x := .inLoop c) rfl (fun _ _ => .inl (by simp)) harr⟩
  | outgrown => exact ⟨_, a₁, w₁, hq, .pass (x := .inLoop c) rfl (fun _ _ => .inl (by simp)) harr⟩

def Wp (P : Program) (c : Code) (Q : Exit → Act → World → Prop) (a : Act) (w : World) : Prop :=
  match c with
  | .loop b => LoopWp P b Q a w
  | c => c.wp P Q a w

theorem Wp.wp {c : Code} {Q : Exit → Act → World → Prop} {a : Act} {w : World} (h : Wp P c Q a w) : c.wp P Q a w := by
  cases c <;> first | exact LoopWp.wp h | exact h

end
end Go.R
