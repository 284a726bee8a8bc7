/- Calls that change objects they were handed, told at one heap: with the same objects, or with new ones besides. -/
import Derived.Test.YtbcjmmbmeebfgaaGreatDoorSFloodedRLast
namespace Go.R
set_option linter.unusedVariables false
set_option linter.unusedSimpArgs false
open Go Go.RowKit
noncomputable section
variable {P : Program}

/-- No new object. -/
theorem says_put {f : FuncId} {args : List Value} {v : Value} {os0 os : List AObj} (hlen : os.length = os0.length) (L : Local P os0.length f args (hp os0) fun v' h' => v' = v ∧ ∀ (j : Nat) o, os[j]? = some o → h'.get j = o)
    (ca : ∀ x ∈ args, Clo os0.length x) (c1 : ∀ o ∈ os0, CloO os0.length o) (c2 : ∀ o ∈ os, CloO os0.length o) (cv : Clo os0.length v)
    (chg : ∀ (j : Nat) o o', os0[j]? = some o → os[j]? = some o' → o' = o ∨ o.wr = true) : Says P (hp os0) f args v (hp os) := by
  have at0 : ∀ i, i < os0.length → (hp os0).get i = os0[i]?.getD .dead ∧ CloO os0.length ((hp os0).get i) := fun i hi => by
    have ho : os0[i]? = some os0[i] := List.getElem?_eq_getElem hi
    rw [hp_get os0 i _ ho, ho]
    exact ⟨rfl, c1 _ (List.getElem_mem hi)⟩
  have at1 : ∀ i, i < os0.length → CloO os0.length ((hp os).get i) := fun i hi => by
    have hi' : i < os.length := by omega
    have ho : os[i]? = some os[i] := List.getElem?_eq_getElem hi'
    rw [hp_get os i _ ho]
    exact c2 _ (List.getElem_mem hi')
  intro F w0 μ w args' H hl
  refine L.framed (h2 := hp os) (v := v) (fun v' h' r => ⟨r.1, fun i hi => ?_⟩) (hp_next os0) (by rw [hp_next]; exact Nat.le_refl _) (fun _ _ => rfl) ca (fun i hi => (at0 i hi).2) at1 cv (fun i hi => ?_) (by rw [hp_next, hp_next]; exact hlen) (fun i hi => ?_) H hl
  · have hi' : i < os.length := by omega
    have ho : os[i]? = some os[i] := List.getElem?_eq_getElem hi'
    rw [r.2 i _ ho, hp_get os i _ ho]
  · have hi' : i < os.length := by omega
    have ho : os[i]? = some os[i] := List.getElem?_eq_getElem hi'
    have ho0 : os0[i]? = some os0[i] := List.getElem?_eq_getElem hi
    rw [hp_get os i _ ho, hp_get os0 i _ ho0]
    exact chg i _ _ ho0 ho
  · have none_ : ∀ (l : List AObj), l.length ≤ i → (hp l).get i = .dead := fun l hl => by
      unfold hp
      rw [mkHp_get]
      have h0 : ¬ i < AH.empty.next := Nat.not_lt_zero i
      rw [if_neg h0]
      have : l[i - AH.empty.next]? = none := by
        apply List.getElem?_eq_none
        show l.length ≤ i - 0
        omega
      rw [this]
      rfl
    rw [none_ os (by omega), none_ os0 hi]

end
end Go.R
