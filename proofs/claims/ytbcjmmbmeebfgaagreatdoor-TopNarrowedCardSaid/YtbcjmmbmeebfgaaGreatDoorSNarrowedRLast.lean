/- A call that leaves several new objects: known up to their numbers, told with numbers of its own. -/
import Derived.Test.YtbcjmmbmeebfgaaGreatDoorSNarrowedRRenH
import Derived.Test.YtbcjmmbmeebfgaaGreatDoorSNarrowedRG6
namespace Go.R
set_option linter.unusedVariables false
set_option linter.unusedSimpArgs false
open Go Go.RowKit
noncomputable section
variable {P : Program}

def renW (σ : Nat → Nat) : Value → Value
  | .tuple vs => .tuple (vs.toList.map (renV σ 3)).toArray
  | v => renV σ 3 v
def okW (σ ρ : Nat → Nat) (m : Nat) : Value → Bool
  | .tuple vs => vs.toList.all (okV σ ρ m 3)
  | v => okV σ ρ m 3 v
theorem renW_ok {σ ρ : Nat → Nat} {m : Nat} {v : Value} (h : okW σ ρ m v = true) : Ren ρ m v (renW σ v) := by
  by_cases ht : ∃ vs, v = .tuple vs
  · obtain ⟨vs, rfl⟩ := ht
    intro μ x hx
    obtain ⟨a', rfl, ha⟩ := hx.tuple_inv
    have h : vs.toList.all (okV σ ρ m 3) = true := h
    refine VR.tuple ?_ fun k u u' hu hu' => ?_
    · have := ha.1
      simp at this ⊢
      exact this
    · have hk : (vs.toList.map (renV σ 3))[k]? = some u := by simpa using hu
      rw [List.getElem?_map] at hk
      cases hv : vs.toList[k]? with
      | none => rw [hv] at hk; cases hk
      | some w0 =>
        rw [hv] at hk
        cases hk
        exact renV_ok 3 w0 (List.all_eq_true.1 h w0 (List.mem_of_getElem? hv)) μ u' (ha.2 k w0 u' hv (by simpa using hu'))
  · have e1 : renW σ v = renV σ 3 v := by cases v <;> first | rfl | exact absurd ⟨_, rfl⟩ ht
    have e2 : okW σ ρ m v = okV σ ρ m 3 v := by cases v <;> first | rfl | exact absurd ⟨_, rfl⟩ ht
    rw [e1]
    rw [e2] at h
    exact renV_ok 3 v h

/-- Value and heap behind a call are these, under whatever numbers behind the first ones. -/
def NewSt (k : Nat) (os : List AObj) (v : Value) (v' : Value) (h' : AH) : Prop :=
  ∃ ρ σ : Nat → Nat, fixB ρ k = true ∧ injB ρ os.length = true ∧ npB h' ρ os.length = true ∧ renW σ v' = v ∧ okW σ ρ os.length v' = true ∧ ObsOk ρ os.length h' 0 os

theorem says_ren {f : FuncId} {args : List Value} {v : Value} {os0 os : List AObj} (hpre : ∀ (j : Nat) o, os0[j]? = some o → os[j]? = some o) (L : Local P os0.length f args (hp os0) (NewSt os0.length os v)) : Says P (hp os0) f args v (hp os) := by
  intro F w0 μ w args' H hl
  refine (L F w0 μ w args' H hl).mono fun v' w' ⟨u, h', ⟨ρ, σ, hf, hi, hn, e1, e2, ob⟩, μ1, hv, H', K⟩ => ?_
  have hle : os0.length ≤ os.length := by
    by_cases h0 : os0.length = 0
    · omega
    · have := hpre (os0.length - 1) _ (List.getElem?_eq_getElem (by omega))
      have := (List.getElem?_eq_some_iff.1 this).1
      omega
  have fix : ∀ j, j < os0.length → ρ j = j := fun j hj => Nat.eq_of_beq_eq_true (List.all_eq_true.1 hf j (List.mem_range.2 hj))
  have inj : ∀ i j, i < os.length → j < os.length → ρ i = ρ j → i = j := fun i j h1 h2 e => by
    have := List.all_eq_true.1 (List.all_eq_true.1 hi i (List.mem_range.2 h1)) j (List.mem_range.2 h2)
    rw [Bool.or_eq_true] at this
    rcases this with q | q
    · exact Nat.eq_of_beq_eq_true q
    · rw [e, Nat.beq_refl] at q; cases q
  have H2 := H'.renum (os := os) ρ inj (fun j o ho => by have := obs_at ob j o ho; rwa [Nat.zero_add] at this) (fun a c ha hc hne cs lv p ty hg hm => by
    have := List.all_eq_true.1 (List.all_eq_true.1 hn a (List.mem_range.2 ha)) c (List.mem_range.2 hc)
    rw [Bool.or_eq_true] at this
    rcases this with q | q
    · exact hne (Nat.eq_of_beq_eq_true q)
    · rw [hg] at q
      have : ((parsOf (.cells cs lv p ty)).any fun q => Nat.beq q (ρ c)) = true := List.any_eq_true.2 ⟨_, hm, Nat.beq_refl _⟩
      rw [this] at q; cases q)
  have hR : VR (μ1.by ρ os.length) v v' := e1 ▸ renW_ok (σ := σ) e2 μ1 v' hv
  have eqμ : ∀ i, i < os0.length → μ1.by ρ os.length i = μ i := fun i hi => by rw [by_lt (by omega), fix i hi]; exact (K i hi).1
  refine ⟨_, hR, H2, ⟨fun i p hp => ?_, by rw [hp_next, hp_next]; exact hle, fun i hi hm => ?_⟩⟩
  · have : i < os0.length := by have := H.dom i p hp; rwa [hp_next] at this
    rw [eqμ i this]; exact hp
  · rw [hp_next] at hi
    refine ⟨by rw [eqμ i hi]; exact hm, ?_⟩
    rw [hp_get os0 i _ (List.getElem?_eq_getElem hi), hp_get os i _ (hpre i _ (List.getElem?_eq_getElem hi))]
end
end Go.R
