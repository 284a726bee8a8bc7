/- Calls that change objects they were handed, told at one heap: with the same objects, or with new ones besides. -/
import Derived.Test.YtbcjmmbmeebfgaaGreatDoorSNarrowedRLast
namespace Go.R
set_option linter.unusedVariables false
set_option linter.unusedSimpArgs false
open Go Go.RowKit
noncomputable section
variable {P : Program}

/-- No new object. -/
theorem says_put {f : FuncId} {args : List Value} {v : Value} {os0 os : List AObj} (hlen : os.length = os0.length) (L : Local P os0.length f args (hp os0) fun v' h' => v' = v ∧ ∀ (j : Nat) o, os[j]? = some o → h'.get j = o)
    (ca : ∀ x ∈ args, Clo os0.length x) (c1 : ∀ o ∈ os0, CloO os0.length o) (c2 : ∀ o ∈ os, CloO os0.length o) (cv : Clo os0.length v)
    (chg : ∀ (j : Nat) o o', os0[j]? = some o → os[j]? = some o' → o' = o ∨ o.wr = true) : Says P (hp os0) f args v (hp os) := by
  have at0 : ∀ i, i < os0.length → (hp os0).get i = os0[i]?.getD .dead ∧ CloO os0.length ((hp os0).get i) := fun i hi => by
    have ho : os0[i]? = some os0[i] := List.getElem?_eq_getElem hi
    rw [hp_get os0 i _ ho, ho]
    exact ⟨rfl, c1 _ (List.getElem_mem hi)⟩
  have at1 : ∀ i, i < os0.length → CloO os0.length ((hp os).get i) := fun i hi => by
    have hi' : i < os.length := by omega
    have ho : os[i]? = some os[i] := List.getElem?_eq_getElem hi'
    rw [hp_get os i _ ho]
    exact c2 _ (List.getElem_mem hi')
  intro F w0 μ w args' H hl
  refine L.framed (h2 := hp os) (v := v) (fun v' h' r => ⟨r.1, fun i hi => ?_⟩) (hp_next os0) (by rw [hp_next]; exact Nat.le_refl _) (fun _ _ => rfl) ca (fun i hi => (at0 i hi).2) at1 cv (fun i hi => ?_) (by rw [hp_next, hp_next]; exact hlen) (fun i hi => ?_) H hl
  · have hi' : i < os.length := by omega
    have ho : os[i]? = some os[i] := List.getElem?_eq_getElem hi'
    rw [r.2 i _ ho, hp_get os i _ ho]
  · have hi' : i < os.length := by omega
    have ho : os[i]? = some os[i] := List.getElem?_eq_getElem hi'
    have ho0 : os0[i]? = some os0[i] := List.getElem?_eq_getElem hi
    rw [hp_get os i _ ho, hp_get os0 i _ ho0]
    exact chg i _ _ ho0 ho
  · have none_ : ∀ (l : List AObj), l.length ≤ i → (hp l).get i = .dead := fun l hl => by
      unfold hp
      rw [mkHp_get]
      have h0 : ¬ i < AH.empty.next := Nat.not_lt_zero i
      rw [if_neg h0]
      have : l[i - AH.empty.next]? = none := by
        apply List.getElem?_eq_none
        show l.length ≤ i - 0
        omega
      rw [this]
      rfl
    rw [none_ os (by omega), none_ os0 hi]

/-- Some objects of the first ones change, others are born. -/
theorem says_chg {f : FuncId} {args : List Value} {v : Value} {os0 os : List AObj} (hle : os0.length ≤ os.length)
    (hpre : ∀ (j : Nat) o, os0[j]? = some o → os[j]? = some o ∨ ∃ (q : Nat) (u : Value), args[q]? = some u ∧ Born j u) (L : Local P os0.length f args (hp os0) (NewSt os0.length os v)) : Says P (hp os0) f args v (hp os) := by
  intro F w0 μ w args' H hl
  refine (L F w0 μ w args' H hl).mono fun v' w' ⟨u, h', ⟨ρ, σ, hf, hi, hn, e1, e2, ob⟩, μ1, hv, H', K⟩ => ?_
  have fix : ∀ j, j < os0.length → ρ j = j := fun j hj => Nat.eq_of_beq_eq_true (List.all_eq_true.1 hf j (List.mem_range.2 hj))
  have inj : ∀ i j, i < os.length → j < os.length → ρ i = ρ j → i = j := fun i j h1 h2 e => by
    have := List.all_eq_true.1 (List.all_eq_true.1 hi i (List.mem_range.2 h1)) j (List.mem_range.2 h2)
    rw [Bool.or_eq_true] at this
    rcases this with q | q
    · exact Nat.eq_of_beq_eq_true q
    · rw [e, Nat.beq_refl] at q; cases q
  have H2 := H'.renum (os := os) ρ inj (fun j o ho => by have := obs_at ob j o ho; rwa [Nat.zero_add] at this) (fun a c ha hc hne cs lv p ty hg hm => by
    have := List.all_eq_true.1 (List.all_eq_true.1 hn a (List.mem_range.2 ha)) c (List.mem_range.2 hc)
    rw [Bool.or_eq_true] at this
    rcases this with q | q
    · exact hne (Nat.eq_of_beq_eq_true q)
    · rw [hg] at q
      have : ((parsOf (.cells cs lv p ty)).any fun q => Nat.beq q (ρ c)) = true := List.any_eq_true.2 ⟨_, hm, Nat.beq_refl _⟩
      rw [this] at q; cases q)
  have hR : VR (μ1.by ρ os.length) v v' := e1 ▸ renW_ok (σ := σ) e2 μ1 v' hv
  have eqμ : ∀ i, i < os0.length → μ1.by ρ os.length i = μ i := fun i hi => by rw [by_lt (by omega), fix i hi]; exact (K i hi).1
  refine ⟨_, hR, H2, ⟨fun i p hp => ?_, by rw [hp_next, hp_next]; exact hle, fun i hi hm => ?_⟩⟩
  · have : i < os0.length := by have := H.dom i p hp; rwa [hp_next] at this
    rw [eqμ i this]; exact hp
  · rw [hp_next] at hi
    refine ⟨by rw [eqμ i hi]; exact hm, ?_⟩
    rcases hpre i _ (List.getElem?_eq_getElem hi) with h1 | ⟨q, u2, hq, hb⟩
    · rw [hp_get os0 i _ (List.getElem?_eq_getElem hi), hp_get os i _ h1]
    · exfalso
      have hlt : q < args.length := (List.getElem?_eq_some_iff.1 hq).1
      obtain ⟨x, hx⟩ : ∃ x, (args'.toList)[q]? = some x := ⟨_, List.getElem?_eq_getElem (by rw [← hl.1]; exact hlt)⟩
      exact hb μ x (hl.2 q u2 x hq hx) hm
end
end Go.R
