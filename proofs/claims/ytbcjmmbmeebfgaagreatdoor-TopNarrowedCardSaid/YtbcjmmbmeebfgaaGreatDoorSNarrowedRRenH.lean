/- A heap under other numbers. -/
import Derived.Test.YtbcjmmbmeebfgaaGreatDoorSNarrowedRG6
namespace Go.R
set_option linter.unusedVariables false
set_option linter.unusedSimpArgs false
open Go Go.RowKit
noncomputable section
variable {P : Program}

/-- A heap under other numbers. -/
theorem HR.renum {F : Nat → Prop} {w0 w : World} {μ : Mp} {h : AH} {os : List AObj} (H : HR F w0 μ h w) (ρ : Nat → Nat) (inj : ∀ i j, i < os.length → j < os.length → ρ i = ρ j → i = j)
    (ob : ∀ (j : Nat) o, os[j]? = some o → RenO ρ os.length (h.get (ρ j)) o)
    (np : ∀ i j, i < os.length → j < os.length → i ≠ j → ∀ c lv p ty, h.get (ρ i) = .cells c lv p ty → ρ j ∉ p) : HR F w0 (μ.by ρ os.length) (hp os) w := by
  have hget : ∀ i, i < os.length → ∃ o, os[i]? = some o ∧ (hp os).get i = o := fun i hi => ⟨os[i], List.getElem?_eq_getElem hi, hp_get os i _ (List.getElem?_eq_getElem hi)⟩
  have cutS : ∀ {i p}, μ.by ρ os.length i = some p → i < os.length ∧ μ (ρ i) = some p := by
    intro i p hi
    unfold Mp.by at hi
    split at hi
    · rename_i hlt; exact ⟨hlt, hi⟩
    · cases hi
  refine ⟨fun i p hi => by rw [hp_next]; exact (cutS hi).1, fun i b z e hi => ?_, fun i b z e hi hw => ?_, fun i j b zi ei zj ej hne hi hj => ?_, fun i c l p ty hi hg j hj => ?_,
    H.os, H.tape, H.output, H.size, H.fr, H.tab⟩
  · obtain ⟨hlt, hm⟩ := cutS hi
    obtain ⟨o, ho, hg⟩ := hget i hlt
    rw [hg]
    have hr := ob i o ho
    have hob := H.obj (ρ i) b z e hm
    cases hx : h.get (ρ i) with
    | cells c live par ty =>
      rw [hx] at hr hob
      cases o with
      | cells c' live' par' ty' =>
        obtain ⟨e1, e2, e3, e4, e5⟩ := hr
        obtain ⟨cs, el, fr, h1, h2, h3, h4, h5, h6⟩ := hob
        refine ⟨cs, el, fr, h1, by omega, h3, fun q v hq => ?_, fun hl => h5 (e3 hl), fun t ht => ?_⟩
        · have hlt' : q < c.length := by rw [e1]; exact (List.getElem?_eq_some_iff.1 hq).1
          obtain ⟨v', g1, g2⟩ := h4 q c[q] (List.getElem?_eq_getElem hlt')
          exact ⟨v', g1, e2 q _ _ (List.getElem?_eq_getElem hlt') hq μ v' g2⟩
        · rcases e5 with e5 | e5
          · rw [e5] at ht; cases ht
          · exact h6 t (e5 ▸ ht)
      | dead => trivial
      | map es => exact hr.elim
      | str s p => exact hr.elim
      | ghost t => exact hr.elim
    | map es => rw [hx] at hr; cases o <;> first | trivial | exact hr.elim
    | str s p => rw [hx] at hr; cases o <;> first | trivial | exact hr.elim
    | ghost t => rw [hx] at hr; cases o <;> first | trivial | exact hr.elim
    | dead => rw [hx] at hr; cases o <;> first | trivial | exact hr.elim
  · obtain ⟨hlt, hm⟩ := cutS hi
    obtain ⟨o, ho, hg⟩ := hget i hlt
    rw [hg] at hw
    exact H.own (ρ i) b z e hm ((ob i o ho).wr hw)
  · obtain ⟨hlt, hm⟩ := cutS hi
    obtain ⟨hlt', hm'⟩ := cutS hj
    obtain ⟨x, hx, hgx⟩ := hget i hlt
    obtain ⟨y, hy, hgy⟩ := hget j hlt'
    rw [hgx, hgy]
    have rx := ob i x hx
    have ry := ob j y hy
    have hne' : ρ i ≠ ρ j := fun e => hne (inj i j hlt hlt' e)
    have dead_of : ∀ {o o' : AObj}, RenO ρ os.length o o' → o = .dead → o' = .dead := by
      intro o o' hr he; subst he; cases o' <;> first | rfl | exact hr.elim
    rcases H.sep (ρ i) (ρ j) b zi ei zj ej hne' hm hm' with s | s | s
    · cases hxx : h.get (ρ i) with
      | dead => rw [dead_of rx hxx]; exact .inl (by unfold share; trivial)
      | cells c lv p ty =>
        rw [hxx] at s
        cases hyy : h.get (ρ j) with
        | cells c' lv' p' ty' =>
          rw [hyy] at s
          cases lv <;> cases lv' <;> simp only [share] at s
          exact absurd s.1 (np i j hlt hlt' hne _ _ _ _ hxx)
        | dead => rw [dead_of ry hyy]; exact .inr (.inl (by unfold share; trivial))
        | map es => rw [hyy] at s; cases lv <;> exact s.elim
        | str _ _ => rw [hyy] at s; cases lv <;> exact s.elim
        | ghost _ => rw [hyy] at s; cases lv <;> exact s.elim
      | map es => rw [hxx] at s; exact s.elim
      | str _ _ => rw [hxx] at s; exact s.elim
      | ghost _ => rw [hxx] at s; exact s.elim
    · cases hyy : h.get (ρ j) with
      | dead => rw [dead_of ry hyy]; exact .inr (.inl (by unfold share; trivial))
      | cells c lv p ty =>
        rw [hyy] at s
        cases hxx : h.get (ρ i) with
        | cells c' lv' p' ty' =>
          rw [hxx] at s
          cases lv <;> cases lv' <;> simp only [share] at s
          exact absurd s.1 (np j i hlt' hlt (Ne.symm hne) _ _ _ _ hyy)
        | dead => rw [dead_of rx hxx]; exact .inl (by unfold share; trivial)
        | map es => rw [hxx] at s; cases lv <;> exact s.elim
        | str _ _ => rw [hxx] at s; cases lv <;> exact s.elim
        | ghost _ => rw [hxx] at s; cases lv <;> exact s.elim
      | map es => rw [hyy] at s; exact s.elim
      | str _ _ => rw [hyy] at s; exact s.elim
      | ghost _ => rw [hyy] at s; exact s.elim
    · refine .inr (.inr ⟨?_, ?_⟩)
      · cases hq : x.wr with
        | false => rfl
        | true => rw [rx.wr hq] at s; cases s.1
      · cases hq : y.wr with
        | false => rfl
        | true => rw [ry.wr hq] at s; cases s.2
  · have hi' : i < os.length := by
      unfold Mp.by at hi
      split at hi
      · rename_i hlt; exact hlt
      · exact absurd rfl hi
    obtain ⟨o, ho, hg'⟩ := hget i hi'
    rw [hg'] at hg
    have hr := ob i o ho
    rw [hg] at hr
    cases hx : h.get (ρ i) <;> rw [hx] at hr <;> first | exact hr.elim | skip
    rw [hr.2.2.2.1] at hj
    cases hj
end
end Go.R
