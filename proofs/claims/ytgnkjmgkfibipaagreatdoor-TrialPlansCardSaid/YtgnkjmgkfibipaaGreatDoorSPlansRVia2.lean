/- Regions with told calls, some of one and the same function with other arguments. -/
import Derived.Test.YtgnkjmgkfibipaaGreatDoorSPlansRHid8
namespace Go.R
set_option linter.unusedVariables false
set_option linter.unusedSimpArgs false
open Go Go.RowKit
noncomputable section
variable {P : Program}

/-- Whom the told steps call, and with what. -/
def whoL : List Via → List (FuncId × List Value)
  | [] => []
  | e :: l => match e.who with
    | some p => p :: whoL l
    | none => whoL l

theorem told_who {call : CallF} {c : Code} {af : AF} {ov : List Via} : ∀ l : List Via, (told P call c af ov l).map (fun p => (p.1, p.2.1)) = whoL l
  | [] => rfl
  | e :: l => by
    unfold told whoL
    split
    · rename_i f args hw
      simp only [hw, List.map_cons, told_who l]
    · rename_i hw
      simp only [hw, told_who l]

theorem anyOf_at2 : ∀ {S : List (FuncId × List Value × AH × Value × AH)} {base : CallF}, (S.map fun p => (p.1, p.2.1)).Pairwise (· ≠ ·) → ∀ p ∈ S, anyOf S base p.1 p.2.1 p.2.2.1 = some (p.2.2.2.1, p.2.2.2.2)
  | [], _, _, p, hp => by cases hp
  | (f0, args0, h0, v0, h1) :: S, base, ha, p, hp => by
    rw [List.map_cons, List.pairwise_cons] at ha
    show callAt f0 args0 h0 v0 h1 (anyOf S base) p.1 p.2.1 p.2.2.1 = _
    rcases List.mem_cons.1 hp with rfl | hp
    · simp only [callAt, and_self, if_true]
    · unfold callAt
      rw [if_neg (fun q => ha.1 (p.1, p.2.1) (List.mem_map_of_mem (f := fun p => (p.1, p.2.1)) hp) (by rw [q.1, q.2.1]))]
      exact anyOf_at2 ha.2 p hp

theorem opsV_opsL2 {call : CallF} {c : Code} {af : AF} {ov : List Via} (ha : (whoL ov).Pairwise (· ≠ ·)) (ob : OblV P call c af ov ov) : ∀ (m : Nat) (b : AF), opsV P call (regOps c) ov (foes ov) 0 ((regOps c).toList.take m) af = some b →
    (opsL P (anyOf (told P call c af ov ov) call) (regOps c) ((regOps c).toList.take m) af).map (·.1) = some b
  | 0, b, h => by simpa [opsV, opsL] using h
  | m + 1, b, h => by
    by_cases hm : m < (regOps c).toList.length
    · have et : (regOps c).toList.take (m + 1) = (regOps c).toList.take m ++ [(regOps c).toList[m]] := by rw [List.take_succ_eq_append_getElem hm]
      rw [et] at h ⊢
      rw [opsV_app, Nat.zero_add, List.length_take, Nat.min_eq_left (Nat.le_of_lt hm)] at h
      cases hb : opsV P call (regOps c) ov (foes ov) 0 ((regOps c).toList.take m) af with
      | none => rw [hb] at h; cases h
      | some b0 =>
        rw [hb] at h
        simp only [Option.bind_some] at h
        refine opsL_app _ _ af b0 b (opsV_opsL2 ha ob m b0 hb) ?_
        have hpre : preV P call c ov af m = b0 := by unfold preV; rw [hb]; rfl
        have hop : opAt c m = (regOps c).toList[m] := by
          unfold opAt
          rw [Array.getD_eq_getD_getElem?, ← Array.getElem?_toList, List.getElem?_eq_getElem hm]
          rfl
        generalize ho : (regOps c).toList[m] = o at h hop ⊢
        simp only [opsV] at h
        simp only [opsL]
        cases hw : wantedA (regOps c) b0.tm o with
        | none => rw [hw] at h; cases h
        | some w =>
          rw [hw] at h
          cases w with
          | false =>
            simp only [Option.some.injEq] at h
            simp only [Option.map_some, h]
          | true =>
            simp only at h ⊢
            have fin : ∀ v h', stepA P (anyOf (told P call c af ov ov) call) (evalA b0.tm) o.op b0.h = some (v, h') → b0.put o.dst v h' = b →
                Option.map (·.1) (match stepA P (anyOf (told P call c af ov ov) call) (evalA b0.tm) o.op b0.h with
                  | some (v, h) => some (b0.put o.dst v h, [b0, b0.put o.dst v h])
                  | none => none) = some b := by
              intro v h' e1 e2
              rw [e1]
              simp only [Option.map_some, e2]
            cases hv : viaAt ov m with
            | some e =>
              rw [hv] at h
              simp only [Option.some.injEq] at h
              obtain ⟨hmem, hno⟩ := viaAt_mem hv
              have hs := oblV_at ob e hmem
              rw [hno, hpre, hop] at hs
              refine fin e.v (hOr b0.h e.h) ?_ h
              unfold Shown at hs
              cases hwho : e.who with
              | none =>
                rw [hwho] at hs
                unfold stepA
                rw [hs.1]
                exact hs.2
              | some p =>
                obtain ⟨f, args⟩ := p
                rw [hwho] at hs
                obtain ⟨⟨cc, q1, q2⟩, _⟩ := hs
                have hmt := told_mem (P := P) (call := call) (c := c) (af := af) (ov := ov) hmem hwho
                rw [hno, hpre] at hmt
                have := anyOf_at2 (S := told P call c af ov ov) (base := call) (by rw [told_who]; exact ha) _ hmt
                unfold stepA
                rw [q1]
                simp only [q2]
                exact this
            | none =>
              rw [hv] at h
              simp only at h
              cases hcl : clear (foes ov) (evalA b0.tm) o.op with
              | false => rw [hcl] at h; cases h
              | true =>
                rw [hcl] at h
                simp only at h
                cases hst : stepA P call (evalA b0.tm) o.op b0.h with
                | none => rw [hst] at h; cases h
                | some r =>
                  obtain ⟨v, h'⟩ := r
                  rw [hst] at h
                  simp only [Option.some.injEq] at h
                  refine fin v h' ?_ h
                  rw [← hst]
                  unfold stepA
                  unfold clear at hcl
                  cases hco : callOp? o.op with
                  | none => rfl
                  | some cc =>
                    rw [hco] at hcl
                    simp only at hcl ⊢
                    cases hce : callee? (evalA b0.tm) cc with
                    | none => rfl
                    | some q =>
                      obtain ⟨f, args⟩ := q
                      rw [hce] at hcl
                      simp only at hcl ⊢
                      exact anyOf_other (by rw [told_ids]; exact notIn_mem hcl)
    · have et : ∀ j, (regOps c).toList.length ≤ j → (regOps c).toList.take j = (regOps c).toList := fun j hj => List.take_of_length_le hj
      rw [et (m + 1) (by omega), ← et m (by omega)] at h ⊢
      exact opsV_opsL2 ha ob m b h


theorem Runs.rg2 (hm : P.follows .mixedOrders = true) {call : CallF} (hc : CallOk P call) {k : Nat} {c : Code} {af : AF} {Q : AExit → AF → Prop} (ov : List Via) (hk : Nat.ble k af.h.next = true)
    (hg : regGood P c = true) (hw : (whoL ov).Pairwise (· ≠ ·)) (hs : (endV P call c ov af).isSome = true) (ob : OblV P call c af ov ov) (q : Q .normal (aftV P call c ov af)) : Runs P k c af Q := by
  have hle := Nat.le_of_ble_eq_true hk
  have hend : endV P call c ov af = some (aftV P call c ov af) := by
    unfold aftV
    cases h : endV P call c ov af with
    | none => rw [h] at hs; cases hs
    | some b => rfl
  have hL : (opsL P (anyOf (told P call c af ov ov) call) (regOps c) (regOps c).toList af).map (·.1) = some (aftV P call c ov af) := by
    have := opsV_opsL2 hw ob (regOps c).toList.length (aftV P call c ov af)
    rw [List.take_length] at this
    exact this hend
  have hcall := anyOf_ok hc (told_says ob)
  cases c with
  | region id ops dr =>
    cases dr with
    | false => exact Runs.regionL hm hcall hle hL q
    | true =>
      have h1 := hg
      simp only [regGood, Bool.and_eq_true, List.isEmpty_iff] at h1
      exact Runs.regionD0 hm hcall hle hL h1.1 h1.2 q
  | _ => cases hg


theorem Runs.sqR2 (hm : P.follows .mixedOrders = true) {call : CallF} (hc : CallOk P call) {k : Nat} {c : Code} {af : AF} {Q : AExit → AF → Prop} (ov : List Via) (hk : Nat.ble k af.h.next = true)
    (hg : (isSeq c && regGood P (hd c)) = true) (hw : (whoL ov).Pairwise (· ≠ ·)) (hs : (endV P call (hd c) ov af).isSome = true) (ob : OblV P call (hd c) af ov ov) (q : Runs P k (tl c) (aftV P call (hd c) ov af) Q) : Runs P k c af Q := by
  rw [Bool.and_eq_true] at hg
  exact Runs.sq hg.1 (Runs.rg2 hm hc ov hk hg.2 hw hs ob q)
end
end Go.R
