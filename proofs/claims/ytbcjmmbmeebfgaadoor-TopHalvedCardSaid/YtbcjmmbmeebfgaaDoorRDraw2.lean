/- A region in any order its edges allow. -/
import Derived.Test.YtbcjmmbmeebfgaaDoorRDraw
namespace Go.R
set_option linter.unusedVariables false
set_option linter.unusedSimpArgs false
open Go Go.RowKit

theorem maskOf_bits (L : Nat → Prop) {ms : List Nat} : ∀ {l : List Edge}, (∀ e ∈ l, Region.binds .any e = true → L e.on) →
    (∀ e ∈ l, Region.binds .any e = true → ∀ j, (ms.getD e.on 0).testBit j = true → L j) → ∀ j, (maskOf ms l).testBit j = true → L j
  | [], _, _, j, h => by simp [maskOf] at h
  | e :: l, h1, h2, j, h => by
    simp only [maskOf] at h
    split at h
    · rename_i hb
      simp only [Nat.testBit_or, Bool.or_eq_true] at h
      rcases h with h | h | h
      · rw [Nat.testBit_shiftLeft] at h
        have e1 : j = e.on := by
          simp only [Bool.and_eq_true, decide_eq_true_eq] at h
          obtain ⟨a, b⟩ := h
          have := Nat.testBit_one_eq_true_iff_self_eq_zero.1 b
          omega
        subst e1; exact h1 e (by simp) hb
      · exact h2 e (by simp) hb j h
      · exact maskOf_bits L (fun e he => h1 e (by simp [he])) (fun e he => h2 e (by simp [he])) j h
    · exact maskOf_bits L (fun e he => h1 e (by simp [he])) (fun e he => h2 e (by simp [he])) j h

theorem masks_pre : ∀ (l : List Oper) (ms : List Nat), (masks l ms).length = ms.length + l.length ∧ (∀ i, i < ms.length → (masks l ms)[i]? = ms[i]?) ∧
    ∀ i o, l[i]? = some o → ∃ pre : List Nat, (masks l ms)[ms.length + i]? = some (maskOf pre o.after.toList) ∧ pre.length = ms.length + i ∧ ∀ j, j < pre.length → pre[j]? = (masks l ms)[j]?
  | [], ms => ⟨by simp [masks], fun _ _ => rfl, fun i o h => by simp at h⟩
  | o :: l, ms => by
    obtain ⟨h1, h2, h3⟩ := masks_pre l (ms ++ [maskOf ms o.after.toList])
    simp only [masks]
    simp only [List.length_append, List.length_cons, List.length_nil] at h1 h2 h3
    refine ⟨by rw [h1]; simp; omega, fun i hi => ?_, fun i o' hi => ?_⟩
    · rw [h2 i (by omega), List.getElem?_append_left hi]
    · cases i with
      | zero =>
        simp only [List.getElem?_cons_zero, Option.some.injEq] at hi
        subst hi
        refine ⟨ms, ?_, by simp, fun j hj => ?_⟩
        · rw [h2 _ (by omega)]; simp
        · rw [h2 j (by omega), List.getElem?_append_left hj]
      | succ i =>
        rw [List.getElem?_cons_succ] at hi
        obtain ⟨pre, q1, q2, q3⟩ := h3 i o' hi
        exact ⟨pre, by rw [← q1]; congr 1; omega, by rw [q2]; omega, q3⟩

/-- What must be listed ahead of an operation whose own edges are met. -/
theorem has_listed {ops : Array Oper} {L : Nat → Prop} (hback : ∀ (i : Nat) o, ops[i]? = some o → ∀ e ∈ o.after, Region.binds .any e = true → e.on < i)
    (hdown : ∀ (i : Nat) o, L i → ops[i]? = some o → ∀ e ∈ o.after, Region.binds .any e = true → L e.on) :
    ∀ (n i : Nat) o, i < n → ops[i]? = some o → (∀ e ∈ o.after, Region.binds .any e = true → L e.on) → ∀ j, has (masks ops.toList []) i j = true → L j := by
  intro n
  induction n with
  | zero => intro i o hi; omega
  | succ n ih =>
    intro i o hi ho hr j hj
    obtain ⟨h1, _, h3⟩ := masks_pre ops.toList []
    obtain ⟨pre, q1, q2, q3⟩ := h3 i o (by simpa using ho)
    simp only [List.length_nil, Nat.zero_add] at q1 q2 h1
    unfold has at hj
    rw [List.getD_eq_getElem?_getD, q1] at hj
    refine maskOf_bits L (ms := pre) (l := o.after.toList) (fun e he hb => hr e (by simpa using he) hb) (fun e he hb k hk => ?_) j hj
    have hlt := hback i o ho e (by simpa using he) hb
    have hL := hr e (by simpa using he) hb
    have hsz : i < ops.size := (Array.getElem?_eq_some_iff.1 ho).1
    obtain ⟨o', ho'⟩ : ∃ o', ops[e.on]? = some o' := ⟨ops[e.on]'(by omega), Array.getElem?_eq_getElem (by omega)⟩
    refine ih e.on o' (by omega) ho' (hdown e.on o' hL ho') k ?_
    unfold has
    rw [List.getD_eq_getElem?_getD] at hk ⊢
    rwa [← q3 e.on (by omega)]

theorem statOk_spec {ops : Array Oper} {ms : List Nat} (h : statOk ops ms = true) {i : Nat} {o : Oper} (ho : ops[i]? = some o) :
    (∀ e ∈ o.after, Region.binds .any e = true → e.on < i) ∧
    ∀ (j : Nat) p, ops[j]? = some p → (∀ d, p.dst = some d → d ∈ o.looksAt ops → j = i ∨ has ms i j = true ∨ has ms j i = true) ∧ (j ≠ i → ∀ d, p.dst = some d → o.dst ≠ some d) ∧
      (light o.op = false → light p.op = false → j < i → has ms i j = true) := by
  simp only [statOk, List.all_eq_true, List.mem_range] at h
  have h1 := h i (Array.getElem?_eq_some_iff.1 ho).1
  simp only [ho, statOp, Bool.and_eq_true, List.all_eq_true, List.mem_range] at h1
  obtain ⟨ha, hb⟩ := h1
  refine ⟨fun e he hbd => ?_, fun j p hp => ?_⟩
  · have := ha e (by simpa using he)
    simp only [Bool.or_eq_true, Bool.not_eq_true', Nat.blt_eq] at this
    rcases this with h | h
    · rw [hbd] at h; cases h
    · exact h
  · have := hb j (Array.getElem?_eq_some_iff.1 hp).1
    simp only [hp, Bool.and_eq_true] at this
    obtain ⟨⟨c1, c2⟩, c3⟩ := this
    refine ⟨fun d hd hm => ?_, fun hne d hd => ?_, fun ho' hp' hlt => ?_⟩
    · simp only [hd, Bool.or_eq_true, Bool.not_eq_true', beq_iff_eq] at c1
      rcases c1 with c | c
      · exact absurd (List.contains_iff_mem.2 hm) (by rw [c]; simp)
      · exact c
    · simp only [hd, Bool.or_eq_true, beq_iff_eq, bne_iff_ne] at c2
      exact c2.resolve_left hne
    · simp only [ho', hp', Bool.false_or, Bool.or_eq_true, Bool.not_eq_true'] at c3
      rcases c3 with c | c
      · have : Nat.blt j i = true := by rw [Nat.blt_eq]; exact hlt
        rw [c] at this; cases this
      · exact c
end Go.R
