/- TopFlooded: the first places of a region are in order; which graphs they make. -/
import Derived.Test.YtbcjmmbmeebfgaaGreatDoorSFloodedUF5
import Derived.Test.YtbcjmmbmeebfgaaGreatDoorSFloodedKCnt0
import Derived.Test.YtbcjmmbmeebfgaaGreatDoorSFloodedKCnt1
import Derived.Test.YtbcjmmbmeebfgaaGreatDoorSFloodedKCnt2
import Derived.Test.YtbcjmmbmeebfgaaGreatDoorSFloodedKCnt3
import Derived.Test.YtbcjmmbmeebfgaaGreatDoorSFloodedKCnt4
import Derived.Test.YtbcjmmbmeebfgaaGreatDoorSFloodedKCnt5
import Derived.Test.YtbcjmmbmeebfgaaGreatDoorSFloodedKCnt6
import Derived.Test.YtbcjmmbmeebfgaaGreatDoorSFloodedKCnt7
namespace Go.Proofs.YtbcjmmbmeebfgaaGreatDoor
set_option linter.unusedVariables false
set_option linter.unusedSimpArgs false
open Go Go.R
set_option maxRecDepth 1000000
noncomputable section
/-- A list of places in order, in a square of side k. -/
structure Plc (k : Nat) (l : List Nat) : Prop where
  inc : l.Pairwise (· < ·)
  box : ∀ c ∈ l, c / 7 < k ∧ c % 7 < k
  few : l.length ≤ 4
theorem step_ok {k m x y : Nat} {A B C : Nat → Int} {L : List Nat} (hk : k ≤ 7) (P : Plc k L) (hb : ∀ c ∈ L, c < 7 * x + y) (hx : x < k) (hy : y < k) :
    Plc k (stepL m A B C L x y) ∧ ∀ c ∈ stepL m A B C L x y, c < 7 * x + (y + 1) := by
  unfold stepL
  split
  · rename_i ht
    rw [Bool.and_eq_true] at ht
    have hl := blt_lt ht.1
    refine ⟨⟨?_, ?_, ?_⟩, ?_⟩
    · rw [List.pairwise_append]
      exact ⟨P.inc, List.pairwise_singleton _ _, fun a ha b hb' => by rw [List.mem_singleton.1 hb']; exact hb a ha⟩
    · intro c hc
      rcases List.mem_append.1 hc with h | h
      · exact P.box c h
      · rw [List.mem_singleton.1 h]; omega
    · rw [List.length_append]; show _ + 1 ≤ 4; omega
    · intro c hc
      rcases List.mem_append.1 hc with h | h
      · have := hb c h; omega
      · rw [List.mem_singleton.1 h]; omega
  · exact ⟨P, fun c hc => by have := hb c hc; omega⟩
theorem scanY_ok {k m x : Nat} {A B C : Nat → Int} (hk : k ≤ 7) (hx : x < k) : ∀ d y L, y + d = k → Plc k L → (∀ c ∈ L, c < 7 * x + y) → Plc k (scanY m A B C x d y L) ∧ ∀ c ∈ scanY m A B C x d y L, c < 7 * x + k := by
  intro d
  induction d with
  | zero => intro y L hy P hb; exact ⟨P, fun c hc => by have := hb c hc; omega⟩
  | succ d ih =>
    intro y L hy P hb
    obtain ⟨P', hb'⟩ := step_ok (m := m) (A := A) (B := B) (C := C) hk P hb hx (by omega : y < k)
    exact ih (y + 1) _ (by omega) P' hb'
theorem scanX_ok {k m : Nat} {A B C : Nat → Int} (hk : k ≤ 7) : ∀ d x L, x + d = k → Plc k L → (∀ c ∈ L, c < 7 * x) → Plc k (scanX k m A B C d x L) := by
  intro d
  induction d with
  | zero => intro x L hx P hb; exact P
  | succ d ih =>
    intro x L hx P hb
    obtain ⟨P', hb'⟩ := scanY_ok (m := m) (A := A) (B := B) (C := C) hk (by omega : x < k) k 0 L (by omega) P (fun c hc => by have := hb c hc; omega)
    exact ih (x + 1) _ (by omega) P' (fun c hc => by have := hb' c hc; omega)
theorem firstL_ok {k m : Nat} {A B C : Nat → Int} (hk : k ≤ 7) : Plc k (firstL k m A B C) :=
  scanX_ok hk k 0 [] (by omega) ⟨List.Pairwise.nil, fun c hc => (by cases hc), by decide⟩ (fun c hc => (by cases hc))

/-! ### Who is at the edge, and who is next to whom -/
noncomputable def bdC (k c : Nat) : Bool := Nat.beq (c / 7) 0 || Nat.beq (c % 7) 0 || Nat.beq (c / 7 + 1) k || Nat.beq (c % 7 + 1) k
noncomputable def nxC (c d : Nat) : Bool := Nat.beq (c + 7) d || Nat.beq (d + 7) c || (Nat.beq (c + 1) d && !(Nat.beq (c % 7) 6)) || (Nat.beq (d + 1) c && !(Nat.beq (d % 7) 6))
theorem nxC_comm (c d : Nat) : nxC c d = nxC d c := by
  unfold nxC
  generalize Nat.beq (c + 7) d = p1
  generalize Nat.beq (d + 7) c = p2
  generalize (Nat.beq (c + 1) d && !(Nat.beq (c % 7) 6)) = p3
  generalize (Nat.beq (d + 1) c && !(Nat.beq (d % 7) 6)) = p4
  revert p1 p2 p3 p4; decide
theorem nbeq {a b : Nat} : Nat.beq a b = true ↔ a = b := ⟨Nat.eq_of_beq_eq_true, fun h => by rw [h]; exact Nat.beq_refl b⟩
theorem nxC_self (c : Nat) : nxC c c = false := by
  cases h : nxC c c with
  | false => rfl
  | true =>
    unfold nxC at h
    simp only [Bool.or_eq_true, Bool.and_eq_true, nbeq] at h
    omega
def AdjP (c d : Nat) : Prop := d = c + 7 ∨ (d = c + 1 ∧ c % 7 ≠ 6)
theorem nxC_lt {c d : Nat} (h : c < d) : nxC c d = true ↔ AdjP c d := by
  have e : nxC c d = true ↔ ((c + 7 = d ∨ d + 7 = c) ∨ (c + 1 = d ∧ ¬ c % 7 = 6)) ∨ (d + 1 = c ∧ ¬ d % 7 = 6) := by
    unfold nxC
    simp only [Bool.or_eq_true, Bool.and_eq_true, Bool.not_eq_true', ← Bool.not_eq_true, nbeq]
  rw [e]; unfold AdjP
  omega
noncomputable def aOf2 (b01 : Bool) : Nat := cond b01 6 0
noncomputable def aOf3 (b01 b02 b12 : Bool) : Nat := cond b01 10 0 + cond b02 68 0 + cond b12 160 0
noncomputable def aOf4 (b01 b02 b03 b12 b13 b23 : Bool) : Nat := cond b01 18 0 + cond b02 260 0 + cond b03 4104 0 + cond b12 576 0 + cond b13 8320 0 + cond b23 18432 0
theorem adj_2 (b01 : Bool) : aOf2 b01 ∈ adjL 2 := by
  cases b01 <;> exact List.elem_iff.1 (by kernel_rfl)
theorem adj_3 {c0 c1 c2 : Nat} (h1 : c0 < c1) (h2 : c1 < c2) {b01 b02 b12 : Bool} (e01 : b01 = true ↔ AdjP c0 c1) (e02 : b02 = true ↔ AdjP c0 c2) (e12 : b12 = true ↔ AdjP c1 c2) :
    aOf3 b01 b02 b12 ∈ adjL 3 := by
  unfold AdjP at e01 e02 e12
  cases b01 <;> cases b02 <;> cases b12 <;> first
    | (exact List.elem_iff.1 rfl)
    | (exfalso; simp only [Bool.false_eq_true, false_iff, true_iff] at e01 e02 e12; omega)
theorem adj_4 {c0 c1 c2 c3 : Nat} (h1 : c0 < c1) (h2 : c1 < c2) (h3 : c2 < c3) {b01 b02 b03 b12 b13 b23 : Bool} (e01 : b01 = true ↔ AdjP c0 c1) (e02 : b02 = true ↔ AdjP c0 c2) (e03 : b03 = true ↔ AdjP c0 c3)
    (e12 : b12 = true ↔ AdjP c1 c2) (e13 : b13 = true ↔ AdjP c1 c3) (e23 : b23 = true ↔ AdjP c2 c3) : aOf4 b01 b02 b03 b12 b13 b23 ∈ adjL 4 := by
  unfold AdjP at e01 e02 e03 e12 e13 e23
  cases b01 <;> cases b02 <;> cases b03 <;> cases b12 <;> cases b13 <;> cases b23 <;> first
    | (exact List.elem_iff.1 rfl)
    | (exfalso; simp only [Bool.false_eq_true, false_iff, true_iff] at e01 e02 e03 e12 e13 e23; omega)
theorem bits_4 (b0 b1 b2 b3 : Bool) : ∃ e, e < 16 ∧ b0 = Nat.testBit e 0 ∧ b1 = Nat.testBit e 1 ∧ b2 = Nat.testBit e 2 ∧ b3 = Nat.testBit e 3 :=
  ⟨cond b0 1 0 + cond b1 2 0 + cond b2 4 0 + cond b3 8 0, by revert b0 b1 b2 b3; decide, by revert b0 b1 b2 b3; decide, by revert b0 b1 b2 b3; decide, by revert b0 b1 b2 b3; decide, by revert b0 b1 b2 b3; decide⟩
theorem bits_3 (b0 b1 b2 : Bool) : ∃ e, e < 8 ∧ b0 = Nat.testBit e 0 ∧ b1 = Nat.testBit e 1 ∧ b2 = Nat.testBit e 2 :=
  ⟨cond b0 1 0 + cond b1 2 0 + cond b2 4 0, by revert b0 b1 b2; decide, by revert b0 b1 b2; decide, by revert b0 b1 b2; decide, by revert b0 b1 b2; decide⟩
theorem bits_2 (b0 b1 : Bool) : ∃ e, e < 4 ∧ b0 = Nat.testBit e 0 ∧ b1 = Nat.testBit e 1 :=
  ⟨cond b0 1 0 + cond b1 2 0, by revert b0 b1; decide, by revert b0 b1; decide, by revert b0 b1; decide⟩
theorem bits_1 (b0 : Bool) : ∃ e, e < 2 ∧ b0 = Nat.testBit e 0 :=
  ⟨cond b0 1 0, by revert b0; decide, by revert b0; decide⟩
theorem a2_bits : ∀ b01 : Bool, (aOf2 b01).testBit 0 = false ∧ (aOf2 b01).testBit 1 = b01 ∧ (aOf2 b01).testBit 2 = b01 ∧ (aOf2 b01).testBit 3 = false := by decide
theorem a3_bits : ∀ b01 b02 b12 : Bool, (aOf3 b01 b02 b12).testBit 0 = false ∧ (aOf3 b01 b02 b12).testBit 1 = b01 ∧ (aOf3 b01 b02 b12).testBit 2 = b02 ∧ (aOf3 b01 b02 b12).testBit 3 = b01 ∧ (aOf3 b01 b02 b12).testBit 4 = false ∧ (aOf3 b01 b02 b12).testBit 5 = b12 ∧ (aOf3 b01 b02 b12).testBit 6 = b02 ∧ (aOf3 b01 b02 b12).testBit 7 = b12 ∧ (aOf3 b01 b02 b12).testBit 8 = false := by decide
theorem a4_bits : ∀ b01 b02 b03 b12 b13 b23 : Bool, (aOf4 b01 b02 b03 b12 b13 b23).testBit 0 = false ∧ (aOf4 b01 b02 b03 b12 b13 b23).testBit 1 = b01 ∧ (aOf4 b01 b02 b03 b12 b13 b23).testBit 2 = b02 ∧ (aOf4 b01 b02 b03 b12 b13 b23).testBit 3 = b03 ∧ (aOf4 b01 b02 b03 b12 b13 b23).testBit 4 = b01 ∧ (aOf4 b01 b02 b03 b12 b13 b23).testBit 5 = false ∧ (aOf4 b01 b02 b03 b12 b13 b23).testBit 6 = b12 ∧ (aOf4 b01 b02 b03 b12 b13 b23).testBit 7 = b13 ∧ (aOf4 b01 b02 b03 b12 b13 b23).testBit 8 = b02 ∧ (aOf4 b01 b02 b03 b12 b13 b23).testBit 9 = b12 ∧ (aOf4 b01 b02 b03 b12 b13 b23).testBit 10 = false ∧ (aOf4 b01 b02 b03 b12 b13 b23).testBit 11 = b23 ∧ (aOf4 b01 b02 b03 b12 b13 b23).testBit 12 = b03 ∧ (aOf4 b01 b02 b03 b12 b13 b23).testBit 13 = b13 ∧ (aOf4 b01 b02 b03 b12 b13 b23).testBit 14 = b23 ∧ (aOf4 b01 b02 b03 b12 b13 b23).testBit 15 = false := by decide
/-- What the places make: numbers for the edge and for who is next to whom. -/
theorem graph_of {k : Nat} {l : List Nat} (P : Plc k l) (hne : 0 < l.length) : ∃ e a, e < 2 ^ l.length ∧ a ∈ adjL l.length ∧ (∀ i < l.length, bdC k (l.getD i 0) = e.testBit i) ∧
    ∀ i < l.length, ∀ j < l.length, nxC (l.getD i 0) (l.getD j 0) = a.testBit (i * l.length + j) := by
  have hf := P.few
  have hi := P.inc
  match l, hf, hi, hne with
  | [c0], _, _, _ =>
    obtain ⟨e, he, h0⟩ := bits_1 (bdC k c0)
    refine ⟨e, 0, he, List.elem_iff.1 (by kernel_rfl), ?_, ?_⟩
    · intro i hi
      match i, hi with
      | 0, _ => exact h0
    · intro i hi j hj
      match i, hi, j, hj with
      | 0, _, 0, _ => exact (nxC_self c0).trans (show false = Nat.testBit 0 0 by decide)
  | [c0, c1], _, hi, _ =>
    obtain ⟨e, he, h0, h1⟩ := bits_2 (bdC k c0) (bdC k c1)
    have hb := a2_bits (nxC c0 c1)
    refine ⟨e, aOf2 (nxC c0 c1), he, adj_2 _, ?_, ?_⟩
    · intro i hi
      match i, hi with
      | 0, _ => exact h0
      | 1, _ => exact h1
    · intro i hi j hj
      match i, hi, j, hj with
      | 0, _, 0, _ => exact (nxC_self c0).trans (hb.1).symm
      | 0, _, 1, _ => exact (rfl : nxC c0 c1 = _).trans (hb.2.1).symm
      | 1, _, 0, _ => exact ((nxC_comm c1 c0) : nxC c1 c0 = _).trans (hb.2.2.1).symm
      | 1, _, 1, _ => exact (nxC_self c1).trans (hb.2.2.2).symm
  | [c0, c1, c2], _, hi, _ =>
    obtain ⟨e, he, h0, h1, h2⟩ := bits_3 (bdC k c0) (bdC k c1) (bdC k c2)
    simp only [List.pairwise_cons, List.mem_cons, List.mem_nil_iff, or_false, List.mem_singleton] at hi
    have l01 : c0 < c1 := hi.1 c1 (.inl rfl)
    have l02 : c0 < c2 := hi.1 c2 (.inr rfl)
    have l12 : c1 < c2 := hi.2.1 c2 rfl
    have hb := a3_bits (nxC c0 c1) (nxC c0 c2) (nxC c1 c2)
    refine ⟨e, aOf3 (nxC c0 c1) (nxC c0 c2) (nxC c1 c2), he, adj_3 l01 l12 (nxC_lt l01) (nxC_lt l02) (nxC_lt l12), ?_, ?_⟩
    · intro i hi
      match i, hi with
      | 0, _ => exact h0
      | 1, _ => exact h1
      | 2, _ => exact h2
    · intro i hi j hj
      match i, hi, j, hj with
      | 0, _, 0, _ => exact (nxC_self c0).trans (hb.1).symm
      | 0, _, 1, _ => exact (rfl : nxC c0 c1 = _).trans (hb.2.1).symm
      | 0, _, 2, _ => exact (rfl : nxC c0 c2 = _).trans (hb.2.2.1).symm
      | 1, _, 0, _ => exact ((nxC_comm c1 c0) : nxC c1 c0 = _).trans (hb.2.2.2.1).symm
      | 1, _, 1, _ => exact (nxC_self c1).trans (hb.2.2.2.2.1).symm
      | 1, _, 2, _ => exact (rfl : nxC c1 c2 = _).trans (hb.2.2.2.2.2.1).symm
      | 2, _, 0, _ => exact ((nxC_comm c2 c0) : nxC c2 c0 = _).trans (hb.2.2.2.2.2.2.1).symm
      | 2, _, 1, _ => exact ((nxC_comm c2 c1) : nxC c2 c1 = _).trans (hb.2.2.2.2.2.2.2.1).symm
      | 2, _, 2, _ => exact (nxC_self c2).trans (hb.2.2.2.2.2.2.2.2).symm
  | [c0, c1, c2, c3], _, hi, _ =>
    obtain ⟨e, he, h0, h1, h2, h3⟩ := bits_4 (bdC k c0) (bdC k c1) (bdC k c2) (bdC k c3)
    simp only [List.pairwise_cons, List.mem_cons, List.mem_nil_iff, or_false, List.mem_singleton] at hi
    have l01 : c0 < c1 := hi.1 c1 (.inl rfl)
    have l02 : c0 < c2 := hi.1 c2 (.inr (.inl rfl))
    have l03 : c0 < c3 := hi.1 c3 (.inr (.inr rfl))
    have l12 : c1 < c2 := hi.2.1 c2 (.inl rfl)
    have l13 : c1 < c3 := hi.2.1 c3 (.inr rfl)
    have l23 : c2 < c3 := hi.2.2.1 c3 rfl
    have hb := a4_bits (nxC c0 c1) (nxC c0 c2) (nxC c0 c3) (nxC c1 c2) (nxC c1 c3) (nxC c2 c3)
    refine ⟨e, aOf4 (nxC c0 c1) (nxC c0 c2) (nxC c0 c3) (nxC c1 c2) (nxC c1 c3) (nxC c2 c3), he, adj_4 l01 l12 l23 (nxC_lt l01) (nxC_lt l02) (nxC_lt l03) (nxC_lt l12) (nxC_lt l13) (nxC_lt l23), ?_, ?_⟩
    · intro i hi
      match i, hi with
      | 0, _ => exact h0
      | 1, _ => exact h1
      | 2, _ => exact h2
      | 3, _ => exact h3
    · intro i hi j hj
      match i, hi, j, hj with
      | 0, _, 0, _ => exact (nxC_self c0).trans (hb.1).symm
      | 0, _, 1, _ => exact (rfl : nxC c0 c1 = _).trans (hb.2.1).symm
      | 0, _, 2, _ => exact (rfl : nxC c0 c2 = _).trans (hb.2.2.1).symm
      | 0, _, 3, _ => exact (rfl : nxC c0 c3 = _).trans (hb.2.2.2.1).symm
      | 1, _, 0, _ => exact ((nxC_comm c1 c0) : nxC c1 c0 = _).trans (hb.2.2.2.2.1).symm
      | 1, _, 1, _ => exact (nxC_self c1).trans (hb.2.2.2.2.2.1).symm
      | 1, _, 2, _ => exact (rfl : nxC c1 c2 = _).trans (hb.2.2.2.2.2.2.1).symm
      | 1, _, 3, _ => exact (rfl : nxC c1 c3 = _).trans (hb.2.2.2.2.2.2.2.1).symm
      | 2, _, 0, _ => exact ((nxC_comm c2 c0) : nxC c2 c0 = _).trans (hb.2.2.2.2.2.2.2.2.1).symm
      | 2, _, 1, _ => exact ((nxC_comm c2 c1) : nxC c2 c1 = _).trans (hb.2.2.2.2.2.2.2.2.2.1).symm
      | 2, _, 2, _ => exact (nxC_self c2).trans (hb.2.2.2.2.2.2.2.2.2.2.1).symm
      | 2, _, 3, _ => exact (rfl : nxC c2 c3 = _).trans (hb.2.2.2.2.2.2.2.2.2.2.2.1).symm
      | 3, _, 0, _ => exact ((nxC_comm c3 c0) : nxC c3 c0 = _).trans (hb.2.2.2.2.2.2.2.2.2.2.2.2.1).symm
      | 3, _, 1, _ => exact ((nxC_comm c3 c1) : nxC c3 c1 = _).trans (hb.2.2.2.2.2.2.2.2.2.2.2.2.2.1).symm
      | 3, _, 2, _ => exact ((nxC_comm c3 c2) : nxC c3 c2 = _).trans (hb.2.2.2.2.2.2.2.2.2.2.2.2.2.2.1).symm
      | 3, _, 3, _ => exact (nxC_self c3).trans (hb.2.2.2.2.2.2.2.2.2.2.2.2.2.2.2).symm
end
end Go.Proofs.YtbcjmmbmeebfgaaGreatDoor

/- TopFlooded: what is so of each graph of the first places of a region. -/
namespace Go.Proofs.YtbcjmmbmeebfgaaGreatDoor
set_option linter.unusedVariables false
set_option linter.unusedSimpArgs false
open Go Go.R
set_option maxRecDepth 1000000
noncomputable section
structure GoodG (n : Nat) (l : List (Nat × Nat)) (bd : Nat → Bool) : Prop where
  fit : FitP n l
  trap : TrapOk n l
  stuck : bitsN (stuckN n l) = stuckL n l bd
  trp : Nat.beq (trapS n l).2 0 = (stuckL n l bd).isEmpty
  cnt : ∀ cap, ok8 n cap l (cntV n l) = true
  det : eqF (cntV n l) 0 = !((stuckL n l bd).isEmpty)
theorem good_of {n e a : Nat} (hp : ((adjL n).all fun a => (List.range (2 ^ n)).all fun e => plainB n (gOf n e a) (fun i => e.testBit i)) = true)
    (hd : ((adjL n).all fun a => (List.range (2 ^ n)).all fun e => detB n (gOf n e a) (fun i => e.testBit i)) = true) (hc : ∀ cap, cntB n cap a = true) (he : e < 2 ^ n) (ha : a ∈ adjL n) : GoodG n (gOf n e a) (fun i => e.testBit i) := by
  have h1 := List.all_eq_true.1 (List.all_eq_true.1 hp a ha) e (List.mem_range.2 he)
  have h2 := List.all_eq_true.1 (List.all_eq_true.1 hd a ha) e (List.mem_range.2 he)
  have h3 : ∀ cap, ok8 n cap (gOf n e a) (cntV n (gOf n e a)) = true := fun cap => List.all_eq_true.1 (hc cap) e (List.mem_range.2 he)
  unfold plainB at h1
  simp only [Bool.and_eq_true] at h1
  obtain ⟨⟨⟨a1, a2⟩, a3⟩, a4⟩ := h1
  exact ⟨fit_of a1, trap_of a2, eq_of_beq a3, eq_of_beq a4, h3, eq_of_beq h2⟩
theorem cnt_all {n a : Nat} (ha : a ∈ adjL n) : ∀ cap, cntB n cap a = true := by
  match n, ha with
  | 0, ha => exact absurd (show a ∈ ([] : List Nat) from ha) (List.not_mem_nil)
  | 1, ha =>
    have e : a ∈ [0] := ha
    rw [List.mem_singleton.1 e]; exact cnt_1_0
  | 2, ha =>
    have e : a ∈ [0, 6] := ha
    simp only [List.mem_cons, List.not_mem_nil, or_false] at e
    rcases e with rfl | rfl
    · exact cnt_2_0
    · exact cnt_2_6
  | 3, ha =>
    have e : a ∈ [0, 10, 68, 78, 160, 170, 228] := ha
    simp only [List.mem_cons, List.not_mem_nil, or_false] at e
    rcases e with rfl | rfl | rfl | rfl | rfl | rfl | rfl
    · exact cnt_3_0
    · exact cnt_3_10
    · exact cnt_3_68
    · exact cnt_3_78
    · exact cnt_3_160
    · exact cnt_3_170
    · exact cnt_3_228
  | 4, ha =>
    have e : a ∈ [0, 18, 260, 278, 576, 594, 836, 4104, 4122, 4680, 4698, 8320, 8338, 8580, 8896, 8914, 9156, 18432, 18450, 18692, 18710, 19008, 19026, 19268, 22536, 22554, 23112, 26752, 26770, 27030] := ha
    simp only [List.mem_cons, List.not_mem_nil, or_false] at e
    rcases e with rfl | rfl | rfl | rfl | rfl | rfl | rfl | rfl | rfl | rfl | rfl | rfl | rfl | rfl | rfl | rfl | rfl | rfl | rfl | rfl | rfl | rfl | rfl | rfl | rfl | rfl | rfl | rfl | rfl | rfl
    · exact cnt_4_0
    · exact cnt_4_18
    · exact cnt_4_260
    · exact cnt_4_278
    · exact cnt_4_576
    · exact cnt_4_594
    · exact cnt_4_836
    · exact cnt_4_4104
    · exact cnt_4_4122
    · exact cnt_4_4680
    · exact cnt_4_4698
    · exact cnt_4_8320
    · exact cnt_4_8338
    · exact cnt_4_8580
    · exact cnt_4_8896
    · exact cnt_4_8914
    · exact cnt_4_9156
    · exact cnt_4_18432
    · exact cnt_4_18450
    · exact cnt_4_18692
    · exact cnt_4_18710
    · exact cnt_4_19008
    · exact cnt_4_19026
    · exact cnt_4_19268
    · exact cnt_4_22536
    · exact cnt_4_22554
    · exact cnt_4_23112
    · exact cnt_4_26752
    · exact cnt_4_26770
    · exact cnt_4_27030
  | n + 5, ha => exact absurd (show a ∈ ([] : List Nat) from ha) (List.not_mem_nil)
theorem good_all {n e a : Nat} (h1 : 1 ≤ n) (h4 : n ≤ 4) (he : e < 2 ^ n) (ha : a ∈ adjL n) : GoodG n (gOf n e a) (fun i => e.testBit i) := by
  match n, h1, h4, he, ha with
  | 1, _, _, he, ha => exact good_of plain_1 det_1 (cnt_all ha) he ha
  | 2, _, _, he, ha => exact good_of plain_2 det_2 (cnt_all ha) he ha
  | 3, _, _, he, ha => exact good_of plain_3 det_3 (cnt_all ha) he ha
  | 4, _, _, he, ha => exact good_of plain_4 det_4 (cnt_all ha) he ha

/-! ### The same at the places -/
theorem flat_congr {α β : Type} {f g : α → List β} : ∀ {l : List α}, (∀ x ∈ l, f x = g x) → l.flatMap f = l.flatMap g
  | [], _ => rfl
  | x :: l, h => by rw [List.flatMap_cons, List.flatMap_cons, h x (.head _), flat_congr fun y hy => h y (.tail _ hy)]
theorem pipesG_congr {n : Nat} {bd bd' : Nat → Bool} {nx nx' : Nat → Nat → Bool} (hb : ∀ i < n, bd i = bd' i) (hn : ∀ i < n, ∀ j < n, nx i j = nx' i j) : pipesG n bd nx = pipesG n bd' nx' := by
  unfold pipesG
  refine flat_congr fun i hi => ?_
  have hi := List.mem_range.1 hi
  rw [hb i hi, List.filter_congr fun j hj => hn i hi j (List.mem_range.1 hj)]
theorem outS_congr {n : Nat} {o o' : Nat → Bool} {p : Nat × Nat} (hp : p.1 < n) (h : ∀ i < n, o i = o' i) : ∀ i < n, outS n o p i = outS n o' p i := by
  intro i hi
  unfold outS
  rw [h i hi, h _ hp]
  cases hb : Nat.blt p.2 n with
  | false => rfl
  | true => rw [h _ (blt_lt hb)]
theorem outR_congr {n : Nat} : ∀ {l : List (Nat × Nat)} {o o' : Nat → Bool}, (∀ p ∈ l, p.1 < n) → (∀ i < n, o i = o' i) → ∀ i < n, outR n l o i = outR n l o' i
  | [], _, _, _, h => h
  | p :: l, _, _, hl, h => outR_congr (l := l) (fun q hq => hl q (.tail _ hq)) (outS_congr (hl p (.head _)) h)
theorem outN_congr {n : Nat} {l : List (Nat × Nat)} {bd bd' : Nat → Bool} (hl : ∀ p ∈ l, p.1 < n) (h : ∀ i < n, bd i = bd' i) : ∀ r, ∀ i < n, outN n l bd r i = outN n l bd' r i
  | 0 => h
  | r + 1 => outR_congr hl (outN_congr hl h r)
theorem stuckL_congr {n : Nat} {l : List (Nat × Nat)} {bd bd' : Nat → Bool} (hl : ∀ p ∈ l, p.1 < n) (h : ∀ i < n, bd i = bd' i) : stuckL n l bd = stuckL n l bd' := by
  unfold stuckL
  exact List.filter_congr fun i hi => by rw [outN_congr hl h n i (List.mem_range.1 hi)]
noncomputable def bdP (k : Nat) (l : List Nat) : Nat → Bool := fun i => bdC k (l.getD i 0)
noncomputable def nxP (l : List Nat) : Nat → Nat → Bool := fun i j => nxC (l.getD i 0) (l.getD j 0)
noncomputable def pipesP (k : Nat) (l : List Nat) : List (Nat × Nat) := pipesG l.length (bdP k l) (nxP l)
theorem good_places {k : Nat} {l : List Nat} (P : Plc k l) (hne : 0 < l.length) : GoodG l.length (pipesP k l) (bdP k l) := by
  obtain ⟨e, a, he, ha, hb, hn⟩ := graph_of P hne
  have G := good_all (show 1 ≤ l.length from hne) P.few he ha
  have ep : pipesP k l = gOf l.length e a := pipesG_congr hb hn
  rw [ep]
  have es : stuckL l.length (gOf l.length e a) (bdP k l) = stuckL l.length (gOf l.length e a) (fun i => e.testBit i) := stuckL_congr (fun p hp => (G.fit.pipe p hp).1) hb
  exact ⟨G.fit, G.trap, by rw [es]; exact G.stuck, by rw [es]; exact G.trp, G.cnt, by rw [es]; exact G.det⟩
end
end Go.Proofs.YtbcjmmbmeebfgaaGreatDoor
