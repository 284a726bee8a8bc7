/- TopNarrowed, the plain law: what the results leave, and what the galleries leave. -/
import Derived.Test.YtbcjmmbmeebfgaaGreatDoorSNarrowedUG8
namespace Go.Proofs.YtbcjmmbmeebfgaaGreatDoor
set_option linter.unusedVariables false
set_option linter.unusedSimpArgs false
open Go Go.R
set_option maxRecDepth 1000000
noncomputable section

noncomputable def nA (g : Nat → Bool) : Nat → Int
  | 0 => 0
  | i + 1 => if g i then 1 else -1
noncomputable def nB : Nat → Int
  | 0 => 1
  | _ + 1 => 0
noncomputable def nC (f : Nat → Nat) (g : Nat → Bool) : Nat → Int
  | 0 => 0
  | i + 1 => if g i then ((f i - 1 : Nat) : Int) else -((f i : Nat) : Int)
theorem nA_t {g : Nat → Bool} {i : Nat} (h : g i = true) : nA g (i + 1) = 1 := by
  show (if g i = true then (1 : Int) else -1) = 1
  rw [if_pos h]
theorem nA_f {g : Nat → Bool} {i : Nat} (h : g i = false) : nA g (i + 1) = -1 := by
  show (if g i = true then (1 : Int) else -1) = -1
  rw [if_neg (by rw [h]; exact Bool.false_ne_true)]
theorem nC_t {f : Nat → Nat} {g : Nat → Bool} {i : Nat} (h : g i = true) : nC f g (i + 1) = ((f i - 1 : Nat) : Int) := by
  show (if g i = true then ((f i - 1 : Nat) : Int) else -((f i : Nat) : Int)) = _
  rw [if_pos h]
theorem nC_f {f : Nat → Nat} {g : Nat → Bool} {i : Nat} (h : g i = false) : nC f g (i + 1) = -((f i : Nat) : Int) := by
  show (if g i = true then ((f i - 1 : Nat) : Int) else -((f i : Nat) : Int)) = _
  rw [if_neg (by rw [h]; exact Bool.false_ne_true)]
theorem gals_n {L q : Nat} {f : Nat → Nat} {g : Nat → Bool} (hL : L < 7) (F : FitR L q f) : Gals (q + 1) (nA g) nB (nC f g) := fun i hi => by
  cases i with
  | zero => exact (show Gal 0 1 0 from ⟨by decide, by decide, by decide, by decide, by decide, by decide, .inr (by decide)⟩)
  | succ i =>
    obtain ⟨h1, h2⟩ := F i (by omega)
    show Gal (nA g (i + 1)) 0 (nC f g (i + 1))
    cases hg : g i with
    | true =>
      rw [nA_t hg, nC_t hg]
      exact ⟨by decide, by decide, by decide, by decide, by omega, by omega, .inl (by decide)⟩
    | false =>
      rw [nA_f hg, nC_f hg]
      exact ⟨by decide, by decide, by decide, by decide, by omega, by omega, .inl (by decide)⟩

theorem leF_iff {x y : Int} : leF x y = true ↔ x ≤ y := by rw [leF_eq, decide_eq_true_iff]
theorem agr_zero {f : Nat → Nat} {g : Nat → Bool} {i : Nat} : agr (nA g 0) (nB 0) (nC f g 0) i = true ↔ i % 7 = 0 := by
  show leF (0 * ((i / 7 : Nat) : Int) + 1 * ((i % 7 : Nat) : Int)) 0 = true ↔ _
  rw [leF_iff]
  omega
theorem agr_succ {f : Nat → Nat} {g : Nat → Bool} {i j : Nat} (h1 : 1 ≤ f j) : agr (nA g (j + 1)) (nB (j + 1)) (nC f g (j + 1)) i = true ↔ ((g j = true → i / 7 + 1 ≤ f j) ∧ (g j = false → f j ≤ i / 7)) := by
  show leF (nA g (j + 1) * ((i / 7 : Nat) : Int) + 0 * ((i % 7 : Nat) : Int)) (nC f g (j + 1)) = true ↔ _
  rw [leF_iff]
  cases hg : g j with
  | true => rw [nA_t hg, nC_t hg]; simp; omega
  | false => rw [nA_f hg, nC_f hg]; simp; omega

theorem grid_bits : ((List.range 8).all fun k => (List.range 64).all fun i => (gridN k).testBit i == (Nat.blt i 49 && (Nat.blt (i / 7) k && Nat.blt (i % 7) k))) = true := by kernel_rfl
theorem blt_iff {a b : Nat} : Nat.blt a b = true ↔ a < b := by rw [Nat.blt_eq]
theorem grid_bit {k i : Nat} (hk : k < 8) : (gridN k).testBit i = true ↔ i < 49 ∧ i / 7 < k ∧ i % 7 < k := by
  rcases Nat.lt_or_ge i 64 with h | h
  · have := eq_of_beq (List.all_eq_true.1 (List.all_eq_true.1 grid_bits k (List.mem_range.2 hk)) i (List.mem_range.2 h))
    rw [this, Bool.and_eq_true, Bool.and_eq_true, blt_iff, blt_iff, blt_iff]
  · have : (gridN k).testBit i = false := Nat.testBit_lt_two_pow (Nat.lt_of_lt_of_le (grid_lt hk) (Nat.pow_le_pow_right (n := 2) (by decide) h))
    rw [this]
    constructor
    · intro h; cases h
    · intro h; omega

theorem low_iff {f : Nat → Nat} {g : Nat → Bool} (x : Nat) : ∀ q, lowN f g q ≤ x ↔ ∀ j, j < q → g j = false → f j ≤ x
  | 0 => ⟨fun _ j h => by omega, fun _ => Nat.zero_le x⟩
  | q + 1 => by
    have ih := low_iff (f := f) (g := g) x q
    show (if g q then lowN f g q else max (lowN f g q) (f q)) ≤ x ↔ _
    cases hg : g q with
    | true =>
      simp only [if_true]
      rw [ih]
      constructor
      · intro h j hj hgj
        by_cases e : j = q
        · subst e; rw [hg] at hgj; cases hgj
        · exact h j (by omega) hgj
      · exact fun h j hj hgj => h j (by omega) hgj
    | false =>
      simp only [Bool.false_eq_true, if_false]
      rw [Nat.max_le, ih]
      constructor
      · intro h j hj hgj
        by_cases e : j = q
        · subst e; exact h.2
        · exact h.1 j (by omega) hgj
      · exact fun h => ⟨fun j hj hgj => h j (by omega) hgj, h q (by omega) hg⟩
theorem high_iff {L : Nat} {f : Nat → Nat} {g : Nat → Bool} (x : Nat) : ∀ q, x ≤ highN L f g q ↔ x ≤ L ∧ ∀ j, j < q → g j = true → x ≤ f j - 1
  | 0 => ⟨fun h => ⟨h, fun j h => by omega⟩, fun h => h.1⟩
  | q + 1 => by
    have ih := high_iff (L := L) (f := f) (g := g) x q
    show x ≤ (if g q then min (highN L f g q) (f q - 1) else highN L f g q) ↔ _
    cases hg : g q with
    | false =>
      simp only [Bool.false_eq_true, if_false]
      rw [ih]
      constructor
      · refine fun h => ⟨h.1, fun j hj hgj => ?_⟩
        by_cases e : j = q
        · subst e; rw [hg] at hgj; cases hgj
        · exact h.2 j (by omega) hgj
      · exact fun h => ⟨h.1, fun j hj hgj => h.2 j (by omega) hgj⟩
    | true =>
      simp only [if_true]
      rw [Nat.le_min, ih]
      constructor
      · refine fun h => ⟨h.1.1, fun j hj hgj => ?_⟩
        by_cases e : j = q
        · subst e; exact h.2
        · exact h.1.2 j (by omega) hgj
      · exact fun h => ⟨⟨h.1, fun j hj hgj => h.2 j (by omega) hgj⟩, h.2 q (by omega) hg⟩

/-- What all the galleries leave. -/
theorem reg_iff {L q i : Nat} {f : Nat → Nat} {g : Nat → Bool} (hL : L < 7) (F : FitR L q f) : (regG (L + 1) (q + 1) (nA g) nB (nC f g)).testBit i = true ↔ i < 49 ∧ i % 7 = 0 ∧ lowN f g q ≤ i / 7 ∧ i / 7 ≤ highN L f g q := by
  unfold regG
  rw [regN_bit, Bool.and_eq_true, grid_bit (by omega), List.all_eq_true, low_iff, high_iff]
  constructor
  · rintro ⟨⟨h1, h2, h3⟩, h4⟩
    have a0 := h4 0 (List.mem_range.2 (by omega))
    rw [areaN_bit, Bool.and_eq_true] at a0
    have b0 := agr_zero.1 a0.2
    have aj : ∀ j, j < q → ((g j = true → i / 7 + 1 ≤ f j) ∧ (g j = false → f j ≤ i / 7)) := fun j hj => by
      have := h4 (j + 1) (List.mem_range.2 (by omega))
      rw [areaN_bit, Bool.and_eq_true] at this
      exact (agr_succ (F j hj).1).1 this.2
    refine ⟨h1, b0, fun j hj hg => (aj j hj).2 hg, by omega, fun j hj hg => ?_⟩
    have := (aj j hj).1 hg
    omega
  · rintro ⟨h1, h2, h3, h4, h5⟩
    refine ⟨⟨h1, by omega, by omega⟩, fun j hj => ?_⟩
    have hj := List.mem_range.1 hj
    rw [areaN_bit, Bool.and_eq_true]
    refine ⟨decide_eq_true h1, ?_⟩
    cases j with
    | zero => exact agr_zero.2 h2
    | succ j =>
      refine (agr_succ (F j (by omega)).1).2 ⟨fun hg => ?_, fun hg => h3 j (by omega) hg⟩
      have := h5 j (by omega) hg
      have := (F j (by omega)).1
      omega

noncomputable def spanN (lo hi : Nat) : List Nat := (List.range (hi + 1 - lo)).map fun j => 7 * (lo + j)
theorem span_all : ((List.range 7).all fun lo => (List.range 7).all fun hi => ((List.range 64).filter fun i => Nat.blt i 49 && (Nat.beq (i % 7) 0 && (Nat.ble lo (i / 7) && Nat.ble (i / 7) hi))) == spanN lo hi) = true := by kernel_rfl
theorem low_le {L q : Nat} {f : Nat → Nat} {g : Nat → Bool} (F : FitR L q f) : lowN f g q ≤ L := (low_iff L q).2 fun j hj _ => (F j hj).2
theorem high_le {L q : Nat} {f : Nat → Nat} {g : Nat → Bool} : highN L f g q ≤ L := ((high_iff (highN L f g q) q).1 (Nat.le_refl _)).1
theorem bits_reg {L q : Nat} {f : Nat → Nat} {g : Nat → Bool} (hL : L < 7) (F : FitR L q f) : bitsN (regG (L + 1) (q + 1) (nA g) nB (nC f g)) = spanN (lowN f g q) (highN L f g q) := by
  have h1 := low_le (g := g) F
  have h2 := high_le (L := L) (q := q) (f := f) (g := g)
  have := eq_of_beq (List.all_eq_true.1 (List.all_eq_true.1 span_all (lowN f g q) (List.mem_range.2 (by omega))) (highN L f g q) (List.mem_range.2 (by omega)))
  rw [← this]
  unfold bitsN
  refine List.filter_congr fun i _ => ?_
  rw [Bool.eq_iff_iff, reg_iff hL F, Bool.and_eq_true, Bool.and_eq_true, Bool.and_eq_true, blt_iff, Nat.ble_eq, Nat.ble_eq]
  have : Nat.beq (i % 7) 0 = true ↔ i % 7 = 0 := ⟨Nat.eq_of_beq_eq_true, fun h => by rw [h]; rfl⟩
  rw [this]
theorem reg_zero {L q : Nat} {f : Nat → Nat} {g : Nat → Bool} (hL : L < 7) (F : FitR L q f) : regG (L + 1) (q + 1) (nA g) nB (nC f g) = 0 ↔ highN L f g q < lowN f g q := by
  constructor
  · intro h
    rcases Nat.lt_or_ge (highN L f g q) (lowN f g q) with q1 | q1
    · exact q1
    · exfalso
      have h1 := low_le (g := g) F
      have := (reg_iff (i := lowN f g q * 7) (g := g) hL F).2 ⟨by omega, by omega, by omega, by omega⟩
      rw [h, Nat.zero_testBit] at this
      cases this
  · intro h
    apply Nat.eq_of_testBit_eq
    intro i
    rw [Nat.zero_testBit]
    cases hb : (regG (L + 1) (q + 1) (nA g) nB (nC f g)).testBit i with
    | false => rfl
    | true => have := (reg_iff hL F).1 hb; omega

/-! ### Two results that contradict each other -/
theorem why_spec (C : Nat → Nat → Bool) (n : Nat) : ∀ d i, i + d = n → (∀ x y, whyP C n d i = some (x, y) → i ≤ x ∧ x < y ∧ y < n ∧ C x y = true) ∧ (whyP C n d i = none → ∀ x y, i ≤ x → x < y → y < n → C x y = false)
  | 0, i, h => ⟨fun x y h => (by cases h), fun _ x y h1 h2 h3 => by omega⟩
  | d + 1, i, h => by
    obtain ⟨ih1, ih2⟩ := why_spec C n d (i + 1) (by omega)
    have e : whyP C n (d + 1) i = if firstP (fun j => C i (i + 1 + j)) (n - (i + 1)) (n - (i + 1)) 0 < n - (i + 1) then some (i, i + 1 + firstP (fun j => C i (i + 1 + j)) (n - (i + 1)) (n - (i + 1)) 0) else whyP C n d (i + 1) := rfl
    rw [e]
    rcases firstP_spec (fun j => C i (i + 1 + j)) (n - (i + 1)) (n - (i + 1)) 0 (by omega) with ⟨h1, h2⟩ | ⟨h1, h2, h3, h4⟩
    · rw [if_neg (by omega)]
      refine ⟨fun x y hx => ?_, fun hn x y hx hy hy2 => ?_⟩
      · obtain ⟨a, b, c, d'⟩ := ih1 x y hx
        exact ⟨by omega, b, c, d'⟩
      · by_cases ex : x = i
        · subst ex
          have := h2 (y - (x + 1)) (Nat.zero_le _) (by omega)
          rwa [show x + 1 + (y - (x + 1)) = y by omega] at this
        · exact ih2 hn x y (by omega) hy hy2
    · rw [if_pos h1]
      refine ⟨fun x y hx => ?_, fun hn => (by cases hn)⟩
      cases hx
      exact ⟨Nat.le_refl _, by omega, by omega, h3⟩
theorem whyC_iff {f : Nat → Nat} {g : Nat → Bool} {x y : Nat} : whyC f g x y = true ↔ (g x = true ∧ g y = false ∧ f x ≤ f y) ∨ (g x = false ∧ g y = true ∧ f y ≤ f x) := by
  unfold whyC whyB
  have e1 : Nat.beq (f x) (f y) = decide (f x = f y) := by
    rw [Bool.eq_iff_iff, decide_eq_true_iff]
    exact ⟨Nat.eq_of_beq_eq_true, fun h => by rw [h]; exact Nat.beq_refl _⟩
  have e2 : Nat.blt (f x) (f y) = decide (f x < f y) := by rw [Bool.eq_iff_iff, blt_iff, decide_eq_true_iff]
  rw [e1, e2]
  cases g x <;> cases g y <;> simp <;> omega
theorem why_some {L q : Nat} {f : Nat → Nat} {g : Nat → Bool} (F : FitR L q f) (h : highN L f g q < lowN f g q) : ∃ x y, whyP (whyC f g) q q 0 = some (x, y) ∧ x < y ∧ y < q ∧ whyC f g x y = true := by
  obtain ⟨s1, s2⟩ := why_spec (whyC f g) q q 0 (by omega)
  cases hw : whyP (whyC f g) q q 0 with
  | some xy =>
    obtain ⟨x, y⟩ := xy
    obtain ⟨_, b, c, d⟩ := s1 x y hw
    exact ⟨x, y, rfl, b, c, d⟩
  | none =>
    exfalso
    have hno := s2 hw
    -- the low number is one of the results
    have hlow : ∃ i, i < q ∧ g i = false ∧ highN L f g q < f i := by
      refine Classical.byContradiction fun hc => ?_
      have : lowN f g q ≤ highN L f g q := (low_iff _ q).2 fun j hj hg => by
        rcases Nat.lt_or_ge (highN L f g q) (f j) with q1 | q1
        · exact absurd ⟨j, hj, hg, q1⟩ hc
        · exact q1
      omega
    obtain ⟨i, hi, hgi, hfi⟩ := hlow
    have hhigh : ∃ j, j < q ∧ g j = true ∧ f j ≤ f i := by
      refine Classical.byContradiction fun hc => ?_
      have : f i ≤ highN L f g q := (high_iff _ q).2 ⟨(F i hi).2, fun j hj hg => by
        rcases Nat.lt_or_ge (f i) (f j) with q1 | q1
        · omega
        · exact absurd ⟨j, hj, hg, q1⟩ hc⟩
      omega
    obtain ⟨j, hj, hgj, hfj⟩ := hhigh
    rcases Nat.lt_trichotomy i j with h1 | h1 | h1
    · have := hno i j (Nat.zero_le _) h1 hj
      rw [whyC_iff.2 (.inr ⟨hgi, hgj, hfj⟩)] at this; cases this
    · subst h1; rw [hgi] at hgj; cases hgj
    · have := hno j i (Nat.zero_le _) h1 hi
      rw [whyC_iff.2 (.inl ⟨hgj, hgi, hfj⟩)] at this; cases this
theorem pair_bit {x y i : Nat} (hx : x < 64) (hy : y < 64) : i ∈ bitsN (2 ^ x ||| 2 ^ y) ↔ i = x ∨ i = y := by
  rw [mem_bits, Nat.testBit_or, Bool.or_eq_true, Nat.testBit_two_pow, Nat.testBit_two_pow, decide_eq_true_iff, decide_eq_true_iff]
  omega
theorem regS_pair {L q x y : Nat} {f : Nat → Nat} {g : Nat → Bool} (F : FitR L q f) (hq : q < 60) (hxy : x < y) (hy : y < q) (h : whyC f g x y = true) : regS (L + 1) (nA g) nB (nC f g) (2 ^ (x + 1) ||| 2 ^ (y + 1)) = 0 := by
  apply Nat.eq_of_testBit_eq
  intro i
  rw [Nat.zero_testBit]
  unfold regS
  rw [regN_bit]
  cases hb : ((bitsN (2 ^ (x + 1) ||| 2 ^ (y + 1))).all fun j => (areaN (nA g j) (nB j) (nC f g j)).testBit i) with
  | false => rw [Bool.and_false]
  | true =>
    exfalso
    rw [List.all_eq_true] at hb
    have bx := hb (x + 1) ((pair_bit (by omega) (by omega)).2 (.inl rfl))
    have by' := hb (y + 1) ((pair_bit (by omega) (by omega)).2 (.inr rfl))
    rw [areaN_bit, Bool.and_eq_true] at bx by'
    have cx := (agr_succ (F x (by omega)).1).1 bx.2
    have cy := (agr_succ (F y hy).1).1 by'.2
    rcases whyC_iff.1 h with ⟨h1, h2, h3⟩ | ⟨h1, h2, h3⟩
    · have := cx.1 h1; have := cy.2 h2; omega
    · have := cx.2 h1; have := cy.1 h2; omega

/-! ### The search -/
theorem stN_spec (k : Nat) (A B C : Nat → Int) : ∀ n, (stN k A B C n = none → ∀ s, s < n → goodN k A B C s = false) ∧ (∀ t, stN k A B C n = some t → ∀ s, s < n → goodN k A B C s = true → (bitsN t).length ≤ (bitsN s).length)
  | 0 => ⟨fun _ s h => by omega, fun t h => (by cases h)⟩
  | n + 1 => by
    obtain ⟨i1, i2⟩ := stN_spec k A B C n
    rw [stN_succ]
    cases hst : stN k A B C n with
    | none =>
      show ((if goodN k A B C n = true then some n else none) = none → _) ∧ _
      cases hg : goodN k A B C n with
      | true =>
        refine ⟨fun h => (by cases h), fun t ht s hs hgs => ?_⟩
        have ht : (if goodN k A B C n = true then some n else none) = some t := ht
        rw [hg] at ht
        cases ht
        by_cases e : s = n
        · subst e; exact Nat.le_refl _
        · rw [i1 hst s (by omega)] at hgs; cases hgs
      | false =>
        refine ⟨fun _ s hs => ?_, fun t ht => ?_⟩
        · by_cases e : s = n
          · subst e; exact hg
          · exact i1 hst s (by omega)
        · have ht : (if goodN k A B C n = true then some n else none) = some t := ht
          rw [hg] at ht; cases ht
    | some t0 =>
      have e : stepN k A B C (some t0) n = if (cndN t0 n && goodN k A B C n) = true then some n else some t0 := rfl
      rw [e]
      refine ⟨fun h => (by split at h <;> cases h), fun t ht s hs hgs => ?_⟩
      have h0 := i2 t0 hst
      by_cases hc : (cndN t0 n && goodN k A B C n) = true
      · rw [if_pos hc] at ht
        cases ht
        by_cases e : s = n
        · subst e; exact Nat.le_refl _
        · have h1 := h0 s (by omega) hgs
          rw [Bool.and_eq_true] at hc
          have h2 : (bitsN n).length ≤ (bitsN t0).length := by
            have hc := hc.1
            unfold cndN at hc
            rw [Bool.or_eq_true] at hc
            rcases hc with hc | hc
            · have : Nat.blt (bitsN n).length (bitsN t0).length = true := hc
              have := blt_iff.1 this
              omega
            · rw [Bool.and_eq_true] at hc
              have := hc.1
              rw [eqF_nat] at this
              have := Nat.eq_of_beq_eq_true this
              omega
          omega
      · rw [if_neg hc] at ht
        cases ht
        by_cases e : s = n
        · subst e
          rw [hgs, Bool.and_true] at hc
          unfold cndN at hc
          rw [Bool.or_eq_true] at hc
          rcases Nat.lt_or_ge (bitsN s).length (bitsN t0).length with q | q
          · exact absurd (.inl (show Nat.blt (bitsN s).length (bitsN t0).length = true from blt_iff.2 q)) hc
          · exact q
        · exact h0 s (by omega) hgs
theorem pair_len : ((List.range 12).all fun x => (List.range 12).all fun y => Nat.ble (bitsN (2 ^ x ||| 2 ^ y)).length 2) = true := by kernel_rfl
theorem good_iff {k : Nat} {A B C : Nat → Int} {s : Nat} : goodN k A B C s = true ↔ regS k A B C s = 0 := by
  unfold goodN
  rw [eqF_nat]
  exact ⟨Nat.eq_of_beq_eq_true, fun h => by rw [h]; rfl⟩
theorem st_short {k m x y : Nat} {A B C : Nat → Int} (hxy : x < y) (hy : y < m) (hm : m < 12) (h : regS k A B C (2 ^ x ||| 2 ^ y) = 0) : ∃ t, stN k A B C (2 ^ m) = some t ∧ (bitsN t).length ≤ 2 := by
  obtain ⟨s1, s2⟩ := stN_spec k A B C (2 ^ m)
  have hs : 2 ^ x ||| 2 ^ y < 2 ^ m := Nat.or_lt_two_pow (Nat.pow_lt_pow_right (by decide) (by omega)) (Nat.pow_lt_pow_right (by decide) hy)
  cases hst : stN k A B C (2 ^ m) with
  | none =>
    have := s1 hst _ hs
    rw [good_iff.2 h] at this; cases this
  | some t =>
    have h1 := s2 t hst _ hs (good_iff.2 h)
    have h2 := List.all_eq_true.1 (List.all_eq_true.1 pair_len x (List.mem_range.2 (by omega))) y (List.mem_range.2 (by omega))
    have := Nat.le_of_ble_eq_true h2
    exact ⟨t, rfl, by omega⟩
theorem st_none {k m : Nat} {A B C : Nat → Int} (hm : m < 64) (h : regG k m A B C ≠ 0) : stN k A B C (2 ^ m) = none := by
  cases hst : stN k A B C (2 ^ m) with
  | none => rfl
  | some t =>
    exfalso
    -- what is found is good
    have hgood : ∀ n t, n ≤ 2 ^ m → stN k A B C n = some t → goodN k A B C t = true ∧ t < 2 ^ m := by
      intro n
      induction n with
      | zero => intro t _ h; cases h
      | succ n ih =>
        intro t hn ht
        rw [stN_succ] at ht
        cases h0 : stN k A B C n with
        | none =>
          rw [h0] at ht
          have ht : (if goodN k A B C n = true then some n else none) = some t := ht
          by_cases hg : goodN k A B C n = true
          · rw [if_pos hg] at ht; cases ht; exact ⟨hg, by omega⟩
          · rw [if_neg hg] at ht; cases ht
        | some t0 =>
          rw [h0] at ht
          have ht : (if (cndN t0 n && goodN k A B C n) = true then some n else some t0) = some t := ht
          by_cases hg : (cndN t0 n && goodN k A B C n) = true
          · rw [if_pos hg] at ht; cases ht; rw [Bool.and_eq_true] at hg; exact ⟨hg.2, by omega⟩
          · rw [if_neg hg] at ht; cases ht; exact ih t (by omega) h0
    obtain ⟨hg, ht⟩ := hgood (2 ^ m) t (Nat.le_refl _) hst
    have hz := good_iff.1 hg
    apply h
    apply Nat.eq_of_testBit_eq
    intro i
    rw [Nat.zero_testBit]
    have h0 : (regS k A B C t).testBit i = false := by rw [hz, Nat.zero_testBit]
    unfold regS at h0
    unfold regG
    rw [regN_bit] at h0 ⊢
    cases hgr : (gridN k).testBit i with
    | false => rfl
    | true =>
      rw [hgr, Bool.true_and] at h0
      rw [Bool.true_and]
      cases ha : ((List.range m).all fun x => (areaN (A x) (B x) (C x)).testBit i) with
      | false => rfl
      | true =>
        exfalso
        rw [List.all_eq_true] at ha
        have : ((bitsN t).all fun x => (areaN (A x) (B x) (C x)).testBit i) = true := List.all_eq_true.2 fun x hx => by
          refine ha x (List.mem_range.2 ?_)
          rcases Nat.lt_or_ge x m with q | q
          · exact q
          · have h1 := (mem_bits.1 hx).2
            have : t.testBit x = false := Nat.testBit_lt_two_pow (Nat.lt_of_lt_of_le ht (Nat.pow_le_pow_right (by decide) q))
            rw [this] at h1; cases h1
        rw [this] at h0; cases h0
end
end Go.Proofs.YtbcjmmbmeebfgaaGreatDoor
