/- TopFlooded's region: the test of a place against all galleries, as contracts at two heaps. -/
import Derived.Test.YtbcjmmbmeebfgaaGreatDoorSFloodedUF1
namespace Go.Proofs.YtbcjmmbmeebfgaaGreatDoor
set_option linter.unusedVariables false
set_option linter.unusedSimpArgs false
open Go Go.R
set_option maxRecDepth 1000000
noncomputable section
noncomputable def vio (a b c : Int) (x y : Nat) : Bool := ltF c (a * (x : Int) + b * (y : Int))
noncomputable def c24 : Code := bodyOf Tryz.f24
noncomputable def c51 : Code := bodyOf Tryz.f51
noncomputable def lp51 : Code := within (tl (hd (behind 1 c51)))
noncomputable def c23 : Code := bodyOf Tryz.f23
theorem any_first {p : Nat → Bool} {m : Nat} : firstP p m m 0 < m ↔ (List.range m).any p = true := by
  rw [List.any_eq_true]
  rcases firstP_spec p m m 0 (by omega) with ⟨h1, h2⟩ | ⟨h1, h2, h3, h4⟩
  · constructor
    · intro h; omega
    · rintro ⟨j, hj, hp⟩
      rw [h2 j (Nat.zero_le j) (List.mem_range.1 hj)] at hp; cases hp
  · exact ⟨fun _ => ⟨_, List.mem_range.2 h1, h3⟩, fun _ => h1⟩

/-! ### Shape N -/
noncomputable def ON (k m cap : Nat) (A B C : Nat → Int) (x y : Nat) : List AObj := [viewG m A B C, hillO k m cap, boxN x, boxN y]
theorem oN_clo {k m cap x y : Nat} {A B C : Nat → Int} : ∀ o ∈ ON k m cap A B C x y, CloO 4 o := fun o ho => by
  simp only [ON, List.mem_cons, List.mem_nil_iff, or_false] at ho
  rcases ho with rfl | rfl | rfl | rfl
  · exact viewG_clo
  · exact ⟨fun v hv => by
      simp only [List.mem_cons, List.mem_nil_iff, or_false] at hv
      rcases hv with rfl | rfl <;> exact clo_of 10 _ _ (by kernel_rfl), fun j hj => by cases hj⟩
  · exact boxN_clo
  · exact boxN_clo
theorem vioN_says {k m cap x y : Nat} {A B C : Nat → Int} {a b c : Int} (G : Gal a b c) (hx : x < 10) (hy : y < 10) : Says Tryz.prog (hp (ON k m cap A B C x y)) 24 [gal a b c, ptrV 2, ptrV 3] (.bool (vio a b c x y)) (hp (ON k m cap A B C x y)) := by
  obtain ⟨a0, a1, b0, b1, c0, c1, ne⟩ := G
  have ex : -90 ≤ a * (x : Int) ∧ a * (x : Int) ≤ 90 := by
    have h0 : (0 : Int) ≤ (x : Int) := Int.natCast_nonneg x
    have h9 : (x : Int) ≤ 9 := by omega
    constructor
    · have := Int.mul_le_mul_of_nonneg_right a0 h0; omega
    · have := Int.mul_le_mul_of_nonneg_right a1 h0; omega
  have ey : -90 ≤ b * (y : Int) ∧ b * (y : Int) ≤ 90 := by
    have h0 : (0 : Int) ≤ (y : Int) := Int.natCast_nonneg y
    have h9 : (y : Int) ≤ 9 := by omega
    constructor
    · have := Int.mul_le_mul_of_nonneg_right b0 h0; omega
    · have := Int.mul_le_mul_of_nonneg_right b1 h0; omega
  refine says_of (os := ON k m cap A B C x y) ?_ (fun v hv => ?_) oN_clo (clo_plain rfl)
  · show Local Tryz.prog 4 24 _ _ _
    refine local_of noNum Tryz.func24 (show Tryz.f24.body = some c24 by kernel_rfl) ?_
    refine Runs.sqR mixed hkU [] (by kernel_rfl) (by kernel_rfl) (by kernel_rfl) oblN ?_
    refine Runs.sqR mixed hkU [viaV 3 (iZ (a * (x : Int))), viaV 7 (iZ (b * (y : Int))), viaV 8 (iZ (a * (x : Int) + b * (y : Int)))] (by kernel_rfl) (by kernel_rfl) (by kernel_rfl)
      (oblC (shown_eq (v := .int .i64 (wrapF .i64 (Int.mul a (.ofNat x)))) (by kernel_rfl) (by kernel_rfl) (by rw [wrapS (by show (-9223372036854775808 : Int) ≤ a * (x : Int); omega) (by show a * (x : Int) ≤ 9223372036854775807; omega)]; rfl))
      (oblC (shown_eq (v := .int .i64 (wrapF .i64 (Int.mul b (.ofNat y)))) (by kernel_rfl) (by kernel_rfl) (by rw [wrapS (by show (-9223372036854775808 : Int) ≤ b * (y : Int); omega) (by show b * (y : Int) ≤ 9223372036854775807; omega)]; rfl))
      (oblC (shown_eq (v := .int .i64 (wrapF .i64 (Int.add (a * (x : Int)) (b * (y : Int))))) (by kernel_rfl) (by kernel_rfl) (by rw [wrapS (by show (-9223372036854775808 : Int) ≤ a * (x : Int) + b * (y : Int); omega) (by show a * (x : Int) + b * (y : Int) ≤ 9223372036854775807; omega)]; rfl)) oblN))) ?_
    refine Runs.now (x := .ret) (by kernel_rfl) ⟨.inr rfl, [.bool (vio a b c x y)], by kernel_rfl, rfl, fun j z hz => ?_⟩
    match j, hz with
    | 0, hz => cases hz; exact Eq.trans (Eq.refl _) (by kernel_rfl)
    | 1, hz => cases hz; exact Eq.trans (Eq.refl _) (by kernel_rfl)
    | 2, hz => cases hz; exact Eq.trans (Eq.refl _) (by kernel_rfl)
    | 3, hz => cases hz; exact Eq.trans (Eq.refl _) (by kernel_rfl)
    | j + 4, hz => cases hz
  · simp only [List.mem_cons, List.mem_nil_iff, or_false] at hv
    rcases hv with rfl | rfl | rfl
    · exact clo_of 10 _ _ (by kernel_rfl)
    · exact clo_of 10 _ _ (by kernel_rfl)
    · exact clo_of 10 _ _ (by kernel_rfl)
noncomputable def cloN : Value := .func (.func 24) #[] #[ptrV 2, ptrV 3]
noncomputable def S51N (m cap i : Nat) : List (Nat × Value) := [(0, smallS 0 m cap), (1, cloN), (7, i64 m), (8, i64 i)]
theorem idxN_loop {k m cap x y : Nat} {A B C : Nat → Int} (hm : m < 1000) (G : Gals m A B C) (hx : x < 10) (hy : y < 10) : ∀ d i, i + d = m →
    Runs Tryz.prog 4 lp51 (sth (S51N m cap i) 19 (ON k m cap A B C x y)) fun e af => (e = .exit 0 ∧ firstP (fun j => vio (A j) (B j) (C j) x y) m d i = m ∧ Less 4 (sth [] 19 (ON k m cap A B C x y)) af) ∨
      (e = .ret ∧ firstP (fun j => vio (A j) (B j) (C j) x y) m d i < m ∧ EndsAs Tryz.prog Tryz.f51 (Holds (ON k m cap A B C x y) (i64 (firstP (fun j => vio (A j) (B j) (C j) x y) m d i))) .ret af) := by
  intro d
  induction d with
  | zero =>
    intro i hi
    have e : i = m := by omega
    subst e
    refine Runs.lp (by kernel_rfl) (Runs.sqR mixed hkU [] (by kernel_rfl) (by kernel_rfl) (by kernel_rfl) oblN (Runs.sq (by kernel_rfl) ?_))
    refine Runs.cd (b := ltF (.ofNat i) (.ofNat i)) (by kernel_rfl) (fun ht => by rw [lt_self] at ht; cases ht) (fun _ => Runs.now (x := .exit 0) (by kernel_rfl) (.inl ⟨rfl, rfl, ?_⟩))
    exact less_seenP (clo_all (k := 4) (by kernel_rfl)) oN_clo (Nat.le_refl 4) (by kernel_rfl) (by kernel_rfl) (by kernel_rfl) (by kernel_rfl)
  | succ d ih =>
    intro i hi
    have hlt : i < m := by omega
    have hC := vioN_says (k := k) (m := m) (cap := cap) (A := A) (B := B) (C := C) (G i hlt) hx hy
    have hv : vio (A i) (B i) (C i) x y = (fun j => vio (A j) (B j) (C j) x y) i := rfl
    rw [hv] at hC
    generalize (fun j => vio (A j) (B j) (C j) x y) = p at hC ih ⊢
    refine Runs.lp (by kernel_rfl) (Runs.sqR mixed hkU [] (by kernel_rfl) (by kernel_rfl) (by kernel_rfl) oblN (Runs.sq (by kernel_rfl) ?_))
    refine Runs.cd (b := ltF (.ofNat i) (.ofNat m)) (by kernel_rfl) (fun _ => Runs.now (x := .normal) (by kernel_rfl) ?_) (fun hf => by rw [lt_of hlt] at hf; cases hf)
    show Runs Tryz.prog 4 _ _ _
    refine Runs.sq (by kernel_rfl) (Runs.bk (id := 1) (by kernel_rfl) ?_)
    refine Runs.sqR mixed hkU [] (by kernel_rfl) (by kernel_rfl) (by kernel_rfl) oblN ?_
    refine Runs.sqR mixed hkU [viaV 3 (.pointer (some ⟨0, 0 + i * 3, none⟩)), viaV 4 (gal (A i) (B i) (C i)), viaC 5 24 [gal (A i) (B i) (C i), ptrV 2, ptrV 3] (.bool (p i))] (by kernel_rfl) (by kernel_rfl) (by kernel_rfl)
      (oblC (shown_idx (n := m) (by kernel_rfl) hlt) (oblC (shown_agg (by kernel_rfl) (gal_at (q := 0) (m := m) (A := A) (B := B) (C := C) (lv := false) (par := []) (ty := none) (by kernel_rfl) hlt))
      (oblC (shown_callE (h0 := hp (ON k m cap A B C x y)) (by kernel_rfl) (by kernel_rfl) hC) oblN))) ?_
    refine Runs.cd (b := p i) (by kernel_rfl) (fun ht => ?_) (fun hf => Runs.now (x := .normal) (by kernel_rfl) ?_)
    · have e : firstP p m (d + 1) i = i := by unfold firstP; rw [ht]; rfl
      rw [e]
      exact Runs.sqR mixed hkU [] (by kernel_rfl) (by kernel_rfl) (by kernel_rfl) oblN (Runs.now (x := .ret) (by kernel_rfl) (.inr ⟨rfl, hlt, .inr rfl, [i64 i], by kernel_rfl, rfl, keepOf (by kernel_rfl)⟩))
    · have e : firstP p m (d + 1) i = firstP p m d (i + 1) := by rw [firstP, hf]; rfl
      rw [e]
      show Runs Tryz.prog 4 _ _ _
      refine Runs.rg mixed hkU [viaV 0 (i64 (i + 1))] (by kernel_rfl) (by kernel_rfl) (by kernel_rfl) (oblC (shown_eq (v := .int .i64 (wrapF .i64 (Int.add (.ofNat i) (.ofNat 1)))) (by kernel_rfl) (by kernel_rfl) (by rw [wrap_succ (by omega)]; rfl)) oblN) ?_
      show Runs Tryz.prog 4 lp51 _ _
      exact Runs.less (af1 := sth (S51N m cap (i + 1)) 19 (ON k m cap A B C x y)) (less_seenP (clo_all (k := 4) (by kernel_rfl)) oN_clo (Nat.le_refl 4) (by kernel_rfl) (by kernel_rfl) (by kernel_rfl) (by kernel_rfl)) (ih (i + 1) (by omega))
theorem arg51N_clo {m cap : Nat} : ∀ x ∈ [smallS 0 m cap, cloN], Clo 4 x := fun x hx => by
  simp only [List.mem_cons, List.mem_nil_iff, or_false] at hx
  rcases hx with rfl | rfl <;> exact clo_of 10 _ _ (by kernel_rfl)
theorem idxN_says {k m cap x y : Nat} {A B C : Nat → Int} (hm : m < 1000) (G : Gals m A B C) (hx : x < 10) (hy : y < 10) : Says Tryz.prog (hp (ON k m cap A B C x y)) 51 [smallS 0 m cap, cloN] (idxV (fun j => vio (A j) (B j) (C j) x y) m) (hp (ON k m cap A B C x y)) := by
  refine says_of (os := ON k m cap A B C x y) ?_ arg51N_clo oN_clo (clo_plain (by unfold idxV; split <;> rfl))
  show Local Tryz.prog 4 51 _ _ _
  refine local_of noNum Tryz.func51 (show Tryz.f51.body = some c51 by kernel_rfl) ?_
  refine Runs.sqR mixed hkU [] (by kernel_rfl) (by kernel_rfl) (by kernel_rfl) oblN ?_
  refine Runs.sq (by kernel_rfl) (Runs.sqR mixed hkU [] (by kernel_rfl) (by kernel_rfl) (by kernel_rfl) oblN (Runs.bk (id := 0) (by kernel_rfl) ?_))
  show Runs Tryz.prog 4 lp51 _ _
  refine Runs.less (af1 := sth (S51N m cap 0) 19 (ON k m cap A B C x y)) (less_seenP (clo_all (k := 4) (by kernel_rfl)) oN_clo (Nat.le_refl 4) (by kernel_rfl) (by kernel_rfl) (by kernel_rfl) (by kernel_rfl)) ?_
  refine (idxN_loop hm G hx hy m 0 (by omega)).mono fun e af hx => ?_
  unfold idxV
  rcases hx with ⟨rfl, he, less⟩ | ⟨rfl, hlt, he⟩
  · rw [if_neg (by omega)]
    show Runs Tryz.prog 4 _ af _
    exact Runs.less less (Runs.sqR mixed hkU [] (by kernel_rfl) (by kernel_rfl) (by kernel_rfl) oblN (Runs.now (x := .ret) (by kernel_rfl) ⟨.inr rfl, [iZ (.negSucc 0)], by kernel_rfl, rfl, keepOf (by kernel_rfl)⟩))
  · rw [if_pos hlt]
    exact he
theorem anyN_says {k m cap x y : Nat} {A B C : Nat → Int} (hm : m < 1000) (G : Gals m A B C) (hx : x < 10) (hy : y < 10) : Says Tryz.prog (hp (ON k m cap A B C x y)) 23 [smallS 0 m cap, cloN] (.bool ((List.range m).any fun j => vio (A j) (B j) (C j) x y)) (hp (ON k m cap A B C x y)) := by
  have hS := idxN_says (k := k) (cap := cap) hm G hx hy
  have hF := any_first (p := fun j => vio (A j) (B j) (C j) x y) (m := m)
  unfold idxV at hS
  generalize (fun j => vio (A j) (B j) (C j) x y) = p at hS hF ⊢
  refine says_of (os := ON k m cap A B C x y) ?_ arg51N_clo oN_clo (clo_plain rfl)
  show Local Tryz.prog 4 23 _ _ _
  refine local_of noNum Tryz.func23 (show Tryz.f23.body = some c23 by kernel_rfl) ?_
  refine Runs.sqR mixed hkU [] (by kernel_rfl) (by kernel_rfl) (by kernel_rfl) oblN ?_
  by_cases h : firstP p m m 0 < m
  · rw [if_pos h] at hS
    rw [hF.1 h]
    generalize firstP p m m 0 = q at hS
    refine Runs.sqR mixed hkU [viaC 2 51 [smallS 0 m cap, cloN] (i64 q), viaV 3 (.bool true)] (by kernel_rfl) (by kernel_rfl) (by kernel_rfl) (oblC (shown_callE (h0 := hp (ON k m cap A B C x y)) (by kernel_rfl) (by kernel_rfl) hS) (oblC (shown_eq (v := .bool (leF (.ofNat 0) (.ofNat q))) (by kernel_rfl) (by kernel_rfl) (by rw [show leF (.ofNat 0) (.ofNat q) = true from leF_true (Int.natCast_nonneg q)])) oblN)) ?_
    exact Runs.now (x := .ret) (by kernel_rfl) ⟨.inr rfl, [.bool true], by kernel_rfl, rfl, keepOf (by kernel_rfl)⟩
  · rw [if_neg h] at hS
    have e : (List.range m).any p = false := by
      cases hq : (List.range m).any p with
      | false => rfl
      | true => exact absurd (hF.2 hq) h
    rw [e]
    refine Runs.sqR mixed hkU [viaC 2 51 [smallS 0 m cap, cloN] (iZ (.negSucc 0))] (by kernel_rfl) (by kernel_rfl) (by kernel_rfl) (oblC (shown_callE (h0 := hp (ON k m cap A B C x y)) (by kernel_rfl) (by kernel_rfl) hS) oblN) ?_
    exact Runs.now (x := .ret) (by kernel_rfl) ⟨.inr rfl, [.bool false], by kernel_rfl, rfl, keepOf (by kernel_rfl)⟩

/-! ### Shape S -/
noncomputable def OS (k m cap : Nat) (A B C : Nat → Int) (x y : Nat) (l : List Nat) : List AObj := [viewG m A B C, hillO k m cap, boxN x, rowP l, boxN y]
theorem oS_clo {k m cap x y : Nat} {A B C : Nat → Int} {l : List Nat} : ∀ o ∈ OS k m cap A B C x y l, CloO 5 o := fun o ho => by
  simp only [OS, List.mem_cons, List.mem_nil_iff, or_false] at ho
  rcases ho with rfl | rfl | rfl | rfl | rfl
  · exact viewG_clo
  · exact ⟨fun v hv => by
      simp only [List.mem_cons, List.mem_nil_iff, or_false] at hv
      rcases hv with rfl | rfl <;> exact clo_of 10 _ _ (by kernel_rfl), fun j hj => by cases hj⟩
  · exact boxN_clo
  · exact rowP_clo
  · exact boxN_clo
theorem vioS_says {k m cap x y : Nat} {A B C : Nat → Int} {l : List Nat} {a b c : Int} (G : Gal a b c) (hx : x < 10) (hy : y < 10) : Says Tryz.prog (hp (OS k m cap A B C x y l)) 24 [gal a b c, ptrV 2, ptrV 4] (.bool (vio a b c x y)) (hp (OS k m cap A B C x y l)) := by
  obtain ⟨a0, a1, b0, b1, c0, c1, ne⟩ := G
  have ex : -90 ≤ a * (x : Int) ∧ a * (x : Int) ≤ 90 := by
    have h0 : (0 : Int) ≤ (x : Int) := Int.natCast_nonneg x
    have h9 : (x : Int) ≤ 9 := by omega
    constructor
    · have := Int.mul_le_mul_of_nonneg_right a0 h0; omega
    · have := Int.mul_le_mul_of_nonneg_right a1 h0; omega
  have ey : -90 ≤ b * (y : Int) ∧ b * (y : Int) ≤ 90 := by
    have h0 : (0 : Int) ≤ (y : Int) := Int.natCast_nonneg y
    have h9 : (y : Int) ≤ 9 := by omega
    constructor
    · have := Int.mul_le_mul_of_nonneg_right b0 h0; omega
    · have := Int.mul_le_mul_of_nonneg_right b1 h0; omega
  refine says_of (os := OS k m cap A B C x y l) ?_ (fun v hv => ?_) oS_clo (clo_plain rfl)
  · show Local Tryz.prog 5 24 _ _ _
    refine local_of noNum Tryz.func24 (show Tryz.f24.body = some c24 by kernel_rfl) ?_
    refine Runs.sqR mixed hkU [] (by kernel_rfl) (by kernel_rfl) (by kernel_rfl) oblN ?_
    refine Runs.sqR mixed hkU [viaV 3 (iZ (a * (x : Int))), viaV 7 (iZ (b * (y : Int))), viaV 8 (iZ (a * (x : Int) + b * (y : Int)))] (by kernel_rfl) (by kernel_rfl) (by kernel_rfl)
      (oblC (shown_eq (v := .int .i64 (wrapF .i64 (Int.mul a (.ofNat x)))) (by kernel_rfl) (by kernel_rfl) (by rw [wrapS (by show (-9223372036854775808 : Int) ≤ a * (x : Int); omega) (by show a * (x : Int) ≤ 9223372036854775807; omega)]; rfl))
      (oblC (shown_eq (v := .int .i64 (wrapF .i64 (Int.mul b (.ofNat y)))) (by kernel_rfl) (by kernel_rfl) (by rw [wrapS (by show (-9223372036854775808 : Int) ≤ b * (y : Int); omega) (by show b * (y : Int) ≤ 9223372036854775807; omega)]; rfl))
      (oblC (shown_eq (v := .int .i64 (wrapF .i64 (Int.add (a * (x : Int)) (b * (y : Int))))) (by kernel_rfl) (by kernel_rfl) (by rw [wrapS (by show (-9223372036854775808 : Int) ≤ a * (x : Int) + b * (y : Int); omega) (by show a * (x : Int) + b * (y : Int) ≤ 9223372036854775807; omega)]; rfl)) oblN))) ?_
    refine Runs.now (x := .ret) (by kernel_rfl) ⟨.inr rfl, [.bool (vio a b c x y)], by kernel_rfl, rfl, fun j z hz => ?_⟩
    match j, hz with
    | 0, hz => cases hz; exact Eq.trans (Eq.refl _) (by kernel_rfl)
    | 1, hz => cases hz; exact Eq.trans (Eq.refl _) (by kernel_rfl)
    | 2, hz => cases hz; exact Eq.trans (Eq.refl _) (by kernel_rfl)
    | 3, hz => cases hz; exact Eq.trans (Eq.refl _) (by kernel_rfl)
    | 4, hz => cases hz; exact Eq.trans (Eq.refl _) (by kernel_rfl)
    | j + 5, hz => cases hz
  · simp only [List.mem_cons, List.mem_nil_iff, or_false] at hv
    rcases hv with rfl | rfl | rfl
    · exact clo_of 10 _ _ (by kernel_rfl)
    · exact clo_of 10 _ _ (by kernel_rfl)
    · exact clo_of 10 _ _ (by kernel_rfl)
noncomputable def cloS : Value := .func (.func 24) #[] #[ptrV 2, ptrV 4]
noncomputable def S51S (m cap i : Nat) : List (Nat × Value) := [(0, smallS 0 m cap), (1, cloS), (7, i64 m), (8, i64 i)]
theorem idxS_loop {k m cap x y : Nat} {A B C : Nat → Int} {l : List Nat} (hm : m < 1000) (G : Gals m A B C) (hx : x < 10) (hy : y < 10) : ∀ d i, i + d = m →
    Runs Tryz.prog 5 lp51 (sth (S51S m cap i) 19 (OS k m cap A B C x y l)) fun e af => (e = .exit 0 ∧ firstP (fun j => vio (A j) (B j) (C j) x y) m d i = m ∧ Less 5 (sth [] 19 (OS k m cap A B C x y l)) af) ∨
      (e = .ret ∧ firstP (fun j => vio (A j) (B j) (C j) x y) m d i < m ∧ EndsAs Tryz.prog Tryz.f51 (Holds (OS k m cap A B C x y l) (i64 (firstP (fun j => vio (A j) (B j) (C j) x y) m d i))) .ret af) := by
  intro d
  induction d with
  | zero =>
    intro i hi
    have e : i = m := by omega
    subst e
    refine Runs.lp (by kernel_rfl) (Runs.sqR mixed hkU [] (by kernel_rfl) (by kernel_rfl) (by kernel_rfl) oblN (Runs.sq (by kernel_rfl) ?_))
    refine Runs.cd (b := ltF (.ofNat i) (.ofNat i)) (by kernel_rfl) (fun ht => by rw [lt_self] at ht; cases ht) (fun _ => Runs.now (x := .exit 0) (by kernel_rfl) (.inl ⟨rfl, rfl, ?_⟩))
    exact less_seenP (clo_all (k := 5) (by kernel_rfl)) oS_clo (Nat.le_refl 5) (by kernel_rfl) (by kernel_rfl) (by kernel_rfl) (by kernel_rfl)
  | succ d ih =>
    intro i hi
    have hlt : i < m := by omega
    have hC := vioS_says (k := k) (m := m) (cap := cap) (A := A) (B := B) (C := C) (l := l) (G i hlt) hx hy
    have hv : vio (A i) (B i) (C i) x y = (fun j => vio (A j) (B j) (C j) x y) i := rfl
    rw [hv] at hC
    generalize (fun j => vio (A j) (B j) (C j) x y) = p at hC ih ⊢
    refine Runs.lp (by kernel_rfl) (Runs.sqR mixed hkU [] (by kernel_rfl) (by kernel_rfl) (by kernel_rfl) oblN (Runs.sq (by kernel_rfl) ?_))
    refine Runs.cd (b := ltF (.ofNat i) (.ofNat m)) (by kernel_rfl) (fun _ => Runs.now (x := .normal) (by kernel_rfl) ?_) (fun hf => by rw [lt_of hlt] at hf; cases hf)
    show Runs Tryz.prog 5 _ _ _
    refine Runs.sq (by kernel_rfl) (Runs.bk (id := 1) (by kernel_rfl) ?_)
    refine Runs.sqR mixed hkU [] (by kernel_rfl) (by kernel_rfl) (by kernel_rfl) oblN ?_
    refine Runs.sqR mixed hkU [viaV 3 (.pointer (some ⟨0, 0 + i * 3, none⟩)), viaV 4 (gal (A i) (B i) (C i)), viaC 5 24 [gal (A i) (B i) (C i), ptrV 2, ptrV 4] (.bool (p i))] (by kernel_rfl) (by kernel_rfl) (by kernel_rfl)
      (oblC (shown_idx (n := m) (by kernel_rfl) hlt) (oblC (shown_agg (by kernel_rfl) (gal_at (q := 0) (m := m) (A := A) (B := B) (C := C) (lv := false) (par := []) (ty := none) (by kernel_rfl) hlt))
      (oblC (shown_callE (h0 := hp (OS k m cap A B C x y l)) (by kernel_rfl) (by kernel_rfl) hC) oblN))) ?_
    refine Runs.cd (b := p i) (by kernel_rfl) (fun ht => ?_) (fun hf => Runs.now (x := .normal) (by kernel_rfl) ?_)
    · have e : firstP p m (d + 1) i = i := by unfold firstP; rw [ht]; rfl
      rw [e]
      exact Runs.sqR mixed hkU [] (by kernel_rfl) (by kernel_rfl) (by kernel_rfl) oblN (Runs.now (x := .ret) (by kernel_rfl) (.inr ⟨rfl, hlt, .inr rfl, [i64 i], by kernel_rfl, rfl, keepOf (by kernel_rfl)⟩))
    · have e : firstP p m (d + 1) i = firstP p m d (i + 1) := by rw [firstP, hf]; rfl
      rw [e]
      show Runs Tryz.prog 5 _ _ _
      refine Runs.rg mixed hkU [viaV 0 (i64 (i + 1))] (by kernel_rfl) (by kernel_rfl) (by kernel_rfl) (oblC (shown_eq (v := .int .i64 (wrapF .i64 (Int.add (.ofNat i) (.ofNat 1)))) (by kernel_rfl) (by kernel_rfl) (by rw [wrap_succ (by omega)]; rfl)) oblN) ?_
      show Runs Tryz.prog 5 lp51 _ _
      exact Runs.less (af1 := sth (S51S m cap (i + 1)) 19 (OS k m cap A B C x y l)) (less_seenP (clo_all (k := 5) (by kernel_rfl)) oS_clo (Nat.le_refl 5) (by kernel_rfl) (by kernel_rfl) (by kernel_rfl) (by kernel_rfl)) (ih (i + 1) (by omega))
theorem arg51S_clo {m cap : Nat} : ∀ x ∈ [smallS 0 m cap, cloS], Clo 5 x := fun x hx => by
  simp only [List.mem_cons, List.mem_nil_iff, or_false] at hx
  rcases hx with rfl | rfl <;> exact clo_of 10 _ _ (by kernel_rfl)
theorem idxS_says {k m cap x y : Nat} {A B C : Nat → Int} {l : List Nat} (hm : m < 1000) (G : Gals m A B C) (hx : x < 10) (hy : y < 10) : Says Tryz.prog (hp (OS k m cap A B C x y l)) 51 [smallS 0 m cap, cloS] (idxV (fun j => vio (A j) (B j) (C j) x y) m) (hp (OS k m cap A B C x y l)) := by
  refine says_of (os := OS k m cap A B C x y l) ?_ arg51S_clo oS_clo (clo_plain (by unfold idxV; split <;> rfl))
  show Local Tryz.prog 5 51 _ _ _
  refine local_of noNum Tryz.func51 (show Tryz.f51.body = some c51 by kernel_rfl) ?_
  refine Runs.sqR mixed hkU [] (by kernel_rfl) (by kernel_rfl) (by kernel_rfl) oblN ?_
  refine Runs.sq (by kernel_rfl) (Runs.sqR mixed hkU [] (by kernel_rfl) (by kernel_rfl) (by kernel_rfl) oblN (Runs.bk (id := 0) (by kernel_rfl) ?_))
  show Runs Tryz.prog 5 lp51 _ _
  refine Runs.less (af1 := sth (S51S m cap 0) 19 (OS k m cap A B C x y l)) (less_seenP (clo_all (k := 5) (by kernel_rfl)) oS_clo (Nat.le_refl 5) (by kernel_rfl) (by kernel_rfl) (by kernel_rfl) (by kernel_rfl)) ?_
  refine (idxS_loop hm G hx hy m 0 (by omega)).mono fun e af hx => ?_
  unfold idxV
  rcases hx with ⟨rfl, he, less⟩ | ⟨rfl, hlt, he⟩
  · rw [if_neg (by omega)]
    show Runs Tryz.prog 5 _ af _
    exact Runs.less less (Runs.sqR mixed hkU [] (by kernel_rfl) (by kernel_rfl) (by kernel_rfl) oblN (Runs.now (x := .ret) (by kernel_rfl) ⟨.inr rfl, [iZ (.negSucc 0)], by kernel_rfl, rfl, keepOf (by kernel_rfl)⟩))
  · rw [if_pos hlt]
    exact he
theorem anyS_says {k m cap x y : Nat} {A B C : Nat → Int} {l : List Nat} (hm : m < 1000) (G : Gals m A B C) (hx : x < 10) (hy : y < 10) : Says Tryz.prog (hp (OS k m cap A B C x y l)) 23 [smallS 0 m cap, cloS] (.bool ((List.range m).any fun j => vio (A j) (B j) (C j) x y)) (hp (OS k m cap A B C x y l)) := by
  have hS := idxS_says (k := k) (cap := cap) (l := l) hm G hx hy
  have hF := any_first (p := fun j => vio (A j) (B j) (C j) x y) (m := m)
  unfold idxV at hS
  generalize (fun j => vio (A j) (B j) (C j) x y) = p at hS hF ⊢
  refine says_of (os := OS k m cap A B C x y l) ?_ arg51S_clo oS_clo (clo_plain rfl)
  show Local Tryz.prog 5 23 _ _ _
  refine local_of noNum Tryz.func23 (show Tryz.f23.body = some c23 by kernel_rfl) ?_
  refine Runs.sqR mixed hkU [] (by kernel_rfl) (by kernel_rfl) (by kernel_rfl) oblN ?_
  by_cases h : firstP p m m 0 < m
  · rw [if_pos h] at hS
    rw [hF.1 h]
    generalize firstP p m m 0 = q at hS
    refine Runs.sqR mixed hkU [viaC 2 51 [smallS 0 m cap, cloS] (i64 q), viaV 3 (.bool true)] (by kernel_rfl) (by kernel_rfl) (by kernel_rfl) (oblC (shown_callE (h0 := hp (OS k m cap A B C x y l)) (by kernel_rfl) (by kernel_rfl) hS) (oblC (shown_eq (v := .bool (leF (.ofNat 0) (.ofNat q))) (by kernel_rfl) (by kernel_rfl) (by rw [show leF (.ofNat 0) (.ofNat q) = true from leF_true (Int.natCast_nonneg q)])) oblN)) ?_
    exact Runs.now (x := .ret) (by kernel_rfl) ⟨.inr rfl, [.bool true], by kernel_rfl, rfl, keepOf (by kernel_rfl)⟩
  · rw [if_neg h] at hS
    have e : (List.range m).any p = false := by
      cases hq : (List.range m).any p with
      | false => rfl
      | true => exact absurd (hF.2 hq) h
    rw [e]
    refine Runs.sqR mixed hkU [viaC 2 51 [smallS 0 m cap, cloS] (iZ (.negSucc 0))] (by kernel_rfl) (by kernel_rfl) (by kernel_rfl) (oblC (shown_callE (h0 := hp (OS k m cap A B C x y l)) (by kernel_rfl) (by kernel_rfl) hS) oblN) ?_
    exact Runs.now (x := .ret) (by kernel_rfl) ⟨.inr rfl, [.bool false], by kernel_rfl, rfl, keepOf (by kernel_rfl)⟩
end
end Go.Proofs.YtbcjmmbmeebfgaaGreatDoor

/- TopFlooded's region: the first places that agree with all galleries, as a contract. -/
namespace Go.Proofs.YtbcjmmbmeebfgaaGreatDoor
set_option linter.unusedVariables false
set_option linter.unusedSimpArgs false
open Go Go.R
set_option maxRecDepth 1000000
noncomputable section
noncomputable def c6 : Code := bodyOf Tryz.f6
noncomputable def lp6 : Code := within (tl (hd (behind 2 c6)))
noncomputable def li6 : Code := within (tl (tl (within (hd (tl (tl (within lp6)))))))
noncomputable def badN (m : Nat) (A B C : Nat → Int) (x y : Nat) : Bool := (List.range m).any fun j => vio (A j) (B j) (C j) x y
noncomputable def stepL (m : Nat) (A B C : Nat → Int) (L : List Nat) (x y : Nat) : List Nat := if Nat.blt L.length 4 && !(badN m A B C x y) then L ++ [7 * x + y] else L
noncomputable def scanY (m : Nat) (A B C : Nat → Int) (x : Nat) : Nat → Nat → List Nat → List Nat
  | 0, _, L => L
  | d + 1, y, L => scanY m A B C x d (y + 1) (stepL m A B C L x y)
noncomputable def scanX (k m : Nat) (A B C : Nat → Int) : Nat → Nat → List Nat → List Nat
  | 0, _, L => L
  | d + 1, x, L => scanX k m A B C d (x + 1) (scanY m A B C x k 0 L)
noncomputable def outV (q : Nat) : List Nat → Value
  | [] => .slice none 0 0
  | a :: l => slP q (a :: l).length
noncomputable def IOs (k m cap : Nat) (A B C : Nat → Int) (x : Nat) : List Nat → List AObj
  | [] => [viewG m A B C, hillO k m cap, boxN x]
  | a :: l => [viewG m A B C, hillO k m cap, boxN x, rowP (a :: l)]
noncomputable def JOs (k m cap : Nat) (A B C : Nat → Int) : List Nat → List AObj
  | [] => [viewG m A B C, hillO k m cap]
  | a :: l => [viewG m A B C, hillO k m cap, rowP (a :: l)]
noncomputable def ITm (k x y : Nat) (L : List Nat) : List (Nat × Value) := [(1, i64 4), (2, ptrV 1), (5, outV 3 L), (6, ptrV 2), (9, i64 k), (10, i64 x), (14, i64 k), (15, i64 y)]
noncomputable def ITe (k x : Nat) (L : List Nat) : List (Nat × Value) := [(1, i64 4), (2, ptrV 1), (5, outV 3 L), (9, i64 k), (10, i64 x)]
noncomputable def JTm (k x : Nat) (L : List Nat) : List (Nat × Value) := [(1, i64 4), (2, ptrV 1), (5, outV 2 L), (9, i64 k), (10, i64 x)]
theorem hillC_clo {k m cap n : Nat} (h : 0 < n) : CloO n (hillO k m cap) := ⟨fun v hv => by
  simp only [List.mem_cons, List.mem_nil_iff, or_false] at hv
  rcases hv with rfl | rfl
  · exact clo_plain rfl
  · refine clo_of 10 n _ ?_
    show (plainV _ || Nat.blt 0 n) = true
    rw [Bool.or_eq_true]; exact .inr (by rw [Nat.blt_eq]; exact h), fun j hj => by cases hj⟩
theorem i0_clo {k m cap x : Nat} {A B C : Nat → Int} : ∀ o ∈ IOs k m cap A B C x [], CloO 3 o := fun o ho => by
  simp only [IOs, List.mem_cons, List.mem_nil_iff, or_false] at ho
  rcases ho with rfl | rfl | rfl
  · exact viewG_clo
  · exact hillC_clo (by decide)
  · exact boxN_clo
theorem i1_clo {k m cap x a : Nat} {l : List Nat} {A B C : Nat → Int} : ∀ o ∈ IOs k m cap A B C x (a :: l), CloO 4 o := fun o ho => by
  simp only [IOs, List.mem_cons, List.mem_nil_iff, or_false] at ho
  rcases ho with rfl | rfl | rfl | rfl
  · exact viewG_clo
  · exact hillC_clo (by decide)
  · exact boxN_clo
  · exact rowP_clo
theorem j0_clo {k m cap : Nat} {A B C : Nat → Int} : ∀ o ∈ JOs k m cap A B C [], CloO 2 o := fun o ho => by
  simp only [JOs, List.mem_cons, List.mem_nil_iff, or_false] at ho
  rcases ho with rfl | rfl
  · exact viewG_clo
  · exact hillC_clo (by decide)
theorem j1_clo {k m cap a : Nat} {l : List Nat} {A B C : Nat → Int} : ∀ o ∈ JOs k m cap A B C (a :: l), CloO 3 o := fun o ho => by
  simp only [JOs, List.mem_cons, List.mem_nil_iff, or_false] at ho
  rcases ho with rfl | rfl | rfl
  · exact viewG_clo
  · exact hillC_clo (by decide)
  · exact rowP_clo
theorem place_xy {x y : Nat} (hy : y < 7) (l : List Nat) : placesC l ++ [i64 x, i64 y] = placesC (l ++ [7 * x + y]) := by
  rw [← placesC_app]
  rw [show (7 * x + y) / 7 = x by omega, show (7 * x + y) % 7 = y by omega]
theorem obs_box {ρ σ : Nat → Nat} {q n : Nat} : RenO ρ q (boxN n) (boxN n) := RenO.of (σ := σ) rfl rfl
theorem obs_hill {ρ σ : Nat → Nat} {q k m cap : Nat} (h0 : σ 0 = 0) (g0 : ρ 0 = 0) (hq : Nat.blt 0 q = true) : RenO ρ q (hillO k m cap) (hillO k m cap) := by
  refine RenO.of (σ := σ) ?_ ?_
  · show AObj.cells [i64 k, .slice (some ⟨σ 0, 0, none⟩) m cap] true [] (some 26) = _
    rw [h0]; rfl
  · show (true && (Nat.blt (σ 0) q && Nat.beq (ρ (σ 0)) 0 && true)) = true
    rw [h0, g0, hq]; rfl

theorem inner6 {k m cap x : Nat} {A B C : Nat → Int} (hk7 : k < 8) (hm : m < 1000) (G : Gals m A B C) (hx : x < 7) : ∀ d y L, y + d = k → y + d ≤ 7 →
    Runs Tryz.prog 1 li6 (sth (ITm k x y L) 38 (IOs k m cap A B C x L)) fun e af => e = .exit 2 ∧ Less 1 (sth (ITe k x (scanY m A B C x d y L)) 38 (IOs k m cap A B C x (scanY m A B C x d y L))) af := by
  intro d
  induction d with
  | zero =>
    intro y L hy _
    have e : y = k := by omega
    subst e
    cases L with
    | nil =>
      refine Runs.lp (by kernel_rfl) (Runs.sqR mixed hkU [] (by kernel_rfl) (by kernel_rfl) (by kernel_rfl) oblN (Runs.sq (by kernel_rfl) ?_))
      refine Runs.cd (b := ltF (.ofNat y) (.ofNat y)) (by kernel_rfl) (fun ht => by rw [lt_self] at ht; cases ht) (fun _ => Runs.now (x := .exit 2) (by kernel_rfl) ⟨rfl, ?_⟩)
      exact less_seenP (clo_all (k := 3) (by kernel_rfl)) i0_clo (show 1 ≤ 3 by decide) (by kernel_rfl) (by kernel_rfl) (by kernel_rfl) (by kernel_rfl)
    | cons a l =>
      refine Runs.lp (by kernel_rfl) (Runs.sqR mixed hkU [] (by kernel_rfl) (by kernel_rfl) (by kernel_rfl) oblN (Runs.sq (by kernel_rfl) ?_))
      refine Runs.cd (b := ltF (.ofNat y) (.ofNat y)) (by kernel_rfl) (fun ht => by rw [lt_self] at ht; cases ht) (fun _ => Runs.now (x := .exit 2) (by kernel_rfl) ⟨rfl, ?_⟩)
      exact less_seenP (clo_all (k := 4) (by kernel_rfl)) i1_clo (show 1 ≤ 4 by decide) (by kernel_rfl) (by kernel_rfl) (by kernel_rfl) (by kernel_rfl)
  | succ d ih =>
    intro y L hy hy7
    have hlt : y < k := by omega
    have e : scanY m A B C x (d + 1) y L = scanY m A B C x d (y + 1) (stepL m A B C L x y) := rfl
    rw [e]
    have hr := fun L' => ih (y + 1) L' (by omega) (by omega)
    cases L with
    | nil =>
      have hS := anyN_says (k := k) (cap := cap) hm G (show x < 10 by omega) (show y < 10 by omega)
      have es : stepL m A B C [] x y = if !(badN m A B C x y) then [7 * x + y] else [] := rfl
      rw [es]
      have eb : ((List.range m).any fun j => vio (A j) (B j) (C j) x y) = badN m A B C x y := rfl
      rw [eb] at hS
      generalize badN m A B C x y = v at hS ⊢
      refine Runs.lp (by kernel_rfl) (Runs.sqR mixed hkU [] (by kernel_rfl) (by kernel_rfl) (by kernel_rfl) oblN (Runs.sq (by kernel_rfl) ?_))
      refine Runs.cd (b := ltF (.ofNat y) (.ofNat k)) (by kernel_rfl) (fun _ => Runs.now (x := .normal) (by kernel_rfl) ?_) (fun hf => by rw [lt_of hlt] at hf; cases hf)
      show Runs Tryz.prog 1 _ _ _
      refine Runs.sq (by kernel_rfl) (Runs.bk (id := 3) (by kernel_rfl) ?_)
      refine Runs.sqR mixed hkU [] (by kernel_rfl) (by kernel_rfl) (by kernel_rfl) oblN ?_
      refine Runs.sqR mixed hkU [viaC 8 23 [smallS 0 m cap, cloN] (.bool v)] (by kernel_rfl) (by kernel_rfl) (by kernel_rfl) (oblC (shown_callE (h0 := hp (ON k m cap A B C x y)) (by kernel_rfl) (by kernel_rfl) hS) oblN) ?_
      refine Runs.cd (b := !v) (by kernel_rfl) (fun ht => ?_) (fun hf => Runs.now (x := .normal) (by kernel_rfl) ?_)
      · rw [if_pos ht]
        refine Runs.rg mixed hkU [] (by kernel_rfl) (by kernel_rfl) (by kernel_rfl) oblN ?_
        show Runs Tryz.prog 1 _ _ _
        refine Runs.rg mixed hkU [viaV 0 (i64 (y + 1))] (by kernel_rfl) (by kernel_rfl) (by kernel_rfl) (oblC (shown_eq (v := .int .i64 (wrapF .i64 (Int.add (.ofNat y) (.ofNat 1)))) (by kernel_rfl) (by kernel_rfl) (by rw [wrap_succ (by omega)]; rfl)) oblN) ?_
        show Runs Tryz.prog 1 li6 _ _
        exact Runs.renumK (sz := 38) (l := ITm k x (y + 1) [7 * x + y]) (os := IOs k m cap A B C x [7 * x + y]) (fun j => match j with | 3 => 5 | j => j) (fun j => match j with | 5 => 3 | j => j) (by kernel_rfl) (show 1 ≤ 4 by decide) (by kernel_rfl) (fix1 (by kernel_rfl)) (by kernel_rfl) (by kernel_rfl) (by kernel_rfl) (by kernel_rfl)
          (obsL [viewG m A B C, hillO k m cap, boxN x, .cells [i64 x, i64 y] true [] (some 35)] (by kernel_rfl) ⟨obs_viewG rfl, obs_hill (σ := fun j => match j with | 5 => 3 | j => j) rfl rfl rfl, obs_box (σ := fun j => j), obs_rowP rfl (place_xy (by omega) []), trivial⟩) (hr [7 * x + y])
      · rw [if_neg (by rw [hf]; exact Bool.false_ne_true)]
        show Runs Tryz.prog 1 _ _ _
        refine Runs.rg mixed hkU [viaV 0 (i64 (y + 1))] (by kernel_rfl) (by kernel_rfl) (by kernel_rfl) (oblC (shown_eq (v := .int .i64 (wrapF .i64 (Int.add (.ofNat y) (.ofNat 1)))) (by kernel_rfl) (by kernel_rfl) (by rw [wrap_succ (by omega)]; rfl)) oblN) ?_
        show Runs Tryz.prog 1 li6 _ _
        exact Runs.less (af1 := sth (ITm k x (y + 1) []) 38 (IOs k m cap A B C x [])) (less_seenP (clo_all (k := 3) (by kernel_rfl)) i0_clo (show 1 ≤ 3 by decide) (by kernel_rfl) (by kernel_rfl) (by kernel_rfl) (by kernel_rfl)) (hr [])
    | cons a l =>
      have hS := anyS_says (k := k) (cap := cap) (l := a :: l) hm G (show x < 10 by omega) (show y < 10 by omega)
      have es : stepL m A B C (a :: l) x y = if Nat.blt (a :: l).length 4 && !(badN m A B C x y) then a :: (l ++ [7 * x + y]) else a :: l := rfl
      rw [es]
      have eb : ((List.range m).any fun j => vio (A j) (B j) (C j) x y) = badN m A B C x y := rfl
      rw [eb] at hS
      generalize badN m A B C x y = v at hS ⊢
      refine Runs.lp (by kernel_rfl) (Runs.sqR mixed hkU [] (by kernel_rfl) (by kernel_rfl) (by kernel_rfl) oblN (Runs.sq (by kernel_rfl) ?_))
      refine Runs.cd (b := ltF (.ofNat y) (.ofNat k)) (by kernel_rfl) (fun _ => Runs.now (x := .normal) (by kernel_rfl) ?_) (fun hf => by rw [lt_of hlt] at hf; cases hf)
      show Runs Tryz.prog 1 _ _ _
      refine Runs.sq (by kernel_rfl) (Runs.bk (id := 3) (by kernel_rfl) ?_)
      refine Runs.sqR mixed hkU [] (by kernel_rfl) (by kernel_rfl) (by kernel_rfl) oblN ?_
      cases hl4 : Nat.blt (a :: l).length 4 with
      | false =>
        refine Runs.sqR mixed hkU [viaV 3 (.bool false)] (by kernel_rfl) (by kernel_rfl) (by kernel_rfl) (oblC (shown_eq (v := .bool (ltF (.ofNat (a :: l).length) (.ofNat 4))) (by kernel_rfl) (by kernel_rfl) (by show Value.bool (Nat.blt (a :: l).length 4) = _; rw [hl4])) oblN) ?_
        refine Runs.cd (b := false) (by kernel_rfl) (fun h => by cases h) (fun _ => Runs.now (x := .normal) (by kernel_rfl) ?_)
        show Runs Tryz.prog 1 _ _ _
        refine Runs.rg mixed hkU [viaV 0 (i64 (y + 1))] (by kernel_rfl) (by kernel_rfl) (by kernel_rfl) (oblC (shown_eq (v := .int .i64 (wrapF .i64 (Int.add (.ofNat y) (.ofNat 1)))) (by kernel_rfl) (by kernel_rfl) (by rw [wrap_succ (by omega)]; rfl)) oblN) ?_
        show Runs Tryz.prog 1 li6 _ _
        exact Runs.less (af1 := sth (ITm k x (y + 1) (a :: l)) 38 (IOs k m cap A B C x (a :: l))) (less_seenP (clo_all (k := 4) (by kernel_rfl)) i1_clo (show 1 ≤ 4 by decide) (by kernel_rfl) (by kernel_rfl) (by kernel_rfl) (by kernel_rfl)) (hr (a :: l))
      | true =>
        have hl4' := blt_iff.1 hl4
        rw [Bool.true_and]
        refine Runs.sqR mixed hkU [viaV 3 (.bool true), viaC 8 23 [smallS 0 m cap, cloS] (.bool v)] (by kernel_rfl) (by kernel_rfl) (by kernel_rfl)
          (oblC (shown_eq (v := .bool (ltF (.ofNat (a :: l).length) (.ofNat 4))) (by kernel_rfl) (by kernel_rfl) (by show Value.bool (Nat.blt (a :: l).length 4) = _; rw [hl4])) (oblC (shown_callE (h0 := hp (OS k m cap A B C x y (a :: l))) (by kernel_rfl) (by kernel_rfl) hS) oblN)) ?_
        refine Runs.cd (b := !v) (by kernel_rfl) (fun ht => ?_) (fun hf => Runs.now (x := .normal) (by kernel_rfl) ?_)
        · rw [if_pos ht]
          let H0 : AH := hp (OS k m cap A B C x y (a :: l))
          let H1 : AH := (H0.new (.cells [i64 x, i64 y] true [] (some 35))).2
          have hap := push_gen (st := 28) (e := 35) (z := 1) (by kernel_rfl) place_info (h := H1) (i := 3) (j := 5) (x := [i64 x, i64 y]) (c := placesC (a :: l)) (m := (a :: l).length) (par := []) rfl rfl (placesC_len _) (by omega) (by kernel_rfl) (by kernel_rfl)
          refine Runs.rg mixed hkU [⟨5, slP 6 ((a :: l).length + 1), some ((H1.put 3 (.cells (placesC (a :: l)) false [] (some 35))).new (.cells (placesC (a :: l) ++ [i64 x, i64 y]) true [3] (some 35))).2, none⟩] (by kernel_rfl) (by kernel_rfl) (by kernel_rfl)
            (oblC ⟨by kernel_rfl, (show _ = appendA Tryz.prog #[28, 28] (.slice (some ⟨3, 0, some 2⟩) (a :: l).length (a :: l).length) (.slice (some ⟨5, 0, none⟩) 1 1) H1 by kernel_rfl).trans hap⟩ oblN) ?_
          show Runs Tryz.prog 1 _ _ _
          refine Runs.rg mixed hkU [viaV 0 (i64 (y + 1))] (by kernel_rfl) (by kernel_rfl) (by kernel_rfl) (oblC (shown_eq (v := .int .i64 (wrapF .i64 (Int.add (.ofNat y) (.ofNat 1)))) (by kernel_rfl) (by kernel_rfl) (by rw [wrap_succ (by omega)]; rfl)) oblN) ?_
          show Runs Tryz.prog 1 li6 _ _
          have el : (a :: (l ++ [7 * x + y])).length = (a :: l).length + 1 := by simp
          have ev : outV 3 (a :: (l ++ [7 * x + y])) = slP 3 ((a :: l).length + 1) := by
            show slP 3 (a :: (l ++ [7 * x + y])).length = _
            rw [el]
          have hr1 := hr (a :: (l ++ [7 * x + y]))
          unfold ITm at hr1
          rw [ev] at hr1
          exact Runs.renumK (sz := 38) (l := [(1, i64 4), (2, ptrV 1), (5, slP 3 ((a :: l).length + 1)), (6, ptrV 2), (9, i64 k), (10, i64 x), (14, i64 k), (15, i64 (y + 1))]) (os := IOs k m cap A B C x (a :: (l ++ [7 * x + y]))) (fun j => match j with | 3 => 6 | j => j) (fun j => match j with | 6 => 3 | j => j) (by kernel_rfl) (show 1 ≤ 4 by decide) (by kernel_rfl) (fix1 (by kernel_rfl)) (by kernel_rfl) (by kernel_rfl) (by kernel_rfl) (by kernel_rfl)
            (obsL [viewG m A B C, hillO k m cap, boxN x, .cells (placesC (a :: l) ++ [i64 x, i64 y]) true [3] (some 35)] (by kernel_rfl) ⟨obs_viewG rfl, obs_hill (σ := fun j => match j with | 6 => 3 | j => j) rfl rfl rfl, obs_box (σ := fun j => j), obs_rowP rfl (place_xy (by omega) (a :: l)), trivial⟩) hr1
        · rw [if_neg (by rw [hf]; exact Bool.false_ne_true)]
          show Runs Tryz.prog 1 _ _ _
          refine Runs.rg mixed hkU [viaV 0 (i64 (y + 1))] (by kernel_rfl) (by kernel_rfl) (by kernel_rfl) (oblC (shown_eq (v := .int .i64 (wrapF .i64 (Int.add (.ofNat y) (.ofNat 1)))) (by kernel_rfl) (by kernel_rfl) (by rw [wrap_succ (by omega)]; rfl)) oblN) ?_
          show Runs Tryz.prog 1 li6 _ _
          exact Runs.less (af1 := sth (ITm k x (y + 1) (a :: l)) 38 (IOs k m cap A B C x (a :: l))) (less_seenP (clo_all (k := 4) (by kernel_rfl)) i1_clo (show 1 ≤ 4 by decide) (by kernel_rfl) (by kernel_rfl) (by kernel_rfl) (by kernel_rfl)) (hr (a :: l))
end
end Go.Proofs.YtbcjmmbmeebfgaaGreatDoor

/- TopFlooded's region: its outer loop, and the contract. -/
namespace Go.Proofs.YtbcjmmbmeebfgaaGreatDoor
set_option linter.unusedVariables false
set_option linter.unusedSimpArgs false
open Go Go.R
set_option maxRecDepth 1000000
noncomputable section
theorem outer6 {k m cap : Nat} {A B C : Nat → Int} (hk7 : k < 8) (hm : m < 1000) (G : Gals m A B C) : ∀ d x L, x + d = k →
    Runs Tryz.prog 1 lp6 (sth (JTm k x L) 38 (JOs k m cap A B C L)) fun e af => e = .exit 0 ∧ Less 1 (sth [(5, outV 2 (scanX k m A B C d x L))] 38 (JOs k m cap A B C (scanX k m A B C d x L))) af := by
  intro d
  induction d with
  | zero =>
    intro x L hx
    have e : x = k := by omega
    subst e
    cases L with
    | nil =>
      refine Runs.lp (by kernel_rfl) (Runs.sqR mixed hkU [] (by kernel_rfl) (by kernel_rfl) (by kernel_rfl) oblN (Runs.sq (by kernel_rfl) ?_))
      refine Runs.cd (b := ltF (.ofNat x) (.ofNat x)) (by kernel_rfl) (fun ht => by rw [lt_self] at ht; cases ht) (fun _ => Runs.now (x := .exit 0) (by kernel_rfl) ⟨rfl, ?_⟩)
      exact less_seenP (clo_all (k := 2) (by kernel_rfl)) j0_clo (show 1 ≤ 2 by decide) (by kernel_rfl) (by kernel_rfl) (by kernel_rfl) (by kernel_rfl)
    | cons a l =>
      refine Runs.lp (by kernel_rfl) (Runs.sqR mixed hkU [] (by kernel_rfl) (by kernel_rfl) (by kernel_rfl) oblN (Runs.sq (by kernel_rfl) ?_))
      refine Runs.cd (b := ltF (.ofNat x) (.ofNat x)) (by kernel_rfl) (fun ht => by rw [lt_self] at ht; cases ht) (fun _ => Runs.now (x := .exit 0) (by kernel_rfl) ⟨rfl, ?_⟩)
      exact less_seenP (clo_all (k := 3) (by kernel_rfl)) j1_clo (show 1 ≤ 3 by decide) (by kernel_rfl) (by kernel_rfl) (by kernel_rfl) (by kernel_rfl)
  | succ d ih =>
    intro x L hx
    have hlt : x < k := by omega
    have e : scanX k m A B C (d + 1) x L = scanX k m A B C d (x + 1) (scanY m A B C x k 0 L) := rfl
    rw [e]
    have hr := ih (x + 1) (scanY m A B C x k 0 L) (by omega)
    have hin := inner6 (cap := cap) hk7 hm G (show x < 7 by omega) k 0 L (by omega) (by omega)
    -- behind the inner loop
    have next : ∀ (L' : List Nat) (af : AF), Runs Tryz.prog 1 lp6 (sth (JTm k (x + 1) L') 38 (JOs k m cap A B C L')) (fun e af => e = .exit 0 ∧ Less 1 (sth [(5, outV 2 (scanX k m A B C d (x + 1) L'))] 38 (JOs k m cap A B C (scanX k m A B C d (x + 1) L'))) af) →
        Less 1 (sth (ITe k x L') 38 (IOs k m cap A B C x L')) af → Runs Tryz.prog 1 (tl (tl (tl (within lp6)))) af (andThen (fun a => Runs Tryz.prog 1 lp6 a fun e af => e = .exit 0 ∧ Less 1 (sth [(5, outV 2 (scanX k m A B C d (x + 1) L'))] 38 (JOs k m cap A B C (scanX k m A B C d (x + 1) L'))) af)
          fun e af => e = .exit 0 ∧ Less 1 (sth [(5, outV 2 (scanX k m A B C d (x + 1) L'))] 38 (JOs k m cap A B C (scanX k m A B C d (x + 1) L'))) af) := by
      intro L' af hr less
      refine Runs.less less ?_
      cases L' with
      | nil =>
        refine Runs.rg mixed hkU [viaV 0 (i64 (x + 1))] (by kernel_rfl) (by kernel_rfl) (by kernel_rfl) (oblC (shown_eq (v := .int .i64 (wrapF .i64 (Int.add (.ofNat x) (.ofNat 1)))) (by kernel_rfl) (by kernel_rfl) (by rw [wrap_succ (by omega)]; rfl)) oblN) ?_
        show Runs Tryz.prog 1 lp6 _ _
        exact Runs.less (af1 := sth (JTm k (x + 1) []) 38 (JOs k m cap A B C [])) (less_seenP (clo_all (k := 2) (by kernel_rfl)) j0_clo (show 1 ≤ 2 by decide) (by kernel_rfl) (by kernel_rfl) (by kernel_rfl) (by kernel_rfl)) hr
      | cons a l =>
        refine Runs.rg mixed hkU [viaV 0 (i64 (x + 1))] (by kernel_rfl) (by kernel_rfl) (by kernel_rfl) (oblC (shown_eq (v := .int .i64 (wrapF .i64 (Int.add (.ofNat x) (.ofNat 1)))) (by kernel_rfl) (by kernel_rfl) (by rw [wrap_succ (by omega)]; rfl)) oblN) ?_
        show Runs Tryz.prog 1 lp6 _ _
        exact Runs.renumK (sz := 38) (l := JTm k (x + 1) (a :: l)) (os := JOs k m cap A B C (a :: l)) (fun j => match j with | 2 => 3 | j => j) (fun j => match j with | 3 => 2 | j => j) (by kernel_rfl) (show 1 ≤ 3 by decide) (by kernel_rfl) (fix1 (by kernel_rfl)) (by kernel_rfl) (by kernel_rfl) (by kernel_rfl) (by kernel_rfl)
          (obsL [viewG m A B C, hillO k m cap, rowP (a :: l)] (by kernel_rfl) ⟨obs_viewG rfl, obs_hill (σ := fun j => match j with | 3 => 2 | j => j) rfl rfl rfl, obs_rowP rfl rfl, trivial⟩) hr
    cases L with
    | nil =>
      refine Runs.lp (by kernel_rfl) (Runs.sqR mixed hkU [] (by kernel_rfl) (by kernel_rfl) (by kernel_rfl) oblN (Runs.sq (by kernel_rfl) ?_))
      refine Runs.cd (b := ltF (.ofNat x) (.ofNat k)) (by kernel_rfl) (fun _ => Runs.now (x := .normal) (by kernel_rfl) ?_) (fun hf => by rw [lt_of hlt] at hf; cases hf)
      show Runs Tryz.prog 1 _ _ _
      refine Runs.sq (by kernel_rfl) (Runs.bk (id := 1) (by kernel_rfl) ?_)
      refine Runs.sqR mixed hkU [] (by kernel_rfl) (by kernel_rfl) (by kernel_rfl) oblN ?_
      refine Runs.sqR mixed hkU [] (by kernel_rfl) (by kernel_rfl) (by kernel_rfl) oblN (Runs.bk (id := 2) (by kernel_rfl) ?_)
      show Runs Tryz.prog 1 li6 _ _
      refine Runs.less (af1 := sth (ITm k x 0 []) 38 (IOs k m cap A B C x [])) (less_seenP (clo_all (k := 3) (by kernel_rfl)) i0_clo (show 1 ≤ 3 by decide) (by kernel_rfl) (by kernel_rfl) (by kernel_rfl) (by kernel_rfl)) ?_
      refine hin.mono fun e af hq => ?_
      obtain ⟨rfl, less⟩ := hq
      exact next _ af hr less
    | cons a l =>
      refine Runs.lp (by kernel_rfl) (Runs.sqR mixed hkU [] (by kernel_rfl) (by kernel_rfl) (by kernel_rfl) oblN (Runs.sq (by kernel_rfl) ?_))
      refine Runs.cd (b := ltF (.ofNat x) (.ofNat k)) (by kernel_rfl) (fun _ => Runs.now (x := .normal) (by kernel_rfl) ?_) (fun hf => by rw [lt_of hlt] at hf; cases hf)
      show Runs Tryz.prog 1 _ _ _
      refine Runs.sq (by kernel_rfl) (Runs.bk (id := 1) (by kernel_rfl) ?_)
      refine Runs.sqR mixed hkU [] (by kernel_rfl) (by kernel_rfl) (by kernel_rfl) oblN ?_
      refine Runs.sqR mixed hkU [] (by kernel_rfl) (by kernel_rfl) (by kernel_rfl) oblN (Runs.bk (id := 2) (by kernel_rfl) ?_)
      show Runs Tryz.prog 1 li6 _ _
      refine Runs.renumK (sz := 38) (l := ITm k x 0 (a :: l)) (os := IOs k m cap A B C x (a :: l)) (fun j => match j with | 2 => 3 | 3 => 2 | j => j) (fun j => match j with | 2 => 3 | 3 => 2 | j => j) (by kernel_rfl) (show 1 ≤ 4 by decide) (by kernel_rfl) (fix1 (by kernel_rfl)) (by kernel_rfl) (by kernel_rfl) (by kernel_rfl) (by kernel_rfl)
        (obsL [viewG m A B C, hillO k m cap, boxN x, rowP (a :: l)] (by kernel_rfl) ⟨obs_viewG rfl, obs_hill (σ := fun j => match j with | 2 => 3 | 3 => 2 | j => j) rfl rfl rfl, obs_box (σ := fun j => j), obs_rowP rfl rfl, trivial⟩) ?_
      refine hin.mono fun e af hq => ?_
      obtain ⟨rfl, less⟩ := hq
      exact next _ af hr less

/-- The first places that agree with all galleries, in their order. -/
noncomputable def firstL (k m : Nat) (A B C : Nat → Int) : List Nat := scanX k m A B C k 0 []
theorem reg6_runs {k m cap : Nat} {A B C : Nat → Int} (hk7 : k < 8) (hm : m < 1000) (G : Gals m A B C) {Q : AExit → AF → Prop}
    (h : ∀ af, Less 1 (sth [(5, outV 2 (firstL k m A B C))] 38 (JOs k m cap A B C (firstL k m A B C))) af → Runs Tryz.prog 1 (behind 3 c6) af Q) : Runs Tryz.prog 1 c6 (entry Tryz.f6 [hillV k (smallS 0 m cap), i64 4] (hp [viewG m A B C])) Q := by
  refine Runs.sqR mixed hkU [] (by kernel_rfl) (by kernel_rfl) (by kernel_rfl) oblN ?_
  refine Runs.sqR mixed hkU [] (by kernel_rfl) (by kernel_rfl) (by kernel_rfl) oblN ?_
  refine Runs.sq (by kernel_rfl) (Runs.sqR mixed hkU [] (by kernel_rfl) (by kernel_rfl) (by kernel_rfl) oblN (Runs.bk (id := 0) (by kernel_rfl) ?_))
  show Runs Tryz.prog 1 lp6 _ _
  refine Runs.less (af1 := sth (JTm k 0 []) 38 (JOs k m cap A B C [])) (less_seenP (clo_all (k := 2) (by kernel_rfl)) j0_clo (show 1 ≤ 2 by decide) (by kernel_rfl) (by kernel_rfl) (by kernel_rfl) (by kernel_rfl)) ?_
  refine (outer6 (cap := cap) hk7 hm G k 0 [] (by omega)).mono fun e af hx => ?_
  obtain ⟨rfl, less⟩ := hx
  exact h af less
theorem reg6_local {k m cap a : Nat} {l : List Nat} {A B C : Nat → Int} (hk7 : k < 8) (hm : m < 1000) (G : Gals m A B C) (hf : firstL k m A B C = a :: l) :
    Local Tryz.prog 1 6 [hillV k (smallS 0 m cap), i64 4] (hp [viewG m A B C]) (rowIsC (fun s => s) 1 (a :: l).length (placesC (a :: l)) (some 35)) := by
  refine local_of noNum Tryz.func6 (show Tryz.f6.body = some c6 by kernel_rfl) ?_
  refine reg6_runs hk7 hm G fun af less => ?_
  rw [hf] at less
  refine Runs.less less ?_
  exact Runs.sqR mixed hkU [] (by kernel_rfl) (by kernel_rfl) (by kernel_rfl) oblN (Runs.now (x := .ret) (by kernel_rfl) ⟨.inr rfl, [slP 2 (a :: l).length], by kernel_rfl, 2, [], .inl rfl, by kernel_rfl⟩)
theorem reg6_local0 {k m cap : Nat} {A B C : Nat → Int} (hk7 : k < 8) (hm : m < 1000) (G : Gals m A B C) (hf : firstL k m A B C = []) :
    Local Tryz.prog 1 6 [hillV k (smallS 0 m cap), i64 4] (hp [viewG m A B C]) fun v' _ => v' = .slice none 0 0 := by
  refine local_of noNum Tryz.func6 (show Tryz.f6.body = some c6 by kernel_rfl) ?_
  refine reg6_runs hk7 hm G fun af less => ?_
  rw [hf] at less
  refine Runs.less less ?_
  exact Runs.sqR mixed hkU [] (by kernel_rfl) (by kernel_rfl) (by kernel_rfl) oblN (Runs.now (x := .ret) (by kernel_rfl) ⟨.inr rfl, [.slice none 0 0], by kernel_rfl, rfl⟩)
theorem reg6_says {k m a : Nat} {l : List Nat} {A B C : Nat → Int} (hk7 : k < 8) (hm : m < 1000) (G : Gals m A B C) (hf : firstL k m A B C = a :: l) {h : AH} {s : Value} (hs : SeesG h s m A B C) :
    Says Tryz.prog h 6 [hillV k s, i64 4] (slP h.next (a :: l).length) (h.new (rowP (a :: l))).2 := by
  obtain ⟨i, o, hs⟩ := hs
  exact tellN (z := 1) (C := c1G [i64 k] [] [i64 4]) (D := fun s => s) (vs := [⟨i, o, m, galsC m A B C⟩]) (ss := [s]) (c1G_ok (fun v h => by rw [List.mem_singleton.1 h]; rfl) (fun v h => by cases h) (fun v h => by rw [List.mem_singleton.1 h]; rfl)) resId rfl (fun caps hc => by
    obtain ⟨cap, rfl, hle⟩ := fits1 hc
    exact reg6_local hk7 hm G hf) (by rw [placesC_len]) (placesC_plain _) ⟨hs, trivial⟩
theorem reg6_says0 {k m : Nat} {A B C : Nat → Int} (hk7 : k < 8) (hm : m < 1000) (G : Gals m A B C) (hf : firstL k m A B C = []) {h : AH} {s : Value} (hs : SeesG h s m A B C) :
    Says Tryz.prog h 6 [hillV k s, i64 4] (.slice none 0 0) h := by
  obtain ⟨i, o, hs⟩ := hs
  exact tellF (C := c1G [i64 k] [] [i64 4]) (vs := [⟨i, o, m, galsC m A B C⟩]) (ss := [s]) (c1G_ok (fun v h => by rw [List.mem_singleton.1 h]; rfl) (fun v h => by cases h) (fun v h => by rw [List.mem_singleton.1 h]; rfl)) rfl (fun caps hc => by
    obtain ⟨cap, rfl, hle⟩ := fits1 hc
    exact reg6_local0 hk7 hm G hf) (fun v' _ r => r) (fun μ μ' x hx => flat_any hx rfl) ⟨hs, trivial⟩
end
end Go.Proofs.YtbcjmmbmeebfgaaGreatDoor
