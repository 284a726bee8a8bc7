/- The search for a shortest set of galleries that leaves no place. -/
import Derived.Test.YtbcjmmbmeebfgaaGreatDoorSNarrowedUG5
namespace Go.Proofs.YtbcjmmbmeebfgaaGreatDoor
set_option linter.unusedVariables false
set_option linter.unusedSimpArgs false
open Go Go.R
set_option maxRecDepth 1000000
noncomputable section

noncomputable def stN (k : Nat) (A B C : Nat → Int) (n : Nat) : Option Nat := (List.range n).foldl (stepN k A B C) none
theorem stN_succ (k : Nat) (A B C : Nat → Int) (n : Nat) : stN k A B C (n + 1) = stepN k A B C (stN k A B C n) n := by unfold stN; rw [List.range_succ, List.foldl_append]; rfl
noncomputable def Lst (k m : Nat) (A B C : Nat → Int) : Option Nat → List AObj
  | none => Ln k m A B C
  | some t => Lf k m A B C (bitsN t)
noncomputable def fn66 : Value := .func (.func 66) #[] #[ptrV 6, ptrV 5, ptrV 4]
noncomputable def fn67 : Value := .func (.func 67) #[] #[ptrV 3]
noncomputable def c67 : Code := bodyOf Tryz.f67
noncomputable def lp67 : Code := within (behind 1 c67)
noncomputable def S67 (N i : Nat) : List (Nat × Value) := [(0, fn66), (5, u64 N), (6, u64 i)]
theorem wrapU_succ {i : Nat} (h : i < 4611686018427387904) : wrapF .u64 (Int.add (.ofNat i) (.ofNat 1)) = .ofNat (i + 1) := by
  show wrapF .u64 (.ofNat (i + 1)) = _
  exact wrapF64 (by omega)
theorem obs_rowAr {ρ : Nat → Nat} {q m : Nat} {A B C : Nat → Int} : RenO ρ q (rowAr m A B C) (rowAr m A B C) := obs_vals (p := []) (c := valsZ m (areaV A B C)) rfl rfl (area_plain A B C _) (fun h => h) (.inr rfl)
theorem renl_f {ρ : Nat → Nat} {k m i : Nat} {A B C : Nat → Int} {l : List Nat} (σ : Nat → Nat) (h2 : σ 2 = 2) (h1 : σ 1 = 1) (hi : σ i = 7) (g1 : ρ 1 = 1) (g2 : ρ 2 = 2) (gi : ρ 7 = i) : RenL ρ 8 [viewG m A B C, rowAr m A B C, srvO k 1 m, boxN m, goodO, bestO (slR i l.length), isO true, rowN l] (Lf k m A B C l) := by
  refine ⟨obs_viewG rfl, obs_rowAr, ?_, RenO.of (σ := σ) rfl rfl, ?_, ?_, RenO.of (σ := σ) rfl rfl, obs_rowN rfl rfl, trivial⟩
  · refine RenO.of (σ := σ) ?_ ?_
    · show AObj.cells [.slice (some ⟨σ 1, 0, some 1⟩) m m, u64 (gridN k)] true [] (some 85) = _
      rw [h1]; rfl
    · show (Nat.blt (σ 1) 8 && Nat.beq (ρ (σ 1)) 1 && (true && true)) = true
      rw [h1, g1]; rfl
  · refine RenO.of (σ := σ) ?_ ?_
    · show AObj.cells [.func (.func 48) #[] #[.pointer (some ⟨σ 2, 0, none⟩)]] true [] (some 99) = _
      rw [h2]; rfl
    · show (true && (Nat.blt (σ 2) 8 && Nat.beq (ρ (σ 2)) 2 && true) && true) = true
      rw [h2, g2]; rfl
  · refine RenO.of (σ := σ) ?_ ?_
    · show AObj.cells [.slice (some ⟨σ i, 0, some 1⟩) l.length l.length] true [] (some 37) = _
      rw [hi]; rfl
    · show (Nat.blt (σ i) 8 && Nat.beq (ρ (σ i)) i && true) = true
      rw [hi, gi, Nat.beq_refl]; rfl
theorem renl_n {k m : Nat} {A B C : Nat → Int} : RenL (fun j => j) 7 (Ln k m A B C) (Ln k m A B C) :=
  ⟨obs_viewG rfl, obs_rowAr, RenO.of (σ := fun j => j) rfl rfl, RenO.of (σ := fun j => j) rfl rfl, RenO.of (σ := fun j => j) rfl rfl, RenO.of (σ := fun j => j) rfl rfl, RenO.of (σ := fun j => j) rfl rfl, trivial⟩
theorem search_loop {k m N : Nat} {A B C : Nat → Int} (hk7 : k < 8) (hm : m < 64) (hN : N = 2 ^ m) (hN2 : N < 1000000) : ∀ d i, i + d = N → 0 < i →
    Runs Tryz.prog 7 lp67 (sth (S67 N i) 15 (Lst k m A B C (stN k A B C i))) fun e af => e = .exit 0 ∧ NewSt 7 (Lst k m A B C (stN k A B C N)) (.tuple #[]) (.tuple #[]) af.h := by
  intro d
  induction d with
  | zero =>
    intro i hi _
    have e : i = N := by omega
    subst e
    cases stN k A B C i with
    | none =>
      refine Runs.lp (by kernel_rfl) (Runs.sqR mixed hkU [] (by kernel_rfl) (by kernel_rfl) (by kernel_rfl) oblN (Runs.sq (by kernel_rfl) ?_))
      refine Runs.cd (b := ltF (.ofNat i) (.ofNat i)) (by kernel_rfl) (fun ht => by rw [lt_self] at ht; cases ht) (fun _ => Runs.now (x := .exit 0) (by kernel_rfl) ⟨rfl, fun j => j, fun j => j, by kernel_rfl, by kernel_rfl, by kernel_rfl, by kernel_rfl, by kernel_rfl, ?_⟩)
      exact obsL (Ln k m A B C) (by kernel_rfl) renl_n
    | some t =>
      refine Runs.lp (by kernel_rfl) (Runs.sqR mixed hkU [] (by kernel_rfl) (by kernel_rfl) (by kernel_rfl) oblN (Runs.sq (by kernel_rfl) ?_))
      refine Runs.cd (b := ltF (.ofNat i) (.ofNat i)) (by kernel_rfl) (fun ht => by rw [lt_self] at ht; cases ht) (fun _ => Runs.now (x := .exit 0) (by kernel_rfl) ⟨rfl, fun j => j, fun j => j, by kernel_rfl, by kernel_rfl, by kernel_rfl, by kernel_rfl, by kernel_rfl, ?_⟩)
      exact obsL (Lf k m A B C (bitsN t)) (by kernel_rfl) (renl_f (fun j => j) rfl rfl rfl rfl rfl rfl)
  | succ d ih =>
    intro i hi h0
    have hlt : i < N := by omega
    have hs : i < 2 ^ m := by omega
    have h64 : i < 18446744073709551616 := by omega
    have hr := ih (i + 1) (by omega) (by omega)
    rw [stN_succ] at hr
    cases hst : stN k A B C i with
    | none =>
      rw [hst] at hr
      rcases step_none (A := A) (B := B) (C := C) hk7 hm hs with ⟨hg, hS⟩ | ⟨hg, hS⟩
      · have es : stepN k A B C none i = some i := by unfold stepN; rw [hg]; rfl
        rw [es] at hr
        refine Runs.lp (by kernel_rfl) (Runs.sqR mixed hkU [] (by kernel_rfl) (by kernel_rfl) (by kernel_rfl) oblN (Runs.sq (by kernel_rfl) ?_))
        refine Runs.cd (b := ltF (.ofNat i) (.ofNat N)) (by kernel_rfl) (fun _ => Runs.now (x := .normal) (by kernel_rfl) ?_) (fun hf => by rw [lt_of hlt] at hf; cases hf)
        show Runs Tryz.prog 7 _ _ _
        refine Runs.sq (by kernel_rfl) (Runs.bk (id := 1) (by kernel_rfl) ?_)
        refine Runs.sqR mixed hkU [] (by kernel_rfl) (by kernel_rfl) (by kernel_rfl) oblN ?_
        refine Runs.sqR mixed hkU [viaH 2 36 [u64 i] (slR 7 (bitsN i).length) ((hp (Ln k m A B C)).new (rowN (bitsN i))).2, viaH 3 66 (arg66 (slR 7 (bitsN i).length)) (.bool true) (hp (Lf k m A B C (bitsN i)))] (by kernel_rfl) (by kernel_rfl) (by kernel_rfl)
          (oblC (shown_callHE (h0 := hp (Ln k m A B C)) (by kernel_rfl) (by kernel_rfl) (list_says (by omega) h64 _)) (oblC (shown_callHE (h0 := hp (Ln1 k m A B C (bitsN i))) (by kernel_rfl) (by kernel_rfl) hS) oblN)) ?_
        refine Runs.cd (b := false) (by kernel_rfl) (fun h => by cases h) (fun _ => Runs.now (x := .normal) (by kernel_rfl) ?_)
        show Runs Tryz.prog 7 _ _ _
        refine Runs.rg mixed hkU [viaV 0 (u64 (i + 1))] (by kernel_rfl) (by kernel_rfl) (by kernel_rfl) (oblC (shown_eq (v := .int .u64 (wrapF .u64 (Int.add (.ofNat i) (.ofNat 1)))) (by kernel_rfl) (by kernel_rfl) (by rw [wrapU_succ (by omega)]; rfl)) oblN) ?_
        show Runs Tryz.prog 7 lp67 _ _
        exact Runs.less (af1 := sth (S67 N (i + 1)) 15 (Lf k m A B C (bitsN i))) (less_seenP (clo_all (k := 8) (by kernel_rfl)) lf_clo (show 7 ≤ 8 by decide) (by kernel_rfl) (by kernel_rfl) (by kernel_rfl) (by kernel_rfl)) hr
      · have es : stepN k A B C none i = none := by unfold stepN; rw [hg]; rfl
        rw [es] at hr
        refine Runs.lp (by kernel_rfl) (Runs.sqR mixed hkU [] (by kernel_rfl) (by kernel_rfl) (by kernel_rfl) oblN (Runs.sq (by kernel_rfl) ?_))
        refine Runs.cd (b := ltF (.ofNat i) (.ofNat N)) (by kernel_rfl) (fun _ => Runs.now (x := .normal) (by kernel_rfl) ?_) (fun hf => by rw [lt_of hlt] at hf; cases hf)
        show Runs Tryz.prog 7 _ _ _
        refine Runs.sq (by kernel_rfl) (Runs.bk (id := 1) (by kernel_rfl) ?_)
        refine Runs.sqR mixed hkU [] (by kernel_rfl) (by kernel_rfl) (by kernel_rfl) oblN ?_
        refine Runs.sqR mixed hkU [viaH 2 36 [u64 i] (slR 7 (bitsN i).length) ((hp (Ln k m A B C)).new (rowN (bitsN i))).2, viaC 3 66 (arg66 (slR 7 (bitsN i).length)) (.bool true)] (by kernel_rfl) (by kernel_rfl) (by kernel_rfl)
          (oblC (shown_callHE (h0 := hp (Ln k m A B C)) (by kernel_rfl) (by kernel_rfl) (list_says (by omega) h64 _)) (oblC (shown_callE (h0 := hp (Ln1 k m A B C (bitsN i))) (by kernel_rfl) (by kernel_rfl) hS) oblN)) ?_
        refine Runs.cd (b := false) (by kernel_rfl) (fun h => by cases h) (fun _ => Runs.now (x := .normal) (by kernel_rfl) ?_)
        show Runs Tryz.prog 7 _ _ _
        refine Runs.rg mixed hkU [viaV 0 (u64 (i + 1))] (by kernel_rfl) (by kernel_rfl) (by kernel_rfl) (oblC (shown_eq (v := .int .u64 (wrapF .u64 (Int.add (.ofNat i) (.ofNat 1)))) (by kernel_rfl) (by kernel_rfl) (by rw [wrapU_succ (by omega)]; rfl)) oblN) ?_
        show Runs Tryz.prog 7 lp67 _ _
        exact Runs.less (af1 := sth (S67 N (i + 1)) 15 (Ln k m A B C)) (less_seenP (clo_all (k := 7) (by kernel_rfl)) ln_clo (show 7 ≤ 7 by decide) (by kernel_rfl) (by kernel_rfl) (by kernel_rfl) (by kernel_rfl)) hr
    | some t =>
      rw [hst] at hr
      rcases step_some (t := t) (A := A) (B := B) (C := C) hk7 hm hs with ⟨hg, hS⟩ | ⟨hg, hS⟩
      · have es : stepN k A B C (some t) i = some i := by show (if (cndN t i && goodN k A B C i) = true then some i else some t) = _; rw [hg]; rfl
        rw [es] at hr
        refine Runs.lp (by kernel_rfl) (Runs.sqR mixed hkU [] (by kernel_rfl) (by kernel_rfl) (by kernel_rfl) oblN (Runs.sq (by kernel_rfl) ?_))
        refine Runs.cd (b := ltF (.ofNat i) (.ofNat N)) (by kernel_rfl) (fun _ => Runs.now (x := .normal) (by kernel_rfl) ?_) (fun hf => by rw [lt_of hlt] at hf; cases hf)
        show Runs Tryz.prog 7 _ _ _
        refine Runs.sq (by kernel_rfl) (Runs.bk (id := 1) (by kernel_rfl) ?_)
        refine Runs.sqR mixed hkU [] (by kernel_rfl) (by kernel_rfl) (by kernel_rfl) oblN ?_
        refine Runs.sqR mixed hkU [viaH 2 36 [u64 i] (slR 8 (bitsN i).length) ((hp (Lf k m A B C (bitsN t))).new (rowN (bitsN i))).2, viaH 3 66 (arg66 (slR 8 (bitsN i).length)) (.bool true) (hp (Lf2 k m A B C (bitsN t) (bitsN i)))] (by kernel_rfl) (by kernel_rfl) (by kernel_rfl)
          (oblC (shown_callHE (h0 := hp (Lf k m A B C (bitsN t))) (by kernel_rfl) (by kernel_rfl) (list_says (by omega) h64 _)) (oblC (shown_callHE (h0 := hp (Lf1 k m A B C (bitsN t) (bitsN i))) (by kernel_rfl) (by kernel_rfl) hS) oblN)) ?_
        refine Runs.cd (b := false) (by kernel_rfl) (fun h => by cases h) (fun _ => Runs.now (x := .normal) (by kernel_rfl) ?_)
        show Runs Tryz.prog 7 _ _ _
        refine Runs.rg mixed hkU [viaV 0 (u64 (i + 1))] (by kernel_rfl) (by kernel_rfl) (by kernel_rfl) (oblC (shown_eq (v := .int .u64 (wrapF .u64 (Int.add (.ofNat i) (.ofNat 1)))) (by kernel_rfl) (by kernel_rfl) (by rw [wrapU_succ (by omega)]; rfl)) oblN) ?_
        show Runs Tryz.prog 7 lp67 _ _
        refine Runs.renumK (sz := 15) (l := S67 N (i + 1)) (os := Lf k m A B C (bitsN i)) (fun j => match j with | 7 => 8 | j => j) (fun j => match j with | 8 => 7 | j => j) (by kernel_rfl) (show 7 ≤ 8 by decide) (by kernel_rfl)
          ⟨fun _ => .inl (Eq.trans (Eq.refl _) (by kernel_rfl)), fun _ => .inl (Eq.trans (Eq.refl _) (by kernel_rfl)), fun _ => .inl (Eq.trans (Eq.refl _) (by kernel_rfl)), fun _ => .inl (Eq.trans (Eq.refl _) (by kernel_rfl)), fun _ => .inl (Eq.trans (Eq.refl _) (by kernel_rfl)),
            fun _ => .inr ⟨0, fn66, by kernel_rfl, Born.func (q := 1) rfl (Born.ptr 5 0)⟩, fun _ => .inl (Eq.trans (Eq.refl _) (by kernel_rfl)), fun h => (by cases h), trivial⟩ (by kernel_rfl) (by kernel_rfl) (by kernel_rfl) (by kernel_rfl)
          (obsL [viewG m A B C, rowAr m A B C, srvO k 1 m, boxN m, goodO, bestO (slR 8 (bitsN i).length), isO true, rowN (bitsN i)] (by kernel_rfl) (renl_f (fun j => match j with | 8 => 7 | j => j) rfl rfl rfl rfl rfl rfl)) hr
      · have es : stepN k A B C (some t) i = some t := by show (if (cndN t i && goodN k A B C i) = true then some i else some t) = _; rw [hg]; rfl
        rw [es] at hr
        refine Runs.lp (by kernel_rfl) (Runs.sqR mixed hkU [] (by kernel_rfl) (by kernel_rfl) (by kernel_rfl) oblN (Runs.sq (by kernel_rfl) ?_))
        refine Runs.cd (b := ltF (.ofNat i) (.ofNat N)) (by kernel_rfl) (fun _ => Runs.now (x := .normal) (by kernel_rfl) ?_) (fun hf => by rw [lt_of hlt] at hf; cases hf)
        show Runs Tryz.prog 7 _ _ _
        refine Runs.sq (by kernel_rfl) (Runs.bk (id := 1) (by kernel_rfl) ?_)
        refine Runs.sqR mixed hkU [] (by kernel_rfl) (by kernel_rfl) (by kernel_rfl) oblN ?_
        refine Runs.sqR mixed hkU [viaH 2 36 [u64 i] (slR 8 (bitsN i).length) ((hp (Lf k m A B C (bitsN t))).new (rowN (bitsN i))).2, viaC 3 66 (arg66 (slR 8 (bitsN i).length)) (.bool true)] (by kernel_rfl) (by kernel_rfl) (by kernel_rfl)
          (oblC (shown_callHE (h0 := hp (Lf k m A B C (bitsN t))) (by kernel_rfl) (by kernel_rfl) (list_says (by omega) h64 _)) (oblC (shown_callE (h0 := hp (Lf1 k m A B C (bitsN t) (bitsN i))) (by kernel_rfl) (by kernel_rfl) hS) oblN)) ?_
        refine Runs.cd (b := false) (by kernel_rfl) (fun h => by cases h) (fun _ => Runs.now (x := .normal) (by kernel_rfl) ?_)
        show Runs Tryz.prog 7 _ _ _
        refine Runs.rg mixed hkU [viaV 0 (u64 (i + 1))] (by kernel_rfl) (by kernel_rfl) (by kernel_rfl) (oblC (shown_eq (v := .int .u64 (wrapF .u64 (Int.add (.ofNat i) (.ofNat 1)))) (by kernel_rfl) (by kernel_rfl) (by rw [wrapU_succ (by omega)]; rfl)) oblN) ?_
        show Runs Tryz.prog 7 lp67 _ _
        exact Runs.less (af1 := sth (S67 N (i + 1)) 15 (Lf k m A B C (bitsN t))) (less_seenP (clo_all (k := 8) (by kernel_rfl)) lf_clo (show 7 ≤ 8 by decide) (by kernel_rfl) (by kernel_rfl) (by kernel_rfl) (by kernel_rfl)) hr
end
end Go.Proofs.YtbcjmmbmeebfgaaGreatDoor

/- sets, shortest, Contradict: as contracts. -/
namespace Go.Proofs.YtbcjmmbmeebfgaaGreatDoor
set_option linter.unusedVariables false
set_option linter.unusedSimpArgs false
open Go Go.R
set_option maxRecDepth 1000000
noncomputable section

theorem goodN_zero {k : Nat} {A B C : Nat → Int} (hk : 0 < k) (hk7 : k < 8) : goodN k A B C 0 = false := by
  have h : ((List.range 7).all fun k => !(Nat.beq (gridN (k + 1)) 0)) = true := by kernel_rfl
  have := List.all_eq_true.1 h (k - 1) (List.mem_range.2 (by omega))
  rw [show k - 1 + 1 = k by omega] at this
  unfold goodN regS
  rw [bits_zero, eqF_nat]
  show Nat.beq (gridN k) 0 = false
  simpa using this

theorem search_all {k m N : Nat} {A B C : Nat → Int} (hk : 0 < k) (hk7 : k < 8) (hm : m < 20) (hN : N = 2 ^ m) :
    Runs Tryz.prog 7 c67 (entry Tryz.f67 [fn66, ptrV 3] (hp (Ln k m A B C))) fun e af => e = .normal ∧ NewSt 7 (Lst k m A B C (stN k A B C N)) (.tuple #[]) (.tuple #[]) af.h := by
  have hN1 : 0 < N := by rw [hN]; exact Nat.two_pow_pos m
  have hN2 : N < 1000000 := by
    have : 2 ^ m ≤ 2 ^ 19 := Nat.pow_le_pow_right (by decide) (by omega)
    have : (2 : Nat) ^ 19 = 524288 := by decide
    omega
  have hm64 : m < 64 := by omega
  have hg := goodN_zero (k := k) (A := A) (B := B) (C := C) hk hk7
  refine Runs.sqR mixed hkU [viaV 1 (u64 N)] (by kernel_rfl) (by kernel_rfl) (by kernel_rfl)
    (oblC ⟨by kernel_rfl, (show _ = (shiftA .shl .u64 1 (.ofNat m)).map (·, _) by kernel_rfl).trans (by rw [bit64 hm64, hN]; rfl)⟩ oblN) (Runs.bk (id := 0) (by kernel_rfl) ?_)
  show Runs Tryz.prog 7 lp67 _ _
  refine Runs.lp (by kernel_rfl) (Runs.sqR mixed hkU [] (by kernel_rfl) (by kernel_rfl) (by kernel_rfl) oblN (Runs.sq (by kernel_rfl) ?_))
  refine Runs.cd (b := ltF (.ofNat 0) (.ofNat N)) (by kernel_rfl) (fun _ => Runs.now (x := .normal) (by kernel_rfl) ?_) (fun hf => by rw [lt_of hN1] at hf; cases hf)
  show Runs Tryz.prog 7 _ _ _
  refine Runs.sq (by kernel_rfl) (Runs.bk (id := 1) (by kernel_rfl) ?_)
  refine Runs.sqR mixed hkU [] (by kernel_rfl) (by kernel_rfl) (by kernel_rfl) oblN ?_
  refine Runs.sqR mixed hkU [viaC 2 36 [u64 0] (.slice none 0 0), viaC 3 66 (arg66 (.slice none 0 0)) (.bool true)] (by kernel_rfl) (by kernel_rfl) (by kernel_rfl)
    (oblC (shown_call (by kernel_rfl) (list_none _)) (oblC (shown_callE (h0 := hp (Ln k m A B C)) (by kernel_rfl) (by kernel_rfl) (step_nil hk7 hm64 hg)) oblN)) ?_
  refine Runs.cd (b := false) (by kernel_rfl) (fun h => by cases h) (fun _ => Runs.now (x := .normal) (by kernel_rfl) ?_)
  show Runs Tryz.prog 7 _ _ _
  refine Runs.rg mixed hkU [] (by kernel_rfl) (by kernel_rfl) (by kernel_rfl) oblN ?_
  show Runs Tryz.prog 7 lp67 _ _
  have e1 : stN k A B C 1 = none := by
    rw [stN_succ]
    show (if goodN k A B C 0 = true then some 0 else none) = none
    rw [hg]; rfl
  have hr := search_loop (A := A) (B := B) (C := C) hk7 hm64 hN hN2 (N - 1) 1 (by omega) (by decide)
  rw [e1] at hr
  refine Runs.less (af1 := sth (S67 N 1) 15 (Ln k m A B C)) (less_seenP (clo_all (k := 7) (by kernel_rfl)) ln_clo (show 7 ≤ 7 by decide) (by kernel_rfl) (by kernel_rfl) (by kernel_rfl) (by kernel_rfl)) ?_
  refine hr.mono fun e af hx => ?_
  obtain ⟨rfl, hx⟩ := hx
  exact ⟨rfl, hx⟩
theorem sets_says {k m N : Nat} {A B C : Nat → Int} (hk : 0 < k) (hk7 : k < 8) (hm : m < 20) (hN : N = 2 ^ m) : Says Tryz.prog (hp (Ln k m A B C)) 67 [fn66, ptrV 3] (.tuple #[]) (hp (Lst k m A B C (stN k A B C N))) := by
  refine says_chg (os0 := Ln k m A B C) ?_ (fun j o ho => ?_) ?_
  · cases stN k A B C N with
    | none => exact Nat.le_refl _
    | some t => exact (show 7 ≤ 8 by decide)
  · cases stN k A B C N with
    | none => exact .inl ho
    | some t =>
      match j, ho with
      | 0, ho | 1, ho | 2, ho | 3, ho | 4, ho => exact .inl ho
      | 5, ho => exact .inr ⟨0, fn66, rfl, Born.func (q := 1) rfl (Born.ptr 5 0)⟩
      | 6, ho => exact .inr ⟨0, fn66, rfl, Born.func (q := 0) rfl (Born.ptr 6 0)⟩
      | j + 7, ho => cases ho
  · show Local Tryz.prog 7 67 _ _ _
    refine local_of noNum Tryz.func67 (show Tryz.f67.body = some c67 by kernel_rfl) ?_
    refine (search_all (A := A) (B := B) (C := C) hk hk7 hm hN).mono fun e af hx => ?_
    obtain ⟨rfl, hx⟩ := hx
    exact ⟨.inl rfl, [], rfl, hx⟩

/-! ### shortest -/
noncomputable def c46 : Code := bodyOf Tryz.f46
noncomputable def L5 (k m : Nat) (A B C : Nat → Int) (l : List Nat) : List AObj := [viewG m A B C, rowAr m A B C, srvO k 1 m, boxN m, rowN l]
theorem arg46_clo : ∀ x ∈ [fn67, fnG], Clo 4 x := fun x hx => by
  simp only [List.mem_cons, List.mem_nil_iff, or_false] at hx
  rcases hx with rfl | rfl <;> exact clo_of 10 _ _ (by kernel_rfl)
theorem shortest_some {k m N t : Nat} {A B C : Nat → Int} (hk : 0 < k) (hk7 : k < 8) (hm : m < 20) (hN : N = 2 ^ m) (ht : stN k A B C N = some t) :
    Says Tryz.prog (hp (L4 k m A B C)) 46 [fn67, fnG] (.tuple #[slR 4 (bitsN t).length, .bool true]) (hp (L5 k m A B C (bitsN t))) := by
  have hS := sets_says (A := A) (B := B) (C := C) hk hk7 hm hN
  rw [ht] at hS
  refine says_ren (os0 := L4 k m A B C) (fun j o ho => ?_) ?_
  · match j, ho with
    | 0, ho | 1, ho | 2, ho | 3, ho => exact ho
    | j + 4, ho => cases ho
  · show Local Tryz.prog 4 46 _ _ _
    refine local_of noNum Tryz.func46 (show Tryz.f46.body = some c46 by kernel_rfl) ?_
    refine Runs.sqR mixed hkU [] (by kernel_rfl) (by kernel_rfl) (by kernel_rfl) oblN ?_
    refine Runs.sqR mixed hkU [viaH 2 67 [fn66, ptrV 3] (.tuple #[]) (hp (Lf k m A B C (bitsN t)))] (by kernel_rfl) (by kernel_rfl) (by kernel_rfl)
      (oblC (shown_callHE (h0 := hp (Ln k m A B C)) (by kernel_rfl) (by kernel_rfl) hS) oblN) ?_
    refine Runs.sq (by kernel_rfl) ?_
    refine Runs.rgD mixed hkU [] [(1, 3)] (by kernel_rfl) (by kernel_rfl) (by kernel_rfl) (by kernel_rfl) oblN
      (dynC (dyn_at (d := 10) (v := .bool true) (by kernel_rfl) (by kernel_rfl) (by kernel_rfl)) dynN) ?_
    show Runs Tryz.prog 4 _ _ _
    refine Runs.now (x := .ret) (by kernel_rfl) ⟨.inr rfl, [slR 7 (bitsN t).length, .bool true], by kernel_rfl, fun j => match j with | 4 => 7 | j => j, fun j => match j with | 7 => 4 | j => j, by kernel_rfl, by kernel_rfl, by kernel_rfl, by kernel_rfl, by kernel_rfl, ?_⟩
    exact obsL [viewG m A B C, rowAr m A B C, srvO k 1 m, boxN m, rowN (bitsN t)] (by kernel_rfl) ⟨obs_viewG rfl, obs_rowAr, RenO.of (σ := fun j => j) rfl rfl, RenO.of (σ := fun j => j) rfl rfl, obs_rowN rfl rfl, trivial⟩
theorem shortest_none {k m N : Nat} {A B C : Nat → Int} (hk : 0 < k) (hk7 : k < 8) (hm : m < 20) (hN : N = 2 ^ m) (ht : stN k A B C N = none) :
    Says Tryz.prog (hp (L4 k m A B C)) 46 [fn67, fnG] (.tuple #[.slice none 0 0, .bool false]) (hp (L4 k m A B C)) := by
  have hS := sets_says (A := A) (B := B) (C := C) hk hk7 hm hN
  rw [ht] at hS
  refine says_of (os := L4 k m A B C) ?_ arg46_clo l4_clo (clo_of 10 _ _ (by kernel_rfl))
  · show Local Tryz.prog 4 46 _ _ _
    refine local_of noNum Tryz.func46 (show Tryz.f46.body = some c46 by kernel_rfl) ?_
    refine Runs.sqR mixed hkU [] (by kernel_rfl) (by kernel_rfl) (by kernel_rfl) oblN ?_
    refine Runs.sqR mixed hkU [viaC 2 67 [fn66, ptrV 3] (.tuple #[])] (by kernel_rfl) (by kernel_rfl) (by kernel_rfl)
      (oblC (shown_callE (h0 := hp (Ln k m A B C)) (by kernel_rfl) (by kernel_rfl) hS) oblN) ?_
    refine Runs.sq (by kernel_rfl) ?_
    refine Runs.rgD mixed hkU [] [(1, 3)] (by kernel_rfl) (by kernel_rfl) (by kernel_rfl) (by kernel_rfl) oblN
      (dynC (dyn_at (d := 10) (v := .bool false) (by kernel_rfl) (by kernel_rfl) (by kernel_rfl)) dynN) ?_
    show Runs Tryz.prog 4 _ _ _
    refine Runs.now (x := .ret) (by kernel_rfl) ⟨.inr rfl, [.slice none 0 0, .bool false], by kernel_rfl, rfl, fun j x hx => ?_⟩
    match j, hx with
    | 0, hx | 1, hx | 2, hx | 3, hx => cases hx; exact Eq.trans (Eq.refl _) (by kernel_rfl)
    | j + 4, hx => cases hx
end
end Go.Proofs.YtbcjmmbmeebfgaaGreatDoor

/- Contradict, as a contract. -/
namespace Go.Proofs.YtbcjmmbmeebfgaaGreatDoor
set_option linter.unusedVariables false
set_option linter.unusedSimpArgs false
open Go Go.R
set_option maxRecDepth 1000000
noncomputable section
noncomputable def c18 : Code := bodyOf Tryz.f18
noncomputable def L3 (k m : Nat) (A B C : Nat → Int) : List AObj := [viewG m A B C, rowAr m A B C, srvO k 1 m]
noncomputable def S18 : List (Nat × Value) := [(2, .slice none 0 0), (3, i64 0), (4, ptrV 2)]
theorem obs_srv {ρ σ : Nat → Nat} {q k m i j : Nat} (h1 : σ i = j) (h2 : ρ j = i) (h3 : Nat.blt j q = true) : RenO ρ q (srvO k i m) (srvO k j m) := by
  refine RenO.of (σ := σ) ?_ ?_
  · show AObj.cells [.slice (some ⟨σ i, 0, some 1⟩) m m, u64 (gridN k)] true [] (some 85) = _
    rw [h1]; rfl
  · show (Nat.blt (σ i) q && Nat.beq (ρ (σ i)) i && (true && true)) = true
    rw [h1, h2, h3, Nat.beq_refl]; rfl
theorem contra_head {k m cap : Nat} {A B C : Nat → Int} (hk : 0 < k) (hk7 : k < 8) (hm0 : 0 < m) (hm : m < 11) (hc : m ≤ cap) (G : Gals m A B C) {Q : AExit → AF → Prop}
    (h : Runs Tryz.prog 1 (behind 3 c18) (sth S18 28 (L3 k m A B C)) Q) : Runs Tryz.prog 1 c18 (entry Tryz.f18 [hillV k (smallS 0 m cap)] (hp [viewG m A B C])) Q := by
  refine Runs.sqR mixed hkU [] (by kernel_rfl) (by kernel_rfl) (by kernel_rfl) oblN ?_
  refine Runs.sqR mixed hkU [viaH 1 35 [hillV k (smallS 0 m cap)] (survV k m 2) ((hp [viewG m A B C, hillO k m cap]).new (rowAr m A B C)).2] (by kernel_rfl) (by kernel_rfl) (by kernel_rfl)
    (oblC (shown_callHE (h0 := hp [viewG m A B C, hillO k m cap]) (by kernel_rfl) (by kernel_rfl) (surv_says hk hk7 hm0 hm G (sees_here hc (by kernel_rfl)))) oblN) ?_
  refine Runs.sq (by kernel_rfl) (Runs.sqR mixed hkU [] (by kernel_rfl) (by kernel_rfl) (by kernel_rfl) oblN ?_)
  refine Runs.cd (b := false) (by kernel_rfl) (fun h => by cases h) (fun _ => Runs.now (x := .normal) (by kernel_rfl) ?_)
  show Runs Tryz.prog 1 _ _ _
  exact Runs.renumK (sz := 28) (l := S18) (os := L3 k m A B C) (fun j => match j with | 1 => 2 | 2 => 3 | j => j) (fun j => match j with | 2 => 1 | 3 => 2 | j => j) (by kernel_rfl) (show 1 ≤ 3 by decide) (by kernel_rfl) (fix1 (by kernel_rfl)) (by kernel_rfl) (by kernel_rfl) (by kernel_rfl) (by kernel_rfl)
    (obsL [viewG m A B C, rowAr m A B C, srvO k 2 m] (by kernel_rfl) ⟨obs_viewG rfl, obs_rowAr, obs_srv (σ := fun j => match j with | 2 => 1 | 3 => 2 | j => j) rfl rfl rfl, trivial⟩) h

theorem contra_local {k m cap t : Nat} {A B C : Nat → Int} (hk : 0 < k) (hk7 : k < 8) (hm0 : 0 < m) (hm : m < 11) (hc : m ≤ cap) (G : Gals m A B C) (ht : stN k A B C (2 ^ m) = some t) :
    Local Tryz.prog 1 18 [hillV k (smallS 0 m cap)] (hp [viewG m A B C]) (rowIsC (dT (i64 0)) 0 (bitsN t).length (natsC (bitsN t)) (some 3)) := by
  refine local_of noNum Tryz.func18 (show Tryz.f18.body = some c18 by kernel_rfl) ?_
  refine contra_head hk hk7 hm0 hm hc G ?_
  have hS := shortest_some (A := A) (B := B) (C := C) (m := m) hk hk7 (by omega) rfl ht
  refine Runs.sqR mixed hkU [viaH 5 46 [fn67, fnG] (.tuple #[slR 4 (bitsN t).length, .bool true]) (hp (L5 k m A B C (bitsN t)))] (by kernel_rfl) (by kernel_rfl) (by kernel_rfl)
    (oblC (shown_callHE (h0 := hp (L4 k m A B C)) (by kernel_rfl) (by kernel_rfl) hS) oblN) ?_
  refine Runs.sq (by kernel_rfl) (Runs.sqR mixed hkU [] (by kernel_rfl) (by kernel_rfl) (by kernel_rfl) oblN ?_)
  refine Runs.cd (b := false) (by kernel_rfl) (fun h => by cases h) (fun _ => Runs.now (x := .normal) (by kernel_rfl) ?_)
  show Runs Tryz.prog 1 _ _ _
  exact Runs.sqR mixed hkU [] (by kernel_rfl) (by kernel_rfl) (by kernel_rfl) oblN (Runs.now (x := .ret) (by kernel_rfl) ⟨.inr rfl, [slR 4 (bitsN t).length, i64 0], by kernel_rfl, 4, [], .inl rfl, by kernel_rfl⟩)
theorem contra_local0 {k m cap : Nat} {A B C : Nat → Int} (hk : 0 < k) (hk7 : k < 8) (hm0 : 0 < m) (hm : m < 11) (hc : m ≤ cap) (G : Gals m A B C) (ht : stN k A B C (2 ^ m) = none) :
    Local Tryz.prog 1 18 [hillV k (smallS 0 m cap)] (hp [viewG m A B C]) fun v' _ => v' = .tuple #[.slice none 0 0, i64 13] := by
  refine local_of noNum Tryz.func18 (show Tryz.f18.body = some c18 by kernel_rfl) ?_
  refine contra_head hk hk7 hm0 hm hc G ?_
  have hS := shortest_none (A := A) (B := B) (C := C) (m := m) hk hk7 (by omega) rfl ht
  refine Runs.sqR mixed hkU [viaC 5 46 [fn67, fnG] (.tuple #[.slice none 0 0, .bool false])] (by kernel_rfl) (by kernel_rfl) (by kernel_rfl)
    (oblC (shown_callE (h0 := hp (L4 k m A B C)) (by kernel_rfl) (by kernel_rfl) hS) oblN) ?_
  refine Runs.sq (by kernel_rfl) (Runs.sqR mixed hkU [] (by kernel_rfl) (by kernel_rfl) (by kernel_rfl) oblN ?_)
  refine Runs.cd (b := true) (by kernel_rfl) (fun _ => ?_) (fun h => by cases h)
  exact Runs.sqR mixed hkU [] (by kernel_rfl) (by kernel_rfl) (by kernel_rfl) oblN (Runs.now (x := .ret) (by kernel_rfl) ⟨.inr rfl, [.slice none 0 0, i64 13], by kernel_rfl, rfl⟩)

theorem contra_says {k m t : Nat} {A B C : Nat → Int} (hk : 0 < k) (hk7 : k < 8) (hm0 : 0 < m) (hm : m < 11) (G : Gals m A B C) (ht : stN k A B C (2 ^ m) = some t) {h : AH} {s : Value} (hs : SeesG h s m A B C) :
    Says Tryz.prog h 18 [hillV k s] (.tuple #[slR h.next (bitsN t).length, i64 0]) (h.new (rowN (bitsN t))).2 := by
  obtain ⟨i, o, hs⟩ := hs
  exact tellN (z := 0) (C := c1G [i64 k] [] []) (D := dT (i64 0)) (vs := [⟨i, o, m, galsC m A B C⟩]) (ss := [s]) (hillC_ok k) (dT_ok rfl) rfl (fun caps hc => by
    obtain ⟨cap, rfl, hle⟩ := fits1 hc
    exact contra_local hk hk7 hm0 hm hle G ht) (by rw [natsC_len]; omega) (natsC_plain _) ⟨hs, trivial⟩
theorem contra_says0 {k m : Nat} {A B C : Nat → Int} (hk : 0 < k) (hk7 : k < 8) (hm0 : 0 < m) (hm : m < 11) (G : Gals m A B C) (ht : stN k A B C (2 ^ m) = none) {h : AH} {s : Value} (hs : SeesG h s m A B C) :
    Says Tryz.prog h 18 [hillV k s] (.tuple #[.slice none 0 0, i64 13]) h := by
  obtain ⟨i, o, hs⟩ := hs
  exact tellF (C := c1G [i64 k] [] []) (vs := [⟨i, o, m, galsC m A B C⟩]) (ss := [s]) (hillC_ok k) rfl (fun caps hc => by
    obtain ⟨cap, rfl, hle⟩ := fits1 hc
    exact contra_local0 hk hk7 hm0 hm hle G ht) (fun v' _ r => r) (fun μ μ' x hx => flat_any hx rfl) ⟨hs, trivial⟩
end
end Go.Proofs.YtbcjmmbmeebfgaaGreatDoor
