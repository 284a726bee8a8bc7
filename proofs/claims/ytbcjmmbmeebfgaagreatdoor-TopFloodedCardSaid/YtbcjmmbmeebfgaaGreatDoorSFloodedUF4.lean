/- Trap: which of two groups is smaller: by the kernel. -/
import Derived.Test.YtbcjmmbmeebfgaaGreatDoorSFloodedUF3
namespace Go.Proofs.YtbcjmmbmeebfgaaGreatDoor
set_option linter.unusedVariables false
set_option linter.unusedSimpArgs false
open Go Go.R
set_option maxRecDepth 1000000
noncomputable section
noncomputable def popN (v : Nat) : Nat := v % 2 + v / 2 % 2 + v / 4 % 2 + v / 8 % 2
noncomputable def diffN (a b : Nat) : Int := (popN a : Int) - (popN b : Int)
noncomputable def vDiff (a b : Nat) : Bool := says (callA Tryz.prog hk3 1000 33 [u64 a, u64 b] AH.empty) (iZ (diffN a b))
theorem diff_runs : ((List.range 16).all fun a => (List.range 16).all fun b => vDiff a b) = true := by kernel_rfl
theorem diff_says {a b : Nat} (ha : a < 16) (hb : b < 16) (h : AH) : Says Tryz.prog h 33 [u64 a, u64 b] (iZ (diffN a b)) h :=
  says_here (local_says hkU (List.all_eq_true.1 (List.all_eq_true.1 diff_runs a (List.mem_range.2 ha)) b (List.mem_range.2 hb))) (fun v hv => by
    simp only [List.mem_cons, List.mem_nil_iff, or_false] at hv
    rcases hv with rfl | rfl <;> rfl) rfl h
end
end Go.Proofs.YtbcjmmbmeebfgaaGreatDoor

/- Trap: MinFunc over the groups, as a contract. -/
namespace Go.Proofs.YtbcjmmbmeebfgaaGreatDoor
set_option linter.unusedVariables false
set_option linter.unusedSimpArgs false
open Go Go.R
set_option maxRecDepth 1000000
noncomputable section
noncomputable def fn33 : Value := .func (.func 33) #[] #[]
noncomputable def minS (g : Nat → Nat) (best j : Nat) : Nat := if ltF (diffN (g j) best) 0 then g j else best
noncomputable def minR (g : Nat → Nat) : Nat → Nat → Nat → Nat
  | 0, _, best => best
  | d + 1, j, best => minR g d (j + 1) (minS g best j)
noncomputable def c32 : Code := bodyOf Tryz.f32
noncomputable def lp32 : Code := within (tl (hd (behind 3 c32)))
noncomputable def S32 (q N best j : Nat) : List (Nat × Value) := [(0, slU q N), (1, fn33), (5, u64 best), (6, i64 j)]
theorem min_loop {n m cap N q : Nat} {l : List (Nat × Nat)} {g : Nat → Nat} (hq : q ≤ N) (hN : N < 1000) (hg : ∀ i, i < q → g i < 16) : ∀ d j best, j + d = q → best < 16 →
    Runs Tryz.prog 3 lp32 (sth (S32 q N best j) 33 (OT n m cap l N g)) fun e af => e = .exit 0 ∧ Less 3 (sth [(5, u64 (minR g d j best))] 33 (OT n m cap l N g)) af := by
  intro d
  induction d with
  | zero =>
    intro j best hj hb
    have e : j = q := by omega
    subst e
    refine Runs.lp (by kernel_rfl) (Runs.sq (by kernel_rfl) (Runs.sqR mixed hkU [] (by kernel_rfl) (by kernel_rfl) (by kernel_rfl) oblN ?_))
    refine Runs.cd (b := ltF (.ofNat j) (.ofNat j)) (by kernel_rfl) (fun ht => by rw [lt_self] at ht; cases ht) (fun _ => Runs.now (x := .exit 0) (by kernel_rfl) ⟨rfl, ?_⟩)
    exact less_seenP (clo_all (k := 3) (by kernel_rfl)) ot_clo (Nat.le_refl 3) (by kernel_rfl) (by kernel_rfl) (by kernel_rfl) (by kernel_rfl)
  | succ d ih =>
    intro j best hj hb
    have hlt : j < q := by omega
    have hgj := hg j hlt
    have e : minR g (d + 1) j best = minR g d (j + 1) (if ltF (diffN (g j) best) 0 then g j else best) := rfl
    rw [e]
    have hS : ∀ h, Says Tryz.prog h 33 [u64 (g j), u64 best] (iZ (diffN (g j) best)) h := fun h => diff_says hgj hb h
    generalize diffN (g j) best = dd at hS ⊢
    refine Runs.lp (by kernel_rfl) (Runs.sq (by kernel_rfl) (Runs.sqR mixed hkU [] (by kernel_rfl) (by kernel_rfl) (by kernel_rfl) oblN ?_))
    refine Runs.cd (b := ltF (.ofNat j) (.ofNat q)) (by kernel_rfl) (fun _ => Runs.now (x := .normal) (by kernel_rfl) ?_) (fun hf => by rw [lt_of hlt] at hf; cases hf)
    show Runs Tryz.prog 3 _ _ _
    refine Runs.sq (by kernel_rfl) (Runs.bk (id := 1) (by kernel_rfl) ?_)
    refine Runs.sqR mixed hkU [viaV 3 (.pointer (some ⟨2, 0 + j * 1, none⟩)), viaV 4 (u64 (g j)), viaC 6 33 [u64 (g j), u64 best] (iZ dd)] (by kernel_rfl) (by kernel_rfl) (by kernel_rfl)
      (oblC (shown_idx (n := q) (by kernel_rfl) hlt) (oblC (shown_cell (by kernel_rfl) (row_at2 (q := 2) (N := N) (by kernel_rfl) (by omega))) (oblC (shown_call (by kernel_rfl) (hS _)) oblN))) ?_
    refine Runs.cd (b := ltF dd 0) (by kernel_rfl) (fun ht => ?_) (fun hf => Runs.now (x := .normal) (by kernel_rfl) ?_)
    · rw [if_pos ht]
      refine Runs.rg mixed hkU [viaV 2 (.pointer (some ⟨2, 0 + j * 1, none⟩)), viaV 3 (u64 (g j))] (by kernel_rfl) (by kernel_rfl) (by kernel_rfl)
        (oblC (shown_idx (n := q) (by kernel_rfl) hlt) (oblC (shown_cell (by kernel_rfl) (row_at2 (q := 2) (N := N) (by kernel_rfl) (by omega))) oblN)) ?_
      show Runs Tryz.prog 3 _ _ _
      refine Runs.rg mixed hkU [viaV 1 (i64 (j + 1))] (by kernel_rfl) (by kernel_rfl) (by kernel_rfl) (oblC (shown_eq (v := .int .i64 (wrapF .i64 (Int.add (.ofNat j) (.ofNat 1)))) (by kernel_rfl) (by kernel_rfl) (by rw [wrap_succ (by omega)]; rfl)) oblN) ?_
      show Runs Tryz.prog 3 lp32 _ _
      exact Runs.less (af1 := sth (S32 q N (g j) (j + 1)) 33 (OT n m cap l N g)) (less_seenP (clo_all (k := 3) (by kernel_rfl)) ot_clo (Nat.le_refl 3) (by kernel_rfl) (by kernel_rfl) (by kernel_rfl) (by kernel_rfl)) (ih (j + 1) (g j) (by omega) hgj)
    · rw [if_neg (by rw [hf]; exact Bool.false_ne_true)]
      show Runs Tryz.prog 3 _ _ _
      refine Runs.rg mixed hkU [viaV 1 (i64 (j + 1))] (by kernel_rfl) (by kernel_rfl) (by kernel_rfl) (oblC (shown_eq (v := .int .i64 (wrapF .i64 (Int.add (.ofNat j) (.ofNat 1)))) (by kernel_rfl) (by kernel_rfl) (by rw [wrap_succ (by omega)]; rfl)) oblN) ?_
      show Runs Tryz.prog 3 lp32 _ _
      exact Runs.less (af1 := sth (S32 q N best (j + 1)) 33 (OT n m cap l N g)) (less_seenP (clo_all (k := 3) (by kernel_rfl)) ot_clo (Nat.le_refl 3) (by kernel_rfl) (by kernel_rfl) (by kernel_rfl) (by kernel_rfl)) (ih (j + 1) best (by omega) hb)
theorem min_says {n m cap N q : Nat} {l : List (Nat × Nat)} {g : Nat → Nat} (h0 : 0 < q) (hq : q ≤ N) (hN : N < 1000) (hg : ∀ i, i < q → g i < 16) : Says Tryz.prog (hp (OT n m cap l N g)) 32 [slU q N, fn33] (u64 (minR g (q - 1) 1 (g 0))) (hp (OT n m cap l N g)) := by
  refine says_of (os := OT n m cap l N g) ?_ (fun x hx => ?_) ot_clo (clo_plain rfl)
  · show Local Tryz.prog 3 32 _ _ _
    refine local_of noNum Tryz.func32 (show Tryz.f32.body = some c32 by kernel_rfl) ?_
    refine Runs.sqR mixed hkU [] (by kernel_rfl) (by kernel_rfl) (by kernel_rfl) oblN ?_
    have h1 : ltF (.ofNat q) (.ofNat 1) = false := ltF_false (by show (1 : Int) ≤ (q : Int); omega)
    refine Runs.sq (by kernel_rfl) (Runs.sqR mixed hkU [] (by kernel_rfl) (by kernel_rfl) (by kernel_rfl) oblN ?_)
    refine Runs.cd (b := ltF (.ofNat q) (.ofNat 1)) (by kernel_rfl) (fun h => by rw [h1] at h; cases h) (fun _ => Runs.now (x := .normal) (by kernel_rfl) ?_)
    show Runs Tryz.prog 3 _ _ _
    refine Runs.sqR mixed hkU [viaV 1 (.pointer (some ⟨2, 0 + 0 * 1, none⟩)), viaV 2 (u64 (g 0))] (by kernel_rfl) (by kernel_rfl) (by kernel_rfl)
      (oblC (shown_idx (n := q) (by kernel_rfl) h0) (oblC (shown_cell (by kernel_rfl) (row_at2 (q := 2) (N := N) (i := 0) (by kernel_rfl) (by omega))) oblN)) ?_
    refine Runs.sq (by kernel_rfl) (Runs.sqR mixed hkU [] (by kernel_rfl) (by kernel_rfl) (by kernel_rfl) oblN (Runs.bk (id := 0) (by kernel_rfl) ?_))
    show Runs Tryz.prog 3 lp32 _ _
    refine Runs.less (af1 := sth (S32 q N (g 0) 1) 33 (OT n m cap l N g)) (less_seenP (clo_all (k := 3) (by kernel_rfl)) ot_clo (Nat.le_refl 3) (by kernel_rfl) (by kernel_rfl) (by kernel_rfl) (by kernel_rfl)) ?_
    refine (min_loop hq hN hg (q - 1) 1 (g 0) (by omega) (hg 0 h0)).mono fun e af hx => ?_
    obtain ⟨rfl, less⟩ := hx
    show Runs Tryz.prog 3 _ af _
    exact Runs.less less (Runs.sqR mixed hkU [] (by kernel_rfl) (by kernel_rfl) (by kernel_rfl) oblN (Runs.now (x := .ret) (by kernel_rfl) ⟨.inr rfl, [u64 (minR g (q - 1) 1 (g 0))], by kernel_rfl, rfl, keepOf (by kernel_rfl)⟩))
  · simp only [List.mem_cons, List.mem_nil_iff, or_false] at hx
    rcases hx with rfl | rfl <;> exact clo_of 10 _ _ (by kernel_rfl)
end
end Go.Proofs.YtbcjmmbmeebfgaaGreatDoor

/- Trap: the groups of n basins: by the kernel, whatever the pipes. -/
namespace Go.Proofs.YtbcjmmbmeebfgaaGreatDoor
set_option linter.unusedVariables false
set_option linter.unusedSimpArgs false
open Go Go.R
set_option maxRecDepth 1000000
noncomputable section
noncomputable def grpL : Nat → List Nat
  | 1 => [1]
  | 2 => [1, 3, 2]
  | 3 => [1, 3, 7, 5, 2, 6, 4]
  | 4 => [1, 3, 7, 15, 11, 5, 13, 9, 2, 6, 14, 10, 4, 12, 8]
  | _ => []
noncomputable def grpF (n i : Nat) : Nat := ((grpL n)[i]?).getD 0
noncomputable def grpN (n : Nat) : Nat := 2 ^ n - 1
noncomputable def grpR (n m cap q : Nat) (l : List (Nat × Nat)) : Option (Value × AObj) := (callA Tryz.prog hk3 1000 29 [dhV n (smallS 0 m cap)] (hp [viewD l])).map fun p => (p.1, p.2.get q)
theorem grp_1 (m cap : Nat) (l : List (Nat × Nat)) : grpR 1 m cap 3 l = some (slR 3 1, rowU 1 (grpF 1)) := by kernel_rfl
theorem grp_2 (m cap : Nat) (l : List (Nat × Nat)) : grpR 2 m cap 7 l = some (slR 7 3, rowU 3 (grpF 2)) := by kernel_rfl
theorem grp_3 (m cap : Nat) (l : List (Nat × Nat)) : grpR 3 m cap 15 l = some (slR 15 7, rowU 7 (grpF 3)) := by kernel_rfl
theorem grp_4 (m cap : Nat) (l : List (Nat × Nat)) : grpR 4 m cap 31 l = some (slR 31 15, rowU 15 (grpF 4)) := by kernel_rfl
theorem grp_row {n m cap q N : Nat} {l : List (Nat × Nat)} (h : grpR n m cap q l = some (slR q N, rowU N (grpF n))) : Local Tryz.prog 1 29 [dhV n (smallS 0 m cap)] (hp [viewD l]) (rowIsC (fun s => s) 0 N (valsZ N fun i => u64 (grpF n i)) (some 70)) := by
  unfold grpR at h
  cases hc : callA Tryz.prog hk3 1000 29 [dhV n (smallS 0 m cap)] (hp [viewD l]) with
  | none => rw [hc] at h; cases h
  | some p =>
    obtain ⟨v, h1⟩ := p
    rw [hc] at h
    simp only [Option.map_some, Option.some.injEq, Prod.mk.injEq] at h
    exact fun F w0 μ w args' H hl => (local_call hkU (k := 1) (by rw [hp_next]; exact Nat.le_refl 1) hc F w0 μ w args' H hl).mono fun v' w' ⟨u, h'', ⟨e1, e2⟩, r⟩ => ⟨u, h'', ⟨q, [], .inl (by rw [e1, h.1]; rfl), by rw [e2]; exact h.2⟩, r⟩
theorem grp_local {n m cap : Nat} {l : List (Nat × Nat)} (h1 : 1 ≤ n) (h4 : n ≤ 4) : Local Tryz.prog 1 29 [dhV n (smallS 0 m cap)] (hp [viewD l]) (rowIsC (fun s => s) 0 (grpN n) (valsZ (grpN n) fun i => u64 (grpF n i)) (some 70)) := by
  match n, h1, h4 with
  | 1, _, _ => exact grp_row (grp_1 m cap l)
  | 2, _, _ => exact grp_row (grp_2 m cap l)
  | 3, _, _ => exact grp_row (grp_3 m cap l)
  | 4, _, _ => exact grp_row (grp_4 m cap l)
  | n + 5, _, h => omega
theorem groups_says {n : Nat} {l : List (Nat × Nat)} (h1 : 1 ≤ n) (h4 : n ≤ 4) {h : AH} {s : Value} {i o : Nat} (hs : Sees h ⟨i, o, l.length, pipesC l⟩ s) :
    Says Tryz.prog h 29 [dhV n s] (slR h.next (grpN n)) (h.new (rowU (grpN n) (grpF n))).2 :=
  tellN (z := 0) (C := c1G [i64 n] [] []) (D := fun s => s) (vs := [⟨i, o, l.length, pipesC l⟩]) (ss := [s]) (dhC_ok n (fun v h => by cases h)) resId rfl (fun caps hc => by
    obtain ⟨cap, rfl, hle⟩ := fits1 hc
    exact grp_local h1 h4) (by rw [valsZ_len]; omega) (valsZ_plain fun _ _ => rfl) ⟨hs, trivial⟩
end
end Go.Proofs.YtbcjmmbmeebfgaaGreatDoor

/- Trap, as a contract: whether there is one. -/
namespace Go.Proofs.YtbcjmmbmeebfgaaGreatDoor
set_option linter.unusedVariables false
set_option linter.unusedSimpArgs false
open Go Go.R
set_option maxRecDepth 1000000
noncomputable section
noncomputable def c9 : Code := bodyOf Tryz.f9
/-- The groups without leaves, and how many they are. -/
noncomputable def trapS (n : Nat) (l : List (Nat × Nat)) : (Nat → Nat) × Nat :=
  if firstP (fun j => pT l (grpF n j)) (grpN n) (grpN n) 0 < grpN n then
    let s := delR l (grpN n - (firstP (fun j => pT l (grpF n j)) (grpN n) (grpN n) 0 + 1)) (firstP (fun j => pT l (grpF n j)) (grpN n) (grpN n) 0 + 1) (grpF n, firstP (fun j => pT l (grpF n j)) (grpN n) (grpN n) 0)
    (cutN s.2 s.1, s.2)
  else (grpF n, grpN n)
noncomputable def TrapOk (n : Nat) (l : List (Nat × Nat)) : Prop := ∀ j, j < (trapS n l).2 → 0 < (trapS n l).1 j ∧ (trapS n l).1 j < 16
theorem minR_ok {g : Nat → Nat} {q : Nat} (hg : ∀ j, j < q → 0 < g j ∧ g j < 16) : ∀ d j best, j + d ≤ q → 0 < best ∧ best < 16 → 0 < minR g d j best ∧ minR g d j best < 16
  | 0, _, _, _, h => h
  | d + 1, j, best, hj, h => by
    have : 0 < minS g best j ∧ minS g best j < 16 := by
      unfold minS
      split
      · exact hg j (by omega)
      · exact h
    exact minR_ok hg d (j + 1) _ (by omega) this
theorem grp_small {n : Nat} (h1 : 1 ≤ n) (h4 : n ≤ 4) : Small (grpN n) (grpF n) := fun i hi => by
  have : ((List.range 5).all fun n => (List.range 16).all fun i => Nat.blt (grpF n i) 16) = true := by kernel_rfl
  have hN : grpN n < 16 := by
    unfold grpN
    have : 2 ^ n ≤ 2 ^ 4 := Nat.pow_le_pow_right (by decide) h4
    omega
  have := blt_lt (List.all_eq_true.1 (List.all_eq_true.1 this n (List.mem_range.2 (by omega))) i (List.mem_range.2 (by omega)))
  omega
theorem trap_del {n m cap : Nat} {l : List (Nat × Nat)} (F : FitP n l) (h4 : n ≤ 4) (hl : l.length = m) (hc : m ≤ cap) :
    Says Tryz.prog (hp (OT n m cap l (grpN n) (grpF n))) 28 [slR 2 (grpN n), clo30] (slU (trapS n l).2 (grpN n)) (hp (OT n m cap l (grpN n) (trapS n l).1)) ∧ (trapS n l).2 ≤ grpN n := by
  have hN : grpN n < 1000 := by
    unfold grpN
    have : 2 ^ n ≤ 2 ^ 4 := Nat.pow_le_pow_right (by decide) h4
    omega
  have hg := grp_small F.n1 h4
  have hsp := firstP_spec (fun j => pT l (grpF n j)) (grpN n) (grpN n) 0 (by omega)
  unfold trapS
  by_cases h : firstP (fun j => pT l (grpF n j)) (grpN n) (grpN n) 0 < grpN n
  · rw [if_pos h]
    refine ⟨del_some F hl hc hN hg rfl h, ?_⟩
    have := delR_le l (grpN n - (firstP (fun j => pT l (grpF n j)) (grpN n) (grpN n) 0 + 1)) (firstP (fun j => pT l (grpF n j)) (grpN n) (grpN n) 0 + 1) (grpF n, firstP (fun j => pT l (grpF n j)) (grpN n) (grpN n) 0) (Nat.lt_succ_self _)
    show (delR l _ _ _).2 ≤ grpN n
    omega
  · rw [if_neg h]
    refine ⟨del_none F hl hc hN hg ?_, Nat.le_refl _⟩
    rcases hsp with ⟨a, _⟩ | ⟨a, _⟩
    · exact a
    · exact absurd a h
theorem trap_head {n m cap : Nat} {l : List (Nat × Nat)} (F : FitP n l) (h4 : n ≤ 4) (hl : l.length = m) (hc : m ≤ cap) {Q : AExit → AF → Prop}
    (h : Runs Tryz.prog 1 (behind 3 c9) (sth [(5, slU (trapS n l).2 (grpN n))] 21 (OT n m cap l (grpN n) (trapS n l).1)) Q) : Runs Tryz.prog 1 c9 (entry Tryz.f9 [dhV n (smallS 0 m cap)] (hp [viewD l])) Q := by
  obtain ⟨hD, _⟩ := trap_del (cap := cap) F h4 hl hc
  refine Runs.sqR mixed hkU [] (by kernel_rfl) (by kernel_rfl) (by kernel_rfl) oblN ?_
  refine Runs.sq (by kernel_rfl) (Runs.sqR mixed hkU [viaC 1 25 [dhV n (smallS 0 m cap)] (i64 0)] (by kernel_rfl) (by kernel_rfl) (by kernel_rfl) (oblC (shown_call (by kernel_rfl) (check25_says F (sees_d hl hc (by kernel_rfl)))) oblN) ?_)
  refine Runs.sqR mixed hkU [] (by kernel_rfl) (by kernel_rfl) (by kernel_rfl) oblN ?_
  refine Runs.cd (b := false) (by kernel_rfl) (fun h => by cases h) (fun _ => Runs.now (x := .normal) (by kernel_rfl) ?_)
  show Runs Tryz.prog 1 _ _ _
  have hG := groups_says F.n1 h4 (h := hp (OD n m cap l)) (sees_d hl hc (by kernel_rfl))
  generalize trapS n l = t at hD h
  obtain ⟨g1, q⟩ := t
  generalize grpN n = N at hG hD h
  generalize grpF n = g0 at hG hD
  refine Runs.sqR mixed hkU [viaH 1 29 [dhV n (smallS 0 m cap)] (slR 2 N) ((hp (OD n m cap l)).new (rowU N g0)).2, viaH 3 28 [slR 2 N, clo30] (slU q N) (hp (OT n m cap l N g1))] (by kernel_rfl) (by kernel_rfl) (by kernel_rfl)
    (oblC (shown_callHE (h0 := hp (OD n m cap l)) (by kernel_rfl) (by kernel_rfl) hG) (oblC (shown_callHE (h0 := hp (OT n m cap l N g0)) (by kernel_rfl) (by kernel_rfl) hD) oblN)) ?_
  exact Runs.less (af1 := sth [(5, slU q N)] 21 (OT n m cap l N g1)) (less_seenP (clo_all (k := 3) (by kernel_rfl)) ot_clo (show 1 ≤ 3 by decide) (by kernel_rfl) (by kernel_rfl) (by kernel_rfl) (by kernel_rfl)) h
theorem trap_local0 {n m cap : Nat} {l : List (Nat × Nat)} (F : FitP n l) (h4 : n ≤ 4) (hl : l.length = m) (hc : m ≤ cap) (h0 : (trapS n l).2 = 0) : Local Tryz.prog 1 9 [dhV n (smallS 0 m cap)] (hp [viewD l]) fun v' _ => v' = .tuple #[.slice none 0 0, i64 13] := by
  refine local_of noNum Tryz.func9 (show Tryz.f9.body = some c9 by kernel_rfl) ?_
  refine trap_head F h4 hl hc ?_
  rw [h0]
  refine Runs.sq (by kernel_rfl) (Runs.sqR mixed hkU [] (by kernel_rfl) (by kernel_rfl) (by kernel_rfl) oblN ?_)
  refine Runs.cd (b := true) (by kernel_rfl) (fun _ => ?_) (fun h => by cases h)
  exact Runs.sqR mixed hkU [] (by kernel_rfl) (by kernel_rfl) (by kernel_rfl) oblN (Runs.now (x := .ret) (by kernel_rfl) ⟨.inr rfl, [.slice none 0 0, i64 13], by kernel_rfl, rfl⟩)
/-- The smallest of the groups without leaves. -/
noncomputable def trapN (n : Nat) (l : List (Nat × Nat)) : Nat := minR (trapS n l).1 ((trapS n l).2 - 1) 1 ((trapS n l).1 0)
theorem trap_local {n m cap : Nat} {l : List (Nat × Nat)} (F : FitP n l) (h4 : n ≤ 4) (hl : l.length = m) (hc : m ≤ cap) (h0 : 0 < (trapS n l).2) (T : TrapOk n l) : Local Tryz.prog 1 9 [dhV n (smallS 0 m cap)] (hp [viewD l]) (rowIsC (dT (i64 0)) 0 (bitsN (trapN n l)).length (natsC (bitsN (trapN n l))) (some 3)) := by
  obtain ⟨_, hle⟩ := trap_del (cap := cap) F h4 hl hc
  have hN : grpN n < 1000 := by
    unfold grpN
    have : 2 ^ n ≤ 2 ^ 4 := Nat.pow_le_pow_right (by decide) h4
    omega
  have hM := min_says (n := n) (m := m) (cap := cap) (l := l) (g := (trapS n l).1) h0 hle hN (fun i hi => (T i hi).2)
  have hok := minR_ok T ((trapS n l).2 - 1) 1 ((trapS n l).1 0) (by omega) (T 0 h0)
  refine local_of noNum Tryz.func9 (show Tryz.f9.body = some c9 by kernel_rfl) ?_
  refine trap_head F h4 hl hc ?_
  unfold trapN
  generalize trapS n l = t at h0 hM hok ⊢
  obtain ⟨g1, q⟩ := t
  have h0 : 0 < q := h0
  have hq : q ≠ 0 := by omega
  have hM : Says Tryz.prog (hp (OT n m cap l (grpN n) g1)) 32 [slU q (grpN n), fn33] (u64 (minR g1 (q - 1) 1 (g1 0))) (hp (OT n m cap l (grpN n) g1)) := hM
  have hok : 0 < minR g1 (q - 1) 1 (g1 0) ∧ minR g1 (q - 1) 1 (g1 0) < 16 := hok
  show Runs Tryz.prog 1 (behind 3 c9) (sth [(5, slU q (grpN n))] 21 (OT n m cap l (grpN n) g1)) (EndsAs Tryz.prog Tryz.f9 (rowIsC (dT (i64 0)) 0 (bitsN (minR g1 (q - 1) 1 (g1 0))).length (natsC (bitsN (minR g1 (q - 1) 1 (g1 0)))) (some 3)))
  generalize minR g1 (q - 1) 1 (g1 0) = r at hM hok ⊢
  generalize grpN n = N at hM ⊢
  have e0 : eqF (.ofNat q) (.ofNat 0) = false := eqF_false (by show ¬ ((q : Int) = 0); omega)
  refine Runs.sq (by kernel_rfl) (Runs.sqR mixed hkU [] (by kernel_rfl) (by kernel_rfl) (by kernel_rfl) oblN ?_)
  refine Runs.cd (b := eqF (.ofNat q) (.ofNat 0)) (by kernel_rfl) (fun h => by rw [e0] at h; cases h) (fun _ => Runs.now (x := .normal) (by kernel_rfl) ?_)
  show Runs Tryz.prog 1 _ _ _
  refine Runs.sqR mixed hkU [viaC 1 32 [slU q N, fn33] (u64 r), viaH 2 26 [u64 r] (slR 3 (bitsN r).length) ((hp (OT n m cap l N g1)).new (rowN (bitsN r))).2] (by kernel_rfl) (by kernel_rfl) (by kernel_rfl)
    (oblC (shown_callE (h0 := hp (OT n m cap l N g1)) (by kernel_rfl) (by kernel_rfl) hM) (oblC (shown_callHE (h0 := hp (OT n m cap l N g1)) (by kernel_rfl) (by kernel_rfl) (dlist_says (by omega) (by omega) _)) oblN)) ?_
  exact Runs.now (x := .ret) (by kernel_rfl) ⟨.inr rfl, [slR 3 (bitsN r).length, i64 0], by kernel_rfl, 3, [], .inl rfl, by kernel_rfl⟩
theorem trap_says0 {n : Nat} {l : List (Nat × Nat)} (F : FitP n l) (h4 : n ≤ 4) (h0 : (trapS n l).2 = 0) {h : AH} {s : Value} {i o : Nat} (hs : Sees h ⟨i, o, l.length, pipesC l⟩ s) :
    Says Tryz.prog h 9 [dhV n s] (.tuple #[.slice none 0 0, i64 13]) h :=
  tellF (C := c1G [i64 n] [] []) (vs := [⟨i, o, l.length, pipesC l⟩]) (ss := [s]) (dhC_ok n (fun v h => by cases h)) rfl (fun caps hc => by
    obtain ⟨cap, rfl, hle⟩ := fits1 hc
    exact trap_local0 F h4 rfl hle h0) (fun v' _ r => r) (fun μ μ' x hx => flat_any hx rfl) ⟨hs, trivial⟩
theorem trap_says {n : Nat} {l : List (Nat × Nat)} (F : FitP n l) (h4 : n ≤ 4) (h0 : 0 < (trapS n l).2) (T : TrapOk n l) {h : AH} {s : Value} {i o : Nat} (hs : Sees h ⟨i, o, l.length, pipesC l⟩ s) :
    Says Tryz.prog h 9 [dhV n s] (.tuple #[slR h.next (bitsN (trapN n l)).length, i64 0]) (h.new (rowN (bitsN (trapN n l)))).2 :=
  tellN (z := 0) (C := c1G [i64 n] [] []) (D := dT (i64 0)) (vs := [⟨i, o, l.length, pipesC l⟩]) (ss := [s]) (dhC_ok n (fun v h => by cases h)) (dT_ok rfl) rfl (fun caps hc => by
    obtain ⟨cap, rfl, hle⟩ := fits1 hc
    exact trap_local F h4 rfl hle h0 T) (by rw [natsC_len]; omega) (natsC_plain _) ⟨hs, trivial⟩
end
end Go.Proofs.YtbcjmmbmeebfgaaGreatDoor

/- Count, as a contract, out of a run by the kernel. -/
namespace Go.Proofs.YtbcjmmbmeebfgaaGreatDoor
set_option linter.unusedVariables false
set_option linter.unusedSimpArgs false
open Go Go.R
set_option maxRecDepth 1000000
noncomputable section
noncomputable def c8 : Code := bodyOf Tryz.f8
noncomputable def run8 (n cap : Nat) (l : List (Nat × Nat)) : Option (AExit × AF) := execA Tryz.prog kU 1000 (behind 2 c8) (sth [(1, ptrV 1)] 139 (OD n l.length cap l))
noncomputable def ok8 (n cap : Nat) (l : List (Nat × Nat)) (v : Int) : Bool := okRun Tryz.prog Tryz.f8 (run8 n cap l) (.tuple #[iZ v, i64 0])
theorem count_local {n cap : Nat} {l : List (Nat × Nat)} {v : Int} (F : FitP n l) (hc : l.length ≤ cap) (h : ok8 n cap l v = true) : Local Tryz.prog 1 8 [dhV n (smallS 0 l.length cap)] (hp [viewD l]) fun v' _ => v' = .tuple #[iZ v, i64 0] := by
  refine local_of noNum Tryz.func8 (show Tryz.f8.body = some c8 by kernel_rfl) ?_
  refine Runs.sqR mixed hkU [] (by kernel_rfl) (by kernel_rfl) (by kernel_rfl) oblN ?_
  refine Runs.sq (by kernel_rfl) (Runs.sqR mixed hkU [viaC 1 25 [dhV n (smallS 0 l.length cap)] (i64 0)] (by kernel_rfl) (by kernel_rfl) (by kernel_rfl) (oblC (shown_call (by kernel_rfl) (check25_says F (sees_d rfl hc (by kernel_rfl)))) oblN) ?_)
  refine Runs.sqR mixed hkU [] (by kernel_rfl) (by kernel_rfl) (by kernel_rfl) oblN ?_
  refine Runs.cd (b := false) (by kernel_rfl) (fun h => by cases h) (fun _ => Runs.now (x := .normal) (by kernel_rfl) ?_)
  show Runs Tryz.prog 1 _ _ _
  refine Runs.less (af1 := sth [(1, ptrV 1)] 139 (OD n l.length cap l)) (less_seenP (clo_all (k := 2) (by kernel_rfl)) od_clo (show 1 ≤ 2 by decide) (by kernel_rfl) (by kernel_rfl) (by kernel_rfl) (by kernel_rfl)) ?_
  exact Runs.last mixed hkU (n := 1000) (by show 1 ≤ (hp (OD n l.length cap l)).next; rw [hp_next]; exact (by decide : 1 ≤ 2)) h
theorem count_says {n : Nat} {l : List (Nat × Nat)} {v : Int} (F : FitP n l) (hk : ∀ cap, ok8 n cap l v = true) {h : AH} {s : Value} {i o : Nat} (hs : Sees h ⟨i, o, l.length, pipesC l⟩ s) : Says Tryz.prog h 8 [dhV n s] (.tuple #[iZ v, i64 0]) h :=
  tellF (C := c1G [i64 n] [] []) (vs := [⟨i, o, l.length, pipesC l⟩]) (ss := [s]) (dhC_ok n (fun v h => by cases h)) rfl (fun caps hc => by
    obtain ⟨cap, rfl, hle⟩ := fits1 hc
    exact count_local F hle (hk cap)) (fun v' _ r => r) (fun μ μ' x hx => flat_any hx rfl) ⟨hs, trivial⟩
end
end Go.Proofs.YtbcjmmbmeebfgaaGreatDoor
