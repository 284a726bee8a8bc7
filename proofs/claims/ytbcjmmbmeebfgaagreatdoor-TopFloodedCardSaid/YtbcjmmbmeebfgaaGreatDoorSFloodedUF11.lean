/- TopFlooded: Stuck, Count and Trap where there are no pipes at all, by the kernel. -/
import Derived.Test.YtbcjmmbmeebfgaaGreatDoorSFloodedUF7
import Derived.Test.YtbcjmmbmeebfgaaGreatDoorSFloodedUF9
import Derived.Test.YtbcjmmbmeebfgaaGreatDoorSFloodedUF10
namespace Go.Proofs.YtbcjmmbmeebfgaaGreatDoor
set_option linter.unusedVariables false
set_option linter.unusedSimpArgs false
open Go Go.R
set_option maxRecDepth 1000000
noncomputable section
theorem zro_rowN {f : FuncId} {args : List Value} {q : Nat} {D : Value → Value} {l : List Nat} (h : zroR f args q = some (D (slR q l.length), some (natsC l, true, some 3))) :
    Local Tryz.prog 0 f args AH.empty (rowIsC D 0 l.length (natsC l) (some 3)) := by
  unfold zroR at h
  cases hc : callA Tryz.prog hk3 1000 f args AH.empty with
  | none => rw [hc] at h; cases h
  | some p =>
    obtain ⟨v, h1⟩ := p
    rw [hc] at h
    simp only [Option.map_some, Option.some.injEq, Prod.mk.injEq] at h
    obtain ⟨par, hp⟩ := rowT_of h.2
    exact fun F w0 μ w args' H hl => (local_call hkU (k := 0) (Nat.zero_le _) hc F w0 μ w args' H hl).mono fun v' w' ⟨u, h'', ⟨e1, e2⟩, r⟩ => ⟨u, h'', ⟨q, par, .inl (by rw [e1, h.1]; rfl), by rw [e2]; exact hp⟩, r⟩
noncomputable def zroV (f : FuncId) (args : List Value) : Option Value := (callA Tryz.prog hk3 1000 f args AH.empty).map fun p => p.1
theorem zro_val {f : FuncId} {args : List Value} {v : Value} (h : zroV f args = some v) : Local Tryz.prog 0 f args AH.empty fun v' _ => v' = v := by
  unfold zroV at h
  cases hc : callA Tryz.prog hk3 1000 f args AH.empty with
  | none => rw [hc] at h; cases h
  | some p =>
    obtain ⟨v1, h1⟩ := p
    rw [hc] at h
    simp only [Option.map_some, Option.some.injEq] at h
    exact fun F w0 μ w args' H hl => (local_call hkU (k := 0) (Nat.zero_le _) hc F w0 μ w args' H hl).mono fun v' w' ⟨u, h'', ⟨e1, e2⟩, r⟩ => ⟨u, h'', by rw [e1, h], r⟩
theorem p7_1 : zroR 7 [dhV 1 (.slice none 0 0)] 5 = some (dT (i64 0) (slR 5 (List.range 1).length), some (natsC (List.range 1), true, some 3)) := by kernel_rfl
theorem p8_1 : zroV 8 [dhV 1 (.slice none 0 0)] = some (.tuple #[iZ 0, i64 0]) := by kernel_rfl
theorem p9_1 : zroR 9 [dhV 1 (.slice none 0 0)] 8 = some (dT (i64 0) (slR 8 [0].length), some (natsC [0], true, some 3)) := by kernel_rfl
theorem p7_2 : zroR 7 [dhV 2 (.slice none 0 0)] 7 = some (dT (i64 0) (slR 7 (List.range 2).length), some (natsC (List.range 2), true, some 3)) := by kernel_rfl
theorem p8_2 : zroV 8 [dhV 2 (.slice none 0 0)] = some (.tuple #[iZ 0, i64 0]) := by kernel_rfl
theorem p9_2 : zroR 9 [dhV 2 (.slice none 0 0)] 30 = some (dT (i64 0) (slR 30 [0].length), some (natsC [0], true, some 3)) := by kernel_rfl
theorem p7_3 : zroR 7 [dhV 3 (.slice none 0 0)] 9 = some (dT (i64 0) (slR 9 (List.range 3).length), some (natsC (List.range 3), true, some 3)) := by kernel_rfl
theorem p8_3 : zroV 8 [dhV 3 (.slice none 0 0)] = some (.tuple #[iZ 0, i64 0]) := by kernel_rfl
theorem p9_3 : zroR 9 [dhV 3 (.slice none 0 0)] 124 = some (dT (i64 0) (slR 124 [0].length), some (natsC [0], true, some 3)) := by kernel_rfl
theorem p7_4 : zroR 7 [dhV 4 (.slice none 0 0)] 11 = some (dT (i64 0) (slR 11 (List.range 4).length), some (natsC (List.range 4), true, some 3)) := by kernel_rfl
theorem p8_4 : zroV 8 [dhV 4 (.slice none 0 0)] = some (.tuple #[iZ 0, i64 0]) := by kernel_rfl
theorem p9_4 : zroR 9 [dhV 4 (.slice none 0 0)] 547 = some (dT (i64 0) (slR 547 [0].length), some (natsC [0], true, some 3)) := by kernel_rfl
theorem dhG {n : Nat} : ∀ v ∈ [dhV n (.slice none 0 0)], plainG v = true := fun v hv => by rw [List.mem_singleton.1 hv]; rfl
theorem dhA_ok {n : Nat} : ArgC 0 (fun _ => [dhV n (.slice none 0 0)]) := by
  intro μ ss l hlen hl
  refine ⟨[], by cases ss with | nil => exact LR.nil | cons _ _ => simp at hlen, fun μ1 ss1 h1 => ?_⟩
  rw [plainsG_same hl dhG]; exact plainsG_lr dhG
theorem natsC_plain' {l : List Nat} : ∀ x ∈ natsC l, plainV x = true := fun x hx => by
  obtain ⟨i, _, rfl⟩ := List.mem_map.1 hx; rfl
theorem p7_local {n : Nat} (h1 : 1 ≤ n) (h4 : n ≤ 4) : Local Tryz.prog 0 7 [dhV n (.slice none 0 0)] AH.empty (rowIsC (dT (i64 0)) 0 (List.range n).length (natsC (List.range n)) (some 3)) := by
  match n, h1, h4 with
  | 1, _, _ => exact zro_rowN p7_1
  | 2, _, _ => exact zro_rowN p7_2
  | 3, _, _ => exact zro_rowN p7_3
  | 4, _, _ => exact zro_rowN p7_4
  | n + 5, _, h => omega
theorem p9_local {n : Nat} (h1 : 1 ≤ n) (h4 : n ≤ 4) : Local Tryz.prog 0 9 [dhV n (.slice none 0 0)] AH.empty (rowIsC (dT (i64 0)) 0 ([0]).length (natsC ([0])) (some 3)) := by
  match n, h1, h4 with
  | 1, _, _ => exact zro_rowN p9_1
  | 2, _, _ => exact zro_rowN p9_2
  | 3, _, _ => exact zro_rowN p9_3
  | 4, _, _ => exact zro_rowN p9_4
  | n + 5, _, h => omega
theorem p8_local {n : Nat} (h1 : 1 ≤ n) (h4 : n ≤ 4) : Local Tryz.prog 0 8 [dhV n (.slice none 0 0)] AH.empty fun v' _ => v' = .tuple #[iZ 0, i64 0] := by
  match n, h1, h4 with
  | 1, _, _ => exact zro_val p8_1
  | 2, _, _ => exact zro_val p8_2
  | 3, _, _ => exact zro_val p8_3
  | 4, _, _ => exact zro_val p8_4
  | n + 5, _, h => omega
theorem stuck_nil {n : Nat} (h1 : 1 ≤ n) (h4 : n ≤ 4) (h : AH) : Says Tryz.prog h 7 [dhV n (.slice none 0 0)] (.tuple #[slR h.next (List.range n).length, i64 0]) (h.new (rowN (List.range n))).2 :=
  tellN (z := 0) (C := fun _ => [dhV n (.slice none 0 0)]) (D := dT (i64 0)) (vs := []) (ss := []) dhA_ok (dT_ok rfl) rfl (fun caps hc => p7_local h1 h4) (by show ((List.range n).map i64).length = _; rw [List.length_map]; omega) natsC_plain' trivial
theorem trap_nil {n : Nat} (h1 : 1 ≤ n) (h4 : n ≤ 4) (h : AH) : Says Tryz.prog h 9 [dhV n (.slice none 0 0)] (.tuple #[slR h.next [0].length, i64 0]) (h.new (rowN [0])).2 :=
  tellN (z := 0) (C := fun _ => [dhV n (.slice none 0 0)]) (D := dT (i64 0)) (vs := []) (ss := []) dhA_ok (dT_ok rfl) rfl (fun caps hc => p9_local h1 h4) rfl natsC_plain' trivial
theorem count_nil {n : Nat} (h1 : 1 ≤ n) (h4 : n ≤ 4) (h : AH) : Says Tryz.prog h 8 [dhV n (.slice none 0 0)] (.tuple #[iZ 0, i64 0]) h := says_hereG (p8_local h1 h4) dhG rfl h
end
end Go.Proofs.YtbcjmmbmeebfgaaGreatDoor

/- TopFlooded: Stuck, Count and Trap against the law's own list. -/
namespace Go.Proofs.YtbcjmmbmeebfgaaGreatDoor
set_option linter.unusedVariables false
set_option linter.unusedSimpArgs false
open Go Go.R
set_option maxRecDepth 1000000
noncomputable section

noncomputable def cmpC : Code := behind 6 T3
noncomputable def OA (c0 : List Value) (ty0 : Option TypeId) (k : Nat) (s : Value) : List AObj := [ob0 c0 ty0, hillK k s]
theorem bits_nil_0 : bitsN 0 = [] := by kernel_rfl
theorem stuck_0 {n : Nat} {l : List (Nat × Nat)} (h : bitsN (stuckN n l) = []) : stuckN n l = 0 := by
  apply Classical.byContradiction
  intro h0
  rw [bits_step h0 (stuck_lt n l)] at h
  cases h
theorem stuck_n0 {n x : Nat} {l : List (Nat × Nat)} {st : List Nat} (h : bitsN (stuckN n l) = x :: st) : stuckN n l ≠ 0 := by
  intro h0
  rw [h0, bits_nil_0] at h
  cases h
theorem range_1 : bitsN (stuckN 1 []) = List.range 1 := by kernel_rfl
theorem range_2 : bitsN (stuckN 2 []) = List.range 2 := by kernel_rfl
theorem range_3 : bitsN (stuckN 3 []) = List.range 3 := by kernel_rfl
theorem range_4 : bitsN (stuckN 4 []) = List.range 4 := by kernel_rfl
theorem range_nil {n : Nat} (h1 : 1 ≤ n) (h4 : n ≤ 4) : bitsN (stuckN n []) = List.range n := by
  match n, h1, h4 with
  | 1, _, _ => exact range_1
  | 2, _, _ => exact range_2
  | 3, _, _ => exact range_3
  | 4, _, _ => exact range_4
  | n + 5, _, h => omega
section
variable {c0 : List Value} {ty0 : Option TypeId} {k n : Nat} {s : Value} {l : List Nat} {f : Nat → Bool}
theorem oa_clo (O : Outer c0 s l) : ∀ o ∈ OA c0 ty0 k s, CloO 2 o := fun o ho => by
  simp only [OA, List.mem_cons, List.mem_nil_iff, or_false] at ho
  rcases ho with rfl | rfl
  · exact cloO_plain O.p0 _ _
  · exact hillK_clo (gsv_clo O.gs (by decide))
theorem cmp_nil (O : Outer c0 s l) (h1 : 1 ≤ n) (h4 : n ≤ 4) {x : Nat} {st : List Nat} (hst : List.range n = x :: st) :
    Runs Tryz.prog 0 cmpC (sth (ET3 (stV 5 (x :: st))) 252 (OT3 c0 ty0 k s l n f [] (x :: st))) fun e af => e = .normal ∧ Less 0 (sth [(7, ptrV 1)] 252 (OA c0 ty0 k s)) af := by
  have hlen : (x :: st).length < 1000 := by rw [← hst, List.length_range]; omega
  have hS := stuck_nil h1 h4 (hp (OT3 c0 ty0 k s l n f [] (x :: st)))
  rw [hst] at hS
  refine Runs.sqR mixed hkU [viaH 1 7 [dhV n (.slice none 0 0)] (.tuple #[slR 6 (x :: st).length, i64 0]) ((hp (OT3 c0 ty0 k s l n f [] (x :: st))).new (rowN (x :: st))).2] (by kernel_rfl) (by kernel_rfl) (by kernel_rfl)
    (oblC (shown_callHE (h0 := hp (OT3 c0 ty0 k s l n f [] (x :: st))) (by kernel_rfl) (by kernel_rfl) hS) oblN) ?_
  refine Runs.sqR mixed hkU [viaC 1 8 [dhV n (.slice none 0 0)] (.tuple #[iZ 0, i64 0])] (by kernel_rfl) (by kernel_rfl) (by kernel_rfl) (oblC (shown_call (by kernel_rfl) (count_nil h1 h4 _)) oblN) ?_
  refine Runs.sqR mixed hkU [viaH 1 9 [dhV n (.slice none 0 0)] (.tuple #[slR 7 1, i64 0]) (((hp (OT3 c0 ty0 k s l n f [] (x :: st))).new (rowN (x :: st))).2.new (rowN [0])).2] (by kernel_rfl) (by kernel_rfl) (by kernel_rfl)
    (oblC (shown_callHE (h0 := ((hp (OT3 c0 ty0 k s l n f [] (x :: st))).new (rowN (x :: st))).2) (by kernel_rfl) (by kernel_rfl) (trap_nil h1 h4 _)) oblN) ?_
  refine Runs.sqR mixed hkU [viaC 9 10 [slR 6 (x :: st).length, slR 5 (x :: st).length] (.bool true)] (by kernel_rfl) (by kernel_rfl) (by kernel_rfl)
    (oblC (shown_call (by kernel_rfl) (same_says hlen (sees_row (z := 0) (lv := true) (par := []) (ty := some 3) (q := 6) (by kernel_rfl) (natsC_plain _)) (sees_row (z := 0) (lv := true) (par := []) (ty := some 3) (q := 5) (by kernel_rfl) (natsC_plain _)))) oblN) ?_
  exact (Runs.cd (b := false) (by kernel_rfl) (fun h => by cases h) (fun _ => Runs.now (x := .normal) (by kernel_rfl) ⟨rfl, less_seenP (clo_all (k := 2) (by kernel_rfl)) (oa_clo O) (Nat.zero_le 2) (by kernel_rfl) (by kernel_rfl) (by kernel_rfl) (by kernel_rfl)⟩))
theorem cmp_none (O : Outer c0 s l) {p : Nat × Nat} {ps : List (Nat × Nat)} {bd : Nat → Bool} (h4 : n ≤ 4) (G : GoodG n (p :: ps) bd) (hst : stuckL n (p :: ps) bd = []) :
    Runs Tryz.prog 0 cmpC (sth (ET3 (stV 6 [])) 252 (OT3 c0 ty0 k s l n f (p :: ps) [])) fun e af => e = .normal ∧ Less 0 (sth [(7, ptrV 1)] 252 (OA c0 ty0 k s)) af := by
  have g1 := G.stuck
  have g2 := G.trp
  have g3 := G.det
  rw [hst] at g1 g2 g3
  have sD : ∀ {h : AH}, h.get 5 = rowPi (p :: ps) → Sees h ⟨5, 0, (p :: ps).length, pipesC (p :: ps)⟩ (slG 5 (p :: ps).length) := fun e => sees_row (z := 2) e pipesC_plain
  have h7 : ∀ {h : AH}, h.get 5 = rowPi (p :: ps) → Says Tryz.prog h 7 [dhV n (slG 5 (p :: ps).length)] (.tuple #[.slice none 0 0, i64 0]) h := fun e => stuck_says0 G.fit (stuck_0 g1) (sD e)
  have h8 : ∀ {h : AH}, h.get 5 = rowPi (p :: ps) → Says Tryz.prog h 8 [dhV n (slG 5 (p :: ps).length)] (.tuple #[iZ (cntV n (p :: ps)), i64 0]) h := fun e => count_says G.fit G.cnt (sD e)
  have h9 : ∀ {h : AH}, h.get 5 = rowPi (p :: ps) → Says Tryz.prog h 9 [dhV n (slG 5 (p :: ps).length)] (.tuple #[.slice none 0 0, i64 13]) h := fun e => trap_says0 G.fit h4 (nbeq.1 g2) (sD e)
  generalize cntV n (p :: ps) = v at h8 g3
  refine Runs.sqR mixed hkU [viaC 1 7 [dhV n (slG 5 (p :: ps).length)] (.tuple #[.slice none 0 0, i64 0])] (by kernel_rfl) (by kernel_rfl) (by kernel_rfl) (oblC (shown_call (by kernel_rfl) (h7 (by kernel_rfl))) oblN) ?_
  refine Runs.sqR mixed hkU [viaC 1 8 [dhV n (slG 5 (p :: ps).length)] (.tuple #[iZ v, i64 0])] (by kernel_rfl) (by kernel_rfl) (by kernel_rfl) (oblC (shown_call (by kernel_rfl) (h8 (by kernel_rfl))) oblN) ?_
  refine Runs.sqR mixed hkU [viaC 1 9 [dhV n (slG 5 (p :: ps).length)] (.tuple #[.slice none 0 0, i64 13])] (by kernel_rfl) (by kernel_rfl) (by kernel_rfl) (oblC (shown_call (by kernel_rfl) (h9 (by kernel_rfl))) oblN) ?_
  refine Runs.sqR mixed hkU [viaV 14 (.bool false)] (by kernel_rfl) (by kernel_rfl) (by kernel_rfl)
    (oblC (shown_eq (v := .bool (eqF v (.ofNat 0))) (by kernel_rfl) (by kernel_rfl) (by rw [show eqF v (.ofNat 0) = false from g3])) oblN) ?_
  exact (Runs.cd (b := false) (by kernel_rfl) (fun h => by cases h) (fun _ => Runs.now (x := .normal) (by kernel_rfl) ⟨rfl, less_seenP (clo_all (k := 2) (by kernel_rfl)) (oa_clo O) (Nat.zero_le 2) (by kernel_rfl) (by kernel_rfl) (by kernel_rfl) (by kernel_rfl)⟩))
theorem cmp_some (O : Outer c0 s l) {p : Nat × Nat} {ps : List (Nat × Nat)} {bd : Nat → Bool} (h4 : n ≤ 4) (G : GoodG n (p :: ps) bd) {x : Nat} {st : List Nat} (hst : stuckL n (p :: ps) bd = x :: st) :
    Runs Tryz.prog 0 cmpC (sth (ET3 (stV 6 (x :: st))) 252 (OT3 c0 ty0 k s l n f (p :: ps) (x :: st))) fun e af => e = .normal ∧ Less 0 (sth [(7, ptrV 1)] 252 (OA c0 ty0 k s)) af := by
  have g1 := G.stuck
  have g2 := G.trp
  have g3 := G.det
  rw [hst] at g1 g2 g3
  have hlen : (x :: st).length < 1000 := by rw [← g1]; have := bits_len (stuckN n (p :: ps)); omega
  have sD : ∀ {h : AH}, h.get 5 = rowPi (p :: ps) → Sees h ⟨5, 0, (p :: ps).length, pipesC (p :: ps)⟩ (slG 5 (p :: ps).length) := fun e => sees_row (z := 2) e pipesC_plain
  have t0 : 0 < (trapS n (p :: ps)).2 := by
    apply Nat.pos_of_ne_zero
    intro h0
    rw [h0] at g2; cases g2
  have h7 : ∀ {h : AH}, h.get 5 = rowPi (p :: ps) → Says Tryz.prog h 7 [dhV n (slG 5 (p :: ps).length)] (.tuple #[slR h.next (x :: st).length, i64 0]) (h.new (rowN (x :: st))).2 := fun e => by
    have := stuck_says G.fit (stuck_n0 g1) (sD e)
    rwa [g1] at this
  have h8 : ∀ {h : AH}, h.get 5 = rowPi (p :: ps) → Says Tryz.prog h 8 [dhV n (slG 5 (p :: ps).length)] (.tuple #[iZ (cntV n (p :: ps)), i64 0]) h := fun e => count_says G.fit G.cnt (sD e)
  have h9 : ∀ {h : AH}, h.get 5 = rowPi (p :: ps) → Says Tryz.prog h 9 [dhV n (slG 5 (p :: ps).length)] (.tuple #[slR h.next (bitsN (trapN n (p :: ps))).length, i64 0]) (h.new (rowN (bitsN (trapN n (p :: ps))))).2 := fun e => trap_says G.fit h4 t0 G.trap (sD e)
  generalize cntV n (p :: ps) = v at h8 g3
  generalize bitsN (trapN n (p :: ps)) = w at h9
  let H0 : AH := hp (OT3 c0 ty0 k s l n f (p :: ps) (x :: st))
  refine Runs.sqR mixed hkU [viaH 1 7 [dhV n (slG 5 (p :: ps).length)] (.tuple #[slR 7 (x :: st).length, i64 0]) (H0.new (rowN (x :: st))).2] (by kernel_rfl) (by kernel_rfl) (by kernel_rfl)
    (oblC (shown_callHE (h0 := H0) (by kernel_rfl) (by kernel_rfl) (h7 (by kernel_rfl))) oblN) ?_
  refine Runs.sqR mixed hkU [viaC 1 8 [dhV n (slG 5 (p :: ps).length)] (.tuple #[iZ v, i64 0])] (by kernel_rfl) (by kernel_rfl) (by kernel_rfl) (oblC (shown_call (by kernel_rfl) (h8 (by kernel_rfl))) oblN) ?_
  refine Runs.sqR mixed hkU [viaH 1 9 [dhV n (slG 5 (p :: ps).length)] (.tuple #[slR 8 w.length, i64 0]) ((H0.new (rowN (x :: st))).2.new (rowN w)).2] (by kernel_rfl) (by kernel_rfl) (by kernel_rfl)
    (oblC (shown_callHE (h0 := (H0.new (rowN (x :: st))).2) (by kernel_rfl) (by kernel_rfl) (h9 (by kernel_rfl))) oblN) ?_
  refine Runs.sqR mixed hkU [viaC 9 10 [slR 7 (x :: st).length, slR 6 (x :: st).length] (.bool true), viaV 14 (.bool true)] (by kernel_rfl) (by kernel_rfl) (by kernel_rfl)
    (oblC (shown_call (by kernel_rfl) (same_says hlen (sees_row (z := 0) (lv := true) (par := []) (ty := some 3) (q := 7) (by kernel_rfl) (natsC_plain _)) (sees_row (z := 0) (lv := true) (par := []) (ty := some 3) (q := 6) (by kernel_rfl) (natsC_plain _))))
    (oblC (shown_eq (v := .bool (eqF v (.ofNat 0))) (by kernel_rfl) (by kernel_rfl) (by rw [show eqF v (.ofNat 0) = true from g3])) oblN)) ?_
  exact (Runs.cd (b := false) (by kernel_rfl) (fun h => by cases h) (fun _ => Runs.now (x := .normal) (by kernel_rfl) ⟨rfl, less_seenP (clo_all (k := 2) (by kernel_rfl)) (oa_clo O) (Nat.zero_le 2) (by kernel_rfl) (by kernel_rfl) (by kernel_rfl) (by kernel_rfl)⟩))
end
end
end Go.Proofs.YtbcjmmbmeebfgaaGreatDoor

/- TopFlooded: one look at the first places of the region: pipes, rounds, stuck, and what the program says. -/
namespace Go.Proofs.YtbcjmmbmeebfgaaGreatDoor
set_option linter.unusedVariables false
set_option linter.unusedSimpArgs false
open Go Go.R
set_option maxRecDepth 1000000
noncomputable section

section
variable {c0 : List Value} {ty0 : Option TypeId} {k n : Nat} {s : Value} {l : List Nat}
/-- Behind the loop over the places. -/
theorem tail_nil (O : Outer c0 s l) (h1 : 1 ≤ n) (h4 : n ≤ 4) {f : Nat → Bool} {bd : Nat → Bool} (G : GoodG n [] bd) (hst : sR (itR n [] n f) n 0 [] = stuckL n [] bd) :
    Runs Tryz.prog 0 (behind 3 T3) (sth (EO n) 252 (OO c0 ty0 k s l n f [])) fun e af => e = .normal ∧ Less 0 (sth [(7, ptrV 1)] 252 (OA c0 ty0 k s)) af := by
  have hlen := G.fit.len
  have hr := rounds3 (c0 := c0) (ty0 := ty0) (k := k) (n := n) O (by omega) (ps := []) (by omega) (fun p hp => ⟨(G.fit.pipe p hp).1, (G.fit.pipe p hp).2.1⟩) n 0 f (by omega)
  generalize itR n [] n f = g at hr hst
  have hs := stuck3 (c0 := c0) (ty0 := ty0) (k := k) (f := g) (n := n) O (by omega) (ps := []) n 0 [] (by omega) (Nat.le_refl 0)
  rw [hst] at hs
  have hG := G.stuck
  refine Runs.sq (by kernel_rfl) (Runs.sqR mixed hkU [] (by kernel_rfl) (by kernel_rfl) (by kernel_rfl) oblN (Runs.bk (id := 6) (by kernel_rfl) ?_))
  show Runs Tryz.prog 0 lpr _ _
  refine Runs.less (af1 := sth (SR n 0) 252 (OO c0 ty0 k s l n f [])) (less_seenP (clo_all (k := 5) (by kernel_rfl)) (oo_0 O) (Nat.zero_le 5) (by kernel_rfl) (by kernel_rfl) (by kernel_rfl) (by kernel_rfl)) ?_
  refine hr.mono fun e af hx => ?_
  obtain ⟨rfl, less⟩ := hx
  show Runs Tryz.prog 0 _ af _
  refine Runs.less less ?_
  refine Runs.sqR mixed hkU [] (by kernel_rfl) (by kernel_rfl) (by kernel_rfl) oblN ?_
  refine Runs.sq (by kernel_rfl) (Runs.sqR mixed hkU [] (by kernel_rfl) (by kernel_rfl) (by kernel_rfl) oblN (Runs.bk (id := 10) (by kernel_rfl) ?_))
  show Runs Tryz.prog 0 lps _ _
  refine Runs.less (af1 := sth (ST3 n 0 (stV 5 [])) 252 (OT3 c0 ty0 k s l n g [] [])) (less_seenP (clo_all (k := 5) (by kernel_rfl)) (os3_0 O) (Nat.zero_le 5) (by kernel_rfl) (by kernel_rfl) (by kernel_rfl) (by kernel_rfl)) ?_
  refine hs.mono fun e af hx => ?_
  obtain ⟨rfl, less⟩ := hx
  show Runs Tryz.prog 0 cmpC af _
  refine Runs.less less ?_
  rw [range_nil h1 h4] at hG
  rw [← hG]
  cases hr : List.range n with
  | nil => have := congrArg List.length hr; rw [List.length_range] at this; simp at this; omega
  | cons x st => exact cmp_nil O h1 h4 hr
/-- Behind the loop over the places. -/
theorem tail_cons (O : Outer c0 s l) (h1 : 1 ≤ n) (h4 : n ≤ 4) {p : Nat × Nat} {ps : List (Nat × Nat)} {f : Nat → Bool} {bd : Nat → Bool} (G : GoodG n (p :: ps) bd) (hst : sR (itR n (p :: ps) n f) n 0 [] = stuckL n (p :: ps) bd) :
    Runs Tryz.prog 0 (behind 3 T3) (sth (EO n) 252 (OO c0 ty0 k s l n f (p :: ps))) fun e af => e = .normal ∧ Less 0 (sth [(7, ptrV 1)] 252 (OA c0 ty0 k s)) af := by
  have hlen := G.fit.len
  have hr := rounds3 (c0 := c0) (ty0 := ty0) (k := k) (n := n) O (by omega) (ps := (p :: ps)) (by omega) (fun p hp => ⟨(G.fit.pipe p hp).1, (G.fit.pipe p hp).2.1⟩) n 0 f (by omega)
  generalize itR n (p :: ps) n f = g at hr hst
  have hs := stuck3 (c0 := c0) (ty0 := ty0) (k := k) (f := g) (n := n) O (by omega) (ps := (p :: ps)) n 0 [] (by omega) (Nat.le_refl 0)
  rw [hst] at hs
  have hG := G.stuck
  refine Runs.sq (by kernel_rfl) (Runs.sqR mixed hkU [] (by kernel_rfl) (by kernel_rfl) (by kernel_rfl) oblN (Runs.bk (id := 6) (by kernel_rfl) ?_))
  show Runs Tryz.prog 0 lpr _ _
  refine Runs.less (af1 := sth (SR n 0) 252 (OO c0 ty0 k s l n f (p :: ps))) (less_seenP (clo_all (k := 6) (by kernel_rfl)) (oo_1 O) (Nat.zero_le 6) (by kernel_rfl) (by kernel_rfl) (by kernel_rfl) (by kernel_rfl)) ?_
  refine hr.mono fun e af hx => ?_
  obtain ⟨rfl, less⟩ := hx
  show Runs Tryz.prog 0 _ af _
  refine Runs.less less ?_
  refine Runs.sqR mixed hkU [] (by kernel_rfl) (by kernel_rfl) (by kernel_rfl) oblN ?_
  refine Runs.sq (by kernel_rfl) (Runs.sqR mixed hkU [] (by kernel_rfl) (by kernel_rfl) (by kernel_rfl) oblN (Runs.bk (id := 10) (by kernel_rfl) ?_))
  show Runs Tryz.prog 0 lps _ _
  refine Runs.less (af1 := sth (ST3 n 0 (stV 6 [])) 252 (OT3 c0 ty0 k s l n g (p :: ps) [])) (less_seenP (clo_all (k := 6) (by kernel_rfl)) (os3_2 O) (Nat.zero_le 6) (by kernel_rfl) (by kernel_rfl) (by kernel_rfl) (by kernel_rfl)) ?_
  refine hs.mono fun e af hx => ?_
  obtain ⟨rfl, less⟩ := hx
  show Runs Tryz.prog 0 cmpC af _
  refine Runs.less less ?_
  cases hst' : stuckL n (p :: ps) bd with
  | nil => exact cmp_none O h4 G hst'
  | cons x st => exact cmp_some O h4 G hst'
/-- One look: where there are places. -/
theorem look_full (O : Outer c0 s l) (P : Plc k l) (hl : l.length = n) (h0 : 0 < n) (hk : 1 ≤ k) (hk7 : k < 8) (h6 : Says Tryz.prog (hp (OA c0 ty0 k s)) 6 [hillV k s, i64 4] (slP 2 n) ((hp (OA c0 ty0 k s)).new (rowP l)).2) {Q : AExit → AF → Prop}
    (h : ∀ af, Less 0 (sth [(7, ptrV 1)] 252 (OA c0 ty0 k s)) af → Runs Tryz.prog 0 (behind 3 In1) af Q) : Runs Tryz.prog 0 In1 (sth [(7, ptrV 1)] 252 (OA c0 ty0 k s)) Q := by
  have h4 : n ≤ 4 := by rw [← hl]; exact P.few
  refine Runs.sqR mixed hkU [viaH 1 6 [hillV k s, i64 4] (slP 2 n) ((hp (OA c0 ty0 k s)).new (rowP l)).2] (by kernel_rfl) (by kernel_rfl) (by kernel_rfl) (oblC (shown_callHE (h0 := hp (OA c0 ty0 k s)) (by kernel_rfl) (by kernel_rfl) h6) oblN) ?_
  refine Runs.sqR mixed hkU [] (by kernel_rfl) (by kernel_rfl) (by kernel_rfl) oblN (Runs.sq (by kernel_rfl) (Runs.sqR mixed hkU [] (by kernel_rfl) (by kernel_rfl) (by kernel_rfl) oblN ?_))
  refine Runs.cd (b := ltF (.ofNat 0) (.ofNat n)) (by kernel_rfl) (fun _ => ?_) (fun hf => by rw [lt_of h0] at hf; cases hf)
  show Runs Tryz.prog 0 T3 _ _
  have hmk := make_W (h := hp [ob0 c0 ty0, hillK k s, rowP l, drO n (.slice none 0 0)]) (n := n) (by omega)
  refine Runs.sqR mixed hkU [] (by kernel_rfl) (by kernel_rfl) (by kernel_rfl) oblN ?_
  refine Runs.sqR mixed hkU [⟨1, smallS 4 n n, some ((hp [ob0 c0 ty0, hillK k s, rowP l, drO n (.slice none 0 0)]).new (rowW n fun _ => false)).2, none⟩] (by kernel_rfl) (by kernel_rfl) (by kernel_rfl)
    (oblC ⟨by kernel_rfl, (show _ = makeSliceA Tryz.prog 33 (i64 n) (i64 n) (hp [ob0 c0 ty0, hillK k s, rowP l, drO n (.slice none 0 0)]) by kernel_rfl).trans hmk⟩ oblN) ?_
  have ho := outer3 (c0 := c0) (ty0 := ty0) O hl hk hk7 n 0 (fun _ => false) [] (by omega) (Nat.le_refl 0)
  subst hl
  have G := good_places P h0
  have hS := law_stuck (k := k) G.fit
  rw [oR_pipes] at ho
  generalize (oR k l l.length l.length 0 (fun _ => false) []).1 = f at ho hS
  refine Runs.sq (by kernel_rfl) (Runs.sqR mixed hkU [] (by kernel_rfl) (by kernel_rfl) (by kernel_rfl) oblN (Runs.bk (id := 2) (by kernel_rfl) ?_))
  show Runs Tryz.prog 0 lpo _ _
  refine Runs.less (af1 := sth (SO l.length 0) 252 (OO c0 ty0 k s l l.length (fun _ => false) [])) (less_seenP (clo_all (k := 5) (by kernel_rfl)) (oo_0 O) (Nat.zero_le 5) (by kernel_rfl) (by kernel_rfl) (by kernel_rfl) (by kernel_rfl)) ?_
  refine ho.mono fun e af hx => ?_
  obtain ⟨rfl, less⟩ := hx
  show Runs Tryz.prog 0 (behind 3 T3) af _
  refine Runs.less less ?_
  generalize pipesP k l = ps at G hS
  cases ps with
  | nil =>
    refine (tail_nil (c0 := c0) (ty0 := ty0) (k := k) O h0 h4 G hS).mono fun e af hx => ?_
    obtain ⟨rfl, less⟩ := hx
    exact h af less
  | cons p ps =>
    refine (tail_cons (c0 := c0) (ty0 := ty0) (k := k) O h0 h4 G hS).mono fun e af hx => ?_
    obtain ⟨rfl, less⟩ := hx
    exact h af less
/-- One look: where there is no place. -/
theorem look_empty (O : Outer c0 s []) (h6 : Says Tryz.prog (hp (OA c0 ty0 k s)) 6 [hillV k s, i64 4] (.slice none 0 0) (hp (OA c0 ty0 k s))) {Q : AExit → AF → Prop}
    (h : ∀ af, Less 0 (sth [(7, ptrV 1)] 252 (OA c0 ty0 k s)) af → Runs Tryz.prog 0 (behind 3 In1) af Q) : Runs Tryz.prog 0 In1 (sth [(7, ptrV 1)] 252 (OA c0 ty0 k s)) Q := by
  refine Runs.sqR mixed hkU [viaC 1 6 [hillV k s, i64 4] (.slice none 0 0)] (by kernel_rfl) (by kernel_rfl) (by kernel_rfl) (oblC (shown_callE (h0 := hp (OA c0 ty0 k s)) (by kernel_rfl) (by kernel_rfl) h6) oblN) ?_
  refine Runs.sqR mixed hkU [] (by kernel_rfl) (by kernel_rfl) (by kernel_rfl) oblN (Runs.sq (by kernel_rfl) (Runs.sqR mixed hkU [] (by kernel_rfl) (by kernel_rfl) (by kernel_rfl) oblN ?_))
  refine Runs.cd (b := false) (by kernel_rfl) (fun h => by cases h) (fun _ => Runs.now (x := .normal) (by kernel_rfl) ?_)
  show Runs Tryz.prog 0 _ _ _
  exact h _ (less_seenP (clo_all (k := 2) (by kernel_rfl)) (oa_clo O) (Nat.zero_le 2) (by kernel_rfl) (by kernel_rfl) (by kernel_rfl) (by kernel_rfl))
end
end
end Go.Proofs.YtbcjmmbmeebfgaaGreatDoor
