/- TopNarrowed: its first loop, which builds the results and the galleries. -/
import Derived.Test.YtbcjmmbmeebfgaaGreatDoorSNarrowedUG9
namespace Go.Proofs.YtbcjmmbmeebfgaaGreatDoor
set_option linter.unusedVariables false
set_option linter.unusedSimpArgs false
open Go Go.R
set_option maxRecDepth 1000000
noncomputable section

noncomputable def u8 (n : Nat) : Value := .int .u8 (.ofNat n)
noncomputable def arrC (b : Nat → Nat) : List Value := valsZ 8 fun i => u8 (b i)
noncomputable def arrV (b : Nat → Nat) : Value := .agg #[u8 (b 0), u8 (b 1), u8 (b 2), u8 (b 3), u8 (b 4), u8 (b 5), u8 (b 6), u8 (b 7)]
noncomputable def arrO (b : Nat → Nat) : AObj := .cells [u8 (b 0), u8 (b 1), u8 (b 2), u8 (b 3), u8 (b 4), u8 (b 5), u8 (b 6), u8 (b 7)] true [] (some 51)
theorem arr_plain (b : Nat → Nat) : ∀ v ∈ arrC b, plainV v = true := valsZ_plain fun i _ => rfl
noncomputable def fN (m : Nat) (b : Nat → Nat) (i : Nat) : Nat := 1 + b i / 2 % (m + 1)
noncomputable def gN (b : Nat → Nat) (i : Nat) : Bool := Nat.beq (b i % 2) 1
noncomputable def slG (j c : Nat) : Value := .slice (some ⟨j, 0, some 3⟩) c c
noncomputable def rowGs (c : Nat) (A B C : Nat → Int) : AObj := .cells (galsC c A B C) true [] (some 53)
noncomputable def rowRs (i : Nat) (f : Nat → Nat) (g : Nat → Bool) : AObj := .cells (resC i f g) true [] (some 57)
noncomputable def hillS (k j c : Nat) : AObj := .cells [i64 k, slG j c] true [] (some 26)
noncomputable def hillZ (k : Nat) : AObj := .cells [i64 k, smallS 1 1 1] true [] (some 26)
noncomputable def rowG0 : AObj := .cells [iZ 0, iZ 1, iZ 0] true [] (some 53)
noncomputable def Os40 (m : Nat) (b : Nat → Nat) : List AObj := [arrO b, rowG0, hillZ (m + 2)]
noncomputable def Os4 (m : Nat) (b : Nat → Nat) (i : Nat) : List AObj := [arrO b, rowGs (i + 1) (nA (gN b)) nB (nC (fN m b) (gN b)), hillS (m + 2) 1 (i + 1), rowRs i (fN m b) (gN b)]
theorem os4_clo {m i : Nat} {b : Nat → Nat} : ∀ o ∈ Os4 m b i, CloO 4 o := fun o ho => by
  simp only [Os4, List.mem_cons, List.mem_nil_iff, or_false] at ho
  rcases ho with rfl | rfl | rfl | rfl
  · exact cloO_plain (arr_plain b) _ _
  · exact cloO_plain galsC_plain _ _
  · refine ⟨fun v hv => ?_, fun j hj => by cases hj⟩
    simp only [List.mem_cons, List.mem_nil_iff, or_false] at hv
    rcases hv with rfl | rfl <;> exact clo_of 10 _ _ (by kernel_rfl)
  · exact cloO_plain resC_plain _ _
theorem os40_clo {m : Nat} {b : Nat → Nat} : ∀ o ∈ Os40 m b, CloO 3 o := fun o ho => by
  simp only [Os40, List.mem_cons, List.mem_nil_iff, or_false] at ho
  rcases ho with rfl | rfl | rfl
  · exact cloO_plain (arr_plain b) _ _
  · exact cloO_plain (fun v hv => by simp only [List.mem_cons, List.mem_nil_iff, or_false] at hv; rcases hv with rfl | rfl | rfl <;> rfl) _ _
  · refine ⟨fun v hv => ?_, fun j hj => by cases hj⟩
    simp only [List.mem_cons, List.mem_nil_iff, or_false] at hv
    rcases hv with rfl | rfl <;> exact clo_of 10 _ _ (by kernel_rfl)
theorem conv_i {x : Nat} (h : x < 1000) : IntKind.wrap .i64 (.ofNat x) = .ofNat x := by rw [← wrapF_eq]; exact wrap_ofNat (by omega)
theorem rem_i (a m : Nat) : intBin .rem .i64 (.ofNat a) (.ofNat (m + 1)) = some (i64 (a % (m + 1))) := by
  show (if (Int.ofNat (m + 1)) = 0 then none else some (Value.int .i64 (Int.tmod (.ofNat a) (.ofNat (m + 1))))) = _
  rw [if_neg (by intro h; cases h)]
  rfl
theorem rem_u (a m : Nat) : intBin .rem .u8 (.ofNat a) (.ofNat (m + 1)) = some (u8 (a % (m + 1))) := by
  show (if (Int.ofNat (m + 1)) = 0 then none else some (Value.int .u8 (Int.tmod (.ofNat a) (.ofNat (m + 1))))) = _
  rw [if_neg (by intro h; cases h)]
  rfl
theorem quo_i {a : Nat} (m : Nat) (h : a < 1000) : intBin .quo .i64 (.ofNat a) (.ofNat (m + 1)) = some (i64 (a / (m + 1))) := by
  show (if (Int.ofNat (m + 1)) = 0 then none else some (Value.int .i64 (wrapF .i64 (Int.tdiv (.ofNat a) (.ofNat (m + 1)))))) = _
  rw [if_neg (by intro h; cases h)]
  show some (Value.int .i64 (wrapF .i64 (.ofNat (a / (m + 1))))) = _
  have : a / (m + 1) ≤ a := Nat.div_le_self _ _
  rw [wrap_ofNat (by omega)]
  rfl
theorem one_add {x : Nat} (h : x < 1000) : wrapF .i64 (Int.add (.ofNat 1) (.ofNat x)) = .ofNat (1 + x) := wrap_ofNat (k := 1 + x) (by omega)
theorem obs_gals {ρ : Nat → Nat} {q c : Nat} {A B C : Nat → Int} {p : List Nat} {x : AObj} {l : List Value} (e : x = .cells l true p (some 53)) (el : l = galsC c A B C) : RenO ρ q x (rowGs c A B C) := RenO.row (c := galsC c A B C) (lv := true) (p := p) (ty := some 53) (el ▸ e) galsC_plain (fun h => h) (.inr rfl)
theorem obs_res {ρ : Nat → Nat} {q i : Nat} {f : Nat → Nat} {g : Nat → Bool} {p : List Nat} {x : AObj} {l : List Value} (e : x = .cells l true p (some 57)) (el : l = resC i f g) : RenO ρ q x (rowRs i f g) := RenO.row (c := resC i f g) (lv := true) (p := p) (ty := some 57) (el ▸ e) resC_plain (fun h => h) (.inr rfl)
theorem obs_arr {ρ : Nat → Nat} {q : Nat} {b : Nat → Nat} : RenO ρ q (arrO b) (arrO b) := RenO.row (c := arrC b) (lv := true) (p := []) (ty := some 51) rfl (arr_plain b) (fun h => h) (.inr rfl)
theorem gals_t {m i : Nat} {b : Nat → Nat} (h : gN b i = true) : galsC (i + 1) (nA (gN b)) nB (nC (fN m b) (gN b)) ++ [iZ 1, iZ 0, i64 (fN m b i - 1)] = galsC (i + 2) (nA (gN b)) nB (nC (fN m b) (gN b)) := by
  unfold galsC
  rw [← tripZ_succ (i + 1)]
  rw [nA_t h, nC_t h]
  rfl
theorem gals_f {m i : Nat} {b : Nat → Nat} (h : gN b i = false) : galsC (i + 1) (nA (gN b)) nB (nC (fN m b) (gN b)) ++ [iZ (-1), iZ 0, iZ (-((fN m b i : Nat) : Int))] = galsC (i + 2) (nA (gN b)) nB (nC (fN m b) (gN b)) := by
  unfold galsC
  rw [← tripZ_succ (i + 1)]
  rw [nA_f h, nC_f h]
  rfl
theorem res_add {m i : Nat} {b : Nat → Nat} : resC i (fN m b) (gN b) ++ [i64 (fN m b i), .bool (gN b i)] = resC (i + 1) (fN m b) (gN b) := by
  unfold resC
  rw [rows2_succ]
theorem res_info : ∃ info, Tryz.prog.info? 57 = some info ∧ info.size = 1 + 1 ∧ (decide (info.bytes > 1000000) || !zfit info) = false := ⟨(Tryz.prog.info? 57).get!, by kernel_rfl, by kernel_rfl, by kernel_rfl⟩
theorem gal_info : ∃ info, Tryz.prog.info? 53 = some info ∧ info.size = 2 + 1 ∧ (decide (info.bytes > 1000000) || !zfit info) = false := ⟨(Tryz.prog.info? 53).get!, by kernel_rfl, by kernel_rfl, by kernel_rfl⟩

noncomputable def c4 : Code := bodyOf Tryz.f4
noncomputable def lp4 : Code := within (tl (hd (behind 4 c4)))
noncomputable def S4 (m q i : Nat) : List (Nat × Value) := [(7, i64 (m + 1)), (8, ptrV 2), (9, slP 3 i), (39, smallS 0 q 8), (40, i64 q), (41, i64 i)]
noncomputable def S40 (m q : Nat) : List (Nat × Value) := [(7, i64 (m + 1)), (8, ptrV 2), (9, .slice none 0 0), (39, smallS 0 q 8), (40, i64 q), (41, i64 0)]
end
end Go.Proofs.YtbcjmmbmeebfgaaGreatDoor

/- TopNarrowed: its first loop, step by step. -/
namespace Go.Proofs.YtbcjmmbmeebfgaaGreatDoor
set_option linter.unusedVariables false
set_option linter.unusedSimpArgs false
open Go Go.R
set_option maxRecDepth 1000000
noncomputable section
theorem neg_i {x : Nat} (h : x < 1000) : unA .neg (i64 x) = some (iZ (-((x : Nat) : Int))) := by
  show some (Value.int .i64 (IntKind.wrap .i64 (0 - (x : Int)))) = _
  rw [← wrapF_eq, wrapS (by omega) (by omega)]
  show some (Value.int .i64 (0 - (x : Int))) = some (Value.int .i64 (-(x : Int)))
  rw [Int.zero_sub]
theorem fN_fit {m : Nat} (hm : m < 6) (b : Nat → Nat) (q : Nat) : FitR (m + 1) q (fN m b) := fun i _ => by
  unfold fN
  have : b i / 2 % (m + 1) < m + 1 := Nat.mod_lt _ (by omega)
  omega
theorem fN_lt {m : Nat} (hm : m < 6) (b : Nat → Nat) (i : Nat) : fN m b i < 8 ∧ 1 ≤ fN m b i := by
  have := fN_fit hm b (i + 1) i (by omega)
  omega
theorem arr_at {h : AH} {b : Nat → Nat} {i : Nat} (hg : h.get 0 = arrO b) (hi : i < 8) : rowAt? h 0 (0 + i * 1) 1 = some [u8 (b i)] := valsZ_at (q := 0) (n := 8) (g := fun i => u8 (b i)) (lv := true) (par := []) (ty := some 51) hg hi

/-- The first element. -/
theorem narrow_first {m q : Nat} {b : Nat → Nat} (hm : m < 6) (hq : 0 < q) (hq8 : q < 9) (hb : ∀ i, i < 8 → b i < 256) {Q : AExit → AF → Prop}
    (h : Runs Tryz.prog 0 lp4 (sth (S4 m q 1) 188 (Os4 m b 1)) Q) : Runs Tryz.prog 0 lp4 (sth (S40 m q) 188 (Os40 m b)) Q := by
  have hb0 := hb 0 (by decide)
  obtain ⟨hf8, hf1⟩ := fN_lt hm b 0
  have hd : b 0 / 2 ≤ b 0 := Nat.div_le_self _ _
  have hr : b 0 / 2 % (m + 1) ≤ b 0 / 2 := Nat.mod_le _ _
  refine Runs.lp (by kernel_rfl) (Runs.sqR mixed hkU [] (by kernel_rfl) (by kernel_rfl) (by kernel_rfl) oblN (Runs.sq (by kernel_rfl) ?_))
  refine Runs.cd (b := ltF (.ofNat 0) (.ofNat q)) (by kernel_rfl) (fun _ => Runs.now (x := .normal) (by kernel_rfl) ?_) (fun hf => by rw [lt_of hq] at hf; cases hf)
  show Runs Tryz.prog 0 _ _ _
  refine Runs.sq (by kernel_rfl) (Runs.bk (id := 1) (by kernel_rfl) ?_)
  refine Runs.sqR mixed hkU [viaV 0 (.pointer (some ⟨0, 0 + 0 * 1, none⟩)), viaV 1 (u8 (b 0))] (by kernel_rfl) (by kernel_rfl) (by kernel_rfl)
    (oblC (shown_idx (n := q) (by kernel_rfl) hq) (oblC (shown_cell (by kernel_rfl) (arr_at (i := 0) (by kernel_rfl) (by decide))) oblN)) ?_
  refine Runs.sqR mixed hkU [viaV 1 (i64 (b 0)), viaV 2 (i64 (b 0 / 2)), viaV 4 (i64 (b 0 / 2 % (m + 1))), viaV 5 (i64 (fN m b 0)), viaV 7 (u8 (b 0 % 2)), viaV 8 (.bool (gN b 0))] (by kernel_rfl) (by kernel_rfl) (by kernel_rfl)
    (oblC (shown_eq (v := .int .i64 (IntKind.wrap .i64 (.ofNat (b 0)))) (by kernel_rfl) (by kernel_rfl) (by rw [conv_i (by omega)]; rfl))
    (oblC ⟨by kernel_rfl, (show _ = (intBin .quo .i64 (.ofNat (b 0)) (.ofNat (1 + 1))).map (·, _) by kernel_rfl).trans (by rw [quo_i 1 (by omega)]; rfl)⟩
    (oblC ⟨by kernel_rfl, (show _ = (intBin .rem .i64 (.ofNat (b 0 / 2)) (.ofNat (m + 1))).map (·, _) by kernel_rfl).trans (by rw [rem_i]; rfl)⟩
    (oblC (shown_eq (v := .int .i64 (wrapF .i64 (Int.add (.ofNat 1) (.ofNat (b 0 / 2 % (m + 1)))))) (by kernel_rfl) (by kernel_rfl) (by rw [one_add (by omega)]; rfl))
    (oblC ⟨by kernel_rfl, (show _ = (intBin .rem .u8 (.ofNat (b 0)) (.ofNat (1 + 1))).map (·, _) by kernel_rfl).trans (by rw [rem_u]; rfl)⟩
    (oblC (shown_eq (v := .bool (eqF (.ofNat (b 0 % 2)) (.ofNat 1))) (by kernel_rfl) (by kernel_rfl) (by rw [eqF_nat]; rfl)) oblN)))))) ?_
  generalize ef : fN m b 0 = f0 at hf8 hf1
  generalize eg : gN b 0 = g0
  refine Runs.sqR mixed hkU [] (by kernel_rfl) (by kernel_rfl) (by kernel_rfl) oblN ?_
  refine Runs.sqR mixed hkU [] (by kernel_rfl) (by kernel_rfl) (by kernel_rfl) oblN ?_
  have e0 : galsC 1 (nA (gN b)) nB (nC (fN m b) (gN b)) = [iZ 0, iZ 1, iZ 0] := rfl
  have er : [i64 f0, .bool g0] = resC 1 (fN m b) (gN b) := by rw [← ef, ← eg]; rfl
  refine Runs.cd (b := g0) (by kernel_rfl) (fun ht => ?_) (fun hf => ?_)
  · subst ht
    have e2 := gals_t (m := m) (i := 0) eg
    rw [e0, ef] at e2
    refine Runs.rg mixed hkU [viaV 4 (i64 (f0 - 1))] (by kernel_rfl) (by kernel_rfl) (by kernel_rfl)
      (oblC (shown_eq (v := .int .i64 (wrapF .i64 (Int.sub (.ofNat f0) (.ofNat 1)))) (by kernel_rfl) (by kernel_rfl) (by rw [wrap_pred hf1 (by omega)]; rfl)) oblN) ?_
    show Runs Tryz.prog 0 _ _ _
    refine Runs.rg mixed hkU [] (by kernel_rfl) (by kernel_rfl) (by kernel_rfl) oblN ?_
    show Runs Tryz.prog 0 lp4 _ _
    exact Runs.renumK (sz := 188) (l := S4 m q 1) (os := Os4 m b 1) (fun j => match j with | 1 => 7 | 3 => 5 | j => j) (fun j => match j with | 7 => 1 | 5 => 3 | j => j) (by kernel_rfl) (Nat.zero_le 4) (by kernel_rfl) fix0 (by kernel_rfl) (by kernel_rfl) (by kernel_rfl) (by kernel_rfl)
      (obsL [arrO b, .cells [iZ 0, iZ 1, iZ 0, iZ 1, iZ 0, i64 (f0 - 1)] true [] (some 53), hillS (m + 2) 7 2, .cells [i64 f0, .bool true] true [] (some 57)] (by kernel_rfl)
        ⟨obs_arr, obs_gals rfl e2, RenO.of (σ := fun j => match j with | 7 => 1 | 5 => 3 | j => j) rfl rfl, obs_res rfl er, trivial⟩) h
  · subst hf
    have e2 := gals_f (m := m) (i := 0) eg
    rw [e0, ef] at e2
    refine Runs.rg mixed hkU [viaV 4 (iZ (-((f0 : Nat) : Int)))] (by kernel_rfl) (by kernel_rfl) (by kernel_rfl)
      (oblC ⟨by kernel_rfl, (show _ = (unA .neg (i64 f0)).map (·, _) by kernel_rfl).trans (by rw [neg_i (by omega)]; rfl)⟩ oblN) ?_
    show Runs Tryz.prog 0 _ _ _
    refine Runs.rg mixed hkU [] (by kernel_rfl) (by kernel_rfl) (by kernel_rfl) oblN ?_
    show Runs Tryz.prog 0 lp4 _ _
    exact Runs.renumK (sz := 188) (l := S4 m q 1) (os := Os4 m b 1) (fun j => match j with | 1 => 7 | 3 => 5 | j => j) (fun j => match j with | 7 => 1 | 5 => 3 | j => j) (by kernel_rfl) (Nat.zero_le 4) (by kernel_rfl) fix0 (by kernel_rfl) (by kernel_rfl) (by kernel_rfl) (by kernel_rfl)
      (obsL [arrO b, .cells [iZ 0, iZ 1, iZ 0, iZ (-1), iZ 0, iZ (-((f0 : Nat) : Int))] true [] (some 53), hillS (m + 2) 7 2, .cells [i64 f0, .bool false] true [] (some 57)] (by kernel_rfl)
        ⟨obs_arr, obs_gals rfl e2, RenO.of (σ := fun j => match j with | 7 => 1 | 5 => 3 | j => j) rfl rfl, obs_res rfl er, trivial⟩) h

/-- All further ones. -/
theorem narrow_loop {m q : Nat} {b : Nat → Nat} (hm : m < 6) (hq8 : q < 9) (hb : ∀ i, i < 8 → b i < 256) : ∀ d i, i + d = q → 0 < i →
    Runs Tryz.prog 0 lp4 (sth (S4 m q i) 188 (Os4 m b i)) fun e af => e = .exit 0 ∧ Less 0 (sth [(7, i64 (m + 1)), (8, ptrV 2), (9, slP 3 q)] 188 (Os4 m b q)) af := by
  intro d
  induction d with
  | zero =>
    intro i hi _
    have e : i = q := by omega
    subst e
    refine Runs.lp (by kernel_rfl) (Runs.sqR mixed hkU [] (by kernel_rfl) (by kernel_rfl) (by kernel_rfl) oblN (Runs.sq (by kernel_rfl) ?_))
    refine Runs.cd (b := ltF (.ofNat i) (.ofNat i)) (by kernel_rfl) (fun ht => by rw [lt_self] at ht; cases ht) (fun _ => Runs.now (x := .exit 0) (by kernel_rfl) ⟨rfl, ?_⟩)
    exact less_seenP (clo_all (k := 4) (by kernel_rfl)) os4_clo (Nat.zero_le 4) (by kernel_rfl) (by kernel_rfl) (by kernel_rfl) (by kernel_rfl)
  | succ d ih =>
    intro i hi h0
    have hlt : i < q := by omega
    have hi8 : i < 8 := by omega
    have hbi := hb i hi8
    obtain ⟨hf8, hf1⟩ := fN_lt hm b i
    have hd : b i / 2 ≤ b i := Nat.div_le_self _ _
    have hr : b i / 2 % (m + 1) ≤ b i / 2 := Nat.mod_le _ _
    have hih := ih (i + 1) (by omega) (by omega)
    refine Runs.lp (by kernel_rfl) (Runs.sqR mixed hkU [] (by kernel_rfl) (by kernel_rfl) (by kernel_rfl) oblN (Runs.sq (by kernel_rfl) ?_))
    refine Runs.cd (b := ltF (.ofNat i) (.ofNat q)) (by kernel_rfl) (fun _ => Runs.now (x := .normal) (by kernel_rfl) ?_) (fun hf => by rw [lt_of hlt] at hf; cases hf)
    show Runs Tryz.prog 0 _ _ _
    refine Runs.sq (by kernel_rfl) (Runs.bk (id := 1) (by kernel_rfl) ?_)
    refine Runs.sqR mixed hkU [viaV 0 (.pointer (some ⟨0, 0 + i * 1, none⟩)), viaV 1 (u8 (b i))] (by kernel_rfl) (by kernel_rfl) (by kernel_rfl)
      (oblC (shown_idx (n := q) (by kernel_rfl) hlt) (oblC (shown_cell (by kernel_rfl) (arr_at (by kernel_rfl) hi8)) oblN)) ?_
    refine Runs.sqR mixed hkU [viaV 1 (i64 (b i)), viaV 2 (i64 (b i / 2)), viaV 4 (i64 (b i / 2 % (m + 1))), viaV 5 (i64 (fN m b i)), viaV 7 (u8 (b i % 2)), viaV 8 (.bool (gN b i))] (by kernel_rfl) (by kernel_rfl) (by kernel_rfl)
      (oblC (shown_eq (v := .int .i64 (IntKind.wrap .i64 (.ofNat (b i)))) (by kernel_rfl) (by kernel_rfl) (by rw [conv_i (by omega)]; rfl))
      (oblC ⟨by kernel_rfl, (show _ = (intBin .quo .i64 (.ofNat (b i)) (.ofNat (1 + 1))).map (·, _) by kernel_rfl).trans (by rw [quo_i 1 (by omega)]; rfl)⟩
      (oblC ⟨by kernel_rfl, (show _ = (intBin .rem .i64 (.ofNat (b i / 2)) (.ofNat (m + 1))).map (·, _) by kernel_rfl).trans (by rw [rem_i]; rfl)⟩
      (oblC (shown_eq (v := .int .i64 (wrapF .i64 (Int.add (.ofNat 1) (.ofNat (b i / 2 % (m + 1)))))) (by kernel_rfl) (by kernel_rfl) (by rw [one_add (by omega)]; rfl))
      (oblC ⟨by kernel_rfl, (show _ = (intBin .rem .u8 (.ofNat (b i)) (.ofNat (1 + 1))).map (·, _) by kernel_rfl).trans (by rw [rem_u]; rfl)⟩
      (oblC (shown_eq (v := .bool (eqF (.ofNat (b i % 2)) (.ofNat 1))) (by kernel_rfl) (by kernel_rfl) (by rw [eqF_nat]; rfl)) oblN)))))) ?_
    generalize ef : fN m b i = f0 at hf8 hf1
    generalize eg : gN b i = g0
    have er : resC i (fN m b) (gN b) ++ [i64 f0, .bool g0] = resC (i + 1) (fN m b) (gN b) := by rw [← ef, ← eg]; exact res_add
    -- the append of the result
    let H0 : AH := hp (Os4 m b i)
    let H1 : AH := (H0.new (.cells [i64 f0, .bool g0] true [] (some 57))).2
    let H2 : AH := (H1.new (.cells [i64 f0, .bool g0] true [] (some 57))).2
    have hap := push_gen (st := 54) (e := 57) (z := 1) (by kernel_rfl) res_info (h := H2) (i := 3) (j := 5) (x := [i64 f0, .bool g0]) (c := resC i (fN m b) (gN b)) (m := i) (par := []) rfl rfl (by rw [resC_len]) (by omega) (by kernel_rfl) (by kernel_rfl)
    let H3 : AH := ((H2.put 3 (.cells (resC i (fN m b) (gN b)) false [] (some 57))).new (.cells (resC i (fN m b) (gN b) ++ [i64 f0, .bool g0]) true [3] (some 57))).2
    refine Runs.sqR mixed hkU [⟨3, slP 6 (i + 1), some H3, none⟩] (by kernel_rfl) (by kernel_rfl) (by kernel_rfl)
      (oblC ⟨by kernel_rfl, (show _ = appendA Tryz.prog #[54, 54] (.slice (some ⟨3, 0, some 2⟩) i i) (.slice (some ⟨5, 0, none⟩) 1 1) H2 by kernel_rfl).trans hap⟩ oblN) ?_
    refine Runs.sqR mixed hkU [] (by kernel_rfl) (by kernel_rfl) (by kernel_rfl) oblN ?_
    refine Runs.cd (b := g0) (by kernel_rfl) (fun ht => ?_) (fun hf => ?_)
    · subst ht
      have e2 := gals_t (m := m) (i := i) eg
      rw [ef] at e2
      let H4 : AH := (H3.new (.cells [iZ 1, iZ 0, i64 (f0 - 1)] true [] (some 53))).2
      have hap2 := push_gen (st := 24) (e := 53) (z := 2) (by kernel_rfl) gal_info (h := H4) (i := 1) (j := 7) (x := [iZ 1, iZ 0, i64 (f0 - 1)]) (c := galsC (i + 1) (nA (gN b)) nB (nC (fN m b) (gN b))) (m := i + 1) (par := []) rfl rfl (tripZ_len _ _ _ _) (by omega) (by kernel_rfl) (by kernel_rfl)
      let H5 : AH := ((H4.put 1 (.cells (galsC (i + 1) (nA (gN b)) nB (nC (fN m b) (gN b))) false [] (some 53))).new (.cells (galsC (i + 1) (nA (gN b)) nB (nC (fN m b) (gN b)) ++ [iZ 1, iZ 0, i64 (f0 - 1)]) true [1] (some 53))).2
      refine Runs.rg mixed hkU [viaV 4 (i64 (f0 - 1)), ⟨7, slG 8 (i + 1 + 1), some H5, none⟩] (by kernel_rfl) (by kernel_rfl) (by kernel_rfl)
        (oblC (shown_eq (v := .int .i64 (wrapF .i64 (Int.sub (.ofNat f0) (.ofNat 1)))) (by kernel_rfl) (by kernel_rfl) (by rw [wrap_pred hf1 (by omega)]; rfl))
        (oblC ⟨by kernel_rfl, (show _ = appendA Tryz.prog #[24, 24] (.slice (some ⟨1, 0, some 3⟩) (i + 1) (i + 1)) (.slice (some ⟨7, 0, none⟩) 1 1) H4 by kernel_rfl).trans hap2⟩ oblN)) ?_
      show Runs Tryz.prog 0 _ _ _
      refine Runs.rg mixed hkU [viaV 0 (i64 (i + 1))] (by kernel_rfl) (by kernel_rfl) (by kernel_rfl) (oblC (shown_eq (v := .int .i64 (wrapF .i64 (Int.add (.ofNat i) (.ofNat 1)))) (by kernel_rfl) (by kernel_rfl) (by rw [wrap_succ (by omega)]; rfl)) oblN) ?_
      show Runs Tryz.prog 0 lp4 _ _
      exact Runs.renumK (sz := 188) (l := S4 m q (i + 1)) (os := Os4 m b (i + 1)) (fun j => match j with | 1 => 8 | 3 => 6 | j => j) (fun j => match j with | 8 => 1 | 6 => 3 | j => j) (by kernel_rfl) (Nat.zero_le 4) (by kernel_rfl) fix0 (by kernel_rfl) (by kernel_rfl) (by kernel_rfl) (by kernel_rfl)
        (obsL [arrO b, .cells (galsC (i + 1) (nA (gN b)) nB (nC (fN m b) (gN b)) ++ [iZ 1, iZ 0, i64 (f0 - 1)]) true [1] (some 53), hillS (m + 2) 8 (i + 2), .cells (resC i (fN m b) (gN b) ++ [i64 f0, .bool true]) true [3] (some 57)] (by kernel_rfl)
          ⟨obs_arr, obs_gals rfl e2, RenO.of (σ := fun j => match j with | 8 => 1 | 6 => 3 | j => j) rfl rfl, obs_res rfl er, trivial⟩) hih
    · subst hf
      have e2 := gals_f (m := m) (i := i) eg
      rw [ef] at e2
      let H4 : AH := (H3.new (.cells [iZ (-1), iZ 0, iZ (-((f0 : Nat) : Int))] true [] (some 53))).2
      have hap2 := push_gen (st := 24) (e := 53) (z := 2) (by kernel_rfl) gal_info (h := H4) (i := 1) (j := 7) (x := [iZ (-1), iZ 0, iZ (-((f0 : Nat) : Int))]) (c := galsC (i + 1) (nA (gN b)) nB (nC (fN m b) (gN b))) (m := i + 1) (par := []) rfl rfl (tripZ_len _ _ _ _) (by omega) (by kernel_rfl) (by kernel_rfl)
      let H5 : AH := ((H4.put 1 (.cells (galsC (i + 1) (nA (gN b)) nB (nC (fN m b) (gN b))) false [] (some 53))).new (.cells (galsC (i + 1) (nA (gN b)) nB (nC (fN m b) (gN b)) ++ [iZ (-1), iZ 0, iZ (-((f0 : Nat) : Int))]) true [1] (some 53))).2
      refine Runs.rg mixed hkU [viaV 4 (iZ (-((f0 : Nat) : Int))), ⟨7, slG 8 (i + 1 + 1), some H5, none⟩] (by kernel_rfl) (by kernel_rfl) (by kernel_rfl)
        (oblC ⟨by kernel_rfl, (show _ = (unA .neg (i64 f0)).map (·, _) by kernel_rfl).trans (by rw [neg_i (by omega)]; rfl)⟩
        (oblC ⟨by kernel_rfl, (show _ = appendA Tryz.prog #[24, 24] (.slice (some ⟨1, 0, some 3⟩) (i + 1) (i + 1)) (.slice (some ⟨7, 0, none⟩) 1 1) H4 by kernel_rfl).trans hap2⟩ oblN)) ?_
      show Runs Tryz.prog 0 _ _ _
      refine Runs.rg mixed hkU [viaV 0 (i64 (i + 1))] (by kernel_rfl) (by kernel_rfl) (by kernel_rfl) (oblC (shown_eq (v := .int .i64 (wrapF .i64 (Int.add (.ofNat i) (.ofNat 1)))) (by kernel_rfl) (by kernel_rfl) (by rw [wrap_succ (by omega)]; rfl)) oblN) ?_
      show Runs Tryz.prog 0 lp4 _ _
      exact Runs.renumK (sz := 188) (l := S4 m q (i + 1)) (os := Os4 m b (i + 1)) (fun j => match j with | 1 => 8 | 3 => 6 | j => j) (fun j => match j with | 8 => 1 | 6 => 3 | j => j) (by kernel_rfl) (Nat.zero_le 4) (by kernel_rfl) fix0 (by kernel_rfl) (by kernel_rfl) (by kernel_rfl) (by kernel_rfl)
        (obsL [arrO b, .cells (galsC (i + 1) (nA (gN b)) nB (nC (fN m b) (gN b)) ++ [iZ (-1), iZ 0, iZ (-((f0 : Nat) : Int))]) true [1] (some 53), hillS (m + 2) 8 (i + 2), .cells (resC i (fN m b) (gN b) ++ [i64 f0, .bool false]) true [3] (some 57)] (by kernel_rfl)
          ⟨obs_arr, obs_gals rfl e2, RenO.of (σ := fun j => match j with | 8 => 1 | 6 => 3 | j => j) rfl rfl, obs_res rfl er, trivial⟩) hih
end
end Go.Proofs.YtbcjmmbmeebfgaaGreatDoor
