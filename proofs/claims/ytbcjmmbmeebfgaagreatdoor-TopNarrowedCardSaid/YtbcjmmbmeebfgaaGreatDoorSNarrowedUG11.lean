/- TopNarrowed: behind its first loop, where results contradict each other. -/
import Derived.Test.YtbcjmmbmeebfgaaGreatDoorSNarrowedUG10
namespace Go.Proofs.YtbcjmmbmeebfgaaGreatDoor
set_option linter.unusedVariables false
set_option linter.unusedSimpArgs false
open Go Go.R
set_option maxRecDepth 1000000
noncomputable section
noncomputable def E4 (m q : Nat) : List (Nat × Value) := [(7, i64 (m + 1)), (8, ptrV 2), (9, slP 3 q)]
noncomputable def hv (m q : Nat) : Value := hillV (m + 2) (slG 1 (q + 1))
theorem sees_r {m q : Nat} {b : Nat → Nat} {h : AH} (e : h.get 3 = rowRs q (fN m b) (gN b)) : Sees h ⟨3, 0, q, resC q (fN m b) (gN b)⟩ (slP 3 q) := sees_row (z := 1) e resC_plain
theorem sees_g {m q : Nat} {b : Nat → Nat} {h : AH} (e : h.get 1 = rowGs (q + 1) (nA (gN b)) nB (nC (fN m b) (gN b))) : SeesG h (slG 1 (q + 1)) (q + 1) (nA (gN b)) nB (nC (fN m b) (gN b)) := ⟨1, 0, sees_row (z := 2) e galsC_plain⟩
theorem leN_true {a b : Nat} (h : a ≤ b) : leF (.ofNat a) (.ofNat b) = true := leF_true (by show (a : Int) ≤ (b : Int); omega)

theorem narrow_clash {m q : Nat} {b : Nat → Nat} (hm : m < 6) (hq0 : 0 < q) (hq : q < 9) (hlt : highN (m + 1) (fN m b) (gN b) q < lowN (fN m b) (gN b) q) :
    Runs Tryz.prog 0 (behind 5 c4) (sth (E4 m q) 188 (Os4 m b q)) (EndsAs Tryz.prog Tryz.f4 fun v' _ => v' = .bool true) := by
  have F := fN_fit hm b q
  obtain ⟨x, y, hw, hxy, hy, hC⟩ := why_some F hlt
  have hrs := regS_pair (L := m + 1) F (by omega) hxy hy hC
  obtain ⟨t, ht, htl⟩ := st_short (m := q + 1) (show x + 1 < y + 1 by omega) (by omega) (by omega) hrs
  have hr0 := (reg_zero (L := m + 1) (by omega) F).2 hlt
  have G := gals_n (L := m + 1) (g := gN b) (by omega) F
  have hk : knownV (lowN (fN m b) (gN b) q) (highN (m + 1) (fN m b) (gN b) q) = .tuple #[i64 0, i64 0, i64 12] := by unfold knownV; rw [if_pos (blt_iff.2 hlt)]
  have sK : ∀ {h : AH}, h.get 3 = rowRs q (fN m b) (gN b) → Says Tryz.prog h 16 [i64 (m + 1), slP 3 q] (.tuple #[i64 0, i64 0, i64 12]) h := fun {h} e => by
    have := known_says (L := m + 1) (by omega) (by omega) F (sees_r e)
    rwa [hk] at this
  have sR : ∀ {h : AH}, h.get 1 = rowGs (q + 1) (nA (gN b)) nB (nC (fN m b) (gN b)) → Says Tryz.prog h 11 [hv m q] (.tuple #[.slice none 0 0, i64 0]) h := fun {h} e =>
    Region_says0 (k := m + 2) (by omega) (by omega) (by omega) (by omega) G hr0 (sees_g e)
  have sW : ∀ {h : AH}, h.get 3 = rowRs q (fN m b) (gN b) → Says Tryz.prog h 17 [i64 (m + 1), slP 3 q] (.tuple #[i64 x, i64 y, i64 0]) h := fun {h} e => why_says (L := m + 1) (by omega) (by omega) F hw (sees_r e)
  have sC : ∀ {h : AH}, h.get 1 = rowGs (q + 1) (nA (gN b)) nB (nC (fN m b) (gN b)) → Says Tryz.prog h 18 [hv m q] (.tuple #[slR h.next (bitsN t).length, i64 0]) (h.new (rowN (bitsN t))).2 := fun {h} e =>
    contra_says (k := m + 2) (by omega) (by omega) (by omega) (by omega) G ht (sees_g e)
  have sP : ∀ {h : AH}, h.get 1 = rowGs (q + 1) (nA (gN b)) nB (nC (fN m b) (gN b)) → h.get 5 = rowN [x + 1, y + 1] → Says Tryz.prog h 19 [hv m q, smallS 5 2 2] (i64 0) h := fun {h} e e5 =>
    proves_says (k := m + 2) (by omega) (by omega) (by omega) (by omega) G (show x + 1 < y + 1 by omega) (by omega) hrs (sees_g e)
      (show Sees h ⟨5, 0, 2, natsC [x + 1, y + 1]⟩ (smallS 5 2 2) from ⟨natsC [x + 1, y + 1], true, [], some 3, e5, fun k u hk => by rw [Nat.zero_add]; exact hk, Nat.le_refl 2, natsC_plain _, .inr ⟨2, Nat.le_refl 2, rfl⟩⟩)
  refine Runs.sqR mixed hkU [viaC 2 16 [i64 (m + 1), slP 3 q] (.tuple #[i64 0, i64 0, i64 12])] (by kernel_rfl) (by kernel_rfl) (by kernel_rfl) (oblC (shown_call (by kernel_rfl) (sK (by kernel_rfl))) oblN) ?_
  refine Runs.sqR mixed hkU [viaC 1 11 [hv m q] (.tuple #[.slice none 0 0, i64 0])] (by kernel_rfl) (by kernel_rfl) (by kernel_rfl) (oblC (shown_call (by kernel_rfl) (sR (by kernel_rfl))) oblN) ?_
  refine Runs.sq (by kernel_rfl) (Runs.sqR mixed hkU [] (by kernel_rfl) (by kernel_rfl) (by kernel_rfl) oblN ?_)
  refine Runs.cd (b := false) (by kernel_rfl) (fun h => by cases h) (fun _ => Runs.now (x := .normal) (by kernel_rfl) ?_)
  show Runs Tryz.prog 0 _ _ _
  refine Runs.sq (by kernel_rfl) (Runs.sqR mixed hkU [] (by kernel_rfl) (by kernel_rfl) (by kernel_rfl) oblN ?_)
  refine Runs.cd (b := true) (by kernel_rfl) (fun _ => ?_) (fun h => by cases h)
  refine Runs.sqR mixed hkU [viaC 2 17 [i64 (m + 1), slP 3 q] (.tuple #[i64 x, i64 y, i64 0])] (by kernel_rfl) (by kernel_rfl) (by kernel_rfl) (oblC (shown_call (by kernel_rfl) (sW (by kernel_rfl))) oblN) ?_
  refine Runs.sqR mixed hkU [viaH 1 18 [hv m q] (.tuple #[slR 4 (bitsN t).length, i64 0]) ((hp (Os4 m b q)).new (rowN (bitsN t))).2] (by kernel_rfl) (by kernel_rfl) (by kernel_rfl) (oblC (shown_callHE (h0 := hp (Os4 m b q)) (by kernel_rfl) (by kernel_rfl) (sC (by kernel_rfl))) oblN) ?_
  generalize (bitsN t).length = n at htl ⊢
  refine Runs.sq (by kernel_rfl) ?_
  refine Runs.rgD mixed hkU [viaV 13 (.bool true), viaV 18 (.bool true), viaV 23 (i64 (x + 1)), viaV 25 (i64 (y + 1)), viaC 28 19 [hv m q, smallS 5 2 2] (i64 0), viaV 38 (.bool true)] [(21, 27), (21, 28)] (by kernel_rfl) (by kernel_rfl) (by kernel_rfl) (by kernel_rfl)
    (oblC (shown_eq (v := .bool (leF (.ofNat 0) (.ofNat x))) (by kernel_rfl) (by kernel_rfl) (by rw [leN_true (Nat.zero_le x)]))
    (oblC (shown_eq (v := .bool (ltF (.ofNat x) (.ofNat y))) (by kernel_rfl) (by kernel_rfl) (by rw [lt_of hxy]))
    (oblC (shown_eq (v := .int .i64 (wrapF .i64 (Int.add (.ofNat x) (.ofNat 1)))) (by kernel_rfl) (by kernel_rfl) (by rw [wrap_succ (by omega)]; rfl))
    (oblC (shown_eq (v := .int .i64 (wrapF .i64 (Int.add (.ofNat y) (.ofNat 1)))) (by kernel_rfl) (by kernel_rfl) (by rw [wrap_succ (by omega)]; rfl))
    (oblC (shown_call (by kernel_rfl) (sP (by kernel_rfl) (by kernel_rfl)))
    (oblC (shown_eq (v := .bool (leF (.ofNat n) (.ofNat 2))) (by kernel_rfl) (by kernel_rfl) (by rw [leN_true htl])) oblN))))))
    (dynC (dyn_at (d := 129) (v := hv m q) (by kernel_rfl) (by kernel_rfl) (by kernel_rfl)) (dynC (dyn_at (d := 129) (v := hv m q) (by kernel_rfl) (by kernel_rfl) (by kernel_rfl)) dynN)) ?_
  show Runs Tryz.prog 0 _ _ _
  exact Runs.now (x := .ret) (by kernel_rfl) ⟨.inr rfl, [.bool true], by kernel_rfl, rfl⟩
end
end Go.Proofs.YtbcjmmbmeebfgaaGreatDoor

/- TopNarrowed: behind its first loop, where the results agree. -/
namespace Go.Proofs.YtbcjmmbmeebfgaaGreatDoor
set_option linter.unusedVariables false
set_option linter.unusedSimpArgs false
open Go Go.R
set_option maxRecDepth 1000000
noncomputable section
noncomputable def spanL (lo j : Nat) : List Nat := (List.range j).map fun j => 7 * (lo + j)
theorem span_eq (lo hi : Nat) : spanN lo hi = spanL lo (hi + 1 - lo) := rfl
theorem span_len (lo j : Nat) : (spanL lo j).length = j := by simp [spanL]
theorem span_add (lo j : Nat) : placesC (spanL lo j) ++ [i64 (lo + j), i64 0] = placesC (spanL lo (j + 1)) := by
  unfold spanL
  rw [List.range_succ, List.map_append]
  unfold placesC
  rw [List.flatMap_append]
  have h1 : 7 * (lo + j) / 7 = lo + j := by omega
  have h2 : 7 * (lo + j) % 7 = 0 := by omega
  simp only [List.map_cons, List.map_nil, List.flatMap_cons, List.flatMap_nil, List.append_nil, h1, h2]
noncomputable def O4p (m q : Nat) (b : Nat → Nat) (l : List Nat) : List AObj := [arrO b, rowGs (q + 1) (nA (gN b)) nB (nC (fN m b) (gN b)), hillS (m + 2) 1 (q + 1), rowRs q (fN m b) (gN b), rowP l]
noncomputable def O4q (m q : Nat) (b : Nat → Nat) (l k : List Nat) : List AObj := [arrO b, rowGs (q + 1) (nA (gN b)) nB (nC (fN m b) (gN b)), hillS (m + 2) 1 (q + 1), rowRs q (fN m b) (gN b), rowP l, rowP k]
theorem hillS_clo {k c n : Nat} (h : 1 < n) : CloO n (hillS k 1 c) := ⟨fun v hv => by
  simp only [List.mem_cons, List.mem_nil_iff, or_false] at hv
  rcases hv with rfl | rfl
  · exact clo_plain rfl
  · refine clo_of 10 n _ ?_
    show (plainV _ || Nat.blt 1 n) = true
    rw [Bool.or_eq_true]; exact .inr (by rw [Nat.blt_eq]; exact h), fun j hj => by cases hj⟩
theorem o4q_clo {m q : Nat} {b : Nat → Nat} {l k : List Nat} : ∀ o ∈ O4q m q b l k, CloO 6 o := fun o ho => by
  simp only [O4q, List.mem_cons, List.mem_nil_iff, or_false] at ho
  rcases ho with rfl | rfl | rfl | rfl | rfl | rfl
  · exact cloO_plain (arr_plain b) _ _
  · exact cloO_plain galsC_plain _ _
  · exact hillS_clo (by decide)
  · exact cloO_plain resC_plain _ _
  · exact rowP_clo
  · exact rowP_clo
theorem o4p_clo {m q : Nat} {b : Nat → Nat} {l : List Nat} : ∀ o ∈ O4p m q b l, CloO 5 o := fun o ho => by
  simp only [O4p, List.mem_cons, List.mem_nil_iff, or_false] at ho
  rcases ho with rfl | rfl | rfl | rfl | rfl
  · exact cloO_plain (arr_plain b) _ _
  · exact cloO_plain galsC_plain _ _
  · exact hillS_clo (by decide)
  · exact cloO_plain resC_plain _ _
  · exact rowP_clo
noncomputable def lp4b : Code := within (tl (hd (behind 11 c4)))
noncomputable def S4b (m lo hi n j : Nat) : List (Nat × Value) := [(7, i64 (m + 1)), (8, ptrV 2), (13, i64 lo), (14, i64 hi), (16, slP 4 n), (23, slP 5 j), (24, i64 (lo + j))]
noncomputable def S4b0 (m lo hi n : Nat) : List (Nat × Value) := [(7, i64 (m + 1)), (8, ptrV 2), (13, i64 lo), (14, i64 hi), (16, slP 4 n), (23, .slice none 0 0), (24, i64 lo)]
theorem agree_loop {m q lo hi n : Nat} {b : Nat → Nat} {l : List Nat} (hh : hi ≤ m + 1) (hm : m < 6) : ∀ d j, lo + j + d = hi + 1 → 
    Runs Tryz.prog 0 lp4b (sth (S4b m lo hi n j) 188 (O4q m q b l (spanL lo j))) fun e af => e = .exit 2 ∧ Less 0 (sth [(8, ptrV 2), (13, i64 lo), (16, slP 4 n), (23, slP 5 (hi + 1 - lo))] 188 (O4q m q b l (spanL lo (hi + 1 - lo)))) af := by
  intro d
  induction d with
  | zero =>
    intro j hj
    have e : hi + 1 - lo = j := by omega
    rw [e]
    refine Runs.lp (by kernel_rfl) (Runs.sq (by kernel_rfl) (Runs.sqR mixed hkU [viaV 2 (.bool false)] (by kernel_rfl) (by kernel_rfl) (by kernel_rfl)
      (oblC (shown_eq (v := .bool (leF (.ofNat (lo + j)) (.ofNat hi))) (by kernel_rfl) (by kernel_rfl) (by rw [leN_false (by omega)])) oblN) ?_))
    refine Runs.cd (b := false) (by kernel_rfl) (fun h => by cases h) (fun _ => Runs.now (x := .exit 2) (by kernel_rfl) ⟨rfl, ?_⟩)
    exact less_seenP (clo_all (k := 6) (by kernel_rfl)) o4q_clo (Nat.zero_le 6) (by kernel_rfl) (by kernel_rfl) (by kernel_rfl) (by kernel_rfl)
  | succ d ih =>
    intro j hj
    have hih := ih (j + 1) (by omega)
    refine Runs.lp (by kernel_rfl) (Runs.sq (by kernel_rfl) (Runs.sqR mixed hkU [viaV 2 (.bool true), viaV 6 (.bool true)] (by kernel_rfl) (by kernel_rfl) (by kernel_rfl)
      (oblC (shown_eq (v := .bool (leF (.ofNat (lo + j)) (.ofNat hi))) (by kernel_rfl) (by kernel_rfl) (by rw [leN_true (by omega)]))
      (oblC (shown_eq (v := .bool (leF (.ofNat (lo + j)) (.ofNat (m + 1)))) (by kernel_rfl) (by kernel_rfl) (by rw [leN_true (by omega)])) oblN)) ?_))
    refine Runs.cd (b := true) (by kernel_rfl) (fun _ => Runs.now (x := .normal) (by kernel_rfl) ?_) (fun h => by cases h)
    show Runs Tryz.prog 0 _ _ _
    let H0 : AH := hp (O4q m q b l (spanL lo j))
    let H1 : AH := (H0.new (.cells [i64 (lo + j), i64 0] true [] (some 35))).2
    have hap := push_gen (st := 28) (e := 35) (z := 1) (by kernel_rfl) place_info (h := H1) (i := 5) (j := 6) (x := [i64 (lo + j), i64 0]) (c := placesC (spanL lo j)) (m := j) (par := []) rfl rfl (by rw [placesC_len, span_len]) (by omega) (by kernel_rfl) (by kernel_rfl)
    refine Runs.sq (by kernel_rfl) (Runs.bk (id := 3) (by kernel_rfl) ?_)
    refine Runs.rg mixed hkU [⟨4, slP 7 (j + 1), some ((H1.put 5 (.cells (placesC (spanL lo j)) false [] (some 35))).new (.cells (placesC (spanL lo j) ++ [i64 (lo + j), i64 0]) true [5] (some 35))).2, none⟩] (by kernel_rfl) (by kernel_rfl) (by kernel_rfl)
      (oblC ⟨by kernel_rfl, (show _ = appendA Tryz.prog #[28, 28] (.slice (some ⟨5, 0, some 2⟩) j j) (.slice (some ⟨6, 0, none⟩) 1 1) H1 by kernel_rfl).trans hap⟩ oblN) ?_
    show Runs Tryz.prog 0 _ _ _
    refine Runs.rg mixed hkU [viaV 1 (i64 (lo + (j + 1)))] (by kernel_rfl) (by kernel_rfl) (by kernel_rfl) (oblC (shown_eq (v := .int .i64 (wrapF .i64 (Int.add (.ofNat (lo + j)) (.ofNat 1)))) (by kernel_rfl) (by kernel_rfl) (by rw [wrap_succ (by omega)]; rfl)) oblN) ?_
    show Runs Tryz.prog 0 lp4b _ _
    exact Runs.renumK (sz := 188) (l := S4b m lo hi n (j + 1)) (os := O4q m q b l (spanL lo (j + 1))) (fun j => match j with | 5 => 7 | j => j) (fun j => match j with | 7 => 5 | j => j) (by kernel_rfl) (Nat.zero_le 6) (by kernel_rfl) fix0 (by kernel_rfl) (by kernel_rfl) (by kernel_rfl) (by kernel_rfl)
      (obsL [arrO b, rowGs (q + 1) (nA (gN b)) nB (nC (fN m b) (gN b)), hillS (m + 2) 1 (q + 1), rowRs q (fN m b) (gN b), rowP l, .cells (placesC (spanL lo j) ++ [i64 (lo + j), i64 0]) true [5] (some 35)] (by kernel_rfl)
        ⟨obs_arr, obs_gals rfl rfl, RenO.of (σ := fun j => match j with | 7 => 5 | j => j) rfl rfl, obs_res rfl rfl, obs_rowP rfl rfl, obs_rowP rfl (span_add lo j), trivial⟩) hih
theorem agree_first {m q lo hi n : Nat} {b : Nat → Nat} {l : List Nat} (hlo : lo ≤ hi) (hh : hi ≤ m + 1) (hm : m < 6) :
    Runs Tryz.prog 0 lp4b (sth (S4b0 m lo hi n) 188 (O4p m q b l)) fun e af => e = .exit 2 ∧ Less 0 (sth [(8, ptrV 2), (13, i64 lo), (16, slP 4 n), (23, slP 5 (hi + 1 - lo))] 188 (O4q m q b l (spanL lo (hi + 1 - lo)))) af := by
  have hih := agree_loop (lo := lo) (q := q) (n := n) (b := b) (l := l) hh hm (hi - lo) 1 (by omega)
  refine Runs.lp (by kernel_rfl) (Runs.sq (by kernel_rfl) (Runs.sqR mixed hkU [viaV 2 (.bool true), viaV 6 (.bool true)] (by kernel_rfl) (by kernel_rfl) (by kernel_rfl)
    (oblC (shown_eq (v := .bool (leF (.ofNat lo) (.ofNat hi))) (by kernel_rfl) (by kernel_rfl) (by rw [leN_true hlo]))
    (oblC (shown_eq (v := .bool (leF (.ofNat lo) (.ofNat (m + 1)))) (by kernel_rfl) (by kernel_rfl) (by rw [leN_true (by omega)])) oblN)) ?_))
  refine Runs.cd (b := true) (by kernel_rfl) (fun _ => Runs.now (x := .normal) (by kernel_rfl) ?_) (fun h => by cases h)
  show Runs Tryz.prog 0 _ _ _
  refine Runs.sq (by kernel_rfl) (Runs.bk (id := 3) (by kernel_rfl) ?_)
  refine Runs.rg mixed hkU [] (by kernel_rfl) (by kernel_rfl) (by kernel_rfl) oblN ?_
  show Runs Tryz.prog 0 _ _ _
  refine Runs.rg mixed hkU [viaV 1 (i64 (lo + 1))] (by kernel_rfl) (by kernel_rfl) (by kernel_rfl) (oblC (shown_eq (v := .int .i64 (wrapF .i64 (Int.add (.ofNat lo) (.ofNat 1)))) (by kernel_rfl) (by kernel_rfl) (by rw [wrap_succ (by omega)]; rfl)) oblN) ?_
  show Runs Tryz.prog 0 lp4b _ _
  have e1 : [i64 lo, i64 0] = placesC (spanL lo 1) := by
    rw [← span_add lo 0]; rfl
  exact Runs.renumK (sz := 188) (l := S4b m lo hi n 1) (os := O4q m q b l (spanL lo 1)) (fun j => match j with | 5 => 6 | j => j) (fun j => match j with | 6 => 5 | j => j) (by kernel_rfl) (Nat.zero_le 6) (by kernel_rfl) fix0 (by kernel_rfl) (by kernel_rfl) (by kernel_rfl) (by kernel_rfl)
    (obsL [arrO b, rowGs (q + 1) (nA (gN b)) nB (nC (fN m b) (gN b)), hillS (m + 2) 1 (q + 1), rowRs q (fN m b) (gN b), rowP l, .cells [i64 lo, i64 0] true [] (some 35)] (by kernel_rfl)
      ⟨obs_arr, obs_gals rfl rfl, RenO.of (σ := fun j => match j with | 6 => 5 | j => j) rfl rfl, obs_res rfl rfl, obs_rowP rfl rfl, obs_rowP rfl e1, trivial⟩) hih

theorem narrow_agree {m q : Nat} {b : Nat → Nat} (hm : m < 6) (hq0 : 0 < q) (hq : q < 9) (hle : lowN (fN m b) (gN b) q ≤ highN (m + 1) (fN m b) (gN b) q) :
    Runs Tryz.prog 0 (behind 5 c4) (sth (E4 m q) 188 (Os4 m b q)) (EndsAs Tryz.prog Tryz.f4 fun v' _ => v' = .bool true) := by
  have F := fN_fit hm b q
  have hr0 : regG (m + 2) (q + 1) (nA (gN b)) nB (nC (fN m b) (gN b)) ≠ 0 := fun h => by
    have := (reg_zero (L := m + 1) (by omega) F).1 h
    omega
  have hbits := bits_reg (L := m + 1) (g := gN b) (by omega) F
  have G := gals_n (L := m + 1) (g := gN b) (by omega) F
  have hst := st_none (k := m + 2) (m := q + 1) (by omega) hr0
  have hk : knownV (lowN (fN m b) (gN b) q) (highN (m + 1) (fN m b) (gN b) q) = .tuple #[i64 (lowN (fN m b) (gN b) q), i64 (highN (m + 1) (fN m b) (gN b) q), i64 0] := by
    unfold knownV
    rw [if_neg (fun h => by have := blt_iff.1 h; omega)]
  have sK : ∀ {h : AH}, h.get 3 = rowRs q (fN m b) (gN b) → Says Tryz.prog h 16 [i64 (m + 1), slP 3 q] (.tuple #[i64 (lowN (fN m b) (gN b) q), i64 (highN (m + 1) (fN m b) (gN b) q), i64 0]) h := fun {h} e => by
    have := known_says (L := m + 1) (by omega) (by omega) F (sees_r e)
    rwa [hk] at this
  have hh : highN (m + 1) (fN m b) (gN b) q ≤ m + 1 := high_le
  generalize lowN (fN m b) (gN b) q = lo at *
  generalize highN (m + 1) (fN m b) (gN b) q = hi at *
  rw [span_eq] at hbits
  have sR : ∀ {h : AH}, h.get 1 = rowGs (q + 1) (nA (gN b)) nB (nC (fN m b) (gN b)) → Says Tryz.prog h 11 [hv m q] (.tuple #[slP h.next (hi + 1 - lo), i64 0]) (h.new (rowP (spanL lo (hi + 1 - lo)))).2 := fun {h} e => by
    have := Region_says (k := m + 2) (by omega) (by omega) (by omega) (by omega) G hr0 (sees_g e)
    rw [hbits, span_len] at this
    exact this
  have sC : ∀ {h : AH}, h.get 1 = rowGs (q + 1) (nA (gN b)) nB (nC (fN m b) (gN b)) → Says Tryz.prog h 18 [hv m q] (.tuple #[.slice none 0 0, i64 13]) h := fun {h} e =>
    contra_says0 (k := m + 2) (by omega) (by omega) (by omega) (by omega) G hst (sees_g e)
  have hn : (spanL lo (hi + 1 - lo)).length = hi + 1 - lo := span_len _ _
  have hb64 : ∀ x ∈ spanL lo (hi + 1 - lo), x < 64 := fun x hx => by rw [← hbits] at hx; exact (mem_bits.1 hx).1
  have sE : ∀ {h : AH}, h.get 4 = rowP (spanL lo (hi + 1 - lo)) → h.get 5 = rowP (spanL lo (hi + 1 - lo)) → Says Tryz.prog h 22 [slP 4 (hi + 1 - lo), slP 5 (hi + 1 - lo)] (.bool true) h := fun {h} e4 e5 => by
    have := equal_says (l := spanL lo (hi + 1 - lo)) hb64 (by omega) (sees_row (z := 1) (n := (spanL lo (hi + 1 - lo)).length) e4 (placesC_plain _)) (sees_row (z := 1) (n := (spanL lo (hi + 1 - lo)).length) e5 (placesC_plain _))
    rw [hn] at this
    exact this
  have hl := agree_first (q := q) (n := hi + 1 - lo) (b := b) (l := spanL lo (hi + 1 - lo)) hle hh hm
  generalize hi + 1 - lo = n at *
  refine Runs.sqR mixed hkU [viaC 2 16 [i64 (m + 1), slP 3 q] (.tuple #[i64 lo, i64 hi, i64 0])] (by kernel_rfl) (by kernel_rfl) (by kernel_rfl) (oblC (shown_call (by kernel_rfl) (sK (by kernel_rfl))) oblN) ?_
  refine Runs.sqR mixed hkU [viaH 1 11 [hv m q] (.tuple #[slP 4 n, i64 0]) ((hp (Os4 m b q)).new (rowP (spanL lo n))).2] (by kernel_rfl) (by kernel_rfl) (by kernel_rfl) (oblC (shown_callHE (h0 := hp (Os4 m b q)) (by kernel_rfl) (by kernel_rfl) (sR (by kernel_rfl))) oblN) ?_
  refine Runs.sq (by kernel_rfl) (Runs.sqR mixed hkU [] (by kernel_rfl) (by kernel_rfl) (by kernel_rfl) oblN ?_)
  refine Runs.cd (b := false) (by kernel_rfl) (fun h => by cases h) (fun _ => Runs.now (x := .normal) (by kernel_rfl) ?_)
  show Runs Tryz.prog 0 _ _ _
  refine Runs.sq (by kernel_rfl) (Runs.sqR mixed hkU [] (by kernel_rfl) (by kernel_rfl) (by kernel_rfl) oblN ?_)
  refine Runs.cd (b := false) (by kernel_rfl) (fun h => by cases h) (fun _ => Runs.now (x := .normal) (by kernel_rfl) ?_)
  show Runs Tryz.prog 0 _ _ _
  refine Runs.sq (by kernel_rfl) (Runs.sqR mixed hkU [viaV 1 (.bool false)] (by kernel_rfl) (by kernel_rfl) (by kernel_rfl) (oblC (shown_eq (v := .bool (ltF (.ofNat lo) (.ofNat 0))) (by kernel_rfl) (by kernel_rfl) (by rw [ltN_zero])) oblN) ?_)
  refine Runs.cd (b := false) (by kernel_rfl) (fun h => by cases h) (fun _ => Runs.now (x := .normal) (by kernel_rfl) ?_)
  show Runs Tryz.prog 0 _ _ _
  refine Runs.sqR mixed hkU [] (by kernel_rfl) (by kernel_rfl) (by kernel_rfl) oblN ?_
  refine Runs.sq (by kernel_rfl) (Runs.sqR mixed hkU [] (by kernel_rfl) (by kernel_rfl) (by kernel_rfl) oblN (Runs.bk (id := 2) (by kernel_rfl) ?_))
  show Runs Tryz.prog 0 lp4b _ _
  refine Runs.less (af1 := sth (S4b0 m lo hi n) 188 (O4p m q b (spanL lo n))) (less_seenP (clo_all (k := 5) (by kernel_rfl)) o4p_clo (Nat.zero_le 5) (by kernel_rfl) (by kernel_rfl) (by kernel_rfl) (by kernel_rfl)) ?_
  refine hl.mono fun e af hx => ?_
  obtain ⟨rfl, less⟩ := hx
  show Runs Tryz.prog 0 _ af _
  refine Runs.less less ?_
  refine Runs.sqR mixed hkU [viaC 1 18 [hv m q] (.tuple #[.slice none 0 0, i64 13])] (by kernel_rfl) (by kernel_rfl) (by kernel_rfl) (oblC (shown_call (by kernel_rfl) (sC (by kernel_rfl))) oblN) ?_
  refine Runs.sqR mixed hkU [viaV 1 (.bool true), viaC 5 22 [slP 4 n, slP 5 n] (.bool true)] (by kernel_rfl) (by kernel_rfl) (by kernel_rfl)
    (oblC (shown_eq (v := .bool (leF (.ofNat 0) (.ofNat lo))) (by kernel_rfl) (by kernel_rfl) (by rw [leN_true (Nat.zero_le lo)])) (oblC (shown_call (by kernel_rfl) (sE (by kernel_rfl) (by kernel_rfl))) oblN)) ?_
  exact Runs.now (x := .ret) (by kernel_rfl) ⟨.inr rfl, [.bool true], by kernel_rfl, rfl⟩
end
end Go.Proofs.YtbcjmmbmeebfgaaGreatDoor
