/- TopFlooded: the law's loop over the places: all pipes, and who is at the edge. -/
import Derived.Test.YtbcjmmbmeebfgaaGreatDoorSFloodedUF9
namespace Go.Proofs.YtbcjmmbmeebfgaaGreatDoor
set_option linter.unusedVariables false
set_option linter.unusedSimpArgs false
open Go Go.R
set_option maxRecDepth 1000000
noncomputable section

noncomputable def b3C : Code := within (hd (tl (tl (within lpo))))
noncomputable def OO (c0 : List Value) (ty0 : Option TypeId) (k : Nat) (s : Value) (l : List Nat) (n : Nat) (f : Nat → Bool) : List (Nat × Nat) → List AObj
  | [] => [ob0 c0 ty0, hillK k s, rowP l, drO n (.slice none 0 0), rowW n f]
  | p :: ps => [ob0 c0 ty0, hillK k s, rowP l, drO n (slG 5 (p :: ps).length), rowW n f, rowPi (p :: ps)]
noncomputable def EO (n : Nat) : List (Nat × Value) := [(7, ptrV 1), (8, slP 2 n), (9, i64 n), (10, ptrV 3), (11, smallS 4 n n)]
noncomputable def SO (n i : Nat) : List (Nat × Value) := [(7, ptrV 1), (8, slP 2 n), (9, i64 n), (10, ptrV 3), (11, smallS 4 n n), (48, slP 2 n), (49, i64 n), (50, i64 i)]
noncomputable def oS (k : Nat) (l : List Nat) (n i : Nat) (f : Nat → Bool) (ps : List (Nat × Nat)) : (Nat → Bool) × List (Nat × Nat) :=
  (if bdC k (l.getD i 0) then updB f i true else f, inR (fun j => nxC (l.getD i 0) (l.getD j 0)) i n 0 (if bdC k (l.getD i 0) then ps ++ [(i, n)] else ps))
noncomputable def oR (k : Nat) (l : List Nat) (n : Nat) : Nat → Nat → (Nat → Bool) → List (Nat × Nat) → (Nat → Bool) × List (Nat × Nat)
  | 0, _, f, ps => (f, ps)
  | d + 1, i, f, ps => oR k l n d (i + 1) (oS k l n i f ps).1 (oS k l n i f ps).2
theorem inR_len {p : Nat → Bool} {i : Nat} : ∀ d j ps, (inR p i d j ps).length ≤ ps.length + d
  | 0, _, ps => Nat.le_refl _
  | d + 1, j, ps => by
    have h := inR_len (p := p) (i := i) d (j + 1) (if p j then ps ++ [(i, j)] else ps)
    have h2 : (if p j then ps ++ [(i, j)] else ps).length ≤ ps.length + 1 := by
      split
      · rw [List.length_append]; exact Nat.le_refl _
      · omega
    show (inR p i d (j + 1) (if p j then ps ++ [(i, j)] else ps)).length ≤ _
    omega
theorem oS_len {k n i : Nat} {l : List Nat} {f : Nat → Bool} {ps : List (Nat × Nat)} (hn : n < 5) : (oS k l n i f ps).2.length ≤ ps.length + 6 := by
  have h := inR_len (p := fun j => nxC (l.getD i 0) (l.getD j 0)) (i := i) n 0 (if bdC k (l.getD i 0) then ps ++ [(i, n)] else ps)
  have h2 : (if bdC k (l.getD i 0) then ps ++ [(i, n)] else ps).length ≤ ps.length + 1 := by
    split
    · rw [List.length_append]; exact Nat.le_refl _
    · omega
  show (inR (fun j => nxC (l.getD i 0) (l.getD j 0)) i n 0 (if bdC k (l.getD i 0) then ps ++ [(i, n)] else ps)).length ≤ _
  omega
section
variable {c0 : List Value} {ty0 : Option TypeId} {k n : Nat} {s : Value} {l : List Nat}
theorem oo_0 (O : Outer c0 s l) {f : Nat → Bool} : ∀ o ∈ OO c0 ty0 k s l n f [], CloO 5 o := fun o ho => by
  simp only [OO, List.mem_cons, List.mem_nil_iff, or_false] at ho
  rcases ho with rfl | rfl | rfl | rfl | rfl
  · exact cloO_plain O.p0 _ _
  · exact hillK_clo (gsv_clo O.gs (by decide))
  · exact rowP_clo
  · exact drO_clo0
  · exact rowW_clo
theorem oo_1 (O : Outer c0 s l) {f : Nat → Bool} {p : Nat × Nat} {ps : List (Nat × Nat)} : ∀ o ∈ OO c0 ty0 k s l n f (p :: ps), CloO 6 o := fun o ho => by
  simp only [OO, List.mem_cons, List.mem_nil_iff, or_false] at ho
  rcases ho with rfl | rfl | rfl | rfl | rfl | rfl
  · exact cloO_plain O.p0 _ _
  · exact hillK_clo (gsv_clo O.gs (by decide))
  · exact rowP_clo
  · exact drO_clo (by decide)
  · exact rowW_clo
  · exact rowPi_clo
theorem place3 (O : Outer c0 s l) (hl : l.length = n) (hk : 1 ≤ k) (hk7 : k < 8) {i : Nat} (hi : i < n) {f : Nat → Bool} {ps : List (Nat × Nat)} (hps : ps.length < 100) :
    Runs Tryz.prog 0 b3C (sth (SO n i) 252 (OO c0 ty0 k s l n f ps)) fun e af => e = .normal ∧ Less 0 (sth (EI n i) 252 (OI c0 ty0 k s l n (oS k l n i f ps).1 (l.getD i 0) (oS k l n i f ps).2)) af := by
  obtain ⟨c, hc⟩ : ∃ c, l[i]? = some c := ⟨l[i], List.getElem?_eq_getElem (by omega)⟩
  have hcb := O.le c (List.mem_of_getElem? hc)
  have hfew := O.few
  have eg : l.getD i 0 = c := by rw [List.getD_eq_getElem?_getD, hc]; rfl
  unfold oS
  rw [eg]
  have go : Runs Tryz.prog 0 (tl b3C) (sth (EI n i) 252 (OI c0 ty0 k s l n f c ps)) fun e af => e = .normal ∧ Less 0 (sth (EI n i) 252 (OI c0 ty0 k s l n (if bdC k c then updB f i true else f) c (inR (fun j => nxC c (l.getD j 0)) i n 0 (if bdC k c then ps ++ [(i, n)] else ps)))) af := by
    refine Runs.sq (by kernel_rfl) ?_
    show Runs Tryz.prog 0 ebC _ _
    refine (edge3 (c0 := c0) (ty0 := ty0) (k := k) (s := s) (l := l) (f := f) (c := c) O hk hk7 hi (by omega)).mono fun e af hq => ?_
    obtain ⟨rfl, less⟩ := hq
    show Runs Tryz.prog 0 _ af _
    refine Runs.less less ?_
    have hlen : (if bdC k c then ps ++ [(i, n)] else ps).length < 200 := by
      split
      · rw [List.length_append]; show ps.length + 1 < 200; omega
      · omega
    generalize (if bdC k c then ps ++ [(i, n)] else ps) = ps1 at hlen ⊢
    generalize (if bdC k c then updB f i true else f) = f1
    have hin := inner3 (c0 := c0) (ty0 := ty0) (k := k) (i := i) (f := f1) O hl hcb n 0 ps1 (by omega) (by omega)
    cases ps1 with
    | nil =>
      refine Runs.sqR mixed hkU [] (by kernel_rfl) (by kernel_rfl) (by kernel_rfl) oblN (Runs.bk (id := 4) (by kernel_rfl) ?_)
      show Runs Tryz.prog 0 lpi _ _
      refine Runs.less (af1 := sth (SI n i 0) 252 (OI c0 ty0 k s l n f1 c [])) (less_seenP (clo_all (k := 6) (by kernel_rfl)) (oi_0 O) (Nat.zero_le 6) (by kernel_rfl) (by kernel_rfl) (by kernel_rfl) (by kernel_rfl)) ?_
      refine hin.mono fun e af hq => ?_
      obtain ⟨rfl, less⟩ := hq
      exact ⟨rfl, less⟩
    | cons p qs =>
      refine Runs.sqR mixed hkU [] (by kernel_rfl) (by kernel_rfl) (by kernel_rfl) oblN (Runs.bk (id := 4) (by kernel_rfl) ?_)
      show Runs Tryz.prog 0 lpi _ _
      refine Runs.less (af1 := sth (SI n i 0) 252 (OI c0 ty0 k s l n f1 c (p :: qs))) (less_seenP (clo_all (k := 7) (by kernel_rfl)) (oi_1 O) (Nat.zero_le 7) (by kernel_rfl) (by kernel_rfl) (by kernel_rfl) (by kernel_rfl)) ?_
      refine hin.mono fun e af hq => ?_
      obtain ⟨rfl, less⟩ := hq
      exact ⟨rfl, less⟩
  have eb : b3C = .seq (hd b3C) (tl b3C) := by kernel_rfl
  cases ps with
  | nil =>
    refine Runs.sqR mixed hkU [viaV 1 (.pointer (some ⟨2, 0 + i * 2, none⟩)), viaV 2 (plV c)] (by kernel_rfl) (by kernel_rfl) (by kernel_rfl)
      (oblC (shown_idx (n := n) (by kernel_rfl) hi) (oblC (shown_agg (by kernel_rfl) (placesC_at (q := 2) (l := l) (lv := true) (par := []) (ty := some 35) (by kernel_rfl) hc)) oblN)) ?_
    show Runs Tryz.prog 0 (tl b3C) _ _
    exact Runs.less (af1 := sth (EI n i) 252 (OI c0 ty0 k s l n f c [])) (less_seenP (clo_all (k := 6) (by kernel_rfl)) (oi_0 O) (Nat.zero_le 6) (by kernel_rfl) (by kernel_rfl) (by kernel_rfl) (by kernel_rfl)) go
  | cons p ps =>
    refine Runs.sqR mixed hkU [viaV 1 (.pointer (some ⟨2, 0 + i * 2, none⟩)), viaV 2 (plV c)] (by kernel_rfl) (by kernel_rfl) (by kernel_rfl)
      (oblC (shown_idx (n := n) (by kernel_rfl) hi) (oblC (shown_agg (by kernel_rfl) (placesC_at (q := 2) (l := l) (lv := true) (par := []) (ty := some 35) (by kernel_rfl) hc)) oblN)) ?_
    show Runs Tryz.prog 0 (tl b3C) _ _
    exact Runs.renumK (sz := 252) (l := EI n i) (os := OI c0 ty0 k s l n f c (p :: ps)) (fun j => match j with | 5 => 6 | 6 => 5 | j => j) (fun j => match j with | 5 => 6 | 6 => 5 | j => j) (by kernel_rfl) (Nat.zero_le 7) (by kernel_rfl) fix0 (by kernel_rfl) (by kernel_rfl) (by kernel_rfl) (by kernel_rfl)
      (obsL [ob0 c0 ty0, hillK k s, rowP l, drO n (slG 5 (p :: ps).length), rowW n f, plcO c, rowPi (p :: ps)] (by kernel_rfl)
        ⟨obs_ob0 O.p0, obs_hk (σ := fun j => match j with | 5 => 6 | 6 => 5 | j => j) O.gs rfl rfl rfl, obs_rowP rfl rfl, RenO.of (σ := fun j => match j with | 5 => 6 | 6 => 5 | j => j) rfl rfl, obs_rowW, obs_plc (σ := fun j => j), obs_pi rfl rfl, trivial⟩) go
theorem outer3 (O : Outer c0 s l) (hl : l.length = n) (hk : 1 ≤ k) (hk7 : k < 8) : ∀ d i (f : Nat → Bool) (ps : List (Nat × Nat)), i + d = n → ps.length ≤ 10 * i →
    Runs Tryz.prog 0 lpo (sth (SO n i) 252 (OO c0 ty0 k s l n f ps)) fun e af => e = .exit 2 ∧ Less 0 (sth (EO n) 252 (OO c0 ty0 k s l n (oR k l n d i f ps).1 (oR k l n d i f ps).2)) af := by
  intro d
  have hfew := O.few
  induction d with
  | zero =>
    intro i f ps hi _
    have e : i = n := by omega
    subst e
    cases ps with
    | nil =>
      refine Runs.lp (by kernel_rfl) (Runs.sqR mixed hkU [] (by kernel_rfl) (by kernel_rfl) (by kernel_rfl) oblN (Runs.sq (by kernel_rfl) ?_))
      refine Runs.cd (b := ltF (.ofNat i) (.ofNat i)) (by kernel_rfl) (fun ht => by rw [lt_self] at ht; cases ht) (fun _ => Runs.now (x := .exit 2) (by kernel_rfl) ⟨rfl, ?_⟩)
      exact less_seenP (clo_all (k := 5) (by kernel_rfl)) (oo_0 O) (Nat.zero_le 5) (by kernel_rfl) (by kernel_rfl) (by kernel_rfl) (by kernel_rfl)
    | cons p ps =>
      refine Runs.lp (by kernel_rfl) (Runs.sqR mixed hkU [] (by kernel_rfl) (by kernel_rfl) (by kernel_rfl) oblN (Runs.sq (by kernel_rfl) ?_))
      refine Runs.cd (b := ltF (.ofNat i) (.ofNat i)) (by kernel_rfl) (fun ht => by rw [lt_self] at ht; cases ht) (fun _ => Runs.now (x := .exit 2) (by kernel_rfl) ⟨rfl, ?_⟩)
      exact less_seenP (clo_all (k := 6) (by kernel_rfl)) (oo_1 O) (Nat.zero_le 6) (by kernel_rfl) (by kernel_rfl) (by kernel_rfl) (by kernel_rfl)
  | succ d ih =>
    intro i f ps hi hps
    have hlt : i < n := by omega
    have hsl := oS_len (k := k) (l := l) (i := i) (f := f) (ps := ps) (n := n) (by omega)
    have hr := ih (i + 1) (oS k l n i f ps).1 (oS k l n i f ps).2 (by omega) (by omega)
    have hp3 := place3 (c0 := c0) (ty0 := ty0) O hl hk hk7 hlt (f := f) (ps := ps) (by omega)
    rw [show oR k l n (d + 1) i f ps = oR k l n d (i + 1) (oS k l n i f ps).1 (oS k l n i f ps).2 from rfl]
    generalize oR k l n d (i + 1) (oS k l n i f ps).1 (oS k l n i f ps).2 = R at hr ⊢
    generalize oS k l n i f ps = S at hr hp3
    obtain ⟨f1, ps1⟩ := S
    have next : ∀ af, Less 0 (sth (EI n i) 252 (OI c0 ty0 k s l n f1 (l.getD i 0) ps1)) af → Runs Tryz.prog 0 (tl (tl (tl (within lpo)))) af (andThen (fun a => Runs Tryz.prog 0 lpo a fun e af => e = .exit 2 ∧ Less 0 (sth (EO n) 252 (OO c0 ty0 k s l n R.1 R.2)) af) fun e af => e = .exit 2 ∧ Less 0 (sth (EO n) 252 (OO c0 ty0 k s l n R.1 R.2)) af) := by
      intro af less
      refine Runs.less less ?_
      cases ps1 with
      | nil =>
        refine Runs.rg mixed hkU [viaV 0 (i64 (i + 1))] (by kernel_rfl) (by kernel_rfl) (by kernel_rfl) (oblC (shown_eq (v := .int .i64 (wrapF .i64 (Int.add (.ofNat i) (.ofNat 1)))) (by kernel_rfl) (by kernel_rfl) (by rw [wrap_succ (by omega)]; rfl)) oblN) ?_
        show Runs Tryz.prog 0 lpo _ _
        exact Runs.less (af1 := sth (SO n (i + 1)) 252 (OO c0 ty0 k s l n f1 [])) (less_seenP (clo_all (k := 5) (by kernel_rfl)) (oo_0 O) (Nat.zero_le 5) (by kernel_rfl) (by kernel_rfl) (by kernel_rfl) (by kernel_rfl)) hr
      | cons p qs =>
        refine Runs.rg mixed hkU [viaV 0 (i64 (i + 1))] (by kernel_rfl) (by kernel_rfl) (by kernel_rfl) (oblC (shown_eq (v := .int .i64 (wrapF .i64 (Int.add (.ofNat i) (.ofNat 1)))) (by kernel_rfl) (by kernel_rfl) (by rw [wrap_succ (by omega)]; rfl)) oblN) ?_
        show Runs Tryz.prog 0 lpo _ _
        exact Runs.renumK (sz := 252) (l := SO n (i + 1)) (os := OO c0 ty0 k s l n f1 (p :: qs)) (fun j => match j with | 5 => 6 | j => j) (fun j => match j with | 6 => 5 | j => j) (by kernel_rfl) (Nat.zero_le 6) (by kernel_rfl) fix0 (by kernel_rfl) (by kernel_rfl) (by kernel_rfl) (by kernel_rfl)
          (obsL [ob0 c0 ty0, hillK k s, rowP l, drO n (slG 6 (p :: qs).length), rowW n f1, rowPi (p :: qs)] (by kernel_rfl)
            ⟨obs_ob0 O.p0, obs_hk (σ := fun j => match j with | 6 => 5 | j => j) O.gs rfl rfl rfl, obs_rowP rfl rfl, RenO.of (σ := fun j => match j with | 6 => 5 | j => j) rfl rfl, obs_rowW, obs_pi rfl rfl, trivial⟩) hr
    cases ps with
    | nil =>
      refine Runs.lp (by kernel_rfl) (Runs.sqR mixed hkU [] (by kernel_rfl) (by kernel_rfl) (by kernel_rfl) oblN (Runs.sq (by kernel_rfl) ?_))
      refine Runs.cd (b := ltF (.ofNat i) (.ofNat n)) (by kernel_rfl) (fun _ => Runs.now (x := .normal) (by kernel_rfl) ?_) (fun hf => by rw [lt_of hlt] at hf; cases hf)
      show Runs Tryz.prog 0 _ _ _
      refine Runs.sq (by kernel_rfl) (Runs.bk (id := 3) (by kernel_rfl) ?_)
      show Runs Tryz.prog 0 b3C _ _
      refine Runs.less (af1 := sth (SO n i) 252 (OO c0 ty0 k s l n f [])) (less_seenP (clo_all (k := 5) (by kernel_rfl)) (oo_0 O) (Nat.zero_le 5) (by kernel_rfl) (by kernel_rfl) (by kernel_rfl) (by kernel_rfl)) ?_
      refine hp3.mono fun e af hq => ?_
      obtain ⟨rfl, less⟩ := hq
      exact next af less
    | cons p ps =>
      refine Runs.lp (by kernel_rfl) (Runs.sqR mixed hkU [] (by kernel_rfl) (by kernel_rfl) (by kernel_rfl) oblN (Runs.sq (by kernel_rfl) ?_))
      refine Runs.cd (b := ltF (.ofNat i) (.ofNat n)) (by kernel_rfl) (fun _ => Runs.now (x := .normal) (by kernel_rfl) ?_) (fun hf => by rw [lt_of hlt] at hf; cases hf)
      show Runs Tryz.prog 0 _ _ _
      refine Runs.sq (by kernel_rfl) (Runs.bk (id := 3) (by kernel_rfl) ?_)
      show Runs Tryz.prog 0 b3C _ _
      refine Runs.less (af1 := sth (SO n i) 252 (OO c0 ty0 k s l n f (p :: ps))) (less_seenP (clo_all (k := 6) (by kernel_rfl)) (oo_1 O) (Nat.zero_le 6) (by kernel_rfl) (by kernel_rfl) (by kernel_rfl) (by kernel_rfl)) ?_
      refine hp3.mono fun e af hq => ?_
      obtain ⟨rfl, less⟩ := hq
      exact next af less
end
end
end Go.Proofs.YtbcjmmbmeebfgaaGreatDoor

/- TopFlooded: the law's rounds over all pipes: who gets away. -/
namespace Go.Proofs.YtbcjmmbmeebfgaaGreatDoor
set_option linter.unusedVariables false
set_option linter.unusedSimpArgs false
open Go Go.R
set_option maxRecDepth 1000000
noncomputable section

noncomputable def SR (n r : Nat) : List (Nat × Value) := [(7, ptrV 1), (8, slP 2 n), (9, i64 n), (10, ptrV 3), (11, smallS 4 n n), (131, i64 n), (132, i64 r)]
noncomputable def SQ (n r m q : Nat) : List (Nat × Value) := [(7, ptrV 1), (8, slP 2 n), (9, i64 n), (10, ptrV 3), (11, smallS 4 n n), (131, i64 n), (132, i64 r), (135, slG 5 m), (136, i64 m), (137, i64 q)]
noncomputable def itR (n : Nat) (l : List (Nat × Nat)) : Nat → (Nat → Bool) → (Nat → Bool)
  | 0, f => f
  | d + 1, f => itR n l d (outR n l f)
theorem itR_out {n : Nat} {l : List (Nat × Nat)} {bd : Nat → Bool} : ∀ d r, itR n l d (outN n l bd r) = outN n l bd (r + d)
  | 0, r => rfl
  | d + 1, r => by
    show itR n l d (outN n l bd (r + 1)) = _
    rw [itR_out d (r + 1)]
    congr 1; omega
section
variable {c0 : List Value} {ty0 : Option TypeId} {k n r : Nat} {s : Value} {l : List Nat}
theorem round3 (O : Outer c0 s l) {p0 : Nat × Nat} {ps : List (Nat × Nat)} {m : Nat} (hm : (p0 :: ps).length = m) (hm1 : m < 1000) (hpn : ∀ p ∈ p0 :: ps, p.1 < n ∧ p.2 ≤ n) : ∀ d q (f : Nat → Bool), q + d = m →
    Runs Tryz.prog 0 lpq (sth (SQ n r m q) 252 (OO c0 ty0 k s l n f (p0 :: ps))) fun e af => e = .exit 8 ∧ Less 0 (sth (SR n r) 252 (OO c0 ty0 k s l n (outR n ((p0 :: ps).drop q) f) (p0 :: ps))) af := by
  intro d
  induction d with
  | zero =>
    intro q f hq
    have e : q = m := by omega
    subst e
    rw [List.drop_eq_nil_of_le (by omega)]
    show Runs Tryz.prog 0 lpq _ fun e af => e = .exit 8 ∧ Less 0 (sth (SR n r) 252 (OO c0 ty0 k s l n f (p0 :: ps))) af
    refine Runs.lp (by kernel_rfl) (Runs.sqR mixed hkU [] (by kernel_rfl) (by kernel_rfl) (by kernel_rfl) oblN (Runs.sq (by kernel_rfl) ?_))
    refine Runs.cd (b := ltF (.ofNat q) (.ofNat q)) (by kernel_rfl) (fun ht => by rw [lt_self] at ht; cases ht) (fun _ => Runs.now (x := .exit 8) (by kernel_rfl) ⟨rfl, ?_⟩)
    exact (less_seenP (clo_all (k := 6) (by kernel_rfl)) (oo_1 O) (Nat.zero_le 6) (by kernel_rfl) (by kernel_rfl) (by kernel_rfl) (by kernel_rfl))
  | succ d ih =>
    intro q f hq
    have hlt : q < m := by omega
    obtain ⟨y, hy⟩ : ∃ y, (p0 :: ps)[q]? = some y := ⟨(p0 :: ps)[q], List.getElem?_eq_getElem (by omega)⟩
    have ed : (p0 :: ps).drop q = y :: (p0 :: ps).drop (q + 1) := by rw [List.drop_eq_getElem_cons (by omega : q < (p0 :: ps).length)]; rw [List.getElem?_eq_getElem (by omega : q < (p0 :: ps).length)] at hy; rw [Option.some.inj hy]
    obtain ⟨h1, h2⟩   := hpn y (List.mem_of_getElem? hy)
    obtain ⟨a, b⟩ := y
    have hr := ih (q + 1) (outS n f (a, b)) (by omega)
    rw [ed, show outR n ((a, b) :: (p0 :: ps).drop (q + 1)) f = outR n ((p0 :: ps).drop (q + 1)) (outS n f (a, b)) from rfl]
    generalize outR n ((p0 :: ps).drop (q + 1)) (outS n f (a, b)) = R at hr ⊢
    have h1 : a < n := h1
    have ev : outS n f (a, b) = updB f a (f a || (Nat.blt b n && f b)) := rfl
    rw [ev] at hr
    let H1 : AH := ((hp (OO c0 ty0 k s l n f (p0 :: ps))).new (.cells [i64 a, i64 b, i64 1] true [] (some 36))).2
    have hst : ∀ (h : AH) (v : Bool), h.get 4 = rowW n f → (storeA Tryz.prog 4 4 (0 + a * 1) (.bool v) h).map (undef, ·) = some (undef, h.put 4 (rowW n (updB f a v))) := fun h v e => by rw [store_W e h1]; rfl
    have fin : ∀ v, Runs Tryz.prog 0 lpq (sth (SQ n r m (q + 1)) 252 (OO c0 ty0 k s l n (updB f a v) (p0 :: ps))) (fun e af => e = .exit 8 ∧ Less 0 (sth (SR n r) 252 (OO c0 ty0 k s l n R (p0 :: ps))) af) → True := fun _ _ => trivial
    refine Runs.lp (by kernel_rfl) (Runs.sqR mixed hkU [] (by kernel_rfl) (by kernel_rfl) (by kernel_rfl) oblN (Runs.sq (by kernel_rfl) ?_))
    refine Runs.cd (b := ltF (.ofNat q) (.ofNat m)) (by kernel_rfl) (fun _ => Runs.now (x := .normal) (by kernel_rfl) ?_) (fun hf => by rw [lt_of hlt] at hf; cases hf)
    show Runs Tryz.prog 0 _ _ _
    refine Runs.sq (by kernel_rfl) (Runs.bk (id := 9) (by kernel_rfl) ?_)
    refine Runs.sqR mixed hkU [viaV 0 (.pointer (some ⟨5, 0 + q * 3, none⟩)), viaV 1 (piV (a, b))] (by kernel_rfl) (by kernel_rfl) (by kernel_rfl)
      (oblC (shown_idx (n := m) (by kernel_rfl) hlt) (oblC (shown_agg (by kernel_rfl) (pipesC_at (q := 5) (l := p0 :: ps) (lv := true) (par := []) (ty := some 36) (by kernel_rfl) hy)) oblN)) ?_
    cases hfa : f a with
    | true =>
      rw [hfa, show (true || (Nat.blt b n && f b)) = true from rfl] at hr
      refine Runs.rgD mixed hkU [viaV 6 (.pointer (some ⟨4, 0 + a * 1, none⟩)), viaV 7 (.bool true), viaV 21 (.pointer (some ⟨4, 0 + a * 1, none⟩)), ⟨22, undef, some (H1.put 4 (rowW n (updB f a true))), none⟩] [] (by kernel_rfl) (by kernel_rfl) (by kernel_rfl) (by kernel_rfl)
        (oblC (shown_idx (n := n) (by kernel_rfl) h1) (oblC (shown_cell (by kernel_rfl) (hfa ▸ rowW_at (q := 4) (f := f) (by kernel_rfl) h1)) (oblC (shown_idx (n := n) (by kernel_rfl) h1)
        (oblC ⟨by kernel_rfl, (show _ = (storeA Tryz.prog 4 4 (0 + a * 1) (.bool true) H1).map (undef, ·) by kernel_rfl).trans (hst _ true (by kernel_rfl))⟩ oblN)))) dynN ?_
      show Runs Tryz.prog 0 _ _ _
      refine Runs.rg mixed hkU [viaV 0 (i64 (q + 1))] (by kernel_rfl) (by kernel_rfl) (by kernel_rfl) (oblC (shown_eq (v := .int .i64 (wrapF .i64 (Int.add (.ofNat q) (.ofNat 1)))) (by kernel_rfl) (by kernel_rfl) (by rw [wrap_succ (by omega)]; rfl)) oblN) ?_
      show Runs Tryz.prog 0 lpq _ _
      exact Runs.less (af1 := sth (SQ n r m (q + 1)) 252 (OO c0 ty0 k s l n (updB f a true) (p0 :: ps))) (less_seenP (clo_all (k := 6) (by kernel_rfl)) (oo_1 O) (Nat.zero_le 6) (by kernel_rfl) (by kernel_rfl) (by kernel_rfl) (by kernel_rfl)) hr
    | false =>
      cases hb : Nat.blt b n with
      | true =>
        have hbn := blt_lt hb
        rw [hfa, hb, show (false || (true && f b)) = f b by rw [Bool.false_or, Bool.true_and]] at hr
        refine Runs.rgD mixed hkU [viaV 6 (.pointer (some ⟨4, 0 + a * 1, none⟩)), viaV 7 (.bool false), viaV 12 (.bool true), viaV 17 (.pointer (some ⟨4, 0 + b * 1, none⟩)), viaV 18 (.bool (f b)), viaV 21 (.pointer (some ⟨4, 0 + a * 1, none⟩)), ⟨22, undef, some (H1.put 4 (rowW n (updB f a (f b)))), none⟩] [] (by kernel_rfl) (by kernel_rfl) (by kernel_rfl) (by kernel_rfl)
          (oblC (shown_idx (n := n) (by kernel_rfl) h1) (oblC (shown_cell (by kernel_rfl) (hfa ▸ rowW_at (q := 4) (f := f) (by kernel_rfl) h1))
          (oblC (shown_eq (v := .bool (ltF (.ofNat b) (.ofNat n))) (by kernel_rfl) (by kernel_rfl) (by rw [lt_of hbn]))
          (oblC (shown_idx (n := n) (by kernel_rfl) hbn) (oblC (shown_cell (by kernel_rfl) (rowW_at (q := 4) (f := f) (by kernel_rfl) hbn)) (oblC (shown_idx (n := n) (by kernel_rfl) h1)
          (oblC ⟨by kernel_rfl, (show _ = (storeA Tryz.prog 4 4 (0 + a * 1) (.bool (f b)) H1).map (undef, ·) by kernel_rfl).trans (hst _ (f b) (by kernel_rfl))⟩ oblN))))))) dynN ?_
        show Runs Tryz.prog 0 _ _ _
        refine Runs.rg mixed hkU [viaV 0 (i64 (q + 1))] (by kernel_rfl) (by kernel_rfl) (by kernel_rfl) (oblC (shown_eq (v := .int .i64 (wrapF .i64 (Int.add (.ofNat q) (.ofNat 1)))) (by kernel_rfl) (by kernel_rfl) (by rw [wrap_succ (by omega)]; rfl)) oblN) ?_
        show Runs Tryz.prog 0 lpq _ _
        exact Runs.less (af1 := sth (SQ n r m (q + 1)) 252 (OO c0 ty0 k s l n (updB f a (f b)) (p0 :: ps))) (less_seenP (clo_all (k := 6) (by kernel_rfl)) (oo_1 O) (Nat.zero_le 6) (by kernel_rfl) (by kernel_rfl) (by kernel_rfl) (by kernel_rfl)) hr
      | false =>
        rw [hfa, hb, show (false || (false && f b)) = false from rfl] at hr
        refine Runs.rgD mixed hkU [viaV 6 (.pointer (some ⟨4, 0 + a * 1, none⟩)), viaV 7 (.bool false), viaV 12 (.bool false), viaV 21 (.pointer (some ⟨4, 0 + a * 1, none⟩)), ⟨22, undef, some (H1.put 4 (rowW n (updB f a false))), none⟩] [] (by kernel_rfl) (by kernel_rfl) (by kernel_rfl) (by kernel_rfl)
          (oblC (shown_idx (n := n) (by kernel_rfl) h1) (oblC (shown_cell (by kernel_rfl) (hfa ▸ rowW_at (q := 4) (f := f) (by kernel_rfl) h1))
          (oblC (shown_eq (v := .bool (ltF (.ofNat b) (.ofNat n))) (by kernel_rfl) (by kernel_rfl) (by show Value.bool (Nat.blt b n) = _; rw [hb]))
          (oblC (shown_idx (n := n) (by kernel_rfl) h1)
          (oblC ⟨by kernel_rfl, (show _ = (storeA Tryz.prog 4 4 (0 + a * 1) (.bool false) H1).map (undef, ·) by kernel_rfl).trans (hst _ false (by kernel_rfl))⟩ oblN))))) dynN ?_
        show Runs Tryz.prog 0 _ _ _
        refine Runs.rg mixed hkU [viaV 0 (i64 (q + 1))] (by kernel_rfl) (by kernel_rfl) (by kernel_rfl) (oblC (shown_eq (v := .int .i64 (wrapF .i64 (Int.add (.ofNat q) (.ofNat 1)))) (by kernel_rfl) (by kernel_rfl) (by rw [wrap_succ (by omega)]; rfl)) oblN) ?_
        show Runs Tryz.prog 0 lpq _ _
        exact Runs.less (af1 := sth (SQ n r m (q + 1)) 252 (OO c0 ty0 k s l n (updB f a false) (p0 :: ps))) (less_seenP (clo_all (k := 6) (by kernel_rfl)) (oo_1 O) (Nat.zero_le 6) (by kernel_rfl) (by kernel_rfl) (by kernel_rfl) (by kernel_rfl)) hr
theorem rounds3 (O : Outer c0 s l) (hn : n < 100) {ps : List (Nat × Nat)} (hm1 : ps.length < 1000) (hpn : ∀ p ∈ ps, p.1 < n ∧ p.2 ≤ n) : ∀ d r (f : Nat → Bool), r + d = n →
    Runs Tryz.prog 0 lpr (sth (SR n r) 252 (OO c0 ty0 k s l n f ps)) fun e af => e = .exit 6 ∧ Less 0 (sth (EO n) 252 (OO c0 ty0 k s l n (itR n ps d f) ps)) af := by
  intro d
  induction d with
  | zero =>
    intro r f hr
    have e : r = n := by omega
    subst e
    cases ps with
    | nil =>
      refine Runs.lp (by kernel_rfl) (Runs.sqR mixed hkU [] (by kernel_rfl) (by kernel_rfl) (by kernel_rfl) oblN (Runs.sq (by kernel_rfl) ?_))
      refine Runs.cd (b := ltF (.ofNat r) (.ofNat r)) (by kernel_rfl) (fun ht => by rw [lt_self] at ht; cases ht) (fun _ => Runs.now (x := .exit 6) (by kernel_rfl) ⟨rfl, ?_⟩)
      exact (less_seenP (clo_all (k := 5) (by kernel_rfl)) (oo_0 O) (Nat.zero_le 5) (by kernel_rfl) (by kernel_rfl) (by kernel_rfl) (by kernel_rfl))
    | cons p ps =>
      refine Runs.lp (by kernel_rfl) (Runs.sqR mixed hkU [] (by kernel_rfl) (by kernel_rfl) (by kernel_rfl) oblN (Runs.sq (by kernel_rfl) ?_))
      refine Runs.cd (b := ltF (.ofNat r) (.ofNat r)) (by kernel_rfl) (fun ht => by rw [lt_self] at ht; cases ht) (fun _ => Runs.now (x := .exit 6) (by kernel_rfl) ⟨rfl, ?_⟩)
      exact (less_seenP (clo_all (k := 6) (by kernel_rfl)) (oo_1 O) (Nat.zero_le 6) (by kernel_rfl) (by kernel_rfl) (by kernel_rfl) (by kernel_rfl))
  | succ d ih =>
    intro r f hr
    have hlt : r < n := by omega
    have hih := ih (r + 1) (outR n ps f) (by omega)
    rw [show itR n ps (d + 1) f = itR n ps d (outR n ps f) from rfl]
    generalize itR n ps d (outR n ps f) = R at hih ⊢
    cases ps with
    | nil =>
      refine Runs.lp (by kernel_rfl) (Runs.sqR mixed hkU [] (by kernel_rfl) (by kernel_rfl) (by kernel_rfl) oblN (Runs.sq (by kernel_rfl) ?_))
      refine Runs.cd (b := ltF (.ofNat r) (.ofNat n)) (by kernel_rfl) (fun _ => Runs.now (x := .normal) (by kernel_rfl) ?_) (fun hf => by rw [lt_of hlt] at hf; cases hf)
      show Runs Tryz.prog 0 _ _ _
      refine Runs.sq (by kernel_rfl) (Runs.bk (id := 7) (by kernel_rfl) ?_)
      refine Runs.sqR mixed hkU [] (by kernel_rfl) (by kernel_rfl) (by kernel_rfl) oblN (Runs.bk (id := 8) (by kernel_rfl) ?_)
      refine Runs.lp (by kernel_rfl) (Runs.sqR mixed hkU [] (by kernel_rfl) (by kernel_rfl) (by kernel_rfl) oblN (Runs.sq (by kernel_rfl) ?_))
      refine Runs.cd (b := false) (by kernel_rfl) (fun ht => by cases ht) (fun _ => Runs.now (x := .exit 8) (by kernel_rfl) ?_)
      show Runs Tryz.prog 0 _ _ _
      refine Runs.rg mixed hkU [viaV 0 (i64 (r + 1))] (by kernel_rfl) (by kernel_rfl) (by kernel_rfl) (oblC (shown_eq (v := .int .i64 (wrapF .i64 (Int.add (.ofNat r) (.ofNat 1)))) (by kernel_rfl) (by kernel_rfl) (by rw [wrap_succ (by omega)]; rfl)) oblN) ?_
      show Runs Tryz.prog 0 lpr _ _
      exact Runs.less (af1 := sth (SR n (r + 1)) 252 (OO c0 ty0 k s l n f [])) (less_seenP (clo_all (k := 5) (by kernel_rfl)) (oo_0 O) (Nat.zero_le 5) (by kernel_rfl) (by kernel_rfl) (by kernel_rfl) (by kernel_rfl)) hih
    | cons p ps =>
      have hq := round3 (c0 := c0) (ty0 := ty0) (k := k) (r := r) O (p0 := p) (ps := ps) (n := n) rfl hm1 hpn (p :: ps).length 0 f (by omega)
      rw [List.drop_zero] at hq
      refine Runs.lp (by kernel_rfl) (Runs.sqR mixed hkU [] (by kernel_rfl) (by kernel_rfl) (by kernel_rfl) oblN (Runs.sq (by kernel_rfl) ?_))
      refine Runs.cd (b := ltF (.ofNat r) (.ofNat n)) (by kernel_rfl) (fun _ => Runs.now (x := .normal) (by kernel_rfl) ?_) (fun hf => by rw [lt_of hlt] at hf; cases hf)
      show Runs Tryz.prog 0 _ _ _
      refine Runs.sq (by kernel_rfl) (Runs.bk (id := 7) (by kernel_rfl) ?_)
      refine Runs.sqR mixed hkU [] (by kernel_rfl) (by kernel_rfl) (by kernel_rfl) oblN (Runs.bk (id := 8) (by kernel_rfl) ?_)
      show Runs Tryz.prog 0 lpq _ _
      refine Runs.less (af1 := sth (SQ n r (p :: ps).length 0) 252 (OO c0 ty0 k s l n f (p :: ps))) (less_seenP (clo_all (k := 6) (by kernel_rfl)) (oo_1 O) (Nat.zero_le 6) (by kernel_rfl) (by kernel_rfl) (by kernel_rfl) (by kernel_rfl)) ?_
      refine hq.mono fun e af hx => ?_
      obtain ⟨rfl, less⟩ := hx
      show Runs Tryz.prog 0 _ af _
      refine Runs.less less ?_
      refine Runs.rg mixed hkU [viaV 0 (i64 (r + 1))] (by kernel_rfl) (by kernel_rfl) (by kernel_rfl) (oblC (shown_eq (v := .int .i64 (wrapF .i64 (Int.add (.ofNat r) (.ofNat 1)))) (by kernel_rfl) (by kernel_rfl) (by rw [wrap_succ (by omega)]; rfl)) oblN) ?_
      show Runs Tryz.prog 0 lpr _ _
      exact Runs.less (af1 := sth (SR n (r + 1)) 252 (OO c0 ty0 k s l n (outR n (p :: ps) f) (p :: ps))) (less_seenP (clo_all (k := 6) (by kernel_rfl)) (oo_1 O) (Nat.zero_le 6) (by kernel_rfl) (by kernel_rfl) (by kernel_rfl) (by kernel_rfl)) hih
end
end
end Go.Proofs.YtbcjmmbmeebfgaaGreatDoor

/- TopFlooded: what the law's loops compute: the pipes of the places, who is at the edge, who is stuck. -/
namespace Go.Proofs.YtbcjmmbmeebfgaaGreatDoor
set_option linter.unusedVariables false
set_option linter.unusedSimpArgs false
open Go Go.R
set_option maxRecDepth 1000000
noncomputable section
theorem inR_eq {p : Nat → Bool} {i : Nat} : ∀ d j ps, inR p i d j ps = ps ++ ((List.range' j d).filter p).map fun j => (i, j)
  | 0, j, ps => by show ps = _; rw [List.range'_zero, List.filter_nil, List.map_nil, List.append_nil]
  | d + 1, j, ps => by
    show inR p i d (j + 1) (if p j then ps ++ [(i, j)] else ps) = _
    rw [inR_eq d (j + 1), List.range'_succ, List.filter_cons]
    cases p j with
    | true => rw [if_pos rfl, if_pos rfl, List.map_cons, List.append_assoc]; rfl
    | false => rw [if_neg Bool.false_ne_true, if_neg Bool.false_ne_true]
theorem oR_ps {k n : Nat} {l : List Nat} : ∀ d i (f : Nat → Bool) ps, (oR k l n d i f ps).2 = ps ++ (List.range' i d).flatMap fun i => (if bdP k l i then [(i, n)] else []) ++ ((List.range n).filter fun j => nxP l i j).map fun j => (i, j)
  | 0, i, f, ps => by show ps = _; rw [List.range'_zero, List.flatMap_nil, List.append_nil]
  | d + 1, i, f, ps => by
    show (oR k l n d (i + 1) (oS k l n i f ps).1 (oS k l n i f ps).2).2 = _
    rw [oR_ps d (i + 1), List.range'_succ, List.flatMap_cons]
    have e : (oS k l n i f ps).2 = ps ++ ((if bdP k l i then [(i, n)] else []) ++ ((List.range n).filter fun j => nxP l i j).map fun j => (i, j)) := by
      show inR (fun j => nxC (l.getD i 0) (l.getD j 0)) i n 0 (if bdC k (l.getD i 0) then ps ++ [(i, n)] else ps) = _
      rw [inR_eq, ← List.range_eq_range']
      show _ = ps ++ ((if bdC k (l.getD i 0) then [(i, n)] else []) ++ _)
      cases bdC k (l.getD i 0) with
      | true => rw [if_pos rfl, if_pos rfl, List.append_assoc]; rfl
      | false => rw [if_neg Bool.false_ne_true, if_neg Bool.false_ne_true, List.nil_append]; rfl
    rw [e, List.append_assoc]
theorem oR_f {k n : Nat} {l : List Nat} : ∀ d i (f : Nat → Bool) ps j, (oR k l n d i f ps).1 j = if i ≤ j ∧ j < i + d ∧ bdP k l j = true then true else f j
  | 0, i, f, ps, j => by show f j = _; rw [if_neg (by omega)]
  | d + 1, i, f, ps, j => by
    show (oR k l n d (i + 1) (oS k l n i f ps).1 (oS k l n i f ps).2).1 j = _
    rw [oR_f d (i + 1)]
    have e : (oS k l n i f ps).1 j = if j = i ∧ bdP k l i = true then true else f j := by
      show (if bdC k (l.getD i 0) then updB f i true else f) j = _
      show _ = if j = i ∧ bdC k (l.getD i 0) = true then true else f j
      cases bdC k (l.getD i 0) with
      | true =>
        rw [if_pos rfl]
        show (if Nat.beq j i then true else f j) = _
        by_cases h : j = i
        · rw [if_pos (nbeq.2 h), if_pos ⟨h, rfl⟩]
        · rw [if_neg (fun e => h (nbeq.1 e)), if_neg (fun e => h e.1)]
      | false => rw [if_neg Bool.false_ne_true, if_neg (fun e => absurd e.2 Bool.false_ne_true)]
    rw [e]
    by_cases h1 : i + 1 ≤ j ∧ j < i + 1 + d ∧ bdP k l j = true
    · rw [if_pos h1, if_pos ⟨by omega, by omega, h1.2.2⟩]
    · rw [if_neg h1]
      by_cases h2 : j = i ∧ bdP k l i = true
      · rw [if_pos h2, if_pos ⟨by omega, by omega, by rw [h2.1]; exact h2.2⟩]
      · rw [if_neg h2]
        rw [if_neg]
        intro ⟨a, b, c⟩
        by_cases e : j = i
        · exact h2 ⟨e, by rw [← e]; exact c⟩
        · exact h1 ⟨by omega, by omega, c⟩
theorem oR_pipes {k : Nat} {l : List Nat} : (oR k l l.length l.length 0 (fun _ => false) []).2 = pipesP k l := by
  rw [oR_ps, ← List.range_eq_range', List.nil_append]; rfl
theorem oR_edge {k : Nat} {l : List Nat} : ∀ j < l.length, (oR k l l.length l.length 0 (fun _ => false) []).1 j = bdP k l j := by
  intro j hj
  rw [oR_f]
  cases h : bdP k l j with
  | true => rw [if_pos ⟨Nat.zero_le _, by omega, rfl⟩]
  | false => rw [if_neg (fun e => absurd e.2.2 Bool.false_ne_true)]
/-- The list of those who are stuck, place by place. -/
noncomputable def sR (f : Nat → Bool) : Nat → Nat → List Nat → List Nat
  | 0, _, st => st
  | d + 1, i, st => sR f d (i + 1) (if !(f i) then st ++ [i] else st)
theorem sR_eq {f : Nat → Bool} : ∀ d i st, sR f d i st = st ++ (List.range' i d).filter fun i => !(f i)
  | 0, i, st => by show st = _; rw [List.range'_zero, List.filter_nil, List.append_nil]
  | d + 1, i, st => by
    show sR f d (i + 1) (if !(f i) then st ++ [i] else st) = _
    rw [sR_eq d (i + 1), List.range'_succ, List.filter_cons]
    cases !(f i) with
    | true => rw [if_pos rfl, if_pos rfl, List.append_assoc]; rfl
    | false => rw [if_neg Bool.false_ne_true, if_neg Bool.false_ne_true]
/-- What the law finds stuck is what the graph says. -/
theorem law_stuck {k : Nat} {l : List Nat} (F : FitP l.length (pipesP k l)) :
    sR (itR l.length (pipesP k l) l.length (oR k l l.length l.length 0 (fun _ => false) []).1) l.length 0 [] = stuckL l.length (pipesP k l) (bdP k l) := by
  rw [sR_eq, ← List.range_eq_range', List.nil_append]
  have e := itR_out (n := l.length) (l := pipesP k l) (bd := (oR k l l.length l.length 0 (fun _ => false) []).1) l.length 0
  rw [show outN l.length (pipesP k l) (oR k l l.length l.length 0 (fun _ => false) []).1 0 = (oR k l l.length l.length 0 (fun _ => false) []).1 from rfl, Nat.zero_add] at e
  rw [e]
  show stuckL l.length (pipesP k l) (oR k l l.length l.length 0 (fun _ => false) []).1 = _
  exact stuckL_congr (fun p hp => (F.pipe p hp).1) oR_edge
end
end Go.Proofs.YtbcjmmbmeebfgaaGreatDoor

/- TopFlooded: the law's list of those who are stuck. -/
namespace Go.Proofs.YtbcjmmbmeebfgaaGreatDoor
set_option linter.unusedVariables false
set_option linter.unusedSimpArgs false
open Go Go.R
set_option maxRecDepth 1000000
noncomputable section

noncomputable def stV (j : Nat) : List Nat → Value
  | [] => .slice none 0 0
  | x :: st => slR j (x :: st).length
noncomputable def jS : List (Nat × Nat) → Nat
  | [] => 5
  | _ :: _ => 6
noncomputable def OT3 (c0 : List Value) (ty0 : Option TypeId) (k : Nat) (s : Value) (l : List Nat) (n : Nat) (f : Nat → Bool) : List (Nat × Nat) → List Nat → List AObj
  | [], [] => [ob0 c0 ty0, hillK k s, rowP l, drO n (.slice none 0 0), rowW n f]
  | [], x :: st => [ob0 c0 ty0, hillK k s, rowP l, drO n (.slice none 0 0), rowW n f, rowN (x :: st)]
  | p :: ps, [] => [ob0 c0 ty0, hillK k s, rowP l, drO n (slG 5 (p :: ps).length), rowW n f, rowPi (p :: ps)]
  | p :: ps, x :: st => [ob0 c0 ty0, hillK k s, rowP l, drO n (slG 5 (p :: ps).length), rowW n f, rowPi (p :: ps), rowN (x :: st)]
noncomputable def ST3 (n i : Nat) (v : Value) : List (Nat × Value) := [(7, ptrV 1), (10, ptrV 3), (11, smallS 4 n n), (18, v), (165, i64 n), (166, i64 i)]
noncomputable def ET3 (v : Value) : List (Nat × Value) := [(7, ptrV 1), (10, ptrV 3), (18, v)]
theorem int3_info : ∃ info, Tryz.prog.info? 3 = some info ∧ info.size = 0 + 1 ∧ (decide (info.bytes > 1000000) || !zfit info) = false := ⟨(Tryz.prog.info? 3).get!, by kernel_rfl, by kernel_rfl, by kernel_rfl⟩
section
variable {c0 : List Value} {ty0 : Option TypeId} {k n : Nat} {s : Value} {l : List Nat} {f : Nat → Bool}
theorem os3_0 (O : Outer c0 s l) : ∀ o ∈ OT3 c0 ty0 k s l n f [] [], CloO 5 o := fun o ho => by
  simp only [OT3, List.mem_cons, List.mem_nil_iff, or_false] at ho
  rcases ho with rfl | rfl | rfl | rfl | rfl
  · exact cloO_plain O.p0 _ _
  · exact hillK_clo (gsv_clo O.gs (by decide))
  · exact rowP_clo
  · exact drO_clo0
  · exact rowW_clo
theorem os3_1 (O : Outer c0 s l) {x : Nat} {st : List Nat} : ∀ o ∈ OT3 c0 ty0 k s l n f [] (x :: st), CloO 6 o := fun o ho => by
  simp only [OT3, List.mem_cons, List.mem_nil_iff, or_false] at ho
  rcases ho with rfl | rfl | rfl | rfl | rfl | rfl
  · exact cloO_plain O.p0 _ _
  · exact hillK_clo (gsv_clo O.gs (by decide))
  · exact rowP_clo
  · exact drO_clo0
  · exact rowW_clo
  · exact rowN_clo
theorem os3_2 (O : Outer c0 s l) {p : Nat × Nat} {ps : List (Nat × Nat)} : ∀ o ∈ OT3 c0 ty0 k s l n f (p :: ps) [], CloO 6 o := fun o ho => by
  simp only [OT3, List.mem_cons, List.mem_nil_iff, or_false] at ho
  rcases ho with rfl | rfl | rfl | rfl | rfl | rfl
  · exact cloO_plain O.p0 _ _
  · exact hillK_clo (gsv_clo O.gs (by decide))
  · exact rowP_clo
  · exact drO_clo (by decide)
  · exact rowW_clo
  · exact rowPi_clo
theorem os3_3 (O : Outer c0 s l) {p : Nat × Nat} {ps : List (Nat × Nat)} {x : Nat} {st : List Nat} : ∀ o ∈ OT3 c0 ty0 k s l n f (p :: ps) (x :: st), CloO 7 o := fun o ho => by
  simp only [OT3, List.mem_cons, List.mem_nil_iff, or_false] at ho
  rcases ho with rfl | rfl | rfl | rfl | rfl | rfl | rfl
  · exact cloO_plain O.p0 _ _
  · exact hillK_clo (gsv_clo O.gs (by decide))
  · exact rowP_clo
  · exact drO_clo (by decide)
  · exact rowW_clo
  · exact rowPi_clo
  · exact rowN_clo
theorem stuck3 (O : Outer c0 s l) (hn : n < 5) {ps : List (Nat × Nat)} : ∀ d i st, i + d = n → st.length ≤ i →
    Runs Tryz.prog 0 lps (sth (ST3 n i (stV (jS ps) st)) 252 (OT3 c0 ty0 k s l n f ps st)) fun e af => e = .exit 10 ∧ Less 0 (sth (ET3 (stV (jS ps) (sR f d i st))) 252 (OT3 c0 ty0 k s l n f ps (sR f d i st))) af := by
  intro d
  induction d with
  | zero =>
    intro i st hi _
    have e : i = n := by omega
    subst e
    cases ps with
    | nil =>
      cases st with
      | nil =>
        refine Runs.lp (by kernel_rfl) (Runs.sqR mixed hkU [] (by kernel_rfl) (by kernel_rfl) (by kernel_rfl) oblN (Runs.sq (by kernel_rfl) ?_))
        refine Runs.cd (b := ltF (.ofNat i) (.ofNat i)) (by kernel_rfl) (fun ht => by rw [lt_self] at ht; cases ht) (fun _ => Runs.now (x := .exit 10) (by kernel_rfl) ⟨rfl, ?_⟩)
        exact (less_seenP (clo_all (k := 5) (by kernel_rfl)) (os3_0 O) (Nat.zero_le 5) (by kernel_rfl) (by kernel_rfl) (by kernel_rfl) (by kernel_rfl))
      | cons x st =>
        refine Runs.lp (by kernel_rfl) (Runs.sqR mixed hkU [] (by kernel_rfl) (by kernel_rfl) (by kernel_rfl) oblN (Runs.sq (by kernel_rfl) ?_))
        refine Runs.cd (b := ltF (.ofNat i) (.ofNat i)) (by kernel_rfl) (fun ht => by rw [lt_self] at ht; cases ht) (fun _ => Runs.now (x := .exit 10) (by kernel_rfl) ⟨rfl, ?_⟩)
        exact (less_seenP (clo_all (k := 6) (by kernel_rfl)) (os3_1 O) (Nat.zero_le 6) (by kernel_rfl) (by kernel_rfl) (by kernel_rfl) (by kernel_rfl))
    | cons p ps =>
      cases st with
      | nil =>
        refine Runs.lp (by kernel_rfl) (Runs.sqR mixed hkU [] (by kernel_rfl) (by kernel_rfl) (by kernel_rfl) oblN (Runs.sq (by kernel_rfl) ?_))
        refine Runs.cd (b := ltF (.ofNat i) (.ofNat i)) (by kernel_rfl) (fun ht => by rw [lt_self] at ht; cases ht) (fun _ => Runs.now (x := .exit 10) (by kernel_rfl) ⟨rfl, ?_⟩)
        exact (less_seenP (clo_all (k := 6) (by kernel_rfl)) (os3_2 O) (Nat.zero_le 6) (by kernel_rfl) (by kernel_rfl) (by kernel_rfl) (by kernel_rfl))
      | cons x st =>
        refine Runs.lp (by kernel_rfl) (Runs.sqR mixed hkU [] (by kernel_rfl) (by kernel_rfl) (by kernel_rfl) oblN (Runs.sq (by kernel_rfl) ?_))
        refine Runs.cd (b := ltF (.ofNat i) (.ofNat i)) (by kernel_rfl) (fun ht => by rw [lt_self] at ht; cases ht) (fun _ => Runs.now (x := .exit 10) (by kernel_rfl) ⟨rfl, ?_⟩)
        exact (less_seenP (clo_all (k := 7) (by kernel_rfl)) (os3_3 O) (Nat.zero_le 7) (by kernel_rfl) (by kernel_rfl) (by kernel_rfl) (by kernel_rfl))
  | succ d ih =>
    intro i st hi hst
    have hlt : i < n := by omega
    have hr := ih (i + 1) (if !(f i) then st ++ [i] else st) (by omega) (by
      split
      · rw [List.length_append]; show st.length + 1 ≤ i + 1; omega
      · omega)
    rw [show sR f (d + 1) i st = sR f d (i + 1) (if !(f i) then st ++ [i] else st) from rfl]
    generalize sR f d (i + 1) (if !(f i) then st ++ [i] else st) = R at hr ⊢
    cases ps with
    | nil =>
      cases st with
      | nil =>
        have hat : ∀ {h : AH}, h.get 4 = rowW n f → rowAt? h 4 (0 + i * 1) 1 = some [.bool (f i)] := fun e => rowW_at e hlt
        generalize f i = v at hr hat
        refine Runs.lp (by kernel_rfl) (Runs.sqR mixed hkU [] (by kernel_rfl) (by kernel_rfl) (by kernel_rfl) oblN (Runs.sq (by kernel_rfl) ?_))
        refine Runs.cd (b := ltF (.ofNat i) (.ofNat n)) (by kernel_rfl) (fun _ => Runs.now (x := .normal) (by kernel_rfl) ?_) (fun hf => by rw [lt_of hlt] at hf; cases hf)
        show Runs Tryz.prog 0 _ _ _
        refine Runs.sq (by kernel_rfl) (Runs.bk (id := 11) (by kernel_rfl) ?_)
        refine Runs.sqR mixed hkU [] (by kernel_rfl) (by kernel_rfl) (by kernel_rfl) oblN ?_
        refine Runs.sqR mixed hkU [viaV 2 (.pointer (some ⟨4, 0 + i * 1, none⟩)), viaV 3 (.bool v)] (by kernel_rfl) (by kernel_rfl) (by kernel_rfl)
          (oblC (shown_idx (n := n) (by kernel_rfl) hlt) (oblC (shown_cell (by kernel_rfl) (hat (by kernel_rfl))) oblN)) ?_
        refine Runs.cd (b := !v) (by kernel_rfl) (fun ht => ?_) (fun hf => Runs.now (x := .normal) (by kernel_rfl) ?_)
        · rw [if_pos ht] at hr
          refine Runs.rg mixed hkU [] (by kernel_rfl) (by kernel_rfl) (by kernel_rfl) oblN ?_
          show Runs Tryz.prog 0 _ _ _
          refine Runs.rg mixed hkU [viaV 0 (i64 (i + 1))] (by kernel_rfl) (by kernel_rfl) (by kernel_rfl) (oblC (shown_eq (v := .int .i64 (wrapF .i64 (Int.add (.ofNat i) (.ofNat 1)))) (by kernel_rfl) (by kernel_rfl) (by rw [wrap_succ (by omega)]; rfl)) oblN) ?_
          show Runs Tryz.prog 0 lps _ _
          exact Runs.renumK (sz := 252) (l := ST3 n (i + 1) (slR 5 1)) (os := [ob0 c0 ty0, hillK k s, rowP l, drO n (.slice none 0 0), rowW n f, rowN [i]]) (fun j => match j with | 5 => 6 | j => j) (fun j => match j with | 6 => 5 | j => j) (by kernel_rfl) (Nat.zero_le 6) (by kernel_rfl) fix0 (by kernel_rfl) (by kernel_rfl) (by kernel_rfl) (by kernel_rfl)
            (obsL [ob0 c0 ty0, hillK k s, rowP l, drO n (.slice none 0 0), rowW n f, .cells [i64 i] true [] (some 3)] (by kernel_rfl)
              ⟨obs_ob0 O.p0, obs_hk (σ := fun j => match j with | 6 => 5 | j => j) O.gs rfl rfl rfl, obs_rowP rfl rfl, RenO.of (σ := fun j => j) rfl rfl, obs_rowW, obs_rowN rfl rfl, trivial⟩) hr
        · rw [if_neg (by rw [hf]; exact Bool.false_ne_true)] at hr
          show Runs Tryz.prog 0 _ _ _
          refine Runs.rg mixed hkU [viaV 0 (i64 (i + 1))] (by kernel_rfl) (by kernel_rfl) (by kernel_rfl) (oblC (shown_eq (v := .int .i64 (wrapF .i64 (Int.add (.ofNat i) (.ofNat 1)))) (by kernel_rfl) (by kernel_rfl) (by rw [wrap_succ (by omega)]; rfl)) oblN) ?_
          show Runs Tryz.prog 0 lps _ _
          exact Runs.less (af1 := sth (ST3 n (i + 1) (stV 5 [])) 252 (OT3 c0 ty0 k s l n f [] [])) (less_seenP (clo_all (k := 5) (by kernel_rfl)) (os3_0 O) (Nat.zero_le 5) (by kernel_rfl) (by kernel_rfl) (by kernel_rfl) (by kernel_rfl)) hr
      | cons x st =>
        have hat : ∀ {h : AH}, h.get 4 = rowW n f → rowAt? h 4 (0 + i * 1) 1 = some [.bool (f i)] := fun e => rowW_at e hlt
        generalize f i = v at hr hat
        refine Runs.lp (by kernel_rfl) (Runs.sqR mixed hkU [] (by kernel_rfl) (by kernel_rfl) (by kernel_rfl) oblN (Runs.sq (by kernel_rfl) ?_))
        refine Runs.cd (b := ltF (.ofNat i) (.ofNat n)) (by kernel_rfl) (fun _ => Runs.now (x := .normal) (by kernel_rfl) ?_) (fun hf => by rw [lt_of hlt] at hf; cases hf)
        show Runs Tryz.prog 0 _ _ _
        refine Runs.sq (by kernel_rfl) (Runs.bk (id := 11) (by kernel_rfl) ?_)
        refine Runs.sqR mixed hkU [] (by kernel_rfl) (by kernel_rfl) (by kernel_rfl) oblN ?_
        refine Runs.sqR mixed hkU [viaV 2 (.pointer (some ⟨4, 0 + i * 1, none⟩)), viaV 3 (.bool v)] (by kernel_rfl) (by kernel_rfl) (by kernel_rfl)
          (oblC (shown_idx (n := n) (by kernel_rfl) hlt) (oblC (shown_cell (by kernel_rfl) (hat (by kernel_rfl))) oblN)) ?_
        refine Runs.cd (b := !v) (by kernel_rfl) (fun ht => ?_) (fun hf => Runs.now (x := .normal) (by kernel_rfl) ?_)
        · rw [if_pos ht] at hr
          have hO : sth (ST3 n (i + 1) (stV 5 (x :: (st ++ [i])))) 252 [ob0 c0 ty0, hillK k s, rowP l, drO n (.slice none 0 0), rowW n f, rowN (x :: (st ++ [i]))] = sth (ST3 n (i + 1) (slR 5 ((x :: st).length + 1))) 252 [ob0 c0 ty0, hillK k s, rowP l, drO n (.slice none 0 0), rowW n f, rowN (x :: (st ++ [i]))] := by
            show sth (ST3 n (i + 1) (slR 5 (x :: (st ++ [i])).length)) 252 _ = _
            rw [show (x :: (st ++ [i])).length = (x :: st).length + 1 by simp]
          have hr1 : Runs Tryz.prog 0 lps (sth (ST3 n (i + 1) (slR 5 ((x :: st).length + 1))) 252 [ob0 c0 ty0, hillK k s, rowP l, drO n (.slice none 0 0), rowW n f, rowN (x :: (st ++ [i]))]) fun e af => e = .exit 10 ∧ Less 0 (sth (ET3 (stV 5 R)) 252 (OT3 c0 ty0 k s l n f [] R)) af := by
            rw [← hO]; exact hr
          let H0 : AH := hp (OT3 c0 ty0 k s l n f [] (x :: st))
          let H2 : AH := (H0.new (.cells [i64 i] true [] (some 3))).2
          have hap := push_gen (st := 37) (e := 3) (z := 0) (by kernel_rfl) int3_info (h := H2) (i := 5) (j := 6) (x := [i64 i]) (c := natsC (x :: st)) (m := (x :: st).length) (par := []) rfl rfl (by rw [natsC_len]; omega) (by omega) (by kernel_rfl) (by kernel_rfl)
          refine Runs.rg mixed hkU [⟨3, slR 7 ((x :: st).length + 1), some ((H2.put 5 (.cells (natsC (x :: st)) false [] (some 3))).new (.cells (natsC (x :: st) ++ [i64 i]) true [5] (some 3))).2, none⟩] (by kernel_rfl) (by kernel_rfl) (by kernel_rfl)
            (oblC ⟨by kernel_rfl, (show _ = appendA Tryz.prog #[37, 37] (.slice (some ⟨5, 0, some 1⟩) (x :: st).length (x :: st).length) (.slice (some ⟨6, 0, none⟩) 1 1) H2 by kernel_rfl).trans hap⟩ oblN) ?_
          show Runs Tryz.prog 0 _ _ _
          refine Runs.rg mixed hkU [viaV 0 (i64 (i + 1))] (by kernel_rfl) (by kernel_rfl) (by kernel_rfl) (oblC (shown_eq (v := .int .i64 (wrapF .i64 (Int.add (.ofNat i) (.ofNat 1)))) (by kernel_rfl) (by kernel_rfl) (by rw [wrap_succ (by omega)]; rfl)) oblN) ?_
          show Runs Tryz.prog 0 lps _ _
          exact Runs.renumK (sz := 252) (l := ST3 n (i + 1) (slR 5 ((x :: st).length + 1))) (os := [ob0 c0 ty0, hillK k s, rowP l, drO n (.slice none 0 0), rowW n f, rowN (x :: (st ++ [i]))]) (fun j => match j with | 5 => 7 | j => j) (fun j => match j with | 7 => 5 | j => j) (by kernel_rfl) (Nat.zero_le 6) (by kernel_rfl) fix0 (by kernel_rfl) (by kernel_rfl) (by kernel_rfl) (by kernel_rfl)
            (obsL [ob0 c0 ty0, hillK k s, rowP l, drO n (.slice none 0 0), rowW n f, .cells (natsC (x :: st) ++ [i64 i]) true [5] (some 3)] (by kernel_rfl)
              ⟨obs_ob0 O.p0, obs_hk (σ := fun j => match j with | 7 => 5 | j => j) O.gs rfl rfl rfl, obs_rowP rfl rfl, RenO.of (σ := fun j => j) rfl rfl, obs_rowW, obs_rowN rfl (natsC_app (x :: st) [i]), trivial⟩) hr1
        · rw [if_neg (by rw [hf]; exact Bool.false_ne_true)] at hr
          show Runs Tryz.prog 0 _ _ _
          refine Runs.rg mixed hkU [viaV 0 (i64 (i + 1))] (by kernel_rfl) (by kernel_rfl) (by kernel_rfl) (oblC (shown_eq (v := .int .i64 (wrapF .i64 (Int.add (.ofNat i) (.ofNat 1)))) (by kernel_rfl) (by kernel_rfl) (by rw [wrap_succ (by omega)]; rfl)) oblN) ?_
          show Runs Tryz.prog 0 lps _ _
          exact Runs.less (af1 := sth (ST3 n (i + 1) (stV 5 (x :: st))) 252 (OT3 c0 ty0 k s l n f [] (x :: st))) (less_seenP (clo_all (k := 6) (by kernel_rfl)) (os3_1 O) (Nat.zero_le 6) (by kernel_rfl) (by kernel_rfl) (by kernel_rfl) (by kernel_rfl)) hr
    | cons p ps =>
      cases st with
      | nil =>
        have hat : ∀ {h : AH}, h.get 4 = rowW n f → rowAt? h 4 (0 + i * 1) 1 = some [.bool (f i)] := fun e => rowW_at e hlt
        generalize f i = v at hr hat
        refine Runs.lp (by kernel_rfl) (Runs.sqR mixed hkU [] (by kernel_rfl) (by kernel_rfl) (by kernel_rfl) oblN (Runs.sq (by kernel_rfl) ?_))
        refine Runs.cd (b := ltF (.ofNat i) (.ofNat n)) (by kernel_rfl) (fun _ => Runs.now (x := .normal) (by kernel_rfl) ?_) (fun hf => by rw [lt_of hlt] at hf; cases hf)
        show Runs Tryz.prog 0 _ _ _
        refine Runs.sq (by kernel_rfl) (Runs.bk (id := 11) (by kernel_rfl) ?_)
        refine Runs.sqR mixed hkU [] (by kernel_rfl) (by kernel_rfl) (by kernel_rfl) oblN ?_
        refine Runs.sqR mixed hkU [viaV 2 (.pointer (some ⟨4, 0 + i * 1, none⟩)), viaV 3 (.bool v)] (by kernel_rfl) (by kernel_rfl) (by kernel_rfl)
          (oblC (shown_idx (n := n) (by kernel_rfl) hlt) (oblC (shown_cell (by kernel_rfl) (hat (by kernel_rfl))) oblN)) ?_
        refine Runs.cd (b := !v) (by kernel_rfl) (fun ht => ?_) (fun hf => Runs.now (x := .normal) (by kernel_rfl) ?_)
        · rw [if_pos ht] at hr
          refine Runs.rg mixed hkU [] (by kernel_rfl) (by kernel_rfl) (by kernel_rfl) oblN ?_
          show Runs Tryz.prog 0 _ _ _
          refine Runs.rg mixed hkU [viaV 0 (i64 (i + 1))] (by kernel_rfl) (by kernel_rfl) (by kernel_rfl) (oblC (shown_eq (v := .int .i64 (wrapF .i64 (Int.add (.ofNat i) (.ofNat 1)))) (by kernel_rfl) (by kernel_rfl) (by rw [wrap_succ (by omega)]; rfl)) oblN) ?_
          show Runs Tryz.prog 0 lps _ _
          exact Runs.renumK (sz := 252) (l := ST3 n (i + 1) (slR 6 1)) (os := [ob0 c0 ty0, hillK k s, rowP l, drO n (slG 5 (p :: ps).length), rowW n f, rowPi (p :: ps), rowN [i]]) (fun j => match j with | 6 => 7 | j => j) (fun j => match j with | 7 => 6 | j => j) (by kernel_rfl) (Nat.zero_le 7) (by kernel_rfl) fix0 (by kernel_rfl) (by kernel_rfl) (by kernel_rfl) (by kernel_rfl)
            (obsL [ob0 c0 ty0, hillK k s, rowP l, drO n (slG 5 (p :: ps).length), rowW n f, rowPi (p :: ps), .cells [i64 i] true [] (some 3)] (by kernel_rfl)
              ⟨obs_ob0 O.p0, obs_hk (σ := fun j => match j with | 7 => 6 | j => j) O.gs rfl rfl rfl, obs_rowP rfl rfl, RenO.of (σ := fun j => j) rfl rfl, obs_rowW, obs_pi rfl rfl, obs_rowN rfl rfl, trivial⟩) hr
        · rw [if_neg (by rw [hf]; exact Bool.false_ne_true)] at hr
          show Runs Tryz.prog 0 _ _ _
          refine Runs.rg mixed hkU [viaV 0 (i64 (i + 1))] (by kernel_rfl) (by kernel_rfl) (by kernel_rfl) (oblC (shown_eq (v := .int .i64 (wrapF .i64 (Int.add (.ofNat i) (.ofNat 1)))) (by kernel_rfl) (by kernel_rfl) (by rw [wrap_succ (by omega)]; rfl)) oblN) ?_
          show Runs Tryz.prog 0 lps _ _
          exact Runs.less (af1 := sth (ST3 n (i + 1) (stV 6 [])) 252 (OT3 c0 ty0 k s l n f (p :: ps) [])) (less_seenP (clo_all (k := 6) (by kernel_rfl)) (os3_2 O) (Nat.zero_le 6) (by kernel_rfl) (by kernel_rfl) (by kernel_rfl) (by kernel_rfl)) hr
      | cons x st =>
        have hat : ∀ {h : AH}, h.get 4 = rowW n f → rowAt? h 4 (0 + i * 1) 1 = some [.bool (f i)] := fun e => rowW_at e hlt
        generalize f i = v at hr hat
        refine Runs.lp (by kernel_rfl) (Runs.sqR mixed hkU [] (by kernel_rfl) (by kernel_rfl) (by kernel_rfl) oblN (Runs.sq (by kernel_rfl) ?_))
        refine Runs.cd (b := ltF (.ofNat i) (.ofNat n)) (by kernel_rfl) (fun _ => Runs.now (x := .normal) (by kernel_rfl) ?_) (fun hf => by rw [lt_of hlt] at hf; cases hf)
        show Runs Tryz.prog 0 _ _ _
        refine Runs.sq (by kernel_rfl) (Runs.bk (id := 11) (by kernel_rfl) ?_)
        refine Runs.sqR mixed hkU [] (by kernel_rfl) (by kernel_rfl) (by kernel_rfl) oblN ?_
        refine Runs.sqR mixed hkU [viaV 2 (.pointer (some ⟨4, 0 + i * 1, none⟩)), viaV 3 (.bool v)] (by kernel_rfl) (by kernel_rfl) (by kernel_rfl)
          (oblC (shown_idx (n := n) (by kernel_rfl) hlt) (oblC (shown_cell (by kernel_rfl) (hat (by kernel_rfl))) oblN)) ?_
        refine Runs.cd (b := !v) (by kernel_rfl) (fun ht => ?_) (fun hf => Runs.now (x := .normal) (by kernel_rfl) ?_)
        · rw [if_pos ht] at hr
          have hO : sth (ST3 n (i + 1) (stV 6 (x :: (st ++ [i])))) 252 [ob0 c0 ty0, hillK k s, rowP l, drO n (slG 5 (p :: ps).length), rowW n f, rowPi (p :: ps), rowN (x :: (st ++ [i]))] = sth (ST3 n (i + 1) (slR 6 ((x :: st).length + 1))) 252 [ob0 c0 ty0, hillK k s, rowP l, drO n (slG 5 (p :: ps).length), rowW n f, rowPi (p :: ps), rowN (x :: (st ++ [i]))] := by
            show sth (ST3 n (i + 1) (slR 6 (x :: (st ++ [i])).length)) 252 _ = _
            rw [show (x :: (st ++ [i])).length = (x :: st).length + 1 by simp]
          have hr1 : Runs Tryz.prog 0 lps (sth (ST3 n (i + 1) (slR 6 ((x :: st).length + 1))) 252 [ob0 c0 ty0, hillK k s, rowP l, drO n (slG 5 (p :: ps).length), rowW n f, rowPi (p :: ps), rowN (x :: (st ++ [i]))]) fun e af => e = .exit 10 ∧ Less 0 (sth (ET3 (stV 6 R)) 252 (OT3 c0 ty0 k s l n f (p :: ps) R)) af := by
            rw [← hO]; exact hr
          let H0 : AH := hp (OT3 c0 ty0 k s l n f (p :: ps) (x :: st))
          let H2 : AH := (H0.new (.cells [i64 i] true [] (some 3))).2
          have hap := push_gen (st := 37) (e := 3) (z := 0) (by kernel_rfl) int3_info (h := H2) (i := 6) (j := 7) (x := [i64 i]) (c := natsC (x :: st)) (m := (x :: st).length) (par := []) rfl rfl (by rw [natsC_len]; omega) (by omega) (by kernel_rfl) (by kernel_rfl)
          refine Runs.rg mixed hkU [⟨3, slR 8 ((x :: st).length + 1), some ((H2.put 6 (.cells (natsC (x :: st)) false [] (some 3))).new (.cells (natsC (x :: st) ++ [i64 i]) true [6] (some 3))).2, none⟩] (by kernel_rfl) (by kernel_rfl) (by kernel_rfl)
            (oblC ⟨by kernel_rfl, (show _ = appendA Tryz.prog #[37, 37] (.slice (some ⟨6, 0, some 1⟩) (x :: st).length (x :: st).length) (.slice (some ⟨7, 0, none⟩) 1 1) H2 by kernel_rfl).trans hap⟩ oblN) ?_
          show Runs Tryz.prog 0 _ _ _
          refine Runs.rg mixed hkU [viaV 0 (i64 (i + 1))] (by kernel_rfl) (by kernel_rfl) (by kernel_rfl) (oblC (shown_eq (v := .int .i64 (wrapF .i64 (Int.add (.ofNat i) (.ofNat 1)))) (by kernel_rfl) (by kernel_rfl) (by rw [wrap_succ (by omega)]; rfl)) oblN) ?_
          show Runs Tryz.prog 0 lps _ _
          exact Runs.renumK (sz := 252) (l := ST3 n (i + 1) (slR 6 ((x :: st).length + 1))) (os := [ob0 c0 ty0, hillK k s, rowP l, drO n (slG 5 (p :: ps).length), rowW n f, rowPi (p :: ps), rowN (x :: (st ++ [i]))]) (fun j => match j with | 6 => 8 | j => j) (fun j => match j with | 8 => 6 | j => j) (by kernel_rfl) (Nat.zero_le 7) (by kernel_rfl) fix0 (by kernel_rfl) (by kernel_rfl) (by kernel_rfl) (by kernel_rfl)
            (obsL [ob0 c0 ty0, hillK k s, rowP l, drO n (slG 5 (p :: ps).length), rowW n f, rowPi (p :: ps), .cells (natsC (x :: st) ++ [i64 i]) true [6] (some 3)] (by kernel_rfl)
              ⟨obs_ob0 O.p0, obs_hk (σ := fun j => match j with | 8 => 6 | j => j) O.gs rfl rfl rfl, obs_rowP rfl rfl, RenO.of (σ := fun j => j) rfl rfl, obs_rowW, obs_pi rfl rfl, obs_rowN rfl (natsC_app (x :: st) [i]), trivial⟩) hr1
        · rw [if_neg (by rw [hf]; exact Bool.false_ne_true)] at hr
          show Runs Tryz.prog 0 _ _ _
          refine Runs.rg mixed hkU [viaV 0 (i64 (i + 1))] (by kernel_rfl) (by kernel_rfl) (by kernel_rfl) (oblC (shown_eq (v := .int .i64 (wrapF .i64 (Int.add (.ofNat i) (.ofNat 1)))) (by kernel_rfl) (by kernel_rfl) (by rw [wrap_succ (by omega)]; rfl)) oblN) ?_
          show Runs Tryz.prog 0 lps _ _
          exact Runs.less (af1 := sth (ST3 n (i + 1) (stV 6 (x :: st))) 252 (OT3 c0 ty0 k s l n f (p :: ps) (x :: st))) (less_seenP (clo_all (k := 7) (by kernel_rfl)) (os3_3 O) (Nat.zero_le 7) (by kernel_rfl) (by kernel_rfl) (by kernel_rfl) (by kernel_rfl)) hr
end
end
end Go.Proofs.YtbcjmmbmeebfgaaGreatDoor
