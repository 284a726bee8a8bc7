/- TopFlooded: a place that stands in a row of places is found there, as a contract. -/
import Derived.Test.YtbcjmmbmeebfgaaGreatDoorSFloodedUF2
import Derived.Test.YtbcjmmbmeebfgaaGreatDoorSFloodedUF7
namespace Go.Proofs.YtbcjmmbmeebfgaaGreatDoor
set_option linter.unusedVariables false
set_option linter.unusedSimpArgs false
open Go Go.R
set_option maxRecDepth 1000000
noncomputable section
theorem place_cmp : ((List.range 64).all fun x => (List.range 64).all fun y => aggEq Tryz.prog 35 #[i64 (x / 7), i64 (x % 7)] #[i64 (y / 7), i64 (y % 7)] == some (Nat.beq x y)) = true := by kernel_rfl
theorem place_is {x y : Nat} (hx : x < 64) (hy : y < 64) : aggEq Tryz.prog 35 #[i64 (x / 7), i64 (x % 7)] #[i64 (y / 7), i64 (y % 7)] = some (Nat.beq x y) := eq_of_beq (List.all_eq_true.1 (List.all_eq_true.1 place_cmp x (List.mem_range.2 hx)) y (List.mem_range.2 hy))
end
end Go.Proofs.YtbcjmmbmeebfgaaGreatDoor

/- TopFlooded: slices.Index, Contains of a place that stands in the row, as contracts. -/
namespace Go.Proofs.YtbcjmmbmeebfgaaGreatDoor
set_option linter.unusedVariables false
set_option linter.unusedSimpArgs false
open Go Go.R
set_option maxRecDepth 1000000
noncomputable section
noncomputable def c40 : Code := bodyOf Tryz.f40
noncomputable def lp40 : Code := within (tl (hd (behind 1 c40)))
noncomputable def plcO (x : Nat) : AObj := .cells [i64 (x / 7), i64 (x % 7)] true [] (some 35)
noncomputable def O40 (l : List Nat) (x : Nat) : List AObj := [viewP l, plcO x]
theorem o40_clo {l : List Nat} {x : Nat} : ∀ o ∈ O40 l x, CloO 2 o := fun o ho => by
  simp only [O40, List.mem_cons, List.mem_nil_iff, or_false] at ho
  rcases ho with rfl | rfl
  · exact cloO_plain (placesC_plain _) _ _
  · exact cloO_plain (fun v hv => by simp only [List.mem_cons, List.mem_nil_iff, or_false] at hv; rcases hv with rfl | rfl <;> rfl) _ _
noncomputable def S40p (n cap i : Nat) : List (Nat × Value) := [(0, smallS 0 n cap), (3, ptrV 1), (7, i64 n), (8, i64 i)]
noncomputable def idxP (x : Nat) : List Nat → Nat
  | [] => 0
  | y :: l => if Nat.beq x y then 0 else idxP x l + 1
theorem idx40_loop {n cap x : Nat} {l : List Nat} (hb : ∀ y ∈ l, y < 64) (hx : x < 64) (hl : l.length = n) (hn : n < 1000) : ∀ d i, i + d = n → x ∈ l.drop i →
    Runs Tryz.prog 1 lp40 (sth (S40p n cap i) 19 (O40 l x)) fun e af => e = .ret ∧ EndsAs Tryz.prog Tryz.f40 (fun v' _ => v' = i64 (i + idxP x (l.drop i))) .ret af := by
  intro d
  induction d with
  | zero =>
    intro i hi hm
    rw [List.drop_eq_nil_of_le (by omega)] at hm
    cases hm
  | succ d ih =>
    intro i hi hm
    have hlt : i < n := by omega
    obtain ⟨y, hy⟩ : ∃ y, l[i]? = some y := ⟨l[i], List.getElem?_eq_getElem (by omega)⟩
    have hyb := hb y (List.mem_of_getElem? hy)
    have ed : l.drop i = y :: l.drop (i + 1) := by rw [List.drop_eq_getElem_cons (by omega : i < l.length)]; rw [List.getElem?_eq_getElem (by omega : i < l.length)] at hy; rw [Option.some.inj hy]
    have hq := place_is hx hyb
    refine Runs.lp (by kernel_rfl) (Runs.sqR mixed hkU [] (by kernel_rfl) (by kernel_rfl) (by kernel_rfl) oblN (Runs.sq (by kernel_rfl) ?_))
    refine Runs.cd (b := ltF (.ofNat i) (.ofNat n)) (by kernel_rfl) (fun _ => Runs.now (x := .normal) (by kernel_rfl) ?_) (fun hf => by rw [lt_of hlt] at hf; cases hf)
    show Runs Tryz.prog 1 _ _ _
    refine Runs.sq (by kernel_rfl) (Runs.bk (id := 1) (by kernel_rfl) ?_)
    refine Runs.sqR mixed hkU [] (by kernel_rfl) (by kernel_rfl) (by kernel_rfl) oblN ?_
    refine Runs.sq (by kernel_rfl) ?_
    refine Runs.rgD mixed hkU [viaV 3 (.pointer (some ⟨0, 0 + i * 2, none⟩)), viaV 4 (plV y), viaV 5 (.bool (Nat.beq x y))] [] (by kernel_rfl) (by kernel_rfl) (by kernel_rfl) (by kernel_rfl)
      (oblC (shown_idx (n := n) (by kernel_rfl) hlt) (oblC (shown_agg (by kernel_rfl) (placesC_at (q := 0) (l := l) (lv := false) (par := []) (ty := none) (by kernel_rfl) hy))
      (oblC ⟨by kernel_rfl, (show _ = ((aggEq Tryz.prog 35 #[i64 (x / 7), i64 (x % 7)] #[i64 (y / 7), i64 (y % 7)]).map Value.bool).map (·, _) by kernel_rfl).trans (by rw [hq]; rfl)⟩ oblN))) dynN ?_
    show Runs Tryz.prog 1 _ _ _
    refine Runs.cd (b := Nat.beq x y) (by kernel_rfl) (fun ht => ?_) (fun hf => Runs.now (x := .normal) (by kernel_rfl) ?_)
    · exact Runs.sqR mixed hkU [] (by kernel_rfl) (by kernel_rfl) (by kernel_rfl) oblN (Runs.now (x := .ret) (by kernel_rfl) ⟨rfl, .inr rfl, [i64 i], by kernel_rfl, by rw [ed]; show i64 i = i64 (i + (if Nat.beq x y then 0 else _)); rw [if_pos ht]; rfl⟩)
    · have hm' : x ∈ l.drop (i + 1) := by
        rw [ed] at hm
        rcases List.mem_cons.1 hm with e | e
        · rw [e, Nat.beq_refl] at hf; cases hf
        · exact e
      have ei : i + idxP x (l.drop i) = i + 1 + idxP x (l.drop (i + 1)) := by
        rw [ed]
        show i + (if Nat.beq x y then 0 else idxP x (l.drop (i + 1)) + 1) = _
        rw [if_neg (by rw [hf]; exact Bool.false_ne_true)]
        omega
      have hih := ih (i + 1) (by omega) hm'
      rw [← ei] at hih
      show Runs Tryz.prog 1 _ _ _
      refine Runs.rg mixed hkU [viaV 0 (i64 (i + 1))] (by kernel_rfl) (by kernel_rfl) (by kernel_rfl) (oblC (shown_eq (v := .int .i64 (wrapF .i64 (Int.add (.ofNat i) (.ofNat 1)))) (by kernel_rfl) (by kernel_rfl) (by rw [wrap_succ (by omega)]; rfl)) oblN) ?_
      show Runs Tryz.prog 1 lp40 _ _
      exact Runs.less (af1 := sth (S40p n cap (i + 1)) 19 (O40 l x)) (less_seenP (clo_all (k := 2) (by kernel_rfl)) o40_clo (show 1 ≤ 2 by decide) (by kernel_rfl) (by kernel_rfl) (by kernel_rfl) (by kernel_rfl)) hih
theorem idx40_local {n cap x : Nat} {l : List Nat} (hb : ∀ y ∈ l, y < 64) (hx : x < 64) (hl : l.length = n) (hn : n < 1000) (hm : x ∈ l) : Local Tryz.prog 1 40 [smallS 0 n cap, plV x] (hp [viewP l]) fun v' _ => v' = i64 (idxP x l) := by
  refine local_of noNum Tryz.func40 (show Tryz.f40.body = some c40 by kernel_rfl) ?_
  refine Runs.sqR mixed hkU [] (by kernel_rfl) (by kernel_rfl) (by kernel_rfl) oblN ?_
  refine Runs.sq (by kernel_rfl) (Runs.sqR mixed hkU [] (by kernel_rfl) (by kernel_rfl) (by kernel_rfl) oblN (Runs.bk (id := 0) (by kernel_rfl) ?_))
  show Runs Tryz.prog 1 lp40 _ _
  refine Runs.less (af1 := sth (S40p n cap 0) 19 (O40 l x)) (less_seenP (clo_all (k := 2) (by kernel_rfl)) o40_clo (show 1 ≤ 2 by decide) (by kernel_rfl) (by kernel_rfl) (by kernel_rfl) (by kernel_rfl)) ?_
  refine (idx40_loop (cap := cap) hb hx hl hn n 0 (by omega) (by rw [List.drop_zero]; exact hm)).mono fun e af hq => ?_
  obtain ⟨rfl, he⟩ := hq
  rw [List.drop_zero, Nat.zero_add] at he
  exact he
end
end Go.Proofs.YtbcjmmbmeebfgaaGreatDoor

/- TopFlooded: no place of the first row is missing in the second: ContainsFunc, as a contract. -/
namespace Go.Proofs.YtbcjmmbmeebfgaaGreatDoor
set_option linter.unusedVariables false
set_option linter.unusedSimpArgs false
open Go Go.R
set_option maxRecDepth 1000000
noncomputable section
/-- A slice, and structs of plain values behind it. -/
noncomputable def c1P (rest : List Value) : List Value → List Value
  | [s] => s :: rest
  | _ => []
theorem c1P_ok {rest : List Value} (pr : ∀ v ∈ rest, plainG v = true) : ArgC 1 (c1P rest) := by
  intro μ ss l hlen hl
  match ss, hlen with
  | [s], _ =>
    match l, hl with
    | [], hl => exact absurd hl.1 (by simp [c1P])
    | y :: ys, hl =>
      refine ⟨[y], LR.cons hl.head LR.nil, fun μ1 ss1 h1 => ?_⟩
      match ss1, h1 with
      | [s1], h1 => exact LR.cons h1.head (by rw [plainsG_same hl.tail pr]; exact plainsG_lr pr)
      | [], h1 => exact absurd h1.1 (by simp)
      | _ :: _ :: _, h1 => exact absurd h1.1 (by simp)
theorem plG {x : Nat} : ∀ v ∈ [plV x], plainG v = true := fun v hv => by rw [List.mem_singleton.1 hv]; rfl
theorem idx40_says {x : Nat} {l : List Nat} (hb : ∀ y ∈ l, y < 64) (hn : l.length < 1000) (hm : x ∈ l) {h : AH} {s : Value} {i o : Nat} (hs : Sees h ⟨i, o, l.length, placesC l⟩ s) : Says Tryz.prog h 40 [s, plV x] (i64 (idxP x l)) h :=
  tellF (C := c1P [plV x]) (vs := [⟨i, o, l.length, placesC l⟩]) (ss := [s]) (c1P_ok plG) rfl (fun caps hc => by
    obtain ⟨cap, rfl, hle⟩ := fits1 hc
    exact idx40_local (cap := cap) hb (hb x hm) rfl hn hm) (fun v' _ r => r) (fun μ μ' x hx => flat_any hx rfl) ⟨hs, trivial⟩
noncomputable def c14 : Code := bodyOf Tryz.f14
theorem sees_P {h : AH} {l : List Nat} {cap : Nat} (hc : l.length ≤ cap) (e : h.get 0 = viewP l) : Sees h ⟨0, 0, l.length, placesC l⟩ (smallS 0 l.length cap) :=
  ⟨placesC l, false, [], none, e, fun k u hk => by rw [Nat.zero_add]; exact hk, by rw [Nat.zero_add]; exact Nat.le_refl _, placesC_plain l, .inr ⟨cap, hc, rfl⟩⟩
theorem hasP_local {x cap : Nat} {l : List Nat} (hb : ∀ y ∈ l, y < 64) (hn : l.length < 1000) (hc : l.length ≤ cap) (hm : x ∈ l) : Local Tryz.prog 1 14 [smallS 0 l.length cap, plV x] (hp [viewP l]) fun v' _ => v' = .bool true := by
  refine local_of noNum Tryz.func14 (show Tryz.f14.body = some c14 by kernel_rfl) ?_
  have hS : ∀ {h : AH}, h.get 0 = viewP l → Says Tryz.prog h 40 [smallS 0 l.length cap, plV x] (i64 (idxP x l)) h := fun e => idx40_says hb hn hm (sees_P hc e)
  generalize idxP x l = q at hS
  refine Runs.sqR mixed hkU [] (by kernel_rfl) (by kernel_rfl) (by kernel_rfl) oblN ?_
  refine Runs.sqR mixed hkU [viaC 2 40 [smallS 0 l.length cap, plV x] (i64 q), viaV 3 (.bool true)] (by kernel_rfl) (by kernel_rfl) (by kernel_rfl)
    (oblC (shown_call (by kernel_rfl) (hS (by kernel_rfl))) (oblC (shown_eq (v := .bool (leF (.ofNat 0) (.ofNat q))) (by kernel_rfl) (by kernel_rfl) (by rw [show leF (.ofNat 0) (.ofNat q) = true from leF_true (Int.natCast_nonneg q)])) oblN)) ?_
  exact Runs.now (x := .ret) (by kernel_rfl) ⟨.inr rfl, [.bool true], by kernel_rfl, rfl⟩
theorem hasP_says {x : Nat} {l : List Nat} (hb : ∀ y ∈ l, y < 64) (hn : l.length < 1000) (hm : x ∈ l) {h : AH} {s : Value} {i o : Nat} (hs : Sees h ⟨i, o, l.length, placesC l⟩ s) : Says Tryz.prog h 14 [s, plV x] (.bool true) h :=
  tellF (C := c1P [plV x]) (vs := [⟨i, o, l.length, placesC l⟩]) (ss := [s]) (c1P_ok plG) rfl (fun caps hc => by
    obtain ⟨cap, rfl, hle⟩ := fits1 hc
    exact hasP_local hb hn hle hm) (fun v' _ r => r) (fun μ μ' x hx => flat_any hx rfl) ⟨hs, trivial⟩

/-! ### The closure, and the loop over the first row -/
noncomputable def slotP (v : Value) : AObj := .cells [v] true [] (some 28)
noncomputable def OQ (c0 : List Value) (ty0 : Option TypeId) (k : Nat) (s : Value) (lm ll : List Nat) : List AObj := [.cells c0 true [] ty0, hillK k s, rowP lm, rowP ll, slotP (slP 3 ll.length)]
theorem oq_clo {c0 : List Value} {ty0 : Option TypeId} {k : Nat} {s : Value} {lm ll : List Nat} (p0 : ∀ v ∈ c0, plainV v = true) (hs : Clo 5 s) : ∀ o ∈ OQ c0 ty0 k s lm ll, CloO 5 o := fun o ho => by
  simp only [OQ, List.mem_cons, List.mem_nil_iff, or_false] at ho
  rcases ho with rfl | rfl | rfl | rfl | rfl
  · exact cloO_plain p0 _ _
  · exact hillK_clo hs
  · exact rowP_clo
  · exact rowP_clo
  · refine ⟨fun v hv => ?_, fun j hj => by cases hj⟩
    rw [List.mem_singleton.1 hv]
    exact clo_of 10 _ _ (by kernel_rfl)
noncomputable def c13 : Code := bodyOf Tryz.f13
noncomputable def c12 : Code := bodyOf Tryz.f12
noncomputable def c39 : Code := bodyOf Tryz.f39
noncomputable def lp39 : Code := within (tl (hd (behind 1 c39)))
noncomputable def cloQ : Value := .func (.func 13) #[] #[ptrV 4]
theorem miss_says {c0 : List Value} {ty0 : Option TypeId} {k x : Nat} {s : Value} {lm ll : List Nat} (p0 : ∀ v ∈ c0, plainV v = true) (hs : Clo 5 s) (hb : ∀ y ∈ ll, y < 64) (hn : ll.length < 1000) (hm : x ∈ ll) : Says Tryz.prog (hp (OQ c0 ty0 k s lm ll)) 13 [plV x, ptrV 4] (.bool false) (hp (OQ c0 ty0 k s lm ll)) := by
  have hS : ∀ {h : AH}, h.get 3 = rowP ll → Says Tryz.prog h 14 [slP 3 ll.length, plV x] (.bool true) h := fun e => hasP_says hb hn hm (sees_row e (placesC_plain ll))
  refine says_of (os := OQ c0 ty0 k s lm ll) ?_ (fun v hv => ?_) (oq_clo p0 hs) (clo_plain rfl)
  · show Local Tryz.prog 5 13 _ _ _
    refine local_of noNum Tryz.func13 (show Tryz.f13.body = some c13 by kernel_rfl) ?_
    refine Runs.sqR mixed hkU [] (by kernel_rfl) (by kernel_rfl) (by kernel_rfl) oblN ?_
    refine Runs.sqR mixed hkU [viaC 2 14 [slP 3 ll.length, plV x] (.bool true)] (by kernel_rfl) (by kernel_rfl) (by kernel_rfl) (oblC (shown_call (by kernel_rfl) (hS (by kernel_rfl))) oblN) ?_
    refine Runs.now (x := .ret) (by kernel_rfl) ⟨.inr rfl, [.bool false], by kernel_rfl, rfl, fun j z hz => ?_⟩
    match j, hz with
    | 0, hz => cases hz; exact Eq.trans (Eq.refl _) (by kernel_rfl)
    | 1, hz => cases hz; exact Eq.trans (Eq.refl _) (by kernel_rfl)
    | 2, hz => cases hz; exact Eq.trans (Eq.refl _) (by kernel_rfl)
    | 3, hz => cases hz; exact Eq.trans (Eq.refl _) (by kernel_rfl)
    | 4, hz => cases hz; exact Eq.trans (Eq.refl _) (by kernel_rfl)
    | j + 5, hz => cases hz
  · simp only [List.mem_cons, List.mem_nil_iff, or_false] at hv
    rcases hv with rfl | rfl
    · exact clo_of 10 _ _ (by kernel_rfl)
    · exact clo_of 10 _ _ (by kernel_rfl)
noncomputable def S39 (n i : Nat) : List (Nat × Value) := [(0, slP 2 n), (1, cloQ), (7, i64 n), (8, i64 i)]
theorem idx39_loop {c0 : List Value} {ty0 : Option TypeId} {k n : Nat} {s : Value} {lm ll : List Nat} (p0 : ∀ v ∈ c0, plainV v = true) (hs : Clo 5 s) (hb : ∀ y ∈ ll, y < 64) (hn : ll.length < 1000) (hl : lm.length = n) (hn' : n < 1000) (hsub : ∀ x ∈ lm, x ∈ ll) : ∀ d i, i + d = n →
    Runs Tryz.prog 5 lp39 (sth (S39 n i) 19 (OQ c0 ty0 k s lm ll)) fun e af => e = .exit 0 ∧ Less 5 (sth [] 19 (OQ c0 ty0 k s lm ll)) af := by
  intro d
  induction d with
  | zero =>
    intro i hi
    have e : i = n := by omega
    subst e
    refine Runs.lp (by kernel_rfl) (Runs.sqR mixed hkU [] (by kernel_rfl) (by kernel_rfl) (by kernel_rfl) oblN (Runs.sq (by kernel_rfl) ?_))
    refine Runs.cd (b := ltF (.ofNat i) (.ofNat i)) (by kernel_rfl) (fun ht => by rw [lt_self] at ht; cases ht) (fun _ => Runs.now (x := .exit 0) (by kernel_rfl) ⟨rfl, ?_⟩)
    exact less_seenP (clo_all (k := 5) (by kernel_rfl)) (oq_clo p0 hs) (Nat.le_refl 5) (by kernel_rfl) (by kernel_rfl) (by kernel_rfl) (by kernel_rfl)
  | succ d ih =>
    intro i hi
    have hlt : i < n := by omega
    obtain ⟨y, hy⟩ : ∃ y, lm[i]? = some y := ⟨lm[i], List.getElem?_eq_getElem (by omega)⟩
    have hm := hsub y (List.mem_of_getElem? hy)
    have hC := miss_says (c0 := c0) (ty0 := ty0) (k := k) (lm := lm) p0 hs hb hn hm
    refine Runs.lp (by kernel_rfl) (Runs.sqR mixed hkU [] (by kernel_rfl) (by kernel_rfl) (by kernel_rfl) oblN (Runs.sq (by kernel_rfl) ?_))
    refine Runs.cd (b := ltF (.ofNat i) (.ofNat n)) (by kernel_rfl) (fun _ => Runs.now (x := .normal) (by kernel_rfl) ?_) (fun hf => by rw [lt_of hlt] at hf; cases hf)
    show Runs Tryz.prog 5 _ _ _
    refine Runs.sq (by kernel_rfl) (Runs.bk (id := 1) (by kernel_rfl) ?_)
    refine Runs.sqR mixed hkU [] (by kernel_rfl) (by kernel_rfl) (by kernel_rfl) oblN ?_
    refine Runs.sqR mixed hkU [viaV 3 (.pointer (some ⟨2, 0 + i * 2, none⟩)), viaV 4 (plV y), viaC 5 13 [plV y, ptrV 4] (.bool false)] (by kernel_rfl) (by kernel_rfl) (by kernel_rfl)
      (oblC (shown_idx (n := n) (by kernel_rfl) hlt) (oblC (shown_agg (by kernel_rfl) (placesC_at (q := 2) (l := lm) (lv := true) (par := []) (ty := some 35) (by kernel_rfl) hy))
      (oblC (shown_callE (h0 := hp (OQ c0 ty0 k s lm ll)) (by kernel_rfl) (by kernel_rfl) hC) oblN))) ?_
    refine Runs.cd (b := false) (by kernel_rfl) (fun h => by cases h) (fun _ => Runs.now (x := .normal) (by kernel_rfl) ?_)
    show Runs Tryz.prog 5 _ _ _
    refine Runs.rg mixed hkU [viaV 0 (i64 (i + 1))] (by kernel_rfl) (by kernel_rfl) (by kernel_rfl) (oblC (shown_eq (v := .int .i64 (wrapF .i64 (Int.add (.ofNat i) (.ofNat 1)))) (by kernel_rfl) (by kernel_rfl) (by rw [wrap_succ (by omega)]; rfl)) oblN) ?_
    show Runs Tryz.prog 5 lp39 _ _
    exact Runs.less (af1 := sth (S39 n (i + 1)) 19 (OQ c0 ty0 k s lm ll)) (less_seenP (clo_all (k := 5) (by kernel_rfl)) (oq_clo p0 hs) (Nat.le_refl 5) (by kernel_rfl) (by kernel_rfl) (by kernel_rfl) (by kernel_rfl)) (ih (i + 1) (by omega))
theorem argQ_clo {n : Nat} : ∀ x ∈ [slP 2 n, cloQ], Clo 5 x := fun x hx => by
  simp only [List.mem_cons, List.mem_nil_iff, or_false] at hx
  rcases hx with rfl | rfl <;> exact clo_of 10 _ _ (by kernel_rfl)
theorem idx39_says {c0 : List Value} {ty0 : Option TypeId} {k : Nat} {s : Value} {lm ll : List Nat} (p0 : ∀ v ∈ c0, plainV v = true) (hs : Clo 5 s) (hb : ∀ y ∈ ll, y < 64) (hn : ll.length < 1000) (hn' : lm.length < 1000) (hsub : ∀ x ∈ lm, x ∈ ll) :
    Says Tryz.prog (hp (OQ c0 ty0 k s lm ll)) 39 [slP 2 lm.length, cloQ] (iZ (.negSucc 0)) (hp (OQ c0 ty0 k s lm ll)) := by
  refine says_of (os := OQ c0 ty0 k s lm ll) ?_ argQ_clo (oq_clo p0 hs) (clo_plain rfl)
  show Local Tryz.prog 5 39 _ _ _
  refine local_of noNum Tryz.func39 (show Tryz.f39.body = some c39 by kernel_rfl) ?_
  refine Runs.sqR mixed hkU [] (by kernel_rfl) (by kernel_rfl) (by kernel_rfl) oblN ?_
  refine Runs.sq (by kernel_rfl) (Runs.sqR mixed hkU [] (by kernel_rfl) (by kernel_rfl) (by kernel_rfl) oblN (Runs.bk (id := 0) (by kernel_rfl) ?_))
  show Runs Tryz.prog 5 lp39 _ _
  refine Runs.less (af1 := sth (S39 lm.length 0) 19 (OQ c0 ty0 k s lm ll)) (less_seenP (clo_all (k := 5) (by kernel_rfl)) (oq_clo p0 hs) (Nat.le_refl 5) (by kernel_rfl) (by kernel_rfl) (by kernel_rfl) (by kernel_rfl)) ?_
  refine (idx39_loop p0 hs hb hn rfl hn' hsub lm.length 0 (by omega)).mono fun e af hx => ?_
  obtain ⟨rfl, less⟩ := hx
  show Runs Tryz.prog 5 _ af _
  exact Runs.less less (Runs.sqR mixed hkU [] (by kernel_rfl) (by kernel_rfl) (by kernel_rfl) oblN (Runs.now (x := .ret) (by kernel_rfl) ⟨.inr rfl, [iZ (.negSucc 0)], by kernel_rfl, rfl, keepOf (by kernel_rfl)⟩))
theorem any12_says {c0 : List Value} {ty0 : Option TypeId} {k : Nat} {s : Value} {lm ll : List Nat} (p0 : ∀ v ∈ c0, plainV v = true) (hs : Clo 5 s) (hb : ∀ y ∈ ll, y < 64) (hn : ll.length < 1000) (hn' : lm.length < 1000) (hsub : ∀ x ∈ lm, x ∈ ll) :
    Says Tryz.prog (hp (OQ c0 ty0 k s lm ll)) 12 [slP 2 lm.length, cloQ] (.bool false) (hp (OQ c0 ty0 k s lm ll)) := by
  have hS := idx39_says (c0 := c0) (ty0 := ty0) (k := k) p0 hs hb hn hn' hsub
  refine says_of (os := OQ c0 ty0 k s lm ll) ?_ argQ_clo (oq_clo p0 hs) (clo_plain rfl)
  show Local Tryz.prog 5 12 _ _ _
  refine local_of noNum Tryz.func12 (show Tryz.f12.body = some c12 by kernel_rfl) ?_
  refine Runs.sqR mixed hkU [] (by kernel_rfl) (by kernel_rfl) (by kernel_rfl) oblN ?_
  refine Runs.sqR mixed hkU [viaC 2 39 [slP 2 lm.length, cloQ] (iZ (.negSucc 0))] (by kernel_rfl) (by kernel_rfl) (by kernel_rfl) (oblC (shown_callE (h0 := hp (OQ c0 ty0 k s lm ll)) (by kernel_rfl) (by kernel_rfl) hS) oblN) ?_
  exact Runs.now (x := .ret) (by kernel_rfl) ⟨.inr rfl, [.bool false], by kernel_rfl, rfl, keepOf (by kernel_rfl)⟩
end
end Go.Proofs.YtbcjmmbmeebfgaaGreatDoor
