/- Proves at two numbers, and slices.Equal of two rows of places, as contracts. -/
import Derived.Test.YtbcjmmbmeebfgaaGreatDoorSNarrowedUG6
namespace Go.Proofs.YtbcjmmbmeebfgaaGreatDoor
set_option linter.unusedVariables false
set_option linter.unusedSimpArgs false
open Go Go.R
set_option maxRecDepth 1000000
noncomputable section
noncomputable def c19 : Code := bodyOf Tryz.f19
theorem leN_false {a b : Nat} (h : b < a) : leF (.ofNat a) (.ofNat b) = false := by
  rw [leF_eq]
  apply decide_eq_false
  show ¬ ((a : Int) ≤ (b : Int))
  omega
theorem ltN_zero (a : Nat) : ltF (.ofNat a) (.ofNat 0) = false := by
  show Nat.blt a 0 = false
  cases h : Nat.blt a 0 with
  | false => rfl
  | true => exact absurd (blt_lt h) (Nat.not_lt_zero a)
theorem proves_local {k m cap cap2 x y : Nat} {A B C : Nat → Int} (hk : 0 < k) (hk7 : k < 8) (hm0 : 0 < m) (hm : m < 11) (hc : m ≤ cap) (hc2 : 2 ≤ cap2) (G : Gals m A B C) (hxy : x < y) (hy : y < m) (hr : regS k A B C (2 ^ x ||| 2 ^ y) = 0) :
    Local Tryz.prog 2 19 [hillV k (smallS 0 m cap), smallS 1 2 cap2] (hp [viewG m A B C, viewN [x, y]]) fun v' _ => v' = i64 0 := by
  refine local_of noNum Tryz.func19 (show Tryz.f19.body = some c19 by kernel_rfl) ?_
  refine Runs.sqR mixed hkU [] (by kernel_rfl) (by kernel_rfl) (by kernel_rfl) oblN ?_
  refine Runs.sqR mixed hkU [viaH 1 35 [hillV k (smallS 0 m cap)] (survV k m 3) ((hp [viewG m A B C, viewN [x, y], hillO k m cap]).new (rowAr m A B C)).2] (by kernel_rfl) (by kernel_rfl) (by kernel_rfl)
    (oblC (shown_callHE (h0 := hp [viewG m A B C, viewN [x, y], hillO k m cap]) (by kernel_rfl) (by kernel_rfl) (surv_says hk hk7 hm0 hm G (sees_here hc (by kernel_rfl)))) oblN) ?_
  refine Runs.sq (by kernel_rfl) (Runs.sqR mixed hkU [] (by kernel_rfl) (by kernel_rfl) (by kernel_rfl) oblN ?_)
  refine Runs.cd (b := false) (by kernel_rfl) (fun h => by cases h) (fun _ => Runs.now (x := .normal) (by kernel_rfl) ?_)
  show Runs Tryz.prog 2 _ _ _
  refine Runs.sqR mixed hkU [] (by kernel_rfl) (by kernel_rfl) (by kernel_rfl) oblN ?_
  refine Runs.sq (by kernel_rfl) (Runs.sqR mixed hkU [] (by kernel_rfl) (by kernel_rfl) (by kernel_rfl) oblN (Runs.bk (id := 0) (by kernel_rfl) ?_))
  have hx64 : x < 64 := by omega
  have hy64 : y < 64 := by omega
  have p64 : ∀ i, i < 64 → 2 ^ i < 18446744073709551616 := fun i hi => Nat.lt_of_lt_of_le (Nat.pow_lt_pow_right (by decide : 1 < 2) hi) (by decide)
  -- the first number
  refine Runs.lp (by kernel_rfl) (Runs.sqR mixed hkU [] (by kernel_rfl) (by kernel_rfl) (by kernel_rfl) oblN (Runs.sq (by kernel_rfl) ?_))
  refine Runs.cd (b := true) (by kernel_rfl) (fun _ => Runs.now (x := .normal) (by kernel_rfl) ?_) (fun h => by cases h)
  show Runs Tryz.prog 2 _ _ _
  refine Runs.sq (by kernel_rfl) (Runs.bk (id := 1) (by kernel_rfl) ?_)
  refine Runs.sqR mixed hkU [] (by kernel_rfl) (by kernel_rfl) (by kernel_rfl) oblN ?_
  refine Runs.sq (by kernel_rfl) (Runs.bk (id := 2) (by kernel_rfl) ?_)
  refine Runs.sqR mixed hkU [viaV 1 (.bool false), viaV 7 (.bool false)] (by kernel_rfl) (by kernel_rfl) (by kernel_rfl)
    (oblC (shown_eq (v := .bool (ltF (.ofNat x) (.ofNat 0))) (by kernel_rfl) (by kernel_rfl) (by rw [ltN_zero])) (oblC (shown_eq (v := .bool (leF (.ofNat m) (.ofNat x))) (by kernel_rfl) (by kernel_rfl) (by rw [leN_false (by omega)])) oblN)) ?_
  refine Runs.cd (b := false) (by kernel_rfl) (fun h => by cases h) (fun _ => ?_)
  refine Runs.sqR mixed hkU [] (by kernel_rfl) (by kernel_rfl) (by kernel_rfl) oblN ?_
  refine Runs.cd (b := false) (by kernel_rfl) (fun h => by cases h) (fun _ => Runs.now (x := .normal) (by kernel_rfl) ?_)
  show Runs Tryz.prog 2 _ _ _
  refine Runs.rg mixed hkU [viaV 2 (u64 (2 ^ x)), viaV 3 (u64 (2 ^ x))] (by kernel_rfl) (by kernel_rfl) (by kernel_rfl)
    (oblC ⟨by kernel_rfl, (show _ = (shiftA .shl .u64 1 (.ofNat x)).map (·, _) by kernel_rfl).trans (by rw [bit64 hx64]; rfl)⟩
    (oblC ⟨by kernel_rfl, (show _ = (intBin .or .u64 (.ofNat 0) (.ofNat (2 ^ x))).map (·, _) by kernel_rfl).trans (by rw [or64 (by decide) (p64 x hx64), Nat.zero_or]; rfl)⟩ oblN)) ?_
  show Runs Tryz.prog 2 _ _ _
  refine Runs.rg mixed hkU [] (by kernel_rfl) (by kernel_rfl) (by kernel_rfl) oblN ?_
  -- the second
  refine Runs.lp (by kernel_rfl) (Runs.sqR mixed hkU [] (by kernel_rfl) (by kernel_rfl) (by kernel_rfl) oblN (Runs.sq (by kernel_rfl) ?_))
  refine Runs.cd (b := true) (by kernel_rfl) (fun _ => Runs.now (x := .normal) (by kernel_rfl) ?_) (fun h => by cases h)
  show Runs Tryz.prog 2 _ _ _
  refine Runs.sq (by kernel_rfl) (Runs.bk (id := 1) (by kernel_rfl) ?_)
  refine Runs.sqR mixed hkU [] (by kernel_rfl) (by kernel_rfl) (by kernel_rfl) oblN ?_
  refine Runs.sq (by kernel_rfl) (Runs.bk (id := 2) (by kernel_rfl) ?_)
  refine Runs.sqR mixed hkU [viaV 1 (.bool false), viaV 7 (.bool false)] (by kernel_rfl) (by kernel_rfl) (by kernel_rfl)
    (oblC (shown_eq (v := .bool (ltF (.ofNat y) (.ofNat 0))) (by kernel_rfl) (by kernel_rfl) (by rw [ltN_zero])) (oblC (shown_eq (v := .bool (leF (.ofNat m) (.ofNat y))) (by kernel_rfl) (by kernel_rfl) (by rw [leN_false hy])) oblN)) ?_
  refine Runs.cd (b := false) (by kernel_rfl) (fun h => by cases h) (fun _ => ?_)
  refine Runs.sqR mixed hkU [] (by kernel_rfl) (by kernel_rfl) (by kernel_rfl) oblN ?_
  refine Runs.cd (b := leF (.ofNat y) (.ofNat x)) (by kernel_rfl) (fun h => by rw [leN_false hxy] at h; cases h) (fun _ => Runs.now (x := .normal) (by kernel_rfl) ?_)
  show Runs Tryz.prog 2 _ _ _
  refine Runs.rg mixed hkU [viaV 2 (u64 (2 ^ y)), viaV 3 (u64 (2 ^ x ||| 2 ^ y))] (by kernel_rfl) (by kernel_rfl) (by kernel_rfl)
    (oblC ⟨by kernel_rfl, (show _ = (shiftA .shl .u64 1 (.ofNat y)).map (·, _) by kernel_rfl).trans (by rw [bit64 hy64]; rfl)⟩
    (oblC ⟨by kernel_rfl, (show _ = (intBin .or .u64 (.ofNat (2 ^ x)) (.ofNat (2 ^ y))).map (·, _) by kernel_rfl).trans (by rw [or64 (p64 x hx64) (p64 y hy64)]; rfl)⟩ oblN)) ?_
  show Runs Tryz.prog 2 _ _ _
  refine Runs.rg mixed hkU [] (by kernel_rfl) (by kernel_rfl) (by kernel_rfl) oblN ?_
  -- no more
  refine Runs.lp (by kernel_rfl) (Runs.sqR mixed hkU [] (by kernel_rfl) (by kernel_rfl) (by kernel_rfl) oblN (Runs.sq (by kernel_rfl) ?_))
  refine Runs.cd (b := false) (by kernel_rfl) (fun h => by cases h) (fun _ => Runs.now (x := .exit 0) (by kernel_rfl) ?_)
  show Runs Tryz.prog 2 _ _ _
  have hs : 2 ^ x ||| 2 ^ y < 2 ^ m := Nat.or_lt_two_pow (Nat.pow_lt_pow_right (by decide) (by omega)) (Nat.pow_lt_pow_right (by decide) hy)
  have hS : ∀ {h : AH}, h.get 3 = rowAr m A B C → Says Tryz.prog h 37 [srvV (slR 3 m) (gridN k), u64 (2 ^ x ||| 2 ^ y)] (u64 0) h := fun {h} e => by
    have := reg_any (s := 2 ^ x ||| 2 ^ y) hk7 (by omega) hs (sees_row (z := 0) (n := m) e (valsZ_plain (area_plain A B C m)))
    rwa [hr] at this
  generalize 2 ^ x ||| 2 ^ y = s at hS ⊢
  refine Runs.sq (by kernel_rfl) (Runs.sqR mixed hkU [viaC 2 37 [srvV (slR 3 m) (gridN k), u64 s] (u64 0)] (by kernel_rfl) (by kernel_rfl) (by kernel_rfl) (oblC (shown_call (by kernel_rfl) (hS (by kernel_rfl))) oblN) ?_)
  refine Runs.cd (b := false) (by kernel_rfl) (fun h => by cases h) (fun _ => Runs.now (x := .normal) (by kernel_rfl) ?_)
  show Runs Tryz.prog 2 _ _ _
  exact Runs.sqR mixed hkU [] (by kernel_rfl) (by kernel_rfl) (by kernel_rfl) oblN (Runs.now (x := .ret) (by kernel_rfl) ⟨.inr rfl, [i64 0], by kernel_rfl, rfl⟩)
theorem proves_says {k m x y : Nat} {A B C : Nat → Int} (hk : 0 < k) (hk7 : k < 8) (hm0 : 0 < m) (hm : m < 11) (G : Gals m A B C) (hxy : x < y) (hy : y < m) (hr : regS k A B C (2 ^ x ||| 2 ^ y) = 0) {h : AH} {s t : Value} {i o : Nat} (hs : SeesG h s m A B C) (ht : Sees h ⟨i, o, 2, natsC [x, y]⟩ t) :
    Says Tryz.prog h 19 [hillV k s, t] (i64 0) h := by
  obtain ⟨i1, o1, hs⟩ := hs
  exact tellF (C := c2G [i64 k] []) (vs := [⟨i1, o1, m, galsC m A B C⟩, ⟨i, o, 2, natsC [x, y]⟩]) (ss := [s, t]) (c2G_ok (fun v h => by rw [List.mem_singleton.1 h]; rfl) (fun v h => by cases h)) rfl (fun caps hc => by
    obtain ⟨a, b, rfl, h1, h2⟩ := fits2 hc
    exact proves_local hk hk7 hm0 hm h1 h2 G hxy hy hr) (fun v' _ r => r) (fun μ μ' x hx => flat_any hx rfl) ⟨hs, ht, trivial⟩
end
end Go.Proofs.YtbcjmmbmeebfgaaGreatDoor

/- slices.Equal of two rows of places that are alike, as a contract. -/
namespace Go.Proofs.YtbcjmmbmeebfgaaGreatDoor
set_option linter.unusedVariables false
set_option linter.unusedSimpArgs false
open Go Go.R
set_option maxRecDepth 1000000
noncomputable section
theorem placesC_drop (l : List Nat) : ∀ (i x : Nat), l[i]? = some x → ((placesC l).drop (i * 2)).take 2 = [i64 (x / 7), i64 (x % 7)] := by
  induction l with
  | nil => intro i x h; cases h
  | cons y l ih =>
    intro i x h
    cases i with
    | zero => cases h; rfl
    | succ i =>
      have := ih i x (by simpa using h)
      rw [show (i + 1) * 2 = i * 2 + 2 by omega]
      exact this
theorem placesC_at {h : AH} {q i x : Nat} {l : List Nat} {lv : Bool} {par : List Nat} {ty : Option TypeId} (hg : h.get q = .cells (placesC l) lv par ty) (hx : l[i]? = some x) : rowAt? h q (0 + i * 2) 2 = some [i64 (x / 7), i64 (x % 7)] := by
  have hlt : i < l.length := (List.getElem?_eq_some_iff.1 hx).1
  rw [row_at hg (by rw [placesC_len]; omega), Nat.zero_add, placesC_drop l i x hx]
noncomputable def c22 : Code := bodyOf Tryz.f22
noncomputable def lp22 : Code := within (tl (hd (behind 2 c22)))
noncomputable def viewP (l : List Nat) : AObj := viewC (placesC l)
noncomputable def O22 (l : List Nat) : List AObj := [viewP l, viewP l]
theorem o22_clo {l : List Nat} : ∀ o ∈ O22 l, CloO 2 o := fun o ho => by
  simp only [O22, List.mem_cons, List.mem_nil_iff, or_false] at ho
  rcases ho with rfl | rfl <;> exact cloO_plain (placesC_plain _) _ _
noncomputable def S22 (n a b i : Nat) : List (Nat × Value) := [(0, smallS 0 n a), (1, smallS 1 n b), (12, i64 n), (13, i64 i)]
noncomputable def plV (x : Nat) : Value := .agg #[i64 (x / 7), i64 (x % 7)]
theorem place_eq : ((List.range 64).all fun x => aggEq Tryz.prog 35 #[i64 (x / 7), i64 (x % 7)] #[i64 (x / 7), i64 (x % 7)] == some true) = true := by kernel_rfl
theorem equal_loop {n a b : Nat} (l : List Nat) (hb : ∀ x ∈ l, x < 64) (hl : l.length = n) (hn : n < 1000) : ∀ d i, i + d = n →
    Runs Tryz.prog 2 lp22 (sth (S22 n a b i) 26 (O22 l)) fun e af => e = .exit 0 ∧ Less 2 (sth [] 26 (O22 l)) af := by
  intro d
  induction d with
  | zero =>
    intro i hi
    have e : i = n := by omega
    subst e
    refine Runs.lp (by kernel_rfl) (Runs.sqR mixed hkU [] (by kernel_rfl) (by kernel_rfl) (by kernel_rfl) oblN (Runs.sq (by kernel_rfl) ?_))
    refine Runs.cd (b := ltF (.ofNat i) (.ofNat i)) (by kernel_rfl) (fun ht => by rw [lt_self] at ht; cases ht) (fun _ => Runs.now (x := .exit 0) (by kernel_rfl) ⟨rfl, ?_⟩)
    exact less_seenP (clo_all (k := 2) (by kernel_rfl)) o22_clo (Nat.le_refl 2) (by kernel_rfl) (by kernel_rfl) (by kernel_rfl) (by kernel_rfl)
  | succ d ih =>
    intro i hi
    have hlt : i < n := by omega
    obtain ⟨x, hx⟩ : ∃ x, l[i]? = some x := ⟨l[i], List.getElem?_eq_getElem (by omega)⟩
    have hq : aggEq Tryz.prog 35 #[i64 (x / 7), i64 (x % 7)] #[i64 (x / 7), i64 (x % 7)] = some true := eq_of_beq (List.all_eq_true.1 place_eq x (List.mem_range.2 (hb x (List.mem_of_getElem? hx))))
    refine Runs.lp (by kernel_rfl) (Runs.sqR mixed hkU [] (by kernel_rfl) (by kernel_rfl) (by kernel_rfl) oblN (Runs.sq (by kernel_rfl) ?_))
    refine Runs.cd (b := ltF (.ofNat i) (.ofNat n)) (by kernel_rfl) (fun _ => Runs.now (x := .normal) (by kernel_rfl) ?_) (fun hf => by rw [lt_of hlt] at hf; cases hf)
    show Runs Tryz.prog 2 _ _ _
    refine Runs.sq (by kernel_rfl) (Runs.bk (id := 1) (by kernel_rfl) ?_)
    refine Runs.sqR mixed hkU [] (by kernel_rfl) (by kernel_rfl) (by kernel_rfl) oblN ?_
    refine Runs.sq (by kernel_rfl) ?_
    refine Runs.rgD mixed hkU [viaV 2 (.pointer (some ⟨0, 0 + i * 2, none⟩)), viaV 3 (plV x), viaV 6 (.pointer (some ⟨1, 0 + i * 2, none⟩)), viaV 7 (plV x), viaV 8 (.bool false)] [] (by kernel_rfl) (by kernel_rfl) (by kernel_rfl) (by kernel_rfl)
      (oblC (shown_idx (n := n) (by kernel_rfl) hlt) (oblC (shown_agg (by kernel_rfl) (placesC_at (q := 0) (l := l) (lv := false) (par := []) (ty := none) (by kernel_rfl) hx))
      (oblC (shown_idx (n := n) (by kernel_rfl) hlt) (oblC (shown_agg (by kernel_rfl) (placesC_at (q := 1) (l := l) (lv := false) (par := []) (ty := none) (by kernel_rfl) hx))
      (oblC ⟨by kernel_rfl, (show _ = ((aggEq Tryz.prog 35 #[i64 (x / 7), i64 (x % 7)] #[i64 (x / 7), i64 (x % 7)]).map fun b => Value.bool (!b)).map (·, _) by kernel_rfl).trans (by rw [hq]; rfl)⟩ oblN))))) dynN ?_
    show Runs Tryz.prog 2 _ _ _
    refine Runs.cd (b := false) (by kernel_rfl) (fun h => by cases h) (fun _ => Runs.now (x := .normal) (by kernel_rfl) ?_)
    show Runs Tryz.prog 2 _ _ _
    refine Runs.rg mixed hkU [viaV 0 (i64 (i + 1))] (by kernel_rfl) (by kernel_rfl) (by kernel_rfl) (oblC (shown_eq (v := .int .i64 (wrapF .i64 (Int.add (.ofNat i) (.ofNat 1)))) (by kernel_rfl) (by kernel_rfl) (by rw [wrap_succ (by omega)]; rfl)) oblN) ?_
    show Runs Tryz.prog 2 lp22 _ _
    exact Runs.less (af1 := sth (S22 n a b (i + 1)) 26 (O22 l)) (less_seenP (clo_all (k := 2) (by kernel_rfl)) o22_clo (Nat.le_refl 2) (by kernel_rfl) (by kernel_rfl) (by kernel_rfl) (by kernel_rfl)) (ih (i + 1) (by omega))
theorem equal_local {n a b : Nat} (l : List Nat) (hb : ∀ x ∈ l, x < 64) (hl : l.length = n) (hn : n < 1000) : Local Tryz.prog 2 22 [smallS 0 n a, smallS 1 n b] (hp (O22 l)) fun v' _ => v' = .bool true := by
  refine local_of noNum Tryz.func22 (show Tryz.f22.body = some c22 by kernel_rfl) ?_
  refine Runs.sqR mixed hkU [] (by kernel_rfl) (by kernel_rfl) (by kernel_rfl) oblN ?_
  refine Runs.sq (by kernel_rfl) (Runs.sqR mixed hkU [viaV 4 (.bool false)] (by kernel_rfl) (by kernel_rfl) (by kernel_rfl) (oblC (shown_eq (v := .bool (!(eqF (.ofNat n) (.ofNat n)))) (by kernel_rfl) (by kernel_rfl) (by rw [eqF_true rfl]; rfl)) oblN) ?_)
  refine Runs.cd (b := false) (by kernel_rfl) (fun h => by cases h) (fun _ => Runs.now (x := .normal) (by kernel_rfl) ?_)
  show Runs Tryz.prog 2 _ _ _
  refine Runs.sq (by kernel_rfl) (Runs.sqR mixed hkU [] (by kernel_rfl) (by kernel_rfl) (by kernel_rfl) oblN (Runs.bk (id := 0) (by kernel_rfl) ?_))
  show Runs Tryz.prog 2 lp22 _ _
  refine Runs.less (af1 := sth (S22 n a b 0) 26 (O22 l)) (less_seenP (clo_all (k := 2) (by kernel_rfl)) o22_clo (Nat.le_refl 2) (by kernel_rfl) (by kernel_rfl) (by kernel_rfl) (by kernel_rfl)) ?_
  refine (equal_loop (a := a) (b := b) l hb hl hn n 0 (by omega)).mono fun e af hx => ?_
  obtain ⟨rfl, less⟩ := hx
  show Runs Tryz.prog 2 _ af _
  exact Runs.less less (Runs.sqR mixed hkU [] (by kernel_rfl) (by kernel_rfl) (by kernel_rfl) oblN (Runs.now (x := .ret) (by kernel_rfl) ⟨.inr rfl, [.bool true], by kernel_rfl, rfl⟩))
theorem equal_says {l : List Nat} (hb : ∀ x ∈ l, x < 64) (hn : l.length < 1000) {h : AH} {s t : Value} {i o j q : Nat} (hs : Sees h ⟨i, o, l.length, placesC l⟩ s) (ht : Sees h ⟨j, q, l.length, placesC l⟩ t) : Says Tryz.prog h 22 [s, t] (.bool true) h :=
  tellF (C := fun ss => ss) (vs := [⟨i, o, l.length, placesC l⟩, ⟨j, q, l.length, placesC l⟩]) (ss := [s, t]) (idC_ok 2) rfl (fun caps hc => by
    obtain ⟨a, b, rfl, _, _⟩ := fits2 hc
    exact equal_local (a := a) (b := b) l hb rfl hn) (fun v' _ r => r) (fun μ μ' x hx => flat_any hx rfl) ⟨hs, ht, trivial⟩
end
end Go.Proofs.YtbcjmmbmeebfgaaGreatDoor
