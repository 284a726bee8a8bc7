/- full, region: the places that agree with a set of galleries, as contracts. -/
import Derived.Test.YtbcjmmbmeebfgaaGreatDoorSFloodedUG2
namespace Go.Proofs.YtbcjmmbmeebfgaaGreatDoor
set_option linter.unusedVariables false
set_option linter.unusedSimpArgs false
open Go Go.R
set_option maxRecDepth 1000000
noncomputable section

/-! ### full -/
noncomputable def c38 : Code := bodyOf Tryz.f38
noncomputable def srvV (s : Value) (g : Nat) : Value := .agg #[s, u64 g]
theorem full_eq {m : Nat} (hm : m < 64) : 2 ^ m - 1 < 18446744073709551616 ∧ 2 ^ m ≠ 0 ∧ 2 ^ m < 18446744073709551616 := by
  have h1 : 2 ^ m < 2 ^ 64 := Nat.pow_lt_pow_right (by decide) hm
  have h2 : 0 < 2 ^ m := Nat.two_pow_pos m
  omega
theorem full_local {m cap g : Nat} {cs : List Value} (hm : m < 64) : Local Tryz.prog 1 38 [srvV (smallS 0 m cap) g] (hp [viewC cs]) fun v' _ => v' = u64 (2 ^ m - 1) := by
  obtain ⟨h1, h2, h3⟩ := full_eq hm
  refine local_of noNum Tryz.func38 (show Tryz.f38.body = some c38 by kernel_rfl) ?_
  refine Runs.sqR mixed hkU [] (by kernel_rfl) (by kernel_rfl) (by kernel_rfl) oblN ?_
  refine Runs.sqR mixed hkU [viaV 3 (u64 (2 ^ m)), viaV 4 (u64 (2 ^ m - 1))] (by kernel_rfl) (by kernel_rfl) (by kernel_rfl)
    (oblC ⟨by kernel_rfl, (show _ = (shiftA .shl .u64 1 (.ofNat m)).map (·, _) by kernel_rfl).trans (by rw [bit64 hm]; rfl)⟩
    (oblC ⟨by kernel_rfl, (show _ = (intBin .sub .u64 (.ofNat (2 ^ m)) (.ofNat 1)).map (·, _) by kernel_rfl).trans (by rw [pred64 h2 h3]; rfl)⟩ oblN)) ?_
  exact Runs.now (x := .ret) (by kernel_rfl) ⟨.inr rfl, [u64 (2 ^ m - 1)], by kernel_rfl, rfl⟩
theorem srvC_ok (g : Nat) {rest : List Value} (hr : ∀ v ∈ rest, plainV v = true) : ArgC 1 (c1G [] [u64 g] rest) := c1G_ok (fun v h => by cases h) (fun v h => by rw [List.mem_singleton.1 h]; rfl) hr
theorem full_says {m g : Nat} (hm : m < 64) {h : AH} {s : Value} {i o : Nat} {cs : List Value} (hs : Sees h ⟨i, o, m, cs⟩ s) : Says Tryz.prog h 38 [srvV s g] (u64 (2 ^ m - 1)) h :=
  tellF (C := c1G [] [u64 g] []) (vs := [⟨i, o, m, cs⟩]) (ss := [s]) (srvC_ok g (fun v h => by cases h)) rfl (fun caps hc => by
    obtain ⟨cap, rfl, hle⟩ := fits1 hc
    exact full_local (cap := cap) (cs := cs) hm) (fun v' _ r => r) (fun μ μ' x hx => flat_any hx rfl) ⟨hs, trivial⟩

/-! ### region -/
noncomputable def regN (a : Nat → Nat) (g : Nat) (l : List Nat) : Nat := l.foldl (fun r i => r &&& a i) g
theorem regN_app (a : Nat → Nat) (g : Nat) (l : List Nat) (x : Nat) : regN a g (l ++ [x]) = regN a g l &&& a x := by unfold regN; rw [List.foldl_append]; rfl
theorem regN_lt (a : Nat → Nat) {g : Nat} (hg : g < 18446744073709551616) (l : List Nat) : regN a g l < 18446744073709551616 := by
  unfold regN
  induction l generalizing g with
  | nil => exact hg
  | cons x l ih => exact ih (Nat.lt_of_le_of_lt Nat.and_le_left hg)
theorem regN_bit (a : Nat → Nat) (g : Nat) (l : List Nat) (i : Nat) : (regN a g l).testBit i = (g.testBit i && l.all fun x => (a x).testBit i) := by
  unfold regN
  induction l generalizing g with
  | nil => simp
  | cons x l ih => rw [List.foldl_cons, ih, Nat.testBit_and, List.all_cons, Bool.and_assoc]

noncomputable def aV (a : Nat → Nat) (i : Nat) : Value := u64 (a i)
theorem aV_plain (a : Nat → Nat) (m : Nat) : ∀ i, i < m → plainV (aV a i) = true := fun _ _ => rfl
noncomputable def viewA (m : Nat) (a : Nat → Nat) : AObj := viewC (valsZ m (aV a))
noncomputable def srvB (m cap g : Nat) : AObj := .cells [smallS 0 m cap, u64 g] true [] (some 85)
noncomputable def c37 : Code := bodyOf Tryz.f37
noncomputable def lp37 : Code := within (tl (hd (behind 2 c37)))
noncomputable def S37 (n i r : Nat) : List (Nat × Value) := [(2, ptrV 1), (5, u64 r), (11, slR 2 n), (12, i64 n), (13, i64 i)]
noncomputable def Os37 (m cap g : Nat) (a : Nat → Nat) (l : List Nat) : List AObj := [viewA m a, srvB m cap g, rowN l]
theorem viewA_clo {k m : Nat} {a : Nat → Nat} : CloO k (viewA m a) := cloO_plain (valsZ_plain (aV_plain a m)) _ _
theorem srvB_clo {k m cap g : Nat} (h : 0 < k) : CloO k (srvB m cap g) := ⟨fun v hv => by
  simp only [List.mem_cons, List.mem_nil_iff, or_false] at hv
  rcases hv with rfl | rfl
  · refine clo_of 10 k _ ?_
    show (plainV _ || Nat.blt 0 k) = true
    rw [Bool.or_eq_true]; exact .inr (by rw [Nat.blt_eq]; exact h)
  · exact clo_plain rfl, fun j hj => by cases hj⟩
theorem os37_clo {m cap g : Nat} {a : Nat → Nat} {l : List Nat} : ∀ o ∈ Os37 m cap g a l, CloO 3 o := fun o ho => by
  simp only [Os37, List.mem_cons, List.mem_nil_iff, or_false] at ho
  rcases ho with rfl | rfl | rfl
  · exact viewA_clo
  · exact srvB_clo (by decide)
  · exact rowN_clo

theorem region_loop {m cap g : Nat} {a : Nat → Nat} (hg : g < 18446744073709551616) (ha : ∀ i, i < m → a i < 18446744073709551616) (l : List Nat) (hl : ∀ x ∈ l, x < m) (hn : l.length < 1000) : ∀ d i, i + d = l.length →
    Runs Tryz.prog 1 lp37 (sth (S37 l.length i (regN a g (l.take i))) 26 (Os37 m cap g a l)) fun e af => e = .exit 0 ∧ Less 1 (sth [(5, u64 (regN a g l))] 26 (Os37 m cap g a l)) af := by
  intro d
  induction d with
  | zero =>
    intro i hi
    have e : i = l.length := by omega
    subst e
    rw [List.take_of_length_le (Nat.le_refl _)]
    refine Runs.lp (by kernel_rfl) (Runs.sqR mixed hkU [] (by kernel_rfl) (by kernel_rfl) (by kernel_rfl) oblN (Runs.sq (by kernel_rfl) ?_))
    refine Runs.cd (b := ltF (.ofNat l.length) (.ofNat l.length)) (by kernel_rfl) (fun ht => by rw [lt_self] at ht; cases ht) (fun _ => Runs.now (x := .exit 0) (by kernel_rfl) ⟨rfl, ?_⟩)
    exact less_seenP (clo_all (k := 3) (by kernel_rfl)) os37_clo (show 1 ≤ 3 by decide) (by kernel_rfl) (by kernel_rfl) (by kernel_rfl) (by kernel_rfl)
  | succ d ih =>
    intro i hi
    have hlt : i < l.length := by omega
    obtain ⟨x, hx⟩ : ∃ x, l[i]? = some x := ⟨l[i], List.getElem?_eq_getElem hlt⟩
    have hxm : x < m := hl x (List.mem_of_getElem? hx)
    have htake : l.take (i + 1) = l.take i ++ [x] := by rw [List.take_add_one, hx]; rfl
    have hr : regN a g (l.take i) < 18446744073709551616 := regN_lt a hg _
    refine Runs.lp (by kernel_rfl) (Runs.sqR mixed hkU [] (by kernel_rfl) (by kernel_rfl) (by kernel_rfl) oblN (Runs.sq (by kernel_rfl) ?_))
    refine Runs.cd (b := ltF (.ofNat i) (.ofNat l.length)) (by kernel_rfl) (fun _ => Runs.now (x := .normal) (by kernel_rfl) ?_) (fun hf => by rw [lt_of hlt] at hf; cases hf)
    show Runs Tryz.prog 1 _ _ _
    refine Runs.sq (by kernel_rfl) (Runs.bk (id := 1) (by kernel_rfl) ?_)
    refine Runs.sqR mixed hkU [viaV 0 (.pointer (some ⟨2, 0 + i * 1, none⟩)), viaV 1 (i64 x)] (by kernel_rfl) (by kernel_rfl) (by kernel_rfl)
      (oblC (shown_idx (n := l.length) (by kernel_rfl) hlt) (oblC (shown_cell (by kernel_rfl) (natsC_at (q := 2) (l := l) (lv := true) (par := []) (ty := some 3) (by kernel_rfl) hx)) oblN)) ?_
    refine Runs.rg mixed hkU [viaV 4 (.pointer (some ⟨0, 0 + x * 1, none⟩)), viaV 5 (u64 (a x)), viaV 6 (u64 (regN a g (l.take i) &&& a x))] (by kernel_rfl) (by kernel_rfl) (by kernel_rfl)
      (oblC (shown_idx (n := m) (by kernel_rfl) hxm) (oblC (shown_cell (by kernel_rfl) (valsZ_at (q := 0) (n := m) (g := aV a) (lv := false) (par := []) (ty := none) (by kernel_rfl) hxm))
      (oblC ⟨by kernel_rfl, (show _ = (intBin .and .u64 (.ofNat (regN a g (l.take i))) (.ofNat (a x))).map (·, _) by kernel_rfl).trans (by rw [and64 hr (ha x hxm)]; rfl)⟩ oblN))) ?_
    show Runs Tryz.prog 1 _ _ _
    refine Runs.rg mixed hkU [viaV 0 (i64 (i + 1))] (by kernel_rfl) (by kernel_rfl) (by kernel_rfl) (oblC (shown_eq (v := .int .i64 (wrapF .i64 (Int.add (.ofNat i) (.ofNat 1)))) (by kernel_rfl) (by kernel_rfl) (by rw [wrap_succ (by omega)]; rfl)) oblN) ?_
    show Runs Tryz.prog 1 lp37 _ _
    have := ih (i + 1) (by omega)
    rw [htake, regN_app] at this
    exact Runs.less (af1 := sth (S37 l.length (i + 1) (regN a g (l.take i) &&& a x)) 26 (Os37 m cap g a l)) (less_seenP (clo_all (k := 3) (by kernel_rfl)) os37_clo (show 1 ≤ 3 by decide) (by kernel_rfl) (by kernel_rfl) (by kernel_rfl) (by kernel_rfl)) this

theorem region_local {m cap g s : Nat} {a : Nat → Nat} (hg : g < 18446744073709551616) (ha : ∀ i, i < m → a i < 18446744073709551616) (h0 : s ≠ 0) (hs : s < 18446744073709551616) (hl : ∀ x ∈ bitsN s, x < m) :
    Local Tryz.prog 1 37 [srvV (smallS 0 m cap) g, u64 s] (hp [viewA m a]) fun v' _ => v' = u64 (regN a g (bitsN s)) := by
  refine local_of noNum Tryz.func37 (show Tryz.f37.body = some c37 by kernel_rfl) ?_
  refine Runs.sqR mixed hkU [] (by kernel_rfl) (by kernel_rfl) (by kernel_rfl) oblN ?_
  refine Runs.sqR mixed hkU [] (by kernel_rfl) (by kernel_rfl) (by kernel_rfl) oblN ?_
  refine Runs.sq (by kernel_rfl) (Runs.sqR mixed hkU [viaH 1 36 [u64 s] (slR 2 (bitsN s).length) ((hp [viewA m a, srvB m cap g]).new (rowN (bitsN s))).2] (by kernel_rfl) (by kernel_rfl) (by kernel_rfl)
    (oblC (shown_callHE (h0 := hp [viewA m a, srvB m cap g]) (by kernel_rfl) (by kernel_rfl) (list_says h0 hs _)) oblN) (Runs.bk (id := 0) (by kernel_rfl) ?_))
  show Runs Tryz.prog 1 lp37 _ _
  refine Runs.less (af1 := sth (S37 (bitsN s).length 0 g) 26 (Os37 m cap g a (bitsN s))) (less_seenP (clo_all (k := 3) (by kernel_rfl)) os37_clo (show 1 ≤ 3 by decide) (by kernel_rfl) (by kernel_rfl) (by kernel_rfl) (by kernel_rfl)) ?_
  have hb := bits_len s
  refine (region_loop (m := m) (cap := cap) hg ha (bitsN s) hl (by omega) (bitsN s).length 0 (by omega)).mono fun e af hx => ?_
  obtain ⟨rfl, less⟩ := hx
  show Runs Tryz.prog 1 _ af _
  refine Runs.less less ?_
  exact Runs.sqR mixed hkU [] (by kernel_rfl) (by kernel_rfl) (by kernel_rfl) oblN (Runs.now (x := .ret) (by kernel_rfl) ⟨.inr rfl, [u64 (regN a g (bitsN s))], by kernel_rfl, rfl⟩)
theorem region_local0 {cs : List Value} {m cap g : Nat} : Local Tryz.prog 1 37 [srvV (smallS 0 m cap) g, u64 0] (hp [viewC cs]) fun v' _ => v' = u64 g := by
  refine local_of noNum Tryz.func37 (show Tryz.f37.body = some c37 by kernel_rfl) ?_
  refine Runs.sqR mixed hkU [] (by kernel_rfl) (by kernel_rfl) (by kernel_rfl) oblN ?_
  refine Runs.sqR mixed hkU [] (by kernel_rfl) (by kernel_rfl) (by kernel_rfl) oblN ?_
  refine Runs.sq (by kernel_rfl) (Runs.sqR mixed hkU [viaC 1 36 [u64 0] (.slice none 0 0)] (by kernel_rfl) (by kernel_rfl) (by kernel_rfl) (oblC (shown_call (by kernel_rfl) (list_none _)) oblN) (Runs.bk (id := 0) (by kernel_rfl) ?_))
  refine Runs.lp (by kernel_rfl) (Runs.sqR mixed hkU [] (by kernel_rfl) (by kernel_rfl) (by kernel_rfl) oblN (Runs.sq (by kernel_rfl) ?_))
  refine Runs.cd (b := false) (by kernel_rfl) (fun ht => by cases ht) (fun _ => Runs.now (x := .exit 0) (by kernel_rfl) ?_)
  show Runs Tryz.prog 1 _ _ _
  exact Runs.sqR mixed hkU [] (by kernel_rfl) (by kernel_rfl) (by kernel_rfl) oblN (Runs.now (x := .ret) (by kernel_rfl) ⟨.inr rfl, [u64 g], by kernel_rfl, rfl⟩)
theorem region_says {m g s : Nat} {a : Nat → Nat} (hg : g < 18446744073709551616) (ha : ∀ i, i < m → a i < 18446744073709551616) (hs : s < 18446744073709551616) (hl : ∀ x ∈ bitsN s, x < m) {h : AH} {t : Value} {i o : Nat} (ht : Sees h ⟨i, o, m, valsZ m (aV a)⟩ t) :
    Says Tryz.prog h 37 [srvV t g, u64 s] (u64 (regN a g (bitsN s))) h :=
  tellF (C := c1G [] [u64 g] [u64 s]) (vs := [⟨i, o, m, valsZ m (aV a)⟩]) (ss := [t]) (srvC_ok g (fun v h => by rw [List.mem_singleton.1 h]; rfl)) rfl (R := fun v' _ => v' = u64 (regN a g (bitsN s))) (fun caps hc => by
    obtain ⟨cap, rfl, hle⟩ := fits1 hc
    by_cases h0 : s = 0
    · subst h0
      rw [bits_zero]
      exact region_local0 (cs := valsZ m (aV a)) (m := m) (cap := cap)
    · exact region_local (cap := cap) hg ha h0 hs hl) (fun v' _ r => r) (fun μ μ' x hx => flat_any hx rfl) ⟨ht, trivial⟩
end
end Go.Proofs.YtbcjmmbmeebfgaaGreatDoor

/- Region: the places that agree with all galleries, as a contract. -/
namespace Go.Proofs.YtbcjmmbmeebfgaaGreatDoor
set_option linter.unusedVariables false
set_option linter.unusedSimpArgs false
open Go Go.R
set_option maxRecDepth 1000000
noncomputable section

noncomputable def placesC (l : List Nat) : List Value := l.flatMap fun x => [i64 (x / 7), i64 (x % 7)]
theorem placesC_len (l : List Nat) : (placesC l).length = l.length * 2 := by
  unfold placesC
  induction l with
  | nil => rfl
  | cons x l ih => rw [List.flatMap_cons, List.length_append, ih]; simp; omega
theorem placesC_app (l : List Nat) (x : Nat) : placesC l ++ [i64 (x / 7), i64 (x % 7)] = placesC (l ++ [x]) := by simp [placesC]
theorem placesC_plain (l : List Nat) : ∀ x ∈ placesC l, plainV x = true := fun x hx => by
  obtain ⟨i, _, hx⟩ := List.mem_flatMap.1 hx
  simp only [List.mem_cons, List.mem_nil_iff, or_false] at hx
  rcases hx with rfl | rfl <;> rfl
noncomputable def rowP (l : List Nat) : AObj := .cells (placesC l) true [] (some 35)
noncomputable def slP (i n : Nat) : Value := .slice (some ⟨i, 0, some 2⟩) n n
theorem rowP_clo {k : Nat} {l : List Nat} : CloO k (rowP l) := cloO_plain (placesC_plain l) _ _
theorem place_info : ∃ info, Tryz.prog.info? 35 = some info ∧ info.size = 1 + 1 ∧ (decide (info.bytes > 1000000) || !zfit info) = false := ⟨(Tryz.prog.info? 35).get!, by kernel_rfl, by kernel_rfl, by kernel_rfl⟩
theorem obs_rowP {ρ : Nat → Nat} {m : Nat} {l : List Nat} {p : List Nat} {x : AObj} {c : List Value} (e : x = .cells c true p (some 35)) (ec : c = placesC l) : RenO ρ m x (rowP l) := RenO.row (c := placesC l) (lv := true) (p := p) (ty := some 35) (ec ▸ e) (placesC_plain l) (fun h => h) (.inr rfl)

noncomputable def c11 : Code := bodyOf Tryz.f11
noncomputable def lp11 : Code := within (tl (hd (behind 4 c11)))
noncomputable def S11 (n i : Nat) : List (Nat × Value) := [(6, slP 2 i), (21, slR 1 n), (22, i64 n), (23, i64 i)]
noncomputable def Os11 (m : Nat) (A B C : Nat → Int) (l p : List Nat) : List AObj := [viewG m A B C, rowN l, rowP p]
theorem os11_clo {m : Nat} {A B C : Nat → Int} {l p : List Nat} : ∀ o ∈ Os11 m A B C l p, CloO 3 o := fun o ho => by
  simp only [Os11, List.mem_cons, List.mem_nil_iff, or_false] at ho
  rcases ho with rfl | rfl | rfl
  · exact viewG_clo
  · exact rowN_clo
  · exact rowP_clo

theorem quo7 {x : Nat} (h : x < 64) : wrapF .i64 (Int.tdiv (.ofNat x) (.ofNat 7)) = .ofNat (x / 7) := by
  show wrapF .i64 (Int.ofNat (x / 7)) = _
  exact wrap_ofNat (by omega)

theorem places_loop {m : Nat} {A B C : Nat → Int} (l : List Nat) (hl : ∀ x ∈ l, x < 64) (hn : l.length < 1000) : ∀ d i, i + d = l.length →
    Runs Tryz.prog 1 lp11 (sth (S11 l.length i) 37 (Os11 m A B C l (l.take i))) fun e af => e = .exit 0 ∧ Less 1 (sth [(6, slP 2 l.length)] 37 (Os11 m A B C l l)) af := by
  intro d
  induction d with
  | zero =>
    intro i hi
    have e : i = l.length := by omega
    subst e
    rw [List.take_of_length_le (Nat.le_refl _)]
    refine Runs.lp (by kernel_rfl) (Runs.sqR mixed hkU [] (by kernel_rfl) (by kernel_rfl) (by kernel_rfl) oblN (Runs.sq (by kernel_rfl) ?_))
    refine Runs.cd (b := ltF (.ofNat l.length) (.ofNat l.length)) (by kernel_rfl) (fun ht => by rw [lt_self] at ht; cases ht) (fun _ => Runs.now (x := .exit 0) (by kernel_rfl) ⟨rfl, ?_⟩)
    exact less_seenP (clo_all (k := 3) (by kernel_rfl)) os11_clo (show 1 ≤ 3 by decide) (by kernel_rfl) (by kernel_rfl) (by kernel_rfl) (by kernel_rfl)
  | succ d ih =>
    intro i hi
    have hlt : i < l.length := by omega
    obtain ⟨x, hx⟩ : ∃ x, l[i]? = some x := ⟨l[i], List.getElem?_eq_getElem hlt⟩
    have hx64 : x < 64 := hl x (List.mem_of_getElem? hx)
    have htake : l.take (i + 1) = l.take i ++ [x] := by rw [List.take_add_one, hx]; rfl
    have hti : (l.take i).length = i := by rw [List.length_take]; omega
    refine Runs.lp (by kernel_rfl) (Runs.sqR mixed hkU [] (by kernel_rfl) (by kernel_rfl) (by kernel_rfl) oblN (Runs.sq (by kernel_rfl) ?_))
    refine Runs.cd (b := ltF (.ofNat i) (.ofNat l.length)) (by kernel_rfl) (fun _ => Runs.now (x := .normal) (by kernel_rfl) ?_) (fun hf => by rw [lt_of hlt] at hf; cases hf)
    show Runs Tryz.prog 1 _ _ _
    refine Runs.sq (by kernel_rfl) (Runs.bk (id := 1) (by kernel_rfl) ?_)
    refine Runs.sqR mixed hkU [viaV 0 (.pointer (some ⟨1, 0 + i * 1, none⟩)), viaV 1 (i64 x)] (by kernel_rfl) (by kernel_rfl) (by kernel_rfl)
      (oblC (shown_idx (n := l.length) (by kernel_rfl) hlt) (oblC (shown_cell (by kernel_rfl) (natsC_at (q := 1) (l := l) (lv := true) (par := []) (ty := some 3) (by kernel_rfl) hx)) oblN)) ?_
    let H0 : AH := hp (Os11 m A B C l (l.take i))
    let H1 : AH := (H0.new (.cells [i64 (x / 7), i64 (x % 7)] true [] (some 35))).2
    have hap := push_gen (st := 28) (e := 35) (z := 1) (by kernel_rfl) place_info (h := H1) (i := 2) (j := 3) (x := [i64 (x / 7), i64 (x % 7)]) (c := placesC (l.take i)) (m := i) (par := []) rfl rfl (by rw [placesC_len, hti]) (by omega) (by kernel_rfl) (by kernel_rfl)
    refine Runs.rg mixed hkU [viaV 2 (i64 (x / 7)), viaV 4 (i64 (x % 7)), ⟨7, slP 4 (i + 1), some ((H1.put 2 (.cells (placesC (l.take i)) false [] (some 35))).new (.cells (placesC (l.take i) ++ [i64 (x / 7), i64 (x % 7)]) true [2] (some 35))).2, none⟩] (by kernel_rfl) (by kernel_rfl) (by kernel_rfl)
      (oblC (shown_eq (v := .int .i64 (wrapF .i64 (Int.tdiv (.ofNat x) (.ofNat 7)))) (by kernel_rfl) (by kernel_rfl) (by rw [quo7 hx64]; rfl))
      (oblC (shown_eq (v := .int .i64 (Int.tmod (.ofNat x) (.ofNat 7))) (by kernel_rfl) (by kernel_rfl) rfl)
      (oblC ⟨by kernel_rfl, (show _ = appendA Tryz.prog #[28, 28] (.slice (some ⟨2, 0, some 2⟩) i i) (.slice (some ⟨3, 0, none⟩) 1 1) H1 by kernel_rfl).trans hap⟩ oblN))) ?_
    show Runs Tryz.prog 1 _ _ _
    refine Runs.rg mixed hkU [viaV 0 (i64 (i + 1))] (by kernel_rfl) (by kernel_rfl) (by kernel_rfl) (oblC (shown_eq (v := .int .i64 (wrapF .i64 (Int.add (.ofNat i) (.ofNat 1)))) (by kernel_rfl) (by kernel_rfl) (by rw [wrap_succ (by omega)]; rfl)) oblN) ?_
    show Runs Tryz.prog 1 lp11 _ _
    have := ih (i + 1) (by omega)
    rw [htake] at this
    exact Runs.renumK (sz := 37) (l := S11 l.length (i + 1)) (os := Os11 m A B C l (l.take i ++ [x])) (fun j => match j with | 2 => 4 | j => j) (fun j => match j with | 4 => 2 | j => j) (by kernel_rfl) (show 1 ≤ 3 by decide) (by kernel_rfl) (fix1 (by kernel_rfl)) (by kernel_rfl) (by kernel_rfl) (by kernel_rfl) (by kernel_rfl)
      (obsL [viewG m A B C, rowN l, .cells (placesC (l.take i) ++ [i64 (x / 7), i64 (x % 7)]) true [2] (some 35)] (by kernel_rfl) ⟨obs_viewG rfl, obs_rowN rfl rfl, obs_rowP rfl (placesC_app _ x), trivial⟩) this

/-! ### Region -/
theorem grid_lt {k : Nat} (hk : k < 8) : gridN k < 18446744073709551616 := by
  have : ((List.range 8).all fun k => Nat.blt (gridN k) 18446744073709551616) = true := by kernel_rfl
  exact blt_lt (List.all_eq_true.1 this k (List.mem_range.2 hk))
/-- The places that agree with all galleries, as a number. -/
noncomputable def regG (k m : Nat) (A B C : Nat → Int) : Nat := regN (fun i => areaN (A i) (B i) (C i)) (gridN k) (List.range m)
theorem regG_lt {k m : Nat} (hk : k < 8) {A B C : Nat → Int} : regG k m A B C < 18446744073709551616 := regN_lt _ (grid_lt hk) _

/-- The survey that is made, and what agrees with all of its galleries. -/
theorem sees_row {h : AH} {q n : Nat} {cells : List Value} {lv : Bool} {par : List Nat} {ty : Option TypeId} (e : h.get q = .cells cells lv par ty) (hp : ∀ u ∈ cells, plainV u = true) {z : Nat} : Sees h ⟨q, 0, n, cells⟩ (.slice (some ⟨q, 0, some (z + 1)⟩) n n) :=
  ⟨cells, lv, par, ty, e, fun k u hk => by rw [Nat.zero_add]; exact hk, by rw [Nat.zero_add]; exact Nat.le_refl _, hp, .inl ⟨z, rfl⟩⟩
theorem full_region {k m : Nat} {A B C : Nat → Int} (hk7 : k < 8) (hm : m < 64) {h : AH} {t : Value} {i o : Nat} (ht : Sees h ⟨i, o, m, valsZ m (areaV A B C)⟩ t) : Says Tryz.prog h 37 [srvV t (gridN k), u64 (2 ^ m - 1)] (u64 (regG k m A B C)) h := by
  have := region_says (m := m) (g := gridN k) (s := 2 ^ m - 1) (a := fun i => areaN (A i) (B i) (C i)) (grid_lt hk7) (fun i _ => areaN_lt _ _ _) (full_eq hm).1 (fun x hx => by rw [bits_full hm] at hx; exact List.mem_range.1 hx) ht
  rw [bits_full hm] at this
  exact this

noncomputable def Hs11 (k m cap : Nat) (A B C : Nat → Int) : List AObj := [viewG m A B C, hillO k m cap, rowAr m A B C, srvO k 2 m]
theorem hs11_clo {k m cap : Nat} {A B C : Nat → Int} : ∀ o ∈ Hs11 k m cap A B C, CloO 4 o := fun o ho => by
  simp only [Hs11, List.mem_cons, List.mem_nil_iff, or_false] at ho
  rcases ho with rfl | rfl | rfl | rfl
  · exact viewG_clo
  · exact hillO_clo
  · exact rowAr_clo
  · exact srvO_clo (by decide)

theorem region_head {k m cap : Nat} {A B C : Nat → Int} (hk : 0 < k) (hk7 : k < 8) (hm0 : 0 < m) (hm : m < 11) (hc : m ≤ cap) (G : Gals m A B C) {Q : AExit → AF → Prop}
    (h : Runs Tryz.prog 1 (behind 4 c11) (sth [(2, .slice none 0 0), (3, i64 0), (4, ptrV 3), (6, .slice none 0 0)] 37 (Hs11 k m cap A B C)) Q) : Runs Tryz.prog 1 c11 (entry Tryz.f11 [hillV k (smallS 0 m cap)] (hp [viewG m A B C])) Q := by
  refine Runs.sqR mixed hkU [] (by kernel_rfl) (by kernel_rfl) (by kernel_rfl) oblN ?_
  refine Runs.sqR mixed hkU [viaH 1 35 [hillV k (smallS 0 m cap)] (survV k m 2) ((hp [viewG m A B C, hillO k m cap]).new (rowAr m A B C)).2] (by kernel_rfl) (by kernel_rfl) (by kernel_rfl)
    (oblC (shown_callHE (h0 := hp [viewG m A B C, hillO k m cap]) (by kernel_rfl) (by kernel_rfl) (surv_says hk hk7 hm0 hm G (sees_here hc (by kernel_rfl)))) oblN) ?_
  refine Runs.sq (by kernel_rfl) (Runs.sqR mixed hkU [] (by kernel_rfl) (by kernel_rfl) (by kernel_rfl) oblN ?_)
  refine Runs.cd (b := false) (by kernel_rfl) (fun h => by cases h) (fun _ => Runs.now (x := .normal) (by kernel_rfl) ?_)
  show Runs Tryz.prog 1 _ _ _
  refine Runs.sqR mixed hkU [] (by kernel_rfl) (by kernel_rfl) (by kernel_rfl) oblN ?_
  exact Runs.less (af1 := sth [(2, .slice none 0 0), (3, i64 0), (4, ptrV 3), (6, .slice none 0 0)] 37 (Hs11 k m cap A B C)) (less_seenP (clo_all (k := 4) (by kernel_rfl)) hs11_clo (show 1 ≤ 4 by decide) (by kernel_rfl) (by kernel_rfl) (by kernel_rfl) (by kernel_rfl)) h

theorem Region_local {k m cap : Nat} {A B C : Nat → Int} (hk : 0 < k) (hk7 : k < 8) (hm0 : 0 < m) (hm : m < 11) (hc : m ≤ cap) (G : Gals m A B C) (hr : regG k m A B C ≠ 0) :
    Local Tryz.prog 1 11 [hillV k (smallS 0 m cap)] (hp [viewG m A B C]) (rowIsC (dT (i64 0)) 1 (bitsN (regG k m A B C)).length (placesC (bitsN (regG k m A B C))) (some 35)) := by
  refine local_of noNum Tryz.func11 (show Tryz.f11.body = some c11 by kernel_rfl) ?_
  refine region_head hk hk7 hm0 hm hc G ?_
  have hm64 : m < 64 := by omega
  have hR := regG_lt (m := m) hk7 (A := A) (B := B) (C := C)
  have sr : ∀ {h : AH}, h.get 2 = rowAr m A B C → Sees h ⟨2, 0, m, valsZ m (areaV A B C)⟩ (slR 2 m) := fun e => sees_row e (valsZ_plain (area_plain A B C m))
  have hb := bits_len (regG k m A B C)
  have hmem : ∀ x ∈ bitsN (regG k m A B C), x < 64 := fun x hx => (mem_bits.1 hx).1
  have hpos : 0 < (bitsN (regG k m A B C)).length := by rw [bits_step hr hR]; simp
  have hls := list_says hr hR (hp (Hs11 k m cap A B C))
  generalize bitsN (regG k m A B C) = l at hb hmem hpos hls ⊢
  refine Runs.sq (by kernel_rfl) (Runs.sq (by kernel_rfl) ?_)
  refine Runs.rgD mixed hkU [viaC 2 38 [srvV (slR 2 m) (gridN k)] (u64 (2 ^ m - 1)), viaC 3 37 [srvV (slR 2 m) (gridN k), u64 (2 ^ m - 1)] (u64 (regG k m A B C)), viaH 4 36 [u64 (regG k m A B C)] (slR 4 l.length) ((hp (Hs11 k m cap A B C)).new (rowN l)).2] [(0, 3)] (by kernel_rfl) (by kernel_rfl) (by kernel_rfl) (by kernel_rfl)
    (oblC (shown_call (by kernel_rfl) (full_says hm64 (sr (by kernel_rfl)))) (oblC (shown_call (by kernel_rfl) (full_region hk7 hm64 (sr (by kernel_rfl)))) (oblC (shown_callHE (h0 := hp (Hs11 k m cap A B C)) (by kernel_rfl) (by kernel_rfl) hls) oblN)))
    (dynC (dyn_at (d := 17) (v := srvV (slR 2 m) (gridN k)) (by kernel_rfl) (by kernel_rfl) (by kernel_rfl)) dynN) ?_
  show Runs Tryz.prog 1 _ _ _
  refine Runs.bk (id := 0) (by kernel_rfl) ?_
  show Runs Tryz.prog 1 lp11 _ _
  obtain ⟨x, hx⟩ : ∃ x, l[0]? = some x := ⟨l[0], List.getElem?_eq_getElem hpos⟩
  have hx64 : x < 64 := hmem x (List.mem_of_getElem? hx)
  have htake : l.take 1 = [x] := by rw [List.take_add_one, hx]; rfl
  refine Runs.renumK (sz := 37) (l := [(6, .slice none 0 0), (21, slR 1 l.length), (22, i64 l.length), (23, i64 0)]) (os := [viewG m A B C, rowN l]) (fun j => match j with | 1 => 4 | j => j) (fun j => match j with | 4 => 1 | j => j) (by kernel_rfl) (show 1 ≤ 2 by decide) (by kernel_rfl) (fix1 (by kernel_rfl)) (by kernel_rfl) (by kernel_rfl) (by kernel_rfl) (by kernel_rfl)
    (obsL [viewG m A B C, rowN l] (by kernel_rfl) ⟨obs_viewG rfl, obs_rowN rfl rfl, trivial⟩) ?_
  refine Runs.lp (by kernel_rfl) (Runs.sqR mixed hkU [] (by kernel_rfl) (by kernel_rfl) (by kernel_rfl) oblN (Runs.sq (by kernel_rfl) ?_))
  refine Runs.cd (b := ltF (.ofNat 0) (.ofNat l.length)) (by kernel_rfl) (fun _ => Runs.now (x := .normal) (by kernel_rfl) ?_) (fun hf => by rw [lt_of hpos] at hf; cases hf)
  show Runs Tryz.prog 1 _ _ _
  refine Runs.sq (by kernel_rfl) (Runs.bk (id := 1) (by kernel_rfl) ?_)
  refine Runs.sqR mixed hkU [viaV 0 (.pointer (some ⟨1, 0 + 0 * 1, none⟩)), viaV 1 (i64 x)] (by kernel_rfl) (by kernel_rfl) (by kernel_rfl)
    (oblC (shown_idx (n := l.length) (by kernel_rfl) hpos) (oblC (shown_cell (by kernel_rfl) (natsC_at (q := 1) (i := 0) (l := l) (lv := true) (par := []) (ty := some 3) (by kernel_rfl) hx)) oblN)) ?_
  refine Runs.rg mixed hkU [viaV 2 (i64 (x / 7)), viaV 4 (i64 (x % 7))] (by kernel_rfl) (by kernel_rfl) (by kernel_rfl)
    (oblC (shown_eq (v := .int .i64 (wrapF .i64 (Int.tdiv (.ofNat x) (.ofNat 7)))) (by kernel_rfl) (by kernel_rfl) (by rw [quo7 hx64]; rfl))
    (oblC (shown_eq (v := .int .i64 (Int.tmod (.ofNat x) (.ofNat 7))) (by kernel_rfl) (by kernel_rfl) rfl) oblN)) ?_
  show Runs Tryz.prog 1 _ _ _
  refine Runs.rg mixed hkU [] (by kernel_rfl) (by kernel_rfl) (by kernel_rfl) oblN ?_
  show Runs Tryz.prog 1 lp11 _ _
  have lp := places_loop (m := m) (A := A) (B := B) (C := C) l hmem (by omega) (l.length - 1) 1 (by omega)
  rw [htake] at lp
  refine Runs.renumK (sz := 37) (l := S11 l.length 1) (os := Os11 m A B C l [x]) (fun j => match j with | 2 => 3 | j => j) (fun j => match j with | 3 => 2 | j => j) (by kernel_rfl) (show 1 ≤ 3 by decide) (by kernel_rfl) (fix1 (by kernel_rfl)) (by kernel_rfl) (by kernel_rfl) (by kernel_rfl) (by kernel_rfl)
    (obsL [viewG m A B C, rowN l, .cells [i64 (x / 7), i64 (x % 7)] true [] (some 35)] (by kernel_rfl) ⟨obs_viewG rfl, obs_rowN rfl rfl, obs_rowP rfl (by simp [placesC]), trivial⟩) ?_
  refine lp.mono fun e af hx => ?_
  obtain ⟨rfl, less⟩ := hx
  show Runs Tryz.prog 1 _ af _
  refine Runs.less less ?_
  exact Runs.sqR mixed hkU [] (by kernel_rfl) (by kernel_rfl) (by kernel_rfl) oblN (Runs.now (x := .ret) (by kernel_rfl) ⟨.inr rfl, [slP 2 l.length, i64 0], by kernel_rfl, 2, [], .inl rfl, by kernel_rfl⟩)

theorem Region_local0 {k m cap : Nat} {A B C : Nat → Int} (hk : 0 < k) (hk7 : k < 8) (hm0 : 0 < m) (hm : m < 11) (hc : m ≤ cap) (G : Gals m A B C) (hr : regG k m A B C = 0) :
    Local Tryz.prog 1 11 [hillV k (smallS 0 m cap)] (hp [viewG m A B C]) fun v' _ => v' = .tuple #[.slice none 0 0, i64 0] := by
  refine local_of noNum Tryz.func11 (show Tryz.f11.body = some c11 by kernel_rfl) ?_
  refine region_head hk hk7 hm0 hm hc G ?_
  have hm64 : m < 64 := by omega
  have sr : ∀ {h : AH}, h.get 2 = rowAr m A B C → Sees h ⟨2, 0, m, valsZ m (areaV A B C)⟩ (slR 2 m) := fun e => sees_row e (valsZ_plain (area_plain A B C m))
  have hf : ∀ {h : AH}, h.get 2 = rowAr m A B C → Says Tryz.prog h 37 [srvV (slR 2 m) (gridN k), u64 (2 ^ m - 1)] (u64 0) h := fun e => by
    have := full_region (k := k) (m := m) (A := A) (B := B) (C := C) hk7 hm64 (sr e)
    rwa [hr] at this
  refine Runs.sq (by kernel_rfl) (Runs.sq (by kernel_rfl) ?_)
  refine Runs.rgD mixed hkU [viaC 2 38 [srvV (slR 2 m) (gridN k)] (u64 (2 ^ m - 1)), viaC 3 37 [srvV (slR 2 m) (gridN k), u64 (2 ^ m - 1)] (u64 0), viaC 4 36 [u64 0] (.slice none 0 0)] [(0, 3)] (by kernel_rfl) (by kernel_rfl) (by kernel_rfl) (by kernel_rfl)
    (oblC (shown_call (by kernel_rfl) (full_says hm64 (sr (by kernel_rfl)))) (oblC (shown_call (by kernel_rfl) (hf (by kernel_rfl))) (oblC (shown_call (by kernel_rfl) (list_none _)) oblN)))
    (dynC (dyn_at (d := 17) (v := srvV (slR 2 m) (gridN k)) (by kernel_rfl) (by kernel_rfl) (by kernel_rfl)) dynN) ?_
  show Runs Tryz.prog 1 _ _ _
  refine Runs.bk (id := 0) (by kernel_rfl) ?_
  refine Runs.lp (by kernel_rfl) (Runs.sqR mixed hkU [] (by kernel_rfl) (by kernel_rfl) (by kernel_rfl) oblN (Runs.sq (by kernel_rfl) ?_))
  refine Runs.cd (b := false) (by kernel_rfl) (fun ht => by cases ht) (fun _ => Runs.now (x := .exit 0) (by kernel_rfl) ?_)
  show Runs Tryz.prog 1 _ _ _
  exact Runs.sqR mixed hkU [] (by kernel_rfl) (by kernel_rfl) (by kernel_rfl) oblN (Runs.now (x := .ret) (by kernel_rfl) ⟨.inr rfl, [.slice none 0 0, i64 0], by kernel_rfl, rfl⟩)

theorem Region_says {k m : Nat} {A B C : Nat → Int} (hk : 0 < k) (hk7 : k < 8) (hm0 : 0 < m) (hm : m < 11) (G : Gals m A B C) (hr : regG k m A B C ≠ 0) {h : AH} {s : Value} (hs : SeesG h s m A B C) :
    Says Tryz.prog h 11 [hillV k s] (.tuple #[slP h.next (bitsN (regG k m A B C)).length, i64 0]) (h.new (rowP (bitsN (regG k m A B C)))).2 := by
  obtain ⟨i, o, hs⟩ := hs
  exact tellN (z := 1) (C := c1G [i64 k] [] []) (D := dT (i64 0)) (vs := [⟨i, o, m, galsC m A B C⟩]) (ss := [s]) (hillC_ok k) (dT_ok rfl) rfl (fun caps hc => by
    obtain ⟨cap, rfl, hle⟩ := fits1 hc
    exact Region_local hk hk7 hm0 hm hle G hr) (by rw [placesC_len]) (placesC_plain _) ⟨hs, trivial⟩
theorem Region_says0 {k m : Nat} {A B C : Nat → Int} (hk : 0 < k) (hk7 : k < 8) (hm0 : 0 < m) (hm : m < 11) (G : Gals m A B C) (hr : regG k m A B C = 0) {h : AH} {s : Value} (hs : SeesG h s m A B C) :
    Says Tryz.prog h 11 [hillV k s] (.tuple #[.slice none 0 0, i64 0]) h := by
  obtain ⟨i, o, hs⟩ := hs
  exact tellF (C := c1G [i64 k] [] []) (vs := [⟨i, o, m, galsC m A B C⟩]) (ss := [s]) (hillC_ok k) rfl (fun caps hc => by
    obtain ⟨cap, rfl, hle⟩ := fits1 hc
    exact Region_local0 hk hk7 hm0 hm hle G hr) (fun v' _ r => r) (fun μ μ' x hx => flat_any hx rfl) ⟨hs, trivial⟩
end
end Go.Proofs.YtbcjmmbmeebfgaaGreatDoor
