/- TrialWorded: behind the loop. -/
import Derived.Test.YtgnkjmgkfibipaaDoorSWordedKW7
import Derived.Test.YtgnkjmgkfibipaaDoorSWordedKRest
namespace Go.Proofs.YtgnkjmgkfibipaaDoor
set_option linter.unusedVariables false
set_option linter.unusedSimpArgs false
open Go Go.R
set_option maxRecDepth 1000000
noncomputable section

/-! ### As many levels as there may be -/
theorem cntB_cntU : ∀ (l : List UInt8) (k : Nat), cntB l 98 k = k + cntU l
  | [], k => rfl
  | b :: l, k => by
    unfold cntU
    rw [cntB, List.filter_cons]
    by_cases hb : b = 98
    · subst hb
      rw [if_pos (show Nat.beq (98 : UInt8).toNat 98 = true from rfl), if_pos (show ((98 : UInt8) == 98) = true from rfl), cntB_cntU l (k + 1), List.length_cons]
      unfold cntU
      omega
    · have h1 : ¬ Nat.beq b.toNat 98 = true := fun e => hb (UInt8.toNat_inj.1 (Nat.eq_of_beq_eq_true e))
      rw [if_neg h1, if_neg (by simpa using hb), cntB_cntU l k]
      rfl
theorem longTo_ge (g : Nat → List Int) : ∀ m h, h < m → (g h).length ≤ longTo g m
  | 0, h, q => by omega
  | m + 1, h, q => by
    rw [longTo]
    by_cases e : h = m
    · subst e; omega
    · have := longTo_ge g m h (by omega); omega
theorem mostTo_ge (g : Nat → List Int) : ∀ m h, h < m → bluntN h (g h) ≤ mostTo g m
  | 0, h, q => by omega
  | m + 1, h, q => by
    rw [mostTo]
    by_cases e : h = m
    · subst e; omega
    · have := mostTo_ge g m h (by omega); omega
theorem longTo_le (g : Nat → List Int) {b : Nat} (H : ∀ h, (g h).length ≤ b) : ∀ m, longTo g m ≤ b
  | 0 => Nat.zero_le _
  | m + 1 => by
    have := longTo_le g H m
    have := H m
    rw [longTo]
    omega
theorem rr_tab : ∀ b, b < 7 → ((List.range 13).all fun t => Nat.ble (RR b t) (reachN b t)) = true := all_lt (by kernel_rfl)
theorem rr_le {b t : Nat} (hb : b < 7) (ht : t < 13) : RR b t ≤ reachN b t := Nat.le_of_ble_eq_true (List.all_eq_true.1 (rr_tab b hb) t (List.mem_range.2 ht))

structure Facts (n : Nat) (l : List Nat) : Prop where
  good : Good 0 n l
  ne : l ≠ []
  le : n ≤ 12
  asc : Asc n l
  zero : readN (n + 1) (wordS (fL l) n) = 0
  back : planG (n + 1) (wordS (fL l) n) = l
  reach : mostTo (gO l) (n + 1) < 7 → n ≤ reachN (mostTo (gO l) (n + 1)) (longTo (gO l) (n + 1))

theorem facts_tree {n : Nat} {l : List Nat} {t : Tr} (G : Good 0 n l) (hne : l ≠ []) (hn : n ≤ 12) (ht : t.size = n) (hl : l = t.list 0) : Facts n l := by
  subst ht hl
  have tw : ∀ i, i ≤ t.size → bl (wordS (fL (t.list 0)) t.size i) = t.word i := fun i hi => tree_word t hi
  refine ⟨G, hne, hn, ⟨fun k hk => ?_, fun k hk => ?_⟩, read_tree hn tw, back_tree hn tw, fun hb => ?_⟩
  · rw [lt_bl, tw k (by omega), tw (k + 1) hk]
    exact t.word_lt k (k + 1) (Nat.lt_succ_self k) hk
  · cases h : prefB (wordS (fL (t.list 0)) t.size (k + 1)) (wordS (fL (t.list 0)) t.size k) with
    | false => rfl
    | true =>
      have := pref_iff.1 h
      rw [tw k (by omega), tw (k + 1) hk] at this
      exact absurd this (t.word_pf (k + 1) k hk (by omega) (by omega))
  · have hL : longTo (gO (t.list 0)) (t.size + 1) ≤ 12 := by
      refine longTo_le _ (fun h => ?_) _
      have := outN_len (t.list 0) h
      rw [t.list_len] at this
      show (outN (t.list 0) h).length ≤ 12
      omega
    refine Nat.le_trans (size_le t _ _ fun h hh => ?_) (rr_le hb (by omega))
    have eW : strB (wordOf (.ofNat h) (outN (t.list 0) h)) = wordS (fL (t.list 0)) t.size h := by unfold wordS; rw [word_run G]
    rw [← tw h hh, ← eW]
    constructor
    · have := longTo_ge (gO (t.list 0)) (t.size + 1) h (by omega)
      rw [bl_len, word_size]
      exact this
    · have := mostTo_ge (gO (t.list 0)) (t.size + 1) h (by omega)
      have e := cnt_word h (outN (t.list 0) h) 0
      rw [cntB_cntU, Nat.zero_add, Nat.zero_add] at e
      show cntU (strB (wordOf (.ofNat h) (outN (t.list 0) h))).data.toList ≤ _
      rw [e]
      exact this

/-! ### Calls -/
def vR26 (b t : Nat) : Option Value := if b = 0 then none else some (.tuple #[i64 (reachN b t), i64 0])
theorem r26_tab : ∀ a, a < 7 → row2 (callA Tryd.prog hReach 1000) 26 13 vR26 a = true := all_lt (by kernel_rfl)
theorem reach26_says {b t : Nat} (h0 : b ≠ 0) (hb : b < 7) (ht : t < 13) (h : AH) : Says Tryd.prog h 26 [i64 b, i64 t] (.tuple #[i64 (reachN b t), i64 0]) h := by
  refine hook_says (hk := numH 26 (grid2 7 13 vR26)) (grid2_ok (call_ok mixed noNum hReach_ok 1000) r26_tab) ?_
  have h1 := blt_true hb
  have h2 := blt_true ht
  simp only [numH, grid2, i64, h1, h2, if_true, vR26, if_neg h0]
  rfl
theorem works_says (h : AH) : Says Tryd.prog h 18 [] (.bool true) h := hook_says (hk := works) works_ok (by rfl)

/-! ### The end -/
def Ends11 : AExit → AF → Prop := EndsAs Tryd.prog Tryd.f11 fun v' _ => v' = .bool true
section
variable {y : Nat → Nat} {n : Nat} {l : List Nat}
noncomputable def T11 (l : List Nat) (n : Nat) : List (Nat × Value) := [(5, i64 n), (20, i64 (longTo (gO l) (n + 1))), (21, i64 (mostTo (gO l) (n + 1)))]
theorem law11_last (F : Facts n l) : Runs Tryd.prog 0 (behind 12 c11) (sth (T11 l n) 221 (w3 y l n)) Ends11 := by
  have hL : longTo (gO l) (n + 1) ≤ 12 := by
    refine longTo_le _ (fun h => ?_) _
    have := outN_len l h
    rw [F.good.len] at this
    have := F.le
    show (outN l h).length ≤ 12
    omega
  have hR := F.reach
  unfold T11
  generalize longTo (gO l) (n + 1) = L at *
  generalize mostTo (gO l) (n + 1) = B at *
  by_cases h6 : 6 < B
  · refine Runs.sq (by kernel_rfl) (Runs.sqR mixed hk38 [viaV 1 (.bool true)] (by kernel_rfl) (by kernel_rfl) (by kernel_rfl) (oblC (shown_eq (v := .bool (ltF (.ofNat 6) (.ofNat B))) (by kernel_rfl) (by kernel_rfl) (by rw [lt_of h6])) oblN) ?_)
    refine Runs.cd (b := true) (by kernel_rfl) (fun _ => ?_) (fun h => by cases h)
    refine Runs.sqR mixed hk38 [viaC 0 18 [] (.bool true)] (by kernel_rfl) (by kernel_rfl) (by kernel_rfl) (oblC (shown_callE (h0 := hp (w3 y l n)) (by kernel_rfl) (by kernel_rfl) (works_says _)) oblN) ?_
    exact Runs.now (x := .ret) (by kernel_rfl) ⟨.inr rfl, [.bool true], by kernel_rfl, rfl⟩
  · have l6 : ltF (.ofNat 6) (.ofNat B) = false := ltF_not.2 (show ((B : Nat) : Int) ≤ 6 by omega)
    by_cases h0 : B = 0
    · subst h0
      refine Runs.sq (by kernel_rfl) (Runs.sqR mixed hk38 [] (by kernel_rfl) (by kernel_rfl) (by kernel_rfl) oblN ?_)
      refine Runs.cd (b := true) (by kernel_rfl) (fun _ => ?_) (fun h => by cases h)
      refine Runs.sqR mixed hk38 [viaC 0 18 [] (.bool true)] (by kernel_rfl) (by kernel_rfl) (by kernel_rfl) (oblC (shown_callE (h0 := hp (w3 y l n)) (by kernel_rfl) (by kernel_rfl) (works_says _)) oblN) ?_
      exact Runs.now (x := .ret) (by kernel_rfl) ⟨.inr rfl, [.bool true], by kernel_rfl, rfl⟩
    · have z0 : eqF (.ofNat B) (.ofNat 0) = false := by rw [eqF_eq, beq_eq_false_iff_ne.2 (fun e => h0 (Int.ofNat.inj e))]
      refine Runs.sq (by kernel_rfl) (Runs.sqR mixed hk38 [viaV 1 (.bool false), viaV 4 (.bool false)] (by kernel_rfl) (by kernel_rfl) (by kernel_rfl) (oblC (shown_eq (v := .bool (ltF (.ofNat 6) (.ofNat B))) (by kernel_rfl) (by kernel_rfl) (by rw [l6])) (oblC (shown_eq (v := .bool (eqF (.ofNat B) (.ofNat 0))) (by kernel_rfl) (by kernel_rfl) (by rw [z0])) oblN)) ?_)
      refine Runs.cd (b := false) (by kernel_rfl) (fun h => by cases h) (fun _ => Runs.now (x := .normal) (by kernel_rfl) ?_)
      show Runs Tryd.prog 0 _ _ _
      have hr := hR (by omega)
      have q := reach26_says (b := B) (t := L) h0 (by omega) (by omega) (hp (w3 y l n))
      generalize reachN B L = R at *
      refine Runs.sqR mixed hk38 [viaC 2 26 [i64 B, i64 L] (.tuple #[i64 R, i64 0])] (by kernel_rfl) (by kernel_rfl) (by kernel_rfl) (oblC (shown_callE (h0 := hp (w3 y l n)) (by kernel_rfl) (by kernel_rfl) q) oblN) ?_
      have le : leF (.ofNat n) (.ofNat R) = true := by rw [leF_eq, decide_eq_true_eq]; exact Int.ofNat_le.2 hr
      refine Runs.sqR mixed hk38 [viaV 5 (.bool true), viaC 8 18 [] (.bool true)] (by kernel_rfl) (by kernel_rfl) (by kernel_rfl) (oblC (shown_eq (v := .bool (leF (.ofNat n) (.ofNat R))) (by kernel_rfl) (by kernel_rfl) (by rw [le])) (oblC (shown_callE (h0 := hp (w3 y l n)) (by kernel_rfl) (by kernel_rfl) (works_says _)) oblN)) ?_
      exact Runs.now (x := .ret) (by kernel_rfl) ⟨.inr rfl, [.bool true], by kernel_rfl, rfl⟩

theorem litI_litZ (l : List Nat) : litI l = litZ (l.map Int.ofNat) := by
  unfold litI litZ
  rw [List.map_map]
  rfl
theorem law11_end (F : Facts n l) : Runs Tryd.prog 0 (behind 7 c11) (sth (S11 l n (n + 1)) 221 (w3 y l n)) Ends11 := by
  have G := F.good
  have hne := F.ne
  have hn := F.le
  have hlen := G.len
  have P1 : PlanE 19 (n + 1) (wordS (fL l) n) l 0 := fun cap' hc' => by
    have := plan19_local (g := wordS (fL l) n) hc'
    rw [F.back, F.zero] at this
    exact this
  have sub : ∀ (k : Nat) u, (strsV (n + 1) (wordS (fL l) n))[k]? = some u → (strsV (n + 1) (wordS (fL l) n))[0 + k]? = some u := fun k u h => by rw [Nat.zero_add]; exact h
  have room : 0 + (n + 1) ≤ (strsV (n + 1) (wordS (fL l) n)).length := by rw [strsV_len]; omega
  have q1 := planE_list hne P1 (h := hp (w3 y l n)) (i := 2) (o := 0) (lv := true) (par := []) (ty := some 9) (s := bldV 2 (n + 1)) (by kernel_rfl) sub room (.inl ⟨0, rfl⟩)
  let H1 : AH := ((hp (w3 y l n)).new (rowL l)).2
  have pl : ∀ {x : AH}, x.get 1 = planO (some 3) l → x.get 1 = .cells (litI l) true [] (some 3) := fun h => h.trans (planO_ne hne)
  have q2 := worst_at (h := H1) (q := 1) G hne hn (pl (by kernel_rfl))
  have q3 := sum_at (h := H1) (q := 1) G hne hn (pl (by kernel_rfl))
  have q4 := word_out (h := H1) (q := 1) G hne hn (pl (by kernel_rfl))
  have tl' : (l.map Int.ofNat).length = l.length := List.length_map _
  have q5 := same_rows (h := H1) (i1 := 3) (i2 := 1) (T := l.map Int.ofNat) (lv1 := true) (lv2 := true) (par1 := []) (par2 := []) (ty1 := some 3) (ty2 := some 3) (s1 := .slice (some ⟨3, 0, some 1⟩) l.length l.length) (s2 := planV 1 l) (by rw [tl']; omega)
    (Eq.trans (show _ = .cells (litI l) true [] (some 3) by kernel_rfl) (by rw [litI_litZ])) ((pl (by kernel_rfl)).trans (by rw [litI_litZ])) (by rw [tl']; exact .inl ⟨0, rfl⟩) (by rw [tl']; exact .inl ⟨0, planV_is rfl hne⟩)
  have k := law11_last (y := y) F
  unfold S11
  unfold T11 at k
  generalize longTo (gO l) (n + 1) = L at *
  generalize mostTo (gO l) (n + 1) = B at *
  generalize sumsTo l (n + 1) = M at *
  refine Runs.sqR mixed hk38 [viaH 1 19 [bldV 2 (n + 1)] (.tuple #[.slice (some ⟨3, 0, some 1⟩) l.length l.length, i64 0]) H1] (by kernel_rfl) (by kernel_rfl) (by kernel_rfl) (oblC (shown_callHE (h0 := hp (w3 y l n)) (by kernel_rfl) (by kernel_rfl) q1) oblN) ?_
  refine Runs.sqR mixed hk38 [viaC 1 51 [planV 1 l] (.tuple #[i64 L, i64 B, i64 0])] (by kernel_rfl) (by kernel_rfl) (by kernel_rfl) (oblC (shown_callE (h0 := H1) (by kernel_rfl) (by kernel_rfl) q2) oblN) ?_
  refine Runs.sqR mixed hk38 [viaC 1 52 [planV 1 l] (.tuple #[i64 M, i64 0])] (by kernel_rfl) (by kernel_rfl) (by kernel_rfl) (oblC (shown_callE (h0 := H1) (by kernel_rfl) (by kernel_rfl) q3) oblN) ?_
  refine Runs.sqR mixed hk38 [viaV 2 (i64 (n + 1)), viaC 3 48 [planV 1 l, i64 (n + 1)] (.tuple #[.string ⟨#[]⟩, i64 2])] (by kernel_rfl) (by kernel_rfl) (by kernel_rfl)
    (oblC (shown_eq (v := .int .i64 (wrapF .i64 (Int.add (.ofNat n) (.ofNat 1)))) (by kernel_rfl) (by kernel_rfl) (by rw [wrap_succ (by omega)]; rfl)) (oblC (shown_callE (h0 := H1) (by kernel_rfl) (by kernel_rfl) q4) oblN)) ?_
  refine Runs.sq (by kernel_rfl) (Runs.sqR mixed hk38 [viaC 17 21 [.slice (some ⟨3, 0, some 1⟩) l.length l.length, planV 1 l] (.bool true), viaV 23 (.bool false), viaV 28 (.bool false), viaV 33 (.bool false)] (by kernel_rfl) (by kernel_rfl) (by kernel_rfl)
    (oblC (shown_callE (h0 := H1) (by kernel_rfl) (by kernel_rfl) q5)
    (oblC (shown_eq (v := .bool (!(eqF (.ofNat L) (.ofNat L)))) (by kernel_rfl) (by kernel_rfl) (by rw [eq_self]; rfl))
    (oblC (shown_eq (v := .bool (!(eqF (.ofNat B) (.ofNat B)))) (by kernel_rfl) (by kernel_rfl) (by rw [eq_self]; rfl))
    (oblC (shown_eq (v := .bool (!(eqF (.ofNat M) (.ofNat M)))) (by kernel_rfl) (by kernel_rfl) (by rw [eq_self]; rfl)) oblN)))) ?_)
  refine Runs.cd (b := false) (by kernel_rfl) (fun h => by cases h) (fun _ => Runs.now (x := .normal) (by kernel_rfl) ?_)
  show Runs Tryd.prog 0 (behind 12 c11) _ _
  refine Runs.less (af1 := sth [(5, i64 n), (20, i64 L), (21, i64 B)] 221 (w3 y l n)) (less_seenP (fun p hp => ?_) w3_clo (Nat.zero_le _) (by kernel_rfl) (by kernel_rfl) (by kernel_rfl) (by kernel_rfl)) k
  simp only [List.mem_cons, List.mem_nil_iff, or_false] at hp
  rcases hp with rfl | rfl | rfl <;> exact clo_plain rfl
end
end
end Go.Proofs.YtgnkjmgkfibipaaDoor

/- TrialWorded: from its arguments on. -/
namespace Go.Proofs.YtgnkjmgkfibipaaDoor
set_option linter.unusedVariables false
set_option linter.unusedSimpArgs false
open Go Go.R
set_option maxRecDepth 1000000
noncomputable section

theorem law11_loop {y : Nat → Nat} {n : Nat} {l : List Nat} (F : Facts n l) {Q : AExit → AF → Prop} (q : ∀ af, Less 0 (sth (S11 l n (n + 1)) 221 (w3 y l n)) af → Q (.exit 0) af) : ∀ d h, h + d = n + 1 →
    Runs Tryd.prog 0 lp11 (sth (S11 l n h) 221 (w3 y l n)) Q := by
  intro d
  induction d with
  | zero =>
    intro h hh
    have e : h = n + 1 := by omega
    subst e
    refine Runs.lp (by kernel_rfl) (Runs.sqR mixed hk38 [] (by kernel_rfl) (by kernel_rfl) (by kernel_rfl) oblN ?_)
    refine Runs.sq (by kernel_rfl) (Runs.cd (b := ltF (.ofNat (n + 1)) (.ofNat (n + 1))) (by kernel_rfl) (fun ht => by rw [lt_self] at ht; cases ht) (fun _ => Runs.now (x := .exit 0) (by kernel_rfl) ?_))
    exact q _ (less_seenP (S11_clo _ _ _) w3_clo (Nat.zero_le _) (by kernel_rfl) (by kernel_rfl) (by kernel_rfl) (by kernel_rfl))
  | succ d ih =>
    intro h hh
    exact law11_round F.good F.ne F.le F.asc (by omega) (ih (h + 1) (by omega))

noncomputable def byW (y : Nat → Nat) : Value := .agg ((List.range 12).map fun i => Value.int .u8 (.ofNat (y i))).toArray
def chk11 (y : Nat → Nat) : Bool := okRun Tryd.prog Tryd.f11 (execA Tryd.prog (callA Tryd.prog works 1000) 1000 (behind 3 c11) (sth [(3, ptrC 0), (5, i64 0), (6, .slice none 0 0)] 221 [byA12 y])) (.bool true)
theorem zero11 (y : Nat → Nat) : chk11 y = true := by kernel_rfl

theorem worded_runs (x : Int) (hx : 0 ≤ x ∧ x ≤ 255) (y : Nat → Nat) (hy : ∀ i, y i < 256) : Runs Tryd.prog 0 c11 (entry Tryd.f11 [.int .u8 x, byW y] AH.empty) Ends11 := by
  obtain ⟨n, hn, en⟩ := restJ_of hx.1 hx.2 (k := 13) (by decide) (by decide)
  refine Runs.sqR mixed hk38 [] (by kernel_rfl) (by kernel_rfl) (by kernel_rfl) oblN ?_
  refine Runs.sqR mixed hk38 [] (by kernel_rfl) (by kernel_rfl) (by kernel_rfl) oblN ?_
  refine Runs.less (af1 := sth [(3, ptrC 0), (5, .int .i64 (restJ x (.ofNat 13)))] 221 [byA12 y])
    (less_seenP (clo_all (k := 1) (by kernel_rfl)) (fun o ho => by rw [List.mem_singleton.1 ho]; exact cloO_plain (byA12_plain y) _ _) (Nat.zero_le _) (by kernel_rfl) (by kernel_rfl) (by kernel_rfl) (by kernel_rfl)) ?_
  rw [en]
  cases n with
  | zero =>
    refine Runs.sqR mixed hk38 [viaC 2 46 [i64 0, .slice (some ⟨0, 0, none⟩) 12 12] (.slice none 0 0)] (by kernel_rfl) (by kernel_rfl) (by kernel_rfl)
      (oblC (shown_callE (h0 := hp [byA12 y]) (by kernel_rfl) (by kernel_rfl) (grown_at0 (g := 0) (y := y) (lv := true) (par := []) (ty := some 60) (by kernel_rfl))) oblN) ?_
    refine Runs.less (af1 := sth [(3, ptrC 0), (5, i64 0), (6, .slice none 0 0)] 221 [byA12 y])
      (less_seenP (clo_all (k := 1) (by kernel_rfl)) (fun o ho => by rw [List.mem_singleton.1 ho]; exact cloO_plain (byA12_plain y) _ _) (Nat.zero_le _) (by kernel_rfl) (by kernel_rfl) (by kernel_rfl) (by kernel_rfl)) ?_
    exact Runs.last mixed (call_ok mixed noNum works_ok 1000) (Nat.zero_le _) (zero11 y)
  | succ m =>
    have hG := grownN_good y (m + 1)
    have hne : grownN y (m + 1) ≠ [] := fun e => by have := hG.len; rw [e] at this; cases this
    obtain ⟨t, ht, el⟩ := grown_tree y (m + 1)
    have F := facts_tree hG hne (by omega) ht el
    refine Runs.sqR mixed hk38 [viaH 2 46 [i64 (m + 1), .slice (some ⟨0, 0, none⟩) 12 12] (planV 1 (grownN y (m + 1))) (Go.R.hp [byA12 y, planO (some 3) (grownN y (m + 1))])] (by kernel_rfl) (by kernel_rfl) (by kernel_rfl)
      (oblC (shown_callHE (h0 := Go.R.hp [byA12 y]) (by kernel_rfl) (by kernel_rfl) (grown_at (g := 0) (lv := true) (par := []) (ty := some 60) hy (by omega) (by kernel_rfl))) oblN) ?_
    generalize grownN y (m + 1) = l at *
    have g1 : (Go.R.hp [byA12 y, planO (some 3) l]).get 1 = .cells (litI l) true [] (some 3) := Eq.trans (show _ = planO (some 3) l by kernel_rfl) (planO_ne hne)
    have g2 : (Go.R.hp (w3 y l (m + 1))).get 1 = .cells (litI l) true [] (some 3) := Eq.trans (show _ = planO (some 3) l by kernel_rfl) (planO_ne hne)
    refine Runs.sqR mixed hk38 [viaH 1 43 [planV 1 l] (.tuple #[bldV 2 (m + 1 + 1), i64 0]) (Go.R.hp (w3 y l (m + 1)))] (by kernel_rfl) (by kernel_rfl) (by kernel_rfl)
      (oblC (shown_callHE (h0 := Go.R.hp [byA12 y, planO (some 3) l]) (by kernel_rfl) (by kernel_rfl) (words_at hG hne (by omega) g1)) oblN) ?_
    refine Runs.sq (by kernel_rfl) (Runs.sqR mixed hk38 [viaC 1 45 [planV 1 l] (i64 0), viaV 11 (i64 (m + 1 + 1)), viaV 12 (.bool false)] (by kernel_rfl) (by kernel_rfl) (by kernel_rfl)
      (oblC (shown_callE (h0 := Go.R.hp (w3 y l (m + 1))) (by kernel_rfl) (by kernel_rfl) (check_at hG hne (by omega) g2))
      (oblC (shown_eq (v := .int .i64 (wrapF .i64 (Int.add (.ofNat (m + 1)) (.ofNat 1)))) (by kernel_rfl) (by kernel_rfl) (by rw [wrap_succ (by omega)]; rfl))
      (oblC (shown_eq (v := .bool (!(eqF (.ofNat (m + 1 + 1)) (.ofNat (m + 1 + 1))))) (by kernel_rfl) (by kernel_rfl) (by rw [eq_self]; rfl)) oblN))) ?_)
    refine Runs.cd (b := false) (by kernel_rfl) (fun h => by cases h) (fun _ => Runs.now (x := .normal) (by kernel_rfl) ?_)
    show Runs Tryd.prog 0 _ _ _
    refine Runs.sqR mixed hk38 [] (by kernel_rfl) (by kernel_rfl) (by kernel_rfl) oblN ?_
    refine Runs.sq (by kernel_rfl) (Runs.sqR mixed hk38 [viaV 1 (i64 (m + 1 + 1))] (by kernel_rfl) (by kernel_rfl) (by kernel_rfl) (oblC (shown_eq (v := .int .i64 (wrapF .i64 (Int.add (.ofNat (m + 1)) (.ofNat 1)))) (by kernel_rfl) (by kernel_rfl) (by rw [wrap_succ (by omega)]; rfl)) oblN) (Runs.bk (id := 0) (by kernel_rfl) ?_))
    refine Runs.less (af1 := sth (S11 l (m + 1) 0) 221 (w3 y l (m + 1))) (less_seenP (S11_clo _ _ _) w3_clo (Nat.zero_le _) (by kernel_rfl) (by kernel_rfl) (by kernel_rfl) (by kernel_rfl)) ?_
    show Runs Tryd.prog 0 lp11 _ _
    refine law11_loop F (fun af less => ?_) (m + 1 + 1) 0 (by omega)
    show Runs Tryd.prog 0 (behind 7 c11) af Ends11
    exact Runs.less less (law11_end F)
end
end Go.Proofs.YtgnkjmgkfibipaaDoor
