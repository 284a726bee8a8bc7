/- TrialPlans: the reference's blunt, Worst and Sum. -/
import Derived.Test.YtgnkjmgkfibipaaGreatDoorSPlansKZ6
import Derived.Test.YtgnkjmgkfibipaaGreatDoorSPlansKWrdA
import Derived.Test.YtgnkjmgkfibipaaGreatDoorSPlansKZ9
import Derived.Test.YtgnkjmgkfibipaaGreatDoorSPlansKZ3
import Derived.Test.YtgnkjmgkfibipaaGreatDoorSPlansRG5
namespace Go.Proofs.YtgnkjmgkfibipaaGreatDoor
set_option linter.unusedVariables false
set_option linter.unusedSimpArgs false
open Go Go.R
set_option maxRecDepth 1000000
noncomputable section

/-! ### blunt -/
def cntP (l : List UInt8) : Nat := (l.filter fun c => c == 98).length
theorem cntB_cntP : ∀ (l : List UInt8) (k : Nat), cntB l 98 k = k + cntP l
  | [], k => rfl
  | b :: l, k => by
    unfold cntP
    rw [cntB, List.filter_cons]
    by_cases hb : b = 98
    · subst hb
      rw [if_pos (show Nat.beq (98 : UInt8).toNat 98 = true from rfl), if_pos (show ((98 : UInt8) == 98) = true from rfl), cntB_cntP l (k + 1), List.length_cons]
      unfold cntP
      omega
    · have h1 : ¬ Nat.beq b.toNat 98 = true := fun e => hb (UInt8.toNat_inj.1 (Nat.eq_of_beq_eq_true e))
      rw [if_neg h1, if_neg (by simpa using hb), cntB_cntP l k]
      rfl
theorem cntP_take {l : List UInt8} {i : Nat} (hi : i < l.length) : cntP (l.take (i + 1)) = cntP (l.take i) + (if eqF (.ofNat (l.getD i 0).toNat) 98 then 1 else 0) := by
  unfold cntP
  rw [List.take_add_one, List.filter_append, List.length_append, List.getElem?_eq_getElem hi, List.getD_eq_getElem?_getD, List.getElem?_eq_getElem hi]
  simp only [Option.getD_some, Option.toList_some]
  by_cases hb : l[i] = 98
  · rw [hb, if_pos (by rfl)]
    rfl
  · have h1 : ¬ eqF (.ofNat l[i].toNat) 98 = true := by
      rw [eqF_eq, beq_iff_eq]
      intro e
      exact hb (UInt8.toNat_inj.1 (Int.ofNat.inj e))
    rw [if_neg h1, List.filter_cons, if_neg (by simpa using hb)]
    rfl
theorem cntP_le (l : List UInt8) : cntP l ≤ l.length := List.length_filter_le _ _
noncomputable def q49 : Code := bodyOf Tryz.f49
noncomputable def lp49 : Code := within (tl (hd (behind 2 q49)))
noncomputable def S49 (w : ByteArray) (c i : Nat) : List (Nat × Value) := [(0, .string w), (3, i64 c), (4, i64 i)]
theorem blunt_loop (w : ByteArray) (hw : w.size < 100000) : ∀ d i, i + d = w.size → Runs Tryz.prog 0 lp49 (sth (S49 w (cntP ((bl w).take i)) i) 18 []) fun e af => e = .exit 0 ∧ Less 0 (sth [(3, i64 (cntP (bl w)))] 18 []) af
  | 0, i, h => by
    have e : i = w.size := by omega
    subst e
    rw [List.take_of_length_le (by rw [bl_len]; exact Nat.le_refl _)]
    refine Runs.lp (by kernel_rfl) (Runs.sq (by kernel_rfl) (Runs.sqR mixed hk38 [] (by kernel_rfl) (by kernel_rfl) (by kernel_rfl) oblN ?_))
    refine Runs.cd (b := ltF (.ofNat w.size) (.ofNat w.size)) (by kernel_rfl) (fun ht => by rw [lt_self] at ht; cases ht) (fun _ => Runs.now (x := .exit 0) (by kernel_rfl) ⟨rfl, ?_⟩)
    exact less_seenP (clo_all (k := 0) (by kernel_rfl)) (fun o ho => by cases ho) (Nat.zero_le _) (by kernel_rfl) (by kernel_rfl) (by kernel_rfl) (by kernel_rfl)
  | d + 1, i, h => by
    have hlt : i < w.size := by omega
    have hl : i < (bl w).length := by rw [bl_len]; exact hlt
    have e1 : wrapF .i64 (Int.add (.ofNat i) (.ofNat 1)) = .ofNat (i + 1) := wrap_addN (by omega)
    have hc : cntP ((bl w).take i) ≤ i := Nat.le_trans (cntP_le _) (by rw [List.length_take]; omega)
    have e2 : wrapF .i64 (Int.add (.ofNat (cntP ((bl w).take i))) (.ofNat 1)) = .ofNat (cntP ((bl w).take i) + 1) := wrap_addN (by omega)
    have ih := blunt_loop w hw d (i + 1) (by omega)
    rw [cntP_take hl] at ih
    refine Runs.lp (by kernel_rfl) (Runs.sq (by kernel_rfl) (Runs.sqR mixed hk38 [] (by kernel_rfl) (by kernel_rfl) (by kernel_rfl) oblN ?_))
    refine Runs.cd (b := ltF (.ofNat i) (.ofNat w.size)) (by kernel_rfl) (fun _ => Runs.now (x := .normal) (by kernel_rfl) ?_) (fun hf => by rw [lt_of hlt] at hf; cases hf)
    show Runs Tryz.prog 0 _ _ _
    refine Runs.sq (by kernel_rfl) (Runs.bk (id := 1) (by kernel_rfl) ?_)
    refine Runs.sqR mixed hk38 [viaV 2 (.int .u8 (.ofNat (byteN w i)))] (by kernel_rfl) (by kernel_rfl) (by kernel_rfl) (oblC (shown_byte (w := w) (i := i) (by kernel_rfl) (by kernel_rfl) hlt) oblN) ?_
    refine Runs.cd (b := eqF (.ofNat (byteN w i)) 98) (by kernel_rfl) (fun hb => ?_) (fun hb => Runs.now (x := .normal) (by kernel_rfl) ?_)
    · have hb' : eqF (.ofNat ((bl w).getD i 0).toNat) 98 = true := hb
      rw [hb', if_pos rfl] at ih
      generalize cntP ((bl w).take i) = c at *
      refine Runs.rg mixed hk38 [viaV 1 (i64 (c + 1))] (by kernel_rfl) (by kernel_rfl) (by kernel_rfl) (oblC (shown_eq (v := .int .i64 (wrapF .i64 (Int.add (.ofNat c) (.ofNat 1)))) (by kernel_rfl) (by kernel_rfl) (by rw [e2]; rfl)) oblN) ?_
      show Runs Tryz.prog 0 _ _ _
      refine Runs.rg mixed hk38 [viaV 1 (i64 (i + 1))] (by kernel_rfl) (by kernel_rfl) (by kernel_rfl) (oblC (shown_eq (v := .int .i64 (wrapF .i64 (Int.add (.ofNat i) (.ofNat 1)))) (by kernel_rfl) (by kernel_rfl) (by rw [e1]; rfl)) oblN) ?_
      show Runs Tryz.prog 0 lp49 _ _
      exact Runs.less (less_seenP (clo_all (k := 0) (by kernel_rfl)) (fun o ho => by cases ho) (Nat.zero_le _) (by kernel_rfl) (by kernel_rfl) (by kernel_rfl) (by kernel_rfl)) ih
    · have hb' : eqF (.ofNat ((bl w).getD i 0).toNat) 98 = false := hb
      rw [hb', if_neg (by simp), Nat.add_zero] at ih
      generalize cntP ((bl w).take i) = c at *
      show Runs Tryz.prog 0 _ _ _
      refine Runs.rg mixed hk38 [viaV 1 (i64 (i + 1))] (by kernel_rfl) (by kernel_rfl) (by kernel_rfl) (oblC (shown_eq (v := .int .i64 (wrapF .i64 (Int.add (.ofNat i) (.ofNat 1)))) (by kernel_rfl) (by kernel_rfl) (by rw [e1]; rfl)) oblN) ?_
      show Runs Tryz.prog 0 lp49 _ _
      exact Runs.less (less_seenP (clo_all (k := 0) (by kernel_rfl)) (fun o ho => by cases ho) (Nat.zero_le _) (by kernel_rfl) (by kernel_rfl) (by kernel_rfl) (by kernel_rfl)) ih
theorem blunt_local (w : ByteArray) (hw : w.size < 100000) : Local Tryz.prog 0 49 [.string w] AH.empty fun v' _ => v' = i64 (cntP (bl w)) := by
  refine local_of noNum Tryz.func49 (show Tryz.f49.body = some q49 by kernel_rfl) ?_
  refine Runs.sqR mixed hk38 [] (by kernel_rfl) (by kernel_rfl) (by kernel_rfl) oblN ?_
  refine Runs.sqR mixed hk38 [] (by kernel_rfl) (by kernel_rfl) (by kernel_rfl) oblN ?_
  refine Runs.sq (by kernel_rfl) (Runs.sqR mixed hk38 [] (by kernel_rfl) (by kernel_rfl) (by kernel_rfl) oblN (Runs.bk (id := 0) (by kernel_rfl) ?_))
  refine Runs.less (af1 := sth (S49 w (cntP ((bl w).take 0)) 0) 18 []) (less_seenP (clo_all (k := 0) (by kernel_rfl)) (fun o ho => by cases ho) (Nat.zero_le _) (by kernel_rfl) (by kernel_rfl) (by kernel_rfl) (by kernel_rfl)) ?_
  show Runs Tryz.prog 0 lp49 _ _
  refine (blunt_loop w hw w.size 0 (by omega)).mono fun e af hx => ?_
  obtain ⟨rfl, less⟩ := hx
  show Runs Tryz.prog 0 (behind 3 q49) af _
  refine Runs.less less (Runs.sqR mixed hk38 [] (by kernel_rfl) (by kernel_rfl) (by kernel_rfl) oblN ?_)
  exact Runs.now (x := .ret) (by kernel_rfl) ⟨.inr rfl, [i64 (cntP (bl w))], by kernel_rfl, rfl⟩
theorem blunt_says (w : ByteArray) (hw : w.size < 100000) (h : AH) : Says Tryz.prog h 49 [.string w] (i64 (cntP (bl w))) h := fun F w0 μ w' args' H hl =>
  (blunt_local w hw).closed (fun v hv => by rw [List.mem_singleton.1 hv]; rfl) rfl h H hl

/-! ### Worst -/
section
variable {n cap : Nat} {f : Nat → Int}
theorem run_len (x : Int) : (runF f n x).length ≤ n := folF_len f x n 0 0 _
noncomputable def q16 : Code := bodyOf Tryz.f16
noncomputable def lp16 : Code := within (tl (hd (behind 4 q16)))
noncomputable def S16w (n : Nat) (f : Nat → Int) (m : Nat) : List (Nat × Value) := [(5, bldV 1 (n + 1)), (7, i64 (longTo (runG f n) m)), (8, i64 (mostTo (runG f n) m)), (9, i64 m)]
theorem worst_ref_loop (hn : n < 1000) : ∀ d m, m + d = n + 1 →
    Runs Tryz.prog 1 lp16 (sth (S16w n f m) 40 [viewZ n f, rowS (n + 1) (wordS f n)]) fun e af => e = .exit 0 ∧ Less 1 (sth (S16w n f (n + 1)) 40 [viewZ n f, rowS (n + 1) (wordS f n)]) af
  | 0, m, h => by
    have e : m = n + 1 := by omega
    subst e
    refine Runs.lp (by kernel_rfl) (Runs.sq (by kernel_rfl) (Runs.sqR mixed hk38 [] (by kernel_rfl) (by kernel_rfl) (by kernel_rfl) oblN ?_))
    refine Runs.cd (b := ltF (.ofNat (n + 1)) (.ofNat (n + 1))) (by kernel_rfl) (fun ht => by rw [lt_self] at ht; cases ht) (fun _ => Runs.now (x := .exit 0) (by kernel_rfl) ⟨rfl, ?_⟩)
    exact less_seenP (clo_all (k := 2) (by kernel_rfl)) ws_clo (show 1 ≤ 2 by decide) (by kernel_rfl) (by kernel_rfl) (by kernel_rfl) (by kernel_rfl)
  | d + 1, m, h => by
    have hlt : m < n + 1 := by omega
    have e1 : wrapF .i64 (Int.add (.ofNat m) (.ofNat 1)) = .ofNat (m + 1) := wrap_addN (by omega)
    have ih := worst_ref_loop hn d (m + 1) (by omega)
    have m1 : longTo (runG f n) (m + 1) = max (longTo (runG f n) m) (wordS f n m).size := by rw [longTo, wordS_size]
    have m2 : mostTo (runG f n) (m + 1) = max (mostTo (runG f n) m) (cntP (bl (wordS f n m))) := by
      have := wordS_cnt f n m
      rw [cntB_cntP, Nat.zero_add] at this
      rw [mostTo, ← this]
      rfl
    have hsz : (wordS f n m).size < 100000 := by rw [wordS_size]; have := run_len (f := f) (n := n) (.ofNat m); unfold runG; omega
    have hb := blunt_says (wordS f n m) hsz (hp [viewZ n f, rowS (n + 1) (wordS f n)])
    refine Runs.lp (by kernel_rfl) (Runs.sq (by kernel_rfl) (Runs.sqR mixed hk38 [] (by kernel_rfl) (by kernel_rfl) (by kernel_rfl) oblN ?_))
    refine Runs.cd (b := ltF (.ofNat m) (.ofNat (n + 1))) (by kernel_rfl) (fun _ => Runs.now (x := .normal) (by kernel_rfl) ?_) (fun hf => by rw [lt_of hlt] at hf; cases hf)
    show Runs Tryz.prog 1 _ _ _
    refine Runs.sq (by kernel_rfl) (Runs.bk (id := 1) (by kernel_rfl) ?_)
    refine Runs.less (af1 := sth (S16w n f m) 40 [viewZ n f, rowS (n + 1) (wordS f n)]) (less_seenP (clo_all (k := 2) (by kernel_rfl)) ws_clo (show 1 ≤ 2 by decide) (by kernel_rfl) (by kernel_rfl) (by kernel_rfl) (by kernel_rfl)) ?_
    refine Runs.rgD mixed hk38 [viaV 3 (.pointer (some ⟨1, 0 + m * 1, none⟩)), viaV 4 (.string (wordS f n m)), viaV 6 (i64 (longTo (runG f n) (m + 1))), viaV 10 (.pointer (some ⟨1, 0 + m * 1, none⟩)), viaV 11 (.string (wordS f n m)), viaC 12 49 [.string (wordS f n m)] (i64 (cntP (bl (wordS f n m)))), viaV 13 (i64 (mostTo (runG f n) (m + 1)))]
      [(4, 16), (5, 16)] (by kernel_rfl) (by kernel_rfl) (by kernel_rfl) (by kernel_rfl)
      (oblC (shown_idx (n := n + 1) (i := m) (by kernel_rfl) hlt) (oblC (shown_cell (by kernel_rfl) (strS_at (k := n + 1) (g := wordS f n) (lv := true) (par := []) (ty := some 9) (by kernel_rfl) hlt))
      (oblC (shown_eq (v := .int .i64 (maxV (.ofNat (longTo (runG f n) m)) (.ofNat (wordS f n m).size))) (by kernel_rfl) (by kernel_rfl) (by rw [maxV_nat, m1]; rfl))
      (oblC (shown_idx (n := n + 1) (i := m) (by kernel_rfl) hlt) (oblC (shown_cell (by kernel_rfl) (strS_at (k := n + 1) (g := wordS f n) (lv := true) (par := []) (ty := some 9) (by kernel_rfl) hlt))
      (oblC (shown_callE (h0 := hp [viewZ n f, rowS (n + 1) (wordS f n)]) (by kernel_rfl) (by kernel_rfl) hb)
      (oblC (shown_eq (v := .int .i64 (maxV (.ofNat (mostTo (runG f n) m)) (.ofNat (cntP (bl (wordS f n m)))))) (by kernel_rfl) (by kernel_rfl) (by rw [maxV_nat, m2]; rfl)) oblN)))))))
      (dynC (dyn_cell (d := 28) (by kernel_rfl) (strS_at (k := n + 1) (g := wordS f n) (lv := true) (par := []) (ty := some 9) (by kernel_rfl) hlt) (by kernel_rfl) (by kernel_rfl))
      (dynC (dyn_at (d := 29) (v := i64 (wordS f n m).size) (h2 := hp [viewZ n f, rowS (n + 1) (wordS f n)]) (by kernel_rfl) (by kernel_rfl) (by kernel_rfl)) dynN)) ?_
    show Runs Tryz.prog 1 _ _ _
    refine Runs.rg mixed hk38 [viaV 1 (i64 (m + 1))] (by kernel_rfl) (by kernel_rfl) (by kernel_rfl) (oblC (shown_eq (v := .int .i64 (wrapF .i64 (Int.add (.ofNat m) (.ofNat 1)))) (by kernel_rfl) (by kernel_rfl) (by rw [e1]; rfl)) oblN) ?_
    show Runs Tryz.prog 1 lp16 _ _
    exact Runs.less (less_seenP (clo_all (k := 2) (by kernel_rfl)) ws_clo (show 1 ≤ 2 by decide) (by kernel_rfl) (by kernel_rfl) (by kernel_rfl) (by kernel_rfl)) ih
theorem worst_ref (hc : n ≤ cap) (hn : n < 1000) (h1 : 1 ≤ n) (hz : chkN f n = 0) : Local Tryz.prog 1 16 [slV n cap] (hp [viewZ n f]) fun v' _ => v' = .tuple #[i64 (longTo (runG f n) (n + 1)), i64 (mostTo (runG f n) (n + 1)), i64 0] := by
  refine local_of noNum Tryz.func16 (show Tryz.f16.body = some q16 by kernel_rfl) ?_
  refine Runs.sqR mixed hk38 [] (by kernel_rfl) (by kernel_rfl) (by kernel_rfl) oblN ?_
  refine Runs.sqR mixed hk38 [viaH 1 12 [slV n cap] (.tuple #[bldV 1 (n + 1), i64 0]) ((hp [viewZ n f]).new (rowS (n + 1) (wordS f n))).2] (by kernel_rfl) (by kernel_rfl) (by kernel_rfl) (oblC (shown_callHE (h0 := hp [viewZ n f]) (by kernel_rfl) (by kernel_rfl) (Words_ref_says (f := f) hc (by omega) h1 hz)) oblN) ?_
  refine Runs.sq (by kernel_rfl) (Runs.sqR mixed hk38 [] (by kernel_rfl) (by kernel_rfl) (by kernel_rfl) oblN ?_)
  refine Runs.cd (b := false) (by kernel_rfl) (fun h => by cases h) (fun _ => Runs.now (x := .normal) (by kernel_rfl) ?_)
  show Runs Tryz.prog 1 _ _ _
  refine Runs.sqR mixed hk38 [] (by kernel_rfl) (by kernel_rfl) (by kernel_rfl) oblN ?_
  refine Runs.sq (by kernel_rfl) (Runs.sqR mixed hk38 [] (by kernel_rfl) (by kernel_rfl) (by kernel_rfl) oblN (Runs.bk (id := 0) (by kernel_rfl) ?_))
  refine Runs.less (af1 := sth (S16w n f 0) 40 [viewZ n f, rowS (n + 1) (wordS f n)]) (less_seenP (clo_all (k := 2) (by kernel_rfl)) ws_clo (show 1 ≤ 2 by decide) (by kernel_rfl) (by kernel_rfl) (by kernel_rfl) (by kernel_rfl)) ?_
  show Runs Tryz.prog 1 lp16 _ _
  refine (worst_ref_loop hn (n + 1) 0 (by omega)).mono fun e af hx => ?_
  obtain ⟨rfl, less⟩ := hx
  show Runs Tryz.prog 1 (behind 5 q16) af _
  refine Runs.less less (Runs.sqR mixed hk38 [] (by kernel_rfl) (by kernel_rfl) (by kernel_rfl) oblN ?_)
  exact Runs.now (x := .ret) (by kernel_rfl) ⟨.inr rfl, [i64 (longTo (runG f n) (n + 1)), i64 (mostTo (runG f n) (n + 1)), i64 0], by kernel_rfl, rfl⟩
theorem worst_ref_bad (hc : n ≤ cap) (hn : n < 1000) (hx : chkN f n ≠ 0) : Local Tryz.prog 1 16 [slV n cap] (hp [viewZ n f]) fun v' _ => v' = .tuple #[i64 0, i64 0, .int .i64 (chkN f n)] := by
  refine local_of noNum Tryz.func16 (show Tryz.f16.body = some q16 by kernel_rfl) ?_
  refine Runs.sqR mixed hk38 [] (by kernel_rfl) (by kernel_rfl) (by kernel_rfl) oblN ?_
  have hne : (!(eqF (chkN f n) 0)) = true := by
    cases h : eqF (chkN f n) 0 with
    | false => rfl
    | true => rw [eqF_eq] at h; exact absurd (eq_of_beq h) hx
  refine Runs.sqR mixed hk38 [viaC 1 12 [slV n cap] (.tuple #[.slice none 0 0, .int .i64 (chkN f n)])] (by kernel_rfl) (by kernel_rfl) (by kernel_rfl) (oblC (shown_callE (h0 := hp [viewZ n f]) (by kernel_rfl) (by kernel_rfl) (Words_bad_says (f := f) hc (by omega) hx)) oblN) ?_
  refine Runs.sq (by kernel_rfl) (Runs.sqR mixed hk38 [viaV 1 (.bool true)] (by kernel_rfl) (by kernel_rfl) (by kernel_rfl) (oblC (shown_eq (v := .bool (!(eqF (chkN f n) 0))) (by kernel_rfl) (by kernel_rfl) (by rw [hne])) oblN) ?_)
  refine Runs.cd (b := true) (by kernel_rfl) (fun _ => ?_) (fun h => by cases h)
  exact Runs.sqR mixed hk38 [] (by kernel_rfl) (by kernel_rfl) (by kernel_rfl) oblN (Runs.now (x := .ret) (by kernel_rfl) ⟨.inr rfl, [i64 0, i64 0, .int .i64 (chkN f n)], by kernel_rfl, rfl⟩)

/-! ### Sum -/
noncomputable def q18 : Code := bodyOf Tryz.f18
noncomputable def lp18 : Code := within (tl (hd (behind 4 q18)))
noncomputable def S18 (n : Nat) (f : Nat → Int) (m : Nat) : List (Nat × Value) := [(4, bldV 1 (n + 1)), (6, i64 (sizesTo (wordS f n) m)), (7, i64 m)]
theorem sizes_le (hn : n < 1000) : ∀ m, sizesTo (wordS f n) m ≤ m * 1000
  | 0 => Nat.le_refl _
  | m + 1 => by
    have := sizes_le hn m
    have := run_len (f := f) (n := n) (.ofNat m)
    have e : (wordS f n m).size = (runG f n m).length := wordS_size f n m
    unfold runG at e
    rw [sizesTo, e]
    omega
theorem sum_ref_loop (hn : n < 1000) : ∀ d m, m + d = n + 1 →
    Runs Tryz.prog 1 lp18 (sth (S18 n f m) 30 [viewZ n f, rowS (n + 1) (wordS f n)]) fun e af => e = .exit 0 ∧ Less 1 (sth (S18 n f (n + 1)) 30 [viewZ n f, rowS (n + 1) (wordS f n)]) af
  | 0, m, h => by
    have e : m = n + 1 := by omega
    subst e
    refine Runs.lp (by kernel_rfl) (Runs.sq (by kernel_rfl) (Runs.sqR mixed hk38 [] (by kernel_rfl) (by kernel_rfl) (by kernel_rfl) oblN ?_))
    refine Runs.cd (b := ltF (.ofNat (n + 1)) (.ofNat (n + 1))) (by kernel_rfl) (fun ht => by rw [lt_self] at ht; cases ht) (fun _ => Runs.now (x := .exit 0) (by kernel_rfl) ⟨rfl, ?_⟩)
    exact less_seenP (clo_all (k := 2) (by kernel_rfl)) ws_clo (show 1 ≤ 2 by decide) (by kernel_rfl) (by kernel_rfl) (by kernel_rfl) (by kernel_rfl)
  | d + 1, m, h => by
    have hlt : m < n + 1 := by omega
    have e1 : wrapF .i64 (Int.add (.ofNat m) (.ofNat 1)) = .ofNat (m + 1) := wrap_addN (by omega)
    have ih := sum_ref_loop hn d (m + 1) (by omega)
    have hs := sizes_le (f := f) (n := n) hn (m + 1)
    have e2 : wrapF .i64 (Int.add (.ofNat (sizesTo (wordS f n) m)) (.ofNat (wordS f n m).size)) = .ofNat (sizesTo (wordS f n) (m + 1)) := by
      rw [sizesTo] at hs ⊢
      exact wrap_addN (by omega)
    refine Runs.lp (by kernel_rfl) (Runs.sq (by kernel_rfl) (Runs.sqR mixed hk38 [] (by kernel_rfl) (by kernel_rfl) (by kernel_rfl) oblN ?_))
    refine Runs.cd (b := ltF (.ofNat m) (.ofNat (n + 1))) (by kernel_rfl) (fun _ => Runs.now (x := .normal) (by kernel_rfl) ?_) (fun hf => by rw [lt_of hlt] at hf; cases hf)
    show Runs Tryz.prog 1 _ _ _
    refine Runs.sq (by kernel_rfl) (Runs.bk (id := 1) (by kernel_rfl) ?_)
    refine Runs.rg mixed hk38 [viaV 3 (.pointer (some ⟨1, 0 + m * 1, none⟩)), viaV 4 (.string (wordS f n m)), viaV 6 (i64 (sizesTo (wordS f n) (m + 1)))] (by kernel_rfl) (by kernel_rfl) (by kernel_rfl)
      (oblC (shown_idx (n := n + 1) (i := m) (by kernel_rfl) hlt) (oblC (shown_cell (by kernel_rfl) (strS_at (k := n + 1) (g := wordS f n) (lv := true) (par := []) (ty := some 9) (by kernel_rfl) hlt))
      (oblC (shown_eq (v := .int .i64 (wrapF .i64 (Int.add (.ofNat (sizesTo (wordS f n) m)) (.ofNat (wordS f n m).size)))) (by kernel_rfl) (by kernel_rfl) (by rw [e2]; rfl)) oblN))) ?_
    show Runs Tryz.prog 1 _ _ _
    refine Runs.rg mixed hk38 [viaV 1 (i64 (m + 1))] (by kernel_rfl) (by kernel_rfl) (by kernel_rfl) (oblC (shown_eq (v := .int .i64 (wrapF .i64 (Int.add (.ofNat m) (.ofNat 1)))) (by kernel_rfl) (by kernel_rfl) (by rw [e1]; rfl)) oblN) ?_
    show Runs Tryz.prog 1 lp18 _ _
    exact Runs.less (less_seenP (clo_all (k := 2) (by kernel_rfl)) ws_clo (show 1 ≤ 2 by decide) (by kernel_rfl) (by kernel_rfl) (by kernel_rfl) (by kernel_rfl)) ih
theorem sum_ref (hc : n ≤ cap) (hn : n < 1000) (h1 : 1 ≤ n) (hz : chkN f n = 0) : Local Tryz.prog 1 18 [slV n cap] (hp [viewZ n f]) fun v' _ => v' = .tuple #[i64 (sizesTo (wordS f n) (n + 1)), i64 0] := by
  refine local_of noNum Tryz.func18 (show Tryz.f18.body = some q18 by kernel_rfl) ?_
  refine Runs.sqR mixed hk38 [] (by kernel_rfl) (by kernel_rfl) (by kernel_rfl) oblN ?_
  refine Runs.sqR mixed hk38 [viaH 1 12 [slV n cap] (.tuple #[bldV 1 (n + 1), i64 0]) ((hp [viewZ n f]).new (rowS (n + 1) (wordS f n))).2] (by kernel_rfl) (by kernel_rfl) (by kernel_rfl) (oblC (shown_callHE (h0 := hp [viewZ n f]) (by kernel_rfl) (by kernel_rfl) (Words_ref_says (f := f) hc (by omega) h1 hz)) oblN) ?_
  refine Runs.sq (by kernel_rfl) (Runs.sqR mixed hk38 [] (by kernel_rfl) (by kernel_rfl) (by kernel_rfl) oblN ?_)
  refine Runs.cd (b := false) (by kernel_rfl) (fun h => by cases h) (fun _ => Runs.now (x := .normal) (by kernel_rfl) ?_)
  show Runs Tryz.prog 1 _ _ _
  refine Runs.sqR mixed hk38 [] (by kernel_rfl) (by kernel_rfl) (by kernel_rfl) oblN ?_
  refine Runs.sq (by kernel_rfl) (Runs.sqR mixed hk38 [] (by kernel_rfl) (by kernel_rfl) (by kernel_rfl) oblN (Runs.bk (id := 0) (by kernel_rfl) ?_))
  refine Runs.less (af1 := sth (S18 n f 0) 30 [viewZ n f, rowS (n + 1) (wordS f n)]) (less_seenP (clo_all (k := 2) (by kernel_rfl)) ws_clo (show 1 ≤ 2 by decide) (by kernel_rfl) (by kernel_rfl) (by kernel_rfl) (by kernel_rfl)) ?_
  show Runs Tryz.prog 1 lp18 _ _
  refine (sum_ref_loop hn (n + 1) 0 (by omega)).mono fun e af hx => ?_
  obtain ⟨rfl, less⟩ := hx
  show Runs Tryz.prog 1 (behind 5 q18) af _
  refine Runs.less less (Runs.sqR mixed hk38 [] (by kernel_rfl) (by kernel_rfl) (by kernel_rfl) oblN ?_)
  exact Runs.now (x := .ret) (by kernel_rfl) ⟨.inr rfl, [i64 (sizesTo (wordS f n) (n + 1)), i64 0], by kernel_rfl, rfl⟩
theorem sum_ref_bad (hc : n ≤ cap) (hn : n < 1000) (hx : chkN f n ≠ 0) : Local Tryz.prog 1 18 [slV n cap] (hp [viewZ n f]) fun v' _ => v' = .tuple #[i64 0, .int .i64 (chkN f n)] := by
  refine local_of noNum Tryz.func18 (show Tryz.f18.body = some q18 by kernel_rfl) ?_
  refine Runs.sqR mixed hk38 [] (by kernel_rfl) (by kernel_rfl) (by kernel_rfl) oblN ?_
  have hne : (!(eqF (chkN f n) 0)) = true := by
    cases h : eqF (chkN f n) 0 with
    | false => rfl
    | true => rw [eqF_eq] at h; exact absurd (eq_of_beq h) hx
  refine Runs.sqR mixed hk38 [viaC 1 12 [slV n cap] (.tuple #[.slice none 0 0, .int .i64 (chkN f n)])] (by kernel_rfl) (by kernel_rfl) (by kernel_rfl) (oblC (shown_callE (h0 := hp [viewZ n f]) (by kernel_rfl) (by kernel_rfl) (Words_bad_says (f := f) hc (by omega) hx)) oblN) ?_
  refine Runs.sq (by kernel_rfl) (Runs.sqR mixed hk38 [viaV 1 (.bool true)] (by kernel_rfl) (by kernel_rfl) (by kernel_rfl) (oblC (shown_eq (v := .bool (!(eqF (chkN f n) 0))) (by kernel_rfl) (by kernel_rfl) (by rw [hne])) oblN) ?_)
  refine Runs.cd (b := true) (by kernel_rfl) (fun _ => ?_) (fun h => by cases h)
  exact Runs.sqR mixed hk38 [] (by kernel_rfl) (by kernel_rfl) (by kernel_rfl) oblN (Runs.now (x := .ret) (by kernel_rfl) ⟨.inr rfl, [i64 0, .int .i64 (chkN f n)], by kernel_rfl, rfl⟩)
end
end
end Go.Proofs.YtgnkjmgkfibipaaGreatDoor

/- TrialPlans: Proves in both texts, lists that are no plans, equal lists of words. -/
namespace Go.Proofs.YtgnkjmgkfibipaaGreatDoor
set_option linter.unusedVariables false
set_option linter.unusedSimpArgs false
open Go Go.R
set_option maxRecDepth 1000000
noncomputable section

theorem reach56_col : ∀ N, N < 13 → col2 Tryz.prog works 56 7 vReach N = true := all_lt (by kernel_rfl)
theorem reach56_says {b t : Nat} (hb : b < 7) (ht : t < 13) (h : AH) : Says Tryz.prog h 56 [i64 b, i64 t] (i64 (reachN b t)) h := by
  refine hook_says (hk := numH 56 (grid2 7 13 vReach)) (stage2_ok mixed noNum works_ok reach56_col 13 (Nat.le_refl _)) ?_
  have h1 := blt_true hb
  have h2 := blt_true ht
  simp only [numH, grid2, i64, h1, h2, if_true, vReach]
  rfl
theorem works6_says (h : AH) : Says Tryz.prog h 6 [] (.bool true) h := hook_says (hk := works) works_ok (by rfl)
theorem fw_tab : ∀ n, n < 13 → ((List.range 6).all fun b => (List.range 12).all fun w => decide (fewestN n (b + 1) < w + 1) == Nat.ble n (reachN (b + 1) w)) = true := all_lt (by kernel_rfl)
theorem fw_iff {n b W : Nat} (hn : n < 13) (hb0 : 1 ≤ b) (hb : b ≤ 6) (hW0 : 0 < W) (hW : W ≤ 12) : fewestN n b < W ↔ n ≤ reachN b (W - 1) := by
  have h := List.all_eq_true.1 (List.all_eq_true.1 (fw_tab n hn) (b - 1) (List.mem_range.2 (by omega))) (W - 1) (List.mem_range.2 (by omega))
  rw [beq_iff_eq, show b - 1 + 1 = b by omega, show W - 1 + 1 = W by omega, Bool.eq_iff_iff, decide_eq_true_eq, Nat.ble_eq] at h
  exact h
theorem longTo_max (g : Nat → List Int) {b : Nat} (H : ∀ h, (g h).length ≤ b) : ∀ m, longTo g m ≤ b
  | 0 => Nat.zero_le _
  | m + 1 => by
    have := longTo_max g H m
    have := H m
    rw [longTo]
    omega

/-- What Proves says of a plan. -/
def prZ (n : Nat) (x : Int) (W B : Nat) : Nat := if outZ x 1 6 then 1 else pvN n x.toNat W B
theorem in_nat {x : Int} (h : outZ x 1 6 = false) : ∃ b : Nat, x = .ofNat b ∧ 1 ≤ b ∧ b ≤ 6 := by
  unfold outZ at h
  rw [Bool.or_eq_false_iff] at h
  have a1 := ltF_not.1 h.1
  have a2 := ltF_not.1 h.2
  exact ⟨x.toNat, (Int.toNat_of_nonneg (by omega)).symm, by omega, by omega⟩

section
variable {n cap : Nat} {f : Nat → Int}
theorem neq_true {e : Int} (h : e ≠ 0) : (!(eqF e 0)) = true := by
  cases q : eqF e 0 with
  | false => rfl
  | true => rw [eqF_eq] at q; exact absurd (eq_of_beq q) h

/-! ### The program, where the list is no plan -/
noncomputable def q15 : Code := bodyOf Tryz.f15
theorem worst_bad (hc : n ≤ cap) (hn : n < 100000) (hx : chkN f n ≠ 0) : Local Tryz.prog 1 15 [slV n cap] (hp [viewZ n f]) fun v' _ => v' = .tuple #[i64 0, i64 0, .int .i64 (chkN f n)] := by
  refine local_of noNum Tryz.func15 (show Tryz.f15.body = some q15 by kernel_rfl) ?_
  refine Runs.sqR mixed hk38 [] (by kernel_rfl) (by kernel_rfl) (by kernel_rfl) oblN ?_
  refine Runs.sq (by kernel_rfl) (Runs.sqR mixed hk38 [viaC 1 19 [slV n cap] (.int .i64 (chkN f n))] (by kernel_rfl) (by kernel_rfl) (by kernel_rfl) (oblC (shown_callE (h0 := hp [viewZ n f]) (by kernel_rfl) (by kernel_rfl) (check_says n cap f hc (by omega))) oblN) ?_)
  refine Runs.sqR mixed hk38 [viaV 1 (.bool true)] (by kernel_rfl) (by kernel_rfl) (by kernel_rfl) (oblC (shown_eq (v := .bool (!(eqF (chkN f n) 0))) (by kernel_rfl) (by kernel_rfl) (by rw [neq_true hx])) oblN) ?_
  refine Runs.cd (b := true) (by kernel_rfl) (fun _ => ?_) (fun h => by cases h)
  exact Runs.sqR mixed hk38 [] (by kernel_rfl) (by kernel_rfl) (by kernel_rfl) oblN (Runs.now (x := .ret) (by kernel_rfl) ⟨.inr rfl, [i64 0, i64 0, .int .i64 (chkN f n)], by kernel_rfl, rfl⟩)
noncomputable def q17 : Code := bodyOf Tryz.f17
theorem sum_bad (hc : n ≤ cap) (hn : n < 100000) (hx : chkN f n ≠ 0) : Local Tryz.prog 1 17 [slV n cap] (hp [viewZ n f]) fun v' _ => v' = .tuple #[i64 0, .int .i64 (chkN f n)] := by
  refine local_of noNum Tryz.func17 (show Tryz.f17.body = some q17 by kernel_rfl) ?_
  refine Runs.sqR mixed hk38 [] (by kernel_rfl) (by kernel_rfl) (by kernel_rfl) oblN ?_
  refine Runs.sq (by kernel_rfl) (Runs.sqR mixed hk38 [viaC 1 19 [slV n cap] (.int .i64 (chkN f n))] (by kernel_rfl) (by kernel_rfl) (by kernel_rfl) (oblC (shown_callE (h0 := hp [viewZ n f]) (by kernel_rfl) (by kernel_rfl) (check_says n cap f hc (by omega))) oblN) ?_)
  refine Runs.sqR mixed hk38 [viaV 1 (.bool true)] (by kernel_rfl) (by kernel_rfl) (by kernel_rfl) (oblC (shown_eq (v := .bool (!(eqF (chkN f n) 0))) (by kernel_rfl) (by kernel_rfl) (by rw [neq_true hx])) oblN) ?_
  refine Runs.cd (b := true) (by kernel_rfl) (fun _ => ?_) (fun h => by cases h)
  exact Runs.sqR mixed hk38 [] (by kernel_rfl) (by kernel_rfl) (by kernel_rfl) oblN (Runs.now (x := .ret) (by kernel_rfl) ⟨.inr rfl, [i64 0, .int .i64 (chkN f n)], by kernel_rfl, rfl⟩)
theorem worst_bad_says (hc : n ≤ cap) (hn : n < 100000) (hx : chkN f n ≠ 0) : Says Tryz.prog (hp [viewZ n f]) 15 [slV n cap] (.tuple #[i64 0, i64 0, .int .i64 (chkN f n)]) (hp [viewZ n f]) :=
  at_view_flat (post := []) hc (fun cap' hc' => worst_bad hc' hn hx) (fun _ _ r => r) rfl noP
noncomputable def q21 : Code := bodyOf Tryz.f21
theorem proves_bad (hc : n ≤ cap) (hn : n < 100000) (hx : chkN f n ≠ 0) (z : Int) : Local Tryz.prog 1 21 [slV n cap, .int .i64 z] (hp [viewZ n f]) fun v' _ => v' = .int .i64 (chkN f n) := by
  refine local_of noNum Tryz.func21 (show Tryz.f21.body = some q21 by kernel_rfl) ?_
  refine Runs.sqR mixed hk38 [] (by kernel_rfl) (by kernel_rfl) (by kernel_rfl) oblN ?_
  refine Runs.sqR mixed hk38 [viaC 1 15 [slV n cap] (.tuple #[i64 0, i64 0, .int .i64 (chkN f n)])] (by kernel_rfl) (by kernel_rfl) (by kernel_rfl) (oblC (shown_callE (h0 := hp [viewZ n f]) (by kernel_rfl) (by kernel_rfl) (worst_bad_says hc hn hx)) oblN) ?_
  refine Runs.sq (by kernel_rfl) (Runs.bk (id := 0) (by kernel_rfl) ?_)
  refine Runs.sqR mixed hk38 [viaV 1 (.bool true)] (by kernel_rfl) (by kernel_rfl) (by kernel_rfl) (oblC (shown_eq (v := .bool (!(eqF (chkN f n) 0))) (by kernel_rfl) (by kernel_rfl) (by rw [neq_true hx])) oblN) ?_
  refine Runs.cd (b := true) (by kernel_rfl) (fun _ => ?_) (fun h => by cases h)
  exact Runs.sqR mixed hk38 [] (by kernel_rfl) (by kernel_rfl) (by kernel_rfl) oblN (Runs.now (x := .ret) (by kernel_rfl) ⟨.inr rfl, [.int .i64 (chkN f n)], by kernel_rfl, rfl⟩)
theorem proves_all (hc : n ≤ cap) (hn : n < 13) (hx : chkN f n = 0) (z : Int) : Says Tryz.prog (hp [viewZ n f]) 21 [slV n cap, .int .i64 z] (i64 (prZ n z (longTo (runG f n) (n + 1)) (mostTo (runG f n) (n + 1)))) (hp [viewZ n f]) := by
  cases ho : outZ z 1 6 with
  | false =>
    obtain ⟨b, rfl, h1, h6⟩ := in_nat ho
    have := proves_says n cap b f hc hn hx
    have e : prZ n (.ofNat b) (longTo (runG f n) (n + 1)) (mostTo (runG f n) (n + 1)) = pvN n b (longTo (runG f n) (n + 1)) (mostTo (runG f n) (n + 1)) := by unfold prZ; rw [ho]; rfl
    rw [e]
    exact this
  | true =>
    have e : prZ n z (longTo (runG f n) (n + 1)) (mostTo (runG f n) (n + 1)) = 1 := by unfold prZ; rw [ho]; rfl
    rw [e]
    refine at_view_flat (post := [.int .i64 z]) (R := fun v' _ => v' = i64 1) hc (fun cap' hc' => ?_) (fun _ _ r => r) rfl (onlyP rfl)
    have hw := worst_says n cap' f hc' (by omega) hx
    have hq := outZ_says z 1 6 (hp [viewZ n f])
    rw [ho] at hq
    refine local_of noNum Tryz.func21 (show Tryz.f21.body = some q21 by kernel_rfl) ?_
    refine Runs.sqR mixed hk38 [] (by kernel_rfl) (by kernel_rfl) (by kernel_rfl) oblN ?_
    generalize longTo (runG f n) (n + 1) = W at *
    generalize mostTo (runG f n) (n + 1) = B at *
    refine Runs.sqR mixed hk38 [viaC 1 15 [slV n cap'] (.tuple #[i64 W, i64 B, i64 0])] (by kernel_rfl) (by kernel_rfl) (by kernel_rfl) (oblC (shown_callE (h0 := hp [viewZ n f]) (by kernel_rfl) (by kernel_rfl) hw) oblN) ?_
    refine Runs.sq (by kernel_rfl) (Runs.bk (id := 0) (by kernel_rfl) ?_)
    refine Runs.sqR mixed hk38 [] (by kernel_rfl) (by kernel_rfl) (by kernel_rfl) oblN ?_
    refine Runs.cd (b := false) (by kernel_rfl) (fun h => by cases h) (fun _ => ?_)
    refine Runs.sqR mixed hk38 [viaC 1 51 [.int .i64 z, i64 1, i64 6] (.bool true)] (by kernel_rfl) (by kernel_rfl) (by kernel_rfl) (oblC (shown_callE (h0 := hp [viewZ n f]) (by kernel_rfl) (by kernel_rfl) hq) oblN) ?_
    refine Runs.cd (b := true) (by kernel_rfl) (fun _ => ?_) (fun h => by cases h)
    exact Runs.sqR mixed hk38 [] (by kernel_rfl) (by kernel_rfl) (by kernel_rfl) oblN (Runs.now (x := .ret) (by kernel_rfl) ⟨.inr rfl, [i64 1], by kernel_rfl, rfl⟩)

/-! ### The reference's Proves -/
noncomputable def q22 : Code := bodyOf Tryz.f22
theorem proves_ref_bad (hc : n ≤ cap) (hn : n < 1000) (hx : chkN f n ≠ 0) (z : Int) : Local Tryz.prog 1 22 [slV n cap, .int .i64 z] (hp [viewZ n f]) fun v' _ => v' = .int .i64 (chkN f n) := by
  have hw := at_view_flat (f := f) (post := []) hc (fun cap' hc' => worst_ref_bad (f := f) hc' hn hx) (fun _ _ r => r) rfl noP
  refine local_of noNum Tryz.func22 (show Tryz.f22.body = some q22 by kernel_rfl) ?_
  refine Runs.sqR mixed hk38 [] (by kernel_rfl) (by kernel_rfl) (by kernel_rfl) oblN ?_
  refine Runs.sqR mixed hk38 [viaC 1 16 [slV n cap] (.tuple #[i64 0, i64 0, .int .i64 (chkN f n)])] (by kernel_rfl) (by kernel_rfl) (by kernel_rfl) (oblC (shown_callE (h0 := hp [viewZ n f]) (by kernel_rfl) (by kernel_rfl) hw) oblN) ?_
  refine Runs.sq (by kernel_rfl) (Runs.sqR mixed hk38 [viaV 1 (.bool true)] (by kernel_rfl) (by kernel_rfl) (by kernel_rfl) (oblC (shown_eq (v := .bool (!(eqF (chkN f n) 0))) (by kernel_rfl) (by kernel_rfl) (by rw [neq_true hx])) oblN) ?_)
  refine Runs.cd (b := true) (by kernel_rfl) (fun _ => ?_) (fun h => by cases h)
  exact Runs.sqR mixed hk38 [] (by kernel_rfl) (by kernel_rfl) (by kernel_rfl) oblN (Runs.now (x := .ret) (by kernel_rfl) ⟨.inr rfl, [.int .i64 (chkN f n)], by kernel_rfl, rfl⟩)
theorem proves_ref (hc : n ≤ cap) (hn : n < 13) (h1 : 1 ≤ n) (hx : chkN f n = 0) (z : Int) : Local Tryz.prog 1 22 [slV n cap, .int .i64 z] (hp [viewZ n f]) fun v' _ => v' = i64 (prZ n z (longTo (runG f n) (n + 1)) (mostTo (runG f n) (n + 1))) := by
  have hw := at_view_flat (f := f) (post := []) hc (fun cap' hc' => worst_ref (f := f) hc' (by omega) h1 hx) (fun _ _ r => r) rfl noP
  have hW : longTo (runG f n) (n + 1) ≤ 12 := longTo_max _ (fun h => Nat.le_trans (run_len (f := f) (n := n) (.ofNat h)) (by omega)) _
  have hq := in_says z 1 6 (hp [viewZ n f])
  refine local_of noNum Tryz.func22 (show Tryz.f22.body = some q22 by kernel_rfl) ?_
  refine Runs.sqR mixed hk38 [] (by kernel_rfl) (by kernel_rfl) (by kernel_rfl) oblN ?_
  generalize longTo (runG f n) (n + 1) = W at *
  generalize mostTo (runG f n) (n + 1) = B at *
  refine Runs.sqR mixed hk38 [viaC 1 16 [slV n cap] (.tuple #[i64 W, i64 B, i64 0])] (by kernel_rfl) (by kernel_rfl) (by kernel_rfl) (oblC (shown_callE (h0 := hp [viewZ n f]) (by kernel_rfl) (by kernel_rfl) hw) oblN) ?_
  refine Runs.sq (by kernel_rfl) (Runs.sqR mixed hk38 [] (by kernel_rfl) (by kernel_rfl) (by kernel_rfl) oblN ?_)
  refine Runs.cd (b := false) (by kernel_rfl) (fun h => by cases h) (fun _ => Runs.now (x := .normal) (by kernel_rfl) ?_)
  show Runs Tryz.prog 1 _ _ _
  cases ho : outZ z 1 6 with
  | true =>
    have e : prZ n z W B = 1 := by unfold prZ; rw [ho]; rfl
    rw [ho] at hq
    rw [e]
    refine Runs.sq (by kernel_rfl) (Runs.sqR mixed hk38 [viaC 1 53 [.int .i64 z, i64 1, i64 6] (.bool false)] (by kernel_rfl) (by kernel_rfl) (by kernel_rfl) (oblC (shown_callE (h0 := hp [viewZ n f]) (by kernel_rfl) (by kernel_rfl) hq) oblN) ?_)
    refine Runs.cd (b := true) (by kernel_rfl) (fun _ => ?_) (fun h => by cases h)
    exact Runs.sqR mixed hk38 [] (by kernel_rfl) (by kernel_rfl) (by kernel_rfl) oblN (Runs.now (x := .ret) (by kernel_rfl) ⟨.inr rfl, [i64 1], by kernel_rfl, rfl⟩)
  | false =>
    rw [ho] at hq
    obtain ⟨b, rfl, hb1, hb6⟩ := in_nat ho
    have e : prZ n (.ofNat b) W B = if B > b then 15 else if 0 < W ∧ fewestN n b < W then 14 else 0 := by unfold prZ; rw [ho, if_neg (by simp)]; show pvN n b W B = _; unfold pvN; rw [ho, if_neg (by simp)]
    rw [e]
    refine Runs.sq (by kernel_rfl) (Runs.sqR mixed hk38 [viaC 1 53 [i64 b, i64 1, i64 6] (.bool true)] (by kernel_rfl) (by kernel_rfl) (by kernel_rfl) (oblC (shown_callE (h0 := hp [viewZ n f]) (by kernel_rfl) (by kernel_rfl) hq) oblN) ?_)
    refine Runs.cd (b := false) (by kernel_rfl) (fun h => by cases h) (fun _ => Runs.now (x := .normal) (by kernel_rfl) ?_)
    show Runs Tryz.prog 1 _ _ _
    refine Runs.sq (by kernel_rfl) (Runs.sqR mixed hk38 [] (by kernel_rfl) (by kernel_rfl) (by kernel_rfl) oblN ?_)
    refine Runs.cd (b := ltF (.ofNat b) (.ofNat B)) (by kernel_rfl) (fun hB => ?_) (fun hB => Runs.now (x := .normal) (by kernel_rfl) ?_)
    · rw [if_pos (ltN_yes hB)]
      exact Runs.sqR mixed hk38 [] (by kernel_rfl) (by kernel_rfl) (by kernel_rfl) oblN (Runs.now (x := .ret) (by kernel_rfl) ⟨.inr rfl, [i64 15], by kernel_rfl, rfl⟩)
    · rw [if_neg (ltN_no hB)]
      show Runs Tryz.prog 1 _ _ _
      cases W with
      | zero =>
        rw [if_neg (by omega)]
        refine Runs.sq (by kernel_rfl) (Runs.sqR mixed hk38 [] (by kernel_rfl) (by kernel_rfl) (by kernel_rfl) oblN ?_)
        refine Runs.cd (b := false) (by kernel_rfl) (fun h => by cases h) (fun _ => Runs.now (x := .normal) (by kernel_rfl) ?_)
        show Runs Tryz.prog 1 _ _ _
        exact Runs.sqR mixed hk38 [] (by kernel_rfl) (by kernel_rfl) (by kernel_rfl) oblN (Runs.now (x := .ret) (by kernel_rfl) ⟨.inr rfl, [i64 0], by kernel_rfl, rfl⟩)
      | succ w =>
        have es : wrapF .i64 (Int.sub (.ofNat (w + 1)) 1) = .ofNat w := by
          have e : Int.sub (.ofNat (w + 1)) 1 = .ofNat w := by show ((w + 1 : Nat) : Int) - 1 = (w : Int); omega
          rw [e, wrapF_eq]
          unfold IntKind.wrap
          have : ((w : Int) % 2 ^ 64) = w := by omega
          simp [IntKind.signed, IntKind.bits]
          omega
        have hr := reach56_says (b := b) (t := w) (by omega) (by omega) (hp [viewZ n f])
        have hi := fw_iff (n := n) (b := b) (W := w + 1) hn hb1 hb6 (Nat.succ_pos w) hW
        rw [Nat.add_sub_cancel] at hi
        generalize reachN b w = R at *
        by_cases hf : fewestN n b < w + 1
        · rw [if_pos ⟨Nat.succ_pos w, hf⟩]
          have le : leF (.ofNat n) (.ofNat R) = true := by rw [leF_eq, decide_eq_true_eq]; exact Int.ofNat_le.2 (hi.1 hf)
          refine Runs.sq (by kernel_rfl) (Runs.sqR mixed hk38 [viaV 5 (i64 w), viaC 6 56 [i64 b, i64 w] (i64 R), viaV 9 (.bool true)] (by kernel_rfl) (by kernel_rfl) (by kernel_rfl)
            (oblC (shown_eq (v := .int .i64 (wrapF .i64 (Int.sub (.ofNat (w + 1)) 1))) (by kernel_rfl) (by kernel_rfl) (by rw [es]; rfl)) (oblC (shown_callE (h0 := hp [viewZ n f]) (by kernel_rfl) (by kernel_rfl) hr) (oblC (shown_eq (v := .bool (leF (.ofNat n) (.ofNat R))) (by kernel_rfl) (by kernel_rfl) (by rw [le])) oblN))) ?_)
          refine Runs.cd (b := true) (by kernel_rfl) (fun _ => ?_) (fun h => by cases h)
          exact Runs.sqR mixed hk38 [] (by kernel_rfl) (by kernel_rfl) (by kernel_rfl) oblN (Runs.now (x := .ret) (by kernel_rfl) ⟨.inr rfl, [i64 14], by kernel_rfl, rfl⟩)
        · rw [if_neg (fun q => hf q.2)]
          have le : leF (.ofNat n) (.ofNat R) = false := by rw [leF_eq, decide_eq_false_iff_not]; exact fun q => hf (hi.2 (Int.ofNat_le.1 q))
          refine Runs.sq (by kernel_rfl) (Runs.sqR mixed hk38 [viaV 5 (i64 w), viaC 6 56 [i64 b, i64 w] (i64 R), viaV 9 (.bool false)] (by kernel_rfl) (by kernel_rfl) (by kernel_rfl)
            (oblC (shown_eq (v := .int .i64 (wrapF .i64 (Int.sub (.ofNat (w + 1)) 1))) (by kernel_rfl) (by kernel_rfl) (by rw [es]; rfl)) (oblC (shown_callE (h0 := hp [viewZ n f]) (by kernel_rfl) (by kernel_rfl) hr) (oblC (shown_eq (v := .bool (leF (.ofNat n) (.ofNat R))) (by kernel_rfl) (by kernel_rfl) (by rw [le])) oblN))) ?_)
          refine Runs.cd (b := false) (by kernel_rfl) (fun h => by cases h) (fun _ => Runs.now (x := .normal) (by kernel_rfl) ?_)
          show Runs Tryz.prog 1 _ _ _
          exact Runs.sqR mixed hk38 [] (by kernel_rfl) (by kernel_rfl) (by kernel_rfl) oblN (Runs.now (x := .ret) (by kernel_rfl) ⟨.inr rfl, [i64 0], by kernel_rfl, rfl⟩)
end

/-! ### equal, at any two rows of words -/
noncomputable def q14 : Code := bodyOf Tryz.f14
noncomputable def lp14 : Code := within (tl (hd (behind 2 q14)))
noncomputable def S14 (m c1 c2 i : Nat) : List (Nat × Value) := [(0, slW 0 m c1), (1, slW 1 m c2), (5, i64 i)]
theorem s14_clo {m c1 c2 i : Nat} : ∀ q ∈ S14 m c1 c2 i, Clo 2 q.2 := clo_all (by kernel_rfl)
noncomputable def os14 (m : Nat) (g : Nat → ByteArray) : List AObj := [viewC (strsV m g), viewC (strsV m g)]
theorem os14_clo {m : Nat} {g : Nat → ByteArray} : ∀ o ∈ os14 m g, CloO 2 o := fun o ho => by
  simp only [os14, List.mem_cons, List.mem_nil_iff, or_false] at ho
  rcases ho with rfl | rfl <;> exact cloO_plain (strsV_plain m g) _ _
theorem strV_at {h : AH} {g i k : Nat} {f : Nat → ByteArray} {lv : Bool} {par : List Nat} {ty : Option TypeId} (hg : h.get g = .cells (strsV k f) lv par ty) (hi : i < k) : rowAt? h g (0 + i * 1) 1 = some [.string (f i)] := by
  rw [row_at hg (by rw [strsV_len]; omega), Nat.zero_add, Nat.mul_one]
  have : (strsV k f)[i]? = some (.string (f i)) := by simp [strsV, hi]
  rw [List.take_one, List.head?_drop, this]
  rfl
theorem equal_loop (m c1 c2 : Nat) (g : Nat → ByteArray) (hm : m < 1000000) : ∀ d i, i + d = m → Runs Tryz.prog 2 lp14 (sth (S14 m c1 c2 i) 26 (os14 m g)) fun x af => x = .exit 0 ∧ Less 2 (sth [] 26 (os14 m g)) af
  | 0, i, h => by
    have e : i = m := by omega
    subst e
    refine Runs.lp (by kernel_rfl) (Runs.sq (by kernel_rfl) (Runs.sqR mixed hk38 [] (by kernel_rfl) (by kernel_rfl) (by kernel_rfl) oblN ?_))
    refine Runs.cd (b := ltF (.ofNat i) (.ofNat i)) (by kernel_rfl) (fun ht => by rw [lt_self] at ht; cases ht) (fun _ => Runs.now (x := .exit 0) (by kernel_rfl) ⟨rfl, ?_⟩)
    exact less_seenP (fun p hp => by cases hp) os14_clo (Nat.le_refl 2) (by kernel_rfl) (by kernel_rfl) (by kernel_rfl) (by kernel_rfl)
  | d + 1, i, h => by
    have hlt : i < m := by omega
    have e1 : wrapF .i64 (Int.add (.ofNat i) (.ofNat 1)) = .ofNat (i + 1) := wrap_addN (by omega)
    have ne : (!((g i).toList == (g i).toList)) = false := by simp
    refine Runs.lp (by kernel_rfl) (Runs.sq (by kernel_rfl) (Runs.sqR mixed hk38 [] (by kernel_rfl) (by kernel_rfl) (by kernel_rfl) oblN ?_))
    refine Runs.cd (b := ltF (.ofNat i) (.ofNat m)) (by kernel_rfl) (fun _ => Runs.now (x := .normal) (by kernel_rfl) ?_) (fun hf => by rw [lt_of hlt] at hf; cases hf)
    show Runs Tryz.prog 2 _ _ _
    refine Runs.sq (by kernel_rfl) (Runs.bk (id := 1) (by kernel_rfl) ?_)
    refine Runs.sqR mixed hk38 [viaV 2 (.pointer (some ⟨0, 0 + i * 1, none⟩)), viaV 3 (.string (g i)), viaV 6 (.pointer (some ⟨1, 0 + i * 1, none⟩)), viaV 7 (.string (g i)), viaV 8 (.bool false)] (by kernel_rfl) (by kernel_rfl) (by kernel_rfl)
      (oblC (shown_idx (n := m) (i := i) (by kernel_rfl) hlt) (oblC (shown_cell (by kernel_rfl) (strV_at (g := 0) (k := m) (i := i) (f := g) (lv := false) (par := []) (ty := none) (by kernel_rfl) hlt))
      (oblC (shown_idx (n := m) (i := i) (by kernel_rfl) hlt) (oblC (shown_cell (by kernel_rfl) (strV_at (g := 1) (k := m) (i := i) (f := g) (lv := false) (par := []) (ty := none) (by kernel_rfl) hlt))
      (oblC (shown_eq (v := .bool (!((g i).toList == (g i).toList))) (by kernel_rfl) (by kernel_rfl) (by rw [ne])) oblN))))) ?_
    refine Runs.cd (b := false) (by kernel_rfl) (fun h => by cases h) (fun _ => Runs.now (x := .normal) (by kernel_rfl) ?_)
    show Runs Tryz.prog 2 _ _ _
    refine Runs.rg mixed hk38 [viaV 1 (i64 (i + 1))] (by kernel_rfl) (by kernel_rfl) (by kernel_rfl) (oblC (shown_eq (v := .int .i64 (wrapF .i64 (Int.add (.ofNat i) (.ofNat 1)))) (by kernel_rfl) (by kernel_rfl) (by rw [e1]; rfl)) oblN) ?_
    show Runs Tryz.prog 2 lp14 _ _
    exact Runs.less (less_seenP (s14_clo (i := i + 1)) os14_clo (Nat.le_refl 2) (by kernel_rfl) (by kernel_rfl) (by kernel_rfl) (by kernel_rfl)) (equal_loop m c1 c2 g hm d (i + 1) (by omega))
theorem equal_local (m c1 c2 : Nat) (g : Nat → ByteArray) (hm : m < 1000000) : Local Tryz.prog 2 14 [slW 0 m c1, slW 1 m c2] (hp (os14 m g)) fun v' _ => v' = .bool true := by
  refine local_of noNum Tryz.func14 (show Tryz.f14.body = some q14 by kernel_rfl) ?_
  refine Runs.sqR mixed hk38 [] (by kernel_rfl) (by kernel_rfl) (by kernel_rfl) oblN ?_
  refine Runs.sq (by kernel_rfl) (Runs.sqR mixed hk38 [viaV 4 (.bool false)] (by kernel_rfl) (by kernel_rfl) (by kernel_rfl)
    (oblC (shown_eq (v := .bool (!(eqF (.ofNat m) (.ofNat m)))) (by kernel_rfl) (by kernel_rfl) (by rw [eq_self]; rfl)) oblN) ?_)
  refine Runs.cd (b := false) (by kernel_rfl) (fun h => by cases h) (fun _ => Runs.now (x := .normal) (by kernel_rfl) ?_)
  show Runs Tryz.prog 2 _ _ _
  refine Runs.sq (by kernel_rfl) (Runs.sqR mixed hk38 [] (by kernel_rfl) (by kernel_rfl) (by kernel_rfl) oblN (Runs.bk (id := 0) (by kernel_rfl) ?_))
  refine Runs.less (af1 := sth (S14 m c1 c2 0) 26 (os14 m g)) (less_seenP s14_clo os14_clo (Nat.le_refl 2) (by kernel_rfl) (by kernel_rfl) (by kernel_rfl) (by kernel_rfl)) ?_
  refine (equal_loop m c1 c2 g hm m 0 (by omega)).mono fun x af hx => ?_
  obtain ⟨rfl, less⟩ := hx
  show Runs Tryz.prog 2 _ af _
  exact Runs.less less (Runs.sqR mixed hk38 [] (by kernel_rfl) (by kernel_rfl) (by kernel_rfl) oblN (Runs.now (x := .ret) (by kernel_rfl) ⟨.inr rfl, [.bool true], by kernel_rfl, rfl⟩))
theorem equal_rows {h : AH} {i1 i2 m : Nat} {g : Nat → ByteArray} {lv1 lv2 : Bool} {par1 par2 : List Nat} {ty1 ty2 : Option TypeId} {s1 s2 : Value} (hm : m < 1000000) (hg1 : h.get i1 = .cells (strsV m g) lv1 par1 ty1) (hg2 : h.get i2 = .cells (strsV m g) lv2 par2 ty2)
    (hs1 : SliceAt i1 0 m s1) (hs2 : SliceAt i2 0 m s2) : Says Tryz.prog h 14 [s1, s2] (.bool true) h :=
  tell_two (P := Tryz.prog) (fid := 14) (i1 := i1) (o1 := 0) (n1 := m) (i2 := i2) (o2 := 0) (n2 := m) (cells1 := strsV m g) (cells2 := strsV m g) (R := fun v' _ => v' = .bool true)
    (fun c1 c2 _ _ => equal_local m c1 c2 g hm) (fun _ _ r => r) rfl hg1 (fun k u hk => by rw [Nat.zero_add]; exact hk) (by rw [Nat.zero_add]; exact Nat.le_refl _) (strsV_plain _ _) hs1
    hg2 (fun k u hk => by rw [Nat.zero_add]; exact hk) (by rw [Nat.zero_add]; exact Nat.le_refl _) (strsV_plain _ _) hs2
end
end Go.Proofs.YtgnkjmgkfibipaaGreatDoor
