/- outcome: a round of its inner loop. -/
import Derived.Test.YtgnkjmgkfibipaaDoorSWordedKG5
import Derived.Test.YtgnkjmgkfibipaaDoorSWordedKG7
import Derived.Test.YtgnkjmgkfibipaaDoorSWordedKG9
namespace Go.Proofs.YtgnkjmgkfibipaaDoor
set_option linter.unusedVariables false
set_option linter.unusedSimpArgs false
open Go Go.R
set_option maxRecDepth 1000000
noncomputable section

noncomputable def c47 : Code := bodyOf Tryd.f47
noncomputable def lp47 : Code := within (hd (behind 4 c47))
noncomputable def lp47i : Code := within (tl (within (tl (within lp47))))
theorem str_add {w : ByteArray} (c : UInt8) (hw : w.size < 1000000) : strBin .add w ⟨#[c]⟩ = some (.string (w ++ ⟨#[c]⟩)) := by
  have e : (IntKind.i64.max : Int) = 9223372036854775807 := by decide
  unfold strBin
  show (if ((w.size + 1 : Nat) : Int) > IntKind.i64.max then none else some (Value.string (w ++ ⟨#[c]⟩))) = _
  rw [e, if_neg (by omega)]
noncomputable def So (n cap : Nat) (hd lo hi : Int) (w : ByteArray) (lv : Value) (i : Nat) : List (Nat × Value) := [(0, slV n cap), (1, .int .i64 hd), (6, .int .i64 lo), (7, .int .i64 hi), (8, lv), (9, .string w), (17, slV n cap), (18, i64 n), (19, i64 i)]


theorem outN_round (n cap : Nat) (f : Nat → Int) (hd : Int) (hn : n < 100000) (lo hi : Int) (w : ByteArray) (i : Nat) (hw : w.size < 1000000) (hlt : i < n) (h1 : 0 ≤ lo) (h2 : hi ≤ n) {Q : AExit → AF → Prop}
    (skip : (ltF lo (f i) && leF (f i) hi) = false → Runs Tryd.prog 1 lp47i (sth (So n cap hd lo hi w (.slice none 0 0) (i + 1)) 48 [viewZ n f]) Q)
    (blunt : (ltF lo (f i) && leF (f i) hi) = true → ltF hd (f i) = true → ∀ af, Less 1 (sth (So n cap hd lo (f i - 1) (w ++ ⟨#[98]⟩) (bldV 1 1) i) 48 [viewZ n f, rowT [f i]]) af → Q (.exit 2) af)
    (sharp : (ltF lo (f i) && leF (f i) hi) = true → ltF hd (f i) = false → ∀ af, Less 1 (sth (So n cap hd (f i) hi (w ++ ⟨#[115]⟩) (bldV 1 1) i) 48 [viewZ n f, rowT [f i]]) af → Q (.exit 2) af) :
    Runs Tryd.prog 1 lp47i (sth (So n cap hd lo hi w (.slice none 0 0) i) 48 [viewZ n f]) Q := by
  refine Runs.lp (by kernel_rfl) (Runs.sqR mixed hk38 [] (by kernel_rfl) (by kernel_rfl) (by kernel_rfl) oblN (Runs.sq (by kernel_rfl) ?_))
  refine Runs.cd (b := ltF (.ofNat i) (.ofNat n)) (by kernel_rfl) (fun _ => Runs.now (x := .normal) (by kernel_rfl) ?_) (fun hf => by rw [lt_of hlt] at hf; cases hf)
  show Runs Tryd.prog 1 _ _ _
  refine Runs.sq (by kernel_rfl) (Runs.bk (id := 3) (by kernel_rfl) ?_)
  refine Runs.sqR mixed hk38 [viaV 0 (.pointer (some ⟨0, 0 + i * 1, none⟩)), viaV 1 (.int .i64 (f i))] (by kernel_rfl) (by kernel_rfl) (by kernel_rfl)
    (oblC (shown_idx (n := n) (by kernel_rfl) hlt) (oblC (shown_cell (by kernel_rfl) (intZ_at (g := 0) (n := n) (f := f) (lv := false) (par := []) (ty := none) (by kernel_rfl) hlt)) oblN)) ?_
  have ew : So n cap hd lo hi w (.slice none 0 0) (i + 1) = [(0, slV n cap), (1, .int .i64 hd), (6, .int .i64 lo), (7, .int .i64 hi), (8, .slice none 0 0), (9, .string w), (17, slV n cap), (18, i64 n), (19, .int .i64 (wrapF .i64 (Int.add (.ofNat i) (.ofNat 1))))] := by rw [wrap_succ (by omega : i < 4611686018427387904)]; rfl
  cases hlo : ltF lo (f i) with
  | false =>
    refine Runs.sqR mixed hk38 [viaV 2 (.bool false)] (by kernel_rfl) (by kernel_rfl) (by kernel_rfl) (oblC (shown_eq (v := .bool (ltF lo (f i))) (by kernel_rfl) (by kernel_rfl) (by rw [hlo])) oblN) ?_
    refine Runs.cd (b := false) (by kernel_rfl) (fun h => by cases h) (fun _ => Runs.now (x := .normal) (by kernel_rfl) ?_)
    show Runs Tryd.prog 1 _ _ _
    refine Runs.rg mixed hk38 [] (by kernel_rfl) (by kernel_rfl) (by kernel_rfl) oblN ?_
    show Runs Tryd.prog 1 lp47i _ _
    exact Runs.less (af1 := sth (So n cap hd lo hi w (.slice none 0 0) (i + 1)) 48 [viewZ n f]) (less_seenP (clo_all (k := 1) (by kernel_rfl)) viewZ_clo (show 1 ≤ 1 by decide) (by rw [ew]; exact Eq.trans (Eq.refl _) (by kernel_rfl)) (by kernel_rfl) (by kernel_rfl) (by kernel_rfl)) (skip (by rw [hlo]; rfl))
  | true =>
    refine Runs.sqR mixed hk38 [viaV 2 (.bool true)] (by kernel_rfl) (by kernel_rfl) (by kernel_rfl) (oblC (shown_eq (v := .bool (ltF lo (f i))) (by kernel_rfl) (by kernel_rfl) (by rw [hlo])) oblN) ?_
    refine Runs.cd (b := leF (f i) hi) (by kernel_rfl) (fun ht => ?_) (fun hf => Runs.now (x := .normal) (by kernel_rfl) ?_)
    · have yes : (ltF lo (f i) && leF (f i) hi) = true := by rw [hlo, ht]; rfl
      have b0 : 0 ≤ f i := by have := ltF_iff.1 hlo; omega
      have bn : f i ≤ n := by rw [leF_eq, decide_eq_true_eq] at ht; omega
      refine Runs.less (af1 := sth (So n cap hd lo hi w (.slice none 0 0) i ++ [(11, .int .i64 (f i))]) 48 [viewZ n f]) (less_seenP (clo_all (k := 1) (by kernel_rfl)) viewZ_clo (show 1 ≤ 1 by decide) (by kernel_rfl) (by kernel_rfl) (by kernel_rfl) (by kernel_rfl)) ?_
      refine Runs.sqR mixed hk38 [] (by kernel_rfl) (by kernel_rfl) (by kernel_rfl) oblN ?_
      refine Runs.renumK (sz := 48) (l := So n cap hd lo hi w (bldV 1 1) i ++ [(11, .int .i64 (f i))]) (os := [viewZ n f, rowT [f i]]) (fun j => match j with | 1 => 2 | j => j) (fun j => match j with | 2 => 1 | j => j) (by kernel_rfl) (show 1 ≤ 2 by decide) (by kernel_rfl) ⟨fun _ => .inl (Eq.trans (Eq.refl _) (by kernel_rfl)), fun h => (by cases h), trivial⟩ (by kernel_rfl) (by kernel_rfl) (by kernel_rfl) (by kernel_rfl)
        ⟨obs_view (by kernel_rfl), obs_rowT (p := []) (by kernel_rfl), trivial⟩ ?_
      refine Runs.sq (by kernel_rfl) ?_
      refine Runs.sqR mixed hk38 [] (by kernel_rfl) (by kernel_rfl) (by kernel_rfl) oblN ?_
      refine Runs.cd (b := ltF hd (f i)) (by kernel_rfl) (fun hb => ?_) (fun hb => ?_)
      · refine Runs.sqR mixed hk38 [viaV 1 (.string (w ++ ⟨#[98]⟩))] (by kernel_rfl) (by kernel_rfl) (by kernel_rfl) (oblC ⟨by kernel_rfl, (show _ = (strBin .add w ⟨#[98]⟩).map (·, hp [viewZ n f, rowT [f i]]) by kernel_rfl).trans (by rw [str_add 98 hw]; rfl)⟩ oblN) ?_
        refine Runs.rg mixed hk38 [viaV 1 (.int .i64 (f i - 1))] (by kernel_rfl) (by kernel_rfl) (by kernel_rfl) (oblC (shown_eq (v := .int .i64 (wrapF .i64 (Int.sub (f i) 1))) (by kernel_rfl) (by kernel_rfl) (by rw [fol_sub b0 bn (by omega)])) oblN) ?_
        show Runs Tryd.prog 1 _ _ _
        refine Runs.now (x := .exit 2) (by kernel_rfl) ?_
        exact blunt yes hb _ (less_seenP (clo_all (k := 2) (by kernel_rfl)) ck2_clo (show 1 ≤ 2 by decide) (by kernel_rfl) (by kernel_rfl) (by kernel_rfl) (by kernel_rfl))
      · refine Runs.sqR mixed hk38 [viaV 1 (.string (w ++ ⟨#[115]⟩))] (by kernel_rfl) (by kernel_rfl) (by kernel_rfl) (oblC ⟨by kernel_rfl, (show _ = (strBin .add w ⟨#[115]⟩).map (·, hp [viewZ n f, rowT [f i]]) by kernel_rfl).trans (by rw [str_add 115 hw]; rfl)⟩ oblN) ?_
        refine Runs.rg mixed hk38 [] (by kernel_rfl) (by kernel_rfl) (by kernel_rfl) oblN ?_
        show Runs Tryd.prog 1 _ _ _
        refine Runs.now (x := .exit 2) (by kernel_rfl) ?_
        exact sharp yes hb _ (less_seenP (clo_all (k := 2) (by kernel_rfl)) ck2_clo (show 1 ≤ 2 by decide) (by kernel_rfl) (by kernel_rfl) (by kernel_rfl) (by kernel_rfl))
    · show Runs Tryd.prog 1 _ _ _
      refine Runs.rg mixed hk38 [] (by kernel_rfl) (by kernel_rfl) (by kernel_rfl) oblN ?_
      show Runs Tryd.prog 1 lp47i _ _
      exact Runs.less (af1 := sth (So n cap hd lo hi w (.slice none 0 0) (i + 1)) 48 [viewZ n f]) (less_seenP (clo_all (k := 1) (by kernel_rfl)) viewZ_clo (show 1 ≤ 1 by decide) (by rw [ew]; exact Eq.trans (Eq.refl _) (by kernel_rfl)) (by kernel_rfl) (by kernel_rfl) (by kernel_rfl)) (skip (by rw [hlo, hf]; rfl))

theorem outB_round (n cap : Nat) (f : Nat → Int) (hd : Int) (hn : n < 100000) (lo hi : Int) (w : ByteArray) (i : Nat) (ls : List Int) (hls : ls.length < 1000000) (hw : w.size < 1000000) (hlt : i < n) (h1 : 0 ≤ lo) (h2 : hi ≤ n) {Q : AExit → AF → Prop}
    (skip : (ltF lo (f i) && leF (f i) hi) = false → Runs Tryd.prog 1 lp47i (sth (So n cap hd lo hi w (bldV 1 ls.length) (i + 1)) 48 [viewZ n f, rowT ls]) Q)
    (blunt : (ltF lo (f i) && leF (f i) hi) = true → ltF hd (f i) = true → ∀ af, Less 1 (sth (So n cap hd lo (f i - 1) (w ++ ⟨#[98]⟩) (bldV 1 (ls.length + 1)) i) 48 [viewZ n f, rowT (ls ++ [f i])]) af → Q (.exit 2) af)
    (sharp : (ltF lo (f i) && leF (f i) hi) = true → ltF hd (f i) = false → ∀ af, Less 1 (sth (So n cap hd (f i) hi (w ++ ⟨#[115]⟩) (bldV 1 (ls.length + 1)) i) 48 [viewZ n f, rowT (ls ++ [f i])]) af → Q (.exit 2) af) :
    Runs Tryd.prog 1 lp47i (sth (So n cap hd lo hi w (bldV 1 ls.length) i) 48 [viewZ n f, rowT ls]) Q := by
  refine Runs.lp (by kernel_rfl) (Runs.sqR mixed hk38 [] (by kernel_rfl) (by kernel_rfl) (by kernel_rfl) oblN (Runs.sq (by kernel_rfl) ?_))
  refine Runs.cd (b := ltF (.ofNat i) (.ofNat n)) (by kernel_rfl) (fun _ => Runs.now (x := .normal) (by kernel_rfl) ?_) (fun hf => by rw [lt_of hlt] at hf; cases hf)
  show Runs Tryd.prog 1 _ _ _
  refine Runs.sq (by kernel_rfl) (Runs.bk (id := 3) (by kernel_rfl) ?_)
  refine Runs.sqR mixed hk38 [viaV 0 (.pointer (some ⟨0, 0 + i * 1, none⟩)), viaV 1 (.int .i64 (f i))] (by kernel_rfl) (by kernel_rfl) (by kernel_rfl)
    (oblC (shown_idx (n := n) (by kernel_rfl) hlt) (oblC (shown_cell (by kernel_rfl) (intZ_at (g := 0) (n := n) (f := f) (lv := false) (par := []) (ty := none) (by kernel_rfl) hlt)) oblN)) ?_
  have ew : So n cap hd lo hi w (bldV 1 ls.length) (i + 1) = [(0, slV n cap), (1, .int .i64 hd), (6, .int .i64 lo), (7, .int .i64 hi), (8, bldV 1 ls.length), (9, .string w), (17, slV n cap), (18, i64 n), (19, .int .i64 (wrapF .i64 (Int.add (.ofNat i) (.ofNat 1))))] := by rw [wrap_succ (by omega : i < 4611686018427387904)]; rfl
  cases hlo : ltF lo (f i) with
  | false =>
    refine Runs.sqR mixed hk38 [viaV 2 (.bool false)] (by kernel_rfl) (by kernel_rfl) (by kernel_rfl) (oblC (shown_eq (v := .bool (ltF lo (f i))) (by kernel_rfl) (by kernel_rfl) (by rw [hlo])) oblN) ?_
    refine Runs.cd (b := false) (by kernel_rfl) (fun h => by cases h) (fun _ => Runs.now (x := .normal) (by kernel_rfl) ?_)
    show Runs Tryd.prog 1 _ _ _
    refine Runs.rg mixed hk38 [] (by kernel_rfl) (by kernel_rfl) (by kernel_rfl) oblN ?_
    show Runs Tryd.prog 1 lp47i _ _
    exact Runs.less (af1 := sth (So n cap hd lo hi w (bldV 1 ls.length) (i + 1)) 48 [viewZ n f, rowT ls]) (less_seenP (clo_all (k := 2) (by kernel_rfl)) ck2_clo (show 1 ≤ 2 by decide) (by rw [ew]; exact Eq.trans (Eq.refl _) (by kernel_rfl)) (by kernel_rfl) (by kernel_rfl) (by kernel_rfl)) (skip (by rw [hlo]; rfl))
  | true =>
    refine Runs.sqR mixed hk38 [viaV 2 (.bool true)] (by kernel_rfl) (by kernel_rfl) (by kernel_rfl) (oblC (shown_eq (v := .bool (ltF lo (f i))) (by kernel_rfl) (by kernel_rfl) (by rw [hlo])) oblN) ?_
    refine Runs.cd (b := leF (f i) hi) (by kernel_rfl) (fun ht => ?_) (fun hf => Runs.now (x := .normal) (by kernel_rfl) ?_)
    · have yes : (ltF lo (f i) && leF (f i) hi) = true := by rw [hlo, ht]; rfl
      have b0 : 0 ≤ f i := by have := ltF_iff.1 hlo; omega
      have bn : f i ≤ n := by rw [leF_eq, decide_eq_true_eq] at ht; omega
      refine Runs.less (af1 := sth (So n cap hd lo hi w (bldV 1 ls.length) i ++ [(11, .int .i64 (f i))]) 48 [viewZ n f, rowT ls]) (less_seenP (clo_all (k := 2) (by kernel_rfl)) ck2_clo (show 1 ≤ 2 by decide) (by kernel_rfl) (by kernel_rfl) (by kernel_rfl) (by kernel_rfl)) ?_
      let H2 : AH := ((hp [viewZ n f, rowT ls]).new (.cells [Value.int .i64 (f i)] true [] (some 3))).2
      have hap := push_gen (st := 24) (e := 3) (by kernel_rfl) int_info (h := H2) (i := 1) (j := 2) (x := .int .i64 (f i)) (par := []) rfl (litZ_len ls) hls (by kernel_rfl) (by kernel_rfl)
      refine Runs.sqR mixed hk38 [⟨3, bldV 3 (ls.length + 1), some ((H2.put 1 (.cells (litZ ls) false [] (some 3))).new (.cells (litZ ls ++ [Value.int .i64 (f i)]) true [1] (some 3))).2, none⟩] (by kernel_rfl) (by kernel_rfl) (by kernel_rfl)
        (oblC ⟨by kernel_rfl, (show _ = appendA Tryd.prog #[24, 24] (.slice (some ⟨1, 0, some 1⟩) ls.length ls.length) (.slice (some ⟨2, 0, none⟩) 1 1) H2 by kernel_rfl).trans hap⟩ oblN) ?_
      have el : (ls ++ [f i]).length = ls.length + 1 := by simp
      refine Runs.renumK (sz := 48) (l := So n cap hd lo hi w (bldV 1 (ls.length + 1)) i ++ [(11, .int .i64 (f i))]) (os := [viewZ n f, rowT (ls ++ [f i])]) (fun j => match j with | 1 => 3 | j => j) (fun j => match j with | 3 => 1 | j => j) (by kernel_rfl) (show 1 ≤ 2 by decide) (by kernel_rfl) ⟨fun _ => .inl (Eq.trans (Eq.refl _) (by kernel_rfl)), fun h => (by cases h), trivial⟩ (by kernel_rfl) (by kernel_rfl) (by kernel_rfl) (by kernel_rfl)
        ⟨obs_view (by kernel_rfl), RenO.row (c := litZ (ls ++ [f i])) (lv := true) (p := [1]) (ty := some 3) (by rw [← litZ_app]; exact Eq.trans (Eq.refl _) (by kernel_rfl)) (litZ_plain _) (fun h => h) (.inr rfl), trivial⟩ ?_
      refine Runs.sq (by kernel_rfl) ?_
      refine Runs.sqR mixed hk38 [] (by kernel_rfl) (by kernel_rfl) (by kernel_rfl) oblN ?_
      refine Runs.cd (b := ltF hd (f i)) (by kernel_rfl) (fun hb => ?_) (fun hb => ?_)
      · refine Runs.sqR mixed hk38 [viaV 1 (.string (w ++ ⟨#[98]⟩))] (by kernel_rfl) (by kernel_rfl) (by kernel_rfl) (oblC ⟨by kernel_rfl, (show _ = (strBin .add w ⟨#[98]⟩).map (·, hp [viewZ n f, rowT (ls ++ [f i])]) by kernel_rfl).trans (by rw [str_add 98 hw]; rfl)⟩ oblN) ?_
        refine Runs.rg mixed hk38 [viaV 1 (.int .i64 (f i - 1))] (by kernel_rfl) (by kernel_rfl) (by kernel_rfl) (oblC (shown_eq (v := .int .i64 (wrapF .i64 (Int.sub (f i) 1))) (by kernel_rfl) (by kernel_rfl) (by rw [fol_sub b0 bn (by omega)])) oblN) ?_
        show Runs Tryd.prog 1 _ _ _
        refine Runs.now (x := .exit 2) (by kernel_rfl) ?_
        exact blunt yes hb _ (less_seenP (clo_all (k := 2) (by kernel_rfl)) ck2_clo (show 1 ≤ 2 by decide) (by kernel_rfl) (by kernel_rfl) (by kernel_rfl) (by kernel_rfl))
      · refine Runs.sqR mixed hk38 [viaV 1 (.string (w ++ ⟨#[115]⟩))] (by kernel_rfl) (by kernel_rfl) (by kernel_rfl) (oblC ⟨by kernel_rfl, (show _ = (strBin .add w ⟨#[115]⟩).map (·, hp [viewZ n f, rowT (ls ++ [f i])]) by kernel_rfl).trans (by rw [str_add 115 hw]; rfl)⟩ oblN) ?_
        refine Runs.rg mixed hk38 [] (by kernel_rfl) (by kernel_rfl) (by kernel_rfl) oblN ?_
        show Runs Tryd.prog 1 _ _ _
        refine Runs.now (x := .exit 2) (by kernel_rfl) ?_
        exact sharp yes hb _ (less_seenP (clo_all (k := 2) (by kernel_rfl)) ck2_clo (show 1 ≤ 2 by decide) (by kernel_rfl) (by kernel_rfl) (by kernel_rfl) (by kernel_rfl))
    · show Runs Tryd.prog 1 _ _ _
      refine Runs.rg mixed hk38 [] (by kernel_rfl) (by kernel_rfl) (by kernel_rfl) oblN ?_
      show Runs Tryd.prog 1 lp47i _ _
      exact Runs.less (af1 := sth (So n cap hd lo hi w (bldV 1 ls.length) (i + 1)) 48 [viewZ n f, rowT ls]) (less_seenP (clo_all (k := 2) (by kernel_rfl)) ck2_clo (show 1 ≤ 2 by decide) (by rw [ew]; exact Eq.trans (Eq.refl _) (by kernel_rfl)) (by kernel_rfl) (by kernel_rfl) (by kernel_rfl)) (skip (by rw [hlo, hf]; rfl))

end
end Go.Proofs.YtgnkjmgkfibipaaDoor

/- outcome, as a contract. -/
namespace Go.Proofs.YtgnkjmgkfibipaaDoor
set_option linter.unusedVariables false
set_option linter.unusedSimpArgs false
open Go Go.R
set_option maxRecDepth 1000000
noncomputable section

def firstIn (f : Nat → Int) (lo hi : Int) : Nat → Nat → Option Int
  | 0, _ => none
  | d + 1, i => if ltF lo (f i) && leF (f i) hi then some (f i) else firstIn f lo hi d (i + 1)
def outL (f : Nat → Int) (n : Nat) (hd : Int) : Nat → Int → Int → List Int
  | 0, _, _ => []
  | k + 1, lo, hi => if ltF lo hi then (match firstIn f lo hi n 0 with
    | some x => x :: (if ltF hd x then outL f n hd k lo (x - 1) else outL f n hd k x hi)
    | none => []) else []
def outF (f : Nat → Int) (n : Nat) (hd : Int) : List Int := outL f n hd n 0 (.ofNat n)
def wordOf (hd : Int) (l : List Int) : List Int := l.map fun x => byteW (ltF hd x)

theorem first_spec {f : Nat → Int} {lo hi x : Int} : ∀ {d i : Nat}, firstIn f lo hi d i = some x → lo < x ∧ x ≤ hi
  | 0, i, h => by cases h
  | d + 1, i, h => by
    unfold firstIn at h
    split at h
    · rename_i hc
      rw [Bool.and_eq_true] at hc
      cases h
      exact ⟨ltF_iff.1 hc.1, by have := hc.2; rw [leF_eq, decide_eq_true_eq] at this; exact this⟩
    · exact first_spec h

theorem strB_snoc (bs : List Int) (c : Int) (u : UInt8) (h : c.toNat.toUInt8 = u) : strB (bs ++ [c]) = strB bs ++ ⟨#[u]⟩ := by
  unfold strB
  rw [List.map_append, ← h]
  apply ByteArray.ext
  simp
theorem strB_size (bs : List Int) : (strB bs).size = bs.length := by
  unfold strB
  show ((bs.map fun x => x.toNat.toUInt8).toArray).size = _
  simp

def Su (n cap : Nat) (hd lo hi : Int) (w : ByteArray) (lv : Value) : List (Nat × Value) := [(0, slV n cap), (1, .int .i64 hd), (6, .int .i64 lo), (7, .int .i64 hi), (8, lv), (9, .string w)]

theorem innerN (n cap : Nat) (f : Nat → Int) (hd : Int) (hn : n < 100000) (lo hi : Int) (w : ByteArray) (hw : w.size < 1000000) (h1 : 0 ≤ lo) (h2 : hi ≤ n) (x : Int) : ∀ d i, i + d = n → firstIn f lo hi d i = some x →
    Runs Tryd.prog 1 lp47i (sth (So n cap hd lo hi w (.slice none 0 0) i) 48 [viewZ n f]) fun e af => e = .exit 2 ∧ ∃ j, (ltF hd x = true ∧ Less 1 (sth (So n cap hd lo (x - 1) (w ++ ⟨#[98]⟩) (bldV 1 1) j) 48 [viewZ n f, rowT [x]]) af) ∨ (ltF hd x = false ∧ Less 1 (sth (So n cap hd x hi (w ++ ⟨#[115]⟩) (bldV 1 1) j) 48 [viewZ n f, rowT [x]]) af)
  | 0, i, h, hx => by cases hx
  | d + 1, i, h, hx => by
    refine outN_round n cap f hd hn lo hi w i hw (by omega) h1 h2 (fun hs => ?_) (fun hs hb af less => ?_) (fun hs hb af less => ?_)
    · rw [firstIn, hs] at hx
      exact innerN n cap f hd hn lo hi w hw h1 h2 x d (i + 1) (by omega) hx
    · rw [firstIn, if_pos hs] at hx
      cases hx
      exact ⟨rfl, i, .inl ⟨hb, less⟩⟩
    · rw [firstIn, if_pos hs] at hx
      cases hx
      exact ⟨rfl, i, .inr ⟨hb, less⟩⟩

theorem innerB (n cap : Nat) (f : Nat → Int) (hd : Int) (hn : n < 100000) (lo hi : Int) (w : ByteArray) (hw : w.size < 1000000) (ls : List Int) (hls : ls.length < 1000000) (h1 : 0 ≤ lo) (h2 : hi ≤ n) (x : Int) : ∀ d i, i + d = n → firstIn f lo hi d i = some x →
    Runs Tryd.prog 1 lp47i (sth (So n cap hd lo hi w (bldV 1 ls.length) i) 48 [viewZ n f, rowT ls]) fun e af => e = .exit 2 ∧ ∃ j, (ltF hd x = true ∧ Less 1 (sth (So n cap hd lo (x - 1) (w ++ ⟨#[98]⟩) (bldV 1 (ls.length + 1)) j) 48 [viewZ n f, rowT (ls ++ [x])]) af) ∨ (ltF hd x = false ∧ Less 1 (sth (So n cap hd x hi (w ++ ⟨#[115]⟩) (bldV 1 (ls.length + 1)) j) 48 [viewZ n f, rowT (ls ++ [x])]) af)
  | 0, i, h, hx => by cases hx
  | d + 1, i, h, hx => by
    refine outB_round n cap f hd hn lo hi w i ls hls hw (by omega) h1 h2 (fun hs => ?_) (fun hs hb af less => ?_) (fun hs hb af less => ?_)
    · rw [firstIn, hs] at hx
      exact innerB n cap f hd hn lo hi w hw ls hls h1 h2 x d (i + 1) (by omega) hx
    · rw [firstIn, if_pos hs] at hx
      cases hx
      exact ⟨rfl, i, .inl ⟨hb, less⟩⟩
    · rw [firstIn, if_pos hs] at hx
      cases hx
      exact ⟨rfl, i, .inr ⟨hb, less⟩⟩

/-- Wherever something is left, the plan tries it. -/
def Tries (f : Nat → Int) (n : Nat) : Prop := ∀ lo hi : Int, 0 ≤ lo → lo < hi → hi ≤ n → firstIn f lo hi n 0 ≠ none

theorem outB_loop (n cap : Nat) (f : Nat → Int) (hd : Int) (hn : n < 100000) (G : Tries f n) : ∀ (k : Nat) (lo hi : Int) (bs ls : List Int), 0 ≤ lo → hi ≤ n → hi - lo ≤ k → bs.length + k ≤ 900000 → ls.length + k ≤ 900000 →
    Runs Tryd.prog 1 lp47 (sth (Su n cap hd lo hi (strB bs) (bldV 1 ls.length)) 48 [viewZ n f, rowT ls]) fun e af => e = .exit 0 ∧ Less 1 (sth [(8, bldV 1 (ls ++ outL f n hd k lo hi).length), (9, .string (strB (bs ++ wordOf hd (outL f n hd k lo hi))))] 48 [viewZ n f, rowT (ls ++ outL f n hd k lo hi)]) af := by
  intro k
  induction k with
  | zero =>
    intro lo hi bs ls h1 h2 h3 h4 h5
    have hno : ltF lo hi = false := ltF_not.2 (by omega)
    refine Runs.lp (by kernel_rfl) (Runs.sq (by kernel_rfl) (Runs.sqR mixed hk38 [] (by kernel_rfl) (by kernel_rfl) (by kernel_rfl) oblN ?_))
    refine Runs.cd (b := ltF lo hi) (by kernel_rfl) (fun ht => by rw [hno] at ht; cases ht) (fun _ => Runs.now (x := .exit 0) (by kernel_rfl) ⟨rfl, ?_⟩)
    rw [show ls ++ outL f n hd 0 lo hi = ls from List.append_nil ls, show bs ++ wordOf hd (outL f n hd 0 lo hi) = bs from List.append_nil bs]
    exact less_seenP (clo_all (k := 2) (by kernel_rfl)) ck2_clo (show 1 ≤ 2 by decide) (by kernel_rfl) (by kernel_rfl) (by kernel_rfl) (by kernel_rfl)
  | succ k ih =>
    intro lo hi bs ls h1 h2 h3 h4 h5
    refine Runs.lp (by kernel_rfl) (Runs.sq (by kernel_rfl) (Runs.sqR mixed hk38 [] (by kernel_rfl) (by kernel_rfl) (by kernel_rfl) oblN ?_))
    refine Runs.cd (b := ltF lo hi) (by kernel_rfl) (fun ht => Runs.now (x := .normal) (by kernel_rfl) ?_) (fun hf => Runs.now (x := .exit 0) (by kernel_rfl) ⟨rfl, ?_⟩)
    · obtain ⟨x, hx⟩ : ∃ x, firstIn f lo hi n 0 = some x := by
        cases h : firstIn f lo hi n 0 with
        | none => exact absurd h (G lo hi h1 (ltF_iff.1 ht) h2)
        | some x => exact ⟨x, rfl⟩
      have hsp := first_spec hx
      have hsz := strB_size bs
      have el : (ls ++ [x]).length = ls.length + 1 := by simp
      show Runs Tryd.prog 1 _ _ _
      refine Runs.bk (id := 1) (by kernel_rfl) (Runs.sqR mixed hk38 [] (by kernel_rfl) (by kernel_rfl) (by kernel_rfl) oblN (Runs.bk (id := 2) (by kernel_rfl) ?_))
      refine Runs.less (af1 := sth (So n cap hd lo hi (strB bs) (bldV 1 ls.length) 0) 48 [viewZ n f, rowT ls]) (less_seenP (clo_all (k := 2) (by kernel_rfl)) ck2_clo (show 1 ≤ 2 by decide) (by kernel_rfl) (by kernel_rfl) (by kernel_rfl) (by kernel_rfl)) ?_
      refine (innerB n cap f hd hn lo hi (strB bs) (by omega) ls (by omega) h1 h2 x n 0 (by omega) hx).mono fun e af hpost => ?_
      obtain ⟨rfl, j, ⟨hb, less⟩ | ⟨hb, less⟩⟩ := hpost
      · have eL : outL f n hd (k + 1) lo hi = x :: outL f n hd k lo (x - 1) := by rw [outL, if_pos ht, hx]; simp only [hb, if_true]
        have hr := ih lo (x - 1) (bs ++ [98]) (ls ++ [x]) h1 (by omega) (by omega) (by simp; omega) (by simp; omega)
        rw [strB_snoc bs 98 98 rfl, el] at hr
        rw [eL, show ls ++ x :: outL f n hd k lo (x - 1) = (ls ++ [x]) ++ outL f n hd k lo (x - 1) by simp, show bs ++ wordOf hd (x :: outL f n hd k lo (x - 1)) = (bs ++ [98]) ++ wordOf hd (outL f n hd k lo (x - 1)) by unfold wordOf; rw [List.map_cons, hb]; simp [byteW]]
        show Runs Tryd.prog 1 lp47 af _
        refine Runs.less less ?_
        exact Runs.less (af1 := sth (Su n cap hd lo (x - 1) (strB bs ++ ⟨#[98]⟩) (bldV 1 (ls.length + 1))) 48 [viewZ n f, rowT (ls ++ [x])]) (less_seenP (clo_all (k := 2) (by kernel_rfl)) ck2_clo (show 1 ≤ 2 by decide) (by kernel_rfl) (by kernel_rfl) (by kernel_rfl) (by kernel_rfl)) hr
      · have eL : outL f n hd (k + 1) lo hi = x :: outL f n hd k x hi := by rw [outL, if_pos ht, hx]; simp only [hb, Bool.false_eq_true, if_false]
        have hr := ih x hi (bs ++ [115]) (ls ++ [x]) (by omega) h2 (by omega) (by simp; omega) (by simp; omega)
        rw [strB_snoc bs 115 115 rfl, el] at hr
        rw [eL, show ls ++ x :: outL f n hd k x hi = (ls ++ [x]) ++ outL f n hd k x hi by simp, show bs ++ wordOf hd (x :: outL f n hd k x hi) = (bs ++ [115]) ++ wordOf hd (outL f n hd k x hi) by unfold wordOf; rw [List.map_cons, hb]; simp [byteW]]
        show Runs Tryd.prog 1 lp47 af _
        refine Runs.less less ?_
        exact Runs.less (af1 := sth (Su n cap hd x hi (strB bs ++ ⟨#[115]⟩) (bldV 1 (ls.length + 1))) 48 [viewZ n f, rowT (ls ++ [x])]) (less_seenP (clo_all (k := 2) (by kernel_rfl)) ck2_clo (show 1 ≤ 2 by decide) (by kernel_rfl) (by kernel_rfl) (by kernel_rfl) (by kernel_rfl)) hr
    · have eL : outL f n hd (k + 1) lo hi = [] := by rw [outL, hf]; rfl
      rw [eL, show ls ++ ([] : List Int) = ls from List.append_nil ls, show bs ++ wordOf hd [] = bs from List.append_nil bs]
      exact less_seenP (clo_all (k := 2) (by kernel_rfl)) ck2_clo (show 1 ≤ 2 by decide) (by kernel_rfl) (by kernel_rfl) (by kernel_rfl) (by kernel_rfl)

theorem outcome_local (n cap : Nat) (f : Nat → Int) (hd : Int) (hn : n < 100000) (hn0 : 0 < n) (G : Tries f n) : Local Tryd.prog 1 47 [slV n cap, .int .i64 hd] (hp [viewZ n f]) (IsRow (outF f n hd).length (litZ (outF f n hd)) (some 3) (some (.string (strB (wordOf hd (outF f n hd)))))) := by
  obtain ⟨x, hx⟩ : ∃ x, firstIn f 0 (.ofNat n) n 0 = some x := by
    cases h : firstIn f 0 (.ofNat n) n 0 with
    | none => exact absurd h (G 0 (.ofNat n) (Int.le_refl 0) (Int.ofNat_lt.2 hn0) (Int.le_refl _))
    | some x => exact ⟨x, rfl⟩
  have hsp := first_spec hx
  have hxn : x ≤ (n : Int) := hsp.2
  have ht : ltF 0 (.ofNat n) = true := ltF_iff.2 (Int.ofNat_lt.2 hn0)
  obtain ⟨k, hk⟩ : ∃ k, n = k + 1 := ⟨n - 1, by omega⟩
  refine local_of noNum Tryd.func47 (show Tryd.f47.body = some c47 by kernel_rfl) ?_
  refine Runs.sqR mixed hk38 [] (by kernel_rfl) (by kernel_rfl) (by kernel_rfl) oblN ?_
  refine Runs.sqR mixed hk38 [] (by kernel_rfl) (by kernel_rfl) (by kernel_rfl) oblN ?_
  refine Runs.sqR mixed hk38 [] (by kernel_rfl) (by kernel_rfl) (by kernel_rfl) oblN ?_
  refine Runs.sqR mixed hk38 [] (by kernel_rfl) (by kernel_rfl) (by kernel_rfl) oblN ?_
  refine Runs.sq (by kernel_rfl) (Runs.bk (id := 0) (by kernel_rfl) ?_)
  refine Runs.less (af1 := sth (Su n cap hd 0 (.ofNat n) (strB []) (.slice none 0 0)) 48 [viewZ n f]) (less_seenP (clo_all (k := 1) (by kernel_rfl)) viewZ_clo (Nat.le_refl 1) (by kernel_rfl) (by kernel_rfl) (by kernel_rfl) (by kernel_rfl)) ?_
  have fin : ∀ (L : List Int) (W : ByteArray) (e : AExit) (af : AF), L = outF f n hd → W = strB (wordOf hd (outF f n hd)) → (e = .exit 0 ∧ Less 1 (sth [(8, bldV 1 L.length), (9, .string W)] 48 [viewZ n f, rowT L]) af) →
      caught 0 (andThen (fun a => Runs Tryd.prog 1 (behind 5 c47) a (EndsAs Tryd.prog Tryd.f47 (IsRow (outF f n hd).length (litZ (outF f n hd)) (some 3) (some (.string (strB (wordOf hd (outF f n hd)))))))) (EndsAs Tryd.prog Tryd.f47 (IsRow (outF f n hd).length (litZ (outF f n hd)) (some 3) (some (.string (strB (wordOf hd (outF f n hd)))))))) e af := by
    intro L W e af eL eW h
    subst eL eW
    obtain ⟨rfl, less⟩ := h
    show Runs Tryd.prog 1 (behind 5 c47) af _
    refine Runs.less less ?_
    refine Runs.sqR mixed hk38 [] (by kernel_rfl) (by kernel_rfl) (by kernel_rfl) oblN ?_
    exact Runs.now (x := .ret) (by kernel_rfl) ⟨.inr rfl, [bldV 1 (outF f n hd).length, .string (strB (wordOf hd (outF f n hd)))], by kernel_rfl, 1, [], .inl rfl, by kernel_rfl⟩
  refine Runs.lp (by kernel_rfl) (Runs.sq (by kernel_rfl) (Runs.sqR mixed hk38 [] (by kernel_rfl) (by kernel_rfl) (by kernel_rfl) oblN ?_))
  refine Runs.cd (b := ltF 0 (.ofNat n)) (by kernel_rfl) (fun _ => Runs.now (x := .normal) (by kernel_rfl) ?_) (fun hf => by rw [ht] at hf; cases hf)
  show Runs Tryd.prog 1 _ _ _
  refine Runs.bk (id := 1) (by kernel_rfl) (Runs.sqR mixed hk38 [] (by kernel_rfl) (by kernel_rfl) (by kernel_rfl) oblN (Runs.bk (id := 2) (by kernel_rfl) ?_))
  refine Runs.less (af1 := sth (So n cap hd 0 (.ofNat n) (strB []) (.slice none 0 0) 0) 48 [viewZ n f]) (less_seenP (clo_all (k := 1) (by kernel_rfl)) viewZ_clo (Nat.le_refl 1) (by kernel_rfl) (by kernel_rfl) (by kernel_rfl) (by kernel_rfl)) ?_
  refine (innerN n cap f hd hn 0 (.ofNat n) (strB []) (by rw [strB_size]; simp) (Int.le_refl 0) (Int.le_refl _) x n 0 (by omega) hx).mono fun e af hpost => ?_
  obtain ⟨rfl, j, ⟨hb, less⟩ | ⟨hb, less⟩⟩ := hpost
  · have eL : outF f n hd = [x] ++ outL f n hd k 0 (x - 1) := by
      unfold outF
      rw [show outL f n hd n 0 (.ofNat n) = outL f n hd (k + 1) 0 (.ofNat n) by rw [← hk], outL, if_pos ht, hx]
      simp only [hb, if_true]; rfl
    have hr := outB_loop n cap f hd hn G k 0 (x - 1) [98] [x] (Int.le_refl 0) (by omega) (by omega) (by simp; omega) (by simp; omega)
    show Runs Tryd.prog 1 lp47 af _
    refine Runs.less less ?_
    refine Runs.less (af1 := sth (Su n cap hd 0 (x - 1) (strB [98]) (bldV 1 1)) 48 [viewZ n f, rowT [x]]) (less_seenP (clo_all (k := 2) (by kernel_rfl)) ck2_clo (show 1 ≤ 2 by decide) (by kernel_rfl) (by kernel_rfl) (by kernel_rfl) (by kernel_rfl)) ?_
    exact hr.mono fun e af h => fin _ _ e af eL.symm (by rw [eL]; unfold wordOf; rw [List.map_append, List.map_cons, hb]; rfl) h
  · have eL : outF f n hd = [x] ++ outL f n hd k x (.ofNat n) := by
      unfold outF
      rw [show outL f n hd n 0 (.ofNat n) = outL f n hd (k + 1) 0 (.ofNat n) by rw [← hk], outL, if_pos ht, hx]
      simp only [hb, Bool.false_eq_true, if_false]; rfl
    have hr := outB_loop n cap f hd hn G k x (.ofNat n) [115] [x] (by omega) (Int.le_refl _) (by show (n : Int) - x ≤ k; omega) (by simp; omega) (by simp; omega)
    show Runs Tryd.prog 1 lp47 af _
    refine Runs.less less ?_
    refine Runs.less (af1 := sth (Su n cap hd x (.ofNat n) (strB [115]) (bldV 1 1)) 48 [viewZ n f, rowT [x]]) (less_seenP (clo_all (k := 2) (by kernel_rfl)) ck2_clo (show 1 ≤ 2 by decide) (by kernel_rfl) (by kernel_rfl) (by kernel_rfl) (by kernel_rfl)) ?_
    exact hr.mono fun e af h => fin _ _ e af eL.symm (by rw [eL]; unfold wordOf; rw [List.map_append, List.map_cons, hb]; rfl) h
end
end Go.Proofs.YtgnkjmgkfibipaaDoor

/- TrialSums: outcome over a list, and what its function does with each plan. -/
namespace Go.Proofs.YtgnkjmgkfibipaaDoor
set_option linter.unusedVariables false
set_option linter.unusedSimpArgs false
open Go Go.R
set_option maxRecDepth 1000000
noncomputable section

def fL (l : List Nat) (i : Nat) : Int := .ofNat (l.getD i 0)
/-- The trials for a hardness. -/
def outN (l : List Nat) (h : Nat) : List Int := outF (fL l) l.length (.ofNat h)

theorem outL_len (f : Nat → Int) (n : Nat) (hd : Int) : ∀ (k : Nat) (lo hi : Int), (outL f n hd k lo hi).length ≤ k
  | 0, lo, hi => Nat.le_refl _
  | k + 1, lo, hi => by
    unfold outL
    split
    · split
      · rename_i x _
        rw [List.length_cons]
        split
        · have := outL_len f n hd k lo (x - 1); omega
        · have := outL_len f n hd k x hi; omega
      · simp
    · simp
theorem outN_len (l : List Nat) (h : Nat) : (outN l h).length ≤ l.length := outL_len _ _ _ _ _ _

theorem outcome_at {h : AH} {q : Nat} {l : List Nat} {lv : Bool} {par : List Nat} {ty : Option TypeId} (hne : l ≠ []) (hg : h.get q = .cells (litI l) lv par ty) (hl : l.length < 100000) (G : Tries (fL l) l.length) (hd : Nat) :
    Says Tryd.prog h 47 [planV q l, i64 hd] (rowV h.next (outN l hd).length (some (.string (strB (wordOf (.ofNat hd) (outN l hd)))))) (h.new (.cells (litZ (outN l hd)) true [] (some 3))).2 := by
  cases l with
  | nil => exact absurd rfl hne
  | cons x l =>
    exact tell_new (P := Tryd.prog) (pre := []) (post := [i64 hd]) (i := q) (o := 0) (n := (x :: l).length) (s := planV q (x :: l)) (cells := intsZ (x :: l).length (fL (x :: l))) (fun cap hc => outcome_local (x :: l).length cap (fL (x :: l)) (.ofNat hd) hl (by simp) G) (litZ_len _) (litZ_plain _) (fun v h => by cases h; rfl)
      hg (fun k u hk => by rw [Nat.zero_add, litI_ints]; exact hk) (by rw [Nat.zero_add, litI_ints]; exact Nat.le_refl _) (intsZ_plain _ _) (.inl ⟨0, rfl⟩) (fun v hv => by cases hv) (fun v hv => by rw [List.mem_singleton.1 hv]; rfl)

/-! ### The function -/
structure SmS where
  least : Int
  few : Int

def sumsTo (l : List Nat) : Nat → Nat
  | 0 => 0
  | h + 1 => sumsTo l h + (outN l h).length
theorem sumsTo_le (l : List Nat) : ∀ h, sumsTo l h ≤ h * l.length
  | 0 => by simp [sumsTo]
  | h + 1 => by
    have := sumsTo_le l h
    have := outN_len l h
    rw [sumsTo, Nat.succ_mul]
    omega
noncomputable def byA12 (y : Nat → Nat) : AObj := .cells ((List.range 12).map fun i => .int .u8 (.ofNat (y i))) true [] (some 60)
theorem byA12_plain (y : Nat → Nat) : ∀ v ∈ (List.range 12).map (fun i => Value.int .u8 (.ofNat (y i))), plainV v = true := fun v hv => by
  obtain ⟨i, _, rfl⟩ := List.mem_map.1 hv; rfl
end
end Go.Proofs.YtgnkjmgkfibipaaDoor

/- Plans as lists (in Lean alone): what holds of each of all plans. -/
namespace Go.Proofs.YtgnkjmgkfibipaaDoor
set_option linter.unusedVariables false
set_option linter.unusedSimpArgs false
open Go Go.R
noncomputable section

/-! ### What a plan is made of -/
theorem plansF_ind {M : Nat → Nat → List Nat → Prop} (h0 : ∀ low, M low 0 []) (h1 : ∀ low i j a c, M low i a → M (low + 1 + i) j c → M low (i + j + 1) ((low + 1 + i) :: (a ++ c))) :
    ∀ (f low n : Nat) (p : List Nat × Nat × Nat), p ∈ plansF f low n → M low n p.1
  | 0, low, n, p, h => by cases h
  | f + 1, low, 0, p, h => by
    rw [plansF, List.mem_singleton] at h
    subst h
    exact h0 low
  | f + 1, low, n + 1, p, h => by
    rw [plansF] at h
    obtain ⟨i, hi, h⟩ := List.mem_flatMap.1 h
    obtain ⟨a, ha, h⟩ := List.mem_flatMap.1 h
    obtain ⟨c, hc, rfl⟩ := List.mem_map.1 h
    have hin := List.mem_range.1 hi
    have := h1 low i (n - i) a.1 c.1 (plansF_ind h0 h1 f low i a ha) (plansF_ind h0 h1 f (low + 1 + i) (n - i) c hc)
    rw [show i + (n - i) + 1 = n + 1 by omega] at this
    exact this

/-- Three numbers of which the middle one comes first, then the greatest, then the smallest: none. -/
def NoT : List Nat → Prop
  | [] => True
  | x :: l => l.Pairwise (fun y w => ¬ (w < x ∧ x < y)) ∧ NoT l
theorem NoT_app : ∀ {a c : List Nat}, NoT a → NoT c → (∀ x ∈ a, ∀ w ∈ c, x < w) → NoT (a ++ c)
  | [], c, _, hc, _ => hc
  | x :: a, c, ha, hc, hlt => by
    refine ⟨List.pairwise_append.2 ⟨ha.1, ?_, fun y hy w hw h => ?_⟩, NoT_app ha.2 hc fun y hy => hlt y (List.mem_cons_of_mem _ hy)⟩
    · exact List.Pairwise.imp_of_mem (R := fun _ _ => True) (fun {y w} hy hw _ h => by have := hlt x List.mem_cons_self w hw; omega) (List.pairwise_of_forall fun _ _ => trivial)
    · have := hlt x List.mem_cons_self w hw
      omega

structure Good (low n : Nat) (l : List Nat) : Prop where
  len : l.length = n
  lo : ∀ x ∈ l, low < x
  hi : ∀ x ∈ l, x ≤ low + n
  all : ∀ x, low < x → x ≤ low + n → x ∈ l
  nd : l.Nodup
  nt : NoT l

theorem good_of {f low n : Nat} {p : List Nat × Nat × Nat} (h : p ∈ plansF f low n) : Good low n p.1 := by
  refine plansF_ind (M := Good) (fun low => ⟨rfl, fun x h => (by cases h), fun x h => (by cases h), fun x h1 h2 => (by omega), List.nodup_nil, trivial⟩) (fun low i j a c A C => ?_) f low n p h
  refine ⟨?_, fun x hx => ?_, fun x hx => ?_, fun x h1 h2 => ?_, ?_, ?_⟩
  · simp only [List.length_cons, List.length_append, A.len, C.len]
  · rcases List.mem_cons.1 hx with rfl | hx
    · omega
    · rcases List.mem_append.1 hx with hx | hx
      · exact A.lo x hx
      · have := C.lo x hx; omega
  · rcases List.mem_cons.1 hx with rfl | hx
    · omega
    · rcases List.mem_append.1 hx with hx | hx
      · have := A.hi x hx; omega
      · have := C.hi x hx; omega
  · rcases Nat.lt_trichotomy x (low + 1 + i) with h | h | h
    · exact List.mem_cons_of_mem _ (List.mem_append.2 (.inl (A.all x h1 (by omega))))
    · rw [h]; exact List.mem_cons_self
    · exact List.mem_cons_of_mem _ (List.mem_append.2 (.inr (C.all x h (by omega))))
  · refine List.nodup_cons.2 ⟨fun hm => ?_, List.nodup_append.2 ⟨A.nd, C.nd, fun x hx y hy e => ?_⟩⟩
    · rcases List.mem_append.1 hm with hm | hm
      · have := A.hi _ hm; omega
      · have := C.lo _ hm; omega
    · have := A.hi x hx
      have := C.lo y hy
      omega
  · have cross : ∀ x ∈ a, ∀ w ∈ c, x < w := fun x hx w hw => by have := A.hi x hx; have := C.lo w hw; omega
    refine ⟨List.pairwise_append.2 ⟨?_, ?_, fun y hy w hw h => ?_⟩, NoT_app A.nt C.nt cross⟩
    · exact List.Pairwise.imp_of_mem (R := fun _ _ => True) (fun {y w} hy hw _ h => by have := A.hi y hy; omega) (List.pairwise_of_forall fun _ _ => trivial)
    · exact List.Pairwise.imp_of_mem (R := fun _ _ => True) (fun {y w} hy hw _ h => by have := C.lo w hw; omega) (List.pairwise_of_forall fun _ _ => trivial)
    · have := C.lo w hw; omega

theorem fL_at {l : List Nat} {i : Nat} (h : i < l.length) : fL l i = ((l[i] : Nat) : Int) := by
  unfold fL
  rw [List.getD_eq_getElem?_getD, List.getElem?_eq_getElem h]
  rfl

theorem NoT_at : ∀ {l : List Nat}, NoT l → ∀ (z y x : Nat) (hx : x < l.length) (h1 : z < y) (h2 : y < x), ¬ (l[x] < l[z] ∧ l[z] < l[y])
  | [], _, z, y, x, hx, _, _ => by cases hx
  | u :: l, h, 0, y, x, hx, h1, h2 => by
    obtain ⟨y, rfl⟩ : ∃ k, y = k + 1 := ⟨y - 1, by omega⟩
    obtain ⟨x, rfl⟩ : ∃ k, x = k + 1 := ⟨x - 1, by omega⟩
    have := List.pairwise_iff_getElem.1 h.1 y x (by simp at hx; omega) (by simpa using hx) (by omega)
    simpa using this
  | u :: l, h, z + 1, y, x, hx, h1, h2 => by
    obtain ⟨y, rfl⟩ : ∃ k, y = k + 1 := ⟨y - 1, by omega⟩
    obtain ⟨x, rfl⟩ : ∃ k, x = k + 1 := ⟨x - 1, by omega⟩
    have := NoT_at h.2 z y x (by simpa using hx) (by omega) (by omega)
    simpa using this

theorem nd_inj {l : List Nat} (h : l.Nodup) {a b : Nat} (ha : a < l.length) (hb : b < l.length) (e : l[a] = l[b]) : a = b := by
  have hp := List.pairwise_iff_getElem.1 h
  rcases Nat.lt_trichotomy a b with q | q | q
  · exact absurd e (hp a b ha hb q)
  · exact q
  · exact absurd e.symm (hp b a hb ha q)

theorem good_perm {n : Nat} {l : List Nat} (G : Good 0 n l) : PermF (fL l) n where
  lo := fun a ha => by
    have h := G.len ▸ ha
    rw [fL_at h]
    have := G.lo _ (List.getElem_mem h)
    omega
  hi := fun a ha => by
    have h := G.len ▸ ha
    rw [fL_at h]
    have := G.hi _ (List.getElem_mem h)
    omega
  inj := fun a b ha hb e => by
    have h1 := G.len ▸ ha
    have h2 := G.len ▸ hb
    rw [fL_at h1, fL_at h2] at e
    exact nd_inj G.nd h1 h2 (Int.ofNat.inj e)

/-- A plan passes the check. -/
theorem good_check {n : Nat} {l : List Nat} (G : Good 0 n l) (hn : n ≤ 12) : chkN (fL l) n = 0 := by
  rw [chk_perm (good_perm G) hn]
  cases ht : triI (fL l) n n 0 false with
  | false => rfl
  | true =>
    obtain ⟨z, y, x, _, h1, h2, h3, h4, h5⟩ := ((triI_iff (fL l) n n 0 false (by omega)).1 ht).resolve_left (by simp)
    have hx : x < l.length := by rw [G.len]; exact h3
    rw [fL_at hx, fL_at (show z < l.length by omega)] at h4
    rw [fL_at (show z < l.length by omega), fL_at (show y < l.length by omega)] at h5
    exact absurd ⟨Int.ofNat_lt.1 h4, Int.ofNat_lt.1 h5⟩ (NoT_at G.nt z y x hx h1 h2)

/-! ### outcome and what is followed -/
theorem firstIn_some (f : Nat → Int) (lo hi : Int) : ∀ d i j, i ≤ j → j < i + d → lo < f j → f j ≤ hi → firstIn f lo hi d i ≠ none
  | 0, i, j, h1, h2, _, _ => by omega
  | d + 1, i, j, h1, h2, h3, h4 => by
    unfold firstIn
    by_cases hc : (ltF lo (f i) && leF (f i) hi) = true
    · rw [if_pos hc]; simp
    · rw [if_neg hc]
      have : j ≠ i := fun e => hc (by rw [← e, Bool.and_eq_true]; exact ⟨ltF_iff.2 h3, by rw [leF_eq, decide_eq_true_eq]; exact h4⟩)
      exact firstIn_some f lo hi d (i + 1) j (by omega) (by omega) h3 h4

theorem good_tries {n : Nat} {l : List Nat} (G : Good 0 n l) : Tries (fL l) l.length := fun lo hi h0 h1 h2 => by
  obtain ⟨x, rfl⟩ := Int.eq_ofNat_of_zero_le (show 0 ≤ hi by omega)
  have hn := G.len
  have hx : x ∈ l := G.all x (by omega) (by omega)
  obtain ⟨j, hj, e⟩ := List.mem_iff_getElem.1 hx
  exact firstIn_some _ _ _ _ 0 j (Nat.zero_le _) (by omega) (by rw [fL_at hj, e]; exact h1) (by rw [fL_at hj, e]; exact Int.le_refl _)

theorem firstIn_skip (f : Nat → Int) (lo hi : Int) : ∀ i d, (∀ j, j < i → ¬ (lo < f j ∧ f j ≤ hi)) → ∀ s, s ≤ i → firstIn f lo hi (i - s + d) s = firstIn f lo hi d i := by
  intro i d hno s
  generalize hk : i - s = k
  induction k generalizing s with
  | zero => intro hs; have : s = i := by omega
            subst this; rw [Nat.zero_add]
  | succ k ih =>
    intro hs
    rw [show k + 1 + d = (k + d) + 1 by omega, firstIn, if_neg]
    · exact ih (s + 1) (by omega) (by omega)
    · intro hc
      rw [Bool.and_eq_true, leF_eq, decide_eq_true_eq] at hc
      exact hno s (by omega) ⟨ltF_iff.1 hc.1, hc.2⟩

theorem out_fol (f : Nat → Int) (n : Nat) (hd : Int) (T : Tries f n) : ∀ (d i : Nat) (lo hi : Int) (k : Nat), i + d = n → (∀ j, j < i → ¬ (lo < f j ∧ f j ≤ hi)) → hi - lo ≤ (k : Int) → 0 ≤ lo → hi ≤ n → outL f n hd k lo hi = folF f hd d i lo hi := by
  intro d
  induction d with
  | zero =>
    intro i lo hi k h1 hno hk h0 hn
    have hle : hi ≤ lo := by
      by_cases h : lo < hi
      · exfalso
        have hf := firstIn_skip f lo hi i 0 hno 0 (Nat.zero_le _)
        rw [Nat.sub_zero, Nat.add_zero, show i = n by omega] at hf
        exact T lo hi h0 h hn (hf.trans rfl)
      · omega
    cases k with
    | zero => rfl
    | succ k =>
      rw [outL, if_neg (by rw [ltF_not.2 hle]; simp)]
      rfl
  | succ d ih =>
    intro i lo hi k h1 hno hk h0 hn
    by_cases hc : lo < f i ∧ f i ≤ hi
    · obtain ⟨k, rfl⟩ : ∃ j, k = j + 1 := ⟨k - 1, by omega⟩
      have hf := firstIn_skip f lo hi i (d + 1) hno 0 (Nat.zero_le _)
      rw [Nat.sub_zero, show i + (d + 1) = n by omega] at hf
      have hfi : firstIn f lo hi (d + 1) i = some (f i) := by
        rw [firstIn, if_pos (by rw [Bool.and_eq_true, leF_eq, decide_eq_true_eq]; exact ⟨ltF_iff.2 hc.1, hc.2⟩)]
      rw [outL, if_pos (ltF_iff.2 (by omega)), hf, hfi]
      have hr : (leF (f i) lo || ltF hi (f i)) = false := by
        rw [Bool.or_eq_false_iff]
        exact ⟨by rw [leF_eq, decide_eq_false_iff_not]; omega, ltF_not.2 hc.2⟩
      simp only
      cases hb : ltF hd (f i) with
      | true =>
        rw [folF_blunt hr hb]
        simp only [if_true]
        rw [ih (i + 1) lo (f i - 1) k (by omega) (fun j hj h => by
          by_cases e : j = i
          · rw [e] at h; omega
          · exact hno j (by omega) ⟨h.1, by omega⟩) (by omega) h0 (by omega)]
      | false =>
        rw [folF_sharp hr hb]
        simp only [Bool.false_eq_true, if_false]
        rw [ih (i + 1) (f i) hi k (by omega) (fun j hj h => by
          by_cases e : j = i
          · rw [e] at h; omega
          · exact hno j (by omega) ⟨by omega, h.2⟩) (by omega) (by omega) hn]
    · have hr : (leF (f i) lo || ltF hi (f i)) = true := by
        rw [Bool.or_eq_true]
        by_cases h : lo < f i
        · exact .inr (ltF_iff.2 (by omega))
        · exact .inl (by rw [leF_eq, decide_eq_true_eq]; omega)
      rw [folF_skip hr]
      exact ih (i + 1) lo hi k (by omega) (fun j hj h => by
        by_cases e : j = i
        · rw [e] at h; exact hc h
        · exact hno j (by omega) h) hk h0 hn

theorem outN_run {n : Nat} {l : List Nat} (G : Good 0 n l) (h : Nat) : outN l h = runF (fL l) n (.ofNat h) := by
  have := out_fol (fL l) l.length (.ofNat h) (good_tries G) l.length 0 0 (.ofNat l.length) l.length (by omega) (fun j hj => by omega) (by show ((l.length : Nat) : Int) - 0 ≤ _; omega) (Int.le_refl _) (Int.le_refl _)
  unfold outN outF runF
  rw [this, G.len]
theorem word_run {n : Nat} {l : List Nat} (G : Good 0 n l) (h : Nat) : wordOf (.ofNat h) (outN l h) = wordF (fL l) n (.ofNat h) := by
  rw [outN_run G]
  rfl
end
end Go.Proofs.YtgnkjmgkfibipaaDoor
