/- TrialPriced: what its function does with each plan, as a contract. -/
import Derived.Test.YtgnkjmgkfibipaaDoorSPricedKG14
import Derived.Test.YtgnkjmgkfibipaaDoorSPricedKG11
import Derived.Test.YtgnkjmgkfibipaaDoorSPricedKRest
namespace Go.Proofs.YtgnkjmgkfibipaaDoor
set_option linter.unusedVariables false
set_option linter.unusedSimpArgs false
open Go Go.R
set_option maxRecDepth 1000000
noncomputable section

noncomputable def pcB (n t b : Nat) (s : PcS) (q : Nat) : List AObj := [boxI n, boxI t, boxI b, boxZ s.least, boxS (planV q s.first)]
noncomputable def pcS (n t b : Nat) (s : PcS) : List AObj := pcB n t b s 5 ++ [planO (some 3) s.first]
def pcPs : List Nat := [0, 1, 2, 3, 4]

/-- The state again, its row wherever it lies. -/
theorem pcS_is {n t b : Nat} {s : PcS} {h : AH} {q : Nat} (h1 : 5 ≤ q) (hb : (List.range 5).map h.get = pcB n t b s q) (r : h.get q = planO (some 3) s.first) : StIs 5 (pcS n t b s) h := by
  have hl : (pcS n t b s).length = 6 := rfl
  let ρ : Nat → Nat := fun j => if j < 5 then j else if j = 5 then q else j
  have lo : ∀ {j}, j < 5 → ρ j = j := fun hj => if_pos hj
  have e5 : ρ 5 = q := rfl
  have get : ∀ j o, j < 5 → (pcB n t b s q)[j]? = some o → h.get j = o := fun j o hj ho => by
    have := congrArg (fun l : List AObj => l[j]?) hb
    simp only [List.getElem?_map, List.getElem?_range hj, Option.map_some, ho, Option.some.injEq] at this
    exact this
  refine ⟨ρ, fun j hj => lo hj, fun i j hi hj e => ?_, fun j o ho => ?_, fun i j hi hj hne c lv p ty hg => ?_⟩
  · rw [hl] at hi hj
    have cs : ∀ {i}, i < 6 → i < 5 ∨ i = 5 := fun hi => by omega
    rcases cs hi with a | rfl <;> rcases cs hj with c | rfl
    · rwa [lo a, lo c] at e
    · rw [lo a, e5] at e; omega
    · rw [e5, lo c] at e; omega
    · rfl
  · match j, ho with
    | 0, ho => cases ho; rw [lo (by decide), get 0 _ (by decide) rfl]; exact renO_one (ren_int _)
    | 1, ho => cases ho; rw [lo (by decide), get 1 _ (by decide) rfl]; exact renO_one (ren_int _)
    | 2, ho => cases ho; rw [lo (by decide), get 2 _ (by decide) rfl]; exact renO_one (ren_int _)
    | 3, ho => cases ho; rw [lo (by decide), get 3 _ (by decide) rfl]; exact renO_one (ren_int _)
    | 4, ho => cases ho; rw [lo (by decide), get 4 _ (by decide) rfl]; exact renO_one (ren_planV (by rw [hl]; decide) e5 _)
    | 5, ho =>
      cases ho
      rw [e5]
      have r' := r
      revert r'
      cases s.first with
      | nil => intro _; unfold planO; cases h.get q <;> trivial
      | cons y l => exact fun r' => RenO.row r' (litI_plain (y :: l)) (fun _ => rfl) (.inr rfl)
    | j + 6, ho => cases ho
  · rw [hl] at hi
    have cs : i < 5 ∨ i = 5 := by omega
    rcases cs with a | rfl
    · rw [lo a] at hg
      match i, a with
      | 0, _ => rw [get 0 _ (by decide) rfl] at hg; cases hg; intro h; cases h
      | 1, _ => rw [get 1 _ (by decide) rfl] at hg; cases hg; intro h; cases h
      | 2, _ => rw [get 2 _ (by decide) rfl] at hg; cases hg; intro h; cases h
      | 3, _ => rw [get 3 _ (by decide) rfl] at hg; cases hg; intro h; cases h
      | 4, _ => rw [get 4 _ (by decide) rfl] at hg; cases hg; intro h; cases h
    · rw [e5, r] at hg
      revert hg
      cases s.first with
      | nil => intro hg; cases hg
      | cons y l => intro hg; cases hg; intro h; cases h

noncomputable def c56 : Code := bodyOf Tryd.f56
noncomputable def lp56 : Code := within (tl (hd (behind 1 c56)))
noncomputable def S56 (l : List Nat) (n p h : Nat) : List (Nat × Value) := [(0, planV 6 l), (3, ptrC 0), (4, ptrC 1), (5, ptrC 2), (6, ptrC 3), (7, ptrC 4), (11, i64 p), (16, i64 (n + 1)), (17, i64 h)]
noncomputable def pc6 (n t b : Nat) (s : PcS) (l : List Nat) : List AObj := pcS n t b s ++ [planO (some 3) l]
theorem S56_clo (l : List Nat) (n p h : Nat) : ∀ q ∈ S56 l n p h, Clo 7 q.2 := fun q hq => by
  simp only [S56, List.mem_cons, List.mem_nil_iff, or_false] at hq
  rcases hq with rfl | rfl | rfl | rfl | rfl | rfl | rfl | rfl | rfl
  · exact planV_clo (by decide) l
  all_goals exact clo_of 10 7 _ (by kernel_rfl)
theorem pc6_clo {n t b : Nat} {s : PcS} {l : List Nat} : ∀ o ∈ pc6 n t b s l, CloO 7 o := fun o ho => by
  simp only [pc6, pcS, pcB, List.mem_append, List.mem_cons, List.mem_nil_iff, or_false] at ho
  rcases ho with ((rfl | rfl | rfl | rfl | rfl) | rfl) | rfl
  · exact cloO_one (clo_plain rfl) _
  · exact cloO_one (clo_plain rfl) _
  · exact cloO_one (clo_plain rfl) _
  · exact cloO_one (clo_plain rfl) _
  · exact cloO_one (planV_clo (by decide) _) _
  · exact planO_plain _ _
  · exact planO_plain _ _

def pT (t b : Nat) (l : List Nat) (h : Nat) : Nat := topTo (fun h => costW t b h (outN l h)) h
theorem blunt_le (h : Nat) (w : List Int) : bluntN h w ≤ w.length := List.length_filter_le _ _
theorem costW_le {t b n h : Nat} {w : List Int} (ht : t ≤ 50) (hb : b ≤ 50) (hw : w.length ≤ n) (hn : n < 100) : t * w.length ≤ 5000 ∧ b * bluntN h w ≤ 5000 := by
  have := blunt_le h w
  exact ⟨Nat.mul_le_mul ht (by omega : w.length ≤ 100), Nat.mul_le_mul hb (by omega : bluntN h w ≤ 100)⟩
theorem pT_le {t b n : Nat} {l : List Nat} (ht : t ≤ 50) (hb : b ≤ 50) (hl : l.length = n) (hn : n < 100) : ∀ h, pT t b l h ≤ 10000
  | 0 => Nat.zero_le _
  | h + 1 => by
    have h1 := pT_le ht hb hl hn h
    have h2 := costW_le (h := h) ht hb (hl ▸ outN_len l h) hn
    show max (pT t b l h) (costW t b h (outN l h)) ≤ 10000
    unfold costW
    omega

section
variable {n t b : Nat} {s : PcS} {l : List Nat}

noncomputable def wB (l : List Nat) (h : Nat) : ByteArray := strB (wordOf (.ofNat h) (outN l h))
theorem wB_size (l : List Nat) (h : Nat) : (wB l h).size = (outN l h).length := by
  unfold wB
  rw [strB_size]
  exact List.length_map _
theorem wB_cnt (l : List Nat) (h : Nat) : cntB (wB l h).data.toList 98 0 = bluntN h (outN l h) := by
  unfold wB
  rw [cnt_word, Nat.zero_add]

theorem pc_round (hl : l.length = n) (hn : n < 100) (ht : t ≤ 50) (hb : b ≤ 50) (G : l ≠ [] → Tries (fL l) l.length) {h : Nat} (hh : h < n + 1) {Q : AExit → AF → Prop}
    (k : Runs Tryd.prog 5 lp56 (sth (S56 l n (pT t b l (h + 1)) (h + 1)) 47 (pc6 n t b s l)) Q) : Runs Tryd.prog 5 lp56 (sth (S56 l n (pT t b l h) h) 47 (pc6 n t b s l)) Q := by
  have hc := costW_le (h := h) ht hb (hl ▸ outN_len l h) hn
  have hpT := pT_le ht hb hl hn h
  have e2 : wrapF .i64 (Int.add (.ofNat h) (.ofNat 1)) = .ofNat (h + 1) := wrap_addN (by omega)
  have m1 : Value.int .i64 (wrapF .i64 (Int.mul (.ofNat t) (.ofNat (wB l h).size))) = i64 (t * (outN l h).length) := by rw [wB_size, f_mul (by omega)]; rfl
  have m2 : Value.int .i64 (wrapF .i64 (Int.mul (.ofNat b) (.ofNat (cntB (wB l h).data.toList 98 0)))) = i64 (b * bluntN h (outN l h)) := by rw [wB_cnt, f_mul (by omega)]; rfl
  have m3 : Value.int .i64 (wrapF .i64 (Int.add (.ofNat (t * (outN l h).length)) (.ofNat (b * bluntN h (outN l h))))) = i64 (costW t b h (outN l h)) := by rw [f_add (by omega)]; rfl
  have m4 : Value.int .i64 (maxV (.ofNat (pT t b l h)) (.ofNat (costW t b h (outN l h)))) = i64 (pT t b l (h + 1)) := by rw [maxV_nat]; rfl
  refine Runs.lp (by kernel_rfl) (Runs.sqR mixed hk38 [] (by kernel_rfl) (by kernel_rfl) (by kernel_rfl) oblN ?_)
  refine Runs.sq (by kernel_rfl) (Runs.cd (b := ltF (.ofNat h) (.ofNat (n + 1))) (by kernel_rfl) (fun _ => Runs.now (x := .normal) (by kernel_rfl) ?_) (fun hf => by rw [lt_of hh] at hf; cases hf))
  show Runs Tryd.prog 5 _ _ _
  refine Runs.sq (by kernel_rfl) (Runs.bk (id := 1) (by kernel_rfl) (Runs.sqR mixed hk38 [] (by kernel_rfl) (by kernel_rfl) (by kernel_rfl) oblN ?_))
  cases l with
  | nil =>
    refine Runs.sqR mixed hk38 [viaC 2 47 [.slice none 0 0, i64 h] (.tuple #[.slice none 0 0, .string (wB [] h)])] (by kernel_rfl) (by kernel_rfl) (by kernel_rfl) (oblC (shown_callE (h0 := hp (pc6 n t b s [])) (by kernel_rfl) (by kernel_rfl) (outcome_nil h _)) oblN) ?_
    refine Runs.rgD mixed hk38 [viaV 4 (i64 (t * (outN [] h).length)), viaC 7 50 [.string (wB [] h), strb] (.int .i64 (cntB (wB [] h).data.toList 98 0 : Nat)), viaV 8 (i64 (b * bluntN h (outN [] h))), viaV 9 (i64 (costW t b h (outN [] h))), viaV 10 (i64 (pT t b [] (h + 1)))] [(1, 12), (3, 12), (5, 12)] (by kernel_rfl) (by kernel_rfl) (by kernel_rfl) (by kernel_rfl)
      (oblC (shown_eq (v := .int .i64 (wrapF .i64 (Int.mul (.ofNat t) (.ofNat (wB [] h).size)))) (by kernel_rfl) (by kernel_rfl) m1)
      (oblC (shown_callE (h0 := hp (pc6 n t b s [])) (by kernel_rfl) (by kernel_rfl) (count_says _ _))
      (oblC (shown_eq (v := .int .i64 (wrapF .i64 (Int.mul (.ofNat b) (.ofNat (cntB (wB [] h).data.toList 98 0))))) (by kernel_rfl) (by kernel_rfl) m2)
      (oblC (shown_eq (v := .int .i64 (wrapF .i64 (Int.add (.ofNat (t * (outN [] h).length)) (.ofNat (b * bluntN h (outN [] h)))))) (by kernel_rfl) (by kernel_rfl) m3)
      (oblC (shown_eq (v := .int .i64 (maxV (.ofNat (pT t b [] h)) (.ofNat (costW t b h (outN [] h))))) (by kernel_rfl) (by kernel_rfl) m4) oblN)))))
      (dynC (dyn_at' (d := 27) (v := i64 t) (by kernel_rfl) (by kernel_rfl) (by kernel_rfl)) (dynC (dyn_at' (d := 29) (v := .int .i64 (.ofNat (wB [] h).size)) (by kernel_rfl) (by kernel_rfl) (by kernel_rfl)) (dynC (dyn_at' (d := 31) (v := i64 b) (by kernel_rfl) (by kernel_rfl) (by kernel_rfl)) dynN))) ?_
    show Runs Tryd.prog 5 _ _ _
    refine Runs.rg mixed hk38 [viaV 0 (i64 (h + 1))] (by kernel_rfl) (by kernel_rfl) (by kernel_rfl) (oblC (shown_eq (v := .int .i64 (wrapF .i64 (Int.add (.ofNat h) (.ofNat 1)))) (by kernel_rfl) (by kernel_rfl) (by rw [e2]; rfl)) oblN) ?_
    show Runs Tryd.prog 5 lp56 _ _
    exact Runs.less (less_seenP (S56_clo _ _ _ _) pc6_clo (show 5 ≤ 7 by decide) (by kernel_rfl) (by kernel_rfl) (by kernel_rfl) (by kernel_rfl)) k
  | cons x l =>
    refine Runs.sqR mixed hk38 [viaH 2 47 [planV 6 (x :: l), i64 h] (rowV 7 (outN (x :: l) h).length (some (.string (wB (x :: l) h)))) ((hp (pc6 n t b s (x :: l))).new (.cells (litZ (outN (x :: l) h)) true [] (some 3))).2] (by kernel_rfl) (by kernel_rfl) (by kernel_rfl)
      (oblC (shown_callHE (h0 := hp (pc6 n t b s (x :: l))) (by kernel_rfl) (by kernel_rfl) (outcome_at (lv := true) (par := []) (ty := some 3) (by simp) (by kernel_rfl) (by rw [hl]; omega) (G (by simp)) h)) oblN) ?_
    refine Runs.rgD mixed hk38 [viaV 4 (i64 (t * (outN (x :: l) h).length)), viaC 7 50 [.string (wB (x :: l) h), strb] (.int .i64 (cntB (wB (x :: l) h).data.toList 98 0 : Nat)), viaV 8 (i64 (b * bluntN h (outN (x :: l) h))), viaV 9 (i64 (costW t b h (outN (x :: l) h))), viaV 10 (i64 (pT t b (x :: l) (h + 1)))] [(1, 12), (3, 12), (5, 12)] (by kernel_rfl) (by kernel_rfl) (by kernel_rfl) (by kernel_rfl)
      (oblC (shown_eq (v := .int .i64 (wrapF .i64 (Int.mul (.ofNat t) (.ofNat (wB (x :: l) h).size)))) (by kernel_rfl) (by kernel_rfl) m1)
      (oblC (shown_callE (h0 := ((hp (pc6 n t b s (x :: l))).new (.cells (litZ (outN (x :: l) h)) true [] (some 3))).2) (by kernel_rfl) (by kernel_rfl) (count_says _ _))
      (oblC (shown_eq (v := .int .i64 (wrapF .i64 (Int.mul (.ofNat b) (.ofNat (cntB (wB (x :: l) h).data.toList 98 0))))) (by kernel_rfl) (by kernel_rfl) m2)
      (oblC (shown_eq (v := .int .i64 (wrapF .i64 (Int.add (.ofNat (t * (outN (x :: l) h).length)) (.ofNat (b * bluntN h (outN (x :: l) h)))))) (by kernel_rfl) (by kernel_rfl) m3)
      (oblC (shown_eq (v := .int .i64 (maxV (.ofNat (pT t b (x :: l) h)) (.ofNat (costW t b h (outN (x :: l) h))))) (by kernel_rfl) (by kernel_rfl) m4) oblN)))))
      (dynC (dyn_at' (d := 27) (v := i64 t) (by kernel_rfl) (by kernel_rfl) (by kernel_rfl)) (dynC (dyn_at' (d := 29) (v := .int .i64 (.ofNat (wB (x :: l) h).size)) (by kernel_rfl) (by kernel_rfl) (by kernel_rfl)) (dynC (dyn_at' (d := 31) (v := i64 b) (by kernel_rfl) (by kernel_rfl) (by kernel_rfl)) dynN))) ?_
    show Runs Tryd.prog 5 _ _ _
    refine Runs.rg mixed hk38 [viaV 0 (i64 (h + 1))] (by kernel_rfl) (by kernel_rfl) (by kernel_rfl) (oblC (shown_eq (v := .int .i64 (wrapF .i64 (Int.add (.ofNat h) (.ofNat 1)))) (by kernel_rfl) (by kernel_rfl) (by rw [e2]; rfl)) oblN) ?_
    show Runs Tryd.prog 5 lp56 _ _
    exact Runs.less (less_seenP (S56_clo _ _ _ _) pc6_clo (show 5 ≤ 7 by decide) (by kernel_rfl) (by kernel_rfl) (by kernel_rfl) (by kernel_rfl)) k

theorem pc_rounds (hl : l.length = n) (hn : n < 100) (ht : t ≤ 50) (hb : b ≤ 50) (G : l ≠ [] → Tries (fL l) l.length) {Q : AExit → AF → Prop}
    (k : Runs Tryd.prog 5 lp56 (sth (S56 l n (pT t b l (n + 1)) (n + 1)) 47 (pc6 n t b s l)) Q) : ∀ d h, h + d = n + 1 → Runs Tryd.prog 5 lp56 (sth (S56 l n (pT t b l h) h) 47 (pc6 n t b s l)) Q := by
  intro d
  induction d with
  | zero => intro h hh; have : h = n + 1 := by omega
            subst this; exact k
  | succ d ih =>
    intro h hh
    exact pc_round hl hn ht hb G (by omega) (ih (h + 1) (by omega))

def EndPc (n t b : Nat) (s : PcS) : AExit → AF → Prop := EndsAs Tryd.prog Tryd.f56 fun v h' => v = .tuple #[] ∧ StIs 5 (pcS n t b s) h'
theorem endPc {n t b : Nat} {s : PcS} {x : AExit} {af : AF} (hx : x = .normal ∨ x = .ret) (h : StIs 5 (pcS n t b s) af.h) : EndPc n t b s x af := ⟨hx, [], by kernel_rfl, rfl, h⟩

theorem pc_local {u d : Nat} (hl : l.length = n) (hn : n < 100) (ht : t ≤ 50) (hb : b ≤ 50) (G : l ≠ [] → Tries (fL l) l.length) :
    Local Tryd.prog 5 56 (planV 6 l :: .int .i64 (.ofNat u) :: .int .i64 (.ofNat d) :: capsAt pcPs) (hp (pcS n t b s ++ [planO (some 3) l])) fun v h' => v = .tuple #[] ∧ StIs 5 (pcS n t b (pcStep t b n s l u d)) h' := by
  refine local_of noNum Tryd.func56 (show Tryd.f56.body = some c56 by kernel_rfl) ?_
  show Runs Tryd.prog 5 c56 _ (EndPc n t b _)
  have e2 : wrapF .i64 (Int.add (.ofNat n) (.ofNat 1)) = .ofNat (n + 1) := wrap_addN (by omega)
  refine Runs.sqR mixed hk38 [] (by kernel_rfl) (by kernel_rfl) (by kernel_rfl) oblN ?_
  refine Runs.sq (by kernel_rfl) (Runs.sqR mixed hk38 [viaV 1 (i64 (n + 1))] (by kernel_rfl) (by kernel_rfl) (by kernel_rfl) (oblC (shown_eq (v := .int .i64 (wrapF .i64 (Int.add (.ofNat n) (.ofNat 1)))) (by kernel_rfl) (by kernel_rfl) (by rw [e2]; rfl)) oblN) (Runs.bk (id := 0) (by kernel_rfl) ?_))
  refine Runs.less (af1 := sth (S56 l n (pT t b l 0) 0) 47 (pc6 n t b s l)) (less_seenP (S56_clo _ _ _ _) pc6_clo (show 5 ≤ 7 by decide) (by kernel_rfl) (by kernel_rfl) (by kernel_rfl) (by kernel_rfl)) ?_
  show Runs Tryd.prog 5 lp56 _ _
  refine pc_rounds hl hn ht hb G ?_ (n + 1) 0 (by omega)
  refine Runs.lp (by kernel_rfl) (Runs.sqR mixed hk38 [] (by kernel_rfl) (by kernel_rfl) (by kernel_rfl) oblN ?_)
  refine Runs.sq (by kernel_rfl) (Runs.cd (b := ltF (.ofNat (n + 1)) (.ofNat (n + 1))) (by kernel_rfl) (fun ht => by rw [lt_self] at ht; cases ht) (fun _ => Runs.now (x := .exit 0) (by kernel_rfl) ?_))
  show Runs Tryd.prog 5 _ _ (EndPc n t b (bif ltF s.least 0 || ltF (.ofNat (pT t b l (n + 1))) s.least then ⟨.ofNat (pT t b l (n + 1)), l⟩ else s))
  generalize hP : pT t b l (n + 1) = p
  cases h1 : ltF s.least 0 with
  | true =>
    refine Runs.sqR mixed hk38 [viaV 1 (.bool true)] (by kernel_rfl) (by kernel_rfl) (by kernel_rfl) (oblC (shown_eq (v := .bool (ltF s.least 0)) (by kernel_rfl) (by kernel_rfl) (by rw [h1])) oblN) ?_
    refine Runs.cd (b := true) (by kernel_rfl) (fun _ => ?_) (fun h => by cases h)
    clear hP hl G
    cases l with
    | nil =>
      refine Runs.rg mixed hk38 [] (by kernel_rfl) (by kernel_rfl) (by kernel_rfl) oblN ?_
      exact endPc (.inl rfl) (pcS_is (q := 6) (by decide) (by kernel_rfl) (by kernel_rfl))
    | cons x l =>
      refine Runs.rg mixed hk38 [] (by kernel_rfl) (by kernel_rfl) (by kernel_rfl) oblN ?_
      exact endPc (.inl rfl) (pcS_is (q := 6) (by decide) (by kernel_rfl) (by kernel_rfl))
  | false =>
    refine Runs.sqR mixed hk38 [viaV 1 (.bool false)] (by kernel_rfl) (by kernel_rfl) (by kernel_rfl) (oblC (shown_eq (v := .bool (ltF s.least 0)) (by kernel_rfl) (by kernel_rfl) (by rw [h1])) oblN) ?_
    refine Runs.cd (b := ltF (.ofNat p) s.least) (by kernel_rfl) (fun h2 => ?_) (fun h2 => Runs.now (x := .normal) (by kernel_rfl) ?_)
    · rw [h2]
      clear hP hl G
      cases l with
      | nil =>
        refine Runs.rg mixed hk38 [] (by kernel_rfl) (by kernel_rfl) (by kernel_rfl) oblN ?_
        exact endPc (.inl rfl) (pcS_is (q := 6) (by decide) (by kernel_rfl) (by kernel_rfl))
      | cons x l =>
        refine Runs.rg mixed hk38 [] (by kernel_rfl) (by kernel_rfl) (by kernel_rfl) oblN ?_
        exact endPc (.inl rfl) (pcS_is (q := 6) (by decide) (by kernel_rfl) (by kernel_rfl))
    · rw [h2]
      exact endPc (.inl rfl) (pcS_is (q := 5) (by decide) (by kernel_rfl) (by kernel_rfl))
end
end
end Go.Proofs.YtgnkjmgkfibipaaDoor

/- TrialPriced: all plans for its numbers, and its run. -/
namespace Go.Proofs.YtgnkjmgkfibipaaDoor
set_option linter.unusedVariables false
set_option linter.unusedSimpArgs false
open Go Go.R
set_option maxRecDepth 1000000
noncomputable section

theorem pc_zero_at (n t b : Nat) : ∀ i, i < 6 → (hp (pcS n t b pcZero)).get i = (hp (pcB n t b pcZero 5)).get i
  | 0, _ => by kernel_rfl
  | 1, _ => by kernel_rfl
  | 2, _ => by kernel_rfl
  | 3, _ => by kernel_rfl
  | 4, _ => by kernel_rfl
  | 5, _ => by kernel_rfl
  | i + 6, h => by omega

theorem pc_plans {n t b : Nat} (hn : n < 8) (ht : t ≤ 50) (hb : b ≤ 50) : Says Tryd.prog (hp (pcB n t b pcZero 5)) 53 [i64 0, i64 n, .func (.func 56) #[] (capsAt pcPs).toArray] (.tuple #[]) (hp (pcS n t b (pcE t b n))) := by
  refine base_call (S := pcS n t b) (P0 := fun _ => True) (m := 5) (M := 6) (s := pcZero) (pre := [i64 0, i64 n]) (fun _ => rfl) (by decide) (fun s => ?_) (ps := pcPs) (by decide) (by decide) (by decide) rfl (fun i hi => ?_) trivial
    (fun v hv => by simp only [List.mem_cons, List.mem_nil_iff, or_false] at hv; rcases hv with rfl | rfl <;> rfl) (fun μ => ?_)
  · simp only [pcS, pcB, List.all_append, List.all_cons, List.all_nil, planO_tidy]
    rfl
  · exact pc_zero_at n t b i hi
  · have := plOK n 8 (by omega) PcS (Hid.base (pcS n t b) (fun _ => True) μ 5 pcPs) (Nat.le_refl 16) 56 5 0 (by decide) (by omega) (pcStep t b n)
      (base_cb (S := pcS n t b) (m := 5) (M := 6) (fun _ => rfl) (by decide) (fun s => by
        simp only [pcS, pcB, List.all_append, List.all_cons, List.all_nil, planO_tidy]
        rfl) (by decide) (by decide) (fun s l u d hs hok => by
          have h1 := (plansF_small 8 0 n _ hok).1
          exact ⟨trivial, pc_local h1 (by omega) ht hb fun _ => good_tries (good_of hok)⟩)) pcZero
    rw [Nat.zero_add, pc_all hn] at this
    exact this

/-! ### same, at these rows -/
section
variable {b0 b1 b2 b3 b4 : AObj}
noncomputable def os7 (b0 b1 b2 b3 b4 : AObj) (l : List Nat) : List AObj := [b0, b1, b2, b3, b4, rowL l, rowL l]
noncomputable def S21b (n i : Nat) : List (Nat × Value) := [(0, rowA 6 n), (1, rowA 5 n), (5, i64 i)]
theorem s21b_clo {n i : Nat} : ∀ q ∈ S21b n i, Clo 7 q.2 := clo_all (by kernel_rfl)
theorem same_loop7 (l : List Nat) (hl : l.length < 1000000) (hc : ∀ x ∈ os7 b0 b1 b2 b3 b4 l, CloO 7 x) : ∀ d i, i + d = l.length →
    Runs Tryd.prog 7 lp21 (sth (S21b l.length i) 26 (os7 b0 b1 b2 b3 b4 l)) fun x af => x = .exit 0 ∧ Less 7 (sth (S21b l.length l.length) 26 (os7 b0 b1 b2 b3 b4 l)) af := by
  intro d
  induction d with
  | zero =>
    intro i hi
    have him : i = l.length := by omega
    subst him
    refine Runs.lp (by kernel_rfl) (Runs.sq (by kernel_rfl) (Runs.sqR mixed hk38 [] (by kernel_rfl) (by kernel_rfl) (by kernel_rfl) oblN ?_))
    refine Runs.cd (b := ltF (.ofNat l.length) (.ofNat l.length)) (by kernel_rfl) (fun ht => by rw [lt_self] at ht; cases ht) (fun _ => Runs.now (x := .exit 0) (by kernel_rfl) ⟨rfl, ?_⟩)
    exact less_seenP s21b_clo hc (Nat.le_refl 7) (by kernel_rfl) (by kernel_rfl) (by kernel_rfl) (by kernel_rfl)
  | succ d ih =>
    intro i hi
    have hlt : i < l.length := by omega
    refine Runs.lp (by kernel_rfl) (Runs.sq (by kernel_rfl) (Runs.sqR mixed hk38 [] (by kernel_rfl) (by kernel_rfl) (by kernel_rfl) oblN ?_))
    refine Runs.cd (b := ltF (.ofNat i) (.ofNat l.length)) (by kernel_rfl) (fun _ => Runs.now (x := .normal) (by kernel_rfl) ?_) (fun hf => by rw [lt_of hlt] at hf; cases hf)
    show Runs Tryd.prog 7 _ _ _
    refine Runs.sq (by kernel_rfl) (Runs.bk (id := 1) (by kernel_rfl) ?_)
    refine Runs.sqR mixed hk38 [viaV 2 (.pointer (some ⟨6, 0 + i * 1, none⟩)), viaV 3 (.int .i64 (.ofNat (l.getD i 0))), viaV 6 (.pointer (some ⟨5, 0 + i * 1, none⟩)), viaV 7 (.int .i64 (.ofNat (l.getD i 0))), viaV 8 (.bool false)] (by kernel_rfl) (by kernel_rfl) (by kernel_rfl)
      (oblC (shown_idx (n := l.length) (by kernel_rfl) hlt) (oblC (shown_cell (g := 6) (by kernel_rfl) (lit_at (l := l) (lv := true) (par := []) (ty := some 3) (by kernel_rfl) hlt))
      (oblC (shown_idx (n := l.length) (by kernel_rfl) hlt) (oblC (shown_cell (g := 5) (by kernel_rfl) (lit_at (l := l) (lv := true) (par := []) (ty := some 3) (by kernel_rfl) hlt))
      (oblC (shown_eq (v := .bool (!(eqF (.ofNat (l.getD i 0)) (.ofNat (l.getD i 0))))) (by kernel_rfl) (by kernel_rfl) (by rw [eq_self]; rfl)) oblN))))) ?_
    refine Runs.cd (b := false) (by kernel_rfl) (fun h => by cases h) (fun _ => Runs.now (x := .normal) (by kernel_rfl) ?_)
    show Runs Tryd.prog 7 _ _ _
    refine Runs.rg mixed hk38 [] (by kernel_rfl) (by kernel_rfl) (by kernel_rfl) oblN ?_
    show Runs Tryd.prog 7 lp21 _ _
    have ew : S21b l.length (i + 1) = [(0, rowA 6 l.length), (1, rowA 5 l.length), (5, .int .i64 (wrapF .i64 (Int.add (.ofNat i) (.ofNat 1))))] := by rw [wrap_succ (by omega : i < 4611686018427387904)]; rfl
    refine Runs.less (af1 := sth (S21b l.length (i + 1)) 26 (os7 b0 b1 b2 b3 b4 l)) (less_seenP s21b_clo hc (Nat.le_refl 7) ?_ (by kernel_rfl) (by kernel_rfl) (by kernel_rfl)) (ih (i + 1) (by omega))
    rw [ew]
    exact Eq.trans (Eq.refl _) (by kernel_rfl)

theorem same_at (l : List Nat) (hl : l.length < 1000000) (hc : ∀ x ∈ os7 b0 b1 b2 b3 b4 l, CloO 7 x) : Says Tryd.prog (hp (os7 b0 b1 b2 b3 b4 l)) 21 [rowA 6 l.length, rowA 5 l.length] (.bool true) (hp (os7 b0 b1 b2 b3 b4 l)) := by
  refine says_of (os := os7 b0 b1 b2 b3 b4 l) ?_ (fun x hx => ?_) hc (clo_plain rfl)
  · refine local_of noNum Tryd.func21 (show Tryd.f21.body = some c21 by kernel_rfl) ?_
    refine Runs.sqR mixed hk38 [] (by kernel_rfl) (by kernel_rfl) (by kernel_rfl) oblN ?_
    refine Runs.sq (by kernel_rfl) (Runs.sqR mixed hk38 [viaV 4 (.bool false)] (by kernel_rfl) (by kernel_rfl) (by kernel_rfl)
      (oblC (shown_eq (v := .bool (!(eqF (.ofNat l.length) (.ofNat l.length)))) (by kernel_rfl) (by kernel_rfl) (by rw [eq_self]; rfl)) oblN) ?_)
    refine Runs.cd (b := false) (by kernel_rfl) (fun h => by cases h) (fun _ => Runs.now (x := .normal) (by kernel_rfl) ?_)
    show Runs Tryd.prog 7 _ _ _
    refine Runs.sq (by kernel_rfl) (Runs.sqR mixed hk38 [] (by kernel_rfl) (by kernel_rfl) (by kernel_rfl) oblN (Runs.bk (id := 0) (by kernel_rfl) ?_))
    refine Runs.less (af1 := sth (S21b l.length 0) 26 (os7 b0 b1 b2 b3 b4 l)) (less_seenP s21b_clo hc (Nat.le_refl 7) (by kernel_rfl) (by kernel_rfl) (by kernel_rfl) (by kernel_rfl)) ?_
    refine (same_loop7 l hl hc l.length 0 (by omega)).mono fun x af hx => ?_
    obtain ⟨rfl, less⟩ := hx
    show Runs Tryd.prog 7 _ af _
    exact Runs.less less (Runs.sqR mixed hk38 [] (by kernel_rfl) (by kernel_rfl) (by kernel_rfl) oblN (Runs.now (x := .ret) (by kernel_rfl) ⟨.inr rfl, [.bool true], by kernel_rfl, rfl, keepOf (by kernel_rfl)⟩))
  · simp only [List.mem_cons, List.mem_nil_iff, or_false] at hx
    rcases hx with rfl | rfl
    · exact clo_of 10 7 _ (by kernel_rfl)
    · exact clo_of 10 7 _ (by kernel_rfl)
end
end
end Go.Proofs.YtgnkjmgkfibipaaDoor

/- TrialPriced: its run. -/
namespace Go.Proofs.YtgnkjmgkfibipaaDoor
set_option linter.unusedVariables false
set_option linter.unusedSimpArgs false
open Go Go.R
set_option maxRecDepth 1000000
noncomputable section

noncomputable def c13 : Code := bodyOf Tryd.f13
noncomputable def lp13 : Code := within (tl (hd (behind 8 c13)))
def Ends13 : AExit → AF → Prop := EndsAs Tryd.prog Tryd.f13 fun v' _ => v' = .bool true
noncomputable def L13 : List (Nat × Value) := [(7, ptrC 0), (8, ptrC 1), (9, ptrC 2), (10, ptrC 3), (11, ptrC 4)]
noncomputable def M13 (p : Nat) : List (Nat × Value) := [(7, ptrC 0), (8, ptrC 1), (9, ptrC 2), (12, i64 p)]
theorem pcS_clo {n t b : Nat} {s : PcS} : ∀ o ∈ pcS n t b s, CloO 6 o := fun o ho => by
  simp only [pcS, pcB, List.mem_append, List.mem_cons, List.mem_nil_iff, or_false] at ho
  rcases ho with (rfl | rfl | rfl | rfl | rfl) | rfl
  · exact cloO_one (clo_plain rfl) _
  · exact cloO_one (clo_plain rfl) _
  · exact cloO_one (clo_plain rfl) _
  · exact cloO_one (clo_plain rfl) _
  · exact cloO_one (planV_clo (by decide) _) _
  · exact planO_plain _ _

theorem rest51_eq : ((List.range 256).all fun m => decide (restJ (.ofNat m) (.ofNat 51) = .ofNat (m % 51))) = true := by kernel_rfl
theorem rest51_of {x : Int} (h0 : 0 ≤ x) (h1 : x ≤ 255) : ∃ n, n < 51 ∧ restJ x (.ofNat 51) = .ofNat n := by
  obtain ⟨m, rfl⟩ := Int.eq_ofNat_of_zero_le h0
  have h := rest51_eq
  simp only [List.all_eq_true, List.mem_range] at h
  exact ⟨m % 51, Nat.mod_lt _ (by decide), of_decide_eq_true (h m (by omega))⟩

theorem min50 {x : Nat} (h : x ≤ 50) : minV (.ofNat 50) (wrapF .i64 (Int.add (.ofNat x) (.ofNat 1))) = .ofNat (min 50 (x + 1)) := by
  rw [f_add (by omega)]
  unfold minV
  by_cases hx : x + 1 < 50
  · rw [if_pos (show Int.ofNat (x + 1) < Int.ofNat 50 from Int.ofNat_lt.2 hx), Nat.min_eq_right (by omega)]
  · rw [if_neg (show ¬ Int.ofNat (x + 1) < Int.ofNat 50 from fun q => hx (Int.ofNat_lt.1 q)), Nat.min_eq_left (by omega)]

theorem price_told {n t b : Nat} (hn : n ≤ 12) (ht : t ≤ 50) (hb : b ≤ 50) (h : AH) : Says Tryd.prog h 22 [i64 n, i64 t, i64 b] (pairV (.ofNat (priceV t b n)) 0) h := by
  have := price_says (.ofNat n) (.ofNat t) (.ofNat b) h
  rwa [price_nat hn ht hb] at this

theorem trials_told {n : Nat} (hn : n < 13) (h : AH) : Says Tryd.prog h 28 [i64 n, i64 6] (.tuple #[i64 (fewestN n 6), i64 0]) h := by
  refine hook_says (hk := numH 28 (grid2 13 7 vTrials)) (grid2_ok (call_ok mixed noNum hFew_ok 1000) trials_tab) ?_
  have h1 := blt_true hn
  simp only [numH, grid2, i64, h1, if_true, vTrials]
  rfl

section
variable {n t b : Nat} {s : PcS}

/-- Behind the loop. -/
theorem law13_end (hn : n < 8) (ht : t ≤ 50) {p : Nat} : Runs Tryd.prog 0 (behind 9 c13) (sth (M13 p) 147 (pcS n t b s)) Ends13 := by
  have few := price_few (t := t) hn
  have small : t * fewestN n 6 < 9223372036854775808 := by
    have := price_le t 0 n
    rw [few] at this
    have : n * (t + 0) ≤ 8 * 50 := Nat.mul_le_mul (by omega) (by omega)
    omega
  refine Runs.sqR mixed hk38 [viaC 1 28 [i64 n, i64 6] (.tuple #[i64 (fewestN n 6), i64 0])] (by kernel_rfl) (by kernel_rfl) (by kernel_rfl) (oblC (shown_callE (h0 := hp (pcS n t b s)) (by kernel_rfl) (by kernel_rfl) (trials_told (by omega) _)) oblN) ?_
  refine Runs.sqR mixed hk38 [viaC 2 22 [i64 n, i64 t, i64 0] (pairV (.ofNat (priceV t 0 n)) 0)] (by kernel_rfl) (by kernel_rfl) (by kernel_rfl) (oblC (shown_callE (h0 := hp (pcS n t b s)) (by kernel_rfl) (by kernel_rfl) (price_told (by omega) ht (by decide) _)) oblN) ?_
  refine Runs.sqR mixed hk38 [viaV 10 (i64 (t * fewestN n 6)), viaV 11 (.bool true)] (by kernel_rfl) (by kernel_rfl) (by kernel_rfl)
    (oblC (shown_eq (v := .int .i64 (wrapF .i64 (Int.mul (.ofNat t) (.ofNat (fewestN n 6))))) (by kernel_rfl) (by kernel_rfl) (by rw [f_mul small]; rfl))
    (oblC (shown_eq (v := .bool (eqF (.ofNat (priceV t 0 n)) (.ofNat (t * fewestN n 6)))) (by kernel_rfl) (by kernel_rfl) (by rw [few, eq_self])) oblN)) ?_
  exact Runs.now (x := .ret) (by kernel_rfl) ⟨.inr rfl, [.bool true], by kernel_rfl, rfl⟩

/-- The loop. -/
theorem law13_loop (hn : n < 8) (ht : t ≤ 50) (hb : b ≤ 50) : Runs Tryd.prog 0 (behind 8 c13) (sth (M13 (priceV t b n)) 147 (pcS n t b s)) Ends13 := by
  have hp50 : ∀ {i : Nat}, i ≤ 12 → priceV t b i < 1000000 := fun hi => price_small ht hb (by omega)
  have pn := hp50 (i := n) (by omega)
  have a1 := price_mono t b (n + 1) n (n + 1) (by omega) (Nat.le_refl _)
  have a2 := price_next t b n
  have a3 := price_up (t := t) (t' := min 50 (t + 1)) (b := b) (b' := b) (by omega) (Nat.le_refl _) n n (Nat.le_refl _)
  have a4 := price_up (t := t) (t' := t) (b := b) (b' := min 50 (b + 1)) (Nat.le_refl _) (by omega) n n (Nat.le_refl _)
  have no : ∀ {x y : Nat}, y ≤ x → ltF (.ofNat x) (.ofNat y) = false := fun {x y} h => ltF_not.2 (show ((y : Nat) : Int) ≤ ((x : Nat) : Int) by omega)
  have s1 : ∀ h, Says Tryd.prog h 22 [i64 (n + 1), i64 t, i64 b] (pairV (.ofNat (priceV t b (n + 1))) 0) h := fun h => price_told (by omega) ht hb h
  have s2 : ∀ h, Says Tryd.prog h 22 [i64 n, i64 (min 50 (t + 1)), i64 b] (pairV (.ofNat (priceV (min 50 (t + 1)) b n)) 0) h := fun h => price_told (by omega) (by omega) hb h
  have s3 : ∀ h, Says Tryd.prog h 22 [i64 n, i64 t, i64 (min 50 (b + 1))] (pairV (.ofNat (priceV t (min 50 (b + 1)) n)) 0) h := fun h => price_told (by omega) ht (by omega) h
  have m1 := min50 ht
  have m2 := min50 hb
  generalize hq0 : priceV t b n = p at *
  generalize hq1 : priceV t b (n + 1) = q1 at *
  generalize hq2 : priceV (min 50 (t + 1)) b n = q2 at *
  generalize hq3 : priceV t (min 50 (b + 1)) n = q3 at *
  generalize ht2 : min 50 (t + 1) = t2 at *
  generalize hb2 : min 50 (b + 1) = b2 at *
  refine Runs.sq (by kernel_rfl) (Runs.sqR mixed hk38 [viaV 1 (i64 (n + 1)), viaV 8 (i64 t2), viaV 15 (i64 b2)] (by kernel_rfl) (by kernel_rfl) (by kernel_rfl)
    (oblC (shown_eq (v := .int .i64 (wrapF .i64 (Int.add (.ofNat n) (.ofNat 1)))) (by kernel_rfl) (by kernel_rfl) (by rw [f_add (by omega)]; rfl))
    (oblC (shown_eq (v := .int .i64 (minV (.ofNat 50) (wrapF .i64 (Int.add (.ofNat t) (.ofNat 1))))) (by kernel_rfl) (by kernel_rfl) (by rw [m1]; rfl))
    (oblC (shown_eq (v := .int .i64 (minV (.ofNat 50) (wrapF .i64 (Int.add (.ofNat b) (.ofNat 1))))) (by kernel_rfl) (by kernel_rfl) (by rw [m2]; rfl)) oblN))) (Runs.bk (id := 0) (by kernel_rfl) ?_))
  show Runs Tryd.prog 0 lp13 _ _
  -- the first round
  refine Runs.lp (by kernel_rfl) (Runs.sqR mixed hk38 [] (by kernel_rfl) (by kernel_rfl) (by kernel_rfl) oblN ?_)
  refine Runs.sq (by kernel_rfl) (Runs.cd (b := true) (by kernel_rfl) (fun _ => Runs.now (x := .normal) (by kernel_rfl) ?_) (fun hf => by cases hf))
  show Runs Tryd.prog 0 _ _ _
  refine Runs.sq (by kernel_rfl) (Runs.bk (id := 1) (by kernel_rfl) (Runs.sqR mixed hk38 [] (by kernel_rfl) (by kernel_rfl) (by kernel_rfl) oblN ?_))
  refine Runs.sqR mixed hk38 [viaC 6 22 [i64 (n + 1), i64 t, i64 b] (pairV (.ofNat q1) 0)] (by kernel_rfl) (by kernel_rfl) (by kernel_rfl) (oblC (shown_callE (by kernel_rfl) rfl (s1 _)) oblN) ?_
  refine Runs.sqR mixed hk38 [viaV 5 (.bool false), viaV 14 (i64 (p + t)), viaV 16 (i64 (p + t + b)), viaV 17 (.bool false)] (by kernel_rfl) (by kernel_rfl) (by kernel_rfl)
    (oblC (shown_eq (v := .bool (ltF (.ofNat q1) (.ofNat p))) (by kernel_rfl) (by kernel_rfl) (by rw [no a1]))
    (oblC (shown_eq (v := .int .i64 (wrapF .i64 (Int.add (.ofNat p) (.ofNat t)))) (by kernel_rfl) (by kernel_rfl) (by rw [f_add (by omega)]; rfl))
    (oblC (shown_eq (v := .int .i64 (wrapF .i64 (Int.add (.ofNat (p + t)) (.ofNat b)))) (by kernel_rfl) (by kernel_rfl) (by rw [f_add (by omega)]; rfl))
    (oblC (shown_eq (v := .bool (ltF (.ofNat (p + t + b)) (.ofNat q1))) (by kernel_rfl) (by kernel_rfl) (by rw [no a2])) oblN)))) ?_
  refine Runs.cd (b := false) (by kernel_rfl) (fun h => by cases h) (fun _ => Runs.now (x := .normal) (by kernel_rfl) ?_)
  show Runs Tryd.prog 0 _ _ _
  refine Runs.rg mixed hk38 [] (by kernel_rfl) (by kernel_rfl) (by kernel_rfl) oblN ?_
  show Runs Tryd.prog 0 lp13 _ _
  -- the second round
  refine Runs.lp (by kernel_rfl) (Runs.sqR mixed hk38 [] (by kernel_rfl) (by kernel_rfl) (by kernel_rfl) oblN ?_)
  refine Runs.sq (by kernel_rfl) (Runs.cd (b := true) (by kernel_rfl) (fun _ => Runs.now (x := .normal) (by kernel_rfl) ?_) (fun hf => by cases hf))
  show Runs Tryd.prog 0 _ _ _
  refine Runs.sq (by kernel_rfl) (Runs.bk (id := 1) (by kernel_rfl) (Runs.sqR mixed hk38 [] (by kernel_rfl) (by kernel_rfl) (by kernel_rfl) oblN ?_))
  refine Runs.sqR mixed hk38 [viaC 6 22 [i64 n, i64 t2, i64 b] (pairV (.ofNat q2) 0)] (by kernel_rfl) (by kernel_rfl) (by kernel_rfl) (oblC (shown_callE (by kernel_rfl) rfl (s2 _)) oblN) ?_
  refine Runs.sqR mixed hk38 [viaV 5 (.bool false)] (by kernel_rfl) (by kernel_rfl) (by kernel_rfl)
    (oblC (shown_eq (v := .bool (ltF (.ofNat q2) (.ofNat p))) (by kernel_rfl) (by kernel_rfl) (by rw [no a3])) oblN) ?_
  refine Runs.cd (b := false) (by kernel_rfl) (fun h => by cases h) (fun _ => Runs.now (x := .normal) (by kernel_rfl) ?_)
  show Runs Tryd.prog 0 _ _ _
  refine Runs.rg mixed hk38 [] (by kernel_rfl) (by kernel_rfl) (by kernel_rfl) oblN ?_
  show Runs Tryd.prog 0 lp13 _ _
  -- the third round
  refine Runs.lp (by kernel_rfl) (Runs.sqR mixed hk38 [] (by kernel_rfl) (by kernel_rfl) (by kernel_rfl) oblN ?_)
  refine Runs.sq (by kernel_rfl) (Runs.cd (b := true) (by kernel_rfl) (fun _ => Runs.now (x := .normal) (by kernel_rfl) ?_) (fun hf => by cases hf))
  show Runs Tryd.prog 0 _ _ _
  refine Runs.sq (by kernel_rfl) (Runs.bk (id := 1) (by kernel_rfl) (Runs.sqR mixed hk38 [] (by kernel_rfl) (by kernel_rfl) (by kernel_rfl) oblN ?_))
  refine Runs.sqR mixed hk38 [viaC 6 22 [i64 n, i64 t, i64 b2] (pairV (.ofNat q3) 0)] (by kernel_rfl) (by kernel_rfl) (by kernel_rfl) (oblC (shown_callE (by kernel_rfl) rfl (s3 _)) oblN) ?_
  refine Runs.sqR mixed hk38 [viaV 5 (.bool false)] (by kernel_rfl) (by kernel_rfl) (by kernel_rfl)
    (oblC (shown_eq (v := .bool (ltF (.ofNat q3) (.ofNat p))) (by kernel_rfl) (by kernel_rfl) (by rw [no a4])) oblN) ?_
  refine Runs.cd (b := false) (by kernel_rfl) (fun h => by cases h) (fun _ => Runs.now (x := .normal) (by kernel_rfl) ?_)
  show Runs Tryd.prog 0 _ _ _
  refine Runs.rg mixed hk38 [] (by kernel_rfl) (by kernel_rfl) (by kernel_rfl) oblN ?_
  show Runs Tryd.prog 0 lp13 _ _
  -- its end
  refine Runs.lp (by kernel_rfl) (Runs.sqR mixed hk38 [] (by kernel_rfl) (by kernel_rfl) (by kernel_rfl) oblN ?_)
  refine Runs.sq (by kernel_rfl) (Runs.cd (b := false) (by kernel_rfl) (fun ht => by cases ht) (fun _ => Runs.now (x := .exit 0) (by kernel_rfl) ?_))
  show Runs Tryd.prog 0 (behind 9 c13) _ _
  exact Runs.less (af1 := sth (M13 p) 147 (pcS n t b s)) (less_seenP (clo_all (k := 6) (by kernel_rfl)) pcS_clo (Nat.zero_le _) (by kernel_rfl) (by kernel_rfl) (by kernel_rfl) (by kernel_rfl)) (law13_end (p := p) hn ht)
end

/-- Both prices and both plans. -/
theorem law13_both {n t b : Nat} (hn : n < 8) (ht : t ≤ 50) (hb : b ≤ 50) : Runs Tryd.prog 0 (behind 5 c13) (sth L13 147 (pcS n t b (pcE t b n))) Ends13 := by
  have l1 := cheap_good n t b (by omega) ht hb
  have tail : ∀ {af : AF}, Less 0 (sth (M13 (priceV t b n)) 147 (pcS n t b (pcE t b n))) af → Runs Tryd.prog 0 (behind 8 c13) af Ends13 := fun less => Runs.less less (law13_loop hn ht hb)
  have hpe : Value.bool (!(eqF (.ofNat (priceV t b n)) (.ofNat (priceV t b n)))) = .bool false := by rw [eq_self]; rfl
  refine Runs.sqR mixed hk38 [viaC 3 22 [i64 n, i64 t, i64 b] (pairV (.ofNat (priceV t b n)) 0)] (by kernel_rfl) (by kernel_rfl) (by kernel_rfl) (oblC (shown_callE (h0 := hp (pcS n t b (pcE t b n))) (by kernel_rfl) (by kernel_rfl) (price_told (by omega) ht hb _)) oblN) ?_
  have hlen := best_len n t b
  by_cases hz : n = 0
  · subst hz
    have s3 := nilE_says rfl l1 three_plain (hp (pcS 0 t b (pcE t b 0)))
    refine Runs.sqR mixed hk38 [viaC 3 24 [i64 0, i64 t, i64 b] (.tuple #[.slice none 0 0, i64 0])] (by kernel_rfl) (by kernel_rfl) (by kernel_rfl) (oblC (shown_callE (by kernel_rfl) (by kernel_rfl) s3) oblN) ?_
    refine Runs.sq (by kernel_rfl) (Runs.sqR mixed hk38 [viaV 9 (.bool false)] (by kernel_rfl) (by kernel_rfl) (by kernel_rfl) (oblC (shown_eq (v := .bool (!(eqF (.ofNat (priceV t b 0)) (.ofNat (priceV t b 0))))) (by kernel_rfl) (by kernel_rfl) hpe) oblN) ?_)
    refine Runs.cd (b := false) (by kernel_rfl) (fun h => by cases h) (fun _ => Runs.now (x := .normal) (by kernel_rfl) ?_)
    show Runs Tryd.prog 0 (behind 8 c13) _ _
    exact tail (less_seenP (clo_all (k := 6) (by kernel_rfl)) pcS_clo (Nat.zero_le _) (by kernel_rfl) (by kernel_rfl) (by kernel_rfl) (by kernel_rfl))
  · have hne : bestL n t b ≠ [] := fun e => hz (by rw [← hlen, e]; rfl)
    have s3 := listE_says hne l1 three_plain (hp (pcS n t b (pcE t b n)))
    unfold pcE at *
    generalize hq : bestL n t b = l at *
    generalize hq0 : priceV t b n = p at *
    cases l with
    | nil => exact absurd rfl hne
    | cons x l =>
      have s5 := same_at (b0 := boxI n) (b1 := boxI t) (b2 := boxI b) (b3 := boxZ (.ofNat p)) (b4 := boxS (planV 5 (x :: l))) (x :: l) (by omega) (fun o ho => by
        simp only [os7, List.mem_cons, List.mem_nil_iff, or_false] at ho
        rcases ho with rfl | rfl | rfl | rfl | rfl | rfl | rfl
        · exact cloO_one (clo_plain rfl) _
        · exact cloO_one (clo_plain rfl) _
        · exact cloO_one (clo_plain rfl) _
        · exact cloO_one (clo_plain rfl) _
        · exact cloO_one (planV_clo (by decide) _) _
        · exact cloO_plain (litI_plain (x :: l)) _ _
        · exact cloO_plain (litI_plain (x :: l)) _ _)
      refine Runs.sqR mixed hk38 [viaH 3 24 [i64 n, i64 t, i64 b] (.tuple #[rowA 6 (x :: l).length, i64 0]) ((hp (pcS n t b ⟨.ofNat p, x :: l⟩)).new (rowL (x :: l))).2] (by kernel_rfl) (by kernel_rfl) (by kernel_rfl) (oblC (shown_callHE (h0 := hp (pcS n t b ⟨.ofNat p, x :: l⟩)) (by kernel_rfl) (by kernel_rfl) s3) oblN) ?_
      refine Runs.sq (by kernel_rfl) (Runs.sqR mixed hk38 [viaV 9 (.bool false), viaC 14 21 [rowA 6 (x :: l).length, rowA 5 (x :: l).length] (.bool true)] (by kernel_rfl) (by kernel_rfl) (by kernel_rfl) (oblC (shown_eq (v := .bool (!(eqF (.ofNat p) (.ofNat p)))) (by kernel_rfl) (by kernel_rfl) hpe)
        (oblC (shown_callE (h0 := hp (os7 (boxI n) (boxI t) (boxI b) (boxZ (.ofNat p)) (boxS (planV 5 (x :: l))) (x :: l))) (by kernel_rfl) (by kernel_rfl) s5) oblN)) ?_)
      refine Runs.cd (b := false) (by kernel_rfl) (fun h => by cases h) (fun _ => Runs.now (x := .normal) (by kernel_rfl) ?_)
      show Runs Tryd.prog 0 (behind 8 c13) _ _
      exact tail (less_seenP (clo_all (k := 6) (by kernel_rfl)) pcS_clo (Nat.zero_le _) (by kernel_rfl) (by kernel_rfl) (by kernel_rfl) (by kernel_rfl))

theorem priced_runs (x y z : Int) (hx : 0 ≤ x ∧ x ≤ 255) (hy : 0 ≤ y ∧ y ≤ 255) (hz : 0 ≤ z ∧ z ≤ 255) :
    Runs Tryd.prog 0 c13 (entry Tryd.f13 [.int .u8 x, .int .u8 y, .int .u8 z] AH.empty) (EndsAs Tryd.prog Tryd.f13 fun v' _ => v' = .bool true) := by
  obtain ⟨n, hn, en⟩ := restJ_of hx.1 hx.2 (k := 8) (by decide) (by decide)
  obtain ⟨t, ht, et⟩ := rest51_of hy.1 hy.2
  obtain ⟨b, hb, eb⟩ := rest51_of hz.1 hz.2
  refine Runs.sqR mixed hk38 [] (by kernel_rfl) (by kernel_rfl) (by kernel_rfl) oblN ?_
  refine Runs.sqR mixed hk38 [] (by kernel_rfl) (by kernel_rfl) (by kernel_rfl) oblN ?_
  refine Runs.less (af1 := sth [(7, .pointer (some ⟨0, 0, none⟩)), (8, .pointer (some ⟨1, 0, none⟩)), (9, .pointer (some ⟨2, 0, none⟩))] 147 [boxZ (restJ x (.ofNat 8)), boxZ (restJ y (.ofNat 51)), boxZ (restJ z (.ofNat 51))])
    (less_seenP (clo_all (k := 3) (by kernel_rfl)) (fun o ho => by
      simp only [List.mem_cons, List.mem_nil_iff, or_false] at ho
      rcases ho with rfl | rfl | rfl <;> exact cloO_one (clo_plain rfl) _) (Nat.zero_le _) (by kernel_rfl) (by kernel_rfl) (by kernel_rfl) (by kernel_rfl)) ?_
  rw [en, eb, et]
  refine Runs.sqR mixed hk38 [] (by kernel_rfl) (by kernel_rfl) (by kernel_rfl) oblN ?_
  refine Runs.sqR mixed hk38 [] (by kernel_rfl) (by kernel_rfl) (by kernel_rfl) oblN ?_
  refine Runs.sqR mixed hk38 [viaH 2 53 [i64 0, i64 n, .func (.func 56) #[] (capsAt pcPs).toArray] (.tuple #[]) (hp (pcS n t b (pcE t b n)))] (by kernel_rfl) (by kernel_rfl) (by kernel_rfl)
    (oblC (shown_callHE (h0 := hp (pcB n t b pcZero 5)) (by kernel_rfl) (by kernel_rfl) (pc_plans hn (by omega) (by omega))) oblN) ?_
  refine Runs.less (af1 := sth L13 147 (pcS n t b (pcE t b n))) (less_seenP (clo_all (k := 6) (by kernel_rfl)) pcS_clo (Nat.zero_le _) (by kernel_rfl) (by kernel_rfl) (by kernel_rfl) (by kernel_rfl)) ?_
  exact law13_both hn (by omega) (by omega)
end
end Go.Proofs.YtgnkjmgkfibipaaDoor
