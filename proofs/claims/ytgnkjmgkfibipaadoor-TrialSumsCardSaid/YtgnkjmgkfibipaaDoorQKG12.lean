/- TrialSums: all plans. -/
import Derived.Test.YtgnkjmgkfibipaaDoorQKG11
import Derived.Test.YtgnkjmgkfibipaaDoorQKG10
import Derived.Test.YtgnkjmgkfibipaaDoorQRG9
import Derived.Test.YtgnkjmgkfibipaaDoorQKLeastTop
import Derived.Test.YtgnkjmgkfibipaaDoorQKRest
namespace Go.Proofs.YtgnkjmgkfibipaaDoor
set_option linter.unusedVariables false
set_option linter.unusedSimpArgs false
open Go Go.R
set_option maxRecDepth 1000000
noncomputable section

def smZero : SmS := ⟨1000, 100⟩
def smE (n b : Nat) : SmS := foldP (smStep n b) smZero (plansF 8 0 n)

theorem smS_tidy (y : Nat → Nat) (n b : Nat) (s : SmS) : ((smS y n b s).all tidyOb) = true := by kernel_rfl
theorem sm_same (y : Nat → Nat) (n b : Nat) (s : SmS) : ∀ i, i < 5 → i ∈ smPs ∨ (hp (smS y n b s)).get i = (hp (smS y n b smZero)).get i
  | 0, _ => .inr (by kernel_rfl)
  | 1, _ => .inl (by decide)
  | 2, _ => .inl (by decide)
  | 3, _ => .inl (by decide)
  | 4, _ => .inl (by decide)
  | i + 5, h => by omega

theorem sm_plans {y : Nat → Nat} {n b : Nat} (hn : n < 8) : Says Tryd.prog (hp (smS y n b smZero)) 53 [i64 0, i64 n, .func (.func 62) #[] (capsAt smPs).toArray] (.tuple #[]) (hp (smS y n b (smE n b))) := by
  refine base_call2 (S := smS y n b) (P0 := fun _ => True) (m := 5) (M := 5) (s := smZero) (pre := [i64 0, i64 n]) (fun _ => rfl) (Nat.le_refl 5) (fun s => smS_tidy y n b s) (ps := smPs) (by decide) (by decide) rfl (sm_same y n b _) (fun i hi => rfl) trivial
    (fun v hv => by simp only [List.mem_cons, List.mem_nil_iff, or_false] at hv; rcases hv with rfl | rfl <;> rfl) (fun μ => ?_)
  have := plOK n 8 (by omega) SmS (Hid.base (smS y n b) (fun _ => True) μ 5 smPs) (Nat.le_refl 16) 62 4 0 (by decide) (by omega) (smStep n b)
    (base_cb (S := smS y n b) (m := 5) (M := 5) (fun _ => rfl) (Nat.le_refl 5) (fun s => smS_tidy y n b s) (by decide) (by decide) (fun s l u d _ hok => by
      have G := good_of hok
      exact ⟨trivial, sm_local G.len (by omega) (fun _ => good_tries (l := l) (by have := G; exact this))⟩)) smZero
  rw [Nat.zero_add] at this
  exact this

def eqS (a b : SmS) : Bool := eqF a.least b.least && eqF a.few b.few
def chkSm (n : Nat) : Bool := (List.range 6).all fun b => eqS (smE n (b + 1)) ⟨.ofNat (leastN n (b + 1)), .ofNat (fewestN n (b + 1))⟩
end
end Go.Proofs.YtgnkjmgkfibipaaDoor

/- TrialSums: the law behind all plans. -/
namespace Go.Proofs.YtgnkjmgkfibipaaDoor
set_option linter.unusedVariables false
set_option linter.unusedSimpArgs false
open Go Go.R
set_option maxRecDepth 1000000
noncomputable section

theorem grL_fuel (y : Nat → Nat) : ∀ (d low n k : Nat), n ≤ d → grL y (d + 1) low n k = grL y d low n k
  | 0, low, n, k, h => by
    have : n = 0 := by omega
    subst this; rfl
  | d + 1, low, 0, k, h => rfl
  | d + 1, low, n + 1, k, h => by
    have hi := Nat.mod_lt (y k) (show 0 < n + 1 by omega)
    rw [grL, grL, grL_fuel y d _ _ _ (by omega), grL_fuel y d _ _ _ (by omega)]
/-- The plan by numbers. -/
def grownN (y : Nat → Nat) (n : Nat) : List Nat := grL y n 0 n 0
theorem grownN_good (y : Nat → Nat) (n : Nat) : Good 0 n (grownN y n) := by
  obtain ⟨t, e, h⟩ := grL_mem y (n + 1) 0 n 0 (Nat.lt_succ_self n)
  have := good_of h
  simp only [grL_fuel y n 0 n 0 (Nat.le_refl n)] at this
  exact this
theorem planO_ne {l : List Nat} (h : l ≠ []) : planO (some 3) l = .cells (litI l) true [] (some 3) := by
  cases l with
  | nil => exact absurd rfl h
  | cons x l => rfl

noncomputable def c16 : Code := bodyOf Tryd.f16
noncomputable def lp16 : Code := within (tl (hd (behind 8 c16)))
/-- The plan's worst case as the law takes it. -/
def gO (G : List Nat) (m : Nat) : List Int := outN G m
noncomputable def S16 (G : List Nat) (n h : Nat) : List (Nat × Value) := [(7, ptrC 1), (8, ptrC 2), (10, ptrC 4), (13, planV 5 G), (14, i64 (longTo (gO G) h)), (15, i64 (mostTo (gO G) h)), (47, i64 (n + 1)), (48, i64 h)]
theorem S16_clo (G : List Nat) (n h : Nat) : ∀ p ∈ S16 G n h, Clo 6 p.2 := fun p hp => by
  simp only [S16, List.mem_cons, List.mem_nil_iff, or_false] at hp
  rcases hp with rfl | rfl | rfl | rfl | rfl | rfl | rfl | rfl
  · exact clo_of 10 6 _ (by kernel_rfl)
  · exact clo_of 10 6 _ (by kernel_rfl)
  · exact clo_of 10 6 _ (by kernel_rfl)
  · exact planV_clo (by decide) G
  all_goals exact clo_plain rfl

section
variable {y : Nat → Nat} {n b : Nat} {E : SmS} {G : List Nat}

theorem word_size (hd : Nat) (l : List Int) : (strB (wordOf (.ofNat hd) l)).size = l.length := by
  rw [strB_size]
  exact List.length_map _

theorem law16_round (hG : Good 0 n G) (hne : G ≠ []) (hn : n < 100) {h : Nat} (hh : h < n + 1) {Q : AExit → AF → Prop}
    (k : Runs Tryd.prog 0 lp16 (sth (S16 G n (h + 1)) 87 (sm4 y n b E G)) Q) : Runs Tryd.prog 0 lp16 (sth (S16 G n h) 87 (sm4 y n b E G)) Q := by
  refine Runs.lp (by kernel_rfl) (Runs.sqR mixed hk38 [] (by kernel_rfl) (by kernel_rfl) (by kernel_rfl) oblN ?_)
  refine Runs.sq (by kernel_rfl) (Runs.cd (b := ltF (.ofNat h) (.ofNat (n + 1))) (by kernel_rfl) (fun _ => Runs.now (x := .normal) (by kernel_rfl) ?_) (fun hf => by rw [lt_of hh] at hf; cases hf))
  show Runs Tryd.prog 0 _ _ _
  refine Runs.sq (by kernel_rfl) (Runs.bk (id := 1) (by kernel_rfl) (Runs.sqR mixed hk38 [] (by kernel_rfl) (by kernel_rfl) (by kernel_rfl) oblN ?_))
  have hlen := hG.len
  refine Runs.sqR mixed hk38 [viaH 2 47 [planV 5 G, i64 h] (rowV 6 (outN G h).length (some (.string (strB (wordOf (.ofNat h) (outN G h)))))) ((hp (sm4 y n b E G)).new (.cells (litZ (outN G h)) true [] (some 3))).2] (by kernel_rfl) (by kernel_rfl) (by kernel_rfl)
    (oblC (shown_callHE (h0 := hp (sm4 y n b E G)) (by kernel_rfl) (by kernel_rfl) (outcome_at (lv := true) (par := []) (ty := some 3) hne (Eq.trans (show _ = planO (some 3) G by kernel_rfl) (planO_ne hne)) (by omega) (good_tries hG) h)) oblN) ?_
  refine Runs.rg mixed hk38 [viaV 3 (i64 (longTo (gO G) (h + 1))), viaC 6 50 [.string (strB (wordOf (.ofNat h) (outN G h))), strb] (.int .i64 (cntB (strB (wordOf (.ofNat h) (outN G h))).data.toList 98 0 : Nat)), viaV 7 (i64 (mostTo (gO G) (h + 1)))] (by kernel_rfl) (by kernel_rfl) (by kernel_rfl)
    (oblC (shown_eq (v := .int .i64 (maxV (.ofNat (longTo (gO G) h)) (.ofNat (strB (wordOf (.ofNat h) (outN G h))).size))) (by kernel_rfl) (by kernel_rfl) (by rw [maxV_nat, word_size]; rfl))
    (oblC (shown_callE (h0 := ((hp (sm4 y n b E G)).new (.cells (litZ (outN G h)) true [] (some 3))).2) (by kernel_rfl) (by kernel_rfl) (count_says _ _))
    (oblC (shown_eq (v := .int .i64 (maxV (.ofNat (mostTo (gO G) h)) (.ofNat (cntB (strB (wordOf (.ofNat h) (outN G h))).data.toList 98 0)))) (by kernel_rfl) (by kernel_rfl) (by rw [maxV_nat, cnt_word, Nat.zero_add]; rfl)) oblN))) ?_
  show Runs Tryd.prog 0 _ _ _
  refine Runs.rg mixed hk38 [viaV 0 (i64 (h + 1))] (by kernel_rfl) (by kernel_rfl) (by kernel_rfl) (oblC (shown_eq (v := .int .i64 (wrapF .i64 (Int.add (.ofNat h) (.ofNat 1)))) (by kernel_rfl) (by kernel_rfl) (by rw [wrap_succ (by omega)]; rfl)) oblN) ?_
  show Runs Tryd.prog 0 lp16 _ _
  exact Runs.less (less_seenP (S16_clo _ _ _) sm4_clo (Nat.zero_le _) (by kernel_rfl) (by kernel_rfl) (by kernel_rfl) (by kernel_rfl)) k

theorem law16_loop (hG : Good 0 n G) (hne : G ≠ []) (hn : n < 100) {Q : AExit → AF → Prop} (q : ∀ af, Less 0 (sth (S16 G n (n + 1)) 87 (sm4 y n b E G)) af → Q (.exit 0) af) : ∀ d h, h + d = n + 1 →
    Runs Tryd.prog 0 lp16 (sth (S16 G n h) 87 (sm4 y n b E G)) Q := by
  intro d
  induction d with
  | zero =>
    intro h hh
    have e : h = n + 1 := by omega
    subst e
    refine Runs.lp (by kernel_rfl) (Runs.sqR mixed hk38 [] (by kernel_rfl) (by kernel_rfl) (by kernel_rfl) oblN ?_)
    refine Runs.sq (by kernel_rfl) (Runs.cd (b := ltF (.ofNat (n + 1)) (.ofNat (n + 1))) (by kernel_rfl) (fun ht => by rw [lt_self] at ht; cases ht) (fun _ => Runs.now (x := .exit 0) (by kernel_rfl) ?_))
    exact q _ (less_seenP (S16_clo _ _ _) sm4_clo (Nat.zero_le _) (by kernel_rfl) (by kernel_rfl) (by kernel_rfl) (by kernel_rfl))
  | succ d ih =>
    intro h hh
    exact law16_round hG hne hn (by omega) (ih (h + 1) (by omega))
end

/-! ### Proves, told -/
theorem longTo_congr {g k : Nat → List Int} (h : ∀ m, g m = k m) : ∀ m, longTo g m = longTo k m
  | 0 => rfl
  | m + 1 => by rw [longTo, longTo, longTo_congr h m, h m]
theorem mostTo_congr {g k : Nat → List Int} (h : ∀ m, g m = k m) : ∀ m, mostTo g m = mostTo k m
  | 0 => rfl
  | m + 1 => by rw [mostTo, mostTo, mostTo_congr h m, h m]

theorem proves_at {h : AH} {q n b : Nat} {l : List Nat} {lv : Bool} {par : List Nat} {ty : Option TypeId} (G : Good 0 n l) (hne : l ≠ []) (hn : n < 13) (hg : h.get q = .cells (litI l) lv par ty) :
    Says Tryd.prog h 63 [planV q l, i64 b] (i64 (pvN n b (longTo (gO l) (n + 1)) (mostTo (gO l) (n + 1)))) h := by
  have e1 : longTo (gO l) (n + 1) = longTo (runG (fL l) n) (n + 1) := longTo_congr (fun m => outN_run G m) _
  have e2 : mostTo (gO l) (n + 1) = mostTo (runG (fL l) n) (n + 1) := mostTo_congr (fun m => outN_run G m) _
  rw [e1, e2]
  have hlen := G.len
  cases l with
  | nil => exact absurd rfl hne
  | cons x l =>
    refine tell_flat (P := Tryd.prog) (fid := 63) (pre := []) (post := [i64 b]) (i := q) (o := 0) (n := n) (s := planV q (x :: l)) (cells := intsZ n (fL (x :: l))) (R := fun v' _ => v' = i64 (pvN n b (longTo (runG (fL (x :: l)) n) (n + 1)) (mostTo (runG (fL (x :: l)) n) (n + 1)))) (fun cap hc => ?_) (fun _ _ r => r) rfl
      hg (fun k u hk => by rw [Nat.zero_add, litI_ints, hlen]; exact hk) (by rw [Nat.zero_add, litI_ints, hlen]; exact Nat.le_refl _) (intsZ_plain _ _) (.inl ⟨0, ?_⟩) (fun v hv => by cases hv) (fun v hv => by rw [List.mem_singleton.1 hv]; rfl)
    · exact local_one (proves_says n cap b (fL (x :: l)) hc hn (good_check G (by omega))) (Nat.le_refl 1)
    · show Value.slice (some ⟨q, 0, some 1⟩) (x :: l).length (x :: l).length = _
      rw [hlen]
end
end Go.Proofs.YtgnkjmgkfibipaaDoor
