/- TrialPlans: the reference's Check and asked. -/
import Derived.Test.YtgnkjmgkfibipaaGreatDoorSPlansKZpF
import Derived.Test.YtgnkjmgkfibipaaGreatDoorSPlansKZ3
import Derived.Test.YtgnkjmgkfibipaaGreatDoorSPlansKZ1
namespace Go.Proofs.YtgnkjmgkfibipaaGreatDoor
set_option linter.unusedVariables false
set_option linter.unusedSimpArgs false
open Go Go.R
set_option maxRecDepth 1000000
noncomputable section

theorem at_view_flat {n cap : Nat} {f : Nat → Int} {fid : FuncId} {post : List Value} {R : Value → AH → Prop} {v : Value} (hc : n ≤ cap) (L : ∀ cap', n ≤ cap' → Local Tryz.prog 1 fid (slV n cap' :: post) (hp [viewZ n f]) R) (hR : ∀ v' h', R v' h' → v' = v) (fv : flatV v = true)
    (pq : ∀ u ∈ post, plainV u = true) : Says Tryz.prog (hp [viewZ n f]) fid (slV n cap :: post) v (hp [viewZ n f]) :=
  tell_flat (P := Tryz.prog) (pre := []) (post := post) (i := 0) (o := 0) (n := n) (s := slV n cap) (c := intsZ n f) (cells := intsZ n f) (lv := false) (par := []) (ty := none) (R := R) L hR fv (hp_get _ 0 _ rfl) (fun k u h => by rw [Nat.zero_add]; exact h) (by rw [Nat.zero_add]; exact Nat.le_refl _) (intsZ_plain n f) (view_at hc) (fun v h => by cases h) pq
theorem at_view_new {n cap n1 : Nat} {f : Nat → Int} {fid : FuncId} {post cells1 : List Value} {ty1 : Option TypeId} {e1 : Option Value} (hc : n ≤ cap) (L : ∀ cap', n ≤ cap' → Local Tryz.prog 1 fid (slV n cap' :: post) (hp [viewZ n f]) (IsRow n1 cells1 ty1 e1))
    (hl1 : cells1.length = n1) (hcl : ∀ u ∈ cells1, plainV u = true) (pe : ∀ v, e1 = some v → plainV v = true) (pq : ∀ u ∈ post, plainV u = true) :
    Says Tryz.prog (hp [viewZ n f]) fid (slV n cap :: post) (rowV 1 n1 e1) ((hp [viewZ n f]).new (.cells cells1 true [] ty1)).2 :=
  tell_new (P := Tryz.prog) (pre := []) (post := post) (i := 0) (o := 0) (n := n) (s := slV n cap) (c := intsZ n f) (cells := intsZ n f) (lv := false) (par := []) (ty := none) L hl1 hcl pe (hp_get _ 0 _ rfl) (fun k u h => by rw [Nat.zero_add]; exact h) (by rw [Nat.zero_add]; exact Nat.le_refl _) (intsZ_plain n f) (view_at hc) (fun v h => by cases h) pq

/-! ### in -/
noncomputable def q53 : Code := bodyOf Tryz.f53
theorem in_local (x lo hi : Int) : Local Tryz.prog 0 53 [.int .i64 x, .int .i64 lo, .int .i64 hi] AH.empty fun v' _ => v' = .bool (!(outZ x lo hi)) := by
  refine local_of noNum Tryz.func53 (show Tryz.f53.body = some q53 by kernel_rfl) ?_
  refine Runs.sqR mixed hk38 [] (by kernel_rfl) (by kernel_rfl) (by kernel_rfl) oblN ?_
  cases h1 : ltF x lo with
  | true =>
    have e1 : leF lo x = false := by rw [leF_eq, decide_eq_false_iff_not]; have := ltF_iff.1 h1; omega
    have e : outZ x lo hi = true := by unfold outZ; rw [h1]; rfl
    rw [e]
    refine Runs.sqR mixed hk38 [viaV 2 (.bool false)] (by kernel_rfl) (by kernel_rfl) (by kernel_rfl) (oblC (shown_eq (v := .bool (leF lo x)) (by kernel_rfl) (by kernel_rfl) (by rw [e1])) oblN) ?_
    exact Runs.now (x := .ret) (by kernel_rfl) ⟨.inr rfl, [.bool false], by kernel_rfl, rfl⟩
  | false =>
    have e1 : leF lo x = true := by rw [leF_eq, decide_eq_true_eq]; exact ltF_not.1 h1
    have e2 : leF x hi = !(ltF hi x) := by
      cases h2 : ltF hi x with
      | true => rw [leF_eq, decide_eq_false_iff_not.2 (by have := ltF_iff.1 h2; omega)]; rfl
      | false => rw [leF_eq, decide_eq_true (ltF_not.1 h2)]; rfl
    have e : (!(outZ x lo hi)) = leF x hi := by unfold outZ; rw [h1, e2]; rfl
    rw [e]
    refine Runs.sqR mixed hk38 [viaV 2 (.bool true)] (by kernel_rfl) (by kernel_rfl) (by kernel_rfl) (oblC (shown_eq (v := .bool (leF lo x)) (by kernel_rfl) (by kernel_rfl) (by rw [e1])) oblN) ?_
    exact Runs.now (x := .ret) (by kernel_rfl) ⟨.inr rfl, [.bool (leF x hi)], by kernel_rfl, rfl⟩
theorem in_says (x lo hi : Int) (h : AH) : Says Tryz.prog h 53 [.int .i64 x, .int .i64 lo, .int .i64 hi] (.bool (!(outZ x lo hi))) h := fun F w0 μ w args' H hl =>
  (in_local x lo hi).closed three_plain rfl h H hl

/-! ### Check -/
noncomputable def q20 : Code := bodyOf Tryz.f20
noncomputable def lo20 : Code := within (tl (hd (behind 2 q20)))
noncomputable def li20 : Code := within (tl (tl (within (hd (tl (within lo20))))))
noncomputable def S20 (n cap i : Nat) : List (Nat × Value) := [(0, slV n cap), (3, i64 i)]
noncomputable def S20k (n cap i k : Nat) : List (Nat × Value) := [(0, slV n cap), (3, i64 i), (4, i64 k)]
section
variable {n cap : Nat} {f : Nat → Int}
theorem inner20 (hn : n < 100000) {i : Nat} (hi : i < n) : ∀ d k, k + d = i → (∀ j, j < k → f j ≠ f i) →
    Runs Tryz.prog 1 li20 (sth (S20k n cap i k) 39 [viewZ n f]) fun e af => (e = .exit 2 ∧ (∀ j, j < i → f j ≠ f i) ∧ Less 1 (sth (S20 n cap i) 39 [viewZ n f]) af) ∨ (e = .ret ∧ (∃ j, j < i ∧ f j = f i) ∧ af.tm.get 2 = some (i64 6))
  | 0, k, h, hj => by
    have e : k = i := by omega
    subst e
    refine Runs.lp (by kernel_rfl) (Runs.sq (by kernel_rfl) (Runs.sqR mixed hk38 [] (by kernel_rfl) (by kernel_rfl) (by kernel_rfl) oblN ?_))
    refine Runs.cd (b := ltF (.ofNat k) (.ofNat k)) (by kernel_rfl) (fun ht => by rw [lt_self] at ht; cases ht) (fun _ => Runs.now (x := .exit 2) (by kernel_rfl) (.inl ⟨rfl, hj, ?_⟩))
    exact less_seenP (clo_all (k := 1) (by kernel_rfl)) viewZ_clo (Nat.le_refl 1) (by kernel_rfl) (by kernel_rfl) (by kernel_rfl) (by kernel_rfl)
  | d + 1, k, h, hj => by
    have hlt : k < i := by omega
    have e1 : wrapF .i64 (Int.add (.ofNat k) (.ofNat 1)) = .ofNat (k + 1) := wrap_addN (by omega)
    refine Runs.lp (by kernel_rfl) (Runs.sq (by kernel_rfl) (Runs.sqR mixed hk38 [] (by kernel_rfl) (by kernel_rfl) (by kernel_rfl) oblN ?_))
    refine Runs.cd (b := ltF (.ofNat k) (.ofNat i)) (by kernel_rfl) (fun _ => Runs.now (x := .normal) (by kernel_rfl) ?_) (fun hf => by rw [lt_of hlt] at hf; cases hf)
    show Runs Tryz.prog 1 _ _ _
    refine Runs.sq (by kernel_rfl) (Runs.bk (id := 3) (by kernel_rfl) ?_)
    cases hq : eqF (f k) (f i) with
    | true =>
      refine Runs.sqR mixed hk38 [viaV 2 (.pointer (some ⟨0, 0 + k * 1, none⟩)), viaV 3 (.int .i64 (f k)), viaV 6 (.pointer (some ⟨0, 0 + i * 1, none⟩)), viaV 7 (.int .i64 (f i)), viaV 8 (.bool true)] (by kernel_rfl) (by kernel_rfl) (by kernel_rfl)
        (oblC (shown_idx (n := n) (i := k) (by kernel_rfl) (by omega)) (oblC (shown_cell (by kernel_rfl) (intZ_at (g := 0) (n := n) (i := k) (f := f) (lv := false) (par := []) (ty := none) (by kernel_rfl) (by omega)))
        (oblC (shown_idx (n := n) (i := i) (by kernel_rfl) hi) (oblC (shown_cell (by kernel_rfl) (intZ_at (g := 0) (n := n) (i := i) (f := f) (lv := false) (par := []) (ty := none) (by kernel_rfl) hi))
        (oblC (shown_eq (v := .bool (eqF (f k) (f i))) (by kernel_rfl) (by kernel_rfl) (by rw [hq])) oblN))))) ?_
      refine Runs.cd (b := true) (by kernel_rfl) (fun _ => ?_) (fun h => by cases h)
      refine Runs.sqR mixed hk38 [] (by kernel_rfl) (by kernel_rfl) (by kernel_rfl) oblN (Runs.now (x := .ret) (by kernel_rfl) (.inr ⟨rfl, ⟨k, hlt, ?_⟩, by kernel_rfl⟩))
      rw [eqF_eq] at hq
      exact eq_of_beq hq
    | false =>
      refine Runs.sqR mixed hk38 [viaV 2 (.pointer (some ⟨0, 0 + k * 1, none⟩)), viaV 3 (.int .i64 (f k)), viaV 6 (.pointer (some ⟨0, 0 + i * 1, none⟩)), viaV 7 (.int .i64 (f i)), viaV 8 (.bool false)] (by kernel_rfl) (by kernel_rfl) (by kernel_rfl)
        (oblC (shown_idx (n := n) (i := k) (by kernel_rfl) (by omega)) (oblC (shown_cell (by kernel_rfl) (intZ_at (g := 0) (n := n) (i := k) (f := f) (lv := false) (par := []) (ty := none) (by kernel_rfl) (by omega)))
        (oblC (shown_idx (n := n) (i := i) (by kernel_rfl) hi) (oblC (shown_cell (by kernel_rfl) (intZ_at (g := 0) (n := n) (i := i) (f := f) (lv := false) (par := []) (ty := none) (by kernel_rfl) hi))
        (oblC (shown_eq (v := .bool (eqF (f k) (f i))) (by kernel_rfl) (by kernel_rfl) (by rw [hq])) oblN))))) ?_
      refine Runs.cd (b := false) (by kernel_rfl) (fun h => by cases h) (fun _ => Runs.now (x := .normal) (by kernel_rfl) ?_)
      show Runs Tryz.prog 1 _ _ _
      refine Runs.rg mixed hk38 [viaV 1 (i64 (k + 1))] (by kernel_rfl) (by kernel_rfl) (by kernel_rfl) (oblC (shown_eq (v := .int .i64 (wrapF .i64 (Int.add (.ofNat k) (.ofNat 1)))) (by kernel_rfl) (by kernel_rfl) (by rw [e1]; rfl)) oblN) ?_
      show Runs Tryz.prog 1 li20 _ _
      refine Runs.less (af1 := sth (S20k n cap i (k + 1)) 39 [viewZ n f]) (less_seenP (clo_all (k := 1) (by kernel_rfl)) viewZ_clo (Nat.le_refl 1) (by kernel_rfl) (by kernel_rfl) (by kernel_rfl) (by kernel_rfl)) ?_
      refine inner20 hn hi d (k + 1) (by omega) fun j hj' => ?_
      by_cases e : j = k
      · subst e
        intro q
        rw [q, eqF_eq, beq_self_eq_true] at hq
        cases hq
      · exact hj j (by omega)

theorem outer20 (hn : n < 100000) : ∀ d i, i + d = n →
    Runs Tryz.prog 1 lo20 (sth (S20 n cap i) 39 [viewZ n f]) fun e af => (e = .exit 0 ∧ scanF f n d i = 0 ∧ Less 1 (sth [(0, slV n cap)] 39 [viewZ n f]) af) ∨ (e = .ret ∧ scanF f n d i ≠ 0 ∧ af.tm.get 2 = some (.int .i64 (scanF f n d i)))
  | 0, i, h => by
    have e : i = n := by omega
    subst e
    refine Runs.lp (by kernel_rfl) (Runs.sq (by kernel_rfl) (Runs.sqR mixed hk38 [] (by kernel_rfl) (by kernel_rfl) (by kernel_rfl) oblN ?_))
    refine Runs.cd (b := ltF (.ofNat i) (.ofNat i)) (by kernel_rfl) (fun ht => by rw [lt_self] at ht; cases ht) (fun _ => Runs.now (x := .exit 0) (by kernel_rfl) (.inl ⟨rfl, rfl, ?_⟩))
    exact less_seenP (clo_all (k := 1) (by kernel_rfl)) viewZ_clo (Nat.le_refl 1) (by kernel_rfl) (by kernel_rfl) (by kernel_rfl) (by kernel_rfl)
  | d + 1, i, h => by
    have hlt : i < n := by omega
    have e1 : wrapF .i64 (Int.add (.ofNat i) (.ofNat 1)) = .ofNat (i + 1) := wrap_addN (by omega)
    have hin := in_says (f i) 1 (.ofNat n) (hp [viewZ n f])
    refine Runs.lp (by kernel_rfl) (Runs.sq (by kernel_rfl) (Runs.sqR mixed hk38 [] (by kernel_rfl) (by kernel_rfl) (by kernel_rfl) oblN ?_))
    refine Runs.cd (b := ltF (.ofNat i) (.ofNat n)) (by kernel_rfl) (fun _ => Runs.now (x := .normal) (by kernel_rfl) ?_) (fun hf => by rw [lt_of hlt] at hf; cases hf)
    show Runs Tryz.prog 1 _ _ _
    refine Runs.sq (by kernel_rfl) (Runs.bk (id := 1) (by kernel_rfl) ?_)
    rw [scanF]
    cases ho : outZ (f i) 1 (.ofNat n) with
    | true =>
      rw [ho] at hin
      refine Runs.sq (by kernel_rfl) (Runs.sqR mixed hk38 [viaV 2 (.pointer (some ⟨0, 0 + i * 1, none⟩)), viaV 3 (.int .i64 (f i)), viaC 6 53 [.int .i64 (f i), i64 1, i64 n] (.bool false)] (by kernel_rfl) (by kernel_rfl) (by kernel_rfl)
        (oblC (shown_idx (n := n) (i := i) (by kernel_rfl) hlt) (oblC (shown_cell (by kernel_rfl) (intZ_at (g := 0) (n := n) (i := i) (f := f) (lv := false) (par := []) (ty := none) (by kernel_rfl) hlt))
        (oblC (shown_callE (h0 := hp [viewZ n f]) (by kernel_rfl) (by kernel_rfl) hin) oblN))) ?_)
      refine Runs.cd (b := true) (by kernel_rfl) (fun _ => ?_) (fun h => by cases h)
      rw [if_pos rfl]
      exact Runs.sqR mixed hk38 [] (by kernel_rfl) (by kernel_rfl) (by kernel_rfl) oblN (Runs.now (x := .ret) (by kernel_rfl) (.inr ⟨rfl, by decide, by kernel_rfl⟩))
    | false =>
      rw [ho] at hin
      refine Runs.sq (by kernel_rfl) (Runs.sqR mixed hk38 [viaV 2 (.pointer (some ⟨0, 0 + i * 1, none⟩)), viaV 3 (.int .i64 (f i)), viaC 6 53 [.int .i64 (f i), i64 1, i64 n] (.bool true)] (by kernel_rfl) (by kernel_rfl) (by kernel_rfl)
        (oblC (shown_idx (n := n) (i := i) (by kernel_rfl) hlt) (oblC (shown_cell (by kernel_rfl) (intZ_at (g := 0) (n := n) (i := i) (f := f) (lv := false) (par := []) (ty := none) (by kernel_rfl) hlt))
        (oblC (shown_callE (h0 := hp [viewZ n f]) (by kernel_rfl) (by kernel_rfl) hin) oblN))) ?_)
      refine Runs.cd (b := false) (by kernel_rfl) (fun h => by cases h) (fun _ => Runs.now (x := .normal) (by kernel_rfl) ?_)
      rw [if_neg (by simp)]
      show Runs Tryz.prog 1 _ _ _
      refine Runs.sqR mixed hk38 [] (by kernel_rfl) (by kernel_rfl) (by kernel_rfl) oblN (Runs.bk (id := 2) (by kernel_rfl) ?_)
      refine Runs.less (af1 := sth (S20k n cap i 0) 39 [viewZ n f]) (less_seenP (clo_all (k := 1) (by kernel_rfl)) viewZ_clo (Nat.le_refl 1) (by kernel_rfl) (by kernel_rfl) (by kernel_rfl) (by kernel_rfl)) ?_
      show Runs Tryz.prog 1 li20 _ _
      refine (inner20 hn hlt i 0 (by omega) (fun j hj => by omega)).mono fun e af hx => ?_
      rcases hx with ⟨rfl, hall, less⟩ | ⟨rfl, hex, ht⟩
      · have hm : memZ f (f i) i = false := by
          cases hm : memZ f (f i) i with
          | false => rfl
          | true =>
            obtain ⟨j, a, b⟩ := (mem_iff f (f i) i).1 hm
            exact absurd b (hall j a)
        rw [hm, if_neg (by simp)]
        show Runs Tryz.prog 1 _ af _
        refine Runs.less less ?_
        refine Runs.rg mixed hk38 [viaV 1 (i64 (i + 1))] (by kernel_rfl) (by kernel_rfl) (by kernel_rfl) (oblC (shown_eq (v := .int .i64 (wrapF .i64 (Int.add (.ofNat i) (.ofNat 1)))) (by kernel_rfl) (by kernel_rfl) (by rw [e1]; rfl)) oblN) ?_
        show Runs Tryz.prog 1 lo20 _ _
        refine Runs.less (af1 := sth (S20 n cap (i + 1)) 39 [viewZ n f]) (less_seenP (clo_all (k := 1) (by kernel_rfl)) viewZ_clo (Nat.le_refl 1) (by kernel_rfl) (by kernel_rfl) (by kernel_rfl) (by kernel_rfl)) ?_
        exact outer20 hn d (i + 1) (by omega)
      · have hm : memZ f (f i) i = true := by
          obtain ⟨j, a, b⟩ := hex
          exact (mem_iff f (f i) i).2 ⟨j, a, b⟩
        rw [hm, if_pos rfl]
        exact .inr ⟨rfl, by decide, ht⟩

theorem scan_zero {f : Nat → Int} {n : Nat} : ∀ d i, i + d = n → scanF f n d i = 0 → ∀ j, i ≤ j → j < n → outZ (f j) 1 (.ofNat n) = false ∧ memZ f (f j) j = false
  | 0, i, h, _, j, h1, h2 => by omega
  | d + 1, i, h, hs, j, h1, h2 => by
    rw [scanF] at hs
    by_cases ho : outZ (f i) 1 (.ofNat n) = true
    · rw [if_pos ho] at hs; cases hs
    · rw [if_neg ho] at hs
      by_cases hm : memZ f (f i) i = true
      · rw [if_pos hm] at hs; cases hs
      · rw [if_neg hm] at hs
        by_cases e : j = i
        · subst e
          exact ⟨by simpa using ho, by simpa using hm⟩
        · exact scan_zero d (i + 1) (by omega) hs j (by omega) h2
theorem scan_inj {f : Nat → Int} {n : Nat} (hs : scanF f n n 0 = 0) : (∀ a b, a < n → b < n → f a = f b → a = b) ∧ ∀ k, k < n → 0 < f k := by
  have key := scan_zero n 0 (by omega) hs
  have no : ∀ a b, a < b → b < n → f a ≠ f b := fun a b h1 h2 e => by
    have := (key b (Nat.zero_le _) h2).2
    rw [(mem_iff f (f b) b).2 ⟨a, h1, e⟩] at this
    cases this
  refine ⟨fun a b ha hb e => ?_, fun k hk => ?_⟩
  · rcases Nat.lt_trichotomy a b with q | q | q
    · exact absurd e (no a b q hb)
    · exact q
    · exact absurd e.symm (no b a q ha)
  · have := (key k (Nat.zero_le _) hk).1
    unfold outZ at this
    rw [Bool.or_eq_false_iff] at this
    have := ltF_not.1 this.1
    omega
/-- Check in both texts. -/
theorem check_ref (hc : n ≤ cap) (hn : n < 100000) : Local Tryz.prog 1 20 [slV n cap] (hp [viewZ n f]) fun v' _ => v' = .int .i64 (chkN f n) := by
  refine local_of noNum Tryz.func20 (show Tryz.f20.body = some q20 by kernel_rfl) ?_
  refine Runs.sqR mixed hk38 [] (by kernel_rfl) (by kernel_rfl) (by kernel_rfl) oblN ?_
  refine Runs.sq (by kernel_rfl) (Runs.sqR mixed hk38 [] (by kernel_rfl) (by kernel_rfl) (by kernel_rfl) oblN ?_)
  refine Runs.cd (b := ltF (.ofNat 12) (.ofNat n)) (by kernel_rfl) (fun h12 => ?_) (fun h12 => Runs.now (x := .normal) (by kernel_rfl) ?_)
  · have e : chkN f n = 3 := by unfold chkN; rw [if_pos (ltN_yes h12)]
    rw [e]
    exact Runs.sqR mixed hk38 [] (by kernel_rfl) (by kernel_rfl) (by kernel_rfl) oblN (Runs.now (x := .ret) (by kernel_rfl) ⟨.inr rfl, [i64 3], by kernel_rfl, rfl⟩)
  · have e : chkN f n = if scanF f n n 0 = 0 then (if stackF f n 0 0 [] then 0 else 7) else scanF f n n 0 := by unfold chkN; rw [if_neg (ltN_no h12)]
    rw [e]
    show Runs Tryz.prog 1 _ _ _
    refine Runs.sq (by kernel_rfl) (Runs.sqR mixed hk38 [] (by kernel_rfl) (by kernel_rfl) (by kernel_rfl) oblN (Runs.bk (id := 0) (by kernel_rfl) ?_))
    refine Runs.less (af1 := sth (S20 n cap 0) 39 [viewZ n f]) (less_seenP (clo_all (k := 1) (by kernel_rfl)) viewZ_clo (Nat.le_refl 1) (by kernel_rfl) (by kernel_rfl) (by kernel_rfl) (by kernel_rfl)) ?_
    show Runs Tryz.prog 1 lo20 _ _
    refine (outer20 hn n 0 (by omega)).mono fun e af hx => ?_
    rcases hx with ⟨rfl, hz, less⟩ | ⟨rfl, hne, ht⟩
    · obtain ⟨inj, pos⟩ := scan_inj hz
      have ep : stackF f n 0 0 [] = planL n (lstF f n) := by rw [stack_tri f n inj pos, tri_plan inj]
      rw [if_pos hz, ep]
      have hp := at_view_flat (f := f) (post := []) (v := .bool (planL n (lstF f n))) hc (fun cap' _ => plan_all n n cap' f (Nat.le_refl n) hn) (fun _ _ r => r) rfl noP
      show Runs Tryz.prog 1 (behind 3 q20) af _
      refine Runs.less less ?_
      refine Runs.sq (by kernel_rfl) (Runs.sqR mixed hk38 [viaC 1 54 [slV n cap] (.bool (planL n (lstF f n)))] (by kernel_rfl) (by kernel_rfl) (by kernel_rfl) (oblC (shown_callE (h0 := Go.R.hp [viewZ n f]) (by kernel_rfl) (by kernel_rfl) hp) oblN) ?_)
      refine Runs.cd (b := !(planL n (lstF f n))) (by kernel_rfl) (fun ht => ?_) (fun hf => Runs.now (x := .normal) (by kernel_rfl) ?_)
      · rw [Bool.not_eq_true'] at ht
        rw [ht, if_neg (by simp)]
        exact Runs.sqR mixed hk38 [] (by kernel_rfl) (by kernel_rfl) (by kernel_rfl) oblN (Runs.now (x := .ret) (by kernel_rfl) ⟨.inr rfl, [i64 7], by kernel_rfl, rfl⟩)
      · rw [Bool.not_eq_false'] at hf
        rw [hf, if_pos rfl]
        show Runs Tryz.prog 1 _ _ _
        exact Runs.sqR mixed hk38 [] (by kernel_rfl) (by kernel_rfl) (by kernel_rfl) oblN (Runs.now (x := .ret) (by kernel_rfl) ⟨.inr rfl, [i64 0], by kernel_rfl, rfl⟩)
    · rw [if_neg hne]
      refine ⟨.inr rfl, [.int .i64 (scanF f n n 0)], ?_, rfl⟩
      have e0 : Tryz.f20.results.toList = [.tmp 2] := by kernel_rfl
      rw [e0]
      simp only [resultsA, ht]
theorem check_ref_says (hc : n ≤ cap) (hn : n < 100000) : Says Tryz.prog (hp [viewZ n f]) 20 [slV n cap] (.int .i64 (chkN f n)) (hp [viewZ n f]) :=
  at_view_flat (post := []) hc (fun cap' hc' => check_ref hc' hn) (fun _ _ r => r) rfl noP

/-! ### asked -/
noncomputable def q42 : Code := bodyOf Tryz.f42
theorem asked_ref (hc : n ≤ cap) (hn : n < 100000) (x : Int) : Local Tryz.prog 1 42 [slV n cap, .int .i64 x] (hp [viewZ n f]) fun v' _ => v' = .int .i64 (askZ f n x) := by
  refine local_of noNum Tryz.func42 (show Tryz.f42.body = some q42 by kernel_rfl) ?_
  refine Runs.sqR mixed hk38 [] (by kernel_rfl) (by kernel_rfl) (by kernel_rfl) oblN ?_
  have hS := check_ref_says (f := f) hc hn
  by_cases hz : chkN f n = 0
  · rw [hz] at hS
    have hin := in_says x 0 (.ofNat n) (hp [viewZ n f])
    refine Runs.sqR mixed hk38 [viaC 1 20 [slV n cap] (i64 0)] (by kernel_rfl) (by kernel_rfl) (by kernel_rfl) (oblC (shown_callE (h0 := hp [viewZ n f]) (by kernel_rfl) (by kernel_rfl) hS) oblN) ?_
    unfold askZ
    rw [if_pos hz]
    cases ho : outZ x 0 (.ofNat n) with
    | true =>
      rw [ho] at hin
      refine Runs.sq (by kernel_rfl) (Runs.sqR mixed hk38 [viaC 6 53 [.int .i64 x, i64 0, i64 n] (.bool false)] (by kernel_rfl) (by kernel_rfl) (by kernel_rfl) (oblC (shown_callE (h0 := hp [viewZ n f]) (by kernel_rfl) (by kernel_rfl) hin) oblN) ?_)
      refine Runs.cd (b := true) (by kernel_rfl) (fun _ => ?_) (fun h => by cases h)
      refine Runs.rg mixed hk38 [] (by kernel_rfl) (by kernel_rfl) (by kernel_rfl) oblN ?_
      show Runs Tryz.prog 1 _ _ _
      exact Runs.sqR mixed hk38 [] (by kernel_rfl) (by kernel_rfl) (by kernel_rfl) oblN (Runs.now (x := .ret) (by kernel_rfl) ⟨.inr rfl, [i64 2], by kernel_rfl, rfl⟩)
    | false =>
      rw [ho] at hin
      refine Runs.sq (by kernel_rfl) (Runs.sqR mixed hk38 [viaC 6 53 [.int .i64 x, i64 0, i64 n] (.bool true)] (by kernel_rfl) (by kernel_rfl) (by kernel_rfl) (oblC (shown_callE (h0 := hp [viewZ n f]) (by kernel_rfl) (by kernel_rfl) hin) oblN) ?_)
      refine Runs.cd (b := false) (by kernel_rfl) (fun h => by cases h) (fun _ => Runs.now (x := .normal) (by kernel_rfl) ?_)
      show Runs Tryz.prog 1 _ _ _
      exact Runs.sqR mixed hk38 [] (by kernel_rfl) (by kernel_rfl) (by kernel_rfl) oblN (Runs.now (x := .ret) (by kernel_rfl) ⟨.inr rfl, [i64 0], by kernel_rfl, rfl⟩)
  · have hne : eqF (chkN f n) 0 = false := by rw [eqF_eq, beq_eq_false_iff_ne]; exact hz
    refine Runs.sqR mixed hk38 [viaC 1 20 [slV n cap] (.int .i64 (chkN f n))] (by kernel_rfl) (by kernel_rfl) (by kernel_rfl) (oblC (shown_callE (h0 := hp [viewZ n f]) (by kernel_rfl) (by kernel_rfl) hS) oblN) ?_
    unfold askZ
    rw [if_neg hz]
    refine Runs.sq (by kernel_rfl) (Runs.sqR mixed hk38 [viaV 1 (.bool false)] (by kernel_rfl) (by kernel_rfl) (by kernel_rfl) (oblC (shown_eq (v := .bool (eqF (chkN f n) 0)) (by kernel_rfl) (by kernel_rfl) (by rw [hne])) oblN) ?_)
    refine Runs.cd (b := false) (by kernel_rfl) (fun h => by cases h) (fun _ => Runs.now (x := .normal) (by kernel_rfl) ?_)
    show Runs Tryz.prog 1 _ _ _
    exact Runs.sqR mixed hk38 [] (by kernel_rfl) (by kernel_rfl) (by kernel_rfl) oblN (Runs.now (x := .ret) (by kernel_rfl) ⟨.inr rfl, [.int .i64 (chkN f n)], by kernel_rfl, rfl⟩)
theorem asked_ref_says (hc : n ≤ cap) (hn : n < 100000) (x : Int) : Says Tryz.prog (hp [viewZ n f]) 42 [slV n cap, .int .i64 x] (.int .i64 (askZ f n x)) (hp [viewZ n f]) :=
  at_view_flat (post := [.int .i64 x]) hc (fun cap' hc' => asked_ref hc' hn x) (fun _ _ r => r) rfl (onlyP rfl)
end
end
end Go.Proofs.YtgnkjmgkfibipaaGreatDoor

/- TrialPlans: the reference's Run, Word and Words. -/
namespace Go.Proofs.YtgnkjmgkfibipaaGreatDoor
set_option linter.unusedVariables false
set_option linter.unusedSimpArgs false
open Go Go.R
set_option maxRecDepth 1000000
noncomputable section
section
variable {n cap : Nat} {f : Nat → Int}
theorem chk_zero (h : chkN f n = 0) : n ≤ 12 ∧ scanF f n n 0 = 0 ∧ stackF f n 0 0 [] = true := by
  unfold chkN at h
  by_cases h12 : 12 < n
  · rw [if_pos h12] at h; cases h
  · rw [if_neg h12] at h
    by_cases hz : scanF f n n 0 = 0
    · rw [if_pos hz] at h
      cases hs : stackF f n 0 0 [] with
      | true => exact ⟨by omega, hz, rfl⟩
      | false => rw [hs] at h; cases h
    · rw [if_neg hz] at h; exact absurd h hz
theorem go_run (h : chkN f n = 0) (x : Int) : goL n (lstF f n) x = runF f n x := by
  obtain ⟨h12, hz, hs⟩ := chk_zero h
  obtain ⟨inj, pos⟩ := scan_inj hz
  have hp : planL n (lstF f n) = true := by rw [tri_plan inj, ← stack_tri f n inj pos]; exact hs
  have nd : (lstF f n).Nodup := List.pairwise_iff_getElem.2 fun a b ha hb hab e => by
    rw [lstF_at, lstF_at] at e
    have := inj a b (by simpa [lstF_len] using ha) (by simpa [lstF_len] using hb) e
    omega
  unfold runF
  rw [folF_folI f n x n 0 0 (.ofNat n) (by omega), List.drop_zero]
  refine (fol_go x n (lstF f n) 0 (.ofNat n) (by rw [lstF_len]; exact Nat.le_refl n) nd hp fun y hy => ?_).symm
  obtain ⟨i, hi, rfl⟩ := List.mem_iff_getElem.1 hy
  rw [lstF_at]
  rw [lstF_len] at hi
  have := (scan_zero n 0 (by omega) hz i (Nat.zero_le _) hi).1
  unfold outZ at this
  rw [Bool.or_eq_false_iff] at this
  have a := ltF_not.1 this.1
  have b := ltF_not.1 this.2
  exact ⟨by omega, b⟩
theorem ask_zero {x : Int} (h : askZ f n x = 0) : chkN f n = 0 := by
  unfold askZ at h
  by_cases hz : chkN f n = 0
  · exact hz
  · rw [if_neg hz] at h; exact h

/-! ### Run -/
theorem run_ref (hc : n ≤ cap) (hn : n < 100000) (h1 : 1 ≤ n) (h : chkN f n = 0) (x : Int) : Says Tryz.prog (hp [viewZ n f]) 43 [slV n cap, .int .i64 x] (bldV 1 (runF f n x).length) ((hp [viewZ n f]).new (rowT (runF f n x))).2 := by
  rw [← go_run h]
  exact at_view_new (post := [.int .i64 x]) (n1 := (goL n (lstF f n) x).length) (e1 := none) hc (fun cap' _ => run_all n n cap' f x h1 (Nat.le_refl n) hn) (litZ_len _) (litZ_plain _) (fun v hv => by cases hv) (onlyP rfl)
noncomputable def q8 : Code := bodyOf Tryz.f8
theorem Run_ref_bad (hc : n ≤ cap) (hn : n < 100000) {x : Int} (hx : askZ f n x ≠ 0) : Local Tryz.prog 1 8 [slV n cap, .int .i64 x] (hp [viewZ n f]) fun v' _ => v' = .tuple #[.slice none 0 0, .int .i64 (askZ f n x)] := by
  refine local_of noNum Tryz.func8 (show Tryz.f8.body = some q8 by kernel_rfl) ?_
  refine Runs.sqR mixed hk38 [] (by kernel_rfl) (by kernel_rfl) (by kernel_rfl) oblN ?_
  have hne : (!(eqF (askZ f n x) 0)) = true := by
    cases h : eqF (askZ f n x) 0 with
    | false => rfl
    | true => rw [eqF_eq] at h; exact absurd (eq_of_beq h) hx
  refine Runs.sqR mixed hk38 [viaC 2 42 [slV n cap, .int .i64 x] (.int .i64 (askZ f n x))] (by kernel_rfl) (by kernel_rfl) (by kernel_rfl) (oblC (shown_callE (h0 := hp [viewZ n f]) (by kernel_rfl) (by kernel_rfl) (asked_ref_says hc hn x)) oblN) ?_
  refine Runs.sq (by kernel_rfl) (Runs.sqR mixed hk38 [viaV 1 (.bool true)] (by kernel_rfl) (by kernel_rfl) (by kernel_rfl) (oblC (shown_eq (v := .bool (!(eqF (askZ f n x) 0))) (by kernel_rfl) (by kernel_rfl) (by rw [hne])) oblN) ?_)
  refine Runs.cd (b := true) (by kernel_rfl) (fun _ => ?_) (fun h => by cases h)
  exact Runs.sqR mixed hk38 [] (by kernel_rfl) (by kernel_rfl) (by kernel_rfl) oblN (Runs.now (x := .ret) (by kernel_rfl) ⟨.inr rfl, [.slice none 0 0, .int .i64 (askZ f n x)], by kernel_rfl, rfl⟩)
theorem Run_ref (hc : n ≤ cap) (hn : n < 100000) (h1 : 1 ≤ n) {x : Int} (hx : askZ f n x = 0) : Local Tryz.prog 1 8 [slV n cap, .int .i64 x] (hp [viewZ n f]) (IsRow (runF f n x).length (litZ (runF f n x)) (some 3) (some (i64 0))) := by
  refine local_of noNum Tryz.func8 (show Tryz.f8.body = some q8 by kernel_rfl) ?_
  refine Runs.sqR mixed hk38 [] (by kernel_rfl) (by kernel_rfl) (by kernel_rfl) oblN ?_
  have hS := asked_ref_says (f := f) hc hn x
  rw [hx] at hS
  refine Runs.sqR mixed hk38 [viaC 2 42 [slV n cap, .int .i64 x] (i64 0)] (by kernel_rfl) (by kernel_rfl) (by kernel_rfl) (oblC (shown_callE (h0 := hp [viewZ n f]) (by kernel_rfl) (by kernel_rfl) hS) oblN) ?_
  refine Runs.sq (by kernel_rfl) (Runs.sqR mixed hk38 [] (by kernel_rfl) (by kernel_rfl) (by kernel_rfl) oblN ?_)
  refine Runs.cd (b := false) (by kernel_rfl) (fun h => by cases h) (fun _ => Runs.now (x := .normal) (by kernel_rfl) ?_)
  show Runs Tryz.prog 1 _ _ _
  have hr := run_ref (f := f) hc hn h1 (ask_zero hx) x
  generalize runF f n x = T at *
  refine Runs.sqR mixed hk38 [viaH 2 43 [slV n cap, .int .i64 x] (bldV 1 T.length) ((hp [viewZ n f]).new (rowT T)).2] (by kernel_rfl) (by kernel_rfl) (by kernel_rfl) (oblC (shown_callHE (h0 := hp [viewZ n f]) (by kernel_rfl) (by kernel_rfl) hr) oblN) ?_
  exact Runs.now (x := .ret) (by kernel_rfl) ⟨.inr rfl, [bldV 1 T.length, i64 0], by kernel_rfl, 1, [], .inl rfl, by kernel_rfl⟩

/-! ### word -/
noncomputable def q45 : Code := bodyOf Tryz.f45
noncomputable def lp45w : Code := within (tl (hd (behind 3 q45)))
noncomputable def S45w (T : List Int) (x : Int) (w : ByteArray) (i : Nat) : List (Nat × Value) := [(1, .int .i64 x), (5, bldV 1 T.length), (6, .string w), (7, i64 i)]
theorem rt_clo {T : List Int} : ∀ o ∈ [viewZ n f, rowT T], CloO 2 o := fun o ho => by
  simp only [List.mem_cons, List.mem_nil_iff, or_false] at ho
  rcases ho with rfl | rfl
  · exact cloO_plain (intsZ_plain n f) _ _
  · exact rowT_clo T 2
theorem word_take (T : List Int) (x : Int) {i : Nat} (hi : i < T.length) : wordOf x (T.take (i + 1)) = wordOf x (T.take i) ++ [byteW (ltF x (T.getD i 0))] := by
  unfold wordOf
  rw [List.take_add_one, List.map_append, List.getElem?_eq_getElem hi, List.getD_eq_getElem?_getD, List.getElem?_eq_getElem hi]
  rfl
theorem word_loop (T : List Int) (x : Int) (hT : T.length < 100000) : ∀ d i, i + d = T.length →
    Runs Tryz.prog 1 lp45w (sth (S45w T x (strB (wordOf x (T.take i))) i) 28 [viewZ n f, rowT T]) fun e af => e = .exit 0 ∧ Less 1 (sth [(6, .string (strB (wordOf x T)))] 28 [viewZ n f, rowT T]) af
  | 0, i, h => by
    have e : i = T.length := by omega
    subst e
    rw [List.take_length]
    refine Runs.lp (by kernel_rfl) (Runs.sq (by kernel_rfl) (Runs.sqR mixed hk38 [] (by kernel_rfl) (by kernel_rfl) (by kernel_rfl) oblN ?_))
    refine Runs.cd (b := ltF (.ofNat T.length) (.ofNat T.length)) (by kernel_rfl) (fun ht => by rw [lt_self] at ht; cases ht) (fun _ => Runs.now (x := .exit 0) (by kernel_rfl) ⟨rfl, ?_⟩)
    exact less_seenP (clo_all (k := 2) (by kernel_rfl)) rt_clo (show 1 ≤ 2 by decide) (by kernel_rfl) (by kernel_rfl) (by kernel_rfl) (by kernel_rfl)
  | d + 1, i, h => by
    have hlt : i < T.length := by omega
    have e1 : wrapF .i64 (Int.add (.ofNat i) (.ofNat 1)) = .ofNat (i + 1) := wrap_addN (by omega)
    have ih := word_loop T x hT d (i + 1) (by omega)
    rw [word_take T x hlt] at ih
    have hw : (strB (wordOf x (T.take i))).size < 1000000 := by
      rw [strB_size]
      have : (wordOf x (T.take i)).length = (T.take i).length := List.length_map _
      rw [this, List.length_take]
      omega
    refine Runs.lp (by kernel_rfl) (Runs.sq (by kernel_rfl) (Runs.sqR mixed hk38 [] (by kernel_rfl) (by kernel_rfl) (by kernel_rfl) oblN ?_))
    refine Runs.cd (b := ltF (.ofNat i) (.ofNat T.length)) (by kernel_rfl) (fun _ => Runs.now (x := .normal) (by kernel_rfl) ?_) (fun hf => by rw [lt_of hlt] at hf; cases hf)
    show Runs Tryz.prog 1 _ _ _
    refine Runs.sq (by kernel_rfl) (Runs.bk (id := 1) (by kernel_rfl) ?_)
    refine Runs.sqR mixed hk38 [viaV 2 (.pointer (some ⟨1, 0 + i * 1, none⟩)), viaV 3 (.int .i64 (T.getD i 0))] (by kernel_rfl) (by kernel_rfl) (by kernel_rfl)
      (oblC (shown_idx (n := T.length) (i := i) (by kernel_rfl) hlt) (oblC (shown_cell (by kernel_rfl) (rowT_at (g := 1) (T := T) (i := i) (lv := true) (par := []) (ty := some 3) (by kernel_rfl) hlt)) oblN)) ?_
    refine Runs.cd (b := ltF x (T.getD i 0)) (by kernel_rfl) (fun hb => ?_) (fun hb => ?_)
    · rw [hb, strB_snoc _ (byteW true) 98 rfl] at ih
      generalize strB (wordOf x (T.take i)) = w at *
      refine Runs.rg mixed hk38 [viaV 1 (.string (w ++ ⟨#[98]⟩))] (by kernel_rfl) (by kernel_rfl) (by kernel_rfl) (oblC ⟨by kernel_rfl, (show _ = (strBin .add w ⟨#[98]⟩).map (·, hp [viewZ n f, rowT T]) by kernel_rfl).trans (by rw [str_add 98 hw]; rfl)⟩ oblN) ?_
      show Runs Tryz.prog 1 _ _ _
      refine Runs.rg mixed hk38 [viaV 1 (i64 (i + 1))] (by kernel_rfl) (by kernel_rfl) (by kernel_rfl) (oblC (shown_eq (v := .int .i64 (wrapF .i64 (Int.add (.ofNat i) (.ofNat 1)))) (by kernel_rfl) (by kernel_rfl) (by rw [e1]; rfl)) oblN) ?_
      show Runs Tryz.prog 1 lp45w _ _
      exact Runs.less (less_seenP (clo_all (k := 2) (by kernel_rfl)) rt_clo (show 1 ≤ 2 by decide) (by kernel_rfl) (by kernel_rfl) (by kernel_rfl) (by kernel_rfl)) ih
    · rw [hb, strB_snoc _ (byteW false) 115 rfl] at ih
      generalize strB (wordOf x (T.take i)) = w at *
      refine Runs.rg mixed hk38 [viaV 1 (.string (w ++ ⟨#[115]⟩))] (by kernel_rfl) (by kernel_rfl) (by kernel_rfl) (oblC ⟨by kernel_rfl, (show _ = (strBin .add w ⟨#[115]⟩).map (·, hp [viewZ n f, rowT T]) by kernel_rfl).trans (by rw [str_add 115 hw]; rfl)⟩ oblN) ?_
      show Runs Tryz.prog 1 _ _ _
      refine Runs.rg mixed hk38 [viaV 1 (i64 (i + 1))] (by kernel_rfl) (by kernel_rfl) (by kernel_rfl) (oblC (shown_eq (v := .int .i64 (wrapF .i64 (Int.add (.ofNat i) (.ofNat 1)))) (by kernel_rfl) (by kernel_rfl) (by rw [e1]; rfl)) oblN) ?_
      show Runs Tryz.prog 1 lp45w _ _
      exact Runs.less (less_seenP (clo_all (k := 2) (by kernel_rfl)) rt_clo (show 1 ≤ 2 by decide) (by kernel_rfl) (by kernel_rfl) (by kernel_rfl) (by kernel_rfl)) ih
theorem word_ref_local (hc : n ≤ cap) (hn : n < 100000) (h1 : 1 ≤ n) (h : chkN f n = 0) (x : Int) : Local Tryz.prog 1 45 [slV n cap, .int .i64 x] (hp [viewZ n f]) fun v' _ => v' = .string (strB (wordF f n x)) := by
  refine local_of noNum Tryz.func45 (show Tryz.f45.body = some q45 by kernel_rfl) ?_
  have hr := run_ref (f := f) hc hn h1 h x
  have hl : (runF f n x).length ≤ n := folF_len f x n 0 0 _
  have ew : strB (wordF f n x) = strB (wordOf x (runF f n x)) := rfl
  rw [ew]
  generalize runF f n x = T at *
  refine Runs.sqR mixed hk38 [] (by kernel_rfl) (by kernel_rfl) (by kernel_rfl) oblN ?_
  refine Runs.sqR mixed hk38 [viaH 2 43 [slV n cap, .int .i64 x] (bldV 1 T.length) ((hp [viewZ n f]).new (rowT T)).2] (by kernel_rfl) (by kernel_rfl) (by kernel_rfl) (oblC (shown_callHE (h0 := hp [viewZ n f]) (by kernel_rfl) (by kernel_rfl) hr) oblN) ?_
  refine Runs.sqR mixed hk38 [] (by kernel_rfl) (by kernel_rfl) (by kernel_rfl) oblN ?_
  refine Runs.sq (by kernel_rfl) (Runs.sqR mixed hk38 [] (by kernel_rfl) (by kernel_rfl) (by kernel_rfl) oblN (Runs.bk (id := 0) (by kernel_rfl) ?_))
  refine Runs.less (af1 := sth (S45w T x (strB (wordOf x (T.take 0))) 0) 28 [viewZ n f, rowT T]) (less_seenP (clo_all (k := 2) (by kernel_rfl)) rt_clo (show 1 ≤ 2 by decide) (by kernel_rfl) (by kernel_rfl) (by kernel_rfl) (by kernel_rfl)) ?_
  show Runs Tryz.prog 1 lp45w _ _
  refine (word_loop T x (by omega) T.length 0 (by omega)).mono fun e af hx => ?_
  obtain ⟨rfl, less⟩ := hx
  show Runs Tryz.prog 1 (behind 4 q45) af _
  refine Runs.less less (Runs.sqR mixed hk38 [] (by kernel_rfl) (by kernel_rfl) (by kernel_rfl) oblN ?_)
  exact Runs.now (x := .ret) (by kernel_rfl) ⟨.inr rfl, [.string (strB (wordOf x T))], by kernel_rfl, rfl⟩
theorem word_ref {h : AH} {lv : Bool} {par : List Nat} {ty : Option TypeId} (hc : n ≤ cap) (hn : n < 100000) (h1 : 1 ≤ n) (hz : chkN f n = 0) (x : Int) (hg : h.get 0 = .cells (intsZ n f) lv par ty) : Says Tryz.prog h 45 [slV n cap, .int .i64 x] (.string (strB (wordF f n x))) h :=
  tell_flat (P := Tryz.prog) (pre := []) (post := [.int .i64 x]) (i := 0) (o := 0) (n := n) (s := slV n cap) (c := intsZ n f) (cells := intsZ n f) (lv := lv) (par := par) (ty := ty) (R := fun v' _ => v' = .string (strB (wordF f n x))) (fun cap' hc' => word_ref_local hc' hn h1 hz x) (fun _ _ r => r) rfl hg (fun k u h => by rw [Nat.zero_add]; exact h) (by rw [Nat.zero_add]; exact Nat.le_refl _) (intsZ_plain n f) (view_at hc) (fun v h => by cases h) (onlyP rfl)

/-! ### Word -/
noncomputable def q10 : Code := bodyOf Tryz.f10
theorem Word_ref_bad (hc : n ≤ cap) (hn : n < 100000) {x : Int} (hx : askZ f n x ≠ 0) : Local Tryz.prog 1 10 [slV n cap, .int .i64 x] (hp [viewZ n f]) fun v' _ => v' = .tuple #[.string ⟨#[]⟩, .int .i64 (askZ f n x)] := by
  refine local_of noNum Tryz.func10 (show Tryz.f10.body = some q10 by kernel_rfl) ?_
  refine Runs.sqR mixed hk38 [] (by kernel_rfl) (by kernel_rfl) (by kernel_rfl) oblN ?_
  have hne : (!(eqF (askZ f n x) 0)) = true := by
    cases h : eqF (askZ f n x) 0 with
    | false => rfl
    | true => rw [eqF_eq] at h; exact absurd (eq_of_beq h) hx
  refine Runs.sqR mixed hk38 [viaC 2 42 [slV n cap, .int .i64 x] (.int .i64 (askZ f n x))] (by kernel_rfl) (by kernel_rfl) (by kernel_rfl) (oblC (shown_callE (h0 := hp [viewZ n f]) (by kernel_rfl) (by kernel_rfl) (asked_ref_says hc hn x)) oblN) ?_
  refine Runs.sq (by kernel_rfl) (Runs.sqR mixed hk38 [viaV 1 (.bool true)] (by kernel_rfl) (by kernel_rfl) (by kernel_rfl) (oblC (shown_eq (v := .bool (!(eqF (askZ f n x) 0))) (by kernel_rfl) (by kernel_rfl) (by rw [hne])) oblN) ?_)
  refine Runs.cd (b := true) (by kernel_rfl) (fun _ => ?_) (fun h => by cases h)
  exact Runs.sqR mixed hk38 [] (by kernel_rfl) (by kernel_rfl) (by kernel_rfl) oblN (Runs.now (x := .ret) (by kernel_rfl) ⟨.inr rfl, [.string ⟨#[]⟩, .int .i64 (askZ f n x)], by kernel_rfl, rfl⟩)
theorem Word_ref (hc : n ≤ cap) (hn : n < 100000) (h1 : 1 ≤ n) {x : Int} (hx : askZ f n x = 0) : Local Tryz.prog 1 10 [slV n cap, .int .i64 x] (hp [viewZ n f]) fun v' _ => v' = .tuple #[.string (strB (wordF f n x)), i64 0] := by
  refine local_of noNum Tryz.func10 (show Tryz.f10.body = some q10 by kernel_rfl) ?_
  refine Runs.sqR mixed hk38 [] (by kernel_rfl) (by kernel_rfl) (by kernel_rfl) oblN ?_
  have hS := asked_ref_says (f := f) hc hn x
  rw [hx] at hS
  refine Runs.sqR mixed hk38 [viaC 2 42 [slV n cap, .int .i64 x] (i64 0)] (by kernel_rfl) (by kernel_rfl) (by kernel_rfl) (oblC (shown_callE (h0 := hp [viewZ n f]) (by kernel_rfl) (by kernel_rfl) hS) oblN) ?_
  refine Runs.sq (by kernel_rfl) (Runs.sqR mixed hk38 [] (by kernel_rfl) (by kernel_rfl) (by kernel_rfl) oblN ?_)
  refine Runs.cd (b := false) (by kernel_rfl) (fun h => by cases h) (fun _ => Runs.now (x := .normal) (by kernel_rfl) ?_)
  show Runs Tryz.prog 1 _ _ _
  have hr := word_ref (f := f) (h := hp [viewZ n f]) (lv := false) (par := []) (ty := none) hc hn h1 (ask_zero hx) x (by kernel_rfl)
  refine Runs.sqR mixed hk38 [viaC 2 45 [slV n cap, .int .i64 x] (.string (strB (wordF f n x)))] (by kernel_rfl) (by kernel_rfl) (by kernel_rfl) (oblC (shown_callE (h0 := hp [viewZ n f]) (by kernel_rfl) (by kernel_rfl) hr) oblN) ?_
  exact Runs.now (x := .ret) (by kernel_rfl) ⟨.inr rfl, [.string (strB (wordF f n x)), i64 0], by kernel_rfl, rfl⟩

/-! ### words -/
noncomputable def q47 : Code := bodyOf Tryz.f47
noncomputable def lp47w : Code := within (tl (hd (behind 2 q47)))
noncomputable def S47w (n cap m : Nat) : List (Nat × Value) := [(0, slV n cap), (3, bldV 1 m), (4, i64 m)]
theorem words_ref_loop (hc : n ≤ cap) (hn : n < 100000) (h1 : 1 ≤ n) (hz : chkN f n = 0) : ∀ d m, m + d = n + 1 →
    Runs Tryz.prog 1 lp47w (sth (S47w n cap m) 18 [viewZ n f, rowS m (wordS f n)]) fun e af => e = .exit 0 ∧ Less 1 (sth [(3, bldV 1 (n + 1))] 18 [viewZ n f, rowS (n + 1) (wordS f n)]) af
  | 0, m, h => by
    have e : m = n + 1 := by omega
    subst e
    have no : leF (.ofNat (n + 1)) (.ofNat n) = false := by rw [leF_eq, decide_eq_false_iff_not]; show ¬ ((n + 1 : Nat) : Int) ≤ (n : Int); omega
    refine Runs.lp (by kernel_rfl) (Runs.sq (by kernel_rfl) (Runs.sqR mixed hk38 [viaV 3 (.bool false)] (by kernel_rfl) (by kernel_rfl) (by kernel_rfl) (oblC (shown_eq (v := .bool (leF (.ofNat (n + 1)) (.ofNat n))) (by kernel_rfl) (by kernel_rfl) (by rw [no])) oblN) ?_))
    refine Runs.cd (b := false) (by kernel_rfl) (fun ht => by cases ht) (fun _ => Runs.now (x := .exit 0) (by kernel_rfl) ⟨rfl, ?_⟩)
    exact less_seenP (clo_all (k := 2) (by kernel_rfl)) ws_clo (show 1 ≤ 2 by decide) (by kernel_rfl) (by kernel_rfl) (by kernel_rfl) (by kernel_rfl)
  | d + 1, m, h => by
    have yes : leF (.ofNat m) (.ofNat n) = true := by rw [leF_eq, decide_eq_true_eq]; exact Int.ofNat_le.2 (by omega)
    refine Runs.lp (by kernel_rfl) (Runs.sq (by kernel_rfl) (Runs.sqR mixed hk38 [viaV 3 (.bool true)] (by kernel_rfl) (by kernel_rfl) (by kernel_rfl) (oblC (shown_eq (v := .bool (leF (.ofNat m) (.ofNat n))) (by kernel_rfl) (by kernel_rfl) (by rw [yes])) oblN) ?_))
    refine Runs.cd (b := true) (by kernel_rfl) (fun _ => Runs.now (x := .normal) (by kernel_rfl) ?_) (fun hf => by cases hf)
    show Runs Tryz.prog 1 _ _ _
    refine Runs.sq (by kernel_rfl) (Runs.bk (id := 1) (by kernel_rfl) ?_)
    refine Runs.less (af1 := sth (S47w n cap m) 18 [viewZ n f, rowS m (wordS f n)]) (less_seenP (clo_all (k := 2) (by kernel_rfl)) ws_clo (show 1 ≤ 2 by decide) (by kernel_rfl) (by kernel_rfl) (by kernel_rfl) (by kernel_rfl)) ?_
    let H0 : AH := hp [viewZ n f, rowS m (wordS f n)]
    let H2 : AH := (H0.new (.cells [.string (wordS f n m)] true [] (some 9))).2
    have hap := push_gen (st := 30) (e := 9) (by kernel_rfl) str_info (h := H2) (i := 1) (j := 2) (x := .string (wordS f n m)) (par := []) rfl (strsV_len m (wordS f n)) (by omega) (by kernel_rfl) (by kernel_rfl)
    refine Runs.rg mixed hk38 [viaC 3 45 [slV n cap, i64 m] (.string (wordS f n m)), ⟨5, bldV 3 (m + 1), some ((H2.put 1 (.cells (strsV m (wordS f n)) false [] (some 9))).new (.cells (strsV m (wordS f n) ++ [Value.string (wordS f n m)]) true [1] (some 9))).2, none⟩] (by kernel_rfl) (by kernel_rfl) (by kernel_rfl)
      (oblC (shown_callE (h0 := H0) (by kernel_rfl) (by kernel_rfl) (word_ref (f := f) (lv := false) (par := []) (ty := none) hc hn h1 hz (.ofNat m) (by kernel_rfl)))
      (oblC ⟨by kernel_rfl, (show _ = appendA Tryz.prog #[30, 30] (.slice (some ⟨1, 0, some 1⟩) m m) (.slice (some ⟨2, 0, none⟩) 1 1) H2 by kernel_rfl).trans hap⟩ oblN)) ?_
    show Runs Tryz.prog 1 _ _ _
    refine Runs.rg mixed hk38 [viaV 1 (i64 (m + 1))] (by kernel_rfl) (by kernel_rfl) (by kernel_rfl) (oblC (shown_eq (v := .int .i64 (wrapF .i64 (Int.add (.ofNat m) (.ofNat 1)))) (by kernel_rfl) (by kernel_rfl) (by rw [wrap_succ (by omega)]; rfl)) oblN) ?_
    show Runs Tryz.prog 1 lp47w _ _
    exact Runs.renumK (sz := 18) (l := S47w n cap (m + 1)) (os := [viewZ n f, rowS (m + 1) (wordS f n)]) (fun j => match j with | 1 => 3 | j => j) (fun j => match j with | 3 => 1 | j => j) (by kernel_rfl) (show 1 ≤ 2 by decide) (by kernel_rfl) ⟨fun _ => .inl (Eq.trans (Eq.refl _) (by kernel_rfl)), fun h => (by cases h), trivial⟩ (by kernel_rfl) (by kernel_rfl) (by kernel_rfl) (by kernel_rfl)
      (obs2 (obs_view (by kernel_rfl)) (obs_rowS (p := [1]) (c := strsV m (wordS f n) ++ [Value.string (wordS f n m)]) (by kernel_rfl) (strsV_succ m (wordS f n)))) (words_ref_loop hc hn h1 hz d (m + 1) (by omega))

theorem words_ref_local (hc : n ≤ cap) (hn : n < 100000) (h1 : 1 ≤ n) (hz : chkN f n = 0) : Local Tryz.prog 1 47 [slV n cap] (hp [viewZ n f]) (IsRow (n + 1) (strsV (n + 1) (wordS f n)) (some 9) none) := by
  refine local_of noNum Tryz.func47 (show Tryz.f47.body = some q47 by kernel_rfl) ?_
  refine Runs.sqR mixed hk38 [] (by kernel_rfl) (by kernel_rfl) (by kernel_rfl) oblN ?_
  refine Runs.sqR mixed hk38 [] (by kernel_rfl) (by kernel_rfl) (by kernel_rfl) oblN ?_
  refine Runs.sq (by kernel_rfl) (Runs.sqR mixed hk38 [] (by kernel_rfl) (by kernel_rfl) (by kernel_rfl) oblN (Runs.bk (id := 0) (by kernel_rfl) ?_))
  have yes : leF (.ofNat 0) (.ofNat n) = true := by rw [leF_eq, decide_eq_true_eq]; exact Int.ofNat_le.2 (Nat.zero_le n)
  refine Runs.lp (by kernel_rfl) (Runs.sq (by kernel_rfl) (Runs.sqR mixed hk38 [viaV 3 (.bool true)] (by kernel_rfl) (by kernel_rfl) (by kernel_rfl) (oblC (shown_eq (v := .bool (leF (.ofNat 0) (.ofNat n))) (by kernel_rfl) (by kernel_rfl) (by rw [yes])) oblN) ?_))
  refine Runs.cd (b := true) (by kernel_rfl) (fun _ => Runs.now (x := .normal) (by kernel_rfl) ?_) (fun hf => by cases hf)
  show Runs Tryz.prog 1 _ _ _
  refine Runs.sq (by kernel_rfl) (Runs.bk (id := 1) (by kernel_rfl) ?_)
  refine Runs.less (af1 := sth [(0, slV n cap), (3, .slice none 0 0), (4, i64 0)] 18 [viewZ n f]) (less_seenP (clo_all (k := 1) (by kernel_rfl)) viewZ_clo (Nat.le_refl 1) (by kernel_rfl) (by kernel_rfl) (by kernel_rfl) (by kernel_rfl)) ?_
  refine Runs.rg mixed hk38 [viaC 3 45 [slV n cap, i64 0] (.string (wordS f n 0))] (by kernel_rfl) (by kernel_rfl) (by kernel_rfl)
    (oblC (shown_callE (h0 := hp [viewZ n f]) (by kernel_rfl) (by kernel_rfl) (word_ref (f := f) (lv := false) (par := []) (ty := none) hc hn h1 hz (.ofNat 0) (by kernel_rfl))) oblN) ?_
  show Runs Tryz.prog 1 _ _ _
  refine Runs.rg mixed hk38 [] (by kernel_rfl) (by kernel_rfl) (by kernel_rfl) oblN ?_
  show Runs Tryz.prog 1 lp47w _ _
  refine Runs.renumK (sz := 18) (l := S47w n cap 1) (os := [viewZ n f, rowS 1 (wordS f n)]) (fun j => match j with | 1 => 2 | j => j) (fun j => match j with | 2 => 1 | j => j) (by kernel_rfl) (show 1 ≤ 2 by decide) (by kernel_rfl) ⟨fun _ => .inl (Eq.trans (Eq.refl _) (by kernel_rfl)), fun h => (by cases h), trivial⟩ (by kernel_rfl) (by kernel_rfl) (by kernel_rfl) (by kernel_rfl)
    (obs2 (obs_view (by kernel_rfl)) (obs_rowS (p := []) (c := [Value.string (wordS f n 0)]) (by kernel_rfl) rfl)) ?_
  refine (words_ref_loop hc hn h1 hz n 1 (by omega)).mono fun e af hx => ?_
  obtain ⟨rfl, less⟩ := hx
  show Runs Tryz.prog 1 _ af _
  refine Runs.less less ?_
  refine Runs.sqR mixed hk38 [] (by kernel_rfl) (by kernel_rfl) (by kernel_rfl) oblN ?_
  exact Runs.now (x := .ret) (by kernel_rfl) ⟨.inr rfl, [bldV 1 (n + 1)], by kernel_rfl, 1, [], .inl rfl, by kernel_rfl⟩

/-! ### Words -/
noncomputable def q12 : Code := bodyOf Tryz.f12
theorem Words_ref_bad (hc : n ≤ cap) (hn : n < 100000) (hx : chkN f n ≠ 0) : Local Tryz.prog 1 12 [slV n cap] (hp [viewZ n f]) fun v' _ => v' = .tuple #[.slice none 0 0, .int .i64 (chkN f n)] := by
  refine local_of noNum Tryz.func12 (show Tryz.f12.body = some q12 by kernel_rfl) ?_
  refine Runs.sqR mixed hk38 [] (by kernel_rfl) (by kernel_rfl) (by kernel_rfl) oblN ?_
  have hne : (!(eqF (chkN f n) 0)) = true := by
    cases h : eqF (chkN f n) 0 with
    | false => rfl
    | true => rw [eqF_eq] at h; exact absurd (eq_of_beq h) hx
  refine Runs.sqR mixed hk38 [viaC 1 20 [slV n cap] (.int .i64 (chkN f n))] (by kernel_rfl) (by kernel_rfl) (by kernel_rfl) (oblC (shown_callE (h0 := hp [viewZ n f]) (by kernel_rfl) (by kernel_rfl) (check_ref_says hc hn)) oblN) ?_
  refine Runs.sq (by kernel_rfl) (Runs.sqR mixed hk38 [viaV 1 (.bool true)] (by kernel_rfl) (by kernel_rfl) (by kernel_rfl) (oblC (shown_eq (v := .bool (!(eqF (chkN f n) 0))) (by kernel_rfl) (by kernel_rfl) (by rw [hne])) oblN) ?_)
  refine Runs.cd (b := true) (by kernel_rfl) (fun _ => ?_) (fun h => by cases h)
  exact Runs.sqR mixed hk38 [] (by kernel_rfl) (by kernel_rfl) (by kernel_rfl) oblN (Runs.now (x := .ret) (by kernel_rfl) ⟨.inr rfl, [.slice none 0 0, .int .i64 (chkN f n)], by kernel_rfl, rfl⟩)
theorem Words_ref (hc : n ≤ cap) (hn : n < 100000) (h1 : 1 ≤ n) (hz : chkN f n = 0) : Local Tryz.prog 1 12 [slV n cap] (hp [viewZ n f]) (IsRow (n + 1) (strsV (n + 1) (wordS f n)) (some 9) (some (i64 0))) := by
  refine local_of noNum Tryz.func12 (show Tryz.f12.body = some q12 by kernel_rfl) ?_
  refine Runs.sqR mixed hk38 [] (by kernel_rfl) (by kernel_rfl) (by kernel_rfl) oblN ?_
  have hS := check_ref_says (f := f) hc hn
  rw [hz] at hS
  refine Runs.sqR mixed hk38 [viaC 1 20 [slV n cap] (i64 0)] (by kernel_rfl) (by kernel_rfl) (by kernel_rfl) (oblC (shown_callE (h0 := hp [viewZ n f]) (by kernel_rfl) (by kernel_rfl) hS) oblN) ?_
  refine Runs.sq (by kernel_rfl) (Runs.sqR mixed hk38 [] (by kernel_rfl) (by kernel_rfl) (by kernel_rfl) oblN ?_)
  refine Runs.cd (b := false) (by kernel_rfl) (fun h => by cases h) (fun _ => Runs.now (x := .normal) (by kernel_rfl) ?_)
  show Runs Tryz.prog 1 _ _ _
  have hw := at_view_new (f := f) (post := []) (n1 := n + 1) (e1 := none) hc (fun cap' hc' => words_ref_local (f := f) hc' hn h1 hz) (strsV_len _ _) (strsV_plain _ _) (fun v hv => by cases hv) noP
  refine Runs.sqR mixed hk38 [viaH 1 47 [slV n cap] (bldV 1 (n + 1)) ((hp [viewZ n f]).new (rowS (n + 1) (wordS f n))).2] (by kernel_rfl) (by kernel_rfl) (by kernel_rfl) (oblC (shown_callHE (h0 := hp [viewZ n f]) (by kernel_rfl) (by kernel_rfl) hw) oblN) ?_
  exact Runs.now (x := .ret) (by kernel_rfl) ⟨.inr rfl, [bldV 1 (n + 1), i64 0], by kernel_rfl, 1, [], .inl rfl, by kernel_rfl⟩
theorem Words_ref_says (hc : n ≤ cap) (hn : n < 100000) (h1 : 1 ≤ n) (hz : chkN f n = 0) : Says Tryz.prog (hp [viewZ n f]) 12 [slV n cap] (.tuple #[bldV 1 (n + 1), i64 0]) ((hp [viewZ n f]).new (rowS (n + 1) (wordS f n))).2 :=
  at_view_new (f := f) (post := []) (n1 := n + 1) (e1 := some (i64 0)) hc (fun cap' hc' => Words_ref (f := f) hc' hn h1 hz) (strsV_len _ _) (strsV_plain _ _) (fun v hv => by cases hv; rfl) noP
theorem Words_bad_says (hc : n ≤ cap) (hn : n < 100000) (hx : chkN f n ≠ 0) : Says Tryz.prog (hp [viewZ n f]) 12 [slV n cap] (.tuple #[.slice none 0 0, .int .i64 (chkN f n)]) (hp [viewZ n f]) :=
  at_view_flat (f := f) (post := []) hc (fun cap' hc' => Words_ref_bad (f := f) hc' hn hx) (fun _ _ r => r) rfl noP
end
end
end Go.Proofs.YtgnkjmgkfibipaaGreatDoor
