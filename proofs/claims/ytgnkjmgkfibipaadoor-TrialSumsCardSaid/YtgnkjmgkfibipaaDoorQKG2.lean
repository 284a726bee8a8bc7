/- The reference's agrees, whatever the results are. -/
import Derived.Test.YtgnkjmgkfibipaaDoorQKG1
import Derived.Test.YtgnkjmgkfibipaaDoorQRG6
namespace Go.Proofs.YtgnkjmgkfibipaaDoor
set_option linter.unusedVariables false
set_option linter.unusedSimpArgs false
open Go Go.R
set_option maxRecDepth 1000000
noncomputable section

/-- The reference's list: a row of the run's own. -/
def refO (n : Nat) (f : Nat → Int) (g : Nat → Bool) : AObj := .cells (rows2 (fun i => .int .i64 (f i)) (fun i => .bool (g i)) n) true [] (some 98)
def refV (n : Nat) : Value := .slice (some ⟨1, 0, some 2⟩) n n
def rootR (n : Nat) (f : Nat → Int) (g : Nat → Bool) : List AObj := [resO n f g, refO n f g]

theorem rootR_clo {n : Nat} {f : Nat → Int} {g : Nat → Bool} : ∀ x ∈ rootR n f g, CloO 2 x := fun x hx => by
  simp only [rootR, List.mem_cons, List.mem_nil_iff, or_false] at hx
  rcases hx with rfl | rfl
  · exact resO_clo 2 n f g
  · exact cloO_plain (rows2_plain (fun _ => rfl) (fun _ => rfl) n) _ _

def c91 : Code := bodyOf Tryd.f91
def loop91 : Code := inB (inB (tl (hd (behind 1 c91))))
def in91 : Code := inB (hd (behind 1 loop91))
theorem loop91_shape : loop91 = .seq (.seq (.region 2 (regOps (hd (hd loop91))) false) (.cond (.tmp 9) .skip (.exit 0))) (.seq (.block 1 (.seq (.region 4 (regOps (hd in91)) true) (.cond (.tmp 24) (.seq (.region 5 (regOps (hd (thenOf (tl in91)))) false) .ret) .skip)))
    (.region 3 (regOps (behind 2 loop91)) false)) := by kernel_rfl

def S91 (n : Nat) (h : Int) (i : Nat) : List (Nat × Value) := [(0, refV n), (1, .int .i64 h), (5, i64 i)]
def disP (f : Nat → Int) (g : Nat → Bool) (h : Int) (i : Nat) : Bool := !(g i == ltF h (f i))

theorem agrees_loop (n : Nat) (f : Nat → Int) (g : Nat → Bool) (h : Int) (hn : n < 4611686018427387904) : ∀ d i, i + d = n →
    Runs Tryd.prog 2 (.loop loop91) (sth (S91 n h i) 25 (rootR n f g)) fun x af => (x = .exit 0 ∧ firstP (disP f g h) n d i = n ∧ Less 2 (sth (S91 n h n) 25 (rootR n f g)) af) ∨
      (x = .ret ∧ firstP (disP f g h) n d i < n ∧ af.tm.get 4 = some (.bool false) ∧ ∀ (j : Nat) x, (rootR n f g)[j]? = some x → af.h.get j = x) := by
  have hkb : CallOk Tryd.prog k38 := call_ok mixed noNum works_ok 1000
  let os := rootR n f g
  let H := hp os
  have hle : 2 ≤ H.next := by show 2 ≤ (hp os).next; rw [hp_next]; exact Nat.le_refl 2
  have keep : ∀ (j : Nat) z, os[j]? = some z → H.get j = z := fun j z hz => hp_get os j z hz
  have sclo : ∀ i, ∀ q ∈ S91 n h i, Clo 2 q.2 := by
    intro i q hq
    simp only [S91, List.mem_cons, List.mem_nil_iff, or_false] at hq
    rcases hq with rfl | rfl | rfl
    · exact clo_of 10 2 _ rfl
    · exact clo_plain rfl
    · exact clo_plain rfl
  have hg1 : H.get 1 = refO n f g := hp_get os 1 _ rfl
  intro d
  induction d with
  | zero =>
    intro i hi
    have him : i = n := by omega
    subst him
    refine Runs.loop ?_
    rw [loop91_shape]
    let s0 : AF := sth (S91 i h i) 25 os
    let a1 : AF := (((s0.put (some 6) (i64 i) H).put (some 7) (refV i) H).put (some 8) (i64 i) H).put (some 9) (.bool (ltF (.ofNat i) (.ofNat i))) H
    refine Runs.seq (Runs.seq (Runs.regionL (af' := a1) mixed hkb hle (by kernel_rfl) ?_))
    have hf : ltF (.ofNat i) (.ofNat i) = false := by show Nat.blt i i = false; cases h : Nat.blt i i with | false => rfl | true => exact absurd (blt_lt h) (Nat.lt_irrefl i)
    refine Runs.cond (b := ltF (.ofNat i) (.ofNat i)) (by kernel_rfl) (fun ht => by rw [hf] at ht; cases ht) (fun _ => Runs.exit (.inl ⟨rfl, rfl, ?_⟩))
    exact less_seenP (sclo i) rootR_clo (Nat.le_refl 2) (by kernel_rfl) (by kernel_rfl) (by kernel_rfl) (by kernel_rfl)
  | succ d ih =>
    intro i hi
    have hlt : i < n := by omega
    refine Runs.loop ?_
    rw [loop91_shape]
    let s0 : AF := sth (S91 n h i) 25 os
    let a1 : AF := (((s0.put (some 6) (i64 i) H).put (some 7) (refV n) H).put (some 8) (i64 n) H).put (some 9) (.bool (ltF (.ofNat i) (.ofNat n))) H
    refine Runs.seq (Runs.seq (Runs.regionL (af' := a1) mixed hkb hle (by kernel_rfl) ?_))
    have ht : ltF (.ofNat i) (.ofNat n) = true := by show Nat.blt i n = true; rw [Nat.blt_eq]; exact hlt
    refine Runs.cond (b := ltF (.ofNat i) (.ofNat n)) (by kernel_rfl) (fun _ => Runs.skip ?_) (fun hf => by rw [ht] at hf; cases hf)
    show Runs Tryd.prog 2 _ a1 _
    refine Runs.seq (Runs.block (Runs.seq ?_))
    let r4 : Code := hd in91
    let pt : Nat → Value := fun o => .pointer (some ⟨1, o, none⟩)
    let a2 : AF := (a1.put (some 12) (refV n) H).put (some 13) (i64 i) H
    let a3 : AF := a2.put (some 14) (pt (0 + i * 2)) H
    let a4 : AF := a3.put (some 15) (pt (0 + i * 2 + 1)) H
    let a5 : AF := a4.put (some 16) (.bool (g i)) H
    let a6 : AF := (a5.put (some 17) (refV n) H).put (some 18) (i64 i) H
    let a7 : AF := a6.put (some 19) (pt (0 + i * 2)) H
    let a8 : AF := a7.put (some 20) (pt (0 + i * 2 + 0)) H
    let a9 : AF := a8.put (some 21) (.int .i64 (f i)) H
    let a10 : AF := ((a9.put (some 22) (.int .i64 h) H).put (some 23) (.bool (ltF h (f i))) H).put (some 24) (.bool (disP f g h i)) H
    have hsp : (regOps r4).toList = (regOps r4).toList.take 2 ++ ([opAt r4 2] ++ ([opAt r4 3] ++ ([opAt r4 4] ++ (((regOps r4).toList.drop 5).take 2 ++ ([opAt r4 7] ++ ([opAt r4 8] ++ ([opAt r4 9] ++ (regOps r4).toList.drop 10))))))) := by kernel_rfl
    refine Runs.regionD0 (af' := a10) mixed hkb hle ?_ (by kernel_rfl) (by kernel_rfl) ?_
    · rw [hsp]
      refine opsL_app _ _ a1 a2 a10 (by kernel_rfl) (opsL_app _ _ a2 a3 a10 ((opsL_one (v := pt (0 + i * 2)) (h := H) (by kernel_rfl) ?_).trans (by kernel_rfl)) (opsL_app _ _ a3 a4 a10 (by kernel_rfl)
        (opsL_app _ _ a4 a5 a10 ((opsL_one (v := .bool (g i)) (h := H) (by kernel_rfl) ?_).trans (by kernel_rfl)) (opsL_app _ _ a5 a6 a10 (by kernel_rfl)
        (opsL_app _ _ a6 a7 a10 ((opsL_one (v := pt (0 + i * 2)) (h := H) (by kernel_rfl) ?_).trans (by kernel_rfl)) (opsL_app _ _ a7 a8 a10 (by kernel_rfl)
        (opsL_app _ _ a8 a9 a10 ((opsL_one (v := .int .i64 (f i)) (h := H) (by kernel_rfl) ?_).trans (by kernel_rfl)) (by kernel_rfl))))))))
      · rw [show (opAt r4 2).op = .indexAddr 46 (.tmp 12) (.tmp 13) by kernel_rfl]
        exact idx_step (info := (Tryd.prog.info? 98).get!) (n := n) (c := n) (sp := some 2) (kd := .i64) (e := 98) (by kernel_rfl) (by kernel_rfl) hlt (show Tryd.prog.underlying 46 = some (.slice 98) by kernel_rfl) (by kernel_rfl)
      · rw [show (opAt r4 4).op = .load 4 (.tmp 15) by kernel_rfl]
        refine load1_step (info := (Tryd.prog.info? 4).get!) (d := .bool) (g := 1) (o := 0 + i * 2 + 1) (by kernel_rfl) (by kernel_rfl) (by kernel_rfl) rfl ?_
        show rowAt? H 1 (0 + i * 2 + 1) 1 = _
        rw [Nat.zero_add, row_at hg1 (by rw [rows2_len]; omega), rows2_snd _ _ hlt]
      · rw [show (opAt r4 7).op = .indexAddr 46 (.tmp 17) (.tmp 18) by kernel_rfl]
        exact idx_step (info := (Tryd.prog.info? 98).get!) (n := n) (c := n) (sp := some 2) (kd := .i64) (e := 98) (by kernel_rfl) (by kernel_rfl) hlt (show Tryd.prog.underlying 46 = some (.slice 98) by kernel_rfl) (by kernel_rfl)
      · rw [show (opAt r4 9).op = .load 3 (.tmp 20) by kernel_rfl]
        refine load1_step (info := (Tryd.prog.info? 3).get!) (d := .int .i64) (g := 1) (o := 0 + i * 2 + 0) (by kernel_rfl) (by kernel_rfl) (by kernel_rfl) rfl ?_
        show rowAt? H 1 (0 + i * 2 + 0) 1 = _
        rw [Nat.zero_add, Nat.add_zero, row_at hg1 (by rw [rows2_len]; omega), rows2_fst _ _ hlt]
    · show Runs Tryd.prog 2 _ a10 _
      refine Runs.cond (b := disP f g h i) (by kernel_rfl) (fun hb => ?_) (fun hb => Runs.skip ?_)
      · have e : firstP (disP f g h) n (d + 1) i = i := by simp [firstP, hb]
        refine Runs.seq (Runs.regionL (af' := a10.put (some 4) (.bool false) H) mixed hkb hle (by kernel_rfl) (Runs.ret ?_))
        rw [e]
        exact .inr ⟨rfl, hlt, by kernel_rfl, keep⟩
      · have e : firstP (disP f g h) n (d + 1) i = firstP (disP f g h) n d (i + 1) := by simp [firstP, hb]
        rw [e]
        show Runs Tryd.prog 2 (.region 3 (regOps (behind 2 loop91)) false) a10 _
        let w : Value := .int .i64 (wrapF .i64 (Int.add (.ofNat i) (.ofNat 1)))
        refine Runs.regionL (af' := ((a10.put (some 10) (i64 i) H).put (some 11) w H).put (some 5) w H) mixed hkb hle (by kernel_rfl) ?_
        show Runs Tryd.prog 2 (.loop loop91) _ _
        have ew : i64 (i + 1) = w := by show Value.int .i64 (.ofNat (i + 1)) = w; rw [← wrap_succ (by omega : i < 4611686018427387904)]
        refine Runs.less (af1 := sth (S91 n h (i + 1)) 25 os) (less_seenP (sclo (i + 1)) rootR_clo (Nat.le_refl 2) ?_ (by kernel_rfl) (by kernel_rfl) (by kernel_rfl)) (ih (i + 1) (by omega))
        unfold S91
        rw [ew]
        kernel_rfl
end
end Go.Proofs.YtgnkjmgkfibipaaDoor

/- agrees as a contract; in at all numbers. -/
namespace Go.Proofs.YtgnkjmgkfibipaaDoor
set_option linter.unusedVariables false
set_option linter.unusedSimpArgs false
open Go Go.R
set_option maxRecDepth 1000000
noncomputable section

def inR (x : Int) (lo hi : Nat) : Bool := leF (.ofNat lo) x && leF x (.ofNat hi)
def inRow (x : Int) : Bool := (List.range 2).all fun lo => (List.range 14).all fun hi => says (callA Tryd.prog works 1000 81 [.int .i64 x, i64 lo, i64 hi] AH.empty) (.bool (inR x lo hi))
theorem inR_neg (k : Nat) : inRow (.negSucc k) = true := by kernel_rfl
theorem inR_big (k : Nat) : inRow (.ofNat (k + 14)) = true := by kernel_rfl
theorem inR_small : ((List.range 14).all fun m => inRow (.ofNat m)) = true := by kernel_rfl
theorem inR_row (x : Int) : inRow x = true := by
  cases x with
  | negSucc k => exact inR_neg k
  | ofNat m =>
    by_cases h : m < 14
    · exact List.all_eq_true.1 inR_small m (List.mem_range.2 h)
    · obtain ⟨k, rfl⟩ : ∃ k, m = k + 14 := ⟨m - 14, by omega⟩
      exact inR_big k

theorem in_says (h : AH) (x : Int) {lo hi : Nat} (h1 : lo < 2) (h2 : hi < 14) : Says1 h 81 [.int .i64 x, i64 lo, i64 hi] (.bool (inR x lo hi)) := by
  have hr := inR_row x
  simp only [inRow, List.all_eq_true, List.mem_range] at hr
  intro F w0 μ w args' H hl
  exact (local_says (call_ok mixed noNum works_ok 1000) (hr lo h1 hi h2)).closed (fun v hv => by simp only [List.mem_cons, List.mem_nil_iff, or_false] at hv; rcases hv with rfl | rfl | rfl <;> rfl) rfl h H hl

def agrV (n : Nat) (f : Nat → Int) (g : Nat → Bool) (h : Int) : Bool := decide (firstP (disP f g h) n n 0 = n)

theorem agrees_local (n : Nat) (f : Nat → Int) (g : Nat → Bool) (h : Int) (hn : n < 4611686018427387904) :
    Local Tryd.prog 2 91 [refV n, .int .i64 h] (hp (rootR n f g)) (Holds (rootR n f g) (.bool (agrV n f g h))) := by
  have hkb : CallOk Tryd.prog k38 := call_ok mixed noNum works_ok 1000
  let os := rootR n f g
  let H := hp os
  have hle : 2 ≤ H.next := by show 2 ≤ (hp os).next; rw [hp_next]; exact Nat.le_refl 2
  have keep : ∀ (j : Nat) z, os[j]? = some z → H.get j = z := fun j z hz => hp_get os j z hz
  have sclo : ∀ i, ∀ q ∈ S91 n h i, Clo 2 q.2 := by
    intro i q hq
    simp only [S91, List.mem_cons, List.mem_nil_iff, or_false] at hq
    rcases hq with rfl | rfl | rfl
    · exact clo_of 10 2 _ rfl
    · exact clo_plain rfl
    · exact clo_plain rfl
  refine local_of noNum Tryd.func91 (show Tryd.f91.body = some c91 by kernel_rfl) ?_
  rw [show c91 = .seq (.region 0 (regOps (hd c91)) false) (.seq (.seq (.region 1 (regOps (hd (hd (tl c91)))) false) (.block 0 (.loop loop91))) (.seq (.region 6 (regOps (hd (behind 2 c91))) false) .ret)) by kernel_rfl]
  let a1 : AF := (entry Tryd.f91 [refV n, .int .i64 h] H).put (some 4) (.bool false) H
  refine Runs.seq (Runs.regionL (af' := a1) mixed hkb hle (by kernel_rfl) ?_)
  show Runs Tryd.prog 2 _ a1 _
  let a2 : AF := a1.put (some 5) (i64 0) H
  refine Runs.seq (Runs.seq (Runs.regionL (af' := a2) mixed hkb hle (by kernel_rfl) ?_))
  show Runs Tryd.prog 2 _ a2 _
  refine Runs.block (Runs.less (af1 := sth (S91 n h 0) 25 os) (less_seenP (sclo 0) rootR_clo (Nat.le_refl 2) (by kernel_rfl) (by kernel_rfl) (by kernel_rfl) (by kernel_rfl)) ?_)
  refine (agrees_loop n f g h hn n 0 (by omega)).mono fun x af hx => ?_
  rcases hx with ⟨rfl, e, less⟩ | ⟨rfl, e, h4, hh⟩
  · show Runs Tryd.prog 2 (.seq (.region 6 (regOps (hd (behind 2 c91))) false) .ret) af _
    refine Runs.less less (Runs.seq (Runs.regionL (af' := (sth (S91 n h n) 25 os).put (some 4) (.bool true) H) mixed hkb hle (by kernel_rfl) (Runs.ret ⟨.inr rfl, [.bool true], by kernel_rfl, ?_, keep⟩)))
    show Value.bool true = .bool (agrV n f g h)
    unfold agrV; rw [decide_eq_true e]
  · refine ⟨.inr rfl, [.bool false], ?_, ?_, hh⟩
    · rw [show Tryd.f91.results.toList = [.tmp 4] by kernel_rfl]
      simp only [resultsA, h4]
    · show Value.bool false = .bool (agrV n f g h)
      unfold agrV; rw [decide_eq_false (by omega)]
end
end Go.Proofs.YtgnkjmgkfibipaaDoor

/- The plain law of results: what is known is what all hardnesses say; the first two that contradict each other. -/
namespace Go.Proofs.YtgnkjmgkfibipaaDoor
set_option linter.unusedVariables false
set_option linter.unusedSimpArgs false
open Go Go.R
noncomputable section

theorem firstP_spec (p : Nat → Bool) (m : Nat) : ∀ d i, i + d = m → (firstP p m d i = m ∧ ∀ j, i ≤ j → j < m → p j = false) ∨
    (firstP p m d i < m ∧ i ≤ firstP p m d i ∧ p (firstP p m d i) = true ∧ ∀ j, i ≤ j → j < firstP p m d i → p j = false)
  | 0, i, h => .inl ⟨rfl, fun j h1 h2 => by omega⟩
  | d + 1, i, h => by
    unfold firstP
    cases hp : p i with
    | true => exact .inr ⟨by simp; omega, by simp, by simpa using hp, fun j h1 h2 => by simp at h2; omega⟩
    | false =>
      simp only [Bool.false_eq_true, if_false]
      rcases firstP_spec p m d (i + 1) (by omega) with ⟨h1, h2⟩ | ⟨h1, h2, h3, h4⟩
      · refine .inl ⟨h1, fun j a b => ?_⟩
        rcases Nat.lt_or_ge i j with q | q
        · exact h2 j q b
        · rw [show j = i by omega]; exact hp
      · refine .inr ⟨h1, by omega, h3, fun j a b => ?_⟩
        rcases Nat.lt_or_ge i j with q | q
        · exact h4 j q b
        · rw [show j = i by omega]; exact hp

theorem firstP_none {p : Nat → Bool} {m : Nat} : firstP p m m 0 = m ↔ ∀ j, j < m → p j = false := by
  rcases firstP_spec p m m 0 (by omega) with ⟨h1, h2⟩ | ⟨h1, h2, h3, h4⟩
  · exact ⟨fun _ j hj => h2 j (Nat.zero_le j) hj, fun _ => h1⟩
  · refine ⟨fun h => by omega, fun h => ?_⟩
    rw [h _ h1] at h3; cases h3

theorem firstP_shift (p : Nat → Bool) (o m : Nat) : ∀ d i, i + d = m → o + firstP (fun j => p (o + j)) m d i = firstP p (o + m) d (o + i)
  | 0, i, h => rfl
  | d + 1, i, h => by
    unfold firstP
    cases p (o + i) with
    | true => rfl
    | false =>
      simp only [Bool.false_eq_true, if_false]
      rw [firstP_shift p o m d (i + 1) (by omega), Nat.add_assoc]

/-! ### The error of results -/
theorem out_in (x : Int) (lo hi : Nat) : outB x lo hi = !inR x lo hi := by
  simp only [outB, inR, ltF_eq, leF_eq, Bool.not_and]
  congr 1 <;> simp [← decide_not, Int.not_le]

def toldB (f : Nat → Int) (lv : Nat) (j : Nat) : Bool := !inR (f j) 1 lv
def toldV (L : Int) (n : Nat) (f : Nat → Int) : Nat :=
  if inR L 0 12 then (if ltF (.ofNat 20) (.ofNat n) then 3 else if decide (firstP (toldB f L.toNat) n n 0 < n) then 2 else 0) else 1

theorem told_chk (L : Int) (n : Nat) (f : Nat → Int) : toldV L n f = chkV L n f := by
  have e : toldB f L.toNat = badP f L.toNat := by
    funext j
    unfold toldB badP
    rw [out_in, Nat.zero_add]
  unfold toldV chkV
  rw [e, out_in]
  cases inR L 0 12 <;> rfl

theorem chk_zero {L : Int} {n : Nat} {f : Nat → Int} (h : chkV L n f = 0) : ∃ lv : Nat, L = .ofNat lv ∧ lv < 13 ∧ n ≤ 20 ∧ ∀ i, i < n → 1 ≤ f i ∧ f i ≤ (lv : Int) := by
  unfold chkV at h
  split at h
  · cases h
  · rename_i h1
    split at h
    · cases h
    · rename_i h2
      split at h
      · cases h
      · rename_i h3
        simp only [outB, ltF_eq, Bool.or_eq_true, decide_eq_true_eq, not_or, Int.not_lt] at h1 h2
        have e1 : (0 : Int) ≤ L := h1.1
        have e2 : L ≤ 12 := h1.2
        have e3 : ((n : Nat) : Int) ≤ 20 := h2
        refine ⟨L.toNat, (Int.toNat_of_nonneg e1).symm, by omega, by omega, fun i hi => ?_⟩
        have h4 : firstP (badP f L.toNat) n n 0 = n := by
          simp only [decide_eq_true_eq] at h3
          rcases firstP_spec (badP f L.toNat) n n 0 (by omega) with q | q
          · exact q.1
          · omega
        have h5 := firstP_none.1 h4 i hi
        simp only [badP, outB, ltF_eq, Bool.or_eq_false_iff, decide_eq_false_iff_not, Int.not_lt, Nat.zero_add] at h5
        exact ⟨h5.1, h5.2⟩

/-! ### What is known -/
def refS (n : Nat) (f : Nat → Int) (g : Nat → Bool) : Nat → Int × Int
  | 0 => (.negSucc 0, .negSucc 0)
  | i + 1 => if agrV n f g (.ofNat i) then (if ltF (refS n f g i).1 0 then .ofNat i else (refS n f g i).1, .ofNat i) else refS n f g i

def refV39 (L : Int) (n : Nat) (f : Nat → Int) (g : Nat → Bool) : Value :=
  if eqF (.ofNat (toldV L n f)) 0 then (if ltF (refS n f g (L.toNat + 1)).1 0 then .tuple #[i64 0, i64 0, i64 12] else .tuple #[.int .i64 (refS n f g (L.toNat + 1)).1, .int .i64 (refS n f g (L.toNat + 1)).2, i64 0])
  else .tuple #[i64 0, i64 0, i64 (toldV L n f)]

theorem agr_iff (n : Nat) (f : Nat → Int) (g : Nat → Bool) (h : Int) : agrV n f g h = true ↔ ∀ i, i < n → g i = decide (h < f i) := by
  unfold agrV
  rw [decide_eq_true_eq, firstP_none]
  refine ⟨fun q i hi => ?_, fun q i hi => ?_⟩
  · have := q i hi
    simp only [disP, ltF_eq, Bool.not_eq_false', beq_iff_eq] at this
    exact this
  · simp only [disP, ltF_eq, Bool.not_eq_false', beq_iff_eq]
    exact q i hi

theorem wrap_pred {x : Int} (h1 : 1 ≤ x) (h2 : x ≤ 12) : wrapF .i64 (x - 1) = x - 1 := by
  rw [wrapF_eq]
  obtain ⟨k, rfl⟩ : ∃ k : Nat, x = (k : Int) + 1 := ⟨(x - 1).toNat, by omega⟩
  have hk : k < 12 := by omega
  rw [show (k : Int) + 1 - 1 = k by omega]
  match k, hk with
  | 0, _ | 1, _ | 2, _ | 3, _ | 4, _ | 5, _ | 6, _ | 7, _ | 8, _ | 9, _ | 10, _ | 11, _ => rfl

theorem low_high {lv : Nat} (hlv : lv < 13) (f : Nat → Int) (g : Nat → Bool) (h : Int) : ∀ m, (∀ i, i < m → 1 ≤ f i ∧ f i ≤ (lv : Int)) →
    (lowN f g m ≤ h ∧ h ≤ highN (.ofNat lv) f g m ↔ (0 ≤ h ∧ h ≤ lv) ∧ ∀ i, i < m → g i = decide (h < f i))
  | 0, _ => by
    simp only [lowN, highN]
    exact ⟨fun q => ⟨q, fun i hi => absurd hi (Nat.not_lt_zero i)⟩, fun q => q.1⟩
  | m + 1, hf => by
    have ih := low_high hlv f g h m (fun i hi => hf i (by omega))
    have hm := hf m (by omega)
    have last : (∀ i, i < m + 1 → g i = decide (h < f i)) ↔ (∀ i, i < m → g i = decide (h < f i)) ∧ g m = decide (h < f m) :=
      ⟨fun q => ⟨fun i hi => q i (by omega), q m (by omega)⟩, fun q i hi => by
        rcases Nat.lt_or_ge i m with a | a
        · exact q.1 i a
        · rw [show i = m by omega]; exact q.2⟩
    rw [last, ← and_assoc, ← ih]
    cases hg : g m with
    | true =>
      simp only [lowN, highN, hg, if_true]
      rw [wrap_pred hm.1 (by omega)]
      have e : (true = decide (h < f m)) ↔ h < f m := by rw [eq_comm, decide_eq_true_eq]
      rw [e]
      unfold minV
      split <;> omega
    | false =>
      simp only [lowN, highN, hg, Bool.false_eq_true, if_false]
      have e : (false = decide (h < f m)) ↔ ¬ h < f m := by rw [eq_comm, decide_eq_false_iff_not]
      rw [e]
      unfold maxV
      split <;> omega

theorem low_nonneg (f : Nat → Int) (g : Nat → Bool) : ∀ m, 0 ≤ lowN f g m
  | 0 => by simp [lowN]
  | m + 1 => by
    have := low_nonneg f g m
    unfold lowN maxV
    split
    · exact this
    · split <;> omega

theorem high_le {lv : Nat} (f : Nat → Int) (g : Nat → Bool) : ∀ m, highN (.ofNat lv) f g m ≤ (lv : Int)
  | 0 => by simp [highN]
  | m + 1 => by
    have := high_le (lv := lv) f g m
    unfold highN minV
    split
    · split <;> omega
    · exact this

theorem refS_eq {n : Nat} {f : Nat → Int} {g : Nat → Bool} {lo hi : Int} (h0 : 0 ≤ lo) : ∀ m : Nat, (∀ h : Nat, h < m → (agrV n f g (.ofNat h) = true ↔ lo ≤ (h : Int) ∧ (h : Int) ≤ hi)) →
    refS n f g m = if (m : Int) ≤ lo ∨ hi < lo then (-1, -1) else (lo, if hi < (m : Int) - 1 then hi else (m : Int) - 1)
  | 0, _ => by
    rw [if_pos (.inl h0)]; rfl
  | m + 1, hA => by
    have ih := refS_eq h0 m (fun h hh => hA h (by omega))
    have hm := hA m (by omega)
    unfold refS
    rw [ih]
    have e1 : ((m + 1 : Nat) : Int) - 1 = m := by omega
    rw [e1]
    by_cases ha : agrV n f g (.ofNat m) = true
    · rw [if_pos ha]
      have q := hm.1 ha
      have c2 : ¬ (((m + 1 : Nat) : Int) ≤ lo ∨ hi < lo) := by omega
      have e2 : (if hi < (m : Int) then hi else (m : Int)) = (m : Int) := if_neg (by omega)
      rw [if_neg c2, e2]
      by_cases hc : (m : Int) ≤ lo ∨ hi < lo
      · rw [if_pos hc]
        have e3 : (m : Int) = lo := by omega
        show (if ltF (-1) 0 = true then Int.ofNat m else -1, Int.ofNat m) = _
        rw [if_pos (show ltF (-1) 0 = true from rfl)]
        show ((m : Int), (m : Int)) = _
        rw [e3]
      · rw [if_neg hc]
        have e : ltF lo 0 = false := by rw [ltF_eq, decide_eq_false_iff_not]; omega
        show (if ltF lo 0 = true then Int.ofNat m else lo, Int.ofNat m) = _
        rw [e]
        rfl
    · rw [if_neg ha]
      have q : ¬ (lo ≤ (m : Int) ∧ (m : Int) ≤ hi) := fun q => ha (hm.2 q)
      by_cases hc : (m : Int) ≤ lo ∨ hi < lo
      · have c2 : ((m + 1 : Nat) : Int) ≤ lo ∨ hi < lo := by omega
        rw [if_pos hc, if_pos c2]
      · have c2 : ¬ (((m + 1 : Nat) : Int) ≤ lo ∨ hi < lo) := by omega
        rw [if_neg hc, if_neg c2]
        have e3 : (if hi < (m : Int) - 1 then hi else (m : Int) - 1) = hi := by split <;> omega
        have e4 : (if hi < (m : Int) then hi else (m : Int)) = hi := by split <;> omega
        rw [e3, e4]

theorem known_same (L : Int) (n : Nat) (f : Nat → Int) (g : Nat → Bool) : refV39 L n f g = knownV L n f g := by
  unfold refV39 knownV
  rw [told_chk]
  by_cases hz : chkV L n f = 0
  · rw [hz]
    obtain ⟨lv, rfl, hlv, hn, hf⟩ := chk_zero hz
    have hlo := low_nonneg f g n
    have hhi := high_le (lv := lv) f g n
    have hS := refS_eq (n := n) (f := f) (g := g) (lo := lowN f g n) (hi := highN (.ofNat lv) f g n) hlo (lv + 1) (fun h hh => by
      have := low_high hlv f g (h : Int) n hf
      rw [agr_iff, this]
      exact ⟨fun q => ⟨⟨by omega, by omega⟩, q⟩, fun q => q.2⟩)
    show (if ltF (refS n f g (lv + 1)).1 0 = true then _ else Value.tuple #[.int .i64 (refS n f g (lv + 1)).1, .int .i64 (refS n f g (lv + 1)).2, i64 0]) = (if ltF (highN (.ofNat lv) f g n) (lowN f g n) = true then _ else _)
    rw [hS]
    by_cases hc : highN (.ofNat lv) f g n < lowN f g n
    · have c1 : ((lv + 1 : Nat) : Int) ≤ lowN f g n ∨ highN (.ofNat lv) f g n < lowN f g n := Or.inr hc
      have e1 : ltF (highN (.ofNat lv) f g n) (lowN f g n) = true := by rw [ltF_eq, decide_eq_true_eq]; exact hc
      rw [if_pos c1, if_pos e1]
      rfl
    · have c1 : ¬ (((lv + 1 : Nat) : Int) ≤ lowN f g n ∨ highN (.ofNat lv) f g n < lowN f g n) := by omega
      have e1 : ltF (highN (.ofNat lv) f g n) (lowN f g n) = false := by rw [ltF_eq, decide_eq_false_iff_not]; exact hc
      have e2 : ltF (lowN f g n) 0 = false := by rw [ltF_eq, decide_eq_false_iff_not]; omega
      have e3 : (if highN (.ofNat lv) f g n < ((lv + 1 : Nat) : Int) - 1 then highN (.ofNat lv) f g n else ((lv + 1 : Nat) : Int) - 1) = highN (.ofNat lv) f g n := by split <;> omega
      rw [if_neg c1, e1, e3]
      show (if ltF (lowN f g n) 0 = true then _ else Value.tuple #[.int .i64 (lowN f g n), .int .i64 (highN (.ofNat lv) f g n), i64 0]) = _
      rw [e2]
  · have e : eqF (.ofNat (chkV L n f)) 0 = false := by
      rw [eqF_eq, beq_eq_false_iff_ne]
      intro q
      exact hz (Int.ofNat.inj q)
    rw [e]
    rfl

/-! ### Two that contradict each other -/
def whyB (x : Int) (a : Bool) (y : Int) (b : Bool) : Bool := !(a == b) && (eqF x y || (a == ltF x y))
def conB (x : Int) (a : Bool) (y : Int) (b : Bool) : Bool := (a && !b && leF x y) || (b && !a && leF y x)

theorem why_con (x : Int) (a : Bool) (y : Int) (b : Bool) : whyB x a y b = conB x a y b := by
  unfold whyB conB
  rw [eqF_eq, ltF_eq, leF_eq, leF_eq]
  have h1 : (x == y) = decide (x = y) := by rw [Bool.eq_iff_iff, beq_iff_eq, decide_eq_true_eq]
  rw [h1]
  by_cases c1 : x = y
  · have c2 : ¬ x < y := by omega
    have c3 : x ≤ y := by omega
    have c4 : y ≤ x := by omega
    simp only [decide_eq_true c1, decide_eq_false c2, decide_eq_true c3, decide_eq_true c4]
    cases a <;> cases b <;> rfl
  · by_cases c2 : x < y
    · have c3 : x ≤ y := by omega
      have c4 : ¬ y ≤ x := by omega
      simp only [decide_eq_false c1, decide_eq_true c2, decide_eq_true c3, decide_eq_false c4]
      cases a <;> cases b <;> rfl
    · have c3 : ¬ x ≤ y := by omega
      have c4 : y ≤ x := by omega
      simp only [decide_eq_false c1, decide_eq_false c2, decide_eq_false c3, decide_eq_true c4]
      cases a <;> cases b <;> rfl
end
end Go.Proofs.YtgnkjmgkfibipaaDoor

/- The reference's told, whatever the results are. -/
namespace Go.Proofs.YtgnkjmgkfibipaaDoor
set_option linter.unusedVariables false
set_option linter.unusedSimpArgs false
open Go Go.R
set_option maxRecDepth 1000000
noncomputable section

theorem hk38 : CallOk Tryd.prog k38 := call_ok mixed noNum works_ok 1000

theorem keepOf {os : List AObj} {h : AH} (e : h = hp os) : ∀ (j : Nat) x, os[j]? = some x → h.get j = x := fun j x hx => by rw [e]; exact hp_get os j x hx

theorem ref_fst {h : AH} {n i : Nat} {f : Nat → Int} {g : Nat → Bool} (hg : h.get 1 = refO n f g) (hlt : i < n) : rowAt? h 1 (0 + i * 2 + 0) 1 = some [.int .i64 (f i)] := by
  rw [Nat.zero_add, Nat.add_zero, row_at hg (by rw [rows2_len]; omega), rows2_fst _ _ hlt]
theorem ref_snd {h : AH} {n i : Nat} {f : Nat → Int} {g : Nat → Bool} (hg : h.get 1 = refO n f g) (hlt : i < n) : rowAt? h 1 (0 + i * 2 + 1) 1 = some [.bool (g i)] := by
  rw [Nat.zero_add, row_at hg (by rw [rows2_len]; omega), rows2_snd _ _ hlt]

theorem lt_self (i : Nat) : ltF (.ofNat i) (.ofNat i) = false := by
  show Nat.blt i i = false
  cases h : Nat.blt i i with
  | false => rfl
  | true => exact absurd (blt_lt h) (Nat.lt_irrefl i)
theorem lt_of {i n : Nat} (h : i < n) : ltF (.ofNat i) (.ofNat n) = true := by
  show Nat.blt i n = true
  rw [Nat.blt_eq]; exact h

def c90 : Code := bodyOf Tryd.f90
def lp90 : Code := within (tl (hd (behind 3 c90)))
def S90 (lv n i : Nat) : List (Nat × Value) := [(0, i64 lv), (1, refV n), (5, i64 i)]

theorem s90_clo {lv n i : Nat} : ∀ q ∈ S90 lv n i, Clo 2 q.2 := clo_all (by kernel_rfl)

theorem told_loop (lv n : Nat) (hlv : lv < 13) (f : Nat → Int) (g : Nat → Bool) (hn : n < 4611686018427387904) : ∀ d i, i + d = n →
    Runs Tryd.prog 2 lp90 (sth (S90 lv n i) 26 (rootR n f g)) fun x af => (x = .exit 0 ∧ firstP (toldB f lv) n d i = n ∧ Less 2 (sth (S90 lv n n) 26 (rootR n f g)) af) ∨
      (x = .ret ∧ firstP (toldB f lv) n d i < n ∧ af.tm.get 4 = some (i64 2) ∧ ∀ (j : Nat) x, (rootR n f g)[j]? = some x → af.h.get j = x) := by
  intro d
  induction d with
  | zero =>
    intro i hi
    have him : i = n := by omega
    subst him
    refine Runs.lp (by kernel_rfl) (Runs.sq (by kernel_rfl) (Runs.sqR mixed hk38 [] (by kernel_rfl) (by kernel_rfl) (by kernel_rfl) oblN ?_))
    refine Runs.cd (b := ltF (.ofNat i) (.ofNat i)) (by kernel_rfl) (fun ht => by rw [lt_self] at ht; cases ht) (fun _ => Runs.now (x := .exit 0) (by kernel_rfl) (.inl ⟨rfl, rfl, ?_⟩))
    exact less_seenP s90_clo rootR_clo (Nat.le_refl 2) (by kernel_rfl) (by kernel_rfl) (by kernel_rfl) (by kernel_rfl)
  | succ d ih =>
    intro i hi
    have hlt : i < n := by omega
    refine Runs.lp (by kernel_rfl) (Runs.sq (by kernel_rfl) (Runs.sqR mixed hk38 [] (by kernel_rfl) (by kernel_rfl) (by kernel_rfl) oblN ?_))
    refine Runs.cd (b := ltF (.ofNat i) (.ofNat n)) (by kernel_rfl) (fun _ => Runs.now (x := .normal) (by kernel_rfl) ?_) (fun hf => by rw [lt_of hlt] at hf; cases hf)
    show Runs Tryd.prog 2 _ _ _
    refine Runs.sq (by kernel_rfl) (Runs.bk (id := 1) (by kernel_rfl) ?_)
    refine Runs.sqR mixed hk38 [viaV 2 (.pointer (some ⟨1, 0 + i * 2, none⟩)), viaV 4 (.int .i64 (f i)), viaC 6 81 [.int .i64 (f i), i64 1, i64 lv] (.bool (inR (f i) 1 lv))] (by kernel_rfl) (by kernel_rfl) (by kernel_rfl)
      (oblC (shown_idx (n := n) (by kernel_rfl) hlt) (oblC (shown_cell (by kernel_rfl) (ref_fst (n := n) (g := g) (by kernel_rfl) hlt)) (oblC (shown_call (by kernel_rfl) (in_says _ _ (by decide) (by omega))) oblN))) ?_
    refine Runs.cd (b := toldB f lv i) (by kernel_rfl) (fun hb => ?_) (fun hb => Runs.now (x := .normal) (by kernel_rfl) ?_)
    · have e : firstP (toldB f lv) n (d + 1) i = i := by simp [firstP, hb]
      rw [e]
      exact Runs.sqR mixed hk38 [] (by kernel_rfl) (by kernel_rfl) (by kernel_rfl) oblN (Runs.now (x := .ret) (by kernel_rfl) (.inr ⟨rfl, hlt, by kernel_rfl, keepOf (by kernel_rfl)⟩))
    · have e : firstP (toldB f lv) n (d + 1) i = firstP (toldB f lv) n d (i + 1) := by simp [firstP, hb]
      rw [e]
      show Runs Tryd.prog 2 _ _ _
      refine Runs.rg mixed hk38 [] (by kernel_rfl) (by kernel_rfl) (by kernel_rfl) oblN ?_
      show Runs Tryd.prog 2 lp90 _ _
      have ew : S90 lv n (i + 1) = [(0, i64 lv), (1, refV n), (5, .int .i64 (wrapF .i64 (Int.add (.ofNat i) (.ofNat 1))))] := by rw [wrap_succ (by omega : i < 4611686018427387904)]; rfl
      refine Runs.less (af1 := sth (S90 lv n (i + 1)) 26 (rootR n f g)) ?_ (ih (i + 1) (by omega))
      rw [ew]
      exact less_seenP (clo_all (by kernel_rfl)) rootR_clo (Nat.le_refl 2) (by kernel_rfl) (by kernel_rfl) (by kernel_rfl) (by kernel_rfl)

theorem told_local (L : Int) (n : Nat) (f : Nat → Int) (g : Nat → Bool) (hn : n < 4611686018427387904) :
    Local Tryd.prog 2 90 [.int .i64 L, refV n] (hp (rootR n f g)) (Holds (rootR n f g) (i64 (toldV L n f))) := by
  refine local_of noNum Tryd.func90 (show Tryd.f90.body = some c90 by kernel_rfl) ?_
  refine Runs.sqR mixed hk38 [] (by kernel_rfl) (by kernel_rfl) (by kernel_rfl) oblN ?_
  refine Runs.sq (by kernel_rfl) (Runs.sqR mixed hk38 [viaC 1 81 [.int .i64 L, i64 0, i64 12] (.bool (inR L 0 12))] (by kernel_rfl) (by kernel_rfl) (by kernel_rfl) (oblC (shown_call (by kernel_rfl) (in_says _ _ (by decide) (by decide))) oblN) ?_)
  refine Runs.cd (b := !(inR L 0 12)) (by kernel_rfl) (fun hb => ?_) (fun hb => Runs.now (x := .normal) (by kernel_rfl) ?_)
  · refine Runs.sqR mixed hk38 [] (by kernel_rfl) (by kernel_rfl) (by kernel_rfl) oblN (Runs.now (x := .ret) (by kernel_rfl) ⟨.inr rfl, [i64 1], by kernel_rfl, ?_, keepOf (by kernel_rfl)⟩)
    show i64 1 = i64 (toldV L n f)
    unfold toldV; rw [if_neg (by intro h; rw [h] at hb; cases hb)]
  · have hb' : inR L 0 12 = true := by cases h : inR L 0 12 with
      | true => rfl
      | false => rw [h] at hb; cases hb
    show Runs Tryd.prog 2 _ _ _
    refine Runs.sq (by kernel_rfl) (Runs.sqR mixed hk38 [] (by kernel_rfl) (by kernel_rfl) (by kernel_rfl) oblN ?_)
    refine Runs.cd (b := ltF (.ofNat 20) (.ofNat n)) (by kernel_rfl) (fun hc => ?_) (fun hc => Runs.now (x := .normal) (by kernel_rfl) ?_)
    · refine Runs.sqR mixed hk38 [] (by kernel_rfl) (by kernel_rfl) (by kernel_rfl) oblN (Runs.now (x := .ret) (by kernel_rfl) ⟨.inr rfl, [i64 3], by kernel_rfl, ?_, keepOf (by kernel_rfl)⟩)
      show i64 3 = i64 (toldV L n f)
      unfold toldV; rw [if_pos hb', if_pos hc]
    · obtain ⟨lv, rfl, hlv⟩ : ∃ lv, L = .ofNat lv ∧ lv < 13 := by
        simp only [inR, leF_eq, Bool.and_eq_true, decide_eq_true_eq] at hb'
        have h1 : (0 : Int) ≤ L := hb'.1
        have h2 : L ≤ 12 := hb'.2
        exact ⟨L.toNat, (Int.toNat_of_nonneg h1).symm, by omega⟩
      show Runs Tryd.prog 2 _ _ _
      refine Runs.sq (by kernel_rfl) (Runs.sqR mixed hk38 [] (by kernel_rfl) (by kernel_rfl) (by kernel_rfl) oblN (Runs.bk (id := 0) (by kernel_rfl) ?_))
      refine Runs.less (af1 := sth (S90 lv n 0) 26 (rootR n f g)) (less_seenP s90_clo rootR_clo (Nat.le_refl 2) (by kernel_rfl) (by kernel_rfl) (by kernel_rfl) (by kernel_rfl)) ?_
      refine (told_loop lv n hlv f g hn n 0 (by omega)).mono fun x af hx => ?_
      have ht : (Int.ofNat lv).toNat = lv := rfl
      rcases hx with ⟨rfl, e, less⟩ | ⟨rfl, e, h4, hh⟩
      · show Runs Tryd.prog 2 _ af _
        refine Runs.less less (Runs.sqR mixed hk38 [] (by kernel_rfl) (by kernel_rfl) (by kernel_rfl) oblN (Runs.now (x := .ret) (by kernel_rfl) ⟨.inr rfl, [i64 0], by kernel_rfl, ?_, keepOf (by kernel_rfl)⟩))
        show i64 0 = i64 (toldV (.ofNat lv) n f)
        unfold toldV; rw [if_pos hb', if_neg (by rw [hc]; exact Bool.false_ne_true), if_neg (by simp only [decide_eq_true_eq]; rw [ht]; omega)]
      · refine ⟨.inr rfl, [i64 2], ?_, ?_, hh⟩
        · rw [show Tryd.f90.results.toList = [.tmp 4] by kernel_rfl]
          simp only [resultsA, h4]
        · show i64 2 = i64 (toldV (.ofNat lv) n f)
          unfold toldV; rw [if_pos hb', if_neg (by rw [hc]; exact Bool.false_ne_true), if_pos (by simp only [decide_eq_true_eq]; rw [ht]; omega)]
end
end Go.Proofs.YtgnkjmgkfibipaaDoor

/- The reference's Known, whatever the results are. -/
namespace Go.Proofs.YtgnkjmgkfibipaaDoor
set_option linter.unusedVariables false
set_option linter.unusedSimpArgs false
open Go Go.R
set_option maxRecDepth 1000000
noncomputable section

def c39 : Code := bodyOf Tryd.f39
def lp39 : Code := within (tl (hd (behind 4 c39)))
def S39 (lv n : Nat) (s : Int × Int) (i : Nat) : List (Nat × Value) := [(0, i64 lv), (1, refV n), (8, .int .i64 s.1), (9, .int .i64 s.2), (10, i64 i)]

theorem s39_clo {lv n : Nat} {s : Int × Int} {i : Nat} : ∀ q ∈ S39 lv n s i, Clo 2 q.2 := clo_all (by kernel_rfl)

theorem agrees_says (n : Nat) (f : Nat → Int) (g : Nat → Bool) (h : Int) (hn : n < 4611686018427387904) : Says Tryd.prog (hp (rootR n f g)) 91 [refV n, .int .i64 h] (.bool (agrV n f g h)) (hp (rootR n f g)) :=
  says_of (os := rootR n f g) (agrees_local n f g h hn) (fun x hx => by
    simp only [List.mem_cons, List.mem_nil_iff, or_false] at hx
    rcases hx with rfl | rfl
    · exact clo_of 10 2 _ (by kernel_rfl)
    · exact clo_plain rfl) rootR_clo (clo_plain rfl)

theorem told_says (L : Int) (n : Nat) (f : Nat → Int) (g : Nat → Bool) (hn : n < 4611686018427387904) : Says Tryd.prog (hp (rootR n f g)) 90 [.int .i64 L, refV n] (i64 (toldV L n f)) (hp (rootR n f g)) :=
  says_of (os := rootR n f g) (told_local L n f g hn) (fun x hx => by
    simp only [List.mem_cons, List.mem_nil_iff, or_false] at hx
    rcases hx with rfl | rfl
    · exact clo_plain rfl
    · exact clo_of 10 2 _ (by kernel_rfl)) rootR_clo (clo_plain rfl)

theorem refS_step (n : Nat) (f : Nat → Int) (g : Nat → Bool) (i : Nat) : refS n f g (i + 1) = if agrV n f g (.ofNat i) then (if ltF (refS n f g i).1 0 then .ofNat i else (refS n f g i).1, .ofNat i) else refS n f g i := rfl

theorem ref_loop (lv n : Nat) (hlv : lv < 13) (f : Nat → Int) (g : Nat → Bool) (hn : n < 4611686018427387904) : ∀ d i, i + d = lv + 1 →
    Runs Tryd.prog 2 lp39 (sth (S39 lv n (refS n f g i) i) 33 (rootR n f g)) fun x af => x = .exit 0 ∧ Less 2 (sth (S39 lv n (refS n f g (lv + 1)) (lv + 1)) 33 (rootR n f g)) af := by
  intro d
  induction d with
  | zero =>
    intro i hi
    have him : i = lv + 1 := by omega
    subst him
    refine Runs.lp (by kernel_rfl) (Runs.sq (by kernel_rfl) (Runs.sqR mixed hk38 [] (by kernel_rfl) (by kernel_rfl) (by kernel_rfl) oblN ?_))
    have hf : leF (.ofNat (lv + 1)) (.ofNat lv) = false := by rw [leF_eq, decide_eq_false_iff_not]; show ¬ ((lv + 1 : Nat) : Int) ≤ (lv : Int); omega
    refine Runs.cd (b := leF (.ofNat (lv + 1)) (.ofNat lv)) (by kernel_rfl) (fun ht => by rw [hf] at ht; cases ht) (fun _ => Runs.now (x := .exit 0) (by kernel_rfl) ⟨rfl, ?_⟩)
    exact less_seenP s39_clo rootR_clo (Nat.le_refl 2) (by kernel_rfl) (by kernel_rfl) (by kernel_rfl) (by kernel_rfl)
  | succ d ih =>
    intro i hi
    have hlt : i ≤ lv := by omega
    refine Runs.lp (by kernel_rfl) (Runs.sq (by kernel_rfl) (Runs.sqR mixed hk38 [] (by kernel_rfl) (by kernel_rfl) (by kernel_rfl) oblN ?_))
    have ht : leF (.ofNat i) (.ofNat lv) = true := by rw [leF_eq, decide_eq_true_eq]; show ((i : Nat) : Int) ≤ (lv : Int); omega
    refine Runs.cd (b := leF (.ofNat i) (.ofNat lv)) (by kernel_rfl) (fun _ => Runs.now (x := .normal) (by kernel_rfl) ?_) (fun hf => by rw [ht] at hf; cases hf)
    have next : ∀ (s : Int × Int) (af : AF), s = refS n f g (i + 1) → Less 2 (sth (S39 lv n s i) 33 (rootR n f g)) af →
        Runs Tryd.prog 2 (tl (tl (within lp39))) af (andThen (fun a => Runs Tryd.prog 2 lp39 a fun x af => x = .exit 0 ∧ Less 2 (sth (S39 lv n (refS n f g (lv + 1)) (lv + 1)) 33 (rootR n f g)) af) fun x af => x = .exit 0 ∧ Less 2 (sth (S39 lv n (refS n f g (lv + 1)) (lv + 1)) 33 (rootR n f g)) af) := by
      intro s af hs less
      subst hs
      refine Runs.less less (Runs.rg mixed hk38 [] (by kernel_rfl) (by kernel_rfl) (by kernel_rfl) oblN ?_)
      show Runs Tryd.prog 2 lp39 _ _
      have ew : S39 lv n (refS n f g (i + 1)) (i + 1) = [(0, i64 lv), (1, refV n), (8, .int .i64 (refS n f g (i + 1)).1), (9, .int .i64 (refS n f g (i + 1)).2), (10, .int .i64 (wrapF .i64 (Int.add (.ofNat i) (.ofNat 1))))] := by rw [wrap_succ (by omega : i < 4611686018427387904)]; rfl
      refine Runs.less (af1 := sth (S39 lv n (refS n f g (i + 1)) (i + 1)) 33 (rootR n f g)) ?_ (ih (i + 1) (by omega))
      rw [ew]
      exact less_seenP (clo_all (by kernel_rfl)) rootR_clo (Nat.le_refl 2) (by kernel_rfl) (by kernel_rfl) (by kernel_rfl) (by kernel_rfl)
    show Runs Tryd.prog 2 _ _ _
    refine Runs.sq (by kernel_rfl) (Runs.bk (id := 1) (by kernel_rfl) ?_)
    refine Runs.sqR mixed hk38 [viaC 2 91 [refV n, .int .i64 (.ofNat i)] (.bool (agrV n f g (.ofNat i)))] (by kernel_rfl) (by kernel_rfl) (by kernel_rfl) (oblC (shown_call (by kernel_rfl) (agrees_says n f g (.ofNat i) hn)) oblN) ?_
    refine Runs.cd (b := agrV n f g (.ofNat i)) (by kernel_rfl) (fun hb => ?_) (fun hb => Runs.now (x := .normal) (by kernel_rfl) ?_)
    · refine Runs.sq (by kernel_rfl) (Runs.sqR mixed hk38 [] (by kernel_rfl) (by kernel_rfl) (by kernel_rfl) oblN ?_)
      refine Runs.cd (b := ltF (refS n f g i).1 0) (by kernel_rfl) (fun hc => ?_) (fun hc => Runs.now (x := .normal) (by kernel_rfl) ?_)
      · refine Runs.rg mixed hk38 [] (by kernel_rfl) (by kernel_rfl) (by kernel_rfl) oblN ?_
        show Runs Tryd.prog 2 _ _ _
        refine Runs.rg mixed hk38 [] (by kernel_rfl) (by kernel_rfl) (by kernel_rfl) oblN ?_
        refine next (.ofNat i, .ofNat i) _ (by rw [refS_step, if_pos hb, if_pos hc]) (less_seenP s39_clo rootR_clo (Nat.le_refl 2) (by kernel_rfl) (by kernel_rfl) (by kernel_rfl) (by kernel_rfl))
      · show Runs Tryd.prog 2 _ _ _
        refine Runs.rg mixed hk38 [] (by kernel_rfl) (by kernel_rfl) (by kernel_rfl) oblN ?_
        refine next ((refS n f g i).1, .ofNat i) _ (by rw [refS_step, if_pos hb, if_neg (by rw [hc]; exact Bool.false_ne_true)]) (less_seenP s39_clo rootR_clo (Nat.le_refl 2) (by kernel_rfl) (by kernel_rfl) (by kernel_rfl) (by kernel_rfl))
    · refine next (refS n f g i) _ (by rw [refS_step, if_neg (by rw [hb]; exact Bool.false_ne_true)]) (less_seenP s39_clo rootR_clo (Nat.le_refl 2) (by kernel_rfl) (by kernel_rfl) (by kernel_rfl) (by kernel_rfl))

theorem ref39_local (L : Int) (n : Nat) (f : Nat → Int) (g : Nat → Bool) (hn : n < 4611686018427387904) :
    Local Tryd.prog 2 39 [.int .i64 L, refV n] (hp (rootR n f g)) (Holds (rootR n f g) (refV39 L n f g)) := by
  refine local_of noNum Tryd.func39 (show Tryd.f39.body = some c39 by kernel_rfl) ?_
  refine Runs.sqR mixed hk38 [] (by kernel_rfl) (by kernel_rfl) (by kernel_rfl) oblN ?_
  refine Runs.sqR mixed hk38 [viaC 2 90 [.int .i64 L, refV n] (i64 (toldV L n f))] (by kernel_rfl) (by kernel_rfl) (by kernel_rfl) (oblC (shown_call (by kernel_rfl) (told_says L n f g hn)) oblN) ?_
  refine Runs.sq (by kernel_rfl) (Runs.sqR mixed hk38 [] (by kernel_rfl) (by kernel_rfl) (by kernel_rfl) oblN ?_)
  refine Runs.cd (b := !(eqF (.ofNat (toldV L n f)) 0)) (by kernel_rfl) (fun hb => ?_) (fun hb => Runs.now (x := .normal) (by kernel_rfl) ?_)
  · refine Runs.sqR mixed hk38 [] (by kernel_rfl) (by kernel_rfl) (by kernel_rfl) oblN (Runs.now (x := .ret) (by kernel_rfl) ⟨.inr rfl, [i64 0, i64 0, i64 (toldV L n f)], by kernel_rfl, ?_, keepOf (by kernel_rfl)⟩)
    have hb' : eqF (.ofNat (toldV L n f)) 0 = false := by simpa using hb
    show Value.tuple #[i64 0, i64 0, i64 (toldV L n f)] = refV39 L n f g
    unfold refV39; rw [if_neg (by rw [hb']; exact Bool.false_ne_true)]
  · have hb' : eqF (.ofNat (toldV L n f)) 0 = true := by simpa using hb
    have hz : toldV L n f = 0 := by
      rw [eqF_eq, beq_iff_eq] at hb'
      exact Int.ofNat.inj hb'
    obtain ⟨lv, rfl, hlv, _, _⟩ := chk_zero ((told_chk L n f).symm.trans hz)
    have hT : refV39 (.ofNat lv) n f g = if eqF (.ofNat (toldV (.ofNat lv) n f)) 0 then (if ltF (refS n f g (lv + 1)).1 0 then .tuple #[i64 0, i64 0, i64 12] else .tuple #[.int .i64 (refS n f g (lv + 1)).1, .int .i64 (refS n f g (lv + 1)).2, i64 0])
      else .tuple #[i64 0, i64 0, i64 (toldV (.ofNat lv) n f)] := rfl
    show Runs Tryd.prog 2 _ _ _
    refine Runs.sqR mixed hk38 [] (by kernel_rfl) (by kernel_rfl) (by kernel_rfl) oblN ?_
    refine Runs.sq (by kernel_rfl) (Runs.sqR mixed hk38 [] (by kernel_rfl) (by kernel_rfl) (by kernel_rfl) oblN (Runs.bk (id := 0) (by kernel_rfl) ?_))
    refine Runs.less (af1 := sth (S39 lv n (refS n f g 0) 0) 33 (rootR n f g)) (less_seenP s39_clo rootR_clo (Nat.le_refl 2) (by kernel_rfl) (by kernel_rfl) (by kernel_rfl) (by kernel_rfl)) ?_
    refine (ref_loop lv n hlv f g hn (lv + 1) 0 (by omega)).mono fun x af hx => ?_
    obtain ⟨rfl, less⟩ := hx
    show Runs Tryd.prog 2 _ af _
    refine Runs.less less (Runs.sq (by kernel_rfl) (Runs.sqR mixed hk38 [] (by kernel_rfl) (by kernel_rfl) (by kernel_rfl) oblN ?_))
    refine Runs.cd (b := ltF (refS n f g (lv + 1)).1 0) (by kernel_rfl) (fun hc => ?_) (fun hc => Runs.now (x := .normal) (by kernel_rfl) ?_)
    · refine Runs.sqR mixed hk38 [] (by kernel_rfl) (by kernel_rfl) (by kernel_rfl) oblN (Runs.now (x := .ret) (by kernel_rfl) ⟨.inr rfl, [i64 0, i64 0, i64 12], by kernel_rfl, ?_, keepOf (by kernel_rfl)⟩)
      show Value.tuple #[i64 0, i64 0, i64 12] = refV39 (.ofNat lv) n f g
      rw [hT, if_pos hb', if_pos hc]
    · show Runs Tryd.prog 2 _ _ _
      refine Runs.sqR mixed hk38 [] (by kernel_rfl) (by kernel_rfl) (by kernel_rfl) oblN (Runs.now (x := .ret) (by kernel_rfl) ⟨.inr rfl, [.int .i64 (refS n f g (lv + 1)).1, .int .i64 (refS n f g (lv + 1)).2, i64 0], by kernel_rfl, ?_, keepOf (by kernel_rfl)⟩)
      show Value.tuple #[.int .i64 (refS n f g (lv + 1)).1, .int .i64 (refS n f g (lv + 1)).2, i64 0] = refV39 (.ofNat lv) n f g
      rw [hT, if_pos hb', if_neg (by rw [hc]; exact Bool.false_ne_true)]
end
end Go.Proofs.YtgnkjmgkfibipaaDoor

/- Two results that contradict each other, in both texts. -/
namespace Go.Proofs.YtgnkjmgkfibipaaDoor
set_option linter.unusedVariables false
set_option linter.unusedSimpArgs false
open Go Go.R
set_option maxRecDepth 1000000
noncomputable section

theorem keepNew {os : List AObj} {h : AH} {o : AObj} (e : h = ((hp os).new o).2) : ∀ (j : Nat) x, os[j]? = some x → h.get j = x := fun j x hx => by
  have hj : j < os.length := by
    rcases Nat.lt_or_ge j os.length with q | q
    · exact q
    · rw [List.getElem?_eq_none q] at hx; cases hx
  rw [e, AH.get_new, hp_next, if_neg (by omega)]
  exact hp_get os j x hx

theorem keepNew2 {os : List AObj} {h : AH} {o o' : AObj} (e : h = ((((hp os).new o).2).new o').2) : ∀ (j : Nat) x, os[j]? = some x → h.get j = x := fun j x hx => by
  have hj : j < os.length := by
    rcases Nat.lt_or_ge j os.length with q | q
    · exact q
    · rw [List.getElem?_eq_none q] at hx; cases hx
  rw [e, AH.get_new, AH.next_new, AH.get_new, hp_next, if_neg (by omega), if_neg (by omega)]
  exact hp_get os j x hx

def cellA (x : Int) (a : Bool) : AObj := .cells [.int .i64 x, .bool a] true [] (some 52)
def rootA (n : Nat) (f : Nat → Int) (g : Nat → Bool) (x : Int) (a : Bool) : List AObj := [resO n f g, cellA x a]
theorem rootA_clo {n : Nat} {f : Nat → Int} {g : Nat → Bool} {x : Int} {a : Bool} : ∀ o ∈ rootA n f g x a, CloO 2 o := fun o ho => by
  simp only [rootA, List.mem_cons, List.mem_nil_iff, or_false] at ho
  rcases ho with rfl | rfl
  · exact resO_clo 2 n f g
  · exact cloO_plain (fun v hv => by simp only [List.mem_cons, List.mem_nil_iff, or_false] at hv; rcases hv with rfl | rfl <;> rfl) _ _

def agV (x : Int) (a : Bool) : Value := .agg #[.int .i64 x, .bool a]
def c93 : Code := bodyOf Tryd.f93
def c94 : Code := bodyOf Tryd.f94

theorem why1_local (x : Int) (a : Bool) (y : Int) (b : Bool) (n : Nat) (f : Nat → Int) (g : Nat → Bool) :
    Local Tryd.prog 2 93 [agV y b, ptrV 1] (hp (rootA n f g x a)) (Holds (rootA n f g x a) (.bool (whyB x a y b))) := by
  refine local_of noNum Tryd.func93 (show Tryd.f93.body = some c93 by kernel_rfl) ?_
  refine Runs.sqR mixed hk38 [] (by kernel_rfl) (by kernel_rfl) (by kernel_rfl) oblN ?_
  have fin : ∀ (z : Bool) (af : AF), z = whyB x a y b → resultsA Tryd.prog af.tm af.h Tryd.f93.results.toList = some [.bool z] → af.h = ((hp (rootA n f g x a)).new (.cells [.int .i64 y, .bool b] true [] (some 52))).2 →
      EndsAs Tryd.prog Tryd.f93 (Holds (rootA n f g x a) (.bool (whyB x a y b))) .ret af := by
    intro z af hz hr hh
    exact ⟨.inr rfl, [.bool z], hr, by rw [← hz]; rfl, keepNew hh⟩
  cases a with
  | true => cases b with
    | true => exact Runs.sqR mixed hk38 [] (by kernel_rfl) (by kernel_rfl) (by kernel_rfl) oblN (Runs.now (x := .ret) (by kernel_rfl) (fin false _ rfl (by kernel_rfl) (by kernel_rfl)))
    | false => cases he : eqF x y with
      | true => exact Runs.sqR mixed hk38 [viaV 10 (.bool true)] (by kernel_rfl) (by kernel_rfl) (by kernel_rfl) (oblC (shown_eq (v := .bool (eqF x y)) (by kernel_rfl) (by kernel_rfl) (by rw [he])) oblN) (Runs.now (x := .ret) (by kernel_rfl) (fin true _ (by unfold whyB; rw [he]; rfl) (by kernel_rfl) (by kernel_rfl)))
      | false => exact Runs.sqR mixed hk38 [viaV 10 (.bool false)] (by kernel_rfl) (by kernel_rfl) (by kernel_rfl) (oblC (shown_eq (v := .bool (eqF x y)) (by kernel_rfl) (by kernel_rfl) (by rw [he])) oblN) (Runs.now (x := .ret) (by kernel_rfl) (fin (true == ltF x y) _ (by unfold whyB; rw [he]; rfl) (by kernel_rfl) (by kernel_rfl)))
  | false => cases b with
    | false => exact Runs.sqR mixed hk38 [] (by kernel_rfl) (by kernel_rfl) (by kernel_rfl) oblN (Runs.now (x := .ret) (by kernel_rfl) (fin false _ rfl (by kernel_rfl) (by kernel_rfl)))
    | true => cases he : eqF x y with
      | true => exact Runs.sqR mixed hk38 [viaV 10 (.bool true)] (by kernel_rfl) (by kernel_rfl) (by kernel_rfl) (oblC (shown_eq (v := .bool (eqF x y)) (by kernel_rfl) (by kernel_rfl) (by rw [he])) oblN) (Runs.now (x := .ret) (by kernel_rfl) (fin true _ (by unfold whyB; rw [he]; rfl) (by kernel_rfl) (by kernel_rfl)))
      | false => exact Runs.sqR mixed hk38 [viaV 10 (.bool false)] (by kernel_rfl) (by kernel_rfl) (by kernel_rfl) (oblC (shown_eq (v := .bool (eqF x y)) (by kernel_rfl) (by kernel_rfl) (by rw [he])) oblN) (Runs.now (x := .ret) (by kernel_rfl) (fin (false == ltF x y) _ (by unfold whyB; rw [he]; rfl) (by kernel_rfl) (by kernel_rfl)))

theorem con_local (x : Int) (a : Bool) (y : Int) (b : Bool) (n : Nat) (f : Nat → Int) (g : Nat → Bool) :
    Local Tryd.prog 2 94 [agV x a, agV y b] (hp (rootR n f g)) (Holds (rootR n f g) (.bool (conB x a y b))) := by
  refine local_of noNum Tryd.func94 (show Tryd.f94.body = some c94 by kernel_rfl) ?_
  refine Runs.sqR mixed hk38 [] (by kernel_rfl) (by kernel_rfl) (by kernel_rfl) oblN ?_
  have fin : ∀ (z : Bool) (af : AF), z = conB x a y b → resultsA Tryd.prog af.tm af.h Tryd.f94.results.toList = some [.bool z] →
      af.h = ((((hp (rootR n f g)).new (.cells [.int .i64 x, .bool a] true [] (some 98))).2).new (.cells [.int .i64 y, .bool b] true [] (some 98))).2 →
      EndsAs Tryd.prog Tryd.f94 (Holds (rootR n f g) (.bool (conB x a y b))) .ret af := by
    intro z af hz hr hh
    exact ⟨.inr rfl, [.bool z], hr, by rw [← hz]; rfl, keepNew2 hh⟩
  cases a with
  | true => cases b with
    | true => exact Runs.sqR mixed hk38 [] (by kernel_rfl) (by kernel_rfl) (by kernel_rfl) oblN (Runs.now (x := .ret) (by kernel_rfl) (fin false _ rfl (by kernel_rfl) (by kernel_rfl)))
    | false => cases he : leF x y with
      | true => exact Runs.sqR mixed hk38 [viaV 12 (.bool true)] (by kernel_rfl) (by kernel_rfl) (by kernel_rfl) (oblC (shown_eq (v := .bool (leF x y)) (by kernel_rfl) (by kernel_rfl) (by rw [he])) oblN) (Runs.now (x := .ret) (by kernel_rfl) (fin true _ (by unfold conB; rw [he]; rfl) (by kernel_rfl) (by kernel_rfl)))
      | false => exact Runs.sqR mixed hk38 [viaV 12 (.bool false)] (by kernel_rfl) (by kernel_rfl) (by kernel_rfl) (oblC (shown_eq (v := .bool (leF x y)) (by kernel_rfl) (by kernel_rfl) (by rw [he])) oblN) (Runs.now (x := .ret) (by kernel_rfl) (fin false _ (by unfold conB; rw [he]; rfl) (by kernel_rfl) (by kernel_rfl)))
  | false => cases b with
    | false => exact Runs.sqR mixed hk38 [] (by kernel_rfl) (by kernel_rfl) (by kernel_rfl) oblN (Runs.now (x := .ret) (by kernel_rfl) (fin false _ rfl (by kernel_rfl) (by kernel_rfl)))
    | true => exact Runs.sqR mixed hk38 [] (by kernel_rfl) (by kernel_rfl) (by kernel_rfl) oblN (Runs.now (x := .ret) (by kernel_rfl) (fin (leF y x) _ (by unfold conB; rfl) (by kernel_rfl) (by kernel_rfl)))

theorem con_says (x : Int) (a : Bool) (y : Int) (b : Bool) (n : Nat) (f : Nat → Int) (g : Nat → Bool) : Says Tryd.prog (hp (rootR n f g)) 94 [agV x a, agV y b] (.bool (conB x a y b)) (hp (rootR n f g)) :=
  says_of (os := rootR n f g) (con_local x a y b n f g) (fun v hv => by
    simp only [List.mem_cons, List.mem_nil_iff, or_false] at hv
    rcases hv with rfl | rfl
    · exact clo_of 10 2 _ (by kernel_rfl)
    · exact clo_of 10 2 _ (by kernel_rfl)) rootR_clo (clo_plain rfl)

theorem why1_says (x : Int) (a : Bool) (y : Int) (b : Bool) (n : Nat) (f : Nat → Int) (g : Nat → Bool) : Says1 (hp (rootA n f g x a)) 93 [agV y b, ptrV 1] (.bool (whyB x a y b)) :=
  says_of (os := rootA n f g x a) (why1_local x a y b n f g) (fun v hv => by
    simp only [List.mem_cons, List.mem_nil_iff, or_false] at hv
    rcases hv with rfl | rfl
    · exact clo_of 10 2 _ (by kernel_rfl)
    · exact clo_of 10 2 _ (by kernel_rfl)) rootA_clo (clo_plain rfl)

/-! ### The rest of the results -/
theorem rest_slice {n c l : Nat} (h1 : l ≤ n) (h2 : n ≤ c) :
    sliceA Tryd.prog 42 (resV n c) (some (i64 l)) none none = some (.slice (some ⟨0, (if c = l then 0 else l) * 2, none⟩) (n - l) (c - l)) := by
  have e1 : Tryd.prog.underlying 42 = some (.slice 52) := by kernel_rfl
  obtain ⟨info, e2, e3⟩ : ∃ info, Tryd.prog.info? 52 = some info ∧ info.size = 2 := ⟨(Tryd.prog.info? 52).get!, by kernel_rfl, by kernel_rfl⟩
  have e4 : boundsA n c (some (i64 l)) none none = some (l, n, c) := by
    unfold boundsA
    simp only [boundA]
    have q : (0 : Int) ≤ (Int.ofNat l) ∧ (Int.ofNat l) ≤ (n : Int) := ⟨Int.natCast_nonneg l, Int.ofNat_le.2 h1⟩
    show (match (if (0 : Int) ≤ Int.ofNat l ∧ Int.ofNat l ≤ (n : Int) then some (Int.ofNat l).toNat else none) with
      | none => none
      | some l => if n ≤ c then some (l, n, c) else none) = _
    rw [if_pos q]
    show (if n ≤ c then some (l, n, c) else none) = _
    rw [if_pos h2]
  unfold resV sliceA
  simp only [e1, e2, e4, e3]
  unfold cutAt
  by_cases hc : c = l
  · rw [if_pos hc, if_pos hc, Nat.zero_mul]
  · rw [if_neg hc, if_neg hc]
    show some (Value.slice (some ⟨0, 0 + l * 2, none⟩) (n - l) (c - l)) = _
    rw [Nat.zero_add]
end
end Go.Proofs.YtgnkjmgkfibipaaDoor

/- Why, whatever the results are. -/
namespace Go.Proofs.YtgnkjmgkfibipaaDoor
set_option linter.unusedVariables false
set_option linter.unusedSimpArgs false
open Go Go.R
set_option maxRecDepth 1000000
noncomputable section

/-- The first pair of which C says yes, from i on. -/
def whyS (C : Nat → Nat → Bool) (n : Nat) : Nat → Nat → Value
  | 0, i => .tuple #[i64 0, i64 0, i64 13]
  | d + 1, i => if firstP (C i) n (n - (i + 1)) (i + 1) < n then .tuple #[i64 i, i64 (firstP (C i) n (n - (i + 1)) (i + 1)), i64 0] else whyS C n d (i + 1)

def whyC (f : Nat → Int) (g : Nat → Bool) (i j : Nat) : Bool := whyB (f i) (g i) (f j) (g j)

def c41 : Code := bodyOf Tryd.f41
def lp41 : Code := within (tl (hd (behind 2 c41)))
def S41 (n c i : Nat) : List (Nat × Value) := [(1, resV n c), (17, resV n c), (18, i64 n), (19, i64 i)]
theorem s41_clo {n c i : Nat} : ∀ q ∈ S41 n c i, Clo 1 q.2 := clo_all (by kernel_rfl)
theorem one_clo {n : Nat} {f : Nat → Int} {g : Nat → Bool} : ∀ o ∈ [resO n f g], CloO 1 o := fun o ho => by rw [List.mem_singleton.1 ho]; exact resO_clo 1 n f g

theorem keep1 {n : Nat} {f : Nat → Int} {g : Nat → Bool} {x : Int} {a : Bool} {h : AH} (e : h = hp (rootA n f g x a)) : ∀ (j : Nat) z, [resO n f g][j]? = some z → h.get j = z := by
  intro j z hz
  match j, hz with
  | 0, hz => rw [e]; exact hp_get (rootA n f g x a) 0 z hz
  | j + 1, hz => simp at hz

theorem wrap_ofNat {k : Nat} (h : k < 9223372036854775808) : wrapF .i64 (.ofNat k) = .ofNat k := by
  show cond (Nat.blt k 9223372036854775808) (Int.ofNat k) _ = _
  have : Nat.blt k 9223372036854775808 = true := by rw [Nat.blt_eq]; exact h
  rw [this]; rfl

theorem why_loop (n c : Nat) (hc : n ≤ c) (f : Nat → Int) (g : Nat → Bool) (hn : n < 4611686018427387904) : ∀ d i, i + d = n →
    Runs Tryd.prog 1 lp41 (sth (S41 n c i) 38 [resO n f g]) fun x af => (x = .exit 0 ∧ whyS (whyC f g) n d i = .tuple #[i64 0, i64 0, i64 13] ∧ Less 1 (sth (S41 n c n) 38 [resO n f g]) af) ∨
      (x = .ret ∧ ∃ vs, resultsA Tryd.prog af.tm af.h Tryd.f41.results.toList = some vs ∧ pack vs = whyS (whyC f g) n d i ∧ ∀ (j : Nat) z, [resO n f g][j]? = some z → af.h.get j = z) := by
  intro d
  induction d with
  | zero =>
    intro i hi
    have him : i = n := by omega
    subst him
    refine Runs.lp (by kernel_rfl) (Runs.sqR mixed hk38 [] (by kernel_rfl) (by kernel_rfl) (by kernel_rfl) oblN (Runs.sq (by kernel_rfl) ?_))
    refine Runs.cd (b := ltF (.ofNat i) (.ofNat i)) (by kernel_rfl) (fun ht => by rw [lt_self] at ht; cases ht) (fun _ => Runs.now (x := .exit 0) (by kernel_rfl) (.inl ⟨rfl, rfl, ?_⟩))
    exact less_seenP s41_clo one_clo (Nat.le_refl 1) (by kernel_rfl) (by kernel_rfl) (by kernel_rfl) (by kernel_rfl)
  | succ d ih =>
    intro i hi
    have hlt : i < n := by omega
    refine Runs.lp (by kernel_rfl) (Runs.sqR mixed hk38 [] (by kernel_rfl) (by kernel_rfl) (by kernel_rfl) oblN (Runs.sq (by kernel_rfl) ?_))
    refine Runs.cd (b := ltF (.ofNat i) (.ofNat n)) (by kernel_rfl) (fun _ => Runs.now (x := .normal) (by kernel_rfl) ?_) (fun hf => by rw [lt_of hlt] at hf; cases hf)
    show Runs Tryd.prog 1 _ _ _
    refine Runs.sq (by kernel_rfl) (Runs.bk (id := 1) (by kernel_rfl) ?_)
    refine Runs.sqR mixed hk38 [viaV 1 (.pointer (some ⟨0, 0 + i * 2, none⟩)), viaV 2 (agV (f i) (g i))] (by kernel_rfl) (by kernel_rfl) (by kernel_rfl)
      (oblC (shown_idx (n := n) (by kernel_rfl) hlt) (oblC (shown_agg (sz := 2) (l := [.int .i64 (f i), .bool (g i)]) (by kernel_rfl) (res_at (by kernel_rfl) hlt)) oblN)) ?_
    let R2 := rootA n f g (f i) (g i)
    let l2 : List (Nat × Value) := S41 n c i ++ [(8, i64 i), (9, ptrV 1)]
    have l2clo : ∀ q ∈ l2, Clo 2 q.2 := clo_all (by kernel_rfl)
    refine Runs.less (af1 := sth l2 38 R2) (less_seenP l2clo rootA_clo (show 1 ≤ 2 by decide) (by kernel_rfl) (by kernel_rfl) (by kernel_rfl) (by kernel_rfl)) ?_
    -- the call
    let o : Nat := if c = i + 1 then 0 else i + 1
    let m : Nat := n - (i + 1)
    let p : Nat → Bool := fun j => whyC f g i (o + j)
    have hom : o + m ≤ n := by show (if c = i + 1 then 0 else i + 1) + (n - (i + 1)) ≤ n; split <;> omega
    let fv : Value := .func (.func 93) #[] #[ptrV 1]
    let sl : Value := .slice (some ⟨0, o * 2, none⟩) m (c - (i + 1))
    have hS : Says Tryd.prog (hp R2) 92 [sl, fv] (idxV p m) (hp R2) := by
      refine says_of (os := R2) (index_local R2 n o m (c - (i + 1)) f g 93 #[ptrV 1] p (by omega) hom rfl rootA_clo (fun x hx => ?_) fun j hj => ?_) (fun x hx => ?_) rootA_clo (clo_plain (by unfold idxV; split <;> rfl))
      · simp only [List.mem_cons, List.mem_nil_iff, or_false] at hx
        subst hx
        exact clo_of 10 _ _ (by kernel_rfl)
      · exact why1_says (f i) (g i) (f (o + j)) (g (o + j)) n f g
      · simp only [List.mem_cons, List.mem_nil_iff, or_false] at hx
        rcases hx with rfl | rfl
        · exact clo_of 10 _ _ (by kernel_rfl)
        · exact clo_of 10 _ _ (by kernel_rfl)
    have hsl : sliceA Tryd.prog 42 (resV n c) (some (i64 (i + 1))) none none = some sl := rest_slice (by omega) hc
    have same : firstP p m m 0 < m ↔ firstP (whyC f g i) n m (i + 1) < n := by
      by_cases hci : c = i + 1
      · have hm0 : m = 0 := by show n - (i + 1) = 0; omega
        rw [hm0]
        simp [firstP]
      · have ho : o = i + 1 := if_neg hci
        have := firstP_shift (whyC f g i) (i + 1) m m 0 (by omega)
        rw [Nat.add_zero, show i + 1 + m = n by show i + 1 + (n - (i + 1)) = n; omega] at this
        have ep : p = fun j => whyC f g i (i + 1 + j) := by funext j; show whyC f g i (o + j) = _; rw [ho]
        rw [ep]
        have hmn : i + 1 + m = n := by show i + 1 + (n - (i + 1)) = n; omega
        omega
    have w1 : wrapF .i64 (Int.add (.ofNat i) (.ofNat 1)) = .ofNat (i + 1) := wrap_succ (by omega)
    by_cases hfound : firstP p m m 0 < m
    · have hci : ¬ c = i + 1 := fun hci => by
        have hm0 : m = 0 := by show n - (i + 1) = 0; omega
        omega
      have ho : o = i + 1 := if_neg hci
      let k := firstP p m m 0
      have hk : idxV p m = i64 k := by unfold idxV; rw [if_pos hfound]
      rw [hk] at hS
      refine Runs.sqR mixed hk38 [viaV 2 (i64 (i + 1)), viaV 3 sl, viaC 5 92 [sl, fv] (i64 k)] (by kernel_rfl) (by kernel_rfl) (by kernel_rfl)
        (oblC (shown_eq (v := .int .i64 (wrapF .i64 (Int.add (.ofNat i) (.ofNat 1)))) (by kernel_rfl) (by kernel_rfl) (by rw [w1]; rfl))
        (oblC ⟨by kernel_rfl, (show _ = (sliceA Tryd.prog 42 (resV n c) (some (i64 (i + 1))) none none).map (·, hp R2) by kernel_rfl).trans (by rw [hsl]; rfl)⟩ (oblC (shown_call (by kernel_rfl) hS) oblN))) ?_
      refine Runs.sqR mixed hk38 [] (by kernel_rfl) (by kernel_rfl) (by kernel_rfl) oblN ?_
      have hge : leF (.ofNat 0) (.ofNat k) = true := by rw [leF_eq, decide_eq_true_eq]; exact Int.natCast_nonneg k
      refine Runs.cd (b := leF (.ofNat 0) (.ofNat k)) (by kernel_rfl) (fun _ => ?_) (fun hf => by rw [hge] at hf; cases hf)
      have hkm : k < m := hfound
      have hmn : m ≤ n := Nat.sub_le _ _
      have e : whyS (whyC f g) n (d + 1) i = .tuple #[i64 i, i64 (i + 1 + k), i64 0] := by
        have hlt' : firstP (whyC f g i) n m (i + 1) < n := same.1 hfound
        have hsh := firstP_shift (whyC f g i) (i + 1) m m 0 (by omega)
        rw [Nat.add_zero, show i + 1 + m = n by show i + 1 + (n - (i + 1)) = n; omega] at hsh
        have ep : p = fun j => whyC f g i (i + 1 + j) := by funext j; show whyC f g i (o + j) = _; rw [ho]
        have hkk : k = firstP (fun j => whyC f g i (i + 1 + j)) m m 0 := by show firstP p m m 0 = _; rw [ep]
        show (if firstP (whyC f g i) n m (i + 1) < n then Value.tuple #[i64 i, i64 (firstP (whyC f g i) n m (i + 1)), i64 0] else _) = _
        rw [if_pos hlt', ← hsh, ← hkk]
      rw [e]
      have w2 : wrapF .i64 (Int.add (.ofNat (i + 1)) (.ofNat k)) = .ofNat (i + 1 + k) := wrap_ofNat (by omega)
      refine Runs.sqR mixed hk38 [viaV 2 (i64 (i + 1)), viaV 4 (i64 (i + 1 + k))] (by kernel_rfl) (by kernel_rfl) (by kernel_rfl)
        (oblC (shown_eq (v := .int .i64 (wrapF .i64 (Int.add (.ofNat i) (.ofNat 1)))) (by kernel_rfl) (by kernel_rfl) (by rw [w1]; rfl))
        (oblC (shown_eq (v := .int .i64 (wrapF .i64 (Int.add (.ofNat (i + 1)) (.ofNat k)))) (by kernel_rfl) (by kernel_rfl) (by rw [w2]; rfl)) oblN)) ?_
      exact Runs.now (x := .ret) (by kernel_rfl) (.inr ⟨rfl, [i64 i, i64 (i + 1 + k), i64 0], by kernel_rfl, rfl, keep1 (x := f i) (a := g i) (by kernel_rfl)⟩)
    · have hk : idxV p m = .int .i64 (.negSucc 0) := by unfold idxV; rw [if_neg hfound]
      rw [hk] at hS
      refine Runs.sqR mixed hk38 [viaV 2 (i64 (i + 1)), viaV 3 sl, viaC 5 92 [sl, fv] (.int .i64 (.negSucc 0))] (by kernel_rfl) (by kernel_rfl) (by kernel_rfl)
        (oblC (shown_eq (v := .int .i64 (wrapF .i64 (Int.add (.ofNat i) (.ofNat 1)))) (by kernel_rfl) (by kernel_rfl) (by rw [w1]; rfl))
        (oblC ⟨by kernel_rfl, (show _ = (sliceA Tryd.prog 42 (resV n c) (some (i64 (i + 1))) none none).map (·, hp R2) by kernel_rfl).trans (by rw [hsl]; rfl)⟩ (oblC (shown_call (by kernel_rfl) hS) oblN))) ?_
      refine Runs.sqR mixed hk38 [] (by kernel_rfl) (by kernel_rfl) (by kernel_rfl) oblN ?_
      refine Runs.cd (b := false) (by kernel_rfl) (fun hf => by cases hf) (fun _ => Runs.now (x := .normal) (by kernel_rfl) ?_)
      have e : whyS (whyC f g) n (d + 1) i = whyS (whyC f g) n d (i + 1) := by
        show (if firstP (whyC f g i) n m (i + 1) < n then Value.tuple #[i64 i, i64 (firstP (whyC f g i) n m (i + 1)), i64 0] else _) = _
        rw [if_neg (fun q => hfound (same.2 q))]
      rw [e]
      show Runs Tryd.prog 1 _ _ _
      refine Runs.rg mixed hk38 [] (by kernel_rfl) (by kernel_rfl) (by kernel_rfl) oblN ?_
      show Runs Tryd.prog 1 lp41 _ _
      have ew : S41 n c (i + 1) = [(1, resV n c), (17, resV n c), (18, i64 n), (19, .int .i64 (wrapF .i64 (Int.add (.ofNat i) (.ofNat 1))))] := by rw [w1]; rfl
      refine Runs.less (af1 := sth (S41 n c (i + 1)) 38 [resO n f g]) ?_ (ih (i + 1) (by omega))
      rw [ew]
      exact less_seenP (clo_all (by kernel_rfl)) one_clo (Nat.le_refl 1) (by kernel_rfl) (by kernel_rfl) (by kernel_rfl) (by kernel_rfl)

def whyV (L : Int) (n : Nat) (f : Nat → Int) (g : Nat → Bool) : Value :=
  if eqF (.ofNat (chkV L n f)) 0 then whyS (whyC f g) n n 0 else .tuple #[i64 0, i64 0, i64 (chkV L n f)]

theorem why_local (L : Int) (n c : Nat) (hc : n ≤ c) (f : Nat → Int) (g : Nat → Bool) (hn : n < 4611686018427387904) :
    Local Tryd.prog 1 41 [.int .i64 L, resV n c] (hp [resO n f g]) (Holds [resO n f g] (whyV L n f g)) := by
  have hS : Says Tryd.prog (hp [resO n f g]) 89 [.int .i64 L, resV n c] (i64 (chkV L n f)) (hp [resO n f g]) := says_of (os := [resO n f g]) (checked_local L n c f g hn) (fun x hx => by
    simp only [List.mem_cons, List.mem_nil_iff, or_false] at hx
    rcases hx with rfl | rfl
    · exact clo_plain rfl
    · exact clo_of 10 1 _ (by kernel_rfl)) one_clo (clo_plain rfl)
  refine local_of noNum Tryd.func41 (show Tryd.f41.body = some c41 by kernel_rfl) ?_
  refine Runs.sqR mixed hk38 [] (by kernel_rfl) (by kernel_rfl) (by kernel_rfl) oblN ?_
  refine Runs.sq (by kernel_rfl) (Runs.sqR mixed hk38 [viaC 2 89 [.int .i64 L, resV n c] (i64 (chkV L n f))] (by kernel_rfl) (by kernel_rfl) (by kernel_rfl) (oblC (shown_call (by kernel_rfl) hS) oblN) ?_)
  refine Runs.sqR mixed hk38 [] (by kernel_rfl) (by kernel_rfl) (by kernel_rfl) oblN ?_
  refine Runs.cd (b := !(eqF (.ofNat (chkV L n f)) 0)) (by kernel_rfl) (fun hb => ?_) (fun hb => Runs.now (x := .normal) (by kernel_rfl) ?_)
  · have hb' : eqF (.ofNat (chkV L n f)) 0 = false := by simpa using hb
    refine Runs.sqR mixed hk38 [] (by kernel_rfl) (by kernel_rfl) (by kernel_rfl) oblN (Runs.now (x := .ret) (by kernel_rfl) ⟨.inr rfl, [i64 0, i64 0, i64 (chkV L n f)], by kernel_rfl, ?_, keepOf (by kernel_rfl)⟩)
    show Value.tuple #[i64 0, i64 0, i64 (chkV L n f)] = whyV L n f g
    unfold whyV; rw [if_neg (by rw [hb']; exact Bool.false_ne_true)]
  · have hb' : eqF (.ofNat (chkV L n f)) 0 = true := by simpa using hb
    have hV : whyV L n f g = whyS (whyC f g) n n 0 := by unfold whyV; rw [if_pos hb']
    show Runs Tryd.prog 1 _ _ _
    refine Runs.sq (by kernel_rfl) (Runs.sqR mixed hk38 [] (by kernel_rfl) (by kernel_rfl) (by kernel_rfl) oblN (Runs.bk (id := 0) (by kernel_rfl) ?_))
    refine Runs.less (af1 := sth (S41 n c 0) 38 [resO n f g]) (less_seenP s41_clo one_clo (Nat.le_refl 1) (by kernel_rfl) (by kernel_rfl) (by kernel_rfl) (by kernel_rfl)) ?_
    refine (why_loop n c hc f g hn n 0 (by omega)).mono fun x af hx => ?_
    rcases hx with ⟨rfl, e, less⟩ | ⟨rfl, vs, h1, h2, hh⟩
    · show Runs Tryd.prog 1 _ af _
      refine Runs.less less (Runs.sqR mixed hk38 [] (by kernel_rfl) (by kernel_rfl) (by kernel_rfl) oblN (Runs.now (x := .ret) (by kernel_rfl) ⟨.inr rfl, [i64 0, i64 0, i64 13], by kernel_rfl, ?_, keepOf (by kernel_rfl)⟩))
      rw [hV, e]; rfl
    · exact ⟨.inr rfl, vs, h1, by rw [hV, h2], hh⟩
end
end Go.Proofs.YtgnkjmgkfibipaaDoor

/- The reference's Why, whatever the results are. -/
namespace Go.Proofs.YtgnkjmgkfibipaaDoor
set_option linter.unusedVariables false
set_option linter.unusedSimpArgs false
open Go Go.R
set_option maxRecDepth 1000000
noncomputable section

def conC (f : Nat → Int) (g : Nat → Bool) (i j : Nat) : Bool := conB (f i) (g i) (f j) (g j)

def c42 : Code := bodyOf Tryd.f42
def lp42 : Code := within (tl (hd (behind 3 c42)))
def in42 : Code := within (tl (within (hd (tl (within lp42)))))
def S42 (n i : Nat) : List (Nat × Value) := [(1, refV n), (8, i64 i)]
def S42i (n i j : Nat) : List (Nat × Value) := [(1, refV n), (8, i64 i), (9, i64 j)]
theorem s42_clo {n i : Nat} : ∀ q ∈ S42 n i, Clo 2 q.2 := clo_all (by kernel_rfl)
theorem s42i_clo {n i j : Nat} : ∀ q ∈ S42i n i j, Clo 2 q.2 := clo_all (by kernel_rfl)

theorem row_ref {h : AH} {n i : Nat} {f : Nat → Int} {g : Nat → Bool} (hg : h.get 1 = refO n f g) (hlt : i < n) : rowAt? h 1 (0 + i * 2) 2 = some [.int .i64 (f i), .bool (g i)] := by
  rw [row_at hg (by rw [rows2_len]; omega), Nat.zero_add, rows2_at _ _ n i hlt]

theorem in_loop (n i : Nat) (hin : i < n) (f : Nat → Int) (g : Nat → Bool) (hn : n < 4611686018427387904) : ∀ d j, j + d = n →
    Runs Tryd.prog 2 in42 (sth (S42i n i j) 41 (rootR n f g)) fun x af => (x = .exit 2 ∧ firstP (conC f g i) n d j = n ∧ Less 2 (sth (S42i n i n) 41 (rootR n f g)) af) ∨
      (x = .ret ∧ firstP (conC f g i) n d j < n ∧ resultsA Tryd.prog af.tm af.h Tryd.f42.results.toList = some [i64 i, i64 (firstP (conC f g i) n d j), i64 0] ∧ ∀ (k : Nat) z, (rootR n f g)[k]? = some z → af.h.get k = z) := by
  intro d
  induction d with
  | zero =>
    intro j hj
    have him : j = n := by omega
    subst him
    refine Runs.lp (by kernel_rfl) (Runs.sq (by kernel_rfl) (Runs.sqR mixed hk38 [] (by kernel_rfl) (by kernel_rfl) (by kernel_rfl) oblN ?_))
    refine Runs.cd (b := ltF (.ofNat j) (.ofNat j)) (by kernel_rfl) (fun ht => by rw [lt_self] at ht; cases ht) (fun _ => Runs.now (x := .exit 2) (by kernel_rfl) (.inl ⟨rfl, rfl, ?_⟩))
    exact less_seenP s42i_clo rootR_clo (Nat.le_refl 2) (by kernel_rfl) (by kernel_rfl) (by kernel_rfl) (by kernel_rfl)
  | succ d ih =>
    intro j hj
    have hlt : j < n := by omega
    refine Runs.lp (by kernel_rfl) (Runs.sq (by kernel_rfl) (Runs.sqR mixed hk38 [] (by kernel_rfl) (by kernel_rfl) (by kernel_rfl) oblN ?_))
    refine Runs.cd (b := ltF (.ofNat j) (.ofNat n)) (by kernel_rfl) (fun _ => Runs.now (x := .normal) (by kernel_rfl) ?_) (fun hf => by rw [lt_of hlt] at hf; cases hf)
    show Runs Tryd.prog 2 _ _ _
    refine Runs.sq (by kernel_rfl) (Runs.bk (id := 3) (by kernel_rfl) ?_)
    refine Runs.sqR mixed hk38 [viaV 2 (.pointer (some ⟨1, 0 + i * 2, none⟩)), viaV 3 (agV (f i) (g i)), viaV 6 (.pointer (some ⟨1, 0 + j * 2, none⟩)), viaV 7 (agV (f j) (g j)), viaC 8 94 [agV (f i) (g i), agV (f j) (g j)] (.bool (conC f g i j))]
      (by kernel_rfl) (by kernel_rfl) (by kernel_rfl)
      (oblC (shown_idx (n := n) (by kernel_rfl) hin) (oblC (shown_agg (sz := 2) (l := [.int .i64 (f i), .bool (g i)]) (by kernel_rfl) (row_ref (n := n) (by kernel_rfl) hin))
      (oblC (shown_idx (n := n) (by kernel_rfl) hlt) (oblC (shown_agg (sz := 2) (l := [.int .i64 (f j), .bool (g j)]) (by kernel_rfl) (row_ref (n := n) (by kernel_rfl) hlt))
      (oblC (shown_call (by kernel_rfl) (con_says (f i) (g i) (f j) (g j) n f g)) oblN))))) ?_
    refine Runs.cd (b := conC f g i j) (by kernel_rfl) (fun hb => ?_) (fun hb => Runs.now (x := .normal) (by kernel_rfl) ?_)
    · have e : firstP (conC f g i) n (d + 1) j = j := by simp [firstP, hb]
      rw [e]
      exact Runs.sqR mixed hk38 [] (by kernel_rfl) (by kernel_rfl) (by kernel_rfl) oblN (Runs.now (x := .ret) (by kernel_rfl) (.inr ⟨rfl, hlt, by kernel_rfl, keepOf (by kernel_rfl)⟩))
    · have e : firstP (conC f g i) n (d + 1) j = firstP (conC f g i) n d (j + 1) := by simp [firstP, hb]
      rw [e]
      show Runs Tryd.prog 2 _ _ _
      refine Runs.rg mixed hk38 [] (by kernel_rfl) (by kernel_rfl) (by kernel_rfl) oblN ?_
      show Runs Tryd.prog 2 in42 _ _
      have ew : S42i n i (j + 1) = [(1, refV n), (8, i64 i), (9, .int .i64 (wrapF .i64 (Int.add (.ofNat j) (.ofNat 1))))] := by rw [wrap_succ (by omega : j < 4611686018427387904)]; rfl
      refine Runs.less (af1 := sth (S42i n i (j + 1)) 41 (rootR n f g)) ?_ (ih (j + 1) (by omega))
      rw [ew]
      exact less_seenP (clo_all (by kernel_rfl)) rootR_clo (Nat.le_refl 2) (by kernel_rfl) (by kernel_rfl) (by kernel_rfl) (by kernel_rfl)

theorem out_loop (n : Nat) (f : Nat → Int) (g : Nat → Bool) (hn : n < 4611686018427387904) : ∀ d i, i + d = n →
    Runs Tryd.prog 2 lp42 (sth (S42 n i) 41 (rootR n f g)) fun x af => (x = .exit 0 ∧ whyS (conC f g) n d i = .tuple #[i64 0, i64 0, i64 13] ∧ Less 2 (sth (S42 n n) 41 (rootR n f g)) af) ∨
      (x = .ret ∧ ∃ vs, resultsA Tryd.prog af.tm af.h Tryd.f42.results.toList = some vs ∧ pack vs = whyS (conC f g) n d i ∧ ∀ (j : Nat) z, (rootR n f g)[j]? = some z → af.h.get j = z) := by
  intro d
  induction d with
  | zero =>
    intro i hi
    have him : i = n := by omega
    subst him
    refine Runs.lp (by kernel_rfl) (Runs.sq (by kernel_rfl) (Runs.sqR mixed hk38 [] (by kernel_rfl) (by kernel_rfl) (by kernel_rfl) oblN ?_))
    refine Runs.cd (b := ltF (.ofNat i) (.ofNat i)) (by kernel_rfl) (fun ht => by rw [lt_self] at ht; cases ht) (fun _ => Runs.now (x := .exit 0) (by kernel_rfl) (.inl ⟨rfl, rfl, ?_⟩))
    exact less_seenP s42_clo rootR_clo (Nat.le_refl 2) (by kernel_rfl) (by kernel_rfl) (by kernel_rfl) (by kernel_rfl)
  | succ d ih =>
    intro i hi
    have hlt : i < n := by omega
    refine Runs.lp (by kernel_rfl) (Runs.sq (by kernel_rfl) (Runs.sqR mixed hk38 [] (by kernel_rfl) (by kernel_rfl) (by kernel_rfl) oblN ?_))
    refine Runs.cd (b := ltF (.ofNat i) (.ofNat n)) (by kernel_rfl) (fun _ => Runs.now (x := .normal) (by kernel_rfl) ?_) (fun hf => by rw [lt_of hlt] at hf; cases hf)
    show Runs Tryd.prog 2 _ _ _
    refine Runs.sq (by kernel_rfl) (Runs.bk (id := 1) (by kernel_rfl) ?_)
    have w1 : wrapF .i64 (Int.add (.ofNat i) (.ofNat 1)) = .ofNat (i + 1) := wrap_succ (by omega)
    refine Runs.sqR mixed hk38 [viaV 1 (i64 (i + 1))] (by kernel_rfl) (by kernel_rfl) (by kernel_rfl) (oblC (shown_eq (v := .int .i64 (wrapF .i64 (Int.add (.ofNat i) (.ofNat 1)))) (by kernel_rfl) (by kernel_rfl) (by rw [w1]; rfl)) oblN) ?_
    refine Runs.bk (id := 2) (by kernel_rfl) ?_
    refine Runs.less (af1 := sth (S42i n i (i + 1)) 41 (rootR n f g)) (less_seenP s42i_clo rootR_clo (Nat.le_refl 2) (by kernel_rfl) (by kernel_rfl) (by kernel_rfl) (by kernel_rfl)) ?_
    refine (in_loop n i hlt f g hn (n - (i + 1)) (i + 1) (by omega)).mono fun x af hx => ?_
    rcases hx with ⟨rfl, e, less⟩ | ⟨rfl, hlt', h1, hh⟩
    · have e2 : whyS (conC f g) n (d + 1) i = whyS (conC f g) n d (i + 1) := by
        show (if firstP (conC f g i) n (n - (i + 1)) (i + 1) < n then _ else _) = _
        rw [if_neg (by rw [e]; exact Nat.lt_irrefl n)]
      rw [e2]
      show Runs Tryd.prog 2 _ af _
      refine Runs.less less (Runs.rg mixed hk38 [] (by kernel_rfl) (by kernel_rfl) (by kernel_rfl) oblN ?_)
      show Runs Tryd.prog 2 lp42 _ _
      have ew : S42 n (i + 1) = [(1, refV n), (8, .int .i64 (wrapF .i64 (Int.add (.ofNat i) (.ofNat 1))))] := by rw [w1]; rfl
      refine Runs.less (af1 := sth (S42 n (i + 1)) 41 (rootR n f g)) ?_ (ih (i + 1) (by omega))
      rw [ew]
      exact less_seenP (clo_all (by kernel_rfl)) rootR_clo (Nat.le_refl 2) (by kernel_rfl) (by kernel_rfl) (by kernel_rfl) (by kernel_rfl)
    · refine .inr ⟨rfl, _, h1, ?_, hh⟩
      show Value.tuple #[i64 i, i64 (firstP (conC f g i) n (n - (i + 1)) (i + 1)), i64 0] = (if firstP (conC f g i) n (n - (i + 1)) (i + 1) < n then Value.tuple #[i64 i, i64 (firstP (conC f g i) n (n - (i + 1)) (i + 1)), i64 0] else _)
      rw [if_pos hlt']

def refV42 (L : Int) (n : Nat) (f : Nat → Int) (g : Nat → Bool) : Value :=
  if eqF (.ofNat (toldV L n f)) 0 then whyS (conC f g) n n 0 else .tuple #[i64 0, i64 0, i64 (toldV L n f)]

theorem ref42_local (L : Int) (n : Nat) (f : Nat → Int) (g : Nat → Bool) (hn : n < 4611686018427387904) :
    Local Tryd.prog 2 42 [.int .i64 L, refV n] (hp (rootR n f g)) (Holds (rootR n f g) (refV42 L n f g)) := by
  refine local_of noNum Tryd.func42 (show Tryd.f42.body = some c42 by kernel_rfl) ?_
  refine Runs.sqR mixed hk38 [] (by kernel_rfl) (by kernel_rfl) (by kernel_rfl) oblN ?_
  refine Runs.sqR mixed hk38 [viaC 2 90 [.int .i64 L, refV n] (i64 (toldV L n f))] (by kernel_rfl) (by kernel_rfl) (by kernel_rfl) (oblC (shown_call (by kernel_rfl) (told_says L n f g hn)) oblN) ?_
  refine Runs.sq (by kernel_rfl) (Runs.sqR mixed hk38 [] (by kernel_rfl) (by kernel_rfl) (by kernel_rfl) oblN ?_)
  refine Runs.cd (b := !(eqF (.ofNat (toldV L n f)) 0)) (by kernel_rfl) (fun hb => ?_) (fun hb => Runs.now (x := .normal) (by kernel_rfl) ?_)
  · have hb' : eqF (.ofNat (toldV L n f)) 0 = false := by simpa using hb
    refine Runs.sqR mixed hk38 [] (by kernel_rfl) (by kernel_rfl) (by kernel_rfl) oblN (Runs.now (x := .ret) (by kernel_rfl) ⟨.inr rfl, [i64 0, i64 0, i64 (toldV L n f)], by kernel_rfl, ?_, keepOf (by kernel_rfl)⟩)
    show Value.tuple #[i64 0, i64 0, i64 (toldV L n f)] = refV42 L n f g
    unfold refV42; rw [if_neg (by rw [hb']; exact Bool.false_ne_true)]
  · have hb' : eqF (.ofNat (toldV L n f)) 0 = true := by simpa using hb
    have hV : refV42 L n f g = whyS (conC f g) n n 0 := by unfold refV42; rw [if_pos hb']
    show Runs Tryd.prog 2 _ _ _
    refine Runs.sq (by kernel_rfl) (Runs.sqR mixed hk38 [] (by kernel_rfl) (by kernel_rfl) (by kernel_rfl) oblN (Runs.bk (id := 0) (by kernel_rfl) ?_))
    refine Runs.less (af1 := sth (S42 n 0) 41 (rootR n f g)) (less_seenP s42_clo rootR_clo (Nat.le_refl 2) (by kernel_rfl) (by kernel_rfl) (by kernel_rfl) (by kernel_rfl)) ?_
    refine (out_loop n f g hn n 0 (by omega)).mono fun x af hx => ?_
    rcases hx with ⟨rfl, e, less⟩ | ⟨rfl, vs, h1, h2, hh⟩
    · show Runs Tryd.prog 2 _ af _
      refine Runs.less less (Runs.sqR mixed hk38 [] (by kernel_rfl) (by kernel_rfl) (by kernel_rfl) oblN (Runs.now (x := .ret) (by kernel_rfl) ⟨.inr rfl, [i64 0, i64 0, i64 13], by kernel_rfl, ?_, keepOf (by kernel_rfl)⟩))
      rw [hV, e]; rfl
    · exact ⟨.inr rfl, vs, h1, by rw [hV, h2], hh⟩

theorem why_same (L : Int) (n : Nat) (f : Nat → Int) (g : Nat → Bool) : refV42 L n f g = whyV L n f g := by
  have e : conC f g = whyC f g := by
    funext i j
    exact (why_con (f i) (g i) (f j) (g j)).symm
  unfold refV42 whyV
  rw [told_chk, e]
end
end Go.Proofs.YtgnkjmgkfibipaaDoor

/- inner, whatever the results are: the reference's rows. -/
namespace Go.Proofs.YtgnkjmgkfibipaaDoor
set_option linter.unusedVariables false
set_option linter.unusedSimpArgs false
open Go Go.R
set_option maxRecDepth 1000000
noncomputable section

def c40 : Code := bodyOf Tryd.f40
def lp40 : Code := within (tl (hd (behind 2 c40)))
def rowsF (n : Nat) (f : Nat → Int) (g : Nat → Bool) : List Value := rows2 (fun i => .int .i64 (f i)) (fun i => .bool (g i)) n
def rootI (n m : Nat) (f : Nat → Int) (g : Nat → Bool) : List AObj := [resO n f g, refO m f g]
def T40 (n c m i : Nat) : List (Nat × Value) := [(0, resV n c), (3, .slice (some ⟨1, 0, some 2⟩) m m), (4, i64 i)]
def T40z (n c : Nat) : List (Nat × Value) := [(0, resV n c), (3, .slice none 0 0), (4, i64 0)]
theorem t40_clo {n c m i : Nat} : ∀ q ∈ T40 n c m i, Clo 2 q.2 := clo_all (by kernel_rfl)
theorem t40z_clo {n c : Nat} : ∀ q ∈ T40z n c, Clo 1 q.2 := clo_all (by kernel_rfl)
theorem rootI_clo {n m : Nat} {f : Nat → Int} {g : Nat → Bool} : ∀ x ∈ rootI n m f g, CloO 2 x := fun x hx => by
  simp only [rootI, List.mem_cons, List.mem_nil_iff, or_false] at hx
  rcases hx with rfl | rfl
  · exact resO_clo 2 n f g
  · exact cloO_plain (rows2_plain (fun _ => rfl) (fun _ => rfl) m) _ _

theorem inner_next {n c : Nat} {f : Nat → Int} {g : Nat → Bool} {k0 : Code} {Q : AExit → AF → Prop} (i q : Nat) (rows : List Value) (hrows : rows = rowsF (i + 1) f g) (hq : q ≠ 0) (par : List Nat) (h0 : 0 ∉ par) {af : AF} (hsz : af.sz = 19) (t0 : af.tm.get 0 = some (resV n c))
    (t3 : af.tm.get 3 = some (.slice (some ⟨q, 0, some 2⟩) (i + 1) (i + 1))) (t4 : af.tm.get 4 = some (i64 i)) (g0 : af.h.get 0 = resO n f g) (g1 : af.h.get q = .cells rows true par (some 98))
    (h : Runs Tryd.prog 1 k0 (sth (T40 n c (i + 1) i) 19 (rootI n (i + 1) f g)) Q) : Runs Tryd.prog 1 k0 af Q := by
  subst hrows
  let ρ : Nat → Nat := fun j => if j = 0 then 0 else q
  have r0 : ρ 0 = 0 := rfl
  have r1 : ρ 1 = q := rfl
  refine Runs.renum (l := T40 n c (i + 1) i) (os := rootI n (i + 1) f g) ρ hsz (show 1 ≤ 2 by decide) (fun j hj => ?_) (fun a b ha hb e => ?_) (fun p hp => ?_) (fun j o ho => ?_) (fun a b ha hb hne cs lv p ty hg => ?_) h
  · have : j = 0 := by omega
    subst this
    refine ⟨rfl, fun o ho => ?_⟩
    rw [g0]
    exact Option.some.inj ho
  · have ha' : a < 2 := ha
    have hb' : b < 2 := hb
    match a, b, ha', hb' with
    | 0, 0, _, _ => rfl
    | 1, 1, _, _ => rfl
    | 0, 1, _, _ => exact absurd (show q = 0 from e.symm) hq
    | 1, 0, _, _ => exact absurd (show q = 0 from e) hq
    | a + 2, _, h, _ => omega
    | _, b + 2, _, h => omega
  · simp only [T40, List.mem_cons, List.mem_nil_iff, or_false] at hp
    rcases hp with rfl | rfl | rfl
    · exact ⟨_, t0, Ren.slice (show 0 < 2 by decide) r0⟩
    · exact ⟨_, t3, Ren.sliceU (show 1 < 2 by decide) r1⟩
    · exact ⟨_, t4, Ren.plain rfl⟩
  · have same : ∀ (l : List Value), (∀ v ∈ l, plainV v = true) → ∀ (k : Nat) u v, l[k]? = some u → l[k]? = some v → Ren ρ 2 u v := fun l hl k u v hu hv => by
      rw [hu] at hv
      cases hv
      exact Ren.plain (hl u (List.mem_of_getElem? hu))
    match j, ho with
    | 0, ho =>
      have : resO n f g = o := Option.some.inj ho
      subst this
      rw [r0, g0]
      exact ⟨rfl, same _ (rows2_plain (fun _ => rfl) (fun _ => rfl) n), fun e => (by cases e), rfl, .inl rfl⟩
    | 1, ho =>
      have : refO (i + 1) f g = o := Option.some.inj ho
      subst this
      rw [r1, g1]
      exact ⟨rfl, same _ (rows2_plain (fun _ => rfl) (fun _ => rfl) (i + 1)), fun _ => rfl, rfl, .inr rfl⟩
    | j + 2, ho => simp [rootI] at ho
  · have ha' : a < 2 := ha
    have hb' : b < 2 := hb
    by_cases e1 : a = 0
    · subst e1
      rw [r0, g0] at hg
      cases hg
      exact List.not_mem_nil
    · have : a = 1 := by omega
      subst this
      have : b = 0 := by omega
      subst this
      rw [r1, g1] at hg
      cases hg
      exact h0

theorem append_row {i : Nat} (hi : i < 1000000) {f : Nat → Int} {g : Nat → Bool} {h : AH} {x y : Value} (hx : cellV x = true) (hy : cellV y = true) (h1 : h.get 1 = refO i f g) (h2 : rowAt? h 2 0 2 = some [x, y]) :
    appendA Tryd.prog #[46, 46] (.slice (some ⟨1, 0, some 2⟩) i i) (.slice (some ⟨2, 0, none⟩) 1 1) h =
      some (.slice (some ⟨h.next, 0, some 2⟩) (i + 1) (i + 1), ((h.put 1 (.cells (rowsF i f g) false [] (some 98))).new (.cells (rowsF i f g ++ [x, y]) true [1] (some 98))).2) := by
  have e1 : Tryd.prog.underlying 46 = some (.slice 98) := by kernel_rfl
  obtain ⟨info, e2, e3, e4⟩ : ∃ info, Tryd.prog.info? 98 = some info ∧ info.size = 2 ∧ (decide (info.bytes > 1000000) || !zfit info) = false := ⟨(Tryd.prog.info? 98).get!, by kernel_rfl, by kernel_rfl, by kernel_rfl⟩
  rw [Bool.or_eq_false_iff] at e4
  have e5 : srcA 2 (.slice (some ⟨2, 0, none⟩) 1 1) h = some ([x, y], 1) := by
    unfold srcA
    simp only [show ¬ (1 = 0) by decide, if_false]
    show (rowAt? h 2 0 2).map (·, 1) = _
    rw [h2]; rfl
  have e6 : (decide (i > 1000000)) = false := by simp; omega
  have e7 : appendU 98 2 1 0 i 1 [x, y] h = some (.slice (some ⟨h.next, 0, some 2⟩) (i + 1) (i + 1), ((h.put 1 (.cells (rowsF i f g) false [] (some 98))).new (.cells (rowsF i f g ++ [x, y]) true [1] (some 98))).2) := by
    unfold appendU
    rw [h1]
    show (if 0 + i * 2 = (rowsF i f g).length then _ else _) = _
    rw [if_pos (by unfold rowsF; rw [rows2_len]; omega)]
    rfl
  unfold appendA
  simp only [List.getElem?_toArray, List.getElem?_cons_zero, List.getElem?_cons_succ, e1, e2, srcKind, Bool.not_true, Bool.false_eq_true, if_false, e3, e5]
  have e8 : ([x, y].all cellV) = true := by simp [hx, hy]
  simp only [e8, e4.1, e4.2, e6, Bool.not_true, Bool.or_false, Bool.false_or, Bool.or_self, decide_false, show (2 = 0) = False by simp, show (1 : Nat) > 1000000 ↔ False by simp, show ((1 : Nat) = 0) = False by simp, if_false, decide_true, ne_eq, not_true_eq_false, Bool.false_eq_true, show (1 + 1 = 2) by rfl, e7]
end
end Go.Proofs.YtgnkjmgkfibipaaDoor

/- inner as a contract. -/
namespace Go.Proofs.YtgnkjmgkfibipaaDoor
set_option linter.unusedVariables false
set_option linter.unusedSimpArgs false
open Go Go.R
set_option maxRecDepth 1000000
noncomputable section

theorem rowsF_one (f : Nat → Int) (g : Nat → Bool) : rowsF 1 f g = [.int .i64 (f 0), .bool (g 0)] := rfl
theorem rowsF_succ (n : Nat) (f : Nat → Int) (g : Nat → Bool) : rowsF n f g ++ [.int .i64 (f n), .bool (g n)] = rowsF (n + 1) f g := (rows2_succ _ _ n).symm

/-- Behind a round: the next number. -/
theorem inner_step {n c : Nat} {f : Nat → Int} {g : Nat → Bool} {Q : AExit → AF → Prop} (i : Nat) (hi : i < 1000000)
    (h : Runs Tryd.prog 1 lp40 (sth (T40 n c (i + 1) (i + 1)) 19 (rootI n (i + 1) f g)) Q) :
    Runs Tryd.prog 1 (tl (tl (within lp40))) (sth (T40 n c (i + 1) i) 19 (rootI n (i + 1) f g)) (andThen (fun a => Runs Tryd.prog 1 lp40 a Q) Q) := by
  refine Runs.rg mixed hk38 [] (by kernel_rfl) (by kernel_rfl) (by kernel_rfl) oblN ?_
  show Runs Tryd.prog 1 lp40 _ _
  have ew : T40 n c (i + 1) (i + 1) = [(0, resV n c), (3, .slice (some ⟨1, 0, some 2⟩) (i + 1) (i + 1)), (4, .int .i64 (wrapF .i64 (Int.add (.ofNat i) (.ofNat 1))))] := by rw [wrap_succ (by omega : i < 4611686018427387904)]; rfl
  refine Runs.less (af1 := sth (T40 n c (i + 1) (i + 1)) 19 (rootI n (i + 1) f g)) ?_ h
  rw [ew]
  exact less_seenP (clo_all (by kernel_rfl)) rootI_clo (show 1 ≤ 2 by decide) (by kernel_rfl) (by kernel_rfl) (by kernel_rfl) (by kernel_rfl)

theorem inner_loop (n c : Nat) (hn : n < 1000000) (f : Nat → Int) (g : Nat → Bool) : ∀ d i, i + 1 + d = n →
    Runs Tryd.prog 1 lp40 (sth (T40 n c (i + 1) (i + 1)) 19 (rootI n (i + 1) f g)) fun x af => x = .exit 0 ∧ Less 1 (sth (T40 n c n n) 19 (rootI n n f g)) af := by
  intro d
  induction d with
  | zero =>
    intro i hi
    have him : i + 1 = n := by omega
    rw [him]
    refine Runs.lp (by kernel_rfl) (Runs.sq (by kernel_rfl) (Runs.sqR mixed hk38 [] (by kernel_rfl) (by kernel_rfl) (by kernel_rfl) oblN ?_))
    refine Runs.cd (b := ltF (.ofNat n) (.ofNat n)) (by kernel_rfl) (fun ht => by rw [lt_self] at ht; cases ht) (fun _ => Runs.now (x := .exit 0) (by kernel_rfl) ⟨rfl, ?_⟩)
    exact less_seenP t40_clo rootI_clo (show 1 ≤ 2 by decide) (by kernel_rfl) (by kernel_rfl) (by kernel_rfl) (by kernel_rfl)
  | succ d ih =>
    intro i hi
    have hlt : i + 1 < n := by omega
    refine Runs.lp (by kernel_rfl) (Runs.sq (by kernel_rfl) (Runs.sqR mixed hk38 [] (by kernel_rfl) (by kernel_rfl) (by kernel_rfl) oblN ?_))
    refine Runs.cd (b := ltF (.ofNat (i + 1)) (.ofNat n)) (by kernel_rfl) (fun _ => Runs.now (x := .normal) (by kernel_rfl) ?_) (fun hf => by rw [lt_of hlt] at hf; cases hf)
    show Runs Tryd.prog 1 _ _ _
    refine Runs.sq (by kernel_rfl) (Runs.bk (id := 1) (by kernel_rfl) ?_)
    let x : Value := .int .i64 (f (i + 1))
    let y : Value := .bool (g (i + 1))
    let Hp : AH := ((hp (rootI n (i + 1) f g)).new (.cells [x, y] true [] (some 98))).2
    let Hn : AH := ((Hp.put 1 (.cells (rowsF (i + 1) f g) false [] (some 98))).new (.cells (rowsF (i + 1) f g ++ [x, y]) true [1] (some 98))).2
    have hap : appendA Tryd.prog #[46, 46] (.slice (some ⟨1, 0, some 2⟩) (i + 1) (i + 1)) (.slice (some ⟨2, 0, none⟩) 1 1) Hp = some (.slice (some ⟨3, 0, some 2⟩) (i + 2) (i + 2), Hn) :=
      append_row (x := x) (y := y) (by omega) rfl rfl (by kernel_rfl) (by kernel_rfl)
    refine Runs.rg mixed hk38 [viaV 3 (.pointer (some ⟨0, 0 + (i + 1) * 2, none⟩)), viaV 4 (agV (f (i + 1)) (g (i + 1))), ⟨6, .slice (some ⟨3, 0, some 2⟩) (i + 2) (i + 2), some Hn, none⟩] (by kernel_rfl) (by kernel_rfl) (by kernel_rfl)
      (oblC (shown_idx (n := n) (by kernel_rfl) hlt) (oblC (shown_agg (sz := 2) (l := [x, y]) (by kernel_rfl) (res_at (by kernel_rfl) hlt))
      (oblC ⟨by kernel_rfl, (show _ = appendA Tryd.prog #[46, 46] (.slice (some ⟨1, 0, some 2⟩) (i + 1) (i + 1)) (.slice (some ⟨2, 0, none⟩) 1 1) Hp by kernel_rfl).trans hap⟩ oblN))) ?_
    show Runs Tryd.prog 1 (tl (tl (within lp40))) _ _
    refine inner_next (n := n) (c := c) (i + 1) 3 (rowsF (i + 1) f g ++ [x, y]) (rowsF_succ (i + 1) f g) (by decide) [1] (by decide) ?_ ?_ ?_ ?_ ?_ ?_ (inner_step (i + 1) (by omega) (ih (i + 1) (by omega)))
    · kernel_rfl
    · kernel_rfl
    · kernel_rfl
    · kernel_rfl
    · kernel_rfl
    · exact Eq.trans (Eq.refl _) (by kernel_rfl)

theorem inner_local (n c : Nat) (hn : n < 1000000) (hpos : 0 < n) (f : Nat → Int) (g : Nat → Bool) :
    Local Tryd.prog 1 40 [resV n c] (hp [resO n f g]) (IsNew 1 1 n (rowsF n f g) (some 98) (hp [resO n f g])) := by
  refine local_of noNum Tryd.func40 (show Tryd.f40.body = some c40 by kernel_rfl) ?_
  refine Runs.sqR mixed hk38 [] (by kernel_rfl) (by kernel_rfl) (by kernel_rfl) oblN ?_
  refine Runs.sqR mixed hk38 [] (by kernel_rfl) (by kernel_rfl) (by kernel_rfl) oblN ?_
  refine Runs.sq (by kernel_rfl) (Runs.sqR mixed hk38 [] (by kernel_rfl) (by kernel_rfl) (by kernel_rfl) oblN (Runs.bk (id := 0) (by kernel_rfl) ?_))
  have fin : ∀ af, Less 1 (sth (T40 n c n n) 19 (rootI n n f g)) af → Runs Tryd.prog 1 (tl (tl (tl c40))) af (EndsAs Tryd.prog Tryd.f40 (IsNew 1 1 n (rowsF n f g) (some 98) (hp [resO n f g]))) := by
    intro af less
    refine Runs.less less (Runs.sqR mixed hk38 [] (by kernel_rfl) (by kernel_rfl) (by kernel_rfl) oblN (Runs.now (x := .ret) (by kernel_rfl) ⟨.inr rfl, [.slice (some ⟨1, 0, some 2⟩) n n], by kernel_rfl, 1, [], Nat.le_refl 1, fun j _ => List.not_mem_nil, rfl, by kernel_rfl, fun j hj => ?_⟩))
    have : j = 0 := by omega
    subst this
    exact Eq.trans (Eq.refl _) (by kernel_rfl)
  -- the first round
  refine Runs.less (af1 := sth (T40z n c) 19 [resO n f g]) (less_seenP t40z_clo one_clo (Nat.le_refl 1) (by kernel_rfl) (by kernel_rfl) (by kernel_rfl) (by kernel_rfl)) ?_
  refine Runs.mono (Q := fun x af => x = .exit 0 ∧ Less 1 (sth (T40 n c n n) 19 (rootI n n f g)) af) ?_ (fun x af hx => ?_)
  · refine Runs.lp (by kernel_rfl) (Runs.sq (by kernel_rfl) (Runs.sqR mixed hk38 [] (by kernel_rfl) (by kernel_rfl) (by kernel_rfl) oblN ?_))
    refine Runs.cd (b := ltF (.ofNat 0) (.ofNat n)) (by kernel_rfl) (fun _ => Runs.now (x := .normal) (by kernel_rfl) ?_) (fun hf => by rw [lt_of hpos] at hf; cases hf)
    show Runs Tryd.prog 1 _ _ _
    refine Runs.sq (by kernel_rfl) (Runs.bk (id := 1) (by kernel_rfl) ?_)
    refine Runs.rg mixed hk38 [viaV 3 (.pointer (some ⟨0, 0 + 0 * 2, none⟩)), viaV 4 (agV (f 0) (g 0))] (by kernel_rfl) (by kernel_rfl) (by kernel_rfl)
      (oblC (shown_idx (n := n) (by kernel_rfl) hpos) (oblC (shown_agg (sz := 2) (l := [.int .i64 (f 0), .bool (g 0)]) (by kernel_rfl) (res_at (n := n) (i := 0) (by kernel_rfl) hpos)) oblN)) ?_
    show Runs Tryd.prog 1 (tl (tl (within lp40))) _ _
    exact inner_next (n := n) (c := c) 0 2 (rowsF 1 f g) rfl (by decide) [] List.not_mem_nil (by kernel_rfl) (by kernel_rfl) (by kernel_rfl) (by kernel_rfl) (by kernel_rfl) (by kernel_rfl) (inner_step 0 (by decide) (inner_loop n c hn f g (n - 1) 0 (by omega)))
  · obtain ⟨rfl, less⟩ := hx
    exact fin af less

theorem inner_says (n c : Nat) (hn : n < 1000000) (hpos : 0 < n) (f : Nat → Int) (g : Nat → Bool) : Says Tryd.prog (hp [resO n f g]) 40 [resV n c] (refV n) (hp (rootR n f g)) := by
  refine fresh_from (k := 1) (s := 1) (n := n) (hc := hp [resO n f g]) (h := hp [resO n f g]) (cells := rowsF n f g) (ty := some 98) (inner_local n c hn hpos f g) (hp_next _) (by rw [hp_next]; exact Nat.le_refl 1) (fun _ _ => rfl) (fun v hv => ?_) (fun i hi => ?_) (rows2_plain (fun _ => rfl) (fun _ => rfl) n)
  · rw [List.mem_singleton.1 hv]
    exact clo_of 10 1 _ (by kernel_rfl)
  · have : i = 0 := by omega
    subst this
    exact resO_clo 1 n f g

theorem inner_zero (c : Nat) (f : Nat → Int) (g : Nat → Bool) : Says Tryd.prog (hp [resO 0 f g]) 40 [resV 0 c] (.slice none 0 0) (hp [resO 0 f g]) := by
  refine says_of (os := [resO 0 f g]) (v := .slice none 0 0) ?_ (fun v hv => ?_) one_clo (clo_plain rfl)
  · refine local_of noNum Tryd.func40 (show Tryd.f40.body = some c40 by kernel_rfl) ?_
    refine Runs.sqR mixed hk38 [] (by kernel_rfl) (by kernel_rfl) (by kernel_rfl) oblN ?_
    refine Runs.sqR mixed hk38 [] (by kernel_rfl) (by kernel_rfl) (by kernel_rfl) oblN ?_
    refine Runs.sq (by kernel_rfl) (Runs.sqR mixed hk38 [] (by kernel_rfl) (by kernel_rfl) (by kernel_rfl) oblN (Runs.bk (id := 0) (by kernel_rfl) ?_))
    refine Runs.lp (by kernel_rfl) (Runs.sq (by kernel_rfl) (Runs.sqR mixed hk38 [] (by kernel_rfl) (by kernel_rfl) (by kernel_rfl) oblN ?_))
    refine Runs.cd (b := false) (by kernel_rfl) (fun ht => by cases ht) (fun _ => Runs.now (x := .exit 0) (by kernel_rfl) ?_)
    show Runs Tryd.prog 1 _ _ _
    exact Runs.sqR mixed hk38 [] (by kernel_rfl) (by kernel_rfl) (by kernel_rfl) oblN (Runs.now (x := .ret) (by kernel_rfl) ⟨.inr rfl, [.slice none 0 0], by kernel_rfl, rfl, keepOf (by kernel_rfl)⟩)
  · rw [List.mem_singleton.1 hv]
    exact clo_of 10 1 _ (by kernel_rfl)
end
end Go.Proofs.YtgnkjmgkfibipaaDoor

/- TrialResults: the law's run, whatever the results are. -/
namespace Go.Proofs.YtgnkjmgkfibipaaDoor
set_option linter.unusedVariables false
set_option linter.unusedSimpArgs false
open Go Go.R
set_option maxRecDepth 1000000
noncomputable section

def c8 : Code := bodyOf Tryd.f8
def tupV (a b e : Int) : Value := .tuple #[.int .i64 a, .int .i64 b, .int .i64 e]

theorem eq_self (x : Int) : eqF x x = true := by rw [eqF_eq]; exact beq_self_eq_true x

def T8 (L : Int) (n c : Nat) (a b e : Int) : List (Nat × Value) := [(0, .int .i64 L), (1, resV n c), (5, .int .i64 a), (6, .int .i64 b), (7, .int .i64 e), (8, .int .i64 a), (9, .int .i64 b), (10, .int .i64 e)]
def U8 (a b e x y z : Int) : List (Nat × Value) := [(5, .int .i64 a), (6, .int .i64 b), (7, .int .i64 e), (8, .int .i64 a), (9, .int .i64 b), (10, .int .i64 e), (11, .int .i64 x), (12, .int .i64 y), (13, .int .i64 z), (14, .int .i64 x), (15, .int .i64 y), (16, .int .i64 z)]

theorem law8_runs (L : Int) (n c : Nat) (f : Nat → Int) (g : Nat → Bool) (inV : Value) (os1 : List AObj) (h0 : (hp os1).get 0 = resO n f g) (h1 : 1 ≤ (hp os1).next) (a b e x y z : Int)
    (S38 : Says Tryd.prog (hp [resO n f g]) 38 [.int .i64 L, resV n c] (tupV a b e) (hp [resO n f g]))
    (S40 : Says Tryd.prog (hp [resO n f g]) 40 [resV n c] inV (hp os1))
    (S39 : Says Tryd.prog (hp os1) 39 [.int .i64 L, inV] (tupV a b e) (hp os1))
    (S41 : Says Tryd.prog (hp [resO n f g]) 41 [.int .i64 L, resV n c] (tupV x y z) (hp [resO n f g]))
    (S42 : Says Tryd.prog (hp os1) 42 [.int .i64 L, inV] (tupV x y z) (hp os1))
    : Runs Tryd.prog 1 c8 (entry Tryd.f8 [.int .i64 L, resV n c] (hp [resO n f g])) (EndsAs Tryd.prog Tryd.f8 fun v' _ => v' = .bool true) := by
  have hb : Nat.ble 1 (hp os1).next = true := Nat.ble_eq_true_of_le h1
  refine Runs.sqR mixed hk38 [] (by kernel_rfl) (by kernel_rfl) (by kernel_rfl) oblN ?_
  refine Runs.sq (by kernel_rfl) (Runs.sqR mixed hk38 [] (by kernel_rfl) (by kernel_rfl) (by kernel_rfl) oblN ?_)
  refine Runs.cd (b := ltF (.ofNat 40) (.ofNat n)) (by kernel_rfl) (fun hc => ?_) (fun hc => Runs.now (x := .normal) (by kernel_rfl) ?_)
  · exact Runs.sqR mixed hk38 [] (by kernel_rfl) (by kernel_rfl) (by kernel_rfl) oblN (Runs.now (x := .ret) (by kernel_rfl) ⟨.inr rfl, [.bool true], by kernel_rfl, rfl⟩)
  show Runs Tryd.prog 1 _ _ _
  refine Runs.sqR mixed hk38 [viaC 2 38 [.int .i64 L, resV n c] (tupV a b e)] (by kernel_rfl) (by kernel_rfl) (by kernel_rfl) (oblC (shown_callE (by kernel_rfl) (by kernel_rfl) S38) oblN) ?_
  refine Runs.sqR mixed hk38 [viaH 2 40 [resV n c] inV (hp os1), viaC 3 39 [.int .i64 L, inV] (tupV a b e)] (by kernel_rfl) (by kernel_rfl) (by kernel_rfl) (oblC (shown_callHE (by kernel_rfl) (by kernel_rfl) S40) (oblC (shown_callE (by kernel_rfl) (by kernel_rfl) S39) oblN)) ?_
  have seen : ∀ (l : List (Nat × Value)) (af : AF), (∀ p ∈ l, Clo 1 p.2) → af.h = hp os1 → (l.map (·.1)).map af.tm.get = l.map (fun p => some p.2) → af.sz = 82 → Less 1 (sth l 82 [resO n f g]) af := by
    intro l af hl hh ht hs
    exact less_seenP hl one_clo (Nat.le_refl 1) ht hs (by rw [hh]; exact hb) (by show [af.h.get 0] = _; rw [hh, h0])
  refine Runs.less (seen (T8 L n c a b e) _ (clo_all (by kernel_rfl)) (by kernel_rfl) (by kernel_rfl) (by kernel_rfl)) ?_
  refine Runs.sqR mixed hk38 [viaC 2 41 [.int .i64 L, resV n c] (tupV x y z)] (by kernel_rfl) (by kernel_rfl) (by kernel_rfl) (oblC (shown_callE (by kernel_rfl) (by kernel_rfl) S41) oblN) ?_
  refine Runs.sqR mixed hk38 [viaH 2 40 [resV n c] inV (hp os1), viaC 3 42 [.int .i64 L, inV] (tupV x y z)] (by kernel_rfl) (by kernel_rfl) (by kernel_rfl) (oblC (shown_callHE (by kernel_rfl) (by kernel_rfl) S40) (oblC (shown_callE (by kernel_rfl) (by kernel_rfl) S42) oblN)) ?_
  refine Runs.less (seen (U8 a b e x y z) _ (clo_all (by kernel_rfl)) (by kernel_rfl) (by kernel_rfl) (by kernel_rfl)) ?_
  refine Runs.sqR mixed hk38 [viaV 2 (.bool true), viaV 6 (.bool true), viaV 11 (.bool true), viaV 16 (.bool true), viaV 21 (.bool true), viaV 26 (.bool true)] (by kernel_rfl) (by kernel_rfl) (by kernel_rfl)
    (oblC (shown_eq (v := .bool (eqF a a)) (by kernel_rfl) (by kernel_rfl) (by rw [eq_self])) (oblC (shown_eq (v := .bool (eqF b b)) (by kernel_rfl) (by kernel_rfl) (by rw [eq_self]))
    (oblC (shown_eq (v := .bool (eqF e e)) (by kernel_rfl) (by kernel_rfl) (by rw [eq_self])) (oblC (shown_eq (v := .bool (eqF x x)) (by kernel_rfl) (by kernel_rfl) (by rw [eq_self]))
    (oblC (shown_eq (v := .bool (eqF y y)) (by kernel_rfl) (by kernel_rfl) (by rw [eq_self])) (oblC (shown_eq (v := .bool (eqF z z)) (by kernel_rfl) (by kernel_rfl) (by rw [eq_self])) oblN)))))) ?_
  exact Runs.now (x := .ret) (by kernel_rfl) ⟨.inr rfl, [.bool true], by kernel_rfl, rfl⟩

/-! ### No results -/
def nilT (L : Int) : Value := if inR L 0 12 then tupV 0 L 0 else tupV 0 0 1
def nilW (L : Int) : Value := if inR L 0 12 then tupV 0 0 13 else tupV 0 0 1
def nilRow (L : Int) : Bool := says (callA Tryd.prog works 1000 39 [.int .i64 L, .slice none 0 0] AH.empty) (nilT L) && says (callA Tryd.prog works 1000 42 [.int .i64 L, .slice none 0 0] AH.empty) (nilW L)
theorem nil_neg (k : Nat) : nilRow (.negSucc k) = true := by kernel_rfl
theorem nil_big (k : Nat) : nilRow (.ofNat (k + 13)) = true := by kernel_rfl
theorem nil_small : ((List.range 13).all fun m => nilRow (.ofNat m)) = true := by kernel_rfl
theorem nil_row (x : Int) : nilRow x = true := by
  cases x with
  | negSucc k => exact nil_neg k
  | ofNat m =>
    by_cases h : m < 13
    · exact List.all_eq_true.1 nil_small m (List.mem_range.2 h)
    · obtain ⟨k, rfl⟩ : ∃ k, m = k + 13 := ⟨m - 13, by omega⟩
      exact nil_big k

theorem nil39 (h : AH) (L : Int) : Says Tryd.prog h 39 [.int .i64 L, .slice none 0 0] (nilT L) h := by
  have hr := nil_row L
  simp only [nilRow, Bool.and_eq_true] at hr
  intro F w0 μ w args' H hl
  exact (local_says hk38 hr.1).closed (fun v hv => by simp only [List.mem_cons, List.mem_nil_iff, or_false] at hv; rcases hv with rfl | rfl <;> rfl) (by unfold nilT; split <;> rfl) h H hl
theorem nil42 (h : AH) (L : Int) : Says Tryd.prog h 42 [.int .i64 L, .slice none 0 0] (nilW L) h := by
  have hr := nil_row L
  simp only [nilRow, Bool.and_eq_true] at hr
  intro F w0 μ w args' H hl
  exact (local_says hk38 hr.2).closed (fun v hv => by simp only [List.mem_cons, List.mem_nil_iff, or_false] at hv; rcases hv with rfl | rfl <;> rfl) (by unfold nilW; split <;> rfl) h H hl

theorem known_says (L : Int) (n c : Nat) (f : Nat → Int) (g : Nat → Bool) (hn : n < 4611686018427387904) (hv : plainV (knownV L n f g) = true ∨ ∃ a b e, knownV L n f g = tupV a b e) : Says Tryd.prog (hp [resO n f g]) 38 [.int .i64 L, resV n c] (knownV L n f g) (hp [resO n f g]) :=
  says_of (os := [resO n f g]) (known_local L n c f g hn) (fun x hx => by
    simp only [List.mem_cons, List.mem_nil_iff, or_false] at hx
    rcases hx with rfl | rfl
    · exact clo_plain rfl
    · exact clo_of 10 1 _ (by kernel_rfl)) one_clo (by
      rcases hv with hv | ⟨a, b, e, hv⟩
      · exact clo_plain hv
      · rw [hv]; exact clo_of 10 1 _ (by kernel_rfl))

theorem known_tup (L : Int) (n : Nat) (f : Nat → Int) (g : Nat → Bool) : ∃ a b e, knownV L n f g = tupV a b e := by
  unfold knownV
  split
  · split
    · exact ⟨0, 0, 12, rfl⟩
    · exact ⟨_, _, 0, rfl⟩
  · exact ⟨0, 0, _, rfl⟩

theorem whyS_tup (C : Nat → Nat → Bool) (n : Nat) : ∀ d i, ∃ a b e, whyS C n d i = tupV a b e
  | 0, i => ⟨0, 0, 13, rfl⟩
  | d + 1, i => by
    unfold whyS
    split
    · exact ⟨_, _, 0, rfl⟩
    · exact whyS_tup C n d (i + 1)

theorem why_tup (L : Int) (n : Nat) (f : Nat → Int) (g : Nat → Bool) : ∃ a b e, whyV L n f g = tupV a b e := by
  unfold whyV
  split
  · exact whyS_tup _ n n 0
  · exact ⟨0, 0, _, rfl⟩

theorem why_says (L : Int) (n c : Nat) (hc : n ≤ c) (f : Nat → Int) (g : Nat → Bool) (hn : n < 4611686018427387904) : Says Tryd.prog (hp [resO n f g]) 41 [.int .i64 L, resV n c] (whyV L n f g) (hp [resO n f g]) :=
  says_of (os := [resO n f g]) (why_local L n c hc f g hn) (fun x hx => by
    simp only [List.mem_cons, List.mem_nil_iff, or_false] at hx
    rcases hx with rfl | rfl
    · exact clo_plain rfl
    · exact clo_of 10 1 _ (by kernel_rfl)) one_clo (by
      obtain ⟨a, b, e, hv⟩ := why_tup L n f g
      rw [hv]; exact clo_of 10 1 _ (by kernel_rfl))

theorem ref_args {L : Int} {n : Nat} : ∀ x ∈ [Value.int .i64 L, refV n], Clo 2 x := fun x hx => by
  simp only [List.mem_cons, List.mem_nil_iff, or_false] at hx
  rcases hx with rfl | rfl
  · exact clo_plain rfl
  · exact clo_of 10 2 _ (by kernel_rfl)

theorem results_runs (L : Int) (n c : Nat) (hc : n ≤ c) (f : Nat → Int) (g : Nat → Bool) :
    Runs Tryd.prog 1 c8 (entry Tryd.f8 [.int .i64 L, resV n c] (hp [resO n f g])) (EndsAs Tryd.prog Tryd.f8 fun v' _ => v' = .bool true) := by
  by_cases hbig : 40 < n
  · refine Runs.sqR mixed hk38 [] (by kernel_rfl) (by kernel_rfl) (by kernel_rfl) oblN ?_
    refine Runs.sq (by kernel_rfl) (Runs.sqR mixed hk38 [] (by kernel_rfl) (by kernel_rfl) (by kernel_rfl) oblN ?_)
    have ht : ltF (.ofNat 40) (.ofNat n) = true := lt_of hbig
    refine Runs.cd (b := ltF (.ofNat 40) (.ofNat n)) (by kernel_rfl) (fun _ => ?_) (fun hf => by rw [ht] at hf; cases hf)
    exact Runs.sqR mixed hk38 [] (by kernel_rfl) (by kernel_rfl) (by kernel_rfl) oblN (Runs.now (x := .ret) (by kernel_rfl) ⟨.inr rfl, [.bool true], by kernel_rfl, rfl⟩)
  have hn : n < 4611686018427387904 := by omega
  obtain ⟨a, b, e, hk⟩ := known_tup L n f g
  obtain ⟨x, y, z, hw⟩ := why_tup L n f g
  have S38 := known_says L n c f g hn (.inr ⟨a, b, e, hk⟩)
  rw [hk] at S38
  have S41 := why_says L n c hc f g hn
  rw [hw] at S41
  by_cases hz : n = 0
  · subst hz
    have e39 : nilT L = tupV a b e := by
      rw [← hk, ← known_same]
      unfold nilT refV39 toldV
      cases hi : inR L 0 12 with
      | true =>
        have h12 := hi
        simp only [inR, leF_eq, Bool.and_eq_true, decide_eq_true_eq] at h12
        have g1 : (0 : Int) ≤ L := h12.1
        have hS := refS_eq (n := 0) (f := f) (g := g) (lo := 0) (hi := L) (Int.le_refl 0) (L.toNat + 1) (fun h hh => ⟨fun _ => ⟨by omega, by omega⟩, fun _ => rfl⟩)
        have c1 : ¬ (((L.toNat + 1 : Nat) : Int) ≤ 0 ∨ L < 0) := by omega
        have c2 : (if L < ((L.toNat + 1 : Nat) : Int) - 1 then L else ((L.toNat + 1 : Nat) : Int) - 1) = L := by split <;> omega
        rw [if_neg c1, c2] at hS
        simp only [if_true]
        show _ = (if ltF (refS 0 f g (L.toNat + 1)).1 0 = true then _ else Value.tuple #[.int .i64 (refS 0 f g (L.toNat + 1)).1, .int .i64 (refS 0 f g (L.toNat + 1)).2, i64 0])
        rw [hS]
        rfl
      | false => rfl
    have e42 : nilW L = tupV x y z := by
      rw [← hw]
      unfold nilW whyV chkV
      rw [out_in]
      cases inR L 0 12 <;> rfl
    have S39 := nil39 (hp [resO 0 f g]) L
    rw [e39] at S39
    have S42 := nil42 (hp [resO 0 f g]) L
    rw [e42] at S42
    exact law8_runs L 0 c f g (.slice none 0 0) [resO 0 f g] (hp_get _ 0 _ rfl) (by rw [hp_next]; exact Nat.le_refl 1) a b e x y z S38 (inner_zero c f g) S39 S41 S42
  · have S39 : Says Tryd.prog (hp (rootR n f g)) 39 [.int .i64 L, refV n] (tupV a b e) (hp (rootR n f g)) := by
      have := says_of (os := rootR n f g) (ref39_local L n f g hn) ref_args rootR_clo (by rw [known_same, hk]; exact clo_of 10 2 _ (by kernel_rfl))
      rw [known_same, hk] at this
      exact this
    have S42 : Says Tryd.prog (hp (rootR n f g)) 42 [.int .i64 L, refV n] (tupV x y z) (hp (rootR n f g)) := by
      have := says_of (os := rootR n f g) (ref42_local L n f g hn) ref_args rootR_clo (by rw [why_same, hw]; exact clo_of 10 2 _ (by kernel_rfl))
      rw [why_same, hw] at this
      exact this
    exact law8_runs L n c f g (refV n) (rootR n f g) (hp_get _ 0 _ rfl) (by rw [hp_next]; exact (by decide : 1 ≤ 2)) a b e x y z S38 (inner_says n c (by omega) (by omega) f g) S39 S41 S42
end
end Go.Proofs.YtgnkjmgkfibipaaDoor
