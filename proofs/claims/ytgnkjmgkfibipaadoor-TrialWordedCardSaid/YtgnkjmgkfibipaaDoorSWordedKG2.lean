/- The reference's agrees, whatever the results are. -/
import Derived.Test.YtgnkjmgkfibipaaDoorSWordedKG1
import Derived.Test.YtgnkjmgkfibipaaDoorSWordedRG6
namespace Go.Proofs.YtgnkjmgkfibipaaDoor
set_option linter.unusedVariables false
set_option linter.unusedSimpArgs false
open Go Go.R
set_option maxRecDepth 1000000
noncomputable section

/-- The reference's list: a row of the run's own. -/
def refO (n : Nat) (f : Nat → Int) (g : Nat → Bool) : AObj := .cells (rows2 (fun i => .int .i64 (f i)) (fun i => .bool (g i)) n) true [] (some 98)
def refV (n : Nat) : Value := .slice (some ⟨1, 0, some 2⟩) n n
def rootR (n : Nat) (f : Nat → Int) (g : Nat → Bool) : List AObj := [resO n f g, refO n f g]

theorem rootR_clo {n : Nat} {f : Nat → Int} {g : Nat → Bool} : ∀ x ∈ rootR n f g, CloO 2 x := fun x hx => by
  simp only [rootR, List.mem_cons, List.mem_nil_iff, or_false] at hx
  rcases hx with rfl | rfl
  · exact resO_clo 2 n f g
  · exact cloO_plain (rows2_plain (fun _ => rfl) (fun _ => rfl) n) _ _

end
end Go.Proofs.YtgnkjmgkfibipaaDoor

/- agrees as a contract; in at all numbers. -/
namespace Go.Proofs.YtgnkjmgkfibipaaDoor
set_option linter.unusedVariables false
set_option linter.unusedSimpArgs false
open Go Go.R
set_option maxRecDepth 1000000
noncomputable section

def inR (x : Int) (lo hi : Nat) : Bool := leF (.ofNat lo) x && leF x (.ofNat hi)
def inRow (x : Int) : Bool := (List.range 2).all fun lo => (List.range 14).all fun hi => says (callA Tryd.prog works 1000 81 [.int .i64 x, i64 lo, i64 hi] AH.empty) (.bool (inR x lo hi))
theorem inR_neg (k : Nat) : inRow (.negSucc k) = true := by kernel_rfl
theorem inR_big (k : Nat) : inRow (.ofNat (k + 14)) = true := by kernel_rfl
theorem inR_small : ((List.range 14).all fun m => inRow (.ofNat m)) = true := by kernel_rfl
theorem inR_row (x : Int) : inRow x = true := by
  cases x with
  | negSucc k => exact inR_neg k
  | ofNat m =>
    by_cases h : m < 14
    · exact List.all_eq_true.1 inR_small m (List.mem_range.2 h)
    · obtain ⟨k, rfl⟩ : ∃ k, m = k + 14 := ⟨m - 14, by omega⟩
      exact inR_big k

theorem in_says (h : AH) (x : Int) {lo hi : Nat} (h1 : lo < 2) (h2 : hi < 14) : Says1 h 81 [.int .i64 x, i64 lo, i64 hi] (.bool (inR x lo hi)) := by
  have hr := inR_row x
  simp only [inRow, List.all_eq_true, List.mem_range] at hr
  intro F w0 μ w args' H hl
  exact (local_says (call_ok mixed noNum works_ok 1000) (hr lo h1 hi h2)).closed (fun v hv => by simp only [List.mem_cons, List.mem_nil_iff, or_false] at hv; rcases hv with rfl | rfl | rfl <;> rfl) rfl h H hl

end
end Go.Proofs.YtgnkjmgkfibipaaDoor

/- The plain law of results: what is known is what all hardnesses say; the first two that contradict each other. -/
namespace Go.Proofs.YtgnkjmgkfibipaaDoor
set_option linter.unusedVariables false
set_option linter.unusedSimpArgs false
open Go Go.R
noncomputable section

/-! ### The error of results -/
def toldB (f : Nat → Int) (lv : Nat) (j : Nat) : Bool := !inR (f j) 1 lv
def toldV (L : Int) (n : Nat) (f : Nat → Int) : Nat :=
  if inR L 0 12 then (if ltF (.ofNat 20) (.ofNat n) then 3 else if decide (firstP (toldB f L.toNat) n n 0 < n) then 2 else 0) else 1

/-! ### What is known -/
/-! ### Two that contradict each other -/
end
end Go.Proofs.YtgnkjmgkfibipaaDoor

/- The reference's told, whatever the results are. -/
namespace Go.Proofs.YtgnkjmgkfibipaaDoor
set_option linter.unusedVariables false
set_option linter.unusedSimpArgs false
open Go Go.R
set_option maxRecDepth 1000000
noncomputable section

theorem hk38 : CallOk Tryd.prog k38 := call_ok mixed noNum works_ok 1000

theorem keepOf {os : List AObj} {h : AH} (e : h = hp os) : ∀ (j : Nat) x, os[j]? = some x → h.get j = x := fun j x hx => by rw [e]; exact hp_get os j x hx

theorem ref_fst {h : AH} {n i : Nat} {f : Nat → Int} {g : Nat → Bool} (hg : h.get 1 = refO n f g) (hlt : i < n) : rowAt? h 1 (0 + i * 2 + 0) 1 = some [.int .i64 (f i)] := by
  rw [Nat.zero_add, Nat.add_zero, row_at hg (by rw [rows2_len]; omega), rows2_fst _ _ hlt]
theorem lt_self (i : Nat) : ltF (.ofNat i) (.ofNat i) = false := by
  show Nat.blt i i = false
  cases h : Nat.blt i i with
  | false => rfl
  | true => exact absurd (blt_lt h) (Nat.lt_irrefl i)
theorem lt_of {i n : Nat} (h : i < n) : ltF (.ofNat i) (.ofNat n) = true := by
  show Nat.blt i n = true
  rw [Nat.blt_eq]; exact h

def c90 : Code := bodyOf Tryd.f90
def lp90 : Code := within (tl (hd (behind 3 c90)))
def S90 (lv n i : Nat) : List (Nat × Value) := [(0, i64 lv), (1, refV n), (5, i64 i)]

theorem s90_clo {lv n i : Nat} : ∀ q ∈ S90 lv n i, Clo 2 q.2 := clo_all (by kernel_rfl)

theorem told_loop (lv n : Nat) (hlv : lv < 13) (f : Nat → Int) (g : Nat → Bool) (hn : n < 4611686018427387904) : ∀ d i, i + d = n →
    Runs Tryd.prog 2 lp90 (sth (S90 lv n i) 26 (rootR n f g)) fun x af => (x = .exit 0 ∧ firstP (toldB f lv) n d i = n ∧ Less 2 (sth (S90 lv n n) 26 (rootR n f g)) af) ∨
      (x = .ret ∧ firstP (toldB f lv) n d i < n ∧ af.tm.get 4 = some (i64 2) ∧ ∀ (j : Nat) x, (rootR n f g)[j]? = some x → af.h.get j = x) := by
  intro d
  induction d with
  | zero =>
    intro i hi
    have him : i = n := by omega
    subst him
    refine Runs.lp (by kernel_rfl) (Runs.sq (by kernel_rfl) (Runs.sqR mixed hk38 [] (by kernel_rfl) (by kernel_rfl) (by kernel_rfl) oblN ?_))
    refine Runs.cd (b := ltF (.ofNat i) (.ofNat i)) (by kernel_rfl) (fun ht => by rw [lt_self] at ht; cases ht) (fun _ => Runs.now (x := .exit 0) (by kernel_rfl) (.inl ⟨rfl, rfl, ?_⟩))
    exact less_seenP s90_clo rootR_clo (Nat.le_refl 2) (by kernel_rfl) (by kernel_rfl) (by kernel_rfl) (by kernel_rfl)
  | succ d ih =>
    intro i hi
    have hlt : i < n := by omega
    refine Runs.lp (by kernel_rfl) (Runs.sq (by kernel_rfl) (Runs.sqR mixed hk38 [] (by kernel_rfl) (by kernel_rfl) (by kernel_rfl) oblN ?_))
    refine Runs.cd (b := ltF (.ofNat i) (.ofNat n)) (by kernel_rfl) (fun _ => Runs.now (x := .normal) (by kernel_rfl) ?_) (fun hf => by rw [lt_of hlt] at hf; cases hf)
    show Runs Tryd.prog 2 _ _ _
    refine Runs.sq (by kernel_rfl) (Runs.bk (id := 1) (by kernel_rfl) ?_)
    refine Runs.sqR mixed hk38 [viaV 2 (.pointer (some ⟨1, 0 + i * 2, none⟩)), viaV 4 (.int .i64 (f i)), viaC 6 81 [.int .i64 (f i), i64 1, i64 lv] (.bool (inR (f i) 1 lv))] (by kernel_rfl) (by kernel_rfl) (by kernel_rfl)
      (oblC (shown_idx (n := n) (by kernel_rfl) hlt) (oblC (shown_cell (by kernel_rfl) (ref_fst (n := n) (g := g) (by kernel_rfl) hlt)) (oblC (shown_call (by kernel_rfl) (in_says _ _ (by decide) (by omega))) oblN))) ?_
    refine Runs.cd (b := toldB f lv i) (by kernel_rfl) (fun hb => ?_) (fun hb => Runs.now (x := .normal) (by kernel_rfl) ?_)
    · have e : firstP (toldB f lv) n (d + 1) i = i := by simp [firstP, hb]
      rw [e]
      exact Runs.sqR mixed hk38 [] (by kernel_rfl) (by kernel_rfl) (by kernel_rfl) oblN (Runs.now (x := .ret) (by kernel_rfl) (.inr ⟨rfl, hlt, by kernel_rfl, keepOf (by kernel_rfl)⟩))
    · have e : firstP (toldB f lv) n (d + 1) i = firstP (toldB f lv) n d (i + 1) := by simp [firstP, hb]
      rw [e]
      show Runs Tryd.prog 2 _ _ _
      refine Runs.rg mixed hk38 [] (by kernel_rfl) (by kernel_rfl) (by kernel_rfl) oblN ?_
      show Runs Tryd.prog 2 lp90 _ _
      have ew : S90 lv n (i + 1) = [(0, i64 lv), (1, refV n), (5, .int .i64 (wrapF .i64 (Int.add (.ofNat i) (.ofNat 1))))] := by rw [wrap_succ (by omega : i < 4611686018427387904)]; rfl
      refine Runs.less (af1 := sth (S90 lv n (i + 1)) 26 (rootR n f g)) ?_ (ih (i + 1) (by omega))
      rw [ew]
      exact less_seenP (clo_all (by kernel_rfl)) rootR_clo (Nat.le_refl 2) (by kernel_rfl) (by kernel_rfl) (by kernel_rfl) (by kernel_rfl)

theorem told_local (L : Int) (n : Nat) (f : Nat → Int) (g : Nat → Bool) (hn : n < 4611686018427387904) :
    Local Tryd.prog 2 90 [.int .i64 L, refV n] (hp (rootR n f g)) (Holds (rootR n f g) (i64 (toldV L n f))) := by
  refine local_of noNum Tryd.func90 (show Tryd.f90.body = some c90 by kernel_rfl) ?_
  refine Runs.sqR mixed hk38 [] (by kernel_rfl) (by kernel_rfl) (by kernel_rfl) oblN ?_
  refine Runs.sq (by kernel_rfl) (Runs.sqR mixed hk38 [viaC 1 81 [.int .i64 L, i64 0, i64 12] (.bool (inR L 0 12))] (by kernel_rfl) (by kernel_rfl) (by kernel_rfl) (oblC (shown_call (by kernel_rfl) (in_says _ _ (by decide) (by decide))) oblN) ?_)
  refine Runs.cd (b := !(inR L 0 12)) (by kernel_rfl) (fun hb => ?_) (fun hb => Runs.now (x := .normal) (by kernel_rfl) ?_)
  · refine Runs.sqR mixed hk38 [] (by kernel_rfl) (by kernel_rfl) (by kernel_rfl) oblN (Runs.now (x := .ret) (by kernel_rfl) ⟨.inr rfl, [i64 1], by kernel_rfl, ?_, keepOf (by kernel_rfl)⟩)
    show i64 1 = i64 (toldV L n f)
    unfold toldV; rw [if_neg (by intro h; rw [h] at hb; cases hb)]
  · have hb' : inR L 0 12 = true := by cases h : inR L 0 12 with
      | true => rfl
      | false => rw [h] at hb; cases hb
    show Runs Tryd.prog 2 _ _ _
    refine Runs.sq (by kernel_rfl) (Runs.sqR mixed hk38 [] (by kernel_rfl) (by kernel_rfl) (by kernel_rfl) oblN ?_)
    refine Runs.cd (b := ltF (.ofNat 20) (.ofNat n)) (by kernel_rfl) (fun hc => ?_) (fun hc => Runs.now (x := .normal) (by kernel_rfl) ?_)
    · refine Runs.sqR mixed hk38 [] (by kernel_rfl) (by kernel_rfl) (by kernel_rfl) oblN (Runs.now (x := .ret) (by kernel_rfl) ⟨.inr rfl, [i64 3], by kernel_rfl, ?_, keepOf (by kernel_rfl)⟩)
      show i64 3 = i64 (toldV L n f)
      unfold toldV; rw [if_pos hb', if_pos hc]
    · obtain ⟨lv, rfl, hlv⟩ : ∃ lv, L = .ofNat lv ∧ lv < 13 := by
        simp only [inR, leF_eq, Bool.and_eq_true, decide_eq_true_eq] at hb'
        have h1 : (0 : Int) ≤ L := hb'.1
        have h2 : L ≤ 12 := hb'.2
        exact ⟨L.toNat, (Int.toNat_of_nonneg h1).symm, by omega⟩
      show Runs Tryd.prog 2 _ _ _
      refine Runs.sq (by kernel_rfl) (Runs.sqR mixed hk38 [] (by kernel_rfl) (by kernel_rfl) (by kernel_rfl) oblN (Runs.bk (id := 0) (by kernel_rfl) ?_))
      refine Runs.less (af1 := sth (S90 lv n 0) 26 (rootR n f g)) (less_seenP s90_clo rootR_clo (Nat.le_refl 2) (by kernel_rfl) (by kernel_rfl) (by kernel_rfl) (by kernel_rfl)) ?_
      refine (told_loop lv n hlv f g hn n 0 (by omega)).mono fun x af hx => ?_
      have ht : (Int.ofNat lv).toNat = lv := rfl
      rcases hx with ⟨rfl, e, less⟩ | ⟨rfl, e, h4, hh⟩
      · show Runs Tryd.prog 2 _ af _
        refine Runs.less less (Runs.sqR mixed hk38 [] (by kernel_rfl) (by kernel_rfl) (by kernel_rfl) oblN (Runs.now (x := .ret) (by kernel_rfl) ⟨.inr rfl, [i64 0], by kernel_rfl, ?_, keepOf (by kernel_rfl)⟩))
        show i64 0 = i64 (toldV (.ofNat lv) n f)
        unfold toldV; rw [if_pos hb', if_neg (by rw [hc]; exact Bool.false_ne_true), if_neg (by simp only [decide_eq_true_eq]; rw [ht]; omega)]
      · refine ⟨.inr rfl, [i64 2], ?_, ?_, hh⟩
        · rw [show Tryd.f90.results.toList = [.tmp 4] by kernel_rfl]
          simp only [resultsA, h4]
        · show i64 2 = i64 (toldV (.ofNat lv) n f)
          unfold toldV; rw [if_pos hb', if_neg (by rw [hc]; exact Bool.false_ne_true), if_pos (by simp only [decide_eq_true_eq]; rw [ht]; omega)]
end
end Go.Proofs.YtgnkjmgkfibipaaDoor

/- The reference's Known, whatever the results are. -/
namespace Go.Proofs.YtgnkjmgkfibipaaDoor
set_option linter.unusedVariables false
set_option linter.unusedSimpArgs false
open Go Go.R
set_option maxRecDepth 1000000
noncomputable section

theorem told_says (L : Int) (n : Nat) (f : Nat → Int) (g : Nat → Bool) (hn : n < 4611686018427387904) : Says Tryd.prog (hp (rootR n f g)) 90 [.int .i64 L, refV n] (i64 (toldV L n f)) (hp (rootR n f g)) :=
  says_of (os := rootR n f g) (told_local L n f g hn) (fun x hx => by
    simp only [List.mem_cons, List.mem_nil_iff, or_false] at hx
    rcases hx with rfl | rfl
    · exact clo_plain rfl
    · exact clo_of 10 2 _ (by kernel_rfl)) rootR_clo (clo_plain rfl)

end
end Go.Proofs.YtgnkjmgkfibipaaDoor

/- Two results that contradict each other, in both texts. -/
namespace Go.Proofs.YtgnkjmgkfibipaaDoor
set_option linter.unusedVariables false
set_option linter.unusedSimpArgs false
open Go Go.R
set_option maxRecDepth 1000000
noncomputable section

/-! ### The rest of the results -/
end
end Go.Proofs.YtgnkjmgkfibipaaDoor

/- Why, whatever the results are. -/
namespace Go.Proofs.YtgnkjmgkfibipaaDoor
set_option linter.unusedVariables false
set_option linter.unusedSimpArgs false
open Go Go.R
set_option maxRecDepth 1000000
noncomputable section

theorem wrap_ofNat {k : Nat} (h : k < 9223372036854775808) : wrapF .i64 (.ofNat k) = .ofNat k := by
  show cond (Nat.blt k 9223372036854775808) (Int.ofNat k) _ = _
  have : Nat.blt k 9223372036854775808 = true := by rw [Nat.blt_eq]; exact h
  rw [this]; rfl

end
end Go.Proofs.YtgnkjmgkfibipaaDoor

/- The reference's Why, whatever the results are. -/
namespace Go.Proofs.YtgnkjmgkfibipaaDoor
set_option linter.unusedVariables false
set_option linter.unusedSimpArgs false
open Go Go.R
set_option maxRecDepth 1000000
noncomputable section

end
end Go.Proofs.YtgnkjmgkfibipaaDoor

/- inner, whatever the results are: the reference's rows. -/
namespace Go.Proofs.YtgnkjmgkfibipaaDoor
set_option linter.unusedVariables false
set_option linter.unusedSimpArgs false
open Go Go.R
set_option maxRecDepth 1000000
noncomputable section

end
end Go.Proofs.YtgnkjmgkfibipaaDoor

/- inner as a contract. -/
namespace Go.Proofs.YtgnkjmgkfibipaaDoor
set_option linter.unusedVariables false
set_option linter.unusedSimpArgs false
open Go Go.R
set_option maxRecDepth 1000000
noncomputable section

end
end Go.Proofs.YtgnkjmgkfibipaaDoor

/- TrialResults: the law's run, whatever the results are. -/
namespace Go.Proofs.YtgnkjmgkfibipaaDoor
set_option linter.unusedVariables false
set_option linter.unusedSimpArgs false
open Go Go.R
set_option maxRecDepth 1000000
noncomputable section

def c8 : Code := bodyOf Tryd.f8
theorem eq_self (x : Int) : eqF x x = true := by rw [eqF_eq]; exact beq_self_eq_true x

/-! ### No results -/
end
end Go.Proofs.YtgnkjmgkfibipaaDoor
