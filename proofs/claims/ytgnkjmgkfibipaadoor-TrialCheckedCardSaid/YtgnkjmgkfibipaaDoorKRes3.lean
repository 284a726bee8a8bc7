/- Why, whatever the results are. -/
import Derived.Test.YtgnkjmgkfibipaaDoorKRes2
import Derived.Test.YtgnkjmgkfibipaaDoorRVias

namespace Go.Proofs.YtgnkjmgkfibipaaDoor
set_option linter.unusedVariables false
set_option linter.unusedSimpArgs false
open Go Go.R
set_option maxRecDepth 1000000
noncomputable section

/-- The first pair of which C says yes, from i on. -/
def whyS (C : Nat → Nat → Bool) (n : Nat) : Nat → Nat → Value
  | 0, i => .tuple #[i64 0, i64 0, i64 13]
  | d + 1, i => if firstP (C i) n (n - (i + 1)) (i + 1) < n then .tuple #[i64 i, i64 (firstP (C i) n (n - (i + 1)) (i + 1)), i64 0] else whyS C n d (i + 1)

def whyC (f : Nat → Int) (g : Nat → Bool) (i j : Nat) : Bool := whyB (f i) (g i) (f j) (g j)

def c41 : Code := bodyOf Tryd.f41
def lp41 : Code := within (tl (hd (behind 2 c41)))
def S41 (n c i : Nat) : List (Nat × Value) := [(1, resV n c), (17, resV n c), (18, i64 n), (19, i64 i)]
theorem s41_clo {n c i : Nat} : ∀ q ∈ S41 n c i, Clo 1 q.2 := clo_all (by kernel_rfl)
theorem one_clo {n : Nat} {f : Nat → Int} {g : Nat → Bool} : ∀ o ∈ [resO n f g], CloO 1 o := fun o ho => by rw [List.mem_singleton.1 ho]; exact resO_clo 1 n f g

theorem keep1 {n : Nat} {f : Nat → Int} {g : Nat → Bool} {x : Int} {a : Bool} {h : AH} (e : h = hp (rootA n f g x a)) : ∀ (j : Nat) z, [resO n f g][j]? = some z → h.get j = z := by
  intro j z hz
  match j, hz with
  | 0, hz => rw [e]; exact hp_get (rootA n f g x a) 0 z hz
  | j + 1, hz => simp at hz

theorem wrap_ofNat {k : Nat} (h : k < 9223372036854775808) : wrapF .i64 (.ofNat k) = .ofNat k := by
  show cond (Nat.blt k 9223372036854775808) (Int.ofNat k) _ = _
  have : Nat.blt k 9223372036854775808 = true := by rw [Nat.blt_eq]; exact h
  rw [this]; rfl

theorem why_loop (n c : Nat) (hc : n ≤ c) (f : Nat → Int) (g : Nat → Bool) (hn : n < 4611686018427387904) : ∀ d i, i + d = n →
    Runs Tryd.prog 1 lp41 (sth (S41 n c i) 38 [resO n f g]) fun x af => (x = .exit 0 ∧ whyS (whyC f g) n d i = .tuple #[i64 0, i64 0, i64 13] ∧ Less 1 (sth (S41 n c n) 38 [resO n f g]) af) ∨
      (x = .ret ∧ ∃ vs, resultsA Tryd.prog af.tm af.h Tryd.f41.results.toList = some vs ∧ pack vs = whyS (whyC f g) n d i ∧ ∀ (j : Nat) z, [resO n f g][j]? = some z → af.h.get j = z) := by
  intro d
  induction d with
  | zero =>
    intro i hi
    have him : i = n := by omega
    subst him
    refine Runs.lp (by kernel_rfl) (Runs.sqR mixed hk38 [] (by kernel_rfl) (by kernel_rfl) (by kernel_rfl) oblN (Runs.sq (by kernel_rfl) ?_))
    refine Runs.cd (b := ltF (.ofNat i) (.ofNat i)) (by kernel_rfl) (fun ht => by rw [lt_self] at ht; cases ht) (fun _ => Runs.now (x := .exit 0) (by kernel_rfl) (.inl ⟨rfl, rfl, ?_⟩))
    exact less_seenP s41_clo one_clo (Nat.le_refl 1) (by kernel_rfl) (by kernel_rfl) (by kernel_rfl) (by kernel_rfl)
  | succ d ih =>
    intro i hi
    have hlt : i < n := by omega
    refine Runs.lp (by kernel_rfl) (Runs.sqR mixed hk38 [] (by kernel_rfl) (by kernel_rfl) (by kernel_rfl) oblN (Runs.sq (by kernel_rfl) ?_))
    refine Runs.cd (b := ltF (.ofNat i) (.ofNat n)) (by kernel_rfl) (fun _ => Runs.now (x := .normal) (by kernel_rfl) ?_) (fun hf => by rw [lt_of hlt] at hf; cases hf)
    show Runs Tryd.prog 1 _ _ _
    refine Runs.sq (by kernel_rfl) (Runs.bk (id := 1) (by kernel_rfl) ?_)
    refine Runs.sqR mixed hk38 [viaV 1 (.pointer (some ⟨0, 0 + i * 2, none⟩)), viaV 2 (agV (f i) (g i))] (by kernel_rfl) (by kernel_rfl) (by kernel_rfl)
      (oblC (shown_idx (n := n) (by kernel_rfl) hlt) (oblC (shown_agg (sz := 2) (l := [.int .i64 (f i), .bool (g i)]) (by kernel_rfl) (res_at (by kernel_rfl) hlt)) oblN)) ?_
    let R2 := rootA n f g (f i) (g i)
    let l2 : List (Nat × Value) := S41 n c i ++ [(8, i64 i), (9, ptrV 1)]
    have l2clo : ∀ q ∈ l2, Clo 2 q.2 := clo_all (by kernel_rfl)
    refine Runs.less (af1 := sth l2 38 R2) (less_seenP l2clo rootA_clo (show 1 ≤ 2 by decide) (by kernel_rfl) (by kernel_rfl) (by kernel_rfl) (by kernel_rfl)) ?_
    -- the call
    let o : Nat := if c = i + 1 then 0 else i + 1
    let m : Nat := n - (i + 1)
    let p : Nat → Bool := fun j => whyC f g i (o + j)
    have hom : o + m ≤ n := by show (if c = i + 1 then 0 else i + 1) + (n - (i + 1)) ≤ n; split <;> omega
    let fv : Value := .func (.func 93) #[] #[ptrV 1]
    let sl : Value := .slice (some ⟨0, o * 2, none⟩) m (c - (i + 1))
    have hS : Says Tryd.prog (hp R2) 92 [sl, fv] (idxV p m) (hp R2) := by
      refine says_of (os := R2) (index_local R2 n o m (c - (i + 1)) f g 93 #[ptrV 1] p (by omega) hom rfl rootA_clo (fun x hx => ?_) fun j hj => ?_) (fun x hx => ?_) rootA_clo (clo_plain (by unfold idxV; split <;> rfl))
      · simp only [List.mem_cons, List.mem_nil_iff, or_false] at hx
        subst hx
        exact clo_of 10 _ _ (by kernel_rfl)
      · exact why1_says (f i) (g i) (f (o + j)) (g (o + j)) n f g
      · simp only [List.mem_cons, List.mem_nil_iff, or_false] at hx
        rcases hx with rfl | rfl
        · exact clo_of 10 _ _ (by kernel_rfl)
        · exact clo_of 10 _ _ (by kernel_rfl)
    have hsl : sliceA Tryd.prog 42 (resV n c) (some (i64 (i + 1))) none none = some sl := rest_slice (by omega) hc
    have same : firstP p m m 0 < m ↔ firstP (whyC f g i) n m (i + 1) < n := by
      by_cases hci : c = i + 1
      · have hm0 : m = 0 := by show n - (i + 1) = 0; omega
        rw [hm0]
        simp [firstP]
      · have ho : o = i + 1 := if_neg hci
        have := firstP_shift (whyC f g i) (i + 1) m m 0 (by omega)
        rw [Nat.add_zero, show i + 1 + m = n by show i + 1 + (n - (i + 1)) = n; omega] at this
        have ep : p = fun j => whyC f g i (i + 1 + j) := by funext j; show whyC f g i (o + j) = _; rw [ho]
        rw [ep]
        have hmn : i + 1 + m = n := by show i + 1 + (n - (i + 1)) = n; omega
        omega
    have w1 : wrapF .i64 (Int.add (.ofNat i) (.ofNat 1)) = .ofNat (i + 1) := wrap_succ (by omega)
    by_cases hfound : firstP p m m 0 < m
    · have hci : ¬ c = i + 1 := fun hci => by
        have hm0 : m = 0 := by show n - (i + 1) = 0; omega
        omega
      have ho : o = i + 1 := if_neg hci
      let k := firstP p m m 0
      have hk : idxV p m = i64 k := by unfold idxV; rw [if_pos hfound]
      rw [hk] at hS
      refine Runs.sqR mixed hk38 [viaV 2 (i64 (i + 1)), viaV 3 sl, viaC 5 92 [sl, fv] (i64 k)] (by kernel_rfl) (by kernel_rfl) (by kernel_rfl)
        (oblC (shown_eq (v := .int .i64 (wrapF .i64 (Int.add (.ofNat i) (.ofNat 1)))) (by kernel_rfl) (by kernel_rfl) (by rw [w1]; rfl))
        (oblC ⟨by kernel_rfl, (show _ = (sliceA Tryd.prog 42 (resV n c) (some (i64 (i + 1))) none none).map (·, hp R2) by kernel_rfl).trans (by rw [hsl]; rfl)⟩ (oblC (shown_call (by kernel_rfl) hS) oblN))) ?_
      refine Runs.sqR mixed hk38 [] (by kernel_rfl) (by kernel_rfl) (by kernel_rfl) oblN ?_
      have hge : leF (.ofNat 0) (.ofNat k) = true := by rw [leF_eq, decide_eq_true_eq]; exact Int.natCast_nonneg k
      refine Runs.cd (b := leF (.ofNat 0) (.ofNat k)) (by kernel_rfl) (fun _ => ?_) (fun hf => by rw [hge] at hf; cases hf)
      have hkm : k < m := hfound
      have hmn : m ≤ n := Nat.sub_le _ _
      have e : whyS (whyC f g) n (d + 1) i = .tuple #[i64 i, i64 (i + 1 + k), i64 0] := by
        have hlt' : firstP (whyC f g i) n m (i + 1) < n := same.1 hfound
        have hsh := firstP_shift (whyC f g i) (i + 1) m m 0 (by omega)
        rw [Nat.add_zero, show i + 1 + m = n by show i + 1 + (n - (i + 1)) = n; omega] at hsh
        have ep : p = fun j => whyC f g i (i + 1 + j) := by funext j; show whyC f g i (o + j) = _; rw [ho]
        have hkk : k = firstP (fun j => whyC f g i (i + 1 + j)) m m 0 := by show firstP p m m 0 = _; rw [ep]
        show (if firstP (whyC f g i) n m (i + 1) < n then Value.tuple #[i64 i, i64 (firstP (whyC f g i) n m (i + 1)), i64 0] else _) = _
        rw [if_pos hlt', ← hsh, ← hkk]
      rw [e]
      have w2 : wrapF .i64 (Int.add (.ofNat (i + 1)) (.ofNat k)) = .ofNat (i + 1 + k) := wrap_ofNat (by omega)
      refine Runs.sqR mixed hk38 [viaV 2 (i64 (i + 1)), viaV 4 (i64 (i + 1 + k))] (by kernel_rfl) (by kernel_rfl) (by kernel_rfl)
        (oblC (shown_eq (v := .int .i64 (wrapF .i64 (Int.add (.ofNat i) (.ofNat 1)))) (by kernel_rfl) (by kernel_rfl) (by rw [w1]; rfl))
        (oblC (shown_eq (v := .int .i64 (wrapF .i64 (Int.add (.ofNat (i + 1)) (.ofNat k)))) (by kernel_rfl) (by kernel_rfl) (by rw [w2]; rfl)) oblN)) ?_
      exact Runs.now (x := .ret) (by kernel_rfl) (.inr ⟨rfl, [i64 i, i64 (i + 1 + k), i64 0], by kernel_rfl, rfl, keep1 (x := f i) (a := g i) (by kernel_rfl)⟩)
    · have hk : idxV p m = .int .i64 (.negSucc 0) := by unfold idxV; rw [if_neg hfound]
      rw [hk] at hS
      refine Runs.sqR mixed hk38 [viaV 2 (i64 (i + 1)), viaV 3 sl, viaC 5 92 [sl, fv] (.int .i64 (.negSucc 0))] (by kernel_rfl) (by kernel_rfl) (by kernel_rfl)
        (oblC (shown_eq (v := .int .i64 (wrapF .i64 (Int.add (.ofNat i) (.ofNat 1)))) (by kernel_rfl) (by kernel_rfl) (by rw [w1]; rfl))
        (oblC ⟨by kernel_rfl, (show _ = (sliceA Tryd.prog 42 (resV n c) (some (i64 (i + 1))) none none).map (·, hp R2) by kernel_rfl).trans (by rw [hsl]; rfl)⟩ (oblC (shown_call (by kernel_rfl) hS) oblN))) ?_
      refine Runs.sqR mixed hk38 [] (by kernel_rfl) (by kernel_rfl) (by kernel_rfl) oblN ?_
      refine Runs.cd (b := false) (by kernel_rfl) (fun hf => by cases hf) (fun _ => Runs.now (x := .normal) (by kernel_rfl) ?_)
      have e : whyS (whyC f g) n (d + 1) i = whyS (whyC f g) n d (i + 1) := by
        show (if firstP (whyC f g i) n m (i + 1) < n then Value.tuple #[i64 i, i64 (firstP (whyC f g i) n m (i + 1)), i64 0] else _) = _
        rw [if_neg (fun q => hfound (same.2 q))]
      rw [e]
      show Runs Tryd.prog 1 _ _ _
      refine Runs.rg mixed hk38 [] (by kernel_rfl) (by kernel_rfl) (by kernel_rfl) oblN ?_
      show Runs Tryd.prog 1 lp41 _ _
      have ew : S41 n c (i + 1) = [(1, resV n c), (17, resV n c), (18, i64 n), (19, .int .i64 (wrapF .i64 (Int.add (.ofNat i) (.ofNat 1))))] := by rw [w1]; rfl
      refine Runs.less (af1 := sth (S41 n c (i + 1)) 38 [resO n f g]) ?_ (ih (i + 1) (by omega))
      rw [ew]
      exact less_seenP (clo_all (by kernel_rfl)) one_clo (Nat.le_refl 1) (by kernel_rfl) (by kernel_rfl) (by kernel_rfl) (by kernel_rfl)

def whyV (L : Int) (n : Nat) (f : Nat → Int) (g : Nat → Bool) : Value :=
  if eqF (.ofNat (chkV L n f)) 0 then whyS (whyC f g) n n 0 else .tuple #[i64 0, i64 0, i64 (chkV L n f)]

theorem why_local (L : Int) (n c : Nat) (hc : n ≤ c) (f : Nat → Int) (g : Nat → Bool) (hn : n < 4611686018427387904) :
    Local Tryd.prog 1 41 [.int .i64 L, resV n c] (hp [resO n f g]) (Holds [resO n f g] (whyV L n f g)) := by
  have hS : Says Tryd.prog (hp [resO n f g]) 89 [.int .i64 L, resV n c] (i64 (chkV L n f)) (hp [resO n f g]) := says_of (os := [resO n f g]) (checked_local L n c f g hn) (fun x hx => by
    simp only [List.mem_cons, List.mem_nil_iff, or_false] at hx
    rcases hx with rfl | rfl
    · exact clo_plain rfl
    · exact clo_of 10 1 _ (by kernel_rfl)) one_clo (clo_plain rfl)
  refine local_of noNum Tryd.func41 (show Tryd.f41.body = some c41 by kernel_rfl) ?_
  refine Runs.sqR mixed hk38 [] (by kernel_rfl) (by kernel_rfl) (by kernel_rfl) oblN ?_
  refine Runs.sq (by kernel_rfl) (Runs.sqR mixed hk38 [viaC 2 89 [.int .i64 L, resV n c] (i64 (chkV L n f))] (by kernel_rfl) (by kernel_rfl) (by kernel_rfl) (oblC (shown_call (by kernel_rfl) hS) oblN) ?_)
  refine Runs.sqR mixed hk38 [] (by kernel_rfl) (by kernel_rfl) (by kernel_rfl) oblN ?_
  refine Runs.cd (b := !(eqF (.ofNat (chkV L n f)) 0)) (by kernel_rfl) (fun hb => ?_) (fun hb => Runs.now (x := .normal) (by kernel_rfl) ?_)
  · have hb' : eqF (.ofNat (chkV L n f)) 0 = false := by simpa using hb
    refine Runs.sqR mixed hk38 [] (by kernel_rfl) (by kernel_rfl) (by kernel_rfl) oblN (Runs.now (x := .ret) (by kernel_rfl) ⟨.inr rfl, [i64 0, i64 0, i64 (chkV L n f)], by kernel_rfl, ?_, keepOf (by kernel_rfl)⟩)
    show Value.tuple #[i64 0, i64 0, i64 (chkV L n f)] = whyV L n f g
    unfold whyV; rw [if_neg (by rw [hb']; exact Bool.false_ne_true)]
  · have hb' : eqF (.ofNat (chkV L n f)) 0 = true := by simpa using hb
    have hV : whyV L n f g = whyS (whyC f g) n n 0 := by unfold whyV; rw [if_pos hb']
    show Runs Tryd.prog 1 _ _ _
    refine Runs.sq (by kernel_rfl) (Runs.sqR mixed hk38 [] (by kernel_rfl) (by kernel_rfl) (by kernel_rfl) oblN (Runs.bk (id := 0) (by kernel_rfl) ?_))
    refine Runs.less (af1 := sth (S41 n c 0) 38 [resO n f g]) (less_seenP s41_clo one_clo (Nat.le_refl 1) (by kernel_rfl) (by kernel_rfl) (by kernel_rfl) (by kernel_rfl)) ?_
    refine (why_loop n c hc f g hn n 0 (by omega)).mono fun x af hx => ?_
    rcases hx with ⟨rfl, e, less⟩ | ⟨rfl, vs, h1, h2, hh⟩
    · show Runs Tryd.prog 1 _ af _
      refine Runs.less less (Runs.sqR mixed hk38 [] (by kernel_rfl) (by kernel_rfl) (by kernel_rfl) oblN (Runs.now (x := .ret) (by kernel_rfl) ⟨.inr rfl, [i64 0, i64 0, i64 13], by kernel_rfl, ?_, keepOf (by kernel_rfl)⟩))
      rw [hV, e]; rfl
    · exact ⟨.inr rfl, vs, h1, by rw [hV, h2], hh⟩
end
end Go.Proofs.YtgnkjmgkfibipaaDoor

/- The reference's Why, whatever the results are. -/
namespace Go.Proofs.YtgnkjmgkfibipaaDoor
set_option linter.unusedVariables false
set_option linter.unusedSimpArgs false
open Go Go.R
set_option maxRecDepth 1000000
noncomputable section

def conC (f : Nat → Int) (g : Nat → Bool) (i j : Nat) : Bool := conB (f i) (g i) (f j) (g j)

def c42 : Code := bodyOf Tryd.f42
def lp42 : Code := within (tl (hd (behind 3 c42)))
def in42 : Code := within (tl (within (hd (tl (within lp42)))))
def S42 (n i : Nat) : List (Nat × Value) := [(1, refV n), (8, i64 i)]
def S42i (n i j : Nat) : List (Nat × Value) := [(1, refV n), (8, i64 i), (9, i64 j)]
theorem s42_clo {n i : Nat} : ∀ q ∈ S42 n i, Clo 2 q.2 := clo_all (by kernel_rfl)
theorem s42i_clo {n i j : Nat} : ∀ q ∈ S42i n i j, Clo 2 q.2 := clo_all (by kernel_rfl)

theorem row_ref {h : AH} {n i : Nat} {f : Nat → Int} {g : Nat → Bool} (hg : h.get 1 = refO n f g) (hlt : i < n) : rowAt? h 1 (0 + i * 2) 2 = some [.int .i64 (f i), .bool (g i)] := by
  rw [row_at hg (by rw [rows2_len]; omega), Nat.zero_add, rows2_at _ _ n i hlt]

theorem in_loop (n i : Nat) (hin : i < n) (f : Nat → Int) (g : Nat → Bool) (hn : n < 4611686018427387904) : ∀ d j, j + d = n →
    Runs Tryd.prog 2 in42 (sth (S42i n i j) 41 (rootR n f g)) fun x af => (x = .exit 2 ∧ firstP (conC f g i) n d j = n ∧ Less 2 (sth (S42i n i n) 41 (rootR n f g)) af) ∨
      (x = .ret ∧ firstP (conC f g i) n d j < n ∧ resultsA Tryd.prog af.tm af.h Tryd.f42.results.toList = some [i64 i, i64 (firstP (conC f g i) n d j), i64 0] ∧ ∀ (k : Nat) z, (rootR n f g)[k]? = some z → af.h.get k = z) := by
  intro d
  induction d with
  | zero =>
    intro j hj
    have him : j = n := by omega
    subst him
    refine Runs.lp (by kernel_rfl) (Runs.sq (by kernel_rfl) (Runs.sqR mixed hk38 [] (by kernel_rfl) (by kernel_rfl) (by kernel_rfl) oblN ?_))
    refine Runs.cd (b := ltF (.ofNat j) (.ofNat j)) (by kernel_rfl) (fun ht => by rw [lt_self] at ht; cases ht) (fun _ => Runs.now (x := .exit 2) (by kernel_rfl) (.inl ⟨rfl, rfl, ?_⟩))
    exact less_seenP s42i_clo rootR_clo (Nat.le_refl 2) (by kernel_rfl) (by kernel_rfl) (by kernel_rfl) (by kernel_rfl)
  | succ d ih =>
    intro j hj
    have hlt : j < n := by omega
    refine Runs.lp (by kernel_rfl) (Runs.sq (by kernel_rfl) (Runs.sqR mixed hk38 [] (by kernel_rfl) (by kernel_rfl) (by kernel_rfl) oblN ?_))
    refine Runs.cd (b := ltF (.ofNat j) (.ofNat n)) (by kernel_rfl) (fun _ => Runs.now (x := .normal) (by kernel_rfl) ?_) (fun hf => by rw [lt_of hlt] at hf; cases hf)
    show Runs Tryd.prog 2 _ _ _
    refine Runs.sq (by kernel_rfl) (Runs.bk (id := 3) (by kernel_rfl) ?_)
    refine Runs.sqR mixed hk38 [viaV 2 (.pointer (some ⟨1, 0 + i * 2, none⟩)), viaV 3 (agV (f i) (g i)), viaV 6 (.pointer (some ⟨1, 0 + j * 2, none⟩)), viaV 7 (agV (f j) (g j)), viaC 8 94 [agV (f i) (g i), agV (f j) (g j)] (.bool (conC f g i j))]
      (by kernel_rfl) (by kernel_rfl) (by kernel_rfl)
      (oblC (shown_idx (n := n) (by kernel_rfl) hin) (oblC (shown_agg (sz := 2) (l := [.int .i64 (f i), .bool (g i)]) (by kernel_rfl) (row_ref (n := n) (by kernel_rfl) hin))
      (oblC (shown_idx (n := n) (by kernel_rfl) hlt) (oblC (shown_agg (sz := 2) (l := [.int .i64 (f j), .bool (g j)]) (by kernel_rfl) (row_ref (n := n) (by kernel_rfl) hlt))
      (oblC (shown_call (by kernel_rfl) (con_says (f i) (g i) (f j) (g j) n f g)) oblN))))) ?_
    refine Runs.cd (b := conC f g i j) (by kernel_rfl) (fun hb => ?_) (fun hb => Runs.now (x := .normal) (by kernel_rfl) ?_)
    · have e : firstP (conC f g i) n (d + 1) j = j := by simp [firstP, hb]
      rw [e]
      exact Runs.sqR mixed hk38 [] (by kernel_rfl) (by kernel_rfl) (by kernel_rfl) oblN (Runs.now (x := .ret) (by kernel_rfl) (.inr ⟨rfl, hlt, by kernel_rfl, keepOf (by kernel_rfl)⟩))
    · have e : firstP (conC f g i) n (d + 1) j = firstP (conC f g i) n d (j + 1) := by simp [firstP, hb]
      rw [e]
      show Runs Tryd.prog 2 _ _ _
      refine Runs.rg mixed hk38 [] (by kernel_rfl) (by kernel_rfl) (by kernel_rfl) oblN ?_
      show Runs Tryd.prog 2 in42 _ _
      have ew : S42i n i (j + 1) = [(1, refV n), (8, i64 i), (9, .int .i64 (wrapF .i64 (Int.add (.ofNat j) (.ofNat 1))))] := by rw [wrap_succ (by omega : j < 4611686018427387904)]; rfl
      refine Runs.less (af1 := sth (S42i n i (j + 1)) 41 (rootR n f g)) ?_ (ih (j + 1) (by omega))
      rw [ew]
      exact less_seenP (clo_all (by kernel_rfl)) rootR_clo (Nat.le_refl 2) (by kernel_rfl) (by kernel_rfl) (by kernel_rfl) (by kernel_rfl)

theorem out_loop (n : Nat) (f : Nat → Int) (g : Nat → Bool) (hn : n < 4611686018427387904) : ∀ d i, i + d = n →
    Runs Tryd.prog 2 lp42 (sth (S42 n i) 41 (rootR n f g)) fun x af => (x = .exit 0 ∧ whyS (conC f g) n d i = .tuple #[i64 0, i64 0, i64 13] ∧ Less 2 (sth (S42 n n) 41 (rootR n f g)) af) ∨
      (x = .ret ∧ ∃ vs, resultsA Tryd.prog af.tm af.h Tryd.f42.results.toList = some vs ∧ pack vs = whyS (conC f g) n d i ∧ ∀ (j : Nat) z, (rootR n f g)[j]? = some z → af.h.get j = z) := by
  intro d
  induction d with
  | zero =>
    intro i hi
    have him : i = n := by omega
    subst him
    refine Runs.lp (by kernel_rfl) (Runs.sq (by kernel_rfl) (Runs.sqR mixed hk38 [] (by kernel_rfl) (by kernel_rfl) (by kernel_rfl) oblN ?_))
    refine Runs.cd (b := ltF (.ofNat i) (.ofNat i)) (by kernel_rfl) (fun ht => by rw [lt_self] at ht; cases ht) (fun _ => Runs.now (x := .exit 0) (by kernel_rfl) (.inl ⟨rfl, rfl, ?_⟩))
    exact less_seenP s42_clo rootR_clo (Nat.le_refl 2) (by kernel_rfl) (by kernel_rfl) (by kernel_rfl) (by kernel_rfl)
  | succ d ih =>
    intro i hi
    have hlt : i < n := by omega
    refine Runs.lp (by kernel_rfl) (Runs.sq (by kernel_rfl) (Runs.sqR mixed hk38 [] (by kernel_rfl) (by kernel_rfl) (by kernel_rfl) oblN ?_))
    refine Runs.cd (b := ltF (.ofNat i) (.ofNat n)) (by kernel_rfl) (fun _ => Runs.now (x := .normal) (by kernel_rfl) ?_) (fun hf => by rw [lt_of hlt] at hf; cases hf)
    show Runs Tryd.prog 2 _ _ _
    refine Runs.sq (by kernel_rfl) (Runs.bk (id := 1) (by kernel_rfl) ?_)
    have w1 : wrapF .i64 (Int.add (.ofNat i) (.ofNat 1)) = .ofNat (i + 1) := wrap_succ (by omega)
    refine Runs.sqR mixed hk38 [viaV 1 (i64 (i + 1))] (by kernel_rfl) (by kernel_rfl) (by kernel_rfl) (oblC (shown_eq (v := .int .i64 (wrapF .i64 (Int.add (.ofNat i) (.ofNat 1)))) (by kernel_rfl) (by kernel_rfl) (by rw [w1]; rfl)) oblN) ?_
    refine Runs.bk (id := 2) (by kernel_rfl) ?_
    refine Runs.less (af1 := sth (S42i n i (i + 1)) 41 (rootR n f g)) (less_seenP s42i_clo rootR_clo (Nat.le_refl 2) (by kernel_rfl) (by kernel_rfl) (by kernel_rfl) (by kernel_rfl)) ?_
    refine (in_loop n i hlt f g hn (n - (i + 1)) (i + 1) (by omega)).mono fun x af hx => ?_
    rcases hx with ⟨rfl, e, less⟩ | ⟨rfl, hlt', h1, hh⟩
    · have e2 : whyS (conC f g) n (d + 1) i = whyS (conC f g) n d (i + 1) := by
        show (if firstP (conC f g i) n (n - (i + 1)) (i + 1) < n then _ else _) = _
        rw [if_neg (by rw [e]; exact Nat.lt_irrefl n)]
      rw [e2]
      show Runs Tryd.prog 2 _ af _
      refine Runs.less less (Runs.rg mixed hk38 [] (by kernel_rfl) (by kernel_rfl) (by kernel_rfl) oblN ?_)
      show Runs Tryd.prog 2 lp42 _ _
      have ew : S42 n (i + 1) = [(1, refV n), (8, .int .i64 (wrapF .i64 (Int.add (.ofNat i) (.ofNat 1))))] := by rw [w1]; rfl
      refine Runs.less (af1 := sth (S42 n (i + 1)) 41 (rootR n f g)) ?_ (ih (i + 1) (by omega))
      rw [ew]
      exact less_seenP (clo_all (by kernel_rfl)) rootR_clo (Nat.le_refl 2) (by kernel_rfl) (by kernel_rfl) (by kernel_rfl) (by kernel_rfl)
    · refine .inr ⟨rfl, _, h1, ?_, hh⟩
      show Value.tuple #[i64 i, i64 (firstP (conC f g i) n (n - (i + 1)) (i + 1)), i64 0] = (if firstP (conC f g i) n (n - (i + 1)) (i + 1) < n then Value.tuple #[i64 i, i64 (firstP (conC f g i) n (n - (i + 1)) (i + 1)), i64 0] else _)
      rw [if_pos hlt']

def refV42 (L : Int) (n : Nat) (f : Nat → Int) (g : Nat → Bool) : Value :=
  if eqF (.ofNat (toldV L n f)) 0 then whyS (conC f g) n n 0 else .tuple #[i64 0, i64 0, i64 (toldV L n f)]

theorem ref42_local (L : Int) (n : Nat) (f : Nat → Int) (g : Nat → Bool) (hn : n < 4611686018427387904) :
    Local Tryd.prog 2 42 [.int .i64 L, refV n] (hp (rootR n f g)) (Holds (rootR n f g) (refV42 L n f g)) := by
  refine local_of noNum Tryd.func42 (show Tryd.f42.body = some c42 by kernel_rfl) ?_
  refine Runs.sqR mixed hk38 [] (by kernel_rfl) (by kernel_rfl) (by kernel_rfl) oblN ?_
  refine Runs.sqR mixed hk38 [viaC 2 90 [.int .i64 L, refV n] (i64 (toldV L n f))] (by kernel_rfl) (by kernel_rfl) (by kernel_rfl) (oblC (shown_call (by kernel_rfl) (told_says L n f g hn)) oblN) ?_
  refine Runs.sq (by kernel_rfl) (Runs.sqR mixed hk38 [] (by kernel_rfl) (by kernel_rfl) (by kernel_rfl) oblN ?_)
  refine Runs.cd (b := !(eqF (.ofNat (toldV L n f)) 0)) (by kernel_rfl) (fun hb => ?_) (fun hb => Runs.now (x := .normal) (by kernel_rfl) ?_)
  · have hb' : eqF (.ofNat (toldV L n f)) 0 = false := by simpa using hb
    refine Runs.sqR mixed hk38 [] (by kernel_rfl) (by kernel_rfl) (by kernel_rfl) oblN (Runs.now (x := .ret) (by kernel_rfl) ⟨.inr rfl, [i64 0, i64 0, i64 (toldV L n f)], by kernel_rfl, ?_, keepOf (by kernel_rfl)⟩)
    show Value.tuple #[i64 0, i64 0, i64 (toldV L n f)] = refV42 L n f g
    unfold refV42; rw [if_neg (by rw [hb']; exact Bool.false_ne_true)]
  · have hb' : eqF (.ofNat (toldV L n f)) 0 = true := by simpa using hb
    have hV : refV42 L n f g = whyS (conC f g) n n 0 := by unfold refV42; rw [if_pos hb']
    show Runs Tryd.prog 2 _ _ _
    refine Runs.sq (by kernel_rfl) (Runs.sqR mixed hk38 [] (by kernel_rfl) (by kernel_rfl) (by kernel_rfl) oblN (Runs.bk (id := 0) (by kernel_rfl) ?_))
    refine Runs.less (af1 := sth (S42 n 0) 41 (rootR n f g)) (less_seenP s42_clo rootR_clo (Nat.le_refl 2) (by kernel_rfl) (by kernel_rfl) (by kernel_rfl) (by kernel_rfl)) ?_
    refine (out_loop n f g hn n 0 (by omega)).mono fun x af hx => ?_
    rcases hx with ⟨rfl, e, less⟩ | ⟨rfl, vs, h1, h2, hh⟩
    · show Runs Tryd.prog 2 _ af _
      refine Runs.less less (Runs.sqR mixed hk38 [] (by kernel_rfl) (by kernel_rfl) (by kernel_rfl) oblN (Runs.now (x := .ret) (by kernel_rfl) ⟨.inr rfl, [i64 0, i64 0, i64 13], by kernel_rfl, ?_, keepOf (by kernel_rfl)⟩))
      rw [hV, e]; rfl
    · exact ⟨.inr rfl, vs, h1, by rw [hV, h2], hh⟩

theorem why_same (L : Int) (n : Nat) (f : Nat → Int) (g : Nat → Bool) : refV42 L n f g = whyV L n f g := by
  have e : conC f g = whyC f g := by
    funext i j
    exact (why_con (f i) (g i) (f j) (g j)).symm
  unfold refV42 whyV
  rw [told_chk, e]
end
end Go.Proofs.YtgnkjmgkfibipaaDoor

/- inner, whatever the results are: the reference's rows. -/
namespace Go.Proofs.YtgnkjmgkfibipaaDoor
set_option linter.unusedVariables false
set_option linter.unusedSimpArgs false
open Go Go.R
set_option maxRecDepth 1000000
noncomputable section

def c40 : Code := bodyOf Tryd.f40
def lp40 : Code := within (tl (hd (behind 2 c40)))
def rowsF (n : Nat) (f : Nat → Int) (g : Nat → Bool) : List Value := rows2 (fun i => .int .i64 (f i)) (fun i => .bool (g i)) n
def rootI (n m : Nat) (f : Nat → Int) (g : Nat → Bool) : List AObj := [resO n f g, refO m f g]
def T40 (n c m i : Nat) : List (Nat × Value) := [(0, resV n c), (3, .slice (some ⟨1, 0, some 2⟩) m m), (4, i64 i)]
def T40z (n c : Nat) : List (Nat × Value) := [(0, resV n c), (3, .slice none 0 0), (4, i64 0)]
theorem t40_clo {n c m i : Nat} : ∀ q ∈ T40 n c m i, Clo 2 q.2 := clo_all (by kernel_rfl)
theorem t40z_clo {n c : Nat} : ∀ q ∈ T40z n c, Clo 1 q.2 := clo_all (by kernel_rfl)
theorem rootI_clo {n m : Nat} {f : Nat → Int} {g : Nat → Bool} : ∀ x ∈ rootI n m f g, CloO 2 x := fun x hx => by
  simp only [rootI, List.mem_cons, List.mem_nil_iff, or_false] at hx
  rcases hx with rfl | rfl
  · exact resO_clo 2 n f g
  · exact cloO_plain (rows2_plain (fun _ => rfl) (fun _ => rfl) m) _ _

theorem inner_next {n c : Nat} {f : Nat → Int} {g : Nat → Bool} {k0 : Code} {Q : AExit → AF → Prop} (i q : Nat) (rows : List Value) (hrows : rows = rowsF (i + 1) f g) (hq : q ≠ 0) (par : List Nat) (h0 : 0 ∉ par) {af : AF} (hsz : af.sz = 19) (t0 : af.tm.get 0 = some (resV n c))
    (t3 : af.tm.get 3 = some (.slice (some ⟨q, 0, some 2⟩) (i + 1) (i + 1))) (t4 : af.tm.get 4 = some (i64 i)) (g0 : af.h.get 0 = resO n f g) (g1 : af.h.get q = .cells rows true par (some 98))
    (h : Runs Tryd.prog 1 k0 (sth (T40 n c (i + 1) i) 19 (rootI n (i + 1) f g)) Q) : Runs Tryd.prog 1 k0 af Q := by
  subst hrows
  let ρ : Nat → Nat := fun j => if j = 0 then 0 else q
  have r0 : ρ 0 = 0 := rfl
  have r1 : ρ 1 = q := rfl
  refine Runs.renum (l := T40 n c (i + 1) i) (os := rootI n (i + 1) f g) ρ hsz (show 1 ≤ 2 by decide) (fun j hj => ?_) (fun a b ha hb e => ?_) (fun p hp => ?_) (fun j o ho => ?_) (fun a b ha hb hne cs lv p ty hg => ?_) h
  · have : j = 0 := by omega
    subst this
    refine ⟨rfl, fun o ho => ?_⟩
    rw [g0]
    exact Option.some.inj ho
  · have ha' : a < 2 := ha
    have hb' : b < 2 := hb
    match a, b, ha', hb' with
    | 0, 0, _, _ => rfl
    | 1, 1, _, _ => rfl
    | 0, 1, _, _ => exact absurd (show q = 0 from e.symm) hq
    | 1, 0, _, _ => exact absurd (show q = 0 from e) hq
    | a + 2, _, h, _ => omega
    | _, b + 2, _, h => omega
  · simp only [T40, List.mem_cons, List.mem_nil_iff, or_false] at hp
    rcases hp with rfl | rfl | rfl
    · exact ⟨_, t0, Ren.slice (show 0 < 2 by decide) r0⟩
    · exact ⟨_, t3, Ren.sliceU (show 1 < 2 by decide) r1⟩
    · exact ⟨_, t4, Ren.plain rfl⟩
  · have same : ∀ (l : List Value), (∀ v ∈ l, plainV v = true) → ∀ (k : Nat) u v, l[k]? = some u → l[k]? = some v → Ren ρ 2 u v := fun l hl k u v hu hv => by
      rw [hu] at hv
      cases hv
      exact Ren.plain (hl u (List.mem_of_getElem? hu))
    match j, ho with
    | 0, ho =>
      have : resO n f g = o := Option.some.inj ho
      subst this
      rw [r0, g0]
      exact ⟨rfl, same _ (rows2_plain (fun _ => rfl) (fun _ => rfl) n), fun e => (by cases e), rfl, .inl rfl⟩
    | 1, ho =>
      have : refO (i + 1) f g = o := Option.some.inj ho
      subst this
      rw [r1, g1]
      exact ⟨rfl, same _ (rows2_plain (fun _ => rfl) (fun _ => rfl) (i + 1)), fun _ => rfl, rfl, .inr rfl⟩
    | j + 2, ho => simp [rootI] at ho
  · have ha' : a < 2 := ha
    have hb' : b < 2 := hb
    by_cases e1 : a = 0
    · subst e1
      rw [r0, g0] at hg
      cases hg
      exact List.not_mem_nil
    · have : a = 1 := by omega
      subst this
      have : b = 0 := by omega
      subst this
      rw [r1, g1] at hg
      cases hg
      exact h0

theorem append_row {i : Nat} (hi : i < 1000000) {f : Nat → Int} {g : Nat → Bool} {h : AH} {x y : Value} (hx : cellV x = true) (hy : cellV y = true) (h1 : h.get 1 = refO i f g) (h2 : rowAt? h 2 0 2 = some [x, y]) :
    appendA Tryd.prog #[46, 46] (.slice (some ⟨1, 0, some 2⟩) i i) (.slice (some ⟨2, 0, none⟩) 1 1) h =
      some (.slice (some ⟨h.next, 0, some 2⟩) (i + 1) (i + 1), ((h.put 1 (.cells (rowsF i f g) false [] (some 98))).new (.cells (rowsF i f g ++ [x, y]) true [1] (some 98))).2) := by
  have e1 : Tryd.prog.underlying 46 = some (.slice 98) := by kernel_rfl
  obtain ⟨info, e2, e3, e4⟩ : ∃ info, Tryd.prog.info? 98 = some info ∧ info.size = 2 ∧ (decide (info.bytes > 1000000) || !zfit info) = false := ⟨(Tryd.prog.info? 98).get!, by kernel_rfl, by kernel_rfl, by kernel_rfl⟩
  rw [Bool.or_eq_false_iff] at e4
  have e5 : srcA 2 (.slice (some ⟨2, 0, none⟩) 1 1) h = some ([x, y], 1) := by
    unfold srcA
    simp only [show ¬ (1 = 0) by decide, if_false]
    show (rowAt? h 2 0 2).map (·, 1) = _
    rw [h2]; rfl
  have e6 : (decide (i > 1000000)) = false := by simp; omega
  have e7 : appendU 98 2 1 0 i 1 [x, y] h = some (.slice (some ⟨h.next, 0, some 2⟩) (i + 1) (i + 1), ((h.put 1 (.cells (rowsF i f g) false [] (some 98))).new (.cells (rowsF i f g ++ [x, y]) true [1] (some 98))).2) := by
    unfold appendU
    rw [h1]
    show (if 0 + i * 2 = (rowsF i f g).length then _ else _) = _
    rw [if_pos (by unfold rowsF; rw [rows2_len]; omega)]
    rfl
  unfold appendA
  simp only [List.getElem?_toArray, List.getElem?_cons_zero, List.getElem?_cons_succ, e1, e2, srcKind, Bool.not_true, Bool.false_eq_true, if_false, e3, e5]
  have e8 : ([x, y].all cellV) = true := by simp [hx, hy]
  simp only [e8, e4.1, e4.2, e6, Bool.not_true, Bool.or_false, Bool.false_or, Bool.or_self, decide_false, show (2 = 0) = False by simp, show (1 : Nat) > 1000000 ↔ False by simp, show ((1 : Nat) = 0) = False by simp, if_false, decide_true, ne_eq, not_true_eq_false, Bool.false_eq_true, show (1 + 1 = 2) by rfl, e7]
end
end Go.Proofs.YtgnkjmgkfibipaaDoor

/- inner as a contract. -/
namespace Go.Proofs.YtgnkjmgkfibipaaDoor
set_option linter.unusedVariables false
set_option linter.unusedSimpArgs false
open Go Go.R
set_option maxRecDepth 1000000
noncomputable section

theorem rowsF_one (f : Nat → Int) (g : Nat → Bool) : rowsF 1 f g = [.int .i64 (f 0), .bool (g 0)] := rfl
theorem rowsF_succ (n : Nat) (f : Nat → Int) (g : Nat → Bool) : rowsF n f g ++ [.int .i64 (f n), .bool (g n)] = rowsF (n + 1) f g := (rows2_succ _ _ n).symm

/-- Behind a round: the next number. -/
theorem inner_step {n c : Nat} {f : Nat → Int} {g : Nat → Bool} {Q : AExit → AF → Prop} (i : Nat) (hi : i < 1000000)
    (h : Runs Tryd.prog 1 lp40 (sth (T40 n c (i + 1) (i + 1)) 19 (rootI n (i + 1) f g)) Q) :
    Runs Tryd.prog 1 (tl (tl (within lp40))) (sth (T40 n c (i + 1) i) 19 (rootI n (i + 1) f g)) (andThen (fun a => Runs Tryd.prog 1 lp40 a Q) Q) := by
  refine Runs.rg mixed hk38 [] (by kernel_rfl) (by kernel_rfl) (by kernel_rfl) oblN ?_
  show Runs Tryd.prog 1 lp40 _ _
  have ew : T40 n c (i + 1) (i + 1) = [(0, resV n c), (3, .slice (some ⟨1, 0, some 2⟩) (i + 1) (i + 1)), (4, .int .i64 (wrapF .i64 (Int.add (.ofNat i) (.ofNat 1))))] := by rw [wrap_succ (by omega : i < 4611686018427387904)]; rfl
  refine Runs.less (af1 := sth (T40 n c (i + 1) (i + 1)) 19 (rootI n (i + 1) f g)) ?_ h
  rw [ew]
  exact less_seenP (clo_all (by kernel_rfl)) rootI_clo (show 1 ≤ 2 by decide) (by kernel_rfl) (by kernel_rfl) (by kernel_rfl) (by kernel_rfl)

theorem inner_loop (n c : Nat) (hn : n < 1000000) (f : Nat → Int) (g : Nat → Bool) : ∀ d i, i + 1 + d = n →
    Runs Tryd.prog 1 lp40 (sth (T40 n c (i + 1) (i + 1)) 19 (rootI n (i + 1) f g)) fun x af => x = .exit 0 ∧ Less 1 (sth (T40 n c n n) 19 (rootI n n f g)) af := by
  intro d
  induction d with
  | zero =>
    intro i hi
    have him : i + 1 = n := by omega
    rw [him]
    refine Runs.lp (by kernel_rfl) (Runs.sq (by kernel_rfl) (Runs.sqR mixed hk38 [] (by kernel_rfl) (by kernel_rfl) (by kernel_rfl) oblN ?_))
    refine Runs.cd (b := ltF (.ofNat n) (.ofNat n)) (by kernel_rfl) (fun ht => by rw [lt_self] at ht; cases ht) (fun _ => Runs.now (x := .exit 0) (by kernel_rfl) ⟨rfl, ?_⟩)
    exact less_seenP t40_clo rootI_clo (show 1 ≤ 2 by decide) (by kernel_rfl) (by kernel_rfl) (by kernel_rfl) (by kernel_rfl)
  | succ d ih =>
    intro i hi
    have hlt : i + 1 < n := by omega
    refine Runs.lp (by kernel_rfl) (Runs.sq (by kernel_rfl) (Runs.sqR mixed hk38 [] (by kernel_rfl) (by kernel_rfl) (by kernel_rfl) oblN ?_))
    refine Runs.cd (b := ltF (.ofNat (i + 1)) (.ofNat n)) (by kernel_rfl) (fun _ => Runs.now (x := .normal) (by kernel_rfl) ?_) (fun hf => by rw [lt_of hlt] at hf; cases hf)
    show Runs Tryd.prog 1 _ _ _
    refine Runs.sq (by kernel_rfl) (Runs.bk (id := 1) (by kernel_rfl) ?_)
    let x : Value := .int .i64 (f (i + 1))
    let y : Value := .bool (g (i + 1))
    let Hp : AH := ((hp (rootI n (i + 1) f g)).new (.cells [x, y] true [] (some 98))).2
    let Hn : AH := ((Hp.put 1 (.cells (rowsF (i + 1) f g) false [] (some 98))).new (.cells (rowsF (i + 1) f g ++ [x, y]) true [1] (some 98))).2
    have hap : appendA Tryd.prog #[46, 46] (.slice (some ⟨1, 0, some 2⟩) (i + 1) (i + 1)) (.slice (some ⟨2, 0, none⟩) 1 1) Hp = some (.slice (some ⟨3, 0, some 2⟩) (i + 2) (i + 2), Hn) :=
      append_row (x := x) (y := y) (by omega) rfl rfl (by kernel_rfl) (by kernel_rfl)
    refine Runs.rg mixed hk38 [viaV 3 (.pointer (some ⟨0, 0 + (i + 1) * 2, none⟩)), viaV 4 (agV (f (i + 1)) (g (i + 1))), ⟨6, .slice (some ⟨3, 0, some 2⟩) (i + 2) (i + 2), some Hn, none⟩] (by kernel_rfl) (by kernel_rfl) (by kernel_rfl)
      (oblC (shown_idx (n := n) (by kernel_rfl) hlt) (oblC (shown_agg (sz := 2) (l := [x, y]) (by kernel_rfl) (res_at (by kernel_rfl) hlt))
      (oblC ⟨by kernel_rfl, (show _ = appendA Tryd.prog #[46, 46] (.slice (some ⟨1, 0, some 2⟩) (i + 1) (i + 1)) (.slice (some ⟨2, 0, none⟩) 1 1) Hp by kernel_rfl).trans hap⟩ oblN))) ?_
    show Runs Tryd.prog 1 (tl (tl (within lp40))) _ _
    refine inner_next (n := n) (c := c) (i + 1) 3 (rowsF (i + 1) f g ++ [x, y]) (rowsF_succ (i + 1) f g) (by decide) [1] (by decide) ?_ ?_ ?_ ?_ ?_ ?_ (inner_step (i + 1) (by omega) (ih (i + 1) (by omega)))
    · kernel_rfl
    · kernel_rfl
    · kernel_rfl
    · kernel_rfl
    · kernel_rfl
    · exact Eq.trans (Eq.refl _) (by kernel_rfl)

theorem inner_local (n c : Nat) (hn : n < 1000000) (hpos : 0 < n) (f : Nat → Int) (g : Nat → Bool) :
    Local Tryd.prog 1 40 [resV n c] (hp [resO n f g]) (IsNew 1 1 n (rowsF n f g) (some 98) (hp [resO n f g])) := by
  refine local_of noNum Tryd.func40 (show Tryd.f40.body = some c40 by kernel_rfl) ?_
  refine Runs.sqR mixed hk38 [] (by kernel_rfl) (by kernel_rfl) (by kernel_rfl) oblN ?_
  refine Runs.sqR mixed hk38 [] (by kernel_rfl) (by kernel_rfl) (by kernel_rfl) oblN ?_
  refine Runs.sq (by kernel_rfl) (Runs.sqR mixed hk38 [] (by kernel_rfl) (by kernel_rfl) (by kernel_rfl) oblN (Runs.bk (id := 0) (by kernel_rfl) ?_))
  have fin : ∀ af, Less 1 (sth (T40 n c n n) 19 (rootI n n f g)) af → Runs Tryd.prog 1 (tl (tl (tl c40))) af (EndsAs Tryd.prog Tryd.f40 (IsNew 1 1 n (rowsF n f g) (some 98) (hp [resO n f g]))) := by
    intro af less
    refine Runs.less less (Runs.sqR mixed hk38 [] (by kernel_rfl) (by kernel_rfl) (by kernel_rfl) oblN (Runs.now (x := .ret) (by kernel_rfl) ⟨.inr rfl, [.slice (some ⟨1, 0, some 2⟩) n n], by kernel_rfl, 1, [], Nat.le_refl 1, fun j _ => List.not_mem_nil, rfl, by kernel_rfl, fun j hj => ?_⟩))
    have : j = 0 := by omega
    subst this
    exact Eq.trans (Eq.refl _) (by kernel_rfl)
  -- the first round
  refine Runs.less (af1 := sth (T40z n c) 19 [resO n f g]) (less_seenP t40z_clo one_clo (Nat.le_refl 1) (by kernel_rfl) (by kernel_rfl) (by kernel_rfl) (by kernel_rfl)) ?_
  refine Runs.mono (Q := fun x af => x = .exit 0 ∧ Less 1 (sth (T40 n c n n) 19 (rootI n n f g)) af) ?_ (fun x af hx => ?_)
  · refine Runs.lp (by kernel_rfl) (Runs.sq (by kernel_rfl) (Runs.sqR mixed hk38 [] (by kernel_rfl) (by kernel_rfl) (by kernel_rfl) oblN ?_))
    refine Runs.cd (b := ltF (.ofNat 0) (.ofNat n)) (by kernel_rfl) (fun _ => Runs.now (x := .normal) (by kernel_rfl) ?_) (fun hf => by rw [lt_of hpos] at hf; cases hf)
    show Runs Tryd.prog 1 _ _ _
    refine Runs.sq (by kernel_rfl) (Runs.bk (id := 1) (by kernel_rfl) ?_)
    refine Runs.rg mixed hk38 [viaV 3 (.pointer (some ⟨0, 0 + 0 * 2, none⟩)), viaV 4 (agV (f 0) (g 0))] (by kernel_rfl) (by kernel_rfl) (by kernel_rfl)
      (oblC (shown_idx (n := n) (by kernel_rfl) hpos) (oblC (shown_agg (sz := 2) (l := [.int .i64 (f 0), .bool (g 0)]) (by kernel_rfl) (res_at (n := n) (i := 0) (by kernel_rfl) hpos)) oblN)) ?_
    show Runs Tryd.prog 1 (tl (tl (within lp40))) _ _
    exact inner_next (n := n) (c := c) 0 2 (rowsF 1 f g) rfl (by decide) [] List.not_mem_nil (by kernel_rfl) (by kernel_rfl) (by kernel_rfl) (by kernel_rfl) (by kernel_rfl) (by kernel_rfl) (inner_step 0 (by decide) (inner_loop n c hn f g (n - 1) 0 (by omega)))
  · obtain ⟨rfl, less⟩ := hx
    exact fin af less

theorem inner_says (n c : Nat) (hn : n < 1000000) (hpos : 0 < n) (f : Nat → Int) (g : Nat → Bool) : Says Tryd.prog (hp [resO n f g]) 40 [resV n c] (refV n) (hp (rootR n f g)) := by
  refine fresh_from (k := 1) (s := 1) (n := n) (hc := hp [resO n f g]) (h := hp [resO n f g]) (cells := rowsF n f g) (ty := some 98) (inner_local n c hn hpos f g) (hp_next _) (by rw [hp_next]; exact Nat.le_refl 1) (fun _ _ => rfl) (fun v hv => ?_) (fun i hi => ?_) (rows2_plain (fun _ => rfl) (fun _ => rfl) n)
  · rw [List.mem_singleton.1 hv]
    exact clo_of 10 1 _ (by kernel_rfl)
  · have : i = 0 := by omega
    subst this
    exact resO_clo 1 n f g

theorem inner_zero (c : Nat) (f : Nat → Int) (g : Nat → Bool) : Says Tryd.prog (hp [resO 0 f g]) 40 [resV 0 c] (.slice none 0 0) (hp [resO 0 f g]) := by
  refine says_of (os := [resO 0 f g]) (v := .slice none 0 0) ?_ (fun v hv => ?_) one_clo (clo_plain rfl)
  · refine local_of noNum Tryd.func40 (show Tryd.f40.body = some c40 by kernel_rfl) ?_
    refine Runs.sqR mixed hk38 [] (by kernel_rfl) (by kernel_rfl) (by kernel_rfl) oblN ?_
    refine Runs.sqR mixed hk38 [] (by kernel_rfl) (by kernel_rfl) (by kernel_rfl) oblN ?_
    refine Runs.sq (by kernel_rfl) (Runs.sqR mixed hk38 [] (by kernel_rfl) (by kernel_rfl) (by kernel_rfl) oblN (Runs.bk (id := 0) (by kernel_rfl) ?_))
    refine Runs.lp (by kernel_rfl) (Runs.sq (by kernel_rfl) (Runs.sqR mixed hk38 [] (by kernel_rfl) (by kernel_rfl) (by kernel_rfl) oblN ?_))
    refine Runs.cd (b := false) (by kernel_rfl) (fun ht => by cases ht) (fun _ => Runs.now (x := .exit 0) (by kernel_rfl) ?_)
    show Runs Tryd.prog 1 _ _ _
    exact Runs.sqR mixed hk38 [] (by kernel_rfl) (by kernel_rfl) (by kernel_rfl) oblN (Runs.now (x := .ret) (by kernel_rfl) ⟨.inr rfl, [.slice none 0 0], by kernel_rfl, rfl, keepOf (by kernel_rfl)⟩)
  · rw [List.mem_singleton.1 hv]
    exact clo_of 10 1 _ (by kernel_rfl)
end
end Go.Proofs.YtgnkjmgkfibipaaDoor

/- TrialResults: the law's run, whatever the results are. -/
namespace Go.Proofs.YtgnkjmgkfibipaaDoor
set_option linter.unusedVariables false
set_option linter.unusedSimpArgs false
open Go Go.R
set_option maxRecDepth 1000000
noncomputable section

def c8 : Code := bodyOf Tryd.f8
def tupV (a b e : Int) : Value := .tuple #[.int .i64 a, .int .i64 b, .int .i64 e]

theorem eq_self (x : Int) : eqF x x = true := by rw [eqF_eq]; exact beq_self_eq_true x

def T8 (L : Int) (n c : Nat) (a b e : Int) : List (Nat × Value) := [(0, .int .i64 L), (1, resV n c), (5, .int .i64 a), (6, .int .i64 b), (7, .int .i64 e), (8, .int .i64 a), (9, .int .i64 b), (10, .int .i64 e)]
def U8 (a b e x y z : Int) : List (Nat × Value) := [(5, .int .i64 a), (6, .int .i64 b), (7, .int .i64 e), (8, .int .i64 a), (9, .int .i64 b), (10, .int .i64 e), (11, .int .i64 x), (12, .int .i64 y), (13, .int .i64 z), (14, .int .i64 x), (15, .int .i64 y), (16, .int .i64 z)]

theorem law8_runs (L : Int) (n c : Nat) (f : Nat → Int) (g : Nat → Bool) (inV : Value) (os1 : List AObj) (h0 : (hp os1).get 0 = resO n f g) (h1 : 1 ≤ (hp os1).next) (a b e x y z : Int)
    (S38 : Says Tryd.prog (hp [resO n f g]) 38 [.int .i64 L, resV n c] (tupV a b e) (hp [resO n f g]))
    (S40 : Says Tryd.prog (hp [resO n f g]) 40 [resV n c] inV (hp os1))
    (S39 : Says Tryd.prog (hp os1) 39 [.int .i64 L, inV] (tupV a b e) (hp os1))
    (S41 : Says Tryd.prog (hp [resO n f g]) 41 [.int .i64 L, resV n c] (tupV x y z) (hp [resO n f g]))
    (S42 : Says Tryd.prog (hp os1) 42 [.int .i64 L, inV] (tupV x y z) (hp os1))
    : Runs Tryd.prog 1 c8 (entry Tryd.f8 [.int .i64 L, resV n c] (hp [resO n f g])) (EndsAs Tryd.prog Tryd.f8 fun v' _ => v' = .bool true) := by
  have hb : Nat.ble 1 (hp os1).next = true := Nat.ble_eq_true_of_le h1
  refine Runs.sqR mixed hk38 [] (by kernel_rfl) (by kernel_rfl) (by kernel_rfl) oblN ?_
  refine Runs.sq (by kernel_rfl) (Runs.sqR mixed hk38 [] (by kernel_rfl) (by kernel_rfl) (by kernel_rfl) oblN ?_)
  refine Runs.cd (b := ltF (.ofNat 40) (.ofNat n)) (by kernel_rfl) (fun hc => ?_) (fun hc => Runs.now (x := .normal) (by kernel_rfl) ?_)
  · exact Runs.sqR mixed hk38 [] (by kernel_rfl) (by kernel_rfl) (by kernel_rfl) oblN (Runs.now (x := .ret) (by kernel_rfl) ⟨.inr rfl, [.bool true], by kernel_rfl, rfl⟩)
  show Runs Tryd.prog 1 _ _ _
  refine Runs.sqR mixed hk38 [viaC 2 38 [.int .i64 L, resV n c] (tupV a b e)] (by kernel_rfl) (by kernel_rfl) (by kernel_rfl) (oblC (shown_callE (by kernel_rfl) (by kernel_rfl) S38) oblN) ?_
  refine Runs.sqR mixed hk38 [viaH 2 40 [resV n c] inV (hp os1), viaC 3 39 [.int .i64 L, inV] (tupV a b e)] (by kernel_rfl) (by kernel_rfl) (by kernel_rfl) (oblC (shown_callHE (by kernel_rfl) (by kernel_rfl) S40) (oblC (shown_callE (by kernel_rfl) (by kernel_rfl) S39) oblN)) ?_
  have seen : ∀ (l : List (Nat × Value)) (af : AF), (∀ p ∈ l, Clo 1 p.2) → af.h = hp os1 → (l.map (·.1)).map af.tm.get = l.map (fun p => some p.2) → af.sz = 82 → Less 1 (sth l 82 [resO n f g]) af := by
    intro l af hl hh ht hs
    exact less_seenP hl one_clo (Nat.le_refl 1) ht hs (by rw [hh]; exact hb) (by show [af.h.get 0] = _; rw [hh, h0])
  refine Runs.less (seen (T8 L n c a b e) _ (clo_all (by kernel_rfl)) (by kernel_rfl) (by kernel_rfl) (by kernel_rfl)) ?_
  refine Runs.sqR mixed hk38 [viaC 2 41 [.int .i64 L, resV n c] (tupV x y z)] (by kernel_rfl) (by kernel_rfl) (by kernel_rfl) (oblC (shown_callE (by kernel_rfl) (by kernel_rfl) S41) oblN) ?_
  refine Runs.sqR mixed hk38 [viaH 2 40 [resV n c] inV (hp os1), viaC 3 42 [.int .i64 L, inV] (tupV x y z)] (by kernel_rfl) (by kernel_rfl) (by kernel_rfl) (oblC (shown_callHE (by kernel_rfl) (by kernel_rfl) S40) (oblC (shown_callE (by kernel_rfl) (by kernel_rfl) S42) oblN)) ?_
  refine Runs.less (seen (U8 a b e x y z) _ (clo_all (by kernel_rfl)) (by kernel_rfl) (by kernel_rfl) (by kernel_rfl)) ?_
  refine Runs.sqR mixed hk38 [viaV 2 (.bool true), viaV 6 (.bool true), viaV 11 (.bool true), viaV 16 (.bool true), viaV 21 (.bool true), viaV 26 (.bool true)] (by kernel_rfl) (by kernel_rfl) (by kernel_rfl)
    (oblC (shown_eq (v := .bool (eqF a a)) (by kernel_rfl) (by kernel_rfl) (by rw [eq_self])) (oblC (shown_eq (v := .bool (eqF b b)) (by kernel_rfl) (by kernel_rfl) (by rw [eq_self]))
    (oblC (shown_eq (v := .bool (eqF e e)) (by kernel_rfl) (by kernel_rfl) (by rw [eq_self])) (oblC (shown_eq (v := .bool (eqF x x)) (by kernel_rfl) (by kernel_rfl) (by rw [eq_self]))
    (oblC (shown_eq (v := .bool (eqF y y)) (by kernel_rfl) (by kernel_rfl) (by rw [eq_self])) (oblC (shown_eq (v := .bool (eqF z z)) (by kernel_rfl) (by kernel_rfl) (by rw [eq_self])) oblN)))))) ?_
  exact Runs.now (x := .ret) (by kernel_rfl) ⟨.inr rfl, [.bool true], by kernel_rfl, rfl⟩

/-! ### No results -/
def nilT (L : Int) : Value := if inR L 0 12 then tupV 0 L 0 else tupV 0 0 1
def nilW (L : Int) : Value := if inR L 0 12 then tupV 0 0 13 else tupV 0 0 1
def nilRow (L : Int) : Bool := says (callA Tryd.prog works 1000 39 [.int .i64 L, .slice none 0 0] AH.empty) (nilT L) && says (callA Tryd.prog works 1000 42 [.int .i64 L, .slice none 0 0] AH.empty) (nilW L)
theorem nil_neg (k : Nat) : nilRow (.negSucc k) = true := by kernel_rfl
theorem nil_big (k : Nat) : nilRow (.ofNat (k + 13)) = true := by kernel_rfl
theorem nil_small : ((List.range 13).all fun m => nilRow (.ofNat m)) = true := by kernel_rfl
theorem nil_row (x : Int) : nilRow x = true := by
  cases x with
  | negSucc k => exact nil_neg k
  | ofNat m =>
    by_cases h : m < 13
    · exact List.all_eq_true.1 nil_small m (List.mem_range.2 h)
    · obtain ⟨k, rfl⟩ : ∃ k, m = k + 13 := ⟨m - 13, by omega⟩
      exact nil_big k

theorem nil39 (h : AH) (L : Int) : Says Tryd.prog h 39 [.int .i64 L, .slice none 0 0] (nilT L) h := by
  have hr := nil_row L
  simp only [nilRow, Bool.and_eq_true] at hr
  intro F w0 μ w args' H hl
  exact (local_says hk38 hr.1).closed (fun v hv => by simp only [List.mem_cons, List.mem_nil_iff, or_false] at hv; rcases hv with rfl | rfl <;> rfl) (by unfold nilT; split <;> rfl) h H hl
theorem nil42 (h : AH) (L : Int) : Says Tryd.prog h 42 [.int .i64 L, .slice none 0 0] (nilW L) h := by
  have hr := nil_row L
  simp only [nilRow, Bool.and_eq_true] at hr
  intro F w0 μ w args' H hl
  exact (local_says hk38 hr.2).closed (fun v hv => by simp only [List.mem_cons, List.mem_nil_iff, or_false] at hv; rcases hv with rfl | rfl <;> rfl) (by unfold nilW; split <;> rfl) h H hl

theorem known_says (L : Int) (n c : Nat) (f : Nat → Int) (g : Nat → Bool) (hn : n < 4611686018427387904) (hv : plainV (knownV L n f g) = true ∨ ∃ a b e, knownV L n f g = tupV a b e) : Says Tryd.prog (hp [resO n f g]) 38 [.int .i64 L, resV n c] (knownV L n f g) (hp [resO n f g]) :=
  says_of (os := [resO n f g]) (known_local L n c f g hn) (fun x hx => by
    simp only [List.mem_cons, List.mem_nil_iff, or_false] at hx
    rcases hx with rfl | rfl
    · exact clo_plain rfl
    · exact clo_of 10 1 _ (by kernel_rfl)) one_clo (by
      rcases hv with hv | ⟨a, b, e, hv⟩
      · exact clo_plain hv
      · rw [hv]; exact clo_of 10 1 _ (by kernel_rfl))

theorem known_tup (L : Int) (n : Nat) (f : Nat → Int) (g : Nat → Bool) : ∃ a b e, knownV L n f g = tupV a b e := by
  unfold knownV
  split
  · split
    · exact ⟨0, 0, 12, rfl⟩
    · exact ⟨_, _, 0, rfl⟩
  · exact ⟨0, 0, _, rfl⟩

theorem whyS_tup (C : Nat → Nat → Bool) (n : Nat) : ∀ d i, ∃ a b e, whyS C n d i = tupV a b e
  | 0, i => ⟨0, 0, 13, rfl⟩
  | d + 1, i => by
    unfold whyS
    split
    · exact ⟨_, _, 0, rfl⟩
    · exact whyS_tup C n d (i + 1)

theorem why_tup (L : Int) (n : Nat) (f : Nat → Int) (g : Nat → Bool) : ∃ a b e, whyV L n f g = tupV a b e := by
  unfold whyV
  split
  · exact whyS_tup _ n n 0
  · exact ⟨0, 0, _, rfl⟩

theorem why_says (L : Int) (n c : Nat) (hc : n ≤ c) (f : Nat → Int) (g : Nat → Bool) (hn : n < 4611686018427387904) : Says Tryd.prog (hp [resO n f g]) 41 [.int .i64 L, resV n c] (whyV L n f g) (hp [resO n f g]) :=
  says_of (os := [resO n f g]) (why_local L n c hc f g hn) (fun x hx => by
    simp only [List.mem_cons, List.mem_nil_iff, or_false] at hx
    rcases hx with rfl | rfl
    · exact clo_plain rfl
    · exact clo_of 10 1 _ (by kernel_rfl)) one_clo (by
      obtain ⟨a, b, e, hv⟩ := why_tup L n f g
      rw [hv]; exact clo_of 10 1 _ (by kernel_rfl))

theorem ref_args {L : Int} {n : Nat} : ∀ x ∈ [Value.int .i64 L, refV n], Clo 2 x := fun x hx => by
  simp only [List.mem_cons, List.mem_nil_iff, or_false] at hx
  rcases hx with rfl | rfl
  · exact clo_plain rfl
  · exact clo_of 10 2 _ (by kernel_rfl)

theorem results_runs (L : Int) (n c : Nat) (hc : n ≤ c) (f : Nat → Int) (g : Nat → Bool) :
    Runs Tryd.prog 1 c8 (entry Tryd.f8 [.int .i64 L, resV n c] (hp [resO n f g])) (EndsAs Tryd.prog Tryd.f8 fun v' _ => v' = .bool true) := by
  by_cases hbig : 40 < n
  · refine Runs.sqR mixed hk38 [] (by kernel_rfl) (by kernel_rfl) (by kernel_rfl) oblN ?_
    refine Runs.sq (by kernel_rfl) (Runs.sqR mixed hk38 [] (by kernel_rfl) (by kernel_rfl) (by kernel_rfl) oblN ?_)
    have ht : ltF (.ofNat 40) (.ofNat n) = true := lt_of hbig
    refine Runs.cd (b := ltF (.ofNat 40) (.ofNat n)) (by kernel_rfl) (fun _ => ?_) (fun hf => by rw [ht] at hf; cases hf)
    exact Runs.sqR mixed hk38 [] (by kernel_rfl) (by kernel_rfl) (by kernel_rfl) oblN (Runs.now (x := .ret) (by kernel_rfl) ⟨.inr rfl, [.bool true], by kernel_rfl, rfl⟩)
  have hn : n < 4611686018427387904 := by omega
  obtain ⟨a, b, e, hk⟩ := known_tup L n f g
  obtain ⟨x, y, z, hw⟩ := why_tup L n f g
  have S38 := known_says L n c f g hn (.inr ⟨a, b, e, hk⟩)
  rw [hk] at S38
  have S41 := why_says L n c hc f g hn
  rw [hw] at S41
  by_cases hz : n = 0
  · subst hz
    have e39 : nilT L = tupV a b e := by
      rw [← hk, ← known_same]
      unfold nilT refV39 toldV
      cases hi : inR L 0 12 with
      | true =>
        have h12 := hi
        simp only [inR, leF_eq, Bool.and_eq_true, decide_eq_true_eq] at h12
        have g1 : (0 : Int) ≤ L := h12.1
        have hS := refS_eq (n := 0) (f := f) (g := g) (lo := 0) (hi := L) (Int.le_refl 0) (L.toNat + 1) (fun h hh => ⟨fun _ => ⟨by omega, by omega⟩, fun _ => rfl⟩)
        have c1 : ¬ (((L.toNat + 1 : Nat) : Int) ≤ 0 ∨ L < 0) := by omega
        have c2 : (if L < ((L.toNat + 1 : Nat) : Int) - 1 then L else ((L.toNat + 1 : Nat) : Int) - 1) = L := by split <;> omega
        rw [if_neg c1, c2] at hS
        simp only [if_true]
        show _ = (if ltF (refS 0 f g (L.toNat + 1)).1 0 = true then _ else Value.tuple #[.int .i64 (refS 0 f g (L.toNat + 1)).1, .int .i64 (refS 0 f g (L.toNat + 1)).2, i64 0])
        rw [hS]
        rfl
      | false => rfl
    have e42 : nilW L = tupV x y z := by
      rw [← hw]
      unfold nilW whyV chkV
      rw [out_in]
      cases inR L 0 12 <;> rfl
    have S39 := nil39 (hp [resO 0 f g]) L
    rw [e39] at S39
    have S42 := nil42 (hp [resO 0 f g]) L
    rw [e42] at S42
    exact law8_runs L 0 c f g (.slice none 0 0) [resO 0 f g] (hp_get _ 0 _ rfl) (by rw [hp_next]; exact Nat.le_refl 1) a b e x y z S38 (inner_zero c f g) S39 S41 S42
  · have S39 : Says Tryd.prog (hp (rootR n f g)) 39 [.int .i64 L, refV n] (tupV a b e) (hp (rootR n f g)) := by
      have := says_of (os := rootR n f g) (ref39_local L n f g hn) ref_args rootR_clo (by rw [known_same, hk]; exact clo_of 10 2 _ (by kernel_rfl))
      rw [known_same, hk] at this
      exact this
    have S42 : Says Tryd.prog (hp (rootR n f g)) 42 [.int .i64 L, refV n] (tupV x y z) (hp (rootR n f g)) := by
      have := says_of (os := rootR n f g) (ref42_local L n f g hn) ref_args rootR_clo (by rw [why_same, hw]; exact clo_of 10 2 _ (by kernel_rfl))
      rw [why_same, hw] at this
      exact this
    exact law8_runs L n c f g (refV n) (rootR n f g) (hp_get _ 0 _ rfl) (by rw [hp_next]; exact (by decide : 1 ≤ 2)) a b e x y z S38 (inner_says n c (by omega) (by omega) f g) S39 S41 S42
end
end Go.Proofs.YtgnkjmgkfibipaaDoor

