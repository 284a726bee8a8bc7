/- TrialResults: the law's run, whatever the results are. -/
import Derived.Test.YtgnkjmgkfibipaaDoorKRes3
namespace Go.Proofs.YtgnkjmgkfibipaaDoor
set_option linter.unusedVariables false
set_option linter.unusedSimpArgs false
open Go Go.R
set_option maxRecDepth 1000000
noncomputable section

def c8 : Code := bodyOf Tryd.f8
def tupV (a b e : Int) : Value := .tuple #[.int .i64 a, .int .i64 b, .int .i64 e]

theorem eq_self (x : Int) : eqF x x = true := by rw [eqF_eq]; exact beq_self_eq_true x

def T8 (L : Int) (n c : Nat) (a b e : Int) : List (Nat × Value) := [(0, .int .i64 L), (1, resV n c), (5, .int .i64 a), (6, .int .i64 b), (7, .int .i64 e), (8, .int .i64 a), (9, .int .i64 b), (10, .int .i64 e)]
def U8 (a b e x y z : Int) : List (Nat × Value) := [(5, .int .i64 a), (6, .int .i64 b), (7, .int .i64 e), (8, .int .i64 a), (9, .int .i64 b), (10, .int .i64 e), (11, .int .i64 x), (12, .int .i64 y), (13, .int .i64 z), (14, .int .i64 x), (15, .int .i64 y), (16, .int .i64 z)]

theorem law8_runs (L : Int) (n c : Nat) (f : Nat → Int) (g : Nat → Bool) (inV : Value) (os1 : List AObj) (h0 : (hp os1).get 0 = resO n f g) (h1 : 1 ≤ (hp os1).next) (a b e x y z : Int)
    (S38 : Says Tryd.prog (hp [resO n f g]) 38 [.int .i64 L, resV n c] (tupV a b e) (hp [resO n f g]))
    (S40 : Says Tryd.prog (hp [resO n f g]) 40 [resV n c] inV (hp os1))
    (S39 : Says Tryd.prog (hp os1) 39 [.int .i64 L, inV] (tupV a b e) (hp os1))
    (S41 : Says Tryd.prog (hp [resO n f g]) 41 [.int .i64 L, resV n c] (tupV x y z) (hp [resO n f g]))
    (S42 : Says Tryd.prog (hp os1) 42 [.int .i64 L, inV] (tupV x y z) (hp os1))
    : Runs Tryd.prog 1 c8 (entry Tryd.f8 [.int .i64 L, resV n c] (hp [resO n f g])) (EndsAs Tryd.prog Tryd.f8 fun v' _ => v' = .bool true) := by
  have hb : Nat.ble 1 (hp os1).next = true := Nat.ble_eq_true_of_le h1
  refine Runs.sqR mixed hk38 [] (by kernel_rfl) (by kernel_rfl) (by kernel_rfl) oblN ?_
  refine Runs.sq (by kernel_rfl) (Runs.sqR mixed hk38 [] (by kernel_rfl) (by kernel_rfl) (by kernel_rfl) oblN ?_)
  refine Runs.cd (b := ltF (.ofNat 40) (.ofNat n)) (by kernel_rfl) (fun hc => ?_) (fun hc => Runs.now (x := .normal) (by kernel_rfl) ?_)
  · exact Runs.sqR mixed hk38 [] (by kernel_rfl) (by kernel_rfl) (by kernel_rfl) oblN (Runs.now (x := .ret) (by kernel_rfl) ⟨.inr rfl, [.bool true], by kernel_rfl, rfl⟩)
  show Runs Tryd.prog 1 _ _ _
  refine Runs.sqR mixed hk38 [viaC 2 38 [.int .i64 L, resV n c] (tupV a b e)] (by kernel_rfl) (by kernel_rfl) (by kernel_rfl) (oblC (shown_callE (by kernel_rfl) (by kernel_rfl) S38) oblN) ?_
  refine Runs.sqR mixed hk38 [viaH 2 40 [resV n c] inV (hp os1), viaC 3 39 [.int .i64 L, inV] (tupV a b e)] (by kernel_rfl) (by kernel_rfl) (by kernel_rfl) (oblC (shown_callHE (by kernel_rfl) (by kernel_rfl) S40) (oblC (shown_callE (by kernel_rfl) (by kernel_rfl) S39) oblN)) ?_
  have seen : ∀ (l : List (Nat × Value)) (af : AF), (∀ p ∈ l, Clo 1 p.2) → af.h = hp os1 → (l.map (·.1)).map af.tm.get = l.map (fun p => some p.2) → af.sz = 82 → Less 1 (sth l 82 [resO n f g]) af := by
    intro l af hl hh ht hs
    exact less_seenP hl one_clo (Nat.le_refl 1) ht hs (by rw [hh]; exact hb) (by show [af.h.get 0] = _; rw [hh, h0])
  refine Runs.less (seen (T8 L n c a b e) _ (clo_all (by kernel_rfl)) (by kernel_rfl) (by kernel_rfl) (by kernel_rfl)) ?_
  refine Runs.sqR mixed hk38 [viaC 2 41 [.int .i64 L, resV n c] (tupV x y z)] (by kernel_rfl) (by kernel_rfl) (by kernel_rfl) (oblC (shown_callE (by kernel_rfl) (by kernel_rfl) S41) oblN) ?_
  refine Runs.sqR mixed hk38 [viaH 2 40 [resV n c] inV (hp os1), viaC 3 42 [.int .i64 L, inV] (tupV x y z)] (by kernel_rfl) (by kernel_rfl) (by kernel_rfl) (oblC (shown_callHE (by kernel_rfl) (by kernel_rfl) S40) (oblC (shown_callE (by kernel_rfl) (by kernel_rfl) S42) oblN)) ?_
  refine Runs.less (seen (U8 a b e x y z) _ (clo_all (by kernel_rfl)) (by kernel_rfl) (by kernel_rfl) (by kernel_rfl)) ?_
  refine Runs.sqR mixed hk38 [viaV 2 (.bool true), viaV 6 (.bool true), viaV 11 (.bool true), viaV 16 (.bool true), viaV 21 (.bool true), viaV 26 (.bool true)] (by kernel_rfl) (by kernel_rfl) (by kernel_rfl)
    (oblC (shown_eq (v := .bool (eqF a a)) (by kernel_rfl) (by kernel_rfl) (by rw [eq_self])) (oblC (shown_eq (v := .bool (eqF b b)) (by kernel_rfl) (by kernel_rfl) (by rw [eq_self]))
    (oblC (shown_eq (v := .bool (eqF e e)) (by kernel_rfl) (by kernel_rfl) (by rw [eq_self])) (oblC (shown_eq (v := .bool (eqF x x)) (by kernel_rfl) (by kernel_rfl) (by rw [eq_self]))
    (oblC (shown_eq (v := .bool (eqF y y)) (by kernel_rfl) (by kernel_rfl) (by rw [eq_self])) (oblC (shown_eq (v := .bool (eqF z z)) (by kernel_rfl) (by kernel_rfl) (by rw [eq_self])) oblN)))))) ?_
  exact Runs.now (x := .ret) (by kernel_rfl) ⟨.inr rfl, [.bool true], by kernel_rfl, rfl⟩

/-! ### No results -/
def nilT (L : Int) : Value := if inR L 0 12 then tupV 0 L 0 else tupV 0 0 1
def nilW (L : Int) : Value := if inR L 0 12 then tupV 0 0 13 else tupV 0 0 1
def nilRow (L : Int) : Bool := says (callA Tryd.prog works 1000 39 [.int .i64 L, .slice none 0 0] AH.empty) (nilT L) && says (callA Tryd.prog works 1000 42 [.int .i64 L, .slice none 0 0] AH.empty) (nilW L)
theorem nil_neg (k : Nat) : nilRow (.negSucc k) = true := by kernel_rfl
theorem nil_big (k : Nat) : nilRow (.ofNat (k + 13)) = true := by kernel_rfl
theorem nil_small : ((List.range 13).all fun m => nilRow (.ofNat m)) = true := by kernel_rfl
theorem nil_row (x : Int) : nilRow x = true := by
  cases x with
  | negSucc k => exact nil_neg k
  | ofNat m =>
    by_cases h : m < 13
    · exact List.all_eq_true.1 nil_small m (List.mem_range.2 h)
    · obtain ⟨k, rfl⟩ : ∃ k, m = k + 13 := ⟨m - 13, by omega⟩
      exact nil_big k

theorem nil39 (h : AH) (L : Int) : Says Tryd.prog h 39 [.int .i64 L, .slice none 0 0] (nilT L) h := by
  have hr := nil_row L
  simp only [nilRow, Bool.and_eq_true] at hr
  intro F w0 μ w args' H hl
  exact (local_says hk38 hr.1).closed (fun v hv => by simp only [List.mem_cons, List.mem_nil_iff, or_false] at hv; rcases hv with rfl | rfl <;> rfl) (by unfold nilT; split <;> rfl) h H hl
theorem nil42 (h : AH) (L : Int) : Says Tryd.prog h 42 [.int .i64 L, .slice none 0 0] (nilW L) h := by
  have hr := nil_row L
  simp only [nilRow, Bool.and_eq_true] at hr
  intro F w0 μ w args' H hl
  exact (local_says hk38 hr.2).closed (fun v hv => by simp only [List.mem_cons, List.mem_nil_iff, or_false] at hv; rcases hv with rfl | rfl <;> rfl) (by unfold nilW; split <;> rfl) h H hl

theorem known_says (L : Int) (n c : Nat) (f : Nat → Int) (g : Nat → Bool) (hn : n < 4611686018427387904) (hv : plainV (knownV L n f g) = true ∨ ∃ a b e, knownV L n f g = tupV a b e) : Says Tryd.prog (hp [resO n f g]) 38 [.int .i64 L, resV n c] (knownV L n f g) (hp [resO n f g]) :=
  says_of (os := [resO n f g]) (known_local L n c f g hn) (fun x hx => by
    simp only [List.mem_cons, List.mem_nil_iff, or_false] at hx
    rcases hx with rfl | rfl
    · exact clo_plain rfl
    · exact clo_of 10 1 _ (by kernel_rfl)) one_clo (by
      rcases hv with hv | ⟨a, b, e, hv⟩
      · exact clo_plain hv
      · rw [hv]; exact clo_of 10 1 _ (by kernel_rfl))

theorem known_tup (L : Int) (n : Nat) (f : Nat → Int) (g : Nat → Bool) : ∃ a b e, knownV L n f g = tupV a b e := by
  unfold knownV
  split
  · split
    · exact ⟨0, 0, 12, rfl⟩
    · exact ⟨_, _, 0, rfl⟩
  · exact ⟨0, 0, _, rfl⟩

theorem whyS_tup (C : Nat → Nat → Bool) (n : Nat) : ∀ d i, ∃ a b e, whyS C n d i = tupV a b e
  | 0, i => ⟨0, 0, 13, rfl⟩
  | d + 1, i => by
    unfold whyS
    split
    · exact ⟨_, _, 0, rfl⟩
    · exact whyS_tup C n d (i + 1)

theorem why_tup (L : Int) (n : Nat) (f : Nat → Int) (g : Nat → Bool) : ∃ a b e, whyV L n f g = tupV a b e := by
  unfold whyV
  split
  · exact whyS_tup _ n n 0
  · exact ⟨0, 0, _, rfl⟩

theorem why_says (L : Int) (n c : Nat) (hc : n ≤ c) (f : Nat → Int) (g : Nat → Bool) (hn : n < 4611686018427387904) : Says Tryd.prog (hp [resO n f g]) 41 [.int .i64 L, resV n c] (whyV L n f g) (hp [resO n f g]) :=
  says_of (os := [resO n f g]) (why_local L n c hc f g hn) (fun x hx => by
    simp only [List.mem_cons, List.mem_nil_iff, or_false] at hx
    rcases hx with rfl | rfl
    · exact clo_plain rfl
    · exact clo_of 10 1 _ (by kernel_rfl)) one_clo (by
      obtain ⟨a, b, e, hv⟩ := why_tup L n f g
      rw [hv]; exact clo_of 10 1 _ (by kernel_rfl))

theorem ref_args {L : Int} {n : Nat} : ∀ x ∈ [Value.int .i64 L, refV n], Clo 2 x := fun x hx => by
  simp only [List.mem_cons, List.mem_nil_iff, or_false] at hx
  rcases hx with rfl | rfl
  · exact clo_plain rfl
  · exact clo_of 10 2 _ (by kernel_rfl)

theorem results_runs (L : Int) (n c : Nat) (hc : n ≤ c) (f : Nat → Int) (g : Nat → Bool) :
    Runs Tryd.prog 1 c8 (entry Tryd.f8 [.int .i64 L, resV n c] (hp [resO n f g])) (EndsAs Tryd.prog Tryd.f8 fun v' _ => v' = .bool true) := by
  by_cases hbig : 40 < n
  · refine Runs.sqR mixed hk38 [] (by kernel_rfl) (by kernel_rfl) (by kernel_rfl) oblN ?_
    refine Runs.sq (by kernel_rfl) (Runs.sqR mixed hk38 [] (by kernel_rfl) (by kernel_rfl) (by kernel_rfl) oblN ?_)
    have ht : ltF (.ofNat 40) (.ofNat n) = true := lt_of hbig
    refine Runs.cd (b := ltF (.ofNat 40) (.ofNat n)) (by kernel_rfl) (fun _ => ?_) (fun hf => by rw [ht] at hf; cases hf)
    exact Runs.sqR mixed hk38 [] (by kernel_rfl) (by kernel_rfl) (by kernel_rfl) oblN (Runs.now (x := .ret) (by kernel_rfl) ⟨.inr rfl, [.bool true], by kernel_rfl, rfl⟩)
  have hn : n < 4611686018427387904 := by omega
  obtain ⟨a, b, e, hk⟩ := known_tup L n f g
  obtain ⟨x, y, z, hw⟩ := why_tup L n f g
  have S38 := known_says L n c f g hn (.inr ⟨a, b, e, hk⟩)
  rw [hk] at S38
  have S41 := why_says L n c hc f g hn
  rw [hw] at S41
  by_cases hz : n = 0
  · subst hz
    have e39 : nilT L = tupV a b e := by
      rw [← hk, ← known_same]
      unfold nilT refV39 toldV
      cases hi : inR L 0 12 with
      | true =>
        have h12 := hi
        simp only [inR, leF_eq, Bool.and_eq_true, decide_eq_true_eq] at h12
        have g1 : (0 : Int) ≤ L := h12.1
        have hS := refS_eq (n := 0) (f := f) (g := g) (lo := 0) (hi := L) (Int.le_refl 0) (L.toNat + 1) (fun h hh => ⟨fun _ => ⟨by omega, by omega⟩, fun _ => rfl⟩)
        have c1 : ¬ (((L.toNat + 1 : Nat) : Int) ≤ 0 ∨ L < 0) := by omega
        have c2 : (if L < ((L.toNat + 1 : Nat) : Int) - 1 then L else ((L.toNat + 1 : Nat) : Int) - 1) = L := by split <;> omega
        rw [if_neg c1, c2] at hS
        simp only [if_true]
        show _ = (if ltF (refS 0 f g (L.toNat + 1)).1 0 = true then _ else Value.tuple #[.int .i64 (refS 0 f g (L.toNat + 1)).1, .int .i64 (refS 0 f g (L.toNat + 1)).2, i64 0])
        rw [hS]
        rfl
      | false => rfl
    have e42 : nilW L = tupV x y z := by
      rw [← hw]
      unfold nilW whyV chkV
      rw [out_in]
      cases inR L 0 12 <;> rfl
    have S39 := nil39 (hp [resO 0 f g]) L
    rw [e39] at S39
    have S42 := nil42 (hp [resO 0 f g]) L
    rw [e42] at S42
    exact law8_runs L 0 c f g (.slice none 0 0) [resO 0 f g] (hp_get _ 0 _ rfl) (by rw [hp_next]; exact Nat.le_refl 1) a b e x y z S38 (inner_zero c f g) S39 S41 S42
  · have S39 : Says Tryd.prog (hp (rootR n f g)) 39 [.int .i64 L, refV n] (tupV a b e) (hp (rootR n f g)) := by
      have := says_of (os := rootR n f g) (ref39_local L n f g hn) ref_args rootR_clo (by rw [known_same, hk]; exact clo_of 10 2 _ (by kernel_rfl))
      rw [known_same, hk] at this
      exact this
    have S42 : Says Tryd.prog (hp (rootR n f g)) 42 [.int .i64 L, refV n] (tupV x y z) (hp (rootR n f g)) := by
      have := says_of (os := rootR n f g) (ref42_local L n f g hn) ref_args rootR_clo (by rw [why_same, hw]; exact clo_of 10 2 _ (by kernel_rfl))
      rw [why_same, hw] at this
      exact this
    exact law8_runs L n c f g (refV n) (rootR n f g) (hp_get _ 0 _ rfl) (by rw [hp_next]; exact (by decide : 1 ≤ 2)) a b e x y z S38 (inner_says n c (by omega) (by omega) f g) S39 S41 S42
end
end Go.Proofs.YtgnkjmgkfibipaaDoor
