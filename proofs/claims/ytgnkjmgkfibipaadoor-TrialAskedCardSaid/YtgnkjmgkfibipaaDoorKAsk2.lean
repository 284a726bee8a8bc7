/- TrialAsked: the plain facts. -/
import Derived.Test.YtgnkjmgkfibipaaDoorKAsk1
import Derived.Test.YtgnkjmgkfibipaaDoorRVias

namespace Go.Proofs.YtgnkjmgkfibipaaDoor
set_option linter.unusedVariables false
set_option linter.unusedSimpArgs false
open Go Go.R
set_option maxRecDepth 1000000
noncomputable section

def Bounds (N m : Nat) (f : Nat → Int) : Prop := ∀ i, i < m → 1 ≤ f i ∧ f i ≤ (N : Int)

theorem chk_ok {N m : Nat} {f : Nat → Int} (hN : N < 13) (hm : m ≤ 20) (hf : Bounds N m f) : chkV (.ofNat N) m f = 0 := by
  have h1 : outB (.ofNat N) 0 12 = false := by
    rw [out_in]
    have : inR (.ofNat N) 0 12 = true := by
      simp only [inR, leF_eq, Bool.and_eq_true, decide_eq_true_eq]
      exact ⟨Int.natCast_nonneg N, show (N : Int) ≤ (12 : Nat) by omega⟩
    rw [this]; rfl
  have h2 : ltF (.ofNat 20) (.ofNat m) = false := by rw [ltF_eq, decide_eq_false_iff_not]; show ¬ ((20 : Nat) : Int) < (m : Int); omega
  have h3 : decide (firstP (badP f (Int.ofNat N).toNat) m m 0 < m) = false := by
    rw [decide_eq_false_iff_not]
    have : firstP (badP f (Int.ofNat N).toNat) m m 0 = m := firstP_none.2 fun j hj => by
      have := hf j hj
      simp only [badP, outB, ltF_eq, Bool.or_eq_false_iff, decide_eq_false_iff_not, Nat.zero_add]
      exact ⟨show ¬ f j < ((1 : Nat) : Int) by omega, show ¬ ((N : Nat) : Int) < f j by omega⟩
    omega
  unfold chkV
  rw [h1, h2, h3]
  rfl

theorem low_wit (f : Nat → Int) (g : Nat → Bool) : ∀ m, lowN f g m = 0 ∨ ∃ i, i < m ∧ g i = false ∧ lowN f g m = f i
  | 0 => .inl rfl
  | m + 1 => by
    have ih := low_wit f g m
    unfold lowN
    cases hg : g m with
    | true =>
      rw [if_pos rfl]
      rcases ih with h | ⟨i, h1, h2, h3⟩
      · exact .inl h
      · exact .inr ⟨i, by omega, h2, h3⟩
    | false =>
      rw [if_neg Bool.false_ne_true]
      unfold maxV
      split
      · exact .inr ⟨m, by omega, hg, rfl⟩
      · rcases ih with h | ⟨i, h1, h2, h3⟩
        · exact .inl h
        · exact .inr ⟨i, by omega, h2, h3⟩

theorem high_wit {N : Nat} (f : Nat → Int) (g : Nat → Bool) (hN : N < 13) : ∀ m, Bounds N m f → highN (.ofNat N) f g m = N ∨ ∃ i, i < m ∧ g i = true ∧ highN (.ofNat N) f g m = f i - 1
  | 0, _ => .inl rfl
  | m + 1, hf => by
    have ih := high_wit f g hN m (fun i hi => hf i (by omega))
    have hm := hf m (by omega)
    unfold highN
    cases hg : g m with
    | false =>
      rw [if_neg Bool.false_ne_true]
      rcases ih with h | ⟨i, h1, h2, h3⟩
      · exact .inl h
      · exact .inr ⟨i, by omega, h2, h3⟩
    | true =>
      rw [if_pos rfl, wrap_pred hm.1 (by omega)]
      unfold minV
      split
      · exact .inr ⟨m, by omega, hg, rfl⟩
      · rcases ih with h | ⟨i, h1, h2, h3⟩
        · exact .inl h
        · exact .inr ⟨i, by omega, h2, h3⟩

theorem con_symm (x : Int) (a : Bool) (y : Int) (b : Bool) : conB x a y b = conB y b x a := by
  unfold conB
  exact Bool.or_comm _ _

/-- No hardness agrees: two results contradict each other. -/
theorem pair_of {N m : Nat} {f : Nat → Int} {g : Nat → Bool} (hN : N < 13) (hf : Bounds N m f) (h : highN (.ofNat N) f g m < lowN f g m) : ∃ p q, p < q ∧ q < m ∧ conC f g p q = true := by
  have hw := high_wit f g hN m hf
  have lw := low_wit f g m
  have lo0 := low_nonneg f g m
  have hi0 : 0 ≤ highN (.ofNat N) f g m := by
    rcases hw with e | ⟨i, hi, _, e⟩
    · rw [e]; omega
    · have := hf i hi; omega
  rcases lw with e | ⟨i, hi, gi, e⟩
  · omega
  · have fi := hf i hi
    rcases hw with e2 | ⟨j, hj, gj, e2⟩
    · omega
    · have key : conB (f j) (g j) (f i) (g i) = true := by
        unfold conB
        rw [gi, gj, leF_eq]
        have : f j ≤ f i := by omega
        rw [decide_eq_true this]; rfl
      have hne : i ≠ j := fun e3 => by rw [e3, gj] at gi; cases gi
      rcases Nat.lt_or_gt_of_ne hne with a | a
      · exact ⟨i, j, a, hj, by unfold conC; rw [con_symm]; exact key⟩
      · exact ⟨j, i, a, hi, key⟩

/-- A hardness that agrees: no two do. -/
theorem none_of {m : Nat} {f : Nat → Int} {g : Nat → Bool} {h : Int} (ha : ∀ i, i < m → g i = decide (h < f i)) : ∀ p q, p < m → q < m → conC f g p q = false := by
  intro p q hp hq
  have h1 := ha p hp
  have h2 := ha q hq
  unfold conC conB
  rw [h1, h2, leF_eq, leF_eq]
  by_cases c1 : h < f p <;> by_cases c2 : h < f q <;> simp [c1, c2] <;> omega

theorem whyS_spec (C : Nat → Nat → Bool) (m : Nat) : ∀ d i, i + d = m → (whyS C m d i = tupV 0 0 13 ∧ ∀ p q, i ≤ p → p < q → q < m → C p q = false) ∨
    ∃ p q : Nat, i ≤ p ∧ p < q ∧ q < m ∧ C p q = true ∧ whyS C m d i = tupV (.ofNat p) (.ofNat q) 0 ∧ (∀ p' q', i ≤ p' → p' < p → p' < q' → q' < m → C p' q' = false) ∧ (∀ q', p < q' → q' < q → C p q' = false)
  | 0, i, h => .inl ⟨rfl, fun p q h1 h2 h3 => by omega⟩
  | d + 1, i, h => by
    unfold whyS
    rcases firstP_spec (C i) m (m - (i + 1)) (i + 1) (by omega) with ⟨h1, h2⟩ | ⟨h1, h2, h3, h4⟩
    · rw [if_neg (by omega)]
      rcases whyS_spec C m d (i + 1) (by omega) with ⟨e, hn⟩ | ⟨p, q, a1, a2, a3, a4, a5, a6, a7⟩
      · refine .inl ⟨e, fun p q b1 b2 b3 => ?_⟩
        rcases Nat.lt_or_ge i p with c | c
        · exact hn p q c b2 b3
        · rw [show p = i by omega]; exact h2 q (by omega) b3
      · refine .inr ⟨p, q, by omega, a2, a3, a4, a5, fun p' q' b1 b2 b3 b4 => ?_, a7⟩
        rcases Nat.lt_or_ge i p' with c | c
        · exact a6 p' q' c b2 b3 b4
        · rw [show p' = i by omega]; exact h2 q' (by omega) b4
    · rw [if_pos h1]
      exact .inr ⟨i, _, Nat.le_refl i, by omega, h1, h3, rfl, fun p' q' b1 b2 => by omega, fun q' b1 b2 => h4 q' (by omega) b2⟩

theorem low_le {N : Nat} (f : Nat → Int) (g : Nat → Bool) : ∀ m, Bounds N m f → lowN f g m ≤ N
  | m, hf => by
    rcases low_wit f g m with e | ⟨i, hi, _, e⟩
    · omega
    · have := hf i hi; omega

/-- What the hardnesses say: the ends of those that agree. -/
theorem ref_ends {nn m : Nat} {f : Nat → Int} {g : Nat → Bool} (hnn : nn < 12) (hf : Bounds (nn + 1) m f) :
    refS m f g (nn + 2) = if highN (.ofNat (nn + 1)) f g m < lowN f g m then (-1, -1) else (lowN f g m, highN (.ofNat (nn + 1)) f g m) := by
  have hlo := low_nonneg f g m
  have hhi := high_le (lv := nn + 1) f g m
  have hle := low_le f g m hf
  have hS := refS_eq (n := m) (f := f) (g := g) (lo := lowN f g m) (hi := highN (.ofNat (nn + 1)) f g m) hlo (nn + 2) (fun h hh => by
    have := low_high (show nn + 1 < 13 by omega) f g (h : Int) m hf
    rw [agr_iff, this]
    exact ⟨fun q => ⟨⟨by omega, by omega⟩, q⟩, fun q => q.2⟩)
  rw [hS]
  by_cases hc : highN (.ofNat (nn + 1)) f g m < lowN f g m
  · rw [if_pos (Or.inr hc), if_pos hc]
  · have c1 : ¬ (((nn + 2 : Nat) : Int) ≤ lowN f g m ∨ highN (.ofNat (nn + 1)) f g m < lowN f g m) := by omega
    have e : (if highN (.ofNat (nn + 1)) f g m < ((nn + 2 : Nat) : Int) - 1 then highN (.ofNat (nn + 1)) f g m else ((nn + 2 : Nat) : Int) - 1) = highN (.ofNat (nn + 1)) f g m := by split <;> omega
    rw [if_neg c1, if_neg hc, e]

theorem known_none {N m : Nat} {f : Nat → Int} {g : Nat → Bool} (hN : N < 13) (hm : m ≤ 20) (hf : Bounds N m f) (h : highN (.ofNat N) f g m < lowN f g m) : knownV (.ofNat N) m f g = tupV 0 0 12 := by
  unfold knownV
  have e1 : ltF (highN (.ofNat N) f g m) (lowN f g m) = true := by rw [ltF_eq, decide_eq_true_eq]; exact h
  rw [chk_ok hN hm hf, e1]
  rfl
theorem known_some {N m : Nat} {f : Nat → Int} {g : Nat → Bool} (hN : N < 13) (hm : m ≤ 20) (hf : Bounds N m f) (h : ¬ highN (.ofNat N) f g m < lowN f g m) : knownV (.ofNat N) m f g = tupV (lowN f g m) (highN (.ofNat N) f g m) 0 := by
  unfold knownV
  have e1 : ltF (highN (.ofNat N) f g m) (lowN f g m) = false := by rw [ltF_eq, decide_eq_false_iff_not]; exact h
  rw [chk_ok hN hm hf, e1]
  rfl
theorem why_chk {N m : Nat} {f : Nat → Int} {g : Nat → Bool} (hN : N < 13) (hm : m ≤ 20) (hf : Bounds N m f) : whyV (.ofNat N) m f g = whyS (conC f g) m m 0 := by
  have e : whyC f g = conC f g := by
    funext i j
    exact why_con (f i) (g i) (f j) (g j)
  unfold whyV
  rw [chk_ok hN hm hf, e]
  rfl

/-- What is known of the rest is no more. -/
theorem tail_known {N m : Nat} {f : Nat → Int} {g : Nat → Bool} (hN : N < 13) (hm : m + 1 ≤ 20) (hf : Bounds N (m + 1) f) (h : ¬ highN (.ofNat N) f g (m + 1) < lowN f g (m + 1)) :
    ∃ c d, knownV (.ofNat N) m (fun i => f (i + 1)) (fun i => g (i + 1)) = tupV c d 0 ∧ c ≤ lowN f g (m + 1) ∧ highN (.ofNat N) f g (m + 1) ≤ d := by
  have hf' : Bounds N m (fun i => f (i + 1)) := fun i hi => hf (i + 1) (by omega)
  have at_ : ∀ x : Int, lowN f g (m + 1) ≤ x → x ≤ highN (.ofNat N) f g (m + 1) → lowN (fun i => f (i + 1)) (fun i => g (i + 1)) m ≤ x ∧ x ≤ highN (.ofNat N) (fun i => f (i + 1)) (fun i => g (i + 1)) m := by
    intro x h1 h2
    have q := (low_high hN f g x (m + 1) hf).1 ⟨h1, h2⟩
    exact (low_high hN (fun i => f (i + 1)) (fun i => g (i + 1)) x m hf').2 ⟨q.1, fun i hi => q.2 (i + 1) (by omega)⟩
  have a1 := at_ (lowN f g (m + 1)) (by omega) (by omega)
  have a2 := at_ (highN (.ofNat N) f g (m + 1)) (by omega) (by omega)
  exact ⟨_, _, known_some hN (by omega) hf' (by omega), a1.1, a2.2⟩

/-- A level that is out of reach. -/
theorem more_known {N m : Nat} {f : Nat → Int} {g : Nat → Bool} (hN : N < 13) (hm : m + 1 ≤ 20) (hx : f m = (N : Int) + 1) : knownV (.ofNat N) (m + 1) f g = tupV 0 0 2 := by
  have h1 : outB (.ofNat N) 0 12 = false := by
    rw [out_in]
    have : inR (.ofNat N) 0 12 = true := by
      simp only [inR, leF_eq, Bool.and_eq_true, decide_eq_true_eq]
      exact ⟨Int.natCast_nonneg N, show (N : Int) ≤ (12 : Nat) by omega⟩
    rw [this]; rfl
  have h2 : ltF (.ofNat 20) (.ofNat (m + 1)) = false := by rw [ltF_eq, decide_eq_false_iff_not]; show ¬ ((20 : Nat) : Int) < ((m + 1 : Nat) : Int); omega
  have h3 : decide (firstP (badP f (Int.ofNat N).toNat) (m + 1) (m + 1) 0 < m + 1) = true := by
    rw [decide_eq_true_eq]
    rcases firstP_spec (badP f (Int.ofNat N).toNat) (m + 1) (m + 1) 0 (by omega) with ⟨e, hn⟩ | ⟨e, _⟩
    · have := hn m (Nat.zero_le m) (by omega)
      simp only [badP, outB, ltF_eq, Bool.or_eq_false_iff, decide_eq_false_iff_not, Nat.zero_add] at this
      have h4 : ¬ ((N : Nat) : Int) < f m := this.2
      omega
    · exact e
  have hk : chkV (.ofNat N) (m + 1) f = 2 := by
    unfold chkV
    rw [h1, h2, h3]
    rfl
  unfold knownV
  rw [hk]
  rfl
end
end Go.Proofs.YtgnkjmgkfibipaaDoor

/- TrialAsked: Known and Why at the law's own list, at its rest, at one result more. -/
namespace Go.Proofs.YtgnkjmgkfibipaaDoor
set_option linter.unusedVariables false
set_option linter.unusedSimpArgs false
open Go Go.R
set_option maxRecDepth 1000000
noncomputable section

theorem rowsF_len (n : Nat) (f : Nat → Int) (g : Nat → Bool) : (rowsF n f g).length = n * 2 := rows2_len _ _ n
theorem rowsF_ext {n : Nat} {f f' : Nat → Int} {g g' : Nat → Bool} (h : ∀ i, i < n → f i = f' i ∧ g i = g' i) : rowsF n f g = rowsF n f' g' := by
  unfold rowsF
  apply List.ext_getElem?
  intro k
  rw [rows2_get?, rows2_get?]
  by_cases hk : k < n * 2
  · have := h (k / 2) (by omega)
    rw [if_pos hk, if_pos hk, this.1, this.2]
  · rw [if_neg hk, if_neg hk]

/-- A reader of results, told at a slice over a whole row. -/
theorem own_says {fid : FuncId} {L : Int} {v : Value} {n i : Nat} {f : Nat → Int} {g : Nat → Bool} {h : AH} {par : List Nat} (hg : h.get i = .cells (rowsF n f g) true par (some 52)) (fv : flatV v = true)
    (Lc : ∀ cap, n ≤ cap → Local Tryd.prog 1 fid [.int .i64 L, resV n cap] (hp [resO n f g]) (Holds [resO n f g] v)) : Says Tryd.prog h fid [.int .i64 L, .slice (some ⟨i, 0, some 2⟩) n n] v h :=
  read_says (cells := rowsF n f g) (s := 1) hg (fun k u hk => by rw [Nat.zero_add]; exact hk) (by rw [rowsF_len]; omega) (rowsF_plain n f g) Lc (fun v' h' r => r.1) rfl fv

theorem known_own {L : Int} {n i : Nat} {f : Nat → Int} {g : Nat → Bool} {h : AH} {par : List Nat} {a b e : Int} (hn : n < 1000000) (hg : h.get i = .cells (rowsF n f g) true par (some 52)) (hk : knownV L n f g = tupV a b e) :
    Says Tryd.prog h 38 [.int .i64 L, .slice (some ⟨i, 0, some 2⟩) n n] (tupV a b e) h :=
  own_says hg rfl fun cap _ => by rw [← hk]; exact known_local L n cap f g (by omega)
theorem why_own {L : Int} {n i : Nat} {f : Nat → Int} {g : Nat → Bool} {h : AH} {par : List Nat} {a b e : Int} (hn : n < 1000000) (hg : h.get i = .cells (rowsF n f g) true par (some 52)) (hk : whyV L n f g = tupV a b e) :
    Says Tryd.prog h 41 [.int .i64 L, .slice (some ⟨i, 0, some 2⟩) n n] (tupV a b e) h :=
  own_says hg rfl fun cap hc => by rw [← hk]; exact why_local L n cap hc f g (by omega)

/-- The rest behind the first result. -/
theorem known_rest {L : Int} {n i : Nat} {f : Nat → Int} {g : Nat → Bool} {h : AH} {par : List Nat} {a b e : Int} (hn : n < 1000000) (hg : h.get i = .cells (rowsF (n + 1) f g) true par (some 52))
    (hk : knownV L n (fun i => f (i + 1)) (fun i => g (i + 1)) = tupV a b e) : Says Tryd.prog h 38 [.int .i64 L, .slice (some ⟨i, 2, some 2⟩) n n] (tupV a b e) h := by
  refine read_says (cells := rowsF n (fun i => f (i + 1)) (fun i => g (i + 1))) (s := 1) (R := Holds [resO n (fun i => f (i + 1)) (fun i => g (i + 1))] (tupV a b e)) hg (fun k u hk => ?_) (by rw [rowsF_len]; omega) (rowsF_plain _ _ _) (fun cap _ => ?_) (fun v' h' r => r.1) rfl rfl
  · unfold rowsF at hk ⊢
    rw [rows2_get?] at hk ⊢
    by_cases hlt : k < n * 2
    · rw [if_pos hlt] at hk
      rw [if_pos (by omega), ← hk]
      by_cases h2 : k % 2 = 0
      · rw [if_pos h2, if_pos (by omega), show (2 + k) / 2 = k / 2 + 1 by omega]
      · rw [if_neg h2, if_neg (by omega), show (2 + k) / 2 = k / 2 + 1 by omega]
    · rw [if_neg hlt] at hk; cases hk
  · rw [← hk]; exact known_local L n cap (fun i => f (i + 1)) (fun i => g (i + 1)) (by omega)

/-- Nothing behind the only one. -/
def rest0 : Value := .slice (some ⟨1, 0, some 0⟩) 0 0
theorem rest0_runs : ((List.range 13).all fun N => says (callA Tryd.prog works 1000 38 [i64 N, rest0] AH.empty) (tupV 0 (.ofNat N) 0)) = true := by kernel_rfl
theorem known_rest0 {N : Nat} (hN : N < 13) (h : AH) : Says Tryd.prog h 38 [i64 N, rest0] (tupV 0 (.ofNat N) 0) h := by
  have hr := List.all_eq_true.1 rest0_runs N (List.mem_range.2 hN)
  intro F w0 μ w args' H hl
  exact (local_says hk38 hr).framed (h2 := h) (fun v' h' r => ⟨r, fun i hi => by omega⟩) rfl (Nat.zero_le _) (fun i hi => by omega) (fun v hv => by
      simp only [List.mem_cons, List.mem_nil_iff, or_false] at hv
      rcases hv with rfl | rfl
      · exact clo_plain rfl
      · exact clo_of 10 0 _ (by kernel_rfl))
    (fun i hi => by omega) (fun i hi => by omega) (clo_of 10 0 _ (by kernel_rfl)) (fun i hi => by omega) rfl (fun _ _ => rfl) H hl

/-- The rest of the own list. -/
theorem rest_own (n : Nat) : sliceA Tryd.prog 42 (rowV2 (n + 2)) (some (i64 1)) none none = some (.slice (some ⟨1, 0 + 1 * 2, some 2⟩) (n + 1) (n + 1)) := by
  have e1 : Tryd.prog.underlying 42 = some (.slice 52) := by kernel_rfl
  obtain ⟨info, e2, e3⟩ : ∃ info, Tryd.prog.info? 52 = some info ∧ info.size = 2 := ⟨(Tryd.prog.info? 52).get!, by kernel_rfl, by kernel_rfl⟩
  have hb : boundsA (n + 2) (n + 2) (some (i64 1)) none none = some (1, n + 2, n + 2) := by
    unfold boundsA
    simp only [boundA]
    have q : (0 : Int) ≤ (Int.ofNat 1) ∧ (Int.ofNat 1) ≤ ((n + 2 : Nat) : Int) := ⟨Int.natCast_nonneg _, Int.ofNat_le.2 (by omega)⟩
    show (match (if (0 : Int) ≤ Int.ofNat 1 ∧ Int.ofNat 1 ≤ ((n + 2 : Nat) : Int) then some (Int.ofNat 1).toNat else none) with
      | none => none
      | some l => if n + 2 ≤ n + 2 then some (l, n + 2, n + 2) else none) = _
    rw [if_pos q]
    show (if n + 2 ≤ n + 2 then some (1, n + 2, n + 2) else none) = _
    rw [if_pos (Nat.le_refl _)]
  unfold rowV2 sliceA
  simp only [e1, e2, hb, e3, show (1 + 1 ≠ 2) = False by simp, if_false]
  rw [if_pos (by omega)]
  rfl
end
end Go.Proofs.YtgnkjmgkfibipaaDoor

/- TrialAsked: two results that contradict each other are looked for. -/
namespace Go.Proofs.YtgnkjmgkfibipaaDoor
set_option linter.unusedVariables false
set_option linter.unusedSimpArgs false
open Go Go.R
set_option maxRecDepth 1000000
noncomputable section

def armA : Code := thenOf (tl (hd (behind 9 c9)))
def lpA8 : Code := within (tl (hd (tl armA)))
def bd9 : Code := within (hd (tl (tl (within lpA8))))
def lpA10 : Code := within (tl (tl bd9))
def bd11 : Code := within (hd (tl (within lpA10)))

def SP (m ip jp p : Nat) : List (Nat × Value) := [(8, rowV2 m), (21, i64 ip), (22, i64 jp), (148, i64 m), (149, i64 p)]
def SQ (m ip jp p q : Nat) : List (Nat × Value) := [(8, rowV2 m), (21, i64 ip), (22, i64 jp), (148, i64 m), (149, i64 p), (24, i64 p), (25, i64 q)]
def SQ2 (m ip jp p q : Nat) : List (Nat × Value) := [(8, rowV2 m), (21, i64 ip), (22, i64 jp), (148, i64 m), (149, i64 p), (24, i64 p), (25, i64 q), (26, ptrV 2), (27, ptrV 3)]
theorem sp_clo {m ip jp p : Nat} : ∀ z ∈ SP m ip jp p, Clo 2 z.2 := clo_all (by kernel_rfl)
theorem sq_clo {m ip jp p q : Nat} : ∀ z ∈ SQ m ip jp p q, Clo 2 z.2 := clo_all (by kernel_rfl)
theorem sq2_clo {m ip jp p q : Nat} : ∀ z ∈ SQ2 m ip jp p q, Clo 4 z.2 := clo_all (by kernel_rfl)
def root4 (y : Nat → Nat) (m : Nat) (f : Nat → Int) (g : Nat → Bool) (x1 : Int) (b1 : Bool) (x2 : Int) (b2 : Bool) : List AObj := [byO y, rowO m f g, cellA x1 b1, cellA x2 b2]
theorem root4_clo {y : Nat → Nat} {m : Nat} {f : Nat → Int} {g : Nat → Bool} {x1 x2 : Int} {b1 b2 : Bool} : ∀ o ∈ root4 y m f g x1 b1 x2 b2, CloO 4 o := fun o ho => by
  have cell : ∀ (x : Int) (b : Bool), CloO 4 (cellA x b) := fun x b => cloO_plain (fun v hv => by simp only [List.mem_cons, List.mem_nil_iff, or_false] at hv; rcases hv with rfl | rfl <;> rfl) _ _
  simp only [root4, List.mem_cons, List.mem_nil_iff, or_false] at ho
  rcases ho with rfl | rfl | rfl | rfl
  · exact byO_clo 4 y
  · exact cloO_plain (rowsF_plain m f g) _ _
  · exact cell _ _
  · exact cell _ _

/-- The two cells under each other's numbers. -/
theorem twin_ren {m ip jp p q : Nat} {y : Nat → Nat} {f : Nat → Int} {g : Nat → Bool} {x1 x2 : Int} {b1 b2 : Bool} {k0 : Code} {Q : AExit → AF → Prop} {af : AF} (hsz : af.sz = 254)
    (tt : ((SQ2 m ip jp p q).map (·.1)).map af.tm.get = [some (rowV2 m), some (i64 ip), some (i64 jp), some (i64 m), some (i64 p), some (i64 p), some (i64 q), some (ptrV 3), some (ptrV 2)])
    (hh : (List.range 4).map af.h.get = root4 y m f g x2 b2 x1 b1) (h : Runs Tryd.prog 0 k0 (sth (SQ2 m ip jp p q) 254 (root4 y m f g x1 b1 x2 b2)) Q) : Runs Tryd.prog 0 k0 af Q := by
  have get : ∀ (i : Nat) (o : AObj), (root4 y m f g x2 b2 x1 b1)[i]? = some o → i < 4 → af.h.get i = o := by
    intro i o ho hi
    have := congrArg (fun l : List AObj => l[i]?) hh
    simp only [List.getElem?_map, List.getElem?_range hi, Option.map_some, ho, Option.some.injEq] at this
    exact this
  have tm : ∀ (i v : Nat), ((SQ2 m ip jp p q).map (·.1))[i]? = some v → ∀ u, ([some (rowV2 m), some (i64 ip), some (i64 jp), some (i64 m), some (i64 p), some (i64 p), some (i64 q), some (ptrV 3), some (ptrV 2)] : List (Option Value))[i]? = some (some u) → af.tm.get v = some u := by
    intro i v hv u hu
    have := congrArg (fun l : List (Option Value) => l[i]?) tt
    simp only [List.getElem?_map] at this
    rw [hu] at this
    simp only [List.getElem?_map] at hv
    cases hq : (SQ2 m ip jp p q)[i]? with
    | none => rw [hq] at hv; cases hv
    | some x =>
      rw [hq] at this hv
      cases hv
      simpa using this
  let ρ : Nat → Nat := swapN 2 3
  have ext : ∀ (l : List Value), (∀ v ∈ l, plainV v = true) → ∀ (k : Nat) u v, l[k]? = some u → l[k]? = some v → Ren ρ 4 u v := fun l hl k u v hu hv => by
    rw [hu] at hv
    cases hv
    exact Ren.plain (hl u (List.mem_of_getElem? hu))
  have cellp : ∀ (x : Int) (b : Bool), ∀ v ∈ [Value.int .i64 x, .bool b], plainV v = true := fun x b v hv => by
    simp only [List.mem_cons, List.mem_nil_iff, or_false] at hv
    rcases hv with rfl | rfl <;> rfl
  refine Runs.renum (l := SQ2 m ip jp p q) (os := root4 y m f g x1 b1 x2 b2) ρ hsz (Nat.zero_le 4) (fun j hj => absurd hj (Nat.not_lt_zero j)) (fun a b ha hb e => ?_) (fun z hz => ?_) (fun j o ho => ?_) (fun a b ha hb hne cs lv pr ty hg => ?_) h
  · rw [← swapN_inv 2 3 a, ← swapN_inv 2 3 b]
    exact congrArg (swapN 2 3) e
  · simp only [SQ2, List.mem_cons, List.mem_nil_iff, or_false] at hz
    rcases hz with rfl | rfl | rfl | rfl | rfl | rfl | rfl | rfl | rfl
    · exact ⟨rowV2 m, tm 0 8 rfl _ rfl, Ren.sliceU (show 1 < 4 by decide) rfl⟩
    · exact ⟨_, tm 1 21 rfl _ rfl, Ren.plain rfl⟩
    · exact ⟨_, tm 2 22 rfl _ rfl, Ren.plain rfl⟩
    · exact ⟨_, tm 3 148 rfl _ rfl, Ren.plain rfl⟩
    · exact ⟨_, tm 4 149 rfl _ rfl, Ren.plain rfl⟩
    · exact ⟨_, tm 5 24 rfl _ rfl, Ren.plain rfl⟩
    · exact ⟨_, tm 6 25 rfl _ rfl, Ren.plain rfl⟩
    · exact ⟨ptrV 3, tm 7 26 rfl _ rfl, Ren.ptr (show 2 < 4 by decide) rfl⟩
    · exact ⟨ptrV 2, tm 8 27 rfl _ rfl, Ren.ptr (show 3 < 4 by decide) rfl⟩
  · match j, ho with
    | 0, ho =>
      have : byO y = o := Option.some.inj ho
      subst this
      rw [show ρ 0 = 0 from rfl, get 0 (byO y) rfl (by decide)]
      exact ⟨rfl, ext _ (byL_plain y), fun _ => rfl, rfl, .inr rfl⟩
    | 1, ho =>
      have : rowO m f g = o := Option.some.inj ho
      subst this
      rw [show ρ 1 = 1 from rfl, get 1 (rowO m f g) rfl (by decide)]
      exact ⟨rfl, ext _ (rowsF_plain m f g), fun _ => rfl, rfl, .inr rfl⟩
    | 2, ho =>
      have : cellA x1 b1 = o := Option.some.inj ho
      subst this
      rw [show ρ 2 = 3 from rfl, get 3 (cellA x1 b1) rfl (by decide)]
      exact ⟨rfl, ext _ (cellp x1 b1), fun _ => rfl, rfl, .inr rfl⟩
    | 3, ho =>
      have : cellA x2 b2 = o := Option.some.inj ho
      subst this
      rw [show ρ 3 = 2 from rfl, get 2 (cellA x2 b2) rfl (by decide)]
      exact ⟨rfl, ext _ (cellp x2 b2), fun _ => rfl, rfl, .inr rfl⟩
    | j + 4, ho => simp [root4] at ho
  · have ha' : a < 4 := ha
    have np : pr = [] := by
      match a, ha' with
      | 0, _ => rw [show ρ 0 = 0 from rfl, get 0 (byO y) rfl (by decide)] at hg; cases hg; rfl
      | 1, _ => rw [show ρ 1 = 1 from rfl, get 1 (rowO m f g) rfl (by decide)] at hg; cases hg; rfl
      | 2, _ => rw [show ρ 2 = 3 from rfl, get 3 (cellA x1 b1) rfl (by decide)] at hg; cases hg; rfl
      | 3, _ => rw [show ρ 3 = 2 from rfl, get 2 (cellA x2 b2) rfl (by decide)] at hg; cases hg; rfl
      | a + 4, h => omega
    rw [np]
    exact List.not_mem_nil

def InPost (y : Nat → Nat) (m : Nat) (f : Nat → Int) (g : Nat → Bool) (ip jp p q : Nat) (x : AExit) (af : AF) : Prop :=
  (x = .exit 10 ∧ (∀ q', q ≤ q' → q' < m → conC f g p q' = false) ∧ Less 0 (sth (SP m ip jp p) 254 (rootQ y m f g)) af) ∨
  (x = .ret ∧ ∃ q', q ≤ q' ∧ q' < m ∧ conC f g p q' = true ∧ (∀ q2, q ≤ q2 → q2 < q' → conC f g p q2 = false) ∧ resultsA Tryd.prog af.tm af.h Tryd.f9.results.toList = some [.bool (Nat.beq ip p && Nat.beq jp q')])

theorem in_ask (y : Nat → Nat) (m : Nat) (hm : m < 1000000) (f : Nat → Int) (g : Nat → Bool) (ip jp p : Nat) (hp : p < m) : ∀ d q, q + d = m →
    Runs Tryd.prog 0 lpA10 (sth (SQ m ip jp p q) 254 (rootQ y m f g)) (InPost y m f g ip jp p q) := by
  intro d
  induction d with
  | zero =>
    intro q hq
    have him : q = m := by omega
    subst him
    refine Runs.lp (by kernel_rfl) (Runs.sq (by kernel_rfl) (Runs.sqR mixed hk38 [] (by kernel_rfl) (by kernel_rfl) (by kernel_rfl) oblN ?_))
    refine Runs.cd (b := ltF (.ofNat q) (.ofNat q)) (by kernel_rfl) (fun ht => by rw [lt_self] at ht; cases ht) (fun _ => Runs.now (x := .exit 10) (by kernel_rfl) (.inl ⟨rfl, fun q' h1 h2 => by omega, ?_⟩))
    exact less_seenP sp_clo rootQ_clo (Nat.zero_le 2) (by kernel_rfl) (by kernel_rfl) (by kernel_rfl) (by kernel_rfl)
  | succ d ih =>
    intro q hq
    have hlt : q < m := by omega
    refine Runs.lp (by kernel_rfl) (Runs.sq (by kernel_rfl) (Runs.sqR mixed hk38 [] (by kernel_rfl) (by kernel_rfl) (by kernel_rfl) oblN ?_))
    refine Runs.cd (b := ltF (.ofNat q) (.ofNat m)) (by kernel_rfl) (fun _ => Runs.now (x := .normal) (by kernel_rfl) ?_) (fun hf => by rw [lt_of hlt] at hf; cases hf)
    -- no such pair: the next one
    have miss : ∀ af, conC f g p q = false → Less 0 (sth (SQ m ip jp p q) 254 (rootQ y m f g)) af →
        Runs Tryd.prog 0 (tl (tl (within lpA10))) af (andThen (fun a => Runs Tryd.prog 0 lpA10 a (InPost y m f g ip jp p q)) (InPost y m f g ip jp p q)) := by
      intro af hc less
      refine Runs.less less (Runs.rg mixed hk38 [] (by kernel_rfl) (by kernel_rfl) (by kernel_rfl) oblN ?_)
      show Runs Tryd.prog 0 lpA10 _ _
      have ew : SQ m ip jp p (q + 1) = [(8, rowV2 m), (21, i64 ip), (22, i64 jp), (148, i64 m), (149, i64 p), (24, i64 p), (25, .int .i64 (wrapF .i64 (Int.add (.ofNat q) (.ofNat 1))))] := by
        rw [wrap_succ (by omega : q < 4611686018427387904)]; rfl
      refine Runs.less (af1 := sth (SQ m ip jp p (q + 1)) 254 (rootQ y m f g)) ?_ ((ih (q + 1) (by omega)).mono fun x af hx => ?_)
      · rw [ew]
        exact less_seenP (clo_all (by kernel_rfl)) rootQ_clo (Nat.zero_le 2) (by kernel_rfl) (by kernel_rfl) (by kernel_rfl) (by kernel_rfl)
      · have up : ∀ q', q ≤ q' → (q' = q ∨ q + 1 ≤ q') := fun q' h => by omega
        rcases hx with ⟨e, hn, l⟩ | ⟨e, q', h1, h2, h3, h4, h5⟩
        · refine .inl ⟨e, fun q' a b => ?_, l⟩
          rcases up q' a with rfl | a'
          · exact hc
          · exact hn q' a' b
        · refine .inr ⟨e, q', by omega, h2, h3, fun q2 a b => ?_, h5⟩
          rcases up q2 a with rfl | a'
          · exact hc
          · exact h4 q2 a' b
    -- a pair: is it the one that was told
    have hit : ∀ (af : AF) (Q : AExit → AF → Prop), conC f g p q = true → Less 0 (sth (SQ m ip jp p q) 254 (rootQ y m f g)) af → (∀ af, InPost y m f g ip jp p q .ret af → Q .ret af) →
        Runs Tryd.prog 0 (thenOf (tl (tl (tl bd11)))) af Q := by
      intro af Q hc less hQ
      have out : ∀ af, resultsA Tryd.prog af.tm af.h Tryd.f9.results.toList = some [.bool (Nat.beq ip p && Nat.beq jp q)] → Q .ret af := fun af hr => hQ af (.inr ⟨rfl, q, Nat.le_refl q, hlt, hc, fun q2 a b => by omega, hr⟩)
      refine Runs.less less ?_
      cases h1 : Nat.beq ip p with
      | false =>
        rw [h1] at out
        exact Runs.sqR mixed hk38 [viaV 2 (.bool false)] (by kernel_rfl) (by kernel_rfl) (by kernel_rfl) (oblC (shown_eq (v := .bool (Nat.beq ip p)) (by kernel_rfl) (by kernel_rfl) (by rw [h1])) oblN) (Runs.now (x := .ret) (by kernel_rfl) (out _ (by kernel_rfl)))
      | true => cases h2 : Nat.beq jp q with
        | false =>
          rw [h1, h2] at out
          exact Runs.sqR mixed hk38 [viaV 2 (.bool true), viaV 6 (.bool false)] (by kernel_rfl) (by kernel_rfl) (by kernel_rfl) (oblC (shown_eq (v := .bool (Nat.beq ip p)) (by kernel_rfl) (by kernel_rfl) (by rw [h1]))
            (oblC (shown_eq (v := .bool (Nat.beq jp q)) (by kernel_rfl) (by kernel_rfl) (by rw [h2])) oblN)) (Runs.now (x := .ret) (by kernel_rfl) (out _ (by kernel_rfl)))
        | true =>
          rw [h1, h2] at out
          exact Runs.sqR mixed hk38 [viaV 2 (.bool true), viaV 6 (.bool true)] (by kernel_rfl) (by kernel_rfl) (by kernel_rfl) (oblC (shown_eq (v := .bool (Nat.beq ip p)) (by kernel_rfl) (by kernel_rfl) (by rw [h1]))
            (oblC (shown_eq (v := .bool (Nat.beq jp q)) (by kernel_rfl) (by kernel_rfl) (by rw [h2])) oblN)) (Runs.now (x := .ret) (by kernel_rfl) (out _ (by kernel_rfl)))
    show Runs Tryd.prog 0 _ _ _
    refine Runs.sq (by kernel_rfl) (Runs.bk (id := 11) (by kernel_rfl) ?_)
    have hcon : conC f g p q = conB (f p) (g p) (f q) (g q) := rfl
    obtain ⟨b1, e1⟩ : ∃ b1, g p = b1 := ⟨_, rfl⟩
    obtain ⟨b2, e2⟩ : ∃ b2, g q = b2 := ⟨_, rfl⟩
    rw [e1, e2] at hcon
    have r1 : ∀ {h : AH}, h.get 1 = rowO m f g → rowAt? h 1 (0 + p * 2) 2 = some [.int .i64 (f p), .bool b1] := fun hg => by rw [row_own hg hp, e1]
    have r2 : ∀ {h : AH}, h.get 1 = rowO m f g → rowAt? h 1 (0 + q * 2) 2 = some [.int .i64 (f q), .bool b2] := fun hg => by rw [row_own hg hlt, e2]
    let Q1 : AExit → AF → Prop := andThen (fun a => Runs Tryd.prog 0 lpA10 a (InPost y m f g ip jp p q)) (InPost y m f g ip jp p q)
    let Q2 : AExit → AF → Prop := caught 11 (andThen (fun a => Runs Tryd.prog 0 (tl (tl (within lpA10))) a Q1) Q1)
    have body : Runs Tryd.prog 0 (tl bd11) (sth (SQ2 m ip jp p q) 254 (root4 y m f g (f p) b1 (f q) b2)) Q2 := by
      cases b1 with
      | true => cases b2 with
        | true =>
          refine Runs.sq (by kernel_rfl) (Runs.sqR mixed hk38 [] (by kernel_rfl) (by kernel_rfl) (by kernel_rfl) oblN (Runs.cd (b := true) (by kernel_rfl) (fun _ => Runs.rg mixed hk38 [] (by kernel_rfl) (by kernel_rfl) (by kernel_rfl) oblN ?_) (fun h => by cases h)))
          show Runs Tryd.prog 0 _ _ _
          refine Runs.sqR mixed hk38 [] (by kernel_rfl) (by kernel_rfl) (by kernel_rfl) oblN (Runs.cd (b := false) (by kernel_rfl) (fun h => by cases h) (fun _ => Runs.now (x := .normal) (by kernel_rfl) ?_))
          exact miss _ hcon (less_seenP sq_clo rootQ_clo (Nat.zero_le 2) (by kernel_rfl) (by kernel_rfl) (by kernel_rfl) (by kernel_rfl))
        | false =>
          refine Runs.sq (by kernel_rfl) (Runs.sqR mixed hk38 [] (by kernel_rfl) (by kernel_rfl) (by kernel_rfl) oblN (Runs.cd (b := false) (by kernel_rfl) (fun h => by cases h) (fun _ => Runs.now (x := .normal) (by kernel_rfl) ?_)))
          show Runs Tryd.prog 0 _ _ _
          have hcon' : conC f g p q = leF (f p) (f q) := by rw [hcon]; unfold conB; simp
          refine Runs.sqR mixed hk38 [] (by kernel_rfl) (by kernel_rfl) (by kernel_rfl) oblN (Runs.cd (b := leF (f p) (f q)) (by kernel_rfl) (fun hb => ?_) (fun hb => Runs.now (x := .normal) (by kernel_rfl) ?_))
          · exact hit _ _ (hcon'.trans hb) (less_seenP sq_clo rootQ_clo (Nat.zero_le 2) (by kernel_rfl) (by kernel_rfl) (by kernel_rfl) (by kernel_rfl)) (fun af h => h)
          · exact miss _ (hcon'.trans hb) (less_seenP sq_clo rootQ_clo (Nat.zero_le 2) (by kernel_rfl) (by kernel_rfl) (by kernel_rfl) (by kernel_rfl))
      | false => cases b2 with
        | true =>
          refine Runs.sq (by kernel_rfl) (Runs.sqR mixed hk38 [] (by kernel_rfl) (by kernel_rfl) (by kernel_rfl) oblN (Runs.cd (b := true) (by kernel_rfl) (fun _ => Runs.rg mixed hk38 [] (by kernel_rfl) (by kernel_rfl) (by kernel_rfl) oblN ?_) (fun h => by cases h)))
          show Runs Tryd.prog 0 _ _ _
          have hcon' : conC f g p q = leF (f q) (f p) := by rw [hcon]; unfold conB; simp
          refine Runs.sqR mixed hk38 [] (by kernel_rfl) (by kernel_rfl) (by kernel_rfl) oblN (Runs.cd (b := leF (f q) (f p)) (by kernel_rfl) (fun hb => ?_) (fun hb => Runs.now (x := .normal) (by kernel_rfl) ?_))
          · exact hit _ _ (hcon'.trans hb) (less_seenP sq_clo rootQ_clo (Nat.zero_le 2) (by kernel_rfl) (by kernel_rfl) (by kernel_rfl) (by kernel_rfl)) (fun af h => h)
          · exact miss _ (hcon'.trans hb) (less_seenP sq_clo rootQ_clo (Nat.zero_le 2) (by kernel_rfl) (by kernel_rfl) (by kernel_rfl) (by kernel_rfl))
        | false =>
          refine Runs.sq (by kernel_rfl) (Runs.sqR mixed hk38 [] (by kernel_rfl) (by kernel_rfl) (by kernel_rfl) oblN (Runs.cd (b := false) (by kernel_rfl) (fun h => by cases h) (fun _ => Runs.now (x := .normal) (by kernel_rfl) ?_)))
          show Runs Tryd.prog 0 _ _ _
          refine Runs.sqR mixed hk38 [] (by kernel_rfl) (by kernel_rfl) (by kernel_rfl) oblN (Runs.cd (b := false) (by kernel_rfl) (fun h => by cases h) (fun _ => Runs.now (x := .normal) (by kernel_rfl) ?_))
          exact miss _ hcon (less_seenP sq_clo rootQ_clo (Nat.zero_le 2) (by kernel_rfl) (by kernel_rfl) (by kernel_rfl) (by kernel_rfl))
    refine Runs.sq (by kernel_rfl) (Runs.tw (x := 8) (y := 9) mixed (by kernel_rfl) (by kernel_rfl) ?_ ?_)
    · refine RunsAny.rg hk38 [viaV 2 (.pointer (some ⟨1, 0 + p * 2, none⟩)), viaV 3 (agV (f p) b1), viaV 6 (.pointer (some ⟨1, 0 + q * 2, none⟩)), viaV 7 (agV (f q) b2)] [(3, 9), (3, 10), (7, 9), (7, 10), (7, 11)] (by kernel_rfl) (by kernel_rfl) (by kernel_rfl) (by kernel_rfl)
          (oblC (shown_idx (n := m) (by kernel_rfl) hp) (oblC (shown_agg (sz := 2) (l := [.int .i64 (f p), .bool b1]) (by kernel_rfl) (r1 (by kernel_rfl)))
          (oblC (shown_idx (n := m) (by kernel_rfl) hlt) (oblC (shown_agg (sz := 2) (l := [.int .i64 (f q), .bool b2]) (by kernel_rfl) (r2 (by kernel_rfl))) oblN))))
          (dynC (dyn_agg (sz := 2) (d := 163) (l := [.int .i64 (f p), .bool b1]) (by kernel_rfl) (r1 (by kernel_rfl)) (by kernel_rfl) (by kernel_rfl))
          (dynC (dyn_agg (sz := 2) (d := 163) (l := [.int .i64 (f p), .bool b1]) (by kernel_rfl) (r1 (by kernel_rfl)) (by kernel_rfl) (by kernel_rfl))
          (dynC (dyn_agg (sz := 2) (d := 167) (l := [.int .i64 (f q), .bool b2]) (by kernel_rfl) (r2 (by kernel_rfl)) (by kernel_rfl) (by kernel_rfl))
          (dynC (dyn_agg (sz := 2) (d := 167) (l := [.int .i64 (f q), .bool b2]) (by kernel_rfl) (r2 (by kernel_rfl)) (by kernel_rfl) (by kernel_rfl))
          (dynC (dyn_agg (sz := 2) (d := 167) (l := [.int .i64 (f q), .bool b2]) (by kernel_rfl) (r2 (by kernel_rfl)) (by kernel_rfl) (by kernel_rfl)) dynN))))) ?_
      exact Runs.less (af1 := sth (SQ2 m ip jp p q) 254 (root4 y m f g (f p) b1 (f q) b2)) (less_seenP sq2_clo root4_clo (Nat.zero_le 4) (by kernel_rfl) (by kernel_rfl) (by kernel_rfl) (by kernel_rfl)) body
    · refine RunsAny.rg hk38 [viaV 2 (.pointer (some ⟨1, 0 + p * 2, none⟩)), viaV 3 (agV (f p) b1), viaV 6 (.pointer (some ⟨1, 0 + q * 2, none⟩)), viaV 7 (agV (f q) b2)] [(3, 9), (3, 10), (7, 9), (7, 10), (7, 11)] (by kernel_rfl) (by kernel_rfl) (by kernel_rfl) (by kernel_rfl)
          (oblC (shown_idx (n := m) (by kernel_rfl) hp) (oblC (shown_agg (sz := 2) (l := [.int .i64 (f p), .bool b1]) (by kernel_rfl) (r1 (by kernel_rfl)))
          (oblC (shown_idx (n := m) (by kernel_rfl) hlt) (oblC (shown_agg (sz := 2) (l := [.int .i64 (f q), .bool b2]) (by kernel_rfl) (r2 (by kernel_rfl))) oblN))))
          (dynC (dyn_agg (sz := 2) (d := 163) (l := [.int .i64 (f p), .bool b1]) (by kernel_rfl) (r1 (by kernel_rfl)) (by kernel_rfl) (by kernel_rfl))
          (dynC (dyn_agg (sz := 2) (d := 163) (l := [.int .i64 (f p), .bool b1]) (by kernel_rfl) (r1 (by kernel_rfl)) (by kernel_rfl) (by kernel_rfl))
          (dynC (dyn_agg (sz := 2) (d := 167) (l := [.int .i64 (f q), .bool b2]) (by kernel_rfl) (r2 (by kernel_rfl)) (by kernel_rfl) (by kernel_rfl))
          (dynC (dyn_agg (sz := 2) (d := 167) (l := [.int .i64 (f q), .bool b2]) (by kernel_rfl) (r2 (by kernel_rfl)) (by kernel_rfl) (by kernel_rfl))
          (dynC (dyn_agg (sz := 2) (d := 167) (l := [.int .i64 (f q), .bool b2]) (by kernel_rfl) (r2 (by kernel_rfl)) (by kernel_rfl) (by kernel_rfl)) dynN))))) ?_
      exact twin_ren (by kernel_rfl) (by kernel_rfl) (by kernel_rfl) body

def OutPost (m : Nat) (f : Nat → Int) (g : Nat → Bool) (ip jp p : Nat) (x : AExit) (af : AF) : Prop :=
  (x = .exit 8 ∧ ∀ p' q', p ≤ p' → p' < q' → q' < m → conC f g p' q' = false) ∨
  (x = .ret ∧ ∃ p' q', p ≤ p' ∧ p' < q' ∧ q' < m ∧ conC f g p' q' = true ∧ (∀ p2 q2, p ≤ p2 → p2 < p' → p2 < q2 → q2 < m → conC f g p2 q2 = false) ∧ (∀ q2, p' < q2 → q2 < q' → conC f g p' q2 = false) ∧
    resultsA Tryd.prog af.tm af.h Tryd.f9.results.toList = some [.bool (Nat.beq ip p' && Nat.beq jp q')])

theorem out_ask (y : Nat → Nat) (m : Nat) (hm : m < 1000000) (f : Nat → Int) (g : Nat → Bool) (ip jp : Nat) : ∀ d p, p + d = m →
    Runs Tryd.prog 0 lpA8 (sth (SP m ip jp p) 254 (rootQ y m f g)) (OutPost m f g ip jp p) := by
  intro d
  induction d with
  | zero =>
    intro p hp
    have him : p = m := by omega
    subst him
    refine Runs.lp (by kernel_rfl) (Runs.sqR mixed hk38 [] (by kernel_rfl) (by kernel_rfl) (by kernel_rfl) oblN (Runs.sq (by kernel_rfl) ?_))
    refine Runs.cd (b := ltF (.ofNat p) (.ofNat p)) (by kernel_rfl) (fun ht => by rw [lt_self] at ht; cases ht) (fun _ => Runs.now (x := .exit 8) (by kernel_rfl) (.inl ⟨rfl, fun p' q' h1 h2 h3 => by omega⟩))
  | succ d ih =>
    intro p hp
    have hlt : p < m := by omega
    refine Runs.lp (by kernel_rfl) (Runs.sqR mixed hk38 [] (by kernel_rfl) (by kernel_rfl) (by kernel_rfl) oblN (Runs.sq (by kernel_rfl) ?_))
    refine Runs.cd (b := ltF (.ofNat p) (.ofNat m)) (by kernel_rfl) (fun _ => Runs.now (x := .normal) (by kernel_rfl) ?_) (fun hf => by rw [lt_of hlt] at hf; cases hf)
    show Runs Tryd.prog 0 _ _ _
    have w1 : wrapF .i64 (Int.add (.ofNat p) (.ofNat 1)) = .ofNat (p + 1) := wrap_succ (by omega)
    refine Runs.sq (by kernel_rfl) (Runs.bk (id := 9) (by kernel_rfl) ?_)
    refine Runs.sqR mixed hk38 [] (by kernel_rfl) (by kernel_rfl) (by kernel_rfl) oblN ?_
    refine Runs.sqR mixed hk38 [viaV 1 (i64 (p + 1))] (by kernel_rfl) (by kernel_rfl) (by kernel_rfl) (oblC (shown_eq (v := .int .i64 (wrapF .i64 (Int.add (.ofNat p) (.ofNat 1)))) (by kernel_rfl) (by kernel_rfl) (by rw [w1]; rfl)) oblN) ?_
    refine Runs.bk (id := 10) (by kernel_rfl) ?_
    refine Runs.less (af1 := sth (SQ m ip jp p (p + 1)) 254 (rootQ y m f g)) (less_seenP sq_clo rootQ_clo (Nat.zero_le 2) (by kernel_rfl) (by kernel_rfl) (by kernel_rfl) (by kernel_rfl)) ?_
    refine (in_ask y m hm f g ip jp p hlt (m - (p + 1)) (p + 1) (by omega)).mono fun x af hx => ?_
    rcases hx with ⟨rfl, hn, less⟩ | ⟨rfl, q', h1, h2, h3, h4, h5⟩
    · show Runs Tryd.prog 0 _ af _
      refine Runs.less less (Runs.rg mixed hk38 [] (by kernel_rfl) (by kernel_rfl) (by kernel_rfl) oblN ?_)
      show Runs Tryd.prog 0 lpA8 _ _
      have ew : SP m ip jp (p + 1) = [(8, rowV2 m), (21, i64 ip), (22, i64 jp), (148, i64 m), (149, .int .i64 (wrapF .i64 (Int.add (.ofNat p) (.ofNat 1))))] := by rw [w1]; rfl
      refine Runs.less (af1 := sth (SP m ip jp (p + 1)) 254 (rootQ y m f g)) ?_ ((ih (p + 1) (by omega)).mono fun x af hx => ?_)
      · rw [ew]
        exact less_seenP (clo_all (by kernel_rfl)) rootQ_clo (Nat.zero_le 2) (by kernel_rfl) (by kernel_rfl) (by kernel_rfl) (by kernel_rfl)
      · have here : ∀ p' q', p ≤ p' → p' < q' → q' < m → (p + 1 ≤ p' → conC f g p' q' = false) → conC f g p' q' = false := by
          intro p' q' a b c h
          rcases Nat.lt_or_ge p p' with k | k
          · exact h k
          · rw [show p' = p by omega]; exact hn q' (by omega) c
        rcases hx with ⟨e, hno⟩ | ⟨e, p', q', a1, a2, a3, a4, a5, a6, a7⟩
        · exact .inl ⟨e, fun p' q' b1 b2 b3 => here p' q' b1 b2 b3 fun k => hno p' q' k b2 b3⟩
        · exact .inr ⟨e, p', q', by omega, a2, a3, a4, fun p2 q2 b1 b2 b3 b4 => here p2 q2 b1 b3 b4 fun k => a5 p2 q2 k b2 b3 b4, a6, a7⟩
    · exact .inr ⟨rfl, p, q', Nat.le_refl p, by omega, h2, h3, fun p2 q2 b1 b2 => by omega, fun q2 b1 b2 => h4 q2 (by omega) b2, h5⟩
end
end Go.Proofs.YtgnkjmgkfibipaaDoor

/- TrialAsked: the law's last part. -/
namespace Go.Proofs.YtgnkjmgkfibipaaDoor
set_option linter.unusedVariables false
set_option linter.unusedSimpArgs false
open Go Go.R
set_option maxRecDepth 1000000
noncomputable section

def Ends9 : AExit → AF → Prop := EndsAs Tryd.prog Tryd.f9 fun v' _ => v' = .bool true

/-- One result more, of a level out of reach. -/
theorem ask_more (nn m : Nat) (hnn : nn < 12) (hm : m < 20) (y : Nat → Nat) (f : Nat → Int) (g : Nat → Bool) :
    Runs Tryd.prog 0 (behind 12 c9) (sth (S3 nn m) 254 (rootQ y m f g)) Ends9 := by
  let x : Value := .int .i64 (.ofNat (nn + 2))
  let z : Value := .bool false
  let f2 : Nat → Int := fun i => if i = m then .ofNat (nn + 2) else f i
  let g2 : Nat → Bool := fun i => if i = m then false else g i
  have er : rowsF m f g ++ [x, z] = rowsF (m + 1) f2 g2 := by
    rw [← rowsF_succ]
    have e1 : f2 m = .ofNat (nn + 2) := if_pos rfl
    have e2 : g2 m = false := if_pos rfl
    rw [e1, e2, rowsF_ext (f := f) (f' := f2) (g := g) (g' := g2) fun i hi => ⟨(if_neg (by omega)).symm, (if_neg (by omega)).symm⟩]
  let Hp : AH := ((hp (rootQ y m f g)).new (.cells [x, z] true [] (some 52))).2
  let Hn : AH := ((Hp.put 1 (.cells (rowsF m f g) false [] (some 52))).new (.cells (rowsF m f g ++ [x, z]) true [1] (some 52))).2
  have hap : appendA Tryd.prog #[42, 42] (rowV2 m) (.slice (some ⟨2, 0, none⟩) 1 1) Hp = some (.slice (some ⟨3, 0, some 2⟩) (m + 1) (m + 1), Hn) :=
    append_own (x := x) (y := z) (by omega) rfl rfl (by kernel_rfl) (by kernel_rfl)
  have hg3 : Hn.get 3 = .cells (rowsF (m + 1) f2 g2) true [1] (some 52) := by
    rw [← er]
    kernel_rfl
  have hS : Says Tryd.prog Hn 38 [i64 (nn + 1), .slice (some ⟨3, 0, some 2⟩) (m + 1) (m + 1)] (tupV 0 0 2) Hn :=
    known_own (by omega) hg3 (more_known (N := nn + 1) (by omega) (by omega) (show f2 m = ((nn + 1 : Nat) : Int) + 1 from (if_pos rfl)))
  refine Runs.sqR mixed hk38 [viaV 3 (i64 (nn + 2)), ⟨6, .slice (some ⟨3, 0, some 2⟩) (m + 1) (m + 1), some Hn, none⟩, viaC 7 38 [i64 (nn + 1), .slice (some ⟨3, 0, some 2⟩) (m + 1) (m + 1)] (tupV 0 0 2)] (by kernel_rfl) (by kernel_rfl) (by kernel_rfl)
    (oblC (shown_eq (v := .int .i64 (wrapF .i64 (Int.add (.ofNat (nn + 1)) (.ofNat 1)))) (by kernel_rfl) (by kernel_rfl) (by rw [f_add (by omega)]; rfl))
      (oblC ⟨by kernel_rfl, (show _ = appendA Tryd.prog #[42, 42] (rowV2 m) (.slice (some ⟨2, 0, none⟩) 1 1) Hp by kernel_rfl).trans hap⟩
      (oblC (shown_callE (by kernel_rfl) (by kernel_rfl) hS) oblN))) ?_
  exact Runs.sqR mixed hk38 [] (by kernel_rfl) (by kernel_rfl) (by kernel_rfl) oblN (Runs.now (x := .ret) (by kernel_rfl) ⟨.inr rfl, [.bool true], by kernel_rfl, rfl⟩)

theorem lt_false {a b : Int} (h : ¬ a < b) : ltF a b = false := by rw [ltF_eq, decide_eq_false_iff_not]; exact h

/-- What is known of the rest. -/
theorem ask_rest (nn m : Nat) (hnn : nn < 12) (hm : m + 1 < 20) (y : Nat → Nat) (f : Nat → Int) (g : Nat → Bool) (hf : Bounds (nn + 1) (m + 1) f) (hc : ¬ highN (.ofNat (nn + 1)) f g (m + 1) < lowN f g (m + 1)) :
    Runs Tryd.prog 0 (behind 11 c9) (sth ([(7, i64 (nn + 1)), (8, rowV2 (m + 1)), (18, .int .i64 (lowN f g (m + 1))), (19, .int .i64 (highN (.ofNat (nn + 1)) f g (m + 1)))]) 254 (rootQ y (m + 1) f g)) Ends9 := by
  let lo := lowN f g (m + 1)
  let hi := highN (.ofNat (nn + 1)) f g (m + 1)
  have l0 := low_nonneg f g (m + 1)
  have h1 := high_le (lv := nn + 1) f g (m + 1)
  refine Runs.sq (by kernel_rfl) (Runs.sqR mixed hk38 [] (by kernel_rfl) (by kernel_rfl) (by kernel_rfl) oblN ?_)
  refine Runs.cd (b := ltF (.ofNat 0) (.ofNat (m + 1))) (by kernel_rfl) (fun _ => ?_) (fun h => by rw [lt_of (Nat.succ_pos m)] at h; cases h)
  have last : ∀ (c d : Int) (af : AF), c ≤ lo → hi ≤ d → Less 0 (sth [(7, i64 (nn + 1)), (8, rowV2 (m + 1)), (18, .int .i64 lo), (19, .int .i64 hi), (28, .int .i64 c), (29, .int .i64 d), (30, .int .i64 0)] 254 (rootQ y (m + 1) f g)) af →
      Runs Tryd.prog 0 (tl (thenOf (tl (hd (behind 11 c9))))) af (andThen (fun a => Runs Tryd.prog 0 (behind 12 c9) a Ends9) Ends9) := by
    intro c d af q1 q2 less
    refine Runs.less less (Runs.sqR mixed hk38 [viaV 5 (.bool false), viaV 10 (.bool false)] (by kernel_rfl) (by kernel_rfl) (by kernel_rfl)
      (oblC (shown_eq (v := .bool (ltF lo c)) (by kernel_rfl) (by kernel_rfl) (by rw [lt_false (by omega)])) (oblC (shown_eq (v := .bool (ltF d hi)) (by kernel_rfl) (by kernel_rfl) (by rw [lt_false (by omega)])) oblN)) ?_)
    refine Runs.cd (b := false) (by kernel_rfl) (fun h => by cases h) (fun _ => Runs.now (x := .normal) (by kernel_rfl) ?_)
    exact Runs.less (af1 := sth (S3 nn (m + 1)) 254 (rootQ y (m + 1) f g)) (less_seenP s3_clo rootQ_clo (Nat.zero_le 2) (by kernel_rfl) (by kernel_rfl) (by kernel_rfl) (by kernel_rfl)) (ask_more nn (m + 1) hnn (by omega) y f g)
  cases m with
  | zero =>
    have hS : Says Tryd.prog (hp (rootQ y 1 f g)) 38 [i64 (nn + 1), rest0] (tupV 0 (.ofNat (nn + 1)) 0) (hp (rootQ y 1 f g)) := known_rest0 (by omega) _
    refine Runs.sqR mixed hk38 [viaC 3 38 [i64 (nn + 1), rest0] (tupV 0 (.ofNat (nn + 1)) 0)] (by kernel_rfl) (by kernel_rfl) (by kernel_rfl) (oblC (shown_callE (by kernel_rfl) (by kernel_rfl) hS) oblN) ?_
    exact last 0 (.ofNat (nn + 1)) _ l0 h1 (less_seenP (clo_all (by kernel_rfl)) rootQ_clo (Nat.zero_le 2) (by kernel_rfl) (by kernel_rfl) (by kernel_rfl) (by kernel_rfl))
  | succ k =>
    obtain ⟨c, d, hk, q1, q2⟩ := tail_known (N := nn + 1) (m := k + 1) (f := f) (g := g) (by omega) (by omega) hf hc
    have hS : Says Tryd.prog (hp (rootQ y (k + 2) f g)) 38 [i64 (nn + 1), .slice (some ⟨1, 0 + 1 * 2, some 2⟩) (k + 1) (k + 1)] (tupV c d 0) (hp (rootQ y (k + 2) f g)) :=
      known_rest (i := 1) (n := k + 1) (f := f) (g := g) (by omega) (hp_get (rootQ y (k + 2) f g) 1 _ rfl) hk
    refine Runs.sqR mixed hk38 [viaV 2 (.slice (some ⟨1, 0 + 1 * 2, some 2⟩) (k + 1) (k + 1)), viaC 3 38 [i64 (nn + 1), .slice (some ⟨1, 0 + 1 * 2, some 2⟩) (k + 1) (k + 1)] (tupV c d 0)] (by kernel_rfl) (by kernel_rfl) (by kernel_rfl)
      (oblC ⟨by kernel_rfl, (show _ = (sliceA Tryd.prog 42 (rowV2 (k + 2)) (some (i64 1)) none none).map (·, hp (rootQ y (k + 2) f g)) by kernel_rfl).trans (by rw [rest_own k]; rfl)⟩
      (oblC (shown_callE (by kernel_rfl) (by kernel_rfl) hS) oblN)) ?_
    exact last c d _ q1 q2 (less_seenP (clo_all (by kernel_rfl)) rootQ_clo (Nat.zero_le 2) (by kernel_rfl) (by kernel_rfl) (by kernel_rfl) (by kernel_rfl))

theorem ask_tail (nn m : Nat) (hnn : nn < 12) (hm : m + 1 < 20) (y : Nat → Nat) (f : Nat → Int) (g : Nat → Bool) (hf : Bounds (nn + 1) (m + 1) f) :
    Runs Tryd.prog 0 (behind 7 c9) (sth (S7 nn (m + 1) (refS (m + 1) f g (nn + 2))) 254 (rootQ y (m + 1) f g)) Ends9 := by
  have hget : (hp (rootQ y (m + 1) f g)).get 1 = .cells (rowsF (m + 1) f g) true [] (some 52) := hp_get (rootQ y (m + 1) f g) 1 _ rfl
  have hwhy := why_chk (g := g) (show nn + 1 < 13 by omega) (show m + 1 ≤ 20 by omega) hf
  rw [ref_ends hnn hf]
  by_cases hc : highN (.ofNat (nn + 1)) f g (m + 1) < lowN f g (m + 1)
  · rw [if_pos hc]
    have hk := known_none (show nn + 1 < 13 by omega) (show m + 1 ≤ 20 by omega) hf hc
    obtain ⟨p0, q0, hpq, hq0, hcon⟩ := pair_of (g := g) (show nn + 1 < 13 by omega) hf hc
    rcases whyS_spec (conC f g) (m + 1) (m + 1) 0 (by omega) with ⟨_, hno⟩ | ⟨p, q, _, a2, a3, a4, a5, a6, a7⟩
    · rw [hno p0 q0 (Nat.zero_le _) hpq hq0] at hcon; cases hcon
    rw [a5] at hwhy
    have S38 := known_own (h := hp (rootQ y (m + 1) f g)) (by omega) hget hk
    have S41 := why_own (h := hp (rootQ y (m + 1) f g)) (by omega) hget hwhy
    refine Runs.sqR mixed hk38 [viaC 2 38 [i64 (nn + 1), rowV2 (m + 1)] (tupV 0 0 12)] (by kernel_rfl) (by kernel_rfl) (by kernel_rfl) (oblC (shown_callE (by kernel_rfl) (by kernel_rfl) S38) oblN) ?_
    refine Runs.sqR mixed hk38 [viaC 2 41 [i64 (nn + 1), rowV2 (m + 1)] (tupV (.ofNat p) (.ofNat q) 0)] (by kernel_rfl) (by kernel_rfl) (by kernel_rfl) (oblC (shown_callE (by kernel_rfl) (by kernel_rfl) S41) oblN) ?_
    refine Runs.sq (by kernel_rfl) (Runs.sqR mixed hk38 [] (by kernel_rfl) (by kernel_rfl) (by kernel_rfl) oblN ?_)
    refine Runs.cd (b := true) (by kernel_rfl) (fun _ => ?_) (fun h => by cases h)
    have c1 : leF (.ofNat q) (.ofNat p) = false := by rw [leF_eq, decide_eq_false_iff_not]; show ¬ ((q : Nat) : Int) ≤ (p : Int); omega
    have c2 : leF (.ofNat (m + 1)) (.ofNat q) = false := by rw [leF_eq, decide_eq_false_iff_not]; show ¬ ((m + 1 : Nat) : Int) ≤ (q : Int); omega
    have c3 : ltF (.ofNat p) (.ofNat 0) = false := by rw [ltF_eq, decide_eq_false_iff_not]; show ¬ ((p : Nat) : Int) < ((0 : Nat) : Int); omega
    refine Runs.sq (by kernel_rfl) (Runs.sqR mixed hk38 [viaV 8 (.bool false), viaV 13 (.bool false), viaV 19 (.bool false)] (by kernel_rfl) (by kernel_rfl) (by kernel_rfl)
      (oblC (shown_eq (v := .bool (ltF (.ofNat p) (.ofNat 0))) (by kernel_rfl) (by kernel_rfl) (by rw [c3])) (oblC (shown_eq (v := .bool (leF (.ofNat q) (.ofNat p))) (by kernel_rfl) (by kernel_rfl) (by rw [c1]))
      (oblC (shown_eq (v := .bool (leF (.ofNat (m + 1)) (.ofNat q))) (by kernel_rfl) (by kernel_rfl) (by rw [c2])) oblN))) ?_)
    refine Runs.cd (b := false) (by kernel_rfl) (fun h => by cases h) (fun _ => Runs.now (x := .normal) (by kernel_rfl) ?_)
    show Runs Tryd.prog 0 _ _ _
    refine Runs.sq (by kernel_rfl) (Runs.sqR mixed hk38 [] (by kernel_rfl) (by kernel_rfl) (by kernel_rfl) oblN (Runs.bk (id := 8) (by kernel_rfl) ?_))
    refine Runs.less (af1 := sth (SP (m + 1) p q 0) 254 (rootQ y (m + 1) f g)) (less_seenP sp_clo rootQ_clo (Nat.zero_le 2) (by kernel_rfl) (by kernel_rfl) (by kernel_rfl) (by kernel_rfl)) ?_
    refine (out_ask y (m + 1) (by omega) f g p q (m + 1) 0 (by omega)).mono fun x af hx => ?_
    rcases hx with ⟨rfl, hno⟩ | ⟨rfl, p', q', _, b2, b3, b4, b5, b6, b7⟩
    · rw [hno p q (Nat.zero_le _) a2 a3] at a4; cases a4
    · have ep : p' = p := by
        rcases Nat.lt_trichotomy p' p with h | h | h
        · rw [a6 p' q' (Nat.zero_le _) h b2 b3] at b4; cases b4
        · exact h
        · rw [b5 p q (Nat.zero_le _) h a2 a3] at a4; cases a4
      subst ep
      have eq : q' = q := by
        rcases Nat.lt_trichotomy q' q with h | h | h
        · rw [a7 q' b2 h] at b4; cases b4
        · exact h
        · rw [b6 q a2 h] at a4; cases a4
      subst eq
      rw [Nat.beq_refl, Nat.beq_refl] at b7
      exact ⟨.inr rfl, _, b7, rfl⟩
  · rw [if_neg hc]
    have hk := known_some (show nn + 1 < 13 by omega) (show m + 1 ≤ 20 by omega) hf hc
    have ha := (low_high (show nn + 1 < 13 by omega) f g (lowN f g (m + 1)) (m + 1) hf).1 ⟨Int.le_refl _, by omega⟩
    rcases whyS_spec (conC f g) (m + 1) (m + 1) 0 (by omega) with ⟨a5, _⟩ | ⟨p, q, _, a2, a3, a4, _⟩
    · rw [a5] at hwhy
      have S38 := known_own (h := hp (rootQ y (m + 1) f g)) (by omega) hget hk
      have S41 := why_own (h := hp (rootQ y (m + 1) f g)) (by omega) hget hwhy
      let lo := lowN f g (m + 1)
      let hi := highN (.ofNat (nn + 1)) f g (m + 1)
      have l0 : 0 ≤ lo := low_nonneg f g (m + 1)
      refine Runs.sqR mixed hk38 [viaC 2 38 [i64 (nn + 1), rowV2 (m + 1)] (tupV lo hi 0)] (by kernel_rfl) (by kernel_rfl) (by kernel_rfl) (oblC (shown_callE (by kernel_rfl) (by kernel_rfl) S38) oblN) ?_
      refine Runs.sqR mixed hk38 [viaC 2 41 [i64 (nn + 1), rowV2 (m + 1)] (tupV 0 0 13)] (by kernel_rfl) (by kernel_rfl) (by kernel_rfl) (oblC (shown_callE (by kernel_rfl) (by kernel_rfl) S41) oblN) ?_
      refine Runs.sq (by kernel_rfl) (Runs.sqR mixed hk38 [] (by kernel_rfl) (by kernel_rfl) (by kernel_rfl) oblN ?_)
      refine Runs.cd (b := ltF lo 0) (by kernel_rfl) (fun h => by rw [lt_false (by omega)] at h; cases h) (fun _ => Runs.now (x := .normal) (by kernel_rfl) ?_)
      show Runs Tryd.prog 0 _ _ _
      refine Runs.sq (by kernel_rfl) (Runs.sqR mixed hk38 [viaV 9 (.bool false), viaV 14 (.bool false)] (by kernel_rfl) (by kernel_rfl) (by kernel_rfl)
        (oblC (shown_eq (v := .bool (!(eqF lo lo))) (by kernel_rfl) (by kernel_rfl) (by rw [eq_self]; rfl)) (oblC (shown_eq (v := .bool (!(eqF hi hi))) (by kernel_rfl) (by kernel_rfl) (by rw [eq_self]; rfl)) oblN)) ?_)
      refine Runs.cd (b := false) (by kernel_rfl) (fun h => by cases h) (fun _ => Runs.now (x := .normal) (by kernel_rfl) ?_)
      exact Runs.less (af1 := sth [(7, i64 (nn + 1)), (8, rowV2 (m + 1)), (18, .int .i64 lo), (19, .int .i64 hi)] 254 (rootQ y (m + 1) f g)) (less_seenP (clo_all (by kernel_rfl)) rootQ_clo (Nat.zero_le 2) (by kernel_rfl) (by kernel_rfl) (by kernel_rfl) (by kernel_rfl))
        (ask_rest nn m hnn hm y f g hf hc)
    · rw [none_of ha.2 p q (by omega) a3] at a4; cases a4
end
end Go.Proofs.YtgnkjmgkfibipaaDoor

/- TrialAsked: the whole run. -/
namespace Go.Proofs.YtgnkjmgkfibipaaDoor
set_option linter.unusedVariables false
set_option linter.unusedSimpArgs false
open Go Go.R Go.RowKit
set_option maxRecDepth 1000000
noncomputable section

def Z9 (nn : Nat) : List (Nat × Value) := [(7, i64 (nn + 1)), (8, .slice none 0 0)]
theorem z9_runs : ((List.range 12).all fun nn => okRun Tryd.prog Tryd.f9 (execA Tryd.prog k38 1000 (behind 5 c9) (sth (Z9 nn) 254 [])) (.bool true)) = true := by kernel_rfl

theorem ask_zero (a b : Nat) (ha : a < 256) (hb : b < 256) (h0 : b % 9 = 0) (y : Nat → Nat) : Runs Tryd.prog 0 c9 (entry Tryd.f9 [.int .u8 (.ofNat a), .int .u8 (.ofNat b), byV y] AH.empty) Ends9 := by
  have hlt : a % 12 < 12 := Nat.mod_lt _ (by decide)
  have fin : Runs Tryd.prog 0 (behind 5 c9) (sth (Z9 (a % 12)) 254 []) Ends9 := Runs.last (n := 1000) mixed hk38 (Nat.zero_le _) (List.all_eq_true.1 z9_runs _ (List.mem_range.2 hlt))
  have zclo : ∀ q ∈ Z9 (a % 12), Clo 0 q.2 := clo_all (by kernel_rfl)
  refine Runs.sqR mixed hk38 [] (by kernel_rfl) (by kernel_rfl) (by kernel_rfl) oblN ?_
  refine Runs.sqR mixed hk38 [viaV 1 (.int .i64 (.ofNat a)), viaV 3 (i64 (a % 12 + 1))] (by kernel_rfl) (by kernel_rfl) (by kernel_rfl)
    (oblC (shown_eq (v := .int .i64 (IntKind.wrap .i64 (.ofNat a))) (by kernel_rfl) (by kernel_rfl) (by rw [wrap64 (by omega)]))
    (oblC (shown_eq (v := .int .i64 (wrapF .i64 (Int.add (.ofNat 1) (.ofNat (a % 12))))) (by kernel_rfl) (by kernel_rfl) (by rw [f_add (by omega), Nat.add_comm]; rfl)) oblN)) ?_
  refine Runs.sqR mixed hk38 [] (by kernel_rfl) (by kernel_rfl) (by kernel_rfl) oblN ?_
  refine Runs.sq (by kernel_rfl) (Runs.sqR mixed hk38 [viaV 1 (.int .i64 (.ofNat b)), viaV 2 (i64 0)] (by kernel_rfl) (by kernel_rfl) (by kernel_rfl)
    (oblC (shown_eq (v := .int .i64 (IntKind.wrap .i64 (.ofNat b))) (by kernel_rfl) (by kernel_rfl) (by rw [wrap64 (by omega)]))
    (oblC (shown_eq (v := .int .i64 (.ofNat (b % 9))) (by kernel_rfl) (by kernel_rfl) (by rw [h0]; rfl)) oblN)) (Runs.bk (id := 0) (by kernel_rfl) ?_))
  refine Runs.lp (by kernel_rfl) (Runs.sqR mixed hk38 [] (by kernel_rfl) (by kernel_rfl) (by kernel_rfl) oblN (Runs.sq (by kernel_rfl) (Runs.cd (b := false) (by kernel_rfl) (fun h => by cases h) (fun _ => Runs.now (x := .exit 0) (by kernel_rfl) ?_))))
  show Runs Tryd.prog 0 _ _ _
  refine Runs.sq (by kernel_rfl) (Runs.sqR mixed hk38 [viaV 1 (.int .u8 (.ofNat (b / 16)))] (by kernel_rfl) (by kernel_rfl) (by kernel_rfl)
    (oblC (shown_eq (v := .int .u8 (wrapF .u8 (Int.tdiv (.ofNat b) (.ofNat 16)))) (by kernel_rfl) (by kernel_rfl) (by rw [f_quo8 hb])) oblN) ?_)
  refine Runs.cd (b := ltF (.ofNat 0) (.ofNat (b / 16 % 4))) (by kernel_rfl) (fun hc => ?_) (fun hc => Runs.now (x := .normal) (by kernel_rfl) ?_)
  · refine Runs.sqR mixed hk38 [] (by kernel_rfl) (by kernel_rfl) (by kernel_rfl) oblN (Runs.bk (id := 2) (by kernel_rfl) ?_)
    refine Runs.lp (by kernel_rfl) (Runs.sqR mixed hk38 [] (by kernel_rfl) (by kernel_rfl) (by kernel_rfl) oblN (Runs.sq (by kernel_rfl) (Runs.cd (b := false) (by kernel_rfl) (fun h => by cases h) (fun _ => Runs.now (x := .exit 2) (by kernel_rfl) ?_))))
    show Runs Tryd.prog 0 (behind 5 c9) _ _
    exact Runs.less (af1 := sth (Z9 (a % 12)) 254 []) (less_seenP zclo (fun o ho => by cases ho) (Nat.le_refl 0) (by kernel_rfl) (by kernel_rfl) (by kernel_rfl) (by kernel_rfl)) fin
  · show Runs Tryd.prog 0 (behind 5 c9) _ _
    exact Runs.less (af1 := sth (Z9 (a % 12)) 254 []) (less_seenP zclo (fun o ho => by cases ho) (Nat.le_refl 0) (by kernel_rfl) (by kernel_rfl) (by kernel_rfl) (by kernel_rfl)) fin

theorem asked_runs (a b : Nat) (ha : a < 256) (hb : b < 256) (y : Nat → Nat) (hy : ∀ i, y i < 256) : Runs Tryd.prog 0 c9 (entry Tryd.f9 [.int .u8 (.ofNat a), .int .u8 (.ofNat b), byV y] AH.empty) Ends9 := by
  by_cases h0 : b % 9 = 0
  · exact ask_zero a b ha hb h0 y
  · obtain ⟨k, hk⟩ : ∃ k, b % 9 = k + 1 := ⟨b % 9 - 1, by omega⟩
    have hk9 : k + 1 < 9 := by omega
    have hlt : a % 12 < 12 := Nat.mod_lt _ (by decide)
    refine ask_front a b ha hb (by omega) y hy fun g => ?_
    rw [hk]
    refine ask_hard (a % 12) (k + 1) hlt y (fA y (a % 12)) g (by omega) (ask_tail (a % 12) k hlt (by omega) y (fA y (a % 12)) g fun i hi => ?_)
    show 1 ≤ ((y i / 2 % (a % 12 + 1) + 1 : Nat) : Int) ∧ ((y i / 2 % (a % 12 + 1) + 1 : Nat) : Int) ≤ ((a % 12 + 1 : Nat) : Int)
    have hmod : y i / 2 % (a % 12 + 1) < a % 12 + 1 := Nat.mod_lt (y i / 2) (Nat.succ_pos (a % 12))
    generalize y i / 2 % (a % 12 + 1) = z at hmod
    generalize a % 12 = nn at hmod
    show 1 ≤ ((z + 1 : Nat) : Int) ∧ ((z + 1 : Nat) : Int) ≤ ((nn + 1 : Nat) : Int)
    omega

theorem asked_walk (a b : Int) (ha : 0 ≤ a ∧ a ≤ 255) (hb : 0 ≤ b ∧ b ≤ 255) (y : Nat → Nat) (hy : ∀ i, y i < 256) (cs : Array Value) (hcs : byL y = cs.toList) (W : World) :
    Calls Tryd.prog 9 #[.int .u8 a, .int .u8 b, .agg cs] W fun e w' => e = .returned (.bool true) ∧ Below W.heap.size W w' := by
  obtain ⟨a', rfl⟩ : ∃ a' : Nat, a = .ofNat a' := ⟨a.toNat, (Int.toNat_of_nonneg ha.1).symm⟩
  obtain ⟨b', rfl⟩ : ∃ b' : Nat, b = .ofNat b' := ⟨b.toNat, (Int.toNat_of_nonneg hb.1).symm⟩
  have ha' : ((a' : Nat) : Int) ≤ 255 := ha.2
  have hb' : ((b' : Nat) : Int) ≤ 255 := hb.2
  have hl : LR (fun _ => none) [.int .u8 (.ofNat a'), .int .u8 (.ofNat b'), byV y] (#[.int .u8 (.ofNat a'), .int .u8 (.ofNat b'), .agg cs] : Array Value).toList := by
    refine LR.cons (.plain rfl) (LR.cons (.plain rfl) (LR.cons (VR.agg_of ?_) LR.nil))
    show LR (fun _ => none) (byL y) cs.toList
    rw [← hcs]
    exact LR.of_plain (byL_plain y)
  refine (calls_of (k := 0) (R := fun v' _ => v' = .bool true) Tryd.func9 (show Tryd.f9.body = some c9 by kernel_rfl) (asked_runs a' b' (by omega) (by omega) y hy) (HR.start W) hl).mono fun e w' hh => ?_
  obtain ⟨v', rfl, v, h', rfl, μ', q1, q2, _⟩ := hh
  rw [q1.bool_inv]
  exact ⟨rfl, q2.below⟩
end
end Go.Proofs.YtgnkjmgkfibipaaDoor

