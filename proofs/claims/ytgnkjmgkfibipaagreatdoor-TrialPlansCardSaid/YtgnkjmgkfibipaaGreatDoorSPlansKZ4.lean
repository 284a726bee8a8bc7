/- TrialPlans: the reference's plans (in Lean alone): a list is a plan just if no three numbers stand in the wrong order; what is followed. -/
import Derived.Test.YtgnkjmgkfibipaaGreatDoorSPlansKZ9
import Derived.Test.YtgnkjmgkfibipaaGreatDoorSPlansRG10
namespace Go.Proofs.YtgnkjmgkfibipaaGreatDoor
set_option linter.unusedVariables false
set_option linter.unusedSimpArgs false
open Go Go.R
noncomputable section

/-- The numbers below one, and above it. -/
def lowL (x : Int) (l : List Int) : List Int := l.filter fun y => ltF y x
def highL (x : Int) (l : List Int) : List Int := l.filter fun y => ltF x y
/-- The reference's look at a part of a plan; the first number is fuel. -/
def planL : Nat → List Int → Bool
  | 0, _ => true
  | _ + 1, [] => true
  | d + 1, x :: r => decide (r.take (lowL x (x :: r)).length = lowL x (x :: r)) && (planL d (lowL x (x :: r)) && planL d (highL x (x :: r)))
/-- The reference's way through a plan. -/
def goL : Nat → List Int → Int → List Int
  | 0, _, _ => []
  | _ + 1, [], _ => []
  | d + 1, x :: r, h => if ltF h x then x :: goL d (lowL x (x :: r)) h else x :: goL d (highL x (x :: r)) h

theorem ltF_self (x : Int) : ltF x x = false := ltF_not.2 (Int.le_refl x)
theorem lowL_cons (x : Int) (r : List Int) : lowL x (x :: r) = lowL x r := by unfold lowL; rw [List.filter_cons, ltF_self]; rfl
theorem highL_cons (x : Int) (r : List Int) : highL x (x :: r) = highL x r := by unfold highL; rw [List.filter_cons, ltF_self]; rfl
theorem lowL_len (x : Int) (r : List Int) : (lowL x r).length ≤ r.length := List.length_filter_le _ _
theorem highL_len (x : Int) (r : List Int) : (highL x r).length ≤ r.length := List.length_filter_le _ _
theorem lowL_mem {x y : Int} {r : List Int} : y ∈ lowL x r ↔ y ∈ r ∧ y < x := by unfold lowL; rw [List.mem_filter, ltF_iff]
theorem highL_mem {x y : Int} {r : List Int} : y ∈ highL x r ↔ y ∈ r ∧ x < y := by unfold highL; rw [List.mem_filter, ltF_iff]

/-- Three numbers of which the middle one comes first, then the greatest, then the smallest: none. -/
def NoI : List Int → Prop
  | [] => True
  | x :: l => l.Pairwise (fun y w => ¬ (w < x ∧ x < y)) ∧ NoI l

theorem first_iff (x : Int) : ∀ (r : List Int), (∀ y ∈ r, y ≠ x) → (r.Pairwise (fun y w => ¬ (w < x ∧ x < y)) ↔ r.take (lowL x r).length = lowL x r)
  | [], _ => ⟨fun _ => rfl, fun _ => List.Pairwise.nil⟩
  | y :: r, hne => by
    have ih := first_iff x r fun z hz => hne z (List.mem_cons_of_mem _ hz)
    have hy := hne y List.mem_cons_self
    rcases Int.lt_or_lt_of_ne hy with h | h
    · have e : lowL x (y :: r) = y :: lowL x r := by unfold lowL; rw [List.filter_cons, ltF_iff.2 h]; rfl
      rw [e, List.length_cons, List.take_succ_cons, List.cons.injEq, List.pairwise_cons]
      constructor
      · exact fun q => ⟨rfl, ih.1 q.2⟩
      · exact fun q => ⟨fun w _ z => by omega, ih.2 q.2⟩
    · have e : lowL x (y :: r) = lowL x r := by unfold lowL; rw [List.filter_cons, show ltF y x = false from ltF_not.2 (by omega)]; rfl
      rw [e, List.pairwise_cons]
      constructor
      · intro q
        have : lowL x r = [] := by
          cases hl : lowL x r with
          | nil => rfl
          | cons z l =>
            have hz : z ∈ lowL x r := by rw [hl]; exact List.mem_cons_self
            have := lowL_mem.1 hz
            exact absurd ⟨this.2, h⟩ (q.1 z this.1)
        rw [this]
        rfl
      · intro q
        have : lowL x r = [] := by
          cases hl : lowL x r with
          | nil => rfl
          | cons z l =>
            rw [hl, List.length_cons, List.take_succ_cons, List.cons.injEq] at q
            have hz : z ∈ lowL x r := by rw [hl]; exact List.mem_cons_self
            have := (lowL_mem.1 hz).2
            omega
        refine ⟨fun w hw z => ?_, ih.2 (by rw [this]; rfl)⟩
        have : w ∈ lowL x r := lowL_mem.2 ⟨hw, z.1⟩
        simp_all

/-- Smaller ones first: then the list is those below, and those above. -/
theorem split_of {x : Int} {r : List Int} (hne : ∀ y ∈ r, y ≠ x) (h : r.take (lowL x r).length = lowL x r) : r = lowL x r ++ highL x r := by
  have e : r = lowL x r ++ r.drop (lowL x r).length := by
    conv => lhs; rw [← List.take_append_drop (lowL x r).length r]
    rw [h]
  have hd : ∀ y ∈ r.drop (lowL x r).length, x < y := by
    intro y hy
    have hyr := List.mem_of_mem_drop hy
    rcases Int.lt_or_lt_of_ne (hne y hyr) with q | q
    · exfalso
      have hl : (lowL x r).length = (lowL x (lowL x r)).length + (lowL x (r.drop (lowL x r).length)).length := by
        have : (lowL x r).length = (lowL x (lowL x r ++ r.drop (lowL x r).length)).length := congrArg (fun l => (lowL x l).length) e
        rw [show lowL x (lowL x r ++ r.drop (lowL x r).length) = lowL x (lowL x r) ++ lowL x (r.drop (lowL x r).length) from List.filter_append _ _, List.length_append] at this
        exact this
      have e2 : lowL x (lowL x r) = lowL x r := List.filter_eq_self.2 fun y hy => ltF_iff.2 (lowL_mem.1 hy).2
      rw [e2] at hl
      have : y ∈ lowL x (r.drop (lowL x r).length) := lowL_mem.2 ⟨hy, q⟩
      have : 0 < (lowL x (r.drop (lowL x r).length)).length := List.length_pos_of_mem this
      omega
    · exact q
  have e3 : highL x r = r.drop (lowL x r).length := by
    conv => lhs; rw [e]
    rw [show highL x (lowL x r ++ r.drop (lowL x r).length) = highL x (lowL x r) ++ highL x (r.drop (lowL x r).length) from List.filter_append _ _]
    have a : highL x (lowL x r) = [] := by
      refine List.filter_eq_nil_iff.2 fun y hy => ?_
      have := (lowL_mem.1 hy).2
      rw [show ltF x y = false from ltF_not.2 (by omega)]
      simp
    have b : highL x (r.drop (lowL x r).length) = r.drop (lowL x r).length := List.filter_eq_self.2 fun y hy => ltF_iff.2 (hd y hy)
    rw [a, b]
    rfl
  rw [e3]
  exact e

theorem NoI_app : ∀ {a c : List Int}, NoI a → NoI c → (∀ x ∈ a, ∀ w ∈ c, x < w) → NoI (a ++ c)
  | [], c, _, hc, _ => hc
  | x :: a, c, ha, hc, hlt => by
    refine ⟨List.pairwise_append.2 ⟨ha.1, ?_, fun y hy w hw h => ?_⟩, NoI_app ha.2 hc fun y hy => hlt y (List.mem_cons_of_mem _ hy)⟩
    · exact List.Pairwise.imp_of_mem (R := fun _ _ => True) (fun {y w} hy hw _ h => by have := hlt x List.mem_cons_self w hw; omega) (List.pairwise_of_forall fun _ _ => trivial)
    · have := hlt x List.mem_cons_self w hw
      omega
theorem NoI_sub : ∀ {a b : List Int}, a.Sublist b → NoI b → NoI a
  | _, [], h, _ => by rw [List.sublist_nil.1 h]; trivial
  | [], _ :: _, _, _ => trivial
  | x :: a, y :: b, h, hb => by
    cases h with
    | cons _ h => exact NoI_sub h hb.2
    | cons_cons _ h => exact ⟨hb.1.sublist h, NoI_sub h hb.2⟩

theorem planL_iff : ∀ (d : Nat) (l : List Int), l.length ≤ d → l.Nodup → (planL d l = true ↔ NoI l)
  | 0, l, h, _ => by rw [List.length_eq_zero_iff.1 (Nat.le_zero.1 h)]; exact ⟨fun _ => trivial, fun _ => rfl⟩
  | d + 1, [], _, _ => ⟨fun _ => trivial, fun _ => rfl⟩
  | d + 1, x :: r, h, nd => by
    have hne : ∀ y ∈ r, y ≠ x := fun y hy e => (List.nodup_cons.1 nd).1 (e ▸ hy)
    have ndr := (List.nodup_cons.1 nd).2
    have hl : r.length ≤ d := by rw [List.length_cons] at h; omega
    have i1 := planL_iff d (lowL x r) (Nat.le_trans (lowL_len x r) hl) (ndr.filter _)
    have i2 := planL_iff d (highL x r) (Nat.le_trans (highL_len x r) hl) (ndr.filter _)
    rw [planL, lowL_cons, highL_cons, Bool.and_eq_true, Bool.and_eq_true, decide_eq_true_eq, i1, i2]
    constructor
    · rintro ⟨q, n1, n2⟩
      refine ⟨(first_iff x r hne).2 q, ?_⟩
      rw [split_of hne q]
      exact NoI_app n1 n2 fun y hy w hw => by have := (lowL_mem.1 hy).2; have := (highL_mem.1 hw).2; omega
    · rintro ⟨q, n⟩
      exact ⟨(first_iff x r hne).1 q, NoI_sub List.filter_sublist n, NoI_sub List.filter_sublist n⟩

/-! ### The list of a function's values -/
def lstF (f : Nat → Int) (n : Nat) : List Int := (List.range n).map f
theorem lstF_len (f : Nat → Int) (n : Nat) : (lstF f n).length = n := by simp [lstF]
theorem lstF_at {f : Nat → Int} {n i : Nat} (h : i < (lstF f n).length) : (lstF f n)[i] = f i := by simp [lstF]
theorem NoI_iff : ∀ {l : List Int}, NoI l ↔ ∀ (z y x : Nat) (hx : x < l.length) (h1 : z < y) (h2 : y < x), ¬ (l[x] < l[z] ∧ l[z] < l[y])
  | [] => ⟨fun _ z y x hx => (by cases hx), fun _ => trivial⟩
  | u :: l => by
    have ih := NoI_iff (l := l)
    constructor
    · intro h z y x hx h1 h2
      obtain ⟨y, rfl⟩ : ∃ k, y = k + 1 := ⟨y - 1, by omega⟩
      obtain ⟨x, rfl⟩ : ∃ k, x = k + 1 := ⟨x - 1, by omega⟩
      cases z with
      | zero =>
        have := List.pairwise_iff_getElem.1 h.1 y x (by simp at hx; omega) (by simpa using hx) (by omega)
        simpa using this
      | succ z =>
        have := ih.1 h.2 z y x (by simpa using hx) (by omega) (by omega)
        simpa using this
    · intro h
      refine ⟨List.pairwise_iff_getElem.2 fun y x hy hx hyx => ?_, ih.2 fun z y x hx h1 h2 => ?_⟩
      · have := h 0 (y + 1) (x + 1) (by simpa using hx) (by omega) (by omega)
        simpa using this
      · have := h (z + 1) (y + 1) (x + 1) (by simpa using hx) (by omega) (by omega)
        simpa using this
theorem tri_plan {f : Nat → Int} {n : Nat} (inj : ∀ a b, a < n → b < n → f a = f b → a = b) : planL n (lstF f n) = !(triI f n n 0 false) := by
  have nd : (lstF f n).Nodup := List.pairwise_iff_getElem.2 fun a b ha hb hab e => by
    rw [lstF_at, lstF_at] at e
    have := inj a b (by simpa [lstF_len] using ha) (by simpa [lstF_len] using hb) e
    omega
  rw [Bool.eq_iff_iff, planL_iff n _ (by rw [lstF_len]; exact Nat.le_refl _) nd, NoI_iff, Bool.not_eq_true']
  constructor
  · intro h
    cases ht : triI f n n 0 false with
    | false => rfl
    | true =>
      obtain ⟨z, y, x, _, h1, h2, h3, h4, h5⟩ := ((triI_iff f n n 0 false (by omega)).1 ht).resolve_left (by simp)
      have := h z y x (by rw [lstF_len]; exact h3) h1 h2
      rw [lstF_at, lstF_at, lstF_at] at this
      exact absurd ⟨h4, h5⟩ this
  · intro ht z y x hx h1 h2 h
    rw [lstF_at, lstF_at, lstF_at] at h
    rw [lstF_len] at hx
    have := (triI_iff f n n 0 false (by omega)).2 (.inr ⟨z, y, x, Nat.zero_le _, h1, h2, hx, h.1, h.2⟩)
    rw [ht] at this
    cases this

/-! ### What is followed -/
def folI (hd : Int) : List Int → Int → Int → List Int
  | [], _, _ => []
  | x :: l, lo, hi => if leF x lo || ltF hi x then folI hd l lo hi else x :: (if ltF hd x then folI hd l lo (x - 1) else folI hd l x hi)
theorem lstF_drop {f : Nat → Int} {n i : Nat} (h : i < n) : (lstF f n).drop i = f i :: (lstF f n).drop (i + 1) := by
  have h' : i < (lstF f n).length := by rw [lstF_len]; exact h
  rw [List.drop_eq_getElem_cons h', lstF_at]
theorem folF_folI (f : Nat → Int) (n : Nat) (hd : Int) : ∀ d i lo hi, i + d = n → folF f hd d i lo hi = folI hd ((lstF f n).drop i) lo hi
  | 0, i, lo, hi, h => by
    rw [List.drop_eq_nil_of_le (by rw [lstF_len]; omega)]
    rfl
  | d + 1, i, lo, hi, h => by
    rw [lstF_drop (by omega), folF, folI, folF_folI f n hd d (i + 1) lo hi (by omega), folF_folI f n hd d (i + 1) lo _ (by omega), folF_folI f n hd d (i + 1) _ hi (by omega)]
theorem folI_tail (hd : Int) : ∀ (A C : List Int) (lo hi : Int), (∀ x ∈ C, hi < x) → folI hd (A ++ C) lo hi = folI hd A lo hi
  | [], [], lo, hi, _ => rfl
  | [], x :: C, lo, hi, h => by
    have hx : ltF hi x = true := ltF_iff.2 (h x List.mem_cons_self)
    have e : folI hd (x :: C) lo hi = folI hd C lo hi := by rw [folI, if_pos (by rw [hx, Bool.or_true])]
    exact e.trans (folI_tail hd [] C lo hi fun y hy => h y (List.mem_cons_of_mem _ hy))
  | x :: A, C, lo, hi, h => by
    rw [List.cons_append, folI, folI, folI_tail hd A C lo hi h, folI_tail hd A C _ hi h]
    by_cases hc : (leF x lo || ltF hi x) = true
    · rw [if_pos hc, if_pos hc]
    · have hx : x ≤ hi := by
        rw [Bool.not_eq_true, Bool.or_eq_false_iff] at hc
        exact ltF_not.1 hc.2
      rw [folI_tail hd A C lo (x - 1) (fun y hy => by have := h y hy; omega)]
theorem folI_head (hd : Int) : ∀ (A C : List Int) (lo hi : Int), (∀ x ∈ A, x ≤ lo) → folI hd (A ++ C) lo hi = folI hd C lo hi
  | [], C, lo, hi, _ => rfl
  | x :: A, C, lo, hi, h => by
    have hx : leF x lo = true := by rw [leF_eq, decide_eq_true_eq]; exact h x List.mem_cons_self
    rw [List.cons_append, folI, if_pos (by rw [hx, Bool.true_or])]
    exact folI_head hd A C lo hi fun y hy => h y (List.mem_cons_of_mem _ hy)
theorem fol_go (hd : Int) : ∀ (d : Nat) (l : List Int) (lo hi : Int), l.length ≤ d → l.Nodup → planL d l = true → (∀ x ∈ l, lo < x ∧ x ≤ hi) → folI hd l lo hi = goL d l hd
  | 0, l, lo, hi, h, _, _, _ => by rw [List.length_eq_zero_iff.1 (Nat.le_zero.1 h)]; rfl
  | d + 1, [], _, _, _, _, _, _ => rfl
  | d + 1, x :: r, lo, hi, h, nd, hp, hb => by
    have hne : ∀ y ∈ r, y ≠ x := fun y hy e => (List.nodup_cons.1 nd).1 (e ▸ hy)
    have ndr := (List.nodup_cons.1 nd).2
    have hl : r.length ≤ d := by rw [List.length_cons] at h; omega
    rw [planL, lowL_cons, highL_cons, Bool.and_eq_true, Bool.and_eq_true, decide_eq_true_eq] at hp
    obtain ⟨q, p1, p2⟩ := hp
    have hx := hb x List.mem_cons_self
    have c : (leF x lo || ltF hi x) = false := by
      rw [Bool.or_eq_false_iff]
      exact ⟨by rw [leF_eq, decide_eq_false_iff_not]; omega, ltF_not.2 hx.2⟩
    rw [folI, c, if_neg (by simp), goL, lowL_cons, highL_cons]
    have sp := split_of hne q
    cases hbx : ltF hd x with
    | true =>
      rw [if_pos rfl, if_pos rfl]
      rw [show folI hd r lo (x - 1) = folI hd (lowL x r ++ highL x r) lo (x - 1) by rw [← sp], folI_tail hd _ _ lo (x - 1) (fun y hy => by have := (highL_mem.1 hy).2; omega)]
      rw [fol_go hd d (lowL x r) lo (x - 1) (Nat.le_trans (lowL_len x r) hl) (ndr.filter _) p1 fun y hy => by
        have := lowL_mem.1 hy
        have := hb y (List.mem_cons_of_mem _ this.1)
        omega]
    | false =>
      rw [if_neg (by simp), if_neg (by simp)]
      rw [show folI hd r x hi = folI hd (lowL x r ++ highL x r) x hi by rw [← sp], folI_head hd _ _ x hi (fun y hy => by have := (lowL_mem.1 hy).2; omega)]
      rw [fol_go hd d (highL x r) x hi (Nat.le_trans (highL_len x r) hl) (ndr.filter _) p2 fun y hy => by
        have := highL_mem.1 hy
        have := hb y (List.mem_cons_of_mem _ this.1)
        omega]
end
end Go.Proofs.YtgnkjmgkfibipaaGreatDoor

/- TrialPlans: the reference's parted. -/
namespace Go.Proofs.YtgnkjmgkfibipaaGreatDoor
set_option linter.unusedVariables false
set_option linter.unusedSimpArgs false
open Go Go.R
set_option maxRecDepth 1000000
noncomputable section

/-- A list in a row of its own; none: nil. -/
def slZ (q : Nat) (T : List Int) : Value := match T with
  | [] => .slice none 0 0
  | x :: l => bldV q (l.length + 1)
def obZ (T : List Int) : AObj := match T with
  | [] => .dead
  | x :: l => rowT (x :: l)
theorem slZ_clo {k q : Nat} (h : q < k) (T : List Int) : Clo k (slZ q T) := by
  cases T with
  | nil => exact clo_plain rfl
  | cons x l => exact planV_clo h (List.replicate (l.length + 1) 0) |> fun c => by simpa [planV, List.replicate_succ, slZ, bldV] using c
theorem rowT_clo (T : List Int) (k : Nat) : CloO k (rowT T) := cloO_plain (litZ_plain T) _ _
theorem obZ_clo (T : List Int) (k : Nat) : CloO k (obZ T) := by
  cases T with
  | nil => trivial
  | cons x l => exact rowT_clo (x :: l) k
theorem obs2 {ρ : Nat → Nat} {m : Nat} {h : AH} {a b : AObj} (p : RenO ρ m (h.get (ρ 0)) a) (q : RenO ρ m (h.get (ρ 1)) b) : ObsOk ρ m h 0 [a, b] := ⟨p, q, trivial⟩
theorem obs3 {ρ : Nat → Nat} {m : Nat} {h : AH} {a b c : AObj} (p : RenO ρ m (h.get (ρ 0)) a) (q : RenO ρ m (h.get (ρ 1)) b) (r : RenO ρ m (h.get (ρ 2)) c) : ObsOk ρ m h 0 [a, b, c] := ⟨p, q, r, trivial⟩
noncomputable def c69 : Code := bodyOf Tryz.f69
noncomputable def lp69 : Code := within (tl (hd (behind 2 c69)))
noncomputable def S69 (n cap : Nat) (x : Int) (i : Nat) (vB vA : Value) : List (Nat × Value) := [(0, slV n cap), (1, .int .i64 x), (6, vB), (7, vA), (8, i64 i)]
section
variable {n cap : Nat} {f : Nat → Int} {x : Int} {B A : List Int}
noncomputable def TNN (n cap : Nat) (f : Nat → Int) (x : Int) (i : Nat) (B A : List Int) : AF := sth (S69 n cap x i (.slice none 0 0) (.slice none 0 0)) 43 [viewZ n f]
noncomputable def oNN (n : Nat) (f : Nat → Int) (B A : List Int) : List AObj := [viewZ n f]
theorem oNN_clo : ∀ o ∈ oNN n f B A, CloO 1 o := fun o ho => by
  simp only [oNN, List.mem_cons, List.mem_nil_iff, or_false] at ho
  rcases ho with rfl
  · exact cloO_plain (intsZ_plain n f) _ _
noncomputable def TBN (n cap : Nat) (f : Nat → Int) (x : Int) (i : Nat) (B A : List Int) : AF := sth (S69 n cap x i (bldV 1 B.length) (.slice none 0 0)) 43 [viewZ n f, rowT B]
noncomputable def oBN (n : Nat) (f : Nat → Int) (B A : List Int) : List AObj := [viewZ n f, rowT B]
theorem oBN_clo : ∀ o ∈ oBN n f B A, CloO 2 o := fun o ho => by
  simp only [oBN, List.mem_cons, List.mem_nil_iff, or_false] at ho
  rcases ho with rfl | rfl
  · exact cloO_plain (intsZ_plain n f) _ _
  · exact rowT_clo _ _
noncomputable def TNA (n cap : Nat) (f : Nat → Int) (x : Int) (i : Nat) (B A : List Int) : AF := sth (S69 n cap x i (.slice none 0 0) (bldV 1 A.length)) 43 [viewZ n f, rowT A]
noncomputable def oNA (n : Nat) (f : Nat → Int) (B A : List Int) : List AObj := [viewZ n f, rowT A]
theorem oNA_clo : ∀ o ∈ oNA n f B A, CloO 2 o := fun o ho => by
  simp only [oNA, List.mem_cons, List.mem_nil_iff, or_false] at ho
  rcases ho with rfl | rfl
  · exact cloO_plain (intsZ_plain n f) _ _
  · exact rowT_clo _ _
noncomputable def TBA (n cap : Nat) (f : Nat → Int) (x : Int) (i : Nat) (B A : List Int) : AF := sth (S69 n cap x i (bldV 1 B.length) (bldV 2 A.length)) 43 [viewZ n f, rowT B, rowT A]
noncomputable def oBA (n : Nat) (f : Nat → Int) (B A : List Int) : List AObj := [viewZ n f, rowT B, rowT A]
theorem oBA_clo : ∀ o ∈ oBA n f B A, CloO 3 o := fun o ho => by
  simp only [oBA, List.mem_cons, List.mem_nil_iff, or_false] at ho
  rcases ho with rfl | rfl | rfl
  · exact cloO_plain (intsZ_plain n f) _ _
  · exact rowT_clo _ _
  · exact rowT_clo _ _
theorem roundNN (hn : n < 100000) {i : Nat} (hlt : i < n) {Q : AExit → AF → Prop}
    (low : ltF (f i) x = true → Runs Tryz.prog 1 lp69 (TBN n cap f x (i + 1) [f i] []) Q)
    (high : ltF (f i) x = false → ltF x (f i) = true → Runs Tryz.prog 1 lp69 (TNA n cap f x (i + 1) [] [f i]) Q)
    (same : ltF (f i) x = false → ltF x (f i) = false → Runs Tryz.prog 1 lp69 (TNN n cap f x (i + 1) [] []) Q) : Runs Tryz.prog 1 lp69 (TNN n cap f x i [] []) Q := by
  have e1 : wrapF .i64 (Int.add (.ofNat i) (.ofNat 1)) = .ofNat (i + 1) := wrap_addN (by omega)
  refine Runs.lp (by kernel_rfl) (Runs.sq (by kernel_rfl) (Runs.sqR mixed hk38 [] (by kernel_rfl) (by kernel_rfl) (by kernel_rfl) oblN ?_))
  refine Runs.cd (b := ltF (.ofNat i) (.ofNat n)) (by kernel_rfl) (fun _ => Runs.now (x := .normal) (by kernel_rfl) ?_) (fun hf => by rw [lt_of hlt] at hf; cases hf)
  show Runs Tryz.prog 1 _ _ _
  refine Runs.sq (by kernel_rfl) (Runs.bk (id := 1) (by kernel_rfl) ?_)
  cases h1 : ltF (f i) x with
  | true =>
    have h2 : ltF x (f i) = false := ltF_not.2 (by have := ltF_iff.1 h1; omega)
    refine Runs.sq (by kernel_rfl) (Runs.sqR mixed hk38 [viaV 2 (.pointer (some ⟨0, 0 + i * 1, none⟩)), viaV 3 (.int .i64 (f i)), viaV 5 (.bool true)] (by kernel_rfl) (by kernel_rfl) (by kernel_rfl)
      (oblC (shown_idx (n := n) (by kernel_rfl) hlt) (oblC (shown_cell (by kernel_rfl) (intZ_at (g := 0) (n := n) (f := f) (lv := false) (par := []) (ty := none) (by kernel_rfl) hlt)) (oblC (shown_eq (v := .bool (ltF (f i) x)) (by kernel_rfl) (by kernel_rfl) (by rw [h1])) oblN))) ?_)
    refine Runs.cd (b := true) (by kernel_rfl) (fun _ => ?_) (fun h => by cases h)
    refine Runs.less (af1 := TNN n cap f x i [] []) (less_seenP (clo_all (k := 1) (by kernel_rfl)) (oNN_clo (B := []) (A := [])) (show 1 ≤ 1 by decide) (by kernel_rfl) (by kernel_rfl) (by kernel_rfl) (by kernel_rfl)) ?_
    refine Runs.rg mixed hk38 [viaV 3 (.pointer (some ⟨0, 0 + i * 1, none⟩)), viaV 4 (.int .i64 (f i))] (by kernel_rfl) (by kernel_rfl) (by kernel_rfl)
      (oblC (shown_idx (n := n) (by kernel_rfl) hlt) (oblC (shown_cell (by kernel_rfl) (intZ_at (g := 0) (n := n) (f := f) (lv := false) (par := []) (ty := none) (by kernel_rfl) hlt)) oblN)) ?_
    show Runs Tryz.prog 1 _ _ _
    refine Runs.renumK (sz := 43) (l := S69 n cap x i (bldV 1 1) (.slice none 0 0)) (os := [viewZ n f, rowT [f i]]) (fun j => match j with | 1 => 2 | j => j) (fun j => match j with | 2 => 1 | j => j) (by kernel_rfl) (show 1 ≤ 2 by decide) (by kernel_rfl) ⟨fun _ => .inl (Eq.trans (Eq.refl _) (by kernel_rfl)), fun h => (by cases h), trivial⟩ (by kernel_rfl) (by kernel_rfl) (by kernel_rfl) (by kernel_rfl)
      (obs2 (obs_view (by kernel_rfl)) (obs_rowT (T := [f i]) (p := []) (by kernel_rfl))) ?_
    refine Runs.sqR mixed hk38 [viaV 2 (.pointer (some ⟨0, 0 + i * 1, none⟩)), viaV 3 (.int .i64 (f i)), viaV 5 (.bool false)] (by kernel_rfl) (by kernel_rfl) (by kernel_rfl)
      (oblC (shown_idx (n := n) (by kernel_rfl) hlt) (oblC (shown_cell (by kernel_rfl) (intZ_at (g := 0) (n := n) (f := f) (lv := false) (par := []) (ty := none) (by kernel_rfl) hlt)) (oblC (shown_eq (v := .bool (ltF x (f i))) (by kernel_rfl) (by kernel_rfl) (by rw [h2])) oblN))) ?_
    refine Runs.cd (b := false) (by kernel_rfl) (fun h => by cases h) (fun _ => Runs.now (x := .normal) (by kernel_rfl) ?_)
    show Runs Tryz.prog 1 _ _ _
    refine Runs.rg mixed hk38 [viaV 1 (i64 (i + 1))] (by kernel_rfl) (by kernel_rfl) (by kernel_rfl) (oblC (shown_eq (v := .int .i64 (wrapF .i64 (Int.add (.ofNat i) (.ofNat 1)))) (by kernel_rfl) (by kernel_rfl) (by rw [e1]; rfl)) oblN) ?_
    show Runs Tryz.prog 1 lp69 _ _
    have k := low h1
    unfold TBN at k
    exact Runs.less (less_seenP (clo_all (k := 2) (by kernel_rfl)) (oBN_clo (B := [f i]) (A := [])) (show 1 ≤ 2 by decide) (by kernel_rfl) (by kernel_rfl) (by kernel_rfl) (by kernel_rfl)) k
  | false =>
    refine Runs.sq (by kernel_rfl) (Runs.sqR mixed hk38 [viaV 2 (.pointer (some ⟨0, 0 + i * 1, none⟩)), viaV 3 (.int .i64 (f i)), viaV 5 (.bool false)] (by kernel_rfl) (by kernel_rfl) (by kernel_rfl)
      (oblC (shown_idx (n := n) (by kernel_rfl) hlt) (oblC (shown_cell (by kernel_rfl) (intZ_at (g := 0) (n := n) (f := f) (lv := false) (par := []) (ty := none) (by kernel_rfl) hlt)) (oblC (shown_eq (v := .bool (ltF (f i) x)) (by kernel_rfl) (by kernel_rfl) (by rw [h1])) oblN))) ?_)
    refine Runs.cd (b := false) (by kernel_rfl) (fun h => by cases h) (fun _ => Runs.now (x := .normal) (by kernel_rfl) ?_)
    show Runs Tryz.prog 1 _ _ _
    cases h2 : ltF x (f i) with
    | true =>
      refine Runs.sqR mixed hk38 [viaV 2 (.pointer (some ⟨0, 0 + i * 1, none⟩)), viaV 3 (.int .i64 (f i)), viaV 5 (.bool true)] (by kernel_rfl) (by kernel_rfl) (by kernel_rfl)
        (oblC (shown_idx (n := n) (by kernel_rfl) hlt) (oblC (shown_cell (by kernel_rfl) (intZ_at (g := 0) (n := n) (f := f) (lv := false) (par := []) (ty := none) (by kernel_rfl) hlt)) (oblC (shown_eq (v := .bool (ltF x (f i))) (by kernel_rfl) (by kernel_rfl) (by rw [h2])) oblN))) ?_
      refine Runs.cd (b := true) (by kernel_rfl) (fun _ => ?_) (fun h => by cases h)
      refine Runs.less (af1 := TNN n cap f x i [] []) (less_seenP (clo_all (k := 1) (by kernel_rfl)) (oNN_clo (B := []) (A := [])) (show 1 ≤ 1 by decide) (by kernel_rfl) (by kernel_rfl) (by kernel_rfl) (by kernel_rfl)) ?_
      refine Runs.rg mixed hk38 [viaV 3 (.pointer (some ⟨0, 0 + i * 1, none⟩)), viaV 4 (.int .i64 (f i))] (by kernel_rfl) (by kernel_rfl) (by kernel_rfl)
        (oblC (shown_idx (n := n) (by kernel_rfl) hlt) (oblC (shown_cell (by kernel_rfl) (intZ_at (g := 0) (n := n) (f := f) (lv := false) (par := []) (ty := none) (by kernel_rfl) hlt)) oblN)) ?_
      show Runs Tryz.prog 1 _ _ _
      refine Runs.renumK (sz := 43) (l := S69 n cap x i (.slice none 0 0) (bldV 1 1)) (os := [viewZ n f, rowT [f i]]) (fun j => match j with | 1 => 2 | j => j) (fun j => match j with | 2 => 1 | j => j) (by kernel_rfl) (show 1 ≤ 2 by decide) (by kernel_rfl) ⟨fun _ => .inl (Eq.trans (Eq.refl _) (by kernel_rfl)), fun h => (by cases h), trivial⟩ (by kernel_rfl) (by kernel_rfl) (by kernel_rfl) (by kernel_rfl)
        (obs2 (obs_view (by kernel_rfl)) (obs_rowT (T := [f i]) (p := []) (by kernel_rfl))) ?_
      refine Runs.rg mixed hk38 [viaV 1 (i64 (i + 1))] (by kernel_rfl) (by kernel_rfl) (by kernel_rfl) (oblC (shown_eq (v := .int .i64 (wrapF .i64 (Int.add (.ofNat i) (.ofNat 1)))) (by kernel_rfl) (by kernel_rfl) (by rw [e1]; rfl)) oblN) ?_
      show Runs Tryz.prog 1 lp69 _ _
      have k := high h1 h2
      unfold TNA at k
      exact Runs.less (less_seenP (clo_all (k := 2) (by kernel_rfl)) (oNA_clo (B := []) (A := [f i])) (show 1 ≤ 2 by decide) (by kernel_rfl) (by kernel_rfl) (by kernel_rfl) (by kernel_rfl)) k
    | false =>
      refine Runs.sqR mixed hk38 [viaV 2 (.pointer (some ⟨0, 0 + i * 1, none⟩)), viaV 3 (.int .i64 (f i)), viaV 5 (.bool false)] (by kernel_rfl) (by kernel_rfl) (by kernel_rfl)
        (oblC (shown_idx (n := n) (by kernel_rfl) hlt) (oblC (shown_cell (by kernel_rfl) (intZ_at (g := 0) (n := n) (f := f) (lv := false) (par := []) (ty := none) (by kernel_rfl) hlt)) (oblC (shown_eq (v := .bool (ltF x (f i))) (by kernel_rfl) (by kernel_rfl) (by rw [h2])) oblN))) ?_
      refine Runs.cd (b := false) (by kernel_rfl) (fun h => by cases h) (fun _ => Runs.now (x := .normal) (by kernel_rfl) ?_)
      show Runs Tryz.prog 1 _ _ _
      refine Runs.rg mixed hk38 [viaV 1 (i64 (i + 1))] (by kernel_rfl) (by kernel_rfl) (by kernel_rfl) (oblC (shown_eq (v := .int .i64 (wrapF .i64 (Int.add (.ofNat i) (.ofNat 1)))) (by kernel_rfl) (by kernel_rfl) (by rw [e1]; rfl)) oblN) ?_
      show Runs Tryz.prog 1 lp69 _ _
      exact Runs.less (less_seenP (clo_all (k := 1) (by kernel_rfl)) (oNN_clo (B := []) (A := [])) (show 1 ≤ 1 by decide) (by kernel_rfl) (by kernel_rfl) (by kernel_rfl) (by kernel_rfl)) (same h1 h2)
theorem roundBN (hn : n < 100000) (hB : B.length < 1000000) {i : Nat} (hlt : i < n) {Q : AExit → AF → Prop}
    (low : ltF (f i) x = true → Runs Tryz.prog 1 lp69 (TBN n cap f x (i + 1) (B ++ [f i]) []) Q)
    (high : ltF (f i) x = false → ltF x (f i) = true → Runs Tryz.prog 1 lp69 (TBA n cap f x (i + 1) B [f i]) Q)
    (same : ltF (f i) x = false → ltF x (f i) = false → Runs Tryz.prog 1 lp69 (TBN n cap f x (i + 1) B []) Q) : Runs Tryz.prog 1 lp69 (TBN n cap f x i B []) Q := by
  have e1 : wrapF .i64 (Int.add (.ofNat i) (.ofNat 1)) = .ofNat (i + 1) := wrap_addN (by omega)
  refine Runs.lp (by kernel_rfl) (Runs.sq (by kernel_rfl) (Runs.sqR mixed hk38 [] (by kernel_rfl) (by kernel_rfl) (by kernel_rfl) oblN ?_))
  refine Runs.cd (b := ltF (.ofNat i) (.ofNat n)) (by kernel_rfl) (fun _ => Runs.now (x := .normal) (by kernel_rfl) ?_) (fun hf => by rw [lt_of hlt] at hf; cases hf)
  show Runs Tryz.prog 1 _ _ _
  refine Runs.sq (by kernel_rfl) (Runs.bk (id := 1) (by kernel_rfl) ?_)
  cases h1 : ltF (f i) x with
  | true =>
    have h2 : ltF x (f i) = false := ltF_not.2 (by have := ltF_iff.1 h1; omega)
    refine Runs.sq (by kernel_rfl) (Runs.sqR mixed hk38 [viaV 2 (.pointer (some ⟨0, 0 + i * 1, none⟩)), viaV 3 (.int .i64 (f i)), viaV 5 (.bool true)] (by kernel_rfl) (by kernel_rfl) (by kernel_rfl)
      (oblC (shown_idx (n := n) (by kernel_rfl) hlt) (oblC (shown_cell (by kernel_rfl) (intZ_at (g := 0) (n := n) (f := f) (lv := false) (par := []) (ty := none) (by kernel_rfl) hlt)) (oblC (shown_eq (v := .bool (ltF (f i) x)) (by kernel_rfl) (by kernel_rfl) (by rw [h1])) oblN))) ?_)
    refine Runs.cd (b := true) (by kernel_rfl) (fun _ => ?_) (fun h => by cases h)
    refine Runs.less (af1 := TBN n cap f x i B []) (less_seenP (clo_all (k := 2) (by kernel_rfl)) (oBN_clo (B := B) (A := [])) (show 1 ≤ 2 by decide) (by kernel_rfl) (by kernel_rfl) (by kernel_rfl) (by kernel_rfl)) ?_
    let H2 : AH := ((hp [viewZ n f, rowT B]).new (.cells [Value.int .i64 (f i)] true [] (some 3))).2
    have hap := push_gen (st := 22) (e := 3) (by kernel_rfl) int_info (h := H2) (i := 1) (j := 2) (x := .int .i64 (f i)) (par := []) rfl (litZ_len B) hB (by kernel_rfl) (by kernel_rfl)
    refine Runs.rg mixed hk38 [viaV 3 (.pointer (some ⟨0, 0 + i * 1, none⟩)), viaV 4 (.int .i64 (f i)), ⟨6, bldV 3 (B.length + 1), some ((H2.put 1 (.cells (litZ B) false [] (some 3))).new (.cells (litZ B ++ [Value.int .i64 (f i)]) true [1] (some 3))).2, none⟩] (by kernel_rfl) (by kernel_rfl) (by kernel_rfl)
      (oblC (shown_idx (n := n) (by kernel_rfl) hlt) (oblC (shown_cell (by kernel_rfl) (intZ_at (g := 0) (n := n) (f := f) (lv := false) (par := []) (ty := none) (by kernel_rfl) hlt)) (oblC ⟨by kernel_rfl, (show _ = appendA Tryz.prog #[22, 22] (.slice (some ⟨1, 0, some 1⟩) B.length B.length) (.slice (some ⟨2, 0, none⟩) 1 1) H2 by kernel_rfl).trans hap⟩ oblN))) ?_
    show Runs Tryz.prog 1 _ _ _
    refine Runs.renumK (sz := 43) (l := S69 n cap x i (bldV 1 (B.length + 1)) (.slice none 0 0)) (os := [viewZ n f, rowT (B ++ [f i])]) (fun j => match j with | 1 => 3 | j => j) (fun j => match j with | 3 => 1 | j => j) (by kernel_rfl) (show 1 ≤ 2 by decide) (by kernel_rfl) ⟨fun _ => .inl (Eq.trans (Eq.refl _) (by kernel_rfl)), fun h => (by cases h), trivial⟩ (by kernel_rfl) (by kernel_rfl) (by kernel_rfl) (by kernel_rfl)
      (obs2 (obs_view (by kernel_rfl)) (RenO.row (c := litZ (B ++ [f i])) (lv := true) (p := [1]) (ty := some 3) (by rw [← litZ_app]; exact Eq.trans (Eq.refl _) (by kernel_rfl)) (litZ_plain _) (fun h => h) (.inr rfl))) ?_
    refine Runs.sqR mixed hk38 [viaV 2 (.pointer (some ⟨0, 0 + i * 1, none⟩)), viaV 3 (.int .i64 (f i)), viaV 5 (.bool false)] (by kernel_rfl) (by kernel_rfl) (by kernel_rfl)
      (oblC (shown_idx (n := n) (by kernel_rfl) hlt) (oblC (shown_cell (by kernel_rfl) (intZ_at (g := 0) (n := n) (f := f) (lv := false) (par := []) (ty := none) (by kernel_rfl) hlt)) (oblC (shown_eq (v := .bool (ltF x (f i))) (by kernel_rfl) (by kernel_rfl) (by rw [h2])) oblN))) ?_
    refine Runs.cd (b := false) (by kernel_rfl) (fun h => by cases h) (fun _ => Runs.now (x := .normal) (by kernel_rfl) ?_)
    show Runs Tryz.prog 1 _ _ _
    refine Runs.rg mixed hk38 [viaV 1 (i64 (i + 1))] (by kernel_rfl) (by kernel_rfl) (by kernel_rfl) (oblC (shown_eq (v := .int .i64 (wrapF .i64 (Int.add (.ofNat i) (.ofNat 1)))) (by kernel_rfl) (by kernel_rfl) (by rw [e1]; rfl)) oblN) ?_
    show Runs Tryz.prog 1 lp69 _ _
    have k := low h1
    unfold TBN at k
    rw [show (B ++ [f i]).length = B.length + 1 by simp] at k
    exact Runs.less (less_seenP (clo_all (k := 2) (by kernel_rfl)) (oBN_clo (B := (B ++ [f i])) (A := [])) (show 1 ≤ 2 by decide) (by kernel_rfl) (by kernel_rfl) (by kernel_rfl) (by kernel_rfl)) k
  | false =>
    refine Runs.sq (by kernel_rfl) (Runs.sqR mixed hk38 [viaV 2 (.pointer (some ⟨0, 0 + i * 1, none⟩)), viaV 3 (.int .i64 (f i)), viaV 5 (.bool false)] (by kernel_rfl) (by kernel_rfl) (by kernel_rfl)
      (oblC (shown_idx (n := n) (by kernel_rfl) hlt) (oblC (shown_cell (by kernel_rfl) (intZ_at (g := 0) (n := n) (f := f) (lv := false) (par := []) (ty := none) (by kernel_rfl) hlt)) (oblC (shown_eq (v := .bool (ltF (f i) x)) (by kernel_rfl) (by kernel_rfl) (by rw [h1])) oblN))) ?_)
    refine Runs.cd (b := false) (by kernel_rfl) (fun h => by cases h) (fun _ => Runs.now (x := .normal) (by kernel_rfl) ?_)
    show Runs Tryz.prog 1 _ _ _
    cases h2 : ltF x (f i) with
    | true =>
      refine Runs.sqR mixed hk38 [viaV 2 (.pointer (some ⟨0, 0 + i * 1, none⟩)), viaV 3 (.int .i64 (f i)), viaV 5 (.bool true)] (by kernel_rfl) (by kernel_rfl) (by kernel_rfl)
        (oblC (shown_idx (n := n) (by kernel_rfl) hlt) (oblC (shown_cell (by kernel_rfl) (intZ_at (g := 0) (n := n) (f := f) (lv := false) (par := []) (ty := none) (by kernel_rfl) hlt)) (oblC (shown_eq (v := .bool (ltF x (f i))) (by kernel_rfl) (by kernel_rfl) (by rw [h2])) oblN))) ?_
      refine Runs.cd (b := true) (by kernel_rfl) (fun _ => ?_) (fun h => by cases h)
      refine Runs.less (af1 := TBN n cap f x i B []) (less_seenP (clo_all (k := 2) (by kernel_rfl)) (oBN_clo (B := B) (A := [])) (show 1 ≤ 2 by decide) (by kernel_rfl) (by kernel_rfl) (by kernel_rfl) (by kernel_rfl)) ?_
      refine Runs.rg mixed hk38 [viaV 3 (.pointer (some ⟨0, 0 + i * 1, none⟩)), viaV 4 (.int .i64 (f i))] (by kernel_rfl) (by kernel_rfl) (by kernel_rfl)
        (oblC (shown_idx (n := n) (by kernel_rfl) hlt) (oblC (shown_cell (by kernel_rfl) (intZ_at (g := 0) (n := n) (f := f) (lv := false) (par := []) (ty := none) (by kernel_rfl) hlt)) oblN)) ?_
      show Runs Tryz.prog 1 _ _ _
      refine Runs.renumK (sz := 43) (l := S69 n cap x i (bldV 1 B.length) (bldV 2 1)) (os := [viewZ n f, rowT B, rowT [f i]]) (fun j => match j with | 2 => 3 | j => j) (fun j => match j with | 3 => 2 | j => j) (by kernel_rfl) (show 1 ≤ 3 by decide) (by kernel_rfl) ⟨fun _ => .inl (Eq.trans (Eq.refl _) (by kernel_rfl)), fun h => (by cases h), fun h => (by cases h), trivial⟩ (by kernel_rfl) (by kernel_rfl) (by kernel_rfl) (by kernel_rfl)
        (obs3 (obs_view (by kernel_rfl)) (obs_rowT (T := B) (p := []) (by kernel_rfl)) (obs_rowT (T := [f i]) (p := []) (by kernel_rfl))) ?_
      refine Runs.rg mixed hk38 [viaV 1 (i64 (i + 1))] (by kernel_rfl) (by kernel_rfl) (by kernel_rfl) (oblC (shown_eq (v := .int .i64 (wrapF .i64 (Int.add (.ofNat i) (.ofNat 1)))) (by kernel_rfl) (by kernel_rfl) (by rw [e1]; rfl)) oblN) ?_
      show Runs Tryz.prog 1 lp69 _ _
      have k := high h1 h2
      unfold TBA at k
      exact Runs.less (less_seenP (clo_all (k := 3) (by kernel_rfl)) (oBA_clo (B := B) (A := [f i])) (show 1 ≤ 3 by decide) (by kernel_rfl) (by kernel_rfl) (by kernel_rfl) (by kernel_rfl)) k
    | false =>
      refine Runs.sqR mixed hk38 [viaV 2 (.pointer (some ⟨0, 0 + i * 1, none⟩)), viaV 3 (.int .i64 (f i)), viaV 5 (.bool false)] (by kernel_rfl) (by kernel_rfl) (by kernel_rfl)
        (oblC (shown_idx (n := n) (by kernel_rfl) hlt) (oblC (shown_cell (by kernel_rfl) (intZ_at (g := 0) (n := n) (f := f) (lv := false) (par := []) (ty := none) (by kernel_rfl) hlt)) (oblC (shown_eq (v := .bool (ltF x (f i))) (by kernel_rfl) (by kernel_rfl) (by rw [h2])) oblN))) ?_
      refine Runs.cd (b := false) (by kernel_rfl) (fun h => by cases h) (fun _ => Runs.now (x := .normal) (by kernel_rfl) ?_)
      show Runs Tryz.prog 1 _ _ _
      refine Runs.rg mixed hk38 [viaV 1 (i64 (i + 1))] (by kernel_rfl) (by kernel_rfl) (by kernel_rfl) (oblC (shown_eq (v := .int .i64 (wrapF .i64 (Int.add (.ofNat i) (.ofNat 1)))) (by kernel_rfl) (by kernel_rfl) (by rw [e1]; rfl)) oblN) ?_
      show Runs Tryz.prog 1 lp69 _ _
      exact Runs.less (less_seenP (clo_all (k := 2) (by kernel_rfl)) (oBN_clo (B := B) (A := [])) (show 1 ≤ 2 by decide) (by kernel_rfl) (by kernel_rfl) (by kernel_rfl) (by kernel_rfl)) (same h1 h2)
theorem roundNA (hn : n < 100000) (hA : A.length < 1000000) {i : Nat} (hlt : i < n) {Q : AExit → AF → Prop}
    (low : ltF (f i) x = true → Runs Tryz.prog 1 lp69 (TBA n cap f x (i + 1) [f i] A) Q)
    (high : ltF (f i) x = false → ltF x (f i) = true → Runs Tryz.prog 1 lp69 (TNA n cap f x (i + 1) [] (A ++ [f i])) Q)
    (same : ltF (f i) x = false → ltF x (f i) = false → Runs Tryz.prog 1 lp69 (TNA n cap f x (i + 1) [] A) Q) : Runs Tryz.prog 1 lp69 (TNA n cap f x i [] A) Q := by
  have e1 : wrapF .i64 (Int.add (.ofNat i) (.ofNat 1)) = .ofNat (i + 1) := wrap_addN (by omega)
  refine Runs.lp (by kernel_rfl) (Runs.sq (by kernel_rfl) (Runs.sqR mixed hk38 [] (by kernel_rfl) (by kernel_rfl) (by kernel_rfl) oblN ?_))
  refine Runs.cd (b := ltF (.ofNat i) (.ofNat n)) (by kernel_rfl) (fun _ => Runs.now (x := .normal) (by kernel_rfl) ?_) (fun hf => by rw [lt_of hlt] at hf; cases hf)
  show Runs Tryz.prog 1 _ _ _
  refine Runs.sq (by kernel_rfl) (Runs.bk (id := 1) (by kernel_rfl) ?_)
  cases h1 : ltF (f i) x with
  | true =>
    have h2 : ltF x (f i) = false := ltF_not.2 (by have := ltF_iff.1 h1; omega)
    refine Runs.sq (by kernel_rfl) (Runs.sqR mixed hk38 [viaV 2 (.pointer (some ⟨0, 0 + i * 1, none⟩)), viaV 3 (.int .i64 (f i)), viaV 5 (.bool true)] (by kernel_rfl) (by kernel_rfl) (by kernel_rfl)
      (oblC (shown_idx (n := n) (by kernel_rfl) hlt) (oblC (shown_cell (by kernel_rfl) (intZ_at (g := 0) (n := n) (f := f) (lv := false) (par := []) (ty := none) (by kernel_rfl) hlt)) (oblC (shown_eq (v := .bool (ltF (f i) x)) (by kernel_rfl) (by kernel_rfl) (by rw [h1])) oblN))) ?_)
    refine Runs.cd (b := true) (by kernel_rfl) (fun _ => ?_) (fun h => by cases h)
    refine Runs.less (af1 := TNA n cap f x i [] A) (less_seenP (clo_all (k := 2) (by kernel_rfl)) (oNA_clo (B := []) (A := A)) (show 1 ≤ 2 by decide) (by kernel_rfl) (by kernel_rfl) (by kernel_rfl) (by kernel_rfl)) ?_
    refine Runs.rg mixed hk38 [viaV 3 (.pointer (some ⟨0, 0 + i * 1, none⟩)), viaV 4 (.int .i64 (f i))] (by kernel_rfl) (by kernel_rfl) (by kernel_rfl)
      (oblC (shown_idx (n := n) (by kernel_rfl) hlt) (oblC (shown_cell (by kernel_rfl) (intZ_at (g := 0) (n := n) (f := f) (lv := false) (par := []) (ty := none) (by kernel_rfl) hlt)) oblN)) ?_
    show Runs Tryz.prog 1 _ _ _
    refine Runs.renumK (sz := 43) (l := S69 n cap x i (bldV 1 1) (bldV 2 A.length)) (os := [viewZ n f, rowT [f i], rowT A]) (fun j => match j with | 1 => 3 | 2 => 1 | j => j) (fun j => match j with | 3 => 1 | 1 => 2 | j => j) (by kernel_rfl) (show 1 ≤ 3 by decide) (by kernel_rfl) ⟨fun _ => .inl (Eq.trans (Eq.refl _) (by kernel_rfl)), fun h => (by cases h), fun h => (by cases h), trivial⟩ (by kernel_rfl) (by kernel_rfl) (by kernel_rfl) (by kernel_rfl)
      (obs3 (obs_view (by kernel_rfl)) (obs_rowT (T := [f i]) (p := []) (by kernel_rfl)) (obs_rowT (T := A) (p := []) (by kernel_rfl))) ?_
    refine Runs.sqR mixed hk38 [viaV 2 (.pointer (some ⟨0, 0 + i * 1, none⟩)), viaV 3 (.int .i64 (f i)), viaV 5 (.bool false)] (by kernel_rfl) (by kernel_rfl) (by kernel_rfl)
      (oblC (shown_idx (n := n) (by kernel_rfl) hlt) (oblC (shown_cell (by kernel_rfl) (intZ_at (g := 0) (n := n) (f := f) (lv := false) (par := []) (ty := none) (by kernel_rfl) hlt)) (oblC (shown_eq (v := .bool (ltF x (f i))) (by kernel_rfl) (by kernel_rfl) (by rw [h2])) oblN))) ?_
    refine Runs.cd (b := false) (by kernel_rfl) (fun h => by cases h) (fun _ => Runs.now (x := .normal) (by kernel_rfl) ?_)
    show Runs Tryz.prog 1 _ _ _
    refine Runs.rg mixed hk38 [viaV 1 (i64 (i + 1))] (by kernel_rfl) (by kernel_rfl) (by kernel_rfl) (oblC (shown_eq (v := .int .i64 (wrapF .i64 (Int.add (.ofNat i) (.ofNat 1)))) (by kernel_rfl) (by kernel_rfl) (by rw [e1]; rfl)) oblN) ?_
    show Runs Tryz.prog 1 lp69 _ _
    have k := low h1
    unfold TBA at k
    exact Runs.less (less_seenP (clo_all (k := 3) (by kernel_rfl)) (oBA_clo (B := [f i]) (A := A)) (show 1 ≤ 3 by decide) (by kernel_rfl) (by kernel_rfl) (by kernel_rfl) (by kernel_rfl)) k
  | false =>
    refine Runs.sq (by kernel_rfl) (Runs.sqR mixed hk38 [viaV 2 (.pointer (some ⟨0, 0 + i * 1, none⟩)), viaV 3 (.int .i64 (f i)), viaV 5 (.bool false)] (by kernel_rfl) (by kernel_rfl) (by kernel_rfl)
      (oblC (shown_idx (n := n) (by kernel_rfl) hlt) (oblC (shown_cell (by kernel_rfl) (intZ_at (g := 0) (n := n) (f := f) (lv := false) (par := []) (ty := none) (by kernel_rfl) hlt)) (oblC (shown_eq (v := .bool (ltF (f i) x)) (by kernel_rfl) (by kernel_rfl) (by rw [h1])) oblN))) ?_)
    refine Runs.cd (b := false) (by kernel_rfl) (fun h => by cases h) (fun _ => Runs.now (x := .normal) (by kernel_rfl) ?_)
    show Runs Tryz.prog 1 _ _ _
    cases h2 : ltF x (f i) with
    | true =>
      refine Runs.sqR mixed hk38 [viaV 2 (.pointer (some ⟨0, 0 + i * 1, none⟩)), viaV 3 (.int .i64 (f i)), viaV 5 (.bool true)] (by kernel_rfl) (by kernel_rfl) (by kernel_rfl)
        (oblC (shown_idx (n := n) (by kernel_rfl) hlt) (oblC (shown_cell (by kernel_rfl) (intZ_at (g := 0) (n := n) (f := f) (lv := false) (par := []) (ty := none) (by kernel_rfl) hlt)) (oblC (shown_eq (v := .bool (ltF x (f i))) (by kernel_rfl) (by kernel_rfl) (by rw [h2])) oblN))) ?_
      refine Runs.cd (b := true) (by kernel_rfl) (fun _ => ?_) (fun h => by cases h)
      refine Runs.less (af1 := TNA n cap f x i [] A) (less_seenP (clo_all (k := 2) (by kernel_rfl)) (oNA_clo (B := []) (A := A)) (show 1 ≤ 2 by decide) (by kernel_rfl) (by kernel_rfl) (by kernel_rfl) (by kernel_rfl)) ?_
      let H2 : AH := ((hp [viewZ n f, rowT A]).new (.cells [Value.int .i64 (f i)] true [] (some 3))).2
      have hap := push_gen (st := 22) (e := 3) (by kernel_rfl) int_info (h := H2) (i := 1) (j := 2) (x := .int .i64 (f i)) (par := []) rfl (litZ_len A) hA (by kernel_rfl) (by kernel_rfl)
      refine Runs.rg mixed hk38 [viaV 3 (.pointer (some ⟨0, 0 + i * 1, none⟩)), viaV 4 (.int .i64 (f i)), ⟨6, bldV 3 (A.length + 1), some ((H2.put 1 (.cells (litZ A) false [] (some 3))).new (.cells (litZ A ++ [Value.int .i64 (f i)]) true [1] (some 3))).2, none⟩] (by kernel_rfl) (by kernel_rfl) (by kernel_rfl)
        (oblC (shown_idx (n := n) (by kernel_rfl) hlt) (oblC (shown_cell (by kernel_rfl) (intZ_at (g := 0) (n := n) (f := f) (lv := false) (par := []) (ty := none) (by kernel_rfl) hlt)) (oblC ⟨by kernel_rfl, (show _ = appendA Tryz.prog #[22, 22] (.slice (some ⟨1, 0, some 1⟩) A.length A.length) (.slice (some ⟨2, 0, none⟩) 1 1) H2 by kernel_rfl).trans hap⟩ oblN))) ?_
      show Runs Tryz.prog 1 _ _ _
      refine Runs.renumK (sz := 43) (l := S69 n cap x i (.slice none 0 0) (bldV 1 (A.length + 1))) (os := [viewZ n f, rowT (A ++ [f i])]) (fun j => match j with | 1 => 3 | j => j) (fun j => match j with | 3 => 1 | j => j) (by kernel_rfl) (show 1 ≤ 2 by decide) (by kernel_rfl) ⟨fun _ => .inl (Eq.trans (Eq.refl _) (by kernel_rfl)), fun h => (by cases h), trivial⟩ (by kernel_rfl) (by kernel_rfl) (by kernel_rfl) (by kernel_rfl)
        (obs2 (obs_view (by kernel_rfl)) (RenO.row (c := litZ (A ++ [f i])) (lv := true) (p := [1]) (ty := some 3) (by rw [← litZ_app]; exact Eq.trans (Eq.refl _) (by kernel_rfl)) (litZ_plain _) (fun h => h) (.inr rfl))) ?_
      refine Runs.rg mixed hk38 [viaV 1 (i64 (i + 1))] (by kernel_rfl) (by kernel_rfl) (by kernel_rfl) (oblC (shown_eq (v := .int .i64 (wrapF .i64 (Int.add (.ofNat i) (.ofNat 1)))) (by kernel_rfl) (by kernel_rfl) (by rw [e1]; rfl)) oblN) ?_
      show Runs Tryz.prog 1 lp69 _ _
      have k := high h1 h2
      unfold TNA at k
      rw [show (A ++ [f i]).length = A.length + 1 by simp] at k
      exact Runs.less (less_seenP (clo_all (k := 2) (by kernel_rfl)) (oNA_clo (B := []) (A := (A ++ [f i]))) (show 1 ≤ 2 by decide) (by kernel_rfl) (by kernel_rfl) (by kernel_rfl) (by kernel_rfl)) k
    | false =>
      refine Runs.sqR mixed hk38 [viaV 2 (.pointer (some ⟨0, 0 + i * 1, none⟩)), viaV 3 (.int .i64 (f i)), viaV 5 (.bool false)] (by kernel_rfl) (by kernel_rfl) (by kernel_rfl)
        (oblC (shown_idx (n := n) (by kernel_rfl) hlt) (oblC (shown_cell (by kernel_rfl) (intZ_at (g := 0) (n := n) (f := f) (lv := false) (par := []) (ty := none) (by kernel_rfl) hlt)) (oblC (shown_eq (v := .bool (ltF x (f i))) (by kernel_rfl) (by kernel_rfl) (by rw [h2])) oblN))) ?_
      refine Runs.cd (b := false) (by kernel_rfl) (fun h => by cases h) (fun _ => Runs.now (x := .normal) (by kernel_rfl) ?_)
      show Runs Tryz.prog 1 _ _ _
      refine Runs.rg mixed hk38 [viaV 1 (i64 (i + 1))] (by kernel_rfl) (by kernel_rfl) (by kernel_rfl) (oblC (shown_eq (v := .int .i64 (wrapF .i64 (Int.add (.ofNat i) (.ofNat 1)))) (by kernel_rfl) (by kernel_rfl) (by rw [e1]; rfl)) oblN) ?_
      show Runs Tryz.prog 1 lp69 _ _
      exact Runs.less (less_seenP (clo_all (k := 2) (by kernel_rfl)) (oNA_clo (B := []) (A := A)) (show 1 ≤ 2 by decide) (by kernel_rfl) (by kernel_rfl) (by kernel_rfl) (by kernel_rfl)) (same h1 h2)
theorem roundBA (hn : n < 100000) (hB : B.length < 1000000) (hA : A.length < 1000000) {i : Nat} (hlt : i < n) {Q : AExit → AF → Prop}
    (low : ltF (f i) x = true → Runs Tryz.prog 1 lp69 (TBA n cap f x (i + 1) (B ++ [f i]) A) Q)
    (high : ltF (f i) x = false → ltF x (f i) = true → Runs Tryz.prog 1 lp69 (TBA n cap f x (i + 1) B (A ++ [f i])) Q)
    (same : ltF (f i) x = false → ltF x (f i) = false → Runs Tryz.prog 1 lp69 (TBA n cap f x (i + 1) B A) Q) : Runs Tryz.prog 1 lp69 (TBA n cap f x i B A) Q := by
  have e1 : wrapF .i64 (Int.add (.ofNat i) (.ofNat 1)) = .ofNat (i + 1) := wrap_addN (by omega)
  refine Runs.lp (by kernel_rfl) (Runs.sq (by kernel_rfl) (Runs.sqR mixed hk38 [] (by kernel_rfl) (by kernel_rfl) (by kernel_rfl) oblN ?_))
  refine Runs.cd (b := ltF (.ofNat i) (.ofNat n)) (by kernel_rfl) (fun _ => Runs.now (x := .normal) (by kernel_rfl) ?_) (fun hf => by rw [lt_of hlt] at hf; cases hf)
  show Runs Tryz.prog 1 _ _ _
  refine Runs.sq (by kernel_rfl) (Runs.bk (id := 1) (by kernel_rfl) ?_)
  cases h1 : ltF (f i) x with
  | true =>
    have h2 : ltF x (f i) = false := ltF_not.2 (by have := ltF_iff.1 h1; omega)
    refine Runs.sq (by kernel_rfl) (Runs.sqR mixed hk38 [viaV 2 (.pointer (some ⟨0, 0 + i * 1, none⟩)), viaV 3 (.int .i64 (f i)), viaV 5 (.bool true)] (by kernel_rfl) (by kernel_rfl) (by kernel_rfl)
      (oblC (shown_idx (n := n) (by kernel_rfl) hlt) (oblC (shown_cell (by kernel_rfl) (intZ_at (g := 0) (n := n) (f := f) (lv := false) (par := []) (ty := none) (by kernel_rfl) hlt)) (oblC (shown_eq (v := .bool (ltF (f i) x)) (by kernel_rfl) (by kernel_rfl) (by rw [h1])) oblN))) ?_)
    refine Runs.cd (b := true) (by kernel_rfl) (fun _ => ?_) (fun h => by cases h)
    refine Runs.less (af1 := TBA n cap f x i B A) (less_seenP (clo_all (k := 3) (by kernel_rfl)) (oBA_clo (B := B) (A := A)) (show 1 ≤ 3 by decide) (by kernel_rfl) (by kernel_rfl) (by kernel_rfl) (by kernel_rfl)) ?_
    let H2 : AH := ((hp [viewZ n f, rowT B, rowT A]).new (.cells [Value.int .i64 (f i)] true [] (some 3))).2
    have hap := push_gen (st := 22) (e := 3) (by kernel_rfl) int_info (h := H2) (i := 1) (j := 3) (x := .int .i64 (f i)) (par := []) rfl (litZ_len B) hB (by kernel_rfl) (by kernel_rfl)
    refine Runs.rg mixed hk38 [viaV 3 (.pointer (some ⟨0, 0 + i * 1, none⟩)), viaV 4 (.int .i64 (f i)), ⟨6, bldV 4 (B.length + 1), some ((H2.put 1 (.cells (litZ B) false [] (some 3))).new (.cells (litZ B ++ [Value.int .i64 (f i)]) true [1] (some 3))).2, none⟩] (by kernel_rfl) (by kernel_rfl) (by kernel_rfl)
      (oblC (shown_idx (n := n) (by kernel_rfl) hlt) (oblC (shown_cell (by kernel_rfl) (intZ_at (g := 0) (n := n) (f := f) (lv := false) (par := []) (ty := none) (by kernel_rfl) hlt)) (oblC ⟨by kernel_rfl, (show _ = appendA Tryz.prog #[22, 22] (.slice (some ⟨1, 0, some 1⟩) B.length B.length) (.slice (some ⟨3, 0, none⟩) 1 1) H2 by kernel_rfl).trans hap⟩ oblN))) ?_
    show Runs Tryz.prog 1 _ _ _
    refine Runs.renumK (sz := 43) (l := S69 n cap x i (bldV 1 (B.length + 1)) (bldV 2 A.length)) (os := [viewZ n f, rowT (B ++ [f i]), rowT A]) (fun j => match j with | 1 => 4 | j => j) (fun j => match j with | 4 => 1 | j => j) (by kernel_rfl) (show 1 ≤ 3 by decide) (by kernel_rfl) ⟨fun _ => .inl (Eq.trans (Eq.refl _) (by kernel_rfl)), fun h => (by cases h), fun h => (by cases h), trivial⟩ (by kernel_rfl) (by kernel_rfl) (by kernel_rfl) (by kernel_rfl)
      (obs3 (obs_view (by kernel_rfl)) (RenO.row (c := litZ (B ++ [f i])) (lv := true) (p := [1]) (ty := some 3) (by rw [← litZ_app]; exact Eq.trans (Eq.refl _) (by kernel_rfl)) (litZ_plain _) (fun h => h) (.inr rfl)) (obs_rowT (T := A) (p := []) (by kernel_rfl))) ?_
    refine Runs.sqR mixed hk38 [viaV 2 (.pointer (some ⟨0, 0 + i * 1, none⟩)), viaV 3 (.int .i64 (f i)), viaV 5 (.bool false)] (by kernel_rfl) (by kernel_rfl) (by kernel_rfl)
      (oblC (shown_idx (n := n) (by kernel_rfl) hlt) (oblC (shown_cell (by kernel_rfl) (intZ_at (g := 0) (n := n) (f := f) (lv := false) (par := []) (ty := none) (by kernel_rfl) hlt)) (oblC (shown_eq (v := .bool (ltF x (f i))) (by kernel_rfl) (by kernel_rfl) (by rw [h2])) oblN))) ?_
    refine Runs.cd (b := false) (by kernel_rfl) (fun h => by cases h) (fun _ => Runs.now (x := .normal) (by kernel_rfl) ?_)
    show Runs Tryz.prog 1 _ _ _
    refine Runs.rg mixed hk38 [viaV 1 (i64 (i + 1))] (by kernel_rfl) (by kernel_rfl) (by kernel_rfl) (oblC (shown_eq (v := .int .i64 (wrapF .i64 (Int.add (.ofNat i) (.ofNat 1)))) (by kernel_rfl) (by kernel_rfl) (by rw [e1]; rfl)) oblN) ?_
    show Runs Tryz.prog 1 lp69 _ _
    have k := low h1
    unfold TBA at k
    rw [show (B ++ [f i]).length = B.length + 1 by simp] at k
    exact Runs.less (less_seenP (clo_all (k := 3) (by kernel_rfl)) (oBA_clo (B := (B ++ [f i])) (A := A)) (show 1 ≤ 3 by decide) (by kernel_rfl) (by kernel_rfl) (by kernel_rfl) (by kernel_rfl)) k
  | false =>
    refine Runs.sq (by kernel_rfl) (Runs.sqR mixed hk38 [viaV 2 (.pointer (some ⟨0, 0 + i * 1, none⟩)), viaV 3 (.int .i64 (f i)), viaV 5 (.bool false)] (by kernel_rfl) (by kernel_rfl) (by kernel_rfl)
      (oblC (shown_idx (n := n) (by kernel_rfl) hlt) (oblC (shown_cell (by kernel_rfl) (intZ_at (g := 0) (n := n) (f := f) (lv := false) (par := []) (ty := none) (by kernel_rfl) hlt)) (oblC (shown_eq (v := .bool (ltF (f i) x)) (by kernel_rfl) (by kernel_rfl) (by rw [h1])) oblN))) ?_)
    refine Runs.cd (b := false) (by kernel_rfl) (fun h => by cases h) (fun _ => Runs.now (x := .normal) (by kernel_rfl) ?_)
    show Runs Tryz.prog 1 _ _ _
    cases h2 : ltF x (f i) with
    | true =>
      refine Runs.sqR mixed hk38 [viaV 2 (.pointer (some ⟨0, 0 + i * 1, none⟩)), viaV 3 (.int .i64 (f i)), viaV 5 (.bool true)] (by kernel_rfl) (by kernel_rfl) (by kernel_rfl)
        (oblC (shown_idx (n := n) (by kernel_rfl) hlt) (oblC (shown_cell (by kernel_rfl) (intZ_at (g := 0) (n := n) (f := f) (lv := false) (par := []) (ty := none) (by kernel_rfl) hlt)) (oblC (shown_eq (v := .bool (ltF x (f i))) (by kernel_rfl) (by kernel_rfl) (by rw [h2])) oblN))) ?_
      refine Runs.cd (b := true) (by kernel_rfl) (fun _ => ?_) (fun h => by cases h)
      refine Runs.less (af1 := TBA n cap f x i B A) (less_seenP (clo_all (k := 3) (by kernel_rfl)) (oBA_clo (B := B) (A := A)) (show 1 ≤ 3 by decide) (by kernel_rfl) (by kernel_rfl) (by kernel_rfl) (by kernel_rfl)) ?_
      let H2 : AH := ((hp [viewZ n f, rowT B, rowT A]).new (.cells [Value.int .i64 (f i)] true [] (some 3))).2
      have hap := push_gen (st := 22) (e := 3) (by kernel_rfl) int_info (h := H2) (i := 2) (j := 3) (x := .int .i64 (f i)) (par := []) rfl (litZ_len A) hA (by kernel_rfl) (by kernel_rfl)
      refine Runs.rg mixed hk38 [viaV 3 (.pointer (some ⟨0, 0 + i * 1, none⟩)), viaV 4 (.int .i64 (f i)), ⟨6, bldV 4 (A.length + 1), some ((H2.put 2 (.cells (litZ A) false [] (some 3))).new (.cells (litZ A ++ [Value.int .i64 (f i)]) true [2] (some 3))).2, none⟩] (by kernel_rfl) (by kernel_rfl) (by kernel_rfl)
        (oblC (shown_idx (n := n) (by kernel_rfl) hlt) (oblC (shown_cell (by kernel_rfl) (intZ_at (g := 0) (n := n) (f := f) (lv := false) (par := []) (ty := none) (by kernel_rfl) hlt)) (oblC ⟨by kernel_rfl, (show _ = appendA Tryz.prog #[22, 22] (.slice (some ⟨2, 0, some 1⟩) A.length A.length) (.slice (some ⟨3, 0, none⟩) 1 1) H2 by kernel_rfl).trans hap⟩ oblN))) ?_
      show Runs Tryz.prog 1 _ _ _
      refine Runs.renumK (sz := 43) (l := S69 n cap x i (bldV 1 B.length) (bldV 2 (A.length + 1))) (os := [viewZ n f, rowT B, rowT (A ++ [f i])]) (fun j => match j with | 2 => 4 | j => j) (fun j => match j with | 4 => 2 | j => j) (by kernel_rfl) (show 1 ≤ 3 by decide) (by kernel_rfl) ⟨fun _ => .inl (Eq.trans (Eq.refl _) (by kernel_rfl)), fun h => (by cases h), fun h => (by cases h), trivial⟩ (by kernel_rfl) (by kernel_rfl) (by kernel_rfl) (by kernel_rfl)
        (obs3 (obs_view (by kernel_rfl)) (obs_rowT (T := B) (p := []) (by kernel_rfl)) (RenO.row (c := litZ (A ++ [f i])) (lv := true) (p := [2]) (ty := some 3) (by rw [← litZ_app]; exact Eq.trans (Eq.refl _) (by kernel_rfl)) (litZ_plain _) (fun h => h) (.inr rfl))) ?_
      refine Runs.rg mixed hk38 [viaV 1 (i64 (i + 1))] (by kernel_rfl) (by kernel_rfl) (by kernel_rfl) (oblC (shown_eq (v := .int .i64 (wrapF .i64 (Int.add (.ofNat i) (.ofNat 1)))) (by kernel_rfl) (by kernel_rfl) (by rw [e1]; rfl)) oblN) ?_
      show Runs Tryz.prog 1 lp69 _ _
      have k := high h1 h2
      unfold TBA at k
      rw [show (A ++ [f i]).length = A.length + 1 by simp] at k
      exact Runs.less (less_seenP (clo_all (k := 3) (by kernel_rfl)) (oBA_clo (B := B) (A := (A ++ [f i]))) (show 1 ≤ 3 by decide) (by kernel_rfl) (by kernel_rfl) (by kernel_rfl) (by kernel_rfl)) k
    | false =>
      refine Runs.sqR mixed hk38 [viaV 2 (.pointer (some ⟨0, 0 + i * 1, none⟩)), viaV 3 (.int .i64 (f i)), viaV 5 (.bool false)] (by kernel_rfl) (by kernel_rfl) (by kernel_rfl)
        (oblC (shown_idx (n := n) (by kernel_rfl) hlt) (oblC (shown_cell (by kernel_rfl) (intZ_at (g := 0) (n := n) (f := f) (lv := false) (par := []) (ty := none) (by kernel_rfl) hlt)) (oblC (shown_eq (v := .bool (ltF x (f i))) (by kernel_rfl) (by kernel_rfl) (by rw [h2])) oblN))) ?_
      refine Runs.cd (b := false) (by kernel_rfl) (fun h => by cases h) (fun _ => Runs.now (x := .normal) (by kernel_rfl) ?_)
      show Runs Tryz.prog 1 _ _ _
      refine Runs.rg mixed hk38 [viaV 1 (i64 (i + 1))] (by kernel_rfl) (by kernel_rfl) (by kernel_rfl) (oblC (shown_eq (v := .int .i64 (wrapF .i64 (Int.add (.ofNat i) (.ofNat 1)))) (by kernel_rfl) (by kernel_rfl) (by rw [e1]; rfl)) oblN) ?_
      show Runs Tryz.prog 1 lp69 _ _
      exact Runs.less (less_seenP (clo_all (k := 3) (by kernel_rfl)) (oBA_clo (B := B) (A := A)) (show 1 ≤ 3 by decide) (by kernel_rfl) (by kernel_rfl) (by kernel_rfl) (by kernel_rfl)) (same h1 h2)
end
end
end Go.Proofs.YtgnkjmgkfibipaaGreatDoor

/- TrialPlans: the reference's parted, told. -/
namespace Go.Proofs.YtgnkjmgkfibipaaGreatDoor
set_option linter.unusedVariables false
set_option linter.unusedSimpArgs false
open Go Go.R
set_option maxRecDepth 1000000
noncomputable section

theorem low_yes {x y : Int} {r : List Int} (h : ltF y x = true) : lowL x (y :: r) = y :: lowL x r := by unfold lowL; rw [List.filter_cons, h]; rfl
theorem low_no {x y : Int} {r : List Int} (h : ltF y x = false) : lowL x (y :: r) = lowL x r := by unfold lowL; rw [List.filter_cons, h]; rfl
theorem high_yes {x y : Int} {r : List Int} (h : ltF x y = true) : highL x (y :: r) = y :: highL x r := by unfold highL; rw [List.filter_cons, h]; rfl
theorem high_no {x y : Int} {r : List Int} (h : ltF x y = false) : highL x (y :: r) = highL x r := by unfold highL; rw [List.filter_cons, h]; rfl
theorem lt_asym {x y : Int} (h : ltF x y = true) : ltF y x = false := ltF_not.2 (by have := ltF_iff.1 h; omega)

noncomputable def StP (n cap : Nat) (f : Nat → Int) (x : Int) (i : Nat) (B A : List Int) : AF := match B, A with
  | [], [] => TNN n cap f x i [] []
  | b :: B, [] => TBN n cap f x i (b :: B) []
  | [], a :: A => TNA n cap f x i [] (a :: A)
  | b :: B, a :: A => TBA n cap f x i (b :: B) (a :: A)
section
variable {n cap : Nat} {f : Nat → Int} {x : Int}
theorem part_stop {B A : List Int} {Q : AExit → AF → Prop} (q : ∀ af, Less 1 (StP n cap f x n B A) af → Q (.exit 0) af) : Runs Tryz.prog 1 lp69 (StP n cap f x n B A) Q := by
  match B, A, q with
  | [], [], q =>
    refine Runs.lp (by kernel_rfl) (Runs.sq (by kernel_rfl) (Runs.sqR mixed hk38 [] (by kernel_rfl) (by kernel_rfl) (by kernel_rfl) oblN ?_))
    refine Runs.cd (b := ltF (.ofNat n) (.ofNat n)) (by kernel_rfl) (fun ht => by rw [lt_self] at ht; cases ht) (fun _ => Runs.now (x := .exit 0) (by kernel_rfl) (q _ ?_))
    exact less_seenP (clo_all (k := 1) (by kernel_rfl)) (oNN_clo (B := []) (A := [])) (show 1 ≤ 1 by decide) (by kernel_rfl) (by kernel_rfl) (by kernel_rfl) (by kernel_rfl)
  | b :: B, [], q =>
    refine Runs.lp (by kernel_rfl) (Runs.sq (by kernel_rfl) (Runs.sqR mixed hk38 [] (by kernel_rfl) (by kernel_rfl) (by kernel_rfl) oblN ?_))
    refine Runs.cd (b := ltF (.ofNat n) (.ofNat n)) (by kernel_rfl) (fun ht => by rw [lt_self] at ht; cases ht) (fun _ => Runs.now (x := .exit 0) (by kernel_rfl) (q _ ?_))
    exact less_seenP (clo_all (k := 2) (by kernel_rfl)) (oBN_clo (B := b :: B) (A := [])) (show 1 ≤ 2 by decide) (by kernel_rfl) (by kernel_rfl) (by kernel_rfl) (by kernel_rfl)
  | [], a :: A, q =>
    refine Runs.lp (by kernel_rfl) (Runs.sq (by kernel_rfl) (Runs.sqR mixed hk38 [] (by kernel_rfl) (by kernel_rfl) (by kernel_rfl) oblN ?_))
    refine Runs.cd (b := ltF (.ofNat n) (.ofNat n)) (by kernel_rfl) (fun ht => by rw [lt_self] at ht; cases ht) (fun _ => Runs.now (x := .exit 0) (by kernel_rfl) (q _ ?_))
    exact less_seenP (clo_all (k := 2) (by kernel_rfl)) (oNA_clo (B := []) (A := a :: A)) (show 1 ≤ 2 by decide) (by kernel_rfl) (by kernel_rfl) (by kernel_rfl) (by kernel_rfl)
  | b :: B, a :: A, q =>
    refine Runs.lp (by kernel_rfl) (Runs.sq (by kernel_rfl) (Runs.sqR mixed hk38 [] (by kernel_rfl) (by kernel_rfl) (by kernel_rfl) oblN ?_))
    refine Runs.cd (b := ltF (.ofNat n) (.ofNat n)) (by kernel_rfl) (fun ht => by rw [lt_self] at ht; cases ht) (fun _ => Runs.now (x := .exit 0) (by kernel_rfl) (q _ ?_))
    exact less_seenP (clo_all (k := 3) (by kernel_rfl)) (oBA_clo (B := b :: B) (A := a :: A)) (show 1 ≤ 3 by decide) (by kernel_rfl) (by kernel_rfl) (by kernel_rfl) (by kernel_rfl)

theorem part_round (hn : n < 100000) {i : Nat} (hlt : i < n) {B A : List Int} (hB : B.length ≤ i) (hA : A.length ≤ i) {Q : AExit → AF → Prop}
    (low : ltF (f i) x = true → Runs Tryz.prog 1 lp69 (StP n cap f x (i + 1) (B ++ [f i]) A) Q)
    (high : ltF (f i) x = false → ltF x (f i) = true → Runs Tryz.prog 1 lp69 (StP n cap f x (i + 1) B (A ++ [f i])) Q)
    (same : ltF (f i) x = false → ltF x (f i) = false → Runs Tryz.prog 1 lp69 (StP n cap f x (i + 1) B A) Q) : Runs Tryz.prog 1 lp69 (StP n cap f x i B A) Q := by
  match B, A, hB, hA, low, high, same with
  | [], [], hB, hA, low, high, same => exact roundNN hn hlt low high same
  | b :: B, [], hB, hA, low, high, same => exact roundBN hn (by omega) hlt low high same
  | [], a :: A, hB, hA, low, high, same => exact roundNA hn (by omega) hlt low high same
  | b :: B, a :: A, hB, hA, low, high, same => exact roundBA hn (by omega) (by omega) hlt low high same

theorem part_loop (hn : n < 100000) {Q : AExit → AF → Prop} : ∀ d i B A, i + d = n → B.length ≤ i → A.length ≤ i →
    (∀ af, Less 1 (StP n cap f x n (B ++ lowL x ((lstF f n).drop i)) (A ++ highL x ((lstF f n).drop i))) af → Q (.exit 0) af) → Runs Tryz.prog 1 lp69 (StP n cap f x i B A) Q
  | 0, i, B, A, h, _, _, q => by
    have e : i = n := by omega
    subst e
    rw [List.drop_eq_nil_of_le (by rw [lstF_len]; exact Nat.le_refl _)] at q
    refine part_stop fun af less => q af ?_
    rw [show B ++ lowL x [] = B from List.append_nil B, show A ++ highL x [] = A from List.append_nil A]
    exact less
  | d + 1, i, B, A, h, hB, hA, q => by
    rw [lstF_drop (by omega)] at q
    refine part_round hn (by omega) hB hA (fun h1 => ?_) (fun h1 h2 => ?_) (fun h1 h2 => ?_)
    · refine part_loop hn d (i + 1) (B ++ [f i]) A (by omega) (by rw [List.length_append]; exact Nat.add_le_add hB (Nat.le_refl 1)) (by omega) fun af less => q af ?_
      rw [low_yes h1, high_no (lt_asym h1), show B ++ f i :: lowL x ((lstF f n).drop (i + 1)) = B ++ [f i] ++ lowL x ((lstF f n).drop (i + 1)) by simp]
      exact less
    · refine part_loop hn d (i + 1) B (A ++ [f i]) (by omega) (by omega) (by rw [List.length_append]; exact Nat.add_le_add hA (Nat.le_refl 1)) fun af less => q af ?_
      rw [low_no h1, high_yes h2, show A ++ f i :: highL x ((lstF f n).drop (i + 1)) = A ++ [f i] ++ highL x ((lstF f n).drop (i + 1)) by simp]
      exact less
    · refine part_loop hn d (i + 1) B A (by omega) (by omega) (by omega) fun af less => q af ?_
      rw [low_no h1, high_no h2]
      exact less

theorem renO_dead {ρ : Nat → Nat} {m : Nat} {o : AObj} : RenO ρ m o .dead := by cases o <;> trivial
noncomputable def os3 (n : Nat) (f : Nat → Int) (B A : List Int) : List AObj := [viewZ n f, obZ B, obZ A]
theorem part_end {B A : List Int} : Runs Tryz.prog 1 (behind 3 c69) (StP n cap f x n B A) (EndsAs Tryz.prog Tryz.f69 (NewSt 1 (os3 n f B A) (.tuple #[slZ 1 B, slZ 2 A]))) := by
  match B, A with
  | [], [] =>
    refine Runs.sqR mixed hk38 [] (by kernel_rfl) (by kernel_rfl) (by kernel_rfl) oblN (Runs.now (x := .ret) (by kernel_rfl) ⟨.inr rfl, [.slice none 0 0, .slice none 0 0], by kernel_rfl, ?_⟩)
    exact ⟨fun j => match j with | 1 => 90 | 2 => 91 | j => j, fun j => j, by kernel_rfl, by kernel_rfl, by kernel_rfl, by kernel_rfl, by kernel_rfl, obs3 (obs_view (by kernel_rfl)) renO_dead renO_dead⟩
  | b :: B, [] =>
    refine Runs.sqR mixed hk38 [] (by kernel_rfl) (by kernel_rfl) (by kernel_rfl) oblN (Runs.now (x := .ret) (by kernel_rfl) ⟨.inr rfl, [bldV 1 (B.length + 1), .slice none 0 0], by kernel_rfl, ?_⟩)
    exact ⟨fun j => match j with | 2 => 91 | j => j, fun j => j, by kernel_rfl, by kernel_rfl, by kernel_rfl, by kernel_rfl, by kernel_rfl, obs3 (obs_view (by kernel_rfl)) (obs_rowT (T := b :: B) (p := []) (by kernel_rfl)) renO_dead⟩
  | [], a :: A =>
    refine Runs.sqR mixed hk38 [] (by kernel_rfl) (by kernel_rfl) (by kernel_rfl) oblN (Runs.now (x := .ret) (by kernel_rfl) ⟨.inr rfl, [.slice none 0 0, bldV 1 (A.length + 1)], by kernel_rfl, ?_⟩)
    exact ⟨fun j => match j with | 1 => 90 | 2 => 1 | j => j, fun j => match j with | 1 => 2 | j => j, by kernel_rfl, by kernel_rfl, by kernel_rfl, by kernel_rfl, by kernel_rfl, obs3 (obs_view (by kernel_rfl)) renO_dead (obs_rowT (T := a :: A) (p := []) (by kernel_rfl))⟩
  | b :: B, a :: A =>
    refine Runs.sqR mixed hk38 [] (by kernel_rfl) (by kernel_rfl) (by kernel_rfl) oblN (Runs.now (x := .ret) (by kernel_rfl) ⟨.inr rfl, [bldV 1 (B.length + 1), bldV 2 (A.length + 1)], by kernel_rfl, ?_⟩)
    exact ⟨fun j => j, fun j => j, by kernel_rfl, by kernel_rfl, by kernel_rfl, by kernel_rfl, by kernel_rfl, obs3 (obs_view (by kernel_rfl)) (obs_rowT (T := b :: B) (p := []) (by kernel_rfl)) (obs_rowT (T := a :: A) (p := []) (by kernel_rfl))⟩

theorem parted_says (hn : n < 100000) : Says Tryz.prog (hp [viewZ n f]) 69 [slV n cap, .int .i64 x] (.tuple #[slZ 1 (lowL x (lstF f n)), slZ 2 (highL x (lstF f n))]) (hp (os3 n f (lowL x (lstF f n)) (highL x (lstF f n)))) := by
  refine says_ren (os0 := [viewZ n f]) (fun j o h => ?_) ?_
  · cases j with
    | zero => exact h
    | succ j => cases h
  · show Local Tryz.prog 1 69 _ _ _
    refine local_of noNum Tryz.func69 (show Tryz.f69.body = some c69 by kernel_rfl) ?_
    refine Runs.sqR mixed hk38 [] (by kernel_rfl) (by kernel_rfl) (by kernel_rfl) oblN ?_
    refine Runs.sqR mixed hk38 [] (by kernel_rfl) (by kernel_rfl) (by kernel_rfl) oblN ?_
    refine Runs.sq (by kernel_rfl) (Runs.sqR mixed hk38 [] (by kernel_rfl) (by kernel_rfl) (by kernel_rfl) oblN (Runs.bk (id := 0) (by kernel_rfl) ?_))
    refine Runs.less (af1 := StP n cap f x 0 [] []) (less_seenP (clo_all (k := 1) (by kernel_rfl)) (oNN_clo (B := []) (A := [])) (show 1 ≤ 1 by decide) (by kernel_rfl) (by kernel_rfl) (by kernel_rfl) (by kernel_rfl)) ?_
    show Runs Tryz.prog 1 lp69 _ _
    refine part_loop hn n 0 [] [] (by omega) (Nat.zero_le _) (Nat.zero_le _) fun af less => ?_
    show Runs Tryz.prog 1 (behind 3 c69) af _
    exact Runs.less less part_end
end
end
end Go.Proofs.YtgnkjmgkfibipaaGreatDoor
