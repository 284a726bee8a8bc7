/- TrialPrices: rows of lists; same, raised, appends. -/
import Derived.Test.YtgnkjmgkfibipaaDoorKPri1
import Derived.Test.YtgnkjmgkfibipaaDoorRVias
namespace Go.Proofs.YtgnkjmgkfibipaaDoor
set_option linter.unusedVariables false
set_option linter.unusedSimpArgs false
open Go Go.R
set_option maxRecDepth 1000000
noncomputable section

def litI (l : List Nat) : List Value := l.map fun x => .int .i64 (.ofNat x)
def rowL (l : List Nat) : AObj := .cells (litI l) true [] (some 3)
theorem litI_len (l : List Nat) : (litI l).length = l.length := by simp [litI]
theorem litI_plain (l : List Nat) : ∀ x ∈ litI l, plainV x = true := fun x hx => by
  obtain ⟨i, _, rfl⟩ := List.mem_map.1 hx; rfl
theorem litI_cell (l : List Nat) : (litI l).all cellV = true := List.all_eq_true.2 fun x hx => by
  obtain ⟨i, _, rfl⟩ := List.mem_map.1 hx; rfl
theorem litI_app (a b : List Nat) : litI a ++ litI b = litI (a ++ b) := by simp [litI]
theorem lit_at {h : AH} {g i : Nat} {l : List Nat} {lv : Bool} {par : List Nat} {ty : Option TypeId} (hg : h.get g = .cells (litI l) lv par ty) (hlt : i < l.length) : rowAt? h g (0 + i * 1) 1 = some [.int .i64 (.ofNat (l.getD i 0))] := by
  rw [row_at hg (by rw [litI_len]; omega), Nat.zero_add, Nat.mul_one]
  have : (litI l)[i]? = some (.int .i64 (.ofNat (l.getD i 0))) := by
    unfold litI
    rw [List.getElem?_map, List.getElem?_eq_getElem hlt, List.getD_eq_getElem?_getD, List.getElem?_eq_getElem hlt]
    rfl
  rw [List.take_one, List.head?_drop, this]
  rfl
theorem whole_at {h : AH} {g : Nat} {l : List Nat} {lv : Bool} {par : List Nat} {ty : Option TypeId} (hg : h.get g = .cells (litI l) lv par ty) : rowAt? h g 0 (l.length * 1) = some (litI l) := by
  rw [row_at hg (by rw [litI_len]; omega), List.drop_zero, List.take_of_length_le (by rw [litI_len]; omega)]

/-! ### Appends of whole lists -/
section
variable {h : AH} {i0 j : Nat} {A B : List Nat} {par : List Nat} {lv2 : Bool} {par2 : List Nat} {sp2 : Option Nat}

theorem app_pre (hB : B ≠ []) (h2 : h.get j = .cells (litI B) lv2 par2 (some 3)) : srcA 1 (.slice (some ⟨j, 0, sp2⟩) B.length B.length) h = some (litI B, B.length) := by
  have hpos : ¬ B.length = 0 := fun e => hB (List.eq_nil_of_length_eq_zero e)
  unfold srcA
  simp only [if_neg hpos]
  rw [whole_at h2]
  rfl

/-- Onto a slice whose capacity is not known. -/
theorem app_u (hB : B ≠ []) (hlen : A.length < 1000000 ∧ B.length < 1000000) (h1 : h.get i0 = .cells (litI A) true par (some 3)) (h2 : h.get j = .cells (litI B) lv2 par2 (some 3)) :
    appendA Tryd.prog #[24, 24] (.slice (some ⟨i0, 0, some 1⟩) A.length A.length) (.slice (some ⟨j, 0, sp2⟩) B.length B.length) h =
      some (.slice (some ⟨h.next, 0, some 1⟩) (A.length + B.length) (A.length + B.length), ((h.put i0 (.cells (litI A) false par (some 3))).new (.cells (litI A ++ litI B) true (i0 :: par) (some 3))).2) := by
  have e1 : Tryd.prog.underlying 24 = some (.slice 3) := by kernel_rfl
  obtain ⟨info, e2, e3, e4⟩ := int_info
  rw [Bool.or_eq_false_iff] at e4
  have hpos : ¬ B.length = 0 := fun e => hB (List.eq_nil_of_length_eq_zero e)
  have e6 : (decide (A.length > 1000000)) = false := by simp; omega
  have e6' : (decide (B.length > 1000000)) = false := by simp; omega
  have e7 : appendU 3 1 i0 0 A.length B.length (litI B) h = some (.slice (some ⟨h.next, 0, some 1⟩) (A.length + B.length) (A.length + B.length), ((h.put i0 (.cells (litI A) false par (some 3))).new (.cells (litI A ++ litI B) true (i0 :: par) (some 3))).2) := by
    unfold appendU
    rw [h1]
    show (if 0 + A.length * 1 = (litI A).length then _ else _) = _
    rw [if_pos (by rw [litI_len]; omega)]
    rfl
  unfold appendA
  simp only [List.getElem?_toArray, List.getElem?_cons_zero, List.getElem?_cons_succ, e1, e2, srcKind, Bool.not_true, Bool.false_eq_true, if_false, e3, app_pre hB h2]
  simp only [litI_cell, e4.1, e4.2, e6, e6', Bool.not_true, Bool.or_false, Bool.false_or, Bool.or_self, decide_false, show (1 = 0) = False by simp, if_neg hpos, if_false, decide_true, ne_eq, not_true_eq_false, Bool.false_eq_true, show (0 + 1 = 1) by rfl, e7]

/-- Onto a slice that is full. -/
theorem app_n (hB : B ≠ []) (hlen : A.length < 1000000 ∧ B.length < 1000000) (h1 : h.get i0 = .cells (litI A) true par (some 3)) (h2 : h.get j = .cells (litI B) lv2 par2 (some 3)) :
    appendA Tryd.prog #[24, 24] (.slice (some ⟨i0, 0, none⟩) A.length A.length) (.slice (some ⟨j, 0, sp2⟩) B.length B.length) h =
      some (.slice (some ⟨h.next, 0, some 1⟩) (A.length + B.length) (A.length + B.length), (h.new (.cells (litI A ++ litI B) true [] (some 3))).2) := by
  have e1 : Tryd.prog.underlying 24 = some (.slice 3) := by kernel_rfl
  obtain ⟨info, e2, e3, e4⟩ := int_info
  rw [Bool.or_eq_false_iff] at e4
  have hpos : ¬ B.length = 0 := fun e => hB (List.eq_nil_of_length_eq_zero e)
  have e6 : (decide (A.length > 1000000)) = false := by simp; omega
  have e6' : (decide (B.length > 1000000)) = false := by simp; omega
  have e5 : decide (A.length < A.length) = false := by simp
  have e9 : ¬ A.length + B.length ≤ A.length := by omega
  unfold appendA
  simp only [List.getElem?_toArray, List.getElem?_cons_zero, List.getElem?_cons_succ, e1, e2, srcKind, Bool.not_true, Bool.false_eq_true, if_false, e3, app_pre hB h2]
  simp only [litI_cell, e4.1, e4.2, e6, e6', e5, Bool.not_true, Bool.or_false, Bool.false_or, Bool.or_self, decide_false, show (1 = 0) = False by simp, if_neg hpos, if_neg e9, if_false, decide_true, ne_eq, not_true_eq_false, Bool.false_eq_true, whole_at h1, appendNew]
end

/-! ### same -/
def c21 : Code := bodyOf Tryd.f21
def lp21 : Code := within (tl (hd (behind 2 c21)))
def rowA (i n : Nat) : Value := .slice (some ⟨i, 0, some 1⟩) n n
def S21 (n i : Nat) : List (Nat × Value) := [(0, rowA 0 n), (1, rowA 1 n), (5, i64 i)]
theorem s21_clo {n i : Nat} : ∀ q ∈ S21 n i, Clo 2 q.2 := clo_all (by kernel_rfl)
theorem two_rows {l : List Nat} : ∀ x ∈ [rowL l, rowL l], CloO 2 x := fun x hx => by
  simp only [List.mem_cons, List.mem_nil_iff, or_false, or_self] at hx
  subst hx
  exact cloO_plain (litI_plain l) _ _

theorem same_loop (l : List Nat) (hl : l.length < 1000000) : ∀ d i, i + d = l.length →
    Runs Tryd.prog 2 lp21 (sth (S21 l.length i) 26 [rowL l, rowL l]) fun x af => x = .exit 0 ∧ Less 2 (sth (S21 l.length l.length) 26 [rowL l, rowL l]) af := by
  intro d
  induction d with
  | zero =>
    intro i hi
    have him : i = l.length := by omega
    subst him
    refine Runs.lp (by kernel_rfl) (Runs.sq (by kernel_rfl) (Runs.sqR mixed hk38 [] (by kernel_rfl) (by kernel_rfl) (by kernel_rfl) oblN ?_))
    refine Runs.cd (b := ltF (.ofNat l.length) (.ofNat l.length)) (by kernel_rfl) (fun ht => by rw [lt_self] at ht; cases ht) (fun _ => Runs.now (x := .exit 0) (by kernel_rfl) ⟨rfl, ?_⟩)
    exact less_seenP s21_clo two_rows (Nat.le_refl 2) (by kernel_rfl) (by kernel_rfl) (by kernel_rfl) (by kernel_rfl)
  | succ d ih =>
    intro i hi
    have hlt : i < l.length := by omega
    refine Runs.lp (by kernel_rfl) (Runs.sq (by kernel_rfl) (Runs.sqR mixed hk38 [] (by kernel_rfl) (by kernel_rfl) (by kernel_rfl) oblN ?_))
    refine Runs.cd (b := ltF (.ofNat i) (.ofNat l.length)) (by kernel_rfl) (fun _ => Runs.now (x := .normal) (by kernel_rfl) ?_) (fun hf => by rw [lt_of hlt] at hf; cases hf)
    show Runs Tryd.prog 2 _ _ _
    refine Runs.sq (by kernel_rfl) (Runs.bk (id := 1) (by kernel_rfl) ?_)
    refine Runs.sqR mixed hk38 [viaV 2 (.pointer (some ⟨0, 0 + i * 1, none⟩)), viaV 3 (.int .i64 (.ofNat (l.getD i 0))), viaV 6 (.pointer (some ⟨1, 0 + i * 1, none⟩)), viaV 7 (.int .i64 (.ofNat (l.getD i 0))), viaV 8 (.bool false)] (by kernel_rfl) (by kernel_rfl) (by kernel_rfl)
      (oblC (shown_idx (n := l.length) (by kernel_rfl) hlt) (oblC (shown_cell (g := 0) (by kernel_rfl) (lit_at (l := l) (lv := true) (par := []) (ty := some 3) (by kernel_rfl) hlt))
      (oblC (shown_idx (n := l.length) (by kernel_rfl) hlt) (oblC (shown_cell (g := 1) (by kernel_rfl) (lit_at (l := l) (lv := true) (par := []) (ty := some 3) (by kernel_rfl) hlt))
      (oblC (shown_eq (v := .bool (!(eqF (.ofNat (l.getD i 0)) (.ofNat (l.getD i 0))))) (by kernel_rfl) (by kernel_rfl) (by rw [eq_self]; rfl)) oblN))))) ?_
    refine Runs.cd (b := false) (by kernel_rfl) (fun h => by cases h) (fun _ => Runs.now (x := .normal) (by kernel_rfl) ?_)
    show Runs Tryd.prog 2 _ _ _
    refine Runs.rg mixed hk38 [] (by kernel_rfl) (by kernel_rfl) (by kernel_rfl) oblN ?_
    show Runs Tryd.prog 2 lp21 _ _
    have ew : S21 l.length (i + 1) = [(0, rowA 0 l.length), (1, rowA 1 l.length), (5, .int .i64 (wrapF .i64 (Int.add (.ofNat i) (.ofNat 1))))] := by rw [wrap_succ (by omega : i < 4611686018427387904)]; rfl
    refine Runs.less (af1 := sth (S21 l.length (i + 1)) 26 [rowL l, rowL l]) (less_seenP s21_clo two_rows (Nat.le_refl 2) ?_ (by kernel_rfl) (by kernel_rfl) (by kernel_rfl)) (ih (i + 1) (by omega))
    rw [ew]
    exact Eq.trans (Eq.refl _) (by kernel_rfl)

theorem same_says (l : List Nat) (hl : l.length < 1000000) : Says Tryd.prog (hp [rowL l, rowL l]) 21 [rowA 0 l.length, rowA 1 l.length] (.bool true) (hp [rowL l, rowL l]) := by
  refine says_of (os := [rowL l, rowL l]) ?_ (fun x hx => ?_) two_rows (clo_plain rfl)
  · refine local_of noNum Tryd.func21 (show Tryd.f21.body = some c21 by kernel_rfl) ?_
    refine Runs.sqR mixed hk38 [] (by kernel_rfl) (by kernel_rfl) (by kernel_rfl) oblN ?_
    refine Runs.sq (by kernel_rfl) (Runs.sqR mixed hk38 [viaV 4 (.bool false)] (by kernel_rfl) (by kernel_rfl) (by kernel_rfl)
      (oblC (shown_eq (v := .bool (!(eqF (.ofNat l.length) (.ofNat l.length)))) (by kernel_rfl) (by kernel_rfl) (by rw [eq_self]; rfl)) oblN) ?_)
    refine Runs.cd (b := false) (by kernel_rfl) (fun h => by cases h) (fun _ => Runs.now (x := .normal) (by kernel_rfl) ?_)
    show Runs Tryd.prog 2 _ _ _
    refine Runs.sq (by kernel_rfl) (Runs.sqR mixed hk38 [] (by kernel_rfl) (by kernel_rfl) (by kernel_rfl) oblN (Runs.bk (id := 0) (by kernel_rfl) ?_))
    refine Runs.less (af1 := sth (S21 l.length 0) 26 [rowL l, rowL l]) (less_seenP s21_clo two_rows (Nat.le_refl 2) (by kernel_rfl) (by kernel_rfl) (by kernel_rfl) (by kernel_rfl)) ?_
    refine (same_loop l hl l.length 0 (by omega)).mono fun x af hx => ?_
    obtain ⟨rfl, less⟩ := hx
    show Runs Tryd.prog 2 _ af _
    exact Runs.less less (Runs.sqR mixed hk38 [] (by kernel_rfl) (by kernel_rfl) (by kernel_rfl) oblN (Runs.now (x := .ret) (by kernel_rfl) ⟨.inr rfl, [.bool true], by kernel_rfl, rfl, keepOf (by kernel_rfl)⟩))
  · simp only [List.mem_cons, List.mem_nil_iff, or_false] at hx
    rcases hx with rfl | rfl
    · exact clo_of 10 2 _ (by kernel_rfl)
    · exact clo_of 10 2 _ (by kernel_rfl)
end
end Go.Proofs.YtgnkjmgkfibipaaDoor
