/- TrialPrices: rows of lists; same, raised, appends. -/
import Derived.Test.YtgnkjmgkfibipaaDoorKPri1
import Derived.Test.YtgnkjmgkfibipaaDoorRVias

namespace Go.Proofs.YtgnkjmgkfibipaaDoor
set_option linter.unusedVariables false
set_option linter.unusedSimpArgs false
open Go Go.R
set_option maxRecDepth 1000000
noncomputable section

def litI (l : List Nat) : List Value := l.map fun x => .int .i64 (.ofNat x)
def rowL (l : List Nat) : AObj := .cells (litI l) true [] (some 3)
theorem litI_len (l : List Nat) : (litI l).length = l.length := by simp [litI]
theorem litI_plain (l : List Nat) : ∀ x ∈ litI l, plainV x = true := fun x hx => by
  obtain ⟨i, _, rfl⟩ := List.mem_map.1 hx; rfl
theorem litI_cell (l : List Nat) : (litI l).all cellV = true := List.all_eq_true.2 fun x hx => by
  obtain ⟨i, _, rfl⟩ := List.mem_map.1 hx; rfl
theorem litI_app (a b : List Nat) : litI a ++ litI b = litI (a ++ b) := by simp [litI]
theorem lit_at {h : AH} {g i : Nat} {l : List Nat} {lv : Bool} {par : List Nat} {ty : Option TypeId} (hg : h.get g = .cells (litI l) lv par ty) (hlt : i < l.length) : rowAt? h g (0 + i * 1) 1 = some [.int .i64 (.ofNat (l.getD i 0))] := by
  rw [row_at hg (by rw [litI_len]; omega), Nat.zero_add, Nat.mul_one]
  have : (litI l)[i]? = some (.int .i64 (.ofNat (l.getD i 0))) := by
    unfold litI
    rw [List.getElem?_map, List.getElem?_eq_getElem hlt, List.getD_eq_getElem?_getD, List.getElem?_eq_getElem hlt]
    rfl
  rw [List.take_one, List.head?_drop, this]
  rfl
theorem whole_at {h : AH} {g : Nat} {l : List Nat} {lv : Bool} {par : List Nat} {ty : Option TypeId} (hg : h.get g = .cells (litI l) lv par ty) : rowAt? h g 0 (l.length * 1) = some (litI l) := by
  rw [row_at hg (by rw [litI_len]; omega), List.drop_zero, List.take_of_length_le (by rw [litI_len]; omega)]

/-! ### Appends of whole lists -/
section
variable {h : AH} {i0 j : Nat} {A B : List Nat} {par : List Nat} {lv2 : Bool} {par2 : List Nat} {sp2 : Option Nat}

theorem app_pre (hB : B ≠ []) (h2 : h.get j = .cells (litI B) lv2 par2 (some 3)) : srcA 1 (.slice (some ⟨j, 0, sp2⟩) B.length B.length) h = some (litI B, B.length) := by
  have hpos : ¬ B.length = 0 := fun e => hB (List.eq_nil_of_length_eq_zero e)
  unfold srcA
  simp only [if_neg hpos]
  rw [whole_at h2]
  rfl

/-- Onto a slice whose capacity is not known. -/
theorem app_u (hB : B ≠ []) (hlen : A.length < 1000000 ∧ B.length < 1000000) (h1 : h.get i0 = .cells (litI A) true par (some 3)) (h2 : h.get j = .cells (litI B) lv2 par2 (some 3)) :
    appendA Tryd.prog #[24, 24] (.slice (some ⟨i0, 0, some 1⟩) A.length A.length) (.slice (some ⟨j, 0, sp2⟩) B.length B.length) h =
      some (.slice (some ⟨h.next, 0, some 1⟩) (A.length + B.length) (A.length + B.length), ((h.put i0 (.cells (litI A) false par (some 3))).new (.cells (litI A ++ litI B) true (i0 :: par) (some 3))).2) := by
  have e1 : Tryd.prog.underlying 24 = some (.slice 3) := by kernel_rfl
  obtain ⟨info, e2, e3, e4⟩ := int_info
  rw [Bool.or_eq_false_iff] at e4
  have hpos : ¬ B.length = 0 := fun e => hB (List.eq_nil_of_length_eq_zero e)
  have e6 : (decide (A.length > 1000000)) = false := by simp; omega
  have e6' : (decide (B.length > 1000000)) = false := by simp; omega
  have e7 : appendU 3 1 i0 0 A.length B.length (litI B) h = some (.slice (some ⟨h.next, 0, some 1⟩) (A.length + B.length) (A.length + B.length), ((h.put i0 (.cells (litI A) false par (some 3))).new (.cells (litI A ++ litI B) true (i0 :: par) (some 3))).2) := by
    unfold appendU
    rw [h1]
    show (if 0 + A.length * 1 = (litI A).length then _ else _) = _
    rw [if_pos (by rw [litI_len]; omega)]
    rfl
  unfold appendA
  simp only [List.getElem?_toArray, List.getElem?_cons_zero, List.getElem?_cons_succ, e1, e2, srcKind, Bool.not_true, Bool.false_eq_true, if_false, e3, app_pre hB h2]
  simp only [litI_cell, e4.1, e4.2, e6, e6', Bool.not_true, Bool.or_false, Bool.false_or, Bool.or_self, decide_false, show (1 = 0) = False by simp, if_neg hpos, if_false, decide_true, ne_eq, not_true_eq_false, Bool.false_eq_true, show (0 + 1 = 1) by rfl, e7]

/-- Onto a slice that is full. -/
theorem app_n (hB : B ≠ []) (hlen : A.length < 1000000 ∧ B.length < 1000000) (h1 : h.get i0 = .cells (litI A) true par (some 3)) (h2 : h.get j = .cells (litI B) lv2 par2 (some 3)) :
    appendA Tryd.prog #[24, 24] (.slice (some ⟨i0, 0, none⟩) A.length A.length) (.slice (some ⟨j, 0, sp2⟩) B.length B.length) h =
      some (.slice (some ⟨h.next, 0, some 1⟩) (A.length + B.length) (A.length + B.length), (h.new (.cells (litI A ++ litI B) true [] (some 3))).2) := by
  have e1 : Tryd.prog.underlying 24 = some (.slice 3) := by kernel_rfl
  obtain ⟨info, e2, e3, e4⟩ := int_info
  rw [Bool.or_eq_false_iff] at e4
  have hpos : ¬ B.length = 0 := fun e => hB (List.eq_nil_of_length_eq_zero e)
  have e6 : (decide (A.length > 1000000)) = false := by simp; omega
  have e6' : (decide (B.length > 1000000)) = false := by simp; omega
  have e5 : decide (A.length < A.length) = false := by simp
  have e9 : ¬ A.length + B.length ≤ A.length := by omega
  unfold appendA
  simp only [List.getElem?_toArray, List.getElem?_cons_zero, List.getElem?_cons_succ, e1, e2, srcKind, Bool.not_true, Bool.false_eq_true, if_false, e3, app_pre hB h2]
  simp only [litI_cell, e4.1, e4.2, e6, e6', e5, Bool.not_true, Bool.or_false, Bool.false_or, Bool.or_self, decide_false, show (1 = 0) = False by simp, if_neg hpos, if_neg e9, if_false, decide_true, ne_eq, not_true_eq_false, Bool.false_eq_true, whole_at h1, appendNew]
end

/-! ### same -/
def c21 : Code := bodyOf Tryd.f21
def lp21 : Code := within (tl (hd (behind 2 c21)))
def rowA (i n : Nat) : Value := .slice (some ⟨i, 0, some 1⟩) n n
def S21 (n i : Nat) : List (Nat × Value) := [(0, rowA 0 n), (1, rowA 1 n), (5, i64 i)]
theorem s21_clo {n i : Nat} : ∀ q ∈ S21 n i, Clo 2 q.2 := clo_all (by kernel_rfl)
theorem two_rows {l : List Nat} : ∀ x ∈ [rowL l, rowL l], CloO 2 x := fun x hx => by
  simp only [List.mem_cons, List.mem_nil_iff, or_false, or_self] at hx
  subst hx
  exact cloO_plain (litI_plain l) _ _

theorem same_loop (l : List Nat) (hl : l.length < 1000000) : ∀ d i, i + d = l.length →
    Runs Tryd.prog 2 lp21 (sth (S21 l.length i) 26 [rowL l, rowL l]) fun x af => x = .exit 0 ∧ Less 2 (sth (S21 l.length l.length) 26 [rowL l, rowL l]) af := by
  intro d
  induction d with
  | zero =>
    intro i hi
    have him : i = l.length := by omega
    subst him
    refine Runs.lp (by kernel_rfl) (Runs.sq (by kernel_rfl) (Runs.sqR mixed hk38 [] (by kernel_rfl) (by kernel_rfl) (by kernel_rfl) oblN ?_))
    refine Runs.cd (b := ltF (.ofNat l.length) (.ofNat l.length)) (by kernel_rfl) (fun ht => by rw [lt_self] at ht; cases ht) (fun _ => Runs.now (x := .exit 0) (by kernel_rfl) ⟨rfl, ?_⟩)
    exact less_seenP s21_clo two_rows (Nat.le_refl 2) (by kernel_rfl) (by kernel_rfl) (by kernel_rfl) (by kernel_rfl)
  | succ d ih =>
    intro i hi
    have hlt : i < l.length := by omega
    refine Runs.lp (by kernel_rfl) (Runs.sq (by kernel_rfl) (Runs.sqR mixed hk38 [] (by kernel_rfl) (by kernel_rfl) (by kernel_rfl) oblN ?_))
    refine Runs.cd (b := ltF (.ofNat i) (.ofNat l.length)) (by kernel_rfl) (fun _ => Runs.now (x := .normal) (by kernel_rfl) ?_) (fun hf => by rw [lt_of hlt] at hf; cases hf)
    show Runs Tryd.prog 2 _ _ _
    refine Runs.sq (by kernel_rfl) (Runs.bk (id := 1) (by kernel_rfl) ?_)
    refine Runs.sqR mixed hk38 [viaV 2 (.pointer (some ⟨0, 0 + i * 1, none⟩)), viaV 3 (.int .i64 (.ofNat (l.getD i 0))), viaV 6 (.pointer (some ⟨1, 0 + i * 1, none⟩)), viaV 7 (.int .i64 (.ofNat (l.getD i 0))), viaV 8 (.bool false)] (by kernel_rfl) (by kernel_rfl) (by kernel_rfl)
      (oblC (shown_idx (n := l.length) (by kernel_rfl) hlt) (oblC (shown_cell (g := 0) (by kernel_rfl) (lit_at (l := l) (lv := true) (par := []) (ty := some 3) (by kernel_rfl) hlt))
      (oblC (shown_idx (n := l.length) (by kernel_rfl) hlt) (oblC (shown_cell (g := 1) (by kernel_rfl) (lit_at (l := l) (lv := true) (par := []) (ty := some 3) (by kernel_rfl) hlt))
      (oblC (shown_eq (v := .bool (!(eqF (.ofNat (l.getD i 0)) (.ofNat (l.getD i 0))))) (by kernel_rfl) (by kernel_rfl) (by rw [eq_self]; rfl)) oblN))))) ?_
    refine Runs.cd (b := false) (by kernel_rfl) (fun h => by cases h) (fun _ => Runs.now (x := .normal) (by kernel_rfl) ?_)
    show Runs Tryd.prog 2 _ _ _
    refine Runs.rg mixed hk38 [] (by kernel_rfl) (by kernel_rfl) (by kernel_rfl) oblN ?_
    show Runs Tryd.prog 2 lp21 _ _
    have ew : S21 l.length (i + 1) = [(0, rowA 0 l.length), (1, rowA 1 l.length), (5, .int .i64 (wrapF .i64 (Int.add (.ofNat i) (.ofNat 1))))] := by rw [wrap_succ (by omega : i < 4611686018427387904)]; rfl
    refine Runs.less (af1 := sth (S21 l.length (i + 1)) 26 [rowL l, rowL l]) (less_seenP s21_clo two_rows (Nat.le_refl 2) ?_ (by kernel_rfl) (by kernel_rfl) (by kernel_rfl)) (ih (i + 1) (by omega))
    rw [ew]
    exact Eq.trans (Eq.refl _) (by kernel_rfl)

theorem same_says (l : List Nat) (hl : l.length < 1000000) : Says Tryd.prog (hp [rowL l, rowL l]) 21 [rowA 0 l.length, rowA 1 l.length] (.bool true) (hp [rowL l, rowL l]) := by
  refine says_of (os := [rowL l, rowL l]) ?_ (fun x hx => ?_) two_rows (clo_plain rfl)
  · refine local_of noNum Tryd.func21 (show Tryd.f21.body = some c21 by kernel_rfl) ?_
    refine Runs.sqR mixed hk38 [] (by kernel_rfl) (by kernel_rfl) (by kernel_rfl) oblN ?_
    refine Runs.sq (by kernel_rfl) (Runs.sqR mixed hk38 [viaV 4 (.bool false)] (by kernel_rfl) (by kernel_rfl) (by kernel_rfl)
      (oblC (shown_eq (v := .bool (!(eqF (.ofNat l.length) (.ofNat l.length)))) (by kernel_rfl) (by kernel_rfl) (by rw [eq_self]; rfl)) oblN) ?_)
    refine Runs.cd (b := false) (by kernel_rfl) (fun h => by cases h) (fun _ => Runs.now (x := .normal) (by kernel_rfl) ?_)
    show Runs Tryd.prog 2 _ _ _
    refine Runs.sq (by kernel_rfl) (Runs.sqR mixed hk38 [] (by kernel_rfl) (by kernel_rfl) (by kernel_rfl) oblN (Runs.bk (id := 0) (by kernel_rfl) ?_))
    refine Runs.less (af1 := sth (S21 l.length 0) 26 [rowL l, rowL l]) (less_seenP s21_clo two_rows (Nat.le_refl 2) (by kernel_rfl) (by kernel_rfl) (by kernel_rfl) (by kernel_rfl)) ?_
    refine (same_loop l hl l.length 0 (by omega)).mono fun x af hx => ?_
    obtain ⟨rfl, less⟩ := hx
    show Runs Tryd.prog 2 _ af _
    exact Runs.less less (Runs.sqR mixed hk38 [] (by kernel_rfl) (by kernel_rfl) (by kernel_rfl) oblN (Runs.now (x := .ret) (by kernel_rfl) ⟨.inr rfl, [.bool true], by kernel_rfl, rfl, keepOf (by kernel_rfl)⟩))
  · simp only [List.mem_cons, List.mem_nil_iff, or_false] at hx
    rcases hx with rfl | rfl
    · exact clo_of 10 2 _ (by kernel_rfl)
    · exact clo_of 10 2 _ (by kernel_rfl)
end
end Go.Proofs.YtgnkjmgkfibipaaDoor

/- TrialPrices: raised. -/
namespace Go.Proofs.YtgnkjmgkfibipaaDoor
set_option linter.unusedVariables false
set_option linter.unusedSimpArgs false
open Go Go.R
set_option maxRecDepth 1000000
noncomputable section

def roL (B : List Nat) : AObj := .cells (litI B) false [] none
def outL (B : List Nat) (by_ m : Nat) : List Nat := (B.take m).map (· + by_)
theorem outL_len {B : List Nat} {by_ m : Nat} (h : m ≤ B.length) : (outL B by_ m).length = m := by simp [outL]; omega
theorem outL_succ {B : List Nat} {by_ m : Nat} (h : m < B.length) : outL B by_ m ++ [B.getD m 0 + by_] = outL B by_ (m + 1) := by
  unfold outL
  rw [List.take_succ_eq_append_getElem h, List.map_append, List.getD_eq_getElem?_getD, List.getElem?_eq_getElem h]
  rfl
theorem outL_all (B : List Nat) (by_ : Nat) : outL B by_ B.length = B.map (· + by_) := by unfold outL; rw [List.take_length]

def c117 : Code := bodyOf Tryd.f117
def lp117 : Code := within (tl (hd (behind 2 c117)))
def V117 (n c by_ m i : Nat) : List (Nat × Value) := [(0, .slice (some ⟨0, 0, none⟩) n c), (1, i64 by_), (5, rowA 1 m), (6, i64 i)]
def V117z (n c by_ : Nat) : List (Nat × Value) := [(0, .slice (some ⟨0, 0, none⟩) n c), (1, i64 by_), (5, .slice none 0 0), (6, i64 0)]
theorem v117_clo {n c by_ m i : Nat} : ∀ q ∈ V117 n c by_ m i, Clo 2 q.2 := clo_all (by kernel_rfl)
theorem v117z_clo {n c by_ : Nat} : ∀ q ∈ V117z n c by_, Clo 1 q.2 := clo_all (by kernel_rfl)
def root117 (B l : List Nat) : List AObj := [roL B, rowL l]
theorem root117_clo {B l : List Nat} : ∀ x ∈ root117 B l, CloO 2 x := fun x hx => by
  simp only [root117, List.mem_cons, List.mem_nil_iff, or_false] at hx
  rcases hx with rfl | rfl
  · exact cloO_plain (litI_plain B) _ _
  · exact cloO_plain (litI_plain l) _ _
theorem ro_clo {B : List Nat} : ∀ x ∈ [roL B], CloO 1 x := fun x hx => by rw [List.mem_singleton.1 hx]; exact cloO_plain (litI_plain B) _ _

theorem raise_next {n c by_ i q m : Nat} {B l : List Nat} {k0 : Code} {Q : AExit → AF → Prop} {rows : List Value} (hrows : rows = litI l) (hm : m = l.length) (hq : q ≠ 0) {par : List Nat} (h0 : 0 ∉ par) {af : AF} (hsz : af.sz = 23)
    (tt : ([0, 1, 5, 6] : List Nat).map af.tm.get = [some (.slice (some ⟨0, 0, none⟩) n c), some (i64 by_), some (.slice (some ⟨q, 0, some 1⟩) m m), some (i64 i)]) (g0 : af.h.get 0 = roL B) (g1 : af.h.get q = .cells rows true par (some 3))
    (h : Runs Tryd.prog 1 k0 (sth (V117 n c by_ m i) 23 (root117 B l)) Q) : Runs Tryd.prog 1 k0 af Q := by
  subst hrows
  simp only [List.map_cons, List.map_nil, List.cons.injEq, and_true] at tt
  obtain ⟨t0, t1, t5, t6⟩ := tt
  let ρ : Nat → Nat := fun j => if j = 0 then 0 else q
  have r0 : ρ 0 = 0 := rfl
  have r1 : ρ 1 = q := rfl
  refine Runs.renum (l := V117 n c by_ m i) (os := root117 B l) ρ hsz (show 1 ≤ 2 by decide) (fun j hj => ?_) (fun a b ha hb e => ?_) (fun p hp => ?_) (fun j o ho => ?_) (fun a b ha hb hne cs lv p ty hg => ?_) h
  · have : j = 0 := by omega
    subst this
    refine ⟨rfl, fun o ho => ?_⟩
    rw [g0]
    exact Option.some.inj ho
  · have ha' : a < 2 := ha
    have hb' : b < 2 := hb
    match a, b, ha', hb' with
    | 0, 0, _, _ => rfl
    | 1, 1, _, _ => rfl
    | 0, 1, _, _ => exact absurd (show q = 0 from e.symm) hq
    | 1, 0, _, _ => exact absurd (show q = 0 from e) hq
    | a + 2, _, h, _ => omega
    | _, b + 2, _, h => omega
  · simp only [V117, List.mem_cons, List.mem_nil_iff, or_false] at hp
    rcases hp with rfl | rfl | rfl | rfl
    · exact ⟨_, t0, Ren.slice (show 0 < 2 by decide) r0⟩
    · exact ⟨_, t1, Ren.plain rfl⟩
    · exact ⟨_, t5, Ren.sliceU (show 1 < 2 by decide) r1⟩
    · exact ⟨_, t6, Ren.plain rfl⟩
  · have same : ∀ (l : List Value), (∀ v ∈ l, plainV v = true) → ∀ (k : Nat) u v, l[k]? = some u → l[k]? = some v → Ren ρ 2 u v := fun l hl k u v hu hv => by
      rw [hu] at hv
      cases hv
      exact Ren.plain (hl u (List.mem_of_getElem? hu))
    match j, ho with
    | 0, ho =>
      have : roL B = o := Option.some.inj ho
      subst this
      rw [r0, g0]
      exact ⟨rfl, same _ (litI_plain B), fun e => (by cases e), rfl, .inl rfl⟩
    | 1, ho =>
      have : rowL l = o := Option.some.inj ho
      subst this
      rw [r1, g1]
      exact ⟨rfl, same _ (litI_plain l), fun _ => rfl, rfl, .inr rfl⟩
    | j + 2, ho => simp [root117] at ho
  · have ha' : a < 2 := ha
    have hb' : b < 2 := hb
    match a, b, ha', hb' with
    | 0, 0, _, _ => exact absurd rfl hne
    | 1, 1, _, _ => exact absurd rfl hne
    | 0, 1, _, _ =>
      rw [r0, g0] at hg
      cases hg
      exact List.not_mem_nil
    | 1, 0, _, _ =>
      rw [r1, g1] at hg
      cases hg
      exact h0
    | a + 2, _, h, _ => omega
    | _, b + 2, _, h => omega

theorem raise_step {n c by_ : Nat} {B l : List Nat} {Q : AExit → AF → Prop} (i : Nat) (hi : i < 1000000) {m : Nat}
    (h : Runs Tryd.prog 1 lp117 (sth (V117 n c by_ m (i + 1)) 23 (root117 B l)) Q) :
    Runs Tryd.prog 1 (tl (tl (within lp117))) (sth (V117 n c by_ m i) 23 (root117 B l)) (andThen (fun a => Runs Tryd.prog 1 lp117 a Q) Q) := by
  refine Runs.rg mixed hk38 [] (by kernel_rfl) (by kernel_rfl) (by kernel_rfl) oblN ?_
  show Runs Tryd.prog 1 lp117 _ _
  have ew : V117 n c by_ m (i + 1) = [(0, .slice (some ⟨0, 0, none⟩) n c), (1, i64 by_), (5, rowA 1 m), (6, .int .i64 (wrapF .i64 (Int.add (.ofNat i) (.ofNat 1))))] := by rw [wrap_succ (by omega : i < 4611686018427387904)]; rfl
  refine Runs.less (af1 := sth (V117 n c by_ m (i + 1)) 23 (root117 B l)) (less_seenP v117_clo root117_clo (show 1 ≤ 2 by decide) ?_ (by kernel_rfl) (by kernel_rfl) (by kernel_rfl)) h
  rw [ew]
  exact Eq.trans (Eq.refl _) (by kernel_rfl)

theorem raise_loop (B : List Nat) (c by_ : Nat) (hn : B.length < 1000000) (hby : by_ < 1000000) (hB : ∀ i, B.getD i 0 < 1000000) : ∀ d i, i + 1 + d = B.length →
    Runs Tryd.prog 1 lp117 (sth (V117 B.length c by_ (i + 1) (i + 1)) 23 (root117 B (outL B by_ (i + 1)))) fun x af => x = .exit 0 ∧ Less 1 (sth (V117 B.length c by_ B.length B.length) 23 (root117 B (outL B by_ B.length))) af := by
  intro d
  induction d with
  | zero =>
    intro i hi
    have him : i + 1 = B.length := by omega
    rw [him]
    refine Runs.lp (by kernel_rfl) (Runs.sq (by kernel_rfl) (Runs.sqR mixed hk38 [] (by kernel_rfl) (by kernel_rfl) (by kernel_rfl) oblN ?_))
    refine Runs.cd (b := ltF (.ofNat B.length) (.ofNat B.length)) (by kernel_rfl) (fun ht => by rw [lt_self] at ht; cases ht) (fun _ => Runs.now (x := .exit 0) (by kernel_rfl) ⟨rfl, ?_⟩)
    exact less_seenP v117_clo root117_clo (show 1 ≤ 2 by decide) (by kernel_rfl) (by kernel_rfl) (by kernel_rfl) (by kernel_rfl)
  | succ d ih =>
    intro i hi
    have hlt : i + 1 < B.length := by omega
    have hb := hB (i + 1)
    refine Runs.lp (by kernel_rfl) (Runs.sq (by kernel_rfl) (Runs.sqR mixed hk38 [] (by kernel_rfl) (by kernel_rfl) (by kernel_rfl) oblN ?_))
    refine Runs.cd (b := ltF (.ofNat (i + 1)) (.ofNat B.length)) (by kernel_rfl) (fun _ => Runs.now (x := .normal) (by kernel_rfl) ?_) (fun hf => by rw [lt_of hlt] at hf; cases hf)
    show Runs Tryd.prog 1 _ _ _
    refine Runs.sq (by kernel_rfl) (Runs.bk (id := 1) (by kernel_rfl) ?_)
    let l := outL B by_ (i + 1)
    let w := B.getD (i + 1) 0 + by_
    let Hp : AH := ((hp (root117 B l)).new (.cells [.int .i64 (.ofNat w)] true [] (some 3))).2
    let Hn : AH := ((Hp.put 1 (.cells (litI l) false [] (some 3))).new (.cells (litI l ++ [.int .i64 (.ofNat w)]) true [1] (some 3))).2
    have hl : l.length = i + 1 := outL_len (by omega)
    have hap : appendA Tryd.prog #[24, 24] (.slice (some ⟨1, 0, some 1⟩) (i + 1) (i + 1)) (.slice (some ⟨2, 0, none⟩) 1 1) Hp = some (.slice (some ⟨3, 0, some 1⟩) (i + 2) (i + 2), Hn) :=
      append_int (i0 := 1) (j := 2) (x := .int .i64 (.ofNat w)) (by omega) rfl (by rw [litI_len, hl]) (by kernel_rfl) (by kernel_rfl)
    refine Runs.rg mixed hk38 [viaV 3 (.pointer (some ⟨0, 0 + (i + 1) * 1, none⟩)), viaV 4 (.int .i64 (.ofNat (B.getD (i + 1) 0))), viaV 6 (.int .i64 (.ofNat w)), ⟨8, .slice (some ⟨3, 0, some 1⟩) (i + 2) (i + 2), some Hn, none⟩] (by kernel_rfl) (by kernel_rfl) (by kernel_rfl)
      (oblC (shown_idx (n := B.length) (by kernel_rfl) hlt) (oblC (shown_cell (g := 0) (by kernel_rfl) (lit_at (l := B) (lv := false) (par := []) (ty := none) (by kernel_rfl) hlt))
      (oblC (shown_eq (v := .int .i64 (wrapF .i64 (Int.add (.ofNat (B.getD (i + 1) 0)) (.ofNat by_)))) (by kernel_rfl) (by kernel_rfl) (by rw [f_add (by omega)]))
      (oblC ⟨by kernel_rfl, (show _ = appendA Tryd.prog #[24, 24] (.slice (some ⟨1, 0, some 1⟩) (i + 1) (i + 1)) (.slice (some ⟨2, 0, none⟩) 1 1) Hp by kernel_rfl).trans hap⟩ oblN)))) ?_
    show Runs Tryd.prog 1 (tl (tl (within lp117))) _ _
    refine raise_next (q := 3) (par := [1]) (l := outL B by_ (i + 2)) (m := i + 2) (rows := litI l ++ [.int .i64 (.ofNat w)]) ?_ (outL_len (by omega)).symm (by decide) (by decide) (by kernel_rfl) (by kernel_rfl) (by kernel_rfl) (by kernel_rfl) (raise_step (i + 1) (by omega) (ih (i + 1) (by omega)))
    show litI (outL B by_ (i + 1)) ++ [.int .i64 (.ofNat (B.getD (i + 1) 0 + by_))] = _
    rw [← outL_succ hlt, ← litI_app]
    rfl

theorem raised_local (B : List Nat) (c by_ : Nat) (hpos : 0 < B.length) (hn : B.length < 1000000) (hby : by_ < 1000000) (hB : ∀ i, B.getD i 0 < 1000000) :
    Local Tryd.prog 1 117 [.slice (some ⟨0, 0, none⟩) B.length c, i64 by_] (hp [roL B]) (IsNew 1 0 B.length (litI (B.map (· + by_))) (some 3) (hp [roL B])) := by
  refine local_of noNum Tryd.func117 (show Tryd.f117.body = some c117 by kernel_rfl) ?_
  refine Runs.sqR mixed hk38 [] (by kernel_rfl) (by kernel_rfl) (by kernel_rfl) oblN ?_
  refine Runs.sqR mixed hk38 [] (by kernel_rfl) (by kernel_rfl) (by kernel_rfl) oblN ?_
  refine Runs.sq (by kernel_rfl) (Runs.sqR mixed hk38 [] (by kernel_rfl) (by kernel_rfl) (by kernel_rfl) oblN (Runs.bk (id := 0) (by kernel_rfl) ?_))
  have fin : ∀ af, Less 1 (sth (V117 B.length c by_ B.length B.length) 23 (root117 B (outL B by_ B.length))) af → Runs Tryd.prog 1 (tl (tl (tl c117))) af (EndsAs Tryd.prog Tryd.f117 (IsNew 1 0 B.length (litI (B.map (· + by_))) (some 3) (hp [roL B]))) := by
    intro af less
    refine Runs.less less (Runs.sqR mixed hk38 [] (by kernel_rfl) (by kernel_rfl) (by kernel_rfl) oblN (Runs.now (x := .ret) (by kernel_rfl) ⟨.inr rfl, [rowA 1 B.length], by kernel_rfl, 1, [], Nat.le_refl 1, fun j _ => List.not_mem_nil, rfl, ?_, fun j hj => ?_⟩))
    · rw [← outL_all]
      exact Eq.trans (Eq.refl _) (by kernel_rfl)
    · have : j = 0 := by omega
      subst this
      exact Eq.trans (Eq.refl _) (by kernel_rfl)
  refine Runs.less (af1 := sth (V117z B.length c by_) 23 [roL B]) (less_seenP v117z_clo ro_clo (Nat.le_refl 1) (by kernel_rfl) (by kernel_rfl) (by kernel_rfl) (by kernel_rfl)) ?_
  refine Runs.mono (Q := fun x af => x = .exit 0 ∧ Less 1 (sth (V117 B.length c by_ B.length B.length) 23 (root117 B (outL B by_ B.length))) af) ?_ (fun x af hx => ?_)
  · have hb := hB 0
    refine Runs.lp (by kernel_rfl) (Runs.sq (by kernel_rfl) (Runs.sqR mixed hk38 [] (by kernel_rfl) (by kernel_rfl) (by kernel_rfl) oblN ?_))
    refine Runs.cd (b := ltF (.ofNat 0) (.ofNat B.length)) (by kernel_rfl) (fun _ => Runs.now (x := .normal) (by kernel_rfl) ?_) (fun hf => by rw [lt_of hpos] at hf; cases hf)
    show Runs Tryd.prog 1 _ _ _
    refine Runs.sq (by kernel_rfl) (Runs.bk (id := 1) (by kernel_rfl) ?_)
    let w := B.getD 0 0 + by_
    refine Runs.rg mixed hk38 [viaV 3 (.pointer (some ⟨0, 0 + 0 * 1, none⟩)), viaV 4 (.int .i64 (.ofNat (B.getD 0 0))), viaV 6 (.int .i64 (.ofNat w))] (by kernel_rfl) (by kernel_rfl) (by kernel_rfl)
      (oblC (shown_idx (n := B.length) (by kernel_rfl) hpos) (oblC (shown_cell (g := 0) (by kernel_rfl) (lit_at (l := B) (i := 0) (lv := false) (par := []) (ty := none) (by kernel_rfl) hpos))
      (oblC (shown_eq (v := .int .i64 (wrapF .i64 (Int.add (.ofNat (B.getD 0 0)) (.ofNat by_)))) (by kernel_rfl) (by kernel_rfl) (by rw [f_add (by omega)])) oblN))) ?_
    show Runs Tryd.prog 1 (tl (tl (within lp117))) _ _
    refine raise_next (q := 2) (par := []) (l := outL B by_ 1) (m := 1) (rows := [.int .i64 (.ofNat w)]) ?_ (outL_len hpos).symm (by decide) List.not_mem_nil (by kernel_rfl) (by kernel_rfl) (by kernel_rfl) (by kernel_rfl) (raise_step 0 (by decide) (raise_loop B c by_ hn hby hB (B.length - 1) 0 (by omega)))
    rw [← outL_succ hpos]
    rfl
  · obtain ⟨rfl, less⟩ := hx
    exact fin af less

theorem raised_says {h : AH} {i : Nat} (B : List Nat) (by_ : Nat) {lv : Bool} {par : List Nat} {ty : Option TypeId} (hg : h.get i = .cells (litI B) lv par ty) (hpos : 0 < B.length) (hn : B.length < 1000000) (hby : by_ < 1000000) (hB : ∀ i, B.getD i 0 < 1000000) :
    Says Tryd.prog h 117 [.slice (some ⟨i, 0, some 1⟩) B.length B.length, i64 by_] (.slice (some ⟨h.next, 0, some 1⟩) B.length B.length) (h.new (rowL (B.map (· + by_)))).2 :=
  read_new (s := 0) hg (by rw [litI_len]; omega) (litI_plain B) (litI_plain _) (fun cap _ => raised_local B cap by_ hpos hn hby hB) rfl
end
end Go.Proofs.YtgnkjmgkfibipaaDoor

/- TrialPrices: the reference's cheap. -/
namespace Go.Proofs.YtgnkjmgkfibipaaDoor
set_option linter.unusedVariables false
set_option linter.unusedSimpArgs false
open Go Go.R
set_option maxRecDepth 1000000
noncomputable section

/-! ### The plan -/
def okAt (t b n most l : Nat) : Bool := Nat.ble (t + costP b (priceV t b) n l) most
def firstL (t b n most : Nat) : Nat := firstP (okAt t b n most) n (n - 1) 1
def cheapL (t b : Nat) : Nat → Nat → Nat → List Nat
  | 0, _, _ => []
  | d + 1, n, most => if n = 0 then [] else firstL t b n most :: (cheapL t b d (firstL t b n most - 1) (most - t - b) ++ (cheapL t b d (n - firstL t b n most) (most - t)).map (· + firstL t b n most))

theorem firstL_le (t b n most : Nat) (hn : 1 ≤ n) : 1 ≤ firstL t b n most ∧ firstL t b n most ≤ n := by
  unfold firstL
  rcases firstP_spec (okAt t b n most) n (n - 1) 1 (by omega) with ⟨h, _⟩ | ⟨h1, h2, _⟩
  · omega
  · omega

theorem least_at (t b n : Nat) : ∃ l, 1 ≤ l ∧ l ≤ n + 1 ∧ t + costP b (priceV t b) (n + 1) l = priceV t b (n + 1) := by
  obtain ⟨_, l, h1, h2, e⟩ := best_least (b := b) (n := n + 1) (v := priceV t b) (by omega) fun i j a c => price_mono t b n i j a (by omega)
  exact ⟨l, h1, h2, by rw [priceV_succ, e]⟩

theorem firstL_ok {t b n most : Nat} (hn : 1 ≤ n) (h : priceV t b n ≤ most) : t + costP b (priceV t b) n (firstL t b n most) ≤ most := by
  obtain ⟨m, rfl⟩ : ∃ m, n = m + 1 := ⟨n - 1, by omega⟩
  obtain ⟨l, h1, h2, e⟩ := least_at t b m
  have hok : okAt t b (m + 1) most l = true := by unfold okAt; exact Nat.ble_eq_true_of_le (by omega)
  unfold firstL
  rcases firstP_spec (okAt t b (m + 1) most) (m + 1) (m + 1 - 1) 1 (by omega) with ⟨h3, hno⟩ | ⟨h3, h4, h5, _⟩
  · rw [h3]
    have : l = m + 1 := by
      rcases Nat.lt_or_ge l (m + 1) with q | q
      · rw [hno l h1 q] at hok; cases hok
      · omega
    rw [this] at e
    omega
  · exact Nat.le_of_ble_eq_true h5

theorem firstL_before {t b n most l : Nat} (hn : 1 ≤ n) (h1 : 1 ≤ l) (h2 : l < firstL t b n most) : most < t + costP b (priceV t b) n l := by
  have : okAt t b n most l = false := by
    unfold firstL at h2
    rcases firstP_spec (okAt t b n most) n (n - 1) 1 (by omega) with ⟨h, hno⟩ | ⟨_, _, _, hno⟩
    · exact hno l h1 (by omega)
    · exact hno l h1 h2
  unfold okAt at this
  rcases Nat.lt_or_ge most (t + costP b (priceV t b) n l) with q | q
  · exact q
  · rw [Nat.ble_eq_true_of_le q] at this; cases this

theorem cheap_len (t b : Nat) : ∀ d n most, n ≤ d → (cheapL t b d n most).length = n
  | 0, n, most, h => by have : n = 0 := by omega
                        subst this; rfl
  | d + 1, n, most, h => by
    unfold cheapL
    by_cases hn : n = 0
    · rw [if_pos hn, hn]; rfl
    · have hl := firstL_le t b n most (by omega)
      rw [if_neg hn, List.length_cons, List.length_append, List.length_map, cheap_len t b d _ _ (by omega), cheap_len t b d _ _ (by omega)]
      omega

theorem cheap_le (t b : Nat) : ∀ d n most, n ≤ d → ∀ x ∈ cheapL t b d n most, x ≤ n
  | 0, n, most, h, x, hx => by cases hx
  | d + 1, n, most, h, x, hx => by
    unfold cheapL at hx
    by_cases hn : n = 0
    · rw [if_pos hn] at hx; cases hx
    · have hl := firstL_le t b n most (by omega)
      rw [if_neg hn] at hx
      rcases List.mem_cons.1 hx with rfl | hx
      · omega
      · rcases List.mem_append.1 hx with hx | hx
        · have := cheap_le t b d _ _ (by omega) x hx; omega
        · obtain ⟨z, hz, rfl⟩ := List.mem_map.1 hx
          have := cheap_le t b d _ _ (by omega) z hz
          omega

theorem getD_le {l : List Nat} {N : Nat} (h : ∀ x ∈ l, x ≤ N) (i : Nat) : l.getD i 0 ≤ N := by
  rw [List.getD_eq_getElem?_getD]
  cases hq : l[i]? with
  | none => exact Nat.zero_le _
  | some x => exact h x (List.mem_of_getElem? hq)

/-! ### Contracts that answer with a list -/
def NewList (l : List Nat) (v' : Value) (h' : AH) : Prop := (l = [] ∧ v' = .slice none 0 0) ∨ (l ≠ [] ∧ ∃ i par, (v' = rowV i (litI l).length none ∨ v' = rowK i (litI l).length none) ∧ h'.get i = .cells (litI l) true par (some 3))

theorem nil_says {fid : FuncId} {args : List Value} {l : List Nat} (hl : l = []) (L : Local Tryd.prog 0 fid args AH.empty (NewList l)) (pa : ∀ x ∈ args, plainV x = true) (h : AH) : Says Tryd.prog h fid args (.slice none 0 0) h := by
  intro F w0 μ w args' H hl2
  have L2 : Local Tryd.prog 0 fid args AH.empty fun v' _ => v' = .slice none 0 0 := fun F w0 μ w args' H hl2 => (L F w0 μ w args' H hl2).mono fun v' w' ⟨u, h', r, q⟩ => by
    refine ⟨u, h', ?_, q⟩
    rcases r with ⟨_, r⟩ | ⟨hne, _⟩
    · exact r
    · exact absurd hl hne
  exact L2.closed pa rfl h H hl2

theorem list_says {fid : FuncId} {args : List Value} {l : List Nat} (hl : l ≠ []) (L : Local Tryd.prog 0 fid args AH.empty (NewList l)) (pa : ∀ x ∈ args, plainV x = true) (h : AH) : Says Tryd.prog h fid args (.slice (some ⟨h.next, 0, some 1⟩) l.length l.length) (h.new (rowL l)).2 := by
  intro F w0 μ w args' H hl2
  have L2 : Local Tryd.prog 0 fid args AH.empty fun v' h' => ∃ i par, (v' = rowV i (litI l).length none ∨ v' = rowK i (litI l).length none) ∧ h'.get i = .cells (litI l) true par (some 3) := fun F w0 μ w args' H hl2 => (L F w0 μ w args' H hl2).mono fun v' w' ⟨u, h', r, q⟩ => by
    refine ⟨u, h', ?_, q⟩
    rcases r with ⟨e, _⟩ | ⟨_, r⟩
    · exact absurd e hl
    · exact r
  have := fresh_ok (cells := litI l) (ty := some 3) (e := none) L2 pa (litI_plain l) (fun v hv => by cases hv) h H hl2
  rw [show rowV h.next (litI l).length none = .slice (some ⟨h.next, 0, some 1⟩) l.length l.length by rw [litI_len]; rfl] at this
  exact this

theorem four_plain {a b c d : Int} : ∀ x ∈ [Value.int .i64 a, .int .i64 b, .int .i64 c, .int .i64 d], plainV x = true := fun x hx => by
  simp only [List.mem_cons, List.mem_nil_iff, or_false] at hx
  rcases hx with rfl | rfl | rfl | rfl <;> rfl

theorem app_nil {n : Nat} (hn : n < 1000000) {sp : Option Nat} (hsp : sp = none ∨ sp = some 1) {h : AH} : appendA Tryd.prog #[24, 24] (.slice (some ⟨0, 0, sp⟩) n n) (.slice none 0 0) h = some (.slice (some ⟨0, 0, sp⟩) n n, h) := by
  have e1 : Tryd.prog.underlying 24 = some (.slice 3) := by kernel_rfl
  obtain ⟨info, e2, e3, e4⟩ := int_info
  rw [Bool.or_eq_false_iff] at e4
  have e6 : (decide (n > 1000000)) = false := by simp; omega
  have e5 : decide (n < n) = false := by simp
  unfold appendA
  simp only [List.getElem?_toArray, List.getElem?_cons_zero, List.getElem?_cons_succ, e1, e2, srcKind, Bool.not_true, Bool.false_eq_true, if_false, e3, srcA, List.all_nil]
  rcases hsp with rfl | rfl
  · simp only [e4.1, e4.2, e6, e5, Bool.not_true, Bool.or_false, Bool.false_or, Bool.or_self, decide_false, show (1 = 0) = False by simp, show (0 : Nat) > 1000000 ↔ False by simp, if_false, decide_true, ne_eq, not_true_eq_false, Bool.false_eq_true, if_true]
  · simp only [e4.1, e4.2, e6, e5, Bool.not_true, Bool.or_false, Bool.false_or, Bool.or_self, decide_false, show (1 = 0) = False by simp, show (0 : Nat) > 1000000 ↔ False by simp, if_false, decide_true, ne_eq, not_true_eq_false, Bool.false_eq_true, if_true, show (0 + 1 = 1) by rfl]

/-! ### The first trial -/
def c79 : Code := bodyOf Tryd.f79
def lp79 : Code := within (hd (behind 4 c79))
def S79 (n t b most l : Nat) : List (Nat × Value) := [(0, i64 n), (1, i64 t), (2, i64 b), (3, i64 most), (9, lvI (some 1) (n + 1)), (10, i64 l)]
theorem s79_clo {n t b most l : Nat} : ∀ q ∈ S79 n t b most l, Clo 1 q.2 := clo_all (by kernel_rfl)

theorem first_loop (n t b most : Nat) (hn1 : 1 ≤ n) (hn : n ≤ 12) (ht : t ≤ 50) (hb : b ≤ 50) (hmost : priceV t b n ≤ most) : ∀ d l, 1 ≤ l → l + d = firstL t b n most →
    Runs Tryd.prog 0 lp79 (sth (S79 n t b most l) 64 [rowI (n + 1) (priceV t b)]) fun x af => x = .exit 0 ∧ Less 0 (sth (S79 n t b most (firstL t b n most)) 64 [rowI (n + 1) (priceV t b)]) af := by
  let v := priceV t b
  have hv : ∀ i, i ≤ 13 → v i < 1000000 := fun i hi => price_small ht hb (by omega)
  have hF := firstL_le t b n most hn1
  intro d
  induction d with
  | zero =>
    intro l h1 hl
    have e : firstL t b n most = l := by omega
    have ok := firstL_ok hn1 hmost
    rw [e] at ok hF ⊢
    have ok' : t + costP b v n l ≤ most := ok
    have b1 := hv (l - 1) (by omega)
    have b2 := hv (n - l) (by omega)
    have hcost : costP b v n l < 2000000 := by unfold costP; omega
    have c1 : (Int.ofNat (costP b v n l)) = if Int.ofNat (v (n - l)) > Int.ofNat (b + v (l - 1)) then Int.ofNat (v (n - l)) else Int.ofNat (b + v (l - 1)) := (f_max (b + v (l - 1)) (v (n - l))).symm
    refine Runs.lp (by kernel_rfl) (Runs.sq (by kernel_rfl) (Runs.sqR mixed hk38 [viaV 4 (.int .i64 (.ofNat (l - 1))), viaV 5 (.pointer (some ⟨0, 0 + (l - 1) * 1, none⟩)), viaV 6 (.int .i64 (.ofNat (v (l - 1)))), viaV 7 (.int .i64 (.ofNat (b + v (l - 1)))), viaV 11 (.int .i64 (.ofNat (n - l))),
        viaV 12 (.pointer (some ⟨0, 0 + (n - l) * 1, none⟩)), viaV 13 (.int .i64 (.ofNat (v (n - l)))), viaV 14 (.int .i64 (.ofNat (costP b v n l))), viaV 15 (.int .i64 (.ofNat (t + costP b v n l)))] (by kernel_rfl) (by kernel_rfl) (by kernel_rfl)
      (oblC (shown_eq (v := .int .i64 (wrapF .i64 (Int.sub (.ofNat l) (.ofNat 1)))) (by kernel_rfl) (by kernel_rfl) (by rw [f_sub (by omega) (by omega)]))
      (oblC (shown_idx (n := n + 1) (by kernel_rfl) (by omega)) (oblC (shown_cell (by kernel_rfl) (int_at (g := 0) (n := n + 1) (v := v) (by kernel_rfl) (by omega)))
      (oblC (shown_eq (v := .int .i64 (wrapF .i64 (Int.add (.ofNat b) (.ofNat (v (l - 1)))))) (by kernel_rfl) (by kernel_rfl) (by rw [f_add (by omega)]))
      (oblC (shown_eq (v := .int .i64 (wrapF .i64 (Int.sub (.ofNat n) (.ofNat l)))) (by kernel_rfl) (by kernel_rfl) (by rw [f_sub (by omega) (by omega)]))
      (oblC (shown_idx (n := n + 1) (by kernel_rfl) (by omega)) (oblC (shown_cell (by kernel_rfl) (int_at (g := 0) (n := n + 1) (v := v) (by kernel_rfl) (by omega)))
      (oblC (shown_eq (v := .int .i64 (if Int.ofNat (v (n - l)) > Int.ofNat (b + v (l - 1)) then Int.ofNat (v (n - l)) else Int.ofNat (b + v (l - 1)))) (by kernel_rfl) (by kernel_rfl) (by rw [c1]))
      (oblC (shown_eq (v := .int .i64 (wrapF .i64 (Int.add (.ofNat t) (.ofNat (costP b v n l))))) (by kernel_rfl) (by kernel_rfl) (by rw [f_add (by omega)])) oblN))))))))) ?_))
    have hf : ltF (.ofNat most) (.ofNat (t + costP b v n l)) = false := by rw [ltF_eq, decide_eq_false_iff_not]; show ¬ ((most : Nat) : Int) < ((t + costP b v n l : Nat) : Int); omega
    refine Runs.cd (b := ltF (.ofNat most) (.ofNat (t + costP b v n l))) (by kernel_rfl) (fun h => by rw [hf] at h; cases h) (fun _ => Runs.now (x := .exit 0) (by kernel_rfl) ⟨rfl, ?_⟩)
    exact less_seenP s79_clo rowI_clo (Nat.zero_le 1) (by kernel_rfl) (by kernel_rfl) (by kernel_rfl) (by kernel_rfl)
  | succ d ih =>
    intro l h1 hl
    have no := firstL_before hn1 h1 (show l < firstL t b n most by omega)
    have hln : l < n := by omega
    have no' : most < t + costP b v n l := no
    have b1 := hv (l - 1) (by omega)
    have b2 := hv (n - l) (by omega)
    have hcost : costP b v n l < 2000000 := by unfold costP; omega
    have c1 : (Int.ofNat (costP b v n l)) = if Int.ofNat (v (n - l)) > Int.ofNat (b + v (l - 1)) then Int.ofNat (v (n - l)) else Int.ofNat (b + v (l - 1)) := (f_max (b + v (l - 1)) (v (n - l))).symm
    refine Runs.lp (by kernel_rfl) (Runs.sq (by kernel_rfl) (Runs.sqR mixed hk38 [viaV 4 (.int .i64 (.ofNat (l - 1))), viaV 5 (.pointer (some ⟨0, 0 + (l - 1) * 1, none⟩)), viaV 6 (.int .i64 (.ofNat (v (l - 1)))), viaV 7 (.int .i64 (.ofNat (b + v (l - 1)))), viaV 11 (.int .i64 (.ofNat (n - l))),
        viaV 12 (.pointer (some ⟨0, 0 + (n - l) * 1, none⟩)), viaV 13 (.int .i64 (.ofNat (v (n - l)))), viaV 14 (.int .i64 (.ofNat (costP b v n l))), viaV 15 (.int .i64 (.ofNat (t + costP b v n l)))] (by kernel_rfl) (by kernel_rfl) (by kernel_rfl)
      (oblC (shown_eq (v := .int .i64 (wrapF .i64 (Int.sub (.ofNat l) (.ofNat 1)))) (by kernel_rfl) (by kernel_rfl) (by rw [f_sub (by omega) (by omega)]))
      (oblC (shown_idx (n := n + 1) (by kernel_rfl) (by omega)) (oblC (shown_cell (by kernel_rfl) (int_at (g := 0) (n := n + 1) (v := v) (by kernel_rfl) (by omega)))
      (oblC (shown_eq (v := .int .i64 (wrapF .i64 (Int.add (.ofNat b) (.ofNat (v (l - 1)))))) (by kernel_rfl) (by kernel_rfl) (by rw [f_add (by omega)]))
      (oblC (shown_eq (v := .int .i64 (wrapF .i64 (Int.sub (.ofNat n) (.ofNat l)))) (by kernel_rfl) (by kernel_rfl) (by rw [f_sub (by omega) (by omega)]))
      (oblC (shown_idx (n := n + 1) (by kernel_rfl) (by omega)) (oblC (shown_cell (by kernel_rfl) (int_at (g := 0) (n := n + 1) (v := v) (by kernel_rfl) (by omega)))
      (oblC (shown_eq (v := .int .i64 (if Int.ofNat (v (n - l)) > Int.ofNat (b + v (l - 1)) then Int.ofNat (v (n - l)) else Int.ofNat (b + v (l - 1)))) (by kernel_rfl) (by kernel_rfl) (by rw [c1]))
      (oblC (shown_eq (v := .int .i64 (wrapF .i64 (Int.add (.ofNat t) (.ofNat (costP b v n l))))) (by kernel_rfl) (by kernel_rfl) (by rw [f_add (by omega)])) oblN))))))))) ?_))
    have hf : ltF (.ofNat most) (.ofNat (t + costP b v n l)) = true := lt_of no
    refine Runs.cd (b := ltF (.ofNat most) (.ofNat (t + costP b v n l))) (by kernel_rfl) (fun _ => Runs.now (x := .normal) (by kernel_rfl) ?_) (fun h => by rw [hf] at h; cases h)
    show Runs Tryd.prog 0 _ _ _
    refine Runs.bk (id := 1) (by kernel_rfl) (Runs.rg mixed hk38 [] (by kernel_rfl) (by kernel_rfl) (by kernel_rfl) oblN ?_)
    show Runs Tryd.prog 0 lp79 _ _
    have ew : S79 n t b most (l + 1) = [(0, i64 n), (1, i64 t), (2, i64 b), (3, i64 most), (9, lvI (some 1) (n + 1)), (10, .int .i64 (wrapF .i64 (Int.add (.ofNat l) (.ofNat 1))))] := by rw [wrap_succ (by omega : l < 4611686018427387904)]; rfl
    refine Runs.less (af1 := sth (S79 n t b most (l + 1)) 64 [rowI (n + 1) v]) (less_seenP s79_clo rowI_clo (Nat.zero_le 1) ?_ (by kernel_rfl) (by kernel_rfl) (by kernel_rfl)) (ih (l + 1) (by omega) (by omega))
    rw [ew]
    exact Eq.trans (Eq.refl _) (by kernel_rfl)
end
end Go.Proofs.YtgnkjmgkfibipaaDoor

/- TrialPrices: the reference's cheap, as a contract. -/
namespace Go.Proofs.YtgnkjmgkfibipaaDoor
set_option linter.unusedVariables false
set_option linter.unusedSimpArgs false
open Go Go.R
set_option maxRecDepth 1000000
noncomputable section

def lvL (sp : Option Nat) (n : Nat) : Value := .slice (some ⟨0, 0, sp⟩) n n
def R8 (n t b most l : Nat) (sp : Option Nat) (len : Nat) : List (Nat × Value) := [(0, i64 n), (1, i64 t), (2, i64 b), (3, i64 most), (10, i64 l), (11, lvL sp len)]
theorem r8_clo {n t b most l len : Nat} {sp : Option Nat} (h : sp = none ∨ sp = some 1) : ∀ q ∈ R8 n t b most l sp len, Clo 1 q.2 := by
  rcases h with rfl | rfl <;> exact clo_all (by kernel_rfl)
theorem rowL_clo {l : List Nat} : ∀ x ∈ [rowL l], CloO 1 x := fun x hx => by rw [List.mem_singleton.1 hx]; exact cloO_plain (litI_plain l) _ _

theorem r8_next {n t b most l len q : Nat} {sp : Option Nat} (hsp : sp = none ∨ sp = some 1) {C : List Nat} {k0 : Code} {Q : AExit → AF → Prop} {rows : List Value} (hrows : rows = litI C) {par : List Nat} {af : AF} (hsz : af.sz = 64)
    (tt : ([0, 1, 2, 3, 10, 11] : List Nat).map af.tm.get = [some (i64 n), some (i64 t), some (i64 b), some (i64 most), some (i64 l), some (.slice (some ⟨q, 0, sp⟩) len len)]) (g : af.h.get q = .cells rows true par (some 3))
    (h : Runs Tryd.prog 0 k0 (sth (R8 n t b most l sp len) 64 [rowL C]) Q) : Runs Tryd.prog 0 k0 af Q := by
  subst hrows
  simp only [List.map_cons, List.map_nil, List.cons.injEq, and_true] at tt
  obtain ⟨t0, t1, t2, t3, t10, t11⟩ := tt
  refine Runs.renum (l := R8 n t b most l sp len) (os := [rowL C]) (fun _ => q) hsz (Nat.zero_le 1) (fun j hj => absurd hj (Nat.not_lt_zero j)) (fun a b ha hb _ => ?_) (fun p hp => ?_) (fun j o ho => ?_) (fun a b ha hb hne => ?_) h
  · have ha' : a < 1 := ha
    have hb' : b < 1 := hb
    omega
  · simp only [R8, List.mem_cons, List.mem_nil_iff, or_false] at hp
    rcases hp with rfl | rfl | rfl | rfl | rfl | rfl
    · exact ⟨_, t0, Ren.plain rfl⟩
    · exact ⟨_, t1, Ren.plain rfl⟩
    · exact ⟨_, t2, Ren.plain rfl⟩
    · exact ⟨_, t3, Ren.plain rfl⟩
    · exact ⟨_, t10, Ren.plain rfl⟩
    · rcases hsp with rfl | rfl
      · exact ⟨_, t11, Ren.slice (show 0 < 1 by decide) rfl⟩
      · exact ⟨_, t11, Ren.sliceU (show 0 < 1 by decide) rfl⟩
  · match j, ho with
    | 0, ho =>
      have : rowL C = o := Option.some.inj ho
      subst this
      show RenO _ _ (af.h.get q) _
      rw [g]
      refine ⟨rfl, fun k u w hu hw => ?_, fun _ => rfl, rfl, .inr rfl⟩
      rw [hu] at hw
      cases hw
      exact Ren.plain (litI_plain _ u (List.mem_of_getElem? hu))
    | j + 1, ho => simp at ho
  · have ha' : a < 1 := ha
    have hb' : b < 1 := hb
    omega

theorem cheap_tail {t b d n most l : Nat} (ht : t ≤ 50) (hb : b ≤ 50) (hn : n ≤ 12) (hmost : most < 1000000) (hl1 : 1 ≤ l) (hln : l ≤ n) (htm : t ≤ most) (hd : n - l ≤ d)
    (IH : Local Tryd.prog 0 79 [i64 (n - l), i64 t, i64 b, i64 (most - t)] AH.empty (NewList (cheapL t b d (n - l) (most - t)))) {sp : Option Nat} (hsp : sp = none ∨ sp = some 1) {C : List Nat} (hC : C ≠ []) (hCl : C.length < 1000) :
    Runs Tryd.prog 0 (behind 6 c79) (sth (R8 n t b most l sp C.length) 64 [rowL C]) (EndsAs Tryd.prog Tryd.f79 (NewList (C ++ (cheapL t b d (n - l) (most - t)).map (· + l)))) := by
  let B := cheapL t b d (n - l) (most - t)
  have hBlen : B.length = n - l := cheap_len t b d _ _ hd
  have hBle : ∀ x ∈ B, x ≤ n - l := cheap_le t b d _ _ hd
  have clen : (litI C).length = C.length := litI_len C
  by_cases hB : B = []
  · have e : C ++ B.map (· + l) = C := by rw [hB]; simp
    show Runs Tryd.prog 0 _ _ (EndsAs Tryd.prog Tryd.f79 (NewList (C ++ B.map (· + l))))
    rw [e]
    have hS := nil_says hB IH four_plain (hp [rowL C])
    have hap := app_nil (n := C.length) (by omega) hsp (h := hp [rowL C])
    refine Runs.sqR mixed hk38 [viaV 3 (i64 (n - l)), viaV 8 (i64 (most - t)), viaC 9 79 [i64 (n - l), i64 t, i64 b, i64 (most - t)] (.slice none 0 0), viaV 12 (lvL sp C.length)] (by kernel_rfl) (by kernel_rfl) (by kernel_rfl)
      (oblC (shown_eq (v := .int .i64 (wrapF .i64 (Int.sub (.ofNat n) (.ofNat l)))) (by kernel_rfl) (by kernel_rfl) (by rw [f_sub (by omega) (by omega)]; rfl))
      (oblC (shown_eq (v := .int .i64 (wrapF .i64 (Int.sub (.ofNat most) (.ofNat t)))) (by kernel_rfl) (by kernel_rfl) (by rw [f_sub (by omega) (by omega)]; rfl))
      (oblC (shown_callE (by kernel_rfl) (by kernel_rfl) hS)
      (oblC ⟨by kernel_rfl, (show _ = appendA Tryd.prog #[24, 24] (.slice (some ⟨0, 0, sp⟩) C.length C.length) (.slice none 0 0) (hp [rowL C]) by kernel_rfl).trans hap⟩ oblN)))) ?_
    refine Runs.now (x := .ret) (by kernel_rfl) ⟨.inr rfl, [lvL sp C.length], by kernel_rfl, .inr ⟨hC, 0, [], ?_, by kernel_rfl⟩⟩
    rcases hsp with rfl | rfl
    · exact .inr (by rw [clen]; rfl)
    · exact .inl (by rw [clen]; rfl)
  · have hpos : 0 < B.length := Nat.pos_of_ne_zero fun e => hB (List.eq_nil_of_length_eq_zero e)
    let B' := B.map (· + l)
    have hB' : B' ≠ [] := fun e => hB (List.map_eq_nil_iff.1 e)
    have hBl' : B'.length = B.length := List.length_map _
    have hne : C ++ B' ≠ [] := fun e => hC (List.append_eq_nil_iff.1 e).1
    let H1 : AH := ((hp [rowL C]).new (rowL B)).2
    let H2 : AH := (H1.new (rowL B')).2
    have hS := list_says hB IH four_plain (hp [rowL C])
    have hR : Says Tryd.prog H1 117 [.slice (some ⟨1, 0, some 1⟩) B.length B.length, i64 l] (.slice (some ⟨2, 0, some 1⟩) B'.length B'.length) H2 := by
      have := raised_says (h := H1) (i := 1) B l (lv := true) (par := []) (ty := some 3) (by kernel_rfl) hpos (by omega) (by omega) (fun i => by have := getD_le hBle i; omega)
      rw [show B'.length = B.length from hBl']
      exact this
    have g0 : H2.get 0 = .cells (litI C) true [] (some 3) := by kernel_rfl
    have g2 : H2.get 2 = .cells (litI B') true [] (some 3) := by kernel_rfl
    have fin : ∀ (Hn : AH) (par : List Nat), Hn.get 3 = .cells (litI C ++ litI B') true par (some 3) → NewList (C ++ B') (.slice (some ⟨3, 0, some 1⟩) (C.length + B'.length) (C.length + B'.length)) Hn := by
      intro Hn par hg
      refine .inr ⟨hne, 3, par, .inl ?_, by rw [← litI_app]; exact hg⟩
      rw [litI_len, List.length_append]; rfl
    rcases hsp with rfl | rfl
    · have hap := app_n (h := H2) (i0 := 0) (j := 2) (A := C) (B := B') (par := []) (lv2 := true) (par2 := []) (sp2 := some 1) hB' ⟨by omega, by omega⟩ g0 g2
      refine Runs.sqR mixed hk38 [viaV 3 (i64 (n - l)), viaV 8 (i64 (most - t)), viaH 9 79 [i64 (n - l), i64 t, i64 b, i64 (most - t)] (.slice (some ⟨1, 0, some 1⟩) B.length B.length) H1, viaH 11 117 [.slice (some ⟨1, 0, some 1⟩) B.length B.length, i64 l] (.slice (some ⟨2, 0, some 1⟩) B'.length B'.length) H2,
          ⟨12, .slice (some ⟨3, 0, some 1⟩) (C.length + B'.length) (C.length + B'.length), some (H2.new (.cells (litI C ++ litI B') true [] (some 3))).2, none⟩] (by kernel_rfl) (by kernel_rfl) (by kernel_rfl)
        (oblC (shown_eq (v := .int .i64 (wrapF .i64 (Int.sub (.ofNat n) (.ofNat l)))) (by kernel_rfl) (by kernel_rfl) (by rw [f_sub (by omega) (by omega)]; rfl))
        (oblC (shown_eq (v := .int .i64 (wrapF .i64 (Int.sub (.ofNat most) (.ofNat t)))) (by kernel_rfl) (by kernel_rfl) (by rw [f_sub (by omega) (by omega)]; rfl))
        (oblC (shown_callHE (by kernel_rfl) (by kernel_rfl) hS) (oblC (shown_callHE (by kernel_rfl) (by kernel_rfl) hR)
        (oblC ⟨by kernel_rfl, (show _ = appendA Tryd.prog #[24, 24] (.slice (some ⟨0, 0, none⟩) C.length C.length) (.slice (some ⟨2, 0, some 1⟩) B'.length B'.length) H2 by kernel_rfl).trans hap⟩ oblN))))) ?_
      exact Runs.now (x := .ret) (by kernel_rfl) ⟨.inr rfl, [.slice (some ⟨3, 0, some 1⟩) (C.length + B'.length) (C.length + B'.length)], by kernel_rfl, fin _ [] (by kernel_rfl)⟩
    · have hap := app_u (h := H2) (i0 := 0) (j := 2) (A := C) (B := B') (par := []) (lv2 := true) (par2 := []) (sp2 := some 1) hB' ⟨by omega, by omega⟩ g0 g2
      refine Runs.sqR mixed hk38 [viaV 3 (i64 (n - l)), viaV 8 (i64 (most - t)), viaH 9 79 [i64 (n - l), i64 t, i64 b, i64 (most - t)] (.slice (some ⟨1, 0, some 1⟩) B.length B.length) H1, viaH 11 117 [.slice (some ⟨1, 0, some 1⟩) B.length B.length, i64 l] (.slice (some ⟨2, 0, some 1⟩) B'.length B'.length) H2,
          ⟨12, .slice (some ⟨3, 0, some 1⟩) (C.length + B'.length) (C.length + B'.length), some ((H2.put 0 (.cells (litI C) false [] (some 3))).new (.cells (litI C ++ litI B') true [0] (some 3))).2, none⟩] (by kernel_rfl) (by kernel_rfl) (by kernel_rfl)
        (oblC (shown_eq (v := .int .i64 (wrapF .i64 (Int.sub (.ofNat n) (.ofNat l)))) (by kernel_rfl) (by kernel_rfl) (by rw [f_sub (by omega) (by omega)]; rfl))
        (oblC (shown_eq (v := .int .i64 (wrapF .i64 (Int.sub (.ofNat most) (.ofNat t)))) (by kernel_rfl) (by kernel_rfl) (by rw [f_sub (by omega) (by omega)]; rfl))
        (oblC (shown_callHE (by kernel_rfl) (by kernel_rfl) hS) (oblC (shown_callHE (by kernel_rfl) (by kernel_rfl) hR)
        (oblC ⟨by kernel_rfl, (show _ = appendA Tryd.prog #[24, 24] (.slice (some ⟨0, 0, some 1⟩) C.length C.length) (.slice (some ⟨2, 0, some 1⟩) B'.length B'.length) H2 by kernel_rfl).trans hap⟩ oblN))))) ?_
      exact Runs.now (x := .ret) (by kernel_rfl) ⟨.inr rfl, [.slice (some ⟨3, 0, some 1⟩) (C.length + B'.length) (C.length + B'.length)], by kernel_rfl, fin _ [0] (by kernel_rfl)⟩

theorem cheap_local (t b : Nat) (ht : t ≤ 50) (hb : b ≤ 50) : ∀ d n most, n ≤ d → n ≤ 12 → priceV t b n ≤ most → most < 1000000 → Local Tryd.prog 0 79 [i64 n, i64 t, i64 b, i64 most] AH.empty (NewList (cheapL t b d n most))
  | d, 0, most, _, _, _, _ => by
    have e : cheapL t b d 0 most = [] := by cases d <;> rfl
    rw [e]
    refine local_of noNum Tryd.func79 (show Tryd.f79.body = some c79 by kernel_rfl) ?_
    refine Runs.sqR mixed hk38 [] (by kernel_rfl) (by kernel_rfl) (by kernel_rfl) oblN ?_
    refine Runs.sq (by kernel_rfl) (Runs.sqR mixed hk38 [] (by kernel_rfl) (by kernel_rfl) (by kernel_rfl) oblN ?_)
    refine Runs.cd (b := true) (by kernel_rfl) (fun _ => ?_) (fun h => by cases h)
    exact Runs.sqR mixed hk38 [] (by kernel_rfl) (by kernel_rfl) (by kernel_rfl) oblN (Runs.now (x := .ret) (by kernel_rfl) ⟨.inr rfl, [.slice none 0 0], by kernel_rfl, .inl ⟨rfl, rfl⟩⟩)
  | 0, n + 1, most, h, _, _, _ => by omega
  | d + 1, n + 1, most, hd, hn, hpr, hmost => by
    have hF := firstL_le t b (n + 1) most (by omega)
    have hok := firstL_ok (t := t) (b := b) (n := n + 1) (by omega) hpr
    let l := firstL t b (n + 1) most
    have hl1 : 1 ≤ l := hF.1
    have hln : l ≤ n + 1 := hF.2
    have hok' : t + costP b (priceV t b) (n + 1) l ≤ most := hok
    have pA : b + priceV t b (l - 1) ≤ most - t := by unfold costP at hok'; omega
    have pB : priceV t b (n + 1 - l) ≤ most - t := by unfold costP at hok'; omega
    have IHA := cheap_local t b ht hb d (l - 1) (most - t - b) (by omega) (by omega) (by omega) (by omega)
    have IHB := cheap_local t b ht hb d (n + 1 - l) (most - t) (by omega) (by omega) pB (by omega)
    let A := cheapL t b d (l - 1) (most - t - b)
    have hAlen : A.length = l - 1 := cheap_len t b d _ _ (by omega)
    have hdef : cheapL t b (d + 1) (n + 1) most = (l :: A) ++ (cheapL t b d (n + 1 - l) (most - t)).map (· + l) := by
      show (if n + 1 = 0 then [] else _) = _
      rw [if_neg (by omega)]
      rfl
    rw [hdef]
    refine local_of noNum Tryd.func79 (show Tryd.f79.body = some c79 by kernel_rfl) ?_
    refine Runs.sqR mixed hk38 [] (by kernel_rfl) (by kernel_rfl) (by kernel_rfl) oblN ?_
    refine Runs.sq (by kernel_rfl) (Runs.sqR mixed hk38 [] (by kernel_rfl) (by kernel_rfl) (by kernel_rfl) oblN ?_)
    refine Runs.cd (b := false) (by kernel_rfl) (fun h => by cases h) (fun _ => Runs.now (x := .normal) (by kernel_rfl) ?_)
    show Runs Tryd.prog 0 _ _ _
    have hS77 : Says Tryd.prog AH.empty 77 [i64 (n + 1), i64 t, i64 b] (.slice (some ⟨0, 0, some 1⟩) (n + 2) (n + 2)) (AH.empty.new (rowI (n + 2) (priceV t b))).2 := new_says (ref_prices_local (n + 1) t b ht hb hn) three_plain AH.empty
    refine Runs.sqR mixed hk38 [viaH 3 77 [i64 (n + 1), i64 t, i64 b] (.slice (some ⟨0, 0, some 1⟩) (n + 2) (n + 2)) (AH.empty.new (rowI (n + 2) (priceV t b))).2] (by kernel_rfl) (by kernel_rfl) (by kernel_rfl) (oblC (shown_callHE (by kernel_rfl) (by kernel_rfl) hS77) oblN) ?_
    refine Runs.sqR mixed hk38 [] (by kernel_rfl) (by kernel_rfl) (by kernel_rfl) oblN ?_
    refine Runs.sq (by kernel_rfl) (Runs.bk (id := 0) (by kernel_rfl) ?_)
    refine Runs.less (af1 := sth (S79 (n + 1) t b most 1) 64 [rowI (n + 2) (priceV t b)]) (less_seenP s79_clo rowI_clo (Nat.zero_le 1) (by kernel_rfl) (by kernel_rfl) (by kernel_rfl) (by kernel_rfl)) ?_
    refine (first_loop (n + 1) t b most (by omega) hn ht hb hpr (l - 1) 1 (Nat.le_refl 1) (show 1 + (l - 1) = l by omega)).mono fun x af hx => ?_
    obtain ⟨rfl, less⟩ := hx
    show Runs Tryd.prog 0 (behind 5 c79) af _
    refine Runs.less (af1 := sth (S79 (n + 1) t b most l) 64 [rowI (n + 2) (priceV t b)]) less ?_
    let H1 : AH := ((hp [rowI (n + 2) (priceV t b)]).new (rowL [l])).2
    have htm : t ≤ most := by omega
    have hbm : b ≤ most - t := by omega
    have clen : (l :: A).length = l := by rw [List.length_cons, hAlen]; omega
    by_cases hA : A = []
    · have hS := nil_says hA IHA four_plain H1
      refine Runs.sqR mixed hk38 [viaV 3 (i64 (l - 1)), viaV 8 (i64 (most - t)), viaV 10 (i64 (most - t - b)), viaC 11 79 [i64 (l - 1), i64 t, i64 b, i64 (most - t - b)] (.slice none 0 0)] (by kernel_rfl) (by kernel_rfl) (by kernel_rfl)
        (oblC (shown_eq (v := .int .i64 (wrapF .i64 (Int.sub (.ofNat l) (.ofNat 1)))) (by kernel_rfl) (by kernel_rfl) (by rw [f_sub (by omega) (by omega)]; rfl))
        (oblC (shown_eq (v := .int .i64 (wrapF .i64 (Int.sub (.ofNat most) (.ofNat t)))) (by kernel_rfl) (by kernel_rfl) (by rw [f_sub (by omega) (by omega)]; rfl))
        (oblC (shown_eq (v := .int .i64 (wrapF .i64 (Int.sub (.ofNat (most - t)) (.ofNat b)))) (by kernel_rfl) (by kernel_rfl) (by rw [f_sub (by omega) (by omega)]; rfl))
        (oblC (shown_callE (by kernel_rfl) (by kernel_rfl) hS) oblN)))) ?_
      have e1 : l :: A = [l] := by rw [hA]
      rw [e1]
      exact r8_next (q := 1) (sp := none) (.inl rfl) (C := [l]) (rows := litI [l]) (par := []) rfl (by kernel_rfl) (by kernel_rfl) (by kernel_rfl) (cheap_tail ht hb hn hmost hl1 hln htm (by omega) IHB (.inl rfl) (C := [l]) (by simp) (by simp))
    · have hS := list_says hA IHA four_plain H1
      let H2 : AH := (H1.new (rowL A)).2
      have g1 : H2.get 1 = .cells (litI [l]) true [] (some 3) := by kernel_rfl
      have g2 : H2.get 2 = .cells (litI A) true [] (some 3) := by kernel_rfl
      have hap := app_n (h := H2) (i0 := 1) (j := 2) (A := [l]) (B := A) (par := []) (lv2 := true) (par2 := []) (sp2 := some 1) hA ⟨by simp, by omega⟩ g1 g2
      refine Runs.sqR mixed hk38 [viaV 3 (i64 (l - 1)), viaV 8 (i64 (most - t)), viaV 10 (i64 (most - t - b)), viaH 11 79 [i64 (l - 1), i64 t, i64 b, i64 (most - t - b)] (.slice (some ⟨2, 0, some 1⟩) A.length A.length) H2,
          ⟨12, .slice (some ⟨3, 0, some 1⟩) ([l].length + A.length) ([l].length + A.length), some (H2.new (.cells (litI [l] ++ litI A) true [] (some 3))).2, none⟩] (by kernel_rfl) (by kernel_rfl) (by kernel_rfl)
        (oblC (shown_eq (v := .int .i64 (wrapF .i64 (Int.sub (.ofNat l) (.ofNat 1)))) (by kernel_rfl) (by kernel_rfl) (by rw [f_sub (by omega) (by omega)]; rfl))
        (oblC (shown_eq (v := .int .i64 (wrapF .i64 (Int.sub (.ofNat most) (.ofNat t)))) (by kernel_rfl) (by kernel_rfl) (by rw [f_sub (by omega) (by omega)]; rfl))
        (oblC (shown_eq (v := .int .i64 (wrapF .i64 (Int.sub (.ofNat (most - t)) (.ofNat b)))) (by kernel_rfl) (by kernel_rfl) (by rw [f_sub (by omega) (by omega)]; rfl))
        (oblC (shown_callHE (by kernel_rfl) (by kernel_rfl) hS)
        (oblC ⟨by kernel_rfl, (show _ = appendA Tryd.prog #[24, 24] (.slice (some ⟨1, 0, none⟩) [l].length [l].length) (.slice (some ⟨2, 0, some 1⟩) A.length A.length) H2 by kernel_rfl).trans hap⟩ oblN))))) ?_
      have hlenA : [l].length + A.length = (l :: A).length := by show 1 + A.length = A.length + 1; omega
      refine r8_next (n := n + 1) (t := t) (b := b) (most := most) (l := l) (q := 3) (sp := some 1) (len := [l].length + A.length) (.inr rfl) (C := l :: A) (rows := litI [l] ++ litI A) (par := []) (by rw [litI_app]; rfl) (by kernel_rfl) (by kernel_rfl) (by kernel_rfl) ?_
      rw [hlenA]
      exact cheap_tail ht hb hn hmost hl1 hln htm (by omega) IHB (.inr rfl) (C := l :: A) (by simp) (by rw [clen]; omega)
end
end Go.Proofs.YtgnkjmgkfibipaaDoor

