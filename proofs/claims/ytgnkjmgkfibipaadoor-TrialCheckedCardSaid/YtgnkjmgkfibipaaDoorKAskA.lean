/- TrialAsked: the list of results made of bytes. -/
import Derived.Test.YtgnkjmgkfibipaaDoorKRes3
import Derived.Test.YtgnkjmgkfibipaaDoorRVias
namespace Go.Proofs.YtgnkjmgkfibipaaDoor
set_option linter.unusedVariables false
set_option linter.unusedSimpArgs false
open Go Go.R
set_option maxRecDepth 1000000
noncomputable section

/-! ### Numbers -/
theorem wrap64 {k : Nat} (h : k < 9223372036854775808) : IntKind.wrap .i64 (.ofNat k) = .ofNat k := by rw [← wrapF_eq]; exact wrap_ofNat h
theorem wrap8 {k : Nat} (h : k < 256) : IntKind.wrap .u8 (.ofNat k) = .ofNat k := by
  have e : (Int.ofNat k) = (k : Int) := rfl
  simp only [IntKind.wrap, IntKind.signed, IntKind.bits, e]
  simp
  omega
theorem f_add {a b : Nat} (h : a + b < 9223372036854775808) : wrapF .i64 (Int.add (.ofNat a) (.ofNat b)) = .ofNat (a + b) := wrap_ofNat h
theorem f_mul {a b : Nat} (h : a * b < 9223372036854775808) : wrapF .i64 (Int.mul (.ofNat a) (.ofNat b)) = .ofNat (a * b) := wrap_ofNat h
theorem f_quo {a b : Nat} (h : a < 9223372036854775808) : wrapF .i64 (Int.tdiv (.ofNat a) (.ofNat b)) = .ofNat (a / b) := wrap_ofNat (Nat.lt_of_le_of_lt (Nat.div_le_self a b) h)
theorem f_quo8 {a b : Nat} (h : a < 256) : wrapF .u8 (Int.tdiv (.ofNat a) (.ofNat b)) = .ofNat (a / b) := by
  rw [wrapF_eq]; exact wrap8 (Nat.lt_of_le_of_lt (Nat.div_le_self a b) h)

/-! ### The bytes, the results -/
def byL (y : Nat → Nat) : List Value := (List.range 20).map fun i => .int .u8 (.ofNat (y i))
def byO (y : Nat → Nat) : AObj := .cells (byL y) true [] (some 49)
def byV (y : Nat → Nat) : Value := .agg (byL y).toArray
def fA (y : Nat → Nat) (nn : Nat) (i : Nat) : Int := .ofNat (y i / 2 % (nn + 1) + 1)
def gA (y : Nat → Nat) (i : Nat) : Bool := eqF (.ofNat (y i % 2)) (.ofNat 1)
def rowO (n : Nat) (f : Nat → Int) (g : Nat → Bool) : AObj := .cells (rowsF n f g) true [] (some 52)
def rowV2 (n : Nat) : Value := .slice (some ⟨1, 0, some 2⟩) n n
def rootQ (y : Nat → Nat) (n : Nat) (f : Nat → Int) (g : Nat → Bool) : List AObj := [byO y, rowO n f g]

theorem byL_plain (y : Nat → Nat) : ∀ v ∈ byL y, plainV v = true := fun v hv => by
  obtain ⟨i, _, rfl⟩ := List.mem_map.1 hv; rfl
theorem rowsF_plain (n : Nat) (f : Nat → Int) (g : Nat → Bool) : ∀ v ∈ rowsF n f g, plainV v = true := rows2_plain (fun _ => rfl) (fun _ => rfl) n
theorem byO_clo (k : Nat) (y : Nat → Nat) : CloO k (byO y) := cloO_plain (byL_plain y) _ _
theorem rootQ_clo {y : Nat → Nat} {n : Nat} {f : Nat → Int} {g : Nat → Bool} : ∀ x ∈ rootQ y n f g, CloO 2 x := fun x hx => by
  simp only [rootQ, List.mem_cons, List.mem_nil_iff, or_false] at hx
  rcases hx with rfl | rfl
  · exact byO_clo 2 y
  · exact cloO_plain (rowsF_plain n f g) _ _
theorem by_clo {y : Nat → Nat} : ∀ x ∈ [byO y], CloO 1 x := fun x hx => by rw [List.mem_singleton.1 hx]; exact byO_clo 1 y

def c9 : Code := bodyOf Tryd.f9
def lpA0 : Code := within (tl (hd (behind 3 c9)))
def SA (nn b m : Nat) (lv : Value) (i : Nat) : List (Nat × Value) := [(1, .int .u8 (.ofNat b)), (7, i64 (nn + 1)), (8, lv), (38, .slice (some ⟨0, 0, none⟩) m 20), (39, i64 m), (40, i64 i)]
theorem sa_clo {nn b m : Nat} {i : Nat} {n : Nat} : ∀ q ∈ SA nn b m (rowV2 n) i, Clo 2 q.2 := clo_all (by kernel_rfl)
theorem saz_clo {nn b m : Nat} {i : Nat} : ∀ q ∈ SA nn b m (.slice none 0 0) i, Clo 1 q.2 := clo_all (by kernel_rfl)

theorem by_at {h : AH} {y : Nat → Nat} (hg : h.get 0 = byO y) {i : Nat} (hi : i < 20) : rowAt? h 0 (0 + i * 1) 1 = some [.int .u8 (.ofNat (y i))] := by
  rw [row_at hg (by simp [byL]; omega), Nat.zero_add, Nat.mul_one]
  have : (byL y)[i]? = some (.int .u8 (.ofNat (y i))) := by simp [byL, hi]
  rw [List.take_one, List.head?_drop, this]
  rfl

/-- The next state behind a round, the new row under its number. -/
theorem ask_next {nn b m : Nat} {y : Nat → Nat} {f : Nat → Int} {g : Nat → Bool} {k0 : Code} {Q : AExit → AF → Prop} (i q : Nat) (rows : List Value) (hrows : rows = rowsF (i + 1) f g) (hq : q ≠ 0) (par : List Nat) (h0 : 0 ∉ par) {af : AF} (hsz : af.sz = 254)
    (tt : ∀ p ∈ SA nn b m (.slice (some ⟨q, 0, some 2⟩) (i + 1) (i + 1)) i, af.tm.get p.1 = some p.2) (g0 : af.h.get 0 = byO y) (g1 : af.h.get q = .cells rows true par (some 52))
    (h : Runs Tryd.prog 0 k0 (sth (SA nn b m (rowV2 (i + 1)) i) 254 (rootQ y (i + 1) f g)) Q) : Runs Tryd.prog 0 k0 af Q := by
  subst hrows
  let ρ : Nat → Nat := fun j => if j = 0 then 0 else q
  have r0 : ρ 0 = 0 := rfl
  have r1 : ρ 1 = q := rfl
  refine Runs.renum (l := SA nn b m (rowV2 (i + 1)) i) (os := rootQ y (i + 1) f g) ρ hsz (Nat.zero_le 2) (fun j hj => absurd hj (Nat.not_lt_zero j)) (fun a b ha hb e => ?_) (fun p hp => ?_) (fun j o ho => ?_) (fun a b ha hb hne cs lv p ty hg => ?_) h
  · have ha' : a < 2 := ha
    have hb' : b < 2 := hb
    match a, b, ha', hb' with
    | 0, 0, _, _ => rfl
    | 1, 1, _, _ => rfl
    | 0, 1, _, _ => exact absurd (show q = 0 from e.symm) hq
    | 1, 0, _, _ => exact absurd (show q = 0 from e) hq
    | a + 2, _, h, _ => omega
    | _, b + 2, _, h => omega
  · simp only [SA, List.mem_cons, List.mem_nil_iff, or_false] at hp
    have at_ : ∀ p, p ∈ SA nn b m (.slice (some ⟨q, 0, some 2⟩) (i + 1) (i + 1)) i → af.tm.get p.1 = some p.2 := tt
    rcases hp with rfl | rfl | rfl | rfl | rfl | rfl
    · exact ⟨_, at_ (1, _) (by simp [SA]), Ren.plain rfl⟩
    · exact ⟨_, at_ (7, _) (by simp [SA]), Ren.plain rfl⟩
    · exact ⟨.slice (some ⟨q, 0, some 2⟩) (i + 1) (i + 1), at_ (8, .slice (some ⟨q, 0, some 2⟩) (i + 1) (i + 1)) (by simp [SA]), Ren.sliceU (show 1 < 2 by decide) r1⟩
    · exact ⟨_, at_ (38, _) (by simp [SA]), Ren.slice (show 0 < 2 by decide) r0⟩
    · exact ⟨_, at_ (39, _) (by simp [SA]), Ren.plain rfl⟩
    · exact ⟨_, at_ (40, _) (by simp [SA]), Ren.plain rfl⟩
  · have same : ∀ (l : List Value), (∀ v ∈ l, plainV v = true) → ∀ (k : Nat) u v, l[k]? = some u → l[k]? = some v → Ren ρ 2 u v := fun l hl k u v hu hv => by
      rw [hu] at hv
      cases hv
      exact Ren.plain (hl u (List.mem_of_getElem? hu))
    match j, ho with
    | 0, ho =>
      have : byO y = o := Option.some.inj ho
      subst this
      rw [r0, g0]
      exact ⟨rfl, same _ (byL_plain y), fun _ => rfl, rfl, .inr rfl⟩
    | 1, ho =>
      have : rowO (i + 1) f g = o := Option.some.inj ho
      subst this
      rw [r1, g1]
      exact ⟨rfl, same _ (rowsF_plain (i + 1) f g), fun _ => rfl, rfl, .inr rfl⟩
    | j + 2, ho => simp [rootQ] at ho
  · have ha' : a < 2 := ha
    have hb' : b < 2 := hb
    match a, b, ha', hb' with
    | 0, 0, _, _ => exact absurd rfl hne
    | 1, 1, _, _ => exact absurd rfl hne
    | 0, 1, _, _ =>
      rw [r0, g0] at hg
      cases hg
      exact List.not_mem_nil
    | 1, 0, _, _ =>
      rw [r1, g1] at hg
      cases hg
      exact h0
    | a + 2, _, h, _ => omega
    | _, b + 2, _, h => omega

theorem append_own {i : Nat} (hi : i < 1000000) {f : Nat → Int} {g : Nat → Bool} {h : AH} {x y : Value} (hx : cellV x = true) (hy : cellV y = true) (h1 : h.get 1 = rowO i f g) (h2 : rowAt? h 2 0 2 = some [x, y]) :
    appendA Tryd.prog #[42, 42] (rowV2 i) (.slice (some ⟨2, 0, none⟩) 1 1) h =
      some (.slice (some ⟨h.next, 0, some 2⟩) (i + 1) (i + 1), ((h.put 1 (.cells (rowsF i f g) false [] (some 52))).new (.cells (rowsF i f g ++ [x, y]) true [1] (some 52))).2) := by
  have e1 : Tryd.prog.underlying 42 = some (.slice 52) := by kernel_rfl
  obtain ⟨info, e2, e3, e4⟩ : ∃ info, Tryd.prog.info? 52 = some info ∧ info.size = 2 ∧ (decide (info.bytes > 1000000) || !zfit info) = false := ⟨(Tryd.prog.info? 52).get!, by kernel_rfl, by kernel_rfl, by kernel_rfl⟩
  rw [Bool.or_eq_false_iff] at e4
  have e5 : srcA 2 (.slice (some ⟨2, 0, none⟩) 1 1) h = some ([x, y], 1) := by
    unfold srcA
    simp only [show ¬ (1 = 0) by decide, if_false]
    show (rowAt? h 2 0 2).map (·, 1) = _
    rw [h2]; rfl
  have e6 : (decide (i > 1000000)) = false := by simp; omega
  have e7 : appendU 52 2 1 0 i 1 [x, y] h = some (.slice (some ⟨h.next, 0, some 2⟩) (i + 1) (i + 1), ((h.put 1 (.cells (rowsF i f g) false [] (some 52))).new (.cells (rowsF i f g ++ [x, y]) true [1] (some 52))).2) := by
    unfold appendU
    rw [h1]
    show (if 0 + i * 2 = (rowsF i f g).length then _ else _) = _
    rw [if_pos (by unfold rowsF; rw [rows2_len]; omega)]
    rfl
  unfold appendA rowV2
  simp only [List.getElem?_toArray, List.getElem?_cons_zero, List.getElem?_cons_succ, e1, e2, srcKind, Bool.not_true, Bool.false_eq_true, if_false, e3, e5]
  have e8 : ([x, y].all cellV) = true := by simp [hx, hy]
  simp only [e8, e4.1, e4.2, e6, Bool.not_true, Bool.or_false, Bool.false_or, Bool.or_self, decide_false, show (2 = 0) = False by simp, show (1 : Nat) > 1000000 ↔ False by simp, show ((1 : Nat) = 0) = False by simp, if_false, decide_true, ne_eq, not_true_eq_false, Bool.false_eq_true, show (1 + 1 = 2) by rfl, e7]
end
end Go.Proofs.YtgnkjmgkfibipaaDoor
