/- A gallery: whether it is valid; its area. -/
import Derived.Test.YtbcjmmbmeebfgaaGreatDoorSFloodedUG1
namespace Go.Proofs.YtbcjmmbmeebfgaaGreatDoor
set_option linter.unusedVariables false
set_option linter.unusedSimpArgs false
open Go Go.R
set_option maxRecDepth 1000000
noncomputable section

noncomputable def gal (a b c : Int) : Value := .agg #[iZ a, iZ b, iZ c]
/-- A gallery's numbers are within the limits, and it has a direction. -/
structure Gal (a b c : Int) : Prop where
  a0 : -9 ≤ a
  a1 : a ≤ 9
  b0 : -9 ≤ b
  b1 : b ≤ 9
  c0 : -201 ≤ c
  c1 : c ≤ 200
  ne : a ≠ 0 ∨ b ≠ 0

theorem ltF_false {x y : Int} (h : y ≤ x) : ltF x y = false := by rw [ltF_eq]; simp; exact h
theorem leF_true {x y : Int} (h : x ≤ y) : leF x y = true := by rw [leF_eq]; simp; exact h
theorem eqF_false {x y : Int} (h : x ≠ y) : eqF x y = false := by rw [eqF_eq]; simp; exact h
theorem eqF_true {x y : Int} (h : x = y) : eqF x y = true := by rw [eqF_eq]; simp; exact h

/-! ### valid -/
noncomputable def c97 : Code := bodyOf Tryz.f97
theorem valid_local {a b c : Int} (G : Gal a b c) : Local Tryz.prog 0 97 [gal a b c] AH.empty fun v' _ => v' = i64 0 := by
  have hmin : ltF (if b < a then b else a) (.negSucc 8) = false := ltF_false (by show (-9 : Int) ≤ _; have := G.a0; have := G.b0; split <;> omega)
  have hmax : ltF (.ofNat 9) (if b > a then b else a) = false := ltF_false (by show _ ≤ (9 : Int); have := G.a1; have := G.b1; split <;> omega)
  have hc0 : ltF c (.negSucc 200) = false := ltF_false (by show (-201 : Int) ≤ _; exact G.c0)
  have hc1 : ltF (.ofNat 200) c = false := ltF_false (by show _ ≤ (200 : Int); exact G.c1)
  refine local_of noNum Tryz.func97 (show Tryz.f97.body = some c97 by kernel_rfl) ?_
  refine Runs.sqR mixed hkU [] (by kernel_rfl) (by kernel_rfl) (by kernel_rfl) oblN ?_
  refine Runs.sq (by kernel_rfl) (Runs.bk (id := 0) (by kernel_rfl) ?_)
  refine Runs.sqR mixed hkU [viaV 5 (.bool false), viaV 12 (.bool false), viaV 17 (.bool false), viaV 22 (.bool false)] (by kernel_rfl) (by kernel_rfl) (by kernel_rfl)
    (oblC (shown_eq (v := .bool (ltF (if b < a then b else a) (.negSucc 8))) (by kernel_rfl) (by kernel_rfl) (by rw [hmin]))
    (oblC (shown_eq (v := .bool (ltF (.ofNat 9) (if b > a then b else a))) (by kernel_rfl) (by kernel_rfl) (by rw [hmax]))
    (oblC (shown_eq (v := .bool (ltF c (.negSucc 200))) (by kernel_rfl) (by kernel_rfl) (by rw [hc0]))
    (oblC (shown_eq (v := .bool (ltF (.ofNat 200) c)) (by kernel_rfl) (by kernel_rfl) (by rw [hc1])) oblN)))) ?_
  refine Runs.cd (b := false) (by kernel_rfl) (fun h => by cases h) (fun _ => ?_)
  by_cases ha : a = 0
  · have hb : b ≠ 0 := fun h => G.ne.elim (fun q => q ha) (fun q => q h)
    refine Runs.sqR mixed hkU [viaV 2 (.bool true), viaV 6 (.bool false)] (by kernel_rfl) (by kernel_rfl) (by kernel_rfl)
      (oblC (shown_eq (v := .bool (eqF a (.ofNat 0))) (by kernel_rfl) (by kernel_rfl) (by rw [eqF_true (show a = Int.ofNat 0 from ha)]))
      (oblC (shown_eq (v := .bool (eqF b (.ofNat 0))) (by kernel_rfl) (by kernel_rfl) (by rw [eqF_false (show b ≠ Int.ofNat 0 from hb)])) oblN)) ?_
    refine Runs.cd (b := false) (by kernel_rfl) (fun h => by cases h) (fun _ => Runs.now (x := .normal) (by kernel_rfl) ?_)
    show Runs Tryz.prog 0 _ _ _
    exact Runs.sqR mixed hkU [] (by kernel_rfl) (by kernel_rfl) (by kernel_rfl) oblN (Runs.now (x := .ret) (by kernel_rfl) ⟨.inr rfl, [i64 0], by kernel_rfl, rfl⟩)
  · refine Runs.sqR mixed hkU [viaV 2 (.bool false)] (by kernel_rfl) (by kernel_rfl) (by kernel_rfl)
      (oblC (shown_eq (v := .bool (eqF a (.ofNat 0))) (by kernel_rfl) (by kernel_rfl) (by rw [eqF_false (show a ≠ Int.ofNat 0 from ha)])) oblN) ?_
    refine Runs.cd (b := false) (by kernel_rfl) (fun h => by cases h) (fun _ => Runs.now (x := .normal) (by kernel_rfl) ?_)
    show Runs Tryz.prog 0 _ _ _
    exact Runs.sqR mixed hkU [] (by kernel_rfl) (by kernel_rfl) (by kernel_rfl) oblN (Runs.now (x := .ret) (by kernel_rfl) ⟨.inr rfl, [i64 0], by kernel_rfl, rfl⟩)

/-- A call with plain structs, told everywhere. -/
theorem says_hereG {fid : FuncId} {args : List Value} {v : Value} (L : Local Tryz.prog 0 fid args AH.empty (fun v' _ => v' = v)) (ha : ∀ x ∈ args, plainG x = true) (fv : flatV v = true) (h : AH) : Says Tryz.prog h fid args v h :=
  tellF (m := 0) (C := fun _ => args) (vs := []) (ss := []) (R := fun v' _ => v' = v)
    (fun μ ss l' _ h => ⟨[], by cases ss with | nil => exact LR.nil | cons _ _ => simp at *, fun μ1 _ _ => by rw [plainsG_same h ha]; exact plainsG_lr ha⟩) rfl (fun _ _ => L) (fun v' _ r => r) (fun μ μ' x hx => flat_any hx fv) trivial
theorem galG {a b c : Int} : ∀ x ∈ [gal a b c], plainG x = true := fun x hx => by rw [List.mem_singleton.1 hx]; rfl
theorem valid_says {a b c : Int} (G : Gal a b c) (h : AH) : Says Tryz.prog h 97 [gal a b c] (i64 0) h := says_hereG (valid_local G) galG rfl h

/-! ### area -/
/-- Whether a place agrees: places by the numbers 7 x + y. -/
noncomputable def agr (a b c : Int) (k : Nat) : Bool := leF (a * (k / 7 : Nat) + b * (k % 7 : Nat)) c
noncomputable def areaF (a b c : Int) : Nat → Nat
  | 0 => 0
  | k + 1 => if agr a b c k then areaF a b c k ||| 2 ^ k else areaF a b c k
noncomputable def areaN (a b c : Int) : Nat := areaF a b c 49
theorem areaF_lt (a b c : Int) : ∀ k, areaF a b c k < 2 ^ k
  | 0 => by simp [areaF]
  | k + 1 => by
    have ih := areaF_lt a b c k
    have h1 : areaF a b c k < 2 ^ (k + 1) := Nat.lt_of_lt_of_le ih (Nat.pow_le_pow_right (by decide) (by omega))
    unfold areaF
    split
    · exact Nat.or_lt_two_pow h1 (Nat.pow_lt_pow_right (by decide) (by omega))
    · exact h1
theorem areaN_lt (a b c : Int) : areaN a b c < 18446744073709551616 := Nat.lt_of_lt_of_le (areaF_lt a b c 49) (by decide)
theorem wrapS {n : Int} (h0 : -9223372036854775808 ≤ n) (h1 : n ≤ 9223372036854775807) : wrapF .i64 n = n := by
  rw [wrapF_eq]
  simp only [IntKind.wrap, IntKind.signed, IntKind.bits]
  simp
  omega

noncomputable def c61 : Code := bodyOf Tryz.f61
noncomputable def lpx : Code := within (tl (hd (behind 2 c61)))
noncomputable def inx : Code := within (hd (tl (tl (within lpx))))
noncomputable def lpy : Code := within (tl (tl inx))
noncomputable def galO (a b c : Int) : AObj := .cells [iZ a, iZ b, iZ c] true [] (some 53)
noncomputable def Sx (x out : Nat) : List (Nat × Value) := [(1, .pointer (some ⟨0, 0, none⟩)), (3, u64 out), (6, i64 x)]
noncomputable def Sy (x y out : Nat) : List (Nat × Value) := [(1, .pointer (some ⟨0, 0, none⟩)), (3, u64 out), (4, i64 x), (6, i64 x), (9, i64 y)]
theorem galO_clo {a b c : Int} : ∀ o ∈ [galO a b c], CloO 1 o := fun o ho => by
  rw [List.mem_singleton.1 ho]
  exact cloO_plain (fun v hv => by simp only [List.mem_cons, List.mem_nil_iff, or_false] at hv; rcases hv with rfl | rfl | rfl <;> rfl) _ _

theorem agr_at {a b c : Int} {x y : Nat} (hy : y < 7) : agr a b c (x * 7 + y) = leF (a * (x : Int) + b * (y : Int)) c := by
  unfold agr
  have h1 : (x * 7 + y) / 7 = x := by omega
  have h2 : (x * 7 + y) % 7 = y := by omega
  rw [h1, h2]
theorem prod_le {a : Int} {x : Nat} (h0 : -9 ≤ a) (h1 : a ≤ 9) (hx : x < 7) : -54 ≤ a * (x : Int) ∧ a * (x : Int) ≤ 54 := by
  have : x = 0 ∨ x = 1 ∨ x = 2 ∨ x = 3 ∨ x = 4 ∨ x = 5 ∨ x = 6 := by omega
  rcases this with rfl | rfl | rfl | rfl | rfl | rfl | rfl <;> omega

theorem area_y {a b c : Int} (G : Gal a b c) {x : Nat} (hx : x < 7) : ∀ d y, y + d = 7 →
    Runs Tryz.prog 0 lpy (sth (Sy x y (areaF a b c (x * 7 + y))) 34 [galO a b c]) fun e af => e = .exit 2 ∧ Less 0 (sth (Sx x (areaF a b c (x * 7 + 7))) 34 [galO a b c]) af := by
  intro d
  induction d with
  | zero =>
    intro y hy
    have e : y = 7 := by omega
    subst e
    refine Runs.lp (by kernel_rfl) (Runs.sqR mixed hkU [] (by kernel_rfl) (by kernel_rfl) (by kernel_rfl) oblN (Runs.sq (by kernel_rfl) ?_))
    refine Runs.cd (b := false) (by kernel_rfl) (fun ht => by cases ht) (fun _ => Runs.now (x := .exit 2) (by kernel_rfl) ⟨rfl, ?_⟩)
    exact less_seenP (clo_all (k := 1) (by kernel_rfl)) galO_clo (Nat.zero_le 1) (by kernel_rfl) (by kernel_rfl) (by kernel_rfl) (by kernel_rfl)
  | succ d ih =>
    intro y hy
    have hlt : y < 7 := by omega
    obtain ⟨p0, p1⟩ := prod_le G.a0 G.a1 hx
    obtain ⟨q0, q1⟩ := prod_le G.b0 G.b1 hlt
    refine Runs.lp (by kernel_rfl) (Runs.sqR mixed hkU [viaV 0 (.bool true)] (by kernel_rfl) (by kernel_rfl) (by kernel_rfl) (oblC (shown_eq (v := .bool (ltF (.ofNat y) (.ofNat 7))) (by kernel_rfl) (by kernel_rfl) (by rw [lt_of hlt])) oblN) (Runs.sq (by kernel_rfl) ?_))
    refine Runs.cd (b := true) (by kernel_rfl) (fun _ => Runs.now (x := .normal) (by kernel_rfl) ?_) (fun hf => by cases hf)
    show Runs Tryz.prog 0 _ _ _
    refine Runs.sq (by kernel_rfl) (Runs.bk (id := 3) (by kernel_rfl) ?_)
    refine Runs.sqR mixed hkU [] (by kernel_rfl) (by kernel_rfl) (by kernel_rfl) oblN ?_
    refine Runs.sq (by kernel_rfl) ?_
    refine Runs.rg mixed hkU [viaV 3 (iZ (a * (x : Int))), viaV 7 (iZ (b * (y : Int))), viaV 8 (iZ (a * (x : Int) + b * (y : Int)))] (by kernel_rfl) (by kernel_rfl) (by kernel_rfl)
      (oblC (shown_eq (v := .int .i64 (wrapF .i64 (Int.mul a (.ofNat x)))) (by kernel_rfl) (by kernel_rfl) (by show Value.int .i64 (wrapF .i64 (a * (x : Int))) = _; rw [wrapS (by omega) (by omega)]; rfl))
      (oblC (shown_eq (v := .int .i64 (wrapF .i64 (Int.mul b (.ofNat y)))) (by kernel_rfl) (by kernel_rfl) (by show Value.int .i64 (wrapF .i64 (b * (y : Int))) = _; rw [wrapS (by omega) (by omega)]; rfl))
      (oblC (shown_eq (v := .int .i64 (wrapF .i64 (Int.add (a * (x : Int)) (b * (y : Int))))) (by kernel_rfl) (by kernel_rfl) (by show Value.int .i64 (wrapF .i64 (a * (x : Int) + b * (y : Int))) = _; rw [wrapS (by omega) (by omega)]; rfl)) oblN))) ?_
    show Runs Tryz.prog 0 _ _ _
    have hk : x * 7 + y < 49 := by omega
    have hout := areaF_lt a b c (x * 7 + y)
    have hout64 : areaF a b c (x * 7 + y) < 18446744073709551616 := Nat.lt_of_lt_of_le hout (Nat.le_trans (Nat.pow_le_pow_right (by decide) (Nat.le_of_lt hk)) (by decide))
    have h2 : 2 ^ (x * 7 + y) < 18446744073709551616 := Nat.lt_of_lt_of_le (Nat.pow_lt_pow_right (by decide) hk) (by decide)
    have fin : ∀ af, Less 0 (sth (Sy x y (areaF a b c (x * 7 + (y + 1)))) 34 [galO a b c]) af → Runs Tryz.prog 0 (tl (tl (tl (within lpy)))) af (andThen (fun a2 => Runs Tryz.prog 0 lpy a2 fun e af => e = .exit 2 ∧ Less 0 (sth (Sx x (areaF a b c (x * 7 + 7))) 34 [galO a b c]) af) fun e af => e = .exit 2 ∧ Less 0 (sth (Sx x (areaF a b c (x * 7 + 7))) 34 [galO a b c]) af) := by
      intro af less
      refine Runs.less less ?_
      refine Runs.rg mixed hkU [viaV 0 (i64 (y + 1))] (by kernel_rfl) (by kernel_rfl) (by kernel_rfl) (oblC (shown_eq (v := .int .i64 (wrapF .i64 (Int.add (.ofNat y) (.ofNat 1)))) (by kernel_rfl) (by kernel_rfl) (by rw [wrap_succ (by omega)]; rfl)) oblN) ?_
      show Runs Tryz.prog 0 lpy _ _
      exact Runs.less (af1 := sth (Sy x (y + 1) (areaF a b c (x * 7 + (y + 1)))) 34 [galO a b c]) (less_seenP (clo_all (k := 1) (by kernel_rfl)) galO_clo (Nat.zero_le 1) (by kernel_rfl) (by kernel_rfl) (by kernel_rfl) (by kernel_rfl)) (ih (y + 1) (by omega))
    have hstep : areaF a b c (x * 7 + (y + 1)) = if leF (a * (x : Int) + b * (y : Int)) c then areaF a b c (x * 7 + y) ||| 2 ^ (x * 7 + y) else areaF a b c (x * 7 + y) := by
      rw [← Nat.add_assoc, areaF, agr_at hlt]
    refine Runs.cd (b := leF (a * (x : Int) + b * (y : Int)) c) (by kernel_rfl) (fun ht => ?_) (fun hf => Runs.now (x := .normal) (by kernel_rfl) ?_)
    · rw [ht, if_pos rfl] at hstep
      refine Runs.rg mixed hkU [viaV 2 (i64 (x * 7)), viaV 4 (i64 (x * 7 + y)), viaV 5 (u64 (2 ^ (x * 7 + y))), viaV 6 (u64 (areaF a b c (x * 7 + y) ||| 2 ^ (x * 7 + y)))] (by kernel_rfl) (by kernel_rfl) (by kernel_rfl)
        (oblC (shown_eq (v := .int .i64 (wrapF .i64 (Int.ofNat (x * 7)))) (by kernel_rfl) (by kernel_rfl) (by rw [wrap_ofNat (by omega)]; rfl))
        (oblC (shown_eq (v := .int .i64 (wrapF .i64 (Int.ofNat (x * 7 + y)))) (by kernel_rfl) (by kernel_rfl) (by rw [wrap_ofNat (by omega)]; rfl))
        (oblC ⟨by kernel_rfl, (show _ = (shiftA .shl .u64 1 (.ofNat (x * 7 + y))).map (·, _) by kernel_rfl).trans (by rw [bit64 (by omega)]; rfl)⟩
        (oblC ⟨by kernel_rfl, (show _ = (intBin .or .u64 (.ofNat (areaF a b c (x * 7 + y))) (.ofNat (2 ^ (x * 7 + y)))).map (·, _) by kernel_rfl).trans (by rw [or64 hout64 h2]; rfl)⟩ oblN)))) ?_
      show Runs Tryz.prog 0 (tl (tl (tl (within lpy)))) _ _
      refine fin _ ?_
      rw [hstep]
      exact less_seenP (clo_all (k := 1) (by kernel_rfl)) galO_clo (Nat.zero_le 1) (by kernel_rfl) (by kernel_rfl) (by kernel_rfl) (by kernel_rfl)
    · rw [hf, if_neg Bool.false_ne_true] at hstep
      show Runs Tryz.prog 0 (tl (tl (tl (within lpy)))) _ _
      refine fin _ ?_
      rw [hstep]
      exact less_seenP (clo_all (k := 1) (by kernel_rfl)) galO_clo (Nat.zero_le 1) (by kernel_rfl) (by kernel_rfl) (by kernel_rfl) (by kernel_rfl)

theorem area_x {a b c : Int} (G : Gal a b c) : ∀ d x, x + d = 7 →
    Runs Tryz.prog 0 lpx (sth (Sx x (areaF a b c (x * 7))) 34 [galO a b c]) fun e af => e = .exit 0 ∧ Less 0 (sth [(3, u64 (areaN a b c))] 34 [galO a b c]) af := by
  intro d
  induction d with
  | zero =>
    intro x hx
    have e : x = 7 := by omega
    subst e
    refine Runs.lp (by kernel_rfl) (Runs.sqR mixed hkU [] (by kernel_rfl) (by kernel_rfl) (by kernel_rfl) oblN (Runs.sq (by kernel_rfl) ?_))
    refine Runs.cd (b := false) (by kernel_rfl) (fun ht => by cases ht) (fun _ => Runs.now (x := .exit 0) (by kernel_rfl) ⟨rfl, ?_⟩)
    exact less_seenP (clo_all (k := 1) (by kernel_rfl)) galO_clo (Nat.zero_le 1) (by kernel_rfl) (by kernel_rfl) (by kernel_rfl) (by kernel_rfl)
  | succ d ih =>
    intro x hx
    have hlt : x < 7 := by omega
    refine Runs.lp (by kernel_rfl) (Runs.sqR mixed hkU [viaV 0 (.bool true)] (by kernel_rfl) (by kernel_rfl) (by kernel_rfl) (oblC (shown_eq (v := .bool (ltF (.ofNat x) (.ofNat 7))) (by kernel_rfl) (by kernel_rfl) (by rw [lt_of hlt])) oblN) (Runs.sq (by kernel_rfl) ?_))
    refine Runs.cd (b := true) (by kernel_rfl) (fun _ => Runs.now (x := .normal) (by kernel_rfl) ?_) (fun hf => by cases hf)
    show Runs Tryz.prog 0 _ _ _
    refine Runs.sq (by kernel_rfl) (Runs.bk (id := 1) (by kernel_rfl) ?_)
    refine Runs.sqR mixed hkU [] (by kernel_rfl) (by kernel_rfl) (by kernel_rfl) oblN ?_
    refine Runs.sqR mixed hkU [] (by kernel_rfl) (by kernel_rfl) (by kernel_rfl) oblN (Runs.bk (id := 2) (by kernel_rfl) ?_)
    show Runs Tryz.prog 0 lpy _ _
    refine Runs.less (af1 := sth (Sy x 0 (areaF a b c (x * 7 + 0))) 34 [galO a b c]) (less_seenP (clo_all (k := 1) (by kernel_rfl)) galO_clo (Nat.zero_le 1) (by kernel_rfl) (by kernel_rfl) (by kernel_rfl) (by kernel_rfl)) ?_
    refine (area_y G hlt 7 0 (by omega)).mono fun e af hx => ?_
    obtain ⟨rfl, less⟩ := hx
    show Runs Tryz.prog 0 _ af _
    refine Runs.less less ?_
    refine Runs.rg mixed hkU [viaV 0 (i64 (x + 1))] (by kernel_rfl) (by kernel_rfl) (by kernel_rfl) (oblC (shown_eq (v := .int .i64 (wrapF .i64 (Int.add (.ofNat x) (.ofNat 1)))) (by kernel_rfl) (by kernel_rfl) (by rw [wrap_succ (by omega)]; rfl)) oblN) ?_
    show Runs Tryz.prog 0 lpx _ _
    have e7 : (x + 1) * 7 = x * 7 + 7 := by omega
    have := ih (x + 1) (by omega)
    rw [e7] at this
    exact Runs.less (af1 := sth (Sx (x + 1) (areaF a b c (x * 7 + 7))) 34 [galO a b c]) (less_seenP (clo_all (k := 1) (by kernel_rfl)) galO_clo (Nat.zero_le 1) (by kernel_rfl) (by kernel_rfl) (by kernel_rfl) (by kernel_rfl)) this

theorem area_local {a b c : Int} (G : Gal a b c) : Local Tryz.prog 0 61 [gal a b c] AH.empty fun v' _ => v' = u64 (areaN a b c) := by
  refine local_of noNum Tryz.func61 (show Tryz.f61.body = some c61 by kernel_rfl) ?_
  refine Runs.sqR mixed hkU [] (by kernel_rfl) (by kernel_rfl) (by kernel_rfl) oblN ?_
  refine Runs.sqR mixed hkU [] (by kernel_rfl) (by kernel_rfl) (by kernel_rfl) oblN ?_
  refine Runs.sq (by kernel_rfl) (Runs.sqR mixed hkU [] (by kernel_rfl) (by kernel_rfl) (by kernel_rfl) oblN (Runs.bk (id := 0) (by kernel_rfl) ?_))
  show Runs Tryz.prog 0 lpx _ _
  refine Runs.less (af1 := sth (Sx 0 (areaF a b c (0 * 7))) 34 [galO a b c]) (less_seenP (clo_all (k := 1) (by kernel_rfl)) galO_clo (Nat.zero_le 1) (by kernel_rfl) (by kernel_rfl) (by kernel_rfl) (by kernel_rfl)) ?_
  refine (area_x G 7 0 (by omega)).mono fun e af hx => ?_
  obtain ⟨rfl, less⟩ := hx
  show Runs Tryz.prog 0 _ af _
  refine Runs.less less ?_
  exact Runs.sqR mixed hkU [] (by kernel_rfl) (by kernel_rfl) (by kernel_rfl) oblN (Runs.now (x := .ret) (by kernel_rfl) ⟨.inr rfl, [u64 (areaN a b c)], by kernel_rfl, rfl⟩)
theorem area_says {a b c : Int} (G : Gal a b c) (h : AH) : Says Tryz.prog h 61 [gal a b c] (u64 (areaN a b c)) h := says_hereG (area_local G) galG rfl h
end
end Go.Proofs.YtbcjmmbmeebfgaaGreatDoor

/- A list of galleries, and a hill: whether they are valid; the grid. -/
namespace Go.Proofs.YtbcjmmbmeebfgaaGreatDoor
set_option linter.unusedVariables false
set_option linter.unusedSimpArgs false
open Go Go.R
set_option maxRecDepth 1000000
noncomputable section

noncomputable def galsC (m : Nat) (A B C : Nat → Int) : List Value := tripZ m (fun i => iZ (A i)) (fun i => iZ (B i)) (fun i => iZ (C i))
noncomputable def Gals (m : Nat) (A B C : Nat → Int) : Prop := ∀ i, i < m → Gal (A i) (B i) (C i)
theorem galsC_plain {m : Nat} {A B C : Nat → Int} : ∀ x ∈ galsC m A B C, plainV x = true := tripZ_plain fun i _ => ⟨rfl, rfl, rfl⟩
theorem galsC_len (m : Nat) (A B C : Nat → Int) : (galsC m A B C).length = m * 3 := tripZ_len _ _ _ _
noncomputable def viewG (m : Nat) (A B C : Nat → Int) : AObj := viewC (galsC m A B C)
theorem viewG_clo {k m : Nat} {A B C : Nat → Int} : CloO k (viewG m A B C) := cloO_plain galsC_plain _ _
theorem viewG1 {m : Nat} {A B C : Nat → Int} : ∀ o ∈ [viewG m A B C], CloO 1 o := fun o ho => by rw [List.mem_singleton.1 ho]; exact viewG_clo
theorem gal_at {h : AH} {q m i : Nat} {A B C : Nat → Int} {lv : Bool} {par : List Nat} {ty : Option TypeId} (hg : h.get q = .cells (galsC m A B C) lv par ty) (hlt : i < m) : rowAt? h q (0 + i * 3) 3 = some [iZ (A i), iZ (B i), iZ (C i)] := tripZ_at hg hlt

/-! ### all -/
noncomputable def c76 : Code := bodyOf Tryz.f76
noncomputable def lp76 : Code := within (tl (hd (behind 1 c76)))
noncomputable def S76 (m cap i : Nat) : List (Nat × Value) := [(6, smallS 0 m cap), (7, i64 m), (8, i64 i)]

theorem all_loop {m cap : Nat} {A B C : Nat → Int} (hm : m < 1000) (G : Gals m A B C) : ∀ d i, i + d = m →
    Runs Tryz.prog 1 lp76 (sth (S76 m cap i) 18 [viewG m A B C]) fun e af => e = .exit 0 ∧ Less 1 (sth [] 18 [viewG m A B C]) af := by
  intro d
  induction d with
  | zero =>
    intro i hi
    have e : i = m := by omega
    subst e
    refine Runs.lp (by kernel_rfl) (Runs.sqR mixed hkU [] (by kernel_rfl) (by kernel_rfl) (by kernel_rfl) oblN (Runs.sq (by kernel_rfl) ?_))
    refine Runs.cd (b := ltF (.ofNat i) (.ofNat i)) (by kernel_rfl) (fun ht => by rw [lt_self] at ht; cases ht) (fun _ => Runs.now (x := .exit 0) (by kernel_rfl) ⟨rfl, ?_⟩)
    exact less_seenP (clo_all (k := 1) (by kernel_rfl)) viewG1 (Nat.le_refl 1) (by kernel_rfl) (by kernel_rfl) (by kernel_rfl) (by kernel_rfl)
  | succ d ih =>
    intro i hi
    have hlt : i < m := by omega
    refine Runs.lp (by kernel_rfl) (Runs.sqR mixed hkU [] (by kernel_rfl) (by kernel_rfl) (by kernel_rfl) oblN (Runs.sq (by kernel_rfl) ?_))
    refine Runs.cd (b := ltF (.ofNat i) (.ofNat m)) (by kernel_rfl) (fun _ => Runs.now (x := .normal) (by kernel_rfl) ?_) (fun hf => by rw [lt_of hlt] at hf; cases hf)
    show Runs Tryz.prog 1 _ _ _
    refine Runs.sq (by kernel_rfl) (Runs.bk (id := 1) (by kernel_rfl) ?_)
    refine Runs.sqR mixed hkU [viaV 0 (.pointer (some ⟨0, 0 + i * 3, none⟩)), viaV 1 (gal (A i) (B i) (C i))] (by kernel_rfl) (by kernel_rfl) (by kernel_rfl)
      (oblC (shown_idx (n := m) (by kernel_rfl) hlt) (oblC (shown_agg (by kernel_rfl) (gal_at (q := 0) (m := m) (A := A) (B := B) (C := C) (lv := false) (par := []) (ty := none) (by kernel_rfl) hlt)) oblN)) ?_
    refine Runs.sqR mixed hkU [viaC 1 97 [gal (A i) (B i) (C i)] (i64 0)] (by kernel_rfl) (by kernel_rfl) (by kernel_rfl) (oblC (shown_call (by kernel_rfl) (valid_says (G i hlt) _)) oblN) ?_
    refine Runs.sqR mixed hkU [] (by kernel_rfl) (by kernel_rfl) (by kernel_rfl) oblN ?_
    refine Runs.cd (b := false) (by kernel_rfl) (fun h => by cases h) (fun _ => Runs.now (x := .normal) (by kernel_rfl) ?_)
    show Runs Tryz.prog 1 _ _ _
    refine Runs.rg mixed hkU [viaV 0 (i64 (i + 1))] (by kernel_rfl) (by kernel_rfl) (by kernel_rfl) (oblC (shown_eq (v := .int .i64 (wrapF .i64 (Int.add (.ofNat i) (.ofNat 1)))) (by kernel_rfl) (by kernel_rfl) (by rw [wrap_succ (by omega)]; rfl)) oblN) ?_
    show Runs Tryz.prog 1 lp76 _ _
    exact Runs.less (af1 := sth (S76 m cap (i + 1)) 18 [viewG m A B C]) (less_seenP (clo_all (k := 1) (by kernel_rfl)) viewG1 (Nat.le_refl 1) (by kernel_rfl) (by kernel_rfl) (by kernel_rfl) (by kernel_rfl)) (ih (i + 1) (by omega))

theorem all_local {m cap : Nat} {A B C : Nat → Int} (hm : m < 1000) (G : Gals m A B C) : Local Tryz.prog 1 76 [smallS 0 m cap] (hp [viewG m A B C]) fun v' _ => v' = i64 0 := by
  refine local_of noNum Tryz.func76 (show Tryz.f76.body = some c76 by kernel_rfl) ?_
  refine Runs.sqR mixed hkU [] (by kernel_rfl) (by kernel_rfl) (by kernel_rfl) oblN ?_
  refine Runs.sq (by kernel_rfl) (Runs.sqR mixed hkU [] (by kernel_rfl) (by kernel_rfl) (by kernel_rfl) oblN (Runs.bk (id := 0) (by kernel_rfl) ?_))
  show Runs Tryz.prog 1 lp76 _ _
  refine Runs.less (af1 := sth (S76 m cap 0) 18 [viewG m A B C]) (less_seenP (clo_all (k := 1) (by kernel_rfl)) viewG1 (Nat.le_refl 1) (by kernel_rfl) (by kernel_rfl) (by kernel_rfl) (by kernel_rfl)) ?_
  refine (all_loop hm G m 0 (by omega)).mono fun e af hx => ?_
  obtain ⟨rfl, less⟩ := hx
  show Runs Tryz.prog 1 _ af _
  exact Runs.less less (Runs.sqR mixed hkU [] (by kernel_rfl) (by kernel_rfl) (by kernel_rfl) oblN (Runs.now (x := .ret) (by kernel_rfl) ⟨.inr rfl, [i64 0], by kernel_rfl, rfl⟩))
/-- A slice over galleries in a heap. -/
noncomputable def SeesG (h : AH) (s : Value) (m : Nat) (A B C : Nat → Int) : Prop := ∃ i o, Sees h ⟨i, o, m, galsC m A B C⟩ s
theorem fits1 {v : View} {caps : List Nat} (h : FitsC [v] caps) : ∃ cap, caps = [cap] ∧ v.n ≤ cap := by
  match caps, h with
  | [c], h => exact ⟨c, rfl, h.1⟩
theorem all_says {m : Nat} {A B C : Nat → Int} (hm : m < 1000) (G : Gals m A B C) {h : AH} {s : Value} (hs : SeesG h s m A B C) : Says Tryz.prog h 76 [s] (i64 0) h := by
  obtain ⟨i, o, hs⟩ := hs
  exact tellF (C := c1A [] []) (vs := [⟨i, o, m, galsC m A B C⟩]) (ss := [s]) (c1A_ok (fun v h => by cases h) (fun v h => by cases h)) rfl (fun caps hc => by
    obtain ⟨cap, rfl, _⟩ := fits1 hc
    exact all_local (cap := cap) hm G) (fun v' _ r => r) (fun μ μ' x hx => flat_any hx rfl) ⟨hs, trivial⟩

/-! ### Check -/
noncomputable def hillV (k : Nat) (s : Value) : Value := .agg #[i64 k, s]
noncomputable def c59 : Code := bodyOf Tryz.f59
theorem sees_here {m cap : Nat} {A B C : Nat → Int} (hc : m ≤ cap) {h : AH} (e : h.get 0 = viewG m A B C) : SeesG h (smallS 0 m cap) m A B C :=
  ⟨0, 0, galsC m A B C, false, [], none, e, fun k u hk => by rw [Nat.zero_add]; exact hk, by rw [Nat.zero_add]; exact Nat.le_refl _, galsC_plain, .inr ⟨cap, hc, rfl⟩⟩
theorem check_local {k m cap : Nat} {A B C : Nat → Int} (hk : 0 < k) (hk7 : k < 8) (hm : m < 11) (hc : m ≤ cap) (G : Gals m A B C) : Local Tryz.prog 1 59 [hillV k (smallS 0 m cap)] (hp [viewG m A B C]) fun v' _ => v' = i64 0 := by
  refine local_of noNum Tryz.func59 (show Tryz.f59.body = some c59 by kernel_rfl) ?_
  refine Runs.sqR mixed hkU [] (by kernel_rfl) (by kernel_rfl) (by kernel_rfl) oblN ?_
  refine Runs.sq (by kernel_rfl) (Runs.bk (id := 0) (by kernel_rfl) ?_)
  have h1 : ltF (.ofNat k) (.ofNat 1) = false := ltF_false (by show (1 : Int) ≤ (k : Int); omega)
  have h7 : ltF (.ofNat 7) (.ofNat k) = false := ltF_false (by show (k : Int) ≤ (7 : Int); omega)
  have h10 : ltF (.ofNat 10) (.ofNat m) = false := ltF_false (by show (m : Int) ≤ (10 : Int); omega)
  refine Runs.sqR mixed hkU [viaV 2 (.bool false), viaV 6 (.bool false)] (by kernel_rfl) (by kernel_rfl) (by kernel_rfl)
    (oblC (shown_eq (v := .bool (ltF (.ofNat k) (.ofNat 1))) (by kernel_rfl) (by kernel_rfl) (by rw [h1])) (oblC (shown_eq (v := .bool (ltF (.ofNat 7) (.ofNat k))) (by kernel_rfl) (by kernel_rfl) (by rw [h7])) oblN)) ?_
  refine Runs.cd (b := false) (by kernel_rfl) (fun h => by cases h) (fun _ => ?_)
  refine Runs.sqR mixed hkU [viaV 3 (.bool false)] (by kernel_rfl) (by kernel_rfl) (by kernel_rfl) (oblC (shown_eq (v := .bool (ltF (.ofNat 10) (.ofNat m))) (by kernel_rfl) (by kernel_rfl) (by rw [h10])) oblN) ?_
  refine Runs.cd (b := false) (by kernel_rfl) (fun h => by cases h) (fun _ => Runs.now (x := .normal) (by kernel_rfl) ?_)
  show Runs Tryz.prog 1 _ _ _
  refine Runs.sqR mixed hkU [viaC 2 76 [smallS 0 m cap] (i64 0)] (by kernel_rfl) (by kernel_rfl) (by kernel_rfl) (oblC (shown_call (by kernel_rfl) (all_says (by omega) G (sees_here hc (by kernel_rfl)))) oblN) ?_
  exact Runs.now (x := .ret) (by kernel_rfl) ⟨.inr rfl, [i64 0], by kernel_rfl, rfl⟩
theorem hillC_ok (k : Nat) : ArgC 1 (c1G [i64 k] [] []) := c1G_ok (fun v h => by rw [List.mem_singleton.1 h]; rfl) (fun v h => by cases h) (fun v h => by cases h)
theorem check_says {k m : Nat} {A B C : Nat → Int} (hk : 0 < k) (hk7 : k < 8) (hm : m < 11) (G : Gals m A B C) {h : AH} {s : Value} (hs : SeesG h s m A B C) : Says Tryz.prog h 59 [hillV k s] (i64 0) h := by
  obtain ⟨i, o, hs⟩ := hs
  exact tellF (C := c1G [i64 k] [] []) (vs := [⟨i, o, m, galsC m A B C⟩]) (ss := [s]) (hillC_ok k) rfl (fun caps hc => by
    obtain ⟨cap, rfl, hle⟩ := fits1 hc
    exact check_local hk hk7 hm hle G) (fun v' _ r => r) (fun μ μ' x hx => flat_any hx rfl) ⟨hs, trivial⟩

/-! ### grid -/
noncomputable def gridN (k : Nat) : Nat := ((List.range 49).filter fun i => Nat.blt (i / 7) k && Nat.blt (i % 7) k).foldl (fun s i => s ||| 2 ^ i) 0
noncomputable def vGrid (k : Nat) : Bool := says (callA Tryz.prog hk3 1000 60 [i64 k] AH.empty) (u64 (gridN k))
theorem grid_runs : ((List.range 8).all fun k => vGrid k) = true := by kernel_rfl
theorem grid_says {k : Nat} (hk : k < 8) (h : AH) : Says Tryz.prog h 60 [i64 k] (u64 (gridN k)) h :=
  says_here (local_says hkU (List.all_eq_true.1 grid_runs k (List.mem_range.2 hk))) (fun x hx => by rw [List.mem_singleton.1 hx]; rfl) rfl h
end
end Go.Proofs.YtbcjmmbmeebfgaaGreatDoor

/- surveyed: the areas of a hill's galleries, as a contract. -/
namespace Go.Proofs.YtbcjmmbmeebfgaaGreatDoor
set_option linter.unusedVariables false
set_option linter.unusedSimpArgs false
open Go Go.R
set_option maxRecDepth 1000000
noncomputable section

theorem dyn_at {call : CallF} {c : Code} {ov : List Via} {af : AF} {i p d : Nat} {v : Value} (h : opA Tryz.prog (evalA (preV Tryz.prog call c ov af i).tm) (opAt c i).op (preV Tryz.prog call c ov af p).h = some (v, (preV Tryz.prog call c ov af p).h))
    (hd : (opAt c i).dst = some d) (hv : (preV Tryz.prog call c ov af (i + 1)).tm.get d = some v) : DynAt Tryz.prog call c ov af (i, p) :=
  ⟨v, _, h, fun d' hd' => by rw [hd] at hd'; cases hd'; exact hv⟩

noncomputable def areaV (A B C : Nat → Int) (i : Nat) : Value := u64 (areaN (A i) (B i) (C i))
noncomputable def rowAr (m : Nat) (A B C : Nat → Int) : AObj := .cells (valsZ m (areaV A B C)) true [] (some 83)
noncomputable def resO (k : Nat) : AObj := .cells [.slice none 0 0, u64 0] true [] (some 85)
noncomputable def srvN (k : Nat) : AObj := .cells [.slice none 0 0, u64 (gridN k)] true [] (some 85)
noncomputable def srvO (k i m : Nat) : AObj := .cells [slR i m, u64 (gridN k)] true [] (some 85)
noncomputable def ptrV (i : Nat) : Value := .pointer (some ⟨i, 0, none⟩)
theorem area_plain (A B C : Nat → Int) (m : Nat) : ∀ i, i < m → plainV (areaV A B C i) = true := fun _ _ => rfl
theorem area_info : ∃ info, Tryz.prog.info? 83 = some info ∧ info.size = 0 + 1 ∧ (decide (info.bytes > 1000000) || !zfit info) = false := ⟨(Tryz.prog.info? 83).get!, by kernel_rfl, by kernel_rfl, by kernel_rfl⟩

noncomputable def c35 : Code := bodyOf Tryz.f35
noncomputable def lp35 : Code := within (tl (hd (behind 3 c35)))
noncomputable def S35 (m cap i : Nat) : List (Nat × Value) := [(2, ptrV 1), (5, ptrV 2), (19, smallS 0 m cap), (20, i64 m), (21, i64 i)]
theorem resO_clo {k j : Nat} : CloO j (resO k) := cloO_plain (fun v hv => by simp only [List.mem_cons, List.mem_nil_iff, or_false] at hv; rcases hv with rfl | rfl <;> rfl) _ _
theorem srvN_clo {k j : Nat} : CloO j (srvN k) := cloO_plain (fun v hv => by simp only [List.mem_cons, List.mem_nil_iff, or_false] at hv; rcases hv with rfl | rfl <;> rfl) _ _
theorem srvO_clo {k i m j : Nat} (h : i < j) : CloO j (srvO k i m) := ⟨fun v hv => by
  simp only [List.mem_cons, List.mem_nil_iff, or_false] at hv
  rcases hv with rfl | rfl
  · refine clo_of 10 j _ ?_
    show (plainV _ || Nat.blt i j) = true
    rw [Bool.or_eq_true]; exact .inr (by rw [Nat.blt_eq]; exact h)
  · exact clo_plain rfl, fun j hj => by cases hj⟩
theorem rowAr_clo {k m : Nat} {A B C : Nat → Int} : CloO k (rowAr m A B C) := cloO_vals (area_plain A B C m) _ _
noncomputable def Os35 (k m i : Nat) (A B C : Nat → Int) : List AObj := [viewG m A B C, resO k, srvO k 3 i, rowAr i A B C]
theorem os35_clo {k m i : Nat} {A B C : Nat → Int} : ∀ o ∈ Os35 k m i A B C, CloO 4 o := fun o ho => by
  simp only [Os35, List.mem_cons, List.mem_nil_iff, or_false] at ho
  rcases ho with rfl | rfl | rfl | rfl
  · exact viewG_clo
  · exact resO_clo
  · exact srvO_clo (by decide)
  · exact rowAr_clo
noncomputable def Os35n (k m : Nat) (A B C : Nat → Int) : List AObj := [viewG m A B C, resO k, srvN k]
theorem obs_viewG {ρ : Nat → Nat} {q m : Nat} {A B C : Nat → Int} {x : AObj} (e : x = viewG m A B C) : RenO ρ q x (viewG m A B C) := RenO.row (c := galsC m A B C) (lv := false) (p := []) (ty := none) e galsC_plain (fun h => h) (.inl rfl)

theorem surv_loop {k m cap : Nat} {A B C : Nat → Int} (hm : m < 1000) (G : Gals m A B C) : ∀ d i, i + d = m →
    Runs Tryz.prog 1 lp35 (sth (S35 m cap i) 34 (Os35 k m i A B C)) fun e af => e = .exit 0 ∧ Less 1 (sth [(2, ptrV 1), (5, ptrV 2)] 34 (Os35 k m m A B C)) af := by
  intro d
  induction d with
  | zero =>
    intro i hi
    have e : i = m := by omega
    subst e
    refine Runs.lp (by kernel_rfl) (Runs.sqR mixed hkU [] (by kernel_rfl) (by kernel_rfl) (by kernel_rfl) oblN (Runs.sq (by kernel_rfl) ?_))
    refine Runs.cd (b := ltF (.ofNat i) (.ofNat i)) (by kernel_rfl) (fun ht => by rw [lt_self] at ht; cases ht) (fun _ => Runs.now (x := .exit 0) (by kernel_rfl) ⟨rfl, ?_⟩)
    exact less_seenP (clo_all (k := 4) (by kernel_rfl)) os35_clo (show 1 ≤ 4 by decide) (by kernel_rfl) (by kernel_rfl) (by kernel_rfl) (by kernel_rfl)
  | succ d ih =>
    intro i hi
    have hlt : i < m := by omega
    refine Runs.lp (by kernel_rfl) (Runs.sqR mixed hkU [] (by kernel_rfl) (by kernel_rfl) (by kernel_rfl) oblN (Runs.sq (by kernel_rfl) ?_))
    refine Runs.cd (b := ltF (.ofNat i) (.ofNat m)) (by kernel_rfl) (fun _ => Runs.now (x := .normal) (by kernel_rfl) ?_) (fun hf => by rw [lt_of hlt] at hf; cases hf)
    show Runs Tryz.prog 1 _ _ _
    refine Runs.sq (by kernel_rfl) (Runs.bk (id := 1) (by kernel_rfl) ?_)
    refine Runs.sqR mixed hkU [viaV 0 (.pointer (some ⟨0, 0 + i * 3, none⟩)), viaV 1 (gal (A i) (B i) (C i))] (by kernel_rfl) (by kernel_rfl) (by kernel_rfl)
      (oblC (shown_idx (n := m) (by kernel_rfl) hlt) (oblC (shown_agg (by kernel_rfl) (gal_at (q := 0) (m := m) (A := A) (B := B) (C := C) (lv := false) (par := []) (ty := none) (by kernel_rfl) hlt)) oblN)) ?_
    let H0 : AH := hp (Os35 k m i A B C)
    let H1 : AH := ((H0.new (.cells [i64 0, i64 0, i64 0] true [] (some 53))).2.put 4 (.cells [iZ (A i), iZ (B i), iZ (C i)] true [] (some 53)))
    let H2 : AH := (H1.new (.cells [areaV A B C i] true [] (some 83))).2
    have hap := push_gen (st := 81) (e := 83) (z := 0) (by kernel_rfl) area_info (h := H2) (i := 3) (j := 5) (x := [areaV A B C i]) (c := valsZ i (areaV A B C)) (m := i) (par := []) rfl rfl (by rw [valsZ_len]; omega) (by omega) (by kernel_rfl) (by kernel_rfl)
    refine Runs.rgD mixed hkU [viaC 3 61 [gal (A i) (B i) (C i)] (areaV A B C i), ⟨5, slR 6 (i + 1), some ((H2.put 3 (.cells (valsZ i (areaV A B C)) false [] (some 83))).new (.cells (valsZ i (areaV A B C) ++ [areaV A B C i]) true [3] (some 83))).2, none⟩] [(1, 4), (1, 5)] (by kernel_rfl) (by kernel_rfl) (by kernel_rfl) (by kernel_rfl)
      (oblC (shown_call (by kernel_rfl) (area_says (G i hlt) _)) (oblC ⟨by kernel_rfl, (show _ = appendA Tryz.prog #[81, 81] (.slice (some ⟨3, 0, some 1⟩) i i) (.slice (some ⟨5, 0, none⟩) 1 1) H2 by kernel_rfl).trans hap⟩ oblN))
      (dynC (dyn_at (d := 26) (v := slR 3 i) (by kernel_rfl) (by kernel_rfl) (by kernel_rfl)) (dynC (dyn_at (d := 26) (v := slR 3 i) (by kernel_rfl) (by kernel_rfl) (by kernel_rfl)) dynN)) ?_
    show Runs Tryz.prog 1 _ _ _
    refine Runs.rg mixed hkU [viaV 0 (i64 (i + 1))] (by kernel_rfl) (by kernel_rfl) (by kernel_rfl) (oblC (shown_eq (v := .int .i64 (wrapF .i64 (Int.add (.ofNat i) (.ofNat 1)))) (by kernel_rfl) (by kernel_rfl) (by rw [wrap_succ (by omega)]; rfl)) oblN) ?_
    show Runs Tryz.prog 1 lp35 _ _
    exact Runs.renumK (sz := 34) (l := S35 m cap (i + 1)) (os := Os35 k m (i + 1) A B C) (fun j => match j with | 3 => 6 | j => j) (fun j => match j with | 6 => 3 | j => j) (by kernel_rfl) (show 1 ≤ 4 by decide) (by kernel_rfl) ⟨fun _ => .inl (Eq.trans (Eq.refl _) (by kernel_rfl)), fun h => (by cases h), fun h => (by cases h), fun h => (by cases h), trivial⟩ (by kernel_rfl) (by kernel_rfl) (by kernel_rfl) (by kernel_rfl)
      ⟨obs_viewG (by kernel_rfl), RenO.of (σ := fun j => j) (by kernel_rfl) (by kernel_rfl), RenO.of (σ := fun j => match j with | 6 => 3 | j => j) (by kernel_rfl) (by kernel_rfl), obs_vals (p := [3]) (c := valsZ i (areaV A B C) ++ [areaV A B C i]) (by kernel_rfl) (valsZ_succ i (areaV A B C)) (area_plain A B C _) (fun h => h) (.inr rfl), trivial⟩ (ih (i + 1) (by omega))

noncomputable def hillO (k m cap : Nat) : AObj := .cells [i64 k, smallS 0 m cap] true [] (some 26)

theorem hillO_clo {k m cap : Nat} : CloO 4 (hillO k m cap) := ⟨fun v hv => by
  simp only [List.mem_cons, List.mem_nil_iff, or_false] at hv
  rcases hv with rfl | rfl
  · exact clo_plain rfl
  · exact clo_of 10 4 _ (by kernel_rfl), fun j hj => by cases hj⟩
/-- The first parts: what is checked, the grid. -/
theorem surv_head {k m cap : Nat} {A B C : Nat → Int} (hk : 0 < k) (hk7 : k < 8) (hm : m < 11) (hc : m ≤ cap) (G : Gals m A B C) {Q : AExit → AF → Prop}
    (h : Runs Tryz.prog 1 lp35 (sth (S35 m cap 0) 34 (Os35n k m A B C)) (caught 0 (andThen (fun af => Runs Tryz.prog 1 (behind 4 c35) af Q) Q))) : Runs Tryz.prog 1 c35 (entry Tryz.f35 [hillV k (smallS 0 m cap)] (hp [viewG m A B C])) Q := by
  refine Runs.sqR mixed hkU [] (by kernel_rfl) (by kernel_rfl) (by kernel_rfl) oblN ?_
  refine Runs.sq (by kernel_rfl) (Runs.sqR mixed hkU [viaC 1 59 [hillV k (smallS 0 m cap)] (i64 0)] (by kernel_rfl) (by kernel_rfl) (by kernel_rfl) (oblC (shown_call (by kernel_rfl) (check_says hk hk7 hm G (sees_here hc (by kernel_rfl)))) oblN) ?_)
  refine Runs.sqR mixed hkU [] (by kernel_rfl) (by kernel_rfl) (by kernel_rfl) oblN ?_
  refine Runs.cd (b := false) (by kernel_rfl) (fun h => by cases h) (fun _ => Runs.now (x := .normal) (by kernel_rfl) ?_)
  show Runs Tryz.prog 1 _ _ _
  refine Runs.sqR mixed hkU [viaC 2 60 [i64 k] (u64 (gridN k))] (by kernel_rfl) (by kernel_rfl) (by kernel_rfl) (oblC (shown_call (by kernel_rfl) (grid_says hk7 _)) oblN) ?_
  refine Runs.sq (by kernel_rfl) (Runs.sqR mixed hkU [] (by kernel_rfl) (by kernel_rfl) (by kernel_rfl) oblN (Runs.bk (id := 0) (by kernel_rfl) ?_))
  show Runs Tryz.prog 1 lp35 _ _
  refine Runs.less (af1 := sth [(2, ptrV 2), (5, ptrV 3), (19, smallS 0 m cap), (20, i64 m), (21, i64 0)] 34 [viewG m A B C, hillO k m cap, resO k, srvN k]) (less_seenP (clo_all (k := 4) (by kernel_rfl)) (fun o ho => by
    simp only [List.mem_cons, List.mem_nil_iff, or_false] at ho
    rcases ho with rfl | rfl | rfl | rfl
    · exact viewG_clo
    · exact hillO_clo
    · exact resO_clo
    · exact srvN_clo) (show 1 ≤ 4 by decide) (by kernel_rfl) (by kernel_rfl) (by kernel_rfl) (by kernel_rfl)) ?_
  exact Runs.renumK (sz := 34) (l := S35 m cap 0) (os := Os35n k m A B C) (fun j => match j with | 1 => 2 | 2 => 3 | j => j) (fun j => match j with | 2 => 1 | 3 => 2 | j => j) (by kernel_rfl) (show 1 ≤ 3 by decide) (by kernel_rfl) ⟨fun _ => .inl (Eq.trans (Eq.refl _) (by kernel_rfl)), fun h => (by cases h), fun h => (by cases h), trivial⟩ (by kernel_rfl) (by kernel_rfl) (by kernel_rfl) (by kernel_rfl)
    ⟨obs_viewG (by kernel_rfl), RenO.of (σ := fun j => j) (by kernel_rfl) (by kernel_rfl), RenO.of (σ := fun j => j) (by kernel_rfl) (by kernel_rfl), trivial⟩ h

theorem surv_local {k m cap : Nat} {A B C : Nat → Int} (hk : 0 < k) (hk7 : k < 8) (hm0 : 0 < m) (hm : m < 11) (hc : m ≤ cap) (G : Gals m A B C) : Local Tryz.prog 1 35 [hillV k (smallS 0 m cap)] (hp [viewG m A B C]) (rowIsC (dG (u64 (gridN k)) (i64 0)) 0 m (valsZ m (areaV A B C)) (some 83)) := by
  refine local_of noNum Tryz.func35 (show Tryz.f35.body = some c35 by kernel_rfl) ?_
  refine surv_head hk hk7 hm hc G ?_
  refine Runs.lp (by kernel_rfl) (Runs.sqR mixed hkU [] (by kernel_rfl) (by kernel_rfl) (by kernel_rfl) oblN (Runs.sq (by kernel_rfl) ?_))
  refine Runs.cd (b := ltF (.ofNat 0) (.ofNat m)) (by kernel_rfl) (fun _ => Runs.now (x := .normal) (by kernel_rfl) ?_) (fun hf => by rw [lt_of hm0] at hf; cases hf)
  show Runs Tryz.prog 1 _ _ _
  refine Runs.sq (by kernel_rfl) (Runs.bk (id := 1) (by kernel_rfl) ?_)
  refine Runs.sqR mixed hkU [viaV 0 (.pointer (some ⟨0, 0 + 0 * 3, none⟩)), viaV 1 (gal (A 0) (B 0) (C 0))] (by kernel_rfl) (by kernel_rfl) (by kernel_rfl)
    (oblC (shown_idx (n := m) (by kernel_rfl) hm0) (oblC (shown_agg (by kernel_rfl) (gal_at (q := 0) (i := 0) (m := m) (A := A) (B := B) (C := C) (lv := false) (par := []) (ty := none) (by kernel_rfl) hm0)) oblN)) ?_
  refine Runs.rgD mixed hkU [viaC 3 61 [gal (A 0) (B 0) (C 0)] (areaV A B C 0)] [(1, 4), (1, 5)] (by kernel_rfl) (by kernel_rfl) (by kernel_rfl) (by kernel_rfl)
    (oblC (shown_call (by kernel_rfl) (area_says (G 0 hm0) _)) oblN)
    (dynC (dyn_at (d := 26) (v := .slice none 0 0) (by kernel_rfl) (by kernel_rfl) (by kernel_rfl)) (dynC (dyn_at (d := 26) (v := .slice none 0 0) (by kernel_rfl) (by kernel_rfl) (by kernel_rfl)) dynN)) ?_
  show Runs Tryz.prog 1 _ _ _
  refine Runs.rg mixed hkU [] (by kernel_rfl) (by kernel_rfl) (by kernel_rfl) oblN ?_
  show Runs Tryz.prog 1 lp35 _ _
  refine Runs.renumK (sz := 34) (l := S35 m cap 1) (os := Os35 k m 1 A B C) (fun j => match j with | 3 => 5 | j => j) (fun j => match j with | 5 => 3 | j => j) (by kernel_rfl) (show 1 ≤ 4 by decide) (by kernel_rfl) ⟨fun _ => .inl (Eq.trans (Eq.refl _) (by kernel_rfl)), fun h => (by cases h), fun h => (by cases h), fun h => (by cases h), trivial⟩ (by kernel_rfl) (by kernel_rfl) (by kernel_rfl) (by kernel_rfl)
    ⟨obs_viewG (by kernel_rfl), RenO.of (σ := fun j => j) (by kernel_rfl) (by kernel_rfl), RenO.of (σ := fun j => match j with | 5 => 3 | j => j) (by kernel_rfl) (by kernel_rfl), obs_vals (p := []) (c := [areaV A B C 0]) (by kernel_rfl) rfl (area_plain A B C _) (fun h => h) (.inr rfl), trivial⟩ ?_
  refine (surv_loop (by omega) G (m - 1) 1 (by omega)).mono fun e af hx => ?_
  obtain ⟨rfl, less⟩ := hx
  show Runs Tryz.prog 1 _ af _
  refine Runs.less less ?_
  exact Runs.sqR mixed hkU [] (by kernel_rfl) (by kernel_rfl) (by kernel_rfl) oblN (Runs.now (x := .ret) (by kernel_rfl) ⟨.inr rfl, [.agg #[slR 3 m, u64 (gridN k)], i64 0], by kernel_rfl, 3, [], .inl rfl, by kernel_rfl⟩)

noncomputable def survV (k m i : Nat) : Value := .tuple #[.agg #[slR i m, u64 (gridN k)], i64 0]
theorem surv_says {k m : Nat} {A B C : Nat → Int} (hk : 0 < k) (hk7 : k < 8) (hm0 : 0 < m) (hm : m < 11) (G : Gals m A B C) {h : AH} {s : Value} (hs : SeesG h s m A B C) : Says Tryz.prog h 35 [hillV k s] (survV k m h.next) (h.new (rowAr m A B C)).2 := by
  obtain ⟨i, o, hs⟩ := hs
  exact tellN (z := 0) (C := c1G [i64 k] [] []) (D := dG (u64 (gridN k)) (i64 0)) (vs := [⟨i, o, m, galsC m A B C⟩]) (ss := [s]) (hillC_ok k) (dG_ok rfl rfl) rfl (fun caps hc => by
    obtain ⟨cap, rfl, hle⟩ := fits1 hc
    exact surv_local hk hk7 hm0 hm hle G) (by rw [valsZ_len]; omega) (valsZ_plain (area_plain A B C m)) ⟨hs, trivial⟩
end
end Go.Proofs.YtbcjmmbmeebfgaaGreatDoor
