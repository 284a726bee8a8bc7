/- bitsOf, and slices.Compare of numbers, as contracts. -/
import Derived.Test.YtbcjmmbmeebfgaaGreatDoorSNarrowedUG3
namespace Go.Proofs.YtbcjmmbmeebfgaaGreatDoor
set_option linter.unusedVariables false
set_option linter.unusedSimpArgs false
open Go Go.R
set_option maxRecDepth 1000000
noncomputable section

noncomputable def orN (l : List Nat) : Nat := l.foldl (fun r i => r ||| 2 ^ i) 0
theorem orN_app (l : List Nat) (x : Nat) : orN (l ++ [x]) = orN l ||| 2 ^ x := by unfold orN; rw [List.foldl_append]; rfl
theorem orF_bit (l : List Nat) (r i : Nat) : (l.foldl (fun r i => r ||| 2 ^ i) r).testBit i = (r.testBit i || l.any fun x => decide (x = i)) := by
  induction l generalizing r with
  | nil => simp
  | cons x l ih => rw [List.foldl_cons, ih, Nat.testBit_or, Nat.testBit_two_pow, List.any_cons, Bool.or_assoc]
theorem orF_lt (l : List Nat) (hl : ∀ x ∈ l, x < 64) {r : Nat} (hr : r < 18446744073709551616) : l.foldl (fun r i => r ||| 2 ^ i) r < 18446744073709551616 := by
  induction l generalizing r with
  | nil => exact hr
  | cons x l ih =>
    rw [List.foldl_cons]
    exact ih (fun y hy => hl y (List.mem_cons_of_mem _ hy)) (Nat.or_lt_two_pow (n := 64) hr (Nat.pow_lt_pow_right (by decide) (hl x List.mem_cons_self)))
theorem orN_lt {l : List Nat} (hl : ∀ x ∈ l, x < 64) : orN l < 18446744073709551616 := orF_lt l hl (by decide)
theorem orN_bits {s : Nat} (hs : s < 18446744073709551616) : orN (bitsN s) = s := by
  apply Nat.eq_of_testBit_eq
  intro i
  unfold orN
  rw [orF_bit]
  simp only [Nat.zero_testBit, Bool.false_or]
  rw [Bool.eq_iff_iff, List.any_eq_true]
  constructor
  · rintro ⟨x, hx, he⟩
    have := of_decide_eq_true he
    subst this
    exact (mem_bits.1 hx).2
  · intro hb
    have h64 : i < 64 := by
      rcases Nat.lt_or_ge i 64 with h | h
      · exact h
      · have : s.testBit i = false := Nat.testBit_lt_two_pow (Nat.lt_of_lt_of_le hs (Nat.pow_le_pow_right (n := 2) (by decide) h))
        rw [this] at hb; cases hb
    exact ⟨i, mem_bits.2 ⟨h64, hb⟩, by simp⟩

/-! ### bitsOf -/
noncomputable def viewN (l : List Nat) : AObj := viewC (natsC l)
theorem viewN1 {l : List Nat} : ∀ o ∈ [viewN l], CloO 1 o := fun o ho => by rw [List.mem_singleton.1 ho]; exact cloO_plain (natsC_plain l) _ _
noncomputable def c49 : Code := bodyOf Tryz.f49
noncomputable def lp49 : Code := within (tl (hd (behind 2 c49)))
noncomputable def S49 (n cap i r : Nat) : List (Nat × Value) := [(3, u64 r), (6, smallS 0 n cap), (7, i64 n), (8, i64 i)]
theorem bitsOf_loop {cap : Nat} (l : List Nat) (hl : ∀ x ∈ l, x < 64) (hn : l.length < 1000) : ∀ d i, i + d = l.length →
    Runs Tryz.prog 1 lp49 (sth (S49 l.length cap i (orN (l.take i))) 18 [viewN l]) fun e af => e = .exit 0 ∧ Less 1 (sth [(3, u64 (orN l))] 18 [viewN l]) af := by
  intro d
  induction d with
  | zero =>
    intro i hi
    have e : i = l.length := by omega
    subst e
    rw [List.take_of_length_le (Nat.le_refl _)]
    refine Runs.lp (by kernel_rfl) (Runs.sqR mixed hkU [] (by kernel_rfl) (by kernel_rfl) (by kernel_rfl) oblN (Runs.sq (by kernel_rfl) ?_))
    refine Runs.cd (b := ltF (.ofNat l.length) (.ofNat l.length)) (by kernel_rfl) (fun ht => by rw [lt_self] at ht; cases ht) (fun _ => Runs.now (x := .exit 0) (by kernel_rfl) ⟨rfl, ?_⟩)
    exact less_seenP (clo_all (k := 1) (by kernel_rfl)) viewN1 (Nat.le_refl 1) (by kernel_rfl) (by kernel_rfl) (by kernel_rfl) (by kernel_rfl)
  | succ d ih =>
    intro i hi
    have hlt : i < l.length := by omega
    obtain ⟨x, hx⟩ : ∃ x, l[i]? = some x := ⟨l[i], List.getElem?_eq_getElem hlt⟩
    have hx64 : x < 64 := hl x (List.mem_of_getElem? hx)
    have htake : l.take (i + 1) = l.take i ++ [x] := by rw [List.take_add_one, hx]; rfl
    have hr : orN (l.take i) < 18446744073709551616 := orN_lt fun y hy => hl y (List.mem_of_mem_take hy)
    refine Runs.lp (by kernel_rfl) (Runs.sqR mixed hkU [] (by kernel_rfl) (by kernel_rfl) (by kernel_rfl) oblN (Runs.sq (by kernel_rfl) ?_))
    refine Runs.cd (b := ltF (.ofNat i) (.ofNat l.length)) (by kernel_rfl) (fun _ => Runs.now (x := .normal) (by kernel_rfl) ?_) (fun hf => by rw [lt_of hlt] at hf; cases hf)
    show Runs Tryz.prog 1 _ _ _
    refine Runs.sq (by kernel_rfl) (Runs.bk (id := 1) (by kernel_rfl) ?_)
    refine Runs.sqR mixed hkU [viaV 0 (.pointer (some ⟨0, 0 + i * 1, none⟩)), viaV 1 (i64 x)] (by kernel_rfl) (by kernel_rfl) (by kernel_rfl)
      (oblC (shown_idx (n := l.length) (by kernel_rfl) hlt) (oblC (shown_cell (by kernel_rfl) (natsC_at (q := 0) (l := l) (lv := false) (par := []) (ty := none) (by kernel_rfl) hx)) oblN)) ?_
    refine Runs.rg mixed hkU [viaV 2 (u64 (2 ^ x)), viaV 3 (u64 (orN (l.take i) ||| 2 ^ x))] (by kernel_rfl) (by kernel_rfl) (by kernel_rfl)
      (oblC ⟨by kernel_rfl, (show _ = (shiftA .shl .u64 1 (.ofNat x)).map (·, _) by kernel_rfl).trans (by rw [bit64 hx64]; rfl)⟩
      (oblC ⟨by kernel_rfl, (show _ = (intBin .or .u64 (.ofNat (orN (l.take i))) (.ofNat (2 ^ x))).map (·, _) by kernel_rfl).trans (by rw [or64 hr (show 2 ^ x < 18446744073709551616 from Nat.lt_of_lt_of_le (Nat.pow_lt_pow_right (by decide : 1 < 2) hx64) (by decide))]; rfl)⟩ oblN)) ?_
    show Runs Tryz.prog 1 _ _ _
    refine Runs.rg mixed hkU [viaV 0 (i64 (i + 1))] (by kernel_rfl) (by kernel_rfl) (by kernel_rfl) (oblC (shown_eq (v := .int .i64 (wrapF .i64 (Int.add (.ofNat i) (.ofNat 1)))) (by kernel_rfl) (by kernel_rfl) (by rw [wrap_succ (by omega)]; rfl)) oblN) ?_
    show Runs Tryz.prog 1 lp49 _ _
    have := ih (i + 1) (by omega)
    rw [htake, orN_app] at this
    exact Runs.less (af1 := sth (S49 l.length cap (i + 1) (orN (l.take i) ||| 2 ^ x)) 18 [viewN l]) (less_seenP (clo_all (k := 1) (by kernel_rfl)) viewN1 (Nat.le_refl 1) (by kernel_rfl) (by kernel_rfl) (by kernel_rfl) (by kernel_rfl)) this
theorem bitsOf_local {cap : Nat} {l : List Nat} (hl : ∀ x ∈ l, x < 64) (hn : l.length < 1000) : Local Tryz.prog 1 49 [smallS 0 l.length cap] (hp [viewN l]) fun v' _ => v' = u64 (orN l) := by
  refine local_of noNum Tryz.func49 (show Tryz.f49.body = some c49 by kernel_rfl) ?_
  refine Runs.sqR mixed hkU [] (by kernel_rfl) (by kernel_rfl) (by kernel_rfl) oblN ?_
  refine Runs.sqR mixed hkU [] (by kernel_rfl) (by kernel_rfl) (by kernel_rfl) oblN ?_
  refine Runs.sq (by kernel_rfl) (Runs.sqR mixed hkU [] (by kernel_rfl) (by kernel_rfl) (by kernel_rfl) oblN (Runs.bk (id := 0) (by kernel_rfl) ?_))
  show Runs Tryz.prog 1 lp49 _ _
  refine Runs.less (af1 := sth (S49 l.length cap 0 (orN (l.take 0))) 18 [viewN l]) (less_seenP (clo_all (k := 1) (by kernel_rfl)) viewN1 (Nat.le_refl 1) (by kernel_rfl) (by kernel_rfl) (by kernel_rfl) (by kernel_rfl)) ?_
  refine (bitsOf_loop l hl hn l.length 0 (by omega)).mono fun e af hx => ?_
  obtain ⟨rfl, less⟩ := hx
  show Runs Tryz.prog 1 _ af _
  refine Runs.less less ?_
  exact Runs.sqR mixed hkU [] (by kernel_rfl) (by kernel_rfl) (by kernel_rfl) oblN (Runs.now (x := .ret) (by kernel_rfl) ⟨.inr rfl, [u64 (orN l)], by kernel_rfl, rfl⟩)
theorem bitsOf_runs : says (callA Tryz.prog hk3 1000 49 [.slice none 0 0] AH.empty) (u64 0) = true := by kernel_rfl
theorem bitsOf_none (h : AH) : Says Tryz.prog h 49 [.slice none 0 0] (u64 0) h := says_here (local_says hkU bitsOf_runs) (fun x hx => by rw [List.mem_singleton.1 hx]; rfl) rfl h
theorem bitsOf_says {l : List Nat} (hl : ∀ x ∈ l, x < 64) (hn : l.length < 1000) {h : AH} {s : Value} {i o : Nat} (hs : Sees h ⟨i, o, l.length, natsC l⟩ s) : Says Tryz.prog h 49 [s] (u64 (orN l)) h :=
  tellF (C := c1A [] []) (vs := [⟨i, o, l.length, natsC l⟩]) (ss := [s]) (c1A_ok (fun v h => by cases h) (fun v h => by cases h)) rfl (fun caps hc => by
    obtain ⟨cap, rfl, hle⟩ := fits1 hc
    exact bitsOf_local (cap := cap) hl hn) (fun v' _ r => r) (fun μ μ' x hx => flat_any hx rfl) ⟨hs, trivial⟩

/-! ### slices.Compare -/
noncomputable def cmpF : List Nat → List Nat → Int
  | [], [] => 0
  | [], _ :: _ => .negSucc 0
  | _ :: _, [] => 1
  | x :: l, y :: k => if ltF (.ofNat x) (.ofNat y) then .negSucc 0 else if ltF (.ofNat y) (.ofNat x) then 1 else cmpF l k
noncomputable def c75 : Code := bodyOf Tryz.f75
noncomputable def cmp1 (x y : Nat) : Int := if ltF (.ofNat x) (.ofNat y) then .negSucc 0 else if ltF (.ofNat y) (.ofNat x) then 1 else 0
theorem nan_runs (x : Nat) : says (callA Tryz.prog hk3 1000 96 [i64 x] AH.empty) (.bool false) = true := by
  have h : says (callA Tryz.prog hk3 1000 96 [i64 x] AH.empty) (.bool (!(eqF (.ofNat x) (.ofNat x)))) = true := by
    have e : callA Tryz.prog hk3 1000 96 [i64 x] AH.empty = some (.bool (!(eqF (.ofNat x) (.ofNat x))), AH.empty) := by kernel_rfl
    rw [e]
    show ((!(eqF (.ofNat x) (.ofNat x))) == (!(eqF (.ofNat x) (.ofNat x)))) = true
    simp
  rw [eqF_true rfl] at h
  exact h
theorem nan_says (x : Nat) (h : AH) : Says Tryz.prog h 96 [i64 x] (.bool false) h := says_here (local_says hkU (nan_runs x)) (fun y hy => by rw [List.mem_singleton.1 hy]; rfl) rfl h
end
end Go.Proofs.YtbcjmmbmeebfgaaGreatDoor

/- slices.Compare of two rows of numbers, as a contract. -/
namespace Go.Proofs.YtbcjmmbmeebfgaaGreatDoor
set_option linter.unusedVariables false
set_option linter.unusedSimpArgs false
open Go Go.R
set_option maxRecDepth 1000000
noncomputable section

theorem cmp1_local (x y : Nat) : Local Tryz.prog 0 75 [i64 x, i64 y] AH.empty fun v' _ => v' = iZ (cmp1 x y) := by
  refine local_of noNum Tryz.func75 (show Tryz.f75.body = some c75 by kernel_rfl) ?_
  refine Runs.sqR mixed hkU [] (by kernel_rfl) (by kernel_rfl) (by kernel_rfl) oblN ?_
  refine Runs.sqR mixed hkU [viaC 1 96 [i64 x] (.bool false)] (by kernel_rfl) (by kernel_rfl) (by kernel_rfl) (oblC (shown_call (by kernel_rfl) (nan_says x _)) oblN) ?_
  refine Runs.sqR mixed hkU [viaC 1 96 [i64 y] (.bool false)] (by kernel_rfl) (by kernel_rfl) (by kernel_rfl) (oblC (shown_call (by kernel_rfl) (nan_says y _)) oblN) ?_
  refine Runs.sq (by kernel_rfl) (Runs.sqR mixed hkU [] (by kernel_rfl) (by kernel_rfl) (by kernel_rfl) oblN ?_)
  refine Runs.cd (b := false) (by kernel_rfl) (fun h => by cases h) (fun _ => Runs.now (x := .normal) (by kernel_rfl) ?_)
  show Runs Tryz.prog 0 _ _ _
  refine Runs.sq (by kernel_rfl) (Runs.sqR mixed hkU [] (by kernel_rfl) (by kernel_rfl) (by kernel_rfl) oblN ?_)
  refine Runs.cd (b := false) (by kernel_rfl) (fun h => by cases h) (fun _ => Runs.now (x := .normal) (by kernel_rfl) ?_)
  show Runs Tryz.prog 0 _ _ _
  refine Runs.sq (by kernel_rfl) (Runs.sqR mixed hkU [] (by kernel_rfl) (by kernel_rfl) (by kernel_rfl) oblN ?_)
  refine Runs.cd (b := ltF (.ofNat x) (.ofNat y)) (by kernel_rfl) (fun ht => ?_) (fun hf => Runs.now (x := .normal) (by kernel_rfl) ?_)
  · have e : cmp1 x y = .negSucc 0 := by unfold cmp1; rw [ht]; rfl
    rw [e]
    refine Runs.sqR mixed hkU [] (by kernel_rfl) (by kernel_rfl) (by kernel_rfl) oblN ?_
    exact Runs.now (x := .ret) (by kernel_rfl) ⟨.inr rfl, [iZ (.negSucc 0)], by kernel_rfl, rfl⟩
  show Runs Tryz.prog 0 _ _ _
  refine Runs.sq (by kernel_rfl) (Runs.sqR mixed hkU [] (by kernel_rfl) (by kernel_rfl) (by kernel_rfl) oblN ?_)
  refine Runs.cd (b := ltF (.ofNat y) (.ofNat x)) (by kernel_rfl) (fun ht => ?_) (fun hf2 => Runs.now (x := .normal) (by kernel_rfl) ?_)
  · have e : cmp1 x y = 1 := by unfold cmp1; rw [hf, ht]; rfl
    rw [e]
    refine Runs.sqR mixed hkU [] (by kernel_rfl) (by kernel_rfl) (by kernel_rfl) oblN ?_
    exact Runs.now (x := .ret) (by kernel_rfl) ⟨.inr rfl, [iZ 1], by kernel_rfl, rfl⟩
  · have e : cmp1 x y = 0 := by unfold cmp1; rw [hf, hf2]; rfl
    rw [e]
    show Runs Tryz.prog 0 _ _ _
    refine Runs.sqR mixed hkU [] (by kernel_rfl) (by kernel_rfl) (by kernel_rfl) oblN ?_
    exact Runs.now (x := .ret) (by kernel_rfl) ⟨.inr rfl, [iZ 0], by kernel_rfl, rfl⟩
theorem cmp1_says (x y : Nat) (h : AH) : Says Tryz.prog h 75 [i64 x, i64 y] (iZ (cmp1 x y)) h := says_here (cmp1_local x y) (fun v hv => by
  simp only [List.mem_cons, List.mem_nil_iff, or_false] at hv
  rcases hv with rfl | rfl <;> rfl) rfl h

theorem cmpF_cons (x y : Nat) (l k : List Nat) : cmpF (x :: l) (y :: k) = if cmp1 x y = 0 then cmpF l k else cmp1 x y := by
  show (if ltF (.ofNat x) (.ofNat y) then _ else _) = _
  unfold cmp1
  cases ltF (.ofNat x) (.ofNat y) with
  | true => simp
  | false =>
    cases ltF (.ofNat y) (.ofNat x) with
    | true => simp
    | false => simp
theorem neF_of {c : Int} (h : (!(eqF c 0)) = true) : c ≠ 0 := fun e => by subst e; exact absurd h (by decide)
theorem eqF_of {c : Int} (h : (!(eqF c 0)) = false) : c = 0 := by
  rw [Bool.not_eq_false'] at h
  rw [eqF_eq] at h
  exact eq_of_beq h

noncomputable def c56 : Code := bodyOf Tryz.f56
noncomputable def lp56 : Code := within (tl (hd (behind 1 c56)))
noncomputable def S56 (n a b i : Nat) : List (Nat × Value) := [(0, smallS 0 n a), (1, smallS 1 n b), (9, smallS 0 n a), (10, i64 n), (11, i64 i)]
noncomputable def O56 (l k : List Nat) : List AObj := [viewN l, viewN k]
theorem o56_clo {l k : List Nat} : ∀ o ∈ O56 l k, CloO 2 o := fun o ho => by
  simp only [O56, List.mem_cons, List.mem_nil_iff, or_false] at ho
  rcases ho with rfl | rfl <;> exact cloO_plain (natsC_plain _) _ _
theorem cmp_loop {n a b : Nat} (l k : List Nat) (hl : l.length = n) (hk : k.length = n) (hn : n < 1000) : ∀ d i, i + d = n →
    Runs Tryz.prog 2 lp56 (sth (S56 n a b i) 36 (O56 l k)) fun e af => (e = .exit 0 ∧ cmpF (l.drop i) (k.drop i) = 0 ∧ Less 2 (sth [(0, smallS 0 n a), (1, smallS 1 n b)] 36 (O56 l k)) af) ∨ (e = .ret ∧ EndsAs Tryz.prog Tryz.f56 (fun v' _ => v' = iZ (cmpF (l.drop i) (k.drop i))) .ret af) := by
  intro d
  induction d with
  | zero =>
    intro i hi
    have e : i = n := by omega
    subst e
    refine Runs.lp (by kernel_rfl) (Runs.sqR mixed hkU [] (by kernel_rfl) (by kernel_rfl) (by kernel_rfl) oblN (Runs.sq (by kernel_rfl) ?_))
    refine Runs.cd (b := ltF (.ofNat i) (.ofNat i)) (by kernel_rfl) (fun ht => by rw [lt_self] at ht; cases ht) (fun _ => Runs.now (x := .exit 0) (by kernel_rfl) (.inl ⟨rfl, ?_, ?_⟩))
    · rw [List.drop_eq_nil_of_le (by omega), List.drop_eq_nil_of_le (by omega)]; rfl
    · exact less_seenP (clo_all (k := 2) (by kernel_rfl)) o56_clo (Nat.le_refl 2) (by kernel_rfl) (by kernel_rfl) (by kernel_rfl) (by kernel_rfl)
  | succ d ih =>
    intro i hi
    have hlt : i < n := by omega
    obtain ⟨x, hx⟩ : ∃ x, l[i]? = some x := ⟨l[i], List.getElem?_eq_getElem (by omega)⟩
    obtain ⟨y, hy⟩ : ∃ y, k[i]? = some y := ⟨k[i], List.getElem?_eq_getElem (by omega)⟩
    have d1 : l.drop i = x :: l.drop (i + 1) := by rw [List.drop_eq_getElem_cons (by omega : i < l.length)]; rw [List.getElem?_eq_getElem (by omega : i < l.length)] at hx; rw [Option.some.inj hx]
    have d2 : k.drop i = y :: k.drop (i + 1) := by rw [List.drop_eq_getElem_cons (by omega : i < k.length)]; rw [List.getElem?_eq_getElem (by omega : i < k.length)] at hy; rw [Option.some.inj hy]
    rw [d1, d2, cmpF_cons]
    refine Runs.lp (by kernel_rfl) (Runs.sqR mixed hkU [] (by kernel_rfl) (by kernel_rfl) (by kernel_rfl) oblN (Runs.sq (by kernel_rfl) ?_))
    refine Runs.cd (b := ltF (.ofNat i) (.ofNat n)) (by kernel_rfl) (fun _ => Runs.now (x := .normal) (by kernel_rfl) ?_) (fun hf => by rw [lt_of hlt] at hf; cases hf)
    show Runs Tryz.prog 2 _ _ _
    refine Runs.sq (by kernel_rfl) (Runs.bk (id := 1) (by kernel_rfl) ?_)
    refine Runs.sqR mixed hkU [viaV 1 (.pointer (some ⟨0, 0 + i * 1, none⟩)), viaV 2 (i64 x)] (by kernel_rfl) (by kernel_rfl) (by kernel_rfl)
      (oblC (shown_idx (n := n) (by kernel_rfl) hlt) (oblC (shown_cell (by kernel_rfl) (natsC_at (q := 0) (l := l) (lv := false) (par := []) (ty := none) (by kernel_rfl) hx)) oblN)) ?_
    have hge : leF (.ofNat n) (.ofNat i) = false := by
      rw [leF_eq]
      apply decide_eq_false
      show ¬ ((n : Int) ≤ (i : Int))
      omega
    refine Runs.sq (by kernel_rfl) (Runs.sqR mixed hkU [] (by kernel_rfl) (by kernel_rfl) (by kernel_rfl) oblN ?_)
    refine Runs.cd (b := leF (.ofNat n) (.ofNat i)) (by kernel_rfl) (fun ht => by rw [hge] at ht; cases ht) (fun _ => Runs.now (x := .normal) (by kernel_rfl) ?_)
    show Runs Tryz.prog 2 _ _ _
    refine Runs.sqR mixed hkU [viaV 2 (.pointer (some ⟨1, 0 + i * 1, none⟩)), viaV 3 (i64 y)] (by kernel_rfl) (by kernel_rfl) (by kernel_rfl)
      (oblC (shown_idx (n := n) (by kernel_rfl) hlt) (oblC (shown_cell (by kernel_rfl) (natsC_at (q := 1) (l := k) (lv := false) (par := []) (ty := none) (by kernel_rfl) hy)) oblN)) ?_
    have hS := fun h => cmp1_says x y h
    generalize cmp1 x y = c at hS ⊢
    refine Runs.sqR mixed hkU [viaC 2 75 [i64 x, i64 y] (iZ c)] (by kernel_rfl) (by kernel_rfl) (by kernel_rfl) (oblC (shown_call (by kernel_rfl) (hS _)) oblN) ?_
    refine Runs.sqR mixed hkU [] (by kernel_rfl) (by kernel_rfl) (by kernel_rfl) oblN ?_
    refine Runs.cd (b := !(eqF c 0)) (by kernel_rfl) (fun ht => ?_) (fun hf => Runs.now (x := .normal) (by kernel_rfl) ?_)
    · rw [if_neg (neF_of ht)]
      exact Runs.sqR mixed hkU [] (by kernel_rfl) (by kernel_rfl) (by kernel_rfl) oblN (Runs.now (x := .ret) (by kernel_rfl) (.inr ⟨rfl, .inr rfl, [iZ c], by kernel_rfl, rfl⟩))
    · rw [if_pos (eqF_of hf)]
      show Runs Tryz.prog 2 _ _ _
      refine Runs.rg mixed hkU [viaV 0 (i64 (i + 1))] (by kernel_rfl) (by kernel_rfl) (by kernel_rfl) (oblC (shown_eq (v := .int .i64 (wrapF .i64 (Int.add (.ofNat i) (.ofNat 1)))) (by kernel_rfl) (by kernel_rfl) (by rw [wrap_succ (by omega)]; rfl)) oblN) ?_
      show Runs Tryz.prog 2 lp56 _ _
      exact Runs.less (af1 := sth (S56 n a b (i + 1)) 36 (O56 l k)) (less_seenP (clo_all (k := 2) (by kernel_rfl)) o56_clo (Nat.le_refl 2) (by kernel_rfl) (by kernel_rfl) (by kernel_rfl) (by kernel_rfl)) (ih (i + 1) (by omega))

theorem cmp_local {n a b : Nat} (l k : List Nat) (hl : l.length = n) (hk : k.length = n) (hn : n < 1000) : Local Tryz.prog 2 56 [smallS 0 n a, smallS 1 n b] (hp (O56 l k)) fun v' _ => v' = iZ (cmpF l k) := by
  refine local_of noNum Tryz.func56 (show Tryz.f56.body = some c56 by kernel_rfl) ?_
  refine Runs.sqR mixed hkU [] (by kernel_rfl) (by kernel_rfl) (by kernel_rfl) oblN ?_
  refine Runs.sq (by kernel_rfl) (Runs.sqR mixed hkU [] (by kernel_rfl) (by kernel_rfl) (by kernel_rfl) oblN (Runs.bk (id := 0) (by kernel_rfl) ?_))
  show Runs Tryz.prog 2 lp56 _ _
  refine Runs.less (af1 := sth (S56 n a b 0) 36 (O56 l k)) (less_seenP (clo_all (k := 2) (by kernel_rfl)) o56_clo (Nat.le_refl 2) (by kernel_rfl) (by kernel_rfl) (by kernel_rfl) (by kernel_rfl)) ?_
  refine (cmp_loop (a := a) (b := b) l k hl hk hn n 0 (by omega)).mono fun e af hx => ?_
  rcases hx with ⟨rfl, hz, less⟩ | ⟨rfl, he⟩
  · rw [List.drop_zero, List.drop_zero] at hz
    rw [hz]
    show Runs Tryz.prog 2 _ af _
    refine Runs.less less (Runs.sq (by kernel_rfl) (Runs.sqR mixed hkU [] (by kernel_rfl) (by kernel_rfl) (by kernel_rfl) oblN ?_))
    refine Runs.cd (b := ltF (.ofNat n) (.ofNat n)) (by kernel_rfl) (fun ht => by rw [lt_self] at ht; cases ht) (fun _ => Runs.now (x := .normal) (by kernel_rfl) ?_)
    show Runs Tryz.prog 2 _ _ _
    exact Runs.sqR mixed hkU [] (by kernel_rfl) (by kernel_rfl) (by kernel_rfl) oblN (Runs.now (x := .ret) (by kernel_rfl) ⟨.inr rfl, [iZ 0], by kernel_rfl, rfl⟩)
  · rw [List.drop_zero, List.drop_zero] at he
    exact he
theorem idC_ok (m : Nat) : ArgC m (fun ss => ss) := fun μ ss l _ h => ⟨l, h, fun _ _ h1 => h1⟩
theorem fits2 {v w : View} {caps : List Nat} (h : FitsC [v, w] caps) : ∃ a b, caps = [a, b] ∧ v.n ≤ a ∧ w.n ≤ b := by
  match caps, h with
  | [a, b], h => exact ⟨a, b, rfl, h.1, h.2.1⟩
theorem cmp_says {l k : List Nat} (hlk : k.length = l.length) (hn : l.length < 1000) {h : AH} {s t : Value} {i o j q : Nat} (hs : Sees h ⟨i, o, l.length, natsC l⟩ s) (ht : Sees h ⟨j, q, l.length, natsC k⟩ t) : Says Tryz.prog h 56 [s, t] (iZ (cmpF l k)) h :=
  tellF (C := fun ss => ss) (vs := [⟨i, o, l.length, natsC l⟩, ⟨j, q, l.length, natsC k⟩]) (ss := [s, t]) (idC_ok 2) rfl (fun caps hc => by
    obtain ⟨a, b, rfl, _, _⟩ := fits2 hc
    exact cmp_local (a := a) (b := b) l k rfl hlk hn) (fun v' _ r => r) (fun μ μ' x hx => flat_any hx rfl) ⟨hs, ht, trivial⟩
end
end Go.Proofs.YtbcjmmbmeebfgaaGreatDoor
