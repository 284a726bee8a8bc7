/- Results of trials: IndexFunc, ContainsFunc over them, and whether they are fit, as contracts. -/
import Derived.Test.YtbcjmmbmeebfgaaGreatDoorSNarrowedUG7
namespace Go.Proofs.YtbcjmmbmeebfgaaGreatDoor
set_option linter.unusedVariables false
set_option linter.unusedSimpArgs false
open Go Go.R
set_option maxRecDepth 1000000
noncomputable section

noncomputable def firstP (p : Nat → Bool) (m : Nat) : Nat → Nat → Nat
  | 0, i => m
  | d + 1, i => if p i then i else firstP p m d (i + 1)
theorem firstP_spec (p : Nat → Bool) (m : Nat) : ∀ d i, i + d = m → (firstP p m d i = m ∧ ∀ j, i ≤ j → j < m → p j = false) ∨
    (firstP p m d i < m ∧ i ≤ firstP p m d i ∧ p (firstP p m d i) = true ∧ ∀ j, i ≤ j → j < firstP p m d i → p j = false)
  | 0, i, h => .inl ⟨rfl, fun j h1 h2 => by omega⟩
  | d + 1, i, h => by
    unfold firstP
    cases hp : p i with
    | true => exact .inr ⟨by simp; omega, by simp, by simpa using hp, fun j h1 h2 => by simp at h2; omega⟩
    | false =>
      simp only [Bool.false_eq_true, if_false]
      rcases firstP_spec p m d (i + 1) (by omega) with ⟨h1, h2⟩ | ⟨h1, h2, h3, h4⟩
      · refine .inl ⟨h1, fun j a b => ?_⟩
        rcases Nat.lt_or_ge i j with q | q
        · exact h2 j q b
        · rw [show j = i by omega]; exact hp
      · refine .inr ⟨h1, by omega, h3, fun j a b => ?_⟩
        rcases Nat.lt_or_ge i j with q | q
        · exact h4 j q b
        · rw [show j = i by omega]; exact hp
theorem firstP_none {p : Nat → Bool} {m : Nat} : firstP p m m 0 = m ↔ ∀ j, j < m → p j = false := by
  rcases firstP_spec p m m 0 (by omega) with ⟨h1, h2⟩ | ⟨h1, h2, h3, h4⟩
  · exact ⟨fun _ j hj => h2 j (Nat.zero_le j) hj, fun _ => h1⟩
  · refine ⟨fun h => by omega, fun h => ?_⟩
    rw [h _ h1] at h3; cases h3

/-! ### The results -/
noncomputable def agR (x : Nat) (a : Bool) : Value := .agg #[i64 x, .bool a]
noncomputable def resC (n : Nat) (f : Nat → Nat) (g : Nat → Bool) : List Value := rows2 (fun i => i64 (f i)) (fun i => .bool (g i)) n
noncomputable def viewR (n : Nat) (f : Nat → Nat) (g : Nat → Bool) : AObj := viewC (resC n f g)
theorem resC_plain {n : Nat} {f : Nat → Nat} {g : Nat → Bool} : ∀ v ∈ resC n f g, plainV v = true := rows2_plain (fun _ => rfl) (fun _ => rfl) n
theorem resC_len (n : Nat) (f : Nat → Nat) (g : Nat → Bool) : (resC n f g).length = n * 2 := rows2_len _ _ n
theorem resC_at {h : AH} {q o i n : Nat} {f : Nat → Nat} {g : Nat → Bool} {lv : Bool} {par : List Nat} {ty : Option TypeId} (hg : h.get q = .cells (resC n f g) lv par ty) (hlt : o + i < n) : rowAt? h q (o * 2 + i * 2) 2 = some [i64 (f (o + i)), .bool (g (o + i))] := by
  rw [show o * 2 + i * 2 = (o + i) * 2 by omega, row_at hg (by rw [resC_len]; omega)]
  unfold resC
  rw [rows2_at _ _ n (o + i) hlt]
theorem viewR_clo {k n : Nat} {f : Nat → Nat} {g : Nat → Bool} : CloO k (viewR n f g) := cloO_plain resC_plain _ _

/-! ### IndexFunc -/
noncomputable def c44 : Code := bodyOf Tryz.f44
noncomputable def lp44 : Code := within (tl (hd (behind 1 c44)))
noncomputable def slO (o d c : Nat) : Value := .slice (some ⟨0, o * 2, none⟩) d c
noncomputable def cloV (fid : Nat) : Value := .func (.func fid) #[] #[ptrV 1]
noncomputable def S44 (o d c fid i : Nat) : List (Nat × Value) := [(0, slO o d c), (1, cloV fid), (7, i64 d), (8, i64 i)]
theorem os2_clo {n : Nat} {f : Nat → Nat} {g : Nat → Bool} {bx : AObj} (hb : CloO 2 bx) : ∀ o ∈ [viewR n f g, bx], CloO 2 o := fun o ho => by
  simp only [List.mem_cons, List.mem_nil_iff, or_false] at ho
  rcases ho with rfl | rfl
  · exact viewR_clo
  · exact hb
theorem index_loop {n o d c fid : Nat} {f : Nat → Nat} {g : Nat → Bool} {bx : AObj} (hb : CloO 2 bx) (p : Nat → Bool) (hn : d < 1000) (hod : o + d ≤ n)
    (CC : ∀ j, j < d → Says Tryz.prog (hp [viewR n f g, bx]) fid [agR (f (o + j)) (g (o + j)), ptrV 1] (.bool (p j)) (hp [viewR n f g, bx])) : ∀ q i, i + q = d →
    Runs Tryz.prog 2 lp44 (sth (S44 o d c fid i) 19 [viewR n f g, bx]) fun e af => (e = .exit 0 ∧ firstP p d q i = d ∧ Less 2 (sth [] 19 [viewR n f g, bx]) af) ∨
      (e = .ret ∧ firstP p d q i < d ∧ EndsAs Tryz.prog Tryz.f44 (Holds [viewR n f g, bx] (i64 (firstP p d q i))) .ret af) := by
  intro q
  induction q with
  | zero =>
    intro i hi
    have e : i = d := by omega
    subst e
    refine Runs.lp (by kernel_rfl) (Runs.sqR mixed hkU [] (by kernel_rfl) (by kernel_rfl) (by kernel_rfl) oblN (Runs.sq (by kernel_rfl) ?_))
    refine Runs.cd (b := ltF (.ofNat i) (.ofNat i)) (by kernel_rfl) (fun ht => by rw [lt_self] at ht; cases ht) (fun _ => Runs.now (x := .exit 0) (by kernel_rfl) (.inl ⟨rfl, rfl, ?_⟩))
    exact less_seenP (clo_all (k := 2) (by kernel_rfl)) (os2_clo hb) (Nat.le_refl 2) (by kernel_rfl) (by kernel_rfl) (by kernel_rfl) (by kernel_rfl)
  | succ q ih =>
    intro i hi
    have hlt : i < d := by omega
    have hC := CC i hlt
    refine Runs.lp (by kernel_rfl) (Runs.sqR mixed hkU [] (by kernel_rfl) (by kernel_rfl) (by kernel_rfl) oblN (Runs.sq (by kernel_rfl) ?_))
    refine Runs.cd (b := ltF (.ofNat i) (.ofNat d)) (by kernel_rfl) (fun _ => Runs.now (x := .normal) (by kernel_rfl) ?_) (fun hf => by rw [lt_of hlt] at hf; cases hf)
    show Runs Tryz.prog 2 _ _ _
    refine Runs.sq (by kernel_rfl) (Runs.bk (id := 1) (by kernel_rfl) ?_)
    refine Runs.sqR mixed hkU [] (by kernel_rfl) (by kernel_rfl) (by kernel_rfl) oblN ?_
    refine Runs.sqR mixed hkU [viaV 3 (.pointer (some ⟨0, o * 2 + i * 2, none⟩)), viaV 4 (agR (f (o + i)) (g (o + i))), viaC 5 fid [agR (f (o + i)) (g (o + i)), ptrV 1] (.bool (p i))] (by kernel_rfl) (by kernel_rfl) (by kernel_rfl)
      (oblC (shown_idx (n := d) (by kernel_rfl) hlt) (oblC (shown_agg (by kernel_rfl) (resC_at (q := 0) (n := n) (f := f) (g := g) (lv := false) (par := []) (ty := none) (by kernel_rfl) (by omega)))
      (oblC (shown_callE (h0 := hp [viewR n f g, bx]) (by kernel_rfl) (by kernel_rfl) hC) oblN))) ?_
    refine Runs.cd (b := p i) (by kernel_rfl) (fun ht => ?_) (fun hf => Runs.now (x := .normal) (by kernel_rfl) ?_)
    · have e : firstP p d (q + 1) i = i := by unfold firstP; rw [ht]; rfl
      rw [e]
      exact Runs.sqR mixed hkU [] (by kernel_rfl) (by kernel_rfl) (by kernel_rfl) oblN (Runs.now (x := .ret) (by kernel_rfl) (.inr ⟨rfl, hlt, .inr rfl, [i64 i], by kernel_rfl, rfl, keepOf (by kernel_rfl)⟩))
    · have e : firstP p d (q + 1) i = firstP p d q (i + 1) := by rw [firstP, hf]; rfl
      rw [e]
      show Runs Tryz.prog 2 _ _ _
      refine Runs.rg mixed hkU [viaV 0 (i64 (i + 1))] (by kernel_rfl) (by kernel_rfl) (by kernel_rfl) (oblC (shown_eq (v := .int .i64 (wrapF .i64 (Int.add (.ofNat i) (.ofNat 1)))) (by kernel_rfl) (by kernel_rfl) (by rw [wrap_succ (by omega)]; rfl)) oblN) ?_
      show Runs Tryz.prog 2 lp44 _ _
      exact Runs.less (af1 := sth (S44 o d c fid (i + 1)) 19 [viewR n f g, bx]) (less_seenP (clo_all (k := 2) (by kernel_rfl)) (os2_clo hb) (Nat.le_refl 2) (by kernel_rfl) (by kernel_rfl) (by kernel_rfl) (by kernel_rfl)) (ih (i + 1) (by omega))
noncomputable def idxV (p : Nat → Bool) (d : Nat) : Value := if firstP p d d 0 < d then i64 (firstP p d d 0) else iZ (.negSucc 0)
theorem arg44_clo {o d c fid : Nat} : ∀ x ∈ [slO o d c, cloV fid], Clo 2 x := fun x hx => by
  simp only [List.mem_cons, List.mem_nil_iff, or_false] at hx
  rcases hx with rfl | rfl <;> exact clo_of 10 _ _ (by kernel_rfl)
theorem index_says {n o d c fid : Nat} {f : Nat → Nat} {g : Nat → Bool} {bx : AObj} (hb : CloO 2 bx) (p : Nat → Bool) (hn : d < 1000) (hod : o + d ≤ n)
    (CC : ∀ j, j < d → Says Tryz.prog (hp [viewR n f g, bx]) fid [agR (f (o + j)) (g (o + j)), ptrV 1] (.bool (p j)) (hp [viewR n f g, bx])) :
    Says Tryz.prog (hp [viewR n f g, bx]) 44 [slO o d c, cloV fid] (idxV p d) (hp [viewR n f g, bx]) := by
  refine says_of (os := [viewR n f g, bx]) ?_ arg44_clo (os2_clo hb) (clo_plain (by unfold idxV; split <;> rfl))
  show Local Tryz.prog 2 44 _ _ _
  refine local_of noNum Tryz.func44 (show Tryz.f44.body = some c44 by kernel_rfl) ?_
  refine Runs.sqR mixed hkU [] (by kernel_rfl) (by kernel_rfl) (by kernel_rfl) oblN ?_
  refine Runs.sq (by kernel_rfl) (Runs.sqR mixed hkU [] (by kernel_rfl) (by kernel_rfl) (by kernel_rfl) oblN (Runs.bk (id := 0) (by kernel_rfl) ?_))
  show Runs Tryz.prog 2 lp44 _ _
  refine Runs.less (af1 := sth (S44 o d c fid 0) 19 [viewR n f g, bx]) (less_seenP (clo_all (k := 2) (by kernel_rfl)) (os2_clo hb) (Nat.le_refl 2) (by kernel_rfl) (by kernel_rfl) (by kernel_rfl) (by kernel_rfl)) ?_
  refine (index_loop (c := c) hb p hn hod CC d 0 (by omega)).mono fun e af hx => ?_
  unfold idxV
  rcases hx with ⟨rfl, he, less⟩ | ⟨rfl, hlt, he⟩
  · rw [if_neg (by omega)]
    show Runs Tryz.prog 2 _ af _
    exact Runs.less less (Runs.sqR mixed hkU [] (by kernel_rfl) (by kernel_rfl) (by kernel_rfl) oblN (Runs.now (x := .ret) (by kernel_rfl) ⟨.inr rfl, [iZ (.negSucc 0)], by kernel_rfl, rfl, keepOf (by kernel_rfl)⟩))
  · rw [if_pos hlt]
    exact he

/-! ### ContainsFunc, where there is none -/
noncomputable def c64 : Code := bodyOf Tryz.f64
theorem contains_says {n d c fid : Nat} {f : Nat → Nat} {g : Nat → Bool} {bx : AObj} (hb : CloO 2 bx) (hn : d < 1000) (hod : d ≤ n)
    (CC : ∀ j, j < d → Says Tryz.prog (hp [viewR n f g, bx]) fid [agR (f (0 + j)) (g (0 + j)), ptrV 1] (.bool false) (hp [viewR n f g, bx])) :
    Says Tryz.prog (hp [viewR n f g, bx]) 64 [slO 0 d c, cloV fid] (.bool false) (hp [viewR n f g, bx]) := by
  have hS := index_says (c := c) hb (fun _ => false) hn (by omega) CC
  have e : idxV (fun _ => false) d = iZ (.negSucc 0) := by
    unfold idxV
    rw [if_neg (by rw [firstP_none.2 (fun _ _ => rfl)]; omega)]
  rw [e] at hS
  refine says_of (os := [viewR n f g, bx]) ?_ arg44_clo (os2_clo hb) (clo_plain rfl)
  show Local Tryz.prog 2 64 _ _ _
  refine local_of noNum Tryz.func64 (show Tryz.f64.body = some c64 by kernel_rfl) ?_
  refine Runs.sqR mixed hkU [] (by kernel_rfl) (by kernel_rfl) (by kernel_rfl) oblN ?_
  refine Runs.sqR mixed hkU [viaC 2 44 [slO 0 d c, cloV fid] (iZ (.negSucc 0))] (by kernel_rfl) (by kernel_rfl) (by kernel_rfl) (oblC (shown_callE (h0 := hp [viewR n f g, bx]) (by kernel_rfl) (by kernel_rfl) hS) oblN) ?_
  exact Runs.now (x := .ret) (by kernel_rfl) ⟨.inr rfl, [.bool false], by kernel_rfl, rfl, keepOf (by kernel_rfl)⟩

/-! ### checked -/
theorem out_runs : ((List.range 8).all fun x => (List.range 2).all fun lo => (List.range 13).all fun hi => says (callA Tryz.prog hk3 1000 63 [i64 x, i64 lo, i64 hi] AH.empty) (.bool (Nat.blt x lo || Nat.blt hi x))) = true := by kernel_rfl
theorem out_says {x lo hi : Nat} (hx : x < 8) (hlo : lo < 2) (hhi : hi < 13) (h1 : lo ≤ x) (h2 : x ≤ hi) (h : AH) : Says Tryz.prog h 63 [i64 x, i64 lo, i64 hi] (.bool false) h := by
  have := List.all_eq_true.1 (List.all_eq_true.1 (List.all_eq_true.1 out_runs x (List.mem_range.2 hx)) lo (List.mem_range.2 hlo)) hi (List.mem_range.2 hhi)
  have e1 : Nat.blt x lo = false := by
    cases h : Nat.blt x lo with
    | false => rfl
    | true => have := blt_lt h; omega
  have e2 : Nat.blt hi x = false := by
    cases h : Nat.blt hi x with
    | false => rfl
    | true => have := blt_lt h; omega
  rw [e1, e2] at this
  exact says_here (local_says hkU this) (fun v hv => by
    simp only [List.mem_cons, List.mem_nil_iff, or_false] at hv
    rcases hv with rfl | rfl | rfl <;> rfl) rfl h
noncomputable def c65 : Code := bodyOf Tryz.f65
theorem boxN_clo {k m : Nat} : CloO k (boxN m) := cloO_one (clo_plain rfl)
theorem chk1_says {L n x : Nat} {a : Bool} {f : Nat → Nat} {g : Nat → Bool} (hL : L < 7) (h1 : 1 ≤ x) (h2 : x ≤ L) : Says Tryz.prog (hp [viewR n f g, boxN L]) 65 [agR x a, ptrV 1] (.bool false) (hp [viewR n f g, boxN L]) := by
  refine says_of (os := [viewR n f g, boxN L]) ?_ (fun v hv => ?_) (os2_clo boxN_clo) (clo_plain rfl)
  · show Local Tryz.prog 2 65 _ _ _
    refine local_of noNum Tryz.func65 (show Tryz.f65.body = some c65 by kernel_rfl) ?_
    refine Runs.sqR mixed hkU [] (by kernel_rfl) (by kernel_rfl) (by kernel_rfl) oblN ?_
    refine Runs.sqR mixed hkU [viaC 3 63 [i64 x, i64 1, i64 L] (.bool false)] (by kernel_rfl) (by kernel_rfl) (by kernel_rfl) (oblC (shown_call (by kernel_rfl) (out_says (by omega) (by decide) (by omega) h1 h2 _)) oblN) ?_
    refine Runs.now (x := .ret) (by kernel_rfl) ⟨.inr rfl, [.bool false], by kernel_rfl, rfl, fun j z hz => ?_⟩
    match j, hz with
    | 0, hz | 1, hz => cases hz; exact Eq.trans (Eq.refl _) (by kernel_rfl)
    | j + 2, hz => cases hz
  · simp only [List.mem_cons, List.mem_nil_iff, or_false] at hv
    rcases hv with rfl | rfl
    · exact clo_of 10 _ _ (by kernel_rfl)
    · exact clo_of 10 _ _ (by kernel_rfl)
noncomputable def c43 : Code := bodyOf Tryz.f43
noncomputable def FitR (L n : Nat) (f : Nat → Nat) : Prop := ∀ i, i < n → 1 ≤ f i ∧ f i ≤ L
theorem checked_local {L n c : Nat} {f : Nat → Nat} {g : Nat → Bool} (hL : L < 7) (hn : n < 20) (F : FitR L n f) : Local Tryz.prog 1 43 [i64 L, smallS 0 n c] (hp [viewR n f g]) (Holds [viewR n f g] (i64 0)) := by
  refine local_of noNum Tryz.func43 (show Tryz.f43.body = some c43 by kernel_rfl) ?_
  have hS : Says Tryz.prog (hp [viewR n f g, boxN L]) 64 [smallS 0 n c, cloV 65] (.bool false) (hp [viewR n f g, boxN L]) := contains_says (c := c) boxN_clo (by omega) (Nat.le_refl n) (fun j hj => by
    rw [Nat.zero_add]
    exact chk1_says hL (F j hj).1 (F j hj).2)
  refine Runs.sqR mixed hkU [] (by kernel_rfl) (by kernel_rfl) (by kernel_rfl) oblN ?_
  refine Runs.sq (by kernel_rfl) (Runs.bk (id := 0) (by kernel_rfl) ?_)
  refine Runs.sqR mixed hkU [viaC 1 63 [i64 L, i64 0, i64 12] (.bool false)] (by kernel_rfl) (by kernel_rfl) (by kernel_rfl) (oblC (shown_call (by kernel_rfl) (out_says (by omega) (by decide) (by decide) (Nat.zero_le L) (by omega) _)) oblN) ?_
  refine Runs.cd (b := false) (by kernel_rfl) (fun h => by cases h) (fun _ => ?_)
  have hlt : ltF (.ofNat 20) (.ofNat n) = false := ltF_false (by show (n : Int) ≤ (20 : Int); omega)
  refine Runs.sqR mixed hkU [] (by kernel_rfl) (by kernel_rfl) (by kernel_rfl) oblN ?_
  refine Runs.cd (b := ltF (.ofNat 20) (.ofNat n)) (by kernel_rfl) (fun h => by rw [hlt] at h; cases h) (fun _ => ?_)
  refine Runs.sqR mixed hkU [viaC 2 64 [smallS 0 n c, cloV 65] (.bool false)] (by kernel_rfl) (by kernel_rfl) (by kernel_rfl) (oblC (shown_callE (h0 := hp [viewR n f g, boxN L]) (by kernel_rfl) (by kernel_rfl) hS) oblN) ?_
  refine Runs.cd (b := false) (by kernel_rfl) (fun h => by cases h) (fun _ => Runs.now (x := .normal) (by kernel_rfl) ?_)
  show Runs Tryz.prog 1 _ _ _
  refine Runs.sqR mixed hkU [] (by kernel_rfl) (by kernel_rfl) (by kernel_rfl) oblN (Runs.now (x := .ret) (by kernel_rfl) ⟨.inr rfl, [i64 0], by kernel_rfl, rfl, fun j z hz => ?_⟩)
  match j, hz with
  | 0, hz => cases hz; exact Eq.trans (Eq.refl _) (by kernel_rfl)
  | j + 1, hz => cases hz
theorem viewR1 {n : Nat} {f : Nat → Nat} {g : Nat → Bool} : ∀ o ∈ [viewR n f g], CloO 1 o := fun o ho => by rw [List.mem_singleton.1 ho]; exact viewR_clo
theorem argR_clo {L n c : Nat} : ∀ x ∈ [i64 L, smallS 0 n c], Clo 1 x := fun x hx => by
  simp only [List.mem_cons, List.mem_nil_iff, or_false] at hx
  rcases hx with rfl | rfl <;> exact clo_of 10 _ _ (by kernel_rfl)
theorem checked_says {L n c : Nat} {f : Nat → Nat} {g : Nat → Bool} (hL : L < 7) (hn : n < 20) (F : FitR L n f) : Says Tryz.prog (hp [viewR n f g]) 43 [i64 L, smallS 0 n c] (i64 0) (hp [viewR n f g]) :=
  says_of (os := [viewR n f g]) (checked_local hL hn F) argR_clo viewR1 (clo_plain rfl)
end
end Go.Proofs.YtbcjmmbmeebfgaaGreatDoor

/- Known and Why, as contracts. -/
namespace Go.Proofs.YtbcjmmbmeebfgaaGreatDoor
set_option linter.unusedVariables false
set_option linter.unusedSimpArgs false
open Go Go.R
set_option maxRecDepth 1000000
noncomputable section

noncomputable def lowN (f : Nat → Nat) (g : Nat → Bool) : Nat → Nat
  | 0 => 0
  | i + 1 => if g i then lowN f g i else max (lowN f g i) (f i)
noncomputable def highN (L : Nat) (f : Nat → Nat) (g : Nat → Bool) : Nat → Nat
  | 0 => L
  | i + 1 => if g i then min (highN L f g i) (f i - 1) else highN L f g i
theorem minA (a b : Nat) : minMaxA false [i64 a, i64 b] = some (i64 (min a b)) := by
  show some (Value.int .i64 (if ((b : Int)) < (a : Int) then (b : Int) else (a : Int))) = some (.int .i64 ((min a b : Nat) : Int))
  by_cases h : b < a
  · rw [if_pos (by omega), Nat.min_eq_right (by omega)]
  · rw [if_neg (by omega), Nat.min_eq_left (by omega)]
theorem maxA (a b : Nat) : minMaxA true [i64 a, i64 b] = some (i64 (max a b)) := by
  show some (Value.int .i64 (if ((b : Int)) > (a : Int) then (b : Int) else (a : Int))) = some (.int .i64 ((max a b : Nat) : Int))
  by_cases h : a < b
  · rw [if_pos (by omega), Nat.max_eq_right (by omega)]
  · rw [if_neg (by omega), Nat.max_eq_left (by omega)]
theorem wrap_pred {x : Nat} (h : 1 ≤ x) (h2 : x < 1000) : wrapF .i64 (Int.sub (.ofNat x) (.ofNat 1)) = .ofNat (x - 1) := by
  rw [show Int.sub (.ofNat x) (.ofNat 1) = .ofNat (x - 1) by show (x : Int) - 1 = ((x - 1 : Nat) : Int); omega]
  exact wrap_ofNat (by omega)

noncomputable def c16 : Code := bodyOf Tryz.f16
noncomputable def lp16 : Code := within (tl (hd (behind 3 c16)))
noncomputable def S16 (L n c : Nat) (f : Nat → Nat) (g : Nat → Bool) (i : Nat) : List (Nat × Value) := [(4, i64 (lowN f g i)), (5, i64 (highN L f g i)), (17, smallS 0 n c), (18, i64 n), (19, i64 i)]
theorem known_loop {L n c : Nat} {f : Nat → Nat} {g : Nat → Bool} (hL : L < 7) (hn : n < 20) (F : FitR L n f) : ∀ d i, i + d = n →
    Runs Tryz.prog 1 lp16 (sth (S16 L n c f g i) 40 [viewR n f g]) fun e af => e = .exit 0 ∧ Less 1 (sth [(4, i64 (lowN f g n)), (5, i64 (highN L f g n))] 40 [viewR n f g]) af := by
  intro d
  induction d with
  | zero =>
    intro i hi
    have e : i = n := by omega
    subst e
    refine Runs.lp (by kernel_rfl) (Runs.sqR mixed hkU [] (by kernel_rfl) (by kernel_rfl) (by kernel_rfl) oblN (Runs.sq (by kernel_rfl) ?_))
    refine Runs.cd (b := ltF (.ofNat i) (.ofNat i)) (by kernel_rfl) (fun ht => by rw [lt_self] at ht; cases ht) (fun _ => Runs.now (x := .exit 0) (by kernel_rfl) ⟨rfl, ?_⟩)
    exact less_seenP (clo_all (k := 1) (by kernel_rfl)) viewR1 (Nat.le_refl 1) (by kernel_rfl) (by kernel_rfl) (by kernel_rfl) (by kernel_rfl)
  | succ d ih =>
    intro i hi
    have hlt : i < n := by omega
    obtain ⟨f1, f2⟩ := F i hlt
    have hr := ih (i + 1) (by omega)
    refine Runs.lp (by kernel_rfl) (Runs.sqR mixed hkU [] (by kernel_rfl) (by kernel_rfl) (by kernel_rfl) oblN (Runs.sq (by kernel_rfl) ?_))
    refine Runs.cd (b := ltF (.ofNat i) (.ofNat n)) (by kernel_rfl) (fun _ => Runs.now (x := .normal) (by kernel_rfl) ?_) (fun hf => by rw [lt_of hlt] at hf; cases hf)
    show Runs Tryz.prog 1 _ _ _
    refine Runs.sq (by kernel_rfl) (Runs.bk (id := 1) (by kernel_rfl) ?_)
    refine Runs.sqR mixed hkU [viaV 0 (.pointer (some ⟨0, 0 + i * 2, none⟩)), viaV 1 (agR (f i) (g i))] (by kernel_rfl) (by kernel_rfl) (by kernel_rfl)
      (oblC (shown_idx (n := n) (by kernel_rfl) hlt) (oblC (shown_agg (by kernel_rfl) (show rowAt? _ 0 (0 + i * 2) 2 = some [i64 (f i), .bool (g i)] by
        have := resC_at (h := hp [viewR n f g]) (q := 0) (o := 0) (i := i) (n := n) (f := f) (g := g) (lv := false) (par := []) (ty := none) (by kernel_rfl) (by omega)
        rwa [Nat.zero_mul, Nat.zero_add i] at this)) oblN)) ?_
    refine Runs.sqR mixed hkU [] (by kernel_rfl) (by kernel_rfl) (by kernel_rfl) oblN ?_
    have e1 : lowN f g (i + 1) = if g i then lowN f g i else max (lowN f g i) (f i) := rfl
    have e2 : highN L f g (i + 1) = if g i then min (highN L f g i) (f i - 1) else highN L f g i := rfl
    refine Runs.cd (b := g i) (by kernel_rfl) (fun ht => ?_) (fun hf => ?_)
    · rw [if_pos ht] at e1 e2
      refine Runs.rg mixed hkU [viaV 3 (i64 (f i - 1)), viaV 4 (i64 (min (highN L f g i) (f i - 1)))] (by kernel_rfl) (by kernel_rfl) (by kernel_rfl)
        (oblC (shown_eq (v := .int .i64 (wrapF .i64 (Int.sub (.ofNat (f i)) (.ofNat 1)))) (by kernel_rfl) (by kernel_rfl) (by rw [wrap_pred f1 (by omega)]; rfl))
        (oblC ⟨by kernel_rfl, (show _ = (minMaxA false [i64 (highN L f g i), i64 (f i - 1)]).map (·, _) by kernel_rfl).trans (by rw [minA]; rfl)⟩ oblN)) ?_
      show Runs Tryz.prog 1 _ _ _
      refine Runs.rg mixed hkU [viaV 0 (i64 (i + 1))] (by kernel_rfl) (by kernel_rfl) (by kernel_rfl) (oblC (shown_eq (v := .int .i64 (wrapF .i64 (Int.add (.ofNat i) (.ofNat 1)))) (by kernel_rfl) (by kernel_rfl) (by rw [wrap_succ (by omega)]; rfl)) oblN) ?_
      show Runs Tryz.prog 1 lp16 _ _
      unfold S16 at hr
      rw [e1, e2] at hr
      exact Runs.less (less_seenP (clo_all (k := 1) (by kernel_rfl)) viewR1 (Nat.le_refl 1) (by kernel_rfl) (by kernel_rfl) (by kernel_rfl) (by kernel_rfl)) hr
    · rw [if_neg (by rw [hf]; exact Bool.false_ne_true)] at e1 e2
      refine Runs.rg mixed hkU [viaV 3 (i64 (max (lowN f g i) (f i)))] (by kernel_rfl) (by kernel_rfl) (by kernel_rfl)
        (oblC ⟨by kernel_rfl, (show _ = (minMaxA true [i64 (lowN f g i), i64 (f i)]).map (·, _) by kernel_rfl).trans (by rw [maxA]; rfl)⟩ oblN) ?_
      show Runs Tryz.prog 1 _ _ _
      refine Runs.rg mixed hkU [viaV 0 (i64 (i + 1))] (by kernel_rfl) (by kernel_rfl) (by kernel_rfl) (oblC (shown_eq (v := .int .i64 (wrapF .i64 (Int.add (.ofNat i) (.ofNat 1)))) (by kernel_rfl) (by kernel_rfl) (by rw [wrap_succ (by omega)]; rfl)) oblN) ?_
      show Runs Tryz.prog 1 lp16 _ _
      unfold S16 at hr
      rw [e1, e2] at hr
      exact Runs.less (less_seenP (clo_all (k := 1) (by kernel_rfl)) viewR1 (Nat.le_refl 1) (by kernel_rfl) (by kernel_rfl) (by kernel_rfl) (by kernel_rfl)) hr

noncomputable def knownV (lo hi : Nat) : Value := if Nat.blt hi lo then .tuple #[i64 0, i64 0, i64 12] else .tuple #[i64 lo, i64 hi, i64 0]
theorem known_local {L n c : Nat} {f : Nat → Nat} {g : Nat → Bool} (hL : L < 7) (hn : n < 20) (F : FitR L n f) : Local Tryz.prog 1 16 [i64 L, smallS 0 n c] (hp [viewR n f g]) fun v' _ => v' = knownV (lowN f g n) (highN L f g n) := by
  refine local_of noNum Tryz.func16 (show Tryz.f16.body = some c16 by kernel_rfl) ?_
  refine Runs.sqR mixed hkU [] (by kernel_rfl) (by kernel_rfl) (by kernel_rfl) oblN ?_
  refine Runs.sq (by kernel_rfl) (Runs.sqR mixed hkU [viaC 2 43 [i64 L, smallS 0 n c] (i64 0)] (by kernel_rfl) (by kernel_rfl) (by kernel_rfl) (oblC (shown_callE (h0 := hp [viewR n f g]) (by kernel_rfl) (by kernel_rfl) (checked_says hL hn F)) oblN) ?_)
  refine Runs.sqR mixed hkU [] (by kernel_rfl) (by kernel_rfl) (by kernel_rfl) oblN ?_
  refine Runs.cd (b := false) (by kernel_rfl) (fun h => by cases h) (fun _ => Runs.now (x := .normal) (by kernel_rfl) ?_)
  show Runs Tryz.prog 1 _ _ _
  refine Runs.sqR mixed hkU [] (by kernel_rfl) (by kernel_rfl) (by kernel_rfl) oblN ?_
  refine Runs.sq (by kernel_rfl) (Runs.sqR mixed hkU [] (by kernel_rfl) (by kernel_rfl) (by kernel_rfl) oblN (Runs.bk (id := 0) (by kernel_rfl) ?_))
  show Runs Tryz.prog 1 lp16 _ _
  refine Runs.less (af1 := sth (S16 L n c f g 0) 40 [viewR n f g]) (less_seenP (clo_all (k := 1) (by kernel_rfl)) viewR1 (Nat.le_refl 1) (by kernel_rfl) (by kernel_rfl) (by kernel_rfl) (by kernel_rfl)) ?_
  refine (known_loop (c := c) hL hn F n 0 (by omega)).mono fun e af hx => ?_
  obtain ⟨rfl, less⟩ := hx
  show Runs Tryz.prog 1 _ af _
  generalize lowN f g n = lo at less ⊢
  generalize highN L f g n = hi at less ⊢
  unfold knownV
  refine Runs.less less (Runs.sq (by kernel_rfl) (Runs.sqR mixed hkU [] (by kernel_rfl) (by kernel_rfl) (by kernel_rfl) oblN ?_))
  refine Runs.cd (b := ltF (.ofNat hi) (.ofNat lo)) (by kernel_rfl) (fun ht => ?_) (fun hf => Runs.now (x := .normal) (by kernel_rfl) ?_)
  · have ht : Nat.blt hi lo = true := ht
    rw [if_pos ht]
    exact Runs.sqR mixed hkU [] (by kernel_rfl) (by kernel_rfl) (by kernel_rfl) oblN (Runs.now (x := .ret) (by kernel_rfl) ⟨.inr rfl, [i64 0, i64 0, i64 12], by kernel_rfl, rfl⟩)
  · have hf : Nat.blt hi lo = false := hf
    rw [if_neg (by rw [hf]; exact Bool.false_ne_true)]
    show Runs Tryz.prog 1 _ _ _
    exact Runs.sqR mixed hkU [] (by kernel_rfl) (by kernel_rfl) (by kernel_rfl) oblN (Runs.now (x := .ret) (by kernel_rfl) ⟨.inr rfl, [i64 lo, i64 hi, i64 0], by kernel_rfl, rfl⟩)
theorem argL_ok (L : Nat) : ArgC 1 (c1A [i64 L] []) := c1A_ok (fun v h => by rw [List.mem_singleton.1 h]; rfl) (fun v h => by cases h)
theorem known_says {L n : Nat} {f : Nat → Nat} {g : Nat → Bool} (hL : L < 7) (hn : n < 20) (F : FitR L n f) {h : AH} {s : Value} {i o : Nat} (hs : Sees h ⟨i, o, n, resC n f g⟩ s) :
    Says Tryz.prog h 16 [i64 L, s] (knownV (lowN f g n) (highN L f g n)) h :=
  tellF (C := c1A [i64 L] []) (vs := [⟨i, o, n, resC n f g⟩]) (ss := [s]) (argL_ok L) rfl (fun caps hc => by
    obtain ⟨cap, rfl, hle⟩ := fits1 hc
    exact known_local hL hn F) (fun v' _ r => r) (fun μ μ' x hx => flat_any hx (by unfold knownV; split <;> rfl)) ⟨hs, trivial⟩

/-! ### Why -/
noncomputable def cellR (x : Nat) (a : Bool) : AObj := .cells [i64 x, .bool a] true [] (some 57)
theorem cellR_clo {k x : Nat} {a : Bool} : CloO k (cellR x a) := cloO_plain (fun v hv => by simp only [List.mem_cons, List.mem_nil_iff, or_false] at hv; rcases hv with rfl | rfl <;> rfl) _ _
noncomputable def whyB (x : Nat) (a : Bool) (y : Nat) (b : Bool) : Bool := !(a == b) && (Nat.beq x y || (a == Nat.blt x y))
noncomputable def c45 : Code := bodyOf Tryz.f45
theorem why1_says {n x y : Nat} {a b : Bool} {f : Nat → Nat} {g : Nat → Bool} : Says Tryz.prog (hp [viewR n f g, cellR x a]) 45 [agR y b, ptrV 1] (.bool (whyB x a y b)) (hp [viewR n f g, cellR x a]) := by
  refine says_of (os := [viewR n f g, cellR x a]) ?_ (fun v hv => ?_) (os2_clo cellR_clo) (clo_plain rfl)
  · show Local Tryz.prog 2 45 _ _ _
    refine local_of noNum Tryz.func45 (show Tryz.f45.body = some c45 by kernel_rfl) ?_
    refine Runs.sqR mixed hkU [] (by kernel_rfl) (by kernel_rfl) (by kernel_rfl) oblN ?_
    have keep : ∀ {h : AH}, h.get 0 = viewR n f g → h.get 1 = cellR x a → ∀ (j : Nat) z, [viewR n f g, cellR x a][j]? = some z → h.get j = z := fun {h} e0 e1 j z hz => by
      match j, hz with
      | 0, hz => cases hz; exact e0
      | 1, hz => cases hz; exact e1
      | j + 2, hz => cases hz
    have fin : ∀ (z : Bool) (af : AF), z = whyB x a y b → resultsA Tryz.prog af.tm af.h Tryz.f45.results.toList = some [.bool z] → af.h.get 0 = viewR n f g → af.h.get 1 = cellR x a →
        EndsAs Tryz.prog Tryz.f45 (Holds [viewR n f g, cellR x a] (.bool (whyB x a y b))) .ret af := by
      intro z af hz hr h0 h1
      exact ⟨.inr rfl, [.bool z], hr, by rw [← hz]; rfl, keep h0 h1⟩
    cases a with
    | true => cases b with
      | true => exact Runs.sqR mixed hkU [] (by kernel_rfl) (by kernel_rfl) (by kernel_rfl) oblN (Runs.now (x := .ret) (by kernel_rfl) (fin false _ rfl (by kernel_rfl) (by kernel_rfl) (by kernel_rfl)))
      | false => cases he : Nat.beq x y with
        | true => exact Runs.sqR mixed hkU [viaV 10 (.bool true)] (by kernel_rfl) (by kernel_rfl) (by kernel_rfl) (oblC (shown_eq (v := .bool (Nat.beq x y)) (by kernel_rfl) (by kernel_rfl) (by rw [he])) oblN) (Runs.now (x := .ret) (by kernel_rfl) (fin true _ (by unfold whyB; rw [he]; rfl) (by kernel_rfl) (by kernel_rfl) (by kernel_rfl)))
        | false => exact Runs.sqR mixed hkU [viaV 10 (.bool false)] (by kernel_rfl) (by kernel_rfl) (by kernel_rfl) (oblC (shown_eq (v := .bool (Nat.beq x y)) (by kernel_rfl) (by kernel_rfl) (by rw [he])) oblN) (Runs.now (x := .ret) (by kernel_rfl) (fin (true == Nat.blt x y) _ (by unfold whyB; rw [he]; rfl) (by kernel_rfl) (by kernel_rfl) (by kernel_rfl)))
    | false => cases b with
      | false => exact Runs.sqR mixed hkU [] (by kernel_rfl) (by kernel_rfl) (by kernel_rfl) oblN (Runs.now (x := .ret) (by kernel_rfl) (fin false _ rfl (by kernel_rfl) (by kernel_rfl) (by kernel_rfl)))
      | true => cases he : Nat.beq x y with
        | true => exact Runs.sqR mixed hkU [viaV 10 (.bool true)] (by kernel_rfl) (by kernel_rfl) (by kernel_rfl) (oblC (shown_eq (v := .bool (Nat.beq x y)) (by kernel_rfl) (by kernel_rfl) (by rw [he])) oblN) (Runs.now (x := .ret) (by kernel_rfl) (fin true _ (by unfold whyB; rw [he]; rfl) (by kernel_rfl) (by kernel_rfl) (by kernel_rfl)))
        | false => exact Runs.sqR mixed hkU [viaV 10 (.bool false)] (by kernel_rfl) (by kernel_rfl) (by kernel_rfl) (oblC (shown_eq (v := .bool (Nat.beq x y)) (by kernel_rfl) (by kernel_rfl) (by rw [he])) oblN) (Runs.now (x := .ret) (by kernel_rfl) (fin (false == Nat.blt x y) _ (by unfold whyB; rw [he]; rfl) (by kernel_rfl) (by kernel_rfl) (by kernel_rfl)))
  · simp only [List.mem_cons, List.mem_nil_iff, or_false] at hv
    rcases hv with rfl | rfl
    · exact clo_of 10 _ _ (by kernel_rfl)
    · exact clo_of 10 _ _ (by kernel_rfl)
theorem rest_slice {n c l : Nat} (h1 : l ≤ n) (h2 : n ≤ c) : sliceA Tryz.prog 54 (smallS 0 n c) (some (i64 l)) none none = some (slO (if c = l then 0 else l) (n - l) (c - l)) := by
  have e1 : Tryz.prog.underlying 54 = some (.slice 57) := by kernel_rfl
  obtain ⟨info, e2, e3⟩ : ∃ info, Tryz.prog.info? 57 = some info ∧ info.size = 2 := ⟨(Tryz.prog.info? 57).get!, by kernel_rfl, by kernel_rfl⟩
  have e4 : boundsA n c (some (i64 l)) none none = some (l, n, c) := by
    unfold boundsA
    simp only [boundA]
    have q : (0 : Int) ≤ (Int.ofNat l) ∧ (Int.ofNat l) ≤ (n : Int) := ⟨Int.natCast_nonneg l, Int.ofNat_le.2 h1⟩
    show (match (if (0 : Int) ≤ Int.ofNat l ∧ Int.ofNat l ≤ (n : Int) then some (Int.ofNat l).toNat else none) with
      | none => none
      | some l => if n ≤ c then some (l, n, c) else none) = _
    rw [if_pos q]
    show (if n ≤ c then some (l, n, c) else none) = _
    rw [if_pos h2]
  unfold smallS sliceA slO
  simp only [e1, e2, e4, e3]
  unfold cutAt
  by_cases hc : c = l
  · rw [if_pos hc, if_pos hc, Nat.zero_mul]
  · rw [if_neg hc, if_neg hc]
    show some (Value.slice (some ⟨0, 0 + l * 2, none⟩) (n - l) (c - l)) = _
    rw [Nat.zero_add]

/-- The first two results that contradict each other. -/
noncomputable def whyC (f : Nat → Nat) (g : Nat → Bool) (i j : Nat) : Bool := whyB (f i) (g i) (f j) (g j)
noncomputable def whyP (C : Nat → Nat → Bool) (n : Nat) : Nat → Nat → Option (Nat × Nat)
  | 0, _ => none
  | d + 1, i => if firstP (fun j => C i (i + 1 + j)) (n - (i + 1)) (n - (i + 1)) 0 < n - (i + 1) then some (i, i + 1 + firstP (fun j => C i (i + 1 + j)) (n - (i + 1)) (n - (i + 1)) 0) else whyP C n d (i + 1)
noncomputable def c17 : Code := bodyOf Tryz.f17
noncomputable def lp17 : Code := within (tl (hd (behind 2 c17)))
noncomputable def S17 (n c i : Nat) : List (Nat × Value) := [(1, smallS 0 n c), (17, smallS 0 n c), (18, i64 n), (19, i64 i)]
theorem why_loop {n c : Nat} {f : Nat → Nat} {g : Nat → Bool} (hn : n < 20) (hc : n ≤ c) : ∀ d i, i + d = n → whyP (whyC f g) n d i ≠ none →
    Runs Tryz.prog 1 lp17 (sth (S17 n c i) 38 [viewR n f g]) fun e af => e = .ret ∧ ∃ x y, whyP (whyC f g) n d i = some (x, y) ∧ EndsAs Tryz.prog Tryz.f17 (fun v' _ => v' = .tuple #[i64 x, i64 y, i64 0]) .ret af := by
  intro d
  induction d with
  | zero => intro i hi h; exact absurd rfl h
  | succ d ih =>
    intro i hi hw
    have hlt : i < n := by omega
    let o : Nat := if c = i + 1 then 0 else i + 1
    let m : Nat := n - (i + 1)
    let p : Nat → Bool := fun j => whyC f g i (o + j)
    have hom : o + m ≤ n := by show (if c = i + 1 then 0 else i + 1) + (n - (i + 1)) ≤ n; split <;> omega
    have hS : Says Tryz.prog (hp [viewR n f g, cellR (f i) (g i)]) 44 [slO o m (c - (i + 1)), cloV 45] (idxV p m) (hp [viewR n f g, cellR (f i) (g i)]) := index_says cellR_clo p (by omega) hom (fun j hj => why1_says)
    have hsl : sliceA Tryz.prog 54 (smallS 0 n c) (some (i64 (i + 1))) none none = some (slO o m (c - (i + 1))) := rest_slice (by omega) hc
    have same : firstP p m m 0 = firstP (fun j => whyC f g i (i + 1 + j)) m m 0 := by
      by_cases hci : c = i + 1
      · have hm0 : m = 0 := by show n - (i + 1) = 0; omega
        rw [hm0]; rfl
      · have ho : o = i + 1 := if_neg hci
        have ep : p = fun j => whyC f g i (i + 1 + j) := by funext j; show whyC f g i (o + j) = _; rw [ho]
        rw [ep]
    have w1 : wrapF .i64 (Int.add (.ofNat i) (.ofNat 1)) = .ofNat (i + 1) := wrap_succ (by omega)
    have eW : whyP (whyC f g) n (d + 1) i = if firstP p m m 0 < m then some (i, i + 1 + firstP p m m 0) else whyP (whyC f g) n d (i + 1) := by rw [same]; rfl
    have hmn : m ≤ n := Nat.sub_le _ _
    rw [eW] at hw ⊢
    unfold idxV at hS
    clear_value o m
    refine Runs.lp (by kernel_rfl) (Runs.sqR mixed hkU [] (by kernel_rfl) (by kernel_rfl) (by kernel_rfl) oblN (Runs.sq (by kernel_rfl) ?_))
    refine Runs.cd (b := ltF (.ofNat i) (.ofNat n)) (by kernel_rfl) (fun _ => Runs.now (x := .normal) (by kernel_rfl) ?_) (fun hf => by rw [lt_of hlt] at hf; cases hf)
    show Runs Tryz.prog 1 _ _ _
    refine Runs.sq (by kernel_rfl) (Runs.bk (id := 1) (by kernel_rfl) ?_)
    refine Runs.sqR mixed hkU [viaV 1 (.pointer (some ⟨0, 0 + i * 2, none⟩)), viaV 2 (agR (f i) (g i))] (by kernel_rfl) (by kernel_rfl) (by kernel_rfl)
      (oblC (shown_idx (n := n) (by kernel_rfl) hlt) (oblC (shown_agg (by kernel_rfl) (show rowAt? _ 0 (0 + i * 2) 2 = some [i64 (f i), .bool (g i)] by
        have := resC_at (h := hp [viewR n f g]) (q := 0) (o := 0) (i := i) (n := n) (f := f) (g := g) (lv := false) (par := []) (ty := none) (by kernel_rfl) (by omega)
        rwa [Nat.zero_mul, Nat.zero_add i] at this)) oblN)) ?_
    by_cases hfound : firstP p m m 0 < m
    · rw [if_pos hfound] at hS hw ⊢
      generalize firstP p m m 0 = k at hS hfound ⊢
      refine Runs.sqR mixed hkU [viaV 2 (i64 (i + 1)), viaV 3 (slO o m (c - (i + 1))), viaC 5 44 [slO o m (c - (i + 1)), cloV 45] (i64 k)] (by kernel_rfl) (by kernel_rfl) (by kernel_rfl)
        (oblC (shown_eq (v := .int .i64 (wrapF .i64 (Int.add (.ofNat i) (.ofNat 1)))) (by kernel_rfl) (by kernel_rfl) (by rw [w1]; rfl))
        (oblC ⟨by kernel_rfl, (show _ = (sliceA Tryz.prog 54 (smallS 0 n c) (some (i64 (i + 1))) none none).map (·, _) by kernel_rfl).trans (by rw [hsl]; rfl)⟩ (oblC (shown_callE (h0 := hp [viewR n f g, cellR (f i) (g i)]) (by kernel_rfl) (by kernel_rfl) hS) oblN))) ?_
      refine Runs.sqR mixed hkU [] (by kernel_rfl) (by kernel_rfl) (by kernel_rfl) oblN ?_
      have hge : leF (.ofNat 0) (.ofNat k) = true := by rw [leF_eq, decide_eq_true_eq]; exact Int.natCast_nonneg k
      refine Runs.cd (b := leF (.ofNat 0) (.ofNat k)) (by kernel_rfl) (fun _ => ?_) (fun hf => by rw [hge] at hf; cases hf)
      have w2 : wrapF .i64 (Int.add (.ofNat (i + 1)) (.ofNat k)) = .ofNat (i + 1 + k) := wrap_ofNat (by omega)
      refine Runs.sqR mixed hkU [viaV 2 (i64 (i + 1)), viaV 4 (i64 (i + 1 + k))] (by kernel_rfl) (by kernel_rfl) (by kernel_rfl)
        (oblC (shown_eq (v := .int .i64 (wrapF .i64 (Int.add (.ofNat i) (.ofNat 1)))) (by kernel_rfl) (by kernel_rfl) (by rw [w1]; rfl))
        (oblC (shown_eq (v := .int .i64 (wrapF .i64 (Int.add (.ofNat (i + 1)) (.ofNat k)))) (by kernel_rfl) (by kernel_rfl) (by rw [w2]; rfl)) oblN)) ?_
      exact Runs.now (x := .ret) (by kernel_rfl) ⟨rfl, i, i + 1 + k, rfl, .inr rfl, [i64 i, i64 (i + 1 + k), i64 0], by kernel_rfl, rfl⟩
    · rw [if_neg hfound] at hS hw ⊢
      refine Runs.sqR mixed hkU [viaV 2 (i64 (i + 1)), viaV 3 (slO o m (c - (i + 1))), viaC 5 44 [slO o m (c - (i + 1)), cloV 45] (iZ (.negSucc 0))] (by kernel_rfl) (by kernel_rfl) (by kernel_rfl)
        (oblC (shown_eq (v := .int .i64 (wrapF .i64 (Int.add (.ofNat i) (.ofNat 1)))) (by kernel_rfl) (by kernel_rfl) (by rw [w1]; rfl))
        (oblC ⟨by kernel_rfl, (show _ = (sliceA Tryz.prog 54 (smallS 0 n c) (some (i64 (i + 1))) none none).map (·, _) by kernel_rfl).trans (by rw [hsl]; rfl)⟩ (oblC (shown_callE (h0 := hp [viewR n f g, cellR (f i) (g i)]) (by kernel_rfl) (by kernel_rfl) hS) oblN))) ?_
      refine Runs.sqR mixed hkU [] (by kernel_rfl) (by kernel_rfl) (by kernel_rfl) oblN ?_
      refine Runs.cd (b := false) (by kernel_rfl) (fun hf => by cases hf) (fun _ => Runs.now (x := .normal) (by kernel_rfl) ?_)
      show Runs Tryz.prog 1 _ _ _
      refine Runs.rg mixed hkU [viaV 0 (i64 (i + 1))] (by kernel_rfl) (by kernel_rfl) (by kernel_rfl) (oblC (shown_eq (v := .int .i64 (wrapF .i64 (Int.add (.ofNat i) (.ofNat 1)))) (by kernel_rfl) (by kernel_rfl) (by rw [w1]; rfl)) oblN) ?_
      show Runs Tryz.prog 1 lp17 _ _
      exact Runs.less (af1 := sth (S17 n c (i + 1)) 38 [viewR n f g]) (less_seenP (clo_all (k := 1) (by kernel_rfl)) viewR1 (Nat.le_refl 1) (by kernel_rfl) (by kernel_rfl) (by kernel_rfl) (by kernel_rfl)) (ih (i + 1) (by omega) hw)
theorem why_local {L n c x y : Nat} {f : Nat → Nat} {g : Nat → Bool} (hL : L < 7) (hn : n < 20) (hc : n ≤ c) (F : FitR L n f) (hw : whyP (whyC f g) n n 0 = some (x, y)) : Local Tryz.prog 1 17 [i64 L, smallS 0 n c] (hp [viewR n f g]) fun v' _ => v' = .tuple #[i64 x, i64 y, i64 0] := by
  refine local_of noNum Tryz.func17 (show Tryz.f17.body = some c17 by kernel_rfl) ?_
  refine Runs.sqR mixed hkU [] (by kernel_rfl) (by kernel_rfl) (by kernel_rfl) oblN ?_
  refine Runs.sq (by kernel_rfl) (Runs.sqR mixed hkU [viaC 2 43 [i64 L, smallS 0 n c] (i64 0)] (by kernel_rfl) (by kernel_rfl) (by kernel_rfl) (oblC (shown_callE (h0 := hp [viewR n f g]) (by kernel_rfl) (by kernel_rfl) (checked_says hL hn F)) oblN) ?_)
  refine Runs.sqR mixed hkU [] (by kernel_rfl) (by kernel_rfl) (by kernel_rfl) oblN ?_
  refine Runs.cd (b := false) (by kernel_rfl) (fun h => by cases h) (fun _ => Runs.now (x := .normal) (by kernel_rfl) ?_)
  show Runs Tryz.prog 1 _ _ _
  refine Runs.sq (by kernel_rfl) (Runs.sqR mixed hkU [] (by kernel_rfl) (by kernel_rfl) (by kernel_rfl) oblN (Runs.bk (id := 0) (by kernel_rfl) ?_))
  show Runs Tryz.prog 1 lp17 _ _
  refine Runs.less (af1 := sth (S17 n c 0) 38 [viewR n f g]) (less_seenP (clo_all (k := 1) (by kernel_rfl)) viewR1 (Nat.le_refl 1) (by kernel_rfl) (by kernel_rfl) (by kernel_rfl) (by kernel_rfl)) ?_
  refine (why_loop hn hc n 0 (by omega) (by rw [hw]; exact Option.some_ne_none _)).mono fun e af hx => ?_
  obtain ⟨rfl, x', y', h1, h2⟩ := hx
  rw [hw] at h1
  cases h1
  exact h2
theorem why_says {L n x y : Nat} {f : Nat → Nat} {g : Nat → Bool} (hL : L < 7) (hn : n < 20) (F : FitR L n f) (hw : whyP (whyC f g) n n 0 = some (x, y)) {h : AH} {s : Value} {i o : Nat} (hs : Sees h ⟨i, o, n, resC n f g⟩ s) :
    Says Tryz.prog h 17 [i64 L, s] (.tuple #[i64 x, i64 y, i64 0]) h :=
  tellF (C := c1A [i64 L] []) (vs := [⟨i, o, n, resC n f g⟩]) (ss := [s]) (argL_ok L) rfl (fun caps hc => by
    obtain ⟨cap, rfl, hle⟩ := fits1 hc
    exact why_local hL hn hle F hw) (fun v' _ r => r) (fun μ μ' x hx => flat_any hx rfl) ⟨hs, trivial⟩
end
end Go.Proofs.YtbcjmmbmeebfgaaGreatDoor
