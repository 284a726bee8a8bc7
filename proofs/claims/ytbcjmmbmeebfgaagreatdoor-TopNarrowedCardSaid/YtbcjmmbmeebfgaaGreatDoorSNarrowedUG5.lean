/- Whether a set of galleries leaves no place: the closures of the search for a shortest set. -/
import Derived.Test.YtbcjmmbmeebfgaaGreatDoorSNarrowedUG4
namespace Go.Proofs.YtbcjmmbmeebfgaaGreatDoor
set_option linter.unusedVariables false
set_option linter.unusedSimpArgs false
open Go Go.R
set_option maxRecDepth 1000000
noncomputable section

noncomputable def fnG : Value := .func (.func 48) #[] #[ptrV 2]
noncomputable def boxN (m : Nat) : AObj := .cells [i64 m] true [] (some 3)
noncomputable def goodO : AObj := .cells [fnG] true [] (some 99)
noncomputable def bestO (v : Value) : AObj := .cells [v] true [] (some 37)
noncomputable def isO (b : Bool) : AObj := .cells [.bool b] true [] (some 4)
theorem cloO_one {k : Nat} {v : Value} {lv : Bool} {ty : Option TypeId} (h : Clo k v) : CloO k (.cells [v] lv [] ty) := ⟨fun u hu => by rw [List.mem_singleton.1 hu]; exact h, fun j hj => by cases hj⟩
noncomputable def L4 (k m : Nat) (A B C : Nat → Int) : List AObj := [viewG m A B C, rowAr m A B C, srvO k 1 m, boxN m]
noncomputable def Ln (k m : Nat) (A B C : Nat → Int) : List AObj := [viewG m A B C, rowAr m A B C, srvO k 1 m, boxN m, goodO, bestO (.slice none 0 0), isO false]
noncomputable def Ln1 (k m : Nat) (A B C : Nat → Int) (l : List Nat) : List AObj := [viewG m A B C, rowAr m A B C, srvO k 1 m, boxN m, goodO, bestO (.slice none 0 0), isO false, rowN l]
noncomputable def Lf (k m : Nat) (A B C : Nat → Int) (l : List Nat) : List AObj := [viewG m A B C, rowAr m A B C, srvO k 1 m, boxN m, goodO, bestO (slR 7 l.length), isO true, rowN l]
noncomputable def Lf1 (k m : Nat) (A B C : Nat → Int) (b l : List Nat) : List AObj := [viewG m A B C, rowAr m A B C, srvO k 1 m, boxN m, goodO, bestO (slR 7 b.length), isO true, rowN b, rowN l]
noncomputable def Lf2 (k m : Nat) (A B C : Nat → Int) (b l : List Nat) : List AObj := [viewG m A B C, rowAr m A B C, srvO k 1 m, boxN m, goodO, bestO (slR 8 l.length), isO true, rowN b, rowN l]
theorem slR_clo {k i n : Nat} (h : i < k) : Clo k (slR i n) := clo_of 10 k _ (by
  show (plainV _ || Nat.blt i k) = true
  rw [Bool.or_eq_true]; exact .inr (by rw [Nat.blt_eq]; exact h))
theorem l4_clo {k m : Nat} {A B C : Nat → Int}  : ∀ o ∈ (L4 k m A B C), CloO 4 o := fun o ho => by
  simp only [L4, List.mem_cons, List.mem_nil_iff, or_false] at ho
  rcases ho with rfl | rfl | rfl | rfl
  · exact viewG_clo
  · exact rowAr_clo
  · exact srvO_clo (by decide)
  · exact cloO_one (clo_plain rfl)
theorem ln_clo {k m : Nat} {A B C : Nat → Int}  : ∀ o ∈ (Ln k m A B C), CloO 7 o := fun o ho => by
  simp only [Ln, List.mem_cons, List.mem_nil_iff, or_false] at ho
  rcases ho with rfl | rfl | rfl | rfl | rfl | rfl | rfl
  · exact viewG_clo
  · exact rowAr_clo
  · exact srvO_clo (by decide)
  · exact cloO_one (clo_plain rfl)
  · exact cloO_one (clo_of 10 _ _ (by kernel_rfl))
  · exact cloO_one (clo_plain rfl)
  · exact cloO_one (clo_plain rfl)
theorem ln1_clo {k m : Nat} {A B C : Nat → Int} {l : List Nat} : ∀ o ∈ (Ln1 k m A B C l), CloO 8 o := fun o ho => by
  simp only [Ln1, List.mem_cons, List.mem_nil_iff, or_false] at ho
  rcases ho with rfl | rfl | rfl | rfl | rfl | rfl | rfl | rfl
  · exact viewG_clo
  · exact rowAr_clo
  · exact srvO_clo (by decide)
  · exact cloO_one (clo_plain rfl)
  · exact cloO_one (clo_of 10 _ _ (by kernel_rfl))
  · exact cloO_one (clo_plain rfl)
  · exact cloO_one (clo_plain rfl)
  · exact rowN_clo
theorem lf_clo {k m : Nat} {A B C : Nat → Int} {l : List Nat} : ∀ o ∈ (Lf k m A B C l), CloO 8 o := fun o ho => by
  simp only [Lf, List.mem_cons, List.mem_nil_iff, or_false] at ho
  rcases ho with rfl | rfl | rfl | rfl | rfl | rfl | rfl | rfl
  · exact viewG_clo
  · exact rowAr_clo
  · exact srvO_clo (by decide)
  · exact cloO_one (clo_plain rfl)
  · exact cloO_one (clo_of 10 _ _ (by kernel_rfl))
  · exact cloO_one (slR_clo (by decide))
  · exact cloO_one (clo_plain rfl)
  · exact rowN_clo
theorem lf1_clo {k m : Nat} {A B C : Nat → Int} {b l : List Nat} : ∀ o ∈ (Lf1 k m A B C b l), CloO 9 o := fun o ho => by
  simp only [Lf1, List.mem_cons, List.mem_nil_iff, or_false] at ho
  rcases ho with rfl | rfl | rfl | rfl | rfl | rfl | rfl | rfl | rfl
  · exact viewG_clo
  · exact rowAr_clo
  · exact srvO_clo (by decide)
  · exact cloO_one (clo_plain rfl)
  · exact cloO_one (clo_of 10 _ _ (by kernel_rfl))
  · exact cloO_one (slR_clo (by decide))
  · exact cloO_one (clo_plain rfl)
  · exact rowN_clo
  · exact rowN_clo
theorem lf2_clo {k m : Nat} {A B C : Nat → Int} {b l : List Nat} : ∀ o ∈ (Lf2 k m A B C b l), CloO 9 o := fun o ho => by
  simp only [Lf2, List.mem_cons, List.mem_nil_iff, or_false] at ho
  rcases ho with rfl | rfl | rfl | rfl | rfl | rfl | rfl | rfl | rfl
  · exact viewG_clo
  · exact rowAr_clo
  · exact srvO_clo (by decide)
  · exact cloO_one (clo_plain rfl)
  · exact cloO_one (clo_of 10 _ _ (by kernel_rfl))
  · exact cloO_one (slR_clo (by decide))
  · exact cloO_one (clo_plain rfl)
  · exact rowN_clo
  · exact rowN_clo

/-- Whether the galleries of a set leave no place. -/
noncomputable def regS (k : Nat) (A B C : Nat → Int) (s : Nat) : Nat := regN (fun i => areaN (A i) (B i) (C i)) (gridN k) (bitsN s)
noncomputable def goodN (k : Nat) (A B C : Nat → Int) (s : Nat) : Bool := eqF (.ofNat (regS k A B C s)) (.ofNat 0)
noncomputable def c48 : Code := bodyOf Tryz.f48
theorem reg_any {k m s : Nat} {A B C : Nat → Int} (hk7 : k < 8) (hm : m < 64) (hs : s < 2 ^ m) {h : AH} {t : Value} {i o : Nat} (ht : Sees h ⟨i, o, m, valsZ m (areaV A B C)⟩ t) : Says Tryz.prog h 37 [srvV t (gridN k), u64 s] (u64 (regS k A B C s)) h :=
  region_says (m := m) (g := gridN k) (s := s) (a := fun i => areaN (A i) (B i) (C i)) (grid_lt hk7) (fun i _ => areaN_lt _ _ _) (Nat.lt_trans hs (full_eq hm).2.2) (fun x hx => by
    rcases Nat.lt_or_ge x m with h | h
    · exact h
    · have h1 := (mem_bits.1 hx).2
      have : s.testBit x = false := Nat.testBit_lt_two_pow (Nat.lt_of_lt_of_le hs (Nat.pow_le_pow_right (by decide) h))
      rw [this] at h1; cases h1) ht
theorem bits_says {s : Nat} (hs : s < 18446744073709551616) {h : AH} {q : Nat} (e : h.get q = rowN (bitsN s)) : Says Tryz.prog h 49 [slR q (bitsN s).length] (u64 s) h := by
  have hb := bits_len s
  have := bitsOf_says (l := bitsN s) (fun x hx => (mem_bits.1 hx).1) (by omega) (sees_row (z := 0) (n := (bitsN s).length) e (natsC_plain _))
  rwa [orN_bits hs] at this
theorem good_nil {k m : Nat} {A B C : Nat → Int} (hk7 : k < 8) (hm : m < 64) (hs : 0 < 2 ^ m) : Says Tryz.prog (hp (Ln k m A B C)) 48 [.slice none 0 0, ptrV 2] (.bool (goodN k A B C 0)) (hp (Ln k m A B C)) := by
  refine says_of (os := Ln k m A B C) ?_ (fun x hx => ?_) ln_clo (clo_plain rfl)
  · show Local Tryz.prog 7 48 _ _ _
    refine local_of noNum Tryz.func48 (show Tryz.f48.body = some c48 by kernel_rfl) ?_
    refine Runs.sqR mixed hkU [] (by kernel_rfl) (by kernel_rfl) (by kernel_rfl) oblN ?_
    have h64 : 0 < 18446744073709551616 := Nat.lt_trans hs (full_eq hm).2.2
    refine Runs.sq (by kernel_rfl) ?_
    refine Runs.rgD mixed hkU [viaC 2 49 [.slice none 0 0] (u64 0), viaC 3 37 [srvV (slR 1 m) (gridN k), u64 0] (u64 (regS k A B C 0))] [(0, 3)] (by kernel_rfl) (by kernel_rfl) (by kernel_rfl) (by kernel_rfl)
      (oblC (shown_call (by kernel_rfl) (bitsOf_none _)) (oblC (shown_call (by kernel_rfl) (reg_any hk7 hm hs (sees_row (lv := true) (par := []) (ty := some 83) (by kernel_rfl) (valsZ_plain (area_plain A B C m))))) oblN))
      (dynC (dyn_at (d := 4) (v := srvV (slR 1 m) (gridN k)) (by kernel_rfl) (by kernel_rfl) (by kernel_rfl)) dynN) ?_
    show Runs Tryz.prog 7 _ _ _
    exact Runs.now (x := .ret) (by kernel_rfl) ⟨.inr rfl, [.bool (goodN k A B C 0)], by kernel_rfl, rfl, keepOf (by kernel_rfl)⟩
  · simp only [List.mem_cons, List.mem_nil_iff, or_false] at hx
    rcases hx with rfl | rfl
    · exact clo_plain rfl
    · exact clo_of 10 _ _ (by kernel_rfl)
theorem good_n {k m s : Nat} {A B C : Nat → Int} (hk7 : k < 8) (hm : m < 64) (hs : s < 2 ^ m) : Says Tryz.prog (hp (Ln1 k m A B C (bitsN s))) 48 [slR 7 (bitsN s).length, ptrV 2] (.bool (goodN k A B C s)) (hp (Ln1 k m A B C (bitsN s))) := by
  refine says_of (os := Ln1 k m A B C (bitsN s)) ?_ (fun x hx => ?_) ln1_clo (clo_plain rfl)
  · show Local Tryz.prog 8 48 _ _ _
    refine local_of noNum Tryz.func48 (show Tryz.f48.body = some c48 by kernel_rfl) ?_
    refine Runs.sqR mixed hkU [] (by kernel_rfl) (by kernel_rfl) (by kernel_rfl) oblN ?_
    have h64 : s < 18446744073709551616 := Nat.lt_trans hs (full_eq hm).2.2
    refine Runs.sq (by kernel_rfl) ?_
    refine Runs.rgD mixed hkU [viaC 2 49 [slR 7 (bitsN s).length] (u64 s), viaC 3 37 [srvV (slR 1 m) (gridN k), u64 s] (u64 (regS k A B C s))] [(0, 3)] (by kernel_rfl) (by kernel_rfl) (by kernel_rfl) (by kernel_rfl)
      (oblC (shown_call (by kernel_rfl) (bits_says h64 (by kernel_rfl))) (oblC (shown_call (by kernel_rfl) (reg_any hk7 hm hs (sees_row (lv := true) (par := []) (ty := some 83) (by kernel_rfl) (valsZ_plain (area_plain A B C m))))) oblN))
      (dynC (dyn_at (d := 4) (v := srvV (slR 1 m) (gridN k)) (by kernel_rfl) (by kernel_rfl) (by kernel_rfl)) dynN) ?_
    show Runs Tryz.prog 8 _ _ _
    exact Runs.now (x := .ret) (by kernel_rfl) ⟨.inr rfl, [.bool (goodN k A B C s)], by kernel_rfl, rfl, keepOf (by kernel_rfl)⟩
  · simp only [List.mem_cons, List.mem_nil_iff, or_false] at hx
    rcases hx with rfl | rfl
    · exact slR_clo (by show 7 < 8; decide)
    · exact clo_of 10 _ _ (by kernel_rfl)
theorem good_f {k m s : Nat} {A B C : Nat → Int} {b : List Nat} (hk7 : k < 8) (hm : m < 64) (hs : s < 2 ^ m) : Says Tryz.prog (hp (Lf1 k m A B C b (bitsN s))) 48 [slR 8 (bitsN s).length, ptrV 2] (.bool (goodN k A B C s)) (hp (Lf1 k m A B C b (bitsN s))) := by
  refine says_of (os := Lf1 k m A B C b (bitsN s)) ?_ (fun x hx => ?_) lf1_clo (clo_plain rfl)
  · show Local Tryz.prog 9 48 _ _ _
    refine local_of noNum Tryz.func48 (show Tryz.f48.body = some c48 by kernel_rfl) ?_
    refine Runs.sqR mixed hkU [] (by kernel_rfl) (by kernel_rfl) (by kernel_rfl) oblN ?_
    have h64 : s < 18446744073709551616 := Nat.lt_trans hs (full_eq hm).2.2
    refine Runs.sq (by kernel_rfl) ?_
    refine Runs.rgD mixed hkU [viaC 2 49 [slR 8 (bitsN s).length] (u64 s), viaC 3 37 [srvV (slR 1 m) (gridN k), u64 s] (u64 (regS k A B C s))] [(0, 3)] (by kernel_rfl) (by kernel_rfl) (by kernel_rfl) (by kernel_rfl)
      (oblC (shown_call (by kernel_rfl) (bits_says h64 (by kernel_rfl))) (oblC (shown_call (by kernel_rfl) (reg_any hk7 hm hs (sees_row (lv := true) (par := []) (ty := some 83) (by kernel_rfl) (valsZ_plain (area_plain A B C m))))) oblN))
      (dynC (dyn_at (d := 4) (v := srvV (slR 1 m) (gridN k)) (by kernel_rfl) (by kernel_rfl) (by kernel_rfl)) dynN) ?_
    show Runs Tryz.prog 9 _ _ _
    exact Runs.now (x := .ret) (by kernel_rfl) ⟨.inr rfl, [.bool (goodN k A B C s)], by kernel_rfl, rfl, keepOf (by kernel_rfl)⟩
  · simp only [List.mem_cons, List.mem_nil_iff, or_false] at hx
    rcases hx with rfl | rfl
    · exact slR_clo (by show 8 < 9; decide)
    · exact clo_of 10 _ _ (by kernel_rfl)
end
end Go.Proofs.YtbcjmmbmeebfgaaGreatDoor

/- One step of the search for a shortest set. -/
namespace Go.Proofs.YtbcjmmbmeebfgaaGreatDoor
set_option linter.unusedVariables false
set_option linter.unusedSimpArgs false
open Go Go.R
set_option maxRecDepth 1000000
noncomputable section
noncomputable def c66 : Code := bodyOf Tryz.f66
noncomputable def arg66 (s : Value) : List Value := [s, ptrV 6, ptrV 5, ptrV 4]
theorem arg66_clo {k : Nat} {s : Value} (h : Clo k s) (hk : 7 ≤ k) : ∀ x ∈ arg66 s, Clo k x := fun x hx => by
  have hp : ∀ i, i < 7 → Clo k (ptrV i) := fun i hi => clo_of 10 k _ (by
    show (plainV _ || Nat.blt i k) = true
    rw [Bool.or_eq_true]; exact .inr (by rw [Nat.blt_eq]; omega))
  simp only [arg66, List.mem_cons, List.mem_nil_iff, or_false] at hx
  rcases hx with rfl | rfl | rfl | rfl
  · exact h
  · exact hp 6 (by decide)
  · exact hp 5 (by decide)
  · exact hp 4 (by decide)
/-- Whether a set comes ahead of another. -/
noncomputable def cndN (t s : Nat) : Bool := ltF (.ofNat (bitsN s).length) (.ofNat (bitsN t).length) || (eqF (.ofNat (bitsN s).length) (.ofNat (bitsN t).length) && ltF (cmpF (bitsN s) (bitsN t)) 0)
noncomputable def stepN (k : Nat) (A B C : Nat → Int) (st : Option Nat) (s : Nat) : Option Nat := match st with
  | none => if goodN k A B C s then some s else none
  | some t => if cndN t s && goodN k A B C s then some s else some t

theorem step_nil {k m : Nat} {A B C : Nat → Int} (hk7 : k < 8) (hm : m < 64) (hg : goodN k A B C 0 = false) : Says Tryz.prog (hp (Ln k m A B C)) 66 (arg66 (.slice none 0 0)) (.bool true) (hp (Ln k m A B C)) := by
  refine says_of (os := Ln k m A B C) ?_ (arg66_clo (clo_plain rfl) (by show 7 ≤ 7; decide)) ln_clo (clo_plain rfl)
  · show Local Tryz.prog 7 66 _ _ _
    refine local_of noNum Tryz.func66 (show Tryz.f66.body = some c66 by kernel_rfl) ?_
    refine Runs.sqR mixed hkU [] (by kernel_rfl) (by kernel_rfl) (by kernel_rfl) oblN ?_
    refine Runs.sq (by kernel_rfl) (Runs.sqR mixed hkU [viaC 25 48 [.slice none 0 0, ptrV 2] (.bool false)] (by kernel_rfl) (by kernel_rfl) (by kernel_rfl) (oblC (shown_callE (by kernel_rfl) (by kernel_rfl) (hg ▸ good_nil hk7 hm (Nat.two_pow_pos m))) oblN) ?_)
    refine Runs.cd (b := false) (by kernel_rfl) (fun h => by cases h) (fun _ => Runs.now (x := .normal) (by kernel_rfl) ?_)
    show Runs Tryz.prog 7 _ _ _
    exact Runs.sqR mixed hkU [] (by kernel_rfl) (by kernel_rfl) (by kernel_rfl) oblN (Runs.now (x := .ret) (by kernel_rfl) ⟨.inr rfl, [.bool true], by kernel_rfl, rfl, keepOf (by kernel_rfl)⟩)
theorem step_nt {k m s : Nat} {A B C : Nat → Int} (hk7 : k < 8) (hm : m < 64) (hs : s < 2 ^ m) (hg : goodN k A B C s = true) : Says Tryz.prog (hp (Ln1 k m A B C (bitsN s))) 66 (arg66 (slR 7 (bitsN s).length)) (.bool true) (hp (Lf k m A B C (bitsN s))) := by
  refine says_put (os0 := Ln1 k m A B C (bitsN s)) (os := Lf k m A B C (bitsN s)) rfl ?_ (arg66_clo (slR_clo (by show 7 < 8; decide)) (by show 7 ≤ 8; decide)) ln1_clo lf_clo (clo_plain rfl) (fun j o o' h0 h1 => ?_)
  · show Local Tryz.prog 8 66 _ _ _
    refine local_of noNum Tryz.func66 (show Tryz.f66.body = some c66 by kernel_rfl) ?_
    refine Runs.sqR mixed hkU [] (by kernel_rfl) (by kernel_rfl) (by kernel_rfl) oblN ?_
    refine Runs.sq (by kernel_rfl) (Runs.sqR mixed hkU [viaC 25 48 [slR 7 (bitsN s).length, ptrV 2] (.bool true)] (by kernel_rfl) (by kernel_rfl) (by kernel_rfl) (oblC (shown_callE (by kernel_rfl) (by kernel_rfl) (hg ▸ good_n hk7 hm hs)) oblN) ?_)
    refine Runs.cd (b := true) (by kernel_rfl) (fun _ => ?_) (fun h => by cases h)
    refine Runs.rg mixed hkU [] (by kernel_rfl) (by kernel_rfl) (by kernel_rfl) oblN ?_
    show Runs Tryz.prog 8 _ _ _
    exact Runs.sqR mixed hkU [] (by kernel_rfl) (by kernel_rfl) (by kernel_rfl) oblN (Runs.now (x := .ret) (by kernel_rfl) ⟨.inr rfl, [.bool true], by kernel_rfl, rfl, keepOf (by kernel_rfl)⟩)
  · match j, h0, h1 with
    | 0, h0, h1 | 1, h0, h1 | 2, h0, h1 | 3, h0, h1 | 4, h0, h1 | 7, h0, h1 => cases h0; cases h1; exact .inl rfl
    | 5, h0, h1 | 6, h0, h1 => cases h0; exact .inr rfl
    | j + 8, h0, h1 => cases h0
theorem step_nf {k m s : Nat} {A B C : Nat → Int} (hk7 : k < 8) (hm : m < 64) (hs : s < 2 ^ m) (hg : goodN k A B C s = false) : Says Tryz.prog (hp (Ln1 k m A B C (bitsN s))) 66 (arg66 (slR 7 (bitsN s).length)) (.bool true) (hp (Ln1 k m A B C (bitsN s))) := by
  refine says_of (os := Ln1 k m A B C (bitsN s)) ?_ (arg66_clo (slR_clo (by show 7 < 8; decide)) (by show 7 ≤ 8; decide)) ln1_clo (clo_plain rfl)
  · show Local Tryz.prog 8 66 _ _ _
    refine local_of noNum Tryz.func66 (show Tryz.f66.body = some c66 by kernel_rfl) ?_
    refine Runs.sqR mixed hkU [] (by kernel_rfl) (by kernel_rfl) (by kernel_rfl) oblN ?_
    refine Runs.sq (by kernel_rfl) (Runs.sqR mixed hkU [viaC 25 48 [slR 7 (bitsN s).length, ptrV 2] (.bool false)] (by kernel_rfl) (by kernel_rfl) (by kernel_rfl) (oblC (shown_callE (by kernel_rfl) (by kernel_rfl) (hg ▸ good_n hk7 hm hs)) oblN) ?_)
    refine Runs.cd (b := false) (by kernel_rfl) (fun h => by cases h) (fun _ => Runs.now (x := .normal) (by kernel_rfl) ?_)
    show Runs Tryz.prog 8 _ _ _
    exact Runs.sqR mixed hkU [] (by kernel_rfl) (by kernel_rfl) (by kernel_rfl) oblN (Runs.now (x := .ret) (by kernel_rfl) ⟨.inr rfl, [.bool true], by kernel_rfl, rfl, keepOf (by kernel_rfl)⟩)
theorem step_lt {k m s t : Nat} {A B C : Nat → Int} (hk7 : k < 8) (hm : m < 64) (hs : s < 2 ^ m) (h1 : ltF (.ofNat (bitsN s).length) (.ofNat (bitsN t).length) = true) (hg : goodN k A B C s = true) : Says Tryz.prog (hp (Lf1 k m A B C (bitsN t) (bitsN s))) 66 (arg66 (slR 8 (bitsN s).length)) (.bool true) (hp (Lf2 k m A B C (bitsN t) (bitsN s))) := by
  refine says_put (os0 := Lf1 k m A B C (bitsN t) (bitsN s)) (os := Lf2 k m A B C (bitsN t) (bitsN s)) rfl ?_ (arg66_clo (slR_clo (by show 8 < 9; decide)) (by show 7 ≤ 9; decide)) lf1_clo lf2_clo (clo_plain rfl) (fun j o o' h0 h1 => ?_)
  · show Local Tryz.prog 9 66 _ _ _
    refine local_of noNum Tryz.func66 (show Tryz.f66.body = some c66 by kernel_rfl) ?_
    refine Runs.sqR mixed hkU [] (by kernel_rfl) (by kernel_rfl) (by kernel_rfl) oblN ?_
    refine Runs.sq (by kernel_rfl) (Runs.sqR mixed hkU [viaV 7 (.bool true), viaC 25 48 [slR 8 (bitsN s).length, ptrV 2] (.bool true)] (by kernel_rfl) (by kernel_rfl) (by kernel_rfl) (oblC (shown_eq (v := .bool (ltF (.ofNat (bitsN s).length) (.ofNat (bitsN t).length))) (by kernel_rfl) (by kernel_rfl) (by rw [h1])) (oblC (shown_callE (by kernel_rfl) (by kernel_rfl) (hg ▸ good_f (b := bitsN t) hk7 hm hs)) oblN)) ?_)
    refine Runs.cd (b := true) (by kernel_rfl) (fun _ => ?_) (fun h => by cases h)
    refine Runs.rg mixed hkU [] (by kernel_rfl) (by kernel_rfl) (by kernel_rfl) oblN ?_
    show Runs Tryz.prog 9 _ _ _
    exact Runs.sqR mixed hkU [] (by kernel_rfl) (by kernel_rfl) (by kernel_rfl) oblN (Runs.now (x := .ret) (by kernel_rfl) ⟨.inr rfl, [.bool true], by kernel_rfl, rfl, keepOf (by kernel_rfl)⟩)
  · match j, h0, h1 with
    | 0, h0, h1 | 1, h0, h1 | 2, h0, h1 | 3, h0, h1 | 4, h0, h1 | 7, h0, h1 | 8, h0, h1 => cases h0; cases h1; exact .inl rfl
    | 5, h0, h1 | 6, h0, h1 => cases h0; exact .inr rfl
    | j + 9, h0, h1 => cases h0
theorem step_et {k m s t : Nat} {A B C : Nat → Int} (hk7 : k < 8) (hm : m < 64) (hs : s < 2 ^ m) (h1 : ltF (.ofNat (bitsN s).length) (.ofNat (bitsN t).length) = false) (h2 : eqF (.ofNat (bitsN s).length) (.ofNat (bitsN t).length) = true) (h3 : ltF (cmpF (bitsN s) (bitsN t)) 0 = true) (hg : goodN k A B C s = true) : Says Tryz.prog (hp (Lf1 k m A B C (bitsN t) (bitsN s))) 66 (arg66 (slR 8 (bitsN s).length)) (.bool true) (hp (Lf2 k m A B C (bitsN t) (bitsN s))) := by
  refine says_put (os0 := Lf1 k m A B C (bitsN t) (bitsN s)) (os := Lf2 k m A B C (bitsN t) (bitsN s)) rfl ?_ (arg66_clo (slR_clo (by show 8 < 9; decide)) (by show 7 ≤ 9; decide)) lf1_clo lf2_clo (clo_plain rfl) (fun j o o' h0 h1 => ?_)
  · show Local Tryz.prog 9 66 _ _ _
    refine local_of noNum Tryz.func66 (show Tryz.f66.body = some c66 by kernel_rfl) ?_
    refine Runs.sqR mixed hkU [] (by kernel_rfl) (by kernel_rfl) (by kernel_rfl) oblN ?_
    have hC : ∀ {h : AH}, h.get 8 = rowN (bitsN s) → h.get 7 = rowN (bitsN t) → Says Tryz.prog h 56 [slR 8 (bitsN s).length, slR 7 (bitsN t).length] (iZ (cmpF (bitsN s) (bitsN t))) h := fun {h} e1 e2 => by
      have hb := bits_len s
      have hle : (bitsN t).length = (bitsN s).length := by
        rw [eqF_nat] at h2; exact (Nat.eq_of_beq_eq_true h2).symm
      have hb2 := sees_row (z := 0) (n := (bitsN s).length) e2 (natsC_plain _)
      have := cmp_says (l := bitsN s) (k := bitsN t) hle (by omega) (sees_row (z := 0) (n := (bitsN s).length) e1 (natsC_plain _)) hb2
      show Says Tryz.prog h 56 [slR 8 (bitsN s).length, slR 7 (bitsN t).length] _ h
      rw [show slR 7 (bitsN t).length = slR 7 (bitsN s).length by rw [hle]]
      exact this
    refine Runs.sq (by kernel_rfl) (Runs.sqR mixed hkU [viaV 7 (.bool false), viaV 14 (.bool true), viaC 18 56 [slR 8 (bitsN s).length, slR 7 (bitsN t).length] (iZ (cmpF (bitsN s) (bitsN t))), viaV 19 (.bool true), viaC 25 48 [slR 8 (bitsN s).length, ptrV 2] (.bool true)] (by kernel_rfl) (by kernel_rfl) (by kernel_rfl) (oblC (shown_eq (v := .bool (ltF (.ofNat (bitsN s).length) (.ofNat (bitsN t).length))) (by kernel_rfl) (by kernel_rfl) (by rw [h1])) (oblC (shown_eq (v := .bool (eqF (.ofNat (bitsN s).length) (.ofNat (bitsN t).length))) (by kernel_rfl) (by kernel_rfl) (by rw [h2])) (oblC (shown_call (by kernel_rfl) (hC (by kernel_rfl) (by kernel_rfl))) (oblC (shown_eq (v := .bool (ltF (cmpF (bitsN s) (bitsN t)) 0)) (by kernel_rfl) (by kernel_rfl) (by rw [h3])) (oblC (shown_callE (by kernel_rfl) (by kernel_rfl) (hg ▸ good_f (b := bitsN t) hk7 hm hs)) oblN))))) ?_)
    refine Runs.cd (b := true) (by kernel_rfl) (fun _ => ?_) (fun h => by cases h)
    refine Runs.rg mixed hkU [] (by kernel_rfl) (by kernel_rfl) (by kernel_rfl) oblN ?_
    show Runs Tryz.prog 9 _ _ _
    exact Runs.sqR mixed hkU [] (by kernel_rfl) (by kernel_rfl) (by kernel_rfl) oblN (Runs.now (x := .ret) (by kernel_rfl) ⟨.inr rfl, [.bool true], by kernel_rfl, rfl, keepOf (by kernel_rfl)⟩)
  · match j, h0, h1 with
    | 0, h0, h1 | 1, h0, h1 | 2, h0, h1 | 3, h0, h1 | 4, h0, h1 | 7, h0, h1 | 8, h0, h1 => cases h0; cases h1; exact .inl rfl
    | 5, h0, h1 | 6, h0, h1 => cases h0; exact .inr rfl
    | j + 9, h0, h1 => cases h0
theorem step_lf {k m s t : Nat} {A B C : Nat → Int} (hk7 : k < 8) (hm : m < 64) (hs : s < 2 ^ m) (h1 : ltF (.ofNat (bitsN s).length) (.ofNat (bitsN t).length) = true) (hg : goodN k A B C s = false) : Says Tryz.prog (hp (Lf1 k m A B C (bitsN t) (bitsN s))) 66 (arg66 (slR 8 (bitsN s).length)) (.bool true) (hp (Lf1 k m A B C (bitsN t) (bitsN s))) := by
  refine says_of (os := Lf1 k m A B C (bitsN t) (bitsN s)) ?_ (arg66_clo (slR_clo (by show 8 < 9; decide)) (by show 7 ≤ 9; decide)) lf1_clo (clo_plain rfl)
  · show Local Tryz.prog 9 66 _ _ _
    refine local_of noNum Tryz.func66 (show Tryz.f66.body = some c66 by kernel_rfl) ?_
    refine Runs.sqR mixed hkU [] (by kernel_rfl) (by kernel_rfl) (by kernel_rfl) oblN ?_
    refine Runs.sq (by kernel_rfl) (Runs.sqR mixed hkU [viaV 7 (.bool true), viaC 25 48 [slR 8 (bitsN s).length, ptrV 2] (.bool false)] (by kernel_rfl) (by kernel_rfl) (by kernel_rfl) (oblC (shown_eq (v := .bool (ltF (.ofNat (bitsN s).length) (.ofNat (bitsN t).length))) (by kernel_rfl) (by kernel_rfl) (by rw [h1])) (oblC (shown_callE (by kernel_rfl) (by kernel_rfl) (hg ▸ good_f (b := bitsN t) hk7 hm hs)) oblN)) ?_)
    refine Runs.cd (b := false) (by kernel_rfl) (fun h => by cases h) (fun _ => Runs.now (x := .normal) (by kernel_rfl) ?_)
    show Runs Tryz.prog 9 _ _ _
    exact Runs.sqR mixed hkU [] (by kernel_rfl) (by kernel_rfl) (by kernel_rfl) oblN (Runs.now (x := .ret) (by kernel_rfl) ⟨.inr rfl, [.bool true], by kernel_rfl, rfl, keepOf (by kernel_rfl)⟩)
theorem step_ef {k m s t : Nat} {A B C : Nat → Int} (hk7 : k < 8) (hm : m < 64) (hs : s < 2 ^ m) (h1 : ltF (.ofNat (bitsN s).length) (.ofNat (bitsN t).length) = false) (h2 : eqF (.ofNat (bitsN s).length) (.ofNat (bitsN t).length) = true) (h3 : ltF (cmpF (bitsN s) (bitsN t)) 0 = true) (hg : goodN k A B C s = false) : Says Tryz.prog (hp (Lf1 k m A B C (bitsN t) (bitsN s))) 66 (arg66 (slR 8 (bitsN s).length)) (.bool true) (hp (Lf1 k m A B C (bitsN t) (bitsN s))) := by
  refine says_of (os := Lf1 k m A B C (bitsN t) (bitsN s)) ?_ (arg66_clo (slR_clo (by show 8 < 9; decide)) (by show 7 ≤ 9; decide)) lf1_clo (clo_plain rfl)
  · show Local Tryz.prog 9 66 _ _ _
    refine local_of noNum Tryz.func66 (show Tryz.f66.body = some c66 by kernel_rfl) ?_
    refine Runs.sqR mixed hkU [] (by kernel_rfl) (by kernel_rfl) (by kernel_rfl) oblN ?_
    have hC : ∀ {h : AH}, h.get 8 = rowN (bitsN s) → h.get 7 = rowN (bitsN t) → Says Tryz.prog h 56 [slR 8 (bitsN s).length, slR 7 (bitsN t).length] (iZ (cmpF (bitsN s) (bitsN t))) h := fun {h} e1 e2 => by
      have hb := bits_len s
      have hle : (bitsN t).length = (bitsN s).length := by
        rw [eqF_nat] at h2; exact (Nat.eq_of_beq_eq_true h2).symm
      have hb2 := sees_row (z := 0) (n := (bitsN s).length) e2 (natsC_plain _)
      have := cmp_says (l := bitsN s) (k := bitsN t) hle (by omega) (sees_row (z := 0) (n := (bitsN s).length) e1 (natsC_plain _)) hb2
      show Says Tryz.prog h 56 [slR 8 (bitsN s).length, slR 7 (bitsN t).length] _ h
      rw [show slR 7 (bitsN t).length = slR 7 (bitsN s).length by rw [hle]]
      exact this
    refine Runs.sq (by kernel_rfl) (Runs.sqR mixed hkU [viaV 7 (.bool false), viaV 14 (.bool true), viaC 18 56 [slR 8 (bitsN s).length, slR 7 (bitsN t).length] (iZ (cmpF (bitsN s) (bitsN t))), viaV 19 (.bool true), viaC 25 48 [slR 8 (bitsN s).length, ptrV 2] (.bool false)] (by kernel_rfl) (by kernel_rfl) (by kernel_rfl) (oblC (shown_eq (v := .bool (ltF (.ofNat (bitsN s).length) (.ofNat (bitsN t).length))) (by kernel_rfl) (by kernel_rfl) (by rw [h1])) (oblC (shown_eq (v := .bool (eqF (.ofNat (bitsN s).length) (.ofNat (bitsN t).length))) (by kernel_rfl) (by kernel_rfl) (by rw [h2])) (oblC (shown_call (by kernel_rfl) (hC (by kernel_rfl) (by kernel_rfl))) (oblC (shown_eq (v := .bool (ltF (cmpF (bitsN s) (bitsN t)) 0)) (by kernel_rfl) (by kernel_rfl) (by rw [h3])) (oblC (shown_callE (by kernel_rfl) (by kernel_rfl) (hg ▸ good_f (b := bitsN t) hk7 hm hs)) oblN))))) ?_)
    refine Runs.cd (b := false) (by kernel_rfl) (fun h => by cases h) (fun _ => Runs.now (x := .normal) (by kernel_rfl) ?_)
    show Runs Tryz.prog 9 _ _ _
    exact Runs.sqR mixed hkU [] (by kernel_rfl) (by kernel_rfl) (by kernel_rfl) oblN (Runs.now (x := .ret) (by kernel_rfl) ⟨.inr rfl, [.bool true], by kernel_rfl, rfl, keepOf (by kernel_rfl)⟩)
theorem step_c {k m s t : Nat} {A B C : Nat → Int} (hk7 : k < 8) (hm : m < 64) (hs : s < 2 ^ m) (h1 : ltF (.ofNat (bitsN s).length) (.ofNat (bitsN t).length) = false) (h2 : eqF (.ofNat (bitsN s).length) (.ofNat (bitsN t).length) = true) (h3 : ltF (cmpF (bitsN s) (bitsN t)) 0 = false) : Says Tryz.prog (hp (Lf1 k m A B C (bitsN t) (bitsN s))) 66 (arg66 (slR 8 (bitsN s).length)) (.bool true) (hp (Lf1 k m A B C (bitsN t) (bitsN s))) := by
  refine says_of (os := Lf1 k m A B C (bitsN t) (bitsN s)) ?_ (arg66_clo (slR_clo (by show 8 < 9; decide)) (by show 7 ≤ 9; decide)) lf1_clo (clo_plain rfl)
  · show Local Tryz.prog 9 66 _ _ _
    refine local_of noNum Tryz.func66 (show Tryz.f66.body = some c66 by kernel_rfl) ?_
    refine Runs.sqR mixed hkU [] (by kernel_rfl) (by kernel_rfl) (by kernel_rfl) oblN ?_
    have hC : ∀ {h : AH}, h.get 8 = rowN (bitsN s) → h.get 7 = rowN (bitsN t) → Says Tryz.prog h 56 [slR 8 (bitsN s).length, slR 7 (bitsN t).length] (iZ (cmpF (bitsN s) (bitsN t))) h := fun {h} e1 e2 => by
      have hb := bits_len s
      have hle : (bitsN t).length = (bitsN s).length := by
        rw [eqF_nat] at h2; exact (Nat.eq_of_beq_eq_true h2).symm
      have hb2 := sees_row (z := 0) (n := (bitsN s).length) e2 (natsC_plain _)
      have := cmp_says (l := bitsN s) (k := bitsN t) hle (by omega) (sees_row (z := 0) (n := (bitsN s).length) e1 (natsC_plain _)) hb2
      show Says Tryz.prog h 56 [slR 8 (bitsN s).length, slR 7 (bitsN t).length] _ h
      rw [show slR 7 (bitsN t).length = slR 7 (bitsN s).length by rw [hle]]
      exact this
    refine Runs.sq (by kernel_rfl) (Runs.sqR mixed hkU [viaV 7 (.bool false), viaV 14 (.bool true), viaC 18 56 [slR 8 (bitsN s).length, slR 7 (bitsN t).length] (iZ (cmpF (bitsN s) (bitsN t))), viaV 19 (.bool false)] (by kernel_rfl) (by kernel_rfl) (by kernel_rfl) (oblC (shown_eq (v := .bool (ltF (.ofNat (bitsN s).length) (.ofNat (bitsN t).length))) (by kernel_rfl) (by kernel_rfl) (by rw [h1])) (oblC (shown_eq (v := .bool (eqF (.ofNat (bitsN s).length) (.ofNat (bitsN t).length))) (by kernel_rfl) (by kernel_rfl) (by rw [h2])) (oblC (shown_call (by kernel_rfl) (hC (by kernel_rfl) (by kernel_rfl))) (oblC (shown_eq (v := .bool (ltF (cmpF (bitsN s) (bitsN t)) 0)) (by kernel_rfl) (by kernel_rfl) (by rw [h3])) oblN)))) ?_)
    refine Runs.cd (b := false) (by kernel_rfl) (fun h => by cases h) (fun _ => Runs.now (x := .normal) (by kernel_rfl) ?_)
    show Runs Tryz.prog 9 _ _ _
    exact Runs.sqR mixed hkU [] (by kernel_rfl) (by kernel_rfl) (by kernel_rfl) oblN (Runs.now (x := .ret) (by kernel_rfl) ⟨.inr rfl, [.bool true], by kernel_rfl, rfl, keepOf (by kernel_rfl)⟩)
theorem step_m {k m s t : Nat} {A B C : Nat → Int} (hk7 : k < 8) (hm : m < 64) (hs : s < 2 ^ m) (h1 : ltF (.ofNat (bitsN s).length) (.ofNat (bitsN t).length) = false) (h2 : eqF (.ofNat (bitsN s).length) (.ofNat (bitsN t).length) = false) : Says Tryz.prog (hp (Lf1 k m A B C (bitsN t) (bitsN s))) 66 (arg66 (slR 8 (bitsN s).length)) (.bool true) (hp (Lf1 k m A B C (bitsN t) (bitsN s))) := by
  refine says_of (os := Lf1 k m A B C (bitsN t) (bitsN s)) ?_ (arg66_clo (slR_clo (by show 8 < 9; decide)) (by show 7 ≤ 9; decide)) lf1_clo (clo_plain rfl)
  · show Local Tryz.prog 9 66 _ _ _
    refine local_of noNum Tryz.func66 (show Tryz.f66.body = some c66 by kernel_rfl) ?_
    refine Runs.sqR mixed hkU [] (by kernel_rfl) (by kernel_rfl) (by kernel_rfl) oblN ?_
    refine Runs.sq (by kernel_rfl) (Runs.sqR mixed hkU [viaV 7 (.bool false), viaV 14 (.bool false)] (by kernel_rfl) (by kernel_rfl) (by kernel_rfl) (oblC (shown_eq (v := .bool (ltF (.ofNat (bitsN s).length) (.ofNat (bitsN t).length))) (by kernel_rfl) (by kernel_rfl) (by rw [h1])) (oblC (shown_eq (v := .bool (eqF (.ofNat (bitsN s).length) (.ofNat (bitsN t).length))) (by kernel_rfl) (by kernel_rfl) (by rw [h2])) oblN)) ?_)
    refine Runs.cd (b := false) (by kernel_rfl) (fun h => by cases h) (fun _ => Runs.now (x := .normal) (by kernel_rfl) ?_)
    show Runs Tryz.prog 9 _ _ _
    exact Runs.sqR mixed hkU [] (by kernel_rfl) (by kernel_rfl) (by kernel_rfl) oblN (Runs.now (x := .ret) (by kernel_rfl) ⟨.inr rfl, [.bool true], by kernel_rfl, rfl, keepOf (by kernel_rfl)⟩)

theorem step_none {k m s : Nat} {A B C : Nat → Int} (hk7 : k < 8) (hm : m < 64) (hs : s < 2 ^ m) :
    (goodN k A B C s = true ∧ Says Tryz.prog (hp (Ln1 k m A B C (bitsN s))) 66 (arg66 (slR 7 (bitsN s).length)) (.bool true) (hp (Lf k m A B C (bitsN s)))) ∨
    (goodN k A B C s = false ∧ Says Tryz.prog (hp (Ln1 k m A B C (bitsN s))) 66 (arg66 (slR 7 (bitsN s).length)) (.bool true) (hp (Ln1 k m A B C (bitsN s)))) := by
  cases hg : goodN k A B C s with
  | true => exact .inl ⟨rfl, step_nt hk7 hm hs hg⟩
  | false => exact .inr ⟨rfl, step_nf hk7 hm hs hg⟩
theorem step_some {k m s t : Nat} {A B C : Nat → Int} (hk7 : k < 8) (hm : m < 64) (hs : s < 2 ^ m) :
    ((cndN t s && goodN k A B C s) = true ∧ Says Tryz.prog (hp (Lf1 k m A B C (bitsN t) (bitsN s))) 66 (arg66 (slR 8 (bitsN s).length)) (.bool true) (hp (Lf2 k m A B C (bitsN t) (bitsN s)))) ∨
    ((cndN t s && goodN k A B C s) = false ∧ Says Tryz.prog (hp (Lf1 k m A B C (bitsN t) (bitsN s))) 66 (arg66 (slR 8 (bitsN s).length)) (.bool true) (hp (Lf1 k m A B C (bitsN t) (bitsN s)))) := by
  unfold cndN
  cases h1 : ltF (.ofNat (bitsN s).length) (.ofNat (bitsN t).length) with
  | true =>
    cases hg : goodN k A B C s with
    | true => exact .inl ⟨rfl, step_lt hk7 hm hs h1 hg⟩
    | false => exact .inr ⟨rfl, step_lf hk7 hm hs h1 hg⟩
  | false =>
    cases h2 : eqF (.ofNat (bitsN s).length) (.ofNat (bitsN t).length) with
    | false => exact .inr ⟨rfl, step_m hk7 hm hs h1 h2⟩
    | true =>
      cases h3 : ltF (cmpF (bitsN s) (bitsN t)) 0 with
      | false => exact .inr ⟨rfl, step_c hk7 hm hs h1 h2 h3⟩
      | true =>
        cases hg : goodN k A B C s with
        | true => exact .inl ⟨rfl, step_et hk7 hm hs h1 h2 h3 hg⟩
        | false => exact .inr ⟨rfl, step_ef hk7 hm hs h1 h2 h3 hg⟩
end
end Go.Proofs.YtbcjmmbmeebfgaaGreatDoor
