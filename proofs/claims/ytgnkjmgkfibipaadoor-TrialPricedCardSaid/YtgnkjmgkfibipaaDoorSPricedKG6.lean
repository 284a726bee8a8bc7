/- slices.Grow at the nil slice, as a contract: a new row without elements, whose room is not told. -/
import Derived.Test.YtgnkjmgkfibipaaDoorSPricedKG5
import Derived.Shelf.Spec.SlicesGrow
import Derived.Test.YtgnkjmgkfibipaaDoorSPricedKG3
import Derived.Test.YtgnkjmgkfibipaaDoorSPricedRG7
namespace Go.Proofs
open Go.Shelf
def Tryd.growR : Go.Shelf.Ren := ⟨fun | 4 => 127 | n => n, fun | 22 => 24 | 25 => 3 | 3 => 3 | 4 => 4 | 9 => 9 | 20 => 20 | 0 => 0 | n => n, fun | n => n⟩
theorem Tryd.growI : Go.Proofs.Lays8.n4 Tryd.prog Tryd.growR where
  mixed := by kernel_rfl
  f4 := ⟨ "slices.Grow[[]int,int]", by decide, Tryd.func127.trans (congrArg some (by kernel_rfl))⟩
  t0 := Tryd.underlying0
  a0 := Tryd.isAgg0
  z0 := Tryd.sizeOf0
  v0 := Tryd.zeroValue0
  t3 := Tryd.underlying3
  a3 := Tryd.isAgg3
  z3 := Tryd.sizeOf3
  v3 := Tryd.zeroValue3
  t4 := Tryd.underlying4
  a4 := Tryd.isAgg4
  z4 := Tryd.sizeOf4
  v4 := Tryd.zeroValue4
  t9 := Tryd.underlying9
  a9 := Tryd.isAgg9
  z9 := Tryd.sizeOf9
  v9 := Tryd.zeroValue9
  t20 := Tryd.underlying20
  a20 := Tryd.isAgg20
  z20 := Tryd.sizeOf20
  v20 := Tryd.zeroValue20
  t22 := Tryd.underlying24
  a22 := Tryd.isAgg24
  z22 := Tryd.sizeOf24
  v22 := Tryd.zeroValue24
end Go.Proofs
namespace Go.Proofs.YtgnkjmgkfibipaaDoor
set_option linter.unusedVariables false
set_option linter.unusedSimpArgs false
open Go Go.R
set_option maxRecDepth 1000000
noncomputable section

noncomputable def inf3 : TypeInfo := (Tryd.prog.info? 3).getD default

theorem grow_says (h : AH) {n : Nat} (h0 : 0 < n) (h1 : n ≤ 1000) : Says Tryd.prog h 127 [.slice none 0 0, i64 n] (.slice (some ⟨h.next, 0, some 1⟩) 0 0) (h.new (.cells [] true [] (some 3))).2 := by
  intro F w0 μ w args' H hl
  have ea : args' = #[.slice none 0 0, .int .i64 n] := arr_eq (plains_same hl (fun v hv => by
    rcases List.mem_cons.1 hv with rfl | hv
    · rfl
    · rw [List.mem_singleton.1 hv]; rfl))
  subst ea
  have hb : inf3.bytes = 8 := by kernel_rfl
  have hs : inf3.size = 1 := by kernel_rfl
  have C := Any8.slices_Grow_grow Tryd.growI inf3 (.int .i64 0) (by kernel_rfl) (by kernel_rfl) (by rw [hs]; exact Nat.one_pos) none 0 0 n [] w (Nat.le_refl _) (by omega) (by rw [hb]; omega) (by omega) (by rw [hs]; rfl) (fun _ => rfl) (fun a ha => by cases ha)
  have hcap := grownCap_ge w (0 + n) 0 (Tryd.growR.t 25)
  refine .inl ⟨enters noNum Tryd.func127 (show Tryd.f127.body = some (bodyOf Tryd.f127) by kernel_rfl) _ w, Calls.mono C ?_⟩
  rintro e w' ⟨rfl, rfl⟩
  refine ⟨_, rfl, ?_⟩
  have H1 : HR F w0 μ h w.drew := H.congr rfl rfl rfl rfl
  have q := H1.new (.cells [] true [] (some 3)) (.cells (([] : List Value).toArray ++ Builtin.zeroCells (Value.int .i64 0).cells (0 + n - 0) ++ Builtin.zeroCells (Value.int .i64 0).cells (grownCap w (0 + n) 0 (Tryd.growR.t 25) - (0 + n))) (Tryd.growR.t 25)) (grownCap w (0 + n) 0 (Tryd.growR.t 25))
    (fun c l p ty e j hj => by cases e; cases hj) (by
      refine ⟨_, _, _, Array.getElem?_push_size, Nat.zero_le _, ?_, fun k v hk => (by cases hk), fun _ k h1 h2 h3 => absurd h3.2 (Nat.not_lt_zero _), fun t ht => (by cases ht; exact ⟨rfl, rfl⟩)⟩
      simp [size_zeroCells, Value.cells]
      omega)
  refine ⟨_, ?_, q.1, q.2⟩
  exact VR.sliceU (μ := μ.add h.next (w.drew.heap.size, 0, grownCap w (0 + n) 0 (Tryd.growR.t 25))) (i := h.next) (o := 0) (n := 0) (c := 0) (c' := grownCap w (0 + n) 0 (Tryd.growR.t 25)) (s := 0) (b := w.drew.heap.size) (z := 0) (e := grownCap w (0 + n) 0 (Tryd.growR.t 25)) (by simp [Mp.add]) (Nat.le_refl _) (Nat.zero_le _) (by omega)
end
end Go.Proofs.YtgnkjmgkfibipaaDoor

/- slices.Concat of three lists of numbers, where all plans are made: its rounds. -/
namespace Go.Proofs.YtgnkjmgkfibipaaDoor
set_option linter.unusedVariables false
set_option linter.unusedSimpArgs false
open Go Go.R
set_option maxRecDepth 1000000
noncomputable section

noncomputable def boxI (n : Nat) : AObj := .cells [.int .i64 (.ofNat n)] true [] (some 3)
noncomputable def boxF (E : Value) : AObj := .cells [E] true [] (some 72)
noncomputable def boxS (s : Value) : AObj := .cells [s] true [] (some 24)
/-- The heap of the innermost function: numbers, the function, and both lists. -/
noncomputable def osC (H L T D : Nat) (E : Value) (a c : List Nat) : List AObj := roots ++ [boxI H, boxF E, boxI L, planO (some 3) a, boxS (planV 19 a), boxI T, boxI D, planO (some 3) c]
noncomputable def osD (H L T D : Nat) (E : Value) (a c : List Nat) : List AObj := osC H L T D E a c ++ [rowL [L], .cells [.slice (some ⟨24, 0, none⟩) 1 1, planV 19 a, planV 23 c] true [] (some 24)]

theorem planO_plain (l : List Nat) : ∀ k, CloO k (planO (some 3) l) := fun k => by
  cases l with
  | nil => trivial
  | cons x l => exact cloO_plain (litI_plain (x :: l)) _ _
theorem planV_clo {k q : Nat} (h : q < k) (l : List Nat) : Clo k (planV q l) := by
  cases l with
  | nil => exact clo_plain rfl
  | cons x l => exact clo_of 10 k _ (by show (false || Nat.blt q k) = true; rw [Bool.false_or, Nat.blt_eq]; exact h)
theorem planO_tidy (l : List Nat) : tidyOb (planO (some 3) l) = true := by cases l <;> rfl
theorem cloO_one {k : Nat} {v : Value} (h : Clo k v) (ty : Option TypeId) : CloO k (.cells [v] true [] ty) := ⟨fun x hx => by rw [List.mem_singleton.1 hx]; exact h, fun j hj => by cases hj⟩

theorem roots_mem {o : AObj} (h : o ∈ roots) : o = .dead := List.eq_of_mem_replicate h

theorem osC_clo {H L T D : Nat} {E : Value} {a c : List Nat} (hE : Clo 16 E) {k : Nat} (hk : 24 ≤ k) : ∀ o ∈ osC H L T D E a c, CloO k o := by
  intro o ho
  rcases List.mem_append.1 ho with h | h
  · rw [roots_mem h]; trivial
  · simp only [List.mem_cons, List.mem_nil_iff, or_false] at h
    rcases h with rfl | rfl | rfl | rfl | rfl | rfl | rfl | rfl
    · exact cloO_one (clo_plain rfl) _
    · exact cloO_one (hE.mono (by omega)) _
    · exact cloO_one (clo_plain rfl) _
    · exact planO_plain a k
    · exact cloO_one (planV_clo (by omega) a) _
    · exact cloO_one (clo_plain rfl) _
    · exact cloO_one (clo_plain rfl) _
    · exact planO_plain c k

theorem osD_clo {H L T D : Nat} {E : Value} {a c : List Nat} (hE : Clo 16 E) {k : Nat} (hk : 26 ≤ k) : ∀ o ∈ osD H L T D E a c, CloO k o := by
  intro o ho
  rcases List.mem_append.1 ho with h | h
  · exact osC_clo hE (by omega) o h
  · simp only [List.mem_cons, List.mem_nil_iff, or_false] at h
    rcases h with rfl | rfl
    · exact cloO_plain (litI_plain [L]) _ _
    · refine ⟨fun x hx => ?_, fun j hj => by cases hj⟩
      simp only [List.mem_cons, List.mem_nil_iff, or_false] at hx
      rcases hx with rfl | rfl | rfl
      · exact clo_of 10 k _ (by show (false || Nat.blt 24 k) = true; rw [Bool.false_or, Nat.blt_eq]; omega)
      · exact planV_clo (by omega) a
      · exact planV_clo (by omega) c

theorem osD_tidy (H L T D : Nat) (E : Value) (a c : List Nat) : ((osD H L T D E a c).all tidyOb) = true := by
  cases a <;> cases c <;> kernel_rfl

theorem wrap_addN {s n : Nat} (h : s + n < 4611686018427387904) : wrapF .i64 (Int.add (.ofNat s) (.ofNat n)) = .ofNat (s + n) := by
  show cond (Nat.blt (s + n) 9223372036854775808) (Int.ofNat (s + n)) _ = _
  have : Nat.blt (s + n) 9223372036854775808 = true := by rw [Nat.blt_eq]; omega
  rw [this]; rfl

noncomputable def c108 : Code := bodyOf Tryd.f108
noncomputable def lpA : Code := within (tl (hd (behind 2 c108)))
noncomputable def lpB : Code := within (tl (hd (behind 4 c108)))
noncomputable def s25 : Value := .slice (some ⟨25, 0, none⟩) 3 3

section
variable (H L T D : Nat) (E : Value) (a c : List Nat)

/-- What stands in the row of lists. -/
noncomputable def rowAt (j : Nat) : Value := match j with
  | 0 => .slice (some ⟨24, 0, none⟩) 1 1
  | 1 => planV 19 a
  | _ => planV 23 c
noncomputable def lenAt (j : Nat) : Nat := match j with
  | 0 => 1
  | 1 => a.length
  | _ => c.length

noncomputable def SpA (s j : Nat) : List (Nat × Value) := [(0, s25), (3, .int .i64 (.ofNat s)), (9, s25), (10, i64 3), (11, i64 j)]

theorem catA_round (hE : Clo 16 E) {s j : Nat} (hj : j < 3) (hs : s + lenAt a c j < 1000) {Q : AExit → AF → Prop} (h : Runs Tryd.prog 26 lpA (sth (SpA (s + lenAt a c j) (j + 1)) 36 (osD H L T D E a c)) Q) :
    Runs Tryd.prog 26 lpA (sth (SpA s j) 36 (osD H L T D E a c)) Q := by
  have e1 : wrapF .i64 (Int.add (.ofNat s) (.ofNat (lenAt a c j))) = .ofNat (s + lenAt a c j) := wrap_addN (by omega)
  rcases a with _ | ⟨x, a⟩ <;> rcases c with _ | ⟨y, c⟩ <;> (
    match j, hj with
    | 0, _ | 1, _ | 2, _ =>
      refine Runs.lp (by kernel_rfl) (Runs.sqR mixed hk38 [] (by kernel_rfl) (by kernel_rfl) (by kernel_rfl) oblN ?_)
      refine Runs.sq (by kernel_rfl) (Runs.cd (b := true) (by kernel_rfl) (fun _ => Runs.now (x := .normal) (by kernel_rfl) ?_) (fun h => by cases h))
      show Runs Tryd.prog 26 _ _ _
      refine Runs.sq (by kernel_rfl) (Runs.bk (id := 1) (by kernel_rfl) (Runs.sqR mixed hk38 [] (by kernel_rfl) (by kernel_rfl) (by kernel_rfl) oblN ?_))
      refine Runs.sqR mixed hk38 [viaV 3 (.int .i64 (.ofNat (s + lenAt _ _ _)))] (by kernel_rfl) (by kernel_rfl) (by kernel_rfl) (oblC (shown_eq (v := .int .i64 (wrapF .i64 (Int.add (.ofNat s) (.ofNat (lenAt _ _ _))))) (by kernel_rfl) (by kernel_rfl) (by rw [e1])) oblN) ?_
      refine Runs.sqR mixed hk38 [] (by kernel_rfl) (by kernel_rfl) (by kernel_rfl) oblN ?_
      refine Runs.cd (b := false) (by kernel_rfl) (fun h => by cases h) (fun _ => Runs.now (x := .normal) (by kernel_rfl) ?_)
      show Runs Tryd.prog 26 _ _ _
      refine Runs.rg mixed hk38 [] (by kernel_rfl) (by kernel_rfl) (by kernel_rfl) oblN ?_
      show Runs Tryd.prog 26 lpA _ _
      refine Runs.less (less_seenP (clo_all (by kernel_rfl)) (osD_clo hE (Nat.le_refl 26)) (Nat.le_refl 26) (by kernel_rfl) (by kernel_rfl) (by kernel_rfl) (by kernel_rfl)) h)

noncomputable def listAt (j : Nat) : List Nat := match j with
  | 0 => [L]
  | 1 => a
  | _ => c
noncomputable def SpB (acc : List Nat) (j : Nat) : List (Nat × Value) := [(6, rowA 26 acc.length), (25, s25), (26, i64 3), (27, i64 j)]

theorem app_nil {h : AH} {i0 : Nat} {A : List Nat} (hA : A.length < 1000000) : appendA Tryd.prog #[24, 24] (.slice (some ⟨i0, 0, some 1⟩) A.length A.length) (.slice none 0 0) h = some (.slice (some ⟨i0, 0, some 1⟩) A.length A.length, h) := by
  have e1 : Tryd.prog.underlying 24 = some (.slice 3) := by kernel_rfl
  obtain ⟨info, e2, e3, e4⟩ := int_info
  rw [Bool.or_eq_false_iff] at e4
  have e6 : (decide (A.length > 1000000)) = false := by simp; omega
  unfold appendA
  simp only [List.getElem?_toArray, List.getElem?_cons_zero, List.getElem?_cons_succ, e1, e2, srcKind, Bool.not_true, Bool.false_eq_true, if_false, e3, srcA]
  simp only [List.all_nil, e4.1, e4.2, e6, Bool.not_true, Bool.or_false, Bool.false_or, Bool.or_self, decide_false, show (1 = 0) = False by simp, if_false, decide_true, ne_eq, not_true_eq_false, Bool.false_eq_true, show (0 + 1 = 1) by rfl, show ¬ (0 > 1000000) by omega, if_true]

theorem catB_clo (acc : List Nat) (hE : Clo 16 E) : ∀ o ∈ osD H L T D E a c ++ [rowL acc], CloO 27 o := fun o ho => by
  rcases List.mem_append.1 ho with h | h
  · exact osD_clo hE (by omega) o h
  · rw [List.mem_singleton.1 h]; exact cloO_plain (litI_plain acc) _ _

theorem catB_round (hE : Clo 16 E) {acc : List Nat} {j : Nat} (hj : j < 3) (hs : acc.length < 1000 ∧ a.length < 1000 ∧ c.length < 1000) {Q : AExit → AF → Prop}
    (h : Runs Tryd.prog 26 lpB (sth (SpB (acc ++ listAt L a c j) (j + 1)) 36 (osD H L T D E a c ++ [rowL (acc ++ listAt L a c j)])) Q) :
    Runs Tryd.prog 26 lpB (sth (SpB acc j) 36 (osD H L T D E a c ++ [rowL acc])) Q := by
  have hlo : (osD H L T D E a c).length = 26 := rfl
  -- an append that changes nothing
  have none_ : ∀ {af : AF}, listAt L a c j = [] → af.sz = 36 → (SpB acc (j + 1)).map (fun p => af.tm.get p.1) = (SpB acc (j + 1)).map (fun p => some p.2) → Nat.ble 27 af.h.next = true → (List.range 27).map af.h.get = osD H L T D E a c ++ [rowL acc] → Runs Tryd.prog 26 lpB af Q := by
    intro af e1 e2 e3 e4 e5
    rw [e1, List.append_nil] at h
    exact Runs.less (less_seenP (clo_all (k := 27) (by kernel_rfl)) (catB_clo H L T D E a c acc hE) (show 26 ≤ 27 by decide) (by rw [List.map_map]; exact e3) e2 e4 e5) h
  -- an append that makes a new row
  have some_ : ∀ {af : AF} {B : List Nat}, listAt L a c j = B → af.sz = 36 → (List.range 26).map af.h.get = osD H L T D E a c → af.h.get 27 = .cells (litI acc ++ litI B) true [26] (some 3) → af.tm.get 6 = some (rowA 27 (acc.length + B.length)) →
      [25, 26, 27].map af.tm.get = [some s25, some (i64 3), some (i64 (j + 1))] → Runs Tryd.prog 26 lpB af Q := by
    intro af B e1 e2 e3 e4 e5 e6
    rw [e1] at h
    simp only [List.map_cons, List.map_nil, List.cons.injEq, and_true] at e6
    refine Runs.regrow (n := 26) (m := 27) (cells := litI (acc ++ B)) (par := [26]) hlo (Nat.le_refl 26) e2 e3 (osD_tidy H L T D E a c) (osD_clo hE (Nat.le_refl 26)) (by decide) (e4.trans (by rw [litI_app])) (by kernel_rfl) (litI_plain _) (fun p hp => ?_) h
    simp only [SpB, List.mem_cons, List.mem_nil_iff, or_false] at hp
    rcases hp with rfl | rfl | rfl | rfl
    · exact .inr (.inl ⟨_, rfl, by rw [List.length_append]; exact e5⟩)
    · exact .inl ⟨e6.1, clo_of 10 26 _ (by kernel_rfl)⟩
    · exact .inl ⟨e6.2.1, clo_plain rfl⟩
    · exact .inl ⟨e6.2.2, clo_plain rfl⟩
  have start : ∀ {Q' : AExit → AF → Prop}, Runs Tryd.prog 26 (tl (tl (within lpB))) ((sth (SpB acc j) 36 (osD H L T D E a c ++ [rowL acc])).put (some 28) (.bool true) (hp (osD H L T D E a c ++ [rowL acc]))) Q' → Runs Tryd.prog 26 (within lpB) (sth (SpB acc j) 36 (osD H L T D E a c ++ [rowL acc])) Q' := by
    intro Q'
    match j, hj with
    | 0, _ | 1, _ | 2, _ =>
      intro hq
      refine Runs.sqR mixed hk38 [] (by kernel_rfl) (by kernel_rfl) (by kernel_rfl) oblN ?_
      refine Runs.sq (by kernel_rfl) (Runs.cd (b := true) (by kernel_rfl) (fun _ => Runs.now (x := .normal) (by kernel_rfl) ?_) (fun h => by cases h))
      exact hq
  refine Runs.lp (by kernel_rfl) (start ?_)
  clear start
  refine Runs.sq (by kernel_rfl) (Runs.bk (id := 3) (by kernel_rfl) ?_)
  have ge : (hp (osD H L T D E a c ++ [rowL acc])).get 26 = .cells (litI acc) true [] (some 3) := by kernel_rfl
  rcases (show j = 0 ∨ j = 1 ∨ j = 2 by omega) with rfl | rfl | rfl
  · skip
    refine Runs.sqR mixed hk38 [] (by kernel_rfl) (by kernel_rfl) (by kernel_rfl) oblN ?_
    refine Runs.rg mixed hk38 [⟨2, rowA 27 (acc.length + [L].length), some (((hp (osD H L T D E a c ++ [rowL acc])).put 26 (.cells (litI acc) false [] (some 3))).new (.cells (litI acc ++ litI [L]) true [26] (some 3))).2, none⟩] (by kernel_rfl) (by kernel_rfl) (by kernel_rfl)
      (oblC ⟨by kernel_rfl, (show _ = appendA Tryd.prog #[24, 24] (.slice (some ⟨26, 0, some 1⟩) acc.length acc.length) (.slice (some ⟨24, 0, none⟩) [L].length [L].length) (hp (osD H L T D E a c ++ [rowL acc])) by kernel_rfl).trans
        (app_u (by simp) ⟨by omega, by simp⟩ ge (show _ = AObj.cells (litI [L]) true [] (some 3) by kernel_rfl))⟩ oblN) ?_
    show Runs Tryd.prog 26 _ _ _
    refine Runs.rg mixed hk38 [] (by kernel_rfl) (by kernel_rfl) (by kernel_rfl) oblN ?_
    exact some_ (B := [L]) rfl (by kernel_rfl) (by kernel_rfl) (by kernel_rfl) (by kernel_rfl) (by kernel_rfl)
  · skip
    cases a with
    | nil =>
      refine Runs.sqR mixed hk38 [] (by kernel_rfl) (by kernel_rfl) (by kernel_rfl) oblN ?_
      refine Runs.rg mixed hk38 [viaV 2 (rowA 26 acc.length)] (by kernel_rfl) (by kernel_rfl) (by kernel_rfl)
        (oblC ⟨by kernel_rfl, (show _ = appendA Tryd.prog #[24, 24] (.slice (some ⟨26, 0, some 1⟩) acc.length acc.length) (.slice none 0 0) (hp (osD H L T D E [] c ++ [rowL acc])) by kernel_rfl).trans ((app_nil (A := acc) (by omega)).trans (show some (rowA 26 acc.length, hp (osD H L T D E [] c ++ [rowL acc])) = _ by kernel_rfl))⟩ oblN) ?_
      show Runs Tryd.prog 26 _ _ _
      refine Runs.rg mixed hk38 [] (by kernel_rfl) (by kernel_rfl) (by kernel_rfl) oblN ?_
      exact none_ rfl (by kernel_rfl) (by kernel_rfl) (by kernel_rfl) (by kernel_rfl)
    | cons x a =>
      refine Runs.sqR mixed hk38 [] (by kernel_rfl) (by kernel_rfl) (by kernel_rfl) oblN ?_
      refine Runs.rg mixed hk38 [⟨2, rowA 27 (acc.length + (x :: a).length), some (((hp (osD H L T D E (x :: a) c ++ [rowL acc])).put 26 (.cells (litI acc) false [] (some 3))).new (.cells (litI acc ++ litI (x :: a)) true [26] (some 3))).2, none⟩] (by kernel_rfl) (by kernel_rfl) (by kernel_rfl)
        (oblC ⟨by kernel_rfl, (show _ = appendA Tryd.prog #[24, 24] (.slice (some ⟨26, 0, some 1⟩) acc.length acc.length) (.slice (some ⟨19, 0, some 1⟩) (x :: a).length (x :: a).length) (hp (osD H L T D E (x :: a) c ++ [rowL acc])) by kernel_rfl).trans
          (app_u (by simp) ⟨by omega, by omega⟩ ge (show _ = AObj.cells (litI (x :: a)) true [] (some 3) by kernel_rfl))⟩ oblN) ?_
      show Runs Tryd.prog 26 _ _ _
      refine Runs.rg mixed hk38 [] (by kernel_rfl) (by kernel_rfl) (by kernel_rfl) oblN ?_
      exact some_ (B := x :: a) rfl (by kernel_rfl) (by kernel_rfl) (by kernel_rfl) (by kernel_rfl) (by kernel_rfl)
  · skip
    cases c with
    | nil =>
      refine Runs.sqR mixed hk38 [] (by kernel_rfl) (by kernel_rfl) (by kernel_rfl) oblN ?_
      refine Runs.rg mixed hk38 [viaV 2 (rowA 26 acc.length)] (by kernel_rfl) (by kernel_rfl) (by kernel_rfl)
        (oblC ⟨by kernel_rfl, (show _ = appendA Tryd.prog #[24, 24] (.slice (some ⟨26, 0, some 1⟩) acc.length acc.length) (.slice none 0 0) (hp (osD H L T D E a [] ++ [rowL acc])) by kernel_rfl).trans ((app_nil (A := acc) (by omega)).trans (show some (rowA 26 acc.length, hp (osD H L T D E a [] ++ [rowL acc])) = _ by kernel_rfl))⟩ oblN) ?_
      show Runs Tryd.prog 26 _ _ _
      refine Runs.rg mixed hk38 [] (by kernel_rfl) (by kernel_rfl) (by kernel_rfl) oblN ?_
      exact none_ rfl (by kernel_rfl) (by kernel_rfl) (by kernel_rfl) (by kernel_rfl)
    | cons x c =>
      refine Runs.sqR mixed hk38 [] (by kernel_rfl) (by kernel_rfl) (by kernel_rfl) oblN ?_
      refine Runs.rg mixed hk38 [⟨2, rowA 27 (acc.length + (x :: c).length), some (((hp (osD H L T D E a (x :: c) ++ [rowL acc])).put 26 (.cells (litI acc) false [] (some 3))).new (.cells (litI acc ++ litI (x :: c)) true [26] (some 3))).2, none⟩] (by kernel_rfl) (by kernel_rfl) (by kernel_rfl)
        (oblC ⟨by kernel_rfl, (show _ = appendA Tryd.prog #[24, 24] (.slice (some ⟨26, 0, some 1⟩) acc.length acc.length) (.slice (some ⟨23, 0, some 1⟩) (x :: c).length (x :: c).length) (hp (osD H L T D E a (x :: c) ++ [rowL acc])) by kernel_rfl).trans
          (app_u (by simp) ⟨by omega, by omega⟩ ge (show _ = AObj.cells (litI (x :: c)) true [] (some 3) by kernel_rfl))⟩ oblN) ?_
      show Runs Tryd.prog 26 _ _ _
      refine Runs.rg mixed hk38 [] (by kernel_rfl) (by kernel_rfl) (by kernel_rfl) oblN ?_
      exact some_ (B := x :: c) rfl (by kernel_rfl) (by kernel_rfl) (by kernel_rfl) (by kernel_rfl) (by kernel_rfl)
end
end
end Go.Proofs.YtgnkjmgkfibipaaDoor

/- slices.Concat of three lists of numbers, where all plans are made: a new row. -/
namespace Go.Proofs.YtgnkjmgkfibipaaDoor
set_option linter.unusedVariables false
set_option linter.unusedSimpArgs false
open Go Go.R
set_option maxRecDepth 1000000
noncomputable section

theorem concat_local (H L T D : Nat) (E : Value) (a c : List Nat) (hE : Clo 16 E) (ha : a.length < 400) (hc : c.length < 400) :
    Local Tryd.prog 26 108 [s25] (hp (osD H L T D E a c)) (IsNew 26 0 (L :: (a ++ c)).length (litI (L :: (a ++ c))) (some 3) (hp (osD H L T D E a c))) := by
  refine local_of noNum Tryd.func108 (show Tryd.f108.body = some c108 by kernel_rfl) ?_
  refine Runs.sqR mixed hk38 [] (by kernel_rfl) (by kernel_rfl) (by kernel_rfl) oblN ?_
  refine Runs.sqR mixed hk38 [] (by kernel_rfl) (by kernel_rfl) (by kernel_rfl) oblN ?_
  refine Runs.sq (by kernel_rfl) (Runs.sqR mixed hk38 [] (by kernel_rfl) (by kernel_rfl) (by kernel_rfl) oblN (Runs.bk (id := 0) (by kernel_rfl) ?_))
  refine Runs.less (af1 := sth (SpA 0 0) 36 (osD H L T D E a c)) (less_seenP (clo_all (k := 26) (by kernel_rfl)) (osD_clo hE (Nat.le_refl 26)) (Nat.le_refl 26) (by kernel_rfl) (by kernel_rfl) (by kernel_rfl) (by kernel_rfl)) ?_
  show Runs Tryd.prog 26 lpA _ _
  refine catA_round H L T D E a c hE (by decide) (by show 0 + 1 < 1000; decide) ?_
  refine catA_round H L T D E a c hE (by decide) (by show 0 + 1 + a.length < 1000; omega) ?_
  refine catA_round H L T D E a c hE (by decide) (by show 0 + 1 + a.length + c.length < 1000; omega) ?_
  obtain ⟨n, hn⟩ : ∃ n, n = 0 + lenAt a c 0 + lenAt a c (0 + 1) + lenAt a c (0 + 1 + 1) := ⟨_, rfl⟩
  have hn1 : 0 < n := by rw [hn]; show 0 < 0 + 1 + a.length + c.length; omega
  have hn2 : n ≤ 1000 := by rw [hn]; show 0 + 1 + a.length + c.length ≤ 1000; omega
  rw [← hn]
  refine Runs.lp (by kernel_rfl) (Runs.sqR mixed hk38 [] (by kernel_rfl) (by kernel_rfl) (by kernel_rfl) oblN ?_)
  refine Runs.sq (by kernel_rfl) (Runs.cd (b := false) (by kernel_rfl) (fun h => by cases h) (fun _ => Runs.now (x := .exit 0) (by kernel_rfl) ?_))
  show Runs Tryd.prog 26 (behind 3 c108) _ _
  refine Runs.sqR mixed hk38 [viaH 1 127 [.slice none 0 0, i64 n] (.slice (some ⟨26, 0, some 1⟩) 0 0) ((hp (osD H L T D E a c)).new (.cells [] true [] (some 3))).2] (by kernel_rfl) (by kernel_rfl) (by kernel_rfl)
    (oblC (shown_callHE (h0 := hp (osD H L T D E a c)) (by kernel_rfl) (by kernel_rfl) (grow_says (hp (osD H L T D E a c)) hn1 hn2)) oblN) ?_
  refine Runs.sq (by kernel_rfl) (Runs.sqR mixed hk38 [] (by kernel_rfl) (by kernel_rfl) (by kernel_rfl) oblN (Runs.bk (id := 2) (by kernel_rfl) ?_))
  refine Runs.less (af1 := sth (SpB [] 0) 36 (osD H L T D E a c ++ [rowL []])) (less_seenP (clo_all (k := 27) (by kernel_rfl)) (catB_clo H L T D E a c [] hE) (show 26 ≤ 27 by decide) (by kernel_rfl) (by kernel_rfl) (by kernel_rfl) (by kernel_rfl)) ?_
  show Runs Tryd.prog 26 lpB _ _
  refine catB_round H L T D E a c hE (by decide) ⟨by decide, by omega, by omega⟩ ?_
  refine catB_round H L T D E a c hE (by decide) ⟨by show ([] ++ [L]).length < 1000; simp, by omega, by omega⟩ ?_
  refine catB_round H L T D E a c hE (by decide) ⟨by show (([] ++ [L]) ++ a).length < 1000; simp; omega, by omega, by omega⟩ ?_
  rw [show (([] ++ listAt L a c 0) ++ listAt L a c (0 + 1)) ++ listAt L a c (0 + 1 + 1) = L :: (a ++ c) from rfl]
  refine Runs.lp (by kernel_rfl) (Runs.sqR mixed hk38 [] (by kernel_rfl) (by kernel_rfl) (by kernel_rfl) oblN ?_)
  refine Runs.sq (by kernel_rfl) (Runs.cd (b := false) (by kernel_rfl) (fun h => by cases h) (fun _ => Runs.now (x := .exit 2) (by kernel_rfl) ?_))
  show Runs Tryd.prog 26 (behind 5 c108) _ _
  refine Runs.sqR mixed hk38 [] (by kernel_rfl) (by kernel_rfl) (by kernel_rfl) oblN ?_
  refine Runs.now (x := .ret) (by kernel_rfl) ⟨.inr rfl, [rowA 26 (L :: (a ++ c)).length], by kernel_rfl, 26, [], Nat.le_refl 26, fun j hj h => (by cases h), rfl, by kernel_rfl, fun j hj => ?_⟩
  exact Eq.trans (congrArg (fun h : AH => h.get j) (show _ = hp (osD H L T D E a c ++ [rowL (L :: (a ++ c))]) by kernel_rfl)) (hp_lt (show j < (osD H L T D E a c).length from hj) _)

theorem concat_says (H L T D : Nat) (E : Value) (a c : List Nat) (hE : Clo 16 E) (ha : a.length < 400) (hc : c.length < 400) :
    Says Tryd.prog (hp (osD H L T D E a c)) 108 [s25] (.slice (some ⟨26, 0, some 1⟩) (L :: (a ++ c)).length (L :: (a ++ c)).length) ((hp (osD H L T D E a c)).new (.cells (litI (L :: (a ++ c))) true [] (some 3))).2 := by
  have hlo : (osD H L T D E a c).length = 26 := rfl
  have hnx : (hp (osD H L T D E a c)).next = 26 := hp_next _
  have := fresh_from (concat_local H L T D E a c hE ha hc) hnx (by rw [hnx]; exact Nat.le_refl 26) (fun i hi => rfl) (fun v hv => by rw [List.mem_singleton.1 hv]; exact clo_of 10 26 _ (by kernel_rfl))
    (fun i hi => by rw [hp_get _ i _ (List.getElem?_eq_getElem (by rw [hlo]; exact hi))]; exact osD_clo hE (Nat.le_refl 26) _ (List.getElem_mem _)) (litI_plain _)
  rw [hnx] at this
  exact this
end
end Go.Proofs.YtgnkjmgkfibipaaDoor

/- Where all plans are made: the innermost function, which puts a plan together and hands it on. -/
namespace Go.Proofs.YtgnkjmgkfibipaaDoor
set_option linter.unusedVariables false
set_option linter.unusedSimpArgs false
open Go Go.R
set_option maxRecDepth 1000000
noncomputable section

noncomputable def c107 : Code := bodyOf Tryd.f107
noncomputable def fnV (fid m : Nat) : Value := .func (.func fid) #[] (capsAt (List.range m)).toArray
theorem fnV_clo {fid m : Nat} (hm : m ≤ 16) : Clo 16 (fnV fid m) := by
  refine clo_of 10 16 _ ?_
  show (false || (([] : List Value).all (cloB 9 16) && (capsAt (List.range m)).all (cloB 9 16))) = true
  rw [Bool.false_or, Bool.and_eq_true]
  refine ⟨rfl, List.all_eq_true.2 fun v hv => ?_⟩
  obtain ⟨p, hp, rfl⟩ := List.mem_map.1 hv
  show (false || Nat.blt p 16) = true
  have := List.mem_range.1 hp
  rw [Bool.false_or, Nat.blt_eq]
  omega

theorem dyn_at' {call : CallF} {c : Code} {ov : List Via} {af : AF} {i p d : Nat} {v : Value} (h : opA Tryd.prog (evalA (preV Tryd.prog call c ov af i).tm) (opAt c i).op (preV Tryd.prog call c ov af p).h = some (v, (preV Tryd.prog call c ov af p).h))
    (hd : (opAt c i).dst = some d) (hv : (preV Tryd.prog call c ov af (i + 1)).tm.get d = some v) : DynAt Tryd.prog call c ov af (i, p) :=
  ⟨v, _, h, fun d' hd' => by rw [hd] at hd'; cases hd'; exact hv⟩

theorem maxV_nat (x y : Nat) : maxV (.ofNat x) (.ofNat y) = .ofNat (max x y) := by
  unfold maxV
  by_cases h : y > x
  · rw [if_pos (show Int.ofNat y > Int.ofNat x from Int.ofNat_lt.2 h), Nat.max_eq_right (by omega)]
  · rw [if_neg (show ¬ Int.ofNat y > Int.ofNat x from fun q => h (Int.ofNat_lt.1 q)), Nat.max_eq_left (by omega)]

/-- The heap of the middle function. -/
noncomputable def osB (H L T D : Nat) (E : Value) (a : List Nat) : List AObj := roots ++ [boxI H, boxF E, boxI L, planO (some 3) a, boxS (planV 19 a), boxI T, boxI D]

theorem osB_clo {H L T D : Nat} {E : Value} {a : List Nat} (hE : Clo 16 E) {k : Nat} (hk : 23 ≤ k) : ∀ o ∈ osB H L T D E a, CloO k o := by
  intro o ho
  rcases List.mem_append.1 ho with h | h
  · rw [roots_mem h]; trivial
  · simp only [List.mem_cons, List.mem_nil_iff, or_false] at h
    rcases h with rfl | rfl | rfl | rfl | rfl | rfl | rfl
    · exact cloO_one (clo_plain rfl) _
    · exact cloO_one (hE.mono (by omega)) _
    · exact cloO_one (clo_plain rfl) _
    · exact planO_plain a k
    · exact cloO_one (planV_clo (by omega) a) _
    · exact cloO_one (clo_plain rfl) _
    · exact cloO_one (clo_plain rfl) _
theorem osB_tidy (H L T D : Nat) (E : Value) (a : List Nat) : ((osB H L T D E a).all tidyOb) = true := by
  cases a <;> kernel_rfl

theorem plIn_says {σ : Type} {I : Hid σ} (hI : I.k ≤ 16) {fid m : Nat} (hm : m ≤ 16) {ok : List Nat → Nat → Nat → Prop} {step : σ → List Nat → Nat → Nat → σ} (C : CB Tryd.prog I (some 3) fid m ok step) (H L T D : Nat) (a c : List Nat) (u d : Nat) (s : σ)
    (ha : a.length < 400) (hc : c.length < 400) (hT : T < 1000) (hD : D < 1000) (hu : u < 1000) (hd : d < 1000) (hok : ok (L :: (a ++ c)) (1 + max T u) (max (D + 1) d)) :
    SaysI Tryd.prog I (hp (osB H L T D (fnV fid m) a ++ [planO (some 3) c])) s 107 (planV 23 c :: .int .i64 (.ofNat u) :: .int .i64 (.ofNat d) :: capsAt [17, 18, 20, 21, 22]) (.tuple #[]) (hp (osB H L T D (fnV fid m) a ++ [.dead])) (step s (L :: (a ++ c)) (1 + max T u) (max (D + 1) d)) := by
  have hE := fnV_clo (fid := fid) hm
  refine saysI_row noNum hI Tryd.func107 (show Tryd.f107.body = some c107 by kernel_rfl) (show Tryd.f107.results.toList = [] by kernel_rfl) (n := 23) rfl (by decide) (osB_clo hE (by decide)) ?_
  obtain ⟨E, hEe⟩ : ∃ E, E = fnV fid m := ⟨_, rfl⟩
  have e1 : wrapF .i64 (Int.add (.ofNat 1) (.ofNat (max T u))) = .ofNat (1 + max T u) := wrap_addN (by omega)
  have e2 : wrapF .i64 (Int.add (.ofNat D) (.ofNat 1)) = .ofNat (D + 1) := wrap_addN (by omega)
  have g0 : ∀ i, i < 16 → (hp (osD H L T D (fnV fid m) a c ++ [rowL (L :: (a ++ c))])).get i = .dead := fun i hi => by
    rw [show osD H L T D (fnV fid m) a c ++ [rowL (L :: (a ++ c))] = roots ++ ([boxI H, boxF (fnV fid m), boxI L, planO (some 3) a, boxS (planV 19 a), boxI T, boxI D, planO (some 3) c] ++ [rowL [L], .cells [.slice (some ⟨24, 0, none⟩) 1 1, planV 19 a, planV 23 c] true [] (some 24)] ++ [rowL (L :: (a ++ c))]) by
      simp only [osD, osC, List.append_assoc]]
    exact roots_at hi _
  have td : tidy (hp (osD H L T D (fnV fid m) a c ++ [rowL (L :: (a ++ c))])) = true := tidy_hp (by rw [List.all_append, osD_tidy]; rfl)
  have nx : (hp (osD H L T D (fnV fid m) a c ++ [rowL (L :: (a ++ c))])).next = 27 := by rw [hp_next]; rfl
  have tl' := cb_told hI C hm s (L :: (a ++ c)) (1 + max T u) (max (D + 1) d) hok (h := hp (osD H L T D (fnV fid m) a c ++ [rowL (L :: (a ++ c))])) (h1 := (hp (osD H L T D (fnV fid m) a c ++ [rowL (L :: (a ++ c))])).put 26 .dead) (q := 26) (tp := some 3)
    g0 (by rw [nx]; decide) td (.inr ⟨by decide, by rw [nx]; decide, hp_last (osD H L T D (fnV fid m) a c) (rowL (L :: (a ++ c)))⟩) (.inr rfl) rfl
  have cs := concat_says H L T D (fnV fid m) a c hE ha hc
  rcases a with _ | ⟨x, a⟩
  · rcases c with _ | ⟨y, c⟩
    · refine RunsI.cbE mixed hk38 (show I.k ≤ 24 by omega) [viaH 6 108 [s25] (.slice (some ⟨26, 0, some 1⟩) (L :: ([] ++ [])).length (L :: ([] ++ [])).length) (((hp (osD H L T D (fnV fid m) [] [])).new (.cells (litI (L :: ([] ++ []))) true [] (some 3))).2), viaV 9 (.int .i64 (.ofNat (max T u))), viaV 10 (.int .i64 (.ofNat (1 + max T u))), viaV 12 (.int .i64 (.ofNat (D + 1))), viaV 14 (.int .i64 (.ofNat (max (D + 1) d)))]
        [(0, 5), (0, 6), (0, 16), (3, 2), (7, 2), (7, 5), (7, 6), (11, 2), (11, 5), (11, 6)] (by kernel_rfl) (by kernel_rfl)
        (.inr ⟨by kernel_rfl, dynC (dyn_at' (d := 11) (v := fnV fid m) (by kernel_rfl) (by kernel_rfl) (by kernel_rfl)) (dynC (dyn_at' (d := 11) (v := fnV fid m) (by kernel_rfl) (by kernel_rfl) (by kernel_rfl)) (dynC (dyn_at' (d := 11) (v := fnV fid m) (by kernel_rfl) (by kernel_rfl) (by kernel_rfl))
          (dynC (dyn_at' (d := 14) (v := planV 19 []) (by kernel_rfl) (by kernel_rfl) (by kernel_rfl))
          (dynC (dyn_at' (d := 18) (v := .int .i64 (.ofNat T)) (by kernel_rfl) (by kernel_rfl) (by kernel_rfl)) (dynC (dyn_at' (d := 18) (v := .int .i64 (.ofNat T)) (by kernel_rfl) (by kernel_rfl) (by kernel_rfl)) (dynC (dyn_at' (d := 18) (v := .int .i64 (.ofNat T)) (by kernel_rfl) (by kernel_rfl) (by kernel_rfl))
          (dynC (dyn_at' (d := 22) (v := .int .i64 (.ofNat D)) (by kernel_rfl) (by kernel_rfl) (by kernel_rfl)) (dynC (dyn_at' (d := 22) (v := .int .i64 (.ofNat D)) (by kernel_rfl) (by kernel_rfl) (by kernel_rfl)) (dynC (dyn_at' (d := 22) (v := .int .i64 (.ofNat D)) (by kernel_rfl) (by kernel_rfl) (by kernel_rfl)) dynN)))))))))⟩)
        (by kernel_rfl)
        (oblC (shown_callHE (by kernel_rfl) (by kernel_rfl) cs) (oblC (shown_eq (v := .int .i64 (maxV (.ofNat T) (.ofNat u))) (by kernel_rfl) (by kernel_rfl) (by rw [maxV_nat])) (oblC (shown_eq (v := .int .i64 (wrapF .i64 (Int.add (.ofNat 1) (.ofNat (max T u))))) (by kernel_rfl) (by kernel_rfl) (by rw [e1]))
          (oblC (shown_eq (v := .int .i64 (wrapF .i64 (Int.add (.ofNat D) (.ofNat 1)))) (by kernel_rfl) (by kernel_rfl) (by rw [e2])) (oblC (shown_eq (v := .int .i64 (maxV (.ofNat (D + 1)) (.ofNat d))) (by kernel_rfl) (by kernel_rfl) (by rw [maxV_nat])) oblN)))))
        (by kernel_rfl) (by kernel_rfl) tl' ⟨.inl rfl, rfl, by kernel_rfl, by kernel_rfl⟩
    · refine RunsI.cbE mixed hk38 (show I.k ≤ 24 by omega) [viaH 6 108 [s25] (.slice (some ⟨26, 0, some 1⟩) (L :: ([] ++ (y :: c))).length (L :: ([] ++ (y :: c))).length) (((hp (osD H L T D (fnV fid m) [] (y :: c))).new (.cells (litI (L :: ([] ++ (y :: c)))) true [] (some 3))).2), viaV 9 (.int .i64 (.ofNat (max T u))), viaV 10 (.int .i64 (.ofNat (1 + max T u))), viaV 12 (.int .i64 (.ofNat (D + 1))), viaV 14 (.int .i64 (.ofNat (max (D + 1) d)))]
        [(0, 5), (0, 6), (0, 16), (3, 2), (7, 2), (7, 5), (7, 6), (11, 2), (11, 5), (11, 6)] (by kernel_rfl) (by kernel_rfl)
        (.inr ⟨by kernel_rfl, dynC (dyn_at' (d := 11) (v := fnV fid m) (by kernel_rfl) (by kernel_rfl) (by kernel_rfl)) (dynC (dyn_at' (d := 11) (v := fnV fid m) (by kernel_rfl) (by kernel_rfl) (by kernel_rfl)) (dynC (dyn_at' (d := 11) (v := fnV fid m) (by kernel_rfl) (by kernel_rfl) (by kernel_rfl))
          (dynC (dyn_at' (d := 14) (v := planV 19 []) (by kernel_rfl) (by kernel_rfl) (by kernel_rfl))
          (dynC (dyn_at' (d := 18) (v := .int .i64 (.ofNat T)) (by kernel_rfl) (by kernel_rfl) (by kernel_rfl)) (dynC (dyn_at' (d := 18) (v := .int .i64 (.ofNat T)) (by kernel_rfl) (by kernel_rfl) (by kernel_rfl)) (dynC (dyn_at' (d := 18) (v := .int .i64 (.ofNat T)) (by kernel_rfl) (by kernel_rfl) (by kernel_rfl))
          (dynC (dyn_at' (d := 22) (v := .int .i64 (.ofNat D)) (by kernel_rfl) (by kernel_rfl) (by kernel_rfl)) (dynC (dyn_at' (d := 22) (v := .int .i64 (.ofNat D)) (by kernel_rfl) (by kernel_rfl) (by kernel_rfl)) (dynC (dyn_at' (d := 22) (v := .int .i64 (.ofNat D)) (by kernel_rfl) (by kernel_rfl) (by kernel_rfl)) dynN)))))))))⟩)
        (by kernel_rfl)
        (oblC (shown_callHE (by kernel_rfl) (by kernel_rfl) cs) (oblC (shown_eq (v := .int .i64 (maxV (.ofNat T) (.ofNat u))) (by kernel_rfl) (by kernel_rfl) (by rw [maxV_nat])) (oblC (shown_eq (v := .int .i64 (wrapF .i64 (Int.add (.ofNat 1) (.ofNat (max T u))))) (by kernel_rfl) (by kernel_rfl) (by rw [e1]))
          (oblC (shown_eq (v := .int .i64 (wrapF .i64 (Int.add (.ofNat D) (.ofNat 1)))) (by kernel_rfl) (by kernel_rfl) (by rw [e2])) (oblC (shown_eq (v := .int .i64 (maxV (.ofNat (D + 1)) (.ofNat d))) (by kernel_rfl) (by kernel_rfl) (by rw [maxV_nat])) oblN)))))
        (by kernel_rfl) (by kernel_rfl) tl' ⟨.inl rfl, rfl, by kernel_rfl, by kernel_rfl⟩
  · rcases c with _ | ⟨y, c⟩
    · refine RunsI.cbE mixed hk38 (show I.k ≤ 24 by omega) [viaH 6 108 [s25] (.slice (some ⟨26, 0, some 1⟩) (L :: ((x :: a) ++ [])).length (L :: ((x :: a) ++ [])).length) (((hp (osD H L T D (fnV fid m) (x :: a) [])).new (.cells (litI (L :: ((x :: a) ++ []))) true [] (some 3))).2), viaV 9 (.int .i64 (.ofNat (max T u))), viaV 10 (.int .i64 (.ofNat (1 + max T u))), viaV 12 (.int .i64 (.ofNat (D + 1))), viaV 14 (.int .i64 (.ofNat (max (D + 1) d)))]
        [(0, 5), (0, 6), (0, 16), (3, 2), (7, 2), (7, 5), (7, 6), (11, 2), (11, 5), (11, 6)] (by kernel_rfl) (by kernel_rfl)
        (.inr ⟨by kernel_rfl, dynC (dyn_at' (d := 11) (v := fnV fid m) (by kernel_rfl) (by kernel_rfl) (by kernel_rfl)) (dynC (dyn_at' (d := 11) (v := fnV fid m) (by kernel_rfl) (by kernel_rfl) (by kernel_rfl)) (dynC (dyn_at' (d := 11) (v := fnV fid m) (by kernel_rfl) (by kernel_rfl) (by kernel_rfl))
          (dynC (dyn_at' (d := 14) (v := planV 19 (x :: a)) (by kernel_rfl) (by kernel_rfl) (by kernel_rfl))
          (dynC (dyn_at' (d := 18) (v := .int .i64 (.ofNat T)) (by kernel_rfl) (by kernel_rfl) (by kernel_rfl)) (dynC (dyn_at' (d := 18) (v := .int .i64 (.ofNat T)) (by kernel_rfl) (by kernel_rfl) (by kernel_rfl)) (dynC (dyn_at' (d := 18) (v := .int .i64 (.ofNat T)) (by kernel_rfl) (by kernel_rfl) (by kernel_rfl))
          (dynC (dyn_at' (d := 22) (v := .int .i64 (.ofNat D)) (by kernel_rfl) (by kernel_rfl) (by kernel_rfl)) (dynC (dyn_at' (d := 22) (v := .int .i64 (.ofNat D)) (by kernel_rfl) (by kernel_rfl) (by kernel_rfl)) (dynC (dyn_at' (d := 22) (v := .int .i64 (.ofNat D)) (by kernel_rfl) (by kernel_rfl) (by kernel_rfl)) dynN)))))))))⟩)
        (by kernel_rfl)
        (oblC (shown_callHE (by kernel_rfl) (by kernel_rfl) cs) (oblC (shown_eq (v := .int .i64 (maxV (.ofNat T) (.ofNat u))) (by kernel_rfl) (by kernel_rfl) (by rw [maxV_nat])) (oblC (shown_eq (v := .int .i64 (wrapF .i64 (Int.add (.ofNat 1) (.ofNat (max T u))))) (by kernel_rfl) (by kernel_rfl) (by rw [e1]))
          (oblC (shown_eq (v := .int .i64 (wrapF .i64 (Int.add (.ofNat D) (.ofNat 1)))) (by kernel_rfl) (by kernel_rfl) (by rw [e2])) (oblC (shown_eq (v := .int .i64 (maxV (.ofNat (D + 1)) (.ofNat d))) (by kernel_rfl) (by kernel_rfl) (by rw [maxV_nat])) oblN)))))
        (by kernel_rfl) (by kernel_rfl) tl' ⟨.inl rfl, rfl, by kernel_rfl, by kernel_rfl⟩
    · refine RunsI.cbE mixed hk38 (show I.k ≤ 24 by omega) [viaH 6 108 [s25] (.slice (some ⟨26, 0, some 1⟩) (L :: ((x :: a) ++ (y :: c))).length (L :: ((x :: a) ++ (y :: c))).length) (((hp (osD H L T D (fnV fid m) (x :: a) (y :: c))).new (.cells (litI (L :: ((x :: a) ++ (y :: c)))) true [] (some 3))).2), viaV 9 (.int .i64 (.ofNat (max T u))), viaV 10 (.int .i64 (.ofNat (1 + max T u))), viaV 12 (.int .i64 (.ofNat (D + 1))), viaV 14 (.int .i64 (.ofNat (max (D + 1) d)))]
        [(0, 5), (0, 6), (0, 16), (3, 2), (7, 2), (7, 5), (7, 6), (11, 2), (11, 5), (11, 6)] (by kernel_rfl) (by kernel_rfl)
        (.inr ⟨by kernel_rfl, dynC (dyn_at' (d := 11) (v := fnV fid m) (by kernel_rfl) (by kernel_rfl) (by kernel_rfl)) (dynC (dyn_at' (d := 11) (v := fnV fid m) (by kernel_rfl) (by kernel_rfl) (by kernel_rfl)) (dynC (dyn_at' (d := 11) (v := fnV fid m) (by kernel_rfl) (by kernel_rfl) (by kernel_rfl))
          (dynC (dyn_at' (d := 14) (v := planV 19 (x :: a)) (by kernel_rfl) (by kernel_rfl) (by kernel_rfl))
          (dynC (dyn_at' (d := 18) (v := .int .i64 (.ofNat T)) (by kernel_rfl) (by kernel_rfl) (by kernel_rfl)) (dynC (dyn_at' (d := 18) (v := .int .i64 (.ofNat T)) (by kernel_rfl) (by kernel_rfl) (by kernel_rfl)) (dynC (dyn_at' (d := 18) (v := .int .i64 (.ofNat T)) (by kernel_rfl) (by kernel_rfl) (by kernel_rfl))
          (dynC (dyn_at' (d := 22) (v := .int .i64 (.ofNat D)) (by kernel_rfl) (by kernel_rfl) (by kernel_rfl)) (dynC (dyn_at' (d := 22) (v := .int .i64 (.ofNat D)) (by kernel_rfl) (by kernel_rfl) (by kernel_rfl)) (dynC (dyn_at' (d := 22) (v := .int .i64 (.ofNat D)) (by kernel_rfl) (by kernel_rfl) (by kernel_rfl)) dynN)))))))))⟩)
        (by kernel_rfl)
        (oblC (shown_callHE (by kernel_rfl) (by kernel_rfl) cs) (oblC (shown_eq (v := .int .i64 (maxV (.ofNat T) (.ofNat u))) (by kernel_rfl) (by kernel_rfl) (by rw [maxV_nat])) (oblC (shown_eq (v := .int .i64 (wrapF .i64 (Int.add (.ofNat 1) (.ofNat (max T u))))) (by kernel_rfl) (by kernel_rfl) (by rw [e1]))
          (oblC (shown_eq (v := .int .i64 (wrapF .i64 (Int.add (.ofNat D) (.ofNat 1)))) (by kernel_rfl) (by kernel_rfl) (by rw [e2])) (oblC (shown_eq (v := .int .i64 (maxV (.ofNat (D + 1)) (.ofNat d))) (by kernel_rfl) (by kernel_rfl) (by rw [maxV_nat])) oblN)))))
        (by kernel_rfl) (by kernel_rfl) tl' ⟨.inl rfl, rfl, by kernel_rfl, by kernel_rfl⟩
end
end Go.Proofs.YtgnkjmgkfibipaaDoor

/- All plans, as a list (in Lean alone). -/
namespace Go.Proofs.YtgnkjmgkfibipaaDoor
set_option linter.unusedVariables false
set_option linter.unusedSimpArgs false

/-- Plans for the n levels above low, each with its worst case; the first number is fuel. -/
def plansF : Nat → Nat → Nat → List (List Nat × Nat × Nat)
  | 0, _, _ => []
  | _ + 1, _, 0 => [([], 0, 0)]
  | f + 1, low, n + 1 => (List.range (n + 1)).flatMap fun i => (plansF f low i).flatMap fun p => (plansF f (low + 1 + i) (n - i)).map fun q =>
      ((low + 1 + i) :: (p.1 ++ q.1), 1 + max p.2.1 q.2.1, max (p.2.2 + 1) q.2.2)

def foldP {σ : Type} (step : σ → List Nat → Nat → Nat → σ) (s : σ) (l : List (List Nat × Nat × Nat)) : σ := l.foldl (fun s p => step s p.1 p.2.1 p.2.2) s

theorem plansF_small : ∀ (f low n : Nat) (p : List Nat × Nat × Nat), p ∈ plansF f low n → p.1.length = n ∧ p.2.1 ≤ n ∧ p.2.2 ≤ n
  | 0, low, n, p, h => by cases h
  | f + 1, low, 0, p, h => by
    rw [plansF, List.mem_singleton] at h
    subst h
    exact ⟨rfl, Nat.le_refl _, Nat.le_refl _⟩
  | f + 1, low, n + 1, p, h => by
    rw [plansF] at h
    obtain ⟨i, hi, h⟩ := List.mem_flatMap.1 h
    obtain ⟨a, ha, h⟩ := List.mem_flatMap.1 h
    obtain ⟨c, hc, rfl⟩ := List.mem_map.1 h
    have hin := List.mem_range.1 hi
    obtain ⟨a1, a2, a3⟩ := plansF_small f low i a ha
    obtain ⟨c1, c2, c3⟩ := plansF_small f (low + 1 + i) (n - i) c hc
    refine ⟨?_, ?_, ?_⟩
    · simp only [List.length_cons, List.length_append]; omega
    · show 1 + max a.2.1 c.2.1 ≤ n + 1; omega
    · show max (a.2.2 + 1) c.2.2 ≤ n + 1; omega

theorem plansF_mem {f low i n : Nat} {a c : List Nat} {T D u d : Nat} (ha : (a, T, D) ∈ plansF f low i) (hc : (c, u, d) ∈ plansF f (low + 1 + i) n) :
    ((low + 1 + i) :: (a ++ c), 1 + max T u, max (D + 1) d) ∈ plansF (f + 1) low (i + n + 1) := by
  rw [plansF]
  refine List.mem_flatMap.2 ⟨i, List.mem_range.2 (by omega), List.mem_flatMap.2 ⟨_, ha, List.mem_map.2 ⟨(c, u, d), ?_, rfl⟩⟩⟩
  rw [show i + n - i = n by omega]
  exact hc

theorem foldP_all {σ : Type} (step : σ → List Nat → Nat → Nat → σ) (f low n : Nat) (s : σ) :
    foldP step s (plansF (f + 1) low (n + 1)) = (List.range (n + 1)).foldl (fun s i => foldP (fun s a T D => foldP (fun s c u d => step s ((low + 1 + i) :: (a ++ c)) (1 + max T u) (max (D + 1) d)) s (plansF f (low + 1 + i) (n - i))) s (plansF f low i)) s := by
  unfold foldP
  rw [plansF, List.foldl_flatMap]
  simp only [List.foldl_flatMap, List.foldl_map]
end Go.Proofs.YtgnkjmgkfibipaaDoor

/- All plans: the middle function, and the whole. -/
namespace Go.Proofs.YtgnkjmgkfibipaaDoor
set_option linter.unusedVariables false
set_option linter.unusedSimpArgs false
open Go Go.R
set_option maxRecDepth 1000000
noncomputable section

noncomputable def c106 : Code := bodyOf Tryd.f106
noncomputable def c53 : Code := bodyOf Tryd.f53
noncomputable def lp53 : Code := within (tl (tl (tl c53)))
/-- The heap of the outer function. -/
noncomputable def osA (H L : Nat) (E : Value) : List AObj := roots ++ [boxI H, boxF E, boxI L]
theorem osA_clo {H L : Nat} {E : Value} (hE : Clo 16 E) {k : Nat} (hk : 16 ≤ k) : ∀ o ∈ osA H L E, CloO k o := by
  intro o ho
  rcases List.mem_append.1 ho with h | h
  · rw [roots_mem h]; trivial
  · simp only [List.mem_cons, List.mem_nil_iff, or_false] at h
    rcases h with rfl | rfl | rfl
    · exact cloO_one (clo_plain rfl) _
    · exact cloO_one (hE.mono hk) _
    · exact cloO_one (clo_plain rfl) _
theorem osA_tidy (H L : Nat) (E : Value) : ((osA H L E).all tidyOb) = true := by kernel_rfl

/-- What the function does, whatever it calls. -/
def PlOK (n : Nat) : Prop := ∀ (f : Nat), n < f → ∀ (σ : Type) (I : Hid σ), I.k ≤ 16 → ∀ (fid m low : Nat), m ≤ 16 → low + n ≤ 12 → ∀ (step : σ → List Nat → Nat → Nat → σ),
  CB Tryd.prog I (some 3) fid m (fun l t d => (l, t, d) ∈ plansF f low n) step → ∀ s, SaysI Tryd.prog I (hp roots) s 53 [i64 low, i64 (low + n), fnV fid m] (.tuple #[]) (hp roots) (foldP step s (plansF f low n))

theorem plMid_says {σ : Type} {I : Hid σ} (hI : I.k ≤ 16) {fid m : Nat} (hm : m ≤ 16) {step : σ → List Nat → Nat → Nat → σ} {f low i n : Nat} (hf : n < f) (IH : PlOK n)
    (C : CB Tryd.prog I (some 3) fid m (fun l t d => (l, t, d) ∈ plansF (f + 1) low (i + n + 1)) step) (hb : low + (i + n + 1) ≤ 12) {a : List Nat} {T D : Nat} (ha : (a, T, D) ∈ plansF f low i) (s : σ) :
    SaysI Tryd.prog I (hp (osA (low + (i + n + 1)) (low + 1 + i) (fnV fid m) ++ [planO (some 3) a])) s 106 (planV 19 a :: .int .i64 (.ofNat T) :: .int .i64 (.ofNat D) :: capsAt [18, 16, 17]) (.tuple #[])
      (hp (osA (low + (i + n + 1)) (low + 1 + i) (fnV fid m) ++ [.dead])) (foldP (fun s c u d => step s ((low + 1 + i) :: (a ++ c)) (1 + max T u) (max (D + 1) d)) s (plansF f (low + 1 + i) n)) := by
  have hE := fnV_clo (fid := fid) hm
  obtain ⟨ha1, ha2, ha3⟩ := plansF_small f low i _ ha
  simp only at ha1 ha2 ha3
  have hsay := hide_call (P := Tryd.prog) (I := I) (h := hp (osB (low + (i + n + 1)) (low + 1 + i) T D (fnV fid m) a)) (tidy_hp (osB_tidy _ _ _ _ _ _)) (ps := [17, 18, 20, 21, 22]) (by decide) (s := s)
    (s1 := foldP (fun s c u d => step s ((low + 1 + i) :: (a ++ c)) (1 + max T u) (max (D + 1) d)) s (plansF f (low + 1 + i) n)) (f := 53) (pre := [i64 (low + 1 + i), i64 (low + (i + n + 1))]) (fid := 107)
    (fun v hv => by simp only [List.mem_cons, List.mem_nil_iff, or_false] at hv; rcases hv with rfl | rfl <;> rfl)
    (fun F w0 μ w H => by
      have := IH f hf σ (I.hide μ (hp (osB (low + (i + n + 1)) (low + 1 + i) T D (fnV fid m) a)) [17, 18, 20, 21, 22]) (Nat.le_refl 16) 107 5 (low + 1 + i) (by decide) (by omega) (fun s c u d => step s ((low + 1 + i) :: (a ++ c)) (1 + max T u) (max (D + 1) d))
        (hide_cb hI (tidy_hp (osB_tidy _ _ _ _ _ _)) (show 16 ≤ 23 by decide) (osB_clo hE (Nat.le_refl 23)) (by decide) (fun p hp => by simp only [List.mem_cons, List.mem_nil_iff, or_false] at hp; show p < 23; omega) H (fun s c u d hc => by
          obtain ⟨hc1, hc2, hc3⟩ := plansF_small f (low + 1 + i) n _ hc
          simp only at hc1 hc2 hc3
          exact plIn_says hI hm C (low + (i + n + 1)) (low + 1 + i) T D a c u d s (by omega) (by omega) (by omega) (by omega) (by omega) (by omega) (plansF_mem ha hc))) s
      rw [show low + 1 + i + n = low + (i + n + 1) by omega] at this
      exact this)
  refine saysI_row noNum hI Tryd.func106 (show Tryd.f106.body = some c106 by kernel_rfl) (show Tryd.f106.results.toList = [] by kernel_rfl) (n := 19) rfl (by decide) (osA_clo hE (by decide)) ?_
  cases a with
  | nil =>
    refine RunsI.sqR mixed hk38 (show I.k ≤ 20 by omega) [] (by kernel_rfl) (by kernel_rfl) (by kernel_rfl) oblN ?_
    exact RunsI.cbE mixed hk38 (show I.k ≤ 20 by omega) [] [] (by kernel_rfl) (by kernel_rfl) (.inl (by kernel_rfl)) (by kernel_rfl) oblN (by kernel_rfl) (by kernel_rfl) hsay ⟨.inl rfl, rfl, by kernel_rfl, by kernel_rfl⟩
  | cons x a =>
    refine RunsI.sqR mixed hk38 (show I.k ≤ 20 by omega) [] (by kernel_rfl) (by kernel_rfl) (by kernel_rfl) oblN ?_
    exact RunsI.cbE mixed hk38 (show I.k ≤ 20 by omega) [] [] (by kernel_rfl) (by kernel_rfl) (.inl (by kernel_rfl)) (by kernel_rfl) oblN (by kernel_rfl) (by kernel_rfl) hsay ⟨.inl rfl, rfl, by kernel_rfl, by kernel_rfl⟩
end
end Go.Proofs.YtgnkjmgkfibipaaDoor

/- All plans: each is handed on, in the list's order. -/
namespace Go.Proofs.YtgnkjmgkfibipaaDoor
set_option linter.unusedVariables false
set_option linter.unusedSimpArgs false
open Go Go.R
set_option maxRecDepth 1000000
noncomputable section

noncomputable def Spl (low : Nat) : List (Nat × Value) := [(0, i64 low), (4, .pointer (some ⟨16, 0, none⟩)), (5, .pointer (some ⟨17, 0, none⟩)), (6, .pointer (some ⟨18, 0, none⟩))]

/-- Behind the first rounds. -/
def afterR {σ : Type} (step : σ → List Nat → Nat → Nat → σ) (f low n : Nat) (s : σ) (i : Nat) : σ :=
  (List.range i).foldl (fun s i => foldP (fun s a T D => foldP (fun s c u d => step s ((low + 1 + i) :: (a ++ c)) (1 + max T u) (max (D + 1) d)) s (plansF f (low + 1 + i) (n - i))) s (plansF f low i)) s
theorem afterR_succ {σ : Type} (step : σ → List Nat → Nat → Nat → σ) (f low n : Nat) (s : σ) (i : Nat) :
    afterR step f low n s (i + 1) = foldP (fun s a T D => foldP (fun s c u d => step s ((low + 1 + i) :: (a ++ c)) (1 + max T u) (max (D + 1) d)) s (plansF f (low + 1 + i) (n - i))) (afterR step f low n s i) (plansF f low i) := by
  unfold afterR
  rw [List.range_succ, List.foldl_append]
  rfl

theorem leF_nat {a b : Nat} : leF (.ofNat a) (.ofNat b) = decide (a ≤ b) := by
  rw [leF_eq]
  exact decide_eq_decide.2 Int.ofNat_le

theorem plLoop {σ : Type} {I : Hid σ} (hI : I.k ≤ 16) {fid m : Nat} (hm : m ≤ 16) {step : σ → List Nat → Nat → Nat → σ} {f low n : Nat} (hf : n < f) (IH : ∀ k, k ≤ n → PlOK k)
    (C : CB Tryd.prog I (some 3) fid m (fun l t d => (l, t, d) ∈ plansF (f + 1) low (n + 1)) step) (hb : low + (n + 1) ≤ 12) (s : σ) : ∀ d i, i + d = n + 1 →
      RunsI Tryd.prog I 16 lp53 (sth (Spl low) 25 (osA (low + (n + 1)) (low + 1 + i) (fnV fid m))) (afterR step f low n s i) fun x af s' => x = .exit 0 ∧ s' = afterR step f low n s (n + 1) ∧ Nat.ble 16 af.h.next = true := by
  have hE := fnV_clo (fid := fid) hm
  have hI16 : I.k ≤ 16 := hI
  intro d
  induction d with
  | zero =>
    intro i hi
    have : i = n + 1 := by omega
    subst this
    refine RunsI.lp (by kernel_rfl) (RunsI.sq (by kernel_rfl) (RunsI.sqR mixed hk38 hI [] (by kernel_rfl) (by kernel_rfl) (by kernel_rfl) oblN ?_))
    refine RunsI.cd (b := leF (.ofNat (low + 1 + (n + 1))) (.ofNat (low + (n + 1)))) (by kernel_rfl) (fun ht => by rw [leF_nat, decide_eq_true_eq] at ht; omega) (fun _ => RunsI.now (x := .exit 0) hI (by kernel_rfl) ⟨rfl, rfl, by kernel_rfl⟩)
  | succ d ih =>
    intro i hi
    have hin : i ≤ n := by omega
    obtain ⟨j, hj⟩ : ∃ j, n = i + j := ⟨n - i, by omega⟩
    have hle : leF (.ofNat (low + 1 + i)) (.ofNat (low + (n + 1))) = true := by rw [leF_nat, decide_eq_true_eq]; omega
    have e1 : wrapF .i64 (Int.sub (.ofNat (low + 1 + i)) 1) = .ofNat (low + i) := by
      rw [show Int.sub (.ofNat (low + 1 + i)) 1 = Int.ofNat (low + i) by show ((low + 1 + i : Nat) : Int) - 1 = ((low + i : Nat) : Int); omega]
      exact wrap_ofNat (by omega)
    have e2 : wrapF .i64 (Int.add (.ofNat (low + 1 + i)) (.ofNat 1)) = .ofNat (low + 1 + (i + 1)) := wrap_addN (by omega)
    have hsay := hide_call (P := Tryd.prog) (I := I) (h := hp (osA (low + (n + 1)) (low + 1 + i) (fnV fid m))) (tidy_hp (osA_tidy _ _ _)) (ps := [18, 16, 17]) (by decide) (s := afterR step f low n s i)
      (s1 := afterR step f low n s (i + 1)) (f := 53) (pre := [i64 low, i64 (low + i)]) (fid := 106)
      (fun v hv => by simp only [List.mem_cons, List.mem_nil_iff, or_false] at hv; rcases hv with rfl | rfl <;> rfl)
      (fun F w0 μ w H => by
        rw [afterR_succ]
        refine IH i hin f (by omega) σ (I.hide μ (hp (osA (low + (n + 1)) (low + 1 + i) (fnV fid m))) [18, 16, 17]) (Nat.le_refl 16) 106 3 low (by decide) (by omega) (fun s a T D => foldP (fun s c u d => step s ((low + 1 + i) :: (a ++ c)) (1 + max T u) (max (D + 1) d)) s (plansF f (low + 1 + i) (n - i)))
          (hide_cb hI (tidy_hp (osA_tidy _ _ _)) (show 16 ≤ 19 by decide) (osA_clo hE (show 16 ≤ 19 by decide)) (by decide) (fun p hp => by simp only [List.mem_cons, List.mem_nil_iff, or_false] at hp; show p < 19; omega) H (fun s a T D ha => ?_)) _
        have hnj : n - i = j := by omega
        rw [hnj]
        subst hj
        exact plMid_says hI hm (by omega) (IH j (by omega)) C hb ha s)
    refine RunsI.lp (by kernel_rfl) (RunsI.sq (by kernel_rfl) (RunsI.sqR mixed hk38 hI [] (by kernel_rfl) (by kernel_rfl) (by kernel_rfl) oblN ?_))
    refine RunsI.cd (b := leF (.ofNat (low + 1 + i)) (.ofNat (low + (n + 1)))) (by kernel_rfl) (fun _ => RunsI.now (x := .normal) hI (by kernel_rfl) ?_) (fun hf => by rw [hle] at hf; cases hf)
    show RunsI Tryd.prog I 16 _ _ _ _
    refine RunsI.sq (by kernel_rfl) (RunsI.bk (id := 1) (by kernel_rfl) ?_)
    refine RunsI.cbE mixed hk38 hI [viaV 2 (i64 (low + i))] [] (by kernel_rfl) (by kernel_rfl) (.inl (by kernel_rfl)) (by kernel_rfl) (oblC (shown_eq (v := .int .i64 (wrapF .i64 (Int.sub (.ofNat (low + 1 + i)) 1))) (by kernel_rfl) (by kernel_rfl) (by rw [e1]; rfl)) oblN)
      (by kernel_rfl) (by kernel_rfl) hsay ?_
    show RunsI Tryd.prog I 16 _ _ _ _
    refine RunsI.mono (RunsI.of (Q := fun x af => x = .normal ∧ Less 16 (sth (Spl low) 25 (osA (low + (n + 1)) (low + 1 + (i + 1)) (fnV fid m))) af) (Q' := fun x af s' => x = .normal ∧ s' = afterR step f low n s (i + 1) ∧ Less 16 (sth (Spl low) 25 (osA (low + (n + 1)) (low + 1 + (i + 1)) (fnV fid m))) af) hI ?_ (fun x af h => ⟨h.1, rfl, h.2⟩)) ?_
    · refine Runs.sq (by kernel_rfl) (Runs.sqR mixed hk38 [] (by kernel_rfl) (by kernel_rfl) (by kernel_rfl) oblN (Runs.rg mixed hk38 [] (by kernel_rfl) (by kernel_rfl) (by kernel_rfl) oblN ?_))
      show Runs Tryd.prog 16 _ _ _
      refine Runs.regrow (n := 18) (m := 19) (l := Spl low) (sz := 25) (os := roots ++ [boxI (low + (n + 1)), boxF (fnV fid m)]) (cells := [.int .i64 (.ofNat (low + 1 + i))]) (ty := some 3) (par := []) rfl (by decide) (by kernel_rfl) (by kernel_rfl) (by kernel_rfl)
        (fun o ho => ?_) (by decide) (by kernel_rfl) rfl (fun v hv => by rw [List.mem_singleton.1 hv]; rfl) (fun p hp => ?_) ?_
      · rcases List.mem_append.1 ho with h | h
        · rw [roots_mem h]; trivial
        · simp only [List.mem_cons, List.mem_nil_iff, or_false] at h
          rcases h with rfl | rfl
          · exact cloO_one (clo_plain rfl) _
          · exact cloO_one (hE.mono (by decide)) _
      · simp only [Spl, List.mem_cons, List.mem_nil_iff, or_false] at hp
        rcases hp with rfl | rfl | rfl | rfl
        · exact .inl ⟨by kernel_rfl, clo_plain rfl⟩
        · exact .inl ⟨by kernel_rfl, clo_of 10 18 _ (by kernel_rfl)⟩
        · exact .inl ⟨by kernel_rfl, clo_of 10 18 _ (by kernel_rfl)⟩
        · exact .inr (.inr ⟨rfl, by kernel_rfl⟩)
      refine Runs.rg mixed hk38 [viaV 1 (i64 (low + 1 + (i + 1)))] (by kernel_rfl) (by kernel_rfl) (by kernel_rfl) (oblC (shown_eq (v := .int .i64 (wrapF .i64 (Int.add (.ofNat (low + 1 + i)) (.ofNat 1)))) (by kernel_rfl) (by kernel_rfl) (by rw [e2]; rfl)) oblN) ?_
      exact ⟨rfl, less_seenP (clo_all (k := 19) (by kernel_rfl)) (osA_clo hE (show 16 ≤ 19 by decide)) (show 16 ≤ 19 by decide) (by kernel_rfl) (by kernel_rfl) (by kernel_rfl) (by kernel_rfl)⟩
    · rintro x af s' ⟨rfl, rfl, less⟩
      show RunsI Tryd.prog I 16 lp53 af _ _
      exact RunsI.less hI less (ih (i + 1) (by omega))

theorem plOK : ∀ n, PlOK n := by
  intro n
  induction n using Nat.strongRecOn with
  | _ n IH =>
  intro f hf σ I hI fid m low hm hb step C s
  have hE := fnV_clo (fid := fid) hm
  obtain ⟨f, rfl⟩ : ∃ g, f = g + 1 := ⟨f - 1, by omega⟩
  have rd : ∀ {i}, i < 16 → (hp roots).get i = .dead := fun {i} hi => by have := roots_at hi []; rwa [List.append_nil] at this
  have rn : (hp roots).next = 16 := hp_next _
  refine saysI_of noNum Tryd.func53 (show Tryd.f53.body = some c53 by kernel_rfl) (show Tryd.f53.results.toList = [] by kernel_rfl) (by rw [rn]; exact hI) rfl (fun i hi _ => .inl (rd (by rw [rn] at hi; exact hi))) ?_
  have fin : ∀ {x : AExit} {af' : AF} {s' s1 : σ}, x = .normal ∨ x = .ret → s' = s1 → Nat.ble 16 af'.h.next = true → EndI (hp roots) (hp roots) s1 x af' s' := fun h1 h2 h3 =>
    ⟨h1, h2, by rw [rn]; exact Nat.le_of_ble_eq_true h3, fun i hi => .inl (rd (by rw [rn] at hi; exact hi))⟩
  show RunsI Tryd.prog I 16 c53 _ _ _
  cases n with
  | zero =>
    refine RunsI.sqR mixed hk38 hI [] (by kernel_rfl) (by kernel_rfl) (by kernel_rfl) oblN ?_
    refine RunsI.sq (by kernel_rfl) (RunsI.sqR mixed hk38 hI [viaV 2 (.bool true)] (by kernel_rfl) (by kernel_rfl) (by kernel_rfl) (oblC (shown_eq (v := .bool (eqF (.ofNat low) (.ofNat (low + 0)))) (by kernel_rfl) (by kernel_rfl) (by rw [eqF_eq]; simp)) oblN) ?_)
    refine RunsI.cd (b := true) (by kernel_rfl) (fun _ => ?_) (fun h => by cases h)
    have hos : ∀ i, i < 16 → (hp (roots ++ [boxI (low + 0), boxF (fnV fid m)])).get i = .dead := fun i hi => roots_at hi _
    have tl' := cb_told hI C hm s [] 0 0 (by show ([], 0, 0) ∈ plansF (f + 1) low 0; rw [plansF]; simp) (h := hp (roots ++ [boxI (low + 0), boxF (fnV fid m)])) (h1 := hp (roots ++ [boxI (low + 0), boxF (fnV fid m)])) (q := 16) (tp := some 3)
      hos (by rw [hp_next]; show 16 ≤ 18; decide) (tidy_hp (by kernel_rfl)) (.inl rfl) (.inr rfl) rfl
    refine RunsI.sq (by kernel_rfl) (RunsI.cbE mixed hk38 hI [] [] (by kernel_rfl) (by kernel_rfl) (.inl (by kernel_rfl)) (by kernel_rfl) oblN (by kernel_rfl) (by kernel_rfl) tl' ?_)
    show RunsI Tryd.prog I 16 _ _ _ _
    refine RunsI.now (x := .ret) hI (by kernel_rfl) ?_
    exact fin (.inr rfl) (by rw [plansF]; rfl) (by kernel_rfl)
  | succ n =>
    have e1 : wrapF .i64 (Int.add (.ofNat low) (.ofNat 1)) = .ofNat (low + 1 + 0) := wrap_addN (by omega)
    refine RunsI.sqR mixed hk38 hI [] (by kernel_rfl) (by kernel_rfl) (by kernel_rfl) oblN ?_
    refine RunsI.sq (by kernel_rfl) (RunsI.sqR mixed hk38 hI [viaV 2 (.bool false)] (by kernel_rfl) (by kernel_rfl) (by kernel_rfl) (oblC (shown_eq (v := .bool (eqF (.ofNat low) (.ofNat (low + (n + 1))))) (by kernel_rfl) (by kernel_rfl) (by
      rw [eqF_eq, show ((Int.ofNat low) == (Int.ofNat (low + (n + 1)))) = false from beq_eq_false_iff_ne.2 (fun h => by have := Int.ofNat.inj h; omega)])) oblN) ?_)
    refine RunsI.cd (b := false) (by kernel_rfl) (fun h => by cases h) (fun _ => RunsI.now (x := .normal) hI (by kernel_rfl) ?_)
    show RunsI Tryd.prog I 16 _ _ _ _
    refine RunsI.sqR mixed hk38 hI [viaV 1 (i64 (low + 1 + 0))] (by kernel_rfl) (by kernel_rfl) (by kernel_rfl) (oblC (shown_eq (v := .int .i64 (wrapF .i64 (Int.add (.ofNat low) (.ofNat 1)))) (by kernel_rfl) (by kernel_rfl) (by rw [e1]; rfl)) oblN) ?_
    refine RunsI.bk (id := 0) (by kernel_rfl) ?_
    refine RunsI.less hI (af1 := sth (Spl low) 25 (osA (low + (n + 1)) (low + 1 + 0) (fnV fid m))) (less_seenP (clo_all (k := 19) (by kernel_rfl)) (osA_clo hE (show 16 ≤ 19 by decide)) (show 16 ≤ 19 by decide) (by kernel_rfl) (by kernel_rfl) (by kernel_rfl) (by kernel_rfl)) ?_
    refine (plLoop hI hm (by omega) (fun k hk => IH k (by omega)) C hb s (n + 1) 0 (by omega)).mono fun x af s' h => ?_
    obtain ⟨rfl, rfl, h3⟩ := h
    exact fin (.inl rfl) (by rw [foldP_all]; rfl) h3
end
end Go.Proofs.YtgnkjmgkfibipaaDoor
