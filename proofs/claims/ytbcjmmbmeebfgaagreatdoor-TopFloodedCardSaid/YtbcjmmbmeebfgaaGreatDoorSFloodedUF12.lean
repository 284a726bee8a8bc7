/- TopFlooded: the galleries left, as a list: what the region and its first places are; one gallery less. -/
import Derived.Test.YtbcjmmbmeebfgaaGreatDoorSFloodedUF11
import Derived.Test.YtbcjmmbmeebfgaaGreatDoorSFloodedUF3
namespace Go.Proofs.YtbcjmmbmeebfgaaGreatDoor
set_option linter.unusedVariables false
set_option linter.unusedSimpArgs false
open Go Go.R
set_option maxRecDepth 1000000
noncomputable section
noncomputable def regL (k : Nat) (T : List (Int × Int × Int)) : Nat := regG k T.length (tA T) (tB T) (tC T)
noncomputable def firL (k : Nat) (T : List (Int × Int × Int)) : List Nat := firstL k T.length (tA T) (tB T) (tC T)
theorem gals_T {T : List (Int × Int × Int)} (h : GalT T) : Gals T.length (tA T) (tB T) (tC T) := by
  intro i hi
  have e : T.getD i (0, 0, 0) = T[i] := by rw [List.getD_eq_getElem?_getD, List.getElem?_eq_getElem hi]; rfl
  have := h T[i] (List.getElem_mem hi)
  unfold tA tB tC
  rw [e]
  exact this
theorem regL_lt {k : Nat} (hk : k < 8) (T : List (Int × Int × Int)) : regL k T < 18446744073709551616 := regG_lt hk
theorem regL_sub {k : Nat} {t : Int × Int × Int} {T : List (Int × Int × Int)} {i : Nat} (h : (regL k (t :: T)).testBit i = true) : (regL k T).testBit i = true := by
  unfold regL regG at h ⊢
  rw [regN_bit, Bool.and_eq_true, List.all_eq_true] at h
  rw [regN_bit, Bool.and_eq_true, List.all_eq_true]
  refine ⟨h.1, fun j hj => ?_⟩
  have hj' := List.mem_range.1 hj
  have := h.2 (j + 1) (List.mem_range.2 (by show j + 1 < T.length + 1; omega))
  exact this
theorem bits_sub {k : Nat} {t : Int × Int × Int} {T : List (Int × Int × Int)} : ∀ x ∈ bitsN (regL k (t :: T)), x ∈ bitsN (regL k T) := fun x hx => by
  rw [mem_bits] at hx ⊢
  exact ⟨hx.1, regL_sub hx.2⟩
theorem regL_n0 {k : Nat} (hk : k < 8) {t : Int × Int × Int} {T : List (Int × Int × Int)} (h : regL k (t :: T) ≠ 0) : regL k T ≠ 0 := by
  intro h0
  have hs := bits_step h (regL_lt hk _)
  have hm : tz (regL k (t :: T)) ∈ bitsN (regL k (t :: T)) := by rw [hs]; exact .head _
  have := bits_sub _ hm
  rw [h0, bits_nil_0] at this
  cases this

/-! ### The slice of the galleries left -/
noncomputable def GS (c0 : List Value) : Value → List (Int × Int × Int) → Prop
  | s, [] => s = .slice none 0 0 ∨ ∃ o, s = sz0 0 o
  | s, t :: T => ∃ o, s = .slice (some ⟨0, o, some 3⟩) (T.length + 1) (T.length + 1) ∧ o + (T.length + 1) * 3 ≤ c0.length ∧ ∀ (j : Nat) u, (galL (t :: T))[j]? = some u → c0[o + j]? = some u
theorem gs_v {c0 : List Value} {s : Value} : ∀ {T : List (Int × Int × Int)}, GS c0 s T → GSV s
  | [], h => h.elim .inl fun h => .inr (.inl h)
  | t :: T, ⟨o, h, _⟩ => .inr (.inr ⟨o, _, h⟩)
theorem gs_no {c0 : List Value} {s : Value} (h : GS c0 s []) : NoG s := h.elim .inl fun ⟨o, h⟩ => .inr ⟨0, o, h⟩
theorem gs_sees {c0 : List Value} {ty0 : Option TypeId} {s : Value} {t : Int × Int × Int} {T : List (Int × Int × Int)} (g : GS c0 s (t :: T)) {h : AH} (e : h.get 0 = ob0 c0 ty0) : SeesG h s (t :: T).length (tA (t :: T)) (tB (t :: T)) (tC (t :: T)) := by
  obtain ⟨o, rfl, hle, hsub⟩ := g
  refine ⟨0, o, c0, true, [], ty0, e, ?_, ?_, galsC_plain, .inl ⟨2, rfl⟩⟩
  · show ∀ (k : Nat) u, (galsC (t :: T).length (tA (t :: T)) (tB (t :: T)) (tC (t :: T)))[k]? = some u → _
    rw [galL_eq]; exact hsub
  · show o + (galsC (t :: T).length (tA (t :: T)) (tB (t :: T)) (tC (t :: T))).length ≤ c0.length
    rw [galsC_len]; exact hle
theorem gs_first {c0 : List Value} {t : Int × Int × Int} {T : List (Int × Int × Int)} (e : c0 = galL (t :: T)) : GS c0 (slG 0 (t :: T).length) (t :: T) := by
  subst e
  exact ⟨0, rfl, by rw [galL_len, Nat.zero_add]; exact Nat.le_refl _, fun j u h => by rw [Nat.zero_add]; exact h⟩
theorem tail_G0 (o : Nat) : sliceA Tryz.prog 24 (.slice (some ⟨0, o, some 3⟩) 1 1) (some (i64 1)) none none = some (sz0 0 o) := by kernel_rfl
theorem tail_G (o q : Nat) : sliceA Tryz.prog 24 (.slice (some ⟨0, o, some 3⟩) (q + 2) (q + 2)) (some (i64 1)) none none = some (.slice (some ⟨0, o + 3, some 3⟩) (q + 1) (q + 1)) := by
  have e1 : Tryz.prog.underlying 24 = some (.slice 53) := by kernel_rfl
  obtain ⟨info, e2, e3⟩ : ∃ info, Tryz.prog.info? 53 = some info ∧ info.size = 3 := ⟨(Tryz.prog.info? 53).get!, by kernel_rfl, by kernel_rfl⟩
  unfold sliceA
  simp only [e1, e2, e3, bounds_lo (show 1 ≤ q + 2 by omega)]
  rw [if_neg (by simp)]
  show (if 1 < q + 2 then some (Value.slice (some ⟨0, o + 1 * 3, some 3⟩) (q + 2 - 1) (q + 2 - 1)) else _) = _
  rw [if_pos (by omega)]
  rfl
theorem gs_tail0 {c0 : List Value} (o : Nat) : GS c0 (sz0 0 o) [] := .inr ⟨o, rfl⟩
theorem gs_tail {c0 : List Value} {o : Nat} {t t1 : Int × Int × Int} {T : List (Int × Int × Int)} (hle : o + ((t1 :: T).length + 1) * 3 ≤ c0.length) (hsub : ∀ (j : Nat) u, (galL (t :: t1 :: T))[j]? = some u → c0[o + j]? = some u) :
    GS c0 (.slice (some ⟨0, o + 3, some 3⟩) (T.length + 1) (T.length + 1)) (t1 :: T) := by
  refine ⟨o + 3, rfl, ?_, fun j u h => ?_⟩
  · have : (t1 :: T).length = T.length + 1 := rfl
    omega
  · rw [show o + 3 + j = o + (j + 3) by omega]
    refine hsub (j + 3) u ?_
    exact h

/-! ### Contracts -/
theorem Reg_says {c0 : List Value} {ty0 : Option TypeId} {k : Nat} {s : Value} {T : List (Int × Int × Int)} (hk : 0 < k) (hk7 : k < 8) (hT : T.length < 11) (gT : GalT T) (g : GS c0 s T) (hr : regL k T ≠ 0) {h : AH} (e : h.get 0 = ob0 c0 ty0) :
    Says Tryz.prog h 11 [hillV k s] (.tuple #[slP h.next (bitsN (regL k T)).length, i64 0]) (h.new (rowP (bitsN (regL k T)))).2 := by
  cases T with
  | nil => exact Region_none hk hk7 (gs_no g) h
  | cons t T => exact Region_says hk hk7 (Nat.succ_pos _) hT (gals_T gT) hr (gs_sees g e)
theorem grid_n0 {k : Nat} (hk : 0 < k) (hk7 : k < 8) : gridN k ≠ 0 := by
  match k, hk, hk7 with
  | 1, _, _ => exact fun h => absurd (show Nat.beq (gridN 1) 0 = false by kernel_rfl) (by rw [h]; exact fun e => by cases e)
  | 2, _, _ => exact fun h => absurd (show Nat.beq (gridN 2) 0 = false by kernel_rfl) (by rw [h]; exact fun e => by cases e)
  | 3, _, _ => exact fun h => absurd (show Nat.beq (gridN 3) 0 = false by kernel_rfl) (by rw [h]; exact fun e => by cases e)
  | 4, _, _ => exact fun h => absurd (show Nat.beq (gridN 4) 0 = false by kernel_rfl) (by rw [h]; exact fun e => by cases e)
  | 5, _, _ => exact fun h => absurd (show Nat.beq (gridN 5) 0 = false by kernel_rfl) (by rw [h]; exact fun e => by cases e)
  | 6, _, _ => exact fun h => absurd (show Nat.beq (gridN 6) 0 = false by kernel_rfl) (by rw [h]; exact fun e => by cases e)
  | 7, _, _ => exact fun h => absurd (show Nat.beq (gridN 7) 0 = false by kernel_rfl) (by rw [h]; exact fun e => by cases e)
  | k + 8, _, h => omega
theorem Reg_says0 {c0 : List Value} {ty0 : Option TypeId} {k : Nat} {s : Value} {T : List (Int × Int × Int)} (hk : 0 < k) (hk7 : k < 8) (hT : T.length < 11) (gT : GalT T) (g : GS c0 s T) (hr : regL k T = 0) {h : AH} (e : h.get 0 = ob0 c0 ty0) :
    Says Tryz.prog h 11 [hillV k s] (.tuple #[.slice none 0 0, i64 0]) h := by
  cases T with
  | nil => exact absurd hr (grid_n0 hk hk7)
  | cons t T => exact Region_says0 hk hk7 (Nat.succ_pos _) hT (gals_T gT) hr (gs_sees g e)
theorem Fir_says {c0 : List Value} {ty0 : Option TypeId} {k a : Nat} {l : List Nat} {s : Value} {T : List (Int × Int × Int)} (hk : 0 < k) (hk7 : k < 8) (hT : T.length < 11) (gT : GalT T) (g : GS c0 s T) (hf : firL k T = a :: l) {h : AH} (e : h.get 0 = ob0 c0 ty0) :
    Says Tryz.prog h 6 [hillV k s, i64 4] (slP h.next (a :: l).length) (h.new (rowP (a :: l))).2 := by
  cases T with
  | nil =>
    have h0 := reg6_none hk hk7 (gs_no g) h
    have e0 : firL k [] = fst0 k := first0 hk hk7 _ _ _
    rw [← e0, hf] at h0
    exact h0
  | cons t T => exact reg6_says hk7 (by omega) (gals_T gT) hf (gs_sees g e)
theorem fst0_ne {k : Nat} : fst0 k ≠ [] := by
  unfold fst0; split <;> exact fun h => by cases h
theorem Fir_says0 {c0 : List Value} {ty0 : Option TypeId} {k : Nat} {s : Value} {T : List (Int × Int × Int)} (hk : 0 < k) (hk7 : k < 8) (hT : T.length < 11) (gT : GalT T) (g : GS c0 s T) (hf : firL k T = []) {h : AH} (e : h.get 0 = ob0 c0 ty0) :
    Says Tryz.prog h 6 [hillV k s, i64 4] (.slice none 0 0) h := by
  cases T with
  | nil =>
    have e0 : firL k [] = fst0 k := first0 hk hk7 _ _ _
    rw [e0] at hf
    exact absurd hf fst0_ne
  | cons t T => exact reg6_says0 hk7 (by omega) (gals_T gT) hf (gs_sees g e)

/-! ### One look -/
theorem look_any {c0 : List Value} {ty0 : Option TypeId} {k : Nat} {s : Value} {T : List (Int × Int × Int)} (p0 : ∀ v ∈ c0, plainV v = true) (hk : 0 < k) (hk7 : k < 8) (hT : T.length < 11) (gT : GalT T) (g : GS c0 s T) {Q : AExit → AF → Prop}
    (h : ∀ af, Less 0 (sth [(7, ptrV 1)] 252 (OA c0 ty0 k s)) af → Runs Tryz.prog 0 (behind 3 In1) af Q) : Runs Tryz.prog 0 In1 (sth [(7, ptrV 1)] 252 (OA c0 ty0 k s)) Q := by
  have P : Plc k (firL k T) := firstL_ok (by omega)
  have O : Outer c0 s (firL k T) := ⟨p0, gs_v g, fun y hy => by have := P.box y hy; omega, by have := P.few; omega⟩
  cases hf : firL k T with
  | nil =>
    rw [hf] at O
    exact look_empty O (Fir_says0 (ty0 := ty0) hk hk7 hT gT g hf (by kernel_rfl)) h
  | cons a l =>
    rw [hf] at O P
    exact look_full O P rfl (Nat.succ_pos _) hk hk7 (Fir_says (ty0 := ty0) hk hk7 hT gT g hf (by kernel_rfl)) h
end
end Go.Proofs.YtbcjmmbmeebfgaaGreatDoor

/- TopFlooded: the law's loop: one gallery less each time. -/
namespace Go.Proofs.YtbcjmmbmeebfgaaGreatDoor
set_option linter.unusedVariables false
set_option linter.unusedSimpArgs false
open Go Go.R
set_option maxRecDepth 1000000
noncomputable section

theorem noObjs : ∀ o ∈ ([] : List AObj), CloO 0 o := fun o ho => by cases ho
section
variable {c0 : List Value} {ty0 : Option TypeId} {k : Nat}
/-- Behind the look, where a gallery is left. -/
theorem step_0 {t : Int × Int × Int} {o : Nat} (p0 : ∀ v ∈ c0, plainV v = true) (hk : 0 < k) (hk7 : k < 8) (hT : (t :: []).length < 11) (gT : GalT (t :: [])) (g : GS c0 (.slice (some ⟨0, o, some 3⟩) 1 1) (t :: [])) (g2 : GS c0 (sz0 0 o) []) {Q : AExit → AF → Prop}
    (h : ∀ af, Less 0 (sth [(7, ptrV 1)] 252 (OA c0 ty0 k (sz0 0 o))) af → Q .normal af) : Runs Tryz.prog 0 (behind 3 In1) (sth [(7, ptrV 1)] 252 (OA c0 ty0 k (.slice (some ⟨0, o, some 3⟩) 1 1))) Q := by
  have gT2 : GalT [] := fun u hu => gT u (.tail _ hu)
  have hT2 : ([] : List (Int × Int × Int)).length < 11 := Nat.lt_of_le_of_lt (Nat.le_succ _) hT
  have O : Outer c0 (sz0 0 o) [] := (⟨p0, gs_v g2, fun y hy => (by cases hy), (by decide : 0 < 5)⟩ : Outer c0 (sz0 0 o) [])
  have tg := tail_G0 o
  refine Runs.sq (by kernel_rfl) (Runs.sqR mixed hkU [] (by kernel_rfl) (by kernel_rfl) (by kernel_rfl) oblN ?_)
  refine Runs.cd (b := false) (by kernel_rfl) (fun h => by cases h) (fun _ => Runs.now (x := .normal) (by kernel_rfl) ?_)
  show Runs Tryz.prog 0 _ _ _
  rcases Classical.em (regL k (t :: []) = 0) with hr | hr
  · have h11 : ∀ {h : AH}, h.get 0 = ob0 c0 ty0 → Says Tryz.prog h 11 [hillV k (.slice (some ⟨0, o, some 3⟩) 1 1)] (.tuple #[.slice none 0 0, i64 0]) h := fun e => Reg_says0 hk hk7 hT gT g hr e
    refine Runs.sqR mixed hkU [viaC 1 11 [hillV k (.slice (some ⟨0, o, some 3⟩) 1 1)] (.tuple #[.slice none 0 0, i64 0])] (by kernel_rfl) (by kernel_rfl) (by kernel_rfl) (oblC (shown_call (by kernel_rfl) (h11 (by kernel_rfl))) oblN) ?_
    refine Runs.sqR mixed hkU [viaV 2 (sz0 0 o)] (by kernel_rfl) (by kernel_rfl) (by kernel_rfl)
      (oblC ⟨by kernel_rfl, (show _ = (sliceA Tryz.prog 24 (.slice (some ⟨0, o, some 3⟩) 1 1) (some (i64 1)) none none).map (·, _) by kernel_rfl).trans (by rw [tg]; rfl)⟩ oblN) ?_
    rcases Classical.em (regL k [] = 0) with hr2 | hr2
    · have h12 : ∀ {h : AH}, h.get 0 = ob0 c0 ty0 → Says Tryz.prog h 11 [hillV k (sz0 0 o)] (.tuple #[.slice none 0 0, i64 0]) h := fun e => Reg_says0 hk hk7 hT2 gT2 g2 hr2 e
      refine Runs.sqR mixed hkU [viaC 1 11 [hillV k (sz0 0 o)] (.tuple #[.slice none 0 0, i64 0])] (by kernel_rfl) (by kernel_rfl) (by kernel_rfl) (oblC (shown_call (by kernel_rfl) (h12 (by kernel_rfl))) oblN) ?_
      refine Runs.sqR mixed hkU [] (by kernel_rfl) (by kernel_rfl) (by kernel_rfl) oblN ?_
      refine Runs.cd (b := false) (by kernel_rfl) (fun h => by cases h) (fun _ => Runs.now (x := .normal) (by kernel_rfl) ?_)
      exact h _ (less_seenP (clo_all (k := 2) (by kernel_rfl)) (oa_clo O) (Nat.zero_le 2) (by kernel_rfl) (by kernel_rfl) (by kernel_rfl) (by kernel_rfl))
    · have h12 := Reg_says (ty0 := ty0) hk hk7 hT2 gT2 g2 hr2 (h := hp (OA c0 ty0 k (sz0 0 o))) (by kernel_rfl)
      generalize bitsN (regL k []) = lb at h12
      refine Runs.sqR mixed hkU [viaH 1 11 [hillV k (sz0 0 o)] (.tuple #[slP 2 lb.length, i64 0]) ((hp (OA c0 ty0 k (sz0 0 o))).new (rowP lb)).2] (by kernel_rfl) (by kernel_rfl) (by kernel_rfl)
        (oblC (shown_callHE (h0 := hp (OA c0 ty0 k (sz0 0 o))) (by kernel_rfl) (by kernel_rfl) h12) oblN) ?_
      refine Runs.sqR mixed hkU [] (by kernel_rfl) (by kernel_rfl) (by kernel_rfl) oblN ?_
      refine Runs.cd (b := false) (by kernel_rfl) (fun h => by cases h) (fun _ => Runs.now (x := .normal) (by kernel_rfl) ?_)
      exact h _ (less_seenP (clo_all (k := 2) (by kernel_rfl)) (oa_clo O) (Nat.zero_le 2) (by kernel_rfl) (by kernel_rfl) (by kernel_rfl) (by kernel_rfl))
  · have hr2 := regL_n0 hk7 hr
    have h11 := Reg_says (ty0 := ty0) hk hk7 hT gT g hr (h := hp (OA c0 ty0 k (.slice (some ⟨0, o, some 3⟩) 1 1))) (by kernel_rfl)
    have h12 : ∀ {h : AH}, h.get 0 = ob0 c0 ty0 → Says Tryz.prog h 11 [hillV k (sz0 0 o)] (.tuple #[slP h.next (bitsN (regL k [])).length, i64 0]) (h.new (rowP (bitsN (regL k [])))).2 := fun e => Reg_says hk hk7 hT2 gT2 g2 hr2 e
    have l1 := bits_len (regL k (t :: []))
    have l2 := bits_len (regL k [])
    have ha := any12_says (c0 := c0) (ty0 := ty0) (k := k) (s := (sz0 0 o)) (lm := bitsN (regL k (t :: []))) (ll := bitsN (regL k [])) p0 (gsv_clo (gs_v g2) (by decide)) (fun y hy => (mem_bits.1 hy).1) (by omega) (by omega) bits_sub
    generalize bitsN (regL k (t :: [])) = mb at h11 ha
    generalize bitsN (regL k []) = lb at h12 ha
    refine Runs.sqR mixed hkU [viaH 1 11 [hillV k (.slice (some ⟨0, o, some 3⟩) 1 1)] (.tuple #[slP 2 mb.length, i64 0]) ((hp (OA c0 ty0 k (.slice (some ⟨0, o, some 3⟩) 1 1))).new (rowP mb)).2] (by kernel_rfl) (by kernel_rfl) (by kernel_rfl)
      (oblC (shown_callHE (h0 := hp (OA c0 ty0 k (.slice (some ⟨0, o, some 3⟩) 1 1))) (by kernel_rfl) (by kernel_rfl) h11) oblN) ?_
    refine Runs.sqR mixed hkU [viaV 2 (sz0 0 o)] (by kernel_rfl) (by kernel_rfl) (by kernel_rfl)
      (oblC ⟨by kernel_rfl, (show _ = (sliceA Tryz.prog 24 (.slice (some ⟨0, o, some 3⟩) 1 1) (some (i64 1)) none none).map (·, _) by kernel_rfl).trans (by rw [tg]; rfl)⟩ oblN) ?_
    refine Runs.sqR mixed hkU [viaH 1 11 [hillV k (sz0 0 o)] (.tuple #[slP 3 lb.length, i64 0]) ((hp [ob0 c0 ty0, hillK k (sz0 0 o), rowP mb]).new (rowP lb)).2] (by kernel_rfl) (by kernel_rfl) (by kernel_rfl)
      (oblC (shown_callHE (h0 := hp [ob0 c0 ty0, hillK k (sz0 0 o), rowP mb]) (by kernel_rfl) (by kernel_rfl) (h12 (by kernel_rfl))) oblN) ?_
    refine Runs.sqR mixed hkU [viaC 9 12 [slP 2 mb.length, cloQ] (.bool false)] (by kernel_rfl) (by kernel_rfl) (by kernel_rfl)
      (oblC (shown_callE (h0 := hp (OQ c0 ty0 k (sz0 0 o) mb lb)) (by kernel_rfl) (by kernel_rfl) ha) oblN) ?_
    refine Runs.cd (b := false) (by kernel_rfl) (fun h => by cases h) (fun _ => Runs.now (x := .normal) (by kernel_rfl) ?_)
    exact h _ (less_seenP (clo_all (k := 2) (by kernel_rfl)) (oa_clo O) (Nat.zero_le 2) (by kernel_rfl) (by kernel_rfl) (by kernel_rfl) (by kernel_rfl))
/-- Behind the look, where a gallery is left. -/
theorem step_1 {t : Int × Int × Int} {t1 : Int × Int × Int} {T : List (Int × Int × Int)} {o : Nat} (p0 : ∀ v ∈ c0, plainV v = true) (hk : 0 < k) (hk7 : k < 8) (hT : (t :: (t1 :: T)).length < 11) (gT : GalT (t :: (t1 :: T))) (g : GS c0 (.slice (some ⟨0, o, some 3⟩) (T.length + 2) (T.length + 2)) (t :: (t1 :: T))) (g2 : GS c0 (.slice (some ⟨0, o + 3, some 3⟩) (T.length + 1) (T.length + 1)) (t1 :: T)) {Q : AExit → AF → Prop}
    (h : ∀ af, Less 0 (sth [(7, ptrV 1)] 252 (OA c0 ty0 k (.slice (some ⟨0, o + 3, some 3⟩) (T.length + 1) (T.length + 1)))) af → Q .normal af) : Runs Tryz.prog 0 (behind 3 In1) (sth [(7, ptrV 1)] 252 (OA c0 ty0 k (.slice (some ⟨0, o, some 3⟩) (T.length + 2) (T.length + 2)))) Q := by
  have gT2 : GalT (t1 :: T) := fun u hu => gT u (.tail _ hu)
  have hT2 : ((t1 :: T) : List (Int × Int × Int)).length < 11 := Nat.lt_of_le_of_lt (Nat.le_succ _) hT
  have O : Outer c0 (.slice (some ⟨0, o + 3, some 3⟩) (T.length + 1) (T.length + 1)) [] := (⟨p0, gs_v g2, fun y hy => (by cases hy), (by decide : 0 < 5)⟩ : Outer c0 (.slice (some ⟨0, o + 3, some 3⟩) (T.length + 1) (T.length + 1)) [])
  have tg := tail_G o T.length
  refine Runs.sq (by kernel_rfl) (Runs.sqR mixed hkU [] (by kernel_rfl) (by kernel_rfl) (by kernel_rfl) oblN ?_)
  refine Runs.cd (b := false) (by kernel_rfl) (fun h => by cases h) (fun _ => Runs.now (x := .normal) (by kernel_rfl) ?_)
  show Runs Tryz.prog 0 _ _ _
  rcases Classical.em (regL k (t :: (t1 :: T)) = 0) with hr | hr
  · have h11 : ∀ {h : AH}, h.get 0 = ob0 c0 ty0 → Says Tryz.prog h 11 [hillV k (.slice (some ⟨0, o, some 3⟩) (T.length + 2) (T.length + 2))] (.tuple #[.slice none 0 0, i64 0]) h := fun e => Reg_says0 hk hk7 hT gT g hr e
    refine Runs.sqR mixed hkU [viaC 1 11 [hillV k (.slice (some ⟨0, o, some 3⟩) (T.length + 2) (T.length + 2))] (.tuple #[.slice none 0 0, i64 0])] (by kernel_rfl) (by kernel_rfl) (by kernel_rfl) (oblC (shown_call (by kernel_rfl) (h11 (by kernel_rfl))) oblN) ?_
    refine Runs.sqR mixed hkU [viaV 2 (.slice (some ⟨0, o + 3, some 3⟩) (T.length + 1) (T.length + 1))] (by kernel_rfl) (by kernel_rfl) (by kernel_rfl)
      (oblC ⟨by kernel_rfl, (show _ = (sliceA Tryz.prog 24 (.slice (some ⟨0, o, some 3⟩) (T.length + 2) (T.length + 2)) (some (i64 1)) none none).map (·, _) by kernel_rfl).trans (by rw [tg]; rfl)⟩ oblN) ?_
    rcases Classical.em (regL k (t1 :: T) = 0) with hr2 | hr2
    · have h12 : ∀ {h : AH}, h.get 0 = ob0 c0 ty0 → Says Tryz.prog h 11 [hillV k (.slice (some ⟨0, o + 3, some 3⟩) (T.length + 1) (T.length + 1))] (.tuple #[.slice none 0 0, i64 0]) h := fun e => Reg_says0 hk hk7 hT2 gT2 g2 hr2 e
      refine Runs.sqR mixed hkU [viaC 1 11 [hillV k (.slice (some ⟨0, o + 3, some 3⟩) (T.length + 1) (T.length + 1))] (.tuple #[.slice none 0 0, i64 0])] (by kernel_rfl) (by kernel_rfl) (by kernel_rfl) (oblC (shown_call (by kernel_rfl) (h12 (by kernel_rfl))) oblN) ?_
      refine Runs.sqR mixed hkU [] (by kernel_rfl) (by kernel_rfl) (by kernel_rfl) oblN ?_
      refine Runs.cd (b := false) (by kernel_rfl) (fun h => by cases h) (fun _ => Runs.now (x := .normal) (by kernel_rfl) ?_)
      exact h _ (less_seenP (clo_all (k := 2) (by kernel_rfl)) (oa_clo O) (Nat.zero_le 2) (by kernel_rfl) (by kernel_rfl) (by kernel_rfl) (by kernel_rfl))
    · have h12 := Reg_says (ty0 := ty0) hk hk7 hT2 gT2 g2 hr2 (h := hp (OA c0 ty0 k (.slice (some ⟨0, o + 3, some 3⟩) (T.length + 1) (T.length + 1)))) (by kernel_rfl)
      generalize bitsN (regL k (t1 :: T)) = lb at h12
      refine Runs.sqR mixed hkU [viaH 1 11 [hillV k (.slice (some ⟨0, o + 3, some 3⟩) (T.length + 1) (T.length + 1))] (.tuple #[slP 2 lb.length, i64 0]) ((hp (OA c0 ty0 k (.slice (some ⟨0, o + 3, some 3⟩) (T.length + 1) (T.length + 1)))).new (rowP lb)).2] (by kernel_rfl) (by kernel_rfl) (by kernel_rfl)
        (oblC (shown_callHE (h0 := hp (OA c0 ty0 k (.slice (some ⟨0, o + 3, some 3⟩) (T.length + 1) (T.length + 1)))) (by kernel_rfl) (by kernel_rfl) h12) oblN) ?_
      refine Runs.sqR mixed hkU [] (by kernel_rfl) (by kernel_rfl) (by kernel_rfl) oblN ?_
      refine Runs.cd (b := false) (by kernel_rfl) (fun h => by cases h) (fun _ => Runs.now (x := .normal) (by kernel_rfl) ?_)
      exact h _ (less_seenP (clo_all (k := 2) (by kernel_rfl)) (oa_clo O) (Nat.zero_le 2) (by kernel_rfl) (by kernel_rfl) (by kernel_rfl) (by kernel_rfl))
  · have hr2 := regL_n0 hk7 hr
    have h11 := Reg_says (ty0 := ty0) hk hk7 hT gT g hr (h := hp (OA c0 ty0 k (.slice (some ⟨0, o, some 3⟩) (T.length + 2) (T.length + 2)))) (by kernel_rfl)
    have h12 : ∀ {h : AH}, h.get 0 = ob0 c0 ty0 → Says Tryz.prog h 11 [hillV k (.slice (some ⟨0, o + 3, some 3⟩) (T.length + 1) (T.length + 1))] (.tuple #[slP h.next (bitsN (regL k (t1 :: T))).length, i64 0]) (h.new (rowP (bitsN (regL k (t1 :: T))))).2 := fun e => Reg_says hk hk7 hT2 gT2 g2 hr2 e
    have l1 := bits_len (regL k (t :: (t1 :: T)))
    have l2 := bits_len (regL k (t1 :: T))
    have ha := any12_says (c0 := c0) (ty0 := ty0) (k := k) (s := (.slice (some ⟨0, o + 3, some 3⟩) (T.length + 1) (T.length + 1))) (lm := bitsN (regL k (t :: (t1 :: T)))) (ll := bitsN (regL k (t1 :: T))) p0 (gsv_clo (gs_v g2) (by decide)) (fun y hy => (mem_bits.1 hy).1) (by omega) (by omega) bits_sub
    generalize bitsN (regL k (t :: (t1 :: T))) = mb at h11 ha
    generalize bitsN (regL k (t1 :: T)) = lb at h12 ha
    refine Runs.sqR mixed hkU [viaH 1 11 [hillV k (.slice (some ⟨0, o, some 3⟩) (T.length + 2) (T.length + 2))] (.tuple #[slP 2 mb.length, i64 0]) ((hp (OA c0 ty0 k (.slice (some ⟨0, o, some 3⟩) (T.length + 2) (T.length + 2)))).new (rowP mb)).2] (by kernel_rfl) (by kernel_rfl) (by kernel_rfl)
      (oblC (shown_callHE (h0 := hp (OA c0 ty0 k (.slice (some ⟨0, o, some 3⟩) (T.length + 2) (T.length + 2)))) (by kernel_rfl) (by kernel_rfl) h11) oblN) ?_
    refine Runs.sqR mixed hkU [viaV 2 (.slice (some ⟨0, o + 3, some 3⟩) (T.length + 1) (T.length + 1))] (by kernel_rfl) (by kernel_rfl) (by kernel_rfl)
      (oblC ⟨by kernel_rfl, (show _ = (sliceA Tryz.prog 24 (.slice (some ⟨0, o, some 3⟩) (T.length + 2) (T.length + 2)) (some (i64 1)) none none).map (·, _) by kernel_rfl).trans (by rw [tg]; rfl)⟩ oblN) ?_
    refine Runs.sqR mixed hkU [viaH 1 11 [hillV k (.slice (some ⟨0, o + 3, some 3⟩) (T.length + 1) (T.length + 1))] (.tuple #[slP 3 lb.length, i64 0]) ((hp [ob0 c0 ty0, hillK k (.slice (some ⟨0, o + 3, some 3⟩) (T.length + 1) (T.length + 1)), rowP mb]).new (rowP lb)).2] (by kernel_rfl) (by kernel_rfl) (by kernel_rfl)
      (oblC (shown_callHE (h0 := hp [ob0 c0 ty0, hillK k (.slice (some ⟨0, o + 3, some 3⟩) (T.length + 1) (T.length + 1)), rowP mb]) (by kernel_rfl) (by kernel_rfl) (h12 (by kernel_rfl))) oblN) ?_
    refine Runs.sqR mixed hkU [viaC 9 12 [slP 2 mb.length, cloQ] (.bool false)] (by kernel_rfl) (by kernel_rfl) (by kernel_rfl)
      (oblC (shown_callE (h0 := hp (OQ c0 ty0 k (.slice (some ⟨0, o + 3, some 3⟩) (T.length + 1) (T.length + 1)) mb lb)) (by kernel_rfl) (by kernel_rfl) ha) oblN) ?_
    refine Runs.cd (b := false) (by kernel_rfl) (fun h => by cases h) (fun _ => Runs.now (x := .normal) (by kernel_rfl) ?_)
    exact h _ (less_seenP (clo_all (k := 2) (by kernel_rfl)) (oa_clo O) (Nat.zero_le 2) (by kernel_rfl) (by kernel_rfl) (by kernel_rfl) (by kernel_rfl))
/-- The whole loop. -/
theorem loop3 (p0 : ∀ v ∈ c0, plainV v = true) (hk : 0 < k) (hk7 : k < 8) : ∀ (T : List (Int × Int × Int)) (s : Value), T.length < 11 → GalT T → GS c0 s T →
    Runs Tryz.prog 0 lp3 (sth [(7, ptrV 1)] 252 (OA c0 ty0 k s)) fun e af => e = .exit 0 ∧ Less 0 (sth [] 252 []) af := by
  intro T
  induction T with
  | nil =>
    intro s hT gT g
    have hl := fun Q => look_any (ty0 := ty0) (Q := Q) p0 hk hk7 hT gT g
    have O : Outer c0 s [] := ⟨p0, gs_v g, fun y hy => (by cases hy), (by decide : 0 < 5)⟩
    rcases g with rfl | ⟨o, rfl⟩
    · refine Runs.lp (by kernel_rfl) (Runs.sq (by kernel_rfl) (Runs.sqR mixed hkU [] (by kernel_rfl) (by kernel_rfl) (by kernel_rfl) oblN ?_))
      refine Runs.cd (b := true) (by kernel_rfl) (fun _ => Runs.now (x := .normal) (by kernel_rfl) ?_) (fun h => by cases h)
      show Runs Tryz.prog 0 _ _ _
      refine Runs.bk (id := 1) (by kernel_rfl) ?_
      show Runs Tryz.prog 0 In1 _ _
      refine Runs.less (af1 := sth [(7, ptrV 1)] 252 (OA c0 ty0 k (.slice none 0 0))) (less_seenP (clo_all (k := 2) (by kernel_rfl)) (oa_clo O) (Nat.zero_le 2) (by kernel_rfl) (by kernel_rfl) (by kernel_rfl) (by kernel_rfl)) (hl _ fun af less => ?_)
      refine Runs.less less ?_
      refine Runs.sq (by kernel_rfl) (Runs.sqR mixed hkU [] (by kernel_rfl) (by kernel_rfl) (by kernel_rfl) oblN ?_)
      refine Runs.cd (b := true) (by kernel_rfl) (fun _ => Runs.now (x := .exit 0) (by kernel_rfl) ?_) (fun h => by cases h)
      exact ⟨rfl, less_seenP (clo_all (k := 0) (by kernel_rfl)) noObjs (Nat.zero_le 0) (by kernel_rfl) (by kernel_rfl) (by kernel_rfl) (by kernel_rfl)⟩
    · refine Runs.lp (by kernel_rfl) (Runs.sq (by kernel_rfl) (Runs.sqR mixed hkU [] (by kernel_rfl) (by kernel_rfl) (by kernel_rfl) oblN ?_))
      refine Runs.cd (b := true) (by kernel_rfl) (fun _ => Runs.now (x := .normal) (by kernel_rfl) ?_) (fun h => by cases h)
      show Runs Tryz.prog 0 _ _ _
      refine Runs.bk (id := 1) (by kernel_rfl) ?_
      show Runs Tryz.prog 0 In1 _ _
      refine Runs.less (af1 := sth [(7, ptrV 1)] 252 (OA c0 ty0 k (sz0 0 o))) (less_seenP (clo_all (k := 2) (by kernel_rfl)) (oa_clo O) (Nat.zero_le 2) (by kernel_rfl) (by kernel_rfl) (by kernel_rfl) (by kernel_rfl)) (hl _ fun af less => ?_)
      refine Runs.less less ?_
      refine Runs.sq (by kernel_rfl) (Runs.sqR mixed hkU [] (by kernel_rfl) (by kernel_rfl) (by kernel_rfl) oblN ?_)
      refine Runs.cd (b := true) (by kernel_rfl) (fun _ => Runs.now (x := .exit 0) (by kernel_rfl) ?_) (fun h => by cases h)
      exact ⟨rfl, less_seenP (clo_all (k := 0) (by kernel_rfl)) noObjs (Nat.zero_le 0) (by kernel_rfl) (by kernel_rfl) (by kernel_rfl) (by kernel_rfl)⟩
  | cons t T ih =>
    intro s hT gT g
    have gT2 : GalT T := fun u hu => gT u (.tail _ hu)
    have hT2 : T.length < 11 := Nat.lt_of_le_of_lt (Nat.le_succ _) hT
    have hl := fun Q => look_any (ty0 := ty0) (Q := Q) p0 hk hk7 hT gT g
    have O : Outer c0 s [] := ⟨p0, gs_v g, fun y hy => (by cases hy), (by decide : 0 < 5)⟩
    have g' := g
    obtain ⟨o, rfl, hle, hsub⟩ := g'
    cases T with
    | nil =>
      have g2 : GS c0 (sz0 0 o) [] := (gs_tail0 o)
      have hr := ih (sz0 0 o) hT2 gT2 g2
      refine Runs.lp (by kernel_rfl) (Runs.sq (by kernel_rfl) (Runs.sqR mixed hkU [] (by kernel_rfl) (by kernel_rfl) (by kernel_rfl) oblN ?_))
      refine Runs.cd (b := true) (by kernel_rfl) (fun _ => Runs.now (x := .normal) (by kernel_rfl) ?_) (fun h => by cases h)
      show Runs Tryz.prog 0 _ _ _
      refine Runs.bk (id := 1) (by kernel_rfl) ?_
      show Runs Tryz.prog 0 In1 _ _
      refine Runs.less (af1 := sth [(7, ptrV 1)] 252 (OA c0 ty0 k (.slice (some ⟨0, o, some 3⟩) 1 1))) (less_seenP (clo_all (k := 2) (by kernel_rfl)) (oa_clo O) (Nat.zero_le 2) (by kernel_rfl) (by kernel_rfl) (by kernel_rfl) (by kernel_rfl)) (hl _ fun af less => ?_)
      refine Runs.less less ?_
      refine step_0 p0 hk hk7 hT gT g g2 fun af less => ?_
      show Runs Tryz.prog 0 lp3 af _
      exact Runs.less less hr
    | cons t1 T =>
      have g2 : GS c0 (.slice (some ⟨0, o + 3, some 3⟩) (T.length + 1) (T.length + 1)) (t1 :: T) := (gs_tail hle hsub)
      have hr := ih (.slice (some ⟨0, o + 3, some 3⟩) (T.length + 1) (T.length + 1)) hT2 gT2 g2
      refine Runs.lp (by kernel_rfl) (Runs.sq (by kernel_rfl) (Runs.sqR mixed hkU [] (by kernel_rfl) (by kernel_rfl) (by kernel_rfl) oblN ?_))
      refine Runs.cd (b := true) (by kernel_rfl) (fun _ => Runs.now (x := .normal) (by kernel_rfl) ?_) (fun h => by cases h)
      show Runs Tryz.prog 0 _ _ _
      refine Runs.bk (id := 1) (by kernel_rfl) ?_
      show Runs Tryz.prog 0 In1 _ _
      refine Runs.less (af1 := sth [(7, ptrV 1)] 252 (OA c0 ty0 k (.slice (some ⟨0, o, some 3⟩) (T.length + 2) (T.length + 2)))) (less_seenP (clo_all (k := 2) (by kernel_rfl)) (oa_clo O) (Nat.zero_le 2) (by kernel_rfl) (by kernel_rfl) (by kernel_rfl) (by kernel_rfl)) (hl _ fun af less => ?_)
      refine Runs.less less ?_
      refine step_1 p0 hk hk7 hT gT g g2 fun af less => ?_
      show Runs Tryz.prog 0 lp3 af _
      exact Runs.less less hr
end
end
end Go.Proofs.YtbcjmmbmeebfgaaGreatDoor

/- TopFlooded: the whole walk. -/
namespace Go.Proofs.YtbcjmmbmeebfgaaGreatDoor
set_option linter.unusedVariables false
set_option linter.unusedSimpArgs false
open Go Go.R
set_option maxRecDepth 1000000
noncomputable section
theorem flood_end : Runs Tryz.prog 0 (behind 3 c3) (sth [] 252 []) (EndsAs Tryz.prog Tryz.f3 fun v' _ => v' = .bool true) :=
  Runs.sqR mixed hkU [] (by kernel_rfl) (by kernel_rfl) (by kernel_rfl) oblN (Runs.now (x := .ret) (by kernel_rfl) ⟨.inr rfl, [.bool true], by kernel_rfl, rfl⟩)
theorem flood_runs {x y : Nat} {g : Nat → Nat} (hx : x < 256) (hy : y < 256) (hg : ∀ i, i < 12 → g i < 256) :
    Runs Tryz.prog 0 c3 (entry Tryz.f3 [u8 x, u8 y, arr12V g] AH.empty) (EndsAs Tryz.prog Tryz.f3 fun v' _ => v' = .bool true) := by
  have hk : x % 7 < 7 := Nat.mod_lt _ (by decide)
  have hq : y % 5 < 5 := Nat.mod_lt _ (by decide)
  have hL := dugL_ok (g := g) (q := y % 5)
  have hn := dugL_len (g := g) (q := y % 5)
  refine Runs.sqR mixed hkU [] (by kernel_rfl) (by kernel_rfl) (by kernel_rfl) oblN ?_
  cases hd : dugL g (y % 5) with
  | nil =>
    have hS := dug_none hx hy hg hd (hp [arr12O g])
    have hl := loop3 (c0 := arr12C g) (ty0 := some 23) (k := 1 + x % 7) (arr12_plain g) (by omega) (by omega) [] (.slice none 0 0) (by decide) (fun t h => by cases h) (.inl rfl)
    have O : Outer (arr12C g) (.slice none 0 0) [] := ⟨arr12_plain g, .inl rfl, fun y hy => (by cases hy), (by decide : 0 < 5)⟩
    generalize 1 + x % 7 = k at hS hl
    refine Runs.sqR mixed hkU [viaC 3 5 [u8 x, u8 7, u8 y, arr12V g] (hillV k (.slice none 0 0))] (by kernel_rfl) (by kernel_rfl) (by kernel_rfl) (oblC (shown_callE (h0 := hp [arr12O g]) (by kernel_rfl) (by kernel_rfl) hS) oblN) ?_
    refine Runs.sq (by kernel_rfl) (Runs.bk (id := 0) (by kernel_rfl) ?_)
    show Runs Tryz.prog 0 lp3 _ _
    refine Runs.less (af1 := sth [(7, ptrV 1)] 252 (OA (arr12C g) (some 23) k (.slice none 0 0))) (less_seenP (clo_all (k := 2) (by kernel_rfl)) (oa_clo O) (Nat.zero_le 2) (by kernel_rfl) (by kernel_rfl) (by kernel_rfl) (by kernel_rfl)) ?_
    refine hl.mono fun e af hx => ?_
    obtain ⟨rfl, less⟩ := hx
    show Runs Tryz.prog 0 (behind 3 c3) af _
    exact Runs.less less flood_end
  | cons t L =>
    have hS := dug_some hx hy hg (by rw [hd]; exact Nat.succ_pos _) (hp [arr12O g])
    rw [hd] at hS hL hn
    have hl := loop3 (c0 := galL (t :: L)) (ty0 := some 53) (k := 1 + x % 7) galL_plain (by omega) (by omega) (t :: L) (slG 0 (t :: L).length) (by omega) hL (gs_first rfl)
    generalize 1 + x % 7 = k at hS hl
    refine Runs.sqR mixed hkU [viaH 3 5 [u8 x, u8 7, u8 y, arr12V g] (hillV k (slG 1 (t :: L).length)) ((hp [arr12O g]).new (rowL (t :: L))).2] (by kernel_rfl) (by kernel_rfl) (by kernel_rfl)
      (oblC (shown_callHE (h0 := hp [arr12O g]) (by kernel_rfl) (by kernel_rfl) hS) oblN) ?_
    refine Runs.sq (by kernel_rfl) (Runs.bk (id := 0) (by kernel_rfl) ?_)
    show Runs Tryz.prog 0 lp3 _ _
    refine Runs.renumK (sz := 252) (l := [(7, ptrV 1)]) (os := OA (galL (t :: L)) (some 53) k (slG 0 (t :: L).length)) (fun j => match j with | 0 => 1 | 1 => 2 | j => j) (fun j => match j with | 1 => 0 | 2 => 1 | j => j) (by kernel_rfl) (Nat.zero_le 2) (by kernel_rfl) fix0 (by kernel_rfl) (by kernel_rfl) (by kernel_rfl) (by kernel_rfl)
      (obsL [rowL (t :: L), hillK k (slG 1 (t :: L).length)] (by kernel_rfl) ⟨obs_rowL rfl rfl, RenO.of (σ := fun j => match j with | 1 => 0 | 2 => 1 | j => j) rfl rfl, trivial⟩) ?_
    refine hl.mono fun e af hx => ?_
    obtain ⟨rfl, less⟩ := hx
    show Runs Tryz.prog 0 (behind 3 c3) af _
    exact Runs.less less flood_end
#print axioms flood_runs
end
end Go.Proofs.YtbcjmmbmeebfgaaGreatDoor
