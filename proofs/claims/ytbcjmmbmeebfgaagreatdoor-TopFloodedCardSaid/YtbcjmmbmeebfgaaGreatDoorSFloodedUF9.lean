/- TopFlooded: the law's states, rows of bools, pushes of pipes. -/
import Derived.Test.YtbcjmmbmeebfgaaGreatDoorSFloodedUF8
import Derived.Test.YtbcjmmbmeebfgaaGreatDoorSFloodedUF6
namespace Go.Proofs.YtbcjmmbmeebfgaaGreatDoor
set_option linter.unusedVariables false
set_option linter.unusedSimpArgs false
open Go Go.R
set_option maxRecDepth 1000000
noncomputable section

/-! ### Code -/
noncomputable def thn : Code → Code
  | .cond _ a _ => a
  | c => c
noncomputable def c3 : Code := bodyOf Tryz.f3
noncomputable def lp3 : Code := within (hd (behind 2 c3))
noncomputable def In1 : Code := within (tl (within lp3))
noncomputable def T3 : Code := thn (tl (hd (behind 2 In1)))
noncomputable def lpo : Code := within (tl (hd (behind 2 T3)))
noncomputable def lpi : Code := within (tl (tl (tl (within (hd (tl (tl (within lpo))))))))
noncomputable def lpr : Code := within (tl (hd (behind 3 T3)))
noncomputable def lpq : Code := within (tl (within (hd (tl (tl (within lpr))))))
noncomputable def lps : Code := within (tl (hd (behind 5 T3)))

/-! ### Rows of bools -/
noncomputable def rowW (n : Nat) (f : Nat → Bool) : AObj := .cells (valsZ n fun i => .bool (f i)) true [] (some 4)
noncomputable def updB (f : Nat → Bool) (i : Nat) (v : Bool) : Nat → Bool := fun j => if Nat.beq j i then v else f j
theorem rowW_plain (n : Nat) (f : Nat → Bool) : ∀ x ∈ valsZ n (fun i => Value.bool (f i)), plainV x = true := valsZ_plain fun _ _ => rfl
theorem rowW_clo {k n : Nat} {f : Nat → Bool} : CloO k (rowW n f) := cloO_plain (rowW_plain n f) _ _
theorem rowW_at {h : AH} {q n i : Nat} {f : Nat → Bool} (hg : h.get q = rowW n f) (hi : i < n) : rowAt? h q (0 + i * 1) 1 = some [.bool (f i)] := valsZ_at (q := q) (n := n) (g := fun i => .bool (f i)) (lv := true) (par := []) (ty := some 4) hg hi
theorem obs_rowW {ρ : Nat → Nat} {q n : Nat} {f : Nat → Bool} : RenO ρ q (rowW n f) (rowW n f) := RenO.row (c := valsZ n fun i => .bool (f i)) (lv := true) (p := []) (ty := some 4) rfl (rowW_plain n f) (fun h => h) (.inr rfl)
theorem valsB_set {N i : Nat} {v : Bool} {g : Nat → Bool} (hi : i < N) : splice (valsZ N fun i => .bool (g i)) (0 + i * 1) [.bool v] = valsZ N fun j => .bool (updB g i v j) := by
  have hlen : (valsZ N fun i => Value.bool (g i)).length = N := valsZ_len _ _
  unfold splice
  rw [Nat.zero_add, Nat.mul_one]
  apply List.ext_getElem?
  intro j
  rcases Nat.lt_trichotomy j i with h | h | h
  · rw [List.getElem?_append_left (by rw [List.length_append, List.length_take]; simp; omega), List.getElem?_append_left (by rw [List.length_take]; omega), List.getElem?_take_of_lt h, valsZ_get _ _ (by omega), valsZ_get _ _ (by omega)]
    unfold updB; rw [if_neg (fun e => by have := nbeq.1 e; omega)]
  · subst h
    rw [List.getElem?_append_left (by rw [List.length_append, List.length_take]; simp; omega), List.getElem?_append_right (by rw [List.length_take]; omega), List.length_take, valsZ_get _ _ hi]
    rw [show j - min j (valsZ N fun i => Value.bool (g i)).length = 0 by omega]
    unfold updB; rw [if_pos (nbeq.2 rfl)]; rfl
  · rcases Nat.lt_or_ge j N with hj | hj
    · rw [List.getElem?_append_right (by rw [List.length_append, List.length_take]; simp; omega), List.length_append, List.length_take, List.getElem?_drop, valsZ_get _ _ hj]
      have e : i + [Value.bool v].length + (j - (min i (valsZ N fun i => Value.bool (g i)).length + [Value.bool v].length)) = j := by rw [hlen]; simp; omega
      rw [e, valsZ_get _ _ hj]
      unfold updB; rw [if_neg (fun e => by have := nbeq.1 e; omega)]
    · rw [List.getElem?_eq_none (by rw [List.length_append, List.length_append, List.length_take, List.length_drop]; simp; omega), List.getElem?_eq_none (by rw [valsZ_len]; omega)]
theorem store_W {h : AH} {q N i : Nat} {v : Bool} {g : Nat → Bool} (hg : h.get q = rowW N g) (hi : i < N) : storeA Tryz.prog 4 q (0 + i * 1) (.bool v) h = some (h.put q (rowW N (updB g i v))) := by
  obtain ⟨info, e2, e3⟩ : ∃ info, Tryz.prog.info? 4 = some info ∧ info.size = 1 := ⟨(Tryz.prog.info? 4).get!, by kernel_rfl, by kernel_rfl⟩
  have e4 : (decide ((Value.bool v).cells.size = info.size) && (Value.bool v).cells.toList.all cellV) = true := by rw [e3]; rfl
  unfold storeA
  simp only [e2]
  rw [if_pos e4]
  show putRow? h q (0 + i * 1) [.bool v] = _
  unfold putRow?
  rw [hg]
  show (if 0 + i * 1 + 1 ≤ (valsZ N fun i => Value.bool (g i)).length then some ((h.kill []).put q (.cells (splice (valsZ N fun i => Value.bool (g i)) (0 + i * 1) [.bool v]) true [] (some 4))) else none) = _
  rw [if_pos (by rw [valsZ_len]; omega), valsB_set hi]
  rfl
theorem zero_W : ∀ n, repeatL [.bool false] n = valsZ n (fun _ => .bool false)
  | 0 => rfl
  | n + 1 => by
    show .bool false :: repeatL [.bool false] n = _
    rw [zero_W n]
    unfold valsZ
    rw [List.map_const', List.map_const', List.length_range, List.length_range]
    rfl
theorem make_W {h : AH} {n : Nat} (hn : n ≤ 1000) : makeSliceA Tryz.prog 33 (i64 n) (i64 n) h = some (.slice (some ⟨h.next, 0, none⟩) n n, (h.new (rowW n fun _ => false)).2) := by
  have e1 : Tryz.prog.underlying 33 = some (.slice 4) := by kernel_rfl
  obtain ⟨info, e2, e3, e4, e5⟩ : ∃ info, Tryz.prog.info? 4 = some info ∧ info.size = 1 ∧ zeroOf info = some (.bool false) ∧ Nat.ble info.bytes 1000000 = true := ⟨(Tryz.prog.info? 4).get!, by kernel_rfl, by kernel_rfl, by kernel_rfl, by kernel_rfl⟩
  rw [show i64 n = Value.int .i64 (Int.ofNat n) from rfl]
  unfold makeSliceA
  simp only [e1, e2, e4, e3]
  have c1 : (decide ((1 : Nat) ≠ (Value.bool false).cells.size) || decide ((1 : Nat) = 0)) = false := by rfl
  have c2 : (0 : Int) ≤ Int.ofNat n ∧ (Int.ofNat n : Int) ≤ Int.ofNat n ∧ (Int.ofNat n : Int) ≤ 1000000 ∧ info.bytes ≤ 1000000 := ⟨Int.natCast_nonneg n, Int.le_refl _, by show (n : Int) ≤ 1000000; omega, Nat.le_of_ble_eq_true e5⟩
  rw [c1, if_pos c2]
  simp only [Bool.false_eq_true, if_false]
  show some (Value.slice (some ⟨(h.new (.cells (repeatL [.bool false] n) true [] (some 4))).1, 0, none⟩) n n, (h.new (.cells (repeatL [.bool false] n) true [] (some 4))).2) = _
  rw [zero_W]
  rfl

/-! ### Distances and edges -/
noncomputable def sqI (c d : Nat) : Int := wrapF .i64 (Int.add (wrapF .i64 (Int.mul (wrapF .i64 (Int.sub (.ofNat (c / 7)) (.ofNat (d / 7)))) (wrapF .i64 (Int.sub (.ofNat (c / 7)) (.ofNat (d / 7)))))) (wrapF .i64 (Int.mul (wrapF .i64 (Int.sub (.ofNat (c % 7)) (.ofNat (d % 7)))) (wrapF .i64 (Int.sub (.ofNat (c % 7)) (.ofNat (d % 7)))))))
theorem sq_all : ((List.range 49).all fun c => (List.range 49).all fun d => eqF (sqI c d) (.ofNat 1) == nxC c d) = true := by kernel_rfl
theorem sq_is {c d : Nat} (hc : c < 49) (hd : d < 49) : eqF (sqI c d) (.ofNat 1) = nxC c d := eq_of_beq (List.all_eq_true.1 (List.all_eq_true.1 sq_all c (List.mem_range.2 hc)) d (List.mem_range.2 hd))

/-! ### Objects -/
/-- What the galleries' slice may be. -/
def GSV (s : Value) : Prop := s = .slice none 0 0 ∨ (∃ o, s = sz0 0 o) ∨ ∃ o m, s = .slice (some ⟨0, o, some 3⟩) m m
theorem gsv_clo {s : Value} (h : GSV s) {k : Nat} (hk : 0 < k) : Clo k s := by
  have hb : Nat.blt 0 k = true := by rw [Nat.blt_eq]; exact hk
  rcases h with rfl | ⟨o, rfl⟩ | ⟨o, m, rfl⟩
  · exact clo_plain rfl
  · exact clo_of 10 k _ (by kernel_rfl)
  · refine clo_of 10 k _ ?_
    show (plainV _ || Nat.blt 0 k) = true
    rw [hb, Bool.or_true]
theorem obs_hk {ρ σ : Nat → Nat} {q k : Nat} {s : Value} (hs : GSV s) (h0 : σ 0 = 0) (g0 : ρ 0 = 0) (hq : Nat.blt 0 q = true) : RenO ρ q (hillK k s) (hillK k s) := by
  have any : ∀ v, NoG v → RenO ρ q (hillK k v) (hillK k v) := fun v hv => by
    refine ⟨rfl, fun j u w hu hw => ?_, fun h => h, rfl, .inr rfl⟩
    match j, hu, hw with
    | 0, hu, hw => cases hu; cases hw; exact Ren.plain rfl
    | 1, hu, hw => cases hu; cases hw; exact fun μ x hx => noG_any hv _ _ _ hx
    | j + 2, hu, hw => cases hu
  rcases hs with rfl | ⟨o, rfl⟩ | ⟨o, m, rfl⟩
  · exact any _ (.inl rfl)
  · exact any _ (.inr ⟨0, o, rfl⟩)
  · refine RenO.of (σ := σ) ?_ ?_
    · show AObj.cells [i64 k, .slice (some ⟨σ 0, o, some 3⟩) m m] true [] (some 26) = _
      rw [h0]; rfl
    · show (true && (Nat.blt (σ 0) q && Nat.beq (ρ (σ 0)) 0 && true)) = true
      rw [h0, g0, hq]; rfl
/-- A row whatever, of plain values. -/
noncomputable def ob0 (c0 : List Value) (ty0 : Option TypeId) : AObj := .cells c0 true [] ty0
theorem obs_ob0 {ρ : Nat → Nat} {q : Nat} {c0 : List Value} {ty0 : Option TypeId} (h : ∀ v ∈ c0, plainV v = true) : RenO ρ q (ob0 c0 ty0) (ob0 c0 ty0) := RenO.row (c := c0) (lv := true) (p := []) (ty := ty0) rfl h (fun h => h) (.inr rfl)
noncomputable def rowPi (ps : List (Nat × Nat)) : AObj := .cells (pipesC ps) true [] (some 36)
theorem obs_pi {ρ : Nat → Nat} {q : Nat} {ps : List (Nat × Nat)} {p : List Nat} {x : AObj} {l : List Value} (e : x = .cells l true p (some 36)) (el : l = pipesC ps) : RenO ρ q x (rowPi ps) := RenO.row (c := pipesC ps) (lv := true) (p := p) (ty := some 36) (el ▸ e) pipesC_plain (fun h => h) (.inr rfl)
noncomputable def drO (n : Nat) (v : Value) : AObj := .cells [i64 n, v] true [] (some 32)
theorem pipe_info : ∃ info, Tryz.prog.info? 36 = some info ∧ info.size = 2 + 1 ∧ (decide (info.bytes > 1000000) || !zfit info) = false := ⟨(Tryz.prog.info? 36).get!, by kernel_rfl, by kernel_rfl, by kernel_rfl⟩
theorem drO_clo {k n j m : Nat} (h : j < k) : CloO k (drO n (slG j m)) := ⟨fun v hv => by
  simp only [List.mem_cons, List.mem_nil_iff, or_false] at hv
  rcases hv with rfl | rfl
  · exact clo_plain rfl
  · exact slG_clo h, fun j hj => by cases hj⟩
theorem drO_clo0 {k n : Nat} : CloO k (drO n (.slice none 0 0)) := ⟨fun v hv => by
  simp only [List.mem_cons, List.mem_nil_iff, or_false] at hv
  rcases hv with rfl | rfl <;> exact clo_plain rfl, fun j hj => by cases hj⟩
theorem rowPi_clo {k : Nat} {ps : List (Nat × Nat)} : CloO k (rowPi ps) := cloO_plain pipesC_plain _ _
theorem plcO_clo {k x : Nat} : CloO k (plcO x) := cloO_plain (fun v hv => by simp only [List.mem_cons, List.mem_nil_iff, or_false] at hv; rcases hv with rfl | rfl <;> rfl) _ _
theorem obs_plc {ρ σ : Nat → Nat} {q x : Nat} : RenO ρ q (plcO x) (plcO x) := RenO.of (σ := σ) rfl rfl
/-- Outer objects: a row, the hill, the places. -/
structure Outer (c0 : List Value) (s : Value) (l : List Nat) : Prop where
  p0 : ∀ v ∈ c0, plainV v = true
  gs : GSV s
  le : ∀ y ∈ l, y < 49
  few : l.length < 5
end
end Go.Proofs.YtbcjmmbmeebfgaaGreatDoor

/- TopFlooded: the law's inner loop: pipes from one place to those next to it. -/
namespace Go.Proofs.YtbcjmmbmeebfgaaGreatDoor
set_option linter.unusedVariables false
set_option linter.unusedSimpArgs false
open Go Go.R
set_option maxRecDepth 1000000
noncomputable section

noncomputable def inR (p : Nat → Bool) (i : Nat) : Nat → Nat → List (Nat × Nat) → List (Nat × Nat)
  | 0, _, ps => ps
  | d + 1, j, ps => inR p i d (j + 1) (if p j then ps ++ [(i, j)] else ps)
noncomputable def OI (c0 : List Value) (ty0 : Option TypeId) (k : Nat) (s : Value) (l : List Nat) (n : Nat) (f : Nat → Bool) (c : Nat) : List (Nat × Nat) → List AObj
  | [] => [ob0 c0 ty0, hillK k s, rowP l, drO n (.slice none 0 0), rowW n f, plcO c]
  | p :: ps => [ob0 c0 ty0, hillK k s, rowP l, drO n (slG 6 (p :: ps).length), rowW n f, plcO c, rowPi (p :: ps)]
noncomputable def EI (n i : Nat) : List (Nat × Value) := [(7, ptrV 1), (8, slP 2 n), (9, i64 n), (10, ptrV 3), (11, smallS 4 n n), (12, i64 i), (13, ptrV 5), (48, slP 2 n), (49, i64 n), (50, i64 i)]
noncomputable def SI (n i j : Nat) : List (Nat × Value) := [(7, ptrV 1), (8, slP 2 n), (9, i64 n), (10, ptrV 3), (11, smallS 4 n n), (12, i64 i), (13, ptrV 5), (48, slP 2 n), (49, i64 n), (50, i64 i), (90, slP 2 n), (91, i64 n), (92, i64 j)]
section
variable {c0 : List Value} {ty0 : Option TypeId} {k n i c : Nat} {s : Value} {l : List Nat} {f : Nat → Bool}
theorem oi_0 (O : Outer c0 s l) : ∀ o ∈ OI c0 ty0 k s l n f c [], CloO 6 o := fun o ho => by
  simp only [OI, List.mem_cons, List.mem_nil_iff, or_false] at ho
  rcases ho with rfl | rfl | rfl | rfl | rfl | rfl
  · exact cloO_plain O.p0 _ _
  · exact hillK_clo (gsv_clo O.gs (by decide))
  · exact rowP_clo
  · exact drO_clo0
  · exact rowW_clo
  · exact plcO_clo
theorem oi_1 (O : Outer c0 s l) {p : Nat × Nat} {ps : List (Nat × Nat)} : ∀ o ∈ OI c0 ty0 k s l n f c (p :: ps), CloO 7 o := fun o ho => by
  simp only [OI, List.mem_cons, List.mem_nil_iff, or_false] at ho
  rcases ho with rfl | rfl | rfl | rfl | rfl | rfl | rfl
  · exact cloO_plain O.p0 _ _
  · exact hillK_clo (gsv_clo O.gs (by decide))
  · exact rowP_clo
  · exact drO_clo (by decide)
  · exact rowW_clo
  · exact plcO_clo
  · exact rowPi_clo
theorem inner3 (O : Outer c0 s l) (hl : l.length = n) (hc : c < 49) : ∀ d j ps, j + d = n → ps.length + d < 1000 →
    Runs Tryz.prog 0 lpi (sth (SI n i j) 252 (OI c0 ty0 k s l n f c ps)) fun e af => e = .exit 4 ∧ Less 0 (sth (EI n i) 252 (OI c0 ty0 k s l n f c (inR (fun j => nxC c (l.getD j 0)) i d j ps))) af := by
  intro d
  induction d with
  | zero =>
    intro j ps hj _
    have e : j = n := by omega
    subst e
    cases ps with
    | nil =>
      refine Runs.lp (by kernel_rfl) (Runs.sqR mixed hkU [] (by kernel_rfl) (by kernel_rfl) (by kernel_rfl) oblN (Runs.sq (by kernel_rfl) ?_))
      refine Runs.cd (b := ltF (.ofNat j) (.ofNat j)) (by kernel_rfl) (fun ht => by rw [lt_self] at ht; cases ht) (fun _ => Runs.now (x := .exit 4) (by kernel_rfl) ⟨rfl, ?_⟩)
      exact less_seenP (clo_all (k := 6) (by kernel_rfl)) (oi_0 O) (Nat.zero_le 6) (by kernel_rfl) (by kernel_rfl) (by kernel_rfl) (by kernel_rfl)
    | cons p ps =>
      refine Runs.lp (by kernel_rfl) (Runs.sqR mixed hkU [] (by kernel_rfl) (by kernel_rfl) (by kernel_rfl) oblN (Runs.sq (by kernel_rfl) ?_))
      refine Runs.cd (b := ltF (.ofNat j) (.ofNat j)) (by kernel_rfl) (fun ht => by rw [lt_self] at ht; cases ht) (fun _ => Runs.now (x := .exit 4) (by kernel_rfl) ⟨rfl, ?_⟩)
      exact less_seenP (clo_all (k := 7) (by kernel_rfl)) (oi_1 O) (Nat.zero_le 7) (by kernel_rfl) (by kernel_rfl) (by kernel_rfl) (by kernel_rfl)
  | succ d ih =>
    intro j ps hj hps
    have hlt : j < n := by omega
    have hfew := O.few
    have hj5 : j < 5 := by omega
    obtain ⟨y, hy⟩ : ∃ y, l[j]? = some y := ⟨l[j], List.getElem?_eq_getElem (by omega)⟩
    have hyb := O.le y (List.mem_of_getElem? hy)
    have eg : l.getD j 0 = y := by rw [List.getD_eq_getElem?_getD, hy]; rfl
    have hr := ih (j + 1) (if nxC c (l.getD j 0) then ps ++ [(i, j)] else ps) (by omega) (by
      split
      · rw [List.length_append]; show ps.length + 1 + d < 1000; omega
      · omega)
    rw [show inR (fun j => nxC c (l.getD j 0)) i (d + 1) j ps = inR (fun j => nxC c (l.getD j 0)) i d (j + 1) (if nxC c (l.getD j 0) then ps ++ [(i, j)] else ps) from rfl]
    generalize inR (fun j => nxC c (l.getD j 0)) i d (j + 1) (if nxC c (l.getD j 0) then ps ++ [(i, j)] else ps) = R at hr ⊢
    rw [eg] at hr
    have hsq := sq_is hc hyb
    cases ps with
    | nil =>
      refine Runs.lp (by kernel_rfl) (Runs.sqR mixed hkU [] (by kernel_rfl) (by kernel_rfl) (by kernel_rfl) oblN (Runs.sq (by kernel_rfl) ?_))
      refine Runs.cd (b := ltF (.ofNat j) (.ofNat n)) (by kernel_rfl) (fun _ => Runs.now (x := .normal) (by kernel_rfl) ?_) (fun hf => by rw [lt_of hlt] at hf; cases hf)
      show Runs Tryz.prog 0 _ _ _
      refine Runs.sq (by kernel_rfl) (Runs.bk (id := 5) (by kernel_rfl) ?_)
      refine Runs.sqR mixed hkU [viaV 1 (.pointer (some ⟨2, 0 + j * 2, none⟩)), viaV 2 (plV y)] (by kernel_rfl) (by kernel_rfl) (by kernel_rfl)
        (oblC (shown_idx (n := n) (by kernel_rfl) hlt) (oblC (shown_agg (by kernel_rfl) (placesC_at (q := 2) (l := l) (lv := true) (par := []) (ty := some 35) (by kernel_rfl) hy)) oblN)) ?_
      refine Runs.sqR mixed hkU [viaV 23 (.bool (nxC c y))] (by kernel_rfl) (by kernel_rfl) (by kernel_rfl)
        (oblC (shown_eq (v := .bool (eqF (sqI c y) (.ofNat 1))) (by kernel_rfl) (by kernel_rfl) (by rw [hsq])) oblN) ?_
      generalize nxC c y = v at hr
      refine Runs.cd (b := v) (by kernel_rfl) (fun ht => ?_) (fun hf => Runs.now (x := .normal) (by kernel_rfl) ?_)
      · rw [if_pos ht] at hr
        refine Runs.rg mixed hkU [] (by kernel_rfl) (by kernel_rfl) (by kernel_rfl) oblN ?_
        show Runs Tryz.prog 0 _ _ _
        refine Runs.rg mixed hkU [viaV 0 (i64 (j + 1))] (by kernel_rfl) (by kernel_rfl) (by kernel_rfl) (oblC (shown_eq (v := .int .i64 (wrapF .i64 (Int.add (.ofNat j) (.ofNat 1)))) (by kernel_rfl) (by kernel_rfl) (by rw [wrap_succ (by omega)]; rfl)) oblN) ?_
        show Runs Tryz.prog 0 lpi _ _
        exact Runs.renumK (sz := 252) (l := SI n i (j + 1)) (os := OI c0 ty0 k s l n f c [(i, j)]) (fun j => match j with | 6 => 8 | j => j) (fun j => match j with | 8 => 6 | j => j) (by kernel_rfl) (Nat.zero_le 7) (by kernel_rfl) fix0 (by kernel_rfl) (by kernel_rfl) (by kernel_rfl) (by kernel_rfl)
          (obsL [ob0 c0 ty0, hillK k s, rowP l, drO n (slG 8 1), rowW n f, plcO c, .cells [i64 i, i64 j, i64 1] true [] (some 36)] (by kernel_rfl)
            ⟨obs_ob0 O.p0, obs_hk (σ := fun j => match j with | 8 => 6 | j => j) O.gs rfl rfl rfl, obs_rowP rfl rfl, RenO.of (σ := fun j => match j with | 8 => 6 | j => j) rfl rfl, obs_rowW, obs_plc (σ := fun j => j), obs_pi rfl (pipesC_app [] (i, j)), trivial⟩) hr
      · rw [if_neg (by rw [hf]; exact Bool.false_ne_true)] at hr
        show Runs Tryz.prog 0 _ _ _
        refine Runs.rg mixed hkU [viaV 0 (i64 (j + 1))] (by kernel_rfl) (by kernel_rfl) (by kernel_rfl) (oblC (shown_eq (v := .int .i64 (wrapF .i64 (Int.add (.ofNat j) (.ofNat 1)))) (by kernel_rfl) (by kernel_rfl) (by rw [wrap_succ (by omega)]; rfl)) oblN) ?_
        show Runs Tryz.prog 0 lpi _ _
        exact Runs.less (af1 := sth (SI n i (j + 1)) 252 (OI c0 ty0 k s l n f c [])) (less_seenP (clo_all (k := 6) (by kernel_rfl)) (oi_0 O) (Nat.zero_le 6) (by kernel_rfl) (by kernel_rfl) (by kernel_rfl) (by kernel_rfl)) hr
    | cons p ps =>
      refine Runs.lp (by kernel_rfl) (Runs.sqR mixed hkU [] (by kernel_rfl) (by kernel_rfl) (by kernel_rfl) oblN (Runs.sq (by kernel_rfl) ?_))
      refine Runs.cd (b := ltF (.ofNat j) (.ofNat n)) (by kernel_rfl) (fun _ => Runs.now (x := .normal) (by kernel_rfl) ?_) (fun hf => by rw [lt_of hlt] at hf; cases hf)
      show Runs Tryz.prog 0 _ _ _
      refine Runs.sq (by kernel_rfl) (Runs.bk (id := 5) (by kernel_rfl) ?_)
      refine Runs.sqR mixed hkU [viaV 1 (.pointer (some ⟨2, 0 + j * 2, none⟩)), viaV 2 (plV y)] (by kernel_rfl) (by kernel_rfl) (by kernel_rfl)
        (oblC (shown_idx (n := n) (by kernel_rfl) hlt) (oblC (shown_agg (by kernel_rfl) (placesC_at (q := 2) (l := l) (lv := true) (par := []) (ty := some 35) (by kernel_rfl) hy)) oblN)) ?_
      refine Runs.sqR mixed hkU [viaV 23 (.bool (nxC c y))] (by kernel_rfl) (by kernel_rfl) (by kernel_rfl)
        (oblC (shown_eq (v := .bool (eqF (sqI c y) (.ofNat 1))) (by kernel_rfl) (by kernel_rfl) (by rw [hsq])) oblN) ?_
      generalize nxC c y = v at hr
      refine Runs.cd (b := v) (by kernel_rfl) (fun ht => ?_) (fun hf => Runs.now (x := .normal) (by kernel_rfl) ?_)
      · rw [if_pos ht] at hr
        have hO : OI c0 ty0 k s l n f c (p :: (ps ++ [(i, j)])) = [ob0 c0 ty0, hillK k s, rowP l, drO n (slG 6 ((p :: ps).length + 1)), rowW n f, plcO c, rowPi (p :: (ps ++ [(i, j)]))] := by
          show [ob0 c0 ty0, hillK k s, rowP l, drO n (slG 6 (p :: (ps ++ [(i, j)])).length), rowW n f, plcO c, rowPi (p :: (ps ++ [(i, j)]))] = _
          rw [show (p :: (ps ++ [(i, j)])).length = (p :: ps).length + 1 by simp]
        have hr1 : Runs Tryz.prog 0 lpi (sth (SI n i (j + 1)) 252 [ob0 c0 ty0, hillK k s, rowP l, drO n (slG 6 ((p :: ps).length + 1)), rowW n f, plcO c, rowPi (p :: (ps ++ [(i, j)]))]) fun e af => e = .exit 4 ∧ Less 0 (sth (EI n i) 252 (OI c0 ty0 k s l n f c R)) af := by
          rw [← hO]; exact hr
        let H0 : AH := hp (OI c0 ty0 k s l n f c (p :: ps))
        let H1 : AH := (H0.new (plcO y)).2
        let H2 : AH := (H1.new (.cells [i64 i, i64 j, i64 1] true [] (some 36))).2
        have hap := push_gen (st := 30) (e := 36) (z := 2) (by kernel_rfl) pipe_info (h := H2) (i := 6) (j := 8) (x := [i64 i, i64 j, i64 1]) (c := pipesC (p :: ps)) (m := (p :: ps).length) (par := []) rfl rfl (pipesC_len _) (by omega) (by kernel_rfl) (by kernel_rfl)
        refine Runs.rg mixed hkU [⟨6, slG 9 ((p :: ps).length + 1), some ((H2.put 6 (.cells (pipesC (p :: ps)) false [] (some 36))).new (.cells (pipesC (p :: ps) ++ [i64 i, i64 j, i64 1]) true [6] (some 36))).2, none⟩] (by kernel_rfl) (by kernel_rfl) (by kernel_rfl)
          (oblC ⟨by kernel_rfl, (show _ = appendA Tryz.prog #[30, 30] (.slice (some ⟨6, 0, some 3⟩) (p :: ps).length (p :: ps).length) (.slice (some ⟨8, 0, none⟩) 1 1) H2 by kernel_rfl).trans hap⟩ oblN) ?_
        show Runs Tryz.prog 0 _ _ _
        refine Runs.rg mixed hkU [viaV 0 (i64 (j + 1))] (by kernel_rfl) (by kernel_rfl) (by kernel_rfl) (oblC (shown_eq (v := .int .i64 (wrapF .i64 (Int.add (.ofNat j) (.ofNat 1)))) (by kernel_rfl) (by kernel_rfl) (by rw [wrap_succ (by omega)]; rfl)) oblN) ?_
        show Runs Tryz.prog 0 lpi _ _
        exact Runs.renumK (sz := 252) (l := SI n i (j + 1)) (os := [ob0 c0 ty0, hillK k s, rowP l, drO n (slG 6 ((p :: ps).length + 1)), rowW n f, plcO c, rowPi (p :: (ps ++ [(i, j)]))]) (fun j => match j with | 6 => 9 | j => j) (fun j => match j with | 9 => 6 | j => j) (by kernel_rfl) (Nat.zero_le 7) (by kernel_rfl) fix0 (by kernel_rfl) (by kernel_rfl) (by kernel_rfl) (by kernel_rfl)
          (obsL [ob0 c0 ty0, hillK k s, rowP l, drO n (slG 9 ((p :: ps).length + 1)), rowW n f, plcO c, .cells (pipesC (p :: ps) ++ [i64 i, i64 j, i64 1]) true [6] (some 36)] (by kernel_rfl)
            ⟨obs_ob0 O.p0, obs_hk (σ := fun j => match j with | 9 => 6 | j => j) O.gs rfl rfl rfl, obs_rowP rfl rfl, RenO.of (σ := fun j => match j with | 9 => 6 | j => j) rfl rfl, obs_rowW, obs_plc (σ := fun j => j), obs_pi rfl (pipesC_app (p :: ps) (i, j)), trivial⟩) hr1
      · rw [if_neg (by rw [hf]; exact Bool.false_ne_true)] at hr
        show Runs Tryz.prog 0 _ _ _
        refine Runs.rg mixed hkU [viaV 0 (i64 (j + 1))] (by kernel_rfl) (by kernel_rfl) (by kernel_rfl) (oblC (shown_eq (v := .int .i64 (wrapF .i64 (Int.add (.ofNat j) (.ofNat 1)))) (by kernel_rfl) (by kernel_rfl) (by rw [wrap_succ (by omega)]; rfl)) oblN) ?_
        show Runs Tryz.prog 0 lpi _ _
        exact Runs.less (af1 := sth (SI n i (j + 1)) 252 (OI c0 ty0 k s l n f c (p :: ps))) (less_seenP (clo_all (k := 7) (by kernel_rfl)) (oi_1 O) (Nat.zero_le 7) (by kernel_rfl) (by kernel_rfl) (by kernel_rfl) (by kernel_rfl)) hr
end
end
end Go.Proofs.YtbcjmmbmeebfgaaGreatDoor

/- TopFlooded: the law's edge block: a place at the edge has a pipe to the outside, and gets away. -/
namespace Go.Proofs.YtbcjmmbmeebfgaaGreatDoor
set_option linter.unusedVariables false
set_option linter.unusedSimpArgs false
open Go Go.R
set_option maxRecDepth 1000000
noncomputable section

noncomputable def ebC : Code := hd (tl (within (hd (tl (tl (within lpo))))))
noncomputable def EB (n i : Nat) (b : Bool) : List (Nat × Value) := [(7, ptrV 1), (8, slP 2 n), (9, i64 n), (10, ptrV 3), (11, smallS 4 n n), (12, i64 i), (13, ptrV 5), (48, slP 2 n), (49, i64 n), (50, i64 i), (78, .bool b)]
section
variable {c0 : List Value} {ty0 : Option TypeId} {k n i c : Nat} {s : Value} {l : List Nat} {f : Nat → Bool}
theorem edge_head (O : Outer c0 s l) (hk : 1 ≤ k) (hk7 : k < 8) {ps : List (Nat × Nat)} {Q : AExit → AF → Prop} (h : Runs Tryz.prog 0 (tl ebC) (sth (EB n i (bdC k c)) 252 (OI c0 ty0 k s l n f c ps)) Q) : Runs Tryz.prog 0 ebC (sth (EI n i) 252 (OI c0 ty0 k s l n f c ps)) Q := by
  have fz : ∀ {a : Nat}, a ≠ 0 → eqF (.ofNat a) (.ofNat 0) = false := fun h => eqF_false (fun e => h (Int.ofNat.inj e))
  have fk : ∀ {a b : Nat}, a ≠ b → eqF (.ofNat a) (.ofNat b) = false := fun h => eqF_false (fun e => h (Int.ofNat.inj e))
  have nb : ∀ {a b : Nat}, a ≠ b → Nat.beq a b = false := fun {a b} h => by
    cases e : Nat.beq a b with
    | false => rfl
    | true => exact absurd (nbeq.1 e) h
  unfold bdC at h
  cases ps with
    | nil =>
      by_cases h1 : c / 7 = 0
      · rw [h1, show (Nat.beq 0 0 || Nat.beq (c % 7) 0 || Nat.beq (0 + 1) k || Nat.beq (c % 7 + 1) k) = true from rfl] at h
        refine Runs.sqR mixed hkU [viaV 2 (.bool true)] (by kernel_rfl) (by kernel_rfl) (by kernel_rfl) (oblC (shown_eq (v := .bool (eqF (.ofNat (c / 7)) (.ofNat 0))) (by kernel_rfl) (by kernel_rfl) (by rw [eqF_true (by rw [h1])])) oblN) ?_
        exact Runs.less (af1 := sth (EB n i true) 252 (OI c0 ty0 k s l n f c [])) (less_seenP (clo_all (k := 6) (by kernel_rfl)) (oi_0 O) (Nat.zero_le 6) (by kernel_rfl) (by kernel_rfl) (by kernel_rfl) (by kernel_rfl)) h
      · rw [nb h1] at h
        by_cases h2 : c % 7 = 0
        · rw [h2, show (false || Nat.beq 0 0 || Nat.beq (c / 7 + 1) k || Nat.beq (0 + 1) k) = true from rfl] at h
          refine Runs.sqR mixed hkU [viaV 2 (.bool false), viaV 6 (.bool true)] (by kernel_rfl) (by kernel_rfl) (by kernel_rfl) (oblC (shown_eq (v := .bool (eqF (.ofNat (c / 7)) (.ofNat 0))) (by kernel_rfl) (by kernel_rfl) (by rw [fz h1])) (oblC (shown_eq (v := .bool (eqF (.ofNat (c % 7)) (.ofNat 0))) (by kernel_rfl) (by kernel_rfl) (by rw [eqF_true (by rw [h2])])) oblN)) ?_
          exact Runs.less (af1 := sth (EB n i true) 252 (OI c0 ty0 k s l n f c [])) (less_seenP (clo_all (k := 6) (by kernel_rfl)) (oi_0 O) (Nat.zero_le 6) (by kernel_rfl) (by kernel_rfl) (by kernel_rfl) (by kernel_rfl)) h
        · rw [nb h2] at h
          by_cases h3 : c / 7 + 1 = k
          · rw [nbeq.2 h3, show (false || false || true || Nat.beq (c % 7 + 1) k) = true from rfl] at h
            refine Runs.sqR mixed hkU [viaV 2 (.bool false), viaV 6 (.bool false), viaV 13 (i64 (k - 1)), viaV 14 (.bool true)] (by kernel_rfl) (by kernel_rfl) (by kernel_rfl) (oblC (shown_eq (v := .bool (eqF (.ofNat (c / 7)) (.ofNat 0))) (by kernel_rfl) (by kernel_rfl) (by rw [fz h1])) (oblC (shown_eq (v := .bool (eqF (.ofNat (c % 7)) (.ofNat 0))) (by kernel_rfl) (by kernel_rfl) (by rw [fz h2])) (oblC (shown_eq (v := .int .i64 (wrapF .i64 (Int.sub (.ofNat k) (.ofNat 1)))) (by kernel_rfl) (by kernel_rfl) (by rw [wrap_pred hk (by omega)]; rfl)) (oblC (shown_eq (v := .bool (eqF (.ofNat (c / 7)) (.ofNat (k - 1)))) (by kernel_rfl) (by kernel_rfl) (by rw [eqF_true (by rw [show c / 7 = k - 1 by omega])])) oblN)))) ?_
            exact Runs.less (af1 := sth (EB n i true) 252 (OI c0 ty0 k s l n f c [])) (less_seenP (clo_all (k := 6) (by kernel_rfl)) (oi_0 O) (Nat.zero_le 6) (by kernel_rfl) (by kernel_rfl) (by kernel_rfl) (by kernel_rfl)) h
          · rw [nb h3] at h
            by_cases h4 : c % 7 + 1 = k
            · rw [nbeq.2 h4, show (false || false || false || true) = true from rfl] at h
              refine Runs.sqR mixed hkU [viaV 2 (.bool false), viaV 6 (.bool false), viaV 13 (i64 (k - 1)), viaV 14 (.bool false), viaV 21 (i64 (k - 1)), viaV 22 (.bool true)] (by kernel_rfl) (by kernel_rfl) (by kernel_rfl) (oblC (shown_eq (v := .bool (eqF (.ofNat (c / 7)) (.ofNat 0))) (by kernel_rfl) (by kernel_rfl) (by rw [fz h1])) (oblC (shown_eq (v := .bool (eqF (.ofNat (c % 7)) (.ofNat 0))) (by kernel_rfl) (by kernel_rfl) (by rw [fz h2])) (oblC (shown_eq (v := .int .i64 (wrapF .i64 (Int.sub (.ofNat k) (.ofNat 1)))) (by kernel_rfl) (by kernel_rfl) (by rw [wrap_pred hk (by omega)]; rfl)) (oblC (shown_eq (v := .bool (eqF (.ofNat (c / 7)) (.ofNat (k - 1)))) (by kernel_rfl) (by kernel_rfl) (by rw [fk (show c / 7 ≠ k - 1 by omega)])) (oblC (shown_eq (v := .int .i64 (wrapF .i64 (Int.sub (.ofNat k) (.ofNat 1)))) (by kernel_rfl) (by kernel_rfl) (by rw [wrap_pred hk (by omega)]; rfl)) (oblC (shown_eq (v := .bool (eqF (.ofNat (c % 7)) (.ofNat (k - 1)))) (by kernel_rfl) (by kernel_rfl) (by rw [eqF_true (by rw [show c % 7 = k - 1 by omega])])) oblN)))))) ?_
              exact Runs.less (af1 := sth (EB n i true) 252 (OI c0 ty0 k s l n f c [])) (less_seenP (clo_all (k := 6) (by kernel_rfl)) (oi_0 O) (Nat.zero_le 6) (by kernel_rfl) (by kernel_rfl) (by kernel_rfl) (by kernel_rfl)) h
            · rw [nb h4, show (false || false || false || false) = false from rfl] at h
              refine Runs.sqR mixed hkU [viaV 2 (.bool false), viaV 6 (.bool false), viaV 13 (i64 (k - 1)), viaV 14 (.bool false), viaV 21 (i64 (k - 1)), viaV 22 (.bool false)] (by kernel_rfl) (by kernel_rfl) (by kernel_rfl) (oblC (shown_eq (v := .bool (eqF (.ofNat (c / 7)) (.ofNat 0))) (by kernel_rfl) (by kernel_rfl) (by rw [fz h1])) (oblC (shown_eq (v := .bool (eqF (.ofNat (c % 7)) (.ofNat 0))) (by kernel_rfl) (by kernel_rfl) (by rw [fz h2])) (oblC (shown_eq (v := .int .i64 (wrapF .i64 (Int.sub (.ofNat k) (.ofNat 1)))) (by kernel_rfl) (by kernel_rfl) (by rw [wrap_pred hk (by omega)]; rfl)) (oblC (shown_eq (v := .bool (eqF (.ofNat (c / 7)) (.ofNat (k - 1)))) (by kernel_rfl) (by kernel_rfl) (by rw [fk (show c / 7 ≠ k - 1 by omega)])) (oblC (shown_eq (v := .int .i64 (wrapF .i64 (Int.sub (.ofNat k) (.ofNat 1)))) (by kernel_rfl) (by kernel_rfl) (by rw [wrap_pred hk (by omega)]; rfl)) (oblC (shown_eq (v := .bool (eqF (.ofNat (c % 7)) (.ofNat (k - 1)))) (by kernel_rfl) (by kernel_rfl) (by rw [fk (show c % 7 ≠ k - 1 by omega)])) oblN)))))) ?_
              exact Runs.less (af1 := sth (EB n i false) 252 (OI c0 ty0 k s l n f c [])) (less_seenP (clo_all (k := 6) (by kernel_rfl)) (oi_0 O) (Nat.zero_le 6) (by kernel_rfl) (by kernel_rfl) (by kernel_rfl) (by kernel_rfl)) h
    | cons p ps =>
      by_cases h1 : c / 7 = 0
      · rw [h1, show (Nat.beq 0 0 || Nat.beq (c % 7) 0 || Nat.beq (0 + 1) k || Nat.beq (c % 7 + 1) k) = true from rfl] at h
        refine Runs.sqR mixed hkU [viaV 2 (.bool true)] (by kernel_rfl) (by kernel_rfl) (by kernel_rfl) (oblC (shown_eq (v := .bool (eqF (.ofNat (c / 7)) (.ofNat 0))) (by kernel_rfl) (by kernel_rfl) (by rw [eqF_true (by rw [h1])])) oblN) ?_
        exact Runs.less (af1 := sth (EB n i true) 252 (OI c0 ty0 k s l n f c (p :: ps))) (less_seenP (clo_all (k := 7) (by kernel_rfl)) (oi_1 O) (Nat.zero_le 7) (by kernel_rfl) (by kernel_rfl) (by kernel_rfl) (by kernel_rfl)) h
      · rw [nb h1] at h
        by_cases h2 : c % 7 = 0
        · rw [h2, show (false || Nat.beq 0 0 || Nat.beq (c / 7 + 1) k || Nat.beq (0 + 1) k) = true from rfl] at h
          refine Runs.sqR mixed hkU [viaV 2 (.bool false), viaV 6 (.bool true)] (by kernel_rfl) (by kernel_rfl) (by kernel_rfl) (oblC (shown_eq (v := .bool (eqF (.ofNat (c / 7)) (.ofNat 0))) (by kernel_rfl) (by kernel_rfl) (by rw [fz h1])) (oblC (shown_eq (v := .bool (eqF (.ofNat (c % 7)) (.ofNat 0))) (by kernel_rfl) (by kernel_rfl) (by rw [eqF_true (by rw [h2])])) oblN)) ?_
          exact Runs.less (af1 := sth (EB n i true) 252 (OI c0 ty0 k s l n f c (p :: ps))) (less_seenP (clo_all (k := 7) (by kernel_rfl)) (oi_1 O) (Nat.zero_le 7) (by kernel_rfl) (by kernel_rfl) (by kernel_rfl) (by kernel_rfl)) h
        · rw [nb h2] at h
          by_cases h3 : c / 7 + 1 = k
          · rw [nbeq.2 h3, show (false || false || true || Nat.beq (c % 7 + 1) k) = true from rfl] at h
            refine Runs.sqR mixed hkU [viaV 2 (.bool false), viaV 6 (.bool false), viaV 13 (i64 (k - 1)), viaV 14 (.bool true)] (by kernel_rfl) (by kernel_rfl) (by kernel_rfl) (oblC (shown_eq (v := .bool (eqF (.ofNat (c / 7)) (.ofNat 0))) (by kernel_rfl) (by kernel_rfl) (by rw [fz h1])) (oblC (shown_eq (v := .bool (eqF (.ofNat (c % 7)) (.ofNat 0))) (by kernel_rfl) (by kernel_rfl) (by rw [fz h2])) (oblC (shown_eq (v := .int .i64 (wrapF .i64 (Int.sub (.ofNat k) (.ofNat 1)))) (by kernel_rfl) (by kernel_rfl) (by rw [wrap_pred hk (by omega)]; rfl)) (oblC (shown_eq (v := .bool (eqF (.ofNat (c / 7)) (.ofNat (k - 1)))) (by kernel_rfl) (by kernel_rfl) (by rw [eqF_true (by rw [show c / 7 = k - 1 by omega])])) oblN)))) ?_
            exact Runs.less (af1 := sth (EB n i true) 252 (OI c0 ty0 k s l n f c (p :: ps))) (less_seenP (clo_all (k := 7) (by kernel_rfl)) (oi_1 O) (Nat.zero_le 7) (by kernel_rfl) (by kernel_rfl) (by kernel_rfl) (by kernel_rfl)) h
          · rw [nb h3] at h
            by_cases h4 : c % 7 + 1 = k
            · rw [nbeq.2 h4, show (false || false || false || true) = true from rfl] at h
              refine Runs.sqR mixed hkU [viaV 2 (.bool false), viaV 6 (.bool false), viaV 13 (i64 (k - 1)), viaV 14 (.bool false), viaV 21 (i64 (k - 1)), viaV 22 (.bool true)] (by kernel_rfl) (by kernel_rfl) (by kernel_rfl) (oblC (shown_eq (v := .bool (eqF (.ofNat (c / 7)) (.ofNat 0))) (by kernel_rfl) (by kernel_rfl) (by rw [fz h1])) (oblC (shown_eq (v := .bool (eqF (.ofNat (c % 7)) (.ofNat 0))) (by kernel_rfl) (by kernel_rfl) (by rw [fz h2])) (oblC (shown_eq (v := .int .i64 (wrapF .i64 (Int.sub (.ofNat k) (.ofNat 1)))) (by kernel_rfl) (by kernel_rfl) (by rw [wrap_pred hk (by omega)]; rfl)) (oblC (shown_eq (v := .bool (eqF (.ofNat (c / 7)) (.ofNat (k - 1)))) (by kernel_rfl) (by kernel_rfl) (by rw [fk (show c / 7 ≠ k - 1 by omega)])) (oblC (shown_eq (v := .int .i64 (wrapF .i64 (Int.sub (.ofNat k) (.ofNat 1)))) (by kernel_rfl) (by kernel_rfl) (by rw [wrap_pred hk (by omega)]; rfl)) (oblC (shown_eq (v := .bool (eqF (.ofNat (c % 7)) (.ofNat (k - 1)))) (by kernel_rfl) (by kernel_rfl) (by rw [eqF_true (by rw [show c % 7 = k - 1 by omega])])) oblN)))))) ?_
              exact Runs.less (af1 := sth (EB n i true) 252 (OI c0 ty0 k s l n f c (p :: ps))) (less_seenP (clo_all (k := 7) (by kernel_rfl)) (oi_1 O) (Nat.zero_le 7) (by kernel_rfl) (by kernel_rfl) (by kernel_rfl) (by kernel_rfl)) h
            · rw [nb h4, show (false || false || false || false) = false from rfl] at h
              refine Runs.sqR mixed hkU [viaV 2 (.bool false), viaV 6 (.bool false), viaV 13 (i64 (k - 1)), viaV 14 (.bool false), viaV 21 (i64 (k - 1)), viaV 22 (.bool false)] (by kernel_rfl) (by kernel_rfl) (by kernel_rfl) (oblC (shown_eq (v := .bool (eqF (.ofNat (c / 7)) (.ofNat 0))) (by kernel_rfl) (by kernel_rfl) (by rw [fz h1])) (oblC (shown_eq (v := .bool (eqF (.ofNat (c % 7)) (.ofNat 0))) (by kernel_rfl) (by kernel_rfl) (by rw [fz h2])) (oblC (shown_eq (v := .int .i64 (wrapF .i64 (Int.sub (.ofNat k) (.ofNat 1)))) (by kernel_rfl) (by kernel_rfl) (by rw [wrap_pred hk (by omega)]; rfl)) (oblC (shown_eq (v := .bool (eqF (.ofNat (c / 7)) (.ofNat (k - 1)))) (by kernel_rfl) (by kernel_rfl) (by rw [fk (show c / 7 ≠ k - 1 by omega)])) (oblC (shown_eq (v := .int .i64 (wrapF .i64 (Int.sub (.ofNat k) (.ofNat 1)))) (by kernel_rfl) (by kernel_rfl) (by rw [wrap_pred hk (by omega)]; rfl)) (oblC (shown_eq (v := .bool (eqF (.ofNat (c % 7)) (.ofNat (k - 1)))) (by kernel_rfl) (by kernel_rfl) (by rw [fk (show c % 7 ≠ k - 1 by omega)])) oblN)))))) ?_
              exact Runs.less (af1 := sth (EB n i false) 252 (OI c0 ty0 k s l n f c (p :: ps))) (less_seenP (clo_all (k := 7) (by kernel_rfl)) (oi_1 O) (Nat.zero_le 7) (by kernel_rfl) (by kernel_rfl) (by kernel_rfl) (by kernel_rfl)) h

theorem wet_step (O : Outer c0 s l) (hi : i < n) {p : Nat × Nat} {ps : List (Nat × Nat)} : Runs Tryz.prog 0 (tl (thn (tl ebC))) (sth (EI n i) 252 (OI c0 ty0 k s l n f c (p :: ps))) fun e af => e = .normal ∧ Less 0 (sth (EI n i) 252 (OI c0 ty0 k s l n (updB f i true) c (p :: ps))) af := by
  have hst : ∀ h : AH, h.get 4 = rowW n f → (storeA Tryz.prog 4 4 (0 + i * 1) (.bool true) h).map (undef, ·) = some (undef, h.put 4 (rowW n (updB f i true))) := fun h e => by rw [store_W e hi]; rfl
  refine Runs.rg mixed hkU [viaV 2 (.pointer (some ⟨4, 0 + i * 1, none⟩)), ⟨3, undef, some ((hp (OI c0 ty0 k s l n f c (p :: ps))).put 4 (rowW n (updB f i true))), none⟩] (by kernel_rfl) (by kernel_rfl) (by kernel_rfl)
    (oblC (shown_idx (n := n) (by kernel_rfl) hi) (oblC ⟨by kernel_rfl, (show _ = (storeA Tryz.prog 4 4 (0 + i * 1) (.bool true) (hp (OI c0 ty0 k s l n f c (p :: ps)))).map (undef, ·) by kernel_rfl).trans (hst _ (by kernel_rfl))⟩ oblN)) ?_
  exact ⟨rfl, less_seenP (clo_all (k := 7) (by kernel_rfl)) (oi_1 O) (Nat.zero_le 7) (by kernel_rfl) (by kernel_rfl) (by kernel_rfl) (by kernel_rfl)⟩
theorem edge3 (O : Outer c0 s l) (hk : 1 ≤ k) (hk7 : k < 8) (hi : i < n) {ps : List (Nat × Nat)} (hps : ps.length < 1000) :
    Runs Tryz.prog 0 ebC (sth (EI n i) 252 (OI c0 ty0 k s l n f c ps)) fun e af => e = .normal ∧ Less 0 (sth (EI n i) 252 (OI c0 ty0 k s l n (if bdC k c then updB f i true else f) c (if bdC k c then ps ++ [(i, n)] else ps))) af := by
  refine edge_head O hk hk7 ?_
  cases bdC k c with
  | false =>
    cases ps with
    | nil =>
      refine Runs.cd (b := false) (by kernel_rfl) (fun h => by cases h) (fun _ => Runs.now (x := .normal) (by kernel_rfl) ⟨rfl, ?_⟩)
      exact less_seenP (clo_all (k := 6) (by kernel_rfl)) (oi_0 O) (Nat.zero_le 6) (by kernel_rfl) (by kernel_rfl) (by kernel_rfl) (by kernel_rfl)
    | cons p ps =>
      refine Runs.cd (b := false) (by kernel_rfl) (fun h => by cases h) (fun _ => Runs.now (x := .normal) (by kernel_rfl) ⟨rfl, ?_⟩)
      exact less_seenP (clo_all (k := 7) (by kernel_rfl)) (oi_1 O) (Nat.zero_le 7) (by kernel_rfl) (by kernel_rfl) (by kernel_rfl) (by kernel_rfl)
  | true =>
    rw [if_pos rfl, if_pos rfl]
    cases ps with
    | nil =>
      refine Runs.cd (b := true) (by kernel_rfl) (fun _ => ?_) (fun h => by cases h)
      refine Runs.sqR mixed hkU [] (by kernel_rfl) (by kernel_rfl) (by kernel_rfl) oblN ?_
      exact Runs.renumK (sz := 252) (l := EI n i) (os := OI c0 ty0 k s l n f c [(i, n)]) (fun j => match j with | 6 => 7 | j => j) (fun j => match j with | 7 => 6 | j => j) (by kernel_rfl) (Nat.zero_le 7) (by kernel_rfl) fix0 (by kernel_rfl) (by kernel_rfl) (by kernel_rfl) (by kernel_rfl)
        (obsL [ob0 c0 ty0, hillK k s, rowP l, drO n (slG 7 1), rowW n f, plcO c, .cells [i64 i, i64 n, i64 1] true [] (some 36)] (by kernel_rfl)
          ⟨obs_ob0 O.p0, obs_hk (σ := fun j => match j with | 7 => 6 | j => j) O.gs rfl rfl rfl, obs_rowP rfl rfl, RenO.of (σ := fun j => match j with | 7 => 6 | j => j) rfl rfl, obs_rowW, obs_plc (σ := fun j => j), obs_pi rfl (pipesC_app [] (i, n)), trivial⟩) (wet_step O hi)
    | cons p ps =>
      have hw := wet_step (c0 := c0) (ty0 := ty0) (k := k) (s := s) (l := l) (f := f) (c := c) O hi (p := p) (ps := ps ++ [(i, n)])
      have hO : OI c0 ty0 k s l n f c (p :: (ps ++ [(i, n)])) = [ob0 c0 ty0, hillK k s, rowP l, drO n (slG 6 ((p :: ps).length + 1)), rowW n f, plcO c, rowPi (p :: (ps ++ [(i, n)]))] := by
        show [ob0 c0 ty0, hillK k s, rowP l, drO n (slG 6 (p :: (ps ++ [(i, n)])).length), rowW n f, plcO c, rowPi (p :: (ps ++ [(i, n)]))] = _
        rw [show (p :: (ps ++ [(i, n)])).length = (p :: ps).length + 1 by simp]
      rw [hO] at hw
      let H0 : AH := hp (OI c0 ty0 k s l n f c (p :: ps))
      let H2 : AH := (H0.new (.cells [i64 i, i64 n, i64 1] true [] (some 36))).2
      have hap := push_gen (st := 30) (e := 36) (z := 2) (by kernel_rfl) pipe_info (h := H2) (i := 6) (j := 7) (x := [i64 i, i64 n, i64 1]) (c := pipesC (p :: ps)) (m := (p :: ps).length) (par := []) rfl rfl (pipesC_len _) (by omega) (by kernel_rfl) (by kernel_rfl)
      refine Runs.cd (b := true) (by kernel_rfl) (fun _ => ?_) (fun h => by cases h)
      refine Runs.sqR mixed hkU [⟨6, slG 8 ((p :: ps).length + 1), some ((H2.put 6 (.cells (pipesC (p :: ps)) false [] (some 36))).new (.cells (pipesC (p :: ps) ++ [i64 i, i64 n, i64 1]) true [6] (some 36))).2, none⟩] (by kernel_rfl) (by kernel_rfl) (by kernel_rfl)
        (oblC ⟨by kernel_rfl, (show _ = appendA Tryz.prog #[30, 30] (.slice (some ⟨6, 0, some 3⟩) (p :: ps).length (p :: ps).length) (.slice (some ⟨7, 0, none⟩) 1 1) H2 by kernel_rfl).trans hap⟩ oblN) ?_
      exact Runs.renumK (sz := 252) (l := EI n i) (os := [ob0 c0 ty0, hillK k s, rowP l, drO n (slG 6 ((p :: ps).length + 1)), rowW n f, plcO c, rowPi (p :: (ps ++ [(i, n)]))]) (fun j => match j with | 6 => 8 | j => j) (fun j => match j with | 8 => 6 | j => j) (by kernel_rfl) (Nat.zero_le 7) (by kernel_rfl) fix0 (by kernel_rfl) (by kernel_rfl) (by kernel_rfl) (by kernel_rfl)
        (obsL [ob0 c0 ty0, hillK k s, rowP l, drO n (slG 8 ((p :: ps).length + 1)), rowW n f, plcO c, .cells (pipesC (p :: ps) ++ [i64 i, i64 n, i64 1]) true [6] (some 36)] (by kernel_rfl)
          ⟨obs_ob0 O.p0, obs_hk (σ := fun j => match j with | 8 => 6 | j => j) O.gs rfl rfl rfl, obs_rowP rfl rfl, RenO.of (σ := fun j => match j with | 8 => 6 | j => j) rfl rfl, obs_rowW, obs_plc (σ := fun j => j), obs_pi rfl (pipesC_app (p :: ps) (i, n)), trivial⟩) hw
end
end
end Go.Proofs.YtbcjmmbmeebfgaaGreatDoor
