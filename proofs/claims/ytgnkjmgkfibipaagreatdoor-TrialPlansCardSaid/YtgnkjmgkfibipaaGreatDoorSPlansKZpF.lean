/- TrialPlans: the reference's run. -/
import Derived.Test.YtgnkjmgkfibipaaGreatDoorSPlansKZ5
import Derived.Test.YtgnkjmgkfibipaaGreatDoorSPlansRG10
namespace Go.Proofs.YtgnkjmgkfibipaaGreatDoor
set_option linter.unusedVariables false
set_option linter.unusedSimpArgs false
open Go Go.R
set_option maxRecDepth 1000000
noncomputable section

theorem app_lit {h : AH} {a q m : Nat} {v : Value} {c : List Value} {l1 l2 : Bool} {p1 p2 : List Nat} {t1 t2 : Option TypeId} (ha : h.get a = .cells [v] l1 p1 t1) (hq : h.get q = .cells c l2 p2 t2) (hm : c.length = m) (h0 : m ≠ 0) (hlen : m < 1000000) (hc : c.all cellV = true) :
    appendA Tryz.prog #[22, 22] (.slice (some ⟨a, 0, none⟩) 1 1) (bldV q m) h = some (bldV h.next (1 + m), (h.new (.cells (v :: c) true [] (some 3))).2) := by
  have e1 : Tryz.prog.underlying 22 = some (.slice 3) := by kernel_rfl
  obtain ⟨info, e2, e3, e4⟩ := int_info
  rw [Bool.or_eq_false_iff] at e4
  have e5 : srcA 1 (bldV q m) h = some (c, m) := by
    unfold bldV srcA
    simp only [h0, if_false]
    unfold rowAt?
    rw [hq]
    simp only [Nat.zero_add, Nat.mul_one, List.drop_zero]
    rw [if_pos (by omega), List.take_of_length_le (by omega)]
    rfl
  have e6 : decide (m > 1000000) = false := by simp; omega
  have e7 : rowAt? h a 0 (1 * 1) = some [v] := by
    unfold rowAt?
    rw [ha]
    rfl
  have e8 : ¬ (1 + m ≤ 1) := by omega
  unfold appendA
  simp only [List.getElem?_toArray, List.getElem?_cons_zero, List.getElem?_cons_succ, e1, e2, srcKind, Bool.not_true, Bool.false_eq_true, if_false, e3, e5]
  simp only [hc, e4.1, e4.2, e6, Bool.not_true, Bool.or_false, Bool.false_or, Bool.or_self, decide_false, show (1 = 0) = False by simp, show (1 : Nat) > 1000000 ↔ False by simp, if_false, decide_true, Bool.false_eq_true, show (1 : Nat) < 1 ↔ False by simp, h0, e8, e7]
  rfl

theorem litZ_cell (T : List Int) : (litZ T).all cellV = true := List.all_eq_true.2 fun v hv => by
  obtain ⟨x, _, rfl⟩ := List.mem_map.1 hv
  rfl
theorem goL_ne {d : Nat} {B : List Int} {h : Int} (hB : B ≠ []) (hd : B.length ≤ d) : goL d B h ≠ [] := by
  cases B with
  | nil => exact absurd rfl hB
  | cons b B =>
    cases d with
    | zero => cases hd
    | succ d =>
      rw [goL]
      split <;> exact fun e => by cases e
theorem goL_len : ∀ (d : Nat) (B : List Int) (h : Int), (goL d B h).length ≤ B.length
  | 0, _, _ => Nat.zero_le _
  | d + 1, [], _ => Nat.le_refl _
  | d + 1, x :: r, h => by
    have h1 := goL_len d (lowL x (x :: r)) h
    have h2 := goL_len d (highL x (x :: r)) h
    rw [lowL_cons] at h1
    rw [highL_cons] at h2
    have := lowL_len x r
    have := highL_len x r
    rw [goL, lowL_cons, highL_cons]
    split <;> (rw [List.length_cons, List.length_cons]; omega)

noncomputable def q43 : Code := bodyOf Tryz.f43
noncomputable def R43 (n cap : Nat) (h : Int) (B A : List Int) : List (Nat × Value) := [(0, slV n cap), (1, .int .i64 h), (5, slZ 1 B), (6, slZ 2 A)]
theorem run_nil_local (x : Int) : Local Tryz.prog 0 43 [.slice none 0 0, .int .i64 x] AH.empty fun v' _ => v' = .slice none 0 0 := by
  refine local_of noNum Tryz.func43 (show Tryz.f43.body = some q43 by kernel_rfl) ?_
  exact Runs.lastEq (R := fun v' _ => v' = .slice none 0 0) mixed hk38 (n := 100) (x := .ret) (vs := [.slice none 0 0]) (Nat.zero_le _) (.inr rfl) (by kernel_rfl) (fun _ => rfl)
theorem run_nil (x : Int) (h : AH) : Says Tryz.prog h 43 [.slice none 0 0, .int .i64 x] (.slice none 0 0) h := fun F w0 μ w args' H hl =>
  (run_nil_local x).closed (fun v hv => by
    rcases List.mem_cons.1 hv with rfl | hv
    · rfl
    · rw [List.mem_singleton.1 hv]; rfl) rfl h H hl
def RunAll (d : Nat) : Prop := ∀ (n cap : Nat) (f : Nat → Int) (h : Int), 1 ≤ n → n ≤ d → n < 100000 → Local Tryz.prog 1 43 [slV n cap, .int .i64 h] (hp [viewZ n f]) (IsRow (goL d (lstF f n) h).length (litZ (goL d (lstF f n) h)) (some 3) none)
theorem run_told {d q : Nat} {T : List Int} {h : AH} {x : Int} (IH : RunAll d) (hne : T ≠ []) (hT : T.length ≤ d) (hb : T.length < 100000) (hg : h.get q = obZ T) :
    Says Tryz.prog h 43 [slZ q T, .int .i64 x] (bldV h.next (goL d T x).length) (h.new (rowT (goL d T x))).2 := by
  cases hc : T with
  | nil => exact absurd hc hne
  | cons y l =>
    rw [← hc]
    refine at_slZ_new (post := [.int .i64 x]) (n1 := (goL d T x).length) (e1 := none) hc (fun cap _ => ?_) (litZ_len _) (litZ_plain _) (fun v hv => by cases hv) (onlyP rfl) hg
    have := IH T.length cap (fun i => T.getD i 0) x (by rw [hc]; exact Nat.succ_pos _) hT hb
    rw [lstF_getD] at this
    exact this
section
variable {n cap : Nat} {f : Nat → Int} {x : Int} {B A : List Int}
/-- It ends by a return. -/
def EndsRet (P : Program) (fn : Func) (R : Value → AH → Prop) (x : AExit) (af' : AF) : Prop := x = .ret ∧ ∃ vs, resultsA P af'.tm af'.h fn.results.toList = some vs ∧ R (pack vs) af'.h
theorem go_low {d : Nat} (IH : RunAll d) (hn : 1 ≤ n) (hX : B.length ≤ d) (hb : B.length < 100000) :
    Runs Tryz.prog 1 (thenOf (tl (hd (behind 3 q43)))) (sth (R43 n cap x B A) 39 (os3 n f B A)) (EndsRet Tryz.prog Tryz.f43 (IsRow (f 0 :: goL d B x).length (litZ (f 0 :: goL d B x)) (some 3) none)) := by
  cases B with
  | nil =>
    have e : goL d [] x = [] := by cases d <;> rfl
    rw [e]
    refine Runs.sq (by kernel_rfl) (Runs.tw3 mixed 3 6 [0, 4, 5, 6, 1, 2, 3] (by kernel_rfl) (by kernel_rfl) ?_ ?_)
    · refine RunsAny.rg hk38 [viaV 1 (.pointer (some ⟨0, 0 + 0 * 1, none⟩)), viaV 2 (.int .i64 (f 0)), viaC 6 43 [.slice none 0 0, .int .i64 x] (.slice none 0 0)] [] (by kernel_rfl) (by kernel_rfl) (by kernel_rfl) (by kernel_rfl)
        (oblC (shown_idx (n := n) (i := 0) (by kernel_rfl) hn) (oblC (shown_cell (by kernel_rfl) (intZ_at (g := 0) (n := n) (i := 0) (f := f) (lv := false) (par := []) (ty := none) (by kernel_rfl) hn))
        (oblC (shown_callE (h0 := ((hp (os3 n f [] A)).new (rowT [f 0])).2) (by kernel_rfl) (by kernel_rfl) (run_nil x _)) oblN))) dynN ?_
      show Runs Tryz.prog 1 _ _ _
      exact Runs.now (x := .ret) (by kernel_rfl) ⟨rfl, [.slice (some ⟨3, 0, none⟩) 1 1], by kernel_rfl, 3, [], .inr rfl, by kernel_rfl⟩
    · refine RunsAny.rg hk38 [viaC 3 43 [.slice none 0 0, .int .i64 x] (.slice none 0 0), viaV 4 (.pointer (some ⟨0, 0 + 0 * 1, none⟩)), viaV 5 (.int .i64 (f 0))] [(5, 3)] (by kernel_rfl) (by kernel_rfl) (by kernel_rfl) (by kernel_rfl)
        (oblC (shown_callE (h0 := hp (os3 n f [] A)) (by kernel_rfl) (by kernel_rfl) (run_nil x _)) (oblC (shown_idx (n := n) (i := 0) (by kernel_rfl) hn) (oblC (shown_cell (by kernel_rfl) (intZ_at (g := 0) (n := n) (i := 0) (f := f) (lv := false) (par := []) (ty := none) (by kernel_rfl) hn)) oblN)))
        (dynC (dyn_cell (d := 25) (by kernel_rfl) (intZ_at (g := 0) (n := n) (i := 0) (f := f) (lv := false) (par := []) (ty := none) (by kernel_rfl) hn) (by kernel_rfl) (by kernel_rfl)) dynN) ?_
      show Runs Tryz.prog 1 _ _ _
      exact Runs.now (x := .ret) (by kernel_rfl) ⟨rfl, [.slice (some ⟨3, 0, none⟩) 1 1], by kernel_rfl, 3, [], .inr rfl, by kernel_rfl⟩
  | cons b l =>
    have hT0 : (goL d (b :: l) x).length ≠ 0 := fun e => goL_ne (by simp) hX (List.eq_nil_of_length_eq_zero e)
    have hT1 : (goL d (b :: l) x).length < 1000000 := by have := goL_len d (b :: l) x; omega
    have c1 := fun (h : AH) (hg : h.get 1 = obZ (b :: l)) => run_told (q := 1) (h := h) (x := x) IH (by simp) hX hb hg
    generalize goL d (b :: l) x = T at *
    refine Runs.sq (by kernel_rfl) (Runs.tw3 mixed 3 6 [0, 4, 5, 6, 1, 2, 3] (by kernel_rfl) (by kernel_rfl) ?_ ?_)
    · let H1 : AH := ((hp (os3 n f (b :: l) A)).new (rowT [f 0])).2
      let H2 : AH := (H1.new (rowT T)).2
      have hap := app_lit (h := H2) (a := 3) (q := 4) (v := .int .i64 (f 0)) (c := litZ T) (l1 := true) (l2 := true) (p1 := []) (p2 := []) (t1 := some 3) (t2 := some 3) (by kernel_rfl) (by kernel_rfl) (litZ_len T) hT0 hT1 (litZ_cell T)
      refine RunsAny.rg hk38 [viaV 1 (.pointer (some ⟨0, 0 + 0 * 1, none⟩)), viaV 2 (.int .i64 (f 0)), viaH 6 43 [slZ 1 (b :: l), .int .i64 x] (bldV 4 T.length) H2, ⟨7, bldV 5 (1 + T.length), some (H2.new (.cells (Value.int .i64 (f 0) :: litZ T) true [] (some 3))).2, none⟩] [] (by kernel_rfl) (by kernel_rfl) (by kernel_rfl) (by kernel_rfl)
        (oblC (shown_idx (n := n) (i := 0) (by kernel_rfl) hn) (oblC (shown_cell (by kernel_rfl) (intZ_at (g := 0) (n := n) (i := 0) (f := f) (lv := false) (par := []) (ty := none) (by kernel_rfl) hn))
        (oblC (shown_callHE (h0 := H1) (by kernel_rfl) (by kernel_rfl) (c1 H1 (by kernel_rfl)))
        (oblC ⟨by kernel_rfl, (show _ = appendA Tryz.prog #[22, 22] (.slice (some ⟨3, 0, none⟩) 1 1) (bldV 4 T.length) H2 by kernel_rfl).trans hap⟩ oblN)))) dynN ?_
      show Runs Tryz.prog 1 _ _ _
      exact Runs.now (x := .ret) (by kernel_rfl) ⟨rfl, [bldV 5 (1 + T.length)], by kernel_rfl, 5, [], .inl (by rw [List.length_cons, Nat.add_comm]; rfl), by kernel_rfl⟩
    · let H1 : AH := ((hp (os3 n f (b :: l) A)).new (rowT T)).2
      let H2 : AH := (H1.new (rowT [f 0])).2
      have hap := app_lit (h := H2) (a := 4) (q := 3) (v := .int .i64 (f 0)) (c := litZ T) (l1 := true) (l2 := true) (p1 := []) (p2 := []) (t1 := some 3) (t2 := some 3) (by kernel_rfl) (by kernel_rfl) (litZ_len T) hT0 hT1 (litZ_cell T)
      refine RunsAny.rg hk38 [viaH 3 43 [slZ 1 (b :: l), .int .i64 x] (bldV 3 T.length) H1, viaV 4 (.pointer (some ⟨0, 0 + 0 * 1, none⟩)), viaV 5 (.int .i64 (f 0)), ⟨7, bldV 5 (1 + T.length), some (H2.new (.cells (Value.int .i64 (f 0) :: litZ T) true [] (some 3))).2, none⟩] [(5, 3)] (by kernel_rfl) (by kernel_rfl) (by kernel_rfl) (by kernel_rfl)
        (oblC (shown_callHE (h0 := hp (os3 n f (b :: l) A)) (by kernel_rfl) (by kernel_rfl) (c1 _ (by kernel_rfl)))
        (oblC (shown_idx (n := n) (i := 0) (by kernel_rfl) hn) (oblC (shown_cell (by kernel_rfl) (intZ_at (g := 0) (n := n) (i := 0) (f := f) (lv := false) (par := []) (ty := none) (by kernel_rfl) hn))
        (oblC ⟨by kernel_rfl, (show _ = appendA Tryz.prog #[22, 22] (.slice (some ⟨4, 0, none⟩) 1 1) (bldV 3 T.length) H2 by kernel_rfl).trans hap⟩ oblN))))
        (dynC (dyn_cell (d := 25) (by kernel_rfl) (intZ_at (g := 0) (n := n) (i := 0) (f := f) (lv := false) (par := []) (ty := none) (by kernel_rfl) hn) (by kernel_rfl) (by kernel_rfl)) dynN) ?_
      show Runs Tryz.prog 1 _ _ _
      exact Runs.now (x := .ret) (by kernel_rfl) ⟨rfl, [bldV 5 (1 + T.length)], by kernel_rfl, 5, [], .inl (by rw [List.length_cons, Nat.add_comm]; rfl), by kernel_rfl⟩

theorem go_high {d : Nat} (IH : RunAll d) (hn : 1 ≤ n) (hX : A.length ≤ d) (hb : A.length < 100000) :
    Runs Tryz.prog 1 (behind 4 q43) (sth (R43 n cap x B A) 39 (os3 n f B A)) (EndsAs Tryz.prog Tryz.f43 (IsRow (f 0 :: goL d A x).length (litZ (f 0 :: goL d A x)) (some 3) none)) := by
  cases A with
  | nil =>
    have e : goL d [] x = [] := by cases d <;> rfl
    rw [e]
    refine Runs.sq (by kernel_rfl) (Runs.tw3 mixed 3 6 [0, 4, 5, 6, 1, 2, 3] (by kernel_rfl) (by kernel_rfl) ?_ ?_)
    · refine RunsAny.rg hk38 [viaV 1 (.pointer (some ⟨0, 0 + 0 * 1, none⟩)), viaV 2 (.int .i64 (f 0)), viaC 6 43 [.slice none 0 0, .int .i64 x] (.slice none 0 0)] [] (by kernel_rfl) (by kernel_rfl) (by kernel_rfl) (by kernel_rfl)
        (oblC (shown_idx (n := n) (i := 0) (by kernel_rfl) hn) (oblC (shown_cell (by kernel_rfl) (intZ_at (g := 0) (n := n) (i := 0) (f := f) (lv := false) (par := []) (ty := none) (by kernel_rfl) hn))
        (oblC (shown_callE (h0 := ((hp (os3 n f B [])).new (rowT [f 0])).2) (by kernel_rfl) (by kernel_rfl) (run_nil x _)) oblN))) dynN ?_
      show Runs Tryz.prog 1 _ _ _
      exact Runs.now (x := .ret) (by kernel_rfl) ⟨.inr rfl, [.slice (some ⟨3, 0, none⟩) 1 1], by kernel_rfl, 3, [], .inr rfl, by kernel_rfl⟩
    · refine RunsAny.rg hk38 [viaC 3 43 [.slice none 0 0, .int .i64 x] (.slice none 0 0), viaV 4 (.pointer (some ⟨0, 0 + 0 * 1, none⟩)), viaV 5 (.int .i64 (f 0))] [(5, 3)] (by kernel_rfl) (by kernel_rfl) (by kernel_rfl) (by kernel_rfl)
        (oblC (shown_callE (h0 := hp (os3 n f B [])) (by kernel_rfl) (by kernel_rfl) (run_nil x _)) (oblC (shown_idx (n := n) (i := 0) (by kernel_rfl) hn) (oblC (shown_cell (by kernel_rfl) (intZ_at (g := 0) (n := n) (i := 0) (f := f) (lv := false) (par := []) (ty := none) (by kernel_rfl) hn)) oblN)))
        (dynC (dyn_cell (d := 33) (by kernel_rfl) (intZ_at (g := 0) (n := n) (i := 0) (f := f) (lv := false) (par := []) (ty := none) (by kernel_rfl) hn) (by kernel_rfl) (by kernel_rfl)) dynN) ?_
      show Runs Tryz.prog 1 _ _ _
      exact Runs.now (x := .ret) (by kernel_rfl) ⟨.inr rfl, [.slice (some ⟨3, 0, none⟩) 1 1], by kernel_rfl, 3, [], .inr rfl, by kernel_rfl⟩
  | cons b l =>
    have hT0 : (goL d (b :: l) x).length ≠ 0 := fun e => goL_ne (by simp) hX (List.eq_nil_of_length_eq_zero e)
    have hT1 : (goL d (b :: l) x).length < 1000000 := by have := goL_len d (b :: l) x; omega
    have c1 := fun (h : AH) (hg : h.get 2 = obZ (b :: l)) => run_told (q := 2) (h := h) (x := x) IH (by simp) hX hb hg
    generalize goL d (b :: l) x = T at *
    refine Runs.sq (by kernel_rfl) (Runs.tw3 mixed 3 6 [0, 4, 5, 6, 1, 2, 3] (by kernel_rfl) (by kernel_rfl) ?_ ?_)
    · let H1 : AH := ((hp (os3 n f B (b :: l))).new (rowT [f 0])).2
      let H2 : AH := (H1.new (rowT T)).2
      have hap := app_lit (h := H2) (a := 3) (q := 4) (v := .int .i64 (f 0)) (c := litZ T) (l1 := true) (l2 := true) (p1 := []) (p2 := []) (t1 := some 3) (t2 := some 3) (by kernel_rfl) (by kernel_rfl) (litZ_len T) hT0 hT1 (litZ_cell T)
      refine RunsAny.rg hk38 [viaV 1 (.pointer (some ⟨0, 0 + 0 * 1, none⟩)), viaV 2 (.int .i64 (f 0)), viaH 6 43 [slZ 2 (b :: l), .int .i64 x] (bldV 4 T.length) H2, ⟨7, bldV 5 (1 + T.length), some (H2.new (.cells (Value.int .i64 (f 0) :: litZ T) true [] (some 3))).2, none⟩] [] (by kernel_rfl) (by kernel_rfl) (by kernel_rfl) (by kernel_rfl)
        (oblC (shown_idx (n := n) (i := 0) (by kernel_rfl) hn) (oblC (shown_cell (by kernel_rfl) (intZ_at (g := 0) (n := n) (i := 0) (f := f) (lv := false) (par := []) (ty := none) (by kernel_rfl) hn))
        (oblC (shown_callHE (h0 := H1) (by kernel_rfl) (by kernel_rfl) (c1 H1 (by kernel_rfl)))
        (oblC ⟨by kernel_rfl, (show _ = appendA Tryz.prog #[22, 22] (.slice (some ⟨3, 0, none⟩) 1 1) (bldV 4 T.length) H2 by kernel_rfl).trans hap⟩ oblN)))) dynN ?_
      show Runs Tryz.prog 1 _ _ _
      exact Runs.now (x := .ret) (by kernel_rfl) ⟨.inr rfl, [bldV 5 (1 + T.length)], by kernel_rfl, 5, [], .inl (by rw [List.length_cons, Nat.add_comm]; rfl), by kernel_rfl⟩
    · let H1 : AH := ((hp (os3 n f B (b :: l))).new (rowT T)).2
      let H2 : AH := (H1.new (rowT [f 0])).2
      have hap := app_lit (h := H2) (a := 4) (q := 3) (v := .int .i64 (f 0)) (c := litZ T) (l1 := true) (l2 := true) (p1 := []) (p2 := []) (t1 := some 3) (t2 := some 3) (by kernel_rfl) (by kernel_rfl) (litZ_len T) hT0 hT1 (litZ_cell T)
      refine RunsAny.rg hk38 [viaH 3 43 [slZ 2 (b :: l), .int .i64 x] (bldV 3 T.length) H1, viaV 4 (.pointer (some ⟨0, 0 + 0 * 1, none⟩)), viaV 5 (.int .i64 (f 0)), ⟨7, bldV 5 (1 + T.length), some (H2.new (.cells (Value.int .i64 (f 0) :: litZ T) true [] (some 3))).2, none⟩] [(5, 3)] (by kernel_rfl) (by kernel_rfl) (by kernel_rfl) (by kernel_rfl)
        (oblC (shown_callHE (h0 := hp (os3 n f B (b :: l))) (by kernel_rfl) (by kernel_rfl) (c1 _ (by kernel_rfl)))
        (oblC (shown_idx (n := n) (i := 0) (by kernel_rfl) hn) (oblC (shown_cell (by kernel_rfl) (intZ_at (g := 0) (n := n) (i := 0) (f := f) (lv := false) (par := []) (ty := none) (by kernel_rfl) hn))
        (oblC ⟨by kernel_rfl, (show _ = appendA Tryz.prog #[22, 22] (.slice (some ⟨4, 0, none⟩) 1 1) (bldV 3 T.length) H2 by kernel_rfl).trans hap⟩ oblN))))
        (dynC (dyn_cell (d := 33) (by kernel_rfl) (intZ_at (g := 0) (n := n) (i := 0) (f := f) (lv := false) (par := []) (ty := none) (by kernel_rfl) hn) (by kernel_rfl) (by kernel_rfl)) dynN) ?_
      show Runs Tryz.prog 1 _ _ _
      exact Runs.now (x := .ret) (by kernel_rfl) ⟨.inr rfl, [bldV 5 (1 + T.length)], by kernel_rfl, 5, [], .inl (by rw [List.length_cons, Nat.add_comm]; rfl), by kernel_rfl⟩

theorem R43_clo {h : Int} : ∀ p ∈ R43 n cap h B A, Clo 3 p.2 := fun p hp => by
  simp only [R43, List.mem_cons, List.mem_nil_iff, or_false] at hp
  rcases hp with rfl | rfl | rfl | rfl
  · exact clo_of 10 3 _ (by kernel_rfl)
  · exact clo_plain rfl
  · exact slZ_clo (by decide) B
  · exact slZ_clo (by decide) A
end
theorem run_all : ∀ d, RunAll d
  | 0, n, cap, f, h, h1, h2, _ => by omega
  | d + 1, 0, cap, f, h, h1, h2, _ => by omega
  | d + 1, m + 1, cap, f, x, h1, h2, hb => by
    have IH := run_all d
    have hB : (lowL (f 0) (lstF f (m + 1))).length ≤ m := low_le 0 f m
    have hA : (highL (f 0) (lstF f (m + 1))).length ≤ m := high_le 0 f m
    have eG : goL (d + 1) (lstF f (m + 1)) x = if ltF x (f 0) then f 0 :: goL d (lowL (f 0) (lstF f (m + 1))) x else f 0 :: goL d (highL (f 0) (lstF f (m + 1))) x := by
      conv => lhs; rw [lstF_zero]
      rw [goL, ← lstF_zero]
    have hp := parted_says (n := m + 1) (cap := cap) (f := f) (x := f 0) hb
    rw [eG]
    generalize lowL (f 0) (lstF f (m + 1)) = B at *
    generalize highL (f 0) (lstF f (m + 1)) = A at *
    refine local_of noNum Tryz.func43 (show Tryz.f43.body = some q43 by kernel_rfl) ?_
    refine Runs.sqR mixed hk38 [] (by kernel_rfl) (by kernel_rfl) (by kernel_rfl) oblN ?_
    refine Runs.sq (by kernel_rfl) (Runs.sqR mixed hk38 [] (by kernel_rfl) (by kernel_rfl) (by kernel_rfl) oblN ?_)
    refine Runs.cd (b := false) (by kernel_rfl) (fun h => by cases h) (fun _ => Runs.now (x := .normal) (by kernel_rfl) ?_)
    show Runs Tryz.prog 1 _ _ _
    refine Runs.sqR mixed hk38 [viaV 2 (.pointer (some ⟨0, 0 + 0 * 1, none⟩)), viaV 3 (.int .i64 (f 0)), viaH 4 69 [slV (m + 1) cap, .int .i64 (f 0)] (.tuple #[slZ 1 B, slZ 2 A]) (Go.R.hp (os3 (m + 1) f B A))] (by kernel_rfl) (by kernel_rfl) (by kernel_rfl)
      (oblC (shown_idx (n := m + 1) (i := 0) (by kernel_rfl) (Nat.succ_pos m)) (oblC (shown_cell (by kernel_rfl) (intZ_at (g := 0) (n := m + 1) (i := 0) (f := f) (lv := false) (par := []) (ty := none) (by kernel_rfl) (Nat.succ_pos m)))
      (oblC (shown_callHE (h0 := Go.R.hp [viewZ (m + 1) f]) (by kernel_rfl) (by kernel_rfl) hp) oblN))) ?_
    cases hc : ltF x (f 0) with
    | true =>
      rw [if_pos rfl]
      refine Runs.sq (by kernel_rfl) (Runs.sqR mixed hk38 [viaV 1 (.pointer (some ⟨0, 0 + 0 * 1, none⟩)), viaV 2 (.int .i64 (f 0)), viaV 4 (.bool true)] (by kernel_rfl) (by kernel_rfl) (by kernel_rfl)
        (oblC (shown_idx (n := m + 1) (i := 0) (by kernel_rfl) (Nat.succ_pos m)) (oblC (shown_cell (by kernel_rfl) (intZ_at (g := 0) (n := m + 1) (i := 0) (f := f) (lv := false) (par := []) (ty := none) (by kernel_rfl) (Nat.succ_pos m)))
        (oblC (shown_eq (v := .bool (ltF x (f 0))) (by kernel_rfl) (by kernel_rfl) (by rw [hc])) oblN))) ?_)
      refine Runs.cd (b := true) (by kernel_rfl) (fun _ => ?_) (fun h => by cases h)
      refine Runs.less (af1 := sth (R43 (m + 1) cap x B A) 39 (os3 (m + 1) f B A)) (less_seenP R43_clo os3_clo (show 1 ≤ 3 by decide) (by kernel_rfl) (by kernel_rfl) (by kernel_rfl) (by kernel_rfl)) ?_
      refine (go_low IH (Nat.succ_pos m) (by omega) (by omega)).mono fun e af hx => ?_
      obtain ⟨rfl, hx⟩ := hx
      exact ⟨.inr rfl, hx⟩
    | false =>
      rw [if_neg (by simp)]
      refine Runs.sq (by kernel_rfl) (Runs.sqR mixed hk38 [viaV 1 (.pointer (some ⟨0, 0 + 0 * 1, none⟩)), viaV 2 (.int .i64 (f 0)), viaV 4 (.bool false)] (by kernel_rfl) (by kernel_rfl) (by kernel_rfl)
        (oblC (shown_idx (n := m + 1) (i := 0) (by kernel_rfl) (Nat.succ_pos m)) (oblC (shown_cell (by kernel_rfl) (intZ_at (g := 0) (n := m + 1) (i := 0) (f := f) (lv := false) (par := []) (ty := none) (by kernel_rfl) (Nat.succ_pos m)))
        (oblC (shown_eq (v := .bool (ltF x (f 0))) (by kernel_rfl) (by kernel_rfl) (by rw [hc])) oblN))) ?_)
      refine Runs.cd (b := false) (by kernel_rfl) (fun h => by cases h) (fun _ => Runs.now (x := .normal) (by kernel_rfl) ?_)
      show Runs Tryz.prog 1 (behind 4 q43) _ _
      refine Runs.less (af1 := sth (R43 (m + 1) cap x B A) 39 (os3 (m + 1) f B A)) (less_seenP R43_clo os3_clo (show 1 ≤ 3 by decide) (by kernel_rfl) (by kernel_rfl) (by kernel_rfl) (by kernel_rfl)) ?_
      exact go_high IH (Nat.succ_pos m) (by omega) (by omega)
end
end Go.Proofs.YtgnkjmgkfibipaaGreatDoor
