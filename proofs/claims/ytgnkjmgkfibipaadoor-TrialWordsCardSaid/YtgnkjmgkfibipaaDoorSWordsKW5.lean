/- Words: the reference's Plan as a contract. -/
import Derived.Test.YtgnkjmgkfibipaaDoorSWordsKW4
namespace Go.Proofs.YtgnkjmgkfibipaaDoor
set_option linter.unusedVariables false
set_option linter.unusedSimpArgs false
open Go Go.R
set_option maxRecDepth 1000000
noncomputable section
section
variable {n cap : Nat} {g : Nat → ByteArray}
/-- A list in a row of its own, or none; and an error's number. -/
def NewLE (l : List Nat) (e : Nat) (v' : Value) (h' : AH) : Prop := (l = [] ∧ v' = .tuple #[.slice none 0 0, i64 e]) ∨ (l ≠ [] ∧ ∃ i par, (v' = rowV i (litI l).length (some (i64 e)) ∨ v' = rowK i (litI l).length (some (i64 e))) ∧ h'.get i = .cells (litI l) true par (some 3))
/-- The plan that words are of. -/
def planG (n : Nat) (g : Nat → ByteArray) : List Nat := if readN n g = 0 then planW g n 0 (n - 1) 0 else []
noncomputable def c20 : Code := bodyOf Tryd.f20
theorem plan_all (W : WordsOk n g) : PlanL n g ⟨#[]⟩ 0 (planW g n 0 (n - 1) 0) := plan_local W n ⟨#[]⟩ 0 (n - 1) (inR_all W) (by have := W.lo; omega)
theorem refPlan_local (hc : n ≤ cap) : Local Tryd.prog 1 20 [slV n cap] (hp [viewS n g]) (NewLE (planG n g) (readN n g)) := by
  refine local_of noNum Tryd.func20 (show Tryd.f20.body = some c20 by kernel_rfl) ?_
  refine Runs.sqR mixed hk38 [] (by kernel_rfl) (by kernel_rfl) (by kernel_rfl) oblN ?_
  have hS := checked_at (g := g) hc (h := hp [viewS n g]) (by kernel_rfl)
  unfold planG
  refine Runs.sqR mixed hk38 [viaC 1 72 [slV n cap] (i64 (readN n g))] (by kernel_rfl) (by kernel_rfl) (by kernel_rfl) (oblC (shown_callE (h0 := hp [viewS n g]) (by kernel_rfl) (by kernel_rfl) hS) oblN) ?_
  by_cases hz : readN n g = 0
  · have z : Value.bool (!(eqF (.ofNat (readN n g)) (.ofNat 0))) = .bool false := by rw [hz]; rfl
    have W := wordsOk_of hz
    have L := plan_all W
    rw [if_pos hz]
    refine Runs.sq (by kernel_rfl) (Runs.sqR mixed hk38 [viaV 1 (.bool false)] (by kernel_rfl) (by kernel_rfl) (by kernel_rfl) (oblC (shown_eq (v := .bool (!(eqF (.ofNat (readN n g)) (.ofNat 0)))) (by kernel_rfl) (by kernel_rfl) z) oblN) ?_)
    refine Runs.cd (b := false) (by kernel_rfl) (fun h => by cases h) (fun _ => Runs.now (x := .normal) (by kernel_rfl) ?_)
    rw [hz]
    show Runs Tryd.prog 1 (behind 3 c20) _ _
    by_cases hl : planW g n 0 (n - 1) 0 = []
    · rw [hl] at L ⊢
      have hP := plan_nil L hc (h := hp [viewS n g]) (by kernel_rfl)
      refine Runs.sqR mixed hk38 [viaC 1 73 [slV n cap, .string ⟨#[]⟩, i64 0] (.slice none 0 0)] (by kernel_rfl) (by kernel_rfl) (by kernel_rfl) (oblC (shown_callE (h0 := hp [viewS n g]) (by kernel_rfl) (by kernel_rfl) hP) oblN) ?_
      exact Runs.now (x := .ret) (by kernel_rfl) ⟨.inr rfl, [.slice none 0 0, i64 0], by kernel_rfl, .inl ⟨rfl, rfl⟩⟩
    · generalize planW g n 0 (n - 1) 0 = l at *
      have hP := plan_list hl L hc (h := hp [viewS n g]) (by kernel_rfl)
      refine Runs.sqR mixed hk38 [viaH 1 73 [slV n cap, .string ⟨#[]⟩, i64 0] (.slice (some ⟨1, 0, some 1⟩) l.length l.length) ((hp [viewS n g]).new (rowL l)).2] (by kernel_rfl) (by kernel_rfl) (by kernel_rfl) (oblC (shown_callHE (h0 := hp [viewS n g]) (by kernel_rfl) (by kernel_rfl) hP) oblN) ?_
      exact Runs.now (x := .ret) (by kernel_rfl) ⟨.inr rfl, [.slice (some ⟨1, 0, some 1⟩) l.length l.length, i64 0], by kernel_rfl, .inr ⟨hl, 1, [], .inl (by rw [litI_len]; rfl), by kernel_rfl⟩⟩
  · have z : Value.bool (!(eqF (.ofNat (readN n g)) (.ofNat 0))) = .bool true := by rw [eqF_eq, beq_eq_false_iff_ne.2 (fun e => hz (Int.ofNat.inj e))]; rfl
    rw [if_neg hz]
    refine Runs.sq (by kernel_rfl) (Runs.sqR mixed hk38 [viaV 1 (.bool true)] (by kernel_rfl) (by kernel_rfl) (by kernel_rfl) (oblC (shown_eq (v := .bool (!(eqF (.ofNat (readN n g)) (.ofNat 0)))) (by kernel_rfl) (by kernel_rfl) z) oblN) ?_)
    refine Runs.cd (b := true) (by kernel_rfl) (fun _ => ?_) (fun h => by cases h)
    exact Runs.sqR mixed hk38 [] (by kernel_rfl) (by kernel_rfl) (by kernel_rfl) oblN (Runs.now (x := .ret) (by kernel_rfl) ⟨.inr rfl, [.slice none 0 0, i64 (readN n g)], by kernel_rfl, .inl ⟨rfl, rfl⟩⟩)
end
end
end Go.Proofs.YtgnkjmgkfibipaaDoor

/- Words: Plan as a contract. -/
namespace Go.Proofs.YtgnkjmgkfibipaaDoor
set_option linter.unusedVariables false
set_option linter.unusedSimpArgs false
open Go Go.R
set_option maxRecDepth 1000000
noncomputable section
section
variable {n cap : Nat} {g : Nat → ByteArray}
noncomputable def c19 : Code := bodyOf Tryd.f19
theorem putW_zeroN (low at_ : Nat) : Says Tryd.prog (hp (oWn n cap g)) 71 (argsW low low at_) (.tuple #[]) (hp (oWn n cap g)) := by
  refine says_of (os := oWn n cap g) ?_ (argsW_clo (show 4 ≤ 4 by decide)) oWn_clo (clo_of 10 _ _ (by kernel_rfl))
  show Local Tryd.prog 4 71 _ _ _
  refine local_of noNum Tryd.func71 (show Tryd.f71.body = some c71 by kernel_rfl) ?_
  refine Runs.sq (by kernel_rfl) (Runs.sqR mixed hk38 [viaV 2 (.bool true)] (by kernel_rfl) (by kernel_rfl) (by kernel_rfl) (oblC (shown_eq (v := .bool (eqF (.ofNat low) (.ofNat low))) (by kernel_rfl) (by kernel_rfl) (by rw [eq_self])) oblN) ?_)
  refine Runs.cd (b := true) (by kernel_rfl) (fun _ => ?_) (fun h => by cases h)
  exact Runs.now (x := .ret) (by kernel_rfl) ⟨.inr rfl, [], by kernel_rfl, rfl, keepOf (by kernel_rfl)⟩
theorem plan19_local (hc : n ≤ cap) : Local Tryd.prog 1 19 [slV n cap] (hp [viewS n g]) (NewLE (planG n g) (readN n g)) := by
  refine local_of noNum Tryd.func19 (show Tryd.f19.body = some c19 by kernel_rfl) ?_
  refine Runs.sqR mixed hk38 [] (by kernel_rfl) (by kernel_rfl) (by kernel_rfl) oblN ?_
  let H1 : AH := hp [viewS n g, .cells [slV n cap] true [] (some 22)]
  have hS := read_at (g := g) hc (h := H1) (by kernel_rfl)
  unfold planG
  refine Runs.sq (by kernel_rfl) (Runs.sqR mixed hk38 [viaC 1 70 [slV n cap] (i64 (readN n g))] (by kernel_rfl) (by kernel_rfl) (by kernel_rfl) (oblC (shown_callE (h0 := H1) (by kernel_rfl) (by kernel_rfl) hS) oblN) ?_)
  by_cases hz : readN n g = 0
  · have z : Value.bool (!(eqF (.ofNat (readN n g)) (.ofNat 0))) = .bool false := by rw [hz]; rfl
    have W := wordsOk_of hz
    have h13 := W.hi
    have hlo := W.lo
    rw [if_pos hz]
    refine Runs.sqR mixed hk38 [viaV 1 (.bool false)] (by kernel_rfl) (by kernel_rfl) (by kernel_rfl) (oblC (shown_eq (v := .bool (!(eqF (.ofNat (readN n g)) (.ofNat 0)))) (by kernel_rfl) (by kernel_rfl) z) oblN) ?_
    refine Runs.cd (b := false) (by kernel_rfl) (fun h => by cases h) (fun _ => Runs.now (x := .normal) (by kernel_rfl) ?_)
    rw [hz]
    show Runs Tryd.prog 1 (behind 2 c19) _ _
    refine Runs.sqR mixed hk38 [] (by kernel_rfl) (by kernel_rfl) (by kernel_rfl) oblN ?_
    refine Runs.sqR mixed hk38 [] (by kernel_rfl) (by kernel_rfl) (by kernel_rfl) oblN ?_
    refine Runs.sqR mixed hk38 [] (by kernel_rfl) (by kernel_rfl) (by kernel_rfl) oblN ?_
    have m1 : Value.int .i64 (wrapF .i64 (Int.sub (.ofNat n) (.ofNat 1))) = i64 (n - 1) := by rw [f_sub (by omega) (by omega)]; rfl
    by_cases h1 : n = 1
    · have hl : planW g n 0 (n - 1) 0 = [] := by rw [h1]; exact planW_none _ _ _
      rw [hl]
      have hP := putW_zeroN (n := n) (cap := cap) (g := g) 0 0
      refine Runs.sqR mixed hk38 [viaV 3 (i64 0), viaC 4 71 (argsW 0 0 0) (.tuple #[])] (by kernel_rfl) (by kernel_rfl) (by kernel_rfl)
        (oblC (shown_eq (v := .int .i64 (wrapF .i64 (Int.sub (.ofNat n) (.ofNat 1)))) (by kernel_rfl) (by kernel_rfl) (by rw [m1, h1]))
        (oblC (shown_callE (h0 := hp (oWn n cap g)) (by kernel_rfl) (by kernel_rfl) hP) oblN)) ?_
      exact Runs.sqR mixed hk38 [] (by kernel_rfl) (by kernel_rfl) (by kernel_rfl) oblN (Runs.now (x := .ret) (by kernel_rfl) ⟨.inr rfl, [.slice none 0 0, i64 0], by kernel_rfl, .inl ⟨rfl, rfl⟩⟩)
    · obtain ⟨f, rfl⟩ : ∃ f, n = f + 1 := ⟨n - 1, by omega⟩
      have hP := putW_whole (putW_start (cap := cap) W (f := f) (p := ⟨#[]⟩) (inR_all W) (by omega) (by omega))
      have hlen := planW_len W (f + 1) ⟨#[]⟩ 0 (f + 1 - 1) (inR_all W) (by omega)
      have hP : Says Tryd.prog (hp (oWn (f + 1) cap g)) 71 (argsW 0 (f + 1 - 1) 0) (.tuple #[]) (HpW0 (f + 1) cap g (planW g (f + 1) 0 (f + 1 - 1) 0)) := hP
      have hlen : (planW g (f + 1) 0 (f + 1 - 1) 0).length = f + 1 - 1 - 0 := hlen
      generalize planW g (f + 1) 0 (f + 1 - 1) 0 = l at *
      have hl : l ≠ [] := fun e => by rw [e] at hlen; simp at hlen; omega
      refine Runs.sqR mixed hk38 [viaV 3 (i64 (f + 1 - 1)), viaH 4 71 (argsW 0 (f + 1 - 1) 0) (.tuple #[]) (HpW0 (f + 1) cap g l)] (by kernel_rfl) (by kernel_rfl) (by kernel_rfl)
        (oblC (shown_eq (v := .int .i64 (wrapF .i64 (Int.sub (.ofNat (f + 1)) (.ofNat 1)))) (by kernel_rfl) (by kernel_rfl) m1)
        (oblC (shown_callHE (h0 := hp (oWn (f + 1) cap g)) (by kernel_rfl) (by kernel_rfl) hP) oblN)) ?_
      exact Runs.sqR mixed hk38 [] (by kernel_rfl) (by kernel_rfl) (by kernel_rfl) oblN (Runs.now (x := .ret) (by kernel_rfl) ⟨.inr rfl, [rowA 4 l.length, i64 0], by kernel_rfl, .inr ⟨hl, 4, [], .inl (by rw [litI_len]; rfl), by kernel_rfl⟩⟩)
  · have z : Value.bool (!(eqF (.ofNat (readN n g)) (.ofNat 0))) = .bool true := by rw [eqF_eq, beq_eq_false_iff_ne.2 (fun e => hz (Int.ofNat.inj e))]; rfl
    rw [if_neg hz]
    refine Runs.sqR mixed hk38 [viaV 1 (.bool true)] (by kernel_rfl) (by kernel_rfl) (by kernel_rfl) (oblC (shown_eq (v := .bool (!(eqF (.ofNat (readN n g)) (.ofNat 0)))) (by kernel_rfl) (by kernel_rfl) z) oblN) ?_
    refine Runs.cd (b := true) (by kernel_rfl) (fun _ => ?_) (fun h => by cases h)
    exact Runs.sqR mixed hk38 [] (by kernel_rfl) (by kernel_rfl) (by kernel_rfl) oblN (Runs.now (x := .ret) (by kernel_rfl) ⟨.inr rfl, [.slice none 0 0, i64 (readN n g)], by kernel_rfl, .inl ⟨rfl, rfl⟩⟩)
end
end
end Go.Proofs.YtgnkjmgkfibipaaDoor

/- Words: a plan and an error's number, told at any heap. -/
namespace Go.Proofs.YtgnkjmgkfibipaaDoor
set_option linter.unusedVariables false
set_option linter.unusedSimpArgs false
open Go Go.R
noncomputable section
section
variable {n : Nat} {g : Nat → ByteArray}
def PlanE (fid : FuncId) (n : Nat) (g : Nat → ByteArray) (l : List Nat) (e : Nat) : Prop := ∀ cap, n ≤ cap → Local Tryd.prog 1 fid [slV n cap] (hp [viewS n g]) (NewLE l e)
theorem planE_nil {fid : FuncId} {e : Nat} (L : PlanE fid n g [] e) {i o : Nat} {c : List Value} {lv : Bool} {par : List Nat} {ty : Option TypeId} {s : Value} {h : AH} (hg : h.get i = .cells c lv par ty)
    (hsub : ∀ (k : Nat) u, (strsV n g)[k]? = some u → c[o + k]? = some u) (room : o + n ≤ c.length) (hs : SliceAt i o n s) : Says Tryd.prog h fid [s] (.tuple #[.slice none 0 0, i64 e]) h :=
  tell_flat (pre := []) (post := []) (i := i) (o := o) (n := n) (s := s) (c := c) (cells := strsV n g) (lv := lv) (par := par) (ty := ty) (R := NewLE [] e) (fun cap' hc' => L cap' hc')
    (fun v' h' r => by
      rcases r with ⟨_, q⟩ | ⟨q, _⟩
      · exact q
      · exact absurd rfl q) rfl hg hsub (by rw [strsV_len]; exact room) (strsV_plain n g) hs (fun v hv => by cases hv) (fun v hv => by cases hv)
theorem planE_list {fid : FuncId} {e : Nat} {l : List Nat} (hl : l ≠ []) (L : PlanE fid n g l e) {i o : Nat} {c : List Value} {lv : Bool} {par : List Nat} {ty : Option TypeId} {s : Value} {h : AH} (hg : h.get i = .cells c lv par ty)
    (hsub : ∀ (k : Nat) u, (strsV n g)[k]? = some u → c[o + k]? = some u) (room : o + n ≤ c.length) (hs : SliceAt i o n s) : Says Tryd.prog h fid [s] (.tuple #[.slice (some ⟨h.next, 0, some 1⟩) l.length l.length, i64 e]) (h.new (rowL l)).2 := by
  have := tell_new (P := Tryd.prog) (fid := fid) (pre := []) (post := []) (i := i) (o := o) (n := n) (n1 := (litI l).length) (s := s) (c := c) (cells := strsV n g) (cells1 := litI l) (lv := lv) (par := par) (ty := ty) (ty1 := some 3) (e1 := some (i64 e)) (h := h)
    (fun cap' hc' F w0 μ w args' H hl2 => (L cap' hc' F w0 μ w args' H hl2).mono fun v' w' ⟨u, h', r, q⟩ => ⟨u, h', by
      rcases r with ⟨q, _⟩ | ⟨_, r⟩
      · exact absurd q hl
      · exact r, q⟩) rfl (litI_plain l) (fun v hv => by cases hv; rfl) hg hsub (by rw [strsV_len]; exact room) (strsV_plain n g) hs (fun v hv => by cases hv) (fun v hv => by cases hv)
  rw [show rowV h.next (litI l).length (some (i64 e)) = .tuple #[.slice (some ⟨h.next, 0, some 1⟩) l.length l.length, i64 e] by rw [litI_len]; rfl] at this
  exact this
end
end
end Go.Proofs.YtgnkjmgkfibipaaDoor

/- TrialWords: the loop over the words' lengths. -/
namespace Go.Proofs.YtgnkjmgkfibipaaDoor
set_option linter.unusedVariables false
set_option linter.unusedSimpArgs false
open Go Go.R
set_option maxRecDepth 1000000
noncomputable section
section
variable {n cap : Nat} {g : Nat → ByteArray}
noncomputable def c3 : Code := bodyOf Tryd.f3
noncomputable def lp3 : Code := within (tl (hd (behind 2 c3)))
noncomputable def S3 (n cap i : Nat) : List (Nat × Value) := [(0, slV n cap), (3, i64 i)]
theorem long_loop (hn : n < 1000) : ∀ d i, i + d = n → Runs Tryd.prog 1 lp3 (sth (S3 n cap i) 46 [viewS n g]) fun x af => (x = .ret ∧ af.tm.get 2 = some (.bool true)) ∨ (x = .exit 0 ∧ Less 1 (sth [(0, slV n cap)] 46 [viewS n g]) af) := by
  intro d
  induction d with
  | zero =>
    intro i hi
    have e : i = n := by omega
    subst e
    refine Runs.lp (by kernel_rfl) (Runs.sq (by kernel_rfl) (Runs.sqR mixed hk38 [] (by kernel_rfl) (by kernel_rfl) (by kernel_rfl) oblN ?_))
    refine Runs.cd (b := ltF (.ofNat i) (.ofNat i)) (by kernel_rfl) (fun ht => by rw [lt_self] at ht; cases ht) (fun _ => Runs.now (x := .exit 0) (by kernel_rfl) (.inr ⟨rfl, ?_⟩))
    exact less_seenP (clo_all (k := 1) (by kernel_rfl)) viewS_clo (Nat.le_refl 1) (by kernel_rfl) (by kernel_rfl) (by kernel_rfl) (by kernel_rfl)
  | succ d ih =>
    intro i hi
    have hlt : i < n := by omega
    refine Runs.lp (by kernel_rfl) (Runs.sq (by kernel_rfl) (Runs.sqR mixed hk38 [] (by kernel_rfl) (by kernel_rfl) (by kernel_rfl) oblN ?_))
    refine Runs.cd (b := ltF (.ofNat i) (.ofNat n)) (by kernel_rfl) (fun _ => Runs.now (x := .normal) (by kernel_rfl) ?_) (fun hf => by rw [lt_of hlt] at hf; cases hf)
    show Runs Tryd.prog 1 _ _ _
    refine Runs.sq (by kernel_rfl) (Runs.bk (id := 1) (by kernel_rfl) ?_)
    refine Runs.sqR mixed hk38 [viaV 2 (.pointer (some ⟨0, 0 + i * 1, none⟩)), viaV 3 (.string (g i))] (by kernel_rfl) (by kernel_rfl) (by kernel_rfl)
      (oblC (shown_idx (n := n) (by kernel_rfl) hlt) (oblC (shown_cell (g := 0) (off := 0 + i * 1) (by kernel_rfl) (cell72 (n := n) hlt (by kernel_rfl))) oblN)) ?_
    refine Runs.cd (b := ltF (.ofNat 40) (.ofNat (g i).size)) (by kernel_rfl) (fun _ => ?_) (fun _ => Runs.now (x := .normal) (by kernel_rfl) ?_)
    · exact Runs.sqR mixed hk38 [] (by kernel_rfl) (by kernel_rfl) (by kernel_rfl) oblN (Runs.now (x := .ret) (by kernel_rfl) (.inl ⟨rfl, by kernel_rfl⟩))
    · show Runs Tryd.prog 1 _ _ _
      refine Runs.rg mixed hk38 [] (by kernel_rfl) (by kernel_rfl) (by kernel_rfl) oblN ?_
      show Runs Tryd.prog 1 lp3 _ _
      have ew : S3 n cap (i + 1) = [(0, slV n cap), (3, .int .i64 (wrapF .i64 (Int.add (.ofNat i) (.ofNat 1))))] := by unfold S3; rw [wrap_succ (by omega : i < 4611686018427387904)]; rfl
      refine Runs.less (af1 := sth (S3 n cap (i + 1)) 46 [viewS n g]) (less_seenP (clo_all (k := 1) (by kernel_rfl)) viewS_clo (Nat.le_refl 1) ?_ (by kernel_rfl) (by kernel_rfl) (by kernel_rfl)) (ih (i + 1) (by omega))
      rw [ew]
      exact Eq.trans (Eq.refl _) (by kernel_rfl)
end
end
end Go.Proofs.YtgnkjmgkfibipaaDoor

/- TrialWords: same, at the two rows. -/
namespace Go.Proofs.YtgnkjmgkfibipaaDoor
set_option linter.unusedVariables false
set_option linter.unusedSimpArgs false
open Go Go.R
set_option maxRecDepth 1000000
noncomputable section
section
variable {n : Nat} {g : Nat → ByteArray}
noncomputable def os3w (n : Nat) (g : Nat → ByteArray) (l : List Nat) : List AObj := [viewS n g, rowL l, rowL l]
noncomputable def S21w (n i : Nat) : List (Nat × Value) := [(0, rowA 1 n), (1, rowA 2 n), (5, i64 i)]
theorem s21w_clo {n i : Nat} : ∀ q ∈ S21w n i, Clo 3 q.2 := clo_all (by kernel_rfl)
theorem same_loop3 (l : List Nat) (hl : l.length < 1000000) (hc : ∀ x ∈ os3w n g l, CloO 3 x) : ∀ d i, i + d = l.length →
    Runs Tryd.prog 3 lp21 (sth (S21w l.length i) 26 (os3w n g l)) fun x af => x = .exit 0 ∧ Less 3 (sth (S21w l.length l.length) 26 (os3w n g l)) af := by
  intro d
  induction d with
  | zero =>
    intro i hi
    have him : i = l.length := by omega
    subst him
    refine Runs.lp (by kernel_rfl) (Runs.sq (by kernel_rfl) (Runs.sqR mixed hk38 [] (by kernel_rfl) (by kernel_rfl) (by kernel_rfl) oblN ?_))
    refine Runs.cd (b := ltF (.ofNat l.length) (.ofNat l.length)) (by kernel_rfl) (fun ht => by rw [lt_self] at ht; cases ht) (fun _ => Runs.now (x := .exit 0) (by kernel_rfl) ⟨rfl, ?_⟩)
    exact less_seenP s21w_clo hc (Nat.le_refl 3) (by kernel_rfl) (by kernel_rfl) (by kernel_rfl) (by kernel_rfl)
  | succ d ih =>
    intro i hi
    have hlt : i < l.length := by omega
    refine Runs.lp (by kernel_rfl) (Runs.sq (by kernel_rfl) (Runs.sqR mixed hk38 [] (by kernel_rfl) (by kernel_rfl) (by kernel_rfl) oblN ?_))
    refine Runs.cd (b := ltF (.ofNat i) (.ofNat l.length)) (by kernel_rfl) (fun _ => Runs.now (x := .normal) (by kernel_rfl) ?_) (fun hf => by rw [lt_of hlt] at hf; cases hf)
    show Runs Tryd.prog 3 _ _ _
    refine Runs.sq (by kernel_rfl) (Runs.bk (id := 1) (by kernel_rfl) ?_)
    refine Runs.sqR mixed hk38 [viaV 2 (.pointer (some ⟨1, 0 + i * 1, none⟩)), viaV 3 (.int .i64 (.ofNat (l.getD i 0))), viaV 6 (.pointer (some ⟨2, 0 + i * 1, none⟩)), viaV 7 (.int .i64 (.ofNat (l.getD i 0))), viaV 8 (.bool false)] (by kernel_rfl) (by kernel_rfl) (by kernel_rfl)
      (oblC (shown_idx (n := l.length) (by kernel_rfl) hlt) (oblC (shown_cell (g := 1) (by kernel_rfl) (lit_at (l := l) (lv := true) (par := []) (ty := some 3) (by kernel_rfl) hlt))
      (oblC (shown_idx (n := l.length) (by kernel_rfl) hlt) (oblC (shown_cell (g := 2) (by kernel_rfl) (lit_at (l := l) (lv := true) (par := []) (ty := some 3) (by kernel_rfl) hlt))
      (oblC (shown_eq (v := .bool (!(eqF (.ofNat (l.getD i 0)) (.ofNat (l.getD i 0))))) (by kernel_rfl) (by kernel_rfl) (by rw [eq_self]; rfl)) oblN))))) ?_
    refine Runs.cd (b := false) (by kernel_rfl) (fun h => by cases h) (fun _ => Runs.now (x := .normal) (by kernel_rfl) ?_)
    show Runs Tryd.prog 3 _ _ _
    refine Runs.rg mixed hk38 [] (by kernel_rfl) (by kernel_rfl) (by kernel_rfl) oblN ?_
    show Runs Tryd.prog 3 lp21 _ _
    have ew : S21w l.length (i + 1) = [(0, rowA 1 l.length), (1, rowA 2 l.length), (5, .int .i64 (wrapF .i64 (Int.add (.ofNat i) (.ofNat 1))))] := by rw [wrap_succ (by omega : i < 4611686018427387904)]; rfl
    refine Runs.less (af1 := sth (S21w l.length (i + 1)) 26 (os3w n g l)) (less_seenP s21w_clo hc (Nat.le_refl 3) ?_ (by kernel_rfl) (by kernel_rfl) (by kernel_rfl)) (ih (i + 1) (by omega))
    rw [ew]
    exact Eq.trans (Eq.refl _) (by kernel_rfl)

theorem same_words (l : List Nat) (hl : l.length < 1000000) (hc : ∀ x ∈ os3w n g l, CloO 3 x) : Says Tryd.prog (hp (os3w n g l)) 21 [rowA 1 l.length, rowA 2 l.length] (.bool true) (hp (os3w n g l)) := by
  refine says_of (os := os3w n g l) ?_ (fun x hx => ?_) hc (clo_plain rfl)
  · refine local_of noNum Tryd.func21 (show Tryd.f21.body = some c21 by kernel_rfl) ?_
    refine Runs.sqR mixed hk38 [] (by kernel_rfl) (by kernel_rfl) (by kernel_rfl) oblN ?_
    refine Runs.sq (by kernel_rfl) (Runs.sqR mixed hk38 [viaV 4 (.bool false)] (by kernel_rfl) (by kernel_rfl) (by kernel_rfl)
      (oblC (shown_eq (v := .bool (!(eqF (.ofNat l.length) (.ofNat l.length)))) (by kernel_rfl) (by kernel_rfl) (by rw [eq_self]; rfl)) oblN) ?_)
    refine Runs.cd (b := false) (by kernel_rfl) (fun h => by cases h) (fun _ => Runs.now (x := .normal) (by kernel_rfl) ?_)
    show Runs Tryd.prog 3 _ _ _
    refine Runs.sq (by kernel_rfl) (Runs.sqR mixed hk38 [] (by kernel_rfl) (by kernel_rfl) (by kernel_rfl) oblN (Runs.bk (id := 0) (by kernel_rfl) ?_))
    refine Runs.less (af1 := sth (S21w l.length 0) 26 (os3w n g l)) (less_seenP s21w_clo hc (Nat.le_refl 3) (by kernel_rfl) (by kernel_rfl) (by kernel_rfl) (by kernel_rfl)) ?_
    refine (same_loop3 l hl hc l.length 0 (by omega)).mono fun x af hx => ?_
    obtain ⟨rfl, less⟩ := hx
    show Runs Tryd.prog 3 _ af _
    exact Runs.less less (Runs.sqR mixed hk38 [] (by kernel_rfl) (by kernel_rfl) (by kernel_rfl) oblN (Runs.now (x := .ret) (by kernel_rfl) ⟨.inr rfl, [.bool true], by kernel_rfl, rfl, keepOf (by kernel_rfl)⟩))
  · simp only [List.mem_cons, List.mem_nil_iff, or_false] at hx
    rcases hx with rfl | rfl
    · exact clo_of 10 3 _ (by kernel_rfl)
    · exact clo_of 10 3 _ (by kernel_rfl)
end
end
end Go.Proofs.YtgnkjmgkfibipaaDoor

/- TrialWords: its run from a caller's words. -/
namespace Go.Proofs.YtgnkjmgkfibipaaDoor
set_option linter.unusedVariables false
set_option linter.unusedSimpArgs false
open Go Go.R
set_option maxRecDepth 1000000
noncomputable section
section
variable {n cap : Nat} {g : Nat → ByteArray}
theorem words_run (hc : n ≤ cap) : Runs Tryd.prog 1 c3 (entry Tryd.f3 [slV n cap] (hp [viewS n g])) (EndsAs Tryd.prog Tryd.f3 fun v' _ => v' = .bool true) := by
  refine Runs.sqR mixed hk38 [] (by kernel_rfl) (by kernel_rfl) (by kernel_rfl) oblN ?_
  refine Runs.sq (by kernel_rfl) (Runs.sqR mixed hk38 [] (by kernel_rfl) (by kernel_rfl) (by kernel_rfl) oblN ?_)
  refine Runs.cd (b := ltF (.ofNat 40) (.ofNat n)) (by kernel_rfl) (fun _ => ?_) (fun hn40 => Runs.now (x := .normal) (by kernel_rfl) ?_)
  · exact Runs.sqR mixed hk38 [] (by kernel_rfl) (by kernel_rfl) (by kernel_rfl) oblN (Runs.now (x := .ret) (by kernel_rfl) ⟨.inr rfl, [.bool true], by kernel_rfl, rfl⟩)
  have hn : n ≤ 40 := by
    have := ltF_not.1 hn40
    exact Int.ofNat_le.1 this
  show Runs Tryd.prog 1 (behind 2 c3) _ _
  refine Runs.sq (by kernel_rfl) (Runs.sqR mixed hk38 [] (by kernel_rfl) (by kernel_rfl) (by kernel_rfl) oblN (Runs.bk (id := 0) (by kernel_rfl) ?_))
  refine Runs.less (af1 := sth (S3 n cap 0) 46 [viewS n g]) (less_seenP (clo_all (k := 1) (by kernel_rfl)) viewS_clo (Nat.le_refl 1) (by kernel_rfl) (by kernel_rfl) (by kernel_rfl) (by kernel_rfl)) ?_
  show Runs Tryd.prog 1 lp3 _ _
  refine (long_loop (by omega) n 0 (by omega)).mono fun x af hx => ?_
  rcases hx with ⟨rfl, ht⟩ | ⟨rfl, less⟩
  · refine ⟨.inr rfl, [.bool true], ?_, rfl⟩
    have e0 : Tryd.f3.results.toList = [.tmp 2] := by kernel_rfl
    rw [e0]
    simp only [resultsA, ht]
  show Runs Tryd.prog 1 (behind 3 c3) af _
  refine Runs.less less ?_
  have P1 : PlanE 19 n g (planG n g) (readN n g) := fun cap' hc' => plan19_local hc'
  have P2 : PlanE 20 n g (planG n g) (readN n g) := fun cap' hc' => refPlan_local hc'
  have lenG : (planG n g).length < 1000000 := by
    unfold planG
    by_cases hz : readN n g = 0
    · rw [if_pos hz]
      have W := wordsOk_of hz
      have := planW_len W n ⟨#[]⟩ 0 (n - 1) (inR_all W) (by have := W.lo; omega)
      have this : (planW g n 0 (n - 1) 0).length = n - 1 - 0 := this
      omega
    · rw [if_neg hz]; decide
  generalize planG n g = l at *
  generalize readN n g = e at *
  have sub : ∀ (k : Nat) u, (strsV n g)[k]? = some u → (strsV n g)[0 + k]? = some u := fun k u h => by rw [Nat.zero_add]; exact h
  have room : 0 + n ≤ (strsV n g).length := by rw [strsV_len]; omega
  by_cases hl : l = []
  · subst hl
    have q1 := planE_nil P1 (h := hp [viewS n g]) (i := 0) (o := 0) (lv := false) (par := []) (ty := none) (s := slV n cap) (by kernel_rfl) sub room (view_at hc)
    have q2 := planE_nil P2 (h := hp [viewS n g]) (i := 0) (o := 0) (lv := false) (par := []) (ty := none) (s := slV n cap) (by kernel_rfl) sub room (view_at hc)
    refine Runs.sqR mixed hk38 [viaC 1 19 [slV n cap] (.tuple #[.slice none 0 0, i64 e])] (by kernel_rfl) (by kernel_rfl) (by kernel_rfl) (oblC (shown_callE (h0 := hp [viewS n g]) (by kernel_rfl) (by kernel_rfl) q1) oblN) ?_
    refine Runs.sqR mixed hk38 [viaC 1 20 [slV n cap] (.tuple #[.slice none 0 0, i64 e])] (by kernel_rfl) (by kernel_rfl) (by kernel_rfl) (oblC (shown_callE (h0 := hp [viewS n g]) (by kernel_rfl) (by kernel_rfl) q2) oblN) ?_
    refine Runs.sqR mixed hk38 [viaV 6 (.bool true)] (by kernel_rfl) (by kernel_rfl) (by kernel_rfl) (oblC (shown_eq (v := .bool (eqF (.ofNat e) (.ofNat e))) (by kernel_rfl) (by kernel_rfl) (by rw [eq_self])) oblN) ?_
    exact Runs.now (x := .ret) (by kernel_rfl) ⟨.inr rfl, [.bool true], by kernel_rfl, rfl⟩
  · let H1 : AH := ((hp [viewS n g]).new (rowL l)).2
    have q1 := planE_list hl P1 (h := hp [viewS n g]) (i := 0) (o := 0) (lv := false) (par := []) (ty := none) (s := slV n cap) (by kernel_rfl) sub room (view_at hc)
    have q2 := planE_list hl P2 (h := H1) (i := 0) (o := 0) (lv := false) (par := []) (ty := none) (s := slV n cap) (by kernel_rfl) sub room (view_at hc)
    have q3 := same_words (n := n) (g := g) l lenG (fun o ho => by
      simp only [os3w, List.mem_cons, List.mem_nil_iff, or_false] at ho
      rcases ho with rfl | rfl | rfl
      · exact cloO_plain (strsV_plain n g) _ _
      · exact cloO_plain (litI_plain l) _ _
      · exact cloO_plain (litI_plain l) _ _)
    refine Runs.sqR mixed hk38 [viaH 1 19 [slV n cap] (.tuple #[rowA 1 l.length, i64 e]) H1] (by kernel_rfl) (by kernel_rfl) (by kernel_rfl) (oblC (shown_callHE (h0 := hp [viewS n g]) (by kernel_rfl) (by kernel_rfl) q1) oblN) ?_
    refine Runs.sqR mixed hk38 [viaH 1 20 [slV n cap] (.tuple #[rowA 2 l.length, i64 e]) (H1.new (rowL l)).2] (by kernel_rfl) (by kernel_rfl) (by kernel_rfl) (oblC (shown_callHE (h0 := H1) (by kernel_rfl) (by kernel_rfl) q2) oblN) ?_
    refine Runs.sqR mixed hk38 [viaC 2 21 [rowA 1 l.length, rowA 2 l.length] (.bool true), viaV 6 (.bool true)] (by kernel_rfl) (by kernel_rfl) (by kernel_rfl)
      (oblC (shown_callE (h0 := hp (os3w n g l)) (by kernel_rfl) (by kernel_rfl) q3) (oblC (shown_eq (v := .bool (eqF (.ofNat e) (.ofNat e))) (by kernel_rfl) (by kernel_rfl) (by rw [eq_self])) oblN)) ?_
    exact Runs.now (x := .ret) (by kernel_rfl) ⟨.inr rfl, [.bool true], by kernel_rfl, rfl⟩
end
end
end Go.Proofs.YtgnkjmgkfibipaaDoor
