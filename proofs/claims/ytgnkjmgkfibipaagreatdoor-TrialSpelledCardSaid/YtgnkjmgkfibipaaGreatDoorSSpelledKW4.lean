/- Words: Plan$1: its places, its loop. (printed by tools/mkputw.py) -/
import Derived.Test.YtgnkjmgkfibipaaGreatDoorSSpelledKW3
namespace Go.Proofs.YtgnkjmgkfibipaaGreatDoor
set_option linter.unusedVariables false
set_option linter.unusedSimpArgs false
open Go Go.R
set_option maxRecDepth 1000000
noncomputable section

noncomputable def c71 : Code := bodyOf Tryz.f60
noncomputable def lp71 : Code := within (hd (behind 2 c71))
noncomputable def putW : Value := .func (.func 60) #[] #[ptrC 1, ptrC 2, ptrC 3]
noncomputable def oW (n cap : Nat) (g : Nat → ByteArray) (out : Value) (more : List AObj) : List AObj := viewS n g :: .cells [slV n cap] true [] (some 30) :: .cells [out] true [] (some 22) :: .cells [putW] true [] (some 74) :: more
noncomputable def oWn (n cap : Nat) (g : Nat → ByteArray) : List AObj := oW n cap g (.slice none 0 0) []
noncomputable def oWl (n cap : Nat) (g : Nat → ByteArray) (lst : List Nat) : List AObj := oW n cap g (rowA 4 lst.length) [rowL lst]
noncomputable def SpW (low high at_ l : Nat) : List (Nat × Value) := [(0, i64 low), (1, i64 high), (2, i64 at_), (3, ptrC 1), (4, ptrC 2), (5, ptrC 3), (9, i64 l)]
noncomputable def argsW (low high at_ : Nat) : List Value := [i64 low, i64 high, i64 at_, ptrC 1, ptrC 2, ptrC 3]
theorem SpW_clo4 {low high at_ l : Nat} : ∀ q ∈ SpW low high at_ l, Clo 4 q.2 := clo_all (by kernel_rfl)
theorem SpW_clo5 {low high at_ l : Nat} : ∀ q ∈ SpW low high at_ l, Clo 5 q.2 := clo_all (by kernel_rfl)
theorem cellsW_clo {k : Nat} {c : List Value} {ty : Option TypeId} (h : c.all (cloB 10 k) = true) : CloO k (.cells c true [] ty) := ⟨fun v hv => clo_of 10 k v (List.all_eq_true.1 h v hv), fun j hj => by cases hj⟩
section
variable {n cap : Nat} {g : Nat → ByteArray}
theorem oWn_clo : ∀ o ∈ oWn n cap g, CloO 4 o := fun o ho => by
  simp only [oWn, oW, List.mem_cons, List.mem_nil_iff, or_false] at ho
  rcases ho with rfl | rfl | rfl | rfl
  · exact cloO_plain (strsV_plain n g) _ _
  · exact cellsW_clo (by kernel_rfl)
  · exact cellsW_clo (by kernel_rfl)
  · exact cellsW_clo (by kernel_rfl)
theorem oWl_clo {lst : List Nat} : ∀ o ∈ oWl n cap g lst, CloO 5 o := fun o ho => by
  simp only [oWl, oW, List.mem_cons, List.mem_nil_iff, or_false] at ho
  rcases ho with rfl | rfl | rfl | rfl | rfl
  · exact cloO_plain (strsV_plain n g) _ _
  · exact cellsW_clo (by kernel_rfl)
  · exact cellsW_clo (by kernel_rfl)
  · exact cellsW_clo (by kernel_rfl)
  · exact cloO_plain (litI_plain lst) _ _
end

theorem putW_loopN {n cap : Nat} {g : Nat → ByteArray} (hn : n < 1000) {low high at_ l : Nat} (hl : l < n) (hs : ∀ j, low ≤ j → j ≤ l → at_ < (g j).size) (hb : ∀ j, low ≤ j → j < l → letW g at_ j = 98) (he : letW g at_ l ≠ 98) : ∀ d i, i + d = l → low ≤ i →
    Runs Tryz.prog 4 lp71 (sth (SpW low high at_ i) 40 (oWn n cap g)) fun x af => x = .exit 0 ∧ Less 4 (sth (SpW low high at_ l) 40 (oWn n cap g)) af := by
  intro d
  induction d with
  | zero =>
    intro i hi hlo
    obtain rfl : i = l := by omega
    have hsz := hs i hlo (Nat.le_refl _)
    have hne : Nat.beq (byteN (g i) at_) 98 = false := by
      cases hq : Nat.beq (byteN (g i) at_) 98 with
      | false => rfl
      | true => exact absurd (UInt8.toNat_inj.1 (show (letW g at_ i).toNat = (98 : UInt8).toNat from Nat.eq_of_beq_eq_true hq)) he
    refine Runs.lp (by kernel_rfl) (Runs.sq (by kernel_rfl) (Runs.sqR mixed hk38 [viaV 2 (.pointer (some ⟨0, 0 + i * 1, none⟩)), viaV 3 (.string (g i)), viaV 5 (.int .u8 (.ofNat (byteN (g i) at_))), viaV 6 (.bool false)] (by kernel_rfl) (by kernel_rfl) (by kernel_rfl)
      (oblC (shown_idx (n := n) (by kernel_rfl) hl) (oblC (shown_cell (g := 0) (off := 0 + i * 1) (by kernel_rfl) (cell72 (n := n) hl (by kernel_rfl)))
      (oblC (shown_byte (w := g i) (by kernel_rfl) (by kernel_rfl) hsz)
      (oblC (shown_eq (v := .bool (eqF (.ofNat (byteN (g i) at_)) (.ofNat 98))) (by kernel_rfl) (by kernel_rfl) (by rw [eqN_iff, hne])) oblN)))) ?_))
    refine Runs.cd (b := false) (by kernel_rfl) (fun h => by cases h) (fun _ => Runs.now (x := .exit 0) (by kernel_rfl) ⟨rfl, ?_⟩)
    exact less_seenP SpW_clo4 oWn_clo (show 4 ≤ 4 by decide) (by kernel_rfl) (by kernel_rfl) (by kernel_rfl) (by kernel_rfl)
  | succ d ih =>
    intro i hi hlo
    have hsz := hs i hlo (by omega)
    have heq : Nat.beq (byteN (g i) at_) 98 = true := by
      rw [Nat.beq_eq]
      exact congrArg UInt8.toNat (hb i hlo (by omega))
    refine Runs.lp (by kernel_rfl) (Runs.sq (by kernel_rfl) (Runs.sqR mixed hk38 [viaV 2 (.pointer (some ⟨0, 0 + i * 1, none⟩)), viaV 3 (.string (g i)), viaV 5 (.int .u8 (.ofNat (byteN (g i) at_))), viaV 6 (.bool true)] (by kernel_rfl) (by kernel_rfl) (by kernel_rfl)
      (oblC (shown_idx (n := n) (by kernel_rfl) (by omega)) (oblC (shown_cell (g := 0) (off := 0 + i * 1) (by kernel_rfl) (cell72 (n := n) (by omega) (by kernel_rfl)))
      (oblC (shown_byte (w := g i) (by kernel_rfl) (by kernel_rfl) hsz)
      (oblC (shown_eq (v := .bool (eqF (.ofNat (byteN (g i) at_)) (.ofNat 98))) (by kernel_rfl) (by kernel_rfl) (by rw [eqN_iff, heq])) oblN)))) ?_))
    refine Runs.cd (b := true) (by kernel_rfl) (fun _ => Runs.now (x := .normal) (by kernel_rfl) ?_) (fun h => by cases h)
    show Runs Tryz.prog 4 _ _ _
    refine Runs.bk (id := 1) (by kernel_rfl) (Runs.rg mixed hk38 [viaV 1 (i64 (i + 1))] (by kernel_rfl) (by kernel_rfl) (by kernel_rfl) (oblC (shown_eq (v := .int .i64 (wrapF .i64 (Int.add (.ofNat i) (.ofNat 1)))) (by kernel_rfl) (by kernel_rfl) (by rw [wrap_succ (by omega)]; rfl)) oblN) ?_)
    show Runs Tryz.prog 4 lp71 _ _
    exact Runs.less (less_seenP SpW_clo4 oWn_clo (show 4 ≤ 4 by decide) (by kernel_rfl) (by kernel_rfl) (by kernel_rfl) (by kernel_rfl)) (ih (i + 1) (by omega) (by omega))


theorem putW_loopL (lst : List Nat) {n cap : Nat} {g : Nat → ByteArray} (hn : n < 1000) {low high at_ l : Nat} (hl : l < n) (hs : ∀ j, low ≤ j → j ≤ l → at_ < (g j).size) (hb : ∀ j, low ≤ j → j < l → letW g at_ j = 98) (he : letW g at_ l ≠ 98) : ∀ d i, i + d = l → low ≤ i →
    Runs Tryz.prog 4 lp71 (sth (SpW low high at_ i) 40 (oWl n cap g lst)) fun x af => x = .exit 0 ∧ Less 4 (sth (SpW low high at_ l) 40 (oWl n cap g lst)) af := by
  intro d
  induction d with
  | zero =>
    intro i hi hlo
    obtain rfl : i = l := by omega
    have hsz := hs i hlo (Nat.le_refl _)
    have hne : Nat.beq (byteN (g i) at_) 98 = false := by
      cases hq : Nat.beq (byteN (g i) at_) 98 with
      | false => rfl
      | true => exact absurd (UInt8.toNat_inj.1 (show (letW g at_ i).toNat = (98 : UInt8).toNat from Nat.eq_of_beq_eq_true hq)) he
    refine Runs.lp (by kernel_rfl) (Runs.sq (by kernel_rfl) (Runs.sqR mixed hk38 [viaV 2 (.pointer (some ⟨0, 0 + i * 1, none⟩)), viaV 3 (.string (g i)), viaV 5 (.int .u8 (.ofNat (byteN (g i) at_))), viaV 6 (.bool false)] (by kernel_rfl) (by kernel_rfl) (by kernel_rfl)
      (oblC (shown_idx (n := n) (by kernel_rfl) hl) (oblC (shown_cell (g := 0) (off := 0 + i * 1) (by kernel_rfl) (cell72 (n := n) hl (by kernel_rfl)))
      (oblC (shown_byte (w := g i) (by kernel_rfl) (by kernel_rfl) hsz)
      (oblC (shown_eq (v := .bool (eqF (.ofNat (byteN (g i) at_)) (.ofNat 98))) (by kernel_rfl) (by kernel_rfl) (by rw [eqN_iff, hne])) oblN)))) ?_))
    refine Runs.cd (b := false) (by kernel_rfl) (fun h => by cases h) (fun _ => Runs.now (x := .exit 0) (by kernel_rfl) ⟨rfl, ?_⟩)
    exact less_seenP SpW_clo5 oWl_clo (show 4 ≤ 5 by decide) (by kernel_rfl) (by kernel_rfl) (by kernel_rfl) (by kernel_rfl)
  | succ d ih =>
    intro i hi hlo
    have hsz := hs i hlo (by omega)
    have heq : Nat.beq (byteN (g i) at_) 98 = true := by
      rw [Nat.beq_eq]
      exact congrArg UInt8.toNat (hb i hlo (by omega))
    refine Runs.lp (by kernel_rfl) (Runs.sq (by kernel_rfl) (Runs.sqR mixed hk38 [viaV 2 (.pointer (some ⟨0, 0 + i * 1, none⟩)), viaV 3 (.string (g i)), viaV 5 (.int .u8 (.ofNat (byteN (g i) at_))), viaV 6 (.bool true)] (by kernel_rfl) (by kernel_rfl) (by kernel_rfl)
      (oblC (shown_idx (n := n) (by kernel_rfl) (by omega)) (oblC (shown_cell (g := 0) (off := 0 + i * 1) (by kernel_rfl) (cell72 (n := n) (by omega) (by kernel_rfl)))
      (oblC (shown_byte (w := g i) (by kernel_rfl) (by kernel_rfl) hsz)
      (oblC (shown_eq (v := .bool (eqF (.ofNat (byteN (g i) at_)) (.ofNat 98))) (by kernel_rfl) (by kernel_rfl) (by rw [eqN_iff, heq])) oblN)))) ?_))
    refine Runs.cd (b := true) (by kernel_rfl) (fun _ => Runs.now (x := .normal) (by kernel_rfl) ?_) (fun h => by cases h)
    show Runs Tryz.prog 4 _ _ _
    refine Runs.bk (id := 1) (by kernel_rfl) (Runs.rg mixed hk38 [viaV 1 (i64 (i + 1))] (by kernel_rfl) (by kernel_rfl) (by kernel_rfl) (oblC (shown_eq (v := .int .i64 (wrapF .i64 (Int.add (.ofNat i) (.ofNat 1)))) (by kernel_rfl) (by kernel_rfl) (by rw [wrap_succ (by omega)]; rfl)) oblN) ?_)
    show Runs Tryz.prog 4 lp71 _ _
    exact Runs.less (less_seenP SpW_clo5 oWl_clo (show 4 ≤ 5 by decide) (by kernel_rfl) (by kernel_rfl) (by kernel_rfl) (by kernel_rfl)) (ih (i + 1) (by omega) (by omega))

end
end Go.Proofs.YtgnkjmgkfibipaaGreatDoor

/- Words: Plan$1 told where it is called; a call with nothing to put. -/
namespace Go.Proofs.YtgnkjmgkfibipaaGreatDoor
set_option linter.unusedVariables false
set_option linter.unusedSimpArgs false
open Go Go.R
set_option maxRecDepth 1000000
noncomputable section

def threeW : List Nat := [0, 1, 3]
theorem threeW_at {x y : AH} (h : threeW.map x.get = threeW.map y.get) : ∀ i, i < 4 → i ≠ 2 → x.get i = y.get i := by
  simp only [threeW, List.map_cons, List.map_nil, List.cons.injEq, and_true] at h
  obtain ⟨h0, h1, h3⟩ := h
  intro i hi hne
  match i, hi, hne with
  | 0, _, _ => exact h0
  | 1, _, _ => exact h1
  | 2, _, hne => exact absurd rfl hne
  | 3, _, _ => exact h3
  | i + 4, hi, _ => omega
section
variable {n cap : Nat} {g : Nat → ByteArray}
/-- The heap behind a call of put. -/
noncomputable def HpW (n cap : Nat) (g : Nat → ByteArray) (C C' : List Nat) : AH := ((((hp (oWl n cap g C)).put 2 (.cells [rowA 5 C'.length] true [] (some 22))).put 4 .dead).new (rowL C')).2
theorem argsW_clo {k low high at_ : Nat} (hk : 4 ≤ k) : ∀ x ∈ argsW low high at_, Clo k x := fun x hx => by
  simp only [argsW, List.mem_cons, List.mem_nil_iff, or_false] at hx
  have h : ∀ v, cloB 10 4 v = true → Clo k v := fun v hv => (clo_of 10 4 v hv).mono hk
  rcases hx with rfl | rfl | rfl | rfl | rfl | rfl <;> exact h _ (by kernel_rfl)

theorem putW_zero (low at_ : Nat) (C : List Nat) : Says Tryz.prog (hp (oWl n cap g C)) 60 (argsW low low at_) (.tuple #[]) (hp (oWl n cap g C)) := by
  refine says_of (os := oWl n cap g C) ?_ (argsW_clo (show 4 ≤ 5 by decide)) oWl_clo (clo_of 10 _ _ (by kernel_rfl))
  show Local Tryz.prog 5 60 _ _ _
  refine local_of noNum Tryz.func60 (show Tryz.f60.body = some c71 by kernel_rfl) ?_
  refine Runs.sq (by kernel_rfl) (Runs.sqR mixed hk38 [viaV 2 (.bool true)] (by kernel_rfl) (by kernel_rfl) (by kernel_rfl) (oblC (shown_eq (v := .bool (eqF (.ofNat low) (.ofNat low))) (by kernel_rfl) (by kernel_rfl) (by rw [eq_self])) oblN) ?_)
  refine Runs.cd (b := true) (by kernel_rfl) (fun _ => ?_) (fun h => by cases h)
  exact Runs.now (x := .ret) (by kernel_rfl) ⟨.inr rfl, [], by kernel_rfl, rfl, keepOf (by kernel_rfl)⟩
theorem putW_says {low high at_ : Nat} {C C' : List Nat} (IH : Local Tryz.prog 4 60 (argsW low high at_) (hp (oWl n cap g C)) (IsSlotP 4 2 C'.length [] (litI C') (some 3) (some 22) (.tuple #[]) (hp (oWl n cap g C)))) :
    Says Tryz.prog (hp (oWl n cap g C)) 60 (argsW low high at_) (.tuple #[]) (HpW n cap g C C') := by
  have e : ∀ i, i < 4 → i ≠ 2 → (HpW n cap g C C').get i = (hp (oWl n cap g C)).get i := threeW_at (by kernel_rfl)
  refine slot_saysP (h := hp (oWl n cap g C)) (h1 := HpW n cap g C C') (slot := 2) (k := 4) (n := C'.length) (pre := []) (cells := litI C') (ty := some 3) (tc := some 22) IH rfl (fun u hu => by cases hu) (by decide) (show 4 ≤ 5 by decide) (fun i hi hne => ?_) ⟨4, ptrC 2, by kernel_rfl, ?_⟩ (fun i hi1 hi2 => ?_)
    (by kernel_rfl) e (by kernel_rfl) (fun i hi1 hi2 => ?_) (by kernel_rfl) (litI_plain C')
  · match i, hi, hne with
    | 0, _, _ => exact ⟨strsV n g, false, none, by kernel_rfl, fun v hv => clo_plain (strsV_plain n g v hv)⟩
    | 1, _, _ => exact ⟨[slV n cap], true, some 30, by kernel_rfl, (cellsW_clo (k := 4) (c := [slV n cap]) (ty := none) (by kernel_rfl)).1⟩
    | 2, _, hne => exact absurd rfl hne
    | 3, _, _ => exact ⟨[putW], true, some 74, by kernel_rfl, (cellsW_clo (k := 4) (c := [putW]) (ty := none) (by kernel_rfl)).1⟩
    | i + 4, hi, _ => omega
  · exact Born.ptr 2 0
  · have hi2' : i < 5 := hi2
    have e : i = 4 := by omega
    subst e
    exact ⟨[], C.length, by kernel_rfl⟩
  · have hi2' : i < 5 := hi2
    have e : i = 4 := by omega
    subst e
    exact Eq.trans (Eq.refl _) (by kernel_rfl)
end
end
end Go.Proofs.YtgnkjmgkfibipaaGreatDoor

/- Words: Plan$1 puts the plan of its words. -/
namespace Go.Proofs.YtgnkjmgkfibipaaGreatDoor
set_option linter.unusedVariables false
set_option linter.unusedSimpArgs false
open Go Go.R
set_option maxRecDepth 1000000
noncomputable section
section
variable {n cap : Nat} {g : Nat → ByteArray}
/-- The list lies in another row: numbered anew. -/
theorem putW_next {low high at_ l q m : Nat} {C : List Nat} {rows : List Value} {par : List Nat} {k0 : Code} {Q : AExit → AF → Prop} {af : AF} (hq : 4 ≤ q) (hm : m = C.length) (hrows : rows = litI C) (hpar : ∀ j, j < 4 → j ∉ par) (hsz : af.sz = 40)
    (tt : ([0, 1, 2, 3, 4, 5, 9] : List Nat).map af.tm.get = (SpW low high at_ l).map fun p => some p.2) (gg : threeW.map af.h.get = threeW.map (hp (oWl n cap g C)).get)
    (g2 : af.h.get 2 = .cells [rowA q m] true [] (some 22)) (gq : af.h.get q = .cells rows true par (some 3)) (h : Runs Tryz.prog 4 k0 (sth (SpW low high at_ l) 40 (oWl n cap g C)) Q) : Runs Tryz.prog 4 k0 af Q := by
  subst hrows hm
  have gw := threeW_at gg
  have hρ : ∀ j, j < 4 → (fun j => if j = 4 then q else j) j = j := fun j hj => by simp only; rw [if_neg (by omega)]
  have atw : ∀ j o, (oWl n cap g C)[j]? = some o → (hp (oWl n cap g C)).get j = o := fun j o ho => hp_get _ j o ho
  refine Runs.renumT (l := SpW low high at_ l) (os := oWl n cap g C) (fun j => if j = 4 then q else j) hsz (show 4 ≤ 5 by decide) (fun j hj => ⟨hρ j hj, ?_⟩) (fun a c ha hc e => ?_) (fun p hp => ?_) (fun j o ho => ?_) (fun a c ha hc hne cs lv p ty hg => ?_) h
  · by_cases e : j = 2
    · subst e
      refine .inr ⟨4, ptrC 2, ?_, Born.ptr 2 0⟩
      simp only [SpW, List.map_cons, List.map_nil, List.cons.injEq, and_true] at tt
      exact tt.2.2.2.2.1
    · exact .inl fun o ho => (gw j hj e).trans (atw j o ho)
  · have ha' : a < 5 := ha
    have hc' : c < 5 := hc
    split at e <;> split at e <;> omega
  · refine ⟨p.2, ?_, Ren.clo (show 4 ≤ 5 by decide) hρ (SpW_clo4 p hp)⟩
    have e : ([0, 1, 2, 3, 4, 5, 9] : List Nat) = (SpW low high at_ l).map (·.1) := rfl
    rw [e, List.map_map, List.map_inj_left] at tt
    exact tt p hp
  · match j, ho with
    | 0, ho => cases ho; show RenO _ 5 (af.h.get 0) _; rw [gw 0 (by decide) (by decide), atw 0 _ rfl]; exact obs_viewS rfl
    | 1, ho => cases ho; show RenO _ 5 (af.h.get 1) _; rw [gw 1 (by decide) (by decide), atw 1 _ rfl]; exact RenO.clo (show 4 ≤ 5 by decide) hρ (cellsW_clo (k := 4) (c := [slV n cap]) (ty := none) (by kernel_rfl)).1
    | 2, ho =>
      cases ho
      show RenO _ 5 (af.h.get 2) _
      rw [g2]
      refine ⟨rfl, fun k u w hu hw => ?_, fun _ => rfl, rfl, .inr rfl⟩
      match k, hu, hw with
      | 0, hu, hw => cases hu; cases hw; exact Ren.sliceU (show 4 < 5 by decide) rfl
    | 3, ho => cases ho; show RenO _ 5 (af.h.get 3) _; rw [gw 3 (by decide) (by decide), atw 3 _ rfl]; exact RenO.clo (show 4 ≤ 5 by decide) hρ (cellsW_clo (k := 4) (c := [putW]) (ty := none) (by kernel_rfl)).1
    | 4, ho => cases ho; show RenO _ 5 (af.h.get q) _; rw [gq]; exact obs_rowL rfl rfl
    | j + 5, ho => simp [oWl, oW] at ho
  · have ha' : a < 5 := ha
    have hc' : c < 5 := hc
    show (if c = 4 then q else c) ∉ p
    have hg : af.h.get (if a = 4 then q else a) = .cells cs lv p ty := hg
    by_cases e : a = 4
    · subst e
      rw [if_pos rfl, gq] at hg
      cases hg
      rw [if_neg (by omega)]
      exact hpar c (by omega)
    · rw [if_neg e] at hg
      have : p = [] := by
        match a, ha', e, hg with
        | 0, _, _, hg => rw [gw 0 (by decide) (by decide), atw 0 _ rfl] at hg; cases hg; rfl
        | 1, _, _, hg => rw [gw 1 (by decide) (by decide), atw 1 _ rfl] at hg; cases hg; rfl
        | 2, _, _, hg => rw [g2] at hg; cases hg; rfl
        | 3, _, _, hg => rw [gw 3 (by decide) (by decide), atw 3 _ rfl] at hg; cases hg; rfl
        | 4, _, e, _ => exact absurd rfl e
        | a + 5, h, _, _ => omega
      rw [this]
      exact fun h => by cases h
end
end
end Go.Proofs.YtgnkjmgkfibipaaGreatDoor

/- Words: Plan$1 puts the plan of its words, by induction. -/
namespace Go.Proofs.YtgnkjmgkfibipaaGreatDoor
set_option linter.unusedVariables false
set_option linter.unusedSimpArgs false
open Go Go.R
set_option maxRecDepth 1000000
noncomputable section
section
variable {n cap : Nat} {g : Nat → ByteArray}
def PutW (n cap : Nat) (g : Nat → ByteArray) (low high at_ : Nat) (C C' : List Nat) : Prop := Local Tryz.prog 4 60 (argsW low high at_) (hp (oWl n cap g C)) (IsSlotP 4 2 C'.length [] (litI C') (some 3) (some 22) (.tuple #[]) (hp (oWl n cap g C)))

/-- The second call. -/
theorem putW_last {low high at_ l : Nat} (hat : at_ < 1000) (hlh : l ≤ high) {C B : List Nat} {h0 : AH} (same : ∀ i, i < 4 → i ≠ 2 → (hp (oWl n cap g C)).get i = h0.get i) (hB0 : l = high → B = []) (IH : l < high → PutW n cap g l high (at_ + 1) C (C ++ B)) :
    Runs Tryz.prog 4 (behind 5 c71) (sth (SpW low high at_ l) 40 (oWl n cap g C)) (EndsAs Tryz.prog Tryz.f60 (IsSlotP 4 2 (C ++ B).length [] (litI (C ++ B)) (some 3) (some 22) (.tuple #[]) h0)) := by
  have m1 : Value.int .i64 (wrapF .i64 (Int.add (.ofNat at_) (.ofNat 1))) = i64 (at_ + 1) := by rw [wrap_succ (by omega)]; rfl
  by_cases e : l = high
  · subst e
    rw [hB0 rfl, List.append_nil]
    refine Runs.rg mixed hk38 [viaV 4 (i64 (at_ + 1)), viaC 5 60 (argsW l l (at_ + 1)) (.tuple #[])] (by kernel_rfl) (by kernel_rfl) (by kernel_rfl)
      (oblC (shown_eq (v := .int .i64 (wrapF .i64 (Int.add (.ofNat at_) (.ofNat 1)))) (by kernel_rfl) (by kernel_rfl) m1)
      (oblC (shown_callE (h0 := hp (oWl n cap g C)) (by kernel_rfl) (by kernel_rfl) (putW_zero l (at_ + 1) C)) oblN)) ?_
    refine ⟨.inl rfl, [], by kernel_rfl, rfl, 4, [], by decide, fun j hj h => (by cases h), by kernel_rfl, by kernel_rfl, fun i hi hne => ?_⟩
    rw [← same i hi hne]
    exact threeW_at (by kernel_rfl) i hi hne
  · have hS := putW_says (IH (by omega))
    refine Runs.rg mixed hk38 [viaV 4 (i64 (at_ + 1)), viaH 5 60 (argsW l high (at_ + 1)) (.tuple #[]) (HpW n cap g C (C ++ B))] (by kernel_rfl) (by kernel_rfl) (by kernel_rfl)
      (oblC (shown_eq (v := .int .i64 (wrapF .i64 (Int.add (.ofNat at_) (.ofNat 1)))) (by kernel_rfl) (by kernel_rfl) m1)
      (oblC (shown_callHE (h0 := hp (oWl n cap g C)) (by kernel_rfl) (by kernel_rfl) hS) oblN)) ?_
    refine ⟨.inl rfl, [], by kernel_rfl, rfl, 5, [], by decide, fun j hj h => (by cases h), by kernel_rfl, by kernel_rfl, fun i hi hne => ?_⟩
    rw [← same i hi hne]
    exact threeW_at (by kernel_rfl) i hi hne

/-- The first call. -/
theorem putW_first {low high at_ l : Nat} (hat : at_ < 1000) (hl1 : low < l) (hl2 : l < 1000) {C A : List Nat} {Q : AExit → AF → Prop} (hA0 : low = l - 1 → A = []) (IH : low < l - 1 → PutW n cap g low (l - 1) (at_ + 1) C (C ++ A))
    (next : Runs Tryz.prog 4 (behind 5 c71) (sth (SpW low high at_ l) 40 (oWl n cap g (C ++ A))) Q) : Runs Tryz.prog 4 (behind 4 c71) (sth (SpW low high at_ l) 40 (oWl n cap g C)) Q := by
  have m1 : Value.int .i64 (wrapF .i64 (Int.add (.ofNat at_) (.ofNat 1))) = i64 (at_ + 1) := by rw [wrap_succ (by omega)]; rfl
  have m2 : Value.int .i64 (wrapF .i64 (Int.sub (.ofNat l) (.ofNat 1))) = i64 (l - 1) := by rw [f_sub (by omega) (by omega)]; rfl
  by_cases e : low = l - 1
  · rw [hA0 e, List.append_nil] at next
    have hz := putW_zero (n := n) (cap := cap) (g := g) low (at_ + 1) C
    refine Runs.sqR mixed hk38 [viaV 3 (i64 low), viaV 5 (i64 (at_ + 1)), viaC 6 60 (argsW low low (at_ + 1)) (.tuple #[])] (by kernel_rfl) (by kernel_rfl) (by kernel_rfl)
      (oblC (shown_eq (v := .int .i64 (wrapF .i64 (Int.sub (.ofNat l) (.ofNat 1)))) (by kernel_rfl) (by kernel_rfl) (by rw [m2, ← e]))
      (oblC (shown_eq (v := .int .i64 (wrapF .i64 (Int.add (.ofNat at_) (.ofNat 1)))) (by kernel_rfl) (by kernel_rfl) m1)
      (oblC (shown_callE (h0 := hp (oWl n cap g C)) (by kernel_rfl) (by kernel_rfl) hz) oblN))) ?_
    exact Runs.less (af1 := sth (SpW low high at_ l) 40 (oWl n cap g C)) (less_seenP SpW_clo5 oWl_clo (show 4 ≤ 5 by decide) (by kernel_rfl) (by kernel_rfl) (by kernel_rfl) (by kernel_rfl)) next
  · have hS := putW_says (IH (by omega))
    refine Runs.sqR mixed hk38 [viaV 3 (i64 (l - 1)), viaV 5 (i64 (at_ + 1)), viaH 6 60 (argsW low (l - 1) (at_ + 1)) (.tuple #[]) (HpW n cap g C (C ++ A))] (by kernel_rfl) (by kernel_rfl) (by kernel_rfl)
      (oblC (shown_eq (v := .int .i64 (wrapF .i64 (Int.sub (.ofNat l) (.ofNat 1)))) (by kernel_rfl) (by kernel_rfl) m2)
      (oblC (shown_eq (v := .int .i64 (wrapF .i64 (Int.add (.ofNat at_) (.ofNat 1)))) (by kernel_rfl) (by kernel_rfl) m1)
      (oblC (shown_callHE (h0 := hp (oWl n cap g C)) (by kernel_rfl) (by kernel_rfl) hS) oblN))) ?_
    exact putW_next (q := 5) (m := (C ++ A).length) (C := C ++ A) (par := []) (by decide) rfl (rows := litI (C ++ A)) rfl (fun j hj h => (by cases h)) (by kernel_rfl) (by kernel_rfl) (by kernel_rfl) (by kernel_rfl) (by kernel_rfl) next
end
end
end Go.Proofs.YtgnkjmgkfibipaaGreatDoor

/- Words: Plan$1 puts the plan of its words: all of it. -/
namespace Go.Proofs.YtgnkjmgkfibipaaGreatDoor
set_option linter.unusedVariables false
set_option linter.unusedSimpArgs false
open Go Go.R
set_option maxRecDepth 1000000
noncomputable section
section
variable {n cap : Nat} {g : Nat → ByteArray}
theorem planW_none (f low at_ : Nat) : planW g f low low at_ = [] := by
  cases f with
  | zero => rfl
  | succ f => exact planW_one f low at_
def PutAll (n cap : Nat) (g : Nat → ByteArray) (f : Nat) : Prop := ∀ (p : ByteArray) (low high : Nat) (C : List Nat), InR n g (bl p) low high → low < high → high - low < f → C ≠ [] → C.length + (high - low) ≤ 1000 → PutW n cap g low high p.size C (C ++ planW g f low high p.size)
theorem neq_told {low high : Nat} (h : low < high) : Value.bool (eqF (.ofNat low) (.ofNat high)) = .bool false := by rw [eqF_eq, beq_eq_false_iff_ne.2 (fun e => by have := Int.ofNat.inj e; omega)]

/-- Behind the first trial put. -/
theorem putW_rest (W : WordsOk n g) {f : Nat} (IH : PutAll n cap g f) {p : ByteArray} {low high l : Nat} (h1 : low < l) (h2 : l ≤ high) (hhi : high < n) (RA : InR n g (bl (p ++ ⟨#[98]⟩)) low (l - 1)) (RB : InR n g (bl (p ++ ⟨#[115]⟩)) l high) (hf : high - low < f + 1) (hps : p.size ≤ 12)
    {C : List Nat} (hC : C ≠ []) (hlen : C.length + (high - low) ≤ 1001) {h0 : AH} (same : ∀ i, i < 4 → i ≠ 2 → (hp (oWl n cap g C)).get i = h0.get i) {D : List Nat} (hD : D = (C ++ planW g f low (l - 1) (p.size + 1)) ++ planW g f l high (p.size + 1)) :
    Runs Tryz.prog 4 (behind 4 c71) (sth (SpW low high p.size l) 40 (oWl n cap g C)) (EndsAs Tryz.prog Tryz.f60 (IsSlotP 4 2 D.length [] (litI D) (some 3) (some 22) (.tuple #[]) h0)) := by
  subst hD
  have h13 := W.hi
  have lA := planW_len W f _ _ _ RA (by omega)
  have lB := planW_len W f _ _ _ RB (by omega)
  rw [push_size] at lA lB
  refine putW_first (A := planW g f low (l - 1) (p.size + 1)) (by omega) h1 (by omega) (fun e => by rw [← e, planW_none]) (fun hlt => ?_) ?_
  · have := IH _ low (l - 1) C RA hlt (by omega) hC (by omega)
    rwa [push_size] at this
  · have hC1 : C ++ planW g f low (l - 1) (p.size + 1) ≠ [] := fun e => hC (List.append_eq_nil_iff.1 e).1
    refine putW_last (B := planW g f l high (p.size + 1)) (by omega) h2 (fun i hi hne => ?_) (fun e => by rw [e, planW_none]) (fun hlt => ?_)
    · rw [← same i hi hne]
      exact threeW_at (by kernel_rfl) i hi hne
    · have := IH _ l high _ RB hlt (by omega) hC1 (by rw [List.length_append]; omega)
      rwa [push_size] at this

theorem putW_body (W : WordsOk n g) {f : Nat} (IH : PutAll n cap g f) {p : ByteArray} {low high : Nat} (R : InR n g (bl p) low high) (hlt : low < high) (hf : high - low < f + 1) {C : List Nat} (hC : C ≠ []) (hlen : C.length + (high - low) ≤ 1000) :
    PutW n cap g low high p.size C (C ++ planW g (f + 1) low high p.size) := by
  have h13 := W.hi
  have hhi := R.hi
  have hps : p.size ≤ 12 := by
    have h1 := ((R.iff low (by omega)).2 ⟨Nat.le_refl _, R.le⟩).length_le
    rw [bl_len, bl_len] at h1
    have := W.sz low (by omega)
    omega
  obtain ⟨h1, h2, RA, RB, lb, ls⟩ := inR_split W R hlt (l := splitW g p.size (high + 1 - low) low) rfl
  have hdef : planW g (f + 1) low high p.size = splitW g p.size (high + 1 - low) low :: (planW g f low (splitW g p.size (high + 1 - low) low - 1) (p.size + 1) ++ planW g f (splitW g p.size (high + 1 - low) low) high (p.size + 1)) := by rw [planW, if_neg (by omega)]
  rw [hdef]
  generalize splitW g p.size (high + 1 - low) low = l at *
  rw [← bl_push] at RA RB
  refine local_of noNum Tryz.func60 (show Tryz.f60.body = some c71 by kernel_rfl) ?_
  refine Runs.sq (by kernel_rfl) (Runs.sqR mixed hk38 [viaV 2 (.bool false)] (by kernel_rfl) (by kernel_rfl) (by kernel_rfl) (oblC (shown_eq (v := .bool (eqF (.ofNat low) (.ofNat high))) (by kernel_rfl) (by kernel_rfl) (neq_told hlt)) oblN) ?_)
  refine Runs.cd (b := false) (by kernel_rfl) (fun h => by cases h) (fun _ => Runs.now (x := .normal) (by kernel_rfl) ?_)
  show Runs Tryz.prog 4 (behind 1 c71) _ _
  refine Runs.sqR mixed hk38 [] (by kernel_rfl) (by kernel_rfl) (by kernel_rfl) oblN ?_
  refine Runs.sq (by kernel_rfl) (Runs.bk (id := 0) (by kernel_rfl) ?_)
  refine Runs.less (af1 := sth (SpW low high p.size low) 40 (oWl n cap g C)) (less_seenP SpW_clo5 oWl_clo (show 4 ≤ 5 by decide) (by kernel_rfl) (by kernel_rfl) (by kernel_rfl) (by kernel_rfl)) ?_
  show Runs Tryz.prog 4 lp71 _ _
  refine (putW_loopL (at_ := p.size) C (by omega) (show l < n by omega) (fun j j1 j2 => inR_long W R hlt j1 (by omega)) (fun j j1 j2 => lb j j1 j2) (fun e => absurd ((ls l (Nat.le_refl l) h2).symm.trans e) (by decide)) (l - low) low (by omega) (Nat.le_refl _)).mono fun x af hx => ?_
  obtain ⟨rfl, less⟩ := hx
  show Runs Tryz.prog 4 (behind 3 c71) af _
  refine Runs.less less ?_
  let H1 : AH := ((hp (oWl n cap g C)).new (rowL [l])).2
  have hap := app_u (h := H1) (i0 := 4) (j := 5) (A := C) (B := [l]) (par := []) (lv2 := true) (par2 := []) (sp2 := none) (by simp) ⟨by omega, by simp⟩ (by kernel_rfl) (by kernel_rfl)
  refine Runs.sqR mixed hk38 [⟨3, .slice (some ⟨6, 0, some 1⟩) (C.length + 1) (C.length + 1), some ((H1.put 4 (.cells (litI C) false [] (some 3))).new (.cells (litI C ++ litI [l]) true [4] (some 3))).2, none⟩] (by kernel_rfl) (by kernel_rfl) (by kernel_rfl)
    (oblC (shown_put (x := appendA Tryz.prog #[22, 22] (.slice (some ⟨4, 0, some 1⟩) C.length C.length) (.slice (some ⟨5, 0, none⟩) 1 1) H1) (by kernel_rfl) (by kernel_rfl) hap) oblN) ?_
  refine putW_next (n := n) (cap := cap) (g := g) (low := low) (high := high) (at_ := p.size) (l := l) (q := 6) (m := C.length + 1) (C := C ++ [l]) (par := [4]) (rows := litI C ++ litI [l]) (by decide) (by simp) (by rw [litI_app]) (fun j hj h => by rw [List.mem_singleton] at h; omega) (by kernel_rfl) (by kernel_rfl) (by kernel_rfl) (by kernel_rfl) (by kernel_rfl) ?_
  exact putW_rest W IH h1 h2 hhi RA RB hf hps (by simp) (by rw [List.length_append]; show C.length + 1 + _ ≤ _; omega) (threeW_at (by kernel_rfl)) (by simp)
theorem putW_all (W : WordsOk n g) : ∀ f, PutAll n cap g f
  | 0 => fun p low high C R h1 h2 _ _ => by omega
  | f + 1 => fun p low high C R h1 h2 h3 h4 => putW_body W (putW_all W f) R h1 h2 h3 h4
end
end
end Go.Proofs.YtgnkjmgkfibipaaGreatDoor

/- Words: the first call of Plan$1: nothing is put yet. -/
namespace Go.Proofs.YtgnkjmgkfibipaaGreatDoor
set_option linter.unusedVariables false
set_option linter.unusedSimpArgs false
open Go Go.R
set_option maxRecDepth 1000000
noncomputable section
section
variable {n cap : Nat} {g : Nat → ByteArray}
theorem putW_start (W : WordsOk n g) {f : Nat} {p : ByteArray} {low high : Nat} (R : InR n g (bl p) low high) (hlt : low < high) (hf : high - low < f + 1) :
    Local Tryz.prog 4 60 (argsW low high p.size) (hp (oWn n cap g)) (IsSlotP 4 2 (planW g (f + 1) low high p.size).length [] (litI (planW g (f + 1) low high p.size)) (some 3) (some 22) (.tuple #[]) (hp (oWn n cap g))) := by
  have h13 := W.hi
  have hhi := R.hi
  have hps : p.size ≤ 12 := by
    have h1 := ((R.iff low (by omega)).2 ⟨Nat.le_refl _, R.le⟩).length_le
    rw [bl_len, bl_len] at h1
    have := W.sz low (by omega)
    omega
  obtain ⟨h1, h2, RA, RB, lb, ls⟩ := inR_split W R hlt (l := splitW g p.size (high + 1 - low) low) rfl
  have hdef : planW g (f + 1) low high p.size = splitW g p.size (high + 1 - low) low :: (planW g f low (splitW g p.size (high + 1 - low) low - 1) (p.size + 1) ++ planW g f (splitW g p.size (high + 1 - low) low) high (p.size + 1)) := by rw [planW, if_neg (by omega)]
  rw [hdef]
  generalize splitW g p.size (high + 1 - low) low = l at *
  rw [← bl_push] at RA RB
  refine local_of noNum Tryz.func60 (show Tryz.f60.body = some c71 by kernel_rfl) ?_
  refine Runs.sq (by kernel_rfl) (Runs.sqR mixed hk38 [viaV 2 (.bool false)] (by kernel_rfl) (by kernel_rfl) (by kernel_rfl) (oblC (shown_eq (v := .bool (eqF (.ofNat low) (.ofNat high))) (by kernel_rfl) (by kernel_rfl) (neq_told hlt)) oblN) ?_)
  refine Runs.cd (b := false) (by kernel_rfl) (fun h => by cases h) (fun _ => Runs.now (x := .normal) (by kernel_rfl) ?_)
  show Runs Tryz.prog 4 (behind 1 c71) _ _
  refine Runs.sqR mixed hk38 [] (by kernel_rfl) (by kernel_rfl) (by kernel_rfl) oblN ?_
  refine Runs.sq (by kernel_rfl) (Runs.bk (id := 0) (by kernel_rfl) ?_)
  refine Runs.less (af1 := sth (SpW low high p.size low) 40 (oWn n cap g)) (less_seenP SpW_clo4 oWn_clo (show 4 ≤ 4 by decide) (by kernel_rfl) (by kernel_rfl) (by kernel_rfl) (by kernel_rfl)) ?_
  show Runs Tryz.prog 4 lp71 _ _
  refine (putW_loopN (at_ := p.size) (by omega) (show l < n by omega) (fun j j1 j2 => inR_long W R hlt j1 (by omega)) (fun j j1 j2 => lb j j1 j2) (fun e => absurd ((ls l (Nat.le_refl l) h2).symm.trans e) (by decide)) (l - low) low (by omega) (Nat.le_refl _)).mono fun x af hx => ?_
  obtain ⟨rfl, less⟩ := hx
  show Runs Tryz.prog 4 (behind 3 c71) af _
  refine Runs.less less ?_
  refine Runs.sqR mixed hk38 [] (by kernel_rfl) (by kernel_rfl) (by kernel_rfl) oblN ?_
  refine putW_next (n := n) (cap := cap) (g := g) (low := low) (high := high) (at_ := p.size) (l := l) (q := 5) (m := 1) (C := [l]) (par := []) (rows := litI [l]) (by decide) rfl rfl (fun j hj h => by cases h) (by kernel_rfl) (by kernel_rfl) (by kernel_rfl) (by kernel_rfl) (by kernel_rfl) ?_
  exact putW_rest W (putW_all W f) h1 h2 hhi RA RB hf hps (by simp) (by show 1 + _ ≤ _; omega) (threeW_at (by kernel_rfl)) (by simp)
end
end
end Go.Proofs.YtgnkjmgkfibipaaGreatDoor

/- Words: the first call of Plan$1, told; both checks told at any heap. -/
namespace Go.Proofs.YtgnkjmgkfibipaaGreatDoor
set_option linter.unusedVariables false
set_option linter.unusedSimpArgs false
open Go Go.R
set_option maxRecDepth 1000000
noncomputable section
section
variable {n cap : Nat} {g : Nat → ByteArray}
noncomputable def HpW0 (n cap : Nat) (g : Nat → ByteArray) (C : List Nat) : AH := (((hp (oWn n cap g)).put 2 (.cells [rowA 4 C.length] true [] (some 22))).new (rowL C)).2
theorem putW_whole {low high at_ : Nat} {C : List Nat} (L : Local Tryz.prog 4 60 (argsW low high at_) (hp (oWn n cap g)) (IsSlotP 4 2 C.length [] (litI C) (some 3) (some 22) (.tuple #[]) (hp (oWn n cap g)))) :
    Says Tryz.prog (hp (oWn n cap g)) 60 (argsW low high at_) (.tuple #[]) (HpW0 n cap g C) := by
  have e : ∀ i, i < 4 → i ≠ 2 → (HpW0 n cap g C).get i = (hp (oWn n cap g)).get i := threeW_at (by kernel_rfl)
  refine slot_saysP (h := hp (oWn n cap g)) (h1 := HpW0 n cap g C) (slot := 2) (k := 4) (n := C.length) (pre := []) (cells := litI C) (ty := some 3) (tc := some 22) L rfl (fun u hu => by cases hu) (by decide) (show 4 ≤ 4 by decide) (fun i hi hne => ?_) ⟨4, ptrC 2, by kernel_rfl, Born.ptr 2 0⟩ (fun i hi1 hi2 => ?_)
    (by kernel_rfl) e (by kernel_rfl) (fun i hi1 hi2 => ?_) (by kernel_rfl) (litI_plain C)
  · match i, hi, hne with
    | 0, _, _ => exact ⟨strsV n g, false, none, by kernel_rfl, fun v hv => clo_plain (strsV_plain n g v hv)⟩
    | 1, _, _ => exact ⟨[slV n cap], true, some 30, by kernel_rfl, (cellsW_clo (k := 4) (c := [slV n cap]) (ty := none) (by kernel_rfl)).1⟩
    | 2, _, hne => exact absurd rfl hne
    | 3, _, _ => exact ⟨[putW], true, some 74, by kernel_rfl, (cellsW_clo (k := 4) (c := [putW]) (ty := none) (by kernel_rfl)).1⟩
    | i + 4, hi, _ => omega
  · have hi2' : i < 4 := hi2
    omega
  · have hi2' : i < 4 := hi2
    omega
theorem read_at (hc : n ≤ cap) {h : AH} (hg : h.get 0 = viewS n g) : Says Tryz.prog h 59 [slV n cap] (i64 (readN n g)) h :=
  tell_flat (pre := []) (post := []) (i := 0) (o := 0) (n := n) (s := slV n cap) (c := strsV n g) (cells := strsV n g) (lv := false) (par := []) (ty := none) (R := fun v' _ => v' = i64 (readN n g)) (fun cap' hc' => local_one (read_says hc') (Nat.le_refl 1))
    (fun v' h' r => r) rfl hg (fun k u hk => by rw [Nat.zero_add]; exact hk) (by rw [Nat.zero_add]; exact Nat.le_refl _) (strsV_plain n g) (view_at hc) (fun v hv => by cases hv) (fun v hv => by cases hv)
end
end
end Go.Proofs.YtgnkjmgkfibipaaGreatDoor
