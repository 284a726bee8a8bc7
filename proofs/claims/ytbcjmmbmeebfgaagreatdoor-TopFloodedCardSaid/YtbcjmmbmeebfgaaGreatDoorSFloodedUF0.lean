/- drain's list: the bits of a set, as a contract (the code of seam's). -/
import Derived.Test.YtbcjmmbmeebfgaaGreatDoorSFloodedUG10
namespace Go.Proofs.YtbcjmmbmeebfgaaGreatDoor
set_option linter.unusedVariables false
set_option linter.unusedSimpArgs false
open Go Go.R
set_option maxRecDepth 1000000
noncomputable section

/-! ### list -/
noncomputable def c26 : Code := bodyOf Tryz.f26
noncomputable def lp26 : Code := within (hd (behind 2 c26))
noncomputable def S26 (s m : Nat) : List (Nat × Value) := [(0, u64 s), (3, slR 0 m)]

theorem dlist_loop : ∀ (n s : Nat) (pre : List Nat), s ≤ n → s < 18446744073709551616 → pre.length + (bitsN s).length < 1000 → Runs Tryz.prog 0 lp26 (sth (S26 s pre.length) 16 [rowN pre]) fun e af => e = .exit 0 ∧ Less 0 (sth [(3, slR 0 (pre ++ bitsN s).length)] 16 [rowN (pre ++ bitsN s)]) af := by
  intro n
  induction n with
  | zero =>
    intro s pre hsn hs hl
    have : s = 0 := by omega
    subst this
    refine Runs.lp (by kernel_rfl) (Runs.sq (by kernel_rfl) (Runs.sqR mixed hkU [] (by kernel_rfl) (by kernel_rfl) (by kernel_rfl) oblN ?_))
    refine Runs.cd (b := false) (by kernel_rfl) (fun ht => by cases ht) (fun _ => Runs.now (x := .exit 0) (by kernel_rfl) ⟨rfl, ?_⟩)
    rw [bits_zero, List.append_nil]
    exact less_seenP (clo_all (k := 1) (by kernel_rfl)) (fun x hx => by rw [List.mem_singleton.1 hx]; exact rowN_clo) (Nat.zero_le 1) (by kernel_rfl) (by kernel_rfl) (by kernel_rfl) (by kernel_rfl)
  | succ n ih =>
    intro s pre hsn hs hl
    by_cases h0 : s = 0
    · exact ih s pre (by omega) hs hl
    have hst := bits_step h0 hs
    have hlen : pre.length < 1000 := by omega
    refine Runs.lp (by kernel_rfl) (Runs.sq (by kernel_rfl) (Runs.sqR mixed hkU [viaV 1 (.bool true)] (by kernel_rfl) (by kernel_rfl) (by kernel_rfl) (oblC (shown_eq (v := .bool (!(eqF (.ofNat s) (.ofNat 0)))) (by kernel_rfl) (by kernel_rfl) (by rw [neq_zero h0])) oblN) ?_))
    refine Runs.cd (b := true) (by kernel_rfl) (fun _ => Runs.now (x := .normal) (by kernel_rfl) ?_) (fun hf => by cases hf)
    show Runs Tryz.prog 0 _ _ _
    refine Runs.sq (by kernel_rfl) (Runs.bk (id := 1) (by kernel_rfl) ?_)
    let H0 : AH := hp [rowN pre]
    let H1 : AH := (H0.new (.cells [i64 (tz s)] true [] (some 3))).2
    have hap := push_gen (st := 37) (e := 3) (z := 0) (by kernel_rfl) int_info (h := H1) (i := 0) (j := 1) (x := [i64 (tz s)]) (c := natsC pre) (m := pre.length) (par := []) rfl rfl (by rw [natsC_len]; omega) (by omega) (by kernel_rfl) (by kernel_rfl)
    refine Runs.rg mixed hkU [viaC 2 52 [u64 s] (i64 (tz s)), ⟨4, slR 2 (pre.length + 1), some ((H1.put 0 (.cells (natsC pre) false [] (some 3))).new (.cells (natsC pre ++ [i64 (tz s)]) true [0] (some 3))).2, none⟩] (by kernel_rfl) (by kernel_rfl) (by kernel_rfl)
      (oblC (shown_call (by kernel_rfl) (tz_says hs _)) (oblC ⟨by kernel_rfl, (show _ = appendA Tryz.prog #[37, 37] (.slice (some ⟨0, 0, some 1⟩) pre.length pre.length) (.slice (some ⟨1, 0, none⟩) 1 1) H1 by kernel_rfl).trans hap⟩ oblN)) ?_
    show Runs Tryz.prog 0 _ _ _
    refine Runs.rg mixed hkU [viaV 2 (u64 (s - 1)), viaV 3 (u64 (s &&& (s - 1)))] (by kernel_rfl) (by kernel_rfl) (by kernel_rfl)
      (oblC ⟨by kernel_rfl, (show _ = (intBin .sub .u64 (.ofNat s) (.ofNat 1)).map (·, _) by kernel_rfl).trans (by rw [pred64 h0 hs]; rfl)⟩ (oblC ⟨by kernel_rfl, (show _ = (intBin .and .u64 (.ofNat s) (.ofNat (s - 1))).map (·, _) by kernel_rfl).trans (by rw [and64 hs (by omega)]; rfl)⟩ oblN)) ?_
    show Runs Tryz.prog 0 lp26 _ _
    have el : (pre ++ [tz s]).length = pre.length + 1 := by simp
    refine Runs.renumK (sz := 16) (l := S26 (s &&& (s - 1)) (pre ++ [tz s]).length) (os := [rowN (pre ++ [tz s])]) (fun j => match j with | 0 => 2 | j => j) (fun j => match j with | 2 => 0 | j => j) (by kernel_rfl) (Nat.zero_le 1) (by kernel_rfl) ⟨fun h => (by cases h), trivial⟩ (by kernel_rfl) (by kernel_rfl) (by rw [el]; exact Eq.trans (Eq.refl _) (by kernel_rfl)) (by kernel_rfl)
      ⟨obs_rowN (p := [0]) (c := natsC pre ++ [i64 (tz s)]) (by kernel_rfl) (natsC_app pre [tz s]), trivial⟩ ?_
    have hlt := and_less h0
    have := ih (s &&& (s - 1)) (pre ++ [tz s]) (by omega) (by omega) (by rw [el]; rw [hst] at hl; simp at hl; omega)
    rw [List.append_assoc, List.singleton_append, ← hst] at this
    exact this

theorem dlist_local0 : Local Tryz.prog 0 26 [u64 0] AH.empty fun v' _ => v' = .slice none 0 0 := by
  refine local_of noNum Tryz.func26 (show Tryz.f26.body = some c26 by kernel_rfl) ?_
  exact Runs.last mixed hkU (n := 20) (Nat.zero_le _) (by kernel_rfl)

theorem dlist_local {s : Nat} (h0 : s ≠ 0) (hs : s < 18446744073709551616) : Local Tryz.prog 0 26 [u64 s] AH.empty (rowIsC (fun s => s) 0 (bitsN s).length (natsC (bitsN s)) (some 3)) := by
  refine local_of noNum Tryz.func26 (show Tryz.f26.body = some c26 by kernel_rfl) ?_
  refine Runs.sqR mixed hkU [] (by kernel_rfl) (by kernel_rfl) (by kernel_rfl) oblN ?_
  refine Runs.sqR mixed hkU [] (by kernel_rfl) (by kernel_rfl) (by kernel_rfl) oblN ?_
  refine Runs.sq (by kernel_rfl) (Runs.bk (id := 0) (by kernel_rfl) ?_)
  have hst := bits_step h0 hs
  refine Runs.lp (by kernel_rfl) (Runs.sq (by kernel_rfl) (Runs.sqR mixed hkU [viaV 1 (.bool true)] (by kernel_rfl) (by kernel_rfl) (by kernel_rfl) (oblC (shown_eq (v := .bool (!(eqF (.ofNat s) (.ofNat 0)))) (by kernel_rfl) (by kernel_rfl) (by rw [neq_zero h0])) oblN) ?_))
  refine Runs.cd (b := true) (by kernel_rfl) (fun _ => Runs.now (x := .normal) (by kernel_rfl) ?_) (fun hf => by cases hf)
  show Runs Tryz.prog 0 _ _ _
  refine Runs.sq (by kernel_rfl) (Runs.bk (id := 1) (by kernel_rfl) ?_)
  refine Runs.rg mixed hkU [viaC 2 52 [u64 s] (i64 (tz s))] (by kernel_rfl) (by kernel_rfl) (by kernel_rfl) (oblC (shown_call (by kernel_rfl) (tz_says hs _)) oblN) ?_
  show Runs Tryz.prog 0 _ _ _
  refine Runs.rg mixed hkU [viaV 2 (u64 (s - 1)), viaV 3 (u64 (s &&& (s - 1)))] (by kernel_rfl) (by kernel_rfl) (by kernel_rfl)
    (oblC ⟨by kernel_rfl, (show _ = (intBin .sub .u64 (.ofNat s) (.ofNat 1)).map (·, _) by kernel_rfl).trans (by rw [pred64 h0 hs]; rfl)⟩ (oblC ⟨by kernel_rfl, (show _ = (intBin .and .u64 (.ofNat s) (.ofNat (s - 1))).map (·, _) by kernel_rfl).trans (by rw [and64 hs (by omega)]; rfl)⟩ oblN)) ?_
  show Runs Tryz.prog 0 lp26 _ _
  refine Runs.renumK (sz := 16) (l := S26 (s &&& (s - 1)) 1) (os := [rowN [tz s]]) (fun j => match j with | 0 => 1 | j => j) (fun j => match j with | 1 => 0 | j => j) (by kernel_rfl) (Nat.zero_le 1) (by kernel_rfl) ⟨fun h => (by cases h), trivial⟩ (by kernel_rfl) (by kernel_rfl) (by kernel_rfl) (by kernel_rfl)
    ⟨obs_rowN (p := []) (c := [i64 (tz s)]) (by kernel_rfl) rfl, trivial⟩ ?_
  have hlt := and_less h0
  have hb := bits_len s
  rw [hst] at hb
  simp at hb
  refine (dlist_loop (s &&& (s - 1)) (s &&& (s - 1)) [tz s] (Nat.le_refl _) (by omega) (by simp; omega)).mono fun e af hx => ?_
  obtain ⟨rfl, less⟩ := hx
  rw [List.singleton_append, ← hst] at less
  show Runs Tryz.prog 0 _ af _
  refine Runs.less less ?_
  refine Runs.sqR mixed hkU [] (by kernel_rfl) (by kernel_rfl) (by kernel_rfl) oblN ?_
  exact Runs.now (x := .ret) (by kernel_rfl) ⟨.inr rfl, [slR 0 (bitsN s).length], by kernel_rfl, 0, [], .inl rfl, by kernel_rfl⟩

theorem dlist_none (h : AH) : Says Tryz.prog h 26 [u64 0] (.slice none 0 0) h := says_here dlist_local0 (fun x hx => by rw [List.mem_singleton.1 hx]; rfl) rfl h
theorem dlist_says {s : Nat} (h0 : s ≠ 0) (hs : s < 18446744073709551616) (h : AH) : Says Tryz.prog h 26 [u64 s] (slR h.next (bitsN s).length) (h.new (rowN (bitsN s))).2 :=
  tellN (m := 0) (z := 0) (C := fun _ => [u64 s]) (D := fun s => s) (vs := []) (ss := []) (c0_ok (fun x hx => by rw [List.mem_singleton.1 hx]; rfl)) resId rfl (fun caps _ => dlist_local h0 hs) (by rw [natsC_len]; omega) (natsC_plain _) trivial
end
end Go.Proofs.YtbcjmmbmeebfgaaGreatDoor

/- drain: leaves, and what gets away (dry), as contracts. -/
namespace Go.Proofs.YtbcjmmbmeebfgaaGreatDoor
set_option linter.unusedVariables false
set_option linter.unusedSimpArgs false
open Go Go.R
set_option maxRecDepth 1000000
noncomputable section

/-! ### Pipes -/
noncomputable def pipesC (l : List (Nat × Nat)) : List Value := l.flatMap fun p => [i64 p.1, i64 p.2, i64 1]
noncomputable def piV (p : Nat × Nat) : Value := .agg #[i64 p.1, i64 p.2, i64 1]
theorem pipesC_len (l : List (Nat × Nat)) : (pipesC l).length = l.length * 3 := by
  unfold pipesC
  induction l with
  | nil => rfl
  | cons x l ih => rw [List.flatMap_cons, List.length_append, ih]; simp; omega
theorem pipesC_app (l : List (Nat × Nat)) (p : Nat × Nat) : pipesC l ++ [i64 p.1, i64 p.2, i64 1] = pipesC (l ++ [p]) := by simp [pipesC]
theorem pipesC_plain {l : List (Nat × Nat)} : ∀ x ∈ pipesC l, plainV x = true := fun x hx => by
  obtain ⟨i, _, hx⟩ := List.mem_flatMap.1 hx
  simp only [List.mem_cons, List.mem_nil_iff, or_false] at hx
  rcases hx with rfl | rfl | rfl <;> rfl
theorem pipesC_drop (l : List (Nat × Nat)) : ∀ (i : Nat) (p : Nat × Nat), l[i]? = some p → ((pipesC l).drop (i * 3)).take 3 = [i64 p.1, i64 p.2, i64 1] := by
  induction l with
  | nil => intro i x h; cases h
  | cons y l ih =>
    intro i x h
    cases i with
    | zero => cases h; rfl
    | succ i =>
      have := ih i x (by simpa using h)
      rw [show (i + 1) * 3 = i * 3 + 3 by omega]
      exact this
theorem pipesC_at {h : AH} {q i : Nat} {p : Nat × Nat} {l : List (Nat × Nat)} {lv : Bool} {par : List Nat} {ty : Option TypeId} (hg : h.get q = .cells (pipesC l) lv par ty) (hx : l[i]? = some p) : rowAt? h q (0 + i * 3) 3 = some [i64 p.1, i64 p.2, i64 1] := by
  have hlt : i < l.length := (List.getElem?_eq_some_iff.1 hx).1
  rw [row_at hg (by rw [pipesC_len]; omega), Nat.zero_add, pipesC_drop l i p hx]
noncomputable def viewD (l : List (Nat × Nat)) : AObj := viewC (pipesC l)
theorem viewD1 {l : List (Nat × Nat)} : ∀ o ∈ [viewD l], CloO 1 o := fun o ho => by rw [List.mem_singleton.1 ho]; exact cloO_plain pipesC_plain _ _
noncomputable def dhV (n : Nat) (s : Value) : Value := .agg #[i64 n, s]
noncomputable def dhO (n m cap : Nat) : AObj := .cells [i64 n, smallS 0 m cap] true [] (some 32)
theorem dhO_clo {k n m cap : Nat} (h : 0 < k) : CloO k (dhO n m cap) := ⟨fun v hv => by
  simp only [List.mem_cons, List.mem_nil_iff, or_false] at hv
  rcases hv with rfl | rfl
  · exact clo_plain rfl
  · refine clo_of 10 k _ ?_
    show (plainV _ || Nat.blt 0 k) = true
    rw [Bool.or_eq_true]; exact .inr (by rw [Nat.blt_eq]; exact h), fun j hj => by cases hj⟩
noncomputable def OD (n m cap : Nat) (l : List (Nat × Nat)) : List AObj := [viewD l, dhO n m cap]
theorem od_clo {n m cap : Nat} {l : List (Nat × Nat)} : ∀ o ∈ OD n m cap l, CloO 2 o := fun o ho => by
  simp only [OD, List.mem_cons, List.mem_nil_iff, or_false] at ho
  rcases ho with rfl | rfl
  · exact cloO_plain pipesC_plain _ _
  · exact dhO_clo (by decide)

/-! ### Bits of a number -/
theorem shr64 {g a : Nat} (ha : a < 64) : shiftA .shr .u64 (.ofNat g) (.ofNat a) = some (u64 (g / 2 ^ a)) := by
  unfold shiftA
  rw [if_neg (by show ¬ ((a : Int) < 0); omega)]
  have e : min (Int.ofNat a).toNat IntKind.u64.bits = a := by show min a 64 = a; omega
  show some (Value.int .u64 (Int.fdiv (.ofNat g) (2 ^ (min (Int.ofNat a).toNat IntKind.u64.bits)))) = _
  rw [e]
  have : Int.fdiv (.ofNat g) ((2 : Int) ^ a) = .ofNat (g / 2 ^ a) := by
    have h2 : ((2 : Int) ^ a) = ((2 ^ a : Nat) : Int) := by simp
    rw [h2, Int.fdiv_eq_ediv_of_nonneg _ (Int.natCast_nonneg _)]
    exact (Int.natCast_ediv g (2 ^ a)).symm
  rw [this]
  rfl
theorem and_one {x : Nat} (h : x < 18446744073709551616) : intBin .and .u64 (.ofNat x) (.ofNat 1) = some (u64 (x % 2)) := by
  rw [and64 h (by decide), Nat.and_one_is_mod]
theorem bit_one {g a : Nat} : eqF (.ofNat (g / 2 ^ a % 2)) (.ofNat 1) = g.testBit a := by
  rw [eqF_nat, Nat.testBit_eq_decide_div_mod_eq, Bool.eq_iff_iff, decide_eq_true_iff]
  exact ⟨Nat.eq_of_beq_eq_true, fun h => by rw [h]; rfl⟩
theorem bit_zero {g a : Nat} : eqF (.ofNat (g / 2 ^ a % 2)) (.ofNat 0) = !(g.testBit a) := by
  rw [eqF_nat, Nat.testBit_eq_decide_div_mod_eq]
  have : g / 2 ^ a % 2 = 0 ∨ g / 2 ^ a % 2 = 1 := by omega
  rcases this with h | h <;> rw [h] <;> rfl
end
end Go.Proofs.YtbcjmmbmeebfgaaGreatDoor

/- drain: leaves, dry, as contracts. -/
namespace Go.Proofs.YtbcjmmbmeebfgaaGreatDoor
set_option linter.unusedVariables false
set_option linter.unusedSimpArgs false
open Go Go.R
set_option maxRecDepth 1000000
noncomputable section
theorem p64 {i : Nat} (hi : i < 64) : 2 ^ i < 18446744073709551616 := Nat.lt_of_lt_of_le (Nat.pow_lt_pow_right (by decide : 1 < 2) hi) (by decide)

/-! ### leaves -/
noncomputable def lvN (g : Nat) (l : List (Nat × Nat)) : Nat → Nat
  | 0 => 0
  | i + 1 => match l[i]? with
    | some p => if g.testBit p.1 && !(g.testBit p.2) then lvN g l i ||| 2 ^ i else lvN g l i
    | none => lvN g l i
theorem lvN_lt (g : Nat) (l : List (Nat × Nat)) : ∀ i, i ≤ 64 → lvN g l i < 18446744073709551616
  | 0, _ => by unfold lvN; decide
  | i + 1, h => by
    have ih := lvN_lt g l i (by omega)
    unfold lvN
    split
    · split
      · exact Nat.or_lt_two_pow (n := 64) ih (p64 (by omega))
      · exact ih
    · exact ih
noncomputable def c31 : Code := bodyOf Tryz.f31
noncomputable def lp31 : Code := within (tl (hd (behind 2 c31)))
noncomputable def S31 (g m cap i a : Nat) : List (Nat × Value) := [(1, u64 g), (5, u64 a), (9, smallS 0 m cap), (10, i64 m), (11, i64 i)]
theorem leaves_loop {g m cap : Nat} {l : List (Nat × Nat)} (hg : g < 18446744073709551616) (hl : l.length = m) (hm : m < 60) (hn : ∀ p ∈ l, p.1 < 64 ∧ p.2 < 64) : ∀ d i, i + d = m →
    Runs Tryz.prog 1 lp31 (sth (S31 g m cap i (lvN g l i)) 36 [viewD l]) fun e af => e = .exit 0 ∧ Less 1 (sth [(5, u64 (lvN g l m))] 36 [viewD l]) af := by
  intro d
  induction d with
  | zero =>
    intro i hi
    have e : i = m := by omega
    subst e
    refine Runs.lp (by kernel_rfl) (Runs.sqR mixed hkU [] (by kernel_rfl) (by kernel_rfl) (by kernel_rfl) oblN (Runs.sq (by kernel_rfl) ?_))
    refine Runs.cd (b := ltF (.ofNat i) (.ofNat i)) (by kernel_rfl) (fun ht => by rw [lt_self] at ht; cases ht) (fun _ => Runs.now (x := .exit 0) (by kernel_rfl) ⟨rfl, ?_⟩)
    exact less_seenP (clo_all (k := 1) (by kernel_rfl)) viewD1 (Nat.le_refl 1) (by kernel_rfl) (by kernel_rfl) (by kernel_rfl) (by kernel_rfl)
  | succ d ih =>
    intro i hi
    have hlt : i < m := by omega
    obtain ⟨p, hp⟩ : ∃ p, l[i]? = some p := ⟨l[i], List.getElem?_eq_getElem (by omega)⟩
    obtain ⟨h1, h2⟩ := hn p (List.mem_of_getElem? hp)
    have hr := ih (i + 1) (by omega)
    have hacc := lvN_lt g l i (by omega)
    have e : lvN g l (i + 1) = if g.testBit p.1 && !(g.testBit p.2) then lvN g l i ||| 2 ^ i else lvN g l i := by rw [lvN, hp]
    rw [e] at hr
    refine Runs.lp (by kernel_rfl) (Runs.sqR mixed hkU [] (by kernel_rfl) (by kernel_rfl) (by kernel_rfl) oblN (Runs.sq (by kernel_rfl) ?_))
    refine Runs.cd (b := ltF (.ofNat i) (.ofNat m)) (by kernel_rfl) (fun _ => Runs.now (x := .normal) (by kernel_rfl) ?_) (fun hf => by rw [lt_of hlt] at hf; cases hf)
    show Runs Tryz.prog 1 _ _ _
    refine Runs.sq (by kernel_rfl) (Runs.bk (id := 1) (by kernel_rfl) ?_)
    refine Runs.sqR mixed hkU [viaV 1 (.pointer (some ⟨0, 0 + i * 3, none⟩)), viaV 2 (piV p)] (by kernel_rfl) (by kernel_rfl) (by kernel_rfl)
      (oblC (shown_idx (n := m) (by kernel_rfl) hlt) (oblC (shown_agg (by kernel_rfl) (pipesC_at (q := 0) (l := l) (lv := false) (par := []) (ty := none) (by kernel_rfl) hp)) oblN)) ?_
    have hd1 : g / 2 ^ p.1 < 18446744073709551616 := Nat.lt_of_le_of_lt (Nat.div_le_self _ _) hg
    have hd2 : g / 2 ^ p.2 < 18446744073709551616 := Nat.lt_of_le_of_lt (Nat.div_le_self _ _) hg
    cases b1 : g.testBit p.1 with
    | false =>
      rw [b1] at hr
      refine Runs.sqR mixed hkU [viaV 3 (u64 (g / 2 ^ p.1)), viaV 4 (u64 (g / 2 ^ p.1 % 2)), viaV 5 (.bool false)] (by kernel_rfl) (by kernel_rfl) (by kernel_rfl)
        (oblC ⟨by kernel_rfl, (show _ = (shiftA .shr .u64 (.ofNat g) (.ofNat p.1)).map (·, _) by kernel_rfl).trans (by rw [shr64 h1]; rfl)⟩
        (oblC ⟨by kernel_rfl, (show _ = (intBin .and .u64 (.ofNat (g / 2 ^ p.1)) (.ofNat 1)).map (·, _) by kernel_rfl).trans (by rw [and_one hd1]; rfl)⟩
        (oblC (shown_eq (v := .bool (eqF (.ofNat (g / 2 ^ p.1 % 2)) (.ofNat 1))) (by kernel_rfl) (by kernel_rfl) (by rw [bit_one, b1])) oblN))) ?_
      refine Runs.cd (b := false) (by kernel_rfl) (fun h => by cases h) (fun _ => Runs.now (x := .normal) (by kernel_rfl) ?_)
      show Runs Tryz.prog 1 _ _ _
      refine Runs.rg mixed hkU [viaV 0 (i64 (i + 1))] (by kernel_rfl) (by kernel_rfl) (by kernel_rfl) (oblC (shown_eq (v := .int .i64 (wrapF .i64 (Int.add (.ofNat i) (.ofNat 1)))) (by kernel_rfl) (by kernel_rfl) (by rw [wrap_succ (by omega)]; rfl)) oblN) ?_
      show Runs Tryz.prog 1 lp31 _ _
      exact Runs.less (af1 := sth (S31 g m cap (i + 1) (lvN g l i)) 36 [viewD l]) (less_seenP (clo_all (k := 1) (by kernel_rfl)) viewD1 (Nat.le_refl 1) (by kernel_rfl) (by kernel_rfl) (by kernel_rfl) (by kernel_rfl)) hr
    | true =>
      rw [b1, Bool.true_and] at hr
      refine Runs.sqR mixed hkU [viaV 3 (u64 (g / 2 ^ p.1)), viaV 4 (u64 (g / 2 ^ p.1 % 2)), viaV 5 (.bool true), viaV 10 (u64 (g / 2 ^ p.2)), viaV 11 (u64 (g / 2 ^ p.2 % 2)), viaV 12 (.bool (!(g.testBit p.2)))] (by kernel_rfl) (by kernel_rfl) (by kernel_rfl)
        (oblC ⟨by kernel_rfl, (show _ = (shiftA .shr .u64 (.ofNat g) (.ofNat p.1)).map (·, _) by kernel_rfl).trans (by rw [shr64 h1]; rfl)⟩
        (oblC ⟨by kernel_rfl, (show _ = (intBin .and .u64 (.ofNat (g / 2 ^ p.1)) (.ofNat 1)).map (·, _) by kernel_rfl).trans (by rw [and_one hd1]; rfl)⟩
        (oblC (shown_eq (v := .bool (eqF (.ofNat (g / 2 ^ p.1 % 2)) (.ofNat 1))) (by kernel_rfl) (by kernel_rfl) (by rw [bit_one, b1]))
        (oblC ⟨by kernel_rfl, (show _ = (shiftA .shr .u64 (.ofNat g) (.ofNat p.2)).map (·, _) by kernel_rfl).trans (by rw [shr64 h2]; rfl)⟩
        (oblC ⟨by kernel_rfl, (show _ = (intBin .and .u64 (.ofNat (g / 2 ^ p.2)) (.ofNat 1)).map (·, _) by kernel_rfl).trans (by rw [and_one hd2]; rfl)⟩
        (oblC (shown_eq (v := .bool (eqF (.ofNat (g / 2 ^ p.2 % 2)) (.ofNat 0))) (by kernel_rfl) (by kernel_rfl) (by rw [bit_zero])) oblN)))))) ?_
      refine Runs.cd (b := !(g.testBit p.2)) (by kernel_rfl) (fun ht => ?_) (fun hf => Runs.now (x := .normal) (by kernel_rfl) ?_)
      · rw [if_pos ht] at hr
        refine Runs.rg mixed hkU [viaV 2 (u64 (2 ^ i)), viaV 3 (u64 (lvN g l i ||| 2 ^ i))] (by kernel_rfl) (by kernel_rfl) (by kernel_rfl)
          (oblC ⟨by kernel_rfl, (show _ = (shiftA .shl .u64 1 (.ofNat i)).map (·, _) by kernel_rfl).trans (by rw [bit64 (by omega)]; rfl)⟩
          (oblC ⟨by kernel_rfl, (show _ = (intBin .or .u64 (.ofNat (lvN g l i)) (.ofNat (2 ^ i))).map (·, _) by kernel_rfl).trans (by rw [or64 hacc (p64 (by omega))]; rfl)⟩ oblN)) ?_
        show Runs Tryz.prog 1 _ _ _
        refine Runs.rg mixed hkU [viaV 0 (i64 (i + 1))] (by kernel_rfl) (by kernel_rfl) (by kernel_rfl) (oblC (shown_eq (v := .int .i64 (wrapF .i64 (Int.add (.ofNat i) (.ofNat 1)))) (by kernel_rfl) (by kernel_rfl) (by rw [wrap_succ (by omega)]; rfl)) oblN) ?_
        show Runs Tryz.prog 1 lp31 _ _
        exact Runs.less (af1 := sth (S31 g m cap (i + 1) (lvN g l i ||| 2 ^ i)) 36 [viewD l]) (less_seenP (clo_all (k := 1) (by kernel_rfl)) viewD1 (Nat.le_refl 1) (by kernel_rfl) (by kernel_rfl) (by kernel_rfl) (by kernel_rfl)) hr
      · rw [if_neg (by rw [hf]; exact Bool.false_ne_true)] at hr
        show Runs Tryz.prog 1 _ _ _
        refine Runs.rg mixed hkU [viaV 0 (i64 (i + 1))] (by kernel_rfl) (by kernel_rfl) (by kernel_rfl) (oblC (shown_eq (v := .int .i64 (wrapF .i64 (Int.add (.ofNat i) (.ofNat 1)))) (by kernel_rfl) (by kernel_rfl) (by rw [wrap_succ (by omega)]; rfl)) oblN) ?_
        show Runs Tryz.prog 1 lp31 _ _
        exact Runs.less (af1 := sth (S31 g m cap (i + 1) (lvN g l i)) 36 [viewD l]) (less_seenP (clo_all (k := 1) (by kernel_rfl)) viewD1 (Nat.le_refl 1) (by kernel_rfl) (by kernel_rfl) (by kernel_rfl) (by kernel_rfl)) hr
theorem leaves_local {g n m cap : Nat} {l : List (Nat × Nat)} (hg : g < 18446744073709551616) (hl : l.length = m) (hm : m < 60) (hn : ∀ p ∈ l, p.1 < 64 ∧ p.2 < 64) : Local Tryz.prog 1 31 [dhV n (smallS 0 m cap), u64 g] (hp [viewD l]) fun v' _ => v' = u64 (lvN g l m) := by
  refine local_of noNum Tryz.func31 (show Tryz.f31.body = some c31 by kernel_rfl) ?_
  refine Runs.sqR mixed hkU [] (by kernel_rfl) (by kernel_rfl) (by kernel_rfl) oblN ?_
  refine Runs.sqR mixed hkU [] (by kernel_rfl) (by kernel_rfl) (by kernel_rfl) oblN ?_
  refine Runs.sq (by kernel_rfl) (Runs.sqR mixed hkU [] (by kernel_rfl) (by kernel_rfl) (by kernel_rfl) oblN (Runs.bk (id := 0) (by kernel_rfl) ?_))
  show Runs Tryz.prog 1 lp31 _ _
  refine Runs.less (af1 := sth (S31 g m cap 0 (lvN g l 0)) 36 [viewD l]) (less_seenP (clo_all (k := 1) (by kernel_rfl)) viewD1 (Nat.le_refl 1) (by kernel_rfl) (by kernel_rfl) (by kernel_rfl) (by kernel_rfl)) ?_
  refine (leaves_loop (cap := cap) hg hl hm hn m 0 (by omega)).mono fun e af hx => ?_
  obtain ⟨rfl, less⟩ := hx
  show Runs Tryz.prog 1 _ af _
  exact Runs.less less (Runs.sqR mixed hkU [] (by kernel_rfl) (by kernel_rfl) (by kernel_rfl) oblN (Runs.now (x := .ret) (by kernel_rfl) ⟨.inr rfl, [u64 (lvN g l m)], by kernel_rfl, rfl⟩))
theorem dhC_ok (n : Nat) {rest : List Value} (hr : ∀ v ∈ rest, plainV v = true) : ArgC 1 (c1G [i64 n] [] rest) := c1G_ok (fun v h => by rw [List.mem_singleton.1 h]; rfl) (fun v h => by cases h) hr
theorem leaves_says {g n : Nat} {l : List (Nat × Nat)} (hg : g < 18446744073709551616) (hm : l.length < 60) (hn : ∀ p ∈ l, p.1 < 64 ∧ p.2 < 64) {h : AH} {s : Value} {i o : Nat} (hs : Sees h ⟨i, o, l.length, pipesC l⟩ s) : Says Tryz.prog h 31 [dhV n s, u64 g] (u64 (lvN g l l.length)) h :=
  tellF (C := c1G [i64 n] [] [u64 g]) (vs := [⟨i, o, l.length, pipesC l⟩]) (ss := [s]) (dhC_ok n (fun v h => by rw [List.mem_singleton.1 h]; rfl)) rfl (fun caps hc => by
    obtain ⟨cap, rfl, hle⟩ := fits1 hc
    exact leaves_local (cap := cap) hg rfl hm hn) (fun v' _ r => r) (fun μ μ' x hx => flat_any hx rfl) ⟨hs, trivial⟩

/-! ### dry -/
noncomputable def dryS (t : Nat) (p : Nat × Nat) : Nat := t ||| t / 2 ^ p.2 % 2 * 2 ^ p.1
noncomputable def dryR (l : List (Nat × Nat)) (t : Nat) : Nat := l.foldl dryS t
noncomputable def dryN (l : List (Nat × Nat)) : Nat → Nat → Nat
  | 0, t => t
  | n + 1, t => dryR l (dryN l n t)
theorem dryS_lt {t : Nat} {p : Nat × Nat} (ht : t < 18446744073709551616) (hp : p.1 < 64) : t / 2 ^ p.2 % 2 * 2 ^ p.1 < 18446744073709551616 ∧ dryS t p < 18446744073709551616 := by
  have h2 : t / 2 ^ p.2 % 2 < 2 := Nat.mod_lt _ (by decide)
  have h3 := p64 hp
  have h4 : t / 2 ^ p.2 % 2 * 2 ^ p.1 < 18446744073709551616 := by
    rcases (by omega : t / 2 ^ p.2 % 2 = 0 ∨ t / 2 ^ p.2 % 2 = 1) with h | h <;> rw [h] <;> omega
  exact ⟨h4, Nat.or_lt_two_pow (n := 64) ht h4⟩
theorem foldS_lt {l : List (Nat × Nat)} (hn : ∀ p ∈ l, p.1 < 64) {t : Nat} (ht : t < 18446744073709551616) : l.foldl dryS t < 18446744073709551616 := by
  induction l generalizing t with
  | nil => exact ht
  | cons p l ih => exact ih (fun q hq => hn q (List.mem_cons_of_mem _ hq)) (dryS_lt ht (hn p List.mem_cons_self)).2
theorem dryN_lt {l : List (Nat × Nat)} (hn : ∀ p ∈ l, p.1 < 64) {t : Nat} (ht : t < 18446744073709551616) : ∀ n, dryN l n t < 18446744073709551616
  | 0 => ht
  | n + 1 => foldS_lt hn (dryN_lt hn ht n)
theorem shl_bit {y a : Nat} (hy : y * 2 ^ a < 18446744073709551616) (ha : a < 64) : shiftA .shl .u64 (.ofNat y) (.ofNat a) = some (u64 (y * 2 ^ a)) := by
  unfold shiftA
  rw [if_neg (by show ¬ ((a : Int) < 0); omega)]
  have e : min (Int.ofNat a).toNat IntKind.u64.bits = a := by show min a 64 = a; omega
  show some (Value.int .u64 (IntKind.wrap .u64 (.ofNat y * 2 ^ (min (Int.ofNat a).toNat IntKind.u64.bits)))) = _
  rw [e, ← wrapF_eq]
  have : (Int.ofNat y * (2 : Int) ^ a) = .ofNat (y * 2 ^ a) := by
    show ((y : Int) * 2 ^ a) = ((y * 2 ^ a : Nat) : Int)
    simp
  rw [this, wrapF64 hy]
  rfl
noncomputable def andNotN (x y : Nat) : Nat := (BitVec.ofInt 64 (.ofNat x) &&& ~~~(BitVec.ofInt 64 (.ofNat y))).toNat
theorem andNot64 (x y : Nat) : intBin .andNot .u64 (.ofNat x) (.ofNat y) = some (u64 (andNotN x y)) := by
  show some (Value.int .u64 (wrapF .u64 (.ofNat (andNotN x y)))) = _
  rw [wrapF64 (BitVec.isLt _)]
  rfl
noncomputable def c27 : Code := bodyOf Tryz.f27
noncomputable def lp27 : Code := within (tl (hd (behind 2 c27)))
noncomputable def li27 : Code := within (tl (within (hd (tl (tl (within lp27))))))
noncomputable def S27 (n t i : Nat) : List (Nat × Value) := [(1, ptrV 1), (3, u64 t), (10, i64 n), (11, i64 i)]
noncomputable def T27 (n t i m cap j : Nat) : List (Nat × Value) := [(1, ptrV 1), (3, u64 t), (10, i64 n), (11, i64 i), (14, smallS 0 m cap), (15, i64 m), (16, i64 j)]
theorem dry_inner {n i m cap : Nat} {l : List (Nat × Nat)} (hl : l.length = m) (hm : m < 60) (hn : ∀ p ∈ l, p.1 < 64 ∧ p.2 < 64) : ∀ d j t, j + d = m → t < 18446744073709551616 →
    Runs Tryz.prog 1 li27 (sth (T27 n t i m cap j) 38 (OD n m cap l)) fun e af => e = .exit 2 ∧ Less 1 (sth (S27 n ((l.drop j).foldl dryS t) i) 38 (OD n m cap l)) af := by
  intro d
  induction d with
  | zero =>
    intro j t hj ht
    have e : j = m := by omega
    subst e
    rw [List.drop_eq_nil_of_le (by omega)]
    refine Runs.lp (by kernel_rfl) (Runs.sqR mixed hkU [] (by kernel_rfl) (by kernel_rfl) (by kernel_rfl) oblN (Runs.sq (by kernel_rfl) ?_))
    refine Runs.cd (b := ltF (.ofNat j) (.ofNat j)) (by kernel_rfl) (fun ht => by rw [lt_self] at ht; cases ht) (fun _ => Runs.now (x := .exit 2) (by kernel_rfl) ⟨rfl, ?_⟩)
    exact less_seenP (clo_all (k := 2) (by kernel_rfl)) od_clo (show 1 ≤ 2 by decide) (by kernel_rfl) (by kernel_rfl) (by kernel_rfl) (by kernel_rfl)
  | succ d ih =>
    intro j t hj ht
    have hlt : j < m := by omega
    obtain ⟨p, hp⟩ : ∃ p, l[j]? = some p := ⟨l[j], List.getElem?_eq_getElem (by omega)⟩
    obtain ⟨h1, h2⟩ := hn p (List.mem_of_getElem? hp)
    obtain ⟨h3, h4⟩ := dryS_lt (p := p) ht h1
    have ed : l.drop j = p :: l.drop (j + 1) := by rw [List.drop_eq_getElem_cons (by omega : j < l.length)]; rw [List.getElem?_eq_getElem (by omega : j < l.length)] at hp; rw [Option.some.inj hp]
    have hr := ih (j + 1) (dryS t p) (by omega) h4
    rw [ed, List.foldl_cons]
    have hd2 : t / 2 ^ p.2 < 18446744073709551616 := Nat.lt_of_le_of_lt (Nat.div_le_self _ _) ht
    refine Runs.lp (by kernel_rfl) (Runs.sqR mixed hkU [] (by kernel_rfl) (by kernel_rfl) (by kernel_rfl) oblN (Runs.sq (by kernel_rfl) ?_))
    refine Runs.cd (b := ltF (.ofNat j) (.ofNat m)) (by kernel_rfl) (fun _ => Runs.now (x := .normal) (by kernel_rfl) ?_) (fun hf => by rw [lt_of hlt] at hf; cases hf)
    show Runs Tryz.prog 1 _ _ _
    refine Runs.sq (by kernel_rfl) (Runs.bk (id := 3) (by kernel_rfl) ?_)
    refine Runs.sqR mixed hkU [viaV 0 (.pointer (some ⟨0, 0 + j * 3, none⟩)), viaV 1 (piV p)] (by kernel_rfl) (by kernel_rfl) (by kernel_rfl)
      (oblC (shown_idx (n := m) (by kernel_rfl) hlt) (oblC (shown_agg (by kernel_rfl) (pipesC_at (q := 0) (l := l) (lv := false) (par := []) (ty := none) (by kernel_rfl) hp)) oblN)) ?_
    refine Runs.rgD mixed hkU [viaV 4 (u64 (t / 2 ^ p.2)), viaV 5 (u64 (t / 2 ^ p.2 % 2)), viaV 8 (u64 (t / 2 ^ p.2 % 2 * 2 ^ p.1)), viaV 9 (u64 (dryS t p))] [] (by kernel_rfl) (by kernel_rfl) (by kernel_rfl) (by kernel_rfl)
      (oblC ⟨by kernel_rfl, (show _ = (shiftA .shr .u64 (.ofNat t) (.ofNat p.2)).map (·, _) by kernel_rfl).trans (by rw [shr64 h2]; rfl)⟩
      (oblC ⟨by kernel_rfl, (show _ = (intBin .and .u64 (.ofNat (t / 2 ^ p.2)) (.ofNat 1)).map (·, _) by kernel_rfl).trans (by rw [and_one hd2]; rfl)⟩
      (oblC ⟨by kernel_rfl, (show _ = (shiftA .shl .u64 (.ofNat (t / 2 ^ p.2 % 2)) (.ofNat p.1)).map (·, _) by kernel_rfl).trans (by rw [shl_bit h3 h1]; rfl)⟩
      (oblC ⟨by kernel_rfl, (show _ = (intBin .or .u64 (.ofNat t) (.ofNat (t / 2 ^ p.2 % 2 * 2 ^ p.1))).map (·, _) by kernel_rfl).trans (by rw [or64 ht h3]; rfl)⟩ oblN)))) dynN ?_
    show Runs Tryz.prog 1 _ _ _
    refine Runs.rg mixed hkU [viaV 0 (i64 (j + 1))] (by kernel_rfl) (by kernel_rfl) (by kernel_rfl) (oblC (shown_eq (v := .int .i64 (wrapF .i64 (Int.add (.ofNat j) (.ofNat 1)))) (by kernel_rfl) (by kernel_rfl) (by rw [wrap_succ (by omega)]; rfl)) oblN) ?_
    show Runs Tryz.prog 1 li27 _ _
    exact Runs.less (af1 := sth (T27 n (dryS t p) i m cap (j + 1)) 38 (OD n m cap l)) (less_seenP (clo_all (k := 2) (by kernel_rfl)) od_clo (show 1 ≤ 2 by decide) (by kernel_rfl) (by kernel_rfl) (by kernel_rfl) (by kernel_rfl)) hr
theorem dry_loop {n m cap : Nat} {l : List (Nat × Nat)} (hl : l.length = m) (hm : m < 60) (hN : n < 60) (hn : ∀ p ∈ l, p.1 < 64 ∧ p.2 < 64) : ∀ d i, i + d = n →
    Runs Tryz.prog 1 lp27 (sth (S27 n (dryN l i (2 ^ n)) i) 38 (OD n m cap l)) fun e af => e = .exit 0 ∧ Less 1 (sth [(1, ptrV 1), (3, u64 (dryN l n (2 ^ n)))] 38 (OD n m cap l)) af := by
  intro d
  induction d with
  | zero =>
    intro i hi
    have e : i = n := by omega
    subst e
    refine Runs.lp (by kernel_rfl) (Runs.sqR mixed hkU [] (by kernel_rfl) (by kernel_rfl) (by kernel_rfl) oblN (Runs.sq (by kernel_rfl) ?_))
    refine Runs.cd (b := ltF (.ofNat i) (.ofNat i)) (by kernel_rfl) (fun ht => by rw [lt_self] at ht; cases ht) (fun _ => Runs.now (x := .exit 0) (by kernel_rfl) ⟨rfl, ?_⟩)
    exact less_seenP (clo_all (k := 2) (by kernel_rfl)) od_clo (show 1 ≤ 2 by decide) (by kernel_rfl) (by kernel_rfl) (by kernel_rfl) (by kernel_rfl)
  | succ d ih =>
    intro i hi
    have hlt : i < n := by omega
    have hr := ih (i + 1) (by omega)
    have ht := dryN_lt (l := l) (fun p hp => (hn p hp).1) (p64 (i := n) (by omega)) i
    refine Runs.lp (by kernel_rfl) (Runs.sqR mixed hkU [] (by kernel_rfl) (by kernel_rfl) (by kernel_rfl) oblN (Runs.sq (by kernel_rfl) ?_))
    refine Runs.cd (b := ltF (.ofNat i) (.ofNat n)) (by kernel_rfl) (fun _ => Runs.now (x := .normal) (by kernel_rfl) ?_) (fun hf => by rw [lt_of hlt] at hf; cases hf)
    show Runs Tryz.prog 1 _ _ _
    refine Runs.sq (by kernel_rfl) (Runs.bk (id := 1) (by kernel_rfl) ?_)
    refine Runs.sqR mixed hkU [] (by kernel_rfl) (by kernel_rfl) (by kernel_rfl) oblN (Runs.bk (id := 2) (by kernel_rfl) ?_)
    show Runs Tryz.prog 1 li27 _ _
    refine Runs.less (af1 := sth (T27 n (dryN l i (2 ^ n)) i m cap 0) 38 (OD n m cap l)) (less_seenP (clo_all (k := 2) (by kernel_rfl)) od_clo (show 1 ≤ 2 by decide) (by kernel_rfl) (by kernel_rfl) (by kernel_rfl) (by kernel_rfl)) ?_
    refine (dry_inner (i := i) (cap := cap) hl hm hn m 0 _ (by omega) ht).mono fun e af hx => ?_
    obtain ⟨rfl, less⟩ := hx
    show Runs Tryz.prog 1 _ af _
    rw [List.drop_zero] at less
    refine Runs.less less ?_
    refine Runs.rg mixed hkU [viaV 0 (i64 (i + 1))] (by kernel_rfl) (by kernel_rfl) (by kernel_rfl) (oblC (shown_eq (v := .int .i64 (wrapF .i64 (Int.add (.ofNat i) (.ofNat 1)))) (by kernel_rfl) (by kernel_rfl) (by rw [wrap_succ (by omega)]; rfl)) oblN) ?_
    show Runs Tryz.prog 1 lp27 _ _
    exact Runs.less (af1 := sth (S27 n (dryN l (i + 1) (2 ^ n)) (i + 1)) 38 (OD n m cap l)) (less_seenP (clo_all (k := 2) (by kernel_rfl)) od_clo (show 1 ≤ 2 by decide) (by kernel_rfl) (by kernel_rfl) (by kernel_rfl) (by kernel_rfl)) hr
noncomputable def stuckN (n : Nat) (l : List (Nat × Nat)) : Nat := andNotN (2 ^ n - 1) (dryN l n (2 ^ n))
theorem dry_local {n m cap : Nat} {l : List (Nat × Nat)} (hl : l.length = m) (hm : m < 60) (hN : n < 60) (hn : ∀ p ∈ l, p.1 < 64 ∧ p.2 < 64) : Local Tryz.prog 1 27 [dhV n (smallS 0 m cap)] (hp [viewD l]) fun v' _ => v' = u64 (stuckN n l) := by
  obtain ⟨q1, q2, q3⟩ := full_eq (m := n) (by omega)
  refine local_of noNum Tryz.func27 (show Tryz.f27.body = some c27 by kernel_rfl) ?_
  refine Runs.sqR mixed hkU [] (by kernel_rfl) (by kernel_rfl) (by kernel_rfl) oblN ?_
  refine Runs.sqR mixed hkU [viaV 2 (u64 (2 ^ n))] (by kernel_rfl) (by kernel_rfl) (by kernel_rfl)
    (oblC ⟨by kernel_rfl, (show _ = (shiftA .shl .u64 1 (.ofNat n)).map (·, _) by kernel_rfl).trans (by rw [bit64 (by omega)]; rfl)⟩ oblN) ?_
  refine Runs.sq (by kernel_rfl) (Runs.sqR mixed hkU [] (by kernel_rfl) (by kernel_rfl) (by kernel_rfl) oblN (Runs.bk (id := 0) (by kernel_rfl) ?_))
  show Runs Tryz.prog 1 lp27 _ _
  refine Runs.less (af1 := sth (S27 n (dryN l 0 (2 ^ n)) 0) 38 (OD n m cap l)) (less_seenP (clo_all (k := 2) (by kernel_rfl)) od_clo (show 1 ≤ 2 by decide) (by kernel_rfl) (by kernel_rfl) (by kernel_rfl) (by kernel_rfl)) ?_
  refine (dry_loop (cap := cap) hl hm hN hn n 0 (by omega)).mono fun e af hx => ?_
  obtain ⟨rfl, less⟩ := hx
  show Runs Tryz.prog 1 _ af _
  refine Runs.less less ?_
  refine Runs.sqR mixed hkU [viaV 2 (u64 (2 ^ n)), viaV 3 (u64 (2 ^ n - 1)), viaV 5 (u64 (stuckN n l))] (by kernel_rfl) (by kernel_rfl) (by kernel_rfl)
    (oblC ⟨by kernel_rfl, (show _ = (shiftA .shl .u64 1 (.ofNat n)).map (·, _) by kernel_rfl).trans (by rw [bit64 (by omega)]; rfl)⟩
    (oblC ⟨by kernel_rfl, (show _ = (intBin .sub .u64 (.ofNat (2 ^ n)) (.ofNat 1)).map (·, _) by kernel_rfl).trans (by rw [pred64 q2 q3]; rfl)⟩
    (oblC ⟨by kernel_rfl, (show _ = (intBin .andNot .u64 (.ofNat (2 ^ n - 1)) (.ofNat (dryN l n (2 ^ n)))).map (·, _) by kernel_rfl).trans (by rw [andNot64]; rfl)⟩ oblN))) ?_
  exact Runs.now (x := .ret) (by kernel_rfl) ⟨.inr rfl, [u64 (stuckN n l)], by kernel_rfl, rfl⟩
theorem dry_says {n : Nat} {l : List (Nat × Nat)} (hm : l.length < 60) (hN : n < 60) (hn : ∀ p ∈ l, p.1 < 64 ∧ p.2 < 64) {h : AH} {s : Value} {i o : Nat} (hs : Sees h ⟨i, o, l.length, pipesC l⟩ s) : Says Tryz.prog h 27 [dhV n s] (u64 (stuckN n l)) h :=
  tellF (C := c1G [i64 n] [] []) (vs := [⟨i, o, l.length, pipesC l⟩]) (ss := [s]) (dhC_ok n (fun v h => by cases h)) rfl (fun caps hc => by
    obtain ⟨cap, rfl, hle⟩ := fits1 hc
    exact dry_local (cap := cap) rfl hm hN hn) (fun v' _ r => r) (fun μ μ' x hx => flat_any hx rfl) ⟨hs, trivial⟩
end
end Go.Proofs.YtbcjmmbmeebfgaaGreatDoor
