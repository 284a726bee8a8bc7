/- TrialSpelled: slices.Sort of few words: an insertion sort. -/
import Derived.Test.YtgnkjmgkfibipaaGreatDoorSSpelledKZ7
import Derived.Test.YtgnkjmgkfibipaaGreatDoorSSpelledKW5
namespace Go.Proofs.YtgnkjmgkfibipaaGreatDoor
set_option linter.unusedVariables false
set_option linter.unusedSimpArgs false
open Go Go.R
set_option maxRecDepth 1000000
noncomputable section

/-- A stretch that the machine runs by itself. -/
theorem Runs.evalN {P : Program} (hm : P.follows .mixedOrders = true) {call : CallF} (hc : CallOk P call) {n k : Nat} {c : Code} {af : AF} {Q : AExit → AF → Prop} (x : AExit) (hk : k ≤ af.h.next) (he : (execA P call n c af).map (·.1) = some x)
    (q : Q x (((execA P call n c af).map (·.2)).getD af)) : Runs P k c af Q := by
  cases h : execA P call n c af with
  | none => rw [h] at he; cases he
  | some r =>
    obtain ⟨y, a⟩ := r
    rw [h] at he q
    obtain rfl : y = x := Option.some.inj he
    exact Runs.eval hm hc hk h q

/-! ### Rows of words that are written -/
def updS (g : Nat → ByteArray) (i : Nat) (w : ByteArray) (j : Nat) : ByteArray := if j = i then w else g j
theorem spliceS {c : List Value} {o : Nat} {v : Value} (h : o < c.length) : splice c o [v] = c.set o v := by
  unfold splice
  rw [List.set_eq_take_append_cons_drop, if_pos h]
  simp
theorem strsV_set {n i : Nat} (hi : i < n) (g : Nat → ByteArray) (w : ByteArray) : splice (strsV n g) (0 + i * 1) [.string w] = strsV n (updS g i w) := by
  rw [spliceS (by rw [strsV_len]; omega), Nat.zero_add, Nat.mul_one]
  apply List.ext_getElem?
  intro k
  rw [List.getElem?_set]
  by_cases hk : k < n
  · by_cases e : i = k
    · subst e
      rw [if_pos rfl, if_pos (by rw [strsV_len]; omega)]
      simp [strsV, hk, updS]
    · rw [if_neg e]
      simp [strsV, hk, updS, show ¬ k = i from fun h => e h.symm]
  · rw [if_neg (by omega)]
    rw [List.getElem?_eq_none (by rw [strsV_len]; omega), List.getElem?_eq_none (by rw [strsV_len]; omega)]
theorem store_S {h : AH} {r n i : Nat} {g : Nat → ByteArray} {w : ByteArray} (hg : h.get r = rowS n g) (hi : i < n) : storeA Tryz.prog 9 r (0 + i * 1) (.string w) h = some (h.put r (rowS n (updS g i w))) := by
  obtain ⟨info, e2, e3⟩ : ∃ info, Tryz.prog.info? 9 = some info ∧ info.size = 1 := ⟨(Tryz.prog.info? 9).get!, by kernel_rfl, by kernel_rfl⟩
  have e4 : (decide ((Value.string w).cells.size = info.size) && (Value.string w).cells.toList.all cellV) = true := by rw [e3]; rfl
  unfold storeA
  simp only [e2]
  rw [if_pos e4]
  show putRow? h r (0 + i * 1) [.string w] = _
  unfold putRow?
  rw [hg]
  show (if 0 + i * 1 + 1 ≤ (strsV n g).length then some ((h.kill []).put r (.cells (splice (strsV n g) (0 + i * 1) [.string w]) true [] (some 9))) else none) = _
  rw [if_pos (by rw [strsV_len]; omega), strsV_set hi]
  rfl
theorem wrap_pred {k : Nat} (h : k < 1000000) : wrapF .i64 (Int.sub (.ofNat (k + 1)) (.ofNat 1)) = .ofNat k := by
  have e : Int.sub (.ofNat (k + 1)) (.ofNat 1) = .ofNat k := by show ((k + 1 : Nat) : Int) - 1 = (k : Int); omega
  rw [e, wrapF_eq]
  unfold IntKind.wrap
  simp [IntKind.signed, IntKind.bits]
  omega

/-! ### cmp.Less -/
noncomputable def q104 : Code := bodyOf Tryz.f104
theorem nan_local (a : ByteArray) : Local Tryz.prog 0 104 [.string a] AH.empty fun v' _ => v' = .bool false := by
  refine local_of noNum Tryz.func104 (show Tryz.f104.body = some q104 by kernel_rfl) ?_
  have ne : (!(a.toList == a.toList)) = false := by simp
  refine Runs.sqR mixed hk38 [] (by kernel_rfl) (by kernel_rfl) (by kernel_rfl) oblN ?_
  refine Runs.sqR mixed hk38 [viaV 2 (.bool false)] (by kernel_rfl) (by kernel_rfl) (by kernel_rfl) (oblC (shown_eq (v := .bool (!(a.toList == a.toList))) (by kernel_rfl) (by kernel_rfl) (by rw [ne])) oblN) ?_
  exact Runs.now (x := .ret) (by kernel_rfl) ⟨.inr rfl, [.bool false], by kernel_rfl, rfl⟩
theorem nan_says (a : ByteArray) (h : AH) : Says Tryz.prog h 104 [.string a] (.bool false) h := fun F w0 μ w' args' H hl =>
  (nan_local a).closed (fun v hv => by rw [List.mem_singleton.1 hv]; rfl) rfl h H hl
noncomputable def q85 : Code := bodyOf Tryz.f85
theorem less_local (a b : ByteArray) : Local Tryz.prog 0 85 [.string a, .string b] AH.empty fun v' _ => v' = .bool (bytesLt a b) := by
  refine local_of noNum Tryz.func85 (show Tryz.f85.body = some q85 by kernel_rfl) ?_
  refine Runs.sqR mixed hk38 [] (by kernel_rfl) (by kernel_rfl) (by kernel_rfl) oblN ?_
  refine Runs.sqR mixed hk38 [viaC 1 104 [.string a] (.bool false)] (by kernel_rfl) (by kernel_rfl) (by kernel_rfl) (oblC (shown_callE (h0 := AH.empty) (by kernel_rfl) (by kernel_rfl) (nan_says a _)) oblN) ?_
  exact Runs.now (x := .ret) (by kernel_rfl) ⟨.inr rfl, [.bool (bytesLt a b)], by kernel_rfl, rfl⟩
theorem less_says (a b : ByteArray) (h : AH) : Says Tryz.prog h 85 [.string a, .string b] (.bool (bytesLt a b)) h := fun F w0 μ w' args' H hl =>
  (less_local a b).closed strs_plain rfl h H hl

/-! ### The insertion sort -/
def insJ : Nat → (Nat → ByteArray) → Nat → ByteArray
  | 0, g => g
  | k + 1, g => if bytesLt (g (k + 1)) (g k) then insJ k (updS (updS g (k + 1) (g k)) k (g (k + 1))) else g
def srtF : Nat → Nat → (Nat → ByteArray) → Nat → ByteArray
  | 0, _, g => g
  | d + 1, i, g => srtF d (i + 1) (insJ i g)
theorem insJ_all {m : Nat} {R : ByteArray → Prop} : ∀ k g, k < m → (∀ i, i < m → R (g i)) → ∀ i, i < m → R (insJ k g i)
  | 0, g, _, h => h
  | k + 1, g, hk, h => by
    intro i hi
    rw [insJ]
    by_cases hb : bytesLt (g (k + 1)) (g k) = true
    · rw [if_pos hb]
      refine insJ_all k _ (by omega) (fun i hi => ?_) i hi
      unfold updS
      by_cases e1 : i = k
      · rw [if_pos e1]; exact h _ hk
      · rw [if_neg e1]
        by_cases e2 : i = k + 1
        · rw [if_pos e2]; exact h _ (by omega)
        · rw [if_neg e2]; exact h _ hi
    · rw [if_neg hb]; exact h i hi
theorem srtF_all {m : Nat} {R : ByteArray → Prop} : ∀ d i g, i + d = m → (∀ j, j < m → R (g j)) → ∀ j, j < m → R (srtF d i g j)
  | 0, _, g, _, h => h
  | d + 1, i, g, hd, h => by
    intro j hj
    rw [srtF]
    exact srtF_all d (i + 1) _ (by omega) (insJ_all i g (by omega) h) j hj

noncomputable def q79 : Code := bodyOf Tryz.f79
noncomputable def lpA : Code := within (tl q79)
noncomputable def lpB : Code := within (tl (within (hd (tl (within lpA)))))
noncomputable def Sout (m i : Nat) : List (Nat × Value) := [(0, bldV 0 m), (1, i64 0), (2, i64 m), (6, i64 i)]
noncomputable def Sin (m i j : Nat) : List (Nat × Value) := [(0, bldV 0 m), (1, i64 0), (2, i64 m), (6, i64 i), (7, i64 j)]
theorem rs_clo {m : Nat} {g : Nat → ByteArray} : ∀ x ∈ [rowS m g], CloO 1 x := fun x hx => by rw [List.mem_singleton.1 hx]; exact cloO_plain (strsV_plain m g) _ _

theorem ins_loop (m i : Nat) (hi : i < m) (hm : m < 1000) : ∀ j g, j ≤ i →
    Runs Tryz.prog 1 lpB (sth (Sin m i j) 49 [rowS m g]) fun e af => e = .exit 2 ∧ Less 1 (sth (Sout m i) 49 [rowS m (insJ j g)]) af
  | 0, g, h => by
    refine Runs.lp (by kernel_rfl) (Runs.sq (by kernel_rfl) (Runs.sq (by kernel_rfl) (Runs.evalN mixed hk38 (n := 100) .normal (Nat.le_refl 1) (by kernel_rfl) ?_)))
    show Runs Tryz.prog 1 _ _ _
    refine Runs.cd (b := false) (by kernel_rfl) (fun ht => by cases ht) (fun _ => Runs.now (x := .exit 2) (by kernel_rfl) ⟨rfl, ?_⟩)
    exact less_seenP (clo_all (k := 1) (by kernel_rfl)) rs_clo (Nat.le_refl 1) (by kernel_rfl) (by kernel_rfl) (by kernel_rfl) (by kernel_rfl)
  | k + 1, g, h => by
    have hk : k < m := by omega
    have hk1 : k + 1 < m := by omega
    have es : wrapF .i64 (Int.sub (.ofNat (k + 1)) (.ofNat 1)) = .ofNat k := wrap_pred (by omega)
    have gt : ltF (.ofNat 0) (.ofNat (k + 1)) = true := by kernel_rfl
    have hl := less_says (g (k + 1)) (g k) (hp [rowS m g])
    refine Runs.lp (by kernel_rfl) (Runs.sq (by kernel_rfl) (Runs.sqR mixed hk38 [viaV 6 (.pointer (some ⟨0, 0 + (k + 1) * 1, none⟩)), viaV 7 (.string (g (k + 1))), viaV 10 (i64 k), viaV 11 (.pointer (some ⟨0, 0 + k * 1, none⟩)), viaV 12 (.string (g k)), viaC 13 85 [.string (g (k + 1)), .string (g k)] (.bool (bytesLt (g (k + 1)) (g k)))]
      (by kernel_rfl) (by kernel_rfl) (by kernel_rfl)
      (oblC (shown_idx (n := m) (i := k + 1) (by kernel_rfl) hk1) (oblC (shown_cell (by kernel_rfl) (strV_at (g := 0) (k := m) (i := k + 1) (f := g) (lv := true) (par := []) (ty := some 9) (by kernel_rfl) hk1))
      (oblC (shown_eq (v := .int .i64 (wrapF .i64 (Int.sub (.ofNat (k + 1)) (.ofNat 1)))) (by kernel_rfl) (by kernel_rfl) (by rw [es]; rfl))
      (oblC (shown_idx (n := m) (i := k) (by kernel_rfl) hk) (oblC (shown_cell (by kernel_rfl) (strV_at (g := 0) (k := m) (i := k) (f := g) (lv := true) (par := []) (ty := some 9) (by kernel_rfl) hk))
      (oblC (shown_callE (h0 := hp [rowS m g]) (by kernel_rfl) (by kernel_rfl) hl) oblN)))))) ?_))
    show Runs Tryz.prog 1 _ _ _
    refine Runs.cd (b := bytesLt (g (k + 1)) (g k)) (by kernel_rfl) (fun hb => Runs.now (x := .normal) (by kernel_rfl) ?_) (fun hb => Runs.now (x := .exit 2) (by kernel_rfl) ⟨rfl, ?_⟩)
    · show Runs Tryz.prog 1 _ _ _
      refine Runs.less (af1 := sth (Sin m i (k + 1)) 49 [rowS m g]) (less_seenP (clo_all (k := 1) (by kernel_rfl)) rs_clo (Nat.le_refl 1) (by kernel_rfl) (by kernel_rfl) (by kernel_rfl) (by kernel_rfl)) ?_
      let H0 : AH := hp [rowS m g]
      let H1 : AH := H0.put 0 (rowS m (updS g (k + 1) (g k)))
      have s1 := store_S (h := H0) (r := 0) (n := m) (i := k + 1) (g := g) (w := g k) (by kernel_rfl) hk1
      have s2 := store_S (h := H1) (r := 0) (n := m) (i := k) (g := updS g (k + 1) (g k)) (w := g (k + 1)) (by kernel_rfl) hk
      refine Runs.sq (by kernel_rfl) (Runs.bk (id := 3) (by kernel_rfl) ?_)
      refine Runs.rg mixed hk38 [viaV 4 (i64 k), viaV 7 (i64 k), viaV 8 (.pointer (some ⟨0, 0 + k * 1, none⟩)), viaV 9 (.string (g k)), viaV 12 (.pointer (some ⟨0, 0 + (k + 1) * 1, none⟩)), viaV 13 (.string (g (k + 1))), viaV 14 (.pointer (some ⟨0, 0 + (k + 1) * 1, none⟩)), ⟨15, undef, some H1, none⟩,
          viaV 16 (.pointer (some ⟨0, 0 + k * 1, none⟩)), ⟨17, undef, some (H1.put 0 (rowS m (updS (updS g (k + 1) (g k)) k (g (k + 1))))), none⟩] (by kernel_rfl) (by kernel_rfl) (by kernel_rfl)
        (oblC (shown_eq (v := .int .i64 (wrapF .i64 (Int.sub (.ofNat (k + 1)) (.ofNat 1)))) (by kernel_rfl) (by kernel_rfl) (by rw [es]; rfl))
        (oblC (shown_eq (v := .int .i64 (wrapF .i64 (Int.sub (.ofNat (k + 1)) (.ofNat 1)))) (by kernel_rfl) (by kernel_rfl) (by rw [es]; rfl))
        (oblC (shown_idx (n := m) (i := k) (by kernel_rfl) hk) (oblC (shown_cell (by kernel_rfl) (strV_at (g := 0) (k := m) (i := k) (f := g) (lv := true) (par := []) (ty := some 9) (by kernel_rfl) hk))
        (oblC (shown_idx (n := m) (i := k + 1) (by kernel_rfl) hk1) (oblC (shown_cell (by kernel_rfl) (strV_at (g := 0) (k := m) (i := k + 1) (f := g) (lv := true) (par := []) (ty := some 9) (by kernel_rfl) hk1))
        (oblC (shown_idx (n := m) (i := k + 1) (by kernel_rfl) hk1) (oblC ⟨by kernel_rfl, (show _ = (storeA Tryz.prog 9 0 (0 + (k + 1) * 1) (.string (g k)) H0).map (undef, ·) by kernel_rfl).trans (by rw [s1]; rfl)⟩
        (oblC (shown_idx (n := m) (i := k) (by kernel_rfl) hk) (oblC ⟨by kernel_rfl, (show _ = (storeA Tryz.prog 9 0 (0 + k * 1) (.string (g (k + 1))) H1).map (undef, ·) by kernel_rfl).trans (by rw [s2]; rfl)⟩ oblN)))))))))) ?_
      show Runs Tryz.prog 1 _ _ _
      refine Runs.rg mixed hk38 [viaV 1 (i64 k)] (by kernel_rfl) (by kernel_rfl) (by kernel_rfl) (oblC (shown_eq (v := .int .i64 (wrapF .i64 (Int.sub (.ofNat (k + 1)) (.ofNat 1)))) (by kernel_rfl) (by kernel_rfl) (by rw [es]; rfl)) oblN) ?_
      show Runs Tryz.prog 1 lpB _ _
      have ih := ins_loop m i hi hm k (updS (updS g (k + 1) (g k)) k (g (k + 1))) (by omega)
      have e : insJ (k + 1) g = insJ k (updS (updS g (k + 1) (g k)) k (g (k + 1))) := by rw [insJ, if_pos hb]
      rw [e]
      exact Runs.less (less_seenP (clo_all (k := 1) (by kernel_rfl)) rs_clo (Nat.le_refl 1) (by kernel_rfl) (by kernel_rfl) (by kernel_rfl) (by kernel_rfl)) ih
    · have e : insJ (k + 1) g = g := by rw [insJ, if_neg (by rw [hb]; exact Bool.false_ne_true)]
      rw [e]
      exact less_seenP (clo_all (k := 1) (by kernel_rfl)) rs_clo (Nat.le_refl 1) (by kernel_rfl) (by kernel_rfl) (by kernel_rfl) (by kernel_rfl)
end
end Go.Proofs.YtgnkjmgkfibipaaGreatDoor

/- TrialSpelled: slices.Sort as a contract. -/
namespace Go.Proofs.YtgnkjmgkfibipaaGreatDoor
set_option linter.unusedVariables false
set_option linter.unusedSimpArgs false
open Go Go.R
set_option maxRecDepth 1000000
noncomputable section

def RowIs (m : Nat) (g' : Nat → ByteArray) (v' : Value) (h' : AH) : Prop := v' = .tuple #[] ∧ h'.get 0 = rowS m g'
theorem row_says {fid : FuncId} {args : List Value} {m : Nat} {g g' : Nat → ByteArray} (L : Local Tryz.prog 1 fid args (hp [rowS m g]) (RowIs m g')) (ca : ∀ v ∈ args, Clo 1 v) :
    Says Tryz.prog (hp [rowS m g]) fid args (.tuple #[]) (hp [rowS m g']) := fun F w0 μ w args' H hl =>
  L.framed (h := hp [rowS m g]) (h2 := hp [rowS m g']) (fun v' h' r => ⟨r.1, fun i hi => by
    obtain rfl : i = 0 := by omega
    rw [r.2]
    exact (Eq.trans (Eq.refl _) (by kernel_rfl))⟩) rfl (Nat.le_refl 1) (fun _ _ => rfl) ca (fun i hi => by
    obtain rfl : i = 0 := by omega
    exact cloO_plain (strsV_plain m g) _ _) (fun i hi => by
    obtain rfl : i = 0 := by omega
    exact cloO_plain (strsV_plain m g') _ _) (clo_of 10 1 _ (by kernel_rfl)) (fun i hi => by
    obtain rfl : i = 0 := by omega
    exact .inr rfl) rfl (fun i hi => by
    match i, hi with
    | i + 1, _ => rfl) H hl

theorem sort_loop (m : Nat) (hm : m < 1000) : ∀ d i g, i + d = m → Runs Tryz.prog 1 lpA (sth (Sout m i) 49 [rowS m g]) fun e af => e = .exit 0 ∧ Less 1 (sth [] 49 [rowS m (srtF d i g)]) af
  | 0, i, g, h => by
    have e : i = m := by omega
    subst e
    refine Runs.lp (by kernel_rfl) (Runs.sq (by kernel_rfl) (Runs.sqR mixed hk38 [] (by kernel_rfl) (by kernel_rfl) (by kernel_rfl) oblN ?_))
    refine Runs.cd (b := ltF (.ofNat i) (.ofNat i)) (by kernel_rfl) (fun ht => by rw [lt_self] at ht; cases ht) (fun _ => Runs.now (x := .exit 0) (by kernel_rfl) ⟨rfl, ?_⟩)
    exact less_seenP (fun p hp => by cases hp) rs_clo (Nat.le_refl 1) (by kernel_rfl) (by kernel_rfl) (by kernel_rfl) (by kernel_rfl)
  | d + 1, i, g, h => by
    have hlt : i < m := by omega
    have e1 : wrapF .i64 (Int.add (.ofNat i) (.ofNat 1)) = .ofNat (i + 1) := wrap_addN (by omega)
    refine Runs.lp (by kernel_rfl) (Runs.sq (by kernel_rfl) (Runs.sqR mixed hk38 [] (by kernel_rfl) (by kernel_rfl) (by kernel_rfl) oblN ?_))
    refine Runs.cd (b := ltF (.ofNat i) (.ofNat m)) (by kernel_rfl) (fun _ => Runs.now (x := .normal) (by kernel_rfl) ?_) (fun hf => by rw [lt_of hlt] at hf; cases hf)
    show Runs Tryz.prog 1 _ _ _
    refine Runs.sq (by kernel_rfl) (Runs.bk (id := 1) (by kernel_rfl) ?_)
    refine Runs.sqR mixed hk38 [] (by kernel_rfl) (by kernel_rfl) (by kernel_rfl) oblN (Runs.bk (id := 2) (by kernel_rfl) ?_)
    refine Runs.less (af1 := sth (Sin m i i) 49 [rowS m g]) (less_seenP (clo_all (k := 1) (by kernel_rfl)) rs_clo (Nat.le_refl 1) (by kernel_rfl) (by kernel_rfl) (by kernel_rfl) (by kernel_rfl)) ?_
    show Runs Tryz.prog 1 lpB _ _
    refine (ins_loop m i hlt hm i g (Nat.le_refl i)).mono fun e af hx => ?_
    obtain ⟨rfl, less⟩ := hx
    show Runs Tryz.prog 1 _ af _
    refine Runs.less less ?_
    refine Runs.rg mixed hk38 [viaV 1 (i64 (i + 1))] (by kernel_rfl) (by kernel_rfl) (by kernel_rfl) (oblC (shown_eq (v := .int .i64 (wrapF .i64 (Int.add (.ofNat i) (.ofNat 1)))) (by kernel_rfl) (by kernel_rfl) (by rw [e1]; rfl)) oblN) ?_
    show Runs Tryz.prog 1 lpA _ _
    exact Runs.less (less_seenP (clo_all (k := 1) (by kernel_rfl)) rs_clo (Nat.le_refl 1) (by kernel_rfl) (by kernel_rfl) (by kernel_rfl) (by kernel_rfl)) (sort_loop m hm d (i + 1) (insJ i g) (by omega))

/-- The sorted words. -/
def srtG (m : Nat) (g : Nat → ByteArray) : Nat → ByteArray := if m = 0 then g else srtF (m - 1) 1 g
theorem srtG_all {m : Nat} {g : Nat → ByteArray} {R : ByteArray → Prop} (h : ∀ i, i < m → R (g i)) : ∀ i, i < m → R (srtG m g i) := fun i hi => by
  unfold srtG
  rw [if_neg (by omega)]
  exact srtF_all (m - 1) 1 g (by omega) h i hi
theorem ins_local (m : Nat) (hm : m < 1000) (g : Nat → ByteArray) : Local Tryz.prog 1 79 [bldV 0 m, i64 0, i64 m] (hp [rowS m g]) (RowIs m (srtG m g)) := by
  refine local_of noNum Tryz.func79 (show Tryz.f79.body = some q79 by kernel_rfl) ?_
  refine Runs.sqR mixed hk38 [] (by kernel_rfl) (by kernel_rfl) (by kernel_rfl) oblN (Runs.bk (id := 0) (by kernel_rfl) ?_)
  refine Runs.less (af1 := sth (Sout m 1) 49 [rowS m g]) (less_seenP (clo_all (k := 1) (by kernel_rfl)) rs_clo (Nat.le_refl 1) (by kernel_rfl) (by kernel_rfl) (by kernel_rfl) (by kernel_rfl)) ?_
  have fin : ∀ {g' : Nat → ByteArray} {af : AF}, Less 1 (sth [] 49 [rowS m g']) af → EndsAs Tryz.prog Tryz.f79 (RowIs m g') .normal af := fun {g' af} L => by
    refine ⟨.inl rfl, [], by kernel_rfl, rfl, ?_⟩
    rcases L.heap 0 (show 0 < 1 by decide) with ⟨h, _⟩ | ⟨h, _⟩
    · have : (sth [] 49 [rowS m g']).h.get 0 = rowS m g' := Eq.trans (Eq.refl _) (by kernel_rfl)
      rw [this] at h; cases h
    · rw [← h]; exact Eq.trans (Eq.refl _) (by kernel_rfl)
  show Runs Tryz.prog 1 lpA _ _
  by_cases h0 : m = 0
  · subst h0
    refine Runs.lp (by kernel_rfl) (Runs.sq (by kernel_rfl) (Runs.sqR mixed hk38 [] (by kernel_rfl) (by kernel_rfl) (by kernel_rfl) oblN ?_))
    refine Runs.cd (b := false) (by kernel_rfl) (fun ht => by cases ht) (fun _ => Runs.now (x := .exit 0) (by kernel_rfl) ?_)
    exact fin (less_seenP (fun p hp => by cases hp) rs_clo (Nat.le_refl 1) (by kernel_rfl) (by kernel_rfl) (by kernel_rfl) (by kernel_rfl))
  · refine (sort_loop m hm (m - 1) 1 g (by omega)).mono fun e af hx => ?_
    obtain ⟨rfl, less⟩ := hx
    have e : srtG m g = srtF (m - 1) 1 g := by unfold srtG; rw [if_neg h0]
    rw [e]
    exact fin less
theorem sort_args {m : Nat} {l : List Value} (h : ∀ v ∈ l, plainV v = true) : ∀ v ∈ bldV 0 m :: l, Clo 1 v := fun v hv => by
  rcases List.mem_cons.1 hv with rfl | hv
  · exact clo_of 10 1 _ (by kernel_rfl)
  · exact clo_plain (h v hv)
theorem ins_says (m : Nat) (hm : m < 1000) (g : Nat → ByteArray) : Says Tryz.prog (hp [rowS m g]) 79 [bldV 0 m, i64 0, i64 m] (.tuple #[]) (hp [rowS m (srtG m g)]) :=
  row_says (ins_local m hm g) (sort_args fun v hv => by
    simp only [List.mem_cons, List.mem_nil_iff, or_false] at hv
    rcases hv with rfl | rfl <;> rfl)

noncomputable def q57 : Code := bodyOf Tryz.f57
theorem pdq_local (m : Nat) (hm : m ≤ 6) (g : Nat → ByteArray) (x : Nat) : Local Tryz.prog 1 57 [bldV 0 m, i64 0, i64 m, i64 x] (hp [rowS m g]) (RowIs m (srtG m g)) := by
  refine local_of noNum Tryz.func57 (show Tryz.f57.body = some q57 by kernel_rfl) ?_
  have hs : m = 0 ∨ m = 1 ∨ m = 2 ∨ m = 3 ∨ m = 4 ∨ m = 5 ∨ m = 6 := by omega
  have hi := ins_says m (by omega) g
  generalize srtG m g = g' at *
  refine Runs.sqR mixed hk38 [] (by kernel_rfl) (by kernel_rfl) (by kernel_rfl) oblN ?_
  refine Runs.sqR mixed hk38 [] (by kernel_rfl) (by kernel_rfl) (by kernel_rfl) oblN (Runs.bk (id := 0) (by kernel_rfl) ?_)
  refine Runs.lp (by kernel_rfl) (Runs.bk (id := 1) (by kernel_rfl) ?_)
  rcases hs with rfl | rfl | rfl | rfl | rfl | rfl | rfl <;>
  · refine Runs.sqR mixed hk38 [] (by kernel_rfl) (by kernel_rfl) (by kernel_rfl) oblN ?_
    refine Runs.sq (by kernel_rfl) (Runs.sqR mixed hk38 [] (by kernel_rfl) (by kernel_rfl) (by kernel_rfl) oblN ?_)
    refine Runs.cd (b := true) (by kernel_rfl) (fun _ => ?_) (fun h => by cases h)
    refine Runs.sqR mixed hk38 [⟨3, .tuple #[], some (hp [rowS _ g']), some (79, [bldV 0 _, i64 0, i64 _])⟩] (by kernel_rfl) (by kernel_rfl) (by kernel_rfl) (oblC (shown_callHE (h0 := hp [rowS _ g]) (by kernel_rfl) (by kernel_rfl) hi) oblN) ?_
    exact Runs.now (x := .ret) (by kernel_rfl) ⟨.inr rfl, [], by kernel_rfl, rfl, by kernel_rfl⟩
theorem pdq_says (m : Nat) (hm : m ≤ 6) (g : Nat → ByteArray) (x : Nat) : Says Tryz.prog (hp [rowS m g]) 57 [bldV 0 m, i64 0, i64 m, i64 x] (.tuple #[]) (hp [rowS m (srtG m g)]) :=
  row_says (pdq_local m hm g x) (sort_args fun v hv => by
    simp only [List.mem_cons, List.mem_nil_iff, or_false] at hv
    rcases hv with rfl | rfl | rfl <;> rfl)

noncomputable def q23 : Code := bodyOf Tryz.f23
theorem sort_local (m : Nat) (hm : m ≤ 6) (g : Nat → ByteArray) : Local Tryz.prog 1 23 [bldV 0 m] (hp [rowS m g]) (RowIs m (srtG m g)) := by
  refine local_of noNum Tryz.func23 (show Tryz.f23.body = some q23 by kernel_rfl) ?_
  have hs : m = 0 ∨ m = 1 ∨ m = 2 ∨ m = 3 ∨ m = 4 ∨ m = 5 ∨ m = 6 := by omega
  have hp_ := fun x => pdq_says m hm g x
  generalize srtG m g = g' at *
  refine Runs.sqR mixed hk38 [] (by kernel_rfl) (by kernel_rfl) (by kernel_rfl) oblN ?_
  rcases hs with rfl | rfl | rfl | rfl | rfl | rfl | rfl
  · exact Runs.rg mixed hk38 [⟨5, .tuple #[], some (hp [rowS 0 g']), some (57, [bldV 0 0, i64 0, i64 0, i64 0])⟩] (by kernel_rfl) (by kernel_rfl) (by kernel_rfl) (oblC (shown_callHE (h0 := hp [rowS 0 g]) (by kernel_rfl) (by kernel_rfl) (hp_ 0)) oblN) ⟨.inl rfl, [], by kernel_rfl, rfl, by kernel_rfl⟩
  · exact Runs.rg mixed hk38 [⟨5, .tuple #[], some (hp [rowS 1 g']), some (57, [bldV 0 1, i64 0, i64 1, i64 1])⟩] (by kernel_rfl) (by kernel_rfl) (by kernel_rfl) (oblC (shown_callHE (h0 := hp [rowS 1 g]) (by kernel_rfl) (by kernel_rfl) (hp_ 1)) oblN) ⟨.inl rfl, [], by kernel_rfl, rfl, by kernel_rfl⟩
  · exact Runs.rg mixed hk38 [⟨5, .tuple #[], some (hp [rowS 2 g']), some (57, [bldV 0 2, i64 0, i64 2, i64 2])⟩] (by kernel_rfl) (by kernel_rfl) (by kernel_rfl) (oblC (shown_callHE (h0 := hp [rowS 2 g]) (by kernel_rfl) (by kernel_rfl) (hp_ 2)) oblN) ⟨.inl rfl, [], by kernel_rfl, rfl, by kernel_rfl⟩
  · exact Runs.rg mixed hk38 [⟨5, .tuple #[], some (hp [rowS 3 g']), some (57, [bldV 0 3, i64 0, i64 3, i64 2])⟩] (by kernel_rfl) (by kernel_rfl) (by kernel_rfl) (oblC (shown_callHE (h0 := hp [rowS 3 g]) (by kernel_rfl) (by kernel_rfl) (hp_ 2)) oblN) ⟨.inl rfl, [], by kernel_rfl, rfl, by kernel_rfl⟩
  · exact Runs.rg mixed hk38 [⟨5, .tuple #[], some (hp [rowS 4 g']), some (57, [bldV 0 4, i64 0, i64 4, i64 3])⟩] (by kernel_rfl) (by kernel_rfl) (by kernel_rfl) (oblC (shown_callHE (h0 := hp [rowS 4 g]) (by kernel_rfl) (by kernel_rfl) (hp_ 3)) oblN) ⟨.inl rfl, [], by kernel_rfl, rfl, by kernel_rfl⟩
  · exact Runs.rg mixed hk38 [⟨5, .tuple #[], some (hp [rowS 5 g']), some (57, [bldV 0 5, i64 0, i64 5, i64 3])⟩] (by kernel_rfl) (by kernel_rfl) (by kernel_rfl) (oblC (shown_callHE (h0 := hp [rowS 5 g]) (by kernel_rfl) (by kernel_rfl) (hp_ 3)) oblN) ⟨.inl rfl, [], by kernel_rfl, rfl, by kernel_rfl⟩
  · exact Runs.rg mixed hk38 [⟨5, .tuple #[], some (hp [rowS 6 g']), some (57, [bldV 0 6, i64 0, i64 6, i64 3])⟩] (by kernel_rfl) (by kernel_rfl) (by kernel_rfl) (oblC (shown_callHE (h0 := hp [rowS 6 g]) (by kernel_rfl) (by kernel_rfl) (hp_ 3)) oblN) ⟨.inl rfl, [], by kernel_rfl, rfl, by kernel_rfl⟩
theorem sort_says (m : Nat) (hm : m ≤ 6) (g : Nat → ByteArray) : Says Tryz.prog (hp [rowS m g]) 23 [bldV 0 m] (.tuple #[]) (hp [rowS m (srtG m g)]) :=
  row_says (sort_local m hm g) (sort_args fun v hv => by cases hv)
end
end Go.Proofs.YtgnkjmgkfibipaaGreatDoor

/- TrialSpelled: the words are built out of bytes. -/
namespace Go.Proofs.YtgnkjmgkfibipaaGreatDoor
set_option linter.unusedVariables false
set_option linter.unusedSimpArgs false
open Go Go.R
set_option maxRecDepth 1000000
noncomputable section

noncomputable def byL6 (y : Nat → Nat) : List Value := (List.range 6).map fun i => .int .u8 (.ofNat (y i))
noncomputable def byO6 (y : Nat → Nat) : AObj := .cells (byL6 y) true [] (some 42)
theorem byL6_plain (y : Nat → Nat) : ∀ v ∈ byL6 y, plainV v = true := fun v hv => by
  obtain ⟨i, _, rfl⟩ := List.mem_map.1 hv; rfl
theorem by6_at {h : AH} {r : Nat} {y : Nat → Nat} (hg : h.get r = byO6 y) {i : Nat} (hi : i < 6) : rowAt? h r (0 + i * 1) 1 = some [.int .u8 (.ofNat (y i))] := by
  rw [row_at hg (by simp [byL6]; omega), Nat.zero_add, Nat.mul_one]
  have : (byL6 y)[i]? = some (.int .u8 (.ofNat (y i))) := by simp [byL6, hi]
  rw [List.take_one, List.head?_drop, this]
  rfl
theorem arr6 {i r : Nat} (hi : i < 6) : indexAddrA Tryz.prog 42 (.pointer (some ⟨r, 0, none⟩)) (i64 i) = some (.pointer (some ⟨r, 0 + i * 1, none⟩)) := by
  obtain ⟨n, e1, e0⟩ : ∃ n, Tryz.prog.underlying 42 = some (.array n 5) ∧ n = 6 := ⟨6, by kernel_rfl, rfl⟩
  obtain ⟨info, e2, e3, _⟩ := byte_info
  subst e0
  unfold indexAddrA
  simp only [e1, e2, e3]
  show (if (0 : Int) ≤ Int.ofNat i ∧ (Int.ofNat i : Int) < ((6 : Nat) : Int) then some (Value.pointer (some ⟨r, 0 + (Int.ofNat i).toNat * 1, none⟩)) else none) = _
  rw [if_pos ⟨Int.natCast_nonneg i, Int.ofNat_lt.2 hi⟩]
  rfl
theorem wrapZ {a : Nat} (h : a < 256) : IntKind.wrap .i64 (.ofNat a) = .ofNat a := by
  unfold IntKind.wrap
  simp [IntKind.signed, IntKind.bits]
  omega
theorem shr_u8 (z k : Nat) : shiftA .shr .u8 (.ofNat z) (.ofNat k) = some (.int .u8 (.ofNat (z / 2 ^ min k 8))) := by
  unfold shiftA
  rw [if_neg (show ¬ (Int.ofNat k : Int) < 0 from Int.not_lt.2 (Int.natCast_nonneg k))]
  show some (Value.int .u8 (Int.fdiv (z : Int) ((2 : Int) ^ min k 8))) = _
  have e : ((2 : Int) ^ min k 8) = ((2 ^ min k 8 : Nat) : Int) := by simp
  rw [e, Int.fdiv_eq_ediv_of_nonneg _ (Int.natCast_nonneg _)]
  rfl
theorem and_u8 (x : Nat) : intBin .and .u8 (.ofNat x) (.ofNat 1) = some (.int .u8 (.ofNat (x % 2))) := by
  show some (Value.int .u8 (wrapF .u8 (((BitVec.ofInt 8 (x : Int) &&& BitVec.ofInt 8 1).toNat : Nat) : Int))) = _
  have e : (BitVec.ofInt 8 (x : Int) &&& BitVec.ofInt 8 1).toNat = x % 2 := by
    rw [BitVec.toNat_and]
    have : (BitVec.ofInt 8 1).toNat = 1 := by decide
    rw [this, Nat.and_one_is_mod]
    simp [BitVec.toNat_ofInt]
  rw [e, wrapF_eq]
  have : (x % 2 : Nat) < 2 := Nat.mod_lt _ (by decide)
  have e2 : IntKind.wrap .u8 ((x % 2 : Nat) : Int) = ((x % 2 : Nat) : Int) := by
    rcases Nat.mod_two_eq_zero_or_one x with h | h <;> rw [h] <;> decide
  rw [e2]
  rfl

/-- A word of at most three letters. -/
def GoodW (w : ByteArray) : Prop := allBS w = true ∧ w.size ≤ 3
theorem bs_snoc {w : ByteArray} {c : UInt8} (hc : c = 98 ∨ c = 115) (h : allBS w = true) : allBS (w ++ ⟨#[c]⟩) = true := by
  unfold allBS at *
  rw [bl_push, List.all_append, h]
  rcases hc with rfl | rfl <;> rfl
theorem size_snoc (w : ByteArray) (c : UInt8) : (w ++ ⟨#[c]⟩).size = w.size + 1 := by
  rw [← bl_len, ← bl_len, bl_push, List.length_append]
  rfl
theorem strsV_push (m : Nat) (g : Nat → ByteArray) (w : ByteArray) : strsV m g ++ [.string w] = strsV (m + 1) (updS g m w) := by
  rw [← strsV_succ]
  have e : strsV m (updS g m w) = strsV m g := by
    unfold strsV
    refine List.map_congr_left fun i hi => ?_
    unfold updS
    rw [if_neg (by have := List.mem_range.1 hi; omega)]
  rw [e]
  unfold updS
  rw [if_pos rfl]

theorem obs_by {ρ : Nat → Nat} {m : Nat} {y : Nat → Nat} {x : AObj} (e : x = .cells (byL6 y) true [] (some 42)) : RenO ρ m x (byO6 y) := RenO.row (c := byL6 y) (lv := true) (p := []) (ty := some 42) e (byL6_plain y) (fun h => h) (.inr rfl)
noncomputable def q4 : Code := bodyOf Tryz.f4
noncomputable def lpW : Code := within (tl (hd (behind 2 q4)))
noncomputable def B1 : Code := within (hd (tl (tl (within lpW))))
noncomputable def lpL : Code := within (tl (hd (tl (tl B1))))
noncomputable def Sw (a K i : Nat) (sl : Value) : List (Nat × Value) := [(0, .int .u8 (.ofNat a)), (4, ptrC 0), (5, ptrC 1), (7, sl), (25, i64 K), (26, i64 i)]
noncomputable def Sl (a K i L k : Nat) (w : ByteArray) (sl : Value) : List (Nat × Value) := [(0, .int .u8 (.ofNat a)), (4, ptrC 0), (5, ptrC 1), (7, sl), (25, i64 K), (26, i64 i), (8, i64 i), (9, .string w), (33, i64 L), (34, i64 k)]
noncomputable def Sd (a K i : Nat) (w : ByteArray) (sl : Value) : List (Nat × Value) := [(0, .int .u8 (.ofNat a)), (4, ptrC 0), (5, ptrC 1), (7, sl), (25, i64 K), (26, i64 i), (9, .string w)]
theorem w2_clo {y z : Nat → Nat} : ∀ x ∈ [byO6 y, byO6 z], CloO 2 x := fun x hx => by
  simp only [List.mem_cons, List.mem_nil_iff, or_false] at hx
  rcases hx with rfl | rfl
  · exact cloO_plain (byL6_plain _) _ _
  · exact cloO_plain (byL6_plain _) _ _
theorem w3_clo {y z : Nat → Nat} {m : Nat} {g : Nat → ByteArray} : ∀ x ∈ [byO6 y, byO6 z, rowS m g], CloO 3 x := fun x hx => by
  simp only [List.mem_cons, List.mem_nil_iff, or_false] at hx
  rcases hx with rfl | rfl | rfl
  · exact cloO_plain (byL6_plain _) _ _
  · exact cloO_plain (byL6_plain _) _ _
  · exact cloO_plain (strsV_plain m g) _ _

theorem let_loopA (y z : Nat → Nat) (a K L : Nat) (hL : L ≤ 3) : ∀ d k w, k + d = L → w.size = k → allBS w = true →
    Runs Tryz.prog 0 lpL (sth (Sl a K 0 L k w (.slice none 0 0)) 177 [byO6 y, byO6 z]) fun e af => e = .exit 2 ∧ ∃ w', GoodW w' ∧ Less 0 (sth (Sd a K 0 w' (.slice none 0 0)) 177 [byO6 y, byO6 z]) af
  | 0, k, w, h, hs, hb => by
    have e : k = L := by omega
    subst e
    refine Runs.lp (by kernel_rfl) (Runs.sqR mixed hk38 [] (by kernel_rfl) (by kernel_rfl) (by kernel_rfl) oblN (Runs.sq (by kernel_rfl) ?_))
    refine Runs.cd (b := ltF (.ofNat k) (.ofNat k)) (by kernel_rfl) (fun ht => by rw [lt_self] at ht; cases ht) (fun _ => Runs.now (x := .exit 2) (by kernel_rfl) ⟨rfl, w, ⟨hb, by omega⟩, ?_⟩)
    exact (less_seenP (clo_all (k := 2) (by kernel_rfl)) w2_clo (Nat.zero_le _) (by kernel_rfl) (by kernel_rfl) (by kernel_rfl) (by kernel_rfl))
  | d + 1, k, w, h, hs, hb => by
    have hlt : k < L := by omega
    have e1 : wrapF .i64 (Int.add (.ofNat k) (.ofNat 1)) = .ofNat (k + 1) := wrap_addN (by omega)
    have hw : w.size < 1000000 := by omega
    have ha := arr6 (i := 0) (r := 1) (by omega)
    have fin : ∀ c : UInt8, c = 98 ∨ c = 115 → ∀ af, Less 0 (sth (Sl a K 0 L k (w ++ ⟨#[c]⟩) (.slice none 0 0)) 177 [byO6 y, byO6 z]) af → Runs Tryz.prog 0 (tl (tl (tl (within lpL)))) af
        (andThen (fun a1 => Runs Tryz.prog 0 lpL a1 fun e af => e = .exit 2 ∧ ∃ w', GoodW w' ∧ Less 0 (sth (Sd a K 0 w' (.slice none 0 0)) 177 [byO6 y, byO6 z]) af) fun e af => e = .exit 2 ∧ ∃ w', GoodW w' ∧ Less 0 (sth (Sd a K 0 w' (.slice none 0 0)) 177 [byO6 y, byO6 z]) af) := by
      intro c hc af lss
      refine Runs.less lss ?_
      refine Runs.rg mixed hk38 [viaV 0 (i64 (k + 1))] (by kernel_rfl) (by kernel_rfl) (by kernel_rfl) (oblC (shown_eq (v := .int .i64 (wrapF .i64 (Int.add (.ofNat k) (.ofNat 1)))) (by kernel_rfl) (by kernel_rfl) (by rw [e1]; rfl)) oblN) ?_
      show Runs Tryz.prog 0 lpL _ _
      exact Runs.less (af1 := sth (Sl a K 0 L (k + 1) (w ++ ⟨#[c]⟩) (.slice none 0 0)) 177 [byO6 y, byO6 z]) (less_seenP (clo_all (k := 2) (by kernel_rfl)) w2_clo (Nat.zero_le _) (by kernel_rfl) (by kernel_rfl) (by kernel_rfl) (by kernel_rfl)) (let_loopA y z a K L hL d (k + 1) (w ++ ⟨#[c]⟩) (by omega) (by rw [size_snoc]; omega) (bs_snoc hc hb))
    refine Runs.lp (by kernel_rfl) (Runs.sqR mixed hk38 [] (by kernel_rfl) (by kernel_rfl) (by kernel_rfl) oblN (Runs.sq (by kernel_rfl) ?_))
    refine Runs.cd (b := ltF (.ofNat k) (.ofNat L)) (by kernel_rfl) (fun _ => Runs.now (x := .normal) (by kernel_rfl) ?_) (fun hf => by rw [lt_of hlt] at hf; cases hf)
    show Runs Tryz.prog 0 _ _ _
    refine Runs.sq (by kernel_rfl) (Runs.bk (id := 3) (by kernel_rfl) ?_)
    refine Runs.sqR mixed hk38 [] (by kernel_rfl) (by kernel_rfl) (by kernel_rfl) oblN ?_
    have hq := shr_u8 (z 0) k
    generalize z 0 / 2 ^ min k 8 = q at *
    have hn := and_u8 q
    rcases Nat.mod_two_eq_zero_or_one q with hc | hc <;> rw [hc] at hn
    · refine Runs.rg mixed hk38 [viaV 2 (.pointer (some ⟨1, 0 + 0 * 1, none⟩)), viaV 3 (.int .u8 (.ofNat (z 0))), viaV 5 (.int .u8 (.ofNat q)), viaV 6 (.int .u8 (.ofNat 0)), viaV 8 (.pointer (some ⟨1, 0 + 0 * 1, none⟩)), viaV 9 (.int .u8 (.ofNat (z 0))), viaV 11 (.int .u8 (.ofNat q)), viaV 12 (.int .u8 (.ofNat 0)), viaV 14 (.string ⟨#[98]⟩), viaV 15 (.string (w ++ ⟨#[98]⟩))] (by kernel_rfl) (by kernel_rfl) (by kernel_rfl)
        (oblC ⟨by kernel_rfl, (show _ = (indexAddrA Tryz.prog 42 (.pointer (some ⟨1, 0, none⟩)) (i64 0)).map (·, hp [byO6 y, byO6 z]) by kernel_rfl).trans (by rw [ha]; rfl)⟩
        (oblC (shown_cell (by kernel_rfl) (by6_at (r := 1) (y := z) (by kernel_rfl) (by omega)))
        (oblC ⟨by kernel_rfl, (show _ = (shiftA .shr .u8 (.ofNat (z 0)) (.ofNat k)).map (·, hp [byO6 y, byO6 z]) by kernel_rfl).trans (by rw [hq]; rfl)⟩
        (oblC ⟨by kernel_rfl, (show _ = (intBin .and .u8 (.ofNat q) (.ofNat 1)).map (·, hp [byO6 y, byO6 z]) by kernel_rfl).trans (by rw [hn]; rfl)⟩
        (oblC ⟨by kernel_rfl, (show _ = (indexAddrA Tryz.prog 42 (.pointer (some ⟨1, 0, none⟩)) (i64 0)).map (·, hp [byO6 y, byO6 z]) by kernel_rfl).trans (by rw [ha]; rfl)⟩
        (oblC (shown_cell (by kernel_rfl) (by6_at (r := 1) (y := z) (by kernel_rfl) (by omega)))
        (oblC ⟨by kernel_rfl, (show _ = (shiftA .shr .u8 (.ofNat (z 0)) (.ofNat k)).map (·, hp [byO6 y, byO6 z]) by kernel_rfl).trans (by rw [hq]; rfl)⟩
        (oblC ⟨by kernel_rfl, (show _ = (intBin .and .u8 (.ofNat q) (.ofNat 1)).map (·, hp [byO6 y, byO6 z]) by kernel_rfl).trans (by rw [hn]; rfl)⟩
        (oblC ⟨by kernel_rfl, by kernel_rfl⟩ (oblC ⟨by kernel_rfl, (show _ = (strBin .add w ⟨#[98]⟩).map (·, hp [byO6 y, byO6 z]) by kernel_rfl).trans (by rw [str_add 98 hw]; rfl)⟩ oblN)))))))))) ?_
      exact fin 98 (.inl rfl) _ (less_seenP (clo_all (k := 2) (by kernel_rfl)) w2_clo (Nat.zero_le _) (by kernel_rfl) (by kernel_rfl) (by kernel_rfl) (by kernel_rfl))
    · refine Runs.rg mixed hk38 [viaV 2 (.pointer (some ⟨1, 0 + 0 * 1, none⟩)), viaV 3 (.int .u8 (.ofNat (z 0))), viaV 5 (.int .u8 (.ofNat q)), viaV 6 (.int .u8 (.ofNat 1)), viaV 8 (.pointer (some ⟨1, 0 + 0 * 1, none⟩)), viaV 9 (.int .u8 (.ofNat (z 0))), viaV 11 (.int .u8 (.ofNat q)), viaV 12 (.int .u8 (.ofNat 1)), viaV 14 (.string ⟨#[115]⟩), viaV 15 (.string (w ++ ⟨#[115]⟩))] (by kernel_rfl) (by kernel_rfl) (by kernel_rfl)
        (oblC ⟨by kernel_rfl, (show _ = (indexAddrA Tryz.prog 42 (.pointer (some ⟨1, 0, none⟩)) (i64 0)).map (·, hp [byO6 y, byO6 z]) by kernel_rfl).trans (by rw [ha]; rfl)⟩
        (oblC (shown_cell (by kernel_rfl) (by6_at (r := 1) (y := z) (by kernel_rfl) (by omega)))
        (oblC ⟨by kernel_rfl, (show _ = (shiftA .shr .u8 (.ofNat (z 0)) (.ofNat k)).map (·, hp [byO6 y, byO6 z]) by kernel_rfl).trans (by rw [hq]; rfl)⟩
        (oblC ⟨by kernel_rfl, (show _ = (intBin .and .u8 (.ofNat q) (.ofNat 1)).map (·, hp [byO6 y, byO6 z]) by kernel_rfl).trans (by rw [hn]; rfl)⟩
        (oblC ⟨by kernel_rfl, (show _ = (indexAddrA Tryz.prog 42 (.pointer (some ⟨1, 0, none⟩)) (i64 0)).map (·, hp [byO6 y, byO6 z]) by kernel_rfl).trans (by rw [ha]; rfl)⟩
        (oblC (shown_cell (by kernel_rfl) (by6_at (r := 1) (y := z) (by kernel_rfl) (by omega)))
        (oblC ⟨by kernel_rfl, (show _ = (shiftA .shr .u8 (.ofNat (z 0)) (.ofNat k)).map (·, hp [byO6 y, byO6 z]) by kernel_rfl).trans (by rw [hq]; rfl)⟩
        (oblC ⟨by kernel_rfl, (show _ = (intBin .and .u8 (.ofNat q) (.ofNat 1)).map (·, hp [byO6 y, byO6 z]) by kernel_rfl).trans (by rw [hn]; rfl)⟩
        (oblC ⟨by kernel_rfl, by kernel_rfl⟩ (oblC ⟨by kernel_rfl, (show _ = (strBin .add w ⟨#[115]⟩).map (·, hp [byO6 y, byO6 z]) by kernel_rfl).trans (by rw [str_add 115 hw]; rfl)⟩ oblN)))))))))) ?_
      exact fin 115 (.inr rfl) _ (less_seenP (clo_all (k := 2) (by kernel_rfl)) w2_clo (Nat.zero_le _) (by kernel_rfl) (by kernel_rfl) (by kernel_rfl) (by kernel_rfl))
theorem let_loopB (y z : Nat → Nat) (a K L : Nat) (hL : L ≤ 3) (i : Nat) (hi : i < 6) (g : Nat → ByteArray) : ∀ d k w, k + d = L → w.size = k → allBS w = true →
    Runs Tryz.prog 0 lpL (sth (Sl a K i L k w (bldV 2 i)) 177 [byO6 y, byO6 z, rowS i g]) fun e af => e = .exit 2 ∧ ∃ w', GoodW w' ∧ Less 0 (sth (Sd a K i w' (bldV 2 i)) 177 [byO6 y, byO6 z, rowS i g]) af
  | 0, k, w, h, hs, hb => by
    have e : k = L := by omega
    subst e
    refine Runs.lp (by kernel_rfl) (Runs.sqR mixed hk38 [] (by kernel_rfl) (by kernel_rfl) (by kernel_rfl) oblN (Runs.sq (by kernel_rfl) ?_))
    refine Runs.cd (b := ltF (.ofNat k) (.ofNat k)) (by kernel_rfl) (fun ht => by rw [lt_self] at ht; cases ht) (fun _ => Runs.now (x := .exit 2) (by kernel_rfl) ⟨rfl, w, ⟨hb, by omega⟩, ?_⟩)
    exact (less_seenP (clo_all (k := 3) (by kernel_rfl)) w3_clo (Nat.zero_le _) (by kernel_rfl) (by kernel_rfl) (by kernel_rfl) (by kernel_rfl))
  | d + 1, k, w, h, hs, hb => by
    have hlt : k < L := by omega
    have e1 : wrapF .i64 (Int.add (.ofNat k) (.ofNat 1)) = .ofNat (k + 1) := wrap_addN (by omega)
    have hw : w.size < 1000000 := by omega
    have ha := arr6 (i := i) (r := 1) (by omega)
    have fin : ∀ c : UInt8, c = 98 ∨ c = 115 → ∀ af, Less 0 (sth (Sl a K i L k (w ++ ⟨#[c]⟩) (bldV 2 i)) 177 [byO6 y, byO6 z, rowS i g]) af → Runs Tryz.prog 0 (tl (tl (tl (within lpL)))) af
        (andThen (fun a1 => Runs Tryz.prog 0 lpL a1 fun e af => e = .exit 2 ∧ ∃ w', GoodW w' ∧ Less 0 (sth (Sd a K i w' (bldV 2 i)) 177 [byO6 y, byO6 z, rowS i g]) af) fun e af => e = .exit 2 ∧ ∃ w', GoodW w' ∧ Less 0 (sth (Sd a K i w' (bldV 2 i)) 177 [byO6 y, byO6 z, rowS i g]) af) := by
      intro c hc af lss
      refine Runs.less lss ?_
      refine Runs.rg mixed hk38 [viaV 0 (i64 (k + 1))] (by kernel_rfl) (by kernel_rfl) (by kernel_rfl) (oblC (shown_eq (v := .int .i64 (wrapF .i64 (Int.add (.ofNat k) (.ofNat 1)))) (by kernel_rfl) (by kernel_rfl) (by rw [e1]; rfl)) oblN) ?_
      show Runs Tryz.prog 0 lpL _ _
      exact Runs.less (af1 := sth (Sl a K i L (k + 1) (w ++ ⟨#[c]⟩) (bldV 2 i)) 177 [byO6 y, byO6 z, rowS i g]) (less_seenP (clo_all (k := 3) (by kernel_rfl)) w3_clo (Nat.zero_le _) (by kernel_rfl) (by kernel_rfl) (by kernel_rfl) (by kernel_rfl)) (let_loopB y z a K L hL i hi g d (k + 1) (w ++ ⟨#[c]⟩) (by omega) (by rw [size_snoc]; omega) (bs_snoc hc hb))
    refine Runs.lp (by kernel_rfl) (Runs.sqR mixed hk38 [] (by kernel_rfl) (by kernel_rfl) (by kernel_rfl) oblN (Runs.sq (by kernel_rfl) ?_))
    refine Runs.cd (b := ltF (.ofNat k) (.ofNat L)) (by kernel_rfl) (fun _ => Runs.now (x := .normal) (by kernel_rfl) ?_) (fun hf => by rw [lt_of hlt] at hf; cases hf)
    show Runs Tryz.prog 0 _ _ _
    refine Runs.sq (by kernel_rfl) (Runs.bk (id := 3) (by kernel_rfl) ?_)
    refine Runs.sqR mixed hk38 [] (by kernel_rfl) (by kernel_rfl) (by kernel_rfl) oblN ?_
    have hq := shr_u8 (z i) k
    generalize z i / 2 ^ min k 8 = q at *
    have hn := and_u8 q
    rcases Nat.mod_two_eq_zero_or_one q with hc | hc <;> rw [hc] at hn
    · refine Runs.rg mixed hk38 [viaV 2 (.pointer (some ⟨1, 0 + i * 1, none⟩)), viaV 3 (.int .u8 (.ofNat (z i))), viaV 5 (.int .u8 (.ofNat q)), viaV 6 (.int .u8 (.ofNat 0)), viaV 8 (.pointer (some ⟨1, 0 + i * 1, none⟩)), viaV 9 (.int .u8 (.ofNat (z i))), viaV 11 (.int .u8 (.ofNat q)), viaV 12 (.int .u8 (.ofNat 0)), viaV 14 (.string ⟨#[98]⟩), viaV 15 (.string (w ++ ⟨#[98]⟩))] (by kernel_rfl) (by kernel_rfl) (by kernel_rfl)
        (oblC ⟨by kernel_rfl, (show _ = (indexAddrA Tryz.prog 42 (.pointer (some ⟨1, 0, none⟩)) (i64 i)).map (·, hp [byO6 y, byO6 z, rowS i g]) by kernel_rfl).trans (by rw [ha]; rfl)⟩
        (oblC (shown_cell (by kernel_rfl) (by6_at (r := 1) (y := z) (by kernel_rfl) (by omega)))
        (oblC ⟨by kernel_rfl, (show _ = (shiftA .shr .u8 (.ofNat (z i)) (.ofNat k)).map (·, hp [byO6 y, byO6 z, rowS i g]) by kernel_rfl).trans (by rw [hq]; rfl)⟩
        (oblC ⟨by kernel_rfl, (show _ = (intBin .and .u8 (.ofNat q) (.ofNat 1)).map (·, hp [byO6 y, byO6 z, rowS i g]) by kernel_rfl).trans (by rw [hn]; rfl)⟩
        (oblC ⟨by kernel_rfl, (show _ = (indexAddrA Tryz.prog 42 (.pointer (some ⟨1, 0, none⟩)) (i64 i)).map (·, hp [byO6 y, byO6 z, rowS i g]) by kernel_rfl).trans (by rw [ha]; rfl)⟩
        (oblC (shown_cell (by kernel_rfl) (by6_at (r := 1) (y := z) (by kernel_rfl) (by omega)))
        (oblC ⟨by kernel_rfl, (show _ = (shiftA .shr .u8 (.ofNat (z i)) (.ofNat k)).map (·, hp [byO6 y, byO6 z, rowS i g]) by kernel_rfl).trans (by rw [hq]; rfl)⟩
        (oblC ⟨by kernel_rfl, (show _ = (intBin .and .u8 (.ofNat q) (.ofNat 1)).map (·, hp [byO6 y, byO6 z, rowS i g]) by kernel_rfl).trans (by rw [hn]; rfl)⟩
        (oblC ⟨by kernel_rfl, by kernel_rfl⟩ (oblC ⟨by kernel_rfl, (show _ = (strBin .add w ⟨#[98]⟩).map (·, hp [byO6 y, byO6 z, rowS i g]) by kernel_rfl).trans (by rw [str_add 98 hw]; rfl)⟩ oblN)))))))))) ?_
      exact fin 98 (.inl rfl) _ (less_seenP (clo_all (k := 3) (by kernel_rfl)) w3_clo (Nat.zero_le _) (by kernel_rfl) (by kernel_rfl) (by kernel_rfl) (by kernel_rfl))
    · refine Runs.rg mixed hk38 [viaV 2 (.pointer (some ⟨1, 0 + i * 1, none⟩)), viaV 3 (.int .u8 (.ofNat (z i))), viaV 5 (.int .u8 (.ofNat q)), viaV 6 (.int .u8 (.ofNat 1)), viaV 8 (.pointer (some ⟨1, 0 + i * 1, none⟩)), viaV 9 (.int .u8 (.ofNat (z i))), viaV 11 (.int .u8 (.ofNat q)), viaV 12 (.int .u8 (.ofNat 1)), viaV 14 (.string ⟨#[115]⟩), viaV 15 (.string (w ++ ⟨#[115]⟩))] (by kernel_rfl) (by kernel_rfl) (by kernel_rfl)
        (oblC ⟨by kernel_rfl, (show _ = (indexAddrA Tryz.prog 42 (.pointer (some ⟨1, 0, none⟩)) (i64 i)).map (·, hp [byO6 y, byO6 z, rowS i g]) by kernel_rfl).trans (by rw [ha]; rfl)⟩
        (oblC (shown_cell (by kernel_rfl) (by6_at (r := 1) (y := z) (by kernel_rfl) (by omega)))
        (oblC ⟨by kernel_rfl, (show _ = (shiftA .shr .u8 (.ofNat (z i)) (.ofNat k)).map (·, hp [byO6 y, byO6 z, rowS i g]) by kernel_rfl).trans (by rw [hq]; rfl)⟩
        (oblC ⟨by kernel_rfl, (show _ = (intBin .and .u8 (.ofNat q) (.ofNat 1)).map (·, hp [byO6 y, byO6 z, rowS i g]) by kernel_rfl).trans (by rw [hn]; rfl)⟩
        (oblC ⟨by kernel_rfl, (show _ = (indexAddrA Tryz.prog 42 (.pointer (some ⟨1, 0, none⟩)) (i64 i)).map (·, hp [byO6 y, byO6 z, rowS i g]) by kernel_rfl).trans (by rw [ha]; rfl)⟩
        (oblC (shown_cell (by kernel_rfl) (by6_at (r := 1) (y := z) (by kernel_rfl) (by omega)))
        (oblC ⟨by kernel_rfl, (show _ = (shiftA .shr .u8 (.ofNat (z i)) (.ofNat k)).map (·, hp [byO6 y, byO6 z, rowS i g]) by kernel_rfl).trans (by rw [hq]; rfl)⟩
        (oblC ⟨by kernel_rfl, (show _ = (intBin .and .u8 (.ofNat q) (.ofNat 1)).map (·, hp [byO6 y, byO6 z, rowS i g]) by kernel_rfl).trans (by rw [hn]; rfl)⟩
        (oblC ⟨by kernel_rfl, by kernel_rfl⟩ (oblC ⟨by kernel_rfl, (show _ = (strBin .add w ⟨#[115]⟩).map (·, hp [byO6 y, byO6 z, rowS i g]) by kernel_rfl).trans (by rw [str_add 115 hw]; rfl)⟩ oblN)))))))))) ?_
      exact fin 115 (.inr rfl) _ (less_seenP (clo_all (k := 3) (by kernel_rfl)) w3_clo (Nat.zero_le _) (by kernel_rfl) (by kernel_rfl) (by kernel_rfl) (by kernel_rfl))
/-- What stands behind the loop over words. -/
def WordsAt (y z : Nat → Nat) (a K : Nat) (e : AExit) (af : AF) : Prop := e = .exit 0 ∧ ∃ g, (∀ j, j < K → GoodW (g j)) ∧ Less 0 (sth [(0, .int .u8 (.ofNat a)), (7, bldV 2 K)] 177 [byO6 y, byO6 z, rowS K g]) af
theorem good_upd {g : Nat → ByteArray} {i : Nat} {w : ByteArray} (h : ∀ j, j < i → GoodW (g j)) (hw : GoodW w) : ∀ j, j < i + 1 → GoodW (updS g i w j) := fun j hj => by
  unfold updS
  by_cases e : j = i
  · rw [if_pos e]; exact hw
  · rw [if_neg e]; exact h j (by omega)
theorem words_rest (y z : Nat → Nat) (hy : ∀ i, y i < 256) (a K : Nat) (hK : K ≤ 6) : ∀ d i g, i + d = K → (∀ j, j < i → GoodW (g j)) →
    Runs Tryz.prog 0 lpW (sth (Sw a K i (bldV 2 i)) 177 [byO6 y, byO6 z, rowS i g]) (WordsAt y z a K)
  | 0, i, g, h, hg => by
    have e : i = K := by omega
    subst e
    refine Runs.lp (by kernel_rfl) (Runs.sqR mixed hk38 [] (by kernel_rfl) (by kernel_rfl) (by kernel_rfl) oblN (Runs.sq (by kernel_rfl) ?_))
    refine Runs.cd (b := ltF (.ofNat i) (.ofNat i)) (by kernel_rfl) (fun ht => by rw [lt_self] at ht; cases ht) (fun _ => Runs.now (x := .exit 0) (by kernel_rfl) ⟨rfl, g, hg, ?_⟩)
    exact less_seenP (clo_all (k := 3) (by kernel_rfl)) w3_clo (Nat.zero_le _) (by kernel_rfl) (by kernel_rfl) (by kernel_rfl) (by kernel_rfl)
  | d + 1, i, g, h, hg => by
    have hlt : i < K := by omega
    have hyi := hy i
    have e1 : wrapF .i64 (Int.add (.ofNat i) (.ofNat 1)) = .ofNat (i + 1) := wrap_addN (by omega)
    have ha := arr6 (i := i) (r := 0) (by omega)
    refine Runs.lp (by kernel_rfl) (Runs.sqR mixed hk38 [] (by kernel_rfl) (by kernel_rfl) (by kernel_rfl) oblN (Runs.sq (by kernel_rfl) ?_))
    refine Runs.cd (b := ltF (.ofNat i) (.ofNat K)) (by kernel_rfl) (fun _ => Runs.now (x := .normal) (by kernel_rfl) ?_) (fun hf => by rw [lt_of hlt] at hf; cases hf)
    show Runs Tryz.prog 0 _ _ _
    refine Runs.sq (by kernel_rfl) (Runs.bk (id := 1) (by kernel_rfl) ?_)
    refine Runs.sqR mixed hk38 [] (by kernel_rfl) (by kernel_rfl) (by kernel_rfl) oblN ?_
    refine Runs.sqR mixed hk38 [] (by kernel_rfl) (by kernel_rfl) (by kernel_rfl) oblN ?_
    refine Runs.sq (by kernel_rfl) (Runs.sqR mixed hk38 [viaV 1 (.pointer (some ⟨0, 0 + i * 1, none⟩)), viaV 2 (.int .u8 (.ofNat (y i))), viaV 3 (.int .i64 (.ofNat (y i))), viaV 4 (i64 (y i % 4))] (by kernel_rfl) (by kernel_rfl) (by kernel_rfl)
      (oblC ⟨by kernel_rfl, (show _ = (indexAddrA Tryz.prog 42 (.pointer (some ⟨0, 0, none⟩)) (i64 i)).map (·, hp [byO6 y, byO6 z, rowS i g]) by kernel_rfl).trans (by rw [ha]; rfl)⟩
      (oblC (shown_cell (by kernel_rfl) (by6_at (r := 0) (y := y) (by kernel_rfl) (by omega)))
      (oblC (shown_eq (v := .int .i64 (IntKind.wrap .i64 (.ofNat (y i)))) (by kernel_rfl) (by kernel_rfl) (by rw [wrapZ hyi]))
      (oblC ⟨by kernel_rfl, by kernel_rfl⟩ oblN)))) (Runs.bk (id := 2) (by kernel_rfl) ?_))
    have hL : y i % 4 ≤ 3 := by have : y i % 4 < 4 := Nat.mod_lt _ (by decide); omega
    generalize y i % 4 = L at *
    refine Runs.less (af1 := sth (Sl a K i L 0 ⟨#[]⟩ (bldV 2 i)) 177 [byO6 y, byO6 z, rowS i g]) (less_seenP (clo_all (k := 3) (by kernel_rfl)) w3_clo (Nat.zero_le _) (by kernel_rfl) (by kernel_rfl) (by kernel_rfl) (by kernel_rfl)) ?_
    show Runs Tryz.prog 0 lpL _ _
    refine (let_loopB y z a K L hL i (by omega) g L 0 ⟨#[]⟩ (by omega) rfl rfl).mono fun e af hx => ?_
    obtain ⟨rfl, w, hw, less⟩ := hx
    show Runs Tryz.prog 0 _ af _
    refine Runs.less less ?_
    let H0 : AH := hp [byO6 y, byO6 z, rowS i g]
    let H2 : AH := (H0.new (.cells [.string w] true [] (some 9))).2
    have hap := push_gen (st := 30) (e := 9) (by kernel_rfl) str_info (h := H2) (i := 2) (j := 3) (x := .string w) (par := []) rfl (strsV_len i g) (by omega) (by kernel_rfl) (by kernel_rfl)
    refine Runs.rg mixed hk38 [⟨3, bldV 4 (i + 1), some ((H2.put 2 (.cells (strsV i g) false [] (some 9))).new (.cells (strsV i g ++ [Value.string w]) true [2] (some 9))).2, none⟩] (by kernel_rfl) (by kernel_rfl) (by kernel_rfl)
      (oblC ⟨by kernel_rfl, (show _ = appendA Tryz.prog #[30, 30] (.slice (some ⟨2, 0, some 1⟩) i i) (.slice (some ⟨3, 0, none⟩) 1 1) H2 by kernel_rfl).trans hap⟩ oblN) ?_
    show Runs Tryz.prog 0 _ _ _
    refine Runs.rg mixed hk38 [viaV 0 (i64 (i + 1))] (by kernel_rfl) (by kernel_rfl) (by kernel_rfl) (oblC (shown_eq (v := .int .i64 (wrapF .i64 (Int.add (.ofNat i) (.ofNat 1)))) (by kernel_rfl) (by kernel_rfl) (by rw [e1]; rfl)) oblN) ?_
    show Runs Tryz.prog 0 lpW _ _
    exact Runs.renumK (sz := 177) (l := Sw a K (i + 1) (bldV 2 (i + 1))) (os := [byO6 y, byO6 z, rowS (i + 1) (updS g i w)]) (fun j => match j with | 2 => 4 | j => j) (fun j => match j with | 4 => 2 | j => j) (by kernel_rfl) (show 0 ≤ 3 by decide) (by kernel_rfl) ⟨fun h => (by cases h), fun h => (by cases h), fun h => (by cases h), trivial⟩ (by kernel_rfl) (by kernel_rfl) (by kernel_rfl) (by kernel_rfl)
      (obs3 (obs_by (by kernel_rfl)) (obs_by (by kernel_rfl)) (obs_rowS (p := [2]) (c := strsV i g ++ [Value.string w]) (by kernel_rfl) (strsV_push i g w))) (words_rest y z hy a K hK d (i + 1) (updS g i w) (by omega) (good_upd hg hw))
theorem words_first (y z : Nat → Nat) (hy : ∀ i, y i < 256) (a K : Nat) (hK : K ≤ 6) (h1 : 1 ≤ K) : Runs Tryz.prog 0 lpW (sth (Sw a K 0 (.slice none 0 0)) 177 [byO6 y, byO6 z]) (WordsAt y z a K) := by
    have hyi := hy 0
    refine Runs.lp (by kernel_rfl) (Runs.sqR mixed hk38 [] (by kernel_rfl) (by kernel_rfl) (by kernel_rfl) oblN (Runs.sq (by kernel_rfl) ?_))
    refine Runs.cd (b := ltF (.ofNat 0) (.ofNat K)) (by kernel_rfl) (fun _ => Runs.now (x := .normal) (by kernel_rfl) ?_) (fun hf => by rw [lt_of h1] at hf; cases hf)
    show Runs Tryz.prog 0 _ _ _
    refine Runs.sq (by kernel_rfl) (Runs.bk (id := 1) (by kernel_rfl) ?_)
    refine Runs.sqR mixed hk38 [] (by kernel_rfl) (by kernel_rfl) (by kernel_rfl) oblN ?_
    refine Runs.sqR mixed hk38 [] (by kernel_rfl) (by kernel_rfl) (by kernel_rfl) oblN ?_
    refine Runs.sq (by kernel_rfl) (Runs.sqR mixed hk38 [viaV 2 (.int .u8 (.ofNat (y 0))), viaV 3 (.int .i64 (.ofNat (y 0))), viaV 4 (i64 (y 0 % 4))] (by kernel_rfl) (by kernel_rfl) (by kernel_rfl)
      (oblC (shown_cell (g := 0) (off := 0 + 0 * 1) (by kernel_rfl) (by6_at (r := 0) (y := y) (i := 0) (by kernel_rfl) (by omega)))
      (oblC (shown_eq (v := .int .i64 (IntKind.wrap .i64 (.ofNat (y 0)))) (by kernel_rfl) (by kernel_rfl) (by rw [wrapZ hyi]))
      (oblC ⟨by kernel_rfl, by kernel_rfl⟩ oblN))) (Runs.bk (id := 2) (by kernel_rfl) ?_))
    have hL : y 0 % 4 ≤ 3 := by have : y 0 % 4 < 4 := Nat.mod_lt _ (by decide); omega
    generalize y 0 % 4 = L at *
    refine Runs.less (af1 := sth (Sl a K 0 L 0 ⟨#[]⟩ (.slice none 0 0)) 177 [byO6 y, byO6 z]) (less_seenP (clo_all (k := 2) (by kernel_rfl)) w2_clo (Nat.zero_le _) (by kernel_rfl) (by kernel_rfl) (by kernel_rfl) (by kernel_rfl)) ?_
    show Runs Tryz.prog 0 lpL _ _
    refine (let_loopA y z a K L hL L 0 ⟨#[]⟩ (by omega) rfl rfl).mono fun e af hx => ?_
    obtain ⟨rfl, w, hw, less⟩ := hx
    show Runs Tryz.prog 0 _ af _
    refine Runs.less less ?_
    refine Runs.rg mixed hk38 [] (by kernel_rfl) (by kernel_rfl) (by kernel_rfl) oblN ?_
    show Runs Tryz.prog 0 _ _ _
    refine Runs.rg mixed hk38 [] (by kernel_rfl) (by kernel_rfl) (by kernel_rfl) oblN ?_
    show Runs Tryz.prog 0 lpW _ _
    exact Runs.renumK (sz := 177) (l := Sw a K 1 (bldV 2 1)) (os := [byO6 y, byO6 z, rowS 1 (fun _ => w)]) (fun j => match j with | 2 => 3 | j => j) (fun j => match j with | 3 => 2 | j => j) (by kernel_rfl) (show 0 ≤ 3 by decide) (by kernel_rfl) ⟨fun h => (by cases h), fun h => (by cases h), fun h => (by cases h), trivial⟩ (by kernel_rfl) (by kernel_rfl) (by kernel_rfl) (by kernel_rfl)
      (obs3 (obs_by (by kernel_rfl)) (obs_by (by kernel_rfl)) (obs_rowS (p := []) (c := [Value.string w]) (by kernel_rfl) rfl)) (words_rest y z hy a K hK (K - 1) 1 (fun _ => w) (by omega) (fun j _ => hw))

end
end Go.Proofs.YtgnkjmgkfibipaaGreatDoor
