/- TrialChecked: a list out of numbers: the law's first loop. -/
import Derived.Test.YtgnkjmgkfibipaaDoorQKG5
namespace Go.Proofs.YtgnkjmgkfibipaaDoor
set_option linter.unusedVariables false
set_option linter.unusedSimpArgs false
open Go Go.R
set_option maxRecDepth 1000000
noncomputable section

/-! ### Rows that are written -/
noncomputable def upd (f : Nat → Int) (i : Nat) (v : Int) (j : Nat) : Int := if j = i then v else f j
noncomputable def rowZ (n : Nat) (f : Nat → Int) : AObj := .cells (intsZ n f) true [] (some 3)
theorem splice1 {c : List Value} {o : Nat} {v : Value} (h : o < c.length) : splice c o [v] = c.set o v := by
  unfold splice
  rw [List.set_eq_take_append_cons_drop, if_pos h]
  simp
theorem intsZ_set {n i : Nat} (hi : i < n) (f : Nat → Int) (v : Int) : splice (intsZ n f) (0 + i * 1) [.int .i64 v] = intsZ n (upd f i v) := by
  rw [splice1 (by rw [intsZ_len]; omega), Nat.zero_add, Nat.mul_one]
  apply List.ext_getElem?
  intro k
  rw [List.getElem?_set]
  by_cases hk : k < n
  · by_cases e : i = k
    · subst e
      rw [if_pos rfl, if_pos (by rw [intsZ_len]; omega)]
      simp [intsZ, hk, upd]
    · rw [if_neg e]
      simp [intsZ, hk, upd, show ¬ k = i from fun h => e h.symm]
  · rw [if_neg (by omega)]
    rw [List.getElem?_eq_none (by rw [intsZ_len]; omega), List.getElem?_eq_none (by rw [intsZ_len]; omega)]
theorem store_Z {h : AH} {g n i : Nat} {f : Nat → Int} {v : Int} (hg : h.get g = rowZ n f) (hi : i < n) : storeA Tryd.prog 3 g (0 + i * 1) (.int .i64 v) h = some (h.put g (rowZ n (upd f i v))) := by
  obtain ⟨info, e2, e3⟩ : ∃ info, Tryd.prog.info? 3 = some info ∧ info.size = 1 := ⟨(Tryd.prog.info? 3).get!, by kernel_rfl, by kernel_rfl⟩
  have e4 : (decide ((Value.int .i64 v).cells.size = info.size) && (Value.int .i64 v).cells.toList.all cellV) = true := by rw [e3]; rfl
  unfold storeA
  simp only [e2]
  rw [if_pos e4]
  show putRow? h g (0 + i * 1) [.int .i64 v] = _
  unfold putRow?
  rw [hg]
  show (if 0 + i * 1 + 1 ≤ (intsZ n f).length then some ((h.kill []).put g (.cells (splice (intsZ n f) (0 + i * 1) [.int .i64 v]) true [] (some 3))) else none) = _
  rw [if_pos (by rw [intsZ_len]; omega), intsZ_set hi]
  rfl
theorem zero_row : ∀ n, repeatL [.int .i64 0] n = intsZ n (fun _ => 0)
  | 0 => rfl
  | n + 1 => by
    show .int .i64 0 :: repeatL [.int .i64 0] n = _
    rw [zero_row n]
    unfold intsZ
    rw [List.map_const', List.map_const', List.length_range, List.length_range]
    rfl
theorem make_Z {h : AH} {n : Nat} (hn : n ≤ 1000) : makeSliceA Tryd.prog 24 (i64 n) (i64 n) h = some (.slice (some ⟨h.next, 0, none⟩) n n, (h.new (rowZ n fun _ => 0)).2) := by
  have e1 : Tryd.prog.underlying 24 = some (.slice 3) := by kernel_rfl
  obtain ⟨info, e2, e3, e4, e5⟩ : ∃ info, Tryd.prog.info? 3 = some info ∧ info.size = 1 ∧ zeroOf info = some (.int .i64 0) ∧ Nat.ble info.bytes 1000000 = true := ⟨(Tryd.prog.info? 3).get!, by kernel_rfl, by kernel_rfl, by kernel_rfl, by kernel_rfl⟩
  rw [show i64 n = Value.int .i64 (Int.ofNat n) from rfl]
  unfold makeSliceA
  simp only [e1, e2, e4, e3]
  have c1 : (decide ((1 : Nat) ≠ (Value.int IntKind.i64 0).cells.size) || decide ((1 : Nat) = 0)) = false := by rfl
  have c2 : (0 : Int) ≤ Int.ofNat n ∧ (Int.ofNat n : Int) ≤ Int.ofNat n ∧ (Int.ofNat n : Int) ≤ 1000000 ∧ info.bytes ≤ 1000000 := ⟨Int.natCast_nonneg n, Int.le_refl _, by show (n : Int) ≤ 1000000; omega, Nat.le_of_ble_eq_true e5⟩
  rw [c1, if_pos c2]
  simp only [Bool.false_eq_true, if_false]
  show some (Value.slice (some ⟨(h.new (.cells (repeatL [.int .i64 0] n) true [] (some 3))).1, 0, none⟩) n n, (h.new (.cells (repeatL [.int .i64 0] n) true [] (some 3))).2) = _
  rw [zero_row]
  rfl

/-! ### The numbers -/
noncomputable def byL8 (y : Nat → Nat) : List Value := (List.range 8).map fun i => .int .u8 (.ofNat (y i))
noncomputable def byO8 (y : Nat → Nat) : AObj := .cells (byL8 y) true [] (some 54)
noncomputable def byV8 (y : Nat → Nat) : Value := .agg (byL8 y).toArray
theorem byL8_plain (y : Nat → Nat) : ∀ v ∈ byL8 y, plainV v = true := fun v hv => by
  obtain ⟨i, _, rfl⟩ := List.mem_map.1 hv; rfl
theorem by8_at {h : AH} {y : Nat → Nat} (hg : h.get 0 = byO8 y) {i : Nat} (hi : i < 8) : rowAt? h 0 (0 + i * 1) 1 = some [.int .u8 (.ofNat (y i))] := by
  rw [row_at hg (by simp [byL8]; omega), Nat.zero_add, Nat.mul_one]
  have : (byL8 y)[i]? = some (.int .u8 (.ofNat (y i))) := by simp [byL8, hi]
  rw [List.take_one, List.head?_drop, this]
  rfl
theorem arr_idx {i : Nat} (hi : i < 8) : indexAddrA Tryd.prog 54 (.pointer (some ⟨0, 0, none⟩)) (i64 i) = some (.pointer (some ⟨0, 0 + i * 1, none⟩)) := by
  obtain ⟨n, e1, e0⟩ : ∃ n, Tryd.prog.underlying 54 = some (.array n 5) ∧ n = 8 := ⟨8, by kernel_rfl, rfl⟩
  obtain ⟨info, e2, e3, _⟩ := byte_info
  subst e0
  unfold indexAddrA
  simp only [e1, e2, e3]
  show (if (0 : Int) ≤ .ofNat i ∧ (Int.ofNat i : Int) < ((8 : Nat) : Int) then _ else none) = _
  rw [if_pos ⟨Int.natCast_nonneg i, by show (i : Int) < 8; omega⟩]
  rfl

/-! ### A permutation -/
structure PermF (f : Nat → Int) (i : Nat) : Prop where
  lo : ∀ a, a < i → 1 ≤ f a
  hi : ∀ a, a < i → f a ≤ (i : Int)
  inj : ∀ a b, a < i → b < i → f a = f b → a = b
noncomputable def ckNext (f : Nat → Int) (i k : Nat) : Nat → Int := upd (upd (upd f i (.ofNat (i + 1))) i (upd f i (.ofNat (i + 1)) k)) k (upd f i (.ofNat (i + 1)) i)
theorem ckNext_at (f : Nat → Int) {i k : Nat} (hk : k ≤ i) (j : Nat) : ckNext f i k j = if j = k then ((i + 1 : Nat) : Int) else if j = i then f k else f j := by
  unfold ckNext upd
  by_cases e1 : j = k
  · rw [if_pos e1, if_pos e1, if_pos rfl]; rfl
  · rw [if_neg e1, if_neg e1]
    by_cases e2 : j = i
    · rw [if_pos e2, if_pos e2]
      by_cases e3 : k = i
      · exact absurd (e2.trans e3.symm) e1
      · rw [if_neg e3]
    · rw [if_neg e2, if_neg e2, if_neg e2]
theorem PermF.next {f : Nat → Int} {i k : Nat} (P : PermF f i) (hk : k ≤ i) : PermF (ckNext f i k) (i + 1) := by
  refine ⟨fun a ha => ?_, fun a ha => ?_, fun a b ha hb e => ?_⟩
  · rw [ckNext_at f hk]
    by_cases e1 : a = k
    · rw [if_pos e1]; omega
    · rw [if_neg e1]
      by_cases e2 : a = i
      · rw [if_pos e2]; exact P.lo k (by omega)
      · rw [if_neg e2]; exact P.lo a (by omega)
  · rw [ckNext_at f hk]
    by_cases e1 : a = k
    · rw [if_pos e1]; omega
    · rw [if_neg e1]
      by_cases e2 : a = i
      · rw [if_pos e2]; have := P.hi k (by omega); omega
      · rw [if_neg e2]; have := P.hi a (by omega); omega
  · rw [ckNext_at f hk, ckNext_at f hk] at e
    by_cases a1 : a = k
    · rw [if_pos a1] at e
      by_cases b1 : b = k
      · omega
      · rw [if_neg b1] at e
        by_cases b2 : b = i
        · rw [if_pos b2] at e; have := P.hi k (by omega); omega
        · rw [if_neg b2] at e; have := P.hi b (by omega); omega
    · rw [if_neg a1] at e
      by_cases b1 : b = k
      · rw [if_pos b1] at e
        by_cases a2 : a = i
        · rw [if_pos a2] at e; have := P.hi k (by omega); omega
        · rw [if_neg a2] at e; have := P.hi a (by omega); omega
      · rw [if_neg b1] at e
        by_cases a2 : a = i
        · rw [if_pos a2] at e
          by_cases b2 : b = i
          · omega
          · rw [if_neg b2] at e
            have := P.inj k b (by omega) (by omega) e
            omega
        · rw [if_neg a2] at e
          by_cases b2 : b = i
          · rw [if_pos b2] at e
            have := P.inj a k (by omega) (by omega) e
            omega
          · rw [if_neg b2] at e
            exact P.inj a b (by omega) (by omega) e

/-! ### The loop -/
noncomputable def c10 : Code := bodyOf Tryd.f10
noncomputable def lp10 : Code := within (tl (hd (behind 3 c10)))
noncomputable def sl1 (n : Nat) : Value := .slice (some ⟨1, 0, none⟩) n n
noncomputable def Sa (w n i : Nat) : List (Nat × Value) := [(2, .int .u8 (.ofNat w)), (4, ptrC 0), (7, i64 n), (8, sl1 n), (27, sl1 n), (28, i64 n), (29, i64 i)]
noncomputable def Sa9 (w n i : Nat) : List (Nat × Value) := Sa w n i ++ [(9, i64 i)]
noncomputable def Sak (w n i k : Nat) : List (Nat × Value) := Sa w n i ++ [(9, i64 i), (10, i64 k)]
theorem b2_clo {y : Nat → Nat} {n : Nat} {f : Nat → Int} : ∀ x ∈ [byO8 y, rowZ n f], CloO 2 x := fun x hx => by
  simp only [List.mem_cons, List.mem_nil_iff, or_false] at hx
  rcases hx with rfl | rfl
  · exact cloO_plain (byL8_plain y) _ _
  · exact cloO_plain (intsZ_plain n f) _ _

theorem swap_ck (w n i k : Nat) (y : Nat → Nat) (f : Nat → Int) (hi : i < n) (hk : k ≤ i) {Q : AExit → AF → Prop} (next : ∀ af, Less 0 (sth (Sa w n i) 160 [byO8 y, rowZ n (upd (upd f i (f k)) k (f i))]) af → Q .normal af) :
    Runs Tryd.prog 0 (behind 4 (within (hd (tl (tl (within lp10)))))) (sth (Sak w n i k) 160 [byO8 y, rowZ n f]) Q := by
  let H0 : AH := hp [byO8 y, rowZ n f]
  let H1 : AH := H0.put 1 (rowZ n (upd f i (f k)))
  have s1 := store_Z (h := H0) (g := 1) (n := n) (i := i) (f := f) (v := f k) (by kernel_rfl) hi
  have s2 := store_Z (h := H1) (g := 1) (n := n) (i := k) (f := upd f i (f k)) (v := f i) (by kernel_rfl) (by omega)
  refine Runs.rg mixed hk38 [viaV 6 (.pointer (some ⟨1, 0 + k * 1, none⟩)), viaV 7 (.int .i64 (f k)), viaV 10 (.pointer (some ⟨1, 0 + i * 1, none⟩)), viaV 11 (.int .i64 (f i)), viaV 12 (.pointer (some ⟨1, 0 + i * 1, none⟩)), ⟨13, undef, some H1, none⟩,
      viaV 14 (.pointer (some ⟨1, 0 + k * 1, none⟩)), ⟨15, undef, some (H1.put 1 (rowZ n (upd (upd f i (f k)) k (f i)))), none⟩] (by kernel_rfl) (by kernel_rfl) (by kernel_rfl)
    (oblC (shown_idx (n := n) (by kernel_rfl) (by omega)) (oblC (shown_cell (by kernel_rfl) (intZ_at (g := 1) (n := n) (f := f) (lv := true) (par := []) (ty := some 3) (by kernel_rfl) (by omega)))
    (oblC (shown_idx (n := n) (by kernel_rfl) hi) (oblC (shown_cell (by kernel_rfl) (intZ_at (g := 1) (n := n) (f := f) (lv := true) (par := []) (ty := some 3) (by kernel_rfl) hi))
    (oblC (shown_idx (n := n) (by kernel_rfl) hi) (oblC ⟨by kernel_rfl, (show _ = (storeA Tryd.prog 3 1 (0 + i * 1) (.int .i64 (f k)) H0).map (undef, ·) by kernel_rfl).trans (by rw [s1]; rfl)⟩
    (oblC (shown_idx (n := n) (by kernel_rfl) (by omega)) (oblC ⟨by kernel_rfl, (show _ = (storeA Tryd.prog 3 1 (0 + k * 1) (.int .i64 (f i)) H1).map (undef, ·) by kernel_rfl).trans (by rw [s2]; rfl)⟩ oblN)))))))) ?_
  exact next _ (less_seenP (clo_all (k := 2) (by kernel_rfl)) b2_clo (Nat.zero_le _) (by kernel_rfl) (by kernel_rfl) (by kernel_rfl) (by kernel_rfl))

theorem perm_loop (w n : Nat) (y : Nat → Nat) (hn : n ≤ 8) (hy : ∀ i, y i < 256) : ∀ d i f, i + d = n → PermF f i →
    Runs Tryd.prog 0 lp10 (sth (Sa w n i) 160 [byO8 y, rowZ n f]) fun e af => e = .exit 0 ∧ ∃ f', PermF f' n ∧ Less 0 (sth (Sa w n n) 160 [byO8 y, rowZ n f']) af
  | 0, i, f, h, P => by
    have e : i = n := by omega
    subst e
    refine Runs.lp (by kernel_rfl) (Runs.sqR mixed hk38 [] (by kernel_rfl) (by kernel_rfl) (by kernel_rfl) oblN (Runs.sq (by kernel_rfl) ?_))
    refine Runs.cd (b := ltF (.ofNat i) (.ofNat i)) (by kernel_rfl) (fun ht => by rw [lt_self] at ht; cases ht) (fun _ => Runs.now (x := .exit 0) (by kernel_rfl) ⟨rfl, f, P, ?_⟩)
    exact less_seenP (clo_all (k := 2) (by kernel_rfl)) b2_clo (Nat.zero_le _) (by kernel_rfl) (by kernel_rfl) (by kernel_rfl) (by kernel_rfl)
  | d + 1, i, f, h, P => by
    have hi : i < n := by omega
    have hyi := hy i
    refine Runs.lp (by kernel_rfl) (Runs.sqR mixed hk38 [] (by kernel_rfl) (by kernel_rfl) (by kernel_rfl) oblN (Runs.sq (by kernel_rfl) ?_))
    refine Runs.cd (b := ltF (.ofNat i) (.ofNat n)) (by kernel_rfl) (fun _ => Runs.now (x := .normal) (by kernel_rfl) ?_) (fun hf => by rw [lt_of hi] at hf; cases hf)
    show Runs Tryd.prog 0 _ _ _
    refine Runs.sq (by kernel_rfl) (Runs.bk (id := 1) (by kernel_rfl) ?_)
    refine Runs.sqR mixed hk38 [] (by kernel_rfl) (by kernel_rfl) (by kernel_rfl) oblN ?_
    let f1 : Nat → Int := upd f i (.ofNat (i + 1))
    have s1 := store_Z (h := hp [byO8 y, rowZ n f]) (g := 1) (n := n) (i := i) (f := f) (v := .ofNat (i + 1)) (by kernel_rfl) hi
    refine Runs.sqR mixed hk38 [viaV 3 (.int .i64 (.ofNat (i + 1))), viaV 4 (.pointer (some ⟨1, 0 + i * 1, none⟩)), ⟨5, undef, some ((hp [byO8 y, rowZ n f]).put 1 (rowZ n f1)), none⟩] (by kernel_rfl) (by kernel_rfl) (by kernel_rfl)
      (oblC (shown_eq (v := .int .i64 (wrapF .i64 (Int.add (.ofNat i) (.ofNat 1)))) (by kernel_rfl) (by kernel_rfl) (by rw [wrap_succ (by omega)]))
      (oblC (shown_idx (n := n) (by kernel_rfl) hi) (oblC ⟨by kernel_rfl, (show _ = (storeA Tryd.prog 3 1 (0 + i * 1) (.int .i64 (.ofNat (i + 1))) (hp [byO8 y, rowZ n f])).map (undef, ·) by kernel_rfl).trans (by rw [s1]; rfl)⟩ oblN))) ?_
    refine Runs.less (af1 := sth (Sa9 w n i) 160 [byO8 y, rowZ n f1]) (less_seenP (clo_all (k := 2) (by kernel_rfl)) b2_clo (Nat.zero_le _) (by kernel_rfl) (by kernel_rfl) (by kernel_rfl) (by kernel_rfl)) ?_
    have ha := arr_idx (i := i) (by omega)
    have hk : y i % (i + 1) ≤ i := by have : y i % (i + 1) < i + 1 := Nat.mod_lt _ (by omega); omega
    refine Runs.sqR mixed hk38 [viaV 1 (.pointer (some ⟨0, 0 + i * 1, none⟩)), viaV 2 (.int .u8 (.ofNat (y i))), viaV 3 (.int .i64 (.ofNat (y i))), viaV 5 (.int .i64 (.ofNat (i + 1))), viaV 6 (i64 (y i % (i + 1)))] (by kernel_rfl) (by kernel_rfl) (by kernel_rfl)
      (oblC ⟨by kernel_rfl, (show _ = (indexAddrA Tryd.prog 54 (.pointer (some ⟨0, 0, none⟩)) (i64 i)).map (·, hp [byO8 y, rowZ n f1]) by kernel_rfl).trans (by rw [ha]; rfl)⟩
      (oblC (shown_cell (by kernel_rfl) (by8_at (y := y) (by kernel_rfl) (by omega)))
      (oblC (shown_eq (v := .int .i64 (IntKind.wrap .i64 (.ofNat (y i)))) (by kernel_rfl) (by kernel_rfl) (by rw [wrap64 (by omega)]))
      (oblC (shown_eq (v := .int .i64 (wrapF .i64 (Int.add (.ofNat i) (.ofNat 1)))) (by kernel_rfl) (by kernel_rfl) (by rw [wrap_succ (by omega)]))
      (oblC ⟨by kernel_rfl, by kernel_rfl⟩ oblN))))) ?_
    refine Runs.sq (by kernel_rfl) ?_
    refine Runs.sqR mixed hk38 [viaV 1 (.pointer (some ⟨0, 0 + i * 1, none⟩)), viaV 2 (.int .u8 (.ofNat (y i)))] (by kernel_rfl) (by kernel_rfl) (by kernel_rfl)
      (oblC ⟨by kernel_rfl, (show _ = (indexAddrA Tryd.prog 54 (.pointer (some ⟨0, 0, none⟩)) (i64 i)).map (·, hp [byO8 y, rowZ n f1]) by kernel_rfl).trans (by rw [ha]; rfl)⟩
      (oblC (shown_cell (by kernel_rfl) (by8_at (y := y) (by kernel_rfl) (by omega))) oblN)) ?_
    have fin : ∀ k, k ≤ i → Runs Tryd.prog 0 (behind 4 (within (hd (tl (tl (within lp10)))))) (sth (Sak w n i k) 160 [byO8 y, rowZ n f1])
        (caught 1 (andThen (fun a => Runs Tryd.prog 0 (tl (tl (tl (within lp10)))) a (andThen (fun a => Runs Tryd.prog 0 lp10 a fun e af => e = .exit 0 ∧ ∃ f', PermF f' n ∧ Less 0 (sth (Sa w n n) 160 [byO8 y, rowZ n f']) af) fun e af => e = .exit 0 ∧ ∃ f', PermF f' n ∧ Less 0 (sth (Sa w n n) 160 [byO8 y, rowZ n f']) af))
          (andThen (fun a => Runs Tryd.prog 0 lp10 a fun e af => e = .exit 0 ∧ ∃ f', PermF f' n ∧ Less 0 (sth (Sa w n n) 160 [byO8 y, rowZ n f']) af) fun e af => e = .exit 0 ∧ ∃ f', PermF f' n ∧ Less 0 (sth (Sa w n n) 160 [byO8 y, rowZ n f']) af))) := by
      intro k hk
      refine swap_ck w n i k y f1 hi hk fun af less => ?_
      show Runs Tryd.prog 0 _ af _
      refine Runs.less less ?_
      refine Runs.rg mixed hk38 [viaV 0 (i64 (i + 1))] (by kernel_rfl) (by kernel_rfl) (by kernel_rfl) (oblC (shown_eq (v := .int .i64 (wrapF .i64 (Int.add (.ofNat i) (.ofNat 1)))) (by kernel_rfl) (by kernel_rfl) (by rw [wrap_succ (by omega)]; rfl)) oblN) ?_
      show Runs Tryd.prog 0 lp10 _ _
      exact Runs.less (af1 := sth (Sa w n (i + 1)) 160 [byO8 y, rowZ n (ckNext f i k)]) (less_seenP (clo_all (k := 2) (by kernel_rfl)) b2_clo (Nat.zero_le _) (by kernel_rfl) (by kernel_rfl) (by kernel_rfl) (by kernel_rfl)) (perm_loop w n y hn hy d (i + 1) (ckNext f i k) (by omega) (P.next hk))
    refine Runs.cd (b := ltF (.ofNat 127) (.ofNat (y i))) (by kernel_rfl) (fun _ => ?_) (fun _ => Runs.now (x := .normal) (by kernel_rfl) ?_)
    · refine Runs.rg mixed hk38 [] (by kernel_rfl) (by kernel_rfl) (by kernel_rfl) oblN ?_
      show Runs Tryd.prog 0 (behind 4 (within (hd (tl (tl (within lp10)))))) _ _
      exact Runs.less (af1 := sth (Sak w n i i) 160 [byO8 y, rowZ n f1]) (less_seenP (clo_all (k := 2) (by kernel_rfl)) b2_clo (Nat.zero_le _) (by kernel_rfl) (by kernel_rfl) (by kernel_rfl) (by kernel_rfl)) (fin i (Nat.le_refl i))
    · show Runs Tryd.prog 0 (behind 4 (within (hd (tl (tl (within lp10)))))) _ _
      exact Runs.less (af1 := sth (Sak w n i (y i % (i + 1))) 160 [byO8 y, rowZ n f1]) (less_seenP (clo_all (k := 2) (by kernel_rfl)) b2_clo (Nat.zero_le _) (by kernel_rfl) (by kernel_rfl) (by kernel_rfl) (by kernel_rfl)) (fin _ hk)
end
end Go.Proofs.YtgnkjmgkfibipaaDoor

/- TrialChecked: the law's three loops. -/
namespace Go.Proofs.YtgnkjmgkfibipaaDoor
set_option linter.unusedVariables false
set_option linter.unusedSimpArgs false
open Go Go.R
set_option maxRecDepth 1000000
noncomputable section

noncomputable def slO (o m : Nat) : Value := .slice (some ⟨0, o, none⟩) m m
noncomputable def offA (n a : Nat) : Nat := (if n = a then 0 else a) * 1
theorem suf_slice {n a : Nat} (ha : a ≤ n) : sliceA Tryd.prog 24 (slV n n) (some (i64 a)) none none = some (slO (offA n a) (n - a)) := by
  have e1 : Tryd.prog.underlying 24 = some (.slice 3) := by kernel_rfl
  obtain ⟨info, e2, e3⟩ : ∃ info, Tryd.prog.info? 3 = some info ∧ info.size = 1 := ⟨(Tryd.prog.info? 3).get!, by kernel_rfl, by kernel_rfl⟩
  have eb : boundsA n n (some (i64 a)) none none = some (a, n, n) := by
    unfold boundsA
    have : boundA (some (i64 a)) 0 n = some a := by
      show (if (0 : Int) ≤ .ofNat a ∧ (.ofNat a : Int) ≤ (n : Int) then some (Int.ofNat a).toNat else none) = _
      rw [if_pos ⟨by show (0 : Int) ≤ (a : Int); omega, by show (a : Int) ≤ (n : Int); omega⟩]; rfl
    simp only [boundA] at this ⊢
    rw [this]
    simp only [if_pos (Nat.le_refl n)]
  unfold slV sliceA
  simp only [e1, e2, eb]
  unfold cutAt
  rw [e3]
  unfold slO offA
  by_cases h : n = a
  · rw [if_pos h, if_pos h]
  · rw [if_neg h, if_neg h, Nat.zero_add]
theorem suf_at {h : AH} {n a q : Nat} {f : Nat → Int} (hg : h.get 0 = rowZ n f) (hq : q < n - a) : rowAt? h 0 (offA n a + q * 1) 1 = some [.int .i64 (f (a + q))] := by
  have e : offA n a + q * 1 = 0 + (a + q) * 1 := by unfold offA; rw [if_neg (by omega)]; omega
  rw [e]
  exact intZ_at hg (by omega)
theorem rz_clo {n : Nat} {f : Nat → Int} : ∀ x ∈ [rowZ n f], CloO 1 x := fun x hx => by rw [List.mem_singleton.1 hx]; exact cloO_plain (intsZ_plain n f) _ _

noncomputable def lpI : Code := within (tl (hd (behind 5 c10)))
noncomputable def lpJ : Code := within (tl (tl (within (hd (tl (tl (within lpI)))))))
noncomputable def lpK : Code := within (tl (tl (within (hd (tl (tl (within lpJ)))))))
noncomputable def wV (w : Bool) : Int := if w then 7 else 0
noncomputable def SI (n wr i : Nat) (w : Bool) : List (Nat × Value) := [(2, .int .u8 (.ofNat wr)), (7, i64 n), (8, slV n n), (64, slV n n), (65, i64 n), (66, i64 i), (11, .int .i64 (wV w))]
noncomputable def SJ (f : Nat → Int) (n wr i q : Nat) (w : Bool) : List (Nat × Value) := SI n wr i w ++ [(12, i64 i), (13, .int .i64 (f i)), (74, slO (offA n (i + 1)) (n - (i + 1))), (75, i64 (n - (i + 1))), (76, i64 q)]
noncomputable def SK (f : Nat → Int) (n wr i q j r : Nat) (w : Bool) : List (Nat × Value) := SJ f n wr i q w ++ [(14, i64 q), (15, .int .i64 (f j)), (87, slO (offA n (j + 1)) (n - (j + 1))), (88, i64 (n - (j + 1))), (89, i64 r)]

theorem k_loop (f : Nat → Int) (n wr i q j : Nat) (hn : n ≤ 1000) : ∀ d r w, r + d = n - (j + 1) →
    Runs Tryd.prog 0 lpK (sth (SK f n wr i q j r w) 160 [rowZ n f]) fun e af => e = .exit 6 ∧ Less 0 (sth (SJ f n wr i q (triK f i j d (j + 1 + r) w)) 160 [rowZ n f]) af
  | 0, r, w, h => by
    have e : r = n - (j + 1) := by omega
    subst e
    refine Runs.lp (by kernel_rfl) (Runs.sqR mixed hk38 [viaV 0 (.bool false)] (by kernel_rfl) (by kernel_rfl) (by kernel_rfl) (oblC (shown_eq (v := .bool (ltF (.ofNat (n - (j + 1))) (.ofNat (n - (j + 1))))) (by kernel_rfl) (by kernel_rfl) (by rw [lt_self])) oblN) (Runs.sq (by kernel_rfl) ?_))
    refine Runs.cd (b := false) (by kernel_rfl) (fun ht => by cases ht) (fun _ => Runs.now (x := .exit 6) (by kernel_rfl) ⟨rfl, ?_⟩)
    exact less_seenP (clo_all (k := 1) (by kernel_rfl)) rz_clo (Nat.zero_le _) (by kernel_rfl) (by kernel_rfl) (by kernel_rfl) (by kernel_rfl)
  | d + 1, r, w, h => by
    have hlt : r < n - (j + 1) := by omega
    refine Runs.lp (by kernel_rfl) (Runs.sqR mixed hk38 [viaV 0 (.bool true)] (by kernel_rfl) (by kernel_rfl) (by kernel_rfl) (oblC (shown_eq (v := .bool (ltF (.ofNat r) (.ofNat (n - (j + 1))))) (by kernel_rfl) (by kernel_rfl) (by rw [lt_of hlt])) oblN) (Runs.sq (by kernel_rfl) ?_))
    refine Runs.cd (b := true) (by kernel_rfl) (fun _ => Runs.now (x := .normal) (by kernel_rfl) ?_) (fun hf => by cases hf)
    show Runs Tryd.prog 0 _ _ _
    refine Runs.sq (by kernel_rfl) (Runs.bk (id := 7) (by kernel_rfl) ?_)
    refine Runs.sqR mixed hk38 [viaV 0 (.pointer (some ⟨0, offA n (j + 1) + r * 1, none⟩)), viaV 1 (.int .i64 (f (j + 1 + r)))] (by kernel_rfl) (by kernel_rfl) (by kernel_rfl)
      (oblC (shown_idx (n := n - (j + 1)) (by kernel_rfl) hlt) (oblC (shown_cell (by kernel_rfl) (suf_at (n := n) (a := j + 1) (f := f) (by kernel_rfl) hlt)) oblN)) ?_
    have fin : ∀ (w' : Bool) (af : AF), triK f i j (d + 1) (j + 1 + r) w = triK f i j d (j + 1 + (r + 1)) w' → Less 0 (sth (SK f n wr i q j r w') 160 [rowZ n f]) af →
        Runs Tryd.prog 0 (tl (tl (tl (within lpK)))) af (andThen (fun a => Runs Tryd.prog 0 lpK a fun e af => e = .exit 6 ∧ Less 0 (sth (SJ f n wr i q (triK f i j (d + 1) (j + 1 + r) w)) 160 [rowZ n f]) af) fun e af => e = .exit 6 ∧ Less 0 (sth (SJ f n wr i q (triK f i j (d + 1) (j + 1 + r) w)) 160 [rowZ n f]) af) := by
      intro w' af e less
      rw [e]
      refine Runs.less less ?_
      refine Runs.rg mixed hk38 [viaV 0 (i64 (r + 1))] (by kernel_rfl) (by kernel_rfl) (by kernel_rfl) (oblC (shown_eq (v := .int .i64 (wrapF .i64 (Int.add (.ofNat r) (.ofNat 1)))) (by kernel_rfl) (by kernel_rfl) (by rw [wrap_succ (by omega)]; rfl)) oblN) ?_
      show Runs Tryd.prog 0 lpK _ _
      exact Runs.less (af1 := sth (SK f n wr i q j (r + 1) w') 160 [rowZ n f]) (less_seenP (clo_all (k := 1) (by kernel_rfl)) rz_clo (Nat.zero_le _) (by kernel_rfl) (by kernel_rfl) (by kernel_rfl) (by kernel_rfl)) (k_loop f n wr i q j hn d (r + 1) w' (by omega))
    cases hc : ltF (f (j + 1 + r)) (f i) with
    | false =>
      refine Runs.sqR mixed hk38 [viaV 2 (.bool false)] (by kernel_rfl) (by kernel_rfl) (by kernel_rfl) (oblC (shown_eq (v := .bool (ltF (f (j + 1 + r)) (f i))) (by kernel_rfl) (by kernel_rfl) (by rw [hc])) oblN) ?_
      refine Runs.cd (b := false) (by kernel_rfl) (fun h => by cases h) (fun _ => Runs.now (x := .normal) (by kernel_rfl) ?_)
      exact fin w _ (by rw [triK, hc, Bool.false_and, Bool.or_false]; rfl) (less_seenP (clo_all (k := 1) (by kernel_rfl)) rz_clo (Nat.zero_le _) (by kernel_rfl) (by kernel_rfl) (by kernel_rfl) (by kernel_rfl))
    | true =>
      refine Runs.sqR mixed hk38 [viaV 2 (.bool true)] (by kernel_rfl) (by kernel_rfl) (by kernel_rfl) (oblC (shown_eq (v := .bool (ltF (f (j + 1 + r)) (f i))) (by kernel_rfl) (by kernel_rfl) (by rw [hc])) oblN) ?_
      refine Runs.cd (b := ltF (f i) (f j)) (by kernel_rfl) (fun hb => ?_) (fun hb => Runs.now (x := .normal) (by kernel_rfl) ?_)
      · refine Runs.rg mixed hk38 [] (by kernel_rfl) (by kernel_rfl) (by kernel_rfl) oblN ?_
        exact fin true _ (by rw [triK, hc, hb, Bool.true_and, Bool.or_true]; rfl) (less_seenP (clo_all (k := 1) (by kernel_rfl)) rz_clo (Nat.zero_le _) (by kernel_rfl) (by kernel_rfl) (by kernel_rfl) (by kernel_rfl))
      · exact fin w _ (by rw [triK, hc, hb, Bool.and_false, Bool.or_false]; rfl) (less_seenP (clo_all (k := 1) (by kernel_rfl)) rz_clo (Nat.zero_le _) (by kernel_rfl) (by kernel_rfl) (by kernel_rfl) (by kernel_rfl))

theorem j_loop (f : Nat → Int) (n wr i : Nat) (hn : n ≤ 1000) : ∀ d q w, q + d = n - (i + 1) →
    Runs Tryd.prog 0 lpJ (sth (SJ f n wr i q w) 160 [rowZ n f]) fun e af => e = .exit 4 ∧ Less 0 (sth (SI n wr i (triJ f n i d (i + 1 + q) w)) 160 [rowZ n f]) af
  | 0, q, w, h => by
    have e : q = n - (i + 1) := by omega
    subst e
    refine Runs.lp (by kernel_rfl) (Runs.sqR mixed hk38 [viaV 0 (.bool false)] (by kernel_rfl) (by kernel_rfl) (by kernel_rfl) (oblC (shown_eq (v := .bool (ltF (.ofNat (n - (i + 1))) (.ofNat (n - (i + 1))))) (by kernel_rfl) (by kernel_rfl) (by rw [lt_self])) oblN) (Runs.sq (by kernel_rfl) ?_))
    refine Runs.cd (b := false) (by kernel_rfl) (fun ht => by cases ht) (fun _ => Runs.now (x := .exit 4) (by kernel_rfl) ⟨rfl, ?_⟩)
    exact less_seenP (clo_all (k := 1) (by kernel_rfl)) rz_clo (Nat.zero_le _) (by kernel_rfl) (by kernel_rfl) (by kernel_rfl) (by kernel_rfl)
  | d + 1, q, w, h => by
    have hlt : q < n - (i + 1) := by omega
    let j : Nat := i + 1 + q
    refine Runs.lp (by kernel_rfl) (Runs.sqR mixed hk38 [viaV 0 (.bool true)] (by kernel_rfl) (by kernel_rfl) (by kernel_rfl) (oblC (shown_eq (v := .bool (ltF (.ofNat q) (.ofNat (n - (i + 1))))) (by kernel_rfl) (by kernel_rfl) (by rw [lt_of hlt])) oblN) (Runs.sq (by kernel_rfl) ?_))
    refine Runs.cd (b := true) (by kernel_rfl) (fun _ => Runs.now (x := .normal) (by kernel_rfl) ?_) (fun hf => by cases hf)
    show Runs Tryd.prog 0 _ _ _
    refine Runs.sq (by kernel_rfl) (Runs.bk (id := 5) (by kernel_rfl) ?_)
    refine Runs.sqR mixed hk38 [viaV 1 (.pointer (some ⟨0, offA n (i + 1) + q * 1, none⟩)), viaV 2 (.int .i64 (f (i + 1 + q)))] (by kernel_rfl) (by kernel_rfl) (by kernel_rfl)
      (oblC (shown_idx (n := n - (i + 1)) (by kernel_rfl) hlt) (oblC (shown_cell (by kernel_rfl) (suf_at (n := n) (a := i + 1) (f := f) (by kernel_rfl) hlt)) oblN)) ?_
    have hsl := suf_slice (n := n) (a := j + 1) (by omega)
    refine Runs.sqR mixed hk38 [viaV 2 (.int .i64 (.ofNat (i + 1))), viaV 4 (.int .i64 (.ofNat (i + 1 + q))), viaV 5 (.int .i64 (.ofNat (i + 1 + q + 1))), viaV 6 (slO (offA n (j + 1)) (n - (j + 1)))] (by kernel_rfl) (by kernel_rfl) (by kernel_rfl)
      (oblC (shown_eq (v := .int .i64 (wrapF .i64 (Int.add (.ofNat i) (.ofNat 1)))) (by kernel_rfl) (by kernel_rfl) (by rw [wrap_succ (by omega)]))
      (oblC (shown_eq (v := .int .i64 (wrapF .i64 (Int.add (.ofNat (i + 1)) (.ofNat q)))) (by kernel_rfl) (by kernel_rfl) (by rw [f_add (by omega)]))
      (oblC (shown_eq (v := .int .i64 (wrapF .i64 (Int.add (.ofNat (i + 1 + q)) (.ofNat 1)))) (by kernel_rfl) (by kernel_rfl) (by rw [wrap_succ (by omega)]))
      (oblC ⟨by kernel_rfl, (show _ = (sliceA Tryd.prog 24 (slV n n) (some (i64 (j + 1))) none none).map (·, hp [rowZ n f]) by kernel_rfl).trans (by rw [hsl]; rfl)⟩ oblN)))) (Runs.bk (id := 6) (by kernel_rfl) ?_)
    refine Runs.less (af1 := sth (SK f n wr i q j 0 w) 160 [rowZ n f]) (less_seenP (clo_all (k := 1) (by kernel_rfl)) rz_clo (Nat.zero_le _) (by kernel_rfl) (by kernel_rfl) (by kernel_rfl) (by kernel_rfl)) ?_
    refine (k_loop f n wr i q j hn (n - (j + 1)) 0 w (by omega)).mono fun e af hx => ?_
    obtain ⟨rfl, less⟩ := hx
    show Runs Tryd.prog 0 _ af _
    refine Runs.less less ?_
    refine Runs.rg mixed hk38 [viaV 0 (i64 (q + 1))] (by kernel_rfl) (by kernel_rfl) (by kernel_rfl) (oblC (shown_eq (v := .int .i64 (wrapF .i64 (Int.add (.ofNat q) (.ofNat 1)))) (by kernel_rfl) (by kernel_rfl) (by rw [wrap_succ (by omega)]; rfl)) oblN) ?_
    show Runs Tryd.prog 0 lpJ _ _
    exact Runs.less (af1 := sth (SJ f n wr i (q + 1) (triK f i j (n - (j + 1)) (j + 1 + 0) w)) 160 [rowZ n f]) (less_seenP (clo_all (k := 1) (by kernel_rfl)) rz_clo (Nat.zero_le _) (by kernel_rfl) (by kernel_rfl) (by kernel_rfl) (by kernel_rfl)) (j_loop f n wr i hn d (q + 1) _ (by omega))

theorem i_loop (f : Nat → Int) (n wr : Nat) (hn : n ≤ 1000) : ∀ d i w, i + d = n →
    Runs Tryd.prog 0 lpI (sth (SI n wr i w) 160 [rowZ n f]) fun e af => e = .exit 2 ∧ Less 0 (sth (SI n wr n (triI f n d i w)) 160 [rowZ n f]) af
  | 0, i, w, h => by
    have e : i = n := by omega
    subst e
    refine Runs.lp (by kernel_rfl) (Runs.sqR mixed hk38 [] (by kernel_rfl) (by kernel_rfl) (by kernel_rfl) oblN (Runs.sq (by kernel_rfl) ?_))
    refine Runs.cd (b := ltF (.ofNat i) (.ofNat i)) (by kernel_rfl) (fun ht => by rw [lt_self] at ht; cases ht) (fun _ => Runs.now (x := .exit 2) (by kernel_rfl) ⟨rfl, ?_⟩)
    exact less_seenP (clo_all (k := 1) (by kernel_rfl)) rz_clo (Nat.zero_le _) (by kernel_rfl) (by kernel_rfl) (by kernel_rfl) (by kernel_rfl)
  | d + 1, i, w, h => by
    have hlt : i < n := by omega
    refine Runs.lp (by kernel_rfl) (Runs.sqR mixed hk38 [] (by kernel_rfl) (by kernel_rfl) (by kernel_rfl) oblN (Runs.sq (by kernel_rfl) ?_))
    refine Runs.cd (b := ltF (.ofNat i) (.ofNat n)) (by kernel_rfl) (fun _ => Runs.now (x := .normal) (by kernel_rfl) ?_) (fun hf => by rw [lt_of hlt] at hf; cases hf)
    show Runs Tryd.prog 0 _ _ _
    refine Runs.sq (by kernel_rfl) (Runs.bk (id := 3) (by kernel_rfl) ?_)
    refine Runs.sqR mixed hk38 [viaV 1 (.pointer (some ⟨0, 0 + i * 1, none⟩)), viaV 2 (.int .i64 (f i))] (by kernel_rfl) (by kernel_rfl) (by kernel_rfl)
      (oblC (shown_idx (n := n) (by kernel_rfl) hlt) (oblC (shown_cell (by kernel_rfl) (intZ_at (g := 0) (n := n) (f := f) (lv := true) (par := []) (ty := some 3) (by kernel_rfl) hlt)) oblN)) ?_
    have hsl := suf_slice (n := n) (a := i + 1) (by omega)
    refine Runs.sqR mixed hk38 [viaV 2 (.int .i64 (.ofNat (i + 1))), viaV 3 (slO (offA n (i + 1)) (n - (i + 1)))] (by kernel_rfl) (by kernel_rfl) (by kernel_rfl)
      (oblC (shown_eq (v := .int .i64 (wrapF .i64 (Int.add (.ofNat i) (.ofNat 1)))) (by kernel_rfl) (by kernel_rfl) (by rw [wrap_succ (by omega)]))
      (oblC ⟨by kernel_rfl, (show _ = (sliceA Tryd.prog 24 (slV n n) (some (i64 (i + 1))) none none).map (·, hp [rowZ n f]) by kernel_rfl).trans (by rw [hsl]; rfl)⟩ oblN)) (Runs.bk (id := 4) (by kernel_rfl) ?_)
    refine Runs.less (af1 := sth (SJ f n wr i 0 w) 160 [rowZ n f]) (less_seenP (clo_all (k := 1) (by kernel_rfl)) rz_clo (Nat.zero_le _) (by kernel_rfl) (by kernel_rfl) (by kernel_rfl) (by kernel_rfl)) ?_
    refine (j_loop f n wr i hn (n - (i + 1)) 0 w (by omega)).mono fun e af hx => ?_
    obtain ⟨rfl, less⟩ := hx
    show Runs Tryd.prog 0 _ af _
    refine Runs.less less ?_
    refine Runs.rg mixed hk38 [viaV 0 (i64 (i + 1))] (by kernel_rfl) (by kernel_rfl) (by kernel_rfl) (oblC (shown_eq (v := .int .i64 (wrapF .i64 (Int.add (.ofNat i) (.ofNat 1)))) (by kernel_rfl) (by kernel_rfl) (by rw [wrap_succ (by omega)]; rfl)) oblN) ?_
    show Runs Tryd.prog 0 lpI _ _
    exact Runs.less (af1 := sth (SI n wr (i + 1) (triJ f n i (n - (i + 1)) (i + 1 + 0) w)) 160 [rowZ n f]) (less_seenP (clo_all (k := 1) (by kernel_rfl)) rz_clo (Nat.zero_le _) (by kernel_rfl) (by kernel_rfl) (by kernel_rfl) (by kernel_rfl)) (i_loop f n wr hn d (i + 1) _ (by omega))
end
end Go.Proofs.YtgnkjmgkfibipaaDoor

/- TrialChecked: the law's walk. -/
namespace Go.Proofs.YtgnkjmgkfibipaaDoor
set_option linter.unusedVariables false
set_option linter.unusedSimpArgs false
open Go Go.R
set_option maxRecDepth 1000000
noncomputable section

/-! ### What Check says -/
theorem scan_pass (f : Nat → Int) (n : Nat) : ∀ d e i, (∀ j, i ≤ j → j < i + d → outZ (f j) 1 (.ofNat n) = false ∧ memZ f (f j) j = false) → scanF f n (d + e) i = scanF f n e (i + d)
  | 0, e, i, _ => by rw [Nat.zero_add, Nat.add_zero]
  | d + 1, e, i, h => by
    have h0 := h i (Nat.le_refl i) (by omega)
    rw [show d + 1 + e = (d + e) + 1 by omega, scanF, h0.1, h0.2]
    simp only [Bool.false_eq_true, if_false]
    rw [scan_pass f n d e (i + 1) fun j a b => h j (by omega) (by omega), show i + 1 + d = i + (d + 1) by omega]
theorem out_no {x : Int} {n : Nat} (h1 : 1 ≤ x) (h2 : x ≤ n) : outZ x 1 (.ofNat n) = false := by
  unfold outZ
  rw [ltF_not.2 h1, ltF_not.2 (show x ≤ Int.ofNat n from h2)]; rfl
theorem mem_no {f : Nat → Int} {x : Int} {m : Nat} (h : ∀ j, j < m → f j ≠ x) : memZ f x m = false := by
  cases hm : memZ f x m with
  | false => rfl
  | true => obtain ⟨j, a, b⟩ := (mem_iff f x m).1 hm; exact absurd b (h j a)

theorem chk_perm {f : Nat → Int} {n : Nat} (P : PermF f n) (hn : n ≤ 12) : chkN f n = wV (triI f n n 0 false) := by
  have hs : scanF f n n 0 = 0 := by
    have := scan_pass f n n 0 0 fun j _ b => ⟨out_no (P.lo j (by omega)) (P.hi j (by omega)), mem_no fun k hk e => by have := P.inj k j (by omega) (by omega) e; omega⟩
    rw [Nat.add_zero] at this
    exact this
  unfold chkN wV
  rw [if_neg (by omega), if_pos hs, stack_tri f n P.inj fun k hk => by have := P.lo k hk; omega]
  cases triI f n n 0 false <;> rfl
theorem scan_last {f : Nat → Int} {n : Nat} (P : PermF f n) (hn : 0 < n) (x : Int) : scanF (upd f (n - 1) x) n n 0 = scanF (upd f (n - 1) x) n 1 (n - 1) := by
  have e : ∀ j, j < n - 1 → upd f (n - 1) x j = f j := fun j hj => by unfold upd; rw [if_neg (by omega)]
  have := scan_pass (upd f (n - 1) x) n (n - 1) 1 0 fun j _ b => by
    rw [e j (by omega)]
    exact ⟨out_no (P.lo j (by omega)) (P.hi j (by omega)), mem_no fun k hk q => by rw [e k (by omega)] at q; have := P.inj k j (by omega) (by omega) q; omega⟩
  rw [show n - 1 + 1 = n by omega, Nat.zero_add] at this
  exact this
theorem upd_at (f : Nat → Int) (i : Nat) (x : Int) : upd f i x i = x := if_pos rfl
theorem chk_none {f : Nat → Int} {n : Nat} (P : PermF f n) (h0 : 0 < n) (hn : n ≤ 12) : chkN (upd f (n - 1) 0) n = 2 := by
  have hs : scanF (upd f (n - 1) 0) n n 0 = 2 := by
    rw [scan_last P h0, scanF, upd_at]
    have : outZ 0 1 (.ofNat n) = true := rfl
    rw [this]; rfl
  unfold chkN
  rw [if_neg (by omega), hs, if_neg (by decide)]
theorem chk_twice {f : Nat → Int} {n : Nat} (P : PermF f n) (h0 : 1 < n) (hn : n ≤ 12) : chkN (upd f (n - 1) (f 0)) n = 6 := by
  have hs : scanF (upd f (n - 1) (f 0)) n n 0 = 6 := by
    rw [scan_last P (by omega), scanF, upd_at, out_no (P.lo 0 (by omega)) (P.hi 0 (by omega))]
    have : memZ (upd f (n - 1) (f 0)) (f 0) (n - 1) = true := (mem_iff _ _ _).2 ⟨0, by omega, by unfold upd; rw [if_neg (by omega)]⟩
    rw [this]; rfl
  unfold chkN
  rw [if_neg (by omega), hs, if_neg (by decide)]

/-! ### The calls, told at the law's list -/
theorem local_of_says {h h1 : AH} {k fid : Nat} {args : List Value} {v : Value} (S : Says Tryd.prog h fid args v h1) (hk : k ≤ h.next) : Local Tryd.prog k fid args h fun v' h' => v' = v ∧ h' = h1 := fun F w0 μ w args' H hl =>
  (S F w0 μ w args' H hl).mono fun v' w' ⟨μ', a, b, c⟩ => ⟨v, h1, ⟨rfl, rfl⟩, μ', a, b, Held.of_ext c hk⟩
theorem row_sub (n : Nat) (f : Nat → Int) : ∀ (k : Nat) u, (intsZ n f)[k]? = some u → (intsZ n f)[0 + k]? = some u := fun k u h => by rw [Nat.zero_add]; exact h
theorem row_room (n : Nat) (f : Nat → Int) : 0 + (intsZ n f).length ≤ (intsZ n f).length := by rw [Nat.zero_add]; exact Nat.le_refl _
theorem row_get (n : Nat) (f : Nat → Int) : (hp [rowZ n f]).get 0 = .cells (intsZ n f) true [] (some 3) := hp_get _ 0 _ rfl
theorem no_plain : ∀ v ∈ ([] : List Value), plainV v = true := fun v h => by cases h
theorem one_plain (x : Int) : ∀ v ∈ [Value.int .i64 x], plainV v = true := fun v h => by rw [List.mem_singleton.1 h]; rfl

theorem check_live (m : Nat) (F : Nat → Int) (hm : m < 100000) : Says Tryd.prog (hp [rowZ m F]) 45 [slV m m] (.int .i64 (chkN F m)) (hp [rowZ m F]) :=
  tell_flat (pre := []) (post := []) (i := 0) (o := 0) (n := m) (cells := intsZ m F) (fun cap hc => local_of_says (check_says m cap F hc (by omega)) (Nat.le_refl 1)) (fun _ _ r => r.1) rfl (row_get m F) (row_sub m F) (row_room m F) (intsZ_plain m F) (view_at (Nat.le_refl m)) no_plain no_plain

theorem words_live_bad (m : Nat) (F : Nat → Int) (hm : m < 100000) (hx : chkN F m ≠ 0) : Says Tryd.prog (hp [rowZ m F]) 43 [slV m m] (.tuple #[.slice none 0 0, .int .i64 (chkN F m)]) (hp [rowZ m F]) :=
  tell_flat (pre := []) (post := []) (i := 0) (o := 0) (n := m) (cells := intsZ m F) (fun cap hc => Words_bad m cap F hc hm hx) (fun _ _ r => r) rfl (row_get m F) (row_sub m F) (row_room m F) (intsZ_plain m F) (view_at (Nat.le_refl m)) no_plain no_plain
theorem words_live (m : Nat) (F : Nat → Int) (hm : m < 100000) (hx : chkN F m = 0) : Says Tryd.prog (hp [rowZ m F]) 43 [slV m m] (.tuple #[bldV 1 (m + 1), i64 0]) ((hp [rowZ m F]).new (rowS (m + 1) (wordS F m))).2 :=
  tell_new (pre := []) (post := []) (i := 0) (o := 0) (n := m) (cells := intsZ m F) (fun cap hc => Words_good m cap F hc hm hx) (strsV_len _ _) (strsV_plain _ _) (fun v h => by cases h; rfl) (row_get m F) (row_sub m F) (row_room m F) (intsZ_plain m F) (view_at (Nat.le_refl m)) no_plain no_plain
theorem run_live_bad (m : Nat) (F : Nat → Int) (hd : Int) (hm : m < 100000) (hx : askZ F m hd ≠ 0) : Says Tryd.prog (hp [rowZ m F]) 44 [slV m m, .int .i64 hd] (.tuple #[.slice none 0 0, .int .i64 (askZ F m hd)]) (hp [rowZ m F]) :=
  tell_flat (pre := []) (post := [.int .i64 hd]) (i := 0) (o := 0) (n := m) (cells := intsZ m F) (fun cap hc => Run_bad m cap F hd hc hm hx) (fun _ _ r => r) rfl (row_get m F) (row_sub m F) (row_room m F) (intsZ_plain m F) (view_at (Nat.le_refl m)) no_plain (one_plain hd)
theorem run_live_none (m : Nat) (F : Nat → Int) (hd : Int) (hm : m < 100000) (hx : askZ F m hd = 0) (hw : runF F m hd = []) : Says Tryd.prog (hp [rowZ m F]) 44 [slV m m, .int .i64 hd] (.tuple #[.slice none 0 0, i64 0]) (hp [rowZ m F]) :=
  tell_flat (pre := []) (post := [.int .i64 hd]) (i := 0) (o := 0) (n := m) (cells := intsZ m F) (fun cap hc => Run_none m cap F hd hc hm hx hw) (fun _ _ r => r) rfl (row_get m F) (row_sub m F) (row_room m F) (intsZ_plain m F) (view_at (Nat.le_refl m)) no_plain (one_plain hd)
theorem run_live (m : Nat) (F : Nat → Int) (hd : Int) (hm : m < 100000) (hx : askZ F m hd = 0) (hw : runF F m hd ≠ []) : Says Tryd.prog (hp [rowZ m F]) 44 [slV m m, .int .i64 hd] (.tuple #[bldV 1 (runF F m hd).length, i64 0]) ((hp [rowZ m F]).new (rowT (runF F m hd))).2 :=
  tell_new (pre := []) (post := [.int .i64 hd]) (i := 0) (o := 0) (n := m) (cells := intsZ m F) (fun cap hc => Run_good m cap F hd hc hm hx hw) (litZ_len _) (litZ_plain _) (fun v h => by cases h; rfl) (row_get m F) (row_sub m F) (row_room m F) (intsZ_plain m F) (view_at (Nat.le_refl m)) no_plain (one_plain hd)

/-! ### The end -/
abbrev Ends10 : AExit → AF → Prop := EndsAs Tryd.prog Tryd.f10 fun v' _ => v' = .bool true
noncomputable def T10 (m : Nat) (v : Int) : List (Nat × Value) := [(8, slV m m), (11, .int .i64 v)]
theorem tail10 (m : Nat) (F : Nat → Int) (v : Int) (hm : m < 100000) (hv : chkN F m = v) : Runs Tryd.prog 0 (behind 7 c10) (sth (T10 m v) 160 [rowZ m F]) Ends10 := by
  subst hv
  have e35 : Value.bool (eqF (chkN F m) (chkN F m)) = .bool true := by rw [eq_self]
  have last : Runs Tryd.prog 0 (behind 9 c10) (sth (T10 m (chkN F m) ++ [(19, .int .i64 (chkN F m)), (21, .int .i64 (chkN F m))]) 160 [rowZ m F]) Ends10 := by
    refine Runs.sqR mixed hk38 [viaC 1 45 [slV m m] (.int .i64 (chkN F m)), viaV 3 (.bool true), viaV 7 (.bool true), viaV 12 (.bool true)] (by kernel_rfl) (by kernel_rfl) (by kernel_rfl)
      (oblC (shown_callE (by kernel_rfl) (by kernel_rfl) (check_live m F hm)) (oblC (shown_eq (v := .bool (eqF (chkN F m) (chkN F m))) (by kernel_rfl) (by kernel_rfl) e35) (oblC (shown_eq (v := .bool (eqF (chkN F m) (chkN F m))) (by kernel_rfl) (by kernel_rfl) e35) (oblC (shown_eq (v := .bool (eqF (chkN F m) (chkN F m))) (by kernel_rfl) (by kernel_rfl) e35) oblN)))) ?_
    exact Runs.now (x := .ret) (by kernel_rfl) ⟨.inr rfl, [.bool true], by kernel_rfl, rfl⟩
  have mid : Runs Tryd.prog 0 (behind 8 c10) (sth (T10 m (chkN F m) ++ [(19, .int .i64 (chkN F m))]) 160 [rowZ m F]) Ends10 := by
    by_cases hz : chkN F m = 0
    · have ha : askZ F m (.ofNat 0) = 0 := by
        unfold askZ
        rw [if_pos hz]
        have : outZ (.ofNat 0) 0 (.ofNat m) = false := by unfold outZ; rw [ltF_not.2 (show (0 : Int) ≤ Int.ofNat 0 from Int.le_refl 0), ltF_not.2 (show (Int.ofNat 0 : Int) ≤ Int.ofNat m from Int.natCast_nonneg m)]; rfl
        rw [this]; rfl
      rw [hz] at last ⊢
      by_cases hw : runF F m (.ofNat 0) = []
      · refine Runs.sqR mixed hk38 [viaC 1 44 [slV m m, i64 0] (.tuple #[.slice none 0 0, i64 0])] (by kernel_rfl) (by kernel_rfl) (by kernel_rfl) (oblC (shown_callE (by kernel_rfl) (by kernel_rfl) (run_live_none m F (.ofNat 0) hm ha hw)) oblN) ?_
        exact Runs.less (less_seenP (clo_all (k := 1) (by kernel_rfl)) rz_clo (Nat.zero_le _) (by kernel_rfl) (by kernel_rfl) (by kernel_rfl) (by kernel_rfl)) last
      · refine Runs.sqR mixed hk38 [viaH 1 44 [slV m m, i64 0] (.tuple #[bldV 1 (runF F m (.ofNat 0)).length, i64 0]) ((hp [rowZ m F]).new (rowT (runF F m (.ofNat 0)))).2] (by kernel_rfl) (by kernel_rfl) (by kernel_rfl) (oblC (shown_callHE (by kernel_rfl) (by kernel_rfl) (run_live m F (.ofNat 0) hm ha hw)) oblN) ?_
        exact Runs.less (less_seenP (clo_all (k := 1) (by kernel_rfl)) rz_clo (Nat.zero_le _) (by kernel_rfl) (by kernel_rfl) (by kernel_rfl) (by kernel_rfl)) last
    · have ha : askZ F m (.ofNat 0) = chkN F m := by unfold askZ; rw [if_neg hz]
      have hS := run_live_bad m F (.ofNat 0) hm (by rw [ha]; exact hz)
      rw [ha] at hS
      refine Runs.sqR mixed hk38 [viaC 1 44 [slV m m, i64 0] (.tuple #[.slice none 0 0, .int .i64 (chkN F m)])] (by kernel_rfl) (by kernel_rfl) (by kernel_rfl) (oblC (shown_callE (by kernel_rfl) (by kernel_rfl) hS) oblN) ?_
      exact Runs.less (less_seenP (clo_all (k := 1) (by kernel_rfl)) rz_clo (Nat.zero_le _) (by kernel_rfl) (by kernel_rfl) (by kernel_rfl) (by kernel_rfl)) last
  by_cases hz : chkN F m = 0
  · have hS := words_live m F hm hz
    rw [hz] at mid ⊢
    refine Runs.sqR mixed hk38 [viaH 1 43 [slV m m] (.tuple #[bldV 1 (m + 1), i64 0]) ((hp [rowZ m F]).new (rowS (m + 1) (wordS F m))).2] (by kernel_rfl) (by kernel_rfl) (by kernel_rfl) (oblC (shown_callHE (by kernel_rfl) (by kernel_rfl) hS) oblN) ?_
    exact Runs.less (less_seenP (clo_all (k := 1) (by kernel_rfl)) rz_clo (Nat.zero_le _) (by kernel_rfl) (by kernel_rfl) (by kernel_rfl) (by kernel_rfl)) mid
  · refine Runs.sqR mixed hk38 [viaC 1 43 [slV m m] (.tuple #[.slice none 0 0, .int .i64 (chkN F m)])] (by kernel_rfl) (by kernel_rfl) (by kernel_rfl) (oblC (shown_callE (by kernel_rfl) (by kernel_rfl) (words_live_bad m F hm hz)) oblN) ?_
    exact Runs.less (less_seenP (clo_all (k := 1) (by kernel_rfl)) rz_clo (Nat.zero_le _) (by kernel_rfl) (by kernel_rfl) (by kernel_rfl) (by kernel_rfl)) mid

/-! ### What goes wrong on purpose -/
theorem cases10 (f : Nat → Int) (n wr : Nat) (P : PermF f n) (hn : n ≤ 8) (hw : wr < 256) : Runs Tryd.prog 0 (behind 6 c10) (sth (SI n wr n (triI f n n 0 false)) 160 [rowZ n f]) Ends10 := by
  let w := triI f n n 0 false
  let H0 : AH := hp [rowZ n f]
  have plain : Runs Tryd.prog 0 (behind 7 c10) (sth (T10 n (wV w)) 160 [rowZ n f]) Ends10 := tail10 n f _ (by omega) (chk_perm P (by omega))
  -- thirteen numbers
  have third : ∀ {af : AF}, Less 0 (sth (SI n wr n w) 160 [rowZ n f]) af → Runs Tryd.prog 0 (elseOf (tl (elseOf (tl (hd (behind 6 c10)))))) af (andThen (fun a => Runs Tryd.prog 0 (behind 7 c10) a Ends10) Ends10) := by
    intro af less
    refine Runs.less less ?_
    refine Runs.sqR mixed hk38 [viaV 1 (.int .u8 (.ofNat (wr % 8)))] (by kernel_rfl) (by kernel_rfl) (by kernel_rfl) (oblC ⟨by kernel_rfl, by kernel_rfl⟩ oblN) ?_
    refine Runs.cd (b := eqF (.ofNat (wr % 8)) (.ofNat 2)) (by kernel_rfl) (fun _ => ?_) (fun _ => Runs.now (x := .normal) (by kernel_rfl) ?_)
    · refine Runs.rg mixed hk38 [] (by kernel_rfl) (by kernel_rfl) (by kernel_rfl) oblN ?_
      show Runs Tryd.prog 0 (behind 7 c10) _ _
      exact Runs.renumK (sz := 160) (l := T10 13 3) (os := [rowZ 13 fun _ => 0]) (fun _ => 1) (fun _ => 0) (by kernel_rfl) (Nat.zero_le _) (by kernel_rfl) ⟨fun h => (by cases h), trivial⟩ (by kernel_rfl) (by kernel_rfl) (by kernel_rfl) (by kernel_rfl)
        ⟨RenO.row (c := intsZ 13 fun _ => 0) (lv := true) (p := []) (ty := some 3) (by kernel_rfl) (intsZ_plain _ _) (fun h => h) (.inr rfl), trivial⟩ (tail10 13 _ 3 (by omega) (if_pos (by omega)))
    · show Runs Tryd.prog 0 (behind 7 c10) _ _
      exact Runs.less (less_seenP (clo_all (k := 1) (by kernel_rfl)) rz_clo (Nat.zero_le _) (by kernel_rfl) (by kernel_rfl) (by kernel_rfl) (by kernel_rfl)) plain
  -- one twice
  have second : ∀ {af : AF}, Less 0 (sth (SI n wr n w) 160 [rowZ n f]) af → Runs Tryd.prog 0 (elseOf (tl (hd (behind 6 c10)))) af (andThen (fun a => Runs Tryd.prog 0 (behind 7 c10) a Ends10) Ends10) := by
    intro af less
    refine Runs.less less ?_
    cases h1 : ltF (.ofNat 1) (.ofNat n) with
    | false =>
      refine Runs.sqR mixed hk38 [viaV 1 (.bool false)] (by kernel_rfl) (by kernel_rfl) (by kernel_rfl) (oblC (shown_eq (v := .bool (ltF (.ofNat 1) (.ofNat n))) (by kernel_rfl) (by kernel_rfl) (by rw [h1])) oblN) ?_
      refine Runs.cd (b := false) (by kernel_rfl) (fun h => by cases h) (fun _ => ?_)
      exact third (less_seenP (clo_all (k := 1) (by kernel_rfl)) rz_clo (Nat.zero_le _) (by kernel_rfl) (by kernel_rfl) (by kernel_rfl) (by kernel_rfl))
    | true =>
      have hn1 : 1 < n := by have := ltF_iff.1 h1; exact Int.ofNat_lt.1 this
      refine Runs.sqR mixed hk38 [viaV 1 (.bool true), viaV 4 (.int .u8 (.ofNat (wr % 8)))] (by kernel_rfl) (by kernel_rfl) (by kernel_rfl) (oblC (shown_eq (v := .bool (ltF (.ofNat 1) (.ofNat n))) (by kernel_rfl) (by kernel_rfl) (by rw [h1])) (oblC ⟨by kernel_rfl, by kernel_rfl⟩ oblN)) ?_
      refine Runs.cd (b := eqF (.ofNat (wr % 8)) (.ofNat 1)) (by kernel_rfl) (fun _ => ?_) (fun _ => ?_)
      · have s1 := store_Z (h := H0) (g := 0) (n := n) (i := n - 1) (f := f) (v := f 0) (by kernel_rfl) (by omega)
        refine Runs.rg mixed hk38 [viaV 2 (.int .i64 (.ofNat (n - 1))), viaV 4 (.pointer (some ⟨0, 0 + 0 * 1, none⟩)), viaV 5 (.int .i64 (f 0)), viaV 6 (.pointer (some ⟨0, 0 + (n - 1) * 1, none⟩)), ⟨7, undef, some (H0.put 0 (rowZ n (upd f (n - 1) (f 0)))), none⟩] (by kernel_rfl) (by kernel_rfl) (by kernel_rfl)
          (oblC (shown_eq (v := .int .i64 (wrapF .i64 (Int.sub (.ofNat n) (.ofNat 1)))) (by kernel_rfl) (by kernel_rfl) (by rw [f_sub (by omega) (by omega)]))
          (oblC (shown_idx (n := n) (by kernel_rfl) (by omega)) (oblC (shown_cell (by kernel_rfl) (intZ_at (g := 0) (n := n) (f := f) (lv := true) (par := []) (ty := some 3) (by kernel_rfl) (by omega)))
          (oblC (shown_idx (n := n) (by kernel_rfl) (by omega)) (oblC ⟨by kernel_rfl, (show _ = (storeA Tryd.prog 3 0 (0 + (n - 1) * 1) (.int .i64 (f 0)) H0).map (undef, ·) by kernel_rfl).trans (by rw [s1]; rfl)⟩ oblN))))) ?_
        show Runs Tryd.prog 0 (behind 7 c10) _ _
        exact Runs.less (less_seenP (clo_all (k := 1) (by kernel_rfl)) rz_clo (Nat.zero_le _) (by kernel_rfl) (by kernel_rfl) (by kernel_rfl) (by kernel_rfl)) (tail10 n (upd f (n - 1) (f 0)) 6 (by omega) (chk_twice P hn1 (by omega)))
      · exact third (less_seenP (clo_all (k := 1) (by kernel_rfl)) rz_clo (Nat.zero_le _) (by kernel_rfl) (by kernel_rfl) (by kernel_rfl) (by kernel_rfl))
  refine Runs.sq (by kernel_rfl) ?_
  cases h0 : ltF (.ofNat 0) (.ofNat n) with
  | false =>
    refine Runs.sqR mixed hk38 [viaV 1 (.bool false)] (by kernel_rfl) (by kernel_rfl) (by kernel_rfl) (oblC (shown_eq (v := .bool (ltF (.ofNat 0) (.ofNat n))) (by kernel_rfl) (by kernel_rfl) (by rw [h0])) oblN) ?_
    refine Runs.cd (b := false) (by kernel_rfl) (fun h => by cases h) (fun _ => ?_)
    exact second (less_seenP (clo_all (k := 1) (by kernel_rfl)) rz_clo (Nat.zero_le _) (by kernel_rfl) (by kernel_rfl) (by kernel_rfl) (by kernel_rfl))
  | true =>
    have hn0 : 0 < n := by have := ltF_iff.1 h0; exact Int.ofNat_lt.1 this
    refine Runs.sqR mixed hk38 [viaV 1 (.bool true), viaV 4 (.int .u8 (.ofNat (wr % 8)))] (by kernel_rfl) (by kernel_rfl) (by kernel_rfl) (oblC (shown_eq (v := .bool (ltF (.ofNat 0) (.ofNat n))) (by kernel_rfl) (by kernel_rfl) (by rw [h0])) (oblC ⟨by kernel_rfl, by kernel_rfl⟩ oblN)) ?_
    refine Runs.cd (b := eqF (.ofNat (wr % 8)) (.ofNat 0)) (by kernel_rfl) (fun _ => ?_) (fun _ => ?_)
    · have s1 := store_Z (h := H0) (g := 0) (n := n) (i := n - 1) (f := f) (v := 0) (by kernel_rfl) (by omega)
      refine Runs.rg mixed hk38 [viaV 2 (.int .i64 (.ofNat (n - 1))), viaV 3 (.pointer (some ⟨0, 0 + (n - 1) * 1, none⟩)), ⟨4, undef, some (H0.put 0 (rowZ n (upd f (n - 1) 0))), none⟩] (by kernel_rfl) (by kernel_rfl) (by kernel_rfl)
        (oblC (shown_eq (v := .int .i64 (wrapF .i64 (Int.sub (.ofNat n) (.ofNat 1)))) (by kernel_rfl) (by kernel_rfl) (by rw [f_sub (by omega) (by omega)]))
        (oblC (shown_idx (n := n) (by kernel_rfl) (by omega)) (oblC ⟨by kernel_rfl, (show _ = (storeA Tryd.prog 3 0 (0 + (n - 1) * 1) (.int .i64 0) H0).map (undef, ·) by kernel_rfl).trans (by rw [s1]; rfl)⟩ oblN))) ?_
      show Runs Tryd.prog 0 (behind 7 c10) _ _
      exact Runs.less (less_seenP (clo_all (k := 1) (by kernel_rfl)) rz_clo (Nat.zero_le _) (by kernel_rfl) (by kernel_rfl) (by kernel_rfl) (by kernel_rfl)) (tail10 n (upd f (n - 1) 0) 2 (by omega) (chk_none P hn0 (by omega)))
    · exact second (less_seenP (clo_all (k := 1) (by kernel_rfl)) rz_clo (Nat.zero_le _) (by kernel_rfl) (by kernel_rfl) (by kernel_rfl) (by kernel_rfl))

/-! ### All of it -/
theorem checked_runs (a w : Nat) (ha : a < 256) (hw : w < 256) (y : Nat → Nat) (hy : ∀ i, y i < 256) : Runs Tryd.prog 0 c10 (entry Tryd.f10 [.int .u8 (.ofNat a), byV8 y, .int .u8 (.ofNat w)] AH.empty) Ends10 := by
  have hn : a % 9 ≤ 8 := by have : a % 9 < 9 := Nat.mod_lt _ (by omega); omega
  refine Runs.sqR mixed hk38 [] (by kernel_rfl) (by kernel_rfl) (by kernel_rfl) oblN ?_
  refine Runs.sqR mixed hk38 [viaV 1 (.int .i64 (.ofNat a)), viaV 2 (i64 (a % 9))] (by kernel_rfl) (by kernel_rfl) (by kernel_rfl)
    (oblC (shown_eq (v := .int .i64 (IntKind.wrap .i64 (.ofNat a))) (by kernel_rfl) (by kernel_rfl) (by rw [wrap64 (by omega)])) (oblC ⟨by kernel_rfl, by kernel_rfl⟩ oblN)) ?_
  generalize a % 9 = n at hn ⊢
  have hmk := make_Z (h := hp [byO8 y]) (n := n) (by omega)
  refine Runs.sqR mixed hk38 [⟨1, sl1 n, some ((hp [byO8 y]).new (rowZ n fun _ => 0)).2, none⟩] (by kernel_rfl) (by kernel_rfl) (by kernel_rfl) (oblC ⟨by kernel_rfl, (show _ = makeSliceA Tryd.prog 24 (i64 n) (i64 n) (hp [byO8 y]) by kernel_rfl).trans hmk⟩ oblN) ?_
  refine Runs.sq (by kernel_rfl) (Runs.sqR mixed hk38 [] (by kernel_rfl) (by kernel_rfl) (by kernel_rfl) oblN (Runs.bk (id := 0) (by kernel_rfl) ?_))
  refine Runs.less (af1 := sth (Sa w n 0) 160 [byO8 y, rowZ n fun _ => 0]) (less_seenP (clo_all (k := 2) (by kernel_rfl)) b2_clo (Nat.zero_le _) (by kernel_rfl) (by kernel_rfl) (by kernel_rfl) (by kernel_rfl)) ?_
  refine (perm_loop w n y hn hy n 0 _ (by omega) ⟨fun a h => by omega, fun a h => by omega, fun a b h => by omega⟩).mono fun e af hx => ?_
  obtain ⟨rfl, f, P, less⟩ := hx
  show Runs Tryd.prog 0 (behind 4 c10) af _
  refine Runs.less less ?_
  refine Runs.sqR mixed hk38 [] (by kernel_rfl) (by kernel_rfl) (by kernel_rfl) oblN ?_
  refine Runs.sq (by kernel_rfl) (Runs.sqR mixed hk38 [] (by kernel_rfl) (by kernel_rfl) (by kernel_rfl) oblN (Runs.bk (id := 2) (by kernel_rfl) ?_))
  refine Runs.renumK (sz := 160) (l := SI n w 0 false) (os := [rowZ n f]) (fun _ => 1) (fun _ => 0) (by kernel_rfl) (Nat.zero_le _) (by kernel_rfl) ⟨fun h => (by cases h), trivial⟩ (by kernel_rfl) (by kernel_rfl) (by kernel_rfl) (by kernel_rfl)
    ⟨RenO.row (c := intsZ n f) (lv := true) (p := []) (ty := some 3) (by kernel_rfl) (intsZ_plain _ _) (fun h => h) (.inr rfl), trivial⟩ ?_
  refine (i_loop f n w (by omega) n 0 false (by omega)).mono fun e af hx => ?_
  obtain ⟨rfl, less⟩ := hx
  show Runs Tryd.prog 0 (behind 6 c10) af _
  exact Runs.less less (cases10 f n w P hn hw)
end
end Go.Proofs.YtgnkjmgkfibipaaDoor
