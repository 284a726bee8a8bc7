/- strings.Count, Worst and Proves over plans that pass the check. -/
import Derived.Test.YtgnkjmgkfibipaaGreatDoorSPlansKG5
import Derived.Test.YtgnkjmgkfibipaaGreatDoorSPlansKZ1
import Derived.Test.YtgnkjmgkfibipaaGreatDoorSPlansKTabs
namespace Go.Proofs.YtgnkjmgkfibipaaGreatDoor
set_option linter.unusedVariables false
set_option linter.unusedSimpArgs false
open Go Go.R
set_option maxRecDepth 1000000
noncomputable section

/-! ### Letters -/
noncomputable def strb : Value := .string ⟨#[98]⟩
noncomputable def c50 : Code := bodyOf Tryz.f48
theorem count_local (s : ByteArray) : Local Tryz.prog 0 48 [.string s, strb] AH.empty fun v' _ => v' = .int .i64 (cntB s.data.toList 98 0 : Nat) := by
  refine local_of noNum Tryz.func48 (show Tryz.f48.body = some c50 by kernel_rfl) ?_
  exact Runs.lastEq (R := fun v' _ => v' = .int .i64 (cntB s.data.toList 98 0 : Nat)) mixed hk38 (n := 100) (x := .ret) (vs := [.int .i64 (cntB s.data.toList 98 0 : Nat)]) (Nat.zero_le _) (.inr rfl) (by kernel_rfl) (fun _ => rfl)
theorem count_says (s : ByteArray) (h : AH) : Says Tryz.prog h 48 [.string s, strb] (.int .i64 (cntB s.data.toList 98 0 : Nat)) h := fun F w0 μ w args' H hl =>
  (count_local s).closed (fun v hv => by
    rcases List.mem_cons.1 hv with rfl | hv
    · rfl
    · rw [List.mem_singleton.1 hv]; rfl) rfl h H hl

/-- How many trials blunt. -/
def bluntN (hd : Nat) (l : List Int) : Nat := (l.filter fun x => ltF (.ofNat hd) x).length
theorem cnt_word (hd : Nat) : ∀ (l : List Int) (k : Nat), cntB (strB (wordOf (.ofNat hd) l)).data.toList 98 k = k + bluntN hd l := by
  have e : ∀ l : List Int, (strB (wordOf (.ofNat hd) l)).data.toList = l.map fun x => (byteW (ltF (.ofNat hd) x)).toNat.toUInt8 := fun l => by
    show (((wordOf (.ofNat hd) l).map fun x => x.toNat.toUInt8).toArray).toList = _
    unfold wordOf
    rw [List.map_map]
    rfl
  intro l
  rw [e]
  clear e
  induction l with
  | nil => intro k; rfl
  | cons x l ih =>
    intro k
    unfold bluntN at ih ⊢
    rw [List.map_cons, List.filter_cons]
    cases ltF (.ofNat hd) x with
    | true =>
      show cntB _ 98 (k + 1) = _
      rw [ih, if_pos rfl, List.length_cons]
      omega
    | false =>
      show cntB (l.map fun x => (byteW (ltF (.ofNat hd) x)).toNat.toUInt8) 98 k = _
      rw [ih, if_neg (by simp)]

/-! ### The worst case -/
def longTo (g : Nat → List Int) : Nat → Nat
  | 0 => 0
  | m + 1 => max (longTo g m) (g m).length
def mostTo (g : Nat → List Int) : Nat → Nat
  | 0 => 0
  | m + 1 => max (mostTo g m) (bluntN m (g m))

noncomputable def runG (f : Nat → Int) (n m : Nat) : List Int := runF f n (.ofNat m)
theorem wordS_run (f : Nat → Int) (n m : Nat) : wordS f n m = strB (wordOf (.ofNat m) (runG f n m)) := rfl
theorem wordS_size (f : Nat → Int) (n m : Nat) : (wordS f n m).size = (runG f n m).length := by
  rw [wordS_run, strB_size]
  exact List.length_map _
theorem wordS_cnt (f : Nat → Int) (n m : Nat) : cntB (wordS f n m).data.toList 98 0 = bluntN m (runG f n m) := by
  rw [wordS_run, cnt_word, Nat.zero_add]

noncomputable def c51 : Code := bodyOf Tryz.f15
noncomputable def lp51 : Code := within (tl (hd (behind 2 c51)))
noncomputable def S51 (f : Nat → Int) (n m : Nat) : List (Nat × Value) := [(2, i64 (longTo (runG f n) m)), (3, i64 (mostTo (runG f n) m)), (14, bldV 1 (n + 1)), (15, i64 (n + 1)), (16, i64 m)]
theorem strS_at {h : AH} {i k : Nat} {g : Nat → ByteArray} {lv : Bool} {par : List Nat} {ty : Option TypeId} (hg : h.get 1 = .cells (strsV k g) lv par ty) (hi : i < k) : rowAt? h 1 (0 + i * 1) 1 = some [.string (g i)] := by
  rw [row_at hg (by rw [strsV_len]; omega), Nat.zero_add, Nat.mul_one]
  have : (strsV k g)[i]? = some (.string (g i)) := by simp [strsV, hi]
  rw [List.take_one, List.head?_drop, this]
  rfl

theorem worst_loop (n cap : Nat) (f : Nat → Int) (hn : n < 100000) : ∀ d m, m + d = n + 1 →
    Runs Tryz.prog 1 lp51 (sth (S51 f n m) 31 [viewZ n f, rowS (n + 1) (wordS f n)]) fun e af => e = .exit 0 ∧ Less 1 (sth (S51 f n (n + 1)) 31 [viewZ n f, rowS (n + 1) (wordS f n)]) af := by
  intro d
  induction d with
  | zero =>
    intro m hm
    have e : m = n + 1 := by omega
    subst e
    refine Runs.lp (by kernel_rfl) (Runs.sqR mixed hk38 [] (by kernel_rfl) (by kernel_rfl) (by kernel_rfl) oblN ?_)
    refine Runs.sq (by kernel_rfl) (Runs.cd (b := ltF (.ofNat (n + 1)) (.ofNat (n + 1))) (by kernel_rfl) (fun ht => by rw [lt_self] at ht; cases ht) (fun _ => Runs.now (x := .exit 0) (by kernel_rfl) ⟨rfl, ?_⟩))
    exact less_seenP (clo_all (k := 2) (by kernel_rfl)) ws_clo (show 1 ≤ 2 by decide) (by kernel_rfl) (by kernel_rfl) (by kernel_rfl) (by kernel_rfl)
  | succ d ih =>
    intro m hm
    have hlt : m < n + 1 := by omega
    refine Runs.lp (by kernel_rfl) (Runs.sqR mixed hk38 [] (by kernel_rfl) (by kernel_rfl) (by kernel_rfl) oblN ?_)
    refine Runs.sq (by kernel_rfl) (Runs.cd (b := ltF (.ofNat m) (.ofNat (n + 1))) (by kernel_rfl) (fun _ => Runs.now (x := .normal) (by kernel_rfl) ?_) (fun hf => by rw [lt_of hlt] at hf; cases hf))
    show Runs Tryz.prog 1 _ _ _
    refine Runs.sq (by kernel_rfl) (Runs.bk (id := 1) (by kernel_rfl) ?_)
    refine Runs.sqR mixed hk38 [viaV 0 (.pointer (some ⟨1, 0 + m * 1, none⟩)), viaV 1 (.string (wordS f n m))] (by kernel_rfl) (by kernel_rfl) (by kernel_rfl)
      (oblC (shown_idx (n := n + 1) (by kernel_rfl) hlt) (oblC (shown_cell (by kernel_rfl) (strS_at (k := n + 1) (g := wordS f n) (lv := true) (par := []) (ty := some 9) (by kernel_rfl) hlt)) oblN)) ?_
    refine Runs.sqR mixed hk38 [viaV 3 (i64 (longTo (runG f n) (m + 1)))] (by kernel_rfl) (by kernel_rfl) (by kernel_rfl)
      (oblC (shown_eq (v := .int .i64 (maxV (.ofNat (longTo (runG f n) m)) (.ofNat (wordS f n m).size))) (by kernel_rfl) (by kernel_rfl) (by rw [maxV_nat, wordS_size]; rfl)) oblN) ?_
    refine Runs.rg mixed hk38 [viaC 2 48 [.string (wordS f n m), strb] (.int .i64 (cntB (wordS f n m).data.toList 98 0 : Nat)), viaV 3 (i64 (mostTo (runG f n) (m + 1)))] (by kernel_rfl) (by kernel_rfl) (by kernel_rfl)
      (oblC (shown_callE (h0 := hp [viewZ n f, rowS (n + 1) (wordS f n)]) (by kernel_rfl) (by kernel_rfl) (count_says _ _)) (oblC (shown_eq (v := .int .i64 (maxV (.ofNat (mostTo (runG f n) m)) (.ofNat (cntB (wordS f n m).data.toList 98 0)))) (by kernel_rfl) (by kernel_rfl) (by rw [maxV_nat, wordS_cnt]; rfl)) oblN)) ?_
    show Runs Tryz.prog 1 _ _ _
    refine Runs.rg mixed hk38 [viaV 0 (i64 (m + 1))] (by kernel_rfl) (by kernel_rfl) (by kernel_rfl) (oblC (shown_eq (v := .int .i64 (wrapF .i64 (Int.add (.ofNat m) (.ofNat 1)))) (by kernel_rfl) (by kernel_rfl) (by rw [wrap_succ (by omega)]; rfl)) oblN) ?_
    show Runs Tryz.prog 1 lp51 _ _
    exact Runs.less (less_seenP (clo_all (k := 2) (by kernel_rfl)) ws_clo (show 1 ≤ 2 by decide) (by kernel_rfl) (by kernel_rfl) (by kernel_rfl) (by kernel_rfl)) (ih (m + 1) (by omega))

theorem worst_says (n cap : Nat) (f : Nat → Int) (hc : n ≤ cap) (hn : n < 100000) (hx : chkN f n = 0) :
    Says Tryz.prog (hp [viewZ n f]) 15 [slV n cap] (.tuple #[i64 (longTo (runG f n) (n + 1)), i64 (mostTo (runG f n) (n + 1)), i64 0]) (hp [viewZ n f]) := by
  have hcl : Clo 1 (slV n cap) := clo_of 10 1 _ (by kernel_rfl)
  refine says_of (os := [viewZ n f]) ?_ (fun v hv => by rw [List.mem_singleton.1 hv]; exact hcl) viewZ_clo (clo_of 10 1 _ (by kernel_rfl))
  refine local_of noNum Tryz.func15 (show Tryz.f15.body = some c51 by kernel_rfl) ?_
  refine Runs.sqR mixed hk38 [] (by kernel_rfl) (by kernel_rfl) (by kernel_rfl) oblN ?_
  have hch := check_says n cap f hc (by omega)
  rw [hx] at hch
  refine Runs.sq (by kernel_rfl) (Runs.sqR mixed hk38 [viaC 1 19 [slV n cap] (i64 0)] (by kernel_rfl) (by kernel_rfl) (by kernel_rfl) (oblC (shown_callE (h0 := hp [viewZ n f]) (by kernel_rfl) (by kernel_rfl) hch) oblN) ?_)
  refine Runs.sqR mixed hk38 [] (by kernel_rfl) (by kernel_rfl) (by kernel_rfl) oblN ?_
  refine Runs.cd (b := false) (by kernel_rfl) (fun h => by cases h) (fun _ => Runs.now (x := .normal) (by kernel_rfl) ?_)
  show Runs Tryz.prog 1 _ _ _
  refine Runs.sq (by kernel_rfl) (Runs.sqR mixed hk38 [viaH 1 46 [slV n cap] (bldV 1 (n + 1)) ((hp [viewZ n f]).new (rowS (n + 1) (wordS f n))).2] (by kernel_rfl) (by kernel_rfl) (by kernel_rfl)
    (oblC (shown_callHE (h0 := hp [viewZ n f]) (by kernel_rfl) (by kernel_rfl) (words_says n cap f hc hn)) oblN) (Runs.bk (id := 0) (by kernel_rfl) ?_))
  refine Runs.less (af1 := sth (S51 f n 0) 31 [viewZ n f, rowS (n + 1) (wordS f n)]) (less_seenP (clo_all (k := 2) (by kernel_rfl)) ws_clo (show 1 ≤ 2 by decide) (by kernel_rfl) (by kernel_rfl) (by kernel_rfl) (by kernel_rfl)) ?_
  refine (worst_loop n cap f hn (n + 1) 0 (by omega)).mono fun x af hp => ?_
  obtain ⟨rfl, less⟩ := hp
  show Runs Tryz.prog 1 (behind 3 c51) af _
  refine Runs.less less ?_
  refine Runs.sqR mixed hk38 [] (by kernel_rfl) (by kernel_rfl) (by kernel_rfl) oblN ?_
  refine Runs.now (x := .ret) (by kernel_rfl) ⟨.inr rfl, [i64 (longTo (runG f n) (n + 1)), i64 (mostTo (runG f n) (n + 1)), i64 0], by kernel_rfl, rfl, fun j o ho => ?_⟩
  cases j with
  | zero => cases ho; exact Eq.trans (Eq.refl _) (by kernel_rfl)
  | succ j => cases ho
end
end Go.Proofs.YtgnkjmgkfibipaaGreatDoor

/- Proves over plans that pass the check. -/
namespace Go.Proofs.YtgnkjmgkfibipaaGreatDoor
set_option linter.unusedVariables false
set_option linter.unusedSimpArgs false
open Go Go.R
set_option maxRecDepth 1000000
noncomputable section

theorem hook_says {hk : Hook} (hh : HookOk Tryz.prog hk) {f : FuncId} {args : List Value} {h h1 : AH} {v : Value} (he : hk f args h = some (some (v, h1))) : Says Tryz.prog h f args v h1 :=
  fun F w0 μ w args' H hl => hh f args h v h1 (by simp only [he]) F w0 μ w args' H hl
theorem ltN_no {a b : Nat} (h : ltF (.ofNat a) (.ofNat b) = false) : ¬ a < b := fun q => by
  have := ltF_not.1 h
  have : (b : Int) ≤ (a : Int) := this
  omega
theorem ltN_yes {a b : Nat} (h : ltF (.ofNat a) (.ofNat b) = true) : a < b := Int.ofNat_lt.1 (ltF_iff.1 h)
theorem blt_true {a b : Nat} (h : a < b) : Nat.blt a b = true := by rw [Nat.blt_eq]; exact h
theorem fewest_says {n b : Nat} (hn : n < 13) (hb : b < 7) (h : AH) : Says Tryz.prog h 55 [i64 n, i64 b] (i64 (fewestN n b)) h := by
  refine hook_says (hk := numH 55 (grid2 13 7 vFewest)) (grid2_ok (call_ok mixed noNum hReach_ok 1000) fewest_tab) ?_
  have h1 := blt_true hn
  have h2 := blt_true hb
  simp only [numH, grid2, i64, h1, h2, if_true, vFewest]
  rfl

def pvN (n b W B : Nat) : Nat := if outZ (.ofNat b) 1 6 then 1 else if B > b then 15 else if 0 < W ∧ fewestN n b < W then 14 else 0

noncomputable def c63 : Code := bodyOf Tryz.f21
noncomputable def S63 (n cap b W B : Nat) : List (Nat × Value) := [(0, slV n cap), (1, i64 b), (5, i64 W), (6, i64 B), (7, i64 0)]
theorem proves_says (n cap b : Nat) (f : Nat → Int) (hc : n ≤ cap) (hn : n < 13) (hx : chkN f n = 0) :
    Says Tryz.prog (hp [viewZ n f]) 21 [slV n cap, i64 b] (i64 (pvN n b (longTo (runG f n) (n + 1)) (mostTo (runG f n) (n + 1)))) (hp [viewZ n f]) := by
  have hw := worst_says n cap f hc (by omega) hx
  generalize longTo (runG f n) (n + 1) = W at *
  generalize mostTo (runG f n) (n + 1) = B at *
  refine says_of (os := [viewZ n f]) ?_ (fun v hv => by
    rcases List.mem_cons.1 hv with rfl | hv
    · exact clo_of 10 1 _ (by kernel_rfl)
    · rw [List.mem_singleton.1 hv]; exact clo_plain rfl) viewZ_clo (clo_plain rfl)
  refine local_of noNum Tryz.func21 (show Tryz.f21.body = some c63 by kernel_rfl) ?_
  have fin : ∀ {x : AExit} {af : AF} {r : Nat}, pvN n b W B = r → x = .normal ∨ x = .ret → resultsA Tryz.prog af.tm af.h Tryz.f21.results.toList = some [i64 r] → af.h.get 0 = viewZ n f → EndsAs Tryz.prog Tryz.f21 (Holds [viewZ n f] (i64 (pvN n b W B))) x af := by
    intro x af r e h1 h2 h3
    rw [e]
    refine ⟨h1, [i64 r], h2, rfl, fun j o ho => ?_⟩
    cases j with
    | zero => cases ho; exact h3
    | succ j => cases ho
  refine Runs.sqR mixed hk38 [] (by kernel_rfl) (by kernel_rfl) (by kernel_rfl) oblN ?_
  refine Runs.sqR mixed hk38 [viaC 1 15 [slV n cap] (.tuple #[i64 W, i64 B, i64 0])] (by kernel_rfl) (by kernel_rfl) (by kernel_rfl) (oblC (shown_callE (h0 := hp [viewZ n f]) (by kernel_rfl) (by kernel_rfl) hw) oblN) ?_
  refine Runs.less (af1 := sth (S63 n cap b W B) 36 [viewZ n f]) (less_seenP (fun p hp => ?_) viewZ_clo (Nat.le_refl 1) (by kernel_rfl) (by kernel_rfl) (by kernel_rfl) (by kernel_rfl)) ?_
  · simp only [S63, List.mem_cons, List.mem_nil_iff, or_false] at hp
    rcases hp with rfl | rfl | rfl | rfl | rfl <;> exact clo_of 10 1 _ (by kernel_rfl)
  refine Runs.sq (by kernel_rfl) (Runs.bk (id := 0) (by kernel_rfl) ?_)
  refine Runs.sqR mixed hk38 [] (by kernel_rfl) (by kernel_rfl) (by kernel_rfl) oblN ?_
  refine Runs.cd (b := false) (by kernel_rfl) (fun h => by cases h) (fun _ => ?_)
  refine Runs.sqR mixed hk38 [viaC 1 51 [i64 b, i64 1, i64 6] (.bool (outZ (.ofNat b) 1 6))] (by kernel_rfl) (by kernel_rfl) (by kernel_rfl) (oblC (shown_callE (h0 := hp [viewZ n f]) (by kernel_rfl) (by kernel_rfl) (outZ_says (.ofNat b) 1 6 _)) oblN) ?_
  refine Runs.cd (b := outZ (.ofNat b) 1 6) (by kernel_rfl) (fun ho => ?_) (fun ho => ?_)
  · refine Runs.sqR mixed hk38 [] (by kernel_rfl) (by kernel_rfl) (by kernel_rfl) oblN (Runs.now (x := .ret) (by kernel_rfl) ?_)
    exact fin (r := 1) (by unfold pvN; rw [if_pos ho]) (.inr rfl) (by kernel_rfl) (by kernel_rfl)
  · have hb : 1 ≤ b ∧ b ≤ 6 := by
      unfold outZ at ho
      rw [Bool.or_eq_false_iff] at ho
      have a1 := ltF_not.1 ho.1
      have a2 := ltF_not.1 ho.2
      have a1' : (1 : Int) ≤ (b : Int) := a1
      have a2' : (b : Int) ≤ 6 := a2
      omega
    refine Runs.sqR mixed hk38 [] (by kernel_rfl) (by kernel_rfl) (by kernel_rfl) oblN ?_
    refine Runs.cd (b := ltF (.ofNat b) (.ofNat B)) (by kernel_rfl) (fun hB => ?_) (fun hB => ?_)
    · have hB' : b < B := Int.ofNat_lt.1 (ltF_iff.1 hB)
      refine Runs.sqR mixed hk38 [] (by kernel_rfl) (by kernel_rfl) (by kernel_rfl) oblN (Runs.now (x := .ret) (by kernel_rfl) ?_)
      exact fin (r := 15) (by unfold pvN; rw [ho]; simp [hB']) (.inr rfl) (by kernel_rfl) (by kernel_rfl)
    · have hB' : ¬ b < B := ltN_no hB
      cases hW : ltF 0 (.ofNat W) with
      | false =>
        have hW' : ¬ 0 < W := ltN_no (a := 0) hW
        refine Runs.sqR mixed hk38 [viaV 1 (.bool false)] (by kernel_rfl) (by kernel_rfl) (by kernel_rfl) (oblC (shown_eq (v := .bool (ltF 0 (.ofNat W))) (by kernel_rfl) (by kernel_rfl) (by rw [hW])) oblN) ?_
        refine Runs.cd (b := false) (by kernel_rfl) (fun h => by cases h) (fun _ => Runs.now (x := .normal) (by kernel_rfl) ?_)
        show Runs Tryz.prog 1 (behind 3 c63) _ _
        refine Runs.sqR mixed hk38 [] (by kernel_rfl) (by kernel_rfl) (by kernel_rfl) oblN (Runs.now (x := .ret) (by kernel_rfl) ?_)
        exact fin (r := 0) (by unfold pvN; rw [ho]; simp [hB', hW']) (.inr rfl) (by kernel_rfl) (by kernel_rfl)
      | true =>
        have hW' : 0 < W := Int.ofNat_lt.1 (ltF_iff.1 hW)
        refine Runs.sqR mixed hk38 [viaV 1 (.bool true), viaC 6 55 [i64 n, i64 b] (i64 (fewestN n b))] (by kernel_rfl) (by kernel_rfl) (by kernel_rfl)
          (oblC (shown_eq (v := .bool (ltF 0 (.ofNat W))) (by kernel_rfl) (by kernel_rfl) (by rw [hW])) (oblC (shown_callE (h0 := hp [viewZ n f]) (by kernel_rfl) (by kernel_rfl) (fewest_says hn (by omega) _)) oblN)) ?_
        refine Runs.cd (b := ltF (.ofNat (fewestN n b)) (.ofNat W)) (by kernel_rfl) (fun hf => ?_) (fun hf => Runs.now (x := .normal) (by kernel_rfl) ?_)
        · have hf' : fewestN n b < W := Int.ofNat_lt.1 (ltF_iff.1 hf)
          refine Runs.sqR mixed hk38 [] (by kernel_rfl) (by kernel_rfl) (by kernel_rfl) oblN (Runs.now (x := .ret) (by kernel_rfl) ?_)
          exact fin (r := 14) (by unfold pvN; rw [ho]; simp [hB', hW', hf']) (.inr rfl) (by kernel_rfl) (by kernel_rfl)
        · have hf' : ¬ fewestN n b < W := ltN_no hf
          show Runs Tryz.prog 1 (behind 3 c63) _ _
          refine Runs.sqR mixed hk38 [] (by kernel_rfl) (by kernel_rfl) (by kernel_rfl) oblN (Runs.now (x := .ret) (by kernel_rfl) ?_)
          exact fin (r := 0) (by unfold pvN; rw [ho]; simp [hB', hf']) (.inr rfl) (by kernel_rfl) (by kernel_rfl)
end
end Go.Proofs.YtgnkjmgkfibipaaGreatDoor
