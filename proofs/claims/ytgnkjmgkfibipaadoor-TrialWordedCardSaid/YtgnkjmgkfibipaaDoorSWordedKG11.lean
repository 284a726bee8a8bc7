/- strings.Count, Worst and Proves over plans that pass the check. -/
import Derived.Test.YtgnkjmgkfibipaaDoorSWordedKG8
import Derived.Test.YtgnkjmgkfibipaaDoorSWordedKTabs
namespace Go.Proofs.YtgnkjmgkfibipaaDoor
set_option linter.unusedVariables false
set_option linter.unusedSimpArgs false
open Go Go.R
set_option maxRecDepth 1000000
noncomputable section

/-! ### Letters -/
noncomputable def strb : Value := .string ⟨#[98]⟩
noncomputable def c50 : Code := bodyOf Tryd.f50
theorem count_local (s : ByteArray) : Local Tryd.prog 0 50 [.string s, strb] AH.empty fun v' _ => v' = .int .i64 (cntB s.data.toList 98 0 : Nat) := by
  refine local_of noNum Tryd.func50 (show Tryd.f50.body = some c50 by kernel_rfl) ?_
  exact Runs.lastEq (R := fun v' _ => v' = .int .i64 (cntB s.data.toList 98 0 : Nat)) mixed hk38 (n := 100) (x := .ret) (vs := [.int .i64 (cntB s.data.toList 98 0 : Nat)]) (Nat.zero_le _) (.inr rfl) (by kernel_rfl) (fun _ => rfl)
theorem count_says (s : ByteArray) (h : AH) : Says Tryd.prog h 50 [.string s, strb] (.int .i64 (cntB s.data.toList 98 0 : Nat)) h := fun F w0 μ w args' H hl =>
  (count_local s).closed (fun v hv => by
    rcases List.mem_cons.1 hv with rfl | hv
    · rfl
    · rw [List.mem_singleton.1 hv]; rfl) rfl h H hl

/-- How many trials blunt. -/
def bluntN (hd : Nat) (l : List Int) : Nat := (l.filter fun x => ltF (.ofNat hd) x).length
theorem cnt_word (hd : Nat) : ∀ (l : List Int) (k : Nat), cntB (strB (wordOf (.ofNat hd) l)).data.toList 98 k = k + bluntN hd l := by
  have e : ∀ l : List Int, (strB (wordOf (.ofNat hd) l)).data.toList = l.map fun x => (byteW (ltF (.ofNat hd) x)).toNat.toUInt8 := fun l => by
    show (((wordOf (.ofNat hd) l).map fun x => x.toNat.toUInt8).toArray).toList = _
    unfold wordOf
    rw [List.map_map]
    rfl
  intro l
  rw [e]
  clear e
  induction l with
  | nil => intro k; rfl
  | cons x l ih =>
    intro k
    unfold bluntN at ih ⊢
    rw [List.map_cons, List.filter_cons]
    cases ltF (.ofNat hd) x with
    | true =>
      show cntB _ 98 (k + 1) = _
      rw [ih, if_pos rfl, List.length_cons]
      omega
    | false =>
      show cntB (l.map fun x => (byteW (ltF (.ofNat hd) x)).toNat.toUInt8) 98 k = _
      rw [ih, if_neg (by simp)]

/-! ### The worst case -/
def longTo (g : Nat → List Int) : Nat → Nat
  | 0 => 0
  | m + 1 => max (longTo g m) (g m).length
def mostTo (g : Nat → List Int) : Nat → Nat
  | 0 => 0
  | m + 1 => max (mostTo g m) (bluntN m (g m))

noncomputable def runG (f : Nat → Int) (n m : Nat) : List Int := runF f n (.ofNat m)
theorem wordS_run (f : Nat → Int) (n m : Nat) : wordS f n m = strB (wordOf (.ofNat m) (runG f n m)) := rfl
theorem wordS_size (f : Nat → Int) (n m : Nat) : (wordS f n m).size = (runG f n m).length := by
  rw [wordS_run, strB_size]
  exact List.length_map _
theorem wordS_cnt (f : Nat → Int) (n m : Nat) : cntB (wordS f n m).data.toList 98 0 = bluntN m (runG f n m) := by
  rw [wordS_run, cnt_word, Nat.zero_add]

noncomputable def c51 : Code := bodyOf Tryd.f51
noncomputable def lp51 : Code := within (tl (hd (behind 2 c51)))
noncomputable def S51 (f : Nat → Int) (n m : Nat) : List (Nat × Value) := [(2, i64 (longTo (runG f n) m)), (3, i64 (mostTo (runG f n) m)), (14, bldV 1 (n + 1)), (15, i64 (n + 1)), (16, i64 m)]
theorem strS_at {h : AH} {i k : Nat} {g : Nat → ByteArray} {lv : Bool} {par : List Nat} {ty : Option TypeId} (hg : h.get 1 = .cells (strsV k g) lv par ty) (hi : i < k) : rowAt? h 1 (0 + i * 1) 1 = some [.string (g i)] := by
  rw [row_at hg (by rw [strsV_len]; omega), Nat.zero_add, Nat.mul_one]
  have : (strsV k g)[i]? = some (.string (g i)) := by simp [strsV, hi]
  rw [List.take_one, List.head?_drop, this]
  rfl

theorem worst_loop (n cap : Nat) (f : Nat → Int) (hn : n < 100000) : ∀ d m, m + d = n + 1 →
    Runs Tryd.prog 1 lp51 (sth (S51 f n m) 31 [viewZ n f, rowS (n + 1) (wordS f n)]) fun e af => e = .exit 0 ∧ Less 1 (sth (S51 f n (n + 1)) 31 [viewZ n f, rowS (n + 1) (wordS f n)]) af := by
  intro d
  induction d with
  | zero =>
    intro m hm
    have e : m = n + 1 := by omega
    subst e
    refine Runs.lp (by kernel_rfl) (Runs.sqR mixed hk38 [] (by kernel_rfl) (by kernel_rfl) (by kernel_rfl) oblN ?_)
    refine Runs.sq (by kernel_rfl) (Runs.cd (b := ltF (.ofNat (n + 1)) (.ofNat (n + 1))) (by kernel_rfl) (fun ht => by rw [lt_self] at ht; cases ht) (fun _ => Runs.now (x := .exit 0) (by kernel_rfl) ⟨rfl, ?_⟩))
    exact less_seenP (clo_all (k := 2) (by kernel_rfl)) ws_clo (show 1 ≤ 2 by decide) (by kernel_rfl) (by kernel_rfl) (by kernel_rfl) (by kernel_rfl)
  | succ d ih =>
    intro m hm
    have hlt : m < n + 1 := by omega
    refine Runs.lp (by kernel_rfl) (Runs.sqR mixed hk38 [] (by kernel_rfl) (by kernel_rfl) (by kernel_rfl) oblN ?_)
    refine Runs.sq (by kernel_rfl) (Runs.cd (b := ltF (.ofNat m) (.ofNat (n + 1))) (by kernel_rfl) (fun _ => Runs.now (x := .normal) (by kernel_rfl) ?_) (fun hf => by rw [lt_of hlt] at hf; cases hf))
    show Runs Tryd.prog 1 _ _ _
    refine Runs.sq (by kernel_rfl) (Runs.bk (id := 1) (by kernel_rfl) ?_)
    refine Runs.sqR mixed hk38 [viaV 0 (.pointer (some ⟨1, 0 + m * 1, none⟩)), viaV 1 (.string (wordS f n m))] (by kernel_rfl) (by kernel_rfl) (by kernel_rfl)
      (oblC (shown_idx (n := n + 1) (by kernel_rfl) hlt) (oblC (shown_cell (by kernel_rfl) (strS_at (k := n + 1) (g := wordS f n) (lv := true) (par := []) (ty := some 9) (by kernel_rfl) hlt)) oblN)) ?_
    refine Runs.sqR mixed hk38 [viaV 3 (i64 (longTo (runG f n) (m + 1)))] (by kernel_rfl) (by kernel_rfl) (by kernel_rfl)
      (oblC (shown_eq (v := .int .i64 (maxV (.ofNat (longTo (runG f n) m)) (.ofNat (wordS f n m).size))) (by kernel_rfl) (by kernel_rfl) (by rw [maxV_nat, wordS_size]; rfl)) oblN) ?_
    refine Runs.rg mixed hk38 [viaC 2 50 [.string (wordS f n m), strb] (.int .i64 (cntB (wordS f n m).data.toList 98 0 : Nat)), viaV 3 (i64 (mostTo (runG f n) (m + 1)))] (by kernel_rfl) (by kernel_rfl) (by kernel_rfl)
      (oblC (shown_callE (h0 := hp [viewZ n f, rowS (n + 1) (wordS f n)]) (by kernel_rfl) (by kernel_rfl) (count_says _ _)) (oblC (shown_eq (v := .int .i64 (maxV (.ofNat (mostTo (runG f n) m)) (.ofNat (cntB (wordS f n m).data.toList 98 0)))) (by kernel_rfl) (by kernel_rfl) (by rw [maxV_nat, wordS_cnt]; rfl)) oblN)) ?_
    show Runs Tryd.prog 1 _ _ _
    refine Runs.rg mixed hk38 [viaV 0 (i64 (m + 1))] (by kernel_rfl) (by kernel_rfl) (by kernel_rfl) (oblC (shown_eq (v := .int .i64 (wrapF .i64 (Int.add (.ofNat m) (.ofNat 1)))) (by kernel_rfl) (by kernel_rfl) (by rw [wrap_succ (by omega)]; rfl)) oblN) ?_
    show Runs Tryd.prog 1 lp51 _ _
    exact Runs.less (less_seenP (clo_all (k := 2) (by kernel_rfl)) ws_clo (show 1 ≤ 2 by decide) (by kernel_rfl) (by kernel_rfl) (by kernel_rfl) (by kernel_rfl)) (ih (m + 1) (by omega))

theorem worst_says (n cap : Nat) (f : Nat → Int) (hc : n ≤ cap) (hn : n < 100000) (hx : chkN f n = 0) :
    Says Tryd.prog (hp [viewZ n f]) 51 [slV n cap] (.tuple #[i64 (longTo (runG f n) (n + 1)), i64 (mostTo (runG f n) (n + 1)), i64 0]) (hp [viewZ n f]) := by
  have hcl : Clo 1 (slV n cap) := clo_of 10 1 _ (by kernel_rfl)
  refine says_of (os := [viewZ n f]) ?_ (fun v hv => by rw [List.mem_singleton.1 hv]; exact hcl) viewZ_clo (clo_of 10 1 _ (by kernel_rfl))
  refine local_of noNum Tryd.func51 (show Tryd.f51.body = some c51 by kernel_rfl) ?_
  refine Runs.sqR mixed hk38 [] (by kernel_rfl) (by kernel_rfl) (by kernel_rfl) oblN ?_
  have hch := check_says n cap f hc (by omega)
  rw [hx] at hch
  refine Runs.sq (by kernel_rfl) (Runs.sqR mixed hk38 [viaC 1 45 [slV n cap] (i64 0)] (by kernel_rfl) (by kernel_rfl) (by kernel_rfl) (oblC (shown_callE (h0 := hp [viewZ n f]) (by kernel_rfl) (by kernel_rfl) hch) oblN) ?_)
  refine Runs.sqR mixed hk38 [] (by kernel_rfl) (by kernel_rfl) (by kernel_rfl) oblN ?_
  refine Runs.cd (b := false) (by kernel_rfl) (fun h => by cases h) (fun _ => Runs.now (x := .normal) (by kernel_rfl) ?_)
  show Runs Tryd.prog 1 _ _ _
  refine Runs.sq (by kernel_rfl) (Runs.sqR mixed hk38 [viaH 1 95 [slV n cap] (bldV 1 (n + 1)) ((hp [viewZ n f]).new (rowS (n + 1) (wordS f n))).2] (by kernel_rfl) (by kernel_rfl) (by kernel_rfl)
    (oblC (shown_callHE (h0 := hp [viewZ n f]) (by kernel_rfl) (by kernel_rfl) (words_says n cap f hc hn)) oblN) (Runs.bk (id := 0) (by kernel_rfl) ?_))
  refine Runs.less (af1 := sth (S51 f n 0) 31 [viewZ n f, rowS (n + 1) (wordS f n)]) (less_seenP (clo_all (k := 2) (by kernel_rfl)) ws_clo (show 1 ≤ 2 by decide) (by kernel_rfl) (by kernel_rfl) (by kernel_rfl) (by kernel_rfl)) ?_
  refine (worst_loop n cap f hn (n + 1) 0 (by omega)).mono fun x af hp => ?_
  obtain ⟨rfl, less⟩ := hp
  show Runs Tryd.prog 1 (behind 3 c51) af _
  refine Runs.less less ?_
  refine Runs.sqR mixed hk38 [] (by kernel_rfl) (by kernel_rfl) (by kernel_rfl) oblN ?_
  refine Runs.now (x := .ret) (by kernel_rfl) ⟨.inr rfl, [i64 (longTo (runG f n) (n + 1)), i64 (mostTo (runG f n) (n + 1)), i64 0], by kernel_rfl, rfl, fun j o ho => ?_⟩
  cases j with
  | zero => cases ho; exact Eq.trans (Eq.refl _) (by kernel_rfl)
  | succ j => cases ho
end
end Go.Proofs.YtgnkjmgkfibipaaDoor

/- Proves over plans that pass the check. -/
namespace Go.Proofs.YtgnkjmgkfibipaaDoor
set_option linter.unusedVariables false
set_option linter.unusedSimpArgs false
open Go Go.R
set_option maxRecDepth 1000000
noncomputable section

theorem hook_says {hk : Hook} (hh : HookOk Tryd.prog hk) {f : FuncId} {args : List Value} {h h1 : AH} {v : Value} (he : hk f args h = some (some (v, h1))) : Says Tryd.prog h f args v h1 :=
  fun F w0 μ w args' H hl => hh f args h v h1 (by simp only [he]) F w0 μ w args' H hl
theorem blt_true {a b : Nat} (h : a < b) : Nat.blt a b = true := by rw [Nat.blt_eq]; exact h
end
end Go.Proofs.YtgnkjmgkfibipaaDoor
