/- Words: the reference's checked: beginnings. -/
import Derived.Test.YtgnkjmgkfibipaaDoorSWordsKW2
import Derived.Test.YtgnkjmgkfibipaaDoorSWordsRG9
namespace Go.Proofs.YtgnkjmgkfibipaaDoor
set_option linter.unusedVariables false
set_option linter.unusedSimpArgs false
open Go Go.R
set_option maxRecDepth 1000000
noncomputable section

noncomputable def lp72c : Code := within (tl (hd (behind 5 c72)))
noncomputable def lp72d : Code := within (tl (within (hd (tl (within lp72c)))))
noncomputable def lp72e : Code := within (tl (hd (behind 6 c72)))
noncomputable def lp72f : Code := within (tl (within (hd (tl (within lp72e)))))
def errK (g : Nat → ByteArray) (i k : Nat) : Nat := if Nat.beq k i then 0 else if prefB (g i) (g k) then 13 else 0
def preB (w : ByteArray) (k : Nat) (c : UInt8) : ByteArray := w.extract 0 k ++ ⟨#[c]⟩
def errO (n : Nat) (g : Nat → ByteArray) (i k : Nat) : Nat := if contF g (preB (g i) k 98) n 0 then (if contF g (preB (g i) k 115) n 0 then 0 else 21) else 21
section
variable {n cap : Nat} {g : Nat → ByteArray}
noncomputable def S72c (n cap : Nat) (g : Nat → ByteArray) (i : Nat) : AF := sth [(0, slV n cap), (6, i64 i)] 132 [viewS n g]
noncomputable def S72d (n cap : Nat) (g : Nat → ByteArray) (i k : Nat) : AF := sth [(0, slV n cap), (6, i64 i), (7, i64 k)] 132 [viewS n g]
noncomputable def S72e (n cap : Nat) (g : Nat → ByteArray) (i : Nat) : AF := sth [(0, slV n cap), (8, i64 i)] 132 [viewS n g]
noncomputable def S72f (n cap : Nat) (g : Nat → ByteArray) (i k : Nat) : AF := sth [(0, slV n cap), (8, i64 i), (9, i64 k)] 132 [viewS n g]

theorem pair_round {i : Nat} (hi : i < n) (hn : n < 1000000) (k : Nat) (hk : k < n) (Q : AExit → AF → Prop) (hz : errK g i k = 0 → Runs Tryd.prog 1 lp72d (S72d n cap g i (k + 1)) Q)
    (hb : errK g i k ≠ 0 → ∀ af, GivesR n g (errK g i k) af → Q .ret af) : Runs Tryd.prog 1 lp72d (S72d n cap g i k) Q := by
  refine Runs.lp (by kernel_rfl) (Runs.sq (by kernel_rfl) (Runs.sqR mixed hk38 [] (by kernel_rfl) (by kernel_rfl) (by kernel_rfl) oblN ?_))
  refine Runs.cd (b := ltF (.ofNat k) (.ofNat n)) (by kernel_rfl) (fun _ => Runs.now (x := .normal) (by kernel_rfl) ?_) (fun hf => by rw [lt_of hk] at hf; cases hf)
  show Runs Tryd.prog 1 _ _ _
  refine Runs.sq (by kernel_rfl) (Runs.bk (id := 9) (by kernel_rfl) ?_)
  have next : errK g i k = 0 → ∀ {af : AF}, Less 1 (sth [(0, slV n cap), (6, i64 i), (7, i64 k)] 132 [viewS n g]) af → Runs Tryd.prog 1 (tl (tl (within lp72d))) af (andThen (fun af => Runs Tryd.prog 1 lp72d af Q) Q) := fun hz' {af} less => by
    refine Runs.less less (Runs.rg mixed hk38 [] (by kernel_rfl) (by kernel_rfl) (by kernel_rfl) oblN ?_)
    show Runs Tryd.prog 1 lp72d _ _
    refine Runs.less (af1 := S72d n cap g i (k + 1)) ?_ (hz hz')
    have ew : ([(0, slV n cap), (6, i64 i), (7, i64 (k + 1))] : List (Nat × Value)) = [(0, slV n cap), (6, i64 i), (7, .int .i64 (wrapF .i64 (Int.add (.ofNat k) (.ofNat 1))))] := by rw [wrap_succ (by omega : k < 4611686018427387904)]; rfl
    refine less_seenP (clo_all (k := 1) (by kernel_rfl)) viewS_clo (Nat.le_refl 1) ?_ (by kernel_rfl) (by kernel_rfl) (by kernel_rfl)
    rw [ew]
    exact Eq.trans (Eq.refl _) (by kernel_rfl)
  have ee : errK g i k = if Nat.beq k i then 0 else if prefB (g i) (g k) then 13 else 0 := rfl
  cases hki : Nat.beq k i with
  | true =>
    rw [hki, if_pos rfl] at ee
    refine Runs.sqR mixed hk38 [viaV 2 (.bool false)] (by kernel_rfl) (by kernel_rfl) (by kernel_rfl) (oblC (shown_eq (v := .bool (!(eqF (.ofNat k) (.ofNat i)))) (by kernel_rfl) (by kernel_rfl) (by rw [eqN_iff, hki]; rfl)) oblN) ?_
    refine Runs.cd (b := false) (by kernel_rfl) (fun h => by cases h) (fun _ => Runs.now (x := .normal) (by kernel_rfl) ?_)
    exact next ee (less_seenP (clo_all (k := 1) (by kernel_rfl)) viewS_clo (Nat.le_refl 1) (by kernel_rfl) (by kernel_rfl) (by kernel_rfl) (by kernel_rfl))
  | false =>
    rw [hki, if_neg (by simp)] at ee
    refine Runs.sqR mixed hk38 [viaV 2 (.bool true), viaV 6 (.pointer (some ⟨0, 0 + i * 1, none⟩)), viaV 7 (.string (g i)), viaV 10 (.pointer (some ⟨0, 0 + k * 1, none⟩)), viaV 11 (.string (g k)), viaC 12 115 [.string (g i), .string (g k)] (.bool (prefB (g i) (g k)))] (by kernel_rfl) (by kernel_rfl) (by kernel_rfl)
      (oblC (shown_eq (v := .bool (!(eqF (.ofNat k) (.ofNat i)))) (by kernel_rfl) (by kernel_rfl) (by rw [eqN_iff, hki]; rfl))
      (oblC (shown_idx (n := n) (by kernel_rfl) hi) (oblC (shown_cell (g := 0) (off := 0 + i * 1) (by kernel_rfl) (cell72 (n := n) hi (by kernel_rfl)))
      (oblC (shown_idx (n := n) (by kernel_rfl) hk) (oblC (shown_cell (g := 0) (off := 0 + k * 1) (by kernel_rfl) (cell72 (n := n) hk (by kernel_rfl)))
      (oblC (shown_callE (h0 := hp [viewS n g]) (by kernel_rfl) (by kernel_rfl) (refBegins_says _ _ _)) oblN)))))) ?_
    cases hp : prefB (g i) (g k) with
    | false =>
      rw [hp] at ee
      refine Runs.cd (b := false) (by kernel_rfl) (fun h => by cases h) (fun _ => Runs.now (x := .normal) (by kernel_rfl) ?_)
      exact next ee (less_seenP (clo_all (k := 1) (by kernel_rfl)) viewS_clo (Nat.le_refl 1) (by kernel_rfl) (by kernel_rfl) (by kernel_rfl) (by kernel_rfl))
    | true =>
      rw [hp, if_pos rfl] at ee
      refine Runs.cd (b := true) (by kernel_rfl) (fun _ => ?_) (fun h => by cases h)
      refine Runs.sqR mixed hk38 [] (by kernel_rfl) (by kernel_rfl) (by kernel_rfl) oblN (Runs.now (x := .ret) (by kernel_rfl) (hb (by rw [ee]; decide) _ ?_))
      rw [ee]
      exact ⟨[i64 13], by kernel_rfl, rfl, keepOf (by kernel_rfl)⟩

theorem clash_round (hn : n < 1000000) (i : Nat) (hi : i < n) (Q : AExit → AF → Prop) (hz : scanE (errK g i) n 0 = 0 → Runs Tryd.prog 1 lp72c (S72c n cap g (i + 1)) Q)
    (hb : scanE (errK g i) n 0 ≠ 0 → ∀ af, GivesR n g (scanE (errK g i) n 0) af → Q .ret af) : Runs Tryd.prog 1 lp72c (S72c n cap g i) Q := by
  refine Runs.lp (by kernel_rfl) (Runs.sq (by kernel_rfl) (Runs.sqR mixed hk38 [] (by kernel_rfl) (by kernel_rfl) (by kernel_rfl) oblN ?_))
  refine Runs.cd (b := ltF (.ofNat i) (.ofNat n)) (by kernel_rfl) (fun _ => Runs.now (x := .normal) (by kernel_rfl) ?_) (fun hf => by rw [lt_of hi] at hf; cases hf)
  show Runs Tryd.prog 1 _ _ _
  refine Runs.sq (by kernel_rfl) (Runs.bk (id := 7) (by kernel_rfl) (Runs.sqR mixed hk38 [] (by kernel_rfl) (by kernel_rfl) (by kernel_rfl) oblN (Runs.bk (id := 8) (by kernel_rfl) ?_)))
  refine Runs.less (af1 := S72d n cap g i 0) (less_seenP (clo_all (k := 1) (by kernel_rfl)) viewS_clo (Nat.le_refl 1) (by kernel_rfl) (by kernel_rfl) (by kernel_rfl) (by kernel_rfl)) ?_
  show Runs Tryd.prog 1 lp72d _ _
  have stop : Runs Tryd.prog 1 lp72d (S72d n cap g i n) fun x af => x = .exit 8 ∧ Less 1 (S72c n cap g i) af := by
    refine Runs.lp (by kernel_rfl) (Runs.sq (by kernel_rfl) (Runs.sqR mixed hk38 [] (by kernel_rfl) (by kernel_rfl) (by kernel_rfl) oblN ?_))
    refine Runs.cd (b := ltF (.ofNat n) (.ofNat n)) (by kernel_rfl) (fun ht => by rw [lt_self] at ht; cases ht) (fun _ => Runs.now (x := .exit 8) (by kernel_rfl) ⟨rfl, ?_⟩)
    exact less_seenP (clo_all (k := 1) (by kernel_rfl)) viewS_clo (Nat.le_refl 1) (by kernel_rfl) (by kernel_rfl) (by kernel_rfl) (by kernel_rfl)
  refine (scan_runs (G := GivesR n g) stop (fun k hk Q hz hb => pair_round hi hn k hk Q hz hb) n 0 (by omega)).mono fun x af hx => ?_
  rcases hx with ⟨rfl, hne, hg⟩ | ⟨rfl, hz', less⟩
  · exact hb hne af hg
  · show Runs Tryd.prog 1 _ af _
    refine Runs.less less (Runs.rg mixed hk38 [] (by kernel_rfl) (by kernel_rfl) (by kernel_rfl) oblN ?_)
    show Runs Tryd.prog 1 lp72c _ _
    refine Runs.less (af1 := S72c n cap g (i + 1)) ?_ (hz hz')
    have ew : ([(0, slV n cap), (6, i64 (i + 1))] : List (Nat × Value)) = [(0, slV n cap), (6, .int .i64 (wrapF .i64 (Int.add (.ofNat i) (.ofNat 1))))] := by rw [wrap_succ (by omega : i < 4611686018427387904)]; rfl
    refine less_seenP (clo_all (k := 1) (by kernel_rfl)) viewS_clo (Nat.le_refl 1) ?_ (by kernel_rfl) (by kernel_rfl) (by kernel_rfl)
    rw [ew]
    exact Eq.trans (Eq.refl _) (by kernel_rfl)

theorem pre_ne (w : ByteArray) (k : Nat) : preB w k 98 ≠ preB w k 115 := fun e => by
  have := congrArg bl e
  unfold preB at this
  rw [bl_push, bl_push] at this
  have := List.append_cancel_left this
  cases this

theorem open_round {i : Nat} (hi : i < n) (hn : n < 1000000) (hs : (g i).size < 1000) (k : Nat) (hk : k < (g i).size) (Q : AExit → AF → Prop) (hz : errO n g i k = 0 → Runs Tryd.prog 1 lp72f (S72f n cap g i (k + 1)) Q)
    (hb : errO n g i k ≠ 0 → ∀ af, GivesR n g (errO n g i k) af → Q .ret af) : Runs Tryd.prog 1 lp72f (S72f n cap g i k) Q := by
  refine Runs.lp (by kernel_rfl) (Runs.sq (by kernel_rfl) (Runs.sqR mixed hk38 [viaV 3 (.pointer (some ⟨0, 0 + i * 1, none⟩)), viaV 4 (.string (g i))] (by kernel_rfl) (by kernel_rfl) (by kernel_rfl)
    (oblC (shown_idx (n := n) (by kernel_rfl) hi) (oblC (shown_cell (g := 0) (off := 0 + i * 1) (by kernel_rfl) (cell72 (n := n) hi (by kernel_rfl))) oblN)) ?_))
  refine Runs.cd (b := ltF (.ofNat k) (.ofNat (g i).size)) (by kernel_rfl) (fun _ => Runs.now (x := .normal) (by kernel_rfl) ?_) (fun hf => by rw [lt_of hk] at hf; cases hf)
  show Runs Tryd.prog 1 _ _ _
  refine Runs.sq (by kernel_rfl) (Runs.bk (id := 13) (by kernel_rfl) ?_)
  have hcut : ((g i).extract 0 k).size < 1000000 := by rw [size_cut (by omega)]; omega
  have ad : ∀ (c : UInt8) (h : AH), (strBin .add ((g i).extract 0 k) ⟨#[c]⟩).map (fun v => (v, h)) = some (.string (preB (g i) k c), h) := fun c h => by rw [str_add c hcut]; rfl
  have ee : errO n g i k = if contF g (preB (g i) k 98) n 0 then (if contF g (preB (g i) k 115) n 0 then 0 else 21) else 21 := rfl
  cases h1 : contF g (preB (g i) k 98) n 0 with
  | false =>
    rw [h1, if_neg (by simp)] at ee
    have c1 := cont_says (cap := cap) (g := g) hn (preB (g i) k 98)
    rw [h1] at c1
    refine Runs.sqR mixed hk38 [viaV 3 (.pointer (some ⟨0, 0 + i * 1, none⟩)), viaV 4 (.string (g i)), viaV 6 (.string ((g i).extract 0 k)), viaV 7 (.string (preB (g i) k 98)), viaC 8 116 [slV n cap, .string (preB (g i) k 98)] (.bool false)] (by kernel_rfl) (by kernel_rfl) (by kernel_rfl)
      (oblC (shown_idx (n := n) (by kernel_rfl) hi) (oblC (shown_cell (g := 0) (off := 0 + i * 1) (by kernel_rfl) (cell72 (n := n) hi (by kernel_rfl)))
      (oblC (shown_cutHi (w := g i) (by kernel_rfl) (by kernel_rfl) (by omega))
      (oblC (shown_val (H := hp [viewS n g]) (x := (strBin .add ((g i).extract 0 k) ⟨#[98]⟩).map (fun v => (v, hp [viewS n g]))) (by kernel_rfl) (by kernel_rfl) (by kernel_rfl) (ad _ _))
      (oblC (shown_callE (h0 := hp [viewS n g]) (by kernel_rfl) (by kernel_rfl) c1) oblN))))) ?_
    refine Runs.cd (b := true) (by kernel_rfl) (fun _ => ?_) (fun h => by cases h)
    refine Runs.sqR mixed hk38 [] (by kernel_rfl) (by kernel_rfl) (by kernel_rfl) oblN (Runs.now (x := .ret) (by kernel_rfl) (hb (by rw [ee]; decide) _ ?_))
    rw [ee]
    exact ⟨[i64 21], by kernel_rfl, rfl, keepOf (by kernel_rfl)⟩
  | true =>
    rw [h1, if_pos rfl] at ee
    have c1 := cont_says (cap := cap) (g := g) hn (preB (g i) k 98)
    rw [h1] at c1
    have c2 := cont_says (cap := cap) (g := g) hn (preB (g i) k 115)
    have hwho : ∀ b : Bool, (whoL [viaV 3 (.pointer (some ⟨0, 0 + i * 1, none⟩)), viaV 4 (.string (g i)), viaV 6 (.string ((g i).extract 0 k)), viaV 7 (.string (preB (g i) k 98)), viaC 8 116 [slV n cap, .string (preB (g i) k 98)] (.bool true), viaV 14 (.pointer (some ⟨0, 0 + i * 1, none⟩)), viaV 15 (.string (g i)), viaV 17 (.string ((g i).extract 0 k)), viaV 18 (.string (preB (g i) k 115)), viaC 19 116 [slV n cap, .string (preB (g i) k 115)] (.bool b)]).Pairwise (· ≠ ·) := fun b => by
      show List.Pairwise _ [((116 : FuncId), [slV n cap, .string (preB (g i) k 98)]), (116, [slV n cap, .string (preB (g i) k 115)])]
      refine List.Pairwise.cons (fun p hp => ?_) (List.pairwise_singleton _ _)
      rw [List.mem_singleton.1 hp]
      intro e
      simp only [Prod.mk.injEq, List.cons.injEq, and_true, true_and, Value.string.injEq] at e
      exact pre_ne _ _ e
    generalize h2 : contF g (preB (g i) k 115) n 0 = b2 at *
    refine Runs.sqR2 mixed hk38 [viaV 3 (.pointer (some ⟨0, 0 + i * 1, none⟩)), viaV 4 (.string (g i)), viaV 6 (.string ((g i).extract 0 k)), viaV 7 (.string (preB (g i) k 98)), viaC 8 116 [slV n cap, .string (preB (g i) k 98)] (.bool true), viaV 14 (.pointer (some ⟨0, 0 + i * 1, none⟩)), viaV 15 (.string (g i)), viaV 17 (.string ((g i).extract 0 k)), viaV 18 (.string (preB (g i) k 115)), viaC 19 116 [slV n cap, .string (preB (g i) k 115)] (.bool b2)] (by kernel_rfl) (by kernel_rfl) (hwho b2) (by kernel_rfl)
      (oblC (shown_idx (n := n) (by kernel_rfl) hi) (oblC (shown_cell (g := 0) (off := 0 + i * 1) (by kernel_rfl) (cell72 (n := n) hi (by kernel_rfl)))
      (oblC (shown_cutHi (w := g i) (by kernel_rfl) (by kernel_rfl) (by omega))
      (oblC (shown_val (H := hp [viewS n g]) (x := (strBin .add ((g i).extract 0 k) ⟨#[98]⟩).map (fun v => (v, hp [viewS n g]))) (by kernel_rfl) (by kernel_rfl) (by kernel_rfl) (ad _ _))
      (oblC (shown_callE (h0 := hp [viewS n g]) (by kernel_rfl) (by kernel_rfl) c1)
      (oblC (shown_idx (n := n) (by kernel_rfl) hi) (oblC (shown_cell (g := 0) (off := 0 + i * 1) (by kernel_rfl) (cell72 (n := n) hi (by kernel_rfl)))
      (oblC (shown_cutHi (w := g i) (by kernel_rfl) (by kernel_rfl) (by omega))
      (oblC (shown_val (H := hp [viewS n g]) (x := (strBin .add ((g i).extract 0 k) ⟨#[115]⟩).map (fun v => (v, hp [viewS n g]))) (by kernel_rfl) (by kernel_rfl) (by kernel_rfl) (ad _ _))
      (oblC (shown_callE (h0 := hp [viewS n g]) (by kernel_rfl) (by kernel_rfl) c2) oblN)))))))))) ?_
    cases b2 with
    | false =>
      refine Runs.cd (b := true) (by kernel_rfl) (fun _ => ?_) (fun h => by cases h)
      refine Runs.sqR mixed hk38 [] (by kernel_rfl) (by kernel_rfl) (by kernel_rfl) oblN (Runs.now (x := .ret) (by kernel_rfl) (hb (by rw [ee]; decide) _ ?_))
      rw [ee]
      exact ⟨[i64 21], by kernel_rfl, rfl, keepOf (by kernel_rfl)⟩
    | true =>
      refine Runs.cd (b := false) (by kernel_rfl) (fun h => by cases h) (fun _ => Runs.now (x := .normal) (by kernel_rfl) ?_)
      show Runs Tryd.prog 1 _ _ _
      refine Runs.rg mixed hk38 [] (by kernel_rfl) (by kernel_rfl) (by kernel_rfl) oblN ?_
      show Runs Tryd.prog 1 lp72f _ _
      refine Runs.less (af1 := S72f n cap g i (k + 1)) ?_ (hz ee)
      have ew : ([(0, slV n cap), (8, i64 i), (9, i64 (k + 1))] : List (Nat × Value)) = [(0, slV n cap), (8, i64 i), (9, .int .i64 (wrapF .i64 (Int.add (.ofNat k) (.ofNat 1))))] := by rw [wrap_succ (by omega : k < 4611686018427387904)]; rfl
      refine less_seenP (clo_all (k := 1) (by kernel_rfl)) viewS_clo (Nat.le_refl 1) ?_ (by kernel_rfl) (by kernel_rfl) (by kernel_rfl)
      rw [ew]
      exact Eq.trans (Eq.refl _) (by kernel_rfl)
end
end
end Go.Proofs.YtgnkjmgkfibipaaDoor

/- Words: the reference's checked as a contract: it says what read says. -/
namespace Go.Proofs.YtgnkjmgkfibipaaDoor
set_option linter.unusedVariables false
set_option linter.unusedSimpArgs false
open Go Go.R
set_option maxRecDepth 1000000
noncomputable section

section
variable {n cap : Nat} {g : Nat → ByteArray}
theorem opens_round (hn : n < 1000000) (hs : ∀ i, i < n → (g i).size < 1000) (i : Nat) (hi : i < n) (Q : AExit → AF → Prop) (hz : scanE (errO n g i) (g i).size 0 = 0 → Runs Tryd.prog 1 lp72e (S72e n cap g (i + 1)) Q)
    (hb : scanE (errO n g i) (g i).size 0 ≠ 0 → ∀ af, GivesR n g (scanE (errO n g i) (g i).size 0) af → Q .ret af) : Runs Tryd.prog 1 lp72e (S72e n cap g i) Q := by
  have hsi := hs i hi
  refine Runs.lp (by kernel_rfl) (Runs.sq (by kernel_rfl) (Runs.sqR mixed hk38 [] (by kernel_rfl) (by kernel_rfl) (by kernel_rfl) oblN ?_))
  refine Runs.cd (b := ltF (.ofNat i) (.ofNat n)) (by kernel_rfl) (fun _ => Runs.now (x := .normal) (by kernel_rfl) ?_) (fun hf => by rw [lt_of hi] at hf; cases hf)
  show Runs Tryd.prog 1 _ _ _
  refine Runs.sq (by kernel_rfl) (Runs.bk (id := 11) (by kernel_rfl) (Runs.sqR mixed hk38 [] (by kernel_rfl) (by kernel_rfl) (by kernel_rfl) oblN (Runs.bk (id := 12) (by kernel_rfl) ?_)))
  refine Runs.less (af1 := S72f n cap g i 0) (less_seenP (clo_all (k := 1) (by kernel_rfl)) viewS_clo (Nat.le_refl 1) (by kernel_rfl) (by kernel_rfl) (by kernel_rfl) (by kernel_rfl)) ?_
  show Runs Tryd.prog 1 lp72f _ _
  have stop : Runs Tryd.prog 1 lp72f (S72f n cap g i (g i).size) fun x af => x = .exit 12 ∧ Less 1 (S72e n cap g i) af := by
    refine Runs.lp (by kernel_rfl) (Runs.sq (by kernel_rfl) (Runs.sqR mixed hk38 [viaV 3 (.pointer (some ⟨0, 0 + i * 1, none⟩)), viaV 4 (.string (g i))] (by kernel_rfl) (by kernel_rfl) (by kernel_rfl)
      (oblC (shown_idx (n := n) (by kernel_rfl) hi) (oblC (shown_cell (g := 0) (off := 0 + i * 1) (by kernel_rfl) (cell72 (n := n) hi (by kernel_rfl))) oblN)) ?_))
    refine Runs.cd (b := ltF (.ofNat (g i).size) (.ofNat (g i).size)) (by kernel_rfl) (fun ht => by rw [lt_self] at ht; cases ht) (fun _ => Runs.now (x := .exit 12) (by kernel_rfl) ⟨rfl, ?_⟩)
    exact less_seenP (clo_all (k := 1) (by kernel_rfl)) viewS_clo (Nat.le_refl 1) (by kernel_rfl) (by kernel_rfl) (by kernel_rfl) (by kernel_rfl)
  refine (scan_runs (G := GivesR n g) stop (fun k hk Q hz hb => open_round hi hn hsi k hk Q hz hb) (g i).size 0 (by omega)).mono fun x af hx => ?_
  rcases hx with ⟨rfl, hne, hg⟩ | ⟨rfl, hz', less⟩
  · exact hb hne af hg
  · show Runs Tryd.prog 1 _ af _
    refine Runs.less less (Runs.rg mixed hk38 [] (by kernel_rfl) (by kernel_rfl) (by kernel_rfl) oblN ?_)
    show Runs Tryd.prog 1 lp72e _ _
    refine Runs.less (af1 := S72e n cap g (i + 1)) ?_ (hz hz')
    have ew : ([(0, slV n cap), (8, i64 (i + 1))] : List (Nat × Value)) = [(0, slV n cap), (8, .int .i64 (wrapF .i64 (Int.add (.ofNat i) (.ofNat 1))))] := by rw [wrap_succ (by omega : i < 4611686018427387904)]; rfl
    refine less_seenP (clo_all (k := 1) (by kernel_rfl)) viewS_clo (Nat.le_refl 1) ?_ (by kernel_rfl) (by kernel_rfl) (by kernel_rfl)
    rw [ew]
    exact Eq.trans (Eq.refl _) (by kernel_rfl)

/-! ### The same error -/
theorem scan_val {p : Nat → Nat} {e : Nat} (he : e ≠ 0) (hp : ∀ i, p i = 0 ∨ p i = e) : ∀ d i, (scanE p d i = 0 ∨ scanE p d i = e) ∧ (scanE p d i ≠ 0 ↔ ∃ j, i ≤ j ∧ j < i + d ∧ p j ≠ 0)
  | 0, i => ⟨.inl rfl, fun h => absurd rfl h, fun ⟨j, h1, h2, _⟩ => by omega⟩
  | d + 1, i => by
    have ih := scan_val he hp d (i + 1)
    rw [scanE]
    by_cases h : p i = 0
    · rw [if_pos h]
      refine ⟨ih.1, ih.2.trans ⟨fun ⟨j, h1, h2, h3⟩ => ⟨j, by omega, by omega, h3⟩, fun ⟨j, h1, h2, h3⟩ => ⟨j, ?_, by omega, h3⟩⟩⟩
      by_cases e : j = i
      · rw [e] at h3; exact absurd h h3
      · omega
    · rw [if_neg h]
      exact ⟨hp i, fun _ => ⟨i, Nat.le_refl i, by omega, h⟩, fun _ => h⟩
theorem errK_val (g : Nat → ByteArray) (i k : Nat) : errK g i k = 0 ∨ errK g i k = 13 := by
  unfold errK
  cases Nat.beq k i <;> cases prefB (g i) (g k) <;> simp
theorem errC_val (g : Nat → ByteArray) (i : Nat) : errC g i = 0 ∨ errC g i = 13 := by
  unfold errC
  cases prefB (g (i + 1)) (g i) <;> simp
theorem errO_val (n : Nat) (g : Nat → ByteArray) (i k : Nat) : errO n g i k = 0 ∨ errO n g i k = 21 := by
  unfold errO
  cases contF g (preB (g i) k 98) n 0 <;> cases contF g (preB (g i) k 115) n 0 <;> simp
theorem errK_ne {i k : Nat} : errK g i k ≠ 0 ↔ k ≠ i ∧ prefB (g i) (g k) = true := by
  unfold errK
  cases hk : Nat.beq k i with
  | true => simp [Nat.eq_of_beq_eq_true hk]
  | false =>
    have : k ≠ i := fun e => by rw [e, Nat.beq_refl] at hk; cases hk
    cases prefB (g i) (g k) <;> simp [this]
theorem errC_ne {i : Nat} : errC g i ≠ 0 ↔ prefB (g (i + 1)) (g i) = true := by
  unfold errC
  cases prefB (g (i + 1)) (g i) <;> simp
theorem errO_ne {i k : Nat} (hk : k < (g i).size) : errO n g i k ≠ 0 ↔ ¬ (Cont n g ((bl (g i)).take k ++ [98]) ∧ Cont n g ((bl (g i)).take k ++ [115])) := by
  have e : ∀ c, bl (preB (g i) k c) = (bl (g i)).take k ++ [c] := fun c => by unfold preB; rw [bl_push, bl_cut, List.drop_zero, Nat.sub_zero]
  rw [← e, ← e, ← contF_cont, ← contF_cont]
  unfold errO
  cases contF g (preB (g i) k 98) n 0 <;> cases contF g (preB (g i) k 115) n 0 <;> simp

/-- The two tests for beginnings. -/
theorem clash_eq (h : ∀ i, i + 1 < n → bytesLt (g i) (g (i + 1)) = true) : scanE (fun i => scanE (errK g i) n 0) n 0 = scanE (errC g) (n - 1) 0 := by
  have v1 := scan_val (p := fun i => scanE (errK g i) n 0) (e := 13) (by decide) (fun i => (scan_val (by decide) (errK_val g i) n 0).1) n 0
  have v2 := scan_val (p := errC g) (e := 13) (by decide) (errC_val g) (n - 1) 0
  have iff : (scanE (fun i => scanE (errK g i) n 0) n 0 ≠ 0) ↔ scanE (errC g) (n - 1) 0 ≠ 0 := by
    rw [v1.2, v2.2]
    have inner : ∀ i, scanE (errK g i) n 0 ≠ 0 ↔ ∃ k, k < n ∧ k ≠ i ∧ prefB (g i) (g k) = true := fun i => by
      rw [(scan_val (by decide) (errK_val g i) n 0).2]
      exact ⟨fun ⟨k, _, h2, h3⟩ => ⟨k, by omega, errK_ne.1 h3⟩, fun ⟨k, h2, h3⟩ => ⟨k, by omega, by omega, errK_ne.2 h3⟩⟩
    have c := clash_iff h
    constructor
    · rintro ⟨i, _, h2, h3⟩
      obtain ⟨j, hj, hp⟩ := c.1 ⟨i, by omega, (inner i).1 h3⟩
      exact ⟨j, by omega, by omega, errC_ne.2 hp⟩
    · rintro ⟨j, _, h2, h3⟩
      obtain ⟨i, hi, hk⟩ := c.2 ⟨j, by omega, errC_ne.1 h3⟩
      exact ⟨i, by omega, by omega, (inner i).2 hk⟩
  rcases v1.1 with a | a <;> rcases v2.1 with b | b
  · rw [a, b]
  · exact absurd a (iff.2 (by rw [b]; decide))
  · exact absurd b (iff.1 (by rw [a]; decide))
  · rw [a, b]
theorem open_eq (hg : ∀ i, i < n → allBS (g i) = true) : scanE (fun i => scanE (errO n g i) (g i).size 0) n 0 = if openM (mapTo g n) then 21 else 0 := by
  have v1 := scan_val (p := fun i => scanE (errO n g i) (g i).size 0) (e := 21) (by decide) (fun i => (scan_val (by decide) (errO_val n g i) (g i).size 0).1) n 0
  have iff : (scanE (fun i => scanE (errO n g i) (g i).size 0) n 0 ≠ 0) ↔ openM (mapTo g n) = true := by
    rw [v1.2, open_iff hg]
    have inner : ∀ i, scanE (errO n g i) (g i).size 0 ≠ 0 ↔ ∃ k, k < (g i).size ∧ ¬ (Cont n g ((bl (g i)).take k ++ [98]) ∧ Cont n g ((bl (g i)).take k ++ [115])) := fun i => by
      rw [(scan_val (by decide) (errO_val n g i) (g i).size 0).2]
      exact ⟨fun ⟨k, _, h2, h3⟩ => ⟨k, by omega, (errO_ne (by omega)).1 h3⟩, fun ⟨k, h2, h3⟩ => ⟨k, by omega, by omega, (errO_ne h2).2 h3⟩⟩
    constructor
    · rintro ⟨i, _, h2, h3⟩
      exact ⟨i, by omega, (inner i).1 h3⟩
    · rintro ⟨i, hi, hk⟩
      exact ⟨i, by omega, by omega, (inner i).2 hk⟩
  cases ho : openM (mapTo g n) with
  | true =>
    rw [if_pos rfl]
    exact v1.1.resolve_left (iff.2 ho)
  | false =>
    rw [if_neg (by simp)]
    rcases v1.1 with a | a
    · exact a
    · rw [iff.1 (by rw [a]; decide)] at ho; cases ho
end
end
end Go.Proofs.YtgnkjmgkfibipaaDoor

/- Words: the reference's checked as a contract. -/
namespace Go.Proofs.YtgnkjmgkfibipaaDoor
set_option linter.unusedVariables false
set_option linter.unusedSimpArgs false
open Go Go.R
set_option maxRecDepth 1000000
noncomputable section
section
variable {n cap : Nat} {g : Nat → ByteArray}
theorem z72 : ∀ p ∈ ([(0, slV n cap)] : List (Nat × Value)), Clo 1 p.2 := clo_all (by kernel_rfl)
theorem stop_a : Runs Tryd.prog 1 lp72a (S72a n cap g n) fun x af => x = .exit 0 ∧ Less 1 (S72z n cap g) af := by
  refine Runs.lp (by kernel_rfl) (Runs.sq (by kernel_rfl) (Runs.sqR mixed hk38 [] (by kernel_rfl) (by kernel_rfl) (by kernel_rfl) oblN ?_))
  refine Runs.cd (b := ltF (.ofNat n) (.ofNat n)) (by kernel_rfl) (fun ht => by rw [lt_self] at ht; cases ht) (fun _ => Runs.now (x := .exit 0) (by kernel_rfl) ⟨rfl, ?_⟩)
  exact less_seenP z72 viewS_clo (Nat.le_refl 1) (by kernel_rfl) (by kernel_rfl) (by kernel_rfl) (by kernel_rfl)
theorem stop_b (h1 : 1 ≤ n) : Runs Tryd.prog 1 lp72b (S72b n cap g (n - 1)) fun x af => x = .exit 4 ∧ Less 1 (S72z n cap g) af := by
  have e : n - 1 + 1 = n := by omega
  unfold S72b
  rw [e]
  refine Runs.lp (by kernel_rfl) (Runs.sq (by kernel_rfl) (Runs.sqR mixed hk38 [] (by kernel_rfl) (by kernel_rfl) (by kernel_rfl) oblN ?_))
  refine Runs.cd (b := ltF (.ofNat n) (.ofNat n)) (by kernel_rfl) (fun ht => by rw [lt_self] at ht; cases ht) (fun _ => Runs.now (x := .exit 4) (by kernel_rfl) ⟨rfl, ?_⟩)
  exact less_seenP z72 viewS_clo (Nat.le_refl 1) (by kernel_rfl) (by kernel_rfl) (by kernel_rfl) (by kernel_rfl)
theorem stop_c : Runs Tryd.prog 1 lp72c (S72c n cap g n) fun x af => x = .exit 6 ∧ Less 1 (S72z n cap g) af := by
  refine Runs.lp (by kernel_rfl) (Runs.sq (by kernel_rfl) (Runs.sqR mixed hk38 [] (by kernel_rfl) (by kernel_rfl) (by kernel_rfl) oblN ?_))
  refine Runs.cd (b := ltF (.ofNat n) (.ofNat n)) (by kernel_rfl) (fun ht => by rw [lt_self] at ht; cases ht) (fun _ => Runs.now (x := .exit 6) (by kernel_rfl) ⟨rfl, ?_⟩)
  exact less_seenP z72 viewS_clo (Nat.le_refl 1) (by kernel_rfl) (by kernel_rfl) (by kernel_rfl) (by kernel_rfl)
theorem stop_e : Runs Tryd.prog 1 lp72e (S72e n cap g n) fun x af => x = .exit 10 ∧ Less 1 (S72z n cap g) af := by
  refine Runs.lp (by kernel_rfl) (Runs.sq (by kernel_rfl) (Runs.sqR mixed hk38 [] (by kernel_rfl) (by kernel_rfl) (by kernel_rfl) oblN ?_))
  refine Runs.cd (b := ltF (.ofNat n) (.ofNat n)) (by kernel_rfl) (fun ht => by rw [lt_self] at ht; cases ht) (fun _ => Runs.now (x := .exit 10) (by kernel_rfl) ⟨rfl, ?_⟩)
  exact less_seenP z72 viewS_clo (Nat.le_refl 1) (by kernel_rfl) (by kernel_rfl) (by kernel_rfl) (by kernel_rfl)

theorem checked_says : Says Tryd.prog (hp [viewS n g]) 72 [slV n cap] (i64 (readN n g)) (hp [viewS n g]) := by
  refine says_of (os := [viewS n g]) ?_ (fun v hv => by rw [List.mem_singleton.1 hv]; exact clo_of 10 1 _ (by kernel_rfl)) viewS_clo (clo_plain rfl)
  refine local_of noNum Tryd.func72 (show Tryd.f72.body = some c72 by kernel_rfl) ?_
  have fin : ∀ {e : Nat} {af : AF}, GivesR n g e af → readN n g = e → EndsAs Tryd.prog Tryd.f72 (Holds [viewS n g] (i64 (readN n g))) .ret af := fun hg he => by
    rw [he]
    obtain ⟨vs, h1, h2⟩ := hg
    exact ⟨.inr rfl, vs, h1, h2⟩
  refine Runs.sqR mixed hk38 [] (by kernel_rfl) (by kernel_rfl) (by kernel_rfl) oblN ?_
  by_cases h0 : n = 0
  · subst h0
    refine Runs.sq (by kernel_rfl) (Runs.sqR mixed hk38 [] (by kernel_rfl) (by kernel_rfl) (by kernel_rfl) oblN ?_)
    refine Runs.cd (b := true) (by kernel_rfl) (fun _ => ?_) (fun h => by cases h)
    exact Runs.sqR mixed hk38 [] (by kernel_rfl) (by kernel_rfl) (by kernel_rfl) oblN (Runs.now (x := .ret) (by kernel_rfl) (fin (e := 4) ⟨[i64 4], by kernel_rfl, rfl, keepOf (by kernel_rfl)⟩ rfl))
  have z : Value.bool (eqF (.ofNat n) (.ofNat 0)) = .bool false := by rw [eqF_eq, beq_eq_false_iff_ne.2 (fun e => h0 (Int.ofNat.inj e))]
  refine Runs.sq (by kernel_rfl) (Runs.sqR mixed hk38 [viaV 2 (.bool false)] (by kernel_rfl) (by kernel_rfl) (by kernel_rfl) (oblC (shown_eq (v := .bool (eqF (.ofNat n) (.ofNat 0))) (by kernel_rfl) (by kernel_rfl) z) oblN) ?_)
  refine Runs.cd (b := false) (by kernel_rfl) (fun h => by cases h) (fun _ => Runs.now (x := .normal) (by kernel_rfl) ?_)
  show Runs Tryd.prog 1 (behind 2 c72) _ _
  by_cases h13 : 13 < n
  · have e : readN n g = 3 := by unfold readN errF; rw [if_neg h0, if_pos h13]; rfl
    refine Runs.sq (by kernel_rfl) (Runs.sqR mixed hk38 [viaV 2 (.bool true)] (by kernel_rfl) (by kernel_rfl) (by kernel_rfl) (oblC (shown_eq (v := .bool (ltF (.ofNat 13) (.ofNat n))) (by kernel_rfl) (by kernel_rfl) (by rw [lt_of h13])) oblN) ?_)
    refine Runs.cd (b := true) (by kernel_rfl) (fun _ => ?_) (fun h => by cases h)
    exact Runs.sqR mixed hk38 [] (by kernel_rfl) (by kernel_rfl) (by kernel_rfl) oblN (Runs.now (x := .ret) (by kernel_rfl) (fin (e := 3) ⟨[i64 3], by kernel_rfl, rfl, keepOf (by kernel_rfl)⟩ e))
  have l13 : ltF (.ofNat 13) (.ofNat n) = false := ltF_not.2 (show ((n : Nat) : Int) ≤ 13 by omega)
  refine Runs.sq (by kernel_rfl) (Runs.sqR mixed hk38 [viaV 2 (.bool false)] (by kernel_rfl) (by kernel_rfl) (by kernel_rfl) (oblC (shown_eq (v := .bool (ltF (.ofNat 13) (.ofNat n))) (by kernel_rfl) (by kernel_rfl) (by rw [l13])) oblN) ?_)
  refine Runs.cd (b := false) (by kernel_rfl) (fun h => by cases h) (fun _ => Runs.now (x := .normal) (by kernel_rfl) ?_)
  show Runs Tryd.prog 1 (behind 3 c72) _ _
  have hn : n < 1000000 := by omega
  have eF : errF n g = if scanE (errA g) n 0 ≠ 0 then scanE (errA g) n 0 else if scanE (errB g) (n - 1) 0 ≠ 0 then scanE (errB g) (n - 1) 0 else scanE (errC g) (n - 1) 0 := by unfold errF; rw [if_neg h0, if_neg h13]
  refine Runs.sq (by kernel_rfl) (Runs.sqR mixed hk38 [] (by kernel_rfl) (by kernel_rfl) (by kernel_rfl) oblN (Runs.bk (id := 0) (by kernel_rfl) ?_))
  refine Runs.less (af1 := S72a n cap g 0) (less_seenP (clo_all (k := 1) (by kernel_rfl)) viewS_clo (Nat.le_refl 1) (by kernel_rfl) (by kernel_rfl) (by kernel_rfl) (by kernel_rfl)) ?_
  show Runs Tryd.prog 1 lp72a _ _
  refine (scan_runs (G := GivesR n g) stop_a (fun i hi Q hz hb => word_round hn i hi Q hz hb) n 0 (by omega)).mono fun x af hx => ?_
  rcases hx with ⟨rfl, hne, hg⟩ | ⟨rfl, hzA, less⟩
  · rw [if_pos hne] at eF
    exact fin hg (by unfold readN; rw [eF, if_pos hne])
  rw [if_neg (by rw [hzA]; simp)] at eF
  show Runs Tryd.prog 1 (behind 4 c72) af _
  refine Runs.less less ?_
  refine Runs.sq (by kernel_rfl) (Runs.sqR mixed hk38 [] (by kernel_rfl) (by kernel_rfl) (by kernel_rfl) oblN (Runs.bk (id := 4) (by kernel_rfl) ?_))
  refine Runs.less (af1 := S72b n cap g 0) (less_seenP (clo_all (k := 1) (by kernel_rfl)) viewS_clo (Nat.le_refl 1) (by kernel_rfl) (by kernel_rfl) (by kernel_rfl) (by kernel_rfl)) ?_
  show Runs Tryd.prog 1 lp72b _ _
  refine (scan_runs (n := n - 1) (G := GivesR n g) (stop_b (by omega)) (fun i hi Q hz hb => order_round hn i hi Q hz hb) (n - 1) 0 (by omega)).mono fun x af hx => ?_
  rcases hx with ⟨rfl, hne, hg⟩ | ⟨rfl, hzB, less⟩
  · rw [if_pos hne] at eF
    exact fin hg (by unfold readN; rw [eF, if_pos hne])
  rw [if_neg (by rw [hzB]; simp)] at eF
  have hA : ∀ i, i < n → (g i).size ≤ 12 ∧ allBS (g i) = true := fun i hi => by
    have := scan_zero hzA i (Nat.zero_le _) (by omega)
    unfold errA at this
    split at this
    · cases this
    · split at this
      · rename_i h1 h2; exact ⟨by omega, h2⟩
      · cases this
  have hB : ∀ i, i + 1 < n → bytesLt (g i) (g (i + 1)) = true := fun i hi => by
    have := scan_zero hzB i (Nat.zero_le _) (by omega)
    unfold errB at this
    split at this
    · assumption
    · cases this
  rw [← clash_eq hB] at eF
  show Runs Tryd.prog 1 (behind 5 c72) af _
  refine Runs.less less ?_
  refine Runs.sq (by kernel_rfl) (Runs.sqR mixed hk38 [] (by kernel_rfl) (by kernel_rfl) (by kernel_rfl) oblN (Runs.bk (id := 6) (by kernel_rfl) ?_))
  refine Runs.less (af1 := S72c n cap g 0) (less_seenP (clo_all (k := 1) (by kernel_rfl)) viewS_clo (Nat.le_refl 1) (by kernel_rfl) (by kernel_rfl) (by kernel_rfl) (by kernel_rfl)) ?_
  show Runs Tryd.prog 1 lp72c _ _
  refine (scan_runs (p := fun i => scanE (errK g i) n 0) (G := GivesR n g) stop_c (fun i hi Q hz hb => clash_round hn i hi Q hz hb) n 0 (by omega)).mono fun x af hx => ?_
  rcases hx with ⟨rfl, hne, hg⟩ | ⟨rfl, hzC, less⟩
  · exact fin hg (by unfold readN; rw [eF, if_pos hne])
  rw [hzC] at eF
  have e : readN n g = if openM (mapTo g n) then 21 else 0 := by unfold readN; rw [if_neg (by rw [eF]; simp)]
  rw [← open_eq fun i hi => (hA i hi).2] at e
  show Runs Tryd.prog 1 (behind 6 c72) af _
  refine Runs.less less ?_
  refine Runs.sq (by kernel_rfl) (Runs.sqR mixed hk38 [] (by kernel_rfl) (by kernel_rfl) (by kernel_rfl) oblN (Runs.bk (id := 10) (by kernel_rfl) ?_))
  refine Runs.less (af1 := S72e n cap g 0) (less_seenP (clo_all (k := 1) (by kernel_rfl)) viewS_clo (Nat.le_refl 1) (by kernel_rfl) (by kernel_rfl) (by kernel_rfl) (by kernel_rfl)) ?_
  show Runs Tryd.prog 1 lp72e _ _
  refine (scan_runs (p := fun i => scanE (errO n g i) (g i).size 0) (G := GivesR n g) stop_e (fun i hi Q hz hb => opens_round hn (fun i hi => by have := (hA i hi).1; omega) i hi Q hz hb) n 0 (by omega)).mono fun x af hx => ?_
  rcases hx with ⟨rfl, hne, hg⟩ | ⟨rfl, hzD, less⟩
  · exact fin hg e
  rw [hzD] at e
  show Runs Tryd.prog 1 (behind 7 c72) af _
  refine Runs.less less ?_
  exact Runs.sqR mixed hk38 [] (by kernel_rfl) (by kernel_rfl) (by kernel_rfl) oblN (Runs.now (x := .ret) (by kernel_rfl) (fin (e := 0) ⟨[i64 0], by kernel_rfl, rfl, keepOf (by kernel_rfl)⟩ e))
end
end
end Go.Proofs.YtgnkjmgkfibipaaDoor

/- Words: the plain law of words that pass the check: those that begin alike stand side by side, first those that go on with b, then those with s. -/
namespace Go.Proofs.YtgnkjmgkfibipaaDoor
set_option linter.unusedVariables false
set_option linter.unusedSimpArgs false
open Go Go.R
noncomputable section

structure WordsOk (n : Nat) (g : Nat → ByteArray) : Prop where
  lo : 1 ≤ n
  hi : n ≤ 13
  sz : ∀ i, i < n → (g i).size ≤ 12
  bs : ∀ i, i < n → allBS (g i) = true
  lt : ∀ i j, i < j → j < n → Op.bytesLess (bl (g i)) (bl (g j)) = true
  pf : ∀ i k, i < n → k < n → k ≠ i → ¬ bl (g k) <+: bl (g i)
  full : ∀ a, a < n → ∀ j, j < (g a).size → Cont n g ((bl (g a)).take j ++ [98]) ∧ Cont n g ((bl (g a)).take j ++ [115])

theorem wordsOk_of {n : Nat} {g : Nat → ByteArray} (h : readN n g = 0) : WordsOk n g := by
  have hF : errF n g = 0 := by
    unfold readN at h
    by_cases he : errF n g ≠ 0
    · rw [if_pos he] at h; exact absurd h he
    · exact Decidable.not_not.1 he
  have hO : openM (mapTo g n) = false := by
    unfold readN at h
    rw [if_neg (by rw [hF]; simp)] at h
    cases ho : openM (mapTo g n) with
    | false => rfl
    | true => rw [ho, if_pos rfl] at h; cases h
  obtain ⟨h1, h13, hA, hB, hC⟩ := errF_zero hF
  refine ⟨h1, h13, fun i hi => (hA i hi).1, fun i hi => (hA i hi).2, fun i j hij hj => sorted_at hB hij hj, fun i k hi hk hne hp => ?_, fun a ha j hj => ?_⟩
  · obtain ⟨j, hj, hp'⟩ := (clash_iff hB).1 ⟨i, hi, k, hk, hne, pref_iff.2 hp⟩
    rw [hC j hj] at hp'
    cases hp'
  · by_cases hc : Cont n g ((bl (g a)).take j ++ [98]) ∧ Cont n g ((bl (g a)).take j ++ [115])
    · exact hc
    · rw [(open_iff fun i hi => (hA i hi).2).2 ⟨a, ha, j, hj, hc⟩] at hO
      cases hO

section
variable {n : Nat} {g : Nat → ByteArray}
/-- The words that begin with p are those from low to high. -/
structure InR (n : Nat) (g : Nat → ByteArray) (p : List UInt8) (low high : Nat) : Prop where
  le : low ≤ high
  hi : high < n
  iff : ∀ i, i < n → (p <+: bl (g i) ↔ low ≤ i ∧ i ≤ high)
theorem inR_all (W : WordsOk n g) : InR n g [] 0 (n - 1) :=
  ⟨Nat.zero_le _, by have := W.lo; omega, fun i hi => ⟨fun _ => ⟨Nat.zero_le _, by omega⟩, fun _ => List.nil_prefix⟩⟩

def letW (g : Nat → ByteArray) (at_ i : Nat) : UInt8 := (bl (g i)).getD at_ 0
theorem two_pref {p l : List UInt8} {a b : UInt8} (h1 : p ++ [a] <+: l) (h2 : p ++ [b] <+: l) : a = b := by
  obtain ⟨t, ht⟩ := h1
  obtain ⟨u, hu⟩ := h2
  rw [← ht, List.append_assoc, List.append_assoc] at hu
  have := List.append_cancel_left hu
  simp at this
  exact this.1.symm
theorem pref_app {p l : List UInt8} {a : UInt8} (h : p ++ [a] <+: l) : p <+: l := (List.prefix_append p [a]).trans h
theorem pref_let {p : List UInt8} {i : Nat} (h : p <+: bl (g i)) (hl : p.length < (g i).size) : p ++ [letW g p.length i] <+: bl (g i) := by
  have hl' : p.length < (bl (g i)).length := hl
  have e := List.prefix_iff_eq_take.1 h
  unfold letW
  have h2 := take_push hl'
  rw [← e] at h2
  rw [h2]
  exact List.take_prefix _ _
theorem let_of {p : List UInt8} {i : Nat} {c : UInt8} (h : p ++ [c] <+: bl (g i)) : p.length < (g i).size ∧ letW g p.length i = c := by
  have hl : p.length < (g i).size := by
    have := h.length_le
    rw [List.length_append, List.length_cons, List.length_nil, bl_len] at this
    omega
  exact ⟨hl, two_pref (pref_let (pref_app h) hl) h⟩
theorem let_bs (W : WordsOk n g) {i : Nat} (hi : i < n) {k : Nat} (hk : k < (g i).size) : letW g k i = 98 ∨ letW g k i = 115 := by
  have hl : k < (bl (g i)).length := hk
  have := List.all_eq_true.1 (W.bs i hi) _ (List.getElem_mem hl)
  unfold letW
  rw [List.getD_eq_getElem?_getD, List.getElem?_eq_getElem hl]
  exact bs_cases this
theorem full_at (W : WordsOk n g) {p : List UInt8} {i : Nat} (hi : i < n) (h : p <+: bl (g i)) (hl : p.length < (g i).size) : Cont n g (p ++ [98]) ∧ Cont n g (p ++ [115]) := by
  have := W.full i hi p.length hl
  rwa [← List.prefix_iff_eq_take.1 h] at this

/-- One word only: it is the beginning itself. -/
theorem inR_one (W : WordsOk n g) {p : List UInt8} {low : Nat} (R : InR n g p low low) : bl (g low) = p := by
  have hp := (R.iff low R.hi).2 ⟨Nat.le_refl _, Nat.le_refl _⟩
  by_cases hl : p.length < (g low).size
  · exfalso
    obtain ⟨⟨i, hi, h1⟩, ⟨j, hj, h2⟩⟩ := full_at W R.hi hp hl
    have a := (R.iff i hi).1 (pref_app h1)
    have b := (R.iff j hj).1 (pref_app h2)
    have ei : i = low := by omega
    have ej : j = low := by omega
    subst ei
    rw [ej] at h2
    exact absurd (two_pref h1 h2) (by decide)
  · exact (hp.eq_of_length_le (by rw [bl_len]; omega)).symm
/-- More: each goes on. -/
theorem inR_long (W : WordsOk n g) {p : List UInt8} {low high : Nat} (R : InR n g p low high) (h : low < high) {i : Nat} (h1 : low ≤ i) (h2 : i ≤ high) : p.length < (g i).size := by
  have hin : i < n := by have := R.hi; omega
  have hp := (R.iff i hin).2 ⟨h1, h2⟩
  by_cases hl : p.length < (g i).size
  · exact hl
  · exfalso
    have e := hp.eq_of_length_le (by rw [bl_len]; omega)
    have key : ∀ j, low ≤ j → j ≤ high → j ≠ i → False := fun j a b c => W.pf j i (by have := R.hi; omega) hin (fun e => c e.symm) (by rw [← e]; exact (R.iff j (by have := R.hi; omega)).2 ⟨a, b⟩)
    by_cases hi : i = low
    · exact key high R.le (Nat.le_refl _) (by omega)
    · exact key low (Nat.le_refl _) R.le (fun e => hi e.symm)
theorem less_push {p : List UInt8} : ∀ {x y : List UInt8}, Op.bytesLess (p ++ x) (p ++ y) = true → Op.bytesLess x y = true := by
  induction p with
  | nil => exact fun h => h
  | cons a p ih =>
    intro x y h
    rw [List.cons_append, List.cons_append, less_cons] at h
    rcases h with h | ⟨_, h⟩
    · omega
    · exact ih h
/-- Behind one that goes on with s all go on with s. -/
theorem let_mono (W : WordsOk n g) {p : List UInt8} {low high : Nat} (R : InR n g p low high) (h : low < high) {i j : Nat} (h1 : low ≤ i) (hij : i < j) (h2 : j ≤ high) (hs : letW g p.length i = 115) : letW g p.length j = 115 := by
  have hjn : j < n := by have := R.hi; omega
  have hin : i < n := by omega
  have li := inR_long W R h h1 (by omega)
  have lj := inR_long W R h (by omega) h2
  rcases let_bs W hjn lj with e | e
  · exfalso
    obtain ⟨t, ht⟩ := pref_let ((R.iff i hin).2 ⟨h1, by omega⟩) li
    obtain ⟨u, hu⟩ := pref_let ((R.iff j hjn).2 ⟨by omega, h2⟩) lj
    have hl := W.lt i j hij hjn
    rw [← ht, ← hu, hs, e, List.append_assoc, List.append_assoc] at hl
    have := less_push hl
    rw [List.cons_append, List.cons_append, less_cons] at this
    rcases this with q | ⟨q, _⟩
    · exact absurd q (by decide)
    · exact absurd q (by decide)
  · exact e

/-- The first word from low on that does not go on with b. -/
def splitW (g : Nat → ByteArray) (at_ : Nat) : Nat → Nat → Nat
  | 0, i => i
  | d + 1, i => if letW g at_ i = 98 then splitW g at_ d (i + 1) else i
theorem split_spec (g : Nat → ByteArray) (at_ : Nat) : ∀ d i, (∃ m, i ≤ m ∧ m < i + d ∧ letW g at_ m ≠ 98) → i ≤ splitW g at_ d i ∧ splitW g at_ d i < i + d ∧ letW g at_ (splitW g at_ d i) ≠ 98 ∧ ∀ j, i ≤ j → j < splitW g at_ d i → letW g at_ j = 98
  | 0, i, ⟨m, h1, h2, _⟩ => by omega
  | d + 1, i, ⟨m, h1, h2, h3⟩ => by
    rw [splitW]
    by_cases hc : letW g at_ i = 98
    · rw [if_pos hc]
      have hm : m ≠ i := fun e => h3 (e ▸ hc)
      obtain ⟨a, b, c, e⟩ := split_spec g at_ d (i + 1) ⟨m, by omega, by omega, h3⟩
      refine ⟨by omega, by omega, c, fun j j1 j2 => ?_⟩
      by_cases hj : j = i
      · rw [hj]; exact hc
      · exact e j (by omega) j2
    · rw [if_neg hc]
      exact ⟨Nat.le_refl _, by omega, hc, fun j j1 j2 => by omega⟩

theorem inR_split (W : WordsOk n g) {p : List UInt8} {low high : Nat} (R : InR n g p low high) (h : low < high) {l : Nat} (hl : l = splitW g p.length (high + 1 - low) low) :
    low < l ∧ l ≤ high ∧ InR n g (p ++ [98]) low (l - 1) ∧ InR n g (p ++ [115]) l high ∧ (∀ i, low ≤ i → i < l → letW g p.length i = 98) ∧ ∀ i, l ≤ i → i ≤ high → letW g p.length i = 115 := by
  have hlow : low < n := by have := R.hi; omega
  obtain ⟨⟨b, hb, h1⟩, ⟨s, hs, h2⟩⟩ := full_at W hlow ((R.iff low hlow).2 ⟨Nat.le_refl _, R.le⟩) (inR_long W R h (Nat.le_refl _) R.le)
  have rb := (R.iff b hb).1 (pref_app h1)
  have rs := (R.iff s hs).1 (pref_app h2)
  have lb := (let_of h1).2
  have ls := (let_of h2).2
  obtain ⟨a1, a2, a3, a4⟩ := split_spec g p.length (high + 1 - low) low ⟨s, rs.1, by omega, by rw [ls]; decide⟩
  rw [← hl] at a1 a2 a3 a4
  have lS : letW g p.length l = 115 := (let_bs W (by have := R.hi; omega) (inR_long W R h a1 (by omega))).resolve_left a3
  have all : ∀ i, l ≤ i → i ≤ high → letW g p.length i = 115 := fun i i1 i2 => by
    by_cases e : i = l
    · rw [e]; exact lS
    · exact let_mono W R h a1 (by omega) i2 lS
  have hbl : b < l := by
    rcases Nat.lt_or_ge b l with q | q
    · exact q
    · have := all b q rb.2
      rw [lb] at this
      exact absurd this (by decide)
  have goes : ∀ i, i < n → ∀ c, (p ++ [c] <+: bl (g i) ↔ (low ≤ i ∧ i ≤ high) ∧ letW g p.length i = c) := fun i hi c =>
    ⟨fun q => ⟨(R.iff i hi).1 (pref_app q), (let_of q).2⟩, fun ⟨q, e⟩ => e ▸ pref_let ((R.iff i hi).2 q) (inR_long W R h q.1 q.2)⟩
  refine ⟨by omega, by omega, ⟨by omega, by have := R.hi; omega, fun i hi => ?_⟩, ⟨by omega, R.hi, fun i hi => ?_⟩, a4, all⟩
  · rw [goes i hi]
    constructor
    · rintro ⟨q, e⟩
      refine ⟨q.1, ?_⟩
      rcases Nat.lt_or_ge i l with r | r
      · omega
      · rw [all i r q.2] at e
        exact absurd e (by decide)
    · exact fun q => ⟨⟨q.1, by omega⟩, a4 i q.1 (by omega)⟩
  · rw [goes i hi]
    constructor
    · rintro ⟨q, e⟩
      refine ⟨?_, q.2⟩
      rcases Nat.lt_or_ge i l with r | r
      · rw [a4 i q.1 r] at e
        exact absurd e (by decide)
      · exact r
    · exact fun q => ⟨⟨by omega, q.2⟩, all i q.1 q.2⟩

/-- The plan of the words from low to high. -/
def planW (g : Nat → ByteArray) : Nat → Nat → Nat → Nat → List Nat
  | 0, _, _, _ => []
  | f + 1, low, high, at_ => if low = high then [] else splitW g at_ (high + 1 - low) low :: (planW g f low (splitW g at_ (high + 1 - low) low - 1) (at_ + 1) ++ planW g f (splitW g at_ (high + 1 - low) low) high (at_ + 1))
end
end
end Go.Proofs.YtgnkjmgkfibipaaDoor

/- Words: the reference's plan: its loop. -/
namespace Go.Proofs.YtgnkjmgkfibipaaDoor
set_option linter.unusedVariables false
set_option linter.unusedSimpArgs false
open Go Go.R
set_option maxRecDepth 1000000
noncomputable section

noncomputable def c73 : Code := bodyOf Tryd.f73
noncomputable def lp73 : Code := within (tl (hd (behind 2 c73)))
/-- Whether a word from i on is p; how many go on with b. -/
def isW (g : Nat → ByteArray) (p : ByteArray) : Nat → Nat → Bool
  | 0, _ => false
  | d + 1, i => ((g i).toList == p.toList) || isW g p d (i + 1)
def cntW (g : Nat → ByteArray) (p : ByteArray) : Nat → Nat → Nat
  | 0, _ => 0
  | d + 1, i => (if prefB (g i) (p ++ ⟨#[98]⟩) then 1 else 0) + cntW g p d (i + 1)
section
variable {n cap : Nat} {g : Nat → ByteArray}
noncomputable def S73 (n cap : Nat) (p : ByteArray) (low c i : Nat) : List (Nat × Value) := [(0, slV n cap), (1, .string p), (2, i64 low), (7, i64 c), (8, i64 i)]
theorem S73_clo {p : ByteArray} {low c i : Nat} : ∀ q ∈ S73 n cap p low c i, Clo 1 q.2 := clo_all (by kernel_rfl)
theorem plan_loop (hn : n < 1000) (p : ByteArray) (hps : p.size < 1000) (low : Nat) : ∀ d i c, i + d = n → c ≤ i → Runs Tryd.prog 1 lp73 (sth (S73 n cap p low c i) 50 [viewS n g]) fun x af =>
    (x = .ret ∧ isW g p d i = true ∧ af.tm.get 6 = some (.slice none 0 0)) ∨ (x = .exit 0 ∧ isW g p d i = false ∧ Less 1 (sth [(0, slV n cap), (1, .string p), (2, i64 low), (7, i64 (c + cntW g p d i))] 50 [viewS n g]) af) := by
  intro d
  induction d with
  | zero =>
    intro i c hi hc
    have e : i = n := by omega
    subst e
    refine Runs.lp (by kernel_rfl) (Runs.sq (by kernel_rfl) (Runs.sqR mixed hk38 [] (by kernel_rfl) (by kernel_rfl) (by kernel_rfl) oblN ?_))
    refine Runs.cd (b := ltF (.ofNat i) (.ofNat i)) (by kernel_rfl) (fun ht => by rw [lt_self] at ht; cases ht) (fun _ => Runs.now (x := .exit 0) (by kernel_rfl) (.inr ⟨rfl, rfl, ?_⟩))
    exact less_seenP (clo_all (k := 1) (by kernel_rfl)) viewS_clo (Nat.le_refl 1) (by kernel_rfl) (by kernel_rfl) (by kernel_rfl) (by kernel_rfl)
  | succ d ih =>
    intro i c hi hc
    have hlt : i < n := by omega
    have hcell := fun (h : AH) (hg : h.get 0 = viewS n g) => cell72 (n := n) (g := g) hlt hg
    have hadd : ∀ h : AH, (strBin .add p ⟨#[98]⟩).map (fun v => (v, h)) = some (.string (p ++ ⟨#[98]⟩), h) := fun h => by rw [str_add 98 (by omega)]; rfl
    refine Runs.lp (by kernel_rfl) (Runs.sq (by kernel_rfl) (Runs.sqR mixed hk38 [] (by kernel_rfl) (by kernel_rfl) (by kernel_rfl) oblN ?_))
    refine Runs.cd (b := ltF (.ofNat i) (.ofNat n)) (by kernel_rfl) (fun _ => Runs.now (x := .normal) (by kernel_rfl) ?_) (fun hf => by rw [lt_of hlt] at hf; cases hf)
    show Runs Tryd.prog 1 _ _ _
    refine Runs.sq (by kernel_rfl) (Runs.bk (id := 1) (by kernel_rfl) (Runs.sq (by kernel_rfl) ?_))
    refine Runs.sqR mixed hk38 [viaV 2 (.pointer (some ⟨0, 0 + i * 1, none⟩)), viaV 3 (.string (g i)), viaV 5 (.bool ((g i).toList == p.toList))] (by kernel_rfl) (by kernel_rfl) (by kernel_rfl)
      (oblC (shown_idx (n := n) (by kernel_rfl) hlt) (oblC (shown_cell (g := 0) (off := 0 + i * 1) (by kernel_rfl) (hcell _ (by kernel_rfl))) (oblC (shown_eq (v := .bool ((g i).toList == p.toList)) (by kernel_rfl) (by kernel_rfl) rfl) oblN))) ?_
    have e1 : isW g p (d + 1) i = (((g i).toList == p.toList) || isW g p d (i + 1)) := rfl
    have e2 : cntW g p (d + 1) i = (if prefB (g i) (p ++ ⟨#[98]⟩) then 1 else 0) + cntW g p d (i + 1) := rfl
    rw [e1, e2]
    cases hq : (g i).toList == p.toList with
    | true =>
      refine Runs.cd (b := true) (by kernel_rfl) (fun _ => ?_) (fun h => by cases h)
      exact Runs.sqR mixed hk38 [] (by kernel_rfl) (by kernel_rfl) (by kernel_rfl) oblN (Runs.now (x := .ret) (by kernel_rfl) (.inl ⟨rfl, rfl, by kernel_rfl⟩))
    | false =>
      rw [Bool.false_or]
      refine Runs.cd (b := false) (by kernel_rfl) (fun h => by cases h) (fun _ => Runs.now (x := .normal) (by kernel_rfl) ?_)
      show Runs Tryd.prog 1 _ _ _
      have go : ∀ {c' : Nat} {af : AF} {Q : AExit → AF → Prop}, Less 1 (sth (S73 n cap p low c' i) 50 [viewS n g]) af → Runs Tryd.prog 1 lp73 (sth (S73 n cap p low c' (i + 1)) 50 [viewS n g]) Q → Runs Tryd.prog 1 (tl (tl (within lp73))) af (andThen (fun af => Runs Tryd.prog 1 lp73 af Q) Q) := fun {c' af Q} less k => by
        refine Runs.less less (Runs.rg mixed hk38 [] (by kernel_rfl) (by kernel_rfl) (by kernel_rfl) oblN ?_)
        show Runs Tryd.prog 1 lp73 _ _
        refine Runs.less (af1 := sth (S73 n cap p low c' (i + 1)) 50 [viewS n g]) ?_ k
        have ew : S73 n cap p low c' (i + 1) = [(0, slV n cap), (1, .string p), (2, i64 low), (7, i64 c'), (8, .int .i64 (wrapF .i64 (Int.add (.ofNat i) (.ofNat 1))))] := by unfold S73; rw [wrap_succ (by omega : i < 4611686018427387904)]; rfl
        refine less_seenP S73_clo viewS_clo (Nat.le_refl 1) ?_ (by kernel_rfl) (by kernel_rfl) (by kernel_rfl)
        rw [ew]
        exact Eq.trans (Eq.refl _) (by kernel_rfl)
      refine Runs.sqR mixed hk38 [viaV 2 (.pointer (some ⟨0, 0 + i * 1, none⟩)), viaV 3 (.string (g i)), viaV 5 (.string (p ++ ⟨#[98]⟩)), viaC 6 115 [.string (g i), .string (p ++ ⟨#[98]⟩)] (.bool (prefB (g i) (p ++ ⟨#[98]⟩)))] (by kernel_rfl) (by kernel_rfl) (by kernel_rfl)
        (oblC (shown_idx (n := n) (by kernel_rfl) hlt) (oblC (shown_cell (g := 0) (off := 0 + i * 1) (by kernel_rfl) (hcell _ (by kernel_rfl)))
        (oblC (shown_val (H := hp [viewS n g]) (x := (strBin .add p ⟨#[98]⟩).map (fun v => (v, hp [viewS n g]))) (by kernel_rfl) (by kernel_rfl) (by kernel_rfl) (hadd _))
        (oblC (shown_callE (h0 := hp [viewS n g]) (by kernel_rfl) (by kernel_rfl) (refBegins_says _ _ _)) oblN)))) ?_
      cases hb : prefB (g i) (p ++ ⟨#[98]⟩) with
      | true =>
        have m1 : Value.int .i64 (wrapF .i64 (Int.add (.ofNat c) (.ofNat 1))) = i64 (c + 1) := by rw [wrap_succ (by omega)]; rfl
        refine Runs.cd (b := true) (by kernel_rfl) (fun _ => ?_) (fun h => by cases h)
        refine Runs.rg mixed hk38 [viaV 1 (i64 (c + 1))] (by kernel_rfl) (by kernel_rfl) (by kernel_rfl) (oblC (shown_eq (v := .int .i64 (wrapF .i64 (Int.add (.ofNat c) (.ofNat 1)))) (by kernel_rfl) (by kernel_rfl) m1) oblN) ?_
        rw [if_pos rfl, show c + (1 + cntW g p d (i + 1)) = c + 1 + cntW g p d (i + 1) by omega]
        exact go (c' := c + 1) (less_seenP S73_clo viewS_clo (Nat.le_refl 1) (by kernel_rfl) (by kernel_rfl) (by kernel_rfl) (by kernel_rfl)) (ih (i + 1) (c + 1) (by omega) (by omega))
      | false =>
        refine Runs.cd (b := false) (by kernel_rfl) (fun h => by cases h) (fun _ => Runs.now (x := .normal) (by kernel_rfl) ?_)
        rw [if_neg (by simp), Nat.zero_add]
        exact go (c' := c) (less_seenP S73_clo viewS_clo (Nat.le_refl 1) (by kernel_rfl) (by kernel_rfl) (by kernel_rfl) (by kernel_rfl)) (ih (i + 1) c (by omega) (by omega))

/-! ### What the loop finds -/
theorem isW_iff (p : ByteArray) : ∀ d i, isW g p d i = true ↔ ∃ j, i ≤ j ∧ j < i + d ∧ bl (g j) = bl p
  | 0, i => ⟨fun h => (by cases h), fun ⟨j, h1, h2, _⟩ => (by omega)⟩
  | d + 1, i => by
    rw [isW, Bool.or_eq_true, isW_iff p d (i + 1), bl_toList, bl_toList, beq_iff_eq]
    constructor
    · rintro (h | ⟨j, h1, h2, h⟩)
      · exact ⟨i, Nat.le_refl i, by omega, h⟩
      · exact ⟨j, by omega, by omega, h⟩
    · rintro ⟨j, h1, h2, h⟩
      by_cases e : j = i
      · exact .inl (e ▸ h)
      · exact .inr ⟨j, by omega, by omega, h⟩
/-- They stand side by side: so many. -/
theorem cntW_inR {p : ByteArray} {low high : Nat} (R : InR n g (bl p ++ [98]) low high) : ∀ d i, i + d = n → cntW g p d i = high + 1 - max low i
  | 0, i, h => by
    have := R.hi
    have := R.le
    show 0 = _
    omega
  | d + 1, i, h => by
    have hi : i < n := by omega
    have hle := R.le
    rw [cntW, cntW_inR R d (i + 1) (by omega)]
    have e : prefB (g i) (p ++ ⟨#[98]⟩) = true ↔ low ≤ i ∧ i ≤ high := by rw [pref_iff, bl_push]; exact R.iff i hi
    by_cases hc : prefB (g i) (p ++ ⟨#[98]⟩) = true
    · rw [if_pos hc]
      have := e.1 hc
      omega
    · rw [if_neg hc]
      have : ¬ (low ≤ i ∧ i ≤ high) := fun q => hc (e.2 q)
      omega
end
end
end Go.Proofs.YtgnkjmgkfibipaaDoor

/- Words: the reference's plan as a contract. -/
namespace Go.Proofs.YtgnkjmgkfibipaaDoor
set_option linter.unusedVariables false
set_option linter.unusedSimpArgs false
open Go Go.R
set_option maxRecDepth 1000000
noncomputable section

theorem app_nilG {n i0 : Nat} (hn : n < 1000000) {sp : Option Nat} (hsp : sp = none ∨ sp = some 1) {h : AH} : appendA Tryd.prog #[24, 24] (.slice (some ⟨i0, 0, sp⟩) n n) (.slice none 0 0) h = some (.slice (some ⟨i0, 0, sp⟩) n n, h) := by
  have e1 : Tryd.prog.underlying 24 = some (.slice 3) := by kernel_rfl
  obtain ⟨info, e2, e3, e4⟩ := int_info
  rw [Bool.or_eq_false_iff] at e4
  have e6 : (decide (n > 1000000)) = false := by simp; omega
  have e5 : decide (n < n) = false := by simp
  unfold appendA
  simp only [List.getElem?_toArray, List.getElem?_cons_zero, List.getElem?_cons_succ, e1, e2, srcKind, Bool.not_true, Bool.false_eq_true, if_false, e3, srcA, List.all_nil]
  rcases hsp with rfl | rfl
  · simp only [e4.1, e4.2, e6, e5, Bool.not_true, Bool.or_false, Bool.false_or, Bool.or_self, decide_false, show (1 = 0) = False by simp, show (0 : Nat) > 1000000 ↔ False by simp, if_false, decide_true, ne_eq, not_true_eq_false, Bool.false_eq_true, if_true]
  · simp only [e4.1, e4.2, e6, e5, Bool.not_true, Bool.or_false, Bool.false_or, Bool.or_self, decide_false, show (1 = 0) = False by simp, show (0 : Nat) > 1000000 ↔ False by simp, if_false, decide_true, ne_eq, not_true_eq_false, Bool.false_eq_true, if_true, show (0 + 1 = 1) by rfl]

/-- A list in a row of its own, or none. -/
def NewL (l : List Nat) (v' : Value) (h' : AH) : Prop := (l = [] ∧ v' = .slice none 0 0) ∨ (l ≠ [] ∧ ∃ i par, (v' = rowV i (litI l).length none ∨ v' = rowK i (litI l).length none) ∧ h'.get i = .cells (litI l) true par (some 3))
section
variable {n : Nat} {g : Nat → ByteArray}
def PlanL (n : Nat) (g : Nat → ByteArray) (p : ByteArray) (low : Nat) (l : List Nat) : Prop := ∀ cap, n ≤ cap → Local Tryd.prog 1 73 [slV n cap, .string p, i64 low] (hp [viewS n g]) (NewL l)
theorem post_plain {p : ByteArray} {low : Nat} : ∀ v ∈ [Value.string p, i64 low], plainV v = true := fun v hv => by
  rcases List.mem_cons.1 hv with rfl | hv
  · rfl
  · rw [List.mem_singleton.1 hv]; rfl
theorem plan_nil {p : ByteArray} {low : Nat} (L : PlanL n g p low []) {cap : Nat} (hc : n ≤ cap) {h : AH} (hg : h.get 0 = viewS n g) : Says Tryd.prog h 73 [slV n cap, .string p, i64 low] (.slice none 0 0) h :=
  tell_flat (pre := []) (post := [.string p, i64 low]) (i := 0) (o := 0) (n := n) (s := slV n cap) (c := strsV n g) (cells := strsV n g) (lv := false) (par := []) (ty := none) (R := NewL []) (fun cap' hc' => L cap' hc')
    (fun v' h' r => by
      rcases r with ⟨_, e⟩ | ⟨e, _⟩
      · exact e
      · exact absurd rfl e) rfl hg (fun k u hk => by rw [Nat.zero_add]; exact hk) (by rw [Nat.zero_add]; exact Nat.le_refl _) (strsV_plain n g) (view_at hc) (fun v hv => by cases hv) post_plain
theorem plan_list {p : ByteArray} {low : Nat} {l : List Nat} (hl : l ≠ []) (L : PlanL n g p low l) {cap : Nat} (hc : n ≤ cap) {h : AH} (hg : h.get 0 = viewS n g) : Says Tryd.prog h 73 [slV n cap, .string p, i64 low] (.slice (some ⟨h.next, 0, some 1⟩) l.length l.length) (h.new (rowL l)).2 := by
  have := tell_new (P := Tryd.prog) (fid := 73) (pre := []) (post := [.string p, i64 low]) (i := 0) (o := 0) (n := n) (n1 := (litI l).length) (s := slV n cap) (c := strsV n g) (cells := strsV n g) (cells1 := litI l) (lv := false) (par := []) (ty := none) (ty1 := some 3) (e1 := none) (h := h)
    (fun cap' hc' F w0 μ w args' H hl2 => (L cap' hc' F w0 μ w args' H hl2).mono fun v' w' ⟨u, h', r, q⟩ => ⟨u, h', by
      rcases r with ⟨e, _⟩ | ⟨_, r⟩
      · exact absurd e hl
      · exact r, q⟩) rfl (litI_plain l) (fun v hv => by cases hv) hg (fun k u hk => by rw [Nat.zero_add]; exact hk) (by rw [Nat.zero_add]; exact Nat.le_refl _) (strsV_plain n g) (view_at hc) (fun v hv => by cases hv) post_plain
  rw [show rowV h.next (litI l).length none = .slice (some ⟨h.next, 0, some 1⟩) l.length l.length by rw [litI_len]; rfl] at this
  exact this

noncomputable def lvG (sp : Option Nat) (len : Nat) : Value := .slice (some ⟨1, 0, sp⟩) len len
noncomputable def S73t (n cap : Nat) (p : ByteArray) (l : Nat) (sp : Option Nat) (len : Nat) : List (Nat × Value) := [(0, slV n cap), (1, .string p), (9, i64 l), (10, lvG sp len)]
theorem plan_tail {cap : Nat} (hc : n ≤ cap) {p : ByteArray} (hps : p.size < 1000) {l : Nat} {B : List Nat} (hBl : B.length < 1000) (IH : PlanL n g (p ++ ⟨#[115]⟩) l B) {sp : Option Nat} (hsp : sp = none ∨ sp = some 1) {C : List Nat} (hC : C ≠ []) (hCl : C.length < 1000) :
    Runs Tryd.prog 1 (behind 5 c73) (sth (S73t n cap p l sp C.length) 50 [viewS n g, rowL C]) (EndsAs Tryd.prog Tryd.f73 (NewL (C ++ B))) := by
  have hadd : ∀ h : AH, (strBin .add p ⟨#[115]⟩).map (fun v => (v, h)) = some (.string (p ++ ⟨#[115]⟩), h) := fun h => by rw [str_add 115 (by omega)]; rfl
  have clen : (litI C).length = C.length := litI_len C
  by_cases hB : B = []
  · subst hB
    have hS := plan_nil IH hc (h := hp [viewS n g, rowL C]) (by kernel_rfl)
    have hap := app_nilG (n := C.length) (i0 := 1) (by omega) hsp (h := hp [viewS n g, rowL C])
    refine Runs.sqR mixed hk38 [viaV 3 (.string (p ++ ⟨#[115]⟩)), viaC 5 73 [slV n cap, .string (p ++ ⟨#[115]⟩), i64 l] (.slice none 0 0), viaV 6 (lvG sp C.length)] (by kernel_rfl) (by kernel_rfl) (by kernel_rfl)
      (oblC (shown_val (H := hp [viewS n g, rowL C]) (x := (strBin .add p ⟨#[115]⟩).map (fun v => (v, hp [viewS n g, rowL C]))) (by kernel_rfl) (by kernel_rfl) (by kernel_rfl) (hadd _))
      (oblC (shown_callE (h0 := hp [viewS n g, rowL C]) (by kernel_rfl) (by kernel_rfl) hS)
      (oblC (shown_val (H := hp [viewS n g, rowL C]) (x := appendA Tryd.prog #[24, 24] (.slice (some ⟨1, 0, sp⟩) C.length C.length) (.slice none 0 0) (hp [viewS n g, rowL C])) (by kernel_rfl) (by kernel_rfl) (by kernel_rfl) hap) oblN))) ?_
    rw [List.append_nil]
    refine Runs.now (x := .ret) (by kernel_rfl) ⟨.inr rfl, [lvG sp C.length], by kernel_rfl, .inr ⟨hC, 1, [], ?_, by kernel_rfl⟩⟩
    rcases hsp with rfl | rfl
    · exact .inr (by rw [clen]; rfl)
    · exact .inl (by rw [clen]; rfl)
  · have hne : C ++ B ≠ [] := fun e => hC (List.append_eq_nil_iff.1 e).1
    let H1 : AH := ((hp [viewS n g, rowL C]).new (rowL B)).2
    have hS := plan_list hB IH hc (h := hp [viewS n g, rowL C]) (by kernel_rfl)
    have g1 : H1.get 1 = .cells (litI C) true [] (some 3) := by kernel_rfl
    have g2 : H1.get 2 = .cells (litI B) true [] (some 3) := by kernel_rfl
    have fin : ∀ (Hn : AH) (par : List Nat), Hn.get 3 = .cells (litI C ++ litI B) true par (some 3) → NewL (C ++ B) (.slice (some ⟨3, 0, some 1⟩) (C.length + B.length) (C.length + B.length)) Hn := by
      intro Hn par hg
      refine .inr ⟨hne, 3, par, .inl ?_, by rw [← litI_app]; exact hg⟩
      rw [litI_len, List.length_append]; rfl
    rcases hsp with rfl | rfl
    · have hap := app_n (h := H1) (i0 := 1) (j := 2) (A := C) (B := B) (par := []) (lv2 := true) (par2 := []) (sp2 := some 1) hB ⟨by omega, by omega⟩ g1 g2
      refine Runs.sqR mixed hk38 [viaV 3 (.string (p ++ ⟨#[115]⟩)), viaH 5 73 [slV n cap, .string (p ++ ⟨#[115]⟩), i64 l] (.slice (some ⟨2, 0, some 1⟩) B.length B.length) H1, ⟨6, .slice (some ⟨3, 0, some 1⟩) (C.length + B.length) (C.length + B.length), some (H1.new (.cells (litI C ++ litI B) true [] (some 3))).2, none⟩] (by kernel_rfl) (by kernel_rfl) (by kernel_rfl)
        (oblC (shown_val (H := hp [viewS n g, rowL C]) (x := (strBin .add p ⟨#[115]⟩).map (fun v => (v, hp [viewS n g, rowL C]))) (by kernel_rfl) (by kernel_rfl) (by kernel_rfl) (hadd _))
        (oblC (shown_callHE (h0 := hp [viewS n g, rowL C]) (by kernel_rfl) (by kernel_rfl) hS)
        (oblC (shown_put (x := appendA Tryd.prog #[24, 24] (.slice (some ⟨1, 0, none⟩) C.length C.length) (.slice (some ⟨2, 0, some 1⟩) B.length B.length) H1) (by kernel_rfl) (by kernel_rfl) hap) oblN))) ?_
      exact Runs.now (x := .ret) (by kernel_rfl) ⟨.inr rfl, [.slice (some ⟨3, 0, some 1⟩) (C.length + B.length) (C.length + B.length)], by kernel_rfl, fin _ [] (by kernel_rfl)⟩
    · have hap := app_u (h := H1) (i0 := 1) (j := 2) (A := C) (B := B) (par := []) (lv2 := true) (par2 := []) (sp2 := some 1) hB ⟨by omega, by omega⟩ g1 g2
      refine Runs.sqR mixed hk38 [viaV 3 (.string (p ++ ⟨#[115]⟩)), viaH 5 73 [slV n cap, .string (p ++ ⟨#[115]⟩), i64 l] (.slice (some ⟨2, 0, some 1⟩) B.length B.length) H1, ⟨6, .slice (some ⟨3, 0, some 1⟩) (C.length + B.length) (C.length + B.length), some ((H1.put 1 (.cells (litI C) false [] (some 3))).new (.cells (litI C ++ litI B) true [1] (some 3))).2, none⟩] (by kernel_rfl) (by kernel_rfl) (by kernel_rfl)
        (oblC (shown_val (H := hp [viewS n g, rowL C]) (x := (strBin .add p ⟨#[115]⟩).map (fun v => (v, hp [viewS n g, rowL C]))) (by kernel_rfl) (by kernel_rfl) (by kernel_rfl) (hadd _))
        (oblC (shown_callHE (h0 := hp [viewS n g, rowL C]) (by kernel_rfl) (by kernel_rfl) hS)
        (oblC (shown_put (x := appendA Tryd.prog #[24, 24] (.slice (some ⟨1, 0, some 1⟩) C.length C.length) (.slice (some ⟨2, 0, some 1⟩) B.length B.length) H1) (by kernel_rfl) (by kernel_rfl) hap) oblN))) ?_
      exact Runs.now (x := .ret) (by kernel_rfl) ⟨.inr rfl, [.slice (some ⟨3, 0, some 1⟩) (C.length + B.length) (C.length + B.length)], by kernel_rfl, fin _ [1] (by kernel_rfl)⟩
end
end
end Go.Proofs.YtgnkjmgkfibipaaDoor

/- Words: the reference's plan is the plan of the words. -/
namespace Go.Proofs.YtgnkjmgkfibipaaDoor
set_option linter.unusedVariables false
set_option linter.unusedSimpArgs false
open Go Go.R
set_option maxRecDepth 1000000
noncomputable section
section
variable {n : Nat} {g : Nat → ByteArray}
theorem push_size (p : ByteArray) (c : UInt8) : (p ++ ⟨#[c]⟩).size = p.size + 1 := by rw [← bl_len, bl_push, List.length_append, bl_len]; rfl
theorem planW_one (f low at_ : Nat) : planW g (f + 1) low low at_ = [] := by rw [planW, if_pos rfl]
theorem planW_len (W : WordsOk n g) : ∀ (f : Nat) (p : ByteArray) (low high : Nat), InR n g (bl p) low high → high - low < f → (planW g f low high p.size).length = high - low
  | 0, p, low, high, R, h => by omega
  | f + 1, p, low, high, R, h => by
    rw [planW]
    by_cases e : low = high
    · rw [if_pos e, e, Nat.sub_self]; rfl
    · rw [if_neg e]
      have hlt : low < high := by have := R.le; omega
      obtain ⟨h1, h2, RA, RB, _⟩ := inR_split W R hlt (l := splitW g p.size (high + 1 - low) low) rfl
      rw [← bl_push] at RA RB
      have lA := planW_len W f _ _ _ RA (by omega)
      have lB := planW_len W f _ _ _ RB (by omega)
      rw [push_size] at lA lB
      rw [List.length_cons, List.length_append, lA, lB]
      omega
theorem obs_viewS {ρ : Nat → Nat} {m : Nat} {x : AObj} (e : x = viewS n g) : RenO ρ m x (viewS n g) := RenO.row (c := strsV n g) (lv := false) (p := []) (ty := none) e (strsV_plain n g) (fun h => h) (.inl rfl)
theorem obs_rowL {ρ : Nat → Nat} {m : Nat} {l : List Nat} {p : List Nat} {x : AObj} {c : List Value} (e : x = .cells c true p (some 3)) (ec : c = litI l) : RenO ρ m x (rowL l) := RenO.row (c := litI l) (lv := true) (p := p) (ty := some 3) (ec ▸ e) (litI_plain l) (fun h => h) (.inr rfl)
theorem S73t_clo {cap : Nat} {p : ByteArray} {l len : Nat} {sp : Option Nat} (h : sp = none ∨ sp = some 1) : ∀ q ∈ S73t n cap p l sp len, Clo 2 q.2 := by
  rcases h with rfl | rfl <;> exact clo_all (by kernel_rfl)
theorem view_row_clo {C : List Nat} : ∀ o ∈ [viewS n g, rowL C], CloO 2 o := fun o ho => by
  simp only [List.mem_cons, List.mem_nil_iff, or_false] at ho
  rcases ho with rfl | rfl
  · exact cloO_plain (strsV_plain n g) _ _
  · exact cloO_plain (litI_plain C) _ _

theorem plan_local (W : WordsOk n g) : ∀ (f : Nat) (p : ByteArray) (low high : Nat), InR n g (bl p) low high → high - low < f → PlanL n g p low (planW g f low high p.size)
  | 0, p, low, high, R, h => by omega
  | f + 1, p, low, high, R, h => by
    intro cap hc
    have h13 := W.hi
    have hle := R.le
    have hhi := R.hi
    have hps : p.size ≤ 12 := by
      have h1 := ((R.iff low (by omega)).2 ⟨Nat.le_refl _, hle⟩).length_le
      rw [bl_len, bl_len] at h1
      have := W.sz low (by omega)
      omega
    refine local_of noNum Tryd.func73 (show Tryd.f73.body = some c73 by kernel_rfl) ?_
    refine Runs.sqR mixed hk38 [] (by kernel_rfl) (by kernel_rfl) (by kernel_rfl) oblN ?_
    refine Runs.sqR mixed hk38 [] (by kernel_rfl) (by kernel_rfl) (by kernel_rfl) oblN ?_
    refine Runs.sq (by kernel_rfl) (Runs.sqR mixed hk38 [] (by kernel_rfl) (by kernel_rfl) (by kernel_rfl) oblN (Runs.bk (id := 0) (by kernel_rfl) ?_))
    refine Runs.less (af1 := sth (S73 n cap p low 0 0) 50 [viewS n g]) (less_seenP S73_clo viewS_clo (Nat.le_refl 1) (by kernel_rfl) (by kernel_rfl) (by kernel_rfl) (by kernel_rfl)) ?_
    show Runs Tryd.prog 1 lp73 _ _
    refine (plan_loop (by omega) p (by omega) low n 0 0 (by omega) (Nat.le_refl _)).mono fun x af hx => ?_
    rcases hx with ⟨rfl, hw, ht⟩ | ⟨rfl, hw, less⟩
    · obtain ⟨j, _, hj, ej⟩ := (isW_iff p n 0).1 hw
      have e : low = high := by
        rcases Nat.lt_or_ge low high with q | q
        · exfalso
          have r := (R.iff j (by omega)).1 (by rw [ej]; exact List.prefix_refl _)
          have := inR_long W R q r.1 r.2
          have e2 := congrArg List.length ej
          rw [bl_len, bl_len] at e2
          rw [bl_len] at this
          omega
        · omega
      subst e
      rw [planW_one]
      refine ⟨.inr rfl, [.slice none 0 0], ?_, .inl ⟨rfl, rfl⟩⟩
      have e0 : Tryd.f73.results.toList = [.tmp 6] := by kernel_rfl
      rw [e0]
      simp only [resultsA, ht]
    · have hne : low ≠ high := fun e => by
        subst e
        have := inR_one W R
        rw [(isW_iff p n 0).2 ⟨low, Nat.zero_le _, by omega, this⟩] at hw
        cases hw
      have hlt : low < high := by omega
      have hdef : planW g (f + 1) low high p.size = splitW g p.size (high + 1 - low) low :: (planW g f low (splitW g p.size (high + 1 - low) low - 1) (p.size + 1) ++ planW g f (splitW g p.size (high + 1 - low) low) high (p.size + 1)) := by rw [planW, if_neg hne]
      obtain ⟨h1, h2, RA, RB, _⟩ := inR_split W R hlt (l := splitW g p.size (high + 1 - low) low) rfl
      rw [hdef]
      generalize splitW g p.size (high + 1 - low) low = l at *
      have hcnt := cntW_inR RA n 0 (by omega)
      rw [← bl_push] at RA RB
      have lA := planW_len W f _ _ _ RA (by omega)
      have lB := planW_len W f _ _ _ RB (by omega)
      have IA := plan_local W f _ _ _ RA (by omega)
      have IB := plan_local W f _ _ _ RB (by omega)
      rw [push_size] at lA lB IA IB
      generalize planW g f low (l - 1) (p.size + 1) = A at *
      generalize planW g f l high (p.size + 1) = B at *
      rw [hcnt] at less
      show Runs Tryd.prog 1 (behind 3 c73) af _
      refine Runs.less less ?_
      have m1 : Value.int .i64 (wrapF .i64 (Int.add (.ofNat low) (.ofNat (0 + (l - 1 + 1 - max low 0))))) = i64 l := by rw [f_add (by omega), show low + (0 + (l - 1 + 1 - max low 0)) = l by omega]; rfl
      refine Runs.sqR mixed hk38 [viaV 2 (i64 l)] (by kernel_rfl) (by kernel_rfl) (by kernel_rfl) (oblC (shown_eq (v := .int .i64 (wrapF .i64 (Int.add (.ofNat low) (.ofNat (0 + (l - 1 + 1 - max low 0)))))) (by kernel_rfl) (by kernel_rfl) m1) oblN) ?_
      have hadd : ∀ h : AH, (strBin .add p ⟨#[98]⟩).map (fun v => (v, h)) = some (.string (p ++ ⟨#[98]⟩), h) := fun h => by rw [str_add 98 (by omega)]; rfl
      let H1 : AH := hp [viewS n g, rowL [l]]
      by_cases hA : A = []
      · subst hA
        have hS := plan_nil IA hc (h := H1) (by kernel_rfl)
        have hap := app_nilG (n := 1) (i0 := 1) (by omega) (.inl rfl) (h := H1)
        refine Runs.sqR mixed hk38 [viaV 4 (.string (p ++ ⟨#[98]⟩)), viaC 6 73 [slV n cap, .string (p ++ ⟨#[98]⟩), i64 low] (.slice none 0 0), viaV 7 (lvG none 1)] (by kernel_rfl) (by kernel_rfl) (by kernel_rfl)
          (oblC (shown_val (H := H1) (x := (strBin .add p ⟨#[98]⟩).map (fun v => (v, H1))) (by kernel_rfl) (by kernel_rfl) (by kernel_rfl) (hadd _))
          (oblC (shown_callE (h0 := H1) (by kernel_rfl) (by kernel_rfl) hS)
          (oblC (shown_val (H := H1) (x := appendA Tryd.prog #[24, 24] (.slice (some ⟨1, 0, none⟩) 1 1) (.slice none 0 0) H1) (by kernel_rfl) (by kernel_rfl) (by kernel_rfl) hap) oblN))) ?_
        refine Runs.less (af1 := sth (S73t n cap p l none [l].length) 50 [viewS n g, rowL [l]]) (less_seenP (S73t_clo (.inl rfl)) view_row_clo (show 1 ≤ 2 by decide) (by kernel_rfl) (by kernel_rfl) (by kernel_rfl) (by kernel_rfl)) ?_
        rw [List.nil_append]
        exact plan_tail hc (by omega) (by omega) IB (.inl rfl) (C := [l]) (by simp) (by simp)
      · have hS := plan_list hA IA hc (h := H1) (by kernel_rfl)
        let H2 : AH := (H1.new (rowL A)).2
        have g1 : H2.get 1 = .cells (litI [l]) true [] (some 3) := by kernel_rfl
        have g2 : H2.get 2 = .cells (litI A) true [] (some 3) := by kernel_rfl
        have hap := app_n (h := H2) (i0 := 1) (j := 2) (A := [l]) (B := A) (par := []) (lv2 := true) (par2 := []) (sp2 := some 1) hA ⟨by simp, by omega⟩ g1 g2
        refine Runs.sqR mixed hk38 [viaV 4 (.string (p ++ ⟨#[98]⟩)), viaH 6 73 [slV n cap, .string (p ++ ⟨#[98]⟩), i64 low] (.slice (some ⟨2, 0, some 1⟩) A.length A.length) H2, ⟨7, .slice (some ⟨3, 0, some 1⟩) ([l].length + A.length) ([l].length + A.length), some (H2.new (.cells (litI [l] ++ litI A) true [] (some 3))).2, none⟩] (by kernel_rfl) (by kernel_rfl) (by kernel_rfl)
          (oblC (shown_val (H := H1) (x := (strBin .add p ⟨#[98]⟩).map (fun v => (v, H1))) (by kernel_rfl) (by kernel_rfl) (by kernel_rfl) (hadd _))
          (oblC (shown_callHE (h0 := H1) (by kernel_rfl) (by kernel_rfl) hS)
          (oblC (shown_put (x := appendA Tryd.prog #[24, 24] (.slice (some ⟨1, 0, none⟩) [l].length [l].length) (.slice (some ⟨2, 0, some 1⟩) A.length A.length) H2) (by kernel_rfl) (by kernel_rfl) hap) oblN))) ?_
        refine Runs.renumK (sz := 50) (l := S73t n cap p l (some 1) ([l].length + A.length)) (os := [viewS n g, rowL (l :: A)]) (fun j => match j with | 1 => 3 | j => j) (fun j => match j with | 3 => 1 | j => j) (by kernel_rfl) (show 1 ≤ 2 by decide) (by kernel_rfl) ⟨fun _ => .inl (Eq.trans (Eq.refl _) (by kernel_rfl)), fun h => (by cases h), trivial⟩ (by kernel_rfl) (by kernel_rfl) (by kernel_rfl) (by kernel_rfl)
          ⟨obs_viewS (by kernel_rfl), obs_rowL (p := []) (c := litI [l] ++ litI A) (by kernel_rfl) (by rw [litI_app]; rfl), trivial⟩ ?_
        rw [show [l].length + A.length = (l :: A).length by show 1 + A.length = A.length + 1; omega, show l :: (A ++ B) = (l :: A) ++ B from rfl]
        exact plan_tail hc (by omega) (by omega) IB (.inr rfl) (C := l :: A) (by simp) (by rw [List.length_cons]; omega)
end
end
end Go.Proofs.YtgnkjmgkfibipaaDoor
