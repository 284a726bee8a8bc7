/- TrialPrices: put, as a contract. -/
import Derived.Test.YtgnkjmgkfibipaaDoorSPricedKG13
import Derived.Test.YtgnkjmgkfibipaaDoorSPricedKG11
namespace Go.Proofs.YtgnkjmgkfibipaaDoor
set_option linter.unusedVariables false
set_option linter.unusedSimpArgs false
open Go Go.R
set_option maxRecDepth 1000000
noncomputable section

theorem shL_shL (a c : Nat) (l : List Nat) : shL a (shL c l) = shL (a + c) l := by
  unfold shL
  rw [List.map_map]
  exact List.map_congr_left fun x _ => by simp only [Function.comp]; omega

theorem cheap_sh (t b d n left low : Nat) (hn : 1 ≤ n) (lst : List Nat) :
    lst ++ shL low (cheapL t b (d + 1) n left) = ((lst ++ [low + firstPL t b n left]) ++ shL low (cheapL t b d (firstPL t b n left - 1) (left - t - b))) ++ shL (low + firstPL t b n left) (cheapL t b d (n - firstPL t b n left) (left - t)) := by
  have e : cheapL t b (d + 1) n left = firstPL t b n left :: (cheapL t b d (firstPL t b n left - 1) (left - t - b) ++ shL (firstPL t b n left) (cheapL t b d (n - firstPL t b n left) (left - t))) := by
    show (if n = 0 then [] else _) = _
    rw [if_neg (by omega)]; rfl
  rw [e, ← shL_shL]
  simp only [shL, List.map_cons, List.map_append, List.append_assoc, List.cons_append, List.nil_append]
  rw [Nat.add_comm low]

theorem eq_no {a c : Nat} (h : a ≠ c) : eqF (.ofNat a) (.ofNat c) = false := by rw [eqF_eq]; exact beq_eq_false_iff_ne.2 fun e => h (Int.ofNat.inj e)

def PutOk (t b L d : Nat) : Prop := ∀ n low left lst, n ≤ d → 1 ≤ n → low + n ≤ L → priceV t b n ≤ left → left < 1000000 → lst ≠ [] → lst.length + n ≤ 1000 →
  Local Tryd.prog 6 78 (argsP low (low + n) left) (hp (Ol t b L lst)) (IsSlot 6 4 (lst ++ shL low (cheapL t b d n left)).length (litI (lst ++ shL low (cheapL t b d n left))) (some 3) (some 24) (hp (Ol t b L lst)))

theorem put_tail {t b L d n low left : Nat} (ht : t ≤ 50) (hb : b ≤ 50) (hL : L ≤ 12) (IH : PutOk t b L d) (hd : n ≤ d + 1) (hn1 : 1 ≤ n) (hlow : low + n ≤ L) (hmost : priceV t b n ≤ left) (hleft : left < 1000000) {C : List Nat} (hC : C ≠ []) (hlen : C.length + n ≤ 1001)
    {h0 : AH} (same : ∀ i, i < 6 → i ≠ 4 → (hp (Ol t b L C)).get i = h0.get i) {D : List Nat} (hD : D = (C ++ shL low (cheapL t b d (firstPL t b n left - 1) (left - t - b))) ++ shL (low + firstPL t b n left) (cheapL t b d (n - firstPL t b n left) (left - t))) :
    Runs Tryd.prog 6 (behind 4 c78) (sth (Sp low (low + n) left (low + firstPL t b n left)) 65 (Ol t b L C)) (EndsAs Tryd.prog Tryd.f78 (IsSlot 6 4 D.length (litI D) (some 3) (some 24) h0)) := by
  subst hD
  have hF := firstPL_le t b n left hn1
  have hok : t + costP b (priceV t b) n (firstPL t b n left) ≤ left := firstPL_ok hn1 hmost
  generalize firstPL t b n left = j at *
  have pA : b + priceV t b (j - 1) ≤ left - t := by unfold costP at hok; omega
  have pB : priceV t b (n - j) ≤ left - t := by unfold costP at hok; omega
  have hAlen : (cheapL t b d (j - 1) (left - t - b)).length = j - 1 := cheap_len t b d _ _ (by omega)
  refine put_first (d := d) (by omega) (by omega) hleft (by omega) hF.1 hF.2 hC (fun h => IH (j - 1) low (left - t - b) C (by omega) h (by omega) (by omega) (by omega) hC (by omega)) ?_
  have hC1 : C ++ shL low (cheapL t b d (j - 1) (left - t - b)) ≠ [] := fun e => hC (List.append_eq_nil_iff.1 e).1
  refine put_last (d := d) (by omega) hleft (by omega) hF.1 hF.2 hC1 (fun i hi hne => ?_) (fun h => ?_)
  · rw [← same i hi hne]
    exact five_at (by kernel_rfl) i hi hne
  · have := IH (n - j) (low + j) (left - t) _ (by omega) h (by omega) pB (by omega) hC1 (by rw [List.length_append, shL_len]; omega)
    rw [show low + j + (n - j) = low + n by omega] at this
    exact this

theorem put_bodyL {t b L d n low left : Nat} (ht : t ≤ 50) (hb : b ≤ 50) (hL : L ≤ 12) (IH : PutOk t b L d) (hd : n ≤ d + 1) (hn1 : 1 ≤ n) (hlow : low + n ≤ L) (hmost : priceV t b n ≤ left) (hleft : left < 1000000) {lst : List Nat} (hlst : lst ≠ []) (hlen : lst.length + n ≤ 1000) :
    Local Tryd.prog 6 78 (argsP low (low + n) left) (hp (Ol t b L lst)) (IsSlot 6 4 (lst ++ shL low (cheapL t b (d + 1) n left)).length (litI (lst ++ shL low (cheapL t b (d + 1) n left))) (some 3) (some 24) (hp (Ol t b L lst))) := by
  have hF := firstPL_le t b n left hn1
  refine local_of noNum Tryd.func78 (show Tryd.f78.body = some c78 by kernel_rfl) ?_
  refine Runs.sq (by kernel_rfl) (Runs.sqR mixed hk38 [viaV 2 (.bool false)] (by kernel_rfl) (by kernel_rfl) (by kernel_rfl) (oblC (shown_eq (v := .bool (eqF (.ofNat low) (.ofNat (low + n)))) (by kernel_rfl) (by kernel_rfl) (by rw [eq_no (by omega)])) oblN) ?_)
  refine Runs.cd (b := false) (by kernel_rfl) (fun h => by cases h) (fun _ => Runs.now (x := .normal) (by kernel_rfl) ?_)
  show Runs Tryd.prog 6 _ _ _
  refine Runs.sqR mixed hk38 [viaV 1 (i64 (low + 1))] (by kernel_rfl) (by kernel_rfl) (by kernel_rfl) (oblC (shown_eq (v := .int .i64 (wrapF .i64 (Int.add (.ofNat low) (.ofNat 1)))) (by kernel_rfl) (by kernel_rfl) (by rw [wrap_succ (by omega)]; rfl)) oblN) ?_
  refine Runs.sq (by kernel_rfl) (Runs.bk (id := 0) (by kernel_rfl) ?_)
  refine Runs.less (af1 := sth (Sp low (low + n) left (low + 1)) 65 (Ol t b L lst)) (less_seenP lsp l_clo lle (by kernel_rfl) (by kernel_rfl) (by kernel_rfl) (by kernel_rfl)) ?_
  refine (put_loopL lst L n t b low left hn1 (by omega) hL ht hb (by omega) hleft hmost (firstPL t b n left - 1) 1 (Nat.le_refl 1) (by omega)).mono fun x af hx => ?_
  obtain ⟨rfl, less⟩ := hx
  show Runs Tryd.prog 6 (behind 3 c78) af _
  refine Runs.less less ?_
  let j := firstPL t b n left
  let C := lst ++ [low + j]
  let H1 : AH := ((hp (Ol t b L lst)).new (rowL [low + j])).2
  have hap := app_u (h := H1) (i0 := 6) (j := 7) (A := lst) (B := [low + j]) (par := []) (lv2 := true) (par2 := []) (sp2 := none) (by simp) ⟨by omega, by simp⟩ (by kernel_rfl) (by kernel_rfl)
  refine Runs.sqR mixed hk38 [⟨3, .slice (some ⟨8, 0, some 1⟩) (lst.length + 1) (lst.length + 1), some ((H1.put 6 (.cells (litI lst) false [] (some 3))).new (.cells (litI lst ++ litI [low + j]) true [6] (some 3))).2, none⟩] (by kernel_rfl) (by kernel_rfl) (by kernel_rfl)
    (oblC ⟨by kernel_rfl, (show _ = appendA Tryd.prog #[24, 24] (.slice (some ⟨6, 0, some 1⟩) lst.length lst.length) (.slice (some ⟨7, 0, none⟩) 1 1) H1 by kernel_rfl).trans hap⟩ oblN) ?_
  have hC : C ≠ [] := by simp [C]
  have hClen : lst.length + 1 = C.length := by simp [C]
  refine put_next (t := t) (b := b) (L := L) (low := low) (high := low + n) (left := left) (l := low + j) (q := 8) (m := lst.length + 1) (C := C) hClen (by decide) (par := [6]) (fun j hj h => by rw [List.mem_singleton] at h; omega) (rows := litI lst ++ litI [low + j]) (by rw [litI_app]) (by kernel_rfl) (by kernel_rfl) (by kernel_rfl) (by kernel_rfl) (by kernel_rfl) ?_
  exact put_tail ht hb hL IH hd hn1 hlow hmost hleft hC (by rw [← hClen]; omega) (five_at (by kernel_rfl)) (cheap_sh t b d n left low hn1 lst)

theorem put_ok {t b L : Nat} (ht : t ≤ 50) (hb : b ≤ 50) (hL : L ≤ 12) : ∀ d, PutOk t b L d
  | 0 => fun n low left lst h h1 _ _ _ _ _ => by omega
  | d + 1 => fun n low left lst h h1 h2 h3 h4 h5 h6 => put_bodyL ht hb hL (put_ok ht hb hL d) h h1 h2 h3 h4 h5 h6

/-- The first call: nothing is put yet. -/
theorem put_start {t b L left : Nat} (ht : t ≤ 50) (hb : b ≤ 50) (hL : L ≤ 12) (hn1 : 1 ≤ L) (hmost : priceV t b L ≤ left) (hleft : left < 1000000) :
    Local Tryd.prog 6 78 (argsP 0 L left) (hp (On t b L)) (IsSlot 6 4 (cheapL t b L L left).length (litI (cheapL t b L L left)) (some 3) (some 24) (hp (On t b L))) := by
  obtain ⟨d, rfl⟩ : ∃ d, L = d + 1 := ⟨L - 1, by omega⟩
  generalize hn : d + 1 = n at *
  have e0 : cheapL t b n n left = [] ++ shL 0 (cheapL t b (d + 1) n left) := by rw [hn]; simp [shL]
  rw [e0]
  have hF := firstPL_le t b n left hn1
  refine local_of noNum Tryd.func78 (show Tryd.f78.body = some c78 by kernel_rfl) ?_
  refine Runs.sq (by kernel_rfl) (Runs.sqR mixed hk38 [viaV 2 (.bool false)] (by kernel_rfl) (by kernel_rfl) (by kernel_rfl) (oblC (shown_eq (v := .bool (eqF (.ofNat 0) (.ofNat n))) (by kernel_rfl) (by kernel_rfl) (by rw [eq_no (by omega)])) oblN) ?_)
  refine Runs.cd (b := false) (by kernel_rfl) (fun h => by cases h) (fun _ => Runs.now (x := .normal) (by kernel_rfl) ?_)
  show Runs Tryd.prog 6 _ _ _
  refine Runs.sqR mixed hk38 [] (by kernel_rfl) (by kernel_rfl) (by kernel_rfl) oblN ?_
  refine Runs.sq (by kernel_rfl) (Runs.bk (id := 0) (by kernel_rfl) ?_)
  refine Runs.less (af1 := sth (Sp 0 (0 + n) left (0 + 1)) 65 (On t b n)) (less_seenP nsp n_clo nle ?_ (by kernel_rfl) (by kernel_rfl) (by kernel_rfl)) ?_
  · rw [Nat.zero_add n]
    exact Eq.trans (Eq.refl _) (by kernel_rfl)
  refine (put_loopN n n t b 0 left hn1 (by omega) hL ht hb (by omega) hleft hmost (firstPL t b n left - 1) 1 (Nat.le_refl 1) (by omega)).mono fun x af hx => ?_
  obtain ⟨rfl, less⟩ := hx
  show Runs Tryd.prog 6 (behind 3 c78) af _
  refine Runs.less less ?_
  let j := firstPL t b n left
  refine Runs.sqR mixed hk38 [] (by kernel_rfl) (by kernel_rfl) (by kernel_rfl) oblN ?_
  refine put_next (t := t) (b := b) (L := n) (low := 0) (high := 0 + n) (left := left) (l := 0 + j) (q := 7) (m := 1) (C := [0 + j]) rfl (by decide) (par := []) (fun j hj h => by cases h) (rows := litI [0 + j]) rfl (by kernel_rfl) (by kernel_rfl) (by kernel_rfl) (by kernel_rfl) (by kernel_rfl) ?_
  exact put_tail ht hb hL (put_ok ht hb hL d) (by omega) hn1 (by omega) hmost hleft (by simp) (by simp; omega) (five_at (by kernel_rfl)) (cheap_sh t b d n left 0 hn1 [])
end
end Go.Proofs.YtgnkjmgkfibipaaDoor

/- TrialPrices: Cheap, in both texts. -/
namespace Go.Proofs.YtgnkjmgkfibipaaDoor
set_option linter.unusedVariables false
set_option linter.unusedSimpArgs false
open Go Go.R
set_option maxRecDepth 1000000
noncomputable section

def c24 : Code := bodyOf Tryd.f24
/-- A list and an error's number. -/
def NewListE (l : List Nat) (v' : Value) (h' : AH) : Prop := (l = [] ∧ v' = .tuple #[.slice none 0 0, i64 0]) ∨ (l ≠ [] ∧ ∃ i par, (v' = rowV i (litI l).length (some (i64 0)) ∨ v' = rowK i (litI l).length (some (i64 0))) ∧ h'.get i = .cells (litI l) true par (some 3))
def bestL (L t b : Nat) : List Nat := cheapL t b L L (priceV t b L)

theorem put_none (t b left : Nat) : Says Tryd.prog (hp (On t b 0)) 78 (argsP 0 0 left) (.tuple #[]) (hp (On t b 0)) := by
  refine says_of (os := On t b 0) ?_ (fun x hx => ?_) n_clo (clo_of 10 _ _ (by kernel_rfl))
  · show Local Tryd.prog 6 78 _ _ _
    refine local_of noNum Tryd.func78 (show Tryd.f78.body = some c78 by kernel_rfl) ?_
    refine Runs.sq (by kernel_rfl) (Runs.sqR mixed hk38 [] (by kernel_rfl) (by kernel_rfl) (by kernel_rfl) oblN ?_)
    refine Runs.cd (b := true) (by kernel_rfl) (fun _ => ?_) (fun h => by cases h)
    exact Runs.now (x := .ret) (by kernel_rfl) ⟨.inr rfl, [], by kernel_rfl, rfl, keepOf (by kernel_rfl)⟩
  · show Clo 6 x
    simp only [argsP, List.mem_cons, List.mem_nil_iff, or_false] at hx
    rcases hx with rfl | rfl | rfl | rfl | rfl | rfl | rfl | rfl <;> exact clo_of 10 6 _ (by kernel_rfl)

def Hp0 (t b L : Nat) (C : List Nat) : AH := (((hp (On t b L)).put 4 (.cells [rowA 6 C.length] true [] (some 24))).new (rowL C)).2

theorem put_whole {t b L left : Nat} {C : List Nat} (H : Local Tryd.prog 6 78 (argsP 0 L left) (hp (On t b L)) (IsSlot 6 4 C.length (litI C) (some 3) (some 24) (hp (On t b L)))) :
    Says Tryd.prog (hp (On t b L)) 78 (argsP 0 L left) (.tuple #[]) (Hp0 t b L C) := by
  have g : ∀ i, i < 6 → i ≠ 4 → (Hp0 t b L C).get i = (hp (On t b L)).get i := five_at (by kernel_rfl)
  refine slot_says (h := hp (On t b L)) (h1 := Hp0 t b L C) (slot := 4) (k := 6) (n := C.length) (cells := litI C) (ty := some 3) (tc := some 24) H (by decide) (show 6 ≤ 6 by decide) (fun i hi hne => ?_) ⟨6, 0, by kernel_rfl⟩ (fun i hi1 hi2 => ?_)
    (by kernel_rfl) g (by kernel_rfl) (fun i hi1 hi2 => ?_) (by kernel_rfl) (litI_plain C)
  · match i, hi, hne with
    | 0, _, _ => exact ⟨[i64 t], some 3, by kernel_rfl, (cells_clo (k := 6) (c := [i64 t]) (ty := none) (by kernel_rfl)).1⟩
    | 1, _, _ => exact ⟨[i64 b], some 3, by kernel_rfl, (cells_clo (k := 6) (c := [i64 b]) (ty := none) (by kernel_rfl)).1⟩
    | 2, _, _ => exact ⟨intsF (L + 1) (priceV t b), some 3, by kernel_rfl, fun v hv => clo_plain (intsF_plain _ _ v hv)⟩
    | 3, _, _ => exact ⟨[rowA 2 (L + 1)], some 24, by kernel_rfl, (cells_clo (k := 6) (c := [rowA 2 (L + 1)]) (ty := none) (by kernel_rfl)).1⟩
    | 4, _, hne => exact absurd rfl hne
    | 5, _, _ => exact ⟨[putV], some 83, by kernel_rfl, (cells_clo (k := 6) (c := [putV]) (ty := none) (by kernel_rfl)).1⟩
    | i + 6, hi, _ => omega
  · have hi2' : i < 6 := hi2
    omega
  · have hi2' : i < 6 := hi2
    omega

theorem best_len (L t b : Nat) : (bestL L t b).length = L := cheap_len t b L L _ (Nat.le_refl L)

def S24 (L p : Nat) : List (Nat × Value) := [(0, i64 L), (8, i64 p), (11, ptrV 4), (12, ptrV 5)]
theorem cheap_tail24 (L t b : Nat) (hL : L ≤ 12) (ht : t ≤ 50) (hb : b ≤ 50) : Runs Tryd.prog 0 (behind 7 c24) (sth (S24 L (priceV t b L)) 33 (On t b L)) (EndsAs Tryd.prog Tryd.f24 (NewListE (bestL L t b))) := by
  have hp' := price_small (n := L) ht hb (by omega)
  by_cases hz : L = 0
  · subst hz
    refine Runs.sqR mixed hk38 [viaC 3 78 (argsP 0 0 (priceV t b 0)) (.tuple #[])] (by kernel_rfl) (by kernel_rfl) (by kernel_rfl) (oblC (shown_callE (by kernel_rfl) (by kernel_rfl) (put_none t b _)) oblN) ?_
    refine Runs.sqR mixed hk38 [] (by kernel_rfl) (by kernel_rfl) (by kernel_rfl) oblN (Runs.now (x := .ret) (by kernel_rfl) ⟨.inr rfl, [.slice none 0 0, i64 0], by kernel_rfl, .inl ⟨rfl, rfl⟩⟩)
  · have hS := put_whole (put_start (t := t) (b := b) (L := L) (left := priceV t b L) ht hb hL (by omega) (Nat.le_refl _) hp')
    refine Runs.sqR mixed hk38 [viaH 3 78 (argsP 0 L (priceV t b L)) (.tuple #[]) (Hp0 t b L (bestL L t b))] (by kernel_rfl) (by kernel_rfl) (by kernel_rfl) (oblC (shown_callHE (by kernel_rfl) (by kernel_rfl) hS) oblN) ?_
    refine Runs.sqR mixed hk38 [] (by kernel_rfl) (by kernel_rfl) (by kernel_rfl) oblN (Runs.now (x := .ret) (by kernel_rfl) ⟨.inr rfl, [rowA 6 (bestL L t b).length, i64 0], by kernel_rfl, .inr ⟨fun e => hz ?_, 6, [], .inl ?_, by kernel_rfl⟩⟩)
    · rw [← best_len L t b, e]; rfl
    · rw [litI_len]; rfl

theorem price_nat {L t b : Nat} (hL : L ≤ 12) (ht : t ≤ 50) (hb : b ≤ 50) : priceAns (.ofNat L) (.ofNat t) (.ofNat b) = pairV (.ofNat (priceV t b L)) 0 := by
  have h : badP3 (.ofNat L) (.ofNat t) (.ofNat b) = false := by
    simp only [badP3, outB, ltF_eq, Bool.or_eq_false_iff, decide_eq_false_iff_not, Int.not_lt]
    refine ⟨⟨?_, ?_⟩, ⟨?_, ?_⟩, ⟨?_, ?_⟩⟩
    · show (0 : Int) ≤ (L : Int); omega
    · show (L : Int) ≤ (12 : Int); omega
    · show (0 : Int) ≤ (t : Int); omega
    · show (t : Int) ≤ (50 : Int); omega
    · show (0 : Int) ≤ (b : Int); omega
    · show (b : Int) ≤ (50 : Int); omega
  unfold priceAns; rw [h]; rfl

theorem cheap_good (L t b : Nat) (hL : L ≤ 12) (ht : t ≤ 50) (hb : b ≤ 50) : Local Tryd.prog 0 24 [i64 L, i64 t, i64 b] AH.empty (NewListE (bestL L t b)) := by
  refine local_of noNum Tryd.func24 (show Tryd.f24.body = some c24 by kernel_rfl) ?_
  refine Runs.sqR mixed hk38 [] (by kernel_rfl) (by kernel_rfl) (by kernel_rfl) oblN ?_
  let h2 : AH := hp [.cells [i64 t] true [] (some 3), .cells [i64 b] true [] (some 3)]
  have hS := price_says (.ofNat L) (.ofNat t) (.ofNat b) h2
  rw [price_nat hL ht hb] at hS
  refine Runs.sqR mixed hk38 [viaC 3 22 [i64 L, i64 t, i64 b] (pairV (.ofNat (priceV t b L)) 0)] (by kernel_rfl) (by kernel_rfl) (by kernel_rfl) (oblC (shown_callE (by kernel_rfl) (by kernel_rfl) hS) oblN) ?_
  refine Runs.sq (by kernel_rfl) (Runs.sq (by kernel_rfl) (Runs.rg mixed hk38 [] (by kernel_rfl) (by kernel_rfl) (by kernel_rfl) oblN ?_))
  refine Runs.cd (b := false) (by kernel_rfl) (fun h => by cases h) (fun _ => Runs.now (x := .normal) (by kernel_rfl) ?_)
  show Runs Tryd.prog 0 _ _ _
  have hS2 : Says Tryd.prog h2 75 [i64 L, i64 t, i64 b] (.slice (some ⟨2, 0, some 1⟩) (L + 1) (L + 1)) (h2.new (rowI (L + 1) (priceV t b))).2 := new_says (prices_local L t b ht hb hL) three_plain h2
  refine Runs.sqR mixed hk38 [viaH 3 75 [i64 L, i64 t, i64 b] (.slice (some ⟨2, 0, some 1⟩) (L + 1) (L + 1)) (h2.new (rowI (L + 1) (priceV t b))).2] (by kernel_rfl) (by kernel_rfl) (by kernel_rfl) (oblC (shown_callHE (by kernel_rfl) (by kernel_rfl) hS2) oblN) ?_
  refine Runs.sqR mixed hk38 [] (by kernel_rfl) (by kernel_rfl) (by kernel_rfl) oblN ?_
  refine Runs.sqR mixed hk38 [] (by kernel_rfl) (by kernel_rfl) (by kernel_rfl) oblN ?_
  refine Runs.sqR mixed hk38 [] (by kernel_rfl) (by kernel_rfl) (by kernel_rfl) oblN ?_
  refine Runs.less (af1 := sth (S24 L (priceV t b L)) 33 (On t b L)) (less_seenP (clo_all (k := 6) (by kernel_rfl)) n_clo (Nat.zero_le _) (by kernel_rfl) (by kernel_rfl) (by kernel_rfl) (by kernel_rfl)) ?_
  exact cheap_tail24 L t b hL ht hb

/-! ### The reference's -/
end
end Go.Proofs.YtgnkjmgkfibipaaDoor

/- TrialPrices: the law's walk. -/
namespace Go.Proofs.YtgnkjmgkfibipaaDoor
set_option linter.unusedVariables false
set_option linter.unusedSimpArgs false
open Go Go.R
set_option maxRecDepth 1000000
noncomputable section

theorem nilE_says {fid : FuncId} {args : List Value} {l : List Nat} (hl : l = []) (L : Local Tryd.prog 0 fid args AH.empty (NewListE l)) (pa : ∀ x ∈ args, plainV x = true) (h : AH) : Says Tryd.prog h fid args (.tuple #[.slice none 0 0, i64 0]) h := by
  intro F w0 μ w args' H hl2
  have L2 : Local Tryd.prog 0 fid args AH.empty fun v' _ => v' = .tuple #[.slice none 0 0, i64 0] := fun F w0 μ w args' H hl2 => (L F w0 μ w args' H hl2).mono fun v' w' ⟨u, h', r, q⟩ => by
    refine ⟨u, h', ?_, q⟩
    rcases r with ⟨_, r⟩ | ⟨hne, _⟩
    · exact r
    · exact absurd hl hne
  exact L2.closed pa rfl h H hl2

theorem listE_says {fid : FuncId} {args : List Value} {l : List Nat} (hl : l ≠ []) (L : Local Tryd.prog 0 fid args AH.empty (NewListE l)) (pa : ∀ x ∈ args, plainV x = true) (h : AH) : Says Tryd.prog h fid args (.tuple #[.slice (some ⟨h.next, 0, some 1⟩) l.length l.length, i64 0]) (h.new (rowL l)).2 := by
  intro F w0 μ w args' H hl2
  have L2 : Local Tryd.prog 0 fid args AH.empty fun v' h' => ∃ i par, (v' = rowV i (litI l).length (some (i64 0)) ∨ v' = rowK i (litI l).length (some (i64 0))) ∧ h'.get i = .cells (litI l) true par (some 3) := fun F w0 μ w args' H hl2 => (L F w0 μ w args' H hl2).mono fun v' w' ⟨u, h', r, q⟩ => by
    refine ⟨u, h', ?_, q⟩
    rcases r with ⟨e, _⟩ | ⟨_, r⟩
    · exact absurd e hl
    · exact r
  have := fresh_ok (cells := litI l) (ty := some 3) (e := some (i64 0)) L2 pa (litI_plain l) (fun v hv => by cases hv; rfl) h H hl2
  rw [show rowV h.next (litI l).length (some (i64 0)) = .tuple #[.slice (some ⟨h.next, 0, some 1⟩) l.length l.length, i64 0] by rw [litI_len]; rfl] at this
  exact this

end
end Go.Proofs.YtgnkjmgkfibipaaDoor

/- TrialPriced: the plain law: the least price of all plans, and the first plan of that price. -/
namespace Go.Proofs.YtgnkjmgkfibipaaDoor
set_option linter.unusedVariables false
set_option linter.unusedSimpArgs false
open Go Go.R
noncomputable section

/-! ### What a plan costs for a hardness -/
def cst (t b : Nat) : List Nat → Nat → Nat → Nat → Nat
  | [], _, _, _ => 0
  | x :: l, hd, lo, hi => if lo < x ∧ x ≤ hi then (if hd < x then t + b + cst t b l hd lo (x - 1) else t + cst t b l hd x hi) else cst t b l hd lo hi
def costW (t b hd : Nat) (w : List Int) : Nat := t * w.length + b * bluntN hd w

theorem cst_fol (t b : Nat) (L : List Nat) (hd : Nat) : ∀ d i lo hi : Nat, i + d = L.length → costW t b hd (folF (fL L) (.ofNat hd) d i (.ofNat lo) (.ofNat hi)) = cst t b (L.drop i) hd lo hi := by
  intro d
  induction d with
  | zero =>
    intro i lo hi h
    rw [List.drop_of_length_le (by omega)]
    rfl
  | succ d ih =>
    intro i lo hi h
    have hi' : i < L.length := by omega
    rw [List.drop_eq_getElem_cons hi']
    have ef : fL L i = .ofNat L[i] := fL_at hi'
    generalize hx : L[i] = x at ef
    rw [cst]
    by_cases hc : lo < x ∧ x ≤ hi
    · rw [if_pos hc]
      have hr : (leF (fL L i) (.ofNat lo) || ltF (.ofNat hi) (fL L i)) = false := by
        rw [ef, Bool.or_eq_false_iff]
        exact ⟨by rw [leF_eq, decide_eq_false_iff_not]; show ¬ ((x : Nat) : Int) ≤ ((lo : Nat) : Int); omega, ltF_not.2 (show ((x : Nat) : Int) ≤ ((hi : Nat) : Int) by omega)⟩
      by_cases hb : hd < x
      · have hb' : ltF (.ofNat hd) (fL L i) = true := by rw [ef]; exact lt_of hb
        rw [folF_blunt hr hb', if_pos hb]
        have := ih (i + 1) lo (x - 1) (by omega)
        have e1 : fL L i - 1 = .ofNat (x - 1) := by rw [ef]; show ((x : Nat) : Int) - 1 = ((x - 1 : Nat) : Int); omega
        rw [e1, ← this]
        unfold costW bluntN
        rw [List.length_cons, List.filter_cons, if_pos hb', List.length_cons, Nat.mul_succ, Nat.mul_succ]
        omega
      · have hb' : ltF (.ofNat hd) (fL L i) = false := by rw [ef]; exact ltF_not.2 (show ((x : Nat) : Int) ≤ ((hd : Nat) : Int) by omega)
        rw [folF_sharp hr hb', if_neg hb]
        have := ih (i + 1) x hi (by omega)
        rw [ef] at hb' ⊢
        rw [← this]
        unfold costW bluntN
        rw [List.length_cons, List.filter_cons, if_neg (by rw [hb']; simp), Nat.mul_succ]
        omega
    · rw [if_neg hc]
      have hr : (leF (fL L i) (.ofNat lo) || ltF (.ofNat hi) (fL L i)) = true := by
        rw [ef, Bool.or_eq_true]
        by_cases h : lo < x
        · exact .inr (lt_of (by omega))
        · exact .inl (by rw [leF_eq, decide_eq_true_eq]; show ((x : Nat) : Int) ≤ ((lo : Nat) : Int); omega)
      rw [folF_skip hr]
      exact ih (i + 1) lo hi (by omega)

theorem cst_none (t b : Nat) : ∀ (c : List Nat) (hd lo hi : Nat), (∀ y ∈ c, hi < y) → cst t b c hd lo hi = 0
  | [], hd, lo, hi, h => rfl
  | x :: c, hd, lo, hi, h => by
    have := h x List.mem_cons_self
    rw [cst, if_neg (by omega)]
    exact cst_none t b c hd lo hi fun y hy => h y (List.mem_cons_of_mem _ hy)
theorem cst_left (t b : Nat) {c : List Nat} : ∀ (a : List Nat) (hd lo hi : Nat), (∀ y ∈ c, hi < y) → cst t b (a ++ c) hd lo hi = cst t b a hd lo hi
  | [], hd, lo, hi, h => cst_none t b c hd lo hi h
  | x :: a, hd, lo, hi, h => by
    rw [List.cons_append, cst, cst]
    by_cases hc : lo < x ∧ x ≤ hi
    · rw [if_pos hc, if_pos hc, cst_left t b a hd lo (x - 1) fun y hy => by have := h y hy; omega, cst_left t b a hd x hi h]
    · rw [if_neg hc, if_neg hc, cst_left t b a hd lo hi h]
theorem cst_right (t b : Nat) {c : List Nat} : ∀ (a : List Nat) (hd lo hi : Nat), (∀ y ∈ a, y ≤ lo) → cst t b (a ++ c) hd lo hi = cst t b c hd lo hi
  | [], hd, lo, hi, h => rfl
  | x :: a, hd, lo, hi, h => by
    have := h x List.mem_cons_self
    rw [List.cons_append, cst, if_neg (by omega)]
    exact cst_right t b a hd lo hi fun y hy => h y (List.mem_cons_of_mem _ hy)

/-! ### Its price -/
def topTo (g : Nat → Nat) : Nat → Nat
  | 0 => 0
  | m + 1 => max (topTo g m) (g m)
theorem topTo_le (g : Nat → Nat) (s m : Nat) : ∀ k, topTo g (k + 1) + s ≤ m ↔ ∀ h, h ≤ k → g h + s ≤ m
  | 0 => by
    rw [topTo, topTo, Nat.zero_max]
    exact ⟨fun h k hk => by rw [show k = 0 by omega]; exact h, fun h => h 0 (Nat.le_refl 0)⟩
  | k + 1 => by
    have ih := topTo_le g s m k
    rw [topTo]
    constructor
    · intro h j hj
      by_cases e : j = k + 1
      · rw [e]; omega
      · exact ih.1 (by omega) j (by omega)
    · intro h
      have h1 := ih.2 fun j hj => h j (by omega)
      have h2 := h (k + 1) (Nat.le_refl _)
      omega
def prc (t b : Nat) (l : List Nat) (low n : Nat) : Nat := topTo (fun h => cst t b l (low + h) low (low + n)) (n + 1)

theorem prc_node {t b low i j : Nat} {a c : List Nat} (A : Good low i a) (C : Good (low + 1 + i) j c) (m : Nat) :
    prc t b ((low + 1 + i) :: (a ++ c)) low (i + j + 1) ≤ m ↔ prc t b a low i + (t + b) ≤ m ∧ prc t b c (low + 1 + i) j + t ≤ m := by
  have e1 : ∀ h, h ≤ i → cst t b ((low + 1 + i) :: (a ++ c)) (low + h) low (low + (i + j + 1)) = t + b + cst t b a (low + h) low (low + i) := fun h hh => by
    rw [cst, if_pos (by omega), if_pos (by omega), show low + 1 + i - 1 = low + i by omega, cst_left t b a _ _ _ fun y hy => by have := C.lo y hy; omega]
  have e2 : ∀ h, h ≤ j → cst t b ((low + 1 + i) :: (a ++ c)) (low + (i + 1 + h)) low (low + (i + j + 1)) = t + cst t b c (low + 1 + i + h) (low + 1 + i) (low + 1 + i + j) := fun h hh => by
    rw [cst, if_pos (by omega), if_neg (by omega), cst_right t b a _ _ _ fun y hy => by have := A.hi y hy; omega, show low + (i + 1 + h) = low + 1 + i + h by omega, show low + (i + j + 1) = low + 1 + i + j by omega]
  have h0 := topTo_le (fun h => cst t b ((low + 1 + i) :: (a ++ c)) (low + h) low (low + (i + j + 1))) 0 m (i + j + 1)
  have h1 := topTo_le (fun h => cst t b a (low + h) low (low + i)) (t + b) m i
  have h2 := topTo_le (fun h => cst t b c (low + 1 + i + h) (low + 1 + i) (low + 1 + i + j)) t m j
  rw [Nat.add_zero] at h0
  unfold prc
  rw [h0, h1, h2]
  constructor
  · intro h
    refine ⟨fun k hk => ?_, fun k hk => ?_⟩
    · have := h k (by omega)
      rw [e1 k hk] at this
      omega
    · have := h (i + 1 + k) (by omega)
      rw [e2 k hk] at this
      omega
  · intro h k hk
    by_cases hki : k ≤ i
    · have := h.1 k hki
      rw [e1 k hki]
      omega
    · have := h.2 (k - (i + 1)) (by omega)
      have e3 := e2 (k - (i + 1)) (by omega)
      rw [show i + 1 + (k - (i + 1)) = k by omega] at e3
      rw [e3]
      omega

/-! ### The first plan of no more than a price -/
def plansL (f low n : Nat) : List (List Nat) := (plansF f low n).map Prod.fst
theorem plansL_zero (f low : Nat) : plansL (f + 1) low 0 = [[]] := rfl
theorem plansL_succ (f low n : Nat) : plansL (f + 1) low (n + 1) = (List.range (n + 1)).flatMap fun i => (plansL f low i).flatMap fun a => (plansL f (low + 1 + i) (n - i)).map fun c => (low + 1 + i) :: (a ++ c) := by
  unfold plansL
  rw [plansF, List.map_flatMap]
  congr 1
  funext i
  rw [List.map_flatMap, List.flatMap_map]
  congr 1
  funext a
  rw [List.map_map, List.map_map]
  rfl
theorem goodL {f low n : Nat} {l : List Nat} (h : l ∈ plansL f low n) : Good low n l := by
  obtain ⟨p, hp, rfl⟩ := List.mem_map.1 h
  exact good_of hp

theorem some_congr {α β : Type} {g k : α → Option β} : ∀ {l : List α}, (∀ x ∈ l, g x = k x) → l.findSome? g = l.findSome? k
  | [], _ => rfl
  | x :: l, h => by rw [List.findSome?_cons, List.findSome?_cons, h x List.mem_cons_self, some_congr fun y hy => h y (List.mem_cons_of_mem _ hy)]
theorem find_congr {α : Type} {g k : α → Bool} : ∀ {l : List α}, (∀ x ∈ l, g x = k x) → l.find? g = l.find? k
  | [], _ => rfl
  | x :: l, h => by rw [List.find?_cons, List.find?_cons, h x List.mem_cons_self, find_congr fun y hy => h y (List.mem_cons_of_mem _ hy)]
theorem some_if {α β : Type} {p : α → Bool} {F : α → β} : ∀ l : List α, l.findSome? (fun a => bif p a then some (F a) else none) = (l.find? p).map F
  | [] => rfl
  | x :: l => by
    rw [List.findSome?_cons, List.find?_cons]
    cases p x with
    | true => rfl
    | false => exact some_if l

def okP (t b low n most : Nat) (l : List Nat) : Bool := Nat.ble (prc t b l low n) most
theorem ble_iff {a b : Nat} : Nat.ble a b = true ↔ a ≤ b := ⟨Nat.le_of_ble_eq_true, Nat.ble_eq_true_of_le⟩
theorem ble_no {a b : Nat} : Nat.ble a b = false ↔ b < a := by
  rw [← Bool.not_eq_true, ble_iff]
  omega

theorem shL_zero' (l : List Nat) : shL 0 l = l := by unfold shL; simp

theorem find_plan (t b : Nat) : ∀ (f low n most : Nat), n < f → (plansL f low n).find? (okP t b low n most) = bif Nat.ble (priceV t b n) most then some (shL low (cheapL t b f n most)) else none
  | 0, low, n, most, h => absurd h (Nat.not_lt_zero n)
  | f + 1, low, 0, most, h => by
    have e : okP t b low 0 most [] = true := ble_iff.2 (by unfold prc; rw [topTo, topTo, Nat.zero_max, cst]; exact Nat.zero_le _)
    rw [plansL_zero, List.find?_cons, e, show Nat.ble (priceV t b 0) most = true from ble_iff.2 (by rw [priceV_zero]; exact Nat.zero_le _)]
    rfl
  | f + 1, low, n + 1, most, h => by
    rw [plansL_succ, List.find?_flatMap]
    have inner : ∀ i, i < n + 1 → ∀ a ∈ plansL f low i, ((plansL f (low + 1 + i) (n - i)).map fun c => (low + 1 + i) :: (a ++ c)).find? (okP t b low (n + 1) most) =
        bif Nat.ble (prc t b a low i) (most - t - b) && (Nat.ble (t + b) most && Nat.ble (priceV t b (n - i)) (most - t)) then some ((low + 1 + i) :: (a ++ shL (low + 1 + i) (cheapL t b f (n - i) (most - t)))) else none := by
      intro i hi a ha
      have node : ∀ c ∈ plansL f (low + 1 + i) (n - i), okP t b low (n + 1) most ((low + 1 + i) :: (a ++ c)) = (Nat.ble (prc t b a low i + (t + b)) most && Nat.ble (prc t b c (low + 1 + i) (n - i) + t) most) := fun c hc => by
        have := prc_node (t := t) (b := b) (goodL ha) (goodL hc) most
        rw [show i + (n - i) + 1 = n + 1 by omega] at this
        unfold okP
        rw [Bool.eq_iff_iff, Bool.and_eq_true, ble_iff, ble_iff, ble_iff]
        exact this
      rw [List.find?_map]
      cases hA : Nat.ble (prc t b a low i + (t + b)) most with
      | false =>
        have hA' := ble_no.1 hA
        have hz : (Nat.ble (prc t b a low i) (most - t - b) && (Nat.ble (t + b) most && Nat.ble (priceV t b (n - i)) (most - t))) = false := by
          cases h1 : Nat.ble (t + b) most with
          | false => simp
          | true =>
            have := ble_iff.1 h1
            rw [show Nat.ble (prc t b a low i) (most - t - b) = false from ble_no.2 (by omega)]
            rfl
        rw [hz, find_congr (k := fun _ => false) fun c hc => by show okP _ _ _ _ _ ((low + 1 + i) :: (a ++ c)) = false; rw [node c hc, hA]; rfl]
        rw [List.find?_eq_none.2 (by simp)]
        rfl
      | true =>
        have hA' := ble_iff.1 hA
        rw [show Nat.ble (prc t b a low i) (most - t - b) = true from ble_iff.2 (by omega), show Nat.ble (t + b) most = true from ble_iff.2 (by omega), Bool.true_and, Bool.true_and]
        rw [find_congr (k := okP t b (low + 1 + i) (n - i) (most - t)) fun c hc => by
          show okP _ _ _ _ _ ((low + 1 + i) :: (a ++ c)) = _
          rw [node c hc, hA, Bool.true_and]
          unfold okP
          rw [Bool.eq_iff_iff, ble_iff, ble_iff]
          omega]
        rw [find_plan t b f (low + 1 + i) (n - i) (most - t) (by omega)]
        cases Nat.ble (priceV t b (n - i)) (most - t) <;> rfl
    have mid : ∀ i ∈ List.range (n + 1), ((plansL f low i).flatMap fun a => (plansL f (low + 1 + i) (n - i)).map fun c => (low + 1 + i) :: (a ++ c)).find? (okP t b low (n + 1) most) =
        bif okAt t b (n + 1) most (i + 1) then some ((low + 1 + i) :: (shL low (cheapL t b f i (most - t - b)) ++ shL (low + 1 + i) (cheapL t b f (n - i) (most - t)))) else none := by
      intro i hi
      have hi := List.mem_range.1 hi
      rw [List.find?_flatMap, some_congr (inner i hi), some_if (p := fun a => Nat.ble (prc t b a low i) (most - t - b) && (Nat.ble (t + b) most && Nat.ble (priceV t b (n - i)) (most - t))) (F := fun a => (low + 1 + i) :: (a ++ shL (low + 1 + i) (cheapL t b f (n - i) (most - t))))]
      have ok : okAt t b (n + 1) most (i + 1) = (Nat.ble (priceV t b i) (most - t - b) && (Nat.ble (t + b) most && Nat.ble (priceV t b (n - i)) (most - t))) := by
        unfold okAt costP
        rw [show i + 1 - 1 = i by omega, show n + 1 - (i + 1) = n - i by omega, Bool.eq_iff_iff, Bool.and_eq_true, Bool.and_eq_true, ble_iff, ble_iff, ble_iff, ble_iff]
        omega
      rw [ok]
      cases Nat.ble (t + b) most && Nat.ble (priceV t b (n - i)) (most - t) with
      | false =>
        rw [List.find?_eq_none.2 (by simp), Bool.and_false]
        rfl
      | true =>
        rw [Bool.and_true, find_congr (k := okP t b low i (most - t - b)) fun a _ => by rw [Bool.and_true]; rfl, find_plan t b f low i (most - t - b) (by omega)]
        cases Nat.ble (priceV t b i) (most - t - b) <;> rfl
    rw [some_congr mid, some_if (p := fun i => okAt t b (n + 1) most (i + 1)) (F := fun i => (low + 1 + i) :: (shL low (cheapL t b f i (most - t - b)) ++ shL (low + 1 + i) (cheapL t b f (n - i) (most - t))))]
    cases hp : Nat.ble (priceV t b (n + 1)) most with
    | false =>
      have hp' := ble_no.1 hp
      rw [List.find?_eq_none.2]
      · rfl
      · intro i hi hok
        have hi := List.mem_range.1 hi
        have h1 := ble_iff.1 hok
        have h2 := (best_least (b := b) (n := n + 1) (v := priceV t b) (by omega) fun i j a c => price_mono t b n i j a (by omega)).1 (i + 1) (by omega) (by omega)
        rw [priceV_succ] at hp'
        omega
    | true =>
      have hp' := ble_iff.1 hp
      have hl := firstPL_le t b (n + 1) most (by omega)
      have hf : (List.range (n + 1)).find? (fun i => okAt t b (n + 1) most (i + 1)) = some (firstPL t b (n + 1) most - 1) := by
        rw [List.find?_range_eq_some]
        refine ⟨?_, List.mem_range.2 (by omega), fun j hj => ?_⟩
        · rw [show firstPL t b (n + 1) most - 1 + 1 = firstPL t b (n + 1) most by omega]
          exact ble_iff.2 (firstPL_ok (by omega) hp')
        · have := firstPL_before (t := t) (b := b) (n := n + 1) (most := most) (l := j + 1) (by omega) (by omega) (by omega)
          rw [Bool.not_eq_true']
          exact ble_no.2 this
      rw [hf]
      generalize hL : firstPL t b (n + 1) most = L at hl
      have e : cheapL t b (f + 1) (n + 1) most = L :: (cheapL t b f (L - 1) (most - t - b) ++ shL L (cheapL t b f (n + 1 - L) (most - t))) := by
        rw [cheapL, if_neg (by omega), hL]
        rfl
      rw [e]
      show some ((low + 1 + (L - 1)) :: (shL low (cheapL t b f (L - 1) (most - t - b)) ++ shL (low + 1 + (L - 1)) (cheapL t b f (n - (L - 1)) (most - t)))) = some (shL low (L :: (cheapL t b f (L - 1) (most - t - b) ++ shL L (cheapL t b f (n + 1 - L) (most - t)))))
      rw [show n - (L - 1) = n + 1 - L by omega, show low + 1 + (L - 1) = low + L by omega]
      unfold shL
      rw [List.map_cons, List.map_append, List.map_map]
      congr 2
      · omega
      · congr 1
        refine List.map_congr_left fun x _ => ?_
        show x + (low + L) = x + L + low
        omega
end
end Go.Proofs.YtgnkjmgkfibipaaDoor

/- TrialPriced: the plain law: what the function has after all plans; prices against one another. -/
namespace Go.Proofs.YtgnkjmgkfibipaaDoor
set_option linter.unusedVariables false
set_option linter.unusedSimpArgs false
open Go Go.R
set_option maxRecDepth 1000000
noncomputable section

structure PcS where
  least : Int
  first : List Nat
def prN (t b n : Nat) (l : List Nat) : Nat := topTo (fun h => costW t b h (outN l h)) (n + 1)
def pcStep (t b n : Nat) (s : PcS) (l : List Nat) (u d : Nat) : PcS := bif ltF s.least 0 || ltF (.ofNat (prN t b n l)) s.least then ⟨.ofNat (prN t b n l), l⟩ else s
def pcZero : PcS := ⟨.negSucc 0, []⟩
def pcE (t b n : Nat) : PcS := ⟨.ofNat (priceV t b n), bestL n t b⟩

theorem topTo_congr {g k : Nat → Nat} (h : ∀ m, g m = k m) : ∀ m, topTo g m = topTo k m
  | 0 => rfl
  | m + 1 => by rw [topTo, topTo, topTo_congr h m, h m]
theorem prN_eq {t b n : Nat} {l : List Nat} (G : Good 0 n l) : prN t b n l = prc t b l 0 n := by
  unfold prN prc
  refine topTo_congr (fun h => ?_) _
  have := cst_fol t b l h n 0 0 n (by rw [G.len]; omega)
  rw [outN_run G, Nat.zero_add, Nat.zero_add]
  exact this

theorem pc_stay {t b n : Nat} : ∀ (L : List (List Nat)) (q : Nat) (x0 : List Nat), (∀ x ∈ L, q ≤ prN t b n x) → L.foldl (fun s l => pcStep t b n s l 0 0) ⟨.ofNat q, x0⟩ = ⟨.ofNat q, x0⟩
  | [], q, x0, _ => rfl
  | x :: L, q, x0, h => by
    have h1 := h x List.mem_cons_self
    have e : pcStep t b n ⟨.ofNat q, x0⟩ x 0 0 = ⟨.ofNat q, x0⟩ := by
      unfold pcStep
      have e1 : ltF (.ofNat q) 0 = false := ltF_not.2 (show (0 : Int) ≤ (q : Int) by omega)
      have e2 : ltF (.ofNat (prN t b n x)) (.ofNat q) = false := ltF_not.2 (show (q : Int) ≤ ((prN t b n x : Nat) : Int) by omega)
      simp only [e1, e2]
      rfl
    rw [List.foldl_cons, e]
    exact pc_stay L q x0 fun y hy => h y (List.mem_cons_of_mem _ hy)

theorem pc_fold {t b n m : Nat} {x : List Nat} : ∀ (L : List (List Nat)) (s : PcS), (s.least = .negSucc 0 ∨ ∃ q, s.least = .ofNat q ∧ m < q) → (∀ y ∈ L, m ≤ prN t b n y) → L.find? (fun y => Nat.ble (prN t b n y) m) = some x →
    L.foldl (fun s l => pcStep t b n s l 0 0) s = ⟨.ofNat m, x⟩
  | [], s, _, _, h => by cases h
  | y :: L, s, hs, hm, h => by
    have hy := hm y List.mem_cons_self
    have hL : ∀ z ∈ L, m ≤ prN t b n z := fun z hz => hm z (List.mem_cons_of_mem _ hz)
    rw [List.find?_cons] at h
    rw [List.foldl_cons]
    cases hb : Nat.ble (prN t b n y) m with
    | true =>
      rw [hb] at h
      obtain rfl : y = x := Option.some.inj h
      have e := ble_iff.1 hb
      have e' : prN t b n y = m := by omega
      have : pcStep t b n s y 0 0 = ⟨.ofNat m, y⟩ := by
        unfold pcStep
        rw [e']
        rcases hs with hs | ⟨q, hs, hq⟩
        · rw [hs]; rfl
        · have : ltF (.ofNat m) (.ofNat q) = true := lt_of hq
          rw [hs, this, Bool.or_true]
          rfl
      rw [this]
      exact pc_stay L m y hL
    | false =>
      rw [hb] at h
      have e := ble_no.1 hb
      refine pc_fold L _ ?_ hL h
      unfold pcStep
      cases hc : ltF s.least 0 || ltF (.ofNat (prN t b n y)) s.least with
      | true => exact .inr ⟨_, rfl, e⟩
      | false => exact hs

theorem cheap_fuel (t b : Nat) : ∀ (d n most : Nat), n ≤ d → cheapL t b (d + 1) n most = cheapL t b d n most
  | 0, n, most, h => by
    have : n = 0 := by omega
    subst this; rfl
  | d + 1, n, most, h => by
    by_cases hn : n = 0
    · subst hn; rfl
    · have hl := firstPL_le t b n most (by omega)
      have e : ∀ d, cheapL t b (d + 1) n most = firstPL t b n most :: (cheapL t b d (firstPL t b n most - 1) (most - t - b) ++ (cheapL t b d (n - firstPL t b n most) (most - t)).map (· + firstPL t b n most)) := fun d => by rw [cheapL, if_neg hn]
      rw [e (d + 1), e d, cheap_fuel t b d _ _ (by omega), cheap_fuel t b d _ _ (by omega)]
theorem cheap_any (t b : Nat) {n most : Nat} : ∀ k, cheapL t b (n + k) n most = cheapL t b n n most
  | 0 => rfl
  | k + 1 => by rw [← Nat.add_assoc, cheap_fuel t b (n + k) n most (by omega), cheap_any t b k]

theorem pc_all {t b n f : Nat} (hn : n < f) : foldP (pcStep t b n) pcZero (plansF f 0 n) = pcE t b n := by
  have e : foldP (pcStep t b n) pcZero (plansF f 0 n) = (plansL f 0 n).foldl (fun s l => pcStep t b n s l 0 0) pcZero := by
    unfold foldP plansL
    rw [List.foldl_map]
    rfl
  rw [e]
  have ok : ∀ most, ∀ y ∈ plansL f 0 n, Nat.ble (prN t b n y) most = okP t b 0 n most y := fun most y hy => by rw [prN_eq (goodL hy)]; rfl
  refine pc_fold _ _ (.inl rfl) (fun y hy => ?_) ?_
  · rcases Nat.lt_or_ge (prN t b n y) (priceV t b n) with h | h
    · exfalso
      have h1 := find_plan t b f 0 n (prN t b n y) hn
      rw [ble_no.2 h] at h1
      have h2 := List.find?_eq_none.1 h1 y hy
      rw [← ok _ y hy, ble_iff.2 (Nat.le_refl _)] at h2
      exact h2 rfl
    · exact h
  · rw [find_congr (ok (priceV t b n)), find_plan t b f 0 n _ hn, ble_iff.2 (Nat.le_refl _)]
    obtain ⟨k, rfl⟩ : ∃ k, f = n + k := ⟨f - n, by omega⟩
    rw [cheap_any, shL_zero']
    rfl

/-! ### Prices against one another -/
theorem price_up {t t' b b' : Nat} (ht : t ≤ t') (hb : b ≤ b') : ∀ n, (∀ i, i ≤ n → priceV t b i ≤ priceV t' b' i)
  | 0, i, h => by have : i = 0 := by omega
                  subst this; exact Nat.le_refl _
  | n + 1, i, h => by
    have ih := price_up ht hb n
    by_cases hi : i ≤ n
    · exact ih i hi
    · have : i = n + 1 := by omega
      subst this
      obtain ⟨l, h1, h2, e⟩ := least_at t' b' n
      have lo := (best_least (b := b) (n := n + 1) (v := priceV t b) (by omega) fun i j a c => price_mono t b n i j a (by omega)).1 l h1 h2
      have a1 := ih (l - 1) (by omega)
      have a2 := ih (n + 1 - l) (by omega)
      rw [← e, priceV_succ]
      unfold costP at lo ⊢
      omega

theorem price_next (t b n : Nat) : priceV t b (n + 1) ≤ priceV t b n + t + b := by
  have lo := (best_least (b := b) (n := n + 1) (v := priceV t b) (by omega) fun i j a c => price_mono t b n i j a (by omega)).1 (n + 1) (by omega) (Nat.le_refl _)
  rw [priceV_succ]
  unfold costP at lo
  rw [Nat.sub_self, priceV_zero, show n + 1 - 1 = n by omega] at lo
  omega

theorem price_free (t : Nat) : ∀ n, (∀ i, i ≤ n → priceV t 0 i = t * priceV 1 0 i)
  | 0, i, h => by have : i = 0 := by omega
                  subst this; rw [priceV_zero, priceV_zero, Nat.mul_zero]
  | n + 1, i, h => by
    have ih := price_free t n
    by_cases hi : i ≤ n
    · exact ih i hi
    · have : i = n + 1 := by omega
      subst this
      have lo : ∀ t, ∀ l, 1 ≤ l → l ≤ n + 1 → priceV t 0 (n + 1) ≤ t + costP 0 (priceV t 0) (n + 1) l := fun t l h1 h2 => by
        have := (best_least (b := 0) (n := n + 1) (v := priceV t 0) (by omega) fun i j a c => price_mono t 0 n i j a (by omega)).1 l h1 h2
        rw [priceV_succ]; omega
      have sc : ∀ l, 1 ≤ l → l ≤ n + 1 → t + costP 0 (priceV t 0) (n + 1) l = t * (1 + costP 0 (priceV 1 0) (n + 1) l) := fun l h1 h2 => by
        unfold costP
        rw [ih (l - 1) (by omega), ih (n + 1 - l) (by omega), Nat.zero_add, Nat.zero_add, Nat.mul_add, Nat.mul_one]
        congr 1
        by_cases hx : priceV 1 0 (l - 1) ≤ priceV 1 0 (n + 1 - l)
        · rw [Nat.max_eq_right hx, Nat.max_eq_right (Nat.mul_le_mul_left t hx)]
        · have hx' : priceV 1 0 (n + 1 - l) ≤ priceV 1 0 (l - 1) := by omega
          rw [Nat.max_eq_left hx', Nat.max_eq_left (Nat.mul_le_mul_left t hx')]
      obtain ⟨l, h1, h2, e⟩ := least_at t 0 n
      obtain ⟨k, k1, k2, ek⟩ := least_at 1 0 n
      apply Nat.le_antisymm
      · have := lo t k k1 k2
        rw [sc k k1 k2, ek] at this
        exact this
      · have h3 := lo 1 l h1 h2
        rw [← e, sc l h1 h2]
        exact Nat.mul_le_mul_left t h3

def chkF (n : Nat) : Bool := Nat.beq (priceV 1 0 n) (fewestN n 6)
theorem few_all : ((List.range 8).all chkF) = true := by kernel_rfl
theorem price_few {t n : Nat} (hn : n < 8) : priceV t 0 n = t * fewestN n 6 := by
  have := List.all_eq_true.1 few_all n (List.mem_range.2 hn)
  rw [price_free t n n (Nat.le_refl n), Nat.eq_of_beq_eq_true this]
end
end Go.Proofs.YtgnkjmgkfibipaaDoor
