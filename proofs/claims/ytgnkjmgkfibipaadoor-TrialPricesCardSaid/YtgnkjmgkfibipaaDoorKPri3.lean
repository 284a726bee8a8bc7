/- TrialPrices: put, inside Cheap: its state and its loop. -/
import Derived.Test.YtgnkjmgkfibipaaDoorKPri2
import Derived.Test.YtgnkjmgkfibipaaDoorRVias

namespace Go.Proofs.YtgnkjmgkfibipaaDoor
set_option linter.unusedVariables false
set_option linter.unusedSimpArgs false
open Go Go.R
set_option maxRecDepth 1000000
noncomputable section

def c78 : Code := bodyOf Tryd.f78
def lp78 : Code := within (hd (behind 2 c78))
def ptrV (i : Nat) : Value := .pointer (some ⟨i, 0, none⟩)
def putV : Value := .func (.func 78) #[] #[ptrV 1, ptrV 3, ptrV 0, ptrV 4, ptrV 5]
def O6 (t b L : Nat) (out : Value) (more : List AObj) : List AObj :=
  .cells [i64 t] true [] (some 3) :: .cells [i64 b] true [] (some 3) :: rowI (L + 1) (priceV t b) :: .cells [rowA 2 (L + 1)] true [] (some 24) :: .cells [out] true [] (some 24) :: .cells [putV] true [] (some 83) :: more
def On (t b L : Nat) : List AObj := O6 t b L (.slice none 0 0) []
def Ol (t b L : Nat) (lst : List Nat) : List AObj := O6 t b L (rowA 6 lst.length) [rowL lst]
def Sp (low high left l : Nat) : List (Nat × Value) := [(0, i64 low), (1, i64 high), (2, i64 left), (3, ptrV 1), (4, ptrV 3), (5, ptrV 0), (6, ptrV 4), (7, ptrV 5), (11, i64 l)]
def argsP (low high left : Nat) : List Value := [i64 low, i64 high, i64 left, ptrV 1, ptrV 3, ptrV 0, ptrV 4, ptrV 5]
theorem sp_clo6 {low high left l : Nat} : ∀ q ∈ Sp low high left l, Clo 6 q.2 := clo_all (by kernel_rfl)
theorem sp_clo7 {low high left l : Nat} : ∀ q ∈ Sp low high left l, Clo 7 q.2 := clo_all (by kernel_rfl)
theorem cells_clo {k : Nat} {c : List Value} {ty : Option TypeId} (h : c.all (cloB 10 k) = true) : CloO k (.cells c true [] ty) := ⟨fun v hv => clo_of 10 k v (List.all_eq_true.1 h v hv), fun j hj => by cases hj⟩
theorem n_clo {t b L : Nat} : ∀ x ∈ On t b L, CloO 6 x := fun x hx => by
  simp only [On, O6, List.mem_cons, List.mem_nil_iff, or_false] at hx
  rcases hx with rfl | rfl | rfl | rfl | rfl | rfl
  · exact cells_clo (by kernel_rfl)
  · exact cells_clo (by kernel_rfl)
  · exact cloO_plain (intsF_plain _ _) _ _
  · exact cells_clo (by kernel_rfl)
  · exact cells_clo (by kernel_rfl)
  · exact cells_clo (by kernel_rfl)
theorem l_clo {t b L : Nat} {lst : List Nat} : ∀ x ∈ Ol t b L lst, CloO 7 x := fun x hx => by
  simp only [Ol, O6, List.mem_cons, List.mem_nil_iff, or_false] at hx
  rcases hx with rfl | rfl | rfl | rfl | rfl | rfl | rfl
  · exact cells_clo (by kernel_rfl)
  · exact cells_clo (by kernel_rfl)
  · exact cloO_plain (intsF_plain _ _) _ _
  · exact cells_clo (by kernel_rfl)
  · exact cells_clo (by kernel_rfl)
  · exact cells_clo (by kernel_rfl)
  · exact cloO_plain (litI_plain _) _ _
theorem nsp {low high left l t b L : Nat} : ∀ q ∈ Sp low high left l, Clo (On t b L).length q.2 := sp_clo6
theorem lsp {low high left l t b L : Nat} {lst : List Nat} : ∀ q ∈ Sp low high left l, Clo (Ol t b L lst).length q.2 := sp_clo7
theorem nle {t b L : Nat} : 6 ≤ (On t b L).length := show 6 ≤ 6 by decide
theorem lle {t b L : Nat} {lst : List Nat} : 6 ≤ (Ol t b L lst).length := show 6 ≤ 7 by decide

theorem put_loopN (L n t b low left : Nat) (hn1 : 1 ≤ n) (hnL : n ≤ L) (hL : L ≤ 12) (ht : t ≤ 50) (hb : b ≤ 50) (hlow : low ≤ 1000) (hleft : left < 1000000) (hmost : priceV t b n ≤ left) : ∀ d j, 1 ≤ j → j + d = firstL t b n left →
    Runs Tryd.prog 6 lp78 (sth (Sp low (low + n) left (low + j)) 65 (On t b L)) fun x af => x = .exit 0 ∧ Less 6 (sth (Sp low (low + n) left (low + firstL t b n left)) 65 (On t b L)) af := by
  let v := priceV t b
  have hv : ∀ i, i ≤ 13 → v i < 1000000 := fun i hi => price_small ht hb (by omega)
  have hF := firstL_le t b n left hn1
  have htl : t ≤ left := by
    obtain ⟨m, rfl⟩ : ∃ m, n = m + 1 := ⟨n - 1, by omega⟩
    rw [priceV_succ] at hmost; omega
  intro d
  induction d with
  | zero =>
    intro j h1 hj
    have e : firstL t b n left = j := by omega
    have ok := firstL_ok hn1 hmost
    rw [e] at ok hF ⊢
    have ok' : t + costP b v n j ≤ left := ok
    by_cases hjn : j = n
    · subst hjn
      refine Runs.lp (by kernel_rfl) (Runs.sq (by kernel_rfl) (Runs.sqR mixed hk38 [viaV 2 (.bool false)] (by kernel_rfl) (by kernel_rfl) (by kernel_rfl)
        (oblC (shown_eq (v := .bool (ltF (.ofNat (low + j)) (.ofNat (low + j)))) (by kernel_rfl) (by kernel_rfl) (by rw [lt_self])) oblN) ?_))
      refine Runs.cd (b := false) (by kernel_rfl) (fun h => by cases h) (fun _ => Runs.now (x := .exit 0) (by kernel_rfl) ⟨rfl, ?_⟩)
      exact less_seenP nsp n_clo nle (by kernel_rfl) (by kernel_rfl) (by kernel_rfl) (by kernel_rfl)
    have hjn' : j < n := by omega
    have b1 := hv (j - 1) (by omega)
    have b2 := hv (n - j) (by omega)
    have hcost : costP b v n j < 2000000 := by unfold costP; omega
    have c1 : (Int.ofNat (costP b v n j)) = if Int.ofNat (v (n - j)) > Int.ofNat (b + v (j - 1)) then Int.ofNat (v (n - j)) else Int.ofNat (b + v (j - 1)) := (f_max (b + v (j - 1)) (v (n - j))).symm
    refine Runs.lp (by kernel_rfl) (Runs.sq (by kernel_rfl) (Runs.sqR mixed hk38 [viaV 2 (.bool true), viaV 7 (.int .i64 (.ofNat (low + j - 1))), viaV 9 (.int .i64 (.ofNat (j - 1))), viaV 10 (.pointer (some ⟨2, 0 + (j - 1) * 1, none⟩)), viaV 11 (.int .i64 (.ofNat (v (j - 1)))), viaV 12 (.int .i64 (.ofNat (b + v (j - 1)))), viaV 16 (.int .i64 (.ofNat (n - j))),
        viaV 17 (.pointer (some ⟨2, 0 + (n - j) * 1, none⟩)), viaV 18 (.int .i64 (.ofNat (v (n - j)))), viaV 19 (.int .i64 (.ofNat (costP b v n j))), viaV 22 (.int .i64 (.ofNat (left - t)))] (by kernel_rfl) (by kernel_rfl) (by kernel_rfl)
      (oblC (shown_eq (v := .bool (ltF (.ofNat (low + j)) (.ofNat (low + n)))) (by kernel_rfl) (by kernel_rfl) (by rw [lt_of (show low + j < low + n by omega)]))
      (oblC (shown_eq (v := .int .i64 (wrapF .i64 (Int.sub (.ofNat (low + j)) (.ofNat 1)))) (by kernel_rfl) (by kernel_rfl) (by rw [f_sub (by omega) (by omega)]))
      (oblC (shown_eq (v := .int .i64 (wrapF .i64 (Int.sub (.ofNat (low + j - 1)) (.ofNat low)))) (by kernel_rfl) (by kernel_rfl) (by rw [f_sub (by omega) (by omega), show low + j - 1 - low = j - 1 by omega]))
      (oblC (shown_idx (n := L + 1) (by kernel_rfl) (by omega)) (oblC (shown_cell (by kernel_rfl) (int_at (g := 2) (n := L + 1) (v := v) (by kernel_rfl) (by omega)))
      (oblC (shown_eq (v := .int .i64 (wrapF .i64 (Int.add (.ofNat b) (.ofNat (v (j - 1)))))) (by kernel_rfl) (by kernel_rfl) (by rw [f_add (by omega)]))
      (oblC (shown_eq (v := .int .i64 (wrapF .i64 (Int.sub (.ofNat (low + n)) (.ofNat (low + j))))) (by kernel_rfl) (by kernel_rfl) (by rw [f_sub (by omega) (by omega), show low + n - (low + j) = n - j by omega]))
      (oblC (shown_idx (n := L + 1) (by kernel_rfl) (by omega)) (oblC (shown_cell (by kernel_rfl) (int_at (g := 2) (n := L + 1) (v := v) (by kernel_rfl) (by omega)))
      (oblC (shown_eq (v := .int .i64 (if Int.ofNat (v (n - j)) > Int.ofNat (b + v (j - 1)) then Int.ofNat (v (n - j)) else Int.ofNat (b + v (j - 1)))) (by kernel_rfl) (by kernel_rfl) (by rw [c1]))
      (oblC (shown_eq (v := .int .i64 (wrapF .i64 (Int.sub (.ofNat left) (.ofNat t)))) (by kernel_rfl) (by kernel_rfl) (by rw [f_sub (by omega) (by omega)])) oblN))))))))))) ?_))
    have hf : ltF (.ofNat (left - t)) (.ofNat (costP b v n j)) = false := by rw [ltF_eq, decide_eq_false_iff_not]; show ¬ ((left - t : Nat) : Int) < ((costP b v n j : Nat) : Int); omega
    refine Runs.cd (b := ltF (.ofNat (left - t)) (.ofNat (costP b v n j))) (by kernel_rfl) (fun h => by rw [hf] at h; cases h) (fun _ => Runs.now (x := .exit 0) (by kernel_rfl) ⟨rfl, ?_⟩)
    exact less_seenP nsp n_clo nle (by kernel_rfl) (by kernel_rfl) (by kernel_rfl) (by kernel_rfl)
  | succ d ih =>
    intro j h1 hj
    have no := firstL_before hn1 h1 (show j < firstL t b n left by omega)
    have hjn' : j < n := by omega
    have no' : left < t + costP b v n j := no
    have b1 := hv (j - 1) (by omega)
    have b2 := hv (n - j) (by omega)
    have hcost : costP b v n j < 2000000 := by unfold costP; omega
    have c1 : (Int.ofNat (costP b v n j)) = if Int.ofNat (v (n - j)) > Int.ofNat (b + v (j - 1)) then Int.ofNat (v (n - j)) else Int.ofNat (b + v (j - 1)) := (f_max (b + v (j - 1)) (v (n - j))).symm
    refine Runs.lp (by kernel_rfl) (Runs.sq (by kernel_rfl) (Runs.sqR mixed hk38 [viaV 2 (.bool true), viaV 7 (.int .i64 (.ofNat (low + j - 1))), viaV 9 (.int .i64 (.ofNat (j - 1))), viaV 10 (.pointer (some ⟨2, 0 + (j - 1) * 1, none⟩)), viaV 11 (.int .i64 (.ofNat (v (j - 1)))), viaV 12 (.int .i64 (.ofNat (b + v (j - 1)))), viaV 16 (.int .i64 (.ofNat (n - j))),
        viaV 17 (.pointer (some ⟨2, 0 + (n - j) * 1, none⟩)), viaV 18 (.int .i64 (.ofNat (v (n - j)))), viaV 19 (.int .i64 (.ofNat (costP b v n j))), viaV 22 (.int .i64 (.ofNat (left - t)))] (by kernel_rfl) (by kernel_rfl) (by kernel_rfl)
      (oblC (shown_eq (v := .bool (ltF (.ofNat (low + j)) (.ofNat (low + n)))) (by kernel_rfl) (by kernel_rfl) (by rw [lt_of (show low + j < low + n by omega)]))
      (oblC (shown_eq (v := .int .i64 (wrapF .i64 (Int.sub (.ofNat (low + j)) (.ofNat 1)))) (by kernel_rfl) (by kernel_rfl) (by rw [f_sub (by omega) (by omega)]))
      (oblC (shown_eq (v := .int .i64 (wrapF .i64 (Int.sub (.ofNat (low + j - 1)) (.ofNat low)))) (by kernel_rfl) (by kernel_rfl) (by rw [f_sub (by omega) (by omega), show low + j - 1 - low = j - 1 by omega]))
      (oblC (shown_idx (n := L + 1) (by kernel_rfl) (by omega)) (oblC (shown_cell (by kernel_rfl) (int_at (g := 2) (n := L + 1) (v := v) (by kernel_rfl) (by omega)))
      (oblC (shown_eq (v := .int .i64 (wrapF .i64 (Int.add (.ofNat b) (.ofNat (v (j - 1)))))) (by kernel_rfl) (by kernel_rfl) (by rw [f_add (by omega)]))
      (oblC (shown_eq (v := .int .i64 (wrapF .i64 (Int.sub (.ofNat (low + n)) (.ofNat (low + j))))) (by kernel_rfl) (by kernel_rfl) (by rw [f_sub (by omega) (by omega), show low + n - (low + j) = n - j by omega]))
      (oblC (shown_idx (n := L + 1) (by kernel_rfl) (by omega)) (oblC (shown_cell (by kernel_rfl) (int_at (g := 2) (n := L + 1) (v := v) (by kernel_rfl) (by omega)))
      (oblC (shown_eq (v := .int .i64 (if Int.ofNat (v (n - j)) > Int.ofNat (b + v (j - 1)) then Int.ofNat (v (n - j)) else Int.ofNat (b + v (j - 1)))) (by kernel_rfl) (by kernel_rfl) (by rw [c1]))
      (oblC (shown_eq (v := .int .i64 (wrapF .i64 (Int.sub (.ofNat left) (.ofNat t)))) (by kernel_rfl) (by kernel_rfl) (by rw [f_sub (by omega) (by omega)])) oblN))))))))))) ?_))
    have hf : ltF (.ofNat (left - t)) (.ofNat (costP b v n j)) = true := lt_of (by omega)
    refine Runs.cd (b := ltF (.ofNat (left - t)) (.ofNat (costP b v n j))) (by kernel_rfl) (fun _ => Runs.now (x := .normal) (by kernel_rfl) ?_) (fun h => by rw [hf] at h; cases h)
    show Runs Tryd.prog 6 _ _ _
    refine Runs.bk (id := 1) (by kernel_rfl) (Runs.rg mixed hk38 [] (by kernel_rfl) (by kernel_rfl) (by kernel_rfl) oblN ?_)
    show Runs Tryd.prog 6 lp78 _ _
    have ew : Sp low (low + n) left (low + (j + 1)) = [(0, i64 low), (1, i64 (low + n)), (2, i64 left), (3, ptrV 1), (4, ptrV 3), (5, ptrV 0), (6, ptrV 4), (7, ptrV 5), (11, .int .i64 (wrapF .i64 (Int.add (.ofNat (low + j)) (.ofNat 1))))] := by rw [wrap_succ (by omega : low + j < 4611686018427387904)]; rfl
    refine Runs.less (af1 := sth (Sp low (low + n) left (low + (j + 1))) 65 (On t b L)) (less_seenP nsp n_clo nle ?_ (by kernel_rfl) (by kernel_rfl) (by kernel_rfl)) (ih (j + 1) (by omega) (by omega))
    rw [ew]
    exact Eq.trans (Eq.refl _) (by kernel_rfl)

theorem put_loopL (lst : List Nat) (L n t b low left : Nat) (hn1 : 1 ≤ n) (hnL : n ≤ L) (hL : L ≤ 12) (ht : t ≤ 50) (hb : b ≤ 50) (hlow : low ≤ 1000) (hleft : left < 1000000) (hmost : priceV t b n ≤ left) : ∀ d j, 1 ≤ j → j + d = firstL t b n left →
    Runs Tryd.prog 6 lp78 (sth (Sp low (low + n) left (low + j)) 65 (Ol t b L lst)) fun x af => x = .exit 0 ∧ Less 6 (sth (Sp low (low + n) left (low + firstL t b n left)) 65 (Ol t b L lst)) af := by
  let v := priceV t b
  have hv : ∀ i, i ≤ 13 → v i < 1000000 := fun i hi => price_small ht hb (by omega)
  have hF := firstL_le t b n left hn1
  have htl : t ≤ left := by
    obtain ⟨m, rfl⟩ : ∃ m, n = m + 1 := ⟨n - 1, by omega⟩
    rw [priceV_succ] at hmost; omega
  intro d
  induction d with
  | zero =>
    intro j h1 hj
    have e : firstL t b n left = j := by omega
    have ok := firstL_ok hn1 hmost
    rw [e] at ok hF ⊢
    have ok' : t + costP b v n j ≤ left := ok
    by_cases hjn : j = n
    · subst hjn
      refine Runs.lp (by kernel_rfl) (Runs.sq (by kernel_rfl) (Runs.sqR mixed hk38 [viaV 2 (.bool false)] (by kernel_rfl) (by kernel_rfl) (by kernel_rfl)
        (oblC (shown_eq (v := .bool (ltF (.ofNat (low + j)) (.ofNat (low + j)))) (by kernel_rfl) (by kernel_rfl) (by rw [lt_self])) oblN) ?_))
      refine Runs.cd (b := false) (by kernel_rfl) (fun h => by cases h) (fun _ => Runs.now (x := .exit 0) (by kernel_rfl) ⟨rfl, ?_⟩)
      exact less_seenP lsp l_clo lle (by kernel_rfl) (by kernel_rfl) (by kernel_rfl) (by kernel_rfl)
    have hjn' : j < n := by omega
    have b1 := hv (j - 1) (by omega)
    have b2 := hv (n - j) (by omega)
    have hcost : costP b v n j < 2000000 := by unfold costP; omega
    have c1 : (Int.ofNat (costP b v n j)) = if Int.ofNat (v (n - j)) > Int.ofNat (b + v (j - 1)) then Int.ofNat (v (n - j)) else Int.ofNat (b + v (j - 1)) := (f_max (b + v (j - 1)) (v (n - j))).symm
    refine Runs.lp (by kernel_rfl) (Runs.sq (by kernel_rfl) (Runs.sqR mixed hk38 [viaV 2 (.bool true), viaV 7 (.int .i64 (.ofNat (low + j - 1))), viaV 9 (.int .i64 (.ofNat (j - 1))), viaV 10 (.pointer (some ⟨2, 0 + (j - 1) * 1, none⟩)), viaV 11 (.int .i64 (.ofNat (v (j - 1)))), viaV 12 (.int .i64 (.ofNat (b + v (j - 1)))), viaV 16 (.int .i64 (.ofNat (n - j))),
        viaV 17 (.pointer (some ⟨2, 0 + (n - j) * 1, none⟩)), viaV 18 (.int .i64 (.ofNat (v (n - j)))), viaV 19 (.int .i64 (.ofNat (costP b v n j))), viaV 22 (.int .i64 (.ofNat (left - t)))] (by kernel_rfl) (by kernel_rfl) (by kernel_rfl)
      (oblC (shown_eq (v := .bool (ltF (.ofNat (low + j)) (.ofNat (low + n)))) (by kernel_rfl) (by kernel_rfl) (by rw [lt_of (show low + j < low + n by omega)]))
      (oblC (shown_eq (v := .int .i64 (wrapF .i64 (Int.sub (.ofNat (low + j)) (.ofNat 1)))) (by kernel_rfl) (by kernel_rfl) (by rw [f_sub (by omega) (by omega)]))
      (oblC (shown_eq (v := .int .i64 (wrapF .i64 (Int.sub (.ofNat (low + j - 1)) (.ofNat low)))) (by kernel_rfl) (by kernel_rfl) (by rw [f_sub (by omega) (by omega), show low + j - 1 - low = j - 1 by omega]))
      (oblC (shown_idx (n := L + 1) (by kernel_rfl) (by omega)) (oblC (shown_cell (by kernel_rfl) (int_at (g := 2) (n := L + 1) (v := v) (by kernel_rfl) (by omega)))
      (oblC (shown_eq (v := .int .i64 (wrapF .i64 (Int.add (.ofNat b) (.ofNat (v (j - 1)))))) (by kernel_rfl) (by kernel_rfl) (by rw [f_add (by omega)]))
      (oblC (shown_eq (v := .int .i64 (wrapF .i64 (Int.sub (.ofNat (low + n)) (.ofNat (low + j))))) (by kernel_rfl) (by kernel_rfl) (by rw [f_sub (by omega) (by omega), show low + n - (low + j) = n - j by omega]))
      (oblC (shown_idx (n := L + 1) (by kernel_rfl) (by omega)) (oblC (shown_cell (by kernel_rfl) (int_at (g := 2) (n := L + 1) (v := v) (by kernel_rfl) (by omega)))
      (oblC (shown_eq (v := .int .i64 (if Int.ofNat (v (n - j)) > Int.ofNat (b + v (j - 1)) then Int.ofNat (v (n - j)) else Int.ofNat (b + v (j - 1)))) (by kernel_rfl) (by kernel_rfl) (by rw [c1]))
      (oblC (shown_eq (v := .int .i64 (wrapF .i64 (Int.sub (.ofNat left) (.ofNat t)))) (by kernel_rfl) (by kernel_rfl) (by rw [f_sub (by omega) (by omega)])) oblN))))))))))) ?_))
    have hf : ltF (.ofNat (left - t)) (.ofNat (costP b v n j)) = false := by rw [ltF_eq, decide_eq_false_iff_not]; show ¬ ((left - t : Nat) : Int) < ((costP b v n j : Nat) : Int); omega
    refine Runs.cd (b := ltF (.ofNat (left - t)) (.ofNat (costP b v n j))) (by kernel_rfl) (fun h => by rw [hf] at h; cases h) (fun _ => Runs.now (x := .exit 0) (by kernel_rfl) ⟨rfl, ?_⟩)
    exact less_seenP lsp l_clo lle (by kernel_rfl) (by kernel_rfl) (by kernel_rfl) (by kernel_rfl)
  | succ d ih =>
    intro j h1 hj
    have no := firstL_before hn1 h1 (show j < firstL t b n left by omega)
    have hjn' : j < n := by omega
    have no' : left < t + costP b v n j := no
    have b1 := hv (j - 1) (by omega)
    have b2 := hv (n - j) (by omega)
    have hcost : costP b v n j < 2000000 := by unfold costP; omega
    have c1 : (Int.ofNat (costP b v n j)) = if Int.ofNat (v (n - j)) > Int.ofNat (b + v (j - 1)) then Int.ofNat (v (n - j)) else Int.ofNat (b + v (j - 1)) := (f_max (b + v (j - 1)) (v (n - j))).symm
    refine Runs.lp (by kernel_rfl) (Runs.sq (by kernel_rfl) (Runs.sqR mixed hk38 [viaV 2 (.bool true), viaV 7 (.int .i64 (.ofNat (low + j - 1))), viaV 9 (.int .i64 (.ofNat (j - 1))), viaV 10 (.pointer (some ⟨2, 0 + (j - 1) * 1, none⟩)), viaV 11 (.int .i64 (.ofNat (v (j - 1)))), viaV 12 (.int .i64 (.ofNat (b + v (j - 1)))), viaV 16 (.int .i64 (.ofNat (n - j))),
        viaV 17 (.pointer (some ⟨2, 0 + (n - j) * 1, none⟩)), viaV 18 (.int .i64 (.ofNat (v (n - j)))), viaV 19 (.int .i64 (.ofNat (costP b v n j))), viaV 22 (.int .i64 (.ofNat (left - t)))] (by kernel_rfl) (by kernel_rfl) (by kernel_rfl)
      (oblC (shown_eq (v := .bool (ltF (.ofNat (low + j)) (.ofNat (low + n)))) (by kernel_rfl) (by kernel_rfl) (by rw [lt_of (show low + j < low + n by omega)]))
      (oblC (shown_eq (v := .int .i64 (wrapF .i64 (Int.sub (.ofNat (low + j)) (.ofNat 1)))) (by kernel_rfl) (by kernel_rfl) (by rw [f_sub (by omega) (by omega)]))
      (oblC (shown_eq (v := .int .i64 (wrapF .i64 (Int.sub (.ofNat (low + j - 1)) (.ofNat low)))) (by kernel_rfl) (by kernel_rfl) (by rw [f_sub (by omega) (by omega), show low + j - 1 - low = j - 1 by omega]))
      (oblC (shown_idx (n := L + 1) (by kernel_rfl) (by omega)) (oblC (shown_cell (by kernel_rfl) (int_at (g := 2) (n := L + 1) (v := v) (by kernel_rfl) (by omega)))
      (oblC (shown_eq (v := .int .i64 (wrapF .i64 (Int.add (.ofNat b) (.ofNat (v (j - 1)))))) (by kernel_rfl) (by kernel_rfl) (by rw [f_add (by omega)]))
      (oblC (shown_eq (v := .int .i64 (wrapF .i64 (Int.sub (.ofNat (low + n)) (.ofNat (low + j))))) (by kernel_rfl) (by kernel_rfl) (by rw [f_sub (by omega) (by omega), show low + n - (low + j) = n - j by omega]))
      (oblC (shown_idx (n := L + 1) (by kernel_rfl) (by omega)) (oblC (shown_cell (by kernel_rfl) (int_at (g := 2) (n := L + 1) (v := v) (by kernel_rfl) (by omega)))
      (oblC (shown_eq (v := .int .i64 (if Int.ofNat (v (n - j)) > Int.ofNat (b + v (j - 1)) then Int.ofNat (v (n - j)) else Int.ofNat (b + v (j - 1)))) (by kernel_rfl) (by kernel_rfl) (by rw [c1]))
      (oblC (shown_eq (v := .int .i64 (wrapF .i64 (Int.sub (.ofNat left) (.ofNat t)))) (by kernel_rfl) (by kernel_rfl) (by rw [f_sub (by omega) (by omega)])) oblN))))))))))) ?_))
    have hf : ltF (.ofNat (left - t)) (.ofNat (costP b v n j)) = true := lt_of (by omega)
    refine Runs.cd (b := ltF (.ofNat (left - t)) (.ofNat (costP b v n j))) (by kernel_rfl) (fun _ => Runs.now (x := .normal) (by kernel_rfl) ?_) (fun h => by rw [hf] at h; cases h)
    show Runs Tryd.prog 6 _ _ _
    refine Runs.bk (id := 1) (by kernel_rfl) (Runs.rg mixed hk38 [] (by kernel_rfl) (by kernel_rfl) (by kernel_rfl) oblN ?_)
    show Runs Tryd.prog 6 lp78 _ _
    have ew : Sp low (low + n) left (low + (j + 1)) = [(0, i64 low), (1, i64 (low + n)), (2, i64 left), (3, ptrV 1), (4, ptrV 3), (5, ptrV 0), (6, ptrV 4), (7, ptrV 5), (11, .int .i64 (wrapF .i64 (Int.add (.ofNat (low + j)) (.ofNat 1))))] := by rw [wrap_succ (by omega : low + j < 4611686018427387904)]; rfl
    refine Runs.less (af1 := sth (Sp low (low + n) left (low + (j + 1))) 65 (Ol t b L lst)) (less_seenP lsp l_clo lle ?_ (by kernel_rfl) (by kernel_rfl) (by kernel_rfl)) (ih (j + 1) (by omega) (by omega))
    rw [ew]
    exact Eq.trans (Eq.refl _) (by kernel_rfl)

end
end Go.Proofs.YtgnkjmgkfibipaaDoor

/- TrialPrices: put's calls of itself. -/
namespace Go.Proofs.YtgnkjmgkfibipaaDoor
set_option linter.unusedVariables false
set_option linter.unusedSimpArgs false
open Go Go.R
set_option maxRecDepth 1000000
noncomputable section

def shL (a : Nat) (l : List Nat) : List Nat := l.map (· + a)
theorem shL_len (a : Nat) (l : List Nat) : (shL a l).length = l.length := List.length_map _

def five : List Nat := [0, 1, 2, 3, 5]
theorem five_at {x y : AH} (h : five.map x.get = five.map y.get) : ∀ i, i < 6 → i ≠ 4 → x.get i = y.get i := by
  simp only [five, List.map_cons, List.map_nil, List.cons.injEq, and_true] at h
  obtain ⟨h0, h1, h2, h3, h5⟩ := h
  intro i hi hne
  match i, hi, hne with
  | 0, _, _ => exact h0
  | 1, _, _ => exact h1
  | 2, _, _ => exact h2
  | 3, _, _ => exact h3
  | 4, _, hne => exact absurd rfl hne
  | 5, _, _ => exact h5
  | i + 6, hi, _ => omega

/-- The heap behind a call of put. -/
def Hp1 (t b L : Nat) (C C' : List Nat) : AH := ((((hp (Ol t b L C)).put 4 (.cells [rowA 7 C'.length] true [] (some 24))).put 6 .dead).new (rowL C')).2

theorem put_says {t b L low high left : Nat} {C C' : List Nat} (IH : Local Tryd.prog 6 78 (argsP low high left) (hp (Ol t b L C)) (IsSlot 6 4 C'.length (litI C') (some 3) (some 24) (hp (Ol t b L C)))) :
    Says Tryd.prog (hp (Ol t b L C)) 78 (argsP low high left) (.tuple #[]) (Hp1 t b L C C') := by
  have g : ∀ i, i < 6 → i ≠ 4 → (Hp1 t b L C C').get i = (hp (Ol t b L C)).get i := five_at (by kernel_rfl)
  refine slot_says (h := hp (Ol t b L C)) (h1 := Hp1 t b L C C') (slot := 4) (k := 6) (n := C'.length) (cells := litI C') (ty := some 3) (tc := some 24) IH (by decide) (show 6 ≤ 7 by decide) (fun i hi hne => ?_) ⟨6, 0, by kernel_rfl⟩ (fun i hi1 hi2 => ?_)
    (by kernel_rfl) g (by kernel_rfl) (fun i hi1 hi2 => ?_) (by kernel_rfl) (litI_plain C')
  · match i, hi, hne with
    | 0, _, _ => exact ⟨[i64 t], some 3, by kernel_rfl, (cells_clo (k := 6) (c := [i64 t]) (ty := none) (by kernel_rfl)).1⟩
    | 1, _, _ => exact ⟨[i64 b], some 3, by kernel_rfl, (cells_clo (k := 6) (c := [i64 b]) (ty := none) (by kernel_rfl)).1⟩
    | 2, _, _ => exact ⟨intsF (L + 1) (priceV t b), some 3, by kernel_rfl, fun v hv => clo_plain (intsF_plain _ _ v hv)⟩
    | 3, _, _ => exact ⟨[rowA 2 (L + 1)], some 24, by kernel_rfl, (cells_clo (k := 6) (c := [rowA 2 (L + 1)]) (ty := none) (by kernel_rfl)).1⟩
    | 4, _, hne => exact absurd rfl hne
    | 5, _, _ => exact ⟨[putV], some 83, by kernel_rfl, (cells_clo (k := 6) (c := [putV]) (ty := none) (by kernel_rfl)).1⟩
    | i + 6, hi, _ => omega
  · have hi2' : i < 7 := hi2
    have e : i = 6 := by omega
    subst e
    exact ⟨C.length, by kernel_rfl⟩
  · have hi2' : i < 7 := hi2
    have e : i = 6 := by omega
    subst e
    exact Eq.trans (Eq.refl _) (by kernel_rfl)

theorem put_zero (t b L low left : Nat) (C : List Nat) : Says Tryd.prog (hp (Ol t b L C)) 78 (argsP low low left) (.tuple #[]) (hp (Ol t b L C)) := by
  refine says_of (os := Ol t b L C) ?_ (fun x hx => ?_) l_clo (clo_of 10 _ _ (by kernel_rfl))
  · show Local Tryd.prog 7 78 _ _ _
    refine local_of noNum Tryd.func78 (show Tryd.f78.body = some c78 by kernel_rfl) ?_
    refine Runs.sq (by kernel_rfl) (Runs.sqR mixed hk38 [viaV 2 (.bool true)] (by kernel_rfl) (by kernel_rfl) (by kernel_rfl) (oblC (shown_eq (v := .bool (eqF (.ofNat low) (.ofNat low))) (by kernel_rfl) (by kernel_rfl) (by rw [eq_self])) oblN) ?_)
    refine Runs.cd (b := true) (by kernel_rfl) (fun _ => ?_) (fun h => by cases h)
    exact Runs.now (x := .ret) (by kernel_rfl) ⟨.inr rfl, [], by kernel_rfl, rfl, keepOf (by kernel_rfl)⟩
  · show Clo 7 x
    simp only [argsP, List.mem_cons, List.mem_nil_iff, or_false] at hx
    rcases hx with rfl | rfl | rfl | rfl | rfl | rfl | rfl | rfl <;> exact clo_of 10 7 _ (by kernel_rfl)

theorem put_next {t b L low high left l q m : Nat} {C : List Nat} (hm : m = C.length) (hq : 6 ≤ q) {par : List Nat} (hpar : ∀ j, j < 6 → j ∉ par) {rows : List Value} (hrows : rows = litI C) {k0 : Code} {Q : AExit → AF → Prop} {af : AF} (hsz : af.sz = 65)
    (tt : ([0, 1, 2, 3, 4, 5, 6, 7, 11] : List Nat).map af.tm.get = (Sp low high left l).map fun p => some p.2) (gg : five.map af.h.get = five.map (hp (Ol t b L C)).get)
    (g4 : af.h.get 4 = .cells [rowA q m] true [] (some 24)) (gq : af.h.get q = .cells rows true par (some 3)) (h : Runs Tryd.prog 6 k0 (sth (Sp low high left l) 65 (Ol t b L C)) Q) : Runs Tryd.prog 6 k0 af Q := by
  subst hrows hm
  have g := five_at gg
  have hρ : ∀ j, j < 6 → (fun j => if j = 6 then q else j) j = j := fun j hj => by simp only; rw [if_neg (by omega)]
  have at_ : ∀ j o, (Ol t b L C)[j]? = some o → (hp (Ol t b L C)).get j = o := fun j o ho => hp_get _ j o ho
  refine Runs.renumS (l := Sp low high left l) (os := Ol t b L C) (fun j => if j = 6 then q else j) hsz lle (fun j hj => ⟨hρ j hj, ?_⟩) (fun a c ha hc e => ?_) (fun p hp => ?_) (fun j o ho => ?_) (fun a c ha hc hne cs lv p ty hg => ?_) h
  · by_cases e : j = 4
    · subst e
      refine .inr ⟨6, 0, ?_⟩
      simp only [Sp, List.map_cons, List.map_nil, List.cons.injEq, and_true] at tt
      exact tt.2.2.2.2.2.2.1
    · exact .inl fun o ho => (g j hj e).trans (at_ j o ho)
  · have ha' : a < 7 := ha
    have hc' : c < 7 := hc
    split at e <;> split at e <;> omega
  · refine ⟨p.2, ?_, Ren.clo (show 6 ≤ 7 by decide) hρ (sp_clo6 p hp)⟩
    have e : ([0, 1, 2, 3, 4, 5, 6, 7, 11] : List Nat) = (Sp low high left l).map (·.1) := rfl
    rw [e, List.map_map, List.map_inj_left] at tt
    exact tt p hp
  · have plainO : ∀ (c : List Value) ty, (∀ v ∈ c, Clo 6 v) → RenO (fun j => if j = 6 then q else j) 7 (.cells c true [] ty) (.cells c true [] ty) := fun c ty hc => RenO.clo (show 6 ≤ 7 by decide) hρ hc
    match j, ho with
    | 0, ho =>
      cases ho
      show RenO _ 7 (af.h.get 0) _
      rw [g 0 (by decide) (by decide), at_ 0 _ rfl]
      exact plainO _ _ (cells_clo (k := 6) (c := [i64 t]) (ty := none) (by kernel_rfl)).1
    | 1, ho =>
      cases ho
      show RenO _ 7 (af.h.get 1) _
      rw [g 1 (by decide) (by decide), at_ 1 _ rfl]
      exact plainO _ _ (cells_clo (k := 6) (c := [i64 b]) (ty := none) (by kernel_rfl)).1
    | 2, ho =>
      cases ho
      show RenO _ 7 (af.h.get 2) _
      rw [g 2 (by decide) (by decide), at_ 2 _ rfl]
      exact plainO _ _ fun v hv => clo_plain (intsF_plain _ _ v hv)
    | 3, ho =>
      cases ho
      show RenO _ 7 (af.h.get 3) _
      rw [g 3 (by decide) (by decide), at_ 3 _ rfl]
      exact plainO _ _ (cells_clo (k := 6) (c := [rowA 2 (L + 1)]) (ty := none) (by kernel_rfl)).1
    | 4, ho =>
      cases ho
      show RenO _ 7 (af.h.get 4) _
      rw [g4]
      refine ⟨rfl, fun k u w hu hw => ?_, fun _ => rfl, rfl, .inr rfl⟩
      match k, hu, hw with
      | 0, hu, hw => cases hu; cases hw; exact Ren.sliceU (show 6 < 7 by decide) rfl
    | 5, ho =>
      cases ho
      show RenO _ 7 (af.h.get 5) _
      rw [g 5 (by decide) (by decide), at_ 5 _ rfl]
      exact plainO _ _ (cells_clo (k := 6) (c := [putV]) (ty := none) (by kernel_rfl)).1
    | 6, ho =>
      cases ho
      show RenO _ 7 (af.h.get q) _
      rw [gq]
      exact ⟨rfl, fun k u w hu hw => by rw [hu] at hw; cases hw; exact Ren.plain (litI_plain _ u (List.mem_of_getElem? hu)), fun _ => rfl, rfl, .inr rfl⟩
    | j + 7, ho => simp [Ol, O6] at ho
  · have ha' : a < 7 := ha
    have hc' : c < 7 := hc
    show (if c = 6 then q else c) ∉ p
    have hg : af.h.get (if a = 6 then q else a) = .cells cs lv p ty := hg
    by_cases e : a = 6
    · subst e
      rw [if_pos rfl, gq] at hg
      cases hg
      rw [if_neg (by omega)]
      exact hpar c (by omega)
    · rw [if_neg e] at hg
      have : p = [] := by
        match a, ha', e, hg with
        | 0, _, _, hg => rw [g 0 (by decide) (by decide), at_ 0 _ rfl] at hg; cases hg; rfl
        | 1, _, _, hg => rw [g 1 (by decide) (by decide), at_ 1 _ rfl] at hg; cases hg; rfl
        | 2, _, _, hg => rw [g 2 (by decide) (by decide), at_ 2 _ rfl] at hg; cases hg; rfl
        | 3, _, _, hg => rw [g 3 (by decide) (by decide), at_ 3 _ rfl] at hg; cases hg; rfl
        | 4, _, _, hg => rw [g4] at hg; cases hg; rfl
        | 5, _, _, hg => rw [g 5 (by decide) (by decide), at_ 5 _ rfl] at hg; cases hg; rfl
        | 6, _, e, _ => exact absurd rfl e
        | a + 7, h, _, _ => omega
      rw [this]
      exact fun h => by cases h

/-! ### The two calls -/
section
variable {t b L d n low left j : Nat}
theorem put_last (ht : t ≤ left) (hleft : left < 1000000) (hlow : low + n ≤ 1000) (hj1 : 1 ≤ j) (hjn : j ≤ n) {C : List Nat} (hC : C ≠ []) {h0 : AH} (same : ∀ i, i < 6 → i ≠ 4 → (hp (Ol t b L C)).get i = h0.get i)
    (IH : 1 ≤ n - j → Local Tryd.prog 6 78 (argsP (low + j) (low + n) (left - t)) (hp (Ol t b L C)) (IsSlot 6 4 (C ++ shL (low + j) (cheapL t b d (n - j) (left - t))).length (litI (C ++ shL (low + j) (cheapL t b d (n - j) (left - t)))) (some 3) (some 24) (hp (Ol t b L C)))) :
    Runs Tryd.prog 6 (behind 5 c78) (sth (Sp low (low + n) left (low + j)) 65 (Ol t b L C)) (EndsAs Tryd.prog Tryd.f78 (IsSlot 6 4 (C ++ shL (low + j) (cheapL t b d (n - j) (left - t))).length (litI (C ++ shL (low + j) (cheapL t b d (n - j) (left - t)))) (some 3) (some 24) h0)) := by
  let v5 : Via := viaV 5 (i64 (left - t))
  by_cases hz : j = n
  · subst hz
    have e : C ++ shL (low + j) (cheapL t b d (j - j) (left - t)) = C := by rw [Nat.sub_self]; cases d <;> simp [cheapL, shL]
    rw [e]
    refine Runs.rg mixed hk38 [viaV 5 (i64 (left - t)), viaC 6 78 (argsP (low + j) (low + j) (left - t)) (.tuple #[])] (by kernel_rfl) (by kernel_rfl) (by kernel_rfl)
      (oblC (shown_eq (v := .int .i64 (wrapF .i64 (Int.sub (.ofNat left) (.ofNat t)))) (by kernel_rfl) (by kernel_rfl) (by rw [f_sub (by omega) (by omega)]; rfl))
      (oblC (shown_callE (by kernel_rfl) (by kernel_rfl) (put_zero t b L (low + j) (left - t) C)) oblN)) ?_
    refine ⟨.inl rfl, [], by kernel_rfl, rfl, 6, [], by decide, by kernel_rfl, by kernel_rfl, fun i hi hne => ?_⟩
    rw [← same i hi hne]
    exact five_at (by kernel_rfl) i hi hne
  · have hS := put_says (IH (by omega))
    let C' := C ++ shL (low + j) (cheapL t b d (n - j) (left - t))
    refine Runs.rg mixed hk38 [viaV 5 (i64 (left - t)), viaH 6 78 (argsP (low + j) (low + n) (left - t)) (.tuple #[]) (Hp1 t b L C C')] (by kernel_rfl) (by kernel_rfl) (by kernel_rfl)
      (oblC (shown_eq (v := .int .i64 (wrapF .i64 (Int.sub (.ofNat left) (.ofNat t)))) (by kernel_rfl) (by kernel_rfl) (by rw [f_sub (by omega) (by omega)]; rfl))
      (oblC (shown_callHE (by kernel_rfl) (by kernel_rfl) hS) oblN)) ?_
    refine ⟨.inl rfl, [], by kernel_rfl, rfl, 7, [], by decide, by kernel_rfl, by kernel_rfl, fun i hi hne => ?_⟩
    rw [← same i hi hne]
    exact five_at (by kernel_rfl) i hi hne

theorem put_first (ht : t ≤ left) (hb : b ≤ left - t) (hleft : left < 1000000) (hlow : low + n ≤ 1000) (hj1 : 1 ≤ j) (hjn : j ≤ n) {C : List Nat} (hC : C ≠ []) {Q : AExit → AF → Prop}
    (IH : 1 ≤ j - 1 → Local Tryd.prog 6 78 (argsP low (low + (j - 1)) (left - t - b)) (hp (Ol t b L C)) (IsSlot 6 4 (C ++ shL low (cheapL t b d (j - 1) (left - t - b))).length (litI (C ++ shL low (cheapL t b d (j - 1) (left - t - b)))) (some 3) (some 24) (hp (Ol t b L C))))
    (next : Runs Tryd.prog 6 (behind 5 c78) (sth (Sp low (low + n) left (low + j)) 65 (Ol t b L (C ++ shL low (cheapL t b d (j - 1) (left - t - b))))) Q) :
    Runs Tryd.prog 6 (behind 4 c78) (sth (Sp low (low + n) left (low + j)) 65 (Ol t b L C)) Q := by
  by_cases hz : j = 1
  · subst hz
    have e : C ++ shL low (cheapL t b d (1 - 1) (left - t - b)) = C := by rw [Nat.sub_self]; cases d <;> simp [cheapL, shL]
    rw [e] at next
    refine Runs.sqR mixed hk38 [viaV 3 (i64 low), viaV 6 (i64 (left - t)), viaV 8 (i64 (left - t - b)), viaC 9 78 (argsP low low (left - t - b)) (.tuple #[])] (by kernel_rfl) (by kernel_rfl) (by kernel_rfl)
      (oblC (shown_eq (v := .int .i64 (wrapF .i64 (Int.sub (.ofNat (low + 1)) (.ofNat 1)))) (by kernel_rfl) (by kernel_rfl) (by rw [f_sub (by omega) (by omega)]; rfl))
      (oblC (shown_eq (v := .int .i64 (wrapF .i64 (Int.sub (.ofNat left) (.ofNat t)))) (by kernel_rfl) (by kernel_rfl) (by rw [f_sub (by omega) (by omega)]; rfl))
      (oblC (shown_eq (v := .int .i64 (wrapF .i64 (Int.sub (.ofNat (left - t)) (.ofNat b)))) (by kernel_rfl) (by kernel_rfl) (by rw [f_sub (by omega) (by omega)]; rfl))
      (oblC (shown_callE (by kernel_rfl) (by kernel_rfl) (put_zero t b L low (left - t - b) C)) oblN)))) ?_
    exact Runs.less (af1 := sth (Sp low (low + n) left (low + 1)) 65 (Ol t b L C)) (less_seenP lsp l_clo lle (by kernel_rfl) (by kernel_rfl) (by kernel_rfl) (by kernel_rfl)) next
  · have hS := put_says (IH (by omega))
    let C' := C ++ shL low (cheapL t b d (j - 1) (left - t - b))
    refine Runs.sqR mixed hk38 [viaV 3 (i64 (low + (j - 1))), viaV 6 (i64 (left - t)), viaV 8 (i64 (left - t - b)), viaH 9 78 (argsP low (low + (j - 1)) (left - t - b)) (.tuple #[]) (Hp1 t b L C C')] (by kernel_rfl) (by kernel_rfl) (by kernel_rfl)
      (oblC (shown_eq (v := .int .i64 (wrapF .i64 (Int.sub (.ofNat (low + j)) (.ofNat 1)))) (by kernel_rfl) (by kernel_rfl) (by rw [f_sub (by omega) (by omega), show low + j - 1 = low + (j - 1) by omega]; rfl))
      (oblC (shown_eq (v := .int .i64 (wrapF .i64 (Int.sub (.ofNat left) (.ofNat t)))) (by kernel_rfl) (by kernel_rfl) (by rw [f_sub (by omega) (by omega)]; rfl))
      (oblC (shown_eq (v := .int .i64 (wrapF .i64 (Int.sub (.ofNat (left - t)) (.ofNat b)))) (by kernel_rfl) (by kernel_rfl) (by rw [f_sub (by omega) (by omega)]; rfl))
      (oblC (shown_callHE (by kernel_rfl) (by kernel_rfl) hS) oblN)))) ?_
    exact put_next (q := 7) (m := C'.length) (C := C') rfl (by decide) (par := []) (fun _ _ h => by cases h) (rows := litI C') rfl (by kernel_rfl) (by kernel_rfl) (by kernel_rfl) (by kernel_rfl) (by kernel_rfl) next
end
end
end Go.Proofs.YtgnkjmgkfibipaaDoor

/- TrialPrices: put, as a contract. -/
namespace Go.Proofs.YtgnkjmgkfibipaaDoor
set_option linter.unusedVariables false
set_option linter.unusedSimpArgs false
open Go Go.R
set_option maxRecDepth 1000000
noncomputable section

theorem shL_shL (a c : Nat) (l : List Nat) : shL a (shL c l) = shL (a + c) l := by
  unfold shL
  rw [List.map_map]
  exact List.map_congr_left fun x _ => by simp only [Function.comp]; omega

theorem cheap_sh (t b d n left low : Nat) (hn : 1 ≤ n) (lst : List Nat) :
    lst ++ shL low (cheapL t b (d + 1) n left) = ((lst ++ [low + firstL t b n left]) ++ shL low (cheapL t b d (firstL t b n left - 1) (left - t - b))) ++ shL (low + firstL t b n left) (cheapL t b d (n - firstL t b n left) (left - t)) := by
  have e : cheapL t b (d + 1) n left = firstL t b n left :: (cheapL t b d (firstL t b n left - 1) (left - t - b) ++ shL (firstL t b n left) (cheapL t b d (n - firstL t b n left) (left - t))) := by
    show (if n = 0 then [] else _) = _
    rw [if_neg (by omega)]; rfl
  rw [e, ← shL_shL]
  simp only [shL, List.map_cons, List.map_append, List.append_assoc, List.cons_append, List.nil_append]
  rw [Nat.add_comm low]

theorem eq_no {a c : Nat} (h : a ≠ c) : eqF (.ofNat a) (.ofNat c) = false := by rw [eqF_eq]; exact beq_eq_false_iff_ne.2 fun e => h (Int.ofNat.inj e)

def PutOk (t b L d : Nat) : Prop := ∀ n low left lst, n ≤ d → 1 ≤ n → low + n ≤ L → priceV t b n ≤ left → left < 1000000 → lst ≠ [] → lst.length + n ≤ 1000 →
  Local Tryd.prog 6 78 (argsP low (low + n) left) (hp (Ol t b L lst)) (IsSlot 6 4 (lst ++ shL low (cheapL t b d n left)).length (litI (lst ++ shL low (cheapL t b d n left))) (some 3) (some 24) (hp (Ol t b L lst)))

theorem put_tail {t b L d n low left : Nat} (ht : t ≤ 50) (hb : b ≤ 50) (hL : L ≤ 12) (IH : PutOk t b L d) (hd : n ≤ d + 1) (hn1 : 1 ≤ n) (hlow : low + n ≤ L) (hmost : priceV t b n ≤ left) (hleft : left < 1000000) {C : List Nat} (hC : C ≠ []) (hlen : C.length + n ≤ 1001)
    {h0 : AH} (same : ∀ i, i < 6 → i ≠ 4 → (hp (Ol t b L C)).get i = h0.get i) {D : List Nat} (hD : D = (C ++ shL low (cheapL t b d (firstL t b n left - 1) (left - t - b))) ++ shL (low + firstL t b n left) (cheapL t b d (n - firstL t b n left) (left - t))) :
    Runs Tryd.prog 6 (behind 4 c78) (sth (Sp low (low + n) left (low + firstL t b n left)) 65 (Ol t b L C)) (EndsAs Tryd.prog Tryd.f78 (IsSlot 6 4 D.length (litI D) (some 3) (some 24) h0)) := by
  subst hD
  have hF := firstL_le t b n left hn1
  have hok : t + costP b (priceV t b) n (firstL t b n left) ≤ left := firstL_ok hn1 hmost
  generalize firstL t b n left = j at *
  have pA : b + priceV t b (j - 1) ≤ left - t := by unfold costP at hok; omega
  have pB : priceV t b (n - j) ≤ left - t := by unfold costP at hok; omega
  have hAlen : (cheapL t b d (j - 1) (left - t - b)).length = j - 1 := cheap_len t b d _ _ (by omega)
  refine put_first (d := d) (by omega) (by omega) hleft (by omega) hF.1 hF.2 hC (fun h => IH (j - 1) low (left - t - b) C (by omega) h (by omega) (by omega) (by omega) hC (by omega)) ?_
  have hC1 : C ++ shL low (cheapL t b d (j - 1) (left - t - b)) ≠ [] := fun e => hC (List.append_eq_nil_iff.1 e).1
  refine put_last (d := d) (by omega) hleft (by omega) hF.1 hF.2 hC1 (fun i hi hne => ?_) (fun h => ?_)
  · rw [← same i hi hne]
    exact five_at (by kernel_rfl) i hi hne
  · have := IH (n - j) (low + j) (left - t) _ (by omega) h (by omega) pB (by omega) hC1 (by rw [List.length_append, shL_len]; omega)
    rw [show low + j + (n - j) = low + n by omega] at this
    exact this

theorem put_bodyL {t b L d n low left : Nat} (ht : t ≤ 50) (hb : b ≤ 50) (hL : L ≤ 12) (IH : PutOk t b L d) (hd : n ≤ d + 1) (hn1 : 1 ≤ n) (hlow : low + n ≤ L) (hmost : priceV t b n ≤ left) (hleft : left < 1000000) {lst : List Nat} (hlst : lst ≠ []) (hlen : lst.length + n ≤ 1000) :
    Local Tryd.prog 6 78 (argsP low (low + n) left) (hp (Ol t b L lst)) (IsSlot 6 4 (lst ++ shL low (cheapL t b (d + 1) n left)).length (litI (lst ++ shL low (cheapL t b (d + 1) n left))) (some 3) (some 24) (hp (Ol t b L lst))) := by
  have hF := firstL_le t b n left hn1
  refine local_of noNum Tryd.func78 (show Tryd.f78.body = some c78 by kernel_rfl) ?_
  refine Runs.sq (by kernel_rfl) (Runs.sqR mixed hk38 [viaV 2 (.bool false)] (by kernel_rfl) (by kernel_rfl) (by kernel_rfl) (oblC (shown_eq (v := .bool (eqF (.ofNat low) (.ofNat (low + n)))) (by kernel_rfl) (by kernel_rfl) (by rw [eq_no (by omega)])) oblN) ?_)
  refine Runs.cd (b := false) (by kernel_rfl) (fun h => by cases h) (fun _ => Runs.now (x := .normal) (by kernel_rfl) ?_)
  show Runs Tryd.prog 6 _ _ _
  refine Runs.sqR mixed hk38 [viaV 1 (i64 (low + 1))] (by kernel_rfl) (by kernel_rfl) (by kernel_rfl) (oblC (shown_eq (v := .int .i64 (wrapF .i64 (Int.add (.ofNat low) (.ofNat 1)))) (by kernel_rfl) (by kernel_rfl) (by rw [wrap_succ (by omega)]; rfl)) oblN) ?_
  refine Runs.sq (by kernel_rfl) (Runs.bk (id := 0) (by kernel_rfl) ?_)
  refine Runs.less (af1 := sth (Sp low (low + n) left (low + 1)) 65 (Ol t b L lst)) (less_seenP lsp l_clo lle (by kernel_rfl) (by kernel_rfl) (by kernel_rfl) (by kernel_rfl)) ?_
  refine (put_loopL lst L n t b low left hn1 (by omega) hL ht hb (by omega) hleft hmost (firstL t b n left - 1) 1 (Nat.le_refl 1) (by omega)).mono fun x af hx => ?_
  obtain ⟨rfl, less⟩ := hx
  show Runs Tryd.prog 6 (behind 3 c78) af _
  refine Runs.less less ?_
  let j := firstL t b n left
  let C := lst ++ [low + j]
  let H1 : AH := ((hp (Ol t b L lst)).new (rowL [low + j])).2
  have hap := app_u (h := H1) (i0 := 6) (j := 7) (A := lst) (B := [low + j]) (par := []) (lv2 := true) (par2 := []) (sp2 := none) (by simp) ⟨by omega, by simp⟩ (by kernel_rfl) (by kernel_rfl)
  refine Runs.sqR mixed hk38 [⟨3, .slice (some ⟨8, 0, some 1⟩) (lst.length + 1) (lst.length + 1), some ((H1.put 6 (.cells (litI lst) false [] (some 3))).new (.cells (litI lst ++ litI [low + j]) true [6] (some 3))).2, none⟩] (by kernel_rfl) (by kernel_rfl) (by kernel_rfl)
    (oblC ⟨by kernel_rfl, (show _ = appendA Tryd.prog #[24, 24] (.slice (some ⟨6, 0, some 1⟩) lst.length lst.length) (.slice (some ⟨7, 0, none⟩) 1 1) H1 by kernel_rfl).trans hap⟩ oblN) ?_
  have hC : C ≠ [] := by simp [C]
  have hClen : lst.length + 1 = C.length := by simp [C]
  refine put_next (t := t) (b := b) (L := L) (low := low) (high := low + n) (left := left) (l := low + j) (q := 8) (m := lst.length + 1) (C := C) hClen (by decide) (par := [6]) (fun j hj h => by rw [List.mem_singleton] at h; omega) (rows := litI lst ++ litI [low + j]) (by rw [litI_app]) (by kernel_rfl) (by kernel_rfl) (by kernel_rfl) (by kernel_rfl) (by kernel_rfl) ?_
  exact put_tail ht hb hL IH hd hn1 hlow hmost hleft hC (by rw [← hClen]; omega) (five_at (by kernel_rfl)) (cheap_sh t b d n left low hn1 lst)

theorem put_ok {t b L : Nat} (ht : t ≤ 50) (hb : b ≤ 50) (hL : L ≤ 12) : ∀ d, PutOk t b L d
  | 0 => fun n low left lst h h1 _ _ _ _ _ => by omega
  | d + 1 => fun n low left lst h h1 h2 h3 h4 h5 h6 => put_bodyL ht hb hL (put_ok ht hb hL d) h h1 h2 h3 h4 h5 h6

/-- The first call: nothing is put yet. -/
theorem put_start {t b L left : Nat} (ht : t ≤ 50) (hb : b ≤ 50) (hL : L ≤ 12) (hn1 : 1 ≤ L) (hmost : priceV t b L ≤ left) (hleft : left < 1000000) :
    Local Tryd.prog 6 78 (argsP 0 L left) (hp (On t b L)) (IsSlot 6 4 (cheapL t b L L left).length (litI (cheapL t b L L left)) (some 3) (some 24) (hp (On t b L))) := by
  obtain ⟨d, rfl⟩ : ∃ d, L = d + 1 := ⟨L - 1, by omega⟩
  generalize hn : d + 1 = n at *
  have e0 : cheapL t b n n left = [] ++ shL 0 (cheapL t b (d + 1) n left) := by rw [hn]; simp [shL]
  rw [e0]
  have hF := firstL_le t b n left hn1
  refine local_of noNum Tryd.func78 (show Tryd.f78.body = some c78 by kernel_rfl) ?_
  refine Runs.sq (by kernel_rfl) (Runs.sqR mixed hk38 [viaV 2 (.bool false)] (by kernel_rfl) (by kernel_rfl) (by kernel_rfl) (oblC (shown_eq (v := .bool (eqF (.ofNat 0) (.ofNat n))) (by kernel_rfl) (by kernel_rfl) (by rw [eq_no (by omega)])) oblN) ?_)
  refine Runs.cd (b := false) (by kernel_rfl) (fun h => by cases h) (fun _ => Runs.now (x := .normal) (by kernel_rfl) ?_)
  show Runs Tryd.prog 6 _ _ _
  refine Runs.sqR mixed hk38 [] (by kernel_rfl) (by kernel_rfl) (by kernel_rfl) oblN ?_
  refine Runs.sq (by kernel_rfl) (Runs.bk (id := 0) (by kernel_rfl) ?_)
  refine Runs.less (af1 := sth (Sp 0 (0 + n) left (0 + 1)) 65 (On t b n)) (less_seenP nsp n_clo nle ?_ (by kernel_rfl) (by kernel_rfl) (by kernel_rfl)) ?_
  · rw [Nat.zero_add n]
    exact Eq.trans (Eq.refl _) (by kernel_rfl)
  refine (put_loopN n n t b 0 left hn1 (by omega) hL ht hb (by omega) hleft hmost (firstL t b n left - 1) 1 (Nat.le_refl 1) (by omega)).mono fun x af hx => ?_
  obtain ⟨rfl, less⟩ := hx
  show Runs Tryd.prog 6 (behind 3 c78) af _
  refine Runs.less less ?_
  let j := firstL t b n left
  refine Runs.sqR mixed hk38 [] (by kernel_rfl) (by kernel_rfl) (by kernel_rfl) oblN ?_
  refine put_next (t := t) (b := b) (L := n) (low := 0) (high := 0 + n) (left := left) (l := 0 + j) (q := 7) (m := 1) (C := [0 + j]) rfl (by decide) (par := []) (fun j hj h => by cases h) (rows := litI [0 + j]) rfl (by kernel_rfl) (by kernel_rfl) (by kernel_rfl) (by kernel_rfl) (by kernel_rfl) ?_
  exact put_tail ht hb hL (put_ok ht hb hL d) (by omega) hn1 (by omega) hmost hleft (by simp) (by simp; omega) (five_at (by kernel_rfl)) (cheap_sh t b d n left 0 hn1 [])
end
end Go.Proofs.YtgnkjmgkfibipaaDoor

/- TrialPrices: Cheap, in both texts. -/
namespace Go.Proofs.YtgnkjmgkfibipaaDoor
set_option linter.unusedVariables false
set_option linter.unusedSimpArgs false
open Go Go.R
set_option maxRecDepth 1000000
noncomputable section

def c24 : Code := bodyOf Tryd.f24
def c25 : Code := bodyOf Tryd.f25

/-- A list and an error's number. -/
def NewListE (l : List Nat) (v' : Value) (h' : AH) : Prop := (l = [] ∧ v' = .tuple #[.slice none 0 0, i64 0]) ∨ (l ≠ [] ∧ ∃ i par, (v' = rowV i (litI l).length (some (i64 0)) ∨ v' = rowK i (litI l).length (some (i64 0))) ∧ h'.get i = .cells (litI l) true par (some 3))
def noList : Value := .tuple #[.slice none 0 0, i64 1]
def bestL (L t b : Nat) : List Nat := cheapL t b L L (priceV t b L)

theorem put_none (t b left : Nat) : Says Tryd.prog (hp (On t b 0)) 78 (argsP 0 0 left) (.tuple #[]) (hp (On t b 0)) := by
  refine says_of (os := On t b 0) ?_ (fun x hx => ?_) n_clo (clo_of 10 _ _ (by kernel_rfl))
  · show Local Tryd.prog 6 78 _ _ _
    refine local_of noNum Tryd.func78 (show Tryd.f78.body = some c78 by kernel_rfl) ?_
    refine Runs.sq (by kernel_rfl) (Runs.sqR mixed hk38 [] (by kernel_rfl) (by kernel_rfl) (by kernel_rfl) oblN ?_)
    refine Runs.cd (b := true) (by kernel_rfl) (fun _ => ?_) (fun h => by cases h)
    exact Runs.now (x := .ret) (by kernel_rfl) ⟨.inr rfl, [], by kernel_rfl, rfl, keepOf (by kernel_rfl)⟩
  · show Clo 6 x
    simp only [argsP, List.mem_cons, List.mem_nil_iff, or_false] at hx
    rcases hx with rfl | rfl | rfl | rfl | rfl | rfl | rfl | rfl <;> exact clo_of 10 6 _ (by kernel_rfl)

def Hp0 (t b L : Nat) (C : List Nat) : AH := (((hp (On t b L)).put 4 (.cells [rowA 6 C.length] true [] (some 24))).new (rowL C)).2

theorem put_whole {t b L left : Nat} {C : List Nat} (H : Local Tryd.prog 6 78 (argsP 0 L left) (hp (On t b L)) (IsSlot 6 4 C.length (litI C) (some 3) (some 24) (hp (On t b L)))) :
    Says Tryd.prog (hp (On t b L)) 78 (argsP 0 L left) (.tuple #[]) (Hp0 t b L C) := by
  have g : ∀ i, i < 6 → i ≠ 4 → (Hp0 t b L C).get i = (hp (On t b L)).get i := five_at (by kernel_rfl)
  refine slot_says (h := hp (On t b L)) (h1 := Hp0 t b L C) (slot := 4) (k := 6) (n := C.length) (cells := litI C) (ty := some 3) (tc := some 24) H (by decide) (show 6 ≤ 6 by decide) (fun i hi hne => ?_) ⟨6, 0, by kernel_rfl⟩ (fun i hi1 hi2 => ?_)
    (by kernel_rfl) g (by kernel_rfl) (fun i hi1 hi2 => ?_) (by kernel_rfl) (litI_plain C)
  · match i, hi, hne with
    | 0, _, _ => exact ⟨[i64 t], some 3, by kernel_rfl, (cells_clo (k := 6) (c := [i64 t]) (ty := none) (by kernel_rfl)).1⟩
    | 1, _, _ => exact ⟨[i64 b], some 3, by kernel_rfl, (cells_clo (k := 6) (c := [i64 b]) (ty := none) (by kernel_rfl)).1⟩
    | 2, _, _ => exact ⟨intsF (L + 1) (priceV t b), some 3, by kernel_rfl, fun v hv => clo_plain (intsF_plain _ _ v hv)⟩
    | 3, _, _ => exact ⟨[rowA 2 (L + 1)], some 24, by kernel_rfl, (cells_clo (k := 6) (c := [rowA 2 (L + 1)]) (ty := none) (by kernel_rfl)).1⟩
    | 4, _, hne => exact absurd rfl hne
    | 5, _, _ => exact ⟨[putV], some 83, by kernel_rfl, (cells_clo (k := 6) (c := [putV]) (ty := none) (by kernel_rfl)).1⟩
    | i + 6, hi, _ => omega
  · have hi2' : i < 6 := hi2
    omega
  · have hi2' : i < 6 := hi2
    omega

theorem best_len (L t b : Nat) : (bestL L t b).length = L := cheap_len t b L L _ (Nat.le_refl L)

def S24 (L p : Nat) : List (Nat × Value) := [(0, i64 L), (8, i64 p), (11, ptrV 4), (12, ptrV 5)]
theorem cheap_tail24 (L t b : Nat) (hL : L ≤ 12) (ht : t ≤ 50) (hb : b ≤ 50) : Runs Tryd.prog 0 (behind 7 c24) (sth (S24 L (priceV t b L)) 33 (On t b L)) (EndsAs Tryd.prog Tryd.f24 (NewListE (bestL L t b))) := by
  have hp' := price_small (n := L) ht hb (by omega)
  by_cases hz : L = 0
  · subst hz
    refine Runs.sqR mixed hk38 [viaC 3 78 (argsP 0 0 (priceV t b 0)) (.tuple #[])] (by kernel_rfl) (by kernel_rfl) (by kernel_rfl) (oblC (shown_callE (by kernel_rfl) (by kernel_rfl) (put_none t b _)) oblN) ?_
    refine Runs.sqR mixed hk38 [] (by kernel_rfl) (by kernel_rfl) (by kernel_rfl) oblN (Runs.now (x := .ret) (by kernel_rfl) ⟨.inr rfl, [.slice none 0 0, i64 0], by kernel_rfl, .inl ⟨rfl, rfl⟩⟩)
  · have hS := put_whole (put_start (t := t) (b := b) (L := L) (left := priceV t b L) ht hb hL (by omega) (Nat.le_refl _) hp')
    refine Runs.sqR mixed hk38 [viaH 3 78 (argsP 0 L (priceV t b L)) (.tuple #[]) (Hp0 t b L (bestL L t b))] (by kernel_rfl) (by kernel_rfl) (by kernel_rfl) (oblC (shown_callHE (by kernel_rfl) (by kernel_rfl) hS) oblN) ?_
    refine Runs.sqR mixed hk38 [] (by kernel_rfl) (by kernel_rfl) (by kernel_rfl) oblN (Runs.now (x := .ret) (by kernel_rfl) ⟨.inr rfl, [rowA 6 (bestL L t b).length, i64 0], by kernel_rfl, .inr ⟨fun e => hz ?_, 6, [], .inl ?_, by kernel_rfl⟩⟩)
    · rw [← best_len L t b, e]; rfl
    · rw [litI_len]; rfl

theorem cheap_bad (L t b : Int) (h : badP3 L t b = true) : Local Tryd.prog 0 24 [.int .i64 L, .int .i64 t, .int .i64 b] AH.empty fun v' _ => v' = noList := by
  refine local_of noNum Tryd.func24 (show Tryd.f24.body = some c24 by kernel_rfl) ?_
  refine Runs.sqR mixed hk38 [] (by kernel_rfl) (by kernel_rfl) (by kernel_rfl) oblN ?_
  let h2 : AH := hp [.cells [.int .i64 t] true [] (some 3), .cells [.int .i64 b] true [] (some 3)]
  have hS := price_says L t b h2
  rw [show priceAns L t b = pairV 0 1 by unfold priceAns; rw [if_pos h]] at hS
  refine Runs.sqR mixed hk38 [viaC 3 22 [.int .i64 L, .int .i64 t, .int .i64 b] (pairV 0 1)] (by kernel_rfl) (by kernel_rfl) (by kernel_rfl) (oblC (shown_callE (by kernel_rfl) (by kernel_rfl) hS) oblN) ?_
  refine Runs.sq (by kernel_rfl) (Runs.sqR mixed hk38 [] (by kernel_rfl) (by kernel_rfl) (by kernel_rfl) oblN ?_)
  refine Runs.cd (b := true) (by kernel_rfl) (fun _ => ?_) (fun h => by cases h)
  exact Runs.sqR mixed hk38 [] (by kernel_rfl) (by kernel_rfl) (by kernel_rfl) oblN (Runs.now (x := .ret) (by kernel_rfl) ⟨.inr rfl, [.slice none 0 0, i64 1], by kernel_rfl, rfl⟩)

theorem price_nat {L t b : Nat} (hL : L ≤ 12) (ht : t ≤ 50) (hb : b ≤ 50) : priceAns (.ofNat L) (.ofNat t) (.ofNat b) = pairV (.ofNat (priceV t b L)) 0 := by
  have h : badP3 (.ofNat L) (.ofNat t) (.ofNat b) = false := by
    simp only [badP3, outB, ltF_eq, Bool.or_eq_false_iff, decide_eq_false_iff_not, Int.not_lt]
    refine ⟨⟨?_, ?_⟩, ⟨?_, ?_⟩, ⟨?_, ?_⟩⟩
    · show (0 : Int) ≤ (L : Int); omega
    · show (L : Int) ≤ (12 : Int); omega
    · show (0 : Int) ≤ (t : Int); omega
    · show (t : Int) ≤ (50 : Int); omega
    · show (0 : Int) ≤ (b : Int); omega
    · show (b : Int) ≤ (50 : Int); omega
  unfold priceAns; rw [h]; rfl

theorem cheap_good (L t b : Nat) (hL : L ≤ 12) (ht : t ≤ 50) (hb : b ≤ 50) : Local Tryd.prog 0 24 [i64 L, i64 t, i64 b] AH.empty (NewListE (bestL L t b)) := by
  refine local_of noNum Tryd.func24 (show Tryd.f24.body = some c24 by kernel_rfl) ?_
  refine Runs.sqR mixed hk38 [] (by kernel_rfl) (by kernel_rfl) (by kernel_rfl) oblN ?_
  let h2 : AH := hp [.cells [i64 t] true [] (some 3), .cells [i64 b] true [] (some 3)]
  have hS := price_says (.ofNat L) (.ofNat t) (.ofNat b) h2
  rw [price_nat hL ht hb] at hS
  refine Runs.sqR mixed hk38 [viaC 3 22 [i64 L, i64 t, i64 b] (pairV (.ofNat (priceV t b L)) 0)] (by kernel_rfl) (by kernel_rfl) (by kernel_rfl) (oblC (shown_callE (by kernel_rfl) (by kernel_rfl) hS) oblN) ?_
  refine Runs.sq (by kernel_rfl) (Runs.sq (by kernel_rfl) (Runs.rg mixed hk38 [] (by kernel_rfl) (by kernel_rfl) (by kernel_rfl) oblN ?_))
  refine Runs.cd (b := false) (by kernel_rfl) (fun h => by cases h) (fun _ => Runs.now (x := .normal) (by kernel_rfl) ?_)
  show Runs Tryd.prog 0 _ _ _
  have hS2 : Says Tryd.prog h2 75 [i64 L, i64 t, i64 b] (.slice (some ⟨2, 0, some 1⟩) (L + 1) (L + 1)) (h2.new (rowI (L + 1) (priceV t b))).2 := new_says (prices_local L t b ht hb hL) three_plain h2
  refine Runs.sqR mixed hk38 [viaH 3 75 [i64 L, i64 t, i64 b] (.slice (some ⟨2, 0, some 1⟩) (L + 1) (L + 1)) (h2.new (rowI (L + 1) (priceV t b))).2] (by kernel_rfl) (by kernel_rfl) (by kernel_rfl) (oblC (shown_callHE (by kernel_rfl) (by kernel_rfl) hS2) oblN) ?_
  refine Runs.sqR mixed hk38 [] (by kernel_rfl) (by kernel_rfl) (by kernel_rfl) oblN ?_
  refine Runs.sqR mixed hk38 [] (by kernel_rfl) (by kernel_rfl) (by kernel_rfl) oblN ?_
  refine Runs.sqR mixed hk38 [] (by kernel_rfl) (by kernel_rfl) (by kernel_rfl) oblN ?_
  refine Runs.less (af1 := sth (S24 L (priceV t b L)) 33 (On t b L)) (less_seenP (clo_all (k := 6) (by kernel_rfl)) n_clo (Nat.zero_le _) (by kernel_rfl) (by kernel_rfl) (by kernel_rfl) (by kernel_rfl)) ?_
  exact cheap_tail24 L t b hL ht hb

/-! ### The reference's -/
theorem ref_cheap_bad (L t b : Int) (h : badP3 L t b = true) : Local Tryd.prog 0 25 [.int .i64 L, .int .i64 t, .int .i64 b] AH.empty fun v' _ => v' = noList := by
  refine local_of noNum Tryd.func25 (show Tryd.f25.body = some c25 by kernel_rfl) ?_
  refine Runs.sqR mixed hk38 [] (by kernel_rfl) (by kernel_rfl) (by kernel_rfl) oblN ?_
  have hS := ref_price_says L t b AH.empty
  rw [show priceAns L t b = pairV 0 1 by unfold priceAns; rw [if_pos h]] at hS
  refine Runs.sqR mixed hk38 [viaC 3 23 [.int .i64 L, .int .i64 t, .int .i64 b] (pairV 0 1)] (by kernel_rfl) (by kernel_rfl) (by kernel_rfl) (oblC (shown_callE (by kernel_rfl) (by kernel_rfl) hS) oblN) ?_
  refine Runs.sq (by kernel_rfl) (Runs.sqR mixed hk38 [] (by kernel_rfl) (by kernel_rfl) (by kernel_rfl) oblN ?_)
  refine Runs.cd (b := true) (by kernel_rfl) (fun _ => ?_) (fun h => by cases h)
  exact Runs.sqR mixed hk38 [] (by kernel_rfl) (by kernel_rfl) (by kernel_rfl) oblN (Runs.now (x := .ret) (by kernel_rfl) ⟨.inr rfl, [.slice none 0 0, i64 1], by kernel_rfl, rfl⟩)

theorem ref_cheap_good (L t b : Nat) (hL : L ≤ 12) (ht : t ≤ 50) (hb : b ≤ 50) : Local Tryd.prog 0 25 [i64 L, i64 t, i64 b] AH.empty (NewListE (bestL L t b)) := by
  have hp' := price_small (n := L) ht hb (by omega)
  refine local_of noNum Tryd.func25 (show Tryd.f25.body = some c25 by kernel_rfl) ?_
  refine Runs.sqR mixed hk38 [] (by kernel_rfl) (by kernel_rfl) (by kernel_rfl) oblN ?_
  have hS := ref_price_says (.ofNat L) (.ofNat t) (.ofNat b) AH.empty
  rw [price_nat hL ht hb] at hS
  refine Runs.sqR mixed hk38 [viaC 3 23 [i64 L, i64 t, i64 b] (pairV (.ofNat (priceV t b L)) 0)] (by kernel_rfl) (by kernel_rfl) (by kernel_rfl) (oblC (shown_callE (by kernel_rfl) (by kernel_rfl) hS) oblN) ?_
  refine Runs.sq (by kernel_rfl) (Runs.sq (by kernel_rfl) (Runs.rg mixed hk38 [] (by kernel_rfl) (by kernel_rfl) (by kernel_rfl) oblN ?_))
  refine Runs.cd (b := false) (by kernel_rfl) (fun h => by cases h) (fun _ => Runs.now (x := .normal) (by kernel_rfl) ?_)
  show Runs Tryd.prog 0 _ _ _
  have hC := cheap_local t b ht hb L L (priceV t b L) (Nat.le_refl L) hL (Nat.le_refl _) hp'
  by_cases hz : L = 0
  · subst hz
    have hS2 := nil_says rfl hC four_plain AH.empty
    refine Runs.sqR mixed hk38 [viaC 4 79 [i64 0, i64 t, i64 b, i64 (priceV t b 0)] (.slice none 0 0)] (by kernel_rfl) (by kernel_rfl) (by kernel_rfl) (oblC (shown_callE (by kernel_rfl) (by kernel_rfl) hS2) oblN) ?_
    exact Runs.now (x := .ret) (by kernel_rfl) ⟨.inr rfl, [.slice none 0 0, i64 0], by kernel_rfl, .inl ⟨rfl, rfl⟩⟩
  · have hne : bestL L t b ≠ [] := fun e => hz (by rw [← best_len L t b, e]; rfl)
    have hS2 := list_says hne hC four_plain AH.empty
    refine Runs.sqR mixed hk38 [viaH 4 79 [i64 L, i64 t, i64 b, i64 (priceV t b L)] (.slice (some ⟨0, 0, some 1⟩) (bestL L t b).length (bestL L t b).length) (AH.empty.new (rowL (bestL L t b))).2] (by kernel_rfl) (by kernel_rfl) (by kernel_rfl) (oblC (shown_callHE (by kernel_rfl) (by kernel_rfl) hS2) oblN) ?_
    exact Runs.now (x := .ret) (by kernel_rfl) ⟨.inr rfl, [rowA 0 (bestL L t b).length, i64 0], by kernel_rfl, .inr ⟨hne, 0, [], .inl (by rw [litI_len]; rfl), by kernel_rfl⟩⟩
end
end Go.Proofs.YtgnkjmgkfibipaaDoor

/- TrialPrices: the law's walk. -/
namespace Go.Proofs.YtgnkjmgkfibipaaDoor
set_option linter.unusedVariables false
set_option linter.unusedSimpArgs false
open Go Go.R
set_option maxRecDepth 1000000
noncomputable section

def c4 : Code := bodyOf Tryd.f4

theorem nilE_says {fid : FuncId} {args : List Value} {l : List Nat} (hl : l = []) (L : Local Tryd.prog 0 fid args AH.empty (NewListE l)) (pa : ∀ x ∈ args, plainV x = true) (h : AH) : Says Tryd.prog h fid args (.tuple #[.slice none 0 0, i64 0]) h := by
  intro F w0 μ w args' H hl2
  have L2 : Local Tryd.prog 0 fid args AH.empty fun v' _ => v' = .tuple #[.slice none 0 0, i64 0] := fun F w0 μ w args' H hl2 => (L F w0 μ w args' H hl2).mono fun v' w' ⟨u, h', r, q⟩ => by
    refine ⟨u, h', ?_, q⟩
    rcases r with ⟨_, r⟩ | ⟨hne, _⟩
    · exact r
    · exact absurd hl hne
  exact L2.closed pa rfl h H hl2

theorem listE_says {fid : FuncId} {args : List Value} {l : List Nat} (hl : l ≠ []) (L : Local Tryd.prog 0 fid args AH.empty (NewListE l)) (pa : ∀ x ∈ args, plainV x = true) (h : AH) : Says Tryd.prog h fid args (.tuple #[.slice (some ⟨h.next, 0, some 1⟩) l.length l.length, i64 0]) (h.new (rowL l)).2 := by
  intro F w0 μ w args' H hl2
  have L2 : Local Tryd.prog 0 fid args AH.empty fun v' h' => ∃ i par, (v' = rowV i (litI l).length (some (i64 0)) ∨ v' = rowK i (litI l).length (some (i64 0))) ∧ h'.get i = .cells (litI l) true par (some 3) := fun F w0 μ w args' H hl2 => (L F w0 μ w args' H hl2).mono fun v' w' ⟨u, h', r, q⟩ => by
    refine ⟨u, h', ?_, q⟩
    rcases r with ⟨e, _⟩ | ⟨_, r⟩
    · exact absurd e hl
    · exact r
  have := fresh_ok (cells := litI l) (ty := some 3) (e := some (i64 0)) L2 pa (litI_plain l) (fun v hv => by cases hv; rfl) h H hl2
  rw [show rowV h.next (litI l).length (some (i64 0)) = .tuple #[.slice (some ⟨h.next, 0, some 1⟩) l.length l.length, i64 0] by rw [litI_len]; rfl] at this
  exact this

theorem prices_bad (L t b : Int) (h : badP3 L t b = true) : Runs Tryd.prog 0 c4 (entry Tryd.f4 [.int .i64 L, .int .i64 t, .int .i64 b] AH.empty) (EndsAs Tryd.prog Tryd.f4 fun v' _ => v' = .bool true) := by
  have e : priceAns L t b = pairV 0 1 := by unfold priceAns; rw [if_pos h]
  have s1 := price_says L t b AH.empty
  have s2 := ref_price_says L t b AH.empty
  rw [e] at s1 s2
  have s3 : Says Tryd.prog AH.empty 24 [.int .i64 L, .int .i64 t, .int .i64 b] noList AH.empty := fun F w0 μ w args' H hl => (cheap_bad L t b h).closed three_plain rfl AH.empty H hl
  have s4 : Says Tryd.prog AH.empty 25 [.int .i64 L, .int .i64 t, .int .i64 b] noList AH.empty := fun F w0 μ w args' H hl => (ref_cheap_bad L t b h).closed three_plain rfl AH.empty H hl
  refine Runs.sqR mixed hk38 [] (by kernel_rfl) (by kernel_rfl) (by kernel_rfl) oblN ?_
  refine Runs.sqR mixed hk38 [viaC 3 22 [.int .i64 L, .int .i64 t, .int .i64 b] (pairV 0 1)] (by kernel_rfl) (by kernel_rfl) (by kernel_rfl) (oblC (shown_callE (by kernel_rfl) (by kernel_rfl) s1) oblN) ?_
  refine Runs.sqR mixed hk38 [viaC 3 23 [.int .i64 L, .int .i64 t, .int .i64 b] (pairV 0 1)] (by kernel_rfl) (by kernel_rfl) (by kernel_rfl) (oblC (shown_callE (by kernel_rfl) (by kernel_rfl) s2) oblN) ?_
  refine Runs.sqR mixed hk38 [viaC 3 24 [.int .i64 L, .int .i64 t, .int .i64 b] noList] (by kernel_rfl) (by kernel_rfl) (by kernel_rfl) (oblC (shown_callE (by kernel_rfl) (by kernel_rfl) s3) oblN) ?_
  refine Runs.sqR mixed hk38 [viaC 3 25 [.int .i64 L, .int .i64 t, .int .i64 b] noList] (by kernel_rfl) (by kernel_rfl) (by kernel_rfl) (oblC (shown_callE (by kernel_rfl) (by kernel_rfl) s4) oblN) ?_
  refine Runs.sqR mixed hk38 [] (by kernel_rfl) (by kernel_rfl) (by kernel_rfl) oblN ?_
  exact Runs.now (x := .ret) (by kernel_rfl) ⟨.inr rfl, [.bool true], by kernel_rfl, rfl⟩

theorem prices_good (L t b : Nat) (hL : L ≤ 12) (ht : t ≤ 50) (hb : b ≤ 50) : Runs Tryd.prog 0 c4 (entry Tryd.f4 [i64 L, i64 t, i64 b] AH.empty) (EndsAs Tryd.prog Tryd.f4 fun v' _ => v' = .bool true) := by
  have e := price_nat hL ht hb
  have s1 := price_says (.ofNat L) (.ofNat t) (.ofNat b) AH.empty
  have s2 := ref_price_says (.ofNat L) (.ofNat t) (.ofNat b) AH.empty
  rw [e] at s1 s2
  have l1 := cheap_good L t b hL ht hb
  have l2 := ref_cheap_good L t b hL ht hb
  let p : Nat := priceV t b L
  have hpe : Value.bool (eqF (.ofNat p) (.ofNat p)) = .bool true := by rw [eq_self]
  refine Runs.sqR mixed hk38 [] (by kernel_rfl) (by kernel_rfl) (by kernel_rfl) oblN ?_
  refine Runs.sqR mixed hk38 [viaC 3 22 [i64 L, i64 t, i64 b] (pairV (.ofNat (priceV t b L)) 0)] (by kernel_rfl) (by kernel_rfl) (by kernel_rfl) (oblC (shown_callE (by kernel_rfl) (by kernel_rfl) s1) oblN) ?_
  refine Runs.sqR mixed hk38 [viaC 3 23 [i64 L, i64 t, i64 b] (pairV (.ofNat (priceV t b L)) 0)] (by kernel_rfl) (by kernel_rfl) (by kernel_rfl) (oblC (shown_callE (by kernel_rfl) (by kernel_rfl) s2) oblN) ?_
  by_cases hz : L = 0
  · subst hz
    have s3 := nilE_says rfl l1 three_plain AH.empty
    have s4 := nilE_says rfl l2 three_plain AH.empty
    refine Runs.sqR mixed hk38 [viaC 3 24 [i64 0, i64 t, i64 b] (.tuple #[.slice none 0 0, i64 0])] (by kernel_rfl) (by kernel_rfl) (by kernel_rfl) (oblC (shown_callE (by kernel_rfl) (by kernel_rfl) s3) oblN) ?_
    refine Runs.sqR mixed hk38 [viaC 3 25 [i64 0, i64 t, i64 b] (.tuple #[.slice none 0 0, i64 0])] (by kernel_rfl) (by kernel_rfl) (by kernel_rfl) (oblC (shown_callE (by kernel_rfl) (by kernel_rfl) s4) oblN) ?_
    refine Runs.sqR mixed hk38 [viaV 2 (.bool true)] (by kernel_rfl) (by kernel_rfl) (by kernel_rfl) (oblC (shown_eq (v := .bool (eqF (.ofNat p) (.ofNat p))) (by kernel_rfl) (by kernel_rfl) hpe) oblN) ?_
    exact Runs.now (x := .ret) (by kernel_rfl) ⟨.inr rfl, [.bool true], by kernel_rfl, rfl⟩
  · have hlen := best_len L t b
    have hne : bestL L t b ≠ [] := fun e => hz (by rw [← hlen, e]; rfl)
    let l := bestL L t b
    let H1 : AH := (AH.empty.new (rowL l)).2
    have s3 := listE_says hne l1 three_plain AH.empty
    have s4 := listE_says hne l2 three_plain H1
    have s5 := same_says l (show l.length < 1000000 by show (bestL L t b).length < 1000000; omega)
    refine Runs.sqR mixed hk38 [viaH 3 24 [i64 L, i64 t, i64 b] (.tuple #[rowA 0 l.length, i64 0]) H1] (by kernel_rfl) (by kernel_rfl) (by kernel_rfl) (oblC (shown_callHE (by kernel_rfl) (by kernel_rfl) s3) oblN) ?_
    refine Runs.sqR mixed hk38 [viaH 3 25 [i64 L, i64 t, i64 b] (.tuple #[rowA 1 l.length, i64 0]) (H1.new (rowL l)).2] (by kernel_rfl) (by kernel_rfl) (by kernel_rfl) (oblC (shown_callHE (by kernel_rfl) (by kernel_rfl) s4) oblN) ?_
    refine Runs.sqR mixed hk38 [viaV 2 (.bool true), viaC 11 21 [rowA 0 l.length, rowA 1 l.length] (.bool true)] (by kernel_rfl) (by kernel_rfl) (by kernel_rfl) (oblC (shown_eq (v := .bool (eqF (.ofNat p) (.ofNat p))) (by kernel_rfl) (by kernel_rfl) hpe)
      (oblC (shown_callE (by kernel_rfl) (by kernel_rfl) s5) oblN)) ?_
    exact Runs.now (x := .ret) (by kernel_rfl) ⟨.inr rfl, [.bool true], by kernel_rfl, rfl⟩

theorem prices_runs (x y z : Int) : Runs Tryd.prog 0 c4 (entry Tryd.f4 [.int .i64 x, .int .i64 y, .int .i64 z] AH.empty) (EndsAs Tryd.prog Tryd.f4 fun v' _ => v' = .bool true) := by
  cases h : badP3 x y z with
  | true => exact prices_bad x y z h
  | false =>
    obtain ⟨L, t, b, rfl, rfl, rfl, hL, ht, hb⟩ := good_nats h
    exact prices_good L t b hL ht hb
end
end Go.Proofs.YtgnkjmgkfibipaaDoor

