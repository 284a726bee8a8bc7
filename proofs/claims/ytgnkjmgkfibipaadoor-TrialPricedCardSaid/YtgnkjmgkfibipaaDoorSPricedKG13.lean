/- TrialPrices: raised. -/
import Derived.Test.YtgnkjmgkfibipaaDoorSPricedKG3
import Derived.Test.YtgnkjmgkfibipaaDoorSPricedRG6
namespace Go.Proofs.YtgnkjmgkfibipaaDoor
set_option linter.unusedVariables false
set_option linter.unusedSimpArgs false
open Go Go.R
set_option maxRecDepth 1000000
noncomputable section

end
end Go.Proofs.YtgnkjmgkfibipaaDoor

/- TrialPrices: the reference's cheap. -/
namespace Go.Proofs.YtgnkjmgkfibipaaDoor
set_option linter.unusedVariables false
set_option linter.unusedSimpArgs false
open Go Go.R
set_option maxRecDepth 1000000
noncomputable section

/-! ### The plan -/
def okAt (t b n most l : Nat) : Bool := Nat.ble (t + costP b (priceV t b) n l) most
def firstPL (t b n most : Nat) : Nat := firstP (okAt t b n most) n (n - 1) 1
def cheapL (t b : Nat) : Nat → Nat → Nat → List Nat
  | 0, _, _ => []
  | d + 1, n, most => if n = 0 then [] else firstPL t b n most :: (cheapL t b d (firstPL t b n most - 1) (most - t - b) ++ (cheapL t b d (n - firstPL t b n most) (most - t)).map (· + firstPL t b n most))

theorem firstPL_le (t b n most : Nat) (hn : 1 ≤ n) : 1 ≤ firstPL t b n most ∧ firstPL t b n most ≤ n := by
  unfold firstPL
  rcases firstP_spec (okAt t b n most) n (n - 1) 1 (by omega) with ⟨h, _⟩ | ⟨h1, h2, _⟩
  · omega
  · omega

theorem least_at (t b n : Nat) : ∃ l, 1 ≤ l ∧ l ≤ n + 1 ∧ t + costP b (priceV t b) (n + 1) l = priceV t b (n + 1) := by
  obtain ⟨_, l, h1, h2, e⟩ := best_least (b := b) (n := n + 1) (v := priceV t b) (by omega) fun i j a c => price_mono t b n i j a (by omega)
  exact ⟨l, h1, h2, by rw [priceV_succ, e]⟩

theorem firstPL_ok {t b n most : Nat} (hn : 1 ≤ n) (h : priceV t b n ≤ most) : t + costP b (priceV t b) n (firstPL t b n most) ≤ most := by
  obtain ⟨m, rfl⟩ : ∃ m, n = m + 1 := ⟨n - 1, by omega⟩
  obtain ⟨l, h1, h2, e⟩ := least_at t b m
  have hok : okAt t b (m + 1) most l = true := by unfold okAt; exact Nat.ble_eq_true_of_le (by omega)
  unfold firstPL
  rcases firstP_spec (okAt t b (m + 1) most) (m + 1) (m + 1 - 1) 1 (by omega) with ⟨h3, hno⟩ | ⟨h3, h4, h5, _⟩
  · rw [h3]
    have : l = m + 1 := by
      rcases Nat.lt_or_ge l (m + 1) with q | q
      · rw [hno l h1 q] at hok; cases hok
      · omega
    rw [this] at e
    omega
  · exact Nat.le_of_ble_eq_true h5

theorem firstPL_before {t b n most l : Nat} (hn : 1 ≤ n) (h1 : 1 ≤ l) (h2 : l < firstPL t b n most) : most < t + costP b (priceV t b) n l := by
  have : okAt t b n most l = false := by
    unfold firstPL at h2
    rcases firstP_spec (okAt t b n most) n (n - 1) 1 (by omega) with ⟨h, hno⟩ | ⟨_, _, _, hno⟩
    · exact hno l h1 (by omega)
    · exact hno l h1 h2
  unfold okAt at this
  rcases Nat.lt_or_ge most (t + costP b (priceV t b) n l) with q | q
  · exact q
  · rw [Nat.ble_eq_true_of_le q] at this; cases this

theorem cheap_len (t b : Nat) : ∀ d n most, n ≤ d → (cheapL t b d n most).length = n
  | 0, n, most, h => by have : n = 0 := by omega
                        subst this; rfl
  | d + 1, n, most, h => by
    unfold cheapL
    by_cases hn : n = 0
    · rw [if_pos hn, hn]; rfl
    · have hl := firstPL_le t b n most (by omega)
      rw [if_neg hn, List.length_cons, List.length_append, List.length_map, cheap_len t b d _ _ (by omega), cheap_len t b d _ _ (by omega)]
      omega

/-! ### Contracts that answer with a list -/
/-! ### The first trial -/
end
end Go.Proofs.YtgnkjmgkfibipaaDoor

/- TrialPrices: the reference's cheap, as a contract. -/
namespace Go.Proofs.YtgnkjmgkfibipaaDoor
set_option linter.unusedVariables false
set_option linter.unusedSimpArgs false
open Go Go.R
set_option maxRecDepth 1000000
noncomputable section

end
end Go.Proofs.YtgnkjmgkfibipaaDoor

/- TrialPrices: put, inside Cheap: its state and its loop. -/
namespace Go.Proofs.YtgnkjmgkfibipaaDoor
set_option linter.unusedVariables false
set_option linter.unusedSimpArgs false
open Go Go.R
set_option maxRecDepth 1000000
noncomputable section

def c78 : Code := bodyOf Tryd.f78
def lp78 : Code := within (hd (behind 2 c78))
def ptrV (i : Nat) : Value := .pointer (some ⟨i, 0, none⟩)
def putV : Value := .func (.func 78) #[] #[ptrV 1, ptrV 3, ptrV 0, ptrV 4, ptrV 5]
def O6 (t b L : Nat) (out : Value) (more : List AObj) : List AObj :=
  .cells [i64 t] true [] (some 3) :: .cells [i64 b] true [] (some 3) :: rowI (L + 1) (priceV t b) :: .cells [rowA 2 (L + 1)] true [] (some 24) :: .cells [out] true [] (some 24) :: .cells [putV] true [] (some 83) :: more
def On (t b L : Nat) : List AObj := O6 t b L (.slice none 0 0) []
def Ol (t b L : Nat) (lst : List Nat) : List AObj := O6 t b L (rowA 6 lst.length) [rowL lst]
def Sp (low high left l : Nat) : List (Nat × Value) := [(0, i64 low), (1, i64 high), (2, i64 left), (3, ptrV 1), (4, ptrV 3), (5, ptrV 0), (6, ptrV 4), (7, ptrV 5), (11, i64 l)]
def argsP (low high left : Nat) : List Value := [i64 low, i64 high, i64 left, ptrV 1, ptrV 3, ptrV 0, ptrV 4, ptrV 5]
theorem sp_clo6 {low high left l : Nat} : ∀ q ∈ Sp low high left l, Clo 6 q.2 := clo_all (by kernel_rfl)
theorem sp_clo7 {low high left l : Nat} : ∀ q ∈ Sp low high left l, Clo 7 q.2 := clo_all (by kernel_rfl)
theorem cells_clo {k : Nat} {c : List Value} {ty : Option TypeId} (h : c.all (cloB 10 k) = true) : CloO k (.cells c true [] ty) := ⟨fun v hv => clo_of 10 k v (List.all_eq_true.1 h v hv), fun j hj => by cases hj⟩
theorem n_clo {t b L : Nat} : ∀ x ∈ On t b L, CloO 6 x := fun x hx => by
  simp only [On, O6, List.mem_cons, List.mem_nil_iff, or_false] at hx
  rcases hx with rfl | rfl | rfl | rfl | rfl | rfl
  · exact cells_clo (by kernel_rfl)
  · exact cells_clo (by kernel_rfl)
  · exact cloO_plain (intsF_plain _ _) _ _
  · exact cells_clo (by kernel_rfl)
  · exact cells_clo (by kernel_rfl)
  · exact cells_clo (by kernel_rfl)
theorem l_clo {t b L : Nat} {lst : List Nat} : ∀ x ∈ Ol t b L lst, CloO 7 x := fun x hx => by
  simp only [Ol, O6, List.mem_cons, List.mem_nil_iff, or_false] at hx
  rcases hx with rfl | rfl | rfl | rfl | rfl | rfl | rfl
  · exact cells_clo (by kernel_rfl)
  · exact cells_clo (by kernel_rfl)
  · exact cloO_plain (intsF_plain _ _) _ _
  · exact cells_clo (by kernel_rfl)
  · exact cells_clo (by kernel_rfl)
  · exact cells_clo (by kernel_rfl)
  · exact cloO_plain (litI_plain _) _ _
theorem nsp {low high left l t b L : Nat} : ∀ q ∈ Sp low high left l, Clo (On t b L).length q.2 := sp_clo6
theorem lsp {low high left l t b L : Nat} {lst : List Nat} : ∀ q ∈ Sp low high left l, Clo (Ol t b L lst).length q.2 := sp_clo7
theorem nle {t b L : Nat} : 6 ≤ (On t b L).length := show 6 ≤ 6 by decide
theorem lle {t b L : Nat} {lst : List Nat} : 6 ≤ (Ol t b L lst).length := show 6 ≤ 7 by decide

theorem put_loopN (L n t b low left : Nat) (hn1 : 1 ≤ n) (hnL : n ≤ L) (hL : L ≤ 12) (ht : t ≤ 50) (hb : b ≤ 50) (hlow : low ≤ 1000) (hleft : left < 1000000) (hmost : priceV t b n ≤ left) : ∀ d j, 1 ≤ j → j + d = firstPL t b n left →
    Runs Tryd.prog 6 lp78 (sth (Sp low (low + n) left (low + j)) 65 (On t b L)) fun x af => x = .exit 0 ∧ Less 6 (sth (Sp low (low + n) left (low + firstPL t b n left)) 65 (On t b L)) af := by
  let v := priceV t b
  have hv : ∀ i, i ≤ 13 → v i < 1000000 := fun i hi => price_small ht hb (by omega)
  have hF := firstPL_le t b n left hn1
  have htl : t ≤ left := by
    obtain ⟨m, rfl⟩ : ∃ m, n = m + 1 := ⟨n - 1, by omega⟩
    rw [priceV_succ] at hmost; omega
  intro d
  induction d with
  | zero =>
    intro j h1 hj
    have e : firstPL t b n left = j := by omega
    have ok := firstPL_ok hn1 hmost
    rw [e] at ok hF ⊢
    have ok' : t + costP b v n j ≤ left := ok
    by_cases hjn : j = n
    · subst hjn
      refine Runs.lp (by kernel_rfl) (Runs.sq (by kernel_rfl) (Runs.sqR mixed hk38 [viaV 2 (.bool false)] (by kernel_rfl) (by kernel_rfl) (by kernel_rfl)
        (oblC (shown_eq (v := .bool (ltF (.ofNat (low + j)) (.ofNat (low + j)))) (by kernel_rfl) (by kernel_rfl) (by rw [lt_self])) oblN) ?_))
      refine Runs.cd (b := false) (by kernel_rfl) (fun h => by cases h) (fun _ => Runs.now (x := .exit 0) (by kernel_rfl) ⟨rfl, ?_⟩)
      exact less_seenP nsp n_clo nle (by kernel_rfl) (by kernel_rfl) (by kernel_rfl) (by kernel_rfl)
    have hjn' : j < n := by omega
    have b1 := hv (j - 1) (by omega)
    have b2 := hv (n - j) (by omega)
    have hcost : costP b v n j < 2000000 := by unfold costP; omega
    have c1 : (Int.ofNat (costP b v n j)) = if Int.ofNat (v (n - j)) > Int.ofNat (b + v (j - 1)) then Int.ofNat (v (n - j)) else Int.ofNat (b + v (j - 1)) := (f_max (b + v (j - 1)) (v (n - j))).symm
    refine Runs.lp (by kernel_rfl) (Runs.sq (by kernel_rfl) (Runs.sqR mixed hk38 [viaV 2 (.bool true), viaV 7 (.int .i64 (.ofNat (low + j - 1))), viaV 9 (.int .i64 (.ofNat (j - 1))), viaV 10 (.pointer (some ⟨2, 0 + (j - 1) * 1, none⟩)), viaV 11 (.int .i64 (.ofNat (v (j - 1)))), viaV 12 (.int .i64 (.ofNat (b + v (j - 1)))), viaV 16 (.int .i64 (.ofNat (n - j))),
        viaV 17 (.pointer (some ⟨2, 0 + (n - j) * 1, none⟩)), viaV 18 (.int .i64 (.ofNat (v (n - j)))), viaV 19 (.int .i64 (.ofNat (costP b v n j))), viaV 22 (.int .i64 (.ofNat (left - t)))] (by kernel_rfl) (by kernel_rfl) (by kernel_rfl)
      (oblC (shown_eq (v := .bool (ltF (.ofNat (low + j)) (.ofNat (low + n)))) (by kernel_rfl) (by kernel_rfl) (by rw [lt_of (show low + j < low + n by omega)]))
      (oblC (shown_eq (v := .int .i64 (wrapF .i64 (Int.sub (.ofNat (low + j)) (.ofNat 1)))) (by kernel_rfl) (by kernel_rfl) (by rw [f_sub (by omega) (by omega)]))
      (oblC (shown_eq (v := .int .i64 (wrapF .i64 (Int.sub (.ofNat (low + j - 1)) (.ofNat low)))) (by kernel_rfl) (by kernel_rfl) (by rw [f_sub (by omega) (by omega), show low + j - 1 - low = j - 1 by omega]))
      (oblC (shown_idx (n := L + 1) (by kernel_rfl) (by omega)) (oblC (shown_cell (by kernel_rfl) (int_at (g := 2) (n := L + 1) (v := v) (by kernel_rfl) (by omega)))
      (oblC (shown_eq (v := .int .i64 (wrapF .i64 (Int.add (.ofNat b) (.ofNat (v (j - 1)))))) (by kernel_rfl) (by kernel_rfl) (by rw [f_add (by omega)]))
      (oblC (shown_eq (v := .int .i64 (wrapF .i64 (Int.sub (.ofNat (low + n)) (.ofNat (low + j))))) (by kernel_rfl) (by kernel_rfl) (by rw [f_sub (by omega) (by omega), show low + n - (low + j) = n - j by omega]))
      (oblC (shown_idx (n := L + 1) (by kernel_rfl) (by omega)) (oblC (shown_cell (by kernel_rfl) (int_at (g := 2) (n := L + 1) (v := v) (by kernel_rfl) (by omega)))
      (oblC (shown_eq (v := .int .i64 (if Int.ofNat (v (n - j)) > Int.ofNat (b + v (j - 1)) then Int.ofNat (v (n - j)) else Int.ofNat (b + v (j - 1)))) (by kernel_rfl) (by kernel_rfl) (by rw [c1]))
      (oblC (shown_eq (v := .int .i64 (wrapF .i64 (Int.sub (.ofNat left) (.ofNat t)))) (by kernel_rfl) (by kernel_rfl) (by rw [f_sub (by omega) (by omega)])) oblN))))))))))) ?_))
    have hf : ltF (.ofNat (left - t)) (.ofNat (costP b v n j)) = false := by rw [ltF_eq, decide_eq_false_iff_not]; show ¬ ((left - t : Nat) : Int) < ((costP b v n j : Nat) : Int); omega
    refine Runs.cd (b := ltF (.ofNat (left - t)) (.ofNat (costP b v n j))) (by kernel_rfl) (fun h => by rw [hf] at h; cases h) (fun _ => Runs.now (x := .exit 0) (by kernel_rfl) ⟨rfl, ?_⟩)
    exact less_seenP nsp n_clo nle (by kernel_rfl) (by kernel_rfl) (by kernel_rfl) (by kernel_rfl)
  | succ d ih =>
    intro j h1 hj
    have no := firstPL_before hn1 h1 (show j < firstPL t b n left by omega)
    have hjn' : j < n := by omega
    have no' : left < t + costP b v n j := no
    have b1 := hv (j - 1) (by omega)
    have b2 := hv (n - j) (by omega)
    have hcost : costP b v n j < 2000000 := by unfold costP; omega
    have c1 : (Int.ofNat (costP b v n j)) = if Int.ofNat (v (n - j)) > Int.ofNat (b + v (j - 1)) then Int.ofNat (v (n - j)) else Int.ofNat (b + v (j - 1)) := (f_max (b + v (j - 1)) (v (n - j))).symm
    refine Runs.lp (by kernel_rfl) (Runs.sq (by kernel_rfl) (Runs.sqR mixed hk38 [viaV 2 (.bool true), viaV 7 (.int .i64 (.ofNat (low + j - 1))), viaV 9 (.int .i64 (.ofNat (j - 1))), viaV 10 (.pointer (some ⟨2, 0 + (j - 1) * 1, none⟩)), viaV 11 (.int .i64 (.ofNat (v (j - 1)))), viaV 12 (.int .i64 (.ofNat (b + v (j - 1)))), viaV 16 (.int .i64 (.ofNat (n - j))),
        viaV 17 (.pointer (some ⟨2, 0 + (n - j) * 1, none⟩)), viaV 18 (.int .i64 (.ofNat (v (n - j)))), viaV 19 (.int .i64 (.ofNat (costP b v n j))), viaV 22 (.int .i64 (.ofNat (left - t)))] (by kernel_rfl) (by kernel_rfl) (by kernel_rfl)
      (oblC (shown_eq (v := .bool (ltF (.ofNat (low + j)) (.ofNat (low + n)))) (by kernel_rfl) (by kernel_rfl) (by rw [lt_of (show low + j < low + n by omega)]))
      (oblC (shown_eq (v := .int .i64 (wrapF .i64 (Int.sub (.ofNat (low + j)) (.ofNat 1)))) (by kernel_rfl) (by kernel_rfl) (by rw [f_sub (by omega) (by omega)]))
      (oblC (shown_eq (v := .int .i64 (wrapF .i64 (Int.sub (.ofNat (low + j - 1)) (.ofNat low)))) (by kernel_rfl) (by kernel_rfl) (by rw [f_sub (by omega) (by omega), show low + j - 1 - low = j - 1 by omega]))
      (oblC (shown_idx (n := L + 1) (by kernel_rfl) (by omega)) (oblC (shown_cell (by kernel_rfl) (int_at (g := 2) (n := L + 1) (v := v) (by kernel_rfl) (by omega)))
      (oblC (shown_eq (v := .int .i64 (wrapF .i64 (Int.add (.ofNat b) (.ofNat (v (j - 1)))))) (by kernel_rfl) (by kernel_rfl) (by rw [f_add (by omega)]))
      (oblC (shown_eq (v := .int .i64 (wrapF .i64 (Int.sub (.ofNat (low + n)) (.ofNat (low + j))))) (by kernel_rfl) (by kernel_rfl) (by rw [f_sub (by omega) (by omega), show low + n - (low + j) = n - j by omega]))
      (oblC (shown_idx (n := L + 1) (by kernel_rfl) (by omega)) (oblC (shown_cell (by kernel_rfl) (int_at (g := 2) (n := L + 1) (v := v) (by kernel_rfl) (by omega)))
      (oblC (shown_eq (v := .int .i64 (if Int.ofNat (v (n - j)) > Int.ofNat (b + v (j - 1)) then Int.ofNat (v (n - j)) else Int.ofNat (b + v (j - 1)))) (by kernel_rfl) (by kernel_rfl) (by rw [c1]))
      (oblC (shown_eq (v := .int .i64 (wrapF .i64 (Int.sub (.ofNat left) (.ofNat t)))) (by kernel_rfl) (by kernel_rfl) (by rw [f_sub (by omega) (by omega)])) oblN))))))))))) ?_))
    have hf : ltF (.ofNat (left - t)) (.ofNat (costP b v n j)) = true := lt_of (by omega)
    refine Runs.cd (b := ltF (.ofNat (left - t)) (.ofNat (costP b v n j))) (by kernel_rfl) (fun _ => Runs.now (x := .normal) (by kernel_rfl) ?_) (fun h => by rw [hf] at h; cases h)
    show Runs Tryd.prog 6 _ _ _
    refine Runs.bk (id := 1) (by kernel_rfl) (Runs.rg mixed hk38 [] (by kernel_rfl) (by kernel_rfl) (by kernel_rfl) oblN ?_)
    show Runs Tryd.prog 6 lp78 _ _
    have ew : Sp low (low + n) left (low + (j + 1)) = [(0, i64 low), (1, i64 (low + n)), (2, i64 left), (3, ptrV 1), (4, ptrV 3), (5, ptrV 0), (6, ptrV 4), (7, ptrV 5), (11, .int .i64 (wrapF .i64 (Int.add (.ofNat (low + j)) (.ofNat 1))))] := by rw [wrap_succ (by omega : low + j < 4611686018427387904)]; rfl
    refine Runs.less (af1 := sth (Sp low (low + n) left (low + (j + 1))) 65 (On t b L)) (less_seenP nsp n_clo nle ?_ (by kernel_rfl) (by kernel_rfl) (by kernel_rfl)) (ih (j + 1) (by omega) (by omega))
    rw [ew]
    exact Eq.trans (Eq.refl _) (by kernel_rfl)

theorem put_loopL (lst : List Nat) (L n t b low left : Nat) (hn1 : 1 ≤ n) (hnL : n ≤ L) (hL : L ≤ 12) (ht : t ≤ 50) (hb : b ≤ 50) (hlow : low ≤ 1000) (hleft : left < 1000000) (hmost : priceV t b n ≤ left) : ∀ d j, 1 ≤ j → j + d = firstPL t b n left →
    Runs Tryd.prog 6 lp78 (sth (Sp low (low + n) left (low + j)) 65 (Ol t b L lst)) fun x af => x = .exit 0 ∧ Less 6 (sth (Sp low (low + n) left (low + firstPL t b n left)) 65 (Ol t b L lst)) af := by
  let v := priceV t b
  have hv : ∀ i, i ≤ 13 → v i < 1000000 := fun i hi => price_small ht hb (by omega)
  have hF := firstPL_le t b n left hn1
  have htl : t ≤ left := by
    obtain ⟨m, rfl⟩ : ∃ m, n = m + 1 := ⟨n - 1, by omega⟩
    rw [priceV_succ] at hmost; omega
  intro d
  induction d with
  | zero =>
    intro j h1 hj
    have e : firstPL t b n left = j := by omega
    have ok := firstPL_ok hn1 hmost
    rw [e] at ok hF ⊢
    have ok' : t + costP b v n j ≤ left := ok
    by_cases hjn : j = n
    · subst hjn
      refine Runs.lp (by kernel_rfl) (Runs.sq (by kernel_rfl) (Runs.sqR mixed hk38 [viaV 2 (.bool false)] (by kernel_rfl) (by kernel_rfl) (by kernel_rfl)
        (oblC (shown_eq (v := .bool (ltF (.ofNat (low + j)) (.ofNat (low + j)))) (by kernel_rfl) (by kernel_rfl) (by rw [lt_self])) oblN) ?_))
      refine Runs.cd (b := false) (by kernel_rfl) (fun h => by cases h) (fun _ => Runs.now (x := .exit 0) (by kernel_rfl) ⟨rfl, ?_⟩)
      exact less_seenP lsp l_clo lle (by kernel_rfl) (by kernel_rfl) (by kernel_rfl) (by kernel_rfl)
    have hjn' : j < n := by omega
    have b1 := hv (j - 1) (by omega)
    have b2 := hv (n - j) (by omega)
    have hcost : costP b v n j < 2000000 := by unfold costP; omega
    have c1 : (Int.ofNat (costP b v n j)) = if Int.ofNat (v (n - j)) > Int.ofNat (b + v (j - 1)) then Int.ofNat (v (n - j)) else Int.ofNat (b + v (j - 1)) := (f_max (b + v (j - 1)) (v (n - j))).symm
    refine Runs.lp (by kernel_rfl) (Runs.sq (by kernel_rfl) (Runs.sqR mixed hk38 [viaV 2 (.bool true), viaV 7 (.int .i64 (.ofNat (low + j - 1))), viaV 9 (.int .i64 (.ofNat (j - 1))), viaV 10 (.pointer (some ⟨2, 0 + (j - 1) * 1, none⟩)), viaV 11 (.int .i64 (.ofNat (v (j - 1)))), viaV 12 (.int .i64 (.ofNat (b + v (j - 1)))), viaV 16 (.int .i64 (.ofNat (n - j))),
        viaV 17 (.pointer (some ⟨2, 0 + (n - j) * 1, none⟩)), viaV 18 (.int .i64 (.ofNat (v (n - j)))), viaV 19 (.int .i64 (.ofNat (costP b v n j))), viaV 22 (.int .i64 (.ofNat (left - t)))] (by kernel_rfl) (by kernel_rfl) (by kernel_rfl)
      (oblC (shown_eq (v := .bool (ltF (.ofNat (low + j)) (.ofNat (low + n)))) (by kernel_rfl) (by kernel_rfl) (by rw [lt_of (show low + j < low + n by omega)]))
      (oblC (shown_eq (v := .int .i64 (wrapF .i64 (Int.sub (.ofNat (low + j)) (.ofNat 1)))) (by kernel_rfl) (by kernel_rfl) (by rw [f_sub (by omega) (by omega)]))
      (oblC (shown_eq (v := .int .i64 (wrapF .i64 (Int.sub (.ofNat (low + j - 1)) (.ofNat low)))) (by kernel_rfl) (by kernel_rfl) (by rw [f_sub (by omega) (by omega), show low + j - 1 - low = j - 1 by omega]))
      (oblC (shown_idx (n := L + 1) (by kernel_rfl) (by omega)) (oblC (shown_cell (by kernel_rfl) (int_at (g := 2) (n := L + 1) (v := v) (by kernel_rfl) (by omega)))
      (oblC (shown_eq (v := .int .i64 (wrapF .i64 (Int.add (.ofNat b) (.ofNat (v (j - 1)))))) (by kernel_rfl) (by kernel_rfl) (by rw [f_add (by omega)]))
      (oblC (shown_eq (v := .int .i64 (wrapF .i64 (Int.sub (.ofNat (low + n)) (.ofNat (low + j))))) (by kernel_rfl) (by kernel_rfl) (by rw [f_sub (by omega) (by omega), show low + n - (low + j) = n - j by omega]))
      (oblC (shown_idx (n := L + 1) (by kernel_rfl) (by omega)) (oblC (shown_cell (by kernel_rfl) (int_at (g := 2) (n := L + 1) (v := v) (by kernel_rfl) (by omega)))
      (oblC (shown_eq (v := .int .i64 (if Int.ofNat (v (n - j)) > Int.ofNat (b + v (j - 1)) then Int.ofNat (v (n - j)) else Int.ofNat (b + v (j - 1)))) (by kernel_rfl) (by kernel_rfl) (by rw [c1]))
      (oblC (shown_eq (v := .int .i64 (wrapF .i64 (Int.sub (.ofNat left) (.ofNat t)))) (by kernel_rfl) (by kernel_rfl) (by rw [f_sub (by omega) (by omega)])) oblN))))))))))) ?_))
    have hf : ltF (.ofNat (left - t)) (.ofNat (costP b v n j)) = false := by rw [ltF_eq, decide_eq_false_iff_not]; show ¬ ((left - t : Nat) : Int) < ((costP b v n j : Nat) : Int); omega
    refine Runs.cd (b := ltF (.ofNat (left - t)) (.ofNat (costP b v n j))) (by kernel_rfl) (fun h => by rw [hf] at h; cases h) (fun _ => Runs.now (x := .exit 0) (by kernel_rfl) ⟨rfl, ?_⟩)
    exact less_seenP lsp l_clo lle (by kernel_rfl) (by kernel_rfl) (by kernel_rfl) (by kernel_rfl)
  | succ d ih =>
    intro j h1 hj
    have no := firstPL_before hn1 h1 (show j < firstPL t b n left by omega)
    have hjn' : j < n := by omega
    have no' : left < t + costP b v n j := no
    have b1 := hv (j - 1) (by omega)
    have b2 := hv (n - j) (by omega)
    have hcost : costP b v n j < 2000000 := by unfold costP; omega
    have c1 : (Int.ofNat (costP b v n j)) = if Int.ofNat (v (n - j)) > Int.ofNat (b + v (j - 1)) then Int.ofNat (v (n - j)) else Int.ofNat (b + v (j - 1)) := (f_max (b + v (j - 1)) (v (n - j))).symm
    refine Runs.lp (by kernel_rfl) (Runs.sq (by kernel_rfl) (Runs.sqR mixed hk38 [viaV 2 (.bool true), viaV 7 (.int .i64 (.ofNat (low + j - 1))), viaV 9 (.int .i64 (.ofNat (j - 1))), viaV 10 (.pointer (some ⟨2, 0 + (j - 1) * 1, none⟩)), viaV 11 (.int .i64 (.ofNat (v (j - 1)))), viaV 12 (.int .i64 (.ofNat (b + v (j - 1)))), viaV 16 (.int .i64 (.ofNat (n - j))),
        viaV 17 (.pointer (some ⟨2, 0 + (n - j) * 1, none⟩)), viaV 18 (.int .i64 (.ofNat (v (n - j)))), viaV 19 (.int .i64 (.ofNat (costP b v n j))), viaV 22 (.int .i64 (.ofNat (left - t)))] (by kernel_rfl) (by kernel_rfl) (by kernel_rfl)
      (oblC (shown_eq (v := .bool (ltF (.ofNat (low + j)) (.ofNat (low + n)))) (by kernel_rfl) (by kernel_rfl) (by rw [lt_of (show low + j < low + n by omega)]))
      (oblC (shown_eq (v := .int .i64 (wrapF .i64 (Int.sub (.ofNat (low + j)) (.ofNat 1)))) (by kernel_rfl) (by kernel_rfl) (by rw [f_sub (by omega) (by omega)]))
      (oblC (shown_eq (v := .int .i64 (wrapF .i64 (Int.sub (.ofNat (low + j - 1)) (.ofNat low)))) (by kernel_rfl) (by kernel_rfl) (by rw [f_sub (by omega) (by omega), show low + j - 1 - low = j - 1 by omega]))
      (oblC (shown_idx (n := L + 1) (by kernel_rfl) (by omega)) (oblC (shown_cell (by kernel_rfl) (int_at (g := 2) (n := L + 1) (v := v) (by kernel_rfl) (by omega)))
      (oblC (shown_eq (v := .int .i64 (wrapF .i64 (Int.add (.ofNat b) (.ofNat (v (j - 1)))))) (by kernel_rfl) (by kernel_rfl) (by rw [f_add (by omega)]))
      (oblC (shown_eq (v := .int .i64 (wrapF .i64 (Int.sub (.ofNat (low + n)) (.ofNat (low + j))))) (by kernel_rfl) (by kernel_rfl) (by rw [f_sub (by omega) (by omega), show low + n - (low + j) = n - j by omega]))
      (oblC (shown_idx (n := L + 1) (by kernel_rfl) (by omega)) (oblC (shown_cell (by kernel_rfl) (int_at (g := 2) (n := L + 1) (v := v) (by kernel_rfl) (by omega)))
      (oblC (shown_eq (v := .int .i64 (if Int.ofNat (v (n - j)) > Int.ofNat (b + v (j - 1)) then Int.ofNat (v (n - j)) else Int.ofNat (b + v (j - 1)))) (by kernel_rfl) (by kernel_rfl) (by rw [c1]))
      (oblC (shown_eq (v := .int .i64 (wrapF .i64 (Int.sub (.ofNat left) (.ofNat t)))) (by kernel_rfl) (by kernel_rfl) (by rw [f_sub (by omega) (by omega)])) oblN))))))))))) ?_))
    have hf : ltF (.ofNat (left - t)) (.ofNat (costP b v n j)) = true := lt_of (by omega)
    refine Runs.cd (b := ltF (.ofNat (left - t)) (.ofNat (costP b v n j))) (by kernel_rfl) (fun _ => Runs.now (x := .normal) (by kernel_rfl) ?_) (fun h => by rw [hf] at h; cases h)
    show Runs Tryd.prog 6 _ _ _
    refine Runs.bk (id := 1) (by kernel_rfl) (Runs.rg mixed hk38 [] (by kernel_rfl) (by kernel_rfl) (by kernel_rfl) oblN ?_)
    show Runs Tryd.prog 6 lp78 _ _
    have ew : Sp low (low + n) left (low + (j + 1)) = [(0, i64 low), (1, i64 (low + n)), (2, i64 left), (3, ptrV 1), (4, ptrV 3), (5, ptrV 0), (6, ptrV 4), (7, ptrV 5), (11, .int .i64 (wrapF .i64 (Int.add (.ofNat (low + j)) (.ofNat 1))))] := by rw [wrap_succ (by omega : low + j < 4611686018427387904)]; rfl
    refine Runs.less (af1 := sth (Sp low (low + n) left (low + (j + 1))) 65 (Ol t b L lst)) (less_seenP lsp l_clo lle ?_ (by kernel_rfl) (by kernel_rfl) (by kernel_rfl)) (ih (j + 1) (by omega) (by omega))
    rw [ew]
    exact Eq.trans (Eq.refl _) (by kernel_rfl)

end
end Go.Proofs.YtgnkjmgkfibipaaDoor

/- TrialPrices: put's calls of itself. -/
namespace Go.Proofs.YtgnkjmgkfibipaaDoor
set_option linter.unusedVariables false
set_option linter.unusedSimpArgs false
open Go Go.R
set_option maxRecDepth 1000000
noncomputable section

def shL (a : Nat) (l : List Nat) : List Nat := l.map (· + a)
theorem shL_len (a : Nat) (l : List Nat) : (shL a l).length = l.length := List.length_map _

def five : List Nat := [0, 1, 2, 3, 5]
theorem five_at {x y : AH} (h : five.map x.get = five.map y.get) : ∀ i, i < 6 → i ≠ 4 → x.get i = y.get i := by
  simp only [five, List.map_cons, List.map_nil, List.cons.injEq, and_true] at h
  obtain ⟨h0, h1, h2, h3, h5⟩ := h
  intro i hi hne
  match i, hi, hne with
  | 0, _, _ => exact h0
  | 1, _, _ => exact h1
  | 2, _, _ => exact h2
  | 3, _, _ => exact h3
  | 4, _, hne => exact absurd rfl hne
  | 5, _, _ => exact h5
  | i + 6, hi, _ => omega

/-- The heap behind a call of put. -/
def Hp1 (t b L : Nat) (C C' : List Nat) : AH := ((((hp (Ol t b L C)).put 4 (.cells [rowA 7 C'.length] true [] (some 24))).put 6 .dead).new (rowL C')).2

theorem put_says {t b L low high left : Nat} {C C' : List Nat} (IH : Local Tryd.prog 6 78 (argsP low high left) (hp (Ol t b L C)) (IsSlot 6 4 C'.length (litI C') (some 3) (some 24) (hp (Ol t b L C)))) :
    Says Tryd.prog (hp (Ol t b L C)) 78 (argsP low high left) (.tuple #[]) (Hp1 t b L C C') := by
  have g : ∀ i, i < 6 → i ≠ 4 → (Hp1 t b L C C').get i = (hp (Ol t b L C)).get i := five_at (by kernel_rfl)
  refine slot_says (h := hp (Ol t b L C)) (h1 := Hp1 t b L C C') (slot := 4) (k := 6) (n := C'.length) (cells := litI C') (ty := some 3) (tc := some 24) IH (by decide) (show 6 ≤ 7 by decide) (fun i hi hne => ?_) ⟨6, 0, by kernel_rfl⟩ (fun i hi1 hi2 => ?_)
    (by kernel_rfl) g (by kernel_rfl) (fun i hi1 hi2 => ?_) (by kernel_rfl) (litI_plain C')
  · match i, hi, hne with
    | 0, _, _ => exact ⟨[i64 t], some 3, by kernel_rfl, (cells_clo (k := 6) (c := [i64 t]) (ty := none) (by kernel_rfl)).1⟩
    | 1, _, _ => exact ⟨[i64 b], some 3, by kernel_rfl, (cells_clo (k := 6) (c := [i64 b]) (ty := none) (by kernel_rfl)).1⟩
    | 2, _, _ => exact ⟨intsF (L + 1) (priceV t b), some 3, by kernel_rfl, fun v hv => clo_plain (intsF_plain _ _ v hv)⟩
    | 3, _, _ => exact ⟨[rowA 2 (L + 1)], some 24, by kernel_rfl, (cells_clo (k := 6) (c := [rowA 2 (L + 1)]) (ty := none) (by kernel_rfl)).1⟩
    | 4, _, hne => exact absurd rfl hne
    | 5, _, _ => exact ⟨[putV], some 83, by kernel_rfl, (cells_clo (k := 6) (c := [putV]) (ty := none) (by kernel_rfl)).1⟩
    | i + 6, hi, _ => omega
  · have hi2' : i < 7 := hi2
    have e : i = 6 := by omega
    subst e
    exact ⟨C.length, by kernel_rfl⟩
  · have hi2' : i < 7 := hi2
    have e : i = 6 := by omega
    subst e
    exact Eq.trans (Eq.refl _) (by kernel_rfl)

theorem put_zero (t b L low left : Nat) (C : List Nat) : Says Tryd.prog (hp (Ol t b L C)) 78 (argsP low low left) (.tuple #[]) (hp (Ol t b L C)) := by
  refine says_of (os := Ol t b L C) ?_ (fun x hx => ?_) l_clo (clo_of 10 _ _ (by kernel_rfl))
  · show Local Tryd.prog 7 78 _ _ _
    refine local_of noNum Tryd.func78 (show Tryd.f78.body = some c78 by kernel_rfl) ?_
    refine Runs.sq (by kernel_rfl) (Runs.sqR mixed hk38 [viaV 2 (.bool true)] (by kernel_rfl) (by kernel_rfl) (by kernel_rfl) (oblC (shown_eq (v := .bool (eqF (.ofNat low) (.ofNat low))) (by kernel_rfl) (by kernel_rfl) (by rw [eq_self])) oblN) ?_)
    refine Runs.cd (b := true) (by kernel_rfl) (fun _ => ?_) (fun h => by cases h)
    exact Runs.now (x := .ret) (by kernel_rfl) ⟨.inr rfl, [], by kernel_rfl, rfl, keepOf (by kernel_rfl)⟩
  · show Clo 7 x
    simp only [argsP, List.mem_cons, List.mem_nil_iff, or_false] at hx
    rcases hx with rfl | rfl | rfl | rfl | rfl | rfl | rfl | rfl <;> exact clo_of 10 7 _ (by kernel_rfl)

theorem put_next {t b L low high left l q m : Nat} {C : List Nat} (hm : m = C.length) (hq : 6 ≤ q) {par : List Nat} (hpar : ∀ j, j < 6 → j ∉ par) {rows : List Value} (hrows : rows = litI C) {k0 : Code} {Q : AExit → AF → Prop} {af : AF} (hsz : af.sz = 65)
    (tt : ([0, 1, 2, 3, 4, 5, 6, 7, 11] : List Nat).map af.tm.get = (Sp low high left l).map fun p => some p.2) (gg : five.map af.h.get = five.map (hp (Ol t b L C)).get)
    (g4 : af.h.get 4 = .cells [rowA q m] true [] (some 24)) (gq : af.h.get q = .cells rows true par (some 3)) (h : Runs Tryd.prog 6 k0 (sth (Sp low high left l) 65 (Ol t b L C)) Q) : Runs Tryd.prog 6 k0 af Q := by
  subst hrows hm
  have g := five_at gg
  have hρ : ∀ j, j < 6 → (fun j => if j = 6 then q else j) j = j := fun j hj => by simp only; rw [if_neg (by omega)]
  have at_ : ∀ j o, (Ol t b L C)[j]? = some o → (hp (Ol t b L C)).get j = o := fun j o ho => hp_get _ j o ho
  refine Runs.renumS (l := Sp low high left l) (os := Ol t b L C) (fun j => if j = 6 then q else j) hsz lle (fun j hj => ⟨hρ j hj, ?_⟩) (fun a c ha hc e => ?_) (fun p hp => ?_) (fun j o ho => ?_) (fun a c ha hc hne cs lv p ty hg => ?_) h
  · by_cases e : j = 4
    · subst e
      refine .inr ⟨6, 0, ?_⟩
      simp only [Sp, List.map_cons, List.map_nil, List.cons.injEq, and_true] at tt
      exact tt.2.2.2.2.2.2.1
    · exact .inl fun o ho => (g j hj e).trans (at_ j o ho)
  · have ha' : a < 7 := ha
    have hc' : c < 7 := hc
    split at e <;> split at e <;> omega
  · refine ⟨p.2, ?_, Ren.clo (show 6 ≤ 7 by decide) hρ (sp_clo6 p hp)⟩
    have e : ([0, 1, 2, 3, 4, 5, 6, 7, 11] : List Nat) = (Sp low high left l).map (·.1) := rfl
    rw [e, List.map_map, List.map_inj_left] at tt
    exact tt p hp
  · have plainO : ∀ (c : List Value) ty, (∀ v ∈ c, Clo 6 v) → RenO (fun j => if j = 6 then q else j) 7 (.cells c true [] ty) (.cells c true [] ty) := fun c ty hc => RenO.clo (show 6 ≤ 7 by decide) hρ hc
    match j, ho with
    | 0, ho =>
      cases ho
      show RenO _ 7 (af.h.get 0) _
      rw [g 0 (by decide) (by decide), at_ 0 _ rfl]
      exact plainO _ _ (cells_clo (k := 6) (c := [i64 t]) (ty := none) (by kernel_rfl)).1
    | 1, ho =>
      cases ho
      show RenO _ 7 (af.h.get 1) _
      rw [g 1 (by decide) (by decide), at_ 1 _ rfl]
      exact plainO _ _ (cells_clo (k := 6) (c := [i64 b]) (ty := none) (by kernel_rfl)).1
    | 2, ho =>
      cases ho
      show RenO _ 7 (af.h.get 2) _
      rw [g 2 (by decide) (by decide), at_ 2 _ rfl]
      exact plainO _ _ fun v hv => clo_plain (intsF_plain _ _ v hv)
    | 3, ho =>
      cases ho
      show RenO _ 7 (af.h.get 3) _
      rw [g 3 (by decide) (by decide), at_ 3 _ rfl]
      exact plainO _ _ (cells_clo (k := 6) (c := [rowA 2 (L + 1)]) (ty := none) (by kernel_rfl)).1
    | 4, ho =>
      cases ho
      show RenO _ 7 (af.h.get 4) _
      rw [g4]
      refine ⟨rfl, fun k u w hu hw => ?_, fun _ => rfl, rfl, .inr rfl⟩
      match k, hu, hw with
      | 0, hu, hw => cases hu; cases hw; exact Ren.sliceU (show 6 < 7 by decide) rfl
    | 5, ho =>
      cases ho
      show RenO _ 7 (af.h.get 5) _
      rw [g 5 (by decide) (by decide), at_ 5 _ rfl]
      exact plainO _ _ (cells_clo (k := 6) (c := [putV]) (ty := none) (by kernel_rfl)).1
    | 6, ho =>
      cases ho
      show RenO _ 7 (af.h.get q) _
      rw [gq]
      exact ⟨rfl, fun k u w hu hw => by rw [hu] at hw; cases hw; exact Ren.plain (litI_plain _ u (List.mem_of_getElem? hu)), fun _ => rfl, rfl, .inr rfl⟩
    | j + 7, ho => simp [Ol, O6] at ho
  · have ha' : a < 7 := ha
    have hc' : c < 7 := hc
    show (if c = 6 then q else c) ∉ p
    have hg : af.h.get (if a = 6 then q else a) = .cells cs lv p ty := hg
    by_cases e : a = 6
    · subst e
      rw [if_pos rfl, gq] at hg
      cases hg
      rw [if_neg (by omega)]
      exact hpar c (by omega)
    · rw [if_neg e] at hg
      have : p = [] := by
        match a, ha', e, hg with
        | 0, _, _, hg => rw [g 0 (by decide) (by decide), at_ 0 _ rfl] at hg; cases hg; rfl
        | 1, _, _, hg => rw [g 1 (by decide) (by decide), at_ 1 _ rfl] at hg; cases hg; rfl
        | 2, _, _, hg => rw [g 2 (by decide) (by decide), at_ 2 _ rfl] at hg; cases hg; rfl
        | 3, _, _, hg => rw [g 3 (by decide) (by decide), at_ 3 _ rfl] at hg; cases hg; rfl
        | 4, _, _, hg => rw [g4] at hg; cases hg; rfl
        | 5, _, _, hg => rw [g 5 (by decide) (by decide), at_ 5 _ rfl] at hg; cases hg; rfl
        | 6, _, e, _ => exact absurd rfl e
        | a + 7, h, _, _ => omega
      rw [this]
      exact fun h => by cases h

/-! ### The two calls -/
section
variable {t b L d n low left j : Nat}
theorem put_last (ht : t ≤ left) (hleft : left < 1000000) (hlow : low + n ≤ 1000) (hj1 : 1 ≤ j) (hjn : j ≤ n) {C : List Nat} (hC : C ≠ []) {h0 : AH} (same : ∀ i, i < 6 → i ≠ 4 → (hp (Ol t b L C)).get i = h0.get i)
    (IH : 1 ≤ n - j → Local Tryd.prog 6 78 (argsP (low + j) (low + n) (left - t)) (hp (Ol t b L C)) (IsSlot 6 4 (C ++ shL (low + j) (cheapL t b d (n - j) (left - t))).length (litI (C ++ shL (low + j) (cheapL t b d (n - j) (left - t)))) (some 3) (some 24) (hp (Ol t b L C)))) :
    Runs Tryd.prog 6 (behind 5 c78) (sth (Sp low (low + n) left (low + j)) 65 (Ol t b L C)) (EndsAs Tryd.prog Tryd.f78 (IsSlot 6 4 (C ++ shL (low + j) (cheapL t b d (n - j) (left - t))).length (litI (C ++ shL (low + j) (cheapL t b d (n - j) (left - t)))) (some 3) (some 24) h0)) := by
  let v5 : Via := viaV 5 (i64 (left - t))
  by_cases hz : j = n
  · subst hz
    have e : C ++ shL (low + j) (cheapL t b d (j - j) (left - t)) = C := by rw [Nat.sub_self]; cases d <;> simp [cheapL, shL]
    rw [e]
    refine Runs.rg mixed hk38 [viaV 5 (i64 (left - t)), viaC 6 78 (argsP (low + j) (low + j) (left - t)) (.tuple #[])] (by kernel_rfl) (by kernel_rfl) (by kernel_rfl)
      (oblC (shown_eq (v := .int .i64 (wrapF .i64 (Int.sub (.ofNat left) (.ofNat t)))) (by kernel_rfl) (by kernel_rfl) (by rw [f_sub (by omega) (by omega)]; rfl))
      (oblC (shown_callE (by kernel_rfl) (by kernel_rfl) (put_zero t b L (low + j) (left - t) C)) oblN)) ?_
    refine ⟨.inl rfl, [], by kernel_rfl, rfl, 6, [], by decide, by kernel_rfl, by kernel_rfl, fun i hi hne => ?_⟩
    rw [← same i hi hne]
    exact five_at (by kernel_rfl) i hi hne
  · have hS := put_says (IH (by omega))
    let C' := C ++ shL (low + j) (cheapL t b d (n - j) (left - t))
    refine Runs.rg mixed hk38 [viaV 5 (i64 (left - t)), viaH 6 78 (argsP (low + j) (low + n) (left - t)) (.tuple #[]) (Hp1 t b L C C')] (by kernel_rfl) (by kernel_rfl) (by kernel_rfl)
      (oblC (shown_eq (v := .int .i64 (wrapF .i64 (Int.sub (.ofNat left) (.ofNat t)))) (by kernel_rfl) (by kernel_rfl) (by rw [f_sub (by omega) (by omega)]; rfl))
      (oblC (shown_callHE (by kernel_rfl) (by kernel_rfl) hS) oblN)) ?_
    refine ⟨.inl rfl, [], by kernel_rfl, rfl, 7, [], by decide, by kernel_rfl, by kernel_rfl, fun i hi hne => ?_⟩
    rw [← same i hi hne]
    exact five_at (by kernel_rfl) i hi hne

theorem put_first (ht : t ≤ left) (hb : b ≤ left - t) (hleft : left < 1000000) (hlow : low + n ≤ 1000) (hj1 : 1 ≤ j) (hjn : j ≤ n) {C : List Nat} (hC : C ≠ []) {Q : AExit → AF → Prop}
    (IH : 1 ≤ j - 1 → Local Tryd.prog 6 78 (argsP low (low + (j - 1)) (left - t - b)) (hp (Ol t b L C)) (IsSlot 6 4 (C ++ shL low (cheapL t b d (j - 1) (left - t - b))).length (litI (C ++ shL low (cheapL t b d (j - 1) (left - t - b)))) (some 3) (some 24) (hp (Ol t b L C))))
    (next : Runs Tryd.prog 6 (behind 5 c78) (sth (Sp low (low + n) left (low + j)) 65 (Ol t b L (C ++ shL low (cheapL t b d (j - 1) (left - t - b))))) Q) :
    Runs Tryd.prog 6 (behind 4 c78) (sth (Sp low (low + n) left (low + j)) 65 (Ol t b L C)) Q := by
  by_cases hz : j = 1
  · subst hz
    have e : C ++ shL low (cheapL t b d (1 - 1) (left - t - b)) = C := by rw [Nat.sub_self]; cases d <;> simp [cheapL, shL]
    rw [e] at next
    refine Runs.sqR mixed hk38 [viaV 3 (i64 low), viaV 6 (i64 (left - t)), viaV 8 (i64 (left - t - b)), viaC 9 78 (argsP low low (left - t - b)) (.tuple #[])] (by kernel_rfl) (by kernel_rfl) (by kernel_rfl)
      (oblC (shown_eq (v := .int .i64 (wrapF .i64 (Int.sub (.ofNat (low + 1)) (.ofNat 1)))) (by kernel_rfl) (by kernel_rfl) (by rw [f_sub (by omega) (by omega)]; rfl))
      (oblC (shown_eq (v := .int .i64 (wrapF .i64 (Int.sub (.ofNat left) (.ofNat t)))) (by kernel_rfl) (by kernel_rfl) (by rw [f_sub (by omega) (by omega)]; rfl))
      (oblC (shown_eq (v := .int .i64 (wrapF .i64 (Int.sub (.ofNat (left - t)) (.ofNat b)))) (by kernel_rfl) (by kernel_rfl) (by rw [f_sub (by omega) (by omega)]; rfl))
      (oblC (shown_callE (by kernel_rfl) (by kernel_rfl) (put_zero t b L low (left - t - b) C)) oblN)))) ?_
    exact Runs.less (af1 := sth (Sp low (low + n) left (low + 1)) 65 (Ol t b L C)) (less_seenP lsp l_clo lle (by kernel_rfl) (by kernel_rfl) (by kernel_rfl) (by kernel_rfl)) next
  · have hS := put_says (IH (by omega))
    let C' := C ++ shL low (cheapL t b d (j - 1) (left - t - b))
    refine Runs.sqR mixed hk38 [viaV 3 (i64 (low + (j - 1))), viaV 6 (i64 (left - t)), viaV 8 (i64 (left - t - b)), viaH 9 78 (argsP low (low + (j - 1)) (left - t - b)) (.tuple #[]) (Hp1 t b L C C')] (by kernel_rfl) (by kernel_rfl) (by kernel_rfl)
      (oblC (shown_eq (v := .int .i64 (wrapF .i64 (Int.sub (.ofNat (low + j)) (.ofNat 1)))) (by kernel_rfl) (by kernel_rfl) (by rw [f_sub (by omega) (by omega), show low + j - 1 = low + (j - 1) by omega]; rfl))
      (oblC (shown_eq (v := .int .i64 (wrapF .i64 (Int.sub (.ofNat left) (.ofNat t)))) (by kernel_rfl) (by kernel_rfl) (by rw [f_sub (by omega) (by omega)]; rfl))
      (oblC (shown_eq (v := .int .i64 (wrapF .i64 (Int.sub (.ofNat (left - t)) (.ofNat b)))) (by kernel_rfl) (by kernel_rfl) (by rw [f_sub (by omega) (by omega)]; rfl))
      (oblC (shown_callHE (by kernel_rfl) (by kernel_rfl) hS) oblN)))) ?_
    exact put_next (q := 7) (m := C'.length) (C := C') rfl (by decide) (par := []) (fun _ _ h => by cases h) (rows := litI C') rfl (by kernel_rfl) (by kernel_rfl) (by kernel_rfl) (by kernel_rfl) (by kernel_rfl) next
end
end
end Go.Proofs.YtgnkjmgkfibipaaDoor
