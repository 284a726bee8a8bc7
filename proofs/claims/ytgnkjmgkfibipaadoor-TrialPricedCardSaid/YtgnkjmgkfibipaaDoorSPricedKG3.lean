/- TrialAsked: the list of results made of bytes. -/
import Derived.Test.YtgnkjmgkfibipaaDoorSPricedKG2
import Derived.Test.YtgnkjmgkfibipaaDoorSPricedRG6
import Derived.Test.YtgnkjmgkfibipaaDoorSPricedRG5
namespace Go.Proofs.YtgnkjmgkfibipaaDoor
set_option linter.unusedVariables false
set_option linter.unusedSimpArgs false
open Go Go.R
set_option maxRecDepth 1000000
noncomputable section

/-! ### Numbers -/
theorem f_add {a b : Nat} (h : a + b < 9223372036854775808) : wrapF .i64 (Int.add (.ofNat a) (.ofNat b)) = .ofNat (a + b) := wrap_ofNat h
theorem f_mul {a b : Nat} (h : a * b < 9223372036854775808) : wrapF .i64 (Int.mul (.ofNat a) (.ofNat b)) = .ofNat (a * b) := wrap_ofNat h
/-! ### The bytes, the results -/
def c9 : Code := bodyOf Tryd.f9
end
end Go.Proofs.YtgnkjmgkfibipaaDoor

/- TrialPrices: the plain law of the least prices. -/
namespace Go.Proofs.YtgnkjmgkfibipaaDoor
set_option linter.unusedVariables false
set_option linter.unusedSimpArgs false
open Go Go.R
noncomputable section

/-- The cost of a first trial. -/
def costP (b : Nat) (v : Nat → Nat) (n l : Nat) : Nat := max (b + v (l - 1)) (v (n - l))

/-- Where the program stops. -/
def stopQ (b : Nat) (v : Nat → Nat) (n l : Nat) : Bool := !(Nat.blt l n && Nat.ble (b + v l) (v (n - 1 - l)))
def crossL (b : Nat) (v : Nat → Nat) (n : Nat) : Nat := firstP (stopQ b v n) n (n - 1) 1
def bestP (b : Nat) (v : Nat → Nat) (n : Nat) : Nat :=
  let l := crossL b v n
  if l < n then min (costP b v n l) (costP b v n (l + 1)) else costP b v n l

/-- The prices, one after another. -/
def priceL (t b : Nat) : Nat → List Nat
  | 0 => [0]
  | n + 1 => priceL t b n ++ [t + bestP b (fun i => (priceL t b n).getD i 0) (n + 1)]
def priceV (t b n : Nat) : Nat := (priceL t b n).getD n 0

theorem priceL_len (t b : Nat) : ∀ n, (priceL t b n).length = n + 1
  | 0 => rfl
  | n + 1 => by rw [priceL, List.length_append, priceL_len t b n]; rfl

theorem priceL_get (t b : Nat) : ∀ n i, i ≤ n → (priceL t b n).getD i 0 = priceV t b i
  | 0, i, h => by have : i = 0 := by omega
                  subst this; rfl
  | n + 1, i, h => by
    by_cases e : i = n + 1
    · subst e; rfl
    · have hl := priceL_len t b n
      rw [priceL, List.getD_eq_getElem?_getD, List.getElem?_append_left (by omega), ← List.getD_eq_getElem?_getD]
      exact priceL_get t b n i (by omega)

theorem cost_ext {b n l : Nat} {v w : Nat → Nat} (h : ∀ i, i < n → v i = w i) (h1 : 1 ≤ l) (h2 : l ≤ n) : costP b v n l = costP b w n l := by
  unfold costP
  rw [h (l - 1) (by omega), h (n - l) (by omega)]

theorem firstP_ext {p q : Nat → Bool} {m : Nat} : ∀ d i, i + d ≤ m + 1 → (∀ j, i ≤ j → j < i + d → p j = q j) → firstP p m d i = firstP q m d i
  | 0, i, _, _ => rfl
  | d + 1, i, hb, h => by
    unfold firstP
    rw [h i (Nat.le_refl i) (by omega), firstP_ext d (i + 1) (by omega) fun j a c => h j (by omega) (by omega)]

theorem cross_ext {b n : Nat} {v w : Nat → Nat} (h : ∀ i, i < n → v i = w i) : crossL b v n = crossL b w n := by
  unfold crossL
  by_cases hn : n = 0
  · subst hn; rfl
  · refine firstP_ext (n - 1) 1 (by omega) fun j h1 h2 => ?_
    unfold stopQ
    rw [h j (by omega), h (n - 1 - j) (by omega)]

theorem cross_le {b n : Nat} {v : Nat → Nat} (hn : 1 ≤ n) : 1 ≤ crossL b v n ∧ crossL b v n ≤ n := by
  unfold crossL
  rcases firstP_spec (stopQ b v n) n (n - 1) 1 (by omega) with ⟨h, _⟩ | ⟨h1, h2, _⟩
  · omega
  · omega

theorem best_ext {b n : Nat} {v w : Nat → Nat} (hn : 1 ≤ n) (h : ∀ i, i < n → v i = w i) : bestP b v n = bestP b w n := by
  unfold bestP
  rw [cross_ext h]
  have hc := cross_le (b := b) (v := w) hn
  simp only
  by_cases hl : crossL b w n < n
  · rw [if_pos hl, if_pos hl, cost_ext h hc.1 hc.2, cost_ext h (by omega) (by omega)]
  · rw [if_neg hl, if_neg hl, cost_ext h hc.1 hc.2]

theorem priceV_zero (t b : Nat) : priceV t b 0 = 0 := rfl
theorem priceV_succ (t b n : Nat) : priceV t b (n + 1) = t + bestP b (priceV t b) (n + 1) := by
  have hl := priceL_len t b n
  have : priceV t b (n + 1) = t + bestP b (fun i => (priceL t b n).getD i 0) (n + 1) := by
    unfold priceV
    rw [priceL, List.getD_eq_getElem?_getD, List.getElem?_append_right (by omega), hl, Nat.sub_self]
    rfl
  rw [this, best_ext (by omega) fun i hi => priceL_get t b n i (by omega)]

/-- What the program takes is the least. -/
theorem best_least {b n : Nat} {v : Nat → Nat} (hn : 1 ≤ n) (mono : ∀ i j, i ≤ j → j < n → v i ≤ v j) :
    (∀ l, 1 ≤ l → l ≤ n → bestP b v n ≤ costP b v n l) ∧ ∃ l, 1 ≤ l ∧ l ≤ n ∧ bestP b v n = costP b v n l := by
  have hc := cross_le (b := b) (v := v) hn
  have go : ∀ l, 1 ≤ l → l < crossL b v n → b + v l ≤ v (n - 1 - l) := by
    intro l h1 h2
    have : stopQ b v n l = false := by
      unfold crossL at h2
      rcases firstP_spec (stopQ b v n) n (n - 1) 1 (by omega) with ⟨h, hno⟩ | ⟨_, _, _, hno⟩
      · exact hno l h1 (by omega)
      · exact hno l h1 h2
    simp only [stopQ, Bool.not_eq_false', Bool.and_eq_true, Nat.blt_eq, Nat.ble_eq] at this
    exact this.2
  have stop : crossL b v n < n → v (n - 1 - crossL b v n) < b + v (crossL b v n) := by
    intro h
    have : stopQ b v n (crossL b v n) = true := by
      unfold crossL at h ⊢
      rcases firstP_spec (stopQ b v n) n (n - 1) 1 (by omega) with ⟨h', _⟩ | ⟨_, _, h3, _⟩
      · omega
      · exact h3
    simp only [stopQ, Bool.not_eq_true', Bool.and_eq_false_iff] at this
    rcases this with q | q
    · have : Nat.blt (crossL b v n) n = true := by rw [Nat.blt_eq]; exact h
      rw [this] at q; cases q
    · have : ¬ b + v (crossL b v n) ≤ v (n - 1 - crossL b v n) := fun hle => by
        have : Nat.ble (b + v (crossL b v n)) (v (n - 1 - crossL b v n)) = true := Nat.ble_eq_true_of_le hle
        rw [this] at q; cases q
      omega
  generalize hL : crossL b v n = L at hc go stop
  have bdef : bestP b v n = if L < n then min (costP b v n L) (costP b v n (L + 1)) else costP b v n L := by unfold bestP; rw [hL]
  -- below the crossing
  have below : ∀ l, 1 ≤ l → l ≤ L → costP b v n L ≤ costP b v n l := by
    intro l h1 h2
    by_cases e : l = L
    · rw [e]; exact Nat.le_refl _
    · have g := go (L - 1) (by omega) (by omega)
      have e1 : n - 1 - (L - 1) = n - L := by omega
      rw [e1] at g
      have m1 := mono (n - L) (n - l) (by omega) (by omega)
      unfold costP
      omega
  have above : L < n → ∀ l, L + 1 ≤ l → l ≤ n → costP b v n (L + 1) ≤ costP b v n l := by
    intro hlt l h1 h2
    have s := stop hlt
    have e1 : n - 1 - L = n - (L + 1) := by omega
    rw [e1] at s
    have m1 := mono L (l - 1) (by omega) (by omega)
    unfold costP
    have e2 : L + 1 - 1 = L := by omega
    rw [e2]
    omega
  refine ⟨fun l h1 h2 => ?_, ?_⟩
  · rw [bdef]
    by_cases hlt : L < n
    · rw [if_pos hlt]
      by_cases h : l ≤ L
      · have := below l h1 h; omega
      · have := above hlt l (by omega) h2; omega
    · rw [if_neg hlt]; exact below l h1 (by omega)
  · rw [bdef]
    by_cases hlt : L < n
    · rw [if_pos hlt]
      by_cases h : costP b v n L ≤ costP b v n (L + 1)
      · exact ⟨L, hc.1, hc.2, Nat.min_eq_left h⟩
      · exact ⟨L + 1, by omega, by omega, Nat.min_eq_right (by omega)⟩
    · rw [if_neg hlt]; exact ⟨L, hc.1, hc.2, rfl⟩

theorem price_mono (t b : Nat) : ∀ n, (∀ i j, i ≤ j → j ≤ n → priceV t b i ≤ priceV t b j)
  | 0, i, j, h1, h2 => by have : i = j := by omega
                          rw [this]; exact Nat.le_refl _
  | n + 1, i, j, h1, h2 => by
    have ih := price_mono t b n
    by_cases hj : j ≤ n
    · exact ih i j h1 hj
    · have ej : j = n + 1 := by omega
      subst ej
      by_cases hi : i = n + 1
      · rw [hi]; exact Nat.le_refl _
      · refine Nat.le_trans (ih i n (by omega) (Nat.le_refl n)) ?_
        rw [priceV_succ]
        cases n with
        | zero => rw [priceV_zero]; exact Nat.zero_le _
        | succ k =>
          rw [priceV_succ t b k]
          obtain ⟨l, h3, h4, e⟩ := (best_least (b := b) (n := k + 2) (v := priceV t b) (by omega) fun i j a c => ih i j a (by omega)).2
          have lo := (best_least (b := b) (n := k + 1) (v := priceV t b) (by omega) fun i j a c => ih i j a (by omega)).1
          rw [e]
          have key : ∃ l', 1 ≤ l' ∧ l' ≤ k + 1 ∧ costP b (priceV t b) (k + 1) l' ≤ costP b (priceV t b) (k + 2) l := by
            by_cases hl : l ≤ k + 1
            · refine ⟨l, h3, hl, ?_⟩
              have := ih (k + 1 - l) (k + 2 - l) (by omega) (by omega)
              unfold costP
              omega
            · have el : l = k + 2 := by omega
              subst el
              refine ⟨k + 1, by omega, Nat.le_refl _, ?_⟩
              have := ih k (k + 1) (by omega) (Nat.le_refl _)
              unfold costP
              rw [Nat.sub_self, Nat.sub_self, priceV_zero, show k + 1 - 1 = k by omega, show k + 2 - 1 = k + 1 by omega]
              omega
          obtain ⟨l', q1, q2, q3⟩ := key
          have := lo l' q1 q2
          omega

theorem price_le (t b : Nat) : ∀ n, priceV t b n ≤ n * (t + b)
  | 0 => by rw [priceV_zero]; exact Nat.zero_le _
  | n + 1 => by
    have ih := price_le t b n
    have mono := price_mono t b n
    obtain ⟨lo, _⟩ := best_least (b := b) (n := n + 1) (v := priceV t b) (by omega) fun i j a c => mono i j a (by omega)
    have := lo (n + 1) (by omega) (Nat.le_refl _)
    rw [priceV_succ]
    unfold costP at this
    rw [Nat.sub_self, priceV_zero, show n + 1 - 1 = n by omega] at this
    have : (n + 1) * (t + b) = n * (t + b) + (t + b) := Nat.succ_mul n (t + b)
    omega
end
end Go.Proofs.YtgnkjmgkfibipaaDoor

/- TrialPrices: the program's prices. -/
namespace Go.Proofs.YtgnkjmgkfibipaaDoor
set_option linter.unusedVariables false
set_option linter.unusedSimpArgs false
open Go Go.R
set_option maxRecDepth 1000000
noncomputable section

theorem f_sub {a b : Nat} (h : b ≤ a) (ha : a < 9223372036854775808) : wrapF .i64 (Int.sub (.ofNat a) (.ofNat b)) = .ofNat (a - b) := by
  have e : Int.sub (.ofNat a) (.ofNat b) = .ofNat (a - b) := by show (a : Int) - (b : Int) = ((a - b : Nat) : Int); omega
  rw [e]; exact wrap_ofNat (by omega)
theorem f_max (a b : Nat) : (if Int.ofNat b > Int.ofNat a then Int.ofNat b else Int.ofNat a) = .ofNat (max a b) := by
  by_cases h : a < b
  · rw [if_pos (by show (b : Int) > (a : Int); omega), Nat.max_eq_right (by omega)]
  · rw [if_neg (by show ¬ (b : Int) > (a : Int); omega), Nat.max_eq_left (by omega)]
theorem f_min (a b : Nat) : (if Int.ofNat b < Int.ofNat a then Int.ofNat b else Int.ofNat a) = .ofNat (min a b) := by
  by_cases h : b < a
  · rw [if_pos (by show (b : Int) < (a : Int); omega), Nat.min_eq_right (by omega)]
  · rw [if_neg (by show ¬ (b : Int) < (a : Int); omega), Nat.min_eq_left (by omega)]

def intsF (n : Nat) (v : Nat → Nat) : List Value := (List.range n).map fun i => .int .i64 (.ofNat (v i))
def rowI (n : Nat) (v : Nat → Nat) : AObj := .cells (intsF n v) true [] (some 3)
def lvI (sp : Option Nat) (n : Nat) : Value := .slice (some ⟨0, 0, sp⟩) n n
theorem intsF_len (n : Nat) (v : Nat → Nat) : (intsF n v).length = n := by simp [intsF]
theorem intsF_plain (n : Nat) (v : Nat → Nat) : ∀ x ∈ intsF n v, plainV x = true := fun x hx => by
  obtain ⟨i, _, rfl⟩ := List.mem_map.1 hx; rfl
theorem intsF_succ (n : Nat) (v : Nat → Nat) : intsF n v ++ [.int .i64 (.ofNat (v n))] = intsF (n + 1) v := by
  unfold intsF; rw [List.range_succ, List.map_append]; rfl
theorem rowI_clo {n : Nat} {v : Nat → Nat} : ∀ x ∈ [rowI n v], CloO 1 x := fun x hx => by rw [List.mem_singleton.1 hx]; exact cloO_plain (intsF_plain n v) _ _

theorem int_at {h : AH} {g n i : Nat} {v : Nat → Nat} (hg : h.get g = rowI n v) (hlt : i < n) : rowAt? h g (0 + i * 1) 1 = some [.int .i64 (.ofNat (v i))] := by
  rw [row_at hg (by rw [intsF_len]; omega), Nat.zero_add, Nat.mul_one]
  have : (intsF n v)[i]? = some (.int .i64 (.ofNat (v i))) := by simp [intsF, hlt]
  rw [List.take_one, List.head?_drop, this]
  rfl

def c75 : Code := bodyOf Tryd.f75
def lp75 : Code := within (tl (hd (behind 2 c75)))
def bd75 : Code := within (hd (tl (within lp75)))
def in75 : Code := within (hd (tl bd75))

def S75 (sp : Option Nat) (L t b n : Nat) : List (Nat × Value) := [(0, i64 L), (1, i64 t), (2, i64 b), (7, lvI sp n), (8, i64 n)]
def S75i (sp : Option Nat) (L t b n l : Nat) : List (Nat × Value) := [(0, i64 L), (1, i64 t), (2, i64 b), (7, lvI sp n), (8, i64 n), (9, i64 l)]

/-- Known or not, the capacity is of one cell's elements. -/
def spOk : Option Nat → Bool
  | none => true
  | some s => Nat.beq s 1
theorem sp_cases {sp : Option Nat} (h : spOk sp = true) : sp = none ∨ sp = some 1 := by
  cases sp with
  | none => exact .inl rfl
  | some s => exact .inr (by rw [Nat.eq_of_beq_eq_true h])

theorem s75_clo {sp : Option Nat} (h : spOk sp = true) {L t b n : Nat} : ∀ q ∈ S75 sp L t b n, Clo 1 q.2 := by
  rcases sp_cases h with rfl | rfl <;> exact clo_all (by kernel_rfl)
theorem s75i_clo {sp : Option Nat} (h : spOk sp = true) {L t b n l : Nat} : ∀ q ∈ S75i sp L t b n l, Clo 1 q.2 := by
  rcases sp_cases h with rfl | rfl <;> exact clo_all (by kernel_rfl)

theorem cross_loop {sp : Option Nat} (hsp : spOk sp = true) (L t b n : Nat) (v : Nat → Nat) (hb : b < 1000) (hn : n < 1000) (hv : ∀ i, i < n → v i < 1000000) : ∀ d l, 1 ≤ l → l + d = n →
    Runs Tryd.prog 0 in75 (sth (S75i sp L t b n l) 78 [rowI n v]) fun x af => x = .exit 2 ∧ Less 0 (sth (S75i sp L t b n (firstP (stopQ b v n) n d l)) 78 [rowI n v]) af := by
  intro d
  induction d with
  | zero =>
    intro l hl1 hl
    have him : l = n := by omega
    subst him
    refine Runs.lp (by kernel_rfl) (Runs.sq (by kernel_rfl) (Runs.sqR mixed hk38 [viaV 2 (.bool false)] (by kernel_rfl) (by kernel_rfl) (by kernel_rfl) (oblC (shown_eq (v := .bool (ltF (.ofNat l) (.ofNat l))) (by kernel_rfl) (by kernel_rfl) (by rw [lt_self])) oblN) ?_))
    refine Runs.cd (b := false) (by kernel_rfl) (fun h => by cases h) (fun _ => Runs.now (x := .exit 2) (by kernel_rfl) ⟨rfl, ?_⟩)
    exact less_seenP (s75i_clo hsp) rowI_clo (Nat.zero_le 1) (by kernel_rfl) (by kernel_rfl) (by kernel_rfl) (by kernel_rfl)
  | succ d ih =>
    intro l hl1 hl
    have hlt : l < n := by omega
    have h1 := hv l hlt
    have h2 := hv (n - 1 - l) (by omega)
    refine Runs.lp (by kernel_rfl) (Runs.sq (by kernel_rfl) (Runs.sqR mixed hk38 [viaV 2 (.bool true), viaV 7 (.pointer (some ⟨0, 0 + l * 1, none⟩)), viaV 8 (.int .i64 (.ofNat (v l))), viaV 9 (.int .i64 (.ofNat (b + v l))), viaV 12 (.int .i64 (.ofNat (n - 1))),
        viaV 14 (.int .i64 (.ofNat (n - 1 - l))), viaV 15 (.pointer (some ⟨0, 0 + (n - 1 - l) * 1, none⟩)), viaV 16 (.int .i64 (.ofNat (v (n - 1 - l))))] (by kernel_rfl) (by kernel_rfl) (by kernel_rfl)
      (oblC (shown_eq (v := .bool (ltF (.ofNat l) (.ofNat n))) (by kernel_rfl) (by kernel_rfl) (by rw [lt_of hlt]))
      (oblC (shown_idx (n := n) (by kernel_rfl) hlt) (oblC (shown_cell (by kernel_rfl) (int_at (g := 0) (n := n) (v := v) (by kernel_rfl) hlt))
      (oblC (shown_eq (v := .int .i64 (wrapF .i64 (Int.add (.ofNat b) (.ofNat (v l))))) (by kernel_rfl) (by kernel_rfl) (by rw [f_add (by omega)]))
      (oblC (shown_eq (v := .int .i64 (wrapF .i64 (Int.sub (.ofNat n) (.ofNat 1)))) (by kernel_rfl) (by kernel_rfl) (by rw [f_sub (by omega) (by omega)]))
      (oblC (shown_eq (v := .int .i64 (wrapF .i64 (Int.sub (.ofNat (n - 1)) (.ofNat l)))) (by kernel_rfl) (by kernel_rfl) (by rw [f_sub (by omega) (by omega)]))
      (oblC (shown_idx (n := n) (by kernel_rfl) (by omega)) (oblC (shown_cell (by kernel_rfl) (int_at (g := 0) (n := n) (v := v) (by kernel_rfl) (by omega))) oblN)))))))) ?_))
    have hq : stopQ b v n l = !(Nat.ble (b + v l) (v (n - 1 - l))) := by
      unfold stopQ
      rw [show Nat.blt l n = true by rw [Nat.blt_eq]; exact hlt]
      rfl
    refine Runs.cd (b := Nat.ble (b + v l) (v (n - 1 - l))) (by kernel_rfl) (fun hc => Runs.now (x := .normal) (by kernel_rfl) ?_) (fun hc => Runs.now (x := .exit 2) (by kernel_rfl) ⟨rfl, ?_⟩)
    · have e : firstP (stopQ b v n) n (d + 1) l = firstP (stopQ b v n) n d (l + 1) := by
        rw [hc] at hq
        show (if stopQ b v n l then _ else _) = _
        rw [hq]; rfl
      rw [e]
      show Runs Tryd.prog 0 _ _ _
      refine Runs.bk (id := 3) (by kernel_rfl) (Runs.rg mixed hk38 [] (by kernel_rfl) (by kernel_rfl) (by kernel_rfl) oblN ?_)
      show Runs Tryd.prog 0 in75 _ _
      have ew : S75i sp L t b n (l + 1) = [(0, i64 L), (1, i64 t), (2, i64 b), (7, lvI sp n), (8, i64 n), (9, .int .i64 (wrapF .i64 (Int.add (.ofNat l) (.ofNat 1))))] := by rw [wrap_succ (by omega : l < 4611686018427387904)]; rfl
      refine Runs.less (af1 := sth (S75i sp L t b n (l + 1)) 78 [rowI n v]) (less_seenP (s75i_clo hsp) rowI_clo (Nat.zero_le 1) ?_ (by kernel_rfl) (by kernel_rfl) (by kernel_rfl)) (ih (l + 1) (by omega) (by omega))
      rw [ew]
      exact Eq.trans (Eq.refl _) (by kernel_rfl)
    · have e : firstP (stopQ b v n) n (d + 1) l = l := by
        rw [hc] at hq
        show (if stopQ b v n l then _ else _) = _
        rw [hq]; rfl
      rw [e]
      exact less_seenP (s75i_clo hsp) rowI_clo (Nat.zero_le 1) (by kernel_rfl) (by kernel_rfl) (by kernel_rfl) (by kernel_rfl)
end
end Go.Proofs.YtgnkjmgkfibipaaDoor

/- TrialPrices: the program's prices, as a contract. -/
namespace Go.Proofs.YtgnkjmgkfibipaaDoor
set_option linter.unusedVariables false
set_option linter.unusedSimpArgs false
open Go Go.R
set_option maxRecDepth 1000000
noncomputable section

theorem int_info : ∃ info, Tryd.prog.info? 3 = some info ∧ info.size = 1 ∧ (decide (info.bytes > 1000000) || !zfit info) = false := ⟨(Tryd.prog.info? 3).get!, by kernel_rfl, by kernel_rfl, by kernel_rfl⟩

/-- One number more: the old row at place i0 of a heap, the new number at place j. -/
theorem append_int {i0 j n : Nat} (hn : n < 1000000) {rows : List Value} {par : List Nat} {h : AH} {x : Value} (hx : cellV x = true) (hl : rows.length = n) (h1 : h.get i0 = .cells rows true par (some 3)) (h2 : rowAt? h j 0 1 = some [x]) :
    appendA Tryd.prog #[24, 24] (.slice (some ⟨i0, 0, some 1⟩) n n) (.slice (some ⟨j, 0, none⟩) 1 1) h =
      some (.slice (some ⟨h.next, 0, some 1⟩) (n + 1) (n + 1), ((h.put i0 (.cells rows false par (some 3))).new (.cells (rows ++ [x]) true (i0 :: par) (some 3))).2) := by
  have e1 : Tryd.prog.underlying 24 = some (.slice 3) := by kernel_rfl
  obtain ⟨info, e2, e3, e4⟩ := int_info
  rw [Bool.or_eq_false_iff] at e4
  have e5 : srcA 1 (.slice (some ⟨j, 0, none⟩) 1 1) h = some ([x], 1) := by
    unfold srcA
    simp only [show ¬ (1 = 0) by decide, if_false]
    show (rowAt? h j 0 1).map (·, 1) = _
    rw [h2]; rfl
  have e6 : (decide (n > 1000000)) = false := by simp; omega
  have e7 : appendU 3 1 i0 0 n 1 [x] h = some (.slice (some ⟨h.next, 0, some 1⟩) (n + 1) (n + 1), ((h.put i0 (.cells rows false par (some 3))).new (.cells (rows ++ [x]) true (i0 :: par) (some 3))).2) := by
    unfold appendU
    rw [h1]
    show (if 0 + n * 1 = rows.length then _ else _) = _
    rw [if_pos (by omega)]
    rfl
  unfold appendA
  simp only [List.getElem?_toArray, List.getElem?_cons_zero, List.getElem?_cons_succ, e1, e2, srcKind, Bool.not_true, Bool.false_eq_true, if_false, e3, e5]
  have e8 : ([x].all cellV) = true := by simp [hx]
  simp only [e8, e4.1, e4.2, e6, Bool.not_true, Bool.or_false, Bool.false_or, Bool.or_self, decide_false, show (1 = 0) = False by simp, show (1 : Nat) > 1000000 ↔ False by simp, show ((1 : Nat) = 0) = False by simp, if_false, decide_true, ne_eq, not_true_eq_false, Bool.false_eq_true, show (0 + 1 = 1) by rfl, e7]

def T75 (L t b n : Nat) : List (Nat × Value) := [(0, i64 L), (1, i64 t), (2, i64 b), (7, lvI (some 1) (n + 1)), (8, i64 n)]

theorem pri_next {sz L t b n q : Nat} {v : Nat → Nat} {k0 : Code} {Q : AExit → AF → Prop} {rows : List Value} (hrows : rows = intsF (n + 1) v) {par : List Nat} {af : AF} (hsz : af.sz = sz)
    (tt : ([0, 1, 2, 7, 8] : List Nat).map af.tm.get = [some (i64 L), some (i64 t), some (i64 b), some (.slice (some ⟨q, 0, some 1⟩) (n + 1) (n + 1)), some (i64 n)]) (g : af.h.get q = .cells rows true par (some 3))
    (h : Runs Tryd.prog 0 k0 (sth (T75 L t b n) sz [rowI (n + 1) v]) Q) : Runs Tryd.prog 0 k0 af Q := by
  subst hrows
  simp only [List.map_cons, List.map_nil, List.cons.injEq, and_true] at tt
  obtain ⟨t0, t1, t2, t7, t8⟩ := tt
  refine Runs.renum (l := T75 L t b n) (os := [rowI (n + 1) v]) (fun _ => q) hsz (Nat.zero_le 1) (fun j hj => absurd hj (Nat.not_lt_zero j)) (fun a b ha hb _ => ?_) (fun p hp => ?_) (fun j o ho => ?_) (fun a b ha hb hne => ?_) h
  · have ha' : a < 1 := ha
    have hb' : b < 1 := hb
    omega
  · simp only [T75, List.mem_cons, List.mem_nil_iff, or_false] at hp
    rcases hp with rfl | rfl | rfl | rfl | rfl
    · exact ⟨_, t0, Ren.plain rfl⟩
    · exact ⟨_, t1, Ren.plain rfl⟩
    · exact ⟨_, t2, Ren.plain rfl⟩
    · exact ⟨_, t7, Ren.sliceU (show 0 < 1 by decide) rfl⟩
    · exact ⟨_, t8, Ren.plain rfl⟩
  · match j, ho with
    | 0, ho =>
      have : rowI (n + 1) v = o := Option.some.inj ho
      subst this
      show RenO _ _ (af.h.get q) _
      rw [g]
      refine ⟨rfl, fun k u w hu hw => ?_, fun _ => rfl, rfl, .inr rfl⟩
      rw [hu] at hw
      cases hw
      exact Ren.plain (intsF_plain _ _ u (List.mem_of_getElem? hu))
    | j + 1, ho => simp at ho
  · have ha' : a < 1 := ha
    have hb' : b < 1 := hb
    omega

theorem price_small {t b n : Nat} (ht : t ≤ 50) (hb : b ≤ 50) (hn : n ≤ 20) : priceV t b n < 1000000 := by
  have h1 := price_le t b n
  have h2 : n * (t + b) ≤ 20 * 100 := Nat.mul_le_mul hn (by omega)
  omega

theorem pri_round {sp : Option Nat} (hsp : sp = some 1 ∨ sp = none) (L t b n : Nat) (ht : t ≤ 50) (hb : b ≤ 50) (hn1 : 1 ≤ n) (hnL : n ≤ L) (hL : L ≤ 12) {Q : AExit → AF → Prop} (hone : sp = none → n = 1)
    (next : Runs Tryd.prog 0 lp75 (sth (S75 (some 1) L t b (n + 1)) 78 [rowI (n + 1) (priceV t b)]) Q) : Runs Tryd.prog 0 lp75 (sth (S75 sp L t b n) 78 [rowI n (priceV t b)]) Q := by
  have hsp' : spOk sp = true := by rcases hsp with rfl | rfl <;> rfl
  let v := priceV t b
  have hv : ∀ i, i ≤ 13 → v i < 1000000 := fun i hi => price_small ht hb (by omega)
  let l := crossL b v n
  have hl := cross_le (b := b) (v := v) hn1
  have hl' : 1 ≤ l ∧ l ≤ n := hl
  refine Runs.lp (by kernel_rfl) (Runs.sq (by kernel_rfl) (Runs.sqR mixed hk38 [] (by kernel_rfl) (by kernel_rfl) (by kernel_rfl) oblN ?_))
  have hle : leF (.ofNat n) (.ofNat L) = true := by rw [leF_eq, decide_eq_true_eq]; show ((n : Nat) : Int) ≤ (L : Int); omega
  refine Runs.cd (b := leF (.ofNat n) (.ofNat L)) (by kernel_rfl) (fun _ => Runs.now (x := .normal) (by kernel_rfl) ?_) (fun hf => by rw [hle] at hf; cases hf)
  show Runs Tryd.prog 0 _ _ _
  refine Runs.sq (by kernel_rfl) (Runs.bk (id := 1) (by kernel_rfl) ?_)
  refine Runs.sqR mixed hk38 [] (by kernel_rfl) (by kernel_rfl) (by kernel_rfl) oblN ?_
  refine Runs.sq (by kernel_rfl) (Runs.bk (id := 2) (by kernel_rfl) ?_)
  refine Runs.less (af1 := sth (S75i sp L t b n 1) 78 [rowI n v]) (less_seenP (s75i_clo hsp') rowI_clo (Nat.zero_le 1) (by kernel_rfl) (by kernel_rfl) (by kernel_rfl) (by kernel_rfl)) ?_
  refine (cross_loop hsp' L t b n v (by omega) (by omega) (fun i hi => hv i (by omega)) (n - 1) 1 (Nat.le_refl 1) (by omega)).mono fun x af hx => ?_
  obtain ⟨rfl, less⟩ := hx
  show Runs Tryd.prog 0 _ af _
  refine Runs.less (af1 := sth (S75i sp L t b n l) 78 [rowI n v]) less ?_
  have b1 := hv (l - 1) (by omega)
  have b2 := hv (n - l) (by omega)
  have c1 : (Int.ofNat (costP b v n l)) = if Int.ofNat (v (n - l)) > Int.ofNat (b + v (l - 1)) then Int.ofNat (v (n - l)) else Int.ofNat (b + v (l - 1)) := (f_max (b + v (l - 1)) (v (n - l))).symm
  refine Runs.sqR mixed hk38 [viaV 3 (.int .i64 (.ofNat (l - 1))), viaV 4 (.pointer (some ⟨0, 0 + (l - 1) * 1, none⟩)), viaV 5 (.int .i64 (.ofNat (v (l - 1)))), viaV 6 (.int .i64 (.ofNat (b + v (l - 1)))), viaV 10 (.int .i64 (.ofNat (n - l))),
      viaV 11 (.pointer (some ⟨0, 0 + (n - l) * 1, none⟩)), viaV 12 (.int .i64 (.ofNat (v (n - l)))), viaV 13 (.int .i64 (.ofNat (costP b v n l)))] (by kernel_rfl) (by kernel_rfl) (by kernel_rfl)
    (oblC (shown_eq (v := .int .i64 (wrapF .i64 (Int.sub (.ofNat l) (.ofNat 1)))) (by kernel_rfl) (by kernel_rfl) (by rw [f_sub (by omega) (by omega)]))
    (oblC (shown_idx (n := n) (by kernel_rfl) (by omega)) (oblC (shown_cell (by kernel_rfl) (int_at (g := 0) (n := n) (v := v) (by kernel_rfl) (by omega)))
    (oblC (shown_eq (v := .int .i64 (wrapF .i64 (Int.add (.ofNat b) (.ofNat (v (l - 1)))))) (by kernel_rfl) (by kernel_rfl) (by rw [f_add (by omega)]))
    (oblC (shown_eq (v := .int .i64 (wrapF .i64 (Int.sub (.ofNat n) (.ofNat l)))) (by kernel_rfl) (by kernel_rfl) (by rw [f_sub (by omega) (by omega)]))
    (oblC (shown_idx (n := n) (by kernel_rfl) (by omega)) (oblC (shown_cell (by kernel_rfl) (int_at (g := 0) (n := n) (v := v) (by kernel_rfl) (by omega)))
    (oblC (shown_eq (v := .int .i64 (if Int.ofNat (v (n - l)) > Int.ofNat (b + v (l - 1)) then Int.ofNat (v (n - l)) else Int.ofNat (b + v (l - 1)))) (by kernel_rfl) (by kernel_rfl) (by rw [c1])) oblN)))))))) ?_
  -- behind the best: the append, and the next number
  have last : ∀ (af : AF), Less 0 (sth [(0, i64 L), (1, i64 t), (2, i64 b), (7, lvI sp n), (8, i64 n), (10, .int .i64 (.ofNat (bestP b v n)))] 78 [rowI n v]) af →
      Runs Tryd.prog 0 (tl (tl (tl (tl bd75)))) af (caught 1 (andThen (fun a => Runs Tryd.prog 0 (tl (tl (within lp75))) a (andThen (fun a => Runs Tryd.prog 0 lp75 a Q) Q)) (andThen (fun a => Runs Tryd.prog 0 lp75 a Q) Q))) := by
    intro af less
    obtain ⟨m, rfl⟩ : ∃ m, n = m + 1 := ⟨n - 1, by omega⟩
    have hbest : t + bestP b v (m + 1) = v (m + 1) := (priceV_succ t b m).symm
    have hx := hv (m + 1) (by omega)
    let x : Value := .int .i64 (.ofNat (v (m + 1)))
    let Hp : AH := ((hp [rowI (m + 1) v]).new (.cells [x] true [] (some 3))).2
    have more : Runs Tryd.prog 0 (tl (tl (within lp75))) (sth (T75 L t b (m + 1)) 78 [rowI (m + 2) v]) (andThen (fun a => Runs Tryd.prog 0 lp75 a Q) Q) := by
      refine Runs.rg mixed hk38 [] (by kernel_rfl) (by kernel_rfl) (by kernel_rfl) oblN ?_
      show Runs Tryd.prog 0 lp75 _ _
      have ew : S75 (some 1) L t b (m + 2) = [(0, i64 L), (1, i64 t), (2, i64 b), (7, lvI (some 1) (m + 2)), (8, .int .i64 (wrapF .i64 (Int.add (.ofNat (m + 1)) (.ofNat 1))))] := by rw [wrap_succ (by omega : m + 1 < 4611686018427387904)]; rfl
      refine Runs.less (af1 := sth (S75 (some 1) L t b (m + 2)) 78 [rowI (m + 2) v]) (less_seenP (s75_clo rfl) rowI_clo (Nat.zero_le 1) ?_ (by kernel_rfl) (by kernel_rfl) (by kernel_rfl)) next
      rw [ew]
      exact Eq.trans (Eq.refl _) (by kernel_rfl)
    refine Runs.less less ?_
    rcases hsp with rfl | rfl
    · let Hn : AH := ((Hp.put 0 (.cells (intsF (m + 1) v) false [] (some 3))).new (.cells (intsF (m + 1) v ++ [x]) true [0] (some 3))).2
      have hap : appendA Tryd.prog #[24, 24] (.slice (some ⟨0, 0, some 1⟩) (m + 1) (m + 1)) (.slice (some ⟨1, 0, none⟩) 1 1) Hp = some (.slice (some ⟨2, 0, some 1⟩) (m + 2) (m + 2), Hn) :=
        append_int (i0 := 0) (j := 1) (x := x) (by omega) rfl (intsF_len _ _) (by kernel_rfl) (by kernel_rfl)
      refine Runs.rg mixed hk38 [viaV 3 x, ⟨5, .slice (some ⟨2, 0, some 1⟩) (m + 2) (m + 2), some Hn, none⟩] (by kernel_rfl) (by kernel_rfl) (by kernel_rfl)
        (oblC (shown_eq (v := .int .i64 (wrapF .i64 (Int.add (.ofNat t) (.ofNat (bestP b v (m + 1)))))) (by kernel_rfl) (by kernel_rfl) (by rw [f_add (by omega), hbest]))
          (oblC ⟨by kernel_rfl, (show _ = appendA Tryd.prog #[24, 24] (.slice (some ⟨0, 0, some 1⟩) (m + 1) (m + 1)) (.slice (some ⟨1, 0, none⟩) 1 1) Hp by kernel_rfl).trans hap⟩ oblN)) ?_
      exact pri_next (q := 2) (par := [0]) (intsF_succ (m + 1) v) (by kernel_rfl) (by kernel_rfl) (by kernel_rfl) more
    · have h1 := hone rfl
      have hm : m = 0 := by omega
      subst hm
      have hbest1 : t + bestP b v 1 = v 1 := hbest
      have hx1 : v 1 < 1000000 := hx
      refine Runs.rg mixed hk38 [viaV 3 x] (by kernel_rfl) (by kernel_rfl) (by kernel_rfl)
        (oblC (shown_eq (v := .int .i64 (wrapF .i64 (Int.add (.ofNat t) (.ofNat (bestP b v 1))))) (by kernel_rfl) (by kernel_rfl) (by rw [f_add (by omega), hbest1])) oblN) ?_
      exact pri_next (q := 2) (rows := [.int .i64 (.ofNat (v 0)), x]) (par := []) rfl (by kernel_rfl) (by kernel_rfl) (by kernel_rfl) more
  refine Runs.sq (by kernel_rfl) ?_
  refine Runs.sqR mixed hk38 [] (by kernel_rfl) (by kernel_rfl) (by kernel_rfl) oblN ?_
  have hbd : bestP b v n = if l < n then min (costP b v n l) (costP b v n (l + 1)) else costP b v n l := rfl
  have clo6 : ∀ z : Int, ∀ q ∈ [(0, i64 L), (1, i64 t), (2, i64 b), (7, lvI sp n), (8, i64 n), (10, Value.int .i64 z)], Clo 1 q.2 := by
    intro z
    rcases hsp with rfl | rfl <;> exact clo_all (by kernel_rfl)
  refine Runs.cd (b := ltF (.ofNat l) (.ofNat n)) (by kernel_rfl) (fun hc => ?_) (fun hc => Runs.now (x := .normal) (by kernel_rfl) ?_)
  · have hlt : l < n := by
      rcases Nat.lt_or_ge l n with h | h
      · exact h
      · rw [show l = n by omega, lt_self] at hc; cases hc
    have b3 := hv l (by omega)
    have b4 := hv (n - 1 - l) (by omega)
    have e1 : n - (l + 1) = n - 1 - l := by omega
    have c2 : (Int.ofNat (costP b v n (l + 1))) = if Int.ofNat (v (n - 1 - l)) > Int.ofNat (b + v l) then Int.ofNat (v (n - 1 - l)) else Int.ofNat (b + v l) := by
      rw [f_max]
      unfold costP
      rw [e1]
      rfl
    have c3 : (Int.ofNat (bestP b v n)) = if Int.ofNat (costP b v n (l + 1)) < Int.ofNat (costP b v n l) then Int.ofNat (costP b v n (l + 1)) else Int.ofNat (costP b v n l) := by
      rw [f_min, hbd, if_pos hlt]
    refine Runs.rg mixed hk38 [viaV 4 (.pointer (some ⟨0, 0 + l * 1, none⟩)), viaV 5 (.int .i64 (.ofNat (v l))), viaV 6 (.int .i64 (.ofNat (b + v l))), viaV 9 (.int .i64 (.ofNat (n - 1))), viaV 11 (.int .i64 (.ofNat (n - 1 - l))),
        viaV 12 (.pointer (some ⟨0, 0 + (n - 1 - l) * 1, none⟩)), viaV 13 (.int .i64 (.ofNat (v (n - 1 - l)))), viaV 14 (.int .i64 (.ofNat (costP b v n (l + 1)))), viaV 15 (.int .i64 (.ofNat (bestP b v n)))] (by kernel_rfl) (by kernel_rfl) (by kernel_rfl)
      (oblC (shown_idx (n := n) (by kernel_rfl) hlt) (oblC (shown_cell (by kernel_rfl) (int_at (g := 0) (n := n) (v := v) (by kernel_rfl) hlt))
      (oblC (shown_eq (v := .int .i64 (wrapF .i64 (Int.add (.ofNat b) (.ofNat (v l))))) (by kernel_rfl) (by kernel_rfl) (by rw [f_add (by omega)]))
      (oblC (shown_eq (v := .int .i64 (wrapF .i64 (Int.sub (.ofNat n) (.ofNat 1)))) (by kernel_rfl) (by kernel_rfl) (by rw [f_sub (by omega) (by omega)]))
      (oblC (shown_eq (v := .int .i64 (wrapF .i64 (Int.sub (.ofNat (n - 1)) (.ofNat l)))) (by kernel_rfl) (by kernel_rfl) (by rw [f_sub (by omega) (by omega)]))
      (oblC (shown_idx (n := n) (by kernel_rfl) (by omega)) (oblC (shown_cell (by kernel_rfl) (int_at (g := 0) (n := n) (v := v) (by kernel_rfl) (by omega)))
      (oblC (shown_eq (v := .int .i64 (if Int.ofNat (v (n - 1 - l)) > Int.ofNat (b + v l) then Int.ofNat (v (n - 1 - l)) else Int.ofNat (b + v l))) (by kernel_rfl) (by kernel_rfl) (by rw [c2]))
      (oblC (shown_eq (v := .int .i64 (if Int.ofNat (costP b v n (l + 1)) < Int.ofNat (costP b v n l) then Int.ofNat (costP b v n (l + 1)) else Int.ofNat (costP b v n l))) (by kernel_rfl) (by kernel_rfl) (by rw [c3])) oblN))))))))) ?_
    exact last _ (less_seenP (clo6 _) rowI_clo (Nat.zero_le 1) (by kernel_rfl) (by kernel_rfl) (by kernel_rfl) (by kernel_rfl))
  · have hge : ¬ l < n := fun h => by rw [lt_of h] at hc; cases hc
    have e : costP b v n l = bestP b v n := by rw [hbd, if_neg hge]
    refine last _ ?_
    rw [← e]
    exact less_seenP (clo6 _) rowI_clo (Nat.zero_le 1) (by kernel_rfl) (by kernel_rfl) (by kernel_rfl) (by kernel_rfl)
end
end Go.Proofs.YtgnkjmgkfibipaaDoor

/- TrialPrices: both lists of prices, as contracts. -/
namespace Go.Proofs.YtgnkjmgkfibipaaDoor
set_option linter.unusedVariables false
set_option linter.unusedSimpArgs false
open Go Go.R
set_option maxRecDepth 1000000
noncomputable section

theorem le_false {a b : Nat} (h : ¬ a ≤ b) : leF (.ofNat a) (.ofNat b) = false := by rw [leF_eq, decide_eq_false_iff_not]; show ¬ (a : Int) ≤ (b : Int); omega

theorem pri_loop (L t b : Nat) (ht : t ≤ 50) (hb : b ≤ 50) (hL : L ≤ 12) : ∀ d n (sp : Option Nat), (sp = some 1 ∨ sp = none) → (sp = none → n = 1) → 1 ≤ n → n + d = L + 1 →
    Runs Tryd.prog 0 lp75 (sth (S75 sp L t b n) 78 [rowI n (priceV t b)]) fun x af => x = .exit 0 ∧ ∃ sp', (sp' = some 1 ∨ sp' = none) ∧ Less 0 (sth (S75 sp' L t b (L + 1)) 78 [rowI (L + 1) (priceV t b)]) af
  | 0, n, sp, hsp, hone, h1, hn => by
    have hsp' : spOk sp = true := by rcases hsp with rfl | rfl <;> rfl
    have en : n = L + 1 := by omega
    subst en
    refine Runs.lp (by kernel_rfl) (Runs.sq (by kernel_rfl) (Runs.sqR mixed hk38 [] (by kernel_rfl) (by kernel_rfl) (by kernel_rfl) oblN ?_))
    refine Runs.cd (b := leF (.ofNat (L + 1)) (.ofNat L)) (by kernel_rfl) (fun h => by rw [le_false (by omega)] at h; cases h) (fun _ => Runs.now (x := .exit 0) (by kernel_rfl) ⟨rfl, sp, hsp, ?_⟩)
    exact less_seenP (s75_clo hsp') rowI_clo (Nat.zero_le 1) (by kernel_rfl) (by kernel_rfl) (by kernel_rfl) (by kernel_rfl)
  | d + 1, n, sp, hsp, hone, h1, hn => pri_round hsp L t b n ht hb h1 (by omega) hL hone (pri_loop L t b ht hb hL d (n + 1) (some 1) (.inl rfl) (fun h => by cases h) (by omega) (by omega))

def NewInts (n : Nat) (v : Nat → Nat) (v' : Value) (h' : AH) : Prop := ∃ i par, (v' = rowV i (intsF n v).length none ∨ v' = rowK i (intsF n v).length none) ∧ h'.get i = .cells (intsF n v) true par (some 3)

theorem prices_local (L t b : Nat) (ht : t ≤ 50) (hb : b ≤ 50) (hL : L ≤ 12) : Local Tryd.prog 0 75 [i64 L, i64 t, i64 b] AH.empty (NewInts (L + 1) (priceV t b)) := by
  refine local_of noNum Tryd.func75 (show Tryd.f75.body = some c75 by kernel_rfl) ?_
  refine Runs.sqR mixed hk38 [] (by kernel_rfl) (by kernel_rfl) (by kernel_rfl) oblN ?_
  refine Runs.sqR mixed hk38 [] (by kernel_rfl) (by kernel_rfl) (by kernel_rfl) oblN ?_
  refine Runs.sq (by kernel_rfl) (Runs.sqR mixed hk38 [] (by kernel_rfl) (by kernel_rfl) (by kernel_rfl) oblN (Runs.bk (id := 0) (by kernel_rfl) ?_))
  refine Runs.less (af1 := sth (S75 none L t b 1) 78 [rowI 1 (priceV t b)]) (less_seenP (s75_clo rfl) rowI_clo (Nat.zero_le 1) (by kernel_rfl) (by kernel_rfl) (by kernel_rfl) (by kernel_rfl)) ?_
  refine (pri_loop L t b ht hb hL L 1 none (.inr rfl) (fun _ => rfl) (Nat.le_refl 1) (by omega)).mono fun x af hx => ?_
  obtain ⟨rfl, sp, hsp, less⟩ := hx
  show Runs Tryd.prog 0 _ af _
  have hl := intsF_len (L + 1) (priceV t b)
  rcases hsp with rfl | rfl
  · refine Runs.less less (Runs.sqR mixed hk38 [] (by kernel_rfl) (by kernel_rfl) (by kernel_rfl) oblN (Runs.now (x := .ret) (by kernel_rfl) ⟨.inr rfl, [lvI (some 1) (L + 1)], by kernel_rfl, 0, [], .inl (by rw [hl]; rfl), by kernel_rfl⟩))
  · refine Runs.less less (Runs.sqR mixed hk38 [] (by kernel_rfl) (by kernel_rfl) (by kernel_rfl) oblN (Runs.now (x := .ret) (by kernel_rfl) ⟨.inr rfl, [lvI none (L + 1)], by kernel_rfl, 0, [], .inr (by rw [hl]; rfl), by kernel_rfl⟩))

theorem new_says {fid : FuncId} {args : List Value} {n : Nat} {v : Nat → Nat} (L : Local Tryd.prog 0 fid args AH.empty (NewInts n v)) (pa : ∀ x ∈ args, plainV x = true) (h : AH) :
    Says Tryd.prog h fid args (.slice (some ⟨h.next, 0, some 1⟩) n n) (h.new (rowI n v)).2 := by
  intro F w0 μ w args' H hl
  have := fresh_ok (cells := intsF n v) (ty := some 3) (e := none) L pa (intsF_plain n v) (fun v hv => by cases hv) h H hl
  rw [show rowV h.next (intsF n v).length none = .slice (some ⟨h.next, 0, some 1⟩) n n by rw [intsF_len]; rfl] at this
  exact this

theorem three_plain {a b c : Int} : ∀ x ∈ [Value.int .i64 a, .int .i64 b, .int .i64 c], plainV x = true := fun x hx => by
  simp only [List.mem_cons, List.mem_nil_iff, or_false] at hx
  rcases hx with rfl | rfl | rfl <;> rfl

/-! ### The reference's -/
end
end Go.Proofs.YtgnkjmgkfibipaaDoor

/- TrialPrices: Price, in both texts. -/
namespace Go.Proofs.YtgnkjmgkfibipaaDoor
set_option linter.unusedVariables false
set_option linter.unusedSimpArgs false
open Go Go.R
set_option maxRecDepth 1000000
noncomputable section

/-! ### outside and in at the bounds of prices, whatever the number -/
def outG : List Value → Option Value
  | [.int .i64 x, .int .i64 (.ofNat 0), .int .i64 (.ofNat hi)] => if Nat.beq hi 12 then some (.bool (outB x 0 12)) else if Nat.beq hi 50 then some (.bool (outB x 0 50)) else none
  | _ => none
def inG : List Value → Option Value
  | [.int .i64 x, .int .i64 (.ofNat 0), .int .i64 (.ofNat hi)] => if Nat.beq hi 12 then some (.bool (inR x 0 12)) else if Nat.beq hi 50 then some (.bool (inR x 0 50)) else none
  | _ => none
def boundRow (x : Int) : Bool := says (callA Tryd.prog works 1000 74 [.int .i64 x, i64 0, i64 12] AH.empty) (.bool (outB x 0 12)) && (says (callA Tryd.prog works 1000 74 [.int .i64 x, i64 0, i64 50] AH.empty) (.bool (outB x 0 50)) &&
  (says (callA Tryd.prog works 1000 81 [.int .i64 x, i64 0, i64 12] AH.empty) (.bool (inR x 0 12)) && says (callA Tryd.prog works 1000 81 [.int .i64 x, i64 0, i64 50] AH.empty) (.bool (inR x 0 50))))
theorem bound_neg (k : Nat) : boundRow (.negSucc k) = true := by kernel_rfl
theorem bound_big (k : Nat) : boundRow (.ofNat (k + 51)) = true := by kernel_rfl
theorem bound_small : ((List.range 51).all fun m => boundRow (.ofNat m)) = true := by kernel_rfl
theorem bound_row (x : Int) : boundRow x = true := by
  cases x with
  | negSucc k => exact bound_neg k
  | ofNat m =>
    by_cases h : m < 51
    · exact List.all_eq_true.1 bound_small m (List.mem_range.2 h)
    · obtain ⟨k, rfl⟩ : ∃ k, m = k + 51 := ⟨m - 51, by omega⟩
      exact bound_big k

theorem outG_ok : HookOk Tryd.prog (numH 74 outG) := num_ok fun args v hg => by
  unfold outG at hg
  split at hg
  · rename_i x hi
    have hr := bound_row x
    simp only [boundRow, Bool.and_eq_true] at hr
    have hp : ∀ a ∈ [Value.int .i64 x, .int .i64 (.ofNat 0), .int .i64 (.ofNat hi)], plainV a = true := three_plain
    by_cases h1 : Nat.beq hi 12 = true
    · rw [if_pos h1] at hg
      have := Nat.eq_of_beq_eq_true h1
      subst this
      cases hg
      exact ⟨hp, rfl, local_says hk38 hr.1⟩
    · rw [if_neg h1] at hg
      by_cases h2 : Nat.beq hi 50 = true
      · rw [if_pos h2] at hg
        have := Nat.eq_of_beq_eq_true h2
        subst this
        cases hg
        exact ⟨hp, rfl, local_says hk38 hr.2.1⟩
      · rw [if_neg h2] at hg; cases hg
  · cases hg
theorem inG_ok : HookOk Tryd.prog (numH 81 inG) := num_ok fun args v hg => by
  unfold inG at hg
  split at hg
  · rename_i x hi
    have hr := bound_row x
    simp only [boundRow, Bool.and_eq_true] at hr
    have hp : ∀ a ∈ [Value.int .i64 x, .int .i64 (.ofNat 0), .int .i64 (.ofNat hi)], plainV a = true := three_plain
    by_cases h1 : Nat.beq hi 12 = true
    · rw [if_pos h1] at hg
      have := Nat.eq_of_beq_eq_true h1
      subst this
      cases hg
      exact ⟨hp, rfl, local_says hk38 hr.2.2.1⟩
    · rw [if_neg h1] at hg
      by_cases h2 : Nat.beq hi 50 = true
      · rw [if_pos h2] at hg
        have := Nat.eq_of_beq_eq_true h2
        subst this
        cases hg
        exact ⟨hp, rfl, local_says hk38 hr.2.2.2⟩
      · rw [if_neg h2] at hg; cases hg
  · cases hg

def boundsH : Hook := orH works (orH (numH 74 outG) (numH 81 inG))
def kP : CallF := callA Tryd.prog boundsH 1000
theorem hkP : CallOk Tryd.prog kP := call_ok mixed noNum (or_ok works_ok (or_ok outG_ok inG_ok)) 1000

def badP3 (L t b : Int) : Bool := outB L 0 12 || (outB t 0 50 || outB b 0 50)
def pairV (a e : Int) : Value := .tuple #[.int .i64 a, .int .i64 e]
def priceAns (L t b : Int) : Value := if badP3 L t b then pairV 0 1 else pairV (.ofNat (priceV t.toNat b.toNat L.toNat)) 0

theorem good_nats {L t b : Int} (h : badP3 L t b = false) : ∃ L' t' b' : Nat, L = .ofNat L' ∧ t = .ofNat t' ∧ b = .ofNat b' ∧ L' ≤ 12 ∧ t' ≤ 50 ∧ b' ≤ 50 := by
  simp only [badP3, outB, ltF_eq, Bool.or_eq_false_iff, decide_eq_false_iff_not, Int.not_lt] at h
  obtain ⟨⟨a1, a2⟩, ⟨b1, b2⟩, ⟨c1, c2⟩⟩ := h
  have e1 : (0 : Int) ≤ L := a1
  have e2 : L ≤ 12 := a2
  have e3 : (0 : Int) ≤ t := b1
  have e4 : t ≤ 50 := b2
  have e5 : (0 : Int) ≤ b := c1
  have e6 : b ≤ 50 := c2
  exact ⟨L.toNat, t.toNat, b.toNat, (Int.toNat_of_nonneg e1).symm, (Int.toNat_of_nonneg e3).symm, (Int.toNat_of_nonneg e5).symm, by omega, by omega, by omega⟩

def c22 : Code := bodyOf Tryd.f22
theorem price_tail (L t b : Nat) (hL : L ≤ 12) (ht : t ≤ 50) (hb : b ≤ 50) : Runs Tryd.prog 0 (tl (tl c22)) (sth [(0, i64 L), (1, i64 t), (2, i64 b)] 25 []) (EndsAs Tryd.prog Tryd.f22 fun v' _ => v' = pairV (.ofNat (priceV t b L)) 0) := by
  have hS : Says Tryd.prog AH.empty 75 [i64 L, i64 t, i64 b] (.slice (some ⟨0, 0, some 1⟩) (L + 1) (L + 1)) (AH.empty.new (rowI (L + 1) (priceV t b))).2 := new_says (prices_local L t b ht hb hL) three_plain AH.empty
  refine Runs.sqR mixed hk38 [viaH 3 75 [i64 L, i64 t, i64 b] (.slice (some ⟨0, 0, some 1⟩) (L + 1) (L + 1)) (AH.empty.new (rowI (L + 1) (priceV t b))).2, viaV 5 (.pointer (some ⟨0, 0 + L * 1, none⟩)), viaV 6 (.int .i64 (.ofNat (priceV t b L)))] (by kernel_rfl) (by kernel_rfl) (by kernel_rfl)
    (oblC (shown_callHE (by kernel_rfl) (by kernel_rfl) hS) (oblC (shown_idx (n := L + 1) (by kernel_rfl) (by omega)) (oblC (shown_cell (by kernel_rfl) (int_at (g := 0) (n := L + 1) (v := priceV t b) (by kernel_rfl) (by omega))) oblN))) ?_
  exact Runs.now (x := .ret) (by kernel_rfl) ⟨.inr rfl, [.int .i64 (.ofNat (priceV t b L)), i64 0], by kernel_rfl, rfl⟩

theorem price_local (L t b : Int) : Local Tryd.prog 0 22 [.int .i64 L, .int .i64 t, .int .i64 b] AH.empty fun v' _ => v' = priceAns L t b := by
  refine local_of noNum Tryd.func22 (show Tryd.f22.body = some c22 by kernel_rfl) ?_
  refine Runs.sqR mixed hkP [] (by kernel_rfl) (by kernel_rfl) (by kernel_rfl) oblN ?_
  have bad : ∀ (h : badP3 L t b = true), pairV 0 1 = priceAns L t b := fun h => by unfold priceAns; rw [if_pos h]
  refine Runs.sq (by kernel_rfl) ?_
  cases h1 : outB L 0 12 with
  | true =>
    refine Runs.sqR mixed hkP [viaV 2 (.bool true)] (by kernel_rfl) (by kernel_rfl) (by kernel_rfl) (oblC (shown_eq (v := .bool (outB L 0 12)) (by kernel_rfl) (by kernel_rfl) (by rw [h1])) oblN) ?_
    refine Runs.cd (b := true) (by kernel_rfl) (fun _ => ?_) (fun h => by cases h)
    exact Runs.sqR mixed hkP [] (by kernel_rfl) (by kernel_rfl) (by kernel_rfl) oblN (Runs.now (x := .ret) (by kernel_rfl) ⟨.inr rfl, [i64 0, i64 1], by kernel_rfl, bad (by unfold badP3; rw [h1]; rfl)⟩)
  | false =>
    cases h2 : outB t 0 50 with
    | true =>
      refine Runs.sqR mixed hkP [viaV 2 (.bool false), viaV 6 (.bool true)] (by kernel_rfl) (by kernel_rfl) (by kernel_rfl) (oblC (shown_eq (v := .bool (outB L 0 12)) (by kernel_rfl) (by kernel_rfl) (by rw [h1]))
        (oblC (shown_eq (v := .bool (outB t 0 50)) (by kernel_rfl) (by kernel_rfl) (by rw [h2])) oblN)) ?_
      refine Runs.cd (b := true) (by kernel_rfl) (fun _ => ?_) (fun h => by cases h)
      exact Runs.sqR mixed hkP [] (by kernel_rfl) (by kernel_rfl) (by kernel_rfl) oblN (Runs.now (x := .ret) (by kernel_rfl) ⟨.inr rfl, [i64 0, i64 1], by kernel_rfl, bad (by unfold badP3; rw [h1, h2]; rfl)⟩)
    | false =>
      refine Runs.sqR mixed hkP [viaV 2 (.bool false), viaV 6 (.bool false)] (by kernel_rfl) (by kernel_rfl) (by kernel_rfl) (oblC (shown_eq (v := .bool (outB L 0 12)) (by kernel_rfl) (by kernel_rfl) (by rw [h1]))
        (oblC (shown_eq (v := .bool (outB t 0 50)) (by kernel_rfl) (by kernel_rfl) (by rw [h2])) oblN)) ?_
      refine Runs.cd (b := outB b 0 50) (by kernel_rfl) (fun h3 => ?_) (fun h3 => Runs.now (x := .normal) (by kernel_rfl) ?_)
      · exact Runs.sqR mixed hkP [] (by kernel_rfl) (by kernel_rfl) (by kernel_rfl) oblN (Runs.now (x := .ret) (by kernel_rfl) ⟨.inr rfl, [i64 0, i64 1], by kernel_rfl, bad (by unfold badP3; rw [h1, h2, h3]; rfl)⟩)
      · have hg : badP3 L t b = false := by unfold badP3; rw [h1, h2, h3]; rfl
        have ans : priceAns L t b = pairV (.ofNat (priceV t.toNat b.toNat L.toNat)) 0 := by unfold priceAns; rw [hg]; rfl
        rw [ans]
        obtain ⟨L', t', b', rfl, rfl, rfl, hL, ht, hb⟩ := good_nats hg
        show Runs Tryd.prog 0 (tl (tl c22)) _ _
        exact Runs.less (af1 := sth [(0, i64 L'), (1, i64 t'), (2, i64 b')] 25 []) (less_seenP (clo_all (by kernel_rfl)) (fun o ho => by cases ho) (Nat.le_refl 0) (by kernel_rfl) (by kernel_rfl) (by kernel_rfl) (by kernel_rfl)) (price_tail L' t' b' hL ht hb)

theorem price_says (L t b : Int) (h : AH) : Says Tryd.prog h 22 [.int .i64 L, .int .i64 t, .int .i64 b] (priceAns L t b) h := fun F w0 μ w args' H hl =>
  (price_local L t b).closed three_plain (by unfold priceAns; split <;> rfl) h H hl

/-! ### The reference's -/
end
end Go.Proofs.YtgnkjmgkfibipaaDoor

/- TrialPrices: rows of lists; same, raised, appends. -/
namespace Go.Proofs.YtgnkjmgkfibipaaDoor
set_option linter.unusedVariables false
set_option linter.unusedSimpArgs false
open Go Go.R
set_option maxRecDepth 1000000
noncomputable section

def litI (l : List Nat) : List Value := l.map fun x => .int .i64 (.ofNat x)
def rowL (l : List Nat) : AObj := .cells (litI l) true [] (some 3)
theorem litI_len (l : List Nat) : (litI l).length = l.length := by simp [litI]
theorem litI_plain (l : List Nat) : ∀ x ∈ litI l, plainV x = true := fun x hx => by
  obtain ⟨i, _, rfl⟩ := List.mem_map.1 hx; rfl
theorem litI_cell (l : List Nat) : (litI l).all cellV = true := List.all_eq_true.2 fun x hx => by
  obtain ⟨i, _, rfl⟩ := List.mem_map.1 hx; rfl
theorem litI_app (a b : List Nat) : litI a ++ litI b = litI (a ++ b) := by simp [litI]
theorem lit_at {h : AH} {g i : Nat} {l : List Nat} {lv : Bool} {par : List Nat} {ty : Option TypeId} (hg : h.get g = .cells (litI l) lv par ty) (hlt : i < l.length) : rowAt? h g (0 + i * 1) 1 = some [.int .i64 (.ofNat (l.getD i 0))] := by
  rw [row_at hg (by rw [litI_len]; omega), Nat.zero_add, Nat.mul_one]
  have : (litI l)[i]? = some (.int .i64 (.ofNat (l.getD i 0))) := by
    unfold litI
    rw [List.getElem?_map, List.getElem?_eq_getElem hlt, List.getD_eq_getElem?_getD, List.getElem?_eq_getElem hlt]
    rfl
  rw [List.take_one, List.head?_drop, this]
  rfl
theorem whole_at {h : AH} {g : Nat} {l : List Nat} {lv : Bool} {par : List Nat} {ty : Option TypeId} (hg : h.get g = .cells (litI l) lv par ty) : rowAt? h g 0 (l.length * 1) = some (litI l) := by
  rw [row_at hg (by rw [litI_len]; omega), List.drop_zero, List.take_of_length_le (by rw [litI_len]; omega)]

/-! ### Appends of whole lists -/
section
variable {h : AH} {i0 j : Nat} {A B : List Nat} {par : List Nat} {lv2 : Bool} {par2 : List Nat} {sp2 : Option Nat}

theorem app_pre (hB : B ≠ []) (h2 : h.get j = .cells (litI B) lv2 par2 (some 3)) : srcA 1 (.slice (some ⟨j, 0, sp2⟩) B.length B.length) h = some (litI B, B.length) := by
  have hpos : ¬ B.length = 0 := fun e => hB (List.eq_nil_of_length_eq_zero e)
  unfold srcA
  simp only [if_neg hpos]
  rw [whole_at h2]
  rfl

/-- Onto a slice whose capacity is not known. -/
theorem app_u (hB : B ≠ []) (hlen : A.length < 1000000 ∧ B.length < 1000000) (h1 : h.get i0 = .cells (litI A) true par (some 3)) (h2 : h.get j = .cells (litI B) lv2 par2 (some 3)) :
    appendA Tryd.prog #[24, 24] (.slice (some ⟨i0, 0, some 1⟩) A.length A.length) (.slice (some ⟨j, 0, sp2⟩) B.length B.length) h =
      some (.slice (some ⟨h.next, 0, some 1⟩) (A.length + B.length) (A.length + B.length), ((h.put i0 (.cells (litI A) false par (some 3))).new (.cells (litI A ++ litI B) true (i0 :: par) (some 3))).2) := by
  have e1 : Tryd.prog.underlying 24 = some (.slice 3) := by kernel_rfl
  obtain ⟨info, e2, e3, e4⟩ := int_info
  rw [Bool.or_eq_false_iff] at e4
  have hpos : ¬ B.length = 0 := fun e => hB (List.eq_nil_of_length_eq_zero e)
  have e6 : (decide (A.length > 1000000)) = false := by simp; omega
  have e6' : (decide (B.length > 1000000)) = false := by simp; omega
  have e7 : appendU 3 1 i0 0 A.length B.length (litI B) h = some (.slice (some ⟨h.next, 0, some 1⟩) (A.length + B.length) (A.length + B.length), ((h.put i0 (.cells (litI A) false par (some 3))).new (.cells (litI A ++ litI B) true (i0 :: par) (some 3))).2) := by
    unfold appendU
    rw [h1]
    show (if 0 + A.length * 1 = (litI A).length then _ else _) = _
    rw [if_pos (by rw [litI_len]; omega)]
    rfl
  unfold appendA
  simp only [List.getElem?_toArray, List.getElem?_cons_zero, List.getElem?_cons_succ, e1, e2, srcKind, Bool.not_true, Bool.false_eq_true, if_false, e3, app_pre hB h2]
  simp only [litI_cell, e4.1, e4.2, e6, e6', Bool.not_true, Bool.or_false, Bool.false_or, Bool.or_self, decide_false, show (1 = 0) = False by simp, if_neg hpos, if_false, decide_true, ne_eq, not_true_eq_false, Bool.false_eq_true, show (0 + 1 = 1) by rfl, e7]

end

/-! ### same -/
def c21 : Code := bodyOf Tryd.f21
def lp21 : Code := within (tl (hd (behind 2 c21)))
def rowA (i n : Nat) : Value := .slice (some ⟨i, 0, some 1⟩) n n
end
end Go.Proofs.YtgnkjmgkfibipaaDoor
