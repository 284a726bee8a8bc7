/- TrialWorded: plans as trees, and the words of their hardnesses (in Lean alone). -/
import Derived.Test.YtgnkjmgkfibipaaDoorSWordedKG12
import Derived.Test.YtgnkjmgkfibipaaDoorSWordedKW3
import Derived.Test.YtgnkjmgkfibipaaDoorSWordedKW5
import Derived.Test.YtgnkjmgkfibipaaDoorSWordedKG11
import Derived.Test.YtgnkjmgkfibipaaDoorSWordedRG10
namespace Go.Proofs.YtgnkjmgkfibipaaDoor
set_option linter.unusedVariables false
set_option linter.unusedSimpArgs false
open Go Go.R
noncomputable section

/-- A plan: nothing, or what comes behind a blunt and behind a sharp result of the first trial. -/
inductive Tr where
  | leaf
  | node (a c : Tr)
def Tr.size : Tr → Nat
  | .leaf => 0
  | .node a c => a.size + c.size + 1
/-- The levels of a plan above low. -/
def Tr.list : Tr → Nat → List Nat
  | .leaf, _ => []
  | .node a c, low => (low + 1 + a.size) :: (a.list low ++ c.list (low + 1 + a.size))
/-- The word of a hardness. -/
def Tr.word : Tr → Nat → List UInt8
  | .leaf, _ => []
  | .node a c, h => if h ≤ a.size then 98 :: a.word h else 115 :: c.word (h - a.size - 1)

theorem Tr.list_len : ∀ (t : Tr) (low : Nat), (t.list low).length = t.size
  | .leaf, _ => rfl
  | .node a c, low => by rw [Tr.list, List.length_cons, List.length_append, a.list_len, c.list_len, Tr.size]
theorem Tr.list_mem : ∀ (t : Tr) (low x : Nat), x ∈ t.list low → low < x ∧ x ≤ low + t.size
  | .leaf, _, _, h => by cases h
  | .node a c, low, x, h => by
    rw [Tr.size]
    rcases List.mem_cons.1 h with rfl | h
    · omega
    · rcases List.mem_append.1 h with h | h
      · have := a.list_mem _ _ h; omega
      · have := c.list_mem _ _ h; omega

theorem grL_tree (y : Nat → Nat) : ∀ (d low n k : Nat), n ≤ d → ∃ t : Tr, t.size = n ∧ grL y d low n k = t.list low
  | 0, low, n, k, h => ⟨.leaf, by rw [Tr.size]; omega, rfl⟩
  | d + 1, low, 0, k, h => ⟨.leaf, rfl, rfl⟩
  | d + 1, low, n + 1, k, h => by
    have hi := Nat.mod_lt (y k) (show 0 < n + 1 by omega)
    obtain ⟨a, ha, ea⟩ := grL_tree y d low (y k % (n + 1)) (k + 1) (by omega)
    obtain ⟨c, hc, ec⟩ := grL_tree y d (low + 1 + y k % (n + 1)) (n - y k % (n + 1)) (k + 1 + y k % (n + 1)) (by omega)
    refine ⟨.node a c, by rw [Tr.size, ha, hc]; omega, ?_⟩
    rw [grL, Tr.list, ha, ea, ec]
theorem grown_tree (y : Nat → Nat) (n : Nat) : ∃ t : Tr, t.size = n ∧ grownN y n = t.list 0 := grL_tree y n 0 n 0 (Nat.le_refl n)

/-! ### What is followed -/
def folL (hd : Int) : List Nat → Int → Int → List Int
  | [], _, _ => []
  | x :: l, lo, hi => if leF (.ofNat x) lo || ltF hi (.ofNat x) then folL hd l lo hi else (.ofNat x) :: (if ltF hd (.ofNat x) then folL hd l lo (.ofNat x - 1) else folL hd l (.ofNat x) hi)
theorem folF_list (l : List Nat) (hd : Int) : ∀ d i lo hi, i + d = l.length → folF (fL l) hd d i lo hi = folL hd (l.drop i) lo hi
  | 0, i, lo, hi, h => by
    rw [List.drop_eq_nil_of_le (by omega)]
    rfl
  | d + 1, i, lo, hi, h => by
    have hi' : i < l.length := by omega
    rw [List.drop_eq_getElem_cons hi', folF, folL, fL_at hi']
    rw [folF_list l hd d (i + 1) lo hi (by omega), folF_list l hd d (i + 1) lo _ (by omega), folF_list l hd d (i + 1) _ hi (by omega)]
    rfl
theorem folL_tail (hd : Int) : ∀ (A C : List Nat) (lo hi : Int), (∀ x ∈ C, hi < (x : Int)) → folL hd (A ++ C) lo hi = folL hd A lo hi
  | [], [], lo, hi, _ => rfl
  | [], x :: C, lo, hi, h => by
    have hx : ltF hi (.ofNat x) = true := ltF_iff.2 (h x List.mem_cons_self)
    have e : folL hd (x :: C) lo hi = folL hd C lo hi := by rw [folL, if_pos (by rw [hx, Bool.or_true])]
    exact e.trans (folL_tail hd [] C lo hi fun y hy => h y (List.mem_cons_of_mem _ hy))
  | x :: A, C, lo, hi, h => by
    rw [List.cons_append, folL, folL, folL_tail hd A C lo hi h, folL_tail hd A C _ hi h]
    by_cases hc : (leF (.ofNat x) lo || ltF hi (.ofNat x)) = true
    · rw [if_pos hc, if_pos hc]
    · have hx : (x : Int) ≤ hi := by
        rw [Bool.not_eq_true, Bool.or_eq_false_iff] at hc
        exact ltF_not.1 hc.2
      rw [folL_tail hd A C lo (.ofNat x - 1) (fun y hy => by have := h y hy; show ((x : Int) - 1) < _; omega)]
theorem folL_head (hd : Int) : ∀ (A C : List Nat) (lo hi : Int), (∀ x ∈ A, (x : Int) ≤ lo) → folL hd (A ++ C) lo hi = folL hd C lo hi
  | [], C, lo, hi, _ => rfl
  | x :: A, C, lo, hi, h => by
    have hx : leF (.ofNat x) lo = true := by rw [leF_eq, decide_eq_true_eq]; exact h x List.mem_cons_self
    rw [List.cons_append, folL, if_pos (by rw [hx, Bool.true_or])]
    exact folL_head hd A C lo hi fun y hy => h y (List.mem_cons_of_mem _ hy)

def letU (b : Bool) : UInt8 := if b then 98 else 115
theorem fol_tree : ∀ (t : Tr) (low h : Nat), h ≤ t.size → (folL (.ofNat (low + h)) (t.list low) (.ofNat low) (.ofNat (low + t.size))).map (fun x => letU (ltF (.ofNat (low + h)) x)) = t.word h
  | .leaf, low, h, _ => rfl
  | .node a c, low, h, hh => by
    rw [Tr.size] at hh
    have h1 : leF (.ofNat (low + 1 + a.size)) (.ofNat low) = false := by
      rw [leF_eq, decide_eq_false_iff_not]
      show ¬ ((low + 1 + a.size : Nat) : Int) ≤ (low : Nat)
      omega
    have h2 : ltF (.ofNat (low + (a.size + c.size + 1))) (.ofNat (low + 1 + a.size)) = false := ltF_not.2 (show ((low + 1 + a.size : Nat) : Int) ≤ ((low + (a.size + c.size + 1) : Nat) : Int) by omega)
    rw [Tr.list, Tr.size, folL, h1, h2, Bool.or_false, if_neg (by simp), List.map_cons, Tr.word]
    by_cases hb : h ≤ a.size
    · have h3 : ltF (.ofNat (low + h)) (.ofNat (low + 1 + a.size)) = true := ltF_iff.2 (show ((low + h : Nat) : Int) < ((low + 1 + a.size : Nat) : Int) by omega)
      rw [h3, if_pos rfl, if_pos hb]
      have e : (Int.ofNat (low + 1 + a.size) - 1) = Int.ofNat (low + a.size) := by
        show ((low + 1 + a.size : Nat) : Int) - 1 = ((low + a.size : Nat) : Int)
        omega
      rw [e, folL_tail _ _ _ _ _ (fun x hx => by
        have := c.list_mem _ _ hx
        show ((low + a.size : Nat) : Int) < _
        omega), fol_tree a low h hb]
      rfl
    · have h3 : ltF (.ofNat (low + h)) (.ofNat (low + 1 + a.size)) = false := ltF_not.2 (show ((low + 1 + a.size : Nat) : Int) ≤ ((low + h : Nat) : Int) by omega)
      rw [h3, if_neg (by simp), if_neg hb]
      rw [folL_head _ _ _ _ _ (fun x hx => by
        have := a.list_mem _ _ hx
        show _ ≤ ((low + 1 + a.size : Nat) : Int)
        omega)]
      have := fol_tree c (low + 1 + a.size) (h - a.size - 1) (by omega)
      rw [show low + 1 + a.size + (h - a.size - 1) = low + h by omega, show low + 1 + a.size + c.size = low + (a.size + c.size + 1) by omega] at this
      rw [this]
      rfl

theorem tree_word (t : Tr) {h : Nat} (hh : h ≤ t.size) : bl (wordS (fL (t.list 0)) t.size h) = t.word h := by
  have e := fol_tree t 0 h hh
  rw [Nat.zero_add, Nat.zero_add] at e
  rw [← e]
  have e2 := folF_list (t.list 0) (.ofNat h) t.size 0 0 (.ofNat t.size) (by rw [t.list_len, Nat.zero_add])
  show ((((folF (fL (t.list 0)) (.ofNat h) t.size 0 0 (.ofNat t.size)).map fun x => byteW (ltF (.ofNat h) x)).map fun x => x.toNat.toUInt8).toArray).toList = _
  rw [e2, List.drop_zero, List.map_map]
  show List.map _ (folL (.ofNat h) (t.list 0) 0 (.ofNat t.size)) = _
  refine List.map_congr_left fun x _ => ?_
  show (byteW (ltF (.ofNat h) x)).toNat.toUInt8 = _
  cases ltF (.ofNat h) x <;> rfl

/-! ### Words -/
theorem Tr.word_len : ∀ (t : Tr) (h : Nat), h ≤ t.size → (t.word h).length ≤ t.size
  | .leaf, _, _ => Nat.le_refl _
  | .node a c, h, hh => by
    rw [Tr.size] at hh ⊢
    rw [Tr.word]
    split
    · have := a.word_len h (by omega); rw [List.length_cons]; omega
    · have := c.word_len (h - a.size - 1) (by omega); rw [List.length_cons]; omega
theorem Tr.word_bs : ∀ (t : Tr) (h : Nat), (t.word h).all (fun c => isBS c.toNat) = true
  | .leaf, _ => rfl
  | .node a c, h => by
    rw [Tr.word]
    split
    · rw [List.all_cons, a.word_bs]; rfl
    · rw [List.all_cons, c.word_bs]; rfl
theorem Tr.word_lt : ∀ (t : Tr) (h k : Nat), h < k → k ≤ t.size → Op.bytesLess (t.word h) (t.word k) = true
  | .leaf, h, k, h1, h2 => by have : k ≤ 0 := h2; omega
  | .node a c, h, k, h1, h2 => by
    rw [Tr.size] at h2
    rw [Tr.word, Tr.word]
    by_cases hk : k ≤ a.size
    · rw [if_pos hk, if_pos (by omega)]
      exact less_cons.2 (.inr ⟨rfl, a.word_lt h k h1 hk⟩)
    · rw [if_neg hk]
      by_cases hh : h ≤ a.size
      · rw [if_pos hh]
        exact less_cons.2 (.inl (by decide))
      · rw [if_neg hh]
        exact less_cons.2 (.inr ⟨rfl, c.word_lt _ _ (by omega) (by omega)⟩)
theorem Tr.word_pf : ∀ (t : Tr) (h k : Nat), h ≤ t.size → k ≤ t.size → k ≠ h → ¬ t.word k <+: t.word h
  | .leaf, h, k, h1, h2, hne => by have a : h ≤ 0 := h1; have b : k ≤ 0 := h2; omega
  | .node a c, h, k, h1, h2, hne => by
    rw [Tr.size] at h1 h2
    rw [Tr.word, Tr.word]
    by_cases hk : k ≤ a.size
    · rw [if_pos hk]
      by_cases hh : h ≤ a.size
      · rw [if_pos hh, List.cons_prefix_cons]
        exact fun q => a.word_pf h k hh hk hne q.2
      · rw [if_neg hh, List.cons_prefix_cons]
        exact fun q => absurd q.1 (by decide)
    · rw [if_neg hk]
      by_cases hh : h ≤ a.size
      · rw [if_pos hh, List.cons_prefix_cons]
        exact fun q => absurd q.1 (by decide)
      · rw [if_neg hh, List.cons_prefix_cons]
        exact fun q => c.word_pf _ _ (by omega) (by omega) (by omega) q.2
theorem Tr.word_full : ∀ (t : Tr) (h j : Nat), h ≤ t.size → j < (t.word h).length → (∃ k, k ≤ t.size ∧ (t.word h).take j ++ [98] <+: t.word k) ∧ ∃ k, k ≤ t.size ∧ (t.word h).take j ++ [115] <+: t.word k
  | .leaf, h, j, _, hj => by cases hj
  | .node a c, h, 0, hh, _ => by
    rw [Tr.size]
    refine ⟨⟨0, by omega, ?_⟩, ⟨a.size + c.size + 1, by omega, ?_⟩⟩
    · rw [Tr.word, Tr.word, if_pos (Nat.zero_le _)]
      exact ⟨a.word 0, by simp⟩
    · rw [Tr.word, Tr.word, if_neg (show ¬ a.size + c.size + 1 ≤ a.size by omega)]
      exact ⟨c.word (a.size + c.size + 1 - a.size - 1), by simp⟩
  | .node a c, h, j + 1, hh, hj => by
    rw [Tr.size] at hh ⊢
    have key : ∀ k, (Tr.node a c).word k = if k ≤ a.size then 98 :: a.word k else 115 :: c.word (k - a.size - 1) := fun k => by rw [Tr.word]
    rw [key] at hj ⊢
    by_cases hb : h ≤ a.size
    · rw [if_pos hb] at hj ⊢
      obtain ⟨⟨k1, q1, p1⟩, ⟨k2, q2, p2⟩⟩ := a.word_full h j hb (by simpa using hj)
      refine ⟨⟨k1, by omega, ?_⟩, ⟨k2, by omega, ?_⟩⟩
      · rw [key, if_pos q1, List.take_succ_cons, List.cons_append, List.cons_prefix_cons]
        exact ⟨rfl, p1⟩
      · rw [key, if_pos q2, List.take_succ_cons, List.cons_append, List.cons_prefix_cons]
        exact ⟨rfl, p2⟩
    · rw [if_neg hb] at hj ⊢
      obtain ⟨⟨k1, q1, p1⟩, ⟨k2, q2, p2⟩⟩ := c.word_full (h - a.size - 1) j (by omega) (by simpa using hj)
      refine ⟨⟨a.size + 1 + k1, by omega, ?_⟩, ⟨a.size + 1 + k2, by omega, ?_⟩⟩
      · rw [key, if_neg (show ¬ a.size + 1 + k1 ≤ a.size by omega), show a.size + 1 + k1 - a.size - 1 = k1 by omega, List.take_succ_cons, List.cons_append, List.cons_prefix_cons]
        exact ⟨rfl, p1⟩
      · rw [key, if_neg (show ¬ a.size + 1 + k2 ≤ a.size by omega), show a.size + 1 + k2 - a.size - 1 = k2 by omega, List.take_succ_cons, List.cons_append, List.cons_prefix_cons]
        exact ⟨rfl, p2⟩
end
end Go.Proofs.YtgnkjmgkfibipaaDoor

/- TrialWorded: the words of a plan pass the check, and lead back to it; as many levels as there may be (in Lean alone). -/
namespace Go.Proofs.YtgnkjmgkfibipaaDoor
set_option linter.unusedVariables false
set_option linter.unusedSimpArgs false
open Go Go.R
noncomputable section

theorem scanE_zero (p : Nat → Nat) : ∀ d i, (∀ j, i ≤ j → j < i + d → p j = 0) → scanE p d i = 0
  | 0, _, _ => rfl
  | d + 1, i, h => by
    rw [scanE]
    have := h i (Nat.le_refl _) (by omega)
    rw [this]
    simp only [ne_eq, not_true_eq_false, if_false]
    exact scanE_zero p d (i + 1) fun j h1 h2 => h j (by omega) (by omega)

section
variable {t : Tr} {g : Nat → ByteArray}
theorem read_tree (hs : t.size ≤ 12) (hg : ∀ i, i ≤ t.size → bl (g i) = t.word i) : readN (t.size + 1) g = 0 := by
  have sz : ∀ i, i < t.size + 1 → (g i).size ≤ 12 := fun i hi => by
    have := t.word_len i (by omega)
    rw [← hg i (by omega)] at this
    rw [← bl_len]
    omega
  have bs : ∀ i, i < t.size + 1 → allBS (g i) = true := fun i hi => by
    unfold allBS
    rw [hg i (by omega)]
    exact t.word_bs i
  have lt : ∀ i, i + 1 < t.size + 1 → bytesLt (g i) (g (i + 1)) = true := fun i hi => by
    rw [lt_bl, hg i (by omega), hg (i + 1) (by omega)]
    exact t.word_lt i (i + 1) (Nat.lt_succ_self i) (by omega)
  have pf : ∀ i, i + 1 < t.size + 1 → prefB (g (i + 1)) (g i) = false := fun i hi => by
    cases h : prefB (g (i + 1)) (g i) with
    | false => rfl
    | true =>
      have := pref_iff.1 h
      rw [hg i (by omega), hg (i + 1) (by omega)] at this
      exact absurd this (t.word_pf (i + 1) i (by omega) (by omega) (by omega))
  have hF : errF (t.size + 1) g = 0 := by
    unfold errF
    rw [if_neg (by omega), if_neg (by omega)]
    rw [scanE_zero (errA g) _ _ fun j _ hj => by unfold errA; rw [if_neg (by have := sz j (by omega); omega), if_pos (bs j (by omega))]]
    rw [scanE_zero (errB g) _ _ fun j _ hj => by unfold errB; rw [if_pos (lt j (by omega))]]
    rw [scanE_zero (errC g) _ _ fun j _ hj => by unfold errC; rw [pf j (by omega)]; rfl]
    rfl
  have hO : openM (mapTo g (t.size + 1)) = false := by
    cases ho : openM (mapTo g (t.size + 1)) with
    | false => rfl
    | true =>
      obtain ⟨a, ha, j, hj, hn⟩ := (open_iff bs).1 ho
      refine absurd ?_ hn
      rw [← bl_len, hg a (by omega)] at hj
      obtain ⟨⟨k1, q1, p1⟩, ⟨k2, q2, p2⟩⟩ := t.word_full a j (by omega) hj
      rw [hg a (by omega)]
      exact ⟨⟨k1, by omega, by rw [hg k1 q1]; exact p1⟩, ⟨k2, by omega, by rw [hg k2 q2]; exact p2⟩⟩
  unfold readN
  rw [hF, hO]
  rfl
end

theorem split_is (g : Nat → ByteArray) (at_ : Nat) {d i m : Nat} (h1 : i ≤ m) (h2 : m < i + d) (h3 : letW g at_ m ≠ 98) (h4 : ∀ j, i ≤ j → j < m → letW g at_ j = 98) : splitW g at_ d i = m := by
  obtain ⟨a, b, c, e⟩ := split_spec g at_ d i ⟨m, h1, h2, h3⟩
  rcases Nat.lt_trichotomy (splitW g at_ d i) m with q | q | q
  · exact absurd (h4 _ a q) c
  · exact q
  · exact absurd (e m h1 q) h3

theorem plan_tree (g : Nat → ByteArray) : ∀ (f : Nat) (t : Tr) (low : Nat) (p : List UInt8), t.size ≤ f → (∀ h, h ≤ t.size → bl (g (low + h)) = p ++ t.word h) → planW g f low (low + t.size) p.length = t.list low
  | 0, .leaf, _, _, _, _ => rfl
  | 0, .node a c, _, _, h, _ => by rw [Tr.size] at h; omega
  | f + 1, .leaf, low, p, _, _ => by
    rw [planW, Tr.size, Nat.add_zero, if_pos rfl]
    rfl
  | f + 1, .node a c, low, p, hf, hg => by
    rw [Tr.size] at hf hg ⊢
    have lets : ∀ h, h ≤ a.size + c.size + 1 → letW g p.length (low + h) = if h ≤ a.size then 98 else 115 := fun h hh => by
      unfold letW
      rw [hg h hh, Tr.word, List.getD_eq_getElem?_getD, List.getElem?_append_right (Nat.le_refl _), Nat.sub_self]
      split <;> rfl
    have hs : splitW g p.length (low + (a.size + c.size + 1) + 1 - low) low = low + a.size + 1 := by
      refine split_is g p.length (by omega) (by omega) ?_ fun j j1 j2 => ?_
      · have := lets (a.size + 1) (by omega)
        rw [show low + a.size + 1 = low + (a.size + 1) by omega, this, if_neg (by omega)]
        decide
      · have := lets (j - low) (by omega)
        rw [show low + (j - low) = j by omega, if_pos (by omega)] at this
        exact this
    have IHa := plan_tree g f a low (p ++ [98]) (by omega) fun h hh => by
      rw [hg h (by omega), Tr.word, if_pos hh, List.append_assoc]
      rfl
    have IHc := plan_tree g f c (low + a.size + 1) (p ++ [115]) (by omega) fun h hh => by
      have := hg (a.size + 1 + h) (by omega)
      rw [Tr.word, if_neg (by omega), show a.size + 1 + h - a.size - 1 = h by omega] at this
      rw [show low + a.size + 1 + h = low + (a.size + 1 + h) by omega, this, List.append_assoc]
      rfl
    rw [List.length_append, List.length_cons, List.length_nil] at IHa IHc
    rw [planW, if_neg (by omega), hs, Tr.list]
    rw [show low + a.size + 1 - 1 = low + a.size by omega, IHa]
    rw [show low + (a.size + c.size + 1) = low + a.size + 1 + c.size by omega, IHc]
    rw [show low + 1 + a.size = low + a.size + 1 by omega]

/-- The words of a plan lead back to it. -/
theorem back_tree {t : Tr} {g : Nat → ByteArray} (hs : t.size ≤ 12) (hg : ∀ i, i ≤ t.size → bl (g i) = t.word i) : planG (t.size + 1) g = t.list 0 := by
  unfold planG
  rw [if_pos (read_tree hs hg)]
  have := plan_tree g (t.size + 1) t 0 [] (by omega) fun h hh => by rw [Nat.zero_add, hg h hh]; rfl
  rw [Nat.zero_add] at this
  exact this

/-! ### As many levels as there may be -/
def RR : Nat → Nat → Nat
  | _, 0 => 0
  | 0, _ + 1 => 0
  | b + 1, t + 1 => RR b t + 1 + RR (b + 1) t
def cntU (l : List UInt8) : Nat := (l.filter fun c => c == 98).length
theorem size_le : ∀ (t : Tr) (b T : Nat), (∀ h, h ≤ t.size → (t.word h).length ≤ T ∧ cntU (t.word h) ≤ b) → t.size ≤ RR b T
  | .leaf, _, _, _ => Nat.zero_le _
  | .node a c, b, T, H => by
    rw [Tr.size] at H ⊢
    have h0 := H 0 (Nat.zero_le _)
    rw [Tr.word, if_pos (Nat.zero_le _)] at h0
    obtain ⟨T, rfl⟩ : ∃ k, T = k + 1 := ⟨T - 1, by have := h0.1; rw [List.length_cons] at this; omega⟩
    obtain ⟨b, rfl⟩ : ∃ k, b = k + 1 := ⟨b - 1, by
      have := h0.2
      unfold cntU at this
      rw [List.filter_cons, if_pos (show ((98 : UInt8) == 98) = true from rfl), List.length_cons] at this
      omega⟩
    have ha := size_le a b T fun h hh => by
      have := H h (by omega)
      rw [Tr.word, if_pos hh] at this
      unfold cntU at this ⊢
      rw [List.filter_cons, if_pos (show ((98 : UInt8) == 98) = true from rfl), List.length_cons, List.length_cons] at this
      omega
    have hc := size_le c (b + 1) T fun h hh => by
      have := H (a.size + 1 + h) (by omega)
      rw [Tr.word, if_neg (by omega), show a.size + 1 + h - a.size - 1 = h by omega] at this
      unfold cntU at this ⊢
      rw [List.filter_cons, if_neg (by decide), List.length_cons] at this
      omega
    rw [RR]
    omega
end
end Go.Proofs.YtgnkjmgkfibipaaDoor

/- TrialWorded: the functions of plans, told at a plan's row in any heap. -/
namespace Go.Proofs.YtgnkjmgkfibipaaDoor
set_option linter.unusedVariables false
set_option linter.unusedSimpArgs false
open Go Go.R
set_option maxRecDepth 1000000
noncomputable section
section
variable {n q : Nat} {l : List Nat} {h : AH} {lv : Bool} {par : List Nat} {ty : Option TypeId} {fid : FuncId} {post : List Value}
theorem planV_is (hlen : l.length = n) (hne : l ≠ []) : planV q l = .slice (some ⟨q, 0, some 1⟩) n n := by
  cases l with
  | nil => exact absurd rfl hne
  | cons x l => subst hlen; rfl
theorem at_plan_flat {R : Value → AH → Prop} {v : Value} (hlen : l.length = n) (hne : l ≠ []) (L : ∀ cap, n ≤ cap → Local Tryd.prog 1 fid (slV n cap :: post) (hp [viewZ n (fL l)]) R) (hR : ∀ v' h', R v' h' → v' = v) (fv : flatV v = true)
    (pq : ∀ u ∈ post, plainV u = true) (hg : h.get q = .cells (litI l) lv par ty) : Says Tryd.prog h fid (planV q l :: post) v h :=
  tell_flat (P := Tryd.prog) (pre := []) (post := post) (i := q) (o := 0) (n := n) (s := planV q l) (cells := intsZ n (fL l)) (R := R) L hR fv hg (fun k u hk => by rw [Nat.zero_add, litI_ints, hlen]; exact hk)
    (by rw [Nat.zero_add, litI_ints, hlen]; exact Nat.le_refl _) (intsZ_plain _ _) (.inl ⟨0, planV_is hlen hne⟩) (fun v hv => by cases hv) pq
theorem at_plan_new {n1 : Nat} {cells1 : List Value} {ty1 : Option TypeId} {e1 : Option Value} (hlen : l.length = n) (hne : l ≠ []) (L : ∀ cap, n ≤ cap → Local Tryd.prog 1 fid (slV n cap :: post) (hp [viewZ n (fL l)]) (IsRow n1 cells1 ty1 e1))
    (hl1 : cells1.length = n1) (hcl : ∀ u ∈ cells1, plainV u = true) (pe : ∀ v, e1 = some v → plainV v = true) (pq : ∀ u ∈ post, plainV u = true) (hg : h.get q = .cells (litI l) lv par ty) :
    Says Tryd.prog h fid (planV q l :: post) (rowV h.next n1 e1) (h.new (.cells cells1 true [] ty1)).2 :=
  tell_new (P := Tryd.prog) (pre := []) (post := post) (i := q) (o := 0) (n := n) (s := planV q l) (cells := intsZ n (fL l)) L hl1 hcl pe hg (fun k u hk => by rw [Nat.zero_add, litI_ints, hlen]; exact hk)
    (by rw [Nat.zero_add, litI_ints, hlen]; exact Nat.le_refl _) (intsZ_plain _ _) (.inl ⟨0, planV_is hlen hne⟩) (fun v hv => by cases hv) pq

theorem onlyP {v : Value} (h : plainV v = true) : ∀ u ∈ [v], plainV u = true := fun u hu => by rw [List.mem_singleton.1 hu]; exact h
theorem noP : ∀ u ∈ ([] : List Value), plainV u = true := fun u hu => by cases hu

theorem check_at (G : Good 0 n l) (hne : l ≠ []) (hn : n ≤ 12) (hg : h.get q = .cells (litI l) lv par ty) : Says Tryd.prog h 45 [planV q l] (i64 0) h := by
  refine at_plan_flat (R := fun v' _ => v' = i64 0) G.len hne (fun cap hc => ?_) (fun _ _ r => r) rfl noP hg
  have := check_says n cap (fL l) hc (by omega)
  rw [good_check G hn] at this
  exact local_one this (Nat.le_refl 1)
theorem words_at (G : Good 0 n l) (hne : l ≠ []) (hn : n ≤ 12) (hg : h.get q = .cells (litI l) lv par ty) : Says Tryd.prog h 43 [planV q l] (.tuple #[bldV h.next (n + 1), i64 0]) (h.new (rowS (n + 1) (wordS (fL l) n))).2 :=
  at_plan_new (n1 := n + 1) (e1 := some (i64 0)) G.len hne (fun cap hc => Words_good n cap (fL l) hc (by omega) (good_check G hn)) (strsV_len _ _) (strsV_plain _ _) (fun v hv => by cases hv; rfl) noP hg
theorem ask_in {x : Nat} (G : Good 0 n l) (hn : n ≤ 12) (hx : x ≤ n) : askZ (fL l) n (.ofNat x) = 0 := by
  unfold askZ outZ
  rw [if_pos (good_check G hn), show ltF (.ofNat x) 0 = false from ltF_not.2 (show (0 : Int) ≤ (x : Int) by omega), show ltF (.ofNat n) (.ofNat x) = false from ltF_not.2 (show (x : Int) ≤ (n : Int) by omega)]
  rfl
theorem ask_out (G : Good 0 n l) (hn : n ≤ 12) : askZ (fL l) n (.ofNat (n + 1)) = 2 := by
  unfold askZ outZ
  rw [if_pos (good_check G hn), show ltF (.ofNat n) (.ofNat (n + 1)) = true from ltF_iff.2 (show ((n : Nat) : Int) < ((n + 1 : Nat) : Int) by omega), Bool.or_true, if_pos rfl]
theorem run_ne {x : Nat} (G : Good 0 n l) (hne : l ≠ []) : runF (fL l) n (.ofNat x) ≠ [] := by
  have hlen := G.len
  obtain ⟨k, rfl⟩ : ∃ k, n = k + 1 := by
    cases l with
    | nil => exact absurd rfl hne
    | cons y l => exact ⟨l.length, hlen.symm⟩
  have h0 : 0 < l.length := by omega
  have e := fL_at h0
  have a := G.lo _ (List.getElem_mem h0)
  have b := G.hi _ (List.getElem_mem h0)
  unfold runF
  rw [folF, if_neg]
  · intro q; cases q
  · rw [e, leF_eq, Bool.or_eq_true, decide_eq_true_eq, not_or]
    refine ⟨by omega, ?_⟩
    rw [ltF_iff]
    show ¬ ((k + 1 : Nat) : Int) < _
    omega
theorem run_at {x : Nat} (G : Good 0 n l) (hne : l ≠ []) (hn : n ≤ 12) (hx : x ≤ n) (hg : h.get q = .cells (litI l) lv par ty) :
    Says Tryd.prog h 44 [planV q l, i64 x] (.tuple #[bldV h.next (outN l x).length, i64 0]) (h.new (rowT (outN l x))).2 := by
  rw [outN_run G]
  exact at_plan_new (post := [i64 x]) (n1 := (runF (fL l) n (.ofNat x)).length) (e1 := some (i64 0)) G.len hne (fun cap hc => Run_good n cap (fL l) (.ofNat x) hc (by omega) (ask_in G hn hx) (run_ne G hne)) (litZ_len _) (litZ_plain _) (fun v hv => by cases hv; rfl) (onlyP rfl) hg

noncomputable def c48 : Code := bodyOf Tryd.f48
theorem Word_local (cap : Nat) (f : Nat → Int) (hd : Int) (hc : n ≤ cap) (hn : n < 100000) (hx : askZ f n hd = 0) : Local Tryd.prog 1 48 [slV n cap, .int .i64 hd] (hp [viewZ n f]) fun v' _ => v' = .tuple #[.string (strB (wordF f n hd)), i64 0] := by
  refine local_of noNum Tryd.func48 (show Tryd.f48.body = some c48 by kernel_rfl) ?_
  refine Runs.sqR mixed hk38 [] (by kernel_rfl) (by kernel_rfl) (by kernel_rfl) oblN ?_
  have hS := asked_says n cap f hd hc hn
  rw [hx] at hS
  refine Runs.sq (by kernel_rfl) (Runs.sqR mixed hk38 [viaC 2 96 [slV n cap, .int .i64 hd] (i64 0)] (by kernel_rfl) (by kernel_rfl) (by kernel_rfl) (oblC (shown_callE (h0 := hp [viewZ n f]) (by kernel_rfl) (by kernel_rfl) hS) oblN) ?_)
  refine Runs.sqR mixed hk38 [] (by kernel_rfl) (by kernel_rfl) (by kernel_rfl) oblN ?_
  refine Runs.cd (b := false) (by kernel_rfl) (fun h => by cases h) (fun _ => Runs.now (x := .normal) (by kernel_rfl) ?_)
  show Runs Tryd.prog 1 _ _ _
  refine Runs.sqR mixed hk38 [viaC 2 100 [slV n cap, .int .i64 hd] (.string (strB (wordF f n hd)))] (by kernel_rfl) (by kernel_rfl) (by kernel_rfl)
    (oblC (shown_callE (h0 := hp [viewZ n f]) (by kernel_rfl) (by kernel_rfl) (word_says n cap f hd hn (Nat.le_refl 1) (hp_get _ 0 _ rfl))) oblN) ?_
  exact Runs.now (x := .ret) (by kernel_rfl) ⟨.inr rfl, [.string (strB (wordF f n hd)), i64 0], by kernel_rfl, rfl⟩
theorem Word_bad (cap : Nat) (f : Nat → Int) (hd : Int) (hc : n ≤ cap) (hn : n < 100000) (hx : askZ f n hd ≠ 0) : Local Tryd.prog 1 48 [slV n cap, .int .i64 hd] (hp [viewZ n f]) fun v' _ => v' = .tuple #[.string ⟨#[]⟩, .int .i64 (askZ f n hd)] := by
  refine local_of noNum Tryd.func48 (show Tryd.f48.body = some c48 by kernel_rfl) ?_
  refine Runs.sqR mixed hk38 [] (by kernel_rfl) (by kernel_rfl) (by kernel_rfl) oblN ?_
  have hne : (!(eqF (askZ f n hd) 0)) = true := by
    cases h : eqF (askZ f n hd) 0 with
    | false => rfl
    | true => rw [eqF_eq] at h; exact absurd (eq_of_beq h) hx
  refine Runs.sq (by kernel_rfl) (Runs.sqR mixed hk38 [viaC 2 96 [slV n cap, .int .i64 hd] (.int .i64 (askZ f n hd))] (by kernel_rfl) (by kernel_rfl) (by kernel_rfl) (oblC (shown_callE (h0 := hp [viewZ n f]) (by kernel_rfl) (by kernel_rfl) (asked_says n cap f hd hc hn)) oblN) ?_)
  refine Runs.sqR mixed hk38 [viaV 1 (.bool true)] (by kernel_rfl) (by kernel_rfl) (by kernel_rfl) (oblC (shown_eq (v := .bool (!(eqF (askZ f n hd) 0))) (by kernel_rfl) (by kernel_rfl) (by rw [hne])) oblN) ?_
  refine Runs.cd (b := true) (by kernel_rfl) (fun _ => ?_) (fun h => by cases h)
  exact Runs.sqR mixed hk38 [] (by kernel_rfl) (by kernel_rfl) (by kernel_rfl) oblN (Runs.now (x := .ret) (by kernel_rfl) ⟨.inr rfl, [.string ⟨#[]⟩, .int .i64 (askZ f n hd)], by kernel_rfl, rfl⟩)
theorem word_at {x : Nat} (G : Good 0 n l) (hne : l ≠ []) (hn : n ≤ 12) (hx : x ≤ n) (hg : h.get q = .cells (litI l) lv par ty) :
    Says Tryd.prog h 48 [planV q l, i64 x] (.tuple #[.string (strB (wordOf (.ofNat x) (outN l x))), i64 0]) h := by
  rw [word_run G]
  exact at_plan_flat (post := [i64 x]) G.len hne (fun cap hc => Word_local cap (fL l) (.ofNat x) hc (by omega) (ask_in G hn hx)) (fun _ _ r => r) rfl (onlyP rfl) hg
theorem word_out (G : Good 0 n l) (hne : l ≠ []) (hn : n ≤ 12) (hg : h.get q = .cells (litI l) lv par ty) : Says Tryd.prog h 48 [planV q l, i64 (n + 1)] (.tuple #[.string ⟨#[]⟩, i64 2]) h := by
  refine at_plan_flat (post := [i64 (n + 1)]) G.len hne (fun cap hc => Word_bad cap (fL l) (.ofNat (n + 1)) hc (by omega) (by rw [ask_out G hn]; decide)) (fun _ _ r => ?_) rfl (onlyP rfl) hg
  rw [ask_out G hn] at r
  exact r
theorem worst_at (G : Good 0 n l) (hne : l ≠ []) (hn : n ≤ 12) (hg : h.get q = .cells (litI l) lv par ty) : Says Tryd.prog h 51 [planV q l] (.tuple #[i64 (longTo (gO l) (n + 1)), i64 (mostTo (gO l) (n + 1)), i64 0]) h := by
  have e1 : longTo (gO l) (n + 1) = longTo (runG (fL l) n) (n + 1) := longTo_congr (fun m => outN_run G m) _
  have e2 : mostTo (gO l) (n + 1) = mostTo (runG (fL l) n) (n + 1) := mostTo_congr (fun m => outN_run G m) _
  rw [e1, e2]
  exact at_plan_flat (R := fun v' _ => v' = .tuple #[i64 (longTo (runG (fL l) n) (n + 1)), i64 (mostTo (runG (fL l) n) (n + 1)), i64 0]) G.len hne (fun cap hc => local_one (worst_says n cap (fL l) hc (by omega) (good_check G hn)) (Nat.le_refl 1)) (fun _ _ r => r) rfl noP hg
end
end
end Go.Proofs.YtgnkjmgkfibipaaDoor
