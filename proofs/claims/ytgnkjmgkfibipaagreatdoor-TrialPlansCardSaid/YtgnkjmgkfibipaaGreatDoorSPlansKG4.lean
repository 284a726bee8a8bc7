/- TrialChecked: the plain law: a stack finds the pattern of three. -/
import Derived.Test.YtgnkjmgkfibipaaGreatDoorSPlansKG3
import Derived.Test.YtgnkjmgkfibipaaGreatDoorSPlansRG6
namespace Go.Proofs.YtgnkjmgkfibipaaGreatDoor
set_option linter.unusedVariables false
set_option linter.unusedSimpArgs false
open Go Go.R
noncomputable section

noncomputable def popN (S : Nat → Int) (x : Int) : Nat → Int → Nat × Int
  | 0, c => (0, c)
  | m + 1, c => if ltF (S m) x then popN S x m (S m) else (m + 1, c)

noncomputable def atL (T : List Int) (j : Nat) : Int := T.getD j 0
noncomputable def stackF (f : Nat → Int) : Nat → Nat → Int → List Int → Bool
  | 0, _, _, _ => true
  | d + 1, i, c, T => if ltF (f i) c then false else stackF f d (i + 1) (popN (atL T) (f i) T.length c).2 (T.take (popN (atL T) (f i) T.length c).1 ++ [f i])

theorem ltF_iff {a b : Int} : ltF a b = true ↔ a < b := by rw [ltF_eq, decide_eq_true_eq]
theorem ltF_not {a b : Int} : ltF a b = false ↔ b ≤ a := by rw [ltF_eq, decide_eq_false_iff_not]; omega

theorem popN_spec (S : Nat → Int) (x : Int) : ∀ m c, (popN S x m c).1 ≤ m ∧ (∀ j, (popN S x m c).1 ≤ j → j < m → S j < x) ∧ ((popN S x m c).1 = 0 ∨ x ≤ S ((popN S x m c).1 - 1)) ∧ (popN S x m c).2 = (if (popN S x m c).1 = m then c else S (popN S x m c).1)
  | 0, c => ⟨Nat.le_refl 0, fun j _ h => by omega, .inl rfl, rfl⟩
  | m + 1, c => by
    unfold popN
    cases h : ltF (S m) x with
    | true =>
      obtain ⟨h1, h2, h3, h4⟩ := popN_spec S x m (S m)
      have hlt := ltF_iff.1 h
      simp only [if_true]
      refine ⟨by omega, fun j a b => ?_, h3, ?_⟩
      · by_cases e : j = m
        · subst e; exact hlt
        · exact h2 j a (by omega)
      · rw [h4, if_neg (by omega : ¬ (popN S x m (S m)).1 = m + 1)]
        split
        · rename_i e; rw [e]
        · rfl
    | false =>
      simp only [Bool.false_eq_true, if_false]
      exact ⟨Nat.le_refl _, fun j a b => by omega, .inr (ltF_not.1 h), rfl⟩

structure StkInv (f : Nat → Int) (n i : Nat) (c : Int) (T : List Int) : Prop where
  w1 : (∃ x y, x < y ∧ y < i ∧ f x = c ∧ f x < f y) ∨ ∀ k, k < n → c < f k
  w2 : ∀ x y, x < y → y < i → f x < f y → f x ≤ c
  w3 : ∀ x, x < i → (∃ j, j < T.length ∧ atL T j = f x) ∨ f x ≤ c
  w4 : ∀ x y, x < y → y < T.length → atL T y < atL T x
  w5 : ∀ j, j < T.length → c < atL T j
  w6 : ∀ j, j < T.length → ∃ x, x < i ∧ atL T j = f x

theorem atL_lt {T : List Int} {m j : Nat} {x : Int} (hm : m ≤ T.length) (hj : j < m) : atL (T.take m ++ [x]) j = atL T j := by
  unfold atL
  rw [List.getD_eq_getElem?_getD, List.getElem?_append_left (by simp; omega), List.getElem?_take, if_pos hj, List.getD_eq_getElem?_getD]
theorem atL_eq {T : List Int} {m : Nat} {x : Int} (hm : m ≤ T.length) : atL (T.take m ++ [x]) m = x := by
  unfold atL
  have : (T.take m).length = m := by simp; omega
  rw [List.getD_eq_getElem?_getD, List.getElem?_append_right (by omega), this, Nat.sub_self]; rfl
theorem atL_len {T : List Int} {m : Nat} {x : Int} (hm : m ≤ T.length) : (T.take m ++ [x]).length = m + 1 := by simp; omega

theorem stack_spec (f : Nat → Int) (n : Nat) (inj : ∀ a b, a < n → b < n → f a = f b → a = b) : ∀ d i c T, i + d = n → StkInv f n i c T →
    (stackF f d i c T = true ↔ ∀ k, i ≤ k → k < n → ∀ a b, a < b → b < k → ¬ (f k < f a ∧ f a < f b))
  | 0, i, c, T, h, I => by
    refine ⟨fun _ k h1 h2 => by omega, fun _ => rfl⟩
  | d + 1, i, c, T, h, I => by
    unfold stackF
    have hin : i < n := by omega
    cases hx : ltF (f i) c with
    | true =>
      have hx' := ltF_iff.1 hx
      simp only [if_true, Bool.false_eq_true, false_iff]
      intro all
      rcases I.w1 with ⟨x, y, h1, h2, h3, h4⟩ | h0
      · exact all i (Nat.le_refl i) hin x y h1 h2 ⟨by omega, h4⟩
      · have := h0 i hin; omega
    | false =>
      have hx' := ltF_not.1 hx
      simp only [Bool.false_eq_true, if_false]
      obtain ⟨p1, p2, p3, p4⟩ := popN_spec (atL T) (f i) T.length c
      generalize (popN (atL T) (f i) T.length c).1 = m at *
      generalize (popN (atL T) (f i) T.length c).2 = c' at *
      -- below or at i, nothing is lost
      have hcx : c < f i := by
        rcases I.w1 with ⟨x, y, h1, h2, h3, h4⟩ | h0
        · have : f i ≠ f x := fun e => by have := inj i x hin (by omega) e; omega
          omega
        · exact h0 i hin
      have hcc : c ≤ c' := by
        rw [p4]; split
        · exact Int.le_refl _
        · have := I.w5 m (by omega); omega
      have hkept : ∀ j, j < m → c' < atL T j ∧ f i < atL T j := by
        intro j hj
        have hjT : j < T.length := by omega
        have h1 : f i ≤ atL T (m - 1) := by rcases p3 with q | q <;> omega
        have h2 : atL T (m - 1) ≤ atL T j := by
          by_cases e : j = m - 1
          · rw [e]; exact Int.le_refl _
          · have := I.w4 j (m - 1) (by omega) (by omega); omega
        obtain ⟨x, hx1, hx2⟩ := I.w6 j hjT
        have hne : atL T j ≠ f i := fun e => by have := inj x i (by omega) hin (by rw [← hx2, e]); omega
        refine ⟨?_, by omega⟩
        rw [p4]; split
        · exact I.w5 j hjT
        · exact I.w4 j m hj (by omega)
      have hnew : c' < f i := by
        rw [p4]; split
        · exact hcx
        · exact p2 m (Nat.le_refl m) (by omega)
      have popped : ∀ j, m ≤ j → j < T.length → atL T j ≤ c' := by
        intro j h1 h2
        rw [p4, if_neg (by omega)]
        by_cases e : j = m
        · rw [e]; exact Int.le_refl _
        · have := I.w4 m j (by omega) h2; omega
      have I' : StkInv f n (i + 1) c' (T.take m ++ [f i]) := by
        refine ⟨?_, fun x y h1 h2 h3 => ?_, fun x h1 => ?_, fun x y h1 h2 => ?_, fun j h1 => ?_, fun j h1 => ?_⟩
        · by_cases e : m = T.length
          · rw [p4, if_pos e]
            rcases I.w1 with ⟨x, y, h1, h2, h3, h4⟩ | h0
            · exact .inl ⟨x, y, h1, by omega, h3, h4⟩
            · exact .inr h0
          · obtain ⟨x, hx1, hx2⟩ := I.w6 m (by omega)
            have := p2 m (Nat.le_refl m) (by omega)
            exact .inl ⟨x, i, hx1, by omega, by rw [p4, if_neg e, hx2], by rw [← hx2]; exact this⟩
        · by_cases e : y = i
          · subst e
            rcases I.w3 x h1 with ⟨j, hj, ej⟩ | q
            · by_cases hjm : j < m
              · have := (hkept j hjm).2; omega
              · rw [← ej]; exact popped j (by omega) hj
            · omega
          · have := I.w2 x y h1 (by omega) h3; omega
        · by_cases e : x = i
          · subst e
            exact .inl ⟨m, by rw [atL_len p1]; omega, atL_eq p1⟩
          · rcases I.w3 x (by omega) with ⟨j, hj, ej⟩ | q
            · by_cases hjm : j < m
              · exact .inl ⟨j, by rw [atL_len p1]; omega, by rw [atL_lt p1 hjm]; exact ej⟩
              · exact .inr (by rw [← ej]; exact popped j (by omega) hj)
            · exact .inr (by omega)
        · rw [atL_len p1] at h2
          by_cases e : y = m
          · subst e
            rw [atL_eq p1, atL_lt p1 h1]
            exact (hkept x h1).2
          · rw [atL_lt p1 (by omega), atL_lt p1 (by omega)]
            exact I.w4 x y h1 (by omega)
        · rw [atL_len p1] at h1
          by_cases e : j = m
          · subst e; rw [atL_eq p1]; exact hnew
          · rw [atL_lt p1 (by omega)]; exact (hkept j (by omega)).1
        · rw [atL_len p1] at h1
          by_cases e : j = m
          · subst e; exact ⟨i, by omega, atL_eq p1⟩
          · rw [atL_lt p1 (by omega)]
            obtain ⟨x, hx1, hx2⟩ := I.w6 j (by omega)
            exact ⟨x, by omega, hx2⟩
      rw [stack_spec f n inj d (i + 1) c' _ (by omega) I']
      refine ⟨fun hall k h1 h2 a b h3 h4 => ?_, fun hall k h1 h2 => hall k (by omega) h2⟩
      by_cases e : k = i
      · subst e
        intro ⟨q1, q2⟩
        have := I.w2 a b h3 h4 q2
        omega
      · exact hall k (by omega) h2 a b h3 h4

/-! ### The law's three loops -/
noncomputable def triK (f : Nat → Int) (i j : Nat) : Nat → Nat → Bool → Bool
  | 0, _, w => w
  | d + 1, k, w => triK f i j d (k + 1) (w || (ltF (f k) (f i) && ltF (f i) (f j)))
noncomputable def triJ (f : Nat → Int) (n i : Nat) : Nat → Nat → Bool → Bool
  | 0, _, w => w
  | d + 1, j, w => triJ f n i d (j + 1) (triK f i j (n - (j + 1)) (j + 1) w)
noncomputable def triI (f : Nat → Int) (n : Nat) : Nat → Nat → Bool → Bool
  | 0, _, w => w
  | d + 1, i, w => triI f n d (i + 1) (triJ f n i (n - (i + 1)) (i + 1) w)

theorem triK_iff (f : Nat → Int) (i j : Nat) : ∀ d k w, triK f i j d k w = true ↔ w = true ∨ ∃ x, k ≤ x ∧ x < k + d ∧ f x < f i ∧ f i < f j
  | 0, k, w => ⟨.inl, fun h => h.elim id fun ⟨x, a, b, _⟩ => by omega⟩
  | d + 1, k, w => by
    unfold triK
    rw [triK_iff f i j d (k + 1), Bool.or_eq_true, Bool.and_eq_true, ltF_iff, ltF_iff]
    constructor
    · rintro ((h | h) | ⟨x, a, b, h⟩)
      · exact .inl h
      · exact .inr ⟨k, Nat.le_refl k, by omega, h⟩
      · exact .inr ⟨x, by omega, by omega, h⟩
    · rintro (h | ⟨x, a, b, h⟩)
      · exact .inl (.inl h)
      · by_cases e : x = k
        · subst e; exact .inl (.inr h)
        · exact .inr ⟨x, by omega, by omega, h⟩
theorem triJ_iff (f : Nat → Int) (n i : Nat) : ∀ d j w, j + d = n → (triJ f n i d j w = true ↔ w = true ∨ ∃ y x, j ≤ y ∧ y < x ∧ x < n ∧ f x < f i ∧ f i < f y)
  | 0, j, w, h => ⟨.inl, fun h => h.elim id fun ⟨y, x, a, b, c, _⟩ => by omega⟩
  | d + 1, j, w, h => by
    unfold triJ
    rw [triJ_iff f n i d (j + 1) _ (by omega), triK_iff]
    constructor
    · rintro ((h | ⟨x, a, b, q⟩) | ⟨y, x, a, b, c, q⟩)
      · exact .inl h
      · exact .inr ⟨j, x, Nat.le_refl j, by omega, by omega, q⟩
      · exact .inr ⟨y, x, by omega, b, c, q⟩
    · rintro (h | ⟨y, x, a, b, c, q⟩)
      · exact .inl (.inl h)
      · by_cases e : y = j
        · subst e; exact .inl (.inr ⟨x, by omega, by omega, q⟩)
        · exact .inr ⟨y, x, by omega, b, c, q⟩
theorem triI_iff (f : Nat → Int) (n : Nat) : ∀ d i w, i + d = n → (triI f n d i w = true ↔ w = true ∨ ∃ z y x, i ≤ z ∧ z < y ∧ y < x ∧ x < n ∧ f x < f z ∧ f z < f y)
  | 0, i, w, h => ⟨.inl, fun h => h.elim id fun ⟨z, y, x, a, b, c, d, _⟩ => by omega⟩
  | d + 1, i, w, h => by
    unfold triI
    rw [triI_iff f n d (i + 1) _ (by omega), triJ_iff f n i _ _ _ (by omega)]
    constructor
    · rintro ((h | ⟨y, x, a, b, c, q⟩) | ⟨z, y, x, a, b, c, e, q⟩)
      · exact .inl h
      · exact .inr ⟨i, y, x, Nat.le_refl i, by omega, b, c, q⟩
      · exact .inr ⟨z, y, x, by omega, b, c, e, q⟩
    · rintro (h | ⟨z, y, x, a, b, c, g, q⟩)
      · exact .inl (.inl h)
      · by_cases e : z = i
        · subst e; exact .inl (.inr ⟨y, x, by omega, c, g, q⟩)
        · exact .inr ⟨z, y, x, by omega, b, c, g, q⟩

/-- The stack finds the pattern. -/
theorem stack_tri (f : Nat → Int) (n : Nat) (inj : ∀ a b, a < n → b < n → f a = f b → a = b) (pos : ∀ k, k < n → 0 < f k) : stackF f n 0 0 [] = !(triI f n n 0 false) := by
  have h1 := stack_spec f n inj n 0 0 [] (by omega) ⟨.inr pos, fun x y _ h => by omega, fun x h => by omega, fun x y _ h => by simp at h, fun j h => by simp at h, fun j h => by simp at h⟩
  have h2 := triI_iff f n n 0 false (by omega)
  cases hs : stackF f n 0 0 [] with
  | true =>
    cases ht : triI f n n 0 false with
    | false => rfl
    | true =>
      rcases h2.1 ht with q | ⟨z, y, x, a, b, c, d, e⟩
      · cases q
      · exact absurd e (h1.1 hs x (by omega) d z y b c)
  | false =>
    cases ht : triI f n n 0 false with
    | true => rfl
    | false =>
      have : stackF f n 0 0 [] = true := h1.2 fun k _ h3 a b h4 h5 q => by
        have := h2.2 (.inr ⟨a, b, k, by omega, h4, h5, h3, q⟩)
        rw [ht] at this; cases this
      rw [hs] at this; cases this
end
end Go.Proofs.YtgnkjmgkfibipaaGreatDoor

/- TrialChecked: outside, and whether a number stands in a list, whatever these are. -/
namespace Go.Proofs.YtgnkjmgkfibipaaGreatDoor
set_option linter.unusedVariables false
set_option linter.unusedSimpArgs false
open Go Go.R
set_option maxRecDepth 1000000
noncomputable section

/-! ### outside -/
noncomputable def c74 : Code := bodyOf Tryz.f51
noncomputable def outZ (x lo hi : Int) : Bool := ltF x lo || ltF hi x
theorem outZ_local (x lo hi : Int) : Local Tryz.prog 0 51 [.int .i64 x, .int .i64 lo, .int .i64 hi] AH.empty fun v' _ => v' = .bool (outZ x lo hi) := by
  refine local_of noNum Tryz.func51 (show Tryz.f51.body = some c74 by kernel_rfl) ?_
  refine Runs.sqR mixed hk38 [] (by kernel_rfl) (by kernel_rfl) (by kernel_rfl) oblN ?_
  unfold outZ
  cases h : ltF x lo with
  | true =>
    refine Runs.sqR mixed hk38 [viaV 2 (.bool true)] (by kernel_rfl) (by kernel_rfl) (by kernel_rfl) (oblC (shown_eq (v := .bool (ltF x lo)) (by kernel_rfl) (by kernel_rfl) (by rw [h])) oblN) ?_
    exact Runs.now (x := .ret) (by kernel_rfl) ⟨.inr rfl, [.bool true], by kernel_rfl, rfl⟩
  | false =>
    refine Runs.sqR mixed hk38 [viaV 2 (.bool false)] (by kernel_rfl) (by kernel_rfl) (by kernel_rfl) (oblC (shown_eq (v := .bool (ltF x lo)) (by kernel_rfl) (by kernel_rfl) (by rw [h])) oblN) ?_
    exact Runs.now (x := .ret) (by kernel_rfl) ⟨.inr rfl, [.bool (ltF hi x)], by kernel_rfl, rfl⟩
theorem outZ_says (x lo hi : Int) (h : AH) : Says Tryz.prog h 51 [.int .i64 x, .int .i64 lo, .int .i64 hi] (.bool (outZ x lo hi)) h := fun F w0 μ w args' H hl =>
  (outZ_local x lo hi).closed three_plain rfl h H hl

/-! ### Rows of any numbers, only looked at -/
noncomputable def intsZ (n : Nat) (f : Nat → Int) : List Value := (List.range n).map fun i => .int .i64 (f i)
noncomputable def viewZ (n : Nat) (f : Nat → Int) : AObj := .cells (intsZ n f) false [] none
noncomputable def slV (n cap : Nat) : Value := .slice (some ⟨0, 0, none⟩) n cap
theorem intsZ_len (n : Nat) (f : Nat → Int) : (intsZ n f).length = n := by simp [intsZ]
theorem intsZ_plain (n : Nat) (f : Nat → Int) : ∀ x ∈ intsZ n f, plainV x = true := fun x hx => by
  obtain ⟨i, _, rfl⟩ := List.mem_map.1 hx; rfl
theorem intZ_at {h : AH} {g n i : Nat} {f : Nat → Int} {lv : Bool} {par : List Nat} {ty : Option TypeId} (hg : h.get g = .cells (intsZ n f) lv par ty) (hlt : i < n) : rowAt? h g (0 + i * 1) 1 = some [.int .i64 (f i)] := by
  rw [row_at hg (by rw [intsZ_len]; omega), Nat.zero_add, Nat.mul_one]
  have : (intsZ n f)[i]? = some (.int .i64 (f i)) := by simp [intsZ, hlt]
  rw [List.take_one, List.head?_drop, this]
  rfl
theorem viewZ_clo {n : Nat} {f : Nat → Int} : ∀ x ∈ [viewZ n f], CloO 1 x := fun x hx => by rw [List.mem_singleton.1 hx]; exact cloO_plain (intsZ_plain n f) _ _

/-! ### Index, Contains -/
noncomputable def c88 : Code := bodyOf Tryz.f78
noncomputable def lp88 : Code := within (tl (hd (behind 1 c88)))
noncomputable def idxF (f : Nat → Int) (x : Int) : Nat → Nat → Int
  | 0, _ => .negSucc 0
  | d + 1, i => if eqF x (f i) then .ofNat i else idxF f x d (i + 1)
noncomputable def S88 (m cap : Nat) (x : Int) (i : Nat) : List (Nat × Value) := [(0, slV m cap), (1, .int .i64 x), (7, i64 m), (8, i64 i)]
theorem s88_clo {m cap i : Nat} {x : Int} : ∀ q ∈ S88 m cap x i, Clo 1 q.2 := clo_all (by kernel_rfl)

theorem idx88_loop (n m cap : Nat) (f : Nat → Int) (x : Int) (hm : m ≤ n) (hn : n < 1000000) : ∀ d i, i + d = m →
    Runs Tryz.prog 1 lp88 (sth (S88 m cap x i) 19 [viewZ n f]) fun e af => (e = .exit 0 ∧ idxF f x d i = .negSucc 0 ∧ Less 1 (sth (S88 m cap x m) 19 [viewZ n f]) af) ∨ (e = .ret ∧ EndsAs Tryz.prog Tryz.f78 (Holds [viewZ n f] (.int .i64 (idxF f x d i))) .ret af) := by
  intro d
  induction d with
  | zero =>
    intro i hi
    have e : i = m := by omega
    subst e
    refine Runs.lp (by kernel_rfl) (Runs.sqR mixed hk38 [] (by kernel_rfl) (by kernel_rfl) (by kernel_rfl) oblN (Runs.sq (by kernel_rfl) ?_))
    refine Runs.cd (b := ltF (.ofNat i) (.ofNat i)) (by kernel_rfl) (fun ht => by rw [lt_self] at ht; cases ht) (fun _ => Runs.now (x := .exit 0) (by kernel_rfl) (.inl ⟨rfl, rfl, ?_⟩))
    exact less_seenP s88_clo viewZ_clo (Nat.le_refl 1) (by kernel_rfl) (by kernel_rfl) (by kernel_rfl) (by kernel_rfl)
  | succ d ih =>
    intro i hi
    have hlt : i < m := by omega
    refine Runs.lp (by kernel_rfl) (Runs.sqR mixed hk38 [] (by kernel_rfl) (by kernel_rfl) (by kernel_rfl) oblN (Runs.sq (by kernel_rfl) ?_))
    refine Runs.cd (b := ltF (.ofNat i) (.ofNat m)) (by kernel_rfl) (fun _ => Runs.now (x := .normal) (by kernel_rfl) ?_) (fun hf => by rw [lt_of hlt] at hf; cases hf)
    show Runs Tryz.prog 1 _ _ _
    refine Runs.sq (by kernel_rfl) (Runs.bk (id := 1) (by kernel_rfl) ?_)
    refine Runs.sqR mixed hk38 [] (by kernel_rfl) (by kernel_rfl) (by kernel_rfl) oblN ?_
    refine Runs.sqR mixed hk38 [viaV 3 (.pointer (some ⟨0, 0 + i * 1, none⟩)), viaV 4 (.int .i64 (f i))] (by kernel_rfl) (by kernel_rfl) (by kernel_rfl)
      (oblC (shown_idx (n := m) (by kernel_rfl) hlt) (oblC (shown_cell (by kernel_rfl) (intZ_at (g := 0) (n := n) (f := f) (lv := false) (par := []) (ty := none) (by kernel_rfl) (by omega))) oblN)) ?_
    refine Runs.cd (b := eqF x (f i)) (by kernel_rfl) (fun he => ?_) (fun he => Runs.now (x := .normal) (by kernel_rfl) ?_)
    · have e : idxF f x (d + 1) i = .ofNat i := by unfold idxF; rw [he]; rfl
      rw [e]
      refine Runs.sqR mixed hk38 [] (by kernel_rfl) (by kernel_rfl) (by kernel_rfl) oblN (Runs.now (x := .ret) (by kernel_rfl) (.inr ⟨rfl, .inr rfl, [.int .i64 (.ofNat i)], by kernel_rfl, rfl, keepOf (by kernel_rfl)⟩))
    · have e : idxF f x (d + 1) i = idxF f x d (i + 1) := by rw [idxF, he]; rfl
      rw [e]
      show Runs Tryz.prog 1 _ _ _
      refine Runs.rg mixed hk38 [] (by kernel_rfl) (by kernel_rfl) (by kernel_rfl) oblN ?_
      show Runs Tryz.prog 1 lp88 _ _
      have ew : S88 m cap x (i + 1) = [(0, slV m cap), (1, .int .i64 x), (7, i64 m), (8, .int .i64 (wrapF .i64 (Int.add (.ofNat i) (.ofNat 1))))] := by rw [wrap_succ (by omega : i < 4611686018427387904)]; rfl
      refine Runs.less (af1 := sth (S88 m cap x (i + 1)) 19 [viewZ n f]) (less_seenP s88_clo viewZ_clo (Nat.le_refl 1) ?_ (by kernel_rfl) (by kernel_rfl) (by kernel_rfl)) (ih (i + 1) (by omega))
      rw [ew]
      exact Eq.trans (Eq.refl _) (by kernel_rfl)

theorem slx_clo {m cap : Nat} {x : Int} : ∀ y ∈ [slV m cap, .int .i64 x], Clo 1 y := fun y hy => by
  simp only [List.mem_cons, List.mem_nil_iff, or_false] at hy
  rcases hy with rfl | rfl <;> exact clo_of 10 1 _ (by kernel_rfl)

theorem index_says (n m cap : Nat) (f : Nat → Int) (x : Int) (hm : m ≤ n) (hn : n < 1000000) : Says Tryz.prog (hp [viewZ n f]) 78 [slV m cap, .int .i64 x] (.int .i64 (idxF f x m 0)) (hp [viewZ n f]) := by
  refine says_of (os := [viewZ n f]) ?_ slx_clo viewZ_clo (clo_plain rfl)
  refine local_of noNum Tryz.func78 (show Tryz.f78.body = some c88 by kernel_rfl) ?_
  refine Runs.sqR mixed hk38 [] (by kernel_rfl) (by kernel_rfl) (by kernel_rfl) oblN ?_
  refine Runs.sq (by kernel_rfl) (Runs.sqR mixed hk38 [] (by kernel_rfl) (by kernel_rfl) (by kernel_rfl) oblN (Runs.bk (id := 0) (by kernel_rfl) ?_))
  refine Runs.less (af1 := sth (S88 m cap x 0) 19 [viewZ n f]) (less_seenP s88_clo viewZ_clo (Nat.le_refl 1) (by kernel_rfl) (by kernel_rfl) (by kernel_rfl) (by kernel_rfl)) ?_
  refine (idx88_loop n m cap f x hm hn m 0 (by omega)).mono fun e af hx => ?_
  rcases hx with ⟨rfl, hi, less⟩ | ⟨rfl, he⟩
  · rw [hi]
    show Runs Tryz.prog 1 _ af _
    exact Runs.less less (Runs.sqR mixed hk38 [] (by kernel_rfl) (by kernel_rfl) (by kernel_rfl) oblN (Runs.now (x := .ret) (by kernel_rfl) ⟨.inr rfl, [.int .i64 (.negSucc 0)], by kernel_rfl, rfl, keepOf (by kernel_rfl)⟩))
  · exact he

noncomputable def c37 : Code := bodyOf Tryz.f52
noncomputable def memZ (f : Nat → Int) (x : Int) (m : Nat) : Bool := leF 0 (idxF f x m 0)
theorem contains_says (n m cap : Nat) (f : Nat → Int) (x : Int) (hm : m ≤ n) (hn : n < 1000000) : Says Tryz.prog (hp [viewZ n f]) 52 [slV m cap, .int .i64 x] (.bool (memZ f x m)) (hp [viewZ n f]) := by
  refine says_of (os := [viewZ n f]) ?_ slx_clo viewZ_clo (clo_plain rfl)
  refine local_of noNum Tryz.func52 (show Tryz.f52.body = some c37 by kernel_rfl) ?_
  refine Runs.sqR mixed hk38 [] (by kernel_rfl) (by kernel_rfl) (by kernel_rfl) oblN ?_
  refine Runs.sqR mixed hk38 [viaC 2 78 [slV m cap, .int .i64 x] (.int .i64 (idxF f x m 0))] (by kernel_rfl) (by kernel_rfl) (by kernel_rfl) (oblC (shown_callE (by kernel_rfl) (by kernel_rfl) (index_says n m cap f x hm hn)) oblN) ?_
  exact Runs.now (x := .ret) (by kernel_rfl) ⟨.inr rfl, [.bool (leF 0 (idxF f x m 0))], by kernel_rfl, rfl, keepOf (by kernel_rfl)⟩

theorem idx_iff (f : Nat → Int) (x : Int) : ∀ d i, leF 0 (idxF f x d i) = true ↔ ∃ j, i ≤ j ∧ j < i + d ∧ f j = x
  | 0, i => ⟨fun h => (by cases h), fun ⟨j, a, b, _⟩ => by omega⟩
  | d + 1, i => by
    unfold idxF
    cases h : eqF x (f i) with
    | true =>
      have : x = f i := by rw [eqF_eq] at h; exact eq_of_beq h
      simp only [if_true]
      exact ⟨fun _ => ⟨i, Nat.le_refl i, by omega, this.symm⟩, fun _ => by rw [leF_eq, decide_eq_true_eq]; exact Int.natCast_nonneg i⟩
    | false =>
      simp only [Bool.false_eq_true, if_false]
      rw [idx_iff f x d (i + 1)]
      constructor
      · rintro ⟨j, a, b, c⟩; exact ⟨j, by omega, by omega, c⟩
      · rintro ⟨j, a, b, c⟩
        have : j ≠ i := fun e => by subst e; rw [← c, eq_self] at h; cases h
        exact ⟨j, by omega, by omega, c⟩
theorem mem_iff (f : Nat → Int) (x : Int) (m : Nat) : memZ f x m = true ↔ ∃ j, j < m ∧ f j = x := by
  unfold memZ
  rw [idx_iff]
  constructor
  · rintro ⟨j, _, b, c⟩; exact ⟨j, by omega, c⟩
  · rintro ⟨j, b, c⟩; exact ⟨j, by omega, by omega, c⟩
end
end Go.Proofs.YtgnkjmgkfibipaaGreatDoor

/- Check, whatever the list is. -/
namespace Go.Proofs.YtgnkjmgkfibipaaGreatDoor
set_option linter.unusedVariables false
set_option linter.unusedSimpArgs false
open Go Go.R
set_option maxRecDepth 1000000
noncomputable section

theorem slice_pre {n cap i : Nat} (hi : i ≤ n) (hc : n ≤ cap) : sliceA Tryz.prog 22 (slV n cap) none (some (i64 i)) none = some (slV i cap) := by
  have e1 : Tryz.prog.underlying 22 = some (.slice 3) := by kernel_rfl
  obtain ⟨info, e2, e3⟩ : ∃ info, Tryz.prog.info? 3 = some info ∧ info.size = 1 := ⟨(Tryz.prog.info? 3).get!, by kernel_rfl, by kernel_rfl⟩
  have eb : boundsA n cap none (some (i64 i)) none = some (0, i, cap) := by
    unfold boundsA
    show (match boundA none cap cap with | none => none | some m => match boundA (some (i64 i)) n m with | none => none | some h => match boundA none 0 h with | none => none | some l => if h ≤ m then some (l, h, m) else none) = _
    have : boundA (some (i64 i)) n cap = some i := by
      show (if (0 : Int) ≤ .ofNat i ∧ (.ofNat i : Int) ≤ (cap : Int) then some (Int.ofNat i).toNat else none) = _
      rw [if_pos ⟨by show (0 : Int) ≤ (i : Int); omega, by show (i : Int) ≤ (cap : Int); omega⟩]; rfl
    simp only [boundA] at this ⊢
    rw [this]
    simp only [if_pos (show i ≤ cap by omega)]
  unfold slV sliceA
  simp only [e1, e2, eb]
  unfold cutAt
  rw [e3]
  split <;> rfl

theorem slice_pop {m cc : Nat} (hm : m + 1 ≤ cc) : sliceA Tryz.prog 22 (.slice (some ⟨1, 0, some 1⟩) (m + 1) cc) none (some (i64 m)) none = some (.slice (some ⟨1, 0, some 1⟩) m cc) := by
  have e1 : Tryz.prog.underlying 22 = some (.slice 3) := by kernel_rfl
  obtain ⟨info, e2, e3⟩ : ∃ info, Tryz.prog.info? 3 = some info ∧ info.size = 1 := ⟨(Tryz.prog.info? 3).get!, by kernel_rfl, by kernel_rfl⟩
  have eb : boundsA (m + 1) cc none (some (i64 m)) none = some (0, m, cc) := by
    unfold boundsA
    show (match boundA none cc cc with | none => none | some mm => match boundA (some (i64 m)) (m + 1) mm with | none => none | some h => match boundA none 0 h with | none => none | some l => if h ≤ mm then some (l, h, mm) else none) = _
    have : boundA (some (i64 m)) (m + 1) cc = some m := by
      show (if (0 : Int) ≤ .ofNat m ∧ (.ofNat m : Int) ≤ (cc : Int) then some (Int.ofNat m).toNat else none) = _
      rw [if_pos ⟨by show (0 : Int) ≤ (m : Int); omega, by show (m : Int) ≤ (cc : Int); omega⟩]; rfl
    simp only [boundA] at this ⊢
    rw [this]
    simp only [if_pos (show m ≤ cc by omega)]
  unfold sliceA
  simp only [e1, e2, eb, e3, ne_eq, not_true_eq_false, if_false, if_pos (show 0 < cc by omega)]
  rfl

/-! ### The scan -/
noncomputable def c45 : Code := bodyOf Tryz.f19
noncomputable def lp45 : Code := within (tl (hd (behind 2 c45)))
noncomputable def scanF (f : Nat → Int) (n : Nat) : Nat → Nat → Int
  | 0, _ => 0
  | d + 1, i => if outZ (f i) 1 (.ofNat n) then 2 else if memZ f (f i) i then 6 else scanF f n d (i + 1)
noncomputable def S45a (n cap i : Nat) : List (Nat × Value) := [(0, slV n cap), (12, slV n cap), (13, i64 n), (14, i64 i)]
theorem s45a_clo {n cap i : Nat} : ∀ q ∈ S45a n cap i, Clo 1 q.2 := clo_all (by kernel_rfl)

theorem scan_loop (n cap : Nat) (f : Nat → Int) (hc : n ≤ cap) (hn : n < 1000000) : ∀ d i, i + d = n →
    Runs Tryz.prog 1 lp45 (sth (S45a n cap i) 69 [viewZ n f]) fun e af => (e = .exit 0 ∧ scanF f n d i = 0 ∧ Less 1 (sth (S45a n cap n) 69 [viewZ n f]) af) ∨ (e = .ret ∧ scanF f n d i ≠ 0 ∧ EndsAs Tryz.prog Tryz.f19 (Holds [viewZ n f] (.int .i64 (scanF f n d i))) .ret af) := by
  intro d
  induction d with
  | zero =>
    intro i hi
    have e : i = n := by omega
    subst e
    refine Runs.lp (by kernel_rfl) (Runs.sqR mixed hk38 [] (by kernel_rfl) (by kernel_rfl) (by kernel_rfl) oblN (Runs.sq (by kernel_rfl) ?_))
    refine Runs.cd (b := ltF (.ofNat i) (.ofNat i)) (by kernel_rfl) (fun ht => by rw [lt_self] at ht; cases ht) (fun _ => Runs.now (x := .exit 0) (by kernel_rfl) (.inl ⟨rfl, rfl, ?_⟩))
    exact less_seenP s45a_clo viewZ_clo (Nat.le_refl 1) (by kernel_rfl) (by kernel_rfl) (by kernel_rfl) (by kernel_rfl)
  | succ d ih =>
    intro i hi
    have hlt : i < n := by omega
    refine Runs.lp (by kernel_rfl) (Runs.sqR mixed hk38 [] (by kernel_rfl) (by kernel_rfl) (by kernel_rfl) oblN (Runs.sq (by kernel_rfl) ?_))
    refine Runs.cd (b := ltF (.ofNat i) (.ofNat n)) (by kernel_rfl) (fun _ => Runs.now (x := .normal) (by kernel_rfl) ?_) (fun hf => by rw [lt_of hlt] at hf; cases hf)
    show Runs Tryz.prog 1 _ _ _
    refine Runs.sq (by kernel_rfl) (Runs.bk (id := 1) (by kernel_rfl) ?_)
    refine Runs.sqR mixed hk38 [viaV 1 (.pointer (some ⟨0, 0 + i * 1, none⟩)), viaV 2 (.int .i64 (f i))] (by kernel_rfl) (by kernel_rfl) (by kernel_rfl)
      (oblC (shown_idx (n := n) (by kernel_rfl) hlt) (oblC (shown_cell (by kernel_rfl) (intZ_at (g := 0) (n := n) (f := f) (lv := false) (par := []) (ty := none) (by kernel_rfl) hlt)) oblN)) ?_
    refine Runs.bk (id := 2) (by kernel_rfl) ?_
    refine Runs.sqR mixed hk38 [viaC 3 51 [.int .i64 (f i), i64 1, i64 n] (.bool (outZ (f i) 1 (.ofNat n)))] (by kernel_rfl) (by kernel_rfl) (by kernel_rfl) (oblC (shown_call (by kernel_rfl) (outZ_says (f i) 1 (.ofNat n) _)) oblN) ?_
    refine Runs.cd (b := outZ (f i) 1 (.ofNat n)) (by kernel_rfl) (fun ho => ?_) (fun ho => ?_)
    · have e : scanF f n (d + 1) i = 2 := by rw [scanF, ho]; rfl
      rw [e]
      exact Runs.sqR mixed hk38 [] (by kernel_rfl) (by kernel_rfl) (by kernel_rfl) oblN (Runs.now (x := .ret) (by kernel_rfl) (.inr ⟨rfl, by decide, .inr rfl, [.int .i64 2], by kernel_rfl, rfl, keepOf (by kernel_rfl)⟩))
    · have hsl := slice_pre (n := n) (cap := cap) (i := i) (by omega) hc
      refine Runs.sqR mixed hk38 [viaV 2 (slV i cap), viaC 4 52 [slV i cap, .int .i64 (f i)] (.bool (memZ f (f i) i))] (by kernel_rfl) (by kernel_rfl) (by kernel_rfl)
        (oblC ⟨by kernel_rfl, (show _ = (sliceA Tryz.prog 22 (slV n cap) none (some (i64 i)) none).map (·, hp [viewZ n f]) by kernel_rfl).trans (by rw [hsl]; rfl)⟩
        (oblC (shown_callE (by kernel_rfl) (by kernel_rfl) (contains_says n i cap f (f i) (by omega) hn)) oblN)) ?_
      refine Runs.cd (b := memZ f (f i) i) (by kernel_rfl) (fun hm => ?_) (fun hm => Runs.now (x := .normal) (by kernel_rfl) ?_)
      · have e : scanF f n (d + 1) i = 6 := by rw [scanF, ho, hm]; rfl
        rw [e]
        exact Runs.sqR mixed hk38 [] (by kernel_rfl) (by kernel_rfl) (by kernel_rfl) oblN (Runs.now (x := .ret) (by kernel_rfl) (.inr ⟨rfl, by decide, .inr rfl, [.int .i64 6], by kernel_rfl, rfl, keepOf (by kernel_rfl)⟩))
      · have e : scanF f n (d + 1) i = scanF f n d (i + 1) := by rw [scanF, ho, hm]; rfl
        rw [e]
        show Runs Tryz.prog 1 _ _ _
        refine Runs.rg mixed hk38 [] (by kernel_rfl) (by kernel_rfl) (by kernel_rfl) oblN ?_
        show Runs Tryz.prog 1 lp45 _ _
        have ew : S45a n cap (i + 1) = [(0, slV n cap), (12, slV n cap), (13, i64 n), (14, .int .i64 (wrapF .i64 (Int.add (.ofNat i) (.ofNat 1))))] := by rw [wrap_succ (by omega : i < 4611686018427387904)]; rfl
        refine Runs.less (af1 := sth (S45a n cap (i + 1)) 69 [viewZ n f]) (less_seenP s45a_clo viewZ_clo (Nat.le_refl 1) ?_ (by kernel_rfl) (by kernel_rfl) (by kernel_rfl)) (ih (i + 1) (by omega))
        rw [ew]
        exact Eq.trans (Eq.refl _) (by kernel_rfl)

/-! ### The stack -/
noncomputable def lp45b : Code := within (tl (hd (behind 5 c45)))
noncomputable def bd45 : Code := within (hd (tl (tl (within lp45b))))
noncomputable def lp45c : Code := within (hd (behind 2 bd45))
noncomputable def litZ (T : List Int) : List Value := T.map fun x => .int .i64 x
noncomputable def rowT (T : List Int) : AObj := .cells (litZ T) true [] (some 3)
theorem litZ_len (T : List Int) : (litZ T).length = T.length := List.length_map _
theorem litZ_plain (T : List Int) : ∀ x ∈ litZ T, plainV x = true := fun x hx => by
  obtain ⟨i, _, rfl⟩ := List.mem_map.1 hx; rfl
theorem stk_at {h : AH} {T : List Int} {j : Nat} (hg : h.get 1 = rowT T) (hlt : j < T.length) : rowAt? h 1 (0 + j * 1) 1 = some [.int .i64 (atL T j)] := by
  rw [row_at hg (by rw [litZ_len]; omega), Nat.zero_add, Nat.mul_one]
  have : (litZ T)[j]? = some (.int .i64 (atL T j)) := by
    unfold litZ atL
    rw [List.getElem?_map, List.getElem?_eq_getElem hlt, List.getD_eq_getElem?_getD, List.getElem?_eq_getElem hlt]
    rfl
  rw [List.take_one, List.head?_drop, this]
  rfl
noncomputable def S45i (n cap i : Nat) (c : Int) (m cc : Nat) (x : Int) : List (Nat × Value) := [(0, slV n cap), (31, slV n cap), (32, i64 n), (33, i64 i), (5, .int .i64 c), (6, .slice (some ⟨1, 0, some 1⟩) m cc), (8, .int .i64 x)]
theorem s45i_clo {n cap i m cc : Nat} {c x : Int} : ∀ q ∈ S45i n cap i c m cc x, Clo 2 q.2 := clo_all (by kernel_rfl)
theorem ck2_clo {n : Nat} {f : Nat → Int} {T : List Int} : ∀ x ∈ [viewZ n f, rowT T], CloO 2 x := fun x hx => by
  simp only [List.mem_cons, List.mem_nil_iff, or_false] at hx
  rcases hx with rfl | rfl
  · exact cloO_plain (intsZ_plain n f) _ _
  · exact cloO_plain (litZ_plain T) _ _

theorem pop_loop (n cap i : Nat) (f : Nat → Int) (x : Int) (T : List Int) (hT : T.length < 1000000) : ∀ m c, m ≤ T.length →
    Runs Tryz.prog 1 lp45c (sth (S45i n cap i c m T.length x) 69 [viewZ n f, rowT T]) fun e af => e = .exit 5 ∧ Less 1 (sth (S45i n cap i (popN (atL T) x m c).2 (popN (atL T) x m c).1 T.length x) 69 [viewZ n f, rowT T]) af
  | 0, c, _ => by
    refine Runs.lp (by kernel_rfl) (Runs.sq (by kernel_rfl) (Runs.sqR mixed hk38 [] (by kernel_rfl) (by kernel_rfl) (by kernel_rfl) oblN ?_))
    refine Runs.cd (b := false) (by kernel_rfl) (fun h => by cases h) (fun _ => Runs.now (x := .exit 5) (by kernel_rfl) ⟨rfl, ?_⟩)
    exact less_seenP s45i_clo ck2_clo (show 1 ≤ 2 by decide) (by kernel_rfl) (by kernel_rfl) (by kernel_rfl) (by kernel_rfl)
  | m + 1, c, h => by
    refine Runs.lp (by kernel_rfl) (Runs.sq (by kernel_rfl) (Runs.sqR mixed hk38 [viaV 2 (.bool true), viaV 7 (.int .i64 (.ofNat m)), viaV 8 (.pointer (some ⟨1, 0 + m * 1, none⟩)), viaV 9 (.int .i64 (atL T m))] (by kernel_rfl) (by kernel_rfl) (by kernel_rfl)
      (oblC (shown_eq (v := .bool (ltF (.ofNat 0) (.ofNat (m + 1)))) (by kernel_rfl) (by kernel_rfl) (by rw [lt_of (by omega)]))
      (oblC (shown_eq (v := .int .i64 (wrapF .i64 (Int.sub (.ofNat (m + 1)) (.ofNat 1)))) (by kernel_rfl) (by kernel_rfl) (by rw [f_sub (by omega) (by omega)]; rfl))
      (oblC (shown_idx (n := m + 1) (by kernel_rfl) (by omega)) (oblC (shown_cell (by kernel_rfl) (stk_at (T := T) (by kernel_rfl) (by omega))) oblN)))) ?_))
    refine Runs.cd (b := ltF (atL T m) x) (by kernel_rfl) (fun ht => Runs.now (x := .normal) (by kernel_rfl) ?_) (fun hf => Runs.now (x := .exit 5) (by kernel_rfl) ⟨rfl, ?_⟩)
    · have e : popN (atL T) x (m + 1) c = popN (atL T) x m (atL T m) := by rw [popN, ht]; rfl
      rw [e]
      show Runs Tryz.prog 1 _ _ _
      refine Runs.bk (id := 6) (by kernel_rfl) ?_
      refine Runs.sqR mixed hk38 [viaV 3 (.int .i64 (.ofNat m)), viaV 4 (.pointer (some ⟨1, 0 + m * 1, none⟩)), viaV 5 (.int .i64 (atL T m))] (by kernel_rfl) (by kernel_rfl) (by kernel_rfl)
        (oblC (shown_eq (v := .int .i64 (wrapF .i64 (Int.sub (.ofNat (m + 1)) (.ofNat 1)))) (by kernel_rfl) (by kernel_rfl) (by rw [f_sub (by omega) (by omega)]; rfl))
        (oblC (shown_idx (n := m + 1) (by kernel_rfl) (by omega)) (oblC (shown_cell (by kernel_rfl) (stk_at (T := T) (by kernel_rfl) (by omega))) oblN))) ?_
      refine Runs.rg mixed hk38 [viaV 3 (.int .i64 (.ofNat m)), viaV 4 (.slice (some ⟨1, 0, some 1⟩) m T.length)] (by kernel_rfl) (by kernel_rfl) (by kernel_rfl)
        (oblC (shown_eq (v := .int .i64 (wrapF .i64 (Int.sub (.ofNat (m + 1)) (.ofNat 1)))) (by kernel_rfl) (by kernel_rfl) (by rw [f_sub (by omega) (by omega)]; rfl))
        (oblC ⟨by kernel_rfl, (show _ = (sliceA Tryz.prog 22 (.slice (some ⟨1, 0, some 1⟩) (m + 1) T.length) none (some (i64 m)) none).map (·, hp [viewZ n f, rowT T]) by kernel_rfl).trans (by rw [slice_pop h]; rfl)⟩ oblN)) ?_
      show Runs Tryz.prog 1 lp45c _ _
      exact Runs.less (af1 := sth (S45i n cap i (atL T m) m T.length x) 69 [viewZ n f, rowT T]) (less_seenP s45i_clo ck2_clo (show 1 ≤ 2 by decide) (by kernel_rfl) (by kernel_rfl) (by kernel_rfl) (by kernel_rfl)) (pop_loop n cap i f x T hT m (atL T m) (by omega))
    · have e : popN (atL T) x (m + 1) c = (m + 1, c) := by rw [popN, hf]; rfl
      rw [e]
      exact less_seenP s45i_clo ck2_clo (show 1 ≤ 2 by decide) (by kernel_rfl) (by kernel_rfl) (by kernel_rfl) (by kernel_rfl)
end
end Go.Proofs.YtgnkjmgkfibipaaGreatDoor

/- Check, as a contract. -/
namespace Go.Proofs.YtgnkjmgkfibipaaGreatDoor
set_option linter.unusedVariables false
set_option linter.unusedSimpArgs false
open Go Go.R
set_option maxRecDepth 1000000
noncomputable section

theorem litZ_take (T : List Int) (m : Nat) : litZ (T.take m) = (litZ T).take m := List.map_take
theorem litZ_app (A B : List Int) : litZ A ++ litZ B = litZ (A ++ B) := by simp [litZ]

/-- A number goes onto the stack. -/
theorem push_own {h : AH} {T : List Int} {m : Nat} {x : Int} (hm : m ≤ T.length) (hlen : T.length < 1000000) (h1 : h.get 1 = rowT T) (h2 : h.get 2 = .cells [.int .i64 x] true [] (some 3)) :
    ∃ X, appendA Tryz.prog #[22, 22] (.slice (some ⟨1, 0, some 1⟩) m T.length) (.slice (some ⟨2, 0, none⟩) 1 1) h = some (.slice (some ⟨h.next, 0, some 1⟩) (m + 1) (m + 1), ((h.put 1 (.cells X false [] (some 3))).new (.cells (litZ (T.take m ++ [x])) true [1] (some 3))).2) := by
  have e1 : Tryz.prog.underlying 22 = some (.slice 3) := by kernel_rfl
  obtain ⟨info, e2, e3, e4⟩ := int_info
  rw [Bool.or_eq_false_iff] at e4
  have e5 : srcA 1 (.slice (some ⟨2, 0, none⟩) 1 1) h = some ([.int .i64 x], 1) := by
    unfold srcA
    simp only [show ¬ (1 = 0) by decide, if_false]
    show (rowAt? h 2 0 1).map (·, 1) = _
    unfold rowAt?
    rw [h2]; rfl
  have e6 : (decide (m > 1000000)) = false := by simp; omega
  have hx : litZ (T.take m ++ [x]) = (litZ T).take m ++ [.int .i64 x] := by rw [← litZ_app, litZ_take]; rfl
  have e7 : ∃ X, appendU 3 1 1 0 m 1 [.int .i64 x] h = some (.slice (some ⟨h.next, 0, some 1⟩) (m + 1) (m + 1), ((h.put 1 (.cells X false [] (some 3))).new (.cells (litZ (T.take m ++ [x])) true [1] (some 3))).2) := by
    unfold appendU
    rw [h1]
    show ∃ X, (if 0 + m * 1 = (litZ T).length then _ else if 0 + m * 1 < (litZ T).length then _ else _) = _
    by_cases hq : m = T.length
    · rw [if_pos (by rw [litZ_len]; omega)]
      refine ⟨litZ T, ?_⟩
      rw [hx, List.take_of_length_le (by rw [litZ_len]; omega)]
      rfl
    · rw [if_neg (by rw [litZ_len]; omega), if_pos (by rw [litZ_len]; omega)]
      refine ⟨(litZ T).take (0 + m * 1), ?_⟩
      rw [hx, show m * 1 = m by omega]
      rfl
  obtain ⟨X, e7⟩ := e7
  refine ⟨X, ?_⟩
  unfold appendA
  simp only [List.getElem?_toArray, List.getElem?_cons_zero, List.getElem?_cons_succ, e1, e2, srcKind, Bool.not_true, Bool.false_eq_true, if_false, e3, e5]
  have e8 : ([Value.int .i64 x].all cellV) = true := by rfl
  simp only [e8, e4.1, e4.2, e6, Bool.not_true, Bool.or_false, Bool.false_or, Bool.or_self, decide_false, show (1 = 0) = False by simp, show (1 : Nat) > 1000000 ↔ False by simp, if_false, decide_true, ne_eq, not_true_eq_false, Bool.false_eq_true, show (0 + 1 = 1) by rfl, e7]

theorem obs_view {ρ : Nat → Nat} {m n : Nat} {f : Nat → Int} {x : AObj} (e : x = viewZ n f) : RenO ρ m x (viewZ n f) := RenO.row (c := intsZ n f) (lv := false) (p := []) (ty := none) e (intsZ_plain n f) (fun h => h) (.inl rfl)
theorem obs_rowT {ρ : Nat → Nat} {m : Nat} {T : List Int} {p : List Nat} {x : AObj} (e : x = .cells (litZ T) true p (some 3)) : RenO ρ m x (rowT T) := RenO.row (c := litZ T) (lv := true) (p := p) (ty := some 3) e (litZ_plain T) (fun h => h) (.inr rfl)

noncomputable def S45 (n cap i : Nat) (c : Int) (m : Nat) : List (Nat × Value) := [(0, slV n cap), (31, slV n cap), (32, i64 n), (33, i64 i), (5, .int .i64 c), (6, .slice (some ⟨1, 0, some 1⟩) m m)]
abbrev StkPost (n cap : Nat) (f : Nat → Int) (b : Bool) (e : AExit) (af : AF) : Prop :=
  (e = .exit 3 ∧ b = true ∧ Less 1 (sth [(0, slV n cap)] 69 [viewZ n f]) af) ∨ (e = .ret ∧ b = false ∧ EndsAs Tryz.prog Tryz.f19 (Holds [viewZ n f] (.int .i64 7)) .ret af)

theorem stk_loop (n cap : Nat) (f : Nat → Int) (hn : n < 1000000) : ∀ d i c (T : List Int), i + d = n → T.length ≤ i →
    Runs Tryz.prog 1 lp45b (sth (S45 n cap i c T.length) 69 [viewZ n f, rowT T]) (StkPost n cap f (stackF f d i c T))
  | 0, i, c, T, h, hT => by
    have e : i = n := by omega
    subst e
    refine Runs.lp (by kernel_rfl) (Runs.sqR mixed hk38 [] (by kernel_rfl) (by kernel_rfl) (by kernel_rfl) oblN (Runs.sq (by kernel_rfl) ?_))
    refine Runs.cd (b := ltF (.ofNat i) (.ofNat i)) (by kernel_rfl) (fun ht => by rw [lt_self] at ht; cases ht) (fun _ => Runs.now (x := .exit 3) (by kernel_rfl) (.inl ⟨rfl, rfl, ?_⟩))
    exact less_seenP (clo_all (k := 1) (by kernel_rfl)) viewZ_clo (Nat.le_refl 1) (by kernel_rfl) (by kernel_rfl) (by kernel_rfl) (by kernel_rfl)
  | d + 1, i, c, T, h, hT => by
    have hlt : i < n := by omega
    refine Runs.lp (by kernel_rfl) (Runs.sqR mixed hk38 [] (by kernel_rfl) (by kernel_rfl) (by kernel_rfl) oblN (Runs.sq (by kernel_rfl) ?_))
    refine Runs.cd (b := ltF (.ofNat i) (.ofNat n)) (by kernel_rfl) (fun _ => Runs.now (x := .normal) (by kernel_rfl) ?_) (fun hf => by rw [lt_of hlt] at hf; cases hf)
    show Runs Tryz.prog 1 _ _ _
    refine Runs.sq (by kernel_rfl) (Runs.bk (id := 4) (by kernel_rfl) ?_)
    refine Runs.sqR mixed hk38 [viaV 0 (.pointer (some ⟨0, 0 + i * 1, none⟩)), viaV 1 (.int .i64 (f i))] (by kernel_rfl) (by kernel_rfl) (by kernel_rfl)
      (oblC (shown_idx (n := n) (by kernel_rfl) hlt) (oblC (shown_cell (by kernel_rfl) (intZ_at (g := 0) (n := n) (f := f) (lv := false) (par := []) (ty := none) (by kernel_rfl) hlt)) oblN)) ?_
    refine Runs.sq (by kernel_rfl) (Runs.sqR mixed hk38 [] (by kernel_rfl) (by kernel_rfl) (by kernel_rfl) oblN ?_)
    refine Runs.cd (b := ltF (f i) c) (by kernel_rfl) (fun ht => ?_) (fun hf => Runs.now (x := .normal) (by kernel_rfl) ?_)
    · have e : stackF f (d + 1) i c T = false := by rw [stackF, ht]; rfl
      rw [e]
      exact Runs.sqR mixed hk38 [] (by kernel_rfl) (by kernel_rfl) (by kernel_rfl) oblN (Runs.now (x := .ret) (by kernel_rfl) (.inr ⟨rfl, rfl, .inr rfl, [.int .i64 7], by kernel_rfl, rfl, fun j z hz => by
        match j, hz with
        | 0, hz => cases hz; exact Eq.trans (Eq.refl _) (by kernel_rfl)
        | j + 1, hz => simp at hz⟩))
    · have e : stackF f (d + 1) i c T = stackF f d (i + 1) (popN (atL T) (f i) T.length c).2 (T.take (popN (atL T) (f i) T.length c).1 ++ [f i]) := by rw [stackF, hf]; rfl
      rw [e]
      show Runs Tryz.prog 1 _ _ _
      refine Runs.sq (by kernel_rfl) (Runs.bk (id := 5) (by kernel_rfl) ?_)
      refine Runs.less (af1 := sth (S45i n cap i c T.length T.length (f i)) 69 [viewZ n f, rowT T]) (less_seenP s45i_clo ck2_clo (show 1 ≤ 2 by decide) (by kernel_rfl) (by kernel_rfl) (by kernel_rfl) (by kernel_rfl)) ?_
      refine (pop_loop n cap i f (f i) T (by omega) T.length c (Nat.le_refl _)).mono fun e af hx => ?_
      obtain ⟨rfl, less⟩ := hx
      obtain ⟨p1, -⟩ := popN_spec (atL T) (f i) T.length c
      generalize (popN (atL T) (f i) T.length c).1 = m at *
      generalize (popN (atL T) (f i) T.length c).2 = c' at *
      show Runs Tryz.prog 1 _ af _
      refine Runs.less less ?_
      let H2 : AH := ((hp [viewZ n f, rowT T]).new (.cells [.int .i64 (f i)] true [] (some 3))).2
      obtain ⟨X, hX⟩ := push_own (h := H2) (x := f i) p1 (by omega) (by kernel_rfl) (by kernel_rfl)
      refine Runs.rg mixed hk38 [⟨3, .slice (some ⟨3, 0, some 1⟩) (m + 1) (m + 1), some ((H2.put 1 (.cells X false [] (some 3))).new (.cells (litZ (T.take m ++ [f i])) true [1] (some 3))).2, none⟩] (by kernel_rfl) (by kernel_rfl) (by kernel_rfl)
        (oblC ⟨by kernel_rfl, (show _ = appendA Tryz.prog #[22, 22] (.slice (some ⟨1, 0, some 1⟩) m T.length) (.slice (some ⟨2, 0, none⟩) 1 1) H2 by kernel_rfl).trans hX⟩ oblN) ?_
      have hl : (T.take m ++ [f i]).length = m + 1 := by simp; omega
      have ih := stk_loop n cap f hn d (i + 1) c' (T.take m ++ [f i]) (by omega) (by omega)
      rw [hl] at ih
      show Runs Tryz.prog 1 _ _ _
      refine Runs.rg mixed hk38 [viaV 0 (i64 (i + 1))] (by kernel_rfl) (by kernel_rfl) (by kernel_rfl) (oblC (shown_eq (v := .int .i64 (wrapF .i64 (Int.add (.ofNat i) (.ofNat 1)))) (by kernel_rfl) (by kernel_rfl) (by rw [wrap_succ (by omega)]; rfl)) oblN) ?_
      show Runs Tryz.prog 1 lp45b _ _
      refine Runs.renumK (l := S45 n cap (i + 1) c' (m + 1)) (os := [viewZ n f, rowT (T.take m ++ [f i])]) (fun j => match j with | 1 => 3 | j => j) (fun j => match j with | 3 => 1 | j => j) (by kernel_rfl) (show 1 ≤ 2 by decide) (by kernel_rfl) ⟨fun _ => .inl (Eq.trans (Eq.refl _) (by kernel_rfl)), fun h => (by cases h), trivial⟩ (by kernel_rfl) (by kernel_rfl) (by kernel_rfl) (by kernel_rfl)
        ⟨obs_view (by kernel_rfl), obs_rowT (p := [1]) (by kernel_rfl), trivial⟩ ih

/-- From the empty stack. -/
theorem stk_start (n cap : Nat) (f : Nat → Int) (hn : n < 1000000) :
    Runs Tryz.prog 1 lp45b (sth [(0, slV n cap), (31, slV n cap), (32, i64 n), (33, i64 0), (5, i64 0), (6, .slice none 0 0)] 69 [viewZ n f]) (StkPost n cap f (stackF f n 0 0 [])) := by
  cases n with
  | zero =>
    refine Runs.lp (by kernel_rfl) (Runs.sqR mixed hk38 [] (by kernel_rfl) (by kernel_rfl) (by kernel_rfl) oblN (Runs.sq (by kernel_rfl) ?_))
    refine Runs.cd (b := false) (by kernel_rfl) (fun ht => by cases ht) (fun _ => Runs.now (x := .exit 3) (by kernel_rfl) (.inl ⟨rfl, rfl, ?_⟩))
    exact less_seenP (clo_all (k := 1) (by kernel_rfl)) viewZ_clo (Nat.le_refl 1) (by kernel_rfl) (by kernel_rfl) (by kernel_rfl) (by kernel_rfl)
  | succ d =>
    refine Runs.lp (by kernel_rfl) (Runs.sqR mixed hk38 [viaV 0 (.bool true)] (by kernel_rfl) (by kernel_rfl) (by kernel_rfl) (oblC (shown_eq (v := .bool (ltF (.ofNat 0) (.ofNat (d + 1)))) (by kernel_rfl) (by kernel_rfl) (by rw [lt_of (by omega)])) oblN) (Runs.sq (by kernel_rfl) ?_))
    refine Runs.cd (b := true) (by kernel_rfl) (fun _ => Runs.now (x := .normal) (by kernel_rfl) ?_) (fun hf => by cases hf)
    show Runs Tryz.prog 1 _ _ _
    refine Runs.sq (by kernel_rfl) (Runs.bk (id := 4) (by kernel_rfl) ?_)
    refine Runs.sqR mixed hk38 [viaV 0 (.pointer (some ⟨0, 0 + 0 * 1, none⟩)), viaV 1 (.int .i64 (f 0))] (by kernel_rfl) (by kernel_rfl) (by kernel_rfl)
      (oblC (shown_idx (n := d + 1) (by kernel_rfl) (by omega)) (oblC (shown_cell (by kernel_rfl) (intZ_at (g := 0) (n := d + 1) (f := f) (lv := false) (par := []) (ty := none) (by kernel_rfl) (by omega))) oblN)) ?_
    refine Runs.sq (by kernel_rfl) (Runs.sqR mixed hk38 [] (by kernel_rfl) (by kernel_rfl) (by kernel_rfl) oblN ?_)
    refine Runs.cd (b := ltF (f 0) 0) (by kernel_rfl) (fun ht => ?_) (fun hf => Runs.now (x := .normal) (by kernel_rfl) ?_)
    · have e : stackF f (d + 1) 0 0 [] = false := by rw [stackF, ht]; rfl
      rw [e]
      exact Runs.sqR mixed hk38 [] (by kernel_rfl) (by kernel_rfl) (by kernel_rfl) oblN (Runs.now (x := .ret) (by kernel_rfl) (.inr ⟨rfl, rfl, .inr rfl, [.int .i64 7], by kernel_rfl, rfl, keepOf (by kernel_rfl)⟩))
    · have e : stackF f (d + 1) 0 0 [] = stackF f d 1 0 [f 0] := by rw [stackF, hf]; rfl
      rw [e]
      show Runs Tryz.prog 1 _ _ _
      refine Runs.sq (by kernel_rfl) (Runs.bk (id := 5) (by kernel_rfl) ?_)
      refine Runs.lp (by kernel_rfl) (Runs.sq (by kernel_rfl) (Runs.sqR mixed hk38 [] (by kernel_rfl) (by kernel_rfl) (by kernel_rfl) oblN ?_))
      refine Runs.cd (b := false) (by kernel_rfl) (fun h => by cases h) (fun _ => Runs.now (x := .exit 5) (by kernel_rfl) ?_)
      show Runs Tryz.prog 1 _ _ _
      refine Runs.less (af1 := sth [(0, slV (d + 1) cap), (31, slV (d + 1) cap), (32, i64 (d + 1)), (33, i64 0), (5, i64 0), (6, .slice none 0 0), (8, .int .i64 (f 0))] 69 [viewZ (d + 1) f]) (less_seenP (clo_all (k := 1) (by kernel_rfl)) viewZ_clo (Nat.le_refl 1) (by kernel_rfl) (by kernel_rfl) (by kernel_rfl) (by kernel_rfl)) ?_
      refine Runs.rg mixed hk38 [] (by kernel_rfl) (by kernel_rfl) (by kernel_rfl) oblN ?_
      show Runs Tryz.prog 1 _ _ _
      refine Runs.rg mixed hk38 [] (by kernel_rfl) (by kernel_rfl) (by kernel_rfl) oblN ?_
      show Runs Tryz.prog 1 lp45b _ _
      exact Runs.renumK (l := S45 (d + 1) cap 1 0 1) (os := [viewZ (d + 1) f, rowT [f 0]]) (fun j => match j with | 1 => 2 | j => j) (fun j => match j with | 2 => 1 | j => j) (by kernel_rfl) (show 1 ≤ 2 by decide) (by kernel_rfl) ⟨fun _ => .inl (Eq.trans (Eq.refl _) (by kernel_rfl)), fun h => (by cases h), trivial⟩ (by kernel_rfl) (by kernel_rfl) (by kernel_rfl) (by kernel_rfl)
        ⟨obs_view (by kernel_rfl), obs_rowT (p := []) (by kernel_rfl), trivial⟩ (stk_loop (d + 1) cap f hn d 1 0 [f 0] (by omega) (by simp))

noncomputable def chkN (f : Nat → Int) (n : Nat) : Int := if 12 < n then 3 else if scanF f n n 0 = 0 then (if stackF f n 0 0 [] then 0 else 7) else scanF f n n 0

theorem check_says (n cap : Nat) (f : Nat → Int) (hc : n ≤ cap) (hn : n < 1000000) : Says Tryz.prog (hp [viewZ n f]) 19 [slV n cap] (.int .i64 (chkN f n)) (hp [viewZ n f]) := by
  refine says_of (os := [viewZ n f]) ?_ (fun y hy => by rw [List.mem_singleton.1 hy]; exact clo_of 10 1 _ (by kernel_rfl)) viewZ_clo (clo_plain rfl)
  refine local_of noNum Tryz.func19 (show Tryz.f19.body = some c45 by kernel_rfl) ?_
  refine Runs.sqR mixed hk38 [] (by kernel_rfl) (by kernel_rfl) (by kernel_rfl) oblN ?_
  refine Runs.sq (by kernel_rfl) (Runs.sqR mixed hk38 [] (by kernel_rfl) (by kernel_rfl) (by kernel_rfl) oblN ?_)
  refine Runs.cd (b := ltF (.ofNat 12) (.ofNat n)) (by kernel_rfl) (fun ht => ?_) (fun hf => Runs.now (x := .normal) (by kernel_rfl) ?_)
  · have hlt : 12 < n := by have := ltF_iff.1 ht; exact Int.ofNat_lt.1 this
    have e : chkN f n = 3 := by unfold chkN; rw [if_pos hlt]
    rw [e]
    exact Runs.sqR mixed hk38 [] (by kernel_rfl) (by kernel_rfl) (by kernel_rfl) oblN (Runs.now (x := .ret) (by kernel_rfl) ⟨.inr rfl, [.int .i64 3], by kernel_rfl, rfl, keepOf (by kernel_rfl)⟩)
  have hle : ¬ 12 < n := by have := ltF_not.1 hf; exact Nat.not_lt.2 (Int.ofNat_le.1 this)
  show Runs Tryz.prog 1 _ _ _
  refine Runs.sq (by kernel_rfl) (Runs.sqR mixed hk38 [] (by kernel_rfl) (by kernel_rfl) (by kernel_rfl) oblN (Runs.bk (id := 0) (by kernel_rfl) ?_))
  refine Runs.less (af1 := sth (S45a n cap 0) 69 [viewZ n f]) (less_seenP s45a_clo viewZ_clo (Nat.le_refl 1) (by kernel_rfl) (by kernel_rfl) (by kernel_rfl) (by kernel_rfl)) ?_
  refine (scan_loop n cap f hc hn n 0 (by omega)).mono fun e af hx => ?_
  rcases hx with ⟨rfl, hs, less⟩ | ⟨rfl, hs, he⟩
  · show Runs Tryz.prog 1 _ af _
    refine Runs.less less ?_
    refine Runs.sqR mixed hk38 [] (by kernel_rfl) (by kernel_rfl) (by kernel_rfl) oblN ?_
    refine Runs.sqR mixed hk38 [] (by kernel_rfl) (by kernel_rfl) (by kernel_rfl) oblN ?_
    refine Runs.sq (by kernel_rfl) (Runs.sqR mixed hk38 [] (by kernel_rfl) (by kernel_rfl) (by kernel_rfl) oblN (Runs.bk (id := 3) (by kernel_rfl) ?_))
    refine Runs.less (af1 := sth [(0, slV n cap), (31, slV n cap), (32, i64 n), (33, i64 0), (5, i64 0), (6, .slice none 0 0)] 69 [viewZ n f]) (less_seenP (clo_all (k := 1) (by kernel_rfl)) viewZ_clo (Nat.le_refl 1) (by kernel_rfl) (by kernel_rfl) (by kernel_rfl) (by kernel_rfl)) ?_
    refine (stk_start n cap f hn).mono fun e af hx => ?_
    rcases hx with ⟨rfl, hb, less⟩ | ⟨rfl, hb, he⟩
    · have e : chkN f n = 0 := by unfold chkN; rw [if_neg hle, if_pos hs, hb]; rfl
      rw [e]
      show Runs Tryz.prog 1 _ af _
      exact Runs.less less (Runs.sqR mixed hk38 [] (by kernel_rfl) (by kernel_rfl) (by kernel_rfl) oblN (Runs.now (x := .ret) (by kernel_rfl) ⟨.inr rfl, [.int .i64 0], by kernel_rfl, rfl, keepOf (by kernel_rfl)⟩))
    · have e : chkN f n = 7 := by unfold chkN; rw [if_neg hle, if_pos hs, hb]; rfl
      rw [e]
      exact he
  · have e : chkN f n = scanF f n n 0 := by unfold chkN; rw [if_neg hle, if_neg hs]
    rw [e]
    exact he
end
end Go.Proofs.YtgnkjmgkfibipaaGreatDoor
