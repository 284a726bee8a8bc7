/- grown: a plan by numbers: its inner function, which calls itself. -/
import Derived.Test.YtgnkjmgkfibipaaDoorSWordedKG8
import Derived.Test.YtgnkjmgkfibipaaDoorSWordedRG9
namespace Go.Proofs.YtgnkjmgkfibipaaDoor
set_option linter.unusedVariables false
set_option linter.unusedSimpArgs false
open Go Go.R
set_option maxRecDepth 1000000
noncomputable section

/-- The plan for n levels above low by numbers from the k-th on; the first number is fuel. -/
def grL (y : Nat → Nat) : Nat → Nat → Nat → Nat → List Nat
  | 0, _, _, _ => []
  | _ + 1, _, 0, _ => []
  | d + 1, low, n + 1, k => (low + 1 + y k % (n + 1)) :: (grL y d low (y k % (n + 1)) (k + 1) ++ grL y d (low + 1 + y k % (n + 1)) (n - y k % (n + 1)) (k + 1 + y k % (n + 1)))

theorem grL_len (y : Nat → Nat) : ∀ (d low n k : Nat), n ≤ d → (grL y d low n k).length = n
  | 0, low, n, k, h => by have : n = 0 := by omega
                          subst this; rfl
  | d + 1, low, 0, k, h => rfl
  | d + 1, low, n + 1, k, h => by
    have := Nat.mod_lt (y k) (show 0 < n + 1 by omega)
    rw [grL, List.length_cons, List.length_append, grL_len y d _ _ _ (by omega), grL_len y d _ _ _ (by omega)]
    omega

theorem grL_mem (y : Nat → Nat) : ∀ (d low n k : Nat), n < d → ∃ t e, (grL y d low n k, t, e) ∈ plansF d low n
  | 0, low, n, k, h => by omega
  | d + 1, low, 0, k, h => ⟨0, 0, by rw [plansF, grL]; simp⟩
  | d + 1, low, n + 1, k, h => by
    have hi := Nat.mod_lt (y k) (show 0 < n + 1 by omega)
    obtain ⟨t1, e1, h1⟩ := grL_mem y d low (y k % (n + 1)) (k + 1) (by omega)
    obtain ⟨t2, e2, h2⟩ := grL_mem y d (low + 1 + y k % (n + 1)) (n - y k % (n + 1)) (k + 1 + y k % (n + 1)) (by omega)
    have := plansF_mem h1 h2
    rw [show y k % (n + 1) + (n - y k % (n + 1)) + 1 = n + 1 by omega] at this
    exact ⟨_, _, this⟩

/-! ### The heap -/
noncomputable def viewB (y : Nat → Nat) : AObj := .cells ((List.range 12).map fun i => .int .u8 (.ofNat (y i))) false [] none
noncomputable def byG (cap : Nat) : Value := .slice (some ⟨0, 0, none⟩) 12 cap
noncomputable def putG : Value := .func (.func 99) #[] #[ptrC 2, ptrC 1, ptrC 3]
noncomputable def grN (y : Nat → Nat) (cap : Nat) : List AObj := [viewB y, .cells [byG cap] true [] (some 50), .cells [.slice none 0 0] true [] (some 24), .cells [putG] true [] (some 105)]
noncomputable def grR (y : Nat → Nat) (cap m : Nat) : List AObj := [viewB y, .cells [byG cap] true [] (some 50), .cells [.slice (some ⟨4, 0, some 1⟩) m m] true [] (some 24), .cells [putG] true [] (some 105)]
noncomputable def grB (y : Nat → Nat) (cap : Nat) (C : List Nat) : List AObj := grR y cap C.length ++ [rowL C]
noncomputable def argsG (low high : Nat) : List Value := [i64 low, i64 high, ptrC 2, ptrC 1, ptrC 3]
noncomputable def Sg (low high l : Nat) : List (Nat × Value) := [(0, i64 low), (1, i64 high), (2, ptrC 2), (3, ptrC 1), (4, ptrC 3), (7, i64 l)]
noncomputable def c99 : Code := bodyOf Tryd.f99
noncomputable def in99 : Code := thenOf (tl c99)

theorem viewB_at {h : AH} {y : Nat → Nat} {i : Nat} (hg : h.get 0 = viewB y) (hi : i < 12) : rowAt? h 0 (0 + i * 1) 1 = some [.int .u8 (.ofNat (y i))] := by
  unfold viewB at hg
  rw [row_at hg (by simp; omega), Nat.zero_add, Nat.mul_one, List.take_one, List.head?_drop, List.getElem?_map, List.getElem?_range hi]
  rfl
theorem viewB_plain (y : Nat → Nat) : ∀ v ∈ (List.range 12).map (fun i => Value.int .u8 (.ofNat (y i))), plainV v = true := fun v hv => by
  obtain ⟨i, _, rfl⟩ := List.mem_map.1 hv; rfl
theorem sg_clo (low high l : Nat) : ∀ p ∈ Sg low high l, Clo 4 p.2 := clo_all (by kernel_rfl)
theorem gr_cell {k : Nat} {v : Value} {ty : Option TypeId} (h : cloB 10 k v = true) : CloO k (.cells [v] true [] ty) := cloO_one (clo_of 10 k v h) ty
theorem grN_clo {y : Nat → Nat} {cap k : Nat} (hk : 4 ≤ k) : ∀ o ∈ grN y cap, CloO k o := fun o ho => by
  simp only [grN, List.mem_cons, List.mem_nil_iff, or_false] at ho
  rcases ho with rfl | rfl | rfl | rfl
  · exact cloO_plain (viewB_plain y) _ _
  · exact CloO.mono (gr_cell (k := 4) (by kernel_rfl)) hk
  · exact CloO.mono (gr_cell (k := 4) (by kernel_rfl)) hk
  · exact CloO.mono (gr_cell (k := 4) (by kernel_rfl)) hk
theorem grB_clo {y : Nat → Nat} {cap : Nat} {C : List Nat} : ∀ o ∈ grB y cap C, CloO 5 o := fun o ho => by
  simp only [grB, grR, List.mem_append, List.mem_cons, List.mem_nil_iff, or_false] at ho
  rcases ho with (rfl | rfl | rfl | rfl) | rfl
  · exact cloO_plain (viewB_plain y) _ _
  · exact gr_cell (by kernel_rfl)
  · exact gr_cell (by kernel_rfl)
  · exact gr_cell (by kernel_rfl)
  · exact cloO_plain (litI_plain C) _ _
theorem argsG_clo {low high k : Nat} (hk : 4 ≤ k) : ∀ x ∈ argsG low high, Clo k x := fun x hx => by
  simp only [argsG, List.mem_cons, List.mem_nil_iff, or_false] at hx
  rcases hx with rfl | rfl | rfl | rfl | rfl <;> exact Clo.mono (clo_of 10 4 _ (by kernel_rfl)) hk

/-! ### Calls of itself -/
theorem gr_zero (y : Nat → Nat) (cap low : Nat) (C : List Nat) : Says Tryd.prog (hp (grB y cap C)) 99 (argsG low low) (.tuple #[]) (hp (grB y cap C)) := by
  refine says_of (os := grB y cap C) ?_ (argsG_clo (show 4 ≤ 5 by decide)) grB_clo (clo_of 10 _ _ (by kernel_rfl))
  show Local Tryd.prog 5 99 _ _ _
  refine local_of noNum Tryd.func99 (show Tryd.f99.body = some c99 by kernel_rfl) ?_
  refine Runs.sqR mixed hk38 [viaV 2 (.bool false)] (by kernel_rfl) (by kernel_rfl) (by kernel_rfl) (oblC (shown_eq (v := .bool (ltF (.ofNat low) (.ofNat low))) (by kernel_rfl) (by kernel_rfl) (by rw [lt_self])) oblN) ?_
  refine Runs.cd (b := false) (by kernel_rfl) (fun h => by cases h) (fun _ => ?_)
  exact Runs.now (x := .normal) (by kernel_rfl) ⟨.inl rfl, [], by kernel_rfl, rfl, keepOf (by kernel_rfl)⟩
theorem gr_zeroN (y : Nat → Nat) (cap low : Nat) : Says Tryd.prog (hp (grN y cap)) 99 (argsG low low) (.tuple #[]) (hp (grN y cap)) := by
  refine says_of (os := grN y cap) ?_ (argsG_clo (show 4 ≤ 4 by decide)) (grN_clo (show 4 ≤ 4 by decide)) (clo_of 10 _ _ (by kernel_rfl))
  show Local Tryd.prog 4 99 _ _ _
  refine local_of noNum Tryd.func99 (show Tryd.f99.body = some c99 by kernel_rfl) ?_
  refine Runs.sqR mixed hk38 [viaV 2 (.bool false)] (by kernel_rfl) (by kernel_rfl) (by kernel_rfl) (oblC (shown_eq (v := .bool (ltF (.ofNat low) (.ofNat low))) (by kernel_rfl) (by kernel_rfl) (by rw [lt_self])) oblN) ?_
  refine Runs.cd (b := false) (by kernel_rfl) (fun h => by cases h) (fun _ => ?_)
  exact Runs.now (x := .normal) (by kernel_rfl) ⟨.inl rfl, [], by kernel_rfl, rfl, keepOf (by kernel_rfl)⟩

/-- The heap behind a call. -/
noncomputable def HG (y : Nat → Nat) (cap : Nat) (C C' : List Nat) : AH := ((((hp (grB y cap C)).put 2 (.cells [rowA 5 C'.length] true [] (some 24))).put 4 .dead).new (rowL C')).2
def SlotG (y : Nat → Nat) (cap : Nat) (D : List Nat) (h : AH) : Value → AH → Prop := IsSlotP 4 2 D.length [] (litI D) (some 3) (some 24) (.tuple #[]) h

theorem three_at {x z : AH} (h : ([0, 1, 3] : List Nat).map x.get = ([0, 1, 3] : List Nat).map z.get) : ∀ i, i < 4 → i ≠ 2 → x.get i = z.get i := by
  simp only [List.map_cons, List.map_nil, List.cons.injEq, and_true] at h
  obtain ⟨h0, h1, h3⟩ := h
  intro i hi hne
  match i, hi, hne with
  | 0, _, _ => exact h0
  | 1, _, _ => exact h1
  | 2, _, hne => exact absurd rfl hne
  | 3, _, _ => exact h3

theorem gr_roots (y : Nat → Nat) (cap : Nat) {h : AH} (h0 : h.get 0 = viewB y) (h1 : h.get 1 = .cells [byG cap] true [] (some 50)) (h3 : h.get 3 = .cells [putG] true [] (some 105)) :
    ∀ i, i < 4 → i ≠ 2 → ∃ c lv t, h.get i = .cells c lv [] t ∧ ∀ v ∈ c, Clo 4 v := fun i hi hne => by
  match i, hi, hne with
  | 0, _, _ => exact ⟨_, _, _, h0, fun v hv => clo_plain (viewB_plain y v hv)⟩
  | 1, _, _ => exact ⟨_, _, _, h1, (gr_cell (k := 4) (ty := none) (by kernel_rfl)).1⟩
  | 2, _, hne => exact absurd rfl hne
  | 3, _, _ => exact ⟨_, _, _, h3, (gr_cell (k := 4) (ty := none) (by kernel_rfl)).1⟩

theorem gr_says {y : Nat → Nat} {cap low high : Nat} {C C' : List Nat} (L : Local Tryd.prog 4 99 (argsG low high) (hp (grB y cap C)) (SlotG y cap C' (hp (grB y cap C)))) :
    Says Tryd.prog (hp (grB y cap C)) 99 (argsG low high) (.tuple #[]) (HG y cap C C') := by
  have g : ∀ i, i < 4 → i ≠ 2 → (HG y cap C C').get i = (hp (grB y cap C)).get i := three_at (by kernel_rfl)
  refine slot_saysP (h := hp (grB y cap C)) (h1 := HG y cap C C') (slot := 2) (k := 4) (n := C'.length) (pre := []) (cells := litI C') (ty := some 3) (tc := some 24) L rfl (fun u hu => by cases hu) (by decide) (show 4 ≤ 5 by decide)
    (gr_roots y cap (by kernel_rfl) (by kernel_rfl) (by kernel_rfl)) ⟨2, ptrC 2, by kernel_rfl, Born.ptr 2 0⟩ (fun i h1 h2 => ?_) (by kernel_rfl) g (by kernel_rfl) (fun i h1 h2 => ?_) (by kernel_rfl) (litI_plain C')
  · have h2' : i < 5 := h2
    have e : i = 4 := by omega
    subst e
    exact ⟨[], C.length, by kernel_rfl⟩
  · have h2' : i < 5 := h2
    have e : i = 4 := by omega
    subst e
    exact Eq.trans (Eq.refl _) (by kernel_rfl)

/-- On, with the row under its old number. -/
theorem gr_next {y : Nat → Nat} {cap low high l m : Nat} {C : List Nat} (hm : 4 ≤ m) {par : List Nat} (hpar : (par.all fun j => Nat.ble 4 j && !Nat.beq j m) = true) {c : Code} {Q : AExit → AF → Prop} {af : AF} (hsz : af.sz = 44)
    (tt : ([0, 1, 2, 3, 4, 7] : List Nat).map af.tm.get = (Sg low high l).map fun p => some p.2) (gg : ([0, 1, 3] : List Nat).map af.h.get = ([0, 1, 3] : List Nat).map (hp (grB y cap C)).get)
    (g2 : af.h.get 2 = .cells [.slice (some ⟨m, 0, some 1⟩) C.length C.length] true [] (some 24)) (gm : af.h.get m = .cells (litI C) true par (some 3)) (h : Runs Tryd.prog 4 c (sth (Sg low high l) 44 (grB y cap C)) Q) : Runs Tryd.prog 4 c af Q := by
  have g := three_at gg
  have e1 : ([0, 1, 2, 3, 4, 7] : List Nat) = (Sg low high l).map (·.1) := rfl
  rw [e1, List.map_map, List.map_inj_left] at tt
  refine Runs.regrowS (n := 4) (m := m) (slot := 2) (x := C.length) (l := Sg low high l) (sz := 44) (os := grR y cap C.length) (cells := litI C) (ty := some 3) (tc := some 24) (par := par) rfl (Nat.le_refl 4) hsz (fun i o hi hne ho => ?_) (by decide) rfl g2
    (fun o ho => ?_) (fun o ho => ?_) (fun i o hne ho => ?_) hm gm hpar (litI_plain C) (fun p hp => ⟨tt p hp, sg_clo low high l p hp⟩) ⟨2, ptrC 2, tt (2, ptrC 2) (by simp [Sg]), Born.ptr 2 0⟩ h
  · rw [g i hi hne]
    exact (hp_lt (os := grR y cap C.length) (show i < 4 from hi) _).trans (hp_get _ i o ho)
  · simp only [grR, List.mem_cons, List.mem_nil_iff, or_false] at ho
    rcases ho with rfl | rfl | rfl | rfl <;> rfl
  · simp only [grR, List.mem_cons, List.mem_nil_iff, or_false] at ho
    rcases ho with rfl | rfl | rfl | rfl <;> exact ⟨_, _, _, _, rfl⟩
  · match i, hne, ho with
    | 0, _, ho => cases ho; exact cloO_plain (viewB_plain y) _ _
    | 1, _, ho => cases ho; exact gr_cell (by kernel_rfl)
    | 2, hne, _ => exact absurd rfl hne
    | 3, _, ho => cases ho; exact gr_cell (by kernel_rfl)
    | j + 4, _, ho => cases ho
end
end Go.Proofs.YtgnkjmgkfibipaaDoor

/- grown: its inner function as a contract. -/
namespace Go.Proofs.YtgnkjmgkfibipaaDoor
set_option linter.unusedVariables false
set_option linter.unusedSimpArgs false
open Go Go.R
set_option maxRecDepth 1000000
noncomputable section

def PutG (y : Nat → Nat) (cap d : Nat) : Prop := ∀ n low C, n ≤ d → 1 ≤ n → C ≠ [] → C.length + n ≤ 12 → low + n ≤ 100 →
  Local Tryd.prog 4 99 (argsG low (low + n)) (hp (grB y cap C)) (SlotG y cap (C ++ grL y d low n C.length) (hp (grB y cap C)))

section
variable {y : Nat → Nat} {cap d low high l : Nat} {C : List Nat}

/-- The last call. -/
theorem gr_last {n j : Nat} (IH : PutG y cap d) (hC : C ≠ []) (hn : n ≤ d) (hlen : C.length + n ≤ 12) (hh : l + n ≤ 100) (e : high = l + n) {h0 : AH} (same : ∀ i, i < 4 → i ≠ 2 → (hp (grB y cap C)).get i = h0.get i) {D : List Nat} (hD : D = C ++ grL y d l n C.length) :
    Runs Tryd.prog 4 (behind 3 in99) (sth (Sg low high l) 44 (grB y cap C)) (EndsAs Tryd.prog Tryd.f99 (SlotG y cap D h0)) := by
  subst e hD
  cases n with
  | zero =>
    have e0 : C ++ grL y d l 0 C.length = C := by cases d <;> simp [grL]
    rw [e0]
    refine Runs.rg mixed hk38 [viaC 3 99 (argsG l l) (.tuple #[])] (by kernel_rfl) (by kernel_rfl) (by kernel_rfl) (oblC (shown_callE (h0 := hp (grB y cap C)) (by kernel_rfl) (by kernel_rfl) (gr_zero y cap l C)) oblN) ?_
    refine ⟨.inl rfl, [], by kernel_rfl, rfl, 4, [], Nat.le_refl 4, fun j hj h => (by cases h), by kernel_rfl, by kernel_rfl, fun i hi hne => ?_⟩
    rw [← same i hi hne]
    exact three_at (by kernel_rfl) i hi hne
  | succ n =>
    refine Runs.rg mixed hk38 [viaH 3 99 (argsG l (l + (n + 1))) (.tuple #[]) (HG y cap C (C ++ grL y d l (n + 1) C.length))] (by kernel_rfl) (by kernel_rfl) (by kernel_rfl)
      (oblC (shown_callHE (h0 := hp (grB y cap C)) (by kernel_rfl) (by kernel_rfl) (gr_says (IH (n + 1) l C hn (by omega) hC hlen hh))) oblN) ?_
    refine ⟨.inl rfl, [], by kernel_rfl, rfl, 5, [], by decide, fun j hj h => (by cases h), by kernel_rfl, by kernel_rfl, fun i hi hne => ?_⟩
    rw [← same i hi hne]
    exact three_at (by kernel_rfl) i hi hne

/-- The first call. -/
theorem gr_first {j : Nat} (IH : PutG y cap d) (hC : C ≠ []) (hj : j ≤ d) (hlen : C.length + j ≤ 12) (hh : low + j ≤ 100) {Q : AExit → AF → Prop}
    (next : Runs Tryd.prog 4 (behind 3 in99) (sth (Sg low high (low + 1 + j)) 44 (grB y cap (C ++ grL y d low j C.length))) Q) :
    Runs Tryd.prog 4 (behind 2 in99) (sth (Sg low high (low + 1 + j)) 44 (grB y cap C)) Q := by
  have e1 : wrapF .i64 (Int.sub (.ofNat (low + 1 + j)) (.ofNat 1)) = .ofNat (low + j) := by rw [f_sub (by omega) (by omega), show low + 1 + j - 1 = low + j by omega]
  cases j with
  | zero =>
    have e0 : C ++ grL y d low 0 C.length = C := by cases d <;> simp [grL]
    rw [e0] at next
    refine Runs.sqR mixed hk38 [viaV 3 (i64 low), viaC 4 99 (argsG low low) (.tuple #[])] (by kernel_rfl) (by kernel_rfl) (by kernel_rfl)
      (oblC (shown_eq (v := .int .i64 (wrapF .i64 (Int.sub (.ofNat (low + 1 + 0)) (.ofNat 1)))) (by kernel_rfl) (by kernel_rfl) (by rw [e1]; rfl)) (oblC (shown_callE (h0 := hp (grB y cap C)) (by kernel_rfl) (by kernel_rfl) (gr_zero y cap low C)) oblN)) ?_
    exact Runs.less (af1 := sth (Sg low high (low + 1 + 0)) 44 (grB y cap C)) (less_seenP (fun p hp => (sg_clo _ _ _ p hp).mono (show 4 ≤ 5 by decide)) grB_clo (show 4 ≤ 5 by decide) (by kernel_rfl) (by kernel_rfl) (by kernel_rfl) (by kernel_rfl)) next
  | succ j =>
    refine Runs.sqR mixed hk38 [viaV 3 (i64 (low + (j + 1))), viaH 4 99 (argsG low (low + (j + 1))) (.tuple #[]) (HG y cap C (C ++ grL y d low (j + 1) C.length))] (by kernel_rfl) (by kernel_rfl) (by kernel_rfl)
      (oblC (shown_eq (v := .int .i64 (wrapF .i64 (Int.sub (.ofNat (low + 1 + (j + 1))) (.ofNat 1)))) (by kernel_rfl) (by kernel_rfl) (by rw [e1]; rfl)) (oblC (shown_callHE (h0 := hp (grB y cap C)) (by kernel_rfl) (by kernel_rfl) (gr_says (IH (j + 1) low C hj (by omega) hC hlen hh))) oblN)) ?_
    exact gr_next (m := 5) (par := []) (by decide) rfl (by kernel_rfl) (by kernel_rfl) (by kernel_rfl) (by kernel_rfl) (by kernel_rfl) next
end

theorem wrapK {n : Nat} (h : n < 9223372036854775808) : IntKind.wrap .i64 (.ofNat n) = .ofNat n := by rw [← wrapF_eq]; exact wrap_ofNat h

theorem grL_next (y : Nat → Nat) (d low n : Nat) (C : List Nat) (hn : n ≤ d) :
    C ++ grL y (d + 1) low (n + 1) C.length = ((C ++ [low + 1 + y C.length % (n + 1)]) ++ grL y d low (y C.length % (n + 1)) (C ++ [low + 1 + y C.length % (n + 1)]).length) ++
      grL y d (low + 1 + y C.length % (n + 1)) (n - y C.length % (n + 1)) ((C ++ [low + 1 + y C.length % (n + 1)]) ++ grL y d low (y C.length % (n + 1)) (C ++ [low + 1 + y C.length % (n + 1)]).length).length := by
  have hi := Nat.mod_lt (y C.length) (show 0 < n + 1 by omega)
  have e1 : (C ++ [low + 1 + y C.length % (n + 1)]).length = C.length + 1 := by simp
  rw [e1]
  have e2 : ((C ++ [low + 1 + y C.length % (n + 1)]) ++ grL y d low (y C.length % (n + 1)) (C.length + 1)).length = C.length + 1 + y C.length % (n + 1) := by
    rw [List.length_append, e1, grL_len y d _ _ _ (by omega)]
  rw [e2, grL]
  simp only [List.append_assoc, List.cons_append, List.nil_append]

theorem gr_bodyB {y : Nat → Nat} (hy : ∀ i, y i < 256) {cap d n low : Nat} (IH : PutG y cap d) (hn : n ≤ d) {C : List Nat} (hC : C ≠ []) (hlen : C.length + (n + 1) ≤ 12) (hlow : low + (n + 1) ≤ 100) :
    Local Tryd.prog 4 99 (argsG low (low + (n + 1))) (hp (grB y cap C)) (SlotG y cap (C ++ grL y (d + 1) low (n + 1) C.length) (hp (grB y cap C))) := by
  have hi := Nat.mod_lt (y C.length) (show 0 < n + 1 by omega)
  have hyk := hy C.length
  have f1 : ltF (.ofNat low) (.ofNat (low + (n + 1))) = true := lt_of (by omega)
  have f2 : ltF (.ofNat C.length) (.ofNat 12) = true := lt_of (by omega)
  refine local_of noNum Tryd.func99 (show Tryd.f99.body = some c99 by kernel_rfl) ?_
  refine Runs.sqR mixed hk38 [viaV 2 (.bool true), viaV 8 (.bool true)] (by kernel_rfl) (by kernel_rfl) (by kernel_rfl)
    (oblC (shown_eq (v := .bool (ltF (.ofNat low) (.ofNat (low + (n + 1))))) (by kernel_rfl) (by kernel_rfl) (by rw [f1])) (oblC (shown_eq (v := .bool (ltF (.ofNat C.length) (.ofNat 12))) (by kernel_rfl) (by kernel_rfl) (by rw [f2])) oblN)) ?_
  refine Runs.cd (b := true) (by kernel_rfl) (fun _ => ?_) (fun h => by cases h)
  show Runs Tryd.prog 4 in99 _ _
  refine Runs.sqR mixed hk38 [viaV 1 (i64 (low + 1)), viaV 5 (.pointer (some ⟨0, 0 + C.length * 1, none⟩)), viaV 6 (.int .u8 (.ofNat (y C.length))), viaV 7 (i64 (y C.length)), viaV 10 (i64 (n + 1)), viaV 11 (i64 (y C.length % (n + 1))), viaV 12 (i64 (low + 1 + y C.length % (n + 1)))] (by kernel_rfl) (by kernel_rfl) (by kernel_rfl)
    (oblC (shown_eq (v := .int .i64 (wrapF .i64 (Int.add (.ofNat low) (.ofNat 1)))) (by kernel_rfl) (by kernel_rfl) (by rw [wrap_succ (by omega)]; rfl))
    (oblC (shown_idx (n := 12) (by kernel_rfl) (by omega)) (oblC (shown_cell (by kernel_rfl) (viewB_at (by kernel_rfl) (by omega)))
    (oblC (shown_eq (v := .int .i64 (IntKind.wrap .i64 (.ofNat (y C.length)))) (by kernel_rfl) (by kernel_rfl) (by rw [wrapK (by omega)]; rfl))
    (oblC (shown_eq (v := .int .i64 (wrapF .i64 (Int.sub (.ofNat (low + (n + 1))) (.ofNat low)))) (by kernel_rfl) (by kernel_rfl) (by rw [f_sub (by omega) (by omega), show low + (n + 1) - low = n + 1 by omega]; rfl))
    (oblC (shown_eq (v := .int .i64 (Int.tmod (.ofNat (y C.length)) (.ofNat (n + 1)))) (by kernel_rfl) (by kernel_rfl) rfl)
    (oblC (shown_eq (v := .int .i64 (wrapF .i64 (Int.add (.ofNat (low + 1)) (.ofNat (y C.length % (n + 1)))))) (by kernel_rfl) (by kernel_rfl) (by rw [wrap_addN (by omega)]; rfl)) oblN))))))) ?_
  let H1 : AH := ((hp (grB y cap C)).new (rowL [low + 1 + y C.length % (n + 1)])).2
  have hap := app_u (h := H1) (i0 := 4) (j := 5) (A := C) (B := [low + 1 + y C.length % (n + 1)]) (par := []) (lv2 := true) (par2 := []) (sp2 := none) (by simp) ⟨by omega, by simp⟩ (by kernel_rfl) (by kernel_rfl)
  refine Runs.sqR mixed hk38 [⟨3, .slice (some ⟨6, 0, some 1⟩) (C.length + 1) (C.length + 1), some ((H1.put 4 (.cells (litI C) false [] (some 3))).new (.cells (litI C ++ litI [low + 1 + y C.length % (n + 1)]) true [4] (some 3))).2, none⟩] (by kernel_rfl) (by kernel_rfl) (by kernel_rfl)
    (oblC ⟨by kernel_rfl, (show _ = appendA Tryd.prog #[24, 24] (.slice (some ⟨4, 0, some 1⟩) C.length C.length) (.slice (some ⟨5, 0, none⟩) 1 1) H1 by kernel_rfl).trans hap⟩ oblN) ?_
  have el : (C ++ [low + 1 + y C.length % (n + 1)]).length = C.length + 1 := by simp
  refine gr_next (y := y) (cap := cap) (low := low) (high := low + (n + 1)) (l := low + 1 + y C.length % (n + 1)) (C := C ++ [low + 1 + y C.length % (n + 1)]) (m := 6) (par := [4]) (by decide) rfl (by kernel_rfl) (by kernel_rfl) (by kernel_rfl) (Eq.trans (show _ = AObj.cells [.slice (some ⟨6, 0, some 1⟩) (C.length + 1) (C.length + 1)] true [] (some 24) by kernel_rfl) (by rw [el]))
    (Eq.trans (show _ = AObj.cells (litI C ++ litI [low + 1 + y C.length % (n + 1)]) true [4] (some 3) by kernel_rfl) (by rw [litI_app])) ?_
  refine gr_first (j := y C.length % (n + 1)) IH (by simp) (by omega) (by rw [el]; omega) (by omega) ?_
  refine gr_last (n := n - y C.length % (n + 1)) (j := 0) IH (by simp) (by omega) (by rw [List.length_append, grL_len y d _ _ _ (by omega), el]; omega) (by omega) (by omega) (three_at (by kernel_rfl)) ?_
  exact grL_next y d low n C hn

theorem gr_bodyN {y : Nat → Nat} (hy : ∀ i, y i < 256) {cap d n low : Nat} (IH : PutG y cap d) (hn : n ≤ d) (hlen : n + 1 ≤ 12) (hlow : low + (n + 1) ≤ 100) :
    Local Tryd.prog 4 99 (argsG low (low + (n + 1))) (hp (grN y cap)) (SlotG y cap (grL y (d + 1) low (n + 1) 0) (hp (grN y cap))) := by
  have hi := Nat.mod_lt (y 0) (show 0 < n + 1 by omega)
  have hyk := hy 0
  have f1 : ltF (.ofNat low) (.ofNat (low + (n + 1))) = true := lt_of (by omega)
  have f2 : ltF (.ofNat 0) (.ofNat 12) = true := lt_of (by omega)
  refine local_of noNum Tryd.func99 (show Tryd.f99.body = some c99 by kernel_rfl) ?_
  refine Runs.sqR mixed hk38 [viaV 2 (.bool true), viaV 8 (.bool true)] (by kernel_rfl) (by kernel_rfl) (by kernel_rfl)
    (oblC (shown_eq (v := .bool (ltF (.ofNat low) (.ofNat (low + (n + 1))))) (by kernel_rfl) (by kernel_rfl) (by rw [f1])) (oblC (shown_eq (v := .bool (ltF (.ofNat 0) (.ofNat 12))) (by kernel_rfl) (by kernel_rfl) (by rw [f2])) oblN)) ?_
  refine Runs.cd (b := true) (by kernel_rfl) (fun _ => ?_) (fun h => by cases h)
  show Runs Tryd.prog 4 in99 _ _
  refine Runs.sqR mixed hk38 [viaV 1 (i64 (low + 1)), viaV 5 (.pointer (some ⟨0, 0 + 0 * 1, none⟩)), viaV 6 (.int .u8 (.ofNat (y 0))), viaV 7 (i64 (y 0)), viaV 10 (i64 (n + 1)), viaV 11 (i64 (y 0 % (n + 1))), viaV 12 (i64 (low + 1 + y 0 % (n + 1)))] (by kernel_rfl) (by kernel_rfl) (by kernel_rfl)
    (oblC (shown_eq (v := .int .i64 (wrapF .i64 (Int.add (.ofNat low) (.ofNat 1)))) (by kernel_rfl) (by kernel_rfl) (by rw [wrap_succ (by omega)]; rfl))
    (oblC (shown_idx (n := 12) (by kernel_rfl) (by omega)) (oblC (shown_cell (by kernel_rfl) (viewB_at (by kernel_rfl) (by omega)))
    (oblC (shown_eq (v := .int .i64 (IntKind.wrap .i64 (.ofNat (y 0)))) (by kernel_rfl) (by kernel_rfl) (by rw [wrapK (by omega)]; rfl))
    (oblC (shown_eq (v := .int .i64 (wrapF .i64 (Int.sub (.ofNat (low + (n + 1))) (.ofNat low)))) (by kernel_rfl) (by kernel_rfl) (by rw [f_sub (by omega) (by omega), show low + (n + 1) - low = n + 1 by omega]; rfl))
    (oblC (shown_eq (v := .int .i64 (Int.tmod (.ofNat (y 0)) (.ofNat (n + 1)))) (by kernel_rfl) (by kernel_rfl) rfl)
    (oblC (shown_eq (v := .int .i64 (wrapF .i64 (Int.add (.ofNat (low + 1)) (.ofNat (y 0 % (n + 1)))))) (by kernel_rfl) (by kernel_rfl) (by rw [wrap_addN (by omega)]; rfl)) oblN))))))) ?_
  have el : ([low + 1 + y 0 % (n + 1)] : List Nat).length = 0 + 1 := rfl
  refine Runs.sqR mixed hk38 [] (by kernel_rfl) (by kernel_rfl) (by kernel_rfl) oblN ?_
  refine gr_next (y := y) (cap := cap) (low := low) (high := low + (n + 1)) (l := low + 1 + y 0 % (n + 1)) (C := [low + 1 + y 0 % (n + 1)]) (m := 5) (par := []) (by decide) rfl (by kernel_rfl) (by kernel_rfl) (by kernel_rfl) (by kernel_rfl) (by kernel_rfl) ?_
  refine gr_first (j := y 0 % (n + 1)) IH (by simp) (by omega) (by rw [el]; omega) (by omega) ?_
  refine gr_last (n := n - y 0 % (n + 1)) (j := 0) IH (by simp) (by omega) (by rw [List.length_append, grL_len y d _ _ _ (by omega), el]; omega) (by omega) (by omega) (three_at (by kernel_rfl)) ?_
  exact grL_next y d low n [] hn

end
end Go.Proofs.YtgnkjmgkfibipaaDoor

/- grown as a contract. -/
namespace Go.Proofs.YtgnkjmgkfibipaaDoor
set_option linter.unusedVariables false
set_option linter.unusedSimpArgs false
open Go Go.R
set_option maxRecDepth 1000000
noncomputable section

theorem gr_ok {y : Nat → Nat} (hy : ∀ i, y i < 256) (cap : Nat) : ∀ d, PutG y cap d
  | 0 => fun n low C h h1 _ _ _ => by omega
  | d + 1 => fun n low C h h1 h2 h3 h4 => by
    obtain ⟨m, rfl⟩ : ∃ m, n = m + 1 := ⟨n - 1, by omega⟩
    exact gr_bodyB hy (gr_ok hy cap d) (by omega) h2 h3 h4

noncomputable def HG0 (y : Nat → Nat) (cap : Nat) (C' : List Nat) : AH := (((hp (grN y cap)).put 2 (.cells [rowA 4 C'.length] true [] (some 24))).new (rowL C')).2
theorem gr_saysN {y : Nat → Nat} {cap low high : Nat} {C' : List Nat} (L : Local Tryd.prog 4 99 (argsG low high) (hp (grN y cap)) (SlotG y cap C' (hp (grN y cap)))) :
    Says Tryd.prog (hp (grN y cap)) 99 (argsG low high) (.tuple #[]) (HG0 y cap C') := by
  have g : ∀ i, i < 4 → i ≠ 2 → (HG0 y cap C').get i = (hp (grN y cap)).get i := three_at (by kernel_rfl)
  refine slot_saysP (h := hp (grN y cap)) (h1 := HG0 y cap C') (slot := 2) (k := 4) (n := C'.length) (pre := []) (cells := litI C') (ty := some 3) (tc := some 24) L rfl (fun u hu => by cases hu) (by decide) (show 4 ≤ 4 by decide)
    (gr_roots y cap (by kernel_rfl) (by kernel_rfl) (by kernel_rfl)) ⟨2, ptrC 2, by kernel_rfl, Born.ptr 2 0⟩ (fun i h1 h2 => ?_) (by kernel_rfl) g (by kernel_rfl) (fun i h1 h2 => ?_) (by kernel_rfl) (litI_plain C')
  · have h2' : i < 4 := h2
    omega
  · have h2' : i < 4 := h2
    omega

noncomputable def c46 : Code := bodyOf Tryd.f46
theorem grown_local {y : Nat → Nat} (hy : ∀ i, y i < 256) (cap n : Nat) (hn : n + 1 ≤ 12) :
    Local Tryd.prog 1 46 [i64 (n + 1), byG cap] (hp [viewB y]) (IsRow (n + 1) (litI (grL y (n + 1) 0 (n + 1) 0)) (some 3) none) := by
  refine local_of noNum Tryd.func46 (show Tryd.f46.body = some c46 by kernel_rfl) ?_
  refine Runs.sqR mixed hk38 [] (by kernel_rfl) (by kernel_rfl) (by kernel_rfl) oblN ?_
  refine Runs.sqR mixed hk38 [] (by kernel_rfl) (by kernel_rfl) (by kernel_rfl) oblN ?_
  refine Runs.sqR mixed hk38 [] (by kernel_rfl) (by kernel_rfl) (by kernel_rfl) oblN ?_
  refine Runs.sqR mixed hk38 [] (by kernel_rfl) (by kernel_rfl) (by kernel_rfl) oblN ?_
  have hb := gr_bodyN (low := 0) hy (gr_ok hy cap n) (Nat.le_refl n) hn (by omega)
  rw [Nat.zero_add] at hb
  refine Runs.sqR mixed hk38 [viaH 2 99 (argsG 0 (n + 1)) (.tuple #[]) (HG0 y cap (grL y (n + 1) 0 (n + 1) 0))] (by kernel_rfl) (by kernel_rfl) (by kernel_rfl)
    (oblC (shown_callHE (h0 := hp (grN y cap)) (by kernel_rfl) (by kernel_rfl) (gr_saysN hb)) oblN) ?_
  refine Runs.sqR mixed hk38 [] (by kernel_rfl) (by kernel_rfl) (by kernel_rfl) oblN ?_
  have hl := grL_len y (n + 1) 0 (n + 1) 0 (Nat.le_refl _)
  refine Runs.now (x := .ret) (by kernel_rfl) ⟨.inr rfl, [rowA 4 (grL y (n + 1) 0 (n + 1) 0).length], by kernel_rfl, 4, [], .inl ?_, by kernel_rfl⟩
  rw [hl]
  rfl
theorem grown_none (y : Nat → Nat) (cap : Nat) : Local Tryd.prog 1 46 [i64 0, byG cap] (hp [viewB y]) fun v' _ => v' = .slice none 0 0 := by
  refine local_of noNum Tryd.func46 (show Tryd.f46.body = some c46 by kernel_rfl) ?_
  refine Runs.sqR mixed hk38 [] (by kernel_rfl) (by kernel_rfl) (by kernel_rfl) oblN ?_
  refine Runs.sqR mixed hk38 [] (by kernel_rfl) (by kernel_rfl) (by kernel_rfl) oblN ?_
  refine Runs.sqR mixed hk38 [] (by kernel_rfl) (by kernel_rfl) (by kernel_rfl) oblN ?_
  refine Runs.sqR mixed hk38 [] (by kernel_rfl) (by kernel_rfl) (by kernel_rfl) oblN ?_
  refine Runs.sqR mixed hk38 [viaC 2 99 (argsG 0 0) (.tuple #[])] (by kernel_rfl) (by kernel_rfl) (by kernel_rfl)
    (oblC (shown_callE (h0 := hp (grN y cap)) (by kernel_rfl) (by kernel_rfl) (gr_zeroN y cap 0)) oblN) ?_
  refine Runs.sqR mixed hk38 [] (by kernel_rfl) (by kernel_rfl) (by kernel_rfl) oblN ?_
  exact Runs.now (x := .ret) (by kernel_rfl) ⟨.inr rfl, [.slice none 0 0], by kernel_rfl, rfl⟩

/-- Told at the numbers' array. -/
theorem grown_at {h : AH} {g n : Nat} {y : Nat → Nat} {lv : Bool} {par : List Nat} {ty : Option TypeId} (hy : ∀ i, y i < 256) (hn : n + 1 ≤ 12) (hg : h.get g = .cells ((List.range 12).map fun i => .int .u8 (.ofNat (y i))) lv par ty) :
    Says Tryd.prog h 46 [i64 (n + 1), .slice (some ⟨g, 0, none⟩) 12 12] (planV h.next (grL y (n + 1) 0 (n + 1) 0)) (h.new (planO (some 3) (grL y (n + 1) 0 (n + 1) 0))).2 := by
  have hl := grL_len y (n + 1) 0 (n + 1) 0 (Nat.le_refl _)
  have := tell_new (P := Tryd.prog) (pre := [i64 (n + 1)]) (post := []) (i := g) (o := 0) (n := 12) (s := .slice (some ⟨g, 0, none⟩) 12 12) (cells := (List.range 12).map fun i => .int .u8 (.ofNat (y i))) (fun cap hc => grown_local hy cap n hn) ((litI_len _).trans hl) (litI_plain _) (fun v h => by cases h)
    hg (fun k u hk => by rw [Nat.zero_add]; exact hk) (by rw [Nat.zero_add]; exact Nat.le_refl _) (viewB_plain y) (.inr ⟨12, Nat.le_refl _, rfl⟩) (fun v hv => by rw [List.mem_singleton.1 hv]; rfl) (fun v hv => by cases hv)
  cases hp : grL y (n + 1) 0 (n + 1) 0 with
  | nil => rw [hp] at hl; cases hl
  | cons x l =>
    rw [hp] at this hl
    show Says Tryd.prog h 46 _ (.slice (some ⟨h.next, 0, some 1⟩) (x :: l).length (x :: l).length) _
    rw [hl]
    exact this
theorem grown_at0 {h : AH} {g : Nat} {y : Nat → Nat} {lv : Bool} {par : List Nat} {ty : Option TypeId} (hg : h.get g = .cells ((List.range 12).map fun i => .int .u8 (.ofNat (y i))) lv par ty) :
    Says Tryd.prog h 46 [i64 0, .slice (some ⟨g, 0, none⟩) 12 12] (.slice none 0 0) h :=
  tell_flat (P := Tryd.prog) (pre := [i64 0]) (post := []) (i := g) (o := 0) (n := 12) (s := .slice (some ⟨g, 0, none⟩) 12 12) (cells := (List.range 12).map fun i => .int .u8 (.ofNat (y i))) (fun cap hc => grown_none y cap) (fun _ _ r => r) rfl
    hg (fun k u hk => by rw [Nat.zero_add]; exact hk) (by rw [Nat.zero_add]; exact Nat.le_refl _) (viewB_plain y) (.inr ⟨12, Nat.le_refl _, rfl⟩) (fun v hv => by rw [List.mem_singleton.1 hv]; rfl) (fun v hv => by cases hv)
end
end Go.Proofs.YtgnkjmgkfibipaaDoor
