/- TrialAsked: the list of results made of bytes. -/
import Derived.Test.YtgnkjmgkfibipaaDoorKRes3
import Derived.Test.YtgnkjmgkfibipaaDoorRVias

namespace Go.Proofs.YtgnkjmgkfibipaaDoor
set_option linter.unusedVariables false
set_option linter.unusedSimpArgs false
open Go Go.R
set_option maxRecDepth 1000000
noncomputable section

/-! ### Numbers -/
theorem wrap64 {k : Nat} (h : k < 9223372036854775808) : IntKind.wrap .i64 (.ofNat k) = .ofNat k := by rw [← wrapF_eq]; exact wrap_ofNat h
theorem wrap8 {k : Nat} (h : k < 256) : IntKind.wrap .u8 (.ofNat k) = .ofNat k := by
  have e : (Int.ofNat k) = (k : Int) := rfl
  simp only [IntKind.wrap, IntKind.signed, IntKind.bits, e]
  simp
  omega
theorem f_add {a b : Nat} (h : a + b < 9223372036854775808) : wrapF .i64 (Int.add (.ofNat a) (.ofNat b)) = .ofNat (a + b) := wrap_ofNat h
theorem f_mul {a b : Nat} (h : a * b < 9223372036854775808) : wrapF .i64 (Int.mul (.ofNat a) (.ofNat b)) = .ofNat (a * b) := wrap_ofNat h
theorem f_quo {a b : Nat} (h : a < 9223372036854775808) : wrapF .i64 (Int.tdiv (.ofNat a) (.ofNat b)) = .ofNat (a / b) := wrap_ofNat (Nat.lt_of_le_of_lt (Nat.div_le_self a b) h)
theorem f_quo8 {a b : Nat} (h : a < 256) : wrapF .u8 (Int.tdiv (.ofNat a) (.ofNat b)) = .ofNat (a / b) := by
  rw [wrapF_eq]; exact wrap8 (Nat.lt_of_le_of_lt (Nat.div_le_self a b) h)

/-! ### The bytes, the results -/
def byL (y : Nat → Nat) : List Value := (List.range 20).map fun i => .int .u8 (.ofNat (y i))
def byO (y : Nat → Nat) : AObj := .cells (byL y) true [] (some 49)
def byV (y : Nat → Nat) : Value := .agg (byL y).toArray
def fA (y : Nat → Nat) (nn : Nat) (i : Nat) : Int := .ofNat (y i / 2 % (nn + 1) + 1)
def gA (y : Nat → Nat) (i : Nat) : Bool := eqF (.ofNat (y i % 2)) (.ofNat 1)
def rowO (n : Nat) (f : Nat → Int) (g : Nat → Bool) : AObj := .cells (rowsF n f g) true [] (some 52)
def rowV2 (n : Nat) : Value := .slice (some ⟨1, 0, some 2⟩) n n
def rootQ (y : Nat → Nat) (n : Nat) (f : Nat → Int) (g : Nat → Bool) : List AObj := [byO y, rowO n f g]

theorem byL_plain (y : Nat → Nat) : ∀ v ∈ byL y, plainV v = true := fun v hv => by
  obtain ⟨i, _, rfl⟩ := List.mem_map.1 hv; rfl
theorem rowsF_plain (n : Nat) (f : Nat → Int) (g : Nat → Bool) : ∀ v ∈ rowsF n f g, plainV v = true := rows2_plain (fun _ => rfl) (fun _ => rfl) n
theorem byO_clo (k : Nat) (y : Nat → Nat) : CloO k (byO y) := cloO_plain (byL_plain y) _ _
theorem rootQ_clo {y : Nat → Nat} {n : Nat} {f : Nat → Int} {g : Nat → Bool} : ∀ x ∈ rootQ y n f g, CloO 2 x := fun x hx => by
  simp only [rootQ, List.mem_cons, List.mem_nil_iff, or_false] at hx
  rcases hx with rfl | rfl
  · exact byO_clo 2 y
  · exact cloO_plain (rowsF_plain n f g) _ _
theorem by_clo {y : Nat → Nat} : ∀ x ∈ [byO y], CloO 1 x := fun x hx => by rw [List.mem_singleton.1 hx]; exact byO_clo 1 y

def c9 : Code := bodyOf Tryd.f9
def lpA0 : Code := within (tl (hd (behind 3 c9)))
def SA (nn b m : Nat) (lv : Value) (i : Nat) : List (Nat × Value) := [(1, .int .u8 (.ofNat b)), (7, i64 (nn + 1)), (8, lv), (38, .slice (some ⟨0, 0, none⟩) m 20), (39, i64 m), (40, i64 i)]
theorem sa_clo {nn b m : Nat} {i : Nat} {n : Nat} : ∀ q ∈ SA nn b m (rowV2 n) i, Clo 2 q.2 := clo_all (by kernel_rfl)
theorem saz_clo {nn b m : Nat} {i : Nat} : ∀ q ∈ SA nn b m (.slice none 0 0) i, Clo 1 q.2 := clo_all (by kernel_rfl)

theorem by_at {h : AH} {y : Nat → Nat} (hg : h.get 0 = byO y) {i : Nat} (hi : i < 20) : rowAt? h 0 (0 + i * 1) 1 = some [.int .u8 (.ofNat (y i))] := by
  rw [row_at hg (by simp [byL]; omega), Nat.zero_add, Nat.mul_one]
  have : (byL y)[i]? = some (.int .u8 (.ofNat (y i))) := by simp [byL, hi]
  rw [List.take_one, List.head?_drop, this]
  rfl

/-- The next state behind a round, the new row under its number. -/
theorem ask_next {nn b m : Nat} {y : Nat → Nat} {f : Nat → Int} {g : Nat → Bool} {k0 : Code} {Q : AExit → AF → Prop} (i q : Nat) (rows : List Value) (hrows : rows = rowsF (i + 1) f g) (hq : q ≠ 0) (par : List Nat) (h0 : 0 ∉ par) {af : AF} (hsz : af.sz = 254)
    (tt : ∀ p ∈ SA nn b m (.slice (some ⟨q, 0, some 2⟩) (i + 1) (i + 1)) i, af.tm.get p.1 = some p.2) (g0 : af.h.get 0 = byO y) (g1 : af.h.get q = .cells rows true par (some 52))
    (h : Runs Tryd.prog 0 k0 (sth (SA nn b m (rowV2 (i + 1)) i) 254 (rootQ y (i + 1) f g)) Q) : Runs Tryd.prog 0 k0 af Q := by
  subst hrows
  let ρ : Nat → Nat := fun j => if j = 0 then 0 else q
  have r0 : ρ 0 = 0 := rfl
  have r1 : ρ 1 = q := rfl
  refine Runs.renum (l := SA nn b m (rowV2 (i + 1)) i) (os := rootQ y (i + 1) f g) ρ hsz (Nat.zero_le 2) (fun j hj => absurd hj (Nat.not_lt_zero j)) (fun a b ha hb e => ?_) (fun p hp => ?_) (fun j o ho => ?_) (fun a b ha hb hne cs lv p ty hg => ?_) h
  · have ha' : a < 2 := ha
    have hb' : b < 2 := hb
    match a, b, ha', hb' with
    | 0, 0, _, _ => rfl
    | 1, 1, _, _ => rfl
    | 0, 1, _, _ => exact absurd (show q = 0 from e.symm) hq
    | 1, 0, _, _ => exact absurd (show q = 0 from e) hq
    | a + 2, _, h, _ => omega
    | _, b + 2, _, h => omega
  · simp only [SA, List.mem_cons, List.mem_nil_iff, or_false] at hp
    have at_ : ∀ p, p ∈ SA nn b m (.slice (some ⟨q, 0, some 2⟩) (i + 1) (i + 1)) i → af.tm.get p.1 = some p.2 := tt
    rcases hp with rfl | rfl | rfl | rfl | rfl | rfl
    · exact ⟨_, at_ (1, _) (by simp [SA]), Ren.plain rfl⟩
    · exact ⟨_, at_ (7, _) (by simp [SA]), Ren.plain rfl⟩
    · exact ⟨.slice (some ⟨q, 0, some 2⟩) (i + 1) (i + 1), at_ (8, .slice (some ⟨q, 0, some 2⟩) (i + 1) (i + 1)) (by simp [SA]), Ren.sliceU (show 1 < 2 by decide) r1⟩
    · exact ⟨_, at_ (38, _) (by simp [SA]), Ren.slice (show 0 < 2 by decide) r0⟩
    · exact ⟨_, at_ (39, _) (by simp [SA]), Ren.plain rfl⟩
    · exact ⟨_, at_ (40, _) (by simp [SA]), Ren.plain rfl⟩
  · have same : ∀ (l : List Value), (∀ v ∈ l, plainV v = true) → ∀ (k : Nat) u v, l[k]? = some u → l[k]? = some v → Ren ρ 2 u v := fun l hl k u v hu hv => by
      rw [hu] at hv
      cases hv
      exact Ren.plain (hl u (List.mem_of_getElem? hu))
    match j, ho with
    | 0, ho =>
      have : byO y = o := Option.some.inj ho
      subst this
      rw [r0, g0]
      exact ⟨rfl, same _ (byL_plain y), fun _ => rfl, rfl, .inr rfl⟩
    | 1, ho =>
      have : rowO (i + 1) f g = o := Option.some.inj ho
      subst this
      rw [r1, g1]
      exact ⟨rfl, same _ (rowsF_plain (i + 1) f g), fun _ => rfl, rfl, .inr rfl⟩
    | j + 2, ho => simp [rootQ] at ho
  · have ha' : a < 2 := ha
    have hb' : b < 2 := hb
    match a, b, ha', hb' with
    | 0, 0, _, _ => exact absurd rfl hne
    | 1, 1, _, _ => exact absurd rfl hne
    | 0, 1, _, _ =>
      rw [r0, g0] at hg
      cases hg
      exact List.not_mem_nil
    | 1, 0, _, _ =>
      rw [r1, g1] at hg
      cases hg
      exact h0
    | a + 2, _, h, _ => omega
    | _, b + 2, _, h => omega

theorem append_own {i : Nat} (hi : i < 1000000) {f : Nat → Int} {g : Nat → Bool} {h : AH} {x y : Value} (hx : cellV x = true) (hy : cellV y = true) (h1 : h.get 1 = rowO i f g) (h2 : rowAt? h 2 0 2 = some [x, y]) :
    appendA Tryd.prog #[42, 42] (rowV2 i) (.slice (some ⟨2, 0, none⟩) 1 1) h =
      some (.slice (some ⟨h.next, 0, some 2⟩) (i + 1) (i + 1), ((h.put 1 (.cells (rowsF i f g) false [] (some 52))).new (.cells (rowsF i f g ++ [x, y]) true [1] (some 52))).2) := by
  have e1 : Tryd.prog.underlying 42 = some (.slice 52) := by kernel_rfl
  obtain ⟨info, e2, e3, e4⟩ : ∃ info, Tryd.prog.info? 52 = some info ∧ info.size = 2 ∧ (decide (info.bytes > 1000000) || !zfit info) = false := ⟨(Tryd.prog.info? 52).get!, by kernel_rfl, by kernel_rfl, by kernel_rfl⟩
  rw [Bool.or_eq_false_iff] at e4
  have e5 : srcA 2 (.slice (some ⟨2, 0, none⟩) 1 1) h = some ([x, y], 1) := by
    unfold srcA
    simp only [show ¬ (1 = 0) by decide, if_false]
    show (rowAt? h 2 0 2).map (·, 1) = _
    rw [h2]; rfl
  have e6 : (decide (i > 1000000)) = false := by simp; omega
  have e7 : appendU 52 2 1 0 i 1 [x, y] h = some (.slice (some ⟨h.next, 0, some 2⟩) (i + 1) (i + 1), ((h.put 1 (.cells (rowsF i f g) false [] (some 52))).new (.cells (rowsF i f g ++ [x, y]) true [1] (some 52))).2) := by
    unfold appendU
    rw [h1]
    show (if 0 + i * 2 = (rowsF i f g).length then _ else _) = _
    rw [if_pos (by unfold rowsF; rw [rows2_len]; omega)]
    rfl
  unfold appendA rowV2
  simp only [List.getElem?_toArray, List.getElem?_cons_zero, List.getElem?_cons_succ, e1, e2, srcKind, Bool.not_true, Bool.false_eq_true, if_false, e3, e5]
  have e8 : ([x, y].all cellV) = true := by simp [hx, hy]
  simp only [e8, e4.1, e4.2, e6, Bool.not_true, Bool.or_false, Bool.false_or, Bool.or_self, decide_false, show (2 = 0) = False by simp, show (1 : Nat) > 1000000 ↔ False by simp, show ((1 : Nat) = 0) = False by simp, if_false, decide_true, ne_eq, not_true_eq_false, Bool.false_eq_true, show (1 + 1 = 2) by rfl, e7]
end
end Go.Proofs.YtgnkjmgkfibipaaDoor

/- TrialAsked: the list is built, and marked. -/
namespace Go.Proofs.YtgnkjmgkfibipaaDoor
set_option linter.unusedVariables false
set_option linter.unusedSimpArgs false
open Go Go.R
set_option maxRecDepth 1000000
noncomputable section

theorem rows2_get? (a b : Nat → Value) : ∀ (n k : Nat), (rows2 a b n)[k]? = if k < n * 2 then some (if k % 2 = 0 then a (k / 2) else b (k / 2)) else none
  | 0, k => by simp [rows2]
  | n + 1, k => by
    rw [rows2_succ]
    have hl := rows2_len a b n
    by_cases hk : k < n * 2
    · have c2 : k < (n + 1) * 2 := by omega
      rw [List.getElem?_append_left (by omega), rows2_get? a b n k, if_pos hk, if_pos c2]
    · rw [List.getElem?_append_right (by omega), hl]
      by_cases h0 : k = n * 2
      · rw [h0, Nat.sub_self, if_pos (by omega), if_pos (by omega), show n * 2 / 2 = n by omega]; rfl
      · by_cases h1 : k = n * 2 + 1
        · rw [h1, show n * 2 + 1 - n * 2 = 1 by omega, if_pos (by omega), if_neg (by omega), show (n * 2 + 1) / 2 = n by omega]; rfl
        · rw [List.getElem?_eq_none (by simp; omega), if_neg (by omega)]

theorem splice_one {c : List Value} {o : Nat} {v : Value} (h : o < c.length) : splice c o [v] = c.set o v := by
  unfold splice
  rw [List.set_eq_take_append_cons_drop, if_pos h]
  simp

theorem splice_snd {n j : Nat} (hj : j < n) (f : Nat → Int) (g g' : Nat → Bool) (hg : ∀ i, g' i = if i = j then g' j else g i) : splice (rowsF n f g) (0 + j * 2 + 1) [.bool (g' j)] = rowsF n f g' := by
  rw [Nat.zero_add, splice_one (by unfold rowsF; rw [rows2_len]; omega)]
  apply List.ext_getElem?
  intro k
  rw [List.getElem?_set]
  unfold rowsF
  rw [rows2_get?, rows2_get?, rows2_len]
  by_cases e : j * 2 + 1 = k
  · subst e
    rw [if_pos rfl, if_pos (by omega), if_pos (by omega), if_neg (by omega), show (j * 2 + 1) / 2 = j by omega]
  · rw [if_neg e]
    by_cases hk : k < n * 2
    · rw [if_pos hk, if_pos hk]
      by_cases h2 : k % 2 = 0
      · rw [if_pos h2, if_pos h2]
      · rw [if_neg h2, if_neg h2, hg (k / 2), if_neg (by omega)]
    · rw [if_neg hk, if_neg hk]

def gM (K : Int) (f : Nat → Int) (g : Nat → Bool) (j i : Nat) : Bool := if i < j then ltF K (f i) else g i
theorem gM_step (K : Int) (f : Nat → Int) (g : Nat → Bool) (j : Nat) : ∀ i, gM K f g (j + 1) i = if i = j then gM K f g (j + 1) j else gM K f g j i := by
  intro i
  unfold gM
  by_cases e : i = j
  · subst e; rw [if_pos rfl]
  · rw [if_neg e]
    by_cases h : i < j
    · rw [if_pos (by omega), if_pos h]
    · rw [if_neg (by omega), if_neg h]
theorem gM_last (K : Int) (f : Nat → Int) (g : Nat → Bool) (j : Nat) : gM K f g (j + 1) j = ltF K (f j) := if_pos (Nat.lt_succ_self j)

theorem store_own {y : Nat → Nat} {n j : Nat} (hj : j < n) (f : Nat → Int) (g g' : Nat → Bool) (hg : ∀ i, g' i = if i = j then g' j else g i) :
    storeA Tryd.prog 4 1 (0 + j * 2 + 1) (.bool (g' j)) (hp (rootQ y n f g)) = some ((hp (rootQ y n f g)).put 1 (rowO n f g')) := by
  obtain ⟨info, e2, e3⟩ : ∃ info, Tryd.prog.info? 4 = some info ∧ info.size = 1 := ⟨(Tryd.prog.info? 4).get!, by kernel_rfl, by kernel_rfl⟩
  have h1 : (hp (rootQ y n f g)).get 1 = rowO n f g := hp_get _ 1 _ rfl
  have e4 : (decide ((Value.bool (g' j)).cells.size = info.size) && (Value.bool (g' j)).cells.toList.all cellV) = true := by rw [e3]; rfl
  unfold storeA
  simp only [e2]
  rw [if_pos e4]
  show putRow? (hp (rootQ y n f g)) 1 (0 + j * 2 + 1) [.bool (g' j)] = _
  unfold putRow?
  rw [h1]
  show (if 0 + j * 2 + 1 + 1 ≤ (rowsF n f g).length then some (((hp (rootQ y n f g)).kill []).put 1 (.cells (splice (rowsF n f g) (0 + j * 2 + 1) [.bool (g' j)]) true [] (some 52))) else none) = _
  rw [if_pos (by unfold rowsF; rw [rows2_len]; omega), splice_snd hj f g g' hg]
  rfl

/-! ### The list is built -/
theorem ask_step {nn b m : Nat} {y : Nat → Nat} {Q : AExit → AF → Prop} (i : Nat) (hi : i < 1000000)
    (h : Runs Tryd.prog 0 lpA0 (sth (SA nn b m (rowV2 (i + 1)) (i + 1)) 254 (rootQ y (i + 1) (fA y nn) (gA y))) Q) :
    Runs Tryd.prog 0 (tl (tl (tl (within lpA0)))) (sth (SA nn b m (rowV2 (i + 1)) i) 254 (rootQ y (i + 1) (fA y nn) (gA y))) (andThen (fun a => Runs Tryd.prog 0 lpA0 a Q) Q) := by
  refine Runs.rg mixed hk38 [] (by kernel_rfl) (by kernel_rfl) (by kernel_rfl) oblN ?_
  show Runs Tryd.prog 0 lpA0 _ _
  have ew : SA nn b m (rowV2 (i + 1)) (i + 1) = [(1, .int .u8 (.ofNat b)), (7, i64 (nn + 1)), (8, rowV2 (i + 1)), (38, .slice (some ⟨0, 0, none⟩) m 20), (39, i64 m), (40, .int .i64 (wrapF .i64 (Int.add (.ofNat i) (.ofNat 1))))] := by rw [wrap_succ (by omega : i < 4611686018427387904)]; rfl
  refine Runs.less (af1 := sth (SA nn b m (rowV2 (i + 1)) (i + 1)) 254 (rootQ y (i + 1) (fA y nn) (gA y))) ?_ h
  rw [ew]
  exact less_seenP (clo_all (by kernel_rfl)) rootQ_clo (Nat.zero_le 2) (by kernel_rfl) (by kernel_rfl) (by kernel_rfl) (by kernel_rfl)

theorem sa_tt {nn b m : Nat} {lv : Value} {i : Nat} {af : AF} (h : ((SA nn b m lv i).map (·.1)).map af.tm.get = (SA nn b m lv i).map fun p => some p.2) : ∀ p ∈ SA nn b m lv i, af.tm.get p.1 = some p.2 := by
  rw [List.map_map, List.map_inj_left] at h
  exact h

theorem ask_build (nn b m : Nat) (hm : m < 20) (y : Nat → Nat) (hy : ∀ i, y i < 256) : ∀ d i, i + 1 + d = m →
    Runs Tryd.prog 0 lpA0 (sth (SA nn b m (rowV2 (i + 1)) (i + 1)) 254 (rootQ y (i + 1) (fA y nn) (gA y))) fun x af => x = .exit 0 ∧ Less 0 (sth (SA nn b m (rowV2 m) m) 254 (rootQ y m (fA y nn) (gA y))) af := by
  intro d
  induction d with
  | zero =>
    intro i hi
    have him : i + 1 = m := by omega
    rw [him]
    refine Runs.lp (by kernel_rfl) (Runs.sqR mixed hk38 [] (by kernel_rfl) (by kernel_rfl) (by kernel_rfl) oblN (Runs.sq (by kernel_rfl) ?_))
    refine Runs.cd (b := ltF (.ofNat m) (.ofNat m)) (by kernel_rfl) (fun ht => by rw [lt_self] at ht; cases ht) (fun _ => Runs.now (x := .exit 0) (by kernel_rfl) ⟨rfl, ?_⟩)
    exact less_seenP sa_clo rootQ_clo (Nat.zero_le 2) (by kernel_rfl) (by kernel_rfl) (by kernel_rfl) (by kernel_rfl)
  | succ d ih =>
    intro i hi
    have hlt : i + 1 < m := by omega
    refine Runs.lp (by kernel_rfl) (Runs.sqR mixed hk38 [] (by kernel_rfl) (by kernel_rfl) (by kernel_rfl) oblN (Runs.sq (by kernel_rfl) ?_))
    refine Runs.cd (b := ltF (.ofNat (i + 1)) (.ofNat m)) (by kernel_rfl) (fun _ => Runs.now (x := .normal) (by kernel_rfl) ?_) (fun hf => by rw [lt_of hlt] at hf; cases hf)
    show Runs Tryd.prog 0 _ _ _
    refine Runs.sq (by kernel_rfl) (Runs.bk (id := 1) (by kernel_rfl) ?_)
    refine Runs.sqR mixed hk38 [viaV 0 (.pointer (some ⟨0, 0 + (i + 1) * 1, none⟩)), viaV 1 (.int .u8 (.ofNat (y (i + 1))))] (by kernel_rfl) (by kernel_rfl) (by kernel_rfl)
      (oblC (shown_idx (n := m) (by kernel_rfl) hlt) (oblC (shown_cell (by kernel_rfl) (by_at (y := y) (by kernel_rfl) (by omega))) oblN)) ?_
    let x : Value := .int .i64 (fA y nn (i + 1))
    let z : Value := .bool (gA y (i + 1))
    let Hp : AH := ((hp (rootQ y (i + 1) (fA y nn) (gA y))).new (.cells [x, z] true [] (some 52))).2
    let Hn : AH := ((Hp.put 1 (.cells (rowsF (i + 1) (fA y nn) (gA y)) false [] (some 52))).new (.cells (rowsF (i + 1) (fA y nn) (gA y) ++ [x, z]) true [1] (some 52))).2
    have hap : appendA Tryd.prog #[42, 42] (rowV2 (i + 1)) (.slice (some ⟨2, 0, none⟩) 1 1) Hp = some (.slice (some ⟨3, 0, some 2⟩) (i + 2) (i + 2), Hn) :=
      append_own (x := x) (y := z) (by omega) rfl rfl (by kernel_rfl) (by kernel_rfl)
    have hyi := hy (i + 1)
    have hmod : y (i + 1) / 2 % (nn + 1) ≤ y (i + 1) / 2 := Nat.mod_le _ _
    refine Runs.rg mixed hk38 [viaV 2 (.int .i64 (.ofNat (y (i + 1)))), viaV 3 (.int .i64 (.ofNat (y (i + 1) / 2))), viaV 6 x, ⟨12, .slice (some ⟨3, 0, some 2⟩) (i + 2) (i + 2), some Hn, none⟩] (by kernel_rfl) (by kernel_rfl) (by kernel_rfl)
      (oblC (shown_eq (v := .int .i64 (IntKind.wrap .i64 (.ofNat (y (i + 1))))) (by kernel_rfl) (by kernel_rfl) (by rw [wrap64 (by omega)]))
      (oblC (shown_eq (v := .int .i64 (wrapF .i64 (Int.tdiv (.ofNat (y (i + 1))) (.ofNat 2)))) (by kernel_rfl) (by kernel_rfl) (by rw [f_quo (by omega)]))
      (oblC (shown_eq (v := .int .i64 (wrapF .i64 (Int.add (.ofNat 1) (.ofNat (y (i + 1) / 2 % (nn + 1)))))) (by kernel_rfl) (by kernel_rfl) (by rw [f_add (by omega), Nat.add_comm]; rfl))
      (oblC ⟨by kernel_rfl, (show _ = appendA Tryd.prog #[42, 42] (rowV2 (i + 1)) (.slice (some ⟨2, 0, none⟩) 1 1) Hp by kernel_rfl).trans hap⟩ oblN)))) ?_
    show Runs Tryd.prog 0 (tl (tl (tl (within lpA0)))) _ _
    exact ask_next (i + 1) 3 (rowsF (i + 1) (fA y nn) (gA y) ++ [x, z]) (rowsF_succ (i + 1) (fA y nn) (gA y)) (by decide) [1] (by decide) (by kernel_rfl) (sa_tt (by kernel_rfl)) (by kernel_rfl) (by kernel_rfl) (ask_step (i + 1) (by omega) (ih (i + 1) (by omega)))

theorem ask_first (nn b m : Nat) (hm : m < 20) (hpos : 0 < m) (y : Nat → Nat) (hy : ∀ i, y i < 256) :
    Runs Tryd.prog 0 lpA0 (sth (SA nn b m (.slice none 0 0) 0) 254 [byO y]) fun x af => x = .exit 0 ∧ Less 0 (sth (SA nn b m (rowV2 m) m) 254 (rootQ y m (fA y nn) (gA y))) af := by
  refine Runs.lp (by kernel_rfl) (Runs.sqR mixed hk38 [] (by kernel_rfl) (by kernel_rfl) (by kernel_rfl) oblN (Runs.sq (by kernel_rfl) ?_))
  refine Runs.cd (b := ltF (.ofNat 0) (.ofNat m)) (by kernel_rfl) (fun _ => Runs.now (x := .normal) (by kernel_rfl) ?_) (fun hf => by rw [lt_of hpos] at hf; cases hf)
  show Runs Tryd.prog 0 _ _ _
  refine Runs.sq (by kernel_rfl) (Runs.bk (id := 1) (by kernel_rfl) ?_)
  refine Runs.sqR mixed hk38 [viaV 0 (.pointer (some ⟨0, 0 + 0 * 1, none⟩)), viaV 1 (.int .u8 (.ofNat (y 0)))] (by kernel_rfl) (by kernel_rfl) (by kernel_rfl)
    (oblC (shown_idx (n := m) (by kernel_rfl) hpos) (oblC (shown_cell (by kernel_rfl) (by_at (y := y) (i := 0) (by kernel_rfl) (by decide))) oblN)) ?_
  let x : Value := .int .i64 (fA y nn 0)
  have hyi := hy 0
  have hmod : y 0 / 2 % (nn + 1) ≤ y 0 / 2 := Nat.mod_le _ _
  refine Runs.rg mixed hk38 [viaV 2 (.int .i64 (.ofNat (y 0))), viaV 3 (.int .i64 (.ofNat (y 0 / 2))), viaV 6 x] (by kernel_rfl) (by kernel_rfl) (by kernel_rfl)
    (oblC (shown_eq (v := .int .i64 (IntKind.wrap .i64 (.ofNat (y 0)))) (by kernel_rfl) (by kernel_rfl) (by rw [wrap64 (by omega)]))
    (oblC (shown_eq (v := .int .i64 (wrapF .i64 (Int.tdiv (.ofNat (y 0)) (.ofNat 2)))) (by kernel_rfl) (by kernel_rfl) (by rw [f_quo (by omega)]))
    (oblC (shown_eq (v := .int .i64 (wrapF .i64 (Int.add (.ofNat 1) (.ofNat (y 0 / 2 % (nn + 1)))))) (by kernel_rfl) (by kernel_rfl) (by rw [f_add (by omega), Nat.add_comm]; rfl)) oblN))) ?_
  show Runs Tryd.prog 0 (tl (tl (tl (within lpA0)))) _ _
  exact ask_next 0 2 (rowsF 1 (fA y nn) (gA y)) rfl (by decide) [] List.not_mem_nil (by kernel_rfl) (sa_tt (by kernel_rfl)) (by kernel_rfl) (by kernel_rfl) (ask_step 0 (by decide) (ask_build nn b m hm y hy (m - 1) 0 (by omega)))
end
end Go.Proofs.YtgnkjmgkfibipaaDoor

/- TrialAsked: the list is marked; all ahead of the hardnesses. -/
namespace Go.Proofs.YtgnkjmgkfibipaaDoor
set_option linter.unusedVariables false
set_option linter.unusedSimpArgs false
open Go Go.R
set_option maxRecDepth 1000000
noncomputable section

def mk9 : Code := tl (hd (behind 4 c9))
def lpA2 : Code := within (tl (thenOf mk9))
def SM (nn b m j : Nat) : List (Nat × Value) := [(1, .int .u8 (.ofNat b)), (7, i64 (nn + 1)), (8, rowV2 m), (63, i64 m), (64, i64 j)]
theorem sm_clo {nn b m j : Nat} : ∀ q ∈ SM nn b m j, Clo 2 q.2 := clo_all (by kernel_rfl)
def S3 (nn m : Nat) : List (Nat × Value) := [(7, i64 (nn + 1)), (8, rowV2 m)]
theorem s3_clo {nn m : Nat} : ∀ q ∈ S3 nn m, Clo 2 q.2 := clo_all (by kernel_rfl)

theorem fst_at {h : AH} {n i : Nat} {f : Nat → Int} {g : Nat → Bool} (hg : h.get 1 = rowO n f g) (hlt : i < n) : rowAt? h 1 (0 + i * 2 + 0) 1 = some [.int .i64 (f i)] := by
  rw [Nat.zero_add, Nat.add_zero, row_at hg (by unfold rowsF; rw [rows2_len]; omega)]
  unfold rowsF
  rw [rows2_fst _ _ hlt]

theorem mark_loop (nn b m : Nat) (hm : m < 20) (hb : b < 256) (y : Nat → Nat) (f : Nat → Int) (g : Nat → Bool) : ∀ d j, j + d = m →
    Runs Tryd.prog 0 lpA2 (sth (SM nn b m j) 254 (rootQ y m f (gM (.ofNat (b / 64 * 3)) f g j))) fun x af => x = .exit 2 ∧ Less 0 (sth (S3 nn m) 254 (rootQ y m f (gM (.ofNat (b / 64 * 3)) f g m))) af := by
  intro d
  induction d with
  | zero =>
    intro j hj
    have him : j = m := by omega
    subst him
    refine Runs.lp (by kernel_rfl) (Runs.sqR mixed hk38 [] (by kernel_rfl) (by kernel_rfl) (by kernel_rfl) oblN (Runs.sq (by kernel_rfl) ?_))
    refine Runs.cd (b := ltF (.ofNat j) (.ofNat j)) (by kernel_rfl) (fun ht => by rw [lt_self] at ht; cases ht) (fun _ => Runs.now (x := .exit 2) (by kernel_rfl) ⟨rfl, ?_⟩)
    exact less_seenP s3_clo rootQ_clo (Nat.zero_le 2) (by kernel_rfl) (by kernel_rfl) (by kernel_rfl) (by kernel_rfl)
  | succ d ih =>
    intro j hj
    have hlt : j < m := by omega
    refine Runs.lp (by kernel_rfl) (Runs.sqR mixed hk38 [] (by kernel_rfl) (by kernel_rfl) (by kernel_rfl) oblN (Runs.sq (by kernel_rfl) ?_))
    refine Runs.cd (b := ltF (.ofNat j) (.ofNat m)) (by kernel_rfl) (fun _ => Runs.now (x := .normal) (by kernel_rfl) ?_) (fun hf => by rw [lt_of hlt] at hf; cases hf)
    show Runs Tryd.prog 0 _ _ _
    refine Runs.sq (by kernel_rfl) (Runs.bk (id := 3) (by kernel_rfl) ?_)
    refine Runs.sqR mixed hk38 [] (by kernel_rfl) (by kernel_rfl) (by kernel_rfl) oblN ?_
    let K : Int := .ofNat (b / 64 * 3)
    let g' := gM K f g (j + 1)
    have hdiv : b / 64 ≤ b := Nat.div_le_self b 64
    have hst : storeA Tryd.prog 4 1 (0 + j * 2 + 1) (.bool (ltF K (f j))) (hp (rootQ y m f (gM K f g j))) = some ((hp (rootQ y m f (gM K f g j))).put 1 (rowO m f g')) := by
      have := store_own (y := y) hlt f (gM K f g j) g' (gM_step K f g j)
      rw [show g' j = ltF K (f j) from gM_last K f g j] at this
      exact this
    refine Runs.rg mixed hk38 [viaV 4 (.pointer (some ⟨1, 0 + j * 2, none⟩)), viaV 6 (.int .i64 (f j)), viaV 8 (.int .u8 (.ofNat (b / 64))), viaV 9 (.int .i64 (.ofNat (b / 64))), viaV 10 (.int .i64 K), viaV 12 (.pointer (some ⟨1, 0 + j * 2, none⟩)),
        ⟨14, undef, some ((hp (rootQ y m f (gM K f g j))).put 1 (rowO m f g')), none⟩] (by kernel_rfl) (by kernel_rfl) (by kernel_rfl)
      (oblC (shown_idx (n := m) (by kernel_rfl) hlt) (oblC (shown_cell (by kernel_rfl) (fst_at (n := m) (g := gM K f g j) (by kernel_rfl) hlt))
      (oblC (shown_eq (v := .int .u8 (wrapF .u8 (Int.tdiv (.ofNat b) (.ofNat 64)))) (by kernel_rfl) (by kernel_rfl) (by rw [f_quo8 hb]))
      (oblC (shown_eq (v := .int .i64 (IntKind.wrap .i64 (.ofNat (b / 64)))) (by kernel_rfl) (by kernel_rfl) (by rw [wrap64 (by omega)]))
      (oblC (shown_eq (v := .int .i64 (wrapF .i64 (Int.mul (.ofNat (b / 64)) (.ofNat 3)))) (by kernel_rfl) (by kernel_rfl) (by rw [f_mul (by omega)]))
      (oblC (shown_idx (n := m) (by kernel_rfl) hlt)
      (oblC ⟨by kernel_rfl, (show _ = (storeA Tryd.prog 4 1 (0 + j * 2 + 1) (.bool (ltF K (f j))) (hp (rootQ y m f (gM K f g j)))).map (undef, ·) by kernel_rfl).trans (by rw [hst]; rfl)⟩ oblN))))))) ?_
    show Runs Tryd.prog 0 _ _ _
    refine Runs.rg mixed hk38 [] (by kernel_rfl) (by kernel_rfl) (by kernel_rfl) oblN ?_
    show Runs Tryd.prog 0 lpA2 _ _
    have ew : SM nn b m (j + 1) = [(1, .int .u8 (.ofNat b)), (7, i64 (nn + 1)), (8, rowV2 m), (63, i64 m), (64, .int .i64 (wrapF .i64 (Int.add (.ofNat j) (.ofNat 1))))] := by rw [wrap_succ (by omega : j < 4611686018427387904)]; rfl
    refine Runs.less (af1 := sth (SM nn b m (j + 1)) 254 (rootQ y m f g')) ?_ (ih (j + 1) (by omega))
    rw [ew]
    exact less_seenP (clo_all (by kernel_rfl)) rootQ_clo (Nat.zero_le 2) (by kernel_rfl) (by kernel_rfl) (by kernel_rfl) (by kernel_rfl)

/-- All ahead of the hardnesses, a list with results. -/
theorem ask_front (a b : Nat) (ha : a < 256) (hb : b < 256) (hpos : 0 < b % 9) (y : Nat → Nat) (hy : ∀ i, y i < 256) {Q : AExit → AF → Prop}
    (h : ∀ g, Runs Tryd.prog 0 (behind 5 c9) (sth (S3 (a % 12) (b % 9)) 254 (rootQ y (b % 9) (fA y (a % 12)) g)) Q) :
    Runs Tryd.prog 0 c9 (entry Tryd.f9 [.int .u8 (.ofNat a), .int .u8 (.ofNat b), byV y] AH.empty) Q := by
  have hm : b % 9 < 20 := by omega
  refine Runs.sqR mixed hk38 [] (by kernel_rfl) (by kernel_rfl) (by kernel_rfl) oblN ?_
  refine Runs.sqR mixed hk38 [viaV 1 (.int .i64 (.ofNat a)), viaV 3 (i64 (a % 12 + 1))] (by kernel_rfl) (by kernel_rfl) (by kernel_rfl)
    (oblC (shown_eq (v := .int .i64 (IntKind.wrap .i64 (.ofNat a))) (by kernel_rfl) (by kernel_rfl) (by rw [wrap64 (by omega)]))
    (oblC (shown_eq (v := .int .i64 (wrapF .i64 (Int.add (.ofNat 1) (.ofNat (a % 12))))) (by kernel_rfl) (by kernel_rfl) (by rw [f_add (by omega), Nat.add_comm]; rfl)) oblN)) ?_
  refine Runs.sqR mixed hk38 [] (by kernel_rfl) (by kernel_rfl) (by kernel_rfl) oblN ?_
  have hbd : boundsA 20 20 none (some (i64 (b % 9))) none = some (0, b % 9, 20) := by
    have q : (0 : Int) ≤ (Int.ofNat (b % 9)) ∧ (Int.ofNat (b % 9)) ≤ ((20 : Nat) : Int) := ⟨Int.natCast_nonneg _, Int.ofNat_le.2 (by omega)⟩
    show (match (if (0 : Int) ≤ Int.ofNat (b % 9) ∧ Int.ofNat (b % 9) ≤ ((20 : Nat) : Int) then some (Int.ofNat (b % 9)).toNat else none) with
      | none => none
      | some h => if h ≤ 20 then some (0, h, 20) else none) = _
    rw [if_pos q]
    show (if b % 9 ≤ 20 then some (0, b % 9, 20) else none) = _
    rw [if_pos (by omega)]
  have hsl : sliceA Tryd.prog 49 (.pointer (some ⟨0, 0, none⟩)) none (some (i64 (b % 9))) none = some (.slice (some ⟨0, 0, none⟩) (b % 9) 20) := by
    have e1 : Tryd.prog.underlying 49 = some (.array 20 5) := by kernel_rfl
    obtain ⟨info, e2, e3⟩ : ∃ info, Tryd.prog.info? 5 = some info ∧ info.size = 1 := ⟨(Tryd.prog.info? 5).get!, by kernel_rfl, by kernel_rfl⟩
    unfold sliceA
    simp only [e1, e2, hbd, e3]
    rfl
  refine Runs.sq (by kernel_rfl) (Runs.sqR mixed hk38 [viaV 1 (.int .i64 (.ofNat b)), viaV 3 (.slice (some ⟨0, 0, none⟩) (b % 9) 20)] (by kernel_rfl) (by kernel_rfl) (by kernel_rfl)
    (oblC (shown_eq (v := .int .i64 (IntKind.wrap .i64 (.ofNat b))) (by kernel_rfl) (by kernel_rfl) (by rw [wrap64 (by omega)]))
    (oblC ⟨by kernel_rfl, (show _ = (sliceA Tryd.prog 49 (.pointer (some ⟨0, 0, none⟩)) none (some (i64 (b % 9))) none).map (·, hp [byO y]) by kernel_rfl).trans (by rw [hsl]; rfl)⟩ oblN)) (Runs.bk (id := 0) (by kernel_rfl) ?_))
  refine Runs.less (af1 := sth (SA (a % 12) b (b % 9) (.slice none 0 0) 0) 254 [byO y]) (less_seenP saz_clo by_clo (Nat.zero_le 1) (by kernel_rfl) (by kernel_rfl) (by kernel_rfl) (by kernel_rfl)) ?_
  refine (ask_first (a % 12) b (b % 9) hm hpos y hy).mono fun x af hx => ?_
  obtain ⟨rfl, less⟩ := hx
  show Runs Tryd.prog 0 _ af _
  have hdiv : b / 16 ≤ b := Nat.div_le_self b 16
  refine Runs.less less (Runs.sq (by kernel_rfl) (Runs.sqR mixed hk38 [viaV 1 (.int .u8 (.ofNat (b / 16)))] (by kernel_rfl) (by kernel_rfl) (by kernel_rfl)
    (oblC (shown_eq (v := .int .u8 (wrapF .u8 (Int.tdiv (.ofNat b) (.ofNat 16)))) (by kernel_rfl) (by kernel_rfl) (by rw [f_quo8 hb])) oblN) ?_))
  refine Runs.cd (b := ltF (.ofNat 0) (.ofNat (b / 16 % 4))) (by kernel_rfl) (fun hc => ?_) (fun hc => Runs.now (x := .normal) (by kernel_rfl) ?_)
  · refine Runs.sqR mixed hk38 [] (by kernel_rfl) (by kernel_rfl) (by kernel_rfl) oblN (Runs.bk (id := 2) (by kernel_rfl) ?_)
    have e0 : gM (.ofNat (b / 64 * 3)) (fA y (a % 12)) (gA y) 0 = gA y := by funext i; unfold gM; rw [if_neg (Nat.not_lt_zero i)]
    have hml := mark_loop (a % 12) b (b % 9) hm hb y (fA y (a % 12)) (gA y) (b % 9) 0 (by omega)
    rw [e0] at hml
    refine Runs.less (af1 := sth (SM (a % 12) b (b % 9) 0) 254 (rootQ y (b % 9) (fA y (a % 12)) (gA y))) (less_seenP sm_clo rootQ_clo (Nat.zero_le 2) (by kernel_rfl) (by kernel_rfl) (by kernel_rfl) (by kernel_rfl)) ?_
    refine hml.mono fun x af hx => ?_
    obtain ⟨rfl, less⟩ := hx
    show Runs Tryd.prog 0 (behind 5 c9) af _
    exact Runs.less less (h _)
  · show Runs Tryd.prog 0 (behind 5 c9) _ _
    exact Runs.less (af1 := sth (S3 (a % 12) (b % 9)) 254 (rootQ y (b % 9) (fA y (a % 12)) (gA y))) (less_seenP s3_clo rootQ_clo (Nat.zero_le 2) (by kernel_rfl) (by kernel_rfl) (by kernel_rfl) (by kernel_rfl)) (h _)
end
end Go.Proofs.YtgnkjmgkfibipaaDoor

/- TrialAsked: all hardnesses are tried. -/
namespace Go.Proofs.YtgnkjmgkfibipaaDoor
set_option linter.unusedVariables false
set_option linter.unusedSimpArgs false
open Go Go.R
set_option maxRecDepth 1000000
noncomputable section

def lpA4 : Code := within (tl (hd (behind 6 c9)))
def bd5 : Code := within (hd (tl (tl (within lpA4))))
def lpA6 : Code := within (tl (hd (tl (tl bd5))))

def gd (f : Nat → Int) (g : Nat → Bool) (h : Int) : Nat → Bool
  | 0 => true
  | j + 1 => gd f g h j && (g j == ltF h (f j))

theorem gd_iff (f : Nat → Int) (g : Nat → Bool) (h : Int) : ∀ m, gd f g h m = true ↔ ∀ i, i < m → g i = decide (h < f i)
  | 0 => ⟨fun _ i hi => absurd hi (Nat.not_lt_zero i), fun _ => rfl⟩
  | m + 1 => by
    unfold gd
    rw [Bool.and_eq_true, gd_iff f g h m, beq_iff_eq, ltF_eq]
    refine ⟨fun q i hi => ?_, fun q => ⟨fun i hi => q i (by omega), q m (by omega)⟩⟩
    rcases Nat.lt_or_ge i m with a | a
    · exact q.1 i a
    · rw [show i = m by omega]; exact q.2

theorem gd_agr (m : Nat) (f : Nat → Int) (g : Nat → Bool) (h : Int) : gd f g h m = agrV m f g h := by
  rw [Bool.eq_iff_iff, gd_iff, agr_iff]

def S4 (nn m : Nat) (s : Int × Int) (i : Nat) : List (Nat × Value) := [(7, i64 (nn + 1)), (8, rowV2 m), (12, .int .i64 s.1), (13, .int .i64 s.2), (83, i64 (nn + 2)), (84, i64 i)]
def S6 (nn m : Nat) (s : Int × Int) (i : Nat) (z : Bool) (j : Nat) : List (Nat × Value) :=
  [(7, i64 (nn + 1)), (8, rowV2 m), (12, .int .i64 s.1), (13, .int .i64 s.2), (83, i64 (nn + 2)), (84, i64 i), (14, i64 i), (15, .bool z), (87, rowV2 m), (88, i64 m), (89, i64 j)]
def S7 (nn m : Nat) (s : Int × Int) : List (Nat × Value) := [(7, i64 (nn + 1)), (8, rowV2 m), (12, .int .i64 s.1), (13, .int .i64 s.2)]
theorem s4_clo {nn m : Nat} {s : Int × Int} {i : Nat} : ∀ q ∈ S4 nn m s i, Clo 2 q.2 := clo_all (by kernel_rfl)
theorem s6_clo {nn m : Nat} {s : Int × Int} {i : Nat} {z : Bool} {j : Nat} : ∀ q ∈ S6 nn m s i z j, Clo 2 q.2 := clo_all (by kernel_rfl)
theorem s7_clo {nn m : Nat} {s : Int × Int} : ∀ q ∈ S7 nn m s, Clo 2 q.2 := clo_all (by kernel_rfl)

theorem row_own {h : AH} {n i : Nat} {f : Nat → Int} {g : Nat → Bool} (hg : h.get 1 = rowO n f g) (hlt : i < n) : rowAt? h 1 (0 + i * 2) 2 = some [.int .i64 (f i), .bool (g i)] := by
  rw [row_at hg (by unfold rowsF; rw [rows2_len]; omega), Nat.zero_add]
  unfold rowsF
  rw [rows2_at _ _ n i hlt]

theorem good_loop (nn m : Nat) (s : Int × Int) (i : Nat) (y : Nat → Nat) (f : Nat → Int) (g : Nat → Bool) (hm : m < 1000000) : ∀ d j, j + d = m →
    Runs Tryd.prog 0 lpA6 (sth (S6 nn m s i (gd f g (.ofNat i) j) j) 254 (rootQ y m f g)) fun x af => x = .exit 6 ∧ Less 0 (sth (S6 nn m s i (gd f g (.ofNat i) m) m) 254 (rootQ y m f g)) af := by
  intro d
  induction d with
  | zero =>
    intro j hj
    have him : j = m := by omega
    subst him
    refine Runs.lp (by kernel_rfl) (Runs.sqR mixed hk38 [] (by kernel_rfl) (by kernel_rfl) (by kernel_rfl) oblN (Runs.sq (by kernel_rfl) ?_))
    refine Runs.cd (b := ltF (.ofNat j) (.ofNat j)) (by kernel_rfl) (fun ht => by rw [lt_self] at ht; cases ht) (fun _ => Runs.now (x := .exit 6) (by kernel_rfl) ⟨rfl, ?_⟩)
    exact less_seenP s6_clo rootQ_clo (Nat.zero_le 2) (by kernel_rfl) (by kernel_rfl) (by kernel_rfl) (by kernel_rfl)
  | succ d ih =>
    intro j hj
    have hlt : j < m := by omega
    refine Runs.lp (by kernel_rfl) (Runs.sqR mixed hk38 [] (by kernel_rfl) (by kernel_rfl) (by kernel_rfl) oblN (Runs.sq (by kernel_rfl) ?_))
    refine Runs.cd (b := ltF (.ofNat j) (.ofNat m)) (by kernel_rfl) (fun _ => Runs.now (x := .normal) (by kernel_rfl) ?_) (fun hf => by rw [lt_of hlt] at hf; cases hf)
    show Runs Tryd.prog 0 _ _ _
    refine Runs.sq (by kernel_rfl) (Runs.bk (id := 7) (by kernel_rfl) ?_)
    have next : ∀ (z : Bool) (af : AF), z = gd f g (.ofNat i) (j + 1) → Less 0 (sth (S6 nn m s i z j) 254 (rootQ y m f g)) af →
        Runs Tryd.prog 0 (tl (tl (tl (within lpA6)))) af (andThen (fun a => Runs Tryd.prog 0 lpA6 a fun x af => x = .exit 6 ∧ Less 0 (sth (S6 nn m s i (gd f g (.ofNat i) m) m) 254 (rootQ y m f g)) af) fun x af => x = .exit 6 ∧ Less 0 (sth (S6 nn m s i (gd f g (.ofNat i) m) m) 254 (rootQ y m f g)) af) := by
      intro z af hz less
      subst hz
      refine Runs.less less (Runs.rg mixed hk38 [] (by kernel_rfl) (by kernel_rfl) (by kernel_rfl) oblN ?_)
      show Runs Tryd.prog 0 lpA6 _ _
      have ew : S6 nn m s i (gd f g (.ofNat i) (j + 1)) (j + 1) = [(7, i64 (nn + 1)), (8, rowV2 m), (12, .int .i64 s.1), (13, .int .i64 s.2), (83, i64 (nn + 2)), (84, i64 i), (14, i64 i), (15, .bool (gd f g (.ofNat i) (j + 1))), (87, rowV2 m), (88, i64 m), (89, .int .i64 (wrapF .i64 (Int.add (.ofNat j) (.ofNat 1))))] := by
        rw [wrap_succ (by omega : j < 4611686018427387904)]; rfl
      refine Runs.less (af1 := sth (S6 nn m s i (gd f g (.ofNat i) (j + 1)) (j + 1)) 254 (rootQ y m f g)) ?_ (ih (j + 1) (by omega))
      rw [ew]
      exact less_seenP (clo_all (by kernel_rfl)) rootQ_clo (Nat.zero_le 2) (by kernel_rfl) (by kernel_rfl) (by kernel_rfl) (by kernel_rfl)
    have hstep : gd f g (.ofNat i) (j + 1) = (gd f g (.ofNat i) j && (g j == ltF (.ofNat i) (f j))) := rfl
    cases hz : gd f g (.ofNat i) j with
    | true =>
      refine Runs.sqR mixed hk38 [viaV 0 (.pointer (some ⟨1, 0 + j * 2, none⟩)), viaV 1 (agV (f j) (g j))] (by kernel_rfl) (by kernel_rfl) (by kernel_rfl)
        (oblC (shown_idx (n := m) (by kernel_rfl) hlt) (oblC (shown_agg (sz := 2) (l := [.int .i64 (f j), .bool (g j)]) (by kernel_rfl) (row_own (n := m) (by kernel_rfl) hlt)) oblN)) ?_
      refine Runs.rg mixed hk38 [] (by kernel_rfl) (by kernel_rfl) (by kernel_rfl) oblN ?_
      show Runs Tryd.prog 0 (tl (tl (tl (within lpA6)))) _ _
      exact next (g j == ltF (.ofNat i) (f j)) _ (by rw [hstep, hz]; rfl) (less_seenP s6_clo rootQ_clo (Nat.zero_le 2) (by kernel_rfl) (by kernel_rfl) (by kernel_rfl) (by kernel_rfl))
    | false =>
      refine Runs.sqR mixed hk38 [viaV 0 (.pointer (some ⟨1, 0 + j * 2, none⟩)), viaV 1 (agV (f j) (g j))] (by kernel_rfl) (by kernel_rfl) (by kernel_rfl)
        (oblC (shown_idx (n := m) (by kernel_rfl) hlt) (oblC (shown_agg (sz := 2) (l := [.int .i64 (f j), .bool (g j)]) (by kernel_rfl) (row_own (n := m) (by kernel_rfl) hlt)) oblN)) ?_
      refine Runs.rg mixed hk38 [] (by kernel_rfl) (by kernel_rfl) (by kernel_rfl) oblN ?_
      show Runs Tryd.prog 0 (tl (tl (tl (within lpA6)))) _ _
      exact next false _ (by rw [hstep, hz]; rfl) (less_seenP s6_clo rootQ_clo (Nat.zero_le 2) (by kernel_rfl) (by kernel_rfl) (by kernel_rfl) (by kernel_rfl))

theorem hard_loop (nn m : Nat) (hnn : nn < 12) (y : Nat → Nat) (f : Nat → Int) (g : Nat → Bool) (hm : m < 1000000) : ∀ d i, i + d = nn + 2 →
    Runs Tryd.prog 0 lpA4 (sth (S4 nn m (refS m f g i) i) 254 (rootQ y m f g)) fun x af => x = .exit 4 ∧ Less 0 (sth (S7 nn m (refS m f g (nn + 2))) 254 (rootQ y m f g)) af := by
  intro d
  induction d with
  | zero =>
    intro i hi
    have him : i = nn + 2 := by omega
    subst him
    refine Runs.lp (by kernel_rfl) (Runs.sqR mixed hk38 [] (by kernel_rfl) (by kernel_rfl) (by kernel_rfl) oblN (Runs.sq (by kernel_rfl) ?_))
    refine Runs.cd (b := ltF (.ofNat (nn + 2)) (.ofNat (nn + 2))) (by kernel_rfl) (fun ht => by rw [lt_self] at ht; cases ht) (fun _ => Runs.now (x := .exit 4) (by kernel_rfl) ⟨rfl, ?_⟩)
    exact less_seenP s7_clo rootQ_clo (Nat.zero_le 2) (by kernel_rfl) (by kernel_rfl) (by kernel_rfl) (by kernel_rfl)
  | succ d ih =>
    intro i hi
    have hlt : i < nn + 2 := by omega
    refine Runs.lp (by kernel_rfl) (Runs.sqR mixed hk38 [] (by kernel_rfl) (by kernel_rfl) (by kernel_rfl) oblN (Runs.sq (by kernel_rfl) ?_))
    refine Runs.cd (b := ltF (.ofNat i) (.ofNat (nn + 2))) (by kernel_rfl) (fun _ => Runs.now (x := .normal) (by kernel_rfl) ?_) (fun hf => by rw [lt_of hlt] at hf; cases hf)
    have next : ∀ (s : Int × Int) (af : AF), s = refS m f g (i + 1) → Less 0 (sth (S4 nn m s i) 254 (rootQ y m f g)) af →
        Runs Tryd.prog 0 (tl (tl (tl (within lpA4)))) af (andThen (fun a => Runs Tryd.prog 0 lpA4 a fun x af => x = .exit 4 ∧ Less 0 (sth (S7 nn m (refS m f g (nn + 2))) 254 (rootQ y m f g)) af) fun x af => x = .exit 4 ∧ Less 0 (sth (S7 nn m (refS m f g (nn + 2))) 254 (rootQ y m f g)) af) := by
      intro s af hs less
      subst hs
      refine Runs.less less (Runs.rg mixed hk38 [] (by kernel_rfl) (by kernel_rfl) (by kernel_rfl) oblN ?_)
      show Runs Tryd.prog 0 lpA4 _ _
      have ew : S4 nn m (refS m f g (i + 1)) (i + 1) = [(7, i64 (nn + 1)), (8, rowV2 m), (12, .int .i64 (refS m f g (i + 1)).1), (13, .int .i64 (refS m f g (i + 1)).2), (83, i64 (nn + 2)), (84, .int .i64 (wrapF .i64 (Int.add (.ofNat i) (.ofNat 1))))] := by
        rw [wrap_succ (by omega : i < 4611686018427387904)]; rfl
      refine Runs.less (af1 := sth (S4 nn m (refS m f g (i + 1)) (i + 1)) 254 (rootQ y m f g)) ?_ (ih (i + 1) (by omega))
      rw [ew]
      exact less_seenP (clo_all (by kernel_rfl)) rootQ_clo (Nat.zero_le 2) (by kernel_rfl) (by kernel_rfl) (by kernel_rfl) (by kernel_rfl)
    show Runs Tryd.prog 0 _ _ _
    refine Runs.sq (by kernel_rfl) (Runs.bk (id := 5) (by kernel_rfl) ?_)
    refine Runs.sqR mixed hk38 [] (by kernel_rfl) (by kernel_rfl) (by kernel_rfl) oblN ?_
    refine Runs.sqR mixed hk38 [] (by kernel_rfl) (by kernel_rfl) (by kernel_rfl) oblN ?_
    refine Runs.sq (by kernel_rfl) (Runs.sqR mixed hk38 [] (by kernel_rfl) (by kernel_rfl) (by kernel_rfl) oblN (Runs.bk (id := 6) (by kernel_rfl) ?_))
    refine Runs.less (af1 := sth (S6 nn m (refS m f g i) i (gd f g (.ofNat i) 0) 0) 254 (rootQ y m f g)) (less_seenP s6_clo rootQ_clo (Nat.zero_le 2) (by kernel_rfl) (by kernel_rfl) (by kernel_rfl) (by kernel_rfl)) ?_
    refine (good_loop nn m (refS m f g i) i y f g hm m 0 (by omega)).mono fun x af hx => ?_
    obtain ⟨rfl, less⟩ := hx
    show Runs Tryd.prog 0 _ af _
    rw [gd_agr] at less
    refine Runs.less less (Runs.sqR mixed hk38 [] (by kernel_rfl) (by kernel_rfl) (by kernel_rfl) oblN ?_)
    refine Runs.cd (b := agrV m f g (.ofNat i)) (by kernel_rfl) (fun hb => ?_) (fun hb => Runs.now (x := .normal) (by kernel_rfl) ?_)
    · refine Runs.sqR mixed hk38 [] (by kernel_rfl) (by kernel_rfl) (by kernel_rfl) oblN ?_
      refine Runs.sqR mixed hk38 [] (by kernel_rfl) (by kernel_rfl) (by kernel_rfl) oblN ?_
      refine Runs.cd (b := ltF (refS m f g i).1 0) (by kernel_rfl) (fun hc => ?_) (fun hc => Runs.now (x := .normal) (by kernel_rfl) ?_)
      · refine Runs.rg mixed hk38 [] (by kernel_rfl) (by kernel_rfl) (by kernel_rfl) oblN ?_
        refine next (.ofNat i, .ofNat i) _ (by rw [refS_step, if_pos hb, if_pos hc]) (less_seenP s4_clo rootQ_clo (Nat.zero_le 2) (by kernel_rfl) (by kernel_rfl) (by kernel_rfl) (by kernel_rfl))
      · refine next ((refS m f g i).1, .ofNat i) _ (by rw [refS_step, if_pos hb, if_neg (by rw [hc]; exact Bool.false_ne_true)]) (less_seenP s4_clo rootQ_clo (Nat.zero_le 2) (by kernel_rfl) (by kernel_rfl) (by kernel_rfl) (by kernel_rfl))
    · refine next (refS m f g i) _ (by rw [refS_step, if_neg (by rw [hb]; exact Bool.false_ne_true)]) (less_seenP s4_clo rootQ_clo (Nat.zero_le 2) (by kernel_rfl) (by kernel_rfl) (by kernel_rfl) (by kernel_rfl))

/-- Behind the hardnesses. -/
theorem ask_hard (nn m : Nat) (hnn : nn < 12) (y : Nat → Nat) (f : Nat → Int) (g : Nat → Bool) (hm : m < 1000000) {Q : AExit → AF → Prop}
    (h : Runs Tryd.prog 0 (behind 7 c9) (sth (S7 nn m (refS m f g (nn + 2))) 254 (rootQ y m f g)) Q) : Runs Tryd.prog 0 (behind 5 c9) (sth (S3 nn m) 254 (rootQ y m f g)) Q := by
  refine Runs.sqR mixed hk38 [] (by kernel_rfl) (by kernel_rfl) (by kernel_rfl) oblN ?_
  refine Runs.sq (by kernel_rfl) (Runs.sqR mixed hk38 [viaV 1 (i64 (nn + 2))] (by kernel_rfl) (by kernel_rfl) (by kernel_rfl)
    (oblC (shown_eq (v := .int .i64 (wrapF .i64 (Int.add (.ofNat (nn + 1)) (.ofNat 1)))) (by kernel_rfl) (by kernel_rfl) (by rw [f_add (by omega)]; rfl)) oblN) (Runs.bk (id := 4) (by kernel_rfl) ?_))
  refine Runs.less (af1 := sth (S4 nn m (refS m f g 0) 0) 254 (rootQ y m f g)) (less_seenP s4_clo rootQ_clo (Nat.zero_le 2) (by kernel_rfl) (by kernel_rfl) (by kernel_rfl) (by kernel_rfl)) ?_
  refine (hard_loop nn m hnn y f g hm (nn + 2) 0 (by omega)).mono fun x af hx => ?_
  obtain ⟨rfl, less⟩ := hx
  show Runs Tryd.prog 0 (behind 7 c9) af _
  exact Runs.less less h
end
end Go.Proofs.YtgnkjmgkfibipaaDoor

