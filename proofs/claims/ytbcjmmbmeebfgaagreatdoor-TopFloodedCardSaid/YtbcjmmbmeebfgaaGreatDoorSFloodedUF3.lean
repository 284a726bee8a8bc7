/- Trap: whether a group has leaves, and IndexFunc over the groups, as contracts. -/
import Derived.Test.YtbcjmmbmeebfgaaGreatDoorSFloodedUF2
namespace Go.Proofs.YtbcjmmbmeebfgaaGreatDoor
set_option linter.unusedVariables false
set_option linter.unusedSimpArgs false
open Go Go.R
set_option maxRecDepth 1000000
noncomputable section
noncomputable def pT (l : List (Nat × Nat)) (v : Nat) : Bool := !(eqF (.ofNat (lvN v l l.length)) (.ofNat 0))
noncomputable def clo30 : Value := .func (.func 30) #[] #[ptrV 1]
noncomputable def rowU (N : Nat) (g : Nat → Nat) : AObj := .cells (valsZ N fun i => u64 (g i)) true [] (some 70)
noncomputable def OT (n m cap : Nat) (l : List (Nat × Nat)) (N : Nat) (g : Nat → Nat) : List AObj := [viewD l, dhO n m cap, rowU N g]
theorem rowU_clo {k N : Nat} {g : Nat → Nat} : CloO k (rowU N g) := cloO_vals (fun _ _ => rfl) _ _
theorem ot_clo {n m cap N : Nat} {l : List (Nat × Nat)} {g : Nat → Nat} : ∀ o ∈ OT n m cap l N g, CloO 3 o := fun o ho => by
  simp only [OT, List.mem_cons, List.mem_nil_iff, or_false] at ho
  rcases ho with rfl | rfl | rfl
  · exact cloO_plain pipesC_plain _ _
  · exact dhO_clo (by decide)
  · exact rowU_clo
noncomputable def c30 : Code := bodyOf Tryz.f30
theorem has_says {n m cap N v : Nat} {l : List (Nat × Nat)} {g : Nat → Nat} (F : FitP n l) (hl : l.length = m) (hc : m ≤ cap) (hv : v < 18446744073709551616) : Says Tryz.prog (hp (OT n m cap l N g)) 30 [u64 v, ptrV 1] (.bool (pT l v)) (hp (OT n m cap l N g)) := by
  have hlen := F.len
  refine says_of (os := OT n m cap l N g) ?_ (fun x hx => ?_) ot_clo (clo_plain rfl)
  · show Local Tryz.prog 3 30 _ _ _
    refine local_of noNum Tryz.func30 (show Tryz.f30.body = some c30 by kernel_rfl) ?_
    refine Runs.sqR mixed hkU [] (by kernel_rfl) (by kernel_rfl) (by kernel_rfl) oblN ?_
    refine Runs.sqR mixed hkU [viaC 2 31 [dhV n (smallS 0 m cap), u64 v] (u64 (lvN v l l.length))] (by kernel_rfl) (by kernel_rfl) (by kernel_rfl) (oblC (shown_call (by kernel_rfl) (leaves_says hv (by omega) F.big (sees_d hl hc (by kernel_rfl)))) oblN) ?_
    exact Runs.now (x := .ret) (by kernel_rfl) ⟨.inr rfl, [.bool (pT l v)], by kernel_rfl, rfl, keepOf (by kernel_rfl)⟩
  · simp only [List.mem_cons, List.mem_nil_iff, or_false] at hx
    rcases hx with rfl | rfl
    · exact clo_plain rfl
    · exact clo_of 10 _ _ (by kernel_rfl)
noncomputable def c53 : Code := bodyOf Tryz.f53
noncomputable def lp53 : Code := within (tl (hd (behind 1 c53)))
noncomputable def S53 (N i : Nat) : List (Nat × Value) := [(0, slR 2 N), (1, clo30), (7, i64 N), (8, i64 i)]
theorem row_at2 {h : AH} {q N i : Nat} {g : Nat → Nat} (hg : h.get q = rowU N g) (hi : i < N) : rowAt? h q (0 + i * 1) 1 = some [u64 (g i)] := valsZ_at (q := q) (n := N) (g := fun i => u64 (g i)) (lv := true) (par := []) (ty := some 70) hg hi
theorem idx53_loop {n m cap N : Nat} {l : List (Nat × Nat)} {g : Nat → Nat} (F : FitP n l) (hl : l.length = m) (hc : m ≤ cap) (hN : N < 1000) (hg : ∀ i, i < N → g i < 18446744073709551616) : ∀ d i, i + d = N →
    Runs Tryz.prog 3 lp53 (sth (S53 N i) 19 (OT n m cap l N g)) fun e af => (e = .exit 0 ∧ firstP (fun j => pT l (g j)) N d i = N ∧ Less 3 (sth [] 19 (OT n m cap l N g)) af) ∨
      (e = .ret ∧ firstP (fun j => pT l (g j)) N d i < N ∧ EndsAs Tryz.prog Tryz.f53 (Holds (OT n m cap l N g) (i64 (firstP (fun j => pT l (g j)) N d i))) .ret af) := by
  intro d
  induction d with
  | zero =>
    intro i hi
    have e : i = N := by omega
    subst e
    refine Runs.lp (by kernel_rfl) (Runs.sqR mixed hkU [] (by kernel_rfl) (by kernel_rfl) (by kernel_rfl) oblN (Runs.sq (by kernel_rfl) ?_))
    refine Runs.cd (b := ltF (.ofNat i) (.ofNat i)) (by kernel_rfl) (fun ht => by rw [lt_self] at ht; cases ht) (fun _ => Runs.now (x := .exit 0) (by kernel_rfl) (.inl ⟨rfl, rfl, ?_⟩))
    exact less_seenP (clo_all (k := 3) (by kernel_rfl)) ot_clo (Nat.le_refl 3) (by kernel_rfl) (by kernel_rfl) (by kernel_rfl) (by kernel_rfl)
  | succ d ih =>
    intro i hi
    have hlt : i < N := by omega
    have hC := has_says (N := N) (g := g) F hl hc (hg i hlt)
    have hv : pT l (g i) = (fun j => pT l (g j)) i := rfl
    rw [hv] at hC
    generalize (fun j => pT l (g j)) = p at hC ih ⊢
    refine Runs.lp (by kernel_rfl) (Runs.sqR mixed hkU [] (by kernel_rfl) (by kernel_rfl) (by kernel_rfl) oblN (Runs.sq (by kernel_rfl) ?_))
    refine Runs.cd (b := ltF (.ofNat i) (.ofNat N)) (by kernel_rfl) (fun _ => Runs.now (x := .normal) (by kernel_rfl) ?_) (fun hf => by rw [lt_of hlt] at hf; cases hf)
    show Runs Tryz.prog 3 _ _ _
    refine Runs.sq (by kernel_rfl) (Runs.bk (id := 1) (by kernel_rfl) ?_)
    refine Runs.sqR mixed hkU [] (by kernel_rfl) (by kernel_rfl) (by kernel_rfl) oblN ?_
    refine Runs.sqR mixed hkU [viaV 3 (.pointer (some ⟨2, 0 + i * 1, none⟩)), viaV 4 (u64 (g i)), viaC 5 30 [u64 (g i), ptrV 1] (.bool (p i))] (by kernel_rfl) (by kernel_rfl) (by kernel_rfl)
      (oblC (shown_idx (n := N) (by kernel_rfl) hlt) (oblC (shown_cell (by kernel_rfl) (row_at2 (q := 2) (by kernel_rfl) hlt))
      (oblC (shown_callE (h0 := hp (OT n m cap l N g)) (by kernel_rfl) (by kernel_rfl) hC) oblN))) ?_
    refine Runs.cd (b := p i) (by kernel_rfl) (fun ht => ?_) (fun hf => Runs.now (x := .normal) (by kernel_rfl) ?_)
    · have e : firstP p N (d + 1) i = i := by unfold firstP; rw [ht]; rfl
      rw [e]
      exact Runs.sqR mixed hkU [] (by kernel_rfl) (by kernel_rfl) (by kernel_rfl) oblN (Runs.now (x := .ret) (by kernel_rfl) (.inr ⟨rfl, hlt, .inr rfl, [i64 i], by kernel_rfl, rfl, keepOf (by kernel_rfl)⟩))
    · have e : firstP p N (d + 1) i = firstP p N d (i + 1) := by rw [firstP, hf]; rfl
      rw [e]
      show Runs Tryz.prog 3 _ _ _
      refine Runs.rg mixed hkU [viaV 0 (i64 (i + 1))] (by kernel_rfl) (by kernel_rfl) (by kernel_rfl) (oblC (shown_eq (v := .int .i64 (wrapF .i64 (Int.add (.ofNat i) (.ofNat 1)))) (by kernel_rfl) (by kernel_rfl) (by rw [wrap_succ (by omega)]; rfl)) oblN) ?_
      show Runs Tryz.prog 3 lp53 _ _
      exact Runs.less (af1 := sth (S53 N (i + 1)) 19 (OT n m cap l N g)) (less_seenP (clo_all (k := 3) (by kernel_rfl)) ot_clo (Nat.le_refl 3) (by kernel_rfl) (by kernel_rfl) (by kernel_rfl) (by kernel_rfl)) (ih (i + 1) (by omega))
theorem arg53_clo {N : Nat} : ∀ x ∈ [slR 2 N, clo30], Clo 3 x := fun x hx => by
  simp only [List.mem_cons, List.mem_nil_iff, or_false] at hx
  rcases hx with rfl | rfl <;> exact clo_of 10 _ _ (by kernel_rfl)
theorem idx53_says {n m cap N : Nat} {l : List (Nat × Nat)} {g : Nat → Nat} (F : FitP n l) (hl : l.length = m) (hc : m ≤ cap) (hN : N < 1000) (hg : ∀ i, i < N → g i < 18446744073709551616) :
    Says Tryz.prog (hp (OT n m cap l N g)) 53 [slR 2 N, clo30] (idxV (fun j => pT l (g j)) N) (hp (OT n m cap l N g)) := by
  refine says_of (os := OT n m cap l N g) ?_ arg53_clo ot_clo (clo_plain (by unfold idxV; split <;> rfl))
  show Local Tryz.prog 3 53 _ _ _
  refine local_of noNum Tryz.func53 (show Tryz.f53.body = some c53 by kernel_rfl) ?_
  refine Runs.sqR mixed hkU [] (by kernel_rfl) (by kernel_rfl) (by kernel_rfl) oblN ?_
  refine Runs.sq (by kernel_rfl) (Runs.sqR mixed hkU [] (by kernel_rfl) (by kernel_rfl) (by kernel_rfl) oblN (Runs.bk (id := 0) (by kernel_rfl) ?_))
  show Runs Tryz.prog 3 lp53 _ _
  refine Runs.less (af1 := sth (S53 N 0) 19 (OT n m cap l N g)) (less_seenP (clo_all (k := 3) (by kernel_rfl)) ot_clo (Nat.le_refl 3) (by kernel_rfl) (by kernel_rfl) (by kernel_rfl) (by kernel_rfl)) ?_
  refine (idx53_loop (cap := cap) F hl hc hN hg N 0 (by omega)).mono fun e af hx => ?_
  unfold idxV
  rcases hx with ⟨rfl, he, less⟩ | ⟨rfl, hlt, he⟩
  · rw [if_neg (by omega)]
    show Runs Tryz.prog 3 _ af _
    exact Runs.less less (Runs.sqR mixed hkU [] (by kernel_rfl) (by kernel_rfl) (by kernel_rfl) oblN (Runs.now (x := .ret) (by kernel_rfl) ⟨.inr rfl, [iZ (.negSucc 0)], by kernel_rfl, rfl, keepOf (by kernel_rfl)⟩))
  · rw [if_pos hlt]
    exact he

/-! ### A place of a row is set -/
noncomputable def updN (g : Nat → Nat) (i v : Nat) : Nat → Nat := fun j => if j = i then v else g j
theorem valsZ_set {N i v : Nat} {g : Nat → Nat} (hi : i < N) : splice (valsZ N fun i => u64 (g i)) (0 + i * 1) [u64 v] = valsZ N fun j => u64 (updN g i v j) := by
  have hlen : (valsZ N fun i => u64 (g i)).length = N := valsZ_len _ _
  unfold splice
  rw [Nat.zero_add, Nat.mul_one]
  apply List.ext_getElem?
  intro j
  rcases Nat.lt_trichotomy j i with h | h | h
  · rw [List.getElem?_append_left (by rw [List.length_append, List.length_take]; simp; omega), List.getElem?_append_left (by rw [List.length_take]; omega), List.getElem?_take_of_lt h, valsZ_get _ _ (by omega), valsZ_get _ _ (by omega)]
    unfold updN; rw [if_neg (by omega)]
  · subst h
    rw [List.getElem?_append_left (by rw [List.length_append, List.length_take]; simp; omega), List.getElem?_append_right (by rw [List.length_take]; omega), List.length_take, valsZ_get _ _ hi]
    rw [show j - min j (valsZ N fun i => u64 (g i)).length = 0 by omega]
    unfold updN; rw [if_pos rfl]; rfl
  · rcases Nat.lt_or_ge j N with hj | hj
    · rw [List.getElem?_append_right (by rw [List.length_append, List.length_take]; simp; omega), List.length_append, List.length_take, List.getElem?_drop, valsZ_get _ _ hj]
      have e : i + [u64 v].length + (j - (min i (valsZ N fun i => u64 (g i)).length + [u64 v].length)) = j := by rw [hlen]; simp; omega
      rw [e, valsZ_get _ _ hj]
      unfold updN; rw [if_neg (by omega)]
    · rw [List.getElem?_eq_none (by rw [List.length_append, List.length_append, List.length_take, List.length_drop]; simp; omega), List.getElem?_eq_none (by rw [valsZ_len]; omega)]
theorem store_U {h : AH} {q N i v : Nat} {g : Nat → Nat} (hg : h.get q = rowU N g) (hi : i < N) : storeA Tryz.prog 70 q (0 + i * 1) (u64 v) h = some (h.put q (rowU N (updN g i v))) := by
  obtain ⟨info, e2, e3⟩ : ∃ info, Tryz.prog.info? 70 = some info ∧ info.size = 1 := ⟨(Tryz.prog.info? 70).get!, by kernel_rfl, by kernel_rfl⟩
  have e4 : (decide ((u64 v).cells.size = info.size) && (u64 v).cells.toList.all cellV) = true := by rw [e3]; rfl
  unfold storeA
  simp only [e2]
  rw [if_pos e4]
  show putRow? h q (0 + i * 1) [u64 v] = _
  unfold putRow?
  rw [hg]
  show (if 0 + i * 1 + 1 ≤ (valsZ N fun i => u64 (g i)).length then some ((h.kill []).put q (.cells (splice (valsZ N fun i => u64 (g i)) (0 + i * 1) [u64 v]) true [] (some 70))) else none) = _
  rw [if_pos (by rw [valsZ_len]; omega), valsZ_set hi]
  rfl
end
end Go.Proofs.YtbcjmmbmeebfgaaGreatDoor

/- Trap: DeleteFunc over the groups, as a contract. -/
namespace Go.Proofs.YtbcjmmbmeebfgaaGreatDoor
set_option linter.unusedVariables false
set_option linter.unusedSimpArgs false
open Go Go.R
set_option maxRecDepth 1000000
noncomputable section
noncomputable def c28 : Code := bodyOf Tryz.f28
noncomputable def lp28 : Code := within (tl (hd (behind 3 c28)))
noncomputable def delS (l : List (Nat × Nat)) (s : (Nat → Nat) × Nat) (j : Nat) : (Nat → Nat) × Nat := if pT l (s.1 j) then s else (updN s.1 s.2 (s.1 j), s.2 + 1)
noncomputable def delR (l : List (Nat × Nat)) : Nat → Nat → (Nat → Nat) × Nat → (Nat → Nat) × Nat
  | 0, _, s => s
  | d + 1, j, s => delR l d (j + 1) (delS l s j)
theorem delR_le (l : List (Nat × Nat)) : ∀ d j s, s.2 < j → (delR l d j s).2 < j + d
  | 0, j, s, h => h
  | d + 1, j, s, h => by
    have : (delS l s j).2 < j + 1 := by
      unfold delS
      split
      · omega
      · show s.2 + 1 < j + 1; omega
    have := delR_le l d (j + 1) (delS l s j) this
    show (delR l d (j + 1) (delS l s j)).2 < j + (d + 1)
    omega
noncomputable def S28 (N i j : Nat) : List (Nat × Value) := [(0, slR 2 N), (1, clo30), (5, i64 i), (6, i64 j)]
noncomputable def Small (N : Nat) (g : Nat → Nat) : Prop := ∀ i, i < N → g i < 18446744073709551616
theorem small_upd {N i v : Nat} {g : Nat → Nat} (h : Small N g) (hv : v < 18446744073709551616) : Small N (updN g i v) := fun j hj => by
  unfold updN
  split
  · exact hv
  · exact h j hj
theorem del_loop {n m cap N : Nat} {l : List (Nat × Nat)} (F : FitP n l) (hl : l.length = m) (hc : m ≤ cap) (hN : N < 1000) : ∀ d j s, j + d = N → s.2 < j → Small N s.1 →
    Runs Tryz.prog 3 lp28 (sth (S28 N s.2 j) 42 (OT n m cap l N s.1)) fun e af => e = .exit 0 ∧ Less 3 (sth [(0, slR 2 N), (5, i64 (delR l d j s).2)] 42 (OT n m cap l N (delR l d j s).1)) af := by
  intro d
  induction d with
  | zero =>
    intro j s hj hi hg
    have e : j = N := by omega
    subst e
    refine Runs.lp (by kernel_rfl) (Runs.sq (by kernel_rfl) (Runs.sqR mixed hkU [] (by kernel_rfl) (by kernel_rfl) (by kernel_rfl) oblN ?_))
    refine Runs.cd (b := ltF (.ofNat j) (.ofNat j)) (by kernel_rfl) (fun ht => by rw [lt_self] at ht; cases ht) (fun _ => Runs.now (x := .exit 0) (by kernel_rfl) ⟨rfl, ?_⟩)
    exact less_seenP (clo_all (k := 3) (by kernel_rfl)) ot_clo (Nat.le_refl 3) (by kernel_rfl) (by kernel_rfl) (by kernel_rfl) (by kernel_rfl)
  | succ d ih =>
    intro j s hj hi hg
    obtain ⟨g, i⟩ := s
    have hi : i < j := hi
    have hg : Small N g := hg
    have hlt : j < N := by omega
    have hC := has_says (N := N) (g := g) F hl hc (hg j hlt)
    have e : delR l (d + 1) j (g, i) = delR l d (j + 1) (if pT l (g j) then (g, i) else (updN g i (g j), i + 1)) := rfl
    rw [e]
    refine Runs.lp (by kernel_rfl) (Runs.sq (by kernel_rfl) (Runs.sqR mixed hkU [] (by kernel_rfl) (by kernel_rfl) (by kernel_rfl) oblN ?_))
    refine Runs.cd (b := ltF (.ofNat j) (.ofNat N)) (by kernel_rfl) (fun _ => Runs.now (x := .normal) (by kernel_rfl) ?_) (fun hf => by rw [lt_of hlt] at hf; cases hf)
    show Runs Tryz.prog 3 _ _ _
    refine Runs.sq (by kernel_rfl) (Runs.bk (id := 1) (by kernel_rfl) ?_)
    refine Runs.sqR mixed hkU [viaV 2 (.pointer (some ⟨2, 0 + j * 1, none⟩)), viaV 3 (u64 (g j))] (by kernel_rfl) (by kernel_rfl) (by kernel_rfl)
      (oblC (shown_idx (n := N) (by kernel_rfl) hlt) (oblC (shown_cell (by kernel_rfl) (row_at2 (q := 2) (by kernel_rfl) hlt)) oblN)) ?_
    refine Runs.sqR mixed hkU [viaC 2 30 [u64 (g j), ptrV 1] (.bool (pT l (g j)))] (by kernel_rfl) (by kernel_rfl) (by kernel_rfl)
      (oblC (shown_callE (h0 := hp (OT n m cap l N g)) (by kernel_rfl) (by kernel_rfl) hC) oblN) ?_
    cases hpt : pT l (g j) with
    | true =>
      have hr := ih (j + 1) (g, i) (by omega) (by show i < j + 1; omega) hg
      refine Runs.cd (b := false) (by kernel_rfl) (fun h => by cases h) (fun _ => Runs.now (x := .normal) (by kernel_rfl) ?_)
      show Runs Tryz.prog 3 _ _ _
      refine Runs.rg mixed hkU [viaV 1 (i64 (j + 1))] (by kernel_rfl) (by kernel_rfl) (by kernel_rfl) (oblC (shown_eq (v := .int .i64 (wrapF .i64 (Int.add (.ofNat j) (.ofNat 1)))) (by kernel_rfl) (by kernel_rfl) (by rw [wrap_succ (by omega)]; rfl)) oblN) ?_
      show Runs Tryz.prog 3 lp28 _ _
      exact Runs.less (af1 := sth (S28 N i (j + 1)) 42 (OT n m cap l N g)) (less_seenP (clo_all (k := 3) (by kernel_rfl)) ot_clo (Nat.le_refl 3) (by kernel_rfl) (by kernel_rfl) (by kernel_rfl) (by kernel_rfl)) hr
    | false =>
      have hr := ih (j + 1) (updN g i (g j), i + 1) (by omega) (by show i + 1 < j + 1; omega) (small_upd hg (hg j hlt))
      have hi' : i < N := by omega
      have hst : ∀ h : AH, h.get 2 = rowU N g → (storeA Tryz.prog 70 2 (0 + i * 1) (u64 (g j)) h).map (undef, ·) = some (undef, h.put 2 (rowU N (updN g i (g j)))) := fun h e => by rw [store_U e hi']; rfl
      refine Runs.cd (b := true) (by kernel_rfl) (fun _ => ?_) (fun h => by cases h)
      refine Runs.sqR mixed hkU [viaV 3 (.pointer (some ⟨2, 0 + i * 1, none⟩)), ⟨4, undef, some ((hp (OT n m cap l N g)).put 2 (rowU N (updN g i (g j)))), none⟩] (by kernel_rfl) (by kernel_rfl) (by kernel_rfl)
        (oblC (shown_idx (n := N) (by kernel_rfl) hi') (oblC ⟨by kernel_rfl, (show _ = (storeA Tryz.prog 70 2 (0 + i * 1) (u64 (g j)) (hp (OT n m cap l N g))).map (undef, ·) by kernel_rfl).trans (hst _ (by kernel_rfl))⟩ oblN)) ?_
      refine Runs.rg mixed hkU [viaV 1 (i64 (i + 1))] (by kernel_rfl) (by kernel_rfl) (by kernel_rfl) (oblC (shown_eq (v := .int .i64 (wrapF .i64 (Int.add (.ofNat i) (.ofNat 1)))) (by kernel_rfl) (by kernel_rfl) (by rw [wrap_succ (by omega)]; rfl)) oblN) ?_
      show Runs Tryz.prog 3 _ _ _
      refine Runs.rg mixed hkU [viaV 1 (i64 (j + 1))] (by kernel_rfl) (by kernel_rfl) (by kernel_rfl) (oblC (shown_eq (v := .int .i64 (wrapF .i64 (Int.add (.ofNat j) (.ofNat 1)))) (by kernel_rfl) (by kernel_rfl) (by rw [wrap_succ (by omega)]; rfl)) oblN) ?_
      show Runs Tryz.prog 3 lp28 _ _
      exact Runs.less (af1 := sth (S28 N (i + 1) (j + 1)) 42 (OT n m cap l N (updN g i (g j)))) (less_seenP (clo_all (k := 3) (by kernel_rfl)) ot_clo (Nat.le_refl 3) (by kernel_rfl) (by kernel_rfl) (by kernel_rfl) (by kernel_rfl)) hr
end
end Go.Proofs.YtbcjmmbmeebfgaaGreatDoor

/- Trap: DeleteFunc over the groups, as a contract: its end. -/
namespace Go.Proofs.YtbcjmmbmeebfgaaGreatDoor
set_option linter.unusedVariables false
set_option linter.unusedSimpArgs false
open Go Go.R
set_option maxRecDepth 1000000
noncomputable section
theorem rep_u : ∀ n, repeatL [u64 0] n = valsZ n (fun _ => u64 0)
  | 0 => rfl
  | n + 1 => by
    show u64 0 :: repeatL [u64 0] n = _
    rw [rep_u n]
    unfold valsZ
    rw [List.map_const', List.map_const', List.length_range, List.length_range]
    rfl
noncomputable def cutN (i : Nat) (g : Nat → Nat) : Nat → Nat := fun q => if q < i then g q else 0
theorem splice_z {N i : Nat} {g : Nat → Nat} (hi : i < N) : splice (valsZ N fun i => u64 (g i)) (0 + i * 1) (repeatL [u64 0] (N - i)) = valsZ N fun j => u64 (cutN i g j) := by
  have hlen : (valsZ N fun i => u64 (g i)).length = N := valsZ_len _ _
  rw [rep_u]
  have hlz : (valsZ (N - i) fun _ => u64 0).length = N - i := valsZ_len _ _
  unfold splice
  rw [Nat.zero_add, Nat.mul_one]
  apply List.ext_getElem?
  intro j
  rcases Nat.lt_or_ge j i with h | h
  · rw [List.getElem?_append_left (by rw [List.length_append, List.length_take, hlz]; omega), List.getElem?_append_left (by rw [List.length_take]; omega), List.getElem?_take_of_lt h, valsZ_get _ _ (by omega), valsZ_get _ _ (by omega)]
    unfold cutN; rw [if_pos h]
  · rcases Nat.lt_or_ge j N with hj | hj
    · rw [List.getElem?_append_left (by rw [List.length_append, List.length_take, hlz]; omega), List.getElem?_append_right (by rw [List.length_take]; omega), List.length_take, valsZ_get _ _ (by omega), valsZ_get _ _ hj]
      unfold cutN; rw [if_neg (by omega)]
    · rw [List.getElem?_eq_none (by rw [List.length_append, List.length_append, List.length_take, List.length_drop, hlz]; omega), List.getElem?_eq_none (by rw [valsZ_len]; omega)]
noncomputable def slU (i N : Nat) : Value := .slice (some ⟨2, 0 + 0 * 1, some 1⟩) i N
noncomputable def slT (i N : Nat) : Value := .slice (some ⟨2, 0 + i * 1, some 1⟩) (N - i) (N - i)
theorem uint_info : ∃ info, Tryz.prog.info? 70 = some info ∧ info.size = 1 ∧ ∃ z, zeroOf info = some z ∧ z.cells.size = 1 ∧ z.cells.toList = [u64 0] := by
  refine ⟨(Tryz.prog.info? 70).get!, by kernel_rfl, by kernel_rfl, ⟨u64 0, by kernel_rfl, by kernel_rfl, by kernel_rfl⟩⟩
theorem bounds_lo {i N : Nat} (hi : i ≤ N) : boundsA N N (some (i64 i)) none none = some (i, N, N) := by
  unfold boundsA
  simp only [boundA]
  have q : (0 : Int) ≤ (Int.ofNat i) ∧ (Int.ofNat i) ≤ (N : Int) := ⟨Int.natCast_nonneg i, Int.ofNat_le.2 hi⟩
  show (match (if (0 : Int) ≤ Int.ofNat i ∧ Int.ofNat i ≤ (N : Int) then some (Int.ofNat i).toNat else none) with
    | none => none
    | some l => if N ≤ N then some (l, N, N) else none) = _
  rw [if_pos q]
  show (if N ≤ N then some (i, N, N) else none) = _
  rw [if_pos (Nat.le_refl N)]
theorem tail_U {i N : Nat} (hi : i < N) : sliceA Tryz.prog 73 (slR 2 N) (some (i64 i)) none none = some (slT i N) := by
  have e1 : Tryz.prog.underlying 73 = some (.slice 70) := by kernel_rfl
  obtain ⟨info, e2, e3, _⟩ := uint_info
  unfold slR sliceA
  simp only [e1, e2, e3, bounds_lo (Nat.le_of_lt hi)]
  rw [if_neg (by simp)]
  show (if i < N then some (Value.slice (some ⟨2, 0 + i * 1, some 1⟩) (N - i) (N - i)) else _) = _
  rw [if_pos hi]
  rfl
theorem clear_U {h : AH} {i N : Nat} {g : Nat → Nat} (hg : h.get 2 = rowU N g) (hi : i < N) : clearA Tryz.prog 73 (slT i N) h = some (h.put 2 (rowU N (cutN i g))) := by
  have e1 : Tryz.prog.underlying 73 = some (.slice 70) := by kernel_rfl
  obtain ⟨info, e2, e3, z, e4, e5, e6⟩ := uint_info
  unfold slT clearA
  simp only [e1, e2, e4]
  rw [if_neg (by omega), if_neg (by rw [e5]; decide), e6]
  unfold putRow?
  rw [hg]
  have hlz : (repeatL [u64 0] (N - i)).length = N - i := by rw [rep_u]; exact valsZ_len _ _
  show (if 0 + i * 1 + (repeatL [u64 0] (N - i)).length ≤ (valsZ N fun i => u64 (g i)).length then some ((h.kill []).put 2 (.cells (splice (valsZ N fun i => u64 (g i)) (0 + i * 1) (repeatL [u64 0] (N - i))) true [] (some 70))) else none) = _
  rw [if_pos (by rw [valsZ_len, hlz]; omega), splice_z hi]
  rfl
theorem head_U {i N : Nat} (hi : i ≤ N) (h0 : 0 < N) : sliceA Tryz.prog 73 (slR 2 N) none (some (i64 i)) none = some (slU i N) := by
  have e1 : Tryz.prog.underlying 73 = some (.slice 70) := by kernel_rfl
  obtain ⟨info, e2, e3, _⟩ := uint_info
  have e4 : boundsA N N none (some (i64 i)) none = some (0, i, N) := by
    unfold boundsA
    simp only [boundA]
    have q : (0 : Int) ≤ (Int.ofNat i) ∧ (Int.ofNat i) ≤ (N : Int) := ⟨Int.natCast_nonneg i, Int.ofNat_le.2 hi⟩
    show (match (if (0 : Int) ≤ Int.ofNat i ∧ Int.ofNat i ≤ (N : Int) then some (Int.ofNat i).toNat else none) with
      | none => none
      | some h => if h ≤ N then some (0, h, N) else none) = _
    rw [if_pos q]
    show (if i ≤ N then some (0, i, N) else none) = _
    rw [if_pos hi]
  unfold slR sliceA
  simp only [e1, e2, e3, e4]
  rw [if_neg (by simp)]
  show (if 0 < N then some (Value.slice (some ⟨2, 0 + 0 * 1, some 1⟩) (i - 0) (N - 0)) else _) = _
  rw [if_pos h0]
  rfl
end
end Go.Proofs.YtbcjmmbmeebfgaaGreatDoor

/- Trap: DeleteFunc over the groups, as a contract: told. -/
namespace Go.Proofs.YtbcjmmbmeebfgaaGreatDoor
set_option linter.unusedVariables false
set_option linter.unusedSimpArgs false
open Go Go.R
set_option maxRecDepth 1000000
noncomputable section
theorem del_none {n m cap N : Nat} {l : List (Nat × Nat)} {g : Nat → Nat} (F : FitP n l) (hl : l.length = m) (hc : m ≤ cap) (hN : N < 1000) (hg : Small N g) (hno : firstP (fun j => pT l (g j)) N N 0 = N) :
    Says Tryz.prog (hp (OT n m cap l N g)) 28 [slR 2 N, clo30] (slR 2 N) (hp (OT n m cap l N g)) := by
  have hS := idx53_says (g := g) (cap := cap) F hl hc hN hg
  unfold idxV at hS
  rw [hno, if_neg (Nat.lt_irrefl N)] at hS
  refine says_of (os := OT n m cap l N g) ?_ arg53_clo ot_clo (slR_clo (by show 2 < 3; decide))
  show Local Tryz.prog 3 28 _ _ _
  refine local_of noNum Tryz.func28 (show Tryz.f28.body = some c28 by kernel_rfl) ?_
  refine Runs.sqR mixed hkU [] (by kernel_rfl) (by kernel_rfl) (by kernel_rfl) oblN ?_
  refine Runs.sqR mixed hkU [viaC 2 53 [slR 2 N, clo30] (iZ (.negSucc 0))] (by kernel_rfl) (by kernel_rfl) (by kernel_rfl) (oblC (shown_callE (h0 := hp (OT n m cap l N g)) (by kernel_rfl) (by kernel_rfl) hS) oblN) ?_
  refine Runs.sq (by kernel_rfl) (Runs.sqR mixed hkU [] (by kernel_rfl) (by kernel_rfl) (by kernel_rfl) oblN ?_)
  refine Runs.cd (b := true) (by kernel_rfl) (fun _ => ?_) (fun h => by cases h)
  exact Runs.sqR mixed hkU [] (by kernel_rfl) (by kernel_rfl) (by kernel_rfl) oblN (Runs.now (x := .ret) (by kernel_rfl) ⟨.inr rfl, [slR 2 N], by kernel_rfl, rfl, keepOf (by kernel_rfl)⟩)
theorem del_some {n m cap N i0 : Nat} {l : List (Nat × Nat)} {g : Nat → Nat} (F : FitP n l) (hl : l.length = m) (hc : m ≤ cap) (hN : N < 1000) (hg : Small N g) (h0 : firstP (fun j => pT l (g j)) N N 0 = i0) (hlt : i0 < N) :
    Says Tryz.prog (hp (OT n m cap l N g)) 28 [slR 2 N, clo30] (slU (delR l (N - (i0 + 1)) (i0 + 1) (g, i0)).2 N) (hp (OT n m cap l N (cutN (delR l (N - (i0 + 1)) (i0 + 1) (g, i0)).2 (delR l (N - (i0 + 1)) (i0 + 1) (g, i0)).1))) := by
  have hS := idx53_says (g := g) (cap := cap) F hl hc hN hg
  unfold idxV at hS
  rw [h0, if_pos hlt] at hS
  have hle := delR_le l (N - (i0 + 1)) (i0 + 1) (g, i0) (Nat.lt_succ_self i0)
  have hloop := del_loop (cap := cap) F hl hc hN (N - (i0 + 1)) (i0 + 1) (g, i0) (by omega) (Nat.lt_succ_self i0) hg
  generalize delR l (N - (i0 + 1)) (i0 + 1) (g, i0) = s at hle hloop ⊢
  obtain ⟨g1, i1⟩ := s
  have hi1 : i1 < N := by show i1 < N; have : i1 < i0 + 1 + (N - (i0 + 1)) := hle; omega
  show Says Tryz.prog (hp (OT n m cap l N g)) 28 [slR 2 N, clo30] (slU i1 N) (hp (OT n m cap l N (cutN i1 g1)))
  have ht := tail_U hi1
  have hh := head_U (Nat.le_of_lt hi1) (by omega : 0 < N)
  have hcl : ∀ h : AH, h.get 2 = rowU N g1 → (clearA Tryz.prog 73 (slT i1 N) h).map (Value.tuple #[], ·) = some (Value.tuple #[], h.put 2 (rowU N (cutN i1 g1))) := fun h e => by rw [clear_U e hi1]; rfl
  refine says_put (os0 := OT n m cap l N g) (os := OT n m cap l N (cutN i1 g1)) rfl ?_ arg53_clo ot_clo ot_clo (clo_of 10 _ _ (by kernel_rfl)) (fun j o o' a b => ?_)
  · show Local Tryz.prog 3 28 _ _ _
    refine local_of noNum Tryz.func28 (show Tryz.f28.body = some c28 by kernel_rfl) ?_
    refine Runs.sqR mixed hkU [] (by kernel_rfl) (by kernel_rfl) (by kernel_rfl) oblN ?_
    refine Runs.sqR mixed hkU [viaC 2 53 [slR 2 N, clo30] (i64 i0)] (by kernel_rfl) (by kernel_rfl) (by kernel_rfl) (oblC (shown_callE (h0 := hp (OT n m cap l N g)) (by kernel_rfl) (by kernel_rfl) hS) oblN) ?_
    refine Runs.sq (by kernel_rfl) (Runs.sqR mixed hkU [] (by kernel_rfl) (by kernel_rfl) (by kernel_rfl) oblN ?_)
    refine Runs.cd (b := false) (by kernel_rfl) (fun h => by cases h) (fun _ => Runs.now (x := .normal) (by kernel_rfl) ?_)
    show Runs Tryz.prog 3 _ _ _
    refine Runs.sq (by kernel_rfl) (Runs.sqR mixed hkU [viaV 1 (i64 (i0 + 1))] (by kernel_rfl) (by kernel_rfl) (by kernel_rfl) (oblC (shown_eq (v := .int .i64 (wrapF .i64 (Int.add (.ofNat i0) (.ofNat 1)))) (by kernel_rfl) (by kernel_rfl) (by rw [wrap_succ (by omega)]; rfl)) oblN) (Runs.bk (id := 0) (by kernel_rfl) ?_))
    show Runs Tryz.prog 3 lp28 _ _
    refine Runs.less (af1 := sth (S28 N i0 (i0 + 1)) 42 (OT n m cap l N g)) (less_seenP (clo_all (k := 3) (by kernel_rfl)) ot_clo (Nat.le_refl 3) (by kernel_rfl) (by kernel_rfl) (by kernel_rfl) (by kernel_rfl)) ?_
    refine hloop.mono fun e af hx => ?_
    obtain ⟨rfl, less⟩ := hx
    show Runs Tryz.prog 3 _ af _
    refine Runs.less (af1 := sth [(0, slR 2 N), (5, i64 i1)] 42 (OT n m cap l N g1)) less ?_
    refine Runs.sqR mixed hkU [viaV 2 (slT i1 N), ⟨3, .tuple #[], some ((hp (OT n m cap l N g1)).put 2 (rowU N (cutN i1 g1))), none⟩] (by kernel_rfl) (by kernel_rfl) (by kernel_rfl)
      (oblC ⟨by kernel_rfl, (show _ = (sliceA Tryz.prog 73 (slR 2 N) (some (i64 i1)) none none).map (·, _) by kernel_rfl).trans (by rw [ht]; rfl)⟩
      (oblC ⟨by kernel_rfl, (show _ = (clearA Tryz.prog 73 (slT i1 N) (hp (OT n m cap l N g1))).map (Value.tuple #[], ·) by kernel_rfl).trans (hcl _ (by kernel_rfl))⟩ oblN)) ?_
    refine Runs.sqR mixed hkU [viaV 2 (slU i1 N)] (by kernel_rfl) (by kernel_rfl) (by kernel_rfl)
      (oblC ⟨by kernel_rfl, (show _ = (sliceA Tryz.prog 73 (slR 2 N) none (some (i64 i1)) none).map (·, _) by kernel_rfl).trans (by rw [hh]; rfl)⟩ oblN) ?_
    exact Runs.now (x := .ret) (by kernel_rfl) ⟨.inr rfl, [slU i1 N], by kernel_rfl, rfl, keepOf (by kernel_rfl)⟩
  · match j, a, b with
    | 0, a, b | 1, a, b => cases a; cases b; exact .inl rfl
    | 2, a, b => cases a; exact .inr rfl
    | j + 3, a, b => cases a
end
end Go.Proofs.YtbcjmmbmeebfgaaGreatDoor
