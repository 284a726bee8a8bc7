/- drain.Check of pipes that are fit, as a contract. -/
import Derived.Test.YtbcjmmbmeebfgaaGreatDoorSFloodedUF0
namespace Go.Proofs.YtbcjmmbmeebfgaaGreatDoor
set_option linter.unusedVariables false
set_option linter.unusedSimpArgs false
open Go Go.R
set_option maxRecDepth 1000000
noncomputable section
noncomputable def keyV (p : Nat × Nat) : Value := .agg #[i64 p.1, i64 p.2]
noncomputable def mapEs (l : List (Nat × Nat)) : List (Value × Value) := l.map fun p => (keyV p, .bool true)
theorem key_all : ((List.range 8).all fun a => (List.range 8).all fun b => (List.range 8).all fun c => (List.range 8).all fun d => keyEq (keyV (a, b)) (keyV (c, d)) == some (Nat.beq a c && Nat.beq b d)) = true := by kernel_rfl
theorem key_ne {p q : Nat × Nat} (hp : p.1 < 8 ∧ p.2 < 8) (hq : q.1 < 8 ∧ q.2 < 8) (h : p ≠ q) : keyEq (keyV p) (keyV q) = some false := by
  have := eq_of_beq (List.all_eq_true.1 (List.all_eq_true.1 (List.all_eq_true.1 (List.all_eq_true.1 key_all p.1 (List.mem_range.2 hp.1)) p.2 (List.mem_range.2 hp.2)) q.1 (List.mem_range.2 hq.1)) q.2 (List.mem_range.2 hq.2))
  rw [this]
  cases h1 : Nat.beq p.1 q.1 with
  | false => rfl
  | true =>
    cases h2 : Nat.beq p.2 q.2 with
    | false => rfl
    | true => exact absurd (Prod.ext (Nat.eq_of_beq_eq_true h1) (Nat.eq_of_beq_eq_true h2)) h
theorem look_none {p : Nat × Nat} {l : List (Nat × Nat)} (hp : p.1 < 8 ∧ p.2 < 8) (hl : ∀ q ∈ l, q.1 < 8 ∧ q.2 < 8) (h : p ∉ l) : lookA (keyV p) (mapEs l) = some none := by
  induction l with
  | nil => rfl
  | cons q l ih =>
    show (match keyEq (keyV p) (keyV q) with | some true => _ | some false => lookA (keyV p) (mapEs l) | none => _) = _
    rw [key_ne hp (hl q List.mem_cons_self) (fun e => h (e ▸ List.mem_cons_self))]
    exact ih (fun q hq => hl q (List.mem_cons_of_mem _ hq)) (fun hq => h (List.mem_cons_of_mem _ hq))
theorem upd_add {p : Nat × Nat} {l : List (Nat × Nat)} (hp : p.1 < 8 ∧ p.2 < 8) (hl : ∀ q ∈ l, q.1 < 8 ∧ q.2 < 8) (h : p ∉ l) : updA (keyV p) (.bool true) (mapEs l) = some (mapEs (l ++ [p])) := by
  induction l with
  | nil => rfl
  | cons q l ih =>
    show (match keyEq (keyV p) (keyV q) with | some true => _ | some false => (updA (keyV p) (.bool true) (mapEs l)).map ((keyV q, Value.bool true) :: ·) | none => _) = _
    rw [key_ne hp (hl q List.mem_cons_self) (fun e => h (e ▸ List.mem_cons_self))]
    show (updA (keyV p) (.bool true) (mapEs l)).map _ = _
    rw [ih (fun q hq => hl q (List.mem_cons_of_mem _ hq)) (fun hq => h (List.mem_cons_of_mem _ hq))]
    rfl
theorem lookup_pair {h : AH} {r : Nat} {p : Nat × Nat} {l : List (Nat × Nat)} (hg : h.get r = .map (mapEs l)) (hp : p.1 < 8 ∧ p.2 < 8) (hl : ∀ q ∈ l, q.1 < 8 ∧ q.2 < 8) (hn : p ∉ l) : lookupA Tryz.prog 102 (.map (some r)) (keyV p) false h = some (.bool false) := by
  have e1 : Tryz.prog.underlying 102 = some (.map 103 4) := by kernel_rfl
  have e2 : keyOk Tryz.prog 103 (keyV p) = true := by kernel_rfl
  have e3 : zeroA Tryz.prog 4 = some (.bool false) := by kernel_rfl
  have e4 : entriesA h (.map (some r)) = some (mapEs l) := by unfold entriesA; simp only [hg]
  unfold lookupA
  simp only [e1, e2, e3, e4, look_none hp hl hn, Bool.not_true, Bool.false_eq_true, if_false]
theorem update_pair {h : AH} {r : Nat} {p : Nat × Nat} {l : List (Nat × Nat)} (hg : h.get r = .map (mapEs l)) (hp : p.1 < 8 ∧ p.2 < 8) (hl : ∀ q ∈ l, q.1 < 8 ∧ q.2 < 8) (hn : p ∉ l) : mapUpdateA Tryz.prog 102 (.map (some r)) (keyV p) (.bool true) h = some (h.put r (.map (mapEs (l ++ [p])))) := by
  have e1 : Tryz.prog.underlying 102 = some (.map 103 4) := by kernel_rfl
  have e2 : keyOk Tryz.prog 103 (keyV p) = true := by kernel_rfl
  unfold mapUpdateA
  simp only [e1, e2, hg, upd_add hp hl hn, Bool.not_true, Bool.false_eq_true, if_false, Option.map_some]
end
end Go.Proofs.YtbcjmmbmeebfgaaGreatDoor

/- drain.Check of pipes that are fit: the loop; Stuck. -/
namespace Go.Proofs.YtbcjmmbmeebfgaaGreatDoor
set_option linter.unusedVariables false
set_option linter.unusedSimpArgs false
open Go Go.R
set_option maxRecDepth 1000000
noncomputable section
structure FitP (n : Nat) (l : List (Nat × Nat)) : Prop where
  n1 : 1 ≤ n
  n6 : n ≤ 6
  len : l.length ≤ 14
  pipe : ∀ p ∈ l, p.1 < n ∧ p.2 ≤ n ∧ p.1 ≠ p.2
  nodup : l.Nodup
theorem FitP.eight {n : Nat} {l : List (Nat × Nat)} (F : FitP n l) : ∀ q ∈ l, q.1 < 8 ∧ q.2 < 8 := fun q hq => by
  have := F.pipe q hq
  have := F.n6
  omega
theorem FitP.big {n : Nat} {l : List (Nat × Nat)} (F : FitP n l) : ∀ q ∈ l, q.1 < 64 ∧ q.2 < 64 := fun q hq => by
  have := F.eight q hq
  omega
noncomputable def c25 : Code := bodyOf Tryz.f25
noncomputable def lp25 : Code := within (tl (hd (behind 3 c25)))
noncomputable def S25 (m cap i : Nat) : List (Nat × Value) := [(1, ptrV 1), (3, .map (some 2)), (23, smallS 0 m cap), (24, i64 m), (25, i64 i)]
noncomputable def O25 (n m cap : Nat) (l k : List (Nat × Nat)) : List AObj := [viewD l, dhO n m cap, .map (mapEs k)]
theorem o25_clo {n m cap : Nat} {l k : List (Nat × Nat)} : ∀ o ∈ O25 n m cap l k, CloO 3 o := fun o ho => by
  simp only [O25, List.mem_cons, List.mem_nil_iff, or_false] at ho
  rcases ho with rfl | rfl | rfl
  · exact cloO_plain pipesC_plain _ _
  · exact dhO_clo (by decide)
  · intro e he
    obtain ⟨p, _, rfl⟩ := List.mem_map.1 he
    exact clo_plain rfl
theorem check25_loop {n m cap : Nat} {l : List (Nat × Nat)} (F : FitP n l) (hl : l.length = m) : ∀ d i, i + d = m →
    Runs Tryz.prog 1 lp25 (sth (S25 m cap i) 77 (O25 n m cap l (l.take i))) fun e af => e = .exit 1 ∧ Less 1 (sth [] 77 [viewD l]) af := by
  have hlen := F.len
  have hn6 := F.n6
  intro d
  induction d with
  | zero =>
    intro i hi
    have e : i = m := by omega
    subst e
    refine Runs.lp (by kernel_rfl) (Runs.sqR mixed hkU [] (by kernel_rfl) (by kernel_rfl) (by kernel_rfl) oblN (Runs.sq (by kernel_rfl) ?_))
    refine Runs.cd (b := ltF (.ofNat i) (.ofNat i)) (by kernel_rfl) (fun ht => by rw [lt_self] at ht; cases ht) (fun _ => Runs.now (x := .exit 1) (by kernel_rfl) ⟨rfl, ?_⟩)
    exact less_seenP (clo_all (k := 1) (by kernel_rfl)) viewD1 (Nat.le_refl 1) (by kernel_rfl) (by kernel_rfl) (by kernel_rfl) (by kernel_rfl)
  | succ d ih =>
    intro i hi
    have hlt : i < m := by omega
    obtain ⟨p, hpi⟩ : ∃ p, l[i]? = some p := ⟨l[i], List.getElem?_eq_getElem (by omega)⟩
    have hmem := List.mem_of_getElem? hpi
    obtain ⟨h1, h2, h3⟩ := F.pipe p hmem
    have htake : l.take (i + 1) = l.take i ++ [p] := by rw [List.take_add_one, hpi]; rfl
    have hnot : p ∉ l.take i := fun hx => by
      have hnd : (l.take (i + 1)).Nodup := F.nodup.sublist (List.take_sublist _ _)
      rw [htake, List.nodup_append] at hnd
      exact hnd.2.2 p hx p (List.mem_singleton.2 rfl) rfl
    have hsub : ∀ q ∈ l.take i, q.1 < 8 ∧ q.2 < 8 := fun q hq => F.eight q (List.mem_of_mem_take hq)
    have hr := ih (i + 1) (by omega)
    rw [htake] at hr
    generalize l.take i = k at hnot hsub hr ⊢
    refine Runs.lp (by kernel_rfl) (Runs.sqR mixed hkU [] (by kernel_rfl) (by kernel_rfl) (by kernel_rfl) oblN (Runs.sq (by kernel_rfl) ?_))
    refine Runs.cd (b := ltF (.ofNat i) (.ofNat m)) (by kernel_rfl) (fun _ => Runs.now (x := .normal) (by kernel_rfl) ?_) (fun hf => by rw [lt_of hlt] at hf; cases hf)
    show Runs Tryz.prog 1 _ _ _
    refine Runs.sq (by kernel_rfl) (Runs.bk (id := 2) (by kernel_rfl) ?_)
    refine Runs.sqR mixed hkU [viaV 0 (.pointer (some ⟨0, 0 + i * 3, none⟩)), viaV 1 (piV p)] (by kernel_rfl) (by kernel_rfl) (by kernel_rfl)
      (oblC (shown_idx (n := m) (by kernel_rfl) hlt) (oblC (shown_agg (by kernel_rfl) (pipesC_at (q := 0) (l := l) (lv := false) (par := []) (ty := none) (by kernel_rfl) hpi)) oblN)) ?_
    refine Runs.sqR mixed hkU [] (by kernel_rfl) (by kernel_rfl) (by kernel_rfl) oblN ?_
    refine Runs.sq (by kernel_rfl) (Runs.bk (id := 3) (by kernel_rfl) ?_)
    refine Runs.sqR mixed hkU [viaV 4 (i64 (min p.1 p.2)), viaV 5 (.bool false), viaV 11 (.bool false), viaV 18 (.bool false)] (by kernel_rfl) (by kernel_rfl) (by kernel_rfl)
      (oblC ⟨by kernel_rfl, (show _ = (minMaxA false [i64 p.1, i64 p.2]).map (·, _) by kernel_rfl).trans (by rw [minA]; rfl)⟩
      (oblC (shown_eq (v := .bool (ltF (.ofNat (min p.1 p.2)) (.ofNat 0))) (by kernel_rfl) (by kernel_rfl) (by rw [ltN_zero]))
      (oblC (shown_eq (v := .bool (leF (.ofNat n) (.ofNat p.1))) (by kernel_rfl) (by kernel_rfl) (by rw [leN_false h1]))
      (oblC (shown_eq (v := .bool (ltF (.ofNat n) (.ofNat p.2))) (by kernel_rfl) (by kernel_rfl) (by rw [ltF_false (by show (p.2 : Int) ≤ (n : Int); omega)])) oblN)))) ?_
    refine Runs.cd (b := false) (by kernel_rfl) (fun h => by cases h) (fun _ => ?_)
    refine Runs.sqR mixed hkU [viaV 4 (.bool false)] (by kernel_rfl) (by kernel_rfl) (by kernel_rfl)
      (oblC (shown_eq (v := .bool (eqF (.ofNat p.1) (.ofNat p.2))) (by kernel_rfl) (by kernel_rfl) (by rw [eqF_false (by show ¬ ((p.1 : Int) = (p.2 : Int)); omega)])) oblN) ?_
    refine Runs.cd (b := false) (by kernel_rfl) (fun h => by cases h) (fun _ => ?_)
    refine Runs.sqR mixed hkU [] (by kernel_rfl) (by kernel_rfl) (by kernel_rfl) oblN ?_
    refine Runs.cd (b := false) (by kernel_rfl) (fun h => by cases h) (fun _ => ?_)
    have hL : ∀ h : AH, h.get 2 = .map (mapEs k) → (lookupA Tryz.prog 102 (.map (some 2)) (keyV p) false h).map (·, h) = some (.bool false, h) := fun h e => by rw [lookup_pair e (F.eight p hmem) hsub hnot]; rfl
    let H0 : AH := ((((hp (O25 n m cap l k)).new (.cells [i64 p.1, i64 p.2, i64 1] true [] (some 36))).2).new (.cells [i64 p.1, i64 p.2] true [] (some 103))).2
    refine Runs.sqR mixed hkU [viaV 2 (.bool false)] (by kernel_rfl) (by kernel_rfl) (by kernel_rfl)
      (oblC ⟨by kernel_rfl, (show _ = (lookupA Tryz.prog 102 (.map (some 2)) (keyV p) false _).map (·, _) by kernel_rfl).trans (hL _ (by kernel_rfl))⟩ oblN) ?_
    refine Runs.cd (b := false) (by kernel_rfl) (fun h => by cases h) (fun _ => Runs.now (x := .normal) (by kernel_rfl) ?_)
    show Runs Tryz.prog 1 _ _ _
    refine Runs.rg mixed hkU [⟨2, undef, some (H0.put 2 (.map (mapEs (k ++ [p])))), none⟩] (by kernel_rfl) (by kernel_rfl) (by kernel_rfl)
      (oblC ⟨by kernel_rfl, (show _ = (mapUpdateA Tryz.prog 102 (.map (some 2)) (keyV p) (.bool true) H0).map (undef, ·) by kernel_rfl).trans (by rw [update_pair (h := H0) (l := k) (by kernel_rfl) (F.eight p hmem) hsub hnot]; rfl)⟩ oblN) ?_
    show Runs Tryz.prog 1 _ _ _
    refine Runs.rg mixed hkU [viaV 0 (i64 (i + 1))] (by kernel_rfl) (by kernel_rfl) (by kernel_rfl) (oblC (shown_eq (v := .int .i64 (wrapF .i64 (Int.add (.ofNat i) (.ofNat 1)))) (by kernel_rfl) (by kernel_rfl) (by rw [wrap_succ (by omega)]; rfl)) oblN) ?_
    show Runs Tryz.prog 1 lp25 _ _
    exact Runs.less (af1 := sth (S25 m cap (i + 1)) 77 (O25 n m cap l (k ++ [p]))) (less_seenP (clo_all (k := 3) (by kernel_rfl)) o25_clo (show 1 ≤ 3 by decide) (by kernel_rfl) (by kernel_rfl) (by kernel_rfl) (by kernel_rfl)) hr
theorem check25_local {n m cap : Nat} {l : List (Nat × Nat)} (F : FitP n l) (hl : l.length = m) : Local Tryz.prog 1 25 [dhV n (smallS 0 m cap)] (hp [viewD l]) fun v' _ => v' = i64 0 := by
  have hlen := F.len
  have hn6 := F.n6
  have hn1 := F.n1
  refine local_of noNum Tryz.func25 (show Tryz.f25.body = some c25 by kernel_rfl) ?_
  refine Runs.sqR mixed hkU [] (by kernel_rfl) (by kernel_rfl) (by kernel_rfl) oblN ?_
  refine Runs.sq (by kernel_rfl) (Runs.bk (id := 0) (by kernel_rfl) ?_)
  refine Runs.sqR mixed hkU [viaV 2 (.bool false), viaV 6 (.bool false)] (by kernel_rfl) (by kernel_rfl) (by kernel_rfl)
    (oblC (shown_eq (v := .bool (ltF (.ofNat n) (.ofNat 1))) (by kernel_rfl) (by kernel_rfl) (by rw [ltF_false (by show (1 : Int) ≤ (n : Int); omega)]))
    (oblC (shown_eq (v := .bool (ltF (.ofNat 6) (.ofNat n))) (by kernel_rfl) (by kernel_rfl) (by rw [ltF_false (by show (n : Int) ≤ (6 : Int); omega)])) oblN)) ?_
  refine Runs.cd (b := false) (by kernel_rfl) (fun h => by cases h) (fun _ => ?_)
  refine Runs.sqR mixed hkU [] (by kernel_rfl) (by kernel_rfl) (by kernel_rfl) oblN ?_
  have h14 : ltF (.ofNat 14) (.ofNat m) = false := ltF_false (by show (m : Int) ≤ (14 : Int); omega)
  refine Runs.cd (b := ltF (.ofNat 14) (.ofNat m)) (by kernel_rfl) (fun h => by rw [h14] at h; cases h) (fun _ => Runs.now (x := .normal) (by kernel_rfl) ?_)
  show Runs Tryz.prog 1 _ _ _
  refine Runs.sqR mixed hkU [] (by kernel_rfl) (by kernel_rfl) (by kernel_rfl) oblN ?_
  refine Runs.sq (by kernel_rfl) (Runs.sqR mixed hkU [] (by kernel_rfl) (by kernel_rfl) (by kernel_rfl) oblN (Runs.bk (id := 1) (by kernel_rfl) ?_))
  show Runs Tryz.prog 1 lp25 _ _
  refine Runs.less (af1 := sth (S25 m cap 0) 77 (O25 n m cap l (l.take 0))) (less_seenP (clo_all (k := 3) (by kernel_rfl)) o25_clo (show 1 ≤ 3 by decide) (by kernel_rfl) (by kernel_rfl) (by kernel_rfl) (by kernel_rfl)) ?_
  refine (check25_loop (cap := cap) F hl m 0 (by omega)).mono fun e af hx => ?_
  obtain ⟨rfl, less⟩ := hx
  show Runs Tryz.prog 1 _ af _
  exact Runs.less less (Runs.sqR mixed hkU [] (by kernel_rfl) (by kernel_rfl) (by kernel_rfl) oblN (Runs.now (x := .ret) (by kernel_rfl) ⟨.inr rfl, [i64 0], by kernel_rfl, rfl⟩))
theorem check25_says {n : Nat} {l : List (Nat × Nat)} (F : FitP n l) {h : AH} {s : Value} {i o : Nat} (hs : Sees h ⟨i, o, l.length, pipesC l⟩ s) : Says Tryz.prog h 25 [dhV n s] (i64 0) h :=
  tellF (C := c1G [i64 n] [] []) (vs := [⟨i, o, l.length, pipesC l⟩]) (ss := [s]) (dhC_ok n (fun v h => by cases h)) rfl (fun caps hc => by
    obtain ⟨cap, rfl, hle⟩ := fits1 hc
    exact check25_local (cap := cap) F rfl) (fun v' _ r => r) (fun μ μ' x hx => flat_any hx rfl) ⟨hs, trivial⟩

/-! ### Stuck -/
noncomputable def c7 : Code := bodyOf Tryz.f7
theorem sees_d {m cap : Nat} {l : List (Nat × Nat)} (hl : l.length = m) (hc : m ≤ cap) {h : AH} (e : h.get 0 = viewD l) : Sees h ⟨0, 0, l.length, pipesC l⟩ (smallS 0 m cap) :=
  ⟨pipesC l, false, [], none, e, fun k u hk => by rw [Nat.zero_add]; exact hk, by rw [Nat.zero_add]; exact Nat.le_refl _, pipesC_plain, .inr ⟨cap, by rw [hl]; exact hc, by rw [hl]; rfl⟩⟩
theorem stuck_lt (n : Nat) (l : List (Nat × Nat)) : stuckN n l < 18446744073709551616 := BitVec.isLt _
theorem stuck_local {n m cap : Nat} {l : List (Nat × Nat)} (F : FitP n l) (hl : l.length = m) (hc : m ≤ cap) (h0 : stuckN n l ≠ 0) : Local Tryz.prog 1 7 [dhV n (smallS 0 m cap)] (hp [viewD l]) (rowIsC (dT (i64 0)) 0 (bitsN (stuckN n l)).length (natsC (bitsN (stuckN n l))) (some 3)) := by
  have hlen := F.len
  have hn6 := F.n6
  refine local_of noNum Tryz.func7 (show Tryz.f7.body = some c7 by kernel_rfl) ?_
  refine Runs.sqR mixed hkU [] (by kernel_rfl) (by kernel_rfl) (by kernel_rfl) oblN ?_
  refine Runs.sq (by kernel_rfl) (Runs.sqR mixed hkU [viaC 1 25 [dhV n (smallS 0 m cap)] (i64 0)] (by kernel_rfl) (by kernel_rfl) (by kernel_rfl) (oblC (shown_call (by kernel_rfl) (check25_says F (sees_d hl hc (by kernel_rfl)))) oblN) ?_)
  refine Runs.sqR mixed hkU [] (by kernel_rfl) (by kernel_rfl) (by kernel_rfl) oblN ?_
  refine Runs.cd (b := false) (by kernel_rfl) (fun h => by cases h) (fun _ => Runs.now (x := .normal) (by kernel_rfl) ?_)
  show Runs Tryz.prog 1 _ _ _
  have hlt := stuck_lt n l
  have sD : ∀ {h : AH}, h.get 0 = viewD l → Says Tryz.prog h 27 [dhV n (smallS 0 m cap)] (u64 (stuckN n l)) h := fun e => dry_says (by omega) (by omega) F.big (sees_d hl hc e)
  generalize stuckN n l = s at h0 hlt sD ⊢
  refine Runs.sqR mixed hkU [viaC 1 27 [dhV n (smallS 0 m cap)] (u64 s), viaH 2 26 [u64 s] (slR 2 (bitsN s).length) ((hp (OD n m cap l)).new (rowN (bitsN s))).2] (by kernel_rfl) (by kernel_rfl) (by kernel_rfl)
    (oblC (shown_call (by kernel_rfl) (sD (by kernel_rfl))) (oblC (shown_callHE (h0 := hp (OD n m cap l)) (by kernel_rfl) (by kernel_rfl) (dlist_says h0 hlt _)) oblN)) ?_
  exact Runs.now (x := .ret) (by kernel_rfl) ⟨.inr rfl, [slR 2 (bitsN s).length, i64 0], by kernel_rfl, 2, [], .inl rfl, by kernel_rfl⟩
theorem stuck_local0 {n m cap : Nat} {l : List (Nat × Nat)} (F : FitP n l) (hl : l.length = m) (hc : m ≤ cap) (h0 : stuckN n l = 0) : Local Tryz.prog 1 7 [dhV n (smallS 0 m cap)] (hp [viewD l]) fun v' _ => v' = .tuple #[.slice none 0 0, i64 0] := by
  have hlen := F.len
  have hn6 := F.n6
  refine local_of noNum Tryz.func7 (show Tryz.f7.body = some c7 by kernel_rfl) ?_
  refine Runs.sqR mixed hkU [] (by kernel_rfl) (by kernel_rfl) (by kernel_rfl) oblN ?_
  refine Runs.sq (by kernel_rfl) (Runs.sqR mixed hkU [viaC 1 25 [dhV n (smallS 0 m cap)] (i64 0)] (by kernel_rfl) (by kernel_rfl) (by kernel_rfl) (oblC (shown_call (by kernel_rfl) (check25_says F (sees_d hl hc (by kernel_rfl)))) oblN) ?_)
  refine Runs.sqR mixed hkU [] (by kernel_rfl) (by kernel_rfl) (by kernel_rfl) oblN ?_
  refine Runs.cd (b := false) (by kernel_rfl) (fun h => by cases h) (fun _ => Runs.now (x := .normal) (by kernel_rfl) ?_)
  show Runs Tryz.prog 1 _ _ _
  have sD : ∀ {h : AH}, h.get 0 = viewD l → Says Tryz.prog h 27 [dhV n (smallS 0 m cap)] (u64 0) h := fun e => by
    have := dry_says (n := n) (by omega) (by omega) F.big (sees_d hl hc e)
    rwa [h0] at this
  refine Runs.sqR mixed hkU [viaC 1 27 [dhV n (smallS 0 m cap)] (u64 0), viaC 2 26 [u64 0] (.slice none 0 0)] (by kernel_rfl) (by kernel_rfl) (by kernel_rfl)
    (oblC (shown_call (by kernel_rfl) (sD (by kernel_rfl))) (oblC (shown_call (by kernel_rfl) (dlist_none _)) oblN)) ?_
  exact Runs.now (x := .ret) (by kernel_rfl) ⟨.inr rfl, [.slice none 0 0, i64 0], by kernel_rfl, rfl⟩
theorem stuck_says {n : Nat} {l : List (Nat × Nat)} (F : FitP n l) (h0 : stuckN n l ≠ 0) {h : AH} {s : Value} {i o : Nat} (hs : Sees h ⟨i, o, l.length, pipesC l⟩ s) :
    Says Tryz.prog h 7 [dhV n s] (.tuple #[slR h.next (bitsN (stuckN n l)).length, i64 0]) (h.new (rowN (bitsN (stuckN n l)))).2 :=
  tellN (z := 0) (C := c1G [i64 n] [] []) (D := dT (i64 0)) (vs := [⟨i, o, l.length, pipesC l⟩]) (ss := [s]) (dhC_ok n (fun v h => by cases h)) (dT_ok rfl) rfl (fun caps hc => by
    obtain ⟨cap, rfl, hle⟩ := fits1 hc
    exact stuck_local F rfl hle h0) (by rw [natsC_len]; omega) (natsC_plain _) ⟨hs, trivial⟩
theorem stuck_says0 {n : Nat} {l : List (Nat × Nat)} (F : FitP n l) (h0 : stuckN n l = 0) {h : AH} {s : Value} {i o : Nat} (hs : Sees h ⟨i, o, l.length, pipesC l⟩ s) :
    Says Tryz.prog h 7 [dhV n s] (.tuple #[.slice none 0 0, i64 0]) h :=
  tellF (C := c1G [i64 n] [] []) (vs := [⟨i, o, l.length, pipesC l⟩]) (ss := [s]) (dhC_ok n (fun v h => by cases h)) rfl (fun caps hc => by
    obtain ⟨cap, rfl, hle⟩ := fits1 hc
    exact stuck_local0 F rfl hle h0) (fun v' _ r => r) (fun μ μ' x hx => flat_any hx rfl) ⟨hs, trivial⟩
end
end Go.Proofs.YtbcjmmbmeebfgaaGreatDoor

/- same: two rows of numbers that are alike, as a contract. -/
namespace Go.Proofs.YtbcjmmbmeebfgaaGreatDoor
set_option linter.unusedVariables false
set_option linter.unusedSimpArgs false
open Go Go.R
set_option maxRecDepth 1000000
noncomputable section
noncomputable def c10 : Code := bodyOf Tryz.f10
noncomputable def lp10 : Code := within (tl (hd (behind 2 c10)))
noncomputable def O10 (l : List Nat) : List AObj := [viewN l, viewN l]
theorem o10_clo {l : List Nat} : ∀ o ∈ O10 l, CloO 2 o := fun o ho => by
  simp only [O10, List.mem_cons, List.mem_nil_iff, or_false] at ho
  rcases ho with rfl | rfl <;> exact cloO_plain (natsC_plain _) _ _
noncomputable def S10 (n a b i : Nat) : List (Nat × Value) := [(0, smallS 0 n a), (1, smallS 1 n b), (12, i64 n), (13, i64 i)]
theorem same_loop {n a b : Nat} (l : List Nat) (hl : l.length = n) (hn : n < 1000) : ∀ d i, i + d = n →
    Runs Tryz.prog 2 lp10 (sth (S10 n a b i) 26 (O10 l)) fun e af => e = .exit 0 ∧ Less 2 (sth [] 26 (O10 l)) af := by
  intro d
  induction d with
  | zero =>
    intro i hi
    have e : i = n := by omega
    subst e
    refine Runs.lp (by kernel_rfl) (Runs.sqR mixed hkU [] (by kernel_rfl) (by kernel_rfl) (by kernel_rfl) oblN (Runs.sq (by kernel_rfl) ?_))
    refine Runs.cd (b := ltF (.ofNat i) (.ofNat i)) (by kernel_rfl) (fun ht => by rw [lt_self] at ht; cases ht) (fun _ => Runs.now (x := .exit 0) (by kernel_rfl) ⟨rfl, ?_⟩)
    exact less_seenP (clo_all (k := 2) (by kernel_rfl)) o10_clo (Nat.le_refl 2) (by kernel_rfl) (by kernel_rfl) (by kernel_rfl) (by kernel_rfl)
  | succ d ih =>
    intro i hi
    have hlt : i < n := by omega
    obtain ⟨x, hx⟩ : ∃ x, l[i]? = some x := ⟨l[i], List.getElem?_eq_getElem (by omega)⟩
    refine Runs.lp (by kernel_rfl) (Runs.sqR mixed hkU [] (by kernel_rfl) (by kernel_rfl) (by kernel_rfl) oblN (Runs.sq (by kernel_rfl) ?_))
    refine Runs.cd (b := ltF (.ofNat i) (.ofNat n)) (by kernel_rfl) (fun _ => Runs.now (x := .normal) (by kernel_rfl) ?_) (fun hf => by rw [lt_of hlt] at hf; cases hf)
    show Runs Tryz.prog 2 _ _ _
    refine Runs.sq (by kernel_rfl) (Runs.bk (id := 1) (by kernel_rfl) ?_)
    refine Runs.sqR mixed hkU [] (by kernel_rfl) (by kernel_rfl) (by kernel_rfl) oblN ?_
    refine Runs.sq (by kernel_rfl) ?_
    refine Runs.rgD mixed hkU [viaV 2 (.pointer (some ⟨0, 0 + i * 1, none⟩)), viaV 3 (i64 x), viaV 6 (.pointer (some ⟨1, 0 + i * 1, none⟩)), viaV 7 (i64 x), viaV 8 (.bool false)] [] (by kernel_rfl) (by kernel_rfl) (by kernel_rfl) (by kernel_rfl)
      (oblC (shown_idx (n := n) (by kernel_rfl) hlt) (oblC (shown_cell (by kernel_rfl) (natsC_at (q := 0) (l := l) (lv := false) (par := []) (ty := none) (by kernel_rfl) hx))
      (oblC (shown_idx (n := n) (by kernel_rfl) hlt) (oblC (shown_cell (by kernel_rfl) (natsC_at (q := 1) (l := l) (lv := false) (par := []) (ty := none) (by kernel_rfl) hx))
      (oblC (shown_eq (v := .bool (!(eqF (.ofNat x) (.ofNat x)))) (by kernel_rfl) (by kernel_rfl) (by rw [eqF_true rfl]; rfl)) oblN))))) dynN ?_
    show Runs Tryz.prog 2 _ _ _
    refine Runs.cd (b := false) (by kernel_rfl) (fun h => by cases h) (fun _ => Runs.now (x := .normal) (by kernel_rfl) ?_)
    show Runs Tryz.prog 2 _ _ _
    refine Runs.rg mixed hkU [viaV 0 (i64 (i + 1))] (by kernel_rfl) (by kernel_rfl) (by kernel_rfl) (oblC (shown_eq (v := .int .i64 (wrapF .i64 (Int.add (.ofNat i) (.ofNat 1)))) (by kernel_rfl) (by kernel_rfl) (by rw [wrap_succ (by omega)]; rfl)) oblN) ?_
    show Runs Tryz.prog 2 lp10 _ _
    exact Runs.less (af1 := sth (S10 n a b (i + 1)) 26 (O10 l)) (less_seenP (clo_all (k := 2) (by kernel_rfl)) o10_clo (Nat.le_refl 2) (by kernel_rfl) (by kernel_rfl) (by kernel_rfl) (by kernel_rfl)) (ih (i + 1) (by omega))
theorem same_local {n a b : Nat} (l : List Nat) (hl : l.length = n) (hn : n < 1000) : Local Tryz.prog 2 10 [smallS 0 n a, smallS 1 n b] (hp (O10 l)) fun v' _ => v' = .bool true := by
  refine local_of noNum Tryz.func10 (show Tryz.f10.body = some c10 by kernel_rfl) ?_
  refine Runs.sqR mixed hkU [] (by kernel_rfl) (by kernel_rfl) (by kernel_rfl) oblN ?_
  refine Runs.sq (by kernel_rfl) (Runs.sqR mixed hkU [viaV 4 (.bool false)] (by kernel_rfl) (by kernel_rfl) (by kernel_rfl) (oblC (shown_eq (v := .bool (!(eqF (.ofNat n) (.ofNat n)))) (by kernel_rfl) (by kernel_rfl) (by rw [eqF_true rfl]; rfl)) oblN) ?_)
  refine Runs.cd (b := false) (by kernel_rfl) (fun h => by cases h) (fun _ => Runs.now (x := .normal) (by kernel_rfl) ?_)
  show Runs Tryz.prog 2 _ _ _
  refine Runs.sq (by kernel_rfl) (Runs.sqR mixed hkU [] (by kernel_rfl) (by kernel_rfl) (by kernel_rfl) oblN (Runs.bk (id := 0) (by kernel_rfl) ?_))
  show Runs Tryz.prog 2 lp10 _ _
  refine Runs.less (af1 := sth (S10 n a b 0) 26 (O10 l)) (less_seenP (clo_all (k := 2) (by kernel_rfl)) o10_clo (Nat.le_refl 2) (by kernel_rfl) (by kernel_rfl) (by kernel_rfl) (by kernel_rfl)) ?_
  refine (same_loop (a := a) (b := b) l hl hn n 0 (by omega)).mono fun e af hx => ?_
  obtain ⟨rfl, less⟩ := hx
  show Runs Tryz.prog 2 _ af _
  exact Runs.less less (Runs.sqR mixed hkU [] (by kernel_rfl) (by kernel_rfl) (by kernel_rfl) oblN (Runs.now (x := .ret) (by kernel_rfl) ⟨.inr rfl, [.bool true], by kernel_rfl, rfl⟩))
theorem same_says {l : List Nat} (hn : l.length < 1000) {h : AH} {s t : Value} {i o j q : Nat} (hs : Sees h ⟨i, o, l.length, natsC l⟩ s) (ht : Sees h ⟨j, q, l.length, natsC l⟩ t) : Says Tryz.prog h 10 [s, t] (.bool true) h :=
  tellF (C := fun ss => ss) (vs := [⟨i, o, l.length, natsC l⟩, ⟨j, q, l.length, natsC l⟩]) (ss := [s, t]) (idC_ok 2) rfl (fun caps hc => by
    obtain ⟨a, b, rfl, _, _⟩ := fits2 hc
    exact same_local (a := a) (b := b) l rfl hn) (fun v' _ r => r) (fun μ μ' x hx => flat_any hx rfl) ⟨hs, ht, trivial⟩
end
end Go.Proofs.YtbcjmmbmeebfgaaGreatDoor
