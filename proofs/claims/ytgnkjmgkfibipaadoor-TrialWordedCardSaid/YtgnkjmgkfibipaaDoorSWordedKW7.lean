/- strings.Join, and Sum over plans that pass the check. -/
import Derived.Test.YtgnkjmgkfibipaaDoorSWordedKW6
import Derived.Shelf.Strings.OnBuilder
namespace Go.Proofs
open Go.Shelf
def Tryd.joinR : Go.Shelf.Ren := ⟨fun | 156 => 105 | 165 => 125 | 166 => 126 | 169 => 123 | 240 => 136 | 241 => 141 | 276 => 146 | 277 => 149 | n => n, fun | 31 => 22 | 37 => 50 | 70 => 120 | 72 => 122 | 75 => 124 | 76 => 128 | 80 => 126 | 127 => 139 | 164 => 146 | n => n, fun | n => n⟩
theorem Tryd.joinI : Go.Proofs.Lays.n156 Tryd.prog Tryd.joinR where
  mixed := by kernel_rfl
  f156 := Tryd.func105.trans (congrArg some (by kernel_rfl))
  f165 := Tryd.func125.trans (congrArg some (by kernel_rfl))
  f166 := Tryd.func126.trans (congrArg some (by kernel_rfl))
  f169 := Tryd.func123.trans (congrArg some (by kernel_rfl))
  f240 := Tryd.func136.trans (congrArg some (by kernel_rfl))
  f241 := Tryd.func141.trans (congrArg some (by kernel_rfl))
  f276 := Tryd.func146.trans (congrArg some (by kernel_rfl))
  f277 := Tryd.func149.trans (congrArg some (by kernel_rfl))
  t0 := Tryd.underlying0
  a0 := Tryd.isAgg0
  z0 := Tryd.sizeOf0
  v0 := Tryd.zeroValue0
  t3 := Tryd.underlying3
  a3 := Tryd.isAgg3
  z3 := Tryd.sizeOf3
  v3 := Tryd.zeroValue3
  t4 := Tryd.underlying4
  a4 := Tryd.isAgg4
  z4 := Tryd.sizeOf4
  v4 := Tryd.zeroValue4
  t9 := Tryd.underlying9
  a9 := Tryd.isAgg9
  z9 := Tryd.sizeOf9
  v9 := Tryd.zeroValue9
  t20 := Tryd.underlying20
  a20 := Tryd.isAgg20
  z20 := Tryd.sizeOf20
  v20 := Tryd.zeroValue20
  t31 := Tryd.underlying22
  a31 := Tryd.isAgg22
  z31 := Tryd.sizeOf22
  v31 := Tryd.zeroValue22
  t37 := Tryd.underlying50
  a37 := Tryd.isAgg50
  z37 := Tryd.sizeOf50
  v37 := Tryd.zeroValue50
  t70 := Tryd.underlying120
  a70 := Tryd.isAgg120
  z70 := Tryd.sizeOf120
  v70 := Tryd.zeroValue120
  t72 := Tryd.underlying122
  a72 := Tryd.isAgg122
  z72 := Tryd.sizeOf122
  v72 := Tryd.zeroValue122
  t75 := Tryd.underlying124
  a75 := Tryd.isAgg124
  z75 := Tryd.sizeOf124
  v75 := Tryd.zeroValue124
  t76 := Tryd.underlying128
  a76 := Tryd.isAgg128
  z76 := Tryd.sizeOf128
  v76 := Tryd.zeroValue128
  t127 := Tryd.underlying139
  a127 := Tryd.isAgg139
  z127 := Tryd.sizeOf139
  v127 := Tryd.zeroValue139
  t164 := Tryd.underlying146
  a164 := Tryd.isAgg146
  z164 := Tryd.sizeOf146
  v164 := Tryd.zeroValue146
theorem Tryd.joinX : Go.Proofs.Builder.Extra Tryd.prog Tryd.joinR where
  sizeBuilder := by kernel_rfl
  liesBuilder := by kernel_rfl
  t5 := Tryd.underlying5
  a5 := Tryd.isAgg5
  z5 := Tryd.sizeOf5
  v5 := Tryd.zeroValue5
  infoByte := by kernel_rfl
  cellsByte := by kernel_rfl
  sizeByte := by kernel_rfl
  neB5 := by decide
end Go.Proofs
namespace Go.Proofs.YtgnkjmgkfibipaaDoor
set_option linter.unusedVariables false
set_option linter.unusedSimpArgs false
open Go Go.R
set_option maxRecDepth 1000000
noncomputable section

def strsL (n : Nat) (g : Nat → ByteArray) : List ByteArray := (List.range n).map g
def joinB (n : Nat) (g : Nat → ByteArray) : ByteArray := ⟨(Lib.join ((strsL n g).map (·.data.toList)) []).toArray⟩
noncomputable def strE : Value := .string ⟨#[]⟩

theorem join_at {n i o : Nat} {g : Nat → ByteArray} {h : AH} {c : List Value} {lv : Bool} {par : List Nat} {ty : Option TypeId} {s : Value} (hn : n ≤ 100) (hlen : (Lib.join ((strsL n g).map (·.data.toList)) []).length ≤ 140737488355328)
    (hg : h.get i = .cells c lv par ty) (hsub : ∀ k, k < n → c[o + k]? = some (.string (g k))) (hs : SliceAt i o n s) : Says Tryd.prog h 105 [s, strE] (.string (joinB n g)) h := by
  intro F w0 μ w args' H hl
  obtain ⟨a1, a2, ea, r1, r2⟩ : ∃ a1 a2, args'.toList = [a1, a2] ∧ VR μ s a1 ∧ VR μ strE a2 := by
    match hq : args'.toList, hl with
    | [], hl => exact absurd hl.1 (by simp)
    | [x], hl => exact absurd hl.1 (by simp)
    | [x, y], hl => exact ⟨x, y, rfl, hl.head, hl.tail.head⟩
    | x :: y :: z :: l, hl => exact absurd hl.1 (by simp)
  obtain ⟨b, z, e, cap, hm, hcap, rfl⟩ := slice_place hs r1
  have e2 : a2 = strE := plain_same r2 rfl
  subst e2
  have hob := H.obj i b z e hm
  rw [hg] at hob
  obtain ⟨cs, el, fr, h1, h2, h3, h4, h5⟩ := hob
  have ll : (strsL n g).length = n := by simp [strsL]
  have cell : ∀ (j : Nat) x, (strsL n g)[j]? = some x → w.cell? ⟨b, z + o + j, none⟩ = some (.string x) := fun j x hj => by
    have hjn : j < n := by have := (List.getElem?_eq_some_iff.1 hj).1; omega
    have ex : x = g j := by simp [strsL, hjn] at hj; exact hj.symm
    subst ex
    obtain ⟨u', t1, t2⟩ := h4 (o + j) _ (hsub j hjn)
    rw [plain_same t2 rfl, ← Nat.add_assoc] at t1
    simp only [World.cell?, h1]
    exact t1
  have hbk : b < w.heap.size := (Array.getElem?_eq_some_iff.1 h1).1
  have C := Any.strings_Join Tryd.joinI Tryd.joinX b (z + o) cap (strsL n g) ⟨#[]⟩ w cell hbk (by omega) (by omega) hlen
  rw [ll] at C
  have eargs : args' = #[.slice (some ⟨b, z + o, none⟩) n cap, strE] := by
    apply Array.toList_inj.1
    rw [ea]
  subst eargs
  refine .inl ⟨enters noNum Tryd.func105 (show Tryd.f105.body = some (bodyOf Tryd.f105) by kernel_rfl) _ w, Calls.mono C ?_⟩
  rintro e w' ⟨rfl, bel⟩
  refine ⟨_, rfl, μ, .plain rfl, ?_, ?_⟩
  · exact ⟨H.dom, fun j b' z' e' hj => by
      by_cases hd : h.get j = .dead
      · rw [hd]; trivial
      · exact (H.obj j b' z' e' hj).world (bel.block b' (H.inb hj hd)), H.own, H.sep, H.par, bel.os.trans H.os, bel.tape.trans H.tape, bel.output.trans H.output, Nat.le_trans H.size bel.size, fun b' hb => by
      have q := H.fr b' hb
      exact ⟨q.1, (bel.block b' (Nat.lt_of_lt_of_le q.1 H.size)).trans q.2⟩⟩
  · exact ⟨Sub.refl μ, Nat.le_refl _, fun j hj hm' => ⟨hm', rfl⟩⟩
end
end Go.Proofs.YtgnkjmgkfibipaaDoor

/- TrialWorded: Sum over plans that pass the check. -/
namespace Go.Proofs.YtgnkjmgkfibipaaDoor
set_option linter.unusedVariables false
set_option linter.unusedSimpArgs false
open Go Go.R
set_option maxRecDepth 1000000
noncomputable section

def sizesTo (g : Nat → ByteArray) : Nat → Nat
  | 0 => 0
  | m + 1 => sizesTo g m + (g m).size
theorem lens_strs (g : Nat → ByteArray) : ∀ m, Lib.lens ((strsL m g).map (·.data.toList)) = sizesTo g m
  | 0 => rfl
  | m + 1 => by
    have := lens_strs g m
    unfold strsL Lib.lens at this ⊢
    rw [List.range_succ, List.map_append, List.map_append, List.map_append, List.sum_append, this]
    rfl
theorem join_len (g : Nat → ByteArray) (m : Nat) : (Lib.join ((strsL (m + 1) g).map (·.data.toList)) []).length = sizesTo g (m + 1) := by
  rw [← lens_strs]
  cases h : (strsL (m + 1) g).map (·.data.toList) with
  | nil =>
    have := congrArg List.length h
    simp [strsL] at this
  | cons x r => rw [Lib.join_length]; simp
theorem joinB_size (g : Nat → ByteArray) (m : Nat) : (joinB (m + 1) g).size = sizesTo g (m + 1) := by
  rw [← join_len]
  rfl

noncomputable def c52 : Code := bodyOf Tryd.f52
theorem sum_local (n cap : Nat) (f : Nat → Int) (hc : n ≤ cap) (hn : n < 100) (hx : chkN f n = 0) (hlen : sizesTo (wordS f n) (n + 1) ≤ 100000) :
    Local Tryd.prog 1 52 [slV n cap] (hp [viewZ n f]) fun v' _ => v' = .tuple #[i64 (sizesTo (wordS f n) (n + 1)), i64 0] := by
  refine local_of noNum Tryd.func52 (show Tryd.f52.body = some c52 by kernel_rfl) ?_
  refine Runs.sqR mixed hk38 [] (by kernel_rfl) (by kernel_rfl) (by kernel_rfl) oblN ?_
  have hch := check_says n cap f hc (by omega)
  rw [hx] at hch
  refine Runs.sq (by kernel_rfl) (Runs.sqR mixed hk38 [viaC 1 45 [slV n cap] (i64 0)] (by kernel_rfl) (by kernel_rfl) (by kernel_rfl) (oblC (shown_callE (h0 := hp [viewZ n f]) (by kernel_rfl) (by kernel_rfl) hch) oblN) ?_)
  refine Runs.sqR mixed hk38 [] (by kernel_rfl) (by kernel_rfl) (by kernel_rfl) oblN ?_
  refine Runs.cd (b := false) (by kernel_rfl) (fun h => by cases h) (fun _ => Runs.now (x := .normal) (by kernel_rfl) ?_)
  show Runs Tryd.prog 1 _ _ _
  have hj := join_at (n := n + 1) (i := 1) (o := 0) (g := wordS f n) (h := ((hp [viewZ n f]).new (rowS (n + 1) (wordS f n))).2) (c := strsV (n + 1) (wordS f n)) (lv := true) (par := []) (ty := some 9) (s := bldV 1 (n + 1)) (by omega) (by rw [join_len]; omega) (by kernel_rfl)
    (fun k hk => by rw [Nat.zero_add]; simp [strsV, hk]) (.inl ⟨0, rfl⟩)
  refine Runs.sqR mixed hk38 [viaH 1 95 [slV n cap] (bldV 1 (n + 1)) ((hp [viewZ n f]).new (rowS (n + 1) (wordS f n))).2, viaC 2 105 [bldV 1 (n + 1), strE] (.string (joinB (n + 1) (wordS f n))), viaV 3 (i64 (sizesTo (wordS f n) (n + 1)))] (by kernel_rfl) (by kernel_rfl) (by kernel_rfl)
    (oblC (shown_callHE (h0 := hp [viewZ n f]) (by kernel_rfl) (by kernel_rfl) (words_says n cap f hc (by omega))) (oblC (shown_callE (h0 := ((hp [viewZ n f]).new (rowS (n + 1) (wordS f n))).2) (by kernel_rfl) (by kernel_rfl) hj)
    (oblC (shown_eq (v := i64 (joinB (n + 1) (wordS f n)).size) (by kernel_rfl) (by kernel_rfl) (by rw [joinB_size])) oblN))) ?_
  exact Runs.now (x := .ret) (by kernel_rfl) ⟨.inr rfl, [i64 (sizesTo (wordS f n) (n + 1)), i64 0], by kernel_rfl, rfl⟩

theorem sizes_sums {n : Nat} {l : List Nat} (G : Good 0 n l) : ∀ m, sizesTo (wordS (fL l) n) m = sumsTo l m
  | 0 => rfl
  | m + 1 => by
    rw [sizesTo, sumsTo, sizes_sums G m, wordS_size, outN_run G]
    rfl
theorem sum_at {h : AH} {n q : Nat} {l : List Nat} {lv : Bool} {par : List Nat} {ty : Option TypeId} (G : Good 0 n l) (hne : l ≠ []) (hn : n ≤ 12) (hg : h.get q = .cells (litI l) lv par ty) : Says Tryd.prog h 52 [planV q l] (.tuple #[i64 (sumsTo l (n + 1)), i64 0]) h := by
  have hb : sizesTo (wordS (fL l) n) (n + 1) ≤ 100000 := by
    rw [sizes_sums G]
    have := sumsTo_le l (n + 1)
    rw [G.len] at this
    have : (n + 1) * n ≤ 13 * 12 := Nat.mul_le_mul (by omega) hn
    omega
  rw [← sizes_sums G]
  exact at_plan_flat (R := fun v' _ => v' = .tuple #[i64 (sizesTo (wordS (fL l) n) (n + 1)), i64 0]) G.len hne (fun cap hc => sum_local n cap (fL l) hc (by omega) (good_check G hn) hb) (fun _ _ r => r) rfl noP hg

/-! ### same, at any two rows -/
noncomputable def slW (i n cap : Nat) : Value := .slice (some ⟨i, 0, none⟩) n cap
noncomputable def Sv (n c1 c2 i : Nat) : List (Nat × Value) := [(0, slW 0 n c1), (1, slW 1 n c2), (5, i64 i)]
theorem sv_clo {n c1 c2 i : Nat} : ∀ q ∈ Sv n c1 c2 i, Clo 2 q.2 := clo_all (by kernel_rfl)
noncomputable def osV (n : Nat) (f : Nat → Int) : List AObj := [viewC (intsZ n f), viewC (intsZ n f)]
theorem osV_clo {n : Nat} {f : Nat → Int} : ∀ o ∈ osV n f, CloO 2 o := fun o ho => by
  simp only [osV, List.mem_cons, List.mem_nil_iff, or_false] at ho
  rcases ho with rfl | rfl <;> exact cloO_plain (intsZ_plain n f) _ _
theorem sameV_loop (n c1 c2 : Nat) (f : Nat → Int) (hn : n < 1000000) : ∀ d i, i + d = n →
    Runs Tryd.prog 2 lp21 (sth (Sv n c1 c2 i) 26 (osV n f)) fun x af => x = .exit 0 ∧ Less 2 (sth [] 26 (osV n f)) af := by
  intro d
  induction d with
  | zero =>
    intro i hi
    have him : i = n := by omega
    subst him
    refine Runs.lp (by kernel_rfl) (Runs.sq (by kernel_rfl) (Runs.sqR mixed hk38 [] (by kernel_rfl) (by kernel_rfl) (by kernel_rfl) oblN ?_))
    refine Runs.cd (b := ltF (.ofNat i) (.ofNat i)) (by kernel_rfl) (fun ht => by rw [lt_self] at ht; cases ht) (fun _ => Runs.now (x := .exit 0) (by kernel_rfl) ⟨rfl, ?_⟩)
    exact less_seenP (fun p hp => by cases hp) osV_clo (Nat.le_refl 2) (by kernel_rfl) (by kernel_rfl) (by kernel_rfl) (by kernel_rfl)
  | succ d ih =>
    intro i hi
    have hlt : i < n := by omega
    refine Runs.lp (by kernel_rfl) (Runs.sq (by kernel_rfl) (Runs.sqR mixed hk38 [] (by kernel_rfl) (by kernel_rfl) (by kernel_rfl) oblN ?_))
    refine Runs.cd (b := ltF (.ofNat i) (.ofNat n)) (by kernel_rfl) (fun _ => Runs.now (x := .normal) (by kernel_rfl) ?_) (fun hf => by rw [lt_of hlt] at hf; cases hf)
    show Runs Tryd.prog 2 _ _ _
    refine Runs.sq (by kernel_rfl) (Runs.bk (id := 1) (by kernel_rfl) ?_)
    refine Runs.sqR mixed hk38 [viaV 2 (.pointer (some ⟨0, 0 + i * 1, none⟩)), viaV 3 (.int .i64 (f i)), viaV 6 (.pointer (some ⟨1, 0 + i * 1, none⟩)), viaV 7 (.int .i64 (f i)), viaV 8 (.bool false)] (by kernel_rfl) (by kernel_rfl) (by kernel_rfl)
      (oblC (shown_idx (n := n) (by kernel_rfl) hlt) (oblC (shown_cell (by kernel_rfl) (intZ_at (g := 0) (n := n) (f := f) (lv := false) (par := []) (ty := none) (by kernel_rfl) hlt))
      (oblC (shown_idx (n := n) (by kernel_rfl) hlt) (oblC (shown_cell (by kernel_rfl) (intZ_at (g := 1) (n := n) (f := f) (lv := false) (par := []) (ty := none) (by kernel_rfl) hlt))
      (oblC (shown_eq (v := .bool (!(eqF (f i) (f i)))) (by kernel_rfl) (by kernel_rfl) (by rw [eqF_eq, beq_self_eq_true]; rfl)) oblN))))) ?_
    refine Runs.cd (b := false) (by kernel_rfl) (fun h => by cases h) (fun _ => Runs.now (x := .normal) (by kernel_rfl) ?_)
    show Runs Tryd.prog 2 _ _ _
    refine Runs.rg mixed hk38 [] (by kernel_rfl) (by kernel_rfl) (by kernel_rfl) oblN ?_
    show Runs Tryd.prog 2 lp21 _ _
    have ew : Sv n c1 c2 (i + 1) = [(0, slW 0 n c1), (1, slW 1 n c2), (5, .int .i64 (wrapF .i64 (Int.add (.ofNat i) (.ofNat 1))))] := by unfold Sv; rw [wrap_succ (by omega : i < 4611686018427387904)]; rfl
    refine Runs.less (af1 := sth (Sv n c1 c2 (i + 1)) 26 (osV n f)) (less_seenP sv_clo osV_clo (Nat.le_refl 2) ?_ (by kernel_rfl) (by kernel_rfl) (by kernel_rfl)) (ih (i + 1) (by omega))
    rw [ew]
    exact Eq.trans (Eq.refl _) (by kernel_rfl)
theorem sameV_local (n c1 c2 : Nat) (f : Nat → Int) (hn : n < 1000000) : Local Tryd.prog 2 21 [slW 0 n c1, slW 1 n c2] (hp (osV n f)) fun v' _ => v' = .bool true := by
  refine local_of noNum Tryd.func21 (show Tryd.f21.body = some c21 by kernel_rfl) ?_
  refine Runs.sqR mixed hk38 [] (by kernel_rfl) (by kernel_rfl) (by kernel_rfl) oblN ?_
  refine Runs.sq (by kernel_rfl) (Runs.sqR mixed hk38 [viaV 4 (.bool false)] (by kernel_rfl) (by kernel_rfl) (by kernel_rfl)
    (oblC (shown_eq (v := .bool (!(eqF (.ofNat n) (.ofNat n)))) (by kernel_rfl) (by kernel_rfl) (by rw [eq_self]; rfl)) oblN) ?_)
  refine Runs.cd (b := false) (by kernel_rfl) (fun h => by cases h) (fun _ => Runs.now (x := .normal) (by kernel_rfl) ?_)
  show Runs Tryd.prog 2 _ _ _
  refine Runs.sq (by kernel_rfl) (Runs.sqR mixed hk38 [] (by kernel_rfl) (by kernel_rfl) (by kernel_rfl) oblN (Runs.bk (id := 0) (by kernel_rfl) ?_))
  refine Runs.less (af1 := sth (Sv n c1 c2 0) 26 (osV n f)) (less_seenP sv_clo osV_clo (Nat.le_refl 2) (by kernel_rfl) (by kernel_rfl) (by kernel_rfl) (by kernel_rfl)) ?_
  refine (sameV_loop n c1 c2 f hn n 0 (by omega)).mono fun x af hx => ?_
  obtain ⟨rfl, less⟩ := hx
  show Runs Tryd.prog 2 _ af _
  exact Runs.less less (Runs.sqR mixed hk38 [] (by kernel_rfl) (by kernel_rfl) (by kernel_rfl) oblN (Runs.now (x := .ret) (by kernel_rfl) ⟨.inr rfl, [.bool true], by kernel_rfl, rfl⟩))
theorem same_rows {h : AH} {i1 i2 : Nat} {T : List Int} {lv1 lv2 : Bool} {par1 par2 : List Nat} {ty1 ty2 : Option TypeId} {s1 s2 : Value} (hT : T.length < 1000000) (hg1 : h.get i1 = .cells (litZ T) lv1 par1 ty1) (hg2 : h.get i2 = .cells (litZ T) lv2 par2 ty2)
    (hs1 : SliceAt i1 0 T.length s1) (hs2 : SliceAt i2 0 T.length s2) : Says Tryd.prog h 21 [s1, s2] (.bool true) h := by
  have e : intsZ T.length (fun i => T.getD i 0) = litZ T := by
    apply List.ext_getElem?
    intro i
    unfold intsZ litZ
    rw [List.getElem?_map, List.getElem?_map]
    by_cases hi : i < T.length
    · rw [List.getElem?_range hi, List.getElem?_eq_getElem hi]
      simp [List.getD_eq_getElem?_getD, List.getElem?_eq_getElem hi]
    · rw [List.getElem?_eq_none (by simpa using hi), List.getElem?_eq_none (by omega)]
      rfl
  exact tell_two (P := Tryd.prog) (fid := 21) (i1 := i1) (o1 := 0) (n1 := T.length) (i2 := i2) (o2 := 0) (n2 := T.length) (cells1 := intsZ T.length (fun i => T.getD i 0)) (cells2 := intsZ T.length (fun i => T.getD i 0)) (R := fun v' _ => v' = .bool true)
    (fun c1 c2 _ _ => sameV_local T.length c1 c2 _ hT) (fun _ _ r => r) rfl hg1 (fun k u hk => by rw [Nat.zero_add, ← e]; exact hk) (by rw [e, Nat.zero_add]; exact Nat.le_refl _) (intsZ_plain _ _) hs1
    hg2 (fun k u hk => by rw [Nat.zero_add, ← e]; exact hk) (by rw [e, Nat.zero_add]; exact Nat.le_refl _) (intsZ_plain _ _) hs2
end
end Go.Proofs.YtgnkjmgkfibipaaDoor

/- TrialWorded: the loop over all hardnesses. -/
namespace Go.Proofs.YtgnkjmgkfibipaaDoor
set_option linter.unusedVariables false
set_option linter.unusedSimpArgs false
open Go Go.R
set_option maxRecDepth 1000000
noncomputable section

noncomputable def c11 : Code := bodyOf Tryd.f11
noncomputable def lp11 : Code := within (tl (hd (behind 6 c11)))
noncomputable def w3 (y : Nat → Nat) (l : List Nat) (n : Nat) : List AObj := [byA12 y, planO (some 3) l, rowS (n + 1) (wordS (fL l) n)]
noncomputable def S11 (l : List Nat) (n h : Nat) : List (Nat × Value) := [(5, i64 n), (6, planV 1 l), (7, bldV 2 (n + 1)), (9, i64 (longTo (gO l) h)), (10, i64 (mostTo (gO l) h)), (11, i64 (sumsTo l h)), (54, i64 (n + 1)), (55, i64 h)]
theorem S11_clo (l : List Nat) (n h : Nat) : ∀ p ∈ S11 l n h, Clo 3 p.2 := fun p hp => by
  simp only [S11, List.mem_cons, List.mem_nil_iff, or_false] at hp
  rcases hp with rfl | rfl | rfl | rfl | rfl | rfl | rfl | rfl
  · exact clo_plain rfl
  · exact planV_clo (by decide) l
  · exact clo_of 10 3 _ (by kernel_rfl)
  all_goals exact clo_plain rfl
section
variable {y : Nat → Nat} {n : Nat} {l : List Nat}
theorem w3_clo : ∀ o ∈ w3 y l n, CloO 3 o := fun o ho => by
  simp only [w3, List.mem_cons, List.mem_nil_iff, or_false] at ho
  rcases ho with rfl | rfl | rfl
  · exact cloO_plain (byA12_plain y) _ _
  · exact planO_plain l 3
  · exact cloO_plain (strsV_plain _ _) _ _
theorem strO_at {h : AH} {g i k : Nat} {f : Nat → ByteArray} {lv : Bool} {par : List Nat} {ty : Option TypeId} (hg : h.get g = .cells (strsV k f) lv par ty) (hi : i < k) : rowAt? h g (0 + i * 1) 1 = some [.string (f i)] := by
  rw [row_at hg (by rw [strsV_len]; omega), Nat.zero_add, Nat.mul_one]
  have : (strsV k f)[i]? = some (.string (f i)) := by simp [strsV, hi]
  rw [List.take_one, List.head?_drop, this]
  rfl
/-- What is asked of the words. -/
structure Asc (n : Nat) (l : List Nat) : Prop where
  lt : ∀ k, k + 1 ≤ n → bytesLt (wordS (fL l) n k) (wordS (fL l) n (k + 1)) = true
  pf : ∀ k, k + 1 ≤ n → prefB (wordS (fL l) n (k + 1)) (wordS (fL l) n k) = false

noncomputable def b11 : Code := within (hd (tl (tl (within lp11))))
theorem clo14 (l : List Nat) (n h : Nat) (W : ByteArray) : ∀ p ∈ S11 l n h ++ [(12, i64 h), (14, .string W)], Clo 3 p.2 := fun p hp => by
  rcases List.mem_append.1 hp with hp | hp
  · exact S11_clo l n h p hp
  · simp only [List.mem_cons, List.mem_nil_iff, or_false] at hp
    rcases hp with rfl | rfl <;> exact clo_plain rfl
abbrev Q11 (Q : AExit → AF → Prop) : AExit → AF → Prop := caught 1 (andThen (fun a => Runs Tryd.prog 0 (tl (tl (tl (within lp11)))) a (andThen (fun a => Runs Tryd.prog 0 lp11 a Q) Q)) (andThen (fun a => Runs Tryd.prog 0 lp11 a Q) Q))
theorem law11_fin {h : Nat} (hh : h < 1000) {Q : AExit → AF → Prop} {W : ByteArray} (m1 : longTo (gO l) (h + 1) = max (longTo (gO l) h) W.size) (m2 : mostTo (gO l) (h + 1) = max (mostTo (gO l) h) (cntB W.data.toList 98 0))
    (m3 : sumsTo l (h + 1) = sumsTo l h + W.size) (b3 : sumsTo l (h + 1) < 1000000)
    (k : Runs Tryd.prog 0 lp11 (sth (S11 l n (h + 1)) 221 (w3 y l n)) Q) : Runs Tryd.prog 0 (behind 6 b11) (sth (S11 l n h ++ [(12, i64 h), (14, .string W)]) 221 (w3 y l n)) (Q11 Q) := by
  refine Runs.rg mixed hk38 [viaV 3 (i64 (longTo (gO l) (h + 1))), viaC 6 50 [.string W, strb] (.int .i64 (cntB W.data.toList 98 0 : Nat)), viaV 7 (i64 (mostTo (gO l) (h + 1))), viaV 11 (i64 (sumsTo l (h + 1)))] (by kernel_rfl) (by kernel_rfl) (by kernel_rfl)
    (oblC (shown_eq (v := .int .i64 (maxV (.ofNat (longTo (gO l) h)) (.ofNat W.size))) (by kernel_rfl) (by kernel_rfl) (by rw [maxV_nat, m1]; rfl))
    (oblC (shown_callE (h0 := hp (w3 y l n)) (by kernel_rfl) (by kernel_rfl) (count_says _ _))
    (oblC (shown_eq (v := .int .i64 (maxV (.ofNat (mostTo (gO l) h)) (.ofNat (cntB W.data.toList 98 0)))) (by kernel_rfl) (by kernel_rfl) (by rw [maxV_nat, m2]; rfl))
    (oblC (shown_eq (v := .int .i64 (wrapF .i64 (Int.add (.ofNat (sumsTo l h)) (.ofNat W.size)))) (by kernel_rfl) (by kernel_rfl) (by rw [wrap_addN (by omega), m3]; rfl)) oblN)))) ?_
  show Runs Tryd.prog 0 _ _ _
  refine Runs.rg mixed hk38 [viaV 0 (i64 (h + 1))] (by kernel_rfl) (by kernel_rfl) (by kernel_rfl) (oblC (shown_eq (v := .int .i64 (wrapF .i64 (Int.add (.ofNat h) (.ofNat 1)))) (by kernel_rfl) (by kernel_rfl) (by rw [wrap_succ (by omega)]; rfl)) oblN) ?_
  show Runs Tryd.prog 0 lp11 _ _
  exact Runs.less (less_seenP (S11_clo _ _ _) w3_clo (Nat.zero_le _) (by kernel_rfl) (by kernel_rfl) (by kernel_rfl) (by kernel_rfl)) k

theorem law11_mid {h : Nat} (hh : h < n + 1) (hn : n ≤ 12) {Q : AExit → AF → Prop} {W : ByteArray} (hW : wordS (fL l) n h = W) (A : Asc n l)
    (k : Runs Tryd.prog 0 (behind 6 b11) (sth (S11 l n h ++ [(12, i64 h), (14, .string W)]) 221 (w3 y l n)) (Q11 Q)) : Runs Tryd.prog 0 (behind 5 b11) (sth (S11 l n h ++ [(12, i64 h), (14, .string W)]) 221 (w3 y l n)) (Q11 Q) := by
  have g2 : ∀ {x : AH}, x.get 2 = rowS (n + 1) (wordS (fL l) n) → rowAt? x 2 (0 + h * 1) 1 = some [.string W] := fun hx => by
    have := strO_at (f := wordS (fL l) n) (lv := true) (par := []) (ty := some 9) hx hh
    rwa [hW] at this
  cases h with
  | zero =>
    refine Runs.sq (by kernel_rfl) (Runs.sqR mixed hk38 [] (by kernel_rfl) (by kernel_rfl) (by kernel_rfl) oblN ?_)
    refine Runs.cd (b := false) (by kernel_rfl) (fun h => by cases h) (fun _ => Runs.now (x := .normal) (by kernel_rfl) ?_)
    show Runs Tryd.prog 0 (behind 6 b11) _ _
    exact Runs.less (less_seenP (clo14 l n 0 W) w3_clo (Nat.zero_le _) (by kernel_rfl) (by kernel_rfl) (by kernel_rfl) (by kernel_rfl)) k
  | succ m =>
    have g3 : ∀ {x : AH}, x.get 2 = rowS (n + 1) (wordS (fL l) n) → rowAt? x 2 (0 + m * 1) 1 = some [.string (wordS (fL l) n m)] := fun hx => strO_at (f := wordS (fL l) n) (lv := true) (par := []) (ty := some 9) hx (by omega)
    have a1 := A.lt m (by omega)
    have a2 := A.pf m (by omega)
    rw [hW] at a1 a2
    have es : wrapF .i64 (Int.sub (.ofNat (m + 1)) 1) = .ofNat m := by
      have e : Int.sub (.ofNat (m + 1)) 1 = .ofNat m := by show ((m + 1 : Nat) : Int) - 1 = (m : Int); omega
      rw [e]
      exact wrap_ofNat (by omega)
    obtain ⟨V, hV⟩ : ∃ V, wordS (fL l) n m = V := ⟨_, rfl⟩
    rw [hV] at a1 a2
    have g3' : ∀ {x : AH}, x.get 2 = rowS (n + 1) (wordS (fL l) n) → rowAt? x 2 (0 + m * 1) 1 = some [.string V] := fun hx => hV ▸ g3 hx
    have q5 := prefix_says W V (hp (w3 y l n))
    rw [a2] at q5
    refine Runs.sq (by kernel_rfl) (Runs.sqR mixed hk38 [viaV 5 (i64 m), viaV 6 (.pointer (some ⟨2, 0 + m * 1, none⟩)), viaV 7 (.string V), viaV 10 (.pointer (some ⟨2, 0 + (m + 1) * 1, none⟩)), viaV 11 (.string W), viaV 12 (.bool false),
        viaV 16 (.pointer (some ⟨2, 0 + (m + 1) * 1, none⟩)), viaV 17 (.string W), viaV 20 (i64 m), viaV 21 (.pointer (some ⟨2, 0 + m * 1, none⟩)), viaV 22 (.string V), viaC 23 49 [.string W, .string V] (.bool false)] (by kernel_rfl) (by kernel_rfl) (by kernel_rfl)
      (oblC (shown_eq (v := .int .i64 (wrapF .i64 (Int.sub (.ofNat (m + 1)) 1))) (by kernel_rfl) (by kernel_rfl) (by rw [es]; rfl))
      (oblC (shown_idx (n := n + 1) (by kernel_rfl) (by omega)) (oblC (shown_cell (by kernel_rfl) (g3' (by kernel_rfl)))
      (oblC (shown_idx (n := n + 1) (by kernel_rfl) hh) (oblC (shown_cell (by kernel_rfl) (g2 (by kernel_rfl)))
      (oblC (shown_eq (v := .bool (!(bytesLt V W))) (by kernel_rfl) (by kernel_rfl) (by rw [a1]; rfl))
      (oblC (shown_idx (n := n + 1) (by kernel_rfl) hh) (oblC (shown_cell (by kernel_rfl) (g2 (by kernel_rfl)))
      (oblC (shown_eq (v := .int .i64 (wrapF .i64 (Int.sub (.ofNat (m + 1)) 1))) (by kernel_rfl) (by kernel_rfl) (by rw [es]; rfl))
      (oblC (shown_idx (n := n + 1) (by kernel_rfl) (by omega)) (oblC (shown_cell (by kernel_rfl) (g3' (by kernel_rfl)))
      (oblC (shown_callE (h0 := hp (w3 y l n)) (by kernel_rfl) (by kernel_rfl) q5) oblN)))))))))))) ?_)
    refine Runs.cd (b := false) (by kernel_rfl) (fun h => by cases h) (fun _ => Runs.now (x := .normal) (by kernel_rfl) ?_)
    show Runs Tryd.prog 0 (behind 6 b11) _ _
    exact Runs.less (less_seenP (clo14 l n (m + 1) W) w3_clo (Nat.zero_le _) (by kernel_rfl) (by kernel_rfl) (by kernel_rfl) (by kernel_rfl)) k

end
end
end Go.Proofs.YtgnkjmgkfibipaaDoor

/- TrialWorded: a round. -/
namespace Go.Proofs.YtgnkjmgkfibipaaDoor
set_option linter.unusedVariables false
set_option linter.unusedSimpArgs false
open Go Go.R
set_option maxRecDepth 1000000
noncomputable section

section
variable {y : Nat → Nat} {n : Nat} {l : List Nat}
theorem law11_round (G : Good 0 n l) (hne : l ≠ []) (hn : n ≤ 12) (A : Asc n l) {h : Nat} (hh : h < n + 1) {Q : AExit → AF → Prop}
    (k : Runs Tryd.prog 0 lp11 (sth (S11 l n (h + 1)) 221 (w3 y l n)) Q) : Runs Tryd.prog 0 lp11 (sth (S11 l n h) 221 (w3 y l n)) Q := by
  have hlen := G.len
  refine Runs.lp (by kernel_rfl) (Runs.sqR mixed hk38 [] (by kernel_rfl) (by kernel_rfl) (by kernel_rfl) oblN ?_)
  refine Runs.sq (by kernel_rfl) (Runs.cd (b := ltF (.ofNat h) (.ofNat (n + 1))) (by kernel_rfl) (fun _ => Runs.now (x := .normal) (by kernel_rfl) ?_) (fun hf => by rw [lt_of hh] at hf; cases hf))
  show Runs Tryd.prog 0 _ _ _
  refine Runs.sq (by kernel_rfl) (Runs.bk (id := 1) (by kernel_rfl) (Runs.sqR mixed hk38 [] (by kernel_rfl) (by kernel_rfl) (by kernel_rfl) oblN ?_))
  have eW : strB (wordOf (.ofNat h) (outN l h)) = wordS (fL l) n h := by unfold wordS; rw [word_run G]
  have g1 : (hp (w3 y l n)).get 1 = .cells (litI l) true [] (some 3) := Eq.trans (show _ = planO (some 3) l by kernel_rfl) (planO_ne hne)
  have q1 := outcome_at (h := hp (w3 y l n)) (q := 1) (lv := true) (par := []) (ty := some 3) hne g1 (by omega) (good_tries G) h
  have q2 := run_at (h := ((hp (w3 y l n)).new (rowT (outN l h))).2) (q := 1) (lv := true) (par := []) (ty := some 3) (x := h) G hne hn (by omega) (Eq.trans (show _ = planO (some 3) l by kernel_rfl) (planO_ne hne))
  have q3 := word_at (h := (((hp (w3 y l n)).new (rowT (outN l h))).2.new (rowT (outN l h))).2) (q := 1) (lv := true) (par := []) (ty := some 3) (x := h) G hne hn (by omega) (Eq.trans (show _ = planO (some 3) l by kernel_rfl) (planO_ne hne))
  have hT : (outN l h).length < 1000000 := by have := outN_len l h; omega
  rw [eW] at q1 q3
  have m1 : longTo (gO l) (h + 1) = max (longTo (gO l) h) (wordS (fL l) n h).size := by rw [longTo, ← eW, word_size]; rfl
  have m2 : mostTo (gO l) (h + 1) = max (mostTo (gO l) h) (cntB (wordS (fL l) n h).data.toList 98 0) := by rw [mostTo, ← eW, cnt_word, Nat.zero_add]; rfl
  have m3 : sumsTo l (h + 1) = sumsTo l h + (wordS (fL l) n h).size := by rw [sumsTo, ← eW, word_size]
  have b3 : sumsTo l (h + 1) < 1000000 := by
    have := sumsTo_le l (h + 1)
    have : (h + 1) * l.length ≤ 13 * 12 := Nat.mul_le_mul (by omega) (by omega)
    omega
  generalize outN l h = T at *
  generalize hW : wordS (fL l) n h = W at *
  have g2 : ∀ {x : AH}, x.get 2 = rowS (n + 1) (wordS (fL l) n) → rowAt? x 2 (0 + h * 1) 1 = some [.string W] := fun hx => by
    have := strO_at (f := wordS (fL l) n) (lv := true) (par := []) (ty := some 9) hx hh
    rwa [hW] at this
  let H1 : AH := ((hp (w3 y l n)).new (rowT T)).2
  let H2 : AH := (H1.new (rowT T)).2
  refine Runs.sqR mixed hk38 [viaH 2 47 [planV 1 l, i64 h] (rowV 3 T.length (some (.string W))) H1] (by kernel_rfl) (by kernel_rfl) (by kernel_rfl) (oblC (shown_callHE (h0 := hp (w3 y l n)) (by kernel_rfl) (by kernel_rfl) q1) oblN) ?_
  refine Runs.sqR mixed hk38 [viaH 2 44 [planV 1 l, i64 h] (.tuple #[bldV 4 T.length, i64 0]) H2] (by kernel_rfl) (by kernel_rfl) (by kernel_rfl) (oblC (shown_callHE (h0 := H1) (by kernel_rfl) (by kernel_rfl) q2) oblN) ?_
  refine Runs.sqR mixed hk38 [viaC 2 48 [planV 1 l, i64 h] (.tuple #[.string W, i64 0])] (by kernel_rfl) (by kernel_rfl) (by kernel_rfl) (oblC (shown_callE (h0 := H2) (by kernel_rfl) (by kernel_rfl) q3) oblN) ?_
  have q4 := same_rows (h := H2) (i1 := 4) (i2 := 3) (T := T) (lv1 := true) (lv2 := true) (par1 := []) (par2 := []) (ty1 := some 3) (ty2 := some 3) (s1 := bldV 4 T.length) (s2 := bldV 3 T.length) hT (by kernel_rfl) (by kernel_rfl) (.inl ⟨0, rfl⟩) (.inl ⟨0, rfl⟩)
  have ne : (!(W.toList == W.toList)) = false := by simp
  refine Runs.sq (by kernel_rfl) (Runs.sqR mixed hk38 [viaV 9 (.pointer (some ⟨2, 0 + h * 1, none⟩)), viaV 10 (.string W), viaV 12 (.bool false), viaV 17 (.bool false), viaC 22 21 [bldV 4 T.length, bldV 3 T.length] (.bool true)] (by kernel_rfl) (by kernel_rfl) (by kernel_rfl)
    (oblC (shown_idx (n := n + 1) (by kernel_rfl) hh) (oblC (shown_cell (by kernel_rfl) (g2 (by kernel_rfl))) (oblC (shown_eq (v := .bool (!(W.toList == W.toList))) (by kernel_rfl) (by kernel_rfl) (by rw [ne]))
    (oblC (shown_eq (v := .bool (!(W.toList == W.toList))) (by kernel_rfl) (by kernel_rfl) (by rw [ne])) (oblC (shown_callE (h0 := H2) (by kernel_rfl) (by kernel_rfl) q4) oblN))))) ?_)
  refine Runs.cd (b := false) (by kernel_rfl) (fun h => by cases h) (fun _ => Runs.now (x := .normal) (by kernel_rfl) ?_)
  show Runs Tryd.prog 0 (behind 5 b11) _ _
  refine Runs.less (af1 := sth (S11 l n h ++ [(12, i64 h), (14, .string W)]) 221 (w3 y l n)) (less_seenP (clo14 l n h W) w3_clo (Nat.zero_le _) (by kernel_rfl) (by kernel_rfl) (by kernel_rfl) (by kernel_rfl)) ?_
  exact law11_mid hh hn hW A (law11_fin (by omega) m1 m2 m3 b3 k)
end
end
end Go.Proofs.YtgnkjmgkfibipaaDoor
