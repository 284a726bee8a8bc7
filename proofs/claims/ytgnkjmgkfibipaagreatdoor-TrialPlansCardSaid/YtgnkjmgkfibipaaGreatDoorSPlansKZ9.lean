/- TrialWorded: the functions of plans, told at a plan's row in any heap. -/
import Derived.Test.YtgnkjmgkfibipaaGreatDoorSPlansKZ3
import Derived.Test.YtgnkjmgkfibipaaGreatDoorSPlansKZ2
import Derived.Test.YtgnkjmgkfibipaaGreatDoorSPlansRG10
import Derived.Shelf.Strings.OnBuilder
namespace Go.Proofs.YtgnkjmgkfibipaaGreatDoor
set_option linter.unusedVariables false
set_option linter.unusedSimpArgs false
open Go Go.R
set_option maxRecDepth 1000000
noncomputable section
section
variable {n q : Nat} {l : List Nat} {h : AH} {lv : Bool} {par : List Nat} {ty : Option TypeId} {fid : FuncId} {post : List Value}
theorem onlyP {v : Value} (h : plainV v = true) : ∀ u ∈ [v], plainV u = true := fun u hu => by rw [List.mem_singleton.1 hu]; exact h
theorem noP : ∀ u ∈ ([] : List Value), plainV u = true := fun u hu => by cases hu

noncomputable def c48 : Code := bodyOf Tryz.f9
theorem Word_local (cap : Nat) (f : Nat → Int) (hd : Int) (hc : n ≤ cap) (hn : n < 100000) (hx : askZ f n hd = 0) : Local Tryz.prog 1 9 [slV n cap, .int .i64 hd] (hp [viewZ n f]) fun v' _ => v' = .tuple #[.string (strB (wordF f n hd)), i64 0] := by
  refine local_of noNum Tryz.func9 (show Tryz.f9.body = some c48 by kernel_rfl) ?_
  refine Runs.sqR mixed hk38 [] (by kernel_rfl) (by kernel_rfl) (by kernel_rfl) oblN ?_
  have hS := asked_says n cap f hd hc hn
  rw [hx] at hS
  refine Runs.sq (by kernel_rfl) (Runs.sqR mixed hk38 [viaC 2 39 [slV n cap, .int .i64 hd] (i64 0)] (by kernel_rfl) (by kernel_rfl) (by kernel_rfl) (oblC (shown_callE (h0 := hp [viewZ n f]) (by kernel_rfl) (by kernel_rfl) hS) oblN) ?_)
  refine Runs.sqR mixed hk38 [] (by kernel_rfl) (by kernel_rfl) (by kernel_rfl) oblN ?_
  refine Runs.cd (b := false) (by kernel_rfl) (fun h => by cases h) (fun _ => Runs.now (x := .normal) (by kernel_rfl) ?_)
  show Runs Tryz.prog 1 _ _ _
  refine Runs.sqR mixed hk38 [viaC 2 44 [slV n cap, .int .i64 hd] (.string (strB (wordF f n hd)))] (by kernel_rfl) (by kernel_rfl) (by kernel_rfl)
    (oblC (shown_callE (h0 := hp [viewZ n f]) (by kernel_rfl) (by kernel_rfl) (word_says n cap f hd hn (Nat.le_refl 1) (hp_get _ 0 _ rfl))) oblN) ?_
  exact Runs.now (x := .ret) (by kernel_rfl) ⟨.inr rfl, [.string (strB (wordF f n hd)), i64 0], by kernel_rfl, rfl⟩
theorem Word_bad (cap : Nat) (f : Nat → Int) (hd : Int) (hc : n ≤ cap) (hn : n < 100000) (hx : askZ f n hd ≠ 0) : Local Tryz.prog 1 9 [slV n cap, .int .i64 hd] (hp [viewZ n f]) fun v' _ => v' = .tuple #[.string ⟨#[]⟩, .int .i64 (askZ f n hd)] := by
  refine local_of noNum Tryz.func9 (show Tryz.f9.body = some c48 by kernel_rfl) ?_
  refine Runs.sqR mixed hk38 [] (by kernel_rfl) (by kernel_rfl) (by kernel_rfl) oblN ?_
  have hne : (!(eqF (askZ f n hd) 0)) = true := by
    cases h : eqF (askZ f n hd) 0 with
    | false => rfl
    | true => rw [eqF_eq] at h; exact absurd (eq_of_beq h) hx
  refine Runs.sq (by kernel_rfl) (Runs.sqR mixed hk38 [viaC 2 39 [slV n cap, .int .i64 hd] (.int .i64 (askZ f n hd))] (by kernel_rfl) (by kernel_rfl) (by kernel_rfl) (oblC (shown_callE (h0 := hp [viewZ n f]) (by kernel_rfl) (by kernel_rfl) (asked_says n cap f hd hc hn)) oblN) ?_)
  refine Runs.sqR mixed hk38 [viaV 1 (.bool true)] (by kernel_rfl) (by kernel_rfl) (by kernel_rfl) (oblC (shown_eq (v := .bool (!(eqF (askZ f n hd) 0))) (by kernel_rfl) (by kernel_rfl) (by rw [hne])) oblN) ?_
  refine Runs.cd (b := true) (by kernel_rfl) (fun _ => ?_) (fun h => by cases h)
  exact Runs.sqR mixed hk38 [] (by kernel_rfl) (by kernel_rfl) (by kernel_rfl) oblN (Runs.now (x := .ret) (by kernel_rfl) ⟨.inr rfl, [.string ⟨#[]⟩, .int .i64 (askZ f n hd)], by kernel_rfl, rfl⟩)
end
end
end Go.Proofs.YtgnkjmgkfibipaaGreatDoor

/- strings.Join, and Sum over plans that pass the check. -/
namespace Go.Proofs
open Go.Shelf
def Tryz.joinR : Go.Shelf.Ren := ⟨fun | 156 => 50 | 165 => 76 | 166 => 77 | 169 => 72 | 240 => 96 | 241 => 98 | 276 => 113 | 277 => 118 | n => n, fun | 31 => 30 | 37 => 88 | 70 => 87 | 72 => 90 | 75 => 92 | 76 => 97 | 80 => 94 | 127 => 116 | 164 => 132 | n => n, fun | n => n⟩
theorem Tryz.joinI : Go.Proofs.Lays.n156 Tryz.prog Tryz.joinR where
  mixed := by kernel_rfl
  f156 := Tryz.func50.trans (congrArg some (by kernel_rfl))
  f165 := Tryz.func76.trans (congrArg some (by kernel_rfl))
  f166 := Tryz.func77.trans (congrArg some (by kernel_rfl))
  f169 := Tryz.func72.trans (congrArg some (by kernel_rfl))
  f240 := Tryz.func96.trans (congrArg some (by kernel_rfl))
  f241 := Tryz.func98.trans (congrArg some (by kernel_rfl))
  f276 := Tryz.func113.trans (congrArg some (by kernel_rfl))
  f277 := Tryz.func118.trans (congrArg some (by kernel_rfl))
  t0 := Tryz.underlying0
  a0 := Tryz.isAgg0
  z0 := Tryz.sizeOf0
  v0 := Tryz.zeroValue0
  t3 := Tryz.underlying3
  a3 := Tryz.isAgg3
  z3 := Tryz.sizeOf3
  v3 := Tryz.zeroValue3
  t4 := Tryz.underlying4
  a4 := Tryz.isAgg4
  z4 := Tryz.sizeOf4
  v4 := Tryz.zeroValue4
  t9 := Tryz.underlying9
  a9 := Tryz.isAgg9
  z9 := Tryz.sizeOf9
  v9 := Tryz.zeroValue9
  t20 := Tryz.underlying20
  a20 := Tryz.isAgg20
  z20 := Tryz.sizeOf20
  v20 := Tryz.zeroValue20
  t31 := Tryz.underlying30
  a31 := Tryz.isAgg30
  z31 := Tryz.sizeOf30
  v31 := Tryz.zeroValue30
  t37 := Tryz.underlying88
  a37 := Tryz.isAgg88
  z37 := Tryz.sizeOf88
  v37 := Tryz.zeroValue88
  t70 := Tryz.underlying87
  a70 := Tryz.isAgg87
  z70 := Tryz.sizeOf87
  v70 := Tryz.zeroValue87
  t72 := Tryz.underlying90
  a72 := Tryz.isAgg90
  z72 := Tryz.sizeOf90
  v72 := Tryz.zeroValue90
  t75 := Tryz.underlying92
  a75 := Tryz.isAgg92
  z75 := Tryz.sizeOf92
  v75 := Tryz.zeroValue92
  t76 := Tryz.underlying97
  a76 := Tryz.isAgg97
  z76 := Tryz.sizeOf97
  v76 := Tryz.zeroValue97
  t127 := Tryz.underlying116
  a127 := Tryz.isAgg116
  z127 := Tryz.sizeOf116
  v127 := Tryz.zeroValue116
  t164 := Tryz.underlying132
  a164 := Tryz.isAgg132
  z164 := Tryz.sizeOf132
  v164 := Tryz.zeroValue132
theorem Tryz.joinX : Go.Proofs.Builder.Extra Tryz.prog Tryz.joinR where
  sizeBuilder := by kernel_rfl
  liesBuilder := by kernel_rfl
  t5 := Tryz.underlying5
  a5 := Tryz.isAgg5
  z5 := Tryz.sizeOf5
  v5 := Tryz.zeroValue5
  infoByte := by kernel_rfl
  cellsByte := by kernel_rfl
  sizeByte := by kernel_rfl
  neB5 := by decide
end Go.Proofs
namespace Go.Proofs.YtgnkjmgkfibipaaGreatDoor
set_option linter.unusedVariables false
set_option linter.unusedSimpArgs false
open Go Go.R
set_option maxRecDepth 1000000
noncomputable section

def strsL (n : Nat) (g : Nat → ByteArray) : List ByteArray := (List.range n).map g
def joinB (n : Nat) (g : Nat → ByteArray) : ByteArray := ⟨(Lib.join ((strsL n g).map (·.data.toList)) []).toArray⟩
noncomputable def strE : Value := .string ⟨#[]⟩

theorem join_at {n i o : Nat} {g : Nat → ByteArray} {h : AH} {c : List Value} {lv : Bool} {par : List Nat} {ty : Option TypeId} {s : Value} (hn : n ≤ 100) (hlen : (Lib.join ((strsL n g).map (·.data.toList)) []).length ≤ 140737488355328)
    (hg : h.get i = .cells c lv par ty) (hsub : ∀ k, k < n → c[o + k]? = some (.string (g k))) (hs : SliceAt i o n s) : Says Tryz.prog h 50 [s, strE] (.string (joinB n g)) h := by
  intro F w0 μ w args' H hl
  obtain ⟨a1, a2, ea, r1, r2⟩ : ∃ a1 a2, args'.toList = [a1, a2] ∧ VR μ s a1 ∧ VR μ strE a2 := by
    match hq : args'.toList, hl with
    | [], hl => exact absurd hl.1 (by simp)
    | [x], hl => exact absurd hl.1 (by simp)
    | [x, y], hl => exact ⟨x, y, rfl, hl.head, hl.tail.head⟩
    | x :: y :: z :: l, hl => exact absurd hl.1 (by simp)
  obtain ⟨b, z, e, cap, hm, hcap, rfl⟩ := slice_place hs r1
  have e2 : a2 = strE := plain_same r2 rfl
  subst e2
  have hob := H.obj i b z e hm
  rw [hg] at hob
  obtain ⟨cs, el, fr, h1, h2, h3, h4, h5⟩ := hob
  have ll : (strsL n g).length = n := by simp [strsL]
  have cell : ∀ (j : Nat) x, (strsL n g)[j]? = some x → w.cell? ⟨b, z + o + j, none⟩ = some (.string x) := fun j x hj => by
    have hjn : j < n := by have := (List.getElem?_eq_some_iff.1 hj).1; omega
    have ex : x = g j := by simp [strsL, hjn] at hj; exact hj.symm
    subst ex
    obtain ⟨u', t1, t2⟩ := h4 (o + j) _ (hsub j hjn)
    rw [plain_same t2 rfl, ← Nat.add_assoc] at t1
    simp only [World.cell?, h1]
    exact t1
  have hbk : b < w.heap.size := (Array.getElem?_eq_some_iff.1 h1).1
  have C := Any.strings_Join Tryz.joinI Tryz.joinX b (z + o) cap (strsL n g) ⟨#[]⟩ w cell hbk (by omega) (by omega) hlen
  rw [ll] at C
  have eargs : args' = #[.slice (some ⟨b, z + o, none⟩) n cap, strE] := by
    apply Array.toList_inj.1
    rw [ea]
  subst eargs
  refine .inl ⟨enters noNum Tryz.func50 (show Tryz.f50.body = some (bodyOf Tryz.f50) by kernel_rfl) _ w, Calls.mono C ?_⟩
  rintro e w' ⟨rfl, bel⟩
  refine ⟨_, rfl, μ, .plain rfl, ?_, ?_⟩
  · exact ⟨H.dom, fun j b' z' e' hj => by
      by_cases hd : h.get j = .dead
      · rw [hd]; trivial
      · exact (H.obj j b' z' e' hj).world (bel.block b' (H.inb hj hd)), H.own, H.sep, H.par, bel.os.trans H.os, bel.tape.trans H.tape, bel.output.trans H.output, Nat.le_trans H.size bel.size, fun b' hb => by
      have q := H.fr b' hb
      exact ⟨q.1, (bel.block b' (Nat.lt_of_lt_of_le q.1 H.size)).trans q.2⟩⟩
  · exact ⟨Sub.refl μ, Nat.le_refl _, fun j hj hm' => ⟨hm', rfl⟩⟩
end
end Go.Proofs.YtgnkjmgkfibipaaGreatDoor

/- TrialWorded: Sum over plans that pass the check. -/
namespace Go.Proofs.YtgnkjmgkfibipaaGreatDoor
set_option linter.unusedVariables false
set_option linter.unusedSimpArgs false
open Go Go.R
set_option maxRecDepth 1000000
noncomputable section

def sizesTo (g : Nat → ByteArray) : Nat → Nat
  | 0 => 0
  | m + 1 => sizesTo g m + (g m).size
theorem lens_strs (g : Nat → ByteArray) : ∀ m, Lib.lens ((strsL m g).map (·.data.toList)) = sizesTo g m
  | 0 => rfl
  | m + 1 => by
    have := lens_strs g m
    unfold strsL Lib.lens at this ⊢
    rw [List.range_succ, List.map_append, List.map_append, List.map_append, List.sum_append, this]
    rfl
theorem join_len (g : Nat → ByteArray) (m : Nat) : (Lib.join ((strsL (m + 1) g).map (·.data.toList)) []).length = sizesTo g (m + 1) := by
  rw [← lens_strs]
  cases h : (strsL (m + 1) g).map (·.data.toList) with
  | nil =>
    have := congrArg List.length h
    simp [strsL] at this
  | cons x r => rw [Lib.join_length]; simp
theorem joinB_size (g : Nat → ByteArray) (m : Nat) : (joinB (m + 1) g).size = sizesTo g (m + 1) := by
  rw [← join_len]
  rfl

noncomputable def c52 : Code := bodyOf Tryz.f17
theorem sum_local (n cap : Nat) (f : Nat → Int) (hc : n ≤ cap) (hn : n < 100) (hx : chkN f n = 0) (hlen : sizesTo (wordS f n) (n + 1) ≤ 100000) :
    Local Tryz.prog 1 17 [slV n cap] (hp [viewZ n f]) fun v' _ => v' = .tuple #[i64 (sizesTo (wordS f n) (n + 1)), i64 0] := by
  refine local_of noNum Tryz.func17 (show Tryz.f17.body = some c52 by kernel_rfl) ?_
  refine Runs.sqR mixed hk38 [] (by kernel_rfl) (by kernel_rfl) (by kernel_rfl) oblN ?_
  have hch := check_says n cap f hc (by omega)
  rw [hx] at hch
  refine Runs.sq (by kernel_rfl) (Runs.sqR mixed hk38 [viaC 1 19 [slV n cap] (i64 0)] (by kernel_rfl) (by kernel_rfl) (by kernel_rfl) (oblC (shown_callE (h0 := hp [viewZ n f]) (by kernel_rfl) (by kernel_rfl) hch) oblN) ?_)
  refine Runs.sqR mixed hk38 [] (by kernel_rfl) (by kernel_rfl) (by kernel_rfl) oblN ?_
  refine Runs.cd (b := false) (by kernel_rfl) (fun h => by cases h) (fun _ => Runs.now (x := .normal) (by kernel_rfl) ?_)
  show Runs Tryz.prog 1 _ _ _
  have hj := join_at (n := n + 1) (i := 1) (o := 0) (g := wordS f n) (h := ((hp [viewZ n f]).new (rowS (n + 1) (wordS f n))).2) (c := strsV (n + 1) (wordS f n)) (lv := true) (par := []) (ty := some 9) (s := bldV 1 (n + 1)) (by omega) (by rw [join_len]; omega) (by kernel_rfl)
    (fun k hk => by rw [Nat.zero_add]; simp [strsV, hk]) (.inl ⟨0, rfl⟩)
  refine Runs.sqR mixed hk38 [viaH 1 46 [slV n cap] (bldV 1 (n + 1)) ((hp [viewZ n f]).new (rowS (n + 1) (wordS f n))).2, viaC 2 50 [bldV 1 (n + 1), strE] (.string (joinB (n + 1) (wordS f n))), viaV 3 (i64 (sizesTo (wordS f n) (n + 1)))] (by kernel_rfl) (by kernel_rfl) (by kernel_rfl)
    (oblC (shown_callHE (h0 := hp [viewZ n f]) (by kernel_rfl) (by kernel_rfl) (words_says n cap f hc (by omega))) (oblC (shown_callE (h0 := ((hp [viewZ n f]).new (rowS (n + 1) (wordS f n))).2) (by kernel_rfl) (by kernel_rfl) hj)
    (oblC (shown_eq (v := i64 (joinB (n + 1) (wordS f n)).size) (by kernel_rfl) (by kernel_rfl) (by rw [joinB_size])) oblN))) ?_
  exact Runs.now (x := .ret) (by kernel_rfl) ⟨.inr rfl, [i64 (sizesTo (wordS f n) (n + 1)), i64 0], by kernel_rfl, rfl⟩

/-! ### same, at any two rows -/
noncomputable def slW (i n cap : Nat) : Value := .slice (some ⟨i, 0, none⟩) n cap
noncomputable def Sv (n c1 c2 i : Nat) : List (Nat × Value) := [(0, slW 0 n c1), (1, slW 1 n c2), (5, i64 i)]
theorem sv_clo {n c1 c2 i : Nat} : ∀ q ∈ Sv n c1 c2 i, Clo 2 q.2 := clo_all (by kernel_rfl)
noncomputable def osV (n : Nat) (f : Nat → Int) : List AObj := [viewC (intsZ n f), viewC (intsZ n f)]
theorem osV_clo {n : Nat} {f : Nat → Int} : ∀ o ∈ osV n f, CloO 2 o := fun o ho => by
  simp only [osV, List.mem_cons, List.mem_nil_iff, or_false] at ho
  rcases ho with rfl | rfl <;> exact cloO_plain (intsZ_plain n f) _ _
theorem sameV_loop (n c1 c2 : Nat) (f : Nat → Int) (hn : n < 1000000) : ∀ d i, i + d = n →
    Runs Tryz.prog 2 lp21 (sth (Sv n c1 c2 i) 26 (osV n f)) fun x af => x = .exit 0 ∧ Less 2 (sth [] 26 (osV n f)) af := by
  intro d
  induction d with
  | zero =>
    intro i hi
    have him : i = n := by omega
    subst him
    refine Runs.lp (by kernel_rfl) (Runs.sq (by kernel_rfl) (Runs.sqR mixed hk38 [] (by kernel_rfl) (by kernel_rfl) (by kernel_rfl) oblN ?_))
    refine Runs.cd (b := ltF (.ofNat i) (.ofNat i)) (by kernel_rfl) (fun ht => by rw [lt_self] at ht; cases ht) (fun _ => Runs.now (x := .exit 0) (by kernel_rfl) ⟨rfl, ?_⟩)
    exact less_seenP (fun p hp => by cases hp) osV_clo (Nat.le_refl 2) (by kernel_rfl) (by kernel_rfl) (by kernel_rfl) (by kernel_rfl)
  | succ d ih =>
    intro i hi
    have hlt : i < n := by omega
    refine Runs.lp (by kernel_rfl) (Runs.sq (by kernel_rfl) (Runs.sqR mixed hk38 [] (by kernel_rfl) (by kernel_rfl) (by kernel_rfl) oblN ?_))
    refine Runs.cd (b := ltF (.ofNat i) (.ofNat n)) (by kernel_rfl) (fun _ => Runs.now (x := .normal) (by kernel_rfl) ?_) (fun hf => by rw [lt_of hlt] at hf; cases hf)
    show Runs Tryz.prog 2 _ _ _
    refine Runs.sq (by kernel_rfl) (Runs.bk (id := 1) (by kernel_rfl) ?_)
    refine Runs.sqR mixed hk38 [viaV 2 (.pointer (some ⟨0, 0 + i * 1, none⟩)), viaV 3 (.int .i64 (f i)), viaV 6 (.pointer (some ⟨1, 0 + i * 1, none⟩)), viaV 7 (.int .i64 (f i)), viaV 8 (.bool false)] (by kernel_rfl) (by kernel_rfl) (by kernel_rfl)
      (oblC (shown_idx (n := n) (by kernel_rfl) hlt) (oblC (shown_cell (by kernel_rfl) (intZ_at (g := 0) (n := n) (f := f) (lv := false) (par := []) (ty := none) (by kernel_rfl) hlt))
      (oblC (shown_idx (n := n) (by kernel_rfl) hlt) (oblC (shown_cell (by kernel_rfl) (intZ_at (g := 1) (n := n) (f := f) (lv := false) (par := []) (ty := none) (by kernel_rfl) hlt))
      (oblC (shown_eq (v := .bool (!(eqF (f i) (f i)))) (by kernel_rfl) (by kernel_rfl) (by rw [eqF_eq, beq_self_eq_true]; rfl)) oblN))))) ?_
    refine Runs.cd (b := false) (by kernel_rfl) (fun h => by cases h) (fun _ => Runs.now (x := .normal) (by kernel_rfl) ?_)
    show Runs Tryz.prog 2 _ _ _
    refine Runs.rg mixed hk38 [] (by kernel_rfl) (by kernel_rfl) (by kernel_rfl) oblN ?_
    show Runs Tryz.prog 2 lp21 _ _
    have ew : Sv n c1 c2 (i + 1) = [(0, slW 0 n c1), (1, slW 1 n c2), (5, .int .i64 (wrapF .i64 (Int.add (.ofNat i) (.ofNat 1))))] := by unfold Sv; rw [wrap_succ (by omega : i < 4611686018427387904)]; rfl
    refine Runs.less (af1 := sth (Sv n c1 c2 (i + 1)) 26 (osV n f)) (less_seenP sv_clo osV_clo (Nat.le_refl 2) ?_ (by kernel_rfl) (by kernel_rfl) (by kernel_rfl)) (ih (i + 1) (by omega))
    rw [ew]
    exact Eq.trans (Eq.refl _) (by kernel_rfl)
theorem sameV_local (n c1 c2 : Nat) (f : Nat → Int) (hn : n < 1000000) : Local Tryz.prog 2 13 [slW 0 n c1, slW 1 n c2] (hp (osV n f)) fun v' _ => v' = .bool true := by
  refine local_of noNum Tryz.func13 (show Tryz.f13.body = some c21 by kernel_rfl) ?_
  refine Runs.sqR mixed hk38 [] (by kernel_rfl) (by kernel_rfl) (by kernel_rfl) oblN ?_
  refine Runs.sq (by kernel_rfl) (Runs.sqR mixed hk38 [viaV 4 (.bool false)] (by kernel_rfl) (by kernel_rfl) (by kernel_rfl)
    (oblC (shown_eq (v := .bool (!(eqF (.ofNat n) (.ofNat n)))) (by kernel_rfl) (by kernel_rfl) (by rw [eq_self]; rfl)) oblN) ?_)
  refine Runs.cd (b := false) (by kernel_rfl) (fun h => by cases h) (fun _ => Runs.now (x := .normal) (by kernel_rfl) ?_)
  show Runs Tryz.prog 2 _ _ _
  refine Runs.sq (by kernel_rfl) (Runs.sqR mixed hk38 [] (by kernel_rfl) (by kernel_rfl) (by kernel_rfl) oblN (Runs.bk (id := 0) (by kernel_rfl) ?_))
  refine Runs.less (af1 := sth (Sv n c1 c2 0) 26 (osV n f)) (less_seenP sv_clo osV_clo (Nat.le_refl 2) (by kernel_rfl) (by kernel_rfl) (by kernel_rfl) (by kernel_rfl)) ?_
  refine (sameV_loop n c1 c2 f hn n 0 (by omega)).mono fun x af hx => ?_
  obtain ⟨rfl, less⟩ := hx
  show Runs Tryz.prog 2 _ af _
  exact Runs.less less (Runs.sqR mixed hk38 [] (by kernel_rfl) (by kernel_rfl) (by kernel_rfl) oblN (Runs.now (x := .ret) (by kernel_rfl) ⟨.inr rfl, [.bool true], by kernel_rfl, rfl⟩))
theorem same_rows {h : AH} {i1 i2 : Nat} {T : List Int} {lv1 lv2 : Bool} {par1 par2 : List Nat} {ty1 ty2 : Option TypeId} {s1 s2 : Value} (hT : T.length < 1000000) (hg1 : h.get i1 = .cells (litZ T) lv1 par1 ty1) (hg2 : h.get i2 = .cells (litZ T) lv2 par2 ty2)
    (hs1 : SliceAt i1 0 T.length s1) (hs2 : SliceAt i2 0 T.length s2) : Says Tryz.prog h 13 [s1, s2] (.bool true) h := by
  have e : intsZ T.length (fun i => T.getD i 0) = litZ T := by
    apply List.ext_getElem?
    intro i
    unfold intsZ litZ
    rw [List.getElem?_map, List.getElem?_map]
    by_cases hi : i < T.length
    · rw [List.getElem?_range hi, List.getElem?_eq_getElem hi]
      simp [List.getD_eq_getElem?_getD, List.getElem?_eq_getElem hi]
    · rw [List.getElem?_eq_none (by simpa using hi), List.getElem?_eq_none (by omega)]
      rfl
  exact tell_two (P := Tryz.prog) (fid := 13) (i1 := i1) (o1 := 0) (n1 := T.length) (i2 := i2) (o2 := 0) (n2 := T.length) (cells1 := intsZ T.length (fun i => T.getD i 0)) (cells2 := intsZ T.length (fun i => T.getD i 0)) (R := fun v' _ => v' = .bool true)
    (fun c1 c2 _ _ => sameV_local T.length c1 c2 _ hT) (fun _ _ r => r) rfl hg1 (fun k u hk => by rw [Nat.zero_add, ← e]; exact hk) (by rw [e, Nat.zero_add]; exact Nat.le_refl _) (intsZ_plain _ _) hs1
    hg2 (fun k u hk => by rw [Nat.zero_add, ← e]; exact hk) (by rw [e, Nat.zero_add]; exact Nat.le_refl _) (intsZ_plain _ _) hs2
end
end Go.Proofs.YtgnkjmgkfibipaaGreatDoor
