/- TrialPlans: the reference's planned. -/
import Derived.Test.YtgnkjmgkfibipaaGreatDoorSPlansKZ4
import Derived.Test.YtgnkjmgkfibipaaGreatDoorSPlansRVia2
namespace Go.Proofs.YtgnkjmgkfibipaaGreatDoor
set_option linter.unusedVariables false
set_option linter.unusedSimpArgs false
open Go Go.R
set_option maxRecDepth 1000000
noncomputable section

theorem lstF_zero (f : Nat → Int) (m : Nat) : lstF f (m + 1) = f 0 :: (lstF f (m + 1)).drop 1 := by
  have := lstF_drop (f := f) (n := m + 1) (i := 0) (by omega)
  rwa [List.drop_zero] at this
theorem lstF_getD (T : List Int) : lstF (fun i => T.getD i 0) T.length = T := by
  apply List.ext_getElem
  · rw [lstF_len]
  · intro i h1 h2
    rw [lstF_at, List.getD_eq_getElem?_getD, List.getElem?_eq_getElem h2]
    rfl
theorem litZ_ints (T : List Int) : litZ T = intsZ T.length (fun i => T.getD i 0) := by
  have e := lstF_getD T
  unfold lstF at e
  unfold litZ intsZ
  conv => lhs; rw [← e]
  rw [List.map_map]
  rfl
theorem low_le (x : Int) (f : Nat → Int) (m : Nat) : (lowL (f 0) (lstF f (m + 1))).length ≤ m := by
  rw [lstF_zero, lowL_cons]
  refine Nat.le_trans (lowL_len _ _) ?_
  rw [List.length_drop, lstF_len]
  omega
theorem high_le (x : Int) (f : Nat → Int) (m : Nat) : (highL (f 0) (lstF f (m + 1))).length ≤ m := by
  rw [lstF_zero, highL_cons]
  refine Nat.le_trans (highL_len _ _) ?_
  rw [List.length_drop, lstF_len]
  omega
/-- The first step of planned. -/
theorem first_all {f : Nat → Int} {m : Nat} {B : List Int} (hB : B.length ≤ m) : ((lstF f (m + 1)).drop 1).take B.length = B ↔ ∀ j, j < B.length → f (j + 1) = B.getD j 0 := by
  have hl : (((lstF f (m + 1)).drop 1).take B.length).length = B.length := by rw [List.length_take, List.length_drop, lstF_len]; omega
  have at_ : ∀ j (h : j < (((lstF f (m + 1)).drop 1).take B.length).length), (((lstF f (m + 1)).drop 1).take B.length)[j] = f (j + 1) := fun j h => by
    rw [List.getElem_take, List.getElem_drop, lstF_at, Nat.add_comm]
  constructor
  · intro h j hj
    have h1 := at_ j (by rw [hl]; exact hj)
    rw [← h1, List.getD_eq_getElem?_getD, List.getElem?_eq_getElem hj]
    simp only [h]
    rfl
  · intro h
    apply List.ext_getElem hl
    intro j h1 h2
    rw [at_ j h1, h j h2, List.getD_eq_getElem?_getD, List.getElem?_eq_getElem h2]
    rfl

noncomputable def c54 : Code := bodyOf Tryz.f54
noncomputable def lp54 : Code := within (tl (hd (behind 3 c54)))
noncomputable def S54 (n cap : Nat) (B A : List Int) (i : Nat) : List (Nat × Value) := [(0, slV n cap), (3, slZ 1 B), (4, slZ 2 A), (5, i64 i)]
section
variable {n cap : Nat} {f : Nat → Int} {B A : List Int}
theorem os3_clo : ∀ o ∈ os3 n f B A, CloO 3 o := fun o ho => by
  simp only [os3, List.mem_cons, List.mem_nil_iff, or_false] at ho
  rcases ho with rfl | rfl | rfl
  · exact cloO_plain (intsZ_plain n f) _ _
  · exact obZ_clo B 3
  · exact obZ_clo A 3
theorem S54_clo (i : Nat) : ∀ p ∈ S54 n cap B A i, Clo 3 p.2 := fun p hp => by
  simp only [S54, List.mem_cons, List.mem_nil_iff, or_false] at hp
  rcases hp with rfl | rfl | rfl | rfl
  · exact clo_of 10 3 _ (by kernel_rfl)
  · exact slZ_clo (by decide) B
  · exact slZ_clo (by decide) A
  · exact clo_plain rfl
theorem rowT_at {h : AH} {g i : Nat} {T : List Int} {lv : Bool} {par : List Nat} {ty : Option TypeId} (hg : h.get g = .cells (litZ T) lv par ty) (hi : i < T.length) : rowAt? h g (0 + i * 1) 1 = some [.int .i64 (T.getD i 0)] := by
  rw [litZ_ints] at hg
  exact intZ_at hg hi
/-- The state behind the loop. -/
noncomputable def E54 (n cap : Nat) (f : Nat → Int) (B A : List Int) : AF := sth [(0, slV n cap), (3, slZ 1 B), (4, slZ 2 A)] 39 (os3 n f B A)
theorem plan_cons {b : Int} (hn : n < 100000) (hB : (b :: B).length < n) : ∀ d i, i + d = (b :: B).length → (∀ j, j < i → f (j + 1) = (b :: B).getD j 0) →
    Runs Tryz.prog 1 lp54 (sth (S54 n cap (b :: B) A i) 39 (os3 n f (b :: B) A)) fun e af =>
      (e = .exit 0 ∧ (∀ j, j < (b :: B).length → f (j + 1) = (b :: B).getD j 0) ∧ Less 1 (E54 n cap f (b :: B) A) af) ∨ (e = .ret ∧ (¬ ∀ j, j < (b :: B).length → f (j + 1) = (b :: B).getD j 0) ∧ af.tm.get 2 = some (.bool false))
  | 0, i, h, hj => by
    have e : i = (b :: B).length := by omega
    refine Runs.lp (by kernel_rfl) (Runs.sq (by kernel_rfl) (Runs.sqR mixed hk38 [] (by kernel_rfl) (by kernel_rfl) (by kernel_rfl) oblN ?_))
    refine Runs.cd (b := ltF (.ofNat i) (.ofNat (b :: B).length)) (by kernel_rfl) (fun ht => by rw [e, lt_self] at ht; cases ht) (fun _ => Runs.now (x := .exit 0) (by kernel_rfl) (.inl ⟨rfl, e ▸ hj, ?_⟩))
    refine less_seenP (fun p hp => S54_clo (n := n) (cap := cap) (B := b :: B) (A := A) i p ?_) os3_clo (show 1 ≤ 3 by decide) (by kernel_rfl) (by kernel_rfl) (by kernel_rfl) (by kernel_rfl)
    simp only [S54, List.mem_cons, List.mem_nil_iff, or_false] at hp ⊢
    rcases hp with hp | hp | hp
    · exact .inl hp
    · exact .inr (.inl hp)
    · exact .inr (.inr (.inl hp))
  | d + 1, i, h, hj => by
    have hlt : i < (b :: B).length := by omega
    have e1 : wrapF .i64 (Int.add (.ofNat i) (.ofNat 1)) = .ofNat (i + 1) := wrap_addN (by omega)
    have e2 : wrapF .i64 (Int.add (.ofNat 1) (.ofNat i)) = .ofNat (i + 1) := by
      rw [show Int.add (.ofNat 1) (.ofNat i) = Int.add (.ofNat i) (.ofNat 1) from Int.add_comm _ _]; exact e1
    refine Runs.lp (by kernel_rfl) (Runs.sq (by kernel_rfl) (Runs.sqR mixed hk38 [] (by kernel_rfl) (by kernel_rfl) (by kernel_rfl) oblN ?_))
    refine Runs.cd (b := ltF (.ofNat i) (.ofNat (b :: B).length)) (by kernel_rfl) (fun _ => Runs.now (x := .normal) (by kernel_rfl) ?_) (fun hf => by rw [lt_of hlt] at hf; cases hf)
    show Runs Tryz.prog 1 _ _ _
    refine Runs.sq (by kernel_rfl) (Runs.bk (id := 1) (by kernel_rfl) ?_)
    cases hq : eqF (f (i + 1)) ((b :: B).getD i 0) with
    | false =>
      refine Runs.sqR mixed hk38 [viaV 2 (i64 (i + 1)), viaV 3 (.pointer (some ⟨0, 0 + (i + 1) * 1, none⟩)), viaV 4 (.int .i64 (f (i + 1))), viaV 7 (.pointer (some ⟨1, 0 + i * 1, none⟩)), viaV 8 (.int .i64 ((b :: B).getD i 0)), viaV 9 (.bool true)] (by kernel_rfl) (by kernel_rfl) (by kernel_rfl)
        (oblC (shown_eq (v := .int .i64 (wrapF .i64 (Int.add (.ofNat 1) (.ofNat i)))) (by kernel_rfl) (by kernel_rfl) (by rw [e2]; rfl))
        (oblC (shown_idx (n := n) (i := i + 1) (by kernel_rfl) (by omega)) (oblC (shown_cell (by kernel_rfl) (intZ_at (g := 0) (n := n) (i := i + 1) (f := f) (lv := false) (par := []) (ty := none) (by kernel_rfl) (by omega)))
        (oblC (shown_idx (n := (b :: B).length) (by kernel_rfl) hlt) (oblC (shown_cell (by kernel_rfl) (rowT_at (g := 1) (T := b :: B) (lv := true) (par := []) (ty := some 3) (by kernel_rfl) hlt))
        (oblC (shown_eq (v := .bool (!(eqF (f (i + 1)) ((b :: B).getD i 0)))) (by kernel_rfl) (by kernel_rfl) (by rw [hq]; rfl)) oblN)))))) ?_
      refine Runs.cd (b := true) (by kernel_rfl) (fun _ => ?_) (fun h => by cases h)
      refine Runs.sqR mixed hk38 [] (by kernel_rfl) (by kernel_rfl) (by kernel_rfl) oblN (Runs.now (x := .ret) (by kernel_rfl) (.inr ⟨rfl, fun q => ?_, by kernel_rfl⟩))
      have := q i hlt
      rw [this, eqF_eq, beq_self_eq_true] at hq
      cases hq
    | true =>
      refine Runs.sqR mixed hk38 [viaV 2 (i64 (i + 1)), viaV 3 (.pointer (some ⟨0, 0 + (i + 1) * 1, none⟩)), viaV 4 (.int .i64 (f (i + 1))), viaV 7 (.pointer (some ⟨1, 0 + i * 1, none⟩)), viaV 8 (.int .i64 ((b :: B).getD i 0)), viaV 9 (.bool false)] (by kernel_rfl) (by kernel_rfl) (by kernel_rfl)
        (oblC (shown_eq (v := .int .i64 (wrapF .i64 (Int.add (.ofNat 1) (.ofNat i)))) (by kernel_rfl) (by kernel_rfl) (by rw [e2]; rfl))
        (oblC (shown_idx (n := n) (i := i + 1) (by kernel_rfl) (by omega)) (oblC (shown_cell (by kernel_rfl) (intZ_at (g := 0) (n := n) (i := i + 1) (f := f) (lv := false) (par := []) (ty := none) (by kernel_rfl) (by omega)))
        (oblC (shown_idx (n := (b :: B).length) (by kernel_rfl) hlt) (oblC (shown_cell (by kernel_rfl) (rowT_at (g := 1) (T := b :: B) (lv := true) (par := []) (ty := some 3) (by kernel_rfl) hlt))
        (oblC (shown_eq (v := .bool (!(eqF (f (i + 1)) ((b :: B).getD i 0)))) (by kernel_rfl) (by kernel_rfl) (by rw [hq]; rfl)) oblN)))))) ?_
      refine Runs.cd (b := false) (by kernel_rfl) (fun h => by cases h) (fun _ => Runs.now (x := .normal) (by kernel_rfl) ?_)
      show Runs Tryz.prog 1 _ _ _
      refine Runs.rg mixed hk38 [viaV 1 (i64 (i + 1))] (by kernel_rfl) (by kernel_rfl) (by kernel_rfl) (oblC (shown_eq (v := .int .i64 (wrapF .i64 (Int.add (.ofNat i) (.ofNat 1)))) (by kernel_rfl) (by kernel_rfl) (by rw [e1]; rfl)) oblN) ?_
      show Runs Tryz.prog 1 lp54 _ _
      refine Runs.less (af1 := sth (S54 n cap (b :: B) A (i + 1)) 39 (os3 n f (b :: B) A)) (less_seenP (S54_clo (i + 1)) os3_clo (show 1 ≤ 3 by decide) (by kernel_rfl) (by kernel_rfl) (by kernel_rfl) (by kernel_rfl)) ?_
      refine plan_cons hn hB d (i + 1) (by omega) fun j hj' => ?_
      by_cases e : j = i
      · subst e
        rw [eqF_eq] at hq
        exact eq_of_beq hq
      · exact hj j (by omega)
theorem plan_loop (hn : n < 100000) (hB : B.length < n) : Runs Tryz.prog 1 lp54 (sth (S54 n cap B A 0) 39 (os3 n f B A)) fun e af =>
      (e = .exit 0 ∧ (∀ j, j < B.length → f (j + 1) = B.getD j 0) ∧ Less 1 (E54 n cap f B A) af) ∨ (e = .ret ∧ (¬ ∀ j, j < B.length → f (j + 1) = B.getD j 0) ∧ af.tm.get 2 = some (.bool false)) := by
  cases B with
  | cons b B => exact plan_cons hn hB (b :: B).length 0 (Nat.zero_add _) fun j hj => by omega
  | nil =>
    refine Runs.lp (by kernel_rfl) (Runs.sq (by kernel_rfl) (Runs.sqR mixed hk38 [] (by kernel_rfl) (by kernel_rfl) (by kernel_rfl) oblN ?_))
    refine Runs.cd (b := false) (by kernel_rfl) (fun h => by cases h) (fun _ => Runs.now (x := .exit 0) (by kernel_rfl) (.inl ⟨rfl, fun j hj => (by cases hj), ?_⟩))
    refine less_seenP (fun p hp => S54_clo (n := n) (cap := cap) (B := []) (A := A) 0 p ?_) os3_clo (show 1 ≤ 3 by decide) (by kernel_rfl) (by kernel_rfl) (by kernel_rfl) (by kernel_rfl)
    simp only [S54, List.mem_cons, List.mem_nil_iff, or_false] at hp ⊢
    rcases hp with hp | hp | hp
    · exact .inl hp
    · exact .inr (.inl hp)
    · exact .inr (.inr (.inl hp))
end
end
end Go.Proofs.YtgnkjmgkfibipaaGreatDoor

/- TrialPlans: the reference's planned, as a contract. -/
namespace Go.Proofs.YtgnkjmgkfibipaaGreatDoor
set_option linter.unusedVariables false
set_option linter.unusedSimpArgs false
open Go Go.R
set_option maxRecDepth 1000000
noncomputable section

/-! ### Told at a list in a row of its own, or nil -/
section
variable {q : Nat} {T : List Int} {h : AH} {fid : FuncId} {post : List Value}
theorem slZ_at (T : List Int) (x : Int) (l : List Int) (e : T = x :: l) : slZ q T = .slice (some ⟨q, 0, some 1⟩) T.length T.length := by subst e; rfl
theorem at_slZ_flat {R : Value → AH → Prop} {v : Value} (nil : T = [] → Says Tryz.prog h fid (.slice none 0 0 :: post) v h) (L : ∀ cap, T.length ≤ cap → Local Tryz.prog 1 fid (slV T.length cap :: post) (hp [viewZ T.length (fun i => T.getD i 0)]) R)
    (hR : ∀ v' h', R v' h' → v' = v) (fv : flatV v = true) (pq : ∀ u ∈ post, plainV u = true) (hg : h.get q = obZ T) : Says Tryz.prog h fid (slZ q T :: post) v h := by
  cases hT : T with
  | nil => exact nil hT
  | cons x l =>
    rw [hT] at hg
    rw [← hT]
    have e1 := litZ_ints T
    exact tell_flat (P := Tryz.prog) (pre := []) (post := post) (i := q) (o := 0) (n := T.length) (s := slZ q T) (c := litZ T) (cells := intsZ T.length (fun i => T.getD i 0)) (lv := true) (par := []) (ty := some 3) (R := R) L hR fv (by rw [hT]; exact hg) (fun k u hk => by rw [Nat.zero_add, e1]; exact hk)
      (by rw [Nat.zero_add, e1]; exact Nat.le_refl _) (intsZ_plain _ _) (.inl ⟨0, slZ_at T x l hT⟩) (fun v hv => by cases hv) pq
theorem at_slZ_new {n1 : Nat} {cells1 : List Value} {ty1 : Option TypeId} {e1 : Option Value} {x : Int} {l : List Int} (hT : T = x :: l) (L : ∀ cap, T.length ≤ cap → Local Tryz.prog 1 fid (slV T.length cap :: post) (hp [viewZ T.length (fun i => T.getD i 0)]) (IsRow n1 cells1 ty1 e1))
    (hl1 : cells1.length = n1) (hcl : ∀ u ∈ cells1, plainV u = true) (pe : ∀ v, e1 = some v → plainV v = true) (pq : ∀ u ∈ post, plainV u = true) (hg : h.get q = obZ T) :
    Says Tryz.prog h fid (slZ q T :: post) (rowV h.next n1 e1) (h.new (.cells cells1 true [] ty1)).2 := by
  have e := litZ_ints T
  exact tell_new (P := Tryz.prog) (pre := []) (post := post) (i := q) (o := 0) (n := T.length) (s := slZ q T) (c := litZ T) (cells := intsZ T.length (fun i => T.getD i 0)) (lv := true) (par := []) (ty := some 3) L hl1 hcl pe (by rw [hg, hT]; rfl) (fun k u hk => by rw [Nat.zero_add, e]; exact hk)
    (by rw [Nat.zero_add, e]; exact Nat.le_refl _) (intsZ_plain _ _) (.inl ⟨0, slZ_at T x l hT⟩) (fun v hv => by cases hv) pq
end

theorem planned_nil_local : Local Tryz.prog 0 54 [.slice none 0 0] AH.empty fun v' _ => v' = .bool true := by
  refine local_of noNum Tryz.func54 (show Tryz.f54.body = some c54 by kernel_rfl) ?_
  exact Runs.lastEq (R := fun v' _ => v' = .bool true) mixed hk38 (n := 100) (x := .ret) (vs := [.bool true]) (Nat.zero_le _) (.inr rfl) (by kernel_rfl) (fun _ => rfl)
theorem planned_nil (h : AH) : Says Tryz.prog h 54 [.slice none 0 0] (.bool true) h := fun F w0 μ w args' H hl =>
  planned_nil_local.closed (fun v hv => by rw [List.mem_singleton.1 hv]; rfl) rfl h H hl
theorem planned_zero (d cap : Nat) (f : Nat → Int) : Local Tryz.prog 1 54 [slV 0 cap] (hp [viewZ 0 f]) fun v' _ => v' = .bool (planL d (lstF f 0)) := by
  have e : planL d (lstF f 0) = true := by cases d <;> rfl
  rw [e]
  refine local_of noNum Tryz.func54 (show Tryz.f54.body = some c54 by kernel_rfl) ?_
  refine Runs.sqR mixed hk38 [] (by kernel_rfl) (by kernel_rfl) (by kernel_rfl) oblN ?_
  refine Runs.sq (by kernel_rfl) (Runs.sqR mixed hk38 [] (by kernel_rfl) (by kernel_rfl) (by kernel_rfl) oblN ?_)
  refine Runs.cd (b := true) (by kernel_rfl) (fun _ => ?_) (fun h => by cases h)
  exact Runs.sqR mixed hk38 [] (by kernel_rfl) (by kernel_rfl) (by kernel_rfl) oblN (Runs.now (x := .ret) (by kernel_rfl) ⟨.inr rfl, [.bool true], by kernel_rfl, rfl⟩)

def PlanAll (d : Nat) : Prop := ∀ (n cap : Nat) (f : Nat → Int), n ≤ d → n < 100000 → Local Tryz.prog 1 54 [slV n cap] (hp [viewZ n f]) fun v' _ => v' = .bool (planL d (lstF f n))
theorem planned_at {d q : Nat} {T : List Int} {h : AH} (IH : PlanAll d) (hT : T.length ≤ d) (hb : T.length < 100000) (hg : h.get q = obZ T) : Says Tryz.prog h 54 [slZ q T] (.bool (planL d T)) h := by
  refine at_slZ_flat (R := fun v' _ => v' = .bool (planL d T)) (fun e => ?_) (fun cap _ => ?_) (fun _ _ r => r) rfl noP hg
  · have : planL d T = true := by subst e; cases d <;> rfl
    rw [this]
    exact planned_nil h
  · have := IH T.length cap (fun i => T.getD i 0) hT hb
    rw [lstF_getD] at this
    exact this

theorem slZ_ne {B A : List Int} (h : B ≠ [] ∨ A ≠ []) : slZ 1 B ≠ slZ 2 A := by
  cases B with
  | nil =>
    cases A with
    | nil => exact absurd rfl (h.resolve_left (fun q => q rfl))
    | cons a A => intro e; cases e
  | cons b B =>
    cases A with
    | nil => intro e; cases e
    | cons a A =>
      intro e
      have e : (Value.slice (some ⟨1, 0, some 1⟩) (B.length + 1) (B.length + 1)) = .slice (some ⟨2, 0, some 1⟩) (A.length + 1) (A.length + 1) := e
      simp only [Value.slice.injEq, Option.some.injEq, Addr.mk.injEq] at e
      exact absurd e.1.1 (by decide)

theorem plan_tail {n cap d : Nat} {f : Nat → Int} {B A : List Int} (hn : n < 100000) (IH : PlanAll d) (hB : B.length ≤ d) (hA : A.length ≤ d) (hb : B.length < 100000) (ha : A.length < 100000) :
    Runs Tryz.prog 1 (behind 4 c54) (E54 n cap f B A) (EndsAs Tryz.prog Tryz.f54 fun v' _ => v' = .bool (planL d B && planL d A)) := by
  have p1 := planned_at (h := hp (os3 n f B A)) (q := 1) IH hB hb (by kernel_rfl)
  have p2 := planned_at (h := hp (os3 n f B A)) (q := 2) IH hA ha (by kernel_rfl)
  unfold E54
  by_cases hne : B = [] ∧ A = []
  · obtain ⟨rfl, rfl⟩ := hne
    have e : planL d [] = true := by cases d <;> rfl
    rw [e]
    exact Runs.lastEq (R := fun v' _ => v' = .bool true) mixed hk38 (n := 100) (x := .ret) (vs := [.bool true]) (Nat.le_of_ble_eq_true (by kernel_rfl)) (.inr rfl) (by kernel_rfl) (fun _ => rfl)
  · have hne' : B ≠ [] ∨ A ≠ [] := by
      by_cases q : B = []
      · exact .inr fun q2 => hne ⟨q, q2⟩
      · exact .inl q
    cases e1 : planL d B with
    | false =>
      rw [e1] at p1
      refine Runs.sqR mixed hk38 [viaC 1 54 [slZ 1 B] (.bool false)] (by kernel_rfl) (by kernel_rfl) (by kernel_rfl) (oblC (shown_callE (h0 := hp (os3 n f B A)) (by kernel_rfl) (by kernel_rfl) p1) oblN) ?_
      exact Runs.now (x := .ret) (by kernel_rfl) ⟨.inr rfl, [.bool false], by kernel_rfl, rfl⟩
    | true =>
      rw [e1] at p1
      have hwho : (whoL [viaC 1 54 [slZ 1 B] (.bool true), viaC 4 54 [slZ 2 A] (.bool (planL d A))]).Pairwise (· ≠ ·) := by
        show List.Pairwise _ [((54 : FuncId), [slZ 1 B]), (54, [slZ 2 A])]
        refine List.Pairwise.cons (fun p hp => ?_) (List.pairwise_singleton _ _)
        rw [List.mem_singleton.1 hp]
        intro e
        simp only [Prod.mk.injEq, List.cons.injEq, and_true, true_and] at e
        exact slZ_ne hne' e
      refine Runs.sqR2 mixed hk38 [viaC 1 54 [slZ 1 B] (.bool true), viaC 4 54 [slZ 2 A] (.bool (planL d A))] (by kernel_rfl) (by kernel_rfl) hwho (by kernel_rfl)
        (oblC (shown_callE (h0 := hp (os3 n f B A)) (by kernel_rfl) (by kernel_rfl) p1) (oblC (shown_callE (h0 := hp (os3 n f B A)) (by kernel_rfl) (by kernel_rfl) p2) oblN)) ?_
      exact Runs.now (x := .ret) (by kernel_rfl) ⟨.inr rfl, [.bool (planL d A)], by kernel_rfl, rfl⟩

theorem plan_all : ∀ d, PlanAll d
  | 0, n, cap, f, h, _ => by
    have e : n = 0 := Nat.le_zero.1 h
    subst e
    exact planned_zero 0 cap f
  | d + 1, 0, cap, f, h, _ => planned_zero (d + 1) cap f
  | d + 1, m + 1, cap, f, h, hb => by
    have IH := plan_all d
    have hB : (lowL (f 0) (lstF f (m + 1))).length ≤ m := low_le 0 f m
    have hA : (highL (f 0) (lstF f (m + 1))).length ≤ m := high_le 0 f m
    have eP : planL (d + 1) (lstF f (m + 1)) = (decide (((lstF f (m + 1)).drop 1).take (lowL (f 0) (lstF f (m + 1))).length = lowL (f 0) (lstF f (m + 1))) && (planL d (lowL (f 0) (lstF f (m + 1))) && planL d (highL (f 0) (lstF f (m + 1))))) := by
      conv => lhs; rw [lstF_zero]
      rw [planL, ← lstF_zero]
    have hp := parted_says (n := m + 1) (cap := cap) (f := f) (x := f 0) hb
    have hf := first_all (f := f) (m := m) hB
    rw [eP]
    generalize lowL (f 0) (lstF f (m + 1)) = B at *
    generalize highL (f 0) (lstF f (m + 1)) = A at *
    refine local_of noNum Tryz.func54 (show Tryz.f54.body = some c54 by kernel_rfl) ?_
    refine Runs.sqR mixed hk38 [] (by kernel_rfl) (by kernel_rfl) (by kernel_rfl) oblN ?_
    refine Runs.sq (by kernel_rfl) (Runs.sqR mixed hk38 [] (by kernel_rfl) (by kernel_rfl) (by kernel_rfl) oblN ?_)
    refine Runs.cd (b := false) (by kernel_rfl) (fun h => by cases h) (fun _ => Runs.now (x := .normal) (by kernel_rfl) ?_)
    show Runs Tryz.prog 1 _ _ _
    refine Runs.sqR mixed hk38 [viaV 2 (.pointer (some ⟨0, 0 + 0 * 1, none⟩)), viaV 3 (.int .i64 (f 0)), viaH 4 69 [slV (m + 1) cap, .int .i64 (f 0)] (.tuple #[slZ 1 B, slZ 2 A]) (Go.R.hp (os3 (m + 1) f B A))] (by kernel_rfl) (by kernel_rfl) (by kernel_rfl)
      (oblC (shown_idx (n := m + 1) (i := 0) (by kernel_rfl) (Nat.succ_pos m)) (oblC (shown_cell (by kernel_rfl) (intZ_at (g := 0) (n := m + 1) (i := 0) (f := f) (lv := false) (par := []) (ty := none) (by kernel_rfl) (Nat.succ_pos m)))
      (oblC (shown_callHE (h0 := Go.R.hp [viewZ (m + 1) f]) (by kernel_rfl) (by kernel_rfl) hp) oblN))) ?_
    refine Runs.sq (by kernel_rfl) (Runs.sqR mixed hk38 [] (by kernel_rfl) (by kernel_rfl) (by kernel_rfl) oblN (Runs.bk (id := 0) (by kernel_rfl) ?_))
    refine Runs.less (af1 := sth (S54 (m + 1) cap B A 0) 39 (os3 (m + 1) f B A)) (less_seenP (S54_clo 0) os3_clo (show 1 ≤ 3 by decide) (by kernel_rfl) (by kernel_rfl) (by kernel_rfl) (by kernel_rfl)) ?_
    show Runs Tryz.prog 1 lp54 _ _
    refine (plan_loop hb (by omega)).mono fun x af hx => ?_
    rcases hx with ⟨rfl, hall, less⟩ | ⟨rfl, hno, ht⟩
    · rw [decide_eq_true (hf.2 hall), Bool.true_and]
      show Runs Tryz.prog 1 (behind 4 c54) af _
      exact Runs.less less (plan_tail hb IH (by omega) (by omega) (by omega) (by omega))
    · rw [decide_eq_false (fun q => hno (hf.1 q)), Bool.false_and]
      refine ⟨.inr rfl, [.bool false], ?_, rfl⟩
      have e0 : Tryz.f54.results.toList = [.tmp 2] := by kernel_rfl
      rw [e0]
      simp only [resultsA, ht]
end
end Go.Proofs.YtgnkjmgkfibipaaGreatDoor
