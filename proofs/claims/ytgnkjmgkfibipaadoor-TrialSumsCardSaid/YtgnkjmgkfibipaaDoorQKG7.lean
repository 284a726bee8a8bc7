/- TrialTried: what its function does with each plan. -/
import Derived.Test.YtgnkjmgkfibipaaDoorQKG6
import Derived.Test.YtgnkjmgkfibipaaDoorQRG7
namespace Go.Proofs.YtgnkjmgkfibipaaDoor
set_option linter.unusedVariables false
set_option linter.unusedSimpArgs false
open Go Go.R
set_option maxRecDepth 1000000
noncomputable section

/-! ### slices.Contains over a list that may be nil -/
theorem litI_ints (l : List Nat) : litI l = intsZ l.length (fun i => .ofNat (l.getD i 0)) := by
  refine List.ext_getElem? fun i => ?_
  unfold litI intsZ
  rw [List.getElem?_map, List.getElem?_map]
  by_cases h : i < l.length
  · rw [List.getElem?_eq_getElem h, List.getElem?_range h]
    simp [h]
  · rw [List.getElem?_eq_none (by omega), List.getElem?_eq_none (by simp; omega)]
    rfl

theorem memZ_contains (l : List Nat) (x : Nat) : memZ (fun i => .ofNat (l.getD i 0)) (.ofNat x) l.length = l.contains x := by
  rw [Bool.eq_iff_iff, mem_iff, List.contains_iff_mem]
  constructor
  · rintro ⟨j, hj, e⟩
    have := Int.ofNat.inj e
    simp [hj] at this
    exact this ▸ List.getElem_mem hj
  · intro h
    obtain ⟨j, hj, e⟩ := List.mem_iff_getElem.1 h
    exact ⟨j, hj, by simp [hj, e]⟩

theorem contains_nil_local (x : Nat) : Local Tryd.prog 0 37 [.slice none 0 0, i64 x] AH.empty fun v' _ => v' = .bool false := by
  refine local_of noNum Tryd.func37 (show Tryd.f37.body = some c37 by kernel_rfl) ?_
  exact Runs.lastEq (R := fun v' _ => v' = .bool false) mixed hk38 (n := 100) (x := .ret) (vs := [.bool false]) (Nat.zero_le _) (.inr rfl) (by kernel_rfl) (fun _ => rfl)
theorem contains_nil (x : Nat) (h : AH) : Says Tryd.prog h 37 [.slice none 0 0, i64 x] (.bool false) h := fun F w0 μ w args' H hl =>
  (contains_nil_local x).closed (fun v hv => by
    rcases List.mem_cons.1 hv with rfl | hv
    · rfl
    · rw [List.mem_singleton.1 hv]; rfl) rfl h H hl

theorem local_one {h h1 : AH} {k fid : Nat} {args : List Value} {v : Value} (S : Says Tryd.prog h fid args v h1) (hk : k ≤ h.next) : Local Tryd.prog k fid args h fun v' _ => v' = v := fun F w0 μ w args' H hl =>
  (S F w0 μ w args' H hl).mono fun v' w' ⟨μ', a, b, c⟩ => ⟨v, h1, rfl, μ', a, b, Held.of_ext c hk⟩

theorem contains_at {h : AH} {i x : Nat} {ch : List Nat} {lv : Bool} {par : List Nat} {ty : Option TypeId} (hg : ch ≠ [] → h.get i = .cells (litI ch) lv par ty) (hl : ch.length < 1000000) : Says Tryd.prog h 37 [planV i ch, i64 x] (.bool (ch.contains x)) h := by
  cases ch with
  | nil => exact contains_nil x h
  | cons y l =>
    have := tell_flat (P := Tryd.prog) (fid := 37) (pre := []) (post := [i64 x]) (i := i) (o := 0) (n := (y :: l).length) (s := planV i (y :: l)) (cells := intsZ (y :: l).length (fun j => .ofNat ((y :: l).getD j 0))) (v := .bool ((y :: l).contains x))
      (R := fun v' _ => v' = .bool ((y :: l).contains x)) (fun cap hc => ?_) (fun _ _ r => r) rfl (hg (by simp)) (fun k u hk => by rw [Nat.zero_add, litI_ints]; exact hk) (by rw [Nat.zero_add, litI_ints]; exact Nat.le_refl _) (intsZ_plain _ _) (.inl ⟨0, rfl⟩)
      (fun v hv => by cases hv) (fun v hv => by rw [List.mem_singleton.1 hv]; rfl)
    · exact this
    · rw [← memZ_contains]
      exact local_one (contains_says (y :: l).length (y :: l).length cap _ (.ofNat x) (Nat.le_refl _) hl) (Nat.le_refl 1)
end
end Go.Proofs.YtgnkjmgkfibipaaDoor

/- TrialTried: what its function does with each plan: the walk. -/
namespace Go.Proofs.YtgnkjmgkfibipaaDoor
set_option linter.unusedVariables false
set_option linter.unusedSimpArgs false
open Go Go.R
set_option maxRecDepth 1000000
noncomputable section

structure TrS where
  many : Int
  all : Int
  least : Int
  first : List Nat
  choices : List Nat

def bumpI (x : Int) : Int := wrapF .i64 (x + 1)
def trStep (n b t : Nat) (s : TrS) (l : List Nat) (u d : Nat) : TrS :=
  let all := bumpI s.all
  let many := bif leF (.ofNat d) (.ofNat b) && leF (.ofNat u) (.ofNat t) then bumpI s.many else s.many
  bif ltF (.ofNat b) (.ofNat d) || ltF s.least (.ofNat u) then ⟨many, all, s.least, s.first, s.choices⟩
  else bif ltF (.ofNat u) s.least then ⟨many, all, .ofNat u, l, bif Nat.blt 0 n then [l.headD 0] else []⟩
  else ⟨many, all, s.least, s.first, bif Nat.blt 0 n && !(s.choices.contains (l.headD 0)) then s.choices ++ [l.headD 0] else s.choices⟩

noncomputable def boxZ (x : Int) : AObj := .cells [.int .i64 x] true [] (some 3)
noncomputable def trB (n b t : Nat) (s : TrS) (q8 q9 : Nat) : List AObj := [boxI n, boxI b, boxI t, boxZ s.many, boxZ s.all, boxZ s.least, boxS (planV q8 s.first), boxS (planV q9 s.choices)]
noncomputable def trS (n b t : Nat) (s : TrS) : List AObj := trB n b t s 8 9 ++ [planO (some 3) s.first, planO (some 3) s.choices]
def trPs : List Nat := [4, 1, 2, 3, 5, 6, 7, 0]

theorem ren_planV {ρ : Nat → Nat} {m j q : Nat} (hj : j < m) (e : ρ j = q) (l : List Nat) : Ren ρ m (planV q l) (planV j l) := by
  cases l with
  | nil =>
    intro μ x hx
    obtain ⟨_, _, rfl⟩ := (show VR μ (.slice none 0 0) x from hx).sliceN_inv
    exact .plain rfl
  | cons y l => exact Ren.sliceU (n := (y :: l).length) (c := (y :: l).length) (s := 0) hj e

theorem renO_one {ρ : Nat → Nat} {m : Nat} {u v : Value} {ty : Option TypeId} (h : Ren ρ m u v) : RenO ρ m (.cells [u] true [] ty) (.cells [v] true [] ty) :=
  ⟨rfl, fun k a b ha hb => (by
    cases k with
    | zero => cases ha; cases hb; exact h
    | succ k => cases ha), fun _ => rfl, rfl, .inr rfl⟩
theorem ren_int {ρ : Nat → Nat} {m : Nat} (x : Int) : Ren ρ m (.int .i64 x) (.int .i64 x) := fun μ y hy => by rw [hy.int_inv]; exact .plain rfl

/-- The state again, its rows wherever they lie. -/
theorem trS_is {n b t : Nat} {s : TrS} {h : AH} {q8 q9 : Nat} (h1 : 8 ≤ q8) (h2 : 8 ≤ q9) (h3 : q8 ≠ q9) (hb : (List.range 8).map h.get = trB n b t s q8 q9)
    (r8 : (s.first = [] ∧ h.get q8 = .dead) ∨ ∃ p, h.get q8 = .cells (litI s.first) true p (some 3) ∧ (p.all fun j => Nat.ble 8 j && (!Nat.beq j q8 && !Nat.beq j q9)) = true)
    (r9 : (s.choices = [] ∧ h.get q9 = .dead) ∨ ∃ p, h.get q9 = .cells (litI s.choices) true p (some 3) ∧ (p.all fun j => Nat.ble 8 j && (!Nat.beq j q8 && !Nat.beq j q9)) = true) : StIs 8 (trS n b t s) h := by
  have hl : (trS n b t s).length = 10 := rfl
  let ρ : Nat → Nat := fun j => if j < 8 then j else if j = 8 then q8 else if j = 9 then q9 else j
  have lo : ∀ {j}, j < 8 → ρ j = j := fun hj => if_pos hj
  have e8 : ρ 8 = q8 := rfl
  have e9 : ρ 9 = q9 := rfl
  have get : ∀ j o, j < 8 → (trB n b t s q8 q9)[j]? = some o → h.get j = o := fun j o hj ho => by
    have := congrArg (fun l : List AObj => l[j]?) hb
    simp only [List.getElem?_map, List.getElem?_range hj, Option.map_some, ho, Option.some.injEq] at this
    exact this
  have row : ∀ {l : List Nat} {q : Nat} {m : Nat}, ((l = [] ∧ h.get q = .dead) ∨ ∃ p, h.get q = .cells (litI l) true p (some 3) ∧ (p.all fun j => Nat.ble 8 j && (!Nat.beq j q8 && !Nat.beq j q9)) = true) → RenO ρ m (h.get q) (planO (some 3) l) := fun {l q m} hr => by
    cases l with
    | nil => unfold planO; cases h.get q <;> trivial
    | cons y l =>
      rcases hr with ⟨h0, _⟩ | ⟨p, hp, _⟩
      · cases h0
      · exact RenO.row hp (litI_plain (y :: l)) (fun _ => rfl) (.inr rfl)
  refine ⟨ρ, fun j hj => lo hj, fun i j hi hj e => ?_, fun j o ho => ?_, fun i j hi hj hne c lv p ty hg => ?_⟩
  · rw [hl] at hi hj
    have cs : ∀ {i}, i < 10 → i < 8 ∨ i = 8 ∨ i = 9 := fun hi => by omega
    rcases cs hi with a | rfl | rfl <;> rcases cs hj with c | rfl | rfl
    · rwa [lo a, lo c] at e
    · rw [lo a, e8] at e; omega
    · rw [lo a, e9] at e; omega
    · rw [e8, lo c] at e; omega
    · rfl
    · rw [e8, e9] at e; exact absurd e h3
    · rw [e9, lo c] at e; omega
    · rw [e8, e9] at e; exact absurd e.symm h3
    · rfl
  · match j, ho with
    | 0, ho => cases ho; rw [lo (by decide), get 0 _ (by decide) rfl]; exact renO_one (ren_int _)
    | 1, ho => cases ho; rw [lo (by decide), get 1 _ (by decide) rfl]; exact renO_one (ren_int _)
    | 2, ho => cases ho; rw [lo (by decide), get 2 _ (by decide) rfl]; exact renO_one (ren_int _)
    | 3, ho => cases ho; rw [lo (by decide), get 3 _ (by decide) rfl]; exact renO_one (ren_int _)
    | 4, ho => cases ho; rw [lo (by decide), get 4 _ (by decide) rfl]; exact renO_one (ren_int _)
    | 5, ho => cases ho; rw [lo (by decide), get 5 _ (by decide) rfl]; exact renO_one (ren_int _)
    | 6, ho => cases ho; rw [lo (by decide), get 6 _ (by decide) rfl]; exact renO_one (ren_planV (by rw [hl]; decide) e8 _)
    | 7, ho => cases ho; rw [lo (by decide), get 7 _ (by decide) rfl]; exact renO_one (ren_planV (by rw [hl]; decide) e9 _)
    | 8, ho => cases ho; rw [e8]; exact row r8
    | 9, ho => cases ho; rw [e9]; exact row r9
    | j + 10, ho => cases ho
  · rw [hl] at hi hj
    have par : ∀ {q l}, ((l = [] ∧ h.get q = .dead) ∨ ∃ p, h.get q = .cells (litI l) true p (some 3) ∧ (p.all fun j => Nat.ble 8 j && (!Nat.beq j q8 && !Nat.beq j q9)) = true) → h.get q = .cells c lv p ty → ρ j ∉ p := fun {q l} hr hq hm => by
      rcases hr with ⟨_, h0⟩ | ⟨p', hp, ha⟩
      · rw [h0] at hq; cases hq
      · rw [hp] at hq
        cases hq
        have := List.all_eq_true.1 ha _ hm
        simp only [Bool.and_eq_true, Bool.not_eq_true', Nat.ble_eq] at this
        obtain ⟨a1, a2, a3⟩ := this
        have nb : ∀ {x y : Nat}, Nat.beq x y = false → x ≠ y := fun {x y} h e => by subst e; rw [Nat.beq_refl] at h; cases h
        have cs : j < 8 ∨ j = 8 ∨ j = 9 := by omega
        rcases cs with c | rfl | rfl
        · rw [lo c] at a1; omega
        · exact nb a2 e8
        · exact nb a3 e9
    have cs : i < 8 ∨ i = 8 ∨ i = 9 := by omega
    rcases cs with a | rfl | rfl
    · rw [lo a] at hg
      match i, a with
      | 0, _ => rw [get 0 _ (by decide) rfl] at hg; cases hg; intro h; cases h
      | 1, _ => rw [get 1 _ (by decide) rfl] at hg; cases hg; intro h; cases h
      | 2, _ => rw [get 2 _ (by decide) rfl] at hg; cases hg; intro h; cases h
      | 3, _ => rw [get 3 _ (by decide) rfl] at hg; cases hg; intro h; cases h
      | 4, _ => rw [get 4 _ (by decide) rfl] at hg; cases hg; intro h; cases h
      | 5, _ => rw [get 5 _ (by decide) rfl] at hg; cases hg; intro h; cases h
      | 6, _ => rw [get 6 _ (by decide) rfl] at hg; cases hg; intro h; cases h
      | 7, _ => rw [get 7 _ (by decide) rfl] at hg; cases hg; intro h; cases h
    · rw [e8] at hg; exact par r8 hg
    · rw [e9] at hg; exact par r9 hg

noncomputable def c54 : Code := bodyOf Tryd.f54
noncomputable def St54 (l : List Nat) (u d : Nat) : List (Nat × Value) := [(0, planV 10 l), (1, i64 u), (2, i64 d), (3, .pointer (some ⟨4, 0, none⟩)), (4, .pointer (some ⟨1, 0, none⟩)), (5, .pointer (some ⟨2, 0, none⟩)), (6, .pointer (some ⟨3, 0, none⟩)), (7, .pointer (some ⟨5, 0, none⟩)), (8, .pointer (some ⟨6, 0, none⟩)), (9, .pointer (some ⟨7, 0, none⟩)), (10, .pointer (some ⟨0, 0, none⟩))]
/-- The heap behind the first parts: the rows that were, and the plan. -/
noncomputable def tr3 (n b t : Nat) (s : TrS) (q8 q9 : Nat) (o8 o9 : AObj) (l : List Nat) : List AObj := trB n b t s q8 q9 ++ [o8, o9, planO (some 3) l]

theorem St54_clo (l : List Nat) (u d : Nat) : ∀ p ∈ St54 l u d, Clo 11 p.2 := fun p hp => by
  simp only [St54, List.mem_cons, List.mem_nil_iff, or_false] at hp
  rcases hp with rfl | rfl | rfl | rfl | rfl | rfl | rfl | rfl | rfl | rfl | rfl
  · exact planV_clo (by decide) l
  all_goals exact clo_of 10 11 _ (by kernel_rfl)

theorem tr3_clo {n b t : Nat} {s : TrS} {q8 q9 : Nat} {o8 o9 : AObj} {l : List Nat} (h8 : q8 < 11) (h9 : q9 < 11) (c8 : CloO 11 o8) (c9 : CloO 11 o9) : ∀ o ∈ tr3 n b t s q8 q9 o8 o9 l, CloO 11 o := fun o ho => by
  simp only [tr3, trB, List.mem_append, List.mem_cons, List.mem_nil_iff, or_false] at ho
  rcases ho with (rfl | rfl | rfl | rfl | rfl | rfl | rfl | rfl) | rfl | rfl | rfl
  · exact cloO_one (clo_plain rfl) _
  · exact cloO_one (clo_plain rfl) _
  · exact cloO_one (clo_plain rfl) _
  · exact cloO_one (clo_plain rfl) _
  · exact cloO_one (clo_plain rfl) _
  · exact cloO_one (clo_plain rfl) _
  · exact cloO_one (planV_clo h8 _) _
  · exact cloO_one (planV_clo h9 _) _
  · exact c8
  · exact c9
  · exact planO_plain l 11
end
end Go.Proofs.YtgnkjmgkfibipaaDoor

/- TrialTried: what its function does with each plan: the last part. -/
namespace Go.Proofs.YtgnkjmgkfibipaaDoor
set_option linter.unusedVariables false
set_option linter.unusedSimpArgs false
open Go Go.R
set_option maxRecDepth 1000000
noncomputable section

theorem row_of {h : AH} {q q8 q9 : Nat} {l : List Nat} (e : h.get q = planO (some 3) l) : (l = [] ∧ h.get q = .dead) ∨ ∃ p, h.get q = .cells (litI l) true p (some 3) ∧ (p.all fun j => Nat.ble 8 j && (!Nat.beq j q8 && !Nat.beq j q9)) = true := by
  cases l with
  | nil => exact .inl ⟨rfl, e⟩
  | cons x l => exact .inr ⟨[], e, rfl⟩

def EndT (n b t : Nat) (s : TrS) : AExit → AF → Prop := EndsAs Tryd.prog Tryd.f54 fun v h' => v = .tuple #[] ∧ StIs 8 (trS n b t s) h'
theorem endT {n b t : Nat} {s : TrS} {x : AExit} {af : AF} (hx : x = .normal ∨ x = .ret) (h : StIs 8 (trS n b t s) af.h) : EndT n b t s x af := ⟨hx, [], by kernel_rfl, rfl, h⟩

/-- Where the rows lie behind the first parts. -/
structure Lie (s : TrS) (q8 : Nat) (o8 o9 : AObj) (l : List Nat) : Prop where
  r8 : (q8 = 8 ∧ o8 = planO (some 3) s.first) ∨ (q8 = 10 ∧ s.first = l)
  r9 : o9 = planO (some 3) s.choices ∨ s.choices = []
  c8 : CloO 11 o8
  c9 : CloO 11 o9
  len : s.choices.length < 1000000

theorem Lie.q8le {s : TrS} {q8 : Nat} {o8 o9 : AObj} {l : List Nat} (L : Lie s q8 o8 o9 l) : 8 ≤ q8 ∧ q8 < 11 ∧ q8 ≠ 9 := by
  rcases L.r8 with ⟨h, _⟩ | ⟨h, _⟩ <;> omega

/-- No choice more. -/
theorem tri_same {n b t u d : Nat} {s : TrS} {q8 : Nat} {o8 o9 : AObj} {l : List Nat} (L : Lie s q8 o8 o9 l) {h : AH} (hh : (List.range 11).map h.get = tr3 n b t s q8 9 o8 o9 l) (h20 : h.get 20 = .dead) : StIs 8 (trS n b t s) h := by
  have get : ∀ j o, j < 11 → (tr3 n b t s q8 9 o8 o9 l)[j]? = some o → h.get j = o := fun j o hj ho => by
    have := congrArg (fun l : List AObj => l[j]?) hh
    simp only [List.getElem?_map, List.getElem?_range hj, Option.map_some, ho, Option.some.injEq] at this
    exact this
  have g8 : h.get q8 = planO (some 3) s.first := by
    rcases L.r8 with ⟨rfl, e⟩ | ⟨rfl, e⟩
    · rw [get 8 o8 (by decide) rfl, e]
    · rw [get 10 (planO (some 3) l) (by decide) rfl, e]
  have g9 : h.get 9 = o9 := get 9 o9 (by decide) rfl
  have hb8 : (List.range 8).map h.get = trB n b t s q8 9 := by
    have := congrArg (List.take 8) hh
    rw [← List.map_take, List.take_range] at this
    exact this
  have hq := L.q8le
  rcases L.r9 with e | e
  · exact trS_is hq.1 (by decide) hq.2.2 hb8 (row_of g8) (row_of (g9.trans e))
  · have hb' : (List.range 8).map h.get = trB n b t s q8 20 := by rw [hb8]; unfold trB; rw [e]; rfl
    exact trS_is hq.1 (by decide) (by omega) hb' (row_of g8) (.inl ⟨e, h20⟩)

theorem tri_tail {n b t u d : Nat} {s : TrS} {q8 : Nat} {o8 o9 : AObj} {l : List Nat} (L : Lie s q8 o8 o9 l) (hl : l.length = n) :
    Runs Tryd.prog 8 (behind 4 c54) (sth (St54 l u d) 55 (tr3 n b t s q8 9 o8 o9 l)) (EndT n b t { s with choices := bif Nat.blt 0 n && !(s.choices.contains (l.headD 0)) then s.choices ++ [l.headD 0] else s.choices }) := by
  cases l with
  | nil =>
    cases hl
    refine Runs.sqR mixed hk38 [] (by kernel_rfl) (by kernel_rfl) (by kernel_rfl) oblN ?_
    refine Runs.cd (b := false) (by kernel_rfl) (fun h => by cases h) (fun _ => Runs.now (x := .normal) (by kernel_rfl) ?_)
    exact endT (.inl rfl) (tri_same (u := u) (d := d) L (by kernel_rfl) (by kernel_rfl))
  | cons x l =>
    obtain ⟨k, rfl⟩ : ∃ k, n = k + 1 := ⟨l.length, hl.symm⟩
    have ht : Nat.blt 0 (k + 1) = true := by rw [Nat.blt_eq]; omega
    rw [ht, Bool.true_and]
    show Runs _ _ _ _ (EndT (k + 1) b t { s with choices := bif !(s.choices.contains x) then s.choices ++ [x] else s.choices })
    have hrow : ∀ {h : AH}, h.get 10 = .cells (litI (x :: l)) true [] (some 3) → rowAt? h 10 (0 + 0 * 1) 1 = some [i64 x] := fun {h} hg => lit_at (i := 0) hg (by simp)
    have hcon : Says Tryd.prog (hp (tr3 (k + 1) b t s q8 9 o8 o9 (x :: l))) 37 [planV 9 s.choices, i64 x] (.bool (s.choices.contains x)) (hp (tr3 (k + 1) b t s q8 9 o8 o9 (x :: l))) := by
      refine contains_at (lv := true) (par := []) (ty := some 3) (fun hne => ?_) L.len
      have g9 : (hp (tr3 (k + 1) b t s q8 9 o8 o9 (x :: l))).get 9 = o9 := by kernel_rfl
      rcases L.r9 with e | e
      · rw [g9, e]
        cases hc : s.choices with
        | nil => exact absurd hc hne
        | cons y ys => rfl
      · exact absurd e hne
    refine Runs.sqR mixed hk38 [viaV 5 (.pointer (some ⟨10, 0 + 0 * 1, none⟩)), viaV 6 (i64 x), viaC 7 37 [planV 9 s.choices, i64 x] (.bool (s.choices.contains x))] (by kernel_rfl) (by kernel_rfl) (by kernel_rfl)
      (oblC (shown_idx (n := (x :: l).length) (by kernel_rfl) (by simp)) (oblC (shown_cell (by kernel_rfl) (hrow (by kernel_rfl))) (oblC (shown_callE (by kernel_rfl) (by kernel_rfl) hcon) oblN))) ?_
    refine Runs.cd (b := !(s.choices.contains x)) (by kernel_rfl) (fun hc => ?_) (fun hc => Runs.now (x := .normal) (by kernel_rfl) ?_)
    · rw [hc]
      show Runs _ _ _ _ (EndT (k + 1) b t { s with choices := s.choices ++ [x] })
      obtain ⟨many, all, least, first, choices⟩ := s
      have fin : ∀ {h : AH} {p : List Nat}, (List.range 7).map h.get = (trB (k + 1) b t ⟨many, all, least, first, choices⟩ q8 9).take 7 → h.get 7 = boxS (planV 12 (choices ++ [x])) → h.get 8 = o8 → h.get 10 = planO (some 3) (x :: l) → h.get 12 = .cells (litI (choices ++ [x])) true p (some 3) →
          (p = [] ∨ p = [9]) → StIs 8 (trS (k + 1) b t ⟨many, all, least, first, choices ++ [x]⟩) h := by
        intro h p e1 e2 e3 e4 e5 e6
        have hq := L.q8le
        refine trS_is (q8 := q8) (q9 := 12) hq.1 (by decide) (by omega) ?_ (row_of ?_) (.inr ⟨p, e5, ?_⟩)
        · rw [show List.range 8 = List.range 7 ++ [7] from rfl, List.map_append, e1, List.map_cons, List.map_nil, e2]
          rfl
        · rcases L.r8 with ⟨rfl, e⟩ | ⟨rfl, e⟩
          · rw [e3, e]
          · rw [e4]; exact congrArg _ e.symm
        · rcases e6 with rfl | rfl
          · rfl
          · have a1 : Nat.beq 9 q8 = false := by
              cases hb : Nat.beq 9 q8 with
              | false => rfl
              | true => exact absurd (Nat.eq_of_beq_eq_true hb) (fun e => hq.2.2 e.symm)
            simp only [List.all_cons, List.all_nil, a1]
            rfl
      cases choices with
      | nil =>
        refine Runs.rgD mixed hk38 [viaV 2 (.pointer (some ⟨10, 0 + 0 * 1, none⟩)), viaV 3 (i64 x)] [(0, 5)] (by kernel_rfl) (by kernel_rfl) (by kernel_rfl) (by kernel_rfl)
          (oblC (shown_idx (n := (x :: l).length) (by kernel_rfl) (by simp)) (oblC (shown_cell (by kernel_rfl) (hrow (by kernel_rfl))) oblN)) (dynC (dyn_at' (d := 49) (v := .slice none 0 0) (by kernel_rfl) (by kernel_rfl) (by kernel_rfl)) dynN) ?_
        exact endT (.inl rfl) (fin (p := []) (by kernel_rfl) (by kernel_rfl) (by kernel_rfl) (by kernel_rfl) (by kernel_rfl) (.inl rfl))
      | cons y ys =>
        have e9 : o9 = .cells (litI (y :: ys)) true [] (some 3) := L.r9.resolve_right (by simp)
        subst e9
        refine Runs.rgD mixed hk38 [viaV 2 (.pointer (some ⟨10, 0 + 0 * 1, none⟩)), viaV 3 (i64 x), ⟨5, rowA 12 ((y :: ys).length + 1), some _, none⟩] [(0, 5)] (by kernel_rfl) (by kernel_rfl) (by kernel_rfl) (by kernel_rfl)
          (oblC (shown_idx (n := (x :: l).length) (by kernel_rfl) (by simp)) (oblC (shown_cell (by kernel_rfl) (hrow (by kernel_rfl)))
            (oblC ⟨by kernel_rfl, (show _ = appendA Tryd.prog #[24, 24] (.slice (some ⟨9, 0, some 1⟩) (y :: ys).length (y :: ys).length) (.slice (some ⟨11, 0, none⟩) 1 1) ((hp (tr3 (k + 1) b t ⟨many, all, least, first, y :: ys⟩ q8 9 o8 (.cells (litI (y :: ys)) true [] (some 3)) (x :: l))).new (.cells [i64 x] true [] (some 3))).2 by kernel_rfl).trans
              (append_int (x := i64 x) (rows := litI (y :: ys)) (par := []) L.len rfl (litI_len _) (by kernel_rfl) (by kernel_rfl))⟩ oblN))) (dynC (dyn_at' (d := 49) (v := planV 9 (y :: ys)) (by kernel_rfl) (by kernel_rfl) (by kernel_rfl)) dynN) ?_
        have a7 : boxS (rowA 12 ((y :: ys).length + 1)) = boxS (planV 12 (y :: ys ++ [x])) := by
          show boxS (.slice (some ⟨12, 0, some 1⟩) ((y :: ys).length + 1) ((y :: ys).length + 1)) = boxS (.slice (some ⟨12, 0, some 1⟩) (y :: ys ++ [x]).length (y :: ys ++ [x]).length)
          rw [List.length_append]
          rfl
        have a12 : AObj.cells (litI (y :: ys) ++ [i64 x]) true [9] (some 3) = .cells (litI (y :: ys ++ [x])) true [9] (some 3) := by rw [← litI_app]; rfl
        exact endT (.inl rfl) (fin (p := [9]) (by kernel_rfl) (Eq.trans (show _ = boxS (rowA 12 ((y :: ys).length + 1)) by kernel_rfl) a7) (by kernel_rfl) (by kernel_rfl) (Eq.trans (show _ = AObj.cells (litI (y :: ys) ++ [i64 x]) true [9] (some 3) by kernel_rfl) a12) (.inr rfl))
    · rw [hc]
      exact endT (.inl rfl) (tri_same (u := u) (d := d) L (by kernel_rfl) (by kernel_rfl))
end
end Go.Proofs.YtgnkjmgkfibipaaDoor

/- TrialTried: what its function does with each plan, as a contract. -/
namespace Go.Proofs.YtgnkjmgkfibipaaDoor
set_option linter.unusedVariables false
set_option linter.unusedSimpArgs false
open Go Go.R
set_option maxRecDepth 1000000
noncomputable section

section
variable {n b t u d : Nat} {s : TrS} {l : List Nat}

theorem tr0_clo : ∀ o ∈ tr3 n b t s 8 9 (planO (some 3) s.first) (planO (some 3) s.choices) l, CloO 11 o := tr3_clo (by decide) (by decide) (planO_plain _ _) (planO_plain _ _)

/-- Behind the tests: another least number or not. -/
theorem tri_mid (hlen : s.choices.length < 1000000) (hl : l.length = n) {s' : TrS}
    (e : s' = bif ltF (.ofNat u) s.least then ⟨s.many, s.all, .ofNat u, l, bif Nat.blt 0 n then [l.headD 0] else []⟩ else { s with choices := bif Nat.blt 0 n && !(s.choices.contains (l.headD 0)) then s.choices ++ [l.headD 0] else s.choices }) :
    Runs Tryd.prog 8 (behind 3 c54) (sth (St54 l u d) 55 (tr3 n b t s 8 9 (planO (some 3) s.first) (planO (some 3) s.choices) l)) (EndT n b t s') := by
  refine Runs.sq (by kernel_rfl) (Runs.sqR mixed hk38 [] (by kernel_rfl) (by kernel_rfl) (by kernel_rfl) oblN ?_)
  refine Runs.cd (b := ltF (.ofNat u) s.least) (by kernel_rfl) (fun ht => ?_) (fun hf => Runs.now (x := .normal) (by kernel_rfl) ?_)
  · have e' : s' = { (⟨s.many, s.all, .ofNat u, l, []⟩ : TrS) with choices := bif Nat.blt 0 n && !(([] : List Nat).contains (l.headD 0)) then [] ++ [l.headD 0] else [] } := by
      rw [e, ht]
      simp
    rw [e']
    have L : Lie ⟨s.many, s.all, .ofNat u, l, []⟩ 10 (planO (some 3) s.first) (planO (some 3) s.choices) l := ⟨.inr ⟨rfl, rfl⟩, .inr rfl, planO_plain _ _, planO_plain _ _, by simp⟩
    cases l with
    | nil =>
      refine Runs.rg mixed hk38 [] (by kernel_rfl) (by kernel_rfl) (by kernel_rfl) oblN ?_
      show Runs Tryd.prog 8 (behind 4 c54) _ _
      refine Runs.less ?_ (tri_tail (u := u) (d := d) L hl)
      exact less_seenP (St54_clo _ u d) (tr3_clo (by decide) (by decide) (planO_plain _ _) (planO_plain _ _)) (show 8 ≤ 11 by decide) (by kernel_rfl) (by kernel_rfl) (by kernel_rfl) (by kernel_rfl)
    | cons x l =>
      refine Runs.rg mixed hk38 [] (by kernel_rfl) (by kernel_rfl) (by kernel_rfl) oblN ?_
      show Runs Tryd.prog 8 (behind 4 c54) _ _
      refine Runs.less ?_ (tri_tail (u := u) (d := d) L hl)
      exact less_seenP (St54_clo _ u d) (tr3_clo (by decide) (by decide) (planO_plain _ _) (planO_plain _ _)) (show 8 ≤ 11 by decide) (by kernel_rfl) (by kernel_rfl) (by kernel_rfl) (by kernel_rfl)
  · rw [e, hf]
    show Runs Tryd.prog 8 (behind 4 c54) _ _
    refine Runs.less (af1 := sth (St54 l u d) 55 (tr3 n b t s 8 9 (planO (some 3) s.first) (planO (some 3) s.choices) l)) ?_ (tri_tail (u := u) (d := d) ⟨.inl ⟨rfl, rfl⟩, .inl rfl, planO_plain _ _, planO_plain _ _, hlen⟩ hl)
    exact less_seenP (St54_clo _ u d) tr0_clo (show 8 ≤ 11 by decide) (by kernel_rfl) (by kernel_rfl) (by kernel_rfl) (by kernel_rfl)

/-- The two tests: blades, and no more trials than the fewest. -/
theorem tri_tests (hlen : s.choices.length < 1000000) (hl : l.length = n) {s' : TrS}
    (e : s' = bif ltF (.ofNat b) (.ofNat d) || ltF s.least (.ofNat u) then s else bif ltF (.ofNat u) s.least then ⟨s.many, s.all, .ofNat u, l, bif Nat.blt 0 n then [l.headD 0] else []⟩ else { s with choices := bif Nat.blt 0 n && !(s.choices.contains (l.headD 0)) then s.choices ++ [l.headD 0] else s.choices }) :
    Runs Tryd.prog 8 (behind 2 c54) (sth (St54 l u d) 55 (tr3 n b t s 8 9 (planO (some 3) s.first) (planO (some 3) s.choices) l)) (EndT n b t s') := by
  have stay : s' = s → ∀ {h : AH}, (List.range 11).map h.get = tr3 n b t s 8 9 (planO (some 3) s.first) (planO (some 3) s.choices) l → h.get 20 = .dead → StIs 8 (trS n b t s') h := fun e1 {h} h1 h2 => by
    rw [e1]
    exact tri_same (u := u) (d := d) (l := l) ⟨.inl ⟨rfl, rfl⟩, .inl rfl, planO_plain _ _, planO_plain _ _, hlen⟩ h1 h2
  cases hb : ltF (.ofNat b) (.ofNat d) with
  | true =>
    rw [hb] at e
    refine Runs.sq (by kernel_rfl) (Runs.sqR mixed hk38 [viaV 2 (.bool true)] (by kernel_rfl) (by kernel_rfl) (by kernel_rfl) (oblC (shown_eq (v := .bool (ltF (.ofNat b) (.ofNat d))) (by kernel_rfl) (by kernel_rfl) (by rw [hb])) oblN) ?_)
    refine Runs.cd (b := true) (by kernel_rfl) (fun _ => Runs.now (x := .ret) (by kernel_rfl) ?_) (fun h => by cases h)
    exact endT (.inr rfl) (stay e (by kernel_rfl) (by kernel_rfl))
  | false =>
    rw [hb, Bool.false_or] at e
    refine Runs.sq (by kernel_rfl) (Runs.sqR mixed hk38 [viaV 2 (.bool false)] (by kernel_rfl) (by kernel_rfl) (by kernel_rfl) (oblC (shown_eq (v := .bool (ltF (.ofNat b) (.ofNat d))) (by kernel_rfl) (by kernel_rfl) (by rw [hb])) oblN) ?_)
    refine Runs.cd (b := ltF s.least (.ofNat u)) (by kernel_rfl) (fun ht => Runs.now (x := .ret) (by kernel_rfl) ?_) (fun hf => Runs.now (x := .normal) (by kernel_rfl) ?_)
    · rw [ht] at e
      exact endT (.inr rfl) (stay e (by kernel_rfl) (by kernel_rfl))
    · rw [hf] at e
      show Runs Tryd.prog 8 (behind 3 c54) _ _
      refine Runs.less (af1 := sth (St54 l u d) 55 (tr3 n b t s 8 9 (planO (some 3) s.first) (planO (some 3) s.choices) l)) ?_ (tri_mid hlen hl e)
      exact less_seenP (St54_clo _ u d) tr0_clo (show 8 ≤ 11 by decide) (by kernel_rfl) (by kernel_rfl) (by kernel_rfl) (by kernel_rfl)

theorem tri_local (hlen : s.choices.length < 1000000) (hl : l.length = n) :
    Local Tryd.prog 8 54 (planV 10 l :: .int .i64 (.ofNat u) :: .int .i64 (.ofNat d) :: capsAt trPs) (hp (trS n b t s ++ [planO (some 3) l])) fun v h' => v = .tuple #[] ∧ StIs 8 (trS n b t (trStep n b t s l u d)) h' := by
  refine local_of noNum Tryd.func54 (show Tryd.f54.body = some c54 by kernel_rfl) ?_
  show Runs Tryd.prog 8 c54 _ (EndT n b t _)
  refine Runs.sqR mixed hk38 [] (by kernel_rfl) (by kernel_rfl) (by kernel_rfl) oblN ?_
  have go : ∀ (m : Int), m = (bif leF (.ofNat d) (.ofNat b) && leF (.ofNat u) (.ofNat t) then bumpI s.many else s.many) → Runs Tryd.prog 8 (behind 2 c54) (sth (St54 l u d) 55 (tr3 n b t ⟨m, bumpI s.all, s.least, s.first, s.choices⟩ 8 9 (planO (some 3) s.first) (planO (some 3) s.choices) l)) (EndT n b t (trStep n b t s l u d)) :=
    fun m hm => tri_tests (s := ⟨m, bumpI s.all, s.least, s.first, s.choices⟩) hlen hl (by rw [hm]; rfl)
  cases h1 : leF (.ofNat d) (.ofNat b) with
  | false =>
    refine Runs.sq (by kernel_rfl) (Runs.sqR mixed hk38 [viaV 2 (.bool false)] (by kernel_rfl) (by kernel_rfl) (by kernel_rfl) (oblC (shown_eq (v := .bool (leF (.ofNat d) (.ofNat b))) (by kernel_rfl) (by kernel_rfl) (by rw [h1])) oblN) ?_)
    refine Runs.cd (b := false) (by kernel_rfl) (fun h => by cases h) (fun _ => Runs.now (x := .normal) (by kernel_rfl) ?_)
    show Runs Tryd.prog 8 (behind 2 c54) _ _
    refine Runs.less ?_ (go s.many (by rw [h1]; rfl))
    exact less_seenP (St54_clo _ u d) (tr0_clo (s := ⟨s.many, bumpI s.all, s.least, s.first, s.choices⟩)) (show 8 ≤ 11 by decide) (by kernel_rfl) (by kernel_rfl) (by kernel_rfl) (by kernel_rfl)
  | true =>
    refine Runs.sq (by kernel_rfl) (Runs.sqR mixed hk38 [viaV 2 (.bool true)] (by kernel_rfl) (by kernel_rfl) (by kernel_rfl) (oblC (shown_eq (v := .bool (leF (.ofNat d) (.ofNat b))) (by kernel_rfl) (by kernel_rfl) (by rw [h1])) oblN) ?_)
    refine Runs.cd (b := leF (.ofNat u) (.ofNat t)) (by kernel_rfl) (fun h2 => ?_) (fun h2 => Runs.now (x := .normal) (by kernel_rfl) ?_)
    · refine Runs.rg mixed hk38 [] (by kernel_rfl) (by kernel_rfl) (by kernel_rfl) oblN ?_
      show Runs Tryd.prog 8 (behind 2 c54) _ _
      refine Runs.less ?_ (go (bumpI s.many) (by rw [h1, h2]; rfl))
      exact less_seenP (St54_clo _ u d) (tr0_clo (s := ⟨bumpI s.many, bumpI s.all, s.least, s.first, s.choices⟩)) (show 8 ≤ 11 by decide) (by kernel_rfl) (by kernel_rfl) (by kernel_rfl) (by kernel_rfl)
    · show Runs Tryd.prog 8 (behind 2 c54) _ _
      refine Runs.less ?_ (go s.many (by rw [h1, h2]; rfl))
      exact less_seenP (St54_clo _ u d) (tr0_clo (s := ⟨s.many, bumpI s.all, s.least, s.first, s.choices⟩)) (show 8 ≤ 11 by decide) (by kernel_rfl) (by kernel_rfl) (by kernel_rfl) (by kernel_rfl)
end
end
end Go.Proofs.YtgnkjmgkfibipaaDoor
