/- Words: trial.read as a contract. -/
import Derived.Test.YtgnkjmgkfibipaaGreatDoorSSpelledKW1
import Derived.Test.YtgnkjmgkfibipaaGreatDoorSSpelledRG9
namespace Go.Proofs.YtgnkjmgkfibipaaGreatDoor
set_option linter.unusedVariables false
set_option linter.unusedSimpArgs false
open Go Go.R
set_option maxRecDepth 1000000
noncomputable section

noncomputable def x70 : Code := hd (hd (behind 7 c70))
noncomputable def y70 : Code := tl (hd (behind 7 c70))
noncomputable def form70 : Array Oper × Head := (eachForm x70 y70).getD (#[], ⟨0, 0, 0, 0, #[], .skip⟩)
noncomputable def H70 : Head := form70.2
noncomputable def af70 (n cap : Nat) (g : Nat → ByteArray) (A : MapS) : AF := sth [(0, slV n cap), (2, i64 0), (9, .map (some 1))] 113 (os70 n g A)
noncomputable def a170 (n cap : Nat) (g : Nat → ByteArray) (A : MapS) : AF := ((eachAt Tryz.prog k38 form70.1 (af70 n cap g A)).getD (0, af70 n cap g A, 0)).2.1
section
variable {n cap : Nat} {g : Nat → ByteArray} {A : MapS}
theorem form70_at : eachForm x70 y70 = some (form70.1, H70) := by kernel_rfl
theorem each70_at : eachAt Tryz.prog k38 form70.1 (af70 n cap g A) = some (105, a170 n cap g A, 1) := by kernel_rfl
theorem good70 : goodE H70 105 (a170 n cap g A) = true := by kernel_rfl
theorem map70 : (a170 n cap g A).h.get 1 = .map (esOf A) := by kernel_rfl
noncomputable def round70 (n cap : Nat) (g : Nat → ByteArray) (A : MapS) (k v : ByteArray) : Option (AExit × AF) := roundE Tryz.prog k38 100 H70 (a170 n cap g A) 1 (.string k, .string v)
def isFew : Option (AExit × AF) → Bool
  | some (.ret, f) => match f.tm.get 2 with
    | some (.int .i64 x) => eqF x 21
    | _ => false
  | _ => false
def isMany : Option (AExit × AF) → Bool
  | some (.normal, _) => true
  | _ => false
theorem round_none (k : ByteArray) : isFew (round70 n cap g A k ⟨⟨[]⟩⟩) = true := by kernel_rfl
theorem round_one (k : ByteArray) (a : UInt8) : isFew (round70 n cap g A k ⟨⟨[a]⟩⟩) = true := by kernel_rfl
theorem round_many (k : ByteArray) (a b : UInt8) (l : List UInt8) : isMany (round70 n cap g A k ⟨⟨a :: b :: l⟩⟩) = true := by kernel_rfl
theorem round_few' {k v : ByteArray} (h : v.size < 2) : isFew (round70 n cap g A k v) = true := by
  obtain ⟨⟨l⟩⟩ := v
  match l, h with
  | [], _ => exact round_none k
  | [a], _ => exact round_one k a
  | a :: b :: l, h =>
    have h' : (a :: b :: l).length < 2 := h
    simp at h'
    omega
theorem round_many' {k v : ByteArray} (h : 2 ≤ v.size) : isMany (round70 n cap g A k v) = true := by
  obtain ⟨⟨l⟩⟩ := v
  match l, h with
  | [], h => exact absurd (show 2 ≤ ([] : List UInt8).length from h) (by simp)
  | [a], h => exact absurd (show 2 ≤ [a].length from h) (by simp)
  | a :: b :: l, _ => exact round_many k a b l
theorem few_spec {r : Option (AExit × AF)} (h : isFew r = true) : ∃ f, r = some (.ret, f) ∧ f.tm.get 2 = some (i64 21) := by
  unfold isFew at h
  split at h
  · rename_i f
    split at h
    · rename_i x e
      exact ⟨f, rfl, by rw [e, eqF_eq, beq_iff_eq] at *; rw [h]; rfl⟩
    · cases h
  · cases h
theorem many_spec {r : Option (AExit × AF)} (h : isMany r = true) : ∃ f, r = some (.normal, f) := by
  unfold isMany at h
  split at h
  · exact ⟨_, rfl⟩
  · cases h
theorem few_at {k v : ByteArray} (h : v.size < 2) : ∃ f, roundE Tryz.prog k38 100 H70 (a170 n cap g A) 1 (.string k, .string v) = some (.ret, f) ∧ f.tm.get 2 = some (i64 21) := by
  have := few_spec (round_few' (n := n) (cap := cap) (g := g) (A := A) (k := k) h)
  unfold round70 at this
  exact this
theorem many_at {k v : ByteArray} (h : 2 ≤ v.size) : ∃ f, roundE Tryz.prog k38 100 H70 (a170 n cap g A) 1 (.string k, .string v) = some (.normal, f) := by
  have := many_spec (round_many' (n := n) (cap := cap) (g := g) (A := A) (k := k) h)
  unfold round70 at this
  exact this
theorem outs_at {call : CallF} {m : Nat} {H : Head} {a1 : AF} {o : AExit × AF} (h : o ∈ outsE Tryz.prog call m H a1 1 (esOf A)) : ∃ r ∈ A, o = (roundE Tryz.prog call m H a1 1 (.string r.1, .string r.2)).getD (.normal, a1) := by
  obtain ⟨q, hq, rfl⟩ := List.mem_map.1 h
  obtain ⟨r, hr, rfl⟩ := List.mem_map.1 hq
  exact ⟨r, hr, rfl⟩
theorem outs_in {call : CallF} {m : Nat} {H : Head} {a1 : AF} {r : ByteArray × ByteArray} (h : r ∈ A) : (roundE Tryz.prog call m H a1 1 (.string r.1, .string r.2)).getD (.normal, a1) ∈ outsE Tryz.prog call m H a1 1 (esOf A) :=
  List.mem_map.2 ⟨_, List.mem_map.2 ⟨r, h, rfl⟩, rfl⟩
/-- Some beginning is continued by fewer than two letters. -/
def openM (A : MapS) : Bool := A.any fun p => decide (p.2.size < 2)
theorem round_some {p : Value × Value} (hp : p ∈ esOf A) : (roundE Tryz.prog k38 100 H70 (a170 n cap g A) 1 p).isSome = true := by
  obtain ⟨q, _, rfl⟩ := List.mem_map.1 hp
  by_cases h : q.2.size < 2
  · obtain ⟨f, e, _⟩ := few_at (n := n) (cap := cap) (g := g) (A := A) (k := q.1) h
    rw [e]; rfl
  · obtain ⟨f, e⟩ := many_at (n := n) (cap := cap) (g := g) (A := A) (k := q.1) (show 2 ≤ q.2.size by omega)
    rw [e]; rfl
theorem es_plain : ((esOf A).all fun p => plainV p.1) = true := List.all_eq_true.2 fun p hp => by
  obtain ⟨q, _, rfl⟩ := List.mem_map.1 hp
  rfl
theorem res70 {tm : T Value} {h : AH} {v : Value} (e : tm.get 2 = some v) : resultsA Tryz.prog tm h Tryz.f59.results.toList = some [v] := by
  have e0 : Tryz.f59.results.toList = [.tmp 2] := by kernel_rfl
  rw [e0]
  simp only [resultsA, e]

theorem outs_few {o : AExit × AF} (h : o ∈ outsE Tryz.prog k38 100 H70 (a170 n cap g A) 1 (esOf A)) (hio : isOut o = true) : o.1 = .ret ∧ o.2.tm.get 2 = some (i64 21) := by
  obtain ⟨r, _, rfl⟩ := outs_at h
  by_cases h : r.2.size < 2
  · obtain ⟨f, e, e2⟩ := few_at (n := n) (cap := cap) (g := g) (A := A) (k := r.1) h
    rw [e]; exact ⟨rfl, e2⟩
  · obtain ⟨f, e⟩ := many_at (n := n) (cap := cap) (g := g) (A := A) (k := r.1) (show 2 ≤ r.2.size by omega)
    rw [e] at hio
    cases hio
theorem outs_one (h : openM A = true) : ∃ o ∈ outsE Tryz.prog k38 100 H70 (a170 n cap g A) 1 (esOf A), isOut o = true := by
  obtain ⟨p, hp, hlt⟩ := List.any_eq_true.1 h
  obtain ⟨f, e, _⟩ := few_at (n := n) (cap := cap) (g := g) (A := A) (k := p.1) (of_decide_eq_true hlt)
  exact ⟨_, outs_in hp, by rw [e]; rfl⟩
theorem outs_none (h : openM A = false) : ∀ o ∈ outsE Tryz.prog k38 100 H70 (a170 n cap g A) 1 (esOf A), isOut o = false := fun o ho => by
  obtain ⟨r, hr, rfl⟩ := outs_at ho
  have h : 2 ≤ r.2.size := by
    have := List.any_eq_false.1 h r hr
    simp only [decide_eq_true_eq] at this
    omega
  obtain ⟨f, e⟩ := many_at (n := n) (cap := cap) (g := g) (A := A) (k := r.1) h
  rw [e]; rfl
noncomputable def h70 (n cap : Nat) (g : Nat → ByteArray) (A : MapS) : AH := ((a170 n cap g A).h.new .dead).2
theorem h70_at : (h70 n cap g A).get 0 = viewS n g := by kernel_rfl
theorem join_few (h : openM A = true) : ∃ tm', joinE Tryz.prog k38 100 H70 (a170 n cap g A) 1 (esOf A) = some (.ret, { tm := tm', sz := (a170 n cap g A).sz, h := h70 n cap g A }) ∧ tm'.get 2 = some (i64 21) :=
  join_ret (t := 2) (v := i64 21) (by kernel_rfl) (List.contains_iff_mem.1 (by kernel_rfl)) (outs_one h) (fun o ho hi => outs_few ho hi)
theorem join_many (h : openM A = false) : joinE Tryz.prog k38 100 H70 (a170 n cap g A) 1 (esOf A) = some (.normal, { tm := tmE H70 (a170 n cap g A), sz := (a170 n cap g A).sz, h := h70 n cap g A }) := join_stay (outs_none h)

theorem read_last {Q : AExit → AF → Prop} (bad : openM A = true → ∀ af, Gives n g 21 af → Q .ret af) (good : openM A = false → ∀ af, Gives n g 0 af → Q .ret af) :
    Runs Tryz.prog 1 (behind 7 c70) (af70 n cap g A) Q := by
  refine Runs.sq (by kernel_rfl) ?_
  have keep : ∀ {h : AH}, h.get 0 = viewS n g → ∀ (j : Nat) x, [viewS n g][j]? = some x → h.get j = x := fun {h} e j o ho => by
    cases j with
    | zero => cases ho; exact e
    | succ j => cases ho
  cases ho : openM A with
  | true =>
    obtain ⟨tm', e1, e2⟩ := join_few (n := n) (cap := cap) (g := g) ho
    refine Runs.each mixed hk38 (n := 100) (by kernel_rfl) (show hd (behind 7 c70) = .seq x70 y70 by kernel_rfl) form70_at each70_at map70 es_plain good70 (fun p hp => round_some hp) e1 ?_
    exact bad ho _ ⟨[i64 21], res70 e2, rfl, keep h70_at⟩
  | false =>
    refine Runs.each mixed hk38 (n := 100) (by kernel_rfl) (show hd (behind 7 c70) = .seq x70 y70 by kernel_rfl) form70_at each70_at map70 es_plain good70 (fun p hp => round_some hp) (join_many (n := n) (cap := cap) (g := g) ho) ?_
    show Runs Tryz.prog 1 (tl (behind 7 c70)) _ _
    refine Runs.sqR mixed hk38 [] (by kernel_rfl) (by kernel_rfl) (by kernel_rfl) oblN (Runs.now (x := .ret) (by kernel_rfl) (good ho _ ⟨[i64 0], by kernel_rfl, rfl, keep (by kernel_rfl)⟩))

/-! ### All of it -/
def readN (n : Nat) (g : Nat → ByteArray) : Nat := if errF n g ≠ 0 then errF n g else if openM (mapTo g n) then 21 else 0
theorem scan_zero {p : Nat → Nat} : ∀ {d i : Nat}, scanE p d i = 0 → ∀ j, i ≤ j → j < i + d → p j = 0
  | 0, i, _, j, h1, h2 => by omega
  | d + 1, i, h, j, h1, h2 => by
    rw [scanE] at h
    by_cases hp : p i = 0
    · rw [if_pos hp] at h
      by_cases hj : j = i
      · rw [hj]; exact hp
      · exact scan_zero h j (by omega) (by omega)
    · rw [if_neg hp] at h
      exact absurd h hp
theorem errF_zero (h : errF n g = 0) : 1 ≤ n ∧ n ≤ 13 ∧ (∀ i, i < n → (g i).size ≤ 12 ∧ allBS (g i) = true) ∧ (∀ i, i + 1 < n → bytesLt (g i) (g (i + 1)) = true) ∧ ∀ i, i + 1 < n → prefB (g (i + 1)) (g i) = false := by
  unfold errF at h
  by_cases h0 : n = 0
  · rw [if_pos h0] at h; cases h
  rw [if_neg h0] at h
  by_cases h13 : 13 < n
  · rw [if_pos h13] at h; cases h
  rw [if_neg h13] at h
  by_cases ha : scanE (errA g) n 0 ≠ 0
  · rw [if_pos ha] at h; exact absurd h ha
  rw [if_neg ha] at h
  by_cases hb : scanE (errB g) (n - 1) 0 ≠ 0
  · rw [if_pos hb] at h; exact absurd h hb
  rw [if_neg hb] at h
  have ha := Decidable.not_not.1 ha
  have hb := Decidable.not_not.1 hb
  refine ⟨by omega, by omega, fun i hi => ?_, fun i hi => ?_, fun i hi => ?_⟩
  · have := scan_zero ha i (Nat.zero_le _) (by omega)
    unfold errA at this
    split at this
    · cases this
    · split at this
      · rename_i h1 h2; exact ⟨by omega, h2⟩
      · cases this
  · have := scan_zero hb i (Nat.zero_le _) (by omega)
    unfold errB at this
    split at this
    · assumption
    · cases this
  · have := scan_zero h i (Nat.zero_le _) (by omega)
    unfold errC at this
    split at this
    · cases this
    · rename_i h1; exact Bool.eq_false_iff.2 h1
theorem bs_small {w : ByteArray} (h : allBS w = true) {k : Nat} (hk : k < w.size) : byteN w k < 128 := by
  have hl : k < (bl w).length := hk
  have := List.all_eq_true.1 h _ (List.getElem_mem hl)
  unfold isBS at this
  rw [Bool.or_eq_true, Nat.beq_eq, Nat.beq_eq] at this
  unfold byteN
  rw [List.getD_eq_getElem?_getD, List.getElem?_eq_getElem hl]
  show ((bl w)[k]).toNat < 128
  omega

theorem read_says (hc : n ≤ cap) : Says Tryz.prog (hp [viewS n g]) 59 [slV n cap] (i64 (readN n g)) (hp [viewS n g]) := by
  refine says_of (os := [viewS n g]) ?_ (fun v hv => by rw [List.mem_singleton.1 hv]; exact clo_of 10 1 _ (by kernel_rfl)) viewS_clo (clo_plain rfl)
  refine local_of noNum Tryz.func59 (show Tryz.f59.body = some c70 by kernel_rfl) ?_
  have fin : ∀ {e : Nat} {af : AF}, Gives n g e af → readN n g = e → EndsAs Tryz.prog Tryz.f59 (Holds [viewS n g] (i64 (readN n g))) .ret af := fun hg he => by
    rw [he]
    obtain ⟨vs, h1, h2⟩ := hg
    exact ⟨.inr rfl, vs, h1, h2⟩
  refine read_first (n := n) (cap := cap) (g := g) hc (fun hne af hg => fin hg (by unfold readN; rw [if_pos hne])) fun hz => ?_
  obtain ⟨h1, h13, hA, _, _⟩ := errF_zero hz
  have e : readN n g = if openM (mapTo g n) then 21 else 0 := by unfold readN; rw [if_neg (by rw [hz]; simp)]
  refine Runs.sqR mixed hk38 [] (by kernel_rfl) (by kernel_rfl) (by kernel_rfl) oblN ?_
  show Runs Tryz.prog 1 (behind 6 c70) _ _
  refine Runs.sq (by kernel_rfl) (Runs.sqR mixed hk38 [] (by kernel_rfl) (by kernel_rfl) (by kernel_rfl) oblN (Runs.bk (id := 8) (by kernel_rfl) ?_))
  refine Runs.less (af1 := sth (S70d n cap 0) 113 (os70 n g (mapTo g 0))) (less_seenP S70d_clo os70_clo (show 1 ≤ 2 by decide) (by kernel_rfl) (by kernel_rfl) (by kernel_rfl) (by kernel_rfl)) ?_
  refine (read_d (by omega) (fun i hi => by have := (hA i hi).1; omega) (fun i hi k hk => bs_small (hA i hi).2 hk) n 0 (by omega)).mono fun x af hx => ?_
  obtain ⟨rfl, less⟩ := hx
  show Runs Tryz.prog 1 (behind 7 c70) af _
  refine Runs.less less (read_last (fun ho af hg => fin hg ?_) (fun ho af hg => fin hg ?_))
  · rw [e, ho]; rfl
  · rw [e, ho]; rfl
end
end
end Go.Proofs.YtgnkjmgkfibipaaGreatDoor

/- Words: when some beginning is continued by one letter only. -/
namespace Go.Proofs.YtgnkjmgkfibipaaGreatDoor
set_option linter.unusedVariables false
set_option linter.unusedSimpArgs false
open Go Go.R
noncomputable section

/-! ### Keys -/
def NK (A : MapS) : Prop := (A.map (·.1)).Nodup
theorem mem_upd {k v : ByteArray} : ∀ {A : MapS}, NK A → ∀ p, p ∈ updM k v A → p = (k, v) ∨ (p ∈ A ∧ p.1 ≠ k)
  | [], _, p, h => .inl (by rw [updM, List.mem_singleton] at h; exact h)
  | q :: l, hn, p, h => by
    have hn' := List.nodup_cons.1 (show (q.1 :: l.map (·.1)).Nodup from hn)
    rw [updM] at h
    cases hq : k == q.1 with
    | true =>
      rw [hq, cond_true] at h
      have e := beq_str.1 hq
      rcases List.mem_cons.1 h with h | h
      · exact .inl h
      · exact .inr ⟨List.mem_cons_of_mem _ h, fun e' => hn'.1 (by rw [← e, ← e']; exact List.mem_map_of_mem h)⟩
    | false =>
      rw [hq, cond_false] at h
      have e := beq_strN.1 hq
      rcases List.mem_cons.1 h with h | h
      · exact .inr ⟨h ▸ List.mem_cons_self, by rw [h]; exact fun e' => e e'.symm⟩
      · rcases mem_upd hn'.2 p h with h | ⟨h, h'⟩
        · exact .inl h
        · exact .inr ⟨List.mem_cons_of_mem _ h, h'⟩
theorem NK_upd {k v : ByteArray} : ∀ {A : MapS}, NK A → NK (updM k v A)
  | [], _ => by unfold NK updM; simp
  | q :: l, hn => by
    have hn' := List.nodup_cons.1 (show (q.1 :: l.map (·.1)).Nodup from hn)
    unfold NK
    rw [updM]
    cases hq : k == q.1 with
    | true =>
      have e := beq_str.1 hq
      rw [cond_true, List.map_cons, e]
      exact hn
    | false =>
      have e := beq_strN.1 hq
      rw [cond_false, List.map_cons]
      refine List.nodup_cons.2 ⟨fun hm => ?_, NK_upd hn'.2⟩
      obtain ⟨p, hp, ep⟩ := List.mem_map.1 hm
      rcases mem_upd hn'.2 p hp with h | ⟨h, _⟩
      · rw [h] at ep; exact e ep
      · exact hn'.1 (ep ▸ List.mem_map_of_mem h)
theorem get_mem {k : ByteArray} : ∀ {A : MapS}, NK A → ∀ v, (k, v) ∈ A → getM k A = some v
  | [], _, v, h => by cases h
  | q :: l, hn, v, h => by
    have hn' := List.nodup_cons.1 (show (q.1 :: l.map (·.1)).Nodup from hn)
    rw [getM]
    rcases List.mem_cons.1 h with h | h
    · rw [← h, beq_str.2 rfl]; rfl
    · have : (k == q.1) = false := beq_strN.2 fun e => hn'.1 (e ▸ List.mem_map_of_mem (f := (·.1)) h)
      rw [this]
      exact get_mem hn'.2 v h
theorem mem_get {k v : ByteArray} : ∀ {A : MapS}, getM k A = some v → (k, v) ∈ A
  | [], h => by cases h
  | q :: l, h => by
    rw [getM] at h
    cases hq : k == q.1 with
    | true =>
      rw [hq, cond_true] at h
      cases h
      rw [beq_str.1 hq]
      exact List.mem_cons_self
    | false =>
      rw [hq, cond_false] at h
      exact List.mem_cons_of_mem _ (mem_get h)
theorem NK_add {A : MapS} (h : NK A) (w : ByteArray) (k : Nat) : NK (addM A w k) := by
  unfold addM
  cases hasOne (valM A (w.extract 0 k)) ((bl w).getD k 0) with
  | true => exact h
  | false => exact NK_upd h
theorem NK_to {A : MapS} (h : NK A) (w : ByteArray) : ∀ k, NK (addTo A w k)
  | 0 => h
  | k + 1 => NK_add (NK_to h w k) w k
theorem NK_all (g : Nat → ByteArray) : ∀ i, NK (mapTo g i)
  | 0 => List.nodup_nil
  | i + 1 => NK_to (NK_all g i) _ _

/-! ### Letters -/
theorem letter_add (A : MapS) (w : ByteArray) (k : Nat) (p : ByteArray) (c : UInt8) : c ∈ bl (valM (addM A w k) p) ↔ c ∈ bl (valM A p) ∨ (p = w.extract 0 k ∧ c = (bl w).getD k 0) := by
  rw [add_val]
  by_cases h : p = w.extract 0 k ∧ (bl w).getD k 0 ∉ bl (valM A p)
  · rw [if_pos h, bl_push, List.mem_append, List.mem_singleton]
    exact ⟨fun q => q.imp id fun e => ⟨h.1, e⟩, fun q => q.imp id fun e => e.2⟩
  · rw [if_neg h]
    refine ⟨.inl, fun q => q.elim id fun e => ?_⟩
    by_cases hm : (bl w).getD k 0 ∈ bl (valM A p)
    · exact e.2 ▸ hm
    · exact absurd ⟨e.1, hm⟩ h
theorem letter_to (A : MapS) (w : ByteArray) (p : ByteArray) (c : UInt8) : ∀ k, c ∈ bl (valM (addTo A w k) p) ↔ c ∈ bl (valM A p) ∨ ∃ j, j < k ∧ p = w.extract 0 j ∧ c = (bl w).getD j 0
  | 0 => ⟨.inl, fun h => h.elim id fun ⟨j, hj, _⟩ => absurd hj (Nat.not_lt_zero j)⟩
  | k + 1 => by
    rw [addTo, letter_add, letter_to A w p c k]
    constructor
    · rintro ((h | ⟨j, hj, h⟩) | h)
      · exact .inl h
      · exact .inr ⟨j, by omega, h⟩
      · exact .inr ⟨k, by omega, h⟩
    · rintro (h | ⟨j, hj, h⟩)
      · exact .inl (.inl h)
      · by_cases e : j = k
        · subst e; exact .inr h
        · exact .inl (.inr ⟨j, by omega, h⟩)
theorem letter_all (g : Nat → ByteArray) (p : ByteArray) (c : UInt8) : ∀ i, c ∈ bl (valM (mapTo g i) p) ↔ ∃ a, a < i ∧ ∃ j, j < (g a).size ∧ p = (g a).extract 0 j ∧ c = (bl (g a)).getD j 0
  | 0 => ⟨fun h => (by cases h), fun ⟨a, ha, _⟩ => absurd ha (Nat.not_lt_zero a)⟩
  | i + 1 => by
    rw [mapTo, letter_to, letter_all g p c i]
    constructor
    · rintro (⟨a, ha, h⟩ | h)
      · exact ⟨a, by omega, h⟩
      · exact ⟨i, by omega, h⟩
    · rintro ⟨a, ha, h⟩
      by_cases e : a = i
      · subst e; exact .inr h
      · exact .inl ⟨a, by omega, h⟩

/-! ### Values hold letters only -/
theorem val_get {A : MapS} {p v : ByteArray} (h : getM p A = some v) : valM A p = v := by unfold valM; rw [h]; rfl
/-- An entry's letters: its value is not empty. -/
def NE (A : MapS) : Prop := ∀ p ∈ A, bl p.2 ≠ []
theorem NE_add {A : MapS} (hk : NK A) (h : NE A) (w : ByteArray) (k : Nat) : NE (addM A w k) := by
  unfold addM
  cases hasOne (valM A (w.extract 0 k)) ((bl w).getD k 0) with
  | true => exact h
  | false =>
    intro p hp
    rcases mem_upd hk p hp with rfl | ⟨hp, _⟩
    · rw [bl_push]; simp
    · exact h p hp
theorem NE_to {A : MapS} (hk : NK A) (h : NE A) (w : ByteArray) : ∀ k, NE (addTo A w k)
  | 0 => h
  | k + 1 => NE_add (NK_to hk w k) (NE_to hk h w k) w k
theorem NE_all (g : Nat → ByteArray) : ∀ i, NE (mapTo g i)
  | 0 => fun p h => by cases h
  | i + 1 => NE_to (NK_all g i) (NE_all g i) _ _

theorem bs_cases {c : UInt8} (h : isBS c.toNat = true) : c = 98 ∨ c = 115 := by
  unfold isBS at h
  rw [Bool.or_eq_true, Nat.beq_eq, Nat.beq_eq] at h
  rcases h with h | h
  · exact .inl (UInt8.toNat_inj.1 h)
  · exact .inr (UInt8.toNat_inj.1 h)
theorem two_letters {l : List UInt8} (hd : l.Nodup) (hb : ∀ c ∈ l, c = 98 ∨ c = 115) : 2 ≤ l.length ↔ (98 : UInt8) ∈ l ∧ (115 : UInt8) ∈ l := by
  constructor
  · intro h
    match l, h, hd, hb with
    | a :: b :: l, _, hd, hb =>
      have ha := hb a (by simp)
      have hbb := hb b (by simp)
      have hne : a ≠ b := fun e => by
        have := (List.nodup_cons.1 hd).1
        exact this (e ▸ List.mem_cons_self)
      rcases ha with rfl | rfl <;> rcases hbb with rfl | rfl
      · exact absurd rfl hne
      · exact ⟨by simp, by simp⟩
      · exact ⟨by simp, by simp⟩
      · exact absurd rfl hne
  · rintro ⟨h1, h2⟩
    rcases Nat.lt_or_ge l.length 2 with h | h
    · match l, h, h1, h2 with
      | [], _, h1, _ => cases h1
      | [a], _, h1, h2 =>
        rw [List.mem_singleton] at h1 h2
        rw [← h1] at h2
        exact absurd h2 (by decide)
    · exact h
theorem letter_bs {g : Nat → ByteArray} {n : Nat} (hg : ∀ i, i < n → allBS (g i) = true) {p : ByteArray} {c : UInt8} (h : c ∈ bl (valM (mapTo g n) p)) : c = 98 ∨ c = 115 := by
  obtain ⟨a, ha, j, hj, _, rfl⟩ := (letter_all g p c n).1 h
  have hl : j < (bl (g a)).length := hj
  have := List.all_eq_true.1 (hg a ha) _ (List.getElem_mem hl)
  rw [List.getD_eq_getElem?_getD, List.getElem?_eq_getElem hl]
  exact bs_cases this

/-- Continued by a letter. -/
def Cont (n : Nat) (g : Nat → ByteArray) (p : List UInt8) : Prop := ∃ i, i < n ∧ p <+: bl (g i)
theorem ext_eq {a b : ByteArray} (h : bl a = bl b) : a = b := by
  cases a; cases b
  exact congrArg ByteArray.mk (Array.toList_inj.1 h)
theorem take_push {l : List UInt8} {j : Nat} (h : j < l.length) : l.take j ++ [l.getD j 0] = l.take (j + 1) := by
  rw [List.getD_eq_getElem?_getD, List.getElem?_eq_getElem h, List.take_add_one, List.getElem?_eq_getElem h]
  rfl
theorem letter_cont {g : Nat → ByteArray} {n : Nat} (p : ByteArray) (c : UInt8) : c ∈ bl (valM (mapTo g n) p) ↔ Cont n g (bl p ++ [c]) := by
  rw [letter_all]
  constructor
  · rintro ⟨a, ha, j, hj, rfl, rfl⟩
    refine ⟨a, ha, ?_⟩
    have hl : j < (bl (g a)).length := hj
    rw [bl_cut, List.drop_zero, Nat.sub_zero, take_push hl]
    exact List.take_prefix _ _
  · rintro ⟨a, ha, t, ht⟩
    have hlen := congrArg List.length ht
    simp only [List.length_append, List.length_cons, List.length_nil] at hlen
    rw [bl_len, bl_len] at hlen
    have hj : p.size < (g a).size := by omega
    refine ⟨a, ha, p.size, hj, ext_eq ?_, ?_⟩
    · rw [bl_cut, List.drop_zero, Nat.sub_zero, ← ht, List.append_assoc, List.take_left' (bl_len p)]
    · rw [← ht, List.getD_eq_getElem?_getD, List.append_assoc, List.getElem?_append_right (by rw [bl_len]; exact Nat.le_refl _), bl_len, Nat.sub_self]
      rfl

theorem open_iff {g : Nat → ByteArray} {n : Nat} (hg : ∀ i, i < n → allBS (g i) = true) :
    openM (mapTo g n) = true ↔ ∃ a, a < n ∧ ∃ j, j < (g a).size ∧ ¬ (Cont n g ((bl (g a)).take j ++ [98]) ∧ Cont n g ((bl (g a)).take j ++ [115])) := by
  have small : ∀ p, (valM (mapTo g n) p).size < 2 ↔ ¬ (Cont n g (bl p ++ [98]) ∧ Cont n g (bl p ++ [115])) := fun p => by
    have := two_letters (NDM_all g n p) (fun c hc => letter_bs hg hc)
    rw [letter_cont, letter_cont, bl_len] at this
    rw [← this]
    omega
  constructor
  · intro h
    obtain ⟨q, hq, hlt⟩ := List.any_eq_true.1 h
    have hlt := of_decide_eq_true hlt
    have hv := val_get (get_mem (NK_all g n) q.2 hq)
    have hne := NE_all g n q hq
    obtain ⟨c, l, hl⟩ := List.exists_cons_of_ne_nil hne
    have hc : c ∈ bl (valM (mapTo g n) q.1) := by rw [hv, hl]; exact List.mem_cons_self
    obtain ⟨a, ha, j, hj, e, _⟩ := (letter_all g q.1 c n).1 hc
    refine ⟨a, ha, j, hj, ?_⟩
    rw [← hv] at hlt
    have := (small q.1).1 hlt
    rwa [e, bl_cut, List.drop_zero, Nat.sub_zero] at this
  · rintro ⟨a, ha, j, hj, h⟩
    have hc := (letter_all g ((g a).extract 0 j) _ n).2 ⟨a, ha, j, hj, rfl, rfl⟩
    cases hget : getM ((g a).extract 0 j) (mapTo g n) with
    | none =>
      have : valM (mapTo g n) ((g a).extract 0 j) = ⟨#[]⟩ := by unfold valM; rw [hget]; rfl
      rw [this] at hc
      cases hc
    | some v =>
      refine List.any_eq_true.2 ⟨_, mem_get hget, decide_eq_true ?_⟩
      rw [← val_get hget, small, bl_cut, List.drop_zero, Nat.sub_zero]
      exact h
end
end Go.Proofs.YtgnkjmgkfibipaaGreatDoor

/- Words: in ascending order a beginning comes just before what it begins. -/
namespace Go.Proofs.YtgnkjmgkfibipaaGreatDoor
set_option linter.unusedVariables false
set_option linter.unusedSimpArgs false
open Go Go.R
noncomputable section

theorem less_cons {a b : UInt8} {x y : List UInt8} : Op.bytesLess (a :: x) (b :: y) = true ↔ a.toNat < b.toNat ∨ (a = b ∧ Op.bytesLess x y = true) := by
  rw [Op.bytesLess, Bool.or_eq_true, Bool.and_eq_true, decide_eq_true_eq, beq_iff_eq, UInt8.lt_iff_toNat_lt]
theorem less_nil {x : List UInt8} : Op.bytesLess x [] = false := by cases x <;> rfl
theorem less_trans : ∀ {x y z : List UInt8}, Op.bytesLess x y = true → Op.bytesLess y z = true → Op.bytesLess x z = true
  | x, y, [], _, h => by rw [less_nil] at h; cases h
  | x, [], _ :: _, h, _ => by rw [less_nil] at h; cases h
  | [], _ :: _, _ :: _, _, _ => rfl
  | a :: x, b :: y, c :: z, h1, h2 => by
    rw [less_cons] at h1 h2 ⊢
    rcases h1 with h1 | ⟨rfl, h1⟩
    · rcases h2 with h2 | ⟨rfl, h2⟩
      · exact .inl (by omega)
      · exact .inl h1
    · rcases h2 with h2 | ⟨rfl, h2⟩
      · exact .inl h2
      · exact .inr ⟨rfl, less_trans h1 h2⟩
theorem pref_not_less : ∀ {p s : List UInt8}, p <+: s → Op.bytesLess s p = false
  | [], s, _ => less_nil
  | a :: p, s, h => by
    obtain ⟨t, rfl⟩ := h
    rw [List.cons_append, ← Bool.not_eq_true, less_cons]
    rintro (h | ⟨_, h⟩)
    · omega
    · rw [pref_not_less (List.prefix_append p t)] at h; cases h
theorem pref_between : ∀ {p x s : List UInt8}, p <+: s → Op.bytesLess p x = true → (Op.bytesLess x s = true ∨ x = s) → p <+: x
  | [], x, s, _, _, _ => List.nil_prefix
  | a :: p, [], s, _, h, _ => by rw [less_nil] at h; cases h
  | a :: p, b :: x, s, hp, h1, h2 => by
    obtain ⟨t, rfl⟩ := hp
    rw [less_cons] at h1
    rw [List.cons_append, less_cons] at h2
    rcases h1 with h1 | ⟨rfl, h1⟩
    · rcases h2 with (h2 | ⟨rfl, _⟩) | h2
      · omega
      · omega
      · cases h2; omega
    · have h3 : Op.bytesLess x (p ++ t) = true ∨ x = p ++ t := by
        rcases h2 with (h2 | ⟨_, h2⟩) | h2
        · omega
        · exact .inl h2
        · exact .inr (List.cons.inj h2).2
      obtain ⟨u, hu⟩ := pref_between (List.prefix_append p t) h1 h3
      exact ⟨u, by rw [List.cons_append, hu]⟩

theorem lt_bl (a b : ByteArray) : bytesLt a b = Op.bytesLess (bl a) (bl b) := by
  unfold bytesLt
  rw [bl_toList, bl_toList]
section
variable {n : Nat} {g : Nat → ByteArray}
theorem sorted_lt (h : ∀ i, i + 1 < n → bytesLt (g i) (g (i + 1)) = true) : ∀ d i, i + d + 1 < n → Op.bytesLess (bl (g i)) (bl (g (i + d + 1))) = true
  | 0, i, hi => by have := h i hi; rwa [lt_bl] at this
  | d + 1, i, hi => by
    have h1 := sorted_lt h d i (by omega)
    have h2 := h (i + d + 1) (by omega)
    rw [lt_bl] at h2
    exact less_trans h1 h2
theorem sorted_at (h : ∀ i, i + 1 < n → bytesLt (g i) (g (i + 1)) = true) {i j : Nat} (hij : i < j) (hj : j < n) : Op.bytesLess (bl (g i)) (bl (g j)) = true := by
  have := sorted_lt h (j - i - 1) i (by omega)
  rwa [show i + (j - i - 1) + 1 = j by omega] at this
theorem pref_iff {a b : ByteArray} : prefB a b = true ↔ bl b <+: bl a := List.isPrefixOf_iff_prefix
/-- One word begins another just if one begins the next. -/
theorem clash_iff (h : ∀ i, i + 1 < n → bytesLt (g i) (g (i + 1)) = true) : (∃ i, i < n ∧ ∃ k, k < n ∧ k ≠ i ∧ prefB (g i) (g k) = true) ↔ ∃ i, i + 1 < n ∧ prefB (g (i + 1)) (g i) = true := by
  constructor
  · rintro ⟨i, hi, k, hk, hne, hp⟩
    have hp := pref_iff.1 hp
    rcases Nat.lt_or_gt_of_ne hne with q | q
    · refine ⟨k, by omega, pref_iff.2 ?_⟩
      refine pref_between hp (sorted_at h (Nat.lt_succ_self k) (by omega)) ?_
      by_cases e : k + 1 = i
      · exact .inr (by rw [e])
      · exact .inl (sorted_at h (by omega) hi)
    · have := sorted_at h q hk
      rw [pref_not_less hp] at this
      cases this
  · rintro ⟨i, hi, hp⟩
    exact ⟨i + 1, hi, i, by omega, by omega, hp⟩
end
end
end Go.Proofs.YtgnkjmgkfibipaaGreatDoor

/- Words: the reference's checked: letters and order. -/
namespace Go.Proofs.YtgnkjmgkfibipaaGreatDoor
set_option linter.unusedVariables false
set_option linter.unusedSimpArgs false
open Go Go.R
set_option maxRecDepth 1000000
noncomputable section

section
variable {n cap : Nat} {g : Nat → ByteArray}
theorem cell72 {h : AH} {i : Nat} (hi : i < n) (hg : h.get 0 = viewS n g) : rowAt? h 0 (0 + i * 1) 1 = some [.string (g i)] := by
  have := str0_at (o := 0) (i := i) (k := n) (g := g) (lv := false) (par := []) (ty := none) hg (by omega)
  rwa [Nat.zero_add i] at this
theorem eqN_iff {a b : Nat} : eqF (.ofNat a) (.ofNat b) = Nat.beq a b := by
  rw [eqF_eq, Bool.eq_iff_iff, beq_iff_eq, Nat.beq_eq]
  exact ⟨Int.ofNat.inj, fun h => by rw [h]⟩

end
end
end Go.Proofs.YtgnkjmgkfibipaaGreatDoor
