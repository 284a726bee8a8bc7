/- Each operation of the abstract machine is one of the model's: maps. -/
import Derived.ChangeKeysEq
import Derived.Test.YtbcjmmbmeebfgaaDoorROps7
namespace Go.R
set_option linter.unusedVariables false
set_option linter.unusedSimpArgs false
open Go Go.RowKit

section
variable {P : Program} {F : Nat → Prop} {w0 : World} {μ : Mp} {h : AH} {w : World}

theorem scal_plain {d : Option TypeDesc} {v : Value} (hs : scalOf d v = true) : plainV v = true := by
  unfold scalOf at hs; split at hs <;> first | rfl | cases hs

theorem key_eq {t : TypeId} {k k' : Value} (hk : keyOk P t k = true) (h : VR μ k k') : k' = k := by
  unfold keyOk at hk
  rw [Bool.or_eq_true] at hk
  rcases hk with hk | hk
  · exact plain_eq (scal_plain hk) h
  · unfold arrKey at hk
    split at hk
    · rename_i cs hq
      simp only [Bool.and_eq_true, List.all_eq_true] at hk
      obtain ⟨a', rfl, hl⟩ := h.agg_inv
      have := LR.plain_eq (fun v hv => scal_plain (hk.2 v hv)) hl
      rw [show a' = cs from Array.ext' this]
    · cases hk

/-! ### Equality of keys -/
theorem equal_scal {t : TypeId} {x y : Value} {b : Bool} (hs : scalOf (P.underlying t) x = true) (he : flatEq x y = some b) (D : Nat) : (Op.equalIn (D + 1) t x y).run P w = .ok b w := by
  unfold scalOf at hs
  rw [Op.equalIn]
  split at hs
  · rename_i k k' n hd
    simp only [decide_eq_true_eq] at hs; subst hs
    cases y <;> try (simp [flatEq] at he; done)
    simp only [flatEq] at he
    split at he
    · rename_i hk; subst hk; cases he
      simp [run_under hd]
    · cases he
  · rename_i s hd
    cases y <;> try (simp [flatEq] at he; done)
    simp [flatEq] at he; subst he
    simp [run_under hd]
  · rename_i s hd
    cases y <;> try (simp [flatEq] at he; done)
    simp [flatEq] at he; subst he
    simp [run_under hd]
  · cases hs

theorem listEq_at : ∀ (l m : List Value) (b : Bool), listEq l m = some b → l.length = m.length ∧ (∀ (k : Nat) (x y : Value), l[k]? = some x → m[k]? = some y → ∃ c, flatEq x y = some c ∧ (b = true → c = true)) ∧
    (b = false → ∃ (k : Nat) (x y : Value), l[k]? = some x ∧ m[k]? = some y ∧ flatEq x y = some false)
  | [], [], b, h => by simp [listEq] at h; subst h; simp
  | [], _ :: _, b, h => by simp [listEq] at h
  | _ :: _, [], b, h => by simp [listEq] at h
  | x :: l, y :: m, b, h => by
    simp only [listEq] at h
    cases h1 : flatEq x y with
    | none => simp [h1] at h
    | some c =>
      cases h2 : listEq l m with
      | none => simp [h1, h2] at h
      | some d =>
        simp only [h1, h2, Option.some.injEq] at h
        obtain ⟨i1, i2, i3⟩ := listEq_at l m d h2
        refine ⟨by simp [i1], fun k u v hu hv => ?_, fun hb => ?_⟩
        · cases k with
          | zero => simp at hu hv; subst hu; subst hv; exact ⟨c, h1, fun e => by rw [e] at h; simp at h; exact h.1⟩
          | succ k =>
            obtain ⟨c', a1, a2⟩ := i2 k u v (by simpa using hu) (by simpa using hv)
            exact ⟨c', a1, fun e => a2 (by rw [e] at h; simp at h; exact h.2)⟩
        · cases c with
          | false => exact ⟨0, x, y, rfl, rfl, h1⟩
          | true =>
            have hd : d = false := by rw [← h] at hb; simpa using hb
            obtain ⟨k, u, v, a1, a2, a3⟩ := i3 hd
            exact ⟨k + 1, u, v, by simpa using a1, by simpa using a2, a3⟩

theorem part_scal {e : TypeId} {x : Value} (hs : scalOf (P.underlying e) x = true) {cs : Array Value} {k : Nat} (hk : cs[k]? = some x) : (part e cs k).run P w = .ok x w := by
  have : ∃ d, P.underlying e = some d ∧ isAggD d = false := by
    unfold scalOf at hs
    split at hs
    · rename_i hd; exact ⟨_, hd, rfl⟩
    · rename_i hd; exact ⟨_, hd, rfl⟩
    · rename_i hd; exact ⟨_, hd, rfl⟩
    · cases hs
  obtain ⟨d, hd, ha⟩ := this
  simp [part, run_isAgg hd, ha, hk]

theorem flat_scal {d : Option TypeDesc} {x y : Value} {c : Bool} (hs : scalOf d x = true) (he : flatEq x y = some c) : scalOf d y = true := by
  cases x <;> cases y <;> simp [flatEq] at he
  · unfold scalOf at hs ⊢; split at hs <;> simp_all
  · unfold scalOf at hs ⊢; split at hs <;> simp_all
  · unfold scalOf at hs ⊢; split at hs <;> simp_all

theorem eqItems_scal {e : TypeId} {xs ys : Array Value} (D : Nat) : ∀ (is : List Nat), (∀ k ∈ is, ∃ x y c, xs[k]? = some x ∧ ys[k]? = some y ∧ scalOf (P.underlying e) x = true ∧ flatEq x y = some c) →
    ∃ b, (Op.eqItems (D + 1) e 1 xs ys is).run P w = .ok b w ∧ (b = false ↔ ∃ k x y, k ∈ is ∧ xs[k]? = some x ∧ ys[k]? = some y ∧ flatEq x y = some false)
  | [], _ => ⟨true, by simp [Op.eqItems], by simp⟩
  | s :: is, hk => by
    obtain ⟨x, y, c, h1, h2, h3, h4⟩ := hk s (by simp)
    have e1 : (part e xs s).run P w = .ok x w := part_scal h3 h1
    have e2 : (part e ys s).run P w = .ok y w := part_scal (flat_scal h3 h4) h2
    have e3 := equal_scal (w := w) h3 h4 D
    obtain ⟨b, hb1, hb2⟩ := eqItems_scal D is (fun k hkm => hk k (by simp [hkm]))
    cases c with
    | false => exact ⟨false, by simp [Op.eqItems, e1, e2, e3], ⟨fun _ => ⟨s, x, y, by simp, h1, h2, h4⟩, fun _ => rfl⟩⟩
    | true =>
      refine ⟨b, by simp [Op.eqItems, e1, e2, e3, hb1], hb2.trans ⟨fun ⟨k, u, v, a1, a2⟩ => ⟨k, u, v, by simp [a1], a2⟩, fun ⟨k, u, v, a1, a2, a3, a4⟩ => ?_⟩⟩
      rcases List.mem_cons.1 a1 with rfl | a1
      · rw [h1] at a2; rw [h2] at a3; cases a2; cases a3; rw [h4] at a4; cases a4
      · exact ⟨k, u, v, a1, a2, a3, a4⟩

/-- Equality of two keys of one map. -/
theorem equal_key {t : TypeId} {x y : Value} {b : Bool} (hk : keyOk P t x = true) (he : keyEq x y = some b) : (Op.equal t x y).run P w = .ok b w := by
  rw [equal_unfold]
  unfold keyOk at hk
  rw [Bool.or_eq_true] at hk
  rcases hk with hk | hk
  · have hf : flatEq x y = some b := by
      cases x <;> first | exact he | (simp [scalOf] at hk)
    exact equal_scal hk hf 9999
  unfold arrKey at hk
  split at hk
  · rename_i n e cs hd
    simp only [Bool.and_eq_true, decide_eq_true_eq, List.all_eq_true] at hk
    obtain ⟨⟨hn, hinf⟩, hall⟩ := hk
    split at hinf
    · rename_i info hi
      simp only [decide_eq_true_eq] at hinf
      cases y <;> try (simp [keyEq, flatEq] at he; done)
      case agg ys =>
        simp only [keyEq] at he
        rw [Option.ite_none_right_eq_some] at he
        obtain ⟨hsz, he⟩ := he
        rw [run_equalIn_array w 9999 cs ys hd hi, cellsOf_info hi, hinf]
        obtain ⟨i1, i2, i3⟩ := listEq_at _ _ _ he
        obtain ⟨b', q1, q2⟩ := eqItems_scal (P := P) (w := w) (e := e) (xs := cs) (ys := ys) 9998 (List.range n) (fun k hkm => by
          have hkn : k < n := List.mem_range.1 hkm
          have a1 : cs[k]? = some (cs[k]'(by omega)) := Array.getElem?_eq_getElem (by omega)
          have a2 : ys[k]? = some (ys[k]'(by omega)) := Array.getElem?_eq_getElem (by omega)
          obtain ⟨c, hc, _⟩ := i2 k _ _ (by rw [Array.getElem?_toList]; exact a1) (by rw [Array.getElem?_toList]; exact a2)
          exact ⟨_, _, c, a1, a2, hall _ (by simp), hc⟩)
        rw [q1]
        congr 1
        cases b with
        | true =>
          cases b' with
          | true => rfl
          | false =>
            obtain ⟨k, x, y, _, a1, a2, a3⟩ := q2.1 rfl
            obtain ⟨c, c1, c2⟩ := i2 k x y (by rw [Array.getElem?_toList]; exact a1) (by rw [Array.getElem?_toList]; exact a2)
            rw [a3] at c1; cases c1
            exact absurd (c2 rfl) (by simp)
        | false =>
          obtain ⟨k, x, y, a1, a2, a3⟩ := i3 rfl
          rw [Array.getElem?_toList] at a1 a2
          have hkn : k < n := by rw [← hn]; exact (Array.getElem?_eq_some_iff.1 a1).1
          rw [q2.2 ⟨k, x, y, List.mem_range.2 hkn, a1, a2, a3⟩]
    · cases hinf
  · cases hk

theorem checkKey_ok {t : TypeId} {k : Value} (em : Bool) (hk : keyOk P t k = true) (n : Nat) : (Instr.checkKey em (n + 2) t k).run P w = .ok () w := by
  have scal : ∀ (n : Nat) {t : TypeId} {k : Value}, scalOf (P.underlying t) k = true → (Instr.checkKey em (n + 1) t k).run P w = .ok () w := by
    intro n t k hs
    unfold scalOf at hs
    rw [Instr.checkKey]
    split at hs <;> first | (rename_i hd; simp [run_under hd]; done) | cases hs
  unfold keyOk at hk
  rw [Bool.or_eq_true] at hk
  rcases hk with hk | hk
  · exact scal (n + 1) hk
  unfold arrKey at hk
  split at hk
  · rename_i n' e cs hd
    simp only [Bool.and_eq_true, decide_eq_true_eq, List.all_eq_true] at hk
    obtain ⟨⟨hn, hinf⟩, hall⟩ := hk
    split at hinf
    · rename_i info hi
      simp only [decide_eq_true_eq] at hinf
      rw [Instr.checkKey]
      simp only [Sem.run_bind, run_under hd, Result.andThen_ok, run_sizeOf hi, hinf]
      simp only [Std.Legacy.Range.forIn_eq_forIn_range', Std.Legacy.Range.size, Nat.sub_zero, Nat.add_one_sub_one, Nat.div_one]
      have hmem : ∀ j ∈ List.range' 0 n', j < cs.size := fun j hj => by have := List.mem_range'_1.1 hj; omega
      generalize List.range' 0 n' = is at hmem
      induction is with
      | nil => simp
      | cons j is ih =>
        have hj := hmem j (by simp)
        have hp : (part e cs (j * 1)).run P w = .ok cs[j] w := by
          rw [Nat.mul_one]
          exact part_scal (hall _ (by simp)) (Array.getElem?_eq_getElem hj)
        have hc := scal n (hall cs[j] (by simp))
        have := ih (fun k hk => hmem k (by simp [hk]))
        simp only [List.forIn_cons, Sem.run_bind, run_sizeOf hi, hinf, hp, hc, Result.andThen_ok, Sem.run_pure] at this ⊢
        exact this
    · cases hinf
  · cases hk

/-! ### Entries -/
/-- The search that the model makes, with the keys' own equality. -/
def lookM (k : Value) : List MapEntry → Nat → Option (Option (Nat × Value))
  | [], _ => some none
  | e :: es, i => match keyEq k e.key with
    | some true => some (some (i, e.val))
    | some false => lookM k es (i + 1)
    | none => none

theorem findNow_scal {d : TypeDesc} {k : Value} (hs : scalOf (some d) k = true) : ∀ (es : List MapEntry) (i : Nat) (r : Option (Nat × Value)), lookM k es i = some r → Instr.findNow d k es i = some r
  | [], i, r, h => by simp [lookM] at h; subst h; simp [Instr.findNow]
  | e :: es, i, r, h => by
    have hke : keyEq k e.key = flatEq k e.key := by cases k <;> first | rfl | (simp [scalOf] at hs)
    have hsn : ∀ b, flatEq k e.key = some b → Instr.sameNow d k e.key = some b := by
      intro b hb
      unfold scalOf at hs
      split at hs
      · rename_i k1 k2 n hq
        cases hq
        simp only [decide_eq_true_eq] at hs; subst hs
        cases hy : e.key <;> rw [hy] at hb <;> try (simp [flatEq] at hb; done)
        simp only [flatEq] at hb
        exact hb
      · rename_i hq; cases hq
        cases hy : e.key <;> rw [hy] at hb <;> try (simp [flatEq] at hb; done)
        exact hb
      · rename_i hq; cases hq
        cases hy : e.key <;> rw [hy] at hb <;> try (simp [flatEq] at hb; done)
        exact hb
      · cases hs
    simp only [lookM, hke] at h
    rw [Instr.findNow]
    cases hf : flatEq k e.key with
    | none => simp [hf] at h
    | some b =>
      rw [hsn b hf]
      cases b with
      | true => simpa [hf] using h
      | false =>
        simp only [hf] at h
        exact findNow_scal hs es (i + 1) r h

theorem findAsking_key {t : TypeId} {k : Value} (hk : keyOk P t k = true) : ∀ (es : List MapEntry) (i : Nat) (r : Option (Nat × Value)), lookM k es i = some r → (Instr.findAsking t k es i).run P w = .ok r w
  | [], i, r, h => by simp [lookM] at h; subst h; simp [Instr.findAsking]
  | e :: es, i, r, h => by
    simp only [lookM] at h
    cases hf : keyEq k e.key with
    | none => simp [hf] at h
    | some b =>
      have := equal_key (w := w) hk hf
      cases b with
      | true => simp only [hf, Option.some.injEq] at h; subst h; simp [Instr.findAsking, this]
      | false =>
        simp only [hf] at h
        simp [Instr.findAsking, this, findAsking_key hk es (i + 1) r h]

theorem findKey_ok {t : TypeId} {k : Value} (hk : keyOk P t k = true) (es : List MapEntry) (r : Option (Nat × Value)) (h : lookM k es 0 = some r) : (Instr.findKey t k es).run P w = .ok r w := by
  have hk' := hk
  unfold keyOk at hk'
  rw [Bool.or_eq_true] at hk'
  rcases hk' with hs | hs
  · cases hd : P.underlying t with
    | none => rw [hd] at hs; cases k <;> simp [scalOf] at hs
    | some d =>
      rw [hd] at hs
      simp [Instr.findKey, run_under hd, findNow_scal hs es 0 r h]
  · unfold arrKey at hs
    split at hs
    · rename_i n e cs hd
      cases es with
      | nil => simp [lookM] at h; subst h; simp [Instr.findKey, run_under hd, Instr.findNow]
      | cons x es =>
        simp [Instr.findKey, run_under hd, Instr.findNow, Instr.sameNow]
        exact findAsking_key hk _ 0 r h
    · cases hs

theorem look_rel {k : Value} : ∀ (es : List (Value × Value)) (ms : List MapEntry) (i : Nat) (r : Option Value), lookA k es = some r → ER μ es ms →
    ∃ r', lookM k ms i = some r' ∧ (r = none → r' = none) ∧ (∀ v, r = some v → ∃ j v', r' = some (i + j, v') ∧ VR μ v v' ∧ ∃ m, ms[j]? = some m ∧ keyEq k m.key = some true)
  | [], [], i, r, h, _ => by simp [lookA] at h; subst h; exact ⟨none, rfl, fun _ => rfl, fun v h => by cases h⟩
  | [], m :: ms, i, r, h, he => by have := he.1; simp at this
  | e :: es, [], i, r, h, he => by have := he.1; simp at this
  | e :: es, m :: ms, i, r, h, he => by
    obtain ⟨h1, h2⟩ := he.2 0 e m rfl rfl
    have ht : ER μ es ms := ⟨by have := he.1; simpa using this, fun k x y a b => he.2 (k + 1) x y (by simpa using a) (by simpa using b)⟩
    simp only [lookA] at h
    simp only [lookM, h1]
    cases hf : keyEq k e.1 with
    | none => simp [hf] at h
    | some b =>
      cases b with
      | true =>
        simp only [hf, Option.some.injEq] at h
        subst h
        exact ⟨_, rfl, (fun h => by cases h), fun v hv => by cases hv; exact ⟨0, m.val, rfl, h2, m, rfl, by rw [h1]; exact hf⟩⟩
      | false =>
        simp only [hf] at h
        obtain ⟨r', a1, a2, a3⟩ := look_rel es ms (i + 1) r h ht
        refine ⟨r', a1, a2, fun v hv => ?_⟩
        obtain ⟨j, v', b1, b2, m', b3, b4⟩ := a3 v hv
        exact ⟨j + 1, v', by rw [b1]; congr 2; omega, b2, m', by simpa using b3, b4⟩

theorem run_getObj {r : Nat} {ms : Array MapEntry} {cl : Nat} (hb : w.heap[r]? = some (.map ms cl)) : (getObj r).run P w = .ok (.map ms cl) w := by
  simp [getObj, Sem.run, hb]

theorem map_at (H : HR F w0 μ h w) {i b e : Nat} {es : List (Value × Value)} (hm : μ i = some (b, 0, e)) (hg : h.get i = .map es) :
    ∃ (ms : Array MapEntry) (cl : Nat), w.heap[b]? = some (.map ms cl) ∧ ER μ es ms.toList ∧ Stamps ms.toList cl := by
  have := H.obj i b 0 e hm
  rw [hg] at this
  exact this.2

theorem entries_ok (H : HR F w0 μ h w) {m m' : Value} {es : List (Value × Value)} (he : entriesA h m = some es) (hm : VR μ m m') :
    ∃ ms : Array MapEntry, ER μ es ms.toList ∧ ((m' = .map none ∧ ms = #[]) ∨ ∃ b cl, m' = .map (some b) ∧ w.heap[b]? = some (.map ms cl)) := by
  unfold entriesA at he
  split at he
  · cases he; cases hm.mapN_inv
    exact ⟨#[], ⟨rfl, fun k x m h => by simp at h⟩, .inl ⟨rfl, rfl⟩⟩
  · rename_i r
    obtain ⟨b, e, hmi, rfl⟩ := hm.map_inv
    split at he
    · rename_i es' hg
      cases he
      obtain ⟨ms, cl, hb, her, _⟩ := map_at H hmi hg
      exact ⟨ms, her, .inr ⟨b, cl, rfl, hb⟩⟩
    · cases he
  · cases he

theorem lookup_ok (H : HR F w0 μ h w) {t : TypeId} {m k m' k' v : Value} {ok : Bool} (hv : lookupA P t m k ok h = some v) (hm : VR μ m m') (hk : VR μ k k') :
    ∃ v', (Instr.lookup t m' k' ok).run P w = .ok v' w ∧ VR μ v v' := by
  unfold lookupA at hv
  split at hv
  · rename_i kt et hd
    rw [Option.ite_none_left_eq_some] at hv
    obtain ⟨hko, hv⟩ := hv
    simp only [Bool.not_eq_true', Bool.not_eq_false] at hko
    have := key_eq hko hk
    subst this
    split at hv
    · rename_i z es hz hes
      obtain ⟨hz1, hz2, _⟩ := zeroA_ok (w := w) (μ := μ) hz
      obtain ⟨ms, her, hget⟩ := entries_ok H hes hm
      have hck : ∀ em, (Instr.checkKey em 10000 kt k').run P w = .ok () w := fun em => checkKey_ok em hko 9998
      split at hv
      · cases hv
      · rename_i hl
        cases hv
        obtain ⟨r', a1, a2, a3⟩ := look_rel es ms.toList 0 none hl her
        have := a2 rfl; subst this
        have hf := findKey_ok (w := w) hko ms.toList none a1
        refine ⟨(if ok then .tuple #[z, .bool false] else z), by
          rcases hget with ⟨rfl, rfl⟩ | ⟨b, cl, rfl, hb⟩
          · have hf' : (Instr.findKey kt k' []).run P w = .ok none w := hf
            simp [Instr.lookup, run_under hd, hck, hf', hz1]
          · simp [Instr.lookup, run_under hd, run_getObj hb, hck, hf, hz1], ?_⟩
        cases ok
        · exact hz2
        · exact VR.tuple_of (LR.cons hz2 (LR.cons (.plain rfl) LR.nil))
      · rename_i u hl
        cases hv
        obtain ⟨r', a1, a2, a3⟩ := look_rel es ms.toList 0 (some u) hl her
        obtain ⟨j, u', rfl, hu, _⟩ := a3 u rfl
        have hf := findKey_ok (w := w) hko ms.toList _ a1
        refine ⟨(if ok then .tuple #[u', .bool true] else u'), by
          rcases hget with ⟨rfl, rfl⟩ | ⟨b, cl, rfl, hb⟩
          · have hf' : (Instr.findKey kt k' []).run P w = _ := hf
            simp [Instr.lookup, run_under hd, hck, hf']
          · simp [Instr.lookup, run_under hd, run_getObj hb, hck, hf], ?_⟩
        cases ok
        · exact hu
        · exact VR.tuple_of (LR.cons hu (LR.cons (.plain rfl) LR.nil))
    · cases hv
  · cases hv

/-! ### Storing into a map, deleting -/
theorem bytes_beq (a b : ByteArray) : (a == b) = true ↔ a = b := by
  cases a; cases b
  show (ByteArray.beq _ _ = true ↔ _)
  simp [ByteArray.beq]

theorem sameBits_scal {x y : Value} (hs : flatEq x y = some true) (n : Nat) : Instr.sameBits n x y = true := by
  cases x <;> cases y <;> simp [flatEq] at hs
  · simp [Instr.sameBits, hs]
  · obtain ⟨rfl, h⟩ := hs; simp [Instr.sameBits, h]
  · rw [bytes_beq] at hs; subst hs; simp [Instr.sameBits, bytes_beq]

theorem sameBits_key {x y : Value} (hs : keyEq x y = some true) : Instr.sameBits 10000 y x = true := by
  have symm : ∀ {a b : Value}, flatEq a b = some true → flatEq b a = some true := by
    intro a b h
    cases a <;> cases b <;> simp [flatEq] at h ⊢
    · exact h.symm
    · obtain ⟨rfl, h⟩ := h; exact ⟨rfl, h.symm⟩
    · rw [bytes_beq] at h ⊢; exact h.symm
  cases x with
  | agg xs =>
    cases y <;> try (simp [keyEq, flatEq] at hs; done)
    case agg ys =>
      simp only [keyEq] at hs
      rw [Option.ite_none_right_eq_some] at hs
      obtain ⟨hsz, hl⟩ := hs
      obtain ⟨i1, i2, _⟩ := listEq_at _ _ _ hl
      show Instr.sameBits (9999 + 1) (.agg ys) (.agg xs) = true
      simp only [Instr.sameBits, Bool.and_eq_true, beq_iff_eq, List.all_eq_true]
      refine ⟨hsz.symm, ?_⟩
      rintro ⟨u, v⟩ hm
      obtain ⟨k, hk⟩ := List.getElem?_of_mem hm
      rw [List.getElem?_zip_eq_some] at hk
      obtain ⟨c, c1, c2⟩ := i2 k v u hk.2 hk.1
      rw [c2 rfl] at c1
      exact sameBits_scal (symm c1) 9999
  | _ => exact sameBits_scal (symm (by simpa [keyEq] using hs)) 10000

theorem keyStays {x y : Value} (hs : keyEq x y = some true) : (Instr.keyThatStays y x).run P w = .ok x w := by
  simp [Instr.keyThatStays, sameBits_key hs]

/-- What a store does to the entries. -/
theorem upd_rel {k v v' : Value} (hv : VR μ v v') (cl : Nat) : ∀ (es : List (Value × Value)) (ms : List MapEntry) (i : Nat) (es' : List (Value × Value)), updA k v es = some es' → ER μ es ms →
    (lookM k ms i = some none ∧ ER μ es' (ms ++ [{ key := k, val := v', born := cl }])) ∨
    (∃ j u m, lookM k ms i = some (some (i + j, u)) ∧ ms[j]? = some m ∧ keyEq k m.key = some true ∧ ER μ es' (ms.set j { m with key := k, val := v' }))
  | [], [], i, es', h, _ => by
    simp [updA] at h; subst h
    refine .inl ⟨rfl, rfl, fun j x m a b => ?_⟩
    cases j with
    | zero => simp at a b; subst a; subst b; exact ⟨rfl, hv⟩
    | succ j => simp at a
  | [], m :: ms, i, es', h, he => by have := he.1; simp at this
  | e :: es, [], i, es', h, he => by have := he.1; simp at this
  | e :: es, m :: ms, i, es', h, he => by
    obtain ⟨h1, h2⟩ := he.2 0 e m rfl rfl
    have ht : ER μ es ms := ⟨by have := he.1; simpa using this, fun k x y a b => he.2 (k + 1) x y (by simpa using a) (by simpa using b)⟩
    have cons : ∀ {x : Value × Value} {y : MapEntry} {a : List (Value × Value)} {b : List MapEntry}, y.key = x.1 → VR μ x.2 y.val → ER μ a b → ER μ (x :: a) (y :: b) := by
      intro x y a b q1 q2 q3
      refine ⟨by simp [q3.1], fun j u w p1 p2 => ?_⟩
      cases j with
      | zero => simp at p1 p2; subst p1; subst p2; exact ⟨q1, q2⟩
      | succ j => exact q3.2 j u w (by simpa using p1) (by simpa using p2)
    simp only [updA] at h
    simp only [lookM, h1]
    cases hf : keyEq k e.1 with
    | none => simp [hf] at h
    | some b =>
      cases b with
      | true =>
        simp only [hf, Option.some.injEq] at h
        subst h
        exact .inr ⟨0, m.val, m, rfl, rfl, by rw [h1]; exact hf, by simpa using cons rfl hv ht⟩
      | false =>
        simp only [hf, Option.map_eq_some_iff] at h
        obtain ⟨es2, hes, rfl⟩ := h
        rcases upd_rel hv cl es ms (i + 1) es2 hes ht with ⟨a1, a2⟩ | ⟨j, u, m', a1, a2, a3, a4⟩
        · exact .inl ⟨a1, cons h1 h2 a2⟩
        · exact .inr ⟨j + 1, u, m', by rw [a1, show i + 1 + j = i + (j + 1) by omega], by simpa using a2, a3, by simpa using cons h1 h2 a4⟩

theorem del_rel {k : Value} : ∀ (es : List (Value × Value)) (ms : List MapEntry) (i : Nat) (es' : List (Value × Value)), delA k es = some es' → ER μ es ms →
    (lookM k ms i = some none ∧ ER μ es' ms) ∨ (∃ j u, lookM k ms i = some (some (i + j, u)) ∧ j < ms.length ∧ ER μ es' (ms.eraseIdx j))
  | [], [], i, es', h, he => by simp [delA] at h; subst h; exact .inl ⟨rfl, he⟩
  | [], m :: ms, i, es', h, he => by have := he.1; simp at this
  | e :: es, [], i, es', h, he => by have := he.1; simp at this
  | e :: es, m :: ms, i, es', h, he => by
    obtain ⟨h1, h2⟩ := he.2 0 e m rfl rfl
    have ht : ER μ es ms := ⟨by have := he.1; simpa using this, fun k x y a b => he.2 (k + 1) x y (by simpa using a) (by simpa using b)⟩
    have cons : ∀ {a : List (Value × Value)} {b : List MapEntry}, ER μ a b → ER μ (e :: a) (m :: b) := by
      intro a b q3
      refine ⟨by simp [q3.1], fun j u w p1 p2 => ?_⟩
      cases j with
      | zero => simp at p1 p2; subst p1; subst p2; exact ⟨h1, h2⟩
      | succ j => exact q3.2 j u w (by simpa using p1) (by simpa using p2)
    simp only [delA] at h
    simp only [lookM, h1]
    cases hf : keyEq k e.1 with
    | none => simp [hf] at h
    | some b =>
      cases b with
      | true =>
        simp only [hf, Option.some.injEq] at h
        subst h
        exact .inr ⟨0, m.val, rfl, by simp, by simpa using ht⟩
      | false =>
        simp only [hf, Option.map_eq_some_iff] at h
        obtain ⟨es2, hes, rfl⟩ := h
        rcases del_rel es ms (i + 1) es2 hes ht with ⟨a1, a2⟩ | ⟨j, u, a1, a2, a3⟩
        · exact .inl ⟨a1, cons a2⟩
        · exact .inr ⟨j + 1, u, by rw [a1, show i + 1 + j = i + (j + 1) by omega], by simpa using a2, by simpa using cons a3⟩

theorem wrote_obj (w : World) (b : Nat) (o o' : Obj) (hb : w.heap[b]? = some o) : Wrote w { w with heap := w.heap.setIfInBounds b o' } b o' := by
  have hlt := (Array.getElem?_eq_some_iff.1 hb).1
  exact ⟨rfl, rfl, rfl, by simp, by simp [hlt], fun k hk => by simp only [Array.getElem?_setIfInBounds]; rw [if_neg (by omega)]⟩

theorem run_setObj {r : Nat} {ms : Array MapEntry} {cl : Nat} (hb : w.heap[r]? = some (.map ms cl)) (o : Obj) : (setObj r o).run P w = .ok () { w with heap := w.heap.setIfInBounds r o } := by
  simp [setObj, Sem.run, hb]

theorem put_map (H : HR F w0 μ h w) {r b e : Nat} {es es' : List (Value × Value)} (hm : μ r = some (b, 0, e)) (hg : h.get r = .map es) {ms : Array MapEntry} {cl : Nat} (hb : w.heap[b]? = some (.map ms cl)) {ms' : Array MapEntry} {cl' : Nat} (he : ER μ es' ms'.toList) (hst : Stamps ms'.toList cl') :
    HR F w0 μ (h.put r (.map es')) { w with heap := w.heap.setIfInBounds b (.map ms' cl') } ∧ Ext μ μ h (h.put r (.map es')) := by
  have hW := wrote_obj w b _ (.map ms' cl') hb
  exact ⟨H.wrote hm hW (by rw [hg]; rfl) [] (fun c l p t q => by rw [hg] at q; cases q) (.map es') (fun c l p t q => by cases q) ⟨rfl, ms', cl', hW.at_, he, hst⟩,
    Ext.wrote H hm [] _ (fun j hj => by cases hj)⟩

theorem mapUpdate_ok (H : HR F w0 μ h w) {t : TypeId} {m k x m' k' x' : Value} {h' : AH} (hv : mapUpdateA P t m k x h = some h') (hm : VR μ m m') (hk : VR μ k k') (hx : VR μ x x') :
    ∃ w', (Instr.mapUpdate t m' k' x').run P w = .ok () w' ∧ HR F w0 μ h' w' ∧ Ext μ μ h h' := by
  unfold mapUpdateA at hv
  split at hv
  · rename_i kt et r hd
    rw [Option.ite_none_left_eq_some] at hv
    obtain ⟨hko, hv⟩ := hv
    simp only [Bool.not_eq_true', Bool.not_eq_false] at hko
    have := key_eq hko hk
    subst this
    obtain ⟨b, e, hmi, rfl⟩ := hm.map_inv
    split at hv
    · rename_i es hg
      rw [Option.map_eq_some_iff] at hv
      obtain ⟨es', hes, rfl⟩ := hv
      obtain ⟨ms, cl, hb, her, hst⟩ := map_at H hmi hg
      have hck : ∀ em, (Instr.checkKey em 10000 kt k').run P w = .ok () w := fun em => checkKey_ok em hko 9998
      rcases upd_rel hx cl es ms.toList 0 es' hes her with ⟨a1, a2⟩ | ⟨j, u, y, a1, a2, a3, a4⟩
      · have hf := findKey_ok (w := w) hko ms.toList _ a1
        obtain ⟨q1, q2⟩ := put_map H hmi hg hb (ms' := ms.push { key := k', val := x', born := cl }) (cl' := cl + 1) (by simpa using a2) (by simpa using hst.push k' x')
        refine ⟨_, ?_, q1, q2⟩
        simp [Instr.mapUpdate, run_under hd, run_getObj hb, hck, hf, run_setObj hb]
      · have hf := findKey_ok (w := w) hko ms.toList _ a1
        have hj : j < ms.size := by
          rw [Array.getElem?_toList] at a2; exact (Array.getElem?_eq_some_iff.1 a2).1
        have hmj : ms[j]? = some y := by rw [Array.getElem?_toList] at a2; exact a2
        have hmod : (ms.modify j fun e => { e with key := k', val := x' }).toList = ms.toList.set j { y with key := k', val := x' } := by
          apply List.ext_getElem?
          intro i
          rw [Array.getElem?_toList, Array.getElem?_modify, List.getElem?_set]
          by_cases e1 : j = i
          · subst e1
            rw [if_pos rfl, if_pos rfl, if_pos (by simpa using hj), hmj]; rfl
          · simp [e1]
        obtain ⟨q1, q2⟩ := put_map H hmi hg hb (ms' := ms.modify j fun e => { e with key := k', val := x' }) (cl' := cl) (by rw [hmod]; exact a4) (by
          rw [hmod]
          refine hst.of_map ?_
          have : (ms.toList.set j { y with key := k', val := x' }).map (·.born) = ms.toList.map (·.born) := by
            apply List.ext_getElem?
            intro i
            rw [List.getElem?_map, List.getElem?_map, List.getElem?_set]
            by_cases e1 : j = i
            · subst e1
              rw [if_pos rfl, if_pos (by simpa using hj), a2]; rfl
            · simp [e1]
          rw [this]
          exact List.Sublist.refl _)
        refine ⟨_, ?_, q1, q2⟩
        rw [Nat.zero_add] at hf
        simp [Instr.mapUpdate, run_under hd, run_getObj hb, hck, hf, hmj, keyStays a3, run_setObj hb]
    · cases hv
  · cases hv

theorem delete_ok (H : HR F w0 μ h w) {t tk ty : TypeId} {m k m' k' : Value} {h' : AH} (hv : deleteA P t m k h = some h') (hm : VR μ m m') (hk : VR μ k k') :
    ∃ w', (Builtin.delete_ #[t, tk] ty #[m', k']).run P w = .ok (.tuple #[]) w' ∧ HR F w0 μ h' w' ∧ Ext μ μ h h' := by
  unfold deleteA at hv
  split at hv
  · rename_i kt et r hd
    rw [Option.ite_none_left_eq_some] at hv
    obtain ⟨hko, hv⟩ := hv
    simp only [Bool.not_eq_true', Bool.not_eq_false] at hko
    have := key_eq hko hk
    subst this
    obtain ⟨b, e, hmi, rfl⟩ := hm.map_inv
    split at hv
    · rename_i es hg
      rw [Option.map_eq_some_iff] at hv
      obtain ⟨es', hes, rfl⟩ := hv
      obtain ⟨ms, cl, hb, her, hst⟩ := map_at H hmi hg
      have hck : ∀ em, (Instr.checkKey em 10000 kt k').run P w = .ok () w := fun em => checkKey_ok em hko 9998
      rcases del_rel es ms.toList 0 es' hes her with ⟨a1, a2⟩ | ⟨j, u, a1, a2, a3⟩
      · have hf := findKey_ok (w := w) hko ms.toList _ a1
        obtain ⟨q1, q2⟩ := put_map H hmi hg hb (ms' := ms) (cl' := cl) a2 hst
        refine ⟨_, ?_, q1, q2⟩
        simp [Builtin.delete_, run_under hd, run_getObj hb, hck, hf, run_setObj hb]
      · have hf := findKey_ok (w := w) hko ms.toList _ a1
        have hj : j < ms.size := by simpa using a2
        obtain ⟨q1, q2⟩ := put_map H hmi hg hb (ms' := ms.eraseIdxIfInBounds j) (cl' := cl) (by
          have : (ms.eraseIdxIfInBounds j).toList = ms.toList.eraseIdx j := by simp [Array.eraseIdxIfInBounds, hj]
          rw [this]; exact a3) (by
          have : (ms.eraseIdxIfInBounds j).toList = ms.toList.eraseIdx j := by simp [Array.eraseIdxIfInBounds, hj]
          rw [this]; exact hst.of_map ((List.eraseIdx_sublist _ _).map _))
        refine ⟨_, ?_, q1, q2⟩
        rw [Nat.zero_add] at hf
        simp [Builtin.delete_, run_under hd, run_getObj hb, hck, hf, run_setObj hb]
    · cases hv
  · cases hv

end
end Go.R
