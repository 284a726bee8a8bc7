/- Each operation of the abstract machine is one of the model's: new slices, copies, conversions, text. -/
import Derived.Test.YtbcjmmbmeebfgaaDoorROps6
namespace Go.R
set_option linter.unusedVariables false
set_option linter.unusedSimpArgs false
open Go Go.RowKit

section
variable {P : Program} {F : Nat → Prop} {w0 : World} {μ : Mp} {h : AH} {w : World}

theorem wrap_id {n : Int} (h0 : -1000000000 ≤ n) (h1 : n ≤ 1000000000) : IntKind.i64.wrap n = n := by
  unfold IntKind.wrap
  have hb : ((2 : Int) ^ IntKind.i64.bits) = 18446744073709551616 := rfl
  have hb2 : ((2 : Int) ^ (IntKind.i64.bits - 1)) = 9223372036854775808 := rfl
  have hs : IntKind.i64.signed = true := rfl
  simp only [hb, hb2, hs, Bool.true_and, ge_iff_le, decide_eq_true_eq]
  split <;> omega

theorem makeSlice_ok (H : HR F w0 μ h w) {t : TypeId} {l c l' c' v : Value} {h' : AH} (hv : makeSliceA P t l c h = some (v, h')) (hl : VR μ l l') (hc : VR μ c c') :
    ∃ μ' w' v', (Instr.makeSlice t l' c').run P w = .ok v' w' ∧ VR μ' v v' ∧ HR F w0 μ' h' w' ∧ Ext μ μ' h h' := by
  unfold makeSliceA at hv
  cases hd : P.underlying t with
  | none => simp [hd] at hv
  | some d =>
    rw [hd] at hv
    split at hv
    · rename_i e k l k2 c hq
      cases hq
      cases hl.int_inv; cases hc.int_inv
      cases hf : P.info? e with
      | none => simp [hf] at hv
      | some info =>
        simp only [hf] at hv
        split at hv
        · cases hv
        · rename_i z hz
          obtain ⟨hzz, hok⟩ := zeroOf_some hz
          rw [Option.ite_none_left_eq_some] at hv
          obtain ⟨hs, hv⟩ := hv
          simp only [Bool.or_eq_true, decide_eq_true_eq, not_or, ne_eq, Decidable.not_not] at hs
          obtain ⟨hs1, hs0⟩ := hs
          rw [Option.ite_none_right_eq_some] at hv
          obtain ⟨⟨h1, h2, h3, h4⟩, hv⟩ := hv
          simp only [AH.fst_new, Option.some.injEq, Prod.mk.injEq] at hv
          obtain ⟨rfl, rfl⟩ := hv
          have hzp : 0 < z.cells.size := by omega
          have wl := wrap_id (n := l) (by omega) (by omega)
          have wc := wrap_id (n := c) (by omega) (by omega)
          have hrz := range_zero z.cells c.toNat hzp
          rw [← hs1] at hrz
          have hLR : LR μ (repeatL z.cells.toList c.toNat) ((Array.range (c.toNat * info.size)).map (z.cells[· % z.cells.size]!)).toList := by
            rw [hs1, range_zero z.cells c.toNat hzp]
            exact LR.of_plain (repeatL_plain (okZero_cells hok) _)
          have := new_row H e hLR ((Array.range (c.toNat * info.size)).map (z.cells[· % z.cells.size]!)) (by rw [hLR.1]; exact List.take_of_length_le (Nat.le_refl _)) (some e) (fun _ q => by cases q; rfl)
          refine ⟨_, _, .slice (some ⟨w.heap.size, 0, none⟩) l.toNat c.toNat, ?_, ?_, this.1, this.2⟩
          · have hbig : ¬ ((281474976710656 : Int) < (info.bytes : Int) * c) := by
              have : (info.bytes : Int) * c ≤ 1000000 * 1000000 := Int.mul_le_mul (by omega) h3 (by omega) (by omega)
              omega
            have hmk : (Instr.makeSlice t (.int k l) (.int k2 c)).run P w = .ok (.slice (some ⟨w.heap.size, 0, none⟩) l.toNat c.toNat) (w.alloc (.cells ((Array.range (c.toNat * info.size)).map (z.cells[· % z.cells.size]!)) e)) := by
              have g1 : ¬ c < 0 := by omega
              have g2 : ¬ l < 0 := by omega
              have g3 : ¬ c < l := by omega
              by_cases hn : c.toNat * info.size = 0
              · have e0 : ∀ f : Nat → Value, Array.map f (Array.range 0) = #[] := fun f => by apply Array.ext'; rw [Array.toList_map, Array.toList_range]; rfl
                simp [Instr.makeSlice, run_under hd, asInt, asIntOf_run, run_info hf, wl, wc, hbig, g1, g2, g3, run_sizeOf hf, hn, e0, run_newRow]
              · simp [Instr.makeSlice, run_under hd, asInt, asIntOf_run, run_info hf, wl, wc, hbig, g1, g2, g3, run_sizeOf hf, hn, run_zeroV hf hzz, run_newRow]
            exact hmk
          · have : VR (μ.add h.next (w.heap.size, 0, ((Array.range (c.toNat * info.size)).map (z.cells[· % z.cells.size]!)).size)) (.slice (some ⟨h.next, 0, none⟩) l.toNat c.toNat) (.slice (some ⟨w.heap.size, 0 + 0, none⟩) l.toNat c.toNat) :=
              .slice (e := ((Array.range (c.toNat * info.size)).map (z.cells[· % z.cells.size]!)).size) (by simp [Mp.add])
            exact this
    · cases hv

theorem makeMap_ok (H : HR F w0 μ h w) (t : TypeId) :
    ∃ μ' w' v', (Instr.makeMap t none).run P w = .ok v' w' ∧ VR μ' (.map (some h.next)) v' ∧ HR F w0 μ' (h.new (.map [])).2 w' ∧ Ext μ μ' h (h.new (.map [])).2 := by
  have := H.new (.map []) (.map #[] 0) 0 (fun c l p ty e => by cases e) ⟨rfl, #[], 0, by show (w.heap.push _)[w.heap.size]? = _; rw [Array.getElem?_push, if_pos rfl], ⟨rfl, fun k x m hx => by simp at hx⟩, fun m hm => by simp at hm, by simp⟩
  exact ⟨_, _, .map (some w.heap.size), by simp only [Instr.makeMap, Sem.run_bind, run_newObj, Result.andThen_ok, Sem.run_pure]; rfl, .map (e := 0) (by simp [Mp.add]), this.1, this.2⟩

theorem lenOf_slice (a : Option Addr) (n c : Nat) : (Builtin.lenOf (.slice a n c)).run P w = .ok n w := rfl

theorem copy_ok (H : HR F w0 μ h w) {t tx ty : TypeId} {d x d' x' v : Value} {h' : AH} (hv : copyA P t d x h = some (v, h')) (hd' : VR μ d d') (hx : VR μ x x') :
    ∃ w', (Builtin.copy_ #[t, tx] ty #[d', x']).run P w = .ok v w' ∧ plainV v = true ∧ HR F w0 μ h' w' ∧ Ext μ μ h h' := by
  unfold copyA at hv
  cases hd : P.underlying t with
  | none => simp [hd] at hv
  | some dd =>
    rw [hd] at hv
    split at hv
    · rename_i e base dl dc hq
      cases hq
      have sl : ∀ {A : Option Addr} {n c : Nat} {y : Value}, VR μ (.slice A n c) y → ∃ A' c', y = .slice A' n c' ∧ (A = none → n = 0) ∧ (A = none → A' = none) := by
        intro A n c y hy
        cases hy with
        | plain hp => cases A <;> simp [plainV] at hp; exact ⟨_, _, rfl, fun _ => hp.1, fun h => h⟩
        | slice _ => exact ⟨_, _, rfl, (fun h => by cases h), (fun h => by cases h)⟩
        | sliceU _ _ _ _ => exact ⟨_, _, rfl, (fun h => by cases h), (fun h => by cases h)⟩
        | slice0 => exact ⟨_, _, rfl, (fun h => by cases h), (fun h => by cases h)⟩
      cases hf : P.info? e with
      | none => simp [hf] at hv
      | some info =>
        simp only [hf] at hv
        have none_case : ∀ (A' B' : Option Addr) (n c1 c2 : Nat), d' = .slice A' dl c1 → x' = .slice B' n c2 → Nat.min n dl = 0 → (Builtin.copy_ #[t, tx] ty #[d', x']).run P w = .ok (.int .i64 0) w := by
          rintro A' B' n c1 c2 rfl rfl hm
          cases B' <;> cases A' <;> simp [Builtin.copy_, run_under hd, lenOf_slice, run_sizeOf hf, hm, Builtin.firstCells, loadCells, loadCellsFrom, storeCells, goInt]
        split at hv
        · cases hv
          obtain ⟨A', c1, rfl, _, _⟩ := sl hd'
          obtain ⟨rfl, _, rfl⟩ := hx.sliceN_inv
          exact ⟨w, none_case _ _ _ _ _ rfl rfl (by simp), rfl, H, Ext.refl μ h⟩
        · rename_i i o sp n c
          split at hv
          · rw [Option.ite_none_right_eq_some] at hv
            obtain ⟨hdl, hv⟩ := hv
            cases hv
            obtain ⟨A', c1, rfl, _, _⟩ := sl hd'
            obtain ⟨B', c2, rfl, _, _⟩ := sl hx
            exact ⟨w, none_case _ _ _ _ _ rfl rfl (by rw [hdl]; exact Nat.min_zero n), rfl, H, Ext.refl μ h⟩
          · rename_i j q sq
            split at hv
            · rename_i hm
              cases hv
              obtain ⟨A', c1, rfl, _, _⟩ := sl hd'
              obtain ⟨B', c2, rfl, _, _⟩ := sl hx
              exact ⟨w, none_case _ _ _ _ _ rfl rfl hm, rfl, H, Ext.refl μ h⟩
            · rename_i hm
              split at hv
              · rename_i l hr
                rw [Option.ite_none_right_eq_some] at hv
                obtain ⟨hcv, hv⟩ := hv
                rw [Option.map_eq_some_iff] at hv
                obtain ⟨h1, hp, hv⟩ := hv
                cases hv
                have at_ : ∀ {i o n c : Nat} {s : Option Nat} {y : Value}, n ≠ 0 → VR μ (.slice (some ⟨i, o, s⟩) n c) y → ∃ b z e c', μ i = some (b, z, e) ∧ y = .slice (some ⟨b, z + o, none⟩) n c' := by
                  intro i o n c s y hn hy
                  cases s with
                  | none => obtain ⟨b, z, e, hm, rfl⟩ := hy.slice_inv; exact ⟨b, z, e, _, hm, rfl⟩
                  | some s => cases s with
                    | zero => obtain ⟨h1, _⟩ := hy.slice0_inv; exact absurd h1 hn
                    | succ s => obtain ⟨b, z, e, c', hm, _, _, _, rfl⟩ := hy.sliceU_inv; exact ⟨b, z, e, c', hm, rfl⟩
                obtain ⟨b, z, en, c', hmi, rfl⟩ := at_ (by omega) hx
                obtain ⟨b2, z2, en2, c2, hmj, rfl⟩ := at_ (by omega) hd'
                obtain ⟨l', hl, hld⟩ := load_cells (P := P) H hmi hr
                obtain ⟨w', r1, r2, r3⟩ := row_write (P := P) H hmj hp hl (fun v hv => List.all_eq_true.1 hcv v hv)
                refine ⟨w', ?_, rfl, r2, r3⟩
                have hmin : Nat.min n dl = min n dl := rfl
                simp [Builtin.copy_, run_under hd, lenOf_slice, run_sizeOf hf, hmin, Builtin.firstCells, hld, r1, goInt]
                omega
              · cases hv
        · cases hv
    · cases hv

theorem slice_addr {i o n c : Nat} {s : Option Nat} {y : Value} (hn : n ≠ 0) (hy : VR μ (.slice (some ⟨i, o, s⟩) n c) y) : ∃ b z e c', μ i = some (b, z, e) ∧ y = .slice (some ⟨b, z + o, none⟩) n c' := by
  cases s with
  | none => obtain ⟨b, z, e, hm, rfl⟩ := hy.slice_inv; exact ⟨b, z, e, _, hm, rfl⟩
  | some s => cases s with
    | zero => obtain ⟨h1, _⟩ := hy.slice0_inv; exact absurd h1 hn
    | succ s => obtain ⟨b, z, e, c', hm, _, _, _, rfl⟩ := hy.sliceU_inv; exact ⟨b, z, e, c', hm, rfl⟩

theorem clear_ok (H : HR F w0 μ h w) {t ty : TypeId} {x x' : Value} {h' : AH} (hv : clearA P t x h = some h') (hx : VR μ x x') :
    ∃ w', (Builtin.clear_ #[t] ty #[x']).run P w = .ok (.tuple #[]) w' ∧ HR F w0 μ h' w' ∧ Ext μ μ h h' := by
  unfold clearA at hv
  split at hv
  · rename_i e _ _ hd
    cases hv
    obtain ⟨_, _, rfl⟩ := hx.sliceN_inv
    exact ⟨w, by simp [Builtin.clear_, run_under hd], H, Ext.refl μ _⟩
  · rename_i e a n c hd
    cases hf : P.info? e with
    | none => simp [hf] at hv
    | some info =>
      simp only [hf] at hv
      split at hv
      · cases hv
      · rename_i z hz
        obtain ⟨hzz, hok⟩ := zeroOf_some hz
        split at hv
        · rename_i hn
          cases hv
          subst hn
          cases hx with
          | plain hp => simp [plainV] at hp
          | slice hm => exact ⟨w, by simp [Builtin.clear_, run_under hd], H, Ext.refl μ _⟩
          | sliceU _ _ _ _ => exact ⟨w, by simp [Builtin.clear_, run_under hd], H, Ext.refl μ _⟩
          | slice0 => exact ⟨w, by simp [Builtin.clear_, run_under hd], H, Ext.refl μ _⟩
        · rename_i hn
          split at hv
          · cases hv
          · rename_i hs
            obtain ⟨i, o, sp⟩ := a
            obtain ⟨b, zz, en, c', hm, rfl⟩ := slice_addr hn hx
            have hl : LR μ (repeatL z.cells.toList n) (Builtin.zeroCells z.cells n).toList := by
              unfold Builtin.zeroCells
              rw [range_zero z.cells n (by omega)]
              exact LR.of_plain (repeatL_plain (okZero_cells hok) _)
            obtain ⟨w', r1, r2, r3⟩ := row_write (P := P) H hm hv hl (fun v hv => by
              have := repeatL_plain (okZero_cells hok) _ v hv
              cases v <;> first | rfl | (simp [plainV] at this; done))
            refine ⟨w', ?_, r2, r3⟩
            obtain ⟨n, rfl⟩ : ∃ m, n = m + 1 := ⟨n - 1, by omega⟩
            simp [Builtin.clear_, run_under hd, run_zeroV hf hzz, r1]
  · cases hv

theorem arrayAt_ok {t : TypeId} {x x' v : Value} (hv : arrayAtA P t x = some v) (hx : VR μ x x') : ∃ v', (Instr.arrayAt t x').run P w = .ok v' w ∧ VR μ v v' := by
  unfold arrayAtA at hv
  split at hv
  · rename_i n e i o len c hd
    rw [Option.ite_none_left_eq_some] at hv
    obtain ⟨hc, hv⟩ := hv
    cases hv
    simp only [Bool.or_eq_true, decide_eq_true_eq, not_or, Nat.blt_eq] at hc
    obtain ⟨b, z, en, hm, rfl⟩ := hx.slice_inv
    refine ⟨_, ?_, .ptr hm⟩
    simp [Instr.arrayAt, run_under hd, if_neg hc.2]
  · rename_i n e i o s len c hd
    rw [Option.ite_none_left_eq_some] at hv
    obtain ⟨hc, hv⟩ := hv
    cases hv
    simp only [Bool.or_eq_true, decide_eq_true_eq, not_or, Nat.blt_eq] at hc
    obtain ⟨b, z, en, c', hm, rfl⟩ := slice_addr (s := some (s + 1)) (by omega) hx
    refine ⟨_, ?_, .ptr hm⟩
    simp [Instr.arrayAt, run_under hd, if_neg hc.2]
  · cases hv

/-! ### Text out of bytes -/
theorem bytes_load : ∀ (l l' : List Value) (bs : List UInt8) (acc : ByteArray) (b o : Nat), bytesOf l = some bs → LR μ l l' → (∀ j v, l'[j]? = some v → w.cell? ⟨b, o + j, none⟩ = some v) →
    (loadBytes ⟨b, o, none⟩ acc l.length).run P w = .ok ⟨acc.data ++ bs.toArray⟩ w
  | [], l', bs, acc, b, o, hb, hl, hc => by simp [bytesOf] at hb; subst hb; simp [loadBytes]
  | x :: l, [], bs, acc, b, o, hb, hl, hc => by have := hl.1; simp at this
  | x :: l, y :: l', bs, acc, b, o, hb, hl, hc => by
    have hxy := hl.head
    cases x <;> try (simp [bytesOf] at hb; done)
    case int k n =>
      cases k <;> try (simp [bytesOf] at hb; done)
      cases hxy.int_inv
      simp only [bytesOf, Option.map_eq_some_iff] at hb
      obtain ⟨bs', hb', rfl⟩ := hb
      have h0 := hc 0 _ rfl
      rw [Nat.add_zero] at h0
      have ih := bytes_load l l' bs' (acc.push n.toNat.toUInt8) b (o + 1) hb' hl.tail (fun j v hj => by rw [show o + 1 + j = o + (j + 1) by omega]; exact hc (j + 1) v (by simpa using hj))
      simp only [List.length_cons, loadBytes, Sem.run_bind, run_load, h0, Result.andThen_ok, add_at, ih]
      congr 2
      apply Array.ext'
      simp [ByteArray.push]

theorem lies_one {e : TypeId} {info : TypeInfo} (hi : P.info? e = some info) (hs : info.size = 1) (count off n : Nat) (hle : off + n ≤ count) : liesAt P P.depth e count off e n = true := by
  have hdep : ∃ D, P.depth = D + 1 := ⟨2 * (P.types.size + Made.depth) + 1, rfl⟩
  obtain ⟨D, hD⟩ := hdep
  have hc : P.cellsOf e = 1 := by rw [cellsOf_info hi, hs]
  rw [hD, liesAt, hD, rowAt, hc]
  simp [hle, sameLayout, Nat.mod_one]

theorem lies_first {e : TypeId} {info : TypeInfo} (hi : P.info? e = some info) (hs : info.size ≠ 0) (count : Nat) (hle : 1 ≤ count) : liesAt P P.depth e count 0 e 1 = true := by
  have hdep : ∃ D, P.depth = D + 1 := ⟨2 * (P.types.size + Made.depth) + 1, rfl⟩
  obtain ⟨D, hD⟩ := hdep
  have hc : P.cellsOf e = info.size := cellsOf_info hi
  rw [hD, liesAt, hD, rowAt, hc]
  simp [hle, hs, sameLayout]

theorem frozen_wrote (w : World) (b o n : Nat) (hn : n ≠ 0) {cs : Array Value} {el : TypeId} {fr : Nat × Nat} (hb : w.heap[b]? = some (.cells cs el fr)) :
    ∃ fr', Wrote w (w.freeze ⟨b, o, none⟩ n) b (.cells cs el fr') := by
  refine ⟨if fr.1 == fr.2 then (o, o + n) else (min fr.1 o, max fr.2 (o + n)), ?_⟩
  unfold World.freeze
  rw [if_neg hn]
  exact ⟨rfl, rfl, rfl, by simp, by simp [Array.getElem?_modify, hb], fun k hk => by simp only [Array.getElem?_modify]; rw [if_neg (by omega)]⟩

theorem unsafeString_some (pt it ty : TypeId) (a : Addr) (k : IntKind) (n : Int) : Builtin.unsafeString_ #[pt, it] ty #[.pointer (some a), .int k n] =
    (do
      let n ← asInt (.int k n)
      if n < 0 then runtimePanic (.error "unsafe.String: len out of range")
      if n > IntKind.i64.max then unsupported (.unsafePointer "String: a length above the largest int")
      if n = 0 then pure (.string .empty)
      else if ← variablesAt a (← elemOf pt) n.toNat then do
        let s ← loadBytes a .empty n.toNat
        freeze a n.toNat
        pure (.string s)
      else unsupported (.unsafePointer "String: not so many bytes at ptr")) := rfl
theorem unsafeString_none (pt it ty : TypeId) (k : IntKind) (n : Int) : Builtin.unsafeString_ #[pt, it] ty #[.pointer none, .int k n] =
    (do
      let n ← asInt (.int k n)
      if n < 0 then runtimePanic (.error "unsafe.String: len out of range")
      if n > IntKind.i64.max then unsupported (.unsafePointer "String: a length above the largest int")
      if n = 0 then pure (.string .empty)
      else runtimePanic (.error "unsafe.String: ptr is nil and len is not zero")) := rfl

theorem unsafeString_ok (H : HR F w0 μ h w) {pt tl ty : TypeId} {p n p' n' v : Value} {h' : AH} (hv : unsafeStringA P pt p n h = some (v, h')) (hp : VR μ p p') (hn : VR μ n n') :
    ∃ w', (Builtin.unsafeString_ #[pt, tl] ty #[p', n']).run P w = .ok v w' ∧ plainV v = true ∧ HR F w0 μ h' w' ∧ Ext μ μ h h' := by
  unfold unsafeStringA at hv
  have hmax : IntKind.i64.max = 9223372036854775807 := rfl
  split at hv
  · rename_i k n
    rw [Option.ite_none_right_eq_some] at hv
    obtain ⟨rfl, hv⟩ := hv
    cases hv
    cases hp.ptrN_inv; cases hn.int_inv
    exact ⟨w, by rw [unsafeString_none]; simp [asInt, asIntOf_run, hmax], rfl, H, Ext.refl μ h⟩
  · rename_i i o k n
    cases hn.int_inv
    obtain ⟨b, z, en, hm, rfl⟩ := hp.ptr_inv
    split at hv
    · rename_i h0
      subst h0
      cases hv
      exact ⟨w, by rw [unsafeString_some]; simp [asInt, asIntOf_run, hmax], rfl, H, Ext.refl μ h⟩
    · rename_i h0
      rw [Option.ite_none_left_eq_some] at hv
      obtain ⟨hneg, hv⟩ := hv
      split at hv
      · rename_i c par e u hg hd
        rw [Option.ite_none_right_eq_some] at hv
        obtain ⟨hc, hv⟩ := hv
        simp only [Bool.and_eq_true, decide_eq_true_eq] at hc
        obtain ⟨⟨⟨hle, rfl⟩, hinf⟩, hcell⟩ := hc
        obtain ⟨info, hinf⟩ := Option.isSome_iff_exists.1 hinf
        rw [cellsOf_info hinf] at hcell
        split at hv
        · rename_i bs hbs
          cases hv
          have hobj := H.obj i b z en hm
          rw [hg] at hobj
          obtain ⟨ws, el, fr, o1, o2, o3, o4, o5, o6⟩ := hobj
          obtain ⟨rfl, hz0⟩ := o6 u rfl
          have hr : rowAt? h i o n.toNat = some ((c.drop o).take n.toNat) := by unfold rowAt?; rw [hg]; simp [hle]
          obtain ⟨l', hl, hlen, hcl⟩ := row_read H hm hr
          have hld := bytes_load (P := P) _ l' bs .empty b (z + o) hbs hl hcl
          rw [hlen] at hld
          have hlies : liesAt P P.depth el (ws.size / P.cellsOf el) (z + o) el n.toNat = true := lies_one hinf hcell _ _ _ (by rw [cellsOf_info hinf, hcell, Nat.div_one]; omega)
          obtain ⟨fr', hW⟩ := frozen_wrote w b (z + o) n.toNat (by omega) o1
          refine ⟨_, ?_, rfl, H.wrote hm hW (by rw [hg]; rfl) par (fun c' l' p' t' e' => by rw [hg] at e'; cases e'; rfl) (.cells c false [] (some el)) (fun c' l' p' t' e' j hj => by cases e'; cases hj) ⟨ws, el, fr', hW.at_, o2, o3, o4, (fun hf => by cases hf), o6⟩,
            Ext.wrote H hm par _ (H.par i c true par (some el) (by rw [hm]; simp) hg)⟩
          have e1 : ByteArray.mk (ByteArray.empty.data ++ bs.toArray) = ⟨bs.toArray⟩ := by congr 1; apply Array.ext'; rw [Array.toList_append]; rfl
          rw [e1] at hld
          have hsh : w.shape? b = some (el, ws.size) := by simp [World.shape?, o1]
          have hn1 : ¬ n < 0 := by omega
          have hn2 : ¬ (9223372036854775807 < n) := by omega
          rw [unsafeString_some]
          simp [asInt, asIntOf_run, hmax, h0, hn1, hn2, elemOf, run_under hd, variablesAt, hsh, hlies, hld]
        · cases hv
      · cases hv
  · cases hv

end
end Go.R
