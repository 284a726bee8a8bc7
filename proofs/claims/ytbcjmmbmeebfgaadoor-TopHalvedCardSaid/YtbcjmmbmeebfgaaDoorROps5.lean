/- Each operation of the abstract machine is one of the model's: append. -/
import Derived.Room.Entries
import Derived.Test.YtbcjmmbmeebfgaaDoorROps4
namespace Go.R
set_option linter.unusedVariables false
set_option linter.unusedSimpArgs false
open Go Go.RowKit

section
variable {P : Program} {F : Nat → Prop} {w0 : World} {μ : Mp} {h : AH} {w : World}

theorem zfit_some {info : TypeInfo} (hz : zfit info = true) : ∃ z, info.zero = some z ∧ okZero z = true ∧ z.cells.size = info.size := by
  unfold zfit at hz
  split at hz
  · rename_i z h1
    obtain ⟨h2, h3⟩ := zeroOf_some h1
    exact ⟨z, h2, h3, by simpa using hz⟩
  · cases hz

theorem drew_HR (H : HR F w0 μ h w) : HR F w0 μ h w.drew := H.congr rfl rfl rfl rfl

theorem LR.cellV {l l' : List Value} (hl : LR μ l l') (hc : ∀ v ∈ l, cellV v = true) : ∀ v ∈ l', Value.oneCell' v = true := by
  intro v hv
  obtain ⟨k, hk⟩ := List.getElem?_of_mem hv
  obtain ⟨u, hu, hr⟩ := hl.back hk
  rw [cellV_one, hr.cellV]; exact hc u (List.mem_of_getElem? hu)

/-- What is appended. -/
theorem src_ok (H : HR F w0 μ h w) {tx : TypeId} {size n : Nat} {x x' : Value} {new : List Value} (hk : (∃ e', P.underlying tx = some (.slice e')) ∨ P.underlying tx = some .string) (hs : srcA size x h = some (new, n)) (hx : VR μ x x')
    (hc : ∀ v ∈ new, cellV v = true) : ∃ new', LR μ new new' ∧ Src P size tx x' n new' w ∧ new.length = n * size := by
  unfold srcA at hs
  split at hs
  · cases hs
    obtain ⟨_, _, rfl⟩ := hx.sliceN_inv
    exact ⟨[], LR.nil, ⟨hk, fun _ => rfl, run_firstCells_none w size 0 0 0, run_firstCells_none w.drew size 0 0 0, by simp, fun _ h => by cases h⟩, by simp⟩
  · rename_i a n' c
    split at hs
    · rename_i hn
      cases hs
      have : ∃ A c', x' = .slice (some A) 0 c' := by
        subst hn
        obtain ⟨i, o, sp⟩ := a
        cases sp with
        | none => obtain ⟨b, z, e, _, rfl⟩ := hx.slice_inv; exact ⟨_, _, rfl⟩
        | some s => cases s with
          | zero => obtain ⟨_, _, A, c', rfl⟩ := hx.slice0_inv; exact ⟨_, _, rfl⟩
          | succ s => obtain ⟨b, z, e, c', _, _, _, _, rfl⟩ := hx.sliceU_inv; exact ⟨_, _, rfl⟩
      obtain ⟨A, c', rfl⟩ := this
      exact ⟨[], LR.nil, ⟨hk, fun _ => rfl, run_firstCells_some w size 0 A 0 c' [] (by simp) (by simp), run_firstCells_some w.drew size 0 A 0 c' [] (by simp) (by simp), by simp, fun _ h => by cases h⟩, by simp⟩
    · rename_i hn
      rw [Option.map_eq_some_iff] at hs
      obtain ⟨l, hr, hs⟩ := hs
      cases hs
      obtain ⟨i, o, sp⟩ := a
      have key : ∀ (b z e c' : Nat), μ i = some (b, z, e) → ∃ new', LR μ new new' ∧ Src P size tx (.slice (some ⟨b, z + o, none⟩) n c') n new' w ∧ new.length = n * size := by
        intro b z e c' hm
        obtain ⟨l', hl, hlen, hcell⟩ := row_read H hm hr
        have hl' : l'.length = n * size := by rw [← hl.1]; exact hlen
        exact ⟨l', hl, ⟨hk, fun _ => rfl, run_firstCells_some w size n _ n c' l' hl' (fun j v hj => by rw [add_at]; exact hcell j v hj),
          run_firstCells_some w.drew size n _ n c' l' hl' (fun j v hj => by rw [add_at]; exact hcell j v hj), hl', hl.cellV hc⟩, hlen⟩
      cases sp with
      | none => obtain ⟨b, z, e, hm, rfl⟩ := hx.slice_inv; exact key b z e _ hm
      | some s => cases s with
        | zero => obtain ⟨h1, _⟩ := hx.slice0_inv; exact absurd h1 hn
        | succ s => obtain ⟨b, z, e, c', hm, _, _, _, rfl⟩ := hx.sliceU_inv; exact key b z e _ hm
  · rename_i s
    rw [Option.ite_none_right_eq_some] at hs
    obtain ⟨rfl, hs⟩ := hs
    cases hs
    cases hx.string_inv
    have hlen : (s.data.toList.map fun b => Value.int .u8 b.toNat).length = s.size := by rw [List.length_map, Array.length_toList]; rfl
    refine ⟨byteCells s, LR.of_plain (fun v hv => ?_), ⟨hk, fun _ => rfl, firstCells_string s w, firstCells_string s w.drew, by rw [byteCells_length, Nat.mul_one], fun u hu => ?_⟩, by rw [hlen, Nat.mul_one]⟩
    · obtain ⟨_, _, rfl⟩ := List.mem_map.1 hv; rfl
    · obtain ⟨_, _, rfl⟩ := List.mem_map.1 hu; rfl
  · cases hs

theorem append_room {t tx ty e : TypeId} {i : TypeInfo} (ht : P.underlying t = some (.slice e)) (hi : P.info? e = some i) {b off sLen sCap : Nat} {x : Value} {n : Nat} {news : List Value} (hs : Src P i.size tx x n news w)
    (hroom : sLen + n ≤ sCap) {w' : World} (hst : (storeCells ⟨b, off + sLen * i.size, none⟩ news).run P w = .ok () w') :
    (Builtin.append_ #[t, tx] ty #[.slice (some ⟨b, off, none⟩) sLen sCap, x]).run P w = .ok (.slice (some ⟨b, off, none⟩) (sLen + n) sCap) w' := by
  rcases hs.kind with ⟨e', hk⟩ | hk <;> simp [Builtin.append_, run_under ht, run_under hk, sizeOf, typeInfo, hi, hs.len, hroom, hs.cells, hst]

/-- Nothing is appended. -/
theorem append_none {t tx ty e : TypeId} {i : TypeInfo} (ht : P.underlying t = some (.slice e)) (hi : P.info? e = some i) {base : Option Addr} {sLen sCap : Nat} {x : Value} {news : List Value} (hs : Src P i.size tx x 0 news w)
    (hroom : sLen ≤ sCap) : (Builtin.append_ #[t, tx] ty #[.slice base sLen sCap, x]).run P w = .ok (.slice base sLen sCap) w := by
  have hn : news = [] := by have := hs.newsLen; simp at this; exact this
  subst hn
  rcases hs.kind with ⟨e', hk⟩ | hk <;> (cases base <;> simp [Builtin.append_, run_under ht, run_under hk, sizeOf, typeInfo, hi, hs.len, hroom, hs.cells, storeCells])

theorem fit_bytes {need old bytes : Nat} (h1 : old < need) (h2 : need ≤ 2000000) (h3 : bytes ≤ 1000000) : Builtin.nextslicecap need old * bytes ≤ 281474976710656 := by
  have := Room.nextslicecap_le' h1
  calc Builtin.nextslicecap need old * bytes ≤ 4000000 * 1000000 := Nat.mul_le_mul (by omega) h3
    _ ≤ _ := by decide

/-- The row that a growing append makes. -/
theorem appendNew_ok (H : HR F w0 μ h w) {e : TypeId} {info : TypeInfo} {z : Value} (hz : z.cells.size = info.size) (hs0 : info.size ≠ 0) {cells cells' : List Value} (hc : LR μ cells cells') {n cap : Nat} (hn : cells.length = n * info.size) (hcap : n ≤ cap) {v : Value} {h' : AH}
    (hv : appendNew e info.size cells n h = some (v, h')) :
    ∃ μ', VR μ' v (.slice (some ⟨w.heap.size, 0, none⟩) n cap) ∧ HR F w0 μ' h' (w.drew.alloc (.cells (cells'.toArray ++ Builtin.zeroCells z.cells (cap - n)) e)) ∧ Ext μ μ' h h' := by
  unfold appendNew at hv
  simp only [Option.some.injEq, Prod.mk.injEq] at hv
  obtain ⟨rfl, rfl⟩ := hv
  have hsz : (cells'.toArray ++ Builtin.zeroCells z.cells (cap - n)).size = cap * info.size := by
    rw [Array.size_append, size_zeroCells, hz]
    have : cells'.toArray.size = n * info.size := by simp [← hc.1, hn]
    rw [this, ← Nat.add_mul]
    congr 1; omega
  have := new_row (drew_HR H) e hc (cells'.toArray ++ Builtin.zeroCells z.cells (cap - n)) (by rw [Array.toList_append, hc.1]; simp) (some e) (fun _ q => by cases q; rfl)
  refine ⟨_, ?_, this.1, this.2⟩
  obtain ⟨s, hs⟩ : ∃ s, info.size = s + 1 := ⟨info.size - 1, by omega⟩
  rw [hs]
  have hq : VR (μ.add h.next (w.heap.size, 0, (cells'.toArray ++ Builtin.zeroCells z.cells (cap - n)).size)) (.slice (some ⟨h.next, 0, some (s + 1)⟩) n n) (.slice (some ⟨w.heap.size, 0 + 0, none⟩) n cap) :=
    .sliceU (e := (cells'.toArray ++ Builtin.zeroCells z.cells (cap - n)).size) (by simp [Mp.add]) (Nat.le_refl _) hcap (by rw [hsz, hs]; omega)
  exact hq

/-! ### An append onto a slice whose capacity is not known -/
theorem share_live {c : List Value} {par : List Nat} {ty : Option TypeId} {y : AObj} {i z zj j : Nat} (hs : okShare (.cells c true par ty) i z y j zj) :
    y = .dead ∨ ∃ c' p' t', y = .cells c' false p' t' ∧ j ∈ par ∧ zj + c'.length ≤ z + c.length := by
  rcases hs with hs | hs | hs
  · rcases y with ⟨c', live', p', t'⟩ | es | ⟨s, pos⟩ | tag | _
    · cases live'
      · simp only [share] at hs; exact .inr ⟨c', p', t', rfl, hs.1, hs.2⟩
      · simp [share] at hs
    · simp [share] at hs
    · simp [share] at hs
    · simp [share] at hs
    · exact .inl rfl
  · rcases y with ⟨c', live', p', t'⟩ | es | ⟨s, pos⟩ | tag | _
    · cases live' <;> simp [share] at hs
    · simp [share] at hs
    · simp [share] at hs
    · simp [share] at hs
    · exact .inl rfl
  · simp [AObj.wr] at hs

/-- A live row grows old: it is cut, and, where it is cut short, those it grew out of are gone. -/
theorem HR.stale (H : HR F w0 μ h w) {i b z e stop : Nat} (hi : μ i = some (b, z, e)) {cs : List Value} {par : List Nat} {ty : Option TypeId} (hg : h.get i = .cells cs true par ty)
    (kl par1 : List Nat) (hk : (kl = par ∧ par1 = []) ∨ (kl = [] ∧ par1 = par)) : HR F w0 μ ((h.kill kl).put i (.cells (cs.take stop) false par1 ty)) w := by
  have gt : ∀ j, ((h.kill kl).put i (.cells (cs.take stop) false par1 ty)).get j = if j = i then .cells (cs.take stop) false par1 ty else if j ∈ kl then .dead else h.get j := fun j => kill_get_cases _ _ _ _ _
  refine ⟨fun j p hj => by simpa using H.dom j p hj, fun j b' z' e' hj => ?_, fun j b' z' e' hj hw => ?_, fun j k b' zj ej zk ek hne hj hk' => ?_, fun j c l p t hj hgj k hkm => ?_, H.os, H.tape, H.output, H.size, H.fr, H.tab⟩
  · rw [gt]
    split
    · rename_i e1; subst e1
      have := H.obj j b' z' e' hj
      rw [hg] at this
      obtain ⟨ws, el, fr, h1, h2, h3, h4, h5, h6⟩ := this
      refine ⟨ws, el, fr, h1, by simp; omega, h3, fun k v hk => ?_, (fun hf => by cases hf), h6⟩
      have hk2 : k < stop := by
        rcases Nat.lt_or_ge k stop with a | a
        · exact a
        · rw [List.getElem?_take_eq_none a] at hk; cases hk
      rw [List.getElem?_take_of_lt hk2] at hk
      exact h4 k v hk
    · split
      · trivial
      · exact H.obj j b' z' e' hj
  · rw [gt] at hw
    split at hw
    · simp [AObj.wr] at hw
    · split at hw
      · simp [AObj.wr] at hw
      · exact H.own j b' z' e' hj hw
  · rw [gt, gt]
    by_cases e1 : j = i
    · subst e1
      rw [if_pos rfl, if_neg (Ne.symm hne)]
      have hs := H.sep j k b' zj ej zk ek hne hj hk'
      rw [hg] at hs
      split
      · exact .inr (.inl trivial)
      · rcases share_live hs with hd | ⟨c', p', t', hy, _⟩
        · rw [hd]; exact .inr (.inl trivial)
        · rw [hy]; exact .inr (.inr ⟨rfl, rfl⟩)
    · by_cases e2 : k = i
      · subst e2
        rw [if_neg e1, if_pos rfl]
        have hs := H.sep k j b' zk ek zj ej (Ne.symm hne) hk' hj
        rw [hg] at hs
        split
        · exact .inl trivial
        · rcases share_live hs with hd | ⟨c', p', t', hy, _⟩
          · rw [hd]; exact .inl trivial
          · rw [hy]; exact .inr (.inr ⟨rfl, rfl⟩)
      · rw [if_neg e1, if_neg e2]
        split
        · exact .inl trivial
        · split
          · exact .inr (.inl trivial)
          · exact H.sep j k b' zj ej zk ek hne hj hk'
  · rw [gt] at hgj
    split at hgj
    · rename_i e1; subst e1
      cases hgj
      rcases hk with ⟨_, rfl⟩ | ⟨_, rfl⟩
      · cases hkm
      · exact H.par j _ _ _ _ (by rw [hi]; simp) hg k hkm
    · split at hgj
      · cases hgj
      · exact H.par j c l p t hj hgj k hkm

/-- A write in a block beyond all that is known of it. -/
theorem HR.beyond (H : HR F w0 μ h w) {w' : World} {b p : Nat} {ws : Array Value} {el : TypeId} {fr : Nat × Nat} {l : List Value} (hb : w.heap[b]? = some (.cells ws el fr)) (hp : p + l.length ≤ ws.size)
    (W : Wrote w w' b (.cells (writeA ws p l) el fr)) (hF : ¬ F b) (hk : ∀ j zj ej, μ j = some (b, zj, ej) → h.get j = .dead ∨ ∃ c par ty, h.get j = .cells c false par ty ∧ zj + c.length ≤ p) : HR F w0 μ h w' := by
  refine ⟨H.dom, fun j b' z' e' hj => ?_, H.own, H.sep, H.par, W.os.trans H.os, W.tape.trans H.tape, W.output.trans H.output, by rw [W.size]; exact H.size, fun c hc => ⟨(H.fr c hc).1, by rw [W.other c (fun e => hF (e ▸ hc))]; exact (H.fr c hc).2⟩, H.tab⟩
  by_cases e1 : b' = b
  · subst e1
    rcases hk j z' e' hj with hd | ⟨c, par, ty, hg, hle⟩
    · rw [hd]; trivial
    · have := H.obj j b' z' e' hj
      rw [hg] at this ⊢
      obtain ⟨ws', el', fr', h1, h2, h3, h4, h5, h6⟩ := this
      rw [hb] at h1; cases h1
      refine ⟨_, _, _, W.at_, h2, by rw [writeA_size]; exact h3, fun k v hkv => ?_, h5, h6⟩
      have hlt : k < c.length := by
        rcases Nat.lt_or_ge k c.length with a | a
        · exact a
        · simp [List.getElem?_eq_none a] at hkv
      rw [writeA_get _ _ _ _ hp, if_neg (by omega)]
      exact h4 k v hkv
  · exact (H.obj j b' z' e' hj).world (W.other b' e1)

/-- An object that is laid into a block that is there. -/
theorem HR.bornAt (H : HR F w0 μ h w) (i b z e : Nat) (hi : i < h.next) (hn : μ i = none) (hF : ¬ F b)
    (hpar : ∀ c l p ty, h.get i = .cells c l p ty → ∀ j, j ∈ p → μ j ≠ none) (ho : OR (μ.add i (b, z, e)) (h.get i) b z e w)
    (hs : ∀ j zj ej, μ j = some (b, zj, ej) → okShare (h.get i) i z (h.get j) j zj) : HR F w0 (μ.add i (b, z, e)) h w := by
  have hsub := Mp.add_sub (p := (b, z, e)) hn
  refine ⟨fun j p hj => ?_, fun j b' z' e' hj => ?_, fun j b' z' e' hj hw => ?_, fun j k b' zj ej zk ek hne hj hk => ?_, fun j c l p ty hj hg k hk => ?_, H.os, H.tape, H.output, H.size, H.fr, H.tab⟩
  · unfold Mp.add at hj; split at hj
    · rename_i e1; subst e1; exact hi
    · exact H.dom j p hj
  · unfold Mp.add at hj; split at hj
    · rename_i e1; subst e1; cases hj; exact ho
    · exact (H.obj j b' z' e' hj).mono hsub
  · unfold Mp.add at hj; split at hj
    · cases hj; exact hF
    · exact H.own j b' z' e' hj hw
  · unfold Mp.add at hj hk
    split at hj
    · rename_i e1; subst e1; cases hj
      split at hk
      · rename_i e2; exact absurd e2.symm hne
      · exact hs k zk ek hk
    · split at hk
      · rename_i e2; subst e2; cases hk
        rcases hs j zj ej hj with q | q | q
        · exact .inr (.inl q)
        · exact .inl q
        · exact .inr (.inr ⟨q.2, q.1⟩)
      · exact H.sep j k b' zj ej zk ek hne hj hk
  · have hne : ∀ k, μ k ≠ none → (μ.add i (b, z, e)) k ≠ none := by
      intro k hk; cases hm : μ k with
      | none => exact absurd hm hk
      | some q => rw [hsub k q hm]; simp
    by_cases e1 : j = i
    · subst e1; exact hne k (hpar c l p ty hg k hk)
    · unfold Mp.add at hj; rw [if_neg e1] at hj
      exact hne k (H.par j c l p ty hj hg k hk)

theorem getL_append {a b : List Value} {k : Nat} {v : Value} (h : (a ++ b)[k]? = some v) : (k < a.length ∧ a[k]? = some v) ∨ (a.length ≤ k ∧ b[k - a.length]? = some v) := by
  by_cases hk : k < a.length
  · rw [List.getElem?_append_left hk] at h; exact .inl ⟨hk, h⟩
  · rw [List.getElem?_append_right (by omega)] at h; exact .inr ⟨by omega, h⟩

theorem appendU_ok (H : HR F w0 μ h w) {t tx ty e : TypeId} {info : TypeInfo} {z0 : Value} (ht : P.underlying t = some (.slice e)) (hinf : P.info? e = some info) (hz0 : info.zero = some z0) (hzs : z0.cells.size = info.size) (hs0 : info.size ≠ 0)
    (hby : info.bytes ≤ 1000000) {i o l c c' n b z en : Nat} (hm : μ i = some (b, z, en)) (hlc : l ≤ c) (hcc : c ≤ c') (hen : z + o + c' * info.size ≤ en) (hl6 : l ≤ 1000000) (hn6 : n ≤ 1000000) (hn0 : n ≠ 0)
    {x' : Value} {new new' : List Value} (hnew : LR μ new new') (hsrc : Src P info.size tx x' n new' w) (hnl : new.length = n * info.size) {v : Value} {h' : AH} (hv : appendU e info.size i o l n new h = some (v, h')) :
    ∃ μ' w' v', (Builtin.append_ #[t, tx] ty #[.slice (some ⟨b, z + o, none⟩) l c', x']).run P w = .ok v' w' ∧ VR μ' v v' ∧ HR F w0 μ' h' w' ∧ Ext μ μ' h h' := by
  unfold appendU at hv
  split at hv
  · rename_i cs par tyo hg
    -- one form for both cuts
    have form : ∃ kl par1 jpar, ((kl = par ∧ par1 = [] ∧ jpar = [i]) ∨ (kl = [] ∧ par1 = par ∧ jpar = i :: par ∧ o + l * info.size = cs.length)) ∧ o + l * info.size ≤ cs.length ∧
        v = .slice (some ⟨h.next, 0, some info.size⟩) (l + n) (l + n) ∧
        h' = (((h.kill kl).put i (.cells (cs.take (o + l * info.size)) false par1 tyo)).new (.cells (((cs.drop o).take (l * info.size)) ++ new) true jpar (if tyo = some e ∧ o = 0 then tyo else none))).2 := by
      split at hv
      · rename_i he
        cases hv
        refine ⟨[], par, i :: par, .inr ⟨rfl, rfl, rfl, he⟩, by omega, rfl, ?_⟩
        rw [he, List.take_of_length_le (Nat.le_refl _), List.take_of_length_le (by simp; omega)]
        rfl
      · split at hv
        · rename_i he
          cases hv
          exact ⟨par, [], [i], .inl ⟨rfl, rfl, rfl⟩, by omega, rfl, rfl⟩
        · cases hv
    obtain ⟨kl, par1, jpar, hcase, hle, rfl, rfl⟩ := form
    clear hv
    obtain ⟨tq, htq⟩ : ∃ tq, tq = (if tyo = some e ∧ o = 0 then tyo else none) := ⟨_, rfl⟩
    rw [← htq]
    have htq1 : ∀ t1, tq = some t1 → tyo = some t1 ∧ t1 = e ∧ o = 0 := by
      intro t1 h1
      rw [h1] at htq
      split at htq
      · rename_i h2; rw [h2.1] at htq ⊢; cases htq; exact ⟨rfl, rfl, h2.2⟩
      · cases htq
    clear htq
    have hst := H.stale (stop := o + l * info.size) hm hg kl par1 (hcase.elim (fun q => .inl ⟨q.1, q.2.1⟩) (fun q => .inr ⟨q.1, q.2.1⟩))
    have gt : ∀ j, ((h.kill kl).put i (.cells (cs.take (o + l * info.size)) false par1 tyo)).get j = if j = i then .cells (cs.take (o + l * info.size)) false par1 tyo else if j ∈ kl then .dead else h.get j := fun j => kill_get_cases _ _ _ _ _
    have hparm : ∀ j, j ∈ par → μ j ≠ none := H.par i _ _ _ _ (by rw [hm]; simp) hg
    have hjm : ∀ j, j ∈ jpar → μ j ≠ none := by
      intro j hj
      rcases hcase with ⟨_, _, rfl⟩ | ⟨_, _, rfl, _⟩
      · simp at hj; subst hj; rw [hm]; simp
      · rcases List.mem_cons.1 hj with rfl | hj
        · rw [hm]; simp
        · exact hparm j hj
    have hE1 : Ext μ μ h ((h.kill kl).put i (.cells (cs.take (o + l * info.size)) false par1 tyo)) :=
      Ext.wrote H hm kl _ (fun j hj => hcase.elim (fun q => hparm j (q.1 ▸ hj)) (fun q => by rw [q.1] at hj; cases hj))
    have hobj := H.obj i b z en hm
    rw [hg] at hobj
    obtain ⟨ws, el, fr, o1, o2, o3, o4, o5, o6⟩ := hobj
    have hF : ¬ F b := H.own i b z en hm (by rw [hg]; rfl)
    -- the old elements
    have hold : ∃ old', LR μ ((cs.drop o).take (l * info.size)) old' ∧ ∀ j v, old'[j]? = some v → w.cell? ⟨b, z + o + j, none⟩ = some v := by
      have hr : rowAt? h i o (l * info.size) = some ((cs.drop o).take (l * info.size)) := by unfold rowAt?; rw [hg]; simp [hle]
      obtain ⟨old', q1, _, q3⟩ := row_read H hm hr
      exact ⟨old', q1, q3⟩
    obtain ⟨old', hold1, hold2⟩ := hold
    have holdl : ((cs.drop o).take (l * info.size)).length = l * info.size := by simp; omega
    by_cases hroom : l + n ≤ c'
    · -- there is room: the same block
      have hnl' : new'.length = n * info.size := hsrc.newsLen
      have hmul : (l + n) * info.size ≤ c' * info.size := Nat.mul_le_mul_right _ hroom
      rw [Nat.add_mul] at hmul
      obtain ⟨w', hrun, hW⟩ := run_storeCells (P := P) new' w b (z + o + l * info.size) 0 ws el fr o1 (by omega) (fun k a1 a2 => o5 rfl k (by omega) (by omega)) (fun v hv => by rw [← cellV_one]; exact hsrc.one v hv)
      rw [Nat.add_zero] at hW
      refine ⟨μ.add h.next (b, z + o, en), w', _, append_room ht hinf hsrc hroom hrun, ?_, ?_, ?_⟩
      · obtain ⟨s, hs⟩ : ∃ s, info.size = s + 1 := ⟨info.size - 1, by omega⟩
        rw [hs]
        have : VR (μ.add h.next (b, z + o, en)) (.slice (some ⟨h.next, 0, some (s + 1)⟩) (l + n) (l + n)) (.slice (some ⟨b, z + o + 0, none⟩) (l + n) c') :=
          .sliceU (e := en) (by simp [Mp.add]) (Nat.le_refl _) hroom (by rw [← hs]; omega)
        exact this
      · have hb1 : HR F w0 μ ((h.kill kl).put i (.cells (cs.take (o + l * info.size)) false par1 tyo)) w' := by
          refine hst.beyond o1 (by omega) hW hF (fun j zj ej hj => ?_)
          rw [gt]
          by_cases e1 : j = i
          · subst e1
            rw [hm] at hj; cases hj
            rw [if_pos rfl]
            exact .inr ⟨_, _, _, rfl, by simp; omega⟩
          · rw [if_neg e1]
            by_cases e2 : j ∈ kl
            · rw [if_pos e2]; exact .inl rfl
            · rw [if_neg e2]
              have hs := H.sep i j b z en zj ej (Ne.symm e1) hm hj
              rw [hg] at hs
              rcases share_live hs with hd | ⟨c1, p1, t1, hy, hmem, hext⟩
              · exact .inl hd
              · rcases hcase with q | q
                · exact absurd (q.1 ▸ hmem) e2
                · exact .inr ⟨c1, p1, t1, hy, by omega⟩
        have hnone := H.none_next (Nat.le_refl h.next)
        have hlaid := hb1.laid (.cells (((cs.drop o).take (l * info.size)) ++ new) true jpar tq)
        refine hlaid.bornAt h.next b (z + o) en (by simp) hnone hF ?_ ?_ ?_
        · intro c1 l1 p1 t1 hg1 j hj
          rw [AH.get_new, if_pos (by simp)] at hg1
          cases hg1
          exact hjm j hj
        · rw [AH.get_new, if_pos (by simp)]
          refine ⟨_, _, _, hW.at_, ?_, by rw [writeA_size]; exact o3, fun k v hk => ?_, fun _ k a1 a2 => o5 rfl k (by omega) a2, fun t1 ht1 => ?_⟩
          · rw [List.length_append, holdl, hnl]; omega
          · have hsub := Mp.add_sub (p := (b, z + o, en)) hnone
            rw [writeA_get _ _ _ _ (by omega)]
            rcases getL_append hk with ⟨q1, q2⟩ | ⟨q1, q2⟩
            · rw [holdl] at q1
              rw [if_neg (by omega)]
              rw [List.getElem?_take_of_lt q1, List.getElem?_drop] at q2
              obtain ⟨v', r1, r2⟩ := o4 _ v q2
              exact ⟨v', by rw [Nat.add_assoc]; exact r1, r2.mono hsub⟩
            · rw [holdl] at q1 q2
              have hlt : k - l * info.size < new.length := by
                rcases Nat.lt_or_ge (k - l * info.size) new.length with a | a
                · exact a
                · simp [List.getElem?_eq_none a] at q2
              rw [if_pos (by omega)]
              obtain ⟨v', r1, r2⟩ := hnew.at_ q2
              exact ⟨v', by rw [show z + o + k - (z + o + l * info.size) = k - l * info.size by omega]; exact r1, r2.mono hsub⟩
          · obtain ⟨y1, y2, y3⟩ := htq1 t1 ht1
            have := o6 t1 y1
            exact ⟨this.1, by omega⟩
        · intro j zj ej hj
          have hjn : j ≠ h.next := fun e1 => by rw [e1, hnone] at hj; cases hj
          rw [AH.get_new, if_pos (by simp), AH.get_new, if_neg (by simpa using hjn), gt]
          by_cases e1 : j = i
          · subst e1
            rw [hm] at hj; cases hj
            rw [if_pos rfl]
            refine .inl ⟨?_, ?_⟩
            · rcases hcase with ⟨_, _, rfl⟩ | ⟨_, _, rfl, _⟩ <;> simp
            · rw [List.length_append, holdl]; simp; omega
          · rw [if_neg e1]
            by_cases e2 : j ∈ kl
            · rw [if_pos e2]; exact .inr (.inl trivial)
            · rw [if_neg e2]
              have hs := H.sep i j b z en zj ej (Ne.symm e1) hm hj
              rw [hg] at hs
              rcases share_live hs with hd | ⟨c1, p1, t1, hy, hmem, hext⟩
              · rw [hd]; exact .inr (.inl trivial)
              · rcases hcase with q | ⟨q1, q2, rfl, q4⟩
                · exact absurd (q.1 ▸ hmem) e2
                · rw [hy]
                  exact .inl ⟨List.mem_cons_of_mem _ hmem, by rw [List.length_append, holdl]; omega⟩
      · have hnone := H.none_next (Nat.le_refl h.next)
        have := (Ext.laid μ ((h.kill kl).put i (.cells (cs.take (o + l * info.size)) false par1 tyo)) (.cells (((cs.drop o).take (l * info.size)) ++ new) true jpar tq))
        exact (hE1.trans this).born (Nat.le_refl _) hnone
    · -- there is none: a new block
      have hold3 : old'.length = l * info.size := by rw [← hold1.1]; exact holdl
      have hfc : (Builtin.firstCells info.size l (.slice (some ⟨b, z + o, none⟩) l c')).run P w.drew = .ok old'.toArray w.drew :=
        run_firstCells_some w.drew info.size l ⟨b, z + o, none⟩ l c' old' hold3 (fun j v hj => by rw [add_at]; exact hold2 j v hj)
      have hrun := run_append_grow_src w t tx ty e info z0 ht hinf hz0 (some ⟨b, z + o, none⟩) l c' old' hfc x' n new' hsrc (by omega) (by omega) (fit_bytes (by omega) (by omega) hby)
      have hcells := hold1.append hnew
      have hgl : (((cs.drop o).take (l * info.size)) ++ new).length = (l + n) * info.size := by rw [List.length_append, holdl, hnl, Nat.add_mul]
      have hsz : ((old' ++ new').toArray ++ Builtin.zeroCells z0.cells (grownCap w (l + n) c' e - (l + n))).size = grownCap w (l + n) c' e * info.size := by
        have hge := grownCap_ge w (l + n) c' e
        rw [Array.size_append, size_zeroCells, hzs]
        have : (old' ++ new').toArray.size = (l + n) * info.size := by rw [List.size_toArray, ← hcells.1]; exact hgl
        rw [this, ← Nat.add_mul]
        congr 1; omega
      have := new_row_par (drew_HR hst) e hcells ((old' ++ new').toArray ++ Builtin.zeroCells z0.cells (grownCap w (l + n) c' e - (l + n))) (by rw [hcells.1, Array.toList_append]; exact List.take_left' (by simp)) tq
        (fun t1 q => (htq1 t1 q).2.1.symm) jpar hjm
      have hnx : ((h.kill kl).put i (.cells (cs.take (o + l * info.size)) false par1 tyo)).next = h.next := by simp
      rw [hnx] at this
      refine ⟨_, _, _, hrun, ?_, this.1, hE1.trans this.2⟩
      obtain ⟨s, hs⟩ : ∃ s, info.size = s + 1 := ⟨info.size - 1, by omega⟩
      have hge := grownCap_ge w (l + n) c' e
      have hq : VR (μ.add h.next (w.heap.size, 0, ((old' ++ new').toArray ++ Builtin.zeroCells z0.cells (grownCap w (l + n) c' e - (l + n))).size)) (.slice (some ⟨h.next, 0, some (s + 1)⟩) (l + n) (l + n)) (.slice (some ⟨w.heap.size, 0 + 0, none⟩) (l + n) (grownCap w (l + n) c' e)) :=
        .sliceU (e := ((old' ++ new').toArray ++ Builtin.zeroCells z0.cells (grownCap w (l + n) c' e - (l + n))).size) (by simp [Mp.add]) (Nat.le_refl _) hge (by rw [hsz, hs]; omega)
      rw [hs]
      exact hq
  · cases hv

end
end Go.R
