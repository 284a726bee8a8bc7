/- A call that is known from a small heap, told from any heap that begins with it. -/
import Derived.Test.YtbcjmmbmeebfgaaDoorRRuns
namespace Go.R
set_option linter.unusedVariables false
set_option linter.unusedSimpArgs false
open Go Go.RowKit

section
variable {P : Program}

/-- The blocks that a call must leave alone. -/
def Rest (F : Nat → Prop) (k : Nat) (μ : Mp) (h : AH) (b : Nat) : Prop := F b ∨ ∃ i z e, k ≤ i ∧ μ i = some (b, z, e) ∧ h.get i ≠ .dead

theorem cut_some {k i : Nat} {μ : Mp} {p : Nat × Nat × Nat} (h : μ.cut k i = some p) : i < k ∧ μ i = some p := by
  unfold Mp.cut at h
  split at h
  · rename_i hlt; exact ⟨hlt, h⟩
  · cases h

theorem cut_lt {k i : Nat} {μ : Mp} (h : i < k) : μ.cut k i = μ i := by unfold Mp.cut; rw [if_pos h]

theorem root_own {F : Nat → Prop} {w0 w : World} {μ : Mp} {h : AH} {k : Nat} (H : HR F w0 μ h w) (c1 : ∀ i, i < k → CloO k (h.get i)) {i b z e : Nat} (hi : i < k) (hm : μ i = some (b, z, e)) (hw : (h.get i).wr = true) :
    ¬ Rest F k μ h b := by
  rintro (hF | ⟨j, zj, ej, hj, hmj, hd⟩)
  · exact H.own i b z e hm hw hF
  · have hs := H.sep i j b z e zj ej (by omega) hm hmj
    have hc := c1 i hi
    rcases hs with s | s | s
    · cases hx : h.get i with
      | dead => rw [hx] at hw; cases hw
      | cells c l p ty =>
        rw [hx] at s hc
        cases hy : h.get j with
        | dead => exact hd hy
        | cells c' l' p' ty' =>
          rw [hy] at s
          cases l <;> cases l' <;> simp only [share] at s
          have := hc.2 j s.1
          omega
        | map es => rw [hy] at s; cases l <;> exact s.elim
        | str s' pos => rw [hy] at s; cases l <;> exact s.elim
        | ghost t => rw [hy] at s; cases l <;> exact s.elim
      | map es => rw [hx] at s; exact s.elim
      | str s' pos => rw [hx] at s; exact s.elim
      | ghost t => rw [hx] at s; exact s.elim
    · cases hy : h.get j with
      | dead => exact hd hy
      | cells c' l' p' ty' =>
        rw [hy] at s
        cases hx : h.get i with
        | dead => rw [hx] at hw; cases hw
        | cells c l p ty =>
          rw [hx] at s hw
          cases l <;> cases l' <;> first | exact s.elim | cases hw
        | map es => rw [hx] at s; cases l' <;> exact s.elim
        | str s' pos => rw [hx] at s; cases l' <;> exact s.elim
        | ghost t => rw [hx] at s; cases l' <;> exact s.elim
      | map es => rw [hy] at s; exact s.elim
      | str s' pos => rw [hy] at s; exact s.elim
      | ghost t => rw [hy] at s; exact s.elim
    · rw [s.1] at hw; cases hw

theorem HR.small {F : Nat → Prop} {w0 w : World} {μ : Mp} {h hc : AH} {k : Nat} (H : HR F w0 μ h w) (hn : hc.next = k) (same : ∀ i, i < k → hc.get i = h.get i) (c1 : ∀ i, i < k → CloO k (h.get i)) :
    HR (Rest F k μ h) w (μ.cut k) hc w where
  dom := fun i p hi => by rw [hn]; exact (cut_some hi).1
  obj := fun i b z e hi => by
    obtain ⟨hlt, hm⟩ := cut_some hi
    rw [same i hlt]
    exact (H.obj i b z e hm).cut (c1 i hlt)
  own := fun i b z e hi hw => by
    obtain ⟨hlt, hm⟩ := cut_some hi
    rw [same i hlt] at hw
    exact root_own H c1 hlt hm hw
  sep := fun i j b zi ei zj ej hne hi hj => by
    obtain ⟨hlt, hm⟩ := cut_some hi
    obtain ⟨hlt', hm'⟩ := cut_some hj
    rw [same i hlt, same j hlt']
    exact H.sep i j b zi ei zj ej hne hm hm'
  par := fun i c l p ty hi hg j hj => by
    by_cases hlt : i < k
    · rw [cut_lt hlt] at hi
      rw [same i hlt] at hg
      have := c1 i hlt
      rw [hg] at this
      have hjk := this.2 j hj
      rw [cut_lt hjk]
      exact H.par i c l p ty hi hg j hj
    · unfold Mp.cut at hi; rw [if_neg hlt] at hi; exact absurd rfl hi
  os := rfl
  tape := rfl
  output := rfl
  size := Nat.le_refl _
  fr := fun b hb => by
    rcases hb with hF | ⟨i, z, e, hk, hm, hd⟩
    · have := H.fr b hF
      exact ⟨Nat.lt_of_lt_of_le this.1 H.size, rfl⟩
    · exact ⟨H.inb hm hd, rfl⟩
  tab := H.laidIn fun b hb => .inl hb

theorem Local.framed {k : Nat} {f : FuncId} {args : List Value} {hc h h2 : AH} {R : Value → AH → Prop} {v : Value} (L : Local P k f args hc R)
    (hR : ∀ v' h', R v' h' → v' = v ∧ ∀ i, i < k → h'.get i = h2.get i) (hn : hc.next = k) (hle : k ≤ h.next) (same : ∀ i, i < k → hc.get i = h.get i)
    (ca : ∀ v ∈ args, Clo k v) (c1 : ∀ i, i < k → CloO k (h.get i)) (c2 : ∀ i, i < k → CloO k (h2.get i)) (cv : Clo k v)
    (chg : ∀ i, i < k → h2.get i = h.get i ∨ (h.get i).wr = true) (hn2 : h2.next = h.next) (rest : ∀ i, k ≤ i → h2.get i = h.get i)
    {F : Nat → Prop} {w0 : World} {μ : Mp} {w : World} {args' : Array Value} (H : HR F w0 μ h w) (hl : LR μ args args'.toList) :
    Goes P f args' w fun v' w' => ∃ μ', VR μ' v v' ∧ HR F w0 μ' h2 w' ∧ Ext μ μ' h h2 := by
  have S := H.small hn same c1
  refine (L _ w _ w args' S (clo_list ca hl)).mono fun v' w' ⟨u, h', r, μ', hv, H', K⟩ => ?_
  obtain ⟨rfl, hh⟩ := hR u h' r
  have eqμ : ∀ i, i < k → μ' i = μ i := fun i hi => (K i hi).1.trans (cut_lt hi)
  have subμ : Sub (μ'.cut k) μ := fun i p hi => by
    obtain ⟨hlt, hm⟩ := cut_some hi
    rw [← eqμ i hlt]; exact hm
  have keepB : ∀ b, Rest F k μ h b → w'.heap[b]? = w.heap[b]? := fun b hb => (H'.fr b hb).2
  have old : ∀ i b z e, k ≤ i → μ i = some (b, z, e) → h.get i ≠ .dead → Rest F k μ h b := fun i b z e hk hm hd => .inr ⟨i, z, e, hk, hm, hd⟩
  refine ⟨μ, (cv μ' v' hv).mono subμ, ⟨fun i p hi => ?_, fun i b z e hi => ?_, fun i b z e hi hw => ?_, fun i j b zi ei zj ej hne hi hj => ?_, fun i c l p ty hi hg j hj => ?_,
    H'.os.trans H.os, H'.tape.trans H.tape, H'.output.trans H.output, Nat.le_trans H.size H'.size, fun b hb => ?_, H.tab⟩, ⟨Sub.refl μ, Nat.le_of_eq hn2.symm, fun i hi hm => ⟨hm, ?_⟩⟩⟩
  · rw [hn2]; exact H.dom i p hi
  · by_cases hlt : i < k
    · have := H'.obj i b z e ((eqμ i hlt).trans hi)
      rw [hh i hlt] at this
      exact (this.cut (c2 i hlt)).mono subμ
    · rw [rest i (by omega)]
      by_cases hd : h.get i = .dead
      · rw [hd]; trivial
      · exact (H.obj i b z e hi).world (keepB b (old i b z e (by omega) hi hd))
  · by_cases hlt : i < k
    · rw [← hh i hlt] at hw
      exact fun hF => H'.own i b z e ((eqμ i hlt).trans hi) hw (.inl hF)
    · rw [rest i (by omega)] at hw
      exact H.own i b z e hi hw
  · -- two objects in one block
    have mixed : ∀ i j zi ei zj ej, i < k → k ≤ j → μ i = some (b, zi, ei) → μ j = some (b, zj, ej) → okShare (h2.get i) i zi (h2.get j) j zj := by
      intro i j zi ei zj ej hi hj hmi hmj
      rw [rest j hj]
      by_cases hd : h.get j = .dead
      · rw [hd]; exact .inr (.inl (by unfold share; trivial))
      · rcases chg i hi with hs | hw
        · rw [hs]; exact H.sep i j b zi ei zj ej (by omega) hmi hmj
        · exact absurd (old j b zj ej hj hmj hd) (root_own H c1 hi hmi hw)
    by_cases h1 : i < k
    · by_cases h3 : j < k
      · have := H'.sep i j b zi ei zj ej hne ((eqμ i h1).trans hi) ((eqμ j h3).trans hj)
        rw [hh i h1, hh j h3] at this
        exact this
      · exact mixed i j zi ei zj ej h1 (by omega) hi hj
    · by_cases h3 : j < k
      · rcases mixed j i zj ej zi ei h3 (by omega) hj hi with s | s | s
        · exact .inr (.inl s)
        · exact .inl s
        · exact .inr (.inr ⟨s.2, s.1⟩)
      · rw [rest i (by omega), rest j (by omega)]
        exact H.sep i j b zi ei zj ej hne hi hj
  · by_cases hlt : i < k
    · rw [← hh i hlt] at hg
      have hc2 := c2 i hlt
      rw [← hh i hlt, hg] at hc2
      have hjk := hc2.2 j hj
      have := H'.par i c l p ty (by rw [eqμ i hlt]; exact hi) hg j hj
      rw [eqμ j hjk] at this
      exact this
    · rw [rest i (by omega)] at hg
      exact H.par i c l p ty hi hg j hj
  · have h1 := H'.fr b (.inl hb)
    have h2 := H.fr b hb
    exact ⟨h2.1, h1.2.trans h2.2⟩
  · by_cases hlt : i < k
    · rw [← hh i hlt]
      have := (K i hlt).2 ((cut_lt hlt).trans hm)
      rw [this, same i hlt]
    · exact rest i (by omega)

/-- A call that is known from the empty heap. -/
theorem Local.closed {f : FuncId} {args : List Value} {v : Value} (L : Local P 0 f args AH.empty fun v' _ => v' = v) (ca : ∀ v ∈ args, plainV v = true) (cv : flatV v = true) (h : AH)
    {F : Nat → Prop} {w0 : World} {μ : Mp} {w : World} {args' : Array Value} (H : HR F w0 μ h w) (hl : LR μ args args'.toList) :
    Goes P f args' w fun v' w' => ∃ μ', VR μ' v v' ∧ HR F w0 μ' h w' ∧ Ext μ μ' h h :=
  L.framed (h2 := h) (fun v' h' r => ⟨r, fun i hi => by omega⟩) rfl (Nat.zero_le _) (fun i hi => by omega) (fun v hv μ v' h => by rw [plain_same h (ca v hv)]; exact .plain (ca v hv))
    (fun i hi => by omega) (fun i hi => by omega) (fun μ v' h => flat_any h cv) (fun i hi => by omega) rfl (fun _ _ => rfl) H hl

end
end Go.R
