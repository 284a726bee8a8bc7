/- TrialWords: its walk at a caller's words. -/
import Derived.Test.YtgnkjmgkfibipaaDoorSWordsKW5
import Derived.Test.YtgnkjmgkfibipaaDoorSWordsKLawResults
import Derived.SliceStrings
namespace Go.Proofs.YtgnkjmgkfibipaaDoor
set_option linter.unusedVariables false
set_option linter.unusedSimpArgs false
open Go Go.R Go.RowKit
set_option maxRecDepth 1000000
noncomputable section
theorem words_walk (a : Addr) (n c : Nat) (hn : 0 < n) (hc : n ≤ c) (g : Nat → ByteArray) (W : World) (hcell : ∀ i, i < n → W.cell? (a.add i) = some (.string (g i))) :
    Calls Tryd.prog 3 #[.slice (some a) n c] W fun e w' => e = .returned (.bool true) ∧ Below W.heap.size W w' := by
  obtain ⟨hs0, cs, el, fr, hb, _⟩ := cell_block (hcell 0 hn)
  obtain ⟨blk, off, spot⟩ := a
  have hspot : spot = none := by
    cases spot with
    | none => rfl
    | some s => simp [Addr.add] at hs0
  subst hspot
  simp only [add_none] at hcell hb
  have hb' : W.heap[blk]? = some (.cells cs el fr) := hb
  have at_ : ∀ i, i < n → cs[off + i]? = some (.string (g i)) := by
    intro i hi
    obtain ⟨_, cs1, el1, fr1, h1, h2⟩ := cell_block (hcell i hi)
    have h1' : W.heap[blk]? = some (.cells cs1 el1 fr1) := h1
    rw [hb'] at h1'; cases h1'
    exact h2
  have hsize : off + n ≤ cs.size := by
    have := (Array.getElem?_eq_some_iff.1 (at_ (n - 1) (by omega))).1
    omega
  have hblk : blk < W.heap.size := (Array.getElem?_eq_some_iff.1 hb').1
  let μ : Mp := fun i => if i = 0 then some (blk, off, off + n) else none
  have μ0 : μ 0 = some (blk, off, off + n) := rfl
  have μi : ∀ {i p}, μ i = some p → i = 0 ∧ p = (blk, off, off + n) := by
    intro i p h
    by_cases hi : i = 0
    · subst hi; exact ⟨rfl, (Option.some.inj h).symm⟩
    · have : μ i = none := if_neg hi
      rw [this] at h; cases h
  have g0 : (hp [viewS n g]).get 0 = viewS n g := hp_get _ 0 _ rfl
  have H : HR (fun b => b < W.heap.size) W μ (hp [viewS n g]) W := by
    refine ⟨fun i p h => ?_, fun i b z e h => ?_, fun i b z e h hw => ?_, fun i j b zi ei zj ej hne hi hj => ?_, fun i cc l p ty hi hg j hj => ?_, rfl, rfl, rfl, Nat.le_refl _, fun b hb => ⟨hb, rfl⟩⟩
    · rw [(μi h).1, hp_next]; exact Nat.zero_lt_one
    · obtain ⟨rfl, h2⟩ := μi h
      cases h2
      rw [g0]
      refine ⟨cs, el, fr, hb', ?_, hsize, fun k v hk => ?_, fun h => (by cases h), fun t h => (by cases h)⟩
      · rw [strsV_len]; exact Nat.le_refl _
      · have hk' : k < n := by have := (List.getElem?_eq_some_iff.1 hk).1; rwa [strsV_len] at this
        have : v = .string (g k) := by simp [strsV, hk'] at hk; exact hk.symm
        subst this
        exact ⟨_, at_ k hk', .plain rfl⟩
    · obtain ⟨rfl, _⟩ := μi h
      rw [g0] at hw; cases hw
    · exact absurd ((μi hi).1.trans (μi hj).1.symm) hne
    · have : i = 0 := by
        by_cases hi0 : i = 0
        · exact hi0
        · exact absurd (if_neg hi0) hi
      subst this
      rw [g0] at hg
      cases hg
      cases hj
  have hl : LR μ [slV n c] (#[.slice (some ⟨blk, off, none⟩) n c] : Array Value).toList := LR.cons (VR.slice (i := 0) (o := 0) μ0) LR.nil
  refine (calls_of (k := 1) (R := fun v' _ => v' = .bool true) Tryd.func3 (show Tryd.f3.body = some c3 by kernel_rfl) (words_run hc) H hl).mono fun e w' hh => ?_
  obtain ⟨v', rfl, v, h', rfl, μ', q1, q2, _⟩ := hh
  rw [q1.bool_inv]
  exact ⟨rfl, q2.below⟩
end
end Go.Proofs.YtgnkjmgkfibipaaDoor
