/- TrialResults: the row, out of the machine's answers at a caller's results. -/
import Derived.Test.YtgnkjmgkfibipaaDoorKResQ
import Derived.Test.YtgnkjmgkfibipaaDoorTie
import Derived.Test.YtgnkjmgkfibipaaDoorCards
import Derived.ProofKit
import Derived.LaidMore
import Derived.Lay
import Derived.MakeChecks
import Derived.OpenShut
import Derived.Carry
import Derived.Stop.Joined
import Derived.SizedLaws
import Derived.SevenTiedAt
import Derived.Deep.SlicePairs
namespace Go.Proofs.YtgnkjmgkfibipaaDoor
set_option linter.unusedVariables false
set_option linter.unusedSimpArgs false
open Go Go.R Go.RowKit
set_option maxRecDepth 1000000
noncomputable section

theorem rows2_get (a b : Nat → Value) : ∀ (n k : Nat) v, (rows2 a b n)[k]? = some v → ∃ i, i < n ∧ ((k = i * 2 ∧ v = a i) ∨ (k = i * 2 + 1 ∧ v = b i))
  | 0, k, v, h => by simp [rows2] at h
  | n + 1, k, v, h => by
    rw [rows2_succ] at h
    by_cases hk : k < (rows2 a b n).length
    · rw [List.getElem?_append_left hk] at h
      obtain ⟨i, hi, q⟩ := rows2_get a b n k v h
      exact ⟨i, by omega, q⟩
    · rw [List.getElem?_append_right (by omega)] at h
      rw [rows2_len] at h hk
      have hk2 : k - n * 2 < 2 := by
        rcases Nat.lt_or_ge (k - n * 2) 2 with q | q
        · exact q
        · rw [List.getElem?_eq_none (by simpa using q)] at h; cases h
      match hq : k - n * 2, hk2 with
      | 0, _ => rw [hq] at h; exact ⟨n, by omega, .inl ⟨by omega, (Option.some.inj h).symm⟩⟩
      | 1, _ => rw [hq] at h; exact ⟨n, by omega, .inr ⟨by omega, (Option.some.inj h).symm⟩⟩

theorem cell_block {w : World} {a : Addr} {v : Value} (h : w.cell? a = some v) : a.spot = none ∧ ∃ cs el fr, w.heap[a.block]? = some (.cells cs el fr) ∧ cs[a.off]? = some v := by
  unfold World.cell? at h
  split at h
  · rename_i c el fr hb
    split at h
    · cases h
    · rename_i hs
      exact ⟨by simpa using hs, c, el, fr, hb, h⟩
  · cases h

theorem add_none (b o k : Nat) : (⟨b, o, none⟩ : Addr).add k = ⟨b, o + k, none⟩ := by
  unfold Addr.add
  split
  · rename_i h; rw [h]; rfl
  · rfl

theorem res_walk (L : Int) (a : Addr) (n c : Nat) (hn : 0 < n) (hc : n ≤ c) (f : Nat → Int) (g : Nat → Bool) (W : World)
    (hcell : ∀ i, i < n → W.cell? (a.add (i * 2)) = some (.int .i64 (f i)) ∧ W.cell? (a.add (i * 2 + 1)) = some (.bool (g i))) :
    Calls Tryd.prog 8 #[.int .i64 L, .slice (some a) n c] W fun e w' => e = .returned (.bool true) ∧ Below W.heap.size W w' := by
  obtain ⟨hs0, cs, el, fr, hb, _⟩ := cell_block (hcell 0 hn).1
  obtain ⟨blk, off, spot⟩ := a
  have hspot : spot = none := by
    cases spot with
    | none => rfl
    | some s => simp [Addr.add] at hs0
  subst hspot
  simp only [add_none] at hcell hb
  have hb' : W.heap[blk]? = some (.cells cs el fr) := hb
  have at_ : ∀ i, i < n → cs[off + i * 2]? = some (.int .i64 (f i)) ∧ cs[off + (i * 2 + 1)]? = some (.bool (g i)) := by
    intro i hi
    obtain ⟨_, cs1, el1, fr1, h1, h2⟩ := cell_block (hcell i hi).1
    obtain ⟨_, cs2, el2, fr2, h3, h4⟩ := cell_block (hcell i hi).2
    have e1 : cs1 = cs := by
      have : W.heap[blk]? = some (.cells cs1 el1 fr1) := h1
      rw [hb'] at this; cases this; rfl
    have e2 : cs2 = cs := by
      have : W.heap[blk]? = some (.cells cs2 el2 fr2) := h3
      rw [hb'] at this; cases this; rfl
    subst e1; subst e2
    exact ⟨h2, h4⟩
  have hsize : off + n * 2 ≤ cs.size := by
    have := (Array.getElem?_eq_some_iff.1 (at_ (n - 1) (by omega)).2).1
    omega
  have hblk : blk < W.heap.size := (Array.getElem?_eq_some_iff.1 hb').1
  let μ : Mp := fun i => if i = 0 then some (blk, off, off + n * 2) else none
  have μ0 : μ 0 = some (blk, off, off + n * 2) := rfl
  have μi : ∀ {i p}, μ i = some p → i = 0 ∧ p = (blk, off, off + n * 2) := by
    intro i p h
    by_cases hi : i = 0
    · subst hi; exact ⟨rfl, (Option.some.inj h).symm⟩
    · have : μ i = none := if_neg hi
      rw [this] at h; cases h
  have g0 : (hp [resO n f g]).get 0 = resO n f g := hp_get _ 0 _ rfl
  have H : HR (fun b => b < W.heap.size) W μ (hp [resO n f g]) W := by
    refine ⟨fun i p h => ?_, fun i b z e h => ?_, fun i b z e h hw => ?_, fun i j b zi ei zj ej hne hi hj => ?_, fun i cc l p ty hi hg j hj => ?_, rfl, rfl, rfl, Nat.le_refl _, fun b hb => ⟨hb, rfl⟩⟩
    · rw [(μi h).1, hp_next]; exact Nat.zero_lt_one
    · obtain ⟨rfl, h2⟩ := μi h
      cases h2
      rw [g0]
      refine ⟨cs, el, fr, hb', ?_, hsize, fun k v hk => ?_, fun h => (by cases h), fun t h => (by cases h)⟩
      · rw [rows2_len]; exact Nat.le_refl _
      · obtain ⟨i, hi, ⟨rfl, rfl⟩ | ⟨rfl, rfl⟩⟩ := rows2_get _ _ n k v hk
        · exact ⟨_, (at_ i hi).1, .plain rfl⟩
        · exact ⟨_, (at_ i hi).2, .plain rfl⟩
    · obtain ⟨rfl, _⟩ := μi h
      rw [g0] at hw; cases hw
    · exact absurd ((μi hi).1.trans (μi hj).1.symm) hne
    · have : i = 0 := by
        by_cases hi0 : i = 0
        · exact hi0
        · exact absurd (if_neg hi0) hi
      subst this
      rw [g0] at hg
      cases hg
      cases hj
  have hl : LR μ [.int .i64 L, resV n c] (#[.int .i64 L, .slice (some ⟨blk, off, none⟩) n c] : Array Value).toList :=
    LR.cons (.plain rfl) (LR.cons (VR.slice (i := 0) (o := 0) μ0) LR.nil)
  refine (calls_of (k := 1) (R := fun v' _ => v' = .bool true) Tryd.func8 (show Tryd.f8.body = some c8 by kernel_rfl) (results_runs L n c hc f g) H hl).mono fun e w' hh => ?_
  obtain ⟨v', rfl, v, h', rfl, μ', q1, q2, _⟩ := hh
  rw [q1.bool_inv]
  exact ⟨rfl, q2.below⟩

/-! ### No results: a nil list, or an empty one -/
def run8 (L : Int) (s : Value) : Bool := okRun Tryd.prog Tryd.f8 (execA Tryd.prog k38 1000 c8 (entry Tryd.f8 [.int .i64 L, s] AH.empty)) (.bool true)
def emp : Value := .slice (some ⟨0, 0, some 0⟩) 0 0
def chk8 (L : Int) : Bool := run8 L (.slice none 0 0) && run8 L emp
theorem e8_neg (k : Nat) : chk8 (.negSucc k) = true := by kernel_rfl
theorem e8_big (k : Nat) : chk8 (.ofNat (k + 13)) = true := by kernel_rfl
theorem e8_small : ((List.range 13).all fun m => chk8 (.ofNat m)) = true := by kernel_rfl
theorem e8 (x : Int) : chk8 x = true := by
  cases x with
  | negSucc k => exact e8_neg k
  | ofNat m =>
    by_cases h : m < 13
    · exact List.all_eq_true.1 e8_small m (List.mem_range.2 h)
    · obtain ⟨k, rfl⟩ : ∃ k, m = k + 13 := ⟨m - 13, by omega⟩
      exact e8_big k

theorem empty_walk (L : Int) (s s' : Value) (hs : s = .slice none 0 0 ∨ s = emp) (hv : VR (fun _ => none) s s') (W : World) :
    Calls Tryd.prog 8 #[.int .i64 L, s'] W fun e w' => e = .returned (.bool true) ∧ Below W.heap.size W w' := by
  have hrun : Runs Tryd.prog 0 c8 (entry Tryd.f8 [.int .i64 L, s] AH.empty) (EndsAs Tryd.prog Tryd.f8 fun v' _ => v' = .bool true) := by
    refine Runs.last (n := 1000) mixed hk38 (Nat.zero_le _) ?_
    have := e8 L
    simp only [chk8, Bool.and_eq_true] at this
    rcases hs with rfl | rfl
    · exact this.1
    · exact this.2
  have hl : LR (fun _ => none) [.int .i64 L, s] (#[.int .i64 L, s'] : Array Value).toList := LR.cons (.plain rfl) (LR.cons hv LR.nil)
  refine (calls_of (k := 0) (R := fun v' _ => v' = .bool true) Tryd.func8 (show Tryd.f8.body = some c8 by kernel_rfl) hrun (HR.start W) hl).mono fun e w' hh => ?_
  obtain ⟨v', rfl, v, h', rfl, μ', q1, q2, _⟩ := hh
  rw [q1.bool_inv]
  exact ⟨rfl, q2.below⟩
end
end Go.Proofs.YtgnkjmgkfibipaaDoor
