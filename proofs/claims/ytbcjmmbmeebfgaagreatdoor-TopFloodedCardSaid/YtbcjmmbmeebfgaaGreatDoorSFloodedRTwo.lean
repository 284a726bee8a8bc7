/- A call that looks at two slices, known at two views, told at any two slices in any heap. -/
import Derived.Test.YtbcjmmbmeebfgaaGreatDoorSFloodedRG6
namespace Go.R
set_option linter.unusedVariables false
set_option linter.unusedSimpArgs false
open Go Go.RowKit
noncomputable section
variable {P : Program}

theorem slice_place {μ : Mp} {i o n : Nat} {s s' : Value} (hs : SliceAt i o n s) (r : VR μ s s') : ∃ b z e cap, μ i = some (b, z, e) ∧ n ≤ cap ∧ s' = .slice (some ⟨b, z + o, none⟩) n cap := by
  rcases hs with ⟨q, rfl⟩ | ⟨cap, hc, rfl⟩
  · obtain ⟨b, z, e, c', hm, q1, q2, q3, rfl⟩ := r.sliceU_inv
    exact ⟨b, z, e, c', hm, q2, rfl⟩
  · obtain ⟨b, z, e, hm, rfl⟩ := r.slice_inv
    exact ⟨b, z, e, cap, hm, hc, rfl⟩

def viewC (cells : List Value) : AObj := .cells cells false [] none

theorem view_or {μ μ1 : Mp} {h : AH} {F : Nat → Prop} {w0 w : World} {i o b z e : Nat} {c cells : List Value} {lv : Bool} {par : List Nat} {ty : Option TypeId} (H : HR F w0 μ h w) (hm : μ i = some (b, z, e)) (hg : h.get i = .cells c lv par ty)
    (hsub : ∀ (k : Nat) u, cells[k]? = some u → c[o + k]? = some u) (room : o + cells.length ≤ c.length) (hpl : ∀ u ∈ cells, plainV u = true) : OR μ1 (viewC cells) b (z + o) (z + o + cells.length) w := by
  have hob := H.obj i b z e hm
  rw [hg] at hob
  obtain ⟨cs, el, fr, h1, h2, h3, h4, h5⟩ := hob
  refine ⟨cs, el, fr, h1, Nat.le_refl _, by omega, fun k u hk => ?_, fun h => (by cases h), fun t h => (by cases h)⟩
  obtain ⟨u', t1, t2⟩ := h4 (o + k) u (hsub k u hk)
  have hp := hpl u (List.mem_of_getElem? hk)
  rw [plain_same t2 hp, ← Nat.add_assoc] at t1
  exact ⟨u, t1, .plain hp⟩

end
end Go.R
