/- Rests of bytes, as the laws take them. -/
import Derived.Test.YtbcjmmbmeebfgaaDoorKFacts
namespace Go.Proofs.YtbcjmmbmeebfgaaDoor
set_option linter.unusedVariables false
set_option linter.unusedSimpArgs false
open Go Go.R
set_option maxRecDepth 1000000
noncomputable section

/-- One more than the rest of a byte, and the rest. -/
def restI (x : Int) (k : Int) : Int := wrapF .i64 (1 + Int.tmod (IntKind.i64.wrap x) k)
def restJ (x : Int) (k : Int) : Int := Int.tmod (IntKind.i64.wrap x) k

theorem restI_eq : ((List.range 14).all fun k => (List.range 256).all fun m => Nat.beq k 0 || decide (restI (.ofNat m) (.ofNat k) = .ofNat (m % k + 1))) = true := by kernel_rfl
theorem restJ_eq : ((List.range 14).all fun k => (List.range 256).all fun m => Nat.beq k 0 || decide (restJ (.ofNat m) (.ofNat k) = .ofNat (m % k))) = true := by kernel_rfl

theorem rest_of {x : Int} (h0 : 0 ≤ x) (h1 : x ≤ 255) {k : Nat} (hk : 0 < k) (hk' : k < 14) : ∃ n, n < k ∧ restI x (.ofNat k) = .ofNat (n + 1) := by
  obtain ⟨m, rfl⟩ := Int.eq_ofNat_of_zero_le h0
  have h := restI_eq
  simp only [List.all_eq_true, List.mem_range] at h
  have h2 := h k hk' m (by omega)
  rw [Bool.or_eq_true] at h2
  rcases h2 with h2 | h2
  · have := Nat.eq_of_beq_eq_true h2; omega
  · exact ⟨m % k, Nat.mod_lt _ hk, of_decide_eq_true h2⟩

theorem restJ_of {x : Int} (h0 : 0 ≤ x) (h1 : x ≤ 255) {k : Nat} (hk : 0 < k) (hk' : k < 14) : ∃ n, n < k ∧ restJ x (.ofNat k) = .ofNat n := by
  obtain ⟨m, rfl⟩ := Int.eq_ofNat_of_zero_le h0
  have h := restJ_eq
  simp only [List.all_eq_true, List.mem_range] at h
  have h2 := h k hk' m (by omega)
  rw [Bool.or_eq_true] at h2
  rcases h2 with h2 | h2
  · have := Nat.eq_of_beq_eq_true h2; omega
  · exact ⟨m % k, Nat.mod_lt _ hk, of_decide_eq_true h2⟩

theorem byte_of {n : Int} (h : (Lit.int .u8 n).wf = true) : 0 ≤ n ∧ n ≤ 255 := by
  simp [Lit.wf, IntKind.min, IntKind.max, IntKind.signed, IntKind.bits] at h
  omega
theorem knob : ownKnob Tryd.prog.godebug = none := by kernel_rfl
end
end Go.Proofs.YtbcjmmbmeebfgaaDoor
