/- TopNarrowed: its first loop, which builds the results and the galleries. -/
import Derived.Test.YtbcjmmbmeebfgaaGreatDoorSFloodedUG9
namespace Go.Proofs.YtbcjmmbmeebfgaaGreatDoor
set_option linter.unusedVariables false
set_option linter.unusedSimpArgs false
open Go Go.R
set_option maxRecDepth 1000000
noncomputable section

noncomputable def u8 (n : Nat) : Value := .int .u8 (.ofNat n)
noncomputable def gN (b : Nat → Nat) (i : Nat) : Bool := Nat.beq (b i % 2) 1
noncomputable def slG (j c : Nat) : Value := .slice (some ⟨j, 0, some 3⟩) c c
theorem conv_i {x : Nat} (h : x < 1000) : IntKind.wrap .i64 (.ofNat x) = .ofNat x := by rw [← wrapF_eq]; exact wrap_ofNat (by omega)
theorem rem_i (a m : Nat) : intBin .rem .i64 (.ofNat a) (.ofNat (m + 1)) = some (i64 (a % (m + 1))) := by
  show (if (Int.ofNat (m + 1)) = 0 then none else some (Value.int .i64 (Int.tmod (.ofNat a) (.ofNat (m + 1))))) = _
  rw [if_neg (by intro h; cases h)]
  rfl
theorem one_add {x : Nat} (h : x < 1000) : wrapF .i64 (Int.add (.ofNat 1) (.ofNat x)) = .ofNat (1 + x) := wrap_ofNat (k := 1 + x) (by omega)
theorem gal_info : ∃ info, Tryz.prog.info? 53 = some info ∧ info.size = 2 + 1 ∧ (decide (info.bytes > 1000000) || !zfit info) = false := ⟨(Tryz.prog.info? 53).get!, by kernel_rfl, by kernel_rfl, by kernel_rfl⟩

end
end Go.Proofs.YtbcjmmbmeebfgaaGreatDoor

/- TopNarrowed: its first loop, step by step. -/
namespace Go.Proofs.YtbcjmmbmeebfgaaGreatDoor
set_option linter.unusedVariables false
set_option linter.unusedSimpArgs false
open Go Go.R
set_option maxRecDepth 1000000
noncomputable section
end
end Go.Proofs.YtbcjmmbmeebfgaaGreatDoor
