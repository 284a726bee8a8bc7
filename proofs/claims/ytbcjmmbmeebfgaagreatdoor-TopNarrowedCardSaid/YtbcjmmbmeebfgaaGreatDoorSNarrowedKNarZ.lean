/- TopNarrowed: where there are no results. -/
import Derived.Test.YtbcjmmbmeebfgaaGreatDoorSNarrowedUG11
namespace Go.Proofs.YtbcjmmbmeebfgaaGreatDoor
set_option linter.unusedVariables false
set_option linter.unusedSimpArgs false
open Go Go.R
set_option maxRecDepth 1000000
noncomputable section
noncomputable def chk0 (m : Nat) (b : Nat → Nat) : Bool := okRun Tryz.prog Tryz.f4 (execA Tryz.prog kU 1000 (behind 5 c4) (sth [(7, i64 (m + 1)), (8, ptrV 2), (9, .slice none 0 0)] 188 (Os40 m b))) (.bool true)
theorem chk0_0 (b : Nat → Nat) : chk0 0 b = true := by kernel_rfl
theorem chk0_1 (b : Nat → Nat) : chk0 1 b = true := by kernel_rfl
theorem chk0_2 (b : Nat → Nat) : chk0 2 b = true := by kernel_rfl
theorem chk0_3 (b : Nat → Nat) : chk0 3 b = true := by kernel_rfl
theorem chk0_4 (b : Nat → Nat) : chk0 4 b = true := by kernel_rfl
theorem chk0_5 (b : Nat → Nat) : chk0 5 b = true := by kernel_rfl
theorem chk0_all {m : Nat} (hm : m < 6) (b : Nat → Nat) : chk0 m b = true := by
  match m, hm with
  | 0, _ => exact chk0_0 b
  | 1, _ => exact chk0_1 b
  | 2, _ => exact chk0_2 b
  | 3, _ => exact chk0_3 b
  | 4, _ => exact chk0_4 b
  | 5, _ => exact chk0_5 b
  | m + 6, h => omega
end
end Go.Proofs.YtbcjmmbmeebfgaaGreatDoor
