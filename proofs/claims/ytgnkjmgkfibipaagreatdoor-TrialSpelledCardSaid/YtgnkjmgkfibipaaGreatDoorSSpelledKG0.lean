/- The program's facts that the machine wants. -/
import Derived.Test.YtgnkjmgkfibipaaGreatDoorSSpelledRG4
import Derived.Test.YtgnkjmgkfibipaaGreatDoorRows
import Derived.KernelRfl
import Derived.Test.YtgnkjmgkfibipaaGreatDoorSSpelledRG5
namespace Go.Proofs.YtgnkjmgkfibipaaGreatDoor
set_option linter.unusedVariables false
set_option linter.unusedSimpArgs false
open Go Go.R
set_option maxRecDepth 100000

def ids : Ids := { noEscape := some 113, indexByteS := some 124, countS := some 74, makeNoZero := some 118, byte := 5 }
theorem mixed : Tryz.prog.follows .mixedOrders = true := by kernel_rfl
theorem noNum : NoNum Tryz.prog := noNum_of (by kernel_rfl)
theorem entries : ExtOk Tryz.prog ids where
  noEscape := fun f h => by cases h; exact ⟨_, Tryz.func113, by kernel_rfl, by kernel_rfl, by kernel_rfl, by kernel_rfl⟩
  indexByteS := fun f h => by cases h; exact ⟨_, Tryz.func124, by kernel_rfl, by kernel_rfl, by kernel_rfl, by kernel_rfl⟩
  countS := fun f h => by cases h; exact ⟨_, Tryz.func74, by kernel_rfl, by kernel_rfl, by kernel_rfl, by kernel_rfl⟩
  makeNoZero := fun f h => by cases h; exact ⟨#[3], 88, by kernel_rfl, _, Tryz.func118, by kernel_rfl, by kernel_rfl, by kernel_rfl, by kernel_rfl⟩
theorem hooks : HookOk Tryz.prog (extA ids) := ext_ok entries
end Go.Proofs.YtgnkjmgkfibipaaGreatDoor

/- The examples that every law ends in: the machine's answer, by the kernel; and the contract. -/
namespace Go.Proofs.YtgnkjmgkfibipaaGreatDoor
set_option linter.unusedVariables false
set_option linter.unusedSimpArgs false
open Go Go.R
set_option maxRecDepth 1000000
theorem works_runs : says (callA Tryz.prog (extA ids) (99999 + 1) 6 [] AH.empty) (.bool true) = true := by kernel_rfl
noncomputable def works : Hook := orH (extA ids) (closedH 6 [] (.bool true))
theorem works_ok : HookOk Tryz.prog works := or_ok hooks (closed_ok mixed noNum hooks Tryz.func6 (by kernel_rfl) (by kernel_rfl) (by kernel_rfl) works_runs)
end Go.Proofs.YtgnkjmgkfibipaaGreatDoor
