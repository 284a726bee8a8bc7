/- The program's facts that the machine wants. -/
import Derived.Test.YtgnkjmgkfibipaaDoorRows
import Derived.Test.YtgnkjmgkfibipaaDoorSWordedRG4
import Derived.KernelRfl
import Derived.Test.YtgnkjmgkfibipaaDoorSWordedRG5
namespace Go.Proofs.YtgnkjmgkfibipaaDoor
set_option linter.unusedVariables false
set_option linter.unusedSimpArgs false
open Go Go.R
set_option maxRecDepth 100000

def ids : Ids := { noEscape := some 146, indexByteS := some 147, countS := some 103, makeNoZero := some 149, byte := 5 }
theorem mixed : Tryd.prog.follows .mixedOrders = true := by kernel_rfl
theorem noNum : NoNum Tryd.prog := noNum_of (by kernel_rfl)
theorem entries : ExtOk Tryd.prog ids where
  noEscape := fun f h => by cases h; exact ⟨_, Tryd.func146, by kernel_rfl, by kernel_rfl, by kernel_rfl, by kernel_rfl⟩
  indexByteS := fun f h => by cases h; exact ⟨_, Tryd.func147, by kernel_rfl, by kernel_rfl, by kernel_rfl, by kernel_rfl⟩
  countS := fun f h => by cases h; exact ⟨_, Tryd.func103, by kernel_rfl, by kernel_rfl, by kernel_rfl, by kernel_rfl⟩
  makeNoZero := fun f h => by cases h; exact ⟨#[3], 50, by kernel_rfl, _, Tryd.func149, by kernel_rfl, by kernel_rfl, by kernel_rfl, by kernel_rfl⟩
theorem hooks : HookOk Tryd.prog (extA ids) := ext_ok entries
end Go.Proofs.YtgnkjmgkfibipaaDoor

/- The examples that every law ends in: the machine's answer, by the kernel; and the contract. -/
namespace Go.Proofs.YtgnkjmgkfibipaaDoor
set_option linter.unusedVariables false
set_option linter.unusedSimpArgs false
open Go Go.R
set_option maxRecDepth 1000000
theorem works_runs : says (callA Tryd.prog (extA ids) (99999 + 1) 18 [] AH.empty) (.bool true) = true := by kernel_rfl
noncomputable def works : Hook := orH (extA ids) (closedH 18 [] (.bool true))
theorem works_ok : HookOk Tryd.prog works := or_ok hooks (closed_ok mixed noNum hooks Tryd.func18 (by kernel_rfl) (by kernel_rfl) (by kernel_rfl) works_runs)
end Go.Proofs.YtgnkjmgkfibipaaDoor
