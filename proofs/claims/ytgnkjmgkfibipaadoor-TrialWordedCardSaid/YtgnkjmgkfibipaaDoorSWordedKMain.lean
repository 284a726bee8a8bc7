/- The harness's sum, and what the program looks at: once for all laws. -/
import Derived.Test.YtgnkjmgkfibipaaDoorSWordedKG0
import Derived.SevenTiedAt
namespace Go.Proofs.YtgnkjmgkfibipaaDoor
set_option linter.unusedVariables false
set_option linter.unusedSimpArgs false
open Go
theorem p_main : Tryd.prog.mainIs = some (true, "a95ab0dca0f4d6435f9c5e52d6dfd53cbca5ede0a20be2dbf1374da01667d882".toList) := by kernel_rfl
theorem p_looks : false = Tryd.prog.looks [] := by kernel_rfl
end Go.Proofs.YtgnkjmgkfibipaaDoor
