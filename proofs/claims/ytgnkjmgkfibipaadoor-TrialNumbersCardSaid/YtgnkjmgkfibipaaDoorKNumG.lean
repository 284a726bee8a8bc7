/- TrialNumbers: what the kernel sees. -/
import Derived.Test.YtgnkjmgkfibipaaDoorKNumF
namespace Go.Proofs.YtgnkjmgkfibipaaDoor
set_option linter.unusedVariables false
set_option linter.unusedSimpArgs false
open Go Go.R
set_option maxRecDepth 1000000
theorem n_0 (j k : Nat) : chkN (i64 0) j k = true := by kernel_rfl
theorem n_1 (j k : Nat) : chkN (i64 1) j k = true := by kernel_rfl
theorem n_2 (j k : Nat) : chkN (i64 2) j k = true := by kernel_rfl
theorem n_3 (j k : Nat) : chkN (i64 3) j k = true := by kernel_rfl
theorem n_4 (j k : Nat) : chkN (i64 4) j k = true := by kernel_rfl
theorem n_5 (j k : Nat) : chkN (i64 5) j k = true := by kernel_rfl
theorem n_6 (j k : Nat) : chkN (i64 6) j k = true := by kernel_rfl
end Go.Proofs.YtgnkjmgkfibipaaDoor
