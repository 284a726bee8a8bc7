/- TrialNumbers: what the kernel sees. -/
import Derived.Test.YtgnkjmgkfibipaaDoorKNumF
namespace Go.Proofs.YtgnkjmgkfibipaaDoor
set_option linter.unusedVariables false
set_option linter.unusedSimpArgs false
open Go Go.R
set_option maxRecDepth 1000000
theorem n_7 (j k : Nat) : chkN (i64 7) j k = true := by kernel_rfl
theorem n_8 (j k : Nat) : chkN (i64 8) j k = true := by kernel_rfl
theorem n_9 (j k : Nat) : chkN (i64 9) j k = true := by kernel_rfl
theorem n_10 (j k : Nat) : chkN (i64 10) j k = true := by kernel_rfl
theorem n_11 (j k : Nat) : chkN (i64 11) j k = true := by kernel_rfl
theorem n_12 (j k : Nat) : chkN (i64 12) j k = true := by kernel_rfl
theorem n_big (i j k : Nat) : chkN (big 13 i) j k = true := by kernel_rfl
theorem n_neg (i j k : Nat) : chkN (neg i) j k = true := by kernel_rfl
end Go.Proofs.YtgnkjmgkfibipaaDoor
