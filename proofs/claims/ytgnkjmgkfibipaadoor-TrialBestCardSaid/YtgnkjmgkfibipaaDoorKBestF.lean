/- TrialBest: what the kernel sees. -/
import Derived.Test.YtgnkjmgkfibipaaDoorKBestC
namespace Go.Proofs.YtgnkjmgkfibipaaDoor
set_option linter.unusedVariables false
set_option linter.unusedSimpArgs false
open Go Go.R
set_option maxRecDepth 1000000
theorem b3p_0 (k : Nat) : chkB3 0 (.int .i64 (.ofNat (k + 13))) = true := by kernel_rfl
theorem b3n_0 (k : Nat) : chkB3 0 (.int .i64 (.negSucc k)) = true := by kernel_rfl
theorem b3p_1 (k : Nat) : chkB3 1 (.int .i64 (.ofNat (k + 13))) = true := by kernel_rfl
theorem b3n_1 (k : Nat) : chkB3 1 (.int .i64 (.negSucc k)) = true := by kernel_rfl
theorem b3p_2 (k : Nat) : chkB3 2 (.int .i64 (.ofNat (k + 13))) = true := by kernel_rfl
theorem b3n_2 (k : Nat) : chkB3 2 (.int .i64 (.negSucc k)) = true := by kernel_rfl
theorem b3p_3 (k : Nat) : chkB3 3 (.int .i64 (.ofNat (k + 13))) = true := by kernel_rfl
theorem b3n_3 (k : Nat) : chkB3 3 (.int .i64 (.negSucc k)) = true := by kernel_rfl
theorem b3p_4 (k : Nat) : chkB3 4 (.int .i64 (.ofNat (k + 13))) = true := by kernel_rfl
theorem b3n_4 (k : Nat) : chkB3 4 (.int .i64 (.negSucc k)) = true := by kernel_rfl
theorem b3p_5 (k : Nat) : chkB3 5 (.int .i64 (.ofNat (k + 13))) = true := by kernel_rfl
theorem b3n_5 (k : Nat) : chkB3 5 (.int .i64 (.negSucc k)) = true := by kernel_rfl
theorem b3p_6 (k : Nat) : chkB3 6 (.int .i64 (.ofNat (k + 13))) = true := by kernel_rfl
theorem b3n_6 (k : Nat) : chkB3 6 (.int .i64 (.negSucc k)) = true := by kernel_rfl
theorem b3p_7 (k : Nat) : chkB3 7 (.int .i64 (.ofNat (k + 13))) = true := by kernel_rfl
theorem b3n_7 (k : Nat) : chkB3 7 (.int .i64 (.negSucc k)) = true := by kernel_rfl
theorem b3p_8 (k : Nat) : chkB3 8 (.int .i64 (.ofNat (k + 13))) = true := by kernel_rfl
theorem b3n_8 (k : Nat) : chkB3 8 (.int .i64 (.negSucc k)) = true := by kernel_rfl
theorem b3p_9 (k : Nat) : chkB3 9 (.int .i64 (.ofNat (k + 13))) = true := by kernel_rfl
theorem b3n_9 (k : Nat) : chkB3 9 (.int .i64 (.negSucc k)) = true := by kernel_rfl
theorem b3p_10 (k : Nat) : chkB3 10 (.int .i64 (.ofNat (k + 13))) = true := by kernel_rfl
theorem b3n_10 (k : Nat) : chkB3 10 (.int .i64 (.negSucc k)) = true := by kernel_rfl
theorem b3p_11 (k : Nat) : chkB3 11 (.int .i64 (.ofNat (k + 13))) = true := by kernel_rfl
theorem b3n_11 (k : Nat) : chkB3 11 (.int .i64 (.negSucc k)) = true := by kernel_rfl
theorem b3p_12 (k : Nat) : chkB3 12 (.int .i64 (.ofNat (k + 13))) = true := by kernel_rfl
theorem b3n_12 (k : Nat) : chkB3 12 (.int .i64 (.negSucc k)) = true := by kernel_rfl
theorem out_big (k : Nat) (y z : Int) : runBo (.int .i64 (.ofNat (k + 13))) (.int .i64 y) (.int .i64 z) = true := by kernel_rfl
theorem out_neg (k : Nat) (y z : Int) : runBo (.int .i64 (.negSucc k)) (.int .i64 y) (.int .i64 z) = true := by kernel_rfl
theorem outb_0 (k : Nat) (z : Int) : (runBo (i64 0) (.int .i64 (.ofNat (k + 7))) (.int .i64 z) && (runBo (i64 0) (.int .i64 (.negSucc k)) (.int .i64 z) && runBo (i64 0) (i64 0) (.int .i64 z))) = true := by kernel_rfl
theorem outb_1 (k : Nat) (z : Int) : (runBo (i64 1) (.int .i64 (.ofNat (k + 7))) (.int .i64 z) && (runBo (i64 1) (.int .i64 (.negSucc k)) (.int .i64 z) && runBo (i64 1) (i64 0) (.int .i64 z))) = true := by kernel_rfl
theorem outb_2 (k : Nat) (z : Int) : (runBo (i64 2) (.int .i64 (.ofNat (k + 7))) (.int .i64 z) && (runBo (i64 2) (.int .i64 (.negSucc k)) (.int .i64 z) && runBo (i64 2) (i64 0) (.int .i64 z))) = true := by kernel_rfl
theorem outb_3 (k : Nat) (z : Int) : (runBo (i64 3) (.int .i64 (.ofNat (k + 7))) (.int .i64 z) && (runBo (i64 3) (.int .i64 (.negSucc k)) (.int .i64 z) && runBo (i64 3) (i64 0) (.int .i64 z))) = true := by kernel_rfl
theorem outb_4 (k : Nat) (z : Int) : (runBo (i64 4) (.int .i64 (.ofNat (k + 7))) (.int .i64 z) && (runBo (i64 4) (.int .i64 (.negSucc k)) (.int .i64 z) && runBo (i64 4) (i64 0) (.int .i64 z))) = true := by kernel_rfl
theorem outb_5 (k : Nat) (z : Int) : (runBo (i64 5) (.int .i64 (.ofNat (k + 7))) (.int .i64 z) && (runBo (i64 5) (.int .i64 (.negSucc k)) (.int .i64 z) && runBo (i64 5) (i64 0) (.int .i64 z))) = true := by kernel_rfl
theorem outb_6 (k : Nat) (z : Int) : (runBo (i64 6) (.int .i64 (.ofNat (k + 7))) (.int .i64 z) && (runBo (i64 6) (.int .i64 (.negSucc k)) (.int .i64 z) && runBo (i64 6) (i64 0) (.int .i64 z))) = true := by kernel_rfl
theorem outb_7 (k : Nat) (z : Int) : (runBo (i64 7) (.int .i64 (.ofNat (k + 7))) (.int .i64 z) && (runBo (i64 7) (.int .i64 (.negSucc k)) (.int .i64 z) && runBo (i64 7) (i64 0) (.int .i64 z))) = true := by kernel_rfl
theorem outb_8 (k : Nat) (z : Int) : (runBo (i64 8) (.int .i64 (.ofNat (k + 7))) (.int .i64 z) && (runBo (i64 8) (.int .i64 (.negSucc k)) (.int .i64 z) && runBo (i64 8) (i64 0) (.int .i64 z))) = true := by kernel_rfl
theorem outb_9 (k : Nat) (z : Int) : (runBo (i64 9) (.int .i64 (.ofNat (k + 7))) (.int .i64 z) && (runBo (i64 9) (.int .i64 (.negSucc k)) (.int .i64 z) && runBo (i64 9) (i64 0) (.int .i64 z))) = true := by kernel_rfl
theorem outb_10 (k : Nat) (z : Int) : (runBo (i64 10) (.int .i64 (.ofNat (k + 7))) (.int .i64 z) && (runBo (i64 10) (.int .i64 (.negSucc k)) (.int .i64 z) && runBo (i64 10) (i64 0) (.int .i64 z))) = true := by kernel_rfl
theorem outb_11 (k : Nat) (z : Int) : (runBo (i64 11) (.int .i64 (.ofNat (k + 7))) (.int .i64 z) && (runBo (i64 11) (.int .i64 (.negSucc k)) (.int .i64 z) && runBo (i64 11) (i64 0) (.int .i64 z))) = true := by kernel_rfl
theorem outb_12 (k : Nat) (z : Int) : (runBo (i64 12) (.int .i64 (.ofNat (k + 7))) (.int .i64 z) && (runBo (i64 12) (.int .i64 (.negSucc k)) (.int .i64 z) && runBo (i64 12) (i64 0) (.int .i64 z))) = true := by kernel_rfl
end Go.Proofs.YtgnkjmgkfibipaaDoor
