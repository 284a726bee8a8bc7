/- TrialWorse, behind its first numbers: by the kernel, number by number. -/
import Derived.Test.YtgnkjmgkfibipaaDoorKTabs
namespace Go.Proofs.YtgnkjmgkfibipaaDoor
set_option linter.unusedVariables false
set_option linter.unusedSimpArgs false
open Go Go.R
set_option maxRecDepth 1000000
noncomputable section
def c7 : Code := bodyOf Tryd.f7
def kW : CallF := callA Tryd.prog hCho 1000
def lW (n b l : Nat) : List (Nat × Value) := [(7, i64 n), (8, i64 b), (9, i64 l)]
def chkW (n : Nat) : Bool := (List.range 6).all fun b => (List.range n).all fun l => okRun Tryd.prog Tryd.f7 (execA Tryd.prog kW 1000 (behind 3 c7) (st (lW n (b + 1) (l + 1)) 129)) (.bool true)
theorem w1 : chkW 1 = true := by kernel_rfl
theorem w2 : chkW 2 = true := by kernel_rfl
theorem w3 : chkW 3 = true := by kernel_rfl
theorem w4 : chkW 4 = true := by kernel_rfl
theorem w5 : chkW 5 = true := by kernel_rfl
theorem w6 : chkW 6 = true := by kernel_rfl
theorem w7 : chkW 7 = true := by kernel_rfl
theorem w8 : chkW 8 = true := by kernel_rfl
theorem w9 : chkW 9 = true := by kernel_rfl
theorem w10 : chkW 10 = true := by kernel_rfl
theorem w11 : chkW 11 = true := by kernel_rfl
theorem w12 : chkW 12 = true := by kernel_rfl
end
end Go.Proofs.YtgnkjmgkfibipaaDoor
