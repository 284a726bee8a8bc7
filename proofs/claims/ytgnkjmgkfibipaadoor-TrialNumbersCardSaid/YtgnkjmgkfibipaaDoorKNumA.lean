/- The reference's reach and trials, and its numbers of plans: what the kernel is to see. -/
import Derived.Test.YtgnkjmgkfibipaaDoorKTabs
import Derived.Test.YtgnkjmgkfibipaaDoorRStage
namespace Go.Proofs.YtgnkjmgkfibipaaDoor
set_option linter.unusedVariables false
set_option linter.unusedSimpArgs false
open Go Go.R
set_option maxRecDepth 1000000
noncomputable section

def vInR (n lo hi : Nat) : Option Value := some (.bool (Nat.ble lo n && Nat.ble n hi))
theorem inR_tab : ∀ a, a < 14 → row3 (callA Tryd.prog works 1000) 81 2 14 vInR a = true := all_lt (by kernel_rfl)
def hInR : Hook := orH works (numH 81 (grid3 14 2 14 vInR))
theorem hInR_ok : HookOk Tryd.prog hInR := or_ok works_ok (grid3_ok (call_ok mixed noNum works_ok 1000) inR_tab)
theorem reachR_col : ∀ N, N < 13 → col2 Tryd.prog hInR 82 7 vReach N = true := all_lt (by kernel_rfl)
def hReR : Hook := orH hInR (numH 82 (grid2 7 13 vReach))
theorem hReR_ok : HookOk Tryd.prog hReR := or_ok hInR_ok (stage2_ok mixed noNum hInR_ok reachR_col 13 (Nat.le_refl _))
theorem trialsR_tab : ∀ a, a < 13 → row2 (callA Tryd.prog hReR 1000) 84 7 vFewest a = true := all_lt (by kernel_rfl)
def hTrR : Hook := orH hReR (numH 84 (grid2 13 7 vFewest))
theorem hTrR_ok : HookOk Tryd.prog hTrR := or_ok hReR_ok (grid2_ok (call_ok mixed noNum hReR_ok 1000) trialsR_tab)
def vCounts (L b t : Nat) : Option (List Value × Option Value) := some ((List.range (L + 1)).map fun n => i64 (countN n b t), none)
def cellN (N a : Nat) : Bool := fcell3 Tryd.prog hInR 86 (some 3) 13 7 vCounts N a
end
end Go.Proofs.YtgnkjmgkfibipaaDoor
