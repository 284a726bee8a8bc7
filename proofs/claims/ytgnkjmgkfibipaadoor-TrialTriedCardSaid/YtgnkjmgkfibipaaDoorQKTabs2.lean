/- What Reach, Blades and the law's binomial answer at all numbers in their ranges: by the kernel. -/
import Derived.Test.YtgnkjmgkfibipaaDoorQKTabs
namespace Go.Proofs.YtgnkjmgkfibipaaDoor
set_option linter.unusedVariables false
set_option linter.unusedSimpArgs false
open Go Go.R
set_option maxRecDepth 1000000
noncomputable section

def bladesN (n t : Nat) : Nat := firstN (fun b => Nat.blt 6 b || Nat.ble (fewestN n b) t) 8 1

def vReachT (b t : Nat) : Option Value := if b = 0 then none else some (.tuple #[i64 (reachN b t), i64 0])
theorem reachT_tab : ∀ a, a < 7 → row2 (callA Tryd.prog hFew 1000) 26 13 vReachT a = true := all_lt (by kernel_rfl)
def vBlades (n t : Nat) : Option Value := if bladesN n t = 7 then some (.tuple #[i64 0, i64 12]) else some (.tuple #[i64 (bladesN n t), i64 0])
theorem blades_tab : ∀ a, a < 13 → row2 (callA Tryd.prog hFew 1000) 30 13 vBlades a = true := all_lt (by kernel_rfl)
def vBinom (n k : Nat) : Option Value := some (i64 (chooseN n k))
theorem binom_0 : row2 (callA Tryd.prog hFew 1000) 34 7 vBinom 0 = true := by kernel_rfl
theorem binom_1 : row2 (callA Tryd.prog hFew 1000) 34 7 vBinom 1 = true := by kernel_rfl
theorem binom_2 : row2 (callA Tryd.prog hFew 1000) 34 7 vBinom 2 = true := by kernel_rfl
theorem binom_3 : row2 (callA Tryd.prog hFew 1000) 34 7 vBinom 3 = true := by kernel_rfl
theorem binom_4 : row2 (callA Tryd.prog hFew 1000) 34 7 vBinom 4 = true := by kernel_rfl
theorem binom_5 : row2 (callA Tryd.prog hFew 1000) 34 7 vBinom 5 = true := by kernel_rfl
theorem binom_6 : row2 (callA Tryd.prog hFew 1000) 34 7 vBinom 6 = true := by kernel_rfl
theorem binom_7 : row2 (callA Tryd.prog hFew 1000) 34 7 vBinom 7 = true := by kernel_rfl
theorem binom_8 : row2 (callA Tryd.prog hFew 1000) 34 7 vBinom 8 = true := by kernel_rfl
theorem binom_9 : row2 (callA Tryd.prog hFew 1000) 34 7 vBinom 9 = true := by kernel_rfl
theorem binom_10 : row2 (callA Tryd.prog hFew 1000) 34 7 vBinom 10 = true := by kernel_rfl
theorem binom_11 : row2 (callA Tryd.prog hFew 1000) 34 7 vBinom 11 = true := by kernel_rfl
theorem binom_12 : row2 (callA Tryd.prog hFew 1000) 34 7 vBinom 12 = true := by kernel_rfl
theorem binom_tab : ∀ a, a < 13 → row2 (callA Tryd.prog hFew 1000) 34 7 vBinom a = true
  | 0, _ => binom_0
  | 1, _ => binom_1
  | 2, _ => binom_2
  | 3, _ => binom_3
  | 4, _ => binom_4
  | 5, _ => binom_5
  | 6, _ => binom_6
  | 7, _ => binom_7
  | 8, _ => binom_8
  | 9, _ => binom_9
  | 10, _ => binom_10
  | 11, _ => binom_11
  | 12, _ => binom_12
  | n + 13, h => by omega
def hNum : Hook := orH hCho (orH (numH 26 (grid2 7 13 vReachT)) (orH (numH 30 (grid2 13 13 vBlades)) (numH 34 (grid2 13 7 vBinom))))
theorem hNum_ok : HookOk Tryd.prog hNum :=
  or_ok hCho_ok (or_ok (grid2_ok (call_ok mixed noNum hFew_ok 1000) reachT_tab) (or_ok (grid2_ok (call_ok mixed noNum hFew_ok 1000) blades_tab) (grid2_ok (call_ok mixed noNum hFew_ok 1000) binom_tab)))
end
end Go.Proofs.YtgnkjmgkfibipaaDoor
