/- The reference's numbers, first plans, worse results and least sums: by the kernel. -/
import Derived.Test.YtgnkjmgkfibipaaDoorQKLeastTop
import Derived.Test.YtgnkjmgkfibipaaDoorQRG5
namespace Go.Proofs.YtgnkjmgkfibipaaDoor
set_option linter.unusedVariables false
set_option linter.unusedSimpArgs false
open Go Go.R
set_option maxRecDepth 1000000
noncomputable section

/-- The first best plans: by levels, blades. -/
def firstTab : List (List (List Nat)) := [
  [[], [], [], [], [], [], []],
  [[], [1], [1], [1], [1], [1], [1]],
  [[], [1, 2], [1, 2], [1, 2], [1, 2], [1, 2], [1, 2]],
  [[], [1, 2, 3], [2, 1, 3], [2, 1, 3], [2, 1, 3], [2, 1, 3], [2, 1, 3]],
  [[], [1, 2, 3, 4], [1, 3, 2, 4], [1, 3, 2, 4], [1, 3, 2, 4], [1, 3, 2, 4], [1, 3, 2, 4]],
  [[], [1, 2, 3, 4, 5], [2, 1, 4, 3, 5], [2, 1, 4, 3, 5], [2, 1, 4, 3, 5], [2, 1, 4, 3, 5], [2, 1, 4, 3, 5]],
  [[], [1, 2, 3, 4, 5, 6], [3, 1, 2, 5, 4, 6], [3, 1, 2, 5, 4, 6], [3, 1, 2, 5, 4, 6], [3, 1, 2, 5, 4, 6], [3, 1, 2, 5, 4, 6]],
  [[], [1, 2, 3, 4, 5, 6, 7], [1, 4, 2, 3, 6, 5, 7], [4, 2, 1, 3, 6, 5, 7], [4, 2, 1, 3, 6, 5, 7], [4, 2, 1, 3, 6, 5, 7], [4, 2, 1, 3, 6, 5, 7]],
  [[], [1, 2, 3, 4, 5, 6, 7, 8], [2, 1, 5, 3, 4, 7, 6, 8], [1, 5, 3, 2, 4, 7, 6, 8], [1, 5, 3, 2, 4, 7, 6, 8], [1, 5, 3, 2, 4, 7, 6, 8], [1, 5, 3, 2, 4, 7, 6, 8]],
  [[], [1, 2, 3, 4, 5, 6, 7, 8, 9], [3, 1, 2, 6, 4, 5, 8, 7, 9], [2, 1, 6, 4, 3, 5, 8, 7, 9], [2, 1, 6, 4, 3, 5, 8, 7, 9], [2, 1, 6, 4, 3, 5, 8, 7, 9], [2, 1, 6, 4, 3, 5, 8, 7, 9]],
  [[], [1, 2, 3, 4, 5, 6, 7, 8, 9, 10], [4, 1, 2, 3, 7, 5, 6, 9, 8, 10], [3, 1, 2, 7, 5, 4, 6, 9, 8, 10], [3, 1, 2, 7, 5, 4, 6, 9, 8, 10], [3, 1, 2, 7, 5, 4, 6, 9, 8, 10], [3, 1, 2, 7, 5, 4, 6, 9, 8, 10]],
  [[], [1, 2, 3, 4, 5, 6, 7, 8, 9, 10, 11], [1, 5, 2, 3, 4, 8, 6, 7, 10, 9, 11], [4, 1, 2, 3, 8, 6, 5, 7, 10, 9, 11], [4, 1, 2, 3, 8, 6, 5, 7, 10, 9, 11], [4, 1, 2, 3, 8, 6, 5, 7, 10, 9, 11], [4, 1, 2, 3, 8, 6, 5, 7, 10, 9, 11]],
  [[], [1, 2, 3, 4, 5, 6, 7, 8, 9, 10, 11, 12], [2, 1, 6, 3, 4, 5, 9, 7, 8, 11, 10, 12], [5, 1, 3, 2, 4, 9, 7, 6, 8, 11, 10, 12], [5, 1, 3, 2, 4, 9, 7, 6, 8, 11, 10, 12], [5, 1, 3, 2, 4, 9, 7, 6, 8, 11, 10, 12], [5, 1, 3, 2, 4, 9, 7, 6, 8, 11, 10, 12]]]
def firstL (n b : Nat) : List Nat := (firstTab.getD n []).getD b []

def vIn (n lo hi : Nat) : Option Value := some (.bool (Nat.ble lo n && Nat.ble n hi))
theorem in_tab : ∀ a, a < 14 → row3 (callA Tryd.prog works 1000) 81 2 14 vIn a = true := all_lt (by kernel_rfl)
def hIn : Hook := orH hCho (numH 81 (grid3 14 2 14 vIn))
theorem hIn_ok : HookOk Tryd.prog hIn := or_ok hCho_ok (grid3_ok (call_ok mixed noNum works_ok 1000) in_tab)

theorem rreach_col : ∀ N, N < 13 → col2 Tryd.prog hIn 82 7 vReach N = true := all_lt (by kernel_rfl)
def hRR : Hook := orH hIn (numH 82 (grid2 7 13 vReach))
theorem hRR_ok : HookOk Tryd.prog hRR := or_ok hIn_ok (stage2_ok mixed noNum hIn_ok rreach_col 13 (Nat.le_refl _))

theorem rtrials_tab : ∀ a, a < 13 → row2 (callA Tryd.prog hRR 1000) 84 7 vFewest a = true := all_lt (by kernel_rfl)
def hRT : Hook := orH hRR (numH 84 (grid2 13 7 vFewest))
theorem hRT_ok : HookOk Tryd.prog hRT := or_ok hRR_ok (grid2_ok (call_ok mixed noNum hRR_ok 1000) rtrials_tab)

def vChoices0 (n b : Nat) : Option Value := if n = 0 then (if b = 0 then none else some (.tuple #[.slice none 0 0, i64 4])) else none
theorem choices0_tab : ∀ a, a < 1 → row2 (callA Tryd.prog hTri 1000) 36 7 vChoices0 a = true := all_lt (by kernel_rfl)
theorem rchoices0_tab : ∀ a, a < 1 → row2 (callA Tryd.prog hRT 1000) 59 7 vChoices0 a = true := all_lt (by kernel_rfl)
theorem rchoices_tab : ∀ a, a < 13 → frow2 (some 3) (callA Tryd.prog hRT 1000) 59 7 vChoices a = true := all_lt (by kernel_rfl)

def vWorse (n b l : Nat) : Option Value :=
  if b = 0 then none else
  if Nat.beq l 0 || Nat.blt n l then some (.tuple #[.bool false, i64 2]) else
  if fewestN (l - 1) (b - 1) = fewestN (n - l) b then some (.tuple #[.bool false, i64 13]) else some (.tuple #[.bool (Nat.blt (fewestN (n - l) b) (fewestN (l - 1) (b - 1))), i64 0])
theorem worse_0 : row3 (callA Tryd.prog hFew 1000) 35 7 13 vWorse 0 = true := by kernel_rfl
theorem rworse_0 : row3 (callA Tryd.prog hRT 1000) 60 7 13 vWorse 0 = true := by kernel_rfl
theorem worse_1 : row3 (callA Tryd.prog hFew 1000) 35 7 13 vWorse 1 = true := by kernel_rfl
theorem rworse_1 : row3 (callA Tryd.prog hRT 1000) 60 7 13 vWorse 1 = true := by kernel_rfl
theorem worse_2 : row3 (callA Tryd.prog hFew 1000) 35 7 13 vWorse 2 = true := by kernel_rfl
theorem rworse_2 : row3 (callA Tryd.prog hRT 1000) 60 7 13 vWorse 2 = true := by kernel_rfl
theorem worse_3 : row3 (callA Tryd.prog hFew 1000) 35 7 13 vWorse 3 = true := by kernel_rfl
theorem rworse_3 : row3 (callA Tryd.prog hRT 1000) 60 7 13 vWorse 3 = true := by kernel_rfl
theorem worse_4 : row3 (callA Tryd.prog hFew 1000) 35 7 13 vWorse 4 = true := by kernel_rfl
theorem rworse_4 : row3 (callA Tryd.prog hRT 1000) 60 7 13 vWorse 4 = true := by kernel_rfl
theorem worse_5 : row3 (callA Tryd.prog hFew 1000) 35 7 13 vWorse 5 = true := by kernel_rfl
theorem rworse_5 : row3 (callA Tryd.prog hRT 1000) 60 7 13 vWorse 5 = true := by kernel_rfl
theorem worse_6 : row3 (callA Tryd.prog hFew 1000) 35 7 13 vWorse 6 = true := by kernel_rfl
theorem rworse_6 : row3 (callA Tryd.prog hRT 1000) 60 7 13 vWorse 6 = true := by kernel_rfl
theorem worse_7 : row3 (callA Tryd.prog hFew 1000) 35 7 13 vWorse 7 = true := by kernel_rfl
theorem rworse_7 : row3 (callA Tryd.prog hRT 1000) 60 7 13 vWorse 7 = true := by kernel_rfl
theorem worse_8 : row3 (callA Tryd.prog hFew 1000) 35 7 13 vWorse 8 = true := by kernel_rfl
theorem rworse_8 : row3 (callA Tryd.prog hRT 1000) 60 7 13 vWorse 8 = true := by kernel_rfl
theorem worse_9 : row3 (callA Tryd.prog hFew 1000) 35 7 13 vWorse 9 = true := by kernel_rfl
theorem rworse_9 : row3 (callA Tryd.prog hRT 1000) 60 7 13 vWorse 9 = true := by kernel_rfl
theorem worse_10 : row3 (callA Tryd.prog hFew 1000) 35 7 13 vWorse 10 = true := by kernel_rfl
theorem rworse_10 : row3 (callA Tryd.prog hRT 1000) 60 7 13 vWorse 10 = true := by kernel_rfl
theorem worse_11 : row3 (callA Tryd.prog hFew 1000) 35 7 13 vWorse 11 = true := by kernel_rfl
theorem rworse_11 : row3 (callA Tryd.prog hRT 1000) 60 7 13 vWorse 11 = true := by kernel_rfl
theorem worse_12 : row3 (callA Tryd.prog hFew 1000) 35 7 13 vWorse 12 = true := by kernel_rfl
theorem rworse_12 : row3 (callA Tryd.prog hRT 1000) 60 7 13 vWorse 12 = true := by kernel_rfl
theorem worse_tab : ∀ a, a < 13 → row3 (callA Tryd.prog hFew 1000) 35 7 13 vWorse a = true
  | 0, _ => worse_0
  | 1, _ => worse_1
  | 2, _ => worse_2
  | 3, _ => worse_3
  | 4, _ => worse_4
  | 5, _ => worse_5
  | 6, _ => worse_6
  | 7, _ => worse_7
  | 8, _ => worse_8
  | 9, _ => worse_9
  | 10, _ => worse_10
  | 11, _ => worse_11
  | 12, _ => worse_12
  | n + 13, h => by omega
theorem rworse_tab : ∀ a, a < 13 → row3 (callA Tryd.prog hRT 1000) 60 7 13 vWorse a = true
  | 0, _ => rworse_0
  | 1, _ => rworse_1
  | 2, _ => rworse_2
  | 3, _ => rworse_3
  | 4, _ => rworse_4
  | 5, _ => rworse_5
  | 6, _ => rworse_6
  | 7, _ => rworse_7
  | 8, _ => rworse_8
  | 9, _ => rworse_9
  | 10, _ => rworse_10
  | 11, _ => rworse_11
  | 12, _ => rworse_12
  | n + 13, h => by omega
end
end Go.Proofs.YtgnkjmgkfibipaaDoor
