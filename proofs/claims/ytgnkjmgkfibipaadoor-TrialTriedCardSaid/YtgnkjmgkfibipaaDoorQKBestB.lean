/- First plans and the reference's least sums: by the kernel. -/
import Derived.Test.YtgnkjmgkfibipaaDoorQKBestA
namespace Go.Proofs.YtgnkjmgkfibipaaDoor
set_option linter.unusedVariables false
set_option linter.unusedSimpArgs false
open Go Go.R
set_option maxRecDepth 1000000
noncomputable section

def vFirst (n b : Nat) : Option (List Value × Option Value) := if n = 0 then none else if b = 0 then none else some ((firstL n b).map i64, some (i64 0))
def vFirst0 (n b : Nat) : Option Value := if n = 0 then (if b = 0 then none else some (.tuple #[.slice none 0 0, i64 0])) else none
theorem first0_tab : ∀ a, a < 1 → row2 (callA Tryd.prog hTri 1000) 55 7 vFirst0 a = true := all_lt (by kernel_rfl)
theorem rfirst0_tab : ∀ a, a < 1 → row2 (callA Tryd.prog hRT 1000) 58 7 vFirst0 a = true := all_lt (by kernel_rfl)
theorem first_0 : frow2 (some 3) (callA Tryd.prog hTri 1000) 55 7 vFirst 0 = true := by kernel_rfl
theorem rfirst_0 : frow2 (some 3) (callA Tryd.prog hRT 1000) 58 7 vFirst 0 = true := by kernel_rfl
theorem first_1 : frow2 (some 3) (callA Tryd.prog hTri 1000) 55 7 vFirst 1 = true := by kernel_rfl
theorem rfirst_1 : frow2 (some 3) (callA Tryd.prog hRT 1000) 58 7 vFirst 1 = true := by kernel_rfl
theorem first_2 : frow2 (some 3) (callA Tryd.prog hTri 1000) 55 7 vFirst 2 = true := by kernel_rfl
theorem rfirst_2 : frow2 (some 3) (callA Tryd.prog hRT 1000) 58 7 vFirst 2 = true := by kernel_rfl
theorem first_3 : frow2 (some 3) (callA Tryd.prog hTri 1000) 55 7 vFirst 3 = true := by kernel_rfl
theorem rfirst_3 : frow2 (some 3) (callA Tryd.prog hRT 1000) 58 7 vFirst 3 = true := by kernel_rfl
theorem first_4 : frow2 (some 3) (callA Tryd.prog hTri 1000) 55 7 vFirst 4 = true := by kernel_rfl
theorem rfirst_4 : frow2 (some 3) (callA Tryd.prog hRT 1000) 58 7 vFirst 4 = true := by kernel_rfl
theorem first_5 : frow2 (some 3) (callA Tryd.prog hTri 1000) 55 7 vFirst 5 = true := by kernel_rfl
theorem rfirst_5 : frow2 (some 3) (callA Tryd.prog hRT 1000) 58 7 vFirst 5 = true := by kernel_rfl
theorem first_6 : frow2 (some 3) (callA Tryd.prog hTri 1000) 55 7 vFirst 6 = true := by kernel_rfl
theorem rfirst_6 : frow2 (some 3) (callA Tryd.prog hRT 1000) 58 7 vFirst 6 = true := by kernel_rfl
theorem first_7 : frow2 (some 3) (callA Tryd.prog hTri 1000) 55 7 vFirst 7 = true := by kernel_rfl
theorem rfirst_7 : frow2 (some 3) (callA Tryd.prog hRT 1000) 58 7 vFirst 7 = true := by kernel_rfl
theorem first_8 : frow2 (some 3) (callA Tryd.prog hTri 1000) 55 7 vFirst 8 = true := by kernel_rfl
theorem rfirst_8 : frow2 (some 3) (callA Tryd.prog hRT 1000) 58 7 vFirst 8 = true := by kernel_rfl
theorem first_9 : frow2 (some 3) (callA Tryd.prog hTri 1000) 55 7 vFirst 9 = true := by kernel_rfl
theorem rfirst_9 : frow2 (some 3) (callA Tryd.prog hRT 1000) 58 7 vFirst 9 = true := by kernel_rfl
theorem first_10 : frow2 (some 3) (callA Tryd.prog hTri 1000) 55 7 vFirst 10 = true := by kernel_rfl
theorem rfirst_10 : frow2 (some 3) (callA Tryd.prog hRT 1000) 58 7 vFirst 10 = true := by kernel_rfl
theorem first_11 : frow2 (some 3) (callA Tryd.prog hTri 1000) 55 7 vFirst 11 = true := by kernel_rfl
theorem rfirst_11 : frow2 (some 3) (callA Tryd.prog hRT 1000) 58 7 vFirst 11 = true := by kernel_rfl
theorem first_12 : frow2 (some 3) (callA Tryd.prog hTri 1000) 55 7 vFirst 12 = true := by kernel_rfl
theorem rfirst_12 : frow2 (some 3) (callA Tryd.prog hRT 1000) 58 7 vFirst 12 = true := by kernel_rfl
theorem first_tab : ∀ a, a < 13 → frow2 (some 3) (callA Tryd.prog hTri 1000) 55 7 vFirst a = true
  | 0, _ => first_0
  | 1, _ => first_1
  | 2, _ => first_2
  | 3, _ => first_3
  | 4, _ => first_4
  | 5, _ => first_5
  | 6, _ => first_6
  | 7, _ => first_7
  | 8, _ => first_8
  | 9, _ => first_9
  | 10, _ => first_10
  | 11, _ => first_11
  | 12, _ => first_12
  | n + 13, h => by omega
theorem rfirst_tab : ∀ a, a < 13 → frow2 (some 3) (callA Tryd.prog hRT 1000) 58 7 vFirst a = true
  | 0, _ => rfirst_0
  | 1, _ => rfirst_1
  | 2, _ => rfirst_2
  | 3, _ => rfirst_3
  | 4, _ => rfirst_4
  | 5, _ => rfirst_5
  | 6, _ => rfirst_6
  | 7, _ => rfirst_7
  | 8, _ => rfirst_8
  | 9, _ => rfirst_9
  | 10, _ => rfirst_10
  | 11, _ => rfirst_11
  | 12, _ => rfirst_12
  | n + 13, h => by omega

def sumsL (n b : Nat) : List Value := (List.range (n + 1)).map fun k => if Nat.beq b 0 && Nat.blt 0 k then .int .i64 (.negSucc 0) else i64 (leastN k b)
def vSums (n b : Nat) : Option (List Value × Option Value) := some (sumsL n b, none)
theorem sums_0 : fcol2 Tryd.prog hIn 112 (some 3) 13 vSums 0 = true := by kernel_rfl
theorem sums_1 : fcol2 Tryd.prog hIn 112 (some 3) 13 vSums 1 = true := by kernel_rfl
theorem sums_2 : fcol2 Tryd.prog hIn 112 (some 3) 13 vSums 2 = true := by kernel_rfl
theorem sums_3 : fcol2 Tryd.prog hIn 112 (some 3) 13 vSums 3 = true := by kernel_rfl
theorem sums_4 : fcol2 Tryd.prog hIn 112 (some 3) 13 vSums 4 = true := by kernel_rfl
theorem sums_5 : fcol2 Tryd.prog hIn 112 (some 3) 13 vSums 5 = true := by kernel_rfl
theorem sums_6 : fcol2 Tryd.prog hIn 112 (some 3) 13 vSums 6 = true := by kernel_rfl
theorem sums_col : ∀ N, N < 7 → fcol2 Tryd.prog hIn 112 (some 3) 13 vSums N = true
  | 0, _ => sums_0 | 1, _ => sums_1 | 2, _ => sums_2 | 3, _ => sums_3 | 4, _ => sums_4 | 5, _ => sums_5 | 6, _ => sums_6
  | n + 7, h => by omega
def hSum : Hook := orH hIn (freshH 112 (some 3) (fgrid2 13 7 vSums))
theorem hSum_ok : HookOk Tryd.prog hSum := or_ok hIn_ok (fstage2_local mixed noNum hIn_ok sums_col 7 (Nat.le_refl _)).1
theorem rleast_tab : ∀ a, a < 13 → row2 (callA Tryd.prog hSum 1000) 61 7 vLeast a = true := all_lt (by kernel_rfl)

/-- All contracts of TrialBest. -/
def hBest : Hook := orH works (orH (orH (freshH 36 (some 3) (fgrid2 13 7 vChoices)) (numH 36 (grid2 1 7 vChoices0))) (orH (orH (freshH 59 (some 3) (fgrid2 13 7 vChoices)) (numH 59 (grid2 1 7 vChoices0)))
  (orH (orH (freshH 55 (some 3) (fgrid2 13 7 vFirst)) (numH 55 (grid2 1 7 vFirst0))) (orH (orH (freshH 58 (some 3) (fgrid2 13 7 vFirst)) (numH 58 (grid2 1 7 vFirst0)))
  (orH (numH 57 (grid2 13 7 vLeast)) (numH 61 (grid2 13 7 vLeast)))))))
theorem hBest_ok : HookOk Tryd.prog hBest :=
  or_ok works_ok (or_ok (or_ok (fgrid2_ok (call_ok mixed noNum hTri_ok 1000) choices_tab) (grid2_ok (call_ok mixed noNum hTri_ok 1000) choices0_tab)) (or_ok (or_ok (fgrid2_ok (call_ok mixed noNum hRT_ok 1000) rchoices_tab) (grid2_ok (call_ok mixed noNum hRT_ok 1000) rchoices0_tab))
    (or_ok (or_ok (fgrid2_ok (call_ok mixed noNum hTri_ok 1000) first_tab) (grid2_ok (call_ok mixed noNum hTri_ok 1000) first0_tab)) (or_ok (or_ok (fgrid2_ok (call_ok mixed noNum hRT_ok 1000) rfirst_tab) (grid2_ok (call_ok mixed noNum hRT_ok 1000) rfirst0_tab))
    (or_ok least_ok (grid2_ok (call_ok mixed noNum hSum_ok 1000) rleast_tab))))))
/-- With the worse result too. -/
def hBestW : Hook := orH hBest (orH (numH 35 (grid3 13 7 13 vWorse)) (numH 60 (grid3 13 7 13 vWorse)))
theorem hBestW_ok : HookOk Tryd.prog hBestW := or_ok hBest_ok (or_ok (grid3_ok (call_ok mixed noNum hFew_ok 1000) worse_tab) (grid3_ok (call_ok mixed noNum hRT_ok 1000) rworse_tab))
end
end Go.Proofs.YtgnkjmgkfibipaaDoor
