/- The reference's numbers of plans: what the kernel sees. -/
import Derived.Test.YtgnkjmgkfibipaaDoorKNumA
namespace Go.Proofs.YtgnkjmgkfibipaaDoor
set_option linter.unusedVariables false
set_option linter.unusedSimpArgs false
open Go Go.R
set_option maxRecDepth 1000000
theorem cn_9_0 : cellN 9 0 = true := by kernel_rfl
theorem cn_9_1 : cellN 9 1 = true := by kernel_rfl
theorem cn_9_2 : cellN 9 2 = true := by kernel_rfl
theorem cn_9_3 : cellN 9 3 = true := by kernel_rfl
theorem cn_9_4 : cellN 9 4 = true := by kernel_rfl
theorem cn_9_5 : cellN 9 5 = true := by kernel_rfl
theorem cn_9_6 : cellN 9 6 = true := by kernel_rfl
theorem cn_9_7 : cellN 9 7 = true := by kernel_rfl
theorem cn_9_8 : cellN 9 8 = true := by kernel_rfl
theorem cn_9_9 : cellN 9 9 = true := by kernel_rfl
theorem cn_9_10 : cellN 9 10 = true := by kernel_rfl
theorem cn_9_11 : cellN 9 11 = true := by kernel_rfl
theorem cn_9_12 : cellN 9 12 = true := by kernel_rfl
theorem cn_9 : ∀ a, a < 13 → cellN 9 a = true
  | 0, _ => cn_9_0
  | 1, _ => cn_9_1
  | 2, _ => cn_9_2
  | 3, _ => cn_9_3
  | 4, _ => cn_9_4
  | 5, _ => cn_9_5
  | 6, _ => cn_9_6
  | 7, _ => cn_9_7
  | 8, _ => cn_9_8
  | 9, _ => cn_9_9
  | 10, _ => cn_9_10
  | 11, _ => cn_9_11
  | 12, _ => cn_9_12
  | a + 13, h => by omega
theorem cn_10_0 : cellN 10 0 = true := by kernel_rfl
theorem cn_10_1 : cellN 10 1 = true := by kernel_rfl
theorem cn_10_2 : cellN 10 2 = true := by kernel_rfl
theorem cn_10_3 : cellN 10 3 = true := by kernel_rfl
theorem cn_10_4 : cellN 10 4 = true := by kernel_rfl
theorem cn_10_5 : cellN 10 5 = true := by kernel_rfl
theorem cn_10_6 : cellN 10 6 = true := by kernel_rfl
theorem cn_10_7 : cellN 10 7 = true := by kernel_rfl
theorem cn_10_8 : cellN 10 8 = true := by kernel_rfl
theorem cn_10_9 : cellN 10 9 = true := by kernel_rfl
theorem cn_10_10 : cellN 10 10 = true := by kernel_rfl
theorem cn_10_11 : cellN 10 11 = true := by kernel_rfl
theorem cn_10_12 : cellN 10 12 = true := by kernel_rfl
theorem cn_10 : ∀ a, a < 13 → cellN 10 a = true
  | 0, _ => cn_10_0
  | 1, _ => cn_10_1
  | 2, _ => cn_10_2
  | 3, _ => cn_10_3
  | 4, _ => cn_10_4
  | 5, _ => cn_10_5
  | 6, _ => cn_10_6
  | 7, _ => cn_10_7
  | 8, _ => cn_10_8
  | 9, _ => cn_10_9
  | 10, _ => cn_10_10
  | 11, _ => cn_10_11
  | 12, _ => cn_10_12
  | a + 13, h => by omega
theorem cn_11_0 : cellN 11 0 = true := by kernel_rfl
theorem cn_11_1 : cellN 11 1 = true := by kernel_rfl
theorem cn_11_2 : cellN 11 2 = true := by kernel_rfl
theorem cn_11_3 : cellN 11 3 = true := by kernel_rfl
theorem cn_11_4 : cellN 11 4 = true := by kernel_rfl
theorem cn_11_5 : cellN 11 5 = true := by kernel_rfl
theorem cn_11_6 : cellN 11 6 = true := by kernel_rfl
theorem cn_11_7 : cellN 11 7 = true := by kernel_rfl
theorem cn_11_8 : cellN 11 8 = true := by kernel_rfl
theorem cn_11_9 : cellN 11 9 = true := by kernel_rfl
theorem cn_11_10 : cellN 11 10 = true := by kernel_rfl
theorem cn_11_11 : cellN 11 11 = true := by kernel_rfl
theorem cn_11_12 : cellN 11 12 = true := by kernel_rfl
theorem cn_11 : ∀ a, a < 13 → cellN 11 a = true
  | 0, _ => cn_11_0
  | 1, _ => cn_11_1
  | 2, _ => cn_11_2
  | 3, _ => cn_11_3
  | 4, _ => cn_11_4
  | 5, _ => cn_11_5
  | 6, _ => cn_11_6
  | 7, _ => cn_11_7
  | 8, _ => cn_11_8
  | 9, _ => cn_11_9
  | 10, _ => cn_11_10
  | 11, _ => cn_11_11
  | 12, _ => cn_11_12
  | a + 13, h => by omega
theorem cn_12_0 : cellN 12 0 = true := by kernel_rfl
theorem cn_12_1 : cellN 12 1 = true := by kernel_rfl
theorem cn_12_2 : cellN 12 2 = true := by kernel_rfl
theorem cn_12_3 : cellN 12 3 = true := by kernel_rfl
theorem cn_12_4 : cellN 12 4 = true := by kernel_rfl
theorem cn_12_5 : cellN 12 5 = true := by kernel_rfl
theorem cn_12_6 : cellN 12 6 = true := by kernel_rfl
theorem cn_12_7 : cellN 12 7 = true := by kernel_rfl
theorem cn_12_8 : cellN 12 8 = true := by kernel_rfl
theorem cn_12_9 : cellN 12 9 = true := by kernel_rfl
theorem cn_12_10 : cellN 12 10 = true := by kernel_rfl
theorem cn_12_11 : cellN 12 11 = true := by kernel_rfl
theorem cn_12_12 : cellN 12 12 = true := by kernel_rfl
theorem cn_12 : ∀ a, a < 13 → cellN 12 a = true
  | 0, _ => cn_12_0
  | 1, _ => cn_12_1
  | 2, _ => cn_12_2
  | 3, _ => cn_12_3
  | 4, _ => cn_12_4
  | 5, _ => cn_12_5
  | 6, _ => cn_12_6
  | 7, _ => cn_12_7
  | 8, _ => cn_12_8
  | 9, _ => cn_12_9
  | 10, _ => cn_12_10
  | 11, _ => cn_12_11
  | 12, _ => cn_12_12
  | a + 13, h => by omega
end Go.Proofs.YtgnkjmgkfibipaaDoor
