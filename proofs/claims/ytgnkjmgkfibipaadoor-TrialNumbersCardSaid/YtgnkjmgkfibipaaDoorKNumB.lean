/- The reference's numbers of plans: what the kernel sees. -/
import Derived.Test.YtgnkjmgkfibipaaDoorKNumA
namespace Go.Proofs.YtgnkjmgkfibipaaDoor
set_option linter.unusedVariables false
set_option linter.unusedSimpArgs false
open Go Go.R
set_option maxRecDepth 1000000
theorem cn_0_0 : cellN 0 0 = true := by kernel_rfl
theorem cn_0_1 : cellN 0 1 = true := by kernel_rfl
theorem cn_0_2 : cellN 0 2 = true := by kernel_rfl
theorem cn_0_3 : cellN 0 3 = true := by kernel_rfl
theorem cn_0_4 : cellN 0 4 = true := by kernel_rfl
theorem cn_0_5 : cellN 0 5 = true := by kernel_rfl
theorem cn_0_6 : cellN 0 6 = true := by kernel_rfl
theorem cn_0_7 : cellN 0 7 = true := by kernel_rfl
theorem cn_0_8 : cellN 0 8 = true := by kernel_rfl
theorem cn_0_9 : cellN 0 9 = true := by kernel_rfl
theorem cn_0_10 : cellN 0 10 = true := by kernel_rfl
theorem cn_0_11 : cellN 0 11 = true := by kernel_rfl
theorem cn_0_12 : cellN 0 12 = true := by kernel_rfl
theorem cn_0 : ∀ a, a < 13 → cellN 0 a = true
  | 0, _ => cn_0_0
  | 1, _ => cn_0_1
  | 2, _ => cn_0_2
  | 3, _ => cn_0_3
  | 4, _ => cn_0_4
  | 5, _ => cn_0_5
  | 6, _ => cn_0_6
  | 7, _ => cn_0_7
  | 8, _ => cn_0_8
  | 9, _ => cn_0_9
  | 10, _ => cn_0_10
  | 11, _ => cn_0_11
  | 12, _ => cn_0_12
  | a + 13, h => by omega
theorem cn_1_0 : cellN 1 0 = true := by kernel_rfl
theorem cn_1_1 : cellN 1 1 = true := by kernel_rfl
theorem cn_1_2 : cellN 1 2 = true := by kernel_rfl
theorem cn_1_3 : cellN 1 3 = true := by kernel_rfl
theorem cn_1_4 : cellN 1 4 = true := by kernel_rfl
theorem cn_1_5 : cellN 1 5 = true := by kernel_rfl
theorem cn_1_6 : cellN 1 6 = true := by kernel_rfl
theorem cn_1_7 : cellN 1 7 = true := by kernel_rfl
theorem cn_1_8 : cellN 1 8 = true := by kernel_rfl
theorem cn_1_9 : cellN 1 9 = true := by kernel_rfl
theorem cn_1_10 : cellN 1 10 = true := by kernel_rfl
theorem cn_1_11 : cellN 1 11 = true := by kernel_rfl
theorem cn_1_12 : cellN 1 12 = true := by kernel_rfl
theorem cn_1 : ∀ a, a < 13 → cellN 1 a = true
  | 0, _ => cn_1_0
  | 1, _ => cn_1_1
  | 2, _ => cn_1_2
  | 3, _ => cn_1_3
  | 4, _ => cn_1_4
  | 5, _ => cn_1_5
  | 6, _ => cn_1_6
  | 7, _ => cn_1_7
  | 8, _ => cn_1_8
  | 9, _ => cn_1_9
  | 10, _ => cn_1_10
  | 11, _ => cn_1_11
  | 12, _ => cn_1_12
  | a + 13, h => by omega
theorem cn_2_0 : cellN 2 0 = true := by kernel_rfl
theorem cn_2_1 : cellN 2 1 = true := by kernel_rfl
theorem cn_2_2 : cellN 2 2 = true := by kernel_rfl
theorem cn_2_3 : cellN 2 3 = true := by kernel_rfl
theorem cn_2_4 : cellN 2 4 = true := by kernel_rfl
theorem cn_2_5 : cellN 2 5 = true := by kernel_rfl
theorem cn_2_6 : cellN 2 6 = true := by kernel_rfl
theorem cn_2_7 : cellN 2 7 = true := by kernel_rfl
theorem cn_2_8 : cellN 2 8 = true := by kernel_rfl
theorem cn_2_9 : cellN 2 9 = true := by kernel_rfl
theorem cn_2_10 : cellN 2 10 = true := by kernel_rfl
theorem cn_2_11 : cellN 2 11 = true := by kernel_rfl
theorem cn_2_12 : cellN 2 12 = true := by kernel_rfl
theorem cn_2 : ∀ a, a < 13 → cellN 2 a = true
  | 0, _ => cn_2_0
  | 1, _ => cn_2_1
  | 2, _ => cn_2_2
  | 3, _ => cn_2_3
  | 4, _ => cn_2_4
  | 5, _ => cn_2_5
  | 6, _ => cn_2_6
  | 7, _ => cn_2_7
  | 8, _ => cn_2_8
  | 9, _ => cn_2_9
  | 10, _ => cn_2_10
  | 11, _ => cn_2_11
  | 12, _ => cn_2_12
  | a + 13, h => by omega
theorem cn_3_0 : cellN 3 0 = true := by kernel_rfl
theorem cn_3_1 : cellN 3 1 = true := by kernel_rfl
theorem cn_3_2 : cellN 3 2 = true := by kernel_rfl
theorem cn_3_3 : cellN 3 3 = true := by kernel_rfl
theorem cn_3_4 : cellN 3 4 = true := by kernel_rfl
theorem cn_3_5 : cellN 3 5 = true := by kernel_rfl
theorem cn_3_6 : cellN 3 6 = true := by kernel_rfl
theorem cn_3_7 : cellN 3 7 = true := by kernel_rfl
theorem cn_3_8 : cellN 3 8 = true := by kernel_rfl
theorem cn_3_9 : cellN 3 9 = true := by kernel_rfl
theorem cn_3_10 : cellN 3 10 = true := by kernel_rfl
theorem cn_3_11 : cellN 3 11 = true := by kernel_rfl
theorem cn_3_12 : cellN 3 12 = true := by kernel_rfl
theorem cn_3 : ∀ a, a < 13 → cellN 3 a = true
  | 0, _ => cn_3_0
  | 1, _ => cn_3_1
  | 2, _ => cn_3_2
  | 3, _ => cn_3_3
  | 4, _ => cn_3_4
  | 5, _ => cn_3_5
  | 6, _ => cn_3_6
  | 7, _ => cn_3_7
  | 8, _ => cn_3_8
  | 9, _ => cn_3_9
  | 10, _ => cn_3_10
  | 11, _ => cn_3_11
  | 12, _ => cn_3_12
  | a + 13, h => by omega
theorem cn_4_0 : cellN 4 0 = true := by kernel_rfl
theorem cn_4_1 : cellN 4 1 = true := by kernel_rfl
theorem cn_4_2 : cellN 4 2 = true := by kernel_rfl
theorem cn_4_3 : cellN 4 3 = true := by kernel_rfl
theorem cn_4_4 : cellN 4 4 = true := by kernel_rfl
theorem cn_4_5 : cellN 4 5 = true := by kernel_rfl
theorem cn_4_6 : cellN 4 6 = true := by kernel_rfl
theorem cn_4_7 : cellN 4 7 = true := by kernel_rfl
theorem cn_4_8 : cellN 4 8 = true := by kernel_rfl
theorem cn_4_9 : cellN 4 9 = true := by kernel_rfl
theorem cn_4_10 : cellN 4 10 = true := by kernel_rfl
theorem cn_4_11 : cellN 4 11 = true := by kernel_rfl
theorem cn_4_12 : cellN 4 12 = true := by kernel_rfl
theorem cn_4 : ∀ a, a < 13 → cellN 4 a = true
  | 0, _ => cn_4_0
  | 1, _ => cn_4_1
  | 2, _ => cn_4_2
  | 3, _ => cn_4_3
  | 4, _ => cn_4_4
  | 5, _ => cn_4_5
  | 6, _ => cn_4_6
  | 7, _ => cn_4_7
  | 8, _ => cn_4_8
  | 9, _ => cn_4_9
  | 10, _ => cn_4_10
  | 11, _ => cn_4_11
  | 12, _ => cn_4_12
  | a + 13, h => by omega
end Go.Proofs.YtgnkjmgkfibipaaDoor
