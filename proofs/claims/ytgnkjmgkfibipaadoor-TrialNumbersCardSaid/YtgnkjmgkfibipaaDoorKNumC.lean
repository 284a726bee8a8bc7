/- The reference's numbers of plans: what the kernel sees. -/
import Derived.Test.YtgnkjmgkfibipaaDoorKNumA
namespace Go.Proofs.YtgnkjmgkfibipaaDoor
set_option linter.unusedVariables false
set_option linter.unusedSimpArgs false
open Go Go.R
set_option maxRecDepth 1000000
theorem cn_5_0 : cellN 5 0 = true := by kernel_rfl
theorem cn_5_1 : cellN 5 1 = true := by kernel_rfl
theorem cn_5_2 : cellN 5 2 = true := by kernel_rfl
theorem cn_5_3 : cellN 5 3 = true := by kernel_rfl
theorem cn_5_4 : cellN 5 4 = true := by kernel_rfl
theorem cn_5_5 : cellN 5 5 = true := by kernel_rfl
theorem cn_5_6 : cellN 5 6 = true := by kernel_rfl
theorem cn_5_7 : cellN 5 7 = true := by kernel_rfl
theorem cn_5_8 : cellN 5 8 = true := by kernel_rfl
theorem cn_5_9 : cellN 5 9 = true := by kernel_rfl
theorem cn_5_10 : cellN 5 10 = true := by kernel_rfl
theorem cn_5_11 : cellN 5 11 = true := by kernel_rfl
theorem cn_5_12 : cellN 5 12 = true := by kernel_rfl
theorem cn_5 : ∀ a, a < 13 → cellN 5 a = true
  | 0, _ => cn_5_0
  | 1, _ => cn_5_1
  | 2, _ => cn_5_2
  | 3, _ => cn_5_3
  | 4, _ => cn_5_4
  | 5, _ => cn_5_5
  | 6, _ => cn_5_6
  | 7, _ => cn_5_7
  | 8, _ => cn_5_8
  | 9, _ => cn_5_9
  | 10, _ => cn_5_10
  | 11, _ => cn_5_11
  | 12, _ => cn_5_12
  | a + 13, h => by omega
theorem cn_6_0 : cellN 6 0 = true := by kernel_rfl
theorem cn_6_1 : cellN 6 1 = true := by kernel_rfl
theorem cn_6_2 : cellN 6 2 = true := by kernel_rfl
theorem cn_6_3 : cellN 6 3 = true := by kernel_rfl
theorem cn_6_4 : cellN 6 4 = true := by kernel_rfl
theorem cn_6_5 : cellN 6 5 = true := by kernel_rfl
theorem cn_6_6 : cellN 6 6 = true := by kernel_rfl
theorem cn_6_7 : cellN 6 7 = true := by kernel_rfl
theorem cn_6_8 : cellN 6 8 = true := by kernel_rfl
theorem cn_6_9 : cellN 6 9 = true := by kernel_rfl
theorem cn_6_10 : cellN 6 10 = true := by kernel_rfl
theorem cn_6_11 : cellN 6 11 = true := by kernel_rfl
theorem cn_6_12 : cellN 6 12 = true := by kernel_rfl
theorem cn_6 : ∀ a, a < 13 → cellN 6 a = true
  | 0, _ => cn_6_0
  | 1, _ => cn_6_1
  | 2, _ => cn_6_2
  | 3, _ => cn_6_3
  | 4, _ => cn_6_4
  | 5, _ => cn_6_5
  | 6, _ => cn_6_6
  | 7, _ => cn_6_7
  | 8, _ => cn_6_8
  | 9, _ => cn_6_9
  | 10, _ => cn_6_10
  | 11, _ => cn_6_11
  | 12, _ => cn_6_12
  | a + 13, h => by omega
theorem cn_7_0 : cellN 7 0 = true := by kernel_rfl
theorem cn_7_1 : cellN 7 1 = true := by kernel_rfl
theorem cn_7_2 : cellN 7 2 = true := by kernel_rfl
theorem cn_7_3 : cellN 7 3 = true := by kernel_rfl
theorem cn_7_4 : cellN 7 4 = true := by kernel_rfl
theorem cn_7_5 : cellN 7 5 = true := by kernel_rfl
theorem cn_7_6 : cellN 7 6 = true := by kernel_rfl
theorem cn_7_7 : cellN 7 7 = true := by kernel_rfl
theorem cn_7_8 : cellN 7 8 = true := by kernel_rfl
theorem cn_7_9 : cellN 7 9 = true := by kernel_rfl
theorem cn_7_10 : cellN 7 10 = true := by kernel_rfl
theorem cn_7_11 : cellN 7 11 = true := by kernel_rfl
theorem cn_7_12 : cellN 7 12 = true := by kernel_rfl
theorem cn_7 : ∀ a, a < 13 → cellN 7 a = true
  | 0, _ => cn_7_0
  | 1, _ => cn_7_1
  | 2, _ => cn_7_2
  | 3, _ => cn_7_3
  | 4, _ => cn_7_4
  | 5, _ => cn_7_5
  | 6, _ => cn_7_6
  | 7, _ => cn_7_7
  | 8, _ => cn_7_8
  | 9, _ => cn_7_9
  | 10, _ => cn_7_10
  | 11, _ => cn_7_11
  | 12, _ => cn_7_12
  | a + 13, h => by omega
theorem cn_8_0 : cellN 8 0 = true := by kernel_rfl
theorem cn_8_1 : cellN 8 1 = true := by kernel_rfl
theorem cn_8_2 : cellN 8 2 = true := by kernel_rfl
theorem cn_8_3 : cellN 8 3 = true := by kernel_rfl
theorem cn_8_4 : cellN 8 4 = true := by kernel_rfl
theorem cn_8_5 : cellN 8 5 = true := by kernel_rfl
theorem cn_8_6 : cellN 8 6 = true := by kernel_rfl
theorem cn_8_7 : cellN 8 7 = true := by kernel_rfl
theorem cn_8_8 : cellN 8 8 = true := by kernel_rfl
theorem cn_8_9 : cellN 8 9 = true := by kernel_rfl
theorem cn_8_10 : cellN 8 10 = true := by kernel_rfl
theorem cn_8_11 : cellN 8 11 = true := by kernel_rfl
theorem cn_8_12 : cellN 8 12 = true := by kernel_rfl
theorem cn_8 : ∀ a, a < 13 → cellN 8 a = true
  | 0, _ => cn_8_0
  | 1, _ => cn_8_1
  | 2, _ => cn_8_2
  | 3, _ => cn_8_3
  | 4, _ => cn_8_4
  | 5, _ => cn_8_5
  | 6, _ => cn_8_6
  | 7, _ => cn_8_7
  | 8, _ => cn_8_8
  | 9, _ => cn_8_9
  | 10, _ => cn_8_10
  | 11, _ => cn_8_11
  | 12, _ => cn_8_12
  | a + 13, h => by omega
end Go.Proofs.YtgnkjmgkfibipaaDoor
