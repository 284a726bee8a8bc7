/- TopHalved, number by number: all of them. -/
import Derived.Test.YtbcjmmbmeebfgaaDoorKHalB
import Derived.Test.YtbcjmmbmeebfgaaDoorKHalC
import Derived.Test.YtbcjmmbmeebfgaaDoorKHalD
import Derived.Test.YtbcjmmbmeebfgaaDoorKHalE
import Derived.Test.YtbcjmmbmeebfgaaDoorKHalF
namespace Go.Proofs.YtbcjmmbmeebfgaaDoor
set_option linter.unusedVariables false
set_option linter.unusedSimpArgs false
open Go Go.R
theorem chkH_all : ∀ b q, 0 < b → b < 7 → q < b + 1 → chkH b q = true
  | 1, 0, _, _, _ => h1_0
  | 1, 1, _, _, _ => h1_1
  | 2, 0, _, _, _ => h2_0
  | 2, 1, _, _, _ => h2_1
  | 2, 2, _, _, _ => h2_2
  | 3, 0, _, _, _ => h3_0
  | 3, 1, _, _, _ => h3_1
  | 3, 2, _, _, _ => h3_2
  | 3, 3, _, _, _ => h3_3
  | 4, 0, _, _, _ => h4_0
  | 4, 1, _, _, _ => h4_1
  | 4, 2, _, _, _ => h4_2
  | 4, 3, _, _, _ => h4_3
  | 4, 4, _, _, _ => h4_4
  | 5, 0, _, _, _ => h5_0
  | 5, 1, _, _, _ => h5_1
  | 5, 2, _, _, _ => h5_2
  | 5, 3, _, _, _ => h5_3
  | 5, 4, _, _, _ => h5_4
  | 5, 5, _, _, _ => h5_5
  | 6, 0, _, _, _ => h6_0
  | 6, 1, _, _, _ => h6_1
  | 6, 2, _, _, _ => h6_2
  | 6, 3, _, _, _ => h6_3
  | 6, 4, _, _, _ => h6_4
  | 6, 5, _, _, _ => h6_5
  | 6, 6, _, _, _ => h6_6
  | 0, _, h, _, _ => absurd h (by omega)
  | 1, q + 2, _, _, h => absurd h (by omega)
  | 2, q + 3, _, _, h => absurd h (by omega)
  | 3, q + 4, _, _, h => absurd h (by omega)
  | 4, q + 5, _, _, h => absurd h (by omega)
  | 5, q + 6, _, _, h => absurd h (by omega)
  | 6, q + 7, _, _, h => absurd h (by omega)
  | b + 7, _, _, h, _ => absurd h (by omega)
end Go.Proofs.YtbcjmmbmeebfgaaDoor
