/- TrialReach, behind its first numbers: by the kernel, number by number. -/
import Derived.Test.YtgnkjmgkfibipaaDoorKTabs2
import Derived.Test.YtgnkjmgkfibipaaDoorKCountTop
import Derived.Test.YtgnkjmgkfibipaaDoorKRest
namespace Go.Proofs.YtgnkjmgkfibipaaDoor
set_option linter.unusedVariables false
set_option linter.unusedSimpArgs false
open Go Go.R
set_option maxRecDepth 1000000
noncomputable section
def hAll : Hook := orH hNum (numH 32 (grid3 13 7 13 vCount))
theorem hAll_ok : HookOk Tryd.prog hAll := or_ok hNum_ok count_ok
def kR : CallF := callA Tryd.prog hAll 1000
def bodyR : Code := bodyOf Tryd.f6
def chkR (b : Nat) : Bool := (List.range 13).all fun t => okRun Tryd.prog Tryd.f6 (execA Tryd.prog kR 1000 (behind 2 bodyR) (st [(5, i64 b), (6, i64 t)] 160)) (.bool true)
theorem r1 : chkR 1 = true := by kernel_rfl
theorem r2 : chkR 2 = true := by kernel_rfl
theorem r3 : chkR 3 = true := by kernel_rfl
theorem r4 : chkR 4 = true := by kernel_rfl
theorem r5 : chkR 5 = true := by kernel_rfl
theorem r6 : chkR 6 = true := by kernel_rfl
theorem chkR_all : ∀ n, 0 < n → n < 7 → chkR n = true
  | 1, _, _ => r1 | 2, _, _ => r2 | 3, _, _ => r3 | 4, _, _ => r4 | 5, _, _ => r5 | 6, _, _ => r6
  | 0, h, _ => by omega
  | n + 7, _, h => by omega

theorem reach_runs (x y : Int) (hx : 0 ≤ x ∧ x ≤ 255) (hy : 0 ≤ y ∧ y ≤ 255) :
    Runs Tryd.prog 0 bodyR (entry Tryd.f6 [.int .u8 x, .int .u8 y] AH.empty) (EndsAs Tryd.prog Tryd.f6 fun v' _ => v' = .bool true) := by
  have hk : CallOk Tryd.prog kR := call_ok mixed noNum hAll_ok 1000
  rw [show bodyR = .seq (hd bodyR) (.seq (hd (tl bodyR)) (behind 2 bodyR)) by kernel_rfl]
  refine Runs.seqObs (n := 10) mixed hk [(0, .int .u8 x), (1, .int .u8 y)] (sz := 160) (by kernel_rfl) (by kernel_rfl) ?_
  refine Runs.seqObs (n := 10) mixed hk [(5, .int .i64 (restI x (.ofNat 6))), (6, .int .i64 (restJ y (.ofNat 13)))] (sz := 160) (by kernel_rfl) (by kernel_rfl) ?_
  obtain ⟨b, hb, eb⟩ := rest_of hx.1 hx.2 (k := 6) (by decide) (by decide)
  obtain ⟨t, ht, et⟩ := restJ_of hy.1 hy.2 (k := 13) (by decide) (by decide)
  rw [eb, et]
  have hc := chkR_all (b + 1) (by omega) (by omega)
  simp only [chkR, List.all_eq_true, List.mem_range] at hc
  exact Runs.last mixed hk (Nat.zero_le _) (hc t ht)
end
end Go.Proofs.YtgnkjmgkfibipaaDoor
