/- TrialNumbers: what the kernel is to see. -/
import Derived.Test.YtgnkjmgkfibipaaDoorKNumB
import Derived.Test.YtgnkjmgkfibipaaDoorKNumC
import Derived.Test.YtgnkjmgkfibipaaDoorKNumD
import Derived.Test.YtgnkjmgkfibipaaDoorKTabs2
import Derived.Test.YtgnkjmgkfibipaaDoorKCountTop
namespace Go.Proofs.YtgnkjmgkfibipaaDoor
set_option linter.unusedVariables false
set_option linter.unusedSimpArgs false
open Go Go.R
set_option maxRecDepth 1000000
noncomputable section

theorem cn_all : ∀ N, N < 13 → ∀ a, a < 13 → cellN N a = true
  | 0, _ => cn_0
  | 1, _ => cn_1
  | 2, _ => cn_2
  | 3, _ => cn_3
  | 4, _ => cn_4
  | 5, _ => cn_5
  | 6, _ => cn_6
  | 7, _ => cn_7
  | 8, _ => cn_8
  | 9, _ => cn_9
  | 10, _ => cn_10
  | 11, _ => cn_11
  | 12, _ => cn_12
  | n + 13, h => by omega
def hCts : Hook := orH hInR (freshH 86 (some 3) (fgrid3 13 7 13 vCounts))
theorem hCts_ok : HookOk Tryd.prog hCts := or_ok hInR_ok (fstage3_local mixed noNum hInR_ok cn_all 13 (Nat.le_refl _)).1
theorem rcount_tab : ∀ a, a < 13 → row3 (callA Tryd.prog hCts 1000) 33 7 13 vCount a = true := all_lt (by kernel_rfl)
theorem rreach_tab : ∀ a, a < 7 → row2 (callA Tryd.prog hTrR 1000) 27 13 vReachT a = true := all_lt (by kernel_rfl)
theorem rtrials_tab : ∀ a, a < 13 → row2 (callA Tryd.prog hTrR 1000) 29 7 vTrials a = true := all_lt (by kernel_rfl)
theorem rblades_tab : ∀ a, a < 13 → row2 (callA Tryd.prog hTrR 1000) 31 13 vBlades a = true := all_lt (by kernel_rfl)

/-- All contracts of TrialNumbers. -/
def hNb : Hook := orH works (orH (orH (numH 26 (grid2 7 13 vReachT)) (numH 27 (grid2 7 13 vReachT))) (orH (orH (numH 28 (grid2 13 7 vTrials)) (numH 29 (grid2 13 7 vTrials)))
  (orH (orH (numH 30 (grid2 13 13 vBlades)) (numH 31 (grid2 13 13 vBlades))) (orH (numH 32 (grid3 13 7 13 vCount)) (numH 33 (grid3 13 7 13 vCount))))))
theorem hNb_ok : HookOk Tryd.prog hNb :=
  or_ok works_ok (or_ok (or_ok (grid2_ok (call_ok mixed noNum hFew_ok 1000) reachT_tab) (grid2_ok (call_ok mixed noNum hTrR_ok 1000) rreach_tab)) (or_ok (or_ok (grid2_ok (call_ok mixed noNum hFew_ok 1000) trials_tab) (grid2_ok (call_ok mixed noNum hTrR_ok 1000) rtrials_tab))
    (or_ok (or_ok (grid2_ok (call_ok mixed noNum hFew_ok 1000) blades_tab) (grid2_ok (call_ok mixed noNum hTrR_ok 1000) rblades_tab)) (or_ok count_ok (grid3_ok (call_ok mixed noNum hCts_ok 1000) rcount_tab)))))
def kNb : CallF := callA Tryd.prog hNb 1000
def bodyN : Code := bodyOf Tryd.f5
def runN (a b c : Value) : Bool := okRun Tryd.prog Tryd.f5 (execA Tryd.prog kNb 1000 bodyN (entry Tryd.f5 [a, b, c] AH.empty)) (.bool true)
/-- A number in its range, or one of those beyond: by its kind. -/
def big (lim k : Nat) : Value := .int .i64 (.ofNat (k + lim))
def neg (k : Nat) : Value := .int .i64 (.negSucc k)
/-- All blades and trials, by levels. -/
def chkN (v : Value) (j k : Nat) : Bool :=
  ((List.range 7).all fun b => ((List.range 13).all fun t => runN v (i64 b) (i64 t)) && (runN v (i64 b) (big 13 k) && runN v (i64 b) (neg k))) &&
  (((List.range 13).all fun t => runN v (big 7 j) (i64 t) && runN v (neg j) (i64 t)) && ((runN v (big 7 j) (big 13 k) && runN v (big 7 j) (neg k)) && (runN v (neg j) (big 13 k) && runN v (neg j) (neg k))))
end
end Go.Proofs.YtgnkjmgkfibipaaDoor
