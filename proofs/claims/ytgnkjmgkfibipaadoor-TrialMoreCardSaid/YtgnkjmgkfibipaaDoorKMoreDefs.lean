/- TrialMore: what the kernel is to see. -/
import Derived.Test.YtgnkjmgkfibipaaDoorKTabs2
import Derived.Test.YtgnkjmgkfibipaaDoorKCountTop
import Derived.Test.YtgnkjmgkfibipaaDoorKLeastTop
import Derived.Test.YtgnkjmgkfibipaaDoorKRest
namespace Go.Proofs.YtgnkjmgkfibipaaDoor
set_option linter.unusedVariables false
set_option linter.unusedSimpArgs false
open Go Go.R
set_option maxRecDepth 1000000
noncomputable section
def hMore : Hook := orH hNum (orH (numH 32 (grid3 13 7 13 vCount)) (numH 57 (grid2 13 7 vLeast)))
theorem hMore_ok : HookOk Tryd.prog hMore := or_ok hNum_ok (or_ok count_ok least_ok)
def kM : CallF := callA Tryd.prog hMore 1000
def bodyM : Code := bodyOf Tryd.f14
def chkM (n : Nat) : Bool := (List.range 5).all fun b => (List.range 12).all fun t => okRun Tryd.prog Tryd.f14 (execA Tryd.prog kM 1000 (behind 2 bodyM) (st [(7, i64 n), (8, i64 (b + 1)), (9, i64 t)] 202)) (.bool true)
end
end Go.Proofs.YtgnkjmgkfibipaaDoor
