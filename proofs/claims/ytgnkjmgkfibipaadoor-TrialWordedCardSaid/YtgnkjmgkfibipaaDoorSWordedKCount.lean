/- What Count's inner function answers, whatever it remembers: by the kernel, number by number. -/
import Derived.Test.YtgnkjmgkfibipaaDoorSWordedKTabs
import Derived.Test.YtgnkjmgkfibipaaDoorSWordedRG5
namespace Go.Proofs.YtgnkjmgkfibipaaDoor
set_option linter.unusedVariables false
set_option linter.unusedSimpArgs false
open Go Go.R
set_option maxRecDepth 1000000
noncomputable section

def cM : AObj := .cells [.map (some 0)] true [] (some 88)
def cF : AObj := .cells [.func (.func 85) #[] #[ptrV 1, ptrV 2]] true [] (some 89)
def rootsC : List AObj := [.ghost 0, cM, cF]
def vC (n b t : Nat) : Option Value := some (i64 (countN n b t))
def hC (N : Nat) : Hook := orH hReach (memoH 85 rootsC (ptrV 1) (ptrV 2) (grid3 N 7 13 vC))
end
end Go.Proofs.YtgnkjmgkfibipaaDoor
