/- What Least's inner function answers, whatever it remembers: by the kernel, number by number. -/
import Derived.Test.YtgnkjmgkfibipaaDoorSWordedKCount
namespace Go.Proofs.YtgnkjmgkfibipaaDoor
set_option linter.unusedVariables false
set_option linter.unusedSimpArgs false
open Go Go.R
set_option maxRecDepth 1000000
noncomputable section

def cMl : AObj := .cells [.map (some 0)] true [] (some 112)
def cFl : AObj := .cells [.func (.func 110) #[] #[ptrV 1, ptrV 2]] true [] (some 35)
def rootsL : List AObj := [.ghost 1, cMl, cFl]
def vL (n b : Nat) : Option Value := if b = 0 then none else some (i64 (leastN n b))
def hL (N : Nat) : Hook := orH hReach (memoH 110 rootsL (ptrV 1) (ptrV 2) (grid2 N 7 vL))
end
end Go.Proofs.YtgnkjmgkfibipaaDoor
