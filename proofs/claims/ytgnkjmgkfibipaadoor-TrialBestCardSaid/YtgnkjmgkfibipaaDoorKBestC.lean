/- TrialBest: what the kernel is to see. -/
import Derived.Test.YtgnkjmgkfibipaaDoorKBestB
import Derived.Test.YtgnkjmgkfibipaaDoorKRest
namespace Go.Proofs.YtgnkjmgkfibipaaDoor
set_option linter.unusedVariables false
set_option linter.unusedSimpArgs false
open Go Go.R
set_option maxRecDepth 1000000
noncomputable section

def kBW : CallF := callA Tryd.prog hBestW 1000
def kB : CallF := callA Tryd.prog hBest 1000
def kBo : CallF := callA Tryd.prog works 1000
def bodyB : Code := bodyOf Tryd.f15
def rowB (i : Nat) (l : List Nat) : Value := if l.isEmpty then .slice none 0 0 else .slice (some ⟨i, 0, some 1⟩) l.length l.length
def objB (l : List Nat) : AObj := .cells (l.map i64) true [] (some 3)
def lB (n b : Nat) (w : Bool) (e : Nat) : List (Nat × Value) :=
  [(0, i64 n), (1, i64 b), (7, rowB 0 (firstL n b)), (8, i64 0), (9, rowB 1 (firstL n b)), (10, i64 0), (11, rowB 2 (choicesN n b)), (12, i64 (if n = 0 then 4 else 0)), (13, rowB 3 (choicesN n b)), (14, i64 (if n = 0 then 4 else 0)),
   (15, .bool w), (16, i64 e), (17, .bool w), (18, i64 e)]
def oB (n b : Nat) : List AObj := if n = 0 then [] else [objB (firstL n b), objB (firstL n b), objB (choicesN n b), objB (choicesN n b)]
def wE (n b l : Nat) : Bool × Nat :=
  if Nat.beq l 0 || Nat.blt n l then (false, 2) else
  if fewestN (l - 1) (b - 1) = fewestN (n - l) b then (false, 13) else (Nat.blt (fewestN (n - l) b) (fewestN (l - 1) (b - 1)), 0)
def optsB : List (Bool × Nat) := [(false, 2), (false, 13), (false, 0), (true, 0)]
theorem wE_opts (n b l : Nat) : wE n b l ∈ optsB := by
  unfold wE
  split
  · simp [optsB]
  · split
    · simp [optsB]
    · cases Nat.blt (fewestN (n - l) b) (fewestN (l - 1) (b - 1)) <;> simp [optsB]
def chkB1 (n : Nat) : Bool := (List.range 7).all fun b => Nat.beq b 0 || (List.range 13).all fun l =>
  ends (execCh Tryd.prog kBW 0 1000 7 bodyB (entry Tryd.f15 [i64 n, i64 b, i64 l] AH.empty)) (fun af => sees (lB n b (wE n b l).1 (wE n b l).2) 114 (oB n b) af)
def chkB2 (n : Nat) : Bool := (List.range 7).all fun b => Nat.beq b 0 || optsB.all fun q =>
  okRun Tryd.prog Tryd.f15 (execA Tryd.prog kBW 1000 (behind 7 bodyB) (sth (lB n b q.1 q.2) 114 (oB n b))) (.bool true)
def chkB3 (n : Nat) (v : Value) : Bool := (List.range 7).all fun b => Nat.beq b 0 || okRun Tryd.prog Tryd.f15 (execA Tryd.prog kB 1000 bodyB (entry Tryd.f15 [i64 n, i64 b, v] AH.empty)) (.bool true)
def runBo (a b c : Value) : Bool := okRun Tryd.prog Tryd.f15 (execA Tryd.prog kBo 1000 bodyB (entry Tryd.f15 [a, b, c] AH.empty)) (.bool true)
end
end Go.Proofs.YtgnkjmgkfibipaaDoor
