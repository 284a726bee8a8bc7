/- TrialSpelled: all lists of words in order, none the beginning of another one. -/
import Derived.Test.YtgnkjmgkfibipaaGreatDoorSSpelledKZB
namespace Go.Proofs.YtgnkjmgkfibipaaGreatDoor
set_option linter.unusedVariables false
set_option linter.unusedSimpArgs false
open Go Go.R
set_option maxRecDepth 1000000
noncomputable section

/-- The words of at most three letters. -/
def wordN : Nat → ByteArray
  | 0 => ⟨#[]⟩
  | 1 => ⟨#[98]⟩
  | 2 => ⟨#[98, 98]⟩
  | 3 => ⟨#[98, 98, 98]⟩
  | 4 => ⟨#[98, 98, 115]⟩
  | 5 => ⟨#[98, 115]⟩
  | 6 => ⟨#[98, 115, 98]⟩
  | 7 => ⟨#[98, 115, 115]⟩
  | 8 => ⟨#[115]⟩
  | 9 => ⟨#[115, 98]⟩
  | 10 => ⟨#[115, 98, 98]⟩
  | 11 => ⟨#[115, 98, 115]⟩
  | 12 => ⟨#[115, 115]⟩
  | 13 => ⟨#[115, 115, 98]⟩
  | _ => ⟨#[115, 115, 115]⟩
def gOf (l : List Nat) (i : Nat) : ByteArray := wordN (l.getD i 0)
noncomputable def closedS (K : Nat) (g : Nat → ByteArray) : Bool := okRun Tryz.prog Tryz.f4 (execA Tryz.prog (callA Tryz.prog works 1000) 1000 (behind 4 q4) (sth [(7, bldV 0 K)] 177 [rowS K g])) (.bool true)
noncomputable def chkS (l : List Nat) : Bool := cond (ltF (.ofNat (sumG (gOf l) l.length)) 8) (Nat.beq (readN l.length (gOf l)) 21) (closedS l.length (gOf l))
def badS : List Nat → Nat → Bool
  | [], _ => false
  | p :: _, c => !(bytesLt (wordN p) (wordN c)) || prefB (wordN c) (wordN p)
noncomputable def allS : Nat → List Nat → Bool
  | 0, acc => chkS acc.reverse
  | d + 1, acc => (List.range 15).all fun c => badS acc c || allS d (c :: acc)
theorem all1 : allS 1 [] = true := by kernel_rfl
theorem all2 : allS 2 [] = true := by kernel_rfl
theorem all3 : allS 3 [] = true := by kernel_rfl
end
end Go.Proofs.YtgnkjmgkfibipaaGreatDoor
