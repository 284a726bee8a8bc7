/- Whether a set of galleries leaves no place: the closures of the search for a shortest set. -/
import Derived.Test.YtbcjmmbmeebfgaaGreatDoorSFloodedUG4
namespace Go.Proofs.YtbcjmmbmeebfgaaGreatDoor
set_option linter.unusedVariables false
set_option linter.unusedSimpArgs false
open Go Go.R
set_option maxRecDepth 1000000
noncomputable section

noncomputable def fnG : Value := .func (.func 48) #[] #[ptrV 2]
noncomputable def boxN (m : Nat) : AObj := .cells [i64 m] true [] (some 3)
noncomputable def goodO : AObj := .cells [fnG] true [] (some 99)
noncomputable def bestO (v : Value) : AObj := .cells [v] true [] (some 37)
noncomputable def isO (b : Bool) : AObj := .cells [.bool b] true [] (some 4)
theorem cloO_one {k : Nat} {v : Value} {lv : Bool} {ty : Option TypeId} (h : Clo k v) : CloO k (.cells [v] lv [] ty) := ⟨fun u hu => by rw [List.mem_singleton.1 hu]; exact h, fun j hj => by cases hj⟩
noncomputable def Ln (k m : Nat) (A B C : Nat → Int) : List AObj := [viewG m A B C, rowAr m A B C, srvO k 1 m, boxN m, goodO, bestO (.slice none 0 0), isO false]
noncomputable def Lf (k m : Nat) (A B C : Nat → Int) (l : List Nat) : List AObj := [viewG m A B C, rowAr m A B C, srvO k 1 m, boxN m, goodO, bestO (slR 7 l.length), isO true, rowN l]
theorem slR_clo {k i n : Nat} (h : i < k) : Clo k (slR i n) := clo_of 10 k _ (by
  show (plainV _ || Nat.blt i k) = true
  rw [Bool.or_eq_true]; exact .inr (by rw [Nat.blt_eq]; exact h))
end
end Go.Proofs.YtbcjmmbmeebfgaaGreatDoor

/- One step of the search for a shortest set. -/
namespace Go.Proofs.YtbcjmmbmeebfgaaGreatDoor
set_option linter.unusedVariables false
set_option linter.unusedSimpArgs false
open Go Go.R
set_option maxRecDepth 1000000
noncomputable section
end
end Go.Proofs.YtbcjmmbmeebfgaaGreatDoor
