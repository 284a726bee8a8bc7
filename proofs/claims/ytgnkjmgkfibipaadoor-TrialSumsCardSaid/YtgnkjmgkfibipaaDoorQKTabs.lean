/- What outside, reach, fewest, Trials and Choices answer at all numbers in their ranges: by the kernel. -/
import Derived.Test.YtgnkjmgkfibipaaDoorQKG0
import Derived.Test.YtgnkjmgkfibipaaDoorQRG5
namespace Go.Proofs.YtgnkjmgkfibipaaDoor
set_option linter.unusedVariables false
set_option linter.unusedSimpArgs false
open Go Go.R
set_option maxRecDepth 1000000
noncomputable section

def chooseN (n k : Nat) : Nat := (List.range k).foldl (fun a i => a * (n - i) / (i + 1)) 1
def sumN : List Nat → Nat
  | [] => 0
  | a :: l => a + sumN l
def reachN (b t : Nat) : Nat := sumN ((List.range (min b t)).map fun i => chooseN t (i + 1))
def firstN (p : Nat → Bool) : Nat → Nat → Nat
  | 0, n => n
  | f + 1, n => if p n then n else firstN p f (n + 1)
def fewestN (l b : Nat) : Nat := firstN (fun n => Nat.blt 12 n || Nat.ble l (reachN b n)) 14 0
def choicesN (n b : Nat) : List Nat :=
  let t := fewestN n b
  ((List.range n).map (· + 1)).filter fun l => Nat.ble (l - 1) (reachN (b - 1) (t - 1)) && Nat.ble (n - l) (reachN b (t - 1))

def vOut (n lo hi : Nat) : Option Value := some (.bool (Nat.blt n lo || Nat.blt hi n))
theorem out_tab : ∀ a, a < 14 → row3 (callA Tryd.prog works 1000) 74 2 14 vOut a = true := all_lt (by kernel_rfl)
def hOut : Hook := orH works (numH 74 (grid3 14 2 14 vOut))
theorem hOut_ok : HookOk Tryd.prog hOut := or_ok works_ok (grid3_ok (call_ok mixed noNum works_ok 1000) out_tab)

def vReach (b t : Nat) : Option Value := some (i64 (reachN b t))
theorem reach_tab : ∀ a, a < 7 → row2 (callA Tryd.prog hOut 1000) 80 13 vReach a = true := all_lt (by kernel_rfl)
def hReach : Hook := orH hOut (numH 80 (grid2 7 13 vReach))
theorem hReach_ok : HookOk Tryd.prog hReach := or_ok hOut_ok (grid2_ok (call_ok mixed noNum hOut_ok 1000) reach_tab)

def vFewest (l b : Nat) : Option Value := some (i64 (fewestN l b))
theorem fewest_tab : ∀ a, a < 13 → row2 (callA Tryd.prog hReach 1000) 83 7 vFewest a = true := all_lt (by kernel_rfl)
def hFew : Hook := orH hReach (numH 83 (grid2 13 7 vFewest))
theorem hFew_ok : HookOk Tryd.prog hFew := or_ok hReach_ok (grid2_ok (call_ok mixed noNum hReach_ok 1000) fewest_tab)

def vTrials (l b : Nat) : Option Value := if b = 0 then none else some (.tuple #[i64 (fewestN l b), i64 0])
theorem trials_tab : ∀ a, a < 13 → row2 (callA Tryd.prog hFew 1000) 28 7 vTrials a = true := all_lt (by kernel_rfl)
def hTri : Hook := orH hFew (numH 28 (grid2 13 7 vTrials))
theorem hTri_ok : HookOk Tryd.prog hTri := or_ok hFew_ok (grid2_ok (call_ok mixed noNum hFew_ok 1000) trials_tab)

def vChoices (n b : Nat) : Option (List Value × Option Value) := if n = 0 then none else if b = 0 then none else some ((choicesN n b).map i64, some (i64 0))
theorem choices_tab : ∀ a, a < 13 → frow2 (some 3) (callA Tryd.prog hTri 1000) 36 7 vChoices a = true := all_lt (by kernel_rfl)
def hCho : Hook := orH hTri (freshH 36 (some 3) (fgrid2 13 7 vChoices))
theorem hCho_ok : HookOk Tryd.prog hCho := or_ok hTri_ok (fgrid2_ok (call_ok mixed noNum hTri_ok 1000) choices_tab)
end
end Go.Proofs.YtgnkjmgkfibipaaDoor
