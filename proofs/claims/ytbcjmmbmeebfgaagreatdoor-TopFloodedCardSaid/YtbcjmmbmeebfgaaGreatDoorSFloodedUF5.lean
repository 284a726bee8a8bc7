/- TopFlooded: the graphs of at most four places that occur, and what is plain about them. -/
import Derived.Test.YtbcjmmbmeebfgaaGreatDoorSFloodedUF4
namespace Go.Proofs.YtbcjmmbmeebfgaaGreatDoor
set_option linter.unusedVariables false
set_option linter.unusedSimpArgs false
open Go Go.R
set_option maxRecDepth 1000000
noncomputable section
/-- Who is next to whom, as bits i * n + j: what occurs among n places in order. -/
noncomputable def adjL : Nat → List Nat
  | 1 => [0]
  | 2 => [0, 6]
  | 3 => [0, 10, 68, 78, 160, 170, 228]
  | 4 => [0, 18, 260, 278, 576, 594, 836, 4104, 4122, 4680, 4698, 8320, 8338, 8580, 8896, 8914, 9156, 18432, 18450, 18692, 18710, 19008, 19026, 19268, 22536, 22554, 23112, 26752, 26770, 27030]
  | _ => []
noncomputable def pipesG (n : Nat) (bd : Nat → Bool) (nx : Nat → Nat → Bool) : List (Nat × Nat) := (List.range n).flatMap fun i => (if bd i then [(i, n)] else []) ++ ((List.range n).filter fun j => nx i j).map fun j => (i, j)
noncomputable def gOf (n e a : Nat) : List (Nat × Nat) := pipesG n (fun i => e.testBit i) (fun i j => a.testBit (i * n + j))
/-- Which nodes get away, by rounds over the pipes. -/
noncomputable def outS (n : Nat) (out : Nat → Bool) (p : Nat × Nat) : Nat → Bool := fun j => if Nat.beq j p.1 then (out p.1 || (Nat.blt p.2 n && out p.2)) else out j
noncomputable def outR (n : Nat) (l : List (Nat × Nat)) (out : Nat → Bool) : Nat → Bool := l.foldl (outS n) out
noncomputable def outN (n : Nat) (l : List (Nat × Nat)) (bd : Nat → Bool) : Nat → Nat → Bool
  | 0 => bd
  | r + 1 => outR n l (outN n l bd r)
noncomputable def stuckL (n : Nat) (l : List (Nat × Nat)) (bd : Nat → Bool) : List Nat := (List.range n).filter fun i => !(outN n l bd n i)
noncomputable def fitB (n : Nat) (l : List (Nat × Nat)) : Bool := Nat.ble 1 n && Nat.ble n 6 && Nat.ble l.length 14 && l.all (fun p => Nat.blt p.1 n && Nat.ble p.2 n && !(Nat.beq p.1 p.2)) && decide l.Nodup
theorem fit_of {n : Nat} {l : List (Nat × Nat)} (h : fitB n l = true) : FitP n l := by
  unfold fitB at h
  simp only [Bool.and_eq_true] at h
  obtain ⟨⟨⟨⟨h1, h2⟩, h3⟩, h4⟩, h5⟩ := h
  refine ⟨Nat.le_of_ble_eq_true h1, Nat.le_of_ble_eq_true h2, Nat.le_of_ble_eq_true h3, fun p hp => ?_, of_decide_eq_true h5⟩
  have := List.all_eq_true.1 h4 p hp
  simp only [Bool.and_eq_true] at this
  obtain ⟨⟨a, b⟩, c⟩ := this
  refine ⟨blt_lt a, Nat.le_of_ble_eq_true b, fun e => ?_⟩
  rw [e, Nat.beq_refl] at c; cases c
noncomputable def trapB (n : Nat) (l : List (Nat × Nat)) : Bool := (List.range (trapS n l).2).all fun j => Nat.blt 0 ((trapS n l).1 j) && Nat.blt ((trapS n l).1 j) 16
theorem trap_of {n : Nat} {l : List (Nat × Nat)} (h : trapB n l = true) : TrapOk n l := fun j hj => by
  have := List.all_eq_true.1 h j (List.mem_range.2 hj)
  rw [Bool.and_eq_true] at this
  exact ⟨blt_lt this.1, blt_lt this.2⟩
noncomputable def plainB (n : Nat) (l : List (Nat × Nat)) (bd : Nat → Bool) : Bool := fitB n l && trapB n l && (bitsN (stuckN n l) == stuckL n l bd) && (Nat.beq (trapS n l).2 0 == (stuckL n l bd).isEmpty)
theorem plain_1 : ((adjL 1).all fun a => (List.range 2).all fun e => plainB 1 (gOf 1 e a) (fun i => e.testBit i)) = true := by kernel_rfl
theorem plain_2 : ((adjL 2).all fun a => (List.range 4).all fun e => plainB 2 (gOf 2 e a) (fun i => e.testBit i)) = true := by kernel_rfl
theorem plain_3 : ((adjL 3).all fun a => (List.range 8).all fun e => plainB 3 (gOf 3 e a) (fun i => e.testBit i)) = true := by kernel_rfl
end
end Go.Proofs.YtbcjmmbmeebfgaaGreatDoor

/- TopFlooded: the counts of the graphs: determinants; plain facts of four places. -/
namespace Go.Proofs.YtbcjmmbmeebfgaaGreatDoor
set_option linter.unusedVariables false
set_option linter.unusedSimpArgs false
open Go Go.R
set_option maxRecDepth 1000000
noncomputable section
noncomputable def detN : Nat → (Nat → Nat → Int) → Int
  | 0, _ => 1
  | n + 1, M => (List.range (n + 1)).foldl (fun s j => s + (if Nat.beq (j % 2) 0 then 1 else -1) * M 0 j * detN n (fun r c => M (r + 1) (if Nat.blt c j then c else c + 1))) 0
noncomputable def matN (l : List (Nat × Nat)) (i j : Nat) : Int := l.foldl (fun s p => s + (if Nat.beq p.1 i then (if Nat.beq j i then 1 else 0) - (if Nat.beq p.2 j then 1 else 0) else 0)) 0
noncomputable def cntV (n : Nat) (l : List (Nat × Nat)) : Int := detN n (matN l)
noncomputable def detB (n : Nat) (l : List (Nat × Nat)) (bd : Nat → Bool) : Bool := eqF (cntV n l) 0 == !((stuckL n l bd).isEmpty)
noncomputable def cntB (n cap a : Nat) : Bool := (List.range (2 ^ n)).all fun e => ok8 n cap (gOf n e a) (cntV n (gOf n e a))
theorem plain_4 : ((adjL 4).all fun a => (List.range 16).all fun e => plainB 4 (gOf 4 e a) (fun i => e.testBit i)) = true := by kernel_rfl
theorem det_1 : ((adjL 1).all fun a => (List.range 2).all fun e => detB 1 (gOf 1 e a) (fun i => e.testBit i)) = true := by kernel_rfl
theorem det_2 : ((adjL 2).all fun a => (List.range 4).all fun e => detB 2 (gOf 2 e a) (fun i => e.testBit i)) = true := by kernel_rfl
theorem det_3 : ((adjL 3).all fun a => (List.range 8).all fun e => detB 3 (gOf 3 e a) (fun i => e.testBit i)) = true := by kernel_rfl
theorem det_4 : ((adjL 4).all fun a => (List.range 16).all fun e => detB 4 (gOf 4 e a) (fun i => e.testBit i)) = true := by kernel_rfl
theorem cnt_1_0 (cap : Nat) : cntB 1 cap 0 = true := by kernel_rfl
theorem cnt_2_0 (cap : Nat) : cntB 2 cap 0 = true := by kernel_rfl
theorem cnt_2_6 (cap : Nat) : cntB 2 cap 6 = true := by kernel_rfl
end
end Go.Proofs.YtbcjmmbmeebfgaaGreatDoor
