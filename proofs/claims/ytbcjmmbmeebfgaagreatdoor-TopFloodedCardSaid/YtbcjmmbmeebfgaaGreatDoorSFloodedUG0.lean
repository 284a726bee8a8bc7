/- The program's facts that the machine wants. -/
import Derived.Test.YtbcjmmbmeebfgaaGreatDoorRows
import Derived.Test.YtbcjmmbmeebfgaaGreatDoorSFloodedRTab
import Derived.Shelf.Spec.TrailingZeros
import Derived.KernelRfl
import Derived.ProofKit
import Derived.OpenShut
import Derived.ChangeShapes
namespace Go.Proofs.YtbcjmmbmeebfgaaGreatDoor
set_option linter.unusedVariables false
set_option linter.unusedSimpArgs false
open Go Go.R
set_option maxRecDepth 100000

noncomputable def ids : Ids := { noEscape := none, indexByteS := none, countS := none, makeNoZero := none, byte := 5 }
theorem mixed : Tryz.prog.follows .mixedOrders = true := by kernel_rfl
theorem noNum : NoNum Tryz.prog := noNum_of (by kernel_rfl)
theorem entries : ExtOk Tryz.prog ids where
  noEscape := fun f h => by cases h
  indexByteS := fun f h => by cases h
  countS := fun f h => by cases h
  makeNoZero := fun f h => by cases h
noncomputable def Tryz.tzR : Go.Shelf.Ren := ⟨fun | 27 => 52 | 28 => 71 | 29 => 72 | n => n, fun | 22 => 82 | 25 => 70 | 27 => 108 | 53 => 128 | 54 => 129 | n => n, fun | n => n⟩
theorem Tryz.tzI : Go.Proofs.Lays7.n27 Tryz.prog Tryz.tzR where
  mixed := by kernel_rfl
  f27 := Tryz.func52.trans (congrArg some (by kernel_rfl))
  f28 := Tryz.func71.trans (congrArg some (by kernel_rfl))
  f29 := Tryz.func72.trans (congrArg some (by kernel_rfl))
  t0 := Tryz.underlying0
  a0 := Tryz.isAgg0
  z0 := Tryz.sizeOf0
  v0 := Tryz.zeroValue0
  i0 := by kernel_rfl
  t3 := Tryz.underlying3
  a3 := Tryz.isAgg3
  z3 := Tryz.sizeOf3
  v3 := Tryz.zeroValue3
  i3 := by kernel_rfl
  t4 := Tryz.underlying4
  a4 := Tryz.isAgg4
  z4 := Tryz.sizeOf4
  v4 := Tryz.zeroValue4
  i4 := by kernel_rfl
  t5 := Tryz.underlying5
  a5 := Tryz.isAgg5
  z5 := Tryz.sizeOf5
  v5 := Tryz.zeroValue5
  i5 := by kernel_rfl
  t22 := Tryz.underlying82
  a22 := Tryz.isAgg82
  z22 := Tryz.sizeOf82
  v22 := Tryz.zeroValue82
  i22 := by kernel_rfl
  t25 := Tryz.underlying70
  a25 := Tryz.isAgg70
  z25 := Tryz.sizeOf70
  v25 := Tryz.zeroValue70
  i25 := by kernel_rfl
  t27 := Tryz.underlying108
  a27 := Tryz.isAgg108
  z27 := Tryz.sizeOf108
  v27 := Tryz.zeroValue108
  i27 := by kernel_rfl
  t53 := Tryz.underlying128
  a53 := Tryz.isAgg128
  z53 := Tryz.sizeOf128
  v53 := Tryz.zeroValue128
  i53 := by kernel_rfl
  t54 := Tryz.underlying129
  a54 := Tryz.isAgg129
  z54 := Tryz.sizeOf129
  g0 := by kernel_rfl
  g1 := by kernel_rfl
theorem tz_hook : HookOk Tryz.prog (tzH 52) :=
  tz_ok noNum Tryz.func52 (by kernel_rfl) (g := 1) (tab := Lib.deBruijn64tab) (List.Mem.head _) fun x hx w hT => Any7.bits_TrailingZeros Tryz.tzI x hx w hT
/-- Calls of functions without a body, and bits.TrailingZeros. -/
noncomputable def hk0 : Hook := orH (extA ids) (tzH 52)
theorem hooks : HookOk Tryz.prog hk0 := or_ok (ext_ok entries) tz_hook
end Go.Proofs.YtbcjmmbmeebfgaaGreatDoor

/- The examples that the law ends in: the machine's answers, by the kernel; and their contracts. -/
namespace Go.Proofs.YtbcjmmbmeebfgaaGreatDoor
set_option linter.unusedVariables false
set_option linter.unusedSimpArgs false
open Go Go.R
set_option maxRecDepth 1000000
noncomputable section
theorem seams_runs : says (callA Tryz.prog hk0 (99999 + 1) 42 [] AH.empty) (.bool true) = true := by kernel_rfl
noncomputable def hk1 : Hook := orH hk0 (closedH 42 [] (.bool true))
theorem hk1_ok : HookOk Tryz.prog hk1 := or_ok hooks (closed_ok mixed noNum hooks Tryz.func42 (by kernel_rfl) (by kernel_rfl) (by kernel_rfl) seams_runs)
theorem drains_runs : says (callA Tryz.prog hk1 (99999 + 1) 15 [] AH.empty) (.bool true) = true := by kernel_rfl
noncomputable def hk2 : Hook := orH hk1 (closedH 15 [] (.bool true))
theorem hk2_ok : HookOk Tryz.prog hk2 := or_ok hk1_ok (closed_ok mixed noNum hk1_ok Tryz.func15 (by kernel_rfl) (by kernel_rfl) (by kernel_rfl) drains_runs)
theorem trials_runs : says (callA Tryz.prog hk2 (99999 + 1) 21 [] AH.empty) (.bool true) = true := by kernel_rfl
noncomputable def hk3 : Hook := orH hk2 (closedH 21 [] (.bool true))
theorem hk3_ok : HookOk Tryz.prog hk3 := or_ok hk2_ok (closed_ok mixed noNum hk2_ok Tryz.func21 (by kernel_rfl) (by kernel_rfl) (by kernel_rfl) trials_runs)
end
end Go.Proofs.YtbcjmmbmeebfgaaGreatDoor

/- An argument that is an array of eight bytes: opened, and shut again. -/
namespace Go.Proofs.YtbcjmmbmeebfgaaGreatDoor
set_option linter.unusedVariables false
set_option linter.unusedSimpArgs false
open Go Go.ChangeShapes Go.WideShapes Go.ChangeAt
set_option maxRecDepth 100000

end Go.Proofs.YtbcjmmbmeebfgaaGreatDoor
