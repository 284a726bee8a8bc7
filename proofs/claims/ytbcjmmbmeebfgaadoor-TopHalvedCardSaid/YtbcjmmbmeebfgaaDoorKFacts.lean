/- The program's facts that the machine wants. -/
import Derived.Test.YtbcjmmbmeebfgaaDoorRows
import Derived.Test.YtbcjmmbmeebfgaaDoorRTab
import Derived.Shelf.Spec.TrailingZeros
import Derived.KernelRfl
namespace Go.Proofs.YtbcjmmbmeebfgaaDoor
set_option linter.unusedVariables false
set_option linter.unusedSimpArgs false
open Go Go.R
set_option maxRecDepth 100000

def ids : Ids := { noEscape := none, indexByteS := none, countS := none, makeNoZero := none, byte := 5 }
theorem mixed : Tryd.prog.follows .mixedOrders = true := by kernel_rfl
theorem noNum : NoNum Tryd.prog := noNum_of (by kernel_rfl)
theorem entries : ExtOk Tryd.prog ids where
  noEscape := fun f h => by cases h
  indexByteS := fun f h => by cases h
  countS := fun f h => by cases h
  makeNoZero := fun f h => by cases h
def Tryd.tzR : Go.Shelf.Ren := ⟨fun | 27 => 31 | 28 => 37 | 29 => 38 | n => n, fun | 22 => 56 | 25 => 63 | 27 => 80 | 53 => 85 | 54 => 86 | n => n, fun | n => n⟩
theorem Tryd.tzI : Go.Proofs.Lays7.n27 Tryd.prog Tryd.tzR where
  mixed := by kernel_rfl
  f27 := Tryd.func31.trans (congrArg some (by kernel_rfl))
  f28 := Tryd.func37.trans (congrArg some (by kernel_rfl))
  f29 := Tryd.func38.trans (congrArg some (by kernel_rfl))
  t0 := Tryd.underlying0
  a0 := Tryd.isAgg0
  z0 := Tryd.sizeOf0
  v0 := Tryd.zeroValue0
  i0 := by kernel_rfl
  t3 := Tryd.underlying3
  a3 := Tryd.isAgg3
  z3 := Tryd.sizeOf3
  v3 := Tryd.zeroValue3
  i3 := by kernel_rfl
  t4 := Tryd.underlying4
  a4 := Tryd.isAgg4
  z4 := Tryd.sizeOf4
  v4 := Tryd.zeroValue4
  i4 := by kernel_rfl
  t5 := Tryd.underlying5
  a5 := Tryd.isAgg5
  z5 := Tryd.sizeOf5
  v5 := Tryd.zeroValue5
  i5 := by kernel_rfl
  t22 := Tryd.underlying56
  a22 := Tryd.isAgg56
  z22 := Tryd.sizeOf56
  v22 := Tryd.zeroValue56
  i22 := by kernel_rfl
  t25 := Tryd.underlying63
  a25 := Tryd.isAgg63
  z25 := Tryd.sizeOf63
  v25 := Tryd.zeroValue63
  i25 := by kernel_rfl
  t27 := Tryd.underlying80
  a27 := Tryd.isAgg80
  z27 := Tryd.sizeOf80
  v27 := Tryd.zeroValue80
  i27 := by kernel_rfl
  t53 := Tryd.underlying85
  a53 := Tryd.isAgg85
  z53 := Tryd.sizeOf85
  v53 := Tryd.zeroValue85
  i53 := by kernel_rfl
  t54 := Tryd.underlying86
  a54 := Tryd.isAgg86
  z54 := Tryd.sizeOf86
  g0 := by kernel_rfl
  g1 := by kernel_rfl
theorem tz_hook : HookOk Tryd.prog (tzH 31) :=
  tz_ok noNum Tryd.func31 (by kernel_rfl) (g := 1) (tab := Lib.deBruijn64tab) (List.Mem.head _) fun x hx w hT => Any7.bits_TrailingZeros Tryd.tzI x hx w hT
/-- Calls of functions without a body, and bits.TrailingZeros. -/
noncomputable def hk0 : Hook := orH (extA ids) (tzH 31)
theorem hooks : HookOk Tryd.prog hk0 := or_ok (ext_ok entries) tz_hook
end Go.Proofs.YtbcjmmbmeebfgaaDoor
