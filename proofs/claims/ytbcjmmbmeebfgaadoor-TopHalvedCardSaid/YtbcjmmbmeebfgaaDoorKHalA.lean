/- TopHalved: the areas of the galleries that it digs, by the kernel. -/
import Derived.Test.YtbcjmmbmeebfgaaDoorKWorks
import Derived.Test.YtbcjmmbmeebfgaaDoorRAgg
import Derived.Test.YtbcjmmbmeebfgaaDoorRFresh
namespace Go.Proofs.YtbcjmmbmeebfgaaDoor
set_option linter.unusedVariables false
set_option linter.unusedSimpArgs false
open Go Go.R
set_option maxRecDepth 1000000
noncomputable section
def gal (a b c : Int) : Value := .agg #[.int .i64 a, .int .i64 b, .int .i64 c]
def i64 (n : Nat) : Value := .int .i64 (.ofNat n)
def areaTab : List (List Value × Value) := [
  ([gal (.ofNat 0) (.ofNat 1) (.ofNat 0)], .int .u64 (.ofNat 4432676798593)),
  ([gal (.ofNat 1) (.ofNat 0) (.ofNat 0)], .int .u64 (.ofNat 127)),
  ([gal (.ofNat 1) (.ofNat 0) (.ofNat 1)], .int .u64 (.ofNat 16383)),
  ([gal (.ofNat 1) (.ofNat 0) (.ofNat 2)], .int .u64 (.ofNat 2097151)),
  ([gal (.ofNat 1) (.ofNat 0) (.ofNat 3)], .int .u64 (.ofNat 268435455)),
  ([gal (.ofNat 1) (.ofNat 0) (.ofNat 4)], .int .u64 (.ofNat 34359738367)),
  ([gal (.ofNat 1) (.ofNat 0) (.ofNat 5)], .int .u64 (.ofNat 4398046511103)),
  ([gal (.negSucc 0) (.ofNat 0) (.negSucc 0)], .int .u64 (.ofNat 562949953421184)),
  ([gal (.negSucc 0) (.ofNat 0) (.negSucc 1)], .int .u64 (.ofNat 562949953404928)),
  ([gal (.negSucc 0) (.ofNat 0) (.negSucc 2)], .int .u64 (.ofNat 562949951324160)),
  ([gal (.negSucc 0) (.ofNat 0) (.negSucc 3)], .int .u64 (.ofNat 562949684985856)),
  ([gal (.negSucc 0) (.ofNat 0) (.negSucc 4)], .int .u64 (.ofNat 562915593682944)),
  ([gal (.negSucc 0) (.ofNat 0) (.negSucc 5)], .int .u64 (.ofNat 558551906910208))]
theorem area_runs : tableOk Tryd.prog hk3 1000 28 areaTab = true := by kernel_rfl
def hk4 : Hook := orH hk3 (closedG 28 (lookG areaTab))
theorem hk4_ok : HookOk Tryd.prog hk4 := or_ok hk3_ok (tableG_ok mixed noNum hk3_ok Tryd.func28 (by kernel_rfl) area_runs)
def validTab : List (List Value × Value) := areaTab.map fun p => (p.1, i64 0)
theorem valid_runs : tableOk Tryd.prog hk4 1000 18 validTab = true := by kernel_rfl
def hk5 : Hook := orH hk4 (closedG 18 (lookG validTab))
theorem hk5_ok : HookOk Tryd.prog hk5 := or_ok hk4_ok (tableG_ok mixed noNum hk4_ok Tryd.func18 (by kernel_rfl) valid_runs)
def sizeTab : List (List Value × Value) := [
  ([.int .u64 (.ofNat 0)], i64 0),
  ([.int .u64 (.ofNat 1)], i64 1),
  ([.int .u64 (.ofNat 128)], i64 1),
  ([.int .u64 (.ofNat 129)], i64 2),
  ([.int .u64 (.ofNat 16384)], i64 1),
  ([.int .u64 (.ofNat 16512)], i64 2),
  ([.int .u64 (.ofNat 16513)], i64 3),
  ([.int .u64 (.ofNat 2097152)], i64 1),
  ([.int .u64 (.ofNat 2113536)], i64 2),
  ([.int .u64 (.ofNat 2113664)], i64 3),
  ([.int .u64 (.ofNat 2113665)], i64 4),
  ([.int .u64 (.ofNat 268435456)], i64 1),
  ([.int .u64 (.ofNat 270532608)], i64 2),
  ([.int .u64 (.ofNat 270548992)], i64 3),
  ([.int .u64 (.ofNat 270549120)], i64 4),
  ([.int .u64 (.ofNat 270549121)], i64 5),
  ([.int .u64 (.ofNat 34359738368)], i64 1),
  ([.int .u64 (.ofNat 34628173824)], i64 2),
  ([.int .u64 (.ofNat 34630270976)], i64 3),
  ([.int .u64 (.ofNat 34630287360)], i64 4),
  ([.int .u64 (.ofNat 34630287488)], i64 5),
  ([.int .u64 (.ofNat 34630287489)], i64 6),
  ([.int .u64 (.ofNat 4398046511104)], i64 1),
  ([.int .u64 (.ofNat 4432406249472)], i64 2),
  ([.int .u64 (.ofNat 4432674684928)], i64 3),
  ([.int .u64 (.ofNat 4432676782080)], i64 4),
  ([.int .u64 (.ofNat 4432676798464)], i64 5),
  ([.int .u64 (.ofNat 4432676798592)], i64 6),
  ([.int .u64 (.ofNat 4432676798593)], i64 7)]
theorem size_runs : tableOk Tryd.prog hk5 1000 29 sizeTab = true := by kernel_rfl
def hk6 : Hook := orH hk5 (closedG 29 (lookG sizeTab))
theorem hk6_ok : HookOk Tryd.prog hk6 := or_ok hk5_ok (tableG_ok mixed noNum hk5_ok Tryd.func29 (by kernel_rfl) size_runs)
def kH : CallF := callA Tryd.prog hk6 1000
def bodyH : Code := bodyOf Tryd.f3
def chkH (b q : Nat) : Bool := okRun Tryd.prog Tryd.f3 (execA Tryd.prog kH 1000 (behind 3 bodyH) (st [(5, i64 b), (6, i64 q)] 164)) (.bool true)
end
end Go.Proofs.YtbcjmmbmeebfgaaDoor
