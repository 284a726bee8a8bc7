/- The program's facts that the machine wants. -/
import Derived.Test.YtbcjmmbmeebfgaaGreatDoorRows
import Derived.Test.YtbcjmmbmeebfgaaGreatDoorSNarrowedRTab
import Derived.Shelf.Spec.TrailingZeros
import Derived.KernelRfl
import Derived.ProofKit
import Derived.OpenShut
import Derived.ChangeShapes
namespace Go.Proofs.YtbcjmmbmeebfgaaGreatDoor
set_option linter.unusedVariables false
set_option linter.unusedSimpArgs false
open Go Go.R
set_option maxRecDepth 100000

noncomputable def ids : Ids := { noEscape := none, indexByteS := none, countS := none, makeNoZero := none, byte := 5 }
theorem mixed : Tryz.prog.follows .mixedOrders = true := by kernel_rfl
theorem noNum : NoNum Tryz.prog := noNum_of (by kernel_rfl)
theorem entries : ExtOk Tryz.prog ids where
  noEscape := fun f h => by cases h
  indexByteS := fun f h => by cases h
  countS := fun f h => by cases h
  makeNoZero := fun f h => by cases h
noncomputable def Tryz.tzR : Go.Shelf.Ren := ⟨fun | 27 => 52 | 28 => 71 | 29 => 72 | n => n, fun | 22 => 82 | 25 => 70 | 27 => 108 | 53 => 128 | 54 => 129 | n => n, fun | n => n⟩
theorem Tryz.tzI : Go.Proofs.Lays7.n27 Tryz.prog Tryz.tzR where
  mixed := by kernel_rfl
  f27 := Tryz.func52.trans (congrArg some (by kernel_rfl))
  f28 := Tryz.func71.trans (congrArg some (by kernel_rfl))
  f29 := Tryz.func72.trans (congrArg some (by kernel_rfl))
  t0 := Tryz.underlying0
  a0 := Tryz.isAgg0
  z0 := Tryz.sizeOf0
  v0 := Tryz.zeroValue0
  i0 := by kernel_rfl
  t3 := Tryz.underlying3
  a3 := Tryz.isAgg3
  z3 := Tryz.sizeOf3
  v3 := Tryz.zeroValue3
  i3 := by kernel_rfl
  t4 := Tryz.underlying4
  a4 := Tryz.isAgg4
  z4 := Tryz.sizeOf4
  v4 := Tryz.zeroValue4
  i4 := by kernel_rfl
  t5 := Tryz.underlying5
  a5 := Tryz.isAgg5
  z5 := Tryz.sizeOf5
  v5 := Tryz.zeroValue5
  i5 := by kernel_rfl
  t22 := Tryz.underlying82
  a22 := Tryz.isAgg82
  z22 := Tryz.sizeOf82
  v22 := Tryz.zeroValue82
  i22 := by kernel_rfl
  t25 := Tryz.underlying70
  a25 := Tryz.isAgg70
  z25 := Tryz.sizeOf70
  v25 := Tryz.zeroValue70
  i25 := by kernel_rfl
  t27 := Tryz.underlying108
  a27 := Tryz.isAgg108
  z27 := Tryz.sizeOf108
  v27 := Tryz.zeroValue108
  i27 := by kernel_rfl
  t53 := Tryz.underlying128
  a53 := Tryz.isAgg128
  z53 := Tryz.sizeOf128
  v53 := Tryz.zeroValue128
  i53 := by kernel_rfl
  t54 := Tryz.underlying129
  a54 := Tryz.isAgg129
  z54 := Tryz.sizeOf129
  g0 := by kernel_rfl
  g1 := by kernel_rfl
theorem tz_hook : HookOk Tryz.prog (tzH 52) :=
  tz_ok noNum Tryz.func52 (by kernel_rfl) (g := 1) (tab := Lib.deBruijn64tab) (List.Mem.head _) fun x hx w hT => Any7.bits_TrailingZeros Tryz.tzI x hx w hT
/-- Calls of functions without a body, and bits.TrailingZeros. -/
noncomputable def hk0 : Hook := orH (extA ids) (tzH 52)
theorem hooks : HookOk Tryz.prog hk0 := or_ok (ext_ok entries) tz_hook
end Go.Proofs.YtbcjmmbmeebfgaaGreatDoor

/- The examples that the law ends in: the machine's answers, by the kernel; and their contracts. -/
namespace Go.Proofs.YtbcjmmbmeebfgaaGreatDoor
set_option linter.unusedVariables false
set_option linter.unusedSimpArgs false
open Go Go.R
set_option maxRecDepth 1000000
noncomputable section
theorem seams_runs : says (callA Tryz.prog hk0 (99999 + 1) 42 [] AH.empty) (.bool true) = true := by kernel_rfl
noncomputable def hk1 : Hook := orH hk0 (closedH 42 [] (.bool true))
theorem hk1_ok : HookOk Tryz.prog hk1 := or_ok hooks (closed_ok mixed noNum hooks Tryz.func42 (by kernel_rfl) (by kernel_rfl) (by kernel_rfl) seams_runs)
theorem drains_runs : says (callA Tryz.prog hk1 (99999 + 1) 15 [] AH.empty) (.bool true) = true := by kernel_rfl
noncomputable def hk2 : Hook := orH hk1 (closedH 15 [] (.bool true))
theorem hk2_ok : HookOk Tryz.prog hk2 := or_ok hk1_ok (closed_ok mixed noNum hk1_ok Tryz.func15 (by kernel_rfl) (by kernel_rfl) (by kernel_rfl) drains_runs)
theorem trials_runs : says (callA Tryz.prog hk2 (99999 + 1) 21 [] AH.empty) (.bool true) = true := by kernel_rfl
noncomputable def hk3 : Hook := orH hk2 (closedH 21 [] (.bool true))
theorem hk3_ok : HookOk Tryz.prog hk3 := or_ok hk2_ok (closed_ok mixed noNum hk2_ok Tryz.func21 (by kernel_rfl) (by kernel_rfl) (by kernel_rfl) trials_runs)
end
end Go.Proofs.YtbcjmmbmeebfgaaGreatDoor

/- An argument that is an array of eight bytes: opened, and shut again. -/
namespace Go.Proofs.YtbcjmmbmeebfgaaGreatDoor
set_option linter.unusedVariables false
set_option linter.unusedSimpArgs false
open Go Go.ChangeShapes Go.WideShapes Go.ChangeAt
set_option maxRecDepth 100000

theorem list8 {α : Type} {l : List α} (h : l.length = 8) : ∃ a0 a1 a2 a3 a4 a5 a6 a7, l = [a0, a1, a2, a3, a4, a5, a6, a7] := by
  match l, h with
  | [a0, a1, a2, a3, a4, a5, a6, a7], _ => exact ⟨a0, a1, a2, a3, a4, a5, a6, a7, rfl⟩

theorem open_arr8 {P : Program} {H : Type} {enc : TypeId × Value → H} {w : World} {base : Nat} {spare : Nat → Bool} {held : Bool} {r : Reach} {b0 : Nat} {t e : TypeId} {k : IntKind} {v : Value} {d : DataW H} {ps : List MemPlace}
    (ht : P.underlying t = some (.array 8 e)) (he : P.underlying e = some (.int k)) (hc : P.cellsOf e = 1) (hct : P.cellsOf t = 8)
    (hval : Value.okWide P w r b0 t v) (hd : DataW.Trod enc P w base spare held t v d ps) :
    ∃ n : Nat → Int, v = .agg #[.int k (n 0), .int k (n 1), .int k (n 2), .int k (n 3), .int k (n 4), .int k (n 5), .int k (n 6), .int k (n 7)] ∧
      d = .agg [.lit (.int k (n 0)), .lit (.int k (n 1)), .lit (.int k (n 2)), .lit (.int k (n 3)), .lit (.int k (n 4)), .lit (.int k (n 5)), .lit (.int k (n 6)), .lit (.int k (n 7))] ∧ ps = [] ∧ ∀ i, i < 8 → (Lit.int k (n i)).wf = true := by
  unfold Value.okWide at hval
  rw [ht] at hval
  obtain ⟨cs, rfl, hs, _⟩ := hval
  rw [hct] at hs
  obtain ⟨a0, a1, a2, a3, a4, a5, a6, a7, hl⟩ := list8 (l := cs.toList) (by rw [Array.length_toList]; exact hs)
  obtain rfl : cs = #[a0, a1, a2, a3, a4, a5, a6, a7] := by
    apply Array.toList_inj.1; exact hl
  obtain ⟨fuel, hf⟩ := hd
  cases fuel with
  | zero => cases hf
  | succ fuel =>
    have hr : List.range 8 = [0, 1, 2, 3, 4, 5, 6, 7] := rfl
    simp only [DataW.trod, Value.cells, ht, hc, hct, hr, List.mapM_cons, List.mapM_nil] at hf
    simp only [List.length_cons, List.length_nil, Nat.reduceAdd, if_true, Option.map_eq_some_iff, Option.bind_eq_bind, Option.bind_eq_some_iff, Option.pure_def, Nat.reduceMul, List.drop_zero, List.drop_succ_cons, List.take_succ_cons, List.take_zero, Nat.mul_one, Option.some.injEq] at hf
    obtain ⟨xs, ⟨x0, h0, _, ⟨x1, h1, _, ⟨x2, h2, _, ⟨x3, h3, _, ⟨x4, h4, _, ⟨x5, h5, _, ⟨x6, h6, _, ⟨x7, h7, _, rfl, rfl⟩, rfl⟩, rfl⟩, rfl⟩, rfl⟩, rfl⟩, rfl⟩, rfl⟩, hx⟩ := hf
    obtain ⟨n0, e0, rfl, w0⟩ := DataW.trod_int he h0
    obtain ⟨n1, e1, rfl, w1⟩ := DataW.trod_int he h1
    obtain ⟨n2, e2, rfl, w2⟩ := DataW.trod_int he h2
    obtain ⟨n3, e3, rfl, w3⟩ := DataW.trod_int he h3
    obtain ⟨n4, e4, rfl, w4⟩ := DataW.trod_int he h4
    obtain ⟨n5, e5, rfl, w5⟩ := DataW.trod_int he h5
    obtain ⟨n6, e6, rfl, w6⟩ := DataW.trod_int he h6
    obtain ⟨n7, e7, rfl, w7⟩ := DataW.trod_int he h7
    cases e0; cases e1; cases e2; cases e3; cases e4; cases e5; cases e6; cases e7
    simp only [Prod.mk.injEq] at hx
    refine ⟨fun i => match i with | 0 => n0 | 1 => n1 | 2 => n2 | 3 => n3 | 4 => n4 | 5 => n5 | 6 => n6 | _ => n7, rfl, hx.1.symm, hx.2.symm.trans rfl, fun i hi => ?_⟩
    match i, hi with
    | 0, _ => exact w0
    | 1, _ => exact w1
    | 2, _ => exact w2
    | 3, _ => exact w3
    | 4, _ => exact w4
    | 5, _ => exact w5
    | 6, _ => exact w6
    | 7, _ => exact w7
    | i + 8, h => omega

theorem shut_arr8 {P : Program} {H : Type} {enc : TypeId × Value → H} {w : World} {base : Nat} {spare : Nat → Bool} {held : Bool} {t e : TypeId} {k : IntKind}
    (ht : P.underlying t = some (.array 8 e)) (he : P.underlying e = some (.int k)) (hc : P.cellsOf e = 1) (hct : P.cellsOf t = 8) (n : Nat → Int) (hw : ∀ i, i < 8 → (Lit.int k (n i)).wf = true) :
    DataW.Trod enc P w base spare held t (.agg #[.int k (n 0), .int k (n 1), .int k (n 2), .int k (n 3), .int k (n 4), .int k (n 5), .int k (n 6), .int k (n 7)])
      (.agg [.lit (.int k (n 0)), .lit (.int k (n 1)), .lit (.int k (n 2)), .lit (.int k (n 3)), .lit (.int k (n 4)), .lit (.int k (n 5)), .lit (.int k (n 6)), .lit (.int k (n 7))]) [] := by
  refine ⟨2, ?_⟩
  have hr : List.range 8 = [0, 1, 2, 3, 4, 5, 6, 7] := rfl
  have one : ∀ i, i < 8 → DataW.trod enc P w base spare held 1 e [.int k (n i)] = some (.lit (.int k (n i)), []) := fun i hi => by simp [DataW.trod, he, hw i hi]
  rw [show DataW.trod enc P w base spare held 2 t (Value.agg #[.int k (n 0), .int k (n 1), .int k (n 2), .int k (n 3), .int k (n 4), .int k (n 5), .int k (n 6), .int k (n 7)]).cells.toList = (if [Value.int k (n 0), .int k (n 1), .int k (n 2), .int k (n 3), .int k (n 4), .int k (n 5), .int k (n 6), .int k (n 7)].length = P.cellsOf t then ((List.range 8).mapM fun i => DataW.trod enc P w base spare held 1 e (([Value.int k (n 0), .int k (n 1), .int k (n 2), .int k (n 3), .int k (n 4), .int k (n 5), .int k (n 6), .int k (n 7)].drop (i * P.cellsOf e)).take (P.cellsOf e))).map fun xs => (.agg (xs.map (·.1)), xs.flatMap (·.2)) else none) by
    simp only [DataW.trod, Value.cells, ht]]
  rw [hct, hc, hr]
  simp only [List.length_cons, List.length_nil, Nat.reduceAdd, if_true, List.mapM_cons, List.mapM_nil, Nat.reduceMul, Nat.mul_one, List.drop_zero, List.drop_succ_cons, List.take_succ_cons, List.take_zero, one 0 (by decide), one 1 (by decide), one 2 (by decide), one 3 (by decide), one 4 (by decide), one 5 (by decide), one 6 (by decide), one 7 (by decide)]
  rfl
end Go.Proofs.YtbcjmmbmeebfgaaGreatDoor
