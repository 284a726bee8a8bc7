/- TopHalved: the row, out of the machine's answers. -/
import Derived.Test.YtbcjmmbmeebfgaaDoorKRunHalved
import Derived.Test.YtbcjmmbmeebfgaaDoorKRest
import Derived.Test.YtbcjmmbmeebfgaaDoorRLaid
import Derived.Test.YtbcjmmbmeebfgaaDoorTie
import Derived.Test.YtbcjmmbmeebfgaaDoorCards
import Derived.ProofKit
import Derived.LaidMore
import Derived.Lay
import Derived.MakeChecks
import Derived.OpenShut
import Derived.Carry
import Derived.Stop.Joined
import Derived.SizedLaws
import Derived.SevenTiedAt
namespace Go.Proofs.YtbcjmmbmeebfgaaDoor
set_option linter.unusedVariables false
set_option linter.unusedSimpArgs false
open Go.ChangeShapes Go.WideShapes Go.ChangeAt Go.RowKit
open Go Go.R
set_option maxRecDepth 1000000

noncomputable section
theorem halved_runs (x y : Int) (hx : 0 ≤ x ∧ x ≤ 255) (hy : 0 ≤ y ∧ y ≤ 255) :
    Runs Tryd.prog 0 bodyH (entry Tryd.f3 [.int .u8 x, .int .u8 y] AH.empty) (EndsAs Tryd.prog Tryd.f3 fun v' _ => v' = .bool true) := by
  have hk : CallOk Tryd.prog kH := call_ok mixed noNum hk6_ok 1000
  rw [show bodyH = .seq (hd bodyH) (.seq (hd (tl bodyH)) (behind 2 bodyH)) by kernel_rfl]
  refine Runs.seqObs (n := 10) mixed hk [(0, .int .u8 x), (1, .int .u8 y)] (sz := 164) (by kernel_rfl) (by kernel_rfl) ?_
  refine Runs.seqObs (n := 10) mixed hk [(1, .int .u8 y), (5, .int .i64 (restI x (.ofNat 6)))] (sz := 164) (by kernel_rfl) (by kernel_rfl) ?_
  obtain ⟨b, hb, eb⟩ := rest_of hx.1 hx.2 (k := 6) (by decide) (by decide)
  rw [eb]
  rw [show behind 2 bodyH = .seq (hd (behind 2 bodyH)) (behind 3 bodyH) by kernel_rfl]
  have fin : ∀ q, q < b + 1 + 1 → Runs Tryd.prog 0 (behind 3 bodyH) (st [(5, i64 (b + 1)), (6, i64 q)] 164) (EndsAs Tryd.prog Tryd.f3 fun v' _ => v' = .bool true) := fun q hq => Runs.last mixed hk (Nat.zero_le _) (chkH_all (b + 1) q (by omega) (by omega) hq)
  match b, hb with
  | 0, _ =>
    refine Runs.seqObs (n := 10) mixed hk [(5, i64 1), (6, .int .i64 (restJ y (.ofNat 2)))] (sz := 164) (by kernel_rfl) (by kernel_rfl) ?_
    obtain ⟨q, hq, eq⟩ := restJ_of hy.1 hy.2 (k := 2) (by decide) (by decide)
    rw [eq]; exact fin q hq
  | 1, _ =>
    refine Runs.seqObs (n := 10) mixed hk [(5, i64 2), (6, .int .i64 (restJ y (.ofNat 3)))] (sz := 164) (by kernel_rfl) (by kernel_rfl) ?_
    obtain ⟨q, hq, eq⟩ := restJ_of hy.1 hy.2 (k := 3) (by decide) (by decide)
    rw [eq]; exact fin q hq
  | 2, _ =>
    refine Runs.seqObs (n := 10) mixed hk [(5, i64 3), (6, .int .i64 (restJ y (.ofNat 4)))] (sz := 164) (by kernel_rfl) (by kernel_rfl) ?_
    obtain ⟨q, hq, eq⟩ := restJ_of hy.1 hy.2 (k := 4) (by decide) (by decide)
    rw [eq]; exact fin q hq
  | 3, _ =>
    refine Runs.seqObs (n := 10) mixed hk [(5, i64 4), (6, .int .i64 (restJ y (.ofNat 5)))] (sz := 164) (by kernel_rfl) (by kernel_rfl) ?_
    obtain ⟨q, hq, eq⟩ := restJ_of hy.1 hy.2 (k := 5) (by decide) (by decide)
    rw [eq]; exact fin q hq
  | 4, _ =>
    refine Runs.seqObs (n := 10) mixed hk [(5, i64 5), (6, .int .i64 (restJ y (.ofNat 6)))] (sz := 164) (by kernel_rfl) (by kernel_rfl) ?_
    obtain ⟨q, hq, eq⟩ := restJ_of hy.1 hy.2 (k := 6) (by decide) (by decide)
    rw [eq]; exact fin q hq
  | 5, _ =>
    refine Runs.seqObs (n := 10) mixed hk [(5, i64 6), (6, .int .i64 (restJ y (.ofNat 7)))] (sz := 164) (by kernel_rfl) (by kernel_rfl) ?_
    obtain ⟨q, hq, eq⟩ := restJ_of hy.1 hy.2 (k := 7) (by decide) (by decide)
    rw [eq]; exact fin q hq
  | m + 6, h => omega

theorem halved_walk (x y : Int) (hx : 0 ≤ x ∧ x ≤ 255) (hy : 0 ≤ y ∧ y ≤ 255) (W : World) (hlaid : Laid (fun b => b < W.heap.size) W) :
    Calls Tryd.prog 3 #[.int .u8 x, .int .u8 y] W fun e w' => e = .returned (.bool true) ∧ Below W.heap.size W w' :=
  walk_true (args := [.int .u8 x, .int .u8 y]) Tryd.func3 (show Tryd.f3.body = some bodyH by kernel_rfl) rfl (halved_runs x y hx hy) W hlaid

theorem halved_laid {W : World} (h : laidMetH Tryd.prog Rows.topHalvedRow.laid W) : Laid (fun b => b < W.heap.size) W := by
  rw [MakeChecks.laidMetH_plain _ _ _ (by kernel_rfl)] at h
  intro g l hm
  obtain ⟨rfl, rfl⟩ : g = 1 ∧ l = Lib.deBruijn64tab := by
    rcases List.mem_cons.1 hm with e | e
    · cases e; exact ⟨rfl, rfl⟩
    · cases e
  exact tab_of_laid h (n := "math/bits.deBruijn64tab") (d := Rows.laid_math_bits_deBruijn64tab) (t := 86) (e := 5) (tab := Lib.deBruijn64tab) (List.mem_cons_of_mem _ List.mem_cons_self)
    (by kernel_rfl) (by kernel_rfl) (by kernel_rfl) (by kernel_rfl) (by kernel_rfl) (by kernel_rfl) (by kernel_rfl)

theorem halved_start (os : Os) (args : Array Value) : laidMetH Tryd.prog Rows.topHalvedRow.laid ((World.laidAll Tryd.prog os Rows.topHalvedRow.laid).forCall (fun _ _ => 0) ⟨#[], args, []⟩).memory := by
  rw [MakeChecks.laidMetH_plain _ _ _ (by kernel_rfl)]
  exact laidMet_laidAll args (by kernel_rfl) (by kernel_rfl)

theorem halved_lifted (os : Os) (started : os.Started) (H : Type) (enc : TypeId × Value → H) :
    ReturnsInHanded {} Tryd.checked os 3 .any (fun w args => (Rows.topHalvedSpec.pre enc Tryd.prog Tryd.f3 [] false w args ∧ laidMetH Tryd.prog Rows.topHalvedRow.laid w) ∧ sizedMet enc Tryd.prog Tryd.f3 (OpenSpec.ofChange Rows.topHalvedSpec) false w args)
      (Rows.topHalvedSpec.post enc Tryd.prog Tryd.f3 false true false false) := by
  refine returnsInHanded_of_change_and (C := Tryd.checked) (X := fun w _ => laidMetH Tryd.prog Rows.topHalvedRow.laid w) (fun _ _ _ hh h => h.of_heap hh) knob started (by kernel_rfl) Tryd.func3
    (ChangeSpec.witness_shaped (enc := enc) (C := Tryd.checked) (os := os) (X := fun w _ => laidMetH Tryd.prog Rows.topHalvedRow.laid w) false (World.laidAll Tryd.prog os Rows.topHalvedRow.laid) #[.int .u8 0, .int .u8 0] 8 (World.laidAll_os _ _ _) (World.shaped_of_ZipB (by kernel_rfl) (by kernel_rfl)) (by kernel_rfl) (by kernel_rfl) (by kernel_rfl) (halved_start os _)) ?_
  intro W base args ds gs before hval0 hW _ _ hL _
  have hval : ∀ (j : Nat) t v, Tryd.f3.params[j]? = some t → args[j]? = some v → Value.okWide Tryd.prog W .any base t v := hval0
  have hW' := hW
  obtain ⟨p, q, hA0, hV, rfl, hfz, hnd⟩ := hW
  have hA : DataW.TrodAll enc Tryd.prog W 0 (fun _ => true) true Tryd.f3.params.toList args.toList ds p := hA0
  rw [Tryd.params3] at hA hval
  obtain ⟨v0, v1, d0, d1, p0, p1, rfl, rfl, rfl, h0, h1⟩ := trodAll_two hA
  obtain ⟨rfl, rfl⟩ := trodVars_none hV
  obtain ⟨a, rfl, rfl, rfl, wa⟩ := open_int Tryd.underlying5 (hval 0 5 v0 rfl rfl) h0
  obtain ⟨b, rfl, rfl, rfl, wb⟩ := open_int Tryd.underlying5 (hval 1 5 v1 rfl rfl) h1
  clear hA0 hval0
  refine (halved_walk a b (byte_of wa) (byte_of wb) W (halved_laid hL)).mono fun e W' ⟨he, bel⟩ => ?_
  subst he
  exact ⟨_, rfl, _, _, _, [], _, [], hW', trodAll_mk1 (shut_bool Tryd.underlying4 _), trodAll_mk2 (shut_int Tryd.underlying5 wa) (shut_int Tryd.underlying5 wb), rfl, bel.frame _, fun h => by cases h⟩
end
end Go.Proofs.YtbcjmmbmeebfgaaDoor
