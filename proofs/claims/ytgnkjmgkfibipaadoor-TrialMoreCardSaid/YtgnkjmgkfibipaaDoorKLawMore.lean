/- TrialMore: its first numbers. -/
import Derived.Test.YtgnkjmgkfibipaaDoorKMoreA
import Derived.Test.YtgnkjmgkfibipaaDoorKMoreB
import Derived.Test.YtgnkjmgkfibipaaDoorKMoreC
import Derived.Test.YtgnkjmgkfibipaaDoorTie
import Derived.Test.YtgnkjmgkfibipaaDoorCards
import Derived.ProofKit
import Derived.LaidMore
import Derived.Lay
import Derived.MakeChecks
import Derived.OpenShut
import Derived.Carry
import Derived.Stop.Joined
import Derived.SizedLaws
import Derived.SevenTiedAt

namespace Go.Proofs.YtgnkjmgkfibipaaDoor
set_option linter.unusedVariables false
set_option linter.unusedSimpArgs false
open Go Go.R
set_option maxRecDepth 1000000
noncomputable section
theorem chkM_all : ∀ n, n < 12 → chkM n = true
  | 0, _ => m0 | 1, _ => m1 | 2, _ => m2 | 3, _ => m3 | 4, _ => m4 | 5, _ => m5 | 6, _ => m6 | 7, _ => m7 | 8, _ => m8 | 9, _ => m9 | 10, _ => m10 | 11, _ => m11
  | n + 12, h => by omega

theorem more_runs (x y z : Int) (hx : 0 ≤ x ∧ x ≤ 255) (hy : 0 ≤ y ∧ y ≤ 255) (hz : 0 ≤ z ∧ z ≤ 255) :
    Runs Tryd.prog 0 bodyM (entry Tryd.f14 [.int .u8 x, .int .u8 y, .int .u8 z] AH.empty) (EndsAs Tryd.prog Tryd.f14 fun v' _ => v' = .bool true) := by
  have hk : CallOk Tryd.prog kM := call_ok mixed noNum hMore_ok 1000
  rw [show bodyM = .seq (hd bodyM) (.seq (hd (tl bodyM)) (behind 2 bodyM)) by kernel_rfl]
  refine Runs.seqObs (n := 10) mixed hk [(0, .int .u8 x), (1, .int .u8 y), (2, .int .u8 z)] (sz := 202) (by kernel_rfl) (by kernel_rfl) ?_
  refine Runs.seqObs (n := 10) mixed hk [(7, .int .i64 (restJ x (.ofNat 12))), (8, .int .i64 (restI y (.ofNat 5))), (9, .int .i64 (restJ z (.ofNat 12)))] (sz := 202) (by kernel_rfl) (by kernel_rfl) ?_
  obtain ⟨n, hn, en⟩ := restJ_of hx.1 hx.2 (k := 12) (by decide) (by decide)
  obtain ⟨b, hb, eb⟩ := rest_of hy.1 hy.2 (k := 5) (by decide) (by decide)
  obtain ⟨t, ht, et⟩ := restJ_of hz.1 hz.2 (k := 12) (by decide) (by decide)
  rw [en, eb, et]
  have hc := chkM_all n hn
  simp only [chkM, List.all_eq_true, List.mem_range] at hc
  exact Runs.last mixed hk (Nat.zero_le _) (hc b hb t ht)
end
end Go.Proofs.YtgnkjmgkfibipaaDoor


namespace Go.Proofs.YtgnkjmgkfibipaaDoor
set_option linter.unusedVariables false
set_option linter.unusedSimpArgs false
open Go.ChangeShapes Go.WideShapes Go.ChangeAt Go.RowKit
open Go Go.R
set_option maxRecDepth 1000000

theorem more_walk (x y z : Int) (hx : 0 ≤ x ∧ x ≤ 255) (hy : 0 ≤ y ∧ y ≤ 255) (hz : 0 ≤ z ∧ z ≤ 255) (W : World) :
    Calls Tryd.prog 14 #[.int .u8 x, .int .u8 y, .int .u8 z] W fun e w' => e = .returned (.bool true) ∧ Below W.heap.size W w' :=
  walk_true (args := [.int .u8 x, .int .u8 y, .int .u8 z]) Tryd.func14 (show Tryd.f14.body = some bodyM by kernel_rfl) rfl (more_runs x y z hx hy hz) W

theorem more_start (os : Os) (args : Array Value) : laidMetH Tryd.prog Rows.trialMoreRow.laid ((World.laidAll Tryd.prog os Rows.trialMoreRow.laid).forCall (fun _ _ => 0) ⟨#[], args, []⟩).memory := by
  rw [MakeChecks.laidMetH_plain _ _ _ (by kernel_rfl)]
  exact laidMet_laidAll args (by kernel_rfl) (by kernel_rfl)

theorem more_lifted (os : Os) (started : os.Started) (H : Type) (enc : TypeId × Value → H) :
    ReturnsInHanded {} Tryd.checked os 14 .any (fun w args => (Rows.trialMoreSpec.pre enc Tryd.prog Tryd.f14 [] false w args ∧ laidMetH Tryd.prog Rows.trialMoreRow.laid w) ∧ sizedMet enc Tryd.prog Tryd.f14 (OpenSpec.ofChange Rows.trialMoreSpec) false w args)
      (Rows.trialMoreSpec.post enc Tryd.prog Tryd.f14 false true false false) := by
  refine returnsInHanded_of_change_and (C := Tryd.checked) (X := fun w _ => laidMetH Tryd.prog Rows.trialMoreRow.laid w) (fun _ _ _ hh h => h.of_heap hh) knob started (by kernel_rfl) Tryd.func14
    (ChangeSpec.witness_shaped (enc := enc) (C := Tryd.checked) (os := os) (X := fun w _ => laidMetH Tryd.prog Rows.trialMoreRow.laid w) false (World.laidAll Tryd.prog os Rows.trialMoreRow.laid) #[.int .u8 0, .int .u8 0, .int .u8 0] 8 (World.laidAll_os _ _ _) (World.shaped_of_ZipB (by kernel_rfl) (by kernel_rfl)) (by kernel_rfl) (by kernel_rfl) (by kernel_rfl) (more_start os _)) ?_
  intro W base args ds gs before hval0 hW _ _ hL _
  have hval : ∀ (j : Nat) t v, Tryd.f14.params[j]? = some t → args[j]? = some v → Value.okWide Tryd.prog W .any base t v := hval0
  have hW' := hW
  obtain ⟨p, q, hA0, hV, rfl, hfz, hnd⟩ := hW
  have hA : DataW.TrodAll enc Tryd.prog W 0 (fun _ => true) true Tryd.f14.params.toList args.toList ds p := hA0
  rw [Tryd.params14] at hA hval
  obtain ⟨v0, v1, v2, d0, d1, d2, p0, p1, p2, rfl, rfl, rfl, h0, h1, h2⟩ := trodAll_three hA
  obtain ⟨rfl, rfl⟩ := trodVars_none hV
  obtain ⟨a, rfl, rfl, rfl, wa⟩ := open_int Tryd.underlying5 (hval 0 5 v0 rfl rfl) h0
  obtain ⟨b, rfl, rfl, rfl, wb⟩ := open_int Tryd.underlying5 (hval 1 5 v1 rfl rfl) h1
  obtain ⟨c, rfl, rfl, rfl, wc⟩ := open_int Tryd.underlying5 (hval 2 5 v2 rfl rfl) h2
  clear hA0 hval0
  refine (more_walk a b c (byte_of wa) (byte_of wb) (byte_of wc) W).mono fun e W' ⟨he, bel⟩ => ?_
  subst he
  exact ⟨_, rfl, _, _, _, [], _, [], hW', trodAll_mk1 (shut_bool Tryd.underlying4 _), trodAll_mk3 (shut_int Tryd.underlying5 wa) (shut_int Tryd.underlying5 wb) (shut_int Tryd.underlying5 wc), rfl, bel.frame _, fun h => by cases h⟩

end Go.Proofs.YtgnkjmgkfibipaaDoor
