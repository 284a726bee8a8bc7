/- TrialNumbers: for all numbers. -/
import Derived.Test.YtgnkjmgkfibipaaDoorKNumG
import Derived.Test.YtgnkjmgkfibipaaDoorKNumH
import Derived.Test.YtgnkjmgkfibipaaDoorKRest
import Derived.Test.YtgnkjmgkfibipaaDoorTie
import Derived.Test.YtgnkjmgkfibipaaDoorCards
import Derived.ProofKit
import Derived.LaidMore
import Derived.Lay
import Derived.MakeChecks
import Derived.OpenShut
import Derived.Carry
import Derived.Stop.Joined
import Derived.SizedLaws
import Derived.SevenTiedAt

namespace Go.Proofs.YtgnkjmgkfibipaaDoor
set_option linter.unusedVariables false
set_option linter.unusedSimpArgs false
open Go Go.R
set_option maxRecDepth 1000000
noncomputable section

theorem n_all : ∀ n, n < 13 → ∀ j k : Nat, chkN (i64 n) j k = true
  | 0, _ => n_0
  | 1, _ => n_1
  | 2, _ => n_2
  | 3, _ => n_3
  | 4, _ => n_4
  | 5, _ => n_5
  | 6, _ => n_6
  | 7, _ => n_7
  | 8, _ => n_8
  | 9, _ => n_9
  | 10, _ => n_10
  | 11, _ => n_11
  | 12, _ => n_12
  | n + 13, h => by omega

theorem run_of {v : Value} (h : ∀ j k : Nat, chkN v j k = true) (y z : Int) : runN v (.int .i64 y) (.int .i64 z) = true := by
  have h := h
  simp only [chkN, Bool.and_eq_true, List.all_eq_true, List.mem_range] at h
  cases y with
  | negSucc j =>
    cases z with
    | negSucc k => exact (h j k).2.2.2.2
    | ofNat t =>
      by_cases ht : t < 13
      · exact ((h j 0).2.1 t ht).2
      · obtain ⟨k, rfl⟩ : ∃ k, t = k + 13 := ⟨t - 13, by omega⟩
        exact (h j k).2.2.2.1
  | ofNat b =>
    by_cases hb : b < 7
    · cases z with
      | negSucc k => exact ((h 0 k).1 b hb).2.2
      | ofNat t =>
        by_cases ht : t < 13
        · exact ((h 0 0).1 b hb).1 t ht
        · obtain ⟨k, rfl⟩ : ∃ k, t = k + 13 := ⟨t - 13, by omega⟩
          exact ((h 0 k).1 b hb).2.1
    · obtain ⟨j, rfl⟩ : ∃ j, b = j + 7 := ⟨b - 7, by omega⟩
      cases z with
      | negSucc k => exact (h j k).2.2.1.2
      | ofNat t =>
        by_cases ht : t < 13
        · exact ((h j 0).2.1 t ht).1
        · obtain ⟨k, rfl⟩ : ∃ k, t = k + 13 := ⟨t - 13, by omega⟩
          exact (h j k).2.2.1.1

theorem numbers_runs (x y z : Int) : Runs Tryd.prog 0 bodyN (entry Tryd.f5 [.int .i64 x, .int .i64 y, .int .i64 z] AH.empty) (EndsAs Tryd.prog Tryd.f5 fun v' _ => v' = .bool true) := by
  refine Runs.last (n := 1000) mixed (call_ok mixed noNum hNb_ok 1000) (Nat.zero_le _) ?_
  show runN (.int .i64 x) (.int .i64 y) (.int .i64 z) = true
  cases x with
  | negSucc i => exact run_of (fun j k => n_neg i j k) y z
  | ofNat n =>
    by_cases hn : n < 13
    · exact run_of (n_all n hn) y z
    · obtain ⟨i, rfl⟩ : ∃ i, n = i + 13 := ⟨n - 13, by omega⟩
      exact run_of (fun j k => n_big i j k) y z
end
end Go.Proofs.YtgnkjmgkfibipaaDoor


namespace Go.Proofs.YtgnkjmgkfibipaaDoor
set_option linter.unusedVariables false
set_option linter.unusedSimpArgs false
open Go.ChangeShapes Go.WideShapes Go.ChangeAt Go.RowKit
open Go Go.R
set_option maxRecDepth 1000000

theorem numbers_walk (x y z : Int)  (W : World) :
    Calls Tryd.prog 5 #[.int .i64 x, .int .i64 y, .int .i64 z] W fun e w' => e = .returned (.bool true) ∧ Below W.heap.size W w' :=
  walk_true (args := [.int .i64 x, .int .i64 y, .int .i64 z]) Tryd.func5 (show Tryd.f5.body = some bodyN by kernel_rfl) rfl (numbers_runs x y z ) W

theorem numbers_start (os : Os) (args : Array Value) : laidMetH Tryd.prog Rows.trialNumbersRow.laid ((World.laidAll Tryd.prog os Rows.trialNumbersRow.laid).forCall (fun _ _ => 0) ⟨#[], args, []⟩).memory := by
  rw [MakeChecks.laidMetH_plain _ _ _ (by kernel_rfl)]
  exact laidMet_laidAll args (by kernel_rfl) (by kernel_rfl)

theorem numbers_lifted (os : Os) (started : os.Started) (H : Type) (enc : TypeId × Value → H) :
    ReturnsInHanded {} Tryd.checked os 5 .any (fun w args => (Rows.trialNumbersSpec.pre enc Tryd.prog Tryd.f5 [] false w args ∧ laidMetH Tryd.prog Rows.trialNumbersRow.laid w) ∧ sizedMet enc Tryd.prog Tryd.f5 (OpenSpec.ofChange Rows.trialNumbersSpec) false w args)
      (Rows.trialNumbersSpec.post enc Tryd.prog Tryd.f5 false true false false) := by
  refine returnsInHanded_of_change_and (C := Tryd.checked) (X := fun w _ => laidMetH Tryd.prog Rows.trialNumbersRow.laid w) (fun _ _ _ hh h => h.of_heap hh) knob started (by kernel_rfl) Tryd.func5
    (ChangeSpec.witness_shaped (enc := enc) (C := Tryd.checked) (os := os) (X := fun w _ => laidMetH Tryd.prog Rows.trialNumbersRow.laid w) false (World.laidAll Tryd.prog os Rows.trialNumbersRow.laid) #[.int .i64 0, .int .i64 0, .int .i64 0] 8 (World.laidAll_os _ _ _) (World.shaped_of_ZipB (by kernel_rfl) (by kernel_rfl)) (by kernel_rfl) (by kernel_rfl) (by kernel_rfl) (numbers_start os _)) ?_
  intro W base args ds gs before hval0 hW _ _ hL _
  have hval : ∀ (j : Nat) t v, Tryd.f5.params[j]? = some t → args[j]? = some v → Value.okWide Tryd.prog W .any base t v := hval0
  have hW' := hW
  obtain ⟨p, q, hA0, hV, rfl, hfz, hnd⟩ := hW
  have hA : DataW.TrodAll enc Tryd.prog W 0 (fun _ => true) true Tryd.f5.params.toList args.toList ds p := hA0
  rw [Tryd.params5] at hA hval
  obtain ⟨v0, v1, v2, d0, d1, d2, p0, p1, p2, rfl, rfl, rfl, h0, h1, h2⟩ := trodAll_three hA
  obtain ⟨rfl, rfl⟩ := trodVars_none hV
  obtain ⟨a, rfl, rfl, rfl, wa⟩ := open_int Tryd.underlying3 (hval 0 3 v0 rfl rfl) h0
  obtain ⟨b, rfl, rfl, rfl, wb⟩ := open_int Tryd.underlying3 (hval 1 3 v1 rfl rfl) h1
  obtain ⟨c, rfl, rfl, rfl, wc⟩ := open_int Tryd.underlying3 (hval 2 3 v2 rfl rfl) h2
  clear hA0 hval0
  refine (numbers_walk a b c  W).mono fun e W' ⟨he, bel⟩ => ?_
  subst he
  exact ⟨_, rfl, _, _, _, [], _, [], hW', trodAll_mk1 (shut_bool Tryd.underlying4 _), trodAll_mk3 (shut_int Tryd.underlying3 wa) (shut_int Tryd.underlying3 wb) (shut_int Tryd.underlying3 wc), rfl, bel.frame _, fun h => by cases h⟩

end Go.Proofs.YtgnkjmgkfibipaaDoor
