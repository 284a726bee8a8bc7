/- TrialSpelled: for every input the law answers true: the row and its tied card. -/
import Derived.Test.YtgnkjmgkfibipaaGreatDoorSSpelledKTopSpelled
import Derived.Test.YtgnkjmgkfibipaaGreatDoorSSpelledKJoin
import Derived.Test.YtgnkjmgkfibipaaGreatDoorSSpelledKMain
namespace Go.Proofs.YtgnkjmgkfibipaaGreatDoor
set_option linter.unusedVariables false
set_option linter.unusedSimpArgs false
open Go.ChangeShapes Go.WideShapes Go.ChangeAt Go.RowKit
open Go
set_option maxRecDepth 1000000

theorem spelled_joined : joinedFacts Tryz.prog 4 Tryz.f4 Rows.trialSpelledSpec Rows.trialSpelledRow = true :=
  joined_of (by kernel_rfl) p_laidOut p_mapsRowed (by kernel_rfl) (by kernel_rfl) (by kernel_rfl) p_stops (by kernel_rfl) p_stopKnobs (by kernel_rfl) (by kernel_rfl) (by kernel_rfl) (by kernel_rfl) (by kernel_rfl) (by kernel_rfl) (by kernel_rfl) (by kernel_rfl) (by kernel_rfl) (by kernel_rfl) (by kernel_rfl) (by kernel_rfl) (by kernel_rfl) p_plainKeys (by kernel_rfl) p_stopsHeard p_mayEnter p_lifted p_make (by kernel_rfl) (by kernel_rfl) (by kernel_rfl) (by kernel_rfl)

theorem spelled_row : Rows.TrialSpelledSaid :=
  OpenClaim.holds_of_wide 4 Tryz.f4 rfl rfl rfl rfl rfl rfl rfl ⟨rfl, rfl, rfl, rfl, rfl⟩ rfl rfl rfl rfl rfl (by kernel_rfl) Tryz.func4 spelled_joined
    (of_decide_eq_true (by kernel_rfl)) (by unfold Func.isWrapper; first | (rw [if_pos (by decide +kernel)]; kernel_rfl) | (rw [if_neg (by decide +kernel)]; exact ⟨rfl, rfl⟩))
    (fun os started H enc _ => spelled_lifted os started H enc)

theorem spelled_goes : false = Rows.trialSpelledRow.goesBy Tryz.prog := by kernel_rfl

theorem spelled_stand : (Tryz.f4.params.all fun t => !Tryz.prog.wantsStandIn t) = true := by kernel_rfl

theorem spelled_card : Rows.TrialSpelledCardSaid :=
  Claim7.holds_tied_plain_at .later [] [.data, .pinned] true (true, "2fac328ded0a24f02bf277e2e61838022269ca33ac82b0059d4dfe2c6283145a") false
    spelled_row (fun _ h => by cases h) (by kernel_rfl) (fun _ h => by cases h) trialSpelled_row_tie rfl ⟨rfl, rfl⟩ p_main rfl
    (fun f fn hf hfn => by
      obtain rfl : f = 4 := Option.some.inj ((show Tryz.prog.funcNamed "novaculite/novaculitelaw04.TrialSpelled" = some 4 by kernel_rfl).symm.trans hf) |>.symm
      obtain rfl : fn = Tryz.f4 := (Option.some.inj (Tryz.func4.symm.trans hfn)).symm
      exact ⟨p_looks, fun j t ht => by
        have := Array.all_eq_true_iff_forall_mem.1 spelled_stand t (Array.mem_of_getElem? ht)
        have h : Tryz.prog.wantsStandIn t = false := by simpa using this
        exact h⟩)
    spelled_goes
#print axioms spelled_card
end Go.Proofs.YtgnkjmgkfibipaaGreatDoor
