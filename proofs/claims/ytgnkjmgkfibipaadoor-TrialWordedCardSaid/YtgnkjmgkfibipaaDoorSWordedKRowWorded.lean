/- TrialWorded: for every input the law answers true: the row and its tied card. -/
import Derived.Test.YtgnkjmgkfibipaaDoorSWordedKTopWorded
import Derived.Test.YtgnkjmgkfibipaaDoorSWordedKJoin
import Derived.Test.YtgnkjmgkfibipaaDoorSWordedKMain
namespace Go.Proofs.YtgnkjmgkfibipaaDoor
set_option linter.unusedVariables false
set_option linter.unusedSimpArgs false
open Go.ChangeShapes Go.WideShapes Go.ChangeAt Go.RowKit
open Go
set_option maxRecDepth 1000000

theorem worded_joined : joinedFacts Tryd.prog 11 Tryd.f11 Rows.trialWordedSpec Rows.trialWordedRow = true :=
  joined_of (by kernel_rfl) p_laidOut p_mapsRowed (by kernel_rfl) (by kernel_rfl) (by kernel_rfl) p_stops (by kernel_rfl) p_stopKnobs (by kernel_rfl) (by kernel_rfl) (by kernel_rfl) (by kernel_rfl) (by kernel_rfl) (by kernel_rfl) (by kernel_rfl) (by kernel_rfl) (by kernel_rfl) (by kernel_rfl) (by kernel_rfl) (by kernel_rfl) (by kernel_rfl) p_plainKeys (by kernel_rfl) p_stopsHeard p_mayEnter p_lifted p_make (by kernel_rfl) (by kernel_rfl) (by kernel_rfl) (by kernel_rfl)

theorem worded_row : Rows.TrialWordedSaid :=
  OpenClaim.holds_of_wide 11 Tryd.f11 rfl rfl rfl rfl rfl rfl rfl ⟨rfl, rfl, rfl, rfl, rfl⟩ rfl rfl rfl rfl rfl (by kernel_rfl) Tryd.func11 worded_joined
    (of_decide_eq_true (by kernel_rfl)) (by unfold Func.isWrapper; first | (rw [if_pos (by decide +kernel)]; kernel_rfl) | (rw [if_neg (by decide +kernel)]; exact ⟨rfl, rfl⟩))
    (fun os started H enc _ => worded_lifted os started H enc)

theorem worded_goes : false = Rows.trialWordedRow.goesBy Tryd.prog := by kernel_rfl

theorem worded_stand : (Tryd.f11.params.all fun t => !Tryd.prog.wantsStandIn t) = true := by kernel_rfl

theorem worded_card : Rows.TrialWordedCardSaid :=
  Claim7.holds_tied_plain_at .later [] [.data, .pinned] true (true, "a95ab0dca0f4d6435f9c5e52d6dfd53cbca5ede0a20be2dbf1374da01667d882") false
    worded_row (fun _ h => by cases h) (by kernel_rfl) (fun _ h => by cases h) trialWorded_row_tie rfl ⟨rfl, rfl⟩ p_main rfl
    (fun f fn hf hfn => by
      obtain rfl : f = 11 := Option.some.inj ((show Tryd.prog.funcNamed "novaculite/novaculitelaw04.TrialWorded" = some 11 by kernel_rfl).symm.trans hf) |>.symm
      obtain rfl : fn = Tryd.f11 := (Option.some.inj (Tryd.func11.symm.trans hfn)).symm
      exact ⟨p_looks, fun j t ht => by
        have := Array.all_eq_true_iff_forall_mem.1 worded_stand t (Array.mem_of_getElem? ht)
        have h : Tryd.prog.wantsStandIn t = false := by simpa using this
        exact h⟩)
    worded_goes
#print axioms worded_card
end Go.Proofs.YtgnkjmgkfibipaaDoor
