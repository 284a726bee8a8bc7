/- TrialTried: for every input the law answers true: the row and its tied card. -/
import Derived.Test.YtgnkjmgkfibipaaDoorQKLawTried
import Derived.Test.YtgnkjmgkfibipaaDoorQKJoin
import Derived.Test.YtgnkjmgkfibipaaDoorQKMain
namespace Go.Proofs.YtgnkjmgkfibipaaDoor
set_option linter.unusedVariables false
set_option linter.unusedSimpArgs false
open Go.ChangeShapes Go.WideShapes Go.ChangeAt Go.RowKit
open Go
set_option maxRecDepth 1000000

theorem tried_joined : joinedFacts Tryd.prog 12 Tryd.f12 Rows.trialTriedSpec Rows.trialTriedRow = true :=
  joined_of (by kernel_rfl) p_laidOut p_mapsRowed (by kernel_rfl) (by kernel_rfl) (by kernel_rfl) p_stops (by kernel_rfl) p_stopKnobs (by kernel_rfl) (by kernel_rfl) (by kernel_rfl) (by kernel_rfl) (by kernel_rfl) (by kernel_rfl) (by kernel_rfl) (by kernel_rfl) (by kernel_rfl) (by kernel_rfl) (by kernel_rfl) (by kernel_rfl) (by kernel_rfl) p_plainKeys (by kernel_rfl) p_stopsHeard p_mayEnter p_lifted p_make (by kernel_rfl) (by kernel_rfl) (by kernel_rfl) (by kernel_rfl)

theorem tried_row : Rows.TrialTriedSaid :=
  OpenClaim.holds_of_wide 12 Tryd.f12 rfl rfl rfl rfl rfl rfl rfl ⟨rfl, rfl, rfl, rfl, rfl⟩ rfl rfl rfl rfl rfl (by kernel_rfl) Tryd.func12 tried_joined
    (of_decide_eq_true (by kernel_rfl)) (by unfold Func.isWrapper; first | (rw [if_pos (by decide +kernel)]; kernel_rfl) | (rw [if_neg (by decide +kernel)]; exact ⟨rfl, rfl⟩))
    (fun os started H enc _ => tried_lifted os started H enc)

theorem tried_goes : false = Rows.trialTriedRow.goesBy Tryd.prog := by kernel_rfl

theorem tried_stand : (Tryd.f12.params.all fun t => !Tryd.prog.wantsStandIn t) = true := by kernel_rfl

theorem tried_card : Rows.TrialTriedCardSaid :=
  Claim7.holds_tied_plain_at .later [] [.data, .pinned] true (true, "a95ab0dca0f4d6435f9c5e52d6dfd53cbca5ede0a20be2dbf1374da01667d882") false
    tried_row (fun _ h => by cases h) (by kernel_rfl) (fun _ h => by cases h) trialTried_row_tie rfl ⟨rfl, rfl⟩ p_main rfl
    (fun f fn hf hfn => by
      obtain rfl : f = 12 := Option.some.inj ((show Tryd.prog.funcNamed "novaculite/novaculitelaw04.TrialTried" = some 12 by kernel_rfl).symm.trans hf) |>.symm
      obtain rfl : fn = Tryd.f12 := (Option.some.inj (Tryd.func12.symm.trans hfn)).symm
      exact ⟨p_looks, fun j t ht => by
        have := Array.all_eq_true_iff_forall_mem.1 tried_stand t (Array.mem_of_getElem? ht)
        have h : Tryd.prog.wantsStandIn t = false := by simpa using this
        exact h⟩)
    tried_goes
#print axioms tried_card
end Go.Proofs.YtgnkjmgkfibipaaDoor
