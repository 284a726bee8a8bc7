/- TrialKnown: the row and its tied card. -/
import Derived.Test.YtgnkjmgkfibipaaDoorKLawKnown
import Derived.Test.YtgnkjmgkfibipaaDoorKJoin
import Derived.Test.YtgnkjmgkfibipaaDoorKMain
namespace Go.Proofs.YtgnkjmgkfibipaaDoor
set_option linter.unusedVariables false
set_option linter.unusedSimpArgs false
open Go.ChangeShapes Go.WideShapes Go.ChangeAt Go.RowKit
open Go

theorem known_joined : joinedFacts Tryd.prog 17 Tryd.f17 Rows.trialKnownSpec Rows.trialKnownRow = true :=
  joined_of (by kernel_rfl) p_laidOut p_mapsRowed (by kernel_rfl) (by kernel_rfl) (by kernel_rfl) p_stops (by kernel_rfl) p_stopKnobs (by kernel_rfl) (by kernel_rfl) (by kernel_rfl) (by kernel_rfl) (by kernel_rfl) (by kernel_rfl) (by kernel_rfl) (by kernel_rfl) (by kernel_rfl) (by kernel_rfl) (by kernel_rfl) (by kernel_rfl) (by kernel_rfl) p_plainKeys (by kernel_rfl) p_stopsHeard p_mayEnter p_lifted p_make (by kernel_rfl) (by kernel_rfl) (by kernel_rfl) (by kernel_rfl)

theorem known_row : Rows.TrialKnownSaid :=
  OpenClaim.holds_of_wide 17 Tryd.f17 rfl rfl rfl rfl rfl rfl rfl ⟨rfl, rfl, rfl, rfl, rfl⟩ rfl rfl rfl rfl rfl (by kernel_rfl) Tryd.func17 known_joined
    (of_decide_eq_true (by kernel_rfl)) (by unfold Func.isWrapper; first | (rw [if_pos (by decide +kernel)]; kernel_rfl) | (rw [if_neg (by decide +kernel)]; exact ⟨rfl, rfl⟩))
    (fun os started H enc _ => known_lifted os started H enc)

theorem known_goes : false = Rows.trialKnownRow.goesBy Tryd.prog := by kernel_rfl

theorem known_card : Rows.TrialKnownCardSaid :=
  Claim7.holds_tied_plain_at .later [] [.data, .pinned] true (true, "a95ab0dca0f4d6435f9c5e52d6dfd53cbca5ede0a20be2dbf1374da01667d882") false
    known_row (fun _ h => by cases h) (by kernel_rfl) (fun _ h => by cases h) trialKnown_row_tie rfl ⟨rfl, rfl⟩ p_main rfl
    (fun f fn hf hfn => by
      obtain rfl : f = 17 := Option.some.inj ((show Tryd.prog.funcNamed "novaculite/novaculitelaw04.TrialKnown" = some 17 by kernel_rfl).symm.trans hf) |>.symm
      obtain rfl : fn = Tryd.f17 := (Option.some.inj (Tryd.func17.symm.trans hfn)).symm
      exact ⟨p_looks, fun j t ht => by
        rw [Tryd.params17] at ht
        simp at ht⟩)
    known_goes
#print axioms known_card
end Go.Proofs.YtgnkjmgkfibipaaDoor
