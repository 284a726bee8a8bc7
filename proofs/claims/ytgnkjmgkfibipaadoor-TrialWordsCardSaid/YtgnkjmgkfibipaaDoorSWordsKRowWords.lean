/- TrialWords: for every input the law answers true: the row and its tied card. -/
import Derived.Test.YtgnkjmgkfibipaaDoorSWordsKTopWords
import Derived.Test.YtgnkjmgkfibipaaDoorSWordsKJoin
import Derived.Test.YtgnkjmgkfibipaaDoorSWordsKMain
namespace Go.Proofs.YtgnkjmgkfibipaaDoor
set_option linter.unusedVariables false
set_option linter.unusedSimpArgs false
open Go.ChangeShapes Go.WideShapes Go.ChangeAt Go.RowKit
open Go
set_option maxRecDepth 1000000

theorem words_joined : joinedFacts Tryd.prog 3 Tryd.f3 Rows.trialWordsSpec Rows.trialWordsRow = true :=
  joined_of (by kernel_rfl) p_laidOut p_mapsRowed (by kernel_rfl) (by kernel_rfl) (by kernel_rfl) p_stops (by kernel_rfl) p_stopKnobs (by kernel_rfl) (by kernel_rfl) (by kernel_rfl) (by kernel_rfl) (by kernel_rfl) (by kernel_rfl) (by kernel_rfl) (by kernel_rfl) (by kernel_rfl) (by kernel_rfl) (by kernel_rfl) (by kernel_rfl) (by kernel_rfl) p_plainKeys (by kernel_rfl) p_stopsHeard p_mayEnter p_lifted p_make (by kernel_rfl) (by kernel_rfl) (by kernel_rfl) (by kernel_rfl)

theorem words_row : Rows.TrialWordsSaid :=
  OpenClaim.holds_of_wide 3 Tryd.f3 rfl rfl rfl rfl rfl rfl rfl ⟨rfl, rfl, rfl, rfl, rfl⟩ rfl rfl rfl rfl rfl (by kernel_rfl) Tryd.func3 words_joined
    (of_decide_eq_true (by kernel_rfl)) (by unfold Func.isWrapper; first | (rw [if_pos (by decide +kernel)]; kernel_rfl) | (rw [if_neg (by decide +kernel)]; exact ⟨rfl, rfl⟩))
    (fun os started H enc _ => words_lifted os started H enc)

theorem words_goes : false = Rows.trialWordsRow.goesBy Tryd.prog := by kernel_rfl

theorem words_stand : (Tryd.f3.params.all fun t => !Tryd.prog.wantsStandIn t) = true := by kernel_rfl

theorem words_card : Rows.TrialWordsCardSaid :=
  Claim7.holds_tied_plain_at .later [] [.data, .pinned] true (true, "a95ab0dca0f4d6435f9c5e52d6dfd53cbca5ede0a20be2dbf1374da01667d882") false
    words_row (fun _ h => by cases h) (by kernel_rfl) (fun _ h => by cases h) trialWords_row_tie rfl ⟨rfl, rfl⟩ p_main rfl
    (fun f fn hf hfn => by
      obtain rfl : f = 3 := Option.some.inj ((show Tryd.prog.funcNamed "novaculite/novaculitelaw04.TrialWords" = some 3 by kernel_rfl).symm.trans hf) |>.symm
      obtain rfl : fn = Tryd.f3 := (Option.some.inj (Tryd.func3.symm.trans hfn)).symm
      exact ⟨p_looks, fun j t ht => by
        have := Array.all_eq_true_iff_forall_mem.1 words_stand t (Array.mem_of_getElem? ht)
        have h : Tryd.prog.wantsStandIn t = false := by simpa using this
        exact h⟩)
    words_goes
#print axioms words_card
end Go.Proofs.YtgnkjmgkfibipaaDoor
