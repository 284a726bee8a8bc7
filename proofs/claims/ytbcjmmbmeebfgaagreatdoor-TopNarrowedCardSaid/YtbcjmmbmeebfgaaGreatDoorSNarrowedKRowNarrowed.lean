/- TopNarrowed: for every input the law answers true: the row and its tied card. -/
import Derived.Test.YtbcjmmbmeebfgaaGreatDoorSNarrowedKLawNarrowed
import Derived.Test.YtbcjmmbmeebfgaaGreatDoorSNarrowedKJoin
import Derived.Test.YtbcjmmbmeebfgaaGreatDoorSNarrowedKMain
namespace Go.Proofs.YtbcjmmbmeebfgaaGreatDoor
set_option linter.unusedVariables false
set_option linter.unusedSimpArgs false
open Go.ChangeShapes Go.WideShapes Go.ChangeAt Go.RowKit
open Go
set_option maxRecDepth 1000000

theorem narrowed_joined : joinedFacts Tryz.prog 4 Tryz.f4 Rows.topNarrowedSpec Rows.topNarrowedRow = true :=
  joined_of (by kernel_rfl) p_laidOut p_mapsRowed (by kernel_rfl) (by kernel_rfl) (by kernel_rfl) p_stops (by kernel_rfl) p_stopKnobs (by kernel_rfl) (by kernel_rfl) (by kernel_rfl) (by kernel_rfl) (by kernel_rfl) (by kernel_rfl) (by kernel_rfl) (by kernel_rfl) (by kernel_rfl) (by kernel_rfl) (by kernel_rfl) (by kernel_rfl) (by kernel_rfl) p_plainKeys (by kernel_rfl) p_stopsHeard p_mayEnter p_lifted p_make (by kernel_rfl) (by kernel_rfl) (by kernel_rfl) (by kernel_rfl)

theorem narrowed_row : Rows.TopNarrowedSaid :=
  OpenClaim.holds_of_wide 4 Tryz.f4 rfl rfl rfl rfl rfl rfl rfl ⟨rfl, rfl, rfl, rfl, rfl⟩ rfl rfl rfl rfl rfl (by kernel_rfl) Tryz.func4 narrowed_joined
    (of_decide_eq_true (by kernel_rfl)) (by unfold Func.isWrapper; first | (rw [if_pos (by decide +kernel)]; kernel_rfl) | (rw [if_neg (by decide +kernel)]; exact ⟨rfl, rfl⟩))
    (fun os started H enc _ => narrowed_lifted os started H enc)

theorem narrowed_goes : false = Rows.topNarrowedRow.goesBy Tryz.prog := by kernel_rfl

theorem narrowed_stand : (Tryz.f4.params.all fun t => !Tryz.prog.wantsStandIn t) = true := by kernel_rfl

theorem narrowed_card : Rows.TopNarrowedCardSaid :=
  Claim7.holds_tied_plain_at .later [] [.data, .data] true (true, "e2f1466eeb4800ca71e6029e407fccf16044b05989352f7a54bf037b38230f96") true
    narrowed_row (fun _ h => by cases h) (by kernel_rfl) (fun _ h => by cases h) topNarrowed_row_tie rfl ⟨rfl, rfl⟩ p_main rfl
    (fun f fn hf hfn => by
      obtain rfl : f = 4 := Option.some.inj ((show Tryz.prog.funcNamed "novaculite/novaculitetop.TopNarrowed" = some 4 by kernel_rfl).symm.trans hf) |>.symm
      obtain rfl : fn = Tryz.f4 := (Option.some.inj (Tryz.func4.symm.trans hfn)).symm
      exact ⟨p_looks, fun j t ht => by
        have := Array.all_eq_true_iff_forall_mem.1 narrowed_stand t (Array.mem_of_getElem? ht)
        have h : Tryz.prog.wantsStandIn t = false := by simpa using this
        exact h⟩)
    narrowed_goes
#print axioms narrowed_card
end Go.Proofs.YtbcjmmbmeebfgaaGreatDoor
