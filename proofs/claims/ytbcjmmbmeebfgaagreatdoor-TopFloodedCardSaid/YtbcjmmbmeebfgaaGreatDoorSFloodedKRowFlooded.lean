/- TopFlooded: for every input the law answers true: the row and its tied card. -/
import Derived.Test.YtbcjmmbmeebfgaaGreatDoorSFloodedKLawFlooded
import Derived.Test.YtbcjmmbmeebfgaaGreatDoorSFloodedKJoin
import Derived.Test.YtbcjmmbmeebfgaaGreatDoorSFloodedKMain
namespace Go.Proofs.YtbcjmmbmeebfgaaGreatDoor
set_option linter.unusedVariables false
set_option linter.unusedSimpArgs false
open Go.ChangeShapes Go.WideShapes Go.ChangeAt Go.RowKit
open Go
set_option maxRecDepth 1000000

theorem flooded_joined : joinedFacts Tryz.prog 3 Tryz.f3 Rows.topFloodedSpec Rows.topFloodedRow = true :=
  joined_of (by kernel_rfl) p_laidOut p_mapsRowed (by kernel_rfl) (by kernel_rfl) (by kernel_rfl) p_stops (by kernel_rfl) p_stopKnobs (by kernel_rfl) (by kernel_rfl) (by kernel_rfl) (by kernel_rfl) (by kernel_rfl) (by kernel_rfl) (by kernel_rfl) (by kernel_rfl) (by kernel_rfl) (by kernel_rfl) (by kernel_rfl) (by kernel_rfl) (by kernel_rfl) p_plainKeys (by kernel_rfl) p_stopsHeard p_mayEnter p_lifted p_make (by kernel_rfl) (by kernel_rfl) (by kernel_rfl) (by kernel_rfl)

theorem flooded_row : Rows.TopFloodedSaid :=
  OpenClaim.holds_of_wide 3 Tryz.f3 rfl rfl rfl rfl rfl rfl rfl ⟨rfl, rfl, rfl, rfl, rfl⟩ rfl rfl rfl rfl rfl (by kernel_rfl) Tryz.func3 flooded_joined
    (of_decide_eq_true (by kernel_rfl)) (by unfold Func.isWrapper; first | (rw [if_pos (by decide +kernel)]; kernel_rfl) | (rw [if_neg (by decide +kernel)]; exact ⟨rfl, rfl⟩))
    (fun os started H enc _ => flooded_lifted os started H enc)

theorem flooded_goes : false = Rows.topFloodedRow.goesBy Tryz.prog := by kernel_rfl

theorem flooded_stand : (Tryz.f3.params.all fun t => !Tryz.prog.wantsStandIn t) = true := by kernel_rfl

theorem flooded_card : Rows.TopFloodedCardSaid :=
  Claim7.holds_tied_plain_at .later [] [.data, .data] true (true, "e2f1466eeb4800ca71e6029e407fccf16044b05989352f7a54bf037b38230f96") true
    flooded_row (fun _ h => by cases h) (by kernel_rfl) (fun _ h => by cases h) topFlooded_row_tie rfl ⟨rfl, rfl⟩ p_main rfl
    (fun f fn hf hfn => by
      obtain rfl : f = 3 := Option.some.inj ((show Tryz.prog.funcNamed "novaculite/novaculitetop.TopFlooded" = some 3 by kernel_rfl).symm.trans hf) |>.symm
      obtain rfl : fn = Tryz.f3 := (Option.some.inj (Tryz.func3.symm.trans hfn)).symm
      exact ⟨p_looks, fun j t ht => by
        have := Array.all_eq_true_iff_forall_mem.1 flooded_stand t (Array.mem_of_getElem? ht)
        have h : Tryz.prog.wantsStandIn t = false := by simpa using this
        exact h⟩)
    flooded_goes
#print axioms flooded_card
end Go.Proofs.YtbcjmmbmeebfgaaGreatDoor
