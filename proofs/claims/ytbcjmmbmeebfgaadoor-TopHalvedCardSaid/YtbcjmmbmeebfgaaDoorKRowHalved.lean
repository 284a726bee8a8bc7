/- TopHalved: for every input the law answers true: the row and its tied card. -/
import Derived.Test.YtbcjmmbmeebfgaaDoorKLawHalved
import Derived.Test.YtbcjmmbmeebfgaaDoorKJoin
import Derived.Test.YtbcjmmbmeebfgaaDoorKMain
namespace Go.Proofs.YtbcjmmbmeebfgaaDoor
set_option linter.unusedVariables false
set_option linter.unusedSimpArgs false
open Go.ChangeShapes Go.WideShapes Go.ChangeAt Go.RowKit
open Go
set_option maxRecDepth 1000000

theorem halved_joined : joinedFacts Tryd.prog 3 Tryd.f3 Rows.topHalvedSpec Rows.topHalvedRow = true :=
  joined_of (by kernel_rfl) p_laidOut p_mapsRowed (by kernel_rfl) (by kernel_rfl) (by kernel_rfl) p_stops (by kernel_rfl) p_stopKnobs (by kernel_rfl) (by kernel_rfl) (by kernel_rfl) (by kernel_rfl) (by kernel_rfl) (by kernel_rfl) (by kernel_rfl) (by kernel_rfl) (by kernel_rfl) (by kernel_rfl) (by kernel_rfl) (by kernel_rfl) (by kernel_rfl) p_plainKeys (by kernel_rfl) p_stopsHeard p_mayEnter p_lifted p_make (by kernel_rfl) (by kernel_rfl) (by kernel_rfl) (by kernel_rfl)

theorem halved_row : Rows.TopHalvedSaid :=
  OpenClaim.holds_of_wide 3 Tryd.f3 rfl rfl rfl rfl rfl rfl rfl ⟨rfl, rfl, rfl, rfl, rfl⟩ rfl rfl rfl rfl rfl (by kernel_rfl) Tryd.func3 halved_joined
    (of_decide_eq_true (by kernel_rfl)) (by unfold Func.isWrapper; first | (rw [if_pos (by decide +kernel)]; kernel_rfl) | (rw [if_neg (by decide +kernel)]; exact ⟨rfl, rfl⟩))
    (fun os started H enc _ => halved_lifted os started H enc)

theorem halved_goes : false = Rows.topHalvedRow.goesBy Tryd.prog := by kernel_rfl

theorem halved_stand : (Tryd.f3.params.all fun t => !Tryd.prog.wantsStandIn t) = true := by kernel_rfl

theorem halved_card : Rows.TopHalvedCardSaid :=
  Claim7.holds_tied_plain_at .later [] [.data, .data] true (true, "ffe717b3ef1e5565e56f3ca69e2baf7c05d833db7ff48f5e04adef6781424ba1") true
    halved_row (fun _ h => by cases h) (by kernel_rfl) (fun _ h => by cases h) topHalved_row_tie rfl ⟨rfl, rfl⟩ p_main rfl
    (fun f fn hf hfn => by
      obtain rfl : f = 3 := Option.some.inj ((show Tryd.prog.funcNamed "novaculite/novaculitetop.TopHalved" = some 3 by kernel_rfl).symm.trans hf) |>.symm
      obtain rfl : fn = Tryd.f3 := (Option.some.inj (Tryd.func3.symm.trans hfn)).symm
      exact ⟨p_looks, fun j t ht => by
        have := Array.all_eq_true_iff_forall_mem.1 halved_stand t (Array.mem_of_getElem? ht)
        have h : Tryd.prog.wantsStandIn t = false := by simpa using this
        exact h⟩)
    halved_goes
#print axioms halved_card
end Go.Proofs.YtbcjmmbmeebfgaaDoor
