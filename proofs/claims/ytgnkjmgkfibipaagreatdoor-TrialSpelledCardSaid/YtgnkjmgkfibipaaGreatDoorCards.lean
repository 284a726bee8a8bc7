/-
  DERIVED. GIVEN WITH THE SEED: THE CARDS: each row of YtgnkjmgkfibipaaGreatDoorRows.lean that lists a variable, with what it lists TIED to the program's text (the seventh form; the later family's looks); each row that meets fmt, with fmt's text TOLD by the authors' own Lean function (tested against real Go, not proved from fmt's source: count such statements apart). THE CARD IS WHAT COUNTS. Prove the row's statement (the work); the ties are given (YtgnkjmgkfibipaaGreatDoorTie.lean); close each card by the builder's one call (the guide's Derived/Test/ToyasCard.lean, 'card_holds'). Laid BY PROGRAM, IN A SANDBOX (cutbox-door.mjs). By AI agents, Wed Nov 11 2026. No macro, syntax, notation, axiom, sorry.
-/
import Derived.Test.YtgnkjmgkfibipaaGreatDoorRows
import GoSem.ClaimSeven
namespace Go.Proofs.YtgnkjmgkfibipaaGreatDoor
namespace Rows

/-- THE TIED CARD OF 'novaculitelaw04.TrialPlans'. -/
def trialPlansCard : Claim7 := { stood := { row := trialPlansRow, standIns := [], harness := (true, "2fac328ded0a24f02bf277e2e61838022269ca33ac82b0059d4dfe2c6283145a"), looks := false }, kinds := [], alts := [], laidByText := true, laidKinds := [.data, .pinned], laidTests := true, laidLooks := .later }
def TrialPlansCardSaid : Prop := Claim7.holds Tryz.pinned (.plain (OpenSpec.ofChange trialPlansSpec)) trialPlansCard

/-- THE TIED CARD OF 'novaculitelaw04.TrialSpelled'. -/
def trialSpelledCard : Claim7 := { stood := { row := trialSpelledRow, standIns := [], harness := (true, "2fac328ded0a24f02bf277e2e61838022269ca33ac82b0059d4dfe2c6283145a"), looks := false }, kinds := [], alts := [], laidByText := true, laidKinds := [.data, .pinned], laidTests := true, laidLooks := .later }
def TrialSpelledCardSaid : Prop := Claim7.holds Tryz.pinned (.plain (OpenSpec.ofChange trialSpelledSpec)) trialSpelledCard

/-- THE SECOND FORM's CARD OF 'novaculitelaw04.TrialPlans'. -/
def trialPlansUptoCard : Claim7 := { stood := { row := trialPlansUptoRow, standIns := [], harness := (true, "2fac328ded0a24f02bf277e2e61838022269ca33ac82b0059d4dfe2c6283145a"), looks := false }, kinds := [], alts := [], laidByText := true, laidKinds := [.data, .pinned], laidTests := true, laidLooks := .later }
def TrialPlansUptoCardSaid : Prop := Claim7.holds Tryz.pinned (.plain (OpenSpec.upto trialPlansSpec)) trialPlansUptoCard

/-- THE SECOND FORM's CARD OF 'novaculitelaw04.TrialSpelled'. -/
def trialSpelledUptoCard : Claim7 := { stood := { row := trialSpelledUptoRow, standIns := [], harness := (true, "2fac328ded0a24f02bf277e2e61838022269ca33ac82b0059d4dfe2c6283145a"), looks := false }, kinds := [], alts := [], laidByText := true, laidKinds := [.data, .pinned], laidTests := true, laidLooks := .later }
def TrialSpelledUptoCardSaid : Prop := Claim7.holds Tryz.pinned (.plain (OpenSpec.upto trialSpelledSpec)) trialSpelledUptoCard
end Rows
end Go.Proofs.YtgnkjmgkfibipaaGreatDoor
