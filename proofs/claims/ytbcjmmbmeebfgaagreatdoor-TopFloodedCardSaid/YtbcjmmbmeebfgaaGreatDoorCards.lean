/-
  DERIVED. GIVEN WITH THE SEED: THE CARDS: each row of YtbcjmmbmeebfgaaGreatDoorRows.lean that lists a variable, with what it lists TIED to the program's text (the seventh form; the later family's looks); each row that meets fmt, with fmt's text TOLD by the authors' own Lean function (tested against real Go, not proved from fmt's source: count such statements apart). THE CARD IS WHAT COUNTS. Prove the row's statement (the work); the ties are given (YtbcjmmbmeebfgaaGreatDoorTie.lean); close each card by the builder's one call (the guide's Derived/Test/ToyasCard.lean, 'card_holds'). Laid BY PROGRAM, IN A SANDBOX (cutbox-door.mjs). By AI agents, Wed Nov 11 2026. No macro, syntax, notation, axiom, sorry.
-/
import Derived.Test.YtbcjmmbmeebfgaaGreatDoorRows
import GoSem.ClaimSeven
namespace Go.Proofs.YtbcjmmbmeebfgaaGreatDoor
namespace Rows

/-- THE TIED CARD OF 'novaculitetop.TopFlooded'. -/
def topFloodedCard : Claim7 := { stood := { row := topFloodedRow, standIns := [], harness := (true, "e2f1466eeb4800ca71e6029e407fccf16044b05989352f7a54bf037b38230f96"), looks := true }, kinds := [], alts := [], laidByText := true, laidKinds := [.data, .data], laidTests := true, laidLooks := .later }
def TopFloodedCardSaid : Prop := Claim7.holds Tryz.pinned (.plain (OpenSpec.ofChange topFloodedSpec)) topFloodedCard

/-- THE TIED CARD OF 'novaculitetop.TopNarrowed'. -/
def topNarrowedCard : Claim7 := { stood := { row := topNarrowedRow, standIns := [], harness := (true, "e2f1466eeb4800ca71e6029e407fccf16044b05989352f7a54bf037b38230f96"), looks := true }, kinds := [], alts := [], laidByText := true, laidKinds := [.data, .data], laidTests := true, laidLooks := .later }
def TopNarrowedCardSaid : Prop := Claim7.holds Tryz.pinned (.plain (OpenSpec.ofChange topNarrowedSpec)) topNarrowedCard

/-- THE SECOND FORM's CARD OF 'novaculitetop.TopFlooded'. -/
def topFloodedUptoCard : Claim7 := { stood := { row := topFloodedUptoRow, standIns := [], harness := (true, "e2f1466eeb4800ca71e6029e407fccf16044b05989352f7a54bf037b38230f96"), looks := true }, kinds := [], alts := [], laidByText := true, laidKinds := [.data, .data], laidTests := true, laidLooks := .later }
def TopFloodedUptoCardSaid : Prop := Claim7.holds Tryz.pinned (.plain (OpenSpec.upto topFloodedSpec)) topFloodedUptoCard

/-- THE SECOND FORM's CARD OF 'novaculitetop.TopNarrowed'. -/
def topNarrowedUptoCard : Claim7 := { stood := { row := topNarrowedUptoRow, standIns := [], harness := (true, "e2f1466eeb4800ca71e6029e407fccf16044b05989352f7a54bf037b38230f96"), looks := true }, kinds := [], alts := [], laidByText := true, laidKinds := [.data, .data], laidTests := true, laidLooks := .later }
def TopNarrowedUptoCardSaid : Prop := Claim7.holds Tryz.pinned (.plain (OpenSpec.upto topNarrowedSpec)) topNarrowedUptoCard
end Rows
end Go.Proofs.YtbcjmmbmeebfgaaGreatDoor
