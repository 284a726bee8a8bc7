/-
  DERIVED. GIVEN WITH THE SEED: THE CARDS: each row of YtbcjmmbmeebfgaaDoorRows.lean that lists a variable, with what it lists TIED to the program's text (the seventh form; the later family's looks); each row that meets fmt, with fmt's text TOLD by the authors' own Lean function (tested against real Go, not proved from fmt's source: count such statements apart). THE CARD IS WHAT COUNTS. Prove the row's statement (the work); the ties are given (YtbcjmmbmeebfgaaDoorTie.lean); close each card by the builder's one call (the guide's Derived/Test/ToyasCard.lean, 'card_holds'). Laid BY PROGRAM, IN A SANDBOX (cutbox-door.mjs). By AI agents, Wed Nov 11 2026. No macro, syntax, notation, axiom, sorry.
-/
import Derived.Test.YtbcjmmbmeebfgaaDoorRows
import GoSem.ClaimSeven
namespace Go.Proofs.YtbcjmmbmeebfgaaDoor
namespace Rows

/-- THE TIED CARD OF 'novaculitetop.TopHalved'. -/
def topHalvedCard : Claim7 := { stood := { row := topHalvedRow, standIns := [], harness := (true, "ffe717b3ef1e5565e56f3ca69e2baf7c05d833db7ff48f5e04adef6781424ba1"), looks := true }, kinds := [], alts := [], laidByText := true, laidKinds := [.data, .data], laidTests := true, laidLooks := .later }
def TopHalvedCardSaid : Prop := Claim7.holds Tryd.pinned (.plain (OpenSpec.ofChange topHalvedSpec)) topHalvedCard

/-- THE SECOND FORM's CARD OF 'novaculitetop.TopHalved'. -/
def topHalvedUptoCard : Claim7 := { stood := { row := topHalvedUptoRow, standIns := [], harness := (true, "ffe717b3ef1e5565e56f3ca69e2baf7c05d833db7ff48f5e04adef6781424ba1"), looks := true }, kinds := [], alts := [], laidByText := true, laidKinds := [.data, .data], laidTests := true, laidLooks := .later }
def TopHalvedUptoCardSaid : Prop := Claim7.holds Tryd.pinned (.plain (OpenSpec.upto topHalvedSpec)) topHalvedUptoCard
end Rows
end Go.Proofs.YtbcjmmbmeebfgaaDoor
