/-
  DERIVED. GIVEN WITH THE SEED: THE CARDS: each row of YtgnkjmgkfibipaaDoorRows.lean that lists a variable, with what it lists TIED to the program's text (the seventh form; the later family's looks); each row that meets fmt, with fmt's text TOLD by the authors' own Lean function (tested against real Go, not proved from fmt's source: count such statements apart). THE CARD IS WHAT COUNTS. Prove the row's statement (the work); the ties are given (YtgnkjmgkfibipaaDoorTie.lean); close each card by the builder's one call (the guide's Derived/Test/ToyasCard.lean, 'card_holds'). Laid BY PROGRAM, IN A SANDBOX (cutbox-door.mjs). By AI agents, Wed Nov 11 2026. No macro, syntax, notation, axiom, sorry.
-/
import Derived.Test.YtgnkjmgkfibipaaDoorRows
import GoSem.ClaimSeven
namespace Go.Proofs.YtgnkjmgkfibipaaDoor
namespace Rows

/-- THE TIED CARD OF 'novaculitelaw04.TrialWords'. -/
def trialWordsCard : Claim7 := { stood := { row := trialWordsRow, standIns := [], harness := (true, "a95ab0dca0f4d6435f9c5e52d6dfd53cbca5ede0a20be2dbf1374da01667d882"), looks := false }, kinds := [], alts := [], laidByText := true, laidKinds := [.data, .pinned], laidTests := true, laidLooks := .later }
def TrialWordsCardSaid : Prop := Claim7.holds Tryd.pinned (.plain (OpenSpec.ofChange trialWordsSpec)) trialWordsCard

/-- THE TIED CARD OF 'novaculitelaw04.TrialPrices'. -/
def trialPricesCard : Claim7 := { stood := { row := trialPricesRow, standIns := [], harness := (true, "a95ab0dca0f4d6435f9c5e52d6dfd53cbca5ede0a20be2dbf1374da01667d882"), looks := false }, kinds := [], alts := [], laidByText := true, laidKinds := [.data, .pinned], laidTests := true, laidLooks := .later }
def TrialPricesCardSaid : Prop := Claim7.holds Tryd.pinned (.plain (OpenSpec.ofChange trialPricesSpec)) trialPricesCard

/-- THE TIED CARD OF 'novaculitelaw04.TrialNumbers'. -/
def trialNumbersCard : Claim7 := { stood := { row := trialNumbersRow, standIns := [], harness := (true, "a95ab0dca0f4d6435f9c5e52d6dfd53cbca5ede0a20be2dbf1374da01667d882"), looks := false }, kinds := [], alts := [], laidByText := true, laidKinds := [.data, .pinned], laidTests := true, laidLooks := .later }
def TrialNumbersCardSaid : Prop := Claim7.holds Tryd.pinned (.plain (OpenSpec.ofChange trialNumbersSpec)) trialNumbersCard

/-- THE TIED CARD OF 'novaculitelaw04.TrialReach'. -/
def trialReachCard : Claim7 := { stood := { row := trialReachRow, standIns := [], harness := (true, "a95ab0dca0f4d6435f9c5e52d6dfd53cbca5ede0a20be2dbf1374da01667d882"), looks := false }, kinds := [], alts := [], laidByText := true, laidKinds := [.data, .pinned], laidTests := true, laidLooks := .later }
def TrialReachCardSaid : Prop := Claim7.holds Tryd.pinned (.plain (OpenSpec.ofChange trialReachSpec)) trialReachCard

/-- THE TIED CARD OF 'novaculitelaw04.TrialWorse'. -/
def trialWorseCard : Claim7 := { stood := { row := trialWorseRow, standIns := [], harness := (true, "a95ab0dca0f4d6435f9c5e52d6dfd53cbca5ede0a20be2dbf1374da01667d882"), looks := false }, kinds := [], alts := [], laidByText := true, laidKinds := [.data, .pinned], laidTests := true, laidLooks := .later }
def TrialWorseCardSaid : Prop := Claim7.holds Tryd.pinned (.plain (OpenSpec.ofChange trialWorseSpec)) trialWorseCard

/-- THE TIED CARD OF 'novaculitelaw04.TrialResults'. -/
def trialResultsCard : Claim7 := { stood := { row := trialResultsRow, standIns := [], harness := (true, "a95ab0dca0f4d6435f9c5e52d6dfd53cbca5ede0a20be2dbf1374da01667d882"), looks := false }, kinds := [], alts := [], laidByText := true, laidKinds := [.data, .pinned], laidTests := true, laidLooks := .later }
def TrialResultsCardSaid : Prop := Claim7.holds Tryd.pinned (.plain (OpenSpec.ofChange trialResultsSpec)) trialResultsCard

/-- THE TIED CARD OF 'novaculitelaw04.TrialAsked'. -/
def trialAskedCard : Claim7 := { stood := { row := trialAskedRow, standIns := [], harness := (true, "a95ab0dca0f4d6435f9c5e52d6dfd53cbca5ede0a20be2dbf1374da01667d882"), looks := false }, kinds := [], alts := [], laidByText := true, laidKinds := [.data, .pinned], laidTests := true, laidLooks := .later }
def TrialAskedCardSaid : Prop := Claim7.holds Tryd.pinned (.plain (OpenSpec.ofChange trialAskedSpec)) trialAskedCard

/-- THE TIED CARD OF 'novaculitelaw04.TrialChecked'. -/
def trialCheckedCard : Claim7 := { stood := { row := trialCheckedRow, standIns := [], harness := (true, "a95ab0dca0f4d6435f9c5e52d6dfd53cbca5ede0a20be2dbf1374da01667d882"), looks := false }, kinds := [], alts := [], laidByText := true, laidKinds := [.data, .pinned], laidTests := true, laidLooks := .later }
def TrialCheckedCardSaid : Prop := Claim7.holds Tryd.pinned (.plain (OpenSpec.ofChange trialCheckedSpec)) trialCheckedCard

/-- THE TIED CARD OF 'novaculitelaw04.TrialWorded'. -/
def trialWordedCard : Claim7 := { stood := { row := trialWordedRow, standIns := [], harness := (true, "a95ab0dca0f4d6435f9c5e52d6dfd53cbca5ede0a20be2dbf1374da01667d882"), looks := false }, kinds := [], alts := [], laidByText := true, laidKinds := [.data, .pinned], laidTests := true, laidLooks := .later }
def TrialWordedCardSaid : Prop := Claim7.holds Tryd.pinned (.plain (OpenSpec.ofChange trialWordedSpec)) trialWordedCard

/-- THE TIED CARD OF 'novaculitelaw04.TrialTried'. -/
def trialTriedCard : Claim7 := { stood := { row := trialTriedRow, standIns := [], harness := (true, "a95ab0dca0f4d6435f9c5e52d6dfd53cbca5ede0a20be2dbf1374da01667d882"), looks := false }, kinds := [], alts := [], laidByText := true, laidKinds := [.data, .pinned], laidTests := true, laidLooks := .later }
def TrialTriedCardSaid : Prop := Claim7.holds Tryd.pinned (.plain (OpenSpec.ofChange trialTriedSpec)) trialTriedCard

/-- THE TIED CARD OF 'novaculitelaw04.TrialPriced'. -/
def trialPricedCard : Claim7 := { stood := { row := trialPricedRow, standIns := [], harness := (true, "a95ab0dca0f4d6435f9c5e52d6dfd53cbca5ede0a20be2dbf1374da01667d882"), looks := false }, kinds := [], alts := [], laidByText := true, laidKinds := [.data, .pinned], laidTests := true, laidLooks := .later }
def TrialPricedCardSaid : Prop := Claim7.holds Tryd.pinned (.plain (OpenSpec.ofChange trialPricedSpec)) trialPricedCard

/-- THE TIED CARD OF 'novaculitelaw04.TrialMore'. -/
def trialMoreCard : Claim7 := { stood := { row := trialMoreRow, standIns := [], harness := (true, "a95ab0dca0f4d6435f9c5e52d6dfd53cbca5ede0a20be2dbf1374da01667d882"), looks := false }, kinds := [], alts := [], laidByText := true, laidKinds := [.data, .pinned], laidTests := true, laidLooks := .later }
def TrialMoreCardSaid : Prop := Claim7.holds Tryd.pinned (.plain (OpenSpec.ofChange trialMoreSpec)) trialMoreCard

/-- THE TIED CARD OF 'novaculitelaw04.TrialBest'. -/
def trialBestCard : Claim7 := { stood := { row := trialBestRow, standIns := [], harness := (true, "a95ab0dca0f4d6435f9c5e52d6dfd53cbca5ede0a20be2dbf1374da01667d882"), looks := false }, kinds := [], alts := [], laidByText := true, laidKinds := [.data, .pinned], laidTests := true, laidLooks := .later }
def TrialBestCardSaid : Prop := Claim7.holds Tryd.pinned (.plain (OpenSpec.ofChange trialBestSpec)) trialBestCard

/-- THE TIED CARD OF 'novaculitelaw04.TrialSums'. -/
def trialSumsCard : Claim7 := { stood := { row := trialSumsRow, standIns := [], harness := (true, "a95ab0dca0f4d6435f9c5e52d6dfd53cbca5ede0a20be2dbf1374da01667d882"), looks := false }, kinds := [], alts := [], laidByText := true, laidKinds := [.data, .pinned], laidTests := true, laidLooks := .later }
def TrialSumsCardSaid : Prop := Claim7.holds Tryd.pinned (.plain (OpenSpec.ofChange trialSumsSpec)) trialSumsCard

/-- THE TIED CARD OF 'novaculitelaw04.TrialKnown'. -/
def trialKnownCard : Claim7 := { stood := { row := trialKnownRow, standIns := [], harness := (true, "a95ab0dca0f4d6435f9c5e52d6dfd53cbca5ede0a20be2dbf1374da01667d882"), looks := false }, kinds := [], alts := [], laidByText := true, laidKinds := [.data, .pinned], laidTests := true, laidLooks := .later }
def TrialKnownCardSaid : Prop := Claim7.holds Tryd.pinned (.plain (OpenSpec.ofChange trialKnownSpec)) trialKnownCard

/-- THE SECOND FORM's CARD OF 'novaculitelaw04.TrialWords'. -/
def trialWordsUptoCard : Claim7 := { stood := { row := trialWordsUptoRow, standIns := [], harness := (true, "a95ab0dca0f4d6435f9c5e52d6dfd53cbca5ede0a20be2dbf1374da01667d882"), looks := false }, kinds := [], alts := [], laidByText := true, laidKinds := [.data, .pinned], laidTests := true, laidLooks := .later }
def TrialWordsUptoCardSaid : Prop := Claim7.holds Tryd.pinned (.plain (OpenSpec.upto trialWordsSpec)) trialWordsUptoCard

/-- THE SECOND FORM's CARD OF 'novaculitelaw04.TrialPrices'. -/
def trialPricesUptoCard : Claim7 := { stood := { row := trialPricesUptoRow, standIns := [], harness := (true, "a95ab0dca0f4d6435f9c5e52d6dfd53cbca5ede0a20be2dbf1374da01667d882"), looks := false }, kinds := [], alts := [], laidByText := true, laidKinds := [.data, .pinned], laidTests := true, laidLooks := .later }
def TrialPricesUptoCardSaid : Prop := Claim7.holds Tryd.pinned (.plain (OpenSpec.upto trialPricesSpec)) trialPricesUptoCard

/-- THE SECOND FORM's CARD OF 'novaculitelaw04.TrialNumbers'. -/
def trialNumbersUptoCard : Claim7 := { stood := { row := trialNumbersUptoRow, standIns := [], harness := (true, "a95ab0dca0f4d6435f9c5e52d6dfd53cbca5ede0a20be2dbf1374da01667d882"), looks := false }, kinds := [], alts := [], laidByText := true, laidKinds := [.data, .pinned], laidTests := true, laidLooks := .later }
def TrialNumbersUptoCardSaid : Prop := Claim7.holds Tryd.pinned (.plain (OpenSpec.upto trialNumbersSpec)) trialNumbersUptoCard

/-- THE SECOND FORM's CARD OF 'novaculitelaw04.TrialReach'. -/
def trialReachUptoCard : Claim7 := { stood := { row := trialReachUptoRow, standIns := [], harness := (true, "a95ab0dca0f4d6435f9c5e52d6dfd53cbca5ede0a20be2dbf1374da01667d882"), looks := false }, kinds := [], alts := [], laidByText := true, laidKinds := [.data, .pinned], laidTests := true, laidLooks := .later }
def TrialReachUptoCardSaid : Prop := Claim7.holds Tryd.pinned (.plain (OpenSpec.upto trialReachSpec)) trialReachUptoCard

/-- THE SECOND FORM's CARD OF 'novaculitelaw04.TrialWorse'. -/
def trialWorseUptoCard : Claim7 := { stood := { row := trialWorseUptoRow, standIns := [], harness := (true, "a95ab0dca0f4d6435f9c5e52d6dfd53cbca5ede0a20be2dbf1374da01667d882"), looks := false }, kinds := [], alts := [], laidByText := true, laidKinds := [.data, .pinned], laidTests := true, laidLooks := .later }
def TrialWorseUptoCardSaid : Prop := Claim7.holds Tryd.pinned (.plain (OpenSpec.upto trialWorseSpec)) trialWorseUptoCard

/-- THE SECOND FORM's CARD OF 'novaculitelaw04.TrialResults'. -/
def trialResultsUptoCard : Claim7 := { stood := { row := trialResultsUptoRow, standIns := [], harness := (true, "a95ab0dca0f4d6435f9c5e52d6dfd53cbca5ede0a20be2dbf1374da01667d882"), looks := false }, kinds := [], alts := [], laidByText := true, laidKinds := [.data, .pinned], laidTests := true, laidLooks := .later }
def TrialResultsUptoCardSaid : Prop := Claim7.holds Tryd.pinned (.plain (OpenSpec.upto trialResultsSpec)) trialResultsUptoCard

/-- THE SECOND FORM's CARD OF 'novaculitelaw04.TrialAsked'. -/
def trialAskedUptoCard : Claim7 := { stood := { row := trialAskedUptoRow, standIns := [], harness := (true, "a95ab0dca0f4d6435f9c5e52d6dfd53cbca5ede0a20be2dbf1374da01667d882"), looks := false }, kinds := [], alts := [], laidByText := true, laidKinds := [.data, .pinned], laidTests := true, laidLooks := .later }
def TrialAskedUptoCardSaid : Prop := Claim7.holds Tryd.pinned (.plain (OpenSpec.upto trialAskedSpec)) trialAskedUptoCard

/-- THE SECOND FORM's CARD OF 'novaculitelaw04.TrialChecked'. -/
def trialCheckedUptoCard : Claim7 := { stood := { row := trialCheckedUptoRow, standIns := [], harness := (true, "a95ab0dca0f4d6435f9c5e52d6dfd53cbca5ede0a20be2dbf1374da01667d882"), looks := false }, kinds := [], alts := [], laidByText := true, laidKinds := [.data, .pinned], laidTests := true, laidLooks := .later }
def TrialCheckedUptoCardSaid : Prop := Claim7.holds Tryd.pinned (.plain (OpenSpec.upto trialCheckedSpec)) trialCheckedUptoCard

/-- THE SECOND FORM's CARD OF 'novaculitelaw04.TrialWorded'. -/
def trialWordedUptoCard : Claim7 := { stood := { row := trialWordedUptoRow, standIns := [], harness := (true, "a95ab0dca0f4d6435f9c5e52d6dfd53cbca5ede0a20be2dbf1374da01667d882"), looks := false }, kinds := [], alts := [], laidByText := true, laidKinds := [.data, .pinned], laidTests := true, laidLooks := .later }
def TrialWordedUptoCardSaid : Prop := Claim7.holds Tryd.pinned (.plain (OpenSpec.upto trialWordedSpec)) trialWordedUptoCard

/-- THE SECOND FORM's CARD OF 'novaculitelaw04.TrialTried'. -/
def trialTriedUptoCard : Claim7 := { stood := { row := trialTriedUptoRow, standIns := [], harness := (true, "a95ab0dca0f4d6435f9c5e52d6dfd53cbca5ede0a20be2dbf1374da01667d882"), looks := false }, kinds := [], alts := [], laidByText := true, laidKinds := [.data, .pinned], laidTests := true, laidLooks := .later }
def TrialTriedUptoCardSaid : Prop := Claim7.holds Tryd.pinned (.plain (OpenSpec.upto trialTriedSpec)) trialTriedUptoCard

/-- THE SECOND FORM's CARD OF 'novaculitelaw04.TrialPriced'. -/
def trialPricedUptoCard : Claim7 := { stood := { row := trialPricedUptoRow, standIns := [], harness := (true, "a95ab0dca0f4d6435f9c5e52d6dfd53cbca5ede0a20be2dbf1374da01667d882"), looks := false }, kinds := [], alts := [], laidByText := true, laidKinds := [.data, .pinned], laidTests := true, laidLooks := .later }
def TrialPricedUptoCardSaid : Prop := Claim7.holds Tryd.pinned (.plain (OpenSpec.upto trialPricedSpec)) trialPricedUptoCard

/-- THE SECOND FORM's CARD OF 'novaculitelaw04.TrialMore'. -/
def trialMoreUptoCard : Claim7 := { stood := { row := trialMoreUptoRow, standIns := [], harness := (true, "a95ab0dca0f4d6435f9c5e52d6dfd53cbca5ede0a20be2dbf1374da01667d882"), looks := false }, kinds := [], alts := [], laidByText := true, laidKinds := [.data, .pinned], laidTests := true, laidLooks := .later }
def TrialMoreUptoCardSaid : Prop := Claim7.holds Tryd.pinned (.plain (OpenSpec.upto trialMoreSpec)) trialMoreUptoCard

/-- THE SECOND FORM's CARD OF 'novaculitelaw04.TrialBest'. -/
def trialBestUptoCard : Claim7 := { stood := { row := trialBestUptoRow, standIns := [], harness := (true, "a95ab0dca0f4d6435f9c5e52d6dfd53cbca5ede0a20be2dbf1374da01667d882"), looks := false }, kinds := [], alts := [], laidByText := true, laidKinds := [.data, .pinned], laidTests := true, laidLooks := .later }
def TrialBestUptoCardSaid : Prop := Claim7.holds Tryd.pinned (.plain (OpenSpec.upto trialBestSpec)) trialBestUptoCard

/-- THE SECOND FORM's CARD OF 'novaculitelaw04.TrialSums'. -/
def trialSumsUptoCard : Claim7 := { stood := { row := trialSumsUptoRow, standIns := [], harness := (true, "a95ab0dca0f4d6435f9c5e52d6dfd53cbca5ede0a20be2dbf1374da01667d882"), looks := false }, kinds := [], alts := [], laidByText := true, laidKinds := [.data, .pinned], laidTests := true, laidLooks := .later }
def TrialSumsUptoCardSaid : Prop := Claim7.holds Tryd.pinned (.plain (OpenSpec.upto trialSumsSpec)) trialSumsUptoCard

/-- THE SECOND FORM's CARD OF 'novaculitelaw04.TrialKnown'. -/
def trialKnownUptoCard : Claim7 := { stood := { row := trialKnownUptoRow, standIns := [], harness := (true, "a95ab0dca0f4d6435f9c5e52d6dfd53cbca5ede0a20be2dbf1374da01667d882"), looks := false }, kinds := [], alts := [], laidByText := true, laidKinds := [.data, .pinned], laidTests := true, laidLooks := .later }
def TrialKnownUptoCardSaid : Prop := Claim7.holds Tryd.pinned (.plain (OpenSpec.upto trialKnownSpec)) trialKnownUptoCard
end Rows
end Go.Proofs.YtgnkjmgkfibipaaDoor
