/-
  NARROWER THAN 'FOR EVERY INPUT', by the rows' own cells (each row's printed sentence says how): TrialWords: laid · TrialPrices: laid · TrialNumbers: laid · TrialReach: laid · TrialWorse: laid · TrialResults: laid · TrialAsked: laid · TrialChecked: laid · TrialWorded: laid · TrialTried: laid · TrialPriced: laid · TrialMore: laid · TrialBest: laid · TrialSums: laid · TrialKnown: laid.
  DERIVED. THE GIVEN ROWS OF THIS SEAT. 15 by the template 'for every input the law returns true; each argument reads behind the call as it read before'; 0 by the template 'total and deterministic' (their statements: YtgnkjmgkfibipaaDoorTotals.lean).
  GIVEN WITH THE SEED: the statements are not yours to turn. If you find one false, say at which input.
  Laid BY PROGRAM, IN A SANDBOX (cutbox-rows.mjs): the forced cells as the released guide's own fill.sh prints them over the translation 499fb3115be6840f… (all of the seat's roots in one cut). By AI agents, Wed Nov 11 2026. No macro, syntax, notation, axiom, sorry.
-/
import Derived.Test.YtgnkjmgkfibipaaDoorChecked
import GoSem.PinnedTables
import GoSem.Claim
import GoSem.ClaimJoined
import GoSem.ClaimMapViews
import Derived.JoinedTies
import Derived.KernelRfl
namespace Go.Proofs.YtgnkjmgkfibipaaDoor
/- THE CELL 'sum', in the pinned program and in every row, IS THE sha256 OF THE DUMP (.gsa) THAT YtgnkjmgkfibipaaDoorProg.lean LOADS. Nothing in Lean hashes anything: it is a label: what it is worth is what the hold of that sum in a sandbox is worth. -/
noncomputable def Tryd.pinned : Pinned := { name := "ytgnkjmgkfibipaadoor", sum := "499fb3115be6840fa2d4fe1240733a8bff548c00d3280029582a9a19abde0aa8", checked := Tryd.checked }
namespace Rows
def none {H : Type} : Left H := { results := [], args := [] }

/- WHAT THE LISTED PACKAGE-LEVEL VARIABLES READ AS WHEN THE CALL BEGINS. Each datum BY PROGRAM (the guide's laid-datum.mjs) off the statement by which the dump's own 'gosem.cut.vars' lays the variable. In a bare row this is a premise. The card (YtgnkjmgkfibipaaDoorCards.lean) ties it to the program's text. -/
def laid_unicode_utf8_acceptRanges {H : Type} : DataW H := .agg [.agg [.lit (.int .u8 128), .lit (.int .u8 191)], .agg [.lit (.int .u8 160), .lit (.int .u8 191)], .agg [.lit (.int .u8 128), .lit (.int .u8 159)], .agg [.lit (.int .u8 144), .lit (.int .u8 191)], .agg [.lit (.int .u8 128), .lit (.int .u8 143)], .agg [.lit (.int .u8 0), .lit (.int .u8 0)], .agg [.lit (.int .u8 0), .lit (.int .u8 0)], .agg [.lit (.int .u8 0), .lit (.int .u8 0)], .agg [.lit (.int .u8 0), .lit (.int .u8 0)], .agg [.lit (.int .u8 0), .lit (.int .u8 0)], .agg [.lit (.int .u8 0), .lit (.int .u8 0)], .agg [.lit (.int .u8 0), .lit (.int .u8 0)], .agg [.lit (.int .u8 0), .lit (.int .u8 0)], .agg [.lit (.int .u8 0), .lit (.int .u8 0)], .agg [.lit (.int .u8 0), .lit (.int .u8 0)], .agg [.lit (.int .u8 0), .lit (.int .u8 0)]]
/-- One of Go's own tables, pinned by name: the form's constant. -/
def laid_unicode_utf8_first : DataW Unit := Go.Pinned.utf8First

/-- 'novaculitelaw04.TrialWords': WHATEVER THE INPUT: true; the input reads as it did. -/
def trialWordsSpec : ChangeSpec := { name := "trialWords", fn := fun _ => fun
  | [d] => { results := [.lit (.bool true)], args := [d] }
  | _ => none }
def trialWordsRow : OpenClaim := { program := "ytgnkjmgkfibipaadoor", sum := "499fb3115be6840fa2d4fe1240733a8bff548c00d3280029582a9a19abde0aa8", func := "novaculite/novaculitelaw04.TrialWords", spec := "trialWords", inPlace := ["internal/abi.NoEscape", "internal/bytealg.IndexByteString", "internal/bytealg.IndexString", "internal/bytealg.CountString", "internal/bytealg.MakeNoZero"], unfollowed := true, recurses := true, named := ["unicode/utf8.first", "unicode/utf8.acceptRanges", "internal/bytealg.MaxLen"], plainKeys := false, apart := false, laid := [("unicode/utf8.acceptRanges", laid_unicode_utf8_acceptRanges), ("unicode/utf8.first", laid_unicode_utf8_first)] }
def TrialWordsSaid : Prop := trialWordsRow.holds Tryd.pinned (OpenSpec.ofChange trialWordsSpec)

/-- ITS FALSE NEIGHBOUR: 'it returns false'. Refute it at one input. -/
def trialWordsWrong : ChangeSpec := { name := "trialWords", fn := fun _ => fun
  | [d] => { results := [.lit (.bool false)], args := [d] }
  | _ => none }
def TrialWordsWrongFalsely : Prop := trialWordsRow.holds Tryd.pinned (OpenSpec.ofChange trialWordsWrong)

/-- 'novaculitelaw04.TrialPrices': WHATEVER THE INPUT: true; the input reads as it did. -/
def trialPricesSpec : ChangeSpec := { name := "trialPrices", fn := fun _ => fun
  | [d1, d2, d3] => { results := [.lit (.bool true)], args := [d1, d2, d3] }
  | _ => none }
def trialPricesRow : OpenClaim := { program := "ytgnkjmgkfibipaadoor", sum := "499fb3115be6840fa2d4fe1240733a8bff548c00d3280029582a9a19abde0aa8", func := "novaculite/novaculitelaw04.TrialPrices", spec := "trialPrices", inPlace := ["internal/abi.NoEscape", "internal/bytealg.IndexByteString", "internal/bytealg.IndexString", "internal/bytealg.CountString", "internal/bytealg.MakeNoZero"], unfollowed := true, recurses := true, named := ["unicode/utf8.first", "unicode/utf8.acceptRanges", "internal/bytealg.MaxLen"], plainKeys := false, apart := false, laid := [("unicode/utf8.acceptRanges", laid_unicode_utf8_acceptRanges), ("unicode/utf8.first", laid_unicode_utf8_first)] }
def TrialPricesSaid : Prop := trialPricesRow.holds Tryd.pinned (OpenSpec.ofChange trialPricesSpec)

/-- ITS FALSE NEIGHBOUR: 'it returns false'. Refute it at one input. -/
def trialPricesWrong : ChangeSpec := { name := "trialPrices", fn := fun _ => fun
  | [d1, d2, d3] => { results := [.lit (.bool false)], args := [d1, d2, d3] }
  | _ => none }
def TrialPricesWrongFalsely : Prop := trialPricesRow.holds Tryd.pinned (OpenSpec.ofChange trialPricesWrong)

/-- 'novaculitelaw04.TrialNumbers': WHATEVER THE INPUT: true; the input reads as it did. -/
def trialNumbersSpec : ChangeSpec := { name := "trialNumbers", fn := fun _ => fun
  | [d1, d2, d3] => { results := [.lit (.bool true)], args := [d1, d2, d3] }
  | _ => none }
def trialNumbersRow : OpenClaim := { program := "ytgnkjmgkfibipaadoor", sum := "499fb3115be6840fa2d4fe1240733a8bff548c00d3280029582a9a19abde0aa8", func := "novaculite/novaculitelaw04.TrialNumbers", spec := "trialNumbers", inPlace := ["internal/abi.NoEscape", "internal/bytealg.IndexByteString", "internal/bytealg.IndexString", "internal/bytealg.CountString", "internal/bytealg.MakeNoZero"], unfollowed := true, recurses := true, named := ["unicode/utf8.first", "unicode/utf8.acceptRanges", "internal/bytealg.MaxLen"], plainKeys := false, apart := false, laid := [("unicode/utf8.acceptRanges", laid_unicode_utf8_acceptRanges), ("unicode/utf8.first", laid_unicode_utf8_first)] }
def TrialNumbersSaid : Prop := trialNumbersRow.holds Tryd.pinned (OpenSpec.ofChange trialNumbersSpec)

/-- ITS FALSE NEIGHBOUR: 'it returns false'. Refute it at one input. -/
def trialNumbersWrong : ChangeSpec := { name := "trialNumbers", fn := fun _ => fun
  | [d1, d2, d3] => { results := [.lit (.bool false)], args := [d1, d2, d3] }
  | _ => none }
def TrialNumbersWrongFalsely : Prop := trialNumbersRow.holds Tryd.pinned (OpenSpec.ofChange trialNumbersWrong)

/-- 'novaculitelaw04.TrialReach': WHATEVER THE INPUT: true; the input reads as it did. -/
def trialReachSpec : ChangeSpec := { name := "trialReach", fn := fun _ => fun
  | [d1, d2] => { results := [.lit (.bool true)], args := [d1, d2] }
  | _ => none }
def trialReachRow : OpenClaim := { program := "ytgnkjmgkfibipaadoor", sum := "499fb3115be6840fa2d4fe1240733a8bff548c00d3280029582a9a19abde0aa8", func := "novaculite/novaculitelaw04.TrialReach", spec := "trialReach", inPlace := ["internal/abi.NoEscape", "internal/bytealg.IndexByteString", "internal/bytealg.IndexString", "internal/bytealg.CountString", "internal/bytealg.MakeNoZero"], unfollowed := true, recurses := true, named := ["unicode/utf8.first", "unicode/utf8.acceptRanges", "internal/bytealg.MaxLen"], plainKeys := false, apart := false, laid := [("unicode/utf8.acceptRanges", laid_unicode_utf8_acceptRanges), ("unicode/utf8.first", laid_unicode_utf8_first)] }
def TrialReachSaid : Prop := trialReachRow.holds Tryd.pinned (OpenSpec.ofChange trialReachSpec)

/-- ITS FALSE NEIGHBOUR: 'it returns false'. Refute it at one input. -/
def trialReachWrong : ChangeSpec := { name := "trialReach", fn := fun _ => fun
  | [d1, d2] => { results := [.lit (.bool false)], args := [d1, d2] }
  | _ => none }
def TrialReachWrongFalsely : Prop := trialReachRow.holds Tryd.pinned (OpenSpec.ofChange trialReachWrong)

/-- 'novaculitelaw04.TrialWorse': WHATEVER THE INPUT: true; the input reads as it did. -/
def trialWorseSpec : ChangeSpec := { name := "trialWorse", fn := fun _ => fun
  | [d1, d2, d3] => { results := [.lit (.bool true)], args := [d1, d2, d3] }
  | _ => none }
def trialWorseRow : OpenClaim := { program := "ytgnkjmgkfibipaadoor", sum := "499fb3115be6840fa2d4fe1240733a8bff548c00d3280029582a9a19abde0aa8", func := "novaculite/novaculitelaw04.TrialWorse", spec := "trialWorse", inPlace := ["internal/abi.NoEscape", "internal/bytealg.IndexByteString", "internal/bytealg.IndexString", "internal/bytealg.CountString", "internal/bytealg.MakeNoZero"], unfollowed := true, recurses := true, named := ["unicode/utf8.first", "unicode/utf8.acceptRanges", "internal/bytealg.MaxLen"], plainKeys := false, apart := false, laid := [("unicode/utf8.acceptRanges", laid_unicode_utf8_acceptRanges), ("unicode/utf8.first", laid_unicode_utf8_first)] }
def TrialWorseSaid : Prop := trialWorseRow.holds Tryd.pinned (OpenSpec.ofChange trialWorseSpec)

/-- ITS FALSE NEIGHBOUR: 'it returns false'. Refute it at one input. -/
def trialWorseWrong : ChangeSpec := { name := "trialWorse", fn := fun _ => fun
  | [d1, d2, d3] => { results := [.lit (.bool false)], args := [d1, d2, d3] }
  | _ => none }
def TrialWorseWrongFalsely : Prop := trialWorseRow.holds Tryd.pinned (OpenSpec.ofChange trialWorseWrong)

/-- 'novaculitelaw04.TrialResults': WHATEVER THE INPUT: true; the input reads as it did. -/
def trialResultsSpec : ChangeSpec := { name := "trialResults", fn := fun _ => fun
  | [d1, d2] => { results := [.lit (.bool true)], args := [d1, d2] }
  | _ => none }
def trialResultsRow : OpenClaim := { program := "ytgnkjmgkfibipaadoor", sum := "499fb3115be6840fa2d4fe1240733a8bff548c00d3280029582a9a19abde0aa8", func := "novaculite/novaculitelaw04.TrialResults", spec := "trialResults", inPlace := ["internal/abi.NoEscape", "internal/bytealg.IndexByteString", "internal/bytealg.IndexString", "internal/bytealg.CountString", "internal/bytealg.MakeNoZero"], unfollowed := true, recurses := true, named := ["unicode/utf8.first", "unicode/utf8.acceptRanges", "internal/bytealg.MaxLen"], plainKeys := false, apart := false, laid := [("unicode/utf8.acceptRanges", laid_unicode_utf8_acceptRanges), ("unicode/utf8.first", laid_unicode_utf8_first)] }
def TrialResultsSaid : Prop := trialResultsRow.holds Tryd.pinned (OpenSpec.ofChange trialResultsSpec)

/-- ITS FALSE NEIGHBOUR: 'it returns false'. Refute it at one input. -/
def trialResultsWrong : ChangeSpec := { name := "trialResults", fn := fun _ => fun
  | [d1, d2] => { results := [.lit (.bool false)], args := [d1, d2] }
  | _ => none }
def TrialResultsWrongFalsely : Prop := trialResultsRow.holds Tryd.pinned (OpenSpec.ofChange trialResultsWrong)

/-- 'novaculitelaw04.TrialAsked': WHATEVER THE INPUT: true; the input reads as it did. -/
def trialAskedSpec : ChangeSpec := { name := "trialAsked", fn := fun _ => fun
  | [d1, d2, d3] => { results := [.lit (.bool true)], args := [d1, d2, d3] }
  | _ => none }
def trialAskedRow : OpenClaim := { program := "ytgnkjmgkfibipaadoor", sum := "499fb3115be6840fa2d4fe1240733a8bff548c00d3280029582a9a19abde0aa8", func := "novaculite/novaculitelaw04.TrialAsked", spec := "trialAsked", inPlace := ["internal/abi.NoEscape", "internal/bytealg.IndexByteString", "internal/bytealg.IndexString", "internal/bytealg.CountString", "internal/bytealg.MakeNoZero"], unfollowed := true, recurses := true, named := ["unicode/utf8.first", "unicode/utf8.acceptRanges", "internal/bytealg.MaxLen"], plainKeys := false, apart := false, laid := [("unicode/utf8.acceptRanges", laid_unicode_utf8_acceptRanges), ("unicode/utf8.first", laid_unicode_utf8_first)] }
def TrialAskedSaid : Prop := trialAskedRow.holds Tryd.pinned (OpenSpec.ofChange trialAskedSpec)

/-- ITS FALSE NEIGHBOUR: 'it returns false'. Refute it at one input. -/
def trialAskedWrong : ChangeSpec := { name := "trialAsked", fn := fun _ => fun
  | [d1, d2, d3] => { results := [.lit (.bool false)], args := [d1, d2, d3] }
  | _ => none }
def TrialAskedWrongFalsely : Prop := trialAskedRow.holds Tryd.pinned (OpenSpec.ofChange trialAskedWrong)

/-- 'novaculitelaw04.TrialChecked': WHATEVER THE INPUT: true; the input reads as it did. -/
def trialCheckedSpec : ChangeSpec := { name := "trialChecked", fn := fun _ => fun
  | [d1, d2, d3] => { results := [.lit (.bool true)], args := [d1, d2, d3] }
  | _ => none }
def trialCheckedRow : OpenClaim := { program := "ytgnkjmgkfibipaadoor", sum := "499fb3115be6840fa2d4fe1240733a8bff548c00d3280029582a9a19abde0aa8", func := "novaculite/novaculitelaw04.TrialChecked", spec := "trialChecked", inPlace := ["internal/abi.NoEscape", "internal/bytealg.IndexByteString", "internal/bytealg.IndexString", "internal/bytealg.CountString", "internal/bytealg.MakeNoZero"], unfollowed := true, recurses := true, named := ["unicode/utf8.first", "unicode/utf8.acceptRanges", "internal/bytealg.MaxLen"], plainKeys := false, apart := false, laid := [("unicode/utf8.acceptRanges", laid_unicode_utf8_acceptRanges), ("unicode/utf8.first", laid_unicode_utf8_first)] }
def TrialCheckedSaid : Prop := trialCheckedRow.holds Tryd.pinned (OpenSpec.ofChange trialCheckedSpec)

/-- ITS FALSE NEIGHBOUR: 'it returns false'. Refute it at one input. -/
def trialCheckedWrong : ChangeSpec := { name := "trialChecked", fn := fun _ => fun
  | [d1, d2, d3] => { results := [.lit (.bool false)], args := [d1, d2, d3] }
  | _ => none }
def TrialCheckedWrongFalsely : Prop := trialCheckedRow.holds Tryd.pinned (OpenSpec.ofChange trialCheckedWrong)

/-- 'novaculitelaw04.TrialWorded': WHATEVER THE INPUT: true; the input reads as it did. -/
def trialWordedSpec : ChangeSpec := { name := "trialWorded", fn := fun _ => fun
  | [d1, d2] => { results := [.lit (.bool true)], args := [d1, d2] }
  | _ => none }
def trialWordedRow : OpenClaim := { program := "ytgnkjmgkfibipaadoor", sum := "499fb3115be6840fa2d4fe1240733a8bff548c00d3280029582a9a19abde0aa8", func := "novaculite/novaculitelaw04.TrialWorded", spec := "trialWorded", inPlace := ["internal/abi.NoEscape", "internal/bytealg.CountString", "internal/bytealg.IndexByteString", "internal/bytealg.IndexString", "internal/bytealg.MakeNoZero"], unfollowed := true, recurses := true, named := ["internal/bytealg.MaxLen", "unicode/utf8.first", "unicode/utf8.acceptRanges"], plainKeys := false, apart := false, laid := [("unicode/utf8.acceptRanges", laid_unicode_utf8_acceptRanges), ("unicode/utf8.first", laid_unicode_utf8_first)] }
def TrialWordedSaid : Prop := trialWordedRow.holds Tryd.pinned (OpenSpec.ofChange trialWordedSpec)

/-- ITS FALSE NEIGHBOUR: 'it returns false'. Refute it at one input. -/
def trialWordedWrong : ChangeSpec := { name := "trialWorded", fn := fun _ => fun
  | [d1, d2] => { results := [.lit (.bool false)], args := [d1, d2] }
  | _ => none }
def TrialWordedWrongFalsely : Prop := trialWordedRow.holds Tryd.pinned (OpenSpec.ofChange trialWordedWrong)

/-- 'novaculitelaw04.TrialTried': WHATEVER THE INPUT: true; the input reads as it did. -/
def trialTriedSpec : ChangeSpec := { name := "trialTried", fn := fun _ => fun
  | [d1, d2, d3] => { results := [.lit (.bool true)], args := [d1, d2, d3] }
  | _ => none }
def trialTriedRow : OpenClaim := { program := "ytgnkjmgkfibipaadoor", sum := "499fb3115be6840fa2d4fe1240733a8bff548c00d3280029582a9a19abde0aa8", func := "novaculite/novaculitelaw04.TrialTried", spec := "trialTried", inPlace := ["internal/abi.NoEscape", "internal/bytealg.IndexByteString", "internal/bytealg.IndexString", "internal/bytealg.CountString", "internal/bytealg.MakeNoZero"], unfollowed := true, recurses := true, named := ["unicode/utf8.first", "unicode/utf8.acceptRanges", "internal/bytealg.MaxLen"], plainKeys := false, apart := false, laid := [("unicode/utf8.acceptRanges", laid_unicode_utf8_acceptRanges), ("unicode/utf8.first", laid_unicode_utf8_first)] }
def TrialTriedSaid : Prop := trialTriedRow.holds Tryd.pinned (OpenSpec.ofChange trialTriedSpec)

/-- ITS FALSE NEIGHBOUR: 'it returns false'. Refute it at one input. -/
def trialTriedWrong : ChangeSpec := { name := "trialTried", fn := fun _ => fun
  | [d1, d2, d3] => { results := [.lit (.bool false)], args := [d1, d2, d3] }
  | _ => none }
def TrialTriedWrongFalsely : Prop := trialTriedRow.holds Tryd.pinned (OpenSpec.ofChange trialTriedWrong)

/-- 'novaculitelaw04.TrialPriced': WHATEVER THE INPUT: true; the input reads as it did. -/
def trialPricedSpec : ChangeSpec := { name := "trialPriced", fn := fun _ => fun
  | [d1, d2, d3] => { results := [.lit (.bool true)], args := [d1, d2, d3] }
  | _ => none }
def trialPricedRow : OpenClaim := { program := "ytgnkjmgkfibipaadoor", sum := "499fb3115be6840fa2d4fe1240733a8bff548c00d3280029582a9a19abde0aa8", func := "novaculite/novaculitelaw04.TrialPriced", spec := "trialPriced", inPlace := ["internal/bytealg.CountString", "internal/bytealg.IndexByteString", "internal/bytealg.IndexString", "internal/abi.NoEscape", "internal/bytealg.MakeNoZero"], unfollowed := true, recurses := true, named := ["internal/bytealg.MaxLen", "unicode/utf8.first", "unicode/utf8.acceptRanges"], plainKeys := false, apart := false, laid := [("unicode/utf8.acceptRanges", laid_unicode_utf8_acceptRanges), ("unicode/utf8.first", laid_unicode_utf8_first)] }
def TrialPricedSaid : Prop := trialPricedRow.holds Tryd.pinned (OpenSpec.ofChange trialPricedSpec)

/-- ITS FALSE NEIGHBOUR: 'it returns false'. Refute it at one input. -/
def trialPricedWrong : ChangeSpec := { name := "trialPriced", fn := fun _ => fun
  | [d1, d2, d3] => { results := [.lit (.bool false)], args := [d1, d2, d3] }
  | _ => none }
def TrialPricedWrongFalsely : Prop := trialPricedRow.holds Tryd.pinned (OpenSpec.ofChange trialPricedWrong)

/-- 'novaculitelaw04.TrialMore': WHATEVER THE INPUT: true; the input reads as it did. -/
def trialMoreSpec : ChangeSpec := { name := "trialMore", fn := fun _ => fun
  | [d1, d2, d3] => { results := [.lit (.bool true)], args := [d1, d2, d3] }
  | _ => none }
def trialMoreRow : OpenClaim := { program := "ytgnkjmgkfibipaadoor", sum := "499fb3115be6840fa2d4fe1240733a8bff548c00d3280029582a9a19abde0aa8", func := "novaculite/novaculitelaw04.TrialMore", spec := "trialMore", inPlace := ["internal/abi.NoEscape", "internal/bytealg.IndexByteString", "internal/bytealg.IndexString", "internal/bytealg.CountString", "internal/bytealg.MakeNoZero"], unfollowed := true, recurses := true, named := ["unicode/utf8.first", "unicode/utf8.acceptRanges", "internal/bytealg.MaxLen"], plainKeys := false, apart := false, laid := [("unicode/utf8.acceptRanges", laid_unicode_utf8_acceptRanges), ("unicode/utf8.first", laid_unicode_utf8_first)] }
def TrialMoreSaid : Prop := trialMoreRow.holds Tryd.pinned (OpenSpec.ofChange trialMoreSpec)

/-- ITS FALSE NEIGHBOUR: 'it returns false'. Refute it at one input. -/
def trialMoreWrong : ChangeSpec := { name := "trialMore", fn := fun _ => fun
  | [d1, d2, d3] => { results := [.lit (.bool false)], args := [d1, d2, d3] }
  | _ => none }
def TrialMoreWrongFalsely : Prop := trialMoreRow.holds Tryd.pinned (OpenSpec.ofChange trialMoreWrong)

/-- 'novaculitelaw04.TrialBest': WHATEVER THE INPUT: true; the input reads as it did. -/
def trialBestSpec : ChangeSpec := { name := "trialBest", fn := fun _ => fun
  | [d1, d2, d3] => { results := [.lit (.bool true)], args := [d1, d2, d3] }
  | _ => none }
def trialBestRow : OpenClaim := { program := "ytgnkjmgkfibipaadoor", sum := "499fb3115be6840fa2d4fe1240733a8bff548c00d3280029582a9a19abde0aa8", func := "novaculite/novaculitelaw04.TrialBest", spec := "trialBest", inPlace := ["internal/abi.NoEscape", "internal/bytealg.IndexByteString", "internal/bytealg.IndexString", "internal/bytealg.CountString", "internal/bytealg.MakeNoZero"], unfollowed := true, recurses := true, named := ["unicode/utf8.first", "unicode/utf8.acceptRanges", "internal/bytealg.MaxLen"], plainKeys := false, apart := false, laid := [("unicode/utf8.acceptRanges", laid_unicode_utf8_acceptRanges), ("unicode/utf8.first", laid_unicode_utf8_first)] }
def TrialBestSaid : Prop := trialBestRow.holds Tryd.pinned (OpenSpec.ofChange trialBestSpec)

/-- ITS FALSE NEIGHBOUR: 'it returns false'. Refute it at one input. -/
def trialBestWrong : ChangeSpec := { name := "trialBest", fn := fun _ => fun
  | [d1, d2, d3] => { results := [.lit (.bool false)], args := [d1, d2, d3] }
  | _ => none }
def TrialBestWrongFalsely : Prop := trialBestRow.holds Tryd.pinned (OpenSpec.ofChange trialBestWrong)

/-- 'novaculitelaw04.TrialSums': WHATEVER THE INPUT: true; the input reads as it did. -/
def trialSumsSpec : ChangeSpec := { name := "trialSums", fn := fun _ => fun
  | [d1, d2, d3] => { results := [.lit (.bool true)], args := [d1, d2, d3] }
  | _ => none }
def trialSumsRow : OpenClaim := { program := "ytgnkjmgkfibipaadoor", sum := "499fb3115be6840fa2d4fe1240733a8bff548c00d3280029582a9a19abde0aa8", func := "novaculite/novaculitelaw04.TrialSums", spec := "trialSums", inPlace := ["internal/bytealg.CountString", "internal/bytealg.IndexByteString", "internal/bytealg.IndexString", "internal/abi.NoEscape", "internal/bytealg.MakeNoZero"], unfollowed := true, recurses := true, named := ["internal/bytealg.MaxLen", "unicode/utf8.first", "unicode/utf8.acceptRanges"], plainKeys := false, apart := false, laid := [("unicode/utf8.acceptRanges", laid_unicode_utf8_acceptRanges), ("unicode/utf8.first", laid_unicode_utf8_first)] }
def TrialSumsSaid : Prop := trialSumsRow.holds Tryd.pinned (OpenSpec.ofChange trialSumsSpec)

/-- ITS FALSE NEIGHBOUR: 'it returns false'. Refute it at one input. -/
def trialSumsWrong : ChangeSpec := { name := "trialSums", fn := fun _ => fun
  | [d1, d2, d3] => { results := [.lit (.bool false)], args := [d1, d2, d3] }
  | _ => none }
def TrialSumsWrongFalsely : Prop := trialSumsRow.holds Tryd.pinned (OpenSpec.ofChange trialSumsWrong)

/-- 'novaculitelaw04.TrialKnown': WHATEVER THE INPUT: true; the input reads as it did. -/
def trialKnownSpec : ChangeSpec := { name := "trialKnown", fn := fun _ => fun
  | [] => { results := [.lit (.bool true)], args := [] }
  | _ => none }
def trialKnownRow : OpenClaim := { program := "ytgnkjmgkfibipaadoor", sum := "499fb3115be6840fa2d4fe1240733a8bff548c00d3280029582a9a19abde0aa8", func := "novaculite/novaculitelaw04.TrialKnown", spec := "trialKnown", inPlace := ["internal/abi.NoEscape", "internal/bytealg.IndexByteString", "internal/bytealg.IndexString", "internal/bytealg.MakeNoZero", "internal/bytealg.CountString"], unfollowed := true, recurses := true, named := ["unicode/utf8.first", "unicode/utf8.acceptRanges", "internal/bytealg.MaxLen"], plainKeys := false, apart := false, laid := [("unicode/utf8.acceptRanges", laid_unicode_utf8_acceptRanges), ("unicode/utf8.first", laid_unicode_utf8_first)] }
def TrialKnownSaid : Prop := trialKnownRow.holds Tryd.pinned (OpenSpec.ofChange trialKnownSpec)

/-- ITS FALSE NEIGHBOUR: 'it returns false'. Refute it at one input. -/
def trialKnownWrong : ChangeSpec := { name := "trialKnown", fn := fun _ => fun
  | [] => { results := [.lit (.bool false)], args := [] }
  | _ => none }
def TrialKnownWrongFalsely : Prop := trialKnownRow.holds Tryd.pinned (OpenSpec.ofChange trialKnownWrong)

/- THE SECOND FORM. 'bulk': how many values and letters a reading holds, each counted each time it is reached (what is shared counts as often as it is met; a slice's spare places count too). A statement '..UptoSaid' is the law's where the arguments, and the package variables that the reading takes, are together of bulk at most 1048576: NARROWER than '..Said'. Prove '..Said' where nothing that the law and all that it calls make is longer than what came in: it says more and counts as full. Else prove '..UptoSaid'. A law counts once. -/
mutual
def uptoBulk {H : Type} : DataW H → Nat
  | .lit (.string bytes) => bytes.length + 1
  | .lit _ => 1
  | .nil => 1
  | .ptr d => uptoBulk d + 1
  | .slice elems spare => uptoBulkAll elems + uptoBulkAll spare + 1
  | .agg parts => uptoBulkAll parts + 1
  | .iface _ d => uptoBulk d + 1
  | .map entries => uptoBulkEntries entries + 1
  | .held _ => 1
def uptoBulkAll {H : Type} : List (DataW H) → Nat
  | [] => 0
  | d :: r => uptoBulk d + uptoBulkAll r
def uptoBulkEntries {H : Type} : List (Lit × DataW H) → Nat
  | [] => 0
  | x :: r => uptoBulkEntry x + uptoBulkEntries r
def uptoBulkEntry {H : Type} : Lit × DataW H → Nat
  | (.string bytes, d) => bytes.length + uptoBulk d + 1
  | (_, d) => uptoBulk d + 1
 end
def uptoSmall : (H : Type) → List (DataW H) → Bool := fun _ ds => decide (uptoBulkAll ds ≤ 1048576)
def OpenSpec.upto (s : _root_.Go.ChangeSpec) : _root_.Go.OpenSpec := { _root_.Go.OpenSpec.ofChange s with cond := some uptoSmall }

/-- 'novaculitelaw04.TrialWords', WHERE WHAT IT READS IS OF BULK AT MOST 1048576: true; the input reads as it did. -/
def trialWordsUptoRow : OpenClaim := { program := "ytgnkjmgkfibipaadoor", sum := "499fb3115be6840fa2d4fe1240733a8bff548c00d3280029582a9a19abde0aa8", func := "novaculite/novaculitelaw04.TrialWords", spec := "trialWords", inPlace := ["internal/abi.NoEscape", "internal/bytealg.IndexByteString", "internal/bytealg.IndexString", "internal/bytealg.CountString", "internal/bytealg.MakeNoZero"], unfollowed := true, recurses := true, named := ["unicode/utf8.first", "unicode/utf8.acceptRanges", "internal/bytealg.MaxLen"], plainKeys := false, apart := false, laid := [("unicode/utf8.acceptRanges", laid_unicode_utf8_acceptRanges), ("unicode/utf8.first", laid_unicode_utf8_first)], narrowed := true }
def TrialWordsUptoSaid : Prop := trialWordsUptoRow.holds Tryd.pinned (OpenSpec.upto trialWordsSpec)

/-- 'novaculitelaw04.TrialPrices', WHERE WHAT IT READS IS OF BULK AT MOST 1048576: true; the input reads as it did. -/
def trialPricesUptoRow : OpenClaim := { program := "ytgnkjmgkfibipaadoor", sum := "499fb3115be6840fa2d4fe1240733a8bff548c00d3280029582a9a19abde0aa8", func := "novaculite/novaculitelaw04.TrialPrices", spec := "trialPrices", inPlace := ["internal/abi.NoEscape", "internal/bytealg.IndexByteString", "internal/bytealg.IndexString", "internal/bytealg.CountString", "internal/bytealg.MakeNoZero"], unfollowed := true, recurses := true, named := ["unicode/utf8.first", "unicode/utf8.acceptRanges", "internal/bytealg.MaxLen"], plainKeys := false, apart := false, laid := [("unicode/utf8.acceptRanges", laid_unicode_utf8_acceptRanges), ("unicode/utf8.first", laid_unicode_utf8_first)], narrowed := true }
def TrialPricesUptoSaid : Prop := trialPricesUptoRow.holds Tryd.pinned (OpenSpec.upto trialPricesSpec)

/-- 'novaculitelaw04.TrialNumbers', WHERE WHAT IT READS IS OF BULK AT MOST 1048576: true; the input reads as it did. -/
def trialNumbersUptoRow : OpenClaim := { program := "ytgnkjmgkfibipaadoor", sum := "499fb3115be6840fa2d4fe1240733a8bff548c00d3280029582a9a19abde0aa8", func := "novaculite/novaculitelaw04.TrialNumbers", spec := "trialNumbers", inPlace := ["internal/abi.NoEscape", "internal/bytealg.IndexByteString", "internal/bytealg.IndexString", "internal/bytealg.CountString", "internal/bytealg.MakeNoZero"], unfollowed := true, recurses := true, named := ["unicode/utf8.first", "unicode/utf8.acceptRanges", "internal/bytealg.MaxLen"], plainKeys := false, apart := false, laid := [("unicode/utf8.acceptRanges", laid_unicode_utf8_acceptRanges), ("unicode/utf8.first", laid_unicode_utf8_first)], narrowed := true }
def TrialNumbersUptoSaid : Prop := trialNumbersUptoRow.holds Tryd.pinned (OpenSpec.upto trialNumbersSpec)

/-- 'novaculitelaw04.TrialReach', WHERE WHAT IT READS IS OF BULK AT MOST 1048576: true; the input reads as it did. -/
def trialReachUptoRow : OpenClaim := { program := "ytgnkjmgkfibipaadoor", sum := "499fb3115be6840fa2d4fe1240733a8bff548c00d3280029582a9a19abde0aa8", func := "novaculite/novaculitelaw04.TrialReach", spec := "trialReach", inPlace := ["internal/abi.NoEscape", "internal/bytealg.IndexByteString", "internal/bytealg.IndexString", "internal/bytealg.CountString", "internal/bytealg.MakeNoZero"], unfollowed := true, recurses := true, named := ["unicode/utf8.first", "unicode/utf8.acceptRanges", "internal/bytealg.MaxLen"], plainKeys := false, apart := false, laid := [("unicode/utf8.acceptRanges", laid_unicode_utf8_acceptRanges), ("unicode/utf8.first", laid_unicode_utf8_first)], narrowed := true }
def TrialReachUptoSaid : Prop := trialReachUptoRow.holds Tryd.pinned (OpenSpec.upto trialReachSpec)

/-- 'novaculitelaw04.TrialWorse', WHERE WHAT IT READS IS OF BULK AT MOST 1048576: true; the input reads as it did. -/
def trialWorseUptoRow : OpenClaim := { program := "ytgnkjmgkfibipaadoor", sum := "499fb3115be6840fa2d4fe1240733a8bff548c00d3280029582a9a19abde0aa8", func := "novaculite/novaculitelaw04.TrialWorse", spec := "trialWorse", inPlace := ["internal/abi.NoEscape", "internal/bytealg.IndexByteString", "internal/bytealg.IndexString", "internal/bytealg.CountString", "internal/bytealg.MakeNoZero"], unfollowed := true, recurses := true, named := ["unicode/utf8.first", "unicode/utf8.acceptRanges", "internal/bytealg.MaxLen"], plainKeys := false, apart := false, laid := [("unicode/utf8.acceptRanges", laid_unicode_utf8_acceptRanges), ("unicode/utf8.first", laid_unicode_utf8_first)], narrowed := true }
def TrialWorseUptoSaid : Prop := trialWorseUptoRow.holds Tryd.pinned (OpenSpec.upto trialWorseSpec)

/-- 'novaculitelaw04.TrialResults', WHERE WHAT IT READS IS OF BULK AT MOST 1048576: true; the input reads as it did. -/
def trialResultsUptoRow : OpenClaim := { program := "ytgnkjmgkfibipaadoor", sum := "499fb3115be6840fa2d4fe1240733a8bff548c00d3280029582a9a19abde0aa8", func := "novaculite/novaculitelaw04.TrialResults", spec := "trialResults", inPlace := ["internal/abi.NoEscape", "internal/bytealg.IndexByteString", "internal/bytealg.IndexString", "internal/bytealg.CountString", "internal/bytealg.MakeNoZero"], unfollowed := true, recurses := true, named := ["unicode/utf8.first", "unicode/utf8.acceptRanges", "internal/bytealg.MaxLen"], plainKeys := false, apart := false, laid := [("unicode/utf8.acceptRanges", laid_unicode_utf8_acceptRanges), ("unicode/utf8.first", laid_unicode_utf8_first)], narrowed := true }
def TrialResultsUptoSaid : Prop := trialResultsUptoRow.holds Tryd.pinned (OpenSpec.upto trialResultsSpec)

/-- 'novaculitelaw04.TrialAsked', WHERE WHAT IT READS IS OF BULK AT MOST 1048576: true; the input reads as it did. -/
def trialAskedUptoRow : OpenClaim := { program := "ytgnkjmgkfibipaadoor", sum := "499fb3115be6840fa2d4fe1240733a8bff548c00d3280029582a9a19abde0aa8", func := "novaculite/novaculitelaw04.TrialAsked", spec := "trialAsked", inPlace := ["internal/abi.NoEscape", "internal/bytealg.IndexByteString", "internal/bytealg.IndexString", "internal/bytealg.CountString", "internal/bytealg.MakeNoZero"], unfollowed := true, recurses := true, named := ["unicode/utf8.first", "unicode/utf8.acceptRanges", "internal/bytealg.MaxLen"], plainKeys := false, apart := false, laid := [("unicode/utf8.acceptRanges", laid_unicode_utf8_acceptRanges), ("unicode/utf8.first", laid_unicode_utf8_first)], narrowed := true }
def TrialAskedUptoSaid : Prop := trialAskedUptoRow.holds Tryd.pinned (OpenSpec.upto trialAskedSpec)

/-- 'novaculitelaw04.TrialChecked', WHERE WHAT IT READS IS OF BULK AT MOST 1048576: true; the input reads as it did. -/
def trialCheckedUptoRow : OpenClaim := { program := "ytgnkjmgkfibipaadoor", sum := "499fb3115be6840fa2d4fe1240733a8bff548c00d3280029582a9a19abde0aa8", func := "novaculite/novaculitelaw04.TrialChecked", spec := "trialChecked", inPlace := ["internal/abi.NoEscape", "internal/bytealg.IndexByteString", "internal/bytealg.IndexString", "internal/bytealg.CountString", "internal/bytealg.MakeNoZero"], unfollowed := true, recurses := true, named := ["unicode/utf8.first", "unicode/utf8.acceptRanges", "internal/bytealg.MaxLen"], plainKeys := false, apart := false, laid := [("unicode/utf8.acceptRanges", laid_unicode_utf8_acceptRanges), ("unicode/utf8.first", laid_unicode_utf8_first)], narrowed := true }
def TrialCheckedUptoSaid : Prop := trialCheckedUptoRow.holds Tryd.pinned (OpenSpec.upto trialCheckedSpec)

/-- 'novaculitelaw04.TrialWorded', WHERE WHAT IT READS IS OF BULK AT MOST 1048576: true; the input reads as it did. -/
def trialWordedUptoRow : OpenClaim := { program := "ytgnkjmgkfibipaadoor", sum := "499fb3115be6840fa2d4fe1240733a8bff548c00d3280029582a9a19abde0aa8", func := "novaculite/novaculitelaw04.TrialWorded", spec := "trialWorded", inPlace := ["internal/abi.NoEscape", "internal/bytealg.CountString", "internal/bytealg.IndexByteString", "internal/bytealg.IndexString", "internal/bytealg.MakeNoZero"], unfollowed := true, recurses := true, named := ["internal/bytealg.MaxLen", "unicode/utf8.first", "unicode/utf8.acceptRanges"], plainKeys := false, apart := false, laid := [("unicode/utf8.acceptRanges", laid_unicode_utf8_acceptRanges), ("unicode/utf8.first", laid_unicode_utf8_first)], narrowed := true }
def TrialWordedUptoSaid : Prop := trialWordedUptoRow.holds Tryd.pinned (OpenSpec.upto trialWordedSpec)

/-- 'novaculitelaw04.TrialTried', WHERE WHAT IT READS IS OF BULK AT MOST 1048576: true; the input reads as it did. -/
def trialTriedUptoRow : OpenClaim := { program := "ytgnkjmgkfibipaadoor", sum := "499fb3115be6840fa2d4fe1240733a8bff548c00d3280029582a9a19abde0aa8", func := "novaculite/novaculitelaw04.TrialTried", spec := "trialTried", inPlace := ["internal/abi.NoEscape", "internal/bytealg.IndexByteString", "internal/bytealg.IndexString", "internal/bytealg.CountString", "internal/bytealg.MakeNoZero"], unfollowed := true, recurses := true, named := ["unicode/utf8.first", "unicode/utf8.acceptRanges", "internal/bytealg.MaxLen"], plainKeys := false, apart := false, laid := [("unicode/utf8.acceptRanges", laid_unicode_utf8_acceptRanges), ("unicode/utf8.first", laid_unicode_utf8_first)], narrowed := true }
def TrialTriedUptoSaid : Prop := trialTriedUptoRow.holds Tryd.pinned (OpenSpec.upto trialTriedSpec)

/-- 'novaculitelaw04.TrialPriced', WHERE WHAT IT READS IS OF BULK AT MOST 1048576: true; the input reads as it did. -/
def trialPricedUptoRow : OpenClaim := { program := "ytgnkjmgkfibipaadoor", sum := "499fb3115be6840fa2d4fe1240733a8bff548c00d3280029582a9a19abde0aa8", func := "novaculite/novaculitelaw04.TrialPriced", spec := "trialPriced", inPlace := ["internal/bytealg.CountString", "internal/bytealg.IndexByteString", "internal/bytealg.IndexString", "internal/abi.NoEscape", "internal/bytealg.MakeNoZero"], unfollowed := true, recurses := true, named := ["internal/bytealg.MaxLen", "unicode/utf8.first", "unicode/utf8.acceptRanges"], plainKeys := false, apart := false, laid := [("unicode/utf8.acceptRanges", laid_unicode_utf8_acceptRanges), ("unicode/utf8.first", laid_unicode_utf8_first)], narrowed := true }
def TrialPricedUptoSaid : Prop := trialPricedUptoRow.holds Tryd.pinned (OpenSpec.upto trialPricedSpec)

/-- 'novaculitelaw04.TrialMore', WHERE WHAT IT READS IS OF BULK AT MOST 1048576: true; the input reads as it did. -/
def trialMoreUptoRow : OpenClaim := { program := "ytgnkjmgkfibipaadoor", sum := "499fb3115be6840fa2d4fe1240733a8bff548c00d3280029582a9a19abde0aa8", func := "novaculite/novaculitelaw04.TrialMore", spec := "trialMore", inPlace := ["internal/abi.NoEscape", "internal/bytealg.IndexByteString", "internal/bytealg.IndexString", "internal/bytealg.CountString", "internal/bytealg.MakeNoZero"], unfollowed := true, recurses := true, named := ["unicode/utf8.first", "unicode/utf8.acceptRanges", "internal/bytealg.MaxLen"], plainKeys := false, apart := false, laid := [("unicode/utf8.acceptRanges", laid_unicode_utf8_acceptRanges), ("unicode/utf8.first", laid_unicode_utf8_first)], narrowed := true }
def TrialMoreUptoSaid : Prop := trialMoreUptoRow.holds Tryd.pinned (OpenSpec.upto trialMoreSpec)

/-- 'novaculitelaw04.TrialBest', WHERE WHAT IT READS IS OF BULK AT MOST 1048576: true; the input reads as it did. -/
def trialBestUptoRow : OpenClaim := { program := "ytgnkjmgkfibipaadoor", sum := "499fb3115be6840fa2d4fe1240733a8bff548c00d3280029582a9a19abde0aa8", func := "novaculite/novaculitelaw04.TrialBest", spec := "trialBest", inPlace := ["internal/abi.NoEscape", "internal/bytealg.IndexByteString", "internal/bytealg.IndexString", "internal/bytealg.CountString", "internal/bytealg.MakeNoZero"], unfollowed := true, recurses := true, named := ["unicode/utf8.first", "unicode/utf8.acceptRanges", "internal/bytealg.MaxLen"], plainKeys := false, apart := false, laid := [("unicode/utf8.acceptRanges", laid_unicode_utf8_acceptRanges), ("unicode/utf8.first", laid_unicode_utf8_first)], narrowed := true }
def TrialBestUptoSaid : Prop := trialBestUptoRow.holds Tryd.pinned (OpenSpec.upto trialBestSpec)

/-- 'novaculitelaw04.TrialSums', WHERE WHAT IT READS IS OF BULK AT MOST 1048576: true; the input reads as it did. -/
def trialSumsUptoRow : OpenClaim := { program := "ytgnkjmgkfibipaadoor", sum := "499fb3115be6840fa2d4fe1240733a8bff548c00d3280029582a9a19abde0aa8", func := "novaculite/novaculitelaw04.TrialSums", spec := "trialSums", inPlace := ["internal/bytealg.CountString", "internal/bytealg.IndexByteString", "internal/bytealg.IndexString", "internal/abi.NoEscape", "internal/bytealg.MakeNoZero"], unfollowed := true, recurses := true, named := ["internal/bytealg.MaxLen", "unicode/utf8.first", "unicode/utf8.acceptRanges"], plainKeys := false, apart := false, laid := [("unicode/utf8.acceptRanges", laid_unicode_utf8_acceptRanges), ("unicode/utf8.first", laid_unicode_utf8_first)], narrowed := true }
def TrialSumsUptoSaid : Prop := trialSumsUptoRow.holds Tryd.pinned (OpenSpec.upto trialSumsSpec)

/-- 'novaculitelaw04.TrialKnown', WHERE WHAT IT READS IS OF BULK AT MOST 1048576: true; the input reads as it did. -/
def trialKnownUptoRow : OpenClaim := { program := "ytgnkjmgkfibipaadoor", sum := "499fb3115be6840fa2d4fe1240733a8bff548c00d3280029582a9a19abde0aa8", func := "novaculite/novaculitelaw04.TrialKnown", spec := "trialKnown", inPlace := ["internal/abi.NoEscape", "internal/bytealg.IndexByteString", "internal/bytealg.IndexString", "internal/bytealg.MakeNoZero", "internal/bytealg.CountString"], unfollowed := true, recurses := true, named := ["unicode/utf8.first", "unicode/utf8.acceptRanges", "internal/bytealg.MaxLen"], plainKeys := false, apart := false, laid := [("unicode/utf8.acceptRanges", laid_unicode_utf8_acceptRanges), ("unicode/utf8.first", laid_unicode_utf8_first)], narrowed := true }
def TrialKnownUptoSaid : Prop := trialKnownUptoRow.holds Tryd.pinned (OpenSpec.upto trialKnownSpec)

end Rows
end Go.Proofs.YtgnkjmgkfibipaaDoor
