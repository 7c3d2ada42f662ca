/-
  DERIVED. GIVEN WITH THE SEED: THE CARDS: each row of YtpljgnjdlciicaaGreatDoorRows.lean that lists a variable, with what it lists TIED to the program's text (the seventh form; the later family's looks); each row that meets fmt, with fmt's text TOLD by the authors' own Lean function (tested against real Go, not proved from fmt's source: count such statements apart). THE CARD IS WHAT COUNTS. Prove the row's statement (the work); the ties are given (YtpljgnjdlciicaaGreatDoorTie.lean); close each card by the builder's one call (the guide's Derived/Test/ToyasCard.lean, 'card_holds'). Laid BY PROGRAM, IN A SANDBOX (cutbox-door.mjs). By AI agents, Wed Nov 11 2026. No macro, syntax, notation, axiom, sorry.
-/
import Derived.Test.YtpljgnjdlciicaaGreatDoorRows
import GoSem.ClaimSeven
namespace Go.Proofs.YtpljgnjdlciicaaGreatDoor
namespace Rows

/-- THE TIED CARD OF 'quiverlaw15.ParseEnds'. -/
def parseEndsCard : Claim7 := { stood := { row := parseEndsRow, standIns := [], harness := (true, "479036b9c3bd1b80019f2bd0086af5b8d4fa436fc7e75e5db313fccd5059bd68"), looks := true }, kinds := [], alts := [], laidByText := true, laidKinds := [.data, .data, .data, .data, .sentinel, .sentinel, .pinned], laidTests := true, laidLooks := .later }
def ParseEndsCardSaid : Prop := Claim7.holds Tryz.pinned (.plain (OpenSpec.ofChange parseEndsSpec)) parseEndsCard

/-- THE TIED CARD OF 'quiverlaw18.QueryOutcome'. -/
def queryOutcomeCard : Claim7 := { stood := { row := queryOutcomeRow, standIns := [], harness := (true, "479036b9c3bd1b80019f2bd0086af5b8d4fa436fc7e75e5db313fccd5059bd68"), looks := true }, kinds := [], alts := [], laidByText := true, laidKinds := [.data, .data, .data, .data, .sentinel, .sentinel, .listed, .data, .pinned], laidTests := true, laidLooks := .later }
def QueryOutcomeCardSaid : Prop := Claim7.holds Tryz.pinned (.plain (OpenSpec.ofChange queryOutcomeSpec)) queryOutcomeCard

/-- THE TIED CARD OF 'quiverlaw18.QuerySplits'. -/
def querySplitsCard : Claim7 := { stood := { row := querySplitsRow, standIns := [], harness := (true, "479036b9c3bd1b80019f2bd0086af5b8d4fa436fc7e75e5db313fccd5059bd68"), looks := true }, kinds := [], alts := [], laidByText := true, laidKinds := [.data, .data, .data, .data, .sentinel, .sentinel, .listed, .data, .pinned], laidTests := true, laidLooks := .later }
def QuerySplitsCardSaid : Prop := Claim7.holds Tryz.pinned (.plain (OpenSpec.ofChange querySplitsSpec)) querySplitsCard

/-- THE SECOND FORM's CARD OF 'quiverlaw15.ParseEnds'. -/
def parseEndsUptoCard : Claim7 := { stood := { row := parseEndsUptoRow, standIns := [], harness := (true, "479036b9c3bd1b80019f2bd0086af5b8d4fa436fc7e75e5db313fccd5059bd68"), looks := true }, kinds := [], alts := [], laidByText := true, laidKinds := [.data, .data, .data, .data, .sentinel, .sentinel, .pinned], laidTests := true, laidLooks := .later }
def ParseEndsUptoCardSaid : Prop := Claim7.holds Tryz.pinned (.plain (OpenSpec.upto parseEndsSpec)) parseEndsUptoCard

/-- THE SECOND FORM's CARD OF 'quiverlaw18.QueryOutcome'. -/
def queryOutcomeUptoCard : Claim7 := { stood := { row := queryOutcomeUptoRow, standIns := [], harness := (true, "479036b9c3bd1b80019f2bd0086af5b8d4fa436fc7e75e5db313fccd5059bd68"), looks := true }, kinds := [], alts := [], laidByText := true, laidKinds := [.data, .data, .data, .data, .sentinel, .sentinel, .listed, .data, .pinned], laidTests := true, laidLooks := .later }
def QueryOutcomeUptoCardSaid : Prop := Claim7.holds Tryz.pinned (.plain (OpenSpec.upto queryOutcomeSpec)) queryOutcomeUptoCard

/-- THE SECOND FORM's CARD OF 'quiverlaw18.QuerySplits'. -/
def querySplitsUptoCard : Claim7 := { stood := { row := querySplitsUptoRow, standIns := [], harness := (true, "479036b9c3bd1b80019f2bd0086af5b8d4fa436fc7e75e5db313fccd5059bd68"), looks := true }, kinds := [], alts := [], laidByText := true, laidKinds := [.data, .data, .data, .data, .sentinel, .sentinel, .listed, .data, .pinned], laidTests := true, laidLooks := .later }
def QuerySplitsUptoCardSaid : Prop := Claim7.holds Tryz.pinned (.plain (OpenSpec.upto querySplitsSpec)) querySplitsUptoCard
end Rows
end Go.Proofs.YtpljgnjdlciicaaGreatDoor
