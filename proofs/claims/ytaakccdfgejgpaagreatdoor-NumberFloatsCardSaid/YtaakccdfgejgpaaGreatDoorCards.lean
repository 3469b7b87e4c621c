/-
  DERIVED. GIVEN WITH THE SEED: THE CARDS: each row of YtaakccdfgejgpaaGreatDoorRows.lean that lists a variable, with what it lists TIED to the program's text (the seventh form; the later family's looks); each row that meets fmt, with fmt's text TOLD by the authors' own Lean function (tested against real Go, not proved from fmt's source: count such statements apart). THE CARD IS WHAT COUNTS. Prove the row's statement (the work); the ties are given (YtaakccdfgejgpaaGreatDoorTie.lean); close each card by the builder's one call (the guide's Derived/Test/ToyasCard.lean, 'card_holds'). Laid BY PROGRAM, IN A SANDBOX (cutbox-door.mjs). By AI agents, Wed Nov 11 2026. No macro, syntax, notation, axiom, sorry.
-/
import Derived.Test.YtaakccdfgejgpaaGreatDoorRows
import GoSem.ClaimSeven
namespace Go.Proofs.YtaakccdfgejgpaaGreatDoor
namespace Rows

/-- THE TIED CARD OF 'cavillaw09.NumberScans'. -/
def numberScansCard : Claim7 := { stood := { row := numberScansRow, standIns := [], harness := (true, "60e967dc9899789d0b1d52cfc7e7919202761b16f84425a4bc5683a75ff2b3ab"), looks := true }, kinds := [], alts := [], laidByText := true, laidKinds := [.data, .pinned], laidTests := true, laidLooks := .later }
def NumberScansCardSaid : Prop := Claim7.holds Tryz.pinned (.plain (OpenSpec.ofChange numberScansSpec)) numberScansCard

/-- THE TIED CARD OF 'cavillaw09.NumberInts'. -/
def numberIntsCard : Claim7 := { stood := { row := numberIntsRow, standIns := [], harness := (true, "60e967dc9899789d0b1d52cfc7e7919202761b16f84425a4bc5683a75ff2b3ab"), looks := true }, kinds := [], alts := [], laidByText := true, laidKinds := [.data, .pinned], laidTests := true, laidLooks := .later }
def NumberIntsCardSaid : Prop := Claim7.holds Tryz.pinned (.plain (OpenSpec.ofChange numberIntsSpec)) numberIntsCard

/-- THE TIED CARD OF 'cavillaw09.NumberFloats'. -/
def numberFloatsCard : Claim7 := { stood := { row := numberFloatsRow, standIns := [], harness := (true, "60e967dc9899789d0b1d52cfc7e7919202761b16f84425a4bc5683a75ff2b3ab"), looks := true }, kinds := [], alts := [], laidByText := true, laidKinds := [.data, .pinned], laidTests := true, laidLooks := .later }
def NumberFloatsCardSaid : Prop := Claim7.holds Tryz.pinned (.plain (OpenSpec.ofChange numberFloatsSpec)) numberFloatsCard

/-- THE TIED CARD OF 'cavillaw09.NumberDecimal'. -/
def numberDecimalCard : Claim7 := { stood := { row := numberDecimalRow, standIns := [], harness := (true, "60e967dc9899789d0b1d52cfc7e7919202761b16f84425a4bc5683a75ff2b3ab"), looks := true }, kinds := [], alts := [], laidByText := true, laidKinds := [.data, .pinned], laidTests := true, laidLooks := .later }
def NumberDecimalCardSaid : Prop := Claim7.holds Tryz.pinned (.plain (OpenSpec.ofChange numberDecimalSpec)) numberDecimalCard

/-- THE TIED CARD OF 'cavillaw09.NumberWhole'. -/
def numberWholeCard : Claim7 := { stood := { row := numberWholeRow, standIns := [], harness := (true, "60e967dc9899789d0b1d52cfc7e7919202761b16f84425a4bc5683a75ff2b3ab"), looks := true }, kinds := [], alts := [], laidByText := true, laidKinds := [.data, .pinned], laidTests := true, laidLooks := .later }
def NumberWholeCardSaid : Prop := Claim7.holds Tryz.pinned (.plain (OpenSpec.ofChange numberWholeSpec)) numberWholeCard

/-- THE SECOND FORM's CARD OF 'cavillaw09.NumberScans'. -/
def numberScansUptoCard : Claim7 := { stood := { row := numberScansUptoRow, standIns := [], harness := (true, "60e967dc9899789d0b1d52cfc7e7919202761b16f84425a4bc5683a75ff2b3ab"), looks := true }, kinds := [], alts := [], laidByText := true, laidKinds := [.data, .pinned], laidTests := true, laidLooks := .later }
def NumberScansUptoCardSaid : Prop := Claim7.holds Tryz.pinned (.plain (OpenSpec.upto numberScansSpec)) numberScansUptoCard

/-- THE SECOND FORM's CARD OF 'cavillaw09.NumberInts'. -/
def numberIntsUptoCard : Claim7 := { stood := { row := numberIntsUptoRow, standIns := [], harness := (true, "60e967dc9899789d0b1d52cfc7e7919202761b16f84425a4bc5683a75ff2b3ab"), looks := true }, kinds := [], alts := [], laidByText := true, laidKinds := [.data, .pinned], laidTests := true, laidLooks := .later }
def NumberIntsUptoCardSaid : Prop := Claim7.holds Tryz.pinned (.plain (OpenSpec.upto numberIntsSpec)) numberIntsUptoCard

/-- THE SECOND FORM's CARD OF 'cavillaw09.NumberFloats'. -/
def numberFloatsUptoCard : Claim7 := { stood := { row := numberFloatsUptoRow, standIns := [], harness := (true, "60e967dc9899789d0b1d52cfc7e7919202761b16f84425a4bc5683a75ff2b3ab"), looks := true }, kinds := [], alts := [], laidByText := true, laidKinds := [.data, .pinned], laidTests := true, laidLooks := .later }
def NumberFloatsUptoCardSaid : Prop := Claim7.holds Tryz.pinned (.plain (OpenSpec.upto numberFloatsSpec)) numberFloatsUptoCard

/-- THE SECOND FORM's CARD OF 'cavillaw09.NumberDecimal'. -/
def numberDecimalUptoCard : Claim7 := { stood := { row := numberDecimalUptoRow, standIns := [], harness := (true, "60e967dc9899789d0b1d52cfc7e7919202761b16f84425a4bc5683a75ff2b3ab"), looks := true }, kinds := [], alts := [], laidByText := true, laidKinds := [.data, .pinned], laidTests := true, laidLooks := .later }
def NumberDecimalUptoCardSaid : Prop := Claim7.holds Tryz.pinned (.plain (OpenSpec.upto numberDecimalSpec)) numberDecimalUptoCard

/-- THE SECOND FORM's CARD OF 'cavillaw09.NumberWhole'. -/
def numberWholeUptoCard : Claim7 := { stood := { row := numberWholeUptoRow, standIns := [], harness := (true, "60e967dc9899789d0b1d52cfc7e7919202761b16f84425a4bc5683a75ff2b3ab"), looks := true }, kinds := [], alts := [], laidByText := true, laidKinds := [.data, .pinned], laidTests := true, laidLooks := .later }
def NumberWholeUptoCardSaid : Prop := Claim7.holds Tryz.pinned (.plain (OpenSpec.upto numberWholeSpec)) numberWholeUptoCard
end Rows
end Go.Proofs.YtaakccdfgejgpaaGreatDoor
