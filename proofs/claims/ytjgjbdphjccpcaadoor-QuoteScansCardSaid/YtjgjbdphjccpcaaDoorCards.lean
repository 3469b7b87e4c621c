/-
  DERIVED. GIVEN WITH THE SEED: THE CARDS: each row of YtjgjbdphjccpcaaDoorRows.lean that lists a variable, with what it lists TIED to the program's text (the seventh form; the later family's looks); each row that meets fmt, with fmt's text TOLD by the authors' own Lean function (tested against real Go, not proved from fmt's source: count such statements apart). THE CARD IS WHAT COUNTS. Prove the row's statement (the work); the ties are given (YtjgjbdphjccpcaaDoorTie.lean); close each card by the builder's one call (the guide's Derived/Test/ToyasCard.lean, 'card_holds'). Laid BY PROGRAM, IN A SANDBOX (cutbox-door.mjs). By AI agents, Wed Nov 11 2026. No macro, syntax, notation, axiom, sorry.
-/
import Derived.Test.YtjgjbdphjccpcaaDoorRows
import GoSem.ClaimSeven
namespace Go.Proofs.YtjgjbdphjccpcaaDoor
namespace Rows

/-- THE TIED CARD OF 'cavillaw10.QuoteReads'. -/
def quoteReadsCard : Claim7 := { stood := { row := quoteReadsRow, standIns := [], harness := (true, "fd6fb2a6af0f4a7918ff598019457236d83170625dd0d47a1171533605e00f1b"), looks := true }, kinds := [], alts := [], laidByText := true, laidKinds := [.data, .pinned], laidTests := true, laidLooks := .later }
def QuoteReadsCardSaid : Prop := Claim7.holds Tryd.pinned (.plain (OpenSpec.ofChange quoteReadsSpec)) quoteReadsCard

/-- THE TIED CARD OF 'cavillaw10.QuoteAlone'. -/
def quoteAloneCard : Claim7 := { stood := { row := quoteAloneRow, standIns := [], harness := (true, "fd6fb2a6af0f4a7918ff598019457236d83170625dd0d47a1171533605e00f1b"), looks := true }, kinds := [], alts := [], laidByText := true, laidKinds := [.data, .pinned], laidTests := true, laidLooks := .later }
def QuoteAloneCardSaid : Prop := Claim7.holds Tryd.pinned (.plain (OpenSpec.ofChange quoteAloneSpec)) quoteAloneCard

/-- THE TIED CARD OF 'cavillaw10.QuoteWrites'. -/
def quoteWritesCard : Claim7 := { stood := { row := quoteWritesRow, standIns := [], harness := (true, "fd6fb2a6af0f4a7918ff598019457236d83170625dd0d47a1171533605e00f1b"), looks := true }, kinds := [], alts := [], laidByText := true, laidKinds := [.data, .pinned], laidTests := true, laidLooks := .later }
def QuoteWritesCardSaid : Prop := Claim7.holds Tryd.pinned (.plain (OpenSpec.ofChange quoteWritesSpec)) quoteWritesCard

/-- THE TIED CARD OF 'cavillaw10.QuoteScans'. -/
def quoteScansCard : Claim7 := { stood := { row := quoteScansRow, standIns := [], harness := (true, "fd6fb2a6af0f4a7918ff598019457236d83170625dd0d47a1171533605e00f1b"), looks := true }, kinds := [], alts := [], laidByText := true, laidKinds := [.data, .pinned], laidTests := true, laidLooks := .later }
def QuoteScansCardSaid : Prop := Claim7.holds Tryd.pinned (.plain (OpenSpec.ofChange quoteScansSpec)) quoteScansCard

/-- THE SECOND FORM's CARD OF 'cavillaw10.QuoteReads'. -/
def quoteReadsUptoCard : Claim7 := { stood := { row := quoteReadsUptoRow, standIns := [], harness := (true, "fd6fb2a6af0f4a7918ff598019457236d83170625dd0d47a1171533605e00f1b"), looks := true }, kinds := [], alts := [], laidByText := true, laidKinds := [.data, .pinned], laidTests := true, laidLooks := .later }
def QuoteReadsUptoCardSaid : Prop := Claim7.holds Tryd.pinned (.plain (OpenSpec.upto quoteReadsSpec)) quoteReadsUptoCard

/-- THE SECOND FORM's CARD OF 'cavillaw10.QuoteAlone'. -/
def quoteAloneUptoCard : Claim7 := { stood := { row := quoteAloneUptoRow, standIns := [], harness := (true, "fd6fb2a6af0f4a7918ff598019457236d83170625dd0d47a1171533605e00f1b"), looks := true }, kinds := [], alts := [], laidByText := true, laidKinds := [.data, .pinned], laidTests := true, laidLooks := .later }
def QuoteAloneUptoCardSaid : Prop := Claim7.holds Tryd.pinned (.plain (OpenSpec.upto quoteAloneSpec)) quoteAloneUptoCard

/-- THE SECOND FORM's CARD OF 'cavillaw10.QuoteWrites'. -/
def quoteWritesUptoCard : Claim7 := { stood := { row := quoteWritesUptoRow, standIns := [], harness := (true, "fd6fb2a6af0f4a7918ff598019457236d83170625dd0d47a1171533605e00f1b"), looks := true }, kinds := [], alts := [], laidByText := true, laidKinds := [.data, .pinned], laidTests := true, laidLooks := .later }
def QuoteWritesUptoCardSaid : Prop := Claim7.holds Tryd.pinned (.plain (OpenSpec.upto quoteWritesSpec)) quoteWritesUptoCard

/-- THE SECOND FORM's CARD OF 'cavillaw10.QuoteScans'. -/
def quoteScansUptoCard : Claim7 := { stood := { row := quoteScansUptoRow, standIns := [], harness := (true, "fd6fb2a6af0f4a7918ff598019457236d83170625dd0d47a1171533605e00f1b"), looks := true }, kinds := [], alts := [], laidByText := true, laidKinds := [.data, .pinned], laidTests := true, laidLooks := .later }
def QuoteScansUptoCardSaid : Prop := Claim7.holds Tryd.pinned (.plain (OpenSpec.upto quoteScansSpec)) quoteScansUptoCard
end Rows
end Go.Proofs.YtjgjbdphjccpcaaDoor
