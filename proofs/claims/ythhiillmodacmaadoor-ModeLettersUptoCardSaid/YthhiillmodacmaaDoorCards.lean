/-
  DERIVED. GIVEN WITH THE SEED: THE CARDS: each row of YthhiillmodacmaaDoorRows.lean that lists a variable, with what it lists TIED to the program's text (the seventh form; the later family's looks); each row that meets fmt, with fmt's text TOLD by the authors' own Lean function (tested against real Go, not proved from fmt's source: count such statements apart). THE CARD IS WHAT COUNTS. Prove the row's statement (the work); the ties are given (YthhiillmodacmaaDoorTie.lean); close each card by the builder's one call (the guide's Derived/Test/ToyasCard.lean, 'card_holds'). Laid BY PROGRAM, IN A SANDBOX (cutbox-door.mjs). By AI agents, Wed Nov 11 2026. No macro, syntax, notation, axiom, sorry.
-/
import Derived.Test.YthhiillmodacmaaDoorRows
import GoSem.ClaimSeven
namespace Go.Proofs.YthhiillmodacmaaDoor
namespace Rows

/-- THE TIED CARD OF 'henkanlaw07.ModeOneReading'. -/
def modeOneReadingCard : Claim7 := { stood := { row := modeOneReadingRow, standIns := [], harness := (true, "3892c8fc8f3320cd22514f886edfa268a9eb3432c29d4cd169b47b97e80ad186"), looks := false }, kinds := [], alts := [], laidByText := true, laidKinds := [.data, .data, .pinned], laidTests := true, laidLooks := .later }
def ModeOneReadingCardSaid : Prop := Claim7.holds Tryd.pinned (.plain (OpenSpec.ofChange modeOneReadingSpec)) modeOneReadingCard

/-- THE TIED CARD OF 'henkanlaw07.ModeShows'. -/
def modeShowsCard : Claim7 := { stood := { row := modeShowsRow, standIns := [], harness := (true, "3892c8fc8f3320cd22514f886edfa268a9eb3432c29d4cd169b47b97e80ad186"), looks := false }, kinds := [], alts := [], laidByText := true, laidKinds := [.data, .data, .pinned], laidTests := true, laidLooks := .later }
def ModeShowsCardSaid : Prop := Claim7.holds Tryd.pinned (.plain (OpenSpec.ofChange modeShowsSpec)) modeShowsCard

/-- THE TIED CARD OF 'henkanlaw07.ModeToggles'. -/
def modeTogglesCard : Claim7 := { stood := { row := modeTogglesRow, standIns := [], harness := (true, "3892c8fc8f3320cd22514f886edfa268a9eb3432c29d4cd169b47b97e80ad186"), looks := false }, kinds := [], alts := [], laidByText := true, laidKinds := [.data, .data, .pinned], laidTests := true, laidLooks := .later }
def ModeTogglesCardSaid : Prop := Claim7.holds Tryd.pinned (.plain (OpenSpec.ofChange modeTogglesSpec)) modeTogglesCard

/-- THE TIED CARD OF 'henkanlaw07.ModeChars'. -/
def modeCharsCard : Claim7 := { stood := { row := modeCharsRow, standIns := [], harness := (true, "3892c8fc8f3320cd22514f886edfa268a9eb3432c29d4cd169b47b97e80ad186"), looks := false }, kinds := [], alts := [], laidByText := true, laidKinds := [.data, .data, .pinned], laidTests := true, laidLooks := .later }
def ModeCharsCardSaid : Prop := Claim7.holds Tryd.pinned (.plain (OpenSpec.ofChange modeCharsSpec)) modeCharsCard

/-- THE TIED CARD OF 'henkanlaw07.ModeForms'. -/
def modeFormsCard : Claim7 := { stood := { row := modeFormsRow, standIns := [], harness := (true, "3892c8fc8f3320cd22514f886edfa268a9eb3432c29d4cd169b47b97e80ad186"), looks := false }, kinds := [], alts := [], laidByText := true, laidKinds := [.data, .data, .pinned], laidTests := true, laidLooks := .later }
def ModeFormsCardSaid : Prop := Claim7.holds Tryd.pinned (.plain (OpenSpec.ofChange modeFormsSpec)) modeFormsCard

/-- THE TIED CARD OF 'henkanlaw07.ModeBack'. -/
def modeBackCard : Claim7 := { stood := { row := modeBackRow, standIns := [], harness := (true, "3892c8fc8f3320cd22514f886edfa268a9eb3432c29d4cd169b47b97e80ad186"), looks := false }, kinds := [], alts := [], laidByText := true, laidKinds := [.data, .data, .pinned], laidTests := true, laidLooks := .later }
def ModeBackCardSaid : Prop := Claim7.holds Tryd.pinned (.plain (OpenSpec.ofChange modeBackSpec)) modeBackCard

/-- THE TIED CARD OF 'henkanlaw07.ModeLetters'. -/
def modeLettersCard : Claim7 := { stood := { row := modeLettersRow, standIns := [], harness := (true, "3892c8fc8f3320cd22514f886edfa268a9eb3432c29d4cd169b47b97e80ad186"), looks := false }, kinds := [], alts := [], laidByText := true, laidKinds := [.data, .data, .pinned], laidTests := true, laidLooks := .later }
def ModeLettersCardSaid : Prop := Claim7.holds Tryd.pinned (.plain (OpenSpec.ofChange modeLettersSpec)) modeLettersCard

/-- THE TIED CARD OF 'henkanlaw07.ModeKnown'. -/
def modeKnownCard : Claim7 := { stood := { row := modeKnownRow, standIns := [], harness := (true, "3892c8fc8f3320cd22514f886edfa268a9eb3432c29d4cd169b47b97e80ad186"), looks := false }, kinds := [], alts := [], laidByText := true, laidKinds := [.data, .data, .pinned], laidTests := true, laidLooks := .later }
def ModeKnownCardSaid : Prop := Claim7.holds Tryd.pinned (.plain (OpenSpec.ofChange modeKnownSpec)) modeKnownCard

/-- THE SECOND FORM's CARD OF 'henkanlaw07.ModeOneReading'. -/
def modeOneReadingUptoCard : Claim7 := { stood := { row := modeOneReadingUptoRow, standIns := [], harness := (true, "3892c8fc8f3320cd22514f886edfa268a9eb3432c29d4cd169b47b97e80ad186"), looks := false }, kinds := [], alts := [], laidByText := true, laidKinds := [.data, .data, .pinned], laidTests := true, laidLooks := .later }
def ModeOneReadingUptoCardSaid : Prop := Claim7.holds Tryd.pinned (.plain (OpenSpec.upto modeOneReadingSpec)) modeOneReadingUptoCard

/-- THE SECOND FORM's CARD OF 'henkanlaw07.ModeShows'. -/
def modeShowsUptoCard : Claim7 := { stood := { row := modeShowsUptoRow, standIns := [], harness := (true, "3892c8fc8f3320cd22514f886edfa268a9eb3432c29d4cd169b47b97e80ad186"), looks := false }, kinds := [], alts := [], laidByText := true, laidKinds := [.data, .data, .pinned], laidTests := true, laidLooks := .later }
def ModeShowsUptoCardSaid : Prop := Claim7.holds Tryd.pinned (.plain (OpenSpec.upto modeShowsSpec)) modeShowsUptoCard

/-- THE SECOND FORM's CARD OF 'henkanlaw07.ModeToggles'. -/
def modeTogglesUptoCard : Claim7 := { stood := { row := modeTogglesUptoRow, standIns := [], harness := (true, "3892c8fc8f3320cd22514f886edfa268a9eb3432c29d4cd169b47b97e80ad186"), looks := false }, kinds := [], alts := [], laidByText := true, laidKinds := [.data, .data, .pinned], laidTests := true, laidLooks := .later }
def ModeTogglesUptoCardSaid : Prop := Claim7.holds Tryd.pinned (.plain (OpenSpec.upto modeTogglesSpec)) modeTogglesUptoCard

/-- THE SECOND FORM's CARD OF 'henkanlaw07.ModeChars'. -/
def modeCharsUptoCard : Claim7 := { stood := { row := modeCharsUptoRow, standIns := [], harness := (true, "3892c8fc8f3320cd22514f886edfa268a9eb3432c29d4cd169b47b97e80ad186"), looks := false }, kinds := [], alts := [], laidByText := true, laidKinds := [.data, .data, .pinned], laidTests := true, laidLooks := .later }
def ModeCharsUptoCardSaid : Prop := Claim7.holds Tryd.pinned (.plain (OpenSpec.upto modeCharsSpec)) modeCharsUptoCard

/-- THE SECOND FORM's CARD OF 'henkanlaw07.ModeForms'. -/
def modeFormsUptoCard : Claim7 := { stood := { row := modeFormsUptoRow, standIns := [], harness := (true, "3892c8fc8f3320cd22514f886edfa268a9eb3432c29d4cd169b47b97e80ad186"), looks := false }, kinds := [], alts := [], laidByText := true, laidKinds := [.data, .data, .pinned], laidTests := true, laidLooks := .later }
def ModeFormsUptoCardSaid : Prop := Claim7.holds Tryd.pinned (.plain (OpenSpec.upto modeFormsSpec)) modeFormsUptoCard

/-- THE SECOND FORM's CARD OF 'henkanlaw07.ModeBack'. -/
def modeBackUptoCard : Claim7 := { stood := { row := modeBackUptoRow, standIns := [], harness := (true, "3892c8fc8f3320cd22514f886edfa268a9eb3432c29d4cd169b47b97e80ad186"), looks := false }, kinds := [], alts := [], laidByText := true, laidKinds := [.data, .data, .pinned], laidTests := true, laidLooks := .later }
def ModeBackUptoCardSaid : Prop := Claim7.holds Tryd.pinned (.plain (OpenSpec.upto modeBackSpec)) modeBackUptoCard

/-- THE SECOND FORM's CARD OF 'henkanlaw07.ModeLetters'. -/
def modeLettersUptoCard : Claim7 := { stood := { row := modeLettersUptoRow, standIns := [], harness := (true, "3892c8fc8f3320cd22514f886edfa268a9eb3432c29d4cd169b47b97e80ad186"), looks := false }, kinds := [], alts := [], laidByText := true, laidKinds := [.data, .data, .pinned], laidTests := true, laidLooks := .later }
def ModeLettersUptoCardSaid : Prop := Claim7.holds Tryd.pinned (.plain (OpenSpec.upto modeLettersSpec)) modeLettersUptoCard

/-- THE SECOND FORM's CARD OF 'henkanlaw07.ModeKnown'. -/
def modeKnownUptoCard : Claim7 := { stood := { row := modeKnownUptoRow, standIns := [], harness := (true, "3892c8fc8f3320cd22514f886edfa268a9eb3432c29d4cd169b47b97e80ad186"), looks := false }, kinds := [], alts := [], laidByText := true, laidKinds := [.data, .data, .pinned], laidTests := true, laidLooks := .later }
def ModeKnownUptoCardSaid : Prop := Claim7.holds Tryd.pinned (.plain (OpenSpec.upto modeKnownSpec)) modeKnownUptoCard
end Rows
end Go.Proofs.YthhiillmodacmaaDoor
