/-
  DERIVED. GIVEN WITH THE SEED: THE CARDS: each row of YtleflnbcgkfojaaDoorRows.lean that lists a variable, with what it lists TIED to the program's text (the seventh form; the later family's looks); each row that meets fmt, with fmt's text TOLD by the authors' own Lean function (tested against real Go, not proved from fmt's source: count such statements apart). THE CARD IS WHAT COUNTS. Prove the row's statement (the work); the ties are given (YtleflnbcgkfojaaDoorTie.lean); close each card by the builder's one call (the guide's Derived/Test/ToyasCard.lean, 'card_holds'). Laid BY PROGRAM, IN A SANDBOX (cutbox-door.mjs). By AI agents, Wed Nov 11 2026. No macro, syntax, notation, axiom, sorry.
-/
import Derived.Test.YtleflnbcgkfojaaDoorRows
import GoSem.ClaimSeven
namespace Go.Proofs.YtleflnbcgkfojaaDoor
namespace Rows

/-- THE TIED CARD OF 'henkanlaw31.HistoryKeys'. -/
def historyKeysCard : Claim7 := { stood := { row := historyKeysRow, standIns := [], harness := (true, "577b67288af055fb43e3878367effa4e821886cd671a574eb69b8691fdc8e626"), looks := false }, kinds := [], alts := [], laidByText := true, laidKinds := [.data, .pinned], laidTests := true, laidLooks := .later }
def HistoryKeysCardSaid : Prop := Claim7.holds Tryd.pinned (.plain (OpenSpec.ofChange historyKeysSpec)) historyKeysCard

/-- THE TIED CARD OF 'henkanlaw31.HistoryAbout'. -/
def historyAboutCard : Claim7 := { stood := { row := historyAboutRow, standIns := [], harness := (true, "577b67288af055fb43e3878367effa4e821886cd671a574eb69b8691fdc8e626"), looks := false }, kinds := [], alts := [], laidByText := true, laidKinds := [.data, .pinned], laidTests := true, laidLooks := .later }
def HistoryAboutCardSaid : Prop := Claim7.holds Tryd.pinned (.plain (OpenSpec.ofChange historyAboutSpec)) historyAboutCard

/-- THE TIED CARD OF 'henkanlaw31.HistoryOnly'. -/
def historyOnlyCard : Claim7 := { stood := { row := historyOnlyRow, standIns := [], harness := (true, "577b67288af055fb43e3878367effa4e821886cd671a574eb69b8691fdc8e626"), looks := false }, kinds := [], alts := [], laidByText := true, laidKinds := [.data, .pinned], laidTests := true, laidLooks := .later }
def HistoryOnlyCardSaid : Prop := Claim7.holds Tryd.pinned (.plain (OpenSpec.ofChange historyOnlySpec)) historyOnlyCard

/-- THE TIED CARD OF 'henkanlaw31.HistoryForgets'. -/
def historyForgetsCard : Claim7 := { stood := { row := historyForgetsRow, standIns := [], harness := (true, "577b67288af055fb43e3878367effa4e821886cd671a574eb69b8691fdc8e626"), looks := false }, kinds := [], alts := [], laidByText := true, laidKinds := [.data, .pinned], laidTests := true, laidLooks := .later }
def HistoryForgetsCardSaid : Prop := Claim7.holds Tryd.pinned (.plain (OpenSpec.ofChange historyForgetsSpec)) historyForgetsCard

/-- THE TIED CARD OF 'henkanlaw31.HistoryOwn'. -/
def historyOwnCard : Claim7 := { stood := { row := historyOwnRow, standIns := [], harness := (true, "577b67288af055fb43e3878367effa4e821886cd671a574eb69b8691fdc8e626"), looks := false }, kinds := [], alts := [], laidByText := true, laidKinds := [.data, .pinned], laidTests := true, laidLooks := .later }
def HistoryOwnCardSaid : Prop := Claim7.holds Tryd.pinned (.plain (OpenSpec.ofChange historyOwnSpec)) historyOwnCard

/-- THE TIED CARD OF 'henkanlaw31.HistoryLast'. -/
def historyLastCard : Claim7 := { stood := { row := historyLastRow, standIns := [], harness := (true, "577b67288af055fb43e3878367effa4e821886cd671a574eb69b8691fdc8e626"), looks := false }, kinds := [], alts := [], laidByText := true, laidKinds := [.data, .pinned], laidTests := true, laidLooks := .later }
def HistoryLastCardSaid : Prop := Claim7.holds Tryd.pinned (.plain (OpenSpec.ofChange historyLastSpec)) historyLastCard

/-- THE TIED CARD OF 'henkanlaw31.HistoryParts'. -/
def historyPartsCard : Claim7 := { stood := { row := historyPartsRow, standIns := [], harness := (true, "577b67288af055fb43e3878367effa4e821886cd671a574eb69b8691fdc8e626"), looks := false }, kinds := [], alts := [], laidByText := true, laidKinds := [.data, .pinned], laidTests := true, laidLooks := .later }
def HistoryPartsCardSaid : Prop := Claim7.holds Tryd.pinned (.plain (OpenSpec.ofChange historyPartsSpec)) historyPartsCard

/-- THE TIED CARD OF 'henkanlaw31.HistoryKnown'. -/
def historyKnownCard : Claim7 := { stood := { row := historyKnownRow, standIns := [], harness := (true, "577b67288af055fb43e3878367effa4e821886cd671a574eb69b8691fdc8e626"), looks := false }, kinds := [], alts := [], laidByText := true, laidKinds := [.data, .pinned], laidTests := true, laidLooks := .later }
def HistoryKnownCardSaid : Prop := Claim7.holds Tryd.pinned (.plain (OpenSpec.ofChange historyKnownSpec)) historyKnownCard

/-- THE SECOND FORM's CARD OF 'henkanlaw31.HistoryKeys'. -/
def historyKeysUptoCard : Claim7 := { stood := { row := historyKeysUptoRow, standIns := [], harness := (true, "577b67288af055fb43e3878367effa4e821886cd671a574eb69b8691fdc8e626"), looks := false }, kinds := [], alts := [], laidByText := true, laidKinds := [.data, .pinned], laidTests := true, laidLooks := .later }
def HistoryKeysUptoCardSaid : Prop := Claim7.holds Tryd.pinned (.plain (OpenSpec.upto historyKeysSpec)) historyKeysUptoCard

/-- THE SECOND FORM's CARD OF 'henkanlaw31.HistoryAbout'. -/
def historyAboutUptoCard : Claim7 := { stood := { row := historyAboutUptoRow, standIns := [], harness := (true, "577b67288af055fb43e3878367effa4e821886cd671a574eb69b8691fdc8e626"), looks := false }, kinds := [], alts := [], laidByText := true, laidKinds := [.data, .pinned], laidTests := true, laidLooks := .later }
def HistoryAboutUptoCardSaid : Prop := Claim7.holds Tryd.pinned (.plain (OpenSpec.upto historyAboutSpec)) historyAboutUptoCard

/-- THE SECOND FORM's CARD OF 'henkanlaw31.HistoryOnly'. -/
def historyOnlyUptoCard : Claim7 := { stood := { row := historyOnlyUptoRow, standIns := [], harness := (true, "577b67288af055fb43e3878367effa4e821886cd671a574eb69b8691fdc8e626"), looks := false }, kinds := [], alts := [], laidByText := true, laidKinds := [.data, .pinned], laidTests := true, laidLooks := .later }
def HistoryOnlyUptoCardSaid : Prop := Claim7.holds Tryd.pinned (.plain (OpenSpec.upto historyOnlySpec)) historyOnlyUptoCard

/-- THE SECOND FORM's CARD OF 'henkanlaw31.HistoryForgets'. -/
def historyForgetsUptoCard : Claim7 := { stood := { row := historyForgetsUptoRow, standIns := [], harness := (true, "577b67288af055fb43e3878367effa4e821886cd671a574eb69b8691fdc8e626"), looks := false }, kinds := [], alts := [], laidByText := true, laidKinds := [.data, .pinned], laidTests := true, laidLooks := .later }
def HistoryForgetsUptoCardSaid : Prop := Claim7.holds Tryd.pinned (.plain (OpenSpec.upto historyForgetsSpec)) historyForgetsUptoCard

/-- THE SECOND FORM's CARD OF 'henkanlaw31.HistoryOwn'. -/
def historyOwnUptoCard : Claim7 := { stood := { row := historyOwnUptoRow, standIns := [], harness := (true, "577b67288af055fb43e3878367effa4e821886cd671a574eb69b8691fdc8e626"), looks := false }, kinds := [], alts := [], laidByText := true, laidKinds := [.data, .pinned], laidTests := true, laidLooks := .later }
def HistoryOwnUptoCardSaid : Prop := Claim7.holds Tryd.pinned (.plain (OpenSpec.upto historyOwnSpec)) historyOwnUptoCard

/-- THE SECOND FORM's CARD OF 'henkanlaw31.HistoryLast'. -/
def historyLastUptoCard : Claim7 := { stood := { row := historyLastUptoRow, standIns := [], harness := (true, "577b67288af055fb43e3878367effa4e821886cd671a574eb69b8691fdc8e626"), looks := false }, kinds := [], alts := [], laidByText := true, laidKinds := [.data, .pinned], laidTests := true, laidLooks := .later }
def HistoryLastUptoCardSaid : Prop := Claim7.holds Tryd.pinned (.plain (OpenSpec.upto historyLastSpec)) historyLastUptoCard

/-- THE SECOND FORM's CARD OF 'henkanlaw31.HistoryParts'. -/
def historyPartsUptoCard : Claim7 := { stood := { row := historyPartsUptoRow, standIns := [], harness := (true, "577b67288af055fb43e3878367effa4e821886cd671a574eb69b8691fdc8e626"), looks := false }, kinds := [], alts := [], laidByText := true, laidKinds := [.data, .pinned], laidTests := true, laidLooks := .later }
def HistoryPartsUptoCardSaid : Prop := Claim7.holds Tryd.pinned (.plain (OpenSpec.upto historyPartsSpec)) historyPartsUptoCard

/-- THE SECOND FORM's CARD OF 'henkanlaw31.HistoryKnown'. -/
def historyKnownUptoCard : Claim7 := { stood := { row := historyKnownUptoRow, standIns := [], harness := (true, "577b67288af055fb43e3878367effa4e821886cd671a574eb69b8691fdc8e626"), looks := false }, kinds := [], alts := [], laidByText := true, laidKinds := [.data, .pinned], laidTests := true, laidLooks := .later }
def HistoryKnownUptoCardSaid : Prop := Claim7.holds Tryd.pinned (.plain (OpenSpec.upto historyKnownSpec)) historyKnownUptoCard
end Rows
end Go.Proofs.YtleflnbcgkfojaaDoor
