/-
  DERIVED. GIVEN WITH THE SEED: THE CARDS: each row of YtbdiimldociobaaDoorRows.lean that lists a variable, with what it lists TIED to the program's text (the seventh form; the later family's looks); each row that meets fmt, with fmt's text TOLD by the authors' own Lean function (tested against real Go, not proved from fmt's source: count such statements apart). THE CARD IS WHAT COUNTS. Prove the row's statement (the work); the ties are given (YtbdiimldociobaaDoorTie.lean); close each card by the builder's one call (the guide's Derived/Test/ToyasCard.lean, 'card_holds'). Laid BY PROGRAM, IN A SANDBOX (cutbox-door.mjs). By AI agents, Wed Nov 11 2026. No macro, syntax, notation, axiom, sorry.
-/
import Derived.Test.YtbdiimldociobaaDoorRows
import GoSem.ClaimSeven
namespace Go.Proofs.YtbdiimldociobaaDoor
namespace Rows

/-- THE TIED CARD OF 'henkanlaw30.KeysMakes'. -/
def keysMakesCard : Claim7 := { stood := { row := keysMakesRow, standIns := [], harness := (true, "8e1d8098c20b354197f62f47ea488202171243bddeb1d5853a77e7d96fd8741a"), looks := false }, kinds := [], alts := [], laidByText := true, laidKinds := [.data, .pinned], laidTests := true, laidLooks := .later }
def KeysMakesCardSaid : Prop := Claim7.holds Tryd.pinned (.plain (OpenSpec.ofChange keysMakesSpec)) keysMakesCard

/-- THE TIED CARD OF 'henkanlaw30.KeysParses'. -/
def keysParsesCard : Claim7 := { stood := { row := keysParsesRow, standIns := [], harness := (true, "8e1d8098c20b354197f62f47ea488202171243bddeb1d5853a77e7d96fd8741a"), looks := false }, kinds := [], alts := [], laidByText := true, laidKinds := [.data, .pinned], laidTests := true, laidLooks := .later }
def KeysParsesCardSaid : Prop := Claim7.holds Tryd.pinned (.plain (OpenSpec.ofChange keysParsesSpec)) keysParsesCard

/-- THE TIED CARD OF 'henkanlaw30.KeysUnders'. -/
def keysUndersCard : Claim7 := { stood := { row := keysUndersRow, standIns := [], harness := (true, "8e1d8098c20b354197f62f47ea488202171243bddeb1d5853a77e7d96fd8741a"), looks := false }, kinds := [], alts := [], laidByText := true, laidKinds := [.data, .pinned], laidTests := true, laidLooks := .later }
def KeysUndersCardSaid : Prop := Claim7.holds Tryd.pinned (.plain (OpenSpec.ofChange keysUndersSpec)) keysUndersCard

/-- THE TIED CARD OF 'henkanlaw30.KeysBack'. -/
def keysBackCard : Claim7 := { stood := { row := keysBackRow, standIns := [], harness := (true, "8e1d8098c20b354197f62f47ea488202171243bddeb1d5853a77e7d96fd8741a"), looks := false }, kinds := [], alts := [], laidByText := true, laidKinds := [.data, .pinned], laidTests := true, laidLooks := .later }
def KeysBackCardSaid : Prop := Claim7.holds Tryd.pinned (.plain (OpenSpec.ofChange keysBackSpec)) keysBackCard

/-- THE TIED CARD OF 'henkanlaw30.KeysOrder'. -/
def keysOrderCard : Claim7 := { stood := { row := keysOrderRow, standIns := [], harness := (true, "8e1d8098c20b354197f62f47ea488202171243bddeb1d5853a77e7d96fd8741a"), looks := false }, kinds := [], alts := [], laidByText := true, laidKinds := [.data, .pinned], laidTests := true, laidLooks := .later }
def KeysOrderCardSaid : Prop := Claim7.holds Tryd.pinned (.plain (OpenSpec.ofChange keysOrderSpec)) keysOrderCard

/-- THE TIED CARD OF 'henkanlaw30.KeysBetween'. -/
def keysBetweenCard : Claim7 := { stood := { row := keysBetweenRow, standIns := [], harness := (true, "8e1d8098c20b354197f62f47ea488202171243bddeb1d5853a77e7d96fd8741a"), looks := false }, kinds := [], alts := [], laidByText := true, laidKinds := [.data, .pinned], laidTests := true, laidLooks := .later }
def KeysBetweenCardSaid : Prop := Claim7.holds Tryd.pinned (.plain (OpenSpec.ofChange keysBetweenSpec)) keysBetweenCard

/-- THE TIED CARD OF 'henkanlaw30.KeysParts'. -/
def keysPartsCard : Claim7 := { stood := { row := keysPartsRow, standIns := [], harness := (true, "8e1d8098c20b354197f62f47ea488202171243bddeb1d5853a77e7d96fd8741a"), looks := false }, kinds := [], alts := [], laidByText := true, laidKinds := [.data, .pinned], laidTests := true, laidLooks := .later }
def KeysPartsCardSaid : Prop := Claim7.holds Tryd.pinned (.plain (OpenSpec.ofChange keysPartsSpec)) keysPartsCard

/-- THE TIED CARD OF 'henkanlaw30.KeysKnown'. -/
def keysKnownCard : Claim7 := { stood := { row := keysKnownRow, standIns := [], harness := (true, "8e1d8098c20b354197f62f47ea488202171243bddeb1d5853a77e7d96fd8741a"), looks := false }, kinds := [], alts := [], laidByText := true, laidKinds := [.data, .pinned], laidTests := true, laidLooks := .later }
def KeysKnownCardSaid : Prop := Claim7.holds Tryd.pinned (.plain (OpenSpec.ofChange keysKnownSpec)) keysKnownCard

/-- THE SECOND FORM's CARD OF 'henkanlaw30.KeysMakes'. -/
def keysMakesUptoCard : Claim7 := { stood := { row := keysMakesUptoRow, standIns := [], harness := (true, "8e1d8098c20b354197f62f47ea488202171243bddeb1d5853a77e7d96fd8741a"), looks := false }, kinds := [], alts := [], laidByText := true, laidKinds := [.data, .pinned], laidTests := true, laidLooks := .later }
def KeysMakesUptoCardSaid : Prop := Claim7.holds Tryd.pinned (.plain (OpenSpec.upto keysMakesSpec)) keysMakesUptoCard

/-- THE SECOND FORM's CARD OF 'henkanlaw30.KeysParses'. -/
def keysParsesUptoCard : Claim7 := { stood := { row := keysParsesUptoRow, standIns := [], harness := (true, "8e1d8098c20b354197f62f47ea488202171243bddeb1d5853a77e7d96fd8741a"), looks := false }, kinds := [], alts := [], laidByText := true, laidKinds := [.data, .pinned], laidTests := true, laidLooks := .later }
def KeysParsesUptoCardSaid : Prop := Claim7.holds Tryd.pinned (.plain (OpenSpec.upto keysParsesSpec)) keysParsesUptoCard

/-- THE SECOND FORM's CARD OF 'henkanlaw30.KeysUnders'. -/
def keysUndersUptoCard : Claim7 := { stood := { row := keysUndersUptoRow, standIns := [], harness := (true, "8e1d8098c20b354197f62f47ea488202171243bddeb1d5853a77e7d96fd8741a"), looks := false }, kinds := [], alts := [], laidByText := true, laidKinds := [.data, .pinned], laidTests := true, laidLooks := .later }
def KeysUndersUptoCardSaid : Prop := Claim7.holds Tryd.pinned (.plain (OpenSpec.upto keysUndersSpec)) keysUndersUptoCard

/-- THE SECOND FORM's CARD OF 'henkanlaw30.KeysBack'. -/
def keysBackUptoCard : Claim7 := { stood := { row := keysBackUptoRow, standIns := [], harness := (true, "8e1d8098c20b354197f62f47ea488202171243bddeb1d5853a77e7d96fd8741a"), looks := false }, kinds := [], alts := [], laidByText := true, laidKinds := [.data, .pinned], laidTests := true, laidLooks := .later }
def KeysBackUptoCardSaid : Prop := Claim7.holds Tryd.pinned (.plain (OpenSpec.upto keysBackSpec)) keysBackUptoCard

/-- THE SECOND FORM's CARD OF 'henkanlaw30.KeysOrder'. -/
def keysOrderUptoCard : Claim7 := { stood := { row := keysOrderUptoRow, standIns := [], harness := (true, "8e1d8098c20b354197f62f47ea488202171243bddeb1d5853a77e7d96fd8741a"), looks := false }, kinds := [], alts := [], laidByText := true, laidKinds := [.data, .pinned], laidTests := true, laidLooks := .later }
def KeysOrderUptoCardSaid : Prop := Claim7.holds Tryd.pinned (.plain (OpenSpec.upto keysOrderSpec)) keysOrderUptoCard

/-- THE SECOND FORM's CARD OF 'henkanlaw30.KeysBetween'. -/
def keysBetweenUptoCard : Claim7 := { stood := { row := keysBetweenUptoRow, standIns := [], harness := (true, "8e1d8098c20b354197f62f47ea488202171243bddeb1d5853a77e7d96fd8741a"), looks := false }, kinds := [], alts := [], laidByText := true, laidKinds := [.data, .pinned], laidTests := true, laidLooks := .later }
def KeysBetweenUptoCardSaid : Prop := Claim7.holds Tryd.pinned (.plain (OpenSpec.upto keysBetweenSpec)) keysBetweenUptoCard

/-- THE SECOND FORM's CARD OF 'henkanlaw30.KeysParts'. -/
def keysPartsUptoCard : Claim7 := { stood := { row := keysPartsUptoRow, standIns := [], harness := (true, "8e1d8098c20b354197f62f47ea488202171243bddeb1d5853a77e7d96fd8741a"), looks := false }, kinds := [], alts := [], laidByText := true, laidKinds := [.data, .pinned], laidTests := true, laidLooks := .later }
def KeysPartsUptoCardSaid : Prop := Claim7.holds Tryd.pinned (.plain (OpenSpec.upto keysPartsSpec)) keysPartsUptoCard

/-- THE SECOND FORM's CARD OF 'henkanlaw30.KeysKnown'. -/
def keysKnownUptoCard : Claim7 := { stood := { row := keysKnownUptoRow, standIns := [], harness := (true, "8e1d8098c20b354197f62f47ea488202171243bddeb1d5853a77e7d96fd8741a"), looks := false }, kinds := [], alts := [], laidByText := true, laidKinds := [.data, .pinned], laidTests := true, laidLooks := .later }
def KeysKnownUptoCardSaid : Prop := Claim7.holds Tryd.pinned (.plain (OpenSpec.upto keysKnownSpec)) keysKnownUptoCard
end Rows
end Go.Proofs.YtbdiimldociobaaDoor
