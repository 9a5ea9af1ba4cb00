/-
  DERIVED. GIVEN WITH THE SEED: THE CARDS: each row of YtoihfmjnonanjaaDoorRows.lean that lists a variable, with what it lists TIED to the program's text (the seventh form; the later family's looks); each row that meets fmt, with fmt's text TOLD by the authors' own Lean function (tested against real Go, not proved from fmt's source: count such statements apart). THE CARD IS WHAT COUNTS. Prove the row's statement (the work); the ties are given (YtoihfmjnonanjaaDoorTie.lean); close each card by the builder's one call (the guide's Derived/Test/ToyasCard.lean, 'card_holds'). Laid BY PROGRAM, IN A SANDBOX (cutbox-door.mjs). By AI agents, Wed Nov 11 2026. No macro, syntax, notation, axiom, sorry.
-/
import Derived.Test.YtoihfmjnonanjaaDoorRows
import GoSem.ClaimSeven
namespace Go.Proofs.YtoihfmjnonanjaaDoor
namespace Rows

/-- THE TIED CARD OF 'henkanlaw15.PosKnown'. -/
def posKnownCard : Claim7 := { stood := { row := posKnownRow, standIns := [], harness := (true, "a54f27a7c599c4a4d64ac3b035b7946582d41e0c7d9331af5884c9ef6d1a76f2"), looks := true }, kinds := [], alts := [], laidByText := true, laidKinds := [.data, .widerDeep, .pinned], laidTests := true, laidLooks := .later }
def PosKnownCardSaid : Prop := Claim7.holds Tryd.pinned (.plain (OpenSpec.ofChange posKnownSpec)) posKnownCard

/-- THE TIED CARD OF 'henkanlaw15.PosParses'. -/
def posParsesCard : Claim7 := { stood := { row := posParsesRow, standIns := [], harness := (true, "a54f27a7c599c4a4d64ac3b035b7946582d41e0c7d9331af5884c9ef6d1a76f2"), looks := true }, kinds := [], alts := [], laidByText := true, laidKinds := [.data, .widerDeep, .pinned], laidTests := true, laidLooks := .later }
def PosParsesCardSaid : Prop := Claim7.holds Tryd.pinned (.plain (OpenSpec.ofChange posParsesSpec)) posParsesCard

/-- THE TIED CARD OF 'henkanlaw15.PosFinds'. -/
def posFindsCard : Claim7 := { stood := { row := posFindsRow, standIns := [], harness := (true, "a54f27a7c599c4a4d64ac3b035b7946582d41e0c7d9331af5884c9ef6d1a76f2"), looks := true }, kinds := [], alts := [], laidByText := true, laidKinds := [.data, .widerDeep, .pinned], laidTests := true, laidLooks := .later }
def PosFindsCardSaid : Prop := Claim7.holds Tryd.pinned (.plain (OpenSpec.ofChange posFindsSpec)) posFindsCard

/-- THE TIED CARD OF 'henkanlaw15.PosBreaks'. -/
def posBreaksCard : Claim7 := { stood := { row := posBreaksRow, standIns := [], harness := (true, "a54f27a7c599c4a4d64ac3b035b7946582d41e0c7d9331af5884c9ef6d1a76f2"), looks := true }, kinds := [], alts := [], laidByText := true, laidKinds := [.data, .widerDeep, .pinned], laidTests := true, laidLooks := .later }
def PosBreaksCardSaid : Prop := Claim7.holds Tryd.pinned (.plain (OpenSpec.ofChange posBreaksSpec)) posBreaksCard

/-- THE TIED CARD OF 'henkanlaw15.PosComments'. -/
def posCommentsCard : Claim7 := { stood := { row := posCommentsRow, standIns := [], harness := (true, "a54f27a7c599c4a4d64ac3b035b7946582d41e0c7d9331af5884c9ef6d1a76f2"), looks := true }, kinds := [], alts := [], laidByText := true, laidKinds := [.data, .widerDeep, .pinned], laidTests := true, laidLooks := .later }
def PosCommentsCardSaid : Prop := Claim7.holds Tryd.pinned (.plain (OpenSpec.ofChange posCommentsSpec)) posCommentsCard

/-- THE TIED CARD OF 'henkanlaw15.PosNames'. -/
def posNamesCard : Claim7 := { stood := { row := posNamesRow, standIns := [], harness := (true, "a54f27a7c599c4a4d64ac3b035b7946582d41e0c7d9331af5884c9ef6d1a76f2"), looks := true }, kinds := [], alts := [], laidByText := true, laidKinds := [.data, .widerDeep, .pinned], laidTests := true, laidLooks := .later }
def PosNamesCardSaid : Prop := Claim7.holds Tryd.pinned (.plain (OpenSpec.ofChange posNamesSpec)) posNamesCard

/-- THE TIED CARD OF 'henkanlaw15.PosPrints'. -/
def posPrintsCard : Claim7 := { stood := { row := posPrintsRow, standIns := [], harness := (true, "a54f27a7c599c4a4d64ac3b035b7946582d41e0c7d9331af5884c9ef6d1a76f2"), looks := true }, kinds := [], alts := [], laidByText := true, laidKinds := [.data, .widerDeep, .pinned], laidTests := true, laidLooks := .later }
def PosPrintsCardSaid : Prop := Claim7.holds Tryd.pinned (.plain (OpenSpec.ofChange posPrintsSpec)) posPrintsCard

/-- THE TIED CARD OF 'henkanlaw15.PosCodes'. -/
def posCodesCard : Claim7 := { stood := { row := posCodesRow, standIns := [], harness := (true, "a54f27a7c599c4a4d64ac3b035b7946582d41e0c7d9331af5884c9ef6d1a76f2"), looks := true }, kinds := [], alts := [], laidByText := true, laidKinds := [.data, .widerDeep, .pinned], laidTests := true, laidLooks := .later }
def PosCodesCardSaid : Prop := Claim7.holds Tryd.pinned (.plain (OpenSpec.ofChange posCodesSpec)) posCodesCard

/-- THE TIED CARD OF 'henkanlaw15.PosOneCode'. -/
def posOneCodeCard : Claim7 := { stood := { row := posOneCodeRow, standIns := [], harness := (true, "a54f27a7c599c4a4d64ac3b035b7946582d41e0c7d9331af5884c9ef6d1a76f2"), looks := true }, kinds := [], alts := [], laidByText := true, laidKinds := [.data, .widerDeep, .pinned], laidTests := true, laidLooks := .later }
def PosOneCodeCardSaid : Prop := Claim7.holds Tryd.pinned (.plain (OpenSpec.ofChange posOneCodeSpec)) posOneCodeCard

/-- THE TIED CARD OF 'henkanlaw15.PosBack'. -/
def posBackCard : Claim7 := { stood := { row := posBackRow, standIns := [], harness := (true, "a54f27a7c599c4a4d64ac3b035b7946582d41e0c7d9331af5884c9ef6d1a76f2"), looks := true }, kinds := [], alts := [], laidByText := true, laidKinds := [.data, .widerDeep, .pinned], laidTests := true, laidLooks := .later }
def PosBackCardSaid : Prop := Claim7.holds Tryd.pinned (.plain (OpenSpec.ofChange posBackSpec)) posBackCard

/-- THE TIED CARD OF 'henkanlaw15.PosOwn'. -/
def posOwnCard : Claim7 := { stood := { row := posOwnRow, standIns := [], harness := (true, "a54f27a7c599c4a4d64ac3b035b7946582d41e0c7d9331af5884c9ef6d1a76f2"), looks := true }, kinds := [], alts := [], laidByText := true, laidKinds := [.data, .widerDeep, .pinned], laidTests := true, laidLooks := .later }
def PosOwnCardSaid : Prop := Claim7.holds Tryd.pinned (.plain (OpenSpec.ofChange posOwnSpec)) posOwnCard

/-- THE SECOND FORM's CARD OF 'henkanlaw15.PosKnown'. -/
def posKnownUptoCard : Claim7 := { stood := { row := posKnownUptoRow, standIns := [], harness := (true, "a54f27a7c599c4a4d64ac3b035b7946582d41e0c7d9331af5884c9ef6d1a76f2"), looks := true }, kinds := [], alts := [], laidByText := true, laidKinds := [.data, .widerDeep, .pinned], laidTests := true, laidLooks := .later }
def PosKnownUptoCardSaid : Prop := Claim7.holds Tryd.pinned (.plain (OpenSpec.upto posKnownSpec)) posKnownUptoCard

/-- THE SECOND FORM's CARD OF 'henkanlaw15.PosParses'. -/
def posParsesUptoCard : Claim7 := { stood := { row := posParsesUptoRow, standIns := [], harness := (true, "a54f27a7c599c4a4d64ac3b035b7946582d41e0c7d9331af5884c9ef6d1a76f2"), looks := true }, kinds := [], alts := [], laidByText := true, laidKinds := [.data, .widerDeep, .pinned], laidTests := true, laidLooks := .later }
def PosParsesUptoCardSaid : Prop := Claim7.holds Tryd.pinned (.plain (OpenSpec.upto posParsesSpec)) posParsesUptoCard

/-- THE SECOND FORM's CARD OF 'henkanlaw15.PosFinds'. -/
def posFindsUptoCard : Claim7 := { stood := { row := posFindsUptoRow, standIns := [], harness := (true, "a54f27a7c599c4a4d64ac3b035b7946582d41e0c7d9331af5884c9ef6d1a76f2"), looks := true }, kinds := [], alts := [], laidByText := true, laidKinds := [.data, .widerDeep, .pinned], laidTests := true, laidLooks := .later }
def PosFindsUptoCardSaid : Prop := Claim7.holds Tryd.pinned (.plain (OpenSpec.upto posFindsSpec)) posFindsUptoCard

/-- THE SECOND FORM's CARD OF 'henkanlaw15.PosBreaks'. -/
def posBreaksUptoCard : Claim7 := { stood := { row := posBreaksUptoRow, standIns := [], harness := (true, "a54f27a7c599c4a4d64ac3b035b7946582d41e0c7d9331af5884c9ef6d1a76f2"), looks := true }, kinds := [], alts := [], laidByText := true, laidKinds := [.data, .widerDeep, .pinned], laidTests := true, laidLooks := .later }
def PosBreaksUptoCardSaid : Prop := Claim7.holds Tryd.pinned (.plain (OpenSpec.upto posBreaksSpec)) posBreaksUptoCard

/-- THE SECOND FORM's CARD OF 'henkanlaw15.PosComments'. -/
def posCommentsUptoCard : Claim7 := { stood := { row := posCommentsUptoRow, standIns := [], harness := (true, "a54f27a7c599c4a4d64ac3b035b7946582d41e0c7d9331af5884c9ef6d1a76f2"), looks := true }, kinds := [], alts := [], laidByText := true, laidKinds := [.data, .widerDeep, .pinned], laidTests := true, laidLooks := .later }
def PosCommentsUptoCardSaid : Prop := Claim7.holds Tryd.pinned (.plain (OpenSpec.upto posCommentsSpec)) posCommentsUptoCard

/-- THE SECOND FORM's CARD OF 'henkanlaw15.PosNames'. -/
def posNamesUptoCard : Claim7 := { stood := { row := posNamesUptoRow, standIns := [], harness := (true, "a54f27a7c599c4a4d64ac3b035b7946582d41e0c7d9331af5884c9ef6d1a76f2"), looks := true }, kinds := [], alts := [], laidByText := true, laidKinds := [.data, .widerDeep, .pinned], laidTests := true, laidLooks := .later }
def PosNamesUptoCardSaid : Prop := Claim7.holds Tryd.pinned (.plain (OpenSpec.upto posNamesSpec)) posNamesUptoCard

/-- THE SECOND FORM's CARD OF 'henkanlaw15.PosPrints'. -/
def posPrintsUptoCard : Claim7 := { stood := { row := posPrintsUptoRow, standIns := [], harness := (true, "a54f27a7c599c4a4d64ac3b035b7946582d41e0c7d9331af5884c9ef6d1a76f2"), looks := true }, kinds := [], alts := [], laidByText := true, laidKinds := [.data, .widerDeep, .pinned], laidTests := true, laidLooks := .later }
def PosPrintsUptoCardSaid : Prop := Claim7.holds Tryd.pinned (.plain (OpenSpec.upto posPrintsSpec)) posPrintsUptoCard

/-- THE SECOND FORM's CARD OF 'henkanlaw15.PosCodes'. -/
def posCodesUptoCard : Claim7 := { stood := { row := posCodesUptoRow, standIns := [], harness := (true, "a54f27a7c599c4a4d64ac3b035b7946582d41e0c7d9331af5884c9ef6d1a76f2"), looks := true }, kinds := [], alts := [], laidByText := true, laidKinds := [.data, .widerDeep, .pinned], laidTests := true, laidLooks := .later }
def PosCodesUptoCardSaid : Prop := Claim7.holds Tryd.pinned (.plain (OpenSpec.upto posCodesSpec)) posCodesUptoCard

/-- THE SECOND FORM's CARD OF 'henkanlaw15.PosOneCode'. -/
def posOneCodeUptoCard : Claim7 := { stood := { row := posOneCodeUptoRow, standIns := [], harness := (true, "a54f27a7c599c4a4d64ac3b035b7946582d41e0c7d9331af5884c9ef6d1a76f2"), looks := true }, kinds := [], alts := [], laidByText := true, laidKinds := [.data, .widerDeep, .pinned], laidTests := true, laidLooks := .later }
def PosOneCodeUptoCardSaid : Prop := Claim7.holds Tryd.pinned (.plain (OpenSpec.upto posOneCodeSpec)) posOneCodeUptoCard

/-- THE SECOND FORM's CARD OF 'henkanlaw15.PosBack'. -/
def posBackUptoCard : Claim7 := { stood := { row := posBackUptoRow, standIns := [], harness := (true, "a54f27a7c599c4a4d64ac3b035b7946582d41e0c7d9331af5884c9ef6d1a76f2"), looks := true }, kinds := [], alts := [], laidByText := true, laidKinds := [.data, .widerDeep, .pinned], laidTests := true, laidLooks := .later }
def PosBackUptoCardSaid : Prop := Claim7.holds Tryd.pinned (.plain (OpenSpec.upto posBackSpec)) posBackUptoCard

/-- THE SECOND FORM's CARD OF 'henkanlaw15.PosOwn'. -/
def posOwnUptoCard : Claim7 := { stood := { row := posOwnUptoRow, standIns := [], harness := (true, "a54f27a7c599c4a4d64ac3b035b7946582d41e0c7d9331af5884c9ef6d1a76f2"), looks := true }, kinds := [], alts := [], laidByText := true, laidKinds := [.data, .widerDeep, .pinned], laidTests := true, laidLooks := .later }
def PosOwnUptoCardSaid : Prop := Claim7.holds Tryd.pinned (.plain (OpenSpec.upto posOwnSpec)) posOwnUptoCard
end Rows
end Go.Proofs.YtoihfmjnonanjaaDoor
