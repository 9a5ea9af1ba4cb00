/-
  DERIVED. GIVEN WITH THE SEED: THE CARDS: each row of YtllfgonmkgookaaDoorRows.lean that lists a variable, with what it lists TIED to the program's text (the seventh form; the later family's looks); each row that meets fmt, with fmt's text TOLD by the authors' own Lean function (tested against real Go, not proved from fmt's source: count such statements apart). THE CARD IS WHAT COUNTS. Prove the row's statement (the work); the ties are given (YtllfgonmkgookaaDoorTie.lean); close each card by the builder's one call (the guide's Derived/Test/ToyasCard.lean, 'card_holds'). Laid BY PROGRAM, IN A SANDBOX (cutbox-door.mjs). By AI agents, Wed Nov 11 2026. No macro, syntax, notation, axiom, sorry.
-/
import Derived.Test.YtllfgonmkgookaaDoorRows
import GoSem.ClaimSeven
namespace Go.Proofs.YtllfgonmkgookaaDoor
namespace Rows

/-- THE TIED CARD OF 'henkanlaw02.KanaClasses'. -/
def kanaClassesCard : Claim7 := { stood := { row := kanaClassesRow, standIns := [], harness := (true, "796ad23759be118c6a01a57840a7fa966602a3e41db6304683ce6d89bc6564c3"), looks := false }, kinds := [], alts := [], laidByText := true, laidKinds := [.data, .pinned], laidTests := true, laidLooks := .later }
def KanaClassesCardSaid : Prop := Claim7.holds Tryd.pinned (.plain (OpenSpec.ofChange kanaClassesSpec)) kanaClassesCard

/-- THE TIED CARD OF 'henkanlaw02.KanaReads'. -/
def kanaReadsCard : Claim7 := { stood := { row := kanaReadsRow, standIns := [], harness := (true, "796ad23759be118c6a01a57840a7fa966602a3e41db6304683ce6d89bc6564c3"), looks := false }, kinds := [], alts := [], laidByText := true, laidKinds := [.data, .pinned], laidTests := true, laidLooks := .later }
def KanaReadsCardSaid : Prop := Claim7.holds Tryd.pinned (.plain (OpenSpec.ofChange kanaReadsSpec)) kanaReadsCard

/-- THE TIED CARD OF 'henkanlaw02.KanaHalves'. -/
def kanaHalvesCard : Claim7 := { stood := { row := kanaHalvesRow, standIns := [], harness := (true, "796ad23759be118c6a01a57840a7fa966602a3e41db6304683ce6d89bc6564c3"), looks := false }, kinds := [], alts := [], laidByText := true, laidKinds := [.data, .pinned], laidTests := true, laidLooks := .later }
def KanaHalvesCardSaid : Prop := Claim7.holds Tryd.pinned (.plain (OpenSpec.ofChange kanaHalvesSpec)) kanaHalvesCard

/-- THE TIED CARD OF 'henkanlaw02.KanaTurns'. -/
def kanaTurnsCard : Claim7 := { stood := { row := kanaTurnsRow, standIns := [], harness := (true, "796ad23759be118c6a01a57840a7fa966602a3e41db6304683ce6d89bc6564c3"), looks := false }, kinds := [], alts := [], laidByText := true, laidKinds := [.data, .pinned], laidTests := true, laidLooks := .later }
def KanaTurnsCardSaid : Prop := Claim7.holds Tryd.pinned (.plain (OpenSpec.ofChange kanaTurnsSpec)) kanaTurnsCard

/-- THE TIED CARD OF 'henkanlaw02.KanaBack'. -/
def kanaBackCard : Claim7 := { stood := { row := kanaBackRow, standIns := [], harness := (true, "796ad23759be118c6a01a57840a7fa966602a3e41db6304683ce6d89bc6564c3"), looks := false }, kinds := [], alts := [], laidByText := true, laidKinds := [.data, .pinned], laidTests := true, laidLooks := .later }
def KanaBackCardSaid : Prop := Claim7.holds Tryd.pinned (.plain (OpenSpec.ofChange kanaBackSpec)) kanaBackCard

/-- THE TIED CARD OF 'henkanlaw02.KanaWidens'. -/
def kanaWidensCard : Claim7 := { stood := { row := kanaWidensRow, standIns := [], harness := (true, "796ad23759be118c6a01a57840a7fa966602a3e41db6304683ce6d89bc6564c3"), looks := false }, kinds := [], alts := [], laidByText := true, laidKinds := [.data, .pinned], laidTests := true, laidLooks := .later }
def KanaWidensCardSaid : Prop := Claim7.holds Tryd.pinned (.plain (OpenSpec.ofChange kanaWidensSpec)) kanaWidensCard

/-- THE TIED CARD OF 'henkanlaw02.KanaOnce'. -/
def kanaOnceCard : Claim7 := { stood := { row := kanaOnceRow, standIns := [], harness := (true, "796ad23759be118c6a01a57840a7fa966602a3e41db6304683ce6d89bc6564c3"), looks := false }, kinds := [], alts := [], laidByText := true, laidKinds := [.data, .pinned], laidTests := true, laidLooks := .later }
def KanaOnceCardSaid : Prop := Claim7.holds Tryd.pinned (.plain (OpenSpec.ofChange kanaOnceSpec)) kanaOnceCard

/-- THE TIED CARD OF 'henkanlaw02.KanaParts'. -/
def kanaPartsCard : Claim7 := { stood := { row := kanaPartsRow, standIns := [], harness := (true, "796ad23759be118c6a01a57840a7fa966602a3e41db6304683ce6d89bc6564c3"), looks := false }, kinds := [], alts := [], laidByText := true, laidKinds := [.data, .pinned], laidTests := true, laidLooks := .later }
def KanaPartsCardSaid : Prop := Claim7.holds Tryd.pinned (.plain (OpenSpec.ofChange kanaPartsSpec)) kanaPartsCard

/-- THE TIED CARD OF 'henkanlaw02.KanaKeeps'. -/
def kanaKeepsCard : Claim7 := { stood := { row := kanaKeepsRow, standIns := [], harness := (true, "796ad23759be118c6a01a57840a7fa966602a3e41db6304683ce6d89bc6564c3"), looks := false }, kinds := [], alts := [], laidByText := true, laidKinds := [.data, .pinned], laidTests := true, laidLooks := .later }
def KanaKeepsCardSaid : Prop := Claim7.holds Tryd.pinned (.plain (OpenSpec.ofChange kanaKeepsSpec)) kanaKeepsCard

/-- THE SECOND FORM's CARD OF 'henkanlaw02.KanaClasses'. -/
def kanaClassesUptoCard : Claim7 := { stood := { row := kanaClassesUptoRow, standIns := [], harness := (true, "796ad23759be118c6a01a57840a7fa966602a3e41db6304683ce6d89bc6564c3"), looks := false }, kinds := [], alts := [], laidByText := true, laidKinds := [.data, .pinned], laidTests := true, laidLooks := .later }
def KanaClassesUptoCardSaid : Prop := Claim7.holds Tryd.pinned (.plain (OpenSpec.upto kanaClassesSpec)) kanaClassesUptoCard

/-- THE SECOND FORM's CARD OF 'henkanlaw02.KanaReads'. -/
def kanaReadsUptoCard : Claim7 := { stood := { row := kanaReadsUptoRow, standIns := [], harness := (true, "796ad23759be118c6a01a57840a7fa966602a3e41db6304683ce6d89bc6564c3"), looks := false }, kinds := [], alts := [], laidByText := true, laidKinds := [.data, .pinned], laidTests := true, laidLooks := .later }
def KanaReadsUptoCardSaid : Prop := Claim7.holds Tryd.pinned (.plain (OpenSpec.upto kanaReadsSpec)) kanaReadsUptoCard

/-- THE SECOND FORM's CARD OF 'henkanlaw02.KanaHalves'. -/
def kanaHalvesUptoCard : Claim7 := { stood := { row := kanaHalvesUptoRow, standIns := [], harness := (true, "796ad23759be118c6a01a57840a7fa966602a3e41db6304683ce6d89bc6564c3"), looks := false }, kinds := [], alts := [], laidByText := true, laidKinds := [.data, .pinned], laidTests := true, laidLooks := .later }
def KanaHalvesUptoCardSaid : Prop := Claim7.holds Tryd.pinned (.plain (OpenSpec.upto kanaHalvesSpec)) kanaHalvesUptoCard

/-- THE SECOND FORM's CARD OF 'henkanlaw02.KanaTurns'. -/
def kanaTurnsUptoCard : Claim7 := { stood := { row := kanaTurnsUptoRow, standIns := [], harness := (true, "796ad23759be118c6a01a57840a7fa966602a3e41db6304683ce6d89bc6564c3"), looks := false }, kinds := [], alts := [], laidByText := true, laidKinds := [.data, .pinned], laidTests := true, laidLooks := .later }
def KanaTurnsUptoCardSaid : Prop := Claim7.holds Tryd.pinned (.plain (OpenSpec.upto kanaTurnsSpec)) kanaTurnsUptoCard

/-- THE SECOND FORM's CARD OF 'henkanlaw02.KanaBack'. -/
def kanaBackUptoCard : Claim7 := { stood := { row := kanaBackUptoRow, standIns := [], harness := (true, "796ad23759be118c6a01a57840a7fa966602a3e41db6304683ce6d89bc6564c3"), looks := false }, kinds := [], alts := [], laidByText := true, laidKinds := [.data, .pinned], laidTests := true, laidLooks := .later }
def KanaBackUptoCardSaid : Prop := Claim7.holds Tryd.pinned (.plain (OpenSpec.upto kanaBackSpec)) kanaBackUptoCard

/-- THE SECOND FORM's CARD OF 'henkanlaw02.KanaWidens'. -/
def kanaWidensUptoCard : Claim7 := { stood := { row := kanaWidensUptoRow, standIns := [], harness := (true, "796ad23759be118c6a01a57840a7fa966602a3e41db6304683ce6d89bc6564c3"), looks := false }, kinds := [], alts := [], laidByText := true, laidKinds := [.data, .pinned], laidTests := true, laidLooks := .later }
def KanaWidensUptoCardSaid : Prop := Claim7.holds Tryd.pinned (.plain (OpenSpec.upto kanaWidensSpec)) kanaWidensUptoCard

/-- THE SECOND FORM's CARD OF 'henkanlaw02.KanaOnce'. -/
def kanaOnceUptoCard : Claim7 := { stood := { row := kanaOnceUptoRow, standIns := [], harness := (true, "796ad23759be118c6a01a57840a7fa966602a3e41db6304683ce6d89bc6564c3"), looks := false }, kinds := [], alts := [], laidByText := true, laidKinds := [.data, .pinned], laidTests := true, laidLooks := .later }
def KanaOnceUptoCardSaid : Prop := Claim7.holds Tryd.pinned (.plain (OpenSpec.upto kanaOnceSpec)) kanaOnceUptoCard

/-- THE SECOND FORM's CARD OF 'henkanlaw02.KanaParts'. -/
def kanaPartsUptoCard : Claim7 := { stood := { row := kanaPartsUptoRow, standIns := [], harness := (true, "796ad23759be118c6a01a57840a7fa966602a3e41db6304683ce6d89bc6564c3"), looks := false }, kinds := [], alts := [], laidByText := true, laidKinds := [.data, .pinned], laidTests := true, laidLooks := .later }
def KanaPartsUptoCardSaid : Prop := Claim7.holds Tryd.pinned (.plain (OpenSpec.upto kanaPartsSpec)) kanaPartsUptoCard

/-- THE SECOND FORM's CARD OF 'henkanlaw02.KanaKeeps'. -/
def kanaKeepsUptoCard : Claim7 := { stood := { row := kanaKeepsUptoRow, standIns := [], harness := (true, "796ad23759be118c6a01a57840a7fa966602a3e41db6304683ce6d89bc6564c3"), looks := false }, kinds := [], alts := [], laidByText := true, laidKinds := [.data, .pinned], laidTests := true, laidLooks := .later }
def KanaKeepsUptoCardSaid : Prop := Claim7.holds Tryd.pinned (.plain (OpenSpec.upto kanaKeepsSpec)) kanaKeepsUptoCard
end Rows
end Go.Proofs.YtllfgonmkgookaaDoor
