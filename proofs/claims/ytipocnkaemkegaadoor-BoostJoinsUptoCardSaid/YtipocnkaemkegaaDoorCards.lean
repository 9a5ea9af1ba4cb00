/-
  DERIVED. GIVEN WITH THE SEED: THE CARDS: each row of YtipocnkaemkegaaDoorRows.lean that lists a variable, with what it lists TIED to the program's text (the seventh form; the later family's looks); each row that meets fmt, with fmt's text TOLD by the authors' own Lean function (tested against real Go, not proved from fmt's source: count such statements apart). THE CARD IS WHAT COUNTS. Prove the row's statement (the work); the ties are given (YtipocnkaemkegaaDoorTie.lean); close each card by the builder's one call (the guide's Derived/Test/ToyasCard.lean, 'card_holds'). Laid BY PROGRAM, IN A SANDBOX (cutbox-door.mjs). By AI agents, Wed Nov 11 2026. No macro, syntax, notation, axiom, sorry.
-/
import Derived.Test.YtipocnkaemkegaaDoorRows
import GoSem.ClaimSeven
namespace Go.Proofs.YtipocnkaemkegaaDoor
namespace Rows

/-- THE TIED CARD OF 'henkanlaw32.BoostBonus'. -/
def boostBonusCard : Claim7 := { stood := { row := boostBonusRow, standIns := [], harness := (true, "84049ee88558b4bcccc1db08ca7c02ae022dfe91a94c2fa6d01aeed3e68f7292"), looks := false }, kinds := [], alts := [], laidByText := true, laidKinds := [.data, .pinned], laidTests := true, laidLooks := .later }
def BoostBonusCardSaid : Prop := Claim7.holds Tryd.pinned (.plain (OpenSpec.ofChange boostBonusSpec)) boostBonusCard

/-- THE TIED CARD OF 'henkanlaw32.BoostLearned'. -/
def boostLearnedCard : Claim7 := { stood := { row := boostLearnedRow, standIns := [], harness := (true, "84049ee88558b4bcccc1db08ca7c02ae022dfe91a94c2fa6d01aeed3e68f7292"), looks := false }, kinds := [], alts := [], laidByText := true, laidKinds := [.data, .pinned], laidTests := true, laidLooks := .later }
def BoostLearnedCardSaid : Prop := Claim7.holds Tryd.pinned (.plain (OpenSpec.ofChange boostLearnedSpec)) boostLearnedCard

/-- THE TIED CARD OF 'henkanlaw32.BoostPairs'. -/
def boostPairsCard : Claim7 := { stood := { row := boostPairsRow, standIns := [], harness := (true, "84049ee88558b4bcccc1db08ca7c02ae022dfe91a94c2fa6d01aeed3e68f7292"), looks := false }, kinds := [], alts := [], laidByText := true, laidKinds := [.data, .pinned], laidTests := true, laidLooks := .later }
def BoostPairsCardSaid : Prop := Claim7.holds Tryd.pinned (.plain (OpenSpec.ofChange boostPairsSpec)) boostPairsCard

/-- THE TIED CARD OF 'henkanlaw32.BoostOrder'. -/
def boostOrderCard : Claim7 := { stood := { row := boostOrderRow, standIns := [], harness := (true, "84049ee88558b4bcccc1db08ca7c02ae022dfe91a94c2fa6d01aeed3e68f7292"), looks := false }, kinds := [], alts := [], laidByText := true, laidKinds := [.data, .pinned], laidTests := true, laidLooks := .later }
def BoostOrderCardSaid : Prop := Claim7.holds Tryd.pinned (.plain (OpenSpec.ofChange boostOrderSpec)) boostOrderCard

/-- THE TIED CARD OF 'henkanlaw32.BoostDoubles'. -/
def boostDoublesCard : Claim7 := { stood := { row := boostDoublesRow, standIns := [], harness := (true, "84049ee88558b4bcccc1db08ca7c02ae022dfe91a94c2fa6d01aeed3e68f7292"), looks := false }, kinds := [], alts := [], laidByText := true, laidKinds := [.data, .pinned], laidTests := true, laidLooks := .later }
def BoostDoublesCardSaid : Prop := Claim7.holds Tryd.pinned (.plain (OpenSpec.ofChange boostDoublesSpec)) boostDoublesCard

/-- THE TIED CARD OF 'henkanlaw32.BoostJoins'. -/
def boostJoinsCard : Claim7 := { stood := { row := boostJoinsRow, standIns := [], harness := (true, "84049ee88558b4bcccc1db08ca7c02ae022dfe91a94c2fa6d01aeed3e68f7292"), looks := false }, kinds := [], alts := [], laidByText := true, laidKinds := [.data, .pinned], laidTests := true, laidLooks := .later }
def BoostJoinsCardSaid : Prop := Claim7.holds Tryd.pinned (.plain (OpenSpec.ofChange boostJoinsSpec)) boostJoinsCard

/-- THE TIED CARD OF 'henkanlaw32.BoostKnown'. -/
def boostKnownCard : Claim7 := { stood := { row := boostKnownRow, standIns := [], harness := (true, "84049ee88558b4bcccc1db08ca7c02ae022dfe91a94c2fa6d01aeed3e68f7292"), looks := false }, kinds := [], alts := [], laidByText := true, laidKinds := [.data, .pinned], laidTests := true, laidLooks := .later }
def BoostKnownCardSaid : Prop := Claim7.holds Tryd.pinned (.plain (OpenSpec.ofChange boostKnownSpec)) boostKnownCard

/-- THE SECOND FORM's CARD OF 'henkanlaw32.BoostBonus'. -/
def boostBonusUptoCard : Claim7 := { stood := { row := boostBonusUptoRow, standIns := [], harness := (true, "84049ee88558b4bcccc1db08ca7c02ae022dfe91a94c2fa6d01aeed3e68f7292"), looks := false }, kinds := [], alts := [], laidByText := true, laidKinds := [.data, .pinned], laidTests := true, laidLooks := .later }
def BoostBonusUptoCardSaid : Prop := Claim7.holds Tryd.pinned (.plain (OpenSpec.upto boostBonusSpec)) boostBonusUptoCard

/-- THE SECOND FORM's CARD OF 'henkanlaw32.BoostLearned'. -/
def boostLearnedUptoCard : Claim7 := { stood := { row := boostLearnedUptoRow, standIns := [], harness := (true, "84049ee88558b4bcccc1db08ca7c02ae022dfe91a94c2fa6d01aeed3e68f7292"), looks := false }, kinds := [], alts := [], laidByText := true, laidKinds := [.data, .pinned], laidTests := true, laidLooks := .later }
def BoostLearnedUptoCardSaid : Prop := Claim7.holds Tryd.pinned (.plain (OpenSpec.upto boostLearnedSpec)) boostLearnedUptoCard

/-- THE SECOND FORM's CARD OF 'henkanlaw32.BoostPairs'. -/
def boostPairsUptoCard : Claim7 := { stood := { row := boostPairsUptoRow, standIns := [], harness := (true, "84049ee88558b4bcccc1db08ca7c02ae022dfe91a94c2fa6d01aeed3e68f7292"), looks := false }, kinds := [], alts := [], laidByText := true, laidKinds := [.data, .pinned], laidTests := true, laidLooks := .later }
def BoostPairsUptoCardSaid : Prop := Claim7.holds Tryd.pinned (.plain (OpenSpec.upto boostPairsSpec)) boostPairsUptoCard

/-- THE SECOND FORM's CARD OF 'henkanlaw32.BoostOrder'. -/
def boostOrderUptoCard : Claim7 := { stood := { row := boostOrderUptoRow, standIns := [], harness := (true, "84049ee88558b4bcccc1db08ca7c02ae022dfe91a94c2fa6d01aeed3e68f7292"), looks := false }, kinds := [], alts := [], laidByText := true, laidKinds := [.data, .pinned], laidTests := true, laidLooks := .later }
def BoostOrderUptoCardSaid : Prop := Claim7.holds Tryd.pinned (.plain (OpenSpec.upto boostOrderSpec)) boostOrderUptoCard

/-- THE SECOND FORM's CARD OF 'henkanlaw32.BoostDoubles'. -/
def boostDoublesUptoCard : Claim7 := { stood := { row := boostDoublesUptoRow, standIns := [], harness := (true, "84049ee88558b4bcccc1db08ca7c02ae022dfe91a94c2fa6d01aeed3e68f7292"), looks := false }, kinds := [], alts := [], laidByText := true, laidKinds := [.data, .pinned], laidTests := true, laidLooks := .later }
def BoostDoublesUptoCardSaid : Prop := Claim7.holds Tryd.pinned (.plain (OpenSpec.upto boostDoublesSpec)) boostDoublesUptoCard

/-- THE SECOND FORM's CARD OF 'henkanlaw32.BoostJoins'. -/
def boostJoinsUptoCard : Claim7 := { stood := { row := boostJoinsUptoRow, standIns := [], harness := (true, "84049ee88558b4bcccc1db08ca7c02ae022dfe91a94c2fa6d01aeed3e68f7292"), looks := false }, kinds := [], alts := [], laidByText := true, laidKinds := [.data, .pinned], laidTests := true, laidLooks := .later }
def BoostJoinsUptoCardSaid : Prop := Claim7.holds Tryd.pinned (.plain (OpenSpec.upto boostJoinsSpec)) boostJoinsUptoCard

/-- THE SECOND FORM's CARD OF 'henkanlaw32.BoostKnown'. -/
def boostKnownUptoCard : Claim7 := { stood := { row := boostKnownUptoRow, standIns := [], harness := (true, "84049ee88558b4bcccc1db08ca7c02ae022dfe91a94c2fa6d01aeed3e68f7292"), looks := false }, kinds := [], alts := [], laidByText := true, laidKinds := [.data, .pinned], laidTests := true, laidLooks := .later }
def BoostKnownUptoCardSaid : Prop := Claim7.holds Tryd.pinned (.plain (OpenSpec.upto boostKnownSpec)) boostKnownUptoCard
end Rows
end Go.Proofs.YtipocnkaemkegaaDoor
