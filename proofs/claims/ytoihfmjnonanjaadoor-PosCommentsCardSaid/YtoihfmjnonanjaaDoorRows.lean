/-
  NARROWER THAN 'FOR EVERY INPUT', by the rows' own cells (each row's printed sentence says how): PosKnown: laid · PosParses: laid · PosFinds: laid · PosBreaks: laid · PosComments: laid · PosNames: laid · PosPrints: laid · PosCodes: laid · PosOneCode: laid · PosBack: laid · PosOwn: laid.
  DERIVED. THE GIVEN ROWS OF THIS SEAT. 11 by the template 'for every input the law returns true; each argument reads behind the call as it read before'; 0 by the template 'total and deterministic' (their statements: YtoihfmjnonanjaaDoorTotals.lean).
  GIVEN WITH THE SEED: the statements are not yours to turn. If you find one false, say at which input.
  Laid BY PROGRAM, IN A SANDBOX (cutbox-rows.mjs): the forced cells as the released guide's own fill.sh prints them over the translation f3aeb708e911201d… (all of the seat's roots in one cut). By AI agents, Wed Nov 11 2026. No macro, syntax, notation, axiom, sorry.
-/
import Derived.Test.YtoihfmjnonanjaaDoorChecked
import GoSem.PinnedTables
import GoSem.Claim
import GoSem.ClaimJoined
import GoSem.ClaimMapViews
import Derived.JoinedTies
import Derived.KernelRfl
namespace Go.Proofs.YtoihfmjnonanjaaDoor
/- THE CELL 'sum', in the pinned program and in every row, IS THE sha256 OF THE DUMP (.gsa) THAT YtoihfmjnonanjaaDoorProg.lean LOADS. Nothing in Lean hashes anything: it is a label: what it is worth is what the hold of that sum in a sandbox is worth. -/
noncomputable def Tryd.pinned : Pinned := { name := "ytoihfmjnonanjaadoor", sum := "f3aeb708e911201da741feffec33bd306451acc7c9319a20c962d556fdc126e6", checked := Tryd.checked }
namespace Rows
def none {H : Type} : Left H := { results := [], args := [] }

/- WHAT THE LISTED PACKAGE-LEVEL VARIABLES READ AS WHEN THE CALL BEGINS. Each datum BY PROGRAM (the guide's laid-datum.mjs) off the statement by which the dump's own 'gosem.cut.vars' lays the variable. In a bare row this is a premise. The card (YtoihfmjnonanjaaDoorCards.lean) ties it to the program's text. -/
def laid_unicode_utf8_acceptRanges {H : Type} : DataW H := .agg [.agg [.lit (.int .u8 128), .lit (.int .u8 191)], .agg [.lit (.int .u8 160), .lit (.int .u8 191)], .agg [.lit (.int .u8 128), .lit (.int .u8 159)], .agg [.lit (.int .u8 144), .lit (.int .u8 191)], .agg [.lit (.int .u8 128), .lit (.int .u8 143)], .agg [.lit (.int .u8 0), .lit (.int .u8 0)], .agg [.lit (.int .u8 0), .lit (.int .u8 0)], .agg [.lit (.int .u8 0), .lit (.int .u8 0)], .agg [.lit (.int .u8 0), .lit (.int .u8 0)], .agg [.lit (.int .u8 0), .lit (.int .u8 0)], .agg [.lit (.int .u8 0), .lit (.int .u8 0)], .agg [.lit (.int .u8 0), .lit (.int .u8 0)], .agg [.lit (.int .u8 0), .lit (.int .u8 0)], .agg [.lit (.int .u8 0), .lit (.int .u8 0)], .agg [.lit (.int .u8 0), .lit (.int .u8 0)], .agg [.lit (.int .u8 0), .lit (.int .u8 0)]]
def laid_henkan_pos_kinds {H : Type} : DataW H := .agg [.lit (.string [99, 111, 110, 116, 101, 110, 116]), .lit (.string [102, 117, 110, 99, 116, 105, 111, 110]), .lit (.string [112, 114, 101, 102, 105, 120])]
/-- One of Go's own tables, pinned by name: the form's constant. -/
def laid_unicode_utf8_first : DataW Unit := Go.Pinned.utf8First

/-- 'henkanlaw15.PosKnown': WHATEVER THE INPUT: true; the input reads as it did. -/
def posKnownSpec : ChangeSpec := { name := "posKnown", fn := fun _ => fun
  | [] => { results := [.lit (.bool true)], args := [] }
  | _ => none }
def posKnownRow : OpenClaim := { program := "ytoihfmjnonanjaadoor", sum := "f3aeb708e911201da741feffec33bd306451acc7c9319a20c962d556fdc126e6", func := "henkan/henkanlaw15.PosKnown", spec := "posKnown", inPlace := ["internal/bytealg.CountString", "internal/bytealg.IndexByteString", "internal/bytealg.IndexString", "internal/abi.NoEscape"], unfollowed := true, recurses := true, named := ["henkan/pos.kinds", "unicode/utf8.first", "unicode/utf8.acceptRanges", "internal/bytealg.MaxLen"], apart := false, laid := [("unicode/utf8.acceptRanges", laid_unicode_utf8_acceptRanges), ("henkan/pos.kinds", laid_henkan_pos_kinds), ("unicode/utf8.first", laid_unicode_utf8_first)] }
def PosKnownSaid : Prop := posKnownRow.holds Tryd.pinned (OpenSpec.ofChange posKnownSpec)

/-- ITS FALSE NEIGHBOUR: 'it returns false'. Refute it at one input. -/
def posKnownWrong : ChangeSpec := { name := "posKnown", fn := fun _ => fun
  | [] => { results := [.lit (.bool false)], args := [] }
  | _ => none }
def PosKnownWrongFalsely : Prop := posKnownRow.holds Tryd.pinned (OpenSpec.ofChange posKnownWrong)

/-- 'henkanlaw15.PosParses': WHATEVER THE INPUT: true; the input reads as it did. -/
def posParsesSpec : ChangeSpec := { name := "posParses", fn := fun _ => fun
  | [d] => { results := [.lit (.bool true)], args := [d] }
  | _ => none }
def posParsesRow : OpenClaim := { program := "ytoihfmjnonanjaadoor", sum := "f3aeb708e911201da741feffec33bd306451acc7c9319a20c962d556fdc126e6", func := "henkan/henkanlaw15.PosParses", spec := "posParses", inPlace := ["internal/bytealg.CountString", "internal/bytealg.IndexByteString", "internal/bytealg.IndexString"], unfollowed := true, recurses := true, named := ["henkan/pos.kinds", "unicode/utf8.first", "unicode/utf8.acceptRanges", "internal/bytealg.MaxLen"], apart := false, laid := [("unicode/utf8.acceptRanges", laid_unicode_utf8_acceptRanges), ("henkan/pos.kinds", laid_henkan_pos_kinds), ("unicode/utf8.first", laid_unicode_utf8_first)] }
def PosParsesSaid : Prop := posParsesRow.holds Tryd.pinned (OpenSpec.ofChange posParsesSpec)

/-- ITS FALSE NEIGHBOUR: 'it returns false'. Refute it at one input. -/
def posParsesWrong : ChangeSpec := { name := "posParses", fn := fun _ => fun
  | [d] => { results := [.lit (.bool false)], args := [d] }
  | _ => none }
def PosParsesWrongFalsely : Prop := posParsesRow.holds Tryd.pinned (OpenSpec.ofChange posParsesWrong)

/-- 'henkanlaw15.PosFinds': WHATEVER THE INPUT: true; the input reads as it did. -/
def posFindsSpec : ChangeSpec := { name := "posFinds", fn := fun _ => fun
  | [d1, d2] => { results := [.lit (.bool true)], args := [d1, d2] }
  | _ => none }
def posFindsRow : OpenClaim := { program := "ytoihfmjnonanjaadoor", sum := "f3aeb708e911201da741feffec33bd306451acc7c9319a20c962d556fdc126e6", func := "henkan/henkanlaw15.PosFinds", spec := "posFinds", inPlace := ["internal/bytealg.CountString", "internal/bytealg.IndexByteString", "internal/bytealg.IndexString"], unfollowed := true, recurses := true, named := ["henkan/pos.kinds", "unicode/utf8.first", "unicode/utf8.acceptRanges", "internal/bytealg.MaxLen"], apart := false, laid := [("unicode/utf8.acceptRanges", laid_unicode_utf8_acceptRanges), ("henkan/pos.kinds", laid_henkan_pos_kinds), ("unicode/utf8.first", laid_unicode_utf8_first)] }
def PosFindsSaid : Prop := posFindsRow.holds Tryd.pinned (OpenSpec.ofChange posFindsSpec)

/-- ITS FALSE NEIGHBOUR: 'it returns false'. Refute it at one input. -/
def posFindsWrong : ChangeSpec := { name := "posFinds", fn := fun _ => fun
  | [d1, d2] => { results := [.lit (.bool false)], args := [d1, d2] }
  | _ => none }
def PosFindsWrongFalsely : Prop := posFindsRow.holds Tryd.pinned (OpenSpec.ofChange posFindsWrong)

/-- 'henkanlaw15.PosBreaks': WHATEVER THE INPUT: true; the input reads as it did. -/
def posBreaksSpec : ChangeSpec := { name := "posBreaks", fn := fun _ => fun
  | [d1, d2] => { results := [.lit (.bool true)], args := [d1, d2] }
  | _ => none }
def posBreaksRow : OpenClaim := { program := "ytoihfmjnonanjaadoor", sum := "f3aeb708e911201da741feffec33bd306451acc7c9319a20c962d556fdc126e6", func := "henkan/henkanlaw15.PosBreaks", spec := "posBreaks", inPlace := ["internal/bytealg.CountString", "internal/bytealg.IndexByteString", "internal/bytealg.IndexString"], unfollowed := true, recurses := true, named := ["henkan/pos.kinds", "unicode/utf8.first", "unicode/utf8.acceptRanges", "internal/bytealg.MaxLen"], apart := false, laid := [("unicode/utf8.acceptRanges", laid_unicode_utf8_acceptRanges), ("henkan/pos.kinds", laid_henkan_pos_kinds), ("unicode/utf8.first", laid_unicode_utf8_first)] }
def PosBreaksSaid : Prop := posBreaksRow.holds Tryd.pinned (OpenSpec.ofChange posBreaksSpec)

/-- ITS FALSE NEIGHBOUR: 'it returns false'. Refute it at one input. -/
def posBreaksWrong : ChangeSpec := { name := "posBreaks", fn := fun _ => fun
  | [d1, d2] => { results := [.lit (.bool false)], args := [d1, d2] }
  | _ => none }
def PosBreaksWrongFalsely : Prop := posBreaksRow.holds Tryd.pinned (OpenSpec.ofChange posBreaksWrong)

/-- 'henkanlaw15.PosComments': WHATEVER THE INPUT: true; the input reads as it did. -/
def posCommentsSpec : ChangeSpec := { name := "posComments", fn := fun _ => fun
  | [d1, d2, d3] => { results := [.lit (.bool true)], args := [d1, d2, d3] }
  | _ => none }
def posCommentsRow : OpenClaim := { program := "ytoihfmjnonanjaadoor", sum := "f3aeb708e911201da741feffec33bd306451acc7c9319a20c962d556fdc126e6", func := "henkan/henkanlaw15.PosComments", spec := "posComments", inPlace := ["internal/bytealg.CountString", "internal/bytealg.IndexByteString", "internal/bytealg.IndexString"], unfollowed := true, recurses := true, named := ["henkan/pos.kinds", "unicode/utf8.first", "unicode/utf8.acceptRanges", "internal/bytealg.MaxLen"], apart := false, laid := [("unicode/utf8.acceptRanges", laid_unicode_utf8_acceptRanges), ("henkan/pos.kinds", laid_henkan_pos_kinds), ("unicode/utf8.first", laid_unicode_utf8_first)] }
def PosCommentsSaid : Prop := posCommentsRow.holds Tryd.pinned (OpenSpec.ofChange posCommentsSpec)

/-- ITS FALSE NEIGHBOUR: 'it returns false'. Refute it at one input. -/
def posCommentsWrong : ChangeSpec := { name := "posComments", fn := fun _ => fun
  | [d1, d2, d3] => { results := [.lit (.bool false)], args := [d1, d2, d3] }
  | _ => none }
def PosCommentsWrongFalsely : Prop := posCommentsRow.holds Tryd.pinned (OpenSpec.ofChange posCommentsWrong)

/-- 'henkanlaw15.PosNames': WHATEVER THE INPUT: true; the input reads as it did. -/
def posNamesSpec : ChangeSpec := { name := "posNames", fn := fun _ => fun
  | [d] => { results := [.lit (.bool true)], args := [d] }
  | _ => none }
def posNamesRow : OpenClaim := { program := "ytoihfmjnonanjaadoor", sum := "f3aeb708e911201da741feffec33bd306451acc7c9319a20c962d556fdc126e6", func := "henkan/henkanlaw15.PosNames", spec := "posNames", inPlace := ["internal/bytealg.CountString", "internal/bytealg.IndexByteString", "internal/bytealg.IndexString"], unfollowed := true, recurses := true, named := ["henkan/pos.kinds", "unicode/utf8.first", "unicode/utf8.acceptRanges", "internal/bytealg.MaxLen"], apart := false, laid := [("unicode/utf8.acceptRanges", laid_unicode_utf8_acceptRanges), ("henkan/pos.kinds", laid_henkan_pos_kinds), ("unicode/utf8.first", laid_unicode_utf8_first)] }
def PosNamesSaid : Prop := posNamesRow.holds Tryd.pinned (OpenSpec.ofChange posNamesSpec)

/-- ITS FALSE NEIGHBOUR: 'it returns false'. Refute it at one input. -/
def posNamesWrong : ChangeSpec := { name := "posNames", fn := fun _ => fun
  | [d] => { results := [.lit (.bool false)], args := [d] }
  | _ => none }
def PosNamesWrongFalsely : Prop := posNamesRow.holds Tryd.pinned (OpenSpec.ofChange posNamesWrong)

/-- 'henkanlaw15.PosPrints': WHATEVER THE INPUT: true; the input reads as it did. -/
def posPrintsSpec : ChangeSpec := { name := "posPrints", fn := fun _ => fun
  | [d] => { results := [.lit (.bool true)], args := [d] }
  | _ => none }
def posPrintsRow : OpenClaim := { program := "ytoihfmjnonanjaadoor", sum := "f3aeb708e911201da741feffec33bd306451acc7c9319a20c962d556fdc126e6", func := "henkan/henkanlaw15.PosPrints", spec := "posPrints", inPlace := ["internal/abi.NoEscape", "internal/bytealg.CountString", "internal/bytealg.IndexByteString", "internal/bytealg.IndexString"], unfollowed := true, recurses := true, named := ["henkan/pos.kinds", "unicode/utf8.first", "unicode/utf8.acceptRanges", "internal/bytealg.MaxLen"], apart := false, laid := [("unicode/utf8.acceptRanges", laid_unicode_utf8_acceptRanges), ("henkan/pos.kinds", laid_henkan_pos_kinds), ("unicode/utf8.first", laid_unicode_utf8_first)] }
def PosPrintsSaid : Prop := posPrintsRow.holds Tryd.pinned (OpenSpec.ofChange posPrintsSpec)

/-- ITS FALSE NEIGHBOUR: 'it returns false'. Refute it at one input. -/
def posPrintsWrong : ChangeSpec := { name := "posPrints", fn := fun _ => fun
  | [d] => { results := [.lit (.bool false)], args := [d] }
  | _ => none }
def PosPrintsWrongFalsely : Prop := posPrintsRow.holds Tryd.pinned (OpenSpec.ofChange posPrintsWrong)

/-- 'henkanlaw15.PosCodes': WHATEVER THE INPUT: true; the input reads as it did. -/
def posCodesSpec : ChangeSpec := { name := "posCodes", fn := fun _ => fun
  | [d1, d2] => { results := [.lit (.bool true)], args := [d1, d2] }
  | _ => none }
def posCodesRow : OpenClaim := { program := "ytoihfmjnonanjaadoor", sum := "f3aeb708e911201da741feffec33bd306451acc7c9319a20c962d556fdc126e6", func := "henkan/henkanlaw15.PosCodes", spec := "posCodes", inPlace := ["internal/bytealg.CountString", "internal/bytealg.IndexByteString", "internal/bytealg.IndexString"], unfollowed := true, recurses := true, named := ["henkan/pos.kinds", "unicode/utf8.first", "unicode/utf8.acceptRanges", "internal/bytealg.MaxLen"], apart := false, laid := [("unicode/utf8.acceptRanges", laid_unicode_utf8_acceptRanges), ("henkan/pos.kinds", laid_henkan_pos_kinds), ("unicode/utf8.first", laid_unicode_utf8_first)] }
def PosCodesSaid : Prop := posCodesRow.holds Tryd.pinned (OpenSpec.ofChange posCodesSpec)

/-- ITS FALSE NEIGHBOUR: 'it returns false'. Refute it at one input. -/
def posCodesWrong : ChangeSpec := { name := "posCodes", fn := fun _ => fun
  | [d1, d2] => { results := [.lit (.bool false)], args := [d1, d2] }
  | _ => none }
def PosCodesWrongFalsely : Prop := posCodesRow.holds Tryd.pinned (OpenSpec.ofChange posCodesWrong)

/-- 'henkanlaw15.PosOneCode': WHATEVER THE INPUT: true; the input reads as it did. -/
def posOneCodeSpec : ChangeSpec := { name := "posOneCode", fn := fun _ => fun
  | [d] => { results := [.lit (.bool true)], args := [d] }
  | _ => none }
def posOneCodeRow : OpenClaim := { program := "ytoihfmjnonanjaadoor", sum := "f3aeb708e911201da741feffec33bd306451acc7c9319a20c962d556fdc126e6", func := "henkan/henkanlaw15.PosOneCode", spec := "posOneCode", inPlace := ["internal/bytealg.CountString", "internal/bytealg.IndexByteString", "internal/bytealg.IndexString"], unfollowed := true, recurses := true, named := ["henkan/pos.kinds", "unicode/utf8.first", "unicode/utf8.acceptRanges", "internal/bytealg.MaxLen"], apart := false, laid := [("unicode/utf8.acceptRanges", laid_unicode_utf8_acceptRanges), ("henkan/pos.kinds", laid_henkan_pos_kinds), ("unicode/utf8.first", laid_unicode_utf8_first)] }
def PosOneCodeSaid : Prop := posOneCodeRow.holds Tryd.pinned (OpenSpec.ofChange posOneCodeSpec)

/-- ITS FALSE NEIGHBOUR: 'it returns false'. Refute it at one input. -/
def posOneCodeWrong : ChangeSpec := { name := "posOneCode", fn := fun _ => fun
  | [d] => { results := [.lit (.bool false)], args := [d] }
  | _ => none }
def PosOneCodeWrongFalsely : Prop := posOneCodeRow.holds Tryd.pinned (OpenSpec.ofChange posOneCodeWrong)

/-- 'henkanlaw15.PosBack': WHATEVER THE INPUT: true; the input reads as it did. -/
def posBackSpec : ChangeSpec := { name := "posBack", fn := fun _ => fun
  | [d] => { results := [.lit (.bool true)], args := [d] }
  | _ => none }
def posBackRow : OpenClaim := { program := "ytoihfmjnonanjaadoor", sum := "f3aeb708e911201da741feffec33bd306451acc7c9319a20c962d556fdc126e6", func := "henkan/henkanlaw15.PosBack", spec := "posBack", inPlace := ["internal/abi.NoEscape", "internal/bytealg.CountString", "internal/bytealg.IndexByteString", "internal/bytealg.IndexString"], unfollowed := true, recurses := true, named := ["henkan/pos.kinds", "unicode/utf8.first", "unicode/utf8.acceptRanges", "internal/bytealg.MaxLen"], apart := false, laid := [("unicode/utf8.acceptRanges", laid_unicode_utf8_acceptRanges), ("henkan/pos.kinds", laid_henkan_pos_kinds), ("unicode/utf8.first", laid_unicode_utf8_first)] }
def PosBackSaid : Prop := posBackRow.holds Tryd.pinned (OpenSpec.ofChange posBackSpec)

/-- ITS FALSE NEIGHBOUR: 'it returns false'. Refute it at one input. -/
def posBackWrong : ChangeSpec := { name := "posBack", fn := fun _ => fun
  | [d] => { results := [.lit (.bool false)], args := [d] }
  | _ => none }
def PosBackWrongFalsely : Prop := posBackRow.holds Tryd.pinned (OpenSpec.ofChange posBackWrong)

/-- 'henkanlaw15.PosOwn': WHATEVER THE INPUT: true; the input reads as it did. -/
def posOwnSpec : ChangeSpec := { name := "posOwn", fn := fun _ => fun
  | [d] => { results := [.lit (.bool true)], args := [d] }
  | _ => none }
def posOwnRow : OpenClaim := { program := "ytoihfmjnonanjaadoor", sum := "f3aeb708e911201da741feffec33bd306451acc7c9319a20c962d556fdc126e6", func := "henkan/henkanlaw15.PosOwn", spec := "posOwn", inPlace := ["internal/abi.NoEscape", "internal/bytealg.CountString", "internal/bytealg.IndexByteString", "internal/bytealg.IndexString"], unfollowed := true, recurses := true, named := ["henkan/pos.kinds", "unicode/utf8.first", "unicode/utf8.acceptRanges", "internal/bytealg.MaxLen"], apart := false, laid := [("unicode/utf8.acceptRanges", laid_unicode_utf8_acceptRanges), ("henkan/pos.kinds", laid_henkan_pos_kinds), ("unicode/utf8.first", laid_unicode_utf8_first)] }
def PosOwnSaid : Prop := posOwnRow.holds Tryd.pinned (OpenSpec.ofChange posOwnSpec)

/-- ITS FALSE NEIGHBOUR: 'it returns false'. Refute it at one input. -/
def posOwnWrong : ChangeSpec := { name := "posOwn", fn := fun _ => fun
  | [d] => { results := [.lit (.bool false)], args := [d] }
  | _ => none }
def PosOwnWrongFalsely : Prop := posOwnRow.holds Tryd.pinned (OpenSpec.ofChange posOwnWrong)

/- THE SECOND FORM. 'bulk': how many values and letters a reading holds, each counted each time it is reached (what is shared counts as often as it is met; a slice's spare places count too). A statement '..UptoSaid' is the law's where the arguments, and the package variables that the reading takes, are together of bulk at most 1048576: NARROWER than '..Said'. Prove '..Said' where nothing that the law and all that it calls make is longer than what came in: it says more and counts as full. Else prove '..UptoSaid'. A law counts once. -/
mutual
def uptoBulk {H : Type} : DataW H → Nat
  | .lit (.string bytes) => bytes.length + 1
  | .lit _ => 1
  | .nil => 1
  | .ptr d => uptoBulk d + 1
  | .slice elems spare => uptoBulkAll elems + uptoBulkAll spare + 1
  | .agg parts => uptoBulkAll parts + 1
  | .iface _ d => uptoBulk d + 1
  | .map entries => uptoBulkEntries entries + 1
  | .held _ => 1
def uptoBulkAll {H : Type} : List (DataW H) → Nat
  | [] => 0
  | d :: r => uptoBulk d + uptoBulkAll r
def uptoBulkEntries {H : Type} : List (Lit × DataW H) → Nat
  | [] => 0
  | x :: r => uptoBulkEntry x + uptoBulkEntries r
def uptoBulkEntry {H : Type} : Lit × DataW H → Nat
  | (.string bytes, d) => bytes.length + uptoBulk d + 1
  | (_, d) => uptoBulk d + 1
 end
def uptoSmall : (H : Type) → List (DataW H) → Bool := fun _ ds => decide (uptoBulkAll ds ≤ 1048576)
def OpenSpec.upto (s : _root_.Go.ChangeSpec) : _root_.Go.OpenSpec := { _root_.Go.OpenSpec.ofChange s with cond := some uptoSmall }

/-- 'henkanlaw15.PosKnown', WHERE WHAT IT READS IS OF BULK AT MOST 1048576: true; the input reads as it did. -/
def posKnownUptoRow : OpenClaim := { program := "ytoihfmjnonanjaadoor", sum := "f3aeb708e911201da741feffec33bd306451acc7c9319a20c962d556fdc126e6", func := "henkan/henkanlaw15.PosKnown", spec := "posKnown", inPlace := ["internal/bytealg.CountString", "internal/bytealg.IndexByteString", "internal/bytealg.IndexString", "internal/abi.NoEscape"], unfollowed := true, recurses := true, named := ["henkan/pos.kinds", "unicode/utf8.first", "unicode/utf8.acceptRanges", "internal/bytealg.MaxLen"], apart := false, laid := [("unicode/utf8.acceptRanges", laid_unicode_utf8_acceptRanges), ("henkan/pos.kinds", laid_henkan_pos_kinds), ("unicode/utf8.first", laid_unicode_utf8_first)], narrowed := true }
def PosKnownUptoSaid : Prop := posKnownUptoRow.holds Tryd.pinned (OpenSpec.upto posKnownSpec)

/-- 'henkanlaw15.PosParses', WHERE WHAT IT READS IS OF BULK AT MOST 1048576: true; the input reads as it did. -/
def posParsesUptoRow : OpenClaim := { program := "ytoihfmjnonanjaadoor", sum := "f3aeb708e911201da741feffec33bd306451acc7c9319a20c962d556fdc126e6", func := "henkan/henkanlaw15.PosParses", spec := "posParses", inPlace := ["internal/bytealg.CountString", "internal/bytealg.IndexByteString", "internal/bytealg.IndexString"], unfollowed := true, recurses := true, named := ["henkan/pos.kinds", "unicode/utf8.first", "unicode/utf8.acceptRanges", "internal/bytealg.MaxLen"], apart := false, laid := [("unicode/utf8.acceptRanges", laid_unicode_utf8_acceptRanges), ("henkan/pos.kinds", laid_henkan_pos_kinds), ("unicode/utf8.first", laid_unicode_utf8_first)], narrowed := true }
def PosParsesUptoSaid : Prop := posParsesUptoRow.holds Tryd.pinned (OpenSpec.upto posParsesSpec)

/-- 'henkanlaw15.PosFinds', WHERE WHAT IT READS IS OF BULK AT MOST 1048576: true; the input reads as it did. -/
def posFindsUptoRow : OpenClaim := { program := "ytoihfmjnonanjaadoor", sum := "f3aeb708e911201da741feffec33bd306451acc7c9319a20c962d556fdc126e6", func := "henkan/henkanlaw15.PosFinds", spec := "posFinds", inPlace := ["internal/bytealg.CountString", "internal/bytealg.IndexByteString", "internal/bytealg.IndexString"], unfollowed := true, recurses := true, named := ["henkan/pos.kinds", "unicode/utf8.first", "unicode/utf8.acceptRanges", "internal/bytealg.MaxLen"], apart := false, laid := [("unicode/utf8.acceptRanges", laid_unicode_utf8_acceptRanges), ("henkan/pos.kinds", laid_henkan_pos_kinds), ("unicode/utf8.first", laid_unicode_utf8_first)], narrowed := true }
def PosFindsUptoSaid : Prop := posFindsUptoRow.holds Tryd.pinned (OpenSpec.upto posFindsSpec)

/-- 'henkanlaw15.PosBreaks', WHERE WHAT IT READS IS OF BULK AT MOST 1048576: true; the input reads as it did. -/
def posBreaksUptoRow : OpenClaim := { program := "ytoihfmjnonanjaadoor", sum := "f3aeb708e911201da741feffec33bd306451acc7c9319a20c962d556fdc126e6", func := "henkan/henkanlaw15.PosBreaks", spec := "posBreaks", inPlace := ["internal/bytealg.CountString", "internal/bytealg.IndexByteString", "internal/bytealg.IndexString"], unfollowed := true, recurses := true, named := ["henkan/pos.kinds", "unicode/utf8.first", "unicode/utf8.acceptRanges", "internal/bytealg.MaxLen"], apart := false, laid := [("unicode/utf8.acceptRanges", laid_unicode_utf8_acceptRanges), ("henkan/pos.kinds", laid_henkan_pos_kinds), ("unicode/utf8.first", laid_unicode_utf8_first)], narrowed := true }
def PosBreaksUptoSaid : Prop := posBreaksUptoRow.holds Tryd.pinned (OpenSpec.upto posBreaksSpec)

/-- 'henkanlaw15.PosComments', WHERE WHAT IT READS IS OF BULK AT MOST 1048576: true; the input reads as it did. -/
def posCommentsUptoRow : OpenClaim := { program := "ytoihfmjnonanjaadoor", sum := "f3aeb708e911201da741feffec33bd306451acc7c9319a20c962d556fdc126e6", func := "henkan/henkanlaw15.PosComments", spec := "posComments", inPlace := ["internal/bytealg.CountString", "internal/bytealg.IndexByteString", "internal/bytealg.IndexString"], unfollowed := true, recurses := true, named := ["henkan/pos.kinds", "unicode/utf8.first", "unicode/utf8.acceptRanges", "internal/bytealg.MaxLen"], apart := false, laid := [("unicode/utf8.acceptRanges", laid_unicode_utf8_acceptRanges), ("henkan/pos.kinds", laid_henkan_pos_kinds), ("unicode/utf8.first", laid_unicode_utf8_first)], narrowed := true }
def PosCommentsUptoSaid : Prop := posCommentsUptoRow.holds Tryd.pinned (OpenSpec.upto posCommentsSpec)

/-- 'henkanlaw15.PosNames', WHERE WHAT IT READS IS OF BULK AT MOST 1048576: true; the input reads as it did. -/
def posNamesUptoRow : OpenClaim := { program := "ytoihfmjnonanjaadoor", sum := "f3aeb708e911201da741feffec33bd306451acc7c9319a20c962d556fdc126e6", func := "henkan/henkanlaw15.PosNames", spec := "posNames", inPlace := ["internal/bytealg.CountString", "internal/bytealg.IndexByteString", "internal/bytealg.IndexString"], unfollowed := true, recurses := true, named := ["henkan/pos.kinds", "unicode/utf8.first", "unicode/utf8.acceptRanges", "internal/bytealg.MaxLen"], apart := false, laid := [("unicode/utf8.acceptRanges", laid_unicode_utf8_acceptRanges), ("henkan/pos.kinds", laid_henkan_pos_kinds), ("unicode/utf8.first", laid_unicode_utf8_first)], narrowed := true }
def PosNamesUptoSaid : Prop := posNamesUptoRow.holds Tryd.pinned (OpenSpec.upto posNamesSpec)

/-- 'henkanlaw15.PosPrints', WHERE WHAT IT READS IS OF BULK AT MOST 1048576: true; the input reads as it did. -/
def posPrintsUptoRow : OpenClaim := { program := "ytoihfmjnonanjaadoor", sum := "f3aeb708e911201da741feffec33bd306451acc7c9319a20c962d556fdc126e6", func := "henkan/henkanlaw15.PosPrints", spec := "posPrints", inPlace := ["internal/abi.NoEscape", "internal/bytealg.CountString", "internal/bytealg.IndexByteString", "internal/bytealg.IndexString"], unfollowed := true, recurses := true, named := ["henkan/pos.kinds", "unicode/utf8.first", "unicode/utf8.acceptRanges", "internal/bytealg.MaxLen"], apart := false, laid := [("unicode/utf8.acceptRanges", laid_unicode_utf8_acceptRanges), ("henkan/pos.kinds", laid_henkan_pos_kinds), ("unicode/utf8.first", laid_unicode_utf8_first)], narrowed := true }
def PosPrintsUptoSaid : Prop := posPrintsUptoRow.holds Tryd.pinned (OpenSpec.upto posPrintsSpec)

/-- 'henkanlaw15.PosCodes', WHERE WHAT IT READS IS OF BULK AT MOST 1048576: true; the input reads as it did. -/
def posCodesUptoRow : OpenClaim := { program := "ytoihfmjnonanjaadoor", sum := "f3aeb708e911201da741feffec33bd306451acc7c9319a20c962d556fdc126e6", func := "henkan/henkanlaw15.PosCodes", spec := "posCodes", inPlace := ["internal/bytealg.CountString", "internal/bytealg.IndexByteString", "internal/bytealg.IndexString"], unfollowed := true, recurses := true, named := ["henkan/pos.kinds", "unicode/utf8.first", "unicode/utf8.acceptRanges", "internal/bytealg.MaxLen"], apart := false, laid := [("unicode/utf8.acceptRanges", laid_unicode_utf8_acceptRanges), ("henkan/pos.kinds", laid_henkan_pos_kinds), ("unicode/utf8.first", laid_unicode_utf8_first)], narrowed := true }
def PosCodesUptoSaid : Prop := posCodesUptoRow.holds Tryd.pinned (OpenSpec.upto posCodesSpec)

/-- 'henkanlaw15.PosOneCode', WHERE WHAT IT READS IS OF BULK AT MOST 1048576: true; the input reads as it did. -/
def posOneCodeUptoRow : OpenClaim := { program := "ytoihfmjnonanjaadoor", sum := "f3aeb708e911201da741feffec33bd306451acc7c9319a20c962d556fdc126e6", func := "henkan/henkanlaw15.PosOneCode", spec := "posOneCode", inPlace := ["internal/bytealg.CountString", "internal/bytealg.IndexByteString", "internal/bytealg.IndexString"], unfollowed := true, recurses := true, named := ["henkan/pos.kinds", "unicode/utf8.first", "unicode/utf8.acceptRanges", "internal/bytealg.MaxLen"], apart := false, laid := [("unicode/utf8.acceptRanges", laid_unicode_utf8_acceptRanges), ("henkan/pos.kinds", laid_henkan_pos_kinds), ("unicode/utf8.first", laid_unicode_utf8_first)], narrowed := true }
def PosOneCodeUptoSaid : Prop := posOneCodeUptoRow.holds Tryd.pinned (OpenSpec.upto posOneCodeSpec)

/-- 'henkanlaw15.PosBack', WHERE WHAT IT READS IS OF BULK AT MOST 1048576: true; the input reads as it did. -/
def posBackUptoRow : OpenClaim := { program := "ytoihfmjnonanjaadoor", sum := "f3aeb708e911201da741feffec33bd306451acc7c9319a20c962d556fdc126e6", func := "henkan/henkanlaw15.PosBack", spec := "posBack", inPlace := ["internal/abi.NoEscape", "internal/bytealg.CountString", "internal/bytealg.IndexByteString", "internal/bytealg.IndexString"], unfollowed := true, recurses := true, named := ["henkan/pos.kinds", "unicode/utf8.first", "unicode/utf8.acceptRanges", "internal/bytealg.MaxLen"], apart := false, laid := [("unicode/utf8.acceptRanges", laid_unicode_utf8_acceptRanges), ("henkan/pos.kinds", laid_henkan_pos_kinds), ("unicode/utf8.first", laid_unicode_utf8_first)], narrowed := true }
def PosBackUptoSaid : Prop := posBackUptoRow.holds Tryd.pinned (OpenSpec.upto posBackSpec)

/-- 'henkanlaw15.PosOwn', WHERE WHAT IT READS IS OF BULK AT MOST 1048576: true; the input reads as it did. -/
def posOwnUptoRow : OpenClaim := { program := "ytoihfmjnonanjaadoor", sum := "f3aeb708e911201da741feffec33bd306451acc7c9319a20c962d556fdc126e6", func := "henkan/henkanlaw15.PosOwn", spec := "posOwn", inPlace := ["internal/abi.NoEscape", "internal/bytealg.CountString", "internal/bytealg.IndexByteString", "internal/bytealg.IndexString"], unfollowed := true, recurses := true, named := ["henkan/pos.kinds", "unicode/utf8.first", "unicode/utf8.acceptRanges", "internal/bytealg.MaxLen"], apart := false, laid := [("unicode/utf8.acceptRanges", laid_unicode_utf8_acceptRanges), ("henkan/pos.kinds", laid_henkan_pos_kinds), ("unicode/utf8.first", laid_unicode_utf8_first)], narrowed := true }
def PosOwnUptoSaid : Prop := posOwnUptoRow.holds Tryd.pinned (OpenSpec.upto posOwnSpec)

end Rows
end Go.Proofs.YtoihfmjnonanjaaDoor
