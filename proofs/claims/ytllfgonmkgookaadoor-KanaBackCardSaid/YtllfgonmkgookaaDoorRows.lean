/-
  NARROWER THAN 'FOR EVERY INPUT', by the rows' own cells (each row's printed sentence says how): KanaClasses: laid · KanaReads: laid · KanaHalves: laid · KanaTurns: laid · KanaBack: laid · KanaWidens: laid · KanaOnce: laid · KanaParts: laid · KanaKeeps: laid.
  DERIVED. THE GIVEN ROWS OF THIS SEAT. 9 by the template 'for every input the law returns true; each argument reads behind the call as it read before'; 0 by the template 'total and deterministic' (their statements: YtllfgonmkgookaaDoorTotals.lean).
  GIVEN WITH THE SEED: the statements are not yours to turn. If you find one false, say at which input.
  Laid BY PROGRAM, IN A SANDBOX (cutbox-rows.mjs): the forced cells as the released guide's own fill.sh prints them over the translation e5f5131aed68a0da… (all of the seat's roots in one cut). By AI agents, Wed Nov 11 2026. No macro, syntax, notation, axiom, sorry.
-/
import Derived.Test.YtllfgonmkgookaaDoorChecked
import GoSem.PinnedTables
import GoSem.Claim
import GoSem.ClaimJoined
import GoSem.ClaimMapViews
import Derived.JoinedTies
import Derived.KernelRfl
namespace Go.Proofs.YtllfgonmkgookaaDoor
/- THE CELL 'sum', in the pinned program and in every row, IS THE sha256 OF THE DUMP (.gsa) THAT YtllfgonmkgookaaDoorProg.lean LOADS. Nothing in Lean hashes anything: it is a label: what it is worth is what the hold of that sum in a sandbox is worth. -/
noncomputable def Tryd.pinned : Pinned := { name := "ytllfgonmkgookaadoor", sum := "e5f5131aed68a0da47d1c510725811f05d9121703bf81a21f5e9dce2520c8957", checked := Tryd.checked }
namespace Rows
def none {H : Type} : Left H := { results := [], args := [] }

/- WHAT THE LISTED PACKAGE-LEVEL VARIABLES READ AS WHEN THE CALL BEGINS. Each datum BY PROGRAM (the guide's laid-datum.mjs) off the statement by which the dump's own 'gosem.cut.vars' lays the variable. In a bare row this is a premise. The card (YtllfgonmkgookaaDoorCards.lean) ties it to the program's text. -/
def laid_unicode_utf8_acceptRanges {H : Type} : DataW H := .agg [.agg [.lit (.int .u8 128), .lit (.int .u8 191)], .agg [.lit (.int .u8 160), .lit (.int .u8 191)], .agg [.lit (.int .u8 128), .lit (.int .u8 159)], .agg [.lit (.int .u8 144), .lit (.int .u8 191)], .agg [.lit (.int .u8 128), .lit (.int .u8 143)], .agg [.lit (.int .u8 0), .lit (.int .u8 0)], .agg [.lit (.int .u8 0), .lit (.int .u8 0)], .agg [.lit (.int .u8 0), .lit (.int .u8 0)], .agg [.lit (.int .u8 0), .lit (.int .u8 0)], .agg [.lit (.int .u8 0), .lit (.int .u8 0)], .agg [.lit (.int .u8 0), .lit (.int .u8 0)], .agg [.lit (.int .u8 0), .lit (.int .u8 0)], .agg [.lit (.int .u8 0), .lit (.int .u8 0)], .agg [.lit (.int .u8 0), .lit (.int .u8 0)], .agg [.lit (.int .u8 0), .lit (.int .u8 0)], .agg [.lit (.int .u8 0), .lit (.int .u8 0)]]
/-- One of Go's own tables, pinned by name: the form's constant. -/
def laid_unicode_utf8_first : DataW Unit := Go.Pinned.utf8First

/-- 'henkanlaw02.KanaClasses': WHATEVER THE INPUT: true; the input reads as it did. -/
def kanaClassesSpec : ChangeSpec := { name := "kanaClasses", fn := fun _ => fun
  | [d] => { results := [.lit (.bool true)], args := [d] }
  | _ => none }
def kanaClassesRow : OpenClaim := { program := "ytllfgonmkgookaadoor", sum := "e5f5131aed68a0da47d1c510725811f05d9121703bf81a21f5e9dce2520c8957", func := "henkan/henkanlaw02.KanaClasses", spec := "kanaClasses", inPlace := ["internal/abi.NoEscape", "internal/bytealg.MakeNoZero"], unfollowed := true, recurses := true, named := ["unicode/utf8.first", "unicode/utf8.acceptRanges"], apart := false, laid := [("unicode/utf8.acceptRanges", laid_unicode_utf8_acceptRanges), ("unicode/utf8.first", laid_unicode_utf8_first)] }
def KanaClassesSaid : Prop := kanaClassesRow.holds Tryd.pinned (OpenSpec.ofChange kanaClassesSpec)

/-- ITS FALSE NEIGHBOUR: 'it returns false'. Refute it at one input. -/
def kanaClassesWrong : ChangeSpec := { name := "kanaClasses", fn := fun _ => fun
  | [d] => { results := [.lit (.bool false)], args := [d] }
  | _ => none }
def KanaClassesWrongFalsely : Prop := kanaClassesRow.holds Tryd.pinned (OpenSpec.ofChange kanaClassesWrong)

/-- 'henkanlaw02.KanaReads': WHATEVER THE INPUT: true; the input reads as it did. -/
def kanaReadsSpec : ChangeSpec := { name := "kanaReads", fn := fun _ => fun
  | [d] => { results := [.lit (.bool true)], args := [d] }
  | _ => none }
def kanaReadsRow : OpenClaim := { program := "ytllfgonmkgookaadoor", sum := "e5f5131aed68a0da47d1c510725811f05d9121703bf81a21f5e9dce2520c8957", func := "henkan/henkanlaw02.KanaReads", spec := "kanaReads", inPlace := ["internal/abi.NoEscape", "internal/bytealg.MakeNoZero"], unfollowed := true, recurses := true, named := ["unicode/utf8.first", "unicode/utf8.acceptRanges"], apart := false, laid := [("unicode/utf8.acceptRanges", laid_unicode_utf8_acceptRanges), ("unicode/utf8.first", laid_unicode_utf8_first)] }
def KanaReadsSaid : Prop := kanaReadsRow.holds Tryd.pinned (OpenSpec.ofChange kanaReadsSpec)

/-- ITS FALSE NEIGHBOUR: 'it returns false'. Refute it at one input. -/
def kanaReadsWrong : ChangeSpec := { name := "kanaReads", fn := fun _ => fun
  | [d] => { results := [.lit (.bool false)], args := [d] }
  | _ => none }
def KanaReadsWrongFalsely : Prop := kanaReadsRow.holds Tryd.pinned (OpenSpec.ofChange kanaReadsWrong)

/-- 'henkanlaw02.KanaHalves': WHATEVER THE INPUT: true; the input reads as it did. -/
def kanaHalvesSpec : ChangeSpec := { name := "kanaHalves", fn := fun _ => fun
  | [d] => { results := [.lit (.bool true)], args := [d] }
  | _ => none }
def kanaHalvesRow : OpenClaim := { program := "ytllfgonmkgookaadoor", sum := "e5f5131aed68a0da47d1c510725811f05d9121703bf81a21f5e9dce2520c8957", func := "henkan/henkanlaw02.KanaHalves", spec := "kanaHalves", inPlace := ["internal/abi.NoEscape", "internal/bytealg.MakeNoZero"], unfollowed := true, recurses := true, named := ["unicode/utf8.first", "unicode/utf8.acceptRanges"], apart := false, laid := [("unicode/utf8.acceptRanges", laid_unicode_utf8_acceptRanges), ("unicode/utf8.first", laid_unicode_utf8_first)] }
def KanaHalvesSaid : Prop := kanaHalvesRow.holds Tryd.pinned (OpenSpec.ofChange kanaHalvesSpec)

/-- ITS FALSE NEIGHBOUR: 'it returns false'. Refute it at one input. -/
def kanaHalvesWrong : ChangeSpec := { name := "kanaHalves", fn := fun _ => fun
  | [d] => { results := [.lit (.bool false)], args := [d] }
  | _ => none }
def KanaHalvesWrongFalsely : Prop := kanaHalvesRow.holds Tryd.pinned (OpenSpec.ofChange kanaHalvesWrong)

/-- 'henkanlaw02.KanaTurns': WHATEVER THE INPUT: true; the input reads as it did. -/
def kanaTurnsSpec : ChangeSpec := { name := "kanaTurns", fn := fun _ => fun
  | [d] => { results := [.lit (.bool true)], args := [d] }
  | _ => none }
def kanaTurnsRow : OpenClaim := { program := "ytllfgonmkgookaadoor", sum := "e5f5131aed68a0da47d1c510725811f05d9121703bf81a21f5e9dce2520c8957", func := "henkan/henkanlaw02.KanaTurns", spec := "kanaTurns", inPlace := ["internal/abi.NoEscape", "internal/bytealg.MakeNoZero"], unfollowed := true, recurses := true, named := ["unicode/utf8.first", "unicode/utf8.acceptRanges"], apart := false, laid := [("unicode/utf8.acceptRanges", laid_unicode_utf8_acceptRanges), ("unicode/utf8.first", laid_unicode_utf8_first)] }
def KanaTurnsSaid : Prop := kanaTurnsRow.holds Tryd.pinned (OpenSpec.ofChange kanaTurnsSpec)

/-- ITS FALSE NEIGHBOUR: 'it returns false'. Refute it at one input. -/
def kanaTurnsWrong : ChangeSpec := { name := "kanaTurns", fn := fun _ => fun
  | [d] => { results := [.lit (.bool false)], args := [d] }
  | _ => none }
def KanaTurnsWrongFalsely : Prop := kanaTurnsRow.holds Tryd.pinned (OpenSpec.ofChange kanaTurnsWrong)

/-- 'henkanlaw02.KanaBack': WHATEVER THE INPUT: true; the input reads as it did. -/
def kanaBackSpec : ChangeSpec := { name := "kanaBack", fn := fun _ => fun
  | [d] => { results := [.lit (.bool true)], args := [d] }
  | _ => none }
def kanaBackRow : OpenClaim := { program := "ytllfgonmkgookaadoor", sum := "e5f5131aed68a0da47d1c510725811f05d9121703bf81a21f5e9dce2520c8957", func := "henkan/henkanlaw02.KanaBack", spec := "kanaBack", inPlace := ["internal/abi.NoEscape", "internal/bytealg.MakeNoZero"], unfollowed := true, recurses := true, named := ["unicode/utf8.first", "unicode/utf8.acceptRanges"], apart := false, laid := [("unicode/utf8.acceptRanges", laid_unicode_utf8_acceptRanges), ("unicode/utf8.first", laid_unicode_utf8_first)] }
def KanaBackSaid : Prop := kanaBackRow.holds Tryd.pinned (OpenSpec.ofChange kanaBackSpec)

/-- ITS FALSE NEIGHBOUR: 'it returns false'. Refute it at one input. -/
def kanaBackWrong : ChangeSpec := { name := "kanaBack", fn := fun _ => fun
  | [d] => { results := [.lit (.bool false)], args := [d] }
  | _ => none }
def KanaBackWrongFalsely : Prop := kanaBackRow.holds Tryd.pinned (OpenSpec.ofChange kanaBackWrong)

/-- 'henkanlaw02.KanaWidens': WHATEVER THE INPUT: true; the input reads as it did. -/
def kanaWidensSpec : ChangeSpec := { name := "kanaWidens", fn := fun _ => fun
  | [d] => { results := [.lit (.bool true)], args := [d] }
  | _ => none }
def kanaWidensRow : OpenClaim := { program := "ytllfgonmkgookaadoor", sum := "e5f5131aed68a0da47d1c510725811f05d9121703bf81a21f5e9dce2520c8957", func := "henkan/henkanlaw02.KanaWidens", spec := "kanaWidens", inPlace := ["internal/abi.NoEscape", "internal/bytealg.MakeNoZero"], unfollowed := true, recurses := true, named := ["unicode/utf8.first", "unicode/utf8.acceptRanges"], apart := false, laid := [("unicode/utf8.acceptRanges", laid_unicode_utf8_acceptRanges), ("unicode/utf8.first", laid_unicode_utf8_first)] }
def KanaWidensSaid : Prop := kanaWidensRow.holds Tryd.pinned (OpenSpec.ofChange kanaWidensSpec)

/-- ITS FALSE NEIGHBOUR: 'it returns false'. Refute it at one input. -/
def kanaWidensWrong : ChangeSpec := { name := "kanaWidens", fn := fun _ => fun
  | [d] => { results := [.lit (.bool false)], args := [d] }
  | _ => none }
def KanaWidensWrongFalsely : Prop := kanaWidensRow.holds Tryd.pinned (OpenSpec.ofChange kanaWidensWrong)

/-- 'henkanlaw02.KanaOnce': WHATEVER THE INPUT: true; the input reads as it did. -/
def kanaOnceSpec : ChangeSpec := { name := "kanaOnce", fn := fun _ => fun
  | [d] => { results := [.lit (.bool true)], args := [d] }
  | _ => none }
def kanaOnceRow : OpenClaim := { program := "ytllfgonmkgookaadoor", sum := "e5f5131aed68a0da47d1c510725811f05d9121703bf81a21f5e9dce2520c8957", func := "henkan/henkanlaw02.KanaOnce", spec := "kanaOnce", inPlace := ["internal/abi.NoEscape", "internal/bytealg.MakeNoZero"], unfollowed := true, recurses := true, named := ["unicode/utf8.first", "unicode/utf8.acceptRanges"], apart := false, laid := [("unicode/utf8.acceptRanges", laid_unicode_utf8_acceptRanges), ("unicode/utf8.first", laid_unicode_utf8_first)] }
def KanaOnceSaid : Prop := kanaOnceRow.holds Tryd.pinned (OpenSpec.ofChange kanaOnceSpec)

/-- ITS FALSE NEIGHBOUR: 'it returns false'. Refute it at one input. -/
def kanaOnceWrong : ChangeSpec := { name := "kanaOnce", fn := fun _ => fun
  | [d] => { results := [.lit (.bool false)], args := [d] }
  | _ => none }
def KanaOnceWrongFalsely : Prop := kanaOnceRow.holds Tryd.pinned (OpenSpec.ofChange kanaOnceWrong)

/-- 'henkanlaw02.KanaParts': WHATEVER THE INPUT: true; the input reads as it did. -/
def kanaPartsSpec : ChangeSpec := { name := "kanaParts", fn := fun _ => fun
  | [d1, d2] => { results := [.lit (.bool true)], args := [d1, d2] }
  | _ => none }
def kanaPartsRow : OpenClaim := { program := "ytllfgonmkgookaadoor", sum := "e5f5131aed68a0da47d1c510725811f05d9121703bf81a21f5e9dce2520c8957", func := "henkan/henkanlaw02.KanaParts", spec := "kanaParts", inPlace := ["internal/abi.NoEscape", "internal/bytealg.MakeNoZero"], unfollowed := true, recurses := true, named := ["unicode/utf8.first", "unicode/utf8.acceptRanges"], apart := false, laid := [("unicode/utf8.acceptRanges", laid_unicode_utf8_acceptRanges), ("unicode/utf8.first", laid_unicode_utf8_first)] }
def KanaPartsSaid : Prop := kanaPartsRow.holds Tryd.pinned (OpenSpec.ofChange kanaPartsSpec)

/-- ITS FALSE NEIGHBOUR: 'it returns false'. Refute it at one input. -/
def kanaPartsWrong : ChangeSpec := { name := "kanaParts", fn := fun _ => fun
  | [d1, d2] => { results := [.lit (.bool false)], args := [d1, d2] }
  | _ => none }
def KanaPartsWrongFalsely : Prop := kanaPartsRow.holds Tryd.pinned (OpenSpec.ofChange kanaPartsWrong)

/-- 'henkanlaw02.KanaKeeps': WHATEVER THE INPUT: true; the input reads as it did. -/
def kanaKeepsSpec : ChangeSpec := { name := "kanaKeeps", fn := fun _ => fun
  | [d] => { results := [.lit (.bool true)], args := [d] }
  | _ => none }
def kanaKeepsRow : OpenClaim := { program := "ytllfgonmkgookaadoor", sum := "e5f5131aed68a0da47d1c510725811f05d9121703bf81a21f5e9dce2520c8957", func := "henkan/henkanlaw02.KanaKeeps", spec := "kanaKeeps", inPlace := ["internal/abi.NoEscape", "internal/bytealg.MakeNoZero"], unfollowed := true, recurses := true, named := ["unicode/utf8.first", "unicode/utf8.acceptRanges"], apart := false, laid := [("unicode/utf8.acceptRanges", laid_unicode_utf8_acceptRanges), ("unicode/utf8.first", laid_unicode_utf8_first)] }
def KanaKeepsSaid : Prop := kanaKeepsRow.holds Tryd.pinned (OpenSpec.ofChange kanaKeepsSpec)

/-- ITS FALSE NEIGHBOUR: 'it returns false'. Refute it at one input. -/
def kanaKeepsWrong : ChangeSpec := { name := "kanaKeeps", fn := fun _ => fun
  | [d] => { results := [.lit (.bool false)], args := [d] }
  | _ => none }
def KanaKeepsWrongFalsely : Prop := kanaKeepsRow.holds Tryd.pinned (OpenSpec.ofChange kanaKeepsWrong)

/- THE SECOND FORM. 'bulk': how many values and letters a reading holds, each counted each time it is reached (what is shared counts as often as it is met; a slice's spare places count too). A statement '..UptoSaid' is the law's where the arguments, and the package variables that the reading takes, are together of bulk at most 1048576: NARROWER than '..Said'. Prove '..Said' where nothing that the law and all that it calls make is longer than what came in: it says more and counts as full. Else prove '..UptoSaid'. A law counts once. -/
mutual
def uptoBulk {H : Type} : DataW H → Nat
  | .lit (.string bytes) => bytes.length + 1
  | .lit _ => 1
  | .nil => 1
  | .ptr d => uptoBulk d + 1
  | .slice elems spare => uptoBulkAll elems + uptoBulkAll spare + 1
  | .agg parts => uptoBulkAll parts + 1
  | .iface _ d => uptoBulk d + 1
  | .map entries => uptoBulkEntries entries + 1
  | .held _ => 1
def uptoBulkAll {H : Type} : List (DataW H) → Nat
  | [] => 0
  | d :: r => uptoBulk d + uptoBulkAll r
def uptoBulkEntries {H : Type} : List (Lit × DataW H) → Nat
  | [] => 0
  | x :: r => uptoBulkEntry x + uptoBulkEntries r
def uptoBulkEntry {H : Type} : Lit × DataW H → Nat
  | (.string bytes, d) => bytes.length + uptoBulk d + 1
  | (_, d) => uptoBulk d + 1
 end
def uptoSmall : (H : Type) → List (DataW H) → Bool := fun _ ds => decide (uptoBulkAll ds ≤ 1048576)
def OpenSpec.upto (s : _root_.Go.ChangeSpec) : _root_.Go.OpenSpec := { _root_.Go.OpenSpec.ofChange s with cond := some uptoSmall }

/-- 'henkanlaw02.KanaClasses', WHERE WHAT IT READS IS OF BULK AT MOST 1048576: true; the input reads as it did. -/
def kanaClassesUptoRow : OpenClaim := { program := "ytllfgonmkgookaadoor", sum := "e5f5131aed68a0da47d1c510725811f05d9121703bf81a21f5e9dce2520c8957", func := "henkan/henkanlaw02.KanaClasses", spec := "kanaClasses", inPlace := ["internal/abi.NoEscape", "internal/bytealg.MakeNoZero"], unfollowed := true, recurses := true, named := ["unicode/utf8.first", "unicode/utf8.acceptRanges"], apart := false, laid := [("unicode/utf8.acceptRanges", laid_unicode_utf8_acceptRanges), ("unicode/utf8.first", laid_unicode_utf8_first)], narrowed := true }
def KanaClassesUptoSaid : Prop := kanaClassesUptoRow.holds Tryd.pinned (OpenSpec.upto kanaClassesSpec)

/-- 'henkanlaw02.KanaReads', WHERE WHAT IT READS IS OF BULK AT MOST 1048576: true; the input reads as it did. -/
def kanaReadsUptoRow : OpenClaim := { program := "ytllfgonmkgookaadoor", sum := "e5f5131aed68a0da47d1c510725811f05d9121703bf81a21f5e9dce2520c8957", func := "henkan/henkanlaw02.KanaReads", spec := "kanaReads", inPlace := ["internal/abi.NoEscape", "internal/bytealg.MakeNoZero"], unfollowed := true, recurses := true, named := ["unicode/utf8.first", "unicode/utf8.acceptRanges"], apart := false, laid := [("unicode/utf8.acceptRanges", laid_unicode_utf8_acceptRanges), ("unicode/utf8.first", laid_unicode_utf8_first)], narrowed := true }
def KanaReadsUptoSaid : Prop := kanaReadsUptoRow.holds Tryd.pinned (OpenSpec.upto kanaReadsSpec)

/-- 'henkanlaw02.KanaHalves', WHERE WHAT IT READS IS OF BULK AT MOST 1048576: true; the input reads as it did. -/
def kanaHalvesUptoRow : OpenClaim := { program := "ytllfgonmkgookaadoor", sum := "e5f5131aed68a0da47d1c510725811f05d9121703bf81a21f5e9dce2520c8957", func := "henkan/henkanlaw02.KanaHalves", spec := "kanaHalves", inPlace := ["internal/abi.NoEscape", "internal/bytealg.MakeNoZero"], unfollowed := true, recurses := true, named := ["unicode/utf8.first", "unicode/utf8.acceptRanges"], apart := false, laid := [("unicode/utf8.acceptRanges", laid_unicode_utf8_acceptRanges), ("unicode/utf8.first", laid_unicode_utf8_first)], narrowed := true }
def KanaHalvesUptoSaid : Prop := kanaHalvesUptoRow.holds Tryd.pinned (OpenSpec.upto kanaHalvesSpec)

/-- 'henkanlaw02.KanaTurns', WHERE WHAT IT READS IS OF BULK AT MOST 1048576: true; the input reads as it did. -/
def kanaTurnsUptoRow : OpenClaim := { program := "ytllfgonmkgookaadoor", sum := "e5f5131aed68a0da47d1c510725811f05d9121703bf81a21f5e9dce2520c8957", func := "henkan/henkanlaw02.KanaTurns", spec := "kanaTurns", inPlace := ["internal/abi.NoEscape", "internal/bytealg.MakeNoZero"], unfollowed := true, recurses := true, named := ["unicode/utf8.first", "unicode/utf8.acceptRanges"], apart := false, laid := [("unicode/utf8.acceptRanges", laid_unicode_utf8_acceptRanges), ("unicode/utf8.first", laid_unicode_utf8_first)], narrowed := true }
def KanaTurnsUptoSaid : Prop := kanaTurnsUptoRow.holds Tryd.pinned (OpenSpec.upto kanaTurnsSpec)

/-- 'henkanlaw02.KanaBack', WHERE WHAT IT READS IS OF BULK AT MOST 1048576: true; the input reads as it did. -/
def kanaBackUptoRow : OpenClaim := { program := "ytllfgonmkgookaadoor", sum := "e5f5131aed68a0da47d1c510725811f05d9121703bf81a21f5e9dce2520c8957", func := "henkan/henkanlaw02.KanaBack", spec := "kanaBack", inPlace := ["internal/abi.NoEscape", "internal/bytealg.MakeNoZero"], unfollowed := true, recurses := true, named := ["unicode/utf8.first", "unicode/utf8.acceptRanges"], apart := false, laid := [("unicode/utf8.acceptRanges", laid_unicode_utf8_acceptRanges), ("unicode/utf8.first", laid_unicode_utf8_first)], narrowed := true }
def KanaBackUptoSaid : Prop := kanaBackUptoRow.holds Tryd.pinned (OpenSpec.upto kanaBackSpec)

/-- 'henkanlaw02.KanaWidens', WHERE WHAT IT READS IS OF BULK AT MOST 1048576: true; the input reads as it did. -/
def kanaWidensUptoRow : OpenClaim := { program := "ytllfgonmkgookaadoor", sum := "e5f5131aed68a0da47d1c510725811f05d9121703bf81a21f5e9dce2520c8957", func := "henkan/henkanlaw02.KanaWidens", spec := "kanaWidens", inPlace := ["internal/abi.NoEscape", "internal/bytealg.MakeNoZero"], unfollowed := true, recurses := true, named := ["unicode/utf8.first", "unicode/utf8.acceptRanges"], apart := false, laid := [("unicode/utf8.acceptRanges", laid_unicode_utf8_acceptRanges), ("unicode/utf8.first", laid_unicode_utf8_first)], narrowed := true }
def KanaWidensUptoSaid : Prop := kanaWidensUptoRow.holds Tryd.pinned (OpenSpec.upto kanaWidensSpec)

/-- 'henkanlaw02.KanaOnce', WHERE WHAT IT READS IS OF BULK AT MOST 1048576: true; the input reads as it did. -/
def kanaOnceUptoRow : OpenClaim := { program := "ytllfgonmkgookaadoor", sum := "e5f5131aed68a0da47d1c510725811f05d9121703bf81a21f5e9dce2520c8957", func := "henkan/henkanlaw02.KanaOnce", spec := "kanaOnce", inPlace := ["internal/abi.NoEscape", "internal/bytealg.MakeNoZero"], unfollowed := true, recurses := true, named := ["unicode/utf8.first", "unicode/utf8.acceptRanges"], apart := false, laid := [("unicode/utf8.acceptRanges", laid_unicode_utf8_acceptRanges), ("unicode/utf8.first", laid_unicode_utf8_first)], narrowed := true }
def KanaOnceUptoSaid : Prop := kanaOnceUptoRow.holds Tryd.pinned (OpenSpec.upto kanaOnceSpec)

/-- 'henkanlaw02.KanaParts', WHERE WHAT IT READS IS OF BULK AT MOST 1048576: true; the input reads as it did. -/
def kanaPartsUptoRow : OpenClaim := { program := "ytllfgonmkgookaadoor", sum := "e5f5131aed68a0da47d1c510725811f05d9121703bf81a21f5e9dce2520c8957", func := "henkan/henkanlaw02.KanaParts", spec := "kanaParts", inPlace := ["internal/abi.NoEscape", "internal/bytealg.MakeNoZero"], unfollowed := true, recurses := true, named := ["unicode/utf8.first", "unicode/utf8.acceptRanges"], apart := false, laid := [("unicode/utf8.acceptRanges", laid_unicode_utf8_acceptRanges), ("unicode/utf8.first", laid_unicode_utf8_first)], narrowed := true }
def KanaPartsUptoSaid : Prop := kanaPartsUptoRow.holds Tryd.pinned (OpenSpec.upto kanaPartsSpec)

/-- 'henkanlaw02.KanaKeeps', WHERE WHAT IT READS IS OF BULK AT MOST 1048576: true; the input reads as it did. -/
def kanaKeepsUptoRow : OpenClaim := { program := "ytllfgonmkgookaadoor", sum := "e5f5131aed68a0da47d1c510725811f05d9121703bf81a21f5e9dce2520c8957", func := "henkan/henkanlaw02.KanaKeeps", spec := "kanaKeeps", inPlace := ["internal/abi.NoEscape", "internal/bytealg.MakeNoZero"], unfollowed := true, recurses := true, named := ["unicode/utf8.first", "unicode/utf8.acceptRanges"], apart := false, laid := [("unicode/utf8.acceptRanges", laid_unicode_utf8_acceptRanges), ("unicode/utf8.first", laid_unicode_utf8_first)], narrowed := true }
def KanaKeepsUptoSaid : Prop := kanaKeepsUptoRow.holds Tryd.pinned (OpenSpec.upto kanaKeepsSpec)

end Rows
end Go.Proofs.YtllfgonmkgookaaDoor
