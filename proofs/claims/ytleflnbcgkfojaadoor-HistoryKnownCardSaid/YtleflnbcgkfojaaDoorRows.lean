/-
  NARROWER THAN 'FOR EVERY INPUT', by the rows' own cells (each row's printed sentence says how): HistoryKeys: laid · HistoryAbout: laid · HistoryOnly: laid · HistoryForgets: laid · HistoryOwn: laid · HistoryLast: laid · HistoryParts: laid · HistoryKnown: laid.
  DERIVED. THE GIVEN ROWS OF THIS SEAT. 8 by the template 'for every input the law returns true; each argument reads behind the call as it read before'; 0 by the template 'total and deterministic' (their statements: YtleflnbcgkfojaaDoorTotals.lean).
  GIVEN WITH THE SEED: the statements are not yours to turn. If you find one false, say at which input.
  Laid BY PROGRAM, IN A SANDBOX (cutbox-rows.mjs): the forced cells as the released guide's own fill.sh prints them over the translation 4af95d6487ba4fa7… (all of the seat's roots in one cut). By AI agents, Wed Nov 11 2026. No macro, syntax, notation, axiom, sorry.
-/
import Derived.Test.YtleflnbcgkfojaaDoorChecked
import GoSem.PinnedTables
import GoSem.Claim
import GoSem.ClaimJoined
import GoSem.ClaimMapViews
import Derived.JoinedTies
import Derived.KernelRfl
namespace Go.Proofs.YtleflnbcgkfojaaDoor
/- THE CELL 'sum', in the pinned program and in every row, IS THE sha256 OF THE DUMP (.gsa) THAT YtleflnbcgkfojaaDoorProg.lean LOADS. Nothing in Lean hashes anything: it is a label: what it is worth is what the hold of that sum in a sandbox is worth. -/
noncomputable def Tryd.pinned : Pinned := { name := "ytleflnbcgkfojaadoor", sum := "4af95d6487ba4fa7b65fb5c6466e8b75c5834a0d7fe9de5716079814aff63108", checked := Tryd.checked }
namespace Rows
def none {H : Type} : Left H := { results := [], args := [] }

/- WHAT THE LISTED PACKAGE-LEVEL VARIABLES READ AS WHEN THE CALL BEGINS. Each datum BY PROGRAM (the guide's laid-datum.mjs) off the statement by which the dump's own 'gosem.cut.vars' lays the variable. In a bare row this is a premise. The card (YtleflnbcgkfojaaDoorCards.lean) ties it to the program's text. -/
def laid_unicode_utf8_acceptRanges {H : Type} : DataW H := .agg [.agg [.lit (.int .u8 128), .lit (.int .u8 191)], .agg [.lit (.int .u8 160), .lit (.int .u8 191)], .agg [.lit (.int .u8 128), .lit (.int .u8 159)], .agg [.lit (.int .u8 144), .lit (.int .u8 191)], .agg [.lit (.int .u8 128), .lit (.int .u8 143)], .agg [.lit (.int .u8 0), .lit (.int .u8 0)], .agg [.lit (.int .u8 0), .lit (.int .u8 0)], .agg [.lit (.int .u8 0), .lit (.int .u8 0)], .agg [.lit (.int .u8 0), .lit (.int .u8 0)], .agg [.lit (.int .u8 0), .lit (.int .u8 0)], .agg [.lit (.int .u8 0), .lit (.int .u8 0)], .agg [.lit (.int .u8 0), .lit (.int .u8 0)], .agg [.lit (.int .u8 0), .lit (.int .u8 0)], .agg [.lit (.int .u8 0), .lit (.int .u8 0)], .agg [.lit (.int .u8 0), .lit (.int .u8 0)], .agg [.lit (.int .u8 0), .lit (.int .u8 0)]]
/-- One of Go's own tables, pinned by name: the form's constant. -/
def laid_unicode_utf8_first : DataW Unit := Go.Pinned.utf8First

/-- 'henkanlaw31.HistoryKeys': WHATEVER THE INPUT: true; the input reads as it did. -/
def historyKeysSpec : ChangeSpec := { name := "historyKeys", fn := fun _ => fun
  | [d1, d2] => { results := [.lit (.bool true)], args := [d1, d2] }
  | _ => none }
def historyKeysRow : OpenClaim := { program := "ytleflnbcgkfojaadoor", sum := "4af95d6487ba4fa7b65fb5c6466e8b75c5834a0d7fe9de5716079814aff63108", func := "henkan/henkanlaw31.HistoryKeys", spec := "historyKeys", inPlace := ["internal/bytealg.IndexByteString", "internal/bytealg.IndexString"], unfollowed := true, recurses := true, named := ["unicode/utf8.first", "unicode/utf8.acceptRanges", "internal/bytealg.MaxLen"], apart := false, laid := [("unicode/utf8.acceptRanges", laid_unicode_utf8_acceptRanges), ("unicode/utf8.first", laid_unicode_utf8_first)] }
def HistoryKeysSaid : Prop := historyKeysRow.holds Tryd.pinned (OpenSpec.ofChange historyKeysSpec)

/-- ITS FALSE NEIGHBOUR: 'it returns false'. Refute it at one input. -/
def historyKeysWrong : ChangeSpec := { name := "historyKeys", fn := fun _ => fun
  | [d1, d2] => { results := [.lit (.bool false)], args := [d1, d2] }
  | _ => none }
def HistoryKeysWrongFalsely : Prop := historyKeysRow.holds Tryd.pinned (OpenSpec.ofChange historyKeysWrong)

/-- 'henkanlaw31.HistoryAbout': WHATEVER THE INPUT: true; the input reads as it did. -/
def historyAboutSpec : ChangeSpec := { name := "historyAbout", fn := fun _ => fun
  | [d1, d2] => { results := [.lit (.bool true)], args := [d1, d2] }
  | _ => none }
def historyAboutRow : OpenClaim := { program := "ytleflnbcgkfojaadoor", sum := "4af95d6487ba4fa7b65fb5c6466e8b75c5834a0d7fe9de5716079814aff63108", func := "henkan/henkanlaw31.HistoryAbout", spec := "historyAbout", inPlace := ["internal/bytealg.IndexByteString", "internal/bytealg.IndexString"], unfollowed := true, recurses := true, named := ["unicode/utf8.first", "unicode/utf8.acceptRanges", "internal/bytealg.MaxLen"], apart := false, laid := [("unicode/utf8.acceptRanges", laid_unicode_utf8_acceptRanges), ("unicode/utf8.first", laid_unicode_utf8_first)] }
def HistoryAboutSaid : Prop := historyAboutRow.holds Tryd.pinned (OpenSpec.ofChange historyAboutSpec)

/-- ITS FALSE NEIGHBOUR: 'it returns false'. Refute it at one input. -/
def historyAboutWrong : ChangeSpec := { name := "historyAbout", fn := fun _ => fun
  | [d1, d2] => { results := [.lit (.bool false)], args := [d1, d2] }
  | _ => none }
def HistoryAboutWrongFalsely : Prop := historyAboutRow.holds Tryd.pinned (OpenSpec.ofChange historyAboutWrong)

/-- 'henkanlaw31.HistoryOnly': WHATEVER THE INPUT: true; the input reads as it did. -/
def historyOnlySpec : ChangeSpec := { name := "historyOnly", fn := fun _ => fun
  | [d1, d2] => { results := [.lit (.bool true)], args := [d1, d2] }
  | _ => none }
def historyOnlyRow : OpenClaim := { program := "ytleflnbcgkfojaadoor", sum := "4af95d6487ba4fa7b65fb5c6466e8b75c5834a0d7fe9de5716079814aff63108", func := "henkan/henkanlaw31.HistoryOnly", spec := "historyOnly", inPlace := ["internal/bytealg.IndexByteString", "internal/bytealg.IndexString"], unfollowed := true, recurses := true, named := ["unicode/utf8.first", "unicode/utf8.acceptRanges", "internal/bytealg.MaxLen"], apart := false, laid := [("unicode/utf8.acceptRanges", laid_unicode_utf8_acceptRanges), ("unicode/utf8.first", laid_unicode_utf8_first)] }
def HistoryOnlySaid : Prop := historyOnlyRow.holds Tryd.pinned (OpenSpec.ofChange historyOnlySpec)

/-- ITS FALSE NEIGHBOUR: 'it returns false'. Refute it at one input. -/
def historyOnlyWrong : ChangeSpec := { name := "historyOnly", fn := fun _ => fun
  | [d1, d2] => { results := [.lit (.bool false)], args := [d1, d2] }
  | _ => none }
def HistoryOnlyWrongFalsely : Prop := historyOnlyRow.holds Tryd.pinned (OpenSpec.ofChange historyOnlyWrong)

/-- 'henkanlaw31.HistoryForgets': WHATEVER THE INPUT: true; the input reads as it did. -/
def historyForgetsSpec : ChangeSpec := { name := "historyForgets", fn := fun _ => fun
  | [d1, d2] => { results := [.lit (.bool true)], args := [d1, d2] }
  | _ => none }
def historyForgetsRow : OpenClaim := { program := "ytleflnbcgkfojaadoor", sum := "4af95d6487ba4fa7b65fb5c6466e8b75c5834a0d7fe9de5716079814aff63108", func := "henkan/henkanlaw31.HistoryForgets", spec := "historyForgets", inPlace := ["internal/bytealg.IndexByteString", "internal/bytealg.IndexString"], unfollowed := true, recurses := true, named := ["unicode/utf8.first", "unicode/utf8.acceptRanges", "internal/bytealg.MaxLen"], apart := false, laid := [("unicode/utf8.acceptRanges", laid_unicode_utf8_acceptRanges), ("unicode/utf8.first", laid_unicode_utf8_first)] }
def HistoryForgetsSaid : Prop := historyForgetsRow.holds Tryd.pinned (OpenSpec.ofChange historyForgetsSpec)

/-- ITS FALSE NEIGHBOUR: 'it returns false'. Refute it at one input. -/
def historyForgetsWrong : ChangeSpec := { name := "historyForgets", fn := fun _ => fun
  | [d1, d2] => { results := [.lit (.bool false)], args := [d1, d2] }
  | _ => none }
def HistoryForgetsWrongFalsely : Prop := historyForgetsRow.holds Tryd.pinned (OpenSpec.ofChange historyForgetsWrong)

/-- 'henkanlaw31.HistoryOwn': WHATEVER THE INPUT: true; the input reads as it did. -/
def historyOwnSpec : ChangeSpec := { name := "historyOwn", fn := fun _ => fun
  | [d1, d2] => { results := [.lit (.bool true)], args := [d1, d2] }
  | _ => none }
def historyOwnRow : OpenClaim := { program := "ytleflnbcgkfojaadoor", sum := "4af95d6487ba4fa7b65fb5c6466e8b75c5834a0d7fe9de5716079814aff63108", func := "henkan/henkanlaw31.HistoryOwn", spec := "historyOwn", inPlace := ["internal/bytealg.IndexByteString", "internal/bytealg.IndexString"], unfollowed := true, recurses := true, named := ["unicode/utf8.first", "unicode/utf8.acceptRanges", "internal/bytealg.MaxLen"], apart := false, laid := [("unicode/utf8.acceptRanges", laid_unicode_utf8_acceptRanges), ("unicode/utf8.first", laid_unicode_utf8_first)] }
def HistoryOwnSaid : Prop := historyOwnRow.holds Tryd.pinned (OpenSpec.ofChange historyOwnSpec)

/-- ITS FALSE NEIGHBOUR: 'it returns false'. Refute it at one input. -/
def historyOwnWrong : ChangeSpec := { name := "historyOwn", fn := fun _ => fun
  | [d1, d2] => { results := [.lit (.bool false)], args := [d1, d2] }
  | _ => none }
def HistoryOwnWrongFalsely : Prop := historyOwnRow.holds Tryd.pinned (OpenSpec.ofChange historyOwnWrong)

/-- 'henkanlaw31.HistoryLast': WHATEVER THE INPUT: true; the input reads as it did. -/
def historyLastSpec : ChangeSpec := { name := "historyLast", fn := fun _ => fun
  | [d1, d2] => { results := [.lit (.bool true)], args := [d1, d2] }
  | _ => none }
def historyLastRow : OpenClaim := { program := "ytleflnbcgkfojaadoor", sum := "4af95d6487ba4fa7b65fb5c6466e8b75c5834a0d7fe9de5716079814aff63108", func := "henkan/henkanlaw31.HistoryLast", spec := "historyLast", inPlace := ["internal/bytealg.IndexByteString", "internal/bytealg.IndexString"], unfollowed := true, recurses := true, named := ["unicode/utf8.first", "unicode/utf8.acceptRanges", "internal/bytealg.MaxLen"], apart := false, laid := [("unicode/utf8.acceptRanges", laid_unicode_utf8_acceptRanges), ("unicode/utf8.first", laid_unicode_utf8_first)] }
def HistoryLastSaid : Prop := historyLastRow.holds Tryd.pinned (OpenSpec.ofChange historyLastSpec)

/-- ITS FALSE NEIGHBOUR: 'it returns false'. Refute it at one input. -/
def historyLastWrong : ChangeSpec := { name := "historyLast", fn := fun _ => fun
  | [d1, d2] => { results := [.lit (.bool false)], args := [d1, d2] }
  | _ => none }
def HistoryLastWrongFalsely : Prop := historyLastRow.holds Tryd.pinned (OpenSpec.ofChange historyLastWrong)

/-- 'henkanlaw31.HistoryParts': WHATEVER THE INPUT: true; the input reads as it did. -/
def historyPartsSpec : ChangeSpec := { name := "historyParts", fn := fun _ => fun
  | [d1, d2, d3] => { results := [.lit (.bool true)], args := [d1, d2, d3] }
  | _ => none }
def historyPartsRow : OpenClaim := { program := "ytleflnbcgkfojaadoor", sum := "4af95d6487ba4fa7b65fb5c6466e8b75c5834a0d7fe9de5716079814aff63108", func := "henkan/henkanlaw31.HistoryParts", spec := "historyParts", inPlace := ["internal/bytealg.IndexByteString", "internal/bytealg.IndexString"], unfollowed := true, recurses := true, named := ["unicode/utf8.first", "unicode/utf8.acceptRanges", "internal/bytealg.MaxLen"], apart := false, laid := [("unicode/utf8.acceptRanges", laid_unicode_utf8_acceptRanges), ("unicode/utf8.first", laid_unicode_utf8_first)] }
def HistoryPartsSaid : Prop := historyPartsRow.holds Tryd.pinned (OpenSpec.ofChange historyPartsSpec)

/-- ITS FALSE NEIGHBOUR: 'it returns false'. Refute it at one input. -/
def historyPartsWrong : ChangeSpec := { name := "historyParts", fn := fun _ => fun
  | [d1, d2, d3] => { results := [.lit (.bool false)], args := [d1, d2, d3] }
  | _ => none }
def HistoryPartsWrongFalsely : Prop := historyPartsRow.holds Tryd.pinned (OpenSpec.ofChange historyPartsWrong)

/-- 'henkanlaw31.HistoryKnown': WHATEVER THE INPUT: true; the input reads as it did. -/
def historyKnownSpec : ChangeSpec := { name := "historyKnown", fn := fun _ => fun
  | [] => { results := [.lit (.bool true)], args := [] }
  | _ => none }
def historyKnownRow : OpenClaim := { program := "ytleflnbcgkfojaadoor", sum := "4af95d6487ba4fa7b65fb5c6466e8b75c5834a0d7fe9de5716079814aff63108", func := "henkan/henkanlaw31.HistoryKnown", spec := "historyKnown", inPlace := ["internal/bytealg.IndexByteString", "internal/bytealg.IndexString"], unfollowed := true, recurses := true, named := ["unicode/utf8.first", "unicode/utf8.acceptRanges", "internal/bytealg.MaxLen"], apart := false, laid := [("unicode/utf8.acceptRanges", laid_unicode_utf8_acceptRanges), ("unicode/utf8.first", laid_unicode_utf8_first)] }
def HistoryKnownSaid : Prop := historyKnownRow.holds Tryd.pinned (OpenSpec.ofChange historyKnownSpec)

/-- ITS FALSE NEIGHBOUR: 'it returns false'. Refute it at one input. -/
def historyKnownWrong : ChangeSpec := { name := "historyKnown", fn := fun _ => fun
  | [] => { results := [.lit (.bool false)], args := [] }
  | _ => none }
def HistoryKnownWrongFalsely : Prop := historyKnownRow.holds Tryd.pinned (OpenSpec.ofChange historyKnownWrong)

/- THE SECOND FORM. 'bulk': how many values and letters a reading holds, each counted each time it is reached (what is shared counts as often as it is met; a slice's spare places count too). A statement '..UptoSaid' is the law's where the arguments, and the package variables that the reading takes, are together of bulk at most 1048576: NARROWER than '..Said'. Prove '..Said' where nothing that the law and all that it calls make is longer than what came in: it says more and counts as full. Else prove '..UptoSaid'. A law counts once. -/
mutual
def uptoBulk {H : Type} : DataW H → Nat
  | .lit (.string bytes) => bytes.length + 1
  | .lit _ => 1
  | .nil => 1
  | .ptr d => uptoBulk d + 1
  | .slice elems spare => uptoBulkAll elems + uptoBulkAll spare + 1
  | .agg parts => uptoBulkAll parts + 1
  | .iface _ d => uptoBulk d + 1
  | .map entries => uptoBulkEntries entries + 1
  | .held _ => 1
def uptoBulkAll {H : Type} : List (DataW H) → Nat
  | [] => 0
  | d :: r => uptoBulk d + uptoBulkAll r
def uptoBulkEntries {H : Type} : List (Lit × DataW H) → Nat
  | [] => 0
  | x :: r => uptoBulkEntry x + uptoBulkEntries r
def uptoBulkEntry {H : Type} : Lit × DataW H → Nat
  | (.string bytes, d) => bytes.length + uptoBulk d + 1
  | (_, d) => uptoBulk d + 1
 end
def uptoSmall : (H : Type) → List (DataW H) → Bool := fun _ ds => decide (uptoBulkAll ds ≤ 1048576)
def OpenSpec.upto (s : _root_.Go.ChangeSpec) : _root_.Go.OpenSpec := { _root_.Go.OpenSpec.ofChange s with cond := some uptoSmall }

/-- 'henkanlaw31.HistoryKeys', WHERE WHAT IT READS IS OF BULK AT MOST 1048576: true; the input reads as it did. -/
def historyKeysUptoRow : OpenClaim := { program := "ytleflnbcgkfojaadoor", sum := "4af95d6487ba4fa7b65fb5c6466e8b75c5834a0d7fe9de5716079814aff63108", func := "henkan/henkanlaw31.HistoryKeys", spec := "historyKeys", inPlace := ["internal/bytealg.IndexByteString", "internal/bytealg.IndexString"], unfollowed := true, recurses := true, named := ["unicode/utf8.first", "unicode/utf8.acceptRanges", "internal/bytealg.MaxLen"], apart := false, laid := [("unicode/utf8.acceptRanges", laid_unicode_utf8_acceptRanges), ("unicode/utf8.first", laid_unicode_utf8_first)], narrowed := true }
def HistoryKeysUptoSaid : Prop := historyKeysUptoRow.holds Tryd.pinned (OpenSpec.upto historyKeysSpec)

/-- 'henkanlaw31.HistoryAbout', WHERE WHAT IT READS IS OF BULK AT MOST 1048576: true; the input reads as it did. -/
def historyAboutUptoRow : OpenClaim := { program := "ytleflnbcgkfojaadoor", sum := "4af95d6487ba4fa7b65fb5c6466e8b75c5834a0d7fe9de5716079814aff63108", func := "henkan/henkanlaw31.HistoryAbout", spec := "historyAbout", inPlace := ["internal/bytealg.IndexByteString", "internal/bytealg.IndexString"], unfollowed := true, recurses := true, named := ["unicode/utf8.first", "unicode/utf8.acceptRanges", "internal/bytealg.MaxLen"], apart := false, laid := [("unicode/utf8.acceptRanges", laid_unicode_utf8_acceptRanges), ("unicode/utf8.first", laid_unicode_utf8_first)], narrowed := true }
def HistoryAboutUptoSaid : Prop := historyAboutUptoRow.holds Tryd.pinned (OpenSpec.upto historyAboutSpec)

/-- 'henkanlaw31.HistoryOnly', WHERE WHAT IT READS IS OF BULK AT MOST 1048576: true; the input reads as it did. -/
def historyOnlyUptoRow : OpenClaim := { program := "ytleflnbcgkfojaadoor", sum := "4af95d6487ba4fa7b65fb5c6466e8b75c5834a0d7fe9de5716079814aff63108", func := "henkan/henkanlaw31.HistoryOnly", spec := "historyOnly", inPlace := ["internal/bytealg.IndexByteString", "internal/bytealg.IndexString"], unfollowed := true, recurses := true, named := ["unicode/utf8.first", "unicode/utf8.acceptRanges", "internal/bytealg.MaxLen"], apart := false, laid := [("unicode/utf8.acceptRanges", laid_unicode_utf8_acceptRanges), ("unicode/utf8.first", laid_unicode_utf8_first)], narrowed := true }
def HistoryOnlyUptoSaid : Prop := historyOnlyUptoRow.holds Tryd.pinned (OpenSpec.upto historyOnlySpec)

/-- 'henkanlaw31.HistoryForgets', WHERE WHAT IT READS IS OF BULK AT MOST 1048576: true; the input reads as it did. -/
def historyForgetsUptoRow : OpenClaim := { program := "ytleflnbcgkfojaadoor", sum := "4af95d6487ba4fa7b65fb5c6466e8b75c5834a0d7fe9de5716079814aff63108", func := "henkan/henkanlaw31.HistoryForgets", spec := "historyForgets", inPlace := ["internal/bytealg.IndexByteString", "internal/bytealg.IndexString"], unfollowed := true, recurses := true, named := ["unicode/utf8.first", "unicode/utf8.acceptRanges", "internal/bytealg.MaxLen"], apart := false, laid := [("unicode/utf8.acceptRanges", laid_unicode_utf8_acceptRanges), ("unicode/utf8.first", laid_unicode_utf8_first)], narrowed := true }
def HistoryForgetsUptoSaid : Prop := historyForgetsUptoRow.holds Tryd.pinned (OpenSpec.upto historyForgetsSpec)

/-- 'henkanlaw31.HistoryOwn', WHERE WHAT IT READS IS OF BULK AT MOST 1048576: true; the input reads as it did. -/
def historyOwnUptoRow : OpenClaim := { program := "ytleflnbcgkfojaadoor", sum := "4af95d6487ba4fa7b65fb5c6466e8b75c5834a0d7fe9de5716079814aff63108", func := "henkan/henkanlaw31.HistoryOwn", spec := "historyOwn", inPlace := ["internal/bytealg.IndexByteString", "internal/bytealg.IndexString"], unfollowed := true, recurses := true, named := ["unicode/utf8.first", "unicode/utf8.acceptRanges", "internal/bytealg.MaxLen"], apart := false, laid := [("unicode/utf8.acceptRanges", laid_unicode_utf8_acceptRanges), ("unicode/utf8.first", laid_unicode_utf8_first)], narrowed := true }
def HistoryOwnUptoSaid : Prop := historyOwnUptoRow.holds Tryd.pinned (OpenSpec.upto historyOwnSpec)

/-- 'henkanlaw31.HistoryLast', WHERE WHAT IT READS IS OF BULK AT MOST 1048576: true; the input reads as it did. -/
def historyLastUptoRow : OpenClaim := { program := "ytleflnbcgkfojaadoor", sum := "4af95d6487ba4fa7b65fb5c6466e8b75c5834a0d7fe9de5716079814aff63108", func := "henkan/henkanlaw31.HistoryLast", spec := "historyLast", inPlace := ["internal/bytealg.IndexByteString", "internal/bytealg.IndexString"], unfollowed := true, recurses := true, named := ["unicode/utf8.first", "unicode/utf8.acceptRanges", "internal/bytealg.MaxLen"], apart := false, laid := [("unicode/utf8.acceptRanges", laid_unicode_utf8_acceptRanges), ("unicode/utf8.first", laid_unicode_utf8_first)], narrowed := true }
def HistoryLastUptoSaid : Prop := historyLastUptoRow.holds Tryd.pinned (OpenSpec.upto historyLastSpec)

/-- 'henkanlaw31.HistoryParts', WHERE WHAT IT READS IS OF BULK AT MOST 1048576: true; the input reads as it did. -/
def historyPartsUptoRow : OpenClaim := { program := "ytleflnbcgkfojaadoor", sum := "4af95d6487ba4fa7b65fb5c6466e8b75c5834a0d7fe9de5716079814aff63108", func := "henkan/henkanlaw31.HistoryParts", spec := "historyParts", inPlace := ["internal/bytealg.IndexByteString", "internal/bytealg.IndexString"], unfollowed := true, recurses := true, named := ["unicode/utf8.first", "unicode/utf8.acceptRanges", "internal/bytealg.MaxLen"], apart := false, laid := [("unicode/utf8.acceptRanges", laid_unicode_utf8_acceptRanges), ("unicode/utf8.first", laid_unicode_utf8_first)], narrowed := true }
def HistoryPartsUptoSaid : Prop := historyPartsUptoRow.holds Tryd.pinned (OpenSpec.upto historyPartsSpec)

/-- 'henkanlaw31.HistoryKnown', WHERE WHAT IT READS IS OF BULK AT MOST 1048576: true; the input reads as it did. -/
def historyKnownUptoRow : OpenClaim := { program := "ytleflnbcgkfojaadoor", sum := "4af95d6487ba4fa7b65fb5c6466e8b75c5834a0d7fe9de5716079814aff63108", func := "henkan/henkanlaw31.HistoryKnown", spec := "historyKnown", inPlace := ["internal/bytealg.IndexByteString", "internal/bytealg.IndexString"], unfollowed := true, recurses := true, named := ["unicode/utf8.first", "unicode/utf8.acceptRanges", "internal/bytealg.MaxLen"], apart := false, laid := [("unicode/utf8.acceptRanges", laid_unicode_utf8_acceptRanges), ("unicode/utf8.first", laid_unicode_utf8_first)], narrowed := true }
def HistoryKnownUptoSaid : Prop := historyKnownUptoRow.holds Tryd.pinned (OpenSpec.upto historyKnownSpec)

end Rows
end Go.Proofs.YtleflnbcgkfojaaDoor
