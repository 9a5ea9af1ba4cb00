/-
  NARROWER THAN 'FOR EVERY INPUT', by the rows' own cells (each row's printed sentence says how): ModeOneReading: laid · ModeShows: laid · ModeToggles: laid · ModeChars: laid · ModeForms: laid · ModeBack: laid · ModeLetters: laid · ModeKnown: laid.
  DERIVED. THE GIVEN ROWS OF THIS SEAT. 8 by the template 'for every input the law returns true; each argument reads behind the call as it read before'; 0 by the template 'total and deterministic' (their statements: YthhiillmodacmaaDoorTotals.lean).
  GIVEN WITH THE SEED: the statements are not yours to turn. If you find one false, say at which input.
  Laid BY PROGRAM, IN A SANDBOX (cutbox-rows.mjs): the forced cells as the released guide's own fill.sh prints them over the translation 8f58835419dcb718… (all of the seat's roots in one cut). By AI agents, Wed Nov 11 2026. No macro, syntax, notation, axiom, sorry.
-/
import Derived.Test.YthhiillmodacmaaDoorChecked
import GoSem.PinnedTables
import GoSem.Claim
import GoSem.ClaimJoined
import GoSem.ClaimMapViews
import Derived.JoinedTies
import Derived.KernelRfl
namespace Go.Proofs.YthhiillmodacmaaDoor
/- THE CELL 'sum', in the pinned program and in every row, IS THE sha256 OF THE DUMP (.gsa) THAT YthhiillmodacmaaDoorProg.lean LOADS. Nothing in Lean hashes anything: it is a label: what it is worth is what the hold of that sum in a sandbox is worth. -/
noncomputable def Tryd.pinned : Pinned := { name := "ythhiillmodacmaadoor", sum := "8f58835419dcb718f41f733d1917a766cfcda08a3d858b2bc923395aedeb8110", checked := Tryd.checked }
namespace Rows
def none {H : Type} : Left H := { results := [], args := [] }

/- WHAT THE LISTED PACKAGE-LEVEL VARIABLES READ AS WHEN THE CALL BEGINS. Each datum BY PROGRAM (the guide's laid-datum.mjs) off the statement by which the dump's own 'gosem.cut.vars' lays the variable. In a bare row this is a premise. The card (YthhiillmodacmaaDoorCards.lean) ties it to the program's text. -/
def laid_unicode_utf8_acceptRanges {H : Type} : DataW H := .agg [.agg [.lit (.int .u8 128), .lit (.int .u8 191)], .agg [.lit (.int .u8 160), .lit (.int .u8 191)], .agg [.lit (.int .u8 128), .lit (.int .u8 159)], .agg [.lit (.int .u8 144), .lit (.int .u8 191)], .agg [.lit (.int .u8 128), .lit (.int .u8 143)], .agg [.lit (.int .u8 0), .lit (.int .u8 0)], .agg [.lit (.int .u8 0), .lit (.int .u8 0)], .agg [.lit (.int .u8 0), .lit (.int .u8 0)], .agg [.lit (.int .u8 0), .lit (.int .u8 0)], .agg [.lit (.int .u8 0), .lit (.int .u8 0)], .agg [.lit (.int .u8 0), .lit (.int .u8 0)], .agg [.lit (.int .u8 0), .lit (.int .u8 0)], .agg [.lit (.int .u8 0), .lit (.int .u8 0)], .agg [.lit (.int .u8 0), .lit (.int .u8 0)], .agg [.lit (.int .u8 0), .lit (.int .u8 0)], .agg [.lit (.int .u8 0), .lit (.int .u8 0)]]
def laid_henkan_mode_toggles {H : Type} : DataW H := .agg [.agg [.lit (.int .u8 107), .agg [.lit (.int .i64 0), .lit (.int .i64 2), .lit (.int .i64 1), .lit (.int .i64 0), .lit (.int .i64 0), .lit (.int .i64 0)]], .agg [.lit (.int .u8 104), .agg [.lit (.int .i64 0), .lit (.int .i64 0), .lit (.int .i64 3), .lit (.int .i64 2), .lit (.int .i64 0), .lit (.int .i64 0)]], .agg [.lit (.int .u8 119), .agg [.lit (.int .i64 0), .lit (.int .i64 0), .lit (.int .i64 0), .lit (.int .i64 0), .lit (.int .i64 5), .lit (.int .i64 4)]], .agg [.lit (.int .u8 114), .agg [.lit (.int .i64 0), .lit (.int .i64 5), .lit (.int .i64 5), .lit (.int .i64 5), .lit (.int .i64 5), .lit (.int .i64 1)]]]
/-- One of Go's own tables, pinned by name: the form's constant. -/
def laid_unicode_utf8_first : DataW Unit := Go.Pinned.utf8First

/-- 'henkanlaw07.ModeOneReading': WHATEVER THE INPUT: true; the input reads as it did. -/
def modeOneReadingSpec : ChangeSpec := { name := "modeOneReading", fn := fun _ => fun
  | [d1, d2] => { results := [.lit (.bool true)], args := [d1, d2] }
  | _ => none }
def modeOneReadingRow : OpenClaim := { program := "ythhiillmodacmaadoor", sum := "8f58835419dcb718f41f733d1917a766cfcda08a3d858b2bc923395aedeb8110", func := "henkan/henkanlaw07.ModeOneReading", spec := "modeOneReading", inPlace := ["internal/abi.NoEscape", "internal/bytealg.MakeNoZero"], unfollowed := true, recurses := true, named := ["unicode/utf8.first", "unicode/utf8.acceptRanges", "henkan/mode.toggles"], apart := false, laid := [("unicode/utf8.acceptRanges", laid_unicode_utf8_acceptRanges), ("henkan/mode.toggles", laid_henkan_mode_toggles), ("unicode/utf8.first", laid_unicode_utf8_first)] }
def ModeOneReadingSaid : Prop := modeOneReadingRow.holds Tryd.pinned (OpenSpec.ofChange modeOneReadingSpec)

/-- ITS FALSE NEIGHBOUR: 'it returns false'. Refute it at one input. -/
def modeOneReadingWrong : ChangeSpec := { name := "modeOneReading", fn := fun _ => fun
  | [d1, d2] => { results := [.lit (.bool false)], args := [d1, d2] }
  | _ => none }
def ModeOneReadingWrongFalsely : Prop := modeOneReadingRow.holds Tryd.pinned (OpenSpec.ofChange modeOneReadingWrong)

/-- 'henkanlaw07.ModeShows': WHATEVER THE INPUT: true; the input reads as it did. -/
def modeShowsSpec : ChangeSpec := { name := "modeShows", fn := fun _ => fun
  | [d1, d2] => { results := [.lit (.bool true)], args := [d1, d2] }
  | _ => none }
def modeShowsRow : OpenClaim := { program := "ythhiillmodacmaadoor", sum := "8f58835419dcb718f41f733d1917a766cfcda08a3d858b2bc923395aedeb8110", func := "henkan/henkanlaw07.ModeShows", spec := "modeShows", inPlace := ["internal/abi.NoEscape", "internal/bytealg.MakeNoZero"], unfollowed := true, recurses := true, named := ["unicode/utf8.first", "unicode/utf8.acceptRanges", "henkan/mode.toggles"], apart := false, laid := [("unicode/utf8.acceptRanges", laid_unicode_utf8_acceptRanges), ("henkan/mode.toggles", laid_henkan_mode_toggles), ("unicode/utf8.first", laid_unicode_utf8_first)] }
def ModeShowsSaid : Prop := modeShowsRow.holds Tryd.pinned (OpenSpec.ofChange modeShowsSpec)

/-- ITS FALSE NEIGHBOUR: 'it returns false'. Refute it at one input. -/
def modeShowsWrong : ChangeSpec := { name := "modeShows", fn := fun _ => fun
  | [d1, d2] => { results := [.lit (.bool false)], args := [d1, d2] }
  | _ => none }
def ModeShowsWrongFalsely : Prop := modeShowsRow.holds Tryd.pinned (OpenSpec.ofChange modeShowsWrong)

/-- 'henkanlaw07.ModeToggles': WHATEVER THE INPUT: true; the input reads as it did. -/
def modeTogglesSpec : ChangeSpec := { name := "modeToggles", fn := fun _ => fun
  | [d1, d2] => { results := [.lit (.bool true)], args := [d1, d2] }
  | _ => none }
def modeTogglesRow : OpenClaim := { program := "ythhiillmodacmaadoor", sum := "8f58835419dcb718f41f733d1917a766cfcda08a3d858b2bc923395aedeb8110", func := "henkan/henkanlaw07.ModeToggles", spec := "modeToggles", inPlace := ["internal/abi.NoEscape", "internal/bytealg.MakeNoZero"], unfollowed := true, recurses := true, named := ["henkan/mode.toggles", "unicode/utf8.first", "unicode/utf8.acceptRanges"], apart := false, laid := [("unicode/utf8.acceptRanges", laid_unicode_utf8_acceptRanges), ("henkan/mode.toggles", laid_henkan_mode_toggles), ("unicode/utf8.first", laid_unicode_utf8_first)] }
def ModeTogglesSaid : Prop := modeTogglesRow.holds Tryd.pinned (OpenSpec.ofChange modeTogglesSpec)

/-- ITS FALSE NEIGHBOUR: 'it returns false'. Refute it at one input. -/
def modeTogglesWrong : ChangeSpec := { name := "modeToggles", fn := fun _ => fun
  | [d1, d2] => { results := [.lit (.bool false)], args := [d1, d2] }
  | _ => none }
def ModeTogglesWrongFalsely : Prop := modeTogglesRow.holds Tryd.pinned (OpenSpec.ofChange modeTogglesWrong)

/-- 'henkanlaw07.ModeChars': WHATEVER THE INPUT: true; the input reads as it did. -/
def modeCharsSpec : ChangeSpec := { name := "modeChars", fn := fun _ => fun
  | [d1, d2] => { results := [.lit (.bool true)], args := [d1, d2] }
  | _ => none }
def modeCharsRow : OpenClaim := { program := "ythhiillmodacmaadoor", sum := "8f58835419dcb718f41f733d1917a766cfcda08a3d858b2bc923395aedeb8110", func := "henkan/henkanlaw07.ModeChars", spec := "modeChars", inPlace := ["internal/abi.NoEscape", "internal/bytealg.MakeNoZero"], unfollowed := true, recurses := true, named := ["unicode/utf8.first", "unicode/utf8.acceptRanges", "henkan/mode.toggles"], apart := false, laid := [("unicode/utf8.acceptRanges", laid_unicode_utf8_acceptRanges), ("henkan/mode.toggles", laid_henkan_mode_toggles), ("unicode/utf8.first", laid_unicode_utf8_first)] }
def ModeCharsSaid : Prop := modeCharsRow.holds Tryd.pinned (OpenSpec.ofChange modeCharsSpec)

/-- ITS FALSE NEIGHBOUR: 'it returns false'. Refute it at one input. -/
def modeCharsWrong : ChangeSpec := { name := "modeChars", fn := fun _ => fun
  | [d1, d2] => { results := [.lit (.bool false)], args := [d1, d2] }
  | _ => none }
def ModeCharsWrongFalsely : Prop := modeCharsRow.holds Tryd.pinned (OpenSpec.ofChange modeCharsWrong)

/-- 'henkanlaw07.ModeForms': WHATEVER THE INPUT: true; the input reads as it did. -/
def modeFormsSpec : ChangeSpec := { name := "modeForms", fn := fun _ => fun
  | [d1, d2, d3] => { results := [.lit (.bool true)], args := [d1, d2, d3] }
  | _ => none }
def modeFormsRow : OpenClaim := { program := "ythhiillmodacmaadoor", sum := "8f58835419dcb718f41f733d1917a766cfcda08a3d858b2bc923395aedeb8110", func := "henkan/henkanlaw07.ModeForms", spec := "modeForms", inPlace := ["internal/abi.NoEscape", "internal/bytealg.MakeNoZero"], unfollowed := true, recurses := true, named := ["unicode/utf8.first", "unicode/utf8.acceptRanges", "henkan/mode.toggles"], apart := false, laid := [("unicode/utf8.acceptRanges", laid_unicode_utf8_acceptRanges), ("henkan/mode.toggles", laid_henkan_mode_toggles), ("unicode/utf8.first", laid_unicode_utf8_first)] }
def ModeFormsSaid : Prop := modeFormsRow.holds Tryd.pinned (OpenSpec.ofChange modeFormsSpec)

/-- ITS FALSE NEIGHBOUR: 'it returns false'. Refute it at one input. -/
def modeFormsWrong : ChangeSpec := { name := "modeForms", fn := fun _ => fun
  | [d1, d2, d3] => { results := [.lit (.bool false)], args := [d1, d2, d3] }
  | _ => none }
def ModeFormsWrongFalsely : Prop := modeFormsRow.holds Tryd.pinned (OpenSpec.ofChange modeFormsWrong)

/-- 'henkanlaw07.ModeBack': WHATEVER THE INPUT: true; the input reads as it did. -/
def modeBackSpec : ChangeSpec := { name := "modeBack", fn := fun _ => fun
  | [d1, d2] => { results := [.lit (.bool true)], args := [d1, d2] }
  | _ => none }
def modeBackRow : OpenClaim := { program := "ythhiillmodacmaadoor", sum := "8f58835419dcb718f41f733d1917a766cfcda08a3d858b2bc923395aedeb8110", func := "henkan/henkanlaw07.ModeBack", spec := "modeBack", inPlace := ["internal/abi.NoEscape", "internal/bytealg.MakeNoZero"], unfollowed := true, recurses := true, named := ["henkan/mode.toggles", "unicode/utf8.first", "unicode/utf8.acceptRanges"], apart := false, laid := [("unicode/utf8.acceptRanges", laid_unicode_utf8_acceptRanges), ("henkan/mode.toggles", laid_henkan_mode_toggles), ("unicode/utf8.first", laid_unicode_utf8_first)] }
def ModeBackSaid : Prop := modeBackRow.holds Tryd.pinned (OpenSpec.ofChange modeBackSpec)

/-- ITS FALSE NEIGHBOUR: 'it returns false'. Refute it at one input. -/
def modeBackWrong : ChangeSpec := { name := "modeBack", fn := fun _ => fun
  | [d1, d2] => { results := [.lit (.bool false)], args := [d1, d2] }
  | _ => none }
def ModeBackWrongFalsely : Prop := modeBackRow.holds Tryd.pinned (OpenSpec.ofChange modeBackWrong)

/-- 'henkanlaw07.ModeLetters': WHATEVER THE INPUT: true; the input reads as it did. -/
def modeLettersSpec : ChangeSpec := { name := "modeLetters", fn := fun _ => fun
  | [d] => { results := [.lit (.bool true)], args := [d] }
  | _ => none }
def modeLettersRow : OpenClaim := { program := "ythhiillmodacmaadoor", sum := "8f58835419dcb718f41f733d1917a766cfcda08a3d858b2bc923395aedeb8110", func := "henkan/henkanlaw07.ModeLetters", spec := "modeLetters", inPlace := ["internal/abi.NoEscape", "internal/bytealg.MakeNoZero"], unfollowed := true, recurses := true, named := ["unicode/utf8.first", "unicode/utf8.acceptRanges", "henkan/mode.toggles"], apart := false, laid := [("unicode/utf8.acceptRanges", laid_unicode_utf8_acceptRanges), ("henkan/mode.toggles", laid_henkan_mode_toggles), ("unicode/utf8.first", laid_unicode_utf8_first)] }
def ModeLettersSaid : Prop := modeLettersRow.holds Tryd.pinned (OpenSpec.ofChange modeLettersSpec)

/-- ITS FALSE NEIGHBOUR: 'it returns false'. Refute it at one input. -/
def modeLettersWrong : ChangeSpec := { name := "modeLetters", fn := fun _ => fun
  | [d] => { results := [.lit (.bool false)], args := [d] }
  | _ => none }
def ModeLettersWrongFalsely : Prop := modeLettersRow.holds Tryd.pinned (OpenSpec.ofChange modeLettersWrong)

/-- 'henkanlaw07.ModeKnown': WHATEVER THE INPUT: true; the input reads as it did. -/
def modeKnownSpec : ChangeSpec := { name := "modeKnown", fn := fun _ => fun
  | [] => { results := [.lit (.bool true)], args := [] }
  | _ => none }
def modeKnownRow : OpenClaim := { program := "ythhiillmodacmaadoor", sum := "8f58835419dcb718f41f733d1917a766cfcda08a3d858b2bc923395aedeb8110", func := "henkan/henkanlaw07.ModeKnown", spec := "modeKnown", inPlace := ["internal/abi.NoEscape", "internal/bytealg.MakeNoZero"], unfollowed := true, recurses := true, named := ["henkan/mode.toggles", "unicode/utf8.first", "unicode/utf8.acceptRanges"], apart := false, laid := [("unicode/utf8.acceptRanges", laid_unicode_utf8_acceptRanges), ("henkan/mode.toggles", laid_henkan_mode_toggles), ("unicode/utf8.first", laid_unicode_utf8_first)] }
def ModeKnownSaid : Prop := modeKnownRow.holds Tryd.pinned (OpenSpec.ofChange modeKnownSpec)

/-- ITS FALSE NEIGHBOUR: 'it returns false'. Refute it at one input. -/
def modeKnownWrong : ChangeSpec := { name := "modeKnown", fn := fun _ => fun
  | [] => { results := [.lit (.bool false)], args := [] }
  | _ => none }
def ModeKnownWrongFalsely : Prop := modeKnownRow.holds Tryd.pinned (OpenSpec.ofChange modeKnownWrong)

/- THE SECOND FORM. 'bulk': how many values and letters a reading holds, each counted each time it is reached (what is shared counts as often as it is met; a slice's spare places count too). A statement '..UptoSaid' is the law's where the arguments, and the package variables that the reading takes, are together of bulk at most 1048576: NARROWER than '..Said'. Prove '..Said' where nothing that the law and all that it calls make is longer than what came in: it says more and counts as full. Else prove '..UptoSaid'. A law counts once. -/
mutual
def uptoBulk {H : Type} : DataW H → Nat
  | .lit (.string bytes) => bytes.length + 1
  | .lit _ => 1
  | .nil => 1
  | .ptr d => uptoBulk d + 1
  | .slice elems spare => uptoBulkAll elems + uptoBulkAll spare + 1
  | .agg parts => uptoBulkAll parts + 1
  | .iface _ d => uptoBulk d + 1
  | .map entries => uptoBulkEntries entries + 1
  | .held _ => 1
def uptoBulkAll {H : Type} : List (DataW H) → Nat
  | [] => 0
  | d :: r => uptoBulk d + uptoBulkAll r
def uptoBulkEntries {H : Type} : List (Lit × DataW H) → Nat
  | [] => 0
  | x :: r => uptoBulkEntry x + uptoBulkEntries r
def uptoBulkEntry {H : Type} : Lit × DataW H → Nat
  | (.string bytes, d) => bytes.length + uptoBulk d + 1
  | (_, d) => uptoBulk d + 1
 end
def uptoSmall : (H : Type) → List (DataW H) → Bool := fun _ ds => decide (uptoBulkAll ds ≤ 1048576)
def OpenSpec.upto (s : _root_.Go.ChangeSpec) : _root_.Go.OpenSpec := { _root_.Go.OpenSpec.ofChange s with cond := some uptoSmall }

/-- 'henkanlaw07.ModeOneReading', WHERE WHAT IT READS IS OF BULK AT MOST 1048576: true; the input reads as it did. -/
def modeOneReadingUptoRow : OpenClaim := { program := "ythhiillmodacmaadoor", sum := "8f58835419dcb718f41f733d1917a766cfcda08a3d858b2bc923395aedeb8110", func := "henkan/henkanlaw07.ModeOneReading", spec := "modeOneReading", inPlace := ["internal/abi.NoEscape", "internal/bytealg.MakeNoZero"], unfollowed := true, recurses := true, named := ["unicode/utf8.first", "unicode/utf8.acceptRanges", "henkan/mode.toggles"], apart := false, laid := [("unicode/utf8.acceptRanges", laid_unicode_utf8_acceptRanges), ("henkan/mode.toggles", laid_henkan_mode_toggles), ("unicode/utf8.first", laid_unicode_utf8_first)], narrowed := true }
def ModeOneReadingUptoSaid : Prop := modeOneReadingUptoRow.holds Tryd.pinned (OpenSpec.upto modeOneReadingSpec)

/-- 'henkanlaw07.ModeShows', WHERE WHAT IT READS IS OF BULK AT MOST 1048576: true; the input reads as it did. -/
def modeShowsUptoRow : OpenClaim := { program := "ythhiillmodacmaadoor", sum := "8f58835419dcb718f41f733d1917a766cfcda08a3d858b2bc923395aedeb8110", func := "henkan/henkanlaw07.ModeShows", spec := "modeShows", inPlace := ["internal/abi.NoEscape", "internal/bytealg.MakeNoZero"], unfollowed := true, recurses := true, named := ["unicode/utf8.first", "unicode/utf8.acceptRanges", "henkan/mode.toggles"], apart := false, laid := [("unicode/utf8.acceptRanges", laid_unicode_utf8_acceptRanges), ("henkan/mode.toggles", laid_henkan_mode_toggles), ("unicode/utf8.first", laid_unicode_utf8_first)], narrowed := true }
def ModeShowsUptoSaid : Prop := modeShowsUptoRow.holds Tryd.pinned (OpenSpec.upto modeShowsSpec)

/-- 'henkanlaw07.ModeToggles', WHERE WHAT IT READS IS OF BULK AT MOST 1048576: true; the input reads as it did. -/
def modeTogglesUptoRow : OpenClaim := { program := "ythhiillmodacmaadoor", sum := "8f58835419dcb718f41f733d1917a766cfcda08a3d858b2bc923395aedeb8110", func := "henkan/henkanlaw07.ModeToggles", spec := "modeToggles", inPlace := ["internal/abi.NoEscape", "internal/bytealg.MakeNoZero"], unfollowed := true, recurses := true, named := ["henkan/mode.toggles", "unicode/utf8.first", "unicode/utf8.acceptRanges"], apart := false, laid := [("unicode/utf8.acceptRanges", laid_unicode_utf8_acceptRanges), ("henkan/mode.toggles", laid_henkan_mode_toggles), ("unicode/utf8.first", laid_unicode_utf8_first)], narrowed := true }
def ModeTogglesUptoSaid : Prop := modeTogglesUptoRow.holds Tryd.pinned (OpenSpec.upto modeTogglesSpec)

/-- 'henkanlaw07.ModeChars', WHERE WHAT IT READS IS OF BULK AT MOST 1048576: true; the input reads as it did. -/
def modeCharsUptoRow : OpenClaim := { program := "ythhiillmodacmaadoor", sum := "8f58835419dcb718f41f733d1917a766cfcda08a3d858b2bc923395aedeb8110", func := "henkan/henkanlaw07.ModeChars", spec := "modeChars", inPlace := ["internal/abi.NoEscape", "internal/bytealg.MakeNoZero"], unfollowed := true, recurses := true, named := ["unicode/utf8.first", "unicode/utf8.acceptRanges", "henkan/mode.toggles"], apart := false, laid := [("unicode/utf8.acceptRanges", laid_unicode_utf8_acceptRanges), ("henkan/mode.toggles", laid_henkan_mode_toggles), ("unicode/utf8.first", laid_unicode_utf8_first)], narrowed := true }
def ModeCharsUptoSaid : Prop := modeCharsUptoRow.holds Tryd.pinned (OpenSpec.upto modeCharsSpec)

/-- 'henkanlaw07.ModeForms', WHERE WHAT IT READS IS OF BULK AT MOST 1048576: true; the input reads as it did. -/
def modeFormsUptoRow : OpenClaim := { program := "ythhiillmodacmaadoor", sum := "8f58835419dcb718f41f733d1917a766cfcda08a3d858b2bc923395aedeb8110", func := "henkan/henkanlaw07.ModeForms", spec := "modeForms", inPlace := ["internal/abi.NoEscape", "internal/bytealg.MakeNoZero"], unfollowed := true, recurses := true, named := ["unicode/utf8.first", "unicode/utf8.acceptRanges", "henkan/mode.toggles"], apart := false, laid := [("unicode/utf8.acceptRanges", laid_unicode_utf8_acceptRanges), ("henkan/mode.toggles", laid_henkan_mode_toggles), ("unicode/utf8.first", laid_unicode_utf8_first)], narrowed := true }
def ModeFormsUptoSaid : Prop := modeFormsUptoRow.holds Tryd.pinned (OpenSpec.upto modeFormsSpec)

/-- 'henkanlaw07.ModeBack', WHERE WHAT IT READS IS OF BULK AT MOST 1048576: true; the input reads as it did. -/
def modeBackUptoRow : OpenClaim := { program := "ythhiillmodacmaadoor", sum := "8f58835419dcb718f41f733d1917a766cfcda08a3d858b2bc923395aedeb8110", func := "henkan/henkanlaw07.ModeBack", spec := "modeBack", inPlace := ["internal/abi.NoEscape", "internal/bytealg.MakeNoZero"], unfollowed := true, recurses := true, named := ["henkan/mode.toggles", "unicode/utf8.first", "unicode/utf8.acceptRanges"], apart := false, laid := [("unicode/utf8.acceptRanges", laid_unicode_utf8_acceptRanges), ("henkan/mode.toggles", laid_henkan_mode_toggles), ("unicode/utf8.first", laid_unicode_utf8_first)], narrowed := true }
def ModeBackUptoSaid : Prop := modeBackUptoRow.holds Tryd.pinned (OpenSpec.upto modeBackSpec)

/-- 'henkanlaw07.ModeLetters', WHERE WHAT IT READS IS OF BULK AT MOST 1048576: true; the input reads as it did. -/
def modeLettersUptoRow : OpenClaim := { program := "ythhiillmodacmaadoor", sum := "8f58835419dcb718f41f733d1917a766cfcda08a3d858b2bc923395aedeb8110", func := "henkan/henkanlaw07.ModeLetters", spec := "modeLetters", inPlace := ["internal/abi.NoEscape", "internal/bytealg.MakeNoZero"], unfollowed := true, recurses := true, named := ["unicode/utf8.first", "unicode/utf8.acceptRanges", "henkan/mode.toggles"], apart := false, laid := [("unicode/utf8.acceptRanges", laid_unicode_utf8_acceptRanges), ("henkan/mode.toggles", laid_henkan_mode_toggles), ("unicode/utf8.first", laid_unicode_utf8_first)], narrowed := true }
def ModeLettersUptoSaid : Prop := modeLettersUptoRow.holds Tryd.pinned (OpenSpec.upto modeLettersSpec)

/-- 'henkanlaw07.ModeKnown', WHERE WHAT IT READS IS OF BULK AT MOST 1048576: true; the input reads as it did. -/
def modeKnownUptoRow : OpenClaim := { program := "ythhiillmodacmaadoor", sum := "8f58835419dcb718f41f733d1917a766cfcda08a3d858b2bc923395aedeb8110", func := "henkan/henkanlaw07.ModeKnown", spec := "modeKnown", inPlace := ["internal/abi.NoEscape", "internal/bytealg.MakeNoZero"], unfollowed := true, recurses := true, named := ["henkan/mode.toggles", "unicode/utf8.first", "unicode/utf8.acceptRanges"], apart := false, laid := [("unicode/utf8.acceptRanges", laid_unicode_utf8_acceptRanges), ("henkan/mode.toggles", laid_henkan_mode_toggles), ("unicode/utf8.first", laid_unicode_utf8_first)], narrowed := true }
def ModeKnownUptoSaid : Prop := modeKnownUptoRow.holds Tryd.pinned (OpenSpec.upto modeKnownSpec)

end Rows
end Go.Proofs.YthhiillmodacmaaDoor
