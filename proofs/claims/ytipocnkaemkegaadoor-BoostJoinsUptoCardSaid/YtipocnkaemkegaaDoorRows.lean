/-
  NARROWER THAN 'FOR EVERY INPUT', by the rows' own cells (each row's printed sentence says how): BoostBonus: laid · BoostLearned: laid · BoostPairs: laid · BoostOrder: laid · BoostDoubles: laid · BoostJoins: laid · BoostKnown: laid.
  DERIVED. THE GIVEN ROWS OF THIS SEAT. 7 by the template 'for every input the law returns true; each argument reads behind the call as it read before'; 0 by the template 'total and deterministic' (their statements: YtipocnkaemkegaaDoorTotals.lean).
  GIVEN WITH THE SEED: the statements are not yours to turn. If you find one false, say at which input.
  Laid BY PROGRAM, IN A SANDBOX (cutbox-rows.mjs): the forced cells as the released guide's own fill.sh prints them over the translation 3e5ad0724b38e24f… (all of the seat's roots in one cut). By AI agents, Wed Nov 11 2026. No macro, syntax, notation, axiom, sorry.
-/
import Derived.Test.YtipocnkaemkegaaDoorChecked
import GoSem.PinnedTables
import GoSem.Claim
import GoSem.ClaimJoined
import GoSem.ClaimMapViews
import Derived.JoinedTies
import Derived.KernelRfl
namespace Go.Proofs.YtipocnkaemkegaaDoor
/- THE CELL 'sum', in the pinned program and in every row, IS THE sha256 OF THE DUMP (.gsa) THAT YtipocnkaemkegaaDoorProg.lean LOADS. Nothing in Lean hashes anything: it is a label: what it is worth is what the hold of that sum in a sandbox is worth. -/
noncomputable def Tryd.pinned : Pinned := { name := "ytipocnkaemkegaadoor", sum := "3e5ad0724b38e24fea74eaee3488b49273e9e393d0a90c063679c1b4f93e6c33", checked := Tryd.checked }
namespace Rows
def none {H : Type} : Left H := { results := [], args := [] }

/- WHAT THE LISTED PACKAGE-LEVEL VARIABLES READ AS WHEN THE CALL BEGINS. Each datum BY PROGRAM (the guide's laid-datum.mjs) off the statement by which the dump's own 'gosem.cut.vars' lays the variable. In a bare row this is a premise. The card (YtipocnkaemkegaaDoorCards.lean) ties it to the program's text. -/
def laid_unicode_utf8_acceptRanges {H : Type} : DataW H := .agg [.agg [.lit (.int .u8 128), .lit (.int .u8 191)], .agg [.lit (.int .u8 160), .lit (.int .u8 191)], .agg [.lit (.int .u8 128), .lit (.int .u8 159)], .agg [.lit (.int .u8 144), .lit (.int .u8 191)], .agg [.lit (.int .u8 128), .lit (.int .u8 143)], .agg [.lit (.int .u8 0), .lit (.int .u8 0)], .agg [.lit (.int .u8 0), .lit (.int .u8 0)], .agg [.lit (.int .u8 0), .lit (.int .u8 0)], .agg [.lit (.int .u8 0), .lit (.int .u8 0)], .agg [.lit (.int .u8 0), .lit (.int .u8 0)], .agg [.lit (.int .u8 0), .lit (.int .u8 0)], .agg [.lit (.int .u8 0), .lit (.int .u8 0)], .agg [.lit (.int .u8 0), .lit (.int .u8 0)], .agg [.lit (.int .u8 0), .lit (.int .u8 0)], .agg [.lit (.int .u8 0), .lit (.int .u8 0)], .agg [.lit (.int .u8 0), .lit (.int .u8 0)]]
/-- One of Go's own tables, pinned by name: the form's constant. -/
def laid_unicode_utf8_first : DataW Unit := Go.Pinned.utf8First

/-- 'henkanlaw32.BoostBonus': WHATEVER THE INPUT: true; the input reads as it did. -/
def boostBonusSpec : ChangeSpec := { name := "boostBonus", fn := fun _ => fun
  | [d] => { results := [.lit (.bool true)], args := [d] }
  | _ => none }
def boostBonusRow : OpenClaim := { program := "ytipocnkaemkegaadoor", sum := "3e5ad0724b38e24fea74eaee3488b49273e9e393d0a90c063679c1b4f93e6c33", func := "henkan/henkanlaw32.BoostBonus", spec := "boostBonus", inPlace := ["internal/bytealg.IndexByteString", "internal/bytealg.IndexString"], unfollowed := true, recurses := true, named := ["internal/bytealg.MaxLen", "unicode/utf8.first", "unicode/utf8.acceptRanges"], apart := false, laid := [("unicode/utf8.acceptRanges", laid_unicode_utf8_acceptRanges), ("unicode/utf8.first", laid_unicode_utf8_first)] }
def BoostBonusSaid : Prop := boostBonusRow.holds Tryd.pinned (OpenSpec.ofChange boostBonusSpec)

/-- ITS FALSE NEIGHBOUR: 'it returns false'. Refute it at one input. -/
def boostBonusWrong : ChangeSpec := { name := "boostBonus", fn := fun _ => fun
  | [d] => { results := [.lit (.bool false)], args := [d] }
  | _ => none }
def BoostBonusWrongFalsely : Prop := boostBonusRow.holds Tryd.pinned (OpenSpec.ofChange boostBonusWrong)

/-- 'henkanlaw32.BoostLearned': WHATEVER THE INPUT: true; the input reads as it did. -/
def boostLearnedSpec : ChangeSpec := { name := "boostLearned", fn := fun _ => fun
  | [d] => { results := [.lit (.bool true)], args := [d] }
  | _ => none }
def boostLearnedRow : OpenClaim := { program := "ytipocnkaemkegaadoor", sum := "3e5ad0724b38e24fea74eaee3488b49273e9e393d0a90c063679c1b4f93e6c33", func := "henkan/henkanlaw32.BoostLearned", spec := "boostLearned", inPlace := ["internal/bytealg.IndexByteString", "internal/bytealg.IndexString"], unfollowed := true, recurses := true, named := ["internal/bytealg.MaxLen", "unicode/utf8.first", "unicode/utf8.acceptRanges"], apart := false, laid := [("unicode/utf8.acceptRanges", laid_unicode_utf8_acceptRanges), ("unicode/utf8.first", laid_unicode_utf8_first)] }
def BoostLearnedSaid : Prop := boostLearnedRow.holds Tryd.pinned (OpenSpec.ofChange boostLearnedSpec)

/-- ITS FALSE NEIGHBOUR: 'it returns false'. Refute it at one input. -/
def boostLearnedWrong : ChangeSpec := { name := "boostLearned", fn := fun _ => fun
  | [d] => { results := [.lit (.bool false)], args := [d] }
  | _ => none }
def BoostLearnedWrongFalsely : Prop := boostLearnedRow.holds Tryd.pinned (OpenSpec.ofChange boostLearnedWrong)

/-- 'henkanlaw32.BoostPairs': WHATEVER THE INPUT: true; the input reads as it did. -/
def boostPairsSpec : ChangeSpec := { name := "boostPairs", fn := fun _ => fun
  | [d] => { results := [.lit (.bool true)], args := [d] }
  | _ => none }
def boostPairsRow : OpenClaim := { program := "ytipocnkaemkegaadoor", sum := "3e5ad0724b38e24fea74eaee3488b49273e9e393d0a90c063679c1b4f93e6c33", func := "henkan/henkanlaw32.BoostPairs", spec := "boostPairs", inPlace := ["internal/bytealg.IndexByteString", "internal/bytealg.IndexString"], unfollowed := true, recurses := true, named := ["internal/bytealg.MaxLen", "unicode/utf8.first", "unicode/utf8.acceptRanges"], apart := false, laid := [("unicode/utf8.acceptRanges", laid_unicode_utf8_acceptRanges), ("unicode/utf8.first", laid_unicode_utf8_first)] }
def BoostPairsSaid : Prop := boostPairsRow.holds Tryd.pinned (OpenSpec.ofChange boostPairsSpec)

/-- ITS FALSE NEIGHBOUR: 'it returns false'. Refute it at one input. -/
def boostPairsWrong : ChangeSpec := { name := "boostPairs", fn := fun _ => fun
  | [d] => { results := [.lit (.bool false)], args := [d] }
  | _ => none }
def BoostPairsWrongFalsely : Prop := boostPairsRow.holds Tryd.pinned (OpenSpec.ofChange boostPairsWrong)

/-- 'henkanlaw32.BoostOrder': WHATEVER THE INPUT: true; the input reads as it did. -/
def boostOrderSpec : ChangeSpec := { name := "boostOrder", fn := fun _ => fun
  | [d1, d2] => { results := [.lit (.bool true)], args := [d1, d2] }
  | _ => none }
def boostOrderRow : OpenClaim := { program := "ytipocnkaemkegaadoor", sum := "3e5ad0724b38e24fea74eaee3488b49273e9e393d0a90c063679c1b4f93e6c33", func := "henkan/henkanlaw32.BoostOrder", spec := "boostOrder", inPlace := ["internal/bytealg.IndexByteString", "internal/bytealg.IndexString"], unfollowed := true, recurses := true, named := ["internal/bytealg.MaxLen", "unicode/utf8.first", "unicode/utf8.acceptRanges"], apart := false, laid := [("unicode/utf8.acceptRanges", laid_unicode_utf8_acceptRanges), ("unicode/utf8.first", laid_unicode_utf8_first)] }
def BoostOrderSaid : Prop := boostOrderRow.holds Tryd.pinned (OpenSpec.ofChange boostOrderSpec)

/-- ITS FALSE NEIGHBOUR: 'it returns false'. Refute it at one input. -/
def boostOrderWrong : ChangeSpec := { name := "boostOrder", fn := fun _ => fun
  | [d1, d2] => { results := [.lit (.bool false)], args := [d1, d2] }
  | _ => none }
def BoostOrderWrongFalsely : Prop := boostOrderRow.holds Tryd.pinned (OpenSpec.ofChange boostOrderWrong)

/-- 'henkanlaw32.BoostDoubles': WHATEVER THE INPUT: true; the input reads as it did. -/
def boostDoublesSpec : ChangeSpec := { name := "boostDoubles", fn := fun _ => fun
  | [d] => { results := [.lit (.bool true)], args := [d] }
  | _ => none }
def boostDoublesRow : OpenClaim := { program := "ytipocnkaemkegaadoor", sum := "3e5ad0724b38e24fea74eaee3488b49273e9e393d0a90c063679c1b4f93e6c33", func := "henkan/henkanlaw32.BoostDoubles", spec := "boostDoubles", inPlace := ["internal/bytealg.IndexByteString", "internal/bytealg.IndexString"], unfollowed := true, recurses := true, named := ["internal/bytealg.MaxLen", "unicode/utf8.first", "unicode/utf8.acceptRanges"], apart := false, laid := [("unicode/utf8.acceptRanges", laid_unicode_utf8_acceptRanges), ("unicode/utf8.first", laid_unicode_utf8_first)] }
def BoostDoublesSaid : Prop := boostDoublesRow.holds Tryd.pinned (OpenSpec.ofChange boostDoublesSpec)

/-- ITS FALSE NEIGHBOUR: 'it returns false'. Refute it at one input. -/
def boostDoublesWrong : ChangeSpec := { name := "boostDoubles", fn := fun _ => fun
  | [d] => { results := [.lit (.bool false)], args := [d] }
  | _ => none }
def BoostDoublesWrongFalsely : Prop := boostDoublesRow.holds Tryd.pinned (OpenSpec.ofChange boostDoublesWrong)

/-- 'henkanlaw32.BoostJoins': WHATEVER THE INPUT: true; the input reads as it did. -/
def boostJoinsSpec : ChangeSpec := { name := "boostJoins", fn := fun _ => fun
  | [d1, d2] => { results := [.lit (.bool true)], args := [d1, d2] }
  | _ => none }
def boostJoinsRow : OpenClaim := { program := "ytipocnkaemkegaadoor", sum := "3e5ad0724b38e24fea74eaee3488b49273e9e393d0a90c063679c1b4f93e6c33", func := "henkan/henkanlaw32.BoostJoins", spec := "boostJoins", inPlace := ["internal/bytealg.IndexByteString", "internal/bytealg.IndexString"], unfollowed := true, recurses := true, named := ["internal/bytealg.MaxLen", "unicode/utf8.first", "unicode/utf8.acceptRanges"], apart := false, laid := [("unicode/utf8.acceptRanges", laid_unicode_utf8_acceptRanges), ("unicode/utf8.first", laid_unicode_utf8_first)] }
def BoostJoinsSaid : Prop := boostJoinsRow.holds Tryd.pinned (OpenSpec.ofChange boostJoinsSpec)

/-- ITS FALSE NEIGHBOUR: 'it returns false'. Refute it at one input. -/
def boostJoinsWrong : ChangeSpec := { name := "boostJoins", fn := fun _ => fun
  | [d1, d2] => { results := [.lit (.bool false)], args := [d1, d2] }
  | _ => none }
def BoostJoinsWrongFalsely : Prop := boostJoinsRow.holds Tryd.pinned (OpenSpec.ofChange boostJoinsWrong)

/-- 'henkanlaw32.BoostKnown': WHATEVER THE INPUT: true; the input reads as it did. -/
def boostKnownSpec : ChangeSpec := { name := "boostKnown", fn := fun _ => fun
  | [] => { results := [.lit (.bool true)], args := [] }
  | _ => none }
def boostKnownRow : OpenClaim := { program := "ytipocnkaemkegaadoor", sum := "3e5ad0724b38e24fea74eaee3488b49273e9e393d0a90c063679c1b4f93e6c33", func := "henkan/henkanlaw32.BoostKnown", spec := "boostKnown", inPlace := ["internal/bytealg.IndexByteString", "internal/bytealg.IndexString"], unfollowed := true, recurses := true, named := ["internal/bytealg.MaxLen", "unicode/utf8.first", "unicode/utf8.acceptRanges"], apart := false, laid := [("unicode/utf8.acceptRanges", laid_unicode_utf8_acceptRanges), ("unicode/utf8.first", laid_unicode_utf8_first)] }
def BoostKnownSaid : Prop := boostKnownRow.holds Tryd.pinned (OpenSpec.ofChange boostKnownSpec)

/-- ITS FALSE NEIGHBOUR: 'it returns false'. Refute it at one input. -/
def boostKnownWrong : ChangeSpec := { name := "boostKnown", fn := fun _ => fun
  | [] => { results := [.lit (.bool false)], args := [] }
  | _ => none }
def BoostKnownWrongFalsely : Prop := boostKnownRow.holds Tryd.pinned (OpenSpec.ofChange boostKnownWrong)

/- THE SECOND FORM. 'bulk': how many values and letters a reading holds, each counted each time it is reached (what is shared counts as often as it is met; a slice's spare places count too). A statement '..UptoSaid' is the law's where the arguments, and the package variables that the reading takes, are together of bulk at most 1048576: NARROWER than '..Said'. Prove '..Said' where nothing that the law and all that it calls make is longer than what came in: it says more and counts as full. Else prove '..UptoSaid'. A law counts once. -/
mutual
def uptoBulk {H : Type} : DataW H → Nat
  | .lit (.string bytes) => bytes.length + 1
  | .lit _ => 1
  | .nil => 1
  | .ptr d => uptoBulk d + 1
  | .slice elems spare => uptoBulkAll elems + uptoBulkAll spare + 1
  | .agg parts => uptoBulkAll parts + 1
  | .iface _ d => uptoBulk d + 1
  | .map entries => uptoBulkEntries entries + 1
  | .held _ => 1
def uptoBulkAll {H : Type} : List (DataW H) → Nat
  | [] => 0
  | d :: r => uptoBulk d + uptoBulkAll r
def uptoBulkEntries {H : Type} : List (Lit × DataW H) → Nat
  | [] => 0
  | x :: r => uptoBulkEntry x + uptoBulkEntries r
def uptoBulkEntry {H : Type} : Lit × DataW H → Nat
  | (.string bytes, d) => bytes.length + uptoBulk d + 1
  | (_, d) => uptoBulk d + 1
 end
def uptoSmall : (H : Type) → List (DataW H) → Bool := fun _ ds => decide (uptoBulkAll ds ≤ 1048576)
def OpenSpec.upto (s : _root_.Go.ChangeSpec) : _root_.Go.OpenSpec := { _root_.Go.OpenSpec.ofChange s with cond := some uptoSmall }

/-- 'henkanlaw32.BoostBonus', WHERE WHAT IT READS IS OF BULK AT MOST 1048576: true; the input reads as it did. -/
def boostBonusUptoRow : OpenClaim := { program := "ytipocnkaemkegaadoor", sum := "3e5ad0724b38e24fea74eaee3488b49273e9e393d0a90c063679c1b4f93e6c33", func := "henkan/henkanlaw32.BoostBonus", spec := "boostBonus", inPlace := ["internal/bytealg.IndexByteString", "internal/bytealg.IndexString"], unfollowed := true, recurses := true, named := ["internal/bytealg.MaxLen", "unicode/utf8.first", "unicode/utf8.acceptRanges"], apart := false, laid := [("unicode/utf8.acceptRanges", laid_unicode_utf8_acceptRanges), ("unicode/utf8.first", laid_unicode_utf8_first)], narrowed := true }
def BoostBonusUptoSaid : Prop := boostBonusUptoRow.holds Tryd.pinned (OpenSpec.upto boostBonusSpec)

/-- 'henkanlaw32.BoostLearned', WHERE WHAT IT READS IS OF BULK AT MOST 1048576: true; the input reads as it did. -/
def boostLearnedUptoRow : OpenClaim := { program := "ytipocnkaemkegaadoor", sum := "3e5ad0724b38e24fea74eaee3488b49273e9e393d0a90c063679c1b4f93e6c33", func := "henkan/henkanlaw32.BoostLearned", spec := "boostLearned", inPlace := ["internal/bytealg.IndexByteString", "internal/bytealg.IndexString"], unfollowed := true, recurses := true, named := ["internal/bytealg.MaxLen", "unicode/utf8.first", "unicode/utf8.acceptRanges"], apart := false, laid := [("unicode/utf8.acceptRanges", laid_unicode_utf8_acceptRanges), ("unicode/utf8.first", laid_unicode_utf8_first)], narrowed := true }
def BoostLearnedUptoSaid : Prop := boostLearnedUptoRow.holds Tryd.pinned (OpenSpec.upto boostLearnedSpec)

/-- 'henkanlaw32.BoostPairs', WHERE WHAT IT READS IS OF BULK AT MOST 1048576: true; the input reads as it did. -/
def boostPairsUptoRow : OpenClaim := { program := "ytipocnkaemkegaadoor", sum := "3e5ad0724b38e24fea74eaee3488b49273e9e393d0a90c063679c1b4f93e6c33", func := "henkan/henkanlaw32.BoostPairs", spec := "boostPairs", inPlace := ["internal/bytealg.IndexByteString", "internal/bytealg.IndexString"], unfollowed := true, recurses := true, named := ["internal/bytealg.MaxLen", "unicode/utf8.first", "unicode/utf8.acceptRanges"], apart := false, laid := [("unicode/utf8.acceptRanges", laid_unicode_utf8_acceptRanges), ("unicode/utf8.first", laid_unicode_utf8_first)], narrowed := true }
def BoostPairsUptoSaid : Prop := boostPairsUptoRow.holds Tryd.pinned (OpenSpec.upto boostPairsSpec)

/-- 'henkanlaw32.BoostOrder', WHERE WHAT IT READS IS OF BULK AT MOST 1048576: true; the input reads as it did. -/
def boostOrderUptoRow : OpenClaim := { program := "ytipocnkaemkegaadoor", sum := "3e5ad0724b38e24fea74eaee3488b49273e9e393d0a90c063679c1b4f93e6c33", func := "henkan/henkanlaw32.BoostOrder", spec := "boostOrder", inPlace := ["internal/bytealg.IndexByteString", "internal/bytealg.IndexString"], unfollowed := true, recurses := true, named := ["internal/bytealg.MaxLen", "unicode/utf8.first", "unicode/utf8.acceptRanges"], apart := false, laid := [("unicode/utf8.acceptRanges", laid_unicode_utf8_acceptRanges), ("unicode/utf8.first", laid_unicode_utf8_first)], narrowed := true }
def BoostOrderUptoSaid : Prop := boostOrderUptoRow.holds Tryd.pinned (OpenSpec.upto boostOrderSpec)

/-- 'henkanlaw32.BoostDoubles', WHERE WHAT IT READS IS OF BULK AT MOST 1048576: true; the input reads as it did. -/
def boostDoublesUptoRow : OpenClaim := { program := "ytipocnkaemkegaadoor", sum := "3e5ad0724b38e24fea74eaee3488b49273e9e393d0a90c063679c1b4f93e6c33", func := "henkan/henkanlaw32.BoostDoubles", spec := "boostDoubles", inPlace := ["internal/bytealg.IndexByteString", "internal/bytealg.IndexString"], unfollowed := true, recurses := true, named := ["internal/bytealg.MaxLen", "unicode/utf8.first", "unicode/utf8.acceptRanges"], apart := false, laid := [("unicode/utf8.acceptRanges", laid_unicode_utf8_acceptRanges), ("unicode/utf8.first", laid_unicode_utf8_first)], narrowed := true }
def BoostDoublesUptoSaid : Prop := boostDoublesUptoRow.holds Tryd.pinned (OpenSpec.upto boostDoublesSpec)

/-- 'henkanlaw32.BoostJoins', WHERE WHAT IT READS IS OF BULK AT MOST 1048576: true; the input reads as it did. -/
def boostJoinsUptoRow : OpenClaim := { program := "ytipocnkaemkegaadoor", sum := "3e5ad0724b38e24fea74eaee3488b49273e9e393d0a90c063679c1b4f93e6c33", func := "henkan/henkanlaw32.BoostJoins", spec := "boostJoins", inPlace := ["internal/bytealg.IndexByteString", "internal/bytealg.IndexString"], unfollowed := true, recurses := true, named := ["internal/bytealg.MaxLen", "unicode/utf8.first", "unicode/utf8.acceptRanges"], apart := false, laid := [("unicode/utf8.acceptRanges", laid_unicode_utf8_acceptRanges), ("unicode/utf8.first", laid_unicode_utf8_first)], narrowed := true }
def BoostJoinsUptoSaid : Prop := boostJoinsUptoRow.holds Tryd.pinned (OpenSpec.upto boostJoinsSpec)

/-- 'henkanlaw32.BoostKnown', WHERE WHAT IT READS IS OF BULK AT MOST 1048576: true; the input reads as it did. -/
def boostKnownUptoRow : OpenClaim := { program := "ytipocnkaemkegaadoor", sum := "3e5ad0724b38e24fea74eaee3488b49273e9e393d0a90c063679c1b4f93e6c33", func := "henkan/henkanlaw32.BoostKnown", spec := "boostKnown", inPlace := ["internal/bytealg.IndexByteString", "internal/bytealg.IndexString"], unfollowed := true, recurses := true, named := ["internal/bytealg.MaxLen", "unicode/utf8.first", "unicode/utf8.acceptRanges"], apart := false, laid := [("unicode/utf8.acceptRanges", laid_unicode_utf8_acceptRanges), ("unicode/utf8.first", laid_unicode_utf8_first)], narrowed := true }
def BoostKnownUptoSaid : Prop := boostKnownUptoRow.holds Tryd.pinned (OpenSpec.upto boostKnownSpec)

end Rows
end Go.Proofs.YtipocnkaemkegaaDoor
