/-
  NARROWER THAN 'FOR EVERY INPUT', by the rows' own cells (each row's printed sentence says how): DocMakes: loops.
  DERIVED. THE GIVEN ROWS OF THIS SEAT. 13 by the template 'for every input the law returns true; each argument reads behind the call as it read before'; 0 by the template 'total and deterministic' (their statements: YteddjadeenimkaaTotals.lean).
  GIVEN WITH THE SEED: the statements are not yours to turn. If you find one false, say at which input.
  Laid BY PROGRAM, IN A SANDBOX (cutbox-rows.mjs): the forced cells as the released guide's own fill.sh prints them over the translation f7c109a1e6256a59… (all of the seat's roots in one cut). By AI agents, Wed Nov 11 2026. No macro, syntax, notation, axiom, sorry.
-/
import Derived.Test.YteddjadeenimkaaChecked
import GoSem.Claim
import GoSem.ClaimJoined
import GoSem.ClaimMapViews
import Derived.JoinedTies
import Derived.KernelRfl
namespace Go.Proofs.Yteddjadeenimkaa
/- THE CELL 'sum', in the pinned program and in every row, IS THE sha256 OF THE DUMP (.gsa) THAT YteddjadeenimkaaProg.lean LOADS. Nothing in Lean hashes anything: it is a label: what it is worth is what the hold of that sum in a sandbox is worth. -/
noncomputable def Try.pinned : Pinned := { name := "yteddjadeenimkaa", sum := "f7c109a1e6256a59b72d2ca6cc7ab7150359ceb3a8494a9e810da6b9e1750692", checked := Try.checked }
namespace Rows
def none {H : Type} : Left H := { results := [], args := [] }

/-- 'blindfoldlaw04.CellsWhole': WHATEVER THE INPUT: true; the input reads as it did. -/
def cellsWholeSpec : ChangeSpec := { name := "cellsWhole", fn := fun _ => fun
  | [d1, d2] => { results := [.lit (.bool true)], args := [d1, d2] }
  | _ => none }
def cellsWholeRow : OpenClaim := { program := "yteddjadeenimkaa", sum := "f7c109a1e6256a59b72d2ca6cc7ab7150359ceb3a8494a9e810da6b9e1750692", func := "blindfold/blindfoldlaw04.CellsWhole", spec := "cellsWhole", apart := false }
def CellsWholeSaid : Prop := cellsWholeRow.holds Try.pinned (OpenSpec.ofChange cellsWholeSpec)

/-- ITS FALSE NEIGHBOUR: 'it returns false'. Refute it at one input. -/
def cellsWholeWrong : ChangeSpec := { name := "cellsWhole", fn := fun _ => fun
  | [d1, d2] => { results := [.lit (.bool false)], args := [d1, d2] }
  | _ => none }
def CellsWholeWrongFalsely : Prop := cellsWholeRow.holds Try.pinned (OpenSpec.ofChange cellsWholeWrong)

/-- 'blindfoldlaw05.EscapeSafe': WHATEVER THE INPUT: true; the input reads as it did. -/
def escapeSafeSpec : ChangeSpec := { name := "escapeSafe", fn := fun _ => fun
  | [d] => { results := [.lit (.bool true)], args := [d] }
  | _ => none }
def escapeSafeRow : OpenClaim := { program := "yteddjadeenimkaa", sum := "f7c109a1e6256a59b72d2ca6cc7ab7150359ceb3a8494a9e810da6b9e1750692", func := "blindfold/blindfoldlaw05.EscapeSafe", spec := "escapeSafe", inPlace := ["internal/abi.NoEscape"], apart := false }
def EscapeSafeSaid : Prop := escapeSafeRow.holds Try.pinned (OpenSpec.ofChange escapeSafeSpec)

/-- ITS FALSE NEIGHBOUR: 'it returns false'. Refute it at one input. -/
def escapeSafeWrong : ChangeSpec := { name := "escapeSafe", fn := fun _ => fun
  | [d] => { results := [.lit (.bool false)], args := [d] }
  | _ => none }
def EscapeSafeWrongFalsely : Prop := escapeSafeRow.holds Try.pinned (OpenSpec.ofChange escapeSafeWrong)

/-- 'blindfoldlaw06.SafeTells': WHATEVER THE INPUT: true; the input reads as it did. -/
def safeTellsSpec : ChangeSpec := { name := "safeTells", fn := fun _ => fun
  | [d] => { results := [.lit (.bool true)], args := [d] }
  | _ => none }
def safeTellsRow : OpenClaim := { program := "yteddjadeenimkaa", sum := "f7c109a1e6256a59b72d2ca6cc7ab7150359ceb3a8494a9e810da6b9e1750692", func := "blindfold/blindfoldlaw06.SafeTells", spec := "safeTells", inPlace := ["internal/abi.NoEscape"], apart := false }
def SafeTellsSaid : Prop := safeTellsRow.holds Try.pinned (OpenSpec.ofChange safeTellsSpec)

/-- ITS FALSE NEIGHBOUR: 'it returns false'. Refute it at one input. -/
def safeTellsWrong : ChangeSpec := { name := "safeTells", fn := fun _ => fun
  | [d] => { results := [.lit (.bool false)], args := [d] }
  | _ => none }
def SafeTellsWrongFalsely : Prop := safeTellsRow.holds Try.pinned (OpenSpec.ofChange safeTellsWrong)

/-- 'blindfoldlaw09.PathsReads': WHATEVER THE INPUT: true; the input reads as it did. -/
def pathsReadsSpec : ChangeSpec := { name := "pathsReads", fn := fun _ => fun
  | [d1, d2] => { results := [.lit (.bool true)], args := [d1, d2] }
  | _ => none }
def pathsReadsRow : OpenClaim := { program := "yteddjadeenimkaa", sum := "f7c109a1e6256a59b72d2ca6cc7ab7150359ceb3a8494a9e810da6b9e1750692", func := "blindfold/blindfoldlaw09.PathsReads", spec := "pathsReads", inPlace := ["internal/abi.NoEscape"], recurses := true, apart := false }
def PathsReadsSaid : Prop := pathsReadsRow.holds Try.pinned (OpenSpec.ofChange pathsReadsSpec)

/-- ITS FALSE NEIGHBOUR: 'it returns false'. Refute it at one input. -/
def pathsReadsWrong : ChangeSpec := { name := "pathsReads", fn := fun _ => fun
  | [d1, d2] => { results := [.lit (.bool false)], args := [d1, d2] }
  | _ => none }
def PathsReadsWrongFalsely : Prop := pathsReadsRow.holds Try.pinned (OpenSpec.ofChange pathsReadsWrong)

/-- 'blindfoldlaw37.BlameParses': WHATEVER THE INPUT: true; the input reads as it did. -/
def blameParsesSpec : ChangeSpec := { name := "blameParses", fn := fun _ => fun
  | [d1, d2, d3] => { results := [.lit (.bool true)], args := [d1, d2, d3] }
  | _ => none }
def blameParsesRow : OpenClaim := { program := "yteddjadeenimkaa", sum := "f7c109a1e6256a59b72d2ca6cc7ab7150359ceb3a8494a9e810da6b9e1750692", func := "blindfold/blindfoldlaw37.BlameParses", spec := "blameParses", inPlace := ["internal/bytealg.IndexByteString", "internal/bytealg.IndexString"], recurses := true, named := ["internal/bytealg.MaxLen"], apart := false }
def BlameParsesSaid : Prop := blameParsesRow.holds Try.pinned (OpenSpec.ofChange blameParsesSpec)

/-- ITS FALSE NEIGHBOUR: 'it returns false'. Refute it at one input. -/
def blameParsesWrong : ChangeSpec := { name := "blameParses", fn := fun _ => fun
  | [d1, d2, d3] => { results := [.lit (.bool false)], args := [d1, d2, d3] }
  | _ => none }
def BlameParsesWrongFalsely : Prop := blameParsesRow.holds Try.pinned (OpenSpec.ofChange blameParsesWrong)

/-- 'blindfoldlaw29.DocMakes': WHATEVER THE INPUT: true; the input reads as it did. -/
def docMakesSpec : ChangeSpec := { name := "docMakes", fn := fun _ => fun
  | [d1, d2, d3] => { results := [.lit (.bool true)], args := [d1, d2, d3] }
  | _ => none }
def docMakesRow : OpenClaim := { program := "yteddjadeenimkaa", sum := "f7c109a1e6256a59b72d2ca6cc7ab7150359ceb3a8494a9e810da6b9e1750692", func := "blindfold/blindfoldlaw29.DocMakes", spec := "docMakes", inPlace := ["internal/bytealg.IndexByteString", "internal/bytealg.IndexString", "internal/abi.NoEscape"], recurses := true, named := ["internal/bytealg.MaxLen"], loops := true, apart := false }
def DocMakesSaid : Prop := docMakesRow.holds Try.pinned (OpenSpec.ofChange docMakesSpec)

/-- ITS FALSE NEIGHBOUR: 'it returns false'. Refute it at one input. -/
def docMakesWrong : ChangeSpec := { name := "docMakes", fn := fun _ => fun
  | [d1, d2, d3] => { results := [.lit (.bool false)], args := [d1, d2, d3] }
  | _ => none }
def DocMakesWrongFalsely : Prop := docMakesRow.holds Try.pinned (OpenSpec.ofChange docMakesWrong)

/-- 'blindfoldlaw09.PathsBack': WHATEVER THE INPUT: true; the input reads as it did. -/
def pathsBackSpec : ChangeSpec := { name := "pathsBack", fn := fun _ => fun
  | [d1, d2] => { results := [.lit (.bool true)], args := [d1, d2] }
  | _ => none }
def pathsBackRow : OpenClaim := { program := "yteddjadeenimkaa", sum := "f7c109a1e6256a59b72d2ca6cc7ab7150359ceb3a8494a9e810da6b9e1750692", func := "blindfold/blindfoldlaw09.PathsBack", spec := "pathsBack", inPlace := ["internal/abi.NoEscape", "internal/bytealg.abigen_runtime_cmpstring"], apart := false }
def PathsBackSaid : Prop := pathsBackRow.holds Try.pinned (OpenSpec.ofChange pathsBackSpec)

/-- ITS FALSE NEIGHBOUR: 'it returns false'. Refute it at one input. -/
def pathsBackWrong : ChangeSpec := { name := "pathsBack", fn := fun _ => fun
  | [d1, d2] => { results := [.lit (.bool false)], args := [d1, d2] }
  | _ => none }
def PathsBackWrongFalsely : Prop := pathsBackRow.holds Try.pinned (OpenSpec.ofChange pathsBackWrong)

/-- 'blindfoldlaw05.EscapeQuotes': WHATEVER THE INPUT: true; the input reads as it did. -/
def escapeQuotesSpec : ChangeSpec := { name := "escapeQuotes", fn := fun _ => fun
  | [d1, d2, d3] => { results := [.lit (.bool true)], args := [d1, d2, d3] }
  | _ => none }
def escapeQuotesRow : OpenClaim := { program := "yteddjadeenimkaa", sum := "f7c109a1e6256a59b72d2ca6cc7ab7150359ceb3a8494a9e810da6b9e1750692", func := "blindfold/blindfoldlaw05.EscapeQuotes", spec := "escapeQuotes", inPlace := ["internal/abi.NoEscape"], recurses := true, apart := false }
def EscapeQuotesSaid : Prop := escapeQuotesRow.holds Try.pinned (OpenSpec.ofChange escapeQuotesSpec)

/-- ITS FALSE NEIGHBOUR: 'it returns false'. Refute it at one input. -/
def escapeQuotesWrong : ChangeSpec := { name := "escapeQuotes", fn := fun _ => fun
  | [d1, d2, d3] => { results := [.lit (.bool false)], args := [d1, d2, d3] }
  | _ => none }
def EscapeQuotesWrongFalsely : Prop := escapeQuotesRow.holds Try.pinned (OpenSpec.ofChange escapeQuotesWrong)

/-- 'blindfoldlaw06.SafeScrubs': WHATEVER THE INPUT: true; the input reads as it did. -/
def safeScrubsSpec : ChangeSpec := { name := "safeScrubs", fn := fun _ => fun
  | [d] => { results := [.lit (.bool true)], args := [d] }
  | _ => none }
def safeScrubsRow : OpenClaim := { program := "yteddjadeenimkaa", sum := "f7c109a1e6256a59b72d2ca6cc7ab7150359ceb3a8494a9e810da6b9e1750692", func := "blindfold/blindfoldlaw06.SafeScrubs", spec := "safeScrubs", inPlace := ["internal/abi.NoEscape", "internal/bytealg.IndexByteString"], recurses := true, apart := false }
def SafeScrubsSaid : Prop := safeScrubsRow.holds Try.pinned (OpenSpec.ofChange safeScrubsSpec)

/-- ITS FALSE NEIGHBOUR: 'it returns false'. Refute it at one input. -/
def safeScrubsWrong : ChangeSpec := { name := "safeScrubs", fn := fun _ => fun
  | [d] => { results := [.lit (.bool false)], args := [d] }
  | _ => none }
def SafeScrubsWrongFalsely : Prop := safeScrubsRow.holds Try.pinned (OpenSpec.ofChange safeScrubsWrong)

/-- 'blindfoldlaw06.SafeBack': WHATEVER THE INPUT: true; the input reads as it did. -/
def safeBackSpec : ChangeSpec := { name := "safeBack", fn := fun _ => fun
  | [d] => { results := [.lit (.bool true)], args := [d] }
  | _ => none }
def safeBackRow : OpenClaim := { program := "yteddjadeenimkaa", sum := "f7c109a1e6256a59b72d2ca6cc7ab7150359ceb3a8494a9e810da6b9e1750692", func := "blindfold/blindfoldlaw06.SafeBack", spec := "safeBack", inPlace := ["internal/abi.NoEscape", "internal/bytealg.IndexByteString"], apart := false }
def SafeBackSaid : Prop := safeBackRow.holds Try.pinned (OpenSpec.ofChange safeBackSpec)

/-- ITS FALSE NEIGHBOUR: 'it returns false'. Refute it at one input. -/
def safeBackWrong : ChangeSpec := { name := "safeBack", fn := fun _ => fun
  | [d] => { results := [.lit (.bool false)], args := [d] }
  | _ => none }
def SafeBackWrongFalsely : Prop := safeBackRow.holds Try.pinned (OpenSpec.ofChange safeBackWrong)

/-- 'blindfoldlaw04.CellsCuts': WHATEVER THE INPUT: true; the input reads as it did. -/
def cellsCutsSpec : ChangeSpec := { name := "cellsCuts", fn := fun _ => fun
  | [d1, d2] => { results := [.lit (.bool true)], args := [d1, d2] }
  | _ => none }
def cellsCutsRow : OpenClaim := { program := "yteddjadeenimkaa", sum := "f7c109a1e6256a59b72d2ca6cc7ab7150359ceb3a8494a9e810da6b9e1750692", func := "blindfold/blindfoldlaw04.CellsCuts", spec := "cellsCuts", inPlace := ["internal/abi.NoEscape", "internal/bytealg.MakeNoZero"], recurses := true, apart := false }
def CellsCutsSaid : Prop := cellsCutsRow.holds Try.pinned (OpenSpec.ofChange cellsCutsSpec)

/-- ITS FALSE NEIGHBOUR: 'it returns false'. Refute it at one input. -/
def cellsCutsWrong : ChangeSpec := { name := "cellsCuts", fn := fun _ => fun
  | [d1, d2] => { results := [.lit (.bool false)], args := [d1, d2] }
  | _ => none }
def CellsCutsWrongFalsely : Prop := cellsCutsRow.holds Try.pinned (OpenSpec.ofChange cellsCutsWrong)

/-- 'blindfoldlaw05.EscapeReads': WHATEVER THE INPUT: true; the input reads as it did. -/
def escapeReadsSpec : ChangeSpec := { name := "escapeReads", fn := fun _ => fun
  | [d1, d2] => { results := [.lit (.bool true)], args := [d1, d2] }
  | _ => none }
def escapeReadsRow : OpenClaim := { program := "yteddjadeenimkaa", sum := "f7c109a1e6256a59b72d2ca6cc7ab7150359ceb3a8494a9e810da6b9e1750692", func := "blindfold/blindfoldlaw05.EscapeReads", spec := "escapeReads", inPlace := ["internal/abi.NoEscape", "internal/bytealg.IndexByteString"], recurses := true, apart := false }
def EscapeReadsSaid : Prop := escapeReadsRow.holds Try.pinned (OpenSpec.ofChange escapeReadsSpec)

/-- ITS FALSE NEIGHBOUR: 'it returns false'. Refute it at one input. -/
def escapeReadsWrong : ChangeSpec := { name := "escapeReads", fn := fun _ => fun
  | [d1, d2] => { results := [.lit (.bool false)], args := [d1, d2] }
  | _ => none }
def EscapeReadsWrongFalsely : Prop := escapeReadsRow.holds Try.pinned (OpenSpec.ofChange escapeReadsWrong)

/-- 'blindfoldlaw05.EscapeBack': WHATEVER THE INPUT: true; the input reads as it did. -/
def escapeBackSpec : ChangeSpec := { name := "escapeBack", fn := fun _ => fun
  | [d1, d2, d3] => { results := [.lit (.bool true)], args := [d1, d2, d3] }
  | _ => none }
def escapeBackRow : OpenClaim := { program := "yteddjadeenimkaa", sum := "f7c109a1e6256a59b72d2ca6cc7ab7150359ceb3a8494a9e810da6b9e1750692", func := "blindfold/blindfoldlaw05.EscapeBack", spec := "escapeBack", inPlace := ["internal/abi.NoEscape", "internal/bytealg.IndexByteString"], apart := false }
def EscapeBackSaid : Prop := escapeBackRow.holds Try.pinned (OpenSpec.ofChange escapeBackSpec)

/-- ITS FALSE NEIGHBOUR: 'it returns false'. Refute it at one input. -/
def escapeBackWrong : ChangeSpec := { name := "escapeBack", fn := fun _ => fun
  | [d1, d2, d3] => { results := [.lit (.bool false)], args := [d1, d2, d3] }
  | _ => none }
def EscapeBackWrongFalsely : Prop := escapeBackRow.holds Try.pinned (OpenSpec.ofChange escapeBackWrong)

/- THE SECOND FORM. 'bulk': how many values and letters a reading holds, each counted each time it is reached (what is shared counts as often as it is met; a slice's spare places count too). A statement '..UptoSaid' is the law's where the arguments, and the package variables that the reading takes, are together of bulk at most 1048576: NARROWER than '..Said'. Prove '..Said' where nothing that the law and all that it calls make is longer than what came in: it says more and counts as full. Else prove '..UptoSaid'. A law counts once. -/
mutual
def uptoBulk {H : Type} : DataW H → Nat
  | .lit (.string bytes) => bytes.length + 1
  | .lit _ => 1
  | .nil => 1
  | .ptr d => uptoBulk d + 1
  | .slice elems spare => uptoBulkAll elems + uptoBulkAll spare + 1
  | .agg parts => uptoBulkAll parts + 1
  | .iface _ d => uptoBulk d + 1
  | .map entries => uptoBulkEntries entries + 1
  | .held _ => 1
def uptoBulkAll {H : Type} : List (DataW H) → Nat
  | [] => 0
  | d :: r => uptoBulk d + uptoBulkAll r
def uptoBulkEntries {H : Type} : List (Lit × DataW H) → Nat
  | [] => 0
  | x :: r => uptoBulkEntry x + uptoBulkEntries r
def uptoBulkEntry {H : Type} : Lit × DataW H → Nat
  | (.string bytes, d) => bytes.length + uptoBulk d + 1
  | (_, d) => uptoBulk d + 1
 end
def uptoSmall : (H : Type) → List (DataW H) → Bool := fun _ ds => decide (uptoBulkAll ds ≤ 1048576)
def OpenSpec.upto (s : _root_.Go.ChangeSpec) : _root_.Go.OpenSpec := { _root_.Go.OpenSpec.ofChange s with cond := some uptoSmall }

/-- 'blindfoldlaw04.CellsWhole', WHERE WHAT IT READS IS OF BULK AT MOST 1048576: true; the input reads as it did. -/
def cellsWholeUptoRow : OpenClaim := { program := "yteddjadeenimkaa", sum := "f7c109a1e6256a59b72d2ca6cc7ab7150359ceb3a8494a9e810da6b9e1750692", func := "blindfold/blindfoldlaw04.CellsWhole", spec := "cellsWhole", apart := false, narrowed := true }
def CellsWholeUptoSaid : Prop := cellsWholeUptoRow.holds Try.pinned (OpenSpec.upto cellsWholeSpec)

/-- 'blindfoldlaw05.EscapeSafe', WHERE WHAT IT READS IS OF BULK AT MOST 1048576: true; the input reads as it did. -/
def escapeSafeUptoRow : OpenClaim := { program := "yteddjadeenimkaa", sum := "f7c109a1e6256a59b72d2ca6cc7ab7150359ceb3a8494a9e810da6b9e1750692", func := "blindfold/blindfoldlaw05.EscapeSafe", spec := "escapeSafe", inPlace := ["internal/abi.NoEscape"], apart := false, narrowed := true }
def EscapeSafeUptoSaid : Prop := escapeSafeUptoRow.holds Try.pinned (OpenSpec.upto escapeSafeSpec)

/-- 'blindfoldlaw06.SafeTells', WHERE WHAT IT READS IS OF BULK AT MOST 1048576: true; the input reads as it did. -/
def safeTellsUptoRow : OpenClaim := { program := "yteddjadeenimkaa", sum := "f7c109a1e6256a59b72d2ca6cc7ab7150359ceb3a8494a9e810da6b9e1750692", func := "blindfold/blindfoldlaw06.SafeTells", spec := "safeTells", inPlace := ["internal/abi.NoEscape"], apart := false, narrowed := true }
def SafeTellsUptoSaid : Prop := safeTellsUptoRow.holds Try.pinned (OpenSpec.upto safeTellsSpec)

/-- 'blindfoldlaw09.PathsReads', WHERE WHAT IT READS IS OF BULK AT MOST 1048576: true; the input reads as it did. -/
def pathsReadsUptoRow : OpenClaim := { program := "yteddjadeenimkaa", sum := "f7c109a1e6256a59b72d2ca6cc7ab7150359ceb3a8494a9e810da6b9e1750692", func := "blindfold/blindfoldlaw09.PathsReads", spec := "pathsReads", inPlace := ["internal/abi.NoEscape"], recurses := true, apart := false, narrowed := true }
def PathsReadsUptoSaid : Prop := pathsReadsUptoRow.holds Try.pinned (OpenSpec.upto pathsReadsSpec)

/-- 'blindfoldlaw37.BlameParses', WHERE WHAT IT READS IS OF BULK AT MOST 1048576: true; the input reads as it did. -/
def blameParsesUptoRow : OpenClaim := { program := "yteddjadeenimkaa", sum := "f7c109a1e6256a59b72d2ca6cc7ab7150359ceb3a8494a9e810da6b9e1750692", func := "blindfold/blindfoldlaw37.BlameParses", spec := "blameParses", inPlace := ["internal/bytealg.IndexByteString", "internal/bytealg.IndexString"], recurses := true, named := ["internal/bytealg.MaxLen"], apart := false, narrowed := true }
def BlameParsesUptoSaid : Prop := blameParsesUptoRow.holds Try.pinned (OpenSpec.upto blameParsesSpec)

/-- 'blindfoldlaw29.DocMakes', WHERE WHAT IT READS IS OF BULK AT MOST 1048576: true; the input reads as it did. -/
def docMakesUptoRow : OpenClaim := { program := "yteddjadeenimkaa", sum := "f7c109a1e6256a59b72d2ca6cc7ab7150359ceb3a8494a9e810da6b9e1750692", func := "blindfold/blindfoldlaw29.DocMakes", spec := "docMakes", inPlace := ["internal/bytealg.IndexByteString", "internal/bytealg.IndexString", "internal/abi.NoEscape"], recurses := true, named := ["internal/bytealg.MaxLen"], loops := true, apart := false, narrowed := true }
def DocMakesUptoSaid : Prop := docMakesUptoRow.holds Try.pinned (OpenSpec.upto docMakesSpec)

/-- 'blindfoldlaw09.PathsBack', WHERE WHAT IT READS IS OF BULK AT MOST 1048576: true; the input reads as it did. -/
def pathsBackUptoRow : OpenClaim := { program := "yteddjadeenimkaa", sum := "f7c109a1e6256a59b72d2ca6cc7ab7150359ceb3a8494a9e810da6b9e1750692", func := "blindfold/blindfoldlaw09.PathsBack", spec := "pathsBack", inPlace := ["internal/abi.NoEscape", "internal/bytealg.abigen_runtime_cmpstring"], apart := false, narrowed := true }
def PathsBackUptoSaid : Prop := pathsBackUptoRow.holds Try.pinned (OpenSpec.upto pathsBackSpec)

/-- 'blindfoldlaw05.EscapeQuotes', WHERE WHAT IT READS IS OF BULK AT MOST 1048576: true; the input reads as it did. -/
def escapeQuotesUptoRow : OpenClaim := { program := "yteddjadeenimkaa", sum := "f7c109a1e6256a59b72d2ca6cc7ab7150359ceb3a8494a9e810da6b9e1750692", func := "blindfold/blindfoldlaw05.EscapeQuotes", spec := "escapeQuotes", inPlace := ["internal/abi.NoEscape"], recurses := true, apart := false, narrowed := true }
def EscapeQuotesUptoSaid : Prop := escapeQuotesUptoRow.holds Try.pinned (OpenSpec.upto escapeQuotesSpec)

/-- 'blindfoldlaw06.SafeScrubs', WHERE WHAT IT READS IS OF BULK AT MOST 1048576: true; the input reads as it did. -/
def safeScrubsUptoRow : OpenClaim := { program := "yteddjadeenimkaa", sum := "f7c109a1e6256a59b72d2ca6cc7ab7150359ceb3a8494a9e810da6b9e1750692", func := "blindfold/blindfoldlaw06.SafeScrubs", spec := "safeScrubs", inPlace := ["internal/abi.NoEscape", "internal/bytealg.IndexByteString"], recurses := true, apart := false, narrowed := true }
def SafeScrubsUptoSaid : Prop := safeScrubsUptoRow.holds Try.pinned (OpenSpec.upto safeScrubsSpec)

/-- 'blindfoldlaw06.SafeBack', WHERE WHAT IT READS IS OF BULK AT MOST 1048576: true; the input reads as it did. -/
def safeBackUptoRow : OpenClaim := { program := "yteddjadeenimkaa", sum := "f7c109a1e6256a59b72d2ca6cc7ab7150359ceb3a8494a9e810da6b9e1750692", func := "blindfold/blindfoldlaw06.SafeBack", spec := "safeBack", inPlace := ["internal/abi.NoEscape", "internal/bytealg.IndexByteString"], apart := false, narrowed := true }
def SafeBackUptoSaid : Prop := safeBackUptoRow.holds Try.pinned (OpenSpec.upto safeBackSpec)

/-- 'blindfoldlaw04.CellsCuts', WHERE WHAT IT READS IS OF BULK AT MOST 1048576: true; the input reads as it did. -/
def cellsCutsUptoRow : OpenClaim := { program := "yteddjadeenimkaa", sum := "f7c109a1e6256a59b72d2ca6cc7ab7150359ceb3a8494a9e810da6b9e1750692", func := "blindfold/blindfoldlaw04.CellsCuts", spec := "cellsCuts", inPlace := ["internal/abi.NoEscape", "internal/bytealg.MakeNoZero"], recurses := true, apart := false, narrowed := true }
def CellsCutsUptoSaid : Prop := cellsCutsUptoRow.holds Try.pinned (OpenSpec.upto cellsCutsSpec)

/-- 'blindfoldlaw05.EscapeReads', WHERE WHAT IT READS IS OF BULK AT MOST 1048576: true; the input reads as it did. -/
def escapeReadsUptoRow : OpenClaim := { program := "yteddjadeenimkaa", sum := "f7c109a1e6256a59b72d2ca6cc7ab7150359ceb3a8494a9e810da6b9e1750692", func := "blindfold/blindfoldlaw05.EscapeReads", spec := "escapeReads", inPlace := ["internal/abi.NoEscape", "internal/bytealg.IndexByteString"], recurses := true, apart := false, narrowed := true }
def EscapeReadsUptoSaid : Prop := escapeReadsUptoRow.holds Try.pinned (OpenSpec.upto escapeReadsSpec)

/-- 'blindfoldlaw05.EscapeBack', WHERE WHAT IT READS IS OF BULK AT MOST 1048576: true; the input reads as it did. -/
def escapeBackUptoRow : OpenClaim := { program := "yteddjadeenimkaa", sum := "f7c109a1e6256a59b72d2ca6cc7ab7150359ceb3a8494a9e810da6b9e1750692", func := "blindfold/blindfoldlaw05.EscapeBack", spec := "escapeBack", inPlace := ["internal/abi.NoEscape", "internal/bytealg.IndexByteString"], apart := false, narrowed := true }
def EscapeBackUptoSaid : Prop := escapeBackUptoRow.holds Try.pinned (OpenSpec.upto escapeBackSpec)

end Rows
end Go.Proofs.Yteddjadeenimkaa
