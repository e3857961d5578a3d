/-
  No cell of these rows narrows 'for every input' (looked for: loops, veiled, ifaces, maps, wideKeys, modest, calm, conditions, laid).
  DERIVED. THE GIVEN ROWS OF THIS SEAT. 11 by the template 'for every input the law returns true; each argument reads behind the call as it read before'; 0 by the template 'total and deterministic' (their statements: YteohofgmkiagoaaTotals.lean).
  GIVEN WITH THE SEED: the statements are not yours to turn. If you find one false, say at which input.
  Laid BY PROGRAM, IN A SANDBOX (cutbox-rows.mjs): the forced cells as the released guide's own fill.sh prints them over the translation 21ac9e8af5d1d2b2… (all of the seat's roots in one cut). By AI agents, Wed Nov 11 2026. No macro, syntax, notation, axiom, sorry.
-/
import Derived.Test.YteohofgmkiagoaaChecked
import GoSem.Claim
import GoSem.ClaimJoined
import GoSem.ClaimMapViews
import Derived.JoinedTies
import Derived.KernelRfl
namespace Go.Proofs.Yteohofgmkiagoaa
/- THE CELL 'sum', in the pinned program and in every row, IS THE sha256 OF THE DUMP (.gsa) THAT YteohofgmkiagoaaProg.lean LOADS. Nothing in Lean hashes anything: it is a label: what it is worth is what the hold of that sum in a sandbox is worth. -/
noncomputable def Try.pinned : Pinned := { name := "yteohofgmkiagoaa", sum := "21ac9e8af5d1d2b2dc71e97c13253fca1044d4b678d661e6cb041640666b4272", checked := Try.checked }
namespace Rows
def none {H : Type} : Left H := { results := [], args := [] }

/-- 'blindfoldlaw37.BlameNames': WHATEVER THE INPUT: true; the input reads as it did. -/
def blameNamesSpec : ChangeSpec := { name := "blameNames", fn := fun _ => fun
  | [d1, d2] => { results := [.lit (.bool true)], args := [d1, d2] }
  | _ => none }
def blameNamesRow : OpenClaim := { program := "yteohofgmkiagoaa", sum := "21ac9e8af5d1d2b2dc71e97c13253fca1044d4b678d661e6cb041640666b4272", func := "blindfold/blindfoldlaw37.BlameNames", spec := "blameNames", recurses := true, apart := false }
def BlameNamesSaid : Prop := blameNamesRow.holds Try.pinned (OpenSpec.ofChange blameNamesSpec)

/-- ITS FALSE NEIGHBOUR: 'it returns false'. Refute it at one input. -/
def blameNamesWrong : ChangeSpec := { name := "blameNames", fn := fun _ => fun
  | [d1, d2] => { results := [.lit (.bool false)], args := [d1, d2] }
  | _ => none }
def BlameNamesWrongFalsely : Prop := blameNamesRow.holds Try.pinned (OpenSpec.ofChange blameNamesWrong)

/-- 'blindfoldlaw07.DigitsReads': WHATEVER THE INPUT: true; the input reads as it did. -/
def digitsReadsSpec : ChangeSpec := { name := "digitsReads", fn := fun _ => fun
  | [d1, d2] => { results := [.lit (.bool true)], args := [d1, d2] }
  | _ => none }
def digitsReadsRow : OpenClaim := { program := "yteohofgmkiagoaa", sum := "21ac9e8af5d1d2b2dc71e97c13253fca1044d4b678d661e6cb041640666b4272", func := "blindfold/blindfoldlaw07.DigitsReads", spec := "digitsReads", apart := false }
def DigitsReadsSaid : Prop := digitsReadsRow.holds Try.pinned (OpenSpec.ofChange digitsReadsSpec)

/-- ITS FALSE NEIGHBOUR: 'it returns false'. Refute it at one input. -/
def digitsReadsWrong : ChangeSpec := { name := "digitsReads", fn := fun _ => fun
  | [d1, d2] => { results := [.lit (.bool false)], args := [d1, d2] }
  | _ => none }
def DigitsReadsWrongFalsely : Prop := digitsReadsRow.holds Try.pinned (OpenSpec.ofChange digitsReadsWrong)

/-- 'blindfoldlaw07.DigitsBack': WHATEVER THE INPUT: true; the input reads as it did. -/
def digitsBackSpec : ChangeSpec := { name := "digitsBack", fn := fun _ => fun
  | [d1, d2] => { results := [.lit (.bool true)], args := [d1, d2] }
  | _ => none }
def digitsBackRow : OpenClaim := { program := "yteohofgmkiagoaa", sum := "21ac9e8af5d1d2b2dc71e97c13253fca1044d4b678d661e6cb041640666b4272", func := "blindfold/blindfoldlaw07.DigitsBack", spec := "digitsBack", apart := false }
def DigitsBackSaid : Prop := digitsBackRow.holds Try.pinned (OpenSpec.ofChange digitsBackSpec)

/-- ITS FALSE NEIGHBOUR: 'it returns false'. Refute it at one input. -/
def digitsBackWrong : ChangeSpec := { name := "digitsBack", fn := fun _ => fun
  | [d1, d2] => { results := [.lit (.bool false)], args := [d1, d2] }
  | _ => none }
def DigitsBackWrongFalsely : Prop := digitsBackRow.holds Try.pinned (OpenSpec.ofChange digitsBackWrong)

/-- 'blindfoldlaw01.UtfDecodes': WHATEVER THE INPUT: true; the input reads as it did. -/
def utfDecodesSpec : ChangeSpec := { name := "utfDecodes", fn := fun _ => fun
  | [d1, d2] => { results := [.lit (.bool true)], args := [d1, d2] }
  | _ => none }
def utfDecodesRow : OpenClaim := { program := "yteohofgmkiagoaa", sum := "21ac9e8af5d1d2b2dc71e97c13253fca1044d4b678d661e6cb041640666b4272", func := "blindfold/blindfoldlaw01.UtfDecodes", spec := "utfDecodes", apart := false }
def UtfDecodesSaid : Prop := utfDecodesRow.holds Try.pinned (OpenSpec.ofChange utfDecodesSpec)

/-- ITS FALSE NEIGHBOUR: 'it returns false'. Refute it at one input. -/
def utfDecodesWrong : ChangeSpec := { name := "utfDecodes", fn := fun _ => fun
  | [d1, d2] => { results := [.lit (.bool false)], args := [d1, d2] }
  | _ => none }
def UtfDecodesWrongFalsely : Prop := utfDecodesRow.holds Try.pinned (OpenSpec.ofChange utfDecodesWrong)

/-- 'blindfoldlaw01.UtfEncodes': WHATEVER THE INPUT: true; the input reads as it did. -/
def utfEncodesSpec : ChangeSpec := { name := "utfEncodes", fn := fun _ => fun
  | [d] => { results := [.lit (.bool true)], args := [d] }
  | _ => none }
def utfEncodesRow : OpenClaim := { program := "yteohofgmkiagoaa", sum := "21ac9e8af5d1d2b2dc71e97c13253fca1044d4b678d661e6cb041640666b4272", func := "blindfold/blindfoldlaw01.UtfEncodes", spec := "utfEncodes", apart := false }
def UtfEncodesSaid : Prop := utfEncodesRow.holds Try.pinned (OpenSpec.ofChange utfEncodesSpec)

/-- ITS FALSE NEIGHBOUR: 'it returns false'. Refute it at one input. -/
def utfEncodesWrong : ChangeSpec := { name := "utfEncodes", fn := fun _ => fun
  | [d] => { results := [.lit (.bool false)], args := [d] }
  | _ => none }
def UtfEncodesWrongFalsely : Prop := utfEncodesRow.holds Try.pinned (OpenSpec.ofChange utfEncodesWrong)

/-- 'blindfoldlaw07.DigitsReckons': WHATEVER THE INPUT: true; the input reads as it did. -/
def digitsReckonsSpec : ChangeSpec := { name := "digitsReckons", fn := fun _ => fun
  | [d1, d2] => { results := [.lit (.bool true)], args := [d1, d2] }
  | _ => none }
def digitsReckonsRow : OpenClaim := { program := "yteohofgmkiagoaa", sum := "21ac9e8af5d1d2b2dc71e97c13253fca1044d4b678d661e6cb041640666b4272", func := "blindfold/blindfoldlaw07.DigitsReckons", spec := "digitsReckons", recurses := true, apart := false }
def DigitsReckonsSaid : Prop := digitsReckonsRow.holds Try.pinned (OpenSpec.ofChange digitsReckonsSpec)

/-- ITS FALSE NEIGHBOUR: 'it returns false'. Refute it at one input. -/
def digitsReckonsWrong : ChangeSpec := { name := "digitsReckons", fn := fun _ => fun
  | [d1, d2] => { results := [.lit (.bool false)], args := [d1, d2] }
  | _ => none }
def DigitsReckonsWrongFalsely : Prop := digitsReckonsRow.holds Try.pinned (OpenSpec.ofChange digitsReckonsWrong)

/-- 'blindfoldlaw01.UtfBads': WHATEVER THE INPUT: true; the input reads as it did. -/
def utfBadsSpec : ChangeSpec := { name := "utfBads", fn := fun _ => fun
  | [d] => { results := [.lit (.bool true)], args := [d] }
  | _ => none }
def utfBadsRow : OpenClaim := { program := "yteohofgmkiagoaa", sum := "21ac9e8af5d1d2b2dc71e97c13253fca1044d4b678d661e6cb041640666b4272", func := "blindfold/blindfoldlaw01.UtfBads", spec := "utfBads", apart := false }
def UtfBadsSaid : Prop := utfBadsRow.holds Try.pinned (OpenSpec.ofChange utfBadsSpec)

/-- ITS FALSE NEIGHBOUR: 'it returns false'. Refute it at one input. -/
def utfBadsWrong : ChangeSpec := { name := "utfBads", fn := fun _ => fun
  | [d] => { results := [.lit (.bool false)], args := [d] }
  | _ => none }
def UtfBadsWrongFalsely : Prop := utfBadsRow.holds Try.pinned (OpenSpec.ofChange utfBadsWrong)

/-- 'blindfoldlaw01.UtfBack': WHATEVER THE INPUT: true; the input reads as it did. -/
def utfBackSpec : ChangeSpec := { name := "utfBack", fn := fun _ => fun
  | [d] => { results := [.lit (.bool true)], args := [d] }
  | _ => none }
def utfBackRow : OpenClaim := { program := "yteohofgmkiagoaa", sum := "21ac9e8af5d1d2b2dc71e97c13253fca1044d4b678d661e6cb041640666b4272", func := "blindfold/blindfoldlaw01.UtfBack", spec := "utfBack", apart := false }
def UtfBackSaid : Prop := utfBackRow.holds Try.pinned (OpenSpec.ofChange utfBackSpec)

/-- ITS FALSE NEIGHBOUR: 'it returns false'. Refute it at one input. -/
def utfBackWrong : ChangeSpec := { name := "utfBack", fn := fun _ => fun
  | [d] => { results := [.lit (.bool false)], args := [d] }
  | _ => none }
def UtfBackWrongFalsely : Prop := utfBackRow.holds Try.pinned (OpenSpec.ofChange utfBackWrong)

/-- 'blindfoldlaw04.CellsWhole': WHATEVER THE INPUT: true; the input reads as it did. -/
def cellsWholeSpec : ChangeSpec := { name := "cellsWhole", fn := fun _ => fun
  | [d1, d2] => { results := [.lit (.bool true)], args := [d1, d2] }
  | _ => none }
def cellsWholeRow : OpenClaim := { program := "yteohofgmkiagoaa", sum := "21ac9e8af5d1d2b2dc71e97c13253fca1044d4b678d661e6cb041640666b4272", func := "blindfold/blindfoldlaw04.CellsWhole", spec := "cellsWhole", apart := false }
def CellsWholeSaid : Prop := cellsWholeRow.holds Try.pinned (OpenSpec.ofChange cellsWholeSpec)

/-- ITS FALSE NEIGHBOUR: 'it returns false'. Refute it at one input. -/
def cellsWholeWrong : ChangeSpec := { name := "cellsWhole", fn := fun _ => fun
  | [d1, d2] => { results := [.lit (.bool false)], args := [d1, d2] }
  | _ => none }
def CellsWholeWrongFalsely : Prop := cellsWholeRow.holds Try.pinned (OpenSpec.ofChange cellsWholeWrong)

/-- 'blindfoldlaw05.EscapeSafe': WHATEVER THE INPUT: true; the input reads as it did. -/
def escapeSafeSpec : ChangeSpec := { name := "escapeSafe", fn := fun _ => fun
  | [d] => { results := [.lit (.bool true)], args := [d] }
  | _ => none }
def escapeSafeRow : OpenClaim := { program := "yteohofgmkiagoaa", sum := "21ac9e8af5d1d2b2dc71e97c13253fca1044d4b678d661e6cb041640666b4272", func := "blindfold/blindfoldlaw05.EscapeSafe", spec := "escapeSafe", inPlace := ["internal/abi.NoEscape"], apart := false }
def EscapeSafeSaid : Prop := escapeSafeRow.holds Try.pinned (OpenSpec.ofChange escapeSafeSpec)

/-- ITS FALSE NEIGHBOUR: 'it returns false'. Refute it at one input. -/
def escapeSafeWrong : ChangeSpec := { name := "escapeSafe", fn := fun _ => fun
  | [d] => { results := [.lit (.bool false)], args := [d] }
  | _ => none }
def EscapeSafeWrongFalsely : Prop := escapeSafeRow.holds Try.pinned (OpenSpec.ofChange escapeSafeWrong)

/-- 'blindfoldlaw06.SafeTells': WHATEVER THE INPUT: true; the input reads as it did. -/
def safeTellsSpec : ChangeSpec := { name := "safeTells", fn := fun _ => fun
  | [d] => { results := [.lit (.bool true)], args := [d] }
  | _ => none }
def safeTellsRow : OpenClaim := { program := "yteohofgmkiagoaa", sum := "21ac9e8af5d1d2b2dc71e97c13253fca1044d4b678d661e6cb041640666b4272", func := "blindfold/blindfoldlaw06.SafeTells", spec := "safeTells", inPlace := ["internal/abi.NoEscape"], apart := false }
def SafeTellsSaid : Prop := safeTellsRow.holds Try.pinned (OpenSpec.ofChange safeTellsSpec)

/-- ITS FALSE NEIGHBOUR: 'it returns false'. Refute it at one input. -/
def safeTellsWrong : ChangeSpec := { name := "safeTells", fn := fun _ => fun
  | [d] => { results := [.lit (.bool false)], args := [d] }
  | _ => none }
def SafeTellsWrongFalsely : Prop := safeTellsRow.holds Try.pinned (OpenSpec.ofChange safeTellsWrong)

/- THE SECOND FORM. 'bulk': how many values and letters a reading holds, each counted each time it is reached (what is shared counts as often as it is met; a slice's spare places count too). A statement '..UptoSaid' is the law's where the arguments, and the package variables that the reading takes, are together of bulk at most 1048576: NARROWER than '..Said'. Prove '..Said' where nothing that the law and all that it calls make is longer than what came in: it says more and counts as full. Else prove '..UptoSaid'. A law counts once. -/
mutual
def uptoBulk {H : Type} : DataW H → Nat
  | .lit (.string bytes) => bytes.length + 1
  | .lit _ => 1
  | .nil => 1
  | .ptr d => uptoBulk d + 1
  | .slice elems spare => uptoBulkAll elems + uptoBulkAll spare + 1
  | .agg parts => uptoBulkAll parts + 1
  | .iface _ d => uptoBulk d + 1
  | .map entries => uptoBulkEntries entries + 1
  | .held _ => 1
def uptoBulkAll {H : Type} : List (DataW H) → Nat
  | [] => 0
  | d :: r => uptoBulk d + uptoBulkAll r
def uptoBulkEntries {H : Type} : List (Lit × DataW H) → Nat
  | [] => 0
  | x :: r => uptoBulkEntry x + uptoBulkEntries r
def uptoBulkEntry {H : Type} : Lit × DataW H → Nat
  | (.string bytes, d) => bytes.length + uptoBulk d + 1
  | (_, d) => uptoBulk d + 1
 end
def uptoSmall : (H : Type) → List (DataW H) → Bool := fun _ ds => decide (uptoBulkAll ds ≤ 1048576)
def OpenSpec.upto (s : _root_.Go.ChangeSpec) : _root_.Go.OpenSpec := { _root_.Go.OpenSpec.ofChange s with cond := some uptoSmall }

/-- 'blindfoldlaw37.BlameNames', WHERE WHAT IT READS IS OF BULK AT MOST 1048576: true; the input reads as it did. -/
def blameNamesUptoRow : OpenClaim := { program := "yteohofgmkiagoaa", sum := "21ac9e8af5d1d2b2dc71e97c13253fca1044d4b678d661e6cb041640666b4272", func := "blindfold/blindfoldlaw37.BlameNames", spec := "blameNames", recurses := true, apart := false, narrowed := true }
def BlameNamesUptoSaid : Prop := blameNamesUptoRow.holds Try.pinned (OpenSpec.upto blameNamesSpec)

/-- 'blindfoldlaw07.DigitsReads', WHERE WHAT IT READS IS OF BULK AT MOST 1048576: true; the input reads as it did. -/
def digitsReadsUptoRow : OpenClaim := { program := "yteohofgmkiagoaa", sum := "21ac9e8af5d1d2b2dc71e97c13253fca1044d4b678d661e6cb041640666b4272", func := "blindfold/blindfoldlaw07.DigitsReads", spec := "digitsReads", apart := false, narrowed := true }
def DigitsReadsUptoSaid : Prop := digitsReadsUptoRow.holds Try.pinned (OpenSpec.upto digitsReadsSpec)

/-- 'blindfoldlaw07.DigitsBack', WHERE WHAT IT READS IS OF BULK AT MOST 1048576: true; the input reads as it did. -/
def digitsBackUptoRow : OpenClaim := { program := "yteohofgmkiagoaa", sum := "21ac9e8af5d1d2b2dc71e97c13253fca1044d4b678d661e6cb041640666b4272", func := "blindfold/blindfoldlaw07.DigitsBack", spec := "digitsBack", apart := false, narrowed := true }
def DigitsBackUptoSaid : Prop := digitsBackUptoRow.holds Try.pinned (OpenSpec.upto digitsBackSpec)

/-- 'blindfoldlaw01.UtfDecodes', WHERE WHAT IT READS IS OF BULK AT MOST 1048576: true; the input reads as it did. -/
def utfDecodesUptoRow : OpenClaim := { program := "yteohofgmkiagoaa", sum := "21ac9e8af5d1d2b2dc71e97c13253fca1044d4b678d661e6cb041640666b4272", func := "blindfold/blindfoldlaw01.UtfDecodes", spec := "utfDecodes", apart := false, narrowed := true }
def UtfDecodesUptoSaid : Prop := utfDecodesUptoRow.holds Try.pinned (OpenSpec.upto utfDecodesSpec)

/-- 'blindfoldlaw01.UtfEncodes', WHERE WHAT IT READS IS OF BULK AT MOST 1048576: true; the input reads as it did. -/
def utfEncodesUptoRow : OpenClaim := { program := "yteohofgmkiagoaa", sum := "21ac9e8af5d1d2b2dc71e97c13253fca1044d4b678d661e6cb041640666b4272", func := "blindfold/blindfoldlaw01.UtfEncodes", spec := "utfEncodes", apart := false, narrowed := true }
def UtfEncodesUptoSaid : Prop := utfEncodesUptoRow.holds Try.pinned (OpenSpec.upto utfEncodesSpec)

/-- 'blindfoldlaw07.DigitsReckons', WHERE WHAT IT READS IS OF BULK AT MOST 1048576: true; the input reads as it did. -/
def digitsReckonsUptoRow : OpenClaim := { program := "yteohofgmkiagoaa", sum := "21ac9e8af5d1d2b2dc71e97c13253fca1044d4b678d661e6cb041640666b4272", func := "blindfold/blindfoldlaw07.DigitsReckons", spec := "digitsReckons", recurses := true, apart := false, narrowed := true }
def DigitsReckonsUptoSaid : Prop := digitsReckonsUptoRow.holds Try.pinned (OpenSpec.upto digitsReckonsSpec)

/-- 'blindfoldlaw01.UtfBads', WHERE WHAT IT READS IS OF BULK AT MOST 1048576: true; the input reads as it did. -/
def utfBadsUptoRow : OpenClaim := { program := "yteohofgmkiagoaa", sum := "21ac9e8af5d1d2b2dc71e97c13253fca1044d4b678d661e6cb041640666b4272", func := "blindfold/blindfoldlaw01.UtfBads", spec := "utfBads", apart := false, narrowed := true }
def UtfBadsUptoSaid : Prop := utfBadsUptoRow.holds Try.pinned (OpenSpec.upto utfBadsSpec)

/-- 'blindfoldlaw01.UtfBack', WHERE WHAT IT READS IS OF BULK AT MOST 1048576: true; the input reads as it did. -/
def utfBackUptoRow : OpenClaim := { program := "yteohofgmkiagoaa", sum := "21ac9e8af5d1d2b2dc71e97c13253fca1044d4b678d661e6cb041640666b4272", func := "blindfold/blindfoldlaw01.UtfBack", spec := "utfBack", apart := false, narrowed := true }
def UtfBackUptoSaid : Prop := utfBackUptoRow.holds Try.pinned (OpenSpec.upto utfBackSpec)

/-- 'blindfoldlaw04.CellsWhole', WHERE WHAT IT READS IS OF BULK AT MOST 1048576: true; the input reads as it did. -/
def cellsWholeUptoRow : OpenClaim := { program := "yteohofgmkiagoaa", sum := "21ac9e8af5d1d2b2dc71e97c13253fca1044d4b678d661e6cb041640666b4272", func := "blindfold/blindfoldlaw04.CellsWhole", spec := "cellsWhole", apart := false, narrowed := true }
def CellsWholeUptoSaid : Prop := cellsWholeUptoRow.holds Try.pinned (OpenSpec.upto cellsWholeSpec)

/-- 'blindfoldlaw05.EscapeSafe', WHERE WHAT IT READS IS OF BULK AT MOST 1048576: true; the input reads as it did. -/
def escapeSafeUptoRow : OpenClaim := { program := "yteohofgmkiagoaa", sum := "21ac9e8af5d1d2b2dc71e97c13253fca1044d4b678d661e6cb041640666b4272", func := "blindfold/blindfoldlaw05.EscapeSafe", spec := "escapeSafe", inPlace := ["internal/abi.NoEscape"], apart := false, narrowed := true }
def EscapeSafeUptoSaid : Prop := escapeSafeUptoRow.holds Try.pinned (OpenSpec.upto escapeSafeSpec)

/-- 'blindfoldlaw06.SafeTells', WHERE WHAT IT READS IS OF BULK AT MOST 1048576: true; the input reads as it did. -/
def safeTellsUptoRow : OpenClaim := { program := "yteohofgmkiagoaa", sum := "21ac9e8af5d1d2b2dc71e97c13253fca1044d4b678d661e6cb041640666b4272", func := "blindfold/blindfoldlaw06.SafeTells", spec := "safeTells", inPlace := ["internal/abi.NoEscape"], apart := false, narrowed := true }
def SafeTellsUptoSaid : Prop := safeTellsUptoRow.holds Try.pinned (OpenSpec.upto safeTellsSpec)

end Rows
end Go.Proofs.Yteohofgmkiagoaa
