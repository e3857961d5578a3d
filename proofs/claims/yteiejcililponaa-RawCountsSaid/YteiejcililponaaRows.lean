/-
  NARROWER THAN 'FOR EVERY INPUT', by the rows' own cells (each row's printed sentence says how): RawformStrips: loops · DocFlat: loops · FitsPieces: loops · RawCounts: loops · RawformBack: loops.
  DERIVED. THE GIVEN ROWS OF THIS SEAT. 16 by the template 'for every input the law returns true; each argument reads behind the call as it read before'; 0 by the template 'total and deterministic' (their statements: YteiejcililponaaTotals.lean).
  GIVEN WITH THE SEED: the statements are not yours to turn. If you find one false, say at which input.
  Laid BY PROGRAM, IN A SANDBOX (cutbox-rows.mjs): the forced cells as the released guide's own fill.sh prints them over the translation 2688ccd2a6ac8295… (all of the seat's roots in one cut). By AI agents, Wed Nov 11 2026. No macro, syntax, notation, axiom, sorry.
-/
import Derived.Test.YteiejcililponaaChecked
import GoSem.Claim
import GoSem.ClaimJoined
import GoSem.ClaimMapViews
import Derived.JoinedTies
import Derived.KernelRfl
namespace Go.Proofs.Yteiejcililponaa
/- THE CELL 'sum', in the pinned program and in every row, IS THE sha256 OF THE DUMP (.gsa) THAT YteiejcililponaaProg.lean LOADS. Nothing in Lean hashes anything: it is a label: what it is worth is what the hold of that sum in a sandbox is worth. -/
noncomputable def Try.pinned : Pinned := { name := "yteiejcililponaa", sum := "2688ccd2a6ac829592bd5994e134dbc2792e38ab163cad5ce37dbde472b1784a", checked := Try.checked }
namespace Rows
def none {H : Type} : Left H := { results := [], args := [] }

/-- 'blindfoldlaw23.RawformStrips': WHATEVER THE INPUT: true; the input reads as it did. -/
def rawformStripsSpec : ChangeSpec := { name := "rawformStrips", fn := fun _ => fun
  | [d1, d2] => { results := [.lit (.bool true)], args := [d1, d2] }
  | _ => none }
def rawformStripsRow : OpenClaim := { program := "yteiejcililponaa", sum := "2688ccd2a6ac829592bd5994e134dbc2792e38ab163cad5ce37dbde472b1784a", func := "blindfold/blindfoldlaw23.RawformStrips", spec := "rawformStrips", inPlace := ["internal/abi.NoEscape"], recurses := true, loops := true, apart := false }
def RawformStripsSaid : Prop := rawformStripsRow.holds Try.pinned (OpenSpec.ofChange rawformStripsSpec)

/-- ITS FALSE NEIGHBOUR: 'it returns false'. Refute it at one input. -/
def rawformStripsWrong : ChangeSpec := { name := "rawformStrips", fn := fun _ => fun
  | [d1, d2] => { results := [.lit (.bool false)], args := [d1, d2] }
  | _ => none }
def RawformStripsWrongFalsely : Prop := rawformStripsRow.holds Try.pinned (OpenSpec.ofChange rawformStripsWrong)

/-- 'blindfoldlaw29.DocFlat': WHATEVER THE INPUT: true; the input reads as it did. -/
def docFlatSpec : ChangeSpec := { name := "docFlat", fn := fun _ => fun
  | [d1, d2] => { results := [.lit (.bool true)], args := [d1, d2] }
  | _ => none }
def docFlatRow : OpenClaim := { program := "yteiejcililponaa", sum := "2688ccd2a6ac829592bd5994e134dbc2792e38ab163cad5ce37dbde472b1784a", func := "blindfold/blindfoldlaw29.DocFlat", spec := "docFlat", inPlace := ["internal/bytealg.IndexByteString", "internal/bytealg.IndexString", "internal/abi.NoEscape"], recurses := true, named := ["internal/bytealg.MaxLen"], loops := true, apart := false }
def DocFlatSaid : Prop := docFlatRow.holds Try.pinned (OpenSpec.ofChange docFlatSpec)

/-- ITS FALSE NEIGHBOUR: 'it returns false'. Refute it at one input. -/
def docFlatWrong : ChangeSpec := { name := "docFlat", fn := fun _ => fun
  | [d1, d2] => { results := [.lit (.bool false)], args := [d1, d2] }
  | _ => none }
def DocFlatWrongFalsely : Prop := docFlatRow.holds Try.pinned (OpenSpec.ofChange docFlatWrong)

/-- 'blindfoldlaw30.FitsPieces': WHATEVER THE INPUT: true; the input reads as it did. -/
def fitsPiecesSpec : ChangeSpec := { name := "fitsPieces", fn := fun _ => fun
  | [d] => { results := [.lit (.bool true)], args := [d] }
  | _ => none }
def fitsPiecesRow : OpenClaim := { program := "yteiejcililponaa", sum := "2688ccd2a6ac829592bd5994e134dbc2792e38ab163cad5ce37dbde472b1784a", func := "blindfold/blindfoldlaw30.FitsPieces", spec := "fitsPieces", inPlace := ["internal/bytealg.IndexByteString", "internal/bytealg.IndexString"], recurses := true, named := ["internal/bytealg.MaxLen"], loops := true, apart := false }
def FitsPiecesSaid : Prop := fitsPiecesRow.holds Try.pinned (OpenSpec.ofChange fitsPiecesSpec)

/-- ITS FALSE NEIGHBOUR: 'it returns false'. Refute it at one input. -/
def fitsPiecesWrong : ChangeSpec := { name := "fitsPieces", fn := fun _ => fun
  | [d] => { results := [.lit (.bool false)], args := [d] }
  | _ => none }
def FitsPiecesWrongFalsely : Prop := fitsPiecesRow.holds Try.pinned (OpenSpec.ofChange fitsPiecesWrong)

/-- 'blindfoldlaw13.TokensScans': WHATEVER THE INPUT: true; the input reads as it did. -/
def tokensScansSpec : ChangeSpec := { name := "tokensScans", fn := fun _ => fun
  | [d] => { results := [.lit (.bool true)], args := [d] }
  | _ => none }
def tokensScansRow : OpenClaim := { program := "yteiejcililponaa", sum := "2688ccd2a6ac829592bd5994e134dbc2792e38ab163cad5ce37dbde472b1784a", func := "blindfold/blindfoldlaw13.TokensScans", spec := "tokensScans", inPlace := ["internal/bytealg.IndexByteString", "internal/abi.NoEscape"], apart := false }
def TokensScansSaid : Prop := tokensScansRow.holds Try.pinned (OpenSpec.ofChange tokensScansSpec)

/-- ITS FALSE NEIGHBOUR: 'it returns false'. Refute it at one input. -/
def tokensScansWrong : ChangeSpec := { name := "tokensScans", fn := fun _ => fun
  | [d] => { results := [.lit (.bool false)], args := [d] }
  | _ => none }
def TokensScansWrongFalsely : Prop := tokensScansRow.holds Try.pinned (OpenSpec.ofChange tokensScansWrong)

/-- 'blindfoldlaw13.TokensMarks': WHATEVER THE INPUT: true; the input reads as it did. -/
def tokensMarksSpec : ChangeSpec := { name := "tokensMarks", fn := fun _ => fun
  | [d1, d2, d3] => { results := [.lit (.bool true)], args := [d1, d2, d3] }
  | _ => none }
def tokensMarksRow : OpenClaim := { program := "yteiejcililponaa", sum := "2688ccd2a6ac829592bd5994e134dbc2792e38ab163cad5ce37dbde472b1784a", func := "blindfold/blindfoldlaw13.TokensMarks", spec := "tokensMarks", inPlace := ["internal/bytealg.IndexByteString", "internal/abi.NoEscape"], apart := false }
def TokensMarksSaid : Prop := tokensMarksRow.holds Try.pinned (OpenSpec.ofChange tokensMarksSpec)

/-- ITS FALSE NEIGHBOUR: 'it returns false'. Refute it at one input. -/
def tokensMarksWrong : ChangeSpec := { name := "tokensMarks", fn := fun _ => fun
  | [d1, d2, d3] => { results := [.lit (.bool false)], args := [d1, d2, d3] }
  | _ => none }
def TokensMarksWrongFalsely : Prop := tokensMarksRow.holds Try.pinned (OpenSpec.ofChange tokensMarksWrong)

/-- 'blindfoldlaw13.TokensCover': WHATEVER THE INPUT: true; the input reads as it did. -/
def tokensCoverSpec : ChangeSpec := { name := "tokensCover", fn := fun _ => fun
  | [d] => { results := [.lit (.bool true)], args := [d] }
  | _ => none }
def tokensCoverRow : OpenClaim := { program := "yteiejcililponaa", sum := "2688ccd2a6ac829592bd5994e134dbc2792e38ab163cad5ce37dbde472b1784a", func := "blindfold/blindfoldlaw13.TokensCover", spec := "tokensCover", inPlace := ["internal/bytealg.IndexByteString", "internal/abi.NoEscape"], apart := false }
def TokensCoverSaid : Prop := tokensCoverRow.holds Try.pinned (OpenSpec.ofChange tokensCoverSpec)

/-- ITS FALSE NEIGHBOUR: 'it returns false'. Refute it at one input. -/
def tokensCoverWrong : ChangeSpec := { name := "tokensCover", fn := fun _ => fun
  | [d] => { results := [.lit (.bool false)], args := [d] }
  | _ => none }
def TokensCoverWrongFalsely : Prop := tokensCoverRow.holds Try.pinned (OpenSpec.ofChange tokensCoverWrong)

/-- 'blindfoldlaw14.CursorStays': WHATEVER THE INPUT: true; the input reads as it did. -/
def cursorStaysSpec : ChangeSpec := { name := "cursorStays", fn := fun _ => fun
  | [d1, d2] => { results := [.lit (.bool true)], args := [d1, d2] }
  | _ => none }
def cursorStaysRow : OpenClaim := { program := "yteiejcililponaa", sum := "2688ccd2a6ac829592bd5994e134dbc2792e38ab163cad5ce37dbde472b1784a", func := "blindfold/blindfoldlaw14.CursorStays", spec := "cursorStays", inPlace := ["internal/bytealg.IndexByteString", "internal/abi.NoEscape"], apart := false }
def CursorStaysSaid : Prop := cursorStaysRow.holds Try.pinned (OpenSpec.ofChange cursorStaysSpec)

/-- ITS FALSE NEIGHBOUR: 'it returns false'. Refute it at one input. -/
def cursorStaysWrong : ChangeSpec := { name := "cursorStays", fn := fun _ => fun
  | [d1, d2] => { results := [.lit (.bool false)], args := [d1, d2] }
  | _ => none }
def CursorStaysWrongFalsely : Prop := cursorStaysRow.holds Try.pinned (OpenSpec.ofChange cursorStaysWrong)

/-- 'blindfoldlaw14.CursorPlays': WHATEVER THE INPUT: true; the input reads as it did. -/
def cursorPlaysSpec : ChangeSpec := { name := "cursorPlays", fn := fun _ => fun
  | [d1, d2] => { results := [.lit (.bool true)], args := [d1, d2] }
  | _ => none }
def cursorPlaysRow : OpenClaim := { program := "yteiejcililponaa", sum := "2688ccd2a6ac829592bd5994e134dbc2792e38ab163cad5ce37dbde472b1784a", func := "blindfold/blindfoldlaw14.CursorPlays", spec := "cursorPlays", inPlace := ["internal/bytealg.IndexByteString", "internal/abi.NoEscape"], apart := false }
def CursorPlaysSaid : Prop := cursorPlaysRow.holds Try.pinned (OpenSpec.ofChange cursorPlaysSpec)

/-- ITS FALSE NEIGHBOUR: 'it returns false'. Refute it at one input. -/
def cursorPlaysWrong : ChangeSpec := { name := "cursorPlays", fn := fun _ => fun
  | [d1, d2] => { results := [.lit (.bool false)], args := [d1, d2] }
  | _ => none }
def CursorPlaysWrongFalsely : Prop := cursorPlaysRow.holds Try.pinned (OpenSpec.ofChange cursorPlaysWrong)

/-- 'blindfoldlaw14.CursorNone': WHATEVER THE INPUT: true; the input reads as it did. -/
def cursorNoneSpec : ChangeSpec := { name := "cursorNone", fn := fun _ => fun
  | [d1, d2] => { results := [.lit (.bool true)], args := [d1, d2] }
  | _ => none }
def cursorNoneRow : OpenClaim := { program := "yteiejcililponaa", sum := "2688ccd2a6ac829592bd5994e134dbc2792e38ab163cad5ce37dbde472b1784a", func := "blindfold/blindfoldlaw14.CursorNone", spec := "cursorNone", inPlace := ["internal/bytealg.IndexByteString", "internal/abi.NoEscape"], apart := false }
def CursorNoneSaid : Prop := cursorNoneRow.holds Try.pinned (OpenSpec.ofChange cursorNoneSpec)

/-- ITS FALSE NEIGHBOUR: 'it returns false'. Refute it at one input. -/
def cursorNoneWrong : ChangeSpec := { name := "cursorNone", fn := fun _ => fun
  | [d1, d2] => { results := [.lit (.bool false)], args := [d1, d2] }
  | _ => none }
def CursorNoneWrongFalsely : Prop := cursorNoneRow.holds Try.pinned (OpenSpec.ofChange cursorNoneWrong)

/-- 'blindfoldlaw36.OptionsParses': WHATEVER THE INPUT: true; the input reads as it did. -/
def optionsParsesSpec : ChangeSpec := { name := "optionsParses", fn := fun _ => fun
  | [d] => { results := [.lit (.bool true)], args := [d] }
  | _ => none }
def optionsParsesRow : OpenClaim := { program := "yteiejcililponaa", sum := "2688ccd2a6ac829592bd5994e134dbc2792e38ab163cad5ce37dbde472b1784a", func := "blindfold/blindfoldlaw36.OptionsParses", spec := "optionsParses", inPlace := ["internal/bytealg.IndexByteString", "internal/abi.NoEscape"], unfollowed := true, recurses := true, apart := false }
def OptionsParsesSaid : Prop := optionsParsesRow.holds Try.pinned (OpenSpec.ofChange optionsParsesSpec)

/-- ITS FALSE NEIGHBOUR: 'it returns false'. Refute it at one input. -/
def optionsParsesWrong : ChangeSpec := { name := "optionsParses", fn := fun _ => fun
  | [d] => { results := [.lit (.bool false)], args := [d] }
  | _ => none }
def OptionsParsesWrongFalsely : Prop := optionsParsesRow.holds Try.pinned (OpenSpec.ofChange optionsParsesWrong)

/-- 'blindfoldlaw22.RawCounts': WHATEVER THE INPUT: true; the input reads as it did. -/
def rawCountsSpec : ChangeSpec := { name := "rawCounts", fn := fun _ => fun
  | [d] => { results := [.lit (.bool true)], args := [d] }
  | _ => none }
def rawCountsRow : OpenClaim := { program := "yteiejcililponaa", sum := "2688ccd2a6ac829592bd5994e134dbc2792e38ab163cad5ce37dbde472b1784a", func := "blindfold/blindfoldlaw22.RawCounts", spec := "rawCounts", inPlace := ["internal/bytealg.IndexByteString", "internal/abi.NoEscape"], unfollowed := true, recurses := true, loops := true, apart := false }
def RawCountsSaid : Prop := rawCountsRow.holds Try.pinned (OpenSpec.ofChange rawCountsSpec)

/-- ITS FALSE NEIGHBOUR: 'it returns false'. Refute it at one input. -/
def rawCountsWrong : ChangeSpec := { name := "rawCounts", fn := fun _ => fun
  | [d] => { results := [.lit (.bool false)], args := [d] }
  | _ => none }
def RawCountsWrongFalsely : Prop := rawCountsRow.holds Try.pinned (OpenSpec.ofChange rawCountsWrong)

/-- 'blindfoldlaw22.RawBounds': WHATEVER THE INPUT: true; the input reads as it did. -/
def rawBoundsSpec : ChangeSpec := { name := "rawBounds", fn := fun _ => fun
  | [d] => { results := [.lit (.bool true)], args := [d] }
  | _ => none }
def rawBoundsRow : OpenClaim := { program := "yteiejcililponaa", sum := "2688ccd2a6ac829592bd5994e134dbc2792e38ab163cad5ce37dbde472b1784a", func := "blindfold/blindfoldlaw22.RawBounds", spec := "rawBounds", inPlace := ["internal/bytealg.IndexByteString", "internal/abi.NoEscape"], unfollowed := true, recurses := true, apart := false }
def RawBoundsSaid : Prop := rawBoundsRow.holds Try.pinned (OpenSpec.ofChange rawBoundsSpec)

/-- ITS FALSE NEIGHBOUR: 'it returns false'. Refute it at one input. -/
def rawBoundsWrong : ChangeSpec := { name := "rawBounds", fn := fun _ => fun
  | [d] => { results := [.lit (.bool false)], args := [d] }
  | _ => none }
def RawBoundsWrongFalsely : Prop := rawBoundsRow.holds Try.pinned (OpenSpec.ofChange rawBoundsWrong)

/-- 'blindfoldlaw36.OptionsFormats': WHATEVER THE INPUT: true; the input reads as it did. -/
def optionsFormatsSpec : ChangeSpec := { name := "optionsFormats", fn := fun _ => fun
  | [d1, d2, d3] => { results := [.lit (.bool true)], args := [d1, d2, d3] }
  | _ => none }
def optionsFormatsRow : OpenClaim := { program := "yteiejcililponaa", sum := "2688ccd2a6ac829592bd5994e134dbc2792e38ab163cad5ce37dbde472b1784a", func := "blindfold/blindfoldlaw36.OptionsFormats", spec := "optionsFormats", inPlace := ["internal/bytealg.IndexByteString", "internal/abi.NoEscape"], unfollowed := true, recurses := true, apart := false }
def OptionsFormatsSaid : Prop := optionsFormatsRow.holds Try.pinned (OpenSpec.ofChange optionsFormatsSpec)

/-- ITS FALSE NEIGHBOUR: 'it returns false'. Refute it at one input. -/
def optionsFormatsWrong : ChangeSpec := { name := "optionsFormats", fn := fun _ => fun
  | [d1, d2, d3] => { results := [.lit (.bool false)], args := [d1, d2, d3] }
  | _ => none }
def OptionsFormatsWrongFalsely : Prop := optionsFormatsRow.holds Try.pinned (OpenSpec.ofChange optionsFormatsWrong)

/-- 'blindfoldlaw36.OptionsBack': WHATEVER THE INPUT: true; the input reads as it did. -/
def optionsBackSpec : ChangeSpec := { name := "optionsBack", fn := fun _ => fun
  | [d1, d2] => { results := [.lit (.bool true)], args := [d1, d2] }
  | _ => none }
def optionsBackRow : OpenClaim := { program := "yteiejcililponaa", sum := "2688ccd2a6ac829592bd5994e134dbc2792e38ab163cad5ce37dbde472b1784a", func := "blindfold/blindfoldlaw36.OptionsBack", spec := "optionsBack", inPlace := ["internal/bytealg.IndexByteString", "internal/abi.NoEscape"], unfollowed := true, recurses := true, apart := false }
def OptionsBackSaid : Prop := optionsBackRow.holds Try.pinned (OpenSpec.ofChange optionsBackSpec)

/-- ITS FALSE NEIGHBOUR: 'it returns false'. Refute it at one input. -/
def optionsBackWrong : ChangeSpec := { name := "optionsBack", fn := fun _ => fun
  | [d1, d2] => { results := [.lit (.bool false)], args := [d1, d2] }
  | _ => none }
def OptionsBackWrongFalsely : Prop := optionsBackRow.holds Try.pinned (OpenSpec.ofChange optionsBackWrong)

/-- 'blindfoldlaw16.SyntaxBlanks': WHATEVER THE INPUT: true; the input reads as it did. -/
def syntaxBlanksSpec : ChangeSpec := { name := "syntaxBlanks", fn := fun _ => fun
  | [d] => { results := [.lit (.bool true)], args := [d] }
  | _ => none }
def syntaxBlanksRow : OpenClaim := { program := "yteiejcililponaa", sum := "2688ccd2a6ac829592bd5994e134dbc2792e38ab163cad5ce37dbde472b1784a", func := "blindfold/blindfoldlaw16.SyntaxBlanks", spec := "syntaxBlanks", inPlace := ["internal/bytealg.IndexByteString", "internal/abi.NoEscape"], unfollowed := true, recurses := true, apart := false }
def SyntaxBlanksSaid : Prop := syntaxBlanksRow.holds Try.pinned (OpenSpec.ofChange syntaxBlanksSpec)

/-- ITS FALSE NEIGHBOUR: 'it returns false'. Refute it at one input. -/
def syntaxBlanksWrong : ChangeSpec := { name := "syntaxBlanks", fn := fun _ => fun
  | [d] => { results := [.lit (.bool false)], args := [d] }
  | _ => none }
def SyntaxBlanksWrongFalsely : Prop := syntaxBlanksRow.holds Try.pinned (OpenSpec.ofChange syntaxBlanksWrong)

/-- 'blindfoldlaw23.RawformBack': WHATEVER THE INPUT: true; the input reads as it did. -/
def rawformBackSpec : ChangeSpec := { name := "rawformBack", fn := fun _ => fun
  | [d1, d2] => { results := [.lit (.bool true)], args := [d1, d2] }
  | _ => none }
def rawformBackRow : OpenClaim := { program := "yteiejcililponaa", sum := "2688ccd2a6ac829592bd5994e134dbc2792e38ab163cad5ce37dbde472b1784a", func := "blindfold/blindfoldlaw23.RawformBack", spec := "rawformBack", inPlace := ["internal/abi.NoEscape", "internal/bytealg.IndexByteString"], unfollowed := true, recurses := true, loops := true, apart := false }
def RawformBackSaid : Prop := rawformBackRow.holds Try.pinned (OpenSpec.ofChange rawformBackSpec)

/-- ITS FALSE NEIGHBOUR: 'it returns false'. Refute it at one input. -/
def rawformBackWrong : ChangeSpec := { name := "rawformBack", fn := fun _ => fun
  | [d1, d2] => { results := [.lit (.bool false)], args := [d1, d2] }
  | _ => none }
def RawformBackWrongFalsely : Prop := rawformBackRow.holds Try.pinned (OpenSpec.ofChange rawformBackWrong)

/- THE SECOND FORM. 'bulk': how many values and letters a reading holds, each counted each time it is reached (what is shared counts as often as it is met; a slice's spare places count too). A statement '..UptoSaid' is the law's where the arguments, and the package variables that the reading takes, are together of bulk at most 1048576: NARROWER than '..Said'. Prove '..Said' where nothing that the law and all that it calls make is longer than what came in: it says more and counts as full. Else prove '..UptoSaid'. A law counts once. -/
mutual
def uptoBulk {H : Type} : DataW H → Nat
  | .lit (.string bytes) => bytes.length + 1
  | .lit _ => 1
  | .nil => 1
  | .ptr d => uptoBulk d + 1
  | .slice elems spare => uptoBulkAll elems + uptoBulkAll spare + 1
  | .agg parts => uptoBulkAll parts + 1
  | .iface _ d => uptoBulk d + 1
  | .map entries => uptoBulkEntries entries + 1
  | .held _ => 1
def uptoBulkAll {H : Type} : List (DataW H) → Nat
  | [] => 0
  | d :: r => uptoBulk d + uptoBulkAll r
def uptoBulkEntries {H : Type} : List (Lit × DataW H) → Nat
  | [] => 0
  | x :: r => uptoBulkEntry x + uptoBulkEntries r
def uptoBulkEntry {H : Type} : Lit × DataW H → Nat
  | (.string bytes, d) => bytes.length + uptoBulk d + 1
  | (_, d) => uptoBulk d + 1
 end
def uptoSmall : (H : Type) → List (DataW H) → Bool := fun _ ds => decide (uptoBulkAll ds ≤ 1048576)
def OpenSpec.upto (s : _root_.Go.ChangeSpec) : _root_.Go.OpenSpec := { _root_.Go.OpenSpec.ofChange s with cond := some uptoSmall }

/-- 'blindfoldlaw23.RawformStrips', WHERE WHAT IT READS IS OF BULK AT MOST 1048576: true; the input reads as it did. -/
def rawformStripsUptoRow : OpenClaim := { program := "yteiejcililponaa", sum := "2688ccd2a6ac829592bd5994e134dbc2792e38ab163cad5ce37dbde472b1784a", func := "blindfold/blindfoldlaw23.RawformStrips", spec := "rawformStrips", inPlace := ["internal/abi.NoEscape"], recurses := true, loops := true, apart := false, narrowed := true }
def RawformStripsUptoSaid : Prop := rawformStripsUptoRow.holds Try.pinned (OpenSpec.upto rawformStripsSpec)

/-- 'blindfoldlaw29.DocFlat', WHERE WHAT IT READS IS OF BULK AT MOST 1048576: true; the input reads as it did. -/
def docFlatUptoRow : OpenClaim := { program := "yteiejcililponaa", sum := "2688ccd2a6ac829592bd5994e134dbc2792e38ab163cad5ce37dbde472b1784a", func := "blindfold/blindfoldlaw29.DocFlat", spec := "docFlat", inPlace := ["internal/bytealg.IndexByteString", "internal/bytealg.IndexString", "internal/abi.NoEscape"], recurses := true, named := ["internal/bytealg.MaxLen"], loops := true, apart := false, narrowed := true }
def DocFlatUptoSaid : Prop := docFlatUptoRow.holds Try.pinned (OpenSpec.upto docFlatSpec)

/-- 'blindfoldlaw30.FitsPieces', WHERE WHAT IT READS IS OF BULK AT MOST 1048576: true; the input reads as it did. -/
def fitsPiecesUptoRow : OpenClaim := { program := "yteiejcililponaa", sum := "2688ccd2a6ac829592bd5994e134dbc2792e38ab163cad5ce37dbde472b1784a", func := "blindfold/blindfoldlaw30.FitsPieces", spec := "fitsPieces", inPlace := ["internal/bytealg.IndexByteString", "internal/bytealg.IndexString"], recurses := true, named := ["internal/bytealg.MaxLen"], loops := true, apart := false, narrowed := true }
def FitsPiecesUptoSaid : Prop := fitsPiecesUptoRow.holds Try.pinned (OpenSpec.upto fitsPiecesSpec)

/-- 'blindfoldlaw13.TokensScans', WHERE WHAT IT READS IS OF BULK AT MOST 1048576: true; the input reads as it did. -/
def tokensScansUptoRow : OpenClaim := { program := "yteiejcililponaa", sum := "2688ccd2a6ac829592bd5994e134dbc2792e38ab163cad5ce37dbde472b1784a", func := "blindfold/blindfoldlaw13.TokensScans", spec := "tokensScans", inPlace := ["internal/bytealg.IndexByteString", "internal/abi.NoEscape"], apart := false, narrowed := true }
def TokensScansUptoSaid : Prop := tokensScansUptoRow.holds Try.pinned (OpenSpec.upto tokensScansSpec)

/-- 'blindfoldlaw13.TokensMarks', WHERE WHAT IT READS IS OF BULK AT MOST 1048576: true; the input reads as it did. -/
def tokensMarksUptoRow : OpenClaim := { program := "yteiejcililponaa", sum := "2688ccd2a6ac829592bd5994e134dbc2792e38ab163cad5ce37dbde472b1784a", func := "blindfold/blindfoldlaw13.TokensMarks", spec := "tokensMarks", inPlace := ["internal/bytealg.IndexByteString", "internal/abi.NoEscape"], apart := false, narrowed := true }
def TokensMarksUptoSaid : Prop := tokensMarksUptoRow.holds Try.pinned (OpenSpec.upto tokensMarksSpec)

/-- 'blindfoldlaw13.TokensCover', WHERE WHAT IT READS IS OF BULK AT MOST 1048576: true; the input reads as it did. -/
def tokensCoverUptoRow : OpenClaim := { program := "yteiejcililponaa", sum := "2688ccd2a6ac829592bd5994e134dbc2792e38ab163cad5ce37dbde472b1784a", func := "blindfold/blindfoldlaw13.TokensCover", spec := "tokensCover", inPlace := ["internal/bytealg.IndexByteString", "internal/abi.NoEscape"], apart := false, narrowed := true }
def TokensCoverUptoSaid : Prop := tokensCoverUptoRow.holds Try.pinned (OpenSpec.upto tokensCoverSpec)

/-- 'blindfoldlaw14.CursorStays', WHERE WHAT IT READS IS OF BULK AT MOST 1048576: true; the input reads as it did. -/
def cursorStaysUptoRow : OpenClaim := { program := "yteiejcililponaa", sum := "2688ccd2a6ac829592bd5994e134dbc2792e38ab163cad5ce37dbde472b1784a", func := "blindfold/blindfoldlaw14.CursorStays", spec := "cursorStays", inPlace := ["internal/bytealg.IndexByteString", "internal/abi.NoEscape"], apart := false, narrowed := true }
def CursorStaysUptoSaid : Prop := cursorStaysUptoRow.holds Try.pinned (OpenSpec.upto cursorStaysSpec)

/-- 'blindfoldlaw14.CursorPlays', WHERE WHAT IT READS IS OF BULK AT MOST 1048576: true; the input reads as it did. -/
def cursorPlaysUptoRow : OpenClaim := { program := "yteiejcililponaa", sum := "2688ccd2a6ac829592bd5994e134dbc2792e38ab163cad5ce37dbde472b1784a", func := "blindfold/blindfoldlaw14.CursorPlays", spec := "cursorPlays", inPlace := ["internal/bytealg.IndexByteString", "internal/abi.NoEscape"], apart := false, narrowed := true }
def CursorPlaysUptoSaid : Prop := cursorPlaysUptoRow.holds Try.pinned (OpenSpec.upto cursorPlaysSpec)

/-- 'blindfoldlaw14.CursorNone', WHERE WHAT IT READS IS OF BULK AT MOST 1048576: true; the input reads as it did. -/
def cursorNoneUptoRow : OpenClaim := { program := "yteiejcililponaa", sum := "2688ccd2a6ac829592bd5994e134dbc2792e38ab163cad5ce37dbde472b1784a", func := "blindfold/blindfoldlaw14.CursorNone", spec := "cursorNone", inPlace := ["internal/bytealg.IndexByteString", "internal/abi.NoEscape"], apart := false, narrowed := true }
def CursorNoneUptoSaid : Prop := cursorNoneUptoRow.holds Try.pinned (OpenSpec.upto cursorNoneSpec)

/-- 'blindfoldlaw36.OptionsParses', WHERE WHAT IT READS IS OF BULK AT MOST 1048576: true; the input reads as it did. -/
def optionsParsesUptoRow : OpenClaim := { program := "yteiejcililponaa", sum := "2688ccd2a6ac829592bd5994e134dbc2792e38ab163cad5ce37dbde472b1784a", func := "blindfold/blindfoldlaw36.OptionsParses", spec := "optionsParses", inPlace := ["internal/bytealg.IndexByteString", "internal/abi.NoEscape"], unfollowed := true, recurses := true, apart := false, narrowed := true }
def OptionsParsesUptoSaid : Prop := optionsParsesUptoRow.holds Try.pinned (OpenSpec.upto optionsParsesSpec)

/-- 'blindfoldlaw22.RawCounts', WHERE WHAT IT READS IS OF BULK AT MOST 1048576: true; the input reads as it did. -/
def rawCountsUptoRow : OpenClaim := { program := "yteiejcililponaa", sum := "2688ccd2a6ac829592bd5994e134dbc2792e38ab163cad5ce37dbde472b1784a", func := "blindfold/blindfoldlaw22.RawCounts", spec := "rawCounts", inPlace := ["internal/bytealg.IndexByteString", "internal/abi.NoEscape"], unfollowed := true, recurses := true, loops := true, apart := false, narrowed := true }
def RawCountsUptoSaid : Prop := rawCountsUptoRow.holds Try.pinned (OpenSpec.upto rawCountsSpec)

/-- 'blindfoldlaw22.RawBounds', WHERE WHAT IT READS IS OF BULK AT MOST 1048576: true; the input reads as it did. -/
def rawBoundsUptoRow : OpenClaim := { program := "yteiejcililponaa", sum := "2688ccd2a6ac829592bd5994e134dbc2792e38ab163cad5ce37dbde472b1784a", func := "blindfold/blindfoldlaw22.RawBounds", spec := "rawBounds", inPlace := ["internal/bytealg.IndexByteString", "internal/abi.NoEscape"], unfollowed := true, recurses := true, apart := false, narrowed := true }
def RawBoundsUptoSaid : Prop := rawBoundsUptoRow.holds Try.pinned (OpenSpec.upto rawBoundsSpec)

/-- 'blindfoldlaw36.OptionsFormats', WHERE WHAT IT READS IS OF BULK AT MOST 1048576: true; the input reads as it did. -/
def optionsFormatsUptoRow : OpenClaim := { program := "yteiejcililponaa", sum := "2688ccd2a6ac829592bd5994e134dbc2792e38ab163cad5ce37dbde472b1784a", func := "blindfold/blindfoldlaw36.OptionsFormats", spec := "optionsFormats", inPlace := ["internal/bytealg.IndexByteString", "internal/abi.NoEscape"], unfollowed := true, recurses := true, apart := false, narrowed := true }
def OptionsFormatsUptoSaid : Prop := optionsFormatsUptoRow.holds Try.pinned (OpenSpec.upto optionsFormatsSpec)

/-- 'blindfoldlaw36.OptionsBack', WHERE WHAT IT READS IS OF BULK AT MOST 1048576: true; the input reads as it did. -/
def optionsBackUptoRow : OpenClaim := { program := "yteiejcililponaa", sum := "2688ccd2a6ac829592bd5994e134dbc2792e38ab163cad5ce37dbde472b1784a", func := "blindfold/blindfoldlaw36.OptionsBack", spec := "optionsBack", inPlace := ["internal/bytealg.IndexByteString", "internal/abi.NoEscape"], unfollowed := true, recurses := true, apart := false, narrowed := true }
def OptionsBackUptoSaid : Prop := optionsBackUptoRow.holds Try.pinned (OpenSpec.upto optionsBackSpec)

/-- 'blindfoldlaw16.SyntaxBlanks', WHERE WHAT IT READS IS OF BULK AT MOST 1048576: true; the input reads as it did. -/
def syntaxBlanksUptoRow : OpenClaim := { program := "yteiejcililponaa", sum := "2688ccd2a6ac829592bd5994e134dbc2792e38ab163cad5ce37dbde472b1784a", func := "blindfold/blindfoldlaw16.SyntaxBlanks", spec := "syntaxBlanks", inPlace := ["internal/bytealg.IndexByteString", "internal/abi.NoEscape"], unfollowed := true, recurses := true, apart := false, narrowed := true }
def SyntaxBlanksUptoSaid : Prop := syntaxBlanksUptoRow.holds Try.pinned (OpenSpec.upto syntaxBlanksSpec)

/-- 'blindfoldlaw23.RawformBack', WHERE WHAT IT READS IS OF BULK AT MOST 1048576: true; the input reads as it did. -/
def rawformBackUptoRow : OpenClaim := { program := "yteiejcililponaa", sum := "2688ccd2a6ac829592bd5994e134dbc2792e38ab163cad5ce37dbde472b1784a", func := "blindfold/blindfoldlaw23.RawformBack", spec := "rawformBack", inPlace := ["internal/abi.NoEscape", "internal/bytealg.IndexByteString"], unfollowed := true, recurses := true, loops := true, apart := false, narrowed := true }
def RawformBackUptoSaid : Prop := rawformBackUptoRow.holds Try.pinned (OpenSpec.upto rawformBackSpec)

end Rows
end Go.Proofs.Yteiejcililponaa
