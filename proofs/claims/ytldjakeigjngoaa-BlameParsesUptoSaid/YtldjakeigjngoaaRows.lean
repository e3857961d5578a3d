/-
  NARROWER THAN 'FOR EVERY INPUT', by the rows' own cells (each row's printed sentence says how): DocMakes: loops · RawformStrips: loops · DocFlat: loops · FitsPieces: loops · RawformBack: loops.
  DERIVED. THE GIVEN ROWS OF THIS SEAT. 7 by the template 'for every input the law returns true; each argument reads behind the call as it read before'; 0 by the template 'total and deterministic' (their statements: YtldjakeigjngoaaTotals.lean).
  GIVEN WITH THE SEED: the statements are not yours to turn. If you find one false, say at which input.
  Laid BY PROGRAM, IN A SANDBOX (cutbox-rows.mjs): the forced cells as the released guide's own fill.sh prints them over the translation d3e8aaf70d935501… (all of the seat's roots in one cut). By AI agents, Wed Nov 11 2026. No macro, syntax, notation, axiom, sorry.
-/
import Derived.Test.YtldjakeigjngoaaChecked
import GoSem.Claim
import GoSem.ClaimJoined
import GoSem.ClaimMapViews
import Derived.JoinedTies
import Derived.KernelRfl
namespace Go.Proofs.Ytldjakeigjngoaa
/- THE CELL 'sum', in the pinned program and in every row, IS THE sha256 OF THE DUMP (.gsa) THAT YtldjakeigjngoaaProg.lean LOADS. Nothing in Lean hashes anything: it is a label: what it is worth is what the hold of that sum in a sandbox is worth. -/
noncomputable def Try.pinned : Pinned := { name := "ytldjakeigjngoaa", sum := "d3e8aaf70d9355012b5cce4686c201dde1db67bd3970d4e3f4d4c4f186b886f6", checked := Try.checked }
namespace Rows
def none {H : Type} : Left H := { results := [], args := [] }

/-- 'blindfoldlaw37.BlameParses': WHATEVER THE INPUT: true; the input reads as it did. -/
def blameParsesSpec : ChangeSpec := { name := "blameParses", fn := fun _ => fun
  | [d1, d2, d3] => { results := [.lit (.bool true)], args := [d1, d2, d3] }
  | _ => none }
def blameParsesRow : OpenClaim := { program := "ytldjakeigjngoaa", sum := "d3e8aaf70d9355012b5cce4686c201dde1db67bd3970d4e3f4d4c4f186b886f6", func := "blindfold/blindfoldlaw37.BlameParses", spec := "blameParses", inPlace := ["internal/bytealg.IndexByteString", "internal/bytealg.IndexString"], recurses := true, named := ["internal/bytealg.MaxLen"], apart := false }
def BlameParsesSaid : Prop := blameParsesRow.holds Try.pinned (OpenSpec.ofChange blameParsesSpec)

/-- ITS FALSE NEIGHBOUR: 'it returns false'. Refute it at one input. -/
def blameParsesWrong : ChangeSpec := { name := "blameParses", fn := fun _ => fun
  | [d1, d2, d3] => { results := [.lit (.bool false)], args := [d1, d2, d3] }
  | _ => none }
def BlameParsesWrongFalsely : Prop := blameParsesRow.holds Try.pinned (OpenSpec.ofChange blameParsesWrong)

/-- 'blindfoldlaw29.DocMakes': WHATEVER THE INPUT: true; the input reads as it did. -/
def docMakesSpec : ChangeSpec := { name := "docMakes", fn := fun _ => fun
  | [d1, d2, d3] => { results := [.lit (.bool true)], args := [d1, d2, d3] }
  | _ => none }
def docMakesRow : OpenClaim := { program := "ytldjakeigjngoaa", sum := "d3e8aaf70d9355012b5cce4686c201dde1db67bd3970d4e3f4d4c4f186b886f6", func := "blindfold/blindfoldlaw29.DocMakes", spec := "docMakes", inPlace := ["internal/bytealg.IndexByteString", "internal/bytealg.IndexString", "internal/abi.NoEscape"], recurses := true, named := ["internal/bytealg.MaxLen"], loops := true, apart := false }
def DocMakesSaid : Prop := docMakesRow.holds Try.pinned (OpenSpec.ofChange docMakesSpec)

/-- ITS FALSE NEIGHBOUR: 'it returns false'. Refute it at one input. -/
def docMakesWrong : ChangeSpec := { name := "docMakes", fn := fun _ => fun
  | [d1, d2, d3] => { results := [.lit (.bool false)], args := [d1, d2, d3] }
  | _ => none }
def DocMakesWrongFalsely : Prop := docMakesRow.holds Try.pinned (OpenSpec.ofChange docMakesWrong)

/-- 'blindfoldlaw23.RawformStrips': WHATEVER THE INPUT: true; the input reads as it did. -/
def rawformStripsSpec : ChangeSpec := { name := "rawformStrips", fn := fun _ => fun
  | [d1, d2] => { results := [.lit (.bool true)], args := [d1, d2] }
  | _ => none }
def rawformStripsRow : OpenClaim := { program := "ytldjakeigjngoaa", sum := "d3e8aaf70d9355012b5cce4686c201dde1db67bd3970d4e3f4d4c4f186b886f6", func := "blindfold/blindfoldlaw23.RawformStrips", spec := "rawformStrips", inPlace := ["internal/abi.NoEscape"], recurses := true, loops := true, apart := false }
def RawformStripsSaid : Prop := rawformStripsRow.holds Try.pinned (OpenSpec.ofChange rawformStripsSpec)

/-- ITS FALSE NEIGHBOUR: 'it returns false'. Refute it at one input. -/
def rawformStripsWrong : ChangeSpec := { name := "rawformStrips", fn := fun _ => fun
  | [d1, d2] => { results := [.lit (.bool false)], args := [d1, d2] }
  | _ => none }
def RawformStripsWrongFalsely : Prop := rawformStripsRow.holds Try.pinned (OpenSpec.ofChange rawformStripsWrong)

/-- 'blindfoldlaw29.DocFlat': WHATEVER THE INPUT: true; the input reads as it did. -/
def docFlatSpec : ChangeSpec := { name := "docFlat", fn := fun _ => fun
  | [d1, d2] => { results := [.lit (.bool true)], args := [d1, d2] }
  | _ => none }
def docFlatRow : OpenClaim := { program := "ytldjakeigjngoaa", sum := "d3e8aaf70d9355012b5cce4686c201dde1db67bd3970d4e3f4d4c4f186b886f6", func := "blindfold/blindfoldlaw29.DocFlat", spec := "docFlat", inPlace := ["internal/bytealg.IndexByteString", "internal/bytealg.IndexString", "internal/abi.NoEscape"], recurses := true, named := ["internal/bytealg.MaxLen"], loops := true, apart := false }
def DocFlatSaid : Prop := docFlatRow.holds Try.pinned (OpenSpec.ofChange docFlatSpec)

/-- ITS FALSE NEIGHBOUR: 'it returns false'. Refute it at one input. -/
def docFlatWrong : ChangeSpec := { name := "docFlat", fn := fun _ => fun
  | [d1, d2] => { results := [.lit (.bool false)], args := [d1, d2] }
  | _ => none }
def DocFlatWrongFalsely : Prop := docFlatRow.holds Try.pinned (OpenSpec.ofChange docFlatWrong)

/-- 'blindfoldlaw30.FitsPieces': WHATEVER THE INPUT: true; the input reads as it did. -/
def fitsPiecesSpec : ChangeSpec := { name := "fitsPieces", fn := fun _ => fun
  | [d] => { results := [.lit (.bool true)], args := [d] }
  | _ => none }
def fitsPiecesRow : OpenClaim := { program := "ytldjakeigjngoaa", sum := "d3e8aaf70d9355012b5cce4686c201dde1db67bd3970d4e3f4d4c4f186b886f6", func := "blindfold/blindfoldlaw30.FitsPieces", spec := "fitsPieces", inPlace := ["internal/bytealg.IndexByteString", "internal/bytealg.IndexString"], recurses := true, named := ["internal/bytealg.MaxLen"], loops := true, apart := false }
def FitsPiecesSaid : Prop := fitsPiecesRow.holds Try.pinned (OpenSpec.ofChange fitsPiecesSpec)

/-- ITS FALSE NEIGHBOUR: 'it returns false'. Refute it at one input. -/
def fitsPiecesWrong : ChangeSpec := { name := "fitsPieces", fn := fun _ => fun
  | [d] => { results := [.lit (.bool false)], args := [d] }
  | _ => none }
def FitsPiecesWrongFalsely : Prop := fitsPiecesRow.holds Try.pinned (OpenSpec.ofChange fitsPiecesWrong)

/-- 'blindfoldlaw16.SyntaxBlanks': WHATEVER THE INPUT: true; the input reads as it did. -/
def syntaxBlanksSpec : ChangeSpec := { name := "syntaxBlanks", fn := fun _ => fun
  | [d] => { results := [.lit (.bool true)], args := [d] }
  | _ => none }
def syntaxBlanksRow : OpenClaim := { program := "ytldjakeigjngoaa", sum := "d3e8aaf70d9355012b5cce4686c201dde1db67bd3970d4e3f4d4c4f186b886f6", func := "blindfold/blindfoldlaw16.SyntaxBlanks", spec := "syntaxBlanks", inPlace := ["internal/bytealg.IndexByteString", "internal/abi.NoEscape"], unfollowed := true, recurses := true, apart := false }
def SyntaxBlanksSaid : Prop := syntaxBlanksRow.holds Try.pinned (OpenSpec.ofChange syntaxBlanksSpec)

/-- ITS FALSE NEIGHBOUR: 'it returns false'. Refute it at one input. -/
def syntaxBlanksWrong : ChangeSpec := { name := "syntaxBlanks", fn := fun _ => fun
  | [d] => { results := [.lit (.bool false)], args := [d] }
  | _ => none }
def SyntaxBlanksWrongFalsely : Prop := syntaxBlanksRow.holds Try.pinned (OpenSpec.ofChange syntaxBlanksWrong)

/-- 'blindfoldlaw23.RawformBack': WHATEVER THE INPUT: true; the input reads as it did. -/
def rawformBackSpec : ChangeSpec := { name := "rawformBack", fn := fun _ => fun
  | [d1, d2] => { results := [.lit (.bool true)], args := [d1, d2] }
  | _ => none }
def rawformBackRow : OpenClaim := { program := "ytldjakeigjngoaa", sum := "d3e8aaf70d9355012b5cce4686c201dde1db67bd3970d4e3f4d4c4f186b886f6", func := "blindfold/blindfoldlaw23.RawformBack", spec := "rawformBack", inPlace := ["internal/abi.NoEscape", "internal/bytealg.IndexByteString"], unfollowed := true, recurses := true, loops := true, apart := false }
def RawformBackSaid : Prop := rawformBackRow.holds Try.pinned (OpenSpec.ofChange rawformBackSpec)

/-- ITS FALSE NEIGHBOUR: 'it returns false'. Refute it at one input. -/
def rawformBackWrong : ChangeSpec := { name := "rawformBack", fn := fun _ => fun
  | [d1, d2] => { results := [.lit (.bool false)], args := [d1, d2] }
  | _ => none }
def RawformBackWrongFalsely : Prop := rawformBackRow.holds Try.pinned (OpenSpec.ofChange rawformBackWrong)

/- THE SECOND FORM. 'bulk': how many values and letters a reading holds, each counted each time it is reached (what is shared counts as often as it is met; a slice's spare places count too). A statement '..UptoSaid' is the law's where the arguments, and the package variables that the reading takes, are together of bulk at most 1048576: NARROWER than '..Said'. Prove '..Said' where nothing that the law and all that it calls make is longer than what came in: it says more and counts as full. Else prove '..UptoSaid'. A law counts once. -/
mutual
def uptoBulk {H : Type} : DataW H → Nat
  | .lit (.string bytes) => bytes.length + 1
  | .lit _ => 1
  | .nil => 1
  | .ptr d => uptoBulk d + 1
  | .slice elems spare => uptoBulkAll elems + uptoBulkAll spare + 1
  | .agg parts => uptoBulkAll parts + 1
  | .iface _ d => uptoBulk d + 1
  | .map entries => uptoBulkEntries entries + 1
  | .held _ => 1
def uptoBulkAll {H : Type} : List (DataW H) → Nat
  | [] => 0
  | d :: r => uptoBulk d + uptoBulkAll r
def uptoBulkEntries {H : Type} : List (Lit × DataW H) → Nat
  | [] => 0
  | x :: r => uptoBulkEntry x + uptoBulkEntries r
def uptoBulkEntry {H : Type} : Lit × DataW H → Nat
  | (.string bytes, d) => bytes.length + uptoBulk d + 1
  | (_, d) => uptoBulk d + 1
 end
def uptoSmall : (H : Type) → List (DataW H) → Bool := fun _ ds => decide (uptoBulkAll ds ≤ 1048576)
def OpenSpec.upto (s : _root_.Go.ChangeSpec) : _root_.Go.OpenSpec := { _root_.Go.OpenSpec.ofChange s with cond := some uptoSmall }

/-- 'blindfoldlaw37.BlameParses', WHERE WHAT IT READS IS OF BULK AT MOST 1048576: true; the input reads as it did. -/
def blameParsesUptoRow : OpenClaim := { program := "ytldjakeigjngoaa", sum := "d3e8aaf70d9355012b5cce4686c201dde1db67bd3970d4e3f4d4c4f186b886f6", func := "blindfold/blindfoldlaw37.BlameParses", spec := "blameParses", inPlace := ["internal/bytealg.IndexByteString", "internal/bytealg.IndexString"], recurses := true, named := ["internal/bytealg.MaxLen"], apart := false, narrowed := true }
def BlameParsesUptoSaid : Prop := blameParsesUptoRow.holds Try.pinned (OpenSpec.upto blameParsesSpec)

/-- 'blindfoldlaw29.DocMakes', WHERE WHAT IT READS IS OF BULK AT MOST 1048576: true; the input reads as it did. -/
def docMakesUptoRow : OpenClaim := { program := "ytldjakeigjngoaa", sum := "d3e8aaf70d9355012b5cce4686c201dde1db67bd3970d4e3f4d4c4f186b886f6", func := "blindfold/blindfoldlaw29.DocMakes", spec := "docMakes", inPlace := ["internal/bytealg.IndexByteString", "internal/bytealg.IndexString", "internal/abi.NoEscape"], recurses := true, named := ["internal/bytealg.MaxLen"], loops := true, apart := false, narrowed := true }
def DocMakesUptoSaid : Prop := docMakesUptoRow.holds Try.pinned (OpenSpec.upto docMakesSpec)

/-- 'blindfoldlaw23.RawformStrips', WHERE WHAT IT READS IS OF BULK AT MOST 1048576: true; the input reads as it did. -/
def rawformStripsUptoRow : OpenClaim := { program := "ytldjakeigjngoaa", sum := "d3e8aaf70d9355012b5cce4686c201dde1db67bd3970d4e3f4d4c4f186b886f6", func := "blindfold/blindfoldlaw23.RawformStrips", spec := "rawformStrips", inPlace := ["internal/abi.NoEscape"], recurses := true, loops := true, apart := false, narrowed := true }
def RawformStripsUptoSaid : Prop := rawformStripsUptoRow.holds Try.pinned (OpenSpec.upto rawformStripsSpec)

/-- 'blindfoldlaw29.DocFlat', WHERE WHAT IT READS IS OF BULK AT MOST 1048576: true; the input reads as it did. -/
def docFlatUptoRow : OpenClaim := { program := "ytldjakeigjngoaa", sum := "d3e8aaf70d9355012b5cce4686c201dde1db67bd3970d4e3f4d4c4f186b886f6", func := "blindfold/blindfoldlaw29.DocFlat", spec := "docFlat", inPlace := ["internal/bytealg.IndexByteString", "internal/bytealg.IndexString", "internal/abi.NoEscape"], recurses := true, named := ["internal/bytealg.MaxLen"], loops := true, apart := false, narrowed := true }
def DocFlatUptoSaid : Prop := docFlatUptoRow.holds Try.pinned (OpenSpec.upto docFlatSpec)

/-- 'blindfoldlaw30.FitsPieces', WHERE WHAT IT READS IS OF BULK AT MOST 1048576: true; the input reads as it did. -/
def fitsPiecesUptoRow : OpenClaim := { program := "ytldjakeigjngoaa", sum := "d3e8aaf70d9355012b5cce4686c201dde1db67bd3970d4e3f4d4c4f186b886f6", func := "blindfold/blindfoldlaw30.FitsPieces", spec := "fitsPieces", inPlace := ["internal/bytealg.IndexByteString", "internal/bytealg.IndexString"], recurses := true, named := ["internal/bytealg.MaxLen"], loops := true, apart := false, narrowed := true }
def FitsPiecesUptoSaid : Prop := fitsPiecesUptoRow.holds Try.pinned (OpenSpec.upto fitsPiecesSpec)

/-- 'blindfoldlaw16.SyntaxBlanks', WHERE WHAT IT READS IS OF BULK AT MOST 1048576: true; the input reads as it did. -/
def syntaxBlanksUptoRow : OpenClaim := { program := "ytldjakeigjngoaa", sum := "d3e8aaf70d9355012b5cce4686c201dde1db67bd3970d4e3f4d4c4f186b886f6", func := "blindfold/blindfoldlaw16.SyntaxBlanks", spec := "syntaxBlanks", inPlace := ["internal/bytealg.IndexByteString", "internal/abi.NoEscape"], unfollowed := true, recurses := true, apart := false, narrowed := true }
def SyntaxBlanksUptoSaid : Prop := syntaxBlanksUptoRow.holds Try.pinned (OpenSpec.upto syntaxBlanksSpec)

/-- 'blindfoldlaw23.RawformBack', WHERE WHAT IT READS IS OF BULK AT MOST 1048576: true; the input reads as it did. -/
def rawformBackUptoRow : OpenClaim := { program := "ytldjakeigjngoaa", sum := "d3e8aaf70d9355012b5cce4686c201dde1db67bd3970d4e3f4d4c4f186b886f6", func := "blindfold/blindfoldlaw23.RawformBack", spec := "rawformBack", inPlace := ["internal/abi.NoEscape", "internal/bytealg.IndexByteString"], unfollowed := true, recurses := true, loops := true, apart := false, narrowed := true }
def RawformBackUptoSaid : Prop := rawformBackUptoRow.holds Try.pinned (OpenSpec.upto rawformBackSpec)

end Rows
end Go.Proofs.Ytldjakeigjngoaa
