/-
  No cell of these rows narrows 'for every input' (looked for: loops, veiled, ifaces, maps, wideKeys, modest, calm, conditions, laid).
  DERIVED. THE GIVEN ROWS OF THIS SEAT. 3 by the template 'for every input the law returns true; each argument reads behind the call as it read before'; 0 by the template 'total and deterministic' (their statements: YtldjakeigjngoaaGreatTotals.lean).
  GIVEN WITH THE SEED: the statements are not yours to turn. If you find one false, say at which input.
  Laid BY PROGRAM, IN A SANDBOX (cutbox-rows.mjs): the forced cells as the released guide's own fill.sh prints them over the translation 7e5f6b4912cbc9e9… (all of the seat's roots in one cut). By AI agents, Wed Nov 11 2026. No macro, syntax, notation, axiom, sorry.
-/
import Derived.Test.YtldjakeigjngoaaGreatChecked
import GoSem.Claim
import GoSem.ClaimJoined
import GoSem.ClaimMapViews
import Derived.JoinedTies
import Derived.KernelRfl
namespace Go.Proofs.YtldjakeigjngoaaGreat
/- THE CELL 'sum', in the pinned program and in every row, IS THE sha256 OF THE DUMP (.gsa) THAT YtldjakeigjngoaaGreatProg.lean LOADS. Nothing in Lean hashes anything: it is a label: what it is worth is what the hold of that sum in a sandbox is worth. -/
noncomputable def Tryz.pinned : Pinned := { name := "ytldjakeigjngoaagreat", sum := "7e5f6b4912cbc9e9293dab551017b11ffae5e168538e1a961e9d8b6da94e5f5d", checked := Tryz.checked }
namespace Rows
def none {H : Type} : Left H := { results := [], args := [] }

/-- 'blindfoldlaw22.RawParses': WHATEVER THE INPUT: true; the input reads as it did. -/
def rawParsesSpec : ChangeSpec := { name := "rawParses", fn := fun _ => fun
  | [d] => { results := [.lit (.bool true)], args := [d] }
  | _ => none }
def rawParsesRow : OpenClaim := { program := "ytldjakeigjngoaagreat", sum := "7e5f6b4912cbc9e9293dab551017b11ffae5e168538e1a961e9d8b6da94e5f5d", func := "blindfold/blindfoldlaw22.RawParses", spec := "rawParses", inPlace := ["internal/bytealg.IndexByteString", "internal/abi.NoEscape"], unfollowed := true, recurses := true, apart := false }
def RawParsesSaid : Prop := rawParsesRow.holds Tryz.pinned (OpenSpec.ofChange rawParsesSpec)

/-- ITS FALSE NEIGHBOUR: 'it returns false'. Refute it at one input. -/
def rawParsesWrong : ChangeSpec := { name := "rawParses", fn := fun _ => fun
  | [d] => { results := [.lit (.bool false)], args := [d] }
  | _ => none }
def RawParsesWrongFalsely : Prop := rawParsesRow.holds Tryz.pinned (OpenSpec.ofChange rawParsesWrong)

/-- 'blindfoldlaw16.SyntaxTypes': WHATEVER THE INPUT: true; the input reads as it did. -/
def syntaxTypesSpec : ChangeSpec := { name := "syntaxTypes", fn := fun _ => fun
  | [d] => { results := [.lit (.bool true)], args := [d] }
  | _ => none }
def syntaxTypesRow : OpenClaim := { program := "ytldjakeigjngoaagreat", sum := "7e5f6b4912cbc9e9293dab551017b11ffae5e168538e1a961e9d8b6da94e5f5d", func := "blindfold/blindfoldlaw16.SyntaxTypes", spec := "syntaxTypes", inPlace := ["internal/bytealg.IndexByteString", "internal/abi.NoEscape"], unfollowed := true, recurses := true, apart := false }
def SyntaxTypesSaid : Prop := syntaxTypesRow.holds Tryz.pinned (OpenSpec.ofChange syntaxTypesSpec)

/-- ITS FALSE NEIGHBOUR: 'it returns false'. Refute it at one input. -/
def syntaxTypesWrong : ChangeSpec := { name := "syntaxTypes", fn := fun _ => fun
  | [d] => { results := [.lit (.bool false)], args := [d] }
  | _ => none }
def SyntaxTypesWrongFalsely : Prop := syntaxTypesRow.holds Tryz.pinned (OpenSpec.ofChange syntaxTypesWrong)

/-- 'blindfoldlaw16.SyntaxParses': WHATEVER THE INPUT: true; the input reads as it did. -/
def syntaxParsesSpec : ChangeSpec := { name := "syntaxParses", fn := fun _ => fun
  | [d] => { results := [.lit (.bool true)], args := [d] }
  | _ => none }
def syntaxParsesRow : OpenClaim := { program := "ytldjakeigjngoaagreat", sum := "7e5f6b4912cbc9e9293dab551017b11ffae5e168538e1a961e9d8b6da94e5f5d", func := "blindfold/blindfoldlaw16.SyntaxParses", spec := "syntaxParses", inPlace := ["internal/bytealg.IndexByteString", "internal/abi.NoEscape"], unfollowed := true, recurses := true, apart := false }
def SyntaxParsesSaid : Prop := syntaxParsesRow.holds Tryz.pinned (OpenSpec.ofChange syntaxParsesSpec)

/-- ITS FALSE NEIGHBOUR: 'it returns false'. Refute it at one input. -/
def syntaxParsesWrong : ChangeSpec := { name := "syntaxParses", fn := fun _ => fun
  | [d] => { results := [.lit (.bool false)], args := [d] }
  | _ => none }
def SyntaxParsesWrongFalsely : Prop := syntaxParsesRow.holds Tryz.pinned (OpenSpec.ofChange syntaxParsesWrong)

/- THE SECOND FORM. 'bulk': how many values and letters a reading holds, each counted each time it is reached (what is shared counts as often as it is met; a slice's spare places count too). A statement '..UptoSaid' is the law's where the arguments, and the package variables that the reading takes, are together of bulk at most 1048576: NARROWER than '..Said'. Prove '..Said' where nothing that the law and all that it calls make is longer than what came in: it says more and counts as full. Else prove '..UptoSaid'. A law counts once. -/
mutual
def uptoBulk {H : Type} : DataW H → Nat
  | .lit (.string bytes) => bytes.length + 1
  | .lit _ => 1
  | .nil => 1
  | .ptr d => uptoBulk d + 1
  | .slice elems spare => uptoBulkAll elems + uptoBulkAll spare + 1
  | .agg parts => uptoBulkAll parts + 1
  | .iface _ d => uptoBulk d + 1
  | .map entries => uptoBulkEntries entries + 1
  | .held _ => 1
def uptoBulkAll {H : Type} : List (DataW H) → Nat
  | [] => 0
  | d :: r => uptoBulk d + uptoBulkAll r
def uptoBulkEntries {H : Type} : List (Lit × DataW H) → Nat
  | [] => 0
  | x :: r => uptoBulkEntry x + uptoBulkEntries r
def uptoBulkEntry {H : Type} : Lit × DataW H → Nat
  | (.string bytes, d) => bytes.length + uptoBulk d + 1
  | (_, d) => uptoBulk d + 1
 end
def uptoSmall : (H : Type) → List (DataW H) → Bool := fun _ ds => decide (uptoBulkAll ds ≤ 1048576)
def OpenSpec.upto (s : _root_.Go.ChangeSpec) : _root_.Go.OpenSpec := { _root_.Go.OpenSpec.ofChange s with cond := some uptoSmall }

/-- 'blindfoldlaw22.RawParses', WHERE WHAT IT READS IS OF BULK AT MOST 1048576: true; the input reads as it did. -/
def rawParsesUptoRow : OpenClaim := { program := "ytldjakeigjngoaagreat", sum := "7e5f6b4912cbc9e9293dab551017b11ffae5e168538e1a961e9d8b6da94e5f5d", func := "blindfold/blindfoldlaw22.RawParses", spec := "rawParses", inPlace := ["internal/bytealg.IndexByteString", "internal/abi.NoEscape"], unfollowed := true, recurses := true, apart := false, narrowed := true }
def RawParsesUptoSaid : Prop := rawParsesUptoRow.holds Tryz.pinned (OpenSpec.upto rawParsesSpec)

/-- 'blindfoldlaw16.SyntaxTypes', WHERE WHAT IT READS IS OF BULK AT MOST 1048576: true; the input reads as it did. -/
def syntaxTypesUptoRow : OpenClaim := { program := "ytldjakeigjngoaagreat", sum := "7e5f6b4912cbc9e9293dab551017b11ffae5e168538e1a961e9d8b6da94e5f5d", func := "blindfold/blindfoldlaw16.SyntaxTypes", spec := "syntaxTypes", inPlace := ["internal/bytealg.IndexByteString", "internal/abi.NoEscape"], unfollowed := true, recurses := true, apart := false, narrowed := true }
def SyntaxTypesUptoSaid : Prop := syntaxTypesUptoRow.holds Tryz.pinned (OpenSpec.upto syntaxTypesSpec)

/-- 'blindfoldlaw16.SyntaxParses', WHERE WHAT IT READS IS OF BULK AT MOST 1048576: true; the input reads as it did. -/
def syntaxParsesUptoRow : OpenClaim := { program := "ytldjakeigjngoaagreat", sum := "7e5f6b4912cbc9e9293dab551017b11ffae5e168538e1a961e9d8b6da94e5f5d", func := "blindfold/blindfoldlaw16.SyntaxParses", spec := "syntaxParses", inPlace := ["internal/bytealg.IndexByteString", "internal/abi.NoEscape"], unfollowed := true, recurses := true, apart := false, narrowed := true }
def SyntaxParsesUptoSaid : Prop := syntaxParsesUptoRow.holds Tryz.pinned (OpenSpec.upto syntaxParsesSpec)

end Rows
end Go.Proofs.YtldjakeigjngoaaGreat
