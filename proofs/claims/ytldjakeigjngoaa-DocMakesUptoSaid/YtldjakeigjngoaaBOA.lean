/- BOA: texts of this proof, joined by program: PlainOpt, PlainOpt2, OptIn. -/
import Derived.Test.YtldjakeigjngoaaBPU
import Derived.Test.YtldjakeigjngoaaBEX
/- Plain: options, of tokens, and their text. -/
set_option linter.unusedVariables false
set_option linter.unusedSimpArgs false
namespace Go.Proofs.Ytldjakeigjngoaa
open Go.RowKit Bf
/-- Options: width, indent, mode, observer. -/
abbrev OptT := Int × Int × Int × List UInt8
def oddE (t : TokT) : Int × Int := (if t.1 = 0 then 5 else 4, t.2.1)
/-! ### One part -/
section
variable {l : List TokT} {i : Nat} {o : OptT} {had : List Bool} {R : OptT × Int × Int} {t u v : TokT}
end
/-! ### What is read is right -/
/-! ### The text of options -/
end Go.Proofs.Ytldjakeigjngoaa
/- Plain: options, as the document reads them. -/
set_option linter.unusedVariables false
set_option linter.unusedSimpArgs false
namespace Go.Proofs.Ytldjakeigjngoaa
open Go.RowKit Bf
end Go.Proofs.Ytldjakeigjngoaa
/- Options that a law is given. -/
set_option linter.unusedVariables false
set_option linter.unusedSimpArgs false
namespace Go.Proofs.Ytldjakeigjngoaa
open Go.RowKit Go.Deep Bf
section
variable {H : Type} {enc : TypeId × Value → H} {w : World} {base : Nat} {spare : Nat → Bool} {held : Bool}
end
end Go.Proofs.Ytldjakeigjngoaa
