/- BOA: texts of this proof, joined by program: PlainOpt. -/
import Derived.Test.YtkaeihlpdceokaaBPU
/- Plain: options, of tokens, and their text. -/
set_option linter.unusedVariables false
set_option linter.unusedSimpArgs false
namespace Go.Proofs.Ytkaeihlpdceokaa
open Go.RowKit Bf
abbrev OptT := Int × Int × Int × List UInt8
def oddE (t : TokT) : Int × Int := (if t.1 = 0 then 5 else 4, t.2.1)
/-! ### One part -/
section
variable {l : List TokT} {i : Nat} {o : OptT} {had : List Bool} {R : OptT × Int × Int} {t u v : TokT}
end
/-! ### What is read is right -/
/-! ### The text of options -/
end Go.Proofs.Ytkaeihlpdceokaa