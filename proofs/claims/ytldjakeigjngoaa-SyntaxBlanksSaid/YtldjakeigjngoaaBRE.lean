/- BRE: texts of this proof, joined by program: RawEl, RawEl2. -/
import Derived.Test.YtldjakeigjngoaaBRA
import Derived.Test.YtldjakeigjngoaaBCX
import Derived.Test.YtldjakeigjngoaaBOB
import Derived.Test.YtldjakeigjngoaaSyTwoQ
import Derived.Test.YtldjakeigjngoaaBRC
/- Contracts: an element of a list, as the program reads it. -/
set_option linter.unusedVariables false
set_option linter.unusedSimpArgs false
namespace Go.Proofs.Ytldjakeigjngoaa
open Go.RowKit Bf
structure BadC (l : List TokT) (c' : CurT) (e a : Int) : Prop where
 ok : CurOk l c'
 ne : e ≠ 0
 he : c'.e = e
 ha : c'.a = a
structure Acc where
 ks : List WordT
 pk : Option Addr
 ck : Nat
 zs : List RawA
 p : Option Addr
 c : Nat
end Go.Proofs.Ytldjakeigjngoaa
/- Contracts: an element of a record, as the program reads it. -/
namespace Go.Proofs.Ytldjakeigjngoaa
open Go.RowKit Bf
end Go.Proofs.Ytldjakeigjngoaa