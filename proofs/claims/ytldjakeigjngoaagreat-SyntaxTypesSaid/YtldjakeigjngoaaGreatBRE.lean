/- BRE: texts of this proof, joined by program: RawEl, RawEl2. -/
import Derived.Test.YtldjakeigjngoaaGreatBRA
import Derived.Test.YtldjakeigjngoaaGreatBCX
import Derived.Test.YtldjakeigjngoaaGreatBOB
import Derived.Test.YtldjakeigjngoaaGreatSyTwoQ
import Derived.Test.YtldjakeigjngoaaGreatBRC
/- Contracts: an element of a list, as the program reads it. -/
set_option linter.unusedVariables false
set_option linter.unusedSimpArgs false
namespace Go.Proofs.YtldjakeigjngoaaGreat
open Go.RowKit Bf
structure BadC (l : List TokT) (c' : CurT) (e a : Int) : Prop where
 ok : CurOk l c'
 ne : e ≠ 0
 he : c'.e = e
 ha : c'.a = a
structure Acc where
 ks : List WordT
 pk : Option Addr
 ck : Nat
 zs : List RawA
 p : Option Addr
 c : Nat
end Go.Proofs.YtldjakeigjngoaaGreat
/- Contracts: an element of a record, as the program reads it. -/
namespace Go.Proofs.YtldjakeigjngoaaGreat
open Go.RowKit Bf
theorem hdT_at {l : List TokT} {i : Nat} {t : TokT} (h : l[i]? = some t) : hdT (l.drop i) = t ∧ (l.drop i).tail = l.drop (i + 1) := by
 rw [drop_get h]; exact ⟨rfl, rfl⟩
end Go.Proofs.YtldjakeigjngoaaGreat