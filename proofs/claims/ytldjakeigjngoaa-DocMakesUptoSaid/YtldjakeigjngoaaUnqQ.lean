/- Contracts: escape.plain, Unquote, Canonical, and the reference's Unquote. -/
import Derived.Test.YtldjakeigjngoaaPlainUnqQ
import Derived.Test.YtldjakeigjngoaaOneQ
import Derived.Test.YtldjakeigjngoaaBEX
import Derived.Test.YtldjakeigjngoaaEscQ
import Derived.Test.YtldjakeigjngoaaUtf6Q
import Derived.Deep.QuietTactic
import Derived.BigQuiet
import Derived.Test.YtldjakeigjngoaaBPL
set_option linter.unusedVariables false
set_option linter.unusedSimpArgs false
namespace Go.Proofs.Ytldjakeigjngoaa
open Go.RowKit Bf
/-- The text, the place behind it, the error's number and its place. -/
def unqR (q : List UInt8) (a : Int) : List UInt8 × Int × Int × Int :=
  if a < 0 ∨ (q.length : Int) < a then ([], 0, 1, 0) else if a = q.length then ([], 0, 5, a) else if bt q a ≠ 34 then ([], 0, 4, a)
  else if (unL true (q.drop (a + 1).toNat)).2.2 = 0 then ((unL true (q.drop (a + 1).toNat)).1, a + 1 + (unL true (q.drop (a + 1).toNat)).2.1, 0, 0)
  else ([], 0, (unL true (q.drop (a + 1).toNat)).2.2, a + 1 + (unL true (q.drop (a + 1).toNat)).2.1)
structure UqSt where
  i : Int
  v : Value
  acc : List UInt8
end Go.Proofs.Ytldjakeigjngoaa
