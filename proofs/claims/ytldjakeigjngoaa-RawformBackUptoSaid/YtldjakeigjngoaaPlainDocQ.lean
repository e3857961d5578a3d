/- Plain: documents: what is right, what is forced, the flat text, its columns, its groups. -/
import Derived.Test.YtldjakeigjngoaaTreeDQ
import Derived.Test.YtldjakeigjngoaaBU3
import Derived.Test.YtldjakeigjngoaaBUA
import Derived.Test.YtldjakeigjngoaaBPI
import Derived.Test.YtldjakeigjngoaaBPL
set_option linter.unusedVariables false
set_option linter.unusedSimpArgs false
namespace Go.Proofs.Ytldjakeigjngoaa
open Go.RowKit
inductive DocP where
 | mk (k n : Int) (s : List UInt8) (kids : List DocP)
end Go.Proofs.Ytldjakeigjngoaa