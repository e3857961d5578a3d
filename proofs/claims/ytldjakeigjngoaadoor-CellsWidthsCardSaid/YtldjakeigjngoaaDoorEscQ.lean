/- Contracts of pinned.Kind, pinned.IsUnsafe, and of the package escape: writing. -/
import Derived.Test.YtldjakeigjngoaaDoorBldQ
import Derived.Test.YtldjakeigjngoaaDoorBPL
import Derived.Test.YtldjakeigjngoaaDoorL1Q
set_option linter.unusedVariables false
set_option linter.unusedSimpArgs false
namespace Go.Proofs.YtldjakeigjngoaaDoor
open Go.RowKit Bf
theorem decAt_in' (s : List UInt8) (i : Int) (h0 : 0 ≤ i) (h1 : i < s.length) : decAt s i = decS (s.drop i.toNat) := by unfold decAt; rw [if_neg (by omega)]
end Go.Proofs.YtldjakeigjngoaaDoor