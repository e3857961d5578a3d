/- Contracts of the reference of layer 5: Hex, Unit, Quote. -/
import Derived.Test.YteiejcililponaaRef3Q
import Derived.Test.YteiejcililponaaPlainEsc2Q
set_option linter.unusedVariables false
set_option linter.unusedSimpArgs false
namespace Go.Proofs.Yteiejcililponaa
open Go.RowKit Bf
end Go.Proofs.Yteiejcililponaa
