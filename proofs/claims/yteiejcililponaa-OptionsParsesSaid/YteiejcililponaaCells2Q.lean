/- Contracts of the package cells: Width, Cut. -/
import Derived.Test.YteiejcililponaaBU3
import Derived.Test.YteiejcililponaaCellsQ
set_option linter.unusedVariables false
set_option linter.unusedSimpArgs false
namespace Go.Proofs.Yteiejcililponaa
open Go.RowKit Bf
end Go.Proofs.Yteiejcililponaa
