/- blindfoldlaw04.lives answers true. -/
import Derived.Test.YteiejcililponaaRunQ
import Derived.Test.YteiejcililponaaCells2Q
set_option linter.unusedVariables false
set_option linter.unusedSimpArgs false
namespace Go.Proofs.Yteiejcililponaa
open Go.RowKit Bf
end Go.Proofs.Yteiejcililponaa
