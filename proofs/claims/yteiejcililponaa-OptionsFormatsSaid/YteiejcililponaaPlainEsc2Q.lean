/- Plain: a text in quotes is well-formed, and no rune of it steers a terminal. -/
import Derived.Test.YteiejcililponaaBPL
import Derived.Test.YteiejcililponaaUtf6Q
set_option linter.unusedVariables false
set_option linter.unusedSimpArgs false
namespace Go.Proofs.Yteiejcililponaa
open Bf
end Go.Proofs.Yteiejcililponaa
