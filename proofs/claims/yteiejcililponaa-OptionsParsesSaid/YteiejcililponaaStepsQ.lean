/- Steps in memory. -/
import Derived.Test.YteiejcililponaaBEX
import Derived.Test.YteiejcililponaaBPL
set_option linter.unusedVariables false
set_option linter.unusedSimpArgs false
namespace Go.Proofs.Yteiejcililponaa
open Go.RowKit Go.Deep Bf
section
variable {H : Type} {enc : TypeId × Value → H} {w : World} {base : Nat} {spare : Nat → Bool} {held : Bool}
end
end Go.Proofs.Yteiejcililponaa
