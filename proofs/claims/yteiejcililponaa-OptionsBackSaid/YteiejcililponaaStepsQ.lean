/- Steps in memory. -/
import Derived.Test.YteiejcililponaaBEX
import Derived.Test.YteiejcililponaaBPL
set_option linter.unusedVariables false
set_option linter.unusedSimpArgs false
namespace Go.Proofs.Yteiejcililponaa
open Go.RowKit Go.Deep Bf
def stpV (x : StepT) : List Value := [.int .i64 x.1, .int .i64 x.2.1, S x.2.2]
theorem stpV_len (x : StepT) : (stpV x).length = 3 := rfl
def StepOk (x : StepT) : Prop := (-9223372036854775808 ≤ x.1 ∧ x.1 ≤ 9223372036854775807) ∧ (-9223372036854775808 ≤ x.2.1 ∧ x.2.1 ≤ 9223372036854775807) ∧ x.2.2.length ≤ maxLen
section
variable {H : Type} {enc : TypeId × Value → H} {w : World} {base : Nat} {spare : Nat → Bool} {held : Bool}
end
end Go.Proofs.Yteiejcililponaa
