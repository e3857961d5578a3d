/- Contracts of the package cells: Rune, Unit. -/
import Derived.Test.YtldjakeigjngoaaGreatBUA
import Derived.Test.YtldjakeigjngoaaGreatBPI
set_option linter.unusedVariables false
set_option linter.unusedSimpArgs false
namespace Go.Proofs.YtldjakeigjngoaaGreat
open Go.RowKit Bf
def runeC (r : Int) : Int := if hasT wideT r then 2 else if hasT zeroT r then 0 else 1
def unitS (l : List UInt8) : Int × Nat := if l = [] then (0, 0) else if (decS l).2.2 then (runeC (decS l).1, (decS l).2.1) else (1, 1)
def unitAt (l : List UInt8) (a : Int) : Int × Nat := if a < 0 ∨ (l.length : Int) ≤ a then (0, 0) else unitS (l.drop a.toNat)
end Go.Proofs.YtldjakeigjngoaaGreat