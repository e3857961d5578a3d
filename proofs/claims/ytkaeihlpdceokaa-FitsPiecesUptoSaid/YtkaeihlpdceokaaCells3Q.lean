/- The plain law of a cut: both parts' columns. -/
import Derived.Test.YtkaeihlpdceokaaBUB
import Derived.Test.YtkaeihlpdceokaaCells2Q
set_option linter.unusedVariables false
set_option linter.unusedSimpArgs false
namespace Go.Proofs.Ytkaeihlpdceokaa
open Go.RowKit Bf
theorem unitS_ok (l : List UInt8) (r : Int) (n : Nat) (hl : l ≠ []) (h : decS l = (r, n, true)) : unitS l = (runeC r, n) := by unfold unitS; rw [if_neg hl, h]; rfl
theorem unitS_bad (l : List UInt8) (r : Int) (n : Nat) (hl : l ≠ []) (h : decS l = (r, n, false)) : unitS l = (1, 1) := by unfold unitS; rw [if_neg hl, h]; rfl
end Go.Proofs.Ytkaeihlpdceokaa