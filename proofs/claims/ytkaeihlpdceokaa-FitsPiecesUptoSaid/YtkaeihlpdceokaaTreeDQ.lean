/- Documents in memory. -/
import Derived.Test.YtkaeihlpdceokaaBEX
set_option linter.unusedVariables false
set_option linter.unusedSimpArgs false
namespace Go.Proofs.Ytkaeihlpdceokaa
open Go.RowKit Go.Deep
inductive DocA where
 | mk (k n : Int) (s : List UInt8) (p : Option Addr) (c : Nat) (kids : List DocA)
def docV : DocA → List Value
 | .mk k n s p c kids => [.int .i64 k, .int .i64 n, S s, .slice p kids.length c]
theorem docV_len (x : DocA) : (docV x).length = 4 := by cases x; rfl
inductive DocIn (w : World) : DocA → Prop where
 | mk (k n : Int) (s : List UInt8) (p : Option Addr) (c : Nat) (kids : List DocA)
  (hb : (-9223372036854775808 ≤ k ∧ k ≤ 9223372036854775807) ∧ (-9223372036854775808 ≤ n ∧ n ≤ 9223372036854775807) ∧ s.length ≤ maxLen ∧ kids.length ≤ maxLen)
  (h2 : IsSl w 4 p kids.length (kids.flatMap docV)) (h3 : ∀ x ∈ kids, DocIn w x) : DocIn w (.mk k n s p c kids)
theorem DocIn.bl (t : DocA) : Bl fun w => DocIn w t := fun w w' hb h => by
 induction h with
 | mk k n s p c kids b h2 h3 ih => exact .mk k n s p c kids b (IsSl.bl _ _ _ _ w w' hb h2) ih
section
variable {H : Type} {enc : TypeId × Value → H} {w : World} {base : Nat} {spare : Nat → Bool} {held : Bool}
end
end Go.Proofs.Ytkaeihlpdceokaa