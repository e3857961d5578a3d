/- Contracts over texts as lists: utf, cells. -/
import Derived.Test.YtldjakeigjngoaaDoorTysQ
import Derived.Test.YtldjakeigjngoaaDoorCells3Q
import Derived.Test.YtldjakeigjngoaaDoorLives04Q
set_option linter.unusedVariables false
set_option linter.unusedSimpArgs false
namespace Go.Proofs.YtldjakeigjngoaaDoor
open Go.RowKit Bf
theorem unit_c (s : List UInt8) (i c : Int) (n : Nat) (h : unitAt s i = (c, n)) (hs : s.length ≤ 4611686018427387000) (h1 : -9223372036854775808 ≤ i) (h2 : i ≤ 9223372036854775807) (w : World) :
 Calls Tryd.prog 19 #[S s, .int .i64 i] w fun e w' => e = .returned (.tuple #[.int .i64 c, .int .i64 (n : Int)]) ∧ Below w.heap.size w w' :=
 unit_at ⟨⟨s⟩⟩ i c n w (by show s.length ≤ maxLen; unfold maxLen; omega) ⟨h1, h2⟩ h
theorem width_c (s : List UInt8) (c : Int) (h : widthL s = c) (hs : s.length ≤ 4611686018427387000) (w : World) :
 Calls Tryd.prog 21 #[S s] w fun e w' => e = .returned (.int .i64 c) ∧ Below w.heap.size w w' :=
 width_at ⟨⟨s⟩⟩ c w (by show s.length ≤ maxLen; unfold maxLen; omega) hs h
theorem lives04_c (w : World) : Calls Tryd.prog 18 #[] w fun e w' => e = .returned (.bool true) ∧ Below w.heap.size w w' := lives04_any w
end Go.Proofs.YtldjakeigjngoaaDoor