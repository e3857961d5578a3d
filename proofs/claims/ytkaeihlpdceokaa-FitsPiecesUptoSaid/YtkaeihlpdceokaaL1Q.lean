/- Contracts over texts as lists: utf, cells. -/
import Derived.Test.YtkaeihlpdceokaaTysQ
import Derived.Test.YtkaeihlpdceokaaCells3Q
import Derived.Test.YtkaeihlpdceokaaBBA
import Derived.Test.YtkaeihlpdceokaaCells2Q
set_option linter.unusedVariables false
set_option linter.unusedSimpArgs false
namespace Go.Proofs.Ytkaeihlpdceokaa
open Go.RowKit Bf
theorem width_c (s : List UInt8) (c : Int) (h : widthL s = c) (hs : s.length ≤ 4611686018427387000) (w : World) :
 Calls Try.prog 19 #[S s] w fun e w' => e = .returned (.int .i64 c) ∧ Below w.heap.size w w' :=
 width_at ⟨⟨s⟩⟩ c w (by show s.length ≤ maxLen; unfold maxLen; omega) hs h
end Go.Proofs.Ytkaeihlpdceokaa