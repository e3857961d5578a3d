/- Contracts over texts as lists: utf, cells. -/
import Derived.Test.YtldjakeigjngoaaTysQ
import Derived.Test.YtldjakeigjngoaaUtf6Q
import Derived.Test.YtldjakeigjngoaaCells2Q
import Derived.Test.YtldjakeigjngoaaRunQ
set_option linter.unusedVariables false
set_option linter.unusedSimpArgs false
namespace Go.Proofs.Ytldjakeigjngoaa
open Go.RowKit Bf
theorem width_c (s : List UInt8) (c : Int) (h : widthL s = c) (hs : s.length ≤ 4611686018427387000) (w : World) :
    Calls Try.prog 89 #[S s] w fun e w' => e = .returned (.int .i64 c) ∧ Below w.heap.size w w' :=
  width_at ⟨⟨s⟩⟩ c w (by show s.length ≤ maxLen; unfold maxLen; omega) hs h
end Go.Proofs.Ytldjakeigjngoaa
