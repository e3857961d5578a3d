/- BLP: texts of this proof, joined by program: L2, Paths. -/
import Derived.Test.YtldjakeigjngoaaTysQ
import Derived.Test.YtldjakeigjngoaaDigits6Q
import Derived.Test.YtldjakeigjngoaaBUN
import Derived.Test.YtldjakeigjngoaaBEX
import Derived.Test.YtldjakeigjngoaaBPL
import Derived.Test.YtldjakeigjngoaaNamesQ
/- Contracts over texts as lists: digits. -/
set_option linter.unusedVariables false
set_option linter.unusedSimpArgs false
namespace Go.Proofs.Ytldjakeigjngoaa
open Go.RowKit Bf
theorem parse_c (s : List UInt8) (n f p : Int) (h : parseS s = (n, f, p)) (hs : s.length ≤ 4611686018427387000) (w : World) :
 Calls Try.prog 49 #[S s] w fun e w' => e = .returned (.tuple #[.int .i64 n, faultV f p]) ∧ Below w.heap.size w w' :=
 parse_at ⟨⟨s⟩⟩ n f p w (by show s.length ≤ maxLen; unfold maxLen; omega) h
end Go.Proofs.Ytldjakeigjngoaa
/- Contracts of the package paths, and of the reference's paths: reading. -/
namespace Go.Proofs.Ytldjakeigjngoaa
open Go.RowKit Bf
section
variable {P : Program} {fr : Fr} {hp : List En}
end
end Go.Proofs.Ytldjakeigjngoaa