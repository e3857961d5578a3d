/- Contracts over texts as lists: digits. -/
import Derived.Test.YtldjakeigjngoaaTysQ
import Derived.Test.YtldjakeigjngoaaBDG
import Derived.Test.YtldjakeigjngoaaBUN
set_option linter.unusedVariables false
set_option linter.unusedSimpArgs false
namespace Go.Proofs.Ytldjakeigjngoaa
open Go.RowKit Bf
theorem dtake_c (s : List UInt8) (a n en f p : Int) (h : takeS s a = (n, en, f, p)) (hs : s.length ≤ 4611686018427387000) (h1 : -9223372036854775808 ≤ a) (h2 : a ≤ 9223372036854775807) (w : World) :
 Calls Try.prog 80 #[S s, .int .i64 a] w fun e w' => e = .returned (.tuple #[.int .i64 n, .int .i64 en, faultV f p]) ∧ Below w.heap.size w w' :=
 take_at ⟨⟨s⟩⟩ a n en f p w (by show s.length ≤ maxLen; unfold maxLen; omega) ⟨h1, h2⟩ h
end Go.Proofs.Ytldjakeigjngoaa