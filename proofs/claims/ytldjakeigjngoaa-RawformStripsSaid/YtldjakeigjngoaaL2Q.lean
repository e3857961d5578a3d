/- Contracts over texts as lists: digits. -/
import Derived.Test.YtldjakeigjngoaaTysQ
import Derived.Test.YtldjakeigjngoaaBDG
import Derived.Test.YtldjakeigjngoaaPlainUnqQ
set_option linter.unusedVariables false
set_option linter.unusedSimpArgs false
namespace Go.Proofs.Ytldjakeigjngoaa
open Go.RowKit Bf
theorem put_c (n : Int) (l : List UInt8) (h : putL n = l) (h1 : -9223372036854775808 ≤ n) (h2 : n ≤ 9223372036854775807) (w : World) :
    Calls Try.prog 85 #[.int .i64 n] w fun e w' => e = .returned (S l) ∧ Below w.heap.size w w' := put_at n l w ⟨h1, h2⟩ h
end Go.Proofs.Ytldjakeigjngoaa
