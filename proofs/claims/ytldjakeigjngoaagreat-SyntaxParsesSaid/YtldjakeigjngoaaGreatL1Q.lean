/- Contracts over texts as lists: utf, cells. -/
import Derived.Test.YtldjakeigjngoaaGreatTysQ
import Derived.Test.YtldjakeigjngoaaGreatCells3Q
import Derived.Test.YtldjakeigjngoaaGreatBBA
import Derived.Test.YtldjakeigjngoaaGreatBU3
import Derived.Test.YtldjakeigjngoaaGreatCellsQ
set_option linter.unusedVariables false
set_option linter.unusedSimpArgs false
namespace Go.Proofs.YtldjakeigjngoaaGreat
open Go.RowKit Bf
theorem decode_c (s : List UInt8) (i r : Int) (n : Nat) (b : Bool) (h : decAt s i = (r, n, b)) (hs : s.length ≤ 4611686018427387000) (h1 : -9223372036854775808 ≤ i) (h2 : i ≤ 9223372036854775807) (w : World) :
 Calls Tryz.prog 105 #[S s, .int .i64 i] w fun e w' => e = .returned (.tuple #[.int .i32 r, .int .i64 (n : Int), .bool b]) ∧ Below w.heap.size w w' :=
 decode_at ⟨⟨s⟩⟩ i r n b w (by show s.length ≤ maxLen; unfold maxLen; omega) ⟨h1, h2⟩ h
end Go.Proofs.YtldjakeigjngoaaGreat