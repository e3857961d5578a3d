/- BDG: texts of this proof, joined by program: Digits2, Digits3, Digits4, Digits5. -/
import Derived.Test.YtldjakeigjngoaaGreatDigitsQ
import Derived.RegionTactic
import Derived.Test.YtldjakeigjngoaaGreatBPL
/- Contracts of the package digits, continued: Parse. -/
set_option linter.unusedVariables false
set_option linter.unusedSimpArgs false
namespace Go.Proofs.YtldjakeigjngoaaGreat
open Go.RowKit Bf
theorem take_at (s : ByteArray) (a : Int) (n en f at_ : Int) (w : World) (hs : s.size ≤ maxLen) (ha : -9223372036854775808 ≤ a ∧ a ≤ 9223372036854775807)
 (h : Hid (takeS s.data.toList a = (n, en, f, at_))) :
 Calls Tryz.prog 110 #[.string s, .int .i64 a] w fun e w' => e = .returned (.tuple #[.int .i64 n, .int .i64 en, .agg #[.int .i64 f, .int .i64 at_]]) ∧ Below w.heap.size w w' := by
 have := take_any s a w hs ha; rw [h.out] at this; exact this
end Go.Proofs.YtldjakeigjngoaaGreat
/- Contracts: the reference's Put. -/
namespace Go.Proofs.YtldjakeigjngoaaGreat
open Go.RowKit Bf
end Go.Proofs.YtldjakeigjngoaaGreat
/- Contracts: the text of a number (digits.Put). -/
namespace Go.Proofs.YtldjakeigjngoaaGreat
open Go.RowKit Bf
end Go.Proofs.YtldjakeigjngoaaGreat
/- Contracts: digits.Put whole, Columns, and the law's own small function. -/
namespace Go.Proofs.YtldjakeigjngoaaGreat
open Go.RowKit Bf
end Go.Proofs.YtldjakeigjngoaaGreat