/- What each law's row asks of the whole program: laid by program (factsgen.py). -/
import Derived.Test.YtldjakeigjngoaaGreatRows
import Derived.ProofKit
import Derived.JoinedOf
namespace Go.Proofs.YtldjakeigjngoaaGreat
open Go.RowKit
theorem lifts_t : (Rows.rawParsesRow.lifted == Tryz.prog.liftsFinal) = true := by kernel_rfl
end Go.Proofs.YtldjakeigjngoaaGreat