/- What each law's row asks of the whole program: laid by program (factsgen.py). -/
import Derived.Test.YtldjakeigjngoaaDoorRows
import Derived.ProofKit
import Derived.JoinedOf
namespace Go.Proofs.YtldjakeigjngoaaDoor
open Go.RowKit
theorem lifts_t : (Rows.blameErrorsRow.lifted == Tryd.prog.liftsFinal) = true := by kernel_rfl
end Go.Proofs.YtldjakeigjngoaaDoor