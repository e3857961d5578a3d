/- What each law's row asks of the whole program: laid by program (factsgen.py). -/
import Derived.Test.YtldjakeigjngoaaRows
import Derived.ProofKit
import Derived.JoinedOf
namespace Go.Proofs.Ytldjakeigjngoaa
open Go.RowKit
theorem lifts_t : (Rows.blameParsesRow.lifted == Try.prog.liftsFinal) = true := by kernel_rfl
end Go.Proofs.Ytldjakeigjngoaa