/- What each law's row asks of the whole program: laid by program (factsgen.py). -/
import Derived.Test.YtldjakeigjngoaaRows
import Derived.ProofKit
import Derived.JoinedOf
namespace Go.Proofs.Ytldjakeigjngoaa
open Go.RowKit
theorem make_t : (Try.prog.make == some Rows.blameParsesRow.make) = true := by kernel_rfl
end Go.Proofs.Ytldjakeigjngoaa