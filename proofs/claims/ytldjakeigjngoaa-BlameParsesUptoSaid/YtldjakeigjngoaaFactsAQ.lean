/- What each law's row asks of the whole program: laid by program (factsgen.py). -/
import Derived.Test.YtldjakeigjngoaaRows
import Derived.ProofKit
import Derived.JoinedOf
namespace Go.Proofs.Ytldjakeigjngoaa
open Go.RowKit
theorem mayEnter_t : Try.prog.mayEnter = true := by kernel_rfl
end Go.Proofs.Ytldjakeigjngoaa