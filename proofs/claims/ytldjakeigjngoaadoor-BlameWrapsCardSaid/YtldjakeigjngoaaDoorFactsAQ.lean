/- What each law's row asks of the whole program: laid by program (factsgen.py). -/
import Derived.Test.YtldjakeigjngoaaDoorRows
import Derived.ProofKit
import Derived.JoinedOf
namespace Go.Proofs.YtldjakeigjngoaaDoor
open Go.RowKit
theorem mayEnter_t : Tryd.prog.mayEnter = true := by kernel_rfl
end Go.Proofs.YtldjakeigjngoaaDoor