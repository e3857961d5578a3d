/- What each law's row asks of the whole program: laid by program (factsgen.py). -/
import Derived.Test.YteiejcililponaaRows
import Derived.ProofKit
import Derived.JoinedOf
namespace Go.Proofs.Yteiejcililponaa
open Go.RowKit
theorem make_t : (Try.prog.make == some Rows.rawformStripsRow.make) = true := by kernel_rfl
end Go.Proofs.Yteiejcililponaa
