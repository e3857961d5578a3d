/- What each law's row asks of the whole program: laid by program (factsgen.py). -/
import Derived.Test.YtkaeihlpdceokaaRows
import Derived.ProofKit
import Derived.JoinedOf
namespace Go.Proofs.Ytkaeihlpdceokaa
open Go.RowKit
theorem make_t : (Try.prog.make == some Rows.fitsPiecesRow.make) = true := by kernel_rfl
end Go.Proofs.Ytkaeihlpdceokaa