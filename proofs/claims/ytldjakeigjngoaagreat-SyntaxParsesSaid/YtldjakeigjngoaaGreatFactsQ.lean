/- What each law's row asks of the whole program: laid by program (factsgen.py). -/
import Derived.Test.YtldjakeigjngoaaGreatRows
import Derived.ProofKit
import Derived.JoinedOf
import Derived.Test.YtldjakeigjngoaaGreatFactsAQ
import Derived.Test.YtldjakeigjngoaaGreatFactsBQ
import Derived.Test.YtldjakeigjngoaaGreatFactsCQ
namespace Go.Proofs.YtldjakeigjngoaaGreat
open Go.RowKit
theorem own_t : ownKnob Tryz.prog.godebug = none := by kernel_rfl
theorem laidOut_t : laidOutB Tryz.prog = true := by kernel_rfl
theorem mapsRowed_t : mapsRowed Tryz.prog = true := by kernel_rfl
theorem stops_t : (Tryz.prog.stops == []) = true := by kernel_rfl
theorem stopKnobs_t : (Tryz.prog.stopKnobs == []) = true := by kernel_rfl
theorem plainKeys_t : (Rows.rawParsesRow.plainKeys == Tryz.prog.plainKeys) = true := by kernel_rfl
theorem stopsHeard_t : Tryz.prog.stopsHeard = true := by kernel_rfl
theorem and_t {a b : Bool} (ha : a = true) (hb : b = true) : (a && b) = true := by rw [ha, hb]; rfl
end Go.Proofs.YtldjakeigjngoaaGreat