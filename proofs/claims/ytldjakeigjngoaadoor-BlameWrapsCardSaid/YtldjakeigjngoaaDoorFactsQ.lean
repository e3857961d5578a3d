/- What each law's row asks of the whole program: laid by program (factsgen.py). -/
import Derived.Test.YtldjakeigjngoaaDoorRows
import Derived.ProofKit
import Derived.JoinedOf
import Derived.Test.YtldjakeigjngoaaDoorFactsAQ
import Derived.Test.YtldjakeigjngoaaDoorFactsBQ
import Derived.Test.YtldjakeigjngoaaDoorFactsCQ
namespace Go.Proofs.YtldjakeigjngoaaDoor
open Go.RowKit
theorem own_t : ownKnob Tryd.prog.godebug = none := by kernel_rfl
theorem laidOut_t : laidOutB Tryd.prog = true := by kernel_rfl
theorem mapsRowed_t : mapsRowed Tryd.prog = true := by kernel_rfl
theorem stops_t : (Tryd.prog.stops == []) = true := by kernel_rfl
theorem stopKnobs_t : (Tryd.prog.stopKnobs == []) = true := by kernel_rfl
theorem plainKeys_t : (Rows.blameErrorsRow.plainKeys == Tryd.prog.plainKeys) = true := by kernel_rfl
theorem stopsHeard_t : Tryd.prog.stopsHeard = true := by kernel_rfl
theorem and_t {a b : Bool} (ha : a = true) (hb : b = true) : (a && b) = true := by rw [ha, hb]; rfl
end Go.Proofs.YtldjakeigjngoaaDoor