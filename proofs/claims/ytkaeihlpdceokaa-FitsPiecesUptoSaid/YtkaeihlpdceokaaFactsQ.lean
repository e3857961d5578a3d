/- What each law's row asks of the whole program: laid by program (factsgen.py). -/
import Derived.Test.YtkaeihlpdceokaaRows
import Derived.ProofKit
import Derived.JoinedOf
import Derived.Test.YtkaeihlpdceokaaFactsAQ
import Derived.Test.YtkaeihlpdceokaaFactsBQ
import Derived.Test.YtkaeihlpdceokaaFactsCQ
namespace Go.Proofs.Ytkaeihlpdceokaa
open Go.RowKit
theorem own_t : ownKnob Try.prog.godebug = none := by kernel_rfl
theorem laidOut_t : laidOutB Try.prog = true := by kernel_rfl
theorem mapsRowed_t : mapsRowed Try.prog = true := by kernel_rfl
theorem stops_t : (Try.prog.stops == []) = true := by kernel_rfl
theorem stopKnobs_t : (Try.prog.stopKnobs == []) = true := by kernel_rfl
theorem plainKeys_t : (Rows.fitsPiecesRow.plainKeys == Try.prog.plainKeys) = true := by kernel_rfl
theorem stopsHeard_t : Try.prog.stopsHeard = true := by kernel_rfl
theorem and_t {a b : Bool} (ha : a = true) (hb : b = true) : (a && b) = true := by rw [ha, hb]; rfl
end Go.Proofs.Ytkaeihlpdceokaa