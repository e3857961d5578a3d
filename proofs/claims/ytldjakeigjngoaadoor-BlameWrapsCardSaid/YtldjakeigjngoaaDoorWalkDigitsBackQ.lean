/- The walk of blindfoldlaw07.DigitsBack. -/
import Derived.Test.YtldjakeigjngoaaDoorBDG
import Derived.Test.YtldjakeigjngoaaDoorBPL
set_option linter.unusedVariables false
set_option linter.unusedSimpArgs false
namespace Go.Proofs.YtldjakeigjngoaaDoor
open Go.RowKit Bf
def putB (n : Int) : ByteArray := ⟨(putL n).toArray⟩
theorem putB_list (n : Int) : (putB n).data.toList = putL n := by unfold putB; simp
theorem putB_size (n : Int) : (putB n).size = (putL n).length := by rw [← putB_list, toList_length]
theorem putb_any (n : Int) (w : World) (h : -9223372036854775808 ≤ n ∧ n ≤ 9223372036854775807) :
 Calls Tryd.prog 31 #[.int .i64 n] w fun e w' => e = .returned (.string (putB n)) ∧ Below w.heap.size w w' := put_any n w h
end Go.Proofs.YtldjakeigjngoaaDoor