/- Contract: a value, as the document reads it: what is wrong, and values without others in them. -/
import Derived.Test.YtldjakeigjngoaaGreatBRR
import Derived.Test.YtldjakeigjngoaaGreatBRP
set_option linter.unusedVariables false
set_option linter.unusedSimpArgs false
namespace Go.Proofs.YtldjakeigjngoaaGreat
open Go.RowKit Bf
def PS.one (x : PS) : PS := ⟨x.off, x.l, x.c, x.m + 1, x.e, x.a⟩
theorem PS.Ok.one {x : PS} (h : x.Ok) : x.one.Ok := h.same rfl rfl
theorem PS.On.one (x : PS) : x.On x.one := ⟨0, by simp [PS.one], rfl, rfl⟩
section
variable {d : Nat} {x : PS} {t : TokT} (he : x.e = 0) (hm : x.m ≠ 4096) (hh : hdT x.l = t)
include he hm hh
variable (hB : mkB x.l [123] = false) (hA : mkB x.l [91] = false)
include hB hA
end
end Go.Proofs.YtldjakeigjngoaaGreat