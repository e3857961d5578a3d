/- BST: texts of this proof, joined by program: RawSame. -/
import Derived.Test.YtldjakeigjngoaaBRA
import Derived.Test.YtldjakeigjngoaaBEN
import Derived.Test.YtldjakeigjngoaaBRC
/- Contract: whether values are the same, by the document. -/
set_option linter.unusedVariables false
set_option linter.unusedSimpArgs false
namespace Go.Proofs.Ytldjakeigjngoaa
open Go.RowKit Bf
instance : KS Try.prog 69 [.s, .i .i64] := ⟨by kernel_rfl, by kernel_rfl, by kernel_rfl⟩
end Go.Proofs.Ytldjakeigjngoaa