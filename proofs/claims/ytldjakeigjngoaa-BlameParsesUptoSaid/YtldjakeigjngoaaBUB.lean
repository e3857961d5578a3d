/- BUB: texts of this proof, joined by program: Utf5, Utf6, Utf7. -/
import Derived.Test.YtldjakeigjngoaaBBA
import Derived.Test.YtldjakeigjngoaaBPL
import Derived.Deep.RegionWith
import Derived.Deep.QuietTactic
import Derived.BigQuiet
/- Contracts: the reference's reckoned, begins, left. -/
set_option linter.unusedVariables false
set_option linter.unusedSimpArgs false
namespace Go.Proofs.Ytldjakeigjngoaa
open Go.RowKit Bf
end Go.Proofs.Ytldjakeigjngoaa
/- Contracts: the reference's Decode. -/
namespace Go.Proofs.Ytldjakeigjngoaa
open Go.RowKit Bf
theorem f1 (a : UInt8) (h : want a ≠ 1) : isB [a] = false := by rw [isB_1]; simp [h]
theorem f2 (a b : UInt8) (h : ¬ (want a = 2 ∧ good2 a b)) : isB [a, b] = false := by rw [isB_2]; simp only [h, decide_false]
theorem f3 (a b c : UInt8) (h : ¬ (want a = 3 ∧ good2 a b ∧ cont c)) : isB [a, b, c] = false := by rw [isB_3]; simp only [h, decide_false]
theorem f4 (a b c d : UInt8) (h : ¬ (want a = 4 ∧ good2 a b ∧ cont c ∧ cont d)) : isB [a, b, c, d] = false := by rw [isB_4]; simp only [h, decide_false]
end Go.Proofs.Ytldjakeigjngoaa
/- Contracts: the reference's Decode, walked. -/
namespace Go.Proofs.Ytldjakeigjngoaa
open Go.RowKit Bf
end Go.Proofs.Ytldjakeigjngoaa