/- Contracts of pinned.Kind, pinned.IsUnsafe, and of the package escape: writing. -/
import Derived.Test.YtkaeihlpdceokaaBldQ
import Derived.Test.YtkaeihlpdceokaaBPL
import Derived.Test.YtkaeihlpdceokaaL1Q
set_option linter.unusedVariables false
set_option linter.unusedSimpArgs false
namespace Go.Proofs.Ytkaeihlpdceokaa
open Go.RowKit Bf
theorem bt_nat (s : List UInt8) (i : Int) (h0 : 0 ≤ i) (h1 : i < s.length) : ∃ c l, s.drop i.toNat = c :: l ∧ bt s i = (c.toNat : Int) := by
 have h : i.toNat < s.length := by omega
 refine ⟨s[i.toNat], s.drop (i.toNat + 1), List.drop_eq_getElem_cons h, ?_⟩
 unfold bt; rw [List.getD_eq_getElem?_getD, List.getElem?_eq_getElem h]; rfl
theorem decAt_in' (s : List UInt8) (i : Int) (h0 : 0 ≤ i) (h1 : i < s.length) : decAt s i = decS (s.drop i.toNat) := by unfold decAt; rw [if_neg (by omega)]
end Go.Proofs.Ytkaeihlpdceokaa