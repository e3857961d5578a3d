/- BRR: texts of this proof, joined by program: RefR, RefR2. -/
import Derived.Test.YtldjakeigjngoaaGreatBRP
import Derived.Test.YtldjakeigjngoaaGreatBST
import Derived.Test.YtldjakeigjngoaaGreatBRV
set_option linter.unusedVariables false
set_option linter.unusedSimpArgs false
namespace Go.Proofs.YtldjakeigjngoaaGreat
open Go.RowKit Bf
theorem sy_vecIs {P : Program} {C : Cx} {k' : List It} {fr : Fr} {hp : List En} (i : Nat) {e : TypeId} {size n n' q : Nat} {p : Option Addr} {cs cs' : List Value} (hi : hp[i]? = some (vec e size (.slice p n q) n cs)) (hn : n = n') (hc : cs = cs') (h : Sy P C k' fr (hp.set i (vec e size (.slice p n' q) n' cs'))) : Sy P C k' fr hp := by
 subst hn
 subst hc
 rwa [show hp.set i (vec e size (.slice p n q) n cs) = hp from by
  apply List.ext_getElem?
  intro j
  rw [List.getElem?_set]
  split
  · rename_i h2; subst h2
    split
    · exact hi.symm
    · rename_i h3; rw [List.getElem?_eq_none (by omega)]
  · rfl] at h
end Go.Proofs.YtldjakeigjngoaaGreat