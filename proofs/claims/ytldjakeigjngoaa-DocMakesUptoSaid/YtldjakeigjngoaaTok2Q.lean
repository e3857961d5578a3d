/- Contracts of the package tokens: all tokens of a text. -/
import Derived.Test.YtldjakeigjngoaaTokQ
import Derived.Test.YtldjakeigjngoaaBPT
import Derived.Test.YtldjakeigjngoaaBPT
set_option linter.unusedVariables false
set_option linter.unusedSimpArgs false
namespace Go.Proofs.Ytldjakeigjngoaa
open Go.RowKit Bf
section
variable {P : Program} {C : Cx} {k : List It} {fr : Fr} {hp : List En} {x : Exit}
end
def ScanR (s : List UInt8) (v : Value) (e' : En) : Prop := ∃ p q, v = .tuple #[.slice p (scanR s).1.length q, faultV (scanR s).2.1 (scanR s).2.2] ∧ e' = vec 131 5 (.slice p (scanR s).1.length q) (scanR s).1.length ((scanR s).1.flatMap tokV)
theorem ScanR.mk' {s : List UInt8} {L : List TokT} {e a : Int} {n : Nat} {cs : List Value} (h : scanR s = (L, e, a)) (p : Option Addr) (q : Nat) (hn : n = L.length) (hcs : cs = L.flatMap tokV) : ScanR s (.tuple #[.slice p n q, faultV e a]) (vec 131 5 (.slice p n q) n cs) := by
  subst hn; subst hcs
  exact ⟨p, q, by rw [h], by rw [h]⟩
structure TkSt where
  i : Int
  p : Option Addr
  q : Nat
  acc : List TokT
end Go.Proofs.Ytldjakeigjngoaa
