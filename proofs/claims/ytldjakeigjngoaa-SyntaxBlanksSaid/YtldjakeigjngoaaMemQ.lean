/- Slices: what a slice reads as, what a call's own row holds; append of one cell. -/
import Derived.Test.YtldjakeigjngoaaBBA
import Derived.OwnWalk
import Derived.Laws.AppendOwn
import Derived.OpenShut
set_option linter.unusedVariables false
set_option linter.unusedSimpArgs false
namespace Go.Proofs.Ytldjakeigjngoaa
open Go.RowKit Bf
def Rd (w : World) (v : Value) (n size : Nat) (xs : List Value) : Prop :=
 xs.length = n * size ∧ ((n = 0 ∧ ∃ a c, v = .slice a 0 c) ∨
  ∃ g off cap, v = .slice (some ⟨g, off, none⟩) n cap ∧ g < w.heap.size ∧ n ≤ cap ∧ cap ≤ maxLen ∧ ∀ j (h : j < xs.length), w.cell? ⟨g, off + j, none⟩ = some xs[j])
theorem Rd.below {w w' : World} {v : Value} {n size : Nat} {xs : List Value} (h : Rd w v n size xs) (hb : Below w.heap.size w w') : Rd w' v n size xs := by
 obtain ⟨h1, h2⟩ := h
 refine ⟨h1, ?_⟩
 rcases h2 with h2 | ⟨g, off, cap, hv, hg, hc, hm, hx⟩
 · exact Or.inl h2
 · exact Or.inr ⟨g, off, cap, hv, Nat.lt_of_lt_of_le hg hb.size, hc, hm, fun j hj => by rw [hb.cell (p := ⟨g, off + j, none⟩) hg]; exact hx j hj⟩
end Go.Proofs.Ytldjakeigjngoaa