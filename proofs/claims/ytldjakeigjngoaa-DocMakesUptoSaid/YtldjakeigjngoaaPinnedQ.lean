/- Contracts of the package pinned: the tables, and the search in them. -/
import Derived.Test.YtldjakeigjngoaaMemQ
import Derived.Test.YtldjakeigjngoaaRunQ
import Derived.Test.YtldjakeigjngoaaBPL
set_option linter.unusedVariables false
set_option linter.unusedSimpArgs false
namespace Go.Proofs.Ytldjakeigjngoaa
open Go.RowKit Bf
def spans (l : List (Int × Int)) : List Value := l.flatMap fun p => [.int .i32 p.1, .int .i32 p.2]
theorem spans_len (l : List (Int × Int)) : (spans l).length = l.length * 2 := by
  unfold spans; induction l with
  | nil => rfl
  | cons p l ih => simp at ih ⊢; omega
theorem spans_get (l : List (Int × Int)) (i : Nat) (h : i < l.length) : (spans l)[2 * i]? = some (.int .i32 l[i].1) ∧ (spans l)[2 * i + 1]? = some (.int .i32 l[i].2) := by
  induction l generalizing i with
  | nil => simp at h
  | cons p l ih =>
    have e : spans (p :: l) = .int .i32 p.1 :: .int .i32 p.2 :: spans l := by simp [spans]
    cases i with
    | zero => rw [e]; exact ⟨rfl, rfl⟩
    | succ i =>
      have := ih i (by simpa using h)
      rw [e, show 2 * (i + 1) = 2 * i + 1 + 1 by omega, show 2 * i + 1 + 1 + 1 = (2 * i + 1) + 1 + 1 by omega]
      simpa using this
theorem rd_new (w : World) (e : TypeId) (n size : Nat) (xs : List Value) (h : xs.length = n * size) (hn : n ≤ maxLen) : Rd (w.alloc (.cells xs.toArray e)) (.slice (some ⟨w.heap.size, 0, none⟩) n n) n size xs :=
  ⟨h, Or.inr ⟨w.heap.size, 0, n, rfl, by simp, Nat.le_refl _, hn, fun j hj => by rw [World.cell?_alloc_mark]; simp [List.getElem?_eq_getElem hj]⟩⟩
set_option maxRecDepth 200000 in
set_option maxHeartbeats 4000000 in
theorem zero_any (w : World) : Calls Try.prog 184 #[] w fun e w' => e = .returned (.slice (some ⟨w.heap.size, 0, none⟩) 82 82) ∧ w.alloc (.cells (spans zeroT).toArray 219) = w' := by
  exact calls_run (fuel := 20) (n := 1) (by kernel_rfl)
set_option maxRecDepth 200000 in
set_option maxHeartbeats 4000000 in
theorem wide_any (w : World) : Calls Try.prog 183 #[] w fun e w' => e = .returned (.slice (some ⟨w.heap.size, 0, none⟩) 116 116) ∧ w.alloc (.cells (spans wideT).toArray 219) = w' := by
  exact calls_run (fuel := 20) (n := 1) (by kernel_rfl)
end Go.Proofs.Ytldjakeigjngoaa
