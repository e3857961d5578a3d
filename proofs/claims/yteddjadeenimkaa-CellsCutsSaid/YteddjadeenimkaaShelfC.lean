/- Contracts of functions of Go's library, over texts as lists. -/
import Derived.Test.YteddjadeenimkaaShelf
import Derived.Test.YteddjadeenimkaaTys
set_option linter.unusedVariables false
set_option linter.unusedSimpArgs false
namespace Go.Proofs.Yteddjadeenimkaa
open Go.RowKit
theorem repeatL_one (c : UInt8) : ∀ n, Lib.repeatL [c] n = List.replicate n c
  | 0 => rfl
  | n + 1 => by simp [Lib.repeatL, repeatL_one c n, List.replicate_succ]
theorem repeat_c (c : UInt8) (n : Nat) (h : n ≤ 140737488355328) (w : World) :
    Calls Try.prog 106 #[S [c], .int .i64 (n : Int)] w fun e w' => e = .returned (S (List.replicate n c)) ∧ Below w.heap.size w w' := by
  have := Try.strings_Repeat ⟨⟨[c]⟩⟩ n w (by omega) (by show 1 * n ≤ _; omega)
  rw [show (Lib.repeatL (ByteArray.mk ⟨[c]⟩).data.toList n) = List.replicate n c from repeatL_one c n] at this
  exact this
end Go.Proofs.Yteddjadeenimkaa
