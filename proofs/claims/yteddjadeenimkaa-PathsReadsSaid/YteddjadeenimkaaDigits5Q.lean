/- Contracts: digits.Put whole, Columns, and the law's own small function. -/
import Derived.Test.YteddjadeenimkaaDigits4Q
set_option linter.unusedVariables false
set_option linter.unusedSimpArgs false
namespace Go.Proofs.Yteddjadeenimkaa
open Go.RowKit Bf

theorem put_any (n : Int) (w : World) (h : -9223372036854775808 ≤ n ∧ n ≤ 9223372036854775807) :
    Calls Try.prog 128 #[.int .i64 n] w fun e w' => e = .returned (.string ⟨(putL n).toArray⟩) ∧ Below w.heap.size w w' := by
  by_cases h0 : n < 0
  · exact put_neg n w h0 h.1
  · exact put_pos n w (by omega) h.2

/-- Put, its answer named. -/
theorem put_at (n : Int) (l : List UInt8) (w : World) (h : -9223372036854775808 ≤ n ∧ n ≤ 9223372036854775807) (hl : Hid (putL n = l)) :
    Calls Try.prog 128 #[.int .i64 n] w fun e w' => e = .returned (.string ⟨l.toArray⟩) ∧ Below w.heap.size w w' := by
  have := put_any n w h; rw [hl.out] at this; exact this

theorem parse_at (s : ByteArray) (n f a : Int) (w : World) (hs : s.size ≤ maxLen) (h : Hid (parseS s.data.toList = (n, f, a))) :
    Calls Try.prog 92 #[.string s] w fun e w' => e = .returned (.tuple #[.int .i64 n, .agg #[.int .i64 f, .int .i64 a]]) ∧ Below w.heap.size w w' := by
  have := parse_any s w hs; rw [h.out] at this; exact this


end Go.Proofs.Yteddjadeenimkaa
