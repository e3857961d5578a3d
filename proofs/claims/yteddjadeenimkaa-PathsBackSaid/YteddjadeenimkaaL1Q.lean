/- Contracts over texts as lists: utf, cells. -/
import Derived.Test.YteddjadeenimkaaTysQ
import Derived.Test.YteddjadeenimkaaCells3Q
import Derived.Test.YteddjadeenimkaaLives04Q
set_option linter.unusedVariables false
set_option linter.unusedSimpArgs false
namespace Go.Proofs.Yteddjadeenimkaa
open Go.RowKit Bf
theorem decode_c (s : List UInt8) (i r : Int) (n : Nat) (b : Bool) (h : decAt s i = (r, n, b)) (hs : s.length ≤ 4611686018427387000) (h1 : -9223372036854775808 ≤ i) (h2 : i ≤ 9223372036854775807) (w : World) :
    Calls Try.prog 74 #[S s, .int .i64 i] w fun e w' => e = .returned (.tuple #[.int .i32 r, .int .i64 (n : Int), .bool b]) ∧ Below w.heap.size w w' :=
  decode_at ⟨⟨s⟩⟩ i r n b w (by show s.length ≤ maxLen; unfold maxLen; omega) ⟨h1, h2⟩ h
theorem unit_c (s : List UInt8) (i c : Int) (n : Nat) (h : unitAt s i = (c, n)) (hs : s.length ≤ 4611686018427387000) (h1 : -9223372036854775808 ≤ i) (h2 : i ≤ 9223372036854775807) (w : World) :
    Calls Try.prog 19 #[S s, .int .i64 i] w fun e w' => e = .returned (.tuple #[.int .i64 c, .int .i64 (n : Int)]) ∧ Below w.heap.size w w' :=
  unit_at ⟨⟨s⟩⟩ i c n w (by show s.length ≤ maxLen; unfold maxLen; omega) ⟨h1, h2⟩ h
theorem width_c (s : List UInt8) (c : Int) (h : widthL s = c) (hs : s.length ≤ 4611686018427387000) (w : World) :
    Calls Try.prog 18 #[S s] w fun e w' => e = .returned (.int .i64 c) ∧ Below w.heap.size w w' :=
  width_at ⟨⟨s⟩⟩ c w (by show s.length ≤ maxLen; unfold maxLen; omega) hs h
theorem cut_c (s : List UInt8) (m : Int) (k : Nat) (h : cutL s m = k) (hs : s.length ≤ 4611686018427387000) (h1 : 0 ≤ m) (h2 : m ≤ 9223372036854775807) (w : World) :
    Calls Try.prog 17 #[S s, .int .i64 m] w fun e w' => e = .returned (.tuple #[S (s.take k), S (s.drop k)]) ∧ Below w.heap.size w w' := by
  subst h
  have := cut_any ⟨⟨s⟩⟩ m w (by show s.length ≤ maxLen; unfold maxLen; omega) ⟨h1, h2⟩
  rw [extract_mk, extract_mk] at this
  simp only [Nat.sub_zero, List.drop_zero] at this
  have e : (s.drop (cutL s m)).take (s.length - cutL s m) = s.drop (cutL s m) := List.take_of_length_le (by simp)
  have e2 : (ByteArray.mk ⟨s⟩).size = s.length := rfl
  rw [e2, e] at this
  exact this
theorem lives04_c (w : World) : Calls Try.prog 16 #[] w fun e w' => e = .returned (.bool true) ∧ Below w.heap.size w w' := lives04_any w
end Go.Proofs.Yteddjadeenimkaa
