/- Contracts over texts as lists: utf, cells. -/
import Derived.Test.YteiejcililponaaTysQ
import Derived.Test.YteiejcililponaaCells3Q
import Derived.Test.YteiejcililponaaLives04Q
set_option linter.unusedVariables false
set_option linter.unusedSimpArgs false
namespace Go.Proofs.Yteiejcililponaa
open Go.RowKit Bf
theorem decode_c (s : List UInt8) (i r : Int) (n : Nat) (b : Bool) (h : decAt s i = (r, n, b)) (hs : s.length ≤ 4611686018427387000) (h1 : -9223372036854775808 ≤ i) (h2 : i ≤ 9223372036854775807) (w : World) :
    Calls Try.prog 134 #[S s, .int .i64 i] w fun e w' => e = .returned (.tuple #[.int .i32 r, .int .i64 (n : Int), .bool b]) ∧ Below w.heap.size w w' :=
  decode_at ⟨⟨s⟩⟩ i r n b w (by show s.length ≤ maxLen; unfold maxLen; omega) ⟨h1, h2⟩ h
theorem unit_c (s : List UInt8) (i c : Int) (n : Nat) (h : unitAt s i = (c, n)) (hs : s.length ≤ 4611686018427387000) (h1 : -9223372036854775808 ≤ i) (h2 : i ≤ 9223372036854775807) (w : World) :
    Calls Try.prog 168 #[S s, .int .i64 i] w fun e w' => e = .returned (.tuple #[.int .i64 c, .int .i64 (n : Int)]) ∧ Below w.heap.size w w' :=
  unit_at ⟨⟨s⟩⟩ i c n w (by show s.length ≤ maxLen; unfold maxLen; omega) ⟨h1, h2⟩ h
theorem width_c (s : List UInt8) (c : Int) (h : widthL s = c) (hs : s.length ≤ 4611686018427387000) (w : World) :
    Calls Try.prog 130 #[S s] w fun e w' => e = .returned (.int .i64 c) ∧ Below w.heap.size w w' :=
  width_at ⟨⟨s⟩⟩ c w (by show s.length ≤ maxLen; unfold maxLen; omega) hs h
end Go.Proofs.Yteiejcililponaa
