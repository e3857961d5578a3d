/- A fault that a law is given. -/
import Derived.Test.YtldjakeigjngoaaBEX
set_option linter.unusedVariables false
set_option linter.unusedSimpArgs false
namespace Go.Proofs.Ytldjakeigjngoaa
open Go.RowKit Go.Deep
def fltV (z : Int × Int) : List Value := [.int .i64 z.1, .int .i64 z.2]
def FltOk (x : Int × Int) : Prop := (-9223372036854775808 ≤ x.1 ∧ x.1 ≤ 9223372036854775807) ∧ (-9223372036854775808 ≤ x.2 ∧ x.2 ≤ 9223372036854775807)
section
variable {H : Type} {enc : TypeId × Value → H} {w : World} {base : Nat} {spare : Nat → Bool} {held : Bool}
set_option maxRecDepth 20000 in
theorem open_fault {n : Nat} {cs : List Value} {y : DataW H × List MemPlace} (h : DataW.trod enc Try.prog w base spare held n 24 cs = some y) : ∃ z, cs = fltV z ∧ FltOk z := by
 obtain ⟨xs, m, _, _, hlen, hxl, hf⟩ := DataW.trod_struct Try.underlying24 h
 have hC : Try.prog.cellsOf 24 = 2 := by kernel_rfl
 rw [hC] at hlen
 match cs, hlen with
 | [v0, v1], _ =>
  have c0 : Try.prog.cellsOf 22 = 1 := by kernel_rfl
  have c1 : Try.prog.cellsOf 3 = 1 := by kernel_rfl
  have hx : ∀ i, i < 2 → ∃ y, xs[i]? = some y := fun i hi => ⟨xs[i]'(by rw [hxl]; exact hi), List.getElem?_eq_getElem _⟩
  obtain ⟨y0, hy0⟩ := hx 0 (by omega)
  have e0 : DataW.trod enc Try.prog w base spare held m 22 ([v0, v1].take (Try.prog.cellsOf 22)) = xs[0]? := hf 0 _ rfl
  rw [c0, hy0] at e0
  have e0 : DataW.trod enc Try.prog w base spare held m 22 [v0] = some y0 := e0
  obtain ⟨y1, hy1⟩ := hx 1 (by omega)
  have e1 : DataW.trod enc Try.prog w base spare held m 3 ([v1].take (Try.prog.cellsOf 3)) = xs[1]? := hf 1 _ rfl
  rw [c1, hy1] at e1
  have e1 : DataW.trod enc Try.prog w base spare held m 3 [v1] = some y1 := e1
  obtain ⟨k, hk, _, hk2⟩ := DataW.trod_int Try.underlying22 e0
  obtain ⟨i, hi, _, hi2⟩ := DataW.trod_int Try.underlying3 e1
  cases hk; cases hi
  exact ⟨(k, i), rfl, bounds_i64 hk2, bounds_i64 hi2⟩
end
end Go.Proofs.Ytldjakeigjngoaa