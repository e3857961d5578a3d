/- Steps in memory. -/
import Derived.Test.YteddjadeenimkaaBEX
import Derived.Test.YteddjadeenimkaaBPL
set_option linter.unusedVariables false
set_option linter.unusedSimpArgs false
namespace Go.Proofs.Yteddjadeenimkaa
open Go.RowKit Go.Deep Bf
def stpV (x : StepT) : List Value := [.int .i64 x.1, .int .i64 x.2.1, S x.2.2]
theorem stpV_len (x : StepT) : (stpV x).length = 3 := rfl
def StepOk (x : StepT) : Prop := (-9223372036854775808 ≤ x.1 ∧ x.1 ≤ 9223372036854775807) ∧ (-9223372036854775808 ≤ x.2.1 ∧ x.2.1 ≤ 9223372036854775807) ∧ x.2.2.length ≤ maxLen
section
variable {H : Type} {enc : TypeId × Value → H} {w : World} {base : Nat} {spare : Nat → Bool} {held : Bool}
set_option maxRecDepth 20000 in
theorem open_step {n : Nat} {cs : List Value} {y : DataW H × List MemPlace} (h : DataW.trod enc Try.prog w base spare held n 95 cs = some y) : ∃ z, cs = stpV z ∧ StepOk z := by
  obtain ⟨xs, m, _, _, hlen, hxl, hf⟩ := DataW.trod_struct Try.underlying95 h
  have hC : Try.prog.cellsOf 95 = 3 := by kernel_rfl
  rw [hC] at hlen
  match cs, hlen with
  | [v0, v1, v2], _ =>
    have c0 : Try.prog.cellsOf 9 = 1 := by kernel_rfl
    have c1 : Try.prog.cellsOf 3 = 1 := by kernel_rfl
    have hx : ∀ i, i < 3 → ∃ y, xs[i]? = some y := fun i hi => ⟨xs[i]'(by rw [hxl]; exact hi), List.getElem?_eq_getElem _⟩
    obtain ⟨y0, hy0⟩ := hx 0 (by omega)
    have e0 : DataW.trod enc Try.prog w base spare held m 3 ([v0, v1, v2].take (Try.prog.cellsOf 3)) = xs[0]? := hf 0 _ rfl
    rw [c1, hy0] at e0
    have e0 : DataW.trod enc Try.prog w base spare held m 3 [v0] = some y0 := e0
    obtain ⟨y1, hy1⟩ := hx 1 (by omega)
    have e1 : DataW.trod enc Try.prog w base spare held m 3 ([v1, v2].take (Try.prog.cellsOf 3)) = xs[1]? := hf 1 _ rfl
    rw [c1, hy1] at e1
    have e1 : DataW.trod enc Try.prog w base spare held m 3 [v1] = some y1 := e1
    obtain ⟨y2, hy2⟩ := hx 2 (by omega)
    have e2 : DataW.trod enc Try.prog w base spare held m 9 ([v2].take (Try.prog.cellsOf 9)) = xs[2]? := hf 2 _ rfl
    rw [c0, hy2] at e2
    have e2 : DataW.trod enc Try.prog w base spare held m 9 [v2] = some y2 := e2
    obtain ⟨k, hk, _, hk2⟩ := DataW.trod_int Try.underlying3 e0
    obtain ⟨i, hi, _, hi2⟩ := DataW.trod_int Try.underlying3 e1
    obtain ⟨s, hs, _, hs2⟩ := DataW.trod_string Try.underlying9 e2
    cases hk; cases hi; cases hs
    obtain ⟨⟨l⟩⟩ := s
    exact ⟨(k, i, l), rfl, bounds_i64 hk2, bounds_i64 hi2, hs2⟩
theorem open_steps {fuel : Nat} {v : Value} {x : DataW H × List MemPlace} (h : DataW.trod enc Try.prog w base spare held fuel 35 [v] = some x) :
    ∃ (p : Option Addr) (n c : Nat) (l : List StepT), v = .slice p n c ∧ l.length = n ∧ n ≤ c ∧ c ≤ maxLen ∧ IsSl w 3 p n (l.flatMap stpV) ∧ ∀ y ∈ l, StepOk y :=
  open_rows stpV StepOk Try.underlying35 (by kernel_rfl) stpV_len (by decide) (fun n cs y _ h => open_step h) h
end
end Go.Proofs.Yteddjadeenimkaa
