/- Raw values in memory. -/
import Derived.Test.YtldjakeigjngoaaBEX
set_option linter.unusedVariables false
set_option linter.unusedSimpArgs false
namespace Go.Proofs.Ytldjakeigjngoaa
open Go.RowKit Go.Deep
abbrev WordT := List UInt8 × Int
def wordV (x : WordT) : List Value := [S x.1, .int .i64 x.2]
theorem wordV_len (x : WordT) : (wordV x).length = 2 := rfl
/-- A value as it was written, and where its parts lie. -/
inductive RawA where
  | mk (k a n : Int) (s : List UInt8) (pk : Option Addr) (ck : Nat) (keys : List WordT) (p : Option Addr) (c : Nat) (kids : List RawA)
def RawA.k : RawA → Int | .mk k _ _ _ _ _ _ _ _ _ => k
def RawA.a : RawA → Int | .mk _ a _ _ _ _ _ _ _ _ => a
def RawA.n : RawA → Int | .mk _ _ n _ _ _ _ _ _ _ => n
def RawA.s : RawA → List UInt8 | .mk _ _ _ s _ _ _ _ _ _ => s
def RawA.keys : RawA → List WordT | .mk _ _ _ _ _ _ l _ _ _ => l
def RawA.kids : RawA → List RawA | .mk _ _ _ _ _ _ _ _ _ l => l
def rawV : RawA → List Value
  | .mk k a n s pk ck keys p c kids => [.int .i64 k, .int .i64 a, .int .i64 n, S s, .slice pk keys.length ck, .slice p kids.length c]
theorem rawV_len (x : RawA) : (rawV x).length = 6 := by cases x; rfl
def I64 (n : Int) : Prop := -9223372036854775808 ≤ n ∧ n ≤ 9223372036854775807
inductive RawIn (w : World) : RawA → Prop where
  | mk (k a n : Int) (s : List UInt8) (pk : Option Addr) (ck : Nat) (keys : List WordT) (p : Option Addr) (c : Nat) (kids : List RawA)
    (hb : I64 k ∧ I64 a ∧ I64 n ∧ s.length ≤ maxLen ∧ keys.length ≤ maxLen ∧ kids.length ≤ maxLen) (hw : ∀ x ∈ keys, I64 x.2 ∧ x.1.length ≤ maxLen)
    (h1 : IsSl w 2 pk keys.length (keys.flatMap wordV)) (h2 : IsSl w 6 p kids.length (kids.flatMap rawV)) (h3 : ∀ x ∈ kids, RawIn w x) : RawIn w (.mk k a n s pk ck keys p c kids)
theorem RawIn.bl (t : RawA) : Bl fun w => RawIn w t := fun w w' hb h => by
  induction h with
  | mk k a n s pk ck keys p c kids b hw h1 h2 h3 ih => exact .mk k a n s pk ck keys p c kids b hw (IsSl.bl _ _ _ _ w w' hb h1) (IsSl.bl _ _ _ _ w w' hb h2) ih
theorem wf_i64 {n : Int} (h : (Lit.int .i64 n).wf = true) : I64 n := bounds_i64 h
section
variable {H : Type} {enc : TypeId × Value → H} {w : World} {base : Nat} {spare : Nat → Bool} {held : Bool}
set_option maxRecDepth 20000 in
theorem open_word {n : Nat} {cs : List Value} {y : DataW H × List MemPlace} (h : DataW.trod enc Try.prog w base spare held n 69 cs = some y) : ∃ z, cs = wordV z ∧ (I64 z.2 ∧ z.1.length ≤ maxLen) := by
  obtain ⟨xs, m, _, _, hlen, hxl, hf⟩ := DataW.trod_struct Try.underlying69 h
  have hC : Try.prog.cellsOf 69 = 2 := by kernel_rfl
  rw [hC] at hlen
  match cs, hlen with
  | [v0, v1], _ =>
    have c0 : Try.prog.cellsOf 9 = 1 := by kernel_rfl
    have c1 : Try.prog.cellsOf 3 = 1 := by kernel_rfl
    have hx : ∀ i, i < 2 → ∃ y, xs[i]? = some y := fun i hi => ⟨xs[i]'(by rw [hxl]; exact hi), List.getElem?_eq_getElem _⟩
    obtain ⟨y0, hy0⟩ := hx 0 (by omega)
    have e0 : DataW.trod enc Try.prog w base spare held m 9 ([v0, v1].take (Try.prog.cellsOf 9)) = xs[0]? := hf 0 _ rfl
    rw [c0, hy0] at e0
    have e0 : DataW.trod enc Try.prog w base spare held m 9 [v0] = some y0 := e0
    obtain ⟨y1, hy1⟩ := hx 1 (by omega)
    have e1 : DataW.trod enc Try.prog w base spare held m 3 ([v1].take (Try.prog.cellsOf 3)) = xs[1]? := hf 1 _ rfl
    rw [c1, hy1] at e1
    have e1 : DataW.trod enc Try.prog w base spare held m 3 [v1] = some y1 := e1
    obtain ⟨s, hs, _, hs2⟩ := DataW.trod_string Try.underlying9 e0
    obtain ⟨i, hi, _, hi2⟩ := DataW.trod_int Try.underlying3 e1
    cases hs; cases hi
    obtain ⟨⟨l⟩⟩ := s
    exact ⟨(l, i), rfl, wf_i64 hi2, hs2⟩
end
end Go.Proofs.Ytldjakeigjngoaa
