/- Raw values in memory. -/
import Derived.Test.YtldjakeigjngoaaBEX
set_option linter.unusedVariables false
set_option linter.unusedSimpArgs false
namespace Go.Proofs.Ytldjakeigjngoaa
open Go.RowKit Go.Deep
abbrev WordT := List UInt8 × Int
def wordV (x : WordT) : List Value := [S x.1, .int .i64 x.2]
inductive RawA where
 | mk (k a n : Int) (s : List UInt8) (pk : Option Addr) (ck : Nat) (keys : List WordT) (p : Option Addr) (c : Nat) (kids : List RawA)
def RawA.k : RawA → Int | .mk k _ _ _ _ _ _ _ _ _ => k
def RawA.a : RawA → Int | .mk _ a _ _ _ _ _ _ _ _ => a
def RawA.n : RawA → Int | .mk _ _ n _ _ _ _ _ _ _ => n
def RawA.s : RawA → List UInt8 | .mk _ _ _ s _ _ _ _ _ _ => s
def RawA.keys : RawA → List WordT | .mk _ _ _ _ _ _ l _ _ _ => l
def RawA.kids : RawA → List RawA | .mk _ _ _ _ _ _ _ _ _ l => l
def rawV : RawA → List Value
 | .mk k a n s pk ck keys p c kids => [.int .i64 k, .int .i64 a, .int .i64 n, S s, .slice pk keys.length ck, .slice p kids.length c]
def I64 (n : Int) : Prop := -9223372036854775808 ≤ n ∧ n ≤ 9223372036854775807
inductive RawIn (w : World) : RawA → Prop where
 | mk (k a n : Int) (s : List UInt8) (pk : Option Addr) (ck : Nat) (keys : List WordT) (p : Option Addr) (c : Nat) (kids : List RawA)
  (hb : I64 k ∧ I64 a ∧ I64 n ∧ s.length ≤ maxLen ∧ keys.length ≤ maxLen ∧ kids.length ≤ maxLen) (hw : ∀ x ∈ keys, I64 x.2 ∧ x.1.length ≤ maxLen)
  (h1 : IsSl w 2 pk keys.length (keys.flatMap wordV)) (h2 : IsSl w 6 p kids.length (kids.flatMap rawV)) (h3 : ∀ x ∈ kids, RawIn w x) : RawIn w (.mk k a n s pk ck keys p c kids)
theorem RawIn.bl (t : RawA) : Bl fun w => RawIn w t := fun w w' hb h => by
 induction h with
 | mk k a n s pk ck keys p c kids b hw h1 h2 h3 ih => exact .mk k a n s pk ck keys p c kids b hw (IsSl.bl _ _ _ _ w w' hb h1) (IsSl.bl _ _ _ _ w w' hb h2) ih
section
variable {H : Type} {enc : TypeId × Value → H} {w : World} {base : Nat} {spare : Nat → Bool} {held : Bool}
end
end Go.Proofs.Ytldjakeigjngoaa