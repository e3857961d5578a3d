/- Contracts: escape.digit, number, scalar, One; strings.IndexByte; utf.Encode over lists. -/
import Derived.Test.YtldjakeigjngoaaPlainOneQ
import Derived.Test.YtldjakeigjngoaaBU3
import Derived.Lib.Bytealg
set_option linter.unusedVariables false
set_option linter.unusedSimpArgs false
namespace Go.Proofs.Ytldjakeigjngoaa
open Go.RowKit Bf
section
variable {C : Cx} {fr : Fr} {hp : List En} {dst : Option Tmp} {ty : TypeId} {pos : String} {aft : Array Edge} {g : Option (Nat × Bool)}
end
theorem pow16_le (k : Nat) (h : k ≤ 6) : 16 ^ k ≤ 16777216 := by
  have h2 : 16 ^ k ≤ 16 ^ 6 := Nat.pow_le_pow_right (by decide) h
  have h3 : 16 ^ 6 = 16777216 := by decide
  omega
structure NumInv (s : List UInt8) (i n : Int) : Prop where
  i0 : 0 ≤ i
  i1 : i ≤ s.length
  n0 : 0 ≤ n
  lt : n.toNat < 16 ^ i.toNat
  eq : numV 0 s = numV n.toNat (s.drop i.toNat)
theorem NumInv.step {s : List UInt8} {i n : Int} (h : NumInv s i n) (hlt : i < s.length) {d : Nat} (hd : hexV (bt s i).toNat = some d) : NumInv s (i + 1) (n * 16 + d) := by
  have i0 := h.i0
  have n0 := h.n0
  have hl := h.lt
  obtain ⟨c, l, hdr, hb⟩ := bt_nat s i i0 hlt
  have h16 := hexV_lt hd
  rw [hb, Int.toNat_natCast] at hd
  have he := h.eq
  rw [hdr, numV_some hd] at he
  have e1 : (i + 1).toNat = i.toNat + 1 := by omega
  have hdr2 : s.drop (i + 1).toNat = l := by rw [e1, ← List.drop_drop, hdr]; rfl
  refine ⟨by omega, by omega, by omega, ?_, ?_⟩
  · rw [e1, Nat.pow_succ]; omega
  · rw [he, hdr2, show (n * 16 + (d : Int)).toNat = n.toNat * 16 + d by omega]
theorem NumInv.bd {s : List UInt8} {i n : Int} (h : NumInv s i n) (hi : i.toNat ≤ 6) : n < 16777216 := by
  have := pow16_le _ hi; have := h.lt; have := h.n0; omega
end Go.Proofs.Ytldjakeigjngoaa
