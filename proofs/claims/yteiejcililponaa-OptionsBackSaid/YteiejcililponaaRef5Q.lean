/- Contracts of the reference of layer 5: Hex, Unit, Quote. -/
import Derived.Test.YteiejcililponaaRef3Q
import Derived.Test.YteiejcililponaaPlainEsc2Q
set_option linter.unusedVariables false
set_option linter.unusedSimpArgs false
namespace Go.Proofs.Yteiejcililponaa
open Go.RowKit Bf
theorem enc_lo (l : List UInt8) (hl : l ≠ []) (r : Int) (n : Nat) (h : decS l = (r, n, true)) (h0 : 0 ≤ r) (h1 : r < 128) : n = 1 ∧ l.take 1 = [u8 r] := by
  obtain ⟨he, hs⟩ := decS_enc l hl r n h
  rw [encL_1 _ hs h1] at he
  have hb := decS_len l
  rw [h] at hb
  have hlen := congrArg List.length he
  rw [List.length_take] at hlen
  have h2 := hb.1
  simp only [List.length_singleton] at hlen h2
  have hn : n = 1 := by omega
  subst hn
  exact ⟨rfl, he⟩
def RQuoInv (s : List UInt8) (a : Int × List UInt8) : Prop := 0 ≤ a.1 ∧ a.1 ≤ s.length ∧ a.2.length ≤ 1 + 10 * a.1.toNat ∧ 34 :: bodyQ s = a.2 ++ bodyQ (s.drop a.1.toNat)
end Go.Proofs.Yteiejcililponaa
