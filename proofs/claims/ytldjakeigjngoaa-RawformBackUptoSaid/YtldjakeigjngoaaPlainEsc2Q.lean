/- Plain: a text in quotes is well-formed, and no rune of it steers a terminal. -/
import Derived.Test.YtldjakeigjngoaaBPL
import Derived.Test.YtldjakeigjngoaaBUB
set_option linter.unusedVariables false
set_option linter.unusedSimpArgs false
namespace Go.Proofs.Ytldjakeigjngoaa
open Bf
theorem decS_enc (l : List UInt8) (hl : l ≠ []) (r : Int) (n : Nat) (h : decS l = (r, n, true)) : l.take n = encL r ∧ scalarB r = true := by
 cases l with
 | nil => exact absurd rfl hl
 | cons a l =>
  obtain ⟨r', n', ok, hd, _, _, _, hok, _⟩ := ref_dec a l
  rw [hd] at h
  obtain ⟨rfl, h2⟩ := Prod.mk.inj h
  obtain ⟨rfl, rfl⟩ := Prod.mk.inj h2
  obtain ⟨_, hb, hr⟩ := hok rfl
  have he := isB_enc hb
  rw [hr] at he
  refine ⟨he.symm, ?_⟩
  unfold isB at hb; rw [hr] at hb
  rw [Bool.and_eq_true] at hb; exact hb.1
end Go.Proofs.Ytldjakeigjngoaa