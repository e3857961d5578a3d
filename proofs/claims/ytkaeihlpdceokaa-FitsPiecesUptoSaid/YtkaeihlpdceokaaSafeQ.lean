/- Contracts of the package safe and of the references of layers 4 and 6: First, Is, Scrub. -/
import Derived.Test.YtkaeihlpdceokaaBRF
import Derived.Test.YtkaeihlpdceokaaBPL
import Derived.Test.YtkaeihlpdceokaaBUB
set_option linter.unusedVariables false
set_option linter.unusedSimpArgs false
namespace Go.Proofs.Ytkaeihlpdceokaa
open Go.RowKit Bf
def badS (l : List UInt8) : Int := if (decS l).2.2 = false then 2 else if (decS l).1 ≠ 10 ∧ unsafeB (decS l).1 = true then 3 else 0
def firstL (l : List UInt8) : Nat := if h : l = [] then 0 else if badS l = 0 then (decS l).2.1 + firstL (l.drop (decS l).2.1) else 0
termination_by l.length
decreasing_by exact decS_drop_lt l h
theorem firstL_ok (l : List UInt8) (h : l ≠ []) (hb : badS l = 0) : firstL l = (decS l).2.1 + firstL (l.drop (decS l).2.1) := by rw [firstL, dif_neg h, if_pos hb]
theorem drop_ne' (s : List UInt8) (i : Int) (h0 : 0 ≤ i) (h1 : i < s.length) : s.drop i.toNat ≠ [] := by intro e; have := congrArg List.length e; simp at this; omega
structure FirstInv (s : List UInt8) (i : Int) : Prop where
 i0 : 0 ≤ i
 i1 : i ≤ s.length
 first : (firstL s : Int) = i + firstL (s.drop i.toNat)
theorem FirstInv.step {s : List UInt8} {i : Int} (h : FirstInv s i) (hlt : i < s.length) (hb : badS (s.drop i.toNat) = 0) {r : Int} {n : Nat} {ok : Bool} (hd : decS (s.drop i.toNat) = (r, n, ok)) : FirstInv s (i + n) ∧ 1 ≤ n := by
 have hne := drop_ne' s i h.i0 hlt
 have hl := decS_len (s.drop i.toNat)
 have hf := firstL_ok _ hne hb
 rw [hd, List.length_drop] at hl
 rw [hd, List.drop_drop] at hf
 have h1 := hl.2.1 hne
 have h0 := h.i0
 have hfi := h.first
 simp only at hl h1 hf
 exact ⟨⟨by omega, by omega, by rw [hfi, hf, show (i + (n : Int)).toNat = i.toNat + n by omega]; omega⟩, h1⟩
end Go.Proofs.Ytkaeihlpdceokaa