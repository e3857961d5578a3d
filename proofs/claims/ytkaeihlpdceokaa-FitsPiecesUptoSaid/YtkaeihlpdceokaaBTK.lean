/- BTK: texts of this proof, joined by program: Tok, Tok2. -/
import Derived.Test.YtkaeihlpdceokaaBPT
import Derived.Test.YtkaeihlpdceokaaTysQ
import Derived.Test.YtkaeihlpdceokaaBBA
import Derived.RegionTactic
import Derived.Test.YtkaeihlpdceokaaBPL
import Derived.Test.YtkaeihlpdceokaaBUN
import Derived.Test.YtkaeihlpdceokaaBEX
import Derived.Test.YtkaeihlpdceokaaNamesQ
/- Contracts of the package tokens: blanks, marks, remarks, a token. -/
set_option linter.unusedVariables false
set_option linter.unusedSimpArgs false
namespace Go.Proofs.Ytkaeihlpdceokaa
open Go.RowKit Bf
section
variable {P : Program} {fr : Fr} {hp : List En}
end
structure RmInv (s : List UInt8) (i j : Int) : Prop where
 i0 : i ≤ j
 j1 : j ≤ s.length
 eq : remL (s.drop i.toNat) = ((j - i).toNat + (remL (s.drop j.toNat)).1, (remL (s.drop j.toNat)).2)
theorem RmInv.start (s : List UInt8) (i : Int) (h1 : i ≤ s.length) : RmInv s i i := ⟨Int.le_refl i, h1, by simp⟩
theorem bt_at (s : List UInt8) (i : Int) (h0 : 0 ≤ i) : bt (s.drop i.toNat) 0 = bt s i := by
 unfold bt; simp [List.getD_eq_getElem?_getD, List.getElem?_drop]
theorem RmInv.step {s : List UInt8} {i j : Int} (h : RmInv s i j) (h0 : 0 ≤ i) (hlt : j < s.length) (hb : bt s j ≠ 10) {r : Int} {n : Nat} (hd : decAt s j = (r, n, true)) (hr : ¬ (r ≠ 9 ∧ unsafeB r = true)) : RmInv s i (j + n) := by
 have i0 := h.i0
 have hbd := dec_bd s j (by omega) hlt hd
 rw [decAt_in' s j (by omega) hlt] at hd
 have hr := remL_ok (s.drop j.toNat) (drop_ne' s j (by omega) hlt) (by rw [bt_at s j (by omega)]; exact hb) hd hr
 refine ⟨by omega, by omega, ?_⟩
 rw [h.eq, hr, List.drop_drop, show (j + n).toNat = j.toNat + n by omega]
 refine Prod.ext ?_ rfl
 simp only; omega
theorem RmInv.bad {s : List UInt8} {i j : Int} (h : RmInv s i j) (h0 : 0 ≤ i) (hlt : j < s.length) (hb : bt s j ≠ 10) {r : Int} {n : Nat} (hd : decAt s j = (r, n, false)) : remL (s.drop i.toNat) = ((j - i).toNat, 2) := by
 have i0 := h.i0
 rw [decAt_in' s j (by omega) hlt] at hd
 rw [h.eq, remL_bad (s.drop j.toNat) (drop_ne' s j (by omega) hlt) (by rw [bt_at s j (by omega)]; exact hb) hd]; rfl
end Go.Proofs.Ytkaeihlpdceokaa
/- Contracts of the package tokens: all tokens of a text. -/
namespace Go.Proofs.Ytkaeihlpdceokaa
open Go.RowKit Bf
section
variable {P : Program} {C : Cx} {k : List It} {fr : Fr} {hp : List En} {x : Exit}
end
structure TkSt where
 i : Int
 p : Option Addr
 q : Nat
 acc : List TokT
end Go.Proofs.Ytkaeihlpdceokaa