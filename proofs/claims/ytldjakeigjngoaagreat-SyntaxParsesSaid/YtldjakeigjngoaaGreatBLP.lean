/- BLP: texts of this proof, joined by program: L2, Paths. -/
import Derived.Test.YtldjakeigjngoaaGreatTysQ
import Derived.Test.YtldjakeigjngoaaGreatDigits6Q
import Derived.Test.YtldjakeigjngoaaGreatBUN
import Derived.Test.YtldjakeigjngoaaGreatBEX
import Derived.Test.YtldjakeigjngoaaGreatBPL
import Derived.Test.YtldjakeigjngoaaGreatNamesQ
set_option linter.unusedVariables false
set_option linter.unusedSimpArgs false
namespace Go.Proofs.YtldjakeigjngoaaGreat
open Go.RowKit Bf
theorem dtake_c (s : List UInt8) (a n en f p : Int) (h : takeS s a = (n, en, f, p)) (hs : s.length ≤ 4611686018427387000) (h1 : -9223372036854775808 ≤ a) (h2 : a ≤ 9223372036854775807) (w : World) :
 Calls Tryz.prog 110 #[S s, .int .i64 a] w fun e w' => e = .returned (.tuple #[.int .i64 n, .int .i64 en, faultV f p]) ∧ Below w.heap.size w w' :=
 take_at ⟨⟨s⟩⟩ a n en f p w (by show s.length ≤ maxLen; unfold maxLen; omega) ⟨h1, h2⟩ h
theorem rdtake_c (s : List UInt8) (a n en f p : Int) (h : takeS s a = (n, en, f, p)) (hs : s.length ≤ 4611686018427387000) (h1 : -9223372036854775808 ≤ a) (h2 : a ≤ 9223372036854775807) (w : World) :
 Calls Tryz.prog 94 #[S s, .int .i64 a] w fun e w' => e = .returned (.tuple #[.int .i64 n, .int .i64 en, faultV f p]) ∧ Below w.heap.size w w' :=
 rtake_at ⟨⟨s⟩⟩ a n en f p w (by show s.length ≤ maxLen; unfold maxLen; omega) ⟨h1, h2⟩ h
section
variable {P : Program} {fr : Fr} {hp : List En}
theorem ret2cw (i : Nat) {D : Nat → Prop} {fn : Func} {t c : Tmp} {ct : TypeId} {d : TypeDesc} {ti : TypeInfo} [hd : TU P ct d] [hti : TI P ct ti] {w0 : World} {n b : Nat} {e : TypeId} {cs : List Value} {v : Value} {R : Ending → World → Prop} (hr : fn.results = #[.tmp t, .cell c ct]) (hv : get t fr = some v) (hc : get c fr = some (.pointer (some ⟨b, 0, none⟩))) (hi : hp[i]? = some (blk b e cs)) (ha : isAggD d = true) (hn : Nat.ble (0 + ti.size) cs.length = true)
 (h : ∀ w, HpOk D w0 hp w → R (.returned (.tuple #[v, .agg ⟨cs.take ti.size⟩])) w) : Leave P ⟨D, w0, n, bodyPost P fn R⟩ .ret [] fr hp := .mk fun a w ha' hw => by
 have hl := loadVar_ok (P := P) (t := ct) hw hi ha hn
 have hs := ha'.slot c _ hc
 have hs1 := ha'.slot t _ hv
 rw [Array.getD_eq_getD_getElem?] at hs hs1
 have hq : (results fn a.tmps).run P w = .ok (.tuple #[v, .agg ⟨cs.take ti.size⟩]) w := by
  simp [results, hr, hs, hs1, asAddr, hl]
 show bodyPost P fn R .ret a w
 exact bodyPost_ret hq ha'.defers (h w hw)
end
theorem get_bt (s : List UInt8) (a : Int) (j : Nat) (c : UInt8) (h0 : 0 ≤ a) : (s.drop a.toNat)[j]? = some c ↔ a + j < s.length ∧ bt s (a + j) = (c.toNat : Int) := by
 rw [List.getElem?_drop]
 by_cases h : a.toNat + j < s.length
 · have := bt_some s (a.toNat + j) h c
   rw [← this, show ((a.toNat + j : Nat) : Int) = a + j by omega]
   constructor
   · intro h2; exact ⟨by omega, h2⟩
   · intro h2; exact h2.2
 · rw [List.getElem?_eq_none (by omega)]
   constructor
   · intro h2; cases h2
   · intro h2; omega
end Go.Proofs.YtldjakeigjngoaaGreat