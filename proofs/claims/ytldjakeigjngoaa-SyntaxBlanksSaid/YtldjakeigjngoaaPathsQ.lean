/- Contracts of the package paths, and of the reference's paths: reading. -/
import Derived.Test.YtldjakeigjngoaaBEX
import Derived.Test.YtldjakeigjngoaaBPL
import Derived.Test.YtldjakeigjngoaaNamesQ
import Derived.Test.YtldjakeigjngoaaL2Q
set_option linter.unusedVariables false
set_option linter.unusedSimpArgs false
namespace Go.Proofs.Ytldjakeigjngoaa
open Go.RowKit Bf
section
variable {P : Program} {fr : Fr} {hp : List En}
theorem ret2cw (i : Nat) {D : Nat → Prop} {fn : Func} {t c : Tmp} {ct : TypeId} {d : TypeDesc} {ti : TypeInfo} [hd : TU P ct d] [hti : TI P ct ti] {w0 : World} {n b : Nat} {e : TypeId} {cs : List Value} {v : Value} {R : Ending → World → Prop} (hr : fn.results = #[.tmp t, .cell c ct]) (hv : get t fr = some v) (hc : get c fr = some (.pointer (some ⟨b, 0, none⟩))) (hi : hp[i]? = some (blk b e cs)) (ha : isAggD d = true) (hn : Nat.ble (0 + ti.size) cs.length = true)
 (h : ∀ w, HpOk D w0 hp w → R (.returned (.tuple #[v, .agg ⟨cs.take ti.size⟩])) w) : Leave P ⟨D, w0, n, bodyPost P fn R⟩ .ret [] fr hp := .mk fun a w ha' hw => by
 have hl := loadVar_ok (P := P) (t := ct) hw hi ha hn
 have hs := ha'.slot c _ hc
 have hs1 := ha'.slot t _ hv
 rw [Array.getD_eq_getD_getElem?] at hs hs1
 have hq : (results fn a.tmps).run P w = .ok (.tuple #[v, .agg ⟨cs.take ti.size⟩]) w := by
  simp [results, hr, hs, hs1, asAddr, hl]
 show bodyPost P fn R .ret a w
 exact bodyPost_ret hq ha'.defers (h w hw)
end
end Go.Proofs.Ytldjakeigjngoaa