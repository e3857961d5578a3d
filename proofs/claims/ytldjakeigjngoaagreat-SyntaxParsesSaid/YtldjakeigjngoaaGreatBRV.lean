/- BRV: texts of this proof, joined by program: RawEl, RawEl2, RawRows, RawList, RawWord, RawVal, RawVal2, RawVal3, RawParse. -/
import Derived.Test.YtldjakeigjngoaaGreatBRA
import Derived.Test.YtldjakeigjngoaaGreatBCX
import Derived.Test.YtldjakeigjngoaaGreatBOA
import Derived.Test.YtldjakeigjngoaaGreatSyTwoQ
import Derived.Test.YtldjakeigjngoaaGreatBRC
set_option linter.unusedVariables false
set_option linter.unusedSimpArgs false
namespace Go.Proofs.YtldjakeigjngoaaGreat
open Go.RowKit Bf
structure BadC (l : List TokT) (c' : CurT) (e a : Int) : Prop where
 ok : CurOk l c'
 ne : e ≠ 0
 he : c'.e = e
 ha : c'.a = a
structure Acc where
 ks : List WordT
 pk : Option Addr
 ck : Nat
 zs : List RawA
 p : Option Addr
 c : Nat
theorem hdT_at {l : List TokT} {i : Nat} {t : TokT} (h : l[i]? = some t) : hdT (l.drop i) = t ∧ (l.drop i).tail = l.drop (i + 1) := by
 rw [drop_get h]; exact ⟨rfl, rfl⟩
section
variable {val : List TokT → Int → RR RawP} {rec : Bool} {e : List UInt8} {n : Nat} {L l' : List TokT} {m m' : Int} {ks : List WordT} {vs : List RawP} {R : RR (List WordT × List RawP)} {kv : List WordT × RawP}
end
inductive RwSt where
 | ok (i m : Int) (x : Acc)
 | bad (c : CurT) (m : Int) (cs : List Value)
theorem BadC.leave {l : List TokT} {c : CurT} {e a : Int} (h : BadC l c e a) : BadC l (leaveT c) e a := ⟨h.ok.leave, h.ne, h.he, h.ha⟩
section
variable {P : Program} {fr : Fr} {hp : List En}
theorem ret_ccw (i j : Nat) {D : Nat → Prop} {fn : Func} {c d : Tmp} {ct dt : TypeId} {cd dd : TypeDesc} {ci di : TypeInfo} [TU P ct cd] [TI P ct ci] [TU P dt dd] [TI P dt di] {w0 : World} {n b b' : Nat} {e e' : TypeId} {cs ds : List Value} {R : Ending → World → Prop} (hr : fn.results = #[.cell c ct, .cell d dt])
 (hc : get c fr = some (.pointer (some ⟨b, 0, none⟩))) (hd : get d fr = some (.pointer (some ⟨b', 0, none⟩))) (hi : hp[i]? = some (blk b e cs)) (hj : hp[j]? = some (blk b' e' ds)) (ha : isAggD cd = true) (ha' : isAggD dd = true) (hn : Nat.ble (0 + ci.size) cs.length = true) (hn' : Nat.ble (0 + di.size) ds.length = true)
 (h : ∀ w, HpOk D w0 hp w → R (.returned (.tuple #[.agg ⟨cs.take ci.size⟩, .agg ⟨ds.take di.size⟩])) w) :
 Leave P ⟨D, w0, n, bodyPost P fn R⟩ .ret [] fr hp := .mk fun a w ha1 hw => by
 have hl := loadVar_ok (P := P) (t := ct) hw hi ha hn
 have hl' := loadVar_ok (P := P) (t := dt) hw hj ha' hn'
 have hs := ha1.slot c _ hc
 have hs2 := ha1.slot d _ hd
 rw [Array.getD_eq_getD_getElem?] at hs hs2
 have hq : (results fn a.tmps).run P w = .ok (.tuple #[.agg ⟨cs.take ci.size⟩, .agg ⟨ds.take di.size⟩]) w := by
  simp [results, hr, hs, hs2, asAddr, hl, hl']
 show bodyPost P fn R .ret a w
 exact bodyPost_ret hq ha1.defers (h w hw)
end
end Go.Proofs.YtldjakeigjngoaaGreat