/- BRV: texts of this proof, joined by program: RawRows, RawList, RawWord, RawVal, RawVal2, RawVal3, RawParse. -/
import Derived.Test.YtldjakeigjngoaaBRE
import Derived.Test.YtldjakeigjngoaaBOB
/- Contracts: the rows of a list or a record, as the program reads them. -/
set_option linter.unusedVariables false
set_option linter.unusedSimpArgs false
namespace Go.Proofs.Ytldjakeigjngoaa
open Go.RowKit Bf
section
variable {val : List TokT → Int → RR RawP} {rec : Bool} {e : List UInt8} {n : Nat} {L l' : List TokT} {m m' : Int} {ks : List WordT} {vs : List RawP} {R : RR (List WordT × List RawP)} {kv : List WordT × RawP}
end
inductive RwSt where
 | ok (i m : Int) (x : Acc)
 | bad (c : CurT) (m : Int) (cs : List Value)
end Go.Proofs.Ytldjakeigjngoaa
/- Contracts: a list, a record, as the program reads them. -/
namespace Go.Proofs.Ytldjakeigjngoaa
open Go.RowKit Bf
end Go.Proofs.Ytldjakeigjngoaa
/- Contract: what stands behind a name, as the program reads it. -/
namespace Go.Proofs.Ytldjakeigjngoaa
open Go.RowKit Bf
end Go.Proofs.Ytldjakeigjngoaa
/- Contract: a value, as the program reads it. -/
namespace Go.Proofs.Ytldjakeigjngoaa
open Go.RowKit Bf
theorem BadC.leave {l : List TokT} {c : CurT} {e a : Int} (h : BadC l c e a) : BadC l (leaveT c) e a := ⟨h.ok.leave, h.ne, h.he, h.ha⟩
end Go.Proofs.Ytldjakeigjngoaa
/- Contract: a value, as the program reads it: one that may begin. -/
namespace Go.Proofs.Ytldjakeigjngoaa
open Go.RowKit Bf
end Go.Proofs.Ytldjakeigjngoaa
/- Contract: a value, as the program reads it: numbers, texts, words, and what may not begin. -/
namespace Go.Proofs.Ytldjakeigjngoaa
open Go.RowKit Bf
end Go.Proofs.Ytldjakeigjngoaa
/- Contract: a text's value, as the program reads it. -/
namespace Go.Proofs.Ytldjakeigjngoaa
open Go.RowKit Bf
section
variable {P : Program} {fr : Fr} {hp : List En}
theorem ret_ccw (i j : Nat) {D : Nat → Prop} {fn : Func} {c d : Tmp} {ct dt : TypeId} {cd dd : TypeDesc} {ci di : TypeInfo} [TU P ct cd] [TI P ct ci] [TU P dt dd] [TI P dt di] {w0 : World} {n b b' : Nat} {e e' : TypeId} {cs ds : List Value} {R : Ending → World → Prop} (hr : fn.results = #[.cell c ct, .cell d dt])
 (hc : get c fr = some (.pointer (some ⟨b, 0, none⟩))) (hd : get d fr = some (.pointer (some ⟨b', 0, none⟩))) (hi : hp[i]? = some (blk b e cs)) (hj : hp[j]? = some (blk b' e' ds)) (ha : isAggD cd = true) (ha' : isAggD dd = true) (hn : Nat.ble (0 + ci.size) cs.length = true) (hn' : Nat.ble (0 + di.size) ds.length = true)
 (h : ∀ w, HpOk D w0 hp w → R (.returned (.tuple #[.agg ⟨cs.take ci.size⟩, .agg ⟨ds.take di.size⟩])) w) :
 Leave P ⟨D, w0, n, bodyPost P fn R⟩ .ret [] fr hp := .mk fun a w ha1 hw => by
 have hl := loadVar_ok (P := P) (t := ct) hw hi ha hn
 have hl' := loadVar_ok (P := P) (t := dt) hw hj ha' hn'
 have hs := ha1.slot c _ hc
 have hs2 := ha1.slot d _ hd
 rw [Array.getD_eq_getD_getElem?] at hs hs2
 have hq : (results fn a.tmps).run P w = .ok (.tuple #[.agg ⟨cs.take ci.size⟩, .agg ⟨ds.take di.size⟩]) w := by
  simp [results, hr, hs, hs2, asAddr, hl, hl']
 show bodyPost P fn R .ret a w
 exact bodyPost_ret hq ha1.defers (h w hw)
end
end Go.Proofs.Ytldjakeigjngoaa