/- A symbolic walk: leaving a function with results that lie in memory of the call's own. -/
import Derived.Test.YteddjadeenimkaaTys
set_option linter.unusedVariables false
set_option linter.unusedSimpArgs false
namespace Go.Proofs.Yteddjadeenimkaa
open Go.RowKit
section
variable {P : Program} {fr : Fr} {hp : List En}
theorem loadVar_ok {D : Nat → Prop} {w0 : World} {w : World} (hw : HpOk D w0 hp w) {t : TypeId} {d : TypeDesc} {ti : TypeInfo} [hd : TU P t d] [hti : TI P t ti] {i b : Nat} {e : TypeId} {cs : List Value} (hi : hp[i]? = some (blk b e cs)) (ha : isAggD d = true) (hn : Nat.ble (0 + ti.size) cs.length = true) :
    (loadVar t ⟨b, 0, none⟩).run P w = .ok (.agg ⟨cs.take ti.size⟩) w := by
  have hl := loadCells_ok (P := P) hw (n := ti.size) hi (off := 0) (by simpa using hn)
  simp [loadVar, run_isAgg (P := P) (t := t) (d := d), ha, run_sizeOf' (P := P) (t := t), hl]
theorem ret1c (i : Nat) {fn : Func} {c : Tmp} {ct : TypeId} {d : TypeDesc} {ti : TypeInfo} [hd : TU P ct d] [hti : TI P ct ti] {w0 : World} {n b : Nat} {e : TypeId} {cs : List Value} {v0 : Value} (hr : fn.results = #[.cell c ct]) (hc : get c fr = some (.pointer (some ⟨b, 0, none⟩))) (hi : hp[i]? = some (blk b e cs)) (ha : isAggD d = true) (hn : Nat.ble (0 + ti.size) cs.length = true) (he : Value.agg ⟨cs.take ti.size⟩ = v0) :
    Leave P ⟨fun _ => False, w0, n, bodyPost P fn fun e w' => e = .returned v0 ∧ Below w0.heap.size w0 w'⟩ .ret [] fr hp := .mk fun a w ha' hw => by
  subst he
  have hl := loadVar_ok (P := P) (t := ct) hw hi ha hn
  have hs := ha'.slot c _ hc
  rw [Array.getD_eq_getD_getElem?] at hs
  have hq : (results fn a.tmps).run P w = .ok (.agg ⟨cs.take ti.size⟩) w := by
    simp [results, hr, hs, asAddr, hl]
  show bodyPost P fn (fun e w' => e = .returned _ ∧ Below w0.heap.size w0 w') .ret a w
  exact bodyPost_ret hq ha'.defers (And.intro rfl hw.below)
theorem ret2c (i : Nat) {fn : Func} {t c : Tmp} {ct : TypeId} {d : TypeDesc} {ti : TypeInfo} [hd : TU P ct d] [hti : TI P ct ti] {w0 : World} {n b : Nat} {e : TypeId} {cs : List Value} {v v0 : Value} (hr : fn.results = #[.tmp t, .cell c ct]) (hv : get t fr = some v) (hc : get c fr = some (.pointer (some ⟨b, 0, none⟩))) (hi : hp[i]? = some (blk b e cs)) (ha : isAggD d = true) (hn : Nat.ble (0 + ti.size) cs.length = true) (he : Value.tuple #[v, .agg ⟨cs.take ti.size⟩] = v0) :
    Leave P ⟨fun _ => False, w0, n, bodyPost P fn fun e w' => e = .returned v0 ∧ Below w0.heap.size w0 w'⟩ .ret [] fr hp := .mk fun a w ha' hw => by
  subst he
  have hl := loadVar_ok (P := P) (t := ct) hw hi ha hn
  have hs := ha'.slot c _ hc
  have hs1 := ha'.slot t _ hv
  rw [Array.getD_eq_getD_getElem?] at hs hs1
  have hq : (results fn a.tmps).run P w = .ok (.tuple #[v, .agg ⟨cs.take ti.size⟩]) w := by
    simp [results, hr, hs, hs1, asAddr, hl]
  show bodyPost P fn (fun e w' => e = .returned _ ∧ Below w0.heap.size w0 w') .ret a w
  exact bodyPost_ret hq ha'.defers (And.intro rfl hw.below)
theorem ret3c (i : Nat) {fn : Func} {t u c : Tmp} {ct : TypeId} {d : TypeDesc} {ti : TypeInfo} [hd : TU P ct d] [hti : TI P ct ti] {w0 : World} {n b : Nat} {e : TypeId} {cs : List Value} {v x v0 : Value} (hr : fn.results = #[.tmp t, .tmp u, .cell c ct]) (hv : get t fr = some v) (hx : get u fr = some x) (hc : get c fr = some (.pointer (some ⟨b, 0, none⟩))) (hi : hp[i]? = some (blk b e cs)) (ha : isAggD d = true) (hn : Nat.ble (0 + ti.size) cs.length = true) (he : Value.tuple #[v, x, .agg ⟨cs.take ti.size⟩] = v0) :
    Leave P ⟨fun _ => False, w0, n, bodyPost P fn fun e w' => e = .returned v0 ∧ Below w0.heap.size w0 w'⟩ .ret [] fr hp := .mk fun a w ha' hw => by
  subst he
  have hl := loadVar_ok (P := P) (t := ct) hw hi ha hn
  have hs := ha'.slot c _ hc
  have hs1 := ha'.slot t _ hv
  have hs2 := ha'.slot u _ hx
  rw [Array.getD_eq_getD_getElem?] at hs hs1 hs2
  have hq : (results fn a.tmps).run P w = .ok (.tuple #[v, x, .agg ⟨cs.take ti.size⟩]) w := by
    simp [results, hr, hs, hs1, hs2, asAddr, hl]
  show bodyPost P fn (fun e w' => e = .returned _ ∧ Below w0.heap.size w0 w') .ret a w
  exact bodyPost_ret hq ha'.defers (And.intro rfl hw.below)
end
end Go.Proofs.Yteddjadeenimkaa
