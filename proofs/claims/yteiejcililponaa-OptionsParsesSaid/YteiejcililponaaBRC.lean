/- BRC: texts of this proof, joined by program: SySl2, SyDrawU, SyFn. -/
import Derived.Test.YteiejcililponaaBEX
/- A symbolic walk: a slice of a slice; calls that leave all pieces as they were; what a row's room is. -/
set_option linter.unusedVariables false
set_option linter.unusedSimpArgs false
namespace Go.Proofs.Yteiejcililponaa
open Go.RowKit
section
variable {P : Program} {C : Cx} {k : List It} {fr : Fr} {hp : List En} {all : Array Oper} {l : List Oper} {dst : Option Tmp} {ty : TypeId} {pos : String} {aft : Array Edge} {g : Option (Nat × Bool)}
theorem ov_slLo {t e : TypeId} [hd : TU P t (.slice e)] {ti : TypeInfo} [hti : TI P e ti] {x y : Operand} {b off n q : Nat} {ik : IntKind} {i : Int} (hx : ev fr x = some (.slice (some ⟨b, off, none⟩) n q)) (hy : ev fr y = some (.int ik i)) (h0 : 0 ≤ i) (h1 : i ≤ n) (h2 : i < q) :
    OV P C fr hp ⟨dst, .slice t x (some y) none none, ty, pos, aft, g⟩ (.slice (some ⟨b, off + i.toNat * ti.size, none⟩) (n - i.toNat) (q - i.toNat)) :=
  ov_pure (fun r w hr => by
    have h3 : ¬ q = i.toNat := by omega
    simp [execOp, hr _ _ hx, hr _ _ hy, Instr.sliceAt, Instr.slice, Instr.sliceBounds, Instr.sliceBound, asIntOf, underlying, hd.h, h0, h1, h3, run_sizeOf' (P := P) (t := e), addr_add])
theorem sy_vecCap (i : Nat) {e : TypeId} {size n m q : Nat} {p : Option Addr} {cs : List Value} (hi : hp[i]? = some (vec e size (.slice p m q) n cs)) (h : n ≤ q → Sy P C k fr hp) : Sy P C k fr hp :=
  .mk fun a w ha hw => by
    have hown : w.ownsRow 0 e size (.slice p m q) n cs := (hw.get hi).1
    rcases hown.2 with ⟨hv, h0⟩ | ⟨g, cap, cur, hv, _, _, hle, _⟩
    · cases hv; exact (h (by omega)).go a w ha hw
    · cases hv; exact (h hle).go a w ha hw
end
end Go.Proofs.Yteiejcililponaa
/- In a drawn region: behind a guard whose own operation was not wanted, nothing is wanted; guards beside what changes memory. -/
set_option linter.unusedVariables false
set_option linter.unusedSimpArgs false
namespace Go.Proofs.Yteiejcililponaa
open Go.RowKit
section
variable {P : Program} {C : Cx} {fr : Fr} {hp : List En} {all : Array Oper}
variable {hc : List En} {K : Fr → List En → Prop}
end
end Go.Proofs.Yteiejcililponaa
/- A symbolic walk: calls of a function value; a function value is made; places of an array; pieces are put together. -/
set_option linter.unusedVariables false
set_option linter.unusedSimpArgs false
namespace Go.Proofs.Yteiejcililponaa
open Go.RowKit
section
variable {P : Program} {C : Cx} {k : List It} {fr : Fr} {hp : List En} {all : Array Oper} {l : List Oper} {dst : Option Tmp} {ty : TypeId} {pos : String} {aft : Array Edge} {g : Option (Nat × Bool)}
theorem ov_callT {f : FuncId} {fn : Func} [hfn : FN P f fn] {t : Operand} {first caps : Array Value} {args : List Operand} {ats : Array TypeId} {vs us : List Value} {v : Value} (ht : ev fr t = some (.func (.func f) first caps)) (hx : evs fr args = some vs) (hu : first.toList ++ vs ++ caps.toList = us)
    (hc : ∀ w, HpOk C.D C.w0 hp w → Calls P f us.toArray w fun e w' => e = .returned v ∧ Below w.heap.size w w') : OV P C fr hp ⟨dst, .call ⟨.value t, ⟨args⟩, ats⟩, ty, pos, aft, g⟩ v :=
  .mk fun r w hr hw => by
    subst hu
    have h1 : ¬ fn.name = "runtime.NumGoroutine" := by simpa using hfn.name
    have h2 : ¬ fn.body = none := by have := hfn.body; cases hx : fn.body <;> simp_all
    have he : (execOp r ⟨dst, .call ⟨.value t, ⟨args⟩, ats⟩, ty, pos, aft, g⟩).run P w = .ok (.enter f (first.toList ++ vs ++ caps.toList).toArray) w := by
      obtain ⟨first⟩ := first
      obtain ⟨caps⟩ := caps
      unfold execOp
      simp [resolve, Deferred.ofValue, invoke, callFunc, hfn.h, h1, h2, hr _ _ ht, evs_map hr hx]
    rw [he]
    exact (hc w hw).mono fun e w' he => ⟨he.1, hw.step he.2⟩
theorem ov_arrAddr {t e : TypeId} {n : Nat} [hd : TU P t (.array n e)] {ti : TypeInfo} [hti : TI P e ti] {x y : Operand} {b off : Nat} {ik : IntKind} {i : Int} (hx : ev fr x = some (.pointer (some ⟨b, off, none⟩))) (hy : ev fr y = some (.int ik i)) (h0 : 0 ≤ i) (h1 : i < n) :
    OV P C fr hp ⟨dst, .indexAddr t x y, ty, pos, aft, g⟩ (.pointer (some ⟨b, off + i.toNat * ti.size, none⟩)) :=
  ov_pure (fun r w hr => by
    simp [execOp, hr _ _ hx, hr _ _ hy, Instr.indexAt, Instr.sureAddr, asIntOf, underlying, hd.h, h0, h1, run_sizeOf' (P := P) (t := e), addr_add])
end
theorem filterMap_range {α : Type} (l : List α) : (List.range l.length).filterMap (fun i => l[i]?) = l := by
  induction l with
  | nil => rfl
  | cons x l ih =>
    rw [List.length_cons, List.range_succ_eq_map, List.filterMap_cons]
    simp only [List.getElem?_cons_zero, List.filterMap_map]
    congr 1
/-- Pieces in another order. -/
theorem sy_order {P : Program} {C : Cx} {k : List It} {fr : Fr} {hp hp' : List En} (idx : List Nat) (hi : idx.isPerm (List.range hp.length) = true) (he : idx.filterMap (fun i => hp[i]?) = hp') (h : Sy P C k fr hp') : Sy P C k fr hp := by
  subst he
  refine sy_perm ?_ h
  have := (List.isPerm_iff.1 hi).filterMap (fun i => hp[i]?)
  rw [filterMap_range] at this
  exact this
/-! ### Two pieces as one -/
def En.and (e f : En) : En := ⟨fun b => e.dom b ∨ f.dom b, fun w => e.holds w ∧ f.holds w, fun w w' h hh => ⟨e.loc w w' (fun b hb => h b (.inl hb)) hh.1, f.loc w w' (fun b hb => h b (.inr hb)) hh.2⟩⟩
/-- No piece. -/
def En.none : En := ⟨fun _ => False, fun _ => True, fun _ _ _ h => h⟩
theorem HpOk.imp {D : Nat → Prop} {w0 w : World} {e f : En} {hp : List En} (h : HpOk D w0 (e :: hp) w) (hd : ∀ b, f.dom b → e.dom b) (hh : ∀ w, e.holds w → f.holds w) : HpOk D w0 (f :: hp) w := by
  have he := h.own e (by simp)
  have hs := List.pairwise_cons.1 h.sep
  refine ⟨h.keep, ?_, List.pairwise_cons.2 ⟨fun x hx b hb => hs.1 x hx b (hd b hb), hs.2⟩⟩
  intro x hx
  simp only [List.mem_cons] at hx
  rcases hx with rfl | hx
  · exact ⟨hh w he.1, fun b hb => he.2 b (hd b hb)⟩
  · exact h.own x (by simp [hx])
section
variable {P : Program} {C : Cx} {k : List It} {fr : Fr} {hp : List En}
end
end Go.Proofs.Yteiejcililponaa
