/- BRC: texts of this proof, joined by program: SySl2, SyDrawU, SyFn. -/
import Derived.Test.YteiejcililponaaBEX
/- A symbolic walk: a slice of a slice; calls that leave all pieces as they were; what a row's room is. -/
set_option linter.unusedVariables false
set_option linter.unusedSimpArgs false
namespace Go.Proofs.Yteiejcililponaa
open Go.RowKit
section
variable {P : Program} {C : Cx} {k : List It} {fr : Fr} {hp : List En} {all : Array Oper} {l : List Oper} {dst : Option Tmp} {ty : TypeId} {pos : String} {aft : Array Edge} {g : Option (Nat × Bool)}
theorem ov_slLo {t e : TypeId} [hd : TU P t (.slice e)] {ti : TypeInfo} [hti : TI P e ti] {x y : Operand} {b off n q : Nat} {ik : IntKind} {i : Int} (hx : ev fr x = some (.slice (some ⟨b, off, none⟩) n q)) (hy : ev fr y = some (.int ik i)) (h0 : 0 ≤ i) (h1 : i ≤ n) (h2 : i < q) :
    OV P C fr hp ⟨dst, .slice t x (some y) none none, ty, pos, aft, g⟩ (.slice (some ⟨b, off + i.toNat * ti.size, none⟩) (n - i.toNat) (q - i.toNat)) :=
  ov_pure (fun r w hr => by
    have h3 : ¬ q = i.toNat := by omega
    simp [execOp, hr _ _ hx, hr _ _ hy, Instr.sliceAt, Instr.slice, Instr.sliceBounds, Instr.sliceBound, asIntOf, underlying, hd.h, h0, h1, h3, run_sizeOf' (P := P) (t := e), addr_add])
theorem ov_slHi {t e : TypeId} [hd : TU P t (.slice e)] {ti : TypeInfo} [hti : TI P e ti] {x y : Operand} {p : Option Addr} {n q : Nat} {ik : IntKind} {i : Int} (hx : ev fr x = some (.slice p n q)) (hy : ev fr y = some (.int ik i)) (h0 : 0 ≤ i) (h1 : i ≤ q) :
    OV P C fr hp ⟨dst, .slice t x none (some y) none, ty, pos, aft, g⟩ (.slice p i.toNat q) :=
  ov_pure (fun r w hr => by
    have ha : ∀ a : Addr, a.add 0 = a := fun a => rfl
    by_cases hq : q = 0
    · subst hq
      have hi : i = 0 := by omega
      subst hi
      simp [execOp, hr _ _ hx, hr _ _ hy, Instr.sliceAt, Instr.slice, Instr.sliceBounds, Instr.sliceBound, asIntOf, underlying, hd.h, h0, h1, run_sizeOf' (P := P) (t := e)]
    · simp [execOp, hr _ _ hx, hr _ _ hy, Instr.sliceAt, Instr.slice, Instr.sliceBounds, Instr.sliceBound, asIntOf, underlying, hd.h, h0, h1, hq, run_sizeOf' (P := P) (t := e), ha]
      try (cases p <;> rfl))
/-- A callee that leaves the pieces es as they were. -/
theorem ov_callE {f : FuncId} {fn : Func} [hfn : FN P f fn] {args : List Operand} {ats : Array TypeId} {vs : List Value} {v : Value} (es : List En) (hx : evs fr args = some vs) (hs : es.Sublist hp)
    (hc : CallsE P f vs es fun u es' => u = v ∧ es' = es) : OV P C fr hp ⟨dst, .call ⟨.value (.func f), ⟨args⟩, ats⟩, ty, pos, aft, g⟩ v :=
  .mk fun r w hr hw => by
    have h1 : ¬ fn.name = "runtime.NumGoroutine" := by simpa using hfn.name
    have h2 : ¬ fn.body = none := by have := hfn.body; cases hx : fn.body <;> simp_all
    have h3 : r (.func f) = .func (.func f) #[] #[] := hr _ _ rfl
    have he : (execOp r ⟨dst, .call ⟨.value (.func f), ⟨args⟩, ats⟩, ty, pos, aft, g⟩).run P w = .ok (.enter f vs.toArray) w := by
      unfold execOp
      simp [resolve, Deferred.ofValue, invoke, callFunc, hfn.h, h1, h2, h3, evs_map hr hx]
    rw [he]
    obtain ⟨rest, hp2⟩ := hs.exists_perm_append
    have hw' := hw.perm hp2.symm
    refine (hc w hw'.self).mono fun x w' ⟨u, es', ⟨hu, hes⟩, hx', hh⟩ => ?_
    subst hu
    subst hes
    exact ⟨hx', (hw'.callE hh).perm hp2⟩
theorem sy_vecCap (i : Nat) {e : TypeId} {size n m q : Nat} {p : Option Addr} {cs : List Value} (hi : hp[i]? = some (vec e size (.slice p m q) n cs)) (h : n ≤ q → Sy P C k fr hp) : Sy P C k fr hp :=
  .mk fun a w ha hw => by
    have hown : w.ownsRow 0 e size (.slice p m q) n cs := (hw.get hi).1
    rcases hown.2 with ⟨hv, h0⟩ | ⟨g, cap, cur, hv, _, _, hle, _⟩
    · cases hv; exact (h (by omega)).go a w ha hw
    · cases hv; exact (h hle).go a w ha hw
end
end Go.Proofs.Yteiejcililponaa
/- In a drawn region: behind a guard whose own operation was not wanted, nothing is wanted; guards beside what changes memory. -/
set_option linter.unusedVariables false
set_option linter.unusedSimpArgs false
namespace Go.Proofs.Yteiejcililponaa
open Go.RowKit
section
variable {P : Program} {C : Cx} {fr : Fr} {hp : List En} {all : Array Oper}
theorem wanted_undef {j : Nat} {want : Bool} {t : Tmp} {oj : Oper} {o : Oper} {a : Act} (ha : FrOk C.n fr a) (hg : o.guard = some (j, want)) (hj : all[j]? = some oj) (ho : oj.dst = some t) (hlt : Nat.blt t C.n = true) (ht : get t fr = some undef) : Region.wanted o (yielded all a.tmps) = false := by
  have h1 := ha.slot t _ ht
  have h2' : t < a.tmps.size := by rw [ha.size]; simpa [Nat.blt_eq] using hlt
  have h3 : a.tmps[t]? = some undef := by
    rw [Array.getD_eq_getD_getElem?, Array.getElem?_eq_getElem h2'] at h1
    rw [Array.getElem?_eq_getElem h2']; simpa using h1
  simp only [Region.wanted, yielded, hg, hj, Option.bind_some, ho, h3]; rfl
theorem dr_undef {K : Fr → Prop} {dst : Option Tmp} {op : Op} {ty : TypeId} {pos : String} {aft : Array Edge} {l : List Oper} {j : Nat} {want : Bool} {t : Tmp} {oj : Oper} (hj : all[j]? = some oj) (ho : oj.dst = some t) (hlt : Nat.blt t C.n = true) (ht : get t fr = some undef)
    (hf : Fits C.n dst) (hk : DrG P C all hp K l (put dst undef fr)) : DrG P C all hp K (⟨dst, op, ty, pos, aft, some (j, want)⟩ :: l) fr :=
  ⟨undef, .mk fun a w ha hw => .inr ⟨wanted_undef ha rfl hj ho hlt ht, rfl⟩, hf, hk⟩
variable {hc : List En} {K : Fr → List En → Prop}
theorem dre_yes {dst : Option Tmp} {op : Op} {ty : TypeId} {pos : String} {aft : Array Edge} {l : List (Bool × Oper)} {v : Value} {j : Nat} {want b : Bool} {t : Tmp} {oj : Oper} (hj : all[j]? = some oj) (ho : oj.dst = some t) (hlt : Nat.blt t C.n = true) (ht : get t fr = some (.bool b)) (hb : b = want)
    (h : ∀ C', CxLe C C' → OV P C' fr hc ⟨dst, op, ty, pos, aft, some (j, want)⟩ v) (hk : DrE P C all hc K l (put dst v fr) hp) : DrE P C all hc K ((false, ⟨dst, op, ty, pos, aft, some (j, want)⟩) :: l) fr hp :=
  ⟨v, fun C' hC => .mk fun a w ha hw => .inl ⟨by rw [wanted_of (o := ⟨dst, op, ty, pos, aft, some (j, want)⟩) ha rfl hj ho (by rw [hC.n]; exact hlt) ht, hb]; simp, (h C' hC).go a.eval w (fun x u hx => ha.ev hx) hw⟩, hk⟩
theorem dre_no {dst : Option Tmp} {op : Op} {ty : TypeId} {pos : String} {aft : Array Edge} {l : List (Bool × Oper)} {j : Nat} {want b : Bool} {t : Tmp} {oj : Oper} (hj : all[j]? = some oj) (ho : oj.dst = some t) (hlt : Nat.blt t C.n = true) (ht : get t fr = some (.bool b)) (hb : b = !want)
    (hk : DrE P C all hc K l (put dst undef fr) hp) : DrE P C all hc K ((false, ⟨dst, op, ty, pos, aft, some (j, want)⟩) :: l) fr hp :=
  ⟨undef, fun C' hC => .mk fun a w ha hw => .inr ⟨by rw [wanted_of (o := ⟨dst, op, ty, pos, aft, some (j, want)⟩) ha rfl hj ho (by rw [hC.n]; exact hlt) ht, hb]; cases want <;> rfl, rfl⟩, hk⟩
theorem dre_undef {dst : Option Tmp} {op : Op} {ty : TypeId} {pos : String} {aft : Array Edge} {l : List (Bool × Oper)} {j : Nat} {want : Bool} {t : Tmp} {oj : Oper} (hj : all[j]? = some oj) (ho : oj.dst = some t) (hlt : Nat.blt t C.n = true) (ht : get t fr = some undef)
    (hk : DrE P C all hc K l (put dst undef fr) hp) : DrE P C all hc K ((false, ⟨dst, op, ty, pos, aft, some (j, want)⟩) :: l) fr hp :=
  ⟨undef, fun C' hC => .mk fun a w ha hw => .inr ⟨wanted_undef ha rfl hj ho (by rw [hC.n]; exact hlt) ht, rfl⟩, hk⟩
end
end Go.Proofs.Yteiejcililponaa
/- A symbolic walk: calls of a function value; a function value is made; places of an array; pieces are put together. -/
set_option linter.unusedVariables false
set_option linter.unusedSimpArgs false
namespace Go.Proofs.Yteiejcililponaa
open Go.RowKit
section
variable {P : Program} {C : Cx} {k : List It} {fr : Fr} {hp : List En} {all : Array Oper} {l : List Oper} {dst : Option Tmp} {ty : TypeId} {pos : String} {aft : Array Edge} {g : Option (Nat × Bool)}
/-- A call of a function value. -/
theorem sy_callwT {f : FuncId} {fn : Func} [hfn : FN P f fn] {t : Operand} {first caps : Array Value} {args : List Operand} {ats : Array TypeId} {vs us : List Value} {R : Ending → World → Prop} (ht : ev fr t = some (.func (.func f) first caps)) (hx : evs fr args = some vs) (hu : first.toList ++ vs ++ caps.toList = us) (hf : Fits C.n dst)
    (hc : ∀ w, HpOk C.D C.w0 hp w → Calls P f us.toArray w R)
    (hk : ∀ w w', HpOk C.D C.w0 hp w → ∀ e, R e w' → ∃ v hp', e = .returned v ∧ HpOk C.D C.w0 hp' w' ∧ Sy P C (.o all l :: k) (put dst v fr) hp') : Sy P C (.o all (⟨dst, .call ⟨.value t, ⟨args⟩, ats⟩, ty, pos, aft, none⟩ :: l) :: k) fr hp :=
  sy_op rfl fun a w ha hw => by
    subst hu
    unfold Oper.wp
    have h1 : ¬ fn.name = "runtime.NumGoroutine" := by simpa using hfn.name
    have h2 : ¬ fn.body = none := by have := hfn.body; cases hx : fn.body <;> simp_all
    have hr : (execOp a.eval ⟨dst, .call ⟨.value t, ⟨args⟩, ats⟩, ty, pos, aft, none⟩).run P w = .ok (.enter f (first.toList ++ vs ++ caps.toList).toArray) w := by
      obtain ⟨first⟩ := first
      obtain ⟨caps⟩ := caps
      unfold execOp
      simp [resolve, Deferred.ofValue, invoke, callFunc, hfn.h, h1, h2, ha.ev ht, ha.evs hx]
    rw [hr]
    refine (hc w hw).mono fun e w' he => ?_
    obtain ⟨v, hp', rfl, hw', hs⟩ := hk w w' hw e he
    exact hs.go _ _ (ha.put hf v) hw'
theorem sy_callET {f : FuncId} {fn : Func} [hfn : FN P f fn] {t : Operand} {first caps : Array Value} {args : List Operand} {ats : Array TypeId} {vs us : List Value} {R : Value → List En → Prop} (es : List En) {rest : List En} (ht : ev fr t = some (.func (.func f) first caps)) (hx : evs fr args = some vs) (hu : first.toList ++ vs ++ caps.toList = us) (hf : Fits C.n dst) (hhp : hp = es ++ rest)
    (hc : CallsE P f us es R) (hk : ∀ v es', R v es' → Sy P C (.o all l :: k) (put dst v fr) (es' ++ rest)) : Sy P C (.o all (⟨dst, .call ⟨.value t, ⟨args⟩, ats⟩, ty, pos, aft, none⟩ :: l) :: k) fr hp := by
  subst hhp
  exact sy_callwT ht hx hu hf (R := fun x w' => ∃ w, HpOk C.D C.w0 (es ++ rest) w ∧ PostE es w R x w')
    (fun w hw => (hc w hw.self).mono fun x w' h => ⟨w, hw, h⟩)
    fun _ w' _ x ⟨w, hw, v, es', hR, hx', hh⟩ => ⟨v, _, hx', hw.callE hh, hk v es' hR⟩
theorem ov_callT {f : FuncId} {fn : Func} [hfn : FN P f fn] {t : Operand} {first caps : Array Value} {args : List Operand} {ats : Array TypeId} {vs us : List Value} {v : Value} (ht : ev fr t = some (.func (.func f) first caps)) (hx : evs fr args = some vs) (hu : first.toList ++ vs ++ caps.toList = us)
    (hc : ∀ w, HpOk C.D C.w0 hp w → Calls P f us.toArray w fun e w' => e = .returned v ∧ Below w.heap.size w w') : OV P C fr hp ⟨dst, .call ⟨.value t, ⟨args⟩, ats⟩, ty, pos, aft, g⟩ v :=
  .mk fun r w hr hw => by
    subst hu
    have h1 : ¬ fn.name = "runtime.NumGoroutine" := by simpa using hfn.name
    have h2 : ¬ fn.body = none := by have := hfn.body; cases hx : fn.body <;> simp_all
    have he : (execOp r ⟨dst, .call ⟨.value t, ⟨args⟩, ats⟩, ty, pos, aft, g⟩).run P w = .ok (.enter f (first.toList ++ vs ++ caps.toList).toArray) w := by
      obtain ⟨first⟩ := first
      obtain ⟨caps⟩ := caps
      unfold execOp
      simp [resolve, Deferred.ofValue, invoke, callFunc, hfn.h, h1, h2, hr _ _ ht, evs_map hr hx]
    rw [he]
    exact (hc w hw).mono fun e w' he => ⟨he.1, hw.step he.2⟩
/-- A function value is made. -/
theorem ov_makeFunc {fn : Fn} {xs ys : List Operand} {us vs : List Value} (hx : evs fr xs = some us) (hy : evs fr ys = some vs) : OV P C fr hp ⟨dst, .makeFunc fn ⟨xs⟩ ⟨ys⟩, ty, pos, aft, g⟩ (.func fn ⟨us⟩ ⟨vs⟩) :=
  ov_pure (fun r w hr => by
    have h1 := evs_map hr hx
    have h2 := evs_map hr hy
    simp [execOp, Instr.makeFunc, h1, h2])
theorem ov_nilCheckF {x : Operand} {f : FuncId} {first caps : Array Value} (hx : ev fr x = some (.func (.func f) first caps)) : OV P C fr hp ⟨dst, .nilCheck x, ty, pos, aft, g⟩ (.func (.func f) first caps) :=
  ov_pure (fun r w hr => by simp [execOp, hr _ _ hx])
theorem ov_arrAddr {t e : TypeId} {n : Nat} [hd : TU P t (.array n e)] {ti : TypeInfo} [hti : TI P e ti] {x y : Operand} {b off : Nat} {ik : IntKind} {i : Int} (hx : ev fr x = some (.pointer (some ⟨b, off, none⟩))) (hy : ev fr y = some (.int ik i)) (h0 : 0 ≤ i) (h1 : i < n) :
    OV P C fr hp ⟨dst, .indexAddr t x y, ty, pos, aft, g⟩ (.pointer (some ⟨b, off + i.toNat * ti.size, none⟩)) :=
  ov_pure (fun r w hr => by
    simp [execOp, hr _ _ hx, hr _ _ hy, Instr.indexAt, Instr.sureAddr, asIntOf, underlying, hd.h, h0, h1, run_sizeOf' (P := P) (t := e), addr_add])
end
theorem filterMap_range {α : Type} (l : List α) : (List.range l.length).filterMap (fun i => l[i]?) = l := by
  induction l with
  | nil => rfl
  | cons x l ih =>
    rw [List.length_cons, List.range_succ_eq_map, List.filterMap_cons]
    simp only [List.getElem?_cons_zero, List.filterMap_map]
    congr 1
/-- Pieces in another order. -/
theorem sy_order {P : Program} {C : Cx} {k : List It} {fr : Fr} {hp hp' : List En} (idx : List Nat) (hi : idx.isPerm (List.range hp.length) = true) (he : idx.filterMap (fun i => hp[i]?) = hp') (h : Sy P C k fr hp') : Sy P C k fr hp := by
  subst he
  refine sy_perm ?_ h
  have := (List.isPerm_iff.1 hi).filterMap (fun i => hp[i]?)
  rw [filterMap_range] at this
  exact this
/-! ### Two pieces as one -/
def En.and (e f : En) : En := ⟨fun b => e.dom b ∨ f.dom b, fun w => e.holds w ∧ f.holds w, fun w w' h hh => ⟨e.loc w w' (fun b hb => h b (.inl hb)) hh.1, f.loc w w' (fun b hb => h b (.inr hb)) hh.2⟩⟩
/-- No piece. -/
def En.none : En := ⟨fun _ => False, fun _ => True, fun _ _ _ h => h⟩
theorem HpOk.join {D : Nat → Prop} {w0 w : World} {e f : En} {hp : List En} (h : HpOk D w0 (e :: f :: hp) w) : HpOk D w0 (e.and f :: hp) w := by
  have he := h.own e (by simp)
  have hf := h.own f (by simp)
  have hs := List.pairwise_cons.1 h.sep
  have hs2 := List.pairwise_cons.1 hs.2
  refine ⟨h.keep, ?_, List.pairwise_cons.2 ⟨fun x hx b hb => ?_, hs2.2⟩⟩
  · intro x hx
    simp only [List.mem_cons] at hx
    rcases hx with rfl | hx
    · exact ⟨⟨he.1, hf.1⟩, fun b hb => by rcases hb with hb | hb; exact he.2 b hb; exact hf.2 b hb⟩
    · exact h.own x (by simp [hx])
  · rcases hb with hb | hb
    · exact hs.1 x (by simp [hx]) b hb
    · exact hs2.1 x hx b hb
theorem HpOk.imp {D : Nat → Prop} {w0 w : World} {e f : En} {hp : List En} (h : HpOk D w0 (e :: hp) w) (hd : ∀ b, f.dom b → e.dom b) (hh : ∀ w, e.holds w → f.holds w) : HpOk D w0 (f :: hp) w := by
  have he := h.own e (by simp)
  have hs := List.pairwise_cons.1 h.sep
  refine ⟨h.keep, ?_, List.pairwise_cons.2 ⟨fun x hx b hb => hs.1 x hx b (hd b hb), hs.2⟩⟩
  intro x hx
  simp only [List.mem_cons] at hx
  rcases hx with rfl | hx
  · exact ⟨hh w he.1, fun b hb => he.2 b (hd b hb)⟩
  · exact h.own x (by simp [hx])
section
variable {P : Program} {C : Cx} {k : List It} {fr : Fr} {hp : List En}
/-- Two pieces are put together. -/
theorem sy_join {e f : En} (g : En) (hd : ∀ b, g.dom b → e.dom b ∨ f.dom b) (hh : ∀ w, e.holds w → f.holds w → g.holds w) (h : Sy P C k fr (g :: hp)) : Sy P C k fr (e :: f :: hp) :=
  .mk fun a w ha hw => h.go a w ha (hw.join.imp hd (fun w hx => hh w hx.1 hx.2))
theorem sy_imp {e : En} (g : En) (hd : ∀ b, g.dom b → e.dom b) (hh : ∀ w, e.holds w → g.holds w) (h : Sy P C k fr (g :: hp)) : Sy P C k fr (e :: hp) :=
  .mk fun a w ha hw => h.go a w ha (hw.imp hd hh)
theorem HpOk.nothing {D : Nat → Prop} {w0 w : World} {hp : List En} (h : HpOk D w0 hp w) (e : En) (hd : ∀ b, ¬ e.dom b) (hh : ∀ w, e.holds w) : HpOk D w0 (e :: hp) w :=
  h.add e (hh w) (fun b hb => absurd hb (hd b)) (fun _ _ b hb => absurd hb (hd b))
/-- A piece without memory. -/
theorem sy_nothing (e : En) (hd : ∀ b, ¬ e.dom b) (hh : ∀ w, e.holds w) (h : Sy P C k fr (e :: hp)) : Sy P C k fr hp :=
  .mk fun a w ha hw => h.go a w ha (hw.nothing e hd hh)
end
end Go.Proofs.Yteiejcililponaa
