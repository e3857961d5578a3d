/- BRC: texts of this proof, joined by program: SySl2, SyDrawU. -/
import Derived.Test.YteddjadeenimkaaBEX
/- A symbolic walk: a slice of a slice; calls that leave all pieces as they were; what a row's room is. -/
set_option linter.unusedVariables false
set_option linter.unusedSimpArgs false
namespace Go.Proofs.Yteddjadeenimkaa
open Go.RowKit
section
variable {P : Program} {C : Cx} {k : List It} {fr : Fr} {hp : List En} {all : Array Oper} {l : List Oper} {dst : Option Tmp} {ty : TypeId} {pos : String} {aft : Array Edge} {g : Option (Nat × Bool)}
theorem ov_slLo {t e : TypeId} [hd : TU P t (.slice e)] {ti : TypeInfo} [hti : TI P e ti] {x y : Operand} {b off n q : Nat} {ik : IntKind} {i : Int} (hx : ev fr x = some (.slice (some ⟨b, off, none⟩) n q)) (hy : ev fr y = some (.int ik i)) (h0 : 0 ≤ i) (h1 : i ≤ n) (h2 : i < q) :
    OV P C fr hp ⟨dst, .slice t x (some y) none none, ty, pos, aft, g⟩ (.slice (some ⟨b, off + i.toNat * ti.size, none⟩) (n - i.toNat) (q - i.toNat)) :=
  ov_pure (fun r w hr => by
    have h3 : ¬ q = i.toNat := by omega
    simp [execOp, hr _ _ hx, hr _ _ hy, Instr.sliceAt, Instr.slice, Instr.sliceBounds, Instr.sliceBound, asIntOf, underlying, hd.h, h0, h1, h3, run_sizeOf' (P := P) (t := e), addr_add])
theorem ov_slHi {t e : TypeId} [hd : TU P t (.slice e)] {ti : TypeInfo} [hti : TI P e ti] {x y : Operand} {p : Option Addr} {n q : Nat} {ik : IntKind} {i : Int} (hx : ev fr x = some (.slice p n q)) (hy : ev fr y = some (.int ik i)) (h0 : 0 ≤ i) (h1 : i ≤ q) :
    OV P C fr hp ⟨dst, .slice t x none (some y) none, ty, pos, aft, g⟩ (.slice p i.toNat q) :=
  ov_pure (fun r w hr => by
    have ha : ∀ a : Addr, a.add 0 = a := fun a => rfl
    by_cases hq : q = 0
    · subst hq
      have hi : i = 0 := by omega
      subst hi
      simp [execOp, hr _ _ hx, hr _ _ hy, Instr.sliceAt, Instr.slice, Instr.sliceBounds, Instr.sliceBound, asIntOf, underlying, hd.h, h0, h1, run_sizeOf' (P := P) (t := e)]
    · simp [execOp, hr _ _ hx, hr _ _ hy, Instr.sliceAt, Instr.slice, Instr.sliceBounds, Instr.sliceBound, asIntOf, underlying, hd.h, h0, h1, hq, run_sizeOf' (P := P) (t := e), ha]
      try (cases p <;> rfl))
/-- A callee that leaves the pieces es as they were. -/
theorem ov_callE {f : FuncId} {fn : Func} [hfn : FN P f fn] {args : List Operand} {ats : Array TypeId} {vs : List Value} {v : Value} (es : List En) (hx : evs fr args = some vs) (hs : es.Sublist hp)
    (hc : CallsE P f vs es fun u es' => u = v ∧ es' = es) : OV P C fr hp ⟨dst, .call ⟨.value (.func f), ⟨args⟩, ats⟩, ty, pos, aft, g⟩ v :=
  .mk fun r w hr hw => by
    have h1 : ¬ fn.name = "runtime.NumGoroutine" := by simpa using hfn.name
    have h2 : ¬ fn.body = none := by have := hfn.body; cases hx : fn.body <;> simp_all
    have h3 : r (.func f) = .func (.func f) #[] #[] := hr _ _ rfl
    have he : (execOp r ⟨dst, .call ⟨.value (.func f), ⟨args⟩, ats⟩, ty, pos, aft, g⟩).run P w = .ok (.enter f vs.toArray) w := by
      unfold execOp
      simp [resolve, Deferred.ofValue, invoke, callFunc, hfn.h, h1, h2, h3, evs_map hr hx]
    rw [he]
    obtain ⟨rest, hp2⟩ := hs.exists_perm_append
    have hw' := hw.perm hp2.symm
    refine (hc w hw'.self).mono fun x w' ⟨u, es', ⟨hu, hes⟩, hx', hh⟩ => ?_
    subst hu
    subst hes
    exact ⟨hx', (hw'.callE hh).perm hp2⟩
theorem sy_vecCap (i : Nat) {e : TypeId} {size n m q : Nat} {p : Option Addr} {cs : List Value} (hi : hp[i]? = some (vec e size (.slice p m q) n cs)) (h : n ≤ q → Sy P C k fr hp) : Sy P C k fr hp :=
  .mk fun a w ha hw => by
    have hown : w.ownsRow 0 e size (.slice p m q) n cs := (hw.get hi).1
    rcases hown.2 with ⟨hv, h0⟩ | ⟨g, cap, cur, hv, _, _, hle, _⟩
    · cases hv; exact (h (by omega)).go a w ha hw
    · cases hv; exact (h hle).go a w ha hw
end
end Go.Proofs.Yteddjadeenimkaa
/- In a drawn region: behind a guard whose own operation was not wanted, nothing is wanted; guards beside what changes memory. -/
set_option linter.unusedVariables false
set_option linter.unusedSimpArgs false
namespace Go.Proofs.Yteddjadeenimkaa
open Go.RowKit
section
variable {P : Program} {C : Cx} {fr : Fr} {hp : List En} {all : Array Oper}
theorem wanted_undef {j : Nat} {want : Bool} {t : Tmp} {oj : Oper} {o : Oper} {a : Act} (ha : FrOk C.n fr a) (hg : o.guard = some (j, want)) (hj : all[j]? = some oj) (ho : oj.dst = some t) (hlt : Nat.blt t C.n = true) (ht : get t fr = some undef) : Region.wanted o (yielded all a.tmps) = false := by
  have h1 := ha.slot t _ ht
  have h2' : t < a.tmps.size := by rw [ha.size]; simpa [Nat.blt_eq] using hlt
  have h3 : a.tmps[t]? = some undef := by
    rw [Array.getD_eq_getD_getElem?, Array.getElem?_eq_getElem h2'] at h1
    rw [Array.getElem?_eq_getElem h2']; simpa using h1
  simp only [Region.wanted, yielded, hg, hj, Option.bind_some, ho, h3]; rfl
theorem dr_undef {K : Fr → Prop} {dst : Option Tmp} {op : Op} {ty : TypeId} {pos : String} {aft : Array Edge} {l : List Oper} {j : Nat} {want : Bool} {t : Tmp} {oj : Oper} (hj : all[j]? = some oj) (ho : oj.dst = some t) (hlt : Nat.blt t C.n = true) (ht : get t fr = some undef)
    (hf : Fits C.n dst) (hk : DrG P C all hp K l (put dst undef fr)) : DrG P C all hp K (⟨dst, op, ty, pos, aft, some (j, want)⟩ :: l) fr :=
  ⟨undef, .mk fun a w ha hw => .inr ⟨wanted_undef ha rfl hj ho hlt ht, rfl⟩, hf, hk⟩
variable {hc : List En} {K : Fr → List En → Prop}
theorem dre_yes {dst : Option Tmp} {op : Op} {ty : TypeId} {pos : String} {aft : Array Edge} {l : List (Bool × Oper)} {v : Value} {j : Nat} {want b : Bool} {t : Tmp} {oj : Oper} (hj : all[j]? = some oj) (ho : oj.dst = some t) (hlt : Nat.blt t C.n = true) (ht : get t fr = some (.bool b)) (hb : b = want)
    (h : ∀ C', CxLe C C' → OV P C' fr hc ⟨dst, op, ty, pos, aft, some (j, want)⟩ v) (hk : DrE P C all hc K l (put dst v fr) hp) : DrE P C all hc K ((false, ⟨dst, op, ty, pos, aft, some (j, want)⟩) :: l) fr hp :=
  ⟨v, fun C' hC => .mk fun a w ha hw => .inl ⟨by rw [wanted_of (o := ⟨dst, op, ty, pos, aft, some (j, want)⟩) ha rfl hj ho (by rw [hC.n]; exact hlt) ht, hb]; simp, (h C' hC).go a.eval w (fun x u hx => ha.ev hx) hw⟩, hk⟩
theorem dre_no {dst : Option Tmp} {op : Op} {ty : TypeId} {pos : String} {aft : Array Edge} {l : List (Bool × Oper)} {j : Nat} {want b : Bool} {t : Tmp} {oj : Oper} (hj : all[j]? = some oj) (ho : oj.dst = some t) (hlt : Nat.blt t C.n = true) (ht : get t fr = some (.bool b)) (hb : b = !want)
    (hk : DrE P C all hc K l (put dst undef fr) hp) : DrE P C all hc K ((false, ⟨dst, op, ty, pos, aft, some (j, want)⟩) :: l) fr hp :=
  ⟨undef, fun C' hC => .mk fun a w ha hw => .inr ⟨by rw [wanted_of (o := ⟨dst, op, ty, pos, aft, some (j, want)⟩) ha rfl hj ho (by rw [hC.n]; exact hlt) ht, hb]; cases want <;> rfl, rfl⟩, hk⟩
theorem dre_undef {dst : Option Tmp} {op : Op} {ty : TypeId} {pos : String} {aft : Array Edge} {l : List (Bool × Oper)} {j : Nat} {want : Bool} {t : Tmp} {oj : Oper} (hj : all[j]? = some oj) (ho : oj.dst = some t) (hlt : Nat.blt t C.n = true) (ht : get t fr = some undef)
    (hk : DrE P C all hc K l (put dst undef fr) hp) : DrE P C all hc K ((false, ⟨dst, op, ty, pos, aft, some (j, want)⟩) :: l) fr hp :=
  ⟨undef, fun C' hC => .mk fun a w ha hw => .inr ⟨wanted_undef ha rfl hj ho (by rw [hC.n]; exact hlt) ht, rfl⟩, hk⟩
end
end Go.Proofs.Yteddjadeenimkaa
