/- BRC: texts of this proof, joined by program: SySl2, SyDrawU, SyFn, SyV. -/
import Derived.Test.YtldjakeigjngoaaGreatBEX
set_option linter.unusedVariables false
set_option linter.unusedSimpArgs false
namespace Go.Proofs.YtldjakeigjngoaaGreat
open Go.RowKit
section
variable {P : Program} {C : Cx} {k : List It} {fr : Fr} {hp : List En} {all : Array Oper} {l : List Oper} {dst : Option Tmp} {ty : TypeId} {pos : String} {aft : Array Edge} {g : Option (Nat × Bool)}
theorem ov_slLo {t e : TypeId} [hd : TU P t (.slice e)] {ti : TypeInfo} [hti : TI P e ti] {x y : Operand} {b off n q : Nat} {ik : IntKind} {i : Int} (hx : ev fr x = some (.slice (some ⟨b, off, none⟩) n q)) (hy : ev fr y = some (.int ik i)) (h0 : 0 ≤ i) (h1 : i ≤ n) (h2 : i < q) :
 OV P C fr hp ⟨dst, .slice t x (some y) none none, ty, pos, aft, g⟩ (.slice (some ⟨b, off + i.toNat * ti.size, none⟩) (n - i.toNat) (q - i.toNat)) :=
 ov_pure (fun r w hr => by
  have h3 : ¬ q = i.toNat := by omega
  simp [execOp, hr _ _ hx, hr _ _ hy, Instr.sliceAt, Instr.slice, Instr.sliceBounds, Instr.sliceBound, asIntOf, underlying, hd.h, h0, h1, h3, run_sizeOf' (P := P) (t := e), addr_add])
end
section
variable {P : Program} {C : Cx} {fr : Fr} {hp : List En} {all : Array Oper}
variable {hc : List En} {K : Fr → List En → Prop}
end
section
variable {P : Program} {C : Cx} {k : List It} {fr : Fr} {hp : List En} {all : Array Oper} {l : List Oper} {dst : Option Tmp} {ty : TypeId} {pos : String} {aft : Array Edge} {g : Option (Nat × Bool)}
theorem sy_callwT {f : FuncId} {fn : Func} [hfn : FN P f fn] {t : Operand} {first caps : Array Value} {args : List Operand} {ats : Array TypeId} {vs us : List Value} {R : Ending → World → Prop} (ht : ev fr t = some (.func (.func f) first caps)) (hx : evs fr args = some vs) (hu : first.toList ++ vs ++ caps.toList = us) (hf : Fits C.n dst)
 (hc : ∀ w, HpOk C.D C.w0 hp w → Calls P f us.toArray w R)
 (hk : ∀ w w', HpOk C.D C.w0 hp w → ∀ e, R e w' → ∃ v hp', e = .returned v ∧ HpOk C.D C.w0 hp' w' ∧ Sy P C (.o all l :: k) (put dst v fr) hp') : Sy P C (.o all (⟨dst, .call ⟨.value t, ⟨args⟩, ats⟩, ty, pos, aft, none⟩ :: l) :: k) fr hp :=
 sy_op rfl fun a w ha hw => by
  subst hu
  unfold Oper.wp
  have h1 : ¬ fn.name = "runtime.NumGoroutine" := by simpa using hfn.name
  have h2 : ¬ fn.body = none := by have := hfn.body; cases hx : fn.body <;> simp_all
  have hr : (execOp a.eval ⟨dst, .call ⟨.value t, ⟨args⟩, ats⟩, ty, pos, aft, none⟩).run P w = .ok (.enter f (first.toList ++ vs ++ caps.toList).toArray) w := by
   obtain ⟨first⟩ := first
   obtain ⟨caps⟩ := caps
   unfold execOp
   simp [resolve, Deferred.ofValue, invoke, callFunc, hfn.h, h1, h2, ha.ev ht, ha.evs hx]
  rw [hr]
  refine (hc w hw).mono fun e w' he => ?_
  obtain ⟨v, hp', rfl, hw', hs⟩ := hk w w' hw e he
  exact hs.go _ _ (ha.put hf v) hw'
theorem sy_callET {f : FuncId} {fn : Func} [hfn : FN P f fn] {t : Operand} {first caps : Array Value} {args : List Operand} {ats : Array TypeId} {vs us : List Value} {R : Value → List En → Prop} (es : List En) {rest : List En} (ht : ev fr t = some (.func (.func f) first caps)) (hx : evs fr args = some vs) (hu : first.toList ++ vs ++ caps.toList = us) (hf : Fits C.n dst) (hhp : hp = es ++ rest)
 (hc : CallsE P f us es R) (hk : ∀ v es', R v es' → Sy P C (.o all l :: k) (put dst v fr) (es' ++ rest)) : Sy P C (.o all (⟨dst, .call ⟨.value t, ⟨args⟩, ats⟩, ty, pos, aft, none⟩ :: l) :: k) fr hp := by
 subst hhp
 exact sy_callwT ht hx hu hf (R := fun x w' => ∃ w, HpOk C.D C.w0 (es ++ rest) w ∧ PostE es w R x w')
  (fun w hw => (hc w hw.self).mono fun x w' h => ⟨w, hw, h⟩)
  fun _ w' _ x ⟨w, hw, v, es', hR, hx', hh⟩ => ⟨v, _, hx', hw.callE hh, hk v es' hR⟩
theorem ov_makeFunc {fn : Fn} {xs ys : List Operand} {us vs : List Value} (hx : evs fr xs = some us) (hy : evs fr ys = some vs) : OV P C fr hp ⟨dst, .makeFunc fn ⟨xs⟩ ⟨ys⟩, ty, pos, aft, g⟩ (.func fn ⟨us⟩ ⟨vs⟩) :=
 ov_pure (fun r w hr => by
  have h1 := evs_map hr hx
  have h2 := evs_map hr hy
  simp [execOp, Instr.makeFunc, h1, h2])
end
theorem filterMap_range {α : Type} (l : List α) : (List.range l.length).filterMap (fun i => l[i]?) = l := by
 induction l with
 | nil => rfl
 | cons x l ih =>
  rw [List.length_cons, List.range_succ_eq_map, List.filterMap_cons]
  simp only [List.getElem?_cons_zero, List.filterMap_map]
  congr 1
theorem sy_order {P : Program} {C : Cx} {k : List It} {fr : Fr} {hp hp' : List En} (idx : List Nat) (hi : idx.isPerm (List.range hp.length) = true) (he : idx.filterMap (fun i => hp[i]?) = hp') (h : Sy P C k fr hp') : Sy P C k fr hp := by
 subst he
 refine sy_perm ?_ h
 have := (List.isPerm_iff.1 hi).filterMap (fun i => hp[i]?)
 rw [filterMap_range] at this
 exact this
/-! ### Two pieces as one -/
def En.and (e f : En) : En := ⟨fun b => e.dom b ∨ f.dom b, fun w => e.holds w ∧ f.holds w, fun w w' h hh => ⟨e.loc w w' (fun b hb => h b (.inl hb)) hh.1, f.loc w w' (fun b hb => h b (.inr hb)) hh.2⟩⟩
def En.none : En := ⟨fun _ => False, fun _ => True, fun _ _ _ h => h⟩
theorem HpOk.join {D : Nat → Prop} {w0 w : World} {e f : En} {hp : List En} (h : HpOk D w0 (e :: f :: hp) w) : HpOk D w0 (e.and f :: hp) w := by
 have he := h.own e (by simp)
 have hf := h.own f (by simp)
 have hs := List.pairwise_cons.1 h.sep
 have hs2 := List.pairwise_cons.1 hs.2
 refine ⟨h.keep, ?_, List.pairwise_cons.2 ⟨fun x hx b hb => ?_, hs2.2⟩⟩
 · intro x hx
   simp only [List.mem_cons] at hx
   rcases hx with rfl | hx
   · exact ⟨⟨he.1, hf.1⟩, fun b hb => by rcases hb with hb | hb; exact he.2 b hb; exact hf.2 b hb⟩
   · exact h.own x (by simp [hx])
 · rcases hb with hb | hb
   · exact hs.1 x (by simp [hx]) b hb
   · exact hs2.1 x hx b hb
theorem HpOk.imp {D : Nat → Prop} {w0 w : World} {e f : En} {hp : List En} (h : HpOk D w0 (e :: hp) w) (hd : ∀ b, f.dom b → e.dom b) (hh : ∀ w, e.holds w → f.holds w) : HpOk D w0 (f :: hp) w := by
 have he := h.own e (by simp)
 have hs := List.pairwise_cons.1 h.sep
 refine ⟨h.keep, ?_, List.pairwise_cons.2 ⟨fun x hx b hb => hs.1 x hx b (hd b hb), hs.2⟩⟩
 intro x hx
 simp only [List.mem_cons] at hx
 rcases hx with rfl | hx
 · exact ⟨hh w he.1, fun b hb => he.2 b (hd b hb)⟩
 · exact h.own x (by simp [hx])
section
variable {P : Program} {C : Cx} {k : List It} {fr : Fr} {hp : List En}
theorem sy_join {e f : En} (g : En) (hd : ∀ b, g.dom b → e.dom b ∨ f.dom b) (hh : ∀ w, e.holds w → f.holds w → g.holds w) (h : Sy P C k fr (g :: hp)) : Sy P C k fr (e :: f :: hp) :=
 .mk fun a w ha hw => h.go a w ha (hw.join.imp hd (fun w hx => hh w hx.1 hx.2))
theorem sy_imp {e : En} (g : En) (hd : ∀ b, g.dom b → e.dom b) (hh : ∀ w, e.holds w → g.holds w) (h : Sy P C k fr (g :: hp)) : Sy P C k fr (e :: hp) :=
 .mk fun a w ha hw => h.go a w ha (hw.imp hd hh)
theorem HpOk.nothing {D : Nat → Prop} {w0 w : World} {hp : List En} (h : HpOk D w0 hp w) (e : En) (hd : ∀ b, ¬ e.dom b) (hh : ∀ w, e.holds w) : HpOk D w0 (e :: hp) w :=
 h.add e (hh w) (fun b hb => absurd hb (hd b)) (fun _ _ b hb => absurd hb (hd b))
theorem sy_nothing (e : En) (hd : ∀ b, ¬ e.dom b) (hh : ∀ w, e.holds w) (h : Sy P C k fr (e :: hp)) : Sy P C k fr hp :=
 .mk fun a w ha hw => h.go a w ha (hw.nothing e hd hh)
end
theorem upd_app : ∀ (vs cs tl : List Value) (off : Nat), off + vs.length ≤ cs.length → upd (cs ++ tl) off vs = upd cs off vs ++ tl
 | [], cs, tl, off, _ => rfl
 | v :: vs, cs, tl, off, h => by
  simp only [List.length_cons] at h
  rw [upd, upd, List.set_append_left _ _ (by omega), upd_app vs (cs.set off v) tl (off + 1) (by rw [List.length_set]; omega)]
theorem upd_all : ∀ (vs ph pre : List Value), ph.length = vs.length → upd (pre ++ ph) pre.length vs = pre ++ vs
 | [], ph, pre, h => by
  have : ph = [] := List.length_eq_zero_iff.1 (by simpa using h)
  subst this; rfl
 | v :: vs, [], pre, h => by simp at h
 | v :: vs, x :: ph, pre, h => by
  have ih := upd_all vs ph (pre ++ [v]) (by simpa using h)
  rw [upd]
  have e : (pre ++ x :: ph).set pre.length v = (pre ++ [v]) ++ ph := by
   rw [List.set_append_right _ _ (Nat.le_refl _)]; simp
  rw [e]
  have e2 : (pre ++ [v]).length = pre.length + 1 := by simp
  rw [e2] at ih
  rw [ih]; simp
section
variable {P : Program} {D : Nat → Prop} {w0 : World} {hp : List En}
theorem HpOk.turn {w : World} (h : HpOk D w0 hp w) {i : Nat} {e f : En} (hi : hp[i]? = some e) (hd : ∀ b, f.dom b → e.dom b) (hh : f.holds w) : HpOk D w0 (hp.set i f) w :=
 h.regrow hi hh (Keep.refl _ _) (fun b hb => ⟨((h.get hi).2 b (hd b hb)).2, .inl (hd b hb)⟩)
theorem HpOk.vecBlk {w : World} (h : HpOk D w0 hp w) {i : Nat} {e : TypeId} {size n m q g : Nat} {cs : List Value} (hi : hp[i]? = some (vec e size (.slice (some ⟨g, 0, none⟩) m q) n cs)) :
 ∃ tl : List Value, HpOk D w0 (hp.set i (blk g e (cs ++ tl))) w ∧ m = n ∧ n ≤ q ∧ q ≤ maxLen ∧ (cs ++ tl).length = q * size ∧ cs.length = n * size := by
 have hown : w.ownsRow 0 e size (.slice (some ⟨g, 0, none⟩) m q) n cs := (h.get hi).1
 rcases hown.2 with ⟨hv, _⟩ | ⟨g', cap, cur, hv, hb, hg, hn, hm, hs, ht⟩
 · cases hv
 · cases hv
   have hcs : cs.length = n * size := hown.1
   have hle : n * size ≤ q * size := Nat.mul_le_mul_right _ hn
   have e1 : cs ++ cur.toList.drop (n * size) = cur.toList := by rw [← ht]; exact List.take_append_drop _ _
   refine ⟨cur.toList.drop (n * size), h.turn hi (fun b hb => by rw [show b = g from hb]; rfl) ?_, rfl, hn, hm, ?_, hcs⟩
   · show w.heap[g]? = some (.cells (cs ++ cur.toList.drop (n * size)).toArray e (0, 0))
     rw [e1]; exact hg
   · rw [e1, Array.length_toList]; exact hs
theorem HpOk.blkVec {w : World} (h : HpOk D w0 hp w) {i : Nat} {e : TypeId} {size n q g : Nat} {cs tl : List Value} (hi : hp[i]? = some (blk g e (cs ++ tl))) (hn : n ≤ q) (hm : q ≤ maxLen) (hl : (cs ++ tl).length = q * size) (hc : cs.length = n * size) :
 HpOk D w0 (hp.set i (vec e size (.slice (some ⟨g, 0, none⟩) n q) n cs)) w := by
 have hg : w.heap[g]? = some (.cells (cs ++ tl).toArray e (0, 0)) := (h.get hi).1
 refine h.turn hi (fun b hb => by have hb : some g = some b := hb; cases hb; rfl) ⟨hc, .inr ⟨g, q, (cs ++ tl).toArray, rfl, Nat.zero_le _, hg, hn, hm, by simpa using hl, ?_⟩⟩
 show (cs ++ tl).take (n * size) = cs
 rw [← hc, List.take_left]
end
section
variable {P : Program} {C : Cx} {k : List It} {fr : Fr} {hp : List En} {all : Array Oper} {l : List Oper} {dst : Option Tmp} {ty : TypeId} {pos : String} {aft : Array Edge} {g : Option (Nat × Bool)}
theorem sy_storev {t : TypeId} {ti : TypeInfo} [hti : TI P t ti] {x y : Operand} (i : Nat) {g' off size n m q : Nat} {e : TypeId} {cs vs : List Value} {v : Value} (hx : ev fr x = some (.pointer (some ⟨g', off, none⟩))) (hy : ev fr y = some v) (hi : hp[i]? = some (vec e size (.slice (some ⟨g', 0, none⟩) m q) n cs)) (hv : v.cells = ⟨vs⟩) (hs : vs.length = ti.size) (ho : oneAll vs = true) (hn : off + vs.length ≤ cs.length) (hf : Fits C.n dst) {cs' : List Value} (hcs : upd cs off vs = cs')
 (hk : Sy P C (.o all l :: k) (put dst undef fr) (hp.set i (vec e size (.slice (some ⟨g', 0, none⟩) m q) n cs'))) : Sy P C (.o all (⟨dst, .store t x y, ty, pos, aft, none⟩ :: l) :: k) fr hp :=
 sy_op rfl fun a w ha hw => by
  obtain ⟨tl, hw1, hmn, hnq, hqm, hl, hc⟩ := hw.vecBlk hi
  subst hmn
  subst hcs
  have hil := (List.getElem?_eq_some_iff.1 hi).1
  have hi1 : (hp.set i (blk g' e (cs ++ tl)))[i]? = some (blk g' e (cs ++ tl)) := by rw [List.getElem?_set_self hil]
  obtain ⟨w', hr, hw'⟩ := storeCells_ok (P := P) g' off e vs 0 (cs ++ tl) w _ i hw1 hi1 (by rw [List.length_append]; omega) ho
  have hr : (execOp a.eval ⟨dst, .store t x y, ty, pos, aft, none⟩).run P w = .ok .skip w' := by
   simp [execOp, ha.ev hx, ha.ev hy, Instr.storeAt, Instr.sureAddr, storeVar, run_sizeOf' (P := P) (t := t), hv, hs, hr]
  rw [Nat.add_zero, List.set_set, upd_app _ _ _ _ hn] at hw'
  have hi2 : (hp.set i (blk g' e (upd cs off vs ++ tl)))[i]? = some (blk g' e (upd cs off vs ++ tl)) := by rw [List.getElem?_set_self hil]
  have hw2 := hw'.blkVec (size := size) (n := m) (q := q) hi2 hnq hqm (by rw [List.length_append, upd_length, ← List.length_append]; exact hl) (by rw [upd_length]; exact hc)
  rw [List.set_set] at hw2
  unfold Oper.wp; rw [hr]
  exact hk.go _ _ (ha.put hf _) hw2
end
end Go.Proofs.YtldjakeigjngoaaGreat