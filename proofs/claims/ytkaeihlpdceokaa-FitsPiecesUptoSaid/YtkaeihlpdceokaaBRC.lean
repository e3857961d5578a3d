/- BRC: texts of this proof, joined by program: SySl2, SyDrawU, SyFn, SyV. -/
import Derived.Test.YtkaeihlpdceokaaBEX
/- A symbolic walk: a slice of a slice; calls that leave all pieces as they were; what a row's room is. -/
set_option linter.unusedVariables false
set_option linter.unusedSimpArgs false
namespace Go.Proofs.Ytkaeihlpdceokaa
open Go.RowKit
section
variable {P : Program} {C : Cx} {k : List It} {fr : Fr} {hp : List En} {all : Array Oper} {l : List Oper} {dst : Option Tmp} {ty : TypeId} {pos : String} {aft : Array Edge} {g : Option (Nat × Bool)}
theorem ov_slHi {t e : TypeId} [hd : TU P t (.slice e)] {ti : TypeInfo} [hti : TI P e ti] {x y : Operand} {p : Option Addr} {n q : Nat} {ik : IntKind} {i : Int} (hx : ev fr x = some (.slice p n q)) (hy : ev fr y = some (.int ik i)) (h0 : 0 ≤ i) (h1 : i ≤ q) :
 OV P C fr hp ⟨dst, .slice t x none (some y) none, ty, pos, aft, g⟩ (.slice p i.toNat q) :=
 ov_pure (fun r w hr => by
  have ha : ∀ a : Addr, a.add 0 = a := fun a => rfl
  by_cases hq : q = 0
  · subst hq
    have hi : i = 0 := by omega
    subst hi
    simp [execOp, hr _ _ hx, hr _ _ hy, Instr.sliceAt, Instr.slice, Instr.sliceBounds, Instr.sliceBound, asIntOf, underlying, hd.h, h0, h1, run_sizeOf' (P := P) (t := e)]
  · simp [execOp, hr _ _ hx, hr _ _ hy, Instr.sliceAt, Instr.slice, Instr.sliceBounds, Instr.sliceBound, asIntOf, underlying, hd.h, h0, h1, hq, run_sizeOf' (P := P) (t := e), ha]
    try (cases p <;> rfl))
theorem sy_vecCap (i : Nat) {e : TypeId} {size n m q : Nat} {p : Option Addr} {cs : List Value} (hi : hp[i]? = some (vec e size (.slice p m q) n cs)) (h : n ≤ q → Sy P C k fr hp) : Sy P C k fr hp :=
 .mk fun a w ha hw => by
  have hown : w.ownsRow 0 e size (.slice p m q) n cs := (hw.get hi).1
  rcases hown.2 with ⟨hv, h0⟩ | ⟨g, cap, cur, hv, _, _, hle, _⟩
  · cases hv; exact (h (by omega)).go a w ha hw
  · cases hv; exact (h hle).go a w ha hw
end
end Go.Proofs.Ytkaeihlpdceokaa
/- In a drawn region: behind a guard whose own operation was not wanted, nothing is wanted; guards beside what changes memory. -/
namespace Go.Proofs.Ytkaeihlpdceokaa
open Go.RowKit
section
variable {P : Program} {C : Cx} {fr : Fr} {hp : List En} {all : Array Oper}
variable {hc : List En} {K : Fr → List En → Prop}
end
end Go.Proofs.Ytkaeihlpdceokaa
/- A symbolic walk: calls of a function value; a function value is made; places of an array; pieces are put together. -/
namespace Go.Proofs.Ytkaeihlpdceokaa
open Go.RowKit
section
variable {P : Program} {C : Cx} {k : List It} {fr : Fr} {hp : List En} {all : Array Oper} {l : List Oper} {dst : Option Tmp} {ty : TypeId} {pos : String} {aft : Array Edge} {g : Option (Nat × Bool)}
end
theorem filterMap_range {α : Type} (l : List α) : (List.range l.length).filterMap (fun i => l[i]?) = l := by
 induction l with
 | nil => rfl
 | cons x l ih =>
  rw [List.length_cons, List.range_succ_eq_map, List.filterMap_cons]
  simp only [List.getElem?_cons_zero, List.filterMap_map]
  congr 1
theorem sy_order {P : Program} {C : Cx} {k : List It} {fr : Fr} {hp hp' : List En} (idx : List Nat) (hi : idx.isPerm (List.range hp.length) = true) (he : idx.filterMap (fun i => hp[i]?) = hp') (h : Sy P C k fr hp') : Sy P C k fr hp := by
 subst he
 refine sy_perm ?_ h
 have := (List.isPerm_iff.1 hi).filterMap (fun i => hp[i]?)
 rw [filterMap_range] at this
 exact this
/-! ### Two pieces as one -/
def En.and (e f : En) : En := ⟨fun b => e.dom b ∨ f.dom b, fun w => e.holds w ∧ f.holds w, fun w w' h hh => ⟨e.loc w w' (fun b hb => h b (.inl hb)) hh.1, f.loc w w' (fun b hb => h b (.inr hb)) hh.2⟩⟩
def En.none : En := ⟨fun _ => False, fun _ => True, fun _ _ _ h => h⟩
theorem HpOk.imp {D : Nat → Prop} {w0 w : World} {e f : En} {hp : List En} (h : HpOk D w0 (e :: hp) w) (hd : ∀ b, f.dom b → e.dom b) (hh : ∀ w, e.holds w → f.holds w) : HpOk D w0 (f :: hp) w := by
 have he := h.own e (by simp)
 have hs := List.pairwise_cons.1 h.sep
 refine ⟨h.keep, ?_, List.pairwise_cons.2 ⟨fun x hx b hb => hs.1 x hx b (hd b hb), hs.2⟩⟩
 intro x hx
 simp only [List.mem_cons] at hx
 rcases hx with rfl | hx
 · exact ⟨hh w he.1, fun b hb => he.2 b (hd b hb)⟩
 · exact h.own x (by simp [hx])
section
variable {P : Program} {C : Cx} {k : List It} {fr : Fr} {hp : List En}
end
end Go.Proofs.Ytkaeihlpdceokaa
/- A symbolic walk: an element of a growing row is overwritten. -/
namespace Go.Proofs.Ytkaeihlpdceokaa
open Go.RowKit
section
variable {P : Program} {D : Nat → Prop} {w0 : World} {hp : List En}
theorem HpOk.turn {w : World} (h : HpOk D w0 hp w) {i : Nat} {e f : En} (hi : hp[i]? = some e) (hd : ∀ b, f.dom b → e.dom b) (hh : f.holds w) : HpOk D w0 (hp.set i f) w :=
 h.regrow hi hh (Keep.refl _ _) (fun b hb => ⟨((h.get hi).2 b (hd b hb)).2, .inl (hd b hb)⟩)
theorem HpOk.vecBlk {w : World} (h : HpOk D w0 hp w) {i : Nat} {e : TypeId} {size n m q g : Nat} {cs : List Value} (hi : hp[i]? = some (vec e size (.slice (some ⟨g, 0, none⟩) m q) n cs)) :
 ∃ tl : List Value, HpOk D w0 (hp.set i (blk g e (cs ++ tl))) w ∧ m = n ∧ n ≤ q ∧ q ≤ maxLen ∧ (cs ++ tl).length = q * size ∧ cs.length = n * size := by
 have hown : w.ownsRow 0 e size (.slice (some ⟨g, 0, none⟩) m q) n cs := (h.get hi).1
 rcases hown.2 with ⟨hv, _⟩ | ⟨g', cap, cur, hv, hb, hg, hn, hm, hs, ht⟩
 · cases hv
 · cases hv
   have hcs : cs.length = n * size := hown.1
   have hle : n * size ≤ q * size := Nat.mul_le_mul_right _ hn
   have e1 : cs ++ cur.toList.drop (n * size) = cur.toList := by rw [← ht]; exact List.take_append_drop _ _
   refine ⟨cur.toList.drop (n * size), h.turn hi (fun b hb => by rw [show b = g from hb]; rfl) ?_, rfl, hn, hm, ?_, hcs⟩
   · show w.heap[g]? = some (.cells (cs ++ cur.toList.drop (n * size)).toArray e (0, 0))
     rw [e1]; exact hg
   · rw [e1, Array.length_toList]; exact hs
theorem HpOk.blkVec {w : World} (h : HpOk D w0 hp w) {i : Nat} {e : TypeId} {size n q g : Nat} {cs tl : List Value} (hi : hp[i]? = some (blk g e (cs ++ tl))) (hn : n ≤ q) (hm : q ≤ maxLen) (hl : (cs ++ tl).length = q * size) (hc : cs.length = n * size) :
 HpOk D w0 (hp.set i (vec e size (.slice (some ⟨g, 0, none⟩) n q) n cs)) w := by
 have hg : w.heap[g]? = some (.cells (cs ++ tl).toArray e (0, 0)) := (h.get hi).1
 refine h.turn hi (fun b hb => by have hb : some g = some b := hb; cases hb; rfl) ⟨hc, .inr ⟨g, q, (cs ++ tl).toArray, rfl, Nat.zero_le _, hg, hn, hm, by simpa using hl, ?_⟩⟩
 show (cs ++ tl).take (n * size) = cs
 rw [← hc, List.take_left]
end
section
variable {P : Program} {C : Cx} {k : List It} {fr : Fr} {hp : List En} {all : Array Oper} {l : List Oper} {dst : Option Tmp} {ty : TypeId} {pos : String} {aft : Array Edge} {g : Option (Nat × Bool)}
end
end Go.Proofs.Ytkaeihlpdceokaa