/- BRC: texts of this proof, joined by program: SySl2, SyDrawU, SyFn. -/
import Derived.Test.YtldjakeigjngoaaDoorBEX
/- A symbolic walk: a slice of a slice; calls that leave all pieces as they were; what a row's room is. -/
set_option linter.unusedVariables false
set_option linter.unusedSimpArgs false
namespace Go.Proofs.YtldjakeigjngoaaDoor
open Go.RowKit
section
variable {P : Program} {C : Cx} {k : List It} {fr : Fr} {hp : List En} {all : Array Oper} {l : List Oper} {dst : Option Tmp} {ty : TypeId} {pos : String} {aft : Array Edge} {g : Option (Nat × Bool)}
end
end Go.Proofs.YtldjakeigjngoaaDoor
/- In a drawn region: behind a guard whose own operation was not wanted, nothing is wanted; guards beside what changes memory. -/
namespace Go.Proofs.YtldjakeigjngoaaDoor
open Go.RowKit
section
variable {P : Program} {C : Cx} {fr : Fr} {hp : List En} {all : Array Oper}
variable {hc : List En} {K : Fr → List En → Prop}
end
end Go.Proofs.YtldjakeigjngoaaDoor
/- A symbolic walk: calls of a function value; a function value is made; places of an array; pieces are put together. -/
namespace Go.Proofs.YtldjakeigjngoaaDoor
open Go.RowKit
section
variable {P : Program} {C : Cx} {k : List It} {fr : Fr} {hp : List En} {all : Array Oper} {l : List Oper} {dst : Option Tmp} {ty : TypeId} {pos : String} {aft : Array Edge} {g : Option (Nat × Bool)}
end
theorem filterMap_range {α : Type} (l : List α) : (List.range l.length).filterMap (fun i => l[i]?) = l := by
 induction l with
 | nil => rfl
 | cons x l ih =>
  rw [List.length_cons, List.range_succ_eq_map, List.filterMap_cons]
  simp only [List.getElem?_cons_zero, List.filterMap_map]
  congr 1
theorem sy_order {P : Program} {C : Cx} {k : List It} {fr : Fr} {hp hp' : List En} (idx : List Nat) (hi : idx.isPerm (List.range hp.length) = true) (he : idx.filterMap (fun i => hp[i]?) = hp') (h : Sy P C k fr hp') : Sy P C k fr hp := by
 subst he
 refine sy_perm ?_ h
 have := (List.isPerm_iff.1 hi).filterMap (fun i => hp[i]?)
 rw [filterMap_range] at this
 exact this
/-! ### Two pieces as one -/
def En.and (e f : En) : En := ⟨fun b => e.dom b ∨ f.dom b, fun w => e.holds w ∧ f.holds w, fun w w' h hh => ⟨e.loc w w' (fun b hb => h b (.inl hb)) hh.1, f.loc w w' (fun b hb => h b (.inr hb)) hh.2⟩⟩
def En.none : En := ⟨fun _ => False, fun _ => True, fun _ _ _ h => h⟩
theorem HpOk.join {D : Nat → Prop} {w0 w : World} {e f : En} {hp : List En} (h : HpOk D w0 (e :: f :: hp) w) : HpOk D w0 (e.and f :: hp) w := by
 have he := h.own e (by simp)
 have hf := h.own f (by simp)
 have hs := List.pairwise_cons.1 h.sep
 have hs2 := List.pairwise_cons.1 hs.2
 refine ⟨h.keep, ?_, List.pairwise_cons.2 ⟨fun x hx b hb => ?_, hs2.2⟩⟩
 · intro x hx
   simp only [List.mem_cons] at hx
   rcases hx with rfl | hx
   · exact ⟨⟨he.1, hf.1⟩, fun b hb => by rcases hb with hb | hb; exact he.2 b hb; exact hf.2 b hb⟩
   · exact h.own x (by simp [hx])
 · rcases hb with hb | hb
   · exact hs.1 x (by simp [hx]) b hb
   · exact hs2.1 x hx b hb
theorem HpOk.imp {D : Nat → Prop} {w0 w : World} {e f : En} {hp : List En} (h : HpOk D w0 (e :: hp) w) (hd : ∀ b, f.dom b → e.dom b) (hh : ∀ w, e.holds w → f.holds w) : HpOk D w0 (f :: hp) w := by
 have he := h.own e (by simp)
 have hs := List.pairwise_cons.1 h.sep
 refine ⟨h.keep, ?_, List.pairwise_cons.2 ⟨fun x hx b hb => hs.1 x hx b (hd b hb), hs.2⟩⟩
 intro x hx
 simp only [List.mem_cons] at hx
 rcases hx with rfl | hx
 · exact ⟨hh w he.1, fun b hb => he.2 b (hd b hb)⟩
 · exact h.own x (by simp [hx])
section
variable {P : Program} {C : Cx} {k : List It} {fr : Fr} {hp : List En}
theorem sy_join {e f : En} (g : En) (hd : ∀ b, g.dom b → e.dom b ∨ f.dom b) (hh : ∀ w, e.holds w → f.holds w → g.holds w) (h : Sy P C k fr (g :: hp)) : Sy P C k fr (e :: f :: hp) :=
 .mk fun a w ha hw => h.go a w ha (hw.join.imp hd (fun w hx => hh w hx.1 hx.2))
theorem sy_imp {e : En} (g : En) (hd : ∀ b, g.dom b → e.dom b) (hh : ∀ w, e.holds w → g.holds w) (h : Sy P C k fr (g :: hp)) : Sy P C k fr (e :: hp) :=
 .mk fun a w ha hw => h.go a w ha (hw.imp hd hh)
end
end Go.Proofs.YtldjakeigjngoaaDoor