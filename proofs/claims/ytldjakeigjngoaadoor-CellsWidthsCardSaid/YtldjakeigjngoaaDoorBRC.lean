/- BRC: texts of this proof, joined by program: SySl2, SyDrawU, SyFn. -/
import Derived.Test.YtldjakeigjngoaaDoorBEX
/- A symbolic walk: a slice of a slice; calls that leave all pieces as they were; what a row's room is. -/
set_option linter.unusedVariables false
set_option linter.unusedSimpArgs false
namespace Go.Proofs.YtldjakeigjngoaaDoor
open Go.RowKit
section
variable {P : Program} {C : Cx} {k : List It} {fr : Fr} {hp : List En} {all : Array Oper} {l : List Oper} {dst : Option Tmp} {ty : TypeId} {pos : String} {aft : Array Edge} {g : Option (Nat × Bool)}
end
end Go.Proofs.YtldjakeigjngoaaDoor
/- In a drawn region: behind a guard whose own operation was not wanted, nothing is wanted; guards beside what changes memory. -/
namespace Go.Proofs.YtldjakeigjngoaaDoor
open Go.RowKit
section
variable {P : Program} {C : Cx} {fr : Fr} {hp : List En} {all : Array Oper}
variable {hc : List En} {K : Fr → List En → Prop}
end
end Go.Proofs.YtldjakeigjngoaaDoor
/- A symbolic walk: calls of a function value; a function value is made; places of an array; pieces are put together. -/
namespace Go.Proofs.YtldjakeigjngoaaDoor
open Go.RowKit
section
variable {P : Program} {C : Cx} {k : List It} {fr : Fr} {hp : List En} {all : Array Oper} {l : List Oper} {dst : Option Tmp} {ty : TypeId} {pos : String} {aft : Array Edge} {g : Option (Nat × Bool)}
end
/-! ### Two pieces as one -/
def En.and (e f : En) : En := ⟨fun b => e.dom b ∨ f.dom b, fun w => e.holds w ∧ f.holds w, fun w w' h hh => ⟨e.loc w w' (fun b hb => h b (.inl hb)) hh.1, f.loc w w' (fun b hb => h b (.inr hb)) hh.2⟩⟩
def En.none : En := ⟨fun _ => False, fun _ => True, fun _ _ _ h => h⟩
theorem HpOk.imp {D : Nat → Prop} {w0 w : World} {e f : En} {hp : List En} (h : HpOk D w0 (e :: hp) w) (hd : ∀ b, f.dom b → e.dom b) (hh : ∀ w, e.holds w → f.holds w) : HpOk D w0 (f :: hp) w := by
 have he := h.own e (by simp)
 have hs := List.pairwise_cons.1 h.sep
 refine ⟨h.keep, ?_, List.pairwise_cons.2 ⟨fun x hx b hb => hs.1 x hx b (hd b hb), hs.2⟩⟩
 intro x hx
 simp only [List.mem_cons] at hx
 rcases hx with rfl | hx
 · exact ⟨hh w he.1, fun b hb => he.2 b (hd b hb)⟩
 · exact h.own x (by simp [hx])
section
variable {P : Program} {C : Cx} {k : List It} {fr : Fr} {hp : List En}
end
end Go.Proofs.YtldjakeigjngoaaDoor