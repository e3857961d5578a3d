/- BRC: texts of this proof, joined by program: SySl2, SyDrawU, SyFn, SyV. -/
import Derived.Test.YtldjakeigjngoaaBEX
/- A symbolic walk: a slice of a slice; calls that leave all pieces as they were; what a row's room is. -/
set_option linter.unusedVariables false
set_option linter.unusedSimpArgs false
namespace Go.Proofs.Ytldjakeigjngoaa
open Go.RowKit
section
variable {P : Program} {C : Cx} {k : List It} {fr : Fr} {hp : List En} {all : Array Oper} {l : List Oper} {dst : Option Tmp} {ty : TypeId} {pos : String} {aft : Array Edge} {g : Option (Nat × Bool)}
end
end Go.Proofs.Ytldjakeigjngoaa
/- In a drawn region: behind a guard whose own operation was not wanted, nothing is wanted; guards beside what changes memory. -/
namespace Go.Proofs.Ytldjakeigjngoaa
open Go.RowKit
section
variable {P : Program} {C : Cx} {fr : Fr} {hp : List En} {all : Array Oper}
variable {hc : List En} {K : Fr → List En → Prop}
end
end Go.Proofs.Ytldjakeigjngoaa
/- A symbolic walk: calls of a function value; a function value is made; places of an array; pieces are put together. -/
namespace Go.Proofs.Ytldjakeigjngoaa
open Go.RowKit
section
variable {P : Program} {C : Cx} {k : List It} {fr : Fr} {hp : List En} {all : Array Oper} {l : List Oper} {dst : Option Tmp} {ty : TypeId} {pos : String} {aft : Array Edge} {g : Option (Nat × Bool)}
end
/-! ### Two pieces as one -/
def En.none : En := ⟨fun _ => False, fun _ => True, fun _ _ _ h => h⟩
theorem HpOk.imp {D : Nat → Prop} {w0 w : World} {e f : En} {hp : List En} (h : HpOk D w0 (e :: hp) w) (hd : ∀ b, f.dom b → e.dom b) (hh : ∀ w, e.holds w → f.holds w) : HpOk D w0 (f :: hp) w := by
 have he := h.own e (by simp)
 have hs := List.pairwise_cons.1 h.sep
 refine ⟨h.keep, ?_, List.pairwise_cons.2 ⟨fun x hx b hb => hs.1 x hx b (hd b hb), hs.2⟩⟩
 intro x hx
 simp only [List.mem_cons] at hx
 rcases hx with rfl | hx
 · exact ⟨hh w he.1, fun b hb => he.2 b (hd b hb)⟩
 · exact h.own x (by simp [hx])
section
variable {P : Program} {C : Cx} {k : List It} {fr : Fr} {hp : List En}
end
end Go.Proofs.Ytldjakeigjngoaa
/- A symbolic walk: an element of a growing row is overwritten. -/
namespace Go.Proofs.Ytldjakeigjngoaa
open Go.RowKit
section
variable {P : Program} {D : Nat → Prop} {w0 : World} {hp : List En}
theorem HpOk.turn {w : World} (h : HpOk D w0 hp w) {i : Nat} {e f : En} (hi : hp[i]? = some e) (hd : ∀ b, f.dom b → e.dom b) (hh : f.holds w) : HpOk D w0 (hp.set i f) w :=
 h.regrow hi hh (Keep.refl _ _) (fun b hb => ⟨((h.get hi).2 b (hd b hb)).2, .inl (hd b hb)⟩)
theorem HpOk.blkVec {w : World} (h : HpOk D w0 hp w) {i : Nat} {e : TypeId} {size n q g : Nat} {cs tl : List Value} (hi : hp[i]? = some (blk g e (cs ++ tl))) (hn : n ≤ q) (hm : q ≤ maxLen) (hl : (cs ++ tl).length = q * size) (hc : cs.length = n * size) :
 HpOk D w0 (hp.set i (vec e size (.slice (some ⟨g, 0, none⟩) n q) n cs)) w := by
 have hg : w.heap[g]? = some (.cells (cs ++ tl).toArray e (0, 0)) := (h.get hi).1
 refine h.turn hi (fun b hb => by have hb : some g = some b := hb; cases hb; rfl) ⟨hc, .inr ⟨g, q, (cs ++ tl).toArray, rfl, Nat.zero_le _, hg, hn, hm, by simpa using hl, ?_⟩⟩
 show (cs ++ tl).take (n * size) = cs
 rw [← hc, List.take_left]
end
section
variable {P : Program} {C : Cx} {k : List It} {fr : Fr} {hp : List En} {all : Array Oper} {l : List Oper} {dst : Option Tmp} {ty : TypeId} {pos : String} {aft : Array Edge} {g : Option (Nat × Bool)}
end
end Go.Proofs.Ytldjakeigjngoaa