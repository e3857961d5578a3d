/- In a drawn region: an operation that changes memory, behind a guard that is met. -/
import Derived.Test.YtldjakeigjngoaaBRC
set_option linter.unusedVariables false
set_option linter.unusedSimpArgs false
namespace Go.Proofs.Ytldjakeigjngoaa
open Go.RowKit
section
variable {P : Program} {C : Cx} {fr : Fr} {hp : List En} {all : Array Oper}
theorem dre_efy {hc : List En} {K : Fr → List En → Prop} {dst : Option Tmp} {op : Op} {ty : TypeId} {pos : String} {aft : Array Edge} {l : List (Bool × Oper)} {j : Nat} {want b : Bool} {t : Tmp} {oj : Oper} (hj : all[j]? = some oj) (ho : oj.dst = some t) (hlt : Nat.blt t C.n = true) (ht : get t fr = some (.bool b)) (hb : b = want) (hf : Fits C.n dst)
    (h : Sy P (CQ C) [.o all [⟨dst, op, ty, pos, aft, none⟩], .back (JE P C all hc K dst l fr)] fr hp) : DrE P C all hc K ((true, ⟨dst, op, ty, pos, aft, some (j, want)⟩) :: l) fr hp := by
  intro a w ha hw
  obtain ⟨_, h2⟩ := dre_ef hf h a w ha hw
  exact ⟨by rw [wanted_of (o := ⟨dst, op, ty, pos, aft, some (j, want)⟩) ha rfl hj ho hlt ht, hb]; simp, h2⟩
end
end Go.Proofs.Ytldjakeigjngoaa
