/- Contracts of strings.Builder, as Go's library has it. -/
import Derived.Test.YtldjakeigjngoaaDoorTysQ
import Derived.Lib.Builder
import Derived.Lib.AppendStr
import Derived.Lib.UnsafeStr
set_option linter.unusedVariables false
set_option linter.unusedSimpArgs false
namespace Go.Proofs.YtldjakeigjngoaaDoor
open Go.RowKit Go.Lib
section
variable {P : Program} {C : Cx} {k : List It} {fr : Fr} {hp : List En} {all : Array Oper} {l : List Oper} {dst : Option Tmp} {ty : TypeId} {pos : String} {aft : Array Edge} {g : Option (Nat × Bool)}
def Works (P : Program) (f : FuncId) (vs : List Value) (e : En) (R : Value → En → Prop) : Prop := ∀ w : World, e.holds w → (∀ b, e.dom b → b < w.heap.size) → Calls P f vs.toArray w fun x w' => ∃ v e', R v e' ∧ x = .returned v ∧ e'.holds w' ∧ Keep e.dom w w' ∧ ∀ b, e'.dom b → b < w'.heap.size ∧ (e.dom b ∨ w.heap.size ≤ b)
theorem sy_works {f : FuncId} {fn : Func} [hfn : FN P f fn] {args : List Operand} {ats : Array TypeId} {vs : List Value} {R : Value → En → Prop} (i : Nat) {e : En} (hx : evs fr args = some vs) (hi : hp[i]? = some e) (hf : Fits C.n dst) (hc : Works P f vs e R)
 (hk : ∀ v e', R v e' → Sy P C (.o all l :: k) (put dst v fr) (hp.set i e')) : Sy P C (.o all (⟨dst, .call ⟨.value (.func f), ⟨args⟩, ats⟩, ty, pos, aft, none⟩ :: l) :: k) fr hp :=
 sy_call1 i hx hi hf (fun w _ => hc w) hk
end
/-! ### the methods -/
end Go.Proofs.YtldjakeigjngoaaDoor