/- Contracts of strings.Builder, as Go's library has it. -/
import Derived.Test.YtkaeihlpdceokaaTysQ
import Derived.Lib.Builder
import Derived.Lib.AppendStr
import Derived.Lib.UnsafeStr
set_option linter.unusedVariables false
set_option linter.unusedSimpArgs false
namespace Go.Proofs.Ytkaeihlpdceokaa
open Go.RowKit Go.Lib
section
variable {P : Program} {C : Cx} {k : List It} {fr : Fr} {hp : List En} {all : Array Oper} {l : List Oper} {dst : Option Tmp} {ty : TypeId} {pos : String} {aft : Array Edge} {g : Option (Nat × Bool)}
theorem ov_extern {f : FuncId} {fn : Func} {e : Array Value → Sem Value} {args : List Operand} {ats : Array TypeId} {vs : List Value} {v : Value} (hx : evs fr args = some vs) (hf : P.funcs[f]? = some fn) (hname : (fn.name == "runtime.NumGoroutine") = false) (hb : fn.body.isNone = true) (hn : Extern.findNext fn = none) (he : Extern.find fn = some e)
 (hrun : ∀ w, (e vs.toArray).run P w = .ok v w) : OV P C fr hp ⟨dst, .call ⟨.value (.func f), ⟨args⟩, ats⟩, ty, pos, aft, g⟩ v :=
 ov_pure (fun r w hr => by
  have h1 := run_callFunc_extern (P := P) hf hname hb hn he vs.toArray w
  have h2 : r (.func f) = .func (.func f) #[] #[] := hr _ _ rfl
  rw [hrun w] at h1
  unfold execOp
  simp [resolve, Deferred.ofValue, invoke, h2, evs_map hr hx, h1])
def Works (P : Program) (f : FuncId) (vs : List Value) (e : En) (R : Value → En → Prop) : Prop := ∀ w : World, e.holds w → (∀ b, e.dom b → b < w.heap.size) → Calls P f vs.toArray w fun x w' => ∃ v e', R v e' ∧ x = .returned v ∧ e'.holds w' ∧ Keep e.dom w w' ∧ ∀ b, e'.dom b → b < w'.heap.size ∧ (e.dom b ∨ w.heap.size ≤ b)
theorem sy_works {f : FuncId} {fn : Func} [hfn : FN P f fn] {args : List Operand} {ats : Array TypeId} {vs : List Value} {R : Value → En → Prop} (i : Nat) {e : En} (hx : evs fr args = some vs) (hi : hp[i]? = some e) (hf : Fits C.n dst) (hc : Works P f vs e R)
 (hk : ∀ v e', R v e' → Sy P C (.o all l :: k) (put dst v fr) (hp.set i e')) : Sy P C (.o all (⟨dst, .call ⟨.value (.func f), ⟨args⟩, ats⟩, ty, pos, aft, none⟩ :: l) :: k) fr hp :=
 sy_call1 i hx hi hf (fun w _ => hc w) hk
end
/-! ### the methods -/
end Go.Proofs.Ytkaeihlpdceokaa