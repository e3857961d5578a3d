/- BSF: texts of this proof, joined by program: SyE2. -/
import Derived.Test.YtldjakeigjngoaaDoorBEX
/- A symbolic walk: callees that work on pieces of the caller's memory, and read memory that was there before. -/
set_option linter.unusedVariables false
set_option linter.unusedSimpArgs false
namespace Go.Proofs.YtldjakeigjngoaaDoor
open Go.RowKit
theorem St.callE {D : Nat → Prop} {w0 w : World} {es rest : List En} {R : World → Prop} (h : St D w0 R) (hw : HpOk D w0 (es ++ rest) w) : St (domL es) w R :=
 fun w' hk => h w' (hw.keep.trans hk fun b ⟨e, he, hb⟩ => ((hw.own e (List.mem_append_left _ he)).2 b hb).1)
section
variable {P : Program} {C : Cx} {k : List It} {fr : Fr} {hp : List En} {all : Array Oper} {l : List Oper} {dst : Option Tmp} {ty : TypeId} {pos : String} {aft : Array Edge} {g : Option (Nat × Bool)}
theorem sy_callEw {f : FuncId} {fn : Func} [hfn : FN P f fn] {args : List Operand} {ats : Array TypeId} {vs : List Value} {R : Value → List En → Prop} (es : List En) {rest : List En} (hx : evs fr args = some vs) (hf : Fits C.n dst) (hhp : hp = es ++ rest)
 (hc : ∀ w, HpOk C.D C.w0 (es ++ rest) w → Calls P f vs.toArray w (PostE es w R)) (hk : ∀ v es', R v es' → Sy P C (.o all l :: k) (put dst v fr) (es' ++ rest)) : Sy P C (.o all (⟨dst, .call ⟨.value (.func f), ⟨args⟩, ats⟩, ty, pos, aft, none⟩ :: l) :: k) fr hp := by
 subst hhp
 exact sy_callw hx hf (R := fun x w' => ∃ w, HpOk C.D C.w0 (es ++ rest) w ∧ PostE es w R x w')
  (fun w hw => (hc w hw).mono fun x w' h => ⟨w, hw, h⟩)
  fun _ w' _ x ⟨w, hw, v, es', hR, hx', hh⟩ => ⟨v, _, hx', hw.callE hh, hk v es' hR⟩
theorem sy_enterEw {f : FuncId} {fn : Func} [hfn : FN P f fn] {c : Code} {args : List Value} {es : List En} {R : Value → List En → Prop} {w : World} (hw : HpOk (domL es) w es w) (hb : fn.body = some c) (hn : Nat.ble args.length fn.ntmps = true)
 (h : Sy P ⟨domL es, w, fn.ntmps, bodyPost P fn (PostE es w R)⟩ [.c c] (initFr args 0) es) : Calls P f args.toArray w (PostE es w R) := by
 have hn' : args.length ≤ fn.ntmps := by simpa using hn
 refine calls_of_wp hfn.h hb ?_
 refine h.go _ w ⟨rfl, by simp; omega, fun t v ht => ?_⟩ hw
 have := (get_init args 0 t v ht).2
 simp only [Nat.sub_zero] at this
 have hlt := (List.getElem?_eq_some_iff.1 this).1
 simp only [Array.getD_eq_getD_getElem?]
 rw [Array.getElem?_append_left (by simpa using hlt)]
 simp [this]
end
end Go.Proofs.YtldjakeigjngoaaDoor