/- BST: texts of this proof, joined by program: RawSame, StripIn. -/
import Derived.Test.YtkaeihlpdceokaaBRA
import Derived.Test.YtkaeihlpdceokaaBEN
import Derived.Test.YtkaeihlpdceokaaBRC
import Derived.SizedLaws
/- Contract: whether values are the same, by the document. -/
set_option linter.unusedVariables false
set_option linter.unusedSimpArgs false
namespace Go.Proofs.Ytkaeihlpdceokaa
open Go.RowKit Bf
end Go.Proofs.Ytkaeihlpdceokaa
/- New values that a callee makes out of memory that was there before; how great the rows of a value are. -/
namespace Go.Proofs.Ytkaeihlpdceokaa
open Go.RowKit Go.Deep
inductive SzR : RawA → Prop where
 | mk (k a n : Int) (s : List UInt8) (pk : Option Addr) (ck : Nat) (keys : List WordT) (p : Option Addr) (c : Nat) (kids : List RawA)
  (h1 : keys.length * 24 ≤ 140737488351232) (h2 : kids.length * 88 ≤ 140737488351232) (h3 : ∀ x ∈ kids, SzR x) : SzR (.mk k a n s pk ck keys p c kids)
theorem SzR.parts {k a n : Int} {s : List UInt8} {pk : Option Addr} {ck : Nat} {keys : List WordT} {p : Option Addr} {c : Nat} {kids : List RawA} (h : SzR (.mk k a n s pk ck keys p c kids)) :
 keys.length * 24 ≤ 140737488351232 ∧ kids.length * 88 ≤ 140737488351232 ∧ ∀ x ∈ kids, SzR x := by
 cases h with
 | mk _ _ _ _ _ _ _ _ _ _ h1 h2 h3 => exact ⟨h1, h2, h3⟩
def PostN (w : World) (R : Value → List En → Prop) (x : Ending) (w' : World) : Prop := ∃ v es', R v es' ∧ x = .returned v ∧ HpOk (fun _ => False) w es' w'
theorem domL_nil : domL [] = fun _ => False := by funext b; simp [domL]
section
variable {P : Program} {C : Cx} {k : List It} {fr : Fr} {hp : List En} {all : Array Oper} {l : List Oper} {dst : Option Tmp} {ty : TypeId} {pos : String} {aft : Array Edge} {g : Option (Nat × Bool)}
theorem sy_callN {f : FuncId} {fn : Func} [hfn : FN P f fn] {args : List Operand} {ats : Array TypeId} {vs : List Value} {R : Value → List En → Prop} (hx : evs fr args = some vs) (hf : Fits C.n dst)
 (hc : ∀ w, HpOk C.D C.w0 hp w → Calls P f vs.toArray w (PostN w R)) (hk : ∀ v es', R v es' → Sy P C (.o all l :: k) (put dst v fr) (es' ++ hp)) : Sy P C (.o all (⟨dst, .call ⟨.value (.func f), ⟨args⟩, ats⟩, ty, pos, aft, none⟩ :: l) :: k) fr hp := by
 exact sy_callw hx hf (R := fun x w' => ∃ w, HpOk C.D C.w0 hp w ∧ PostN w R x w')
  (fun w hw => (hc w hw).mono fun x w' h => ⟨w, hw, h⟩)
  fun _ w' _ x ⟨w, hw, v, es', hR, hx', hh⟩ => ⟨v, _, hx', HpOk.callE (es := []) hw (by rw [domL_nil]; exact hh), hk v es' hR⟩
end
section
variable {H : Type} {P : Program}
end
section
variable {H : Type} {enc : TypeId × Value → H} {P : Program} {w : World} {base : Nat} {spare : Nat → Bool} {held : Bool}
end
section
variable {H : Type} {enc : TypeId × Value → H} {w : World} {base : Nat} {spare : Nat → Bool} {held : Bool}
end
end Go.Proofs.Ytkaeihlpdceokaa