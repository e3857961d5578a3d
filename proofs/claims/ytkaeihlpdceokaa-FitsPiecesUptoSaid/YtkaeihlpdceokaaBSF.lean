/- BSF: texts of this proof, joined by program: SyE2, SyApp. -/
import Derived.Test.YtkaeihlpdceokaaBEX
import Derived.Test.YtkaeihlpdceokaaBRC
import Derived.Deep.Upon
/- A symbolic walk: callees that work on pieces of the caller's memory, and read memory that was there before. -/
set_option linter.unusedVariables false
set_option linter.unusedSimpArgs false
namespace Go.Proofs.Ytkaeihlpdceokaa
open Go.RowKit
theorem St.callE {D : Nat → Prop} {w0 w : World} {es rest : List En} {R : World → Prop} (h : St D w0 R) (hw : HpOk D w0 (es ++ rest) w) : St (domL es) w R :=
 fun w' hk => h w' (hw.keep.trans hk fun b ⟨e, he, hb⟩ => ((hw.own e (List.mem_append_left _ he)).2 b hb).1)
section
variable {P : Program} {C : Cx} {k : List It} {fr : Fr} {hp : List En} {all : Array Oper} {l : List Oper} {dst : Option Tmp} {ty : TypeId} {pos : String} {aft : Array Edge} {g : Option (Nat × Bool)}
end
end Go.Proofs.Ytkaeihlpdceokaa
/- A symbolic walk: a new slice out of elements that lie in memory that was there before. -/
namespace Go.Proofs.Ytkaeihlpdceokaa
open Go.RowKit
section
variable {P : Program} {C : Cx} {k : List It} {fr : Fr} {hp : List En} {all : Array Oper} {l : List Oper} {dst : Option Tmp} {ty : TypeId} {pos : String} {aft : Array Edge} {g : Option (Nat × Bool)}
end
end Go.Proofs.Ytkaeihlpdceokaa