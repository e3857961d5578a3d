/- BRX: texts of this proof, joined by program: RefW, RefX, RefX2, RefX3, RefY. -/
import Derived.Test.YtldjakeigjngoaaGreatBRR
import Derived.Test.YtldjakeigjngoaaGreatBRP
import Derived.Test.YtldjakeigjngoaaGreatBTR
set_option linter.unusedVariables false
set_option linter.unusedSimpArgs false
namespace Go.Proofs.YtldjakeigjngoaaGreat
open Go.RowKit Bf
def PS.one (x : PS) : PS := ⟨x.off, x.l, x.c, x.m + 1, x.e, x.a⟩
theorem PS.Ok.one {x : PS} (h : x.Ok) : x.one.Ok := h.same rfl rfl
theorem PS.On.one (x : PS) : x.On x.one := ⟨0, by simp [PS.one], rfl, rfl⟩
section
variable {d : Nat} {x : PS} {t : TokT} (he : x.e = 0) (hm : x.m ≠ 4096) (hh : hdT x.l = t)
include he hm hh
variable (hB : mkB x.l [123] = false) (hA : mkB x.l [91] = false)
include hB hA
end
section
variable {P : Program} {C : Cx} {k : List It} {fr : Fr} {hp : List En} {all : Array Oper} {l : List Oper} {dst : Option Tmp} {ty : TypeId} {pos : String} {aft : Array Edge} {g : Option (Nat × Bool)}
theorem ov_slEq {t e : TypeId} [hd : TU P t (.slice e)] {ti : TypeInfo} [hti : TI P e ti] {x y : Operand} {b off n q : Nat} {ik : IntKind} {i : Int} (hx : ev fr x = some (.slice (some ⟨b, off, none⟩) n q)) (hy : ev fr y = some (.int ik i)) (h0 : 0 ≤ i) (h1 : i ≤ n) (h2 : q = i.toNat) :
 OV P C fr hp ⟨dst, .slice t x (some y) none none, ty, pos, aft, g⟩ (.slice (some ⟨b, off, none⟩) (n - i.toNat) (q - i.toNat)) :=
 ov_pure (fun r w hr => by
  subst h2
  simp [execOp, hr _ _ hx, hr _ _ hy, Instr.sliceAt, Instr.slice, Instr.sliceBounds, Instr.sliceBound, asIntOf, underlying, hd.h, h0, h1, run_sizeOf' (P := P) (t := e), addr_add])
theorem sy_vecMax (i : Nat) {e : TypeId} {size n m q : Nat} {p : Option Addr} {cs : List Value} (hi : hp[i]? = some (vec e size (.slice p m q) n cs)) (h : n ≤ q → q ≤ maxLen → Sy P C k fr hp) : Sy P C k fr hp :=
 .mk fun a w ha hw => by
  have hown : w.ownsRow 0 e size (.slice p m q) n cs := (hw.get hi).1
  rcases hown.2 with ⟨hv, h0⟩ | ⟨g, cap, cur, hv, _, _, hle, hm, _⟩
  · cases hv; exact (h (by omega) (Nat.zero_le _)).go a w ha hw
  · cases hv; exact (h hle hm).go a w ha hw
end
theorem tk_of {w : World} {g : Nat} {x : PS} {L : List TokT} (h : IsSl w 5 (some ⟨g, 0, none⟩) L.length (L.flatMap tokV)) (hn : 0 < L.length) (h0 : x.off = 0) (hl : x.l = L) : TkAt g x w := by
 rcases h.2 with h | ⟨b, off, e, hat⟩
 · omega
 · cases e
   unfold TkAt
   rw [h0, hl]; exact hat
end Go.Proofs.YtldjakeigjngoaaGreat