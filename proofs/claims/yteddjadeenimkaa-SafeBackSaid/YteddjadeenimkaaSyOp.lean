/- A symbolic walk, the operations: one law for each. -/
import Derived.Test.YteddjadeenimkaaSy
set_option linter.unusedVariables false
set_option linter.unusedSimpArgs false
namespace Go.Proofs.Yteddjadeenimkaa
open Go.RowKit

class TU (P : Program) (t : TypeId) (d : outParam TypeDesc) : Prop where
  h : P.underlying t = some d
class TI (P : Program) (t : TypeId) (i : outParam TypeInfo) : Prop where
  h : P.info? t = some i
class FN (P : Program) (f : FuncId) (fn : outParam Func) : Prop where
  h : P.funcs[f]? = some fn
  name : (fn.name == "runtime.NumGoroutine") = false
  body : fn.body.isNone = false
section
variable {P : Program} {C : Cx} {k : List It} {fr : Fr} {hp : List En} {all : Array Oper} {l : List Oper} {dst : Option Tmp} {ty : TypeId} {pos : String} {aft : Array Edge} {g : Option (Nat × Bool)}
theorem sy_val {op : Op} {v : Value} {hp' : List En} (hf : Fits C.n dst)
    (h : ∀ a w, FrOk C.n fr a → HpOk C.D C.w0 hp w → ∃ w', (execOp a.eval ⟨dst, op, ty, pos, aft, none⟩).run P w = .ok (.value v) w' ∧ HpOk C.D C.w0 hp' w')
    (hk : Sy P C (.o all l :: k) (put dst v fr) hp') : Sy P C (.o all (⟨dst, op, ty, pos, aft, none⟩ :: l) :: k) fr hp :=
  sy_op rfl fun a w ha hw => by
    obtain ⟨w', hr, hw'⟩ := h a w ha hw
    unfold Oper.wp
    rw [hr]
    exact hk.go _ _ (ha.put hf v) hw'
theorem sy_pure {op : Op} {v : Value} (hf : Fits C.n dst)
    (h : ∀ a w, FrOk C.n fr a → (execOp a.eval ⟨dst, op, ty, pos, aft, none⟩).run P w = .ok (.value v) w)
    (hk : Sy P C (.o all l :: k) (put dst v fr) hp) : Sy P C (.o all (⟨dst, op, ty, pos, aft, none⟩ :: l) :: k) fr hp :=
  sy_val hf (fun a w ha hw => ⟨w, h a w ha, hw⟩) hk
/-- How an operation ends: with a value, and what the call owns is as it was. -/
def Fin (P : Program) (C : Cx) (hp : List En) (v : Value) : Result Next → Prop
  | .ok (.value u) w' => u = v ∧ HpOk C.D C.w0 hp w'
  | .ok (.enter f args) w' => Calls P f args w' fun e w'' => e = .returned v ∧ HpOk C.D C.w0 hp w''
  | _ => False
structure OV (P : Program) (C : Cx) (fr : Fr) (hp : List En) (o : Oper) (v : Value) : Prop where
  go : ∀ (r : Operand → Value) (w : World), (∀ x u, ev fr x = some u → r x = u) → HpOk C.D C.w0 hp w → Fin P C hp v ((execOp r o).run P w)
theorem ov_pure {o : Oper} {v : Value} (h : ∀ (r : Operand → Value) (w : World), (∀ x u, ev fr x = some u → r x = u) → (execOp r o).run P w = .ok (.value v) w) : OV P C fr hp o v :=
  .mk fun r w hr hw => by rw [h r w hr]; exact ⟨rfl, hw⟩
theorem sy_ov {o : Oper} {v : Value} (h : OV P C fr hp o v) (hg : o.guard = none) (hf : Fits C.n o.dst) (hk : Sy P C (.o all l :: k) (put o.dst v fr) hp) : Sy P C (.o all (o :: l) :: k) fr hp :=
  sy_op hg fun a w ha hw => by
    have := h.go a.eval w (fun x u hx => ha.ev hx) hw
    unfold Oper.wp
    cases hr : (execOp a.eval o).run P w with
    | halt _ _ => rw [hr] at this; exact this.elim
    | ok nx w' =>
      rw [hr] at this
      cases nx with
      | value u => obtain ⟨rfl, hw'⟩ := this; exact hk.go _ _ (ha.put hf _) hw'
      | enter f args =>
        have this : Calls P f args w' fun e w'' => e = .returned v ∧ HpOk C.D C.w0 hp w'' := this
        refine this.mono fun e w'' he => ?_
        obtain ⟨rfl, hw''⟩ := he
        exact hk.go _ _ (ha.put hf _) hw''
      | _ => exact this.elim
theorem ov_move {x : Operand} {v : Value} (hx : ev fr x = some v) : OV P C fr hp ⟨dst, .move x, ty, pos, aft, g⟩ v :=
  ov_pure (fun r w hr => by simp [execOp, hr _ _ hx])
theorem ov_assign {x : Operand} {v : Value} (hx : ev fr x = some v) : OV P C fr hp ⟨dst, .assign x, ty, pos, aft, g⟩ v :=
  ov_pure (fun r w hr => by simp [execOp, hr _ _ hx])
theorem ov_pick_t {c x y : Operand} {b : Bool} {v : Value} (hc : ev fr c = some (.bool b)) (hx : ev fr x = some v) (hb : b = true) : OV P C fr hp ⟨dst, .pick c x y, ty, pos, aft, g⟩ v :=
  ov_pure (fun r w hr => by subst hb; simp [execOp, hr _ _ hc, hr _ _ hx, asBool])
theorem ov_pick_f {c x y : Operand} {b : Bool} {v : Value} (hc : ev fr c = some (.bool b)) (hx : ev fr y = some v) (hb : b = false) : OV P C fr hp ⟨dst, .pick c x y, ty, pos, aft, g⟩ v :=
  ov_pure (fun r w hr => by subst hb; simp [execOp, hr _ _ hc, hr _ _ hx, asBool])
theorem ov_pick {c x y : Operand} {b : Bool} {u v : Value} (hc : ev fr c = some (.bool b)) (hx : ev fr x = some u) (hy : ev fr y = some v) : OV P C fr hp ⟨dst, .pick c x y, ty, pos, aft, g⟩ (if b then u else v) :=
  ov_pure (fun r w hr => by simp [execOp, hr _ _ hc, hr _ _ hx, hr _ _ hy, asBool])
/-! gates: what kind of thing stands next -/
theorem gO {o : Oper} (h : Sy P C (.o all (o :: l) :: k) fr hp) : Sy P C (.o all (o :: l) :: k) fr hp := h
theorem gC {c : Code} (h : Sy P C (.c c :: k) fr hp) : Sy P C (.c c :: k) fr hp := h
theorem gG {op : Op} {gd : Nat × Bool} (h : Sy P C (.o all (⟨dst, op, ty, pos, aft, some gd⟩ :: l) :: k) fr hp) : Sy P C (.o all (⟨dst, op, ty, pos, aft, some gd⟩ :: l) :: k) fr hp := h
theorem gB {bo : BinOp} {xt yt : TypeId} {x y : Operand} (h : Sy P C (.o all (⟨dst, .binOp bo xt x y yt, ty, pos, aft, g⟩ :: l) :: k) fr hp) : Sy P C (.o all (⟨dst, .binOp bo xt x y yt, ty, pos, aft, g⟩ :: l) :: k) fr hp := h
theorem gK {c : Call} (h : Sy P C (.o all (⟨dst, .call c, ty, pos, aft, g⟩ :: l) :: k) fr hp) : Sy P C (.o all (⟨dst, .call c, ty, pos, aft, g⟩ :: l) :: k) fr hp := h
theorem gL {t : TypeId} {x : Operand} (h : Sy P C (.o all (⟨dst, .load t x, ty, pos, aft, g⟩ :: l) :: k) fr hp) : Sy P C (.o all (⟨dst, .load t x, ty, pos, aft, g⟩ :: l) :: k) fr hp := h
theorem gS {t : TypeId} {x y : Operand} (h : Sy P C (.o all (⟨dst, .store t x y, ty, pos, aft, g⟩ :: l) :: k) fr hp) : Sy P C (.o all (⟨dst, .store t x y, ty, pos, aft, g⟩ :: l) :: k) fr hp := h
theorem gI {t : TypeId} {x : Operand} {lo hi mx : Option Operand} (h : Sy P C (.o all (⟨dst, .slice t x lo hi mx, ty, pos, aft, g⟩ :: l) :: k) fr hp) : Sy P C (.o all (⟨dst, .slice t x lo hi mx, ty, pos, aft, g⟩ :: l) :: k) fr hp := h
theorem gV {e : Exit} (h : Leave P C e k fr hp) : Leave P C e k fr hp := h
/-! guards -/
theorem wanted_of {j : Nat} {want b : Bool} {t : Tmp} {oj : Oper} {o : Oper} {a : Act} (ha : FrOk C.n fr a) (hg : o.guard = some (j, want)) (hj : all[j]? = some oj) (ho : oj.dst = some t) (hlt : Nat.blt t C.n = true) (ht : get t fr = some (.bool b)) :
    Region.wanted o (yielded all a.tmps) = (b == want) := by
  have h1 := ha.slot t _ ht
  have h2 : t < a.tmps.size := by rw [ha.size]; simpa [Nat.blt_eq] using hlt
  have h3 : a.tmps[t]? = some (.bool b) := by
    rw [Array.getD_eq_getD_getElem?, Array.getElem?_eq_getElem h2] at h1
    rw [Array.getElem?_eq_getElem h2]; simpa using h1
  simp only [Region.wanted, hg, yielded, hj, Option.bind_some, ho, h3]
  cases b <;> cases want <;> rfl
theorem sy_guard {op : Op} {j : Nat} {want b : Bool} {t : Tmp} {oj : Oper} (hj : all[j]? = some oj) (ho : oj.dst = some t) (hlt : Nat.blt t C.n = true) (hf : Fits C.n dst) (ht : get t fr = some (.bool b))
    (h1 : b = want → Sy P C (.o all (⟨dst, op, ty, pos, aft, none⟩ :: l) :: k) ((t, .bool want) :: fr) hp)
    (h2 : b = (!want) → Sy P C (.o all l :: k) (put dst undef ((t, .bool !want) :: fr)) hp) :
    Sy P C (.o all (⟨dst, op, ty, pos, aft, some (j, want)⟩ :: l) :: k) fr hp := by
  constructor
  intro a w ha hw
  have hwant := wanted_of (o := ⟨dst, op, ty, pos, aft, some (j, want)⟩) ha rfl hj ho hlt ht
  have same : ∀ x, b = x → FrOk C.n ((t, .bool x) :: fr) a := fun x e => ⟨ha.defers, ha.size, fun s v hs => by
    subst e
    simp only [get] at hs
    cases hb : Nat.beq s t with
    | true => rw [hb] at hs; simp only [cond_true, Option.some.injEq] at hs; rw [← hs, Nat.eq_of_beq_eq_true hb]; exact ha.slot t _ ht
    | false => rw [hb] at hs; exact ha.slot s v hs⟩
  show wpList _ _ _ _ _ _
  unfold wpList
  rw [hwant]
  by_cases e : b = want
  · subst e
    simp only [beq_self_eq_true, if_true]
    have := (h1 rfl).go a w (same b rfl) hw
    have this : wpList P all (After P C.Q k) (⟨dst, op, ty, pos, aft, none⟩ :: l) a w := this
    unfold wpList at this
    simp only [Region.wanted, if_true] at this
    rcases this with h | h
    · left; exact h
    · right; exact h
  · have e' : b = !want := by cases b <;> cases want <;> simp_all
    have hb : (b == want) = false := by simp [e]
    rw [hb]
    simp only [Bool.false_eq_true, if_false]
    exact (h2 e').go _ _ ((same _ e').put hf undef) hw
theorem sy_guard_yes {op : Op} {j : Nat} {want b : Bool} {t : Tmp} {oj : Oper} (hj : all[j]? = some oj) (ho : oj.dst = some t) (hlt : Nat.blt t C.n = true) (hf : Fits C.n dst) (ht : get t fr = some (.bool b)) (hb : b = want)
    (h : Sy P C (.o all (⟨dst, op, ty, pos, aft, none⟩ :: l) :: k) ((t, .bool want) :: fr) hp) : Sy P C (.o all (⟨dst, op, ty, pos, aft, some (j, want)⟩ :: l) :: k) fr hp :=
  sy_guard hj ho hlt hf ht (fun _ => h) (fun e => by rw [hb] at e; cases want <;> cases e)
theorem sy_guard_no {op : Op} {j : Nat} {want b : Bool} {t : Tmp} {oj : Oper} (hj : all[j]? = some oj) (ho : oj.dst = some t) (hlt : Nat.blt t C.n = true) (hf : Fits C.n dst) (ht : get t fr = some (.bool b)) (hb : b = !want)
    (h : Sy P C (.o all l :: k) (put dst undef ((t, .bool !want) :: fr)) hp) : Sy P C (.o all (⟨dst, op, ty, pos, aft, some (j, want)⟩ :: l) :: k) fr hp :=
  sy_guard hj ho hlt hf ht (fun e => by rw [hb] at e; cases want <;> cases e) (fun _ => h)
theorem sy_guard_undef {op : Op} {j : Nat} {want : Bool} {t : Tmp} {oj : Oper} (hj : all[j]? = some oj) (ho : oj.dst = some t) (hlt : Nat.blt t C.n = true) (hf : Fits C.n dst) (ht : get t fr = some undef)
    (h2 : Sy P C (.o all l :: k) (put dst undef fr) hp) :
    Sy P C (.o all (⟨dst, op, ty, pos, aft, some (j, want)⟩ :: l) :: k) fr hp := by
  constructor
  intro a w ha hw
  have h1 := ha.slot t _ ht
  have h2' : t < a.tmps.size := by rw [ha.size]; simpa [Nat.blt_eq] using hlt
  have h3 : a.tmps[t]? = some undef := by
    rw [Array.getD_eq_getD_getElem?, Array.getElem?_eq_getElem h2'] at h1
    rw [Array.getElem?_eq_getElem h2']; simpa using h1
  show wpList _ _ _ _ _ _
  unfold wpList
  have : Region.wanted (⟨dst, op, ty, pos, aft, some (j, want)⟩ : Oper) (yielded all a.tmps) = false := by
    simp only [Region.wanted, yielded, hj, Option.bind_some, ho, h3]; rfl
  rw [this]
  simp only [Bool.false_eq_true, if_false]
  exact h2.go _ _ (ha.put hf undef) hw
/-! numbers -/
theorem wrap_in (n : Int) (h1 : -9223372036854775808 ≤ n) (h2 : n ≤ 9223372036854775807) : IntKind.i64.wrap n = n := by rw [IntKind.wrap_i64]; omega
theorem wrap_in32 (n : Int) (h1 : -2147483648 ≤ n) (h2 : n ≤ 2147483647) : IntKind.i32.wrap n = n := by rw [IntKind.wrap_i32]; omega
theorem ov_addw {xt yt : TypeId} {x y : Operand} {ik : IntKind} {a b : Int} (hx : ev fr x = some (.int ik a)) (hy : ev fr y = some (.int ik b)) : OV P C fr hp ⟨dst, .binOp .add xt x y yt, ty, pos, aft, g⟩ (.int ik (ik.wrap (a + b))) :=
  ov_pure (fun r w hr => by simp [execOp, hr _ _ hx, hr _ _ hy, eqGuard, binOp, Op.intArith])
theorem ov_subw {xt yt : TypeId} {x y : Operand} {ik : IntKind} {a b : Int} (hx : ev fr x = some (.int ik a)) (hy : ev fr y = some (.int ik b)) : OV P C fr hp ⟨dst, .binOp .sub xt x y yt, ty, pos, aft, g⟩ (.int ik (ik.wrap (a - b))) :=
  ov_pure (fun r w hr => by simp [execOp, hr _ _ hx, hr _ _ hy, eqGuard, binOp, Op.intArith])
theorem ov_mulw {xt yt : TypeId} {x y : Operand} {ik : IntKind} {a b : Int} (hx : ev fr x = some (.int ik a)) (hy : ev fr y = some (.int ik b)) : OV P C fr hp ⟨dst, .binOp .mul xt x y yt, ty, pos, aft, g⟩ (.int ik (ik.wrap (a * b))) :=
  ov_pure (fun r w hr => by simp [execOp, hr _ _ hx, hr _ _ hy, eqGuard, binOp, Op.intArith])
theorem ov_add {xt yt : TypeId} {x y : Operand} {a b : Int} (hx : ev fr x = some (.int .i64 a)) (hy : ev fr y = some (.int .i64 b)) (h1 : -9223372036854775808 ≤ a + b) (h2 : a + b ≤ 9223372036854775807) : OV P C fr hp ⟨dst, .binOp .add xt x y yt, ty, pos, aft, g⟩ (.int .i64 (a + b)) :=
  by have := ov_addw (P := P) (C := C) (hp := hp) (dst := dst) (ty := ty) (pos := pos) (aft := aft) (g := g) (xt := xt) (yt := yt) hx hy; rw [wrap_in _ h1 h2] at this; exact this
theorem ov_sub {xt yt : TypeId} {x y : Operand} {a b : Int} (hx : ev fr x = some (.int .i64 a)) (hy : ev fr y = some (.int .i64 b)) (h1 : -9223372036854775808 ≤ a - b) (h2 : a - b ≤ 9223372036854775807) : OV P C fr hp ⟨dst, .binOp .sub xt x y yt, ty, pos, aft, g⟩ (.int .i64 (a - b)) :=
  by have := ov_subw (P := P) (C := C) (hp := hp) (dst := dst) (ty := ty) (pos := pos) (aft := aft) (g := g) (xt := xt) (yt := yt) hx hy; rw [wrap_in _ h1 h2] at this; exact this
theorem ov_mul {xt yt : TypeId} {x y : Operand} {a b : Int} (hx : ev fr x = some (.int .i64 a)) (hy : ev fr y = some (.int .i64 b)) (h1 : -9223372036854775808 ≤ a * b) (h2 : a * b ≤ 9223372036854775807) : OV P C fr hp ⟨dst, .binOp .mul xt x y yt, ty, pos, aft, g⟩ (.int .i64 (a * b)) :=
  by have := ov_mulw (P := P) (C := C) (hp := hp) (dst := dst) (ty := ty) (pos := pos) (aft := aft) (g := g) (xt := xt) (yt := yt) hx hy; rw [wrap_in _ h1 h2] at this; exact this
theorem ov_quo {xt yt : TypeId} {x y : Operand} {ik : IntKind} {a b : Int} (hx : ev fr x = some (.int ik a)) (hy : ev fr y = some (.int ik b)) (h0 : b ≠ 0) : OV P C fr hp ⟨dst, .binOp .quo xt x y yt, ty, pos, aft, g⟩ (.int ik (ik.wrap (a.tdiv b))) :=
  ov_pure (fun r w hr => by simp [execOp, hr _ _ hx, hr _ _ hy, eqGuard, binOp, Op.intDiv, h0])
theorem ov_rem {xt yt : TypeId} {x y : Operand} {ik : IntKind} {a b : Int} (hx : ev fr x = some (.int ik a)) (hy : ev fr y = some (.int ik b)) (h0 : b ≠ 0) : OV P C fr hp ⟨dst, .binOp .rem xt x y yt, ty, pos, aft, g⟩ (.int ik (a.tmod b)) :=
  ov_pure (fun r w hr => by simp [execOp, hr _ _ hx, hr _ _ hy, eqGuard, binOp, Op.intDiv, h0])
theorem ov_eq {xt yt : TypeId} {x y : Operand} {ik : IntKind} {a b : Int} (hx : ev fr x = some (.int ik a)) (hy : ev fr y = some (.int ik b)) : OV P C fr hp ⟨dst, .binOp .eql xt x y yt, ty, pos, aft, g⟩ (.bool (decide (a = b))) :=
  ov_pure (fun r w hr => by simp [execOp, hr _ _ hx, hr _ _ hy, eqGuard, binOp, Op.intCmp]; rfl)
theorem ov_ne {xt yt : TypeId} {x y : Operand} {ik : IntKind} {a b : Int} (hx : ev fr x = some (.int ik a)) (hy : ev fr y = some (.int ik b)) : OV P C fr hp ⟨dst, .binOp .neq xt x y yt, ty, pos, aft, g⟩ (.bool (!decide (a = b))) :=
  ov_pure (fun r w hr => by simp [execOp, hr _ _ hx, hr _ _ hy, eqGuard, binOp, Op.intCmp]; rfl)
theorem ov_lt {xt yt : TypeId} {x y : Operand} {ik : IntKind} {a b : Int} (hx : ev fr x = some (.int ik a)) (hy : ev fr y = some (.int ik b)) : OV P C fr hp ⟨dst, .binOp .lss xt x y yt, ty, pos, aft, g⟩ (.bool (decide (a < b))) :=
  ov_pure (fun r w hr => by simp [execOp, hr _ _ hx, hr _ _ hy, eqGuard, binOp, Op.intCmp])
theorem ov_le {xt yt : TypeId} {x y : Operand} {ik : IntKind} {a b : Int} (hx : ev fr x = some (.int ik a)) (hy : ev fr y = some (.int ik b)) : OV P C fr hp ⟨dst, .binOp .leq xt x y yt, ty, pos, aft, g⟩ (.bool (decide (a ≤ b))) :=
  ov_pure (fun r w hr => by simp [execOp, hr _ _ hx, hr _ _ hy, eqGuard, binOp, Op.intCmp])
theorem ov_gt {xt yt : TypeId} {x y : Operand} {ik : IntKind} {a b : Int} (hx : ev fr x = some (.int ik a)) (hy : ev fr y = some (.int ik b)) : OV P C fr hp ⟨dst, .binOp .gtr xt x y yt, ty, pos, aft, g⟩ (.bool (decide (b < a))) :=
  ov_pure (fun r w hr => by simp [execOp, hr _ _ hx, hr _ _ hy, eqGuard, binOp, Op.intCmp])
theorem ov_ge {xt yt : TypeId} {x y : Operand} {ik : IntKind} {a b : Int} (hx : ev fr x = some (.int ik a)) (hy : ev fr y = some (.int ik b)) : OV P C fr hp ⟨dst, .binOp .geq xt x y yt, ty, pos, aft, g⟩ (.bool (decide (b ≤ a))) :=
  ov_pure (fun r w hr => by simp [execOp, hr _ _ hx, hr _ _ hy, eqGuard, binOp, Op.intCmp])
theorem ov_not {xt : TypeId} {x : Operand} {b : Bool} (hx : ev fr x = some (.bool b)) : OV P C fr hp ⟨dst, .unOp .not xt x, ty, pos, aft, g⟩ (.bool (!b)) :=
  ov_pure (fun r w hr => by simp [execOp, hr _ _ hx, Op.unary])
theorem ov_negw {xt : TypeId} {x : Operand} {ik : IntKind} {n : Int} (hx : ev fr x = some (.int ik n)) : OV P C fr hp ⟨dst, .unOp .neg xt x, ty, pos, aft, g⟩ (.int ik (ik.wrap (0 - n))) :=
  ov_pure (fun r w hr => by simp [execOp, hr _ _ hx, Op.unary, Op.intArith])
theorem ov_eqb {xt yt : TypeId} [TU P xt .bool] {x y : Operand} {a b : Bool} (hx : ev fr x = some (.bool a)) (hy : ev fr y = some (.bool b)) : OV P C fr hp ⟨dst, .binOp .eql xt x y yt, ty, pos, aft, g⟩ (.bool (a == b)) :=
  ov_pure (fun r w hr => by simp [execOp, hr _ _ hx, hr _ _ hy, eqGuard, run_eql_bool w xt _ _ (TU.h (P := P) (t := xt))])
theorem ov_neb {xt yt : TypeId} [TU P xt .bool] {x y : Operand} {a b : Bool} (hx : ev fr x = some (.bool a)) (hy : ev fr y = some (.bool b)) : OV P C fr hp ⟨dst, .binOp .neq xt x y yt, ty, pos, aft, g⟩ (.bool (!(a == b))) :=
  ov_pure (fun r w hr => by simp [execOp, hr _ _ hx, hr _ _ hy, eqGuard, run_neq_bool w xt _ _ (TU.h (P := P) (t := xt))])
theorem ov_conv {st dt : TypeId} {sd : TypeDesc} {ik jk : IntKind} [TU P st sd] [TU P dt (.int ik)] {x : Operand} {n : Int} (hx : ev fr x = some (.int jk n)) : OV P C fr hp ⟨dst, .convert st dt x, ty, pos, aft, g⟩ (.int ik (ik.wrap n)) :=
  ov_pure (fun r w hr => by simp [execOp, hr _ _ hx, convert, underlying, TU.h (P := P) (t := st), TU.h (P := P) (t := dt), Conv.intToInt])
/-! narrower kinds, where nothing wraps -/
theorem wrap_in_i32 (n : Int) (h1 : -2147483648 ≤ n) (h2 : n ≤ 2147483647) : IntKind.i32.wrap n = n := by
  simp [IntKind.wrap, IntKind.bits, IntKind.signed]
  split <;> omega
theorem wrap_in_u8 (n : Int) (h1 : 0 ≤ n) (h2 : n ≤ 255) : IntKind.u8.wrap n = n := by
  simp [IntKind.wrap, IntKind.bits, IntKind.signed]
  omega
theorem wrap_in_u32 (n : Int) (h1 : 0 ≤ n) (h2 : n ≤ 4294967295) : IntKind.u32.wrap n = n := by
  simp [IntKind.wrap, IntKind.bits, IntKind.signed]
  omega
theorem wrap_in_u64 (n : Int) (h1 : 0 ≤ n) (h2 : n ≤ 18446744073709551615) : IntKind.u64.wrap n = n := by
  simp [IntKind.wrap, IntKind.bits, IntKind.signed]
  omega
theorem ov_add_i32 {xt yt : TypeId} {x y : Operand} {a b : Int} (hx : ev fr x = some (.int .i32 a)) (hy : ev fr y = some (.int .i32 b)) (h1 : -2147483648 ≤ a + b) (h2 : a + b ≤ 2147483647) : OV P C fr hp ⟨dst, .binOp .add xt x y yt, ty, pos, aft, g⟩ (.int .i32 (a + b)) :=
  by have := ov_addw (P := P) (C := C) (hp := hp) (dst := dst) (ty := ty) (pos := pos) (aft := aft) (g := g) (xt := xt) (yt := yt) hx hy; rw [wrap_in_i32 _ h1 h2] at this; exact this
theorem ov_sub_i32 {xt yt : TypeId} {x y : Operand} {a b : Int} (hx : ev fr x = some (.int .i32 a)) (hy : ev fr y = some (.int .i32 b)) (h1 : -2147483648 ≤ a - b) (h2 : a - b ≤ 2147483647) : OV P C fr hp ⟨dst, .binOp .sub xt x y yt, ty, pos, aft, g⟩ (.int .i32 (a - b)) :=
  by have := ov_subw (P := P) (C := C) (hp := hp) (dst := dst) (ty := ty) (pos := pos) (aft := aft) (g := g) (xt := xt) (yt := yt) hx hy; rw [wrap_in_i32 _ h1 h2] at this; exact this
theorem ov_mul_i32 {xt yt : TypeId} {x y : Operand} {a b : Int} (hx : ev fr x = some (.int .i32 a)) (hy : ev fr y = some (.int .i32 b)) (h1 : -2147483648 ≤ a * b) (h2 : a * b ≤ 2147483647) : OV P C fr hp ⟨dst, .binOp .mul xt x y yt, ty, pos, aft, g⟩ (.int .i32 (a * b)) :=
  by have := ov_mulw (P := P) (C := C) (hp := hp) (dst := dst) (ty := ty) (pos := pos) (aft := aft) (g := g) (xt := xt) (yt := yt) hx hy; rw [wrap_in_i32 _ h1 h2] at this; exact this
theorem ov_quo_i32 {xt yt : TypeId} {x y : Operand} {a b : Int} (hx : ev fr x = some (.int .i32 a)) (hy : ev fr y = some (.int .i32 b)) (h1 : 0 ≤ a) (h2 : a ≤ 2147483647) (h3 : 0 < b) : OV P C fr hp ⟨dst, .binOp .quo xt x y yt, ty, pos, aft, g⟩ (.int .i32 (a / b)) :=
  by
  have := ov_quo (P := P) (C := C) (hp := hp) (dst := dst) (ty := ty) (pos := pos) (aft := aft) (g := g) (xt := xt) (yt := yt) hx hy (by omega)
  have h4 : 0 ≤ a / b := Int.ediv_nonneg h1 (by omega)
  have h5 : a / b ≤ a := Int.ediv_le_self _ h1
  rw [Int.tdiv_eq_ediv_of_nonneg h1, wrap_in_i32 _ (by omega) (by omega)] at this; exact this
theorem ov_conv_i32 {st dt : TypeId} {sd : TypeDesc} {jk : IntKind} [TU P st sd] [TU P dt (.int .i32)] {x : Operand} {n : Int} (hx : ev fr x = some (.int jk n)) (h1 : -2147483648 ≤ n) (h2 : n ≤ 2147483647) : OV P C fr hp ⟨dst, .convert st dt x, ty, pos, aft, g⟩ (.int .i32 n) :=
  by have := ov_conv (P := P) (C := C) (hp := hp) (dst := dst) (ty := ty) (pos := pos) (aft := aft) (g := g) (st := st) (dt := dt) (sd := sd) (ik := .i32) hx; rw [wrap_in_i32 _ h1 h2] at this; exact this
theorem ov_add_u8 {xt yt : TypeId} {x y : Operand} {a b : Int} (hx : ev fr x = some (.int .u8 a)) (hy : ev fr y = some (.int .u8 b)) (h1 : 0 ≤ a + b) (h2 : a + b ≤ 255) : OV P C fr hp ⟨dst, .binOp .add xt x y yt, ty, pos, aft, g⟩ (.int .u8 (a + b)) :=
  by have := ov_addw (P := P) (C := C) (hp := hp) (dst := dst) (ty := ty) (pos := pos) (aft := aft) (g := g) (xt := xt) (yt := yt) hx hy; rw [wrap_in_u8 _ h1 h2] at this; exact this
theorem ov_sub_u8 {xt yt : TypeId} {x y : Operand} {a b : Int} (hx : ev fr x = some (.int .u8 a)) (hy : ev fr y = some (.int .u8 b)) (h1 : 0 ≤ a - b) (h2 : a - b ≤ 255) : OV P C fr hp ⟨dst, .binOp .sub xt x y yt, ty, pos, aft, g⟩ (.int .u8 (a - b)) :=
  by have := ov_subw (P := P) (C := C) (hp := hp) (dst := dst) (ty := ty) (pos := pos) (aft := aft) (g := g) (xt := xt) (yt := yt) hx hy; rw [wrap_in_u8 _ h1 h2] at this; exact this
theorem ov_mul_u8 {xt yt : TypeId} {x y : Operand} {a b : Int} (hx : ev fr x = some (.int .u8 a)) (hy : ev fr y = some (.int .u8 b)) (h1 : 0 ≤ a * b) (h2 : a * b ≤ 255) : OV P C fr hp ⟨dst, .binOp .mul xt x y yt, ty, pos, aft, g⟩ (.int .u8 (a * b)) :=
  by have := ov_mulw (P := P) (C := C) (hp := hp) (dst := dst) (ty := ty) (pos := pos) (aft := aft) (g := g) (xt := xt) (yt := yt) hx hy; rw [wrap_in_u8 _ h1 h2] at this; exact this
theorem ov_quo_u8 {xt yt : TypeId} {x y : Operand} {a b : Int} (hx : ev fr x = some (.int .u8 a)) (hy : ev fr y = some (.int .u8 b)) (h1 : 0 ≤ a) (h2 : a ≤ 255) (h3 : 0 < b) : OV P C fr hp ⟨dst, .binOp .quo xt x y yt, ty, pos, aft, g⟩ (.int .u8 (a / b)) :=
  by
  have := ov_quo (P := P) (C := C) (hp := hp) (dst := dst) (ty := ty) (pos := pos) (aft := aft) (g := g) (xt := xt) (yt := yt) hx hy (by omega)
  have h4 : 0 ≤ a / b := Int.ediv_nonneg h1 (by omega)
  have h5 : a / b ≤ a := Int.ediv_le_self _ h1
  rw [Int.tdiv_eq_ediv_of_nonneg h1, wrap_in_u8 _ (by omega) (by omega)] at this; exact this
theorem ov_conv_u8 {st dt : TypeId} {sd : TypeDesc} {jk : IntKind} [TU P st sd] [TU P dt (.int .u8)] {x : Operand} {n : Int} (hx : ev fr x = some (.int jk n)) (h1 : 0 ≤ n) (h2 : n ≤ 255) : OV P C fr hp ⟨dst, .convert st dt x, ty, pos, aft, g⟩ (.int .u8 n) :=
  by have := ov_conv (P := P) (C := C) (hp := hp) (dst := dst) (ty := ty) (pos := pos) (aft := aft) (g := g) (st := st) (dt := dt) (sd := sd) (ik := .u8) hx; rw [wrap_in_u8 _ h1 h2] at this; exact this
theorem ov_add_u32 {xt yt : TypeId} {x y : Operand} {a b : Int} (hx : ev fr x = some (.int .u32 a)) (hy : ev fr y = some (.int .u32 b)) (h1 : 0 ≤ a + b) (h2 : a + b ≤ 4294967295) : OV P C fr hp ⟨dst, .binOp .add xt x y yt, ty, pos, aft, g⟩ (.int .u32 (a + b)) :=
  by have := ov_addw (P := P) (C := C) (hp := hp) (dst := dst) (ty := ty) (pos := pos) (aft := aft) (g := g) (xt := xt) (yt := yt) hx hy; rw [wrap_in_u32 _ h1 h2] at this; exact this
theorem ov_sub_u32 {xt yt : TypeId} {x y : Operand} {a b : Int} (hx : ev fr x = some (.int .u32 a)) (hy : ev fr y = some (.int .u32 b)) (h1 : 0 ≤ a - b) (h2 : a - b ≤ 4294967295) : OV P C fr hp ⟨dst, .binOp .sub xt x y yt, ty, pos, aft, g⟩ (.int .u32 (a - b)) :=
  by have := ov_subw (P := P) (C := C) (hp := hp) (dst := dst) (ty := ty) (pos := pos) (aft := aft) (g := g) (xt := xt) (yt := yt) hx hy; rw [wrap_in_u32 _ h1 h2] at this; exact this
theorem ov_mul_u32 {xt yt : TypeId} {x y : Operand} {a b : Int} (hx : ev fr x = some (.int .u32 a)) (hy : ev fr y = some (.int .u32 b)) (h1 : 0 ≤ a * b) (h2 : a * b ≤ 4294967295) : OV P C fr hp ⟨dst, .binOp .mul xt x y yt, ty, pos, aft, g⟩ (.int .u32 (a * b)) :=
  by have := ov_mulw (P := P) (C := C) (hp := hp) (dst := dst) (ty := ty) (pos := pos) (aft := aft) (g := g) (xt := xt) (yt := yt) hx hy; rw [wrap_in_u32 _ h1 h2] at this; exact this
theorem ov_quo_u32 {xt yt : TypeId} {x y : Operand} {a b : Int} (hx : ev fr x = some (.int .u32 a)) (hy : ev fr y = some (.int .u32 b)) (h1 : 0 ≤ a) (h2 : a ≤ 4294967295) (h3 : 0 < b) : OV P C fr hp ⟨dst, .binOp .quo xt x y yt, ty, pos, aft, g⟩ (.int .u32 (a / b)) :=
  by
  have := ov_quo (P := P) (C := C) (hp := hp) (dst := dst) (ty := ty) (pos := pos) (aft := aft) (g := g) (xt := xt) (yt := yt) hx hy (by omega)
  have h4 : 0 ≤ a / b := Int.ediv_nonneg h1 (by omega)
  have h5 : a / b ≤ a := Int.ediv_le_self _ h1
  rw [Int.tdiv_eq_ediv_of_nonneg h1, wrap_in_u32 _ (by omega) (by omega)] at this; exact this
theorem ov_conv_u32 {st dt : TypeId} {sd : TypeDesc} {jk : IntKind} [TU P st sd] [TU P dt (.int .u32)] {x : Operand} {n : Int} (hx : ev fr x = some (.int jk n)) (h1 : 0 ≤ n) (h2 : n ≤ 4294967295) : OV P C fr hp ⟨dst, .convert st dt x, ty, pos, aft, g⟩ (.int .u32 n) :=
  by have := ov_conv (P := P) (C := C) (hp := hp) (dst := dst) (ty := ty) (pos := pos) (aft := aft) (g := g) (st := st) (dt := dt) (sd := sd) (ik := .u32) hx; rw [wrap_in_u32 _ h1 h2] at this; exact this
theorem ov_add_u64 {xt yt : TypeId} {x y : Operand} {a b : Int} (hx : ev fr x = some (.int .u64 a)) (hy : ev fr y = some (.int .u64 b)) (h1 : 0 ≤ a + b) (h2 : a + b ≤ 18446744073709551615) : OV P C fr hp ⟨dst, .binOp .add xt x y yt, ty, pos, aft, g⟩ (.int .u64 (a + b)) :=
  by have := ov_addw (P := P) (C := C) (hp := hp) (dst := dst) (ty := ty) (pos := pos) (aft := aft) (g := g) (xt := xt) (yt := yt) hx hy; rw [wrap_in_u64 _ h1 h2] at this; exact this
theorem ov_sub_u64 {xt yt : TypeId} {x y : Operand} {a b : Int} (hx : ev fr x = some (.int .u64 a)) (hy : ev fr y = some (.int .u64 b)) (h1 : 0 ≤ a - b) (h2 : a - b ≤ 18446744073709551615) : OV P C fr hp ⟨dst, .binOp .sub xt x y yt, ty, pos, aft, g⟩ (.int .u64 (a - b)) :=
  by have := ov_subw (P := P) (C := C) (hp := hp) (dst := dst) (ty := ty) (pos := pos) (aft := aft) (g := g) (xt := xt) (yt := yt) hx hy; rw [wrap_in_u64 _ h1 h2] at this; exact this
theorem ov_mul_u64 {xt yt : TypeId} {x y : Operand} {a b : Int} (hx : ev fr x = some (.int .u64 a)) (hy : ev fr y = some (.int .u64 b)) (h1 : 0 ≤ a * b) (h2 : a * b ≤ 18446744073709551615) : OV P C fr hp ⟨dst, .binOp .mul xt x y yt, ty, pos, aft, g⟩ (.int .u64 (a * b)) :=
  by have := ov_mulw (P := P) (C := C) (hp := hp) (dst := dst) (ty := ty) (pos := pos) (aft := aft) (g := g) (xt := xt) (yt := yt) hx hy; rw [wrap_in_u64 _ h1 h2] at this; exact this
theorem ov_quo_u64 {xt yt : TypeId} {x y : Operand} {a b : Int} (hx : ev fr x = some (.int .u64 a)) (hy : ev fr y = some (.int .u64 b)) (h1 : 0 ≤ a) (h2 : a ≤ 18446744073709551615) (h3 : 0 < b) : OV P C fr hp ⟨dst, .binOp .quo xt x y yt, ty, pos, aft, g⟩ (.int .u64 (a / b)) :=
  by
  have := ov_quo (P := P) (C := C) (hp := hp) (dst := dst) (ty := ty) (pos := pos) (aft := aft) (g := g) (xt := xt) (yt := yt) hx hy (by omega)
  have h4 : 0 ≤ a / b := Int.ediv_nonneg h1 (by omega)
  have h5 : a / b ≤ a := Int.ediv_le_self _ h1
  rw [Int.tdiv_eq_ediv_of_nonneg h1, wrap_in_u64 _ (by omega) (by omega)] at this; exact this
theorem ov_conv_u64 {st dt : TypeId} {sd : TypeDesc} {jk : IntKind} [TU P st sd] [TU P dt (.int .u64)] {x : Operand} {n : Int} (hx : ev fr x = some (.int jk n)) (h1 : 0 ≤ n) (h2 : n ≤ 18446744073709551615) : OV P C fr hp ⟨dst, .convert st dt x, ty, pos, aft, g⟩ (.int .u64 n) :=
  by have := ov_conv (P := P) (C := C) (hp := hp) (dst := dst) (ty := ty) (pos := pos) (aft := aft) (g := g) (st := st) (dt := dt) (sd := sd) (ik := .u64) hx; rw [wrap_in_u64 _ h1 h2] at this; exact this
theorem ov_quo_i64 {xt yt : TypeId} {x y : Operand} {a b : Int} (hx : ev fr x = some (.int .i64 a)) (hy : ev fr y = some (.int .i64 b)) (h1 : 0 ≤ a) (h2 : a ≤ 9223372036854775807) (h3 : 0 < b) : OV P C fr hp ⟨dst, .binOp .quo xt x y yt, ty, pos, aft, g⟩ (.int .i64 (a / b)) :=
  by
  have := ov_quo (P := P) (C := C) (hp := hp) (dst := dst) (ty := ty) (pos := pos) (aft := aft) (g := g) (xt := xt) (yt := yt) hx hy (by omega)
  have h4 : 0 ≤ a / b := Int.ediv_nonneg h1 (by omega)
  have h5 : a / b ≤ a := Int.ediv_le_self _ h1
  rw [Int.tdiv_eq_ediv_of_nonneg h1, wrap_in _ (by omega) (by omega)] at this; exact this
theorem ov_conv_i64 {st dt : TypeId} {sd : TypeDesc} {jk : IntKind} [TU P st sd] [TU P dt (.int .i64)] {x : Operand} {n : Int} (hx : ev fr x = some (.int jk n)) (h1 : -9223372036854775808 ≤ n) (h2 : n ≤ 9223372036854775807) : OV P C fr hp ⟨dst, .convert st dt x, ty, pos, aft, g⟩ (.int .i64 n) :=
  by have := ov_conv (P := P) (C := C) (hp := hp) (dst := dst) (ty := ty) (pos := pos) (aft := aft) (g := g) (st := st) (dt := dt) (sd := sd) (ik := .i64) hx; rw [wrap_in _ h1 h2] at this; exact this
theorem ov_rem_n {xt yt : TypeId} {x y : Operand} {ik : IntKind} {a b : Int} (hx : ev fr x = some (.int ik a)) (hy : ev fr y = some (.int ik b)) (h1 : 0 ≤ a) (h3 : 0 < b) : OV P C fr hp ⟨dst, .binOp .rem xt x y yt, ty, pos, aft, g⟩ (.int ik (a % b)) :=
  by have := ov_rem (P := P) (C := C) (hp := hp) (dst := dst) (ty := ty) (pos := pos) (aft := aft) (g := g) (xt := xt) (yt := yt) hx hy (by omega); rw [Int.tmod_eq_emod_of_nonneg h1] at this; exact this
/-! strings -/
/-- A text as a value. -/
abbrev S (s : List UInt8) : Value := .string ⟨⟨s⟩⟩
/-- The byte at a place. -/
def bt (s : List UInt8) (i : Int) : Int := ((s.getD i.toNat 0).toNat : Int)
theorem bt_bd (s : List UInt8) (i : Int) : 0 ≤ bt s i ∧ bt s i ≤ 255 := by unfold bt; have := (s.getD i.toNat 0).toNat_lt; omega
theorem size_mk (s : List UInt8) : (ByteArray.mk ⟨s⟩).size = s.length := rfl
theorem toList_mk (s : List UInt8) : (ByteArray.mk ⟨s⟩).toList = s := by rw [ByteArray.toList_eq]
theorem ov_len {t : TypeId} [TU P t .string] {x : Operand} {s : List UInt8} (hx : ev fr x = some (S s)) : OV P C fr hp ⟨dst, .call ⟨.builtin .len, #[x], #[t]⟩, ty, pos, aft, g⟩ (.int .i64 (s.length : Int)) :=
  ov_pure (fun r w hr => by simp [execOp, hr _ _ hx, resolve, invoke, builtin, Builtin.len_, underlying, TU.h (P := P) (t := t), goInt, size_mk])
theorem ov_index {t : TypeId} [TU P t .string] {x y : Operand} {s : List UInt8} {ik : IntKind} {i : Int} (hx : ev fr x = some (S s)) (hy : ev fr y = some (.int ik i)) (h0 : 0 ≤ i) (h1 : i < s.length) : OV P C fr hp ⟨dst, .index t x y, ty, pos, aft, g⟩ (.int .u8 (bt s i)) :=
  ov_pure (fun r w hr => by
    have h2 : i.toNat < s.length := by omega
    have h3 : (ByteArray.mk ⟨s⟩)[i.toNat]? = some (s.getD i.toNat 0) := by
      have h4 : i.toNat < (ByteArray.mk ⟨s⟩).size := h2
      rw [getElem?_pos (ByteArray.mk ⟨s⟩) i.toNat h4]
      congr 1
      show s[i.toNat] = _
      simp [List.getD, h2]
    simp [execOp, hr _ _ hx, hr _ _ hy, Instr.index, asIntOf, underlying, TU.h (P := P) (t := t), h0, h3, bt])
theorem ov_cat {xt yt : TypeId} {x y : Operand} {s u : List UInt8} (hx : ev fr x = some (S s)) (hy : ev fr y = some (S u)) (h1 : s.length + u.length ≤ 9223372036854775807) : OV P C fr hp ⟨dst, .binOp .add xt x y yt, ty, pos, aft, g⟩ (S (s ++ u)) :=
  ov_pure (fun r w hr => by
    have h2 : (ByteArray.mk ⟨s⟩) ++ (ByteArray.mk ⟨u⟩) = ByteArray.mk ⟨s ++ u⟩ := by apply ByteArray.ext; simp
    have h3 : (s.length : Int) + (u.length : Int) ≤ IntKind.i64.max := by show _ ≤ (9223372036854775807 : Int); omega
    have h4 : (s.length : Int) + (u.length : Int) ≤ 9223372036854775807 := by omega
    simp [execOp, hr _ _ hx, hr _ _ hy, eqGuard, binOp, Op.stringOp, size_mk, h2, h3, h4])
theorem ov_eqs {xt yt : TypeId} {x y : Operand} {s u : List UInt8} (hx : ev fr x = some (S s)) (hy : ev fr y = some (S u)) : OV P C fr hp ⟨dst, .binOp .eql xt x y yt, ty, pos, aft, g⟩ (.bool (decide (s = u))) :=
  ov_pure (fun r w hr => by
    have : (s == u) = decide (s = u) := by by_cases h : s = u <;> simp [h]
    simp [execOp, hr _ _ hx, hr _ _ hy, eqGuard, binOp, Op.stringOp, toList_mk, this])
theorem ov_nes {xt yt : TypeId} {x y : Operand} {s u : List UInt8} (hx : ev fr x = some (S s)) (hy : ev fr y = some (S u)) : OV P C fr hp ⟨dst, .binOp .neq xt x y yt, ty, pos, aft, g⟩ (.bool (!decide (s = u))) :=
  ov_pure (fun r w hr => by
    have : (s == u) = decide (s = u) := by by_cases h : s = u <;> simp [h]
    simp [execOp, hr _ _ hx, hr _ _ hy, eqGuard, binOp, Op.stringOp, toList_mk, this])
theorem extract_mk (s : List UInt8) (a b : Nat) : (ByteArray.mk ⟨s⟩).extract a b = ByteArray.mk ⟨(s.drop a).take (b - a)⟩ := by
  apply ByteArray.ext; rw [ByteArray.data_extract]; apply Array.toList_inj.1; rw [Array.toList_extract, List.extract_eq_take_drop]
theorem ov_slice {t : TypeId} [TU P t .string] {x y z : Operand} {s : List UInt8} {ik jk : IntKind} {i j : Int} (hx : ev fr x = some (S s)) (hy : ev fr y = some (.int ik i)) (hz : ev fr z = some (.int jk j)) (h0 : 0 ≤ i) (h1 : i ≤ j) (h2 : j ≤ s.length) : OV P C fr hp ⟨dst, .slice t x (some y) (some z) none, ty, pos, aft, g⟩ (S ((s.drop i.toNat).take (j - i).toNat)) :=
  ov_pure (fun r w hr => by
    have h3 : j.toNat - i.toNat = (j - i).toNat := by omega
    have h4 : 0 ≤ j := by omega
    have h5 : i ≤ max j 0 := by omega
    simp [execOp, hr _ _ hx, hr _ _ hy, hr _ _ hz, Instr.sliceAt, Instr.slice, Instr.sliceBounds, Instr.sliceBound, asIntOf, underlying, TU.h (P := P) (t := t), size_mk, h0, h1, h2, h4, h5, extract_mk, h3])
theorem ov_slice_lo {t : TypeId} [TU P t .string] {x y : Operand} {s : List UInt8} {ik : IntKind} {i : Int} (hx : ev fr x = some (S s)) (hy : ev fr y = some (.int ik i)) (h0 : 0 ≤ i) (h1 : i ≤ s.length) : OV P C fr hp ⟨dst, .slice t x (some y) none none, ty, pos, aft, g⟩ (S (s.drop i.toNat)) :=
  ov_pure (fun r w hr => by
    have h3 : (s.drop i.toNat).take (s.length - i.toNat) = s.drop i.toNat := by apply List.take_of_length_le; simp
    simp [execOp, hr _ _ hx, hr _ _ hy, Instr.sliceAt, Instr.slice, Instr.sliceBounds, Instr.sliceBound, asIntOf, underlying, TU.h (P := P) (t := t), size_mk, h0, h1, extract_mk, h3])
theorem ov_slice_hi {t : TypeId} [TU P t .string] {x z : Operand} {s : List UInt8} {jk : IntKind} {j : Int} (hx : ev fr x = some (S s)) (hz : ev fr z = some (.int jk j)) (h1 : 0 ≤ j) (h2 : j ≤ s.length) : OV P C fr hp ⟨dst, .slice t x none (some z) none, ty, pos, aft, g⟩ (S (s.take j.toNat)) :=
  ov_pure (fun r w hr => by
    simp [execOp, hr _ _ hx, hr _ _ hz, Instr.sliceAt, Instr.slice, Instr.sliceBounds, Instr.sliceBound, asIntOf, underlying, TU.h (P := P) (t := t), size_mk, h1, h2, extract_mk])
/-! results of calls, parts of structs -/
theorem ov_extract {x : Operand} {vs : List Value} {i : Nat} {v : Value} (hx : ev fr x = some (.tuple ⟨vs⟩)) (hi : vs[i]? = some v) : OV P C fr hp ⟨dst, .extract x i, ty, pos, aft, g⟩ v :=
  ov_pure (fun r w hr => by simp [execOp, hr _ _ hx, Instr.extract, hi])
/-- Several operands at once. -/
def evs (fr : Fr) : List Operand → Option (List Value)
  | [] => some []
  | x :: r => match ev fr x, evs fr r with
    | some v, some vs => some (v :: vs)
    | _, _ => none
theorem FrOk.evs {n : Nat} {fr : Fr} {a : Act} (h : FrOk n fr a) : ∀ {xs : List Operand} {vs : List Value}, evs fr xs = some vs → xs.map a.eval = vs
  | [], vs, hx => by have := Option.some.inj hx; subst this; rfl
  | x :: r, vs, hx => by
    unfold Go.Proofs.Yteddjadeenimkaa.evs at hx
    split at hx
    · rename_i v us h1 h2
      have := Option.some.inj hx; subst this
      rw [List.map_cons, h.ev h1, h.evs h2]
    · cases hx
theorem evs_map {r : Operand → Value} (h : ∀ x u, ev fr x = some u → r x = u) : ∀ {xs : List Operand} {vs : List Value}, evs fr xs = some vs → xs.map r = vs
  | [], vs, hx => by have := Option.some.inj hx; subst this; rfl
  | x :: l, vs, hx => by
    unfold evs at hx
    split at hx
    · rename_i v us h1 h2
      have := Option.some.inj hx; subst this
      rw [List.map_cons, h _ _ h1, evs_map h h2]
    · cases hx
theorem sy_callw {f : FuncId} {fn : Func} [hfn : FN P f fn] {args : List Operand} {ats : Array TypeId} {vs : List Value} {R : Ending → World → Prop} (hx : evs fr args = some vs) (hf : Fits C.n dst)
    (hc : ∀ w, HpOk C.D C.w0 hp w → Calls P f vs.toArray w R)
    (hk : ∀ w w', HpOk C.D C.w0 hp w → ∀ e, R e w' → ∃ v hp', e = .returned v ∧ HpOk C.D C.w0 hp' w' ∧ Sy P C (.o all l :: k) (put dst v fr) hp') : Sy P C (.o all (⟨dst, .call ⟨.value (.func f), ⟨args⟩, ats⟩, ty, pos, aft, none⟩ :: l) :: k) fr hp :=
  sy_op rfl fun a w ha hw => by
    unfold Oper.wp
    have h1 : ¬ fn.name = "runtime.NumGoroutine" := by simpa using hfn.name
    have h2 : ¬ fn.body = none := by have := hfn.body; cases hx : fn.body <;> simp_all
    have hr : (execOp a.eval ⟨dst, .call ⟨.value (.func f), ⟨args⟩, ats⟩, ty, pos, aft, none⟩).run P w = .ok (.enter f vs.toArray) w := by
      unfold execOp
      simp [resolve, Deferred.ofValue, invoke, callFunc, hfn.h, h1, h2, Act.eval, ha.evs hx]
    rw [hr]
    refine (hc w hw).mono fun e w' he => ?_
    obtain ⟨v, hp', rfl, hw', hs⟩ := hk w w' hw e he
    exact hs.go _ _ (ha.put hf v) hw'
theorem ov_call {f : FuncId} {fn : Func} [hfn : FN P f fn] {args : List Operand} {ats : Array TypeId} {vs : List Value} {v : Value} (hx : evs fr args = some vs)
    (hc : ∀ w, HpOk C.D C.w0 hp w → Calls P f vs.toArray w fun e w' => e = .returned v ∧ Below w.heap.size w w') : OV P C fr hp ⟨dst, .call ⟨.value (.func f), ⟨args⟩, ats⟩, ty, pos, aft, g⟩ v :=
  .mk fun r w hr hw => by
    have h1 : ¬ fn.name = "runtime.NumGoroutine" := by simpa using hfn.name
    have h2 : ¬ fn.body = none := by have := hfn.body; cases hx : fn.body <;> simp_all
    have h3 : r (.func f) = .func (.func f) #[] #[] := hr _ _ rfl
    have he : (execOp r ⟨dst, .call ⟨.value (.func f), ⟨args⟩, ats⟩, ty, pos, aft, g⟩).run P w = .ok (.enter f vs.toArray) w := by
      unfold execOp
      simp [resolve, Deferred.ofValue, invoke, callFunc, hfn.h, h1, h2, h3, evs_map hr hx]
    rw [he]
    exact (hc w hw).mono fun e w' he => ⟨he.1, hw.step he.2⟩
/-- A callee that works on a piece of the caller's memory, at place i. -/
theorem sy_call1 {f : FuncId} {fn : Func} [hfn : FN P f fn] {args : List Operand} {ats : Array TypeId} {vs : List Value} {R : Value → En → Prop} (i : Nat) {e : En} (hx : evs fr args = some vs) (hi : hp[i]? = some e) (hf : Fits C.n dst)
    (hc : ∀ w, HpOk C.D C.w0 hp w → e.holds w → (∀ b, e.dom b → b < w.heap.size) → Calls P f vs.toArray w fun x w' => ∃ v e', R v e' ∧ x = .returned v ∧ e'.holds w' ∧ Keep e.dom w w' ∧ ∀ b, e'.dom b → b < w'.heap.size ∧ (e.dom b ∨ w.heap.size ≤ b))
    (hk : ∀ v e', R v e' → Sy P C (.o all l :: k) (put dst v fr) (hp.set i e')) : Sy P C (.o all (⟨dst, .call ⟨.value (.func f), ⟨args⟩, ats⟩, ty, pos, aft, none⟩ :: l) :: k) fr hp :=
  sy_callw hx hf (R := fun x w' => ∃ w, HpOk C.D C.w0 hp w ∧ ∃ v e', R v e' ∧ x = .returned v ∧ e'.holds w' ∧ Keep e.dom w w' ∧ ∀ b, e'.dom b → b < w'.heap.size ∧ (e.dom b ∨ w.heap.size ≤ b))
    (fun w hw => (hc w hw (hw.get hi).1 (fun b hb => ((hw.get hi).2 b hb).2)).mono fun x w' h => ⟨w, hw, h⟩)
    fun _ w' _ x ⟨w, hw, v, e', hR, hx', hh, hkp, hd⟩ => ⟨v, _, hx', hw.regrow hi hh hkp hd, hk v e' hR⟩
/-- A callee whose result lies in new memory. -/
theorem sy_calln {f : FuncId} {fn : Func} [hfn : FN P f fn] {args : List Operand} {ats : Array TypeId} {vs : List Value} {R : Value → En → Prop} (hx : evs fr args = some vs) (hf : Fits C.n dst)
    (hc : ∀ w, HpOk C.D C.w0 hp w → Calls P f vs.toArray w fun x w' => ∃ v e', R v e' ∧ x = .returned v ∧ e'.holds w' ∧ Below w.heap.size w w' ∧ ∀ b, e'.dom b → w.heap.size ≤ b ∧ b < w'.heap.size)
    (hk : ∀ v e', R v e' → Sy P C (.o all l :: k) (put dst v fr) (e' :: hp)) : Sy P C (.o all (⟨dst, .call ⟨.value (.func f), ⟨args⟩, ats⟩, ty, pos, aft, none⟩ :: l) :: k) fr hp :=
  sy_callw hx hf (R := fun x w' => ∃ w, HpOk C.D C.w0 hp w ∧ ∃ v e', R v e' ∧ x = .returned v ∧ e'.holds w' ∧ Below w.heap.size w w' ∧ ∀ b, e'.dom b → w.heap.size ≤ b ∧ b < w'.heap.size)
    (fun w hw => (hc w hw).mono fun x w' h => ⟨w, hw, h⟩)
    fun _ w' _ x ⟨w, hw, v, e', hR, hx', hh, hb, hd⟩ => ⟨v, _, hx', hw.fresh hb e' hh hd, hk v e' hR⟩
end
end Go.Proofs.Yteddjadeenimkaa
