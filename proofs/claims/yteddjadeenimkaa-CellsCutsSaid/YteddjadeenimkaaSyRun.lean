/- A symbolic walk: what asks for nothing is gone through at once. -/
import Derived.Test.YteddjadeenimkaaSySl
import Derived.Test.YteddjadeenimkaaSyDraw
set_option linter.unusedVariables false
set_option linter.unusedSimpArgs false
namespace Go.Proofs.Yteddjadeenimkaa
open Go.RowKit

/-- Two numbers, two texts. -/
def binP : BinOp → Value → Value → Option Value
  | .lss, .int k a, .int k' b => if k = k' then some (.bool (decide (a < b))) else none
  | .leq, .int k a, .int k' b => if k = k' then some (.bool (decide (a ≤ b))) else none
  | .gtr, .int k a, .int k' b => if k = k' then some (.bool (decide (b < a))) else none
  | .geq, .int k a, .int k' b => if k = k' then some (.bool (decide (b ≤ a))) else none
  | .eql, .int k a, .int k' b => if k = k' then some (.bool (decide (a = b))) else none
  | .neq, .int k a, .int k' b => if k = k' then some (.bool (!decide (a = b))) else none
  | .eql, .string ⟨⟨a⟩⟩, .string ⟨⟨b⟩⟩ => some (.bool (decide (a = b)))
  | .neq, .string ⟨⟨a⟩⟩, .string ⟨⟨b⟩⟩ => some (.bool (!decide (a = b)))
  | _, _, _ => none
/-- The value of an operation that asks for nothing. -/
def valP (fr : Fr) : Op → Option Value
  | .move x => ev fr x
  | .assign x => ev fr x
  | .extract x i => match ev fr x with
    | some (.tuple ⟨vs⟩) => vs[i]?
    | _ => none
  | .binOp op _ x y _ => match ev fr x, ev fr y with
    | some u, some v => binP op u v
    | _, _ => none
  | .unOp .not _ x => match ev fr x with
    | some (.bool b) => some (.bool (!b))
    | _ => none
  | .nilCheck x => match ev fr x with
    | some (.pointer (some p)) => some (.pointer (some p))
    | _ => none
  | _ => none
section
variable {P : Program} {C : Cx} {k : List It} {fr : Fr} {hp : List En} {all : Array Oper}
theorem ov_p {o : Oper} {v : Value} (h : valP fr o.op = some v) : OV P C fr hp o v := by
  obtain ⟨dst, op, ty, pos, aft, g⟩ := o
  simp only at h
  cases op <;> simp only [valP, reduceCtorEq] at h
  case move x => exact ov_move h
  case assign x => exact ov_assign h
  case nilCheck x =>
    split at h
    · rename_i p hx; cases h; exact ov_nilCheck hx
    · cases h
  case extract x i =>
    split at h
    · rename_i vs hx; exact ov_extract hx h
    · cases h
  case unOp op t x =>
    cases op <;> simp only [valP, reduceCtorEq] at h
    split at h
    · rename_i b hx; cases h; exact ov_not hx
    · cases h
  case binOp op xt x y yt =>
    split at h
    · rename_i u w hx hy
      unfold binP at h
      split at h
      · split at h
        · rename_i hk; cases h; subst hk; exact ov_lt hx hy
        · cases h
      · split at h
        · rename_i hk; cases h; subst hk; exact ov_le hx hy
        · cases h
      · split at h
        · rename_i hk; cases h; subst hk; exact ov_gt hx hy
        · cases h
      · split at h
        · rename_i hk; cases h; subst hk; exact ov_ge hx hy
        · cases h
      · split at h
        · rename_i hk; cases h; subst hk; exact ov_eq hx hy
        · cases h
      · split at h
        · rename_i hk; cases h; subst hk; exact ov_ne hx hy
        · cases h
      · cases h; exact ov_eqs hx hy
      · cases h; exact ov_nes hx hy
      · cases h
    · cases h
/-- A kind of number and its bounds. -/
class IK (k : IntKind) (lo hi : outParam Int) : Prop where
  h : ∀ n, lo ≤ n → n ≤ hi → k.wrap n = n
  pos : 0 ≤ hi
  neg : lo ≤ 0
instance : IK .i64 (-9223372036854775808) 9223372036854775807 := ⟨wrap_in, by omega, by omega⟩
instance : IK .i32 (-2147483648) 2147483647 := ⟨wrap_in_i32, by omega, by omega⟩
instance : IK .u8 0 255 := ⟨wrap_in_u8, by omega, by omega⟩
instance : IK .u32 0 4294967295 := ⟨wrap_in_u32, by omega, by omega⟩
instance : IK .u64 0 18446744073709551615 := ⟨wrap_in_u64, by omega, by omega⟩
def ar : BinOp → Int → Int → Option Int
  | .add, a, b => some (a + b)
  | .sub, a, b => some (a - b)
  | .mul, a, b => some (a * b)
  | _, _, _ => none
variable {dst : Option Tmp} {ty : TypeId} {pos : String} {aft : Array Edge} {g : Option (Nat × Bool)}
theorem ov_ar {op : BinOp} {xt yt : TypeId} {x y : Operand} {ik : IntKind} {a b n lo hi : Int} [IK ik lo hi] (hx : ev fr x = some (.int ik a)) (hy : ev fr y = some (.int ik b)) (hn : ar op a b = some n) (h1 : lo ≤ n) (h2 : n ≤ hi) :
    OV P C fr hp ⟨dst, .binOp op xt x y yt, ty, pos, aft, g⟩ (.int ik n) := by
  have hw := IK.h (k := ik) n h1 h2
  cases op <;> simp only [ar, reduceCtorEq, Option.some.injEq] at hn <;> subst hn
  · have := ov_addw (P := P) (C := C) (hp := hp) (dst := dst) (ty := ty) (pos := pos) (aft := aft) (g := g) (xt := xt) (yt := yt) hx hy; rw [hw] at this; exact this
  · have := ov_subw (P := P) (C := C) (hp := hp) (dst := dst) (ty := ty) (pos := pos) (aft := aft) (g := g) (xt := xt) (yt := yt) hx hy; rw [hw] at this; exact this
  · have := ov_mulw (P := P) (C := C) (hp := hp) (dst := dst) (ty := ty) (pos := pos) (aft := aft) (g := g) (xt := xt) (yt := yt) hx hy; rw [hw] at this; exact this
theorem ov_quok {xt yt : TypeId} {x y : Operand} {ik : IntKind} {a b lo hi : Int} [IK ik lo hi] (hx : ev fr x = some (.int ik a)) (hy : ev fr y = some (.int ik b)) (h1 : 0 ≤ a) (h2 : a ≤ hi) (h3 : 0 < b) : OV P C fr hp ⟨dst, .binOp .quo xt x y yt, ty, pos, aft, g⟩ (.int ik (a / b)) := by
  have := ov_quo (P := P) (C := C) (hp := hp) (dst := dst) (ty := ty) (pos := pos) (aft := aft) (g := g) (xt := xt) (yt := yt) hx hy (by omega)
  have h4 : 0 ≤ a / b := Int.ediv_nonneg h1 (by omega)
  have h5 : a / b ≤ a := Int.ediv_le_self _ h1
  have h6 := IK.neg (k := ik)
  rw [Int.tdiv_eq_ediv_of_nonneg h1, IK.h (k := ik) _ (by omega) (by omega)] at this; exact this
theorem ov_convk {st dt : TypeId} {sd : TypeDesc} {ik jk : IntKind} {lo hi : Int} [TU P st sd] [TU P dt (.int ik)] [IK ik lo hi] {x : Operand} {n : Int} (hx : ev fr x = some (.int jk n)) (h1 : lo ≤ n) (h2 : n ≤ hi) : OV P C fr hp ⟨dst, .convert st dt x, ty, pos, aft, g⟩ (.int ik n) := by
  have := ov_conv (P := P) (C := C) (hp := hp) (dst := dst) (ty := ty) (pos := pos) (aft := aft) (g := g) (st := st) (dt := dt) (sd := sd) (ik := ik) hx; rw [IK.h (k := ik) _ h1 h2] at this; exact this
/-- What is read: a cell, or so many. -/
def ldV (ag : Bool) (cs : List Value) (off n : Nat) : Option Value :=
  bif ag then (bif Nat.ble (off + n) cs.length then some (.agg ⟨(cs.drop off).take n⟩) else none) else cs[off]?
theorem ov_ld {t : TypeId} {d : TypeDesc} {ti : TypeInfo} [hd : TU P t d] [hti : TI P t ti] {x : Operand} (i : Nat) {b off : Nat} {e : TypeId} {cs : List Value} {v : Value} (hx : ev fr x = some (.pointer (some ⟨b, off, none⟩))) (hi : hp[i]? = some (blk b e cs)) (hv : ldV (isAggD d) cs off ti.size = some v) :
    OV P C fr hp ⟨dst, .load t x, ty, pos, aft, g⟩ v := by
  unfold ldV at hv
  cases ha : isAggD d with
  | false => rw [ha] at hv; exact ov_load i hx hi ha hv
  | true =>
    rw [ha] at hv
    cases hn : Nat.ble (off + ti.size) cs.length with
    | false => rw [hn] at hv; cases hv
    | true => rw [hn] at hv; cases hv; exact ov_loada i hx hi ha hn
/-- Where leaving a block leads. -/
def exitTo' (id : Nat) : List It → Option (List It)
  | [] => none
  | .blk id' :: k => bif Nat.beq id id' then some k else exitTo' id k
  | .c _ :: k => exitTo' id k
  | .o _ _ :: k => exitTo' id k
  | .back _ :: k => exitTo' id k
theorem leave_exit {id : Nat} : ∀ {k k' : List It}, exitTo' id k = some k' → Sy P C k' fr hp → Leave P C (.exit id) k fr hp
  | [], _, h, _ => by cases h
  | .blk id' :: k, k', h, hs => by
    unfold exitTo' at h
    cases hb : Nat.beq id id' with
    | true => rw [hb] at h; cases h; have := Nat.eq_of_beq_eq_true hb; subst this; exact leave_blk hs
    | false => rw [hb] at h; exact leave_blk_ne hb (leave_exit h hs)
  | .c _ :: k, k', h, hs => leave_c (leave_exit (k := k) h hs)
  | .o _ _ :: k, k', h, hs => leave_o (leave_exit (k := k) h hs)
  | .back _ :: k, k', h, hs => leave_back (leave_exit (k := k) h hs)
theorem leave_ret : ∀ {k : List It}, Leave P C .ret [] fr hp → Leave P C .ret k fr hp
  | [], h => h
  | .blk _ :: k, h => ret_blk (leave_ret h)
  | .c _ :: k, h => ret_c (leave_ret h)
  | .o _ _ :: k, h => ret_o (leave_ret h)
  | .back _ :: k, h => ret_back (leave_ret h)
/-- A step of the text's form. -/
def stepK : List It → Option (List It)
  | .o _ [] :: k => some k
  | .blk _ :: k => some k
  | .c (.seq x y) :: k => some (.c x :: .c y :: k)
  | .c (.region _ ⟨l⟩ false) :: k => some (.o ⟨l⟩ l :: k)
  | .c .skip :: k => some k
  | .c (.label _) :: k => some k
  | .c (.block id x) :: k => some (.c x :: .blk id :: k)
  | .c (.exit id) :: k => exitTo' id k
  | _ => none
def stepsK : Nat → List It → Option (List It)
  | 0, k => some k
  | m + 1, k => match stepK k with
    | some k' => stepsK m k'
    | none => some k
theorem sy_step {k k' : List It} (h : stepK k = some k') (hk : Sy P C k' fr hp) : Sy P C k fr hp := by
  unfold stepK at h
  split at h
  · cases h; exact sy_end hk
  · cases h; exact sy_blk hk
  · cases h; exact sy_seq hk
  · cases h; exact sy_region hk
  · cases h; exact sy_skip hk
  · cases h; exact sy_label hk
  · cases h; exact sy_block hk
  · exact sy_exit (leave_exit h hk)
  · cases h
theorem sy_steps : ∀ {m : Nat} {k k' : List It}, stepsK m k = some k' → Sy P C k' fr hp → Sy P C k fr hp
  | 0, k, k', h, hk => by cases h; exact hk
  | m + 1, k, k', h, hk => by
    unfold stepsK at h
    split at h
    · rename_i hs; exact sy_step hs (sy_steps h hk)
    · cases h; exact hk
theorem sy_k {k1 k' : List It} (h : stepK k = some k1) (h1 : stepsK 40 k1 = some k') (hk : Sy P C k' fr hp) : Sy P C k fr hp := sy_step h (sy_steps h1 hk)
theorem sy_rt (h : Leave P C .ret [] fr hp) : Sy P C (.c .ret :: k) fr hp := sy_ret (leave_ret h)
end
end Go.Proofs.Yteddjadeenimkaa
