/- A symbolic walk: '==' between structs of numbers, bools and texts, structs of these among them. -/
import Derived.Test.YteddjadeenimkaaSySl
import Derived.Laws.StructEq
set_option linter.unusedVariables false
set_option linter.unusedSimpArgs false
namespace Go.Proofs.Yteddjadeenimkaa
open Go.RowKit

inductive Kd where
  | b
  | i (k : IntKind)
  | s
  deriving DecidableEq
def kdOf (d : TypeDesc) : Option Kd := match d with
  | .bool => some .b
  | .int k => some (.i k)
  | .string => some .s
  | _ => none
def fitK : Kd → Value → Bool
  | .b, .bool _ => true
  | .i k, .int k' _ => decide (k = k')
  | .s, .string _ => true
  | _, _ => false
def eqC : Value → Value → Bool
  | .bool a, .bool b => a == b
  | .int _ a, .int _ b => decide (a = b)
  | .string a, .string b => decide (a.data.toList = b.data.toList)
  | _, _ => false
def eqL : List Value → List Value → Bool
  | [], [] => true
  | x :: xs, y :: ys => eqC x y && eqL xs ys
  | _, _ => false
def fitL : List Kd → List Value → Bool
  | [], [] => true
  | k :: ks, v :: vs => fitK k v && fitL ks vs
  | _, _ => false
/-- The cells' kinds of a type, so deep. -/
def kindsF (P : Program) (kinds : TypeId → Option (List Kd)) : List Field → Nat → Option (List Kd)
  | [], _ => some []
  | f :: r, off => if (f.name == "_") || !(Nat.beq f.offset off) then none else
    match kinds f.type with
    | none => none
    | some ks => if Nat.beq (P.cellsOf f.type) ks.length && (P.info? f.type).isSome then (kindsF P kinds r (off + ks.length)).map (ks ++ ·) else none
def kinds (P : Program) : Nat → TypeId → Option (List Kd)
  | 0, _ => none
  | n + 1, t => match P.underlying t with
    | none => none
    | some (.struct fs) => if P.stoodInHeld t then none else kindsF P (kinds P n) fs.toList 0
    | some d => (kdOf d).map fun k => [k]
/-- A value out of its cells, as its type has it. -/
def ofCells (P : Program) (t : TypeId) (cs : List Value) : Value := if aggB P t then .agg ⟨cs⟩ else cs.headD default
theorem eqL_append : ∀ (a b c d : List Value), a.length = b.length → eqL (a ++ c) (b ++ d) = (eqL a b && eqL c d)
  | [], [], c, d, _ => by simp [eqL]
  | x :: a, y :: b, c, d, h => by simp only [List.cons_append, eqL]; rw [eqL_append a b c d (by simpa using h), Bool.and_assoc]
theorem fitL_len : ∀ {ks : List Kd} {vs : List Value}, fitL ks vs = true → vs.length = ks.length
  | [], [], _ => rfl
  | k :: ks, v :: vs, h => by simp only [fitL, Bool.and_eq_true] at h; simp [fitL_len h.2]
theorem fitL_split : ∀ {ks rs : List Kd} {vs : List Value}, fitL (ks ++ rs) vs = true → fitL ks (vs.take ks.length) = true ∧ fitL rs (vs.drop ks.length) = true
  | [], rs, vs, h => by simpa [fitL] using h
  | k :: ks, rs, [], h => by simp [fitL] at h
  | k :: ks, rs, v :: vs, h => by
    simp only [List.cons_append, fitL, Bool.and_eq_true] at h
    have := fitL_split h.2
    simp only [List.length_cons, List.take_succ_cons, List.drop_succ_cons, fitL, Bool.and_eq_true]
    exact ⟨⟨h.1, this.1⟩, this.2⟩
theorem run_part {P : Program} {t : TypeId} {d : TypeDesc} {w : World} (hd : P.underlying t = some d) (hi : (P.info? t).isSome = true) (xs : List Value) (off : Nat) (hn : P.cellsOf t = ((xs.drop off).take (P.cellsOf t)).length) (h1 : aggB P t = false → P.cellsOf t = 1) :
    (part t ⟨xs⟩ off).run P w = .ok (ofCells P t ((xs.drop off).take (P.cellsOf t))) w := by
  obtain ⟨i, hi⟩ := Option.isSome_iff_exists.1 hi
  have hag : (isAgg t).run P w = .ok (aggB P t) w := by
    unfold aggB; rw [hd]; exact run_isAgg (P := P) (t := t) (d := d) (h := ⟨hd⟩) w
  unfold part ofCells
  cases hb : aggB P t with
  | true =>
    rw [hb] at hag
    simp [hag, sizeOf, typeInfo, hi, List.extract_eq_take_drop, Program.cellsOf]
  | false =>
    rw [hb] at hag
    have hc := h1 hb
    rw [hc] at hn ⊢
    have : off < xs.length := by rw [List.length_take, List.length_drop] at hn; omega
    have e : (xs.drop off).take 1 = [xs[off]] := by rw [List.drop_eq_getElem_cons this]; rfl
    rw [e]
    simp [hag, List.getElem?_eq_getElem this]
theorem eq_kinds {P : Program} : ∀ (n d : Nat) (t : TypeId) (ks : List Kd) (xs ys : List Value) (w : World), kinds P n t = some ks → fitL ks xs = true → fitL ks ys = true →
    (Op.equalIn (n + d) t (ofCells P t xs) (ofCells P t ys)).run P w = .ok (eqL xs ys) w
  | 0, _, _, _, _, _, _, h, _, _ => by cases h
  | n + 1, d, t, ks, xs, ys, w, h, hx, hy => by
    unfold kinds at h
    rw [show n + 1 + d = (n + d) + 1 by omega]
    cases hu : P.underlying t with
    | none => rw [hu] at h; cases h
    | some dd =>
      rw [hu] at h
      have scalar : ∀ k, kdOf dd = some k → ks = [k] → aggB P t = false → (Op.equalIn ((n + d) + 1) t (ofCells P t xs) (ofCells P t ys)).run P w = .ok (eqL xs ys) w := by
        intro k hk hks hag
        subst hks
        have lx := fitL_len hx
        have ly := fitL_len hy
        match xs, ys, lx, ly with
        | [x], [y], _, _ =>
          simp only [fitL, Bool.and_true] at hx hy
          simp only [ofCells, hag, Bool.false_eq_true, if_false, List.headD_cons, eqL, Bool.and_true]
          cases dd <;> simp only [kdOf, Option.some.injEq, reduceCtorEq] at hk
          · subst hk
            cases x <;> simp only [fitK, Bool.false_eq_true] at hx
            cases y <;> simp only [fitK, Bool.false_eq_true] at hy
            simp [Op.equalIn, underlying, hu, eqC]
          · subst hk
            cases x <;> simp only [fitK, Bool.false_eq_true, decide_eq_true_eq] at hx
            cases y <;> simp only [fitK, Bool.false_eq_true, decide_eq_true_eq] at hy
            subst hx; subst hy
            simp [Op.equalIn, underlying, hu, eqC]
            rfl
          · subst hk
            obtain ⟨a, rfl⟩ : ∃ a, x = .string a := by cases x <;> first | exact ⟨_, rfl⟩ | simp [fitK] at hx
            obtain ⟨b, rfl⟩ : ∃ b, y = .string b := by cases y <;> first | exact ⟨_, rfl⟩ | simp [fitK] at hy
            have e : (a == b) = decide (a.data.toList = b.data.toList) := by
              rw [beq_toListBytes, ByteArray.toList_eq, ByteArray.toList_eq]
              cases hq : (a.data.toList == b.data.toList) with
              | true => rw [beq_iff_eq] at hq; simp [hq]
              | false => have : a.data.toList ≠ b.data.toList := fun e => by rw [e] at hq; simp at hq
                         rw [decide_eq_false this]
            simp [Op.equalIn, underlying, hu, eqC, e]
      cases dd with
      | struct fs =>
        simp only at h
        by_cases hst : P.stoodInHeld t = true
        · rw [if_pos hst] at h; cases h
        · rw [if_neg hst] at h
          have hst' : P.stoodInHeld t = false := by simpa using hst
          have hag : aggB P t = true := by unfold aggB; rw [hu]; rfl
          simp only [ofCells, hag, if_true]
          have hfo : P.fieldsOf t = fs := by simp [Program.fieldsOf, hu]
          rw [run_equalIn_struct w (n + d) t ⟨xs⟩ ⟨ys⟩ (by rw [hu, hfo]) hst', hfo]
          have key : ∀ (l : List Field) (off : Nat) (rs : List Kd), kindsF P (kinds P n) l off = some rs → fitL rs (xs.drop off) = true → fitL rs (ys.drop off) = true →
              (Op.eqFields (n + d) ⟨xs⟩ ⟨ys⟩ l).run P w = .ok (eqL (xs.drop off) (ys.drop off)) w := by
            intro l
            induction l with
            | nil =>
              intro off rs hr h1 h2
              simp only [kindsF, Option.some.injEq] at hr
              subst hr
              have e1 := fitL_len h1
              have e2 := fitL_len h2
              rw [List.length_eq_zero_iff.1 e1, List.length_eq_zero_iff.1 e2]
              simp [Op.eqFields, eqL]
            | cons f l ih =>
              intro off rs hr h1 h2
              unfold kindsF at hr
              split at hr
              · cases hr
              · rename_i hcond
                simp only [Bool.or_eq_true, beq_iff_eq, Bool.not_eq_true', not_or, Bool.not_eq_false] at hcond
                obtain ⟨hname, hoff⟩ := hcond
                have hoff := Nat.eq_of_beq_eq_true hoff
                cases hkf : kinds P n f.type with
                | none => rw [hkf] at hr; cases hr
                | some kf =>
                  rw [hkf] at hr
                  simp only at hr
                  split at hr
                  · rename_i hc2
                    rw [Bool.and_eq_true] at hc2
                    have hcz := Nat.eq_of_beq_eq_true hc2.1
                    obtain ⟨rs', hr', rfl⟩ := Option.map_eq_some_iff.1 hr
                    obtain ⟨a1, a2⟩ := fitL_split h1
                    obtain ⟨b1, b2⟩ := fitL_split h2
                    rw [List.drop_drop] at a2 b2
                    have hdd : ∃ dd, P.underlying f.type = some dd := by
                      cases n with
                      | zero => simp [kinds] at hkf
                      | succ n => unfold kinds at hkf; cases hq : P.underlying f.type with | none => rw [hq] at hkf; cases hkf | some dd => exact ⟨dd, rfl⟩
                    obtain ⟨dd, hdd⟩ := hdd
                    have hone : aggB P f.type = false → P.cellsOf f.type = 1 := fun hb => by
                      rw [hcz]
                      cases n with
                      | zero => simp [kinds] at hkf
                      | succ n =>
                        unfold kinds at hkf
                        rw [hdd] at hkf
                        unfold aggB at hb; rw [hdd] at hb
                        cases dd <;> simp [isAggD] at hb <;> simp [kdOf] at hkf <;> (subst hkf; rfl)
                    have la := fitL_len a1
                    have lb := fitL_len b1
                    have px := run_part (P := P) (w := w) hdd hc2.2 xs f.offset (by rw [hcz, hoff]; exact la.symm) hone
                    have py := run_part (P := P) (w := w) hdd hc2.2 ys f.offset (by rw [hcz, hoff]; exact lb.symm) hone
                    rw [hcz, hoff] at px py
                    have he := eq_kinds n d f.type kf _ _ w hkf a1 b1
                    have hrest := ih (off + kf.length) rs' hr' a2 b2
                    have hsplit : eqL (xs.drop off) (ys.drop off) = (eqL ((xs.drop off).take kf.length) ((ys.drop off).take kf.length) && eqL (xs.drop (off + kf.length)) (ys.drop (off + kf.length))) := by
                      rw [← eqL_append _ _ _ _ (by rw [la, lb]), ← List.drop_drop, ← List.drop_drop, List.take_append_drop, List.take_append_drop]
                    rw [hsplit]
                    simp only [Op.eqFields, hoff]
                    cases hq : eqL ((xs.drop off).take kf.length) ((ys.drop off).take kf.length) with
                    | false => rw [hq] at he; simp [hname, px, py, he]
                    | true => rw [hq] at he; simp [hname, px, py, he, hrest]
                  · cases hr
          have := key fs.toList 0 ks h (by simpa using hx) (by simpa using hy)
          simpa using this
      | bool => obtain ⟨k, hk, hks⟩ := Option.map_eq_some_iff.1 h; exact scalar k hk hks.symm (by unfold aggB; rw [hu]; rfl)
      | int ik => obtain ⟨k, hk, hks⟩ := Option.map_eq_some_iff.1 h; exact scalar k hk hks.symm (by unfold aggB; rw [hu]; rfl)
      | string => obtain ⟨k, hk, hks⟩ := Option.map_eq_some_iff.1 h; exact scalar k hk hks.symm (by unfold aggB; rw [hu]; rfl)
      | _ => simp [kdOf] at h
class KS (P : Program) (t : TypeId) (ks : outParam (List Kd)) : Prop where
  h : kinds P 6 t = some ks
  g : P.eqGuardType P.depth t = false
  a : aggB P t = true
section
variable {P : Program} {C : Cx} {fr : Fr} {hp : List En} {dst : Option Tmp} {ty : TypeId} {pos : String} {aft : Array Edge} {g : Option (Nat × Bool)}
theorem ov_eqst {xt yt : TypeId} {ks : List Kd} [hk : KS P xt ks] {x y : Operand} {xs ys : List Value} (hx : ev fr x = some (.agg ⟨xs⟩)) (hy : ev fr y = some (.agg ⟨ys⟩)) (h1 : fitL ks xs = true) (h2 : fitL ks ys = true) : OV P C fr hp ⟨dst, .binOp .eql xt x y yt, ty, pos, aft, g⟩ (.bool (eqL xs ys)) :=
  ov_pure (fun r w hr => by
    have := eq_kinds (P := P) 6 9994 xt ks xs ys w hk.h h1 h2
    simp only [ofCells, hk.a, if_true] at this
    simp [execOp, hr _ _ hx, hr _ _ hy, eqGuard, hk.g, run_eql_struct, this])
theorem ov_nest {xt yt : TypeId} {ks : List Kd} [hk : KS P xt ks] {x y : Operand} {xs ys : List Value} (hx : ev fr x = some (.agg ⟨xs⟩)) (hy : ev fr y = some (.agg ⟨ys⟩)) (h1 : fitL ks xs = true) (h2 : fitL ks ys = true) : OV P C fr hp ⟨dst, .binOp .neq xt x y yt, ty, pos, aft, g⟩ (.bool (!eqL xs ys)) :=
  ov_pure (fun r w hr => by
    have := eq_kinds (P := P) 6 9994 xt ks xs ys w hk.h h1 h2
    simp only [ofCells, hk.a, if_true] at this
    simp [execOp, hr _ _ hx, hr _ _ hy, eqGuard, hk.g, run_neq_struct, this])
end
end Go.Proofs.Yteddjadeenimkaa
