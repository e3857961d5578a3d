/- BEN: texts of this proof, joined by program: Sy, SyOp, SyMem, SySl, SyDraw, SyEq, SyRun. -/
import Derived.Test.YteiejcililponaaRows
import Derived.WalkKit
import Derived.Orders
import Derived.Below
import Derived.Laws.AppendOwn
import Derived.Laws.StructEq
/- A symbolic walk: what is known of the slots is a list, what the call owns of memory is a list; the world itself stays out of sight. -/
set_option linter.unusedVariables false
set_option linter.unusedSimpArgs false
namespace Go.Proofs.Yteiejcililponaa
open Go.RowKit

abbrev Fr := List (Nat × Value)
def get : Nat → Fr → Option Value
  | _, [] => none
  | t, (d, v) :: r => cond (Nat.beq t d) (some v) (get t r)
structure FrOk (n : Nat) (fr : Fr) (a : Act) : Prop where
  defers : a.defers = []
  size : a.tmps.size = n
  slot : ∀ t v, get t fr = some v → a.tmps.getD t undef = v
def put (dst : Option Tmp) (v : Value) (fr : Fr) : Fr :=
  match dst with
  | some d => (d, v) :: fr
  | none => fr
def Fits (n : Nat) (dst : Option Tmp) : Prop := match dst with | some d => Nat.blt d n = true | none => true = true
theorem FrOk.put {n : Nat} {fr : Fr} {a : Act} {dst : Option Tmp} (h : FrOk n fr a) (hd : Fits n dst) (v : Value) : FrOk n (put dst v fr) (a.put dst v) := by
  cases dst with
  | none => exact h
  | some d =>
    have hd' : d < n := by simpa [Fits, Nat.blt_eq] using hd
    refine ⟨h.defers, by simpa [Act.put] using h.size, fun t x hx => ?_⟩
    have hx : cond (Nat.beq t d) (some v) (Go.Proofs.Yteiejcililponaa.get t fr) = some x := hx
    simp only [Act.put]
    by_cases e : t = d
    · subst e
      rw [show Nat.beq t t = true from by simp] at hx
      simp only [cond_true, Option.some.injEq] at hx
      subst hx
      simp [Array.getD_eq_getD_getElem?, h.size, hd']
    · rw [show Nat.beq t d = false from by cases hb : Nat.beq t d with | false => rfl | true => exact absurd (Nat.eq_of_beq_eq_true hb) e] at hx
      have := h.slot t x hx
      rw [← this]
      simp only [Array.getD_eq_getD_getElem?]
      rw [Array.getElem?_setIfInBounds_ne (by omega)]
def ev (fr : Fr) : Operand → Option Value
  | .tmp t => get t fr
  | .const v => some v
  | .global g => some (.pointer (some ⟨g, 0, none⟩))
  | .func f => some (.func (.func f) #[] #[])
theorem FrOk.ev {n : Nat} {fr : Fr} {a : Act} (h : FrOk n fr a) {x : Operand} {v : Value} (hx : ev fr x = some v) : a.eval x = v := by
  cases x with
  | tmp t => exact h.slot t v hx
  | const c => exact Option.some.inj hx
  | global g => exact Option.some.inj hx
  | func f => exact Option.some.inj hx

/-- A piece of memory that the call has for its own: which blocks, and what is so of them. -/
structure En where
  dom : Nat → Prop
  holds : World → Prop
  loc : ∀ w w' : World, (∀ b, dom b → w'.heap[b]? = w.heap[b]?) → holds w → holds w'
/-- A row of cells. -/
def blk (b : Nat) (ty : TypeId) (cs : List Value) : En := ⟨(· = b), fun w => w.heap[b]? = some (.cells cs.toArray ty (0, 0)), fun _ _ h hh => (h b rfl).trans hh⟩
/-- What may have changed since w0: new blocks, and the blocks D. -/
structure Keep (D : Nat → Prop) (w0 w : World) : Prop where
  os : w.os = w0.os
  tape : w.tape = w0.tape
  output : w.output = w0.output
  size : w0.heap.size ≤ w.heap.size
  block : ∀ k, k < w0.heap.size → ¬ D k → w.heap[k]? = w0.heap[k]?
theorem Keep.refl (D : Nat → Prop) (w : World) : Keep D w w := ⟨rfl, rfl, rfl, Nat.le_refl _, fun _ _ _ => rfl⟩
theorem Keep.below {w0 w : World} (h : Keep (fun _ => False) w0 w) : Below w0.heap.size w0 w := ⟨h.os, h.tape, h.output, h.size, fun k hk => h.block k hk id⟩
theorem Keep.of_below {D : Nat → Prop} {w0 w : World} (h : Below w0.heap.size w0 w) : Keep D w0 w := ⟨h.os, h.tape, h.output, h.size, fun k hk _ => h.block k hk⟩
theorem Keep.trans {D E : Nat → Prop} {a b c : World} (h : Keep D a b) (k : Keep E b c) (hE : ∀ x, E x → D x ∨ a.heap.size ≤ x) : Keep D a c :=
  ⟨k.os.trans h.os, k.tape.trans h.tape, k.output.trans h.output, Nat.le_trans h.size k.size, fun x hx hd => (k.block x (Nat.lt_of_lt_of_le hx h.size) (fun e => (hE x e).elim hd (fun hge => by omega))).trans (h.block x hx hd)⟩
structure HpOk (D : Nat → Prop) (w0 : World) (hp : List En) (w : World) : Prop where
  keep : Keep D w0 w
  own : ∀ e ∈ hp, e.holds w ∧ ∀ b, e.dom b → (D b ∨ w0.heap.size ≤ b) ∧ b < w.heap.size
  sep : hp.Pairwise fun e f => ∀ b, e.dom b → ¬ f.dom b
theorem HpOk.below {w0 : World} {hp : List En} {w : World} (h : HpOk (fun _ => False) w0 hp w) : Below w0.heap.size w0 w := h.keep.below
theorem HpOk.start (D : Nat → Prop) (w : World) : HpOk D w [] w := ⟨Keep.refl _ _, by simp, List.Pairwise.nil⟩
theorem HpOk.start1 (e : En) (w : World) (he : e.holds w) (hd : ∀ b, e.dom b → b < w.heap.size) : HpOk e.dom w [e] w :=
  ⟨Keep.refl _ _, by simp only [List.mem_singleton]; rintro f rfl; exact ⟨he, fun b hb => ⟨.inl hb, hd b hb⟩⟩, List.pairwise_singleton _ _⟩
theorem HpOk.step {D : Nat → Prop} {w0 : World} {hp : List En} {w w' : World} (h : HpOk D w0 hp w) (hb : Below w.heap.size w w') : HpOk D w0 hp w' :=
  ⟨h.keep.trans (D := D) (E := fun _ => False) (Keep.of_below hb) (fun x hx => hx.elim),
    fun e he => ⟨e.loc w w' (fun b hd => hb.block b ((h.own e he).2 b hd).2) (h.own e he).1, fun b hd => ⟨((h.own e he).2 b hd).1, Nat.lt_of_lt_of_le ((h.own e he).2 b hd).2 hb.size⟩⟩, h.sep⟩
theorem HpOk.draw {D : Nat → Prop} {w0 : World} {hp : List En} {w : World} (h : HpOk D w0 hp w) : HpOk D w0 hp { w with drawn := w.drawn + 1 } :=
  h.step (w' := { w with drawn := w.drawn + 1 }) ⟨rfl, rfl, rfl, Nat.le_refl _, fun _ _ => rfl⟩
theorem HpOk.add {D : Nat → Prop} {w0 : World} {hp : List En} {w : World} (h : HpOk D w0 hp w) (e : En) (hh : e.holds w) (hd : ∀ b, e.dom b → (D b ∨ w0.heap.size ≤ b) ∧ b < w.heap.size) (hs : ∀ f ∈ hp, ∀ b, e.dom b → ¬ f.dom b) : HpOk D w0 (e :: hp) w :=
  ⟨h.keep, by simp only [List.mem_cons]; rintro f (rfl | hf); exact ⟨hh, hd⟩; exact h.own f hf, List.Pairwise.cons hs h.sep⟩
/-- What a callee leaves new. -/
theorem HpOk.fresh {D : Nat → Prop} {w0 : World} {hp : List En} {w w' : World} (h : HpOk D w0 hp w) (hb : Below w.heap.size w w') (e : En) (hh : e.holds w') (hd : ∀ b, e.dom b → w.heap.size ≤ b ∧ b < w'.heap.size) : HpOk D w0 (e :: hp) w' :=
  (h.step hb).add e hh (fun b hb' => ⟨.inr (Nat.le_trans h.keep.size (hd b hb').1), (hd b hb').2⟩) (fun f hf b hb' hf' => by have := ((h.own f hf).2 b hf').2; have := (hd b hb').1; omega)
theorem HpOk.alloc {D : Nat → Prop} {w0 : World} {hp : List En} {w : World} (h : HpOk D w0 hp w) (cs : List Value) (ty : TypeId) : HpOk D w0 (blk w.heap.size ty cs :: hp) (w.alloc (.cells cs.toArray ty)) :=
  h.fresh ((Below.refl _ _).alloc (Nat.le_refl _) _) _ (by show (w.heap.push _)[w.heap.size]? = _; simp) (by rintro b rfl; show _ ∧ _ < (w.heap.push _).size; simp)
theorem HpOk.weaken {D : Nat → Prop} {w0 : World} {hp hp' : List En} {w : World} (h : HpOk D w0 hp w) (hs : hp'.Sublist hp) : HpOk D w0 hp' w :=
  ⟨h.keep, fun e he => h.own e (hs.subset he), h.sep.sublist hs⟩
theorem HpOk.get {D : Nat → Prop} {w0 : World} {hp : List En} {w : World} (h : HpOk D w0 hp w) {i : Nat} {e : En} (hi : hp[i]? = some e) : e.holds w ∧ ∀ b, e.dom b → (D b ∨ w0.heap.size ≤ b) ∧ b < w.heap.size :=
  h.own e (List.mem_of_getElem? hi)
/-- Two pieces of the call's own lie apart. -/
theorem HpOk.apart {D : Nat → Prop} {w0 : World} {hp : List En} {w : World} (h : HpOk D w0 hp w) {i j : Nat} {e f : En} (hi : hp[i]? = some e) (hj : hp[j]? = some f) (hne : i ≠ j) (b : Nat) (he : e.dom b) : ¬ f.dom b := by
  intro hf
  have hp' := h.sep
  rw [List.pairwise_iff_getElem] at hp'
  have hil := (List.getElem?_eq_some_iff.1 hi).1
  have hjl := (List.getElem?_eq_some_iff.1 hj).1
  have e1 := (List.getElem?_eq_some_iff.1 hi).2
  have e2 := (List.getElem?_eq_some_iff.1 hj).2
  rcases Nat.lt_or_ge i j with hlt | hge
  · have := hp' i j hil hjl hlt b; rw [e1, e2] at this; exact this he hf
  · have := hp' j i hjl hil (by omega) b; rw [e1, e2] at this; exact this hf he
/-- One piece gives way to another one, in its blocks or in new ones. -/
theorem HpOk.regrow {D : Nat → Prop} {w0 : World} {hp : List En} {w w' : World} (h : HpOk D w0 hp w) {i : Nat} {e e' : En} (hi : hp[i]? = some e) (hh : e'.holds w') (hk : Keep e.dom w w')
    (hd : ∀ b, e'.dom b → b < w'.heap.size ∧ (e.dom b ∨ w.heap.size ≤ b)) : HpOk D w0 (hp.set i e') w' := by
  have hold := h.get hi
  have hil := (List.getElem?_eq_some_iff.1 hi).1
  have hs := hk.size
  refine ⟨h.keep.trans hk (fun x hx => (hold.2 x hx).1), fun f hf => ?_, ?_⟩
  · obtain ⟨j, hj⟩ := List.mem_iff_getElem?.1 hf
    rw [List.getElem?_set] at hj
    by_cases hij : i = j
    · rw [if_pos hij, if_pos (by omega)] at hj
      have := Option.some.inj hj; subst this
      exact ⟨hh, fun b hb' => ⟨by rcases (hd b hb').2 with h1 | h1; exact (hold.2 b h1).1; exact .inr (Nat.le_trans h.keep.size h1), (hd b hb').1⟩⟩
    · rw [if_neg hij] at hj
      have hfo := h.own f (List.mem_of_getElem? hj)
      exact ⟨f.loc w w' (fun b hdb => hk.block b (hfo.2 b hdb).2 (fun he => h.apart hi hj hij b he hdb)) hfo.1, fun b hb' => ⟨(hfo.2 b hb').1, Nat.lt_of_lt_of_le (hfo.2 b hb').2 hs⟩⟩
  · rw [List.pairwise_iff_getElem]
    intro x y hx hy hxy b
    rw [List.length_set] at hx hy
    have gx := List.getElem_set (l := hp) (i := i) (a := e') (j := x) (by rw [List.length_set]; exact hx)
    have gy := List.getElem_set (l := hp) (i := i) (a := e') (j := y) (by rw [List.length_set]; exact hy)
    rw [gx, gy]
    have hp' := h.sep
    rw [List.pairwise_iff_getElem] at hp'
    by_cases h1 : i = x
    · rw [if_pos h1, if_neg (by omega)]
      intro he hf
      rcases (hd b he).2 with h3 | h3
      · exact h.apart hi (List.getElem?_eq_getElem hy) (by omega) b h3 hf
      · have := ((h.own _ (List.getElem_mem hy)).2 b hf).2; omega
    · rw [if_neg h1]
      by_cases h2 : i = y
      · rw [if_pos h2]
        intro hf he
        rcases (hd b he).2 with h3 | h3
        · exact h.apart hi (List.getElem?_eq_getElem hx) (by omega) b h3 hf
        · have := ((h.own _ (List.getElem_mem hx)).2 b hf).2; omega
      · rw [if_neg h2]; exact hp' x y hx hy hxy b
theorem HpOk.store {D : Nat → Prop} {w0 : World} {hp : List En} {w : World} (h : HpOk D w0 hp w) {i b off : Nat} {ty : TypeId} {cs : List Value} (hi : hp[i]? = some (blk b ty cs)) (v : Value) : HpOk D w0 (hp.set i (blk b ty (cs.set off v))) (w.setCell ⟨b, off, none⟩ v) := by
  have hh : w.heap[b]? = some (.cells cs.toArray ty (0, 0)) := (h.get hi).1
  have hsz : (w.setCell ⟨b, off, none⟩ v).heap.size = w.heap.size := by simp [World.setCell]
  refine h.regrow hi ?_ ⟨rfl, rfl, rfl, Nat.le_of_eq hsz.symm, fun k _ hk => Below.heap_setCell w ⟨b, off, none⟩ v k hk⟩ (fun k hk => ⟨by rw [hsz]; exact ((h.get hi).2 k hk).2, .inl hk⟩)
  show (w.setCell ⟨b, off, none⟩ v).heap[b]? = _
  simp [World.setCell, Array.getElem?_modify, hh]

/-! ### What is left to do -/
inductive It where
  | c (c : Code)
  | o (all : Array Oper) (l : List Oper)
  | blk (id : Nat)
  | back (J : Act → World → Prop)
def After (P : Program) (Q : Exit → Act → World → Prop) : List It → Exit → Act → World → Prop
  | [], e, a, w => Q e a w
  | .c c :: k, e, a, w => match e with
    | .normal => c.wp P (After P Q k) a w
    | e => After P Q k e a w
  | .o all l :: k, e, a, w => match e with
    | .normal => wpList P all (After P Q k) l a w
    | e => After P Q k e a w
  | .blk id :: k, e, a, w => Exit.inBlock id (After P Q k) e a w
  | .back J :: k, e, a, w => match e with
    | .normal => J a w
    | e => After P Q k e a w
structure Cx where
  D : Nat → Prop
  w0 : World
  n : Nat
  Q : Exit → Act → World → Prop
structure Sy (P : Program) (C : Cx) (k : List It) (fr : Fr) (hp : List En) : Prop where
  go : ∀ a w, FrOk C.n fr a → HpOk C.D C.w0 hp w → After P C.Q k .normal a w
section
variable {P : Program} {C : Cx} {k : List It} {fr : Fr} {hp : List En}
theorem sy_weaken {fr' : Fr} {hp' : List En} (hf : ∀ t v, get t fr' = some v → get t fr = some v) (hs : hp'.Sublist hp) (h : Sy P C k fr' hp') : Sy P C k fr hp :=
  .mk fun a w ha hw => h.go a w ⟨ha.defers, ha.size, fun t v hx => ha.slot t v (hf t v hx)⟩ (hw.weaken hs)
theorem sy_skip (h : Sy P C k fr hp) : Sy P C (.c .skip :: k) fr hp := .mk fun a w ha hw => wp_skip (h.go a w ha hw)
theorem sy_label {l : Nat} (h : Sy P C k fr hp) : Sy P C (.c (.label l) :: k) fr hp := .mk fun a w ha hw => wp_label (h.go a w ha hw)
theorem sy_seq {x y : Code} (h : Sy P C (.c x :: .c y :: k) fr hp) : Sy P C (.c (.seq x y) :: k) fr hp := by
  constructor
  intro a w ha hw
  refine wp_seq (wp_mono (h.go a w ha hw) ?_)
  intro e a w he
  cases e <;> exact he
theorem sy_block {id : Nat} {x : Code} (h : Sy P C (.c x :: .blk id :: k) fr hp) : Sy P C (.c (.block id x) :: k) fr hp :=
  .mk fun a w ha hw => wp_block (wp_mono (h.go a w ha hw) fun e a w he => he)
theorem sy_blk {id : Nat} (h : Sy P C k fr hp) : Sy P C (.blk id :: k) fr hp := .mk fun a w ha hw => h.go a w ha hw
theorem sy_cond {c : Operand} {x y : Code} {b : Bool} (hc : ev fr c = some (.bool b)) (ht : b = true → Sy P C (.c x :: k) fr hp) (hf : b = false → Sy P C (.c y :: k) fr hp) : Sy P C (.c (.cond c x y) :: k) fr hp := by
  constructor
  intro a w ha hw
  refine wp_cond (ha.ev hc) ?_
  cases b
  · exact (hf rfl).go a w ha hw
  · exact (ht rfl).go a w ha hw
theorem sy_cond_t {c : Operand} {x y : Code} {b : Bool} (hc : ev fr c = some (.bool b)) (hb : b = true) (h : Sy P C (.c x :: k) fr hp) : Sy P C (.c (.cond c x y) :: k) fr hp :=
  sy_cond hc (fun _ => h) (fun e => by rw [hb] at e; cases e)
theorem sy_cond_f {c : Operand} {x y : Code} {b : Bool} (hc : ev fr c = some (.bool b)) (hb : b = false) (h : Sy P C (.c y :: k) fr hp) : Sy P C (.c (.cond c x y) :: k) fr hp :=
  sy_cond hc (fun e => by rw [hb] at e; cases e) (fun _ => h)
/-- Leaving with something else than the plain end: what lies ahead is passed over. -/
structure Leave (P : Program) (C : Cx) (e : Exit) (k : List It) (fr : Fr) (hp : List En) : Prop where
  go : ∀ a w, FrOk C.n fr a → HpOk C.D C.w0 hp w → After P C.Q k e a w
theorem sy_exit {id : Nat} (h : Leave P C (.exit id) k fr hp) : Sy P C (.c (.exit id) :: k) fr hp := .mk fun a w ha hw => wp_exit (h.go a w ha hw)
theorem sy_ret (h : Leave P C .ret k fr hp) : Sy P C (.c .ret :: k) fr hp := .mk fun a w ha hw => wp_ret (h.go a w ha hw)
theorem leave_c {id : Nat} {c : Code} (h : Leave P C (.exit id) k fr hp) : Leave P C (.exit id) (.c c :: k) fr hp := .mk h.go
theorem leave_o {id : Nat} {all : Array Oper} {l : List Oper} (h : Leave P C (.exit id) k fr hp) : Leave P C (.exit id) (.o all l :: k) fr hp := .mk h.go
theorem leave_back {id : Nat} {J : Act → World → Prop} (h : Leave P C (.exit id) k fr hp) : Leave P C (.exit id) (.back J :: k) fr hp := .mk h.go
theorem leave_blk {id : Nat} (h : Sy P C k fr hp) : Leave P C (.exit id) (.blk id :: k) fr hp := .mk fun a w ha hw => by
  show Exit.inBlock id (After P C.Q k) (.exit id) a w
  simp only [Exit.inBlock, ↓reduceIte]; exact h.go a w ha hw
theorem leave_blk_ne {id id' : Nat} (hn : Nat.beq id id' = false) (h : Leave P C (.exit id) k fr hp) : Leave P C (.exit id) (.blk id' :: k) fr hp := .mk fun a w ha hw => by
  show Exit.inBlock id' (After P C.Q k) (.exit id) a w
  have : id ≠ id' := by intro e; subst e; simp at hn
  simp only [Exit.inBlock, if_neg this]; exact h.go a w ha hw
theorem ret_c {c : Code} (h : Leave P C .ret k fr hp) : Leave P C .ret (.c c :: k) fr hp := .mk h.go
theorem ret_o {all : Array Oper} {l : List Oper} (h : Leave P C .ret k fr hp) : Leave P C .ret (.o all l :: k) fr hp := .mk h.go
theorem ret_back {J : Act → World → Prop} (h : Leave P C .ret k fr hp) : Leave P C .ret (.back J :: k) fr hp := .mk h.go
theorem ret_blk {id : Nat} (h : Leave P C .ret k fr hp) : Leave P C .ret (.blk id :: k) fr hp := .mk h.go
theorem sy_region {id : Nat} {l : List Oper} (h : Sy P C (.o l.toArray l :: k) fr hp) : Sy P C (.c (.region id l.toArray false) :: k) fr hp :=
  .mk fun a w ha hw => wp_region_lit (h.go a w ha hw)
theorem sy_end {all : Array Oper} (h : Sy P C k fr hp) : Sy P C (.o all [] :: k) fr hp := .mk fun a w ha hw => by show wpList _ _ _ _ _ _; exact wpList_nil (h.go a w ha hw)
theorem sy_op {all : Array Oper} {o : Oper} {l : List Oper} (hg : o.guard = none) (h : ∀ a w, FrOk C.n fr a → HpOk C.D C.w0 hp w → o.wp P a w (wpList P all (After P C.Q k) l) (After P C.Q k)) : Sy P C (.o all (o :: l) :: k) fr hp :=
  .mk fun a w ha hw => wpList_plain hg fun K hK => by
    have := h a w ha hw
    unfold Oper.wp at this ⊢
    unfold Oper.upon at this ⊢
    split at this <;> first | exact hK _ _ this | skip
    · exact this.mono fun e w he => by cases e <;> first | exact hK _ _ he | exact he
    · exact this.mono fun v w he => hK _ _ he
    · exact this
    · exact this
end
end Go.Proofs.Yteiejcililponaa
/- A symbolic walk, the operations: one law for each. -/
set_option linter.unusedVariables false
set_option linter.unusedSimpArgs false
namespace Go.Proofs.Yteiejcililponaa
open Go.RowKit

class TU (P : Program) (t : TypeId) (d : outParam TypeDesc) : Prop where
  h : P.underlying t = some d
class TI (P : Program) (t : TypeId) (i : outParam TypeInfo) : Prop where
  h : P.info? t = some i
class FN (P : Program) (f : FuncId) (fn : outParam Func) : Prop where
  h : P.funcs[f]? = some fn
  name : (fn.name == "runtime.NumGoroutine") = false
  body : fn.body.isNone = false
section
variable {P : Program} {C : Cx} {k : List It} {fr : Fr} {hp : List En} {all : Array Oper} {l : List Oper} {dst : Option Tmp} {ty : TypeId} {pos : String} {aft : Array Edge} {g : Option (Nat × Bool)}
theorem sy_val {op : Op} {v : Value} {hp' : List En} (hf : Fits C.n dst)
    (h : ∀ a w, FrOk C.n fr a → HpOk C.D C.w0 hp w → ∃ w', (execOp a.eval ⟨dst, op, ty, pos, aft, none⟩).run P w = .ok (.value v) w' ∧ HpOk C.D C.w0 hp' w')
    (hk : Sy P C (.o all l :: k) (put dst v fr) hp') : Sy P C (.o all (⟨dst, op, ty, pos, aft, none⟩ :: l) :: k) fr hp :=
  sy_op rfl fun a w ha hw => by
    obtain ⟨w', hr, hw'⟩ := h a w ha hw
    unfold Oper.wp
    rw [hr]
    exact hk.go _ _ (ha.put hf v) hw'
theorem sy_pure {op : Op} {v : Value} (hf : Fits C.n dst)
    (h : ∀ a w, FrOk C.n fr a → (execOp a.eval ⟨dst, op, ty, pos, aft, none⟩).run P w = .ok (.value v) w)
    (hk : Sy P C (.o all l :: k) (put dst v fr) hp) : Sy P C (.o all (⟨dst, op, ty, pos, aft, none⟩ :: l) :: k) fr hp :=
  sy_val hf (fun a w ha hw => ⟨w, h a w ha, hw⟩) hk
/-- How an operation ends: with a value, and what the call owns is as it was. -/
def Fin (P : Program) (C : Cx) (hp : List En) (v : Value) : Result Next → Prop
  | .ok (.value u) w' => u = v ∧ HpOk C.D C.w0 hp w'
  | .ok (.enter f args) w' => Calls P f args w' fun e w'' => e = .returned v ∧ HpOk C.D C.w0 hp w''
  | _ => False
structure OV (P : Program) (C : Cx) (fr : Fr) (hp : List En) (o : Oper) (v : Value) : Prop where
  go : ∀ (r : Operand → Value) (w : World), (∀ x u, ev fr x = some u → r x = u) → HpOk C.D C.w0 hp w → Fin P C hp v ((execOp r o).run P w)
theorem ov_pure {o : Oper} {v : Value} (h : ∀ (r : Operand → Value) (w : World), (∀ x u, ev fr x = some u → r x = u) → (execOp r o).run P w = .ok (.value v) w) : OV P C fr hp o v :=
  .mk fun r w hr hw => by rw [h r w hr]; exact ⟨rfl, hw⟩
theorem sy_ov {o : Oper} {v : Value} (h : OV P C fr hp o v) (hg : o.guard = none) (hf : Fits C.n o.dst) (hk : Sy P C (.o all l :: k) (put o.dst v fr) hp) : Sy P C (.o all (o :: l) :: k) fr hp :=
  sy_op hg fun a w ha hw => by
    have := h.go a.eval w (fun x u hx => ha.ev hx) hw
    unfold Oper.wp
    cases hr : (execOp a.eval o).run P w with
    | halt _ _ => rw [hr] at this; exact this.elim
    | ok nx w' =>
      rw [hr] at this
      cases nx with
      | value u => obtain ⟨rfl, hw'⟩ := this; exact hk.go _ _ (ha.put hf _) hw'
      | enter f args =>
        have this : Calls P f args w' fun e w'' => e = .returned v ∧ HpOk C.D C.w0 hp w'' := this
        refine this.mono fun e w'' he => ?_
        obtain ⟨rfl, hw''⟩ := he
        exact hk.go _ _ (ha.put hf _) hw''
      | _ => exact this.elim
theorem ov_move {x : Operand} {v : Value} (hx : ev fr x = some v) : OV P C fr hp ⟨dst, .move x, ty, pos, aft, g⟩ v :=
  ov_pure (fun r w hr => by simp [execOp, hr _ _ hx])
theorem ov_assign {x : Operand} {v : Value} (hx : ev fr x = some v) : OV P C fr hp ⟨dst, .assign x, ty, pos, aft, g⟩ v :=
  ov_pure (fun r w hr => by simp [execOp, hr _ _ hx])
theorem ov_pick_t {c x y : Operand} {b : Bool} {v : Value} (hc : ev fr c = some (.bool b)) (hx : ev fr x = some v) (hb : b = true) : OV P C fr hp ⟨dst, .pick c x y, ty, pos, aft, g⟩ v :=
  ov_pure (fun r w hr => by subst hb; simp [execOp, hr _ _ hc, hr _ _ hx, asBool])
theorem ov_pick_f {c x y : Operand} {b : Bool} {v : Value} (hc : ev fr c = some (.bool b)) (hx : ev fr y = some v) (hb : b = false) : OV P C fr hp ⟨dst, .pick c x y, ty, pos, aft, g⟩ v :=
  ov_pure (fun r w hr => by subst hb; simp [execOp, hr _ _ hc, hr _ _ hx, asBool])
theorem ov_pick {c x y : Operand} {b : Bool} {u v : Value} (hc : ev fr c = some (.bool b)) (hx : ev fr x = some u) (hy : ev fr y = some v) : OV P C fr hp ⟨dst, .pick c x y, ty, pos, aft, g⟩ (if b then u else v) :=
  ov_pure (fun r w hr => by simp [execOp, hr _ _ hc, hr _ _ hx, hr _ _ hy, asBool])
/-! gates: what kind of thing stands next -/
theorem gO {o : Oper} (h : Sy P C (.o all (o :: l) :: k) fr hp) : Sy P C (.o all (o :: l) :: k) fr hp := h
theorem gC {c : Code} (h : Sy P C (.c c :: k) fr hp) : Sy P C (.c c :: k) fr hp := h
theorem gG {op : Op} {gd : Nat × Bool} (h : Sy P C (.o all (⟨dst, op, ty, pos, aft, some gd⟩ :: l) :: k) fr hp) : Sy P C (.o all (⟨dst, op, ty, pos, aft, some gd⟩ :: l) :: k) fr hp := h
theorem gB {bo : BinOp} {xt yt : TypeId} {x y : Operand} (h : Sy P C (.o all (⟨dst, .binOp bo xt x y yt, ty, pos, aft, g⟩ :: l) :: k) fr hp) : Sy P C (.o all (⟨dst, .binOp bo xt x y yt, ty, pos, aft, g⟩ :: l) :: k) fr hp := h
theorem gK {c : Call} (h : Sy P C (.o all (⟨dst, .call c, ty, pos, aft, g⟩ :: l) :: k) fr hp) : Sy P C (.o all (⟨dst, .call c, ty, pos, aft, g⟩ :: l) :: k) fr hp := h
theorem gL {t : TypeId} {x : Operand} (h : Sy P C (.o all (⟨dst, .load t x, ty, pos, aft, g⟩ :: l) :: k) fr hp) : Sy P C (.o all (⟨dst, .load t x, ty, pos, aft, g⟩ :: l) :: k) fr hp := h
theorem gS {t : TypeId} {x y : Operand} (h : Sy P C (.o all (⟨dst, .store t x y, ty, pos, aft, g⟩ :: l) :: k) fr hp) : Sy P C (.o all (⟨dst, .store t x y, ty, pos, aft, g⟩ :: l) :: k) fr hp := h
theorem gI {t : TypeId} {x : Operand} {lo hi mx : Option Operand} (h : Sy P C (.o all (⟨dst, .slice t x lo hi mx, ty, pos, aft, g⟩ :: l) :: k) fr hp) : Sy P C (.o all (⟨dst, .slice t x lo hi mx, ty, pos, aft, g⟩ :: l) :: k) fr hp := h
theorem gV {e : Exit} (h : Leave P C e k fr hp) : Leave P C e k fr hp := h
/-! guards -/
theorem wanted_of {j : Nat} {want b : Bool} {t : Tmp} {oj : Oper} {o : Oper} {a : Act} (ha : FrOk C.n fr a) (hg : o.guard = some (j, want)) (hj : all[j]? = some oj) (ho : oj.dst = some t) (hlt : Nat.blt t C.n = true) (ht : get t fr = some (.bool b)) :
    Region.wanted o (yielded all a.tmps) = (b == want) := by
  have h1 := ha.slot t _ ht
  have h2 : t < a.tmps.size := by rw [ha.size]; simpa [Nat.blt_eq] using hlt
  have h3 : a.tmps[t]? = some (.bool b) := by
    rw [Array.getD_eq_getD_getElem?, Array.getElem?_eq_getElem h2] at h1
    rw [Array.getElem?_eq_getElem h2]; simpa using h1
  simp only [Region.wanted, hg, yielded, hj, Option.bind_some, ho, h3]
  cases b <;> cases want <;> rfl
theorem sy_guard {op : Op} {j : Nat} {want b : Bool} {t : Tmp} {oj : Oper} (hj : all[j]? = some oj) (ho : oj.dst = some t) (hlt : Nat.blt t C.n = true) (hf : Fits C.n dst) (ht : get t fr = some (.bool b))
    (h1 : b = want → Sy P C (.o all (⟨dst, op, ty, pos, aft, none⟩ :: l) :: k) ((t, .bool want) :: fr) hp)
    (h2 : b = (!want) → Sy P C (.o all l :: k) (put dst undef ((t, .bool !want) :: fr)) hp) :
    Sy P C (.o all (⟨dst, op, ty, pos, aft, some (j, want)⟩ :: l) :: k) fr hp := by
  constructor
  intro a w ha hw
  have hwant := wanted_of (o := ⟨dst, op, ty, pos, aft, some (j, want)⟩) ha rfl hj ho hlt ht
  have same : ∀ x, b = x → FrOk C.n ((t, .bool x) :: fr) a := fun x e => ⟨ha.defers, ha.size, fun s v hs => by
    subst e
    simp only [get] at hs
    cases hb : Nat.beq s t with
    | true => rw [hb] at hs; simp only [cond_true, Option.some.injEq] at hs; rw [← hs, Nat.eq_of_beq_eq_true hb]; exact ha.slot t _ ht
    | false => rw [hb] at hs; exact ha.slot s v hs⟩
  show wpList _ _ _ _ _ _
  unfold wpList
  rw [hwant]
  by_cases e : b = want
  · subst e
    simp only [beq_self_eq_true, if_true]
    have := (h1 rfl).go a w (same b rfl) hw
    have this : wpList P all (After P C.Q k) (⟨dst, op, ty, pos, aft, none⟩ :: l) a w := this
    unfold wpList at this
    simp only [Region.wanted, if_true] at this
    rcases this with h | h
    · left; exact h
    · right; exact h
  · have e' : b = !want := by cases b <;> cases want <;> simp_all
    have hb : (b == want) = false := by simp [e]
    rw [hb]
    simp only [Bool.false_eq_true, if_false]
    exact (h2 e').go _ _ ((same _ e').put hf undef) hw
theorem sy_guard_yes {op : Op} {j : Nat} {want b : Bool} {t : Tmp} {oj : Oper} (hj : all[j]? = some oj) (ho : oj.dst = some t) (hlt : Nat.blt t C.n = true) (hf : Fits C.n dst) (ht : get t fr = some (.bool b)) (hb : b = want)
    (h : Sy P C (.o all (⟨dst, op, ty, pos, aft, none⟩ :: l) :: k) ((t, .bool want) :: fr) hp) : Sy P C (.o all (⟨dst, op, ty, pos, aft, some (j, want)⟩ :: l) :: k) fr hp :=
  sy_guard hj ho hlt hf ht (fun _ => h) (fun e => by rw [hb] at e; cases want <;> cases e)
theorem sy_guard_no {op : Op} {j : Nat} {want b : Bool} {t : Tmp} {oj : Oper} (hj : all[j]? = some oj) (ho : oj.dst = some t) (hlt : Nat.blt t C.n = true) (hf : Fits C.n dst) (ht : get t fr = some (.bool b)) (hb : b = !want)
    (h : Sy P C (.o all l :: k) (put dst undef ((t, .bool !want) :: fr)) hp) : Sy P C (.o all (⟨dst, op, ty, pos, aft, some (j, want)⟩ :: l) :: k) fr hp :=
  sy_guard hj ho hlt hf ht (fun e => by rw [hb] at e; cases want <;> cases e) (fun _ => h)
theorem sy_guard_undef {op : Op} {j : Nat} {want : Bool} {t : Tmp} {oj : Oper} (hj : all[j]? = some oj) (ho : oj.dst = some t) (hlt : Nat.blt t C.n = true) (hf : Fits C.n dst) (ht : get t fr = some undef)
    (h2 : Sy P C (.o all l :: k) (put dst undef fr) hp) :
    Sy P C (.o all (⟨dst, op, ty, pos, aft, some (j, want)⟩ :: l) :: k) fr hp := by
  constructor
  intro a w ha hw
  have h1 := ha.slot t _ ht
  have h2' : t < a.tmps.size := by rw [ha.size]; simpa [Nat.blt_eq] using hlt
  have h3 : a.tmps[t]? = some undef := by
    rw [Array.getD_eq_getD_getElem?, Array.getElem?_eq_getElem h2'] at h1
    rw [Array.getElem?_eq_getElem h2']; simpa using h1
  show wpList _ _ _ _ _ _
  unfold wpList
  have : Region.wanted (⟨dst, op, ty, pos, aft, some (j, want)⟩ : Oper) (yielded all a.tmps) = false := by
    simp only [Region.wanted, yielded, hj, Option.bind_some, ho, h3]; rfl
  rw [this]
  simp only [Bool.false_eq_true, if_false]
  exact h2.go _ _ (ha.put hf undef) hw
/-! numbers -/
theorem wrap_in (n : Int) (h1 : -9223372036854775808 ≤ n) (h2 : n ≤ 9223372036854775807) : IntKind.i64.wrap n = n := by rw [IntKind.wrap_i64]; omega
theorem wrap_in32 (n : Int) (h1 : -2147483648 ≤ n) (h2 : n ≤ 2147483647) : IntKind.i32.wrap n = n := by rw [IntKind.wrap_i32]; omega
theorem ov_addw {xt yt : TypeId} {x y : Operand} {ik : IntKind} {a b : Int} (hx : ev fr x = some (.int ik a)) (hy : ev fr y = some (.int ik b)) : OV P C fr hp ⟨dst, .binOp .add xt x y yt, ty, pos, aft, g⟩ (.int ik (ik.wrap (a + b))) :=
  ov_pure (fun r w hr => by simp [execOp, hr _ _ hx, hr _ _ hy, eqGuard, binOp, Op.intArith])
theorem ov_subw {xt yt : TypeId} {x y : Operand} {ik : IntKind} {a b : Int} (hx : ev fr x = some (.int ik a)) (hy : ev fr y = some (.int ik b)) : OV P C fr hp ⟨dst, .binOp .sub xt x y yt, ty, pos, aft, g⟩ (.int ik (ik.wrap (a - b))) :=
  ov_pure (fun r w hr => by simp [execOp, hr _ _ hx, hr _ _ hy, eqGuard, binOp, Op.intArith])
theorem ov_mulw {xt yt : TypeId} {x y : Operand} {ik : IntKind} {a b : Int} (hx : ev fr x = some (.int ik a)) (hy : ev fr y = some (.int ik b)) : OV P C fr hp ⟨dst, .binOp .mul xt x y yt, ty, pos, aft, g⟩ (.int ik (ik.wrap (a * b))) :=
  ov_pure (fun r w hr => by simp [execOp, hr _ _ hx, hr _ _ hy, eqGuard, binOp, Op.intArith])
theorem ov_add {xt yt : TypeId} {x y : Operand} {a b : Int} (hx : ev fr x = some (.int .i64 a)) (hy : ev fr y = some (.int .i64 b)) (h1 : -9223372036854775808 ≤ a + b) (h2 : a + b ≤ 9223372036854775807) : OV P C fr hp ⟨dst, .binOp .add xt x y yt, ty, pos, aft, g⟩ (.int .i64 (a + b)) :=
  by have := ov_addw (P := P) (C := C) (hp := hp) (dst := dst) (ty := ty) (pos := pos) (aft := aft) (g := g) (xt := xt) (yt := yt) hx hy; rw [wrap_in _ h1 h2] at this; exact this
theorem ov_sub {xt yt : TypeId} {x y : Operand} {a b : Int} (hx : ev fr x = some (.int .i64 a)) (hy : ev fr y = some (.int .i64 b)) (h1 : -9223372036854775808 ≤ a - b) (h2 : a - b ≤ 9223372036854775807) : OV P C fr hp ⟨dst, .binOp .sub xt x y yt, ty, pos, aft, g⟩ (.int .i64 (a - b)) :=
  by have := ov_subw (P := P) (C := C) (hp := hp) (dst := dst) (ty := ty) (pos := pos) (aft := aft) (g := g) (xt := xt) (yt := yt) hx hy; rw [wrap_in _ h1 h2] at this; exact this
theorem ov_mul {xt yt : TypeId} {x y : Operand} {a b : Int} (hx : ev fr x = some (.int .i64 a)) (hy : ev fr y = some (.int .i64 b)) (h1 : -9223372036854775808 ≤ a * b) (h2 : a * b ≤ 9223372036854775807) : OV P C fr hp ⟨dst, .binOp .mul xt x y yt, ty, pos, aft, g⟩ (.int .i64 (a * b)) :=
  by have := ov_mulw (P := P) (C := C) (hp := hp) (dst := dst) (ty := ty) (pos := pos) (aft := aft) (g := g) (xt := xt) (yt := yt) hx hy; rw [wrap_in _ h1 h2] at this; exact this
theorem ov_quo {xt yt : TypeId} {x y : Operand} {ik : IntKind} {a b : Int} (hx : ev fr x = some (.int ik a)) (hy : ev fr y = some (.int ik b)) (h0 : b ≠ 0) : OV P C fr hp ⟨dst, .binOp .quo xt x y yt, ty, pos, aft, g⟩ (.int ik (ik.wrap (a.tdiv b))) :=
  ov_pure (fun r w hr => by simp [execOp, hr _ _ hx, hr _ _ hy, eqGuard, binOp, Op.intDiv, h0])
theorem ov_rem {xt yt : TypeId} {x y : Operand} {ik : IntKind} {a b : Int} (hx : ev fr x = some (.int ik a)) (hy : ev fr y = some (.int ik b)) (h0 : b ≠ 0) : OV P C fr hp ⟨dst, .binOp .rem xt x y yt, ty, pos, aft, g⟩ (.int ik (a.tmod b)) :=
  ov_pure (fun r w hr => by simp [execOp, hr _ _ hx, hr _ _ hy, eqGuard, binOp, Op.intDiv, h0])
theorem ov_eq {xt yt : TypeId} {x y : Operand} {ik : IntKind} {a b : Int} (hx : ev fr x = some (.int ik a)) (hy : ev fr y = some (.int ik b)) : OV P C fr hp ⟨dst, .binOp .eql xt x y yt, ty, pos, aft, g⟩ (.bool (decide (a = b))) :=
  ov_pure (fun r w hr => by simp [execOp, hr _ _ hx, hr _ _ hy, eqGuard, binOp, Op.intCmp]; rfl)
theorem ov_ne {xt yt : TypeId} {x y : Operand} {ik : IntKind} {a b : Int} (hx : ev fr x = some (.int ik a)) (hy : ev fr y = some (.int ik b)) : OV P C fr hp ⟨dst, .binOp .neq xt x y yt, ty, pos, aft, g⟩ (.bool (!decide (a = b))) :=
  ov_pure (fun r w hr => by simp [execOp, hr _ _ hx, hr _ _ hy, eqGuard, binOp, Op.intCmp]; rfl)
theorem ov_lt {xt yt : TypeId} {x y : Operand} {ik : IntKind} {a b : Int} (hx : ev fr x = some (.int ik a)) (hy : ev fr y = some (.int ik b)) : OV P C fr hp ⟨dst, .binOp .lss xt x y yt, ty, pos, aft, g⟩ (.bool (decide (a < b))) :=
  ov_pure (fun r w hr => by simp [execOp, hr _ _ hx, hr _ _ hy, eqGuard, binOp, Op.intCmp])
theorem ov_le {xt yt : TypeId} {x y : Operand} {ik : IntKind} {a b : Int} (hx : ev fr x = some (.int ik a)) (hy : ev fr y = some (.int ik b)) : OV P C fr hp ⟨dst, .binOp .leq xt x y yt, ty, pos, aft, g⟩ (.bool (decide (a ≤ b))) :=
  ov_pure (fun r w hr => by simp [execOp, hr _ _ hx, hr _ _ hy, eqGuard, binOp, Op.intCmp])
theorem ov_gt {xt yt : TypeId} {x y : Operand} {ik : IntKind} {a b : Int} (hx : ev fr x = some (.int ik a)) (hy : ev fr y = some (.int ik b)) : OV P C fr hp ⟨dst, .binOp .gtr xt x y yt, ty, pos, aft, g⟩ (.bool (decide (b < a))) :=
  ov_pure (fun r w hr => by simp [execOp, hr _ _ hx, hr _ _ hy, eqGuard, binOp, Op.intCmp])
theorem ov_ge {xt yt : TypeId} {x y : Operand} {ik : IntKind} {a b : Int} (hx : ev fr x = some (.int ik a)) (hy : ev fr y = some (.int ik b)) : OV P C fr hp ⟨dst, .binOp .geq xt x y yt, ty, pos, aft, g⟩ (.bool (decide (b ≤ a))) :=
  ov_pure (fun r w hr => by simp [execOp, hr _ _ hx, hr _ _ hy, eqGuard, binOp, Op.intCmp])
theorem ov_not {xt : TypeId} {x : Operand} {b : Bool} (hx : ev fr x = some (.bool b)) : OV P C fr hp ⟨dst, .unOp .not xt x, ty, pos, aft, g⟩ (.bool (!b)) :=
  ov_pure (fun r w hr => by simp [execOp, hr _ _ hx, Op.unary])
theorem ov_negw {xt : TypeId} {x : Operand} {ik : IntKind} {n : Int} (hx : ev fr x = some (.int ik n)) : OV P C fr hp ⟨dst, .unOp .neg xt x, ty, pos, aft, g⟩ (.int ik (ik.wrap (0 - n))) :=
  ov_pure (fun r w hr => by simp [execOp, hr _ _ hx, Op.unary, Op.intArith])
theorem ov_eqb {xt yt : TypeId} [TU P xt .bool] {x y : Operand} {a b : Bool} (hx : ev fr x = some (.bool a)) (hy : ev fr y = some (.bool b)) : OV P C fr hp ⟨dst, .binOp .eql xt x y yt, ty, pos, aft, g⟩ (.bool (a == b)) :=
  ov_pure (fun r w hr => by simp [execOp, hr _ _ hx, hr _ _ hy, eqGuard, run_eql_bool w xt _ _ (TU.h (P := P) (t := xt))])
theorem ov_neb {xt yt : TypeId} [TU P xt .bool] {x y : Operand} {a b : Bool} (hx : ev fr x = some (.bool a)) (hy : ev fr y = some (.bool b)) : OV P C fr hp ⟨dst, .binOp .neq xt x y yt, ty, pos, aft, g⟩ (.bool (!(a == b))) :=
  ov_pure (fun r w hr => by simp [execOp, hr _ _ hx, hr _ _ hy, eqGuard, run_neq_bool w xt _ _ (TU.h (P := P) (t := xt))])
theorem ov_conv {st dt : TypeId} {sd : TypeDesc} {ik jk : IntKind} [TU P st sd] [TU P dt (.int ik)] {x : Operand} {n : Int} (hx : ev fr x = some (.int jk n)) : OV P C fr hp ⟨dst, .convert st dt x, ty, pos, aft, g⟩ (.int ik (ik.wrap n)) :=
  ov_pure (fun r w hr => by simp [execOp, hr _ _ hx, convert, underlying, TU.h (P := P) (t := st), TU.h (P := P) (t := dt), Conv.intToInt])
/-! narrower kinds, where nothing wraps -/
theorem wrap_in_i32 (n : Int) (h1 : -2147483648 ≤ n) (h2 : n ≤ 2147483647) : IntKind.i32.wrap n = n := by
  simp [IntKind.wrap, IntKind.bits, IntKind.signed]
  split <;> omega
theorem wrap_in_u8 (n : Int) (h1 : 0 ≤ n) (h2 : n ≤ 255) : IntKind.u8.wrap n = n := by
  simp [IntKind.wrap, IntKind.bits, IntKind.signed]
  omega
theorem wrap_in_u32 (n : Int) (h1 : 0 ≤ n) (h2 : n ≤ 4294967295) : IntKind.u32.wrap n = n := by
  simp [IntKind.wrap, IntKind.bits, IntKind.signed]
  omega
theorem wrap_in_u64 (n : Int) (h1 : 0 ≤ n) (h2 : n ≤ 18446744073709551615) : IntKind.u64.wrap n = n := by
  simp [IntKind.wrap, IntKind.bits, IntKind.signed]
  omega
theorem ov_add_i32 {xt yt : TypeId} {x y : Operand} {a b : Int} (hx : ev fr x = some (.int .i32 a)) (hy : ev fr y = some (.int .i32 b)) (h1 : -2147483648 ≤ a + b) (h2 : a + b ≤ 2147483647) : OV P C fr hp ⟨dst, .binOp .add xt x y yt, ty, pos, aft, g⟩ (.int .i32 (a + b)) :=
  by have := ov_addw (P := P) (C := C) (hp := hp) (dst := dst) (ty := ty) (pos := pos) (aft := aft) (g := g) (xt := xt) (yt := yt) hx hy; rw [wrap_in_i32 _ h1 h2] at this; exact this
theorem ov_sub_i32 {xt yt : TypeId} {x y : Operand} {a b : Int} (hx : ev fr x = some (.int .i32 a)) (hy : ev fr y = some (.int .i32 b)) (h1 : -2147483648 ≤ a - b) (h2 : a - b ≤ 2147483647) : OV P C fr hp ⟨dst, .binOp .sub xt x y yt, ty, pos, aft, g⟩ (.int .i32 (a - b)) :=
  by have := ov_subw (P := P) (C := C) (hp := hp) (dst := dst) (ty := ty) (pos := pos) (aft := aft) (g := g) (xt := xt) (yt := yt) hx hy; rw [wrap_in_i32 _ h1 h2] at this; exact this
theorem ov_mul_i32 {xt yt : TypeId} {x y : Operand} {a b : Int} (hx : ev fr x = some (.int .i32 a)) (hy : ev fr y = some (.int .i32 b)) (h1 : -2147483648 ≤ a * b) (h2 : a * b ≤ 2147483647) : OV P C fr hp ⟨dst, .binOp .mul xt x y yt, ty, pos, aft, g⟩ (.int .i32 (a * b)) :=
  by have := ov_mulw (P := P) (C := C) (hp := hp) (dst := dst) (ty := ty) (pos := pos) (aft := aft) (g := g) (xt := xt) (yt := yt) hx hy; rw [wrap_in_i32 _ h1 h2] at this; exact this
theorem ov_quo_i32 {xt yt : TypeId} {x y : Operand} {a b : Int} (hx : ev fr x = some (.int .i32 a)) (hy : ev fr y = some (.int .i32 b)) (h1 : 0 ≤ a) (h2 : a ≤ 2147483647) (h3 : 0 < b) : OV P C fr hp ⟨dst, .binOp .quo xt x y yt, ty, pos, aft, g⟩ (.int .i32 (a / b)) :=
  by
  have := ov_quo (P := P) (C := C) (hp := hp) (dst := dst) (ty := ty) (pos := pos) (aft := aft) (g := g) (xt := xt) (yt := yt) hx hy (by omega)
  have h4 : 0 ≤ a / b := Int.ediv_nonneg h1 (by omega)
  have h5 : a / b ≤ a := Int.ediv_le_self _ h1
  rw [Int.tdiv_eq_ediv_of_nonneg h1, wrap_in_i32 _ (by omega) (by omega)] at this; exact this
theorem ov_conv_i32 {st dt : TypeId} {sd : TypeDesc} {jk : IntKind} [TU P st sd] [TU P dt (.int .i32)] {x : Operand} {n : Int} (hx : ev fr x = some (.int jk n)) (h1 : -2147483648 ≤ n) (h2 : n ≤ 2147483647) : OV P C fr hp ⟨dst, .convert st dt x, ty, pos, aft, g⟩ (.int .i32 n) :=
  by have := ov_conv (P := P) (C := C) (hp := hp) (dst := dst) (ty := ty) (pos := pos) (aft := aft) (g := g) (st := st) (dt := dt) (sd := sd) (ik := .i32) hx; rw [wrap_in_i32 _ h1 h2] at this; exact this
theorem ov_add_u8 {xt yt : TypeId} {x y : Operand} {a b : Int} (hx : ev fr x = some (.int .u8 a)) (hy : ev fr y = some (.int .u8 b)) (h1 : 0 ≤ a + b) (h2 : a + b ≤ 255) : OV P C fr hp ⟨dst, .binOp .add xt x y yt, ty, pos, aft, g⟩ (.int .u8 (a + b)) :=
  by have := ov_addw (P := P) (C := C) (hp := hp) (dst := dst) (ty := ty) (pos := pos) (aft := aft) (g := g) (xt := xt) (yt := yt) hx hy; rw [wrap_in_u8 _ h1 h2] at this; exact this
theorem ov_sub_u8 {xt yt : TypeId} {x y : Operand} {a b : Int} (hx : ev fr x = some (.int .u8 a)) (hy : ev fr y = some (.int .u8 b)) (h1 : 0 ≤ a - b) (h2 : a - b ≤ 255) : OV P C fr hp ⟨dst, .binOp .sub xt x y yt, ty, pos, aft, g⟩ (.int .u8 (a - b)) :=
  by have := ov_subw (P := P) (C := C) (hp := hp) (dst := dst) (ty := ty) (pos := pos) (aft := aft) (g := g) (xt := xt) (yt := yt) hx hy; rw [wrap_in_u8 _ h1 h2] at this; exact this
theorem ov_mul_u8 {xt yt : TypeId} {x y : Operand} {a b : Int} (hx : ev fr x = some (.int .u8 a)) (hy : ev fr y = some (.int .u8 b)) (h1 : 0 ≤ a * b) (h2 : a * b ≤ 255) : OV P C fr hp ⟨dst, .binOp .mul xt x y yt, ty, pos, aft, g⟩ (.int .u8 (a * b)) :=
  by have := ov_mulw (P := P) (C := C) (hp := hp) (dst := dst) (ty := ty) (pos := pos) (aft := aft) (g := g) (xt := xt) (yt := yt) hx hy; rw [wrap_in_u8 _ h1 h2] at this; exact this
theorem ov_quo_u8 {xt yt : TypeId} {x y : Operand} {a b : Int} (hx : ev fr x = some (.int .u8 a)) (hy : ev fr y = some (.int .u8 b)) (h1 : 0 ≤ a) (h2 : a ≤ 255) (h3 : 0 < b) : OV P C fr hp ⟨dst, .binOp .quo xt x y yt, ty, pos, aft, g⟩ (.int .u8 (a / b)) :=
  by
  have := ov_quo (P := P) (C := C) (hp := hp) (dst := dst) (ty := ty) (pos := pos) (aft := aft) (g := g) (xt := xt) (yt := yt) hx hy (by omega)
  have h4 : 0 ≤ a / b := Int.ediv_nonneg h1 (by omega)
  have h5 : a / b ≤ a := Int.ediv_le_self _ h1
  rw [Int.tdiv_eq_ediv_of_nonneg h1, wrap_in_u8 _ (by omega) (by omega)] at this; exact this
theorem ov_conv_u8 {st dt : TypeId} {sd : TypeDesc} {jk : IntKind} [TU P st sd] [TU P dt (.int .u8)] {x : Operand} {n : Int} (hx : ev fr x = some (.int jk n)) (h1 : 0 ≤ n) (h2 : n ≤ 255) : OV P C fr hp ⟨dst, .convert st dt x, ty, pos, aft, g⟩ (.int .u8 n) :=
  by have := ov_conv (P := P) (C := C) (hp := hp) (dst := dst) (ty := ty) (pos := pos) (aft := aft) (g := g) (st := st) (dt := dt) (sd := sd) (ik := .u8) hx; rw [wrap_in_u8 _ h1 h2] at this; exact this
theorem ov_add_u32 {xt yt : TypeId} {x y : Operand} {a b : Int} (hx : ev fr x = some (.int .u32 a)) (hy : ev fr y = some (.int .u32 b)) (h1 : 0 ≤ a + b) (h2 : a + b ≤ 4294967295) : OV P C fr hp ⟨dst, .binOp .add xt x y yt, ty, pos, aft, g⟩ (.int .u32 (a + b)) :=
  by have := ov_addw (P := P) (C := C) (hp := hp) (dst := dst) (ty := ty) (pos := pos) (aft := aft) (g := g) (xt := xt) (yt := yt) hx hy; rw [wrap_in_u32 _ h1 h2] at this; exact this
theorem ov_sub_u32 {xt yt : TypeId} {x y : Operand} {a b : Int} (hx : ev fr x = some (.int .u32 a)) (hy : ev fr y = some (.int .u32 b)) (h1 : 0 ≤ a - b) (h2 : a - b ≤ 4294967295) : OV P C fr hp ⟨dst, .binOp .sub xt x y yt, ty, pos, aft, g⟩ (.int .u32 (a - b)) :=
  by have := ov_subw (P := P) (C := C) (hp := hp) (dst := dst) (ty := ty) (pos := pos) (aft := aft) (g := g) (xt := xt) (yt := yt) hx hy; rw [wrap_in_u32 _ h1 h2] at this; exact this
theorem ov_mul_u32 {xt yt : TypeId} {x y : Operand} {a b : Int} (hx : ev fr x = some (.int .u32 a)) (hy : ev fr y = some (.int .u32 b)) (h1 : 0 ≤ a * b) (h2 : a * b ≤ 4294967295) : OV P C fr hp ⟨dst, .binOp .mul xt x y yt, ty, pos, aft, g⟩ (.int .u32 (a * b)) :=
  by have := ov_mulw (P := P) (C := C) (hp := hp) (dst := dst) (ty := ty) (pos := pos) (aft := aft) (g := g) (xt := xt) (yt := yt) hx hy; rw [wrap_in_u32 _ h1 h2] at this; exact this
theorem ov_quo_u32 {xt yt : TypeId} {x y : Operand} {a b : Int} (hx : ev fr x = some (.int .u32 a)) (hy : ev fr y = some (.int .u32 b)) (h1 : 0 ≤ a) (h2 : a ≤ 4294967295) (h3 : 0 < b) : OV P C fr hp ⟨dst, .binOp .quo xt x y yt, ty, pos, aft, g⟩ (.int .u32 (a / b)) :=
  by
  have := ov_quo (P := P) (C := C) (hp := hp) (dst := dst) (ty := ty) (pos := pos) (aft := aft) (g := g) (xt := xt) (yt := yt) hx hy (by omega)
  have h4 : 0 ≤ a / b := Int.ediv_nonneg h1 (by omega)
  have h5 : a / b ≤ a := Int.ediv_le_self _ h1
  rw [Int.tdiv_eq_ediv_of_nonneg h1, wrap_in_u32 _ (by omega) (by omega)] at this; exact this
theorem ov_conv_u32 {st dt : TypeId} {sd : TypeDesc} {jk : IntKind} [TU P st sd] [TU P dt (.int .u32)] {x : Operand} {n : Int} (hx : ev fr x = some (.int jk n)) (h1 : 0 ≤ n) (h2 : n ≤ 4294967295) : OV P C fr hp ⟨dst, .convert st dt x, ty, pos, aft, g⟩ (.int .u32 n) :=
  by have := ov_conv (P := P) (C := C) (hp := hp) (dst := dst) (ty := ty) (pos := pos) (aft := aft) (g := g) (st := st) (dt := dt) (sd := sd) (ik := .u32) hx; rw [wrap_in_u32 _ h1 h2] at this; exact this
theorem ov_add_u64 {xt yt : TypeId} {x y : Operand} {a b : Int} (hx : ev fr x = some (.int .u64 a)) (hy : ev fr y = some (.int .u64 b)) (h1 : 0 ≤ a + b) (h2 : a + b ≤ 18446744073709551615) : OV P C fr hp ⟨dst, .binOp .add xt x y yt, ty, pos, aft, g⟩ (.int .u64 (a + b)) :=
  by have := ov_addw (P := P) (C := C) (hp := hp) (dst := dst) (ty := ty) (pos := pos) (aft := aft) (g := g) (xt := xt) (yt := yt) hx hy; rw [wrap_in_u64 _ h1 h2] at this; exact this
theorem ov_sub_u64 {xt yt : TypeId} {x y : Operand} {a b : Int} (hx : ev fr x = some (.int .u64 a)) (hy : ev fr y = some (.int .u64 b)) (h1 : 0 ≤ a - b) (h2 : a - b ≤ 18446744073709551615) : OV P C fr hp ⟨dst, .binOp .sub xt x y yt, ty, pos, aft, g⟩ (.int .u64 (a - b)) :=
  by have := ov_subw (P := P) (C := C) (hp := hp) (dst := dst) (ty := ty) (pos := pos) (aft := aft) (g := g) (xt := xt) (yt := yt) hx hy; rw [wrap_in_u64 _ h1 h2] at this; exact this
theorem ov_mul_u64 {xt yt : TypeId} {x y : Operand} {a b : Int} (hx : ev fr x = some (.int .u64 a)) (hy : ev fr y = some (.int .u64 b)) (h1 : 0 ≤ a * b) (h2 : a * b ≤ 18446744073709551615) : OV P C fr hp ⟨dst, .binOp .mul xt x y yt, ty, pos, aft, g⟩ (.int .u64 (a * b)) :=
  by have := ov_mulw (P := P) (C := C) (hp := hp) (dst := dst) (ty := ty) (pos := pos) (aft := aft) (g := g) (xt := xt) (yt := yt) hx hy; rw [wrap_in_u64 _ h1 h2] at this; exact this
theorem ov_quo_u64 {xt yt : TypeId} {x y : Operand} {a b : Int} (hx : ev fr x = some (.int .u64 a)) (hy : ev fr y = some (.int .u64 b)) (h1 : 0 ≤ a) (h2 : a ≤ 18446744073709551615) (h3 : 0 < b) : OV P C fr hp ⟨dst, .binOp .quo xt x y yt, ty, pos, aft, g⟩ (.int .u64 (a / b)) :=
  by
  have := ov_quo (P := P) (C := C) (hp := hp) (dst := dst) (ty := ty) (pos := pos) (aft := aft) (g := g) (xt := xt) (yt := yt) hx hy (by omega)
  have h4 : 0 ≤ a / b := Int.ediv_nonneg h1 (by omega)
  have h5 : a / b ≤ a := Int.ediv_le_self _ h1
  rw [Int.tdiv_eq_ediv_of_nonneg h1, wrap_in_u64 _ (by omega) (by omega)] at this; exact this
theorem ov_conv_u64 {st dt : TypeId} {sd : TypeDesc} {jk : IntKind} [TU P st sd] [TU P dt (.int .u64)] {x : Operand} {n : Int} (hx : ev fr x = some (.int jk n)) (h1 : 0 ≤ n) (h2 : n ≤ 18446744073709551615) : OV P C fr hp ⟨dst, .convert st dt x, ty, pos, aft, g⟩ (.int .u64 n) :=
  by have := ov_conv (P := P) (C := C) (hp := hp) (dst := dst) (ty := ty) (pos := pos) (aft := aft) (g := g) (st := st) (dt := dt) (sd := sd) (ik := .u64) hx; rw [wrap_in_u64 _ h1 h2] at this; exact this
theorem ov_quo_i64 {xt yt : TypeId} {x y : Operand} {a b : Int} (hx : ev fr x = some (.int .i64 a)) (hy : ev fr y = some (.int .i64 b)) (h1 : 0 ≤ a) (h2 : a ≤ 9223372036854775807) (h3 : 0 < b) : OV P C fr hp ⟨dst, .binOp .quo xt x y yt, ty, pos, aft, g⟩ (.int .i64 (a / b)) :=
  by
  have := ov_quo (P := P) (C := C) (hp := hp) (dst := dst) (ty := ty) (pos := pos) (aft := aft) (g := g) (xt := xt) (yt := yt) hx hy (by omega)
  have h4 : 0 ≤ a / b := Int.ediv_nonneg h1 (by omega)
  have h5 : a / b ≤ a := Int.ediv_le_self _ h1
  rw [Int.tdiv_eq_ediv_of_nonneg h1, wrap_in _ (by omega) (by omega)] at this; exact this
theorem ov_conv_i64 {st dt : TypeId} {sd : TypeDesc} {jk : IntKind} [TU P st sd] [TU P dt (.int .i64)] {x : Operand} {n : Int} (hx : ev fr x = some (.int jk n)) (h1 : -9223372036854775808 ≤ n) (h2 : n ≤ 9223372036854775807) : OV P C fr hp ⟨dst, .convert st dt x, ty, pos, aft, g⟩ (.int .i64 n) :=
  by have := ov_conv (P := P) (C := C) (hp := hp) (dst := dst) (ty := ty) (pos := pos) (aft := aft) (g := g) (st := st) (dt := dt) (sd := sd) (ik := .i64) hx; rw [wrap_in _ h1 h2] at this; exact this
theorem ov_rem_n {xt yt : TypeId} {x y : Operand} {ik : IntKind} {a b : Int} (hx : ev fr x = some (.int ik a)) (hy : ev fr y = some (.int ik b)) (h1 : 0 ≤ a) (h3 : 0 < b) : OV P C fr hp ⟨dst, .binOp .rem xt x y yt, ty, pos, aft, g⟩ (.int ik (a % b)) :=
  by have := ov_rem (P := P) (C := C) (hp := hp) (dst := dst) (ty := ty) (pos := pos) (aft := aft) (g := g) (xt := xt) (yt := yt) hx hy (by omega); rw [Int.tmod_eq_emod_of_nonneg h1] at this; exact this
/-! strings -/
/-- A text as a value. -/
abbrev S (s : List UInt8) : Value := .string ⟨⟨s⟩⟩
/-- The byte at a place. -/
def bt (s : List UInt8) (i : Int) : Int := ((s.getD i.toNat 0).toNat : Int)
theorem bt_bd (s : List UInt8) (i : Int) : 0 ≤ bt s i ∧ bt s i ≤ 255 := by unfold bt; have := (s.getD i.toNat 0).toNat_lt; omega
theorem size_mk (s : List UInt8) : (ByteArray.mk ⟨s⟩).size = s.length := rfl
theorem toList_mk (s : List UInt8) : (ByteArray.mk ⟨s⟩).toList = s := by rw [ByteArray.toList_eq]
theorem ov_len {t : TypeId} [TU P t .string] {x : Operand} {s : List UInt8} (hx : ev fr x = some (S s)) : OV P C fr hp ⟨dst, .call ⟨.builtin .len, #[x], #[t]⟩, ty, pos, aft, g⟩ (.int .i64 (s.length : Int)) :=
  ov_pure (fun r w hr => by simp [execOp, hr _ _ hx, resolve, invoke, builtin, Builtin.len_, underlying, TU.h (P := P) (t := t), goInt, size_mk])
theorem ov_index {t : TypeId} [TU P t .string] {x y : Operand} {s : List UInt8} {ik : IntKind} {i : Int} (hx : ev fr x = some (S s)) (hy : ev fr y = some (.int ik i)) (h0 : 0 ≤ i) (h1 : i < s.length) : OV P C fr hp ⟨dst, .index t x y, ty, pos, aft, g⟩ (.int .u8 (bt s i)) :=
  ov_pure (fun r w hr => by
    have h2 : i.toNat < s.length := by omega
    have h3 : (ByteArray.mk ⟨s⟩)[i.toNat]? = some (s.getD i.toNat 0) := by
      have h4 : i.toNat < (ByteArray.mk ⟨s⟩).size := h2
      rw [getElem?_pos (ByteArray.mk ⟨s⟩) i.toNat h4]
      congr 1
      show s[i.toNat] = _
      simp [List.getD, h2]
    simp [execOp, hr _ _ hx, hr _ _ hy, Instr.index, asIntOf, underlying, TU.h (P := P) (t := t), h0, h3, bt])
theorem ov_cat {xt yt : TypeId} {x y : Operand} {s u : List UInt8} (hx : ev fr x = some (S s)) (hy : ev fr y = some (S u)) (h1 : s.length + u.length ≤ 9223372036854775807) : OV P C fr hp ⟨dst, .binOp .add xt x y yt, ty, pos, aft, g⟩ (S (s ++ u)) :=
  ov_pure (fun r w hr => by
    have h2 : (ByteArray.mk ⟨s⟩) ++ (ByteArray.mk ⟨u⟩) = ByteArray.mk ⟨s ++ u⟩ := by apply ByteArray.ext; simp
    have h3 : (s.length : Int) + (u.length : Int) ≤ IntKind.i64.max := by show _ ≤ (9223372036854775807 : Int); omega
    have h4 : (s.length : Int) + (u.length : Int) ≤ 9223372036854775807 := by omega
    simp [execOp, hr _ _ hx, hr _ _ hy, eqGuard, binOp, Op.stringOp, size_mk, h2, h3, h4])
theorem ov_eqs {xt yt : TypeId} {x y : Operand} {s u : List UInt8} (hx : ev fr x = some (S s)) (hy : ev fr y = some (S u)) : OV P C fr hp ⟨dst, .binOp .eql xt x y yt, ty, pos, aft, g⟩ (.bool (decide (s = u))) :=
  ov_pure (fun r w hr => by
    have : (s == u) = decide (s = u) := by by_cases h : s = u <;> simp [h]
    simp [execOp, hr _ _ hx, hr _ _ hy, eqGuard, binOp, Op.stringOp, toList_mk, this])
theorem ov_nes {xt yt : TypeId} {x y : Operand} {s u : List UInt8} (hx : ev fr x = some (S s)) (hy : ev fr y = some (S u)) : OV P C fr hp ⟨dst, .binOp .neq xt x y yt, ty, pos, aft, g⟩ (.bool (!decide (s = u))) :=
  ov_pure (fun r w hr => by
    have : (s == u) = decide (s = u) := by by_cases h : s = u <;> simp [h]
    simp [execOp, hr _ _ hx, hr _ _ hy, eqGuard, binOp, Op.stringOp, toList_mk, this])
theorem extract_mk (s : List UInt8) (a b : Nat) : (ByteArray.mk ⟨s⟩).extract a b = ByteArray.mk ⟨(s.drop a).take (b - a)⟩ := by
  apply ByteArray.ext; rw [ByteArray.data_extract]; apply Array.toList_inj.1; rw [Array.toList_extract, List.extract_eq_take_drop]
theorem ov_slice {t : TypeId} [TU P t .string] {x y z : Operand} {s : List UInt8} {ik jk : IntKind} {i j : Int} (hx : ev fr x = some (S s)) (hy : ev fr y = some (.int ik i)) (hz : ev fr z = some (.int jk j)) (h0 : 0 ≤ i) (h1 : i ≤ j) (h2 : j ≤ s.length) : OV P C fr hp ⟨dst, .slice t x (some y) (some z) none, ty, pos, aft, g⟩ (S ((s.drop i.toNat).take (j - i).toNat)) :=
  ov_pure (fun r w hr => by
    have h3 : j.toNat - i.toNat = (j - i).toNat := by omega
    have h4 : 0 ≤ j := by omega
    have h5 : i ≤ max j 0 := by omega
    simp [execOp, hr _ _ hx, hr _ _ hy, hr _ _ hz, Instr.sliceAt, Instr.slice, Instr.sliceBounds, Instr.sliceBound, asIntOf, underlying, TU.h (P := P) (t := t), size_mk, h0, h1, h2, h4, h5, extract_mk, h3])
theorem ov_slice_lo {t : TypeId} [TU P t .string] {x y : Operand} {s : List UInt8} {ik : IntKind} {i : Int} (hx : ev fr x = some (S s)) (hy : ev fr y = some (.int ik i)) (h0 : 0 ≤ i) (h1 : i ≤ s.length) : OV P C fr hp ⟨dst, .slice t x (some y) none none, ty, pos, aft, g⟩ (S (s.drop i.toNat)) :=
  ov_pure (fun r w hr => by
    have h3 : (s.drop i.toNat).take (s.length - i.toNat) = s.drop i.toNat := by apply List.take_of_length_le; simp
    simp [execOp, hr _ _ hx, hr _ _ hy, Instr.sliceAt, Instr.slice, Instr.sliceBounds, Instr.sliceBound, asIntOf, underlying, TU.h (P := P) (t := t), size_mk, h0, h1, extract_mk, h3])
theorem ov_slice_hi {t : TypeId} [TU P t .string] {x z : Operand} {s : List UInt8} {jk : IntKind} {j : Int} (hx : ev fr x = some (S s)) (hz : ev fr z = some (.int jk j)) (h1 : 0 ≤ j) (h2 : j ≤ s.length) : OV P C fr hp ⟨dst, .slice t x none (some z) none, ty, pos, aft, g⟩ (S (s.take j.toNat)) :=
  ov_pure (fun r w hr => by
    simp [execOp, hr _ _ hx, hr _ _ hz, Instr.sliceAt, Instr.slice, Instr.sliceBounds, Instr.sliceBound, asIntOf, underlying, TU.h (P := P) (t := t), size_mk, h1, h2, extract_mk])
/-! results of calls, parts of structs -/
theorem ov_extract {x : Operand} {vs : List Value} {i : Nat} {v : Value} (hx : ev fr x = some (.tuple ⟨vs⟩)) (hi : vs[i]? = some v) : OV P C fr hp ⟨dst, .extract x i, ty, pos, aft, g⟩ v :=
  ov_pure (fun r w hr => by simp [execOp, hr _ _ hx, Instr.extract, hi])
/-- Several operands at once. -/
def evs (fr : Fr) : List Operand → Option (List Value)
  | [] => some []
  | x :: r => match ev fr x, evs fr r with
    | some v, some vs => some (v :: vs)
    | _, _ => none
theorem FrOk.evs {n : Nat} {fr : Fr} {a : Act} (h : FrOk n fr a) : ∀ {xs : List Operand} {vs : List Value}, evs fr xs = some vs → xs.map a.eval = vs
  | [], vs, hx => by have := Option.some.inj hx; subst this; rfl
  | x :: r, vs, hx => by
    unfold Go.Proofs.Yteiejcililponaa.evs at hx
    split at hx
    · rename_i v us h1 h2
      have := Option.some.inj hx; subst this
      rw [List.map_cons, h.ev h1, h.evs h2]
    · cases hx
theorem evs_map {r : Operand → Value} (h : ∀ x u, ev fr x = some u → r x = u) : ∀ {xs : List Operand} {vs : List Value}, evs fr xs = some vs → xs.map r = vs
  | [], vs, hx => by have := Option.some.inj hx; subst this; rfl
  | x :: l, vs, hx => by
    unfold evs at hx
    split at hx
    · rename_i v us h1 h2
      have := Option.some.inj hx; subst this
      rw [List.map_cons, h _ _ h1, evs_map h h2]
    · cases hx
theorem sy_callw {f : FuncId} {fn : Func} [hfn : FN P f fn] {args : List Operand} {ats : Array TypeId} {vs : List Value} {R : Ending → World → Prop} (hx : evs fr args = some vs) (hf : Fits C.n dst)
    (hc : ∀ w, HpOk C.D C.w0 hp w → Calls P f vs.toArray w R)
    (hk : ∀ w w', HpOk C.D C.w0 hp w → ∀ e, R e w' → ∃ v hp', e = .returned v ∧ HpOk C.D C.w0 hp' w' ∧ Sy P C (.o all l :: k) (put dst v fr) hp') : Sy P C (.o all (⟨dst, .call ⟨.value (.func f), ⟨args⟩, ats⟩, ty, pos, aft, none⟩ :: l) :: k) fr hp :=
  sy_op rfl fun a w ha hw => by
    unfold Oper.wp
    have h1 : ¬ fn.name = "runtime.NumGoroutine" := by simpa using hfn.name
    have h2 : ¬ fn.body = none := by have := hfn.body; cases hx : fn.body <;> simp_all
    have hr : (execOp a.eval ⟨dst, .call ⟨.value (.func f), ⟨args⟩, ats⟩, ty, pos, aft, none⟩).run P w = .ok (.enter f vs.toArray) w := by
      unfold execOp
      simp [resolve, Deferred.ofValue, invoke, callFunc, hfn.h, h1, h2, Act.eval, ha.evs hx]
    rw [hr]
    refine (hc w hw).mono fun e w' he => ?_
    obtain ⟨v, hp', rfl, hw', hs⟩ := hk w w' hw e he
    exact hs.go _ _ (ha.put hf v) hw'
theorem ov_call {f : FuncId} {fn : Func} [hfn : FN P f fn] {args : List Operand} {ats : Array TypeId} {vs : List Value} {v : Value} (hx : evs fr args = some vs)
    (hc : ∀ w, HpOk C.D C.w0 hp w → Calls P f vs.toArray w fun e w' => e = .returned v ∧ Below w.heap.size w w') : OV P C fr hp ⟨dst, .call ⟨.value (.func f), ⟨args⟩, ats⟩, ty, pos, aft, g⟩ v :=
  .mk fun r w hr hw => by
    have h1 : ¬ fn.name = "runtime.NumGoroutine" := by simpa using hfn.name
    have h2 : ¬ fn.body = none := by have := hfn.body; cases hx : fn.body <;> simp_all
    have h3 : r (.func f) = .func (.func f) #[] #[] := hr _ _ rfl
    have he : (execOp r ⟨dst, .call ⟨.value (.func f), ⟨args⟩, ats⟩, ty, pos, aft, g⟩).run P w = .ok (.enter f vs.toArray) w := by
      unfold execOp
      simp [resolve, Deferred.ofValue, invoke, callFunc, hfn.h, h1, h2, h3, evs_map hr hx]
    rw [he]
    exact (hc w hw).mono fun e w' he => ⟨he.1, hw.step he.2⟩
/-- A callee that works on a piece of the caller's memory, at place i. -/
theorem sy_call1 {f : FuncId} {fn : Func} [hfn : FN P f fn] {args : List Operand} {ats : Array TypeId} {vs : List Value} {R : Value → En → Prop} (i : Nat) {e : En} (hx : evs fr args = some vs) (hi : hp[i]? = some e) (hf : Fits C.n dst)
    (hc : ∀ w, HpOk C.D C.w0 hp w → e.holds w → (∀ b, e.dom b → b < w.heap.size) → Calls P f vs.toArray w fun x w' => ∃ v e', R v e' ∧ x = .returned v ∧ e'.holds w' ∧ Keep e.dom w w' ∧ ∀ b, e'.dom b → b < w'.heap.size ∧ (e.dom b ∨ w.heap.size ≤ b))
    (hk : ∀ v e', R v e' → Sy P C (.o all l :: k) (put dst v fr) (hp.set i e')) : Sy P C (.o all (⟨dst, .call ⟨.value (.func f), ⟨args⟩, ats⟩, ty, pos, aft, none⟩ :: l) :: k) fr hp :=
  sy_callw hx hf (R := fun x w' => ∃ w, HpOk C.D C.w0 hp w ∧ ∃ v e', R v e' ∧ x = .returned v ∧ e'.holds w' ∧ Keep e.dom w w' ∧ ∀ b, e'.dom b → b < w'.heap.size ∧ (e.dom b ∨ w.heap.size ≤ b))
    (fun w hw => (hc w hw (hw.get hi).1 (fun b hb => ((hw.get hi).2 b hb).2)).mono fun x w' h => ⟨w, hw, h⟩)
    fun _ w' _ x ⟨w, hw, v, e', hR, hx', hh, hkp, hd⟩ => ⟨v, _, hx', hw.regrow hi hh hkp hd, hk v e' hR⟩
/-- A callee whose result lies in new memory. -/
theorem sy_calln {f : FuncId} {fn : Func} [hfn : FN P f fn] {args : List Operand} {ats : Array TypeId} {vs : List Value} {R : Value → En → Prop} (hx : evs fr args = some vs) (hf : Fits C.n dst)
    (hc : ∀ w, HpOk C.D C.w0 hp w → Calls P f vs.toArray w fun x w' => ∃ v e', R v e' ∧ x = .returned v ∧ e'.holds w' ∧ Below w.heap.size w w' ∧ ∀ b, e'.dom b → w.heap.size ≤ b ∧ b < w'.heap.size)
    (hk : ∀ v e', R v e' → Sy P C (.o all l :: k) (put dst v fr) (e' :: hp)) : Sy P C (.o all (⟨dst, .call ⟨.value (.func f), ⟨args⟩, ats⟩, ty, pos, aft, none⟩ :: l) :: k) fr hp :=
  sy_callw hx hf (R := fun x w' => ∃ w, HpOk C.D C.w0 hp w ∧ ∃ v e', R v e' ∧ x = .returned v ∧ e'.holds w' ∧ Below w.heap.size w w' ∧ ∀ b, e'.dom b → w.heap.size ≤ b ∧ b < w'.heap.size)
    (fun w hw => (hc w hw).mono fun x w' h => ⟨w, hw, h⟩)
    fun _ w' _ x ⟨w, hw, v, e', hR, hx', hh, hb, hd⟩ => ⟨v, _, hx', hw.fresh hb e' hh hd, hk v e' hR⟩
end
end Go.Proofs.Yteiejcililponaa
/- A symbolic walk: entering a function, leaving it, loops, memory of the call's own. -/
set_option linter.unusedVariables false
set_option linter.unusedSimpArgs false
namespace Go.Proofs.Yteiejcililponaa
open Go.RowKit

def initFr : List Value → Nat → Fr
  | [], _ => []
  | v :: r, i => (i, v) :: initFr r (i + 1)
theorem get_init : ∀ (l : List Value) (i t : Nat) (v : Value), get t (initFr l i) = some v → i ≤ t ∧ l[t - i]? = some v
  | [], _, _, _, h => by cases h
  | u :: r, i, t, v, h => by
    have h' : cond (Nat.beq t i) (some u) (get t (initFr r (i + 1))) = some v := h
    clear h
    cases hb : Nat.beq t i with
    | true =>
      rw [hb] at h'; simp only [cond_true, Option.some.injEq] at h'
      have e := Nat.eq_of_beq_eq_true hb
      subst e; subst h'; simp
    | false =>
      rw [hb] at h'
      have := get_init r (i + 1) t v h'
      refine ⟨by omega, ?_⟩
      have e : t - i = (t - (i + 1)) + 1 := by omega
      rw [e]; simpa using this.2
section
variable {P : Program} {C : Cx} {k : List It} {fr : Fr} {hp : List En}
theorem sy_enter {f : FuncId} {fn : Func} [hfn : FN P f fn] {c : Code} {args : List Value} {w : World} {R : Ending → World → Prop} (hb : fn.body = some c) (hn : Nat.ble args.length fn.ntmps = true)
    (h : Sy P ⟨fun _ => False, w, fn.ntmps, bodyPost P fn R⟩ [.c c] (initFr args 0) []) : Calls P f args.toArray w R := by
  have hn' : args.length ≤ fn.ntmps := by simpa using hn
  refine calls_of_wp hfn.h hb ?_
  refine h.go _ w ⟨rfl, by simp; omega, fun t v ht => ?_⟩ (HpOk.start _ w)
  have := (get_init args 0 t v ht).2
  simp only [Nat.sub_zero] at this
  have hlt := (List.getElem?_eq_some_iff.1 this).1
  simp only [Array.getD_eq_getD_getElem?]
  rw [Array.getElem?_append_left (by simpa using hlt)]
  simp [this]
/-- Entering a callee that works on a piece of its caller's memory. -/
theorem sy_enter1 {f : FuncId} {fn : Func} [hfn : FN P f fn] {c : Code} {args : List Value} {w : World} {R : Ending → World → Prop} {e : En} (hb : fn.body = some c) (hn : Nat.ble args.length fn.ntmps = true) (he : e.holds w) (hd : ∀ b, e.dom b → b < w.heap.size)
    (h : Sy P ⟨e.dom, w, fn.ntmps, bodyPost P fn R⟩ [.c c] (initFr args 0) [e]) : Calls P f args.toArray w R := by
  have hn' : args.length ≤ fn.ntmps := by simpa using hn
  refine calls_of_wp hfn.h hb ?_
  refine h.go _ w ⟨rfl, by simp; omega, fun t v ht => ?_⟩ (HpOk.start1 e w he hd)
  have := (get_init args 0 t v ht).2
  simp only [Nat.sub_zero] at this
  have hlt := (List.getElem?_eq_some_iff.1 this).1
  simp only [Array.getD_eq_getD_getElem?]
  rw [Array.getElem?_append_left (by simpa using hlt)]
  simp [this]
theorem ret0w {D : Nat → Prop} {w0 : World} {n : Nat} {fn : Func} {R : Ending → World → Prop} (hr : fn.results = #[]) (h : ∀ w, HpOk D w0 hp w → R (.returned (.tuple #[])) w) : Leave P ⟨D, w0, n, bodyPost P fn R⟩ .ret [] fr hp := .mk fun a w ha hw => by
  have hq := results_none hr a.tmps P w
  show bodyPost P fn R .ret a w
  exact bodyPost_ret hq ha.defers (h w hw)
theorem end0w {D : Nat → Prop} {w0 : World} {n : Nat} {fn : Func} {R : Ending → World → Prop} (hr : fn.results = #[]) (h : ∀ w, HpOk D w0 hp w → R (.returned (.tuple #[])) w) : Sy P ⟨D, w0, n, bodyPost P fn R⟩ [] fr hp := .mk fun a w ha hw => by
  have hq := results_none hr a.tmps P w
  show bodyPost P fn R .normal a w
  exact bodyPost_end hq ha.defers (h w hw)
theorem ret1w {D : Nat → Prop} {w0 : World} {n : Nat} {fn : Func} {t : Tmp} {v : Value} {R : Ending → World → Prop} (hr : fn.results = #[.tmp t]) (hv : get t fr = some v) (h : ∀ w, HpOk D w0 hp w → R (.returned v) w) : Leave P ⟨D, w0, n, bodyPost P fn R⟩ .ret [] fr hp := .mk fun a w ha hw => by
  have hq := results_tmp hr a.tmps P w
  rw [ha.slot t v hv] at hq
  show bodyPost P fn R .ret a w
  exact bodyPost_ret hq ha.defers (h w hw)
theorem ret2w {D : Nat → Prop} {w0 : World} {n : Nat} {fn : Func} {t u : Tmp} {v x : Value} {R : Ending → World → Prop} (hr : fn.results = #[.tmp t, .tmp u]) (hv : get t fr = some v) (hx : get u fr = some x) (h : ∀ w, HpOk D w0 hp w → R (.returned (.tuple #[v, x])) w) : Leave P ⟨D, w0, n, bodyPost P fn R⟩ .ret [] fr hp := .mk fun a w ha hw => by
  have hq := results_tmp2 hr a.tmps P w
  rw [ha.slot t v hv, ha.slot u x hx] at hq
  show bodyPost P fn R .ret a w
  exact bodyPost_ret hq ha.defers (h w hw)
theorem ret1 {fn : Func} {t : Tmp} {w0 : World} {n : Nat} {v v0 : Value} (hr : fn.results = #[.tmp t]) (hv : get t fr = some v) (he : v = v0) :
    Leave P ⟨fun _ => False, w0, n, bodyPost P fn fun e w' => e = .returned v0 ∧ Below w0.heap.size w0 w'⟩ .ret [] fr hp := .mk fun a w ha hw => by
  subst he
  have hq := results_tmp hr a.tmps P w
  rw [ha.slot t v hv] at hq
  show bodyPost P fn (fun e w' => e = .returned _ ∧ Below w0.heap.size w0 w') .ret a w
  exact bodyPost_ret hq ha.defers (And.intro rfl hw.below)
theorem ret2 {fn : Func} {t u : Tmp} {w0 : World} {n : Nat} {v x v0 : Value} (hr : fn.results = #[.tmp t, .tmp u]) (hv : get t fr = some v) (hx : get u fr = some x) (he : Value.tuple #[v, x] = v0) :
    Leave P ⟨fun _ => False, w0, n, bodyPost P fn fun e w' => e = .returned v0 ∧ Below w0.heap.size w0 w'⟩ .ret [] fr hp := .mk fun a w ha hw => by
  subst he
  have hq := results_tmp2 hr a.tmps P w
  rw [ha.slot t v hv, ha.slot u x hx] at hq
  show bodyPost P fn (fun e w' => e = .returned _ ∧ Below w0.heap.size w0 w') .ret a w
  exact bodyPost_ret hq ha.defers (And.intro rfl hw.below)
theorem results_tmp3' {fn : Func} {t u r : Tmp} (h : fn.results = #[.tmp t, .tmp u, .tmp r]) (tmps : Array Value) (P : Program) (w : World) :
    (results fn tmps).run P w = .ok (.tuple #[tmps.getD t undef, tmps.getD u undef, tmps.getD r undef]) w := by
  simp [results, h]
theorem ret3 {fn : Func} {t u r : Tmp} {w0 : World} {n : Nat} {v x y v0 : Value} (hr : fn.results = #[.tmp t, .tmp u, .tmp r]) (hv : get t fr = some v) (hx : get u fr = some x) (hy : get r fr = some y) (he : Value.tuple #[v, x, y] = v0) :
    Leave P ⟨fun _ => False, w0, n, bodyPost P fn fun e w' => e = .returned v0 ∧ Below w0.heap.size w0 w'⟩ .ret [] fr hp := .mk fun a w ha hw => by
  subst he
  have hq := results_tmp3' hr a.tmps P w
  rw [ha.slot t v hv, ha.slot u x hx, ha.slot r y hy] at hq
  show bodyPost P fn (fun e w' => e = .returned _ ∧ Below w0.heap.size w0 w') .ret a w
  exact bodyPost_ret hq ha.defers (And.intro rfl hw.below)
/-- What is known at a place of the text is known: it holds of this frame, too. -/
def Sub : Fr → Fr → Prop
  | [], _ => True
  | (t, v) :: r, fr => (∃ u, get t fr = some u ∧ u = v) ∧ Sub r fr
theorem Sub.ok : ∀ {F fr : Fr}, Sub F fr → ∀ t v, get t F = some v → get t fr = some v
  | [], _, _, t, v, h => by cases h
  | (s, u) :: r, fr, hs, t, v, h => by
    obtain ⟨⟨u', h1, rfl⟩, h2⟩ := hs
    have h : cond (Nat.beq t s) (some u') (get t r) = some v := h
    cases hb : Nat.beq t s with
    | true => rw [hb] at h; simp only [cond_true, Option.some.injEq] at h; subst h; rw [Nat.eq_of_beq_eq_true hb]; exact h1
    | false => rw [hb] at h; exact Sub.ok h2 t v h
theorem Sub.frOk {n : Nat} {F fr : Fr} {a : Act} (h : Sub F fr) (ha : FrOk n fr a) : FrOk n F a := ⟨ha.defers, ha.size, fun t v ht => ha.slot t v (h.ok t v ht)⟩
def LoopOk {α : Type} (C : Cx) (F : α → Fr) (H : α → List En) (inv : α → Prop) (a : α) (act : Act) (w : World) : Prop := inv a ∧ FrOk C.n (F a) act ∧ HpOk C.D C.w0 (H a) w
def Bk {α : Type} (C : Cx) (F : α → Fr) (H : α → List En) (inv : α → Prop) (m : α → Nat) (z : Nat) : Act → World → Prop := fun act w => ∃ a, m a < z ∧ LoopOk C F H inv a act w
theorem sy_back {α : Type} {F : α → Fr} {H : α → List En} {inv : α → Prop} {m : α → Nat} {z : Nat} (a : α) (hi : inv a) (hm : m a < z) (hf : Sub (F a) fr) (hh : (H a).Sublist hp) : Sy P C (.back (Bk C F H inv m z) :: k) fr hp :=
  .mk fun act w ha hw => ⟨a, hm, hi, hf.frOk ha, hw.weaken hh⟩
theorem least {p : Nat → Prop} : ∀ z, p z → ∃ y, p y ∧ ∀ x, p x → y ≤ x := by
  intro z
  induction z using Nat.strongRecOn with
  | ind z ih =>
    intro hz
    by_cases h : ∃ y, y < z ∧ p y
    · obtain ⟨y, hy, hp⟩ := h; exact ih y hy hp
    · exact ⟨z, hz, fun x hx => Nat.le_of_not_lt fun hlt => h ⟨x, hlt, hx⟩⟩
open Classical in
theorem sy_loop {α : Type} (F : α → Fr) (H : α → List En) (inv : α → Prop) (m : α → Nat) (a0 : α) {body : Code} (hi : inv a0) (hf : Sub (F a0) fr) (hh : (H a0).Sublist hp)
    (h : ∀ a, inv a → Sy P C (.c body :: .back (Bk C F H inv m (m a)) :: k) (F a) (H a)) : Sy P C (.c (.loop body) :: k) fr hp := by
  constructor
  intro act w ha hw
  let I : Act → World → Prop := fun act w => ∃ a, LoopOk C F H inv a act w
  let p : Act → World → Nat → Prop := fun act w z => ∃ a, LoopOk C F H inv a act w ∧ m a = z
  let μ : Act → World → Nat := fun act w => if hz : ∃ z, p act w z ∧ ∀ x, p act w x → z ≤ x then Classical.choose hz else 0
  have hμ : ∀ act w a, LoopOk C F H inv a act w → p act w (μ act w) ∧ ∀ x, p act w x → μ act w ≤ x := fun act w a ho => by
    have hz : ∃ z, p act w z ∧ ∀ x, p act w x → z ≤ x := least (m a) ⟨a, ho, rfl⟩
    have e : μ act w = Classical.choose hz := dif_pos hz
    rw [e]; exact Classical.choose_spec hz
  refine wp_loop I μ ⟨a0, hi, hf.frOk ha, hw.weaken hh⟩ ?_
  rintro act w ⟨a, ho⟩
  obtain ⟨⟨b, hb, hmb⟩, _⟩ := hμ act w a ho
  rw [← hmb]
  have hs : body.wp P (After P C.Q (.back (Bk C F H inv m (m b)) :: k)) act w := (h b hb.1).go act w hb.2.1 hb.2.2
  refine wp_mono hs ?_
  intro e act' w' he
  cases e with
  | normal =>
    obtain ⟨b', hm', hb'⟩ := he
    exact ⟨⟨b', hb'⟩, Nat.lt_of_le_of_lt ((hμ act' w' b' hb').2 _ ⟨b', hb', rfl⟩) hm'⟩
  | _ => exact he
end
/-! ### memory -/
def upd : List Value → Nat → List Value → List Value
  | cs, _, [] => cs
  | cs, o, v :: vs => upd (cs.set o v) (o + 1) vs
theorem upd_length : ∀ (vs cs : List Value) (o : Nat), (upd cs o vs).length = cs.length
  | [], _, _ => rfl
  | v :: vs, cs, o => by rw [upd, upd_length vs, List.length_set]
def oneAll : List Value → Bool
  | [] => true
  | v :: r => v.oneCell' && oneAll r
theorem addr_add (b o n : Nat) : (⟨b, o, none⟩ : Addr).add n = ⟨b, o + n, none⟩ := by unfold Addr.add; split <;> simp_all
section
variable {P : Program} {D : Nat → Prop} {w0 : World} {hp : List En}
theorem HpOk.cell {w : World} (h : HpOk D w0 hp w) {i b : Nat} {ty : TypeId} {cs : List Value} (hi : hp[i]? = some (blk b ty cs)) (o : Nat) : w.cell? ⟨b, o, none⟩ = cs[o]? := by
  have := (h.get hi).1
  have hh : w.heap[b]? = some (.cells cs.toArray ty (0, 0)) := this
  simp [World.cell?, hh]
theorem HpOk.thawed {w : World} (h : HpOk D w0 hp w) {i b : Nat} {ty : TypeId} {cs : List Value} (hi : hp[i]? = some (blk b ty cs)) (o : Nat) : w.frozen? ⟨b, o, none⟩ = false := by
  have := (h.get hi).1
  have hh : w.heap[b]? = some (.cells cs.toArray ty (0, 0)) := this
  simp [World.frozen?, hh]
theorem set_set_same {α : Type} : ∀ (l : List α) (i : Nat) (a b : α), (l.set i a).set i b = l.set i b
  | [], _, _, _ => rfl
  | _ :: _, 0, _, _ => rfl
  | x :: l, i + 1, a, b => by simp
theorem storeCells_ok (b off : Nat) (ty : TypeId) : ∀ (vs : List Value) (j : Nat) (cs : List Value) (w : World) (hp : List En) (i : Nat), HpOk D w0 hp w → hp[i]? = some (blk b ty cs) → off + j + vs.length ≤ cs.length → oneAll vs = true →
    ∃ w', (storeCells ⟨b, off, none⟩ vs j).run P w = .ok () w' ∧ HpOk D w0 (hp.set i (blk b ty (upd cs (off + j) vs))) w'
  | [], j, cs, w, hp, i, h, hi, hl, _ => ⟨w, rfl, by
      have : hp.set i (blk b ty (upd cs (off + j) [])) = hp := by
        obtain ⟨hlt, he⟩ := List.getElem?_eq_some_iff.1 hi
        show hp.set i (blk b ty cs) = hp
        rw [← he]; exact List.set_getElem_self hlt
      rw [this]; exact h⟩
  | v :: vs, j, cs, w, hp, i, h, hi, hl, ho => by
    have ho' : v.oneCell' = true ∧ oneAll vs = true := by simpa [oneAll] using ho
    simp only [List.length_cons] at hl
    have hc : w.cell? ⟨b, off + j, none⟩ = some (cs[off + j]'(by omega)) := by rw [h.cell hi]; exact List.getElem?_eq_getElem (by omega)
    have h1 := h.store (off := off + j) hi v
    have hi' : (hp.set i (blk b ty (cs.set (off + j) v)))[i]? = some (blk b ty (cs.set (off + j) v)) := by
      rw [List.getElem?_set_self]; exact (List.getElem?_eq_some_iff.1 hi).1
    obtain ⟨w', hr, hw'⟩ := storeCells_ok b off ty vs (j + 1) (cs.set (off + j) v) _ _ i h1 hi' (by rw [List.length_set]; omega) ho'.2
    refine ⟨w', ?_, ?_⟩
    · have hs := run_store P w ⟨b, off + j, none⟩ v .plain ho'.1
      rw [hc, h.thawed hi] at hs
      simp only [storeCells, addr_add]
      simp [hs, hr]
    · rw [set_set_same] at hw'; exact hw'
theorem loadCells_ok {w : World} (h : HpOk D w0 hp w) {i b off n : Nat} {ty : TypeId} {cs : List Value} (hi : hp[i]? = some (blk b ty cs)) (hn : off + n ≤ cs.length) :
    (loadCells ⟨b, off, none⟩ n).run P w = .ok ⟨(cs.drop off).take n⟩ w := by
  have hlen : ((cs.drop off).take n).length = n := by simp; omega
  have := run_loadCells_list (P := P) (w := w) ⟨b, off, none⟩ ((cs.drop off).take n) (fun j v hj => by
    rw [addr_add, h.cell hi]
    rw [List.getElem?_take] at hj
    split at hj
    · rw [List.getElem?_drop] at hj; exact hj
    · cases hj)
  rw [hlen] at this; exact this
end
def isAggD : TypeDesc → Bool
  | .struct _ | .array _ _ => true
  | _ => false
theorem run_isAgg {P : Program} {t : TypeId} {d : TypeDesc} [h : TU P t d] (w : World) : (isAgg t).run P w = .ok (isAggD d) w := by
  unfold isAgg
  cases d <;> simp [underlying, h.h, isAggD]
def aggB (P : Program) (t : TypeId) : Bool := match P.underlying t with | some d => isAggD d | none => false
/-- The places of a struct's fields: how far in, how many cells, and whether it is a struct or an array itself. -/
class PL (P : Program) (t : TypeId) (pl : outParam (List (Nat × Nat × Bool))) : Prop where
  h : ∃ fs : List Field, P.underlying t = some (.struct ⟨fs⟩) ∧ fs.map (fun f => (f.offset, P.cellsOf f.type, aggB P f.type)) = pl ∧ ∀ f ∈ fs, (P.info? f.type).isSome = true ∧ (P.underlying f.type).isSome = true
def plOk (P : Program) (t : TypeId) (pl : List (Nat × Nat × Bool)) : Bool := match P.underlying t with
  | some (.struct fs) => decide (fs.toList.map (fun f => (f.offset, P.cellsOf f.type, aggB P f.type)) = pl) && fs.toList.all fun f => (P.info? f.type).isSome && (P.underlying f.type).isSome
  | _ => false
theorem PL.mk' {P : Program} {t : TypeId} {pl : List (Nat × Nat × Bool)} (h : plOk P t pl = true) : PL P t pl := by
  constructor
  unfold plOk at h
  split at h
  · rename_i fs hu
    rw [Bool.and_eq_true] at h
    exact ⟨fs.toList, hu, by simpa using h.1, fun f hf => by have := List.all_eq_true.1 h.2 f hf; simpa using this⟩
  · cases h
theorem PL.get {P : Program} {t : TypeId} {pl : List (Nat × Nat × Bool)} (h : PL P t pl) {j o sz : Nat} {ag : Bool} (hj : pl[j]? = some (o, sz, ag)) :
    ∃ (fs : List Field) (f : Field), P.underlying t = some (.struct ⟨fs⟩) ∧ fs[j]? = some f ∧ f.offset = o ∧ (∀ w, (sizeOf f.type).run P w = .ok sz w) ∧ ∀ w, (isAgg f.type).run P w = .ok ag w := by
  obtain ⟨fs, hu, hm, ha⟩ := h.h
  rw [← hm, List.getElem?_map] at hj
  obtain ⟨f, hf, he⟩ := Option.map_eq_some_iff.1 hj
  obtain ⟨h1, h2⟩ := ha f (List.mem_of_getElem? hf)
  obtain ⟨i, hi⟩ := Option.isSome_iff_exists.1 h1
  obtain ⟨d, hd⟩ := Option.isSome_iff_exists.1 h2
  simp only [Prod.mk.injEq] at he
  obtain ⟨e1, e2, e3⟩ := he
  refine ⟨fs, f, hu, hf, e1, fun w => ?_, fun w => ?_⟩
  · rw [← e2]; simp [sizeOf, typeInfo, hi, Program.cellsOf]
  · rw [← e3]; unfold aggB; rw [hd]
    exact run_isAgg (P := P) (t := f.type) (d := d) (h := ⟨hd⟩) w
theorem run_sizeOf' {P : Program} {t : TypeId} {i : TypeInfo} [h : TI P t i] (w : World) : (sizeOf t).run P w = .ok i.size w := by
  simp [sizeOf, typeInfo, h.h]
section
variable {P : Program} {C : Cx} {k : List It} {fr : Fr} {hp : List En} {all : Array Oper} {l : List Oper} {dst : Option Tmp} {ty : TypeId} {pos : String} {aft : Array Edge} {g : Option (Nat × Bool)}
theorem ov_read {o : Oper} {v : Value} (h : ∀ (r : Operand → Value) (w : World), (∀ x u, ev fr x = some u → r x = u) → HpOk C.D C.w0 hp w → (execOp r o).run P w = .ok (.value v) w) : OV P C fr hp o v :=
  .mk fun r w hr hw => by rw [h r w hr hw]; exact ⟨rfl, hw⟩
theorem sy_box {e : TypeId} {x : Operand} {v : Value} {cs : List Value} (hx : ev fr x = some v) (hc : v.cells = ⟨cs⟩) (hf : Fits C.n dst) (hk : ∀ b, Sy P C (.o all l :: k) (put dst (.pointer (some ⟨b, 0, none⟩)) fr) (blk b e cs :: hp)) :
    Sy P C (.o all (⟨dst, .box e x, ty, pos, aft, none⟩ :: l) :: k) fr hp :=
  sy_op rfl fun a w ha hw => by
    have hr : (execOp a.eval ⟨dst, .box e x, ty, pos, aft, none⟩).run P w = .ok (.value (.pointer (some ⟨w.heap.size, 0, none⟩))) (w.alloc (.cells cs.toArray e)) := by
      simp [execOp, ha.ev hx, Instr.box, newVar, newRow, newObj, hc]; rfl
    unfold Oper.wp; rw [hr]
    exact (hk _).go _ _ (ha.put hf _) (hw.alloc cs e)
theorem sy_alloc {e : TypeId} {i : TypeInfo} [hti : TI P e i] {z : Value} {cs : List Value} (hz : i.zero = some z) (hc : z.cells = ⟨cs⟩) (hf : Fits C.n dst) (hk : ∀ b, Sy P C (.o all l :: k) (put dst (.pointer (some ⟨b, 0, none⟩)) fr) (blk b e cs :: hp)) :
    Sy P C (.o all (⟨dst, .alloc e, ty, pos, aft, none⟩ :: l) :: k) fr hp :=
  sy_op rfl fun a w ha hw => by
    have hr : (execOp a.eval ⟨dst, .alloc e, ty, pos, aft, none⟩).run P w = .ok (.value (.pointer (some ⟨w.heap.size, 0, none⟩))) (w.alloc (.cells cs.toArray e)) := by
      simp [execOp, Instr.alloc, zeroValue, typeInfo, hti.h, hz, newVar, newRow, newObj, hc]; rfl
    unfold Oper.wp; rw [hr]
    exact (hk _).go _ _ (ha.put hf _) (hw.alloc cs e)
theorem ov_load {t : TypeId} {d : TypeDesc} [hd : TU P t d] {x : Operand} (i : Nat) {b off : Nat} {e : TypeId} {cs : List Value} {v : Value} (hx : ev fr x = some (.pointer (some ⟨b, off, none⟩))) (hi : hp[i]? = some (blk b e cs)) (ha : isAggD d = false) (hv : cs[off]? = some v) :
    OV P C fr hp ⟨dst, .load t x, ty, pos, aft, g⟩ v :=
  ov_read fun r w hr hw => by
    have hc := hw.cell hi off
    rw [hv] at hc
    simp [execOp, hr _ _ hx, Instr.loadAt, Instr.sureAddr, loadVar, run_isAgg (P := P) (t := t) (d := d), ha, load, Sem.run, hc]
theorem ov_loada {t : TypeId} {d : TypeDesc} {ti : TypeInfo} [hd : TU P t d] [hti : TI P t ti] {x : Operand} (i : Nat) {b off : Nat} {e : TypeId} {cs : List Value} (hx : ev fr x = some (.pointer (some ⟨b, off, none⟩))) (hi : hp[i]? = some (blk b e cs)) (ha : isAggD d = true) (hn : Nat.ble (off + ti.size) cs.length = true) :
    OV P C fr hp ⟨dst, .load t x, ty, pos, aft, g⟩ (.agg ⟨(cs.drop off).take ti.size⟩) :=
  ov_read fun r w hr hw => by
    have hl := loadCells_ok (P := P) hw (n := ti.size) hi (by simpa using hn)
    simp [execOp, hr _ _ hx, Instr.loadAt, Instr.sureAddr, loadVar, run_isAgg (P := P) (t := t) (d := d), ha, run_sizeOf' (P := P) (t := t), hl]
theorem sy_store {t : TypeId} {ti : TypeInfo} [hti : TI P t ti] {x y : Operand} (i : Nat) {b off : Nat} {e : TypeId} {cs vs : List Value} {v : Value} (hx : ev fr x = some (.pointer (some ⟨b, off, none⟩))) (hy : ev fr y = some v) (hi : hp[i]? = some (blk b e cs)) (hv : v.cells = ⟨vs⟩) (hs : Nat.beq vs.length ti.size = true) (ho : oneAll vs = true) (hn : Nat.ble (off + vs.length) cs.length = true) (hf : Fits C.n dst)
    (hk : Sy P C (.o all l :: k) (put dst undef fr) (hp.set i (blk b e (upd cs off vs)))) : Sy P C (.o all (⟨dst, .store t x y, ty, pos, aft, none⟩ :: l) :: k) fr hp :=
  sy_op rfl fun a w ha hw => by
    obtain ⟨w', hr, hw'⟩ := storeCells_ok (P := P) b off e vs 0 cs w hp i hw hi (by simpa using hn) ho
    have hs' : vs.length = ti.size := Nat.eq_of_beq_eq_true hs
    have hr : (execOp a.eval ⟨dst, .store t x y, ty, pos, aft, none⟩).run P w = .ok .skip w' := by
      simp [execOp, ha.ev hx, ha.ev hy, Instr.storeAt, Instr.sureAddr, storeVar, run_sizeOf' (P := P) (t := t), hv, hs', hr]
    unfold Oper.wp; rw [hr]
    exact hk.go _ _ (ha.put hf _) hw'
theorem ov_fieldAddr {t : TypeId} {pl : List (Nat × Nat × Bool)} [hpl : PL P t pl] {x : Operand} {j o sz : Nat} {ag : Bool} {b off : Nat} (hx : ev fr x = some (.pointer (some ⟨b, off, none⟩))) (hj : pl[j]? = some (o, sz, ag)) (hz : Nat.beq sz 0 = false) :
    OV P C fr hp ⟨dst, .fieldAddr t x j, ty, pos, aft, g⟩ (.pointer (some ⟨b, off + o, none⟩)) :=
  ov_pure (fun r w hr => by
    obtain ⟨fs, f, hu, hf, rfl, hs, _⟩ := hpl.get hj
    have hz' : sz ≠ 0 := by intro e; rw [e] at hz; cases hz
    simp [execOp, hr _ _ hx, Instr.fieldAt, Instr.sureAddr, underlying, hu, hf, fieldPlace, hs w, hz', addr_add])
theorem ov_field {t : TypeId} {pl : List (Nat × Nat × Bool)} [hpl : PL P t pl] {x : Operand} {j o sz : Nat} {cs : List Value} {v : Value} (hx : ev fr x = some (.agg ⟨cs⟩)) (hj : pl[j]? = some (o, sz, false)) (hv : cs[o]? = some v) :
    OV P C fr hp ⟨dst, .field t x j, ty, pos, aft, g⟩ v :=
  ov_pure (fun r w hr => by
    obtain ⟨fs, f, hu, hf, rfl, _, ha⟩ := hpl.get hj
    simp [execOp, hr _ _ hx, Instr.field, underlying, hu, hf, part, ha w, asAgg, hv])
theorem ov_fielda {t : TypeId} {pl : List (Nat × Nat × Bool)} [hpl : PL P t pl] {x : Operand} {j o sz : Nat} {cs : List Value} (hx : ev fr x = some (.agg ⟨cs⟩)) (hj : pl[j]? = some (o, sz, true)) :
    OV P C fr hp ⟨dst, .field t x j, ty, pos, aft, g⟩ (.agg ⟨(cs.drop o).take sz⟩) :=
  ov_pure (fun r w hr => by
    obtain ⟨fs, f, hu, hf, rfl, hs, ha⟩ := hpl.get hj
    simp [execOp, hr _ _ hx, Instr.field, underlying, hu, hf, part, ha w, asAgg, hs w, List.extract_eq_take_drop])
end
end Go.Proofs.Yteiejcililponaa
/- A symbolic walk: struct literals, slices: literals, elements, append. -/
set_option linter.unusedVariables false
set_option linter.unusedSimpArgs false
namespace Go.Proofs.Yteiejcililponaa
open Go.RowKit

/-! ### struct and slice literals -/
def evp (fr : Fr) : List (Nat × Operand) → Option (List (Nat × Value))
  | [] => some []
  | (i, x) :: r => match ev fr x, evp fr r with
    | some v, some vs => some ((i, v) :: vs)
    | _, _ => none
theorem evp_map {fr : Fr} {r : Operand → Value} (h : ∀ x u, ev fr x = some u → r x = u) : ∀ {xs : List (Nat × Operand)} {vs : List (Nat × Value)}, evp fr xs = some vs → xs.map (fun (i, x) => (i, r x)) = vs
  | [], vs, hx => by have := Option.some.inj hx; subst this; rfl
  | (i, x) :: l, vs, hx => by
    unfold evp at hx
    split at hx
    · rename_i v us h1 h2
      have := Option.some.inj hx; subst this
      rw [List.map_cons, evp_map h h2]; simp [h _ _ h1]
    · cases hx
def cl (v : Value) : List Value := v.cells.toList
def fillL (pl : List (Nat × Nat × Bool)) : List Value → List (Nat × Value) → Option (List Value)
  | cs, [] => some cs
  | cs, (i, v) :: r => match pl[i]? with
    | some (off, size, _) => cond (Nat.beq (cl v).length size && Nat.ble (off + size) cs.length) (fillL pl (upd cs off (cl v)) r) none
    | none => none
theorem foldl_upd (off : Nat) : ∀ (vs : List Value) (cs : List Value) (j : Nat), (vs.zipIdx j).foldl (fun (cs : Array Value) (p : Value × Nat) => cs.setIfInBounds (off + p.2) p.1) ⟨cs⟩ = ⟨upd cs (off + j) vs⟩
  | [], cs, j => rfl
  | v :: vs, cs, j => by
    simp only [List.zipIdx_cons, List.foldl_cons, upd]
    have : (Array.mk cs).setIfInBounds (off + j) v = ⟨cs.set (off + j) v⟩ := by
      apply Array.toList_inj.1; simp
    rw [this]
    exact foldl_upd off vs (cs.set (off + j) v) (j + 1)
theorem fill_fillL (pl : List (Nat × Nat × Bool)) (place : Nat → Option (Nat × Nat)) (hpl : ∀ i, place i = (pl[i]?).map fun p => (p.1, p.2.1)) : ∀ (ps : List (Nat × Value)) (cs out : List Value), fillL pl cs ps = some out → Instr.fill place ⟨cs⟩ ps = some ⟨out⟩
  | [], cs, out, h => by simp [fillL] at h; subst h; rfl
  | (i, v) :: r, cs, out, h => by
    unfold fillL at h
    unfold Instr.fill
    rw [hpl]
    split at h
    · rename_i off size bb he
      rw [he]
      simp only [Option.map_some]
      cases hc : (Nat.beq (cl v).length size && Nat.ble (off + size) cs.length) with
      | false => rw [hc] at h; cases h
      | true =>
        rw [hc] at h
        simp only [cond_true] at h
        rw [Bool.and_eq_true] at hc
        have h1 : v.cells.size = size := by have := Nat.eq_of_beq_eq_true hc.1; unfold cl at this; simpa using this
        have h2 : off + size ≤ cs.length := by simpa using hc.2
        rw [if_neg (by simp [h1]; omega)]
        have hz : v.cells.zipIdx.foldl (fun cs (c, j) => cs.setIfInBounds (off + j) c) (Array.mk cs) = ⟨upd cs off (cl v)⟩ := by
          have := foldl_upd off (cl v) cs 0
          rw [← Array.foldl_toList, Array.toList_zipIdx]
          exact this
        rw [hz]
        exact fill_fillL pl place hpl r _ out h
    · cases h
theorem run_places {P : Program} (w : World) : ∀ (fs : List Field), (∀ f ∈ fs, (P.info? f.type).isSome = true) → (fs.mapM fun f => Functor.map (Prod.mk f.offset) (sizeOf f.type)).run P w = .ok (fs.map fun f => (f.offset, P.cellsOf f.type)) w
  | [], _ => by simp
  | f :: fs, h => by
    have h1 := h f (by simp)
    obtain ⟨i, hi⟩ := Option.isSome_iff_exists.1 h1
    have ih := run_places w fs (fun g hg => h g (by simp [hg]))
    simp only [List.mapM_cons, List.map_cons]
    simp [sizeOf, typeInfo, hi, Program.cellsOf] at ih ⊢
    simp [ih]
section
variable {P : Program} {C : Cx} {k : List It} {fr : Fr} {hp : List En} {all : Array Oper} {l : List Oper} {dst : Option Tmp} {ty : TypeId} {pos : String} {aft : Array Edge} {g : Option (Nat × Bool)}
theorem ov_build {t : TypeId} {ti : TypeInfo} [hti : TI P t ti] {pl : List (Nat × Nat × Bool)} [hpl : PL P t pl] {parts : List (Nat × Operand)} {ps : List (Nat × Value)} {zs out : List Value} (hx : evp fr parts = some ps) (hz : ti.zero = some (.agg ⟨zs⟩)) (hfill : fillL pl zs ps = some out) :
    OV P C fr hp ⟨dst, .build t ⟨parts⟩, ty, pos, aft, g⟩ (.agg ⟨out⟩) := ov_pure (fun r w hr => by
  obtain ⟨fs, hu, hp1, hp2⟩ := hpl.h
  have hpl' := run_places (P := P) w fs (fun f hf => (hp2 f hf).1)
  have hp3 : fs.map (fun f => (f.offset, P.cellsOf f.type)) = pl.map fun p => (p.1, p.2.1) := by rw [← hp1, List.map_map]; rfl
  rw [hp3] at hpl'
  have hf := fill_fillL pl (fun i => (pl[i]?).map fun p => (p.1, p.2.1)) (fun i => rfl) ps zs out hfill
  have hm := evp_map hr hx
  simp [execOp, Instr.build, zeroValue, typeInfo, hti.h, hz, underlying, hu, Value.cells, hm, hpl', hf])
theorem sy_buildSlice {t e : TypeId} {ti : TypeInfo} [hd : TU P t (.slice e)] [hti : TI P e ti] {n : Nat} {parts : List (Nat × Operand)} {ps : List (Nat × Value)} {z : Value} {zs out : List Value} (hx : evp fr parts = some ps) (hn : Nat.ble (n * ti.size) 16777216 = true) (hz : ti.zero = some z)
    (hzs : ((List.range (n * ti.size)).map fun i => (cl z).getD (i % (cl z).length) default) = zs) (hfill : fillL ((List.range n).map fun i => (i * ti.size, ti.size, false)) zs ps = some out) (hlast : (ps.all fun p => Nat.blt p.1 n) = true) (hpos : Nat.beq (n * ti.size) 0 = false) (hf : Fits C.n dst)
    (hk : ∀ b, Sy P C (.o all l :: k) (put dst (.slice (some ⟨b, 0, none⟩) n n) fr) (blk b e out :: hp)) :
    Sy P C (.o all (⟨dst, .buildSlice t n ⟨parts⟩, ty, pos, aft, none⟩ :: l) :: k) fr hp :=
  sy_op rfl fun a w ha hw => by
    have hm := evp_map (fun x u hx => ha.ev hx) hx
    replace hlast : ∀ p ∈ ps, p.1 < n := fun p hp => by simpa [Nat.blt_eq] using List.all_eq_true.1 hlast p hp
    have hn' : ¬ (n * ti.size > 2 ^ 24) := by have : n * ti.size ≤ 16777216 := by simpa using hn
                                              omega
    have hpos' : n * ti.size ≠ 0 := by intro e; rw [e] at hpos; cases hpos
    have hfl : Instr.fill (fun i => some (i * ti.size, ti.size)) ⟨zs⟩ ps = some ⟨out⟩ := by
      have h1 := fill_fillL ((List.range n).map fun i => (i * ti.size, ti.size, false)) (fun i => (((List.range n).map fun i => (i * ti.size, ti.size, false))[i]?).map fun p => (p.1, p.2.1)) (fun i => rfl) ps zs out hfill
      rw [← h1]
      clear hfill hm hx h1 hzs
      revert zs
      induction ps with
      | nil => intro zs; rfl
      | cons p ps ih =>
        intro zs
        obtain ⟨i, v⟩ := p
        have hi := hlast (i, v) (by simp)
        unfold Instr.fill
        have : (((List.range n).map fun i => (i * ti.size, ti.size, false))[i]?).map (fun p => (p.1, p.2.1)) = some (i * ti.size, ti.size) := by simp [hi]
        rw [this]
        simp only
        split
        · rfl
        · have key : ∀ cs : Array Value, Instr.fill (fun i => some (i * ti.size, ti.size)) cs ps = Instr.fill (fun i => (((List.range n).map fun i => (i * ti.size, ti.size, false))[i]?).map fun p => (p.1, p.2.1)) cs ps := fun cs => by cases cs with | mk l => exact ih (fun p hp => hlast p (by simp [hp]))
          exact key _
    have hcells : (Array.range (n * ti.size)).map (fun i => z.cells[i % z.cells.size]!) = ⟨zs⟩ := by
      rw [← hzs]
      apply Array.toList_inj.1
      simp only [Array.toList_map, Array.toList_range]
      apply List.map_congr_left
      intro i _
      unfold cl
      simp [getElem!_def, List.getD_eq_getElem?_getD]
      cases (z.cells[i % z.cells.size]?) <;> rfl
    have hr : (execOp a.eval ⟨dst, .buildSlice t n ⟨parts⟩, ty, pos, aft, none⟩).run P w = .ok (.value (.slice (some ⟨w.heap.size, 0, none⟩) n n)) (w.alloc (.cells out.toArray e)) := by
      simp [execOp, Instr.buildSlice, underlying, hd.h, run_sizeOf' (P := P) (t := e), hn', hpos', zeroValue, typeInfo, hti.h, hz, hcells, hm, hfl, newRow, newObj]
      rfl
    unfold Oper.wp; rw [hr]
    exact (hk _).go _ _ (ha.put hf _) (hw.alloc out e)
/-! ### elements -/
theorem ov_lens {t e : TypeId} [TU P t (.slice e)] {x : Operand} {p : Option Addr} {n c : Nat} (hx : ev fr x = some (.slice p n c)) : OV P C fr hp ⟨dst, .call ⟨.builtin .len, ⟨[x]⟩, ⟨[t]⟩⟩, ty, pos, aft, g⟩ (.int .i64 (n : Int)) :=
  ov_pure (fun r w hr => by simp [execOp, hr _ _ hx, resolve, invoke, builtin, Builtin.len_, underlying, TU.h (P := P) (t := t), goInt])
theorem ov_indexAddr {t e : TypeId} [hd : TU P t (.slice e)] {ti : TypeInfo} [hti : TI P e ti] {x y : Operand} {b off n c : Nat} {ik : IntKind} {i : Int} (hx : ev fr x = some (.slice (some ⟨b, off, none⟩) n c)) (hy : ev fr y = some (.int ik i)) (h0 : 0 ≤ i) (h1 : i < n) :
    OV P C fr hp ⟨dst, .indexAddr t x y, ty, pos, aft, g⟩ (.pointer (some ⟨b, off + i.toNat * ti.size, none⟩)) :=
  ov_pure (fun r w hr => by
    simp [execOp, hr _ _ hx, hr _ _ hy, Instr.indexAt, asIntOf, underlying, hd.h, h0, h1, run_sizeOf' (P := P) (t := e), addr_add])
theorem ov_loadx {t : TypeId} {d : TypeDesc} [hd : TU P t d] {x : Operand} {p : Addr} {v : Value} (hx : ev fr x = some (.pointer (some p))) (ha : isAggD d = false) (h : ∀ w, HpOk C.D C.w0 hp w → w.cell? p = some v) :
    OV P C fr hp ⟨dst, .load t x, ty, pos, aft, g⟩ v :=
  ov_read fun r w hr hw => by
    simp [execOp, hr _ _ hx, Instr.loadAt, Instr.sureAddr, loadVar, run_isAgg (P := P) (t := t) (d := d), ha, load, Sem.run, h w hw]
theorem ov_loadxa {t : TypeId} {d : TypeDesc} {ti : TypeInfo} [hd : TU P t d] [hti : TI P t ti] {x : Operand} {b off : Nat} {vs : List Value} (hx : ev fr x = some (.pointer (some ⟨b, off, none⟩))) (ha : isAggD d = true) (hn : vs.length = ti.size) (h : ∀ w, HpOk C.D C.w0 hp w → ∀ j u, vs[j]? = some u → w.cell? ⟨b, off + j, none⟩ = some u) :
    OV P C fr hp ⟨dst, .load t x, ty, pos, aft, g⟩ (.agg ⟨vs⟩) :=
  ov_read fun r w hr hw => by
    have hl := run_loadCells_list (P := P) (w := w) ⟨b, off, none⟩ vs (fun j u hj => by rw [addr_add]; exact h w hw j u hj)
    rw [hn] at hl
    simp [execOp, hr _ _ hx, Instr.loadAt, Instr.sureAddr, loadVar, run_isAgg (P := P) (t := t) (d := d), ha, run_sizeOf' (P := P) (t := t), hl]
theorem ov_nilCheck {x : Operand} {p : Addr} (hx : ev fr x = some (.pointer (some p))) : OV P C fr hp ⟨dst, .nilCheck x, ty, pos, aft, g⟩ (.pointer (some p)) :=
  ov_pure (fun r w hr => by simp [execOp, hr _ _ hx])
theorem ov_max {ts : Array TypeId} {x y : Operand} {ik : IntKind} {a b : Int} (hx : ev fr x = some (.int ik a)) (hy : ev fr y = some (.int ik b)) : OV P C fr hp ⟨dst, .call ⟨.builtin .max, ⟨[x, y]⟩, ts⟩, ty, pos, aft, g⟩ (.int ik (if b > a then b else a)) :=
  ov_pure (fun r w hr => by
    have := run_max_int2 (P := P) w ts ty ik ik a b
    simp [execOp, hr _ _ hx, hr _ _ hy, resolve, invoke, builtin, this])
theorem ov_min {ts : Array TypeId} {x y : Operand} {ik : IntKind} {a b : Int} (hx : ev fr x = some (.int ik a)) (hy : ev fr y = some (.int ik b)) : OV P C fr hp ⟨dst, .call ⟨.builtin .min, ⟨[x, y]⟩, ts⟩, ty, pos, aft, g⟩ (.int ik (if b < a then b else a)) :=
  ov_pure (fun r w hr => by
    have := run_min_int2 (P := P) w ts ty ik ik a b
    simp [execOp, hr _ _ hx, hr _ _ hy, resolve, invoke, builtin, this])
end
/-! ### a slice that the call lets grow -/
def vec (e : TypeId) (size : Nat) (v : Value) (n : Nat) (cs : List Value) : En :=
  ⟨fun b => v.ownBlock = some b, fun w => w.ownsRow 0 e size v n cs, fun w w' h hh => by
    refine ⟨hh.1, ?_⟩
    rcases hh.2 with h2 | ⟨g, cap, cur, hv, hb, hg, r⟩
    · exact .inl h2
    · exact .inr ⟨g, cap, cur, hv, hb, (h g (by rw [hv]; rfl)).trans hg, r⟩⟩
section
variable {P : Program} {D : Nat → Prop} {w0 : World} {hp : List En}
theorem HpOk.nil {w : World} (h : HpOk D w0 hp w) (e : TypeId) (size : Nat) : HpOk D w0 (vec e size (.slice none 0 0) 0 [] :: hp) w :=
  h.add _ (World.ownsRow_nil w 0 e size) (fun b hb => by cases hb) (fun f _ b hb => by cases hb)
theorem block_lt {w : World} {g : Nat} {o : Obj} (h : w.heap[g]? = some o) : g < w.heap.size := by
  rcases Nat.lt_or_ge g w.heap.size with h' | h'
  · exact h'
  · rw [Array.getElem?_eq_none h'] at h; cases h
theorem append_ok {w : World} (h : HpOk D w0 hp w) {i : Nat} {t ty e : TypeId} {ti : TypeInfo} {z : Value} (ht : P.underlying t = some (.slice e)) (hti : P.info? e = some ti) (hz : ti.zero = some z) (hzs : z.cells.size = ti.size) (hsz : 0 < ti.size)
    {v : Value} {n : Nat} {cs : List Value} (hi : hp[i]? = some (vec e ti.size v n cs)) {a : Addr} {m c : Nat} {news : List Value} (hl : news.length = m * ti.size) (hnews : ∀ j u, news[j]? = some u → w.cell? (a.add j) = some u) (h1 : ∀ u ∈ news, u.oneCell' = true)
    (h63 : n + m ≤ 9223372036854775807) (hbytes : (n + m) * ti.bytes ≤ 140737488355328) (hm : 0 < m) :
    ∃ p q w', (Builtin.append_ #[t, t] ty #[v, .slice (some a) m c]).run P w = .ok (.slice (some p) (n + m) q) w' ∧ HpOk D w0 (hp.set i (vec e ti.size (.slice (some p) (n + m) q) (n + m) (cs ++ news))) w' := by
  have hown := (h.get hi).1
  have hown : w.ownsRow 0 e ti.size v n cs := hown
  have h63' : n + m ≤ maxLen := by unfold maxLen; omega
  obtain ⟨v', w', hr, ho, hg, _⟩ := run_append_own (P := P) w 0 t ty e ti z ti.size ti.bytes ht hti hz rfl rfl hzs hsz v n cs hown a m c news hl hnews h1 h63' hbytes (Nat.zero_le _)
  have shape : ∃ g q, v' = .slice (some ⟨g, 0, none⟩) (n + m) q := by
    rcases ho.2 with ⟨_, h0⟩ | ⟨g, q, cur, hv, _⟩
    · omega
    · exact ⟨g, q, hv⟩
  obtain ⟨g, q, rfl⟩ := shape
  have hlt : g < w'.heap.size := by
    rcases ho.2 with ⟨hv, _⟩ | ⟨g', q', cur, hv, _, hg', _⟩
    · cases hv
    · cases hv; exact block_lt hg'
  have where_ : v.ownBlock = some g ∨ w.heap.size ≤ g := by
    rcases hown.2 with ⟨rfl, rfl⟩ | ⟨g0, cap, cur, rfl, _, hg0, hnc, hcm, hcs, htake⟩
    · right
      have hown' : w.ownsRow w.heap.size e ti.size (.slice none 0 0) 0 cs := ⟨hown.1, .inl ⟨rfl, rfl⟩⟩
      obtain ⟨v2, w2, hr2, ho2, _⟩ := run_append_own (P := P) w w.heap.size t ty e ti z ti.size ti.bytes ht hti hz rfl rfl hzs hsz _ 0 cs hown' a m c news hl hnews h1 h63' hbytes (Nat.le_refl _)
      rw [hr] at hr2
      cases hr2
      rcases ho2.2 with ⟨hv, _⟩ | ⟨g', q', cur', hv, hb, _⟩
      · cases hv
      · cases hv; exact hb
    · by_cases hroom : n + m ≤ cap
      · left
        have hfit : n * ti.size + news.length ≤ cur.size := by rw [hl, hcs, ← Nat.add_mul]; exact Nat.mul_le_mul_right _ hroom
        have hr2 := run_append_room (P := P) w t ty e ti ht hti g0 n cap cur hg0 a m c news hl hnews h1 hroom hfit
        rw [hr] at hr2
        cases hr2; rfl
      · right
        have holds : ∀ j u, cs[j]? = some u → w.cell? ((⟨g0, 0, none⟩ : Addr).add j) = some u := hown.cells (g := g0) rfl
        have hr2 := run_append_grow (P := P) w t ty e ti z ht hti hz ⟨g0, 0, none⟩ n cap cs hown.1 holds a m c news hl hnews (by omega) (by omega) (growslice_fits (by omega) hbytes)
        rw [hr] at hr2
        cases hr2; exact Nat.le_refl _
  refine ⟨⟨g, 0, none⟩, q, w', hr, h.regrow hi ho ⟨hg.os, hg.tape, hg.output, hg.size, fun b hlt' hd => hg.block b hlt' (fun e => hd e.symm)⟩ (fun b hb => ?_)⟩
  have : g = b := by simpa [vec, Value.ownBlock] using hb
  subst this
  exact ⟨hlt, where_⟩
end
section
variable {P : Program} {C : Cx} {k : List It} {fr : Fr} {hp : List En} {all : Array Oper} {l : List Oper} {dst : Option Tmp} {ty : TypeId} {pos : String} {aft : Array Edge} {g : Option (Nat × Bool)}
/-- 'append(out, x..)': out at place i of what the call owns, x.. a row of the call's own at place j. -/
theorem sy_append {t e : TypeId} {ti : TypeInfo} [hd : TU P t (.slice e)] [hti : TI P e ti] {x y : Operand} (i j : Nat) {v z : Value} {n m c b : Nat} {e' : TypeId} {cs news : List Value} (hx : ev fr x = some v) (hy : ev fr y = some (.slice (some ⟨b, 0, none⟩) m c)) (hi : hp[i]? = some (vec e ti.size v n cs)) (hj : hp[j]? = some (blk b e' news))
    (hz : ti.zero = some z) (hzs : Nat.beq (cl z).length ti.size = true) (hsz : Nat.blt 0 ti.size = true) (hl : Nat.beq news.length (m * ti.size) = true) (h1 : oneAll news = true) (hm : Nat.blt 0 m = true) (hf : Fits C.n dst)
    (h63 : n + m ≤ 9223372036854775807) (hbytes : (n + m) * ti.bytes ≤ 140737488355328)
    (hk : ∀ p q, Sy P C (.o all l :: k) (put dst (.slice (some p) (n + m) q) fr) (hp.set i (vec e ti.size (.slice (some p) (n + m) q) (n + m) (cs ++ news)))) :
    Sy P C (.o all (⟨dst, .call ⟨.builtin .append, ⟨[x, y]⟩, ⟨[t, t]⟩⟩, ty, pos, aft, none⟩ :: l) :: k) fr hp :=
  sy_op rfl fun a w ha hw => by
    have hall : ∀ (l : List Value), oneAll l = true → ∀ u ∈ l, u.oneCell' = true := by
      intro l; induction l with
      | nil => intro _ u hu; cases hu
      | cons v l ih => intro h u hu; simp only [oneAll, Bool.and_eq_true] at h; rcases List.mem_cons.1 hu with rfl | hu; exact h.1; exact ih h.2 u hu
    obtain ⟨p, q, w', hr, hw'⟩ := append_ok (P := P) hw (t := t) (ty := ty) (hd.h) (hti.h) hz (by have := Nat.eq_of_beq_eq_true hzs; unfold cl at this; simpa using this) (by simpa [Nat.blt_eq] using hsz) hi (a := ⟨b, 0, none⟩) (m := m) (c := c) (news := news) (Nat.eq_of_beq_eq_true hl)
      (fun x u hu => by rw [addr_add, hw.cell hj]; simpa using hu) (hall _ h1) h63 hbytes (by simpa [Nat.blt_eq] using hm)
    have hr' : (execOp a.eval ⟨dst, .call ⟨.builtin .append, ⟨[x, y]⟩, ⟨[t, t]⟩⟩, ty, pos, aft, none⟩).run P w = .ok (.value (.slice (some p) (n + m) q)) w' := by
      simp [execOp, ha.ev hx, ha.ev hy, resolve, invoke, builtin, hr]
    unfold Oper.wp; rw [hr']
    exact (hk p q).go _ _ (ha.put hf _) hw'
/-- A slice that is nil, to grow. -/
theorem sy_grow (e : TypeId) (size : Nat) (h : Sy P C k fr (vec e size (.slice none 0 0) 0 [] :: hp)) : Sy P C k fr hp :=
  .mk fun a w ha hw => h.go a w ha (hw.nil e size)
/-- What a growing slice holds, read. -/
theorem vec_cell {D : Nat → Prop} {w0 w : World} (h : HpOk D w0 hp w) {i : Nat} {e : TypeId} {size n q m : Nat} {g : Nat} {cs : List Value} (hi : hp[i]? = some (vec e size (.slice (some ⟨g, 0, none⟩) m q) n cs)) {j : Nat} {u : Value} (hj : cs[j]? = some u) : w.cell? ⟨g, j, none⟩ = some u := by
  have hown : w.ownsRow 0 e size (.slice (some ⟨g, 0, none⟩) m q) n cs := (h.get hi).1
  have := hown.cells (g := g) rfl j u hj
  rw [addr_add, Nat.zero_add] at this; exact this
theorem sy_vecAddr (i : Nat) {e : TypeId} {size n m q : Nat} {p : Option Addr} {cs : List Value} (hi : hp[i]? = some (vec e size (.slice p m q) n cs)) (hn : 0 < n) (h : ∀ g, p = some ⟨g, 0, none⟩ → Sy P C k fr hp) : Sy P C k fr hp :=
  .mk fun a w ha hw => by
    have hown : w.ownsRow 0 e size (.slice p m q) n cs := (hw.get hi).1
    rcases hown.2 with ⟨_, h0⟩ | ⟨g, cap, cur, hv, _⟩
    · omega
    · cases hv; exact (h g rfl).go a w ha hw
theorem ov_loadv {t : TypeId} {d : TypeDesc} [hd : TU P t d] {x : Operand} (i : Nat) {e : TypeId} {size n m q g' off : Nat} {cs : List Value} {v : Value} (hx : ev fr x = some (.pointer (some ⟨g', off, none⟩))) (hi : hp[i]? = some (vec e size (.slice (some ⟨g', 0, none⟩) m q) n cs)) (ha : isAggD d = false) (hv : cs[off]? = some v) :
    OV P C fr hp ⟨dst, .load t x, ty, pos, aft, g⟩ v :=
  ov_loadx hx ha fun w hw => vec_cell hw hi hv
theorem ov_loadva {t : TypeId} {d : TypeDesc} {ti : TypeInfo} [hd : TU P t d] [hti : TI P t ti] {x : Operand} (i : Nat) {e : TypeId} {size n m q g' off : Nat} {cs vs : List Value} (hx : ev fr x = some (.pointer (some ⟨g', off, none⟩))) (hi : hp[i]? = some (vec e size (.slice (some ⟨g', 0, none⟩) m q) n cs)) (ha : isAggD d = true) (hn : vs.length = ti.size) (hv : ∀ j u, vs[j]? = some u → cs[off + j]? = some u) :
    OV P C fr hp ⟨dst, .load t x, ty, pos, aft, g⟩ (.agg ⟨vs⟩) :=
  ov_loadxa hx ha hn fun w hw j u hj => vec_cell hw hi (hv j u hj)
/-- A result that lies in new memory, at place i of what the call owns. -/
theorem new_at {w0 w' : World} {x : Ending} {v : Value} {R : Value → En → Prop} {e : En} (hw : HpOk (fun _ => False) w0 hp w') (i : Nat) (hi : hp[i]? = some e) (hx : x = .returned v) (hR : R v e) :
    ∃ v e', R v e' ∧ x = .returned v ∧ e'.holds w' ∧ Below w0.heap.size w0 w' ∧ ∀ b, e'.dom b → w0.heap.size ≤ b ∧ b < w'.heap.size :=
  ⟨v, e, hR, hx, (hw.get hi).1, hw.below, fun b hb => ⟨((hw.get hi).2 b hb).1.resolve_left id, ((hw.get hi).2 b hb).2⟩⟩
end
end Go.Proofs.Yteiejcililponaa
/- A symbolic walk: a region that draws its order. It is gone through once, in the order of the text; what is read and what is written, and what must come ahead of what, tells that every other order ends alike. -/
set_option linter.unusedVariables false
set_option linter.unusedSimpArgs false
namespace Go.Proofs.Yteiejcililponaa
open Go.RowKit

class MX (P : Program) : Prop where
  h : P.follows .mixedOrders = true
def bindsOn (o : Oper) : List Nat := (o.after.toList.filter (Region.binds .any ·)).map (·.on)
/-- What must come ahead, directly or through others. -/
inductive Anc (ops : List Oper) : Nat → Nat → Prop
  | base {i j : Nat} {o : Oper} : ops[i]? = some o → j ∈ bindsOn o → Anc ops j i
  | step {i j x : Nat} {o : Oper} : ops[i]? = some o → x ∈ bindsOn o → Anc ops j x → Anc ops j i
def unionL (a b : List Nat) : List Nat := b.foldl (fun acc x => bif acc.contains x then acc else x :: acc) a
def ancOf (acc : List (List Nat)) (o : Oper) : List Nat := (bindsOn o).foldl (fun s j => unionL (unionL s [j]) (acc.getD j [])) []
def tabAnc : List Oper → List (List Nat) → List (List Nat)
  | [], acc => acc
  | o :: l, acc => tabAnc l (acc ++ [ancOf acc o])
theorem mem_unionL {x : Nat} : ∀ {b a : List Nat}, x ∈ unionL a b → x ∈ a ∨ x ∈ b
  | [], a, h => .inl h
  | y :: b, a, h => by
    unfold unionL at h
    rw [List.foldl_cons] at h
    have h' : x ∈ unionL (bif a.contains y then a else y :: a) b := h
    rcases mem_unionL h' with h1 | h1
    · cases hc : a.contains y with
      | true => rw [hc] at h1; exact .inl h1
      | false =>
        rw [hc] at h1
        rcases List.mem_cons.1 h1 with rfl | h1
        · exact .inr (by simp)
        · exact .inl h1
    · exact .inr (by simp [h1])
theorem mem_ancOf {acc : List (List Nat)} {o : Oper} {x : Nat} (h : x ∈ ancOf acc o) : x ∈ bindsOn o ∨ ∃ j ∈ bindsOn o, x ∈ acc.getD j [] := by
  unfold ancOf at h
  have key : ∀ (l : List Nat) (s : List Nat), x ∈ l.foldl (fun s j => unionL (unionL s [j]) (acc.getD j [])) s → x ∈ s ∨ x ∈ l ∨ ∃ j ∈ l, x ∈ acc.getD j [] := by
    intro l
    induction l with
    | nil => intro s h; exact .inl h
    | cons y l ih =>
      intro s h
      rw [List.foldl_cons] at h
      rcases ih _ h with h1 | h1 | ⟨j, hj, h1⟩
      · rcases mem_unionL h1 with h2 | h2
        · rcases mem_unionL h2 with h3 | h3
          · exact .inl h3
          · rw [List.mem_singleton] at h3; exact .inr (.inl (by simp [h3]))
        · exact .inr (.inr ⟨y, by simp, h2⟩)
      · exact .inr (.inl (by simp [h1]))
      · exact .inr (.inr ⟨j, by simp [hj], h1⟩)
  rcases key _ _ h with h1 | h1 | h1
  · cases h1
  · exact .inl h1
  · exact .inr h1
theorem tabAnc_ok (ops : List Oper) : ∀ (l : List Oper) (acc : List (List Nat)), (∀ j, l[j]? = ops[acc.length + j]?) → (∀ i s, acc[i]? = some s → ∀ x ∈ s, Anc ops x i) → ∀ i s, (tabAnc l acc)[i]? = some s → ∀ x ∈ s, Anc ops x i
  | [], acc, _, ha => ha
  | o :: l, acc, hl, ha => by
    refine tabAnc_ok ops l _ (fun j => ?_) (fun i s hi x hx => ?_)
    · have := hl (j + 1)
      simp only [List.length_append, List.length_singleton]
      rw [show acc.length + 1 + j = acc.length + (j + 1) by omega, ← this]; simp
    · rcases Nat.lt_or_ge i acc.length with hlt | hge
      · rw [List.getElem?_append_left hlt] at hi; exact ha i s hi x hx
      · rw [List.getElem?_append_right hge] at hi
        have h0 : i - acc.length = 0 := by
          rcases Nat.eq_zero_or_pos (i - acc.length) with h | h
          · exact h
          · rw [List.getElem?_eq_none (by simp; omega)] at hi; cases hi
        rw [h0] at hi
        simp at hi; subst hi
        have hie : i = acc.length := by omega
        have ho : ops[i]? = some o := by have := hl 0; simp at this; rw [hie]; exact this.symm
        rcases mem_ancOf hx with h1 | ⟨j, hj, h1⟩
        · exact .base ho h1
        · refine .step ho hj ?_
          rw [List.getD_eq_getElem?_getD] at h1
          cases hq : acc[j]? with
          | none => rw [hq] at h1; cases h1
          | some s' => rw [hq] at h1; exact ha j s' hq x h1
theorem anc_done {ops : List Oper} {D : Nat → Prop} (hdc : ∀ i o, ops[i]? = some o → D i → ∀ j ∈ bindsOn o, D j) {j i : Nat} (h : Anc ops j i) : (∀ o, ops[i]? = some o → ∀ x ∈ bindsOn o, D x) → D j := by
  induction h with
  | base ho hj => intro hp; exact hp _ ho _ hj
  | step ho hx _ ih => intro hp; exact ih fun o' ho' x' hx' => hdc _ o' ho' (hp _ ho _ hx) x' hx'
theorem anc_lt {ops : List Oper} (hb : ∀ (i : Nat) (o : Oper), ops[i]? = some o → ∀ j ∈ bindsOn o, j < i) {j i : Nat} (h : Anc ops j i) : j < i := by
  induction h with
  | base ho hj => exact hb _ _ ho _ hj
  | step ho hx _ ih => have := hb _ _ ho _ hx; omega
def tmpOf : Operand → Option Nat
  | .tmp t => some t
  | _ => none
def guardSlot (all : List Oper) (o : Oper) : Option Nat := o.guard.bind fun g => (all[g.1]?).bind (·.dst)
def readsOf (all : List Oper) (o : Oper) : List Nat := o.op.operands.toList.filterMap tmpOf ++ (guardSlot all o).toList
def isSel : Op → Bool
  | .select _ _ => true
  | _ => false
/-- Of two operations of the drawn part: the first one's slot isn't the other's, and where the other reads it one must come ahead. -/
def okPair (ops : List Oper) (T : List (List Nat)) (i : Nat) (o : Oper) (j : Nat) (oj : Oper) : Bool :=
  Nat.beq j i || match oj.dst with
    | none => true
    | some t => !(o.dst == some t) && (!(readsOf ops o).contains t || (Nat.blt j i && (T.getD i []).contains j) || (T.getD j []).contains i)
def chkAt (m : Nat) (ops : List Oper) (T : List (List Nat)) (i : Nat) (o : Oper) : Bool :=
  (bindsOn o).all (fun j => Nat.blt j i) && !isSel o.op && if Nat.ble m i then (List.range i).all (fun j => (T.getD i []).contains j) else (List.range m).all fun j => match ops[j]? with | some oj => okPair ops T i o j oj | none => false
def chk (m : Nat) (ops : List Oper) : Bool := Nat.ble m ops.length && (List.range ops.length).all fun i => match ops[i]? with | some o => chkAt m ops (tabAnc ops []) i o | none => false

structure OVg (P : Program) (C : Cx) (all : Array Oper) (F : Fr) (hp : List En) (o : Oper) (v : Value) : Prop where
  go : ∀ (a : Act) (w : World), FrOk C.n F a → HpOk C.D C.w0 hp w → (Region.wanted o (yielded all a.tmps) = true ∧ Fin P C hp v ((execOp a.eval o).run P w)) ∨ (Region.wanted o (yielded all a.tmps) = false ∧ v = undef)
def DrG (P : Program) (C : Cx) (all : Array Oper) (hp : List En) (K : Fr → Prop) : List Oper → Fr → Prop
  | [], F => K F
  | o :: l, F => ∃ v, OVg P C all F hp o v ∧ Fits C.n o.dst ∧ DrG P C all hp K l (put o.dst v F)
def actAll : Act → List Oper → List Value → Act
  | a, o :: l, v :: vs => actAll (a.put o.dst v) l vs
  | a, _, _ => a
section
variable {P : Program} {C : Cx} {k : List It} {fr : Fr} {hp : List En} {all : Array Oper}
/-- What the walk in the text's order finds: values, such that each operation, behind those ahead of it, gives its own. -/
theorem dr_values {K : Fr → Prop} : ∀ (l : List Oper) (F : Fr), DrG P C all hp K l F → ∃ (vs : List Value) (F' : Fr), vs.length = l.length ∧ K F' ∧
    ∀ a, FrOk C.n F a → FrOk C.n F' (actAll a l vs) ∧ (∀ i o v, l[i]? = some o → vs[i]? = some v → Fits C.n o.dst ∧ ∀ w, HpOk C.D C.w0 hp w →
      let b := actAll a (l.take i) (vs.take i)
      (Region.wanted o (yielded all b.tmps) = true ∧ Fin P C hp v ((execOp b.eval o).run P w)) ∨ (Region.wanted o (yielded all b.tmps) = false ∧ v = undef))
  | [], F, h => ⟨[], F, rfl, h, fun a ha => ⟨ha, by simp⟩⟩
  | o :: l, F, ⟨v, hv, hf, hr⟩ => by
    obtain ⟨vs, F', hl, hK, h⟩ := dr_values l _ hr
    refine ⟨v :: vs, F', by simp [hl], hK, fun a ha => ?_⟩
    obtain ⟨h1, h2⟩ := h _ (ha.put hf v)
    refine ⟨h1, fun i o' v' ho hv' => ?_⟩
    cases i with
    | zero =>
      simp at ho hv'; subst ho; subst hv'
      exact ⟨hf, fun w hw => hv.go a w ha hw⟩
    | succ i =>
      simp at ho hv'
      exact h2 i o' v' ho hv'
/-- The slots when just these operations are done. -/
structure Done (n : Nat) (l : List Oper) (vs : List Value) (D : Nat → Prop) (a0 a : Act) : Prop where
  defers : a.defers = []
  size : a.tmps.size = n
  yes : ∀ j o v t, l[j]? = some o → vs[j]? = some v → D j → o.dst = some t → a.tmps[t]? = some v
  no : ∀ t, (∀ j o, l[j]? = some o → D j → o.dst ≠ some t) → a.tmps[t]? = a0.tmps[t]?
theorem Done.step {n : Nat} {l : List Oper} {vs : List Value} {D D' : Nat → Prop} {a0 a : Act} (h : Done n l vs D a0 a) {i : Nat} {o : Oper} {v : Value} (ho : l[i]? = some o) (hv : vs[i]? = some v) (hf : Fits n o.dst)
    (hd : ∀ j oj t, l[j]? = some oj → j ≠ i → oj.dst = some t → o.dst ≠ some t) (hD : ∀ j, D' j ↔ D j ∨ j = i) : Done n l vs D' a0 (a.put o.dst v) := by
  cases hdst : o.dst with
  | none =>
    refine ⟨h.defers, h.size, fun j oj u t hj hu hDj ht => ?_, fun t hno => ?_⟩
    · rcases (hD j).1 hDj with hDj | rfl
      · exact h.yes j oj u t hj hu hDj ht
      · rw [ho] at hj; cases hj; rw [hdst] at ht; cases ht
    · exact h.no t fun j oj hj hDj => hno j oj hj ((hD j).2 (.inl hDj))
  | some d =>
    rw [hdst] at hf
    have hd' : d < n := by simpa [Fits, Nat.blt_eq] using hf
    refine ⟨h.defers, by simpa [Act.put] using h.size, fun j oj u t hj hu hDj ht => ?_, fun t hno => ?_⟩
    · simp only [Act.put]
      by_cases hji : j = i
      · subst hji
        rw [ho] at hj; cases hj; rw [hv] at hu; cases hu
        rw [hdst] at ht; cases ht
        rw [Array.getElem?_setIfInBounds_self_of_lt (by rw [h.size]; exact hd')]
      · have hne := hd j oj t hj hji ht
        rw [hdst] at hne
        rw [Array.getElem?_setIfInBounds_ne (fun e => hne (by rw [e]))]
        rcases (hD j).1 hDj with hDj | e
        · exact h.yes j oj u t hj hu hDj ht
        · exact absurd e hji
    · simp only [Act.put]
      have hne : d ≠ t := fun e => hno i o ho ((hD i).2 (.inr rfl)) (by rw [hdst, e])
      rw [Array.getElem?_setIfInBounds_ne hne]
      exact h.no t fun j oj hj hDj => hno j oj hj ((hD j).2 (.inl hDj))
theorem actAll_take (a : Act) : ∀ (l : List Oper) (vs : List Value) (i : Nat) (o : Oper) (v : Value), l[i]? = some o → vs[i]? = some v → actAll a (l.take (i + 1)) (vs.take (i + 1)) = (actAll a (l.take i) (vs.take i)).put o.dst v := by
  intro l
  induction l generalizing a with
  | nil => intro vs i o v h; simp at h
  | cons o l ih =>
    intro vs i o' v' h h'
    cases vs with
    | nil => simp at h'
    | cons v vs =>
      cases i with
      | zero => simp at h h'; subst h; subst h'; simp [actAll]
      | succ i => simp at h h'; simp only [List.take_succ_cons, actAll]; exact ih _ vs i o' v' h h'
theorem actAll_done {n : Nat} {l : List Oper} {vs : List Value} {a0 : Act} (h0 : a0.defers = []) (hs : a0.tmps.size = n) (hl : vs.length = l.length) (hf : ∀ (i : Nat) (o : Oper), l[i]? = some o → Fits n o.dst)
    (hd : ∀ (i : Nat) (o : Oper) (j : Nat) (oj : Oper) (t : Nat), l[i]? = some o → l[j]? = some oj → j ≠ i → oj.dst = some t → o.dst ≠ some t) : ∀ i, i ≤ l.length → Done n l vs (· < i) a0 (actAll a0 (l.take i) (vs.take i)) := by
  intro i
  induction i with
  | zero => intro _; exact ⟨h0, hs, fun j o v t _ _ hj => absurd hj (by omega), fun t _ => by simp [actAll]⟩
  | succ i ih =>
    intro hi
    have ho : l[i]? = some (l[i]'(by omega)) := List.getElem?_eq_getElem (by omega)
    have hv : vs[i]? = some (vs[i]'(by omega)) := List.getElem?_eq_getElem (by omega)
    rw [actAll_take a0 l vs i _ _ ho hv]
    exact (ih (by omega)).step ho hv (hf i _ ho) (fun j oj t hj hji ht => hd i _ j oj t ho hj hji ht) (fun j => by omega)
theorem mem_ready {ops : Array Oper} {listed : Array Bool} {i : Nat} : i ∈ Region.ready .any ops listed ↔ ∃ o, ops[i]? = some o ∧ listed.getD i true = false ∧ ∀ j ∈ bindsOn o, listed.getD j false = true := by
  unfold Region.ready bindsOn
  rw [List.mem_filter]
  constructor
  · rintro ⟨h1, h2⟩
    rw [List.mem_range] at h1
    have ho : ops[i]? = some ops[i] := Array.getElem?_eq_getElem h1
    rw [ho] at h2
    simp only [Option.map_some, Option.getD_some, Bool.and_eq_true, Bool.not_eq_true'] at h2
    refine ⟨ops[i], ho, h2.1, fun j hj => ?_⟩
    obtain ⟨e, he, rfl⟩ := List.mem_map.1 hj
    rw [List.mem_filter] at he
    have := (Array.all_eq_true_iff_forall_mem.1 h2.2) e (Array.mem_toList_iff.1 he.1)
    simpa [he.2] using this
  · rintro ⟨o, ho, h1, h2⟩
    refine ⟨List.mem_range.2 (Array.getElem?_eq_some_iff.1 ho).1, ?_⟩
    rw [ho]
    simp only [Option.map_some, Option.getD_some, h1, Bool.not_false, Bool.true_and]
    refine Array.all_eq_true_iff_forall_mem.2 fun e he => ?_
    cases hb : Region.binds .any e with
    | false => simp
    | true =>
      simp only [Bool.not_true, Bool.false_or]
      exact h2 e.on (List.mem_map.2 ⟨e, List.mem_filter.2 ⟨Array.mem_toList_iff.2 he, hb⟩, rfl⟩)
theorem tab_mem {ops : List Oper} {i j : Nat} (h : ((tabAnc ops []).getD i []).contains j = true) : Anc ops j i := by
  rw [List.contains_iff_mem, List.getD_eq_getElem?_getD] at h
  cases hq : (tabAnc ops [])[i]? with
  | none => rw [hq] at h; cases h
  | some s => rw [hq] at h; exact tabAnc_ok ops ops [] (fun j => by simp) (fun i s hi => by simp at hi) i s hq j h
theorem chk_facts {m : Nat} {ops : List Oper} (h : chk m ops = true) : m ≤ ops.length ∧ ∀ (i : Nat) (o : Oper), ops[i]? = some o →
    (∀ j ∈ bindsOn o, j < i) ∧ isSel o.op = false ∧ (m ≤ i → ∀ j, j < i → Anc ops j i) ∧
    (i < m → ∀ (j : Nat) (oj : Oper) (t : Nat), j < m → ops[j]? = some oj → j ≠ i → oj.dst = some t → o.dst ≠ some t ∧ (t ∉ readsOf ops o ∨ (j < i ∧ Anc ops j i) ∨ Anc ops i j)) := by
  unfold chk at h
  rw [Bool.and_eq_true] at h
  refine ⟨by simpa using h.1, fun i o ho => ?_⟩
  have h2 := List.all_eq_true.1 h.2 i (List.mem_range.2 (List.getElem?_eq_some_iff.1 ho).1)
  rw [ho] at h2
  simp only [chkAt, Bool.and_eq_true, Bool.not_eq_true'] at h2
  obtain ⟨⟨h3, h4⟩, h5⟩ := h2
  refine ⟨fun j hj => by simpa using List.all_eq_true.1 h3 j hj, h4, fun hm j hj => ?_, fun hm j oj t hjm hoj hji hd => ?_⟩
  · rw [if_pos (by simpa using hm)] at h5
    exact tab_mem (List.all_eq_true.1 h5 j (List.mem_range.2 hj))
  · rw [if_neg (by simp; omega)] at h5
    have h6 := List.all_eq_true.1 h5 j (List.mem_range.2 hjm)
    rw [hoj] at h6
    simp only [okPair, hd, Bool.or_eq_true, Bool.and_eq_true, Bool.not_eq_true', beq_eq_false_iff_ne, ne_eq] at h6
    rcases h6 with h6 | h6
    · exact absurd (Nat.eq_of_beq_eq_true h6) hji
    · refine ⟨h6.1, ?_⟩
      rcases h6.2 with (h7 | h7) | h7
      · exact .inl (by simpa using h7)
      · exact .inr (.inl ⟨by simpa using h7.1, tab_mem h7.2⟩)
      · exact .inr (.inr (tab_mem h7))
theorem getD_set {l : Array Bool} {i j : Nat} (h : i < l.size) : ((l.setIfInBounds i true).getD j false = true) ↔ (l.getD j false = true ∨ j = i) := by
  simp only [Array.getD_eq_getD_getElem?]
  by_cases e : i = j
  · subst e; rw [Array.getElem?_setIfInBounds_self_of_lt h]; simp
  · rw [Array.getElem?_setIfInBounds_ne e]
    constructor
    · exact .inl
    · rintro (h | h)
      · exact h
      · exact absurd h.symm e
theorem getD_flip {l : Array Bool} {i : Nat} : l.getD i true = false ↔ (i < l.size ∧ ¬ l.getD i false = true) := by
  simp only [Array.getD_eq_getD_getElem?]
  by_cases h : i < l.size
  · rw [Array.getElem?_eq_getElem h]; simp [h]
  · rw [Array.getElem?_eq_none (by omega)]; simp [h]
def cnt (n : Nat) (l : Array Bool) : Nat := ((List.range n).filter fun i => !l.getD i false).length
theorem cnt_set {n : Nat} {l : Array Bool} {i : Nat} (hi : i < n) (hs : i < l.size) (h : ¬ l.getD i false = true) : cnt n (l.setIfInBounds i true) < cnt n l := by
  unfold cnt
  have e : ((List.range n).filter fun j => !(l.setIfInBounds i true).getD j false) = ((List.range n).filter fun j => !l.getD j false).filter fun j => !(Nat.beq j i) := by
    rw [List.filter_filter]
    apply List.filter_congr
    intro j _
    have := getD_set (j := j) hs
    by_cases hji : j = i
    · subst hji
      have h1 : (l.setIfInBounds j true).getD j false = true := this.2 (.inr rfl)
      rw [h1]; simp
    · have hb : Nat.beq j i = false := by cases hb : Nat.beq j i with | false => rfl | true => exact absurd (Nat.eq_of_beq_eq_true hb) hji
      rw [hb]
      cases hl : l.getD j false with
      | true => rw [this.2 (.inl hl)]; rfl
      | false =>
        have hn : ¬ (l.setIfInBounds i true).getD j false = true := fun hh => by rcases this.1 hh with h | h; rw [hl] at h; cases h; exact hji h
        cases hq : (l.setIfInBounds i true).getD j false with
        | false => rfl
        | true => exact absurd hq hn
  rw [e, List.length_filter_lt_length_iff_exists]
  exact ⟨i, List.mem_filter.2 ⟨List.mem_range.2 hi, by simpa using h⟩, by simp⟩
theorem cnt_zero {n : Nat} {l : Array Bool} (h : cnt n l = 0) : ∀ i, i < n → l.getD i false = true := fun i hi => by
  unfold cnt at h
  have := List.filter_eq_nil_iff.1 (List.length_eq_zero_iff.1 h) i (List.mem_range.2 hi)
  simpa using this
/-- Behind the drawn part one order is left. -/
theorem any_tail {Q : Exit → Act → World → Prop} {m : Nat} {ops : List Oper} (hc : chk m ops = true) : ∀ (fuel j : Nat) (listed : Array Bool) (a : Act) (w : World), m ≤ j → j ≤ ops.length → listed.size = ops.length → ops.length ≤ fuel + j →
    (∀ i, listed.getD i false = true ↔ i < j) → wpList P ops.toArray Q (ops.drop j) a w → wpAny P .any ops.toArray Q fuel listed a w := by
  obtain ⟨_, hat⟩ := chk_facts hc
  have hready : ∀ (j : Nat) (listed : Array Bool), m ≤ j → listed.size = ops.length → (∀ i, listed.getD i false = true ↔ i < j) → ∀ i, i ∈ Region.ready .any ops.toArray listed → i = j := by
    intro j listed hmj hs hD i hi
    obtain ⟨o, ho, h1, h2⟩ := mem_ready.1 hi
    have h3 := (getD_flip.1 h1).2
    rw [hD] at h3
    rcases Nat.lt_or_ge j i with hlt | hge
    · have ho2 : ops[i]? = some o := by rw [List.getElem?_toArray] at ho; exact ho
      have h4 := (hat i o ho2).2.2.1 (by omega) j hlt
      have h5 : listed.getD j false = true := anc_done (D := fun x => listed.getD x false = true) (fun x ox hox hx y hy => by
        rw [hD] at hx ⊢
        have := (hat x ox hox).1 y hy; omega) h4 (fun o' ho' x hx => by rw [ho2] at ho'; cases ho'; exact h2 x hx)
      rw [hD] at h5; omega
    · omega
  intro fuel
  induction fuel with
  | zero =>
    intro j listed a w hmj hj hs hf hD h
    have hje : j = ops.length := by omega
    refine ⟨List.eq_nil_iff_forall_not_mem.2 fun i hi => ?_, ?_⟩
    · have := hready j listed hmj hs hD i hi
      obtain ⟨o, ho, _⟩ := mem_ready.1 hi
      have := (Array.getElem?_eq_some_iff.1 ho).1
      simp at this; omega
    · rw [hje, List.drop_length] at h; exact h
  | succ fuel ih =>
    intro j listed a w hmj hj hs hf hD h
    rcases Nat.lt_or_ge j ops.length with hlt | hge
    · have ho : ops[j]? = some ops[j] := List.getElem?_eq_getElem hlt
      have hr : j ∈ Region.ready .any ops.toArray listed := mem_ready.2 ⟨ops[j], by rw [List.getElem?_toArray]; exact ho, getD_flip.2 ⟨by omega, by rw [hD]; omega⟩, fun i hi => (hD i).2 ((hat j _ ho).1 i hi)⟩
      refine ⟨fun hn => (by rw [hn] at hr; cases hr), fun i hi => ?_⟩
      have hij := hready j listed hmj hs hD i hi
      subst hij
      rw [List.drop_eq_getElem_cons hlt] at h
      have hnext : ∀ a w, wpList P ops.toArray Q (ops.drop (i + 1)) a w → wpAny P .any ops.toArray Q fuel (listed.setIfInBounds i true) a w := fun a w h' =>
        ih (i + 1) _ a w (by omega) (by omega) (by simpa using hs) (by omega) (fun x => by rw [getD_set (by omega), hD]; omega) h'
      unfold wpOp
      rw [show (ops.toArray)[i]? = some ops[i] from by rw [List.getElem?_toArray]; exact ho]
      unfold wpList at h
      simp only
      by_cases hw : Region.wanted ops[i] (yielded ops.toArray a.tmps) = true
      · rw [if_pos hw] at h ⊢; exact h.imp (Oper.wp_mono hnext) id
      · rw [if_neg hw] at h ⊢; exact hnext _ _ h
    · have hje : j = ops.length := by omega
      rw [hje, List.drop_length] at h
      refine ⟨fun _ => h, fun i hi => ?_⟩
      have := hready j listed hmj hs hD i hi
      obtain ⟨o, ho, _⟩ := mem_ready.1 hi
      have := (Array.getElem?_eq_some_iff.1 ho).1
      simp at this; omega
theorem sy_draw [hmx : MX P] {id : Nat} {ops : List Oper} (m : Nat) (hc : chk m ops = true) (h : DrG P C ops.toArray hp (fun F => Sy P C (.o ops.toArray (ops.drop m) :: k) F hp) (ops.take m) fr) : Sy P C (.c (.region id ops.toArray true) :: k) fr hp := by
  constructor
  intro a w ha hw
  obtain ⟨hm, hat⟩ := chk_facts hc
  obtain ⟨vs, F', hl, hK, hv⟩ := dr_values _ _ h
  obtain ⟨hF', hstep⟩ := hv a ha
  have hlen : (ops.take m).length = m := by simp; omega
  have hget : ∀ i, i < m → (ops.take m)[i]? = ops[i]? := fun i hi => by rw [List.getElem?_take, if_pos hi]
  have hgetm : ∀ i o, (ops.take m)[i]? = some o → i < m ∧ ops[i]? = some o := fun i o ho => by
    have := (List.getElem?_eq_some_iff.1 ho).1
    rw [hlen] at this
    exact ⟨this, by rw [← hget i this]; exact ho⟩
  have hdist : ∀ (i : Nat) (o : Oper) (j : Nat) (oj : Oper) (t : Nat), (ops.take m)[i]? = some o → (ops.take m)[j]? = some oj → j ≠ i → oj.dst = some t → o.dst ≠ some t := fun i o j oj t ho hoj hji ht =>
    ((hat i o (hgetm i o ho).2).2.2.2 (hgetm i o ho).1 j oj t (hgetm j oj hoj).1 (hgetm j oj hoj).2 hji ht).1
  have hfit : ∀ (i : Nat) (o : Oper), (ops.take m)[i]? = some o → Fits C.n o.dst := fun i o ho => by
    have hv' : vs[i]? = some (vs[i]'(by rw [hl]; exact (List.getElem?_eq_some_iff.1 ho).1)) := List.getElem?_eq_getElem _
    exact (hstep i o _ ho hv').1
  have e1 : (ops.take m).take m = ops.take m := List.take_of_length_le (by omega)
  have e2 : vs.take m = vs := List.take_of_length_le (by omega)
  have hdone := actAll_done (n := C.n) ha.defers ha.size hl hfit hdist
  show Code.wp P _ _ _ _
  refine wp_region_any hmx.h ?_
  have key : ∀ (fuel : Nat) (listed : Array Bool) (a' : Act) (w' : World), listed.size = ops.length → cnt ops.length listed ≤ fuel → (∀ i, listed.getD i false = true → i < m) →
      (∀ i o, ops[i]? = some o → listed.getD i false = true → ∀ j ∈ bindsOn o, listed.getD j false = true) → Done C.n (ops.take m) vs (fun i => listed.getD i false = true) a a' → HpOk C.D C.w0 hp w' →
      wpAny P .any ops.toArray (After P C.Q k) fuel listed a' w' := by
    intro fuel
    induction fuel with
    | zero =>
      intro listed a' w' hs hcnt hD hdc hdn hw'
      have hall := cnt_zero (n := ops.length) (l := listed) (by omega)
      have hme : m = ops.length := by
        rcases Nat.lt_or_ge m ops.length with hlt | hge
        · have := hD m (hall m hlt); omega
        · omega
      refine any_tail hc 0 m listed a' w' (Nat.le_refl _) hm hs (by omega) (fun i => ⟨hD i, fun hi => hall i (by omega)⟩) ?_
      have hslot : FrOk C.n F' a' := by
        have hb := hdone m (by omega)
        rw [e1, e2] at hb
        refine ⟨hdn.defers, hdn.size, fun t v ht => ?_⟩
        rw [← hF'.slot t v ht]
        simp only [Array.getD_eq_getD_getElem?]
        congr 1
        by_cases hex : ∃ (j : Nat) (o : Oper), (ops.take m)[j]? = some o ∧ o.dst = some t
        · obtain ⟨j, o, ho, hd⟩ := hex
          have hjm := (hgetm j o ho).1
          have hv' : vs[j]? = some (vs[j]'(by omega)) := List.getElem?_eq_getElem _
          rw [hdn.yes j o _ t ho hv' (hall j (by omega)) hd, hb.yes j o _ t ho hv' hjm hd]
        · rw [hdn.no t fun j o ho _ hd => hex ⟨j, o, ho, hd⟩, hb.no t fun j o ho _ hd => hex ⟨j, o, ho, hd⟩]
      exact hK.go a' w' hslot hw'
    | succ fuel ih =>
      intro listed a' w' hs hcnt hD hdc hdn hw'
      by_cases hall : ∀ i, i < m → listed.getD i false = true
      · refine any_tail hc (fuel + 1) m listed a' w' (Nat.le_refl _) hm hs ?_ (fun i => ⟨hD i, hall i⟩) ?_
        · -- as many are left as the fuel allows
          have hsub : (List.range ops.length).drop m = (List.range ops.length).filter fun i => !listed.getD i false := by
            have e := List.take_append_drop m (List.range ops.length)
            have h1 : ((List.range ops.length).take m).filter (fun i => !listed.getD i false) = [] := by
              rw [List.filter_eq_nil_iff]; intro x hx
              rw [List.take_range] at hx
              have := List.mem_range.1 hx
              simp [hall x (by omega)]
            have h2 : ((List.range ops.length).drop m).filter (fun i => !listed.getD i false) = (List.range ops.length).drop m := by
              rw [List.filter_eq_self]; intro x hx
              obtain ⟨y, hy, rfl⟩ := List.mem_drop_iff_getElem.1 hx
              have hge : ¬ listed.getD ((List.range ops.length)[y + m]) false = true := fun hh => by have := hD _ hh; simp at this; omega
              rw [Bool.not_eq_true'] ; cases hq : listed.getD ((List.range ops.length)[y + m]) false with
              | false => simpa [Nat.add_comm] using hq
              | true => exact absurd hq hge
            conv => rhs; rw [← e, List.filter_append, h1, h2, List.nil_append]
          have := congrArg List.length hsub
          simp only [List.length_drop, List.length_range] at this
          unfold cnt at hcnt
          omega
        · have hslot : FrOk C.n F' a' := by
            have hb := hdone m (by omega)
            rw [e1, e2] at hb
            refine ⟨hdn.defers, hdn.size, fun t v ht => ?_⟩
            rw [← hF'.slot t v ht]
            simp only [Array.getD_eq_getD_getElem?]
            congr 1
            by_cases hex : ∃ (j : Nat) (o : Oper), (ops.take m)[j]? = some o ∧ o.dst = some t
            · obtain ⟨j, o, ho, hd⟩ := hex
              have hjm := (hgetm j o ho).1
              have hv' : vs[j]? = some (vs[j]'(by omega)) := List.getElem?_eq_getElem _
              rw [hdn.yes j o _ t ho hv' (hall j hjm) hd, hb.yes j o _ t ho hv' hjm hd]
            · rw [hdn.no t fun j o ho _ hd => hex ⟨j, o, ho, hd⟩, hb.no t fun j o ho _ hd => hex ⟨j, o, ho, hd⟩]
          exact hK.go a' w' hslot hw'
      · have hex : ∃ i, i < m ∧ ¬ listed.getD i false = true := Classical.byContradiction fun hn => hall fun i hi => Classical.byContradiction fun hh => hn ⟨i, hi, hh⟩
        constructor
        · intro hn
          exfalso
          obtain ⟨i0, hi0⟩ := hex
          obtain ⟨i, hi, hmin⟩ := least (p := fun i => i < m ∧ ¬ listed.getD i false = true) i0 hi0
          have ho : ops[i]? = some (ops[i]'(by omega)) := List.getElem?_eq_getElem _
          have : i ∈ Region.ready .any ops.toArray listed := mem_ready.2 ⟨_, by rw [List.getElem?_toArray]; exact ho, getD_flip.2 ⟨by omega, hi.2⟩, fun j hj => by
            have hji := (hat i _ ho).1 j hj
            exact Classical.byContradiction fun hh => by have := hmin j ⟨by omega, hh⟩; omega⟩
          rw [hn] at this; cases this
        · intro i hi
          obtain ⟨o, ho', h1, h2⟩ := mem_ready.1 hi
          have ho : ops[i]? = some o := by rw [List.getElem?_toArray] at ho'; exact ho'
          have hni := (getD_flip.1 h1).2
          have hilen := (getD_flip.1 h1).1
          have him : i < m := Nat.lt_of_not_le fun hge => hall fun j hj => anc_done (D := fun x => listed.getD x false = true) hdc ((hat i o ho).2.2.1 hge j (by omega)) (fun o' ho' x hx => by rw [ho] at ho'; cases ho'; exact h2 x hx)
          have hoL : (ops.take m)[i]? = some o := by rw [hget i him]; exact ho
          have hvi : vs[i]? = some (vs[i]'(by omega)) := List.getElem?_eq_getElem _
          have hb := hdone i (by omega)
          have hsame : ∀ t, t ∈ readsOf ops o → a'.tmps[t]? = (actAll a ((ops.take m).take i) (vs.take i)).tmps[t]? := by
            intro t ht
            by_cases hw : ∃ (j : Nat) (oj : Oper), (ops.take m)[j]? = some oj ∧ oj.dst = some t
            · obtain ⟨j, oj, hoj, hd⟩ := hw
              obtain ⟨hjm, hoj'⟩ := hgetm j oj hoj
              have hvj : vs[j]? = some (vs[j]'(by omega)) := List.getElem?_eq_getElem _
              have uniq : ∀ j' oj', (ops.take m)[j']? = some oj' → oj'.dst = some t → j' = j := fun j' oj' h' hd' => Classical.byContradiction fun hne => hdist j oj j' oj' t hoj h' hne hd' hd
              by_cases hji : j = i
              · rw [hdn.no t fun j' o' ho' hD' hd' => by have := uniq j' o' ho' hd'; subst this; subst hji; exact hni hD', hb.no t fun j' o' ho' hlt hd' => by have := uniq j' o' ho' hd'; omega]
              · rcases ((hat i o ho).2.2.2 him j oj t hjm hoj' hji hd).2 with h3 | h3 | h3
                · exact absurd ht h3
                · rw [hdn.yes j oj _ t hoj hvj (anc_done (D := fun x => listed.getD x false = true) hdc h3.2 (fun o' ho' x hx => by rw [ho] at ho'; cases ho'; exact h2 x hx)) hd, hb.yes j oj _ t hoj hvj h3.1 hd]
                · have hij := anc_lt (fun i o ho => (hat i o ho).1) h3
                  rw [hdn.no t fun j' o' ho' hD' hd' => by have := uniq j' o' ho' hd'; subst this; exact hni (anc_done (D := fun x => listed.getD x false = true) hdc h3 (fun o'' ho'' x hx => hdc j' o'' ho'' hD' x hx)), hb.no t fun j' o' ho' hlt hd' => by have := uniq j' o' ho' hd'; omega]
            · rw [hdn.no t fun j o ho _ hd => hw ⟨j, o, ho, hd⟩, hb.no t fun j o ho _ hd => hw ⟨j, o, ho, hd⟩]
          have hexec : execOp a'.eval o = execOp (actAll a ((ops.take m).take i) (vs.take i)).eval o := by
            refine execOp_congr o (fun cs b e => by have := (hat i o ho).2.1; rw [e] at this; cases this) fun x hx => ?_
            cases x with
            | tmp t =>
              have := hsame t (List.mem_append.2 (.inl (List.mem_filterMap.2 ⟨.tmp t, Array.mem_toList_iff.2 hx, rfl⟩)))
              simp only [Act.eval, Array.getD_eq_getD_getElem?, this]
            | _ => rfl
          have hwant : Region.wanted o (yielded ops.toArray a'.tmps) = Region.wanted o (yielded ops.toArray (actAll a ((ops.take m).take i) (vs.take i)).tmps) := by
            cases hg : o.guard with
            | none => simp only [Region.wanted, hg]
            | some g =>
              simp only [Region.wanted, hg, yielded, List.getElem?_toArray]
              cases hd : (ops[g.1]?).bind (·.dst) with
              | none => rfl
              | some t =>
                have := hsame t (List.mem_append.2 (.inr (by simp [guardSlot, hg, hd])))
                simp only [Option.bind_some, this]
          have hnext : ∀ w'', HpOk C.D C.w0 hp w'' → wpAny P .any ops.toArray (After P C.Q k) fuel (listed.setIfInBounds i true) (a'.put o.dst (vs[i]'(by omega))) w'' := fun w'' hw'' => by
            refine ih _ _ w'' (by simpa using hs) ?_ ?_ ?_ ?_ hw''
            · have := cnt_set (n := ops.length) (by omega) hilen hni; omega
            · intro j hj; rcases (getD_set hilen).1 hj with hj | rfl
              · exact hD j hj
              · exact him
            · intro j oj hoj hj x hx
              rw [getD_set hilen]
              rcases (getD_set hilen).1 hj with hj | rfl
              · exact .inl (hdc j oj hoj hj x hx)
              · rw [ho] at hoj; cases hoj; exact .inl (h2 x hx)
            · exact hdn.step hoL hvi (hfit i o hoL) (fun j oj t hoj hji hd => hdist i o j oj t hoL hoj hji hd) (fun j => getD_set hilen)
          have hst := (hstep i o _ hoL hvi).2 w' hw'
          simp only at hst
          rw [← hexec, ← hwant] at hst
          unfold wpOp
          rw [ho']
          simp only
          rcases hst with ⟨hwt, hfin⟩ | ⟨hwt, hun⟩
          · rw [if_pos hwt]
            left
            unfold Oper.wp
            cases hr : (execOp a'.eval o).run P w' with
            | halt _ _ => rw [hr] at hfin; exact hfin.elim
            | ok nx w1 =>
              rw [hr] at hfin
              cases nx with
              | value u => obtain ⟨rfl, hw1⟩ := hfin; exact hnext w1 hw1
              | enter f args =>
                have hfin : Calls P f args w1 fun e w'' => e = .returned (vs[i]'(by omega)) ∧ HpOk C.D C.w0 hp w'' := hfin
                refine hfin.mono fun e w'' he => ?_
                obtain ⟨rfl, hw''⟩ := he
                exact hnext w'' hw''
              | _ => exact hfin.elim
          · rw [if_neg (by rw [hwt]; simp), ← hun]
            exact hnext w' hw'
  refine key ops.length (Array.replicate ops.length false) a _ (by simp) ?_ ?_ ?_ ?_ hw.draw
  · unfold cnt; exact Nat.le_trans (List.length_filter_le _ _) (by simp)
  · intro i hi; simp [Array.getD_eq_getD_getElem?, Array.getElem?_replicate] at hi; split at hi <;> simp at hi
  · intro i o _ hi; simp [Array.getD_eq_getD_getElem?, Array.getElem?_replicate] at hi; split at hi <;> simp at hi
  · exact ⟨ha.defers, ha.size, fun j o v t _ _ hj => by simp [Array.getD_eq_getD_getElem?, Array.getElem?_replicate] at hj; split at hj <;> simp at hj, fun t _ => rfl⟩
/-! the steps -/
theorem dr_op {K : Fr → Prop} {o : Oper} {l : List Oper} {v : Value} (h : OV P C fr hp o v) (hg : o.guard = none) (hf : Fits C.n o.dst) (hk : DrG P C all hp K l (put o.dst v fr)) : DrG P C all hp K (o :: l) fr :=
  ⟨v, .mk fun a w ha hw => .inl ⟨by simp [Region.wanted, hg], h.go a.eval w (fun x u hx => ha.ev hx) hw⟩, hf, hk⟩
theorem dr_end {K : Fr → Prop} (h : K fr) : DrG P C all hp K [] fr := h
/-- Where a guard says yes. -/
theorem dr_yes {K : Fr → Prop} {dst : Option Tmp} {op : Op} {ty : TypeId} {pos : String} {aft : Array Edge} {l : List Oper} {v : Value} {j : Nat} {want b : Bool} {t : Tmp} {oj : Oper} (hj : all[j]? = some oj) (ho : oj.dst = some t) (hlt : Nat.blt t C.n = true) (ht : get t fr = some (.bool b)) (hb : b = want)
    (h : OV P C fr hp ⟨dst, op, ty, pos, aft, some (j, want)⟩ v) (hf : Fits C.n dst) (hk : DrG P C all hp K l (put dst v fr)) : DrG P C all hp K (⟨dst, op, ty, pos, aft, some (j, want)⟩ :: l) fr :=
  ⟨v, .mk fun a w ha hw => .inl ⟨by rw [wanted_of (o := ⟨dst, op, ty, pos, aft, some (j, want)⟩) ha rfl hj ho hlt ht, hb]; simp, h.go a.eval w (fun x u hx => ha.ev hx) hw⟩, hf, hk⟩
theorem dr_no {K : Fr → Prop} {dst : Option Tmp} {op : Op} {ty : TypeId} {pos : String} {aft : Array Edge} {l : List Oper} {j : Nat} {want b : Bool} {t : Tmp} {oj : Oper} (hj : all[j]? = some oj) (ho : oj.dst = some t) (hlt : Nat.blt t C.n = true) (ht : get t fr = some (.bool b)) (hb : b = !want)
    (hf : Fits C.n dst) (hk : DrG P C all hp K l (put dst undef fr)) : DrG P C all hp K (⟨dst, op, ty, pos, aft, some (j, want)⟩ :: l) fr :=
  ⟨undef, .mk fun a w ha hw => .inr ⟨by rw [wanted_of (o := ⟨dst, op, ty, pos, aft, some (j, want)⟩) ha rfl hj ho hlt ht, hb]; cases want <;> rfl, rfl⟩, hf, hk⟩
end
end Go.Proofs.Yteiejcililponaa
/- A symbolic walk: '==' between structs of numbers, bools and texts, structs of these among them. -/
set_option linter.unusedVariables false
set_option linter.unusedSimpArgs false
namespace Go.Proofs.Yteiejcililponaa
open Go.RowKit

inductive Kd where
  | b
  | i (k : IntKind)
  | s
  deriving DecidableEq
def kdOf (d : TypeDesc) : Option Kd := match d with
  | .bool => some .b
  | .int k => some (.i k)
  | .string => some .s
  | _ => none
def fitK : Kd → Value → Bool
  | .b, .bool _ => true
  | .i k, .int k' _ => decide (k = k')
  | .s, .string _ => true
  | _, _ => false
def eqC : Value → Value → Bool
  | .bool a, .bool b => a == b
  | .int _ a, .int _ b => decide (a = b)
  | .string a, .string b => decide (a.data.toList = b.data.toList)
  | _, _ => false
def eqL : List Value → List Value → Bool
  | [], [] => true
  | x :: xs, y :: ys => eqC x y && eqL xs ys
  | _, _ => false
def fitL : List Kd → List Value → Bool
  | [], [] => true
  | k :: ks, v :: vs => fitK k v && fitL ks vs
  | _, _ => false
/-- The cells' kinds of a type, so deep. -/
def kindsF (P : Program) (kinds : TypeId → Option (List Kd)) : List Field → Nat → Option (List Kd)
  | [], _ => some []
  | f :: r, off => if (f.name == "_") || !(Nat.beq f.offset off) then none else
    match kinds f.type with
    | none => none
    | some ks => if Nat.beq (P.cellsOf f.type) ks.length && (P.info? f.type).isSome then (kindsF P kinds r (off + ks.length)).map (ks ++ ·) else none
def kinds (P : Program) : Nat → TypeId → Option (List Kd)
  | 0, _ => none
  | n + 1, t => match P.underlying t with
    | none => none
    | some (.struct fs) => if P.stoodInHeld t then none else kindsF P (kinds P n) fs.toList 0
    | some d => (kdOf d).map fun k => [k]
/-- A value out of its cells, as its type has it. -/
def ofCells (P : Program) (t : TypeId) (cs : List Value) : Value := if aggB P t then .agg ⟨cs⟩ else cs.headD default
theorem eqL_append : ∀ (a b c d : List Value), a.length = b.length → eqL (a ++ c) (b ++ d) = (eqL a b && eqL c d)
  | [], [], c, d, _ => by simp [eqL]
  | x :: a, y :: b, c, d, h => by simp only [List.cons_append, eqL]; rw [eqL_append a b c d (by simpa using h), Bool.and_assoc]
theorem fitL_len : ∀ {ks : List Kd} {vs : List Value}, fitL ks vs = true → vs.length = ks.length
  | [], [], _ => rfl
  | k :: ks, v :: vs, h => by simp only [fitL, Bool.and_eq_true] at h; simp [fitL_len h.2]
theorem fitL_split : ∀ {ks rs : List Kd} {vs : List Value}, fitL (ks ++ rs) vs = true → fitL ks (vs.take ks.length) = true ∧ fitL rs (vs.drop ks.length) = true
  | [], rs, vs, h => by simpa [fitL] using h
  | k :: ks, rs, [], h => by simp [fitL] at h
  | k :: ks, rs, v :: vs, h => by
    simp only [List.cons_append, fitL, Bool.and_eq_true] at h
    have := fitL_split h.2
    simp only [List.length_cons, List.take_succ_cons, List.drop_succ_cons, fitL, Bool.and_eq_true]
    exact ⟨⟨h.1, this.1⟩, this.2⟩
theorem run_part {P : Program} {t : TypeId} {d : TypeDesc} {w : World} (hd : P.underlying t = some d) (hi : (P.info? t).isSome = true) (xs : List Value) (off : Nat) (hn : P.cellsOf t = ((xs.drop off).take (P.cellsOf t)).length) (h1 : aggB P t = false → P.cellsOf t = 1) :
    (part t ⟨xs⟩ off).run P w = .ok (ofCells P t ((xs.drop off).take (P.cellsOf t))) w := by
  obtain ⟨i, hi⟩ := Option.isSome_iff_exists.1 hi
  have hag : (isAgg t).run P w = .ok (aggB P t) w := by
    unfold aggB; rw [hd]; exact run_isAgg (P := P) (t := t) (d := d) (h := ⟨hd⟩) w
  unfold part ofCells
  cases hb : aggB P t with
  | true =>
    rw [hb] at hag
    simp [hag, sizeOf, typeInfo, hi, List.extract_eq_take_drop, Program.cellsOf]
  | false =>
    rw [hb] at hag
    have hc := h1 hb
    rw [hc] at hn ⊢
    have : off < xs.length := by rw [List.length_take, List.length_drop] at hn; omega
    have e : (xs.drop off).take 1 = [xs[off]] := by rw [List.drop_eq_getElem_cons this]; rfl
    rw [e]
    simp [hag, List.getElem?_eq_getElem this]
theorem eq_kinds {P : Program} : ∀ (n d : Nat) (t : TypeId) (ks : List Kd) (xs ys : List Value) (w : World), kinds P n t = some ks → fitL ks xs = true → fitL ks ys = true →
    (Op.equalIn (n + d) t (ofCells P t xs) (ofCells P t ys)).run P w = .ok (eqL xs ys) w
  | 0, _, _, _, _, _, _, h, _, _ => by cases h
  | n + 1, d, t, ks, xs, ys, w, h, hx, hy => by
    unfold kinds at h
    rw [show n + 1 + d = (n + d) + 1 by omega]
    cases hu : P.underlying t with
    | none => rw [hu] at h; cases h
    | some dd =>
      rw [hu] at h
      have scalar : ∀ k, kdOf dd = some k → ks = [k] → aggB P t = false → (Op.equalIn ((n + d) + 1) t (ofCells P t xs) (ofCells P t ys)).run P w = .ok (eqL xs ys) w := by
        intro k hk hks hag
        subst hks
        have lx := fitL_len hx
        have ly := fitL_len hy
        match xs, ys, lx, ly with
        | [x], [y], _, _ =>
          simp only [fitL, Bool.and_true] at hx hy
          simp only [ofCells, hag, Bool.false_eq_true, if_false, List.headD_cons, eqL, Bool.and_true]
          cases dd <;> simp only [kdOf, Option.some.injEq, reduceCtorEq] at hk
          · subst hk
            cases x <;> simp only [fitK, Bool.false_eq_true] at hx
            cases y <;> simp only [fitK, Bool.false_eq_true] at hy
            simp [Op.equalIn, underlying, hu, eqC]
          · subst hk
            cases x <;> simp only [fitK, Bool.false_eq_true, decide_eq_true_eq] at hx
            cases y <;> simp only [fitK, Bool.false_eq_true, decide_eq_true_eq] at hy
            subst hx; subst hy
            simp [Op.equalIn, underlying, hu, eqC]
            rfl
          · subst hk
            obtain ⟨a, rfl⟩ : ∃ a, x = .string a := by cases x <;> first | exact ⟨_, rfl⟩ | simp [fitK] at hx
            obtain ⟨b, rfl⟩ : ∃ b, y = .string b := by cases y <;> first | exact ⟨_, rfl⟩ | simp [fitK] at hy
            have e : (a == b) = decide (a.data.toList = b.data.toList) := by
              rw [beq_toListBytes, ByteArray.toList_eq, ByteArray.toList_eq]
              cases hq : (a.data.toList == b.data.toList) with
              | true => rw [beq_iff_eq] at hq; simp [hq]
              | false => have : a.data.toList ≠ b.data.toList := fun e => by rw [e] at hq; simp at hq
                         rw [decide_eq_false this]
            simp [Op.equalIn, underlying, hu, eqC, e]
      cases dd with
      | struct fs =>
        simp only at h
        by_cases hst : P.stoodInHeld t = true
        · rw [if_pos hst] at h; cases h
        · rw [if_neg hst] at h
          have hst' : P.stoodInHeld t = false := by simpa using hst
          have hag : aggB P t = true := by unfold aggB; rw [hu]; rfl
          simp only [ofCells, hag, if_true]
          have hfo : P.fieldsOf t = fs := by simp [Program.fieldsOf, hu]
          rw [run_equalIn_struct w (n + d) t ⟨xs⟩ ⟨ys⟩ (by rw [hu, hfo]) hst', hfo]
          have key : ∀ (l : List Field) (off : Nat) (rs : List Kd), kindsF P (kinds P n) l off = some rs → fitL rs (xs.drop off) = true → fitL rs (ys.drop off) = true →
              (Op.eqFields (n + d) ⟨xs⟩ ⟨ys⟩ l).run P w = .ok (eqL (xs.drop off) (ys.drop off)) w := by
            intro l
            induction l with
            | nil =>
              intro off rs hr h1 h2
              simp only [kindsF, Option.some.injEq] at hr
              subst hr
              have e1 := fitL_len h1
              have e2 := fitL_len h2
              rw [List.length_eq_zero_iff.1 e1, List.length_eq_zero_iff.1 e2]
              simp [Op.eqFields, eqL]
            | cons f l ih =>
              intro off rs hr h1 h2
              unfold kindsF at hr
              split at hr
              · cases hr
              · rename_i hcond
                simp only [Bool.or_eq_true, beq_iff_eq, Bool.not_eq_true', not_or, Bool.not_eq_false] at hcond
                obtain ⟨hname, hoff⟩ := hcond
                have hoff := Nat.eq_of_beq_eq_true hoff
                cases hkf : kinds P n f.type with
                | none => rw [hkf] at hr; cases hr
                | some kf =>
                  rw [hkf] at hr
                  simp only at hr
                  split at hr
                  · rename_i hc2
                    rw [Bool.and_eq_true] at hc2
                    have hcz := Nat.eq_of_beq_eq_true hc2.1
                    obtain ⟨rs', hr', rfl⟩ := Option.map_eq_some_iff.1 hr
                    obtain ⟨a1, a2⟩ := fitL_split h1
                    obtain ⟨b1, b2⟩ := fitL_split h2
                    rw [List.drop_drop] at a2 b2
                    have hdd : ∃ dd, P.underlying f.type = some dd := by
                      cases n with
                      | zero => simp [kinds] at hkf
                      | succ n => unfold kinds at hkf; cases hq : P.underlying f.type with | none => rw [hq] at hkf; cases hkf | some dd => exact ⟨dd, rfl⟩
                    obtain ⟨dd, hdd⟩ := hdd
                    have hone : aggB P f.type = false → P.cellsOf f.type = 1 := fun hb => by
                      rw [hcz]
                      cases n with
                      | zero => simp [kinds] at hkf
                      | succ n =>
                        unfold kinds at hkf
                        rw [hdd] at hkf
                        unfold aggB at hb; rw [hdd] at hb
                        cases dd <;> simp [isAggD] at hb <;> simp [kdOf] at hkf <;> (subst hkf; rfl)
                    have la := fitL_len a1
                    have lb := fitL_len b1
                    have px := run_part (P := P) (w := w) hdd hc2.2 xs f.offset (by rw [hcz, hoff]; exact la.symm) hone
                    have py := run_part (P := P) (w := w) hdd hc2.2 ys f.offset (by rw [hcz, hoff]; exact lb.symm) hone
                    rw [hcz, hoff] at px py
                    have he := eq_kinds n d f.type kf _ _ w hkf a1 b1
                    have hrest := ih (off + kf.length) rs' hr' a2 b2
                    have hsplit : eqL (xs.drop off) (ys.drop off) = (eqL ((xs.drop off).take kf.length) ((ys.drop off).take kf.length) && eqL (xs.drop (off + kf.length)) (ys.drop (off + kf.length))) := by
                      rw [← eqL_append _ _ _ _ (by rw [la, lb]), ← List.drop_drop, ← List.drop_drop, List.take_append_drop, List.take_append_drop]
                    rw [hsplit]
                    simp only [Op.eqFields, hoff]
                    cases hq : eqL ((xs.drop off).take kf.length) ((ys.drop off).take kf.length) with
                    | false => rw [hq] at he; simp [hname, px, py, he]
                    | true => rw [hq] at he; simp [hname, px, py, he, hrest]
                  · cases hr
          have := key fs.toList 0 ks h (by simpa using hx) (by simpa using hy)
          simpa using this
      | bool => obtain ⟨k, hk, hks⟩ := Option.map_eq_some_iff.1 h; exact scalar k hk hks.symm (by unfold aggB; rw [hu]; rfl)
      | int ik => obtain ⟨k, hk, hks⟩ := Option.map_eq_some_iff.1 h; exact scalar k hk hks.symm (by unfold aggB; rw [hu]; rfl)
      | string => obtain ⟨k, hk, hks⟩ := Option.map_eq_some_iff.1 h; exact scalar k hk hks.symm (by unfold aggB; rw [hu]; rfl)
      | _ => simp [kdOf] at h
class KS (P : Program) (t : TypeId) (ks : outParam (List Kd)) : Prop where
  h : kinds P 6 t = some ks
  g : P.eqGuardType P.depth t = false
  a : aggB P t = true
section
variable {P : Program} {C : Cx} {fr : Fr} {hp : List En} {dst : Option Tmp} {ty : TypeId} {pos : String} {aft : Array Edge} {g : Option (Nat × Bool)}
theorem ov_eqst {xt yt : TypeId} {ks : List Kd} [hk : KS P xt ks] {x y : Operand} {xs ys : List Value} (hx : ev fr x = some (.agg ⟨xs⟩)) (hy : ev fr y = some (.agg ⟨ys⟩)) (h1 : fitL ks xs = true) (h2 : fitL ks ys = true) : OV P C fr hp ⟨dst, .binOp .eql xt x y yt, ty, pos, aft, g⟩ (.bool (eqL xs ys)) :=
  ov_pure (fun r w hr => by
    have := eq_kinds (P := P) 6 9994 xt ks xs ys w hk.h h1 h2
    simp only [ofCells, hk.a, if_true] at this
    simp [execOp, hr _ _ hx, hr _ _ hy, eqGuard, hk.g, run_eql_struct, this])
theorem ov_nest {xt yt : TypeId} {ks : List Kd} [hk : KS P xt ks] {x y : Operand} {xs ys : List Value} (hx : ev fr x = some (.agg ⟨xs⟩)) (hy : ev fr y = some (.agg ⟨ys⟩)) (h1 : fitL ks xs = true) (h2 : fitL ks ys = true) : OV P C fr hp ⟨dst, .binOp .neq xt x y yt, ty, pos, aft, g⟩ (.bool (!eqL xs ys)) :=
  ov_pure (fun r w hr => by
    have := eq_kinds (P := P) 6 9994 xt ks xs ys w hk.h h1 h2
    simp only [ofCells, hk.a, if_true] at this
    simp [execOp, hr _ _ hx, hr _ _ hy, eqGuard, hk.g, run_neq_struct, this])
end
end Go.Proofs.Yteiejcililponaa
/- A symbolic walk: what asks for nothing is gone through at once. -/
set_option linter.unusedVariables false
set_option linter.unusedSimpArgs false
namespace Go.Proofs.Yteiejcililponaa
open Go.RowKit

/-- Two numbers, two texts. -/
def binP : BinOp → Value → Value → Option Value
  | .lss, .int k a, .int k' b => if k = k' then some (.bool (decide (a < b))) else none
  | .leq, .int k a, .int k' b => if k = k' then some (.bool (decide (a ≤ b))) else none
  | .gtr, .int k a, .int k' b => if k = k' then some (.bool (decide (b < a))) else none
  | .geq, .int k a, .int k' b => if k = k' then some (.bool (decide (b ≤ a))) else none
  | .eql, .int k a, .int k' b => if k = k' then some (.bool (decide (a = b))) else none
  | .neq, .int k a, .int k' b => if k = k' then some (.bool (!decide (a = b))) else none
  | .eql, .string ⟨⟨a⟩⟩, .string ⟨⟨b⟩⟩ => some (.bool (decide (a = b)))
  | .neq, .string ⟨⟨a⟩⟩, .string ⟨⟨b⟩⟩ => some (.bool (!decide (a = b)))
  | _, _, _ => none
/-- The value of an operation that asks for nothing. -/
def valP (fr : Fr) : Op → Option Value
  | .move x => ev fr x
  | .assign x => ev fr x
  | .extract x i => match ev fr x with
    | some (.tuple ⟨vs⟩) => vs[i]?
    | _ => none
  | .binOp op _ x y _ => match ev fr x, ev fr y with
    | some u, some v => binP op u v
    | _, _ => none
  | .unOp .not _ x => match ev fr x with
    | some (.bool b) => some (.bool (!b))
    | _ => none
  | .nilCheck x => match ev fr x with
    | some (.pointer (some p)) => some (.pointer (some p))
    | _ => none
  | _ => none
section
variable {P : Program} {C : Cx} {k : List It} {fr : Fr} {hp : List En} {all : Array Oper}
theorem ov_p {o : Oper} {v : Value} (h : valP fr o.op = some v) : OV P C fr hp o v := by
  obtain ⟨dst, op, ty, pos, aft, g⟩ := o
  simp only at h
  cases op <;> simp only [valP, reduceCtorEq] at h
  case move x => exact ov_move h
  case assign x => exact ov_assign h
  case nilCheck x =>
    split at h
    · rename_i p hx; cases h; exact ov_nilCheck hx
    · cases h
  case extract x i =>
    split at h
    · rename_i vs hx; exact ov_extract hx h
    · cases h
  case unOp op t x =>
    cases op <;> simp only [valP, reduceCtorEq] at h
    split at h
    · rename_i b hx; cases h; exact ov_not hx
    · cases h
  case binOp op xt x y yt =>
    split at h
    · rename_i u w hx hy
      unfold binP at h
      split at h
      · split at h
        · rename_i hk; cases h; subst hk; exact ov_lt hx hy
        · cases h
      · split at h
        · rename_i hk; cases h; subst hk; exact ov_le hx hy
        · cases h
      · split at h
        · rename_i hk; cases h; subst hk; exact ov_gt hx hy
        · cases h
      · split at h
        · rename_i hk; cases h; subst hk; exact ov_ge hx hy
        · cases h
      · split at h
        · rename_i hk; cases h; subst hk; exact ov_eq hx hy
        · cases h
      · split at h
        · rename_i hk; cases h; subst hk; exact ov_ne hx hy
        · cases h
      · cases h; exact ov_eqs hx hy
      · cases h; exact ov_nes hx hy
      · cases h
    · cases h
/-- A kind of number and its bounds. -/
class IK (k : IntKind) (lo hi : outParam Int) : Prop where
  h : ∀ n, lo ≤ n → n ≤ hi → k.wrap n = n
  pos : 0 ≤ hi
  neg : lo ≤ 0
instance : IK .i64 (-9223372036854775808) 9223372036854775807 := ⟨wrap_in, by omega, by omega⟩
instance : IK .i32 (-2147483648) 2147483647 := ⟨wrap_in_i32, by omega, by omega⟩
instance : IK .u8 0 255 := ⟨wrap_in_u8, by omega, by omega⟩
instance : IK .u32 0 4294967295 := ⟨wrap_in_u32, by omega, by omega⟩
instance : IK .u64 0 18446744073709551615 := ⟨wrap_in_u64, by omega, by omega⟩
def ar : BinOp → Int → Int → Option Int
  | .add, a, b => some (a + b)
  | .sub, a, b => some (a - b)
  | .mul, a, b => some (a * b)
  | _, _, _ => none
variable {dst : Option Tmp} {ty : TypeId} {pos : String} {aft : Array Edge} {g : Option (Nat × Bool)}
theorem ov_ar {op : BinOp} {xt yt : TypeId} {x y : Operand} {ik : IntKind} {a b n lo hi : Int} [IK ik lo hi] (hx : ev fr x = some (.int ik a)) (hy : ev fr y = some (.int ik b)) (hn : ar op a b = some n) (h1 : lo ≤ n) (h2 : n ≤ hi) :
    OV P C fr hp ⟨dst, .binOp op xt x y yt, ty, pos, aft, g⟩ (.int ik n) := by
  have hw := IK.h (k := ik) n h1 h2
  cases op <;> simp only [ar, reduceCtorEq, Option.some.injEq] at hn <;> subst hn
  · have := ov_addw (P := P) (C := C) (hp := hp) (dst := dst) (ty := ty) (pos := pos) (aft := aft) (g := g) (xt := xt) (yt := yt) hx hy; rw [hw] at this; exact this
  · have := ov_subw (P := P) (C := C) (hp := hp) (dst := dst) (ty := ty) (pos := pos) (aft := aft) (g := g) (xt := xt) (yt := yt) hx hy; rw [hw] at this; exact this
  · have := ov_mulw (P := P) (C := C) (hp := hp) (dst := dst) (ty := ty) (pos := pos) (aft := aft) (g := g) (xt := xt) (yt := yt) hx hy; rw [hw] at this; exact this
theorem ov_quok {xt yt : TypeId} {x y : Operand} {ik : IntKind} {a b lo hi : Int} [IK ik lo hi] (hx : ev fr x = some (.int ik a)) (hy : ev fr y = some (.int ik b)) (h1 : 0 ≤ a) (h2 : a ≤ hi) (h3 : 0 < b) : OV P C fr hp ⟨dst, .binOp .quo xt x y yt, ty, pos, aft, g⟩ (.int ik (a / b)) := by
  have := ov_quo (P := P) (C := C) (hp := hp) (dst := dst) (ty := ty) (pos := pos) (aft := aft) (g := g) (xt := xt) (yt := yt) hx hy (by omega)
  have h4 : 0 ≤ a / b := Int.ediv_nonneg h1 (by omega)
  have h5 : a / b ≤ a := Int.ediv_le_self _ h1
  have h6 := IK.neg (k := ik)
  rw [Int.tdiv_eq_ediv_of_nonneg h1, IK.h (k := ik) _ (by omega) (by omega)] at this; exact this
theorem ov_convk {st dt : TypeId} {sd : TypeDesc} {ik jk : IntKind} {lo hi : Int} [TU P st sd] [TU P dt (.int ik)] [IK ik lo hi] {x : Operand} {n : Int} (hx : ev fr x = some (.int jk n)) (h1 : lo ≤ n) (h2 : n ≤ hi) : OV P C fr hp ⟨dst, .convert st dt x, ty, pos, aft, g⟩ (.int ik n) := by
  have := ov_conv (P := P) (C := C) (hp := hp) (dst := dst) (ty := ty) (pos := pos) (aft := aft) (g := g) (st := st) (dt := dt) (sd := sd) (ik := ik) hx; rw [IK.h (k := ik) _ h1 h2] at this; exact this
/-- What is read: a cell, or so many. -/
def ldV (ag : Bool) (cs : List Value) (off n : Nat) : Option Value :=
  bif ag then (bif Nat.ble (off + n) cs.length then some (.agg ⟨(cs.drop off).take n⟩) else none) else cs[off]?
theorem ov_ld {t : TypeId} {d : TypeDesc} {ti : TypeInfo} [hd : TU P t d] [hti : TI P t ti] {x : Operand} (i : Nat) {b off : Nat} {e : TypeId} {cs : List Value} {v : Value} (hx : ev fr x = some (.pointer (some ⟨b, off, none⟩))) (hi : hp[i]? = some (blk b e cs)) (hv : ldV (isAggD d) cs off ti.size = some v) :
    OV P C fr hp ⟨dst, .load t x, ty, pos, aft, g⟩ v := by
  unfold ldV at hv
  cases ha : isAggD d with
  | false => rw [ha] at hv; exact ov_load i hx hi ha hv
  | true =>
    rw [ha] at hv
    cases hn : Nat.ble (off + ti.size) cs.length with
    | false => rw [hn] at hv; cases hv
    | true => rw [hn] at hv; cases hv; exact ov_loada i hx hi ha hn
/-- Where leaving a block leads. -/
def exitTo' (id : Nat) : List It → Option (List It)
  | [] => none
  | .blk id' :: k => bif Nat.beq id id' then some k else exitTo' id k
  | .c _ :: k => exitTo' id k
  | .o _ _ :: k => exitTo' id k
  | .back _ :: k => exitTo' id k
theorem leave_exit {id : Nat} : ∀ {k k' : List It}, exitTo' id k = some k' → Sy P C k' fr hp → Leave P C (.exit id) k fr hp
  | [], _, h, _ => by cases h
  | .blk id' :: k, k', h, hs => by
    unfold exitTo' at h
    cases hb : Nat.beq id id' with
    | true => rw [hb] at h; cases h; have := Nat.eq_of_beq_eq_true hb; subst this; exact leave_blk hs
    | false => rw [hb] at h; exact leave_blk_ne hb (leave_exit h hs)
  | .c _ :: k, k', h, hs => leave_c (leave_exit (k := k) h hs)
  | .o _ _ :: k, k', h, hs => leave_o (leave_exit (k := k) h hs)
  | .back _ :: k, k', h, hs => leave_back (leave_exit (k := k) h hs)
theorem leave_ret : ∀ {k : List It}, Leave P C .ret [] fr hp → Leave P C .ret k fr hp
  | [], h => h
  | .blk _ :: k, h => ret_blk (leave_ret h)
  | .c _ :: k, h => ret_c (leave_ret h)
  | .o _ _ :: k, h => ret_o (leave_ret h)
  | .back _ :: k, h => ret_back (leave_ret h)
/-- A step of the text's form. -/
def stepK : List It → Option (List It)
  | .o _ [] :: k => some k
  | .blk _ :: k => some k
  | .c (.seq x y) :: k => some (.c x :: .c y :: k)
  | .c (.region _ ⟨l⟩ false) :: k => some (.o ⟨l⟩ l :: k)
  | .c .skip :: k => some k
  | .c (.label _) :: k => some k
  | .c (.block id x) :: k => some (.c x :: .blk id :: k)
  | .c (.exit id) :: k => exitTo' id k
  | _ => none
def stepsK : Nat → List It → Option (List It)
  | 0, k => some k
  | m + 1, k => match stepK k with
    | some k' => stepsK m k'
    | none => some k
theorem sy_step {k k' : List It} (h : stepK k = some k') (hk : Sy P C k' fr hp) : Sy P C k fr hp := by
  unfold stepK at h
  split at h
  · cases h; exact sy_end hk
  · cases h; exact sy_blk hk
  · cases h; exact sy_seq hk
  · cases h; exact sy_region hk
  · cases h; exact sy_skip hk
  · cases h; exact sy_label hk
  · cases h; exact sy_block hk
  · exact sy_exit (leave_exit h hk)
  · cases h
theorem sy_steps : ∀ {m : Nat} {k k' : List It}, stepsK m k = some k' → Sy P C k' fr hp → Sy P C k fr hp
  | 0, k, k', h, hk => by cases h; exact hk
  | m + 1, k, k', h, hk => by
    unfold stepsK at h
    split at h
    · rename_i hs; exact sy_step hs (sy_steps h hk)
    · cases h; exact hk
theorem sy_k {k1 k' : List It} (h : stepK k = some k1) (h1 : stepsK 40 k1 = some k') (hk : Sy P C k' fr hp) : Sy P C k fr hp := sy_step h (sy_steps h1 hk)
theorem sy_rt (h : Leave P C .ret [] fr hp) : Sy P C (.c .ret :: k) fr hp := sy_ret (leave_ret h)
end
end Go.Proofs.Yteiejcililponaa
