/- A symbolic walk: what is known of the slots is a list, what the call owns of memory is a list; the world itself stays out of sight. -/
import Derived.Test.YteddjadeenimkaaRows
import Derived.WalkKit
import Derived.Orders
import Derived.Below
set_option linter.unusedVariables false
set_option linter.unusedSimpArgs false
namespace Go.Proofs.Yteddjadeenimkaa
open Go.RowKit

abbrev Fr := List (Nat × Value)
def get : Nat → Fr → Option Value
  | _, [] => none
  | t, (d, v) :: r => cond (Nat.beq t d) (some v) (get t r)
structure FrOk (n : Nat) (fr : Fr) (a : Act) : Prop where
  defers : a.defers = []
  size : a.tmps.size = n
  slot : ∀ t v, get t fr = some v → a.tmps.getD t undef = v
def put (dst : Option Tmp) (v : Value) (fr : Fr) : Fr :=
  match dst with
  | some d => (d, v) :: fr
  | none => fr
def Fits (n : Nat) (dst : Option Tmp) : Prop := match dst with | some d => Nat.blt d n = true | none => true = true
theorem FrOk.put {n : Nat} {fr : Fr} {a : Act} {dst : Option Tmp} (h : FrOk n fr a) (hd : Fits n dst) (v : Value) : FrOk n (put dst v fr) (a.put dst v) := by
  cases dst with
  | none => exact h
  | some d =>
    have hd' : d < n := by simpa [Fits, Nat.blt_eq] using hd
    refine ⟨h.defers, by simpa [Act.put] using h.size, fun t x hx => ?_⟩
    have hx : cond (Nat.beq t d) (some v) (Go.Proofs.Yteddjadeenimkaa.get t fr) = some x := hx
    simp only [Act.put]
    by_cases e : t = d
    · subst e
      rw [show Nat.beq t t = true from by simp] at hx
      simp only [cond_true, Option.some.injEq] at hx
      subst hx
      simp [Array.getD_eq_getD_getElem?, h.size, hd']
    · rw [show Nat.beq t d = false from by cases hb : Nat.beq t d with | false => rfl | true => exact absurd (Nat.eq_of_beq_eq_true hb) e] at hx
      have := h.slot t x hx
      rw [← this]
      simp only [Array.getD_eq_getD_getElem?]
      rw [Array.getElem?_setIfInBounds_ne (by omega)]
def ev (fr : Fr) : Operand → Option Value
  | .tmp t => get t fr
  | .const v => some v
  | .global g => some (.pointer (some ⟨g, 0, none⟩))
  | .func f => some (.func (.func f) #[] #[])
theorem FrOk.ev {n : Nat} {fr : Fr} {a : Act} (h : FrOk n fr a) {x : Operand} {v : Value} (hx : ev fr x = some v) : a.eval x = v := by
  cases x with
  | tmp t => exact h.slot t v hx
  | const c => exact Option.some.inj hx
  | global g => exact Option.some.inj hx
  | func f => exact Option.some.inj hx

/-- A piece of memory that the call has for its own: which blocks, and what is so of them. -/
structure En where
  dom : Nat → Prop
  holds : World → Prop
  loc : ∀ w w' : World, (∀ b, dom b → w'.heap[b]? = w.heap[b]?) → holds w → holds w'
/-- A row of cells. -/
def blk (b : Nat) (ty : TypeId) (cs : List Value) : En := ⟨(· = b), fun w => w.heap[b]? = some (.cells cs.toArray ty (0, 0)), fun _ _ h hh => (h b rfl).trans hh⟩
/-- What may have changed since w0: new blocks, and the blocks D. -/
structure Keep (D : Nat → Prop) (w0 w : World) : Prop where
  os : w.os = w0.os
  tape : w.tape = w0.tape
  output : w.output = w0.output
  size : w0.heap.size ≤ w.heap.size
  block : ∀ k, k < w0.heap.size → ¬ D k → w.heap[k]? = w0.heap[k]?
theorem Keep.refl (D : Nat → Prop) (w : World) : Keep D w w := ⟨rfl, rfl, rfl, Nat.le_refl _, fun _ _ _ => rfl⟩
theorem Keep.below {w0 w : World} (h : Keep (fun _ => False) w0 w) : Below w0.heap.size w0 w := ⟨h.os, h.tape, h.output, h.size, fun k hk => h.block k hk id⟩
theorem Keep.of_below {D : Nat → Prop} {w0 w : World} (h : Below w0.heap.size w0 w) : Keep D w0 w := ⟨h.os, h.tape, h.output, h.size, fun k hk _ => h.block k hk⟩
theorem Keep.trans {D E : Nat → Prop} {a b c : World} (h : Keep D a b) (k : Keep E b c) (hE : ∀ x, E x → D x ∨ a.heap.size ≤ x) : Keep D a c :=
  ⟨k.os.trans h.os, k.tape.trans h.tape, k.output.trans h.output, Nat.le_trans h.size k.size, fun x hx hd => (k.block x (Nat.lt_of_lt_of_le hx h.size) (fun e => (hE x e).elim hd (fun hge => by omega))).trans (h.block x hx hd)⟩
structure HpOk (D : Nat → Prop) (w0 : World) (hp : List En) (w : World) : Prop where
  keep : Keep D w0 w
  own : ∀ e ∈ hp, e.holds w ∧ ∀ b, e.dom b → (D b ∨ w0.heap.size ≤ b) ∧ b < w.heap.size
  sep : hp.Pairwise fun e f => ∀ b, e.dom b → ¬ f.dom b
theorem HpOk.below {w0 : World} {hp : List En} {w : World} (h : HpOk (fun _ => False) w0 hp w) : Below w0.heap.size w0 w := h.keep.below
theorem HpOk.start (D : Nat → Prop) (w : World) : HpOk D w [] w := ⟨Keep.refl _ _, by simp, List.Pairwise.nil⟩
theorem HpOk.start1 (e : En) (w : World) (he : e.holds w) (hd : ∀ b, e.dom b → b < w.heap.size) : HpOk e.dom w [e] w :=
  ⟨Keep.refl _ _, by simp only [List.mem_singleton]; rintro f rfl; exact ⟨he, fun b hb => ⟨.inl hb, hd b hb⟩⟩, List.pairwise_singleton _ _⟩
theorem HpOk.step {D : Nat → Prop} {w0 : World} {hp : List En} {w w' : World} (h : HpOk D w0 hp w) (hb : Below w.heap.size w w') : HpOk D w0 hp w' :=
  ⟨h.keep.trans (D := D) (E := fun _ => False) (Keep.of_below hb) (fun x hx => hx.elim),
    fun e he => ⟨e.loc w w' (fun b hd => hb.block b ((h.own e he).2 b hd).2) (h.own e he).1, fun b hd => ⟨((h.own e he).2 b hd).1, Nat.lt_of_lt_of_le ((h.own e he).2 b hd).2 hb.size⟩⟩, h.sep⟩
theorem HpOk.draw {D : Nat → Prop} {w0 : World} {hp : List En} {w : World} (h : HpOk D w0 hp w) : HpOk D w0 hp { w with drawn := w.drawn + 1 } :=
  h.step (w' := { w with drawn := w.drawn + 1 }) ⟨rfl, rfl, rfl, Nat.le_refl _, fun _ _ => rfl⟩
theorem HpOk.add {D : Nat → Prop} {w0 : World} {hp : List En} {w : World} (h : HpOk D w0 hp w) (e : En) (hh : e.holds w) (hd : ∀ b, e.dom b → (D b ∨ w0.heap.size ≤ b) ∧ b < w.heap.size) (hs : ∀ f ∈ hp, ∀ b, e.dom b → ¬ f.dom b) : HpOk D w0 (e :: hp) w :=
  ⟨h.keep, by simp only [List.mem_cons]; rintro f (rfl | hf); exact ⟨hh, hd⟩; exact h.own f hf, List.Pairwise.cons hs h.sep⟩
/-- What a callee leaves new. -/
theorem HpOk.fresh {D : Nat → Prop} {w0 : World} {hp : List En} {w w' : World} (h : HpOk D w0 hp w) (hb : Below w.heap.size w w') (e : En) (hh : e.holds w') (hd : ∀ b, e.dom b → w.heap.size ≤ b ∧ b < w'.heap.size) : HpOk D w0 (e :: hp) w' :=
  (h.step hb).add e hh (fun b hb' => ⟨.inr (Nat.le_trans h.keep.size (hd b hb').1), (hd b hb').2⟩) (fun f hf b hb' hf' => by have := ((h.own f hf).2 b hf').2; have := (hd b hb').1; omega)
theorem HpOk.alloc {D : Nat → Prop} {w0 : World} {hp : List En} {w : World} (h : HpOk D w0 hp w) (cs : List Value) (ty : TypeId) : HpOk D w0 (blk w.heap.size ty cs :: hp) (w.alloc (.cells cs.toArray ty)) :=
  h.fresh ((Below.refl _ _).alloc (Nat.le_refl _) _) _ (by show (w.heap.push _)[w.heap.size]? = _; simp) (by rintro b rfl; show _ ∧ _ < (w.heap.push _).size; simp)
theorem HpOk.weaken {D : Nat → Prop} {w0 : World} {hp hp' : List En} {w : World} (h : HpOk D w0 hp w) (hs : hp'.Sublist hp) : HpOk D w0 hp' w :=
  ⟨h.keep, fun e he => h.own e (hs.subset he), h.sep.sublist hs⟩
theorem HpOk.get {D : Nat → Prop} {w0 : World} {hp : List En} {w : World} (h : HpOk D w0 hp w) {i : Nat} {e : En} (hi : hp[i]? = some e) : e.holds w ∧ ∀ b, e.dom b → (D b ∨ w0.heap.size ≤ b) ∧ b < w.heap.size :=
  h.own e (List.mem_of_getElem? hi)
/-- Two pieces of the call's own lie apart. -/
theorem HpOk.apart {D : Nat → Prop} {w0 : World} {hp : List En} {w : World} (h : HpOk D w0 hp w) {i j : Nat} {e f : En} (hi : hp[i]? = some e) (hj : hp[j]? = some f) (hne : i ≠ j) (b : Nat) (he : e.dom b) : ¬ f.dom b := by
  intro hf
  have hp' := h.sep
  rw [List.pairwise_iff_getElem] at hp'
  have hil := (List.getElem?_eq_some_iff.1 hi).1
  have hjl := (List.getElem?_eq_some_iff.1 hj).1
  have e1 := (List.getElem?_eq_some_iff.1 hi).2
  have e2 := (List.getElem?_eq_some_iff.1 hj).2
  rcases Nat.lt_or_ge i j with hlt | hge
  · have := hp' i j hil hjl hlt b; rw [e1, e2] at this; exact this he hf
  · have := hp' j i hjl hil (by omega) b; rw [e1, e2] at this; exact this hf he
/-- One piece gives way to another one, in its blocks or in new ones. -/
theorem HpOk.regrow {D : Nat → Prop} {w0 : World} {hp : List En} {w w' : World} (h : HpOk D w0 hp w) {i : Nat} {e e' : En} (hi : hp[i]? = some e) (hh : e'.holds w') (hk : Keep e.dom w w')
    (hd : ∀ b, e'.dom b → b < w'.heap.size ∧ (e.dom b ∨ w.heap.size ≤ b)) : HpOk D w0 (hp.set i e') w' := by
  have hold := h.get hi
  have hil := (List.getElem?_eq_some_iff.1 hi).1
  have hs := hk.size
  refine ⟨h.keep.trans hk (fun x hx => (hold.2 x hx).1), fun f hf => ?_, ?_⟩
  · obtain ⟨j, hj⟩ := List.mem_iff_getElem?.1 hf
    rw [List.getElem?_set] at hj
    by_cases hij : i = j
    · rw [if_pos hij, if_pos (by omega)] at hj
      have := Option.some.inj hj; subst this
      exact ⟨hh, fun b hb' => ⟨by rcases (hd b hb').2 with h1 | h1; exact (hold.2 b h1).1; exact .inr (Nat.le_trans h.keep.size h1), (hd b hb').1⟩⟩
    · rw [if_neg hij] at hj
      have hfo := h.own f (List.mem_of_getElem? hj)
      exact ⟨f.loc w w' (fun b hdb => hk.block b (hfo.2 b hdb).2 (fun he => h.apart hi hj hij b he hdb)) hfo.1, fun b hb' => ⟨(hfo.2 b hb').1, Nat.lt_of_lt_of_le (hfo.2 b hb').2 hs⟩⟩
  · rw [List.pairwise_iff_getElem]
    intro x y hx hy hxy b
    rw [List.length_set] at hx hy
    have gx := List.getElem_set (l := hp) (i := i) (a := e') (j := x) (by rw [List.length_set]; exact hx)
    have gy := List.getElem_set (l := hp) (i := i) (a := e') (j := y) (by rw [List.length_set]; exact hy)
    rw [gx, gy]
    have hp' := h.sep
    rw [List.pairwise_iff_getElem] at hp'
    by_cases h1 : i = x
    · rw [if_pos h1, if_neg (by omega)]
      intro he hf
      rcases (hd b he).2 with h3 | h3
      · exact h.apart hi (List.getElem?_eq_getElem hy) (by omega) b h3 hf
      · have := ((h.own _ (List.getElem_mem hy)).2 b hf).2; omega
    · rw [if_neg h1]
      by_cases h2 : i = y
      · rw [if_pos h2]
        intro hf he
        rcases (hd b he).2 with h3 | h3
        · exact h.apart hi (List.getElem?_eq_getElem hx) (by omega) b h3 hf
        · have := ((h.own _ (List.getElem_mem hx)).2 b hf).2; omega
      · rw [if_neg h2]; exact hp' x y hx hy hxy b
theorem HpOk.store {D : Nat → Prop} {w0 : World} {hp : List En} {w : World} (h : HpOk D w0 hp w) {i b off : Nat} {ty : TypeId} {cs : List Value} (hi : hp[i]? = some (blk b ty cs)) (v : Value) : HpOk D w0 (hp.set i (blk b ty (cs.set off v))) (w.setCell ⟨b, off, none⟩ v) := by
  have hh : w.heap[b]? = some (.cells cs.toArray ty (0, 0)) := (h.get hi).1
  have hsz : (w.setCell ⟨b, off, none⟩ v).heap.size = w.heap.size := by simp [World.setCell]
  refine h.regrow hi ?_ ⟨rfl, rfl, rfl, Nat.le_of_eq hsz.symm, fun k _ hk => Below.heap_setCell w ⟨b, off, none⟩ v k hk⟩ (fun k hk => ⟨by rw [hsz]; exact ((h.get hi).2 k hk).2, .inl hk⟩)
  show (w.setCell ⟨b, off, none⟩ v).heap[b]? = _
  simp [World.setCell, Array.getElem?_modify, hh]

/-! ### What is left to do -/
inductive It where
  | c (c : Code)
  | o (all : Array Oper) (l : List Oper)
  | blk (id : Nat)
  | back (J : Act → World → Prop)
def After (P : Program) (Q : Exit → Act → World → Prop) : List It → Exit → Act → World → Prop
  | [], e, a, w => Q e a w
  | .c c :: k, e, a, w => match e with
    | .normal => c.wp P (After P Q k) a w
    | e => After P Q k e a w
  | .o all l :: k, e, a, w => match e with
    | .normal => wpList P all (After P Q k) l a w
    | e => After P Q k e a w
  | .blk id :: k, e, a, w => Exit.inBlock id (After P Q k) e a w
  | .back J :: k, e, a, w => match e with
    | .normal => J a w
    | e => After P Q k e a w
structure Cx where
  D : Nat → Prop
  w0 : World
  n : Nat
  Q : Exit → Act → World → Prop
structure Sy (P : Program) (C : Cx) (k : List It) (fr : Fr) (hp : List En) : Prop where
  go : ∀ a w, FrOk C.n fr a → HpOk C.D C.w0 hp w → After P C.Q k .normal a w
section
variable {P : Program} {C : Cx} {k : List It} {fr : Fr} {hp : List En}
theorem sy_weaken {fr' : Fr} {hp' : List En} (hf : ∀ t v, get t fr' = some v → get t fr = some v) (hs : hp'.Sublist hp) (h : Sy P C k fr' hp') : Sy P C k fr hp :=
  .mk fun a w ha hw => h.go a w ⟨ha.defers, ha.size, fun t v hx => ha.slot t v (hf t v hx)⟩ (hw.weaken hs)
theorem sy_skip (h : Sy P C k fr hp) : Sy P C (.c .skip :: k) fr hp := .mk fun a w ha hw => wp_skip (h.go a w ha hw)
theorem sy_label {l : Nat} (h : Sy P C k fr hp) : Sy P C (.c (.label l) :: k) fr hp := .mk fun a w ha hw => wp_label (h.go a w ha hw)
theorem sy_seq {x y : Code} (h : Sy P C (.c x :: .c y :: k) fr hp) : Sy P C (.c (.seq x y) :: k) fr hp := by
  constructor
  intro a w ha hw
  refine wp_seq (wp_mono (h.go a w ha hw) ?_)
  intro e a w he
  cases e <;> exact he
theorem sy_block {id : Nat} {x : Code} (h : Sy P C (.c x :: .blk id :: k) fr hp) : Sy P C (.c (.block id x) :: k) fr hp :=
  .mk fun a w ha hw => wp_block (wp_mono (h.go a w ha hw) fun e a w he => he)
theorem sy_blk {id : Nat} (h : Sy P C k fr hp) : Sy P C (.blk id :: k) fr hp := .mk fun a w ha hw => h.go a w ha hw
theorem sy_cond {c : Operand} {x y : Code} {b : Bool} (hc : ev fr c = some (.bool b)) (ht : b = true → Sy P C (.c x :: k) fr hp) (hf : b = false → Sy P C (.c y :: k) fr hp) : Sy P C (.c (.cond c x y) :: k) fr hp := by
  constructor
  intro a w ha hw
  refine wp_cond (ha.ev hc) ?_
  cases b
  · exact (hf rfl).go a w ha hw
  · exact (ht rfl).go a w ha hw
theorem sy_cond_t {c : Operand} {x y : Code} {b : Bool} (hc : ev fr c = some (.bool b)) (hb : b = true) (h : Sy P C (.c x :: k) fr hp) : Sy P C (.c (.cond c x y) :: k) fr hp :=
  sy_cond hc (fun _ => h) (fun e => by rw [hb] at e; cases e)
theorem sy_cond_f {c : Operand} {x y : Code} {b : Bool} (hc : ev fr c = some (.bool b)) (hb : b = false) (h : Sy P C (.c y :: k) fr hp) : Sy P C (.c (.cond c x y) :: k) fr hp :=
  sy_cond hc (fun e => by rw [hb] at e; cases e) (fun _ => h)
/-- Leaving with something else than the plain end: what lies ahead is passed over. -/
structure Leave (P : Program) (C : Cx) (e : Exit) (k : List It) (fr : Fr) (hp : List En) : Prop where
  go : ∀ a w, FrOk C.n fr a → HpOk C.D C.w0 hp w → After P C.Q k e a w
theorem sy_exit {id : Nat} (h : Leave P C (.exit id) k fr hp) : Sy P C (.c (.exit id) :: k) fr hp := .mk fun a w ha hw => wp_exit (h.go a w ha hw)
theorem sy_ret (h : Leave P C .ret k fr hp) : Sy P C (.c .ret :: k) fr hp := .mk fun a w ha hw => wp_ret (h.go a w ha hw)
theorem leave_c {id : Nat} {c : Code} (h : Leave P C (.exit id) k fr hp) : Leave P C (.exit id) (.c c :: k) fr hp := .mk h.go
theorem leave_o {id : Nat} {all : Array Oper} {l : List Oper} (h : Leave P C (.exit id) k fr hp) : Leave P C (.exit id) (.o all l :: k) fr hp := .mk h.go
theorem leave_back {id : Nat} {J : Act → World → Prop} (h : Leave P C (.exit id) k fr hp) : Leave P C (.exit id) (.back J :: k) fr hp := .mk h.go
theorem leave_blk {id : Nat} (h : Sy P C k fr hp) : Leave P C (.exit id) (.blk id :: k) fr hp := .mk fun a w ha hw => by
  show Exit.inBlock id (After P C.Q k) (.exit id) a w
  simp only [Exit.inBlock, ↓reduceIte]; exact h.go a w ha hw
theorem leave_blk_ne {id id' : Nat} (hn : Nat.beq id id' = false) (h : Leave P C (.exit id) k fr hp) : Leave P C (.exit id) (.blk id' :: k) fr hp := .mk fun a w ha hw => by
  show Exit.inBlock id' (After P C.Q k) (.exit id) a w
  have : id ≠ id' := by intro e; subst e; simp at hn
  simp only [Exit.inBlock, if_neg this]; exact h.go a w ha hw
theorem ret_c {c : Code} (h : Leave P C .ret k fr hp) : Leave P C .ret (.c c :: k) fr hp := .mk h.go
theorem ret_o {all : Array Oper} {l : List Oper} (h : Leave P C .ret k fr hp) : Leave P C .ret (.o all l :: k) fr hp := .mk h.go
theorem ret_back {J : Act → World → Prop} (h : Leave P C .ret k fr hp) : Leave P C .ret (.back J :: k) fr hp := .mk h.go
theorem ret_blk {id : Nat} (h : Leave P C .ret k fr hp) : Leave P C .ret (.blk id :: k) fr hp := .mk h.go
theorem sy_region {id : Nat} {l : List Oper} (h : Sy P C (.o l.toArray l :: k) fr hp) : Sy P C (.c (.region id l.toArray false) :: k) fr hp :=
  .mk fun a w ha hw => wp_region_lit (h.go a w ha hw)
theorem sy_end {all : Array Oper} (h : Sy P C k fr hp) : Sy P C (.o all [] :: k) fr hp := .mk fun a w ha hw => by show wpList _ _ _ _ _ _; exact wpList_nil (h.go a w ha hw)
theorem sy_op {all : Array Oper} {o : Oper} {l : List Oper} (hg : o.guard = none) (h : ∀ a w, FrOk C.n fr a → HpOk C.D C.w0 hp w → o.wp P a w (wpList P all (After P C.Q k) l) (After P C.Q k)) : Sy P C (.o all (o :: l) :: k) fr hp :=
  .mk fun a w ha hw => wpList_plain hg fun K hK => by
    have := h a w ha hw
    unfold Oper.wp at this ⊢
    unfold Oper.upon at this ⊢
    split at this <;> first | exact hK _ _ this | skip
    · exact this.mono fun e w he => by cases e <;> first | exact hK _ _ he | exact he
    · exact this.mono fun v w he => hK _ _ he
    · exact this
    · exact this
end
end Go.Proofs.Yteddjadeenimkaa
