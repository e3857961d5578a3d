/- A symbolic walk: entering a function, leaving it, loops, memory of the call's own. -/
import Derived.Test.YteddjadeenimkaaSyOp
set_option linter.unusedVariables false
set_option linter.unusedSimpArgs false
namespace Go.Proofs.Yteddjadeenimkaa
open Go.RowKit

def initFr : List Value → Nat → Fr
  | [], _ => []
  | v :: r, i => (i, v) :: initFr r (i + 1)
theorem get_init : ∀ (l : List Value) (i t : Nat) (v : Value), get t (initFr l i) = some v → i ≤ t ∧ l[t - i]? = some v
  | [], _, _, _, h => by cases h
  | u :: r, i, t, v, h => by
    have h' : cond (Nat.beq t i) (some u) (get t (initFr r (i + 1))) = some v := h
    clear h
    cases hb : Nat.beq t i with
    | true =>
      rw [hb] at h'; simp only [cond_true, Option.some.injEq] at h'
      have e := Nat.eq_of_beq_eq_true hb
      subst e; subst h'; simp
    | false =>
      rw [hb] at h'
      have := get_init r (i + 1) t v h'
      refine ⟨by omega, ?_⟩
      have e : t - i = (t - (i + 1)) + 1 := by omega
      rw [e]; simpa using this.2
section
variable {P : Program} {C : Cx} {k : List It} {fr : Fr} {hp : List En}
theorem sy_enter {f : FuncId} {fn : Func} [hfn : FN P f fn] {c : Code} {args : List Value} {w : World} {R : Ending → World → Prop} (hb : fn.body = some c) (hn : Nat.ble args.length fn.ntmps = true)
    (h : Sy P ⟨fun _ => False, w, fn.ntmps, bodyPost P fn R⟩ [.c c] (initFr args 0) []) : Calls P f args.toArray w R := by
  have hn' : args.length ≤ fn.ntmps := by simpa using hn
  refine calls_of_wp hfn.h hb ?_
  refine h.go _ w ⟨rfl, by simp; omega, fun t v ht => ?_⟩ (HpOk.start _ w)
  have := (get_init args 0 t v ht).2
  simp only [Nat.sub_zero] at this
  have hlt := (List.getElem?_eq_some_iff.1 this).1
  simp only [Array.getD_eq_getD_getElem?]
  rw [Array.getElem?_append_left (by simpa using hlt)]
  simp [this]
/-- Entering a callee that works on a piece of its caller's memory. -/
theorem sy_enter1 {f : FuncId} {fn : Func} [hfn : FN P f fn] {c : Code} {args : List Value} {w : World} {R : Ending → World → Prop} {e : En} (hb : fn.body = some c) (hn : Nat.ble args.length fn.ntmps = true) (he : e.holds w) (hd : ∀ b, e.dom b → b < w.heap.size)
    (h : Sy P ⟨e.dom, w, fn.ntmps, bodyPost P fn R⟩ [.c c] (initFr args 0) [e]) : Calls P f args.toArray w R := by
  have hn' : args.length ≤ fn.ntmps := by simpa using hn
  refine calls_of_wp hfn.h hb ?_
  refine h.go _ w ⟨rfl, by simp; omega, fun t v ht => ?_⟩ (HpOk.start1 e w he hd)
  have := (get_init args 0 t v ht).2
  simp only [Nat.sub_zero] at this
  have hlt := (List.getElem?_eq_some_iff.1 this).1
  simp only [Array.getD_eq_getD_getElem?]
  rw [Array.getElem?_append_left (by simpa using hlt)]
  simp [this]
theorem ret0w {D : Nat → Prop} {w0 : World} {n : Nat} {fn : Func} {R : Ending → World → Prop} (hr : fn.results = #[]) (h : ∀ w, HpOk D w0 hp w → R (.returned (.tuple #[])) w) : Leave P ⟨D, w0, n, bodyPost P fn R⟩ .ret [] fr hp := .mk fun a w ha hw => by
  have hq := results_none hr a.tmps P w
  show bodyPost P fn R .ret a w
  exact bodyPost_ret hq ha.defers (h w hw)
theorem end0w {D : Nat → Prop} {w0 : World} {n : Nat} {fn : Func} {R : Ending → World → Prop} (hr : fn.results = #[]) (h : ∀ w, HpOk D w0 hp w → R (.returned (.tuple #[])) w) : Sy P ⟨D, w0, n, bodyPost P fn R⟩ [] fr hp := .mk fun a w ha hw => by
  have hq := results_none hr a.tmps P w
  show bodyPost P fn R .normal a w
  exact bodyPost_end hq ha.defers (h w hw)
theorem ret1w {D : Nat → Prop} {w0 : World} {n : Nat} {fn : Func} {t : Tmp} {v : Value} {R : Ending → World → Prop} (hr : fn.results = #[.tmp t]) (hv : get t fr = some v) (h : ∀ w, HpOk D w0 hp w → R (.returned v) w) : Leave P ⟨D, w0, n, bodyPost P fn R⟩ .ret [] fr hp := .mk fun a w ha hw => by
  have hq := results_tmp hr a.tmps P w
  rw [ha.slot t v hv] at hq
  show bodyPost P fn R .ret a w
  exact bodyPost_ret hq ha.defers (h w hw)
theorem ret2w {D : Nat → Prop} {w0 : World} {n : Nat} {fn : Func} {t u : Tmp} {v x : Value} {R : Ending → World → Prop} (hr : fn.results = #[.tmp t, .tmp u]) (hv : get t fr = some v) (hx : get u fr = some x) (h : ∀ w, HpOk D w0 hp w → R (.returned (.tuple #[v, x])) w) : Leave P ⟨D, w0, n, bodyPost P fn R⟩ .ret [] fr hp := .mk fun a w ha hw => by
  have hq := results_tmp2 hr a.tmps P w
  rw [ha.slot t v hv, ha.slot u x hx] at hq
  show bodyPost P fn R .ret a w
  exact bodyPost_ret hq ha.defers (h w hw)
theorem ret1 {fn : Func} {t : Tmp} {w0 : World} {n : Nat} {v v0 : Value} (hr : fn.results = #[.tmp t]) (hv : get t fr = some v) (he : v = v0) :
    Leave P ⟨fun _ => False, w0, n, bodyPost P fn fun e w' => e = .returned v0 ∧ Below w0.heap.size w0 w'⟩ .ret [] fr hp := .mk fun a w ha hw => by
  subst he
  have hq := results_tmp hr a.tmps P w
  rw [ha.slot t v hv] at hq
  show bodyPost P fn (fun e w' => e = .returned _ ∧ Below w0.heap.size w0 w') .ret a w
  exact bodyPost_ret hq ha.defers (And.intro rfl hw.below)
theorem ret2 {fn : Func} {t u : Tmp} {w0 : World} {n : Nat} {v x v0 : Value} (hr : fn.results = #[.tmp t, .tmp u]) (hv : get t fr = some v) (hx : get u fr = some x) (he : Value.tuple #[v, x] = v0) :
    Leave P ⟨fun _ => False, w0, n, bodyPost P fn fun e w' => e = .returned v0 ∧ Below w0.heap.size w0 w'⟩ .ret [] fr hp := .mk fun a w ha hw => by
  subst he
  have hq := results_tmp2 hr a.tmps P w
  rw [ha.slot t v hv, ha.slot u x hx] at hq
  show bodyPost P fn (fun e w' => e = .returned _ ∧ Below w0.heap.size w0 w') .ret a w
  exact bodyPost_ret hq ha.defers (And.intro rfl hw.below)
theorem results_tmp3' {fn : Func} {t u r : Tmp} (h : fn.results = #[.tmp t, .tmp u, .tmp r]) (tmps : Array Value) (P : Program) (w : World) :
    (results fn tmps).run P w = .ok (.tuple #[tmps.getD t undef, tmps.getD u undef, tmps.getD r undef]) w := by
  simp [results, h]
theorem ret3 {fn : Func} {t u r : Tmp} {w0 : World} {n : Nat} {v x y v0 : Value} (hr : fn.results = #[.tmp t, .tmp u, .tmp r]) (hv : get t fr = some v) (hx : get u fr = some x) (hy : get r fr = some y) (he : Value.tuple #[v, x, y] = v0) :
    Leave P ⟨fun _ => False, w0, n, bodyPost P fn fun e w' => e = .returned v0 ∧ Below w0.heap.size w0 w'⟩ .ret [] fr hp := .mk fun a w ha hw => by
  subst he
  have hq := results_tmp3' hr a.tmps P w
  rw [ha.slot t v hv, ha.slot u x hx, ha.slot r y hy] at hq
  show bodyPost P fn (fun e w' => e = .returned _ ∧ Below w0.heap.size w0 w') .ret a w
  exact bodyPost_ret hq ha.defers (And.intro rfl hw.below)
/-- What is known at a place of the text is known: it holds of this frame, too. -/
def Sub : Fr → Fr → Prop
  | [], _ => True
  | (t, v) :: r, fr => (∃ u, get t fr = some u ∧ u = v) ∧ Sub r fr
theorem Sub.ok : ∀ {F fr : Fr}, Sub F fr → ∀ t v, get t F = some v → get t fr = some v
  | [], _, _, t, v, h => by cases h
  | (s, u) :: r, fr, hs, t, v, h => by
    obtain ⟨⟨u', h1, rfl⟩, h2⟩ := hs
    have h : cond (Nat.beq t s) (some u') (get t r) = some v := h
    cases hb : Nat.beq t s with
    | true => rw [hb] at h; simp only [cond_true, Option.some.injEq] at h; subst h; rw [Nat.eq_of_beq_eq_true hb]; exact h1
    | false => rw [hb] at h; exact Sub.ok h2 t v h
theorem Sub.frOk {n : Nat} {F fr : Fr} {a : Act} (h : Sub F fr) (ha : FrOk n fr a) : FrOk n F a := ⟨ha.defers, ha.size, fun t v ht => ha.slot t v (h.ok t v ht)⟩
def LoopOk {α : Type} (C : Cx) (F : α → Fr) (H : α → List En) (inv : α → Prop) (a : α) (act : Act) (w : World) : Prop := inv a ∧ FrOk C.n (F a) act ∧ HpOk C.D C.w0 (H a) w
def Bk {α : Type} (C : Cx) (F : α → Fr) (H : α → List En) (inv : α → Prop) (m : α → Nat) (z : Nat) : Act → World → Prop := fun act w => ∃ a, m a < z ∧ LoopOk C F H inv a act w
theorem sy_back {α : Type} {F : α → Fr} {H : α → List En} {inv : α → Prop} {m : α → Nat} {z : Nat} (a : α) (hi : inv a) (hm : m a < z) (hf : Sub (F a) fr) (hh : (H a).Sublist hp) : Sy P C (.back (Bk C F H inv m z) :: k) fr hp :=
  .mk fun act w ha hw => ⟨a, hm, hi, hf.frOk ha, hw.weaken hh⟩
theorem least {p : Nat → Prop} : ∀ z, p z → ∃ y, p y ∧ ∀ x, p x → y ≤ x := by
  intro z
  induction z using Nat.strongRecOn with
  | ind z ih =>
    intro hz
    by_cases h : ∃ y, y < z ∧ p y
    · obtain ⟨y, hy, hp⟩ := h; exact ih y hy hp
    · exact ⟨z, hz, fun x hx => Nat.le_of_not_lt fun hlt => h ⟨x, hlt, hx⟩⟩
open Classical in
theorem sy_loop {α : Type} (F : α → Fr) (H : α → List En) (inv : α → Prop) (m : α → Nat) (a0 : α) {body : Code} (hi : inv a0) (hf : Sub (F a0) fr) (hh : (H a0).Sublist hp)
    (h : ∀ a, inv a → Sy P C (.c body :: .back (Bk C F H inv m (m a)) :: k) (F a) (H a)) : Sy P C (.c (.loop body) :: k) fr hp := by
  constructor
  intro act w ha hw
  let I : Act → World → Prop := fun act w => ∃ a, LoopOk C F H inv a act w
  let p : Act → World → Nat → Prop := fun act w z => ∃ a, LoopOk C F H inv a act w ∧ m a = z
  let μ : Act → World → Nat := fun act w => if hz : ∃ z, p act w z ∧ ∀ x, p act w x → z ≤ x then Classical.choose hz else 0
  have hμ : ∀ act w a, LoopOk C F H inv a act w → p act w (μ act w) ∧ ∀ x, p act w x → μ act w ≤ x := fun act w a ho => by
    have hz : ∃ z, p act w z ∧ ∀ x, p act w x → z ≤ x := least (m a) ⟨a, ho, rfl⟩
    have e : μ act w = Classical.choose hz := dif_pos hz
    rw [e]; exact Classical.choose_spec hz
  refine wp_loop I μ ⟨a0, hi, hf.frOk ha, hw.weaken hh⟩ ?_
  rintro act w ⟨a, ho⟩
  obtain ⟨⟨b, hb, hmb⟩, _⟩ := hμ act w a ho
  rw [← hmb]
  have hs : body.wp P (After P C.Q (.back (Bk C F H inv m (m b)) :: k)) act w := (h b hb.1).go act w hb.2.1 hb.2.2
  refine wp_mono hs ?_
  intro e act' w' he
  cases e with
  | normal =>
    obtain ⟨b', hm', hb'⟩ := he
    exact ⟨⟨b', hb'⟩, Nat.lt_of_le_of_lt ((hμ act' w' b' hb').2 _ ⟨b', hb', rfl⟩) hm'⟩
  | _ => exact he
end
/-! ### memory -/
def upd : List Value → Nat → List Value → List Value
  | cs, _, [] => cs
  | cs, o, v :: vs => upd (cs.set o v) (o + 1) vs
theorem upd_length : ∀ (vs cs : List Value) (o : Nat), (upd cs o vs).length = cs.length
  | [], _, _ => rfl
  | v :: vs, cs, o => by rw [upd, upd_length vs, List.length_set]
def oneAll : List Value → Bool
  | [] => true
  | v :: r => v.oneCell' && oneAll r
theorem addr_add (b o n : Nat) : (⟨b, o, none⟩ : Addr).add n = ⟨b, o + n, none⟩ := by unfold Addr.add; split <;> simp_all
section
variable {P : Program} {D : Nat → Prop} {w0 : World} {hp : List En}
theorem HpOk.cell {w : World} (h : HpOk D w0 hp w) {i b : Nat} {ty : TypeId} {cs : List Value} (hi : hp[i]? = some (blk b ty cs)) (o : Nat) : w.cell? ⟨b, o, none⟩ = cs[o]? := by
  have := (h.get hi).1
  have hh : w.heap[b]? = some (.cells cs.toArray ty (0, 0)) := this
  simp [World.cell?, hh]
theorem HpOk.thawed {w : World} (h : HpOk D w0 hp w) {i b : Nat} {ty : TypeId} {cs : List Value} (hi : hp[i]? = some (blk b ty cs)) (o : Nat) : w.frozen? ⟨b, o, none⟩ = false := by
  have := (h.get hi).1
  have hh : w.heap[b]? = some (.cells cs.toArray ty (0, 0)) := this
  simp [World.frozen?, hh]
theorem set_set_same {α : Type} : ∀ (l : List α) (i : Nat) (a b : α), (l.set i a).set i b = l.set i b
  | [], _, _, _ => rfl
  | _ :: _, 0, _, _ => rfl
  | x :: l, i + 1, a, b => by simp
theorem storeCells_ok (b off : Nat) (ty : TypeId) : ∀ (vs : List Value) (j : Nat) (cs : List Value) (w : World) (hp : List En) (i : Nat), HpOk D w0 hp w → hp[i]? = some (blk b ty cs) → off + j + vs.length ≤ cs.length → oneAll vs = true →
    ∃ w', (storeCells ⟨b, off, none⟩ vs j).run P w = .ok () w' ∧ HpOk D w0 (hp.set i (blk b ty (upd cs (off + j) vs))) w'
  | [], j, cs, w, hp, i, h, hi, hl, _ => ⟨w, rfl, by
      have : hp.set i (blk b ty (upd cs (off + j) [])) = hp := by
        obtain ⟨hlt, he⟩ := List.getElem?_eq_some_iff.1 hi
        show hp.set i (blk b ty cs) = hp
        rw [← he]; exact List.set_getElem_self hlt
      rw [this]; exact h⟩
  | v :: vs, j, cs, w, hp, i, h, hi, hl, ho => by
    have ho' : v.oneCell' = true ∧ oneAll vs = true := by simpa [oneAll] using ho
    simp only [List.length_cons] at hl
    have hc : w.cell? ⟨b, off + j, none⟩ = some (cs[off + j]'(by omega)) := by rw [h.cell hi]; exact List.getElem?_eq_getElem (by omega)
    have h1 := h.store (off := off + j) hi v
    have hi' : (hp.set i (blk b ty (cs.set (off + j) v)))[i]? = some (blk b ty (cs.set (off + j) v)) := by
      rw [List.getElem?_set_self]; exact (List.getElem?_eq_some_iff.1 hi).1
    obtain ⟨w', hr, hw'⟩ := storeCells_ok b off ty vs (j + 1) (cs.set (off + j) v) _ _ i h1 hi' (by rw [List.length_set]; omega) ho'.2
    refine ⟨w', ?_, ?_⟩
    · have hs := run_store P w ⟨b, off + j, none⟩ v .plain ho'.1
      rw [hc, h.thawed hi] at hs
      simp only [storeCells, addr_add]
      simp [hs, hr]
    · rw [set_set_same] at hw'; exact hw'
theorem loadCells_ok {w : World} (h : HpOk D w0 hp w) {i b off n : Nat} {ty : TypeId} {cs : List Value} (hi : hp[i]? = some (blk b ty cs)) (hn : off + n ≤ cs.length) :
    (loadCells ⟨b, off, none⟩ n).run P w = .ok ⟨(cs.drop off).take n⟩ w := by
  have hlen : ((cs.drop off).take n).length = n := by simp; omega
  have := run_loadCells_list (P := P) (w := w) ⟨b, off, none⟩ ((cs.drop off).take n) (fun j v hj => by
    rw [addr_add, h.cell hi]
    rw [List.getElem?_take] at hj
    split at hj
    · rw [List.getElem?_drop] at hj; exact hj
    · cases hj)
  rw [hlen] at this; exact this
end
def isAggD : TypeDesc → Bool
  | .struct _ | .array _ _ => true
  | _ => false
theorem run_isAgg {P : Program} {t : TypeId} {d : TypeDesc} [h : TU P t d] (w : World) : (isAgg t).run P w = .ok (isAggD d) w := by
  unfold isAgg
  cases d <;> simp [underlying, h.h, isAggD]
def aggB (P : Program) (t : TypeId) : Bool := match P.underlying t with | some d => isAggD d | none => false
/-- The places of a struct's fields: how far in, how many cells, and whether it is a struct or an array itself. -/
class PL (P : Program) (t : TypeId) (pl : outParam (List (Nat × Nat × Bool))) : Prop where
  h : ∃ fs : List Field, P.underlying t = some (.struct ⟨fs⟩) ∧ fs.map (fun f => (f.offset, P.cellsOf f.type, aggB P f.type)) = pl ∧ ∀ f ∈ fs, (P.info? f.type).isSome = true ∧ (P.underlying f.type).isSome = true
def plOk (P : Program) (t : TypeId) (pl : List (Nat × Nat × Bool)) : Bool := match P.underlying t with
  | some (.struct fs) => decide (fs.toList.map (fun f => (f.offset, P.cellsOf f.type, aggB P f.type)) = pl) && fs.toList.all fun f => (P.info? f.type).isSome && (P.underlying f.type).isSome
  | _ => false
theorem PL.mk' {P : Program} {t : TypeId} {pl : List (Nat × Nat × Bool)} (h : plOk P t pl = true) : PL P t pl := by
  constructor
  unfold plOk at h
  split at h
  · rename_i fs hu
    rw [Bool.and_eq_true] at h
    exact ⟨fs.toList, hu, by simpa using h.1, fun f hf => by have := List.all_eq_true.1 h.2 f hf; simpa using this⟩
  · cases h
theorem PL.get {P : Program} {t : TypeId} {pl : List (Nat × Nat × Bool)} (h : PL P t pl) {j o sz : Nat} {ag : Bool} (hj : pl[j]? = some (o, sz, ag)) :
    ∃ (fs : List Field) (f : Field), P.underlying t = some (.struct ⟨fs⟩) ∧ fs[j]? = some f ∧ f.offset = o ∧ (∀ w, (sizeOf f.type).run P w = .ok sz w) ∧ ∀ w, (isAgg f.type).run P w = .ok ag w := by
  obtain ⟨fs, hu, hm, ha⟩ := h.h
  rw [← hm, List.getElem?_map] at hj
  obtain ⟨f, hf, he⟩ := Option.map_eq_some_iff.1 hj
  obtain ⟨h1, h2⟩ := ha f (List.mem_of_getElem? hf)
  obtain ⟨i, hi⟩ := Option.isSome_iff_exists.1 h1
  obtain ⟨d, hd⟩ := Option.isSome_iff_exists.1 h2
  simp only [Prod.mk.injEq] at he
  obtain ⟨e1, e2, e3⟩ := he
  refine ⟨fs, f, hu, hf, e1, fun w => ?_, fun w => ?_⟩
  · rw [← e2]; simp [sizeOf, typeInfo, hi, Program.cellsOf]
  · rw [← e3]; unfold aggB; rw [hd]
    exact run_isAgg (P := P) (t := f.type) (d := d) (h := ⟨hd⟩) w
theorem run_sizeOf' {P : Program} {t : TypeId} {i : TypeInfo} [h : TI P t i] (w : World) : (sizeOf t).run P w = .ok i.size w := by
  simp [sizeOf, typeInfo, h.h]
section
variable {P : Program} {C : Cx} {k : List It} {fr : Fr} {hp : List En} {all : Array Oper} {l : List Oper} {dst : Option Tmp} {ty : TypeId} {pos : String} {aft : Array Edge} {g : Option (Nat × Bool)}
theorem ov_read {o : Oper} {v : Value} (h : ∀ (r : Operand → Value) (w : World), (∀ x u, ev fr x = some u → r x = u) → HpOk C.D C.w0 hp w → (execOp r o).run P w = .ok (.value v) w) : OV P C fr hp o v :=
  .mk fun r w hr hw => by rw [h r w hr hw]; exact ⟨rfl, hw⟩
theorem sy_box {e : TypeId} {x : Operand} {v : Value} {cs : List Value} (hx : ev fr x = some v) (hc : v.cells = ⟨cs⟩) (hf : Fits C.n dst) (hk : ∀ b, Sy P C (.o all l :: k) (put dst (.pointer (some ⟨b, 0, none⟩)) fr) (blk b e cs :: hp)) :
    Sy P C (.o all (⟨dst, .box e x, ty, pos, aft, none⟩ :: l) :: k) fr hp :=
  sy_op rfl fun a w ha hw => by
    have hr : (execOp a.eval ⟨dst, .box e x, ty, pos, aft, none⟩).run P w = .ok (.value (.pointer (some ⟨w.heap.size, 0, none⟩))) (w.alloc (.cells cs.toArray e)) := by
      simp [execOp, ha.ev hx, Instr.box, newVar, newRow, newObj, hc]; rfl
    unfold Oper.wp; rw [hr]
    exact (hk _).go _ _ (ha.put hf _) (hw.alloc cs e)
theorem sy_alloc {e : TypeId} {i : TypeInfo} [hti : TI P e i] {z : Value} {cs : List Value} (hz : i.zero = some z) (hc : z.cells = ⟨cs⟩) (hf : Fits C.n dst) (hk : ∀ b, Sy P C (.o all l :: k) (put dst (.pointer (some ⟨b, 0, none⟩)) fr) (blk b e cs :: hp)) :
    Sy P C (.o all (⟨dst, .alloc e, ty, pos, aft, none⟩ :: l) :: k) fr hp :=
  sy_op rfl fun a w ha hw => by
    have hr : (execOp a.eval ⟨dst, .alloc e, ty, pos, aft, none⟩).run P w = .ok (.value (.pointer (some ⟨w.heap.size, 0, none⟩))) (w.alloc (.cells cs.toArray e)) := by
      simp [execOp, Instr.alloc, zeroValue, typeInfo, hti.h, hz, newVar, newRow, newObj, hc]; rfl
    unfold Oper.wp; rw [hr]
    exact (hk _).go _ _ (ha.put hf _) (hw.alloc cs e)
theorem ov_load {t : TypeId} {d : TypeDesc} [hd : TU P t d] {x : Operand} (i : Nat) {b off : Nat} {e : TypeId} {cs : List Value} {v : Value} (hx : ev fr x = some (.pointer (some ⟨b, off, none⟩))) (hi : hp[i]? = some (blk b e cs)) (ha : isAggD d = false) (hv : cs[off]? = some v) :
    OV P C fr hp ⟨dst, .load t x, ty, pos, aft, g⟩ v :=
  ov_read fun r w hr hw => by
    have hc := hw.cell hi off
    rw [hv] at hc
    simp [execOp, hr _ _ hx, Instr.loadAt, Instr.sureAddr, loadVar, run_isAgg (P := P) (t := t) (d := d), ha, load, Sem.run, hc]
theorem ov_loada {t : TypeId} {d : TypeDesc} {ti : TypeInfo} [hd : TU P t d] [hti : TI P t ti] {x : Operand} (i : Nat) {b off : Nat} {e : TypeId} {cs : List Value} (hx : ev fr x = some (.pointer (some ⟨b, off, none⟩))) (hi : hp[i]? = some (blk b e cs)) (ha : isAggD d = true) (hn : Nat.ble (off + ti.size) cs.length = true) :
    OV P C fr hp ⟨dst, .load t x, ty, pos, aft, g⟩ (.agg ⟨(cs.drop off).take ti.size⟩) :=
  ov_read fun r w hr hw => by
    have hl := loadCells_ok (P := P) hw (n := ti.size) hi (by simpa using hn)
    simp [execOp, hr _ _ hx, Instr.loadAt, Instr.sureAddr, loadVar, run_isAgg (P := P) (t := t) (d := d), ha, run_sizeOf' (P := P) (t := t), hl]
theorem sy_store {t : TypeId} {ti : TypeInfo} [hti : TI P t ti] {x y : Operand} (i : Nat) {b off : Nat} {e : TypeId} {cs vs : List Value} {v : Value} (hx : ev fr x = some (.pointer (some ⟨b, off, none⟩))) (hy : ev fr y = some v) (hi : hp[i]? = some (blk b e cs)) (hv : v.cells = ⟨vs⟩) (hs : Nat.beq vs.length ti.size = true) (ho : oneAll vs = true) (hn : Nat.ble (off + vs.length) cs.length = true) (hf : Fits C.n dst)
    (hk : Sy P C (.o all l :: k) (put dst undef fr) (hp.set i (blk b e (upd cs off vs)))) : Sy P C (.o all (⟨dst, .store t x y, ty, pos, aft, none⟩ :: l) :: k) fr hp :=
  sy_op rfl fun a w ha hw => by
    obtain ⟨w', hr, hw'⟩ := storeCells_ok (P := P) b off e vs 0 cs w hp i hw hi (by simpa using hn) ho
    have hs' : vs.length = ti.size := Nat.eq_of_beq_eq_true hs
    have hr : (execOp a.eval ⟨dst, .store t x y, ty, pos, aft, none⟩).run P w = .ok .skip w' := by
      simp [execOp, ha.ev hx, ha.ev hy, Instr.storeAt, Instr.sureAddr, storeVar, run_sizeOf' (P := P) (t := t), hv, hs', hr]
    unfold Oper.wp; rw [hr]
    exact hk.go _ _ (ha.put hf _) hw'
theorem ov_fieldAddr {t : TypeId} {pl : List (Nat × Nat × Bool)} [hpl : PL P t pl] {x : Operand} {j o sz : Nat} {ag : Bool} {b off : Nat} (hx : ev fr x = some (.pointer (some ⟨b, off, none⟩))) (hj : pl[j]? = some (o, sz, ag)) (hz : Nat.beq sz 0 = false) :
    OV P C fr hp ⟨dst, .fieldAddr t x j, ty, pos, aft, g⟩ (.pointer (some ⟨b, off + o, none⟩)) :=
  ov_pure (fun r w hr => by
    obtain ⟨fs, f, hu, hf, rfl, hs, _⟩ := hpl.get hj
    have hz' : sz ≠ 0 := by intro e; rw [e] at hz; cases hz
    simp [execOp, hr _ _ hx, Instr.fieldAt, Instr.sureAddr, underlying, hu, hf, fieldPlace, hs w, hz', addr_add])
theorem ov_field {t : TypeId} {pl : List (Nat × Nat × Bool)} [hpl : PL P t pl] {x : Operand} {j o sz : Nat} {cs : List Value} {v : Value} (hx : ev fr x = some (.agg ⟨cs⟩)) (hj : pl[j]? = some (o, sz, false)) (hv : cs[o]? = some v) :
    OV P C fr hp ⟨dst, .field t x j, ty, pos, aft, g⟩ v :=
  ov_pure (fun r w hr => by
    obtain ⟨fs, f, hu, hf, rfl, _, ha⟩ := hpl.get hj
    simp [execOp, hr _ _ hx, Instr.field, underlying, hu, hf, part, ha w, asAgg, hv])
theorem ov_fielda {t : TypeId} {pl : List (Nat × Nat × Bool)} [hpl : PL P t pl] {x : Operand} {j o sz : Nat} {cs : List Value} (hx : ev fr x = some (.agg ⟨cs⟩)) (hj : pl[j]? = some (o, sz, true)) :
    OV P C fr hp ⟨dst, .field t x j, ty, pos, aft, g⟩ (.agg ⟨(cs.drop o).take sz⟩) :=
  ov_pure (fun r w hr => by
    obtain ⟨fs, f, hu, hf, rfl, hs, ha⟩ := hpl.get hj
    simp [execOp, hr _ _ hx, Instr.field, underlying, hu, hf, part, ha w, asAgg, hs w, List.extract_eq_take_drop])
end
end Go.Proofs.Yteddjadeenimkaa
