/- BEX: texts of this proof, joined by program: SyRet, SyE, SyDrawE, MemS, OpenRows. -/
import Derived.Test.YtldjakeigjngoaaDoorTysQ
import Derived.Test.YtldjakeigjngoaaDoorBEN
import Derived.Scope
import Derived.Deep.Slices
import Derived.ChangeArms
import Derived.OpenShut
/- A symbolic walk: leaving a function with results that lie in memory of the call's own. -/
set_option linter.unusedVariables false
set_option linter.unusedSimpArgs false
namespace Go.Proofs.YtldjakeigjngoaaDoor
open Go.RowKit
section
variable {P : Program} {fr : Fr} {hp : List En}
theorem loadVar_ok {D : Nat → Prop} {w0 : World} {w : World} (hw : HpOk D w0 hp w) {t : TypeId} {d : TypeDesc} {ti : TypeInfo} [hd : TU P t d] [hti : TI P t ti] {i b : Nat} {e : TypeId} {cs : List Value} (hi : hp[i]? = some (blk b e cs)) (ha : isAggD d = true) (hn : Nat.ble (0 + ti.size) cs.length = true) :
 (loadVar t ⟨b, 0, none⟩).run P w = .ok (.agg ⟨cs.take ti.size⟩) w := by
 have hl := loadCells_ok (P := P) hw (n := ti.size) hi (off := 0) (by simpa using hn)
 simp [loadVar, run_isAgg (P := P) (t := t) (d := d), ha, run_sizeOf' (P := P) (t := t), hl]
end
end Go.Proofs.YtldjakeigjngoaaDoor
/- A symbolic walk: callees that work on several pieces of the caller's memory, and leave pieces. -/
namespace Go.Proofs.YtldjakeigjngoaaDoor
open Go.RowKit
def domL (es : List En) (b : Nat) : Prop := ∃ e ∈ es, e.dom b
def PostE (es : List En) (w : World) (R : Value → List En → Prop) (x : Ending) (w' : World) : Prop := ∃ v es', R v es' ∧ x = .returned v ∧ HpOk (domL es) w es' w'
def CallsE (P : Program) (f : FuncId) (args : List Value) (es : List En) (R : Value → List En → Prop) : Prop :=
 ∀ w, HpOk (domL es) w es w → Calls P f args.toArray w (PostE es w R)
theorem HpOk.self {D : Nat → Prop} {w0 w : World} {es rest : List En} (h : HpOk D w0 (es ++ rest) w) : HpOk (domL es) w es w :=
 ⟨Keep.refl _ _, fun e he => ⟨(h.own e (List.mem_append_left _ he)).1, fun b hb => ⟨.inl ⟨e, he, hb⟩, ((h.own e (List.mem_append_left _ he)).2 b hb).2⟩⟩, (List.pairwise_append.1 h.sep).1⟩
theorem HpOk.callE {D : Nat → Prop} {w0 w w' : World} {es rest es' : List En} (h : HpOk D w0 (es ++ rest) w) (h' : HpOk (domL es) w es' w') : HpOk D w0 (es' ++ rest) w' := by
 have hs := List.pairwise_append.1 h.sep
 have hde : ∀ b, domL es b → (D b ∨ w0.heap.size ≤ b) ∧ b < w.heap.size := fun b ⟨e, he, hb⟩ => (h.own e (List.mem_append_left _ he)).2 b hb
 have hk := h'.keep
 refine ⟨h.keep.trans hk (fun x hx => (hde x hx).1), fun e he => ?_, List.pairwise_append.2 ⟨h'.sep, hs.2.1, fun e he f hf b hb hb' => ?_⟩⟩
 · rcases List.mem_append.1 he with h1 | h1
   · have ho := h'.own e h1
     refine ⟨ho.1, fun b hb => ⟨?_, (ho.2 b hb).2⟩⟩
     rcases (ho.2 b hb).1 with h2 | h2
     · exact (hde b h2).1
     · exact .inr (Nat.le_trans h.keep.size h2)
   · have ho := h.own e (List.mem_append_right _ h1)
     exact ⟨e.loc w w' (fun b hd => hk.block b (ho.2 b hd).2 (fun ⟨f, hf, hfb⟩ => hs.2.2 f hf e h1 b hfb hd)) ho.1, fun b hb => ⟨(ho.2 b hb).1, Nat.lt_of_lt_of_le (ho.2 b hb).2 hk.size⟩⟩
 · have hfo := (h.own f (List.mem_append_right _ hf)).2 b hb'
   rcases ((h'.own e he).2 b hb).1 with ⟨g, hg, hgb⟩ | h2
   · exact hs.2.2 g hg f hf b hgb hb'
   · omega
theorem HpOk.perm {D : Nat → Prop} {w0 w : World} {hp hp' : List En} (h : HpOk D w0 hp w) (hp2 : hp'.Perm hp) : HpOk D w0 hp' w :=
 ⟨h.keep, fun e he => h.own e (hp2.subset he), (hp2.pairwise_iff (fun {e f} hef b h1 h2 => hef b h2 h1)).2 h.sep⟩
section
variable {P : Program} {C : Cx} {k : List It} {fr : Fr} {hp : List En} {all : Array Oper} {l : List Oper} {dst : Option Tmp} {ty : TypeId} {pos : String} {aft : Array Edge} {g : Option (Nat × Bool)}
theorem sy_perm {hp' : List En} (hp2 : hp'.Perm hp) (h : Sy P C k fr hp') : Sy P C k fr hp := .mk fun a w ha hw => h.go a w ha (hw.perm hp2)
theorem sy_callE {f : FuncId} {fn : Func} [hfn : FN P f fn] {args : List Operand} {ats : Array TypeId} {vs : List Value} {R : Value → List En → Prop} (es : List En) {rest : List En} (hx : evs fr args = some vs) (hf : Fits C.n dst) (hhp : hp = es ++ rest)
 (hc : CallsE P f vs es R) (hk : ∀ v es', R v es' → Sy P C (.o all l :: k) (put dst v fr) (es' ++ rest)) : Sy P C (.o all (⟨dst, .call ⟨.value (.func f), ⟨args⟩, ats⟩, ty, pos, aft, none⟩ :: l) :: k) fr hp := by
 subst hhp
 exact sy_callw hx hf (R := fun x w' => ∃ w, HpOk C.D C.w0 (es ++ rest) w ∧ PostE es w R x w')
  (fun w hw => (hc w hw.self).mono fun x w' h => ⟨w, hw, h⟩)
  fun _ w' _ x ⟨w, hw, v, es', hR, hx', hh⟩ => ⟨v, _, hx', hw.callE hh, hk v es' hR⟩
theorem sy_enterE {f : FuncId} {fn : Func} [hfn : FN P f fn] {c : Code} {args : List Value} {es : List En} {R : Value → List En → Prop} (hb : fn.body = some c) (hn : Nat.ble args.length fn.ntmps = true)
 (h : ∀ w, Sy P ⟨domL es, w, fn.ntmps, bodyPost P fn (PostE es w R)⟩ [.c c] (initFr args 0) es) : CallsE P f args es R := by
 intro w hw
 have hn' : args.length ≤ fn.ntmps := by simpa using hn
 refine calls_of_wp hfn.h hb ?_
 refine (h w).go _ w ⟨rfl, by simp; omega, fun t v ht => ?_⟩ hw
 have := (get_init args 0 t v ht).2
 simp only [Nat.sub_zero] at this
 have hlt := (List.getElem?_eq_some_iff.1 this).1
 simp only [Array.getD_eq_getD_getElem?]
 rw [Array.getElem?_append_left (by simpa using hlt)]
 simp [this]
end
theorem postE {hp es : List En} {w w' : World} {R : Value → List En → Prop} {v : Value} {x : Ending} (hw : HpOk (domL es) w hp w') (es' : List En) (hs : ∃ l : List En, l.Perm es' ∧ l.Sublist hp) (hx : x = .returned v) (hR : R v es') : PostE es w R x w' := by
 obtain ⟨l, h1, h2⟩ := hs
 exact ⟨v, es', hR, hx, (hw.weaken h2).perm h1.symm⟩
theorem sub_self {es hp : List En} (h : es.Sublist hp) : ∃ l : List En, l.Perm es ∧ l.Sublist hp := ⟨es, List.Perm.refl _, h⟩
end Go.Proofs.YtldjakeigjngoaaDoor
/- A symbolic walk: a drawn region of which some operations change memory: these stand in one order, and all that is read beside them stays as it is. -/
namespace Go.Proofs.YtldjakeigjngoaaDoor
open Go.RowKit
theorem sk {a : En} {l k : List En} (h : l.Sublist k) : (a :: l).Sublist (a :: k) := h.cons_cons a
theorem sd {a : En} {l k : List En} (h : l.Sublist k) : l.Sublist (a :: k) := h.cons a
theorem sr {l : List En} : l.Sublist l := List.Sublist.refl l
structure CxLe (C C' : Cx) : Prop where
 n : C'.n = C.n
 keep : ∀ w, Keep C'.D C'.w0 w → Keep C.D C.w0 w
def pickO (ops : List Oper) : List (Nat × Bool) → List (Bool × Oper)
 | [] => []
 | (i, b) :: r => match ops[i]? with
  | some o => (b, o) :: pickO ops r
  | none => pickO ops r
def Eff (P : Program) (o : Oper) (r : Operand → Value) (w : World) (Φ : Value → World → Prop) : Prop :=
 match (execOp r o).run P w with
 | .ok (.value u) w' => Φ u w'
 | .ok .skip w' => Φ undef w'
 | .ok (.enter f args) w' => Calls P f args w' fun e w'' => ∃ u, e = .returned u ∧ Φ u w''
 | .ok (.row r args) w' => Rows P r args w' Φ
 | _ => False
def DrE (P : Program) (C : Cx) (all : Array Oper) (hc : List En) (K : Fr → List En → Prop) : List (Bool × Oper) → Fr → List En → Prop
 | [], F, hp => K F hp
 | (false, o) :: l, F, hp => ∃ v, (∀ C', CxLe C C' → OVg P C' all F hc o v) ∧ DrE P C all hc K l (put o.dst v F) hp
 | (true, o) :: l, F, hp => ∀ a w, FrOk C.n F a → HpOk C.D C.w0 hp w → Region.wanted o (yielded all a.tmps) = true ∧
     Eff P o a.eval w fun u w' => ∃ hp', HpOk C.D C.w0 hp' w' ∧ hc.Sublist hp' ∧ DrE P C all hc K l (put o.dst u F) hp'
structure ChkE (m : Nat) (ops : List Oper) (ord : List (Nat × Bool)) : Prop where
 mle : m ≤ ops.length
 fo : ∀ (i : Nat) (o : Oper), ops[i]? = some o → (∀ j ∈ bindsOn o, j < i) ∧ isSel o.op = false ∧ (m ≤ i → ∀ j, j < i → Anc ops j i)
 len : ord.length = m
 flt : ∀ x : Nat × Bool, x ∈ ord → x.1 < m
 cov : ∀ i : Nat, i < m → ∃ (p : Nat) (b : Bool), ord[p]? = some (i, b)
 pw : ∀ (p q i j : Nat) (b b' : Bool) (oi oj : Oper), p < q → ord[p]? = some (i, b) → ord[q]? = some (j, b') → ops[i]? = some oi → ops[j]? = some oj →
  i ≠ j ∧ (∀ t, oi.dst = some t → oj.dst ≠ some t) ∧ j ∉ bindsOn oi ∧ (((∃ t, oi.dst = some t ∧ t ∈ readsOf ops oj) ∨ (∃ t, oj.dst = some t ∧ t ∈ readsOf ops oi) ∨ b = true) → Anc ops i j)
def RD (P : Program) (C : Cx) (all : Array Oper) (hc : List En) (o : Oper) (v : Value) (b : Act) : Prop :=
 ∀ hp w, hc.Sublist hp → HpOk C.D C.w0 hp w → (Region.wanted o (yielded all b.tmps) = true ∧ Fin P C hp v ((execOp b.eval o).run P w)) ∨ (Region.wanted o (yielded all b.tmps) = false ∧ v = undef)
theorem Done.set {n : Nat} {l : List Oper} {vs : List Value} {D : Nat → Prop} {a0 a : Act} (h : Done n l vs D a0 a) (k : Nat) (u : Value) (hk : ¬ D k) : Done n l (vs.set k u) D a0 a :=
 ⟨h.defers, h.size, fun j o v t ho hv hD ht => h.yes j o v t ho (by rw [List.getElem?_set_ne (fun e => hk (by rw [e]; exact hD))] at hv; exact hv) hD ht, h.no⟩
structure InvE (P : Program) (C : Cx) (all : Array Oper) (hc : List En) (K : Fr → List En → Prop) (ops : List Oper) (ord : List (Nat × Bool)) (m : Nat) (a0 : Act) (D : Nat → Prop) (a : Act) (w : World) (k : Nat) (vs : List Value) (F : Fr) (hp : List En) : Prop where
 km : k ≤ m
 len : vs.length = m
 A : ∀ p i b, ord[p]? = some (i, b) → D i → p < k
 B : ∀ p i, ord[p]? = some (i, true) → p < k → D i
 done : Done C.n ((pickO ops ord).map (·.2)) vs (fun p => ∃ i b, ord[p]? = some (i, b) ∧ D i) a0 a
 hpk : HpOk C.D C.w0 hp w
 sub : hc.Sublist hp
 frk : FrOk C.n F (actAll a0 (((pickO ops ord).map (·.2)).take k) (vs.take k))
 G : ∀ p i o v, p < k → ord[p]? = some (i, false) → ops[i]? = some o → vs[p]? = some v → RD P C all hc o v (actAll a0 (((pickO ops ord).map (·.2)).take p) (vs.take p))
 H : DrE P C all hc K ((pickO ops ord).drop k) F hp
section
variable {P : Program} {C : Cx} {k : List It} {fr : Fr} {hp : List En}
/-! the steps -/
end
end Go.Proofs.YtldjakeigjngoaaDoor
/- Rows of elements in memory that was there before. -/
namespace Go.Proofs.YtldjakeigjngoaaDoor
open Go.RowKit
def At (w : World) (b off : Nat) (cs : List Value) : Prop := ∀ j u, cs[j]? = some u → w.cell? ⟨b, off + j, none⟩ = some u
def IsSl (w : World) (sz : Nat) (p : Option Addr) (n : Nat) (cs : List Value) : Prop := cs.length = n * sz ∧ (n = 0 ∨ ∃ b off, p = some ⟨b, off, none⟩ ∧ At w b off cs)
theorem cell_lt {w : World} {b o : Nat} {v : Value} (h : w.cell? ⟨b, o, none⟩ = some v) : b < w.heap.size := by
 rcases Nat.lt_or_ge b w.heap.size with h' | h'
 · exact h'
 · unfold World.cell? at h
   rw [Array.getElem?_eq_none h'] at h; cases h
theorem cell_same {w w' : World} {b o : Nat} (h : w'.heap[b]? = w.heap[b]?) : w'.cell? ⟨b, o, none⟩ = w.cell? ⟨b, o, none⟩ := by unfold World.cell?; simp only [h]
def St (D : Nat → Prop) (w0 : World) (R : World → Prop) : Prop := ∀ w, Keep D w0 w → R w
def Bl (R : World → Prop) : Prop := ∀ w w' : World, Below w.heap.size w w' → R w → R w'
theorem At.bl (b off : Nat) (cs : List Value) : Bl fun w => At w b off cs := fun w w' hb h j u hj => by
 have h1 := h j u hj
 rw [cell_same (hb.block b (cell_lt h1))]; exact h1
theorem IsSl.bl (sz : Nat) (p : Option Addr) (n : Nat) (cs : List Value) : Bl fun w => IsSl w sz p n cs := fun w w' hb ⟨h1, h2⟩ =>
 ⟨h1, h2.imp id fun ⟨b, off, e, h⟩ => ⟨b, off, e, At.bl b off cs w w' hb h⟩⟩
theorem St.start {w0 : World} {R : World → Prop} (hR : Bl R) (h : R w0) : St (fun _ => False) w0 R := fun w hk => hR w0 w hk.below h
theorem St.at {D : Nat → Prop} {w0 w : World} {R : World → Prop} {hp : List En} (h : St D w0 R) (hw : HpOk D w0 hp w) : R w := h w hw.keep
theorem St.call {D : Nat → Prop} {w0 w : World} {R : World → Prop} {hp : List En} (h : St D w0 R) (hw : HpOk D w0 hp w) : St (fun _ => False) w R := fun w' hk => h w' (hw.keep.trans hk (fun _ hx => hx.elim))
theorem St.imp {D : Nat → Prop} {w0 : World} {R S : World → Prop} (h : St D w0 R) (hi : ∀ w, R w → S w) : St D w0 S := fun w hk => hi w (h w hk)
theorem IsSl.nil (w : World) (sz : Nat) (p : Option Addr) : IsSl w sz p 0 [] := ⟨by simp, .inl rfl⟩
theorem St.addr {D : Nat → Prop} {w0 : World} {sz n : Nat} {p : Option Addr} {cs : List Value} (h : St D w0 fun w => IsSl w sz p n cs) (hn : 0 < n) : ∃ b off, p = some ⟨b, off, none⟩ ∧ St D w0 fun w => At w b off cs := by
 rcases (h w0 (Keep.refl D w0)).2 with h0 | ⟨b, off, e, _⟩
 · omega
 · refine ⟨b, off, e, fun w hk => ?_⟩
   rcases (h w hk).2 with h0 | ⟨b', off', e', ha⟩
   · omega
   · rw [e] at e'; cases e'; exact ha
theorem flat_get {α : Type} (f : α → List Value) (k : Nat) (hk : ∀ x, (f x).length = k) : ∀ (l : List α) (i : Nat) (x : α), l[i]? = some x → ∀ (j : Nat) (v : Value), (f x)[j]? = some v → (l.flatMap f)[i * k + j]? = some v
 | [], i, x, h, _, _, _ => by simp at h
 | y :: l, 0, x, h, j, v, hj => by
  simp only [List.getElem?_cons_zero, Option.some.injEq] at h
  subst h
  rw [List.flatMap_cons, Nat.zero_mul, Nat.zero_add, List.getElem?_append_left (List.getElem?_eq_some_iff.1 hj).1]; exact hj
 | y :: l, i + 1, x, h, j, v, hj => by
  simp only [List.getElem?_cons_succ] at h
  have := flat_get f k hk l i x h j v hj
  rw [List.flatMap_cons, show (i + 1) * k + j = (f y).length + (i * k + j) by rw [hk]; rw [Nat.succ_mul]; omega, List.getElem?_append_right (by omega), Nat.add_sub_cancel_left]; exact this
theorem flat_len {α : Type} (f : α → List Value) (k : Nat) (hk : ∀ x, (f x).length = k) (l : List α) : (l.flatMap f).length = l.length * k := by
 induction l with
 | nil => simp
 | cons y l ih => rw [List.flatMap_cons, List.length_append, ih, hk, List.length_cons, Nat.succ_mul]; omega
section
variable {P : Program} {C : Cx} {fr : Fr} {hp : List En} {dst : Option Tmp} {ty : TypeId} {pos : String} {aft : Array Edge} {g : Option (Nat × Bool)}
theorem ov_cell {α : Type} {t : TypeId} {d : TypeDesc} [hd : TU P t d] {x : Operand} {f : α → List Value} {l : List α} {b off i j k : Nat} {y : α} {v : Value} (hat : St C.D C.w0 fun w => At w b off (l.flatMap f)) (hl : l[i]? = some y) (hx : ev fr x = some (.pointer (some ⟨b, off + i * k + j, none⟩))) (hj : (f y)[j]? = some v) (ha : isAggD d = false) (hk : ∀ x, (f x).length = k) :
 OV P C fr hp ⟨dst, .load t x, ty, pos, aft, g⟩ v :=
 ov_loadx hx ha fun w hw => by
  have := hat.at hw (i * k + j) v (flat_get f k hk l i y hl j v hj)
  rw [← Nat.add_assoc] at this; exact this
end
end Go.Proofs.YtldjakeigjngoaaDoor
/- Rows of elements that a law is given: what they hold. -/
namespace Go.Proofs.YtldjakeigjngoaaDoor
open Go.RowKit Go.Deep
theorem list_of {α : Type} {p : Nat → α → Prop} : ∀ n : Nat, (∀ i, i < n → ∃ y, p i y) → ∃ l : List α, l.length = n ∧ ∀ i y, l[i]? = some y → p i y
 | 0, _ => ⟨[], rfl, fun i y h => by simp at h⟩
 | n + 1, h => by
  obtain ⟨l, hl, hp⟩ := list_of n (fun i hi => h i (by omega))
  obtain ⟨y, hy⟩ := h n (by omega)
  refine ⟨l ++ [y], by simp [hl], fun i z hz => ?_⟩
  rw [List.getElem?_append] at hz
  split at hz
  · exact hp i z hz
  · rename_i hi
    have hlt := (List.getElem?_eq_some_iff.1 hz).1
    simp only [List.length_singleton] at hlt
    have : i = n := by omega
    subst this
    rw [hl, Nat.sub_self] at hz
    cases hz; exact hy
theorem flat_at {α : Type} (f : α → List Value) (k : Nat) (hk : ∀ x, (f x).length = k) (hpos : 0 < k) : ∀ (l : List α) (j : Nat) (u : Value), (l.flatMap f)[j]? = some u → ∃ i m x, j = i * k + m ∧ l[i]? = some x ∧ (f x)[m]? = some u
 | [], j, u, h => by simp at h
 | y :: l, j, u, h => by
  rw [List.flatMap_cons, List.getElem?_append] at h
  split at h
  · rename_i hj; exact ⟨0, j, y, by omega, rfl, h⟩
  · rename_i hj
    obtain ⟨i, m, x, e, hi, hm⟩ := flat_at f k hk hpos l _ u h
    rw [hk] at e hj
    exact ⟨i + 1, m, x, by rw [Nat.succ_mul]; omega, hi, hm⟩
section
variable {H : Type} {enc : TypeId × Value → H} {P : Program} {w : World} {base : Nat} {spare : Nat → Bool} {held : Bool}
theorem open_slice' {t e : TypeId} {fuel : Nat} {cs : List Value} {x : DataW H × List MemPlace} (ht : P.underlying t = some (.slice e)) (h : DataW.trod enc P w base spare held fuel t cs = some x) :
 cs = [.slice none 0 0] ∨ ∃ (a : Addr) (len cap n : Nat), n < fuel ∧ cs = [.slice (some a) len cap] ∧ len ≤ cap ∧ cap ≤ maxLen ∧
  ∀ i, i < len → ∃ cs' y, w.cells? base (a.add (i * P.cellsOf e)) (P.cellsOf e) = some cs' ∧ DataW.trod enc P w base spare held n e cs' = some y := by
 rcases DataW.trod_slice ht h with h0 | ⟨a, len, cap, elems, rest, n, hn, hcs, _, _, hl, hm, hlen, hel, _, _⟩
 · exact .inl h0.1
 · refine .inr ⟨a, len, cap, n, by omega, hcs, hl, hm, fun i hi => ?_⟩
   have h1 := hel i hi
   rw [List.getElem?_eq_getElem (by omega)] at h1
   obtain ⟨cs', h2, h3⟩ := Option.bind_eq_some_iff.1 h1
   exact ⟨cs', _, h2, h3⟩
theorem open_rows {α : Type} (f : α → List Value) (ok : α → Prop) {t e : TypeId} {k fuel : Nat} {v : Value} {x : DataW H × List MemPlace} (ht : P.underlying t = some (.slice e)) (hsz : P.cellsOf e = k) (hk : ∀ x, (f x).length = k) (hpos : 0 < k)
 (hel : ∀ n cs y, n < fuel → DataW.trod enc P w base spare held n e cs = some y → ∃ z, cs = f z ∧ ok z) (h : DataW.trod enc P w base spare held fuel t [v] = some x) :
 ∃ (p : Option Addr) (n c : Nat) (l : List α), v = .slice p n c ∧ l.length = n ∧ n ≤ c ∧ c ≤ maxLen ∧ IsSl w k p n (l.flatMap f) ∧ ∀ y ∈ l, ok y := by
 rcases open_slice' ht h with h0 | ⟨a, len, cap, n, hf, hcs, hl, hm, hi⟩
 · have e1 := List.singleton_inj.1 h0
   exact ⟨none, 0, 0, [], e1, rfl, Nat.le_refl _, Nat.zero_le _, IsSl.nil _ _ _, (fun y hy => by cases hy)⟩
 · have e1 := List.singleton_inj.1 hcs
   obtain ⟨l, hll, hlp⟩ := list_of (α := α) (p := fun i y => w.cells? base (a.add (i * k)) k = some (f y) ∧ ok y) len (fun i hil => by
    obtain ⟨cs', y, h1, h2⟩ := hi i hil
    rw [hsz] at h1
    obtain ⟨z, hz, hz2⟩ := hel n cs' y hf h2
    subst hz
    exact ⟨z, h1, hz2⟩)
   refine ⟨some a, len, cap, l, e1, hll, hl, hm, ⟨by rw [flat_len f k hk, hll], ?_⟩, fun y hy => ?_⟩
   · rcases Nat.eq_zero_or_pos len with h0 | hp
     · exact .inl h0
     · right
       obtain ⟨y0, hy0⟩ : ∃ y, l[0]? = some y := ⟨l[0]'(by omega), List.getElem?_eq_getElem (by omega)⟩
       have hc0 := (World.cells?_some (hlp 0 y0 hy0).1).2.2 0 hpos
       rw [List.getElem?_eq_getElem (by rw [hk]; exact hpos)] at hc0
       obtain ⟨b, o, spot⟩ := a
       have hspot : spot = none := by simpa [Addr.add] using World.cell?_spot hc0
       subst hspot
       refine ⟨b, o, rfl, fun j u hj => ?_⟩
       obtain ⟨i, m, x, e2, hxi, hxm⟩ := flat_at f k hk hpos l j u hj
       have hm' : m < k := by rw [← hk x]; exact (List.getElem?_eq_some_iff.1 hxm).1
       have := (World.cells?_some (hlp i x hxi).1).2.2 m hm'
       rw [hxm, addr_add, addr_add] at this
       rw [e2, ← Nat.add_assoc]; exact this
   · obtain ⟨i, hi'⟩ := List.mem_iff_getElem?.1 hy
     exact (hlp i y hi').2
end
end Go.Proofs.YtldjakeigjngoaaDoor