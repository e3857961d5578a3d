/- BEX: texts of this proof, joined by program: SyRet, SyE, SyDrawE, MemS, OpenRows. -/
import Derived.Test.YtldjakeigjngoaaDoorTysQ
import Derived.Test.YtldjakeigjngoaaDoorBEN
import Derived.Scope
import Derived.Deep.Slices
import Derived.ChangeArms
import Derived.OpenShut
/- A symbolic walk: leaving a function with results that lie in memory of the call's own. -/
set_option linter.unusedVariables false
set_option linter.unusedSimpArgs false
namespace Go.Proofs.YtldjakeigjngoaaDoor
open Go.RowKit
section
variable {P : Program} {fr : Fr} {hp : List En}
end
end Go.Proofs.YtldjakeigjngoaaDoor
/- A symbolic walk: callees that work on several pieces of the caller's memory, and leave pieces. -/
namespace Go.Proofs.YtldjakeigjngoaaDoor
open Go.RowKit
def domL (es : List En) (b : Nat) : Prop := ∃ e ∈ es, e.dom b
theorem HpOk.callE {D : Nat → Prop} {w0 w w' : World} {es rest es' : List En} (h : HpOk D w0 (es ++ rest) w) (h' : HpOk (domL es) w es' w') : HpOk D w0 (es' ++ rest) w' := by
 have hs := List.pairwise_append.1 h.sep
 have hde : ∀ b, domL es b → (D b ∨ w0.heap.size ≤ b) ∧ b < w.heap.size := fun b ⟨e, he, hb⟩ => (h.own e (List.mem_append_left _ he)).2 b hb
 have hk := h'.keep
 refine ⟨h.keep.trans hk (fun x hx => (hde x hx).1), fun e he => ?_, List.pairwise_append.2 ⟨h'.sep, hs.2.1, fun e he f hf b hb hb' => ?_⟩⟩
 · rcases List.mem_append.1 he with h1 | h1
   · have ho := h'.own e h1
     refine ⟨ho.1, fun b hb => ⟨?_, (ho.2 b hb).2⟩⟩
     rcases (ho.2 b hb).1 with h2 | h2
     · exact (hde b h2).1
     · exact .inr (Nat.le_trans h.keep.size h2)
   · have ho := h.own e (List.mem_append_right _ h1)
     exact ⟨e.loc w w' (fun b hd => hk.block b (ho.2 b hd).2 (fun ⟨f, hf, hfb⟩ => hs.2.2 f hf e h1 b hfb hd)) ho.1, fun b hb => ⟨(ho.2 b hb).1, Nat.lt_of_lt_of_le (ho.2 b hb).2 hk.size⟩⟩
 · have hfo := (h.own f (List.mem_append_right _ hf)).2 b hb'
   rcases ((h'.own e he).2 b hb).1 with ⟨g, hg, hgb⟩ | h2
   · exact hs.2.2 g hg f hf b hgb hb'
   · omega
section
variable {P : Program} {C : Cx} {k : List It} {fr : Fr} {hp : List En} {all : Array Oper} {l : List Oper} {dst : Option Tmp} {ty : TypeId} {pos : String} {aft : Array Edge} {g : Option (Nat × Bool)}
end
theorem sub_self {es hp : List En} (h : es.Sublist hp) : ∃ l : List En, l.Perm es ∧ l.Sublist hp := ⟨es, List.Perm.refl _, h⟩
end Go.Proofs.YtldjakeigjngoaaDoor
/- A symbolic walk: a drawn region of which some operations change memory: these stand in one order, and all that is read beside them stays as it is. -/
namespace Go.Proofs.YtldjakeigjngoaaDoor
open Go.RowKit
theorem sk {a : En} {l k : List En} (h : l.Sublist k) : (a :: l).Sublist (a :: k) := h.cons_cons a
theorem sd {a : En} {l k : List En} (h : l.Sublist k) : l.Sublist (a :: k) := h.cons a
theorem sr {l : List En} : l.Sublist l := List.Sublist.refl l
structure CxLe (C C' : Cx) : Prop where
 n : C'.n = C.n
 keep : ∀ w, Keep C'.D C'.w0 w → Keep C.D C.w0 w
def pickO (ops : List Oper) : List (Nat × Bool) → List (Bool × Oper)
 | [] => []
 | (i, b) :: r => match ops[i]? with
  | some o => (b, o) :: pickO ops r
  | none => pickO ops r
def Eff (P : Program) (o : Oper) (r : Operand → Value) (w : World) (Φ : Value → World → Prop) : Prop :=
 match (execOp r o).run P w with
 | .ok (.value u) w' => Φ u w'
 | .ok .skip w' => Φ undef w'
 | .ok (.enter f args) w' => Calls P f args w' fun e w'' => ∃ u, e = .returned u ∧ Φ u w''
 | .ok (.row r args) w' => Rows P r args w' Φ
 | _ => False
def DrE (P : Program) (C : Cx) (all : Array Oper) (hc : List En) (K : Fr → List En → Prop) : List (Bool × Oper) → Fr → List En → Prop
 | [], F, hp => K F hp
 | (false, o) :: l, F, hp => ∃ v, (∀ C', CxLe C C' → OVg P C' all F hc o v) ∧ DrE P C all hc K l (put o.dst v F) hp
 | (true, o) :: l, F, hp => ∀ a w, FrOk C.n F a → HpOk C.D C.w0 hp w → Region.wanted o (yielded all a.tmps) = true ∧
     Eff P o a.eval w fun u w' => ∃ hp', HpOk C.D C.w0 hp' w' ∧ hc.Sublist hp' ∧ DrE P C all hc K l (put o.dst u F) hp'
structure ChkE (m : Nat) (ops : List Oper) (ord : List (Nat × Bool)) : Prop where
 mle : m ≤ ops.length
 fo : ∀ (i : Nat) (o : Oper), ops[i]? = some o → (∀ j ∈ bindsOn o, j < i) ∧ isSel o.op = false ∧ (m ≤ i → ∀ j, j < i → Anc ops j i)
 len : ord.length = m
 flt : ∀ x : Nat × Bool, x ∈ ord → x.1 < m
 cov : ∀ i : Nat, i < m → ∃ (p : Nat) (b : Bool), ord[p]? = some (i, b)
 pw : ∀ (p q i j : Nat) (b b' : Bool) (oi oj : Oper), p < q → ord[p]? = some (i, b) → ord[q]? = some (j, b') → ops[i]? = some oi → ops[j]? = some oj →
  i ≠ j ∧ (∀ t, oi.dst = some t → oj.dst ≠ some t) ∧ j ∉ bindsOn oi ∧ (((∃ t, oi.dst = some t ∧ t ∈ readsOf ops oj) ∨ (∃ t, oj.dst = some t ∧ t ∈ readsOf ops oi) ∨ b = true) → Anc ops i j)
def RD (P : Program) (C : Cx) (all : Array Oper) (hc : List En) (o : Oper) (v : Value) (b : Act) : Prop :=
 ∀ hp w, hc.Sublist hp → HpOk C.D C.w0 hp w → (Region.wanted o (yielded all b.tmps) = true ∧ Fin P C hp v ((execOp b.eval o).run P w)) ∨ (Region.wanted o (yielded all b.tmps) = false ∧ v = undef)
theorem Done.set {n : Nat} {l : List Oper} {vs : List Value} {D : Nat → Prop} {a0 a : Act} (h : Done n l vs D a0 a) (k : Nat) (u : Value) (hk : ¬ D k) : Done n l (vs.set k u) D a0 a :=
 ⟨h.defers, h.size, fun j o v t ho hv hD ht => h.yes j o v t ho (by rw [List.getElem?_set_ne (fun e => hk (by rw [e]; exact hD))] at hv; exact hv) hD ht, h.no⟩
structure InvE (P : Program) (C : Cx) (all : Array Oper) (hc : List En) (K : Fr → List En → Prop) (ops : List Oper) (ord : List (Nat × Bool)) (m : Nat) (a0 : Act) (D : Nat → Prop) (a : Act) (w : World) (k : Nat) (vs : List Value) (F : Fr) (hp : List En) : Prop where
 km : k ≤ m
 len : vs.length = m
 A : ∀ p i b, ord[p]? = some (i, b) → D i → p < k
 B : ∀ p i, ord[p]? = some (i, true) → p < k → D i
 done : Done C.n ((pickO ops ord).map (·.2)) vs (fun p => ∃ i b, ord[p]? = some (i, b) ∧ D i) a0 a
 hpk : HpOk C.D C.w0 hp w
 sub : hc.Sublist hp
 frk : FrOk C.n F (actAll a0 (((pickO ops ord).map (·.2)).take k) (vs.take k))
 G : ∀ p i o v, p < k → ord[p]? = some (i, false) → ops[i]? = some o → vs[p]? = some v → RD P C all hc o v (actAll a0 (((pickO ops ord).map (·.2)).take p) (vs.take p))
 H : DrE P C all hc K ((pickO ops ord).drop k) F hp
section
variable {P : Program} {C : Cx} {k : List It} {fr : Fr} {hp : List En}
/-! the steps -/
end
end Go.Proofs.YtldjakeigjngoaaDoor
/- Rows of elements in memory that was there before. -/
namespace Go.Proofs.YtldjakeigjngoaaDoor
open Go.RowKit
def At (w : World) (b off : Nat) (cs : List Value) : Prop := ∀ j u, cs[j]? = some u → w.cell? ⟨b, off + j, none⟩ = some u
def IsSl (w : World) (sz : Nat) (p : Option Addr) (n : Nat) (cs : List Value) : Prop := cs.length = n * sz ∧ (n = 0 ∨ ∃ b off, p = some ⟨b, off, none⟩ ∧ At w b off cs)
theorem cell_lt {w : World} {b o : Nat} {v : Value} (h : w.cell? ⟨b, o, none⟩ = some v) : b < w.heap.size := by
 rcases Nat.lt_or_ge b w.heap.size with h' | h'
 · exact h'
 · unfold World.cell? at h
   rw [Array.getElem?_eq_none h'] at h; cases h
theorem cell_same {w w' : World} {b o : Nat} (h : w'.heap[b]? = w.heap[b]?) : w'.cell? ⟨b, o, none⟩ = w.cell? ⟨b, o, none⟩ := by unfold World.cell?; simp only [h]
def St (D : Nat → Prop) (w0 : World) (R : World → Prop) : Prop := ∀ w, Keep D w0 w → R w
def Bl (R : World → Prop) : Prop := ∀ w w' : World, Below w.heap.size w w' → R w → R w'
theorem At.bl (b off : Nat) (cs : List Value) : Bl fun w => At w b off cs := fun w w' hb h j u hj => by
 have h1 := h j u hj
 rw [cell_same (hb.block b (cell_lt h1))]; exact h1
theorem IsSl.bl (sz : Nat) (p : Option Addr) (n : Nat) (cs : List Value) : Bl fun w => IsSl w sz p n cs := fun w w' hb ⟨h1, h2⟩ =>
 ⟨h1, h2.imp id fun ⟨b, off, e, h⟩ => ⟨b, off, e, At.bl b off cs w w' hb h⟩⟩
theorem St.start {w0 : World} {R : World → Prop} (hR : Bl R) (h : R w0) : St (fun _ => False) w0 R := fun w hk => hR w0 w hk.below h
theorem St.at {D : Nat → Prop} {w0 w : World} {R : World → Prop} {hp : List En} (h : St D w0 R) (hw : HpOk D w0 hp w) : R w := h w hw.keep
theorem St.call {D : Nat → Prop} {w0 w : World} {R : World → Prop} {hp : List En} (h : St D w0 R) (hw : HpOk D w0 hp w) : St (fun _ => False) w R := fun w' hk => h w' (hw.keep.trans hk (fun _ hx => hx.elim))
theorem St.imp {D : Nat → Prop} {w0 : World} {R S : World → Prop} (h : St D w0 R) (hi : ∀ w, R w → S w) : St D w0 S := fun w hk => hi w (h w hk)
theorem IsSl.nil (w : World) (sz : Nat) (p : Option Addr) : IsSl w sz p 0 [] := ⟨by simp, .inl rfl⟩
section
variable {P : Program} {C : Cx} {fr : Fr} {hp : List En} {dst : Option Tmp} {ty : TypeId} {pos : String} {aft : Array Edge} {g : Option (Nat × Bool)}
end
end Go.Proofs.YtldjakeigjngoaaDoor
/- Rows of elements that a law is given: what they hold. -/
namespace Go.Proofs.YtldjakeigjngoaaDoor
open Go.RowKit Go.Deep
section
variable {H : Type} {enc : TypeId × Value → H} {P : Program} {w : World} {base : Nat} {spare : Nat → Bool} {held : Bool}
end
end Go.Proofs.YtldjakeigjngoaaDoor