/- BEX: texts of this proof, joined by program: SyRet, SyE, SyDrawE, MemS, OpenRows. -/
import Derived.Test.YtkaeihlpdceokaaTysQ
import Derived.Test.YtkaeihlpdceokaaBEN
import Derived.Scope
import Derived.Deep.Slices
import Derived.ChangeArms
import Derived.OpenShut
/- A symbolic walk: leaving a function with results that lie in memory of the call's own. -/
set_option linter.unusedVariables false
set_option linter.unusedSimpArgs false
namespace Go.Proofs.Ytkaeihlpdceokaa
open Go.RowKit
section
variable {P : Program} {fr : Fr} {hp : List En}
theorem loadVar_ok {D : Nat → Prop} {w0 : World} {w : World} (hw : HpOk D w0 hp w) {t : TypeId} {d : TypeDesc} {ti : TypeInfo} [hd : TU P t d] [hti : TI P t ti] {i b : Nat} {e : TypeId} {cs : List Value} (hi : hp[i]? = some (blk b e cs)) (ha : isAggD d = true) (hn : Nat.ble (0 + ti.size) cs.length = true) :
 (loadVar t ⟨b, 0, none⟩).run P w = .ok (.agg ⟨cs.take ti.size⟩) w := by
 have hl := loadCells_ok (P := P) hw (n := ti.size) hi (off := 0) (by simpa using hn)
 simp [loadVar, run_isAgg (P := P) (t := t) (d := d), ha, run_sizeOf' (P := P) (t := t), hl]
theorem ret1c (i : Nat) {fn : Func} {c : Tmp} {ct : TypeId} {d : TypeDesc} {ti : TypeInfo} [hd : TU P ct d] [hti : TI P ct ti] {w0 : World} {n b : Nat} {e : TypeId} {cs : List Value} {v0 : Value} (hr : fn.results = #[.cell c ct]) (hc : get c fr = some (.pointer (some ⟨b, 0, none⟩))) (hi : hp[i]? = some (blk b e cs)) (ha : isAggD d = true) (hn : Nat.ble (0 + ti.size) cs.length = true) (he : Value.agg ⟨cs.take ti.size⟩ = v0) :
 Leave P ⟨fun _ => False, w0, n, bodyPost P fn fun e w' => e = .returned v0 ∧ Below w0.heap.size w0 w'⟩ .ret [] fr hp := .mk fun a w ha' hw => by
 subst he
 have hl := loadVar_ok (P := P) (t := ct) hw hi ha hn
 have hs := ha'.slot c _ hc
 rw [Array.getD_eq_getD_getElem?] at hs
 have hq : (results fn a.tmps).run P w = .ok (.agg ⟨cs.take ti.size⟩) w := by
  simp [results, hr, hs, asAddr, hl]
 show bodyPost P fn (fun e w' => e = .returned _ ∧ Below w0.heap.size w0 w') .ret a w
 exact bodyPost_ret hq ha'.defers (And.intro rfl hw.below)
end
end Go.Proofs.Ytkaeihlpdceokaa
/- A symbolic walk: callees that work on several pieces of the caller's memory, and leave pieces. -/
namespace Go.Proofs.Ytkaeihlpdceokaa
open Go.RowKit
def domL (es : List En) (b : Nat) : Prop := ∃ e ∈ es, e.dom b
theorem HpOk.self {D : Nat → Prop} {w0 w : World} {es rest : List En} (h : HpOk D w0 (es ++ rest) w) : HpOk (domL es) w es w :=
 ⟨Keep.refl _ _, fun e he => ⟨(h.own e (List.mem_append_left _ he)).1, fun b hb => ⟨.inl ⟨e, he, hb⟩, ((h.own e (List.mem_append_left _ he)).2 b hb).2⟩⟩, (List.pairwise_append.1 h.sep).1⟩
theorem HpOk.callE {D : Nat → Prop} {w0 w w' : World} {es rest es' : List En} (h : HpOk D w0 (es ++ rest) w) (h' : HpOk (domL es) w es' w') : HpOk D w0 (es' ++ rest) w' := by
 have hs := List.pairwise_append.1 h.sep
 have hde : ∀ b, domL es b → (D b ∨ w0.heap.size ≤ b) ∧ b < w.heap.size := fun b ⟨e, he, hb⟩ => (h.own e (List.mem_append_left _ he)).2 b hb
 have hk := h'.keep
 refine ⟨h.keep.trans hk (fun x hx => (hde x hx).1), fun e he => ?_, List.pairwise_append.2 ⟨h'.sep, hs.2.1, fun e he f hf b hb hb' => ?_⟩⟩
 · rcases List.mem_append.1 he with h1 | h1
   · have ho := h'.own e h1
     refine ⟨ho.1, fun b hb => ⟨?_, (ho.2 b hb).2⟩⟩
     rcases (ho.2 b hb).1 with h2 | h2
     · exact (hde b h2).1
     · exact .inr (Nat.le_trans h.keep.size h2)
   · have ho := h.own e (List.mem_append_right _ h1)
     exact ⟨e.loc w w' (fun b hd => hk.block b (ho.2 b hd).2 (fun ⟨f, hf, hfb⟩ => hs.2.2 f hf e h1 b hfb hd)) ho.1, fun b hb => ⟨(ho.2 b hb).1, Nat.lt_of_lt_of_le (ho.2 b hb).2 hk.size⟩⟩
 · have hfo := (h.own f (List.mem_append_right _ hf)).2 b hb'
   rcases ((h'.own e he).2 b hb).1 with ⟨g, hg, hgb⟩ | h2
   · exact hs.2.2 g hg f hf b hgb hb'
   · omega
theorem HpOk.perm {D : Nat → Prop} {w0 w : World} {hp hp' : List En} (h : HpOk D w0 hp w) (hp2 : hp'.Perm hp) : HpOk D w0 hp' w :=
 ⟨h.keep, fun e he => h.own e (hp2.subset he), (hp2.pairwise_iff (fun {e f} hef b h1 h2 => hef b h2 h1)).2 h.sep⟩
section
variable {P : Program} {C : Cx} {k : List It} {fr : Fr} {hp : List En} {all : Array Oper} {l : List Oper} {dst : Option Tmp} {ty : TypeId} {pos : String} {aft : Array Edge} {g : Option (Nat × Bool)}
theorem sy_perm {hp' : List En} (hp2 : hp'.Perm hp) (h : Sy P C k fr hp') : Sy P C k fr hp := .mk fun a w ha hw => h.go a w ha (hw.perm hp2)
end
theorem sub_self {es hp : List En} (h : es.Sublist hp) : ∃ l : List En, l.Perm es ∧ l.Sublist hp := ⟨es, List.Perm.refl _, h⟩
end Go.Proofs.Ytkaeihlpdceokaa
/- A symbolic walk: a drawn region of which some operations change memory: these stand in one order, and all that is read beside them stays as it is. -/
namespace Go.Proofs.Ytkaeihlpdceokaa
open Go.RowKit
theorem sk {a : En} {l k : List En} (h : l.Sublist k) : (a :: l).Sublist (a :: k) := h.cons_cons a
theorem sd {a : En} {l k : List En} (h : l.Sublist k) : l.Sublist (a :: k) := h.cons a
theorem sr {l : List En} : l.Sublist l := List.Sublist.refl l
structure CxLe (C C' : Cx) : Prop where
 n : C'.n = C.n
 keep : ∀ w, Keep C'.D C'.w0 w → Keep C.D C.w0 w
def pickO (ops : List Oper) : List (Nat × Bool) → List (Bool × Oper)
 | [] => []
 | (i, b) :: r => match ops[i]? with
  | some o => (b, o) :: pickO ops r
  | none => pickO ops r
theorem pickO_get (ops : List Oper) : ∀ (ord : List (Nat × Bool)) (p i : Nat) (b : Bool) (o : Oper), (∀ x ∈ ord, x.1 < ops.length) → ord[p]? = some (i, b) → ops[i]? = some o → (pickO ops ord)[p]? = some (b, o)
 | [], p, i, b, o, _, h, _ => by simp at h
 | (j, c) :: r, p, i, b, o, hx, h, ho => by
  have hj : ops[j]? = some (ops[j]'(hx (j, c) (by simp))) := List.getElem?_eq_getElem _
  unfold pickO
  rw [hj]
  cases p with
  | zero =>
   simp only [List.getElem?_cons_zero, Option.some.injEq, Prod.mk.injEq] at h ⊢
   obtain ⟨rfl, rfl⟩ := h
   rw [hj] at ho; cases ho; exact ⟨rfl, rfl⟩
  | succ p => simp only [List.getElem?_cons_succ] at h ⊢; exact pickO_get ops r p i b o (fun x hx' => hx x (by simp [hx'])) h ho
theorem pickO_len (ops : List Oper) : ∀ (ord : List (Nat × Bool)), (∀ x ∈ ord, x.1 < ops.length) → (pickO ops ord).length = ord.length
 | [], _ => rfl
 | (j, c) :: r, hx => by
  have hj : ops[j]? = some (ops[j]'(hx (j, c) (by simp))) := List.getElem?_eq_getElem _
  unfold pickO
  rw [hj]
  simp [pickO_len ops r (fun x hx' => hx x (by simp [hx']))]
def Eff (P : Program) (o : Oper) (r : Operand → Value) (w : World) (Φ : Value → World → Prop) : Prop :=
 match (execOp r o).run P w with
 | .ok (.value u) w' => Φ u w'
 | .ok .skip w' => Φ undef w'
 | .ok (.enter f args) w' => Calls P f args w' fun e w'' => ∃ u, e = .returned u ∧ Φ u w''
 | .ok (.row r args) w' => Rows P r args w' Φ
 | _ => False
def DrE (P : Program) (C : Cx) (all : Array Oper) (hc : List En) (K : Fr → List En → Prop) : List (Bool × Oper) → Fr → List En → Prop
 | [], F, hp => K F hp
 | (false, o) :: l, F, hp => ∃ v, (∀ C', CxLe C C' → OVg P C' all F hc o v) ∧ DrE P C all hc K l (put o.dst v F) hp
 | (true, o) :: l, F, hp => ∀ a w, FrOk C.n F a → HpOk C.D C.w0 hp w → Region.wanted o (yielded all a.tmps) = true ∧
     Eff P o a.eval w fun u w' => ∃ hp', HpOk C.D C.w0 hp' w' ∧ hc.Sublist hp' ∧ DrE P C all hc K l (put o.dst u F) hp'
def rdsB (ops : List Oper) (o : Oper) (d : Option Tmp) : Bool := match d with
 | some t => (readsOf ops o).contains t
 | none => false
def chkP2 (ops : List Oper) (T : List (List Nat)) (x y : Nat × Bool) : Bool := match ops[x.1]?, ops[y.1]? with
 | some oi, some oj => !(Nat.beq x.1 y.1) && !(oi.dst.isSome && oi.dst == oj.dst) && !(bindsOn oi).contains y.1 && (!(rdsB ops oj oi.dst || rdsB ops oi oj.dst || x.2) || (T.getD y.1 []).contains x.1)
 | _, _ => false
def chkPP (ops : List Oper) (T : List (List Nat)) : List (Nat × Bool) → Bool
 | [] => true
 | x :: r => r.all (fun y => chkP2 ops T x y) && chkPP ops T r
def chkO (m : Nat) (ops : List Oper) (T : List (List Nat)) (i : Nat) : Bool := match ops[i]? with
 | some o => (bindsOn o).all (fun j => Nat.blt j i) && !isSel o.op && (if Nat.ble m i then (List.range i).all (fun j => (T.getD i []).contains j) else true)
 | none => false
def chkE (m : Nat) (ops : List Oper) (ord : List (Nat × Bool)) : Bool :=
 Nat.ble m ops.length && (List.range ops.length).all (fun i => chkO m ops (tabAnc ops []) i) && Nat.beq ord.length m && ord.all (fun x => Nat.blt x.1 m) && (List.range m).all (fun i => ord.any fun x => Nat.beq x.1 i) && chkPP ops (tabAnc ops []) ord
structure ChkE (m : Nat) (ops : List Oper) (ord : List (Nat × Bool)) : Prop where
 mle : m ≤ ops.length
 fo : ∀ (i : Nat) (o : Oper), ops[i]? = some o → (∀ j ∈ bindsOn o, j < i) ∧ isSel o.op = false ∧ (m ≤ i → ∀ j, j < i → Anc ops j i)
 len : ord.length = m
 flt : ∀ x : Nat × Bool, x ∈ ord → x.1 < m
 cov : ∀ i : Nat, i < m → ∃ (p : Nat) (b : Bool), ord[p]? = some (i, b)
 pw : ∀ (p q i j : Nat) (b b' : Bool) (oi oj : Oper), p < q → ord[p]? = some (i, b) → ord[q]? = some (j, b') → ops[i]? = some oi → ops[j]? = some oj →
  i ≠ j ∧ (∀ t, oi.dst = some t → oj.dst ≠ some t) ∧ j ∉ bindsOn oi ∧ (((∃ t, oi.dst = some t ∧ t ∈ readsOf ops oj) ∨ (∃ t, oj.dst = some t ∧ t ∈ readsOf ops oi) ∨ b = true) → Anc ops i j)
theorem chkPP_pw (ops : List Oper) (T : List (List Nat)) : ∀ (ord : List (Nat × Bool)), chkPP ops T ord = true → ∀ (p q : Nat) (x y : Nat × Bool), p < q → ord[p]? = some x → ord[q]? = some y → chkP2 ops T x y = true
 | [], _, p, q, x, y, _, h, _ => by simp at h
 | z :: r, h, p, q, x, y, hlt, hp, hq => by
  simp only [chkPP, Bool.and_eq_true] at h
  cases q with
  | zero => omega
  | succ q =>
   simp only [List.getElem?_cons_succ] at hq
   cases p with
   | zero =>
    simp only [List.getElem?_cons_zero, Option.some.injEq] at hp
    subst hp
    exact List.all_eq_true.1 h.1 y (List.mem_of_getElem? hq)
   | succ p => simp only [List.getElem?_cons_succ] at hp; exact chkPP_pw ops T r h.2 p q x y (by omega) hp hq
theorem chkE_facts {m : Nat} {ops : List Oper} {ord : List (Nat × Bool)} (h : chkE m ops ord = true) : ChkE m ops ord := by
 unfold chkE at h
 simp only [Bool.and_eq_true] at h
 obtain ⟨⟨⟨⟨⟨h1, h2⟩, h3⟩, h4⟩, h5⟩, h6⟩ := h
 refine ⟨by simpa using h1, fun i o ho => ?_, Nat.eq_of_beq_eq_true h3, fun x hx => by simpa using List.all_eq_true.1 h4 x hx, fun i hi => ?_, ?_⟩
 · have h7 := List.all_eq_true.1 h2 i (List.mem_range.2 (List.getElem?_eq_some_iff.1 ho).1)
   unfold chkO at h7
   rw [ho] at h7
   simp only [Bool.and_eq_true, Bool.not_eq_true'] at h7
   refine ⟨fun j hj => by simpa using List.all_eq_true.1 h7.1.1 j hj, h7.1.2, fun hm j hj => ?_⟩
   have h8 := h7.2
   rw [if_pos (by simpa using hm)] at h8
   exact tab_mem (List.all_eq_true.1 h8 j (List.mem_range.2 hj))
 · have h7 := List.all_eq_true.1 h5 i (List.mem_range.2 hi)
   obtain ⟨x, hx, hxi⟩ := List.any_eq_true.1 h7
   obtain ⟨p, hp⟩ := List.mem_iff_getElem?.1 hx
   have := Nat.eq_of_beq_eq_true hxi
   exact ⟨p, x.2, by rw [hp, ← this]⟩
 · intro p q i j b b' oi oj hlt hp hq hi hj
   have h7 := chkPP_pw ops _ ord h6 p q _ _ hlt hp hq
   unfold chkP2 at h7
   simp only [hi, hj, Bool.and_eq_true, Bool.not_eq_true', Bool.or_eq_true] at h7
   obtain ⟨⟨⟨h8, h9⟩, h10⟩, h11⟩ := h7
   refine ⟨(fun e => by rw [e] at h8; simp at h8), (fun t ht e => by rw [ht, e] at h9; simp at h9), (fun hm => by rw [← List.contains_iff_mem] at hm; rw [hm] at h10; cases h10), fun hor => ?_⟩
   rcases h11 with h11 | h11
   · simp only [Bool.or_eq_false_iff] at h11
     exfalso
     rcases hor with ⟨t, ht, hm⟩ | ⟨t, ht, hm⟩ | hb
     · have := h11.1.1; unfold rdsB at this; rw [ht] at this; simp only at this; rw [← List.contains_iff_mem] at hm; rw [hm] at this; cases this
     · have := h11.1.2; unfold rdsB at this; rw [ht] at this; simp only at this; rw [← List.contains_iff_mem] at hm; rw [hm] at this; cases this
     · rw [hb] at h11; cases h11.2
   · exact tab_mem h11
theorem any_tail2 {P : Program} {Q : Exit → Act → World → Prop} {m : Nat} {ops : List Oper} (hat : ∀ (i : Nat) (o : Oper), ops[i]? = some o → (∀ j ∈ bindsOn o, j < i) ∧ (m ≤ i → ∀ j, j < i → Anc ops j i)) : ∀ (fuel j : Nat) (listed : Array Bool) (a : Act) (w : World), m ≤ j → j ≤ ops.length → listed.size = ops.length → ops.length ≤ fuel + j →
 (∀ i, listed.getD i false = true ↔ i < j) → wpList P ops.toArray Q (ops.drop j) a w → wpAny P .any ops.toArray Q fuel listed a w := by
 have hready : ∀ (j : Nat) (listed : Array Bool), m ≤ j → listed.size = ops.length → (∀ i, listed.getD i false = true ↔ i < j) → ∀ i, i ∈ Region.ready .any ops.toArray listed → i = j := by
  intro j listed hmj hs hD i hi
  obtain ⟨o, ho, h1, h2⟩ := mem_ready.1 hi
  have h3 := (getD_flip.1 h1).2
  rw [hD] at h3
  rcases Nat.lt_or_ge j i with hlt | hge
  · have ho2 : ops[i]? = some o := by rw [List.getElem?_toArray] at ho; exact ho
    have h4 := (hat i o ho2).2 (by omega) j hlt
    have h5 : listed.getD j false = true := anc_done (D := fun x => listed.getD x false = true) (fun x ox hox hx y hy => by
     rw [hD] at hx ⊢
     have := (hat x ox hox).1 y hy; omega) h4 (fun o' ho' x hx => by rw [ho2] at ho'; cases ho'; exact h2 x hx)
    rw [hD] at h5; omega
  · omega
 intro fuel
 induction fuel with
 | zero =>
  intro j listed a w hmj hj hs hf hD h
  have hje : j = ops.length := by omega
  refine ⟨List.eq_nil_iff_forall_not_mem.2 fun i hi => ?_, ?_⟩
  · have := hready j listed hmj hs hD i hi
    obtain ⟨o, ho, _⟩ := mem_ready.1 hi
    have := (Array.getElem?_eq_some_iff.1 ho).1
    simp at this; omega
  · rw [hje, List.drop_length] at h; exact h
 | succ fuel ih =>
  intro j listed a w hmj hj hs hf hD h
  rcases Nat.lt_or_ge j ops.length with hlt | hge
  · have ho : ops[j]? = some ops[j] := List.getElem?_eq_getElem hlt
    have hr : j ∈ Region.ready .any ops.toArray listed := mem_ready.2 ⟨ops[j], by rw [List.getElem?_toArray]; exact ho, getD_flip.2 ⟨by omega, by rw [hD]; omega⟩, fun i hi => (hD i).2 ((hat j _ ho).1 i hi)⟩
    refine ⟨fun hn => (by rw [hn] at hr; cases hr), fun i hi => ?_⟩
    have hij := hready j listed hmj hs hD i hi
    subst hij
    rw [List.drop_eq_getElem_cons hlt] at h
    have hnext : ∀ a w, wpList P ops.toArray Q (ops.drop (i + 1)) a w → wpAny P .any ops.toArray Q fuel (listed.setIfInBounds i true) a w := fun a w h' =>
     ih (i + 1) _ a w (by omega) (by omega) (by simpa using hs) (by omega) (fun x => by rw [getD_set (by omega), hD]; omega) h'
    unfold wpOp
    rw [show (ops.toArray)[i]? = some ops[i] from by rw [List.getElem?_toArray]; exact ho]
    unfold wpList at h
    simp only
    by_cases hw : Region.wanted ops[i] (yielded ops.toArray a.tmps) = true
    · rw [if_pos hw] at h ⊢; exact h.imp (Oper.wp_mono hnext) id
    · rw [if_neg hw] at h ⊢; exact hnext _ _ h
  · have hje : j = ops.length := by omega
    rw [hje, List.drop_length] at h
    refine ⟨fun _ => h, fun i hi => ?_⟩
    have := hready j listed hmj hs hD i hi
    obtain ⟨o, ho, _⟩ := mem_ready.1 hi
    have := (Array.getElem?_eq_some_iff.1 ho).1
    simp at this; omega
def RD (P : Program) (C : Cx) (all : Array Oper) (hc : List En) (o : Oper) (v : Value) (b : Act) : Prop :=
 ∀ hp w, hc.Sublist hp → HpOk C.D C.w0 hp w → (Region.wanted o (yielded all b.tmps) = true ∧ Fin P C hp v ((execOp b.eval o).run P w)) ∨ (Region.wanted o (yielded all b.tmps) = false ∧ v = undef)
theorem rd_of {P : Program} {C : Cx} {all : Array Oper} {hc : List En} {F : Fr} {o : Oper} {v : Value} (h : ∀ C', CxLe C C' → OVg P C' all F hc o v) {b : Act} (hb : FrOk C.n F b) : RD P C all hc o v b := by
 intro hp w hs hw
 obtain ⟨rest, hperm⟩ := hs.exists_perm_append
 have hw' : HpOk C.D C.w0 (hc ++ rest) w := hw.perm hperm.symm
 have hle : CxLe C ⟨domL hc, w, C.n, C.Q⟩ := ⟨rfl, fun w2 hk => hw.keep.trans hk fun x ⟨e, he, hx⟩ => (hw'.own e (List.mem_append_left _ he)).2 x hx |>.1⟩
 rcases (h _ hle).go b w hb hw'.self with ⟨h1, h2⟩ | h2
 · left
   refine ⟨h1, ?_⟩
   unfold Fin at h2 ⊢
   split at h2
   · exact ⟨h2.1, (hw'.callE h2.2).perm hperm⟩
   · exact h2.mono fun e w'' he => ⟨he.1, (hw'.callE he.2).perm hperm⟩
   · exact h2.elim
 · exact .inr h2
def fitAll (n : Nat) (ops : List Oper) : Bool := ops.all fun o => match o.dst with | some d => Nat.blt d n | none => true
theorem fitAll_get {n : Nat} {ops : List Oper} (h : fitAll n ops = true) {i : Nat} {o : Oper} (ho : ops[i]? = some o) : Fits n o.dst := by
 have := List.all_eq_true.1 h o (List.mem_of_getElem? ho)
 unfold Fits
 cases hd : o.dst with
 | none => rfl
 | some d => rw [hd] at this; exact this
theorem actAll_set (a : Act) (l : List Oper) (vs : List Value) (k : Nat) (u : Value) (p : Nat) (hp : p ≤ k) : actAll a (l.take p) ((vs.set k u).take p) = actAll a (l.take p) (vs.take p) := by
 rw [List.take_set_of_le hp]
theorem Done.set {n : Nat} {l : List Oper} {vs : List Value} {D : Nat → Prop} {a0 a : Act} (h : Done n l vs D a0 a) (k : Nat) (u : Value) (hk : ¬ D k) : Done n l (vs.set k u) D a0 a :=
 ⟨h.defers, h.size, fun j o v t ho hv hD ht => h.yes j o v t ho (by rw [List.getElem?_set_ne (fun e => hk (by rw [e]; exact hD))] at hv; exact hv) hD ht, h.no⟩
structure InvE (P : Program) (C : Cx) (all : Array Oper) (hc : List En) (K : Fr → List En → Prop) (ops : List Oper) (ord : List (Nat × Bool)) (m : Nat) (a0 : Act) (D : Nat → Prop) (a : Act) (w : World) (k : Nat) (vs : List Value) (F : Fr) (hp : List En) : Prop where
 km : k ≤ m
 len : vs.length = m
 A : ∀ p i b, ord[p]? = some (i, b) → D i → p < k
 B : ∀ p i, ord[p]? = some (i, true) → p < k → D i
 done : Done C.n ((pickO ops ord).map (·.2)) vs (fun p => ∃ i b, ord[p]? = some (i, b) ∧ D i) a0 a
 hpk : HpOk C.D C.w0 hp w
 sub : hc.Sublist hp
 frk : FrOk C.n F (actAll a0 (((pickO ops ord).map (·.2)).take k) (vs.take k))
 G : ∀ p i o v, p < k → ord[p]? = some (i, false) → ops[i]? = some o → vs[p]? = some v → RD P C all hc o v (actAll a0 (((pickO ops ord).map (·.2)).take p) (vs.take p))
 H : DrE P C all hc K ((pickO ops ord).drop k) F hp
theorem InvE.norm {P : Program} {C : Cx} {hc : List En} {K : Fr → List En → Prop} {ops : List Oper} {ord : List (Nat × Bool)} {m : Nat} {a0 : Act} {D : Nat → Prop} {a : Act} {w : World} (ck : ChkE m ops ord) (hfit : fitAll C.n ops = true) :
 ∀ (z k : Nat) (vs : List Value) (F : Fr) (hp : List En), m - k ≤ z → InvE P C ops.toArray hc K ops ord m a0 D a w k vs F hp → ∃ k vs F hp, InvE P C ops.toArray hc K ops ord m a0 D a w k vs F hp ∧ ∀ i, ord[k]? ≠ some (i, false) := by
 intro z
 induction z with
 | zero =>
  intro k vs F hp hz h
  refine ⟨k, vs, F, hp, h, fun i hi => ?_⟩
  have := (List.getElem?_eq_some_iff.1 hi).1
  have := ck.len; have := h.km; omega
 | succ z ih =>
  intro k vs F hp hz h
  by_cases hn : ∃ i, ord[k]? = some (i, false)
  · obtain ⟨i, hi⟩ := hn
    have hkm : k < m := by have := (List.getElem?_eq_some_iff.1 hi).1; have := ck.len; omega
    have him := ck.flt _ (List.mem_of_getElem? hi)
    have ho : ops[i]? = some (ops[i]'(by have := ck.mle; simp only at him; omega)) := List.getElem?_eq_getElem _
    have hltl : ∀ x ∈ ord, x.1 < ops.length := fun x hx => Nat.lt_of_lt_of_le (ck.flt x hx) ck.mle
    have hL := pickO_get ops ord k i false _ hltl hi ho
    have hlk : ((pickO ops ord).map (·.2))[k]? = some (ops[i]'(by have := ck.mle; simp only at him; omega)) := by rw [List.getElem?_map, hL]; rfl
    have hlen := (List.getElem?_eq_some_iff.1 hL).1
    have hH := h.H
    rw [List.drop_eq_getElem_cons hlen, (List.getElem?_eq_some_iff.1 hL).2] at hH
    obtain ⟨v, hv, hH⟩ := hH
    have hvk : (vs.set k v)[k]? = some v := by rw [List.getElem?_set_self]; have := h.len; omega
    refine ih (k + 1) (vs.set k v) _ hp (by omega) ⟨by omega, by rw [List.length_set]; exact h.len, fun p i b hp' hd => by have := h.A p i b hp' hd; omega, fun p j hp' hlt => ?_, ?_, h.hpk, h.sub, ?_, fun p j o u hlt hp' hoj hu => ?_, hH⟩
    · rcases Nat.lt_or_ge p k with hlt' | hge
      · exact h.B p j hp' hlt'
      · have : p = k := by omega
        subst this; rw [hi] at hp'; cases hp'
    · exact h.done.set k v fun ⟨j, b, hj, hd⟩ => by have := h.A k j b hj hd; omega
    · rw [actAll_take a0 _ _ k _ v hlk hvk, actAll_set a0 _ vs k v k (Nat.le_refl _)]
      exact h.frk.put (fitAll_get hfit ho) v
    · rcases Nat.lt_or_ge p k with hlt' | hge
      · rw [actAll_set a0 _ vs k v p (by omega)]
        rw [List.getElem?_set_ne (by omega)] at hu
        exact h.G p j o u hlt' hp' hoj hu
      · have : p = k := by omega
        subst this
        rw [hi] at hp'; cases hp'
        rw [ho] at hoj; cases hoj
        rw [hvk] at hu; cases hu
        rw [actAll_set a0 _ vs p v p (Nat.le_refl _)]
        exact rd_of hv h.frk
  · exact ⟨k, vs, F, hp, h, fun i hi => hn ⟨i, hi⟩⟩
section
variable {P : Program} {C : Cx} {k : List It} {fr : Fr} {hp : List En}
theorem sy_drawE [hmx : MX P] {id : Nat} {ops : List Oper} (hc : List En) (m : Nat) (ord : List (Nat × Bool)) (hck : chkE m ops ord = true) (hfit : fitAll C.n ops = true) (hsub : hc.Sublist hp)
 (h : DrE P C ops.toArray hc (fun F hp => Sy P C (.o ops.toArray (ops.drop m) :: k) F hp) (pickO ops ord) fr hp) : Sy P C (.c (.region id ops.toArray true) :: k) fr hp := by
 constructor
 intro a w ha hw
 have ck := chkE_facts hck
 have hat := ck.fo
 have hltl : ∀ x ∈ ord, x.1 < ops.length := fun x hx => Nat.lt_of_lt_of_le (ck.flt x hx) ck.mle
 have hll : ((pickO ops ord).map (·.2)).length = m := by rw [List.length_map, pickO_len ops ord hltl, ck.len]
 have view : ∀ p, p < m → ∃ i b o, ord[p]? = some (i, b) ∧ ops[i]? = some o ∧ (pickO ops ord)[p]? = some (b, o) ∧ ((pickO ops ord).map (·.2))[p]? = some o ∧ i < m := fun p hp => by
  have hx : ord[p]? = some (ord[p]'(by rw [ck.len]; exact hp)) := List.getElem?_eq_getElem _
  rcases hib : (ord[p]'(by rw [ck.len]; exact hp)) with ⟨i, b⟩
  rw [hib] at hx
  have him := ck.flt _ (List.mem_of_getElem? hx)
  have ho : ops[i]? = some (ops[i]'(by have := ck.mle; simp only at him; omega)) := List.getElem?_eq_getElem _
  have hL := pickO_get ops ord p i b _ hltl hx ho
  exact ⟨i, b, _, hx, ho, hL, by rw [List.getElem?_map, hL]; rfl, him⟩
 have viewl : ∀ p o, ((pickO ops ord).map (·.2))[p]? = some o → ∃ i b, p < m ∧ ord[p]? = some (i, b) ∧ ops[i]? = some o := fun p o hp => by
  have hpm : p < m := by rw [← hll]; exact (List.getElem?_eq_some_iff.1 hp).1
  obtain ⟨i, b, o', h1, h2, _, h4, _⟩ := view p hpm
  rw [h4] at hp; cases hp
  exact ⟨i, b, hpm, h1, h2⟩
 have inj : ∀ p q i b b', ord[p]? = some (i, b) → ord[q]? = some (i, b') → p = q := fun p q i b b' h1 h2 => by
  have him := ck.flt _ (List.mem_of_getElem? h1)
  have ho : ops[i]? = some (ops[i]'(by have := ck.mle; simp only at him; omega)) := List.getElem?_eq_getElem _
  rcases Nat.lt_trichotomy p q with hlt | he | hlt
  · exact absurd rfl (ck.pw p q i i b b' _ _ hlt h1 h2 ho ho).1
  · exact he
  · exact absurd rfl (ck.pw q p i i b' b _ _ hlt h2 h1 ho ho).1
 have hdist : ∀ (p : Nat) (o : Oper) (q : Nat) (oj : Oper) (t : Nat), ((pickO ops ord).map (·.2))[p]? = some o → ((pickO ops ord).map (·.2))[q]? = some oj → q ≠ p → oj.dst = some t → o.dst ≠ some t := fun p o q oj t hp hq hne ht => by
  obtain ⟨i, b, _, h1, h2⟩ := viewl p o hp
  obtain ⟨j, b', _, h3, h4⟩ := viewl q oj hq
  rcases Nat.lt_or_ge p q with hlt | hge
  · exact fun e => (ck.pw p q i j b b' o oj hlt h1 h3 h2 h4).2.1 t e ht
  · exact (ck.pw q p j i b' b oj o (by omega) h3 h1 h4 h2).2.1 t ht
 have hfl : ∀ (p : Nat) (o : Oper), ((pickO ops ord).map (·.2))[p]? = some o → Fits C.n o.dst := fun p o hp => by
  obtain ⟨i, b, _, _, h2⟩ := viewl p o hp
  exact fitAll_get hfit h2
 show Code.wp P _ _ _ _
 refine wp_region_any hmx.h ?_
 have key : ∀ (fuel : Nat) (listed : Array Bool) (a' : Act) (w' : World), listed.size = ops.length → cnt ops.length listed ≤ fuel → (∀ i, listed.getD i false = true → i < m) →
  (∀ i o, ops[i]? = some o → listed.getD i false = true → ∀ j ∈ bindsOn o, listed.getD j false = true) →
  (∃ k' vs F hp, InvE P C ops.toArray hc (fun F hp => Sy P C (.o ops.toArray (ops.drop m) :: k) F hp) ops ord m a (fun i => listed.getD i false = true) a' w' k' vs F hp) →
  wpAny P .any ops.toArray (After P C.Q k) fuel listed a' w' := by
  intro fuel
  have tail : ∀ (fuel : Nat) (listed : Array Bool) (a' : Act) (w' : World), listed.size = ops.length → cnt ops.length listed ≤ fuel → (∀ i, listed.getD i false = true → i < m) →
   (∃ k' vs F hp, InvE P C ops.toArray hc (fun F hp => Sy P C (.o ops.toArray (ops.drop m) :: k) F hp) ops ord m a (fun i => listed.getD i false = true) a' w' k' vs F hp) →
   (∀ i, i < m → listed.getD i false = true) → wpAny P .any ops.toArray (After P C.Q k) fuel listed a' w' := by
   intro fuel listed a' w' hs hcnt hD ⟨k', vs, F, hp', hI⟩ hall
   have hkm : k' = m := by
    rcases Nat.lt_or_ge k' m with hlt | hge
    · obtain ⟨i, b, o, h1, _, _, _, h5⟩ := view k' hlt
      have := hI.A k' i b h1 (hall i h5); omega
    · have := hI.km; omega
   refine any_tail2 (m := m) (fun i o ho => ⟨(hat i o ho).1, (hat i o ho).2.2⟩) fuel m listed a' w' (Nat.le_refl _) ck.mle hs ?_ (fun i => ⟨hD i, hall i⟩) ?_
   · have hsub : (List.range ops.length).drop m = (List.range ops.length).filter fun i => !listed.getD i false := by
      have e := List.take_append_drop m (List.range ops.length)
      have h1 : ((List.range ops.length).take m).filter (fun i => !listed.getD i false) = [] := by
       rw [List.filter_eq_nil_iff]; intro x hx
       rw [List.take_range] at hx
       have := List.mem_range.1 hx
       simp [hall x (by omega)]
      have h2 : ((List.range ops.length).drop m).filter (fun i => !listed.getD i false) = (List.range ops.length).drop m := by
       rw [List.filter_eq_self]; intro x hx
       obtain ⟨y, hy, rfl⟩ := List.mem_drop_iff_getElem.1 hx
       have hge : ¬ listed.getD ((List.range ops.length)[y + m]) false = true := fun hh => by have := hD _ hh; simp at this; omega
       rw [Bool.not_eq_true'] ; cases hq : listed.getD ((List.range ops.length)[y + m]) false with
       | false => simpa [Nat.add_comm] using hq
       | true => exact absurd hq hge
      conv => rhs; rw [← e, List.filter_append, h1, h2, List.nil_append]
     have := congrArg List.length hsub
     simp only [List.length_drop, List.length_range] at this
     unfold cnt at hcnt
     omega
   · have hH := hI.H
     have hd0 : (pickO ops ord).drop m = [] := List.drop_of_length_le (by rw [pickO_len ops ord hltl, ck.len]; exact Nat.le_refl _)
     rw [hkm, hd0] at hH
     have hH : Sy P C (.o ops.toArray (ops.drop m) :: k) F hp' := hH
     have hF := hI.frk
     have hb := actAll_done (n := C.n) (l := (pickO ops ord).map (·.2)) (vs := vs) ha.defers ha.size (by rw [hI.len, hll]) hfl hdist k' (by rw [hll]; exact hI.km)
     have hslot : FrOk C.n F a' := by
      refine ⟨hI.done.defers, hI.done.size, fun t v ht => ?_⟩
      rw [← hF.slot t v ht]
      simp only [Array.getD_eq_getD_getElem?]
      congr 1
      by_cases hex : ∃ (j : Nat) (o : Oper), ((pickO ops ord).map (·.2))[j]? = some o ∧ o.dst = some t
      · obtain ⟨j, o, ho, hd⟩ := hex
        obtain ⟨i, b, hjm, h1, h2⟩ := viewl j o ho
        have hv' : vs[j]? = some (vs[j]'(by rw [hI.len]; exact hjm)) := List.getElem?_eq_getElem _
        rw [hI.done.yes j o _ t ho hv' ⟨i, b, h1, hall i (ck.flt _ (List.mem_of_getElem? h1))⟩ hd, hb.yes j o _ t ho hv' (by omega) hd]
      · rw [hI.done.no t fun j o ho _ hd => hex ⟨j, o, ho, hd⟩, hb.no t fun j o ho _ hd => hex ⟨j, o, ho, hd⟩]
     exact hH.go a' w' hslot hI.hpk
  induction fuel with
  | zero =>
   intro listed a' w' hs hcnt hD hdc hI
   have hall := cnt_zero (n := ops.length) (l := listed) (by omega)
   exact tail 0 listed a' w' hs hcnt hD hI (fun i hi => hall i (Nat.lt_of_lt_of_le hi ck.mle))
  | succ fuel ih =>
   intro listed a' w' hs hcnt hD hdc hI
   by_cases hall : ∀ i, i < m → listed.getD i false = true
   · exact tail (fuel + 1) listed a' w' hs hcnt hD hI hall
   · have hex : ∃ i, i < m ∧ ¬ listed.getD i false = true := Classical.byContradiction fun hn => hall fun i hi => Classical.byContradiction fun hh => hn ⟨i, hi, hh⟩
     obtain ⟨k0, vs0, F0, hp0, hI0⟩ := hI
     obtain ⟨k', vs, F, hp', hI, hnx⟩ := hI0.norm ck hfit m k0 vs0 F0 hp0 (by omega)
     constructor
     · intro hn
       exfalso
       obtain ⟨i0, hi0⟩ := hex
       obtain ⟨i, hi, hmin⟩ := least (p := fun i => i < m ∧ ¬ listed.getD i false = true) i0 hi0
       have hmo := ck.mle
       have ho : ops[i]? = some (ops[i]'(by omega)) := List.getElem?_eq_getElem _
       have : i ∈ Region.ready .any ops.toArray listed := mem_ready.2 ⟨_, by rw [List.getElem?_toArray]; exact ho, getD_flip.2 ⟨by omega, hi.2⟩, fun j hj => by
        have hji := (hat i _ ho).1 j hj
        exact Classical.byContradiction fun hh => by have := hmin j ⟨by omega, hh⟩; omega⟩
       rw [hn] at this; cases this
     · intro i hi
       obtain ⟨o, ho', h1, h2⟩ := mem_ready.1 hi
       have ho : ops[i]? = some o := by rw [List.getElem?_toArray] at ho'; exact ho'
       have hni := (getD_flip.1 h1).2
       have hilen := (getD_flip.1 h1).1
       have hancD : ∀ {j : Nat}, Anc ops j i → listed.getD j false = true := fun hj => anc_done (D := fun x => listed.getD x false = true) hdc hj (fun o' ho' x hx => by rw [ho] at ho'; cases ho'; exact h2 x hx)
       have him : i < m := Nat.lt_of_not_le fun hge => hall fun j hj => hancD ((hat i o ho).2.2 hge j (by omega))
       obtain ⟨p, b, hpi⟩ := ck.cov i him
       have hpm : p < m := by rw [← ck.len]; exact (List.getElem?_eq_some_iff.1 hpi).1
       obtain ⟨i', b', o', hp1, hp2, hp3, hp4, _⟩ := view p hpm
       rw [hpi] at hp1; cases hp1
       rw [ho] at hp2; cases hp2
       have hpk : p < k' ∨ p = k' := by
        rcases Nat.lt_or_ge p k' with hlt | hge
        · exact .inl hlt
        · right
          rcases Nat.lt_or_ge k' p with hlt | hge'
          · exfalso
            obtain ⟨j, bj, oj, hj1, hj2, _, _, _⟩ := view k' (by omega)
            cases bj with
            | false => exact hnx j hj1
            | true =>
             have hanc := (ck.pw k' p j i true b oj o hlt hj1 hpi hj2 ho).2.2.2 (.inr (.inr rfl))
             have := hI.A k' j true hj1 (hancD hanc); omega
          · omega
       have hpk' : p ≤ k' := by omega
       have hb := actAll_done (n := C.n) (l := (pickO ops ord).map (·.2)) (vs := vs) ha.defers ha.size (by rw [hI.len, hll]) hfl hdist p (by rw [hll]; omega)
       have hsame : ∀ t, t ∈ readsOf ops o → a'.tmps[t]? = (actAll a (((pickO ops ord).map (·.2)).take p) (vs.take p)).tmps[t]? := by
        intro t ht
        by_cases hw : ∃ (q : Nat) (oj : Oper), ((pickO ops ord).map (·.2))[q]? = some oj ∧ oj.dst = some t
        · obtain ⟨q, oj, hoj, hd⟩ := hw
          obtain ⟨j, bj, hqm, hqj, hoj'⟩ := viewl q oj hoj
          have hvq : vs[q]? = some (vs[q]'(by rw [hI.len]; exact hqm)) := List.getElem?_eq_getElem _
          have uniq : ∀ q' oj', ((pickO ops ord).map (·.2))[q']? = some oj' → oj'.dst = some t → q' = q := fun q' oj' h' hd' => Classical.byContradiction fun hne => hdist q oj q' oj' t hoj h' hne hd' hd
          have notdone : ¬ listed.getD j false = true → ∀ (q' : Nat) (o' : Oper), ((pickO ops ord).map (·.2))[q']? = some o' → (∃ i b, ord[q']? = some (i, b) ∧ listed.getD i false = true) → o'.dst ≠ some t := fun hnd q' o' ho' ⟨i2, b2, hi2, hd2⟩ hd' => by
           have := uniq q' o' ho' hd'; subst this
           rw [hqj] at hi2; cases hi2; exact hnd hd2
          rcases Nat.lt_trichotomy q p with hlt | he | hlt
          · have hanc := (ck.pw q p j i bj b oj o hlt hqj hpi hoj' ho).2.2.2 (.inl ⟨t, hd, ht⟩)
            rw [hI.done.yes q oj _ t hoj hvq ⟨j, bj, hqj, hancD hanc⟩ hd, hb.yes q oj _ t hoj hvq hlt hd]
          · subst he
            rw [hpi] at hqj; cases hqj
            rw [hI.done.no t (notdone hni), hb.no t fun q' o' ho' hlt hd' => by have := uniq q' o' ho' hd'; omega]
          · have hanc := (ck.pw p q i j b bj o oj hlt hpi hqj ho hoj').2.2.2 (.inr (.inl ⟨t, hd, ht⟩))
            have hnd : ¬ listed.getD j false = true := fun hdj => hni (anc_done (D := fun x => listed.getD x false = true) hdc hanc (fun o'' ho'' x hx => hdc j o'' ho'' hdj x hx))
            rw [hI.done.no t (notdone hnd), hb.no t fun q' o' ho' hlt' hd' => by have := uniq q' o' ho' hd'; omega]
        · rw [hI.done.no t fun j o ho _ hd => hw ⟨j, o, ho, hd⟩, hb.no t fun j o ho _ hd => hw ⟨j, o, ho, hd⟩]
       have hexec : execOp a'.eval o = execOp (actAll a (((pickO ops ord).map (·.2)).take p) (vs.take p)).eval o := by
        refine execOp_congr o (fun cs b e => by have := (hat i o ho).2.1; rw [e] at this; cases this) fun x hx => ?_
        cases x with
        | tmp t =>
         have := hsame t (List.mem_append.2 (.inl (List.mem_filterMap.2 ⟨.tmp t, Array.mem_toList_iff.2 hx, rfl⟩)))
         simp only [Act.eval, Array.getD_eq_getD_getElem?, this]
        | _ => rfl
       have hwant : Region.wanted o (yielded ops.toArray a'.tmps) = Region.wanted o (yielded ops.toArray (actAll a (((pickO ops ord).map (·.2)).take p) (vs.take p)).tmps) := by
        cases hg : o.guard with
        | none => simp only [Region.wanted, hg]
        | some g =>
         simp only [Region.wanted, hg, yielded, List.getElem?_toArray]
         cases hd : (ops[g.1]?).bind (·.dst) with
         | none => rfl
         | some t =>
          have := hsame t (List.mem_append.2 (.inr (by simp [guardSlot, hg, hd])))
          simp only [Option.bind_some, this]
       have hDset : ∀ x, (∃ i2 b2, ord[x]? = some (i2, b2) ∧ (listed.setIfInBounds i true).getD i2 false = true) ↔ ((∃ i2 b2, ord[x]? = some (i2, b2) ∧ listed.getD i2 false = true) ∨ x = p) := fun x => by
        constructor
        · rintro ⟨i2, b2, hi2, hd2⟩
          rcases (getD_set hilen).1 hd2 with hd2 | rfl
          · exact .inl ⟨i2, b2, hi2, hd2⟩
          · exact .inr (inj _ _ _ _ _ hi2 hpi)
        · rintro (⟨i2, b2, hi2, hd2⟩ | rfl)
          · exact ⟨i2, b2, hi2, (getD_set hilen).2 (.inl hd2)⟩
          · exact ⟨i, b, hpi, (getD_set hilen).2 (.inr rfl)⟩
       have hnext : ∀ (v : Value) (w'' : World) (k'' : Nat) (vs'' : List Value) (F'' : Fr) (hp'' : List En), InvE P C ops.toArray hc (fun F hp => Sy P C (.o ops.toArray (ops.drop m) :: k) F hp) ops ord m a (fun x => (listed.setIfInBounds i true).getD x false = true) (a'.put o.dst v) w'' k'' vs'' F'' hp'' →
        wpAny P .any ops.toArray (After P C.Q k) fuel (listed.setIfInBounds i true) (a'.put o.dst v) w'' := fun v w'' k'' vs'' F'' hp'' hI'' => by
        refine ih _ _ w'' (by simpa using hs) ?_ ?_ ?_ ⟨k'', vs'', F'', hp'', hI''⟩
        · have := cnt_set (n := ops.length) (by have := ck.mle; omega) hilen hni; omega
        · intro j hj; rcases (getD_set hilen).1 hj with hj | rfl
          · exact hD j hj
          · exact him
        · intro j oj hoj hj x hx
          rw [getD_set hilen]
          rcases (getD_set hilen).1 hj with hj | rfl
          · exact .inl (hdc j oj hoj hj x hx)
          · rw [ho] at hoj; cases hoj; exact .inl (h2 x hx)
       unfold wpOp
       rw [ho']
       simp only
       cases b with
       | false =>
        have hlt : p < k' := by
         rcases hpk with h | h
         · exact h
         · exact absurd (by rw [← h]; exact hpi) (hnx i)
        have hvp : vs[p]? = some (vs[p]'(by rw [hI.len]; exact hpm)) := List.getElem?_eq_getElem _
        have hst := hI.G p i o _ hlt hpi ho hvp hp' w' hI.sub hI.hpk
        rw [← hexec, ← hwant] at hst
        have hgo : ∀ w'', HpOk C.D C.w0 hp' w'' → wpAny P .any ops.toArray (After P C.Q k) fuel (listed.setIfInBounds i true) (a'.put o.dst (vs[p]'(by rw [hI.len]; exact hpm))) w'' := fun w'' hw'' =>
         hnext _ w'' k' vs F hp' ⟨hI.km, hI.len, fun q j c hq hd => by
          rcases (getD_set hilen).1 hd with hd | rfl
          · exact hI.A q j c hq hd
          · have := inj _ _ _ _ _ hq hpi; omega,
          fun q j hq hlt' => (getD_set hilen).2 (.inl (hI.B q j hq hlt')),
          hI.done.step hp4 hvp (hfl p o hp4) (fun q oj t hq hne hd => hdist p o q oj t hp4 hq hne hd) hDset, hw'', hI.sub, hI.frk, hI.G, hI.H⟩
        rcases hst with ⟨hwt, hfin⟩ | ⟨hwt, hun⟩
        · rw [if_pos hwt]
          left
          unfold Oper.wp
          cases hr : (execOp a'.eval o).run P w' with
          | halt _ _ => rw [hr] at hfin; exact hfin.elim
          | ok nx w1 =>
           rw [hr] at hfin
           cases nx with
           | value u => obtain ⟨rfl, hw1⟩ := hfin; exact hgo w1 hw1
           | enter f args =>
            have hfin : Calls P f args w1 fun e w'' => e = .returned (vs[p]'(by rw [hI.len]; exact hpm)) ∧ HpOk C.D C.w0 hp' w'' := hfin
            refine hfin.mono fun e w'' he => ?_
            obtain ⟨rfl, hw''⟩ := he
            exact hgo w'' hw''
           | _ => exact hfin.elim
        · rw [if_neg (by rw [hwt]; simp), ← hun]
          exact hgo w' hI.hpk
       | true =>
        have hpe : p = k' := by
         rcases hpk with h | h
         · exact absurd (hI.B p i hpi h) hni
         · exact h
        subst hpe
        have hH := hI.H
        have hlenL := (List.getElem?_eq_some_iff.1 hp3).1
        rw [List.drop_eq_getElem_cons hlenL, (List.getElem?_eq_some_iff.1 hp3).2] at hH
        obtain ⟨hwt, hef⟩ := hH _ w' hI.frk hI.hpk
        rw [← hwant] at hwt
        unfold Eff at hef
        rw [← hexec] at hef
        rw [if_pos hwt]
        left
        have hgo : ∀ (u : Value) (w'' : World), (∃ hp'', HpOk C.D C.w0 hp'' w'' ∧ hc.Sublist hp'' ∧ DrE P C ops.toArray hc (fun F hp => Sy P C (.o ops.toArray (ops.drop m) :: k) F hp) ((pickO ops ord).drop (p + 1)) (put o.dst u F) hp'') →
         wpAny P .any ops.toArray (After P C.Q k) fuel (listed.setIfInBounds i true) (a'.put o.dst u) w'' := fun u w'' ⟨hp'', hw'', hs'', hd''⟩ => by
         have hvk : (vs.set p u)[p]? = some u := by rw [List.getElem?_set_self]; rw [hI.len]; exact hpm
         refine hnext u w'' (p + 1) (vs.set p u) (put o.dst u F) hp'' ⟨by omega, by rw [List.length_set]; exact hI.len, fun q j c hq hd => ?_, fun q j hq hlt' => ?_, ?_, hw'', hs'', ?_, fun q j oj v hlt' hq hoj hv => ?_, hd''⟩
         · rcases (getD_set hilen).1 hd with hd | rfl
           · have := hI.A q j c hq hd; omega
           · have := inj _ _ _ _ _ hq hpi; omega
         · rcases Nat.lt_or_ge q p with hlt2 | hge
           · exact (getD_set hilen).2 (.inl (hI.B q j hq hlt2))
           · have : q = p := by omega
             subst this; rw [hpi] at hq; cases hq; exact (getD_set hilen).2 (.inr rfl)
         · exact (hI.done.set p u fun ⟨j, c, hj, hd⟩ => by have := hI.A p j c hj hd; omega).step hp4 hvk (hfl p o hp4) (fun q oj t hq hne hd => hdist p o q oj t hp4 hq hne hd) hDset
         · rw [actAll_take a _ _ p _ u hp4 hvk, actAll_set a _ vs p u p (Nat.le_refl _)]
           exact hI.frk.put (hfl p o hp4) u
         · have hqp : q < p := by
            rcases Nat.lt_or_ge q p with h | h
            · exact h
            · have : q = p := by omega
              subst this; rw [hpi] at hq; cases hq
           rw [actAll_set a _ vs p u q (by omega)]
           rw [List.getElem?_set_ne (by omega)] at hv
           exact hI.G q j oj v hqp hq hoj hv
        unfold Oper.wp
        cases hr : (execOp a'.eval o).run P w' with
        | halt _ _ => rw [hr] at hef; exact hef.elim
        | ok nx w1 =>
         rw [hr] at hef
         cases nx with
         | value u => exact hgo u w1 hef
         | skip => exact hgo undef w1 hef
         | enter f args =>
          refine Calls.mono hef fun e w'' he => ?_
          obtain ⟨u, rfl, hu⟩ := he
          exact hgo u w'' hu
         | row r args => exact Rows.mono hef fun u w'' hu => hgo u w'' hu
         | _ => exact hef.elim
 refine key ops.length (Array.replicate ops.length false) a _ (by simp) ?_ ?_ ?_ ⟨0, List.replicate m undef, fr, hp, Nat.zero_le _, by simp, ?_, ?_, ?_, hw.draw, hsub, by simpa [actAll] using ha, ?_, by simpa using h⟩
 · unfold cnt; exact Nat.le_trans (List.length_filter_le _ _) (by simp)
 · intro i hi; simp [Array.getD_eq_getD_getElem?, Array.getElem?_replicate] at hi; split at hi <;> simp at hi
 · intro i o _ hi; simp [Array.getD_eq_getD_getElem?, Array.getElem?_replicate] at hi; split at hi <;> simp at hi
 · intro p i b _ hi; simp [Array.getD_eq_getD_getElem?, Array.getElem?_replicate] at hi; split at hi <;> simp at hi
 · intro p i _ hp; omega
 · exact ⟨ha.defers, ha.size, fun j o v t _ _ ⟨i, b, _, hj⟩ => by simp [Array.getD_eq_getD_getElem?, Array.getElem?_replicate] at hj; split at hj <;> simp at hj, fun t _ => rfl⟩
 · intro p i o v hp; omega
/-! the steps -/
theorem dre_rd {all : Array Oper} {hc : List En} {K : Fr → List En → Prop} {o : Oper} {l : List (Bool × Oper)} {v : Value} (h : ∀ C', CxLe C C' → OV P C' fr hc o v) (hg : o.guard = none) (hk : DrE P C all hc K l (put o.dst v fr) hp) : DrE P C all hc K ((false, o) :: l) fr hp :=
 ⟨v, fun C' hC => .mk fun a w ha hw => .inl ⟨by simp [Region.wanted, hg], (h C' hC).go a.eval w (fun x u hx => ha.ev hx) hw⟩, hk⟩
theorem dre_end {all : Array Oper} {hc : List En} {K : Fr → List En → Prop} (h : K fr hp) : DrE P C all hc K [] fr hp := h
def CQ (C : Cx) : Cx := ⟨C.D, C.w0, C.n, fun _ _ _ => False⟩
def JE (P : Program) (C : Cx) (all : Array Oper) (hc : List En) (K : Fr → List En → Prop) (dst : Option Tmp) (l : List (Bool × Oper)) (F : Fr) : Act → World → Prop :=
 fun act w => ∃ u hp', FrOk C.n (put dst u F) act ∧ HpOk C.D C.w0 hp' w ∧ hc.Sublist hp' ∧ DrE P C all hc K l (put dst u F) hp'
theorem dre_ef {all : Array Oper} {hc : List En} {K : Fr → List En → Prop} {dst : Option Tmp} {op : Op} {ty : TypeId} {pos : String} {aft : Array Edge} {l : List (Bool × Oper)} (hf : Fits C.n dst)
 (h : Sy P (CQ C) [.o all [⟨dst, op, ty, pos, aft, none⟩], .back (JE P C all hc K dst l fr)] fr hp) : DrE P C all hc K ((true, ⟨dst, op, ty, pos, aft, none⟩) :: l) fr hp := by
 intro a w ha hw
 refine ⟨rfl, ?_⟩
 have h1 : wpList P all (After P (CQ C).Q [.back (JE P C all hc K dst l fr)]) [⟨dst, op, ty, pos, aft, none⟩] a w := h.go a w ha hw
 unfold wpList at h1
 have hwt : Region.wanted (⟨dst, op, ty, pos, aft, none⟩ : Oper) (yielded all a.tmps) = true := rfl
 rw [if_pos hwt] at h1
 rcases h1 with h1 | ⟨_, x, y, h1⟩
 · have fin : ∀ (u : Value) (w' : World), wpList P all (After P (CQ C).Q [.back (JE P C all hc K dst l fr)]) [] (a.put dst u) w' → ∃ hp', HpOk C.D C.w0 hp' w' ∧ hc.Sublist hp' ∧ DrE P C all hc K l (put dst u fr) hp' := by
    intro u w' ⟨u', hp', h2, h3, h4, h5⟩
    cases dst with
    | none => exact ⟨hp', h3, h4, h5⟩
    | some d =>
     have hd : d < C.n := by simpa [Fits, Nat.blt_eq] using hf
     have e1 : (a.put (some d) u).tmps.getD d undef = u' := h2.slot d u' (by show cond (Nat.beq d d) (some u') _ = _; simp)
     have e2 : (a.put (some d) u).tmps.getD d undef = u := by simp [Act.put, Array.getD_eq_getD_getElem?, ha.size, hd]
     rw [e2] at e1
     subst e1
     exact ⟨hp', h3, h4, h5⟩
   unfold Oper.wp at h1
   unfold Eff
   cases hr : (execOp a.eval ⟨dst, op, ty, pos, aft, none⟩).run P w with
   | halt x w1 =>
    rw [hr] at h1
    cases x <;> exact h1
   | ok nx w1 =>
    rw [hr] at h1
    cases nx with
    | value u => exact fin u w1 h1
    | skip => exact fin undef w1 h1
    | enter f args =>
     have h1 : Calls P f args w1 _ := h1
     refine h1.mono fun e w'' he => ?_
     cases e with
     | returned u => exact ⟨u, rfl, fin u w'' he⟩
     | panicked c => exact he.elim
     | outgrown => obtain ⟨_, _, he⟩ := he; exact he.elim
    | defer d =>
     obtain ⟨u', hp', h2, _⟩ := h1
     have := h2.defers
     cases dst <;> simp [Act.put] at this
    | row r args2 => exact Rows.mono h1 fun u w'' hu => fin u w'' hu
    | _ => exact h1.elim
 · exact h1.elim
theorem dre_ek {all : Array Oper} {hc : List En} {K : Fr → List En → Prop} {dst : Option Tmp} {l : List (Bool × Oper)} {F : Fr} {u : Value} (hs : hc.Sublist hp) (h : DrE P C all hc K l (put dst u F) hp) : Sy P (CQ C) [.o all [], .back (JE P C all hc K dst l F)] (put dst u F) hp :=
 .mk fun a w ha hw => ⟨u, hp, ha, hw, hs, h⟩
end
end Go.Proofs.Ytkaeihlpdceokaa
/- Rows of elements in memory that was there before. -/
namespace Go.Proofs.Ytkaeihlpdceokaa
open Go.RowKit
def At (w : World) (b off : Nat) (cs : List Value) : Prop := ∀ j u, cs[j]? = some u → w.cell? ⟨b, off + j, none⟩ = some u
def IsSl (w : World) (sz : Nat) (p : Option Addr) (n : Nat) (cs : List Value) : Prop := cs.length = n * sz ∧ (n = 0 ∨ ∃ b off, p = some ⟨b, off, none⟩ ∧ At w b off cs)
theorem cell_lt {w : World} {b o : Nat} {v : Value} (h : w.cell? ⟨b, o, none⟩ = some v) : b < w.heap.size := by
 rcases Nat.lt_or_ge b w.heap.size with h' | h'
 · exact h'
 · unfold World.cell? at h
   rw [Array.getElem?_eq_none h'] at h; cases h
theorem cell_same {w w' : World} {b o : Nat} (h : w'.heap[b]? = w.heap[b]?) : w'.cell? ⟨b, o, none⟩ = w.cell? ⟨b, o, none⟩ := by unfold World.cell?; simp only [h]
def St (D : Nat → Prop) (w0 : World) (R : World → Prop) : Prop := ∀ w, Keep D w0 w → R w
def Bl (R : World → Prop) : Prop := ∀ w w' : World, Below w.heap.size w w' → R w → R w'
theorem At.bl (b off : Nat) (cs : List Value) : Bl fun w => At w b off cs := fun w w' hb h j u hj => by
 have h1 := h j u hj
 rw [cell_same (hb.block b (cell_lt h1))]; exact h1
theorem IsSl.bl (sz : Nat) (p : Option Addr) (n : Nat) (cs : List Value) : Bl fun w => IsSl w sz p n cs := fun w w' hb ⟨h1, h2⟩ =>
 ⟨h1, h2.imp id fun ⟨b, off, e, h⟩ => ⟨b, off, e, At.bl b off cs w w' hb h⟩⟩
theorem St.start {w0 : World} {R : World → Prop} (hR : Bl R) (h : R w0) : St (fun _ => False) w0 R := fun w hk => hR w0 w hk.below h
theorem St.at {D : Nat → Prop} {w0 w : World} {R : World → Prop} {hp : List En} (h : St D w0 R) (hw : HpOk D w0 hp w) : R w := h w hw.keep
theorem St.call {D : Nat → Prop} {w0 w : World} {R : World → Prop} {hp : List En} (h : St D w0 R) (hw : HpOk D w0 hp w) : St (fun _ => False) w R := fun w' hk => h w' (hw.keep.trans hk (fun _ hx => hx.elim))
theorem St.imp {D : Nat → Prop} {w0 : World} {R S : World → Prop} (h : St D w0 R) (hi : ∀ w, R w → S w) : St D w0 S := fun w hk => hi w (h w hk)
theorem IsSl.nil (w : World) (sz : Nat) (p : Option Addr) : IsSl w sz p 0 [] := ⟨by simp, .inl rfl⟩
theorem St.addr {D : Nat → Prop} {w0 : World} {sz n : Nat} {p : Option Addr} {cs : List Value} (h : St D w0 fun w => IsSl w sz p n cs) (hn : 0 < n) : ∃ b off, p = some ⟨b, off, none⟩ ∧ St D w0 fun w => At w b off cs := by
 rcases (h w0 (Keep.refl D w0)).2 with h0 | ⟨b, off, e, _⟩
 · omega
 · refine ⟨b, off, e, fun w hk => ?_⟩
   rcases (h w hk).2 with h0 | ⟨b', off', e', ha⟩
   · omega
   · rw [e] at e'; cases e'; exact ha
theorem vec_isSl {D : Nat → Prop} {w0 w : World} {hp : List En} (h : HpOk D w0 hp w) {i : Nat} {e : TypeId} {size n q : Nat} {p : Option Addr} {cs : List Value} (hi : hp[i]? = some (vec e size (.slice p n q) n cs)) : IsSl w size p n cs := by
 have hown : w.ownsRow 0 e size (.slice p n q) n cs := (h.get hi).1
 refine ⟨hown.1, ?_⟩
 rcases hown.2 with ⟨_, h0⟩ | ⟨g, cap, cur, hv, _⟩
 · exact .inl h0
 · cases hv
   exact .inr ⟨g, 0, rfl, fun j u hj => by have := hown.cells (g := g) rfl j u hj; rw [addr_add] at this; exact this⟩
theorem flat_get {α : Type} (f : α → List Value) (k : Nat) (hk : ∀ x, (f x).length = k) : ∀ (l : List α) (i : Nat) (x : α), l[i]? = some x → ∀ (j : Nat) (v : Value), (f x)[j]? = some v → (l.flatMap f)[i * k + j]? = some v
 | [], i, x, h, _, _, _ => by simp at h
 | y :: l, 0, x, h, j, v, hj => by
  simp only [List.getElem?_cons_zero, Option.some.injEq] at h
  subst h
  rw [List.flatMap_cons, Nat.zero_mul, Nat.zero_add, List.getElem?_append_left (List.getElem?_eq_some_iff.1 hj).1]; exact hj
 | y :: l, i + 1, x, h, j, v, hj => by
  simp only [List.getElem?_cons_succ] at h
  have := flat_get f k hk l i x h j v hj
  rw [List.flatMap_cons, show (i + 1) * k + j = (f y).length + (i * k + j) by rw [hk]; rw [Nat.succ_mul]; omega, List.getElem?_append_right (by omega), Nat.add_sub_cancel_left]; exact this
theorem flat_len {α : Type} (f : α → List Value) (k : Nat) (hk : ∀ x, (f x).length = k) (l : List α) : (l.flatMap f).length = l.length * k := by
 induction l with
 | nil => simp
 | cons y l ih => rw [List.flatMap_cons, List.length_append, ih, hk, List.length_cons, Nat.succ_mul]; omega
section
variable {P : Program} {C : Cx} {fr : Fr} {hp : List En} {dst : Option Tmp} {ty : TypeId} {pos : String} {aft : Array Edge} {g : Option (Nat × Bool)}
theorem ov_elem {α : Type} {t : TypeId} {d : TypeDesc} {ti : TypeInfo} [hd : TU P t d] [hti : TI P t ti] {x : Operand} {f : α → List Value} {l : List α} {b off i : Nat} {y : α} (hat : St C.D C.w0 fun w => At w b off (l.flatMap f)) (hl : l[i]? = some y) (hx : ev fr x = some (.pointer (some ⟨b, off + i * ti.size, none⟩))) (ha : isAggD d = true) (hk : ∀ x, (f x).length = ti.size) :
 OV P C fr hp ⟨dst, .load t x, ty, pos, aft, g⟩ (.agg ⟨f y⟩) :=
 ov_loadxa hx ha (hk y) fun w hw j u hj => by
  have := hat.at hw (i * ti.size + j) u (flat_get f ti.size hk l i y hl j u hj)
  rw [← Nat.add_assoc] at this; exact this
theorem ov_cell {α : Type} {t : TypeId} {d : TypeDesc} [hd : TU P t d] {x : Operand} {f : α → List Value} {l : List α} {b off i j k : Nat} {y : α} {v : Value} (hat : St C.D C.w0 fun w => At w b off (l.flatMap f)) (hl : l[i]? = some y) (hx : ev fr x = some (.pointer (some ⟨b, off + i * k + j, none⟩))) (hj : (f y)[j]? = some v) (ha : isAggD d = false) (hk : ∀ x, (f x).length = k) :
 OV P C fr hp ⟨dst, .load t x, ty, pos, aft, g⟩ v :=
 ov_loadx hx ha fun w hw => by
  have := hat.at hw (i * k + j) v (flat_get f k hk l i y hl j v hj)
  rw [← Nat.add_assoc] at this; exact this
end
end Go.Proofs.Ytkaeihlpdceokaa
/- Rows of elements that a law is given: what they hold. -/
namespace Go.Proofs.Ytkaeihlpdceokaa
open Go.RowKit Go.Deep
theorem list_of {α : Type} {p : Nat → α → Prop} : ∀ n : Nat, (∀ i, i < n → ∃ y, p i y) → ∃ l : List α, l.length = n ∧ ∀ i y, l[i]? = some y → p i y
 | 0, _ => ⟨[], rfl, fun i y h => by simp at h⟩
 | n + 1, h => by
  obtain ⟨l, hl, hp⟩ := list_of n (fun i hi => h i (by omega))
  obtain ⟨y, hy⟩ := h n (by omega)
  refine ⟨l ++ [y], by simp [hl], fun i z hz => ?_⟩
  rw [List.getElem?_append] at hz
  split at hz
  · exact hp i z hz
  · rename_i hi
    have hlt := (List.getElem?_eq_some_iff.1 hz).1
    simp only [List.length_singleton] at hlt
    have : i = n := by omega
    subst this
    rw [hl, Nat.sub_self] at hz
    cases hz; exact hy
theorem flat_at {α : Type} (f : α → List Value) (k : Nat) (hk : ∀ x, (f x).length = k) (hpos : 0 < k) : ∀ (l : List α) (j : Nat) (u : Value), (l.flatMap f)[j]? = some u → ∃ i m x, j = i * k + m ∧ l[i]? = some x ∧ (f x)[m]? = some u
 | [], j, u, h => by simp at h
 | y :: l, j, u, h => by
  rw [List.flatMap_cons, List.getElem?_append] at h
  split at h
  · rename_i hj; exact ⟨0, j, y, by omega, rfl, h⟩
  · rename_i hj
    obtain ⟨i, m, x, e, hi, hm⟩ := flat_at f k hk hpos l _ u h
    rw [hk] at e hj
    exact ⟨i + 1, m, x, by rw [Nat.succ_mul]; omega, hi, hm⟩
section
variable {H : Type} {enc : TypeId × Value → H} {P : Program} {w : World} {base : Nat} {spare : Nat → Bool} {held : Bool}
end
end Go.Proofs.Ytkaeihlpdceokaa