/- A symbolic walk: a region that draws its order. It is gone through once, in the order of the text; what is read and what is written, and what must come ahead of what, tells that every other order ends alike. -/
import Derived.Test.YteddjadeenimkaaSyMem
set_option linter.unusedVariables false
set_option linter.unusedSimpArgs false
namespace Go.Proofs.Yteddjadeenimkaa
open Go.RowKit

class MX (P : Program) : Prop where
  h : P.follows .mixedOrders = true
def bindsOn (o : Oper) : List Nat := (o.after.toList.filter (Region.binds .any ·)).map (·.on)
/-- What must come ahead, directly or through others. -/
inductive Anc (ops : List Oper) : Nat → Nat → Prop
  | base {i j : Nat} {o : Oper} : ops[i]? = some o → j ∈ bindsOn o → Anc ops j i
  | step {i j x : Nat} {o : Oper} : ops[i]? = some o → x ∈ bindsOn o → Anc ops j x → Anc ops j i
def unionL (a b : List Nat) : List Nat := b.foldl (fun acc x => bif acc.contains x then acc else x :: acc) a
def ancOf (acc : List (List Nat)) (o : Oper) : List Nat := (bindsOn o).foldl (fun s j => unionL (unionL s [j]) (acc.getD j [])) []
def tabAnc : List Oper → List (List Nat) → List (List Nat)
  | [], acc => acc
  | o :: l, acc => tabAnc l (acc ++ [ancOf acc o])
theorem mem_unionL {x : Nat} : ∀ {b a : List Nat}, x ∈ unionL a b → x ∈ a ∨ x ∈ b
  | [], a, h => .inl h
  | y :: b, a, h => by
    unfold unionL at h
    rw [List.foldl_cons] at h
    have h' : x ∈ unionL (bif a.contains y then a else y :: a) b := h
    rcases mem_unionL h' with h1 | h1
    · cases hc : a.contains y with
      | true => rw [hc] at h1; exact .inl h1
      | false =>
        rw [hc] at h1
        rcases List.mem_cons.1 h1 with rfl | h1
        · exact .inr (by simp)
        · exact .inl h1
    · exact .inr (by simp [h1])
theorem mem_ancOf {acc : List (List Nat)} {o : Oper} {x : Nat} (h : x ∈ ancOf acc o) : x ∈ bindsOn o ∨ ∃ j ∈ bindsOn o, x ∈ acc.getD j [] := by
  unfold ancOf at h
  have key : ∀ (l : List Nat) (s : List Nat), x ∈ l.foldl (fun s j => unionL (unionL s [j]) (acc.getD j [])) s → x ∈ s ∨ x ∈ l ∨ ∃ j ∈ l, x ∈ acc.getD j [] := by
    intro l
    induction l with
    | nil => intro s h; exact .inl h
    | cons y l ih =>
      intro s h
      rw [List.foldl_cons] at h
      rcases ih _ h with h1 | h1 | ⟨j, hj, h1⟩
      · rcases mem_unionL h1 with h2 | h2
        · rcases mem_unionL h2 with h3 | h3
          · exact .inl h3
          · rw [List.mem_singleton] at h3; exact .inr (.inl (by simp [h3]))
        · exact .inr (.inr ⟨y, by simp, h2⟩)
      · exact .inr (.inl (by simp [h1]))
      · exact .inr (.inr ⟨j, by simp [hj], h1⟩)
  rcases key _ _ h with h1 | h1 | h1
  · cases h1
  · exact .inl h1
  · exact .inr h1
theorem tabAnc_ok (ops : List Oper) : ∀ (l : List Oper) (acc : List (List Nat)), (∀ j, l[j]? = ops[acc.length + j]?) → (∀ i s, acc[i]? = some s → ∀ x ∈ s, Anc ops x i) → ∀ i s, (tabAnc l acc)[i]? = some s → ∀ x ∈ s, Anc ops x i
  | [], acc, _, ha => ha
  | o :: l, acc, hl, ha => by
    refine tabAnc_ok ops l _ (fun j => ?_) (fun i s hi x hx => ?_)
    · have := hl (j + 1)
      simp only [List.length_append, List.length_singleton]
      rw [show acc.length + 1 + j = acc.length + (j + 1) by omega, ← this]; simp
    · rcases Nat.lt_or_ge i acc.length with hlt | hge
      · rw [List.getElem?_append_left hlt] at hi; exact ha i s hi x hx
      · rw [List.getElem?_append_right hge] at hi
        have h0 : i - acc.length = 0 := by
          rcases Nat.eq_zero_or_pos (i - acc.length) with h | h
          · exact h
          · rw [List.getElem?_eq_none (by simp; omega)] at hi; cases hi
        rw [h0] at hi
        simp at hi; subst hi
        have hie : i = acc.length := by omega
        have ho : ops[i]? = some o := by have := hl 0; simp at this; rw [hie]; exact this.symm
        rcases mem_ancOf hx with h1 | ⟨j, hj, h1⟩
        · exact .base ho h1
        · refine .step ho hj ?_
          rw [List.getD_eq_getElem?_getD] at h1
          cases hq : acc[j]? with
          | none => rw [hq] at h1; cases h1
          | some s' => rw [hq] at h1; exact ha j s' hq x h1
theorem anc_done {ops : List Oper} {D : Nat → Prop} (hdc : ∀ i o, ops[i]? = some o → D i → ∀ j ∈ bindsOn o, D j) {j i : Nat} (h : Anc ops j i) : (∀ o, ops[i]? = some o → ∀ x ∈ bindsOn o, D x) → D j := by
  induction h with
  | base ho hj => intro hp; exact hp _ ho _ hj
  | step ho hx _ ih => intro hp; exact ih fun o' ho' x' hx' => hdc _ o' ho' (hp _ ho _ hx) x' hx'
theorem anc_lt {ops : List Oper} (hb : ∀ (i : Nat) (o : Oper), ops[i]? = some o → ∀ j ∈ bindsOn o, j < i) {j i : Nat} (h : Anc ops j i) : j < i := by
  induction h with
  | base ho hj => exact hb _ _ ho _ hj
  | step ho hx _ ih => have := hb _ _ ho _ hx; omega
def tmpOf : Operand → Option Nat
  | .tmp t => some t
  | _ => none
def guardSlot (all : List Oper) (o : Oper) : Option Nat := o.guard.bind fun g => (all[g.1]?).bind (·.dst)
def readsOf (all : List Oper) (o : Oper) : List Nat := o.op.operands.toList.filterMap tmpOf ++ (guardSlot all o).toList
def isSel : Op → Bool
  | .select _ _ => true
  | _ => false
/-- Of two operations of the drawn part: the first one's slot isn't the other's, and where the other reads it one must come ahead. -/
def okPair (ops : List Oper) (T : List (List Nat)) (i : Nat) (o : Oper) (j : Nat) (oj : Oper) : Bool :=
  Nat.beq j i || match oj.dst with
    | none => true
    | some t => !(o.dst == some t) && (!(readsOf ops o).contains t || (Nat.blt j i && (T.getD i []).contains j) || (T.getD j []).contains i)
def chkAt (m : Nat) (ops : List Oper) (T : List (List Nat)) (i : Nat) (o : Oper) : Bool :=
  (bindsOn o).all (fun j => Nat.blt j i) && !isSel o.op && if Nat.ble m i then (List.range i).all (fun j => (T.getD i []).contains j) else (List.range m).all fun j => match ops[j]? with | some oj => okPair ops T i o j oj | none => false
def chk (m : Nat) (ops : List Oper) : Bool := Nat.ble m ops.length && (List.range ops.length).all fun i => match ops[i]? with | some o => chkAt m ops (tabAnc ops []) i o | none => false

structure OVg (P : Program) (C : Cx) (all : Array Oper) (F : Fr) (hp : List En) (o : Oper) (v : Value) : Prop where
  go : ∀ (a : Act) (w : World), FrOk C.n F a → HpOk C.D C.w0 hp w → (Region.wanted o (yielded all a.tmps) = true ∧ Fin P C hp v ((execOp a.eval o).run P w)) ∨ (Region.wanted o (yielded all a.tmps) = false ∧ v = undef)
def DrG (P : Program) (C : Cx) (all : Array Oper) (hp : List En) (K : Fr → Prop) : List Oper → Fr → Prop
  | [], F => K F
  | o :: l, F => ∃ v, OVg P C all F hp o v ∧ Fits C.n o.dst ∧ DrG P C all hp K l (put o.dst v F)
def actAll : Act → List Oper → List Value → Act
  | a, o :: l, v :: vs => actAll (a.put o.dst v) l vs
  | a, _, _ => a
section
variable {P : Program} {C : Cx} {k : List It} {fr : Fr} {hp : List En} {all : Array Oper}
/-- What the walk in the text's order finds: values, such that each operation, behind those ahead of it, gives its own. -/
theorem dr_values {K : Fr → Prop} : ∀ (l : List Oper) (F : Fr), DrG P C all hp K l F → ∃ (vs : List Value) (F' : Fr), vs.length = l.length ∧ K F' ∧
    ∀ a, FrOk C.n F a → FrOk C.n F' (actAll a l vs) ∧ (∀ i o v, l[i]? = some o → vs[i]? = some v → Fits C.n o.dst ∧ ∀ w, HpOk C.D C.w0 hp w →
      let b := actAll a (l.take i) (vs.take i)
      (Region.wanted o (yielded all b.tmps) = true ∧ Fin P C hp v ((execOp b.eval o).run P w)) ∨ (Region.wanted o (yielded all b.tmps) = false ∧ v = undef))
  | [], F, h => ⟨[], F, rfl, h, fun a ha => ⟨ha, by simp⟩⟩
  | o :: l, F, ⟨v, hv, hf, hr⟩ => by
    obtain ⟨vs, F', hl, hK, h⟩ := dr_values l _ hr
    refine ⟨v :: vs, F', by simp [hl], hK, fun a ha => ?_⟩
    obtain ⟨h1, h2⟩ := h _ (ha.put hf v)
    refine ⟨h1, fun i o' v' ho hv' => ?_⟩
    cases i with
    | zero =>
      simp at ho hv'; subst ho; subst hv'
      exact ⟨hf, fun w hw => hv.go a w ha hw⟩
    | succ i =>
      simp at ho hv'
      exact h2 i o' v' ho hv'
/-- The slots when just these operations are done. -/
structure Done (n : Nat) (l : List Oper) (vs : List Value) (D : Nat → Prop) (a0 a : Act) : Prop where
  defers : a.defers = []
  size : a.tmps.size = n
  yes : ∀ j o v t, l[j]? = some o → vs[j]? = some v → D j → o.dst = some t → a.tmps[t]? = some v
  no : ∀ t, (∀ j o, l[j]? = some o → D j → o.dst ≠ some t) → a.tmps[t]? = a0.tmps[t]?
theorem Done.step {n : Nat} {l : List Oper} {vs : List Value} {D D' : Nat → Prop} {a0 a : Act} (h : Done n l vs D a0 a) {i : Nat} {o : Oper} {v : Value} (ho : l[i]? = some o) (hv : vs[i]? = some v) (hf : Fits n o.dst)
    (hd : ∀ j oj t, l[j]? = some oj → j ≠ i → oj.dst = some t → o.dst ≠ some t) (hD : ∀ j, D' j ↔ D j ∨ j = i) : Done n l vs D' a0 (a.put o.dst v) := by
  cases hdst : o.dst with
  | none =>
    refine ⟨h.defers, h.size, fun j oj u t hj hu hDj ht => ?_, fun t hno => ?_⟩
    · rcases (hD j).1 hDj with hDj | rfl
      · exact h.yes j oj u t hj hu hDj ht
      · rw [ho] at hj; cases hj; rw [hdst] at ht; cases ht
    · exact h.no t fun j oj hj hDj => hno j oj hj ((hD j).2 (.inl hDj))
  | some d =>
    rw [hdst] at hf
    have hd' : d < n := by simpa [Fits, Nat.blt_eq] using hf
    refine ⟨h.defers, by simpa [Act.put] using h.size, fun j oj u t hj hu hDj ht => ?_, fun t hno => ?_⟩
    · simp only [Act.put]
      by_cases hji : j = i
      · subst hji
        rw [ho] at hj; cases hj; rw [hv] at hu; cases hu
        rw [hdst] at ht; cases ht
        rw [Array.getElem?_setIfInBounds_self_of_lt (by rw [h.size]; exact hd')]
      · have hne := hd j oj t hj hji ht
        rw [hdst] at hne
        rw [Array.getElem?_setIfInBounds_ne (fun e => hne (by rw [e]))]
        rcases (hD j).1 hDj with hDj | e
        · exact h.yes j oj u t hj hu hDj ht
        · exact absurd e hji
    · simp only [Act.put]
      have hne : d ≠ t := fun e => hno i o ho ((hD i).2 (.inr rfl)) (by rw [hdst, e])
      rw [Array.getElem?_setIfInBounds_ne hne]
      exact h.no t fun j oj hj hDj => hno j oj hj ((hD j).2 (.inl hDj))
theorem actAll_take (a : Act) : ∀ (l : List Oper) (vs : List Value) (i : Nat) (o : Oper) (v : Value), l[i]? = some o → vs[i]? = some v → actAll a (l.take (i + 1)) (vs.take (i + 1)) = (actAll a (l.take i) (vs.take i)).put o.dst v := by
  intro l
  induction l generalizing a with
  | nil => intro vs i o v h; simp at h
  | cons o l ih =>
    intro vs i o' v' h h'
    cases vs with
    | nil => simp at h'
    | cons v vs =>
      cases i with
      | zero => simp at h h'; subst h; subst h'; simp [actAll]
      | succ i => simp at h h'; simp only [List.take_succ_cons, actAll]; exact ih _ vs i o' v' h h'
theorem actAll_done {n : Nat} {l : List Oper} {vs : List Value} {a0 : Act} (h0 : a0.defers = []) (hs : a0.tmps.size = n) (hl : vs.length = l.length) (hf : ∀ (i : Nat) (o : Oper), l[i]? = some o → Fits n o.dst)
    (hd : ∀ (i : Nat) (o : Oper) (j : Nat) (oj : Oper) (t : Nat), l[i]? = some o → l[j]? = some oj → j ≠ i → oj.dst = some t → o.dst ≠ some t) : ∀ i, i ≤ l.length → Done n l vs (· < i) a0 (actAll a0 (l.take i) (vs.take i)) := by
  intro i
  induction i with
  | zero => intro _; exact ⟨h0, hs, fun j o v t _ _ hj => absurd hj (by omega), fun t _ => by simp [actAll]⟩
  | succ i ih =>
    intro hi
    have ho : l[i]? = some (l[i]'(by omega)) := List.getElem?_eq_getElem (by omega)
    have hv : vs[i]? = some (vs[i]'(by omega)) := List.getElem?_eq_getElem (by omega)
    rw [actAll_take a0 l vs i _ _ ho hv]
    exact (ih (by omega)).step ho hv (hf i _ ho) (fun j oj t hj hji ht => hd i _ j oj t ho hj hji ht) (fun j => by omega)
theorem mem_ready {ops : Array Oper} {listed : Array Bool} {i : Nat} : i ∈ Region.ready .any ops listed ↔ ∃ o, ops[i]? = some o ∧ listed.getD i true = false ∧ ∀ j ∈ bindsOn o, listed.getD j false = true := by
  unfold Region.ready bindsOn
  rw [List.mem_filter]
  constructor
  · rintro ⟨h1, h2⟩
    rw [List.mem_range] at h1
    have ho : ops[i]? = some ops[i] := Array.getElem?_eq_getElem h1
    rw [ho] at h2
    simp only [Option.map_some, Option.getD_some, Bool.and_eq_true, Bool.not_eq_true'] at h2
    refine ⟨ops[i], ho, h2.1, fun j hj => ?_⟩
    obtain ⟨e, he, rfl⟩ := List.mem_map.1 hj
    rw [List.mem_filter] at he
    have := (Array.all_eq_true_iff_forall_mem.1 h2.2) e (Array.mem_toList_iff.1 he.1)
    simpa [he.2] using this
  · rintro ⟨o, ho, h1, h2⟩
    refine ⟨List.mem_range.2 (Array.getElem?_eq_some_iff.1 ho).1, ?_⟩
    rw [ho]
    simp only [Option.map_some, Option.getD_some, h1, Bool.not_false, Bool.true_and]
    refine Array.all_eq_true_iff_forall_mem.2 fun e he => ?_
    cases hb : Region.binds .any e with
    | false => simp
    | true =>
      simp only [Bool.not_true, Bool.false_or]
      exact h2 e.on (List.mem_map.2 ⟨e, List.mem_filter.2 ⟨Array.mem_toList_iff.2 he, hb⟩, rfl⟩)
theorem tab_mem {ops : List Oper} {i j : Nat} (h : ((tabAnc ops []).getD i []).contains j = true) : Anc ops j i := by
  rw [List.contains_iff_mem, List.getD_eq_getElem?_getD] at h
  cases hq : (tabAnc ops [])[i]? with
  | none => rw [hq] at h; cases h
  | some s => rw [hq] at h; exact tabAnc_ok ops ops [] (fun j => by simp) (fun i s hi => by simp at hi) i s hq j h
theorem chk_facts {m : Nat} {ops : List Oper} (h : chk m ops = true) : m ≤ ops.length ∧ ∀ (i : Nat) (o : Oper), ops[i]? = some o →
    (∀ j ∈ bindsOn o, j < i) ∧ isSel o.op = false ∧ (m ≤ i → ∀ j, j < i → Anc ops j i) ∧
    (i < m → ∀ (j : Nat) (oj : Oper) (t : Nat), j < m → ops[j]? = some oj → j ≠ i → oj.dst = some t → o.dst ≠ some t ∧ (t ∉ readsOf ops o ∨ (j < i ∧ Anc ops j i) ∨ Anc ops i j)) := by
  unfold chk at h
  rw [Bool.and_eq_true] at h
  refine ⟨by simpa using h.1, fun i o ho => ?_⟩
  have h2 := List.all_eq_true.1 h.2 i (List.mem_range.2 (List.getElem?_eq_some_iff.1 ho).1)
  rw [ho] at h2
  simp only [chkAt, Bool.and_eq_true, Bool.not_eq_true'] at h2
  obtain ⟨⟨h3, h4⟩, h5⟩ := h2
  refine ⟨fun j hj => by simpa using List.all_eq_true.1 h3 j hj, h4, fun hm j hj => ?_, fun hm j oj t hjm hoj hji hd => ?_⟩
  · rw [if_pos (by simpa using hm)] at h5
    exact tab_mem (List.all_eq_true.1 h5 j (List.mem_range.2 hj))
  · rw [if_neg (by simp; omega)] at h5
    have h6 := List.all_eq_true.1 h5 j (List.mem_range.2 hjm)
    rw [hoj] at h6
    simp only [okPair, hd, Bool.or_eq_true, Bool.and_eq_true, Bool.not_eq_true', beq_eq_false_iff_ne, ne_eq] at h6
    rcases h6 with h6 | h6
    · exact absurd (Nat.eq_of_beq_eq_true h6) hji
    · refine ⟨h6.1, ?_⟩
      rcases h6.2 with (h7 | h7) | h7
      · exact .inl (by simpa using h7)
      · exact .inr (.inl ⟨by simpa using h7.1, tab_mem h7.2⟩)
      · exact .inr (.inr (tab_mem h7))
theorem getD_set {l : Array Bool} {i j : Nat} (h : i < l.size) : ((l.setIfInBounds i true).getD j false = true) ↔ (l.getD j false = true ∨ j = i) := by
  simp only [Array.getD_eq_getD_getElem?]
  by_cases e : i = j
  · subst e; rw [Array.getElem?_setIfInBounds_self_of_lt h]; simp
  · rw [Array.getElem?_setIfInBounds_ne e]
    constructor
    · exact .inl
    · rintro (h | h)
      · exact h
      · exact absurd h.symm e
theorem getD_flip {l : Array Bool} {i : Nat} : l.getD i true = false ↔ (i < l.size ∧ ¬ l.getD i false = true) := by
  simp only [Array.getD_eq_getD_getElem?]
  by_cases h : i < l.size
  · rw [Array.getElem?_eq_getElem h]; simp [h]
  · rw [Array.getElem?_eq_none (by omega)]; simp [h]
def cnt (n : Nat) (l : Array Bool) : Nat := ((List.range n).filter fun i => !l.getD i false).length
theorem cnt_set {n : Nat} {l : Array Bool} {i : Nat} (hi : i < n) (hs : i < l.size) (h : ¬ l.getD i false = true) : cnt n (l.setIfInBounds i true) < cnt n l := by
  unfold cnt
  have e : ((List.range n).filter fun j => !(l.setIfInBounds i true).getD j false) = ((List.range n).filter fun j => !l.getD j false).filter fun j => !(Nat.beq j i) := by
    rw [List.filter_filter]
    apply List.filter_congr
    intro j _
    have := getD_set (j := j) hs
    by_cases hji : j = i
    · subst hji
      have h1 : (l.setIfInBounds j true).getD j false = true := this.2 (.inr rfl)
      rw [h1]; simp
    · have hb : Nat.beq j i = false := by cases hb : Nat.beq j i with | false => rfl | true => exact absurd (Nat.eq_of_beq_eq_true hb) hji
      rw [hb]
      cases hl : l.getD j false with
      | true => rw [this.2 (.inl hl)]; rfl
      | false =>
        have hn : ¬ (l.setIfInBounds i true).getD j false = true := fun hh => by rcases this.1 hh with h | h; rw [hl] at h; cases h; exact hji h
        cases hq : (l.setIfInBounds i true).getD j false with
        | false => rfl
        | true => exact absurd hq hn
  rw [e, List.length_filter_lt_length_iff_exists]
  exact ⟨i, List.mem_filter.2 ⟨List.mem_range.2 hi, by simpa using h⟩, by simp⟩
theorem cnt_zero {n : Nat} {l : Array Bool} (h : cnt n l = 0) : ∀ i, i < n → l.getD i false = true := fun i hi => by
  unfold cnt at h
  have := List.filter_eq_nil_iff.1 (List.length_eq_zero_iff.1 h) i (List.mem_range.2 hi)
  simpa using this
/-- Behind the drawn part one order is left. -/
theorem any_tail {Q : Exit → Act → World → Prop} {m : Nat} {ops : List Oper} (hc : chk m ops = true) : ∀ (fuel j : Nat) (listed : Array Bool) (a : Act) (w : World), m ≤ j → j ≤ ops.length → listed.size = ops.length → ops.length ≤ fuel + j →
    (∀ i, listed.getD i false = true ↔ i < j) → wpList P ops.toArray Q (ops.drop j) a w → wpAny P .any ops.toArray Q fuel listed a w := by
  obtain ⟨_, hat⟩ := chk_facts hc
  have hready : ∀ (j : Nat) (listed : Array Bool), m ≤ j → listed.size = ops.length → (∀ i, listed.getD i false = true ↔ i < j) → ∀ i, i ∈ Region.ready .any ops.toArray listed → i = j := by
    intro j listed hmj hs hD i hi
    obtain ⟨o, ho, h1, h2⟩ := mem_ready.1 hi
    have h3 := (getD_flip.1 h1).2
    rw [hD] at h3
    rcases Nat.lt_or_ge j i with hlt | hge
    · have ho2 : ops[i]? = some o := by rw [List.getElem?_toArray] at ho; exact ho
      have h4 := (hat i o ho2).2.2.1 (by omega) j hlt
      have h5 : listed.getD j false = true := anc_done (D := fun x => listed.getD x false = true) (fun x ox hox hx y hy => by
        rw [hD] at hx ⊢
        have := (hat x ox hox).1 y hy; omega) h4 (fun o' ho' x hx => by rw [ho2] at ho'; cases ho'; exact h2 x hx)
      rw [hD] at h5; omega
    · omega
  intro fuel
  induction fuel with
  | zero =>
    intro j listed a w hmj hj hs hf hD h
    have hje : j = ops.length := by omega
    refine ⟨List.eq_nil_iff_forall_not_mem.2 fun i hi => ?_, ?_⟩
    · have := hready j listed hmj hs hD i hi
      obtain ⟨o, ho, _⟩ := mem_ready.1 hi
      have := (Array.getElem?_eq_some_iff.1 ho).1
      simp at this; omega
    · rw [hje, List.drop_length] at h; exact h
  | succ fuel ih =>
    intro j listed a w hmj hj hs hf hD h
    rcases Nat.lt_or_ge j ops.length with hlt | hge
    · have ho : ops[j]? = some ops[j] := List.getElem?_eq_getElem hlt
      have hr : j ∈ Region.ready .any ops.toArray listed := mem_ready.2 ⟨ops[j], by rw [List.getElem?_toArray]; exact ho, getD_flip.2 ⟨by omega, by rw [hD]; omega⟩, fun i hi => (hD i).2 ((hat j _ ho).1 i hi)⟩
      refine ⟨fun hn => (by rw [hn] at hr; cases hr), fun i hi => ?_⟩
      have hij := hready j listed hmj hs hD i hi
      subst hij
      rw [List.drop_eq_getElem_cons hlt] at h
      have hnext : ∀ a w, wpList P ops.toArray Q (ops.drop (i + 1)) a w → wpAny P .any ops.toArray Q fuel (listed.setIfInBounds i true) a w := fun a w h' =>
        ih (i + 1) _ a w (by omega) (by omega) (by simpa using hs) (by omega) (fun x => by rw [getD_set (by omega), hD]; omega) h'
      unfold wpOp
      rw [show (ops.toArray)[i]? = some ops[i] from by rw [List.getElem?_toArray]; exact ho]
      unfold wpList at h
      simp only
      by_cases hw : Region.wanted ops[i] (yielded ops.toArray a.tmps) = true
      · rw [if_pos hw] at h ⊢; exact h.imp (Oper.wp_mono hnext) id
      · rw [if_neg hw] at h ⊢; exact hnext _ _ h
    · have hje : j = ops.length := by omega
      rw [hje, List.drop_length] at h
      refine ⟨fun _ => h, fun i hi => ?_⟩
      have := hready j listed hmj hs hD i hi
      obtain ⟨o, ho, _⟩ := mem_ready.1 hi
      have := (Array.getElem?_eq_some_iff.1 ho).1
      simp at this; omega
theorem sy_draw [hmx : MX P] {id : Nat} {ops : List Oper} (m : Nat) (hc : chk m ops = true) (h : DrG P C ops.toArray hp (fun F => Sy P C (.o ops.toArray (ops.drop m) :: k) F hp) (ops.take m) fr) : Sy P C (.c (.region id ops.toArray true) :: k) fr hp := by
  constructor
  intro a w ha hw
  obtain ⟨hm, hat⟩ := chk_facts hc
  obtain ⟨vs, F', hl, hK, hv⟩ := dr_values _ _ h
  obtain ⟨hF', hstep⟩ := hv a ha
  have hlen : (ops.take m).length = m := by simp; omega
  have hget : ∀ i, i < m → (ops.take m)[i]? = ops[i]? := fun i hi => by rw [List.getElem?_take, if_pos hi]
  have hgetm : ∀ i o, (ops.take m)[i]? = some o → i < m ∧ ops[i]? = some o := fun i o ho => by
    have := (List.getElem?_eq_some_iff.1 ho).1
    rw [hlen] at this
    exact ⟨this, by rw [← hget i this]; exact ho⟩
  have hdist : ∀ (i : Nat) (o : Oper) (j : Nat) (oj : Oper) (t : Nat), (ops.take m)[i]? = some o → (ops.take m)[j]? = some oj → j ≠ i → oj.dst = some t → o.dst ≠ some t := fun i o j oj t ho hoj hji ht =>
    ((hat i o (hgetm i o ho).2).2.2.2 (hgetm i o ho).1 j oj t (hgetm j oj hoj).1 (hgetm j oj hoj).2 hji ht).1
  have hfit : ∀ (i : Nat) (o : Oper), (ops.take m)[i]? = some o → Fits C.n o.dst := fun i o ho => by
    have hv' : vs[i]? = some (vs[i]'(by rw [hl]; exact (List.getElem?_eq_some_iff.1 ho).1)) := List.getElem?_eq_getElem _
    exact (hstep i o _ ho hv').1
  have e1 : (ops.take m).take m = ops.take m := List.take_of_length_le (by omega)
  have e2 : vs.take m = vs := List.take_of_length_le (by omega)
  have hdone := actAll_done (n := C.n) ha.defers ha.size hl hfit hdist
  show Code.wp P _ _ _ _
  refine wp_region_any hmx.h ?_
  have key : ∀ (fuel : Nat) (listed : Array Bool) (a' : Act) (w' : World), listed.size = ops.length → cnt ops.length listed ≤ fuel → (∀ i, listed.getD i false = true → i < m) →
      (∀ i o, ops[i]? = some o → listed.getD i false = true → ∀ j ∈ bindsOn o, listed.getD j false = true) → Done C.n (ops.take m) vs (fun i => listed.getD i false = true) a a' → HpOk C.D C.w0 hp w' →
      wpAny P .any ops.toArray (After P C.Q k) fuel listed a' w' := by
    intro fuel
    induction fuel with
    | zero =>
      intro listed a' w' hs hcnt hD hdc hdn hw'
      have hall := cnt_zero (n := ops.length) (l := listed) (by omega)
      have hme : m = ops.length := by
        rcases Nat.lt_or_ge m ops.length with hlt | hge
        · have := hD m (hall m hlt); omega
        · omega
      refine any_tail hc 0 m listed a' w' (Nat.le_refl _) hm hs (by omega) (fun i => ⟨hD i, fun hi => hall i (by omega)⟩) ?_
      have hslot : FrOk C.n F' a' := by
        have hb := hdone m (by omega)
        rw [e1, e2] at hb
        refine ⟨hdn.defers, hdn.size, fun t v ht => ?_⟩
        rw [← hF'.slot t v ht]
        simp only [Array.getD_eq_getD_getElem?]
        congr 1
        by_cases hex : ∃ (j : Nat) (o : Oper), (ops.take m)[j]? = some o ∧ o.dst = some t
        · obtain ⟨j, o, ho, hd⟩ := hex
          have hjm := (hgetm j o ho).1
          have hv' : vs[j]? = some (vs[j]'(by omega)) := List.getElem?_eq_getElem _
          rw [hdn.yes j o _ t ho hv' (hall j (by omega)) hd, hb.yes j o _ t ho hv' hjm hd]
        · rw [hdn.no t fun j o ho _ hd => hex ⟨j, o, ho, hd⟩, hb.no t fun j o ho _ hd => hex ⟨j, o, ho, hd⟩]
      exact hK.go a' w' hslot hw'
    | succ fuel ih =>
      intro listed a' w' hs hcnt hD hdc hdn hw'
      by_cases hall : ∀ i, i < m → listed.getD i false = true
      · refine any_tail hc (fuel + 1) m listed a' w' (Nat.le_refl _) hm hs ?_ (fun i => ⟨hD i, hall i⟩) ?_
        · -- as many are left as the fuel allows
          have hsub : (List.range ops.length).drop m = (List.range ops.length).filter fun i => !listed.getD i false := by
            have e := List.take_append_drop m (List.range ops.length)
            have h1 : ((List.range ops.length).take m).filter (fun i => !listed.getD i false) = [] := by
              rw [List.filter_eq_nil_iff]; intro x hx
              rw [List.take_range] at hx
              have := List.mem_range.1 hx
              simp [hall x (by omega)]
            have h2 : ((List.range ops.length).drop m).filter (fun i => !listed.getD i false) = (List.range ops.length).drop m := by
              rw [List.filter_eq_self]; intro x hx
              obtain ⟨y, hy, rfl⟩ := List.mem_drop_iff_getElem.1 hx
              have hge : ¬ listed.getD ((List.range ops.length)[y + m]) false = true := fun hh => by have := hD _ hh; simp at this; omega
              rw [Bool.not_eq_true'] ; cases hq : listed.getD ((List.range ops.length)[y + m]) false with
              | false => simpa [Nat.add_comm] using hq
              | true => exact absurd hq hge
            conv => rhs; rw [← e, List.filter_append, h1, h2, List.nil_append]
          have := congrArg List.length hsub
          simp only [List.length_drop, List.length_range] at this
          unfold cnt at hcnt
          omega
        · have hslot : FrOk C.n F' a' := by
            have hb := hdone m (by omega)
            rw [e1, e2] at hb
            refine ⟨hdn.defers, hdn.size, fun t v ht => ?_⟩
            rw [← hF'.slot t v ht]
            simp only [Array.getD_eq_getD_getElem?]
            congr 1
            by_cases hex : ∃ (j : Nat) (o : Oper), (ops.take m)[j]? = some o ∧ o.dst = some t
            · obtain ⟨j, o, ho, hd⟩ := hex
              have hjm := (hgetm j o ho).1
              have hv' : vs[j]? = some (vs[j]'(by omega)) := List.getElem?_eq_getElem _
              rw [hdn.yes j o _ t ho hv' (hall j hjm) hd, hb.yes j o _ t ho hv' hjm hd]
            · rw [hdn.no t fun j o ho _ hd => hex ⟨j, o, ho, hd⟩, hb.no t fun j o ho _ hd => hex ⟨j, o, ho, hd⟩]
          exact hK.go a' w' hslot hw'
      · have hex : ∃ i, i < m ∧ ¬ listed.getD i false = true := Classical.byContradiction fun hn => hall fun i hi => Classical.byContradiction fun hh => hn ⟨i, hi, hh⟩
        constructor
        · intro hn
          exfalso
          obtain ⟨i0, hi0⟩ := hex
          obtain ⟨i, hi, hmin⟩ := least (p := fun i => i < m ∧ ¬ listed.getD i false = true) i0 hi0
          have ho : ops[i]? = some (ops[i]'(by omega)) := List.getElem?_eq_getElem _
          have : i ∈ Region.ready .any ops.toArray listed := mem_ready.2 ⟨_, by rw [List.getElem?_toArray]; exact ho, getD_flip.2 ⟨by omega, hi.2⟩, fun j hj => by
            have hji := (hat i _ ho).1 j hj
            exact Classical.byContradiction fun hh => by have := hmin j ⟨by omega, hh⟩; omega⟩
          rw [hn] at this; cases this
        · intro i hi
          obtain ⟨o, ho', h1, h2⟩ := mem_ready.1 hi
          have ho : ops[i]? = some o := by rw [List.getElem?_toArray] at ho'; exact ho'
          have hni := (getD_flip.1 h1).2
          have hilen := (getD_flip.1 h1).1
          have him : i < m := Nat.lt_of_not_le fun hge => hall fun j hj => anc_done (D := fun x => listed.getD x false = true) hdc ((hat i o ho).2.2.1 hge j (by omega)) (fun o' ho' x hx => by rw [ho] at ho'; cases ho'; exact h2 x hx)
          have hoL : (ops.take m)[i]? = some o := by rw [hget i him]; exact ho
          have hvi : vs[i]? = some (vs[i]'(by omega)) := List.getElem?_eq_getElem _
          have hb := hdone i (by omega)
          have hsame : ∀ t, t ∈ readsOf ops o → a'.tmps[t]? = (actAll a ((ops.take m).take i) (vs.take i)).tmps[t]? := by
            intro t ht
            by_cases hw : ∃ (j : Nat) (oj : Oper), (ops.take m)[j]? = some oj ∧ oj.dst = some t
            · obtain ⟨j, oj, hoj, hd⟩ := hw
              obtain ⟨hjm, hoj'⟩ := hgetm j oj hoj
              have hvj : vs[j]? = some (vs[j]'(by omega)) := List.getElem?_eq_getElem _
              have uniq : ∀ j' oj', (ops.take m)[j']? = some oj' → oj'.dst = some t → j' = j := fun j' oj' h' hd' => Classical.byContradiction fun hne => hdist j oj j' oj' t hoj h' hne hd' hd
              by_cases hji : j = i
              · rw [hdn.no t fun j' o' ho' hD' hd' => by have := uniq j' o' ho' hd'; subst this; subst hji; exact hni hD', hb.no t fun j' o' ho' hlt hd' => by have := uniq j' o' ho' hd'; omega]
              · rcases ((hat i o ho).2.2.2 him j oj t hjm hoj' hji hd).2 with h3 | h3 | h3
                · exact absurd ht h3
                · rw [hdn.yes j oj _ t hoj hvj (anc_done (D := fun x => listed.getD x false = true) hdc h3.2 (fun o' ho' x hx => by rw [ho] at ho'; cases ho'; exact h2 x hx)) hd, hb.yes j oj _ t hoj hvj h3.1 hd]
                · have hij := anc_lt (fun i o ho => (hat i o ho).1) h3
                  rw [hdn.no t fun j' o' ho' hD' hd' => by have := uniq j' o' ho' hd'; subst this; exact hni (anc_done (D := fun x => listed.getD x false = true) hdc h3 (fun o'' ho'' x hx => hdc j' o'' ho'' hD' x hx)), hb.no t fun j' o' ho' hlt hd' => by have := uniq j' o' ho' hd'; omega]
            · rw [hdn.no t fun j o ho _ hd => hw ⟨j, o, ho, hd⟩, hb.no t fun j o ho _ hd => hw ⟨j, o, ho, hd⟩]
          have hexec : execOp a'.eval o = execOp (actAll a ((ops.take m).take i) (vs.take i)).eval o := by
            refine execOp_congr o (fun cs b e => by have := (hat i o ho).2.1; rw [e] at this; cases this) fun x hx => ?_
            cases x with
            | tmp t =>
              have := hsame t (List.mem_append.2 (.inl (List.mem_filterMap.2 ⟨.tmp t, Array.mem_toList_iff.2 hx, rfl⟩)))
              simp only [Act.eval, Array.getD_eq_getD_getElem?, this]
            | _ => rfl
          have hwant : Region.wanted o (yielded ops.toArray a'.tmps) = Region.wanted o (yielded ops.toArray (actAll a ((ops.take m).take i) (vs.take i)).tmps) := by
            cases hg : o.guard with
            | none => simp only [Region.wanted, hg]
            | some g =>
              simp only [Region.wanted, hg, yielded, List.getElem?_toArray]
              cases hd : (ops[g.1]?).bind (·.dst) with
              | none => rfl
              | some t =>
                have := hsame t (List.mem_append.2 (.inr (by simp [guardSlot, hg, hd])))
                simp only [Option.bind_some, this]
          have hnext : ∀ w'', HpOk C.D C.w0 hp w'' → wpAny P .any ops.toArray (After P C.Q k) fuel (listed.setIfInBounds i true) (a'.put o.dst (vs[i]'(by omega))) w'' := fun w'' hw'' => by
            refine ih _ _ w'' (by simpa using hs) ?_ ?_ ?_ ?_ hw''
            · have := cnt_set (n := ops.length) (by omega) hilen hni; omega
            · intro j hj; rcases (getD_set hilen).1 hj with hj | rfl
              · exact hD j hj
              · exact him
            · intro j oj hoj hj x hx
              rw [getD_set hilen]
              rcases (getD_set hilen).1 hj with hj | rfl
              · exact .inl (hdc j oj hoj hj x hx)
              · rw [ho] at hoj; cases hoj; exact .inl (h2 x hx)
            · exact hdn.step hoL hvi (hfit i o hoL) (fun j oj t hoj hji hd => hdist i o j oj t hoL hoj hji hd) (fun j => getD_set hilen)
          have hst := (hstep i o _ hoL hvi).2 w' hw'
          simp only at hst
          rw [← hexec, ← hwant] at hst
          unfold wpOp
          rw [ho']
          simp only
          rcases hst with ⟨hwt, hfin⟩ | ⟨hwt, hun⟩
          · rw [if_pos hwt]
            left
            unfold Oper.wp
            cases hr : (execOp a'.eval o).run P w' with
            | halt _ _ => rw [hr] at hfin; exact hfin.elim
            | ok nx w1 =>
              rw [hr] at hfin
              cases nx with
              | value u => obtain ⟨rfl, hw1⟩ := hfin; exact hnext w1 hw1
              | enter f args =>
                have hfin : Calls P f args w1 fun e w'' => e = .returned (vs[i]'(by omega)) ∧ HpOk C.D C.w0 hp w'' := hfin
                refine hfin.mono fun e w'' he => ?_
                obtain ⟨rfl, hw''⟩ := he
                exact hnext w'' hw''
              | _ => exact hfin.elim
          · rw [if_neg (by rw [hwt]; simp), ← hun]
            exact hnext w' hw'
  refine key ops.length (Array.replicate ops.length false) a _ (by simp) ?_ ?_ ?_ ?_ hw.draw
  · unfold cnt; exact Nat.le_trans (List.length_filter_le _ _) (by simp)
  · intro i hi; simp [Array.getD_eq_getD_getElem?, Array.getElem?_replicate] at hi; split at hi <;> simp at hi
  · intro i o _ hi; simp [Array.getD_eq_getD_getElem?, Array.getElem?_replicate] at hi; split at hi <;> simp at hi
  · exact ⟨ha.defers, ha.size, fun j o v t _ _ hj => by simp [Array.getD_eq_getD_getElem?, Array.getElem?_replicate] at hj; split at hj <;> simp at hj, fun t _ => rfl⟩
/-! the steps -/
theorem dr_op {K : Fr → Prop} {o : Oper} {l : List Oper} {v : Value} (h : OV P C fr hp o v) (hg : o.guard = none) (hf : Fits C.n o.dst) (hk : DrG P C all hp K l (put o.dst v fr)) : DrG P C all hp K (o :: l) fr :=
  ⟨v, .mk fun a w ha hw => .inl ⟨by simp [Region.wanted, hg], h.go a.eval w (fun x u hx => ha.ev hx) hw⟩, hf, hk⟩
theorem dr_end {K : Fr → Prop} (h : K fr) : DrG P C all hp K [] fr := h
/-- Where a guard says yes. -/
theorem dr_yes {K : Fr → Prop} {dst : Option Tmp} {op : Op} {ty : TypeId} {pos : String} {aft : Array Edge} {l : List Oper} {v : Value} {j : Nat} {want b : Bool} {t : Tmp} {oj : Oper} (hj : all[j]? = some oj) (ho : oj.dst = some t) (hlt : Nat.blt t C.n = true) (ht : get t fr = some (.bool b)) (hb : b = want)
    (h : OV P C fr hp ⟨dst, op, ty, pos, aft, some (j, want)⟩ v) (hf : Fits C.n dst) (hk : DrG P C all hp K l (put dst v fr)) : DrG P C all hp K (⟨dst, op, ty, pos, aft, some (j, want)⟩ :: l) fr :=
  ⟨v, .mk fun a w ha hw => .inl ⟨by rw [wanted_of (o := ⟨dst, op, ty, pos, aft, some (j, want)⟩) ha rfl hj ho hlt ht, hb]; simp, h.go a.eval w (fun x u hx => ha.ev hx) hw⟩, hf, hk⟩
theorem dr_no {K : Fr → Prop} {dst : Option Tmp} {op : Op} {ty : TypeId} {pos : String} {aft : Array Edge} {l : List Oper} {j : Nat} {want b : Bool} {t : Tmp} {oj : Oper} (hj : all[j]? = some oj) (ho : oj.dst = some t) (hlt : Nat.blt t C.n = true) (ht : get t fr = some (.bool b)) (hb : b = !want)
    (hf : Fits C.n dst) (hk : DrG P C all hp K l (put dst undef fr)) : DrG P C all hp K (⟨dst, op, ty, pos, aft, some (j, want)⟩ :: l) fr :=
  ⟨undef, .mk fun a w ha hw => .inr ⟨by rw [wanted_of (o := ⟨dst, op, ty, pos, aft, some (j, want)⟩) ha rfl hj ho hlt ht, hb]; cases want <;> rfl, rfl⟩, hf, hk⟩
end
end Go.Proofs.Yteddjadeenimkaa
