/- A symbolic walk: a drawn region two of whose operations change memory and may stand in either order: it is gone through twice, with one more edge each time. -/
import Derived.Test.YtkaeihlpdceokaaBRC
set_option linter.unusedVariables false
set_option linter.unusedSimpArgs false
namespace Go.Proofs.Ytkaeihlpdceokaa
open Go.RowKit
def chkO2 (m : Nat) (ops : List Oper) (T : List (List Nat)) (i : Nat) : Bool := match ops[i]? with
 | some o => (bindsOn o).all (fun j => Nat.blt j i || (Nat.blt i m && Nat.blt j m && (Nat.blt i j || Nat.blt j i))) && !isSel o.op && (if Nat.ble m i then (List.range i).all (fun j => (T.getD i []).contains j) else true)
 | none => false
def chkE2 (m : Nat) (ops : List Oper) (ord : List (Nat × Bool)) : Bool :=
 Nat.ble m ops.length && (List.range ops.length).all (fun i => chkO2 m ops (tabAnc ops []) i) && Nat.beq ord.length m && ord.all (fun x => Nat.blt x.1 m) && (List.range m).all (fun i => ord.any fun x => Nat.beq x.1 i) && chkPP ops (tabAnc ops []) ord
structure ChkE2 (m : Nat) (ops : List Oper) (ord : List (Nat × Bool)) : Prop where
 mle : m ≤ ops.length
 fo : ∀ (i : Nat) (o : Oper), ops[i]? = some o → (∀ j ∈ bindsOn o, j < i ∨ (i < m ∧ j < m ∧ j ≠ i)) ∧ isSel o.op = false ∧ (m ≤ i → ∀ j, j < i → Anc ops j i)
 len : ord.length = m
 flt : ∀ x : Nat × Bool, x ∈ ord → x.1 < m
 cov : ∀ i : Nat, i < m → ∃ (p : Nat) (b : Bool), ord[p]? = some (i, b)
 pw : ∀ (p q i j : Nat) (b b' : Bool) (oi oj : Oper), p < q → ord[p]? = some (i, b) → ord[q]? = some (j, b') → ops[i]? = some oi → ops[j]? = some oj →
  i ≠ j ∧ (∀ t, oi.dst = some t → oj.dst ≠ some t) ∧ j ∉ bindsOn oi ∧ (((∃ t, oi.dst = some t ∧ t ∈ readsOf ops oj) ∨ (∃ t, oj.dst = some t ∧ t ∈ readsOf ops oi) ∨ b = true) → Anc ops i j)
theorem chkE2_facts {m : Nat} {ops : List Oper} {ord : List (Nat × Bool)} (h : chkE2 m ops ord = true) : ChkE2 m ops ord := by
 unfold chkE2 at h
 simp only [Bool.and_eq_true] at h
 obtain ⟨⟨⟨⟨⟨h1, h2⟩, h3⟩, h4⟩, h5⟩, h6⟩ := h
 refine ⟨by simpa using h1, fun i o ho => ?_, Nat.eq_of_beq_eq_true h3, fun x hx => by simpa using List.all_eq_true.1 h4 x hx, fun i hi => ?_, ?_⟩
 · have h7 := List.all_eq_true.1 h2 i (List.mem_range.2 (List.getElem?_eq_some_iff.1 ho).1)
   unfold chkO2 at h7
   rw [ho] at h7
   simp only [Bool.and_eq_true, Bool.not_eq_true'] at h7
   refine ⟨fun j hj => by
    have h9 := List.all_eq_true.1 h7.1.1 j hj
    simp only [Bool.or_eq_true, Bool.and_eq_true, Nat.blt_eq] at h9
    omega, h7.1.2, fun hm j hj => ?_⟩
   have h8 := h7.2
   rw [if_pos (by simpa using hm)] at h8
   exact tab_mem (List.all_eq_true.1 h8 j (List.mem_range.2 hj))
 · have h7 := List.all_eq_true.1 h5 i (List.mem_range.2 hi)
   obtain ⟨x, hx, hxi⟩ := List.any_eq_true.1 h7
   obtain ⟨p, hp⟩ := List.mem_iff_getElem?.1 hx
   have := Nat.eq_of_beq_eq_true hxi
   exact ⟨p, x.2, by rw [hp, ← this]⟩
 · intro p q i j b b' oi oj hlt hp hq hi hj
   have h7 := chkPP_pw ops _ ord h6 p q _ _ hlt hp hq
   unfold chkP2 at h7
   simp only [hi, hj, Bool.and_eq_true, Bool.not_eq_true', Bool.or_eq_true] at h7
   obtain ⟨⟨⟨h8, h9⟩, h10⟩, h11⟩ := h7
   refine ⟨(fun e => by rw [e] at h8; simp at h8), (fun t ht e => by rw [ht, e] at h9; simp at h9), (fun hm => by rw [← List.contains_iff_mem] at hm; rw [hm] at h10; cases h10), fun hor => ?_⟩
   rcases h11 with h11 | h11
   · simp only [Bool.or_eq_false_iff] at h11
     exfalso
     rcases hor with ⟨t, ht, hm⟩ | ⟨t, ht, hm⟩ | hb
     · have := h11.1.1; unfold rdsB at this; rw [ht] at this; simp only at this; rw [← List.contains_iff_mem] at hm; rw [hm] at this; cases this
     · have := h11.1.2; unfold rdsB at this; rw [ht] at this; simp only at this; rw [← List.contains_iff_mem] at hm; rw [hm] at this; cases this
     · rw [hb] at h11; cases h11.2
   · exact tab_mem h11
theorem any_tail3 {P : Program} {Q : Exit → Act → World → Prop} {m : Nat} {ops : List Oper} (hat : ∀ (i : Nat) (o : Oper), ops[i]? = some o → (∀ j ∈ bindsOn o, j < i ∨ (i < m ∧ j < m ∧ j ≠ i)) ∧ (m ≤ i → ∀ j, j < i → Anc ops j i)) : ∀ (fuel j : Nat) (listed : Array Bool) (a : Act) (w : World), m ≤ j → j ≤ ops.length → listed.size = ops.length → ops.length ≤ fuel + j →
 (∀ i, listed.getD i false = true ↔ i < j) → wpList P ops.toArray Q (ops.drop j) a w → wpAny P .any ops.toArray Q fuel listed a w := by
 have hready : ∀ (j : Nat) (listed : Array Bool), m ≤ j → listed.size = ops.length → (∀ i, listed.getD i false = true ↔ i < j) → ∀ i, i ∈ Region.ready .any ops.toArray listed → i = j := by
  intro j listed hmj hs hD i hi
  obtain ⟨o, ho, h1, h2⟩ := mem_ready.1 hi
  have h3 := (getD_flip.1 h1).2
  rw [hD] at h3
  rcases Nat.lt_or_ge j i with hlt | hge
  · have ho2 : ops[i]? = some o := by rw [List.getElem?_toArray] at ho; exact ho
    have h4 := (hat i o ho2).2 (by omega) j hlt
    have h5 : listed.getD j false = true := anc_done (D := fun x => listed.getD x false = true) (fun x ox hox hx y hy => by
     rw [hD] at hx ⊢
     have := (hat x ox hox).1 y hy; omega) h4 (fun o' ho' x hx => by rw [ho2] at ho'; cases ho'; exact h2 x hx)
    rw [hD] at h5; omega
  · omega
 intro fuel
 induction fuel with
 | zero =>
  intro j listed a w hmj hj hs hf hD h
  have hje : j = ops.length := by omega
  refine ⟨List.eq_nil_iff_forall_not_mem.2 fun i hi => ?_, ?_⟩
  · have := hready j listed hmj hs hD i hi
    obtain ⟨o, ho, _⟩ := mem_ready.1 hi
    have := (Array.getElem?_eq_some_iff.1 ho).1
    simp at this; omega
  · rw [hje, List.drop_length] at h; exact h
 | succ fuel ih =>
  intro j listed a w hmj hj hs hf hD h
  rcases Nat.lt_or_ge j ops.length with hlt | hge
  · have ho : ops[j]? = some ops[j] := List.getElem?_eq_getElem hlt
    have hr : j ∈ Region.ready .any ops.toArray listed := mem_ready.2 ⟨ops[j], by rw [List.getElem?_toArray]; exact ho, getD_flip.2 ⟨by omega, by rw [hD]; omega⟩, fun i hi => (hD i).2 (by have := (hat j _ ho).1 i hi; omega)⟩
    refine ⟨fun hn => (by rw [hn] at hr; cases hr), fun i hi => ?_⟩
    have hij := hready j listed hmj hs hD i hi
    subst hij
    rw [List.drop_eq_getElem_cons hlt] at h
    have hnext : ∀ a w, wpList P ops.toArray Q (ops.drop (i + 1)) a w → wpAny P .any ops.toArray Q fuel (listed.setIfInBounds i true) a w := fun a w h' =>
     ih (i + 1) _ a w (by omega) (by omega) (by simpa using hs) (by omega) (fun x => by rw [getD_set (by omega), hD]; omega) h'
    unfold wpOp
    rw [show (ops.toArray)[i]? = some ops[i] from by rw [List.getElem?_toArray]; exact ho]
    unfold wpList at h
    simp only
    by_cases hw : Region.wanted ops[i] (yielded ops.toArray a.tmps) = true
    · rw [if_pos hw] at h ⊢; exact h.imp (Oper.wp_mono hnext) id
    · rw [if_neg hw] at h ⊢; exact hnext _ _ h
  · have hje : j = ops.length := by omega
    rw [hje, List.drop_length] at h
    refine ⟨fun _ => h, fun i hi => ?_⟩
    have := hready j listed hmj hs hD i hi
    obtain ⟨o, ho, _⟩ := mem_ready.1 hi
    have := (Array.getElem?_eq_some_iff.1 ho).1
    simp at this; omega
theorem InvE.norm2 {P : Program} {C : Cx} {hc : List En} {K : Fr → List En → Prop} {ops : List Oper} {ord : List (Nat × Bool)} {m : Nat} {a0 : Act} {D : Nat → Prop} {a : Act} {w : World} (ck : ChkE2 m ops ord) (hfit : fitAll C.n ops = true) :
 ∀ (z k : Nat) (vs : List Value) (F : Fr) (hp : List En), m - k ≤ z → InvE P C ops.toArray hc K ops ord m a0 D a w k vs F hp → ∃ k vs F hp, InvE P C ops.toArray hc K ops ord m a0 D a w k vs F hp ∧ ∀ i, ord[k]? ≠ some (i, false) := by
 intro z
 induction z with
 | zero =>
  intro k vs F hp hz h
  refine ⟨k, vs, F, hp, h, fun i hi => ?_⟩
  have := (List.getElem?_eq_some_iff.1 hi).1
  have := ck.len; have := h.km; omega
 | succ z ih =>
  intro k vs F hp hz h
  by_cases hn : ∃ i, ord[k]? = some (i, false)
  · obtain ⟨i, hi⟩ := hn
    have hkm : k < m := by have := (List.getElem?_eq_some_iff.1 hi).1; have := ck.len; omega
    have him := ck.flt _ (List.mem_of_getElem? hi)
    have ho : ops[i]? = some (ops[i]'(by have := ck.mle; simp only at him; omega)) := List.getElem?_eq_getElem _
    have hltl : ∀ x ∈ ord, x.1 < ops.length := fun x hx => Nat.lt_of_lt_of_le (ck.flt x hx) ck.mle
    have hL := pickO_get ops ord k i false _ hltl hi ho
    have hlk : ((pickO ops ord).map (·.2))[k]? = some (ops[i]'(by have := ck.mle; simp only at him; omega)) := by rw [List.getElem?_map, hL]; rfl
    have hlen := (List.getElem?_eq_some_iff.1 hL).1
    have hH := h.H
    rw [List.drop_eq_getElem_cons hlen, (List.getElem?_eq_some_iff.1 hL).2] at hH
    obtain ⟨v, hv, hH⟩ := hH
    have hvk : (vs.set k v)[k]? = some v := by rw [List.getElem?_set_self]; have := h.len; omega
    refine ih (k + 1) (vs.set k v) _ hp (by omega) ⟨by omega, by rw [List.length_set]; exact h.len, fun p i b hp' hd => by have := h.A p i b hp' hd; omega, fun p j hp' hlt => ?_, ?_, h.hpk, h.sub, ?_, fun p j o u hlt hp' hoj hu => ?_, hH⟩
    · rcases Nat.lt_or_ge p k with hlt' | hge
      · exact h.B p j hp' hlt'
      · have : p = k := by omega
        subst this; rw [hi] at hp'; cases hp'
    · exact h.done.set k v fun ⟨j, b, hj, hd⟩ => by have := h.A k j b hj hd; omega
    · rw [actAll_take a0 _ _ k _ v hlk hvk, actAll_set a0 _ vs k v k (Nat.le_refl _)]
      exact h.frk.put (fitAll_get hfit ho) v
    · rcases Nat.lt_or_ge p k with hlt' | hge
      · rw [actAll_set a0 _ vs k v p (by omega)]
        rw [List.getElem?_set_ne (by omega)] at hu
        exact h.G p j o u hlt' hp' hoj hu
      · have : p = k := by omega
        subst this
        rw [hi] at hp'; cases hp'
        rw [ho] at hoj; cases hoj
        rw [hvk] at hu; cases hu
        rw [actAll_set a0 _ vs p v p (Nat.le_refl _)]
        exact rd_of hv h.frk
  · exact ⟨k, vs, F, hp, h, fun i hi => hn ⟨i, hi⟩⟩
def SyA (P : Program) (C : Cx) (k : List It) (fr : Fr) (hp : List En) (ops : List Oper) : Prop :=
 ∀ a w, FrOk C.n fr a → HpOk C.D C.w0 hp w → wpAny P .any ops.toArray (After P C.Q k) ops.length (Array.replicate ops.length false) a { w with drawn := w.drawn + 1 }
section
variable {P : Program} {C : Cx} {k : List It} {fr : Fr} {hp : List En}
theorem any_drawE [hmx : MX P] {ops : List Oper} (hc : List En) (m : Nat) (ord : List (Nat × Bool)) (hck : chkE2 m ops ord = true) (hfit : fitAll C.n ops = true) (hsub : hc.Sublist hp)
 (h : DrE P C ops.toArray hc (fun F hp => Sy P C (.o ops.toArray (ops.drop m) :: k) F hp) (pickO ops ord) fr hp) : SyA P C k fr hp ops := by
 intro a w ha hw
 have ck := chkE2_facts hck
 have hat := ck.fo
 have hltl : ∀ x ∈ ord, x.1 < ops.length := fun x hx => Nat.lt_of_lt_of_le (ck.flt x hx) ck.mle
 have hll : ((pickO ops ord).map (·.2)).length = m := by rw [List.length_map, pickO_len ops ord hltl, ck.len]
 have view : ∀ p, p < m → ∃ i b o, ord[p]? = some (i, b) ∧ ops[i]? = some o ∧ (pickO ops ord)[p]? = some (b, o) ∧ ((pickO ops ord).map (·.2))[p]? = some o ∧ i < m := fun p hp => by
  have hx : ord[p]? = some (ord[p]'(by rw [ck.len]; exact hp)) := List.getElem?_eq_getElem _
  rcases hib : (ord[p]'(by rw [ck.len]; exact hp)) with ⟨i, b⟩
  rw [hib] at hx
  have him := ck.flt _ (List.mem_of_getElem? hx)
  have ho : ops[i]? = some (ops[i]'(by have := ck.mle; simp only at him; omega)) := List.getElem?_eq_getElem _
  have hL := pickO_get ops ord p i b _ hltl hx ho
  exact ⟨i, b, _, hx, ho, hL, by rw [List.getElem?_map, hL]; rfl, him⟩
 have viewl : ∀ p o, ((pickO ops ord).map (·.2))[p]? = some o → ∃ i b, p < m ∧ ord[p]? = some (i, b) ∧ ops[i]? = some o := fun p o hp => by
  have hpm : p < m := by rw [← hll]; exact (List.getElem?_eq_some_iff.1 hp).1
  obtain ⟨i, b, o', h1, h2, _, h4, _⟩ := view p hpm
  rw [h4] at hp; cases hp
  exact ⟨i, b, hpm, h1, h2⟩
 have inj : ∀ p q i b b', ord[p]? = some (i, b) → ord[q]? = some (i, b') → p = q := fun p q i b b' h1 h2 => by
  have him := ck.flt _ (List.mem_of_getElem? h1)
  have ho : ops[i]? = some (ops[i]'(by have := ck.mle; simp only at him; omega)) := List.getElem?_eq_getElem _
  rcases Nat.lt_trichotomy p q with hlt | he | hlt
  · exact absurd rfl (ck.pw p q i i b b' _ _ hlt h1 h2 ho ho).1
  · exact he
  · exact absurd rfl (ck.pw q p i i b' b _ _ hlt h2 h1 ho ho).1
 have hdist : ∀ (p : Nat) (o : Oper) (q : Nat) (oj : Oper) (t : Nat), ((pickO ops ord).map (·.2))[p]? = some o → ((pickO ops ord).map (·.2))[q]? = some oj → q ≠ p → oj.dst = some t → o.dst ≠ some t := fun p o q oj t hp hq hne ht => by
  obtain ⟨i, b, _, h1, h2⟩ := viewl p o hp
  obtain ⟨j, b', _, h3, h4⟩ := viewl q oj hq
  rcases Nat.lt_or_ge p q with hlt | hge
  · exact fun e => (ck.pw p q i j b b' o oj hlt h1 h3 h2 h4).2.1 t e ht
  · exact (ck.pw q p j i b' b oj o (by omega) h3 h1 h4 h2).2.1 t ht
 have hfl : ∀ (p : Nat) (o : Oper), ((pickO ops ord).map (·.2))[p]? = some o → Fits C.n o.dst := fun p o hp => by
  obtain ⟨i, b, _, _, h2⟩ := viewl p o hp
  exact fitAll_get hfit h2
 have key : ∀ (fuel : Nat) (listed : Array Bool) (a' : Act) (w' : World), listed.size = ops.length → cnt ops.length listed ≤ fuel → (∀ i, listed.getD i false = true → i < m) →
  (∀ i o, ops[i]? = some o → listed.getD i false = true → ∀ j ∈ bindsOn o, listed.getD j false = true) →
  (∃ k' vs F hp, InvE P C ops.toArray hc (fun F hp => Sy P C (.o ops.toArray (ops.drop m) :: k) F hp) ops ord m a (fun i => listed.getD i false = true) a' w' k' vs F hp) →
  wpAny P .any ops.toArray (After P C.Q k) fuel listed a' w' := by
  intro fuel
  have tail : ∀ (fuel : Nat) (listed : Array Bool) (a' : Act) (w' : World), listed.size = ops.length → cnt ops.length listed ≤ fuel → (∀ i, listed.getD i false = true → i < m) →
   (∃ k' vs F hp, InvE P C ops.toArray hc (fun F hp => Sy P C (.o ops.toArray (ops.drop m) :: k) F hp) ops ord m a (fun i => listed.getD i false = true) a' w' k' vs F hp) →
   (∀ i, i < m → listed.getD i false = true) → wpAny P .any ops.toArray (After P C.Q k) fuel listed a' w' := by
   intro fuel listed a' w' hs hcnt hD ⟨k', vs, F, hp', hI⟩ hall
   have hkm : k' = m := by
    rcases Nat.lt_or_ge k' m with hlt | hge
    · obtain ⟨i, b, o, h1, _, _, _, h5⟩ := view k' hlt
      have := hI.A k' i b h1 (hall i h5); omega
    · have := hI.km; omega
   refine any_tail3 (m := m) (fun i o ho => ⟨(hat i o ho).1, (hat i o ho).2.2⟩) fuel m listed a' w' (Nat.le_refl _) ck.mle hs ?_ (fun i => ⟨hD i, hall i⟩) ?_
   · have hsub : (List.range ops.length).drop m = (List.range ops.length).filter fun i => !listed.getD i false := by
      have e := List.take_append_drop m (List.range ops.length)
      have h1 : ((List.range ops.length).take m).filter (fun i => !listed.getD i false) = [] := by
       rw [List.filter_eq_nil_iff]; intro x hx
       rw [List.take_range] at hx
       have := List.mem_range.1 hx
       simp [hall x (by omega)]
      have h2 : ((List.range ops.length).drop m).filter (fun i => !listed.getD i false) = (List.range ops.length).drop m := by
       rw [List.filter_eq_self]; intro x hx
       obtain ⟨y, hy, rfl⟩ := List.mem_drop_iff_getElem.1 hx
       have hge : ¬ listed.getD ((List.range ops.length)[y + m]) false = true := fun hh => by have := hD _ hh; simp at this; omega
       rw [Bool.not_eq_true'] ; cases hq : listed.getD ((List.range ops.length)[y + m]) false with
       | false => simpa [Nat.add_comm] using hq
       | true => exact absurd hq hge
      conv => rhs; rw [← e, List.filter_append, h1, h2, List.nil_append]
     have := congrArg List.length hsub
     simp only [List.length_drop, List.length_range] at this
     unfold cnt at hcnt
     omega
   · have hH := hI.H
     have hd0 : (pickO ops ord).drop m = [] := List.drop_of_length_le (by rw [pickO_len ops ord hltl, ck.len]; exact Nat.le_refl _)
     rw [hkm, hd0] at hH
     have hH : Sy P C (.o ops.toArray (ops.drop m) :: k) F hp' := hH
     have hF := hI.frk
     have hb := actAll_done (n := C.n) (l := (pickO ops ord).map (·.2)) (vs := vs) ha.defers ha.size (by rw [hI.len, hll]) hfl hdist k' (by rw [hll]; exact hI.km)
     have hslot : FrOk C.n F a' := by
      refine ⟨hI.done.defers, hI.done.size, fun t v ht => ?_⟩
      rw [← hF.slot t v ht]
      simp only [Array.getD_eq_getD_getElem?]
      congr 1
      by_cases hex : ∃ (j : Nat) (o : Oper), ((pickO ops ord).map (·.2))[j]? = some o ∧ o.dst = some t
      · obtain ⟨j, o, ho, hd⟩ := hex
        obtain ⟨i, b, hjm, h1, h2⟩ := viewl j o ho
        have hv' : vs[j]? = some (vs[j]'(by rw [hI.len]; exact hjm)) := List.getElem?_eq_getElem _
        rw [hI.done.yes j o _ t ho hv' ⟨i, b, h1, hall i (ck.flt _ (List.mem_of_getElem? h1))⟩ hd, hb.yes j o _ t ho hv' (by omega) hd]
      · rw [hI.done.no t fun j o ho _ hd => hex ⟨j, o, ho, hd⟩, hb.no t fun j o ho _ hd => hex ⟨j, o, ho, hd⟩]
     exact hH.go a' w' hslot hI.hpk
  induction fuel with
  | zero =>
   intro listed a' w' hs hcnt hD hdc hI
   have hall := cnt_zero (n := ops.length) (l := listed) (by omega)
   exact tail 0 listed a' w' hs hcnt hD hI (fun i hi => hall i (Nat.lt_of_lt_of_le hi ck.mle))
  | succ fuel ih =>
   intro listed a' w' hs hcnt hD hdc hI
   by_cases hall : ∀ i, i < m → listed.getD i false = true
   · exact tail (fuel + 1) listed a' w' hs hcnt hD hI hall
   · have hex : ∃ i, i < m ∧ ¬ listed.getD i false = true := Classical.byContradiction fun hn => hall fun i hi => Classical.byContradiction fun hh => hn ⟨i, hi, hh⟩
     obtain ⟨k0, vs0, F0, hp0, hI0⟩ := hI
     obtain ⟨k', vs, F, hp', hI, hnx⟩ := hI0.norm2 ck hfit m k0 vs0 F0 hp0 (by omega)
     constructor
     · intro hn
       exfalso
       obtain ⟨i0, hi0⟩ := hex
       obtain ⟨p0, b0, hp0⟩ := ck.cov i0 hi0.1
       obtain ⟨p, ⟨i, b, hpi, him, hin⟩, hmin⟩ := least (p := fun p => ∃ i b, ord[p]? = some (i, b) ∧ i < m ∧ ¬ listed.getD i false = true) p0 ⟨i0, b0, hp0, hi0.1, hi0.2⟩
       have hmo := ck.mle
       have ho : ops[i]? = some (ops[i]'(by omega)) := List.getElem?_eq_getElem _
       have : i ∈ Region.ready .any ops.toArray listed := mem_ready.2 ⟨_, by rw [List.getElem?_toArray]; exact ho, getD_flip.2 ⟨by omega, hin⟩, fun j hj => by
        have hji := (hat i _ ho).1 j hj
        have hjm : j < m := by omega
        obtain ⟨q, c, hqj⟩ := ck.cov j hjm
        have hoj : ops[j]? = some (ops[j]'(by omega)) := List.getElem?_eq_getElem _
        refine Classical.byContradiction fun hh => ?_
        have hle := hmin q ⟨j, c, hqj, hjm, hh⟩
        rcases Nat.lt_or_ge p q with hlt | hge
        · exact (ck.pw p q i j b c _ _ hlt hpi hqj ho hoj).2.2.1 hj
        · have : p = q := by omega
          subst this; rw [hpi] at hqj; cases hqj; omega⟩
       rw [hn] at this; cases this
     · intro i hi
       obtain ⟨o, ho', h1, h2⟩ := mem_ready.1 hi
       have ho : ops[i]? = some o := by rw [List.getElem?_toArray] at ho'; exact ho'
       have hni := (getD_flip.1 h1).2
       have hilen := (getD_flip.1 h1).1
       have hancD : ∀ {j : Nat}, Anc ops j i → listed.getD j false = true := fun hj => anc_done (D := fun x => listed.getD x false = true) hdc hj (fun o' ho' x hx => by rw [ho] at ho'; cases ho'; exact h2 x hx)
       have him : i < m := Nat.lt_of_not_le fun hge => hall fun j hj => hancD ((hat i o ho).2.2 hge j (by omega))
       obtain ⟨p, b, hpi⟩ := ck.cov i him
       have hpm : p < m := by rw [← ck.len]; exact (List.getElem?_eq_some_iff.1 hpi).1
       obtain ⟨i', b', o', hp1, hp2, hp3, hp4, _⟩ := view p hpm
       rw [hpi] at hp1; cases hp1
       rw [ho] at hp2; cases hp2
       have hpk : p < k' ∨ p = k' := by
        rcases Nat.lt_or_ge p k' with hlt | hge
        · exact .inl hlt
        · right
          rcases Nat.lt_or_ge k' p with hlt | hge'
          · exfalso
            obtain ⟨j, bj, oj, hj1, hj2, _, _, _⟩ := view k' (by omega)
            cases bj with
            | false => exact hnx j hj1
            | true =>
             have hanc := (ck.pw k' p j i true b oj o hlt hj1 hpi hj2 ho).2.2.2 (.inr (.inr rfl))
             have := hI.A k' j true hj1 (hancD hanc); omega
          · omega
       have hpk' : p ≤ k' := by omega
       have hb := actAll_done (n := C.n) (l := (pickO ops ord).map (·.2)) (vs := vs) ha.defers ha.size (by rw [hI.len, hll]) hfl hdist p (by rw [hll]; omega)
       have hsame : ∀ t, t ∈ readsOf ops o → a'.tmps[t]? = (actAll a (((pickO ops ord).map (·.2)).take p) (vs.take p)).tmps[t]? := by
        intro t ht
        by_cases hw : ∃ (q : Nat) (oj : Oper), ((pickO ops ord).map (·.2))[q]? = some oj ∧ oj.dst = some t
        · obtain ⟨q, oj, hoj, hd⟩ := hw
          obtain ⟨j, bj, hqm, hqj, hoj'⟩ := viewl q oj hoj
          have hvq : vs[q]? = some (vs[q]'(by rw [hI.len]; exact hqm)) := List.getElem?_eq_getElem _
          have uniq : ∀ q' oj', ((pickO ops ord).map (·.2))[q']? = some oj' → oj'.dst = some t → q' = q := fun q' oj' h' hd' => Classical.byContradiction fun hne => hdist q oj q' oj' t hoj h' hne hd' hd
          have notdone : ¬ listed.getD j false = true → ∀ (q' : Nat) (o' : Oper), ((pickO ops ord).map (·.2))[q']? = some o' → (∃ i b, ord[q']? = some (i, b) ∧ listed.getD i false = true) → o'.dst ≠ some t := fun hnd q' o' ho' ⟨i2, b2, hi2, hd2⟩ hd' => by
           have := uniq q' o' ho' hd'; subst this
           rw [hqj] at hi2; cases hi2; exact hnd hd2
          rcases Nat.lt_trichotomy q p with hlt | he | hlt
          · have hanc := (ck.pw q p j i bj b oj o hlt hqj hpi hoj' ho).2.2.2 (.inl ⟨t, hd, ht⟩)
            rw [hI.done.yes q oj _ t hoj hvq ⟨j, bj, hqj, hancD hanc⟩ hd, hb.yes q oj _ t hoj hvq hlt hd]
          · subst he
            rw [hpi] at hqj; cases hqj
            rw [hI.done.no t (notdone hni), hb.no t fun q' o' ho' hlt hd' => by have := uniq q' o' ho' hd'; omega]
          · have hanc := (ck.pw p q i j b bj o oj hlt hpi hqj ho hoj').2.2.2 (.inr (.inl ⟨t, hd, ht⟩))
            have hnd : ¬ listed.getD j false = true := fun hdj => hni (anc_done (D := fun x => listed.getD x false = true) hdc hanc (fun o'' ho'' x hx => hdc j o'' ho'' hdj x hx))
            rw [hI.done.no t (notdone hnd), hb.no t fun q' o' ho' hlt' hd' => by have := uniq q' o' ho' hd'; omega]
        · rw [hI.done.no t fun j o ho _ hd => hw ⟨j, o, ho, hd⟩, hb.no t fun j o ho _ hd => hw ⟨j, o, ho, hd⟩]
       have hexec : execOp a'.eval o = execOp (actAll a (((pickO ops ord).map (·.2)).take p) (vs.take p)).eval o := by
        refine execOp_congr o (fun cs b e => by have := (hat i o ho).2.1; rw [e] at this; cases this) fun x hx => ?_
        cases x with
        | tmp t =>
         have := hsame t (List.mem_append.2 (.inl (List.mem_filterMap.2 ⟨.tmp t, Array.mem_toList_iff.2 hx, rfl⟩)))
         simp only [Act.eval, Array.getD_eq_getD_getElem?, this]
        | _ => rfl
       have hwant : Region.wanted o (yielded ops.toArray a'.tmps) = Region.wanted o (yielded ops.toArray (actAll a (((pickO ops ord).map (·.2)).take p) (vs.take p)).tmps) := by
        cases hg : o.guard with
        | none => simp only [Region.wanted, hg]
        | some g =>
         simp only [Region.wanted, hg, yielded, List.getElem?_toArray]
         cases hd : (ops[g.1]?).bind (·.dst) with
         | none => rfl
         | some t =>
          have := hsame t (List.mem_append.2 (.inr (by simp [guardSlot, hg, hd])))
          simp only [Option.bind_some, this]
       have hDset : ∀ x, (∃ i2 b2, ord[x]? = some (i2, b2) ∧ (listed.setIfInBounds i true).getD i2 false = true) ↔ ((∃ i2 b2, ord[x]? = some (i2, b2) ∧ listed.getD i2 false = true) ∨ x = p) := fun x => by
        constructor
        · rintro ⟨i2, b2, hi2, hd2⟩
          rcases (getD_set hilen).1 hd2 with hd2 | rfl
          · exact .inl ⟨i2, b2, hi2, hd2⟩
          · exact .inr (inj _ _ _ _ _ hi2 hpi)
        · rintro (⟨i2, b2, hi2, hd2⟩ | rfl)
          · exact ⟨i2, b2, hi2, (getD_set hilen).2 (.inl hd2)⟩
          · exact ⟨i, b, hpi, (getD_set hilen).2 (.inr rfl)⟩
       have hnext : ∀ (v : Value) (w'' : World) (k'' : Nat) (vs'' : List Value) (F'' : Fr) (hp'' : List En), InvE P C ops.toArray hc (fun F hp => Sy P C (.o ops.toArray (ops.drop m) :: k) F hp) ops ord m a (fun x => (listed.setIfInBounds i true).getD x false = true) (a'.put o.dst v) w'' k'' vs'' F'' hp'' →
        wpAny P .any ops.toArray (After P C.Q k) fuel (listed.setIfInBounds i true) (a'.put o.dst v) w'' := fun v w'' k'' vs'' F'' hp'' hI'' => by
        refine ih _ _ w'' (by simpa using hs) ?_ ?_ ?_ ⟨k'', vs'', F'', hp'', hI''⟩
        · have := cnt_set (n := ops.length) (by have := ck.mle; omega) hilen hni; omega
        · intro j hj; rcases (getD_set hilen).1 hj with hj | rfl
          · exact hD j hj
          · exact him
        · intro j oj hoj hj x hx
          rw [getD_set hilen]
          rcases (getD_set hilen).1 hj with hj | rfl
          · exact .inl (hdc j oj hoj hj x hx)
          · rw [ho] at hoj; cases hoj; exact .inl (h2 x hx)
       unfold wpOp
       rw [ho']
       simp only
       cases b with
       | false =>
        have hlt : p < k' := by
         rcases hpk with h | h
         · exact h
         · exact absurd (by rw [← h]; exact hpi) (hnx i)
        have hvp : vs[p]? = some (vs[p]'(by rw [hI.len]; exact hpm)) := List.getElem?_eq_getElem _
        have hst := hI.G p i o _ hlt hpi ho hvp hp' w' hI.sub hI.hpk
        rw [← hexec, ← hwant] at hst
        have hgo : ∀ w'', HpOk C.D C.w0 hp' w'' → wpAny P .any ops.toArray (After P C.Q k) fuel (listed.setIfInBounds i true) (a'.put o.dst (vs[p]'(by rw [hI.len]; exact hpm))) w'' := fun w'' hw'' =>
         hnext _ w'' k' vs F hp' ⟨hI.km, hI.len, fun q j c hq hd => by
          rcases (getD_set hilen).1 hd with hd | rfl
          · exact hI.A q j c hq hd
          · have := inj _ _ _ _ _ hq hpi; omega,
          fun q j hq hlt' => (getD_set hilen).2 (.inl (hI.B q j hq hlt')),
          hI.done.step hp4 hvp (hfl p o hp4) (fun q oj t hq hne hd => hdist p o q oj t hp4 hq hne hd) hDset, hw'', hI.sub, hI.frk, hI.G, hI.H⟩
        rcases hst with ⟨hwt, hfin⟩ | ⟨hwt, hun⟩
        · rw [if_pos hwt]
          left
          unfold Oper.wp
          cases hr : (execOp a'.eval o).run P w' with
          | halt _ _ => rw [hr] at hfin; exact hfin.elim
          | ok nx w1 =>
           rw [hr] at hfin
           cases nx with
           | value u => obtain ⟨rfl, hw1⟩ := hfin; exact hgo w1 hw1
           | enter f args =>
            have hfin : Calls P f args w1 fun e w'' => e = .returned (vs[p]'(by rw [hI.len]; exact hpm)) ∧ HpOk C.D C.w0 hp' w'' := hfin
            refine hfin.mono fun e w'' he => ?_
            obtain ⟨rfl, hw''⟩ := he
            exact hgo w'' hw''
           | _ => exact hfin.elim
        · rw [if_neg (by rw [hwt]; simp), ← hun]
          exact hgo w' hI.hpk
       | true =>
        have hpe : p = k' := by
         rcases hpk with h | h
         · exact absurd (hI.B p i hpi h) hni
         · exact h
        subst hpe
        have hH := hI.H
        have hlenL := (List.getElem?_eq_some_iff.1 hp3).1
        rw [List.drop_eq_getElem_cons hlenL, (List.getElem?_eq_some_iff.1 hp3).2] at hH
        obtain ⟨hwt, hef⟩ := hH _ w' hI.frk hI.hpk
        rw [← hwant] at hwt
        unfold Eff at hef
        rw [← hexec] at hef
        rw [if_pos hwt]
        left
        have hgo : ∀ (u : Value) (w'' : World), (∃ hp'', HpOk C.D C.w0 hp'' w'' ∧ hc.Sublist hp'' ∧ DrE P C ops.toArray hc (fun F hp => Sy P C (.o ops.toArray (ops.drop m) :: k) F hp) ((pickO ops ord).drop (p + 1)) (put o.dst u F) hp'') →
         wpAny P .any ops.toArray (After P C.Q k) fuel (listed.setIfInBounds i true) (a'.put o.dst u) w'' := fun u w'' ⟨hp'', hw'', hs'', hd''⟩ => by
         have hvk : (vs.set p u)[p]? = some u := by rw [List.getElem?_set_self]; rw [hI.len]; exact hpm
         refine hnext u w'' (p + 1) (vs.set p u) (put o.dst u F) hp'' ⟨by omega, by rw [List.length_set]; exact hI.len, fun q j c hq hd => ?_, fun q j hq hlt' => ?_, ?_, hw'', hs'', ?_, fun q j oj v hlt' hq hoj hv => ?_, hd''⟩
         · rcases (getD_set hilen).1 hd with hd | rfl
           · have := hI.A q j c hq hd; omega
           · have := inj _ _ _ _ _ hq hpi; omega
         · rcases Nat.lt_or_ge q p with hlt2 | hge
           · exact (getD_set hilen).2 (.inl (hI.B q j hq hlt2))
           · have : q = p := by omega
             subst this; rw [hpi] at hq; cases hq; exact (getD_set hilen).2 (.inr rfl)
         · exact (hI.done.set p u fun ⟨j, c, hj, hd⟩ => by have := hI.A p j c hj hd; omega).step hp4 hvk (hfl p o hp4) (fun q oj t hq hne hd => hdist p o q oj t hp4 hq hne hd) hDset
         · rw [actAll_take a _ _ p _ u hp4 hvk, actAll_set a _ vs p u p (Nat.le_refl _)]
           exact hI.frk.put (hfl p o hp4) u
         · have hqp : q < p := by
            rcases Nat.lt_or_ge q p with h | h
            · exact h
            · have : q = p := by omega
              subst this; rw [hpi] at hq; cases hq
           rw [actAll_set a _ vs p u q (by omega)]
           rw [List.getElem?_set_ne (by omega)] at hv
           exact hI.G q j oj v hqp hq hoj hv
        unfold Oper.wp
        cases hr : (execOp a'.eval o).run P w' with
        | halt _ _ => rw [hr] at hef; exact hef.elim
        | ok nx w1 =>
         rw [hr] at hef
         cases nx with
         | value u => exact hgo u w1 hef
         | skip => exact hgo undef w1 hef
         | enter f args =>
          refine Calls.mono hef fun e w'' he => ?_
          obtain ⟨u, rfl, hu⟩ := he
          exact hgo u w'' hu
         | row r args => exact Rows.mono hef fun u w'' hu => hgo u w'' hu
         | _ => exact hef.elim
 refine key ops.length (Array.replicate ops.length false) a _ (by simp) ?_ ?_ ?_ ⟨0, List.replicate m undef, fr, hp, Nat.zero_le _, by simp, ?_, ?_, ?_, hw.draw, hsub, by simpa [actAll] using ha, ?_, by simpa using h⟩
 · unfold cnt; exact Nat.le_trans (List.length_filter_le _ _) (by simp)
 · intro i hi; simp [Array.getD_eq_getD_getElem?, Array.getElem?_replicate] at hi; split at hi <;> simp at hi
 · intro i o _ hi; simp [Array.getD_eq_getD_getElem?, Array.getElem?_replicate] at hi; split at hi <;> simp at hi
 · intro p i b _ hi; simp [Array.getD_eq_getD_getElem?, Array.getElem?_replicate] at hi; split at hi <;> simp at hi
 · intro p i _ hp; omega
 · exact ⟨ha.defers, ha.size, fun j o v t _ _ ⟨i, b, _, hj⟩ => by simp [Array.getD_eq_getD_getElem?, Array.getElem?_replicate] at hj; split at hj <;> simp at hj, fun t _ => rfl⟩
 · intro p i o v hp; omega
end
def edged (o : Oper) (i : Nat) : Oper := { o with after := o.after.push ⟨i, .data⟩ }
def addE : List Oper → Nat → Nat → List Oper
 | [], _, _ => []
 | o :: l, 0, i => edged o i :: l
 | o :: l, j + 1, i => o :: addE l j i
theorem addE_len (i : Nat) : ∀ (l : List Oper) (j : Nat), (addE l j i).length = l.length
 | [], _ => rfl
 | _ :: _, 0 => rfl
 | o :: l, j + 1 => by simp [addE, addE_len i l j]
theorem addE_get (i : Nat) : ∀ (l : List Oper) (j x : Nat), (addE l j i)[x]? = if x = j then l[x]?.map (edged · i) else l[x]?
 | [], j, x => by simp [addE]
 | o :: l, 0, 0 => rfl
 | o :: l, 0, x + 1 => by simp [addE]
 | o :: l, j + 1, 0 => by simp [addE]
 | o :: l, j + 1, x + 1 => by simp only [addE, List.getElem?_cons_succ, addE_get i l j x, Nat.add_right_cancel_iff]
theorem bindsOn_edged (o : Oper) (i : Nat) : bindsOn (edged o i) = bindsOn o ++ [i] := by
 simp [bindsOn, edged, Region.binds]
theorem yielded_addE (l : List Oper) (j i : Nat) (tmps : Array Value) : yielded (addE l j i).toArray tmps = yielded l.toArray tmps := by
 funext x
 have h : ((addE l j i).toArray[x]?).bind (·.dst) = (l.toArray[x]?).bind (·.dst) := by
  simp only [List.getElem?_toArray, addE_get]
  split
  · cases l[x]? <;> rfl
  · rfl
 unfold yielded
 rw [h]
theorem exec_edged (r : Operand → Value) (o : Oper) (i : Nat) : execOp r (edged o i) = execOp r o := by cases o; rfl
def plainO : Op → Bool
 | .move _ | .assign _ | .pick _ _ _ | .alloc _ | .box _ _ | .build _ _ | .load _ _ | .store _ _ _ | .binOp _ _ _ _ _ | .unOp _ _ _ | .convert _ _ _ | .slice _ _ _ _ _ | .fieldAddr _ _ _ | .field _ _ _ | .indexAddr _ _ _ | .index _ _ _ | .extract _ _ | .nilCheck _ => true
 | .call ⟨.builtin .len, _, _⟩ => true
 | _ => false
def Tame : Result Next → Prop
 | .ok (.value _) _ => True
 | .ok .skip _ => True
 | .ok _ _ => False
 | .halt _ _ => True
theorem tame_v (P : Program) (w : World) (s : Sem Value) : Tame (((do pure (.value (← s))) : Sem Next).run P w) := by
 simp only [Sem.run_bind]
 cases s.run P w <;> trivial
theorem tame_u (P : Program) (w : World) (s : Sem Unit) : Tame (((do s; pure .skip) : Sem Next).run P w) := by
 simp only [Sem.run_bind]
 cases s.run P w <;> trivial
theorem tame_b (P : Program) (w : World) (s : Sem Bool) (x y : Value) : Tame (((do pure (.value (if ← s then x else y))) : Sem Next).run P w) := by
 simp only [Sem.run_bind]
 cases s.run P w <;> trivial
theorem tame_nil (P : Program) (w : World) : Tame ((runtimePanic .nilDeref : Sem Next).run P w) := by
 simp [runtimePanic, goPanic, Tame]
theorem tame_bind {α : Type} (P : Program) (w : World) (s : Sem α) (f : α → Sem Next) (h : ∀ x w, Tame ((f x).run P w)) : Tame ((s >>= f).run P w) := by
 simp only [Sem.run_bind]
 cases s.run P w
 · exact h _ _
 · trivial
theorem tame_uns (P : Program) (w : World) (u : Unsupported) : Tame ((unsupported u : Sem Next).run P w) := trivial
theorem plain_tame {o : Oper} (h : plainO o.op = true) (r : Operand → Value) (P : Program) (w : World) : Tame ((execOp r o).run P w) := by
 obtain ⟨dst, op, ty, pos, aft, g⟩ := o
 cases op
 case call c =>
  obtain ⟨callee, args, ats⟩ := c
  cases callee with
  | builtin b =>
   cases b <;> first
    | (cases h; done)
    | (simp only [execOp, resolve, invoke, builtin, pure_bind]; exact tame_v P w _)
  | value f => cases h
  | invoke x n => cases h
 case nilCheck x =>
  simp only [execOp]
  repeat' first
   | exact tame_nil P w
   | exact tame_uns P w _
   | trivial
   | split
   | (refine tame_bind P _ _ _ (fun _ _ => ?_))
 all_goals first
  | (cases h; done)
  | (simp only [execOp]; first | exact tame_v P w _ | exact tame_u P w _ | exact tame_b P w _ _ _ | trivial)
section
variable {P : Program} {Q : Exit → Act → World → Prop}
theorem wp_and {o : Oper} {a : Act} {w : World} {K1 K2 : Act → World → Prop} (ht : Tame ((execOp a.eval o).run P w)) (h1 : o.wp P a w K1 Q) (h2 : o.wp P a w K2 Q) : o.wp P a w (fun a w => K1 a w ∧ K2 a w) Q := by
 unfold Oper.wp at *
 generalize (execOp a.eval o).run P w = r at *
 cases r with
 | ok n w' =>
  cases n <;> first
   | exact ht.elim
   | exact ⟨h1, h2⟩
 | halt x w' => cases x <;> exact h1
theorem wp_edged {o : Oper} {i : Nat} {a : Act} {w : World} {K : Act → World → Prop} (h : (edged o i).wp P a w K Q) : o.wp P a w K Q := by
 unfold Oper.wp at *
 rw [exec_edged] at h
 generalize (execOp a.eval o).run P w = r at *
 cases r with
 | ok n w' => cases n <;> exact h
 | halt x w' => cases x <;> exact h
theorem asks_edged {o : Oper} {i : Nat} {a : Act} {w : World} (h : (edged o i).asks P a w) : o.asks P a w := by cases o; exact h
theorem ready_addE {ops : List Oper} {i j x : Nat} {listed : Array Bool} (hi : listed.getD i false = true) : x ∈ Region.ready .any (addE ops j i).toArray listed ↔ x ∈ Region.ready .any ops.toArray listed := by
 rw [mem_ready, mem_ready]
 simp only [List.getElem?_toArray, addE_get]
 constructor
 · rintro ⟨o, ho, h1, h2⟩
   split at ho
   · obtain ⟨o', ho', rfl⟩ := Option.map_eq_some_iff.1 ho
     exact ⟨o', ho', h1, fun y hy => h2 y (by rw [bindsOn_edged]; exact List.mem_append_left _ hy)⟩
   · exact ⟨o, ho, h1, h2⟩
 · rintro ⟨o, ho, h1, h2⟩
   split
   · refine ⟨edged o i, by rw [ho]; rfl, h1, fun y hy => ?_⟩
     rw [bindsOn_edged] at hy
     rcases List.mem_append.1 hy with hy | hy
     · exact h2 y hy
     · rw [List.mem_singleton] at hy; rw [hy]; exact hi
   · exact ⟨o, ho, h1, h2⟩
theorem nil_iff {l l' : List Nat} (h : ∀ x, x ∈ l ↔ x ∈ l') (hl : l = []) : l' = [] :=
 List.eq_nil_iff_forall_not_mem.2 fun x hx => by rw [← h, hl] at hx; cases hx
theorem wpOp_addE {ops : List Oper} {i j x : Nat} {a : Act} {w : World} {K K' : Act → World → Prop} (hk : ∀ a w, K a w → K' a w) (h : wpOp P (addE ops j i).toArray Q x K a w) : wpOp P ops.toArray Q x K' a w := by
 unfold wpOp at *
 rw [yielded_addE] at h
 simp only [List.getElem?_toArray, addE_get] at h ⊢
 cases ho : ops[x]? with
 | none => rw [ho] at h; simp only [Option.map_none, ite_self] at h; exact hk _ _ h
 | some o =>
  rw [ho] at h
  by_cases hx : x = j
  · rw [if_pos hx] at h
    simp only [Option.map_some] at h ⊢
    have hw : Region.wanted (edged o i) (yielded ops.toArray a.tmps) = Region.wanted o (yielded ops.toArray a.tmps) := rfl
    rw [hw] at h
    split
    · rename_i hwt
      rw [if_pos hwt] at h
      exact h.imp (fun h => Oper.wp_mono hk (wp_edged h)) (fun h => ⟨asks_edged h.1, h.2⟩)
    · rename_i hwt
      rw [if_neg hwt] at h; exact hk _ _ h
  · rw [if_neg hx] at h
    simp only at h ⊢
    split
    · rename_i hwt
      rw [if_pos hwt] at h
      exact h.imp (Oper.wp_mono hk) id
    · rename_i hwt
      rw [if_neg hwt] at h; exact hk _ _ h
theorem any_listed {ops : List Oper} {i j : Nat} : ∀ (fuel : Nat) (listed : Array Bool) (a : Act) (w : World), listed.size = ops.length → listed.getD i false = true → wpAny P .any (addE ops j i).toArray Q fuel listed a w → wpAny P .any ops.toArray Q fuel listed a w := by
 intro fuel
 induction fuel with
 | zero => intro listed a w hs hi h; exact ⟨nil_iff (fun x => ready_addE hi) h.1, h.2⟩
 | succ fuel ih =>
  intro listed a w hs hi h
  refine ⟨fun hn => h.1 (nil_iff (fun x => (ready_addE hi).symm) hn), fun x hx => ?_⟩
  exact wpOp_addE (fun a w => ih _ a w (by simpa using hs) (by
   by_cases hxi : x = i
   · subst hxi
     obtain ⟨o, ho, _⟩ := mem_ready.1 hx
     have := (Array.getElem?_eq_some_iff.1 ho).1
     simp at this
     simp [Array.getD_eq_getD_getElem?, Array.getElem?_setIfInBounds, hs, this]
   · rw [Array.getD_eq_getD_getElem?] at hi ⊢
     rw [Array.getElem?_setIfInBounds_ne hxi]; exact hi)) (h.2 x ((ready_addE hi).2 hx))
def chkT (ops : List Oper) (i j : Nat) : Bool := !Nat.beq i j && (List.range ops.length).all fun x => Nat.beq x i || Nat.beq x j || match ops[x]? with
 | some o => plainO o.op || (bindsOn o).contains i || (bindsOn o).contains j
 | none => false
theorem wpOp_two {ops : List Oper} {i j x : Nat} {o : Oper} {a : Act} {w : World} {K1 K2 K' : Act → World → Prop} (hxi : x ≠ i) (hxj : x ≠ j) (ho : ops[x]? = some o) (hp : plainO o.op = true) (hk : ∀ a w, K1 a w → K2 a w → K' a w)
 (h1 : wpOp P (addE ops j i).toArray Q x K1 a w) (h2 : wpOp P (addE ops i j).toArray Q x K2 a w) : wpOp P ops.toArray Q x K' a w := by
 unfold wpOp at *
 rw [yielded_addE] at h1 h2
 simp only [List.getElem?_toArray, addE_get, ho, if_neg hxi, if_neg hxj] at h1 h2 ⊢
 split
 · rename_i hwt
   rw [if_pos hwt] at h1 h2
   rcases h1 with h1 | h1
   · rcases h2 with h2 | h2
     · exact .inl (Oper.wp_mono (fun a w h => hk a w h.1 h.2) (wp_and (plain_tame hp _ P w) h1 h2))
     · exact .inr h2
   · exact .inr h1
 · rename_i hwt
   rw [if_neg hwt] at h1 h2; exact hk _ _ h1 h2
theorem ready_un {ops : List Oper} {i j x : Nat} {listed : Array Bool} (hx : x ≠ j) (h : x ∈ Region.ready .any ops.toArray listed) : x ∈ Region.ready .any (addE ops j i).toArray listed := by
 rw [mem_ready] at h ⊢
 simp only [List.getElem?_toArray, addE_get, if_neg hx] at h ⊢
 exact h
theorem ready_sub {ops : List Oper} {i j x : Nat} {listed : Array Bool} (h : x ∈ Region.ready .any (addE ops j i).toArray listed) : x ∈ Region.ready .any ops.toArray listed := by
 rw [mem_ready] at h ⊢
 simp only [List.getElem?_toArray, addE_get] at h ⊢
 obtain ⟨o, ho, h1, h2⟩ := h
 split at ho
 · obtain ⟨o', ho', rfl⟩ := Option.map_eq_some_iff.1 ho
   exact ⟨o', ho', h1, fun y hy => h2 y (by rw [bindsOn_edged]; exact List.mem_append_left _ hy)⟩
 · exact ⟨o, ho, h1, h2⟩
theorem listed_set {listed : Array Bool} {x y : Nat} : (listed.setIfInBounds x true).getD y false = true ↔ (listed.getD y false = true ∨ (y = x ∧ x < listed.size)) := by
 by_cases h : x < listed.size
 · rw [getD_set h]
   constructor
   · rintro (h1 | h1)
     · exact .inl h1
     · exact .inr ⟨h1, h⟩
   · rintro (h1 | h1)
     · exact .inl h1
     · exact .inr h1.1
 · rw [Array.setIfInBounds_eq_of_size_le (by omega)]
   constructor
   · exact .inl
   · rintro (h1 | h1)
     · exact h1
     · exact absurd h1.2 h
theorem any_two {ops : List Oper} {i j : Nat} (hc : chkT ops i j = true) : ∀ (fuel : Nat) (listed : Array Bool) (a : Act) (w : World), listed.size = ops.length → ¬ listed.getD i false = true → ¬ listed.getD j false = true →
 wpAny P .any (addE ops j i).toArray Q fuel listed a w → wpAny P .any (addE ops i j).toArray Q fuel listed a w → wpAny P .any ops.toArray Q fuel listed a w := by
 unfold chkT at hc
 simp only [Bool.and_eq_true, Bool.not_eq_true'] at hc
 obtain ⟨hij, hall⟩ := hc
 have hij : i ≠ j := by intro e; rw [e] at hij; simp at hij
 intro fuel
 induction fuel with
 | zero =>
  intro listed a w hs hi hj h1 h2
  refine ⟨List.eq_nil_iff_forall_not_mem.2 fun x hx => ?_, h1.2⟩
  by_cases hxj : x = j
  · have := ready_un (ops := ops) (i := j) (j := i) (by omega) hx
    rw [h2.1] at this; cases this
  · have := ready_un (ops := ops) (i := i) (j := j) hxj hx
    rw [h1.1] at this; cases this
 | succ fuel ih =>
  intro listed a w hs hi hj h1 h2
  refine ⟨fun hn => h1.1 (List.eq_nil_iff_forall_not_mem.2 fun x hx => by have := ready_sub hx; rw [hn] at this; cases this), fun x hx => ?_⟩
  obtain ⟨o, ho, hl, hb⟩ := mem_ready.1 hx
  have hxl : x < listed.size := (getD_flip.1 hl).1
  by_cases hxi : x = i
  · subst hxi
    exact wpOp_addE (fun a w => any_listed fuel _ a w (by simpa using hs) (listed_set.2 (.inr ⟨rfl, hxl⟩))) (h1.2 x (ready_un hij hx))
  · by_cases hxj : x = j
    · subst hxj
      exact wpOp_addE (fun a w => any_listed fuel _ a w (by simpa using hs) (listed_set.2 (.inr ⟨rfl, hxl⟩))) (h2.2 x (ready_un (Ne.symm hij) hx))
    · have ho' : ops[x]? = some o := by rw [List.getElem?_toArray] at ho; exact ho
      have hp := List.all_eq_true.1 hall x (List.mem_range.2 (by omega))
      rw [ho'] at hp
      simp only [Bool.or_eq_true] at hp
      have hp : plainO o.op = true := by
       rcases hp with (hp | hp) | (hp | hp) | hp
       · exact absurd (Nat.eq_of_beq_eq_true hp) hxi
       · exact absurd (Nat.eq_of_beq_eq_true hp) hxj
       · exact hp
       · exact absurd (hb i (by simpa using hp)) hi
       · exact absurd (hb j (by simpa using hp)) hj
      refine wpOp_two hxi hxj ho' hp (fun a w => ih _ a w (by simpa using hs) ?_ ?_) (h1.2 x (ready_un hxj hx)) (h2.2 x (ready_un hxi hx))
      · rw [listed_set]; rintro (h | h)
        · exact hi h
        · exact hxi h.1.symm
      · rw [listed_set]; rintro (h | h)
        · exact hj h
        · exact hxj h.1.symm
end
theorem sy_two {P : Program} {C : Cx} {k : List It} {fr : Fr} {hp : List En} [hmx : MX P] {id : Nat} {ops : List Oper} (i j : Nat) (hc : chkT ops i j = true) (h1 : SyA P C k fr hp (addE ops j i)) (h2 : SyA P C k fr hp (addE ops i j)) : Sy P C (.c (.region id ops.toArray true) :: k) fr hp := by
 constructor
 intro a w ha hw
 show Code.wp P _ _ _ _
 refine wp_region_any hmx.h ?_
 have e : ∀ x, (Array.replicate ops.length false).getD x false = false := fun x => by
  simp only [Array.getD_eq_getD_getElem?, Array.getElem?_replicate]; split <;> rfl
 have g1 := h1 a w ha hw
 have g2 := h2 a w ha hw
 rw [addE_len] at g1 g2
 simp only [List.size_toArray]
 exact any_two hc _ _ _ _ (by simp) (by rw [e]; simp) (by rw [e]; simp) g1 g2
end Go.Proofs.Ytkaeihlpdceokaa