/- BSU: texts of this proof, joined by program: SyTail, Syn7, Syn8, Syn9, Syn10, Syn11. -/
import Derived.Test.YtldjakeigjngoaaGreatSyTwoQ
import Derived.Test.YtldjakeigjngoaaGreatBSS
import Derived.Test.YtldjakeigjngoaaGreatBRV
/- A symbolic walk: a drawn region, whose last three operations may stand in three orders. -/
set_option linter.unusedVariables false
set_option linter.unusedSimpArgs false
namespace Go.Proofs.YtldjakeigjngoaaGreat
open Go.RowKit
def chkO3 (m : Nat) (ops : List Oper) (T : List (List Nat)) (i : Nat) : Bool := match ops[i]? with
 | some o => (bindsOn o).all (fun j => Nat.blt j i || (Nat.blt i m && Nat.blt j m && (Nat.blt i j || Nat.blt j i))) && !isSel o.op && (if Nat.ble m i then (List.range m).all (fun j => (T.getD i []).contains j) else true)
 | none => false
def chkE3 (m : Nat) (ops : List Oper) (ord : List (Nat × Bool)) : Bool :=
 Nat.ble m ops.length && (List.range ops.length).all (fun i => chkO3 m ops (tabAnc ops []) i) && Nat.beq ord.length m && ord.all (fun x => Nat.blt x.1 m) && (List.range m).all (fun i => ord.any fun x => Nat.beq x.1 i) && chkPP ops (tabAnc ops []) ord
structure ChkE3 (m : Nat) (ops : List Oper) (ord : List (Nat × Bool)) : Prop where
 mle : m ≤ ops.length
 fo : ∀ (i : Nat) (o : Oper), ops[i]? = some o → (∀ j ∈ bindsOn o, j < i ∨ (i < m ∧ j < m ∧ j ≠ i)) ∧ isSel o.op = false ∧ (m ≤ i → ∀ j, j < m → Anc ops j i)
 len : ord.length = m
 flt : ∀ x : Nat × Bool, x ∈ ord → x.1 < m
 cov : ∀ i : Nat, i < m → ∃ (p : Nat) (b : Bool), ord[p]? = some (i, b)
 pw : ∀ (p q i j : Nat) (b b' : Bool) (oi oj : Oper), p < q → ord[p]? = some (i, b) → ord[q]? = some (j, b') → ops[i]? = some oi → ops[j]? = some oj →
  i ≠ j ∧ (∀ t, oi.dst = some t → oj.dst ≠ some t) ∧ j ∉ bindsOn oi ∧ (((∃ t, oi.dst = some t ∧ t ∈ readsOf ops oj) ∨ (∃ t, oj.dst = some t ∧ t ∈ readsOf ops oi) ∨ b = true) → Anc ops i j)
theorem chkE3_facts {m : Nat} {ops : List Oper} {ord : List (Nat × Bool)} (h : chkE3 m ops ord = true) : ChkE3 m ops ord := by
 unfold chkE3 at h
 simp only [Bool.and_eq_true] at h
 obtain ⟨⟨⟨⟨⟨h1, h2⟩, h3⟩, h4⟩, h5⟩, h6⟩ := h
 refine ⟨by simpa using h1, fun i o ho => ?_, Nat.eq_of_beq_eq_true h3, fun x hx => by simpa using List.all_eq_true.1 h4 x hx, fun i hi => ?_, ?_⟩
 · have h7 := List.all_eq_true.1 h2 i (List.mem_range.2 (List.getElem?_eq_some_iff.1 ho).1)
   unfold chkO3 at h7
   rw [ho] at h7
   simp only [Bool.and_eq_true, Bool.not_eq_true'] at h7
   refine ⟨fun j hj => by
    have h9 := List.all_eq_true.1 h7.1.1 j hj
    simp only [Bool.or_eq_true, Bool.and_eq_true, Nat.blt_eq] at h9
    omega, h7.1.2, fun hm j hj => ?_⟩
   have h8 := h7.2
   rw [if_pos (by simpa using hm)] at h8
   exact tab_mem (List.all_eq_true.1 h8 j (List.mem_range.2 hj))
 · have h7 := List.all_eq_true.1 h5 i (List.mem_range.2 hi)
   obtain ⟨x, hx, hxi⟩ := List.any_eq_true.1 h7
   obtain ⟨p, hp⟩ := List.mem_iff_getElem?.1 hx
   have := Nat.eq_of_beq_eq_true hxi
   exact ⟨p, x.2, by rw [hp, ← this]⟩
 · intro p q i j b b' oi oj hlt hp hq hi hj
   have h7 := chkPP_pw ops _ ord h6 p q _ _ hlt hp hq
   unfold chkP2 at h7
   simp only [hi, hj, Bool.and_eq_true, Bool.not_eq_true', Bool.or_eq_true] at h7
   obtain ⟨⟨⟨h8, h9⟩, h10⟩, h11⟩ := h7
   refine ⟨(fun e => by rw [e] at h8; simp at h8), (fun t ht e => by rw [ht, e] at h9; simp at h9), (fun hm => by rw [← List.contains_iff_mem] at hm; rw [hm] at h10; cases h10), fun hor => ?_⟩
   rcases h11 with h11 | h11
   · simp only [Bool.or_eq_false_iff] at h11
     exfalso
     rcases hor with ⟨t, ht, hm⟩ | ⟨t, ht, hm⟩ | hb
     · have := h11.1.1; unfold rdsB at this; rw [ht] at this; simp only at this; rw [← List.contains_iff_mem] at hm; rw [hm] at this; cases this
     · have := h11.1.2; unfold rdsB at this; rw [ht] at this; simp only at this; rw [← List.contains_iff_mem] at hm; rw [hm] at this; cases this
     · rw [hb] at h11; cases h11.2
   · exact tab_mem h11
theorem InvE.norm3 {P : Program} {C : Cx} {hc : List En} {K : Fr → List En → Prop} {ops : List Oper} {ord : List (Nat × Bool)} {m : Nat} {a0 : Act} {D : Nat → Prop} {a : Act} {w : World} (ck : ChkE3 m ops ord) (hfit : fitAll C.n ops = true) :
 ∀ (z k : Nat) (vs : List Value) (F : Fr) (hp : List En), m - k ≤ z → InvE P C ops.toArray hc K ops ord m a0 D a w k vs F hp → ∃ k vs F hp, InvE P C ops.toArray hc K ops ord m a0 D a w k vs F hp ∧ ∀ i, ord[k]? ≠ some (i, false) := by
 intro z
 induction z with
 | zero =>
  intro k vs F hp hz h
  refine ⟨k, vs, F, hp, h, fun i hi => ?_⟩
  have := (List.getElem?_eq_some_iff.1 hi).1
  have := ck.len; have := h.km; omega
 | succ z ih =>
  intro k vs F hp hz h
  by_cases hn : ∃ i, ord[k]? = some (i, false)
  · obtain ⟨i, hi⟩ := hn
    have hkm : k < m := by have := (List.getElem?_eq_some_iff.1 hi).1; have := ck.len; omega
    have him := ck.flt _ (List.mem_of_getElem? hi)
    have ho : ops[i]? = some (ops[i]'(by have := ck.mle; simp only at him; omega)) := List.getElem?_eq_getElem _
    have hltl : ∀ x ∈ ord, x.1 < ops.length := fun x hx => Nat.lt_of_lt_of_le (ck.flt x hx) ck.mle
    have hL := pickO_get ops ord k i false _ hltl hi ho
    have hlk : ((pickO ops ord).map (·.2))[k]? = some (ops[i]'(by have := ck.mle; simp only at him; omega)) := by rw [List.getElem?_map, hL]; rfl
    have hlen := (List.getElem?_eq_some_iff.1 hL).1
    have hH := h.H
    rw [List.drop_eq_getElem_cons hlen, (List.getElem?_eq_some_iff.1 hL).2] at hH
    obtain ⟨v, hv, hH⟩ := hH
    have hvk : (vs.set k v)[k]? = some v := by rw [List.getElem?_set_self]; have := h.len; omega
    refine ih (k + 1) (vs.set k v) _ hp (by omega) ⟨by omega, by rw [List.length_set]; exact h.len, fun p i b hp' hd => by have := h.A p i b hp' hd; omega, fun p j hp' hlt => ?_, ?_, h.hpk, h.sub, ?_, fun p j o u hlt hp' hoj hu => ?_, hH⟩
    · rcases Nat.lt_or_ge p k with hlt' | hge
      · exact h.B p j hp' hlt'
      · have : p = k := by omega
        subst this; rw [hi] at hp'; cases hp'
    · exact h.done.set k v fun ⟨j, b, hj, hd⟩ => by have := h.A k j b hj hd; omega
    · rw [actAll_take a0 _ _ k _ v hlk hvk, actAll_set a0 _ vs k v k (Nat.le_refl _)]
      exact h.frk.put (fitAll_get hfit ho) v
    · rcases Nat.lt_or_ge p k with hlt' | hge
      · rw [actAll_set a0 _ vs k v p (by omega)]
        rw [List.getElem?_set_ne (by omega)] at hu
        exact h.G p j o u hlt' hp' hoj hu
      · have : p = k := by omega
        subst this
        rw [hi] at hp'; cases hp'
        rw [ho] at hoj; cases hoj
        rw [hvk] at hu; cases hu
        rw [actAll_set a0 _ vs p v p (Nat.le_refl _)]
        exact rd_of hv h.frk
  · exact ⟨k, vs, F, hp, h, fun i hi => hn ⟨i, hi⟩⟩
section
variable {P : Program} {C : Cx} {k : List It} {fr : Fr} {hp : List En}
theorem any_drawT [hmx : MX P] {ops : List Oper} (hc : List En) (KT : Fr → List En → Prop) (m : Nat) (ord : List (Nat × Bool)) (hck : chkE3 m ops ord = true) (hfit : fitAll C.n ops = true) (hsub : hc.Sublist hp)
 (htail : ∀ F hp, KT F hp → ∀ (fuel : Nat) (listed : Array Bool) (a : Act) (w : World), FrOk C.n F a → HpOk C.D C.w0 hp w → listed.size = ops.length → ops.length ≤ fuel + m → (∀ i, listed.getD i false = true ↔ i < m) → wpAny P .any ops.toArray (After P C.Q k) fuel listed a w)
 (h : DrE P C ops.toArray hc KT (pickO ops ord) fr hp) : SyA P C k fr hp ops := by
 intro a w ha hw
 have ck := chkE3_facts hck
 have hat := ck.fo
 have hltl : ∀ x ∈ ord, x.1 < ops.length := fun x hx => Nat.lt_of_lt_of_le (ck.flt x hx) ck.mle
 have hll : ((pickO ops ord).map (·.2)).length = m := by rw [List.length_map, pickO_len ops ord hltl, ck.len]
 have view : ∀ p, p < m → ∃ i b o, ord[p]? = some (i, b) ∧ ops[i]? = some o ∧ (pickO ops ord)[p]? = some (b, o) ∧ ((pickO ops ord).map (·.2))[p]? = some o ∧ i < m := fun p hp => by
  have hx : ord[p]? = some (ord[p]'(by rw [ck.len]; exact hp)) := List.getElem?_eq_getElem _
  rcases hib : (ord[p]'(by rw [ck.len]; exact hp)) with ⟨i, b⟩
  rw [hib] at hx
  have him := ck.flt _ (List.mem_of_getElem? hx)
  have ho : ops[i]? = some (ops[i]'(by have := ck.mle; simp only at him; omega)) := List.getElem?_eq_getElem _
  have hL := pickO_get ops ord p i b _ hltl hx ho
  exact ⟨i, b, _, hx, ho, hL, by rw [List.getElem?_map, hL]; rfl, him⟩
 have viewl : ∀ p o, ((pickO ops ord).map (·.2))[p]? = some o → ∃ i b, p < m ∧ ord[p]? = some (i, b) ∧ ops[i]? = some o := fun p o hp => by
  have hpm : p < m := by rw [← hll]; exact (List.getElem?_eq_some_iff.1 hp).1
  obtain ⟨i, b, o', h1, h2, _, h4, _⟩ := view p hpm
  rw [h4] at hp; cases hp
  exact ⟨i, b, hpm, h1, h2⟩
 have inj : ∀ p q i b b', ord[p]? = some (i, b) → ord[q]? = some (i, b') → p = q := fun p q i b b' h1 h2 => by
  have him := ck.flt _ (List.mem_of_getElem? h1)
  have ho : ops[i]? = some (ops[i]'(by have := ck.mle; simp only at him; omega)) := List.getElem?_eq_getElem _
  rcases Nat.lt_trichotomy p q with hlt | he | hlt
  · exact absurd rfl (ck.pw p q i i b b' _ _ hlt h1 h2 ho ho).1
  · exact he
  · exact absurd rfl (ck.pw q p i i b' b _ _ hlt h2 h1 ho ho).1
 have hdist : ∀ (p : Nat) (o : Oper) (q : Nat) (oj : Oper) (t : Nat), ((pickO ops ord).map (·.2))[p]? = some o → ((pickO ops ord).map (·.2))[q]? = some oj → q ≠ p → oj.dst = some t → o.dst ≠ some t := fun p o q oj t hp hq hne ht => by
  obtain ⟨i, b, _, h1, h2⟩ := viewl p o hp
  obtain ⟨j, b', _, h3, h4⟩ := viewl q oj hq
  rcases Nat.lt_or_ge p q with hlt | hge
  · exact fun e => (ck.pw p q i j b b' o oj hlt h1 h3 h2 h4).2.1 t e ht
  · exact (ck.pw q p j i b' b oj o (by omega) h3 h1 h4 h2).2.1 t ht
 have hfl : ∀ (p : Nat) (o : Oper), ((pickO ops ord).map (·.2))[p]? = some o → Fits C.n o.dst := fun p o hp => by
  obtain ⟨i, b, _, _, h2⟩ := viewl p o hp
  exact fitAll_get hfit h2
 have key : ∀ (fuel : Nat) (listed : Array Bool) (a' : Act) (w' : World), listed.size = ops.length → cnt ops.length listed ≤ fuel → (∀ i, listed.getD i false = true → i < m) →
  (∀ i o, ops[i]? = some o → listed.getD i false = true → ∀ j ∈ bindsOn o, listed.getD j false = true) →
  (∃ k' vs F hp, InvE P C ops.toArray hc KT ops ord m a (fun i => listed.getD i false = true) a' w' k' vs F hp) →
  wpAny P .any ops.toArray (After P C.Q k) fuel listed a' w' := by
  intro fuel
  have tail : ∀ (fuel : Nat) (listed : Array Bool) (a' : Act) (w' : World), listed.size = ops.length → cnt ops.length listed ≤ fuel → (∀ i, listed.getD i false = true → i < m) →
   (∃ k' vs F hp, InvE P C ops.toArray hc KT ops ord m a (fun i => listed.getD i false = true) a' w' k' vs F hp) →
   (∀ i, i < m → listed.getD i false = true) → wpAny P .any ops.toArray (After P C.Q k) fuel listed a' w' := by
   intro fuel listed a' w' hs hcnt hD ⟨k', vs, F, hp', hI⟩ hall
   have hkm : k' = m := by
    rcases Nat.lt_or_ge k' m with hlt | hge
    · obtain ⟨i, b, o, h1, _, _, _, h5⟩ := view k' hlt
      have := hI.A k' i b h1 (hall i h5); omega
    · have := hI.km; omega
   have hle : ops.length ≤ fuel + m := by
    have hsub : (List.range ops.length).drop m = (List.range ops.length).filter fun i => !listed.getD i false := by
     have e := List.take_append_drop m (List.range ops.length)
     have h1 : ((List.range ops.length).take m).filter (fun i => !listed.getD i false) = [] := by
      rw [List.filter_eq_nil_iff]; intro x hx
      rw [List.take_range] at hx
      have := List.mem_range.1 hx
      simp [hall x (by omega)]
     have h2 : ((List.range ops.length).drop m).filter (fun i => !listed.getD i false) = (List.range ops.length).drop m := by
      rw [List.filter_eq_self]; intro x hx
      obtain ⟨y, hy, rfl⟩ := List.mem_drop_iff_getElem.1 hx
      have hge : ¬ listed.getD ((List.range ops.length)[y + m]) false = true := fun hh => by have := hD _ hh; simp at this; omega
      rw [Bool.not_eq_true'] ; cases hq : listed.getD ((List.range ops.length)[y + m]) false with
      | false => simpa [Nat.add_comm] using hq
      | true => exact absurd hq hge
     conv => rhs; rw [← e, List.filter_append, h1, h2, List.nil_append]
    have := congrArg List.length hsub
    simp only [List.length_drop, List.length_range] at this
    unfold cnt at hcnt
    omega
   have hH := hI.H
   have hd0 : (pickO ops ord).drop m = [] := List.drop_of_length_le (by rw [pickO_len ops ord hltl, ck.len]; exact Nat.le_refl _)
   rw [hkm, hd0] at hH
   have hH : KT F hp' := hH
   have hF := hI.frk
   have hb := actAll_done (n := C.n) (l := (pickO ops ord).map (·.2)) (vs := vs) ha.defers ha.size (by rw [hI.len, hll]) hfl hdist k' (by rw [hll]; exact hI.km)
   have hslot : FrOk C.n F a' := by
    refine ⟨hI.done.defers, hI.done.size, fun t v ht => ?_⟩
    rw [← hF.slot t v ht]
    simp only [Array.getD_eq_getD_getElem?]
    congr 1
    by_cases hex : ∃ (j : Nat) (o : Oper), ((pickO ops ord).map (·.2))[j]? = some o ∧ o.dst = some t
    · obtain ⟨j, o, ho, hd⟩ := hex
      obtain ⟨i, b, hjm, h1, h2⟩ := viewl j o ho
      have hv' : vs[j]? = some (vs[j]'(by rw [hI.len]; exact hjm)) := List.getElem?_eq_getElem _
      rw [hI.done.yes j o _ t ho hv' ⟨i, b, h1, hall i (ck.flt _ (List.mem_of_getElem? h1))⟩ hd, hb.yes j o _ t ho hv' (by omega) hd]
    · rw [hI.done.no t fun j o ho _ hd => hex ⟨j, o, ho, hd⟩, hb.no t fun j o ho _ hd => hex ⟨j, o, ho, hd⟩]
   exact htail F hp' hH fuel listed a' w' hslot hI.hpk hs hle (fun i => ⟨hD i, hall i⟩)
  induction fuel with
  | zero =>
   intro listed a' w' hs hcnt hD hdc hI
   have hall := cnt_zero (n := ops.length) (l := listed) (by omega)
   exact tail 0 listed a' w' hs hcnt hD hI (fun i hi => hall i (Nat.lt_of_lt_of_le hi ck.mle))
  | succ fuel ih =>
   intro listed a' w' hs hcnt hD hdc hI
   by_cases hall : ∀ i, i < m → listed.getD i false = true
   · exact tail (fuel + 1) listed a' w' hs hcnt hD hI hall
   · have hex : ∃ i, i < m ∧ ¬ listed.getD i false = true := Classical.byContradiction fun hn => hall fun i hi => Classical.byContradiction fun hh => hn ⟨i, hi, hh⟩
     obtain ⟨k0, vs0, F0, hp0, hI0⟩ := hI
     obtain ⟨k', vs, F, hp', hI, hnx⟩ := hI0.norm3 ck hfit m k0 vs0 F0 hp0 (by omega)
     constructor
     · intro hn
       exfalso
       obtain ⟨i0, hi0⟩ := hex
       obtain ⟨p0, b0, hp0⟩ := ck.cov i0 hi0.1
       obtain ⟨p, ⟨i, b, hpi, him, hin⟩, hmin⟩ := least (p := fun p => ∃ i b, ord[p]? = some (i, b) ∧ i < m ∧ ¬ listed.getD i false = true) p0 ⟨i0, b0, hp0, hi0.1, hi0.2⟩
       have hmo := ck.mle
       have ho : ops[i]? = some (ops[i]'(by omega)) := List.getElem?_eq_getElem _
       have : i ∈ Region.ready .any ops.toArray listed := mem_ready.2 ⟨_, by rw [List.getElem?_toArray]; exact ho, getD_flip.2 ⟨by omega, hin⟩, fun j hj => by
        have hji := (hat i _ ho).1 j hj
        have hjm : j < m := by omega
        obtain ⟨q, c, hqj⟩ := ck.cov j hjm
        have hoj : ops[j]? = some (ops[j]'(by omega)) := List.getElem?_eq_getElem _
        refine Classical.byContradiction fun hh => ?_
        have hle := hmin q ⟨j, c, hqj, hjm, hh⟩
        rcases Nat.lt_or_ge p q with hlt | hge
        · exact (ck.pw p q i j b c _ _ hlt hpi hqj ho hoj).2.2.1 hj
        · have : p = q := by omega
          subst this; rw [hpi] at hqj; cases hqj; omega⟩
       rw [hn] at this; cases this
     · intro i hi
       obtain ⟨o, ho', h1, h2⟩ := mem_ready.1 hi
       have ho : ops[i]? = some o := by rw [List.getElem?_toArray] at ho'; exact ho'
       have hni := (getD_flip.1 h1).2
       have hilen := (getD_flip.1 h1).1
       have hancD : ∀ {j : Nat}, Anc ops j i → listed.getD j false = true := fun hj => anc_done (D := fun x => listed.getD x false = true) hdc hj (fun o' ho' x hx => by rw [ho] at ho'; cases ho'; exact h2 x hx)
       have him : i < m := Nat.lt_of_not_le fun hge => hall fun j hj => hancD ((hat i o ho).2.2 hge j hj)
       obtain ⟨p, b, hpi⟩ := ck.cov i him
       have hpm : p < m := by rw [← ck.len]; exact (List.getElem?_eq_some_iff.1 hpi).1
       obtain ⟨i', b', o', hp1, hp2, hp3, hp4, _⟩ := view p hpm
       rw [hpi] at hp1; cases hp1
       rw [ho] at hp2; cases hp2
       have hpk : p < k' ∨ p = k' := by
        rcases Nat.lt_or_ge p k' with hlt | hge
        · exact .inl hlt
        · right
          rcases Nat.lt_or_ge k' p with hlt | hge'
          · exfalso
            obtain ⟨j, bj, oj, hj1, hj2, _, _, _⟩ := view k' (by omega)
            cases bj with
            | false => exact hnx j hj1
            | true =>
             have hanc := (ck.pw k' p j i true b oj o hlt hj1 hpi hj2 ho).2.2.2 (.inr (.inr rfl))
             have := hI.A k' j true hj1 (hancD hanc); omega
          · omega
       have hpk' : p ≤ k' := by omega
       have hb := actAll_done (n := C.n) (l := (pickO ops ord).map (·.2)) (vs := vs) ha.defers ha.size (by rw [hI.len, hll]) hfl hdist p (by rw [hll]; omega)
       have hsame : ∀ t, t ∈ readsOf ops o → a'.tmps[t]? = (actAll a (((pickO ops ord).map (·.2)).take p) (vs.take p)).tmps[t]? := by
        intro t ht
        by_cases hw : ∃ (q : Nat) (oj : Oper), ((pickO ops ord).map (·.2))[q]? = some oj ∧ oj.dst = some t
        · obtain ⟨q, oj, hoj, hd⟩ := hw
          obtain ⟨j, bj, hqm, hqj, hoj'⟩ := viewl q oj hoj
          have hvq : vs[q]? = some (vs[q]'(by rw [hI.len]; exact hqm)) := List.getElem?_eq_getElem _
          have uniq : ∀ q' oj', ((pickO ops ord).map (·.2))[q']? = some oj' → oj'.dst = some t → q' = q := fun q' oj' h' hd' => Classical.byContradiction fun hne => hdist q oj q' oj' t hoj h' hne hd' hd
          have notdone : ¬ listed.getD j false = true → ∀ (q' : Nat) (o' : Oper), ((pickO ops ord).map (·.2))[q']? = some o' → (∃ i b, ord[q']? = some (i, b) ∧ listed.getD i false = true) → o'.dst ≠ some t := fun hnd q' o' ho' ⟨i2, b2, hi2, hd2⟩ hd' => by
           have := uniq q' o' ho' hd'; subst this
           rw [hqj] at hi2; cases hi2; exact hnd hd2
          rcases Nat.lt_trichotomy q p with hlt | he | hlt
          · have hanc := (ck.pw q p j i bj b oj o hlt hqj hpi hoj' ho).2.2.2 (.inl ⟨t, hd, ht⟩)
            rw [hI.done.yes q oj _ t hoj hvq ⟨j, bj, hqj, hancD hanc⟩ hd, hb.yes q oj _ t hoj hvq hlt hd]
          · subst he
            rw [hpi] at hqj; cases hqj
            rw [hI.done.no t (notdone hni), hb.no t fun q' o' ho' hlt hd' => by have := uniq q' o' ho' hd'; omega]
          · have hanc := (ck.pw p q i j b bj o oj hlt hpi hqj ho hoj').2.2.2 (.inr (.inl ⟨t, hd, ht⟩))
            have hnd : ¬ listed.getD j false = true := fun hdj => hni (anc_done (D := fun x => listed.getD x false = true) hdc hanc (fun o'' ho'' x hx => hdc j o'' ho'' hdj x hx))
            rw [hI.done.no t (notdone hnd), hb.no t fun q' o' ho' hlt' hd' => by have := uniq q' o' ho' hd'; omega]
        · rw [hI.done.no t fun j o ho _ hd => hw ⟨j, o, ho, hd⟩, hb.no t fun j o ho _ hd => hw ⟨j, o, ho, hd⟩]
       have hexec : execOp a'.eval o = execOp (actAll a (((pickO ops ord).map (·.2)).take p) (vs.take p)).eval o := by
        refine execOp_congr o (fun cs b e => by have := (hat i o ho).2.1; rw [e] at this; cases this) fun x hx => ?_
        cases x with
        | tmp t =>
         have := hsame t (List.mem_append.2 (.inl (List.mem_filterMap.2 ⟨.tmp t, Array.mem_toList_iff.2 hx, rfl⟩)))
         simp only [Act.eval, Array.getD_eq_getD_getElem?, this]
        | _ => rfl
       have hwant : Region.wanted o (yielded ops.toArray a'.tmps) = Region.wanted o (yielded ops.toArray (actAll a (((pickO ops ord).map (·.2)).take p) (vs.take p)).tmps) := by
        cases hg : o.guard with
        | none => simp only [Region.wanted, hg]
        | some g =>
         simp only [Region.wanted, hg, yielded, List.getElem?_toArray]
         cases hd : (ops[g.1]?).bind (·.dst) with
         | none => rfl
         | some t =>
          have := hsame t (List.mem_append.2 (.inr (by simp [guardSlot, hg, hd])))
          simp only [Option.bind_some, this]
       have hDset : ∀ x, (∃ i2 b2, ord[x]? = some (i2, b2) ∧ (listed.setIfInBounds i true).getD i2 false = true) ↔ ((∃ i2 b2, ord[x]? = some (i2, b2) ∧ listed.getD i2 false = true) ∨ x = p) := fun x => by
        constructor
        · rintro ⟨i2, b2, hi2, hd2⟩
          rcases (getD_set hilen).1 hd2 with hd2 | rfl
          · exact .inl ⟨i2, b2, hi2, hd2⟩
          · exact .inr (inj _ _ _ _ _ hi2 hpi)
        · rintro (⟨i2, b2, hi2, hd2⟩ | rfl)
          · exact ⟨i2, b2, hi2, (getD_set hilen).2 (.inl hd2)⟩
          · exact ⟨i, b, hpi, (getD_set hilen).2 (.inr rfl)⟩
       have hnext : ∀ (v : Value) (w'' : World) (k'' : Nat) (vs'' : List Value) (F'' : Fr) (hp'' : List En), InvE P C ops.toArray hc KT ops ord m a (fun x => (listed.setIfInBounds i true).getD x false = true) (a'.put o.dst v) w'' k'' vs'' F'' hp'' →
        wpAny P .any ops.toArray (After P C.Q k) fuel (listed.setIfInBounds i true) (a'.put o.dst v) w'' := fun v w'' k'' vs'' F'' hp'' hI'' => by
        refine ih _ _ w'' (by simpa using hs) ?_ ?_ ?_ ⟨k'', vs'', F'', hp'', hI''⟩
        · have := cnt_set (n := ops.length) (by have := ck.mle; omega) hilen hni; omega
        · intro j hj; rcases (getD_set hilen).1 hj with hj | rfl
          · exact hD j hj
          · exact him
        · intro j oj hoj hj x hx
          rw [getD_set hilen]
          rcases (getD_set hilen).1 hj with hj | rfl
          · exact .inl (hdc j oj hoj hj x hx)
          · rw [ho] at hoj; cases hoj; exact .inl (h2 x hx)
       unfold wpOp
       rw [ho']
       simp only
       cases b with
       | false =>
        have hlt : p < k' := by
         rcases hpk with h | h
         · exact h
         · exact absurd (by rw [← h]; exact hpi) (hnx i)
        have hvp : vs[p]? = some (vs[p]'(by rw [hI.len]; exact hpm)) := List.getElem?_eq_getElem _
        have hst := hI.G p i o _ hlt hpi ho hvp hp' w' hI.sub hI.hpk
        rw [← hexec, ← hwant] at hst
        have hgo : ∀ w'', HpOk C.D C.w0 hp' w'' → wpAny P .any ops.toArray (After P C.Q k) fuel (listed.setIfInBounds i true) (a'.put o.dst (vs[p]'(by rw [hI.len]; exact hpm))) w'' := fun w'' hw'' =>
         hnext _ w'' k' vs F hp' ⟨hI.km, hI.len, fun q j c hq hd => by
          rcases (getD_set hilen).1 hd with hd | rfl
          · exact hI.A q j c hq hd
          · have := inj _ _ _ _ _ hq hpi; omega,
          fun q j hq hlt' => (getD_set hilen).2 (.inl (hI.B q j hq hlt')),
          hI.done.step hp4 hvp (hfl p o hp4) (fun q oj t hq hne hd => hdist p o q oj t hp4 hq hne hd) hDset, hw'', hI.sub, hI.frk, hI.G, hI.H⟩
        rcases hst with ⟨hwt, hfin⟩ | ⟨hwt, hun⟩
        · rw [if_pos hwt]
          left
          unfold Oper.wp
          cases hr : (execOp a'.eval o).run P w' with
          | halt _ _ => rw [hr] at hfin; exact hfin.elim
          | ok nx w1 =>
           rw [hr] at hfin
           cases nx with
           | value u => obtain ⟨rfl, hw1⟩ := hfin; exact hgo w1 hw1
           | enter f args =>
            have hfin : Calls P f args w1 fun e w'' => e = .returned (vs[p]'(by rw [hI.len]; exact hpm)) ∧ HpOk C.D C.w0 hp' w'' := hfin
            refine hfin.mono fun e w'' he => ?_
            obtain ⟨rfl, hw''⟩ := he
            exact hgo w'' hw''
           | _ => exact hfin.elim
        · rw [if_neg (by rw [hwt]; simp), ← hun]
          exact hgo w' hI.hpk
       | true =>
        have hpe : p = k' := by
         rcases hpk with h | h
         · exact absurd (hI.B p i hpi h) hni
         · exact h
        subst hpe
        have hH := hI.H
        have hlenL := (List.getElem?_eq_some_iff.1 hp3).1
        rw [List.drop_eq_getElem_cons hlenL, (List.getElem?_eq_some_iff.1 hp3).2] at hH
        obtain ⟨hwt, hef⟩ := hH _ w' hI.frk hI.hpk
        rw [← hwant] at hwt
        unfold Eff at hef
        rw [← hexec] at hef
        rw [if_pos hwt]
        left
        have hgo : ∀ (u : Value) (w'' : World), (∃ hp'', HpOk C.D C.w0 hp'' w'' ∧ hc.Sublist hp'' ∧ DrE P C ops.toArray hc KT ((pickO ops ord).drop (p + 1)) (put o.dst u F) hp'') →
         wpAny P .any ops.toArray (After P C.Q k) fuel (listed.setIfInBounds i true) (a'.put o.dst u) w'' := fun u w'' ⟨hp'', hw'', hs'', hd''⟩ => by
         have hvk : (vs.set p u)[p]? = some u := by rw [List.getElem?_set_self]; rw [hI.len]; exact hpm
         refine hnext u w'' (p + 1) (vs.set p u) (put o.dst u F) hp'' ⟨by omega, by rw [List.length_set]; exact hI.len, fun q j c hq hd => ?_, fun q j hq hlt' => ?_, ?_, hw'', hs'', ?_, fun q j oj v hlt' hq hoj hv => ?_, hd''⟩
         · rcases (getD_set hilen).1 hd with hd | rfl
           · have := hI.A q j c hq hd; omega
           · have := inj _ _ _ _ _ hq hpi; omega
         · rcases Nat.lt_or_ge q p with hlt2 | hge
           · exact (getD_set hilen).2 (.inl (hI.B q j hq hlt2))
           · have : q = p := by omega
             subst this; rw [hpi] at hq; cases hq; exact (getD_set hilen).2 (.inr rfl)
         · exact (hI.done.set p u fun ⟨j, c, hj, hd⟩ => by have := hI.A p j c hj hd; omega).step hp4 hvk (hfl p o hp4) (fun q oj t hq hne hd => hdist p o q oj t hp4 hq hne hd) hDset
         · rw [actAll_take a _ _ p _ u hp4 hvk, actAll_set a _ vs p u p (Nat.le_refl _)]
           exact hI.frk.put (hfl p o hp4) u
         · have hqp : q < p := by
            rcases Nat.lt_or_ge q p with h | h
            · exact h
            · have : q = p := by omega
              subst this; rw [hpi] at hq; cases hq
           rw [actAll_set a _ vs p u q (by omega)]
           rw [List.getElem?_set_ne (by omega)] at hv
           exact hI.G q j oj v hqp hq hoj hv
        unfold Oper.wp
        cases hr : (execOp a'.eval o).run P w' with
        | halt _ _ => rw [hr] at hef; exact hef.elim
        | ok nx w1 =>
         rw [hr] at hef
         cases nx with
         | value u => exact hgo u w1 hef
         | skip => exact hgo undef w1 hef
         | enter f args =>
          refine Calls.mono hef fun e w'' he => ?_
          obtain ⟨u, rfl, hu⟩ := he
          exact hgo u w'' hu
         | row r args => exact Rows.mono hef fun u w'' hu => hgo u w'' hu
         | _ => exact hef.elim
 refine key ops.length (Array.replicate ops.length false) a _ (by simp) ?_ ?_ ?_ ⟨0, List.replicate m undef, fr, hp, Nat.zero_le _, by simp, ?_, ?_, ?_, hw.draw, hsub, by simpa [actAll] using ha, ?_, by simpa using h⟩
 · unfold cnt; exact Nat.le_trans (List.length_filter_le _ _) (by simp)
 · intro i hi; simp [Array.getD_eq_getD_getElem?, Array.getElem?_replicate] at hi; split at hi <;> simp at hi
 · intro i o _ hi; simp [Array.getD_eq_getD_getElem?, Array.getElem?_replicate] at hi; split at hi <;> simp at hi
 · intro p i b _ hi; simp [Array.getD_eq_getD_getElem?, Array.getElem?_replicate] at hi; split at hi <;> simp at hi
 · intro p i _ hp; omega
 · exact ⟨ha.defers, ha.size, fun j o v t _ _ ⟨i, b, _, hj⟩ => by simp [Array.getD_eq_getD_getElem?, Array.getElem?_replicate] at hj; split at hj <;> simp at hj, fun t _ => rfl⟩
 · intro p i o v hp; omega
end
section
variable {P : Program} {Q : Exit → Act → World → Prop}
theorem op_list {ops : List Oper} {i : Nat} {o : Oper} {l : List Oper} {a : Act} {w : World} {K : Act → World → Prop} (ho : ops[i]? = some o) (h : wpList P ops.toArray Q (o :: l) a w) (hk : ∀ a w, wpList P ops.toArray Q l a w → K a w) : wpOp P ops.toArray Q i K a w := by
 unfold wpOp
 rw [show (ops.toArray)[i]? = some o from by rw [List.getElem?_toArray]; exact ho]
 unfold wpList at h
 simp only
 by_cases hw : Region.wanted o (yielded ops.toArray a.tmps) = true
 · rw [if_pos hw] at h ⊢; exact h.imp (Oper.wp_mono hk) id
 · rw [if_neg hw] at h ⊢; exact hk _ _ h
theorem op_list2 {ops : List Oper} {i : Nat} {o : Oper} {l l' : List Oper} {a : Act} {w : World} {K : Act → World → Prop} (hp : plainO o.op = true) (ho : ops[i]? = some o) (h : wpList P ops.toArray Q (o :: l) a w) (h' : wpList P ops.toArray Q (o :: l') a w)
 (hk : ∀ a w, wpList P ops.toArray Q l a w → wpList P ops.toArray Q l' a w → K a w) : wpOp P ops.toArray Q i K a w := by
 unfold wpOp
 rw [show (ops.toArray)[i]? = some o from by rw [List.getElem?_toArray]; exact ho]
 unfold wpList at h h'
 simp only
 by_cases hw : Region.wanted o (yielded ops.toArray a.tmps) = true
 · rw [if_pos hw] at h h' ⊢
   rcases h with h | h
   · rcases h' with h' | h'
     · exact .inl (Oper.wp_mono (fun a w h => hk a w h.1 h.2) (wp_and (plain_tame hp _ P w) h h'))
     · exact .inr h'
   · exact .inr h
 · rw [if_neg hw] at h h' ⊢; exact hk _ _ h h'
theorem any_three {ops : List Oper} {m : Nat} {oa ob oc : Oper} (hd : ops.drop m = [oa, ob, oc]) (hpl : plainO oa.op = true) (hab : m ∈ bindsOn ob) (h0 : ∀ j ∈ bindsOn oa, j < m) (h1 : ∀ j ∈ bindsOn ob, j ≤ m) (h2 : ∀ j ∈ bindsOn oc, j < m)
 {a : Act} {w : World} (g1 : wpList P ops.toArray Q [oa, ob, oc] a w) (g2 : wpList P ops.toArray Q [oa, oc, ob] a w) (g3 : wpList P ops.toArray Q [oc, oa, ob] a w) (fuel : Nat) (listed : Array Bool) (hs : listed.size = ops.length) (hf : ops.length ≤ fuel + m) (hD : ∀ i, listed.getD i false = true ↔ i < m) :
 wpAny P .any ops.toArray Q fuel listed a w := by
 have hlen : ops.length = m + 3 := by have := congrArg List.length hd; simp only [List.length_drop, List.length_cons, List.length_nil] at this; omega
 have ga : ops[m]? = some oa := by have := congrArg (·[0]?) hd; simpa using this
 have gb : ops[m + 1]? = some ob := by have := congrArg (·[1]?) hd; simpa using this
 have gc : ops[m + 2]? = some oc := by have := congrArg (·[2]?) hd; simpa using this
 obtain ⟨fuel, rfl⟩ : ∃ f, fuel = f + 3 := ⟨fuel - 3, by omega⟩
 have rd : ∀ (L : Array Bool) (i : Nat), i ∈ Region.ready .any ops.toArray L → L.size = ops.length → i < m + 3 ∧ ¬ L.getD i false = true ∧ ∀ o, ops[i]? = some o → ∀ j ∈ bindsOn o, L.getD j false = true := fun L i hi hL => by
  obtain ⟨o, ho, k1, k2⟩ := mem_ready.1 hi
  have := (Array.getElem?_eq_some_iff.1 ho).1
  refine ⟨by simpa [hlen] using this, (getD_flip.1 k1).2, fun o' ho' => ?_⟩
  rw [List.getElem?_toArray] at ho
  rw [ho] at ho'; cases ho'; exact k2
 have mk : ∀ (L : Array Bool) (i : Nat) (o : Oper), L.size = ops.length → ops[i]? = some o → ¬ L.getD i false = true → (∀ j ∈ bindsOn o, L.getD j false = true) → Region.ready .any ops.toArray L ≠ [] := fun L i o hL ho hn hb hnil => by
  have : i ∈ Region.ready .any ops.toArray L := mem_ready.2 ⟨o, by rw [List.getElem?_toArray]; exact ho, getD_flip.2 ⟨by rw [hL]; exact (List.getElem?_eq_some_iff.1 ho).1, hn⟩, hb⟩
  rw [hnil] at this; cases this
 have fin : ∀ (n : Nat) (L : Array Bool) (a : Act) (w : World), L.size = ops.length → (∀ i, i < m + 3 → L.getD i false = true) → wpList P ops.toArray Q [] a w → wpAny P .any ops.toArray Q n L a w := fun n L a w hL hall h => by
  have hnil : Region.ready .any ops.toArray L = [] := List.eq_nil_iff_forall_not_mem.2 fun i hi => by
   obtain ⟨r1, r2, _⟩ := rd L i hi hL; exact r2 (hall i r1)
  cases n with
  | zero => exact ⟨hnil, h⟩
  | succ n => exact ⟨fun _ => h, fun i hi => by rw [hnil] at hi; cases hi⟩
 have st : ∀ {L : Array Bool} {x : Nat}, L.size = ops.length → x < m + 3 → ∀ y, (L.setIfInBounds x true).getD y false = true ↔ (L.getD y false = true ∨ y = x) := fun {L x} hL hx y => getD_set (by omega)
 have last : ∀ (n : Nat) (L : Array Bool) (i : Nat) (o : Oper) (a : Act) (w : World), L.size = ops.length → ops[i]? = some o → (∀ y, y < m + 3 → (L.getD y false = true ↔ y ≠ i)) → (∀ j ∈ bindsOn o, j < m + 3 ∧ j ≠ i) → wpList P ops.toArray Q [o] a w → wpAny P .any ops.toArray Q (n + 1) L a w := fun n L i o a w hL ho hall hb h => by
  have hi3 : i < m + 3 := by rw [← hlen]; exact (List.getElem?_eq_some_iff.1 ho).1
  refine ⟨fun hn => absurd hn (mk L i o hL ho (fun hh => ((hall i hi3).1 hh) rfl) fun j hj => (hall j (hb j hj).1).2 (hb j hj).2), fun x hx => ?_⟩
  obtain ⟨r1, r2, _⟩ := rd L x hx hL
  have : x = i := Classical.byContradiction fun hne => r2 ((hall x r1).2 hne)
  subst this
  refine op_list ho h fun a w h => fin n _ a w (by simpa using hL) (fun y hy => ?_) h
  rw [st hL hi3]
  by_cases hyx : y = x
  · exact .inr hyx
  · exact .inl ((hall y hy).2 hyx)
 have s1 : ∀ {L : Array Bool} {x : Nat}, L.size = ops.length → (L.setIfInBounds x true).size = ops.length := fun h => by simpa using h
 refine ⟨fun hn => absurd hn (mk listed m oa hs ga (fun hh => by have := (hD m).1 hh; omega) fun j hj => (hD j).2 (h0 j hj)), fun i hi => ?_⟩
 obtain ⟨r1, r2, r3⟩ := rd listed i hi hs
 have hge : m ≤ i := Nat.le_of_not_lt fun h => r2 ((hD i).2 h)
 rcases (by omega : i = m ∨ i = m + 1 ∨ i = m + 2) with rfl | rfl | rfl
 · refine op_list2 hpl ga g1 g2 fun a w e1 e2 => ?_
   have l1 : ∀ y, (listed.setIfInBounds i true).getD y false = true ↔ y ≤ i := fun y => by rw [st hs (by omega), hD]; omega
   refine ⟨fun hn => absurd hn (mk _ (i + 1) ob (s1 hs) gb (fun hh => by have := (l1 _).1 hh; omega) fun j hj => (l1 j).2 (h1 j hj)), fun x hx => ?_⟩
   obtain ⟨q1, q2, q3⟩ := rd _ x hx (s1 hs)
   have hge2 : ¬ x ≤ i := fun h => q2 ((l1 x).2 h)
   rcases (by omega : x = i + 1 ∨ x = i + 2) with rfl | rfl
   · refine op_list gb e1 fun a w e => last fuel _ (i + 2) oc a w (s1 (s1 hs)) gc (fun y hy => ?_) (fun j hj => by have := h2 j hj; omega) e
     rw [st (s1 hs) (by omega), l1]; omega
   · refine op_list gc e2 fun a w e => last fuel _ (i + 1) ob a w (s1 (s1 hs)) gb (fun y hy => ?_) (fun j hj => by have := h1 j hj; omega) e
     rw [st (s1 hs) (by omega), l1]; omega
 · have := (hD m).1 (r3 ob gb m hab); omega
 · refine op_list gc g3 fun a w e => ?_
   have l1 : ∀ y, (listed.setIfInBounds (m + 2) true).getD y false = true ↔ (y < m ∨ y = m + 2) := fun y => by rw [st hs (by omega), hD]
   refine ⟨fun hn => absurd hn (mk _ m oa (s1 hs) ga (fun hh => by have := (l1 _).1 hh; omega) fun j hj => (l1 j).2 (.inl (h0 j hj))), fun x hx => ?_⟩
   obtain ⟨q1, q2, q3⟩ := rd _ x hx (s1 hs)
   have hn2 : ¬ (x < m ∨ x = m + 2) := fun h => q2 ((l1 x).2 h)
   rcases (by omega : x = m ∨ x = m + 1) with rfl | rfl
   · refine op_list ga e fun a w e => last fuel _ (x + 1) ob a w (s1 (s1 hs)) gb (fun y hy => ?_) (fun j hj => by have := h1 j hj; omega) e
     rw [st (s1 hs) (by omega), l1]; omega
   · have := (l1 m).1 (q3 ob gb m hab); omega
end
def Tl3 (P : Program) (C : Cx) (k : List It) (ops : List Oper) (m : Nat) (oa ob oc : Oper) (F : Fr) (hp : List En) : Prop :=
 Sy P C (.o ops.toArray [oa, ob, oc] :: k) F hp ∧ Sy P C (.o ops.toArray [oa, oc, ob] :: k) F hp ∧ Sy P C (.o ops.toArray [oc, oa, ob] :: k) F hp
def chk3 (ops : List Oper) (m : Nat) : Bool := match ops.drop m with
 | [oa, ob, oc] => plainO oa.op && (bindsOn ob).contains m && (bindsOn oa).all (fun j => Nat.blt j m) && (bindsOn ob).all (fun j => Nat.ble j m) && (bindsOn oc).all (fun j => Nat.blt j m)
 | _ => false
theorem any_drawE3 {P : Program} {C : Cx} {k : List It} {fr : Fr} {hp : List En} [hmx : MX P] {ops : List Oper} (hc : List En) (m : Nat) (ord : List (Nat × Bool)) {oa ob oc : Oper} (hck : chkE3 m ops ord = true) (hfit : fitAll C.n ops = true) (hsub : hc.Sublist hp) (hd : ops.drop m = [oa, ob, oc]) (h3 : chk3 ops m = true)
 (h : DrE P C ops.toArray hc (Tl3 P C k ops m oa ob oc) (pickO ops ord) fr hp) : SyA P C k fr hp ops :=
 any_drawT hc (Tl3 P C k ops m oa ob oc) m ord hck hfit hsub (fun F hp ⟨e1, e2, e3⟩ fuel listed a w ha hw hs hf hD => by
  unfold chk3 at h3
  rw [hd] at h3
  simp only [Bool.and_eq_true, List.all_eq_true, Nat.blt_eq, Nat.ble_eq, List.contains_iff_mem] at h3
  obtain ⟨⟨⟨⟨p1, p2⟩, p3⟩, p4⟩, p5⟩ := h3
  exact any_three hd p1 p2 p3 p4 p5 (e1.go a w ha hw) (e2.go a w ha hw) (e3.go a w ha hw) fuel listed hs hf hD) h
end Go.Proofs.YtldjakeigjngoaaGreat
/- Contracts of the types' readers: one more part. -/
namespace Go.Proofs.YtldjakeigjngoaaGreat
open Go.RowKit Bf
structure PtsA where
 zs : List PrtA
 p : Option Addr
 c : Nat
def ptsH (ob gb : Nat) (F : Value) (x : PtsA) : List En :=
 [blk ob 34 [.slice x.p x.zs.length x.c], blk gb 150 [F], vec 82 18 (.slice x.p x.zs.length x.c) x.zs.length (x.zs.flatMap prtV), prtsE x.zs]
theorem flat18 : ∀ (zs : List PrtA), (zs.flatMap prtV).length = zs.length * 18
 | [] => rfl
 | z :: zs => by rw [List.flatMap_cons, List.length_append, flat18 zs, prtV_len, List.length_cons]; omega
theorem oneAll_prt (z : PrtA) : oneAll (prtV z) = true := by
 obtain ⟨nm, bare, lab, wide, ck, cn, ca, cl, ⟨k, a, lo, hi, most, ns, pp, cp, parts, tn⟩⟩ := z
 rfl
def zprt : List Value := prtC ([], 0) false ws0 0 0 0 0 ws0 (typV (typ0 0))
section
variable (cb : Nat) (p : Option Addr) (q : Nat) (l : List TokT)
def PrtSpec (f : FuncId) (args : List Value) (d : Int) (one : CurT → PrtP × CurT) : Prop :=
 ∀ c, CurOk l c → c.d = d → CallsE Tryz.prog f args (curE cb p q l c) fun u es' => ∃ z : PrtA, u = .agg ⟨prtV z⟩ ∧ plP z = (one c).1 ∧ es' = curE cb p q l (one c).2 ++ [prtE z]
set_option maxRecDepth 20000 in
set_option maxHeartbeats 8000000 in
theorem sx_parts1 {f : FuncId} {fn : Func} [FN Tryz.prog f fn] (first caps : List Value) (d : Int) (one : CurT → PrtP × CurT) (hone : PrtSpec cb p q l f (first ++ caps) d one) (ob gb : Nat) (hl : TokOk l) (ho : ∀ c, CurOk l c → c.d = d → Adv l c (one c).2) :
 OneSpec cb p q l 119 [ptr ob, ptr gb] d (addP one) (fun x : PtsA => plPs x.zs) (fun x => x.zs.length) (ptsH ob gb (.func (.func f) ⟨first⟩ ⟨caps⟩)) := by
 intro c x hc hd he hsz
 obtain ⟨zs, pz, cz⟩ := x
 simp only at hsz
 have hbig := hl.big
 have i0 := hc.i0
 have i1 := hc.i1
 have a1 := ho c hc hd
 have a0 := a1.i
 have hup : ∀ z : PrtA, upd (zs.flatMap prtV ++ zprt) (0 + zs.length * 18) (prtV z) = zs.flatMap prtV ++ prtV z := fun z => by
  rw [Nat.zero_add, ← flat18 zs]; exact upd_all _ _ _ (by rw [prtV_len]; rfl)
 have hlen : ∀ z : PrtA, 0 + zs.length * 18 + (prtV z).length ≤ (zs.flatMap prtV ++ zprt).length := fun z => by
  rw [List.length_append, flat18, prtV_len, Nat.zero_add]; exact Nat.le_refl _
 have e1 : ∀ z : PrtA, (zs ++ [z]).length = zs.length + 1 := fun z => by simp
 have e2 : ∀ z : PrtA, (zs ++ [z]).flatMap prtV = zs.flatMap prtV ++ prtV z := fun z => by simp
 have hP : ∀ z : PrtA, plP z = (one c).1 → ∀ p' q', Value.tuple #[] = Value.tuple #[] ∧ ∃ x' : PtsA, plPs x'.zs = (addP one c (plPs zs)).1 ∧ x'.zs.length ≤ (addP one c (plPs zs)).2.i.toNat + 1 ∧ curE cb p q l (addP one c (plPs zs)).2 ++ ptsH ob gb (.func (.func f) ⟨first⟩ ⟨caps⟩) ⟨zs ++ [z], p', q'⟩ = curE cb p q l (addP one c (plPs zs)).2 ++ ptsH ob gb (.func (.func f) ⟨first⟩ ⟨caps⟩) x' := fun z hz p' q' =>
  ⟨rfl, ⟨zs ++ [z], p', q'⟩, by rw [plPs_snoc, hz]; rfl, by rw [e1]; simp only [addP]; omega, rfl⟩
 refine sy_enterE rfl rfl (fun w => ?_)
 simp only [initFr, curE, ptsH, List.cons_append, List.nil_append]
 skip
 refine sy_two 2 4 (by kernel_rfl) ?_ ?_
 · refine any_drawE3 _ 6 [(0, false), (1, false), (3, false), (2, true), (4, true), (5, true)] (by kernel_rfl) rfl (sd (sd (sk (sk (List.nil_sublist _))))) rfl rfl ?_
   repeat (first | refine dre_rd (fun _ _ => ov_lens rfl) rfl ?_ | refine dre_rd (fun _ _ => ov_ld 0 rfl rfl rfl) rfl ?_ | refine dre_rd (fun _ _ => ov_ld 1 rfl rfl rfl) rfl ?_)
   refine dre_ef rfl ?_
   refine sy_callET (curE cb p q l _) rfl rfl (by simp) rfl rfl (hone _ hc hd) ?_
   rintro _ _ ⟨z, rfl, hz, rfl⟩
   simp only [curE, List.cons_append, List.nil_append]
   refine dre_ek (sd (sd (sd (sk (sk (List.nil_sublist _)))))) ?_
   refine dre_ef rfl ?_
   refine sy_buildSlice rfl rfl rfl rfl rfl rfl rfl rfl ?_
   intro nb
   refine dre_ek (sd (sd (sd (sd (sk (sk (List.nil_sublist _))))))) ?_
   refine dre_ef rfl ?_
   have h1a : oneAll zprt = true := rfl
   refine sy_append 6 0 rfl rfl rfl rfl rfl rfl rfl rfl h1a rfl rfl (by omega) (by show (_ + 1) * 224 ≤ _; omega) ?_
   intro p' q'
   refine dre_ek (sd (sd (sd (sd (sk (sk (List.nil_sublist _))))))) ?_
   repeat (refine dre_end ?_)
   refine ⟨?_, ?_, ?_⟩
   · refine sy_weaken (fun _ _ h => h) (sd sr) ?_
     refine sy_vecAddr 5 rfl (by omega) ?_
     rintro g ⟨rfl⟩
     repeat ((refine gO ?_; (refine sy_ov (ov_indexAddr rfl rfl ?_ ?_) rfl rfl ?_; omega; omega)))
     refine sy_storev 5 rfl rfl rfl rfl (prtV_len z) (oneAll_prt z) (hlen z) rfl (hup z) ?_
     refine sy_order [6, 2, 0, 1, 3, 4, 5] rfl rfl ?_
     simp only [List.set_cons_zero, List.set_cons_succ, List.filterMap_cons, List.filterMap_nil, List.getElem?_cons_zero, List.getElem?_cons_succ]
     refine sy_prtsAdd ?_
     refine sy_order [1, 2, 3, 4, 5, 0] rfl rfl ?_
     simp only [List.set_cons_zero, List.set_cons_succ, List.filterMap_cons, List.filterMap_nil, List.getElem?_cons_zero, List.getElem?_cons_succ]
     repeat (first | refine yK ?_ | (refine gO ?_; (refine gS ?_; refine yS 2 ?_)))
     exact end0w rfl fun w' hw' => postE hw' _ (sub_self (by (try simp only [curE, ptsH, List.cons_append, List.nil_append]); rw [e1 z, e2 z]; exact sr)) rfl (hP z hz _ _)
   · refine sy_weaken (fun _ _ h => h) (sd sr) ?_
     refine sy_vecAddr 5 rfl (by omega) ?_
     rintro g ⟨rfl⟩
     repeat ((refine gO ?_; first | (refine gS ?_; refine yS 3 ?_) | (refine sy_ov (ov_indexAddr rfl rfl ?_ ?_) rfl rfl ?_; omega; omega)))
     refine sy_storev 5 rfl rfl rfl rfl (prtV_len z) (oneAll_prt z) (hlen z) rfl (hup z) ?_
     refine sy_order [6, 2, 0, 1, 3, 4, 5] rfl rfl ?_
     simp only [List.set_cons_zero, List.set_cons_succ, List.filterMap_cons, List.filterMap_nil, List.getElem?_cons_zero, List.getElem?_cons_succ]
     refine sy_prtsAdd ?_
     refine sy_order [1, 2, 3, 4, 5, 0] rfl rfl ?_
     simp only [List.set_cons_zero, List.set_cons_succ, List.filterMap_cons, List.filterMap_nil, List.getElem?_cons_zero, List.getElem?_cons_succ]
     repeat (refine yK ?_)
     exact end0w rfl fun w' hw' => postE hw' _ (sub_self (by (try simp only [curE, ptsH, List.cons_append, List.nil_append]); rw [e1 z, e2 z]; exact sr)) rfl (hP z hz _ _)
   · refine sy_weaken (fun _ _ h => h) (sd sr) ?_
     refine sy_vecAddr 5 rfl (by omega) ?_
     rintro g ⟨rfl⟩
     repeat ((refine gO ?_; first | (refine gS ?_; refine yS 3 ?_) | (refine sy_ov (ov_indexAddr rfl rfl ?_ ?_) rfl rfl ?_; omega; omega)))
     refine sy_storev 5 rfl rfl rfl rfl (prtV_len z) (oneAll_prt z) (hlen z) rfl (hup z) ?_
     refine sy_order [6, 2, 0, 1, 3, 4, 5] rfl rfl ?_
     simp only [List.set_cons_zero, List.set_cons_succ, List.filterMap_cons, List.filterMap_nil, List.getElem?_cons_zero, List.getElem?_cons_succ]
     refine sy_prtsAdd ?_
     refine sy_order [1, 2, 3, 4, 5, 0] rfl rfl ?_
     simp only [List.set_cons_zero, List.set_cons_succ, List.filterMap_cons, List.filterMap_nil, List.getElem?_cons_zero, List.getElem?_cons_succ]
     repeat (refine yK ?_)
     exact end0w rfl fun w' hw' => postE hw' _ (sub_self (by (try simp only [curE, ptsH, List.cons_append, List.nil_append]); rw [e1 z, e2 z]; exact sr)) rfl (hP z hz _ _)
 · refine any_drawE3 _ 6 [(0, false), (1, false), (3, false), (4, true), (2, true), (5, true)] (by kernel_rfl) rfl (sd (sd (sk (sk (List.nil_sublist _))))) rfl rfl ?_
   repeat (first | refine dre_rd (fun _ _ => ov_lens rfl) rfl ?_ | refine dre_rd (fun _ _ => ov_ld 0 rfl rfl rfl) rfl ?_ | refine dre_rd (fun _ _ => ov_ld 1 rfl rfl rfl) rfl ?_)
   refine dre_ef rfl ?_
   refine sy_buildSlice rfl rfl rfl rfl rfl rfl rfl rfl ?_
   intro nb
   refine dre_ek (sd (sd (sd (sk (sk (List.nil_sublist _)))))) ?_
   refine dre_ef rfl ?_
   refine sy_order [1, 2, 0, 3, 4, 5, 6] rfl rfl ?_
   simp only [List.set_cons_zero, List.set_cons_succ, List.filterMap_cons, List.filterMap_nil, List.getElem?_cons_zero, List.getElem?_cons_succ]
   refine sy_callET (curE cb p q l _) rfl rfl (by simp) rfl rfl (hone _ hc hd) ?_
   rintro _ _ ⟨z, rfl, hz, rfl⟩
   simp only [curE, List.cons_append, List.nil_append]
   refine dre_ek (sd (sd (sd (sd (sk (sk (List.nil_sublist _))))))) ?_
   refine dre_ef rfl ?_
   refine sy_order [3, 0, 1, 2, 4, 5, 6, 7] rfl rfl ?_
   simp only [List.set_cons_zero, List.set_cons_succ, List.filterMap_cons, List.filterMap_nil, List.getElem?_cons_zero, List.getElem?_cons_succ]
   have h1a : oneAll zprt = true := rfl
   refine sy_append 6 0 rfl rfl rfl rfl rfl rfl rfl rfl h1a rfl rfl (by omega) (by show (_ + 1) * 224 ≤ _; omega) ?_
   intro p' q'
   refine dre_ek (sd (sd (sd (sd (sk (sk (List.nil_sublist _))))))) ?_
   repeat (refine dre_end ?_)
   refine ⟨?_, ?_, ?_⟩
   · refine sy_weaken (fun _ _ h => h) (sd sr) ?_
     refine sy_vecAddr 5 rfl (by omega) ?_
     rintro g ⟨rfl⟩
     repeat ((refine gO ?_; (refine sy_ov (ov_indexAddr rfl rfl ?_ ?_) rfl rfl ?_; omega; omega)))
     refine sy_storev 5 rfl rfl rfl rfl (prtV_len z) (oneAll_prt z) (hlen z) rfl (hup z) ?_
     refine sy_order [6, 2, 0, 1, 3, 4, 5] rfl rfl ?_
     simp only [List.set_cons_zero, List.set_cons_succ, List.filterMap_cons, List.filterMap_nil, List.getElem?_cons_zero, List.getElem?_cons_succ]
     refine sy_prtsAdd ?_
     refine sy_order [1, 2, 3, 4, 5, 0] rfl rfl ?_
     simp only [List.set_cons_zero, List.set_cons_succ, List.filterMap_cons, List.filterMap_nil, List.getElem?_cons_zero, List.getElem?_cons_succ]
     repeat (first | refine yK ?_ | (refine gO ?_; (refine gS ?_; refine yS 2 ?_)))
     exact end0w rfl fun w' hw' => postE hw' _ (sub_self (by (try simp only [curE, ptsH, List.cons_append, List.nil_append]); rw [e1 z, e2 z]; exact sr)) rfl (hP z hz _ _)
   · refine sy_weaken (fun _ _ h => h) (sd sr) ?_
     refine sy_vecAddr 5 rfl (by omega) ?_
     rintro g ⟨rfl⟩
     repeat ((refine gO ?_; first | (refine gS ?_; refine yS 3 ?_) | (refine sy_ov (ov_indexAddr rfl rfl ?_ ?_) rfl rfl ?_; omega; omega)))
     refine sy_storev 5 rfl rfl rfl rfl (prtV_len z) (oneAll_prt z) (hlen z) rfl (hup z) ?_
     refine sy_order [6, 2, 0, 1, 3, 4, 5] rfl rfl ?_
     simp only [List.set_cons_zero, List.set_cons_succ, List.filterMap_cons, List.filterMap_nil, List.getElem?_cons_zero, List.getElem?_cons_succ]
     refine sy_prtsAdd ?_
     refine sy_order [1, 2, 3, 4, 5, 0] rfl rfl ?_
     simp only [List.set_cons_zero, List.set_cons_succ, List.filterMap_cons, List.filterMap_nil, List.getElem?_cons_zero, List.getElem?_cons_succ]
     repeat (refine yK ?_)
     exact end0w rfl fun w' hw' => postE hw' _ (sub_self (by (try simp only [curE, ptsH, List.cons_append, List.nil_append]); rw [e1 z, e2 z]; exact sr)) rfl (hP z hz _ _)
   · refine sy_weaken (fun _ _ h => h) (sd sr) ?_
     refine sy_vecAddr 5 rfl (by omega) ?_
     rintro g ⟨rfl⟩
     repeat ((refine gO ?_; first | (refine gS ?_; refine yS 3 ?_) | (refine sy_ov (ov_indexAddr rfl rfl ?_ ?_) rfl rfl ?_; omega; omega)))
     refine sy_storev 5 rfl rfl rfl rfl (prtV_len z) (oneAll_prt z) (hlen z) rfl (hup z) ?_
     refine sy_order [6, 2, 0, 1, 3, 4, 5] rfl rfl ?_
     simp only [List.set_cons_zero, List.set_cons_succ, List.filterMap_cons, List.filterMap_nil, List.getElem?_cons_zero, List.getElem?_cons_succ]
     refine sy_prtsAdd ?_
     refine sy_order [1, 2, 3, 4, 5, 0] rfl rfl ?_
     simp only [List.set_cons_zero, List.set_cons_succ, List.filterMap_cons, List.filterMap_nil, List.getElem?_cons_zero, List.getElem?_cons_succ]
     repeat (refine yK ?_)
     exact end0w rfl fun w' hw' => postE hw' _ (sub_self (by (try simp only [curE, ptsH, List.cons_append, List.nil_append]); rw [e1 z, e2 z]; exact sr)) rfl (hP z hz _ _)
end
end Go.Proofs.YtldjakeigjngoaaGreat
/- Contracts of the types' readers: parts in braces; names of an enum. -/
namespace Go.Proofs.YtldjakeigjngoaaGreat
open Go.RowKit Bf
def prtsRow (x : PtsA) : En := vec 82 18 (.slice x.p x.zs.length x.c) x.zs.length (x.zs.flatMap prtV)
def namH (tb b4 b3 cb : Nat) (k a : Int) (x : WsA) : List En :=
 [blk tb 38 [.int .i64 k, .int .i64 a, .int .i64 0, .int .i64 0, .int .i64 0, .slice x.p x.l.length x.c, .slice none 0 0, S [], .int .i64 0], blk b4 111 [ptr tb], blk b3 71 [ptr cb], wsRow x.l x.p x.c]
section
variable (cb : Nat) (p : Option Addr) (q : Nat) (l : List TokT)
set_option maxRecDepth 20000 in
set_option maxHeartbeats 8000000 in
theorem sx_parts {f : FuncId} {fn : Func} [FN Tryz.prog f fn] (first caps : List Value) (nn : Bool) (one : CurT → PrtP × CurT) (c : CurT) (hone : PrtSpec cb p q l f (first ++ caps) c.d one) (hl : TokOk l) (hc : CurOk l c) (ho : ∀ c', CurOk l c' → c'.d = c.d → Adv l c' (one c').2) :
 CallsE Tryz.prog 100 [prs cb, .bool nn, .func (.func f) ⟨first⟩ ⟨caps⟩] (curE cb p q l c) fun u es' => ∃ x : PtsA, u = .slice x.p x.zs.length x.c ∧ plPs x.zs = (prtsP l one nn c).1 ∧ es' = curE cb p q l (prtsP l one nn c).2 ++ [prtsRow x, prtsE x.zs] := by
 have a1 := Adv.need hl hc [123] (by simp)
 have hlist := fun (ob gb : Nat) => sx_list cb p q l (needT l c [123]) [125] nn [] [ptr ob, ptr gb] c.d (addP one) (fun x : PtsA => plPs x.zs) (fun x => x.zs.length) (ptsH ob gb (.func (.func f) ⟨first⟩ ⟨caps⟩)) (fun c' y h hd => ho c' h hd) (sx_parts1 cb p q l first caps c.d one hone ob gb hl ho) hl a1.ok a1.d ⟨[], none, 0⟩ (fun _ => Nat.zero_le _)
 refine sy_enterE rfl rfl (fun w => ?_)
 simp only [initFr, curE, ptsH, List.cons_append, List.nil_append]
 repeat (first | refine yK ?_ | (refine gO ?_; first | refine yP ?_ | (refine gL ?_; refine yL 2 ?_) | refine yF ?_ | (refine sy_box rfl rfl rfl ?_; intro _) | (refine yA ?_; intro _)))
 rename_i b3 gb ob
 refine sy_order [3, 4, 2, 0, 1] rfl rfl ?_
 simp only [List.set_cons_zero, List.set_cons_succ, List.filterMap_cons, List.filterMap_nil, List.getElem?_cons_zero, List.getElem?_cons_succ]
 skip
 refine sy_callE (curE cb p q l _) rfl rfl rfl (cur_need cb p q l c hl hc [123]) ?_
 rintro _ _ ⟨rfl, rfl⟩
 simp only [curE, List.cons_append, List.nil_append]
 refine sy_prts0 ?_
 refine sy_grow 82 18 ?_
 refine sy_order [2, 3, 4, 5, 6, 0, 1] rfl rfl ?_
 simp only [List.set_cons_zero, List.set_cons_succ, List.filterMap_cons, List.filterMap_nil, List.getElem?_cons_zero, List.getElem?_cons_succ]
 repeat (first | refine yK ?_ | (refine gO ?_; first | refine yP ?_ | (refine gL ?_; refine yL 2 ?_)))
 refine sy_ov (ov_makeFunc rfl rfl) rfl rfl ?_
 refine sy_order [0, 1, 3, 4, 5, 6, 2] rfl rfl ?_
 simp only [List.set_cons_zero, List.set_cons_succ, List.filterMap_cons, List.filterMap_nil, List.getElem?_cons_zero, List.getElem?_cons_succ]
 refine sy_callE (curE cb p q l _ ++ ptsH ob gb (.func (.func f) ⟨first⟩ ⟨caps⟩) ⟨[], none, 0⟩) rfl rfl rfl (hlist ob gb) ?_
 rintro _ _ ⟨rfl, x, hx, rfl⟩
 simp only [curE, ptsH, List.cons_append, List.nil_append]
 repeat (first | refine yK ?_ | (refine gO ?_; first | refine yP ?_ | (refine gL ?_; refine yL 2 ?_)) | refine sy_rt ?_)
 exact ret1w rfl rfl fun w' hw' => postE hw' _ (sub_self (sk (sk (sd (sd (sk (sk (List.nil_sublist _)))))))) rfl ⟨x, rfl, hx, rfl⟩
set_option maxRecDepth 20000 in
set_option maxHeartbeats 8000000 in
theorem sx_body1 (d k a : Int) (tb b4 b3 : Nat) (hl : TokOk l) :
 OneSpec cb p q l 99 [ptr b4, ptr b3] d (addP (nam1 l)) (fun x : WsA => x.l) (fun x => x.l.length) (namH tb b4 b3 cb k a) := by
 intro c x hc hd he hsz
 obtain ⟨px, qx, ys⟩ := x
 simp only at hsz
 have hbig := hl.big
 have i0 := hc.i0
 have i1 := hc.i1
 have a1 := Adv.nam hl hc
 have a0 := a1.i
 refine sy_enterE rfl rfl (fun w => ?_)
 simp only [initFr, curE, namH, wsRow, List.cons_append, List.nil_append]
 skip
 refine sy_drawE _ 9 [(0, false), (1, false), (2, false), (3, false), (4, false), (5, false), (6, true), (7, true), (8, true)] (by kernel_rfl) rfl ((sd (sd (sk (sk (sk (List.nil_sublist _))))))) ?_
 repeat (first | refine dre_rd (fun _ _ => ov_p rfl) rfl ?_ | refine dre_rd (fun _ _ => ov_ld 0 rfl rfl rfl) rfl ?_ | refine dre_rd (fun _ _ => ov_ld 1 rfl rfl rfl) rfl ?_ | refine dre_rd (fun _ _ => ov_ld 2 rfl rfl rfl) rfl ?_ | refine dre_rd (fun _ _ => ov_fieldAddr rfl rfl rfl) rfl ?_)
 refine dre_ef rfl ?_
 refine sy_callE (curE cb p q l _) rfl rfl rfl (sx_name cb p q l c hl hc) ?_
 rintro _ _ ⟨rfl, rfl⟩
 simp only [curE, List.cons_append, List.nil_append]
 refine dre_ek (sd (sd (sk (sk (sk (List.nil_sublist _)))))) ?_
 refine dre_ef rfl ?_
 refine sy_buildSlice rfl rfl rfl rfl rfl rfl rfl rfl ?_
 intro nb
 refine dre_ek (sd (sd (sd (sk (sk (sk (List.nil_sublist _))))))) ?_
 refine dre_ef rfl ?_
 refine sy_append 6 0 rfl rfl rfl rfl rfl rfl rfl rfl rfl rfl rfl (by omega) (by show (_ + 1) * 24 ≤ _; omega) ?_
 intro p' q'
 refine dre_ek (sd (sd (sd (sk (sk (sk (List.nil_sublist _))))))) ?_
 repeat (refine dre_end ?_)
 refine sy_weaken (fun _ _ h => h) (sd sr) ?_
 repeat (first | refine yK ?_ | (refine gO ?_; first | refine yP ?_ | (refine gS ?_; refine yS 2 ?_) | refine yF ?_))
 exact end0w rfl fun w' hw' => postE hw' (curE cb p q l (namCu l c) ++ namH tb b4 b3 cb k a ⟨some p', q', ys ++ [namW l c]⟩) (sub_self (by simp only [curE, namH, wsRow, words_snoc, List.cons_append, List.nil_append, List.length_append, List.length_singleton]; exact sk (sk (sk (sk (sk (sk (List.nil_sublist _)))))))) rfl ⟨rfl, ⟨some p', q', ys ++ [namW l c]⟩, rfl, by simp only [List.length_append, List.length_singleton, addP, nam1]; omega, rfl⟩
end
end Go.Proofs.YtldjakeigjngoaaGreat
/- Contracts of the types' readers: what stands behind a type's word. -/
namespace Go.Proofs.YtldjakeigjngoaaGreat
open Go.RowKit Bf
section
variable {P : Program} {C : Cx} {k : List It} {fr : Fr} {hp : List En}
theorem sy_typN (kk a lo hi most : Int) (nm : WordT) (h : Sy P C k fr (typE (.mk kk a lo hi most ws0 none 0 [] nm) :: hp)) : Sy P C k fr hp := sy_nothing _ (fun b hb => by
 simp only [typE, ws0, domT, domPs, inSl] at hb
 rcases hb with ⟨o, h, _⟩ | ⟨o, h, _⟩ | h
 · cases h
 · cases h
 · exact h) (fun w => by
 simp only [typE, TypJ, PrtsJ]
 exact ⟨WsJ.nil w, Nat.zero_le _, IsSl.nil _ _ _, trivial⟩) h
theorem sy_typW (kk a lo hi most : Int) (nm : WordT) {e : TypeId} {ns : List WordT} {pn : Option Addr} {cn : Nat} (h : Sy P C k fr (typE (.mk kk a lo hi most ⟨pn, cn, ns⟩ none 0 [] nm) :: hp)) : Sy P C k fr (vec e 2 (.slice pn ns.length cn) ns.length (ns.flatMap wordV) :: hp) :=
 sy_imp (typE (.mk kk a lo hi most ⟨pn, cn, ns⟩ none 0 [] nm)) (fun b hb => by
  simp only [typE, domT, domPs] at hb
  rcases hb with ⟨o, rfl, rfl⟩ | ⟨o, h, _⟩ | h
  · exact rfl
  · cases h
  · exact h.elim) (fun w h => by
  simp only [typE, TypJ, PrtsJ]
  exact ⟨ws_row h, Nat.zero_le _, IsSl.nil _ _ _, trivial⟩) h
theorem sy_typP (kk a lo hi most : Int) (nm : WordT) {e : TypeId} {pp : Option Addr} {cp : Nat} {parts : List PrtA} (h : Sy P C k fr (typE (.mk kk a lo hi most ws0 pp cp parts nm) :: hp)) : Sy P C k fr (vec e 18 (.slice pp parts.length cp) parts.length (parts.flatMap prtV) :: prtsE parts :: hp) :=
 sy_ws0 (sy_typMk kk a lo hi most nm h)
theorem sy_part0 {z : TypA} (h : Sy P C k fr (prtsE [.mk zw false ws0 0 0 0 0 ws0 z] :: hp)) : Sy P C k fr (typE z :: hp) :=
 sy_imp (prtsE [.mk zw false ws0 0 0 0 0 ws0 z]) (fun b hb => by
  simp only [prtsE, domPs, domP, ws0, inSl, or_false] at hb
  rcases hb with ⟨o, h, _⟩ | ⟨o, h, _⟩ | h
  · cases h
  · cases h
  · exact h) (fun w h => by
  simp only [prtsE, PrtsJ, PrtJ]
  exact ⟨⟨WsJ.nil w, WsJ.nil w, h⟩, trivial⟩) h
end
def tC (k a lo hi most : Int) (ns pp : Value) (nm : WordT) : List Value := [.int .i64 k, .int .i64 a, .int .i64 lo, .int .i64 hi, .int .i64 most, ns, pp, S nm.1, .int .i64 nm.2]
def nilS : Value := .slice none 0 0
def BodP (cb : Nat) (p : Option Addr) (q : Nat) (l : List TokT) (tb : Nat) (r : Bool × TypP × CurT) (u : Value) (es : List En) : Prop :=
 u = .bool r.1 ∧ ∃ z : TypA, plT z = r.2.1 ∧ es = curE cb p q l r.2.2 ++ [blk tb 38 (typV z), typE z]
def BodCalls (cb : Nat) (p : Option Addr) (q : Nat) (l : List TokT) (c : CurT) (tb : Nat) (a : Int) (w : List UInt8) (kd : CurT → TypP × CurT) : Prop :=
 CallsE Tryz.prog 56 [prs cb, ptr tb, S w] (curE cb p q l c ++ [blk tb 38 (tC 0 a 0 0 0 nilS nilS zw)]) (BodP cb p q l tb (bodP l kd w a c))
section
variable (cb : Nat) (p : Option Addr) (q : Nat) (l : List TokT) (c : CurT)
set_option maxRecDepth 20000 in
set_option maxHeartbeats 8000000 in
theorem sx_body_bool (tb : Nat) (a : Int) (kd : CurT → TypP × CurT) : BodCalls cb p q l c tb a wBool kd := by
 have hr : bodP l kd wBool a c = (true, .mk 1 a 0 0 0 [] [] zw, c) := by unfold bodP; rw [if_pos rfl]
 unfold BodCalls
 rw [hr]
 refine sy_enterE rfl rfl (fun w => ?_)
 simp only [initFr, curE, tC, nilS, List.cons_append, List.nil_append]
 repeat (first | refine yK ?_ | (refine gO ?_; first | refine yP ?_ | (refine sy_box rfl rfl rfl ?_; intro _)))
 rename_i b3 b4
 refine sy_order [2, 3, 4, 0, 1] rfl rfl ?_
 simp only [List.set_cons_zero, List.set_cons_succ, List.filterMap_cons, List.filterMap_nil, List.getElem?_cons_zero, List.getElem?_cons_succ]
 skip
 refine sy_cond_t rfl (by rfl) ?_
 refine sy_typN 1 a 0 0 0 zw ?_
 refine sy_order [1, 2, 3, 0, 4, 5] rfl rfl ?_
 simp only [List.set_cons_zero, List.set_cons_succ, List.filterMap_cons, List.filterMap_nil, List.getElem?_cons_zero, List.getElem?_cons_succ]
 repeat (first | refine yK ?_ | (refine gO ?_; first | refine yP ?_ | (refine gL ?_; refine yL 4 ?_) | (refine gS ?_; refine yS 2 ?_) | refine yF ?_) | refine sy_rt ?_)
 exact ret1w rfl rfl fun w' hw' => postE hw' _ (sub_self (sk (sk (sk (sk (List.nil_sublist _)))))) rfl ⟨rfl, (.mk 1 a 0 0 0 ws0 none 0 [] zw), by (try simp only [plT, plPs, plP]); first | rfl | (simp only [*]; done) | (simp only [*]; rfl), rfl⟩
set_option maxRecDepth 20000 in
set_option maxHeartbeats 8000000 in
theorem sx_body_int (tb : Nat) (a : Int) (kd : CurT → TypP × CurT) (hl : TokOk l) (hc : CurOk l c) : BodCalls cb p q l c tb a wInt kd := by
 have hr : bodP l kd wInt a c = (true, .mk 2 a (numN l (needT l c [40])) (numN l (needT l (numCu l (needT l c [40])) [46, 46])) 0 [] [] zw, needT l (numCu l (needT l (numCu l (needT l c [40])) [46, 46])) [41]) := by
  unfold bodP; rw [if_neg (by decide), if_pos rfl]
 have a1 := Adv.need hl hc [40] (by simp)
 have a2 := Adv.num hl a1.ok
 have a3 := Adv.need hl a2.ok [46, 46] (by simp)
 have a4 := Adv.num hl a3.ok
 unfold BodCalls
 rw [hr]
 refine sy_enterE rfl rfl (fun w => ?_)
 simp only [initFr, curE, tC, nilS, List.cons_append, List.nil_append]
 repeat (first | refine yK ?_ | (refine gO ?_; first | refine yP ?_ | (refine sy_box rfl rfl rfl ?_; intro _)))
 rename_i b3 b4
 refine sy_order [2, 3, 4, 0, 1] rfl rfl ?_
 simp only [List.set_cons_zero, List.set_cons_succ, List.filterMap_cons, List.filterMap_nil, List.getElem?_cons_zero, List.getElem?_cons_succ]
 skip
 refine sy_cond_f rfl (by rfl) ?_
 repeat (first | refine yK ?_ | (refine gO ?_; refine yP ?_))
 refine sy_cond_t rfl (by rfl) ?_
 repeat (first | refine yK ?_ | (refine gO ?_; first | refine yP ?_ | (refine gL ?_; first | refine yL 3 ?_ | refine yL 4 ?_) | (refine gS ?_; refine yS 2 ?_) | refine yF ?_))
 refine sy_callE (curE cb p q l _) rfl rfl rfl (cur_need cb p q l c hl hc [40]) ?_
 rintro _ _ ⟨rfl, rfl⟩
 simp only [curE, List.cons_append, List.nil_append]
 repeat (refine yK ?_)
 refine sy_drawE _ 3 [(0, false), (1, false), (2, true)] (by kernel_rfl) rfl ((sd (sd (sd (sk (sk (List.nil_sublist _))))))) ?_
 repeat (first | refine dre_rd (fun _ _ => ov_ld 0 rfl rfl rfl) rfl ?_ | refine dre_rd (fun _ _ => ov_ld 1 rfl rfl rfl) rfl ?_)
 refine dre_ef rfl ?_
 refine sy_callE (curE cb p q l _) rfl rfl rfl (sx_number cb p q l _ hl a1.ok) ?_
 rintro _ _ ⟨rfl, rfl⟩
 simp only [curE, List.cons_append, List.nil_append]
 refine dre_ek (sd (sd (sd (sk (sk (List.nil_sublist _)))))) ?_
 repeat (refine dre_end ?_)
 repeat (first | refine yK ?_ | (refine gO ?_; first | refine yP ?_ | (refine gL ?_; refine yL 4 ?_) | (refine gS ?_; refine yS 2 ?_) | refine yF ?_))
 refine sy_callE (curE cb p q l _) rfl rfl rfl (cur_need cb p q l _ hl a2.ok [46, 46]) ?_
 rintro _ _ ⟨rfl, rfl⟩
 simp only [curE, List.cons_append, List.nil_append]
 repeat (refine yK ?_)
 refine sy_drawE _ 3 [(0, false), (1, false), (2, true)] (by kernel_rfl) rfl ((sd (sd (sd (sk (sk (List.nil_sublist _))))))) ?_
 repeat (first | refine dre_rd (fun _ _ => ov_ld 0 rfl rfl rfl) rfl ?_ | refine dre_rd (fun _ _ => ov_ld 1 rfl rfl rfl) rfl ?_)
 refine dre_ef rfl ?_
 refine sy_callE (curE cb p q l _) rfl rfl rfl (sx_number cb p q l _ hl a3.ok) ?_
 rintro _ _ ⟨rfl, rfl⟩
 simp only [curE, List.cons_append, List.nil_append]
 refine dre_ek (sd (sd (sd (sk (sk (List.nil_sublist _)))))) ?_
 repeat (refine dre_end ?_)
 repeat (first | refine yK ?_ | (refine gO ?_; first | refine yP ?_ | (refine gL ?_; refine yL 4 ?_) | (refine gS ?_; refine yS 2 ?_) | refine yF ?_))
 refine sy_callE (curE cb p q l _) rfl rfl rfl (cur_need cb p q l _ hl a4.ok [41]) ?_
 rintro _ _ ⟨rfl, rfl⟩
 simp only [curE, List.cons_append, List.nil_append]
 refine sy_typN 2 a (numN l (needT l c [40])) (numN l (needT l (numCu l (needT l c [40])) [46, 46])) 0 zw ?_
 refine sy_order [1, 2, 3, 0, 4, 5] rfl rfl ?_
 simp only [List.set_cons_zero, List.set_cons_succ, List.filterMap_cons, List.filterMap_nil, List.getElem?_cons_zero, List.getElem?_cons_succ]
 repeat (first | refine yK ?_ | (refine gO ?_; refine yP ?_) | refine sy_rt ?_)
 exact ret1w rfl rfl fun w' hw' => postE hw' _ (sub_self (sk (sk (sk (sk (List.nil_sublist _)))))) rfl ⟨rfl, (.mk 2 a (numN l (needT l c [40])) (numN l (needT l (numCu l (needT l c [40])) [46, 46])) 0 ws0 none 0 [] zw), by (try simp only [plT, plPs, plP]); first | rfl | (simp only [*]; done) | (simp only [*]; rfl), rfl⟩
set_option maxRecDepth 20000 in
set_option maxHeartbeats 8000000 in
theorem sx_body_text (tb : Nat) (a : Int) (kd : CurT → TypP × CurT) (hl : TokOk l) (hc : CurOk l c) : BodCalls cb p q l c tb a wText kd := by
 have hr : bodP l kd wText a c = (true, .mk 3 a 0 0 (num1P l c).1 [] [] zw, (num1P l c).2) := by
  unfold bodP; rw [if_neg (by decide), if_neg (by decide), if_pos rfl]
 unfold BodCalls
 rw [hr]
 refine sy_enterE rfl rfl (fun w => ?_)
 simp only [initFr, curE, tC, nilS, List.cons_append, List.nil_append]
 repeat (first | refine yK ?_ | (refine gO ?_; first | refine yP ?_ | (refine sy_box rfl rfl rfl ?_; intro _)))
 rename_i b3 b4
 refine sy_order [2, 3, 4, 0, 1] rfl rfl ?_
 simp only [List.set_cons_zero, List.set_cons_succ, List.filterMap_cons, List.filterMap_nil, List.getElem?_cons_zero, List.getElem?_cons_succ]
 skip
 refine sy_cond_f rfl (by rfl) ?_
 repeat (first | refine yK ?_ | (refine gO ?_; refine yP ?_))
 refine sy_cond_f rfl (by rfl) ?_
 repeat (first | refine yK ?_ | (refine gO ?_; refine yP ?_))
 refine sy_cond_t rfl (by rfl) ?_
 skip
 refine sy_drawE _ 7 [(0, false), (1, false), (2, false), (3, true), (4, false), (5, false), (6, true)] (by kernel_rfl) rfl ((sd (sd (sd (sk (sk (List.nil_sublist _))))))) ?_
 repeat (first | refine dre_rd (fun _ _ => ov_ld 0 rfl rfl rfl) rfl ?_ | refine dre_rd (fun _ _ => ov_ld 1 rfl rfl rfl) rfl ?_)
 refine dre_ef rfl ?_
 refine sy_callE (curE cb p q l _) rfl rfl rfl (sx_number1 cb p q l c hl hc) ?_
 rintro _ _ ⟨rfl, rfl⟩
 simp only [curE, List.cons_append, List.nil_append]
 refine dre_ek (sd (sd (sd (sk (sk (List.nil_sublist _)))))) ?_
 repeat (first | refine dre_rd (fun _ _ => ov_p rfl) rfl ?_ | refine dre_rd (fun _ _ => ov_fieldAddr rfl rfl rfl) rfl ?_ | (refine dre_ef rfl ?_; refine yS 2 ?_; refine dre_ek (by repeat first | exact sr | apply sk | apply sd) ?_) | refine dre_end ?_)
 refine sy_typN 3 a 0 0 (num1P l c).1 zw ?_
 refine sy_order [1, 2, 3, 0, 4, 5] rfl rfl ?_
 simp only [List.set_cons_zero, List.set_cons_succ, List.filterMap_cons, List.filterMap_nil, List.getElem?_cons_zero, List.getElem?_cons_succ]
 repeat (first | refine yK ?_ | (refine gO ?_; first | refine yP ?_ | (refine gS ?_; refine yS 2 ?_) | refine yF ?_) | refine sy_rt ?_)
 exact ret1w rfl rfl fun w' hw' => postE hw' _ (sub_self (sk (sk (sk (sk (List.nil_sublist _)))))) rfl ⟨rfl, (.mk 3 a 0 0 (num1P l c).1 ws0 none 0 [] zw), by (try simp only [plT, plPs, plP]); first | rfl | (simp only [*]; done) | (simp only [*]; rfl), rfl⟩
set_option maxRecDepth 20000 in
set_option maxHeartbeats 8000000 in
theorem sx_body_enum (tb : Nat) (a : Int) (kd : CurT → TypP × CurT) (hl : TokOk l) (hc : CurOk l c) : BodCalls cb p q l c tb a wEnum kd := by
 have hr : bodP l kd wEnum a c = (true, .mk 4 a 0 0 0 (namsP l [41] (needT l c [40])).1 [] zw, (namsP l [41] (needT l c [40])).2) := by
  unfold bodP; rw [if_neg (by decide), if_neg (by decide), if_neg (by decide), if_pos rfl]
 have a1 := Adv.need hl hc [40] (by simp)
 have hlist := fun (b4 b3 : Nat) => sx_list cb p q l (needT l c [40]) [41] false [] [ptr b4, ptr b3] c.d (addP (nam1 l)) (fun x : WsA => x.l) (fun x => x.l.length) (namH tb b4 b3 cb 4 a) (fun c' y h hd => Adv.nam hl h) (sx_body1 cb p q l c.d 4 a tb b4 b3 hl) hl a1.ok a1.d ws0 (fun _ => Nat.zero_le _)
 unfold BodCalls
 rw [hr]
 refine sy_enterE rfl rfl (fun w => ?_)
 simp only [initFr, curE, tC, nilS, List.cons_append, List.nil_append]
 repeat (first | refine yK ?_ | (refine gO ?_; first | refine yP ?_ | (refine sy_box rfl rfl rfl ?_; intro _)))
 rename_i b3 b4
 refine sy_order [2, 3, 4, 0, 1] rfl rfl ?_
 simp only [List.set_cons_zero, List.set_cons_succ, List.filterMap_cons, List.filterMap_nil, List.getElem?_cons_zero, List.getElem?_cons_succ]
 skip
 refine sy_cond_f rfl (by rfl) ?_
 repeat (first | refine yK ?_ | (refine gO ?_; refine yP ?_))
 refine sy_cond_f rfl (by rfl) ?_
 repeat (first | refine yK ?_ | (refine gO ?_; refine yP ?_))
 refine sy_cond_f rfl (by rfl) ?_
 repeat (first | refine yK ?_ | (refine gO ?_; refine yP ?_))
 refine sy_cond_t rfl (by rfl) ?_
 repeat (first | refine yK ?_ | (refine gO ?_; first | refine yP ?_ | (refine gL ?_; first | refine yL 3 ?_ | refine yL 4 ?_) | (refine gS ?_; refine yS 2 ?_) | refine yF ?_))
 refine sy_cells 2 [.int .i64 4, .int .i64 a, .int .i64 0, .int .i64 0, .int .i64 0, .slice none 0 0, .slice none 0 0, S [], .int .i64 0] rfl rfl ?_
 refine sy_callE (curE cb p q l _) rfl rfl rfl (cur_need cb p q l c hl hc [40]) ?_
 rintro _ _ ⟨rfl, rfl⟩
 simp only [curE, List.cons_append, List.nil_append]
 repeat (first | refine yK ?_ | (refine gO ?_; (refine gL ?_; refine yL 4 ?_)))
 refine sy_ov (ov_makeFunc rfl rfl) rfl rfl ?_
 refine sy_grow 36 2 ?_
 refine sy_order [1, 2, 3, 4, 5, 0] rfl rfl ?_
 simp only [List.set_cons_zero, List.set_cons_succ, List.filterMap_cons, List.filterMap_nil, List.getElem?_cons_zero, List.getElem?_cons_succ]
 refine sy_callE (curE cb p q l _ ++ namH tb b4 b3 cb 4 a ws0) rfl rfl rfl (hlist b4 b3) ?_
 rintro _ _ ⟨rfl, ⟨px, qx, ys⟩, hx, rfl⟩
 simp only [curE, namH, wsRow, List.cons_append, List.nil_append]
 have hx : ys = (namsP l [41] (needT l c [40])).1 := hx
 refine sy_order [5, 0, 1, 2, 3, 4] rfl rfl ?_
 simp only [List.set_cons_zero, List.set_cons_succ, List.filterMap_cons, List.filterMap_nil, List.getElem?_cons_zero, List.getElem?_cons_succ]
 refine sy_typW 4 a 0 0 0 zw ?_
 refine sy_order [1, 2, 3, 0, 4, 5] rfl rfl ?_
 simp only [List.set_cons_zero, List.set_cons_succ, List.filterMap_cons, List.filterMap_nil, List.getElem?_cons_zero, List.getElem?_cons_succ]
 repeat (first | refine yK ?_ | (refine gO ?_; refine yP ?_) | refine sy_rt ?_)
 exact ret1w rfl rfl fun w' hw' => postE hw' _ (sub_self (sk (sk (sk (sk (List.nil_sublist _)))))) rfl ⟨rfl, .mk 4 a 0 0 0 ⟨px, qx, ys⟩ none 0 [] zw, by simp only [plT, plPs]; rw [hx], rfl⟩
set_option maxRecDepth 20000 in
set_option maxHeartbeats 8000000 in
theorem sx_body_list (tb : Nat) (a : Int) (n : Nat) (hk : KdS n) (hl : TokOk l) (hc : CurOk l c) (hd : c.d + n = 24) : BodCalls cb p q l c tb a wList (kndP l n) := by
 have hr : bodP l (kndP l n) wList a c = (true, .mk 5 a 0 0 (numN l (needT l (kndP l n (needT l c [40])).2 [44])) [] [p0P (kndP l n (needT l c [40])).1] zw, needT l (numCu l (needT l (kndP l n (needT l c [40])).2 [44])) [41]) := by
  unfold bodP; rw [if_neg (by decide), if_neg (by decide), if_neg (by decide), if_neg (by decide), if_pos rfl]
 have a1 := Adv.need hl hc [40] (by simp)
 have a2 := knd_adv hl n c.d hd _ a1.ok a1.d
 have a3 := Adv.need hl a2.ok [44] (by simp)
 have a4 := Adv.num hl a3.ok
 have hkk := hk cb p q l _ hl a1.ok (by rw [a1.d]; exact hd)
 unfold BodCalls
 rw [hr]
 refine sy_enterE rfl rfl (fun w => ?_)
 simp only [initFr, curE, tC, nilS, List.cons_append, List.nil_append]
 repeat (first | refine yK ?_ | (refine gO ?_; first | refine yP ?_ | (refine sy_box rfl rfl rfl ?_; intro _)))
 rename_i b3 b4
 refine sy_order [2, 3, 4, 0, 1] rfl rfl ?_
 simp only [List.set_cons_zero, List.set_cons_succ, List.filterMap_cons, List.filterMap_nil, List.getElem?_cons_zero, List.getElem?_cons_succ]
 skip
 refine sy_cond_f rfl (by rfl) ?_
 repeat (first | refine yK ?_ | (refine gO ?_; refine yP ?_))
 refine sy_cond_f rfl (by rfl) ?_
 repeat (first | refine yK ?_ | (refine gO ?_; refine yP ?_))
 refine sy_cond_f rfl (by rfl) ?_
 repeat (first | refine yK ?_ | (refine gO ?_; refine yP ?_))
 refine sy_cond_f rfl (by rfl) ?_
 repeat (first | refine yK ?_ | (refine gO ?_; refine yP ?_))
 refine sy_cond_t rfl (by rfl) ?_
 repeat (first | refine yK ?_ | (refine gO ?_; first | refine yP ?_ | (refine gL ?_; first | refine yL 3 ?_ | refine yL 4 ?_) | (refine gS ?_; refine yS 2 ?_) | refine yF ?_))
 refine sy_cells 2 [.int .i64 5, .int .i64 a, .int .i64 0, .int .i64 0, .int .i64 0, .slice none 0 0, .slice none 0 0, S [], .int .i64 0] rfl rfl ?_
 refine sy_callE (curE cb p q l _) rfl rfl rfl (cur_need cb p q l c hl hc [40]) ?_
 rintro _ _ ⟨rfl, rfl⟩
 simp only [curE, List.cons_append, List.nil_append]
 repeat (refine yK ?_)
 refine sy_drawE _ 5 [(0, false), (1, false), (2, true), (3, false), (4, true)] (by kernel_rfl) rfl ((sd (sd (sd (sk (sk (List.nil_sublist _))))))) ?_
 repeat (first | refine dre_rd (fun _ _ => ov_ld 0 rfl rfl rfl) rfl ?_ | refine dre_rd (fun _ _ => ov_ld 1 rfl rfl rfl) rfl ?_)
 refine dre_ef rfl ?_
 refine sy_callE (curE cb p q l _) rfl rfl rfl hkk ?_
 rintro _ _ ⟨z, rfl, hz, rfl⟩
 obtain ⟨zk, za, zlo, zhi, zmo, zns, zpp, zcp, zparts, znm⟩ := z
 simp only [curE, List.cons_append, List.nil_append]
 refine dre_ek (sd (sd (sd (sd (sk (sk (List.nil_sublist _))))))) ?_
 repeat (refine dre_rd (fun _ _ => ov_build rfl rfl rfl) rfl ?_)
 refine dre_ef rfl ?_
 refine sy_buildSlice rfl rfl rfl rfl rfl rfl rfl rfl ?_
 intro g
 refine dre_ek (sd (sd (sd (sd (sd (sk (sk (List.nil_sublist _)))))))) ?_
 repeat (refine dre_end ?_)
 refine sy_blkRow (n := 1) (size := 18) 0 rfl rfl (by decide) ?_
 refine sy_order [3, 0, 1, 2, 4, 5, 6] rfl rfl ?_
 simp only [List.set_cons_zero, List.set_cons_succ, List.filterMap_cons, List.filterMap_nil, List.getElem?_cons_zero, List.getElem?_cons_succ]
 refine sy_part0 ?_
 refine sy_order [1, 0, 2, 3, 4, 5, 6] rfl rfl ?_
 simp only [List.set_cons_zero, List.set_cons_succ, List.filterMap_cons, List.filterMap_nil, List.getElem?_cons_zero, List.getElem?_cons_succ]
 repeat (first | refine yK ?_ | (refine gO ?_; first | refine yP ?_ | (refine gS ?_; refine yS 4 ?_) | refine yF ?_))
 refine sy_cells 4 [.int .i64 5, .int .i64 a, .int .i64 0, .int .i64 0, .int .i64 0, .slice none 0 0, .slice (some ⟨g, 0, none⟩) 1 1, S [], .int .i64 0] rfl rfl ?_
 refine sy_order [2, 3, 4, 5, 6, 0, 1] rfl rfl ?_
 simp only [List.set_cons_zero, List.set_cons_succ, List.filterMap_cons, List.filterMap_nil, List.getElem?_cons_zero, List.getElem?_cons_succ]
 repeat ((refine gO ?_; (refine gL ?_; refine yL 4 ?_)))
 refine sy_callE (curE cb p q l _) rfl rfl rfl (cur_need cb p q l _ hl a2.ok [44]) ?_
 rintro _ _ ⟨rfl, rfl⟩
 simp only [curE, List.cons_append, List.nil_append]
 repeat (refine yK ?_)
 refine sy_drawE _ 3 [(0, false), (1, false), (2, true)] (by kernel_rfl) rfl ((sd (sd (sd (sk (sk (List.nil_sublist _))))))) ?_
 repeat (first | refine dre_rd (fun _ _ => ov_ld 0 rfl rfl rfl) rfl ?_ | refine dre_rd (fun _ _ => ov_ld 1 rfl rfl rfl) rfl ?_)
 refine dre_ef rfl ?_
 refine sy_callE (curE cb p q l _) rfl rfl rfl (sx_number cb p q l _ hl a3.ok) ?_
 rintro _ _ ⟨rfl, rfl⟩
 simp only [curE, List.cons_append, List.nil_append]
 refine dre_ek (sd (sd (sd (sk (sk (List.nil_sublist _)))))) ?_
 repeat (refine dre_end ?_)
 repeat (first | refine yK ?_ | (refine gO ?_; first | refine yP ?_ | (refine gL ?_; refine yL 4 ?_) | (refine gS ?_; refine yS 2 ?_) | refine yF ?_))
 refine sy_callE (curE cb p q l _) rfl rfl rfl (cur_need cb p q l _ hl a4.ok [41]) ?_
 rintro _ _ ⟨rfl, rfl⟩
 simp only [curE, List.cons_append, List.nil_append]
 refine sy_order [5, 6, 0, 1, 2, 3, 4] rfl rfl ?_
 simp only [List.set_cons_zero, List.set_cons_succ, List.filterMap_cons, List.filterMap_nil, List.getElem?_cons_zero, List.getElem?_cons_succ]
 refine sy_typP (pp := some ⟨g, 0, none⟩) (cp := 1) (parts := [.mk zw false ws0 0 0 0 0 ws0 (.mk zk za zlo zhi zmo zns zpp zcp zparts znm)]) 5 a 0 0 (numN l (needT l (kndP l n (needT l c [40])).2 [44])) zw ?_
 refine sy_order [1, 2, 3, 0, 4, 5] rfl rfl ?_
 simp only [List.set_cons_zero, List.set_cons_succ, List.filterMap_cons, List.filterMap_nil, List.getElem?_cons_zero, List.getElem?_cons_succ]
 repeat (first | refine yK ?_ | (refine gO ?_; refine yP ?_) | refine sy_rt ?_)
 exact ret1w rfl rfl fun w' hw' => postE hw' _ (sub_self (sk (sk (sk (sk (List.nil_sublist _)))))) rfl ⟨rfl, .mk 5 a 0 0 (numN l (needT l (kndP l n (needT l c [40])).2 [44])) ws0 (some ⟨g, 0, none⟩) 1 [.mk zw false ws0 0 0 0 0 ws0 (.mk zk za zlo zhi zmo zns zpp zcp zparts znm)] zw, by simp only [plT, plPs, plP] at hz ⊢; rw [hz]; rfl, rfl⟩
set_option maxRecDepth 20000 in
set_option maxHeartbeats 8000000 in
theorem sx_body_opt (tb : Nat) (a : Int) (n : Nat) (hk : KdS n) (hl : TokOk l) (hc : CurOk l c) (hd : c.d + n = 24) : BodCalls cb p q l c tb a wOpt (kndP l n) := by
 have hr : bodP l (kndP l n) wOpt a c = (true, .mk 6 a 0 0 0 [] [p0P (kndP l n (needT l c [40])).1] zw, needT l (kndP l n (needT l c [40])).2 [41]) := by
  unfold bodP; rw [if_neg (by decide), if_neg (by decide), if_neg (by decide), if_neg (by decide), if_neg (by decide), if_pos rfl]
 have a1 := Adv.need hl hc [40] (by simp)
 have a2 := knd_adv hl n c.d hd _ a1.ok a1.d
 have hkk := hk cb p q l _ hl a1.ok (by rw [a1.d]; exact hd)
 unfold BodCalls
 rw [hr]
 refine sy_enterE rfl rfl (fun w => ?_)
 simp only [initFr, curE, tC, nilS, List.cons_append, List.nil_append]
 repeat (first | refine yK ?_ | (refine gO ?_; first | refine yP ?_ | (refine sy_box rfl rfl rfl ?_; intro _)))
 rename_i b3 b4
 refine sy_order [2, 3, 4, 0, 1] rfl rfl ?_
 simp only [List.set_cons_zero, List.set_cons_succ, List.filterMap_cons, List.filterMap_nil, List.getElem?_cons_zero, List.getElem?_cons_succ]
 skip
 refine sy_cond_f rfl (by rfl) ?_
 repeat (first | refine yK ?_ | (refine gO ?_; refine yP ?_))
 refine sy_cond_f rfl (by rfl) ?_
 repeat (first | refine yK ?_ | (refine gO ?_; refine yP ?_))
 refine sy_cond_f rfl (by rfl) ?_
 repeat (first | refine yK ?_ | (refine gO ?_; refine yP ?_))
 refine sy_cond_f rfl (by rfl) ?_
 repeat (first | refine yK ?_ | (refine gO ?_; refine yP ?_))
 refine sy_cond_f rfl (by rfl) ?_
 repeat (first | refine yK ?_ | (refine gO ?_; refine yP ?_))
 refine sy_cond_t rfl (by rfl) ?_
 repeat (first | refine yK ?_ | (refine gO ?_; first | refine yP ?_ | (refine gL ?_; first | refine yL 3 ?_ | refine yL 4 ?_) | (refine gS ?_; refine yS 2 ?_) | refine yF ?_))
 refine sy_cells 2 [.int .i64 6, .int .i64 a, .int .i64 0, .int .i64 0, .int .i64 0, .slice none 0 0, .slice none 0 0, S [], .int .i64 0] rfl rfl ?_
 refine sy_callE (curE cb p q l _) rfl rfl rfl (cur_need cb p q l c hl hc [40]) ?_
 rintro _ _ ⟨rfl, rfl⟩
 simp only [curE, List.cons_append, List.nil_append]
 repeat (refine yK ?_)
 refine sy_drawE _ 5 [(0, false), (1, false), (2, true), (3, false), (4, true)] (by kernel_rfl) rfl ((sd (sd (sd (sk (sk (List.nil_sublist _))))))) ?_
 repeat (first | refine dre_rd (fun _ _ => ov_ld 0 rfl rfl rfl) rfl ?_ | refine dre_rd (fun _ _ => ov_ld 1 rfl rfl rfl) rfl ?_)
 refine dre_ef rfl ?_
 refine sy_callE (curE cb p q l _) rfl rfl rfl hkk ?_
 rintro _ _ ⟨z, rfl, hz, rfl⟩
 obtain ⟨zk, za, zlo, zhi, zmo, zns, zpp, zcp, zparts, znm⟩ := z
 simp only [curE, List.cons_append, List.nil_append]
 refine dre_ek (sd (sd (sd (sd (sk (sk (List.nil_sublist _))))))) ?_
 repeat (refine dre_rd (fun _ _ => ov_build rfl rfl rfl) rfl ?_)
 refine dre_ef rfl ?_
 refine sy_buildSlice rfl rfl rfl rfl rfl rfl rfl rfl ?_
 intro g
 refine dre_ek (sd (sd (sd (sd (sd (sk (sk (List.nil_sublist _)))))))) ?_
 repeat (refine dre_end ?_)
 refine sy_blkRow (n := 1) (size := 18) 0 rfl rfl (by decide) ?_
 refine sy_order [3, 0, 1, 2, 4, 5, 6] rfl rfl ?_
 simp only [List.set_cons_zero, List.set_cons_succ, List.filterMap_cons, List.filterMap_nil, List.getElem?_cons_zero, List.getElem?_cons_succ]
 refine sy_part0 ?_
 refine sy_order [1, 0, 2, 3, 4, 5, 6] rfl rfl ?_
 simp only [List.set_cons_zero, List.set_cons_succ, List.filterMap_cons, List.filterMap_nil, List.getElem?_cons_zero, List.getElem?_cons_succ]
 repeat (first | refine yK ?_ | (refine gO ?_; first | refine yP ?_ | (refine gS ?_; refine yS 4 ?_) | refine yF ?_))
 refine sy_cells 4 [.int .i64 6, .int .i64 a, .int .i64 0, .int .i64 0, .int .i64 0, .slice none 0 0, .slice (some ⟨g, 0, none⟩) 1 1, S [], .int .i64 0] rfl rfl ?_
 refine sy_order [2, 3, 4, 5, 6, 0, 1] rfl rfl ?_
 simp only [List.set_cons_zero, List.set_cons_succ, List.filterMap_cons, List.filterMap_nil, List.getElem?_cons_zero, List.getElem?_cons_succ]
 repeat ((refine gO ?_; (refine gL ?_; refine yL 4 ?_)))
 refine sy_callE (curE cb p q l _) rfl rfl rfl (cur_need cb p q l _ hl a2.ok [41]) ?_
 rintro _ _ ⟨rfl, rfl⟩
 simp only [curE, List.cons_append, List.nil_append]
 refine sy_order [5, 6, 0, 1, 2, 3, 4] rfl rfl ?_
 simp only [List.set_cons_zero, List.set_cons_succ, List.filterMap_cons, List.filterMap_nil, List.getElem?_cons_zero, List.getElem?_cons_succ]
 refine sy_typP (pp := some ⟨g, 0, none⟩) (cp := 1) (parts := [.mk zw false ws0 0 0 0 0 ws0 (.mk zk za zlo zhi zmo zns zpp zcp zparts znm)]) 6 a 0 0 0 zw ?_
 refine sy_order [1, 2, 3, 0, 4, 5] rfl rfl ?_
 simp only [List.set_cons_zero, List.set_cons_succ, List.filterMap_cons, List.filterMap_nil, List.getElem?_cons_zero, List.getElem?_cons_succ]
 repeat (first | refine yK ?_ | (refine gO ?_; refine yP ?_) | refine sy_rt ?_)
 exact ret1w rfl rfl fun w' hw' => postE hw' _ (sub_self (sk (sk (sk (sk (List.nil_sublist _)))))) rfl ⟨rfl, .mk 6 a 0 0 0 ws0 (some ⟨g, 0, none⟩) 1 [.mk zw false ws0 0 0 0 0 ws0 (.mk zk za zlo zhi zmo zns zpp zcp zparts znm)] zw, by simp only [plT, plPs, plP] at hz ⊢; rw [hz]; rfl, rfl⟩
set_option maxRecDepth 20000 in
set_option maxHeartbeats 8000000 in
theorem sx_body_ref (tb : Nat) (a : Int) (kd : CurT → TypP × CurT) (hl : TokOk l) (hc : CurOk l c) : BodCalls cb p q l c tb a wRef kd := by
 have hr : bodP l kd wRef a c = (true, .mk 9 a 0 0 0 [] [] (namW l (needT l c [40])), needT l (namCu l (needT l c [40])) [41]) := by
  unfold bodP; rw [if_neg (by decide), if_neg (by decide), if_neg (by decide), if_neg (by decide), if_neg (by decide), if_neg (by decide), if_pos rfl]
 have a1 := Adv.need hl hc [40] (by simp)
 have a2 := Adv.nam hl a1.ok
 unfold BodCalls
 rw [hr]
 refine sy_enterE rfl rfl (fun w => ?_)
 simp only [initFr, curE, tC, nilS, List.cons_append, List.nil_append]
 repeat (first | refine yK ?_ | (refine gO ?_; first | refine yP ?_ | (refine sy_box rfl rfl rfl ?_; intro _)))
 rename_i b3 b4
 refine sy_order [2, 3, 4, 0, 1] rfl rfl ?_
 simp only [List.set_cons_zero, List.set_cons_succ, List.filterMap_cons, List.filterMap_nil, List.getElem?_cons_zero, List.getElem?_cons_succ]
 skip
 refine sy_cond_f rfl (by rfl) ?_
 repeat (first | refine yK ?_ | (refine gO ?_; refine yP ?_))
 refine sy_cond_f rfl (by rfl) ?_
 repeat (first | refine yK ?_ | (refine gO ?_; refine yP ?_))
 refine sy_cond_f rfl (by rfl) ?_
 repeat (first | refine yK ?_ | (refine gO ?_; refine yP ?_))
 refine sy_cond_f rfl (by rfl) ?_
 repeat (first | refine yK ?_ | (refine gO ?_; refine yP ?_))
 refine sy_cond_f rfl (by rfl) ?_
 repeat (first | refine yK ?_ | (refine gO ?_; refine yP ?_))
 refine sy_cond_f rfl (by rfl) ?_
 repeat (first | refine yK ?_ | (refine gO ?_; refine yP ?_))
 refine sy_cond_t rfl (by rfl) ?_
 repeat (first | refine yK ?_ | (refine gO ?_; first | refine yP ?_ | (refine gL ?_; first | refine yL 3 ?_ | refine yL 4 ?_) | (refine gS ?_; refine yS 2 ?_) | refine yF ?_))
 refine sy_callE (curE cb p q l _) rfl rfl rfl (cur_need cb p q l c hl hc [40]) ?_
 rintro _ _ ⟨rfl, rfl⟩
 simp only [curE, List.cons_append, List.nil_append]
 repeat (refine yK ?_)
 refine sy_drawE _ 3 [(0, false), (1, false), (2, true)] (by kernel_rfl) rfl ((sd (sd (sd (sk (sk (List.nil_sublist _))))))) ?_
 repeat (first | refine dre_rd (fun _ _ => ov_ld 0 rfl rfl rfl) rfl ?_ | refine dre_rd (fun _ _ => ov_ld 1 rfl rfl rfl) rfl ?_)
 refine dre_ef rfl ?_
 refine sy_callE (curE cb p q l _) rfl rfl rfl (sx_name cb p q l _ hl a1.ok) ?_
 rintro _ _ ⟨rfl, rfl⟩
 simp only [curE, List.cons_append, List.nil_append]
 refine dre_ek (sd (sd (sd (sk (sk (List.nil_sublist _)))))) ?_
 repeat (refine dre_end ?_)
 repeat (first | refine yK ?_ | (refine gO ?_; first | refine yP ?_ | (refine gL ?_; refine yL 4 ?_) | (refine gS ?_; refine yS 2 ?_) | refine yF ?_))
 refine sy_callE (curE cb p q l _) rfl rfl rfl (cur_need cb p q l _ hl a2.ok [41]) ?_
 rintro _ _ ⟨rfl, rfl⟩
 simp only [curE, List.cons_append, List.nil_append]
 refine sy_typN 9 a 0 0 0 (namW l (needT l c [40])) ?_
 refine sy_order [1, 2, 3, 0, 4, 5] rfl rfl ?_
 simp only [List.set_cons_zero, List.set_cons_succ, List.filterMap_cons, List.filterMap_nil, List.getElem?_cons_zero, List.getElem?_cons_succ]
 repeat (first | refine yK ?_ | (refine gO ?_; refine yP ?_) | refine sy_rt ?_)
 exact ret1w rfl rfl fun w' hw' => postE hw' _ (sub_self (sk (sk (sk (sk (List.nil_sublist _)))))) rfl ⟨rfl, (.mk 9 a 0 0 0 ws0 none 0 [] (namW l (needT l c [40]))), by (try simp only [plT, plPs, plP]); first | rfl | (simp only [*]; done) | (simp only [*]; rfl), rfl⟩
set_option maxRecDepth 20000 in
set_option maxHeartbeats 8000000 in
theorem sx_body_record (tb : Nat) (a : Int) (n : Nat) (hk : KdS n) (hl : TokOk l) (hc : CurOk l c) (hd : c.d + n = 24) : BodCalls cb p q l c tb a wRecord (kndP l n) := by
 have hr : bodP l (kndP l n) wRecord a c = (true, .mk 7 a 0 0 0 [] (prtsP l (fldP l (kndP l n)) true c).1 zw, (prtsP l (fldP l (kndP l n)) true c).2) := by
  unfold bodP; rw [if_neg (by decide), if_neg (by decide), if_neg (by decide), if_neg (by decide), if_neg (by decide), if_neg (by decide), if_neg (by decide), if_pos rfl]
 have hone : PrtSpec cb p q l 101 ([prs cb] ++ []) c.d (fldP l (kndP l n)) := fun c' h' hd' => sx_field cb p q l c' n hk hl h' (by rw [hd']; exact hd)
 have hpp := sx_parts cb p q l [prs cb] [] true (fldP l (kndP l n)) c hone hl hc (fun c' h' hd' => Adv.fld hl h' (knd_adv hl n c'.d (by rw [hd']; exact hd)))
 unfold BodCalls
 rw [hr]
 refine sy_enterE rfl rfl (fun w => ?_)
 simp only [initFr, curE, tC, nilS, List.cons_append, List.nil_append]
 repeat (first | refine yK ?_ | (refine gO ?_; first | refine yP ?_ | (refine sy_box rfl rfl rfl ?_; intro _)))
 rename_i b3 b4
 refine sy_order [2, 3, 4, 0, 1] rfl rfl ?_
 simp only [List.set_cons_zero, List.set_cons_succ, List.filterMap_cons, List.filterMap_nil, List.getElem?_cons_zero, List.getElem?_cons_succ]
 skip
 refine sy_cond_f rfl (by rfl) ?_
 repeat (first | refine yK ?_ | (refine gO ?_; refine yP ?_))
 refine sy_cond_f rfl (by rfl) ?_
 repeat (first | refine yK ?_ | (refine gO ?_; refine yP ?_))
 refine sy_cond_f rfl (by rfl) ?_
 repeat (first | refine yK ?_ | (refine gO ?_; refine yP ?_))
 refine sy_cond_f rfl (by rfl) ?_
 repeat (first | refine yK ?_ | (refine gO ?_; refine yP ?_))
 refine sy_cond_f rfl (by rfl) ?_
 repeat (first | refine yK ?_ | (refine gO ?_; refine yP ?_))
 refine sy_cond_f rfl (by rfl) ?_
 repeat (first | refine yK ?_ | (refine gO ?_; refine yP ?_))
 refine sy_cond_f rfl (by rfl) ?_
 repeat (first | refine yK ?_ | (refine gO ?_; refine yP ?_))
 refine sy_cond_t rfl (by rfl) ?_
 skip
 refine sy_drawE _ 9 [(0, false), (1, false), (2, false), (3, false), (4, false), (5, true), (6, false), (7, false), (8, true)] (by kernel_rfl) rfl ((sd (sd (sd (sk (sk (List.nil_sublist _))))))) ?_
 repeat (first | refine dre_rd (fun _ _ => ov_ld 0 rfl rfl rfl) rfl ?_ | refine dre_rd (fun _ _ => ov_ld 1 rfl rfl rfl) rfl ?_)
 refine dre_rd (fun _ _ => ov_makeFunc rfl rfl) rfl ?_
 skip
 refine dre_ef rfl ?_
 refine sy_callE (curE cb p q l _) rfl rfl rfl hpp ?_
 rintro _ _ ⟨⟨zs, px, qx⟩, rfl, hx, rfl⟩
 simp only [curE, prtsRow, List.cons_append, List.nil_append]
 simp only at hx
 refine dre_ek (sd (sd (sd (sd (sd (sk (sk (List.nil_sublist _)))))))) ?_
 repeat (first | refine dre_rd (fun _ _ => ov_p rfl) rfl ?_ | refine dre_rd (fun _ _ => ov_fieldAddr rfl rfl rfl) rfl ?_ | (refine dre_ef rfl ?_; refine yS 4 ?_; refine dre_ek (by repeat first | exact sr | apply sk | apply sd) ?_) | refine dre_end ?_)
 refine sy_order [2, 3, 0, 1, 4, 5, 6] rfl rfl ?_
 simp only [List.set_cons_zero, List.set_cons_succ, List.filterMap_cons, List.filterMap_nil, List.getElem?_cons_zero, List.getElem?_cons_succ]
 refine sy_typP 7 a 0 0 0 zw ?_
 refine sy_order [1, 2, 3, 0, 4, 5] rfl rfl ?_
 simp only [List.set_cons_zero, List.set_cons_succ, List.filterMap_cons, List.filterMap_nil, List.getElem?_cons_zero, List.getElem?_cons_succ]
 repeat (first | refine yK ?_ | (refine gO ?_; first | refine yP ?_ | (refine gS ?_; refine yS 2 ?_) | refine yF ?_) | refine sy_rt ?_)
 exact ret1w rfl rfl fun w' hw' => postE hw' _ (sub_self (sk (sk (sk (sk (List.nil_sublist _)))))) rfl ⟨rfl, .mk 7 a 0 0 0 ws0 px qx zs zw, by simp only [plT]; rw [hx]; rfl, rfl⟩
set_option maxRecDepth 20000 in
set_option maxHeartbeats 8000000 in
theorem sx_body_union (tb : Nat) (a : Int) (n : Nat) (hk : KdS n) (hl : TokOk l) (hc : CurOk l c) (hd : c.d + n = 24) : BodCalls cb p q l c tb a wUnion (kndP l n) := by
 have hr : bodP l (kndP l n) wUnion a c = (true, .mk 8 a 0 0 0 [] (prtsP l (tagP l (kndP l n)) false c).1 zw, (prtsP l (tagP l (kndP l n)) false c).2) := by
  unfold bodP; rw [if_neg (by decide), if_neg (by decide), if_neg (by decide), if_neg (by decide), if_neg (by decide), if_neg (by decide), if_neg (by decide), if_neg (by decide), if_pos rfl]
 have hone : PrtSpec cb p q l 102 ([prs cb] ++ []) c.d (tagP l (kndP l n)) := fun c' h' hd' => sx_tag cb p q l c' n hk hl h' (by rw [hd']; exact hd)
 have hpp := sx_parts cb p q l [prs cb] [] false (tagP l (kndP l n)) c hone hl hc (fun c' h' hd' => Adv.tag hl h' (knd_adv hl n c'.d (by rw [hd']; exact hd)))
 unfold BodCalls
 rw [hr]
 refine sy_enterE rfl rfl (fun w => ?_)
 simp only [initFr, curE, tC, nilS, List.cons_append, List.nil_append]
 repeat (first | refine yK ?_ | (refine gO ?_; first | refine yP ?_ | (refine sy_box rfl rfl rfl ?_; intro _)))
 rename_i b3 b4
 refine sy_order [2, 3, 4, 0, 1] rfl rfl ?_
 simp only [List.set_cons_zero, List.set_cons_succ, List.filterMap_cons, List.filterMap_nil, List.getElem?_cons_zero, List.getElem?_cons_succ]
 skip
 refine sy_cond_f rfl (by rfl) ?_
 repeat (first | refine yK ?_ | (refine gO ?_; refine yP ?_))
 refine sy_cond_f rfl (by rfl) ?_
 repeat (first | refine yK ?_ | (refine gO ?_; refine yP ?_))
 refine sy_cond_f rfl (by rfl) ?_
 repeat (first | refine yK ?_ | (refine gO ?_; refine yP ?_))
 refine sy_cond_f rfl (by rfl) ?_
 repeat (first | refine yK ?_ | (refine gO ?_; refine yP ?_))
 refine sy_cond_f rfl (by rfl) ?_
 repeat (first | refine yK ?_ | (refine gO ?_; refine yP ?_))
 refine sy_cond_f rfl (by rfl) ?_
 repeat (first | refine yK ?_ | (refine gO ?_; refine yP ?_))
 refine sy_cond_f rfl (by rfl) ?_
 repeat (first | refine yK ?_ | (refine gO ?_; refine yP ?_))
 refine sy_cond_f rfl (by rfl) ?_
 repeat (first | refine yK ?_ | (refine gO ?_; refine yP ?_))
 refine sy_cond_t rfl (by rfl) ?_
 skip
 refine sy_drawE _ 9 [(0, false), (1, false), (2, false), (3, false), (4, false), (5, true), (6, false), (7, false), (8, true)] (by kernel_rfl) rfl ((sd (sd (sd (sk (sk (List.nil_sublist _))))))) ?_
 repeat (first | refine dre_rd (fun _ _ => ov_ld 0 rfl rfl rfl) rfl ?_ | refine dre_rd (fun _ _ => ov_ld 1 rfl rfl rfl) rfl ?_)
 refine dre_rd (fun _ _ => ov_makeFunc rfl rfl) rfl ?_
 skip
 refine dre_ef rfl ?_
 refine sy_callE (curE cb p q l _) rfl rfl rfl hpp ?_
 rintro _ _ ⟨⟨zs, px, qx⟩, rfl, hx, rfl⟩
 simp only [curE, prtsRow, List.cons_append, List.nil_append]
 simp only at hx
 refine dre_ek (sd (sd (sd (sd (sd (sk (sk (List.nil_sublist _)))))))) ?_
 repeat (first | refine dre_rd (fun _ _ => ov_p rfl) rfl ?_ | refine dre_rd (fun _ _ => ov_fieldAddr rfl rfl rfl) rfl ?_ | (refine dre_ef rfl ?_; refine yS 4 ?_; refine dre_ek (by repeat first | exact sr | apply sk | apply sd) ?_) | refine dre_end ?_)
 refine sy_order [2, 3, 0, 1, 4, 5, 6] rfl rfl ?_
 simp only [List.set_cons_zero, List.set_cons_succ, List.filterMap_cons, List.filterMap_nil, List.getElem?_cons_zero, List.getElem?_cons_succ]
 refine sy_typP 8 a 0 0 0 zw ?_
 refine sy_order [1, 2, 3, 0, 4, 5] rfl rfl ?_
 simp only [List.set_cons_zero, List.set_cons_succ, List.filterMap_cons, List.filterMap_nil, List.getElem?_cons_zero, List.getElem?_cons_succ]
 repeat (first | refine yK ?_ | (refine gO ?_; first | refine yP ?_ | (refine gS ?_; refine yS 2 ?_) | refine yF ?_) | refine sy_rt ?_)
 exact ret1w rfl rfl fun w' hw' => postE hw' _ (sub_self (sk (sk (sk (sk (List.nil_sublist _)))))) rfl ⟨rfl, .mk 8 a 0 0 0 ws0 px qx zs zw, by simp only [plT]; rw [hx]; rfl, rfl⟩
set_option maxRecDepth 20000 in
set_option maxHeartbeats 8000000 in
theorem sx_body_no (tb : Nat) (a : Int) (w : List UInt8) (kd : CurT → TypP × CurT) (hno : ∀ x ∈ [wBool, wInt, wText, wEnum, wList, wOpt, wRef, wRecord, wUnion], w ≠ x) : BodCalls cb p q l c tb a w kd := by
 have hr : bodP l kd w a c = (false, atP a, c) := by
  unfold bodP; rw [if_neg (hno _ (by simp)), if_neg (hno _ (by simp)), if_neg (hno _ (by simp)), if_neg (hno _ (by simp)), if_neg (hno _ (by simp)), if_neg (hno _ (by simp)), if_neg (hno _ (by simp)), if_neg (hno _ (by simp)), if_neg (hno _ (by simp))]
 unfold BodCalls
 rw [hr]
 refine sy_enterE rfl rfl (fun w => ?_)
 simp only [initFr, curE, tC, nilS, List.cons_append, List.nil_append]
 repeat (first | refine yK ?_ | (refine gO ?_; first | refine yP ?_ | (refine sy_box rfl rfl rfl ?_; intro _)))
 rename_i b3 b4
 refine sy_order [2, 3, 4, 0, 1] rfl rfl ?_
 simp only [List.set_cons_zero, List.set_cons_succ, List.filterMap_cons, List.filterMap_nil, List.getElem?_cons_zero, List.getElem?_cons_succ]
 skip
 refine sy_typN 0 a 0 0 0 zw ?_
 refine sy_order [1, 2, 3, 0, 4, 5] rfl rfl ?_
 simp only [List.set_cons_zero, List.set_cons_succ, List.filterMap_cons, List.filterMap_nil, List.getElem?_cons_zero, List.getElem?_cons_succ]
 refine sy_cond_f rfl (by exact decide_eq_false (hno wBool (by simp))) ?_
 repeat (first | refine yK ?_ | (refine gO ?_; refine yP ?_))
 refine sy_cond_f rfl (by exact decide_eq_false (hno wInt (by simp))) ?_
 repeat (first | refine yK ?_ | (refine gO ?_; refine yP ?_))
 refine sy_cond_f rfl (by exact decide_eq_false (hno wText (by simp))) ?_
 repeat (first | refine yK ?_ | (refine gO ?_; refine yP ?_))
 refine sy_cond_f rfl (by exact decide_eq_false (hno wEnum (by simp))) ?_
 repeat (first | refine yK ?_ | (refine gO ?_; refine yP ?_))
 refine sy_cond_f rfl (by exact decide_eq_false (hno wList (by simp))) ?_
 repeat (first | refine yK ?_ | (refine gO ?_; refine yP ?_))
 refine sy_cond_f rfl (by exact decide_eq_false (hno wOpt (by simp))) ?_
 repeat (first | refine yK ?_ | (refine gO ?_; refine yP ?_))
 refine sy_cond_f rfl (by exact decide_eq_false (hno wRef (by simp))) ?_
 repeat (first | refine yK ?_ | (refine gO ?_; refine yP ?_))
 refine sy_cond_f rfl (by exact decide_eq_false (hno wRecord (by simp))) ?_
 repeat (first | refine yK ?_ | (refine gO ?_; refine yP ?_))
 refine sy_cond_f rfl (by exact decide_eq_false (hno wUnion (by simp))) ?_
 repeat (first | refine yK ?_ | (refine gO ?_; refine yP ?_) | refine sy_rt ?_)
 exact ret1w rfl rfl fun w' hw' => postE hw' _ (sub_self (sk (sk (sk (sk (List.nil_sublist _)))))) rfl ⟨rfl, (.mk 0 a 0 0 0 ws0 none 0 [] zw), by (try simp only [plT, plPs, plP]); first | rfl | (simp only [*]; done) | (simp only [*]; rfl), rfl⟩
end
end Go.Proofs.YtldjakeigjngoaaGreat
/- Contracts of the types' readers: a type. -/
namespace Go.Proofs.YtldjakeigjngoaaGreat
open Go.RowKit Bf
theorem sx_body (cb : Nat) (p : Option Addr) (q : Nat) (l : List TokT) (c : CurT) (tb : Nat) (a : Int) (w : List UInt8) (n : Nat) (hk : KdS n) (hl : TokOk l) (hc : CurOk l c) (hd : c.d + n = 24) : BodCalls cb p q l c tb a w (kndP l n) := by
 by_cases h1 : w = wBool
 · subst h1; exact sx_body_bool cb p q l c tb a _
 by_cases h2 : w = wInt
 · subst h2; exact sx_body_int cb p q l c tb a _ hl hc
 by_cases h3 : w = wText
 · subst h3; exact sx_body_text cb p q l c tb a _ hl hc
 by_cases h4 : w = wEnum
 · subst h4; exact sx_body_enum cb p q l c tb a _ hl hc
 by_cases h5 : w = wList
 · subst h5; exact sx_body_list cb p q l c tb a n hk hl hc hd
 by_cases h6 : w = wOpt
 · subst h6; exact sx_body_opt cb p q l c tb a n hk hl hc hd
 by_cases h7 : w = wRef
 · subst h7; exact sx_body_ref cb p q l c tb a _ hl hc
 by_cases h8 : w = wRecord
 · subst h8; exact sx_body_record cb p q l c tb a n hk hl hc hd
 by_cases h9 : w = wUnion
 · subst h9; exact sx_body_union cb p q l c tb a n hk hl hc hd
 · refine sx_body_no cb p q l c tb a w _ fun x hx => ?_
   simp only [List.mem_cons, List.mem_nil_iff, or_false] at hx
   rcases hx with rfl | rfl | rfl | rfl | rfl | rfl | rfl | rfl | rfl <;> assumption
set_option maxRecDepth 20000 in
set_option maxHeartbeats 8000000 in
theorem sx_kind0 : KdS 0 := by
 intro cb p q l c hl hc hd
 have hd : c.d = 24 := by omega
 have hent := cur_enter cb p q l c hl hc
 have h1 : enterT l c = failT l c 6 := by unfold enterT; rw [if_pos hd]
 have h2 : (!decide (c.d = 24)) = false := by simp [hd]
 rw [h1, h2] at hent
 unfold kndP
 refine sy_enterE rfl rfl (fun w => ?_)
 simp only [initFr, curE, List.cons_append, List.nil_append]
 repeat (first | refine yK ?_ | (refine gO ?_; first | (refine gL ?_; refine yL 1 ?_) | refine yF ?_ | (refine sy_box rfl rfl rfl ?_; intro _) | (refine yA ?_; intro _)))
 refine sy_order [2, 3, 1, 0] rfl rfl ?_
 simp only [List.set_cons_zero, List.set_cons_succ, List.filterMap_cons, List.filterMap_nil, List.getElem?_cons_zero, List.getElem?_cons_succ]
 skip
 refine sy_callE (curE cb p q l _) rfl rfl rfl (cur_peek cb p q l c hl hc) ?_
 rintro _ _ ⟨rfl, rfl⟩
 simp only [curE, List.cons_append, List.nil_append]
 repeat (first | refine yK ?_ | (refine gO ?_; first | (refine gL ?_; refine yL 3 ?_) | (refine gS ?_; refine yS 0 ?_) | refine yF ?_ | refine sy_ov (ov_field rfl rfl rfl) rfl rfl ?_ | refine yB ?_ | (refine yA ?_; intro _)))
 rename_i tb
 refine sy_cells 0 (tC 0 (peekT l c).2.1 0 0 0 nilS nilS zw) rfl rfl ?_
 refine sy_order [1, 2, 3, 0, 4] rfl rfl ?_
 simp only [List.set_cons_zero, List.set_cons_succ, List.filterMap_cons, List.filterMap_nil, List.getElem?_cons_zero, List.getElem?_cons_succ]
 skip
 refine sy_callE (curE cb p q l _) rfl rfl rfl (hent) ?_
 rintro _ _ ⟨rfl, rfl⟩
 simp only [curE, List.cons_append, List.nil_append]
 refine sy_typN 0 (peekT l c).2.1 0 0 0 zw ?_
 refine sy_order [1, 2, 3, 4, 5, 0] rfl rfl ?_
 simp only [List.set_cons_zero, List.set_cons_succ, List.filterMap_cons, List.filterMap_nil, List.getElem?_cons_zero, List.getElem?_cons_succ]
 repeat (first | refine yK ?_ | (refine gO ?_; first | refine yP ?_ | (refine gL ?_; refine yL 3 ?_) | (refine gS ?_; refine yS 4 ?_)) | refine yT ?_ | refine sy_rt ?_)
 exact ret1cw 4 rfl rfl rfl rfl rfl fun w' hw' => postE hw' _ (sub_self (sk (sk (sd (sd (sd (sk (List.nil_sublist _)))))))) rfl ⟨.mk 0 (peekT l c).2.1 0 0 0 ws0 none 0 [] zw, rfl, by simp only [plT, plPs]; rfl, rfl⟩
set_option maxRecDepth 20000 in
set_option maxHeartbeats 8000000 in
theorem sx_kindS (n : Nat) (hk : KdS n) : KdS (n + 1) := by
 intro cb p q l c hl hc hd
 have hlt : c.d < 24 := by omega
 have hent := cur_enter cb p q l c hl hc
 have h1 : enterT l c = deepT c := by unfold enterT; rw [if_neg (by omega)]; rfl
 have h2 : (!decide (c.d = 24)) = true := by simp; omega
 rw [h1, h2] at hent
 have hc1 := hc.deep hlt
 show CallsE _ _ _ _ fun u es' => ∃ z : TypA, u = .agg ⟨typV z⟩ ∧ plT z = (kndB l (kndP l n) c).1 ∧ es' = curE cb p q l (kndB l (kndP l n) c).2 ++ [typE z]
 by_cases ht : takT l (deepT c) 1 = true
 · have a2 := Adv.next hl hc1
   have a3 := a2.trans (Adv.bod hl a2.ok (knd_adv hl n _ (by rw [a2.d]; show c.d + 1 + (n : Int) = 24; omega)) (peekT l (deepT c)).2.2.2.1 (peekT l c).2.1)
   have hbd := fun tb => sx_body cb p q l (nextT l (deepT c)) tb (peekT l c).2.1 (peekT l (deepT c)).2.2.2.1 n hk hl a2.ok (by rw [a2.d]; show c.d + 1 + (n : Int) = 24; omega)
   cases hb : (bodP l (kndP l n) (peekT l (deepT c)).2.2.2.1 (peekT l c).2.1 (nextT l (deepT c))).1 with
   | true =>
    have hR : kndB l (kndP l n) c = ((bodP l (kndP l n) (peekT l (deepT c)).2.2.2.1 (peekT l c).2.1 (nextT l (deepT c))).2.1, leaveT (bodP l (kndP l n) (peekT l (deepT c)).2.2.2.1 (peekT l c).2.1 (nextT l (deepT c))).2.2) := by
     unfold kndB; rw [if_pos ht]; simp only [hb, if_true]
    rw [hR]
    refine sy_enterE rfl rfl (fun w => ?_)
    simp only [initFr, curE, List.cons_append, List.nil_append]
    repeat (first | refine yK ?_ | (refine gO ?_; first | (refine gL ?_; refine yL 1 ?_) | refine yF ?_ | (refine sy_box rfl rfl rfl ?_; intro _) | (refine yA ?_; intro _)))
    refine sy_order [2, 3, 1, 0] rfl rfl ?_
    simp only [List.set_cons_zero, List.set_cons_succ, List.filterMap_cons, List.filterMap_nil, List.getElem?_cons_zero, List.getElem?_cons_succ]
    skip
    refine sy_callE (curE cb p q l _) rfl rfl rfl (cur_peek cb p q l c hl hc) ?_
    rintro _ _ ⟨rfl, rfl⟩
    simp only [curE, List.cons_append, List.nil_append]
    repeat (first | refine yK ?_ | (refine gO ?_; first | (refine gL ?_; refine yL 3 ?_) | (refine gS ?_; refine yS 0 ?_) | refine yF ?_ | refine sy_ov (ov_field rfl rfl rfl) rfl rfl ?_ | refine yB ?_ | (refine yA ?_; intro _)))
    rename_i tb
    refine sy_cells 0 (tC 0 (peekT l c).2.1 0 0 0 nilS nilS zw) rfl rfl ?_
    refine sy_order [1, 2, 3, 0, 4] rfl rfl ?_
    simp only [List.set_cons_zero, List.set_cons_succ, List.filterMap_cons, List.filterMap_nil, List.getElem?_cons_zero, List.getElem?_cons_succ]
    skip
    refine sy_callE (curE cb p q l _) rfl rfl rfl (hent) ?_
    rintro _ _ ⟨rfl, rfl⟩
    simp only [curE, List.cons_append, List.nil_append]
    repeat (first | refine yK ?_ | (refine gO ?_; first | refine yP ?_ | (refine gL ?_; refine yL 2 ?_) | refine yF ?_) | refine yN ?_)
    refine sy_callE (curE cb p q l _) rfl rfl rfl (cur_take_t cb p q l _ hl hc1 1 ht) ?_
    rintro _ _ ⟨rfl, rfl⟩
    simp only [curE, List.cons_append, List.nil_append]
    repeat (first | refine yK ?_ | (refine gO ?_; first | refine yP ?_ | (refine gL ?_; first | refine yL 0 ?_ | refine yL 3 ?_) | (refine gS ?_; refine yS 0 ?_) | refine yF ?_ | (refine yA ?_; intro _)) | refine yN ?_)
    refine sy_order [1, 2, 4, 3, 0, 5] rfl rfl ?_
    simp only [List.set_cons_zero, List.set_cons_succ, List.filterMap_cons, List.filterMap_nil, List.getElem?_cons_zero, List.getElem?_cons_succ]
    refine sy_callE (curE cb p q l _ ++ [blk tb 38 (tC 0 (peekT l c).2.1 0 0 0 nilS nilS zw)]) rfl rfl rfl (hbd tb) ?_
    rintro u es' ⟨hu, z, hz, rfl⟩
    rw [hb] at hu
    subst hu
    obtain ⟨zk, za, zlo, zhi, zmo, zns, zpp, zcp, zparts, znm⟩ := z
    simp only [curE, List.cons_append, List.nil_append]
    repeat (first | refine yK ?_ | (refine gO ?_; first | refine yP ?_ | (refine gL ?_; refine yL 4 ?_) | refine yF ?_) | refine yN ?_)
    refine sy_callE (curE cb p q l _) rfl rfl rfl (cur_leave cb p q l _ a3.ok) ?_
    rintro _ _ ⟨rfl, rfl⟩
    simp only [curE, List.cons_append, List.nil_append]
    refine sy_order [0, 1, 2, 3, 6, 4, 5] rfl rfl ?_
    simp only [List.set_cons_zero, List.set_cons_succ, List.filterMap_cons, List.filterMap_nil, List.getElem?_cons_zero, List.getElem?_cons_succ]
    repeat (first | refine yK ?_ | (refine gO ?_; first | (refine gL ?_; refine yL 2 ?_) | (refine gS ?_; refine yS 4 ?_)) | refine sy_rt ?_)
    exact ret1cw 4 rfl rfl rfl rfl rfl fun w' hw' => postE hw' _ (sub_self (sk (sk (sd (sk (List.nil_sublist _)))))) rfl ⟨.mk zk za zlo zhi zmo zns zpp zcp zparts znm, rfl, hz, rfl⟩
   | false =>
    have hR : kndB l (kndP l n) c = ((bodP l (kndP l n) (peekT l (deepT c)).2.2.2.1 (peekT l c).2.1 (nextT l (deepT c))).2.1, leaveT (failAtT (bodP l (kndP l n) (peekT l (deepT c)).2.2.2.1 (peekT l c).2.1 (nextT l (deepT c))).2.2 9 (peekT l (deepT c)).2.1)) := by
     unfold kndB; rw [if_pos ht]; simp only [hb, Bool.false_eq_true, if_false]
    rw [hR]
    refine sy_enterE rfl rfl (fun w => ?_)
    simp only [initFr, curE, List.cons_append, List.nil_append]
    repeat (first | refine yK ?_ | (refine gO ?_; first | (refine gL ?_; refine yL 1 ?_) | refine yF ?_ | (refine sy_box rfl rfl rfl ?_; intro _) | (refine yA ?_; intro _)))
    refine sy_order [2, 3, 1, 0] rfl rfl ?_
    simp only [List.set_cons_zero, List.set_cons_succ, List.filterMap_cons, List.filterMap_nil, List.getElem?_cons_zero, List.getElem?_cons_succ]
    skip
    refine sy_callE (curE cb p q l _) rfl rfl rfl (cur_peek cb p q l c hl hc) ?_
    rintro _ _ ⟨rfl, rfl⟩
    simp only [curE, List.cons_append, List.nil_append]
    repeat (first | refine yK ?_ | (refine gO ?_; first | (refine gL ?_; refine yL 3 ?_) | (refine gS ?_; refine yS 0 ?_) | refine yF ?_ | refine sy_ov (ov_field rfl rfl rfl) rfl rfl ?_ | refine yB ?_ | (refine yA ?_; intro _)))
    rename_i tb
    refine sy_cells 0 (tC 0 (peekT l c).2.1 0 0 0 nilS nilS zw) rfl rfl ?_
    refine sy_order [1, 2, 3, 0, 4] rfl rfl ?_
    simp only [List.set_cons_zero, List.set_cons_succ, List.filterMap_cons, List.filterMap_nil, List.getElem?_cons_zero, List.getElem?_cons_succ]
    skip
    refine sy_callE (curE cb p q l _) rfl rfl rfl (hent) ?_
    rintro _ _ ⟨rfl, rfl⟩
    simp only [curE, List.cons_append, List.nil_append]
    repeat (first | refine yK ?_ | (refine gO ?_; first | refine yP ?_ | (refine gL ?_; refine yL 2 ?_) | refine yF ?_) | refine yN ?_)
    refine sy_callE (curE cb p q l _) rfl rfl rfl (cur_take_t cb p q l _ hl hc1 1 ht) ?_
    rintro _ _ ⟨rfl, rfl⟩
    simp only [curE, List.cons_append, List.nil_append]
    repeat (first | refine yK ?_ | (refine gO ?_; first | refine yP ?_ | (refine gL ?_; first | refine yL 0 ?_ | refine yL 3 ?_) | (refine gS ?_; refine yS 0 ?_) | refine yF ?_ | (refine yA ?_; intro _)) | refine yN ?_)
    refine sy_order [1, 2, 4, 3, 0, 5] rfl rfl ?_
    simp only [List.set_cons_zero, List.set_cons_succ, List.filterMap_cons, List.filterMap_nil, List.getElem?_cons_zero, List.getElem?_cons_succ]
    refine sy_callE (curE cb p q l _ ++ [blk tb 38 (tC 0 (peekT l c).2.1 0 0 0 nilS nilS zw)]) rfl rfl rfl (hbd tb) ?_
    rintro u es' ⟨hu, z, hz, rfl⟩
    rw [hb] at hu
    subst hu
    obtain ⟨zk, za, zlo, zhi, zmo, zns, zpp, zcp, zparts, znm⟩ := z
    simp only [curE, List.cons_append, List.nil_append]
    refine sy_order [0, 1, 2, 4, 5, 3, 6] rfl rfl ?_
    simp only [List.set_cons_zero, List.set_cons_succ, List.filterMap_cons, List.filterMap_nil, List.getElem?_cons_zero, List.getElem?_cons_succ]
    repeat (first | refine yK ?_ | (refine gO ?_; first | refine yP ?_ | (refine gL ?_; first | refine yL 3 ?_ | refine yL 4 ?_) | refine yF ?_) | refine yT ?_)
    refine sy_callE (curE cb p q l _) rfl rfl rfl (cur_failAt cb p q l _ 9 (peekT l (deepT c)).2.1) ?_
    rintro _ _ ⟨rfl, rfl⟩
    simp only [curE, List.cons_append, List.nil_append]
    repeat (first | refine yK ?_ | (refine gO ?_; first | (refine gL ?_; refine yL 3 ?_) | refine yF ?_))
    refine sy_callE (curE cb p q l _) rfl rfl rfl (cur_leave cb p q l _ (a3.ok.failAt 9 (peekT l (deepT c)).2.1)) ?_
    rintro _ _ ⟨rfl, rfl⟩
    simp only [curE, List.cons_append, List.nil_append]
    refine sy_order [0, 1, 2, 5, 6, 3, 4] rfl rfl ?_
    simp only [List.set_cons_zero, List.set_cons_succ, List.filterMap_cons, List.filterMap_nil, List.getElem?_cons_zero, List.getElem?_cons_succ]
    repeat (first | refine yK ?_ | (refine gO ?_; first | (refine gL ?_; refine yL 2 ?_) | (refine gS ?_; refine yS 4 ?_)) | refine sy_rt ?_)
    exact ret1cw 4 rfl rfl rfl rfl rfl fun w' hw' => postE hw' _ (sub_self (sk (sk (sd (sk (List.nil_sublist _)))))) rfl ⟨.mk zk za zlo zhi zmo zns zpp zcp zparts znm, rfl, hz, rfl⟩
 · have ht : takT l (deepT c) 1 = false := by simpa using ht
   have hR : kndB l (kndP l n) c = (atP (peekT l c).2.1, leaveT (wrongT l (deepT c))) := by
    unfold kndB; rw [if_neg (by rw [ht]; decide)]
   rw [hR]
   refine sy_enterE rfl rfl (fun w => ?_)
   simp only [initFr, curE, List.cons_append, List.nil_append]
   repeat (first | refine yK ?_ | (refine gO ?_; first | (refine gL ?_; refine yL 1 ?_) | refine yF ?_ | (refine sy_box rfl rfl rfl ?_; intro _) | (refine yA ?_; intro _)))
   refine sy_order [2, 3, 1, 0] rfl rfl ?_
   simp only [List.set_cons_zero, List.set_cons_succ, List.filterMap_cons, List.filterMap_nil, List.getElem?_cons_zero, List.getElem?_cons_succ]
   skip
   refine sy_callE (curE cb p q l _) rfl rfl rfl (cur_peek cb p q l c hl hc) ?_
   rintro _ _ ⟨rfl, rfl⟩
   simp only [curE, List.cons_append, List.nil_append]
   repeat (first | refine yK ?_ | (refine gO ?_; first | (refine gL ?_; refine yL 3 ?_) | (refine gS ?_; refine yS 0 ?_) | refine yF ?_ | refine sy_ov (ov_field rfl rfl rfl) rfl rfl ?_ | refine yB ?_ | (refine yA ?_; intro _)))
   rename_i tb
   refine sy_cells 0 (tC 0 (peekT l c).2.1 0 0 0 nilS nilS zw) rfl rfl ?_
   refine sy_order [1, 2, 3, 0, 4] rfl rfl ?_
   simp only [List.set_cons_zero, List.set_cons_succ, List.filterMap_cons, List.filterMap_nil, List.getElem?_cons_zero, List.getElem?_cons_succ]
   skip
   refine sy_callE (curE cb p q l _) rfl rfl rfl (hent) ?_
   rintro _ _ ⟨rfl, rfl⟩
   simp only [curE, List.cons_append, List.nil_append]
   repeat (first | refine yK ?_ | (refine gO ?_; first | refine yP ?_ | (refine gL ?_; refine yL 2 ?_) | refine yF ?_) | refine yN ?_)
   refine sy_callE (curE cb p q l _) rfl rfl rfl (cur_take_f cb p q l _ hl hc1 1 ht) ?_
   rintro _ _ ⟨rfl, rfl⟩
   simp only [curE, List.cons_append, List.nil_append]
   repeat (first | refine yK ?_ | (refine gO ?_; first | refine yP ?_ | (refine gL ?_; refine yL 3 ?_) | (refine gS ?_; refine yS 0 ?_) | (refine yA ?_; intro _)) | refine yT ?_)
   refine sy_order [1, 2, 3, 4, 5, 0] rfl rfl ?_
   simp only [List.set_cons_zero, List.set_cons_succ, List.filterMap_cons, List.filterMap_nil, List.getElem?_cons_zero, List.getElem?_cons_succ]
   skip
   refine sy_callE (curE cb p q l _) rfl rfl rfl (sx_wrong cb p q l _ hl hc1) ?_
   rintro _ _ ⟨rfl, rfl⟩
   simp only [curE, List.cons_append, List.nil_append]
   repeat (first | refine yK ?_ | (refine gO ?_; first | (refine gL ?_; refine yL 2 ?_) | refine yF ?_))
   refine sy_callE (curE cb p q l _) rfl rfl rfl (cur_leave cb p q l _ hc1.wrong) ?_
   rintro _ _ ⟨rfl, rfl⟩
   simp only [curE, List.cons_append, List.nil_append]
   refine sy_typN 0 (peekT l c).2.1 0 0 0 zw ?_
   refine sy_order [1, 2, 4, 0, 5, 3, 6] rfl rfl ?_
   simp only [List.set_cons_zero, List.set_cons_succ, List.filterMap_cons, List.filterMap_nil, List.getElem?_cons_zero, List.getElem?_cons_succ]
   repeat (first | refine yK ?_ | (refine gO ?_; first | (refine gL ?_; refine yL 2 ?_) | (refine gS ?_; refine yS 4 ?_)) | refine sy_rt ?_)
   exact ret1cw 4 rfl rfl rfl rfl rfl fun w' hw' => postE hw' _ (sub_self (sk (sk (sd (sk (List.nil_sublist _)))))) rfl ⟨.mk 0 (peekT l c).2.1 0 0 0 ws0 none 0 [] zw, rfl, by simp only [plT, plPs]; rfl, rfl⟩
theorem sx_kind : ∀ n, KdS n
 | 0 => sx_kind0
 | n + 1 => sx_kindS n (sx_kind n)
end Go.Proofs.YtldjakeigjngoaaGreat
/- Contracts of the types' readers: the type of a text. -/
namespace Go.Proofs.YtldjakeigjngoaaGreat
open Go.RowKit Bf
section
variable (cb : Nat) (p : Option Addr) (q : Nat) (l : List TokT) (c : CurT)
set_option maxRecDepth 20000 in
theorem sx_end (hl : TokOk l) (hc : CurOk l c) : SyCalls 28 [] cb p q l c (faultV (endC l c).e (endC l c).a) (endC l c) := by
 by_cases he : c.e = 0
 · have hdec : decide (c.e = 0) = true := by simpa using he
   by_cases h0 : (peekT l c).1 = 0
   · have hn : endC l c = c := by unfold endC; rw [if_neg (fun h => h.2 h0)]
     rw [hn]
     refine sy_enterE rfl rfl (fun w => ?_)
     simp only [initFr, curE, List.cons_append, List.nil_append]
     repeat (first | refine yK ?_ | (refine gO ?_; first | (refine gL ?_; refine yL 1 ?_) | (refine sy_box rfl rfl rfl ?_; intro _) | (refine yA ?_; intro _)))
     refine sy_order [2, 3, 1, 0] rfl rfl ?_
     simp only [List.set_cons_zero, List.set_cons_succ, List.filterMap_cons, List.filterMap_nil, List.getElem?_cons_zero, List.getElem?_cons_succ]
     skip
     refine sy_callE (curE cb p q l _) rfl rfl rfl (sx_fine cb p q l c) ?_
     rintro _ _ ⟨rfl, rfl⟩
     simp only [curE, List.cons_append, List.nil_append]
     rw [hdec]
     repeat ((refine gO ?_; first | refine yP ?_ | (refine gG ?_; refine yG ?_) | (refine gL ?_; refine yL 2 ?_) | refine yF ?_))
     refine sy_callE (curE cb p q l _) rfl rfl rfl (cur_peek cb p q l c hl hc) ?_
     rintro _ _ ⟨rfl, rfl⟩
     simp only [curE, List.cons_append, List.nil_append]
     repeat (first | refine yK ?_ | (refine gO ?_; first | refine yP ?_ | (refine gG ?_; refine yG ?_) | (refine gL ?_; refine yL 2 ?_) | refine yM ?_ | refine yF ?_ | refine sy_ov (ov_field rfl rfl rfl) rfl rfl ?_) | refine yN ?_)
     refine sy_callE (curE cb p q l _) rfl rfl rfl (cur_fault cb p q l _) ?_
     rintro _ _ ⟨rfl, rfl⟩
     simp only [curE, List.cons_append, List.nil_append]
     repeat (first | refine yK ?_ | (refine gO ?_; (refine gS ?_; refine yS 3 ?_)) | refine sy_rt ?_)
     exact ret1cw 3 rfl rfl rfl rfl rfl fun w' hw' => postE hw' _ (sub_self (sk (sk (List.nil_sublist _)))) rfl ⟨rfl, rfl⟩
   · have hn : endC l c = failT l c 4 := by unfold endC; rw [if_pos ⟨he, h0⟩]
     rw [hn]
     refine sy_enterE rfl rfl (fun w => ?_)
     simp only [initFr, curE, List.cons_append, List.nil_append]
     repeat (first | refine yK ?_ | (refine gO ?_; first | (refine gL ?_; refine yL 1 ?_) | (refine sy_box rfl rfl rfl ?_; intro _) | (refine yA ?_; intro _)))
     refine sy_order [2, 3, 1, 0] rfl rfl ?_
     simp only [List.set_cons_zero, List.set_cons_succ, List.filterMap_cons, List.filterMap_nil, List.getElem?_cons_zero, List.getElem?_cons_succ]
     skip
     refine sy_callE (curE cb p q l _) rfl rfl rfl (sx_fine cb p q l c) ?_
     rintro _ _ ⟨rfl, rfl⟩
     simp only [curE, List.cons_append, List.nil_append]
     rw [hdec]
     repeat ((refine gO ?_; first | refine yP ?_ | (refine gG ?_; refine yG ?_) | (refine gL ?_; refine yL 2 ?_) | refine yF ?_))
     refine sy_callE (curE cb p q l _) rfl rfl rfl (cur_peek cb p q l c hl hc) ?_
     rintro _ _ ⟨rfl, rfl⟩
     simp only [curE, List.cons_append, List.nil_append]
     repeat (first | refine yK ?_ | (refine gO ?_; first | refine yP ?_ | (refine gG ?_; refine yG ?_) | (refine gL ?_; refine yL 2 ?_) | refine yM ?_ | refine yF ?_ | refine sy_ov (ov_field rfl rfl rfl) rfl rfl ?_) | refine yT ?_)
     refine sy_callE (curE cb p q l _) rfl rfl rfl (cur_fail cb p q l c hl hc 4) ?_
     rintro _ _ ⟨rfl, rfl⟩
     simp only [curE, List.cons_append, List.nil_append]
     repeat (first | refine yK ?_ | (refine gO ?_; first | (refine gL ?_; refine yL 2 ?_) | refine yF ?_))
     refine sy_callE (curE cb p q l _) rfl rfl rfl (cur_fault cb p q l _) ?_
     rintro _ _ ⟨rfl, rfl⟩
     simp only [curE, List.cons_append, List.nil_append]
     repeat (first | refine yK ?_ | (refine gO ?_; (refine gS ?_; refine yS 3 ?_)) | refine sy_rt ?_)
     exact ret1cw 3 rfl rfl rfl rfl rfl fun w' hw' => postE hw' _ (sub_self (sk (sk (List.nil_sublist _)))) rfl ⟨rfl, rfl⟩
 · have hdec : decide (c.e = 0) = false := by simpa using he
   have hn : endC l c = c := by unfold endC; rw [if_neg (fun h => he h.1)]
   rw [hn]
   refine sy_enterE rfl rfl (fun w => ?_)
   simp only [initFr, curE, List.cons_append, List.nil_append]
   repeat (first | refine yK ?_ | (refine gO ?_; first | (refine gL ?_; refine yL 1 ?_) | (refine sy_box rfl rfl rfl ?_; intro _) | (refine yA ?_; intro _)))
   refine sy_order [2, 3, 1, 0] rfl rfl ?_
   simp only [List.set_cons_zero, List.set_cons_succ, List.filterMap_cons, List.filterMap_nil, List.getElem?_cons_zero, List.getElem?_cons_succ]
   skip
   refine sy_callE (curE cb p q l _) rfl rfl rfl (sx_fine cb p q l c) ?_
   rintro _ _ ⟨rfl, rfl⟩
   simp only [curE, List.cons_append, List.nil_append]
   rw [hdec]
   repeat (first | refine yK ?_ | (refine gO ?_; first | refine yP ?_ | (refine gG ?_; refine yH ?_) | (refine gL ?_; refine yL 2 ?_) | refine sy_ov (ov_pick rfl rfl rfl) rfl rfl ?_ | refine yF ?_) | refine yN ?_)
   refine sy_callE (curE cb p q l _) rfl rfl rfl (cur_fault cb p q l _) ?_
   rintro _ _ ⟨rfl, rfl⟩
   simp only [curE, List.cons_append, List.nil_append]
   repeat (first | refine yK ?_ | (refine gO ?_; (refine gS ?_; refine yS 3 ?_)) | refine sy_rt ?_)
   exact ret1cw 3 rfl rfl rfl rfl rfl fun w' hw' => postE hw' _ (sub_self (sk (sk (List.nil_sublist _)))) rfl ⟨rfl, rfl⟩
end
theorem CurOk.endC {l : List TokT} {c : CurT} (h : CurOk l c) : CurOk l (endC l c) := by
 unfold Go.Proofs.YtldjakeigjngoaaGreat.endC; split
 · exact h.fail _
 · exact h
def TyP (s : List UInt8) (u : Value) (es : List En) : Prop := ∃ z : TypA, u = .tuple #[.agg ⟨typV z⟩, faultV (typR s).2.1 (typR s).2.2] ∧ plT z = (typR s).1 ∧ es = [typE z]
set_option maxRecDepth 20000 in
set_option maxHeartbeats 8000000 in
theorem sx_type (s : List UInt8) (hs : s.length ≤ 100000000) : CallsE Tryz.prog 11 [S s] [] (TyP s) := by
 obtain ⟨l, e, a, hL⟩ : ∃ L e a, scanR s = (L, e, a) := ⟨_, _, _, rfl⟩
 by_cases he : e = 0
 · subst he
   have ha := scanR_a0 hL
   subst ha
   have hT := (scanR_toks hL (scanR_cnt hL)).1
   have hc0 : CurOk l cur0 := ⟨by decide, by have := hT.n; simp only [cur0]; omega, by decide, by decide⟩
   have hk := fun cb p q => sx_kind 24 cb p q l cur0 hT hc0 rfl
   have a1 := knd_adv hT 24 0 rfl cur0 hc0 rfl
   have hend := fun cb p q => sx_end cb p q l _ hT a1.ok
   have hR : typR s = if (endC l (kndP l 24 cur0).2).e ≠ 0 then (ztP, (endC l (kndP l 24 cur0).2).e, (endC l (kndP l 24 cur0).2).a) else ((kndP l 24 cur0).1, (endC l (kndP l 24 cur0).2).e, (endC l (kndP l 24 cur0).2).a) := by
    unfold typR; rw [hL]; simp
   refine sy_enterE rfl rfl (fun w => ?_)
   simp only [initFr]
   repeat (first | refine yK ?_ | (refine gO ?_; first | refine yP ?_ | (refine yA ?_; intro _)))
   refine sy_callE [] rfl rfl rfl (cur_new s (by omega)) ?_
   rintro _ _ (⟨hz, cb, p, q, rfl, rfl⟩ | ⟨hz, _⟩)
   · rw [hL]
     dsimp only
     simp only [curE, List.cons_append, List.nil_append]
     repeat (first | refine yK ?_ | (refine gO ?_; first | refine yP ?_ | (refine gL ?_; refine yL 0 ?_) | (refine gS ?_; refine yS 0 ?_) | refine yF ?_ | refine yB ?_ | (refine yA ?_; intro _)) | refine yN ?_)
     refine sy_order [2, 3, 0, 1, 4, 5] rfl rfl ?_
     simp only [List.set_cons_zero, List.set_cons_succ, List.filterMap_cons, List.filterMap_nil, List.getElem?_cons_zero, List.getElem?_cons_succ]
     skip
     refine sy_callE (curE cb p q l cur0) rfl rfl rfl (hk cb p q) ?_
     rintro _ _ ⟨z, rfl, hz1, rfl⟩
     obtain ⟨zk, za, zlo, zhi, zmo, zns, zpp, zcp, zparts, znm⟩ := z
     simp only [curE, List.cons_append, List.nil_append]
     repeat (first | refine yK ?_ | (refine gO ?_; first | (refine gL ?_; refine yL 4 ?_) | (refine gS ?_; refine yS 0 ?_) | (refine yA ?_; intro _)))
     refine sy_order [1, 2, 4, 5, 0, 3, 6, 7] rfl rfl ?_
     simp only [List.set_cons_zero, List.set_cons_succ, List.filterMap_cons, List.filterMap_nil, List.getElem?_cons_zero, List.getElem?_cons_succ]
     skip
     refine sy_callE (curE cb p q l _) rfl rfl rfl (hend cb p q) ?_
     rintro _ _ ⟨rfl, rfl⟩
     simp only [curE, List.cons_append, List.nil_append]
     repeat (first | refine yK ?_ | (refine gO ?_; first | refine yP ?_ | (refine gL ?_; refine yL 3 ?_) | (refine gS ?_; refine yS 3 ?_) | refine yF ?_))
     by_cases hce : (endC l (kndP l 24 cur0).2).e = 0
     · refine sy_cond_f rfl (by simp [hce]) ?_
       repeat (refine yK ?_)
       refine sy_order [4, 3, 7, 6, 0, 1, 2, 5] rfl rfl ?_
       simp only [List.set_cons_zero, List.set_cons_succ, List.filterMap_cons, List.filterMap_nil, List.getElem?_cons_zero, List.getElem?_cons_succ]
       refine sy_drawE _ 3 [(0, false), (1, false), (2, true)] (by kernel_rfl) rfl ((sk (sk (List.nil_sublist _)))) ?_
       repeat (first | refine dre_rd (fun _ _ => ov_ld 0 rfl rfl rfl) rfl ?_ | refine dre_rd (fun _ _ => ov_ld 1 rfl rfl rfl) rfl ?_ | (refine dre_ef rfl ?_; refine yS 2 ?_; refine dre_ek (by repeat first | exact sr | apply sk | apply sd) ?_) | refine dre_end ?_)
       repeat (first | refine yK ?_ | (refine gO ?_; (refine gS ?_; refine yS 3 ?_)) | refine sy_rt ?_)
       exact ret_ccw 2 3 rfl rfl rfl rfl rfl rfl rfl rfl rfl fun w' hw' => postE hw' _ (sub_self (sd (sd (sd (sd (sd (sd (sd sr)))))))) rfl ⟨.mk zk za zlo zhi zmo zns zpp zcp zparts znm, by rw [hR, if_neg (fun h => h hce)]; rfl, by rw [hR, if_neg (fun h => h hce)]; exact hz1, rfl⟩
     · refine sy_cond_t rfl (by simp [hce]) ?_
       repeat (refine yK ?_)
       refine sy_typN 0 0 0 0 0 zw ?_
       refine sy_order [5, 4, 8, 7, 1, 2, 3, 6, 0] rfl rfl ?_
       simp only [List.set_cons_zero, List.set_cons_succ, List.filterMap_cons, List.filterMap_nil, List.getElem?_cons_zero, List.getElem?_cons_succ]
       refine sy_drawE _ 3 [(0, false), (1, false), (2, true)] (by kernel_rfl) rfl ((sk (sk (List.nil_sublist _)))) ?_
       repeat (first | refine dre_rd (fun _ _ => ov_ld 1 rfl rfl rfl) rfl ?_ | refine dre_rd (fun _ _ => ov_build rfl rfl rfl) rfl ?_ | (refine dre_ef rfl ?_; refine yS 2 ?_; refine dre_ek (by repeat first | exact sr | apply sk | apply sd) ?_) | refine dre_end ?_)
       repeat (first | refine yK ?_ | (refine gO ?_; (refine gS ?_; refine yS 3 ?_)) | refine sy_rt ?_)
       exact ret_ccw 2 3 rfl rfl rfl rfl rfl rfl rfl rfl rfl fun w' hw' => postE hw' _ (sub_self (sd (sd (sd (sd (sd (sd (sd (sd sr))))))))) rfl ⟨.mk 0 0 0 0 0 ws0 none 0 [] zw, by rw [hR, if_pos hce]; rfl, by rw [hR, if_pos hce]; simp only [plT, plPs]; rfl, rfl⟩
   · rw [hL] at hz; exact absurd rfl hz
 · have hR : typR s = (ztP, e, a) := by unfold typR; rw [hL, if_pos he]
   refine sy_enterE rfl rfl (fun w => ?_)
   simp only [initFr]
   repeat (first | refine yK ?_ | (refine gO ?_; first | refine yP ?_ | (refine yA ?_; intro _)))
   refine sy_callE [] rfl rfl rfl (cur_new s (by omega)) ?_
   rintro _ _ (⟨hz, _⟩ | ⟨hz, rfl, rfl⟩)
   · rw [hL] at hz; exact absurd hz he
   · rw [hL]
     simp only [List.nil_append]
     repeat (first | refine yK ?_ | (refine gO ?_; first | refine yP ?_ | (refine gL ?_; refine yL 0 ?_) | (refine gS ?_; refine yS 0 ?_) | refine yF ?_ | (refine yA ?_; intro _)) | refine yT ?_)
     refine sy_typN 0 0 0 0 0 zw ?_
     refine sy_order [1, 2, 3, 0] rfl rfl ?_
     simp only [List.set_cons_zero, List.set_cons_succ, List.filterMap_cons, List.filterMap_nil, List.getElem?_cons_zero, List.getElem?_cons_succ]
     refine sy_drawE _ 3 [(0, false), (1, false), (2, true)] (by kernel_rfl) rfl ((sk (List.nil_sublist _))) ?_
     repeat (first | refine dre_rd (fun _ _ => ov_ld 0 rfl rfl rfl) rfl ?_ | refine dre_rd (fun _ _ => ov_build rfl rfl rfl) rfl ?_ | (refine dre_ef rfl ?_; refine yS 2 ?_; refine dre_ek (by repeat first | exact sr | apply sk | apply sd) ?_) | refine dre_end ?_)
     repeat (first | refine yK ?_ | (refine gO ?_; (refine gS ?_; refine yS 1 ?_)) | refine sy_rt ?_)
     exact ret_ccw 2 1 rfl rfl rfl rfl rfl rfl rfl rfl rfl fun w' hw' => postE hw' _ (sub_self (sd (sd (sd sr)))) rfl ⟨.mk 0 0 0 0 0 ws0 none 0 [] zw, by rw [hR]; rfl, by rw [hR]; simp only [plT, plPs]; rfl, rfl⟩
end Go.Proofs.YtldjakeigjngoaaGreat