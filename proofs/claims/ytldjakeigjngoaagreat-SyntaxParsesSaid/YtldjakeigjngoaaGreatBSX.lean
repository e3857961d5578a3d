/- BSX: texts of this proof, joined by program: SyAppV, TreeS, Syn12, Syn13, Syn14, Syn15. -/
import Derived.Test.YtldjakeigjngoaaGreatBEN
import Derived.Test.YtldjakeigjngoaaGreatBSA
import Derived.Test.YtldjakeigjngoaaGreatBSS
import Derived.Test.YtldjakeigjngoaaGreatBSW
import Derived.Test.YtldjakeigjngoaaGreatBSU
set_option linter.unusedVariables false
set_option linter.unusedSimpArgs false
namespace Go.Proofs.YtldjakeigjngoaaGreat
open Go.RowKit
section
variable {P : Program} {C : Cx} {k : List It} {fr : Fr} {hp : List En} {all : Array Oper} {l : List Oper} {dst : Option Tmp} {ty : TypeId} {pos : String} {aft : Array Edge}
theorem sy_appendV {t e : TypeId} {ti : TypeInfo} [hd : TU P t (.slice e)] [hti : TI P e ti] {x y : Operand} (i j : Nat) {v z : Value} {n m c b : Nat} {e' : TypeId} {sz m' : Nat} {cs news : List Value} (hx : ev fr x = some v) (hy : ev fr y = some (.slice (some ⟨b, 0, none⟩) m c)) (hi : hp[i]? = some (vec e ti.size v n cs)) (hj : hp[j]? = some (vec e' sz (.slice (some ⟨b, 0, none⟩) m c) m' news))
 (hz : ti.zero = some z) (hzs : Nat.beq (cl z).length ti.size = true) (hsz : Nat.blt 0 ti.size = true) (hl : news.length = m * ti.size) (h1 : oneAll news = true) (hm : 0 < m) (hf : Fits C.n dst)
 (h63 : n + m ≤ 9223372036854775807) (hbytes : (n + m) * ti.bytes ≤ 140737488355328)
 (hk : ∀ p q, Sy P C (.o all l :: k) (put dst (.slice (some p) (n + m) q) fr) (hp.set i (vec e ti.size (.slice (some p) (n + m) q) (n + m) (cs ++ news)))) :
 Sy P C (.o all (⟨dst, .call ⟨.builtin .append, ⟨[x, y]⟩, ⟨[t, t]⟩⟩, ty, pos, aft, none⟩ :: l) :: k) fr hp :=
 sy_op rfl fun a w ha hw => by
  have hall : ∀ (l : List Value), oneAll l = true → ∀ u ∈ l, u.oneCell' = true := by
   intro l; induction l with
   | nil => intro _ u hu; cases hu
   | cons v l ih => intro h u hu; simp only [oneAll, Bool.and_eq_true] at h; rcases List.mem_cons.1 hu with rfl | hu; exact h.1; exact ih h.2 u hu
  obtain ⟨p, q, w', hr, hw'⟩ := append_ok (P := P) hw (t := t) (ty := ty) (hd.h) (hti.h) hz (by have := Nat.eq_of_beq_eq_true hzs; unfold cl at this; simpa using this) (by simpa [Nat.blt_eq] using hsz) hi (a := ⟨b, 0, none⟩) (m := m) (c := c) (news := news) hl
   (fun x u hu => by rw [addr_add, Nat.zero_add]; exact vec_cell hw hj hu) (hall _ h1) h63 hbytes hm
  have hr' : (execOp a.eval ⟨dst, .call ⟨.builtin .append, ⟨[x, y]⟩, ⟨[t, t]⟩⟩, ty, pos, aft, none⟩).run P w = .ok (.value (.slice (some p) (n + m) q)) w' := by
   simp [execOp, ha.ev hx, ha.ev hy, resolve, invoke, builtin, hr]
  unfold Oper.wp; rw [hr']
  exact (hk p q).go _ _ (ha.put hf _) hw'
end
end Go.Proofs.YtldjakeigjngoaaGreat
namespace Go.Proofs.YtldjakeigjngoaaGreat
open Go.RowKit Bf
def pairV (x : WordT × WordT) : List Value := wordV x.1 ++ wordV x.2
theorem pairs_snoc (ys : List (WordT × WordT)) (x : WordT × WordT) : (ys ++ [x]).flatMap pairV = ys.flatMap pairV ++ pairV x := by simp
structure PrA where
 p : Option Addr
 c : Nat
 l : List (WordT × WordT)
def prsV (x : PrA) : Value := .slice x.p x.l.length x.c
def pr0 : PrA := ⟨none, 0, []⟩
def PrJ (w : World) (x : PrA) : Prop := x.l.length ≤ maxLen ∧ IsSl w 4 x.p x.l.length (x.l.flatMap pairV)
theorem PrJ.nil (w : World) : PrJ w pr0 := ⟨Nat.zero_le _, IsSl.nil _ _ _⟩
theorem PrJ.bl {w w' : World} {x : PrA} (hb : Below w.heap.size w w') (h : PrJ w x) : PrJ w' x := ⟨h.1, IsSl.bl _ _ _ _ w w' hb h.2⟩
def prE (x : PrA) : En := ⟨inSl x.p, fun w => PrJ w x, fun _ _ hb h => ⟨h.1, h.2.loc hb⟩⟩
structure NmdA where
 name : WordT
 ty : TypA
def nmdV (x : NmdA) : List Value := wordV x.name ++ typV x.ty
theorem nmdV_len (x : NmdA) : (nmdV x).length = 11 := by simp only [nmdV, List.length_append, typV_len]; rfl
theorem nmds_snoc (ys : List NmdA) (x : NmdA) : (ys ++ [x]).flatMap nmdV = ys.flatMap nmdV ++ nmdV x := by simp
def plN (x : NmdA) : WordT × TypP := (x.name, plT x.ty)
def domNs : List NmdA → Nat → Prop
 | [], _ => False
 | x :: l, b => domT x.ty b ∨ domNs l b
def NmdsJ (w : World) : List NmdA → Prop
 | [] => True
 | x :: l => TypJ w x.ty ∧ NmdsJ w l
theorem domNs_app {b : Nat} : ∀ {l k : List NmdA}, domNs (l ++ k) b → domNs l b ∨ domNs k b
 | [], k, h => .inr h
 | x :: l, k, h => by
  simp only [List.cons_append, domNs] at h ⊢
  rcases h with h | h
  · exact .inl (.inl h)
  · rcases domNs_app h with h | h
    · exact .inl (.inr h)
    · exact .inr h
theorem NmdsJ.bl {w w' : World} (hb : Below w.heap.size w w') : ∀ (t : List NmdA), NmdsJ w t → NmdsJ w' t
 | [], _ => trivial
 | x :: l, h => ⟨TypJ.bl' hb x.ty h.1, NmdsJ.bl hb l h.2⟩
theorem NmdsJ.loc {w w' : World} : ∀ (t : List NmdA), (∀ b, domNs t b → w'.heap[b]? = w.heap[b]?) → NmdsJ w t → NmdsJ w' t
 | [], _, _ => trivial
 | x :: l, hb, h => ⟨TypJ.loc x.ty (fun b hx => hb b (.inl hx)) h.1, NmdsJ.loc l (fun b hx => hb b (.inr hx)) h.2⟩
theorem NmdsJ.app {w : World} : ∀ {l k : List NmdA}, NmdsJ w l → NmdsJ w k → NmdsJ w (l ++ k)
 | [], k, _, h => h
 | x :: l, k, h1, h2 => ⟨h1.1, h1.2.app h2⟩
theorem NmdsJ.get {w : World} : ∀ {l : List NmdA} {i : Nat} {x : NmdA}, NmdsJ w l → l[i]? = some x → TypJ w x.ty
 | y :: l, 0, x, h, hi => by
  simp only [List.getElem?_cons_zero, Option.some.injEq] at hi
  subst hi; exact h.1
 | y :: l, i + 1, x, h, hi => by
  simp only [List.getElem?_cons_succ] at hi
  exact h.2.get hi
def nmdsE (l : List NmdA) : En := ⟨domNs l, fun w => NmdsJ w l, fun _ _ hb h => NmdsJ.loc l hb h⟩
structure SchA where
 lv : WsA
 od : PrA
 tp : Option Addr
 tc : Nat
 ty : List NmdA
 rt : TypA
def schV (x : SchA) : List Value := [wsV x.lv, prsV x.od, .slice x.tp x.ty.length x.tc] ++ typV x.rt
def plS (x : SchA) : SchP := ⟨x.lv.l, x.od.l, x.ty.map plN, plT x.rt⟩
def domS (x : SchA) (b : Nat) : Prop := inSl x.lv.p b ∨ inSl x.od.p b ∨ inSl x.tp b ∨ domNs x.ty b ∨ domT x.rt b
def SchJ (w : World) (x : SchA) : Prop := WsJ w x.lv ∧ PrJ w x.od ∧ x.ty.length ≤ maxLen ∧ IsSl w 11 x.tp x.ty.length (x.ty.flatMap nmdV) ∧ NmdsJ w x.ty ∧ TypJ w x.rt
theorem SchJ.bl' {w w' : World} (hb : Below w.heap.size w w') (x : SchA) (h : SchJ w x) : SchJ w' x :=
 ⟨h.1.bl hb, h.2.1.bl hb, h.2.2.1, IsSl.bl _ _ _ _ w w' hb h.2.2.2.1, NmdsJ.bl hb _ h.2.2.2.2.1, TypJ.bl' hb _ h.2.2.2.2.2⟩
theorem SchJ.loc {w w' : World} (x : SchA) (hb : ∀ b, domS x b → w'.heap[b]? = w.heap[b]?) (h : SchJ w x) : SchJ w' x :=
 ⟨h.1.loc fun b hx => hb b (.inl hx), ⟨h.2.1.1, h.2.1.2.loc fun b hx => hb b (.inr (.inl hx))⟩, h.2.2.1, h.2.2.2.1.loc fun b hx => hb b (.inr (.inr (.inl hx))), NmdsJ.loc _ (fun b hx => hb b (.inr (.inr (.inr (.inl hx))))) h.2.2.2.2.1, TypJ.loc _ (fun b hx => hb b (.inr (.inr (.inr (.inr hx))))) h.2.2.2.2.2⟩
def schE (z : SchA) : En := ⟨domS z, fun w => SchJ w z, fun _ _ hb h => SchJ.loc z hb h⟩
def sch0 : SchA := ⟨ws0, pr0, none, 0, [], typ0 0⟩
theorem plS0 : plS sch0 = zsP := by simp only [plS, sch0, typ0, plT, plPs]; rfl
section
variable {P : Program} {C : Cx} {k : List It} {fr : Fr} {hp : List En}
theorem sy_prMk {e : TypeId} {p : Option Addr} {q : Nat} {l : List (WordT × WordT)} (h : Sy P C k fr (prE ⟨p, q, l⟩ :: hp)) : Sy P C k fr (vec e 4 (.slice p l.length q) l.length (l.flatMap pairV) :: hp) :=
 sy_imp (prE ⟨p, q, l⟩) (fun b hb => by obtain ⟨o, rfl, rfl⟩ := hb; exact rfl) (fun w h => And.intro (ownsRow_le h) (holds_isSl h)) h
theorem sy_pr0 (h : Sy P C k fr (prE pr0 :: hp)) : Sy P C k fr hp := sy_nothing _ (fun b hb => by obtain ⟨o, h, _⟩ := hb; cases h) (fun w => PrJ.nil w) h
theorem sy_nmds0 (h : Sy P C k fr (nmdsE [] :: hp)) : Sy P C k fr hp := sy_nothing _ (fun b hb => hb) (fun w => trivial) h
theorem sy_nmdsAdd {l : List NmdA} {z : NmdA} (h : Sy P C k fr (nmdsE (l ++ [z]) :: hp)) : Sy P C k fr (nmdsE l :: typE z.ty :: hp) :=
 sy_join _ (fun b hb => (domNs_app hb).imp id (fun h => h.elim id False.elim)) (fun w h1 h2 => NmdsJ.app (k := [z]) h1 (And.intro h2 True.intro)) h
theorem sy_schMk {e : TypeId} {lv : WsA} {od : PrA} {tp : Option Addr} {tc : Nat} {ty : List NmdA} {rt : TypA} (h : Sy P C k fr (schE ⟨lv, od, tp, tc, ty, rt⟩ :: hp)) : Sy P C k fr (wsE lv :: prE od :: vec e 11 (.slice tp ty.length tc) ty.length (ty.flatMap nmdV) :: nmdsE ty :: typE rt :: hp) :=
 .mk fun a w ha hw => h.go a w ha ((hw.join.join.join.join).imp (fun b hb => by
  simp only [schE, domS] at hb
  rcases hb with hb | hb | ⟨o, rfl, rfl⟩ | hb | hb
  · exact .inl (.inl (.inl (.inl hb)))
  · exact .inl (.inl (.inl (.inr hb)))
  · exact .inl (.inl (.inr rfl))
  · exact .inl (.inr hb)
  · exact .inr hb) (fun w hh => by
  obtain ⟨⟨⟨⟨h1, h2⟩, h3⟩, h4⟩, h5⟩ := hh
  exact ⟨h1, h2, ownsRow_le h3, holds_isSl h3, h4, h5⟩))
theorem sy_sch0 (h : Sy P C k fr (schE sch0 :: hp)) : Sy P C k fr hp := sy_nothing (schE sch0) (fun b hb => by
 simp only [schE, domS, sch0, typ0, ws0, pr0, domT, domPs, domNs, inSl] at hb
 rcases hb with ⟨o, h, _⟩ | ⟨o, h, _⟩ | ⟨o, h, _⟩ | h | ⟨o, h, _⟩ | ⟨o, h, _⟩ | h
 · cases h
 · cases h
 · cases h
 · exact h
 · cases h
 · cases h
 · exact h) (fun w => show SchJ w sch0 from ⟨WsJ.nil w, PrJ.nil w, Nat.zero_le _, IsSl.nil _ _ _, trivial, typJ0 w 0⟩) h
end
structure ChnSt where
 c : CurT
 lo : WordT
 ys : List (WordT × WordT)
 p : Option Addr
 q : Nat
def prRow (ys : List (WordT × WordT)) (p : Option Addr) (q : Nat) : En := vec 87 4 (.slice p ys.length q) ys.length (ys.flatMap pairV)
def chnH (cb : Nat) (p : Option Addr) (q : Nat) (l : List TokT) (b b4 : Nat) (s : ChnSt) : List En := curE cb p q l s.c ++ [prRow s.ys s.p s.q, blk b4 36 (wordV s.lo), blk b 71 [ptr cb]]
def chnI (l : List TokT) (R : List (WordT × WordT) × CurT) (s : ChnSt) : Prop := CurOk l s.c ∧ s.ys.length ≤ s.c.i.toNat ∧ ∃ n, l.length ≤ s.c.i.toNat + n ∧ chnGo l (n + 1) s.c s.lo s.ys = R
section
variable (cb : Nat) (p : Option Addr) (q : Nat) (l : List TokT) (c : CurT)
set_option maxRecDepth 20000 in
set_option maxHeartbeats 1000000 in
theorem sx_chain (hl : TokOk l) (hc : CurOk l c) : CallsE Tryz.prog 75 [prs cb] (curE cb p q l c) fun u es' => ∃ pk ck, u = .slice pk (chnP l c).1.length ck ∧ 1 ≤ (chnP l c).1.length ∧ es' = curE cb p q l (chnP l c).2 ++ [prRow (chnP l c).1 pk ck] := by
 have a1 := Adv.nam hl hc
 have a2 := a1.trans (Adv.need hl a1.ok [60] (by simp))
 have hbig := hl.big
 have i2 := a2.ok.i0
 obtain ⟨R, hR⟩ : ∃ R, chnP l c = R := ⟨_, rfl⟩
 rw [hR]
 refine sy_enterE rfl rfl (fun w => ?_)
 simp only [initFr, curE, cX]
 repeat (first | refine yK ?_ | refine yP ?_ | refine yL 0 ?_ | (refine yX ?_; intro _))
 rename_i b
 refine sy_order [1, 2, 0] rfl rfl ?_
 simp only [oX]
 refine sy_callE (curE cb p q l _) rfl rfl rfl (sx_name cb p q l c hl hc) ?_
 rintro _ _ ⟨rfl, rfl⟩
 simp only [curE, cX]
 repeat (first | refine yK ?_ | refine yL 3 ?_ | refine yS 0 ?_ | refine yF ?_ | (refine yA ?_; intro _))
 rename_i b4
 refine sy_order [1, 2, 0, 3] rfl rfl ?_
 simp only [oX]
 skip
 refine sy_callE (curE cb p q l _) rfl rfl rfl (cur_need cb p q l _ hl a1.ok [60]) ?_
 rintro _ _ ⟨rfl, rfl⟩
 simp only [curE, cX]
 refine sy_cells 2 (wordV (namW l c)) rfl rfl ?_
 refine sy_grow 87 4 ?_
 refine sy_order [1, 2, 0, 3, 4] rfl rfl ?_
 simp only [oX]
 repeat (refine yK ?_)
 refine sy_loop (α := ChnSt) (fun s => [(1, ptr b), (3, .slice s.p s.ys.length s.q), (4, ptr b4)]) (chnH cb p q l b b4) (chnI l R) (fun s => l.length - s.c.i.toNat) ⟨needT l (namCu l c) [60], namW l c, [], none, 0⟩ ⟨a2.ok, by simp, l.length, by simp only; omega, hR⟩ ⟨zz, zz, zz, trivial⟩ (by simp only [chnH, prRow, curE, cX]; exact sr) ?_
 rintro ⟨c', lo, ys, pk, ck⟩ ⟨hci, hlen, n, hn, hr⟩
 simp only at hci hlen hn hr
 simp only [chnH, prRow, curE, cX]
 have b1 := Adv.nam hl hci
 have hmark := cur_mark cb p q l (namCu l c') hl b1.ok [60]
 have ci0 := hci.i0
 have ci1 := hci.i1
 have bi := b1.i
 by_cases hb : isT l (namCu l c') 4 [60] = true
 · rw [hb, show goT l (namCu l c') true = nextT l (namCu l c') from if_pos rfl] at hmark
   obtain ⟨e0, ni, nok, ne, _⟩ := nam_mark hl hci hb
   have ni1 := nok.i1
   obtain ⟨n, rfl⟩ : ∃ k, n = k + 1 := ⟨n - 1, by omega⟩
   have hr' : chnGo l (n + 1) (nextT l (namCu l c')) (namW l c') (ys ++ [(lo, namW l c')]) = R := by
    rw [← hr]; conv => rhs; unfold chnGo
    rw [if_pos hb]
   repeat (first | refine yK ?_ | refine yL 4 ?_)
   refine sy_callE (curE cb p q l _) rfl rfl rfl (sx_name cb p q l c' hl hci) ?_
   rintro _ _ ⟨rfl, rfl⟩
   simp only [curE, cX]
   repeat (first | refine yK ?_ | refine yP ?_ | refine yL 0 ?_ | refine yL 4 ?_ | refine yS 0 ?_ | refine yB ?_ | (refine yA ?_; intro _))
   refine sy_buildSlice rfl rfl rfl rfl rfl rfl rfl rfl ?_
   intro g2
   refine sy_append 4 0 rfl rfl rfl rfl rfl rfl rfl rfl rfl rfl rfl (by omega) (by show (_ + 1) * 48 ≤ _; omega) ?_
   intro pn qn
   refine sy_order [1, 5, 6, 2, 3, 4, 0] rfl rfl ?_
   simp only [oX]
   repeat (first | refine yK ?_ | refine yP ?_ | refine yL 0 ?_ | refine yL 2 ?_ | refine yS 1 ?_ | refine yF ?_)
   refine sy_order [3, 4, 5, 1, 2, 0, 6] rfl rfl ?_
   simp only [oX]
   refine sy_callE (curE cb p q l _) rfl rfl rfl (hmark) ?_
   rintro _ _ ⟨rfl, rfl⟩
   simp only [curE, cX]
   repeat (first | refine yK ?_ | refine yP ?_ | refine yN ?_)
   refine sy_back ⟨nextT l (namCu l c'), namW l c', ys ++ [(lo, namW l c')], some pn, qn⟩ ⟨nok, by simp only [lX]; omega, n, by simp only; omega, hr'⟩ (by simp only; omega) ⟨zz, ⟨_, rfl, by simp only [lX]⟩, zz, trivial⟩ (by simp only [chnH, prRow, curE, cX, pairs_snoc, lX]; exact sk (sk (sk (sk (sk nl)))))
 · have hb : isT l (namCu l c') 4 [60] = false := by simpa using hb
   rw [hb, show goT l (namCu l c') false = namCu l c' from rfl] at hmark
   have hr' : (ys ++ [(lo, namW l c')], namCu l c') = R := by
    rw [← hr]; conv => rhs; unfold chnGo
    rw [if_neg (by rw [hb]; decide)]
   subst hr'
   repeat (first | refine yK ?_ | refine yL 4 ?_)
   refine sy_callE (curE cb p q l _) rfl rfl rfl (sx_name cb p q l c' hl hci) ?_
   rintro _ _ ⟨rfl, rfl⟩
   simp only [curE, cX]
   repeat (first | refine yK ?_ | refine yP ?_ | refine yL 0 ?_ | refine yL 4 ?_ | refine yS 0 ?_ | refine yB ?_ | (refine yA ?_; intro _))
   refine sy_buildSlice rfl rfl rfl rfl rfl rfl rfl rfl ?_
   intro g2
   refine sy_append 4 0 rfl rfl rfl rfl rfl rfl rfl rfl rfl rfl rfl (by omega) (by show (_ + 1) * 48 ≤ _; omega) ?_
   intro pn qn
   refine sy_order [1, 5, 6, 2, 3, 4, 0] rfl rfl ?_
   simp only [oX]
   repeat (first | refine yK ?_ | refine yP ?_ | refine yL 0 ?_ | refine yL 2 ?_ | refine yS 1 ?_ | refine yF ?_)
   refine sy_order [3, 4, 5, 1, 2, 0, 6] rfl rfl ?_
   simp only [oX]
   refine sy_callE (curE cb p q l _) rfl rfl rfl (hmark) ?_
   rintro _ _ ⟨rfl, rfl⟩
   simp only [curE, cX]
   repeat (first | refine yK ?_ | refine yP ?_ | refine yT ?_ | refine sy_rt ?_)
   exact ret1w rfl rfl fun w' hw' => postE hw' (curE cb p q l (namCu l c') ++ [prRow (ys ++ [(lo, namW l c')]) (some pn) qn]) (sub_self (by simp only [curE, prRow, pairs_snoc, cX, lX]; exact sk (sk (sk nl)))) rfl ⟨some pn, qn, by simp only [lX], by simp, rfl⟩
end
def lvH (sb b3 cb : Nat) (x : WsA) : List En :=
 [blk sb 45 [.slice x.p x.l.length x.c, .slice none 0 0, .slice none 0 0, .int .i64 0, .int .i64 0, .int .i64 0, .int .i64 0, .int .i64 0, .slice none 0 0, .slice none 0 0, S [], .int .i64 0], blk b3 71 [ptr cb], wsRow x.l x.p x.c]
def odH (sb b3 cb : Nat) (lv : WsA) (x : PrA) : List En :=
 [blk sb 45 [wsV lv, .slice x.p x.l.length x.c, .slice none 0 0, .int .i64 0, .int .i64 0, .int .i64 0, .int .i64 0, .int .i64 0, .slice none 0 0, .slice none 0 0, S [], .int .i64 0], blk b3 71 [ptr cb], prRow x.l x.p x.c]
theorem flat4 : ∀ (zs : List (WordT × WordT)), (zs.flatMap pairV).length = zs.length * 4
 | [] => rfl
 | z :: zs => by rw [List.flatMap_cons, List.length_append, flat4 zs, List.length_cons]; simp only [pairV, wordV, List.length_append, List.length_cons, List.length_nil]; omega
theorem oneAll_app (a b : List Value) (ha : oneAll a = true) (hb : oneAll b = true) : oneAll (a ++ b) = true := by
 induction a with
 | nil => exact hb
 | cons x a ih => simp only [List.cons_append, oneAll, Bool.and_eq_true] at ha ⊢; exact ⟨ha.1, ih ha.2⟩
theorem oneAll_prs : ∀ (zs : List (WordT × WordT)), oneAll (zs.flatMap pairV) = true
 | [] => rfl
 | z :: zs => by rw [List.flatMap_cons]; exact oneAll_app _ _ rfl (oneAll_prs zs)
section
variable (cb : Nat) (p : Option Addr) (q : Nat) (l : List TokT)
set_option maxRecDepth 20000 in
set_option maxHeartbeats 8000000 in
theorem sx_schema1 (d : Int) (sb b3 : Nat) (hl : TokOk l) :
 OneSpec cb p q l 71 [ptr sb, ptr b3] d (addP (nam1 l)) (fun x : WsA => x.l) (fun x => x.l.length) (lvH sb b3 cb) := by
 intro c x hc hd he hsz
 obtain ⟨px, qx, ys⟩ := x
 simp only at hsz
 have hbig := hl.big
 have i0 := hc.i0
 have i1 := hc.i1
 have a1 := Adv.nam hl hc
 have a0 := a1.i
 refine sy_enterE rfl rfl (fun w => ?_)
 simp only [initFr, curE, lvH, wsRow, cX]
 skip
 refine sy_drawE _ 5 [(0, false), (1, false), (2, false), (3, true), (4, true)] (by kernel_rfl) rfl ((sd (sd (sk (sk nl))))) ?_
 repeat (first | refine dre_rd (fun _ _ => ov_ld 0 rfl rfl rfl) rfl ?_ | refine dre_rd (fun _ _ => ov_ld 1 rfl rfl rfl) rfl ?_ | refine dre_rd (fun _ _ => ov_fieldAddr rfl rfl rfl) rfl ?_)
 refine dre_ef rfl ?_
 refine sy_callE (curE cb p q l _) rfl rfl rfl (sx_name cb p q l c hl hc) ?_
 rintro _ _ ⟨rfl, rfl⟩
 simp only [curE, cX]
 refine dre_ek (sd (sd (sk (sk nl)))) ?_
 refine dre_ef rfl ?_
 refine sy_buildSlice rfl rfl rfl rfl rfl rfl rfl rfl ?_
 intro nb
 refine dre_ek (sd (sd (sd (sk (sk nl))))) ?_
 repeat (refine dre_end ?_)
 refine sy_append 5 0 rfl rfl rfl rfl rfl rfl rfl rfl rfl rfl rfl (by omega) (by show (_ + 1) * 24 ≤ _; omega) ?_
 intro p' q'
 refine sy_weaken (fun _ _ h => h) (sd sr) ?_
 repeat (first | refine yK ?_ | refine yS 2 ?_ | refine yF ?_)
 exact end0w rfl fun w' hw' => postE hw' (curE cb p q l (namCu l c) ++ lvH sb b3 cb ⟨some p', q', ys ++ [namW l c]⟩) (sub_self (by simp only [curE, lvH, wsRow, words_snoc, cX, lX]; exact sk (sk (sk (sk (sk nl)))))) rfl ⟨rfl, ⟨some p', q', ys ++ [namW l c]⟩, rfl, by simp only [lX, addP, nam1]; omega, rfl⟩
set_option maxRecDepth 20000 in
set_option maxHeartbeats 8000000 in
theorem sx_schema2 (d : Int) (sb b3 : Nat) (lv : WsA) (hl : TokOk l) :
 OneSpec cb p q l 74 [ptr sb, ptr b3] d (addC l) (fun x : PrA => x.l) (fun x => x.l.length) (odH sb b3 cb lv) := by
 intro c x hc hd he hsz
 obtain ⟨px, qx, ys⟩ := x
 simp only at hsz
 have hbig := hl.big
 have i0 := hc.i0
 have i1 := hc.i1
 have a1 := Adv.chn hl hc
 have a0 := a1.i
 have hln := chn_len hl hc
 have j1 := a1.ok.i1
 refine sy_enterE rfl rfl (fun w => ?_)
 simp only [initFr, curE, odH, prRow, cX]
 skip
 refine sy_drawE _ 4 [(0, false), (1, false), (2, false), (3, true)] (by kernel_rfl) rfl ((sd (sd (sk (sk nl))))) ?_
 repeat (first | refine dre_rd (fun _ _ => ov_ld 0 rfl rfl rfl) rfl ?_ | refine dre_rd (fun _ _ => ov_ld 1 rfl rfl rfl) rfl ?_ | refine dre_rd (fun _ _ => ov_fieldAddr rfl rfl rfl) rfl ?_)
 refine dre_ef rfl ?_
 refine sy_callE (curE cb p q l _) rfl rfl rfl (sx_chain cb p q l c hl hc) ?_
 rintro _ _ ⟨pk, ck, rfl, h1, rfl⟩
 simp only [curE, prRow, cX]
 refine dre_ek (sd (sd (sd (sk (sk nl))))) ?_
 repeat (refine dre_end ?_)
 refine sy_vecAddr 2 rfl h1 ?_
 rintro g rfl
 refine sy_appendV 5 2 rfl rfl rfl rfl rfl rfl rfl (flat4 _) (oneAll_prs _) h1 rfl (by omega) (by show (_ + _) * 48 ≤ _; omega) ?_
 intro p' q'
 refine sy_weaken (fun _ _ h => h) (sk (sk (sd sr))) ?_
 repeat (first | refine yK ?_ | refine yS 2 ?_ | refine yF ?_)
 have e1 : (ys ++ (chnP l c).1).length = ys.length + (chnP l c).1.length := List.length_append
 have e2 : (ys ++ (chnP l c).1).flatMap pairV = ys.flatMap pairV ++ (chnP l c).1.flatMap pairV := List.flatMap_append
 exact end0w rfl fun w' hw' => postE hw' (curE cb p q l (chnP l c).2 ++ odH sb b3 cb lv ⟨some p', q', ys ++ (chnP l c).1⟩) (sub_self (by simp only [curE, odH, prRow, e1, e2, cX]; exact sk (sk (sk (sk (sk nl)))))) rfl ⟨rfl, ⟨some p', q', ys ++ (chnP l c).1⟩, rfl, by simp only [addC]; rw [e1]; omega, rfl⟩
end
structure TySt where
 c : CurT
 zs : List NmdA
 p : Option Addr
 q : Nat
def tyH (cb : Nat) (p : Option Addr) (q : Nat) (l : List TokT) (sb b3 rb : Nat) (lv : WsA) (od : PrA) (s : TySt) : List En :=
 curE cb p q l s.c ++ [blk sb 45 [wsV lv, prsV od, .slice s.p s.zs.length s.q, .int .i64 0, .int .i64 0, .int .i64 0, .int .i64 0, .int .i64 0, .slice none 0 0, .slice none 0 0, S [], .int .i64 0], blk b3 71 [ptr cb], vec 89 11 (.slice s.p s.zs.length s.q) s.zs.length (s.zs.flatMap nmdV), nmdsE s.zs, blk rb 45 (schV sch0), wsE lv, prE od]
def tyI (l : List TokT) (R : List (WordT × TypP) × CurT) (s : TySt) : Prop := CurOk l s.c ∧ s.c.d = 0 ∧ s.zs.length ≤ s.c.i.toNat ∧ ∃ n, (s.c.e = 0 → l.length ≤ s.c.i.toNat + n) ∧ typsGo l n s.c (s.zs.map plN) = R
theorem sch_eq {a a' : List WordT} {b b' : List (WordT × WordT)} {c c' : List (WordT × TypP)} {d d' : TypP} (h1 : a = a') (h2 : b = b') (h3 : c = c') (h4 : d = d') : SchP.mk a b c d = SchP.mk a' b' c' d' := by subst h1 h2 h3 h4; rfl
def nmC (nm : WordT) (ty : List Value) : List Value := S nm.1 :: .int .i64 nm.2 :: ty
section
variable (cb : Nat) (p : Option Addr) (q : Nat) (l : List TokT) (c : CurT)
set_option maxRecDepth 20000 in
set_option maxHeartbeats 16000000 in
theorem sx_schema (hl : TokOk l) (hc : CurOk l c) (hd : c.d = 0) : CallsE Tryz.prog 33 [prs cb] (curE cb p q l c) fun u es' => ∃ z : SchA, u = .agg ⟨schV z⟩ ∧ plS z = (schP l c).1 ∧ es' = curE cb p q l (schP l c).2 ++ [schE z] := by
 have a1 := Adv.kw hl hc wLevels
 have a2 := a1.trans (Adv.need hl a1.ok [123] (by simp))
 obtain ⟨c2, hc2⟩ : ∃ x, needT l (kwC l c wLevels) [123] = x := ⟨_, rfl⟩
 rw [hc2] at a2
 have a3 := a2.trans (Adv.nams hl a2.ok [125])
 obtain ⟨c3, hc3⟩ : ∃ x, (namsP l [125] c2).2 = x := ⟨_, rfl⟩
 rw [hc3] at a3
 have a4 := a3.trans (Adv.ord hl a3.ok)
 obtain ⟨c4, hc4⟩ : ∃ x, (ordP l c3).2 = x := ⟨_, rfl⟩
 rw [hc4] at a4
 have a5 := a4.trans (typsGo_adv hl (l.length + 1) a4.ok (a4.d.trans hd) [])
 obtain ⟨R, hR⟩ : ∃ x, typsGo l (l.length + 1) c4 [] = x := ⟨_, rfl⟩
 rw [hR] at a5
 have a6 := a5.trans (Adv.kw hl a5.ok wRoot)
 have hbig := hl.big
 have hS : schP l c = (⟨(namsP l [125] c2).1, (ordP l c3).1, R.1, (kndP l 24 (kwC l R.2 wRoot)).1⟩, (kndP l 24 (kwC l R.2 wRoot)).2) := by
  subst hR hc4 hc3 hc2; rfl
 have hlist1 := fun (sb b3 : Nat) => sx_list cb p q l c2 [125] false [] [ptr sb, ptr b3] 0 (addP (nam1 l)) (fun x : WsA => x.l) (fun x => x.l.length) (lvH sb b3 cb) (fun c' y h hd => Adv.nam hl h) (sx_schema1 cb p q l 0 sb b3 hl) hl a2.ok (a2.d.trans hd) ws0 (fun _ => Nat.zero_le _)
 have hword3 := cur_word cb p q l c3 hl a3.ok wOrder
 have hend := sx_kind 24 cb p q l _ hl a6.ok (by rw [a6.d, hd]; rfl)
 refine sy_enterE rfl rfl (fun w => ?_)
 simp only [initFr, curE, cX]
 repeat (first | refine yK ?_ | refine yL 2 ?_ | (refine yX ?_; intro _) | (refine yA ?_; intro _))
 rename_i b3 rb sb
 refine sy_cells 0 [.slice none 0 0, .slice none 0 0, .slice none 0 0, .int .i64 0, .int .i64 0, .int .i64 0, .int .i64 0, .int .i64 0, .slice none 0 0, .slice none 0 0, S [], .int .i64 0] rfl rfl ?_
 refine sy_cells 1 (schV sch0) rfl rfl ?_
 refine sy_order [3, 4, 0, 2, 1] rfl rfl ?_
 simp only [oX]
 refine sy_callE (curE cb p q l _) rfl rfl rfl (sx_keyword cb p q l c hl hc wLevels) ?_
 rintro _ _ ⟨rfl, rfl⟩
 simp only [curE, cX]
 repeat (first | refine yK ?_ | refine yL 3 ?_ | refine yF ?_)
 refine sy_callE (curE cb p q l _) rfl rfl rfl (cur_need cb p q l _ hl a1.ok [123]) ?_
 rintro _ _ ⟨rfl, rfl⟩
 simp only [curE, cX]
 rw [hc2]
 repeat (first | refine yK ?_ | refine yL 3 ?_)
 refine sy_ov (ov_makeFunc rfl rfl) rfl rfl ?_
 refine sy_grow 36 2 ?_
 refine sy_order [1, 2, 3, 4, 0, 5] rfl rfl ?_
 simp only [oX]
 refine sy_callE (curE cb p q l c2 ++ lvH sb b3 cb ws0) rfl rfl rfl (hlist1 sb b3) ?_
 rintro _ _ ⟨rfl, ⟨px, qx, ys⟩, hx, rfl⟩
 rw [show (lstP l (addP (nam1 l)) [125] false c2 ws0.l).2 = c3 from hc3]
 have hx : ys = (namsP l [125] c2).1 := hx
 simp only [curE, lvH, wsRow, cX]
 refine sy_order [4, 0, 1, 2, 3, 5] rfl rfl ?_
 simp only [oX]
 refine sy_wsMk ?_
 refine sy_order [1, 2, 3, 4, 5, 0] rfl rfl ?_
 simp only [oX]
 repeat (first | refine yK ?_ | refine yL 3 ?_ | refine yF ?_)
 by_cases hw : isT l c3 1 wOrder = true
 · rw [hw, show goT l c3 true = nextT l c3 from if_pos rfl] at hword3
   have d1 := a3.trans (Adv.next hl a3.ok)
   have d2 := d1.trans (Adv.need hl d1.ok [123] (by simp))
   have hlist2 := fun (sb b3 : Nat) (lv : WsA) => sx_list cb p q l (needT l (nextT l c3) [123]) [125] true [] [ptr sb, ptr b3] 0 (addC l) (fun x : PrA => x.l) (fun x => x.l.length) (odH sb b3 cb lv) (fun c' y h hd => Adv.chn hl h) (sx_schema2 cb p q l 0 sb b3 lv hl) hl d2.ok (d2.d.trans hd) pr0 (fun _ => Nat.zero_le _)
   refine sy_callE (curE cb p q l _) rfl rfl rfl (hword3) ?_
   rintro _ _ ⟨rfl, rfl⟩
   simp only [curE, cX]
   repeat (first | refine yK ?_ | refine yL 3 ?_ | refine yF ?_ | refine yT ?_)
   refine sy_callE (curE cb p q l _) rfl rfl rfl (cur_need cb p q l _ hl d1.ok [123]) ?_
   rintro _ _ ⟨rfl, rfl⟩
   simp only [curE, cX]
   repeat (first | refine yK ?_ | refine yL 3 ?_)
   refine sy_ov (ov_makeFunc rfl rfl) rfl rfl ?_
   refine sy_grow 87 4 ?_
   refine sy_order [1, 2, 3, 4, 0, 5, 6] rfl rfl ?_
   simp only [oX]
   refine sy_callE (curE cb p q l _ ++ odH sb b3 cb ⟨px, qx, ys⟩ pr0) rfl rfl rfl (hlist2 sb b3 ⟨px, qx, ys⟩) ?_
   rintro _ _ ⟨rfl, ⟨po, qo, os⟩, ho, rfl⟩
   rw [show (lstP l (addC l) [125] true (needT l (nextT l c3) [123]) pr0.l).2 = c4 by rw [← hc4]; unfold ordP; rw [if_pos hw]; rfl]
   have ho : os = (ordP l c3).1 := by unfold ordP; rw [if_pos hw]; exact ho
   simp only [curE, odH, prRow, cX]
   refine sy_order [4, 0, 1, 2, 3, 5, 6] rfl rfl ?_
   simp only [oX]
   refine sy_prMk ?_
   refine sy_order [1, 2, 3, 4, 5, 6, 0] rfl rfl ?_
   simp only [oX]
   refine sy_nmds0 ?_
   refine sy_grow 89 11 ?_
   refine sy_order [2, 3, 4, 5, 0, 1, 6, 7, 8] rfl rfl ?_
   simp only [oX]
   repeat (refine yK ?_)
   refine sy_loop (α := TySt) (fun _ => [(1, ptr b3), (2, ptr rb), (3, ptr sb)]) (tyH cb p q l sb b3 rb (⟨px, qx, ys⟩ : WsA) (⟨po, qo, os⟩ : PrA)) (tyI l R) (fun s => l.length - s.c.i.toNat) ⟨c4, [], none, 0⟩ ⟨a4.ok, a4.d.trans hd, Nat.zero_le _, l.length + 1, fun _ => by omega, hR⟩ ⟨zz, zz, zz, trivial⟩ (by simp only [tyH, curE, cX]; exact sr) ?_
   rintro ⟨c', zs, pz, cz⟩ ⟨hci, hdi, hlen, n, hn, hr⟩
   simp only at hci hdi hlen hn hr
   simp only [tyH, curE, cX]
   have ci0 := hci.i0
   have ci1 := hci.i1
   have hword := cur_word cb p q l c' hl hci wType
   by_cases hb : isT l c' 1 wType = true
   · rw [hb, show goT l c' true = nextT l c' from if_pos rfl] at hword
     obtain ⟨e0, en, _⟩ := next_lt hl hci hb (by decide)
     have g1 := Adv.next hl hci
     have g2 := g1.trans (Adv.nam hl g1.ok)
     have g3 := g2.trans (Adv.need hl g2.ok [61] (by simp))
     have g4 := g3.trans (knd_adv hl 24 0 (by omega) _ g3.ok (g3.d.trans hdi))
     have gi1 := (Adv.nam hl g1.ok).i
     have gi2 := (Adv.need hl g2.ok [61] (by simp)).i
     have gi3 := (knd_adv hl 24 0 (by omega) _ g3.ok (g3.d.trans hdi)).i
     have gi0 : (nextT l c').i = c'.i + 1 := by rw [en]
     have gj := g4.ok.i1
     obtain ⟨n, rfl⟩ : ∃ k, n = k + 1 := ⟨n - 1, by have := hn e0; omega⟩
     have hkd := sx_kind 24 cb p q l _ hl g3.ok (by rw [g3.d, hdi]; rfl)
     have hr' : typsGo l n (kndP l 24 (needT l (namCu l (nextT l c')) [61])).2 (zs.map plN ++ [(namW l (nextT l c'), (kndP l 24 (needT l (namCu l (nextT l c')) [61])).1)]) = R := by
      rw [← hr]; conv => rhs; unfold typsGo
      rw [if_pos hb]
     repeat (first | refine yK ?_ | refine yL 3 ?_ | refine yF ?_)
     refine sy_callE (curE cb p q l _) rfl rfl rfl (hword) ?_
     rintro _ _ ⟨rfl, rfl⟩
     simp only [curE, cX]
     repeat (first | refine yK ?_ | refine yL 3 ?_ | refine yT ?_)
     refine sy_callE (curE cb p q l _) rfl rfl rfl (sx_name cb p q l _ hl g1.ok) ?_
     rintro _ _ ⟨rfl, rfl⟩
     simp only [curE, cX]
     repeat (first | refine yK ?_ | refine yL 4 ?_ | refine yS 0 ?_ | refine yF ?_ | refine yB ?_ | (refine yA ?_; intro _))
     rename_i nb
     refine sy_cells 0 (nmC (namW l (nextT l c')) (typV (typ0 0))) rfl rfl ?_
     refine sy_order [1, 2, 3, 4, 0, 5, 6, 7, 8, 9] rfl rfl ?_
     simp only [oX]
     refine sy_callE (curE cb p q l _) rfl rfl rfl (cur_need cb p q l _ hl g2.ok [61]) ?_
     rintro _ _ ⟨rfl, rfl⟩
     simp only [curE, cX]
     repeat (first | refine yK ?_ | refine yL 3 ?_)
     refine sy_callE (curE cb p q l _) rfl rfl rfl hkd ?_
     rintro _ _ ⟨z, rfl, hz, rfl⟩
     obtain ⟨zk, za, zlo, zhi, zmo, zns, zpp, zcp, zparts, znm⟩ := z
     simp only [curE, cX]
     refine sy_order [0, 1, 5, 3, 4, 2, 6, 7, 8, 9, 10] rfl rfl ?_
     simp only [oX]
     repeat (first | refine yK ?_ | refine yL 2 ?_ | refine yL 3 ?_ | refine yS 2 ?_ | refine yF ?_)
     refine sy_buildSlice rfl rfl rfl rfl rfl rfl rfl rfl ?_
     intro g7
     refine sy_append 7 0 rfl rfl rfl rfl rfl rfl rfl rfl rfl rfl rfl (by omega) (by show (_ + 1) * 136 ≤ _; omega) ?_
     intro pn qn
     refine sy_weaken (fun _ _ h => h) (sd (sk (sk (sd sr)))) ?_
     repeat (first | refine yK ?_ | refine yS 2 ?_ | refine yF ?_)
     refine sy_order [6, 4, 0, 1, 2, 3, 5, 7, 8, 9] rfl rfl ?_
     simp only [oX]
     refine sy_nmdsAdd (z := ⟨namW l (nextT l c'), .mk zk za zlo zhi zmo zns zpp zcp zparts znm⟩) ?_
     refine sy_order [1, 2, 3, 4, 5, 0, 6, 7, 8] rfl rfl ?_
     simp only [oX]
     refine sy_back ⟨(kndP l 24 (needT l (namCu l (nextT l c')) [61])).2, zs ++ [⟨namW l (nextT l c'), .mk zk za zlo zhi zmo zns zpp zcp zparts znm⟩], some pn, qn⟩ ⟨g4.ok, g4.d.trans hdi, by simp only [lX]; omega, n, fun h => by have := hn e0; simp only at h ⊢; omega, ?_⟩ (by simp only; omega) ⟨zz, zz, zz, trivial⟩ (by simp only [tyH, curE, cX, nmds_snoc, lX]; exact sk (sk (sk (sk (sk (sk (sk (sk (sk nl)))))))))
     simp only [List.map_append, List.map_cons, List.map_nil, plN]
     rw [hz]; exact hr'
   · have hb : isT l c' 1 wType = false := by simpa using hb
     rw [hb, show goT l c' false = c' from rfl] at hword
     have hr' : (zs.map plN, c') = R := by
      rw [← hr]
      cases n with
      | zero => rfl
      | succ n => unfold typsGo; rw [if_neg (by rw [hb]; decide)]
     subst hr'
     repeat (first | refine yK ?_ | refine yL 3 ?_ | refine yF ?_)
     refine sy_callE (curE cb p q l _) rfl rfl rfl (hword) ?_
     rintro _ _ ⟨rfl, rfl⟩
     simp only [curE, cX]
     repeat (first | refine yK ?_ | refine yL 3 ?_ | refine yN ?_)
     refine sy_callE (curE cb p q l _) rfl rfl rfl (sx_keyword cb p q l _ hl hci wRoot) ?_
     rintro _ _ ⟨rfl, rfl⟩
     simp only [curE, cX]
     repeat (first | refine yK ?_ | refine yL 3 ?_)
     refine sy_callE (curE cb p q l _) rfl rfl rfl hend ?_
     rintro _ _ ⟨z, rfl, hz, rfl⟩
     obtain ⟨zk, za, zlo, zhi, zmo, zns, zpp, zcp, zparts, znm⟩ := z
     simp only [curE, cX]
     refine sy_order [8, 9, 5, 6, 2, 0, 1, 3, 4, 7] rfl rfl ?_
     simp only [oX]
     refine sy_schMk ?_
     refine sy_order [1, 2, 0, 5, 3, 4] rfl rfl ?_
     simp only [oX]
     repeat (first | refine yK ?_ | refine yL 4 ?_ | refine yS 3 ?_ | refine yS 4 ?_ | refine yF ?_ | refine sy_rt ?_)
     exact ret1cw 3 rfl rfl rfl rfl rfl fun w' hw' => postE hw' (curE cb p q l _ ++ [schE ⟨(⟨px, qx, ys⟩ : WsA), (⟨po, qo, os⟩ : PrA), pz, cz, zs, .mk zk za zlo zhi zmo zns zpp zcp zparts znm⟩]) (sub_self (sk (sk (sk nl)))) rfl ⟨⟨(⟨px, qx, ys⟩ : WsA), (⟨po, qo, os⟩ : PrA), pz, cz, zs, .mk zk za zlo zhi zmo zns zpp zcp zparts znm⟩, rfl, by rw [hS]; exact sch_eq hx ho rfl hz, by rw [hS]; rfl⟩
 · have hw : isT l c3 1 wOrder = false := by simpa using hw
   rw [hw, show goT l c3 false = c3 from rfl] at hword3
   have e4 : ordP l c3 = ([], c3) := by unfold ordP; rw [if_neg (by rw [hw]; decide)]
   have e5 : c3 = c4 := by rw [← hc4, e4]
   have ho : ([] : List (WordT × WordT)) = (ordP l c3).1 := by rw [e4]
   refine sy_callE (curE cb p q l _) rfl rfl rfl (hword3) ?_
   rintro _ _ ⟨rfl, rfl⟩
   simp only [curE, cX]
   rw [e5]
   refine sy_pr0 ?_
   refine sy_order [1, 2, 3, 4, 5, 6, 0] rfl rfl ?_
   simp only [oX]
   refine sy_nmds0 ?_
   refine sy_grow 89 11 ?_
   refine sy_order [2, 3, 4, 5, 0, 1, 6, 7, 8] rfl rfl ?_
   simp only [oX]
   repeat (first | refine yK ?_ | refine yN ?_)
   refine sy_loop (α := TySt) (fun _ => [(1, ptr b3), (2, ptr rb), (3, ptr sb)]) (tyH cb p q l sb b3 rb (⟨px, qx, ys⟩ : WsA) pr0) (tyI l R) (fun s => l.length - s.c.i.toNat) ⟨c4, [], none, 0⟩ ⟨a4.ok, a4.d.trans hd, Nat.zero_le _, l.length + 1, fun _ => by omega, hR⟩ ⟨zz, zz, zz, trivial⟩ (by simp only [tyH, curE, cX]; exact sr) ?_
   rintro ⟨c', zs, pz, cz⟩ ⟨hci, hdi, hlen, n, hn, hr⟩
   simp only at hci hdi hlen hn hr
   simp only [tyH, curE, cX]
   have ci0 := hci.i0
   have ci1 := hci.i1
   have hword := cur_word cb p q l c' hl hci wType
   by_cases hb : isT l c' 1 wType = true
   · rw [hb, show goT l c' true = nextT l c' from if_pos rfl] at hword
     obtain ⟨e0, en, _⟩ := next_lt hl hci hb (by decide)
     have g1 := Adv.next hl hci
     have g2 := g1.trans (Adv.nam hl g1.ok)
     have g3 := g2.trans (Adv.need hl g2.ok [61] (by simp))
     have g4 := g3.trans (knd_adv hl 24 0 (by omega) _ g3.ok (g3.d.trans hdi))
     have gi1 := (Adv.nam hl g1.ok).i
     have gi2 := (Adv.need hl g2.ok [61] (by simp)).i
     have gi3 := (knd_adv hl 24 0 (by omega) _ g3.ok (g3.d.trans hdi)).i
     have gi0 : (nextT l c').i = c'.i + 1 := by rw [en]
     have gj := g4.ok.i1
     obtain ⟨n, rfl⟩ : ∃ k, n = k + 1 := ⟨n - 1, by have := hn e0; omega⟩
     have hkd := sx_kind 24 cb p q l _ hl g3.ok (by rw [g3.d, hdi]; rfl)
     have hr' : typsGo l n (kndP l 24 (needT l (namCu l (nextT l c')) [61])).2 (zs.map plN ++ [(namW l (nextT l c'), (kndP l 24 (needT l (namCu l (nextT l c')) [61])).1)]) = R := by
      rw [← hr]; conv => rhs; unfold typsGo
      rw [if_pos hb]
     repeat (first | refine yK ?_ | refine yL 3 ?_ | refine yF ?_)
     refine sy_callE (curE cb p q l _) rfl rfl rfl (hword) ?_
     rintro _ _ ⟨rfl, rfl⟩
     simp only [curE, cX]
     repeat (first | refine yK ?_ | refine yL 3 ?_ | refine yT ?_)
     refine sy_callE (curE cb p q l _) rfl rfl rfl (sx_name cb p q l _ hl g1.ok) ?_
     rintro _ _ ⟨rfl, rfl⟩
     simp only [curE, cX]
     repeat (first | refine yK ?_ | refine yL 4 ?_ | refine yS 0 ?_ | refine yF ?_ | refine yB ?_ | (refine yA ?_; intro _))
     rename_i nb
     refine sy_cells 0 (nmC (namW l (nextT l c')) (typV (typ0 0))) rfl rfl ?_
     refine sy_order [1, 2, 3, 4, 0, 5, 6, 7, 8, 9] rfl rfl ?_
     simp only [oX]
     refine sy_callE (curE cb p q l _) rfl rfl rfl (cur_need cb p q l _ hl g2.ok [61]) ?_
     rintro _ _ ⟨rfl, rfl⟩
     simp only [curE, cX]
     repeat (first | refine yK ?_ | refine yL 3 ?_)
     refine sy_callE (curE cb p q l _) rfl rfl rfl hkd ?_
     rintro _ _ ⟨z, rfl, hz, rfl⟩
     obtain ⟨zk, za, zlo, zhi, zmo, zns, zpp, zcp, zparts, znm⟩ := z
     simp only [curE, cX]
     refine sy_order [0, 1, 5, 3, 4, 2, 6, 7, 8, 9, 10] rfl rfl ?_
     simp only [oX]
     repeat (first | refine yK ?_ | refine yL 2 ?_ | refine yL 3 ?_ | refine yS 2 ?_ | refine yF ?_)
     refine sy_buildSlice rfl rfl rfl rfl rfl rfl rfl rfl ?_
     intro g7
     refine sy_append 7 0 rfl rfl rfl rfl rfl rfl rfl rfl rfl rfl rfl (by omega) (by show (_ + 1) * 136 ≤ _; omega) ?_
     intro pn qn
     refine sy_weaken (fun _ _ h => h) (sd (sk (sk (sd sr)))) ?_
     repeat (first | refine yK ?_ | refine yS 2 ?_ | refine yF ?_)
     refine sy_order [6, 4, 0, 1, 2, 3, 5, 7, 8, 9] rfl rfl ?_
     simp only [oX]
     refine sy_nmdsAdd (z := ⟨namW l (nextT l c'), .mk zk za zlo zhi zmo zns zpp zcp zparts znm⟩) ?_
     refine sy_order [1, 2, 3, 4, 5, 0, 6, 7, 8] rfl rfl ?_
     simp only [oX]
     refine sy_back ⟨(kndP l 24 (needT l (namCu l (nextT l c')) [61])).2, zs ++ [⟨namW l (nextT l c'), .mk zk za zlo zhi zmo zns zpp zcp zparts znm⟩], some pn, qn⟩ ⟨g4.ok, g4.d.trans hdi, by simp only [lX]; omega, n, fun h => by have := hn e0; simp only at h ⊢; omega, ?_⟩ (by simp only; omega) ⟨zz, zz, zz, trivial⟩ (by simp only [tyH, curE, cX, nmds_snoc, lX]; exact sk (sk (sk (sk (sk (sk (sk (sk (sk nl)))))))))
     simp only [List.map_append, List.map_cons, List.map_nil, plN]
     rw [hz]; exact hr'
   · have hb : isT l c' 1 wType = false := by simpa using hb
     rw [hb, show goT l c' false = c' from rfl] at hword
     have hr' : (zs.map plN, c') = R := by
      rw [← hr]
      cases n with
      | zero => rfl
      | succ n => unfold typsGo; rw [if_neg (by rw [hb]; decide)]
     subst hr'
     repeat (first | refine yK ?_ | refine yL 3 ?_ | refine yF ?_)
     refine sy_callE (curE cb p q l _) rfl rfl rfl (hword) ?_
     rintro _ _ ⟨rfl, rfl⟩
     simp only [curE, cX]
     repeat (first | refine yK ?_ | refine yL 3 ?_ | refine yN ?_)
     refine sy_callE (curE cb p q l _) rfl rfl rfl (sx_keyword cb p q l _ hl hci wRoot) ?_
     rintro _ _ ⟨rfl, rfl⟩
     simp only [curE, cX]
     repeat (first | refine yK ?_ | refine yL 3 ?_)
     refine sy_callE (curE cb p q l _) rfl rfl rfl hend ?_
     rintro _ _ ⟨z, rfl, hz, rfl⟩
     obtain ⟨zk, za, zlo, zhi, zmo, zns, zpp, zcp, zparts, znm⟩ := z
     simp only [curE, cX]
     refine sy_order [8, 9, 5, 6, 2, 0, 1, 3, 4, 7] rfl rfl ?_
     simp only [oX]
     refine sy_schMk ?_
     refine sy_order [1, 2, 0, 5, 3, 4] rfl rfl ?_
     simp only [oX]
     repeat (first | refine yK ?_ | refine yL 4 ?_ | refine yS 3 ?_ | refine yS 4 ?_ | refine yF ?_ | refine sy_rt ?_)
     exact ret1cw 3 rfl rfl rfl rfl rfl fun w' hw' => postE hw' (curE cb p q l _ ++ [schE ⟨(⟨px, qx, ys⟩ : WsA), pr0, pz, cz, zs, .mk zk za zlo zhi zmo zns zpp zcp zparts znm⟩]) (sub_self (sk (sk (sk nl)))) rfl ⟨⟨(⟨px, qx, ys⟩ : WsA), pr0, pz, cz, zs, .mk zk za zlo zhi zmo zns zpp zcp zparts znm⟩, rfl, by rw [hS]; exact sch_eq hx ho rfl hz, by rw [hS]; rfl⟩
end
def PaP (s : List UInt8) (u : Value) (es : List En) : Prop := ∃ z : SchA, u = .tuple #[.agg ⟨schV z⟩, faultV (schR s).2.1 (schR s).2.2] ∧ plS z = (schR s).1 ∧ es = [schE z]
def schC (lv od ty : Value) (k a lo hi most : Int) (ns pp : Value) (nm : WordT) : List Value := [lv, od, ty, .int .i64 k, .int .i64 a, .int .i64 lo, .int .i64 hi, .int .i64 most, ns, pp, S nm.1, .int .i64 nm.2]
set_option maxRecDepth 20000 in
set_option maxHeartbeats 8000000 in
theorem sx_parse (s : List UInt8) (hs : s.length ≤ 100000000) : CallsE Tryz.prog 14 [S s] [] (PaP s) := by
 obtain ⟨l, e, a, hL⟩ : ∃ L e a, scanR s = (L, e, a) := ⟨_, _, _, rfl⟩
 by_cases he : e = 0
 · subst he
   have ha := scanR_a0 hL
   subst ha
   have hT := (scanR_toks hL (scanR_cnt hL)).1
   have hc0 : CurOk l cur0 := ⟨by decide, by have := hT.n; simp only [cur0]; omega, by decide, by decide⟩
   have hk := fun cb p q => sx_schema cb p q l cur0 hT hc0 rfl
   have a1 := Adv.sch hT hc0 rfl
   have hend := fun cb p q => sx_end cb p q l _ hT a1.ok
   have hR : schR s = if (endC l (schP l cur0).2).e ≠ 0 then (zsP, (endC l (schP l cur0).2).e, (endC l (schP l cur0).2).a) else ((schP l cur0).1, (endC l (schP l cur0).2).e, (endC l (schP l cur0).2).a) := by
    unfold schR; rw [hL]; simp
   refine sy_enterE rfl rfl (fun w => ?_)
   simp only [initFr]
   repeat (first | refine yK ?_ | refine yP ?_ | (refine yA ?_; intro _))
   refine sy_callE [] rfl rfl rfl (cur_new s (by omega)) ?_
   rintro _ _ (⟨hz, cb, p, q, rfl, rfl⟩ | ⟨hz, _⟩)
   · rw [hL]
     dsimp only
     simp only [curE, cX]
     repeat (first | refine yK ?_ | refine yP ?_ | refine yL 0 ?_ | refine yS 0 ?_ | refine yF ?_ | refine yB ?_ | (refine yA ?_; intro _) | refine yN ?_)
     refine sy_order [2, 3, 0, 1, 4, 5] rfl rfl ?_
     simp only [oX]
     skip
     refine sy_callE (curE cb p q l cur0) rfl rfl rfl (hk cb p q) ?_
     rintro _ _ ⟨z, rfl, hz1, rfl⟩
     obtain ⟨zlv, zod, ztp, ztc, zty, ⟨zk, za, zlo, zhi, zmo, zns, zpp, zcp, zparts, znm⟩⟩ := z
     simp only [curE, cX]
     repeat (first | refine yK ?_ | refine yL 4 ?_ | refine yS 0 ?_ | (refine yA ?_; intro _))
     refine sy_order [1, 2, 4, 5, 0, 3, 6, 7] rfl rfl ?_
     simp only [oX]
     refine sy_cells 4 (schC (wsV zlv) (prsV zod) (.slice ztp zty.length ztc) zk za zlo zhi zmo (wsV zns) (.slice zpp zparts.length zcp) znm) rfl rfl ?_
     skip
     refine sy_callE (curE cb p q l _) rfl rfl rfl (hend cb p q) ?_
     rintro _ _ ⟨rfl, rfl⟩
     simp only [curE, cX]
     repeat (first | refine yK ?_ | refine yP ?_ | refine yL 3 ?_ | refine yS 3 ?_ | refine yF ?_)
     by_cases hce : (endC l (schP l cur0).2).e = 0
     · refine sy_cond_f rfl (by simp [hce]) ?_
       repeat (refine yK ?_)
       refine sy_order [4, 3, 7, 6, 0, 1, 2, 5] rfl rfl ?_
       simp only [oX]
       refine sy_drawE _ 3 [(0, false), (1, false), (2, true)] (by kernel_rfl) rfl ((sk (sk nl))) ?_
       repeat (first | refine dre_rd (fun _ _ => ov_ld 0 rfl rfl rfl) rfl ?_ | refine dre_rd (fun _ _ => ov_ld 1 rfl rfl rfl) rfl ?_ | (refine dre_ef rfl ?_; refine yS 2 ?_; refine dre_ek (by repeat first | exact sr | apply sk | apply sd) ?_) | refine dre_end ?_)
       repeat (first | refine yK ?_ | refine yS 3 ?_ | refine sy_rt ?_)
       exact ret_ccw 2 3 rfl rfl rfl rfl rfl rfl rfl rfl rfl fun w' hw' => postE hw' _ (sub_self (sd (sd (sd (sd (sd (sd (sd sr)))))))) rfl ⟨⟨zlv, zod, ztp, ztc, zty, .mk zk za zlo zhi zmo zns zpp zcp zparts znm⟩, by rw [hR, if_neg (fun h => h hce)]; rfl, by rw [hR, if_neg (fun h => h hce)]; exact hz1, rfl⟩
     · refine sy_cond_t rfl (by simp [hce]) ?_
       repeat (refine yK ?_)
       refine sy_sch0 ?_
       refine sy_order [5, 4, 8, 7, 1, 2, 3, 6, 0] rfl rfl ?_
       simp only [oX]
       refine sy_drawE _ 3 [(0, false), (1, false), (2, true)] (by kernel_rfl) rfl ((sk (sk nl))) ?_
       repeat (first | refine dre_rd (fun _ _ => ov_ld 1 rfl rfl rfl) rfl ?_ | refine dre_rd (fun _ _ => ov_build rfl rfl rfl) rfl ?_ | (refine dre_ef rfl ?_; refine yS 2 ?_; refine dre_ek (by repeat first | exact sr | apply sk | apply sd) ?_) | refine dre_end ?_)
       repeat (first | refine yK ?_ | refine yS 3 ?_ | refine sy_rt ?_)
       exact ret_ccw 2 3 rfl rfl rfl rfl rfl rfl rfl rfl rfl fun w' hw' => postE hw' _ (sub_self (sd (sd (sd (sd (sd (sd (sd (sd sr))))))))) rfl ⟨sch0, by rw [hR, if_pos hce]; rfl, by rw [hR, if_pos hce]; exact plS0, rfl⟩
   · rw [hL] at hz; exact absurd rfl hz
 · have hR : schR s = (zsP, e, a) := by unfold schR; rw [hL, if_pos he]
   refine sy_enterE rfl rfl (fun w => ?_)
   simp only [initFr]
   repeat (first | refine yK ?_ | refine yP ?_ | (refine yA ?_; intro _))
   refine sy_callE [] rfl rfl rfl (cur_new s (by omega)) ?_
   rintro _ _ (⟨hz, _⟩ | ⟨hz, rfl, rfl⟩)
   · rw [hL] at hz; exact absurd hz he
   · rw [hL]
     simp only [List.nil_append]
     repeat (first | refine yK ?_ | refine yP ?_ | refine yL 0 ?_ | refine yS 0 ?_ | refine yF ?_ | (refine yA ?_; intro _) | refine yT ?_)
     refine sy_sch0 ?_
     refine sy_order [1, 2, 3, 0] rfl rfl ?_
     simp only [oX]
     refine sy_drawE _ 3 [(0, false), (1, false), (2, true)] (by kernel_rfl) rfl ((sk nl)) ?_
     repeat (first | refine dre_rd (fun _ _ => ov_ld 0 rfl rfl rfl) rfl ?_ | refine dre_rd (fun _ _ => ov_build rfl rfl rfl) rfl ?_ | (refine dre_ef rfl ?_; refine yS 2 ?_; refine dre_ek (by repeat first | exact sr | apply sk | apply sd) ?_) | refine dre_end ?_)
     repeat (first | refine yK ?_ | refine yS 1 ?_ | refine sy_rt ?_)
     exact ret_ccw 2 1 rfl rfl rfl rfl rfl rfl rfl rfl rfl fun w' hw' => postE hw' _ (sub_self (sd (sd (sd sr)))) rfl ⟨sch0, by rw [hR]; rfl, by rw [hR]; exact plS0, rfl⟩
end Go.Proofs.YtldjakeigjngoaaGreat