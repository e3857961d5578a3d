/- BSS: texts of this proof, joined by program: Syn1, Syn2, Syn3, Syn4, Syn5, Syn6. -/
import Derived.Test.YtldjakeigjngoaaGreatBSA
import Derived.Test.YtldjakeigjngoaaGreatBCX
import Derived.Test.YtldjakeigjngoaaGreatBRC
/- Contracts of the types' readers: its small readers. -/
set_option linter.unusedVariables false
set_option linter.unusedSimpArgs false
namespace Go.Proofs.YtldjakeigjngoaaGreat
open Go.RowKit Bf
abbrev prs (b : Nat) : Value := .agg ⟨[ptr b]⟩
abbrev SyCalls (f : FuncId) (args : List Value) (b : Nat) (p : Option Addr) (q : Nat) (l : List TokT) (c : CurT) (v : Value) (c' : CurT) : Prop :=
 CallsE Tryz.prog f (prs b :: args) (curE b p q l c) fun u es' => u = v ∧ es' = curE b p q l c'
section
variable (cb : Nat) (p : Option Addr) (q : Nat) (l : List TokT) (c : CurT)
set_option maxRecDepth 20000 in
theorem sx_wrong (hl : TokOk l) (hc : CurOk l c) : SyCalls 55 [] cb p q l c (.tuple #[]) (wrongT l c) := by
 by_cases h0 : (peekT l c).1 = 0
 · have hn : wrongT l c = failT l c 5 := by unfold wrongT; rw [if_pos h0]
   rw [hn]
   refine sy_enterE rfl rfl (fun w => ?_)
   simp only [initFr, curE, List.cons_append, List.nil_append]
   repeat (first | refine yK ?_ | (refine gO ?_; first | (refine gL ?_; refine yL 0 ?_) | refine yF ?_ | (refine sy_box rfl rfl rfl ?_; intro _)))
   refine sy_order [1, 2, 0] rfl rfl ?_
   simp only [List.set_cons_zero, List.set_cons_succ, List.filterMap_cons, List.filterMap_nil, List.getElem?_cons_zero, List.getElem?_cons_succ]
   refine sy_callE (curE cb p q l _) rfl rfl rfl (cur_peek cb p q l c hl hc) ?_
   rintro _ _ ⟨rfl, rfl⟩
   simp only [curE, List.cons_append, List.nil_append]
   repeat (first | refine yK ?_ | (refine gO ?_; first | refine yP ?_ | (refine gL ?_; refine yL 2 ?_) | refine yF ?_ | refine sy_ov (ov_field rfl rfl rfl) rfl rfl ?_) | refine yT ?_)
   refine sy_callE (curE cb p q l _) rfl rfl rfl (cur_fail cb p q l c hl hc 5) ?_
   rintro _ _ ⟨rfl, rfl⟩
   simp only [curE, List.cons_append, List.nil_append]
   repeat (refine yK ?_)
   exact end0w rfl fun w' hw' => postE hw' _ (sub_self (by (try unfold curE); repeat first | exact sr | apply sk | apply sd)) rfl ⟨rfl, rfl⟩
 · have hn : wrongT l c = failT l c 4 := by unfold wrongT; rw [if_neg h0]
   rw [hn]
   refine sy_enterE rfl rfl (fun w => ?_)
   simp only [initFr, curE, List.cons_append, List.nil_append]
   repeat (first | refine yK ?_ | (refine gO ?_; first | (refine gL ?_; refine yL 0 ?_) | refine yF ?_ | (refine sy_box rfl rfl rfl ?_; intro _)))
   refine sy_order [1, 2, 0] rfl rfl ?_
   simp only [List.set_cons_zero, List.set_cons_succ, List.filterMap_cons, List.filterMap_nil, List.getElem?_cons_zero, List.getElem?_cons_succ]
   refine sy_callE (curE cb p q l _) rfl rfl rfl (cur_peek cb p q l c hl hc) ?_
   rintro _ _ ⟨rfl, rfl⟩
   simp only [curE, List.cons_append, List.nil_append]
   repeat (first | refine yK ?_ | (refine gO ?_; first | refine yP ?_ | (refine gL ?_; refine yL 2 ?_) | refine yF ?_ | refine sy_ov (ov_field rfl rfl rfl) rfl rfl ?_) | refine yN ?_)
   refine sy_callE (curE cb p q l _) rfl rfl rfl (cur_fail cb p q l c hl hc 4) ?_
   rintro _ _ ⟨rfl, rfl⟩
   simp only [curE, List.cons_append, List.nil_append]
   repeat (refine yK ?_)
   exact end0w rfl fun w' hw' => postE hw' _ (sub_self (by (try unfold curE); repeat first | exact sr | apply sk | apply sd)) rfl ⟨rfl, rfl⟩
set_option maxRecDepth 20000 in
theorem sx_name (hl : TokOk l) (hc : CurOk l c) : SyCalls 72 [] cb p q l c (.agg ⟨wordV (namW l c)⟩) (namCu l c) := by
 by_cases ht : takT l c 1 = true
 · have h1 : namW l c = ((peekT l c).2.2.2.1, (peekT l c).2.1) := by unfold namW namTk; rw [if_pos ht]
   have h2 : namCu l c = nextT l c := by unfold namCu; rw [if_pos ht]
   rw [h1, h2]
   refine sy_enterE rfl rfl (fun w => ?_)
   simp only [initFr, curE, List.cons_append, List.nil_append]
   repeat (first | refine yK ?_ | (refine gO ?_; first | (refine gL ?_; refine yL 1 ?_) | refine yF ?_ | (refine sy_box rfl rfl rfl ?_; intro _) | (refine yA ?_; intro _)))
   refine sy_order [2, 3, 0, 1] rfl rfl ?_
   simp only [List.set_cons_zero, List.set_cons_succ, List.filterMap_cons, List.filterMap_nil, List.getElem?_cons_zero, List.getElem?_cons_succ]
   refine sy_callE (curE cb p q l _) rfl rfl rfl (cur_take_t cb p q l c hl hc 1 ht) ?_
   rintro _ _ ⟨rfl, rfl⟩
   simp only [curE, List.cons_append, List.nil_append]
   repeat (first | refine yK ?_ | (refine gO ?_; first | refine yP ?_ | (refine gL ?_; refine yL 0 ?_) | (refine gS ?_; first | refine yS 0 ?_ | refine yS 3 ?_) | refine yF ?_ | refine yB ?_ | (refine yA ?_; intro _)) | refine yN ?_ | refine sy_rt ?_)
   exact ret1cw 3 rfl rfl rfl rfl rfl fun w' hw' => postE hw' _ (sub_self (by (try unfold curE); repeat first | exact sr | apply sk | apply sd)) rfl ⟨rfl, rfl⟩
 · have ht : takT l c 1 = false := by simpa using ht
   have h1 : namW l c = ([], 0) := by unfold namW namTk; rw [if_neg (by rw [ht]; decide)]; rfl
   have h2 : namCu l c = wrongT l c := by unfold namCu; rw [if_neg (by rw [ht]; decide)]
   rw [h1, h2]
   refine sy_enterE rfl rfl (fun w => ?_)
   simp only [initFr, curE, List.cons_append, List.nil_append]
   repeat (first | refine yK ?_ | (refine gO ?_; first | (refine gL ?_; refine yL 1 ?_) | refine yF ?_ | (refine sy_box rfl rfl rfl ?_; intro _) | (refine yA ?_; intro _)))
   refine sy_order [2, 3, 0, 1] rfl rfl ?_
   simp only [List.set_cons_zero, List.set_cons_succ, List.filterMap_cons, List.filterMap_nil, List.getElem?_cons_zero, List.getElem?_cons_succ]
   refine sy_callE (curE cb p q l _) rfl rfl rfl (cur_take_f cb p q l c hl hc 1 ht) ?_
   rintro _ _ ⟨rfl, rfl⟩
   simp only [curE, List.cons_append, List.nil_append]
   repeat (first | refine yK ?_ | (refine gO ?_; first | refine yP ?_ | (refine gL ?_; refine yL 4 ?_) | (refine gS ?_; refine yS 0 ?_) | (refine yA ?_; intro _)) | refine yT ?_)
   refine sy_order [1, 2, 0, 3, 4] rfl rfl ?_
   simp only [List.set_cons_zero, List.set_cons_succ, List.filterMap_cons, List.filterMap_nil, List.getElem?_cons_zero, List.getElem?_cons_succ]
   refine sy_callE (curE cb p q l _) rfl rfl rfl (sx_wrong cb p q l c hl hc) ?_
   rintro _ _ ⟨rfl, rfl⟩
   simp only [curE, List.cons_append, List.nil_append]
   repeat (first | refine yK ?_ | (refine gO ?_; first | (refine gL ?_; refine yL 2 ?_) | (refine gS ?_; refine yS 3 ?_) | refine yF ?_ | refine yB ?_) | refine sy_rt ?_)
   exact ret1cw 3 rfl rfl rfl rfl rfl fun w' hw' => postE hw' _ (sub_self (by (try unfold curE); repeat first | exact sr | apply sk | apply sd)) rfl ⟨rfl, rfl⟩
set_option maxRecDepth 20000 in
theorem sx_number (hl : TokOk l) (hc : CurOk l c) : SyCalls 97 [] cb p q l c (.int .i64 (numN l c)) (numCu l c) := by
 by_cases ht : takT l c 2 = true
 · have h1 : numN l c = (peekT l c).2.2.2.2 := by unfold numN; rw [if_pos ht]
   have h2 : numCu l c = nextT l c := by unfold numCu; rw [if_pos ht]
   rw [h1, h2]
   refine sy_enterE rfl rfl (fun w => ?_)
   simp only [initFr, curE, List.cons_append, List.nil_append]
   repeat (first | refine yK ?_ | (refine gO ?_; first | refine yP ?_ | (refine gL ?_; refine yL 0 ?_) | refine yF ?_ | (refine sy_box rfl rfl rfl ?_; intro _)))
   refine sy_order [1, 2, 0] rfl rfl ?_
   simp only [List.set_cons_zero, List.set_cons_succ, List.filterMap_cons, List.filterMap_nil, List.getElem?_cons_zero, List.getElem?_cons_succ]
   refine sy_callE (curE cb p q l _) rfl rfl rfl (cur_take_t cb p q l c hl hc 2 ht) ?_
   rintro _ _ ⟨rfl, rfl⟩
   simp only [curE, List.cons_append, List.nil_append]
   repeat (first | refine yK ?_ | (refine gO ?_; first | refine yP ?_ | (refine gL ?_; refine yL 0 ?_) | (refine gS ?_; refine yS 0 ?_) | refine yF ?_ | (refine yA ?_; intro _)) | refine yN ?_ | refine sy_rt ?_)
   exact ret1w rfl rfl fun w' hw' => postE hw' _ (sub_self (by (try unfold curE); repeat first | exact sr | apply sk | apply sd)) rfl ⟨rfl, rfl⟩
 · have ht : takT l c 2 = false := by simpa using ht
   have h1 : numN l c = 0 := by unfold numN; rw [if_neg (by rw [ht]; decide)]
   have h2 : numCu l c = wrongT l c := by unfold numCu; rw [if_neg (by rw [ht]; decide)]
   rw [h1, h2]
   refine sy_enterE rfl rfl (fun w => ?_)
   simp only [initFr, curE, List.cons_append, List.nil_append]
   repeat (first | refine yK ?_ | (refine gO ?_; first | refine yP ?_ | (refine gL ?_; refine yL 0 ?_) | refine yF ?_ | (refine sy_box rfl rfl rfl ?_; intro _)))
   refine sy_order [1, 2, 0] rfl rfl ?_
   simp only [List.set_cons_zero, List.set_cons_succ, List.filterMap_cons, List.filterMap_nil, List.getElem?_cons_zero, List.getElem?_cons_succ]
   refine sy_callE (curE cb p q l _) rfl rfl rfl (cur_take_f cb p q l c hl hc 2 ht) ?_
   rintro _ _ ⟨rfl, rfl⟩
   simp only [curE, List.cons_append, List.nil_append]
   repeat (first | refine yK ?_ | (refine gO ?_; first | refine yP ?_ | (refine gL ?_; refine yL 3 ?_) | (refine gS ?_; refine yS 0 ?_) | (refine yA ?_; intro _)) | refine yT ?_)
   refine sy_order [1, 2, 0, 3] rfl rfl ?_
   simp only [List.set_cons_zero, List.set_cons_succ, List.filterMap_cons, List.filterMap_nil, List.getElem?_cons_zero, List.getElem?_cons_succ]
   refine sy_callE (curE cb p q l _) rfl rfl rfl (sx_wrong cb p q l c hl hc) ?_
   rintro _ _ ⟨rfl, rfl⟩
   simp only [curE, List.cons_append, List.nil_append]
   repeat (first | refine yK ?_ | (refine gO ?_; first | refine yP ?_ | (refine gL ?_; refine yL 2 ?_) | refine yF ?_) | refine sy_rt ?_)
   exact ret1w rfl rfl fun w' hw' => postE hw' _ (sub_self (by (try unfold curE); repeat first | exact sr | apply sk | apply sd)) rfl ⟨rfl, rfl⟩
set_option maxRecDepth 20000 in
theorem sx_fine : SyCalls 58 [] cb p q l c (.bool (decide (c.e = 0))) c := by
 refine sy_enterE rfl rfl (fun w => ?_)
 simp only [initFr, curE, List.cons_append, List.nil_append]
 repeat (first | refine yK ?_ | (refine gO ?_; first | refine yP ?_ | (refine gL ?_; refine yL 0 ?_) | refine yF ?_ | (refine sy_box rfl rfl rfl ?_; intro _)))
 refine sy_order [1, 2, 0] rfl rfl ?_
 simp only [List.set_cons_zero, List.set_cons_succ, List.filterMap_cons, List.filterMap_nil, List.getElem?_cons_zero, List.getElem?_cons_succ]
 refine sy_callE (curE cb p q l _) rfl rfl rfl (cur_fault cb p q l c) ?_
 rintro _ _ ⟨rfl, rfl⟩
 simp only [curE, List.cons_append, List.nil_append]
 repeat (first | refine yK ?_ | (refine gO ?_; first | refine yP ?_ | refine sy_ov (ov_field rfl rfl rfl) rfl rfl ?_) | refine sy_rt ?_)
 exact ret1w rfl rfl fun w' hw' => postE hw' _ (sub_self (by (try unfold curE); repeat first | exact sr | apply sk | apply sd)) rfl ⟨rfl, rfl⟩
set_option maxRecDepth 20000 in
theorem sx_number1 (hl : TokOk l) (hc : CurOk l c) : SyCalls 98 [] cb p q l c (.int .i64 (num1P l c).1) (num1P l c).2 := by
 have a1 := Adv.need hl hc [40] (by simp)
 have a2 := Adv.num hl a1.ok
 unfold num1P
 refine sy_enterE rfl rfl (fun w => ?_)
 simp only [initFr, curE, List.cons_append, List.nil_append]
 repeat (first | refine yK ?_ | (refine gO ?_; first | refine yP ?_ | (refine gL ?_; refine yL 0 ?_) | refine yF ?_ | (refine sy_box rfl rfl rfl ?_; intro _)))
 refine sy_order [1, 2, 0] rfl rfl ?_
 simp only [List.set_cons_zero, List.set_cons_succ, List.filterMap_cons, List.filterMap_nil, List.getElem?_cons_zero, List.getElem?_cons_succ]
 refine sy_callE (curE cb p q l _) rfl rfl rfl (cur_need cb p q l c hl hc [40]) ?_
 rintro _ _ ⟨rfl, rfl⟩
 simp only [curE, List.cons_append, List.nil_append]
 repeat (first | refine yK ?_ | (refine gO ?_; (refine gL ?_; refine yL 2 ?_)))
 refine sy_callE (curE cb p q l _) rfl rfl rfl (sx_number cb p q l _ hl a1.ok) ?_
 rintro _ _ ⟨rfl, rfl⟩
 simp only [curE, List.cons_append, List.nil_append]
 repeat (first | refine yK ?_ | (refine gO ?_; first | refine yP ?_ | (refine gL ?_; refine yL 2 ?_) | refine yF ?_))
 refine sy_callE (curE cb p q l _) rfl rfl rfl (cur_need cb p q l _ hl a2.ok [41]) ?_
 rintro _ _ ⟨rfl, rfl⟩
 simp only [curE, List.cons_append, List.nil_append]
 repeat (first | refine yK ?_ | (refine gO ?_; refine yP ?_) | refine sy_rt ?_)
 exact ret1w rfl rfl fun w' hw' => postE hw' _ (sub_self (by (try unfold curE); repeat first | exact sr | apply sk | apply sd)) rfl ⟨rfl, rfl⟩
end
end Go.Proofs.YtldjakeigjngoaaGreat
/- Contracts of the types' readers: labels; rows of elements. -/
namespace Go.Proofs.YtldjakeigjngoaaGreat
open Go.RowKit Bf
theorem sy_blkRow {P : Program} {C : Cx} {k : List It} {fr : Fr} {hp : List En} (i : Nat) {g : Nat} {e : TypeId} {size n : Nat} {cs : List Value} (hi : hp[i]? = some (blk g e cs)) (hc : cs.length = n * size) (hm : n ≤ maxLen) (h : Sy P C k fr (hp.set i (vec e size (.slice (some ⟨g, 0, none⟩) n n) n cs))) : Sy P C k fr hp :=
 .mk fun a w ha hw => h.go a w ha (by
  have hi' : hp[i]? = some (blk g e (cs ++ [])) := by rw [List.append_nil]; exact hi
  exact hw.blkVec hi' (Nat.le_refl n) hm (by rw [List.append_nil]; exact hc) hc)
structure LabSt where
 c : CurT
 ys : List WordT
 p : Option Addr
 q : Nat
def wsRow (ys : List WordT) (p : Option Addr) (q : Nat) : En := vec 36 2 (.slice p ys.length q) ys.length (ys.flatMap wordV)
def labH (cb : Nat) (p : Option Addr) (q : Nat) (l : List TokT) (b : Nat) (s : LabSt) : List En := curE cb p q l s.c ++ [wsRow s.ys s.p s.q, blk b 71 [ptr cb]]
def labI (l : List TokT) (R : List WordT × CurT) (s : LabSt) : Prop := CurOk l s.c ∧ s.ys.length ≤ s.c.i.toNat + 1 ∧ ∃ n, (s.c.e = 0 → l.length ≤ s.c.i.toNat + n) ∧ labGo l n s.c s.ys = R
theorem words_snoc (ys : List WordT) (w : WordT) : (ys ++ [w]).flatMap wordV = ys.flatMap wordV ++ wordV w := by simp
section
variable (cb : Nat) (p : Option Addr) (q : Nat) (l : List TokT) (c : CurT)
set_option maxRecDepth 20000 in
set_option maxHeartbeats 1000000 in
theorem sx_label (hl : TokOk l) (hc : CurOk l c) : CallsE Tryz.prog 136 [prs cb] (curE cb p q l c) fun u es' => ∃ x : WsA, u = wsV x ∧ x.l = (labP l c).1 ∧ es' = curE cb p q l (labP l c).2 ++ [wsE x] := by
 have a1 := Adv.nam hl hc
 have i0 := a1.ok.i0
 have hbig := hl.big
 obtain ⟨R, hR⟩ : ∃ R, labP l c = R := ⟨_, rfl⟩
 rw [hR]
 refine sy_enterE rfl rfl (fun w => ?_)
 simp only [initFr, curE, List.cons_append, List.nil_append]
 repeat (first | refine yK ?_ | (refine gO ?_; first | refine yP ?_ | (refine gL ?_; refine yL 0 ?_) | (refine sy_box rfl rfl rfl ?_; intro _)))
 rename_i b
 refine sy_order [1, 2, 0] rfl rfl ?_
 simp only [List.set_cons_zero, List.set_cons_succ, List.filterMap_cons, List.filterMap_nil, List.getElem?_cons_zero, List.getElem?_cons_succ]
 refine sy_callE (curE cb p q l _) rfl rfl rfl (sx_name cb p q l c hl hc) ?_
 rintro _ _ ⟨rfl, rfl⟩
 simp only [curE, List.cons_append, List.nil_append]
 refine sy_buildSlice rfl rfl rfl rfl rfl rfl rfl rfl ?_
 intro g
 refine sy_blkRow (n := 1) (size := 2) 0 rfl rfl (by decide) ?_
 refine sy_order [1, 2, 0, 3] rfl rfl ?_
 simp only [List.set_cons_zero, List.set_cons_succ, List.filterMap_cons, List.filterMap_nil, List.getElem?_cons_zero, List.getElem?_cons_succ]
 repeat (first | refine yK ?_ | (refine gO ?_; refine yP ?_))
 refine sy_loop (α := LabSt) (fun s => [(1, ptr b), (3, .slice s.p s.ys.length s.q)]) (labH cb p q l b) (labI l R) (fun s => l.length - s.c.i.toNat) ⟨namCu l c, [namW l c], some ⟨g, 0, none⟩, 1⟩ ⟨a1.ok, by simp, l.length, fun _ => by omega, hR⟩ ⟨⟨_, rfl, rfl⟩, ⟨_, rfl, rfl⟩, trivial⟩ (by simp only [labH, wsRow, curE, List.cons_append, List.nil_append]; exact sr) ?_
 rintro ⟨c', ys, pk, ck⟩ ⟨hci, hlen, n, hn, hr⟩
 simp only at hci hlen hn hr
 simp only [labH, wsRow, curE, List.cons_append, List.nil_append]
 have hmark := cur_mark cb p q l c' hl hci [43]
 have ci0 := hci.i0
 have ci1 := hci.i1
 by_cases hb : isT l c' 4 [43] = true
 · have h3 : goT l c' true = nextT l c' := if_pos rfl
   rw [hb, h3] at hmark
   have b1 := Adv.next hl hci
   have b2 := b1.trans (Adv.nam hl b1.ok)
   obtain ⟨e0, en, _⟩ := next_lt hl hci hb (by decide)
   have bi := (Adv.nam hl b1.ok).i
   rw [en] at bi
   simp only at bi
   obtain ⟨n, rfl⟩ : ∃ k, n = k + 1 := ⟨n - 1, by have := hn e0; omega⟩
   have hr' : labGo l n (namCu l (nextT l c')) (ys ++ [namW l (nextT l c')]) = R := by
    rw [← hr]; conv => rhs; unfold labGo
    rw [if_pos hb]
   have hi' : (namCu l (nextT l c')).i.toNat ≥ c'.i.toNat + 1 := by rw [en]; omega
   have hb2 := b2.ok.i1
   repeat (first | refine yK ?_ | (refine gO ?_; first | (refine gL ?_; refine yL 3 ?_) | refine yF ?_))
   refine sy_callE (curE cb p q l _) rfl rfl rfl (hmark) ?_
   rintro _ _ ⟨rfl, rfl⟩
   simp only [curE, List.cons_append, List.nil_append]
   repeat (first | refine yK ?_ | (refine gO ?_; first | refine yP ?_ | (refine gL ?_; refine yL 3 ?_)) | refine yT ?_)
   refine sy_callE (curE cb p q l _) rfl rfl rfl (sx_name cb p q l _ hl b1.ok) ?_
   rintro _ _ ⟨rfl, rfl⟩
   simp only [curE, List.cons_append, List.nil_append]
   refine sy_buildSlice rfl rfl rfl rfl rfl rfl rfl rfl ?_
   intro g2
   refine sy_append 3 0 rfl rfl rfl rfl rfl rfl rfl rfl rfl rfl rfl (by omega) (by show (_ + 1) * 24 ≤ _; omega) ?_
   intro pn qn
   refine sy_order [1, 2, 3, 4, 0] rfl rfl ?_
   simp only [List.set_cons_zero, List.set_cons_succ, List.filterMap_cons, List.filterMap_nil, List.getElem?_cons_zero, List.getElem?_cons_succ]
   repeat (first | refine yK ?_ | (refine gO ?_; refine yP ?_))
   refine sy_back ⟨namCu l (nextT l c'), ys ++ [namW l (nextT l c')], some pn, qn⟩ ⟨b2.ok, by simp only [List.length_append, List.length_singleton]; omega, n, fun he => by have := hn e0; simp only; omega, hr'⟩ (by simp only; omega) ⟨⟨_, rfl, rfl⟩, ⟨_, rfl, by simp only [List.length_append, List.length_singleton]⟩, trivial⟩ (by simp only [labH, wsRow, curE, List.cons_append, List.nil_append, words_snoc, List.length_append, List.length_singleton]; exact sk (sk (sk (sk (List.nil_sublist _)))))
 · have hb : isT l c' 4 [43] = false := by simpa using hb
   have h3 : goT l c' false = c' := rfl
   rw [hb, h3] at hmark
   have hr' : (ys, c') = R := by
    rw [← hr]
    cases n with
    | zero => rfl
    | succ n => unfold labGo; rw [hb, if_neg (by decide)]
   subst hr'
   repeat (first | refine yK ?_ | (refine gO ?_; first | (refine gL ?_; refine yL 3 ?_) | refine yF ?_))
   refine sy_callE (curE cb p q l _) rfl rfl rfl (hmark) ?_
   rintro _ _ ⟨rfl, rfl⟩
   simp only [curE, List.cons_append, List.nil_append]
   refine sy_order [2, 0, 1, 3] rfl rfl ?_
   simp only [List.set_cons_zero, List.set_cons_succ, List.filterMap_cons, List.filterMap_nil, List.getElem?_cons_zero, List.getElem?_cons_succ]
   refine sy_wsMk ?_
   refine sy_order [1, 2, 0, 3] rfl rfl ?_
   simp only [List.set_cons_zero, List.set_cons_succ, List.filterMap_cons, List.filterMap_nil, List.getElem?_cons_zero, List.getElem?_cons_succ]
   repeat (first | refine yK ?_ | (refine gO ?_; refine yP ?_) | refine yN ?_ | refine sy_rt ?_)
   exact ret1w rfl rfl fun w' hw' => postE hw' _ (sub_self (sk (sk (sk (List.nil_sublist _))))) rfl ⟨⟨pk, ck, ys⟩, rfl, rfl, rfl⟩
end
end Go.Proofs.YtldjakeigjngoaaGreat
/- Contract of the types' readers: a row of elements, each read by a function that is handed in. -/
namespace Go.Proofs.YtldjakeigjngoaaGreat
open Go.RowKit Bf
section
variable {P : Program} {C : Cx} {k : List It} {fr : Fr}
theorem sy_out1 {a b c : En} {r : List En} (h : Sy P C k fr (a :: b :: c :: r)) : Sy P C k fr (c :: a :: b :: r) :=
 sy_perm (((List.Perm.swap c b r).cons a).trans (List.Perm.swap c a (b :: r))) h
theorem sy_last {a b c : En} {r : List En} (h : Sy P C k fr (a :: b :: (r ++ [c]))) : Sy P C k fr (a :: b :: c :: r) :=
 sy_perm (List.Perm.cons a (List.Perm.cons b (List.perm_append_singleton c r))) h
theorem sy_unlast {a b c : En} {r : List En} (h : Sy P C k fr (a :: b :: c :: r)) : Sy P C k fr (a :: b :: (r ++ [c])) :=
 sy_perm (List.Perm.cons a (List.Perm.cons b (List.perm_append_singleton c r).symm)) h
end
structure LstSt (σ : Type) where
 c : CurT
 x : σ
def lstH {σ : Type} (H : σ → List En) (cb : Nat) (p : Option Addr) (q : Nat) (l : List TokT) (b : Nat) (s : LstSt σ) : List En := curE cb p q l s.c ++ (H s.x ++ [blk b 71 [ptr cb]])
def lstI {α σ : Type} (l : List TokT) (d : Int) (one : CurT → α → α × CurT) (e : List UInt8) (pl : σ → α) (sz : σ → Nat) (R : α × CurT) (s : LstSt σ) : Prop :=
 CurOk l s.c ∧ s.c.d = d ∧ (s.c.e = 0 → sz s.x ≤ s.c.i.toNat) ∧ ∃ n, (s.c.e = 0 → l.length < s.c.i.toNat + n) ∧ (s.c.e ≠ 0 → 1 ≤ n) ∧ lstGo l one e n s.c (pl s.x) = R
section
variable (cb : Nat) (p : Option Addr) (q : Nat) (l : List TokT) (c : CurT)
theorem lstGo_bad {α : Type} {l : List TokT} {one : CurT → α → α × CurT} {e : List UInt8} {c : CurT} (h : c.e ≠ 0) : ∀ (n : Nat) (y : α), lstGo l one e n c y = (y, c)
 | 0, y => rfl
 | n + 1, y => by unfold lstGo; rw [if_pos h]
theorem need_good {c : CurT} {t : List UInt8} (h : (needT l c t).e = 0) : c.e = 0 ∧ needT l c t = ⟨c.i + 1, c.d, c.e, c.a⟩ := by
 have hm : isT l c 4 t = true := by
  apply Classical.byContradiction; intro hn
  unfold needT at h
  rw [if_neg hn] at h
  have hf0 : c.e = 0 := by
   apply Classical.byContradiction; intro hx
   unfold failT failAtT at h; rw [if_neg (fun h => hx h.1)] at h; exact hx h
  unfold failT failAtT at h
  rw [if_pos ⟨hf0, by split <;> decide⟩] at h
  simp only at h
  split at h <;> omega
 have hp : (peekT l c).1 = 4 := by unfold isT at hm; simp only [Bool.and_eq_true, decide_eq_true_eq] at hm; exact hm.1
 have he : c.e = 0 := by
  apply Classical.byContradiction; intro hn
  rw [peekT_bad l c hn] at hp; simp at hp
 refine ⟨he, ?_⟩
 unfold needT; rw [if_pos hm]
 unfold nextT; rw [if_neg (by rw [hp]; decide)]
def OneSpec {α σ : Type} (f : FuncId) (args : List Value) (d : Int) (one : CurT → α → α × CurT) (pl : σ → α) (sz : σ → Nat) (H : σ → List En) : Prop :=
 ∀ c' x, CurOk l c' → c'.d = d → c'.e = 0 → sz x ≤ c'.i.toNat → CallsE Tryz.prog f args (curE cb p q l c' ++ H x) fun u es' => u = .tuple #[] ∧ ∃ x', pl x' = (one c' (pl x)).1 ∧ sz x' ≤ (one c' (pl x)).2.i.toNat + 1 ∧ es' = curE cb p q l (one c' (pl x)).2 ++ H x'
set_option maxRecDepth 20000 in
set_option maxHeartbeats 2000000 in
theorem sx_list {α σ : Type} (e : List UInt8) (none : Bool) {f : FuncId} {fn : Func} [FN Tryz.prog f fn] (first caps : List Value) (d : Int) (one : CurT → α → α × CurT) (pl : σ → α) (sz : σ → Nat) (H : σ → List En)
 (ho : ∀ c' y, CurOk l c' → c'.d = d → Adv l c' (one c' y).2) (hone : OneSpec cb p q l f (first ++ caps) d one pl sz H)
 (hl : TokOk l) (hc : CurOk l c) (hd : c.d = d) (x0 : σ) (hsz : c.e = 0 → sz x0 ≤ c.i.toNat) :
 CallsE Tryz.prog 70 [prs cb, S e, .bool none, .func (.func f) ⟨first⟩ ⟨caps⟩] (curE cb p q l c ++ H x0) fun u es' => u = .tuple #[] ∧ ∃ x', pl x' = (lstP l one e none c (pl x0)).1 ∧ es' = curE cb p q l (lstP l one e none c (pl x0)).2 ++ H x' := by
 obtain ⟨R, hR⟩ : ∃ R, lstP l one e none c (pl x0) = R := ⟨_, rfl⟩
 rw [hR]
 have i1 := hc.i1
 have i0 := hc.i0
 have hmark0 := cur_mark cb p q l c hl hc e
 by_cases hb : none = true ∧ isT l c 4 e = true
 · obtain ⟨rfl, hb⟩ := hb
   have h3 : goT l c true = nextT l c := if_pos rfl
   rw [hb, h3] at hmark0
   have hr : R = (pl x0, nextT l c) := by rw [← hR]; unfold lstP; rw [if_pos ⟨rfl, hb⟩]
   subst hr
   refine sy_enterE rfl rfl (fun w => ?_)
   simp only [initFr, curE, List.cons_append, List.nil_append]
   repeat (first | refine yK ?_ | (refine gO ?_; first | refine yP ?_ | (refine gG ?_; refine yG ?_) | (refine gL ?_; refine yL 0 ?_) | refine yF ?_ | (refine sy_box rfl rfl rfl ?_; intro _)))
   refine sy_out1 ?_
   refine sy_callE (curE cb p q l _) rfl rfl rfl (hmark0) ?_
   rintro _ _ ⟨rfl, rfl⟩
   simp only [curE, List.cons_append, List.nil_append]
   repeat (first | refine yK ?_ | (refine gO ?_; refine yM ?_) | refine yT ?_ | refine sy_rt ?_)
   exact ret0w rfl fun w' hw' => postE hw' _ (sub_self (sk (sk (sd sr)))) rfl ⟨rfl, x0, rfl, rfl⟩
 · have hr : lstGo l one e (l.length + 1) c (pl x0) = R := by rw [← hR]; unfold lstP; rw [if_neg hb]
   have hstart : lstI l d one e pl sz R ⟨c, x0⟩ := ⟨hc, hd, hsz, l.length + 1, fun _ => by simp only; omega, fun _ => by omega, hr⟩
   cases none with
   | false =>
    refine sy_enterE rfl rfl (fun w => ?_)
    simp only [initFr, curE, List.cons_append, List.nil_append]
    repeat (first | refine yK ?_ | (refine gO ?_; first | refine yP ?_ | (refine gG ?_; refine yH ?_) | refine sy_ov (ov_pick rfl rfl rfl) rfl rfl ?_ | (refine sy_box rfl rfl rfl ?_; intro _)) | refine yN ?_)
    rename_i b
    refine sy_out1 ?_
    refine sy_last ?_
    refine sy_loop (α := LstSt σ) (fun _ => [(1, S e), (3, .func (.func f) ⟨first⟩ ⟨caps⟩), (4, ptr b)]) (lstH H cb p q l b) (lstI l d one e pl sz R) (fun s => if s.c.e = 0 then l.length - s.c.i.toNat + 1 else 0) ⟨c, x0⟩ hstart ⟨⟨_, rfl, rfl⟩, ⟨_, rfl, rfl⟩, ⟨_, rfl, rfl⟩, trivial⟩ (by simp only [lstH, curE, List.cons_append, List.nil_append]; exact sr) ?_
    rintro ⟨c', x⟩ ⟨hci, hdi, hszi, n, hn1, hn2, hri⟩
    simp only at hci hdi hszi hn1 hn2 hri
    simp only [lstH, curE, List.cons_append, List.nil_append]
    have ci0 := hci.i0
    have ci1 := hci.i1
    refine sy_unlast ?_
    by_cases he : c'.e = 0
    · obtain ⟨n, rfl⟩ : ∃ k, n = k + 1 := ⟨n - 1, by have := hn1 he; omega⟩
      have a1 := ho c' (pl x) hci hdi
      have b0 := a1.ok.i0
      have b1 := a1.ok.i1
      have bi := a1.i
      have hmark := cur_mark cb p q l _ hl a1.ok e
      have hspec := hone c' x hci hdi he (hszi he)
      have hstep : lstGo l one e (n + 1) c' (pl x) = if isT l (one c' (pl x)).2 4 e = true then ((one c' (pl x)).1, nextT l (one c' (pl x)).2) else lstGo l one e n (needT l (one c' (pl x)).2 [44]) (one c' (pl x)).1 := by
       conv => lhs; unfold lstGo
       rw [if_neg (fun hn => hn he)]
      rw [hri] at hstep
      repeat (first | refine yK ?_ | (refine gO ?_; (refine gL ?_; refine yL 2 ?_)))
      refine sy_callE (curE cb p q l _) rfl rfl rfl (sx_fine cb p q l c') ?_
      rintro _ _ ⟨rfl, rfl⟩
      simp only [curE, List.cons_append, List.nil_append]
      have hdec : decide (c'.e = 0) = true := by simpa using he
      rw [hdec]
      repeat (first | refine yK ?_ | (refine gO ?_; refine yP ?_) | refine yT ?_)
      refine sy_last ?_
      refine sy_callET (curE cb p q l c' ++ H x) (rest := [blk b 71 [ptr cb]]) rfl rfl (by simp) rfl (by simp only [curE, List.cons_append, List.nil_append]) hspec ?_
      rintro _ _ ⟨rfl, x', hx', hs', rfl⟩
      simp only [curE, List.cons_append, List.nil_append]
      refine sy_unlast ?_
      by_cases hb2 : isT l (one c' (pl x)).2 4 e = true
      · have h3 : goT l (one c' (pl x)).2 true = nextT l (one c' (pl x)).2 := if_pos rfl
        rw [hb2, h3] at hmark
        rw [if_pos hb2] at hstep
        subst hstep
        repeat (first | refine yK ?_ | (refine gO ?_; first | refine yP ?_ | (refine gL ?_; refine yL 2 ?_) | refine yF ?_))
        refine sy_callE (curE cb p q l _) rfl rfl rfl (hmark) ?_
        rintro _ _ ⟨rfl, rfl⟩
        simp only [curE, List.cons_append, List.nil_append]
        repeat (first | refine yK ?_ | refine yT ?_ | refine sy_rt ?_)
        exact ret0w rfl fun w' hw' => postE hw' _ (sub_self (sk (sk (sd sr)))) rfl ⟨rfl, x', hx', rfl⟩
      · have hb2 : isT l (one c' (pl x)).2 4 e = false := by simpa using hb2
        have h3 : goT l (one c' (pl x)).2 false = (one c' (pl x)).2 := rfl
        rw [hb2, h3] at hmark
        rw [hb2, if_neg (by decide)] at hstep
        have a2 := Adv.need hl a1.ok [44] (by simp)
        have h44 := cur_need cb p q l _ hl a1.ok [44]
        have a2i := a2.ok.i0
        have a2j := a2.ok.i1
        have hg : (needT l (one c' (pl x)).2 [44]).e = 0 → (needT l (one c' (pl x)).2 [44]).i = (one c' (pl x)).2.i + 1 := fun h => by rw [(need_good l h).2]
        repeat (first | refine yK ?_ | (refine gO ?_; first | refine yP ?_ | (refine gL ?_; refine yL 2 ?_) | refine yF ?_))
        refine sy_callE (curE cb p q l _) rfl rfl rfl (hmark) ?_
        rintro _ _ ⟨rfl, rfl⟩
        simp only [curE, List.cons_append, List.nil_append]
        repeat (first | refine yK ?_ | (refine gO ?_; first | (refine gL ?_; refine yL 2 ?_) | refine yF ?_) | refine yN ?_)
        refine sy_callE (curE cb p q l _) rfl rfl rfl (h44) ?_
        rintro _ _ ⟨rfl, rfl⟩
        simp only [curE, List.cons_append, List.nil_append]
        repeat (refine yK ?_)
        refine sy_last ?_
        refine sy_back ⟨needT l (one c' (pl x)).2 [44], x'⟩ ⟨a2.ok, (a1.trans a2).d.trans hdi, fun h => by have := hg h; simp only; omega, (if (needT l (one c' (pl x)).2 [44]).e = 0 then n else n + 1), ?_, ?_, ?_⟩ ?_ ⟨⟨_, rfl, rfl⟩, ⟨_, rfl, rfl⟩, ⟨_, rfl, rfl⟩, trivial⟩ (by simp only [lstH, curE, List.cons_append, List.nil_append]; exact sr)
        · intro h; have := hg h; have := hn1 he; simp only at h ⊢; rw [if_pos h]; omega
        · intro h; simp only at h ⊢; rw [if_neg h]; omega
        · simp only
          rw [hstep, hx']
          split
          · rfl
          · rename_i h
            rw [lstGo_bad h, lstGo_bad h]
        · simp only
          rw [if_pos he]
          split
          · rename_i h; have := hg h; omega
          · omega
    · have hstep : (pl x, c') = R := by
       rw [← hri]
       cases n with
       | zero => rfl
       | succ n => unfold lstGo; rw [if_pos he]
      subst hstep
      repeat (first | refine yK ?_ | (refine gO ?_; (refine gL ?_; refine yL 2 ?_)))
      refine sy_callE (curE cb p q l _) rfl rfl rfl (sx_fine cb p q l c') ?_
      rintro _ _ ⟨rfl, rfl⟩
      simp only [curE, List.cons_append, List.nil_append]
      have hdec : decide (c'.e = 0) = false := by simpa using he
      rw [hdec]
      repeat (first | refine yK ?_ | refine yN ?_)
      exact end0w rfl fun w' hw' => postE hw' _ (sub_self (sk (sk (sd sr)))) rfl ⟨rfl, x, rfl, rfl⟩
   | true =>
    have hb : isT l c 4 e = false := by simpa using hb
    have h3 : goT l c false = c := rfl
    rw [hb, h3] at hmark0
    refine sy_enterE rfl rfl (fun w => ?_)
    simp only [initFr, curE, List.cons_append, List.nil_append]
    repeat (first | refine yK ?_ | (refine gO ?_; first | refine yP ?_ | (refine gG ?_; refine yG ?_) | (refine gL ?_; refine yL 0 ?_) | refine yF ?_ | (refine sy_box rfl rfl rfl ?_; intro _)))
    rename_i b
    refine sy_out1 ?_
    refine sy_callE (curE cb p q l _) rfl rfl rfl (hmark0) ?_
    rintro _ _ ⟨rfl, rfl⟩
    simp only [curE, List.cons_append, List.nil_append]
    repeat (first | refine yK ?_ | (refine gO ?_; refine yM ?_) | refine yN ?_)
    refine sy_last ?_
    refine sy_loop (α := LstSt σ) (fun _ => [(1, S e), (3, .func (.func f) ⟨first⟩ ⟨caps⟩), (4, ptr b)]) (lstH H cb p q l b) (lstI l d one e pl sz R) (fun s => if s.c.e = 0 then l.length - s.c.i.toNat + 1 else 0) ⟨c, x0⟩ hstart ⟨⟨_, rfl, rfl⟩, ⟨_, rfl, rfl⟩, ⟨_, rfl, rfl⟩, trivial⟩ (by simp only [lstH, curE, List.cons_append, List.nil_append]; exact sr) ?_
    rintro ⟨c', x⟩ ⟨hci, hdi, hszi, n, hn1, hn2, hri⟩
    simp only at hci hdi hszi hn1 hn2 hri
    simp only [lstH, curE, List.cons_append, List.nil_append]
    have ci0 := hci.i0
    have ci1 := hci.i1
    refine sy_unlast ?_
    by_cases he : c'.e = 0
    · obtain ⟨n, rfl⟩ : ∃ k, n = k + 1 := ⟨n - 1, by have := hn1 he; omega⟩
      have a1 := ho c' (pl x) hci hdi
      have b0 := a1.ok.i0
      have b1 := a1.ok.i1
      have bi := a1.i
      have hmark := cur_mark cb p q l _ hl a1.ok e
      have hspec := hone c' x hci hdi he (hszi he)
      have hstep : lstGo l one e (n + 1) c' (pl x) = if isT l (one c' (pl x)).2 4 e = true then ((one c' (pl x)).1, nextT l (one c' (pl x)).2) else lstGo l one e n (needT l (one c' (pl x)).2 [44]) (one c' (pl x)).1 := by
       conv => lhs; unfold lstGo
       rw [if_neg (fun hn => hn he)]
      rw [hri] at hstep
      repeat (first | refine yK ?_ | (refine gO ?_; (refine gL ?_; refine yL 2 ?_)))
      refine sy_callE (curE cb p q l _) rfl rfl rfl (sx_fine cb p q l c') ?_
      rintro _ _ ⟨rfl, rfl⟩
      simp only [curE, List.cons_append, List.nil_append]
      have hdec : decide (c'.e = 0) = true := by simpa using he
      rw [hdec]
      repeat (first | refine yK ?_ | (refine gO ?_; refine yP ?_) | refine yT ?_)
      refine sy_last ?_
      refine sy_callET (curE cb p q l c' ++ H x) (rest := [blk b 71 [ptr cb]]) rfl rfl (by simp) rfl (by simp only [curE, List.cons_append, List.nil_append]) hspec ?_
      rintro _ _ ⟨rfl, x', hx', hs', rfl⟩
      simp only [curE, List.cons_append, List.nil_append]
      refine sy_unlast ?_
      by_cases hb2 : isT l (one c' (pl x)).2 4 e = true
      · have h3 : goT l (one c' (pl x)).2 true = nextT l (one c' (pl x)).2 := if_pos rfl
        rw [hb2, h3] at hmark
        rw [if_pos hb2] at hstep
        subst hstep
        repeat (first | refine yK ?_ | (refine gO ?_; first | refine yP ?_ | (refine gL ?_; refine yL 2 ?_) | refine yF ?_))
        refine sy_callE (curE cb p q l _) rfl rfl rfl (hmark) ?_
        rintro _ _ ⟨rfl, rfl⟩
        simp only [curE, List.cons_append, List.nil_append]
        repeat (first | refine yK ?_ | refine yT ?_ | refine sy_rt ?_)
        exact ret0w rfl fun w' hw' => postE hw' _ (sub_self (sk (sk (sd sr)))) rfl ⟨rfl, x', hx', rfl⟩
      · have hb2 : isT l (one c' (pl x)).2 4 e = false := by simpa using hb2
        have h3 : goT l (one c' (pl x)).2 false = (one c' (pl x)).2 := rfl
        rw [hb2, h3] at hmark
        rw [hb2, if_neg (by decide)] at hstep
        have a2 := Adv.need hl a1.ok [44] (by simp)
        have h44 := cur_need cb p q l _ hl a1.ok [44]
        have a2i := a2.ok.i0
        have a2j := a2.ok.i1
        have hg : (needT l (one c' (pl x)).2 [44]).e = 0 → (needT l (one c' (pl x)).2 [44]).i = (one c' (pl x)).2.i + 1 := fun h => by rw [(need_good l h).2]
        repeat (first | refine yK ?_ | (refine gO ?_; first | refine yP ?_ | (refine gL ?_; refine yL 2 ?_) | refine yF ?_))
        refine sy_callE (curE cb p q l _) rfl rfl rfl (hmark) ?_
        rintro _ _ ⟨rfl, rfl⟩
        simp only [curE, List.cons_append, List.nil_append]
        repeat (first | refine yK ?_ | (refine gO ?_; first | (refine gL ?_; refine yL 2 ?_) | refine yF ?_) | refine yN ?_)
        refine sy_callE (curE cb p q l _) rfl rfl rfl (h44) ?_
        rintro _ _ ⟨rfl, rfl⟩
        simp only [curE, List.cons_append, List.nil_append]
        repeat (refine yK ?_)
        refine sy_last ?_
        refine sy_back ⟨needT l (one c' (pl x)).2 [44], x'⟩ ⟨a2.ok, (a1.trans a2).d.trans hdi, fun h => by have := hg h; simp only; omega, (if (needT l (one c' (pl x)).2 [44]).e = 0 then n else n + 1), ?_, ?_, ?_⟩ ?_ ⟨⟨_, rfl, rfl⟩, ⟨_, rfl, rfl⟩, ⟨_, rfl, rfl⟩, trivial⟩ (by simp only [lstH, curE, List.cons_append, List.nil_append]; exact sr)
        · intro h; have := hg h; have := hn1 he; simp only at h ⊢; rw [if_pos h]; omega
        · intro h; simp only at h ⊢; rw [if_neg h]; omega
        · simp only
          rw [hstep, hx']
          split
          · rfl
          · rename_i h
            rw [lstGo_bad h, lstGo_bad h]
        · simp only
          rw [if_pos he]
          split
          · rename_i h; have := hg h; omega
          · omega
    · have hstep : (pl x, c') = R := by
       rw [← hri]
       cases n with
       | zero => rfl
       | succ n => unfold lstGo; rw [if_pos he]
      subst hstep
      repeat (first | refine yK ?_ | (refine gO ?_; (refine gL ?_; refine yL 2 ?_)))
      refine sy_callE (curE cb p q l _) rfl rfl rfl (sx_fine cb p q l c') ?_
      rintro _ _ ⟨rfl, rfl⟩
      simp only [curE, List.cons_append, List.nil_append]
      have hdec : decide (c'.e = 0) = false := by simpa using he
      rw [hdec]
      repeat (first | refine yK ?_ | refine yN ?_)
      exact end0w rfl fun w' hw' => postE hw' _ (sub_self (sk (sk (sd sr)))) rfl ⟨rfl, x, rfl, rfl⟩
end
end Go.Proofs.YtldjakeigjngoaaGreat
/- Contracts of the types' readers: what others may see of a part; what stands behind a part's type. -/
namespace Go.Proofs.YtldjakeigjngoaaGreat
open Go.RowKit Bf
def coV (k n a : Int) (x : WsA) : List Value := [.int .i64 k, .int .i64 n, .int .i64 a, wsV x]
section
variable (cb : Nat) (p : Option Addr) (q : Nat) (l : List TokT) (c : CurT)
set_option maxRecDepth 20000 in
set_option maxHeartbeats 4000000 in
theorem sx_coarse (hl : TokOk l) (hc : CurOk l c) : CallsE Tryz.prog 137 [prs cb] (curE cb p q l c) fun u es' => ∃ k n a x, u = .agg ⟨coV k n a x⟩ ∧ (k, n, a, x.l) = (coP l c).1 ∧ es' = curE cb p q l (coP l c).2 ++ [wsE x] := by
 have w1 := cur_word cb p q l c hl hc wFloor
 have w2 := cur_word cb p q l c hl hc wFirst
 have w3 := cur_word cb p q l c hl hc wCount
 have gt : goT l c true = nextT l c := if_pos rfl
 have gf : goT l c false = c := rfl
 have an1 := Adv.next hl hc
 have am := Adv.num1 hl an1.ok
 by_cases c1 : isT l c 1 wFloor = true
 · have hk : coK l c = (1, (num1P l (nextT l c)).1, (num1P l (nextT l c)).2) := by unfold coK; rw [if_pos c1]
   rw [c1, gt] at w1
   by_cases h64 : isT l (num1P l (nextT l c)).2 4 [64] = true
   · have hR : coP l c = ((1, (num1P l (nextT l c)).1, (peekT l c).2.1, (labP l (nextT l (num1P l (nextT l c)).2)).1), (labP l (nextT l (num1P l (nextT l c)).2)).2) := by
      unfold coP atL; rw [hk]; simp only; rw [if_pos h64]
     rw [hR]
     have hm := cur_mark cb p q l (num1P l (nextT l c)).2 hl am.ok [64]
     rw [h64, show goT l (num1P l (nextT l c)).2 true = nextT l (num1P l (nextT l c)).2 from if_pos rfl] at hm
     have an := Adv.next hl am.ok
     refine sy_enterE rfl rfl (fun w => ?_)
     simp only [initFr, curE, List.cons_append, List.nil_append]
     repeat (first | refine yK ?_ | (refine gO ?_; first | (refine gL ?_; refine yL 1 ?_) | refine yF ?_ | (refine sy_box rfl rfl rfl ?_; intro _) | (refine yA ?_; intro _)))
     refine sy_order [2, 3, 0, 1] rfl rfl ?_
     simp only [List.set_cons_zero, List.set_cons_succ, List.filterMap_cons, List.filterMap_nil, List.getElem?_cons_zero, List.getElem?_cons_succ]
     refine sy_callE (curE cb p q l _) rfl rfl rfl (cur_peek cb p q l c hl hc) ?_
     rintro _ _ ⟨rfl, rfl⟩
     simp only [curE, List.cons_append, List.nil_append]
     repeat (first | refine yK ?_ | (refine gO ?_; first | (refine gL ?_; refine yL 0 ?_) | (refine gS ?_; refine yS 0 ?_) | refine yF ?_ | refine yB ?_ | (refine yA ?_; intro _)))
     refine sy_order [2, 3, 5, 0, 1, 4] rfl rfl ?_
     simp only [List.set_cons_zero, List.set_cons_succ, List.filterMap_cons, List.filterMap_nil, List.getElem?_cons_zero, List.getElem?_cons_succ]
     repeat ((refine gO ?_; (refine gL ?_; refine yL 2 ?_)))
     refine sy_callE (curE cb p q l _) rfl rfl rfl (w1) ?_
     rintro _ _ ⟨rfl, rfl⟩
     simp only [curE, List.cons_append, List.nil_append]
     repeat (first | refine yK ?_ | (refine gO ?_; first | refine yP ?_ | (refine gL ?_; refine yL 2 ?_)) | refine yT ?_)
     refine sy_callE (curE cb p q l _) rfl rfl rfl (sx_number1 cb p q l _ hl an1.ok) ?_
     rintro _ _ ⟨rfl, rfl⟩
     simp only [curE, List.cons_append, List.nil_append]
     repeat (first | refine yK ?_ | (refine gO ?_; first | (refine gL ?_; refine yL 2 ?_) | (refine gS ?_; refine yS 3 ?_) | refine yF ?_))
     refine sy_callE (curE cb p q l _) rfl rfl rfl (hm) ?_
     rintro _ _ ⟨rfl, rfl⟩
     simp only [curE, List.cons_append, List.nil_append]
     repeat (first | refine yK ?_ | (refine gO ?_; (refine gL ?_; refine yL 2 ?_)) | refine yT ?_)
     refine sy_callE (curE cb p q l _) rfl rfl rfl (sx_label cb p q l _ hl an.ok) ?_
     rintro _ _ ⟨x, rfl, hx, rfl⟩
     simp only [curE, List.cons_append, List.nil_append]
     refine sy_order [0, 1, 3, 4, 6, 2, 5] rfl rfl ?_
     simp only [List.set_cons_zero, List.set_cons_succ, List.filterMap_cons, List.filterMap_nil, List.getElem?_cons_zero, List.getElem?_cons_succ]
     repeat (first | refine yK ?_ | (refine gO ?_; first | (refine gL ?_; refine yL 3 ?_) | (refine gS ?_; first | refine yS 3 ?_ | refine yS 4 ?_) | refine yF ?_) | refine sy_rt ?_)
     exact ret1cw 4 rfl rfl rfl rfl rfl fun w' hw' => postE hw' _ (sub_self (sk (sk (sd (sd (sd (sk (List.nil_sublist _)))))))) rfl ⟨1, (num1P l (nextT l c)).1, _, x, rfl, by rw [hx], rfl⟩
   · have hR : coP l c = ((1, (num1P l (nextT l c)).1, (peekT l c).2.1, []), (num1P l (nextT l c)).2) := by
      unfold coP atL; rw [hk]; simp only; rw [if_neg h64]
     rw [hR]
     have h64 : isT l (num1P l (nextT l c)).2 4 [64] = false := by simpa using h64
     have hm := cur_mark cb p q l (num1P l (nextT l c)).2 hl am.ok [64]
     rw [h64, show goT l (num1P l (nextT l c)).2 false = (num1P l (nextT l c)).2 from rfl] at hm
     refine sy_enterE rfl rfl (fun w => ?_)
     simp only [initFr, curE, List.cons_append, List.nil_append]
     repeat (first | refine yK ?_ | (refine gO ?_; first | (refine gL ?_; refine yL 1 ?_) | refine yF ?_ | (refine sy_box rfl rfl rfl ?_; intro _) | (refine yA ?_; intro _)))
     refine sy_order [2, 3, 0, 1] rfl rfl ?_
     simp only [List.set_cons_zero, List.set_cons_succ, List.filterMap_cons, List.filterMap_nil, List.getElem?_cons_zero, List.getElem?_cons_succ]
     refine sy_callE (curE cb p q l _) rfl rfl rfl (cur_peek cb p q l c hl hc) ?_
     rintro _ _ ⟨rfl, rfl⟩
     simp only [curE, List.cons_append, List.nil_append]
     repeat (first | refine yK ?_ | (refine gO ?_; first | (refine gL ?_; refine yL 0 ?_) | (refine gS ?_; refine yS 0 ?_) | refine yF ?_ | refine yB ?_ | (refine yA ?_; intro _)))
     refine sy_order [2, 3, 5, 0, 1, 4] rfl rfl ?_
     simp only [List.set_cons_zero, List.set_cons_succ, List.filterMap_cons, List.filterMap_nil, List.getElem?_cons_zero, List.getElem?_cons_succ]
     repeat ((refine gO ?_; (refine gL ?_; refine yL 2 ?_)))
     refine sy_callE (curE cb p q l _) rfl rfl rfl (w1) ?_
     rintro _ _ ⟨rfl, rfl⟩
     simp only [curE, List.cons_append, List.nil_append]
     repeat (first | refine yK ?_ | (refine gO ?_; first | refine yP ?_ | (refine gL ?_; refine yL 2 ?_)) | refine yT ?_)
     refine sy_callE (curE cb p q l _) rfl rfl rfl (sx_number1 cb p q l _ hl an1.ok) ?_
     rintro _ _ ⟨rfl, rfl⟩
     simp only [curE, List.cons_append, List.nil_append]
     repeat (first | refine yK ?_ | (refine gO ?_; first | (refine gL ?_; refine yL 2 ?_) | (refine gS ?_; refine yS 3 ?_) | refine yF ?_))
     refine sy_callE (curE cb p q l _) rfl rfl rfl (hm) ?_
     rintro _ _ ⟨rfl, rfl⟩
     simp only [curE, List.cons_append, List.nil_append]
     refine sy_ws0 ?_
     refine sy_order [1, 2, 3, 4, 6, 0, 5] rfl rfl ?_
     simp only [List.set_cons_zero, List.set_cons_succ, List.filterMap_cons, List.filterMap_nil, List.getElem?_cons_zero, List.getElem?_cons_succ]
     repeat (first | refine yK ?_ | (refine gO ?_; first | (refine gL ?_; refine yL 3 ?_) | (refine gS ?_; refine yS 4 ?_)) | refine yN ?_ | refine sy_rt ?_)
     exact ret1cw 4 rfl rfl rfl rfl rfl fun w' hw' => postE hw' _ (sub_self (sk (sk (sd (sd (sd (sk (List.nil_sublist _)))))))) rfl ⟨1, (num1P l (nextT l c)).1, _, ws0, rfl, rfl, rfl⟩
 · have c1' : isT l c 1 wFloor = false := by simpa using c1
   rw [c1', gf] at w1
   by_cases c2 : isT l c 1 wFirst = true
   · have hk : coK l c = (2, (num1P l (nextT l c)).1, (num1P l (nextT l c)).2) := by unfold coK; rw [if_neg c1, if_pos c2]
     rw [c2, gt] at w2
     by_cases h64 : isT l (num1P l (nextT l c)).2 4 [64] = true
     · have hR : coP l c = ((2, (num1P l (nextT l c)).1, (peekT l c).2.1, (labP l (nextT l (num1P l (nextT l c)).2)).1), (labP l (nextT l (num1P l (nextT l c)).2)).2) := by
        unfold coP atL; rw [hk]; simp only; rw [if_pos h64]
       rw [hR]
       have hm := cur_mark cb p q l (num1P l (nextT l c)).2 hl am.ok [64]
       rw [h64, show goT l (num1P l (nextT l c)).2 true = nextT l (num1P l (nextT l c)).2 from if_pos rfl] at hm
       have an := Adv.next hl am.ok
       refine sy_enterE rfl rfl (fun w => ?_)
       simp only [initFr, curE, List.cons_append, List.nil_append]
       repeat (first | refine yK ?_ | (refine gO ?_; first | (refine gL ?_; refine yL 1 ?_) | refine yF ?_ | (refine sy_box rfl rfl rfl ?_; intro _) | (refine yA ?_; intro _)))
       refine sy_order [2, 3, 0, 1] rfl rfl ?_
       simp only [List.set_cons_zero, List.set_cons_succ, List.filterMap_cons, List.filterMap_nil, List.getElem?_cons_zero, List.getElem?_cons_succ]
       refine sy_callE (curE cb p q l _) rfl rfl rfl (cur_peek cb p q l c hl hc) ?_
       rintro _ _ ⟨rfl, rfl⟩
       simp only [curE, List.cons_append, List.nil_append]
       repeat (first | refine yK ?_ | (refine gO ?_; first | (refine gL ?_; refine yL 0 ?_) | (refine gS ?_; refine yS 0 ?_) | refine yF ?_ | refine yB ?_ | (refine yA ?_; intro _)))
       refine sy_order [2, 3, 5, 0, 1, 4] rfl rfl ?_
       simp only [List.set_cons_zero, List.set_cons_succ, List.filterMap_cons, List.filterMap_nil, List.getElem?_cons_zero, List.getElem?_cons_succ]
       repeat ((refine gO ?_; (refine gL ?_; refine yL 2 ?_)))
       refine sy_callE (curE cb p q l _) rfl rfl rfl (w1) ?_
       rintro _ _ ⟨rfl, rfl⟩
       simp only [curE, List.cons_append, List.nil_append]
       repeat (first | refine yK ?_ | (refine gO ?_; first | refine yP ?_ | (refine gL ?_; refine yL 2 ?_) | refine yF ?_) | refine yN ?_)
       refine sy_callE (curE cb p q l _) rfl rfl rfl (w2) ?_
       rintro _ _ ⟨rfl, rfl⟩
       simp only [curE, List.cons_append, List.nil_append]
       repeat (first | refine yK ?_ | (refine gO ?_; first | refine yP ?_ | (refine gL ?_; refine yL 2 ?_)) | refine yT ?_)
       refine sy_callE (curE cb p q l _) rfl rfl rfl (sx_number1 cb p q l _ hl an1.ok) ?_
       rintro _ _ ⟨rfl, rfl⟩
       simp only [curE, List.cons_append, List.nil_append]
       repeat (first | refine yK ?_ | (refine gO ?_; first | (refine gL ?_; refine yL 2 ?_) | (refine gS ?_; refine yS 3 ?_) | refine yF ?_))
       refine sy_callE (curE cb p q l _) rfl rfl rfl (hm) ?_
       rintro _ _ ⟨rfl, rfl⟩
       simp only [curE, List.cons_append, List.nil_append]
       repeat (first | refine yK ?_ | (refine gO ?_; (refine gL ?_; refine yL 2 ?_)) | refine yT ?_)
       refine sy_callE (curE cb p q l _) rfl rfl rfl (sx_label cb p q l _ hl an.ok) ?_
       rintro _ _ ⟨x, rfl, hx, rfl⟩
       simp only [curE, List.cons_append, List.nil_append]
       refine sy_order [0, 1, 3, 4, 6, 2, 5] rfl rfl ?_
       simp only [List.set_cons_zero, List.set_cons_succ, List.filterMap_cons, List.filterMap_nil, List.getElem?_cons_zero, List.getElem?_cons_succ]
       repeat (first | refine yK ?_ | (refine gO ?_; first | (refine gL ?_; refine yL 3 ?_) | (refine gS ?_; first | refine yS 3 ?_ | refine yS 4 ?_) | refine yF ?_) | refine sy_rt ?_)
       exact ret1cw 4 rfl rfl rfl rfl rfl fun w' hw' => postE hw' _ (sub_self (sk (sk (sd (sd (sd (sk (List.nil_sublist _)))))))) rfl ⟨2, (num1P l (nextT l c)).1, _, x, rfl, by rw [hx], rfl⟩
     · have hR : coP l c = ((2, (num1P l (nextT l c)).1, (peekT l c).2.1, []), (num1P l (nextT l c)).2) := by
        unfold coP atL; rw [hk]; simp only; rw [if_neg h64]
       rw [hR]
       have h64 : isT l (num1P l (nextT l c)).2 4 [64] = false := by simpa using h64
       have hm := cur_mark cb p q l (num1P l (nextT l c)).2 hl am.ok [64]
       rw [h64, show goT l (num1P l (nextT l c)).2 false = (num1P l (nextT l c)).2 from rfl] at hm
       refine sy_enterE rfl rfl (fun w => ?_)
       simp only [initFr, curE, List.cons_append, List.nil_append]
       repeat (first | refine yK ?_ | (refine gO ?_; first | (refine gL ?_; refine yL 1 ?_) | refine yF ?_ | (refine sy_box rfl rfl rfl ?_; intro _) | (refine yA ?_; intro _)))
       refine sy_order [2, 3, 0, 1] rfl rfl ?_
       simp only [List.set_cons_zero, List.set_cons_succ, List.filterMap_cons, List.filterMap_nil, List.getElem?_cons_zero, List.getElem?_cons_succ]
       refine sy_callE (curE cb p q l _) rfl rfl rfl (cur_peek cb p q l c hl hc) ?_
       rintro _ _ ⟨rfl, rfl⟩
       simp only [curE, List.cons_append, List.nil_append]
       repeat (first | refine yK ?_ | (refine gO ?_; first | (refine gL ?_; refine yL 0 ?_) | (refine gS ?_; refine yS 0 ?_) | refine yF ?_ | refine yB ?_ | (refine yA ?_; intro _)))
       refine sy_order [2, 3, 5, 0, 1, 4] rfl rfl ?_
       simp only [List.set_cons_zero, List.set_cons_succ, List.filterMap_cons, List.filterMap_nil, List.getElem?_cons_zero, List.getElem?_cons_succ]
       repeat ((refine gO ?_; (refine gL ?_; refine yL 2 ?_)))
       refine sy_callE (curE cb p q l _) rfl rfl rfl (w1) ?_
       rintro _ _ ⟨rfl, rfl⟩
       simp only [curE, List.cons_append, List.nil_append]
       repeat (first | refine yK ?_ | (refine gO ?_; first | refine yP ?_ | (refine gL ?_; refine yL 2 ?_) | refine yF ?_) | refine yN ?_)
       refine sy_callE (curE cb p q l _) rfl rfl rfl (w2) ?_
       rintro _ _ ⟨rfl, rfl⟩
       simp only [curE, List.cons_append, List.nil_append]
       repeat (first | refine yK ?_ | (refine gO ?_; first | refine yP ?_ | (refine gL ?_; refine yL 2 ?_)) | refine yT ?_)
       refine sy_callE (curE cb p q l _) rfl rfl rfl (sx_number1 cb p q l _ hl an1.ok) ?_
       rintro _ _ ⟨rfl, rfl⟩
       simp only [curE, List.cons_append, List.nil_append]
       repeat (first | refine yK ?_ | (refine gO ?_; first | (refine gL ?_; refine yL 2 ?_) | (refine gS ?_; refine yS 3 ?_) | refine yF ?_))
       refine sy_callE (curE cb p q l _) rfl rfl rfl (hm) ?_
       rintro _ _ ⟨rfl, rfl⟩
       simp only [curE, List.cons_append, List.nil_append]
       refine sy_ws0 ?_
       refine sy_order [1, 2, 3, 4, 6, 0, 5] rfl rfl ?_
       simp only [List.set_cons_zero, List.set_cons_succ, List.filterMap_cons, List.filterMap_nil, List.getElem?_cons_zero, List.getElem?_cons_succ]
       repeat (first | refine yK ?_ | (refine gO ?_; first | (refine gL ?_; refine yL 3 ?_) | (refine gS ?_; refine yS 4 ?_)) | refine yN ?_ | refine sy_rt ?_)
       exact ret1cw 4 rfl rfl rfl rfl rfl fun w' hw' => postE hw' _ (sub_self (sk (sk (sd (sd (sd (sk (List.nil_sublist _)))))))) rfl ⟨2, (num1P l (nextT l c)).1, _, ws0, rfl, rfl, rfl⟩
   · have c2' : isT l c 1 wFirst = false := by simpa using c2
     rw [c2', gf] at w2
     by_cases c3 : isT l c 1 wCount = true
     · have hk : coK l c = (3, 0, nextT l c) := by unfold coK; rw [if_neg c1, if_neg c2, if_pos c3]
       rw [c3, gt] at w3
       by_cases h64 : isT l (nextT l c) 4 [64] = true
       · have hR : coP l c = ((3, 0, (peekT l c).2.1, (labP l (nextT l (nextT l c))).1), (labP l (nextT l (nextT l c))).2) := by
          unfold coP atL; rw [hk]; simp only; rw [if_pos h64]
         rw [hR]
         have hm := cur_mark cb p q l (nextT l c) hl an1.ok [64]
         rw [h64, show goT l (nextT l c) true = nextT l (nextT l c) from if_pos rfl] at hm
         have an := Adv.next hl an1.ok
         refine sy_enterE rfl rfl (fun w => ?_)
         simp only [initFr, curE, List.cons_append, List.nil_append]
         repeat (first | refine yK ?_ | (refine gO ?_; first | (refine gL ?_; refine yL 1 ?_) | refine yF ?_ | (refine sy_box rfl rfl rfl ?_; intro _) | (refine yA ?_; intro _)))
         refine sy_order [2, 3, 0, 1] rfl rfl ?_
         simp only [List.set_cons_zero, List.set_cons_succ, List.filterMap_cons, List.filterMap_nil, List.getElem?_cons_zero, List.getElem?_cons_succ]
         refine sy_callE (curE cb p q l _) rfl rfl rfl (cur_peek cb p q l c hl hc) ?_
         rintro _ _ ⟨rfl, rfl⟩
         simp only [curE, List.cons_append, List.nil_append]
         repeat (first | refine yK ?_ | (refine gO ?_; first | (refine gL ?_; refine yL 0 ?_) | (refine gS ?_; refine yS 0 ?_) | refine yF ?_ | refine yB ?_ | (refine yA ?_; intro _)))
         refine sy_order [2, 3, 5, 0, 1, 4] rfl rfl ?_
         simp only [List.set_cons_zero, List.set_cons_succ, List.filterMap_cons, List.filterMap_nil, List.getElem?_cons_zero, List.getElem?_cons_succ]
         repeat ((refine gO ?_; (refine gL ?_; refine yL 2 ?_)))
         refine sy_callE (curE cb p q l _) rfl rfl rfl (w1) ?_
         rintro _ _ ⟨rfl, rfl⟩
         simp only [curE, List.cons_append, List.nil_append]
         repeat (first | refine yK ?_ | (refine gO ?_; first | refine yP ?_ | (refine gL ?_; refine yL 2 ?_) | refine yF ?_) | refine yN ?_)
         refine sy_callE (curE cb p q l _) rfl rfl rfl (w2) ?_
         rintro _ _ ⟨rfl, rfl⟩
         simp only [curE, List.cons_append, List.nil_append]
         repeat (first | refine yK ?_ | (refine gO ?_; first | refine yP ?_ | (refine gL ?_; refine yL 2 ?_) | refine yF ?_) | refine yN ?_)
         refine sy_callE (curE cb p q l _) rfl rfl rfl (w3) ?_
         rintro _ _ ⟨rfl, rfl⟩
         simp only [curE, List.cons_append, List.nil_append]
         repeat (first | refine yK ?_ | (refine gO ?_; first | refine yP ?_ | (refine gL ?_; refine yL 2 ?_) | (refine gS ?_; refine yS 3 ?_) | refine yF ?_) | refine yT ?_)
         refine sy_callE (curE cb p q l _) rfl rfl rfl (hm) ?_
         rintro _ _ ⟨rfl, rfl⟩
         simp only [curE, List.cons_append, List.nil_append]
         repeat (first | refine yK ?_ | (refine gO ?_; (refine gL ?_; refine yL 2 ?_)) | refine yT ?_)
         refine sy_callE (curE cb p q l _) rfl rfl rfl (sx_label cb p q l _ hl an.ok) ?_
         rintro _ _ ⟨x, rfl, hx, rfl⟩
         simp only [curE, List.cons_append, List.nil_append]
         refine sy_order [0, 1, 3, 4, 6, 2, 5] rfl rfl ?_
         simp only [List.set_cons_zero, List.set_cons_succ, List.filterMap_cons, List.filterMap_nil, List.getElem?_cons_zero, List.getElem?_cons_succ]
         repeat (first | refine yK ?_ | (refine gO ?_; first | (refine gL ?_; refine yL 3 ?_) | (refine gS ?_; first | refine yS 3 ?_ | refine yS 4 ?_) | refine yF ?_) | refine sy_rt ?_)
         exact ret1cw 4 rfl rfl rfl rfl rfl fun w' hw' => postE hw' _ (sub_self (sk (sk (sd (sd (sd (sk (List.nil_sublist _)))))))) rfl ⟨3, 0, _, x, rfl, by rw [hx], rfl⟩
       · have hR : coP l c = ((3, 0, (peekT l c).2.1, []), (nextT l c)) := by
          unfold coP atL; rw [hk]; simp only; rw [if_neg h64]
         rw [hR]
         have h64 : isT l (nextT l c) 4 [64] = false := by simpa using h64
         have hm := cur_mark cb p q l (nextT l c) hl an1.ok [64]
         rw [h64, show goT l (nextT l c) false = (nextT l c) from rfl] at hm
         refine sy_enterE rfl rfl (fun w => ?_)
         simp only [initFr, curE, List.cons_append, List.nil_append]
         repeat (first | refine yK ?_ | (refine gO ?_; first | (refine gL ?_; refine yL 1 ?_) | refine yF ?_ | (refine sy_box rfl rfl rfl ?_; intro _) | (refine yA ?_; intro _)))
         refine sy_order [2, 3, 0, 1] rfl rfl ?_
         simp only [List.set_cons_zero, List.set_cons_succ, List.filterMap_cons, List.filterMap_nil, List.getElem?_cons_zero, List.getElem?_cons_succ]
         refine sy_callE (curE cb p q l _) rfl rfl rfl (cur_peek cb p q l c hl hc) ?_
         rintro _ _ ⟨rfl, rfl⟩
         simp only [curE, List.cons_append, List.nil_append]
         repeat (first | refine yK ?_ | (refine gO ?_; first | (refine gL ?_; refine yL 0 ?_) | (refine gS ?_; refine yS 0 ?_) | refine yF ?_ | refine yB ?_ | (refine yA ?_; intro _)))
         refine sy_order [2, 3, 5, 0, 1, 4] rfl rfl ?_
         simp only [List.set_cons_zero, List.set_cons_succ, List.filterMap_cons, List.filterMap_nil, List.getElem?_cons_zero, List.getElem?_cons_succ]
         repeat ((refine gO ?_; (refine gL ?_; refine yL 2 ?_)))
         refine sy_callE (curE cb p q l _) rfl rfl rfl (w1) ?_
         rintro _ _ ⟨rfl, rfl⟩
         simp only [curE, List.cons_append, List.nil_append]
         repeat (first | refine yK ?_ | (refine gO ?_; first | refine yP ?_ | (refine gL ?_; refine yL 2 ?_) | refine yF ?_) | refine yN ?_)
         refine sy_callE (curE cb p q l _) rfl rfl rfl (w2) ?_
         rintro _ _ ⟨rfl, rfl⟩
         simp only [curE, List.cons_append, List.nil_append]
         repeat (first | refine yK ?_ | (refine gO ?_; first | refine yP ?_ | (refine gL ?_; refine yL 2 ?_) | refine yF ?_) | refine yN ?_)
         refine sy_callE (curE cb p q l _) rfl rfl rfl (w3) ?_
         rintro _ _ ⟨rfl, rfl⟩
         simp only [curE, List.cons_append, List.nil_append]
         repeat (first | refine yK ?_ | (refine gO ?_; first | refine yP ?_ | (refine gL ?_; refine yL 2 ?_) | (refine gS ?_; refine yS 3 ?_) | refine yF ?_) | refine yT ?_)
         refine sy_callE (curE cb p q l _) rfl rfl rfl (hm) ?_
         rintro _ _ ⟨rfl, rfl⟩
         simp only [curE, List.cons_append, List.nil_append]
         refine sy_ws0 ?_
         refine sy_order [1, 2, 3, 4, 6, 0, 5] rfl rfl ?_
         simp only [List.set_cons_zero, List.set_cons_succ, List.filterMap_cons, List.filterMap_nil, List.getElem?_cons_zero, List.getElem?_cons_succ]
         repeat (first | refine yK ?_ | (refine gO ?_; first | (refine gL ?_; refine yL 3 ?_) | (refine gS ?_; refine yS 4 ?_)) | refine yN ?_ | refine sy_rt ?_)
         exact ret1cw 4 rfl rfl rfl rfl rfl fun w' hw' => postE hw' _ (sub_self (sk (sk (sd (sd (sd (sk (List.nil_sublist _)))))))) rfl ⟨3, 0, _, ws0, rfl, rfl, rfl⟩
     · have c3' : isT l c 1 wCount = false := by simpa using c3
       rw [c3', gf] at w3
       by_cases c4 : (peekT l c).1 = 1
       · have hk : coK l c = (0, 0, failT l c 9) := by unfold coK; rw [if_neg c1, if_neg c2, if_neg c3, if_pos c4]
         by_cases h64 : isT l (failT l c 9) 4 [64] = true
         · have hR : coP l c = ((0, 0, (peekT l c).2.1, (labP l (nextT l (failT l c 9))).1), (labP l (nextT l (failT l c 9))).2) := by
            unfold coP atL; rw [hk]; simp only; rw [if_pos h64]
           rw [hR]
           have hm := cur_mark cb p q l (failT l c 9) hl (hc.fail 9) [64]
           rw [h64, show goT l (failT l c 9) true = nextT l (failT l c 9) from if_pos rfl] at hm
           have an := Adv.next hl (hc.fail 9)
           refine sy_enterE rfl rfl (fun w => ?_)
           simp only [initFr, curE, List.cons_append, List.nil_append]
           repeat (first | refine yK ?_ | (refine gO ?_; first | (refine gL ?_; refine yL 1 ?_) | refine yF ?_ | (refine sy_box rfl rfl rfl ?_; intro _) | (refine yA ?_; intro _)))
           refine sy_order [2, 3, 0, 1] rfl rfl ?_
           simp only [List.set_cons_zero, List.set_cons_succ, List.filterMap_cons, List.filterMap_nil, List.getElem?_cons_zero, List.getElem?_cons_succ]
           refine sy_callE (curE cb p q l _) rfl rfl rfl (cur_peek cb p q l c hl hc) ?_
           rintro _ _ ⟨rfl, rfl⟩
           simp only [curE, List.cons_append, List.nil_append]
           repeat (first | refine yK ?_ | (refine gO ?_; first | (refine gL ?_; refine yL 0 ?_) | (refine gS ?_; refine yS 0 ?_) | refine yF ?_ | refine yB ?_ | (refine yA ?_; intro _)))
           refine sy_order [2, 3, 5, 0, 1, 4] rfl rfl ?_
           simp only [List.set_cons_zero, List.set_cons_succ, List.filterMap_cons, List.filterMap_nil, List.getElem?_cons_zero, List.getElem?_cons_succ]
           repeat ((refine gO ?_; (refine gL ?_; refine yL 2 ?_)))
           refine sy_callE (curE cb p q l _) rfl rfl rfl (w1) ?_
           rintro _ _ ⟨rfl, rfl⟩
           simp only [curE, List.cons_append, List.nil_append]
           repeat (first | refine yK ?_ | (refine gO ?_; first | refine yP ?_ | (refine gL ?_; refine yL 2 ?_) | refine yF ?_) | refine yN ?_)
           refine sy_callE (curE cb p q l _) rfl rfl rfl (w2) ?_
           rintro _ _ ⟨rfl, rfl⟩
           simp only [curE, List.cons_append, List.nil_append]
           repeat (first | refine yK ?_ | (refine gO ?_; first | refine yP ?_ | (refine gL ?_; refine yL 2 ?_) | refine yF ?_) | refine yN ?_)
           refine sy_callE (curE cb p q l _) rfl rfl rfl (w3) ?_
           rintro _ _ ⟨rfl, rfl⟩
           simp only [curE, List.cons_append, List.nil_append]
           repeat (first | refine yK ?_ | (refine gO ?_; first | refine yP ?_ | (refine gL ?_; first | refine yL 2 ?_ | refine yL 4 ?_) | refine yF ?_) | refine yT ?_ | refine yN ?_)
           refine sy_callE (curE cb p q l _) rfl rfl rfl (cur_fail cb p q l c hl hc 9) ?_
           rintro _ _ ⟨rfl, rfl⟩
           simp only [curE, List.cons_append, List.nil_append]
           repeat (first | refine yK ?_ | (refine gO ?_; first | (refine gL ?_; refine yL 2 ?_) | refine yF ?_))
           refine sy_callE (curE cb p q l _) rfl rfl rfl (hm) ?_
           rintro _ _ ⟨rfl, rfl⟩
           simp only [curE, List.cons_append, List.nil_append]
           repeat (first | refine yK ?_ | (refine gO ?_; (refine gL ?_; refine yL 2 ?_)) | refine yT ?_)
           refine sy_callE (curE cb p q l _) rfl rfl rfl (sx_label cb p q l _ hl an.ok) ?_
           rintro _ _ ⟨x, rfl, hx, rfl⟩
           simp only [curE, List.cons_append, List.nil_append]
           refine sy_order [0, 1, 3, 4, 6, 2, 5] rfl rfl ?_
           simp only [List.set_cons_zero, List.set_cons_succ, List.filterMap_cons, List.filterMap_nil, List.getElem?_cons_zero, List.getElem?_cons_succ]
           repeat (first | refine yK ?_ | (refine gO ?_; first | (refine gL ?_; refine yL 3 ?_) | (refine gS ?_; first | refine yS 3 ?_ | refine yS 4 ?_) | refine yF ?_) | refine sy_rt ?_)
           exact ret1cw 4 rfl rfl rfl rfl rfl fun w' hw' => postE hw' _ (sub_self (sk (sk (sd (sd (sd (sk (List.nil_sublist _)))))))) rfl ⟨0, 0, _, x, rfl, by rw [hx], rfl⟩
         · have hR : coP l c = ((0, 0, (peekT l c).2.1, []), (failT l c 9)) := by
            unfold coP atL; rw [hk]; simp only; rw [if_neg h64]
           rw [hR]
           have h64 : isT l (failT l c 9) 4 [64] = false := by simpa using h64
           have hm := cur_mark cb p q l (failT l c 9) hl (hc.fail 9) [64]
           rw [h64, show goT l (failT l c 9) false = (failT l c 9) from rfl] at hm
           refine sy_enterE rfl rfl (fun w => ?_)
           simp only [initFr, curE, List.cons_append, List.nil_append]
           repeat (first | refine yK ?_ | (refine gO ?_; first | (refine gL ?_; refine yL 1 ?_) | refine yF ?_ | (refine sy_box rfl rfl rfl ?_; intro _) | (refine yA ?_; intro _)))
           refine sy_order [2, 3, 0, 1] rfl rfl ?_
           simp only [List.set_cons_zero, List.set_cons_succ, List.filterMap_cons, List.filterMap_nil, List.getElem?_cons_zero, List.getElem?_cons_succ]
           refine sy_callE (curE cb p q l _) rfl rfl rfl (cur_peek cb p q l c hl hc) ?_
           rintro _ _ ⟨rfl, rfl⟩
           simp only [curE, List.cons_append, List.nil_append]
           repeat (first | refine yK ?_ | (refine gO ?_; first | (refine gL ?_; refine yL 0 ?_) | (refine gS ?_; refine yS 0 ?_) | refine yF ?_ | refine yB ?_ | (refine yA ?_; intro _)))
           refine sy_order [2, 3, 5, 0, 1, 4] rfl rfl ?_
           simp only [List.set_cons_zero, List.set_cons_succ, List.filterMap_cons, List.filterMap_nil, List.getElem?_cons_zero, List.getElem?_cons_succ]
           repeat ((refine gO ?_; (refine gL ?_; refine yL 2 ?_)))
           refine sy_callE (curE cb p q l _) rfl rfl rfl (w1) ?_
           rintro _ _ ⟨rfl, rfl⟩
           simp only [curE, List.cons_append, List.nil_append]
           repeat (first | refine yK ?_ | (refine gO ?_; first | refine yP ?_ | (refine gL ?_; refine yL 2 ?_) | refine yF ?_) | refine yN ?_)
           refine sy_callE (curE cb p q l _) rfl rfl rfl (w2) ?_
           rintro _ _ ⟨rfl, rfl⟩
           simp only [curE, List.cons_append, List.nil_append]
           repeat (first | refine yK ?_ | (refine gO ?_; first | refine yP ?_ | (refine gL ?_; refine yL 2 ?_) | refine yF ?_) | refine yN ?_)
           refine sy_callE (curE cb p q l _) rfl rfl rfl (w3) ?_
           rintro _ _ ⟨rfl, rfl⟩
           simp only [curE, List.cons_append, List.nil_append]
           repeat (first | refine yK ?_ | (refine gO ?_; first | refine yP ?_ | (refine gL ?_; first | refine yL 2 ?_ | refine yL 4 ?_) | refine yF ?_) | refine yT ?_ | refine yN ?_)
           refine sy_callE (curE cb p q l _) rfl rfl rfl (cur_fail cb p q l c hl hc 9) ?_
           rintro _ _ ⟨rfl, rfl⟩
           simp only [curE, List.cons_append, List.nil_append]
           repeat (first | refine yK ?_ | (refine gO ?_; first | (refine gL ?_; refine yL 2 ?_) | refine yF ?_))
           refine sy_callE (curE cb p q l _) rfl rfl rfl (hm) ?_
           rintro _ _ ⟨rfl, rfl⟩
           simp only [curE, List.cons_append, List.nil_append]
           refine sy_ws0 ?_
           refine sy_order [1, 2, 3, 4, 6, 0, 5] rfl rfl ?_
           simp only [List.set_cons_zero, List.set_cons_succ, List.filterMap_cons, List.filterMap_nil, List.getElem?_cons_zero, List.getElem?_cons_succ]
           repeat (first | refine yK ?_ | (refine gO ?_; first | (refine gL ?_; refine yL 3 ?_) | (refine gS ?_; refine yS 4 ?_)) | refine yN ?_ | refine sy_rt ?_)
           exact ret1cw 4 rfl rfl rfl rfl rfl fun w' hw' => postE hw' _ (sub_self (sk (sk (sd (sd (sd (sk (List.nil_sublist _)))))))) rfl ⟨0, 0, _, ws0, rfl, rfl, rfl⟩
       · have hk : coK l c = (0, 0, wrongT l c) := by unfold coK; rw [if_neg c1, if_neg c2, if_neg c3, if_neg c4]
         by_cases h64 : isT l (wrongT l c) 4 [64] = true
         · have hR : coP l c = ((0, 0, (peekT l c).2.1, (labP l (nextT l (wrongT l c))).1), (labP l (nextT l (wrongT l c))).2) := by
            unfold coP atL; rw [hk]; simp only; rw [if_pos h64]
           rw [hR]
           have hm := cur_mark cb p q l (wrongT l c) hl hc.wrong [64]
           rw [h64, show goT l (wrongT l c) true = nextT l (wrongT l c) from if_pos rfl] at hm
           have an := Adv.next hl hc.wrong
           refine sy_enterE rfl rfl (fun w => ?_)
           simp only [initFr, curE, List.cons_append, List.nil_append]
           repeat (first | refine yK ?_ | (refine gO ?_; first | (refine gL ?_; refine yL 1 ?_) | refine yF ?_ | (refine sy_box rfl rfl rfl ?_; intro _) | (refine yA ?_; intro _)))
           refine sy_order [2, 3, 0, 1] rfl rfl ?_
           simp only [List.set_cons_zero, List.set_cons_succ, List.filterMap_cons, List.filterMap_nil, List.getElem?_cons_zero, List.getElem?_cons_succ]
           refine sy_callE (curE cb p q l _) rfl rfl rfl (cur_peek cb p q l c hl hc) ?_
           rintro _ _ ⟨rfl, rfl⟩
           simp only [curE, List.cons_append, List.nil_append]
           repeat (first | refine yK ?_ | (refine gO ?_; first | (refine gL ?_; refine yL 0 ?_) | (refine gS ?_; refine yS 0 ?_) | refine yF ?_ | refine yB ?_ | (refine yA ?_; intro _)))
           refine sy_order [2, 3, 5, 0, 1, 4] rfl rfl ?_
           simp only [List.set_cons_zero, List.set_cons_succ, List.filterMap_cons, List.filterMap_nil, List.getElem?_cons_zero, List.getElem?_cons_succ]
           repeat ((refine gO ?_; (refine gL ?_; refine yL 2 ?_)))
           refine sy_callE (curE cb p q l _) rfl rfl rfl (w1) ?_
           rintro _ _ ⟨rfl, rfl⟩
           simp only [curE, List.cons_append, List.nil_append]
           repeat (first | refine yK ?_ | (refine gO ?_; first | refine yP ?_ | (refine gL ?_; refine yL 2 ?_) | refine yF ?_) | refine yN ?_)
           refine sy_callE (curE cb p q l _) rfl rfl rfl (w2) ?_
           rintro _ _ ⟨rfl, rfl⟩
           simp only [curE, List.cons_append, List.nil_append]
           repeat (first | refine yK ?_ | (refine gO ?_; first | refine yP ?_ | (refine gL ?_; refine yL 2 ?_) | refine yF ?_) | refine yN ?_)
           refine sy_callE (curE cb p q l _) rfl rfl rfl (w3) ?_
           rintro _ _ ⟨rfl, rfl⟩
           simp only [curE, List.cons_append, List.nil_append]
           repeat (first | refine yK ?_ | (refine gO ?_; first | refine yP ?_ | (refine gL ?_; first | refine yL 2 ?_ | refine yL 4 ?_) | refine yF ?_) | refine yN ?_)
           refine sy_callE (curE cb p q l _) rfl rfl rfl (sx_wrong cb p q l c hl hc) ?_
           rintro _ _ ⟨rfl, rfl⟩
           simp only [curE, List.cons_append, List.nil_append]
           repeat (first | refine yK ?_ | (refine gO ?_; first | (refine gL ?_; refine yL 2 ?_) | refine yF ?_))
           refine sy_callE (curE cb p q l _) rfl rfl rfl (hm) ?_
           rintro _ _ ⟨rfl, rfl⟩
           simp only [curE, List.cons_append, List.nil_append]
           repeat (first | refine yK ?_ | (refine gO ?_; (refine gL ?_; refine yL 2 ?_)) | refine yT ?_)
           refine sy_callE (curE cb p q l _) rfl rfl rfl (sx_label cb p q l _ hl an.ok) ?_
           rintro _ _ ⟨x, rfl, hx, rfl⟩
           simp only [curE, List.cons_append, List.nil_append]
           refine sy_order [0, 1, 3, 4, 6, 2, 5] rfl rfl ?_
           simp only [List.set_cons_zero, List.set_cons_succ, List.filterMap_cons, List.filterMap_nil, List.getElem?_cons_zero, List.getElem?_cons_succ]
           repeat (first | refine yK ?_ | (refine gO ?_; first | (refine gL ?_; refine yL 3 ?_) | (refine gS ?_; first | refine yS 3 ?_ | refine yS 4 ?_) | refine yF ?_) | refine sy_rt ?_)
           exact ret1cw 4 rfl rfl rfl rfl rfl fun w' hw' => postE hw' _ (sub_self (sk (sk (sd (sd (sd (sk (List.nil_sublist _)))))))) rfl ⟨0, 0, _, x, rfl, by rw [hx], rfl⟩
         · have hR : coP l c = ((0, 0, (peekT l c).2.1, []), (wrongT l c)) := by
            unfold coP atL; rw [hk]; simp only; rw [if_neg h64]
           rw [hR]
           have h64 : isT l (wrongT l c) 4 [64] = false := by simpa using h64
           have hm := cur_mark cb p q l (wrongT l c) hl hc.wrong [64]
           rw [h64, show goT l (wrongT l c) false = (wrongT l c) from rfl] at hm
           refine sy_enterE rfl rfl (fun w => ?_)
           simp only [initFr, curE, List.cons_append, List.nil_append]
           repeat (first | refine yK ?_ | (refine gO ?_; first | (refine gL ?_; refine yL 1 ?_) | refine yF ?_ | (refine sy_box rfl rfl rfl ?_; intro _) | (refine yA ?_; intro _)))
           refine sy_order [2, 3, 0, 1] rfl rfl ?_
           simp only [List.set_cons_zero, List.set_cons_succ, List.filterMap_cons, List.filterMap_nil, List.getElem?_cons_zero, List.getElem?_cons_succ]
           refine sy_callE (curE cb p q l _) rfl rfl rfl (cur_peek cb p q l c hl hc) ?_
           rintro _ _ ⟨rfl, rfl⟩
           simp only [curE, List.cons_append, List.nil_append]
           repeat (first | refine yK ?_ | (refine gO ?_; first | (refine gL ?_; refine yL 0 ?_) | (refine gS ?_; refine yS 0 ?_) | refine yF ?_ | refine yB ?_ | (refine yA ?_; intro _)))
           refine sy_order [2, 3, 5, 0, 1, 4] rfl rfl ?_
           simp only [List.set_cons_zero, List.set_cons_succ, List.filterMap_cons, List.filterMap_nil, List.getElem?_cons_zero, List.getElem?_cons_succ]
           repeat ((refine gO ?_; (refine gL ?_; refine yL 2 ?_)))
           refine sy_callE (curE cb p q l _) rfl rfl rfl (w1) ?_
           rintro _ _ ⟨rfl, rfl⟩
           simp only [curE, List.cons_append, List.nil_append]
           repeat (first | refine yK ?_ | (refine gO ?_; first | refine yP ?_ | (refine gL ?_; refine yL 2 ?_) | refine yF ?_) | refine yN ?_)
           refine sy_callE (curE cb p q l _) rfl rfl rfl (w2) ?_
           rintro _ _ ⟨rfl, rfl⟩
           simp only [curE, List.cons_append, List.nil_append]
           repeat (first | refine yK ?_ | (refine gO ?_; first | refine yP ?_ | (refine gL ?_; refine yL 2 ?_) | refine yF ?_) | refine yN ?_)
           refine sy_callE (curE cb p q l _) rfl rfl rfl (w3) ?_
           rintro _ _ ⟨rfl, rfl⟩
           simp only [curE, List.cons_append, List.nil_append]
           repeat (first | refine yK ?_ | (refine gO ?_; first | refine yP ?_ | (refine gL ?_; first | refine yL 2 ?_ | refine yL 4 ?_) | refine yF ?_) | refine yN ?_)
           refine sy_callE (curE cb p q l _) rfl rfl rfl (sx_wrong cb p q l c hl hc) ?_
           rintro _ _ ⟨rfl, rfl⟩
           simp only [curE, List.cons_append, List.nil_append]
           repeat (first | refine yK ?_ | (refine gO ?_; first | (refine gL ?_; refine yL 2 ?_) | refine yF ?_))
           refine sy_callE (curE cb p q l _) rfl rfl rfl (hm) ?_
           rintro _ _ ⟨rfl, rfl⟩
           simp only [curE, List.cons_append, List.nil_append]
           refine sy_ws0 ?_
           refine sy_order [1, 2, 3, 4, 6, 0, 5] rfl rfl ?_
           simp only [List.set_cons_zero, List.set_cons_succ, List.filterMap_cons, List.filterMap_nil, List.getElem?_cons_zero, List.getElem?_cons_succ]
           repeat (first | refine yK ?_ | (refine gO ?_; first | (refine gL ?_; refine yL 3 ?_) | (refine gS ?_; refine yS 4 ?_)) | refine yN ?_ | refine sy_rt ?_)
           exact ret1cw 4 rfl rfl rfl rfl rfl fun w' hw' => postE hw' _ (sub_self (sk (sk (sd (sd (sd (sk (List.nil_sublist _)))))))) rfl ⟨0, 0, _, ws0, rfl, rfl, rfl⟩
end
end Go.Proofs.YtldjakeigjngoaaGreat
/- Contracts of the types' readers: what stands behind a part's type. -/
namespace Go.Proofs.YtldjakeigjngoaaGreat
open Go.RowKit Bf
def prtC (nm : WordT) (bare : Bool) (lab : WsA) (wide ck cn ca : Int) (cl : WsA) (tv : List Value) : List Value := [S nm.1, .int .i64 nm.2, .bool bare, wsV lab, .int .i64 wide, .int .i64 ck, .int .i64 cn, .int .i64 ca, wsV cl] ++ tv
section
variable (cb : Nat) (p : Option Addr) (q : Nat) (l : List TokT) (c : CurT)
set_option maxRecDepth 20000 in
set_option maxHeartbeats 4000000 in
theorem sx_marks (xb : Nat) (nm : WordT) (bare : Bool) (k a lo hi most : Int) (ns : WsA) (pp : Option Addr) (cp : Nat) (parts : List PrtA) (tn : WordT) (hl : TokOk l) (hc : CurOk l c) :
 CallsE Tryz.prog 120 [prs cb, ptr xb] (curE cb p q l c ++ [blk xb 82 (prtC nm bare ws0 0 0 0 0 ws0 (typV (.mk k a lo hi most ns pp cp parts tn)))]) fun u es' => u = .tuple #[] ∧ ∃ lab wide ck cn ca cl, (lab.l, wide, (ck, cn, ca, cl.l)) = (mkP l c).1 ∧
  es' = curE cb p q l (mkP l c).2 ++ [blk xb 82 (prtC nm bare lab wide ck cn ca cl (typV (.mk k a lo hi most ns pp cp parts tn))), wsE lab, wsE cl] := by
 simp only [prtC, typV, List.cons_append, List.nil_append]
 by_cases h1 : isT l c 4 [64] = true
 · have hm1 := cur_mark cb p q l c hl hc [64]
   rw [h1, show goT l c true = nextT l c from if_pos rfl] at hm1
   have an1 := Adv.next hl hc
   have ad1 := Adv.lab hl an1.ok
   have e1 : atL l c = ((labP l (nextT l c)).1, (labP l (nextT l c)).2) := if_pos h1
   by_cases h2 : isT l ((labP l (nextT l c)).2) 4 [35] = true
   · have hm2 := cur_mark cb p q l ((labP l (nextT l c)).2) hl ad1.ok [35]
     rw [h2, show goT l ((labP l (nextT l c)).2) true = nextT l ((labP l (nextT l c)).2) from if_pos rfl] at hm2
     have an2 := Adv.next hl ad1.ok
     have e2 : widP l ((labP l (nextT l c)).2) = (numN l (nextT l ((labP l (nextT l c)).2)), numCu l (nextT l ((labP l (nextT l c)).2))) := if_pos h2
     have ad2 := Adv.num hl an2.ok
     by_cases h3 : isT l (numCu l (nextT l ((labP l (nextT l c)).2))) 4 [126] = true
     · have hm3 := cur_mark cb p q l (numCu l (nextT l ((labP l (nextT l c)).2))) hl ad2.ok [126]
       rw [h3, show goT l (numCu l (nextT l ((labP l (nextT l c)).2))) true = nextT l (numCu l (nextT l ((labP l (nextT l c)).2))) from if_pos rfl] at hm3
       have an3 := Adv.next hl ad2.ok
       have e3 : seeP l (numCu l (nextT l ((labP l (nextT l c)).2))) = coP l (nextT l (numCu l (nextT l ((labP l (nextT l c)).2)))) := if_pos h3
       unfold mkP
       rw [e1]
       simp only
       rw [e2]
       simp only
       rw [e3]
       refine sy_enterE rfl rfl (fun w => ?_)
       simp only [initFr, curE, List.cons_append, List.nil_append]
       repeat (first | refine yK ?_ | (refine gO ?_; first | (refine gL ?_; refine yL 0 ?_) | refine yF ?_ | (refine sy_box rfl rfl rfl ?_; intro _)))
       refine sy_order [1, 2, 0, 3] rfl rfl ?_
       simp only [List.set_cons_zero, List.set_cons_succ, List.filterMap_cons, List.filterMap_nil, List.getElem?_cons_zero, List.getElem?_cons_succ]
       refine sy_callE (curE cb p q l _) rfl rfl rfl (hm1) ?_
       rintro _ _ ⟨rfl, rfl⟩
       simp only [curE, List.cons_append, List.nil_append]
       repeat (first | refine yK ?_ | (refine gO ?_; first | refine yP ?_ | (refine gL ?_; refine yL 2 ?_)) | refine yT ?_)
       refine sy_callE (curE cb p q l _) rfl rfl rfl (sx_label cb p q l _ hl an1.ok) ?_
       rintro _ _ ⟨x, rfl, hx, rfl⟩
       simp only [curE, List.cons_append, List.nil_append]
       refine sy_order [0, 1, 3, 4, 2] rfl rfl ?_
       simp only [List.set_cons_zero, List.set_cons_succ, List.filterMap_cons, List.filterMap_nil, List.getElem?_cons_zero, List.getElem?_cons_succ]
       repeat (first | refine yK ?_ | (refine gO ?_; first | refine yP ?_ | (refine gL ?_; refine yL 2 ?_) | (refine gS ?_; refine yS 3 ?_) | refine yF ?_))
       refine sy_callE (curE cb p q l _) rfl rfl rfl (hm2) ?_
       rintro _ _ ⟨rfl, rfl⟩
       simp only [curE, List.cons_append, List.nil_append]
       repeat (first | refine yK ?_ | (refine gO ?_; first | refine yP ?_ | (refine gL ?_; refine yL 2 ?_)) | refine yT ?_)
       refine sy_callE (curE cb p q l _) rfl rfl rfl (sx_number cb p q l _ hl an2.ok) ?_
       rintro _ _ ⟨rfl, rfl⟩
       simp only [curE, List.cons_append, List.nil_append]
       repeat (first | refine yK ?_ | (refine gO ?_; first | refine yP ?_ | (refine gL ?_; refine yL 2 ?_) | (refine gS ?_; refine yS 3 ?_) | refine yF ?_))
       refine sy_callE (curE cb p q l _) rfl rfl rfl (hm3) ?_
       rintro _ _ ⟨rfl, rfl⟩
       simp only [curE, List.cons_append, List.nil_append]
       repeat (first | refine yK ?_ | (refine gO ?_; first | refine yP ?_ | (refine gL ?_; refine yL 2 ?_)) | refine yT ?_)
       refine sy_callE (curE cb p q l _) rfl rfl rfl (sx_coarse cb p q l _ hl an3.ok) ?_
       rintro _ _ ⟨ck, cn, ca, y, rfl, hy, rfl⟩
       simp only [curE, List.cons_append, List.nil_append]
       refine sy_order [0, 1, 3, 4, 5, 2] rfl rfl ?_
       simp only [List.set_cons_zero, List.set_cons_succ, List.filterMap_cons, List.filterMap_nil, List.getElem?_cons_zero, List.getElem?_cons_succ]
       repeat (first | refine yK ?_ | (refine gO ?_; first | refine yP ?_ | (refine gS ?_; refine yS 3 ?_) | refine yF ?_))
       exact end0w rfl fun w' hw' => postE hw' _ (sub_self (sk (sk (sd sr)))) rfl ⟨rfl, x, (numN l (nextT l ((labP l (nextT l c)).2))), ck, cn, ca, y, by rw [hx, hy], rfl⟩
     · have h3 : isT l (numCu l (nextT l ((labP l (nextT l c)).2))) 4 [126] = false := by simpa using h3
       have hm3 := cur_mark cb p q l (numCu l (nextT l ((labP l (nextT l c)).2))) hl ad2.ok [126]
       rw [h3, show goT l (numCu l (nextT l ((labP l (nextT l c)).2))) false = (numCu l (nextT l ((labP l (nextT l c)).2))) from rfl] at hm3
       have e3 : seeP l (numCu l (nextT l ((labP l (nextT l c)).2))) = (zco, (numCu l (nextT l ((labP l (nextT l c)).2)))) := by unfold seeP; rw [h3]; rfl
       unfold mkP
       rw [e1]
       simp only
       rw [e2]
       simp only
       rw [e3]
       refine sy_enterE rfl rfl (fun w => ?_)
       simp only [initFr, curE, List.cons_append, List.nil_append]
       repeat (first | refine yK ?_ | (refine gO ?_; first | (refine gL ?_; refine yL 0 ?_) | refine yF ?_ | (refine sy_box rfl rfl rfl ?_; intro _)))
       refine sy_order [1, 2, 0, 3] rfl rfl ?_
       simp only [List.set_cons_zero, List.set_cons_succ, List.filterMap_cons, List.filterMap_nil, List.getElem?_cons_zero, List.getElem?_cons_succ]
       refine sy_callE (curE cb p q l _) rfl rfl rfl (hm1) ?_
       rintro _ _ ⟨rfl, rfl⟩
       simp only [curE, List.cons_append, List.nil_append]
       repeat (first | refine yK ?_ | (refine gO ?_; first | refine yP ?_ | (refine gL ?_; refine yL 2 ?_)) | refine yT ?_)
       refine sy_callE (curE cb p q l _) rfl rfl rfl (sx_label cb p q l _ hl an1.ok) ?_
       rintro _ _ ⟨x, rfl, hx, rfl⟩
       simp only [curE, List.cons_append, List.nil_append]
       refine sy_order [0, 1, 3, 4, 2] rfl rfl ?_
       simp only [List.set_cons_zero, List.set_cons_succ, List.filterMap_cons, List.filterMap_nil, List.getElem?_cons_zero, List.getElem?_cons_succ]
       repeat (first | refine yK ?_ | (refine gO ?_; first | refine yP ?_ | (refine gL ?_; refine yL 2 ?_) | (refine gS ?_; refine yS 3 ?_) | refine yF ?_))
       refine sy_callE (curE cb p q l _) rfl rfl rfl (hm2) ?_
       rintro _ _ ⟨rfl, rfl⟩
       simp only [curE, List.cons_append, List.nil_append]
       repeat (first | refine yK ?_ | (refine gO ?_; first | refine yP ?_ | (refine gL ?_; refine yL 2 ?_)) | refine yT ?_)
       refine sy_callE (curE cb p q l _) rfl rfl rfl (sx_number cb p q l _ hl an2.ok) ?_
       rintro _ _ ⟨rfl, rfl⟩
       simp only [curE, List.cons_append, List.nil_append]
       repeat (first | refine yK ?_ | (refine gO ?_; first | refine yP ?_ | (refine gL ?_; refine yL 2 ?_) | (refine gS ?_; refine yS 3 ?_) | refine yF ?_))
       refine sy_callE (curE cb p q l _) rfl rfl rfl (hm3) ?_
       rintro _ _ ⟨rfl, rfl⟩
       simp only [curE, List.cons_append, List.nil_append]
       refine sy_ws0 ?_
       refine sy_order [1, 2, 3, 4, 5, 0] rfl rfl ?_
       simp only [List.set_cons_zero, List.set_cons_succ, List.filterMap_cons, List.filterMap_nil, List.getElem?_cons_zero, List.getElem?_cons_succ]
       repeat (first | refine yK ?_ | refine yN ?_)
       exact end0w rfl fun w' hw' => postE hw' _ (sub_self (sk (sk (sd sr)))) rfl ⟨rfl, x, (numN l (nextT l ((labP l (nextT l c)).2))), 0, 0, 0, ws0, by rw [hx]; rfl, rfl⟩
   · have h2 : isT l ((labP l (nextT l c)).2) 4 [35] = false := by simpa using h2
     have hm2 := cur_mark cb p q l ((labP l (nextT l c)).2) hl ad1.ok [35]
     rw [h2, show goT l ((labP l (nextT l c)).2) false = ((labP l (nextT l c)).2) from rfl] at hm2
     have e2 : widP l ((labP l (nextT l c)).2) = (0, ((labP l (nextT l c)).2)) := by unfold widP; rw [h2]; rfl
     by_cases h3 : isT l ((labP l (nextT l c)).2) 4 [126] = true
     · have hm3 := cur_mark cb p q l ((labP l (nextT l c)).2) hl ad1.ok [126]
       rw [h3, show goT l ((labP l (nextT l c)).2) true = nextT l ((labP l (nextT l c)).2) from if_pos rfl] at hm3
       have an3 := Adv.next hl ad1.ok
       have e3 : seeP l ((labP l (nextT l c)).2) = coP l (nextT l ((labP l (nextT l c)).2)) := if_pos h3
       unfold mkP
       rw [e1]
       simp only
       rw [e2]
       simp only
       rw [e3]
       refine sy_enterE rfl rfl (fun w => ?_)
       simp only [initFr, curE, List.cons_append, List.nil_append]
       repeat (first | refine yK ?_ | (refine gO ?_; first | (refine gL ?_; refine yL 0 ?_) | refine yF ?_ | (refine sy_box rfl rfl rfl ?_; intro _)))
       refine sy_order [1, 2, 0, 3] rfl rfl ?_
       simp only [List.set_cons_zero, List.set_cons_succ, List.filterMap_cons, List.filterMap_nil, List.getElem?_cons_zero, List.getElem?_cons_succ]
       refine sy_callE (curE cb p q l _) rfl rfl rfl (hm1) ?_
       rintro _ _ ⟨rfl, rfl⟩
       simp only [curE, List.cons_append, List.nil_append]
       repeat (first | refine yK ?_ | (refine gO ?_; first | refine yP ?_ | (refine gL ?_; refine yL 2 ?_)) | refine yT ?_)
       refine sy_callE (curE cb p q l _) rfl rfl rfl (sx_label cb p q l _ hl an1.ok) ?_
       rintro _ _ ⟨x, rfl, hx, rfl⟩
       simp only [curE, List.cons_append, List.nil_append]
       refine sy_order [0, 1, 3, 4, 2] rfl rfl ?_
       simp only [List.set_cons_zero, List.set_cons_succ, List.filterMap_cons, List.filterMap_nil, List.getElem?_cons_zero, List.getElem?_cons_succ]
       repeat (first | refine yK ?_ | (refine gO ?_; first | refine yP ?_ | (refine gL ?_; refine yL 2 ?_) | (refine gS ?_; refine yS 3 ?_) | refine yF ?_))
       refine sy_callE (curE cb p q l _) rfl rfl rfl (hm2) ?_
       rintro _ _ ⟨rfl, rfl⟩
       simp only [curE, List.cons_append, List.nil_append]
       repeat (first | refine yK ?_ | (refine gO ?_; first | (refine gL ?_; refine yL 2 ?_) | refine yF ?_) | refine yN ?_)
       refine sy_callE (curE cb p q l _) rfl rfl rfl (hm3) ?_
       rintro _ _ ⟨rfl, rfl⟩
       simp only [curE, List.cons_append, List.nil_append]
       repeat (first | refine yK ?_ | (refine gO ?_; first | refine yP ?_ | (refine gL ?_; refine yL 2 ?_)) | refine yT ?_)
       refine sy_callE (curE cb p q l _) rfl rfl rfl (sx_coarse cb p q l _ hl an3.ok) ?_
       rintro _ _ ⟨ck, cn, ca, y, rfl, hy, rfl⟩
       simp only [curE, List.cons_append, List.nil_append]
       refine sy_order [0, 1, 3, 4, 5, 2] rfl rfl ?_
       simp only [List.set_cons_zero, List.set_cons_succ, List.filterMap_cons, List.filterMap_nil, List.getElem?_cons_zero, List.getElem?_cons_succ]
       repeat (first | refine yK ?_ | (refine gO ?_; first | refine yP ?_ | (refine gS ?_; refine yS 3 ?_) | refine yF ?_))
       exact end0w rfl fun w' hw' => postE hw' _ (sub_self (sk (sk (sd sr)))) rfl ⟨rfl, x, 0, ck, cn, ca, y, by rw [hx, hy], rfl⟩
     · have h3 : isT l ((labP l (nextT l c)).2) 4 [126] = false := by simpa using h3
       have hm3 := cur_mark cb p q l ((labP l (nextT l c)).2) hl ad1.ok [126]
       rw [h3, show goT l ((labP l (nextT l c)).2) false = ((labP l (nextT l c)).2) from rfl] at hm3
       have e3 : seeP l ((labP l (nextT l c)).2) = (zco, ((labP l (nextT l c)).2)) := by unfold seeP; rw [h3]; rfl
       unfold mkP
       rw [e1]
       simp only
       rw [e2]
       simp only
       rw [e3]
       refine sy_enterE rfl rfl (fun w => ?_)
       simp only [initFr, curE, List.cons_append, List.nil_append]
       repeat (first | refine yK ?_ | (refine gO ?_; first | (refine gL ?_; refine yL 0 ?_) | refine yF ?_ | (refine sy_box rfl rfl rfl ?_; intro _)))
       refine sy_order [1, 2, 0, 3] rfl rfl ?_
       simp only [List.set_cons_zero, List.set_cons_succ, List.filterMap_cons, List.filterMap_nil, List.getElem?_cons_zero, List.getElem?_cons_succ]
       refine sy_callE (curE cb p q l _) rfl rfl rfl (hm1) ?_
       rintro _ _ ⟨rfl, rfl⟩
       simp only [curE, List.cons_append, List.nil_append]
       repeat (first | refine yK ?_ | (refine gO ?_; first | refine yP ?_ | (refine gL ?_; refine yL 2 ?_)) | refine yT ?_)
       refine sy_callE (curE cb p q l _) rfl rfl rfl (sx_label cb p q l _ hl an1.ok) ?_
       rintro _ _ ⟨x, rfl, hx, rfl⟩
       simp only [curE, List.cons_append, List.nil_append]
       refine sy_order [0, 1, 3, 4, 2] rfl rfl ?_
       simp only [List.set_cons_zero, List.set_cons_succ, List.filterMap_cons, List.filterMap_nil, List.getElem?_cons_zero, List.getElem?_cons_succ]
       repeat (first | refine yK ?_ | (refine gO ?_; first | refine yP ?_ | (refine gL ?_; refine yL 2 ?_) | (refine gS ?_; refine yS 3 ?_) | refine yF ?_))
       refine sy_callE (curE cb p q l _) rfl rfl rfl (hm2) ?_
       rintro _ _ ⟨rfl, rfl⟩
       simp only [curE, List.cons_append, List.nil_append]
       repeat (first | refine yK ?_ | (refine gO ?_; first | (refine gL ?_; refine yL 2 ?_) | refine yF ?_) | refine yN ?_)
       refine sy_callE (curE cb p q l _) rfl rfl rfl (hm3) ?_
       rintro _ _ ⟨rfl, rfl⟩
       simp only [curE, List.cons_append, List.nil_append]
       refine sy_ws0 ?_
       refine sy_order [1, 2, 3, 4, 5, 0] rfl rfl ?_
       simp only [List.set_cons_zero, List.set_cons_succ, List.filterMap_cons, List.filterMap_nil, List.getElem?_cons_zero, List.getElem?_cons_succ]
       repeat (first | refine yK ?_ | refine yN ?_)
       exact end0w rfl fun w' hw' => postE hw' _ (sub_self (sk (sk (sd sr)))) rfl ⟨rfl, x, 0, 0, 0, 0, ws0, by rw [hx]; rfl, rfl⟩
 · have h1 : isT l c 4 [64] = false := by simpa using h1
   have hm1 := cur_mark cb p q l c hl hc [64]
   rw [h1, show goT l c false = c from rfl] at hm1
   have e1 : atL l c = ([], c) := by unfold atL; rw [h1]; rfl
   by_cases h2 : isT l c 4 [35] = true
   · have hm2 := cur_mark cb p q l c hl hc [35]
     rw [h2, show goT l c true = nextT l c from if_pos rfl] at hm2
     have an2 := Adv.next hl hc
     have e2 : widP l c = (numN l (nextT l c), numCu l (nextT l c)) := if_pos h2
     have ad2 := Adv.num hl an2.ok
     by_cases h3 : isT l (numCu l (nextT l c)) 4 [126] = true
     · have hm3 := cur_mark cb p q l (numCu l (nextT l c)) hl ad2.ok [126]
       rw [h3, show goT l (numCu l (nextT l c)) true = nextT l (numCu l (nextT l c)) from if_pos rfl] at hm3
       have an3 := Adv.next hl ad2.ok
       have e3 : seeP l (numCu l (nextT l c)) = coP l (nextT l (numCu l (nextT l c))) := if_pos h3
       unfold mkP
       rw [e1]
       simp only
       rw [e2]
       simp only
       rw [e3]
       refine sy_enterE rfl rfl (fun w => ?_)
       simp only [initFr, curE, List.cons_append, List.nil_append]
       repeat (first | refine yK ?_ | (refine gO ?_; first | (refine gL ?_; refine yL 0 ?_) | refine yF ?_ | (refine sy_box rfl rfl rfl ?_; intro _)))
       refine sy_order [1, 2, 0, 3] rfl rfl ?_
       simp only [List.set_cons_zero, List.set_cons_succ, List.filterMap_cons, List.filterMap_nil, List.getElem?_cons_zero, List.getElem?_cons_succ]
       refine sy_callE (curE cb p q l _) rfl rfl rfl (hm1) ?_
       rintro _ _ ⟨rfl, rfl⟩
       simp only [curE, List.cons_append, List.nil_append]
       have hx : ws0.l = [] := rfl
       refine sy_ws0 ?_
       refine sy_order [1, 2, 3, 4, 0] rfl rfl ?_
       simp only [List.set_cons_zero, List.set_cons_succ, List.filterMap_cons, List.filterMap_nil, List.getElem?_cons_zero, List.getElem?_cons_succ]
       repeat (first | refine yK ?_ | (refine gO ?_; first | (refine gL ?_; refine yL 2 ?_) | refine yF ?_) | refine yN ?_)
       refine sy_callE (curE cb p q l _) rfl rfl rfl (hm2) ?_
       rintro _ _ ⟨rfl, rfl⟩
       simp only [curE, List.cons_append, List.nil_append]
       repeat (first | refine yK ?_ | (refine gO ?_; first | refine yP ?_ | (refine gL ?_; refine yL 2 ?_)) | refine yT ?_)
       refine sy_callE (curE cb p q l _) rfl rfl rfl (sx_number cb p q l _ hl an2.ok) ?_
       rintro _ _ ⟨rfl, rfl⟩
       simp only [curE, List.cons_append, List.nil_append]
       repeat (first | refine yK ?_ | (refine gO ?_; first | refine yP ?_ | (refine gL ?_; refine yL 2 ?_) | (refine gS ?_; refine yS 3 ?_) | refine yF ?_))
       refine sy_callE (curE cb p q l _) rfl rfl rfl (hm3) ?_
       rintro _ _ ⟨rfl, rfl⟩
       simp only [curE, List.cons_append, List.nil_append]
       repeat (first | refine yK ?_ | (refine gO ?_; first | refine yP ?_ | (refine gL ?_; refine yL 2 ?_)) | refine yT ?_)
       refine sy_callE (curE cb p q l _) rfl rfl rfl (sx_coarse cb p q l _ hl an3.ok) ?_
       rintro _ _ ⟨ck, cn, ca, y, rfl, hy, rfl⟩
       simp only [curE, List.cons_append, List.nil_append]
       refine sy_order [0, 1, 3, 4, 5, 2] rfl rfl ?_
       simp only [List.set_cons_zero, List.set_cons_succ, List.filterMap_cons, List.filterMap_nil, List.getElem?_cons_zero, List.getElem?_cons_succ]
       repeat (first | refine yK ?_ | (refine gO ?_; first | refine yP ?_ | (refine gS ?_; refine yS 3 ?_) | refine yF ?_))
       exact end0w rfl fun w' hw' => postE hw' _ (sub_self (sk (sk (sd sr)))) rfl ⟨rfl, ws0, (numN l (nextT l c)), ck, cn, ca, y, by rw [hx, hy], rfl⟩
     · have h3 : isT l (numCu l (nextT l c)) 4 [126] = false := by simpa using h3
       have hm3 := cur_mark cb p q l (numCu l (nextT l c)) hl ad2.ok [126]
       rw [h3, show goT l (numCu l (nextT l c)) false = (numCu l (nextT l c)) from rfl] at hm3
       have e3 : seeP l (numCu l (nextT l c)) = (zco, (numCu l (nextT l c))) := by unfold seeP; rw [h3]; rfl
       unfold mkP
       rw [e1]
       simp only
       rw [e2]
       simp only
       rw [e3]
       refine sy_enterE rfl rfl (fun w => ?_)
       simp only [initFr, curE, List.cons_append, List.nil_append]
       repeat (first | refine yK ?_ | (refine gO ?_; first | (refine gL ?_; refine yL 0 ?_) | refine yF ?_ | (refine sy_box rfl rfl rfl ?_; intro _)))
       refine sy_order [1, 2, 0, 3] rfl rfl ?_
       simp only [List.set_cons_zero, List.set_cons_succ, List.filterMap_cons, List.filterMap_nil, List.getElem?_cons_zero, List.getElem?_cons_succ]
       refine sy_callE (curE cb p q l _) rfl rfl rfl (hm1) ?_
       rintro _ _ ⟨rfl, rfl⟩
       simp only [curE, List.cons_append, List.nil_append]
       have hx : ws0.l = [] := rfl
       refine sy_ws0 ?_
       refine sy_order [1, 2, 3, 4, 0] rfl rfl ?_
       simp only [List.set_cons_zero, List.set_cons_succ, List.filterMap_cons, List.filterMap_nil, List.getElem?_cons_zero, List.getElem?_cons_succ]
       repeat (first | refine yK ?_ | (refine gO ?_; first | (refine gL ?_; refine yL 2 ?_) | refine yF ?_) | refine yN ?_)
       refine sy_callE (curE cb p q l _) rfl rfl rfl (hm2) ?_
       rintro _ _ ⟨rfl, rfl⟩
       simp only [curE, List.cons_append, List.nil_append]
       repeat (first | refine yK ?_ | (refine gO ?_; first | refine yP ?_ | (refine gL ?_; refine yL 2 ?_)) | refine yT ?_)
       refine sy_callE (curE cb p q l _) rfl rfl rfl (sx_number cb p q l _ hl an2.ok) ?_
       rintro _ _ ⟨rfl, rfl⟩
       simp only [curE, List.cons_append, List.nil_append]
       repeat (first | refine yK ?_ | (refine gO ?_; first | refine yP ?_ | (refine gL ?_; refine yL 2 ?_) | (refine gS ?_; refine yS 3 ?_) | refine yF ?_))
       refine sy_callE (curE cb p q l _) rfl rfl rfl (hm3) ?_
       rintro _ _ ⟨rfl, rfl⟩
       simp only [curE, List.cons_append, List.nil_append]
       refine sy_ws0 ?_
       refine sy_order [1, 2, 3, 4, 5, 0] rfl rfl ?_
       simp only [List.set_cons_zero, List.set_cons_succ, List.filterMap_cons, List.filterMap_nil, List.getElem?_cons_zero, List.getElem?_cons_succ]
       repeat (first | refine yK ?_ | refine yN ?_)
       exact end0w rfl fun w' hw' => postE hw' _ (sub_self (sk (sk (sd sr)))) rfl ⟨rfl, ws0, (numN l (nextT l c)), 0, 0, 0, ws0, by rw [hx]; rfl, rfl⟩
   · have h2 : isT l c 4 [35] = false := by simpa using h2
     have hm2 := cur_mark cb p q l c hl hc [35]
     rw [h2, show goT l c false = c from rfl] at hm2
     have e2 : widP l c = (0, c) := by unfold widP; rw [h2]; rfl
     by_cases h3 : isT l c 4 [126] = true
     · have hm3 := cur_mark cb p q l c hl hc [126]
       rw [h3, show goT l c true = nextT l c from if_pos rfl] at hm3
       have an3 := Adv.next hl hc
       have e3 : seeP l c = coP l (nextT l c) := if_pos h3
       unfold mkP
       rw [e1]
       simp only
       rw [e2]
       simp only
       rw [e3]
       refine sy_enterE rfl rfl (fun w => ?_)
       simp only [initFr, curE, List.cons_append, List.nil_append]
       repeat (first | refine yK ?_ | (refine gO ?_; first | (refine gL ?_; refine yL 0 ?_) | refine yF ?_ | (refine sy_box rfl rfl rfl ?_; intro _)))
       refine sy_order [1, 2, 0, 3] rfl rfl ?_
       simp only [List.set_cons_zero, List.set_cons_succ, List.filterMap_cons, List.filterMap_nil, List.getElem?_cons_zero, List.getElem?_cons_succ]
       refine sy_callE (curE cb p q l _) rfl rfl rfl (hm1) ?_
       rintro _ _ ⟨rfl, rfl⟩
       simp only [curE, List.cons_append, List.nil_append]
       have hx : ws0.l = [] := rfl
       refine sy_ws0 ?_
       refine sy_order [1, 2, 3, 4, 0] rfl rfl ?_
       simp only [List.set_cons_zero, List.set_cons_succ, List.filterMap_cons, List.filterMap_nil, List.getElem?_cons_zero, List.getElem?_cons_succ]
       repeat (first | refine yK ?_ | (refine gO ?_; first | (refine gL ?_; refine yL 2 ?_) | refine yF ?_) | refine yN ?_)
       refine sy_callE (curE cb p q l _) rfl rfl rfl (hm2) ?_
       rintro _ _ ⟨rfl, rfl⟩
       simp only [curE, List.cons_append, List.nil_append]
       repeat (first | refine yK ?_ | (refine gO ?_; first | (refine gL ?_; refine yL 2 ?_) | refine yF ?_) | refine yN ?_)
       refine sy_callE (curE cb p q l _) rfl rfl rfl (hm3) ?_
       rintro _ _ ⟨rfl, rfl⟩
       simp only [curE, List.cons_append, List.nil_append]
       repeat (first | refine yK ?_ | (refine gO ?_; first | refine yP ?_ | (refine gL ?_; refine yL 2 ?_)) | refine yT ?_)
       refine sy_callE (curE cb p q l _) rfl rfl rfl (sx_coarse cb p q l _ hl an3.ok) ?_
       rintro _ _ ⟨ck, cn, ca, y, rfl, hy, rfl⟩
       simp only [curE, List.cons_append, List.nil_append]
       refine sy_order [0, 1, 3, 4, 5, 2] rfl rfl ?_
       simp only [List.set_cons_zero, List.set_cons_succ, List.filterMap_cons, List.filterMap_nil, List.getElem?_cons_zero, List.getElem?_cons_succ]
       repeat (first | refine yK ?_ | (refine gO ?_; first | refine yP ?_ | (refine gS ?_; refine yS 3 ?_) | refine yF ?_))
       exact end0w rfl fun w' hw' => postE hw' _ (sub_self (sk (sk (sd sr)))) rfl ⟨rfl, ws0, 0, ck, cn, ca, y, by rw [hx, hy], rfl⟩
     · have h3 : isT l c 4 [126] = false := by simpa using h3
       have hm3 := cur_mark cb p q l c hl hc [126]
       rw [h3, show goT l c false = c from rfl] at hm3
       have e3 : seeP l c = (zco, c) := by unfold seeP; rw [h3]; rfl
       unfold mkP
       rw [e1]
       simp only
       rw [e2]
       simp only
       rw [e3]
       refine sy_enterE rfl rfl (fun w => ?_)
       simp only [initFr, curE, List.cons_append, List.nil_append]
       repeat (first | refine yK ?_ | (refine gO ?_; first | (refine gL ?_; refine yL 0 ?_) | refine yF ?_ | (refine sy_box rfl rfl rfl ?_; intro _)))
       refine sy_order [1, 2, 0, 3] rfl rfl ?_
       simp only [List.set_cons_zero, List.set_cons_succ, List.filterMap_cons, List.filterMap_nil, List.getElem?_cons_zero, List.getElem?_cons_succ]
       refine sy_callE (curE cb p q l _) rfl rfl rfl (hm1) ?_
       rintro _ _ ⟨rfl, rfl⟩
       simp only [curE, List.cons_append, List.nil_append]
       have hx : ws0.l = [] := rfl
       refine sy_ws0 ?_
       refine sy_order [1, 2, 3, 4, 0] rfl rfl ?_
       simp only [List.set_cons_zero, List.set_cons_succ, List.filterMap_cons, List.filterMap_nil, List.getElem?_cons_zero, List.getElem?_cons_succ]
       repeat (first | refine yK ?_ | (refine gO ?_; first | (refine gL ?_; refine yL 2 ?_) | refine yF ?_) | refine yN ?_)
       refine sy_callE (curE cb p q l _) rfl rfl rfl (hm2) ?_
       rintro _ _ ⟨rfl, rfl⟩
       simp only [curE, List.cons_append, List.nil_append]
       repeat (first | refine yK ?_ | (refine gO ?_; first | (refine gL ?_; refine yL 2 ?_) | refine yF ?_) | refine yN ?_)
       refine sy_callE (curE cb p q l _) rfl rfl rfl (hm3) ?_
       rintro _ _ ⟨rfl, rfl⟩
       simp only [curE, List.cons_append, List.nil_append]
       refine sy_ws0 ?_
       refine sy_order [1, 2, 3, 4, 5, 0] rfl rfl ?_
       simp only [List.set_cons_zero, List.set_cons_succ, List.filterMap_cons, List.filterMap_nil, List.getElem?_cons_zero, List.getElem?_cons_succ]
       repeat (first | refine yK ?_ | refine yN ?_)
       exact end0w rfl fun w' hw' => postE hw' _ (sub_self (sk (sk (sd sr)))) rfl ⟨rfl, ws0, 0, 0, 0, 0, ws0, by rw [hx]; rfl, rfl⟩
end
end Go.Proofs.YtldjakeigjngoaaGreat
/- Contracts of the types' readers: fields and tags. -/
namespace Go.Proofs.YtldjakeigjngoaaGreat
open Go.RowKit Bf
section
variable {P : Program} {C : Cx} {k : List It} {fr : Fr} {hp : List En}
theorem sy_prtMk (nm : WordT) (bare : Bool) (wide ck cn ca : Int) {lab cl : WsA} {z : TypA} (h : Sy P C k fr (prtE (.mk nm bare lab wide ck cn ca cl z) :: hp)) : Sy P C k fr (wsE lab :: wsE cl :: typE z :: hp) :=
 .mk fun a w ha hw => h.go a w ha ((hw.join.join).imp (fun b hb => by
  simp only [prtE, domP] at hb
  rcases hb with hb | hb | hb
  · exact .inl (.inl hb)
  · exact .inl (.inr hb)
  · exact .inr hb) (fun w hh => by
  obtain ⟨⟨h1, h2⟩, h3⟩ := hh
  simp only [prtE, PrtJ]
  exact ⟨h1, h2, h3⟩))
theorem sy_typMk (kk a lo hi most : Int) (nm : WordT) {e : TypeId} {ns : WsA} {pp : Option Addr} {cp : Nat} {parts : List PrtA} (h : Sy P C k fr (typE (.mk kk a lo hi most ns pp cp parts nm) :: hp)) : Sy P C k fr (wsE ns :: vec e 18 (.slice pp parts.length cp) parts.length (parts.flatMap prtV) :: prtsE parts :: hp) :=
 .mk fun a w ha hw => h.go a w ha ((hw.join.join).imp (fun b hb => by
  simp only [typE, domT] at hb
  rcases hb with hb | ⟨o, rfl, rfl⟩ | hb
  · exact .inl (.inl hb)
  · exact .inl (.inr rfl)
  · exact .inr hb) (fun w hh => by
  obtain ⟨⟨h1, h2⟩, h3⟩ := hh
  simp only [typE, TypJ]
  exact ⟨h1, ownsRow_le h2, holds_isSl h2, h3⟩))
theorem sy_cells (i : Nat) {b : Nat} {e : TypeId} {cs : List Value} (cs' : List Value) (hi : hp[i]? = some (blk b e cs)) (hc : cs = cs') (h : Sy P C k fr (hp.set i (blk b e cs'))) : Sy P C k fr hp := by
 subst hc
 have : hp.set i (blk b e cs) = hp := by
  apply List.ext_getElem?; intro j
  by_cases hj : i = j
  · subst hj; rw [hi]
    have hlt := (List.getElem?_eq_some_iff.1 hi).1
    rw [List.getElem?_set_self hlt]
  · rw [List.getElem?_set_ne hj]
 rw [this] at h; exact h
end
def KdS (n : Nat) : Prop := ∀ (cb : Nat) (p : Option Addr) (q : Nat) (l : List TokT) (c : CurT), TokOk l → CurOk l c → c.d + n = 24 →
 CallsE Tryz.prog 27 [prs cb] (curE cb p q l c) fun u es' => ∃ z : TypA, u = .agg ⟨typV z⟩ ∧ plT z = (kndP l n c).1 ∧ es' = curE cb p q l (kndP l n c).2 ++ [typE z]
def PrtCalls (f : FuncId) (cb : Nat) (p : Option Addr) (q : Nat) (l : List TokT) (c : CurT) (r : PrtP × CurT) : Prop :=
 CallsE Tryz.prog f [prs cb] (curE cb p q l c) fun u es' => ∃ z : PrtA, u = .agg ⟨prtV z⟩ ∧ plP z = r.1 ∧ es' = curE cb p q l r.2 ++ [prtE z]
theorem prt_pl {nm : WordT} {bare : Bool} {lab : WsA} {wide ck cn ca : Int} {cl : WsA} {z : TypA} {m : List WordT × Int × CoT} {t : TypP} (hm : (lab.l, wide, (ck, cn, ca, cl.l)) = m) (hz : plT z = t) : plP (.mk nm bare lab wide ck cn ca cl z) = .mk nm bare m.1 m.2.1 m.2.2 t := by
 subst hm hz; simp only [plP]
section
variable (cb : Nat) (p : Option Addr) (q : Nat) (l : List TokT) (c : CurT)
set_option maxRecDepth 20000 in
set_option maxHeartbeats 4000000 in
theorem sx_field (n : Nat) (hk : KdS n) (hl : TokOk l) (hc : CurOk l c) (hd : c.d + n = 24) : PrtCalls 101 cb p q l c (fldP l (kndP l n) c) := by
 have a1 := Adv.nam hl hc
 have a2 := a1.trans (Adv.need hl a1.ok [58] (by simp))
 have hkd : KdAdv l c.d (kndP l n) := knd_adv hl n c.d hd
 have a3 := a2.trans (hkd _ a2.ok a2.d)
 have hkk := hk cb p q l _ hl a2.ok (by rw [a2.d]; exact hd)
 unfold PrtCalls fldP
 simp only
 refine sy_enterE rfl rfl (fun w => ?_)
 simp only [initFr, curE, List.cons_append, List.nil_append]
 repeat (first | refine yK ?_ | (refine gO ?_; first | (refine gL ?_; refine yL 1 ?_) | (refine sy_box rfl rfl rfl ?_; intro _) | (refine yA ?_; intro _)))
 refine sy_order [2, 3, 1, 0] rfl rfl ?_
 simp only [List.set_cons_zero, List.set_cons_succ, List.filterMap_cons, List.filterMap_nil, List.getElem?_cons_zero, List.getElem?_cons_succ]
 skip
 refine sy_callE (curE cb p q l _) rfl rfl rfl (sx_name cb p q l c hl hc) ?_
 rintro _ _ ⟨rfl, rfl⟩
 simp only [curE, List.cons_append, List.nil_append]
 repeat (first | refine yK ?_ | (refine gO ?_; first | (refine gL ?_; refine yL 3 ?_) | (refine gS ?_; refine yS 0 ?_) | refine yF ?_ | refine yB ?_ | (refine yA ?_; intro _)))
 rename_i xb
 refine sy_cells 0 (prtC (namW l c) false ws0 0 0 0 0 ws0 (typV (typ0 0))) rfl rfl ?_
 refine sy_order [1, 2, 0, 3, 4] rfl rfl ?_
 simp only [List.set_cons_zero, List.set_cons_succ, List.filterMap_cons, List.filterMap_nil, List.getElem?_cons_zero, List.getElem?_cons_succ]
 skip
 refine sy_callE (curE cb p q l _) rfl rfl rfl (cur_need cb p q l _ hl a1.ok [58]) ?_
 rintro _ _ ⟨rfl, rfl⟩
 simp only [curE, List.cons_append, List.nil_append]
 repeat (first | refine yK ?_ | (refine gO ?_; (refine gL ?_; refine yL 3 ?_)))
 refine sy_callE (curE cb p q l _) rfl rfl rfl hkk ?_
 rintro _ _ ⟨z, rfl, hz, rfl⟩
 obtain ⟨zk, za, zlo, zhi, zmo, zns, zpp, zcp, zparts, znm⟩ := z
 simp only [curE, List.cons_append, List.nil_append]
 repeat (first | refine yK ?_ | (refine gO ?_; first | (refine gL ?_; refine yL 4 ?_) | (refine gS ?_; refine yS 3 ?_) | refine yF ?_))
 refine sy_cells 3 (prtC (namW l c) false ws0 0 0 0 0 ws0 (typV (.mk zk za zlo zhi zmo zns zpp zcp zparts znm))) rfl rfl ?_
 refine sy_order [0, 1, 3, 2, 4, 5] rfl rfl ?_
 simp only [List.set_cons_zero, List.set_cons_succ, List.filterMap_cons, List.filterMap_nil, List.getElem?_cons_zero, List.getElem?_cons_succ]
 refine sy_callE (curE cb p q l _ ++ [blk xb 82 (prtC (namW l c) false ws0 0 0 0 0 ws0 (typV (.mk zk za zlo zhi zmo zns zpp zcp zparts znm)))]) rfl rfl rfl (sx_marks cb p q l _ xb (namW l c) false zk za zlo zhi zmo zns zpp zcp zparts znm hl a3.ok) ?_
 rintro _ _ ⟨rfl, lab, wide, ck, cn, ca, cl, hm, rfl⟩
 simp only [curE, List.cons_append, List.nil_append]
 refine sy_order [3, 4, 5, 0, 1, 2, 6, 7] rfl rfl ?_
 simp only [List.set_cons_zero, List.set_cons_succ, List.filterMap_cons, List.filterMap_nil, List.getElem?_cons_zero, List.getElem?_cons_succ]
 refine sy_prtMk (namW l c) false wide ck cn ca ?_
 refine sy_order [1, 2, 3, 0, 5, 4] rfl rfl ?_
 simp only [List.set_cons_zero, List.set_cons_succ, List.filterMap_cons, List.filterMap_nil, List.getElem?_cons_zero, List.getElem?_cons_succ]
 repeat (first | refine yK ?_ | (refine gO ?_; first | (refine gL ?_; refine yL 2 ?_) | (refine gS ?_; refine yS 4 ?_)) | refine sy_rt ?_)
 exact ret1cw 4 rfl rfl rfl rfl rfl fun w' hw' => postE hw' _ (sub_self (sk (sk (sd (sk (List.nil_sublist _)))))) rfl ⟨.mk (namW l c) false lab wide ck cn ca cl (.mk zk za zlo zhi zmo zns zpp zcp zparts znm), rfl, prt_pl hm hz, rfl⟩
set_option maxRecDepth 20000 in
set_option maxHeartbeats 4000000 in
theorem sx_tag (n : Nat) (hk : KdS n) (hl : TokOk l) (hc : CurOk l c) (hd : c.d + n = 24) : PrtCalls 102 cb p q l c (tagP l (kndP l n) c) := by
 have a1 := Adv.nam hl hc
 have hkd : KdAdv l c.d (kndP l n) := knd_adv hl n c.d hd
 have hm4 := cur_mark cb p q l _ hl a1.ok [40]
 unfold PrtCalls tagP
 by_cases hb : isT l (namCu l c) 4 [40] = true
 · rw [if_pos hb]
   rw [hb, show goT l (namCu l c) true = nextT l (namCu l c) from if_pos rfl] at hm4
   have a2 := a1.trans (Adv.next hl a1.ok)
   have a3 := a2.trans (hkd _ a2.ok a2.d)
   have a4 := a3.trans (Adv.need hl a3.ok [41] (by simp))
   have hkk := hk cb p q l _ hl a2.ok (by rw [a2.d]; exact hd)
   simp only
   refine sy_enterE rfl rfl (fun w => ?_)
   simp only [initFr, curE, List.cons_append, List.nil_append]
   repeat (first | refine yK ?_ | (refine gO ?_; first | (refine gL ?_; refine yL 1 ?_) | (refine sy_box rfl rfl rfl ?_; intro _) | (refine yA ?_; intro _)))
   refine sy_order [2, 3, 1, 0] rfl rfl ?_
   simp only [List.set_cons_zero, List.set_cons_succ, List.filterMap_cons, List.filterMap_nil, List.getElem?_cons_zero, List.getElem?_cons_succ]
   skip
   refine sy_callE (curE cb p q l _) rfl rfl rfl (sx_name cb p q l c hl hc) ?_
   rintro _ _ ⟨rfl, rfl⟩
   simp only [curE, List.cons_append, List.nil_append]
   repeat (first | refine yK ?_ | (refine gO ?_; first | (refine gL ?_; refine yL 3 ?_) | (refine gS ?_; refine yS 0 ?_) | refine yF ?_ | refine yB ?_ | (refine yA ?_; intro _)))
   rename_i xb
   refine sy_cells 0 (prtC (namW l c) false ws0 0 0 0 0 ws0 (typV (typ0 0))) rfl rfl ?_
   refine sy_order [1, 2, 0, 3, 4] rfl rfl ?_
   simp only [List.set_cons_zero, List.set_cons_succ, List.filterMap_cons, List.filterMap_nil, List.getElem?_cons_zero, List.getElem?_cons_succ]
   skip
   refine sy_callE (curE cb p q l _) rfl rfl rfl (hm4) ?_
   rintro _ _ ⟨rfl, rfl⟩
   simp only [curE, List.cons_append, List.nil_append]
   repeat (first | refine yK ?_ | (refine gO ?_; first | refine yP ?_ | (refine gL ?_; refine yL 3 ?_)) | refine yN ?_)
   refine sy_callE (curE cb p q l _) rfl rfl rfl hkk ?_
   rintro _ _ ⟨z, rfl, hz, rfl⟩
   obtain ⟨zk, za, zlo, zhi, zmo, zns, zpp, zcp, zparts, znm⟩ := z
   simp only [curE, List.cons_append, List.nil_append]
   repeat (first | refine yK ?_ | (refine gO ?_; first | (refine gL ?_; refine yL 4 ?_) | (refine gS ?_; refine yS 3 ?_) | refine yF ?_))
   refine sy_cells 3 (prtC (namW l c) false ws0 0 0 0 0 ws0 (typV (.mk zk za zlo zhi zmo zns zpp zcp zparts znm))) rfl rfl ?_
   refine sy_callE (curE cb p q l _) rfl rfl rfl (cur_need cb p q l _ hl a3.ok [41]) ?_
   rintro _ _ ⟨rfl, rfl⟩
   simp only [curE, List.cons_append, List.nil_append]
   repeat (first | refine yK ?_ | (refine gO ?_; (refine gL ?_; refine yL 4 ?_)))
   refine sy_order [0, 1, 3, 2, 4, 5] rfl rfl ?_
   simp only [List.set_cons_zero, List.set_cons_succ, List.filterMap_cons, List.filterMap_nil, List.getElem?_cons_zero, List.getElem?_cons_succ]
   refine sy_callE (curE cb p q l _ ++ [blk xb 82 (prtC (namW l c) false ws0 0 0 0 0 ws0 (typV (.mk zk za zlo zhi zmo zns zpp zcp zparts znm)))]) rfl rfl rfl (sx_marks cb p q l _ xb (namW l c) false zk za zlo zhi zmo zns zpp zcp zparts znm hl a4.ok) ?_
   rintro _ _ ⟨rfl, lab, wide, ck, cn, ca, cl, hm, rfl⟩
   simp only [curE, List.cons_append, List.nil_append]
   refine sy_order [3, 4, 5, 0, 1, 2, 6, 7] rfl rfl ?_
   simp only [List.set_cons_zero, List.set_cons_succ, List.filterMap_cons, List.filterMap_nil, List.getElem?_cons_zero, List.getElem?_cons_succ]
   refine sy_prtMk (namW l c) false wide ck cn ca ?_
   refine sy_order [1, 2, 3, 0, 5, 4] rfl rfl ?_
   simp only [List.set_cons_zero, List.set_cons_succ, List.filterMap_cons, List.filterMap_nil, List.getElem?_cons_zero, List.getElem?_cons_succ]
   repeat (first | refine yK ?_ | (refine gO ?_; first | (refine gL ?_; refine yL 2 ?_) | (refine gS ?_; refine yS 4 ?_)) | refine sy_rt ?_)
   exact ret1cw 4 rfl rfl rfl rfl rfl fun w' hw' => postE hw' _ (sub_self (sk (sk (sd (sk (List.nil_sublist _)))))) rfl ⟨.mk (namW l c) false lab wide ck cn ca cl (.mk zk za zlo zhi zmo zns zpp zcp zparts znm), rfl, prt_pl hm hz, rfl⟩
 · rw [if_neg hb]
   have hb : isT l (namCu l c) 4 [40] = false := by simpa using hb
   rw [hb, show goT l (namCu l c) false = namCu l c from rfl] at hm4
   refine sy_enterE rfl rfl (fun w => ?_)
   simp only [initFr, curE, List.cons_append, List.nil_append]
   repeat (first | refine yK ?_ | (refine gO ?_; first | (refine gL ?_; refine yL 1 ?_) | (refine sy_box rfl rfl rfl ?_; intro _) | (refine yA ?_; intro _)))
   refine sy_order [2, 3, 1, 0] rfl rfl ?_
   simp only [List.set_cons_zero, List.set_cons_succ, List.filterMap_cons, List.filterMap_nil, List.getElem?_cons_zero, List.getElem?_cons_succ]
   skip
   refine sy_callE (curE cb p q l _) rfl rfl rfl (sx_name cb p q l c hl hc) ?_
   rintro _ _ ⟨rfl, rfl⟩
   simp only [curE, List.cons_append, List.nil_append]
   repeat (first | refine yK ?_ | (refine gO ?_; first | (refine gL ?_; refine yL 3 ?_) | (refine gS ?_; refine yS 0 ?_) | refine yF ?_ | refine yB ?_ | (refine yA ?_; intro _)))
   rename_i xb
   refine sy_cells 0 (prtC (namW l c) false ws0 0 0 0 0 ws0 (typV (typ0 0))) rfl rfl ?_
   refine sy_order [1, 2, 0, 3, 4] rfl rfl ?_
   simp only [List.set_cons_zero, List.set_cons_succ, List.filterMap_cons, List.filterMap_nil, List.getElem?_cons_zero, List.getElem?_cons_succ]
   skip
   refine sy_callE (curE cb p q l _) rfl rfl rfl (hm4) ?_
   rintro _ _ ⟨rfl, rfl⟩
   simp only [curE, List.cons_append, List.nil_append]
   refine sy_typ0 0 ?_
   refine sy_ws0 ?_
   refine sy_ws0 ?_
   refine sy_order [0, 1, 2, 3, 4, 5, 6, 7] rfl rfl ?_
   simp only [List.set_cons_zero, List.set_cons_succ, List.filterMap_cons, List.filterMap_nil, List.getElem?_cons_zero, List.getElem?_cons_succ]
   refine sy_prtMk (namW l c) true 0 0 0 0 ?_
   refine sy_order [1, 2, 3, 5, 0, 4] rfl rfl ?_
   simp only [List.set_cons_zero, List.set_cons_succ, List.filterMap_cons, List.filterMap_nil, List.getElem?_cons_zero, List.getElem?_cons_succ]
   repeat (first | refine yK ?_ | (refine gO ?_; first | refine yP ?_ | (refine gL ?_; refine yL 2 ?_) | (refine gS ?_; first | refine yS 2 ?_ | refine yS 3 ?_) | refine yF ?_) | refine yT ?_ | refine sy_rt ?_)
   exact ret1cw 3 rfl rfl rfl rfl rfl fun w' hw' => postE hw' _ (sub_self (sk (sk (sd (sd (sk (List.nil_sublist _))))))) rfl ⟨.mk (namW l c) true ws0 0 0 0 0 ws0 (typ0 0), rfl, by simp only [plP, typ0, plT, plPs]; rfl, rfl⟩
end
end Go.Proofs.YtldjakeigjngoaaGreat